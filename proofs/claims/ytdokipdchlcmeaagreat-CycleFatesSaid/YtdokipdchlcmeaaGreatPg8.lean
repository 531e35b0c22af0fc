/-
  Several texts in one, for one claim (printed by pack.py).
-/
import Derived.Test.YtdokipdchlcmeaaGreatPg7
import Derived.WalkMore
set_option linter.all false
set_option maxRecDepth 100000
set_option maxHeartbeats 12800000
open And renaming intro→kT
open Array renaming getElem?_eq_some_iff→fW
open Bool renaming true→aO,false→aP
open Go renaming World→aJ,Value→aN,Calls→aQ,Addr→aj,cell_of_row→bH,maxLen→bM,TypeId→bY,heap_alloc_new→cO,info_parts→dL,Ending→dU,rounds_succ→eC,wpList_append_own→j9,wpAnyH_take→js,wpAnyH_ready→pW,wp_loop_rounds→ug,step_append_lies→AW,wpAnyH_done→Nv
open Go.AllReadyH renaming cons→ma,nil→oV
open Go.Calls renaming mono→tY
open Go.Ending renaming returned→aT
open Go.Exit renaming noGoto_ret→a8j
open Go.IntKind renaming i64→aF,wrap_i64→fZ
open Go.Lib renaming compact→sU
open Go.Obj renaming cells→aK
open Go.Proofs renaming intOf→ag
open Go.Proofs.Tryz renaming prog→aM,underlying53→mP,underlying39→sZ,underlying46→yO,underlying272→Gg,func179→a0b,ntmps179→a0v,func137→aAe,func142→aAf,func28→aAy,func65→aB8,func70→aB9,ntmps137→aBR,ntmps142→aBS,ntmps28→aBk,ntmps65→aBu,ntmps70→aBv
open Go.RowKit renaming Below→aa,wrap64→fS
open Go.RowKit.Below renaming refl→aX,size→gT,trans→jt,heap_setCell→nK,alloc→rC
open Go.Value renaming int→aG,slice→aH,tuple→bB,pointer→bF,bool→bJ,agg→bU,ownBlock→dy
open Go.World renaming ownsRow_nil→gC,cell?_of_block→gh,frozen?→iJ,ownsRow→jw,grownBy_alloc→Gk
open Int renaming le_trans→ju,mul_le_mul_of_nonneg_right→La
open List renaming length→aA,getElem_mem→cK,length_append→cN,take_length→cT,range→dQ,mem_map→dW,map_append→df,mem_cons→fC,take_succ_eq_append_getElem→fE,mem_append→gJ,length_map→iR,any_eq_true→jv,pairwise_cons→kX,eq_nil_of_length_eq_zero→nO,mem_range→nP,length_filter_le→qd,mem_iff_getElem→sW,length_cons→uF,length_singleton→uG,length_take→uz,getElem_map→wk,any_eq_false→zO,drop_eq_getElem_cons→Ja,mergeSort_perm→a0H
open List.Pairwise renaming nil→U5,sublist→aMM
open Nat renaming le_refl→aZ,zero_le→bL,le_trans→bz,lt_of_lt_of_le→cP
open Option renaming none→aB,some→aC
open Option.some renaming inj→pE
open Or renaming inl→aS
namespace Go.Proofs.YtdokipdchlcmeaaGreat
open Go.Proofs.Tryz Go.RowKit
def gw(D:Dk)(n:Nat):List Int:=(dQ n).map λ(i:Nat)=>balA (aA D.x.ms) (aA D.x.ss+1) D.l 8 ((i:Int)+1) 0
def iF(D:Dk)(n:Nat):List Int:=(dQ n).map λ(i:Nat)=>balA (aA D.x.ms) (aA D.x.ss+1) D.l 9 ((i:Int)+1) 0
theorem aE9(D:Dk)(n:Nat):gw D (n+1)=gw D n++ [balA (aA D.x.ms) (aA D.x.ss+1) D.l 8 ((n:Int)+1) 0]:=by unfold gw;rw [List.range_succ,df];rfl
theorem aFi(D:Dk)(n:Nat):iF D (n+1)=iF D n++ [balA (aA D.x.ms) (aA D.x.ss+1) D.l 9 ((n:Int)+1) 0]:=by unfold iF;rw [List.range_succ,df];rfl
theorem pI(D:Dk)(n:Nat):aA (gw D n)=n:=by simp [gw]
theorem vM(D:Dk)(n:Nat):aA (iF D n)=n:=by simp [iF]
structure ld(w:aJ)(bR bp:Nat)(cv fv:aN)(co fu:List Int)(li ca:Int)(W:aJ):Prop where
 bl:β w W
 rb:W.heap[bR]? =aC (aK #[aH aB 0 0,aH aB 0 0,ν 0,ν 0] 193 (0,0))
 pb:W.heap[bp]? =aC (aK #[cv,fv,ν li,ν ca] 193 (0,0))
 co:W.ownsRow w.heap.size 2 1 cv (aA co) (co.map (aG aF))
 fo:W.ownsRow w.heap.size 2 1 fv (aA fu) (fu.map (aG aF))
 ap:∀k,cv.ownBlock=aC k->fv.ownBlock≠aC k
 ne:bR≠bp
 zr:w.heap.size<=bR
 zp:w.heap.size<=bp
theorem ld.below {w:aJ} {bR bp:Nat} {cv fv:aN} {co fu:List Int} {li ca:Int} {W W':aJ}(h:ld w bR bp cv fv co fu li ca W)(hb:aa W.heap.size W W'):ld w bR bp cv fv co fu li ca W':=
 ⟨h.bl.trans (hb.mono h.bl.size),(hb.block _ (fW.1 h.rb).1).trans h.rb,(hb.block _ (fW.1 h.pb).1).trans h.pb,iA h.co hb,iA h.fo hb,h.ap,h.ne,h.zr,h.zp⟩
theorem ld.lp {w:aJ} {bR bp:Nat} {cv fv:aN} {co fu:List Int} {li ca:Int} {W:aJ}(h:ld w bR bp cv fv co fu li ca W):bp<W.heap.size:=(fW.1 h.pb).1
theorem ld.lr {w:aJ} {bR bp:Nat} {cv fv:aN} {co fu:List Int} {li ca:Int} {W:aJ}(h:ld w bR bp cv fv co fu li ca W):bR<W.heap.size:=(fW.1 h.rb).1
theorem Ec {B:Nat} {w W W':aJ} {r:Option Nat}(h:aa B w W)(hg:W.grownBy W' r)(hr:∀k,r=aC k->B<=k)(hB:B<=W.heap.size):aa B w W':=
 ⟨hg.os.trans h.os,hg.tape.trans h.tape,hg.output.trans h.output,bz h.size hg.size,λk hk=>(hg.block k (cP hk hB) (λe=>by have:=hr k e.symm;omega)).trans (h.block k hk)⟩
theorem uK {B:Nat} {w W:aJ} {b i:Nat}(u:aN)(h:aa B w W)(hb:B<=b):aa B w (W.setCell ⟨b,i,aB⟩ u):=
 ⟨h.os,h.tape,h.output,by simpa using h.size,λk hk=>(nK _ _ _ _ (λe=>by subst e;omega)).trans (h.block k hk)⟩
theorem ld.aJe {w:aJ} {bR bp:Nat} {cv fv:aN} {co fu:List Int} {li ca x:Int} {W W':aJ} {g cap n:Nat}(h:ld w bR bp cv fv co fu li ca W)(hg:W.grownBy W' cv.ownBlock)(ho:W'.ownsRow w.heap.size 2 1 (aH (aC ⟨g,0,aB⟩) n cap) n ((co++ [x]).map (aG aF)))(hn:n=aA (co++ [x]))(hat:cv.ownBlock=aC g\/W.heap.size<=g):ld w bR bp (aH (aC ⟨g,0,aB⟩) n cap) fv (co++ [x]) fu li ca (W'.setCell ⟨bp,0,aB⟩ (aH (aC ⟨g,0,aB⟩) n cap)):=by
 have hb1:=gM h.co h.pb (by decide);have hb2:=gM h.co h.rb (by decide);have IA:=(hg.block bp h.lp (λe=>hb1 e.symm)).trans h.pb;have KJ:=(hg.block bR h.lr (λe=>hb2 e.symm)).trans h.rb;have hbl:=Ec h.bl hg (λk hk=>(h.co.lt k hk).1) h.bl.size;have hfo:=h.fo.kept hg (by
  cases hf:fv.ownBlock with
  |none=>exact .inl rfl
  |some k=>exact .inr (λe=>h.ap k e.symm hf))
 subst hn;refine⟨uK _ hbl h.zp,(nK _ _ _ _ h.ne).trans KJ,(lf IA 0 _).trans rfl,kF ho (gM ho IA (by decide)) _,kF hfo (gM hfo IA (by decide)) _, ?_,h.ne,h.zr,h.zp⟩;intro k hk hf;have e:g=k:=by simpa [dy] using hk
 subst e;rcases hat with hat|hat
 ·exact h.ap g hat hf
 have:=(h.fo.lt g hf).2;omega
theorem ld.aJf {w:aJ} {bR bp:Nat} {cv fv:aN} {co fu:List Int} {li ca x:Int} {W W':aJ} {g cap n:Nat}(h:ld w bR bp cv fv co fu li ca W)(hg:W.grownBy W' fv.ownBlock)(ho:W'.ownsRow w.heap.size 2 1 (aH (aC ⟨g,0,aB⟩) n cap) n ((fu++ [x]).map (aG aF)))(hn:n=aA (fu++ [x]))(hat:fv.ownBlock=aC g\/W.heap.size<=g):ld w bR bp cv (aH (aC ⟨g,0,aB⟩) n cap) co (fu++ [x]) li ca (W'.setCell ⟨bp,1,aB⟩ (aH (aC ⟨g,0,aB⟩) n cap)):=by
 have hb1:=gM h.fo h.pb (by decide);have hb2:=gM h.fo h.rb (by decide);have IA:=(hg.block bp h.lp (λe=>hb1 e.symm)).trans h.pb;have KJ:=(hg.block bR h.lr (λe=>hb2 e.symm)).trans h.rb;have hbl:=Ec h.bl hg (λk hk=>(h.fo.lt k hk).1) h.bl.size;have qu:=h.co.kept hg (by
  cases hf:cv.ownBlock with
  |none=>exact .inl rfl
  |some k=>exact .inr (λe=>h.ap k hf e.symm))
 subst hn;refine⟨uK _ hbl h.zp,(nK _ _ _ _ h.ne).trans KJ,(lf IA 1 _).trans rfl,kF qu (gM qu IA (by decide)) _,kF ho (gM ho IA (by decide)) _, ?_,h.ne,h.zr,h.zp⟩;intro k hk hf;have e:g=k:=by simpa [dy] using hf
 subst e;rcases hat with hat|hat
 ·exact h.ap g hk hat
 have:=(h.co.lt g hk).2;omega
theorem Ia {w:aJ} {base:Nat} {A:Option aj} {n c m:Nat} {e:bY} {xs:List aN}(h:w.ownsRow base e m (aH A n c) n xs)(hA:A=aB):n=0/\c=0:=by
 rcases h.2 with⟨h1,h2⟩|⟨g,cap,cur,h1,_⟩
 ·injection h1 with h3 h4 h5;exact⟨h4,h5⟩
 rw [hA] at h1;injection h1 with h3;cases h3
structure P8(w:aJ)(bR:Nat)(cv fv:aN)(co fu:List Int)(W:aJ):Prop where
 bl:β w W
 co:W.ownsRow w.heap.size 2 1 cv (aA co) (co.map (aG aF))
 fo:W.ownsRow w.heap.size 2 1 fv (aA fu) (fu.map (aG aF))
 n1:cv.ownBlock≠aC bR
 n2:fv.ownBlock≠aC bR
 zr:w.heap.size<=bR
theorem ld.res {w:aJ} {bR bp:Nat} {cv fv:aN} {co fu:List Int} {li ca:Int} {W:aJ}(h:ld w bR bp cv fv co fu li ca W):P8 w bR cv fv co fu W:=
 ⟨h.bl,h.co,h.fo,gM h.co h.rb (by decide),gM h.fo h.rb (by decide),h.zr⟩
theorem P8.set {w:aJ} {bR:Nat} {cv fv:aN} {co fu:List Int} {W:aJ}(h:P8 w bR cv fv co fu W)(i:Nat)(u:aN):P8 w bR cv fv co fu (W.setCell ⟨bR,i,aB⟩ u):=
 ⟨uK _ h.bl h.zr,kF h.co h.n1 _,kF h.fo h.n2 _,h.n1,h.n2,h.zr⟩
def a8z(D:Dk)(w:aJ)(e:dU)(w':aJ):Prop:=∃P:cB,e=aT P.val/\P.co=gw D (aA D.x.ms)/\P.fu=iF D (aA D.x.ms)/\P.line=balA (aA D.x.ms) (aA D.x.ss+1) D.l 3 0 0/\P.cap=balA (aA D.x.ms) (aA D.x.ss+1) D.l 4 0 0/\Cn w' P/\aa w.heap.size w w'
theorem a2o(db:Nat)(p:Dp)(D:Dk)(w:aJ)(H:bW w db p D)(hm:aA D.x.ms<=100000):
 aQ aM 128 #[π db] w (a8z D w):=by
 have ew:=η (λW (hW:β w W) k m (hk:aL k) (hm:aL m)=>zk db p D k m 0 W (H.below hW) hk hm);have nz:=η (λW m=>za m W);have HC:=η (λW (hW:β w W)=>(H.below hW).cells.c0);clear H;have mL:Hid (β w (w.alloc (aK #[aH aB 0 0,aH aB 0 0,ν 0,ν 0] 193))):=η σ;have uC:Hid ((w.alloc (aK #[aH aB 0 0,aH aB 0 0,ν 0,ν 0] 193)).heap[w.heap.size]? =aC (aK #[aH aB 0 0,aH aB 0 0,ν 0,ν 0] 193 (0,0))):=η (cO w _);have hz0:w.heap.size<(w.alloc (aK #[aH aB 0 0,aH aB 0 0,ν 0,ν 0] 193)).heap.size:=by simp
 obtain⟨i0,bu,ru,ry,rz⟩:=dL Ui;go_enter func128,ntmps128
 go_upto_region 1 with (fail)
 generalize w.alloc (aK #[aH aB 0 0,aH aB 0 0,ν 0,ν 0] 193)=w0 at*;obtain⟨bR,Vj⟩:∃bR,bR=w.heap.size:=⟨_,rfl⟩;have Kr:=η Vj;rw [<-Vj] at uC hz0 ⊢;clear Vj;have um:=η (ew.o w0 mL.o 3 0 (by decide) (by decide));obtain⟨li,WQ⟩:∃li,li=balA (aA D.x.ms) (aA D.x.ss+1) D.l 3 0 0:=⟨_,rfl⟩;obtain⟨ca,qp⟩:∃ca,ca=balA (aA D.x.ms) (aA D.x.ss+1) D.l 4 0 0:=⟨_,rfl⟩;rw [<-WQ] at um;have CT:=η (λW (hW:β w W)=>ew.o W hW 4 0 (by decide) (by decide));rw [<-qp] at CT;have JF:=η WQ;have CG:=η qp;clear WQ qp;go_upto_region 2 with (go_at_call 46;first|(with_reducible refine tY um.o ?_;rintro e w1 ⟨rfl,hb1⟩;have yI:=τ mL hb1;have lN:=η ((hb1.block bR hz0).trans uC.o);have hz1:=cP hz0 hb1.size;clear hb1 um)|(with_reducible refine tY (CT.o _ yI.o) ?_;rintro e w2 ⟨rfl,hb2⟩;have gB:=τ yI hb2;have px:=η ((hb2.block bR hz1).trans lN.o);have hz2:=cP hz1 hb2.size;clear hb2 CT mL yI uC lN hz0 hz1))
 have iX:Hid (ld w bR w2.heap.size (aH aB 0 0) (aH aB 0 0) [] [] li ca (w2.alloc (aK #[aH aB 0 0,aH aB 0 0,ν li,ν ca] 193))):=η ⟨gB.o.trans ((aX _ _).alloc gB.o.size _),(fF w2 _ hz2).trans px.o,cO w2 _,gC _ _ _ _,gC _ _ _ _,by intro k hk;simp [dy] at hk,by have:=Kr.o;omega,by have:=Kr.o;omega,gB.o.size⟩;clear gB px;generalize w2.alloc (aK #[aH aB 0 0,aH aB 0 0,ν li,ν ca] 193)=w3 at*;obtain⟨bp,Vm⟩:∃bp,bp=w2.heap.size:=⟨_,rfl⟩;rw [<-Vm] at iX ⊢;clear Vm hz2;have c0:=HC.o _ iX.o.bl;generalize hM:aA D.x.ms=M at*;go_upto_region 3 with (fail)
 go_loopw [4,18] (λ_ i wr=>∃k:Nat,∃cv fv,k<=M/\i=ν (k:Int)/\Hid (ld w bR bp cv fv (gw D k) (iF D k) li ca wr)) (λ_ i _=>M-(ag i).toNat)
 case atStart=>exact⟨0,_,_,bL _,rfl,iX⟩
 case round=>
  clear iX c0;obtain⟨k,cv,fv,hk,rfl,HP⟩:=hrel;by_cases hlt:k<M
  ·have eY:(0:Int)<=(k:Int):=by omega
   have hkb:(k:Int)<(M:Int):=by omega
   obtain⟨A1,c1,AH⟩:=bK HP.o.co;obtain⟨A2,c2,hv2⟩:=bK HP.o.fo;subst AH hv2;rw [pI,vM] at HP;have F4:aL ((k:Int)+1):=by unfold aL;omega
   have OI:=η F4;have BW:aF.wrap ((k:Int)+1)=(k:Int)+1:=by rw [fZ];omega
   clear F4;go_upto_region 5 with (fail)
   have d0:wr.drew.cell? ⟨bp,0,aB⟩=aC (aH A1 k c1):=ρ HP.o.pb;have CV:Hid (ld w bR bp (aH A1 k c1) (aH A2 k c2) (gw D k) (iF D k) li ca wr.drew):=η (HP.o.below (aX _ _).drew);clear HP;refine Ir (S:=λW=>W.cell? ⟨bp,0,aB⟩=aC (aH A1 k c1)) 10 (by kernel_rfl) d0 (λhHeld=> ?_);have bO:Hid (∀W,ld w bR bp (aH A1 k c1) (aH A2 k c2) (gw D k) (iF D k) li ca W->W.cell? ⟨bp,0,aB⟩=aC (aH A1 k c1)):=η (λW h=>ρ h.pb);clear d0;generalize wr.drew=w5 at*;refine eE (i:=0) (v:=π bp) rfl (by kernel_rfl) (by kernel_rfl) (by kernel_rfl) (by kernel_rfl) (by kernel_rfl) (λ_ _ _ h=>h) (aS ⟨by rfl,λw' hSw=>by have s0:=hSw;go_simp⟩) hHeld ?_;refine eE (i:=1) (v:=aH A1 k c1) rfl (by kernel_rfl) (by kernel_rfl) (by kernel_rfl) (by kernel_rfl) (by kernel_rfl) (λ_ _ _ h=>h) (aS ⟨by rfl,λw' hSw=>by have s0:=hSw;go_simp⟩) hHeld ?_;refine eE (i:=2) (v:=π db) rfl (by kernel_rfl) (by kernel_rfl) (by kernel_rfl) (by kernel_rfl) (by kernel_rfl) (λ_ _ _ h=>h) (aS ⟨by rfl,λw' hSw=>by have s0:=hSw;go_simp⟩) hHeld ?_;refine eE (i:=3) (v:=ν (k:Int)) rfl (by kernel_rfl) (by kernel_rfl) (by kernel_rfl) (by kernel_rfl) (by kernel_rfl) (λ_ _ _ h=>h) (aS ⟨by rfl,λw' hSw=>by have s0:=hSw;go_simp⟩) hHeld ?_;refine eE (i:=4) (v:=ν ((k:Int)+1)) rfl (by kernel_rfl) (by kernel_rfl) (by kernel_rfl) (by kernel_rfl) (by kernel_rfl) (λ_ _ _ h=>h) (aS ⟨by rfl,λw' hSw=>by have s0:=hSw;go_simp⟩) hHeld ?_;clear hHeld;refine nw (rs:= [5]) (by kernel_rfl) (by simp) ?_;refine ei.cons rfl (λK hK=> ?_) ei.nil;go_simp
   refine(nz.o _ _).mono ?_;rintro e w6 ⟨rfl,iT⟩;have Oa:=η (CV.o.below iT);clear iT CV;refine hK.o _ _ (λ_=>bO.o _ Oa.o) (λ_=> ?_);clear hK K;refine nw (rs:= [6]) (by kernel_rfl) (by simp) ?_;refine ei.cons rfl (λK hK=> ?_) ei.nil;go_simp
   refine(ew.o _ Oa.o.bl 8 _ (by decide) OI.o).mono ?_;rintro e w7 ⟨rfl,fh⟩;have gA:=η (Oa.o.below fh);clear fh Oa;refine hK.o _ _ (λ_=>bO.o _ gA.o) (λ_=> ?_);clear hK K;have Fo:=η (aE9 D k);rw [hM] at Fo;generalize balA M (aA D.x.ss+1) D.l 8 ((k:Int)+1) 0=bv at*;refine nw (rs:= [7]) (by kernel_rfl) (by simp) ?_;refine ei.cons rfl (λK hK=> ?_) ei.nil;go_simp
   have dw:Hid (ld w bR bp (aH A1 k c1) (aH A2 k c2) (gw D k) (iF D k) li ca (w7.alloc (aK #[ν bv] 2))):=η (gA.o.below σ);have LI:Hid (∀j u,([ν bv]:List aN)[j]? =aC u->(w7.alloc (aK #[ν bv] 2)).cell? ((⟨w7.heap.size,0,aB⟩:aj).add j)=aC u):=η (dN w7 2 #[ν bv] rfl);refine hK.o _ _ (λ_=>bO.o _ dw.o) (λ_=> ?_);clear hK K gA;generalize (w7.alloc (aK #[ν bv] 2))=w8 at*;refine nw (rs:= [8]) (by kernel_rfl) (by simp) ?_;refine ei.cons rfl (λK hK=> ?_) ei.nil;have qV:=dw.o.co;rw [pI] at qV;refine AW _ rfl (.tmp 22) (.tmp 28) 53 rfl w.heap.size 2 i0 _ 1 8 mP bu ru ry rz rfl (by decide) _ k ((gw D k).map (aG aF)) rfl qV ⟨w7.heap.size,0,aB⟩ 1 1 [ν bv] rfl rfl LI.o xh (by decide) (by simp only [bM];omega) (by omega) dw.o.bl.size w8.heap.size rfl ?_;clear qV;intro g cap w9 hown hgr hat _;have rJ:Hid (∀v,v=aH (aC ⟨g,0,aB⟩) (k+1) cap->ld w bR bp v (aH A2 k c2) (gw D (k+1)) (iF D k) li ca (w9.setCell ⟨bp,0,aB⟩ v)):=η (by rintro v rfl;rw [Fo.o];exact dw.o.aJe hgr (by rw [df];exact hown) (by simp [pI]) (hat.imp id (λe=>by omega)));have xO:w9.cell? ⟨bp,0,aB⟩=aC (aH A1 k c1):=by have hn:(aH A1 k c1).ownBlock≠aC bp:=gM dw.o.co dw.o.pb (by decide);exact bH _ _ _ _ _ (0,0) ((hgr.block bp dw.o.lp (λe=>hn e.symm)).trans dw.o.pb)
   have K9:w9.frozen? ⟨bp,0,aB⟩=aP:=by have hn:(aH A1 k c1).ownBlock≠aC bp:=gM dw.o.co dw.o.pb (by decide);have hb:=(hgr.block bp dw.o.lp (λe=>hn e.symm)).trans dw.o.pb;simp [iJ,hb]
   refine hK.o _ _ (λ_=>xO) (λ_=> ?_);clear hK K hown hgr hat dw LI Fo;refine eE (i:=9) (v:=π bp) rfl (by kernel_rfl) (by kernel_rfl) (by kernel_rfl) (by kernel_rfl) (by kernel_rfl) (λ_ _ _ h=>h) (aS ⟨by rfl,λw' hSw=>by have s0:=hSw;go_simp⟩) xO ?_;refine nw (rs:= [10]) (by kernel_rfl) (by simp) ?_;refine ei.cons rfl (λK hK=> ?_) ei.nil;go_simp
   refine hK.o _ _ (λh=>absurd rfl h) (λ_=> ?_);clear hK K bO xO K9;refine Iq (by kernel_rfl) ?_ _;have zH:=η (rJ.o _ rfl);clear rJ;generalize aH (aC ⟨g,0,aB⟩) (k+1) cap=Gw at*;generalize w9.setCell ⟨bp,0,aB⟩ Gw=wa at*;go_upto_region 6 with (fail)
   have d0:wa.drew.cell? ⟨bp,1,aB⟩=aC (aH A2 k c2):=ρ zH.o.pb;have CV:Hid (ld w bR bp Gw (aH A2 k c2) (gw D (k+1)) (iF D k) li ca wa.drew):=η (zH.o.below (aX _ _).drew);clear zH;refine Ir (S:=λW=>W.cell? ⟨bp,1,aB⟩=aC (aH A2 k c2)) 10 (by kernel_rfl) d0 (λhHeld=> ?_);have bO:Hid (∀W,ld w bR bp Gw (aH A2 k c2) (gw D (k+1)) (iF D k) li ca W->W.cell? ⟨bp,1,aB⟩=aC (aH A2 k c2)):=η (λW h=>ρ h.pb);clear d0;generalize wa.drew=wb at*;refine eE (i:=0) (v:=bF (aC ⟨bp,1,aB⟩)) rfl (by kernel_rfl) (by kernel_rfl) (by kernel_rfl) (by kernel_rfl) (by kernel_rfl) (λ_ _ _ h=>h) (aS ⟨by rfl,λw' hSw=>by have s0:=hSw;go_simp⟩) hHeld ?_;refine eE (i:=1) (v:=aH A2 k c2) rfl (by kernel_rfl) (by kernel_rfl) (by kernel_rfl) (by kernel_rfl) (by kernel_rfl) (λ_ _ _ h=>h) (aS ⟨by rfl,λw' hSw=>by have s0:=hSw;go_simp⟩) hHeld ?_;refine eE (i:=2) (v:=π db) rfl (by kernel_rfl) (by kernel_rfl) (by kernel_rfl) (by kernel_rfl) (by kernel_rfl) (λ_ _ _ h=>h) (aS ⟨by rfl,λw' hSw=>by have s0:=hSw;go_simp⟩) hHeld ?_;refine eE (i:=3) (v:=ν (k:Int)) rfl (by kernel_rfl) (by kernel_rfl) (by kernel_rfl) (by kernel_rfl) (by kernel_rfl) (λ_ _ _ h=>h) (aS ⟨by rfl,λw' hSw=>by have s0:=hSw;go_simp⟩) hHeld ?_;refine eE (i:=4) (v:=ν ((k:Int)+1)) rfl (by kernel_rfl) (by kernel_rfl) (by kernel_rfl) (by kernel_rfl) (by kernel_rfl) (λ_ _ _ h=>h) (aS ⟨by rfl,λw' hSw=>by have s0:=hSw;go_simp⟩) hHeld ?_;refine eE (i:=5) (v:=bU #[ν 9,ν ((k:Int)+1)]) rfl (by kernel_rfl) (by kernel_rfl) (by kernel_rfl) (by kernel_rfl) (by kernel_rfl) (λ_ _ _ h=>h) (aS ⟨by rfl,λw' hSw=>by have s0:=hSw;go_simp⟩) hHeld ?_;clear hHeld;refine nw (rs:= [6]) (by kernel_rfl) (by simp) ?_;refine ei.cons rfl (λK hK=> ?_) ei.nil;go_simp
   refine(ew.o _ CV.o.bl 9 _ (by decide) OI.o).mono ?_;rintro e wc ⟨rfl,fh⟩;have gA:=η (CV.o.below fh);clear fh CV;refine hK.o _ _ (λ_=>bO.o _ gA.o) (λ_=> ?_);clear hK K;have Fo:=η (aFi D k);rw [hM] at Fo;generalize balA M (aA D.x.ss+1) D.l 9 ((k:Int)+1) 0=Jn at*;refine nw (rs:= [7]) (by kernel_rfl) (by simp) ?_;refine ei.cons rfl (λK hK=> ?_) ei.nil;go_simp
   have dw:Hid (ld w bR bp Gw (aH A2 k c2) (gw D (k+1)) (iF D k) li ca (wc.alloc (aK #[ν Jn] 2))):=η (gA.o.below σ);have LI:Hid (∀j u,([ν Jn]:List aN)[j]? =aC u->(wc.alloc (aK #[ν Jn] 2)).cell? ((⟨wc.heap.size,0,aB⟩:aj).add j)=aC u):=η (dN wc 2 #[ν Jn] rfl);refine hK.o _ _ (λ_=>bO.o _ dw.o) (λ_=> ?_);clear hK K gA;generalize (wc.alloc (aK #[ν Jn] 2))=wd at*;refine nw (rs:= [8]) (by kernel_rfl) (by simp) ?_;refine ei.cons rfl (λK hK=> ?_) ei.nil;have qV:=dw.o.fo;rw [vM] at qV;refine AW _ rfl (.tmp 32) (.tmp 38) 53 rfl w.heap.size 2 i0 _ 1 8 mP bu ru ry rz rfl (by decide) _ k ((iF D k).map (aG aF)) rfl qV ⟨wc.heap.size,0,aB⟩ 1 1 [ν Jn] rfl rfl LI.o xh (by decide) (by simp only [bM];omega) (by omega) dw.o.bl.size wd.heap.size rfl ?_;clear qV;intro g2 a2A we hown hgr hat _;have rJ:Hid (∀v,v=aH (aC ⟨g2,0,aB⟩) (k+1) a2A->ld w bR bp Gw v (gw D (k+1)) (iF D (k+1)) li ca (we.setCell ⟨bp,1,aB⟩ v)):=η (by rintro v rfl;rw [Fo.o];exact dw.o.aJf hgr (by rw [df];exact hown) (by simp [vM]) (hat.imp id (λe=>by omega)));have xO:we.cell? ⟨bp,1,aB⟩=aC (aH A2 k c2):=by have hn:(aH A2 k c2).ownBlock≠aC bp:=gM dw.o.fo dw.o.pb (by decide);exact bH _ _ _ _ _ (0,0) ((hgr.block bp dw.o.lp (λe=>hn e.symm)).trans dw.o.pb)
   have K9:we.frozen? ⟨bp,1,aB⟩=aP:=by have hn:(aH A2 k c2).ownBlock≠aC bp:=gM dw.o.fo dw.o.pb (by decide);have hb:=(hgr.block bp dw.o.lp (λe=>hn e.symm)).trans dw.o.pb;simp [iJ,hb]
   refine hK.o _ _ (λ_=>xO) (λ_=> ?_);clear hK K hown hgr hat dw LI Fo;refine eE (i:=9) (v:=bF (aC ⟨bp,1,aB⟩)) rfl (by kernel_rfl) (by kernel_rfl) (by kernel_rfl) (by kernel_rfl) (by kernel_rfl) (λ_ _ _ h=>h) (aS ⟨by rfl,λw' hSw=>by have s0:=hSw;go_simp⟩) xO ?_;refine nw (rs:= [10]) (by kernel_rfl) (by simp) ?_;refine ei.cons rfl (λK hK=> ?_) ei.nil;go_simp
   refine hK.o _ _ (λh=>absurd rfl h) (λ_=> ?_);clear hK K bO xO K9;refine Iq (by kernel_rfl) ?_ _;have zH:=η (rJ.o _ rfl);clear rJ;generalize aH (aC ⟨g2,0,aB⟩) (k+1) a2A=fv2 at*;generalize we.setCell ⟨bp,1,aB⟩ fv2=wf at*;go_wp2_with fail
   go_roundw
   case rel=>exact⟨k+1,_,_,by omega,by go_num,zH⟩
   case measure=>simp [ag];omega
  obtain rfl:k=M:=by omega
  obtain⟨A1,c1,AH⟩:=bK HP.o.co;obtain⟨A2,c2,hv2⟩:=bK HP.o.fo;subst AH hv2;have CW:=HP.o;rw [pI,vM] at CW;have q0:=CW.pb;have q1:=CW.rb;have p0:wr.cell? ⟨bp,0,aB⟩=aC (aH A1 k c1):=ρ q0;have p1:wr.cell? ⟨bp,1,aB⟩=aC (aH A2 k c2):=ρ q0;have p2:wr.cell? ⟨bp,2,aB⟩=aC (ν li):=ρ q0;have p3:wr.cell? ⟨bp,3,aB⟩=aC (ν ca):=ρ q0;have r0:wr.cell? ⟨bR,0,aB⟩=aC (aH aB 0 0):=ρ q1;have r1:wr.cell? ⟨bR,1,aB⟩=aC (aH aB 0 0):=ρ q1;have r2:wr.cell? ⟨bR,2,aB⟩=aC (ν 0):=ρ q1;have r3:wr.cell? ⟨bR,3,aB⟩=aC (ν 0):=ρ q1;have HPH:=η CW;clear CW q0 HP ew nz;have f0:wr.frozen? ⟨bR,0,aB⟩=aP:=by simp [iJ,q1]
  have f1:wr.frozen? ⟨bR,1,aB⟩=aP:=by simp [iJ,q1]
  have f2:wr.frozen? ⟨bR,2,aB⟩=aP:=by simp [iJ,q1]
  have f3:wr.frozen? ⟨bR,3,aB⟩=aP:=by simp [iJ,q1]
  clear q1;go_wp2_with fail
  refine bodyPost_ret (v:=bU #[aH A1 k c1,aH A2 k c2,ν li,ν ca]) (by simp [results,results128,go_sem,r0,r1,r2,r3]) rfl ?_;have hR:=(((HPH.o.res.set 0 (aH A1 k c1)).set 1 (aH A2 k c2)).set 2 (ν li)).set 3 (ν ca);have o1:=hR.co;have o2:=hR.fo;rw [pI] at o1;rw [vM] at o2;have g1:=aW.cA o1;have g2:=aW.cA o2;refine⟨⟨gw D k,A1,c1,iF D k,A2,c2,li,ca⟩, ?_,by rw [hM],by rw [hM],JF.o.trans (by rw [hM]),CG.o.trans (by rw [hM]),⟨⟨g1,λh=> ?_⟩,⟨g2,λh=> ?_⟩⟩,hR.bl⟩
  ·unfold cB.val;simp only [pI,vM]
  ·have:=Ia o1 h;rw [pI];exact this
  have:=Ia o2 h;rw [vM];exact this
def jo(D:Dk):cB:=⟨gw D (aA D.x.ms),aB,0,iF D (aA D.x.ms),aB,0,balA (aA D.x.ms) (aA D.x.ss+1) D.l 3 0 0,balA (aA D.x.ms) (aA D.x.ss+1) D.l 4 0 0⟩
theorem aJM {P:cB} {D:Dk}(h1:P.co=gw D (aA D.x.ms))(h2:P.fu=iF D (aA D.x.ms))(h3:P.line=balA (aA D.x.ms) (aA D.x.ss+1) D.l 3 0 0)(h4:P.cap=balA (aA D.x.ms) (aA D.x.ss+1) D.l 4 0 0)(os:List Int)(n:Int):oO P os n=oO (jo D) os n:=by obtain⟨co,Ac,cc,fu,Af,cf,li,ca⟩:=P;simp only at h1 h2 h3 h4;subst h1 h2 h3 h4;rfl
theorem aK0 {P:cB} {D:Dk}(h1:P.co=gw D (aA D.x.ms))(h2:P.fu=iF D (aA D.x.ms))(h3:P.line=balA (aA D.x.ms) (aA D.x.ss+1) D.l 3 0 0)(h4:P.cap=balA (aA D.x.ms) (aA D.x.ss+1) D.l 4 0 0)(os:List Int):r8 P os=r8 (jo D) os:=by obtain⟨co,Ac,cc,fu,Af,cf,li,ca⟩:=P;simp only at h1 h2 h3 h4;subst h1 h2 h3 h4;rfl
def qJ(D:Dk)(x:Dw):Dk:= {D with l:=bj D x.k x.m 1 0 0 x.n,log:=D.log++ [⟨10,x.m,0,x.n,x.k⟩]}
def oG(D:Dk)(L:List Dw):Dk:=L.foldl qJ D
def iE(D:Dk)(n:Int):List Dw:=if n<=0 then [] else oO (jo D) D.who n
def lq(D:Dk)(n:Int):Dk:=oG D (iE D n)
theorem aF3 {D:Dk} {L:List Dw} {k:Nat}(h:k<aA L):oG D (L.take (k+1))=qJ (oG D (L.take k)) L[k]:=by rw [fE h];unfold oG;rw [List.foldl_append];rfl
theorem VA(db:Nat)(p:Dp)(D:Dk)(n:Int)(w:aJ)(H:bW w db p D)(hn:aL n)(hm:aA D.x.ms<=100000)(hw:∀x∈D.who,aL x)(IL:aA D.who<=1000)(hO:∀k,k<=aA (iE D n)->fX (oG D ((iE D n).take k)))(hI:∀x∈iE D n,aL x.k/\aL x.m/\aL x.n/\0<=x.n)(hl:aA (iE D n)<=100000):
 aQ aM 65 #[π db,ν n] w λe w'=>e=aT (bB #[])/\aq db p (lq D n) w w':=by
 have zA:=η H;have je:Hid (iE D n=if n<=0 then [] else oO (jo D) D.who n):=η rfl;have rE:Hid (lq D n=oG D (iE D n)):=η rfl;have HO:=η hO;have HI:=η hI;have mH:=η hl;have CY:=η (λW (hW:β w W)=>a2o db p D W (H.below hW) hm);obtain⟨Aw,cw,hv⟩:=bK H.who;have pB:=η (λW (hW:β w W)=>(show aW W W.heap.size Aw (D.who.map (aG aF)) by have h1:=(H.below hW).who;rw [hv] at h1;exact aW.cA h1));have bO:=η (λW (hW:β w W)=>(show W.cell? ⟨db,11,aB⟩=aC (aH Aw (aA D.who) cw) from(by rw [<-hv];exact(H.below hW).cells.c11)));have Tw:=η hw;have OT:=η hn;have wU:=η hm;by_cases h0:n<=0
 ·have hd:decide (n<=0)=aO:=decide_eq_true h0;rw [ifP h0] at je;have Fp:Hid (lq D n=D):=η (by rw [rE.o,je.o];rfl);rw [Fp.o];go_enter aB8,aBu
  go_wp2_with fail
  (try simp only [Exit.inBlock,Exit.then])
  refine bodyPost_ret (results_none rfl _ _ _) rfl ?_;exact⟨rfl,aq.refl zA.o⟩
 have hd:decide (n<=0)=aP:=decide_eq_false h0;rw [ifN h0] at je;rw [rE.o];generalize iE D n=L at*;go_enter aB8,aBu
 go_upto_region 1 with (fail)
 have bP:β w w.drew:=(aX _ _).drew;have hdd:=bO.o _ bP;go_region_held3 (λW=>W.cell? ⟨db,11,aB⟩=aC (aH Aw (aA D.who) cw)) (first|(with_reducible assumption)) (first|(go_at_call 128;refine(CY.o _ (by with_reducible assumption)).mono ?_;rintro e w1 ⟨P,rfl,mU,jV,uT,xU,FB,hb1⟩;have dX:β w w1:=jt (by with_reducible assumption) (hb1.mono (gT (by with_reducible assumption)));have hcc:=bO.o _ dX)|(go_at_call 127;refine(aJN P D.who n Aw cw _ FB (by rw [mU,pI];simp only [bM];have:=wU.o;omega) (pB.o _ dX) IL Tw.o OT.o).mono ?_;rintro e w2 ⟨A2,c2,rfl,eR,hb2⟩;have Vq:=dX.trans (hb2.mono dX.size);have hc2:=bO.o _ Vq))
 all_goals
  rw [aJM mU jV uT xU,<-je.o] at eR ⊢;have a9b:Hid (aW w2 w2.heap.size A2 (gS (L))):=η (aW.cA eR);have VW:gS (L)≠ []->∀q,A2=aC q->¬eV db p q.block:=by intro _ q hq hs;subst hq;have:=(eR.lt q.block rfl).1;have h2:=zA.o.uW hs;have h3:=dX.size;omega
  have cJ:=η (zA.o.below Vq);have aV:=η Vq;have iX:Hid (aq db p (oG D ((L).take 0)) w2 w2):=η (aq.refl cJ.o);have BB:Hid (∀W D2,aq db p D2 w2 W->aW W W.heap.size A2 (gS (L))):=η (λW D2 h=>by obtain⟨_,_,_,_,_,_,hu,_⟩:=h;exact hu.dt a9b.o VW);go_wp2_with fail
  go_loopw [7,23] (λ_ i wr=>∃k:Nat,k<=aA L/\i=ν (k:Int)/\Hid (aq db p (oG D (L.take k)) w2 wr)) (λ_ i _=>aA L-(ag i).toNat)
  case atStart=>exact⟨0,bL _,rfl,iX⟩
  case round=>
   obtain⟨k,hk,rfl,HP⟩:=hrel;by_cases hlt:k<aA L
   ·obtain⟨bl,ol,kO,hbl,l0,l1,l2⟩:=Pt (BB.o _ _ HP.o) hlt;have eY:(0:Int)<=(k:Int):=by omega
    have hkb:(k:Int)<(aA L:Int):=by omega
    obtain⟨p1,h1,e1,e2,e3,e4,dA,hs1⟩:=HP.o;have HF:=η h1;have mh:Hid (∀j,eV db p1 j->j<wr.heap.size):=η (λj hj=>h1.uW hj);have HT:Hid (∀W D2,aq db p1 D2 wr W->aq db p D2 w2 W):=η (λW D2 h=>aq.trans dA hs1 ⟨e1,e2,e3,e4⟩ h);have HL:=η (aF3 (D:=D) hlt);have dP:=η (HO.o k hk);obtain⟨qL,qM,rZ,vV⟩:=HI.o _ (cK hlt);have nB:aA L<=100000:=mH.o;clear h1 e1 e2 e3 e4 dA hs1 HP;subst kO;generalize oG D (L.take k)=E at*;generalize L[k]=x at*;obtain⟨xk,xm,xn⟩:=x;simp only at l0 l1 l2 qL qM rZ vV;have oY:=η (kT qL (kT qM (kT rZ vV)));have um:Hid (qJ E ⟨xk,xm,xn⟩= {E with l:=bj E xk xm 1 0 0 xn,log:=E.log++ [⟨10,xm,0,xn,xk⟩]}):=η rfl;have ar:Hid (β wr (wr.alloc (aK #[ν xk,ν xm,ν xn] 196))):=η σ;have pC:Hid ((wr.alloc (aK #[ν xk,ν xm,ν xn] 196)).heap[wr.heap.size]? =aC (aK #[ν xk,ν xm,ν xn] 196 (0,0))):=η (cO wr _);have mW:wr.heap.size<(wr.alloc (aK #[ν xk,ν xm,ν xn] 196)).heap.size:=by simp
    clear qL qM rZ vV;go_upto_region 5 with (fail)
    generalize wr.alloc (aK #[ν xk,ν xm,ν xn] 196)=w4 at*;obtain⟨bx,bT⟩:∃bx,bx=wr.heap.size:=⟨_,rfl⟩;have dH:=η bT;rw [<-bT] at pC mW ⊢;clear bT;have lG:=η (HF.o.below ar.o);have bX:Hid (¬eV db p1 bx):=η (λh=>by have:=mh.o bx h;rw [dH.o] at this;omega);have lZ:=η (λW (hW:β w4 W)=>Gz db p1 E xk xm 1 0 0 xn W (lG.o.below hW) dP.o ⟨oY.o.1,oY.o.2.1⟩ ⟨by decide,by decide⟩ (by decide) oY.o.2.2.1 oY.o.2.2.2);have bO:Hid (∀W,β w4 W->W.cell? ⟨db,8,aB⟩=aC (π p1.vb)/\W.cell? ⟨bx,0,aB⟩=aC (ν xk)/\W.cell? ⟨bx,1,aB⟩=aC (ν xm)/\W.cell? ⟨bx,2,aB⟩=aC (ν xn)):=η (λW hW=>by have hd:=(hW.block bx mW).trans pC.o;exact⟨(lG.o.below hW).cells.c8,ρ hd,ρ hd,ρ hd⟩);have LF:Hid (∀V W,β w4 V->aq db p1 {E with l:=bj E xk xm 1 0 0 xn} V W->W.cell? ⟨db,8,aB⟩=aC (π p1.vb)->W.cell? ⟨db,8,aB⟩=aC (π p1.vb)/\W.cell? ⟨bx,0,aB⟩=aC (ν xk)/\W.cell? ⟨bx,1,aB⟩=aC (ν xm)/\W.cell? ⟨bx,2,aB⟩=aC (ν xn)):=η (λW W' hW h h8=>by have hz:=cP mW hW.size;obtain⟨_,q0,q1,q2⟩:=bO.o W hW;exact⟨h8,(h.cell 0 hz bX.o).trans q0,(h.cell 1 hz bX.o).trans q1,(h.cell 2 hz bX.o).trans q2⟩);have bP:β w4 w4.drew:=(aX _ _).drew;have hdd:=bO.o _ bP;go_region_held3 (λW=>W.cell? ⟨db,8,aB⟩=aC (π p1.vb)/\W.cell? ⟨bx,0,aB⟩=aC (ν xk)/\W.cell? ⟨bx,1,aB⟩=aC (ν xm)/\W.cell? ⟨bx,2,aB⟩=aC (ν xn)) (first|(with_reducible assumption)) (first|(go_at_call 61;refine(xG _).mono ?_;rintro e w5 ⟨rfl,gD⟩;have qK:β w4 w5:=jt (by with_reducible assumption) (gD.mono (gT (by with_reducible assumption)));have hcc:=bO.o _ qK)|(go_at_call 87;refine(lZ.o _ (by with_reducible assumption)).mono ?_;rintro e w7 ⟨rfl,dE,hcm⟩;have zy:=LF.o _ _ (by with_reducible assumption) dE hcm))
    all_goals
     have gA:Hid (aq db p1 {E with l:=bj E xk xm 1 0 0 xn} wr w7):=η (aq.trans (bC.bZ _ (ar.o.trans (Below.mono (by with_reducible assumption) ar.o.size))) (λ_ h=> .inl h) ⟨rfl,rfl,rfl,rfl⟩ dE);obtain⟨_,m0,m1,m2⟩:=zy;have IP:bx<w7.heap.size:=World.block_lt_of_cell? _ _ m0;clear dE hcm gD qK hcc bP hdd lZ bO lG ar LF pC mW;obtain⟨p4,H4,e1,e2,e3,e4,qO,j5⟩:=gA.o;have kU:=η (H4.below ((aX w7.heap.size w7).alloc (aZ _) (aK #[ν 10,ν xm,ν 0,ν xn,ν xk] 45)));have kW:=η (xK db p4 {E with l:=bj E xk xm 1 0 0 xn} [⟨10,xm,0,xn,xk⟩] w7.heap.size 1 _ kU.o (dN w7 45 #[ν 10,ν xm,ν 0,ν xn,ν xk] rfl) (by simp) (by simp) (by have:=dP.o.gl;simp only;omega));have pg:Hid (∀W,aq db p4 {E with l:=bj E xk xm 1 0 0 xn,log:=E.log++ [⟨10,xm,0,xn,xk⟩]} (w7.alloc (aK #[ν 10,ν xm,ν 0,ν xn,ν xk] 45)) W->aq db p (oG D (L.take (k+1))) w2 W):=η (λW h=>by rw [HL.o,um.o];exact HT.o W _ (aq.trans qO j5 ⟨e1,e2,e3,e4⟩ (aq.trans (bC.bZ _ σ) (λ_ h=> .inl h) ⟨rfl,rfl,rfl,rfl⟩ h)));clear H4 e1 e2 e3 e4 qO j5 gA;go_wp2_with (go_at_call 55;refine kW.o.mono ?_;rintro e w8 ⟨rfl,h8⟩;have dw:=η (pg.o _ h8);clear h8)
     go_roundw
     case rel=>exact⟨k+1,by omega,by go_num,dw⟩
     case measure=>simp [ag];omega
   obtain rfl:k=aA L:=by omega
   rw [cT] at HP;go_wp2_with fail
   go_end0
   exact⟨rfl,aq.trans (bC.bZ _ aV.o) (λ_ h=> .inl h) ⟨rfl,rfl,rfl,rfl⟩ HP.o⟩
theorem aJ6 {w:aJ} {base:Nat} {A:Option aj} {n c m:Nat} {e:bY} {xs:List aN}(h:w.ownsRow base e m (aH A n c) n xs)(hA:A=aB):n=0/\c=0:=by
 rcases h.2 with⟨h1,h2⟩|⟨g,cap,cur,h1,_⟩
 ·injection h1 with h3 h4 h5;exact⟨h4,h5⟩
 rw [hA] at h1;injection h1 with h3;cases h3
def iZ(w w':aJ)(A:Option aj)(c:Nat)(L:List Lg):Prop:=aW w' w'.heap.size A (bA L)/\(∀q,A=aC q->w.heap.size<=q.block)/\(A=aB->aA L=0/\c=0)
theorem iZ.nil {w w':aJ}:iZ w w' aB 0 []:=⟨aW.nil,(λq h=>by cases h),λ_=>⟨rfl,rfl⟩⟩
theorem iZ.below {w w1 w2:aJ} {A:Option aj} {c:Nat} {L:List Lg}(h:iZ w w1 A c L)(hb:aa w1.heap.size w1 w2):iZ w w2 A c L:=⟨(h.1.below hb).mono hb.size,h.2⟩
theorem iZ.wide {w0 w w1:aJ} {A:Option aj} {c:Nat} {L:List Lg}(h:iZ w w1 A c L)(hz:w0.heap.size<=w.heap.size):iZ w0 w1 A c L:=⟨h.1,λq hq=>bz hz (h.2.1 q hq),h.2.2⟩
theorem iZ.cA {w w':aJ} {A:Option aj} {c:Nat} {L:List Lg}(h:w'.ownsRow w.heap.size 76 3 (aH A (aA L) c) (aA L) (bA L)):iZ w w' A c L:=
 ⟨aW.cA h,λq hq=>(h.lt q.block (by rw [hq];rfl)).1,aJ6 h⟩
theorem iZ.src {w w':aJ} {A:Option aj} {c:Nat} {L:List Lg}(h:iZ w w' A c L):sS w' A c L:=⟨h.1,h.2.2⟩
def a9s(L:List Lg)(w:aJ):dU->aJ->Prop:=λe w'=>∃A c,e=aT (aH A (aA L) c)/\iZ w w' A c L/\aa w.heap.size w w'
def U3(w:aJ)(g l:List Lg)(err:Int):dU->aJ->Prop:=λe w'=>∃A c B d,e=aT (bB #[aH A (aA g) c,aH B (aA l) d,aG aF err])/\iZ w w' A c g/\iZ w w' B d l/\aa w.heap.size w w'
def Fm(l:List Lg)(e:Int)(w:aJ)(ed:dU)(w':aJ):Prop:=∃A c,ed=aT (bB #[aH A (aA l) c,aG aF e])/\iZ w w' A c l/\aa w.heap.size w w'
def aCL(x:ak)(L:List Lg)(w:aJ)(e:dU)(w':aJ):Prop:=
 (wthsE x L≠0/\Fm [] (wthsE x L) w e w')\/(wthsE x L=0/\∃ks:List Int,ks.Pairwise (· < ·)/\(∀q,q∈ks↔∃y∈L,y.m=q)/\Fm (rV (mF x L) ks) (gatE (mF x L) ks) w e w')
def a9p(A B:List Lg)(w:aJ)(e:dU)(w':aJ):Prop:=
 (s7 A B≠0/\Fm [] (s7 A B) w e w')\/(s7 A B=0/\∃ks:List Int,ks.Pairwise (· < ·)/\(∀q,q∈ks↔∃y∈A++B,y.m=q)/\Fm (nW (fU (A++B)) ks) 0 w e w')
theorem a7P(L:List Lg)(xs:List Int)(A A':Option aj)(c c' bc:Nat)(w:aJ)(hs:aW w w.heap.size A (bA L))(hs':aW w w.heap.size A' (xs.map (aG aF)))(hb:w.cell? ⟨bc,0,aB⟩=aC (aH A (aA L) c))(gD:bc<w.heap.size)(hl:aA L<=100000)(hx:aA xs=aA L):
 aQ aM 196 #[aH A' (aA xs) c',π bc] w (a9s (eo L xs) w):=by
 obtain⟨i0,bu,hz0,fj,hz2⟩:=dL a5O;have HS:=η hs;have Tk:=η hs';have dH:=η hb;have HX:=η hx;have nD:aA xs<=100000:=by omega
 clear hs hs' hb hx;go_enter func196,ntmps196
 go_wp2_with fail
 go_loopw [4,5,6,9] (λu _ _ i wr=>∃k:Nat,k<=aA xs/\i=ν k/\Hid (wr.ownsRow w.heap.size 76 3 u (aA (eo (L.take k) (xs.take k))) (bA (eo (L.take k) (xs.take k))))/\Hid (β w wr)) (λ_ _ _ i _=>aA xs-(ag i).toNat)
 case atStart=>exact⟨0,bL _,rfl,⟨by simp [eo,bA],aS ⟨rfl,rfl⟩⟩,aX _ _⟩
 case round=>
  obtain⟨k,hk,rfl,HO,HB⟩:=hrel;have hsz:=HB.o.size;by_cases hlt:k<aA xs
  ·have WU:k<aA L:=by have:=HX.o;omega
   obtain⟨b',o',rfl,hb',hc'⟩:=(Tk.o.below HB.o).at (k:=k) (by simpa using hlt);rw [wk] at hc';have HF:=η (aKc WU hlt);have Bc:=aKb L xs k;by_cases hp:0<xs[k]
   ·obtain⟨b,o,rfl,hb2,-,-,-⟩:=oL (HS.o.below HB.o) WU;have LG:Hid (∀W,β w W->W.cell? ⟨bc,0,aB⟩=aC (aH (aC ⟨b,o,aB⟩) (aA L) c)/\W.cell? ⟨b,o+k*3,aB⟩=aC (ν L[k].m)/\W.cell? ⟨b,o+k*3+1,aB⟩=aC (ν L[k].a)):=λW hW=>by
     obtain⟨b9,o9,e9,_,d0,d1,d2⟩:=oL (HS.o.below hW) WU;injection e9 with e9;injection e9 with VJ VK;subst VJ VK;exact⟨(hW.cell (p:=⟨bc,0,aB⟩) gD).trans dH.o,d0,d1⟩
    obtain⟨q0,q1,q2⟩:=LG.o _ HB.o;rw [ifP hp] at HF;have eY:(0:Int)<=(k:Int):=by omega
    have hkb:(k:Int)<(aA L:Int):=by omega
    generalize eo (L.take k) (xs.take k)=ys at*;go_wp2_with fail
    go_region_held3 (λw'=>w'.cell? ⟨bc,0,aB⟩=aC (aH (aC ⟨b,o,aB⟩) (aA L) c)/\w'.cell? ⟨b,o+k*3,aB⟩=aC (ν L[k].m)/\w'.cell? ⟨b,o+k*3+1,aB⟩=aC (ν L[k].a)) (first|(with_reducible exact LG.o _ HB.o.drew)|(with_reducible exact LG.o _ (HB.o.drew.alloc hsz _))|exact LG.o _ (HB.o.alloc hsz _).drew|(with_reducible exact LG.o _ pj.o)) ((refine AW _ rfl _ _ 39 rfl w.heap.size 76 i0 _ 3 24 sZ bu hz0 fj hz2 rfl (by decide) _ (aA ys) (bA ys) rfl (HO.o.alloc _) ⟨wr.heap.size,0,aB⟩ 1 1 (Lg.cells ⟨L[k].m,L[k].a,xs[k]⟩) rfl rfl (dN _ _ #[_,_,_] (by simp)) (a5L ⟨L[k].m,L[k].a,xs[k]⟩) (by decide) (by simp only [bM];omega) (by omega) (by simp;omega) _ rfl ?_;intro g cap w4 hown1 dF _ _;have dV:=η hown1;have pj:Hid (β w w4):=(HB.o.alloc hsz _).drew.grown dF (by show w.heap.size<=(wr.alloc _).heap.size;simp;omega) (λj hj=>eT HO.o j hj);clear hown1 dF))
    have fL:Hid (w4.ownsRow w.heap.size 76 3 (aH (aC ⟨g,0,aB⟩) (aA ys+1) cap) (aA (eo (L.take (k+1)) (xs.take (k+1)))) (bA (eo (L.take (k+1)) (xs.take (k+1))))):=by show jw _ _ _ _ _ _ _;rw [HF.o,a5N,cN,uG];exact dV.o
    go_wp2_with fail
    go_roundw
    case rel=>exact⟨k+1,by omega,by go_num,fL,pj⟩
    case measure=>simp [ag];omega
   rw [ifN hp,List.append_nil] at HF;have jh:=HO.o;rw [<-HF.o] at jh;have cE:=η jh;clear jh;go_wp2_with fail
   go_roundw
   case rel=>exact⟨k+1,by omega,by go_num,cE,HB⟩
   case measure=>simp [ag];omega
  obtain rfl:k=aA xs:=by omega
  have hO:=HO.o;rw [cT,List.take_of_length_le (by have:=HX.o;omega)] at hO;obtain⟨A1,c1,rfl⟩:=bK hO;have qX:Hid (iZ w _ A1 c1 (eo L xs)):=η (iZ.cA hO);clear hO;go_wp2_with fail
  go_ret;exact⟨A1,c1,rfl,qX.o,HB.o⟩
theorem a7a(cF:Int)(L:List Lg)(A:Option aj)(c:Nat)(w:aJ)(hA:aL cF)(hs:aW w w.heap.size A (bA L))(hI:∀x∈L,aL x.n)(hl:aA L<=100000):
 aQ aM 137 #[ν cF,aH A (aA L) c] w (U3 w (jf cF L) (jm cF L) (jJ cF L)):=by
 have hb0:β w (w.alloc (aK #[aH A (aA L) c] 39)):=(aX _ _).alloc (aZ _) _;have hs0:=(hs.below hb0).mono hb0.size;have HC:=η (a7L cF L A c _ hA hs0 hI hl);have aY:=η hb0;have py:=η hs0;have dH:Hid (∀W,aa (w.heap.size+1) (w.alloc (aK #[aH A (aA L) c] 39)) W->W.cell? ⟨w.heap.size,0,aB⟩=aC (aH A (aA L) c)):=λW hW=>by rw [hW.cell (p:=⟨w.heap.size,0,aB⟩) (by simp),cL _ _ _ _ rfl];rfl
 have HV:=η (show jf cF L=if jJ cF L=0 then eo L (dK cF (bG L)) else [] from rfl);have HW:=η (show jm cF L=if jJ cF L=0 then eo L (oM (bG L) (dK cF (bG L))) else [] from rfl);have a4X:(w.alloc (aK #[aH A (aA L) c] 39)).heap.size=w.heap.size+1:=by simp
 have HI:=η hI;have TG:=η hA;have HZ0:=η a4X;clear hs hs0 hb0 hI hA a4X;by_cases h0:jJ cF L=0
 ·have pd:=η (Pj h0).1;have hG:=Ek pd.o;have B1:=η hG.len;have JC:=η hG.err;have mH:=η (aHf pd.o);have EA:Hid (jf cF L=eo L (dK cF (bG L))):=by show _=_;rw [HV.o,ifP h0]
  have lJ:Hid (jm cF L=eo L (oM (bG L) (dK cF (bG L)))):=by show _=_;rw [HW.o,ifP h0]
  have HE:=η h0;have J3:Hid (∀x∈dK cF (bG L),aL x):=λx hx=>by
   obtain⟨i,hi,rfl⟩:=sW.1 hx;have hi':i<aA (bG L):=by rw [<-hG.len];exact hi
   have:=hG.bd i hi hi';have:=Lx HI.o _ (cK hi');unfold aL at*;omega
  clear hG HV HW;rw [h0] at HC;clear h0;go_enter aAe,aBR
  go_wp2_with fail
  refine HC.o.mono ?_;rintro e w1 ⟨rfl,hb1⟩;have aR:Hid (aa (w.heap.size+1) (w.alloc (aK #[aH A (aA L) c] 39)) w1):=by rw [<-HZ0.o];exact hb1
  have sz1:w.heap.size<w1.heap.size:=by have:=aR.o.size;have:=HZ0.o;omega
  have c1:=dH.o _ aR.o;have cY:Hid (aW w1 w1.heap.size A (bA L)):=(py.o.below hb1).mono hb1.size;have EM:Hid (β w w1):=aY.o.trans (hb1.mono (by simp));clear hb1 HC;go_wp2_with fail
  refine(Uj L A c _ cY.o hl).mono ?_;rintro e w2 ⟨A2,k2,rfl,hs2,hb2⟩;have cM:=η hs2;have aV:Hid (aa (w.heap.size+1) (w.alloc (aK #[aH A (aA L) c] 39)) w2):=aR.o.trans (hb2.mono (by omega));have sz2:w.heap.size<w2.heap.size:=by have:=hb2.size;omega
  have a9U:Hid (aW w2 w2.heap.size A (bA L)):=(cY.o.below hb2).mono hb2.size;have qY:Hid (β w w2):=EM.o.trans (hb2.mono (by omega));have rX:aA (bG L)<=bM:=by rw [qh];unfold bM;omega
  have aG4:aA (bG L)<=1000000:=by rw [qh];omega
  clear hs2 hb2 c1;go_wp2_with fail
  refine(Yf cF (bG L) A2 k2 _ TG.o (Lx HI.o) cM.o rX).mono ?_;rintro e w3 ⟨A3,k3,rfl,hs3,hb3⟩;have sP:=η hs3;have af:Hid (aa (w.heap.size+1) (w.alloc (aK #[aH A (aA L) c] 39)) w3):=aV.o.trans (hb3.mono (by omega));have sz3:w.heap.size<w3.heap.size:=by have:=hb3.size;omega
  have a9W:Hid (aW w3 w3.heap.size A (bA L)):=(a9U.o.below hb3).mono hb3.size;have a9V:Hid (aW w3 w3.heap.size A2 ((bG L).map (aG aF))):=(cM.o.below hb3).mono hb3.size;have zM:Hid (β w w3):=qY.o.trans (hb3.mono (by omega));clear hs3 hb3;go_wp2_with fail
  refine(aA4 (bG L) (dK cF (bG L)) A2 A3 k2 k3 _ (Lx HI.o) a9V.o sP.o aG4).mono ?_;rintro e w4 ⟨A4,k4,rfl,j5,hb4⟩;have jP:=η j5;have ar:Hid (aa (w.heap.size+1) (w.alloc (aK #[aH A (aA L) c] 39)) w4):=af.o.trans (hb4.mono (by omega));have sz4:w.heap.size<w4.heap.size:=by have:=hb4.size;omega
  have c4:=dH.o _ ar.o;have Zq:Hid (aW w4 w4.heap.size A (bA L)):=(a9W.o.below hb4).mono hb4.size;have a9X:Hid (aW w4 w4.heap.size A3 ((dK cF (bG L)).map (aG aF))):=(sP.o.below hb4).mono hb4.size;have rL:Hid (β w w4):=zM.o.trans (hb4.mono (by omega));have xl1:Hid (aA (dK cF (bG L))=aA L):=by show _=_;rw [B1.o,qh]
  have xl2:Hid (aA (oM (bG L) (dK cF (bG L)))=aA L):=by show _=_;rw [mH.o.1,qh]
  clear j5 hb4;go_wp2_with fail
  refine(a7P L (dK cF (bG L)) A A3 c k3 w.heap.size _ Zq.o a9X.o c4 sz4 hl xl1.o).mono ?_;rintro e w5 ⟨A5,k5,rfl,hs5,cj⟩;have Ca:=η (hs5.wide rL.o.size);have cV:Hid (aa (w.heap.size+1) (w.alloc (aK #[aH A (aA L) c] 39)) w5):=ar.o.trans (cj.mono (by omega));have sz5:w.heap.size<w5.heap.size:=by have:=cj.size;omega
  have c5:=dH.o _ cV.o;have a9Z:Hid (aW w5 w5.heap.size A (bA L)):=(Zq.o.below cj).mono cj.size;have a9Y:Hid (aW w5 w5.heap.size A4 ((oM (bG L) (dK cF (bG L))).map (aG aF))):=(jP.o.below cj).mono cj.size;have G9:Hid (β w w5):=rL.o.trans (cj.mono (by omega));clear hs5 cj c4;go_wp2_with fail
  refine(a7P L (oM (bG L) (dK cF (bG L))) A A4 c k4 w.heap.size _ a9Z.o a9Y.o c5 sz5 hl xl2.o).mono ?_;rintro e w6 ⟨A6,k6,rfl,hs6,iT⟩;have Od:=η (hs6.wide G9.o.size);have a9a:Hid (iZ w w6 A5 k5 (eo L (dK cF (bG L)))):=Ca.o.below iT;have Tq:Hid (β w w6):=G9.o.trans (iT.mono (by omega));clear hs6 iT c5;go_wp2_with fail
  go_ret3;rw [EA.o,lJ.o,HE.o];exact⟨A5,k5,A6,k6,rfl,a9a.o,Od.o,Tq.o⟩
 have EA:Hid (jf cF L= []):=by show _=_;rw [HV.o,ifN h0]
 have lJ:Hid (jm cF L= []):=by show _=_;rw [HW.o,ifN h0]
 have h0b:(jJ cF L !=0)=aO:=by simpa [bne] using h0
 rw [EA.o,lJ.o];clear h0 HV HW EA lJ;generalize jJ cF L=E at*;generalize AV cF L=V at*;go_enter aAe,aBR
 go_wp2_with fail
 refine HC.o.mono ?_;rintro e w1 ⟨rfl,hb1⟩;have EM:Hid (β w w1):=aY.o.trans (hb1.mono (by simp));clear hb1;go_wp2_with fail
 go_ret3;exact⟨aB,0,aB,0,rfl,iZ.nil,iZ.nil,EM.o⟩
theorem a3U {w:aJ} {base b:Nat} {m:List (Int×aN)} {f:Int->List Int}(h:lC w base b m f)(hl:aA m<=100000)(hf:∀k,aA (f k)<=100000/\∀z∈f k,aL z):
 aQ aM 198 #[.map (aC b)] w (Fm (rV f (nj m)) (gatE f (nj m)) w):=by
 obtain⟨i0,bu,hz0,fj,hz2⟩:=dL NJ;have HG:=η h;have sQ:=η (aKh h (by omega));have HF:=η hf;have eF:=aHM m;have OI:Hid (∀k∈nj m,aL k):=η λk hk=>by have h1:k∈m.map (·.1):=(a0H _ _).mem_iff.1 hk;obtain⟨p,hp,rfl⟩:=dW.1 h1;exact h.dom p hp
 generalize KB:nj m=ks at*;have OJ:=η KB;have ij:=hl;rw [<-eF] at ij;clear h hf KB;go_enter func198,ntmps198
 go_wp2_with (first|(go_at_call 231;refine(aHN _ _).mono ?_;rintro e w' ⟨rfl,rfl⟩)|(go_at_call 230;refine sQ.o.mono ?_;rintro e w1 ⟨A,c,rfl,hs1,hb1⟩;rw [<-eF];have cY:=η hs1;have aR:Hid (β w w1):=η (((aX _ w).alloc (aZ _) _).trans (hb1.mono (by omega)));clear hs1 hb1))
 have HZW:Hid (w.heap.size<=w1.heap.size):=η aR.o.size;go_loopw [4,6,7,8,13] (λu _ _ _ i wr=>∃k:Nat,k<=aA ks/\i=ν k/\Hid (∀j (hj:j<aA ks),j<k->aL (sumI (f ks[j])))/\Hid (wr.ownsRow w1.heap.size 76 3 u (aA (nW f (ks.take k))) (bA (nW f (ks.take k))))/\Hid (β w1 wr)) (λ_ _ _ _ i _=>aA ks-(ag i).toNat)
 case atStart=>exact⟨0,bL _,rfl,λj hj h=>absurd h (Nat.not_lt_zero _),⟨by simp [nW,bA],aS ⟨rfl,rfl⟩⟩,aX _ _⟩
 case round=>
  obtain⟨k,hk,rfl,HK,HO,HB⟩:=hrel;have hsz:=HB.o.size;have aGp:=aR.o.size;have cC:Hid (β w wr):=η (aR.o.trans (HB.o.mono aGp));by_cases hlt:k<aA ks
  ·obtain⟨b',o',rfl,hb',hc'⟩:=(cY.o.below HB.o).at (k:=k) (by simpa using hlt);rw [wk] at hc';have F4:aL ks[k]:=OI.o _ (cK hlt);have TD:=η (HG.o.below (aZ _) cC.o);have aGc:=TD.o.look (q:=ks[k]) F4 Gg;obtain⟨A2,c2,jk⟩:=bK (TD.o.slot ks[k]);rw [jk] at aGc;have Cc:Hid (aW wr wr.heap.size A2 ((f ks[k]).map (aG aF))):=η (aW.cA (jk▸TD.o.slot ks[k]));have gV:=(HF.o ks[k]).1;have JB:=η (HF.o ks[k]).2;have cG:=η (aFk f hlt);have Bc:aA (nW f (ks.take k))<=100000:=by unfold nW;rw [iR,uz];omega
   have TM:Hid (∀j (hj:j<aA ks),j<k->aL (sumI (f ks[j]))):=HK;by_cases DZ:aL (sumI (f ks[k]))
   ·have lY:Hid (∀j (hj:j<aA ks),j<k+1->aL (sumI (f ks[j]))):=η λj hj h=>by
     by_cases e:j=k
     ·subst e;exact DZ
     exact TM.o j hj (by omega)
    have hV:=(eA DZ).1;have hE:=(eA DZ).2;generalize hq:ks[k]=q at*;have HQ:=η hq;clear hq DZ HK;generalize jl:sumI (f q)=sm at*;have Fz:=η jl;clear jl;generalize nW f (ks.take k)=ys at*;go_wp2_with (first|(go_at_call 104;refine(Du (f q) A2 c2 _ JB.o Cc.o (by omega)).mono ?_;rintro e w2 ⟨rfl,hb2⟩;rw [Fz.o,hV,hE];have aV:=η hb2;have sz2:=hb2.size;clear hb2)|(at_builtin;refine j9 _ rfl _ _ 39 rfl w1.heap.size 76 i0 _ 3 24 sZ bu hz0 fj hz2 rfl (by decide) _ (aA ys) (bA ys) rfl ((NV HO.o aV.o).alloc _) ⟨w2.heap.size,0,aB⟩ 1 1 (Lg.cells ⟨q,0,sm⟩) rfl rfl (dN _ _ #[_,_,_] (by simp)) (KQ ⟨q,0,sm⟩) (by simp only [bM];omega) (by omega) (by simp;omega) ?_))
    intro v' w4 hown1 dF _;obtain⟨A4,c4,rfl⟩:=bK hown1;have fL:Hid (w4.ownsRow w1.heap.size 76 3 (aH A4 (aA ys+1) c4) (aA (nW f (ks.take (k+1)))) (bA (nW f (ks.take (k+1))))):=by show jw _ _ _ _ _ _ _;rw [cG.o,aHa,cN,uG];exact hown1
    have ar:Hid (β w1 w4):=η (((HB.o.trans (aV.o.mono hsz)).alloc (by omega) _).grown dF (by simp;omega) (λj hj=>eT HO.o j hj));clear hown1 dF;go_wp2_with fail
    go_roundw
    case rel=>exact⟨k+1,by omega,by go_num,lY,fL,ar⟩
    case measure=>simp [ag];omega
   have hE:=(gp DZ).2;have y8:=η (a3R hlt (λj hj=>HK.o j (by omega) hj) DZ);generalize hq:ks[k]=q at*;go_wp2_with (go_at_call 104;refine(Du (f q) A2 c2 _ JB.o Cc.o (by omega)).mono ?_;rintro e w2 ⟨rfl,hb2⟩;rw [hE];have aV:=η hb2;have sz2:=hb2.size;clear hb2)
   go_ret2;refine⟨aB,0, ?_, ?_,cC.o.trans (aV.o.mono cC.o.size)⟩
   ·rw [y8.o];unfold rV;rw [y8.o,ifN (by decide)];rfl
   unfold rV;rw [y8.o,ifN (by decide)];exact iZ.nil
  obtain rfl:k=aA ks:=by omega
  have hE:=VS (f:=f) (ks:=ks) λj hj=>HK.o j hj hj
  have hO:=HO.o;rw [cT] at hO;obtain⟨A3,c3,rfl⟩:=bK hO;have qX:=η ((iZ.cA (w:=w1) (L:=nW f ks) hO).wide HZW.o);have hL:rV f ks=nW f ks:=by unfold rV;rw [ifP hE]
  have CM:=η (kT hL hE);clear hO hE hL;go_wp2_with fail
  go_ret2;exact⟨A3,c3,by rw [CM.o.1,CM.o.2];rfl,by rw [CM.o.1];exact qX.o,cC.o⟩
theorem aJD(cz:Int)(L:List Lg)(A:Option aj)(c:Nat)(w:aJ)(hA:aL cz)(hs:aW w w.heap.size A (bA L))(hI:∀x∈L,aL x.n)(hl:aA L<=100000):
 aQ aM 142 #[ν cz,aH A (aA L) c] w (U3 w (zi cz L) (zj cz L) (yT cz L)):=by
 have HC:=η (Ux L A c w hs hI hl);have HP:Hid (∀W,β w W->aQ aM 137 #[ν cz,aH A (aA L) c] W (U3 W (jf cz L) (jm cz L) (jJ cz L))):=η λW hW=>a7a cz L A c W hA ((hs.below hW).mono hW.size) hI hl
 clear hs hI hA;by_cases he:oC L=0
 ·obtain⟨e1,e2,e3⟩:=aJE (cz:=cz) he;rw [e1,e2,e3];rw [he] at HC;clear e1 e2 e3 he;go_enter aAf,aBS
  go_wp2_with fail
  refine HC.o.mono ?_;rintro e w1 ⟨rfl,hb1⟩;have aR:=η hb1;have hz:=hb1.size;clear hb1;go_wp2_with fail
  refine(HP.o w1 aR.o).mono ?_;rintro e w2 ⟨A1,c1,A2,c2,rfl,hs1,hs2,hb2⟩;have cY:=η (hs1.wide hz);have cM:=η (hs2.wide hz);have aV:Hid (β w w2):=η (aR.o.trans (hb2.mono hz));clear hs1 hs2 hb2;go_wp2_with fail
  go_ret3;exact⟨A1,c1,A2,c2,rfl,cY.o,cM.o,aV.o⟩
 obtain⟨e1,e2,e3⟩:=aJC (cz:=cz) he;rw [e1,e2,e3];generalize oC L=ce at*;clear e1 e2 e3;go_enter aAf,aBS
 go_wp2_with fail
 refine HC.o.mono ?_;rintro e w1 ⟨rfl,hb1⟩;have aR:=η hb1;clear hb1;go_wp2_with fail
 go_ret3;exact⟨aB,0,aB,0,rfl,iZ.nil,iZ.nil,aR.o⟩
theorem a9q(X Y:List Lg)(A B:Option aj)(c d:Nat)(w:aJ)(hA:sS w A c X)(hB:sS w B d Y)(hX:aA X<=500)(hY:aA Y<=500)(QA:∀y∈X,aL y.m/\aL y.n)(QB:∀y∈Y,aL y.m/\aL y.n):
 aQ aM 141 #[aH A (aA X) c,aH B (aA Y) d] w (a9p X Y w):=by
 have CG:Hid (∀W,β w W->aQ aM 188 #[aH A (aA X) c] W λe w'=>e=aT (ν (dC X))/\β W w'):=η λW hW=>Ph X A c W (hA.below hW).dt (λy hy=>(QA y hy).2) (by omega)
 have Ah:Hid (∀W,β w W->aQ aM 188 #[aH B (aA Y) d] W λe w'=>e=aT (ν (dC Y))/\β W w'):=η λW hW=>Ph Y B d W (hB.below hW).dt (λy hy=>(QB y hy).2) (by omega)
 have HKA:Hid (∀W,β w W->aQ aM 199 #[aH A (aA X) c] W λe w'=>e=aT (ν (oC X))/\β W w'):=η λW hW=>Ux X A c W (hA.below hW).dt (λy hy=>(QA y hy).2) (by omega)
 have CS:Hid (∀W,β w W->aQ aM 199 #[aH B (aA Y) d] W λe w'=>e=aT (ν (oC Y))/\β W w'):=η λW hW=>Ux Y B d W (hB.below hW).dt (λy hy=>(QB y hy).2) (by omega)
 have aR:Hid (β w (w.alloc (aK #[aH A (aA X) c,aH B (aA Y) d] 39))):=η σ;have g0:(w.alloc (aK #[aH A (aA X) c,aH B (aA Y) d] 39)).cell? ⟨w.heap.size,0,aB⟩=aC (aH A (aA X) c):=by rw [cL _ _ _ _ rfl];rfl
 have g1:(w.alloc (aK #[aH A (aA X) c,aH B (aA Y) d] 39)).cell? ⟨w.heap.size,1,aB⟩=aC (aH B (aA Y) d):=by rw [cL _ _ _ _ rfl];rfl
 have N4:w.heap.size<(w.alloc (aK #[aH A (aA X) c,aH B (aA Y) d] 39)).heap.size:=by simp
 have HA:=η hA;have HB:=η hB;have ZP:=η QA;have ZQ:=η QB;clear hA hB QA QB;have mR:= @run_makeMap aM;go_enter func141,ntmps141
 go_wp2_with fail
 have G0:=η g0;have G1:=η g1;generalize w.alloc (aK #[aH A (aA X) c,aH B (aA Y) d] 39)=w1 at*;refine ug 3 ?_;rw [eC];go_wp2_with fail
 refine(CG.o _ aR.o).mono ?_;rintro e w2 ⟨rfl,hb2⟩;have aV:Hid (β w w2):=τ aR hb2;have r0:w2.cell? ⟨w.heap.size,0,aB⟩=aC (aH A (aA X) c):=(hb2.cell (p:=⟨w.heap.size,0,aB⟩) N4).trans G0.o;have r1:w2.cell? ⟨w.heap.size,1,aB⟩=aC (aH B (aA Y) d):=(hb2.cell (p:=⟨w.heap.size,1,aB⟩) N4).trans G1.o;have aGs:w.heap.size<w2.heap.size:=by have:=hb2.size;omega
 have R1:=η r1;clear hb2 aR G0 G1 N4;rcases a4u X Y with⟨h1,h2⟩|⟨h1,h2,h3⟩|⟨h1,h2,h3,h4⟩|⟨h1,h2,h3,h4,h5⟩|⟨h1,h2,h3,h4,h5⟩
 ·have HE:=η h2;have HN:Hid (s7 X Y≠0):=η (by rw [h2];exact h1);clear h2;go_wp2_with fail
  go_ret2;exact aS ⟨HN.o,aB,0,by rw [HE.o];rfl,iZ.nil,aV.o⟩
 all_goals
  rw [h1];go_wp2_with fail
  rw [eC];go_wp2_with fail
  refine(Ah.o _ aV.o).mono ?_;rintro e w3 ⟨rfl,hb3⟩;have af:Hid (β w w3):=τ aV hb3;clear hb3 aV r0 r1 aGs R1
 ·have HE:=η h3;have HN:Hid (s7 X Y≠0):=η (by rw [h3];exact h2);clear h3;go_wp2_with fail
  go_ret2;exact aS ⟨HN.o,aB,0,by rw [HE.o];rfl,iZ.nil,af.o⟩
 all_goals
  rw [h2];go_wp2_with fail
  rw [eC];go_wp2_with fail
  refine(HKA.o _ af.o).mono ?_;rintro e w4 ⟨rfl,hb4⟩;have ar:Hid (β w w4):=τ af hb4;clear hb4 af
 ·have HK:oC X=1:=by unfold oC;rw [ifN (by omega),ifP h3]
  rw [HK];have HE:=η h4;have HN:Hid (s7 X Y≠0):=η (by rw [h4];decide);clear h4 HK;go_wp2_with fail
  go_ret2;exact aS ⟨HN.o,aB,0,by rw [HE.o];rfl,iZ.nil,ar.o⟩
 all_goals
  rw [show oC X=0 from by unfold oC;rw [ifN (by omega),ifN (by rw [h3];decide)]];go_wp2_with fail
  refine(CS.o _ ar.o).mono ?_;rintro e w5 ⟨rfl,cj⟩;have cV:Hid (β w w5):=τ ar cj;clear cj ar
 ·have HK:oC Y=1:=by unfold oC;rw [ifN (by omega),ifP h4]
  rw [HK];have HE:=η h5;have HN:Hid (s7 X Y≠0):=η (by rw [h5];decide);clear h5 HK;go_wp2_with fail
  go_ret2;exact aS ⟨HN.o,aB,0,by rw [HE.o];rfl,iZ.nil,cV.o⟩
 rw [show oC Y=0 from by unfold oC;rw [ifN (by omega),ifN (by rw [h4];decide)]];go_wp2_with fail
 obtain⟨L,hL⟩:∃L,L=X++Y:=⟨_,rfl⟩;have HL:=η hL;have iT:β w5 ((w5.alloc (.map #[] 0)).alloc (aK #[aH A (aA X) c,aH B (aA Y) d] 39)):=σ.alloc (by simp) _;have Ai:=η (aEH X Y A B c d (w5.heap.size+1) _ (HA.o.below (cV.o.trans (iT.mono cV.o.size))) (HB.o.below (cV.o.trans (iT.mono cV.o.size))) (by rw [cL _ _ _ _ (by simp)];rfl) (by rw [cL _ _ _ _ (by simp)];rfl) (by simp) (by omega) (by omega));have hg7:=lC.made w5;have AE:((w5.alloc (.map #[] 0)).alloc (aK #[aH A (aA X) c,aH B (aA Y) d] 39)).heap.size=w5.heap.size+2:=by simp
 have fh:aa w5.heap.size (w5.alloc (.map #[] 0)) ((w5.alloc (.map #[] 0)).alloc (aK #[aH A (aA X) c,aH B (aA Y) d] 39)):=(aX _ _).alloc (by simp) _;have QX:=hg7.below (B:=(w5.alloc (.map #[] 0)).heap.size) (aZ _) ((aX _ _).alloc (aZ _) (aK #[aH A (aA X) c,aH B (aA Y) d] 39));rw [<-hL] at Ai;have uD:=η AE;have jC:=η QX;have gG:=η iT;clear iT hg7 AE fh QX hL;have hLl:aA L<=1000:=by rw [HL.o,cN];omega
 have tx:Hid (∀y∈L,aL y.m/\aL y.n):=η λy hy=>by
  rw [HL.o] at hy;rcases gJ.1 hy with h|h
  ·exact ZP.o y h
  exact ZQ.o y h
 refine Ai.o.mono ?_;rintro e w7 ⟨A7,c7,rfl,hO7,fh⟩;have ZR:Hid (JI L w w7 w5.heap.size (w5.heap.size+2) 0 (aH A7 (aA L) c7) []):=η ⟨by rw [show fU (L.take 0)=λ_=> [] from by funext q;simp [fU]];exact jC.o.below (aZ _) fh,aZ _,λq=>by simp,by rw [<-uD.o];exact hO7,by omega,cV.o.size,cV.o.trans ((gG.o.trans (fh.mono (by rw [uD.o];omega))).mono cV.o.size)⟩;have aGe:=mR;clear mR aGe hO7 fh Ai jC gG uD;generalize w5.heap.size=b at*;generalize b+2=lo at*;clear cV;go_wp2_with fail
 go_loopw [48] (λi wr=>∃k:Nat,k<=aA L/\i=ν k/\Hid (∃m,JI L w wr b lo k (aH A7 (aA L) c7) m)) (λi _=>aA L-(ag i).toNat)
 case atStart=>exact⟨0,bL _,rfl,_,ZR.o⟩
 case round=>
  clear ZR;obtain⟨k,hk,rfl,HM⟩:=hrel;obtain⟨m,hm⟩:=HM.o;have HW:=η hm;have hsz:=hm.b.size;clear hm HM;by_cases hlt:k<aA L
  ·obtain⟨b',o,rfl,hb',d0,d1,d2⟩:=oL (aW.cA HW.o.own) hlt;obtain⟨tK,xR⟩:=tx.o _ (cK hlt);obtain⟨q,hq⟩:∃q,q=L[k].m:=⟨_,rfl⟩;obtain⟨wv,hn⟩:∃n,n=L[k].n:=⟨_,rfl⟩;obtain⟨av,K5⟩:∃a,a=L[k].a:=⟨_,rfl⟩;rw [<-hq] at d0 tK;rw [<-hn] at d2 xR;rw [<-K5] at d1;have HQ:=η (kT hq hn);clear hq hn K5;go_wp2_with fail
   have hgb:wr.heap.size<(wr.alloc (aK #[ν q,ν av,ν wv] 76)).heap.size:=by simp
   have lL:Hid ((wr.alloc (aK #[ν q,ν av,ν wv] 76)).cell? ⟨wr.heap.size,0,aB⟩=aC (ν q)/\(wr.alloc (aK #[ν q,ν av,ν wv] 76)).cell? ⟨wr.heap.size,2,aB⟩=aC (ν wv)):=η ⟨by rw [cL _ _ _ _ rfl];rfl,by rw [cL _ _ _ _ rfl];rfl⟩;have gB:Hid (JI L w (wr.alloc (aK #[ν q,ν av,ν wv] 76)) b lo k (aH (aC ⟨b',o,aB⟩) (aA L) c7) m):=η (HW.o.below σ);have rK:Hid (aC wr.heap.size≠(mE q m).ownBlock):=η λe=>by have:=((HW.o.g.slot q).lt _ e.symm).2;omega
   have yA:Hid (wr.heap.size≠b):=η (by have:=HW.o.g.map.lt;omega);clear d0 d1 d2;generalize wr.alloc (aK #[ν q,ν av,ν wv] 76)=w2 at*;generalize wr.heap.size=gb at*;have Hl:=gB.o.g.map;have kK:Hid (∀W,eX aM 3 encI W b m->(Instr.lookup 272 (.map (aC b)) (ν q) aP).run aM W= .ok (mE q m) W):=η λW hW=>eX.look (P:=aM) aP Be Gg (z:=aH aB 0 0) (by kernel_rfl) hW gB.o.g.dom tK
   refine wp_region_held_drew (S:=λw'=>w'.cell? ⟨gb,0,aB⟩=aC (ν q)/\w'.cell? ⟨gb,2,aB⟩=aC (ν wv)) (by kernel_rfl) ?_ (λhHeld=> ?_)
   ·exact lL.o
   obtain⟨i0,bu,hz0,fj,hz2⟩:=dL a4g;have gV:aA (fU (L.take k) q)<=1000:=by have:=(Ul (L:=L.take k) (λy hy=>(tx.o y (List.mem_of_mem_take hy)).2) q).1;rw [uz] at this;omega
   have Ew:b+1<=w2.heap.size:=by have:=Hl.lt;omega
   refine js (i:=0) (v:= .map (aC b)) rfl (by kernel_rfl) (by kernel_rfl) (by kernel_rfl) (λ_ _ _ h=>h) (aS ⟨by rfl,λw' hSw=>by obtain⟨Hn,Ho⟩:=hSw;go_simp⟩) hHeld ?_;refine js (i:=1) (v:=π gb) rfl (by kernel_rfl) (by kernel_rfl) (by kernel_rfl) (λ_ _ _ h=>h) (aS ⟨by rfl,λw' hSw=>by obtain⟨Hn,Ho⟩:=hSw;go_simp⟩) hHeld ?_;refine js (i:=2) (v:=ν q) rfl (by kernel_rfl) (by kernel_rfl) (by kernel_rfl) (λ_ _ _ h=>h) (aS ⟨by rfl,λw' hSw=>by obtain⟨Hn,Ho⟩:=hSw;go_simp⟩) hHeld ?_;refine js (i:=3) (v:= .map (aC b)) rfl (by kernel_rfl) (by kernel_rfl) (by kernel_rfl) (λ_ _ _ h=>h) (aS ⟨by rfl,λw' hSw=>by obtain⟨Hn,Ho⟩:=hSw;go_simp⟩) hHeld ?_;refine js (i:=4) (v:=π gb) rfl (by kernel_rfl) (by kernel_rfl) (by kernel_rfl) (λ_ _ _ h=>h) (aS ⟨by rfl,λw' hSw=>by obtain⟨Hn,Ho⟩:=hSw;go_simp⟩) hHeld ?_;refine js (i:=5) (v:=ν q) rfl (by kernel_rfl) (by kernel_rfl) (by kernel_rfl) (λ_ _ _ h=>h) (aS ⟨by rfl,λw' hSw=>by obtain⟨Hn,Ho⟩:=hSw;go_simp⟩) hHeld ?_;refine js (i:=7) (v:=bF (aC ⟨gb,2,aB⟩)) rfl (by kernel_rfl) (by kernel_rfl) (by kernel_rfl) (λ_ _ _ h=>h) (aS ⟨by rfl,λw' hSw=>by obtain⟨Hn,Ho⟩:=hSw;go_simp⟩) hHeld ?_;refine js (i:=8) (v:=ν wv) rfl (by kernel_rfl) (by kernel_rfl) (by kernel_rfl) (λ_ _ _ h=>h) (aS ⟨by rfl,λw' hSw=>by obtain⟨Hn,Ho⟩:=hSw;go_simp⟩) hHeld ?_;refine pW (rs:= [6,9]) (by kernel_rfl) (by simp) ?_;refine ma rfl (λK hK=> ?_) (ma rfl (λK hK=> ?_) oV)
   ·have hlk:=kK.o _ Hl.drew;go_simp
    refine hK.o _ _ hHeld (λhHeld=> ?_);clear hK K hlk;refine pW (rs:= [9]) (by kernel_rfl) (by simp) ?_;refine ma rfl (λK hK=> ?_) oV;go_simp
    refine hK.o _ _ ⟨(gh (w:=w2) (fF _ _ hgb)).trans lL.o.1,(gh (w:=w2) (fF _ _ hgb)).trans lL.o.2⟩ (λhHeld=> ?_);clear hK K;refine pW (rs:= [10]) (by kernel_rfl) (by simp) ?_;refine ma rfl (λK hK=> ?_) oV;refine AW _ rfl (.tmp 58) (.tmp 61) 53 rfl (b+1) 2 i0 _ 1 8 mP bu hz0 fj hz2 rfl (by decide) (mE q m) _ _ rfl ((gB.o.g.slot q).alloc _) ⟨w2.heap.size,0,aB⟩ 1 1 [ν wv] rfl rfl (dN _ _ #[_] (by simp)) (by intro u hu;simp at hu;rw [hu];rfl) (by decide) (by simp only [bM];omega) (by omega) (by simp;omega) (w2.heap.size+1) (by simp) ?_;intro g cap w4 pN iM zq _;have kj:w2.grownBy w4 (mE q m).ownBlock:=(Gk w2 (aK #[ν wv] 2) _).trans (c:=w4) ⟨iM.os,iM.tape,iM.output,iM.size,iM.block⟩;have pO:w4.cell? ⟨gb,0,aB⟩=aC (ν q)/\w4.cell? ⟨gb,2,aB⟩=aC (ν wv):=⟨(gh (a:=⟨gb,0,aB⟩) (kj.block gb hgb rK.o)).trans lL.o.1,(gh (a:=⟨gb,2,aB⟩) (kj.block gb hgb rK.o)).trans lL.o.2⟩;refine hK.o _ _ pO (λhHeld=> ?_);clear hK K;refine pW (rs:= [11]) (by kernel_rfl) (by simp) ?_;refine ma rfl (λK hK=> ?_) oV;obtain⟨w5,hrun,zo,ej⟩:=lC.put (v':=aH (aC ⟨g,0,aB⟩) (aA (fU (L.take k) q)+1) cap) (ys:=fU (L.take k) q++ [wv]) Gg gB.o.g tK kj (by rw [cN,df];exact pN) (by
     rcases zq with e|e
     ·exact .inl e.symm
     exact .inr ⟨g,rfl,by omega⟩)
    refine Rz rfl _ (.tmp 52) (.tmp 54) (.tmp 62) rfl rfl rfl rfl (R:=λW=>W=w5) ⟨w5,hrun,rfl⟩ ?_;rintro w6 rfl;refine hK.o _ _ ⟨(gh (a:=⟨gb,0,aB⟩) (ej.block gb (cP hgb kj.size) (λe=>yA.o (pE e)))).trans pO.1,(gh (a:=⟨gb,2,aB⟩) (ej.block gb (cP hgb kj.size) (λe=>yA.o (pE e)))).trans pO.2⟩ (λhHeld=> ?_);clear hK K hHeld;refine Nv (by kernel_rfl) ?_ _;have qC:Hid (∃m',JI L w w6 b lo (k+1) (aH (aC ⟨b',o,aB⟩) (aA L) c7) m'):=η ⟨_,gB.o.step (w4:=w4) (v':=aH (aC ⟨g,0,aB⟩) (aA (fU (L.take k) q)+1) cap) hlt (by rw [<-HQ.o.1];exact kj) (by rw [<-HQ.o.1,<-HQ.o.2];exact zo) ej⟩;clear pN iM zq kj pO zo ej hrun;go_wp2_with fail
    go_roundw
    case rel=>exact⟨k+1,by omega,by go_num,qC⟩
    case measure=>simp [ag];omega
   go_simp
   refine hK.o _ _ ⟨(gh (w:=w2) (fF _ _ hgb)).trans lL.o.1,(gh (w:=w2) (fF _ _ hgb)).trans lL.o.2⟩ (λhHeld=> ?_);clear hK K;refine pW (rs:= [6]) (by kernel_rfl) (by simp) ?_;refine ma rfl (λK hK=> ?_) oV;have hlk:=kK.o _ (Hl.alloc (aK #[ν wv] 2)).drew;go_simp
   refine hK.o _ _ hHeld (λhHeld=> ?_);clear hlk;clear hK K;refine pW (rs:= [10]) (by kernel_rfl) (by simp) ?_;refine ma rfl (λK hK=> ?_) oV;refine AW _ rfl (.tmp 58) (.tmp 61) 53 rfl (b+1) 2 i0 _ 1 8 mP bu hz0 fj hz2 rfl (by decide) (mE q m) _ _ rfl ((gB.o.g.slot q).alloc _) ⟨w2.heap.size,0,aB⟩ 1 1 [ν wv] rfl rfl (dN _ _ #[_] (by simp)) (by intro u hu;simp at hu;rw [hu];rfl) (by decide) (by simp only [bM];omega) (by omega) (by simp;omega) (w2.heap.size+1) (by simp) ?_;intro g cap w4 pN iM zq _;have kj:w2.grownBy w4 (mE q m).ownBlock:=(Gk w2 (aK #[ν wv] 2) _).trans (c:=w4) ⟨iM.os,iM.tape,iM.output,iM.size,iM.block⟩;have pO:w4.cell? ⟨gb,0,aB⟩=aC (ν q)/\w4.cell? ⟨gb,2,aB⟩=aC (ν wv):=⟨(gh (a:=⟨gb,0,aB⟩) (kj.block gb hgb rK.o)).trans lL.o.1,(gh (a:=⟨gb,2,aB⟩) (kj.block gb hgb rK.o)).trans lL.o.2⟩;refine hK.o _ _ pO (λhHeld=> ?_);clear hK K;refine pW (rs:= [11]) (by kernel_rfl) (by simp) ?_;refine ma rfl (λK hK=> ?_) oV;obtain⟨w5,hrun,zo,ej⟩:=lC.put (v':=aH (aC ⟨g,0,aB⟩) (aA (fU (L.take k) q)+1) cap) (ys:=fU (L.take k) q++ [wv]) Gg gB.o.g tK kj (by rw [cN,df];exact pN) (by
    rcases zq with e|e
    ·exact .inl e.symm
    exact .inr ⟨g,rfl,by omega⟩)
   refine Rz rfl _ (.tmp 52) (.tmp 54) (.tmp 62) rfl rfl rfl rfl (R:=λW=>W=w5) ⟨w5,hrun,rfl⟩ ?_;rintro w6 rfl;refine hK.o _ _ ⟨(gh (a:=⟨gb,0,aB⟩) (ej.block gb (cP hgb kj.size) (λe=>yA.o (pE e)))).trans pO.1,(gh (a:=⟨gb,2,aB⟩) (ej.block gb (cP hgb kj.size) (λe=>yA.o (pE e)))).trans pO.2⟩ (λhHeld=> ?_);clear hK K hHeld;refine Nv (by kernel_rfl) ?_ _;have qC:Hid (∃m',JI L w w6 b lo (k+1) (aH (aC ⟨b',o,aB⟩) (aA L) c7) m'):=η ⟨_,gB.o.step (w4:=w4) (v':=aH (aC ⟨g,0,aB⟩) (aA (fU (L.take k) q)+1) cap) hlt (by rw [<-HQ.o.1];exact kj) (by rw [<-HQ.o.1,<-HQ.o.2];exact zo) ej⟩;clear pN iM zq kj pO zo ej hrun;go_wp2_with fail
   go_roundw
   case rel=>exact⟨k+1,by omega,by go_num,qC⟩
   case measure=>simp [ag];omega
  obtain rfl:k=aA L:=by omega
  have hg:=HW.o.g;have ij:=HW.o.len;rw [cT] at hg;have tu:=η (a3U hg (by omega) λq=>⟨by have:=(Ul (L:=L) (λy hy=>(tx.o y hy).2) q).1;omega,(Ul (L:=L) (λy hy=>(tx.o y hy).2) q).2⟩);have HR:Hid ((nj m).Pairwise (· < ·)/\∀q,q∈nj m↔∃y∈L,y.m=q):=η ⟨a5B hg.map.apart,λq=>by rw [a5A];have:=HW.o.ks q;rw [cT] at this;exact this⟩;have yE:Hid (∀W,β w W->aQ aM 129 #[aH A (aA X) c] W λe w'=>e=aT (bB #[ν (sumI (bG X)),ν 0])/\β W w'):=η λW hW=>by have:=PV X A c W (HA.o.below hW).dt (λy hy=>(ZP.o y hy).2) (by omega);rw [show iW X=sumI (bG X) from by unfold iW;rw [ifP h1],h1] at this;exact this
  have G8:Hid (∀W,β w W->aQ aM 129 #[aH B (aA Y) d] W λe w'=>e=aT (bB #[ν (sumI (bG Y)),ν 0])/\β W w'):=η λW hW=>by have:=PV Y B d W (HB.o.below hW).dt (λy hy=>(ZQ.o y hy).2) (by omega);rw [show iW Y=sumI (bG Y) from by unfold iW;rw [ifP h2],h2] at this;exact this
  have GF:Hid (aL (sumI (bG X))):=η (BO h1).2.2;have HYI:Hid (aL (sumI (bG Y))):=η (BO h2).2.2;have HJE:=η h5;have HT:Hid (IQ X Y=sumI (bG X)+sumI (bG Y)):=η rfl;have hsz:=HW.o.b.size;by_cases hT:aL (IQ X Y)
  ·have hE:=VS (f:=fU L) (ks:=nj m) λj hj=>by rw [HL.o];exact a4v h1 h2 hT _
   have hLL:rV (fU L) (nj m)=nW (fU L) (nj m):=by unfold rV;rw [ifP hE]
   rw [hE,hLL] at tu;have JE:Hid (s7 X Y=0):=η (by rw [h5];exact(eA hT).2);have hV:=(eA hT).1;have hV2:=(eA hT).2;rw [HT.o] at hV hV2;have HV:=η (kT hV hV2);clear hg ij hE hLL hT hV hV2 h1 h2 h3 h4 h5;generalize sumI (bG X)=sx at*;generalize sumI (bG Y)=sy at*;go_wp2_with fail
   refine tu.o.mono ?_;rintro e w8 ⟨A8,c8,rfl,Bb,lR⟩;have BA:=η (Bb.wide hsz);have jd:Hid (β w w8):=η (HW.o.b.trans (lR.mono hsz));clear Bb lR;go_wp2_with fail
   refine(yE.o _ jd.o).mono ?_;rintro e w9 ⟨rfl,gK⟩;have oW:Hid (β w w9):=τ jd gK;have Cb:=η (BA.o.below gK);clear gK;go_wp2_with fail
   refine(G8.o _ oW.o).mono ?_;rintro e sK ⟨rfl,vQ⟩;have xx:Hid (β w sK):=τ oW vQ;have Zp:=η (Cb.o.below vQ);clear vQ;go_wp2_with fail
   refine(PQ _ _ _ GF.o HYI.o).mono ?_;rintro e w11 ⟨rfl,rfl⟩;rw [HV.o.1,HV.o.2];go_wp2_with fail
   go_ret2;exact Or.inr ⟨JE.o,_,HR.o.1,by rw [<-HL.o];exact HR.o.2,A8,c8,by rw [<-HL.o];rfl,by rw [<-HL.o];exact Zp.o,xx.o⟩
  have JE:Hid (s7 X Y=2):=η (by rw [h5];exact(gp hT).2);have HV:=η (gp hT);rw [HT.o] at HV;rcases a3S (fU L) (nj m) with hE|hE
  ·rw [hE] at tu;clear hg ij hE hT h1 h2 h3 h4 h5;generalize sumI (bG X)=sx at*;generalize sumI (bG Y)=sy at*;generalize rV (fU L) (nj m)=gl at*;go_wp2_with fail
   refine tu.o.mono ?_;rintro e w8 ⟨A8,c8,rfl,Bb,lR⟩;have BA:=η Bb;have jd:Hid (β w w8):=η (HW.o.b.trans (lR.mono hsz));clear Bb lR;go_wp2_with fail
   refine(yE.o _ jd.o).mono ?_;rintro e w9 ⟨rfl,gK⟩;have oW:Hid (β w w9):=τ jd gK;have Cb:=η (BA.o.below gK);clear gK;go_wp2_with fail
   refine(G8.o _ oW.o).mono ?_;rintro e sK ⟨rfl,vQ⟩;have xx:Hid (β w sK):=τ oW vQ;have Zp:=η (Cb.o.below vQ);clear vQ;go_wp2_with fail
   refine(PQ _ _ _ GF.o HYI.o).mono ?_;rintro e w11 ⟨rfl,rfl⟩;rw [HV.o.1,HV.o.2];go_wp2_with fail
   go_ret2;exact aS ⟨by rw [JE.o];decide,aB,0,by rw [JE.o];rfl,iZ.nil,xx.o⟩
  rw [hE] at tu;have hGL:rV (fU L) (nj m)= []:=by unfold rV;rw [hE,ifN (by decide)]
  rw [hGL] at tu;clear hg ij hE hT h1 h2 h3 h4 h5 hGL;go_wp2_with fail
  refine tu.o.mono ?_;rintro e w8 ⟨A8,c8,rfl,Bb,lR⟩;have jd:Hid (β w w8):=η (HW.o.b.trans (lR.mono hsz));clear Bb lR;go_wp2_with fail
  go_ret2;exact aS ⟨by rw [JE.o];decide,aB,0,by rw [JE.o];rfl,iZ.nil,jd.o⟩
theorem aCM(x:ak)(L:List Lg)(A:Option aj)(c:Nat)(w:aJ)(hc:lX w x)(hs:aW w w.heap.size A (bA L))(hl:aA L<=1000)(hI:∀y∈L,aL y.m/\aL y.a/\aL y.n)(hp:∀i,aL (dY x i).a):
 aQ aM 140 #[x.val,aH A (aA L) c] w (aCL x L w):=by
 have HC:=η hc;have HS:=η hs;have HI:=η hI;have HP:=η hp;have mL:Hid (∀W,W=(w.alloc (aK #[aH x.Am (aA x.ms) x.cm,aH x.As (aA x.ss) x.cs,aH x.Ac (aA x.cy) x.cc,ν x.line,ν x.bV,ν x.lead,ν x.tr,ν x.bQ] 26)).alloc (.map #[] 0)->WI x L w W 0 []):=η (by rintro W rfl;have hg:=lC.made (w.alloc (aK #[aH x.Am (aA x.ms) x.cm,aH x.As (aA x.ss) x.cs,aH x.Ac (aA x.cy) x.cc,ν x.line,ν x.bV,ν x.lead,ν x.tr,ν x.bQ] 26));rw [show (w.alloc (aK #[aH x.Am (aA x.ms) x.cm,aH x.As (aA x.ss) x.cs,aH x.Ac (aA x.cy) x.cc,ν x.line,ν x.bV,ν x.lead,ν x.tr,ν x.bQ] 26)).heap.size=w.heap.size+1 by simp] at hg;exact⟨hg,aZ _,λq=>by simp,λj _ h=>absurd h (Nat.not_lt_zero _),(zg w x).below σ,(mQ w x).alloc (by simp) _⟩);have mR:= @run_makeMap aM;clear hc hs hI hp;unfold ak.val;go_enter func140,ntmps140
 go_wp2_with fail
 have yI:=mL.o _ rfl;clear mL;generalize (w.alloc (aK #[aH x.Am (aA x.ms) x.cm,aH x.As (aA x.ss) x.cs,aH x.Ac (aA x.cy) x.cc,ν x.line,ν x.bV,ν x.lead,ν x.tr,ν x.bQ] 26)).alloc (.map #[] 0)=w1 at yI ⊢;have HW:=η yI;clear yI;go_loopw [8,9,10,17] (λ_ _ _ i wr=>∃k:Nat,k<=aA L/\i=ν k/\Hid (∃m,WI x L w wr k m)) (λ_ _ _ i _=>aA L-(ag i).toNat)
 case atStart=>exact⟨0,bL _,rfl,_,HW.o⟩
 case round=>
  clear HW;obtain⟨k,hk,rfl,HM⟩:=hrel;obtain⟨m,hm⟩:=HM.o;have HW:=η hm;have hsz:=hm.b.size;by_cases hlt:k<aA L
  ·obtain⟨b,o,rfl,hb,d0,d1,d2⟩:=oL (HS.o.below HW.o.b) hlt;obtain⟨tK,xR,BX⟩:=HI.o _ (cK hlt);obtain⟨q,hq⟩:∃q,q=L[k].m:=⟨_,rfl⟩;obtain⟨a,ha⟩:∃a,a=L[k].a:=⟨_,rfl⟩;obtain⟨n,hn⟩:∃n,n=L[k].n:=⟨_,rfl⟩;rw [<-hq] at d0 tK;rw [<-ha] at d1 xR;rw [<-hn] at d2 BX;have HQ:=η (kT hq (kT ha hn));clear hq ha hn;have Oj:Hid (∀W,β w W->aQ aM 197 #[x.val,bU #[ν q,ν a,ν n]] W λe w'=>e=aT (bB #[ν (Aa x a n),ν (xl x a n)])/\β W w'):=η λW hW=>aLj x q a n W (HC.o.below hW) xR BX (HP.o a)
   unfold ak.val at Oj;have bT:=HW.o.bx.lt;have c0:=HW.o.bx.c0;have c1:=HW.o.bx.c1;have c2:=HW.o.bx.c2;have c3:=HW.o.bx.c3;have c4:=HW.o.bx.c4;have c5:=HW.o.bx.c5;have c6:=HW.o.bx.c6;have c7:=HW.o.bx.c7;have J3:Hid (∀o,β w (wr.alloc o)):=η λo=>HW.o.b.alloc hsz o
   obtain⟨wv,Wy⟩:∃wv,wv=Aa x a n:=⟨_,rfl⟩;obtain⟨ev,Vx⟩:∃ev,ev=xl x a n:=⟨_,rfl⟩;rw [<-Wy,<-Vx] at Oj;have HV:=η (kT Wy Vx);clear Wy Vx hm xR BX;by_cases he:ev=0
   ·subst he;go_wp2_with (go_at_call 197;refine(Oj.o _ (J3.o _)).mono ?_;rintro e w2 ⟨rfl,hb2⟩;have aV:=η hb2;clear hb2)
    have gB:Hid (WI x L w w2 k m):=η (HW.o.below (σ.trans (aV.o.mono (by simp))));have hgb:wr.heap.size<w2.heap.size:=by have:=aV.o.size;simp at this;omega
    have ve:w2.cell? ⟨wr.heap.size,0,aB⟩=aC (ν q):=by rw [aV.o.cell (p:=⟨wr.heap.size,0,aB⟩) (by simp)];simp
    have Hl:=gB.o.g.map;have kK:Hid (∀W,eX aM 3 encI W (w.heap.size+1) m->(Instr.lookup 272 (.map (aC (w.heap.size+1))) (ν q) aP).run aM W= .ok (mE q m) W):=η λW hW=>eX.look (P:=aM) aP Be Gg (z:=aH aB 0 0) (by kernel_rfl) hW gB.o.g.dom tK
    clear c0 c1 c2 c3 c4 c5 c6 c7 d0 d1 d2;have rK:Hid (aC wr.heap.size≠(mE q m).ownBlock):=η λe=>by have:=((HW.o.g.slot q).lt _ e.symm).2;omega
    have fM:Hid (aC (w.heap.size+1)≠(mE q m).ownBlock):=η λe=>by have:=((HW.o.g.slot q).lt _ e.symm).1;omega
    have yA:Hid (wr.heap.size≠w.heap.size+1):=η (by have:=HW.o.g.map.lt;omega);generalize hgg:wr.heap.size=gb at*;refine wp_region_held_drew (S:=λw'=>w'.cell? ⟨gb,0,aB⟩=aC (ν q)) (by kernel_rfl) ?_ (λhHeld=> ?_)
    ·exact ve
    obtain⟨i0,bu,hz0,fj,hz2⟩:=dL a4g;refine js (i:=0) (v:= .map (aC (w.heap.size+1))) rfl (by kernel_rfl) (by kernel_rfl) (by kernel_rfl) (λ_ _ _ h=>h) (aS ⟨by rfl,λw' hSw=>by dsimp only at hSw;go_simp⟩) hHeld ?_;refine js (i:=1) (v:=π gb) rfl (by kernel_rfl) (by kernel_rfl) (by kernel_rfl) (λ_ _ _ h=>h) (aS ⟨by rfl,λw' hSw=>by dsimp only at hSw;go_simp⟩) hHeld ?_;refine js (i:=2) (v:=ν q) rfl (by kernel_rfl) (by kernel_rfl) (by kernel_rfl) (λ_ _ _ h=>h) (aS ⟨by rfl,λw' hSw=>by dsimp only at hSw;go_simp⟩) hHeld ?_;refine js (i:=3) (v:= .map (aC (w.heap.size+1))) rfl (by kernel_rfl) (by kernel_rfl) (by kernel_rfl) (λ_ _ _ h=>h) (aS ⟨by rfl,λw' hSw=>by dsimp only at hSw;go_simp⟩) hHeld ?_;refine js (i:=4) (v:=π gb) rfl (by kernel_rfl) (by kernel_rfl) (by kernel_rfl) (λ_ _ _ h=>h) (aS ⟨by rfl,λw' hSw=>by dsimp only at hSw;go_simp⟩) hHeld ?_;refine js (i:=5) (v:=ν q) rfl (by kernel_rfl) (by kernel_rfl) (by kernel_rfl) (λ_ _ _ h=>h) (aS ⟨by rfl,λw' hSw=>by dsimp only at hSw;go_simp⟩) hHeld ?_;refine js (i:=7) (v:=ν wv) rfl (by kernel_rfl) (by kernel_rfl) (by kernel_rfl) (λ_ _ _ h=>h) (aS ⟨by rfl,λw' hSw=>by dsimp only at hSw;go_simp⟩) hHeld ?_;have gV:aA (mF x (L.take k) q)<=1000:=by have:=(Yd x (L.take k) q).1;rw [uz] at this;omega
    have Ew:w.heap.size+2<=w2.heap.size:=by have:=gB.o.b.size;have:=Hl.lt;omega
    refine pW (rs:= [6,8]) (by kernel_rfl) (by simp) ?_;refine ma rfl (λK hK=> ?_) (ma rfl (λK hK=> ?_) oV)
    ·have hlk:=kK.o _ Hl.drew;go_simp
     refine hK.o _ _ hHeld (λhHeld=> ?_);clear hK K hlk;refine pW (rs:= [8]) (by kernel_rfl) (by simp) ?_;refine ma rfl (λK hK=> ?_) oV;go_simp
     refine hK.o _ _ ((gh (w:=w2) (fF _ _ hgb)).trans ve) (λhHeld=> ?_);clear hK K;refine pW (rs:= [9]) (by kernel_rfl) (by simp) ?_;refine ma rfl (λK hK=> ?_) oV;refine AW _ rfl (.tmp 36) (.tmp 38) 53 rfl (w.heap.size+2) 2 i0 _ 1 8 mP bu hz0 fj hz2 rfl (by decide) (mE q m) _ _ rfl ((gB.o.g.slot q).alloc _) ⟨w2.heap.size,0,aB⟩ 1 1 [ν wv] rfl rfl (dN _ _ #[_] (by simp)) (by intro u hu;simp at hu;rw [hu];rfl) (by decide) (by simp only [bM];omega) (by omega) (by simp;omega) (w2.heap.size+1) (by simp) ?_;intro g cap w4 pN iM zq _;have kj:w2.grownBy w4 (mE q m).ownBlock:=(Gk w2 (aK #[ν wv] 2) _).trans (c:=w4) ⟨iM.os,iM.tape,iM.output,iM.size,iM.block⟩;have pO:w4.cell? ⟨gb,0,aB⟩=aC (ν q):=(gh (a:=⟨gb,0,aB⟩) (kj.block gb hgb rK.o)).trans ve;refine hK.o _ _ pO (λhHeld=> ?_);clear hK K;refine pW (rs:= [10]) (by kernel_rfl) (by simp) ?_;refine ma rfl (λK hK=> ?_) oV;obtain⟨w5,hrun,zo,ej⟩:=lC.put (v':=aH (aC ⟨g,0,aB⟩) (aA (mF x (L.take k) q)+1) cap) (ys:=mF x (L.take k) q++ [wv]) Gg gB.o.g tK kj (by rw [cN,df];exact pN) (by
      rcases zq with e|e
      ·exact .inl e.symm
      exact .inr ⟨g,rfl,by omega⟩)
     refine Rz rfl _ (.tmp 30) (.tmp 32) (.tmp 39) rfl rfl rfl rfl (R:=λW=>W=w5) ⟨w5,hrun,rfl⟩ ?_;rintro w6 rfl;refine hK.o _ _ ((gh (a:=⟨gb,0,aB⟩) (ej.block gb (cP hgb kj.size) (λe=>yA.o (pE e)))).trans pO) (λhHeld=> ?_);clear hK K hHeld;refine Nv (by kernel_rfl) ?_ _;have qC:Hid (∃m',WI x L w w6 (k+1) m'):=η ⟨_,gB.o.step (w4:=w4) (v':=aH (aC ⟨g,0,aB⟩) (aA (mF x (L.take k) q)+1) cap) hlt (by rw [<-HQ.o.2.1,<-HQ.o.2.2];exact HV.o.2.symm) (by rw [<-HQ.o.1];exact kj) (by rw [<-HQ.o.1,<-HQ.o.2.1,<-HQ.o.2.2,<-HV.o.1];exact zo) ej⟩;clear pN iM zq kj pO zo ej hrun;go_wp2_with fail
     go_roundw
     case rel=>exact⟨k+1,by omega,by go_num,qC⟩
     case measure=>simp [ag];omega
    go_simp
    refine hK.o _ _ ((gh (w:=w2) (fF _ _ hgb)).trans ve) (λhHeld=> ?_);clear hK K;refine pW (rs:= [6]) (by kernel_rfl) (by simp) ?_;refine ma rfl (λK hK=> ?_) oV;have hlk:=kK.o _ (Hl.alloc (aK #[ν wv] 2)).drew;go_simp
    refine hK.o _ _ hHeld (λhHeld=> ?_);clear hlk;clear hK K;refine pW (rs:= [9]) (by kernel_rfl) (by simp) ?_;refine ma rfl (λK hK=> ?_) oV;refine AW _ rfl (.tmp 36) (.tmp 38) 53 rfl (w.heap.size+2) 2 i0 _ 1 8 mP bu hz0 fj hz2 rfl (by decide) (mE q m) _ _ rfl ((gB.o.g.slot q).alloc _) ⟨w2.heap.size,0,aB⟩ 1 1 [ν wv] rfl rfl (dN _ _ #[_] (by simp)) (by intro u hu;simp at hu;rw [hu];rfl) (by decide) (by simp only [bM];omega) (by omega) (by simp;omega) (w2.heap.size+1) (by simp) ?_;intro g cap w4 pN iM zq _;have kj:w2.grownBy w4 (mE q m).ownBlock:=(Gk w2 (aK #[ν wv] 2) _).trans (c:=w4) ⟨iM.os,iM.tape,iM.output,iM.size,iM.block⟩;have pO:w4.cell? ⟨gb,0,aB⟩=aC (ν q):=(gh (a:=⟨gb,0,aB⟩) (kj.block gb hgb rK.o)).trans ve;refine hK.o _ _ pO (λhHeld=> ?_);clear hK K;refine pW (rs:= [10]) (by kernel_rfl) (by simp) ?_;refine ma rfl (λK hK=> ?_) oV;obtain⟨w5,hrun,zo,ej⟩:=lC.put (v':=aH (aC ⟨g,0,aB⟩) (aA (mF x (L.take k) q)+1) cap) (ys:=mF x (L.take k) q++ [wv]) Gg gB.o.g tK kj (by rw [cN,df];exact pN) (by
     rcases zq with e|e
     ·exact .inl e.symm
     exact .inr ⟨g,rfl,by omega⟩)
    refine Rz rfl _ (.tmp 30) (.tmp 32) (.tmp 39) rfl rfl rfl rfl (R:=λW=>W=w5) ⟨w5,hrun,rfl⟩ ?_;rintro w6 rfl;refine hK.o _ _ ((gh (a:=⟨gb,0,aB⟩) (ej.block gb (cP hgb kj.size) (λe=>yA.o (pE e)))).trans pO) (λhHeld=> ?_);clear hK K hHeld;refine Nv (by kernel_rfl) ?_ _;have qC:Hid (∃m',WI x L w w6 (k+1) m'):=η ⟨_,gB.o.step (w4:=w4) (v':=aH (aC ⟨g,0,aB⟩) (aA (mF x (L.take k) q)+1) cap) hlt (by rw [<-HQ.o.2.1,<-HQ.o.2.2];exact HV.o.2.symm) (by rw [<-HQ.o.1];exact kj) (by rw [<-HQ.o.1,<-HQ.o.2.1,<-HQ.o.2.2,<-HV.o.1];exact zo) ej⟩;clear pN iM zq kj pO zo ej hrun;go_wp2_with fail
    go_roundw
    case rel=>exact⟨k+1,by omega,by go_num,qC⟩
    case measure=>simp [ag];omega
   have y8:Hid (wthsE x L=ev):=η (by rw [HV.o.2,HQ.o.2.1,HQ.o.2.2];exact a8Z hlt (λj hj=>HW.o.ok j (by omega) hj) (by rw [<-HQ.o.2.1,<-HQ.o.2.2,<-HV.o.2];exact he));have hez:(ev=0)=False:=eq_false he;go_wp2_with (go_at_call 197;refine(Oj.o _ (J3.o _)).mono ?_;rintro e w2 ⟨rfl,hb2⟩;have aV:=η hb2;clear hb2)
   go_ret2;refine aS ⟨by rw [y8.o];exact he,aB,0,by rw [y8.o];rfl,iZ.nil,(J3.o _).trans (aV.o.mono (by simp;omega))⟩
  obtain rfl:k=aA L:=by omega
  have hg:=HW.o.g;have ij:=HW.o.len;rw [cT] at hg;have tu:=η (a3U hg (by omega) λq=>⟨by have:=(Yd x L q).1;omega,(Yd x L q).2⟩);have HE:Hid (wthsE x L=0):=η (a8Y λj hj=>HW.o.ok j hj hj);have HR:Hid ((nj m).Pairwise (· < ·)/\∀q,q∈nj m↔∃y∈L,y.m=q):=η ⟨a5B hg.map.apart,λq=>by rw [a5A];have:=HW.o.ks q;rw [cT] at this;exact this⟩;clear hg ij hm;go_wp2_with (go_at_call 198;refine tu.o.mono ?_;rintro e w2 ⟨A2,c2,rfl,hs2,hb2⟩;have cM:=η (hs2.wide HW.o.b.size);have aV:=η hb2;clear hs2 hb2)
  go_ret2;exact Or.inr ⟨HE.o,_,HR.o.1,HR.o.2,A2,c2,rfl,cM.o,HW.o.b.trans (aV.o.mono HW.o.b.size)⟩
def cu(db:Nat)(p p':Dp)(D':Dk)(w w':aJ):Prop:=bW w' db p' D'/\p'.vb=p.vb/\p'.sb=p.sb/\p'.xb=p.xb/\p'.xc=p.xc/\bC (eV db p) w w'/\∀k,eV db p' k->eV db p k\/w.heap.size<=k
theorem aq.q {db:Nat} {p:Dp} {D':Dk} {w w':aJ}(h:aq db p D' w w'):∃p',cu db p p' D' w w':=h
theorem cu.p {db:Nat} {p p':Dp} {D':Dk} {w w':aJ}(h:cu db p p' D' w w'):aq db p D' w w':=⟨p',h⟩
theorem cu.at {db:Nat} {p p':Dp} {D':Dk} {w w':aJ}(h:cu db p p' D' w w'):bW w' db p' D':=h.1
theorem cu.bZ {db:Nat} {p:Dp} {D:Dk} {w w':aJ}(H:bW w db p D)(hb:aa w.heap.size w w'):cu db p p D w w':=⟨H.below hb,rfl,rfl,rfl,rfl,bC.bZ _ hb,λ_ h=> .inl h⟩
theorem cu.trans {db:Nat} {p p1 p2:Dp} {D1 D2:Dk} {w w1 w2:aJ}(h1:cu db p p1 D1 w w1)(h2:cu db p1 p2 D2 w1 w2):cu db p p2 D2 w w2:=by obtain⟨_,e1,e2,e3,e4,hu,hs⟩:=h1;obtain⟨H2,f1,f2,f3,f4,vg,hs2⟩:=h2;exact⟨H2,f1.trans e1,f2.trans e2,f3.trans e3,f4.trans e4,hu.trans vg hs,λk hk=>(hs2 k hk).elim (hs k) (λh=> .inr (bz hu.size h))⟩
theorem cu.below {db:Nat} {p p1:Dp} {D1:Dk} {w w1 w2:aJ}(h1:cu db p p1 D1 w w1)(hb:aa w1.heap.size w1 w2):cu db p p1 D1 w w2:=h1.trans (cu.bZ h1.at hb)
theorem cu.then {db:Nat} {p p1:Dp} {D1 D2:Dk} {w w1 w2:aJ}(h1:cu db p p1 D1 w w1)(h2:aq db p1 D2 w1 w2):∃p2,cu db p p2 D2 w w2/\cu db p1 p2 D2 w1 w2:=by obtain⟨p2,h⟩:=h2.q;exact⟨p2,h1.trans h,h⟩
theorem cu.size {db:Nat} {p p1:Dp} {D1:Dk} {w w1:aJ}(h1:cu db p p1 D1 w w1):w.heap.size<=w1.heap.size:=h1.2.2.2.2.2.1.size
theorem a7H {w:aJ} {B:Nat} {A:Option aj} {xs:List aN}(h:aW w B A xs)(hx:xs≠ []):∀q,A=aC q->q.block<B:=by
 intro q hq;subst hq;cases xs with
 |nil=>exact absurd rfl hx
 |cons u us=>
  obtain⟨b,o,e,hb,_⟩:=h.at (k:=0) (by simp);injection e with e;subst e;exact hb
structure iI(db:Nat)(p:Dp)(w:aJ)(A:Option aj)(xs:List aN):Prop where
 dt:aW w w.heap.size A xs
 o:xs≠ []->∀q,A=aC q->¬eV db p q.block
theorem iI.IY {db:Nat} {p:Dp} {D:Dk} {w w':aJ} {A:Option aj} {c:Nat} {L:List Lg}(H:bW w db p D)(h:iZ w w' A c L):iI db p w' A (bA L):=
 ⟨h.1,λ_ q hq hs=>by have h1:=H.uW hs;have h2:=h.2.1 q hq;omega⟩
theorem iI.cA {db:Nat} {p:Dp} {D:Dk} {w w':aJ} {A:Option aj} {e:bY} {s n c:Nat} {xs:List aN}(H:bW w db p D)(h:w'.ownsRow w.heap.size e s (aH A n c) n xs):iI db p w' A xs:=
 ⟨aW.cA h,λ_ q hq hs=>by subst hq;have h1:=H.uW hs;have h2:=(h.lt q.block rfl).1;omega⟩
theorem iI.below {db:Nat} {p:Dp} {w w':aJ} {A:Option aj} {xs:List aN}(h:iI db p w A xs)(hb:aa w.heap.size w w'):iI db p w' A xs:=⟨(h.dt.below hb).mono hb.size,h.o⟩
theorem iI.step {db:Nat} {p p':Dp} {D':Dk} {w w':aJ} {A:Option aj} {xs:List aN}(h:iI db p w A xs)(hq:cu db p p' D' w w'):iI db p' w' A xs:=by
 obtain⟨_,_,_,_,_,hu,hs⟩:=hq;refine⟨hu.dt h.dt h.o,λhx q hq h'=> ?_⟩;rcases hs _ h' with h1|h1
 ·exact h.o hx q hq h1
 have:=a7H h.dt hx q hq;omega
theorem iI.nil {db:Nat} {p:Dp} {w:aJ}:iI db p w aB []:=⟨aW.nil,λh=>absurd rfl h⟩
structure oA(db:Nat)(p:Dp)(w w':aJ)(A:Option aj)(c:Nat)(L:List Lg):Prop where
 o:iI db p w' A (bA L)
 new:∀q,A=aC q->w.heap.size<=q.block
 nil:A=aB->aA L=0/\c=0
theorem oA.IY {db:Nat} {p:Dp} {D:Dk} {w w':aJ} {A:Option aj} {c:Nat} {L:List Lg}(H:bW w db p D)(h:iZ w w' A c L):oA db p w w' A c L:=⟨.IY H h,h.2.1,h.2.2⟩
theorem oA.wide {db:Nat} {p:Dp} {w0 w w':aJ} {A:Option aj} {c:Nat} {L:List Lg}(h:oA db p w w' A c L)(hz:w0.heap.size<=w.heap.size):oA db p w0 w' A c L:=⟨h.o,λq hq=>bz hz (h.new q hq),h.nil⟩
theorem oA.step {db:Nat} {p p':Dp} {D':Dk} {w0 w w':aJ} {A:Option aj} {c:Nat} {L:List Lg}(h:oA db p w0 w A c L)(hq:cu db p p' D' w w'):oA db p' w0 w' A c L:=⟨h.o.step hq,h.new,h.nil⟩
theorem oA.below {db:Nat} {p:Dp} {w0 w w':aJ} {A:Option aj} {c:Nat} {L:List Lg}(h:oA db p w0 w A c L)(hb:aa w.heap.size w w'):oA db p w0 w' A c L:=⟨h.o.below hb,h.new,h.nil⟩
def jU(D:Dk)(s:Int):List Lg:=jf (balA (aA D.x.ms) (aA D.x.ss+1) D.l 1 0 s) (di D s)
def oI(D:Dk)(s:Int):List Lg:=jm (balA (aA D.x.ms) (aA D.x.ss+1) D.l 1 0 s) (di D s)
def Es(D:Dk)(s:Int):Dk:=jy (iw D (jU D s)) 14 (oI D s)
def Hand(db:Nat)(p:Dp)(D':Dk)(G K:List Lg)(w:aJ)(e:dU)(w':aJ):Prop:=∃A c B d p',e=aT (bB #[aH A (aA G) c,aH B (aA K) d])/\cu db p p' D' w w'/\oA db p' w w' A c G/\oA db p' w w' B d K
theorem aEt(db:Nat)(p:Dp)(D:Dk)(s:Int)(w:aJ)(H:bW w db p D)(hb:aL (balA (aA D.x.ms) (aA D.x.ss+1) D.l 1 0 s))(hO:∀k,k<=aA (jU D s)->fX (iw D ((jU D s).take k)))(hI:∀x∈jU D s,aL x.m/\aL x.a/\aL x.n/\0<=x.n)(hl:aA (jU D s)<=80000)(hg:(iw D (jU D s)).log.length+aA (oI D s)<=90000)(hk:aA (oI D s)<=80000):
 aQ aM 71 #[π db,ν s] w (Hand db p (Es D s) (jU D s) (oI D s) w):=by
 have QE:fX D:=hO 0 (bL _);have rE:Hid (Es D s=jy (iw D (jU D s)) 14 (oI D s)):=η rfl;have ew:=η (λW (hW:β w W)=>zk db p D 1 0 s W (H.below hW) (by decide) (by decide));have y9:=η (λW (hW:β w W)=>MA db p D s W (H.below hW) QE);have CP:=η (MN QE.ob s);have kA:aA (di D s)<=100000:=by have h1:=Q5 D s;have h2:=QE.ob.len;omega
 have yz:=η hb;have HF:=η H;have EA:=η (λW p' (h:bW W db p' D) A c (ho:iI db p' W A (bA (jU D s)))=>a2g db p' D (jU D s) A c W h ho.dt ho.o hO hI (by omega));have Sw:=η (λW p' (h:bW W db p' (iw D (jU D s))) A c (ho:iI db p' W A (bA (oI D s)))=>a2C db p' (iw D (jU D s)) (oI D s) 14 A c W h ho.dt ho.o hg hk);clear H hb hO QE hI hg;have Eo:jU D s=jf (balA (aA D.x.ms) (aA D.x.ss+1) D.l 1 0 s) (di D s):=rfl;have K4:oI D s=jm (balA (aA D.x.ms) (aA D.x.ss+1) D.l 1 0 s) (di D s):=rfl;rw [rE.o];have Tm:=η (λW A c (hs:aW W W.heap.size A (bA (di D s)))=>(a7a (balA (aA D.x.ms) (aA D.x.ss+1) D.l 1 0 s) (di D s) A c W yz.o hs CP.o kA));rw [<-Eo,<-K4] at Tm;clear Eo K4 rE;generalize balA (aA D.x.ms) (aA D.x.ss+1) D.l 1 0 s=bq at*;generalize jU D s=G at*;generalize oI D s=K at*;generalize di D s=L at*;generalize jJ bq L=se at*;go_enter func71,ntmps71
 go_upto_region 2 with (first|(go_at_call 61;refine(xG _).mono ?_;rintro e w2 ⟨rfl,hb2⟩;have aV:=η hb2;clear hb2)|(go_at_call 46;refine(ew.o _ aV.o).mono ?_;rintro e w3 ⟨rfl,hb3⟩;have af:=τ aV hb3;clear hb3)|(go_at_call 68;refine(y9.o _ af.o).mono ?_;rintro e w4 ⟨v4,rfl,gz,hb4⟩;have ar:=τ af hb4;obtain⟨A4,c4,hv4⟩:=bK gz;subst hv4;have jP:=η (aW.cA gz);clear gz hb4)|(go_at_call 137;refine(Tm.o _ A4 c4 jP.o).mono ?_;rintro e w5 ⟨A5,c5,B5,d5,rfl,I8,hm5,cj⟩;have cV:=τ ar cj;have og:=η (oA.IY HF.o (I8.wide ar.o.size));have OP:=η (oA.IY HF.o (hm5.wide ar.o.size));have ot:=η (cu.bZ HF.o cV.o);clear I8 hm5 cj))
 clear ew y9 Tm aV af ar jP cV;go_upto_region 3 with (go_at_call 138;refine(EA.o _ p ot.o.at A5 c5 og.o.o).mono ?_;rintro e w6 ⟨rfl,h6⟩;obtain⟨p6,FC,Mx⟩:=ot.o.then h6;have ou:=η FC;have wV:=η (og.o.step Mx);have JH:=η (OP.o.step Mx);clear h6 FC Mx og OP ot)
 go_wp2_with (go_at_call 139;refine(Sw.o _ p6 ou.o.at B5 d5 JH.o.o).mono ?_;rintro e w7 ⟨rfl,h7⟩;obtain⟨p7,Qi,Db⟩:=ou.o.then h7;have qW:=η Qi;have EH:=η (wV.o.step Db);have OQ:=η (JH.o.step Db);clear h7 Qi Db wV JH ou)
 go_ret2;exact⟨A5,c5,B5,d5,p7,rfl,qW.o,EH.o,OQ.o⟩
def xW(x:Int):List Int->List Int
 | []=> [x]
 |y::l=>if x<y then x::y::l else if x=y then y::l else y::xW x l
theorem XN {x q:Int}:∀ {l:List Int},q∈xW x l↔q=x\/q∈l
 | []=>by simp [xW]
 |y::l=>by
  unfold xW;by_cases h:x<y
  ·rw [ifP h];simp
  rw [ifN h];by_cases h2:x=y
  ·rw [ifP h2];subst h2;simp
  rw [ifN h2,fC,XN,fC];constructor
  ·rintro (h|h|h)
   ·exact .inr (.inl h)
   ·exact .inl h
   exact .inr (.inr h)
  rintro (h|h|h)
  ·exact .inr (.inl h)
  ·exact .inl h
  exact .inr (.inr h)
theorem a4k {x:Int}:∀ {l:List Int},l.Pairwise (· < ·)->(xW x l).Pairwise (· < ·)
 | [],_=>by simp [xW]
 |y::l,h=>by
  obtain⟨h1,h2⟩:=kX.1 h;unfold xW;by_cases hx:x<y
  ·rw [ifP hx];refine kX.2 ⟨λz hz=> ?_,h⟩;rcases fC.1 hz with rfl|hz
   ·exact hx
   have:=h1 z hz;omega
  rw [ifN hx];by_cases h3:x=y
  ·rw [ifP h3];exact h
  rw [ifN h3];refine kX.2 ⟨λz hz=> ?_,a4k h2⟩;rcases XN.1 hz with rfl|hz
  ·omega
  exact h1 z hz
theorem a4j {x:Int}:∀ {l:List Int},aA (xW x l)<=aA l+1
 | []=>by simp [xW]
 |y::l=>by
  have:=a4j (x:=x) (l:=l);unfold xW;split
  ·simp
  split
  ·simp
  simp only [uF];omega
def xX(L:List Lg):List Int:=L.foldr (λy ks=>xW y.m ks) []
theorem aHO(L:List Lg):(xX L).Pairwise (· < ·):=by
 induction L with
 |nil=>exact U5
 |cons y L ih=>exact a4k ih
theorem RH(L:List Lg)(q:Int):q∈xX L↔∃y∈L,y.m=q:=by
 induction L with
 |nil=>simp [xX]
 |cons y L ih=>
  have e:xX (y::L)=xW y.m (xX L):=rfl;rw [e,XN,ih];constructor
  ·rintro (h|⟨z,hz,h⟩)
   ·exact⟨y,by simp,h.symm⟩
   exact⟨z,by simp [hz],h⟩
  rintro⟨z,hz,h⟩;rcases fC.1 hz with rfl|hz
  ·exact .inl h.symm
  exact .inr ⟨z,hz,h⟩
theorem a5F(L:List Lg):aA (xX L)<=aA L:=by
 induction L with
 |nil=>simp [xX]
 |cons y L ih=>
  have e:xX (y::L)=xW y.m (xX L):=rfl;have:=a4j (x:=y.m) (l:=xX L);rw [e,uF];omega
theorem a5E {L:List Lg} {ks:List Int}(h:ks.Pairwise (· < ·))(hm:∀q,q∈ks↔∃y∈L,y.m=q):ks=xX L:=
 a7V h (aHO L) (λq=>(hm q).trans (RH L q).symm)
def oU(x:ak)(K:List Lg):List Lg:=if wthsE x K=0 then rV (mF x K) (xX K) else []
def Df(X Y:List Lg):List Lg:=if s7 X Y=0 then nW (fU (X++Y)) (xX (X++Y)) else []
theorem a3Q {f:Int->List Int}:∀ {ks:List Int},gatE f ks=0->∀k∈ks,aL (sumI (f k))
 | [],_,k,hk=>by cases hk
 |x::xs,h,k,hk=>by
  unfold gatE at h;by_cases hx:aL (sumI (f x))
  ·rw [ifP hx] at h;rcases fC.1 hk with rfl|hk
   ·exact hx
   exact a3Q h k hk
  rw [ifN hx] at h;cases h
theorem a3T(f:Int->List Int)(ks:List Int):aA (nW f ks)=aA ks:=by simp [nW]
theorem aFj(f:Int->List Int)(ks:List Int):aA (rV f ks)<=aA ks:=by
 unfold rV;split
 ·rw [a3T];exact aZ _
 simp
theorem YZ(x:ak)(K:List Lg):aA (oU x K)<=aA K:=by
 unfold oU;split
 ·exact bz (aFj _ _) (a5F K)
 simp
theorem aLi {x:ak} {K:List Lg}(h:∀y∈K,aL y.m):∀y∈oU x K,aL y.m/\aL y.n:=by
 intro y hy;unfold oU at hy;split at hy
 ·unfold rV at hy;split at hy
  ·rename_i he;unfold nW at hy;obtain⟨k,hk,rfl⟩:=dW.1 hy;obtain⟨z,hz,hzk⟩:=(RH K k).1 hk;exact⟨hzk▸h z hz,a3Q he k hk⟩
  cases hy
 cases hy
theorem a4x(X Y:List Lg):aA (Df X Y)<=aA X+aA Y:=by
 unfold Df;split
 ·rw [a3T];exact bz (a5F _) (by simp)
 simp
theorem a4w {X Y:List Lg}:∀y∈Df X Y,aL y.n:=by
 intro y hy;unfold Df at hy;split at hy
 ·rename_i he;unfold nW at hy;obtain⟨k,hk,rfl⟩:=dW.1 hy;rcases a4u X Y with⟨h1,h2⟩|⟨h1,h2,h3⟩|⟨h1,h2,h3,h4⟩|⟨h1,h2,h3,h4,h5⟩|⟨h1,h2,h3,h4,h5⟩
  ·rw [he] at h2;exact absurd h2.symm h1
  ·rw [he] at h3;exact absurd h3.symm h2
  ·rw [he] at h4;cases h4
  ·rw [he] at h5;cases h5
  refine a4v h1 h2 ?_ k;rw [he] at h5;by_cases hT:aL (IQ X Y)
  ·exact hT
  rw [(gp hT).2] at h5;cases h5
 cases hy
def gZ(D:Dk)(K:List Lg):List Lg:=Df (di D 0) (oU D.x K)
def vz(D:Dk)(K:List Lg):Int:=KP D (iW (gZ D K))
def dg(D:Dk)(K:List Lg):Dk:=lq D (vz D K)
def j7(D:Dk)(K:List Lg):List Lg:=zi (balA (dg D K).x.ms.length ((dg D K).x.ss.length+1) (dg D K).l 1 0 0) (gZ D K)
def mY(D:Dk)(K:List Lg):List Lg:=zj (balA (dg D K).x.ms.length ((dg D K).x.ss.length+1) (dg D K).l 1 0 0) (gZ D K)
def Ib(D:Dk)(K:List Lg):Dk:=jy (iw (dg D K) (j7 D K)) 15 (mY D K)
structure P5(D:Dk)(K:List Lg):Prop where
 ok:fX D
 b0:aL (balA (aA D.x.ms) (aA D.x.ss+1) D.l 1 0 0)
 kl:aA K<=400
 kI:∀y∈K,aL y.m/\aL y.a/\aL y.n
 sp:∀i,aL (dY D.x i).a
 gl:aA (di D 0)<=400
 gm:∀y∈di D 0,aL y.m
 ml:aA D.x.ms<=100000
 wI:∀x∈D.who,aL x
 nI:aL (vz D K)
 dO:∀k,k<=aA (iE D (vz D K))->fX (oG D ((iE D (vz D K)).take k))
 dI:∀x∈iE D (vz D K),aL x.k/\aL x.m/\aL x.n/\0<=x.n
 dl:aA (iE D (vz D K))<=100000
 b1:aL (balA (dg D K).x.ms.length ((dg D K).x.ss.length+1) (dg D K).l 1 0 0)
 gO:∀k,k<=aA (j7 D K)->fX (iw (dg D K) ((j7 D K).take k))
 gI:∀x∈j7 D K,aL x.m/\aL x.a/\aL x.n/\0<=x.n
 pl:aA (j7 D K)<=80000
 lg:(iw (dg D K) (j7 D K)).log.length+aA (mY D K)<=90000
 ll:aA (mY D K)<=80000
theorem aF2(db:Nat)(p:Dp)(D:Dk)(K:List Lg)(A:Option aj)(c:Nat)(w:aJ)(H:bW w db p D)(hs:aW w w.heap.size A (bA K))(P:P5 D K):
 aQ aM 72 #[π db,aH A (aA K) c] w (Hand db p (Ib D K) (j7 D K) (mY D K) w):=by
 have HF:=η H;have y9:=η (λW (hW:β w W)=>MA db p D 0 W (H.below hW) P.ok);have Tx:=η (aCM D.x K A c w H.src hs (by have:=P.kl;omega) P.kI P.sp);have OG:=η (λW A B c d (h1:sS W A c (di D 0)) (h2:sS W B d (oU D.x K))=>a9q (di D 0) (oU D.x K) A B c d W h1 h2 (by have:=P.gl;omega) (by have:=P.kl;have:=YZ D.x K;omega) (λy hy=>⟨P.gm y hy,MN P.ok.ob 0 y hy⟩) (λy hy=>aLi (λz hz=>(P.kI z hz).1) y hy));have km:aA (gZ D K)<=100000:=by have h1:=P.gl;have h2:=P.kl;have h3:=YZ D.x K;have h4:=a4x (di D 0) (oU D.x K);unfold gZ;omega
 have LS:=η (λW A c (hs:aW W W.heap.size A (bA (gZ D K)))=>V8 (gZ D K) A c W hs a4w km);have kK:=η (λW (hW:β w W)=>a2l db p D (iW (gZ D K)) W (H.below hW) (SC _) P.b0);have JA:=η (λW (hW:β w W)=>VA db p D (vz D K) W (H.below hW) P.nI P.ml P.wI (by have:=P.ok.wl;omega) P.dO P.dI P.dl);have EK:=η (λW A c (hs:aW W W.heap.size A (bA (gZ D K)))=>aJD (balA (dg D K).x.ms.length ((dg D K).x.ss.length+1) (dg D K).l 1 0 0) (gZ D K) A c W P.b1 hs a4w km);have ew:=η (λW p' (h:bW W db p' (dg D K))=>zk db p' (dg D K) 1 0 0 W h (by decide) (by decide));have EA:=η (λW p' (h:bW W db p' (dg D K)) A c (ho:iI db p' W A (bA (j7 D K)))=>a2g db p' (dg D K) (j7 D K) A c W h ho.dt ho.o P.gO P.gI (by have:=P.pl;omega));have Sw:=η (λW p' (h:bW W db p' (iw (dg D K) (j7 D K))) A c (ho:iI db p' W A (bA (mY D K)))=>a2C db p' (iw (dg D K) (j7 D K)) (mY D K) 15 A c W h ho.dt ho.o P.lg P.ll);obtain⟨c0,c1,c2,c3,c4,c5,c6,c7,c8,c9,c10,c11,c12,c13,c14,c15⟩:=H.cells;have MT:lq D (vz D K)=dg D K:=rfl;rw [MT] at JA;have hE2:KP D (iW (gZ D K))=vz D K:=rfl;rw [hE2] at kK;have hE3:zi (balA (dg D K).x.ms.length ((dg D K).x.ss.length+1) (dg D K).l 1 0 0) (gZ D K)=j7 D K:=rfl;have MU:zj (balA (dg D K).x.ms.length ((dg D K).x.ss.length+1) (dg D K).l 1 0 0) (gZ D K)=mY D K:=rfl;rw [hE3,MU] at EK;have hE5:Ib D K=jy (iw (dg D K) (j7 D K)) 15 (mY D K):=rfl;rw [hE5];unfold ak.val at Tx;have LB:Hid (∀W A B c d,sS W A c (di D 0)->sS W B d (oU D.x K)->aQ aM 141 #[aH A (aA (di D 0)) c,aH B (aA (oU D.x K)) d] W λe W'=>∃er,Fm (gZ D K) er W e W'):=η (λW A B c d h1 h2=>(OG.o W A B c d h1 h2).mono (by
  rintro e W' (⟨h,hg⟩|⟨h,ks,zw,hk2,hg⟩)
  ·refine⟨s7 (di D 0) (oU D.x K), ?_⟩;have e2:gZ D K= []:=by unfold gZ Df;rw [ifN h]
   rw [e2];exact hg
  refine⟨0, ?_⟩;have e2:gZ D K=nW (fU (di D 0++oU D.x K)) ks:=by rw [a5E zw hk2];unfold gZ Df;rw [ifP h]
  rw [e2];exact hg))
 have gB:Hid (aQ aM 140 #[bU #[aH D.x.Am (aA D.x.ms) D.x.cm,aH D.x.As (aA D.x.ss) D.x.cs,aH D.x.Ac (aA D.x.cy) D.x.cc,ν D.x.line,ν D.x.bV,ν D.x.lead,ν D.x.tr,ν D.x.bQ],aH A (aA K) c] w λe W'=>∃er,Fm (oU D.x K) er w e W'):=η (Tx.o.mono (by
  rintro e W' (⟨h,hg⟩|⟨h,ks,zw,hk2,hg⟩)
  ·refine⟨wthsE D.x K, ?_⟩;have e2:oU D.x K= []:=by unfold oU;rw [ifN h]
   rw [e2];exact hg
  refine⟨gatE (mF D.x K) ks, ?_⟩;have e2:oU D.x K=rV (mF D.x K) ks:=by rw [a5E zw hk2];unfold oU;rw [ifP h]
  rw [e2];exact hg))
 clear OG Tx MT hE2 hE3 MU hE5;generalize balA (dg D K).x.ms.length ((dg D K).x.ss.length+1) (dg D K).l 1 0 0=bq at*;generalize yT bq (gZ D K)=pe at*;generalize j7 D K=G at*;generalize mY D K=L at*;generalize dg D K=E at*;generalize vz D K=n at*;generalize gZ D K=O at*;generalize oU D.x K=V at*;generalize di D 0=X at*;generalize iW O=sv at*;go_enter func72,ntmps72
 go_upto_region 2 with (go_at_call 140;refine gB.o.mono ?_;rintro e w1 ⟨er,A1,k1,rfl,kB,hb1⟩;have aR:=η hb1;have yH:=η kB.src)
 go_upto_region 3 with (first|(go_at_call 68;refine(y9.o _ aR.o).mono ?_;rintro e w2 ⟨v2,rfl,eR,hb2⟩;obtain⟨A2,k2,hv2⟩:=bK eR;subst hv2;have kM:=η ((⟨aW.cA eR,Ia eR⟩:sS w2 A2 k2 X));have aV:=τ aR hb2;have Tt:=η (yH.o.below hb2))|(go_at_call 141;refine(LB.o _ A2 A1 k2 k1 kM.o Tt.o).mono ?_;rintro e w3 ⟨er3,A3,k3,rfl,nh,hb3⟩;have af:=τ aV hb3;have cD:=η (iI.IY HF.o (nh.wide aV.o.size))))
 go_upto_region 4 with (first|(go_at_call 67;refine(LS.o _ A3 k3 cD.o.dt).mono ?_;rintro e w4 ⟨rfl,hb4⟩;have ar:=τ af hb4;have dV:=η (cD.o.below hb4))|(go_at_call 66;refine(kK.o _ ar.o).mono ?_;rintro e w5 ⟨rfl,cj⟩;have cV:=τ ar cj;have fL:=η (dV.o.below cj))|(go_at_call 65;refine(JA.o _ cV.o).mono ?_;rintro e w6 ⟨rfl,h6⟩;obtain⟨p6,FC,Mx⟩:=(cu.bZ HF.o cV.o).then h6;have ou:=η FC;have kL:=η (fL.o.step Mx)))
 go_upto_region 5 with (first|(go_at_call 61;refine(xG _).mono ?_;rintro e w7 ⟨rfl,fh⟩;have qW:=η (ou.o.below fh);have oh:=η (kL.o.below fh))|(go_at_call 46;refine(ew.o _ p6 qW.o.at).mono ?_;rintro e w8 ⟨rfl,lR⟩;have ow:=η (qW.o.below lR);have tz:=η (oh.o.below lR))|(go_at_call 142;refine(EK.o _ A3 k3 tz.o.dt).mono ?_;rintro e w9 ⟨A5,c5,B5,d5,rfl,hn9,hm9,gK⟩;have JK:=η ((oA.IY ow.o.at hn9).wide ow.o.size);have zD:=η ((oA.IY ow.o.at hm9).wide ow.o.size);have sO:=η (ow.o.below gK)))
 go_upto_region 6 with (go_at_call 138;refine(EA.o _ p6 sO.o.at A5 c5 JK.o.o).mono ?_;rintro e wa ⟨rfl,ha⟩;obtain⟨pa,Qk,hra⟩:=sO.o.then ha;have Zm:=η Qk;have HNa:=η (JK.o.step hra);have Zc:=η (zD.o.step hra))
 go_wp2_with (go_at_call 139;refine(Sw.o _ pa Zm.o.at B5 d5 Zc.o.o).mono ?_;rintro e wb ⟨rfl,hb⟩;obtain⟨pb,KH,KJ⟩:=Zm.o.then hb;have HQb:=η KH;have HNb:=η (HNa.o.step KJ);have HMb:=η (Zc.o.step KJ))
 go_ret2;exact⟨A5,c5,B5,d5,pb,rfl,HQb.o,HNb.o,HMb.o⟩
def takeN(x:Bd)(la ca:Int):Int:=min x.q (min la (ca/x.p))
def mZ:List Bd->Int->Int->List Fi
 | [],_,_=> []
 |x::L,la,ca=>if la=0 then [] else if takeN x la ca=0 then mZ L la ca else⟨x,takeN x la ca,takeN x la ca*x.p⟩::mZ L (la-takeN x la ca) (ca-takeN x la ca*x.p)
theorem aFU:(aM.info? 208).map (λi=>(i.zero,i.size,i.bytes))=aC (aC (bU #[aG aF 0,aG aF 0,aG aF 0,aG aF 0,aG aF 0,aG aF 0,aG aF 0]),7,56):=by kernel_rfl
theorem aFT(l:List Fi)(x:Fi):BR (l++ [x])=BR l++x.cells:=by simp [BR]
theorem aFV(x:Fi):∀u∈x.cells,u.oneCell'=aO:=by intro u hu;simp [Fi.cells] at hu;rcases hu with rfl|rfl|rfl|rfl|rfl|rfl|rfl<;>rfl
theorem XZ {w:aJ} {b t st n:Nat} {v:aN} {l:List aN}(h:w.ownsRow b t st v n l)(m:Nat):(w.drewN m).ownsRow b t st v n l:=h
theorem aLA {s m c q p a b n:Int}(hq:0<=q)(ha:0<=a)(hb:0<=b)(hp:0<p)(hn:n=(if b/p<if a<q then a else q then b/p else if a<q then a else q)):0<=n/\n<=q/\n<=a/\n*p<=b/\n=takeN ⟨s,m,c,q,p⟩ a b:=by
 have h1:0<=b/p:=Int.ediv_nonneg hb (by omega);have h2:b/p*p<=b:=Int.ediv_mul_le b (by omega);have h3:n<=b/p:=by split at hn<;>split at hn<;>omega
 refine⟨by split at hn<;>split at hn<;>omega,by split at hn<;>split at hn<;>omega,by split at hn<;>split at hn<;>omega,ju (La h3 (by omega)) h2, ?_⟩;unfold takeN;show n=min q (min a (b/p));split at hn<;>split at hn<;>omega
theorem aCk(L:List Bd)(A:Option aj)(c:Nat)(la ca:Int)(w:aJ)(hs:aW w w.heap.size A (nR L))(he:uJ L la ca=0)(WO:aL la)(qp:aL ca)(hI:∀x∈L,aL x.q/\aL x.p):
 aQ aM 133 #[aH A (aA L) c,ν la,ν ca] w λe w'=>∃v,e=aT (bB #[v,ν 0])/\w'.ownsRow w.heap.size 208 7 v (aA (mZ L la ca)) (BR (mZ L la ca))/\β w w':=by
 have HS:=η hs;have hg:aA L<=1024/\0<=la/\0<=ca/\L.any rR=aP:=by
  unfold uJ at he;by_cases h1:1024<aA L
  ·rw [ifP h1] at he;cases he
  rw [ifN h1] at he;by_cases h2:la<0\/ca<0\/L.any rR=aO
  ·rw [ifP h2] at he;cases he
  exact⟨by omega,by omega,by omega,by cases h:L.any rR;rfl;exact absurd (.inr (.inr h)) h2⟩
 obtain⟨hl,h0,h1,h2⟩:=hg;have pd:=η (aCQ L A c la ca w hs (by omega));rw [he] at pd;have HP:Hid (∀x∈L,1<=x.q/\1<=x.p/\aL x.q/\aL x.p):=η λx hx=>by have:=zO.1 h2 x hx;simp [rR] at this;exact⟨by omega,by omega,hI x hx⟩
 obtain⟨i0,bu,hz0,fj,xV⟩:=dL aFU;obtain⟨R,HR⟩:∃R,Hid (mZ L la ca=R):=⟨_,η rfl⟩;have uC:Hid (R= []++mZ (L.drop 0) la ca):=η HR.o.symm;rw [HR.o];obtain⟨a4O,WO⟩:=WO;obtain⟨a4G,qp⟩:=qp;go_enter func133,ntmps133
 go_wp2_with fail
 go_step3
 go_wp2_with (go_at_call 192;refine pd.o.mono ?_;rintro e w1 ⟨rfl,hb1⟩;have aR:=η hb1)
 go_step3
 go_wp2_with fail
 go_loopw [1,2,9,11,12,22] (λlv cv u _ _ i wr=>∃(k:Nat) (a b:Int) (F:List Fi),k<=aA L/\i=ν (k:Int)/\lv=ν a/\cv=ν b/\0<=a/\a<=9223372036854775807/\0<=b/\b<=9223372036854775807/\aA F<=k/\Hid (R=F++mZ (L.drop k) a b)/\Hid (wr.ownsRow w.heap.size 208 7 u (aA F) (BR F))/\Hid (β w wr)) (λ_ _ _ _ _ i _=>aA L-(ag i).toNat)
 case atStart=>exact⟨0,la,ca,[],bL _,rfl,rfl,rfl,h0,WO,h1,qp,aZ _,uC,gC _ _ _ _,aR⟩
 case round=>
  obtain⟨k,a,b,F,hk,rfl,rfl,rfl,ha0,ha1,hb0,hb1,hF,HR,HO,HB⟩:=hrel;have hsz:=HB.o.size;by_cases hlt:k<aA L
  ·obtain⟨bb,oo,rfl,iy,d0,d1,d2,d3,d4⟩:=PY ((HS.o.below HB.o).mono hsz) hlt;obtain⟨p1,p2,p3,p4⟩:=HP.o _ (cK hlt);have JA:Hid (L.drop k=L[k]::L.drop (k+1)):=η (Ja hlt);have hkb:(k:Int)<(aA L:Int):=by omega
   generalize L[k]=x at*;obtain⟨xs,xm,xc,xq,xp⟩:=x;simp only at p1 p2 p3 p4 d0 d1 d2 d3 d4;unfold aL at p3 p4;go_upto_region 8 with fail
   go_quiet (fail)
   obtain⟨n,hn⟩:∃n,n=(if b/xp<if a<xq then a else xq then b/xp else if a<xq then a else xq):=⟨_,rfl⟩;rw [<-hn];obtain⟨t1,t2,t3,t4,t5⟩:=aLA (s:=xs) (m:=xm) (c:=xc) (show 0<=xq by omega) ha0 hb0 (show 0<xp by omega) hn;clear hn;rw [JA.o] at HR;by_cases X4:a=0
   ·subst X4;have lN:Hid (R=F):=η (by rw [HR.o];simp [mZ]);go_wp2_with fail
    rw [a8j];go_ret2;rw [lN.o];exact⟨_,rfl,XZ ((HO.o.alloc _)) nq,below_drewN (HB.o.alloc hsz _) nq⟩
   by_cases De:n=0
   ·subst De;have lN:Hid (R=F++mZ (L.drop (k+1)) a b):=η (by rw [HR.o];simp [mZ,X4,<-t5]);clear HR;go_wp2_with fail
    go_roundw
    case rel=>exact⟨k+1,a,b,F,by omega,by go_num,rfl,rfl,ha0,ha1,hb0,hb1,by omega,lN,η (XZ (HO.o.alloc _) nq),η (below_drewN (HB.o.alloc hsz _) nq)⟩
    case measure=>simp [ag];omega
   have t6:0<=n*xp:=Int.mul_nonneg t1 (by omega);have jM:Hid (R=(F++ [⟨⟨xs,xm,xc,xq,xp⟩,n,n*xp⟩])++mZ (L.drop (k+1)) (a-n) (b-n*xp)):=η (by rw [HR.o];simp [mZ,X4,<-t5,De]);clear HR;have yb:fS (n*xp)=n*xp:=by unfold fS;omega
   have hw2:fS (a-n)=a-n:=by unfold fS;omega
   have hw3:fS (b-n*xp)=b-n*xp:=by unfold fS;omega
   have cD:=η (XZ (HO.o.alloc (aK #[ν xs,ν xm,ν xc,ν xq,ν xp] 41)) nq);have hzF:(aA F:Int)<=1024:=by omega
   clear t5;generalize hzz:n*xp=z at*;go_wp2_with (at_builtin;refine j9 _ rfl _ _ 201 rfl w.heap.size 208 i0 _ 7 56 underlying201 bu hz0 fj xV rfl (by decide) _ (aA F) (BR F) rfl (cD.o.alloc _) ⟨wr.heap.size+1,0,aB⟩ 1 1 (Fi.cells ⟨⟨xs,xm,xc,xq,xp⟩,n,z⟩) rfl rfl ?c1 (aFV _) ?c3 ?c4 ?c5 ?_)
   case c1=>exact dN _ _ #[_,_,_,_,_,_,_] (by simp)
   case c3=>simp only [bM];omega
   case c4=>omega
   case c5=>simp;omega
   intro v' w4 hown1 dF _;have dV:Hid (w4.ownsRow w.heap.size 208 7 v' (aA (F++ [(⟨⟨xs,xm,xc,xq,xp⟩,n,z⟩:Fi)])) (BR (F++ [⟨⟨xs,xm,xc,xq,xp⟩,n,z⟩]))):=by show jw _ _ _ _ _ _ _;rw [aFT,cN,uG];exact hown1
   have ar:Hid (β w w4):=η (((below_drewN (HB.o.alloc hsz _) nq).alloc (by simp;omega) _).grown dF (by simp;omega) (λj hj=>eT cD.o j hj));have hbl:w4.heap[wr.heap.size]? =aC (aK #[ν xs,ν xm,ν xc,ν xq,ν xp] 41):=by
    refine(dF.block _ (by simp;omega) (λhe=> ?_)).trans ?_
    ·have:=(HO.o.lt _ he.symm).2;omega
    rw [fF _ _ (by simp)];exact cO _ _
   have hc4:w4.cell? ⟨wr.heap.size,4,aB⟩=aC (ν xp):=by
    first
     |(simp [World.cell?,hbl];done)
     |(simp [World.cell?,aJ.aN1,hbl];done)
   clear hown1 dF hbl;go_wp2_with fail
   go_roundw
   case rel=>exact⟨k+1,a-n,b-z,F++ [⟨⟨xs,xm,xc,xq,xp⟩,n,z⟩],by omega,by go_num,rfl,rfl,by omega,by omega,by omega,by omega,by rw [cN,uG];omega,jM,dV,ar⟩
   case measure=>simp [ag];omega
  obtain rfl:k=aA L:=by omega
  have lN:Hid (R=F):=η (by rw [HR.o];simp [mZ]);go_wp2_with fail
  rw [a8j];go_ret2;rw [lN.o];exact⟨_,rfl,HO.o,HB.o⟩
def fP(s:Int)(x:Fi):List En:= [⟨7,x.b.m,s,-x.q⟩,⟨1,0,s,x.q⟩,⟨1,0,0,-x.c⟩,⟨7,x.b.m,0,x.c⟩]
def eK(D:Dk)(es:List En):List Int:=if lV (aA D.x.ms) (aA D.x.ss+1) D.l D.h es=0 then kD (aA D.x.ms) (aA D.x.ss+1) D.l es else D.l
def Hg(s:Int)(D:Dk)(x:Fi):Dk:= {D with l:=eK D (fP s x),log:=D.log++ [⟨12,x.b.m,s,x.q,x.b.s⟩,⟨19,x.b.m,0,x.c,x.b.s⟩]}
def tG(s:Int)(D:Dk)(L:List Fi):Dk:=L.foldl (Hg s) D
theorem aFW {s:Int} {D:Dk} {L:List Fi} {k:Nat}(h:k<aA L):tG s D (L.take (k+1))=Hg s (tG s D (L.take k)) L[k]:=by rw [fE h];unfold tG;rw [List.foldl_append];rfl
def Fh(D:Dk)(s:Int)(Bs:List Bd):Prop:=∃is,JY ((qP D.bx s).map bk) is/\Bs=is.map λi=>(qP D.bx s).getD i ⟨0,0,0,0,0⟩
def yR(D:Dk):Int:=yQ D+r8 (jo D) D.who
def mn(D:Dk)(s:Int)(Bs:List Bd):List Fi:=mZ Bs (jK D s) (yR D)
def pH(D:Dk)(s:Int)(Bs:List Bd):Int:=rS (mn D s Bs)-yQ D
def Jm(D:Dk)(s:Int)(Bs:List Bd):Dk:=tG s (lq D (pH D s Bs)) (mn D s Bs)
structure Yl(D:Dk)(s:Int)(Bs:List Bd):Prop where
 cI:aL (yR D)
 au:uJ Bs (jK D s) (yR D)=0
 bI:∀x∈Bs,aL x.q/\aL x.p
 nI:aL (pH D s Bs)
 dO:∀k,k<=aA (iE D (pH D s Bs))->fX (oG D ((iE D (pH D s Bs)).take k))
 dI:∀x∈iE D (pH D s Bs),aL x.k/\aL x.m/\aL x.n/\0<=x.n
 dl:aA (iE D (pH D s Bs))<=100000
 fO:∀k,k<=aA (mn D s Bs)->fX (tG s (lq D (pH D s Bs)) ((mn D s Bs).take k))
 fI:∀x∈mn D s Bs,aL x.b.m/\aL x.q/\aL x.c/\0<=x.q/\0<=x.c
 fl:aA (mn D s Bs)<=80000
structure SY(D:Dk)(s:Int):Prop where
 ok:fX D
 sI:aL s
 bs:aL (balA (aA D.x.ms) (aA D.x.ss+1) D.l 1 0 s)
 b0:aL (balA (aA D.x.ms) (aA D.x.ss+1) D.l 1 0 0)
 ml:aA D.x.ms<=100000
 wI:∀x∈D.who,aL x
 xI:∀d∈D.bx,aL d.s
 all:jK D s≠0->∀Bs,Fh D s Bs->Yl D s Bs
def Iy(D:Dk)(s:Int)(D':Dk):Prop:=(jK D s=0/\D'=D)\/(jK D s≠0/\∃Bs,Fh D s Bs/\D'=Jm D s Bs)
theorem wE {n:Int}(h:aL n):aF.wrap n=n:=by rw [fZ];unfold aL at h;omega
theorem aKU(a:Int)(L:List Lg):aL (AV a L):=by
 unfold AV;split
 ·unfold yh;split
  ·decide
  split
  ·exact Um _
  decide
 decide
theorem aJ1(a b:Int):aL (pS a b):=by
 unfold pS;split
 ·decide
 split
 ·assumption
 decide
theorem aEn(db:Nat)(p:Dp)(D:Dk)(s:Int)(w:aJ)(H:bW w db p D)(P:SY D s):
 aQ aM 70 #[π db,ν s] w λe w'=>e=aT (bB #[])/\∃D',Iy D s D'/\aq db p D' w w':=by
 have HF:=η H;have HP:=η P;have ur:=η (VD db p D s w H P.ok P.bs);have xP:=H.lt;clear H P;by_cases h0:jK D s=0
 ·rw [h0] at ur;have HR:Hid (Iy D s D):=η (.inl ⟨h0,rfl⟩);clear h0 HP;go_enter aB9,aBv
  go_wp2_with (go_at_call 69;refine ur.o.mono ?_;rintro e w1 ⟨rfl,hb1⟩;have aR:=η hb1;clear hb1)
  (try simp only [Exit.inBlock,Exit.then])
  refine bodyPost_ret (results_none rfl _ _ _) rfl ?_;exact⟨rfl,D,HR.o,aq.bZ HF.o aR.o⟩
 have hb0:(jK D s==0)=aP:=by simpa using h0
 have od:=η h0;have E6:=η (HP.o.all h0);clear h0;have CY:=η (λW (hW:β w W)=>a2o db p D W (HF.o.below hW) HP.o.ml);obtain⟨Aw,cw,hv⟩:=bK HF.o.who;have pB:=η (λW (hW:β w W)=>(show aW W W.heap.size Aw (D.who.map (aG aF)) by have h1:=(HF.o.below hW).who;rw [hv] at h1;exact aW.cA h1));have bO:=η (λW (hW:β w W)=>(show W.cell? ⟨db,11,aB⟩=aC (aH Aw (aA D.who) cw) from(by rw [<-hv];exact(HF.o.below hW).cells.c11)));have J8:=η (λW (hW:β w W)=>(HF.o.below hW).cells.c10);have Ks:=η (λW (hW:β w W)=>aEm db p D W (HF.o.below hW) HP.o.ok HP.o.b0);have yE:=η (λW (hW:β w W)=>aM6 p.xc p.xv D.bx s p.xb W (HF.o.below hW).bx (by have:=HP.o.ok.bl;omega) HP.o.xI);have LU:Hid (aL (jK D s)):=η (aKU _ _);have HR:Hid (∀Bs D',Fh D s Bs->D'=Jm D s Bs->Iy D s D'):=η (λBs D' h e=> .inr ⟨od.o,Bs,h,e⟩);have LY:Hid (aA D.who<=1000):=η (by have:=HP.o.ok.wl;omega);have IL:=LY.o;go_enter aB9,aBv
 go_upto_region 2 with (go_at_call 69;refine ur.o.mono ?_;rintro e w1 ⟨rfl,hb1⟩;have aR:=η hb1;clear hb1)
 have bP:β w w1.drew:=aR.o.drew;have hdd:=bO.o _ bP;clear ur aR;go_region_held3 (λW=>W.cell? ⟨db,11,aB⟩=aC (aH Aw (aA D.who) cw)) (first|(with_reducible assumption)) (first|(go_at_call 128;refine(CY.o _ (by with_reducible assumption)).mono ?_;rintro e w2 ⟨P,rfl,mU,jV,uT,xU,FB,hb2⟩;have dX:β w w2:=jt (by with_reducible assumption) (hb2.mono (gT (by with_reducible assumption)));have hcc:=bO.o _ dX)|(go_at_call 132;refine(aK1 P D.who Aw cw _ FB (by rw [mU,pI];simp only [bM];have:=HP.o.ml;omega) (pB.o _ dX) IL HP.o.wI).mono ?_;rintro e w3 ⟨rfl,hb3⟩;have Vr:=dX.trans (hb3.mono dX.size);have hc3:=bO.o _ Vr))
 all_goals
  rw [aK0 mU jV uT xU];have af:=η Vr;generalize gF P D.who=me at*;clear mU jV uT xU FB hb2 dX hcc hb3 Vr hc3 bP hdd CY pB bO;have c10:=J8.o _ af.o;have CH:Hid (yQ D+r8 (jo D) D.who=yR D):=η rfl;have yz:Hid (aL (yQ D)):=η (aJ1 _ _);have JR:Hid (∀Bs,mZ Bs (jK D s) (yR D)=mn D s Bs):=η (λ_=>rfl);have HNF:Hid (∀Bs,rS (mn D s Bs)-yQ D=pH D s Bs):=η (λ_=>rfl);have HDF:Hid (∀Bs,Jm D s Bs=tG s (lq D (pH D s Bs)) (mn D s Bs)):=η (λ_=>rfl);clear J8;generalize r8 (jo D) D.who=rv at*;have rN:Hid (∀Bs,Fh D s Bs->aF.wrap (yQ D+rv)=yR D):=η (λBs h=>by rw [CH.o];exact wE (E6.o Bs h).cI);go_upto_region 4 with (first|(go_at_call 134;refine(yE.o _ af.o).mono ?_;rintro e w4 ⟨v4,is,rfl,WD,gz,hb4⟩;obtain⟨A4,k4,hv4⟩:=bK gz;subst hv4;have ar:=τ af hb4;have ir:Hid (Fh D s (is.map λi=>(qP D.bx s).getD i ⟨0,0,0,0,0⟩)):=η ⟨is,WD,rfl⟩;have jP:=η (aW.cA gz);have nY:aA is=aA (is.map λi=>(qP D.bx s).getD i ⟨0,0,0,0,0⟩):=(by simp);clear gz hb4 WD yE;rw [nY];clear nY;generalize (is.map λi=>(qP D.bx s).getD i (⟨0,0,0,0,0⟩:Bd))=Bs at*;have dP:=η (E6.o Bs ir.o))|(go_at_call 135;refine(Ks.o _ ar.o).mono ?_;rintro e w5 ⟨rfl,cj⟩;have cV:=τ ar cj;have Ca:=η ((jP.o.below cj).mono cj.size);have hwr:=rN.o Bs ir.o;clear cj ar jP)|(go_at_call 133;refine(aCk Bs A4 k4 (jK D s) (yR D) _ Ca.o dP.o.au LU.o dP.o.cI dP.o.bI).mono ?_;rintro e w6 ⟨v6,rfl,tN,iT⟩;obtain⟨A6,k6,hv6⟩:=bK tN;subst hv6;rw [JR.o] at tN ⊢;have gG:=τ cV iT;have kL:=η (iI.cA HF.o (iB tN cV.o.size));clear tN iT cV Ca hwr))
  clear af c10;have Fq:=η dP.o.fl;have gV:=Fq.o;have Z9:=η (λW (hW:β w W)=>VA db p D (pH D s Bs) W (HF.o.below hW) dP.o.nI HP.o.ml HP.o.wI LY.o dP.o.dO dP.o.dI dP.o.dl);have hwr:aF.wrap (rS (mn D s Bs)-yQ D)=pH D s Bs:=wE dP.o.nI;have HFO:=η dP.o.fO;have JB:=η dP.o.fI;have HSI:=η HP.o.sI;have px:Hid (Iy D s (tG s (lq D (pH D s Bs)) (mn D s Bs))):=η (HR.o Bs _ ir.o rfl);clear dP ir HR E6 LU CH JR HDF yz HNF;generalize pH D s Bs=bn at*;generalize mn D s Bs=L at*;generalize lq D bn=D1 at*;go_upto_region 5 with (first|(go_at_call 136;refine(aEO L A6 k6 _ kL.o.dt (by have:=Fq.o;omega)).mono ?_;rintro e w7 ⟨rfl,fh⟩;have uj:=τ gG fh;have oh:=η (kL.o.below fh);clear fh kL gG)|(go_at_call 135;refine(Ks.o _ uj.o).mono ?_;rintro e w8 ⟨rfl,lR⟩;have jd:=τ uj lR;have tz:=η (oh.o.below lR);clear lR oh uj)|(go_at_call 65;refine(Z9.o _ jd.o).mono ?_;rintro e w9 ⟨rfl,h9⟩;obtain⟨p9,AD,FH⟩:=(cu.bZ HF.o jd.o).then h9;have sO:=η AD;have wW:=η (tz.o.step FH);clear h9 AD FH tz jd))
  clear Z9 Ks hwr;have iX:Hid (aq db p9 (tG s D1 (L.take 0)) w9 w9):=η (aq.refl sO.o.at);have BB:Hid (∀W D2,aq db p9 D2 w9 W->aW W W.heap.size A6 (BR L)):=η (λW D2 h=>by obtain⟨_,_,_,_,_,_,hu,_⟩:=h;exact hu.dt wW.o.dt wW.o.o);clear wW;go_wp2_with fail
  go_loopw [10,11,51] (λ_ _ i wr=>∃k:Nat,k<=aA L/\i=ν (k:Int)/\Hid (aq db p9 (tG s D1 (L.take k)) w9 wr)) (λ_ _ i _=>aA L-(ag i).toNat)
  case atStart=>exact⟨0,bL _,rfl,iX⟩
  case round=>
   clear iX;obtain⟨k,hk,rfl,LP⟩:=hrel;by_cases hlt:k<aA L
   ·obtain⟨bl,ol,kO,hbl,l0,l1,l2,l3,l4,l5,l6⟩:=a3J (BB.o _ _ LP.o) hlt;have eY:(0:Int)<=(k:Int):=by omega
    have hkb:(k:Int)<(aA L:Int):=by omega
    obtain⟨p1,h1,e1,e2,e3,e4,dA,hs1⟩:=LP.o;have HFk:=η h1;have mh:Hid (∀j,eV db p1 j->j<wr.heap.size):=η (λj hj=>h1.uW hj);have HT:Hid (∀W D2,aq db p1 D2 wr W->aq db p9 D2 w9 W):=η (λW D2 h=>aq.trans dA hs1 ⟨e1,e2,e3,e4⟩ h);have HL:=η (aFW (s:=s) (D:=D1) hlt);have TW:=η (HFO.o k hk);obtain⟨qL,qM,rZ,vV,WA⟩:=JB.o _ (cK hlt);clear h1 e1 e2 e3 e4 dA hs1 LP;subst kO;generalize tG s D1 (L.take k)=E at*;generalize L[k]=x at*;obtain⟨⟨fs,fm,fe,fr,fp⟩,fq,fc⟩:=x;simp only at l0 l1 l2 l3 l4 l5 l6 qL qM rZ vV WA;have oY:=η (kT qL (kT qM (kT rZ (kT vV WA))));have hwq:aF.wrap (-fq)= -fq:=wE (by unfold aL at qM ⊢;omega);have hwc:aF.wrap (-fc)= -fc:=wE (by unfold aL at rZ ⊢;omega);have um:Hid (Hg s E ⟨⟨fs,fm,fe,fr,fp⟩,fq,fc⟩= {E with l:=eK E (fP s ⟨⟨fs,fm,fe,fr,fp⟩,fq,fc⟩),log:=E.log++ [⟨12,fm,s,fq,fs⟩,⟨19,fm,0,fc,fs⟩]}):=η rfl;have ar:Hid (β wr (wr.alloc (aK #[ν fs,ν fm,ν fe,ν fr,ν fp,ν fq,ν fc] 208))):=η σ;have pC:Hid ((wr.alloc (aK #[ν fs,ν fm,ν fe,ν fr,ν fp,ν fq,ν fc] 208)).heap[wr.heap.size]? =aC (aK #[ν fs,ν fm,ν fe,ν fr,ν fp,ν fq,ν fc] 208 (0,0))):=η (cO wr _);have mW:wr.heap.size<(wr.alloc (aK #[ν fs,ν fm,ν fe,ν fr,ν fp,ν fq,ν fc] 208)).heap.size:=by simp
    clear qL qM rZ vV WA;go_upto_region 8 with (fail)
    generalize wr.alloc (aK #[ν fs,ν fm,ν fe,ν fr,ν fp,ν fq,ν fc] 208)=w4 at*;obtain⟨bx,bT⟩:∃bx,bx=wr.heap.size:=⟨_,rfl⟩;have dH:=η bT;rw [<-bT] at pC mW ⊢;clear bT l0 l1 l2 l3 l4 l5 l6;have x1:w4.cell? ⟨bx,1,aB⟩=aC (ν fm):=ρ pC.o;go_upto_region 9 with (fail)
    clear x1;have lG:=η (HFk.o.below ar.o);have bX:Hid (¬eV db p1 bx):=η (λh=>by have:=mh.o bx h;rw [dH.o] at this;omega);have bO:Hid (∀W,β w4 W->W.cell? ⟨db,8,aB⟩=aC (π p1.vb)/\W.cell? ⟨bx,0,aB⟩=aC (ν fs)/\W.cell? ⟨bx,5,aB⟩=aC (ν fq)/\W.cell? ⟨bx,6,aB⟩=aC (ν fc)):=η (λW hW=>by have hd:=(hW.block bx mW).trans pC.o;exact⟨(lG.o.below hW).cells.c8,ρ hd,ρ hd,ρ hd⟩);have lZ:Hid (∀W b,β w4 W->aW W W.heap.size (aC ⟨b,0,aB⟩) (qm (fP s ⟨⟨fs,fm,fe,fr,fp⟩,fq,fc⟩))->aQ aM 50 #[π p1.vb,aH (aC ⟨b,0,aB⟩) 4 4] W λe W'=>e=aT (ν (lV (aA E.x.ms) (aA E.x.ss+1) E.l E.h (fP s ⟨⟨fs,fm,fe,fr,fp⟩,fq,fc⟩)))/\aq db p1 {E with l:=eK E (fP s ⟨⟨fs,fm,fe,fr,fp⟩,fq,fc⟩)} W W'/\W'.cell? ⟨db,8,aB⟩=aC (π p1.vb)/\W'.cell? ⟨bx,0,aB⟩=aC (ν fs)/\W'.cell? ⟨bx,5,aB⟩=aC (ν fq)/\W'.cell? ⟨bx,6,aB⟩=aC (ν fc)):=η (λW b hW nC=>by
     refine(YV p1.vb p1.vp (aA E.x.ms) (aA E.x.ss+1) (aA E.x.ms) E.l E.h (fP s ⟨⟨fs,fm,fe,fr,fp⟩,fq,fc⟩) (aC ⟨b,0,aB⟩) 4 W (lG.o.below hW).vt nC ?_ TW.o.lI (by have:=TW.o.hl;omega) (by simp [fP])).mono ?_
     ·have h2:=oY.o;have h3:=HSI.o;intro y hy;simp only [fP,fC,List.not_mem_nil,or_false] at hy;rcases hy with rfl|rfl|rfl|rfl
      ·exact⟨(by decide:aL 7),h2.1,h3,(by have:=h2.2.1;have:=h2.2.2.2.1;unfold aL at*;simp only;omega)⟩
      ·exact⟨(by decide:aL 1),(by decide:aL 0),h3,h2.2.1⟩
      ·exact⟨(by decide:aL 1),(by decide:aL 0),(by decide:aL 0),(by have:=h2.2.2.1;have:=h2.2.2.2.2;unfold aL at*;simp only;omega)⟩
      exact⟨(by decide:aL 7),h2.1,(by decide:aL 0),h2.2.2.1⟩
     intro e W' h;obtain⟨q1,q2⟩:=(lG.o.below hW).moved h;have hz:=cP mW hW.size;obtain⟨_,r0,r1,r2⟩:=bO.o W hW;obtain⟨p3,H3,f1,f2,f3,f4,qN,hs3⟩:=q2;have Ri:aq db p1 {E with l:=eK E (fP s ⟨⟨fs,fm,fe,fr,fp⟩,fq,fc⟩)} W W':=⟨p3,H3,f1,f2,f3,f4,qN,hs3⟩;exact⟨q1,Ri,by rw [<-f1];exact H3.cells.c8,(Ri.cell 0 hz bX.o).trans r0,(Ri.cell 5 hz bX.o).trans r1,(Ri.cell 6 hz bX.o).trans r2⟩)
    have bP:β w4 w4.drew:=(aX _ _).drew;have hdd:=bO.o _ bP;go_region_held3 (λW=>W.cell? ⟨db,8,aB⟩=aC (π p1.vb)/\W.cell? ⟨bx,0,aB⟩=aC (ν fs)/\W.cell? ⟨bx,5,aB⟩=aC (ν fq)/\W.cell? ⟨bx,6,aB⟩=aC (ν fc)) (first|(with_reducible assumption)|(refine bO.o _ (rC (by with_reducible assumption) (gT (by with_reducible assumption)) _))) (first|(go_at_call 61;refine(xG _).mono ?_;rintro e w5 ⟨rfl,gD⟩;have qK:β w4 w5:=jt (by with_reducible assumption) (gD.mono (gT (by with_reducible assumption)));have hcc:=bO.o _ qK)|(go_at_call 49;refine(Ed fm _).mono ?_;rintro e w6 ⟨rfl,tI⟩;have xN:β w4 w6:=jt (by with_reducible assumption) (tI.mono (gT (by with_reducible assumption)));have qu:=bO.o _ xN)|(go_at_call 50;refine(lZ.o _ _ (rC (by with_reducible assumption) (gT (by with_reducible assumption)) _) (a7I _ _ (qm (fP s ⟨⟨fs,fm,fe,fr,fp⟩,fq,fc⟩)))).mono ?_;rintro e w7 ⟨rfl,dE,zy⟩))
    all_goals
     have gA:Hid (aq db p1 {E with l:=eK E (fP s ⟨⟨fs,fm,fe,fr,fp⟩,fq,fc⟩)} wr w7):=η (aq.trans (bC.bZ _ (ar.o.trans (Below.mono (rC (by with_reducible assumption) (gT (by with_reducible assumption)) _) ar.o.size))) (λ_ h=> .inl h) ⟨rfl,rfl,rfl,rfl⟩ dE);obtain⟨_,m0,m1,m2⟩:=zy;have IP:bx<w7.heap.size:=World.block_lt_of_cell? _ _ m0;clear dE gD qK hcc tI xN qu bP hdd lZ bO lG ar pC mW;obtain⟨p4,H4,e1,e2,e3,e4,qO,j5⟩:=gA.o;have kU:=η (H4.below ((aX w7.heap.size w7).alloc (aZ _) (aK #[ν 12,ν fm,ν s,ν fq,ν fs,ν 19,ν fm,ν 0,ν fc,ν fs] 45)));have kW:=η (xK db p4 {E with l:=eK E (fP s ⟨⟨fs,fm,fe,fr,fp⟩,fq,fc⟩)} [⟨12,fm,s,fq,fs⟩,⟨19,fm,0,fc,fs⟩] w7.heap.size 2 _ kU.o (dN w7 45 #[ν 12,ν fm,ν s,ν fq,ν fs,ν 19,ν fm,ν 0,ν fc,ν fs] rfl) (by simp) (by simp) (by have:=TW.o.gl;simp only;omega));have pg:Hid (∀W,aq db p4 {E with l:=eK E (fP s ⟨⟨fs,fm,fe,fr,fp⟩,fq,fc⟩),log:=E.log++ [⟨12,fm,s,fq,fs⟩,⟨19,fm,0,fc,fs⟩]} (w7.alloc (aK #[ν 12,ν fm,ν s,ν fq,ν fs,ν 19,ν fm,ν 0,ν fc,ν fs] 45)) W->aq db p9 (tG s D1 (L.take (k+1))) w9 W):=η (λW h=>by rw [HL.o,um.o];exact HT.o W _ (aq.trans qO j5 ⟨e1,e2,e3,e4⟩ (aq.trans (bC.bZ _ σ) (λ_ h=> .inl h) ⟨rfl,rfl,rfl,rfl⟩ h)));clear H4 e1 e2 e3 e4 qO j5 gA;go_wp2_with (go_at_call 55;refine kW.o.mono ?_;rintro e w8 ⟨rfl,h8⟩;have dw:=η (pg.o _ h8);clear h8)
     go_roundw
     case rel=>exact⟨k+1,by omega,by go_num,dw⟩
     case measure=>simp [ag];omega
   obtain rfl:k=aA L:=by omega
   rw [cT] at LP;go_wp2_with fail
   go_end0
   obtain⟨pz,hqz,_⟩:=sO.o.then LP.o;exact⟨rfl,_,px.o,hqz.p⟩
def Sg(w:aJ)(zs:List Int)(e:dU)(w':aJ):Prop:=∃A c,e=aT (aH A (aA zs) c)/\w'.ownsRow w.heap.size 3 1 (aH A (aA zs) c) (aA zs) (zs.map (aG aF))/\aa w.heap.size w w'
theorem a6A(zs:List Int)(A:Option aj)(c:Nat)(w:aJ)(h:aW w w.heap.size A (zs.map (aG aF)))(hl:aA zs<=1000000):
 aQ aM 179 #[aH A (aA zs) c] w (Sg w (qx zs)):=by
 have HS:=η h;have HE:=η (show qx zs=sU (zs.mergeSort λx y=>decide (x<=y)) from rfl);rcases Nat.eq_zero_or_pos (aA zs) with h0|h0
 ·have hz:zs= []:=nO h0;subst hz;cases A with
  |none=>
   go_enter a0b,a0v
   go_wp2_with fail
   refine(slices_Clone_int_nil 0 c _).mono ?_;rintro e w1 ⟨rfl,rfl⟩;go_wp2_with fail
   refine(slices_Sort_int_none aB 0 _).mono ?_;rintro e w2 ⟨rfl,rfl⟩;go_wp2_with fail
   refine(slices_Compact_int_empty aB 0 _).mono ?_;rintro e w3 ⟨rfl,rfl⟩;go_wp2_with fail
   go_ret;exact⟨aB,0,by rw [RX];rfl,by rw [RX];exact gC _ _ _ _,aX _ _⟩
  |some a=>
   go_enter a0b,a0v
   go_wp2_with fail
   refine(slices_Clone_int_zero a c _).mono ?_;rintro e w1 ⟨v1,rfl,eB,_,hb1⟩;obtain⟨A1,c1,rfl⟩:=bK eB;have aR:=η hb1;have cE:=η eB;go_wp2_with fail
   refine(slices_Sort_int_none A1 c1 _).mono ?_;rintro e w2 ⟨rfl,rfl⟩;go_wp2_with fail
   refine(slices_Compact_int_empty A1 c1 _).mono ?_;rintro e w3 ⟨rfl,rfl⟩;go_wp2_with fail
   go_ret;exact⟨A1,c1,by rw [RX];rfl,by rw [RX];exact cE.o,aR.o⟩
 obtain⟨b,o,rfl,hb,_⟩:=tP HS.o h0;go_enter a0b,a0v
 go_wp2_with fail
 refine(slices_Clone_int b o (aA zs) c zs _ (aZ _) (by omega) (Y1 HS.o)).mono ?_;rintro e w1 ⟨v1,rfl,eB,_,hb1⟩;rw [cT] at eB;obtain⟨g,cap,rfl,hg,hlt⟩:=eB.form h0;have cE:=η eB;have aR:=η hb1;have hz1:=hb1.size;clear eB hb1;go_wp2_with fail
 refine(aIZ zs g cap w.heap.size w _ hg cE.o hl aR.o hz1).mono ?_;rintro e w2 ⟨rfl,eR,hb2⟩;have ij:aA (zs.mergeSort λx y=>decide (x<=y))=aA zs:=List.length_mergeSort _;generalize (zs.mergeSort λx y=>decide (x<=y))=ms at*;rw [<-ij] at eR;have dD:=η eR;have aV:=η hb2;have hz2:=hb2.size;have aGd:aA ms<=1000000:=by omega
 clear eR hb2;rw [<-ij];clear ij;go_wp2_with fail
 refine(aEC ms g cap w.heap.size w _ hg dD.o aGd aV.o hz2).mono ?_;rintro e w3 ⟨rfl,iz,hb3⟩;have cD:=η iz;have af:=η hb3;clear iz hb3;go_wp2_with fail
 go_ret;rw [HE.o];exact⟨_,_,rfl,cD.o,af.o⟩
theorem aFL(L:List Ob)(A:Option aj)(c:Nat)(w:aJ)(hs:aW w w.heap.size A (fK L))(hl:aA L<=1000000):
 aQ aM 121 #[aH A (aA L) c] w (Sg w (qx ((L.filter λx=>x.st==1&&BQ x).map (·.m)))):=by
 have HC:=η (aIm L A c BQ w hs hl (λx W _=>aFK x W));have hDl:aA (L.filter λx=>x.st==1&&BQ x)<=aA L:=qd _ _;obtain⟨i0,bu,hz0,fj,hz2⟩:=dL RF;generalize hzs:qx ((L.filter λx=>x.st==1&&BQ x).map (·.m))=zs;have HZ:=η hzs;go_enter func121,ntmps121
 go_wp2_with fail
 refine HC.o.mono ?_;rintro e w1 ⟨v1,rfl,eB,hb1⟩;generalize (L.filter λx=>x.st==1&&BQ x)=D at*;obtain⟨A1,c1,rfl⟩:=bK eB;have HS:=η (aW.cA eB);have aR:=η hb1;have hz1:=hb1.size;go_wp2_with fail
 go_loopw [3,5,9] (λu _ i wr=>∃k:Nat,k<=aA D/\i=ν k/\Hid (wr.ownsRow w1.heap.size 3 1 u (aA ((D.take k).map (·.m))) (((D.take k).map (·.m)).map (aG aF)))/\Hid (β w1 wr)) (λ_ _ i _=>aA D-(ag i).toNat)
 case atStart=>exact⟨0,bL _,rfl,⟨by simp,aS ⟨rfl,rfl⟩⟩,aX _ _⟩
 case round=>
  obtain⟨k,hk,rfl,HO,HB⟩:=hrel;have hsz:=HB.o.size;by_cases hlt:k<aA D
  ·obtain⟨b,o,rfl,hb,d0,d1,d2,d3,d4,d5⟩:=vw (HS.o.below HB.o) hlt;have jM:Hid ((D.take (k+1)).map (·.m)=(D.take k).map (·.m)++ [D[k].m]):=by show _=_;rw [fE hlt,df];rfl
   have Bc:aA ((D.take k).map (·.m))<=k:=by rw [iR];exact List.length_take_le _ _
   generalize (D.take k).map (·.m)=ys at*;go_wp2_with (at_builtin;refine j9 _ rfl _ _ 46 rfl w1.heap.size 3 i0 _ 1 8 yO bu hz0 fj hz2 rfl (by decide) _ (aA ys) (ys.map (aG aF)) rfl ((HO.o.alloc _).alloc _) ⟨wr.heap.size+1,0,aB⟩ 1 1 [ν D[k].m] rfl rfl ?c1 xh ?c3 ?c4 ?c5 ?_)
   case c1=>exact dN _ _ #[_] (by simp)
   case c3=>simp only [bM];omega
   case c4=>omega
   case c5=>simp;omega
   intro v' w4 hown1 dF _;have dV:Hid (w4.ownsRow w1.heap.size 3 1 v' (aA ((D.take (k+1)).map (·.m))) (((D.take (k+1)).map (·.m)).map (aG aF))):=by show jw _ _ _ _ _ _ _;rw [jM.o,df,cN,uG];exact hown1
   have pj:Hid (β w1 w4):=((HB.o.alloc hsz _).alloc (by simp;omega) _).grown dF (by simp;omega) (λj hj=>eT HO.o j hj);go_wp2_with fail
   go_roundw
   case rel=>exact⟨k+1,by omega,by go_num,dV,pj⟩
   case measure=>simp [ag];omega
  obtain rfl:k=aA D:=by omega
  have hO:=HO.o;rw [cT] at hO;have Bc:aA (D.map (·.m))<=aA D:=by rw [iR];exact aZ _
  generalize D.map (·.m)=ys at*;obtain⟨A2,c2,rfl,hs2⟩:=Y2 hO rfl;have cM:=η hs2;have cC:Hid (β w wr):=aR.o.trans (HB.o.mono hz1);go_wp2_with fail
  refine(a6A ys A2 c2 _ cM.o (by omega)).mono ?_;rintro e w5 ⟨A5,c5,rfl,hs5,cj⟩;rw [HZ.o] at hs5 ⊢;have Ca:=η (iB hs5 cC.o.size);have cV:Hid (β w w5):=cC.o.trans (cj.mono cC.o.size);go_wp2_with fail
  go_ret;exact⟨A5,c5,rfl,Ca.o,cV.o⟩
theorem aHI(z1 z2:List Int)(A1 A2:Option aj)(c1 c2:Nat)(w:aJ)(h1:wx w A1 c1 z1)(h2:wx w A2 c2 z2)(oK:aA z1<=100000)(hl2:aA z2<=100000):
 aQ aM 122 #[aH A1 (aA z1) c1,aH A2 (aA z2) c2] w (Sg w (qx (z1++z2))):=by
 have hb:β w (w.alloc (aK #[aH A1 (aA z1) c1,aH A2 (aA z2) c2] 46)):=(aX _ _).alloc (aZ _) _;have HC:=η (aEI z1 z2 A1 A2 c1 c2 w.heap.size _ (h1.below hb) (h2.below hb) (by rw [cL _ _ _ _ rfl];rfl) (by rw [cL _ _ _ _ rfl];rfl) (by simp) oK hl2);have HB:=η hb;have nB:aA (z1++z2)<=1000000:=by rw [cN];omega
 generalize (z1++z2)=zs at*;go_enter func122,ntmps122
 go_wp2_with fail
 refine HC.o.mono ?_;rintro e w1 ⟨A3,c3,rfl,hs3,hb3⟩;have sP:=η hs3;have af:Hid (β w w1):=HB.o.trans (hb3.mono (by simp));go_wp2_with fail
 refine(a6A zs A3 c3 _ sP.o nB).mono ?_;rintro e w2 ⟨A4,c4,rfl,j5,hb4⟩;have jP:=η (iB j5 af.o.size);have ar:Hid (β w w2):=af.o.trans (hb4.mono af.o.size);go_wp2_with fail
 go_ret;exact⟨A4,c4,rfl,jP.o,ar.o⟩
def nV(x:Ob)(who:List Int):Int:=if x.st≠1 then x.st else if 0<x.az/\x.done=x.az then 2 else if 0<x.az then 3 else if x.az<0/\hasB who x.m=aO then 3 else x.st
def vL(x:Ob)(who:List Int):Int:=if x.st≠1 then x.done else if 0<x.az/\x.done=x.az then x.done else if 0<x.az then x.done else if x.az<0/\hasB who x.m=aO then 0 else x.done
theorem Kg {k:IntKind} {a b c d:Int}(h:a=c)(h':b=d):aT (bB #[aG k a,aG k b])=aT (bB #[aG k c,aG k d]):=by rw [h,h']
theorem aFN(x:Ob)(who:List Int)(A:Option aj)(c:Nat)(w:aJ)(hs:aW w w.heap.size A (who.map (aG aF)))(hl:aA who<=1000000):
 aQ aM 123 #[x.val,aH A (aA who) c] w λe w'=>e=aT (bB #[ν (nV x who),ν (vL x who)])/\β w w':=by
 obtain⟨xc,xm,xa,xn,xd,xs⟩:=x;unfold Ob.val nV vL;simp only;have hb0:β w (w.alloc (aK #[ν xc,ν xm,ν xa,ν xn,ν xd,ν xs] 59)):=(aX _ _).alloc (aZ _) _;have cZ:Hid ((w.alloc (aK #[ν xc,ν xm,ν xa,ν xn,ν xd,ν xs] 59)).heap[w.heap.size]? =aC (aK #[ν xc,ν xm,ν xa,ν xn,ν xd,ν xs] 59 (0,0))):=η (cO w _);have hz0:w.heap.size<(w.alloc (aK #[ν xc,ν xm,ν xa,ν xn,ν xd,ν xs] 59)).heap.size:=by simp
 have fM:=η (λW (hW:β w W)=>((hs.below hW).mono hW.size:aW W W.heap.size A (who.map (aG aF))));have yC:=η (λW (hW:β w W)=>Ma who A c xm W (fM.o W hW) hl);have aY:=η hb0;clear hs hb0;go_enter func123,ntmps123
 go_upto_region 1 with (fail)
 generalize w.alloc (aK #[ν xc,ν xm,ν xa,ν xn,ν xd,ν xs] 59)=w1 at*;obtain⟨bx,bT⟩:∃bx,bx=w.heap.size:=⟨_,rfl⟩;rw [<-bT] at cZ hz0 ⊢;clear bT;have c1:w1.cell? ⟨bx,1,aB⟩=aC (ν xm):=ρ cZ.o;have c3:w1.cell? ⟨bx,3,aB⟩=aC (ν xn):=ρ cZ.o;have c4:w1.cell? ⟨bx,4,aB⟩=aC (ν xd):=ρ cZ.o;have c5:w1.cell? ⟨bx,5,aB⟩=aC (ν xs):=ρ cZ.o;clear cZ;by_cases h1:xs=1
 case neg=>
  have hb:(xs==1)=aP:=by simpa using h1
  go_upto_region 8 with (fail)
  go_quiet (fail)
  go_wp2_with fail
  go_ret2;exact⟨Kg (by simp [h1]) (by simp [h1]),below_drewN aY.o nq⟩
 subst h1;by_cases h2:0<xn
 ·have hg:decide (xn>0)=aO:=decide_eq_true h2;by_cases h3:xd=xn
  ·subst h3;go_upto_region 3 with (fail)
   go_quiet (fail)
   go_wp2_with fail
   go_ret2;exact⟨Kg (by simp [h2]) (by simp [h2]),below_drewN aY.o nq⟩
  have hb:(xd==xn)=aP:=by simpa using h3
  go_upto_region 5 with (fail)
  go_quiet (fail)
  go_wp2_with fail
  go_ret2;exact⟨Kg (by simp [h2,h3]) (by simp [h2,h3]),below_drewN aY.o nq⟩
 have hg:decide (xn>0)=aP:=decide_eq_false h2;by_cases h3:xn<0
 ·have hn:decide (xn<0)=aO:=decide_eq_true h3;have yB:=yC.o _ aY.o;cases hh:hasB who xm
  ·rw [hh] at yB;have HH:=η yB;clear yB;go_upto_region 8 with (go_at_call 89;refine HH.o.mono ?_;rintro e w2 ⟨rfl,rfl⟩)
   go_quiet (fail)
   go_wp2_with fail
   go_ret2;exact⟨Kg (by simp [h2,h3,hh]) (by simp [h2,h3,hh]),below_drewN aY.o nq⟩
  rw [hh] at yB;have HH:=η yB;clear yB;go_wp2_with (go_at_call 89;refine HH.o.mono ?_;rintro e w2 ⟨rfl,rfl⟩)
  go_ret2;exact⟨Kg (by simp [h2,h3,hh]) (by simp [h2,h3,hh]),aY.o⟩
 have hn:decide (xn<0)=aP:=decide_eq_false h3;go_upto_region 8 with (fail)
 go_quiet (fail)
 go_wp2_with fail
 go_ret2;exact⟨Kg (by simp [h2,h3]) (by simp [h2,h3]),below_drewN aY.o nq⟩
def tE(D:Dk):List Int:=qx ((D.ob.filter λx=>x.st==1&&BQ x).map (·.m))
def sF(D:Dk)(L:List Int):List Ev:=(L.filter λm=> !hasB D.who m).map λm=>⟨8,m,0,0,0⟩
def ub(D:Dk)(L:List Int):Dk:= {D with log:=D.log++sF D L}
theorem aIz {D:Dk} {L:List Int} {k:Nat}(h:k<aA L):sF D (L.take (k+1))=sF D (L.take k)++if hasB D.who L[k] then [] else [⟨8,L[k],0,0,0⟩]:=by rw [fE h];unfold sF;rw [List.filter_append,df,List.filter_cons];cases hasB D.who L[k]<;>simp
theorem aIy(D:Dk)(L:List Int):aA (sF D L)<=aA L:=by unfold sF;rw [iR];exact qd _ _
def vy(D:Dk):Dk:= {D with log:=D.log++sF D (tE D),who:=qx (D.who++tE D)}
def yS(D:Dk)(x:Ob):Dk:=
 if x.st≠1 then D else if nV x D.who=1 then D else
 if x.az<0 then {D with ob:=lS x.m x.a (nV x D.who) (vL x D.who) D.ob,log:=D.log++ [⟨9,x.m,x.a,-x.az,0⟩]} else {D with ob:=lS x.m x.a (nV x D.who) (vL x D.who) D.ob}
def uL(D:Dk)(L:List Ob):Dk:=L.foldl yS D
def qi(D:Dk):Dk:=uL (vy D) D.ob
theorem aE5 {D:Dk} {L:List Ob} {k:Nat}(h:k<aA L):uL D (L.take (k+1))=yS (uL D (L.take k)) L[k]:=by rw [fE h];unfold uL;rw [List.foldl_append];rfl
theorem bW.aLg {w w1:aJ} {db:Nat} {p:Dp} {D:Dk} {v:aN} {L:List Int}(H:bW w db p D)(hb:aa w.heap.size w w1)(ho:w1.ownsRow w.heap.size 3 1 v (aA L) (L.map (aG aF))):cu db p {p with wv:=v} {D with who:=L} w (w1.setCell ⟨db,11,aB⟩ v):=by
 have H1:=H.below hb;refine⟨H1.Pc 11 v rfl rfl rfl rfl rfl rfl ⟨rfl,rfl,rfl,rfl,rfl,rfl,rfl⟩ (iB ho (bL _)) H1.log,rfl,rfl,rfl,rfl,(bC.bZ _ hb).setCell (p:=⟨db,11,aB⟩) (.inl (.inl rfl)) _, ?_⟩;rintro k (e|e|e|e|e|e)
 ·exact .inl (.inl e)
 ·exact .inl (.inr (.inl e))
 ·exact .inl (.inr (.inr (.inl e)))
 ·exact .inl (.inr (.inr (.inr (.inl e))))
 ·exact .inr (ho.lt k e).1
 exact .inl (.inr (.inr (.inr (.inr (.inr e)))))
structure Sc(D:Dk):Prop where
 ok:fX D
 fl:aA (tE D)<=2000
 all:∀k,k<=aA D.ob->fX (uL (vy D) (D.ob.take k))
theorem aEo(db:Nat)(p:Dp)(D:Dk)(w:aJ)(H:bW w db p D)(P:Sc D):
 aQ aM 62 #[π db] w λe w'=>e=aT (bB #[])/\aq db p (qi D) w w':=by
 have HF:=η H;have HP:=η P;have km:aA D.ob<=1024:=P.ok.ob.len;have c9:=H.cells.c9;have Ad:=η (λW p' D' (h:bW W db p' D') (he:D'.ob=D.ob)=>(he▸KV D'.ob p'.sv p'.sb 0 W h.sh (by rw [he];omega):aQ aM 43 #[π p'.sb] W (yx W D.ob)));have L0:=η (λW A c (hs:aW W W.heap.size A (fK D.ob))=>aFL D.ob A c W hs (by omega));have hfe:qx ((D.ob.filter λx=>x.st==1&&BQ x).map (·.m))=tE D:=rfl;rw [hfe] at L0;have mH:=η P.fl;have LY:Hid (aA D.who<=100):=η P.ok.wl;have B1:Hid (aA D.log<=90000):=η P.ok.gl;have EI:=η km;have hCE:qi D=uL (vy D) D.ob:=rfl;have hWE:vy D= {D with log:=D.log++sF D (tE D),who:=qx (D.who++tE D)}:=rfl;have CH:=η hCE;have Zy:=η hWE;generalize qi D=R at*;go_enter func62,ntmps62
 go_upto_region 1 with (first|(go_at_call 43;refine(Ad.o _ p D HF.o rfl).mono ?_;rintro e w1 ⟨v1,rfl,eB,hb1⟩;obtain⟨A1,k1,AH⟩:=bK eB;subst AH;have cY:=η (aW.cA eB);have aR:=η hb1)|(go_at_call 121;refine(L0.o _ A1 k1 cY.o).mono ?_;rintro e w2 ⟨A2,k2,rfl,eR,hb2⟩;have aV:=τ aR hb2;have dD:=η (iI.cA HF.o (iB eR aR.o.size));have qR:=η (Ia eR)))
 generalize tE D=F at*;have iX:Hid (cu db p p (ub D (F.take 0)) w w2):=η (by
  have e:ub D (F.take 0)=D:=by unfold ub sF;simp
  rw [e];exact cu.bZ HF.o aV.o)
 have Tc:=η dD.o;have gV:aA F<=2000:=mH.o;go_upto_region 2 with (fail)
 go_loopw [4,17] (λ_ i wr=>∃(k:Nat) (pk:Dp),k<=aA F/\i=ν (k:Int)/\Hid (cu db p pk (ub D (F.take k)) w wr)/\Hid (iI db pk wr A2 (F.map (aG aF)))) (λ_ i _=>aA F-(ag i).toNat)
 case atStart=>exact⟨0,p,bL _,rfl,iX,Tc⟩
 case round=>
  obtain⟨k,pk,hk,rfl,HQ,HO⟩:=hrel;by_cases hlt:k<aA F
  ·obtain⟨bl,ol,kO,hbl,hF⟩:=HO.o.dt.at (k:=k) (by simpa using hlt);rw [wk] at hF;have eY:(0:Int)<=(k:Int):=by omega
   have hkb:(k:Int)<(aA F:Int):=by omega
   have cG:=η (aIz (D:=D) hlt);have nB:aA (D.log++sF D (F.take k))<=100000:=by have h1:=aIy D (F.take k);have h3:=B1.o;rw [cN];have h4:aA (F.take k)<=aA F:=List.length_take_le' _ _;omega
   have a9P:=η nB;have HE:Hid (ub D (F.take k)= {D with log:=D.log++sF D (F.take k)}):=η rfl;have mf:Hid (ub D (F.take (k+1))= {D with log:=D.log++sF D (F.take (k+1))}):=η rfl;obtain⟨Aw,cw,hv⟩:=bK HQ.o.at.who;have c11:=HQ.o.at.cells.c11;rw [hv] at c11;have pB:Hid (aW wr wr.heap.size Aw (D.who.map (aG aF))):=η (by have h1:=HQ.o.at.who;rw [hv] at h1;exact aW.cA h1);have yC:=η (Ma D.who Aw cw F[k] wr pB.o (by have:=LY.o;omega));have Qv:(ub D (F.take k)).who=D.who:=rfl;rw [Qv] at c11;subst kO;generalize F[k]=m at*;cases hh:hasB D.who m with
   |true=>
    rw [hh] at yC;have Sy:Hid (ub D (F.take (k+1))=ub D (F.take k)):=η (by rw [mf.o,HE.o,cG.o,hh];simp);go_wp2_with (go_at_call 89;refine yC.o.mono ?_;rintro e w4 ⟨rfl,rfl⟩)
    go_roundw
    case rel=>exact⟨k+1,pk,by omega,by go_num,η (by rw [Sy.o];exact HQ.o),HO⟩
    case measure=>simp [ag];omega
   |false=>
    rw [hh] at yC;have Sy:Hid (ub D (F.take (k+1))= {ub D (F.take k) with log:=(ub D (F.take k)).log++ [⟨8,m,0,0,0⟩]}):=η (by rw [mf.o,HE.o,cG.o,hh];simp);have kA:(ub D (F.take k)).log.length<=100000:=a9P.o;have a9J:=η kA;have kU:=η (HQ.o.at.below ((aX wr.heap.size wr).alloc (aZ _) (aK #[ν 8,ν m,ν 0,ν 0,ν 0] 45)));have kW:=η (xK db pk (ub D (F.take k)) [⟨8,m,0,0,0⟩] wr.heap.size 1 _ kU.o (dN wr 45 #[ν 8,ν m,ν 0,ν 0,ν 0] rfl) (by simp) (by simp) (by have:=a9J.o;omega));have qW:=η (HQ.o.below ((aX wr.heap.size wr).alloc (aZ _) (aK #[ν 8,ν m,ν 0,ν 0,ν 0] 45)));have oh:=η (HO.o.below ((aX wr.heap.size wr).alloc (aZ _) (aK #[ν 8,ν m,ν 0,ν 0,ν 0] 45)));go_wp2_with (first|(go_at_call 89;refine yC.o.mono ?_;rintro e w4 ⟨rfl,rfl⟩)|(go_at_call 55;refine kW.o.mono ?_;rintro e w8 ⟨rfl,h8⟩;obtain⟨p8,Qj,Ql⟩:=qW.o.then h8;have ow:=η Qj;have tz:=η (oh.o.step Ql)))
    go_roundw
    case rel=>exact⟨k+1,p8,by omega,by go_num,η (by rw [Sy.o];exact ow.o),tz⟩
    case measure=>simp [ag];omega
  obtain rfl:k=aA F:=by omega
  rw [cT] at HQ;obtain⟨Aw,cw,hv⟩:=bK HQ.o.at.who;have Qv:(ub D F).who=D.who:=rfl;have c11:=HQ.o.at.cells.c11;rw [hv,Qv] at c11;have pB:Hid (wx wr Aw cw D.who):=η (by have h1:=HQ.o.at.who;rw [hv,Qv] at h1;exact⟨aW.cA h1,λh=>⟨nO (Ia h1 h).1,(Ia h1 h).2⟩⟩);have CN:Hid (wx wr A2 k2 F):=η ⟨HO.o.dt,λh=>⟨nO (qR.o h).1,(qR.o h).2⟩⟩;have OG:=η (aHI D.who F Aw A2 cw k2 wr pB.o CN.o (by have:=LY.o;omega) (by have:=mH.o;omega));have DR:∀W,β wr W->W.frozen? ⟨db,11,aB⟩=aP:=λW hW=>by have hb:=(hW.block db HQ.o.at.lt).trans HQ.o.at.blk;simp [iJ,hb]
  have jz:∀W,β wr W->W.cell? ⟨db,11,aB⟩=aC (aH Aw (aA D.who) cw):=λW hW=>(hW.cell (p:=⟨db,11,aB⟩) HQ.o.at.lt).trans c11
  have wR:=η DR;have nz:=η jz;go_upto_region 8 with (go_at_call 122;refine OG.o.mono ?_;rintro e w3 ⟨A3,k3,rfl,iz,hb3⟩;have TK:=η iz;have af:=η hb3;have f11:=wR.o _ hb3;have d11:=nz.o _ hb3)
  have JO:Hid (cu db p _ (vy D) w (w3.setCell ⟨db,11,aB⟩ (aH A3 (aA (qx (D.who++F))) k3))):=η (by have h1:=HQ.o.trans (HQ.o.at.aLg af.o TK.o);rw [Zy.o];exact h1);generalize (w3.setCell ⟨db,11,aB⟩ (aH A3 (aA (qx (D.who++F))) k3))=w4 at*;obtain⟨p3,pn⟩:∃p3,Hid (cu db p p3 (vy D) w w4):=⟨_,JO⟩;have hoe:(vy D).ob=D.ob:=rfl;have Zg:=η hoe;clear hoe;have d9:=pn.o.at.cells.c9;have aGj:aA D.ob<=1024:=EI.o;have E6:Hid (∀k,k<=aA D.ob->fX (uL (vy D) (D.ob.take k))):=η HP.o.all;have Om:Hid (∀x∈D.ob,aL x.az/\fJ<x.az):=η (λx hx=>by have h:=HP.o.ok.ob.each x hx;have h1:=h.lo;have h2:=h.hi;unfold fJ at h1;unfold aL fJ;omega);clear HP Zy;go_upto_region 9 with (go_at_call 43;refine(Ad.o _ p3 (vy D) pn.o.at Zg.o).mono ?_;rintro e w5 ⟨v5,rfl,iU,cj⟩;obtain⟨A5,k5,N3⟩:=bK iU;subst N3;have fL:=η (iI.cA pn.o.at iU);have ot:=η (pn.o.below cj);clear iU cj)
  clear pn d9 Ad Zg;generalize vy D=E0 at*;generalize D.ob=L at*;have o6:Hid (cu db p p3 (uL E0 (L.take 0)) w w5):=η ot.o;clear ot;go_loopw [6,7,8,49] (λ_ _ _ i wr=>∃(k:Nat) (pk:Dp),k<=aA L/\i=ν (k:Int)/\Hid (cu db p pk (uL E0 (L.take k)) w wr)/\Hid (iI db pk wr A5 (fK L))) (λ_ _ _ i _=>aA L-(ag i).toNat)
  case atStart=>exact⟨0,p3,bL _,rfl,o6,fL⟩
  case round=>
   clear o6 fL;obtain⟨k,pk,hk,rfl,HQ,HO⟩:=hrel;by_cases hlt:k<aA L
   ·obtain⟨bl,ol,kO,hbl,l0,l1,l2,l3,l4,l5⟩:=vw HO.o.dt hlt;have eY:(0:Int)<=(k:Int):=by omega
    have hkb:(k:Int)<(aA L:Int):=by omega
    have HL:=η (aE5 (D:=E0) hlt);have dP:=η (E6.o k hk);have HXN:Hid (aL (L[k].az)/\fJ<L[k].az):=η (Om.o _ (cK hlt));have mh:Hid (∀j,eV db pk j->j<wr.heap.size):=η (λj hj=>HQ.o.at.uW hj);subst kO;generalize uL E0 (L.take k)=E at*;generalize L[k]=x at*;obtain⟨xc,xm,xa,xn,xd,xs⟩:=x;simp only at l0 l1 l2 l3 l4 l5;have gG:Hid (β wr (wr.alloc (aK #[ν xc,ν xm,ν xa,ν xn,ν xd,ν xs] 59))):=η σ;have qZ:Hid ((wr.alloc (aK #[ν xc,ν xm,ν xa,ν xn,ν xd,ν xs] 59)).heap[wr.heap.size]? =aC (aK #[ν xc,ν xm,ν xa,ν xn,ν xd,ν xs] 59 (0,0))):=η (cO wr _);have vq:wr.heap.size<(wr.alloc (aK #[ν xc,ν xm,ν xa,ν xn,ν xd,ν xs] 59)).heap.size:=by simp
    go_upto_region 11 with (fail)
    generalize wr.alloc (aK #[ν xc,ν xm,ν xa,ν xn,ν xd,ν xs] 59)=w6 at*;obtain⟨bx,bT⟩:∃bx,bx=wr.heap.size:=⟨_,rfl⟩;have dH:=η bT;rw [<-bT] at qZ vq ⊢;clear bT l0 l1 l2 l3 l4 l5;have Kz:=η (HQ.o.at.below gG.o);have bX:Hid (¬eV db pk bx):=η (λh=>by have:=mh.o bx h;rw [dH.o] at this;omega);obtain⟨Dz,Gx,hv⟩:=bK Kz.o.who;have pB:Hid (∀W,β w6 W->aW W W.heap.size Dz (E.who.map (aG aF))):=η (λW hW=>by have h1:=(Kz.o.below hW).who;rw [hv] at h1;exact aW.cA h1);have L3:Hid (∀W,β w6 W->aQ aM 123 #[bU #[ν xc,ν xm,ν xa,ν xn,ν xd,ν xs],aH Dz (aA E.who) Gx] W λe w'=>e=aT (bB #[ν (nV ⟨xc,xm,xa,xn,xd,xs⟩ E.who),ν (vL ⟨xc,xm,xa,xn,xd,xs⟩ E.who)])/\β W w'):=η (λW hW=>aFN ⟨xc,xm,xa,xn,xd,xs⟩ E.who Dz Gx W (pB.o W hW) (by have:=dP.o.wl;omega));have zK:Hid (∀W,β w6 W->W.cell? ⟨db,11,aB⟩=aC (aH Dz (aA E.who) Gx)/\W.cell? ⟨bx,0,aB⟩=aC (ν xc)/\W.cell? ⟨bx,1,aB⟩=aC (ν xm)/\W.cell? ⟨bx,2,aB⟩=aC (ν xa)/\W.cell? ⟨bx,3,aB⟩=aC (ν xn)/\W.cell? ⟨bx,4,aB⟩=aC (ν xd)/\W.cell? ⟨bx,5,aB⟩=aC (ν xs)):=η (λW hW=>by have hd:=(hW.block bx vq).trans qZ.o;exact⟨by rw [<-hv];exact(Kz.o.below hW).cells.c11,ρ hd,ρ hd,ρ hd,ρ hd,ρ hd,ρ hd⟩);have nz:Hid (yS E ⟨xc,xm,xa,xn,xd,xs⟩=if xs≠1 then E else if nV ⟨xc,xm,xa,xn,xd,xs⟩ E.who=1 then E else if xn<0 then {E with ob:=lS xm xa (nV ⟨xc,xm,xa,xn,xd,xs⟩ E.who) (vL ⟨xc,xm,xa,xn,xd,xs⟩ E.who) E.ob,log:=E.log++ [⟨9,xm,xa,-xn,0⟩]} else {E with ob:=lS xm xa (nV ⟨xc,xm,xa,xn,xd,xs⟩ E.who) (vL ⟨xc,xm,xa,xn,xd,xs⟩ E.who) E.ob}):=η rfl;clear hv pB;generalize nV ⟨xc,xm,xa,xn,xd,xs⟩ E.who=fs at*;generalize vL ⟨xc,xm,xa,xn,xd,xs⟩ E.who=fn at*;have bP:β w6 w6.drew:=(aX _ _).drew;have hdd:=zK.o _ bP;go_region_held3 (λW=>W.cell? ⟨db,11,aB⟩=aC (aH Dz (aA E.who) Gx)/\W.cell? ⟨bx,0,aB⟩=aC (ν xc)/\W.cell? ⟨bx,1,aB⟩=aC (ν xm)/\W.cell? ⟨bx,2,aB⟩=aC (ν xa)/\W.cell? ⟨bx,3,aB⟩=aC (ν xn)/\W.cell? ⟨bx,4,aB⟩=aC (ν xd)/\W.cell? ⟨bx,5,aB⟩=aC (ν xs)) (first|(with_reducible assumption)) ((go_at_call 123;refine(L3.o _ (by with_reducible assumption)).mono ?_;rintro e w7 ⟨rfl,fh⟩;have dX:β w6 w7:=jt (by with_reducible assumption) (fh.mono (gT (by with_reducible assumption)));have hcc:=zK.o _ dX))
    have uj:=η dX;obtain⟨_,_,e1,e2,e3,_,e5⟩:=hcc;have IP:=cP vq dX.size;clear fh dX bP hdd L3;have cC:Hid (β wr w7):=η (gG.o.trans (uj.o.mono gG.o.size));by_cases h1:xs=1
    case neg=>
     have hb:(xs==1)=aP:=by simpa using h1
     rw [ifP h1] at nz;clear h1 zK;go_wp2_with fail
     go_roundw
     case rel=>exact⟨k+1,pk,by omega,by go_num,η (by rw [HL.o,nz.o];exact HQ.o.below cC.o),η (HO.o.below cC.o)⟩
     case measure=>simp [ag];omega
    subst h1;rw [ifN (by simp)] at nz;by_cases h2:fs=1
    ·subst h2;rw [ifP rfl] at nz;clear zK;go_wp2_with fail
     go_roundw
     case rel=>exact⟨k+1,pk,by omega,by go_num,η (by rw [HL.o,nz.o];exact HQ.o.below cC.o),η (HO.o.below cC.o)⟩
     case measure=>simp [ag];omega
    have hb2:(fs==1)=aP:=by simpa using h2
    rw [ifN h2] at nz
    skip
    have O6:=η (Kz.o.below uj.o);have Tl:Hid (∀W,β w7 W->W.cell? ⟨db,9,aB⟩=aC (π pk.sb)/\W.cell? ⟨bx,1,aB⟩=aC (ν xm)/\W.cell? ⟨bx,2,aB⟩=aC (ν xa)/\W.cell? ⟨bx,3,aB⟩=aC (ν xn)):=η (λW hW=>by obtain⟨_,_,r1,r2,r3,_,_⟩:=zK.o W (uj.o.trans (hW.mono uj.o.size));exact⟨(O6.o.below hW).cells.c9,r1,r2,r3⟩);have rH:Hid (∀W,β w7 W->aQ aM 124 #[π pk.sb,ν xm,ν xa,ν fs,ν fn] W λe W'=>e=aT (ν (vu xm xa fs fn E.ob))/\aq db pk {E with ob:=lS xm xa fs fn E.ob} W W'/\W'.cell? ⟨db,9,aB⟩=aC (π pk.sb)/\W'.cell? ⟨bx,1,aB⟩=aC (ν xm)/\W'.cell? ⟨bx,2,aB⟩=aC (ν xa)/\W'.cell? ⟨bx,3,aB⟩=aC (ν xn)):=η (λW hW=>by refine(NP E.ob xm xa fs fn pk.sv pk.sb 0 W (O6.o.below hW).sh dP.o.ob).mono ?_;intro e W' h;obtain⟨q1,q2⟩:=(O6.o.below hW).Fb h;have hz:=cP IP hW.size;obtain⟨_,r1,r2,r3⟩:=Tl.o W hW;exact⟨q1,q2,q2.c9,(q2.cell 1 hz bX.o).trans r1,(q2.cell 2 hz bX.o).trans r2,(q2.cell 3 hz bX.o).trans r3⟩);have L5:Hid (aA E.log<=90000):=η dP.o.gl;clear zK Kz dP;generalize lS xm xa fs fn E.ob=ob2 at*;generalize vu xm xa fs fn E.ob=me at*;go_upto_region 13 with (fail)
    have bP:β w7 w7.drew:=(aX _ _).drew;have hdd:=Tl.o _ bP;clear e1 e2 e3 e5;go_region_held3 (λW=>W.cell? ⟨db,9,aB⟩=aC (π pk.sb)/\W.cell? ⟨bx,1,aB⟩=aC (ν xm)/\W.cell? ⟨bx,2,aB⟩=aC (ν xa)/\W.cell? ⟨bx,3,aB⟩=aC (ν xn)) (first|(with_reducible assumption)) ((go_at_call 124;refine(rH.o _ (by with_reducible assumption)).mono ?_;rintro e w8 ⟨rfl,dE,zy⟩))
    have dw:Hid (aq db pk {E with ob:=ob2} wr w8):=η (aq.trans (bC.bZ _ (cC.o.trans (bP.mono cC.o.size))) (λ_ h=> .inl h) ⟨rfl,rfl,rfl,rfl⟩ dE);obtain⟨_,m1,m2,m3⟩:=zy;clear dE bP hdd rH Tl O6;obtain⟨p8,Qj,Ql⟩:=HQ.o.then dw.o;have ow:=η Qj;have tz:=η (HO.o.step Ql);clear Qj Ql dw HQ HO;by_cases h3:xn<0
    ·have hn:decide (xn<0)=aO:=decide_eq_true h3;rw [ifP h3] at nz;have hwn:aF.wrap (-xn)= -xn:=wE (by have h:=HXN.o;(try simp only at h);unfold fJ aL at*;omega);have kU:=η (ow.o.at.below ((aX w8.heap.size w8).alloc (aZ _) (aK #[ν 9,ν xm,ν xa,ν (-xn),ν 0] 45)));have kW:=η (xK db p8 {E with ob:=ob2} [⟨9,xm,xa,-xn,0⟩] w8.heap.size 1 _ kU.o (dN w8 45 #[ν 9,ν xm,ν xa,ν (-xn),ν 0] rfl) (by simp) (by simp) (by have:=L5.o;simp only;omega));have sO:=η (ow.o.below ((aX w8.heap.size w8).alloc (aZ _) (aK #[ν 9,ν xm,ν xa,ν (-xn),ν 0] 45)));have wW:=η (tz.o.below ((aX w8.heap.size w8).alloc (aZ _) (aK #[ν 9,ν xm,ν xa,ν (-xn),ν 0] 45)));clear ow tz kU;go_wp2_with (go_at_call 55;refine kW.o.mono ?_;rintro e w9 ⟨rfl,h9⟩;obtain⟨p9,AD,FH⟩:=sO.o.then h9;have lM:=η AD;have HOA:=η (wW.o.step FH);clear h9 AD FH)
     go_roundw
     case rel=>exact⟨k+1,p9,by omega,by go_num,η (by rw [HL.o,nz.o];exact lM.o),HOA⟩
     case measure=>simp [ag];omega
    have hn:decide (xn<0)=aP:=decide_eq_false h3;rw [ifN h3] at nz;go_wp2_with fail
    go_roundw
    case rel=>exact⟨k+1,p8,by omega,by go_num,η (by rw [HL.o,nz.o];exact ow.o),tz⟩
    case measure=>simp [ag];omega
   obtain rfl:k=aA L:=by omega
   rw [cT] at HQ;go_wp2_with fail
   go_end0
   rw [CH.o];exact⟨rfl,HQ.o.p⟩
theorem bW.held {w w':aJ} {db:Nat} {p:Dp} {D:Dk} {h':List Hr} {e:dU}(H:bW w db p D)(h:Lt p.vb p.vp (aA D.x.ms) (aA D.x.ss+1) (aA D.x.ms) D.l h' w e w'):e=aT (aG aF 0)/\aq db p {D with h:=h'} w w':=by
 obtain⟨tv,rfl,hv,hu,hs⟩:=h;refine⟨rfl, {p with vp:= {p.vp with tv:=tv}},H.a8N hu hv,rfl,rfl,rfl,rfl,hu.mono (λk hk=> .inl (.inr (.inl hk))), ?_⟩;rintro k (e|(e|e|e|e|e)|e|e|e|e)
 ·exact .inl (.inl e)
 ·exact .inl (.inr (.inl (.inl e)))
 ·exact .inl (.inr (.inl (.inr (.inl e))))
 ·exact .inl (.inr (.inl (.inr (.inr (.inl e)))))
 ·exact .inl (.inr (.inl (.inr (.inr (.inr (.inl e))))))
 ·exact(hs k e).imp (λh=> .inr (.inl (.inr (.inr (.inr (.inr h)))))) id
 ·exact .inl (.inr (.inr (.inl e)))
 ·exact .inl (.inr (.inr (.inr (.inl e))))
 ·exact .inl (.inr (.inr (.inr (.inr (.inl e)))))
 exact .inl (.inr (.inr (.inr (.inr (.inr e)))))
theorem bW.Ry {w:aJ} {db:Nat} {p:Dp} {D:Dk}(H:bW w db p D)(s:Int):cu db p p {D with st:=s} w (w.setCell ⟨db,13,aB⟩ (aG aF s)):=
 ⟨H.Pc 13 (ν s) rfl rfl rfl rfl rfl rfl ⟨rfl,rfl,rfl,rfl,rfl,rfl,rfl⟩ H.who H.log,rfl,rfl,rfl,rfl,(bC.refl _ _).setCell (p:=⟨db,13,aB⟩) (.inl (.inl rfl)) _,λ_ h=> .inl h⟩
theorem aLa(vb:Nat)(p:Vp)(M A:Nat)(room:Int)(l:List Int)(h:List Hr)(k:Nat)(hk:k<aA h)(w:aJ)(H:gU w vb p M A room l (h.drop k))(hl:aA h<=99999)(hu:qD h):
 aQ aM 64 #[π vb,ν (h[k]).i] w (Lt vb p M A room l (h.drop (k+1)) w):=by
 rw [Ja hk] at H;refine aLb vb p M A room l h[k] (h.drop (k+1)) w H (by rw [List.length_drop];omega) ?_;rw [<-Ja hk];exact aMM (List.drop_sublist k h) hu
def gR(D:Dk):Dk:= {qi D with h:= []}
def uN(D:Dk):Int:=KP (gR D) (iW (di (gR D) 0))
def oH(D:Dk):Dk:= {lq (gR D) (uN D) with st:=2}
def Ps(D:Dk):Bool:=(dQ (oH D).x.ss.length).any λ(s:Nat)=>decide (jK (oH D) ((s:Int)+1)>0)
def Hb(D:Dk):Bool:=if D.st=1 then Ps D else aP
def Ha(D:Dk):Int:=if D.st=1 then 0 else 11
def DD(D:Dk):Dk:=if D.st=1 then oH D else D
structure Sd(D:Dk):Prop where
 cl:Sc D
 up:qD (qi D).h
 Ka:fX (gR D)
 b0:aL (balA (gR D).x.ms.length ((gR D).x.ss.length+1) (gR D).l 1 0 0)
 ml:(gR D).x.ms.length<=100000
 wI:∀x∈(gR D).who,aL x
 nI:aL (uN D)
 dO:∀k,k<=aA (iE (gR D) (uN D))->fX (oG (gR D) ((iE (gR D) (uN D)).take k))
 dI:∀x∈iE (gR D) (uN D),aL x.k/\aL x.m/\aL x.n/\0<=x.n
 dl:aA (iE (gR D) (uN D))<=100000
 ok4:fX (oH D)
 sl:(oH D).x.ss.length<=100000
 bS:∀s:Nat,s<(oH D).x.ss.length->aL (balA (oH D).x.ms.length ((oH D).x.ss.length+1) (oH D).l 1 0 ((s:Int)+1))
theorem a1f {f:Nat->Bool} {n k:Nat}(hk:k<n)(h:f k=aO):(dQ n).any f=aO:=jv.2 ⟨k,nP.2 hk,h⟩
theorem a1g {f:Nat->Bool} {n:Nat}(h:∀k,k<n->f k=aP):(dQ n).any f=aP:=by rw [zO];intro k hk;rw [h k (nP.1 hk)];decide
theorem a6p {b c:Bool} {a d:Int}(h:b=c)(h':a=d):aT (bB #[bJ b,aG aF a])=aT (bB #[bJ c,aG aF d]):=by rw [h,h']
theorem a2Z(db:Nat)(p:Dp)(D:Dk)(w:aJ)(H:bW w db p D)(hP:D.st=1->Sd D):
 aQ aM 28 #[π db] w λe w'=>e=aT (bB #[bJ (Hb D),ν (Ha D)])/\aq db p (DD D) w w':=by
 have hb0:β w (w.alloc (aK #[ν 1] 3)):=(aX _ _).alloc (aZ _) _;have jO:=η (Js db p D 1 (aC ⟨w.heap.size,0,aB⟩) 1 _ (H.below hb0) (λj u hu=>⟨w.heap.size,0,rfl,by simp,by
  match j,hu with
  |0,hu=>exact(cL w #[ν 1] 3 0 rfl).trans (by simpa using hu)
  |j+1,hu=>simp at hu⟩))
 have HF:=η H;have aY:=η hb0;by_cases h1:D.st=1
 case neg=>
  have e1:Hb D=aP:=by unfold Hb;rw [ifN h1]
  have e2:Ha D=11:=by unfold Ha;rw [ifN h1]
  have e3:DD D=D:=by unfold DD;rw [ifN h1]
  rw [ifN h1] at jO;rw [e1,e2,e3];go_enter aAy,aBk
  go_wp2_with (go_at_call 51;refine κ jO.o aY λw1 aR=> ?_)
  go_ret2;exact⟨rfl,aq.bZ HF.o aR.o⟩
 have HP:=η (hP h1);have e1:Hb D=Ps D:=by unfold Hb;rw [ifP h1]
 have e2:Ha D=0:=by unfold Ha;rw [ifP h1]
 have e3:DD D=oH D:=by unfold DD;rw [ifP h1]
 rw [ifP h1] at jO;rw [e1,e2,e3];have nz:=η (λW (hW:β w W)=>aEo db p D W (HF.o.below hW) HP.o.cl);have qV:Hid (fX (qi D)):=η (by have h:=HP.o.cl.all (aA D.ob) (aZ _);rw [cT] at h;exact h);have oX:Hid (gR D= {qi D with h:= []}):=η rfl;have Kw:Hid (uN D=KP (gR D) (iW (di (gR D) 0))):=η rfl;have HD4:Hid (oH D= {lq (gR D) (uN D) with st:=2}):=η rfl;have z8:Hid (Ps D=(dQ (oH D).x.ss.length).any λ(s:Nat)=>decide (jK (oH D) ((s:Int)+1)>0)):=η rfl;have HUP:=η HP.o.up;have y9:=η (λW p' (h:bW W db p' (gR D))=>MA db p' (gR D) 0 W h HP.o.Ka);have CP:=η (MN HP.o.Ka.ob 0);have kA:aA (di (gR D) 0)<=100000:=by have h1:=Q5 (gR D) 0;have h2:=HP.o.Ka.ob.len;omega
 have LS:=η (λW A c (hs:aW W W.heap.size A (bA (di (gR D) 0)))=>V8 (di (gR D) 0) A c W hs CP.o kA);have kK:=η (λW p' (h:bW W db p' (gR D))=>a2l db p' (gR D) (iW (di (gR D) 0)) W h (SC _) HP.o.b0);rw [<-Kw.o] at kK;have JA:=η (λW p' (h:bW W db p' (gR D))=>VA db p' (gR D) (uN D) W h HP.o.nI HP.o.ml HP.o.wI (by have:=HP.o.Ka.wl;omega) HP.o.dO HP.o.dI HP.o.dl);have ur:=η (λW p' (h:bW W db p' (oH D)) (s:Nat) (hs:s<(oH D).x.ss.length)=>VD db p' (oH D) ((s:Int)+1) W h HP.o.ok4 (HP.o.bS s hs));have jk:(oH D).x.ss.length<=100000:=HP.o.sl;have Cc:=η jk;generalize qi D=C at*;generalize gR D=D2 at*;generalize uN D=dn at*;generalize oH D=D4 at*;generalize Ps D=bv at*;generalize di D2 0=G at*;generalize iW G=sv at*;go_enter aAy,aBk
 go_upto_region 5 with (first|(go_at_call 51;refine κ jO.o aY λw1 aR=> ?_)|(go_at_call 62;refine(nz.o _ aR.o).mono ?_;rintro e w2 ⟨rfl,h2⟩;obtain⟨p2,ve,_⟩:=(cu.bZ HF.o aR.o).then h2;have lL:=η ve))
 have c8:=lL.o.at.cells.c8;have nM:=η (aLV p2.vb p2.vp (aA C.x.ms) (aA C.x.ss+1) (aA C.x.ms) C.l C.h w2 lL.o.at.vt (by have:=qV.o.hl;omega));have W6:aA C.h<=100:=qV.o.hl;go_upto_region 6 with (go_at_call 63;refine nM.o.mono ?_;rintro e w3 ⟨v3,rfl,iz,hb3⟩;obtain⟨A3,k3,hv3⟩:=bK iz;subst hv3;have cD:=η (iI.cA lL.o.at iz);have JO:=η (lL.o.below hb3))
 have iX:Hid (cu db p p2 {C with h:=C.h.drop 0} w w3):=η JO.o;go_loopw [6,22] (λ_ i wr=>∃(k:Nat) (pk:Dp),k<=aA C.h/\i=ν (k:Int)/\Hid (cu db p pk {C with h:=C.h.drop k} w wr)/\Hid (iI db pk wr A3 ((C.h.map (·.i)).map (aG aF)))) (λ_ i _=>aA C.h-(ag i).toNat)
 case atStart=>exact⟨0,p2,bL _,rfl,iX,cD⟩
 case round=>
  obtain⟨k,pk,hk,rfl,HQ,HO⟩:=hrel;by_cases hlt:k<aA C.h
  ·obtain⟨bl,ol,kO,hbl,hF⟩:=HO.o.dt.at (k:=k) (by simpa using hlt);rw [wk,wk] at hF;have eY:(0:Int)<=(k:Int):=by omega
   have hkb:(k:Int)<(aA C.h:Int):=by omega
   have c8:=HQ.o.at.cells.c8;have HVR:=η (aLa pk.vb pk.vp (aA C.x.ms) (aA C.x.ss+1) (aA C.x.ms) C.l C.h k hlt wr HQ.o.at.vt (by omega) HUP.o);have OC:Hid (∀e W',Lt pk.vb pk.vp (aA C.x.ms) (aA C.x.ss+1) (aA C.x.ms) C.l (C.h.drop (k+1)) wr e W'->e=aT (ν 0)/\aq db pk {C with h:=C.h.drop (k+1)} wr W'):=η (λe W' h=>HQ.o.at.held h);subst kO;generalize (C.h[k]).i=id at*;go_wp2_with (go_at_call 64;refine HVR.o.mono ?_;intro e w4 h4;obtain⟨rfl,h5⟩:=OC.o e w4 h4;obtain⟨p5,Ba,uU⟩:=HQ.o.then h5;have ot:=η Ba;have fL:=η (HO.o.step uU))
   go_roundw
   case rel=>exact⟨k+1,p5,by omega,by go_num,ot,fL⟩
   case measure=>simp [ag];omega
  obtain rfl:k=aA C.h:=by omega
  have ou:Hid (cu db p pk D2 w wr):=η (by rw [oX.o];have h:=HQ.o;rw [List.drop_length] at h;exact h);go_upto_region 11 with (first|(go_at_call 68;refine(y9.o _ pk ou.o.at).mono ?_;rintro e w4 ⟨v4,rfl,gz,hb4⟩;obtain⟨A4,k4,hv4⟩:=bK gz;subst hv4;have jP:=η (aW.cA gz);have qW:=η (ou.o.below hb4))|(go_at_call 67;refine(LS.o _ A4 k4 jP.o).mono ?_;rintro e w5 ⟨rfl,cj⟩;have ow:=η (qW.o.below cj))|(go_at_call 66;refine(kK.o _ pk ow.o.at).mono ?_;rintro e w6 ⟨rfl,iT⟩;have sO:=η (ow.o.below iT))|(go_at_call 65;refine(JA.o _ pk sO.o.at).mono ?_;rintro e w7 ⟨rfl,h7⟩;obtain⟨p7,Qi,_⟩:=sO.o.then h7;have lM:=η Qi))
  have f13:w7.frozen? ⟨db,13,aB⟩=aP:=by have hb:=lM.o.at.blk;simp [iJ,hb]
  have c13:=lM.o.at.cells.c13;go_upto_region 12 with (fail)
  have CZ:Hid (cu db p p7 D4 w (w7.setCell ⟨db,13,aB⟩ (ν 2))):=η (by rw [HD4.o];exact lM.o.trans (lM.o.at.Ry 2));generalize (w7.setCell ⟨db,13,aB⟩ (ν 2))=w8 at*;have c1:=CZ.o.at.cells.c1;have jk:aA D4.x.ss<=100000:=Cc.o;have od:Hid (∀j,j<0->(λ(s:Nat)=>decide (jK D4 ((s:Int)+1)>0)) j=aP):=η (λj hj=>absurd hj (Nat.not_lt_zero _));go_upto_region 13 with (fail)
  go_loopw [7,49] (λ_ i wq=>∃k:Nat,k<=aA D4.x.ss/\i=ν (k:Int)/\Hid (∀j,j<k->(λ(s:Nat)=>decide (jK D4 ((s:Int)+1)>0)) j=aP)/\Hid (cu db p p7 D4 w wq)) (λ_ i _=>aA D4.x.ss-(ag i).toNat)
  case atStart=>exact⟨0,bL _,rfl,od,CZ⟩
  case round=>
   clear od CZ c1;obtain⟨j,hj,rfl,HN,HQ⟩:=hrel;by_cases rj:j<aA D4.x.ss
   ·have zv:(0:Int)<=(j:Int):=by omega
    have hjb:(j:Int)<(aA D4.x.ss:Int):=by omega
    have cY:=η (ur.o _ p7 HQ.o.at j rj);have ZA:Hid ((λ(s:Nat)=>decide (jK D4 ((s:Int)+1)>0)) j=decide (jK D4 ((j:Int)+1)>0)):=η rfl;generalize jK D4 ((j:Int)+1)=sh at*;by_cases h2:0<sh
    ·have hd:decide (sh>0)=aO:=decide_eq_true h2;have Sp:Hid (aO=bv):=η (by rw [z8.o];exact(a1f rj (ZA.o.trans hd)).symm);go_wp2_with (go_at_call 69;refine cY.o.mono ?_;rintro e wz ⟨rfl,hz⟩;have Tf:=η (HQ.o.below hz))
     go_ret2;exact⟨a6p Sp.o rfl,Tf.o.p⟩
    have hd:decide (sh>0)=aP:=decide_eq_false h2;have uq:Hid (∀i,i<j+1->(λ(s:Nat)=>decide (jK D4 ((s:Int)+1)>0)) i=aP):=η (λi hi=>by
     rcases Nat.lt_succ_iff_lt_or_eq.1 hi with h|rfl
     ·exact HN.o i h
     exact ZA.o.trans hd)
    go_wp2_with (go_at_call 69;refine cY.o.mono ?_;rintro e wz ⟨rfl,hz⟩;have Tf:=η (HQ.o.below hz))
    go_roundw
    case rel=>exact⟨j+1,by omega,by go_num,uq,Tf⟩
    case measure=>simp [ag];omega
   obtain rfl:j=aA D4.x.ss:=by omega
   have Sp:Hid (aP=bv):=η (by rw [z8.o];exact(a1g (λi hi=>HN.o i hi)).symm);go_wp2
   go_ret2;exact⟨a6p Sp.o rfl,HQ.o.p⟩
end Go.Proofs.YtdokipdchlcmeaaGreat
