/-
  Several texts in one, for one claim (printed by pack.py).
-/
import Derived.Test.YtdokipdchlcmeaaGreatPg5
set_option linter.all false
set_option maxRecDepth 100000
set_option maxHeartbeats 12800000
open Array renaming getElem?_eq_some_iff→fW
open Bool renaming true→aO,false→aP,eq_iff_iff→Fj
open Go renaming World→aJ,Value→aN,Calls→aQ,Addr→aj,cell_of_row→bH,maxLen→bM,TypeId→bY,heap_alloc_new→cO,info_parts→dL,Ending→dU,rounds_succ→eC,wpList_append_own→j9,wp_loop_rounds→ug,grownCap→xM,step_append_lies→AW
open Go.Builtin renaming zeroCells→E5
open Go.Ending renaming returned→aT
open Go.Instr renaming mapEntry→GI,entryStore→Ot
open Go.IntKind renaming i64→aF
open Go.IntWalk renaming i64_in→sR
open Go.Lib renaming compact→sU
open Go.Obj renaming cells→aK
open Go.Proofs renaming intOf→ag
open Go.Proofs.Tryz renaming prog→aM,underlying53→mP,underlying39→sZ,underlying46→yO,underlying56→Gh,func192→PC,ntmps192→PF,underlying132→PH,func102→a0V,ntmps102→a0p,underlying159→a1M,func177→aAk,func180→aAl,func191→aAo,func223→aAs,func224→aAt,func51→aB4,func52→aB5,func89→aBE,ntmps177→aBX,ntmps180→aBY,ntmps191→aBb,ntmps223→aBf,ntmps224→aBg,ntmps51→aBq,ntmps52→aBr,ntmps89→aC1,results224→aC5,underlying163→aC8
open Go.RowKit renaming Below→aa
open Go.RowKit.Below renaming refl→aX,heap_setCell→nK
open Go.Value renaming int→aG,slice→aH,tuple→bB,pointer→bF,bool→bJ,agg→bU,ownBlock→dy
open Go.World renaming ownsRow_nil→gC,cell?_of_block→gh,frozen?→iJ,ownsRow→jw,size_alloc→Cz
open List renaming length→aA,getElem_mem→cK,length_append→cN,take_length→cT,mem_map→dW,map_append→df,mem_cons_of_mem→dh,mem_cons→fC,take_succ_eq_append_getElem→fE,mem_append→gJ,replicate→gP,length_map→iR,mem_filter→jD,any_eq_true→jv,pairwise_cons→kX,eq_nil_of_length_eq_zero→nO,take_zero→nQ,mem_cons_self→pD,length_filter_le→qd,mem_iff_getElem→sW,length_cons→uF,length_singleton→uG,length_take→uz,mem_append_left→vA,flatMap_cons→wZ,getElem_map→wk,map_cons→yM,any_eq_false→zO,pairwise_map→BG,sum_append→Cm,length_nil→ES,sum_cons→EU,contains_iff_mem→U6,getElem_append_left→UA,getElem_append_right→UB
open List.Pairwise renaming imp_of_mem→Ow
open Nat renaming le_refl→aZ,zero_le→bL,le_trans→bz,lt_of_lt_of_le→cP,lt_or_ge→rQ,lt_trans→Li,lt_of_succ_lt→a0L
open Option renaming none→aB,some→aC
open Option.some renaming inj→pE
open Or renaming inl→aS,inr→aU
namespace Go.Proofs.YtdokipdchlcmeaaGreat
open Go.Proofs.Tryz Go.RowKit
section
open Go.Maps Go.MapKept Go.ChangeMaps
def Ih(q:Int×Int):List aN:= [aG aF q.1,aG aF q.2]
def AU(l:List (Int×Int)):List aN:=l.flatMap Ih
theorem a6z(l:List (Int×Int))(q:Int×Int):AU (l++ [q])=AU l++Ih q:=by simp [AU]
theorem aKH:(aM.info? 162).map (λi=>(i.zero,i.size,i.bytes))=aC (aC (bU #[aG aF 0,aG aF 0]),2,16):=by kernel_rfl
theorem a7O:(aM.info? 53).map (λi=>(i.zero,i.size,i.bytes))=aC (aC (aH aB 0 0),1,24):=by kernel_rfl
theorem a7C(q:Int×Int):∀u∈Ih q,u.oneCell'=aO:=by intro u hu;simp [Ih] at hu;rcases hu with rfl|rfl<;>rfl
theorem a7A {w:aJ} {B:Nat} {A:Option aj} {l:List (Int×Int)}(h:aW w B A (AU l)) {k:Nat}(hk:k<aA l):
 ∃b o,A=aC ⟨b,o,aB⟩/\b<B/\w.cell? ⟨b,o+k*2,aB⟩=aC (ν l[k].1)/\w.cell? ⟨b,o+k*2+1,aB⟩=aC (ν l[k].2):=by
 obtain⟨b,o,e,hb,hc⟩:=h.run (i:=k*2) (y:=ν l[k].1) (t:= [ν l[k].2]) (λj u hu=>uP Ih 2 (λ_=>rfl) l k hk j u hu);exact⟨b,o,e,hb,hc 0 _ rfl,hc 1 _ rfl⟩
def k2(g:Nat):aN:=aH (aC ⟨g,0,aB⟩) 2 2
structure zR(B:Nat)(sv kv:aN)(gs:List Nat)(done:List (Int×Int))(W:aJ):Prop where
 s:W.ownsRow B 162 2 sv (aA done) (AU done)
 k:W.ownsRow B 53 1 kv (aA done) (gs.map k2)
 len:aA gs=aA done
 g:∀j (hj:j<aA gs) (hd:j<aA done),W.heap[gs[j]]? =aC (aK #[ν done[j].1,ν done[j].2] 2 (0,0))
theorem zR.below {B:Nat} {sv kv:aN} {gs:List Nat} {done:List (Int×Int)} {W W':aJ}(h:zR B sv kv gs done W)(hb:aa W.heap.size W W'):zR B sv kv gs done W':=
 ⟨iA h.s hb,iA h.k hb,h.len,λj hj hd=>(hb.block _ (fW.1 (h.g j hj hd)).1).trans (h.g j hj hd)⟩
theorem zR.kept {B:Nat} {sv kv:aN} {gs:List Nat} {done:List (Int×Int)} {W W':aJ} {r:Nat}(h:zR B sv kv gs done W)(hg:W.grownBy W' (aC r))(hr:r<B)(hgr:∀g∈gs,g≠r):zR B sv kv gs done W':=by
 have hne:∀ {e s n} {v:aN} {xs:List aN},W.ownsRow B e s v n xs->v.ownBlock=aB\/v.ownBlock≠aC r:=λho=>aU λe=>by have:=eT ho r e;omega
 exact⟨h.s.kept hg (hne h.s),h.k.kept hg (hne h.k),h.len,λj hj hd=>(hg.block _ (fW.1 (h.g j hj hd)).1 (λe=>hgr _ (cK hj) (pE e))).trans (h.g j hj hd)⟩
theorem a4y(gs:List Nat):∀u∈gs.map k2,u.oneCell'=aO:=by intro u hu;obtain⟨g,_,rfl⟩:=dW.1 hu;rfl
theorem zR.key {B:Nat} {sv:aN} {A:Option aj} {c:Nat} {gs:List Nat} {done:List (Int×Int)} {W:aJ}(h:zR B sv (aH A (aA done) c) gs done W):Cj W W.heap.size A done:=λj hj=>by
 obtain⟨b,o,e,hb,hc⟩:=(aW.cA h.k).at (k:=j) (by rw [iR,h.len];exact hj);have hg:=h.g j (by rw [h.len];exact hj) hj;have hjg:j<aA gs:=by rw [h.len];exact hj
 rw [wk] at hc;exact⟨b,o,gs[j],2,e,hb,hc,(fW.1 hg).1,ρ hg,ρ hg⟩
structure U1(m:List ((Int×Int)×aN))(l:List (Int×Int)):Prop where
 wC:l.Pairwise (λa b=>pQ a<pQ b)
 mem:∀q,q∈l↔∃v,(q,v)∈m
def Yw(m:List ((Int×Int)×aN))(w:aJ)(e:dU)(w':aJ):Prop:=
 ∃v l,e=aT v/\U1 m l/\aA l<=aA m/\w'.ownsRow w.heap.size 162 2 v (aA l) (AU l)/\β w w'
theorem a5G {p q:Int×Int}(hp:aL p.2)(hq:aL q.2)(h:pQ p=pQ q):p=q:=by
 obtain⟨a,b⟩:=p;obtain⟨c,d⟩:=q;unfold aL at hp hq;simp only [pQ] at h hp hq;have h1:a=c:=by omega
 have h2:b=d:=by omega
 rw [h1,h2]
theorem aHG {m:List ((Int×Int)×aN)} {done:List (Int×Int)} {is:List Nat}(hI:∀p∈done,aL p.2)(hn:done.Nodup)(ho:JY done is)(Wq:∀q∈done,∃v,(q,v)∈m)(hall:∀p∈m,p.1∈done):U1 m (is.map λi=>done.getD i (0,0)):=by
 have hgd:∀i,i<aA done->done.getD i (0,0)∈done:=λi hi=>by
  have:done.getD i (0,0)=done[i]:=by simp [List.getD,hi]
  rw [this];exact cK hi
 refine⟨?_,λq=>⟨λhq=> ?_,λ⟨v,hv⟩=> ?_⟩⟩
 ·rw [BG];refine Ow ?_ ho.wC;intro a b ha hb h;have la:=ho.lt a ha;have lb:=ho.lt b hb;rcases h with h|⟨h,h2⟩
  ·exact h
  exfalso;unfold NH at h;simp only [Int.toNat_natCast] at h;have e:=a5G (hI _ (hgd a la)) (hI _ (hgd b lb)) h;have e1:done.getD a (0,0)=done[a]:=by simp [List.getD,la]
  have e2:done.getD b (0,0)=done[b]:=by simp [List.getD,lb]
  rw [e1,e2] at e;have:=(List.getElem_inj (xs:=done) (h₀:=la) (h₁:=lb) hn).1 e;omega
 ·obtain⟨i,hi,rfl⟩:=dW.1 hq;exact Wq _ (hgd i (ho.lt i hi))
 obtain⟨j,hj,e⟩:=sW.1 (hall _ hv);refine dW.2 ⟨j,ho.all j hj, ?_⟩;simp only at e;rw [<-e];simp [List.getD,hj]
theorem aIK(b:Nat)(m:List ((Int×Int)×aN))(w:aJ)(hm:eX aM 162 xL w b m)(hst:∃es clock,w.heap[b]? =aC (.map es clock)/\Stamped es clock)(hd:∀p∈m,J0 p.1)(hl:aA m<=100000):
 aQ aM 103 #[.map (aC b)] w (Yw m w):=by
 have HM:=η hm;have HST:=η hst;have HD:=η hd;obtain⟨i1,qL,Qy,Qz,R5⟩:=dL aKH;obtain⟨i2,qM,X0,X1,X2⟩:=dL a7O;clear hm hst hd;go_enter func103,ntmps103
 go_wp2_with (at_range;refine aLo _ rfl _ _ rfl a1M rfl HM.o HST.o ?_;intro w1 hit hb1 hz1)
 have B2:=η hit;have aR:=η hb1;have F6:w.heap.size<w1.heap.size:=by omega
 have lK:Hid (zR w1.heap.size (aH aB 0 0) (aH aB 0 0) [] [] w1):=η ⟨gC _ _ _ _,gC _ _ _ _,rfl,λj hj=>by simp at hj⟩;have ZG:Hid (∀g∈([]:List Nat),w1.heap.size<=g):=η (by simp);clear hit hb1 hz1;go_wp2_with fail
 go_frame
 go_loopw [3,4,5] (λsv kv _ wr=>∃(done:List (Int×Int)) (gs:List Nat),Hid (qc aM 162 xL wr b w.heap.size m done)/\Hid (zR w1.heap.size sv kv gs done wr)/\Hid (∀g∈gs,w1.heap.size<=g)/\Hid (β w wr/\w1.heap.size<=wr.heap.size)) (λ_ _ _ wr=>aA m-seenAt wr w.heap.size)
 case atStart=>exact⟨[],[],B2,lK,ZG,aR.o,aZ _⟩
 case round=>
  clear B2 lK ZG;obtain⟨done,gs,B2,lK,OA,HB⟩:=hrel;obtain⟨As,cs,Mz⟩:=bK lK.o.s;obtain⟨Ak,ck,WN⟩:=bK lK.o.k;subst Mz WN;have Ht:=B2.o.count;have xP:aA done<=100000:=by omega
  go_wp2_with (at_next;refine aLn _ a3D rfl _ rfl rfl B2.o ?_ ?_)
  ·intro a3w;have E6:Hid (∀p∈m,p.1∈done):=η (λp hp=>a3w p.1.1 p.1.2 p.2 hp);clear a3w;have Zd:=η B2.o.once;have fM:=η B2.o.sub;have TF:Hid (∀p∈done,aL p.2):=η (λp hp=>by obtain⟨v,hv⟩:=fM.o p hp;exact(HD.o _ hv).2);have wX:=η (a6F done Ak ck wr (by omega) TF.o lK.o.key);clear B2 OA;go_wp2_with (go_at_call 162;refine wX.o.mono ?_;unfold Si;rintro e w2 ⟨bw,is,rfl,eR,hb2,hc2,hz2,Hq⟩;have HIS:=η eR;have kJ:=η hc2;have aV:Hid (β wr w2):=η Hq;have CU:=η (lK.o.below Hq);have QM:bw<w2.heap.size:=hz2;clear eR hb2 hc2 hz2 Hq wX)
   have Hz:aA is=aA done:=HIS.o.len;have Cc:=η (aHG TF.o Zd.o HIS.o fM.o E6.o);obtain⟨ls,AB⟩:∃ls:List (Int×Int),ls=is.map λi=>done.getD i (0,0):=⟨_,rfl⟩
   rw [<-AB] at Cc;have Fu:=η AB;have mH:Hid (aA ls=aA done):=η (by rw [AB,iR];exact Hz);have tx:=η Hz;have th:Hid (β w w2):=η (HB.o.1.trans (aV.o.mono HB.o.1.size));clear AB Hz fM TF Zd lK HB aV E6;have LL:Hid (w2.ownsRow w2.heap.size 162 2 (aH aB 0 0) 0 (AU (ls.take 0))):=η (by rw [nQ];exact gC _ _ _ _);have sN:Hid (β w2 w2):=η (aX _ _);go_loopw [6,8,30] (λv _ i wr=>∃k:Nat,k<=aA done/\i=ν (k:Int)/\Hid (β w2 wr)/\Hid (wr.ownsRow w2.heap.size 162 2 v k (AU (ls.take k)))) (λ_ _ i _=>aA done-(ag i).toNat)
   case atStart=>exact⟨0,bL _,rfl,sN,LL⟩
   case round=>
    clear sN LL;obtain⟨k,hk,rfl,HB,HO⟩:=hrel;obtain⟨Ax,cx,pK⟩:=bK HO.o;subst pK;by_cases hlt:k<aA done
    ·have zx:k<aA is:=by rw [tx.o];exact hlt
     have c0:=(HB.o.cell (p:=⟨bw,k,aB⟩) QM).trans (kJ.o k zx);have nY:=HIS.o.lt _ (cK zx);obtain⟨be,oe,hA,kh,e0,e1⟩:=a7A (((aW.cA CU.o.s).below HB.o).mono HB.o.size) nY;have lO:Hid (ls.take (k+1)=ls.take k++ [done[is[k]]]):=η (by rw [fE (by rw [mH.o];exact hlt)];congr 2;simp [Fu.o,List.getD,nY]);have bu:(0:Int)<=((is[k]:Nat):Int):=by omega
     have hib:((is[k]:Nat):Int)<(aA done:Int):=by omega
     have eY:(0:Int)<=(k:Int):=by omega
     have hkb:(k:Int)<(aA done:Int):=by omega
     subst hA;generalize done[is[k]]=q at*;generalize is[k]=ix at*;obtain⟨q1,q2⟩:=q;simp only at e0 e1;have af:Hid (β w2 (wr.alloc (aK #[ν q1,ν q2] 162))):=η (HB.o.alloc HB.o.size _);have cD:=η (HO.o.alloc (aK #[ν q1,ν q2] 162));have hzz:w2.heap.size<=wr.heap.size:=HB.o.size;go_wp2_with (at_builtin;refine wpList_append_lies _ rfl _ _ 163 rfl w2.heap.size 162 i1 _ 2 16 aC8 qL Qy Qz R5 rfl (by omega) _ _ _ rfl cD.o ⟨wr.heap.size,0,aB⟩ 1 1 (Ih (q1,q2)) rfl rfl (dN _ _ #[_,_] rfl) (a7C _) (by omega) (by simp only [bM];omega) (by omega) (by simp;omega) (wr.heap.size+1) (by simp) ?_)
     intro g4 M6 w4 pN iM _ _;have ar:Hid (β w2 w4):=η (af.o.grown iM (by simp;omega) (λj hj=>eT cD.o j hj));have dV:Hid (w4.ownsRow w2.heap.size 162 2 (aH (aC ⟨g4,0,aB⟩) (k+1) M6) (k+1) (AU (ls.take (k+1)))):=η (by rw [lO.o,a6z];exact pN);clear pN iM af cD HO HB;go_wp2_with fail
     go_roundw
     case rel=>exact⟨k+1,by omega,by go_num,ar,dV⟩
     case measure=>simp [ag];omega
    obtain rfl:k=aA done:=by omega
    have fL:Hid (wr.ownsRow w.heap.size 162 2 (aH Ax (aA done) cx) (aA ls) (AU ls)):=η (by have h2:=HO.o;rw [List.take_of_length_le (by rw [mH.o];exact aZ _)] at h2;rw [mH.o];exact iB h2 th.o.size);go_wp2_with fail
    go_ret;exact⟨_,ls,rfl,Cc.o,by rw [mH.o];exact Ht,fL.o,th.o.trans (HB.o.mono th.o.size)⟩
  intro q1 q2 v w2 hq vZ hit hgr hsz hen;have e1:xL (q1,q2)=bU #[ν q1,ν q2]:=rfl;rw [e1] at hen ⊢;have Wv:w1.heap.size<=w2.heap.size:=by have:=HB.o.2;omega
  have CU:=η (lK.o.kept hgr F6 (λg hg=>by have:=OA.o g hg;omega));have ZO:=η hit;have aV:Hid (β w w2):=η (HB.o.1.grown hgr HB.o.1.size (λk hk=>by cases hk;exact aZ _));have aGo:=B2.o.seen;clear B2 lK HB hit hgr hsz hq vZ;have lF:=η (((aX w2.heap.size w2).alloc (aZ _) (aK #[ν q1,ν q2] 162)).alloc (by simp) (aK #[ν q1,ν q2] 162));have om:=η (CU.o.below lF.o);have cZ:Hid (((w2.alloc (aK #[ν q1,ν q2] 162)).alloc (aK #[ν q1,ν q2] 162)).heap[w2.heap.size]? =aC (aK #[ν q1,ν q2] 162 (0,0))):=η ((fF _ _ (by simp)).trans (cO w2 _));have rM:Hid (∀k,(aH As (aA done) cs).ownBlock=aC k->w1.heap.size<=k/\k<w2.heap.size):=η (λk hk=>CU.o.s.lt k hk);have GC:Hid (∀k,(aH Ak (aA done) ck).ownBlock=aC k->w1.heap.size<=k/\k<w2.heap.size):=η (λk hk=>CU.o.k.lt k hk);have HLEN:=η CU.o.len;go_wp2_with (at_builtin;refine wpList_append_lies _ rfl _ _ 163 rfl w1.heap.size 162 i1 _ 2 16 aC8 qL Qy Qz R5 rfl (by omega) _ _ _ rfl om.o.s ⟨w2.heap.size+1,0,aB⟩ 1 1 (Ih (q1,q2)) rfl rfl (dN _ _ #[_,_] (by simp)) (a7C _) (by omega) (by simp only [bM];omega) (by omega) (by simp;omega) (w2.heap.size+1+1) (by simp) ?_)
  intro g3 sq w3 mS gL Et _;have hz3:w2.heap.size+1<w3.heap.size:=by have:=gL.size;simp at this;omega
  have af:Hid (aa w1.heap.size w2 w3):=η ((lF.o.mono Wv).grown gL (by simp;omega) (λj hj=>(rM.o j hj).1));have hx3:=(gL.block w2.heap.size (by simp;omega) (λe=>by have:=(rM.o _ e.symm).2;omega)).trans cZ.o;have y0:w3.cell? ⟨w2.heap.size,0,aB⟩=aC (ν q1):=ρ hx3;have y1:w3.cell? ⟨w2.heap.size,1,aB⟩=aC (ν q2):=ρ hx3;have oZ:Hid (w3.ownsRow w1.heap.size 53 1 (aH Ak (aA done) ck) (aA done) (gs.map k2)):=η (om.o.k.kept gL (Bp om.o.k om.o.s (by decide)));have L4:Hid (∀j (hj:j<aA gs) (hd:j<aA done),w3.heap[gs[j]]? =aC (aK #[ν done[j].1,ν done[j].2] 2 (0,0))):=η (λj hj hd=>(gL.block _ (fW.1 (om.o.g j hj hd)).1 (λe=>gM om.o.s (om.o.g j hj hd) (by decide) e.symm)).trans (om.o.g j hj hd));have sP:Hid (w3.ownsRow w1.heap.size 162 2 (aH (aC ⟨g3,0,aB⟩) (aA done+1) sq) (aA done+1) (AU (done++ [(q1,q2)]))):=η (by rw [a6z];exact mS);clear mS gL Et hx3 om CU lF cZ;have rD:=η (((aX w3.heap.size w3).alloc (aZ _) (aK #[ν q1,ν q2] 2)).alloc (by simp) (aK #[k2 w3.heap.size] 53));have yD:=η (iA oZ.o rD.o);have jP:=η (iA sP.o rD.o);have gH:Hid (∀j u,([k2 w3.heap.size]:List aN)[j]? =aC u->((w3.alloc (aK #[ν q1,ν q2] 2)).alloc (aK #[k2 w3.heap.size] 53)).cell? ((⟨w3.heap.size+1,0,aB⟩:aj).add j)=aC u):=η (dN _ _ #[_] (by simp));have EB:Hid (((w3.alloc (aK #[ν q1,ν q2] 2)).alloc (aK #[k2 w3.heap.size] 53)).heap[w3.heap.size]? =aC (aK #[ν q1,ν q2] 2 (0,0))):=η ((fF _ _ (by simp)).trans (cO w3 _));go_wp2_with (at_builtin;refine wpList_append_lies _ rfl _ _ 235 rfl w1.heap.size 53 i2 _ 1 24 underlying235 qM X0 X1 X2 rfl (by omega) _ _ _ rfl yD.o ⟨w3.heap.size+1,0,aB⟩ 1 1 [k2 w3.heap.size] rfl rfl gH.o (a4y [w3.heap.size]) (by omega) (by simp only [bM];omega) (by omega) (by simp;omega) (w3.heap.size+1+1) (by simp) ?_)
  intro g5 M7 w5 F9 tJ Vi _;have N7:w3.heap.size+1<w5.heap.size:=by have:=tJ.size;simp at this;omega
  have cV:Hid (aa w1.heap.size w2 w5):=η ((af.o.trans (rD.o.mono (by omega))).grown tJ (by simp;omega) (λj hj=>(GC.o j hj).1));have nC:w5.heap[w3.heap.size]? =aC (aK #[ν q1,ν q2] 2 (0,0)):=(tJ.block _ (by simp;omega) (λe=>by have:=(GC.o _ e.symm).2;omega)).trans EB.o;have TZ:Hid (zR w1.heap.size (aH (aC ⟨g3,0,aB⟩) (aA done+1) sq) (aH (aC ⟨g5,0,aB⟩) (aA done+1) M7) (gs++ [w3.heap.size]) (done++ [(q1,q2)]) w5):=η (by
   have I5:=HLEN.o;refine⟨?_, ?_,by simp [I5],λj hj hd=> ?_⟩
   ·rw [cN];exact jP.o.kept tJ (Bp jP.o yD.o (by decide))
   ·rw [cN,df];exact F9
   rcases rQ j (aA gs) with h|h
   ·rw [UA h,UA (by omega)];have h6:=L4.o j h (by omega);have WT:=(fW.1 h6).1;have h7:=(rD.o.block _ WT).trans h6;exact(tJ.block _ (by simp;omega) (λe=>gM yD.o h7 (by decide) e.symm)).trans h7
   have e:j=aA gs:=by simp at hj;omega
   subst e;rw [UB (aZ _),UB (by omega)];simp [I5];exact nC)
  have a9H:Hid (∀g∈gs++ [w3.heap.size],w1.heap.size<=g):=η (λg hg=>by
   rcases gJ.1 hg with h|h
   ·exact OA.o g h
   simp at h;omega)
  have TJ:Hid (qc aM 162 xL w5 b w.heap.size m (done++ [(q1,q2)])):=η (ZO.o.aIY (cV.o.block b (by have:=HM.o.lt;omega)) (cV.o.block _ F6));have wN:Hid (β w w5/\w1.heap.size<=w5.heap.size):=η ⟨aV.o.trans (cV.o.mono (by omega)),by omega⟩;have a4V:=TJ.o.seen;have aGD:=TJ.o.count;rw [cN,uG] at a4V aGD;clear F9 tJ Vi nC cV af aV ZO sP jP oZ yD gH EB rD L4 OA rM GC;go_wp2_with fail
  go_roundw
  case rel=>exact⟨_,_,TJ,TZ,a9H,wN⟩
  case measure=>rw [a4V,aGo];omega
end
section
open Go.Maps Go.MapKept Go.ChangeMaps
def mX(x:ak)(y:Lg):Int:=if jX x y.m≠0 then jX x y.m else if y.a=0 then 0 else jI x y.a
theorem aHq(x:ak)(i:Int):jX x i=0\/jX x i=9:=by unfold jX;split<;>simp
theorem aI6(x:ak)(y:Lg)(w:aJ)(h:lX w x)(hm:aL y.m)(ha:aL y.a):
 aQ aM 102 #[x.val,y.val] w λe w'=>e=aT (ν (mX x y))/\β w w':=by
 obtain⟨ym,ya,yn⟩:=y;simp only at hm ha;have aV:Hid (β w ((w.alloc (aK #[aH x.Am (aA x.ms) x.cm,aH x.As (aA x.ss) x.cs,aH x.Ac (aA x.cy) x.cc,ν x.line,ν x.bV,ν x.lead,ν x.tr,ν x.bQ] 26)).alloc (aK #[ν ym,ν ya,ν yn] 76))):=η (σ.alloc (by simp) _);have cZ:Hid (((w.alloc (aK #[aH x.Am (aA x.ms) x.cm,aH x.As (aA x.ss) x.cs,aH x.Ac (aA x.cy) x.cc,ν x.line,ν x.bV,ν x.lead,ν x.tr,ν x.bQ] 26)).alloc (aK #[ν ym,ν ya,ν yn] 76)).heap[w.heap.size]? =aC (aK x.vals 26 (0,0))):=η ((fF _ _ (by simp)).trans (cO w _));have wY:Hid (((w.alloc (aK #[aH x.Am (aA x.ms) x.cm,aH x.As (aA x.ss) x.cs,aH x.Ac (aA x.cy) x.cc,ν x.line,ν x.bV,ν x.lead,ν x.tr,ν x.bQ] 26)).alloc (aK #[ν ym,ν ya,ν yn] 76)).heap[w.heap.size+1]? =aC (aK #[ν ym,ν ya,ν yn] 76 (0,0))):=η (by have h1:=cO (w.alloc (aK #[aH x.Am (aA x.ms) x.cm,aH x.As (aA x.ss) x.cs,aH x.Ac (aA x.cy) x.cc,ν x.line,ν x.bV,ν x.lead,ν x.tr,ν x.bQ] 26)) (aK #[ν ym,ν ya,ν yn] 76);rw [Cz] at h1;exact h1);have hz2:w.heap.size+1<((w.alloc (aK #[aH x.Am (aA x.ms) x.cm,aH x.As (aA x.ss) x.cs,aH x.Ac (aA x.cy) x.cc,ν x.line,ν x.bV,ν x.lead,ν x.tr,ν x.bQ] 26)).alloc (aK #[ν ym,ν ya,ν yn] 76)).heap.size:=by simp
 have zE:=η (λW (hW:β w W)=>Pk x ym W (h.below hW) hm);have oz:=η (λW (hW:β w W)=>Nh x ya W (h.below hW) ha);have JL:Hid (mX x ⟨ym,ya,yn⟩=if jX x ym≠0 then jX x ym else if ya=0 then 0 else jI x ya):=η rfl;unfold ak.val at zE oz;unfold ak.vals at cZ;unfold ak.val Lg.val;clear h hm ha;simp only;rcases aHq x ym with h0|h0
 ·rw [h0] at zE;by_cases ha0:ya=0
  ·subst ha0;have HR:Hid (mX x ⟨ym,0,yn⟩=0):=η (by rw [JL.o,ifN (by rw [h0];simp),ifP rfl]);clear h0 oz JL;go_enter a0V,a0p
   go_upto_region 1 with fail
   generalize ((w.alloc (aK #[aH x.Am (aA x.ms) x.cm,aH x.As (aA x.ss) x.cs,aH x.Ac (aA x.cy) x.cc,ν x.line,ν x.bV,ν x.lead,ν x.tr,ν x.bQ] 26)).alloc (aK #[ν ym,ν 0,ν yn] 76))=w2 at*;have iQ:Hid (∀W,β w2 W->W.heap[w.heap.size]? =aC (aK #[aH x.Am (aA x.ms) x.cm,aH x.As (aA x.ss) x.cs,aH x.Ac (aA x.cy) x.cc,ν x.line,ν x.bV,ν x.lead,ν x.tr,ν x.bQ] 26 (0,0))/\W.heap[w.heap.size+1]? =aC (aK #[ν ym,ν 0,ν yn] 76 (0,0))):=η (λW hW=>⟨(hW.block _ (by omega)).trans cZ.o,(hW.block _ hz2).trans wY.o⟩);obtain⟨bx,bT⟩:∃bx,bx=w.heap.size:=⟨_,rfl⟩;rw [<-bT] at iQ ⊢;clear bT;obtain⟨hx2,nE⟩:=iQ.o _ (aX _ _);have c0:=bH _ bx 0 _ _ (0,0) hx2;have c1:=bH _ bx 1 _ _ (0,0) hx2;have c2:=bH _ bx 2 _ _ (0,0) hx2;have c3:=bH _ bx 3 _ _ (0,0) hx2;have c4:=bH _ bx 4 _ _ (0,0) hx2;have c5:=bH _ bx 5 _ _ (0,0) hx2;have c6:=bH _ bx 6 _ _ (0,0) hx2;have c7:=bH _ bx 7 _ _ (0,0) hx2;have y0:=bH _ (bx+1) 0 _ _ (0,0) nE;have y1:=bH _ (bx+1) 1 _ _ (0,0) nE;clear hx2 nE;go_wp2_with (go_at_call 147;refine(zE.o _ aV.o).mono ?_;rintro e w3 ⟨rfl,hb3⟩;have af:Hid (β w w3):=τ aV hb3;have ar:Hid (β w (w3.alloc (aK #[ν (uX x ym).a,ν (uX x ym).b] 67))):=η (af.o.alloc af.o.size _);obtain⟨hx3,vn⟩:=iQ.o _ hb3;clear c0 c1 c2 c3 c4 c5 c6 c7 y0 y1;have c0:=bH _ bx 0 _ _ (0,0) hx3;have c1:=bH _ bx 1 _ _ (0,0) hx3;have c2:=bH _ bx 2 _ _ (0,0) hx3;have c3:=bH _ bx 3 _ _ (0,0) hx3;have c4:=bH _ bx 4 _ _ (0,0) hx3;have c5:=bH _ bx 5 _ _ (0,0) hx3;have c6:=bH _ bx 6 _ _ (0,0) hx3;have c7:=bH _ bx 7 _ _ (0,0) hx3;have y1:=bH _ (bx+1) 1 _ _ (0,0) vn;have gy:bx+1<w3.heap.size:=(fW.1 vn).1;have a4D:bx<w3.heap.size:=a0L gy;clear hx3 vn hb3)
   go_ret;exact⟨by rw [HR.o];rfl,ar.o⟩
  have HR:Hid (mX x ⟨ym,ya,yn⟩=jI x ya):=η (by rw [JL.o,ifN (by rw [h0];simp),ifN ha0]);have aMQ:(ya==0)=aP:=by simpa using ha0
  clear h0 ha0 JL;go_enter a0V,a0p
  go_upto_region 1 with fail
  generalize ((w.alloc (aK #[aH x.Am (aA x.ms) x.cm,aH x.As (aA x.ss) x.cs,aH x.Ac (aA x.cy) x.cc,ν x.line,ν x.bV,ν x.lead,ν x.tr,ν x.bQ] 26)).alloc (aK #[ν ym,ν ya,ν yn] 76))=w2 at*;have iQ:Hid (∀W,β w2 W->W.heap[w.heap.size]? =aC (aK #[aH x.Am (aA x.ms) x.cm,aH x.As (aA x.ss) x.cs,aH x.Ac (aA x.cy) x.cc,ν x.line,ν x.bV,ν x.lead,ν x.tr,ν x.bQ] 26 (0,0))/\W.heap[w.heap.size+1]? =aC (aK #[ν ym,ν ya,ν yn] 76 (0,0))):=η (λW hW=>⟨(hW.block _ (by omega)).trans cZ.o,(hW.block _ hz2).trans wY.o⟩);obtain⟨bx,bT⟩:∃bx,bx=w.heap.size:=⟨_,rfl⟩;rw [<-bT] at iQ ⊢;clear bT;obtain⟨hx2,nE⟩:=iQ.o _ (aX _ _);have c0:=bH _ bx 0 _ _ (0,0) hx2;have c1:=bH _ bx 1 _ _ (0,0) hx2;have c2:=bH _ bx 2 _ _ (0,0) hx2;have c3:=bH _ bx 3 _ _ (0,0) hx2;have c4:=bH _ bx 4 _ _ (0,0) hx2;have c5:=bH _ bx 5 _ _ (0,0) hx2;have c6:=bH _ bx 6 _ _ (0,0) hx2;have c7:=bH _ bx 7 _ _ (0,0) hx2;have y0:=bH _ (bx+1) 0 _ _ (0,0) nE;have y1:=bH _ (bx+1) 1 _ _ (0,0) nE;clear hx2 nE;go_wp2_with (first|(go_at_call 147;refine(zE.o _ aV.o).mono ?_;rintro e w3 ⟨rfl,hb3⟩;have af:Hid (β w w3):=τ aV hb3;have ar:Hid (β w (w3.alloc (aK #[ν (uX x ym).a,ν (uX x ym).b] 67))):=η (af.o.alloc af.o.size _);obtain⟨hx3,vn⟩:=iQ.o _ hb3;clear c0 c1 c2 c3 c4 c5 c6 c7 y0 y1;have c0:=bH _ bx 0 _ _ (0,0) hx3;have c1:=bH _ bx 1 _ _ (0,0) hx3;have c2:=bH _ bx 2 _ _ (0,0) hx3;have c3:=bH _ bx 3 _ _ (0,0) hx3;have c4:=bH _ bx 4 _ _ (0,0) hx3;have c5:=bH _ bx 5 _ _ (0,0) hx3;have c6:=bH _ bx 6 _ _ (0,0) hx3;have c7:=bH _ bx 7 _ _ (0,0) hx3;have y1:=bH _ (bx+1) 1 _ _ (0,0) vn;have gy:bx+1<w3.heap.size:=(fW.1 vn).1;have a4D:bx<w3.heap.size:=a0L gy;clear hx3 vn hb3)|(go_at_call 117;refine(oz.o _ ar.o).mono ?_;rintro e w5 ⟨rfl,cj⟩;have cV:Hid (β w w5):=τ ar cj;clear cj))
  go_ret;exact⟨by rw [HR.o];rfl,cV.o.alloc cV.o.size _⟩
 rw [h0] at zE;have HR:Hid (mX x ⟨ym,ya,yn⟩=9):=η (by rw [JL.o,ifP (by rw [h0];simp),h0]);clear h0 oz JL;go_enter a0V,a0p
 go_upto_region 1 with fail
 generalize ((w.alloc (aK #[aH x.Am (aA x.ms) x.cm,aH x.As (aA x.ss) x.cs,aH x.Ac (aA x.cy) x.cc,ν x.line,ν x.bV,ν x.lead,ν x.tr,ν x.bQ] 26)).alloc (aK #[ν ym,ν ya,ν yn] 76))=w2 at*;have iQ:Hid (∀W,β w2 W->W.heap[w.heap.size]? =aC (aK #[aH x.Am (aA x.ms) x.cm,aH x.As (aA x.ss) x.cs,aH x.Ac (aA x.cy) x.cc,ν x.line,ν x.bV,ν x.lead,ν x.tr,ν x.bQ] 26 (0,0))/\W.heap[w.heap.size+1]? =aC (aK #[ν ym,ν ya,ν yn] 76 (0,0))):=η (λW hW=>⟨(hW.block _ (by omega)).trans cZ.o,(hW.block _ hz2).trans wY.o⟩);obtain⟨bx,bT⟩:∃bx,bx=w.heap.size:=⟨_,rfl⟩;rw [<-bT] at iQ ⊢;clear bT;obtain⟨hx2,nE⟩:=iQ.o _ (aX _ _);have c0:=bH _ bx 0 _ _ (0,0) hx2;have c1:=bH _ bx 1 _ _ (0,0) hx2;have c2:=bH _ bx 2 _ _ (0,0) hx2;have c3:=bH _ bx 3 _ _ (0,0) hx2;have c4:=bH _ bx 4 _ _ (0,0) hx2;have c5:=bH _ bx 5 _ _ (0,0) hx2;have c6:=bH _ bx 6 _ _ (0,0) hx2;have c7:=bH _ bx 7 _ _ (0,0) hx2;have y0:=bH _ (bx+1) 0 _ _ (0,0) nE;have y1:=bH _ (bx+1) 1 _ _ (0,0) nE;clear hx2 nE;go_wp2_with (go_at_call 147;refine(zE.o _ aV.o).mono ?_;rintro e w3 ⟨rfl,hb3⟩;have af:Hid (β w w3):=τ aV hb3;have ar:Hid (β w (w3.alloc (aK #[ν (uX x ym).a,ν (uX x ym).b] 67))):=η (af.o.alloc af.o.size _);obtain⟨hx3,vn⟩:=iQ.o _ hb3;clear c0 c1 c2 c3 c4 c5 c6 c7 y0 y1;have c0:=bH _ bx 0 _ _ (0,0) hx3;have c1:=bH _ bx 1 _ _ (0,0) hx3;have c2:=bH _ bx 2 _ _ (0,0) hx3;have c3:=bH _ bx 3 _ _ (0,0) hx3;have c4:=bH _ bx 4 _ _ (0,0) hx3;have c5:=bH _ bx 5 _ _ (0,0) hx3;have c6:=bH _ bx 6 _ _ (0,0) hx3;have c7:=bH _ bx 7 _ _ (0,0) hx3;have y1:=bH _ (bx+1) 1 _ _ (0,0) vn;have gy:bx+1<w3.heap.size:=(fW.1 vn).1;have a4D:bx<w3.heap.size:=a0L gy;clear hx3 vn hb3)
 go_ret;exact⟨by rw [HR.o];rfl,ar.o⟩
theorem ui.entry {κ:Type} [DecidableEq κ] {kt:bY} {enc:κ->aN} {jc:κ->Prop} {w:aJ} {base b:Nat} {m:List (κ×aN)} {f:κ->List Int}(K:CE aM kt enc jc)(h:ui kt enc jc w base b m f) {t:bY}(ht:aM.underlying t=aC (.map kt 53)) {q:κ}(hq:jc q):
 ∃st w1,(GI t (.map (aC b)) (enc q)).run aM w= .ok (.tuple #[Bv q m,goInt st]) w1/\w.grownBy w1 (aC b)/\w1.heap.size=w.heap.size/\w1.ownsRow base 2 1 (Bv q m) (aA (f q)) ((f q).map (aG aF))/\
  ∀(w2:aJ) (v':aN) (ys:List Int),w1.grownBy w2 (Bv q m).ownBlock->w2.ownsRow base 2 1 v' (aA ys) (ys.map (aG aF))->(v'.ownBlock=(Bv q m).ownBlock\/v'.ownBlock=aC w1.heap.size)->
   ∃w3,(Ot t (.map (aC b)) (goInt st) v').run aM w2= .ok () w3/\ui kt enc jc w3 base b (eJ q v' m) (λz=>if z=q then ys else f z)/\
    (∀k,k<w.heap.size->k≠b->aC k≠(Bv q m).ownBlock->w3.heap[k]? =w.heap[k]?)/\w.heap.size<=w3.heap.size/\∀B,B<=b->aa B w w3:=by
 obtain⟨st,w1,hr,hg1,hs1,hf⟩:=h.map.entry (t:=t) (e:=53) K ht (z:= .slice aB 0 0) (λu=>by kernel_rfl) h.yr h.dom hq;have aMi:=h.low;have Qq:=h.slot q;have mA:∀ {e s n} {v:aN} {xs:List aN} {W:aJ},W.ownsRow base e s v n xs->v.ownBlock≠aC b:=λho e=>by have:=eT ho b e;omega
 have h1:=Qq.kept hg1 (aU (mA Qq));refine⟨st,w1,hr,hg1,hs1,h1,λw2 v' ys hg2 hown hloc=> ?_⟩;have hs2:=hg2.size;have Vk:=h.map.lt;obtain⟨w3,hr3,BX,Wp,hg3⟩:=hf w2 v' (hg2.block b (by rw [hs1];exact Vk) (λe=>mA Qq e.symm));have hs3:=hg3.size;refine⟨w3,hr3,⟨BX,Wp,h.low,λp hp=> ?_,λp hp p' ni hne=> ?_,λq' hq'=> ?_,λp hp=> ?_⟩,λk hk hkb WM=> ?_,by omega,λB hB=>⟨hg3.os.trans (hg2.os.trans hg1.os),hg3.tape.trans (hg2.tape.trans hg1.tape),hg3.output.trans (hg2.output.trans hg1.output),by omega,λk hk=>(hg3.block k (by omega) (by simp;omega)).trans ((hg2.block k (by omega) (λe=>by have:=eT Qq k e.symm;omega)).trans (hg1.block k (by omega) (by simp;omega)))⟩⟩
 ·rcases Kf h.map.apart hp with e|⟨gW,hne⟩
  ·subst e;simp only [if_true];exact hown.kept hg3 (aU (mA hown))
  have IC:=h.rows p gW;rw [ifN hne];have hr1:=IC.kept hg1 (aU (mA IC));refine(hr1.kept hg2 ?_).kept hg3 (aU (mA IC));have aGP:∀v,getM q m=aC v->p.2.ownBlock=aB\/p.2.ownBlock≠v.ownBlock:=λv hv=>h.far p gW (q,v) (RO hv) hne
  unfold Bv;cases KA:getM q m with
  |none=>cases hpo:p.2.ownBlock<;>simp [dy]
  |some v=>simpa using aGP v KA
 ·have apart:∀p∈m,p.1≠q->p.2.ownBlock=aB\/p.2.ownBlock≠v'.ownBlock:=λp hp hne=>by
   have IC:=h.rows p hp;rcases hloc with e|e
   ·rw [e];unfold Bv;cases KA:getM q m with
    |none=>cases hpo:p.2.ownBlock<;>simp [dy]
    |some v=>simpa using h.far p hp (q,v) (RO KA) hne
   rw [e];refine aU λe'=> ?_
   have:=(IC.lt _ e').2;omega
  rcases Kf h.map.apart hp with e|⟨gW,aGg⟩
  ·subst e;rcases Kf h.map.apart ni with e|⟨Wf,a4R⟩
   ·subst e;exact absurd rfl hne
   rcases apart p' Wf a4R with e|e
   ·simp only;rw [e];cases v'.ownBlock<;>simp
   exact aU (Ne.symm e)
  rcases Kf h.map.apart ni with e|⟨Wf,a4R⟩
  ·subst e;exact apart p gW aGg
  exact h.far p gW p' Wf hne
 ·have kp:q'≠q:=λe=>hq' _ (Xj m) e.symm
  rw [ifN kp];exact h.off q' (λp hp e=>by obtain⟨u,hu⟩:=a6f (q:=q) (v:=v') hp;exact hq' _ hu e)
 ·rcases Kf h.map.apart hp with e|⟨gW,_⟩
  ·rw [e];exact hq
  exact h.dom p gW
 exact(hg3.block k (by omega) (by simp;omega)).trans ((hg2.block k (by omega) WM).trans (hg1.block k hk (by simp;omega)))
def Lg.key(x:Lg):Int×Int:=(x.m,x.a)
def qH(L:List Lg)(q:Int×Int):List Int:=(L.filter λx=>x.key==q).map (·.n)
theorem aDI(L:List Lg)(x:Lg)(q:Int×Int):qH (L++ [x]) q=if q=x.key then qH L q++ [x.n] else qH L q:=by
 unfold qH;rw [List.filter_append,df];by_cases h:q=x.key
 ·rw [ifP h,List.filter_cons];simp [h]
 rw [ifN h,List.filter_cons];have:(x.key==q)=aP:=by simpa using Ne.symm h
 simp [this]
theorem a1x(L:List Lg)(q:Int×Int):aA (qH L q)<=aA L:=by unfold qH;rw [iR];exact qd _ _
def insSd(q:Int×Int):List (Int×Int)->List (Int×Int)
 | []=> [q]
 |p::l=>if q=p then p::l else if pQ q<pQ p then q::p::l else p::insSd q l
def fw(L:List Lg):List (Int×Int):=L.foldr (λx l=>insSd x.key l) []
theorem X9(q z:Int×Int):∀l,z∈insSd q l↔z=q\/z∈l
 | []=>by simp [insSd]
 |p::l=>by
  unfold insSd;split
  ·rename_i h;subst h;simp
  split
  ·simp
  simp only [fC,X9 q z l];constructor
  ·rintro (h|h|h)
   ·exact aU (aS h)
   ·exact aS h
   exact aU (aU h)
  rintro (h|h|h)
  ·exact aU (aS h)
  ·exact aS h
  exact aU (aU h)
theorem a4m {q:Int×Int}(hq:aL q.2):∀ {l:List (Int×Int)},(∀p∈l,aL p.2)->l.Pairwise (λa b=>pQ a<pQ b)->(insSd q l).Pairwise (λa b=>pQ a<pQ b)
 | [],_,_=>by simp [insSd]
 |p::l,hI,h=>by
  obtain⟨h1,h2⟩:=kX.1 h;unfold insSd;split
  ·exact h
  rename_i hne;split
  ·rename_i hlt;refine kX.2 ⟨λz hz=> ?_,h⟩;rcases fC.1 hz with rfl|hz
   ·exact hlt
   exact Int.lt_trans hlt (h1 z hz)
  rename_i pM;refine kX.2 ⟨λz hz=> ?_,a4m hq (λz hz=>hI z (dh _ hz)) h2⟩;rcases (X9 q z l).1 hz with rfl|hz
  ·have:pQ z≠pQ p:=λe=>hne (a5G hq (hI p (pD ..)) e)
   omega
  exact h1 z hz
theorem Ru(L:List Lg)(q:Int×Int):q∈fw L↔∃x∈L,x.key=q:=by
 induction L with
 |nil=>simp [fw]
 |cons x L ih=>
  show q∈insSd x.key (fw L)↔_;rw [X9,ih];simp [eq_comm]
theorem a7D {L:List Lg}(hI:∀x∈L,aL x.a):(fw L).Pairwise (λa b=>pQ a<pQ b):=by
 induction L with
 |nil=>simp [fw]
 |cons x L ih=>
  refine a4m (hI x (pD ..)) (λp hp=> ?_) (ih (λy hy=>hI y (dh _ hy)));obtain⟨y,hy,rfl⟩:=(Ru L p).1 hp;exact hI y (dh _ hy)
theorem a7e {α:Type} {k:α->Int}:∀ {a b:List α},a.Pairwise (λx y=>k x<k y)->b.Pairwise (λx y=>k x<k y)->(∀z,z∈a↔z∈b)->a=b
 | [],[],_,_,_=>rfl
 | [],y::b,_,_,h=>absurd ((h y).2 (pD ..)) (by simp)
 |x::a,[],_,_,h=>absurd ((h x).1 (pD ..)) (by simp)
 |x::a,y::b,ha,hb,h=>by
  obtain⟨a1,a2⟩:=kX.1 ha;obtain⟨b1,b2⟩:=kX.1 hb;have hxy:x=y:=by
   rcases fC.1 ((h x).1 (pD ..)) with e|e
   ·exact e
   rcases fC.1 ((h y).2 (pD ..)) with e2|e2
   ·exact e2.symm
   have:=b1 x e;have:=a1 y e2;omega
  subst hxy;rw [a7e a2 b2 λz=> ?_];constructor
  ·intro hz;rcases fC.1 ((h z).1 (dh _ hz)) with e|e
   ·subst e;have:=a1 z hz;omega
   exact e
  intro hz;rcases fC.1 ((h z).2 (dh _ hz)) with e|e
  ·subst e;have:=b1 z hz;omega
  exact e
theorem aHH {m:List ((Int×Int)×aN)} {l:List (Int×Int)} {L:List Lg}(h:U1 m l)(hI:∀x∈L,aL x.a)(hk:∀q,(∃v,(q,v)∈m)↔∃x∈L,x.key=q):l=fw L:=
 a7e h.wC (a7D hI) λz=>by rw [h.mem,hk,Ru]
end
section
open Go.Maps Go.MapKept Go.ChangeMaps
structure Lg.ok(x:Lg):Prop where
 m:aL x.m
 a:aL x.a
 n:aL x.n
def Ei(x:ak)(L:List Lg):Int:=match L.find? (λy=>mX x y !=0) with|some y=>mX x y|none=>0
def sD(L:List Lg)(q:Int×Int):Int:=sumI (qH L q)
def mB(x:ak)(L:List Lg):Int:=if 1024<(aA L) then 6 else if Ei x L≠0 then Ei x L else if (fw L).any (λq=>dM (sD L q) !=0)=aO then 2 else 0
def mC(L:List Lg)(l:List (Int×Int)):List Lg:=(l.filter λq=>sD L q !=0).map λq=>⟨q.1,q.2,sD L q⟩
def gY(L:List Lg):List Lg:=mC L (fw L)
theorem aIE(L:List Lg) {l:List (Int×Int)} {k:Nat}(hk:k<aA l):mC L (l.take (k+1))=mC L (l.take k)++(if sD L l[k]≠0 then [⟨l[k].1,l[k].2,sD L l[k]⟩] else []):=by unfold mC;rw [MH _ hk,df];by_cases h:sD L l[k]=0<;>simp [h]
theorem aID(L:List Lg)(l:List (Int×Int))(k:Nat):aA (mC L (l.take k))<=aA l:=by unfold mC;rw [iR];exact MG _ _ _
theorem aFh {x:ak} {L:List Lg} {k:Nat}(hk:k<aA L)(h:(L.take k).any (λy=>mX x y !=0)=aP)(hn:mX x L[k]≠0):Ei x L=mX x L[k]:=by
 unfold Ei;have e:L=L.take k++L[k]::L.drop (k+1):=by rw [List.getElem_cons_drop,List.take_append_drop]
 have h1:L.find? (λy=>mX x y !=0)=aC L[k]:=by rw [List.find?_eq_some_iff_append];refine⟨by simpa using hn,L.take k,L.drop (k+1),e,λa ha=> ?_⟩;have:=zO.1 h a ha;simpa using this
 rw [h1]
theorem aFg {x:ak} {L:List Lg}(h:L.any (λy=>mX x y !=0)=aP):Ei x L=0:=by unfold Ei;rw [List.find?_eq_none.2 (λa ha=>by have:=zO.1 h a ha;simpa using this)]
def a8y(x:ak)(L:List Lg)(w:aJ)(e:dU)(w':aJ):Prop:=
 β w w'/\((mB x L=0/\∃v,e=aT (bB #[v,ν 0])/\w'.ownsRow w.heap.size 76 3 v (aA (gY L)) (bA (gY L)))\/(mB x L≠0/\e=aT (bB #[aH aB 0 0,ν (mB x L)])))
structure Jd(w:aJ)(base b:Nat)(m:List ((Int×Int)×aN))(L:List Lg)(W:aJ):Prop where
 g:ui 162 xL J0 W base b m (qH L)
 key:∀q,(∃v,(q,v)∈m)↔∃x∈L,x.key=q
 len:aA m<=aA L
 bl:β w W
 lo:w.heap.size<=b/\b<base/\base<=W.heap.size
theorem Jd.below {w W W':aJ} {base b:Nat} {m:List ((Int×Int)×aN)} {L:List Lg}(h:Jd w base b m L W)(hb:aa W.heap.size W W'):Jd w base b m L W':=
 ⟨h.g.below (aZ _) hb,h.key,h.len,h.bl.trans (hb.mono h.bl.size),h.lo.1,h.lo.2.1,bz h.lo.2.2 hb.size⟩
theorem aIJ(x:ak)(L:List Lg)(A:Option aj)(c:Nat)(w:aJ)(h:lX w x)(hs:aW w w.heap.size A (bA L))(hI:∀y∈L,y.ok)(hl:aA L<=100000):
 aQ aM 52 #[x.val,aH A (aA L) c] w (a8y x L w):=by
 have aR:Hid (β w (w.alloc (aK #[aH x.Am (aA x.ms) x.cm,aH x.As (aA x.ss) x.cs,aH x.Ac (aA x.cy) x.cc,ν x.line,ν x.bV,ν x.lead,ν x.tr,ν x.bQ] 26))):=η σ;have o7:Hid ((w.alloc (aK #[aH x.Am (aA x.ms) x.cm,aH x.As (aA x.ss) x.cs,aH x.Ac (aA x.cy) x.cc,ν x.line,ν x.bV,ν x.lead,ν x.tr,ν x.bQ] 26)).heap[w.heap.size]? =aC (aK x.vals 26 (0,0))):=η (cO w _);have tj:=η h;have HS:=η hs;have HI:=η hI;have hz1:w.heap.size<(w.alloc (aK #[aH x.Am (aA x.ms) x.cm,aH x.As (aA x.ss) x.cs,aH x.Ac (aA x.cy) x.cc,ν x.line,ν x.bV,ν x.lead,ν x.tr,ν x.bQ] 26)).heap.size:=by simp
 unfold ak.vals at o7;clear h hs hI;by_cases ki:1024<aA L
 ·have HE:Hid (mB x L=6):=η (by unfold mB;rw [ifP ki]);have h1:(1024:Int)<(aA L:Int):=by omega
  unfold ak.val;go_enter aB5,aBr
  go_wp2_with fail
  go_ret2;exact⟨aR.o,aU ⟨by rw [HE.o];decide,by rw [HE.o];rfl⟩⟩
 have bX:=η ki;have DN:decide ((1024:Int)<(aA L:Int))=aP:=decide_eq_false (by omega);have pL:decide (1024<aA L)=aP:=decide_eq_false ki;have hl:aA L<=1024:=by omega
 clear ki;have pd:=η (λ(y:Lg) (hy:y.ok) W (hW:β w W)=>aI6 x y W (tj.o.below hW) hy.m hy.a);have mR:= @run_makeMap aM;obtain⟨i0,bu,hz0',fj,xV⟩:=dL NB;unfold ak.val at pd ⊢;go_enter aB5,aBr
 go_upto_region 3 with fail
 generalize (w.alloc (aK #[aH x.Am (aA x.ms) x.cm,aH x.As (aA x.ss) x.cs,aH x.Ac (aA x.cy) x.cc,ν x.line,ν x.bV,ν x.lead,ν x.tr,ν x.bQ] 26))=w1 at*;obtain⟨bx,bT⟩:∃bx,bx=w.heap.size:=⟨_,rfl⟩;have dH:=η bT;rw [<-bT] at o7 hz1 ⊢;clear bT;have od:Hid (Jd w1 (w1.heap.size+1) w1.heap.size [] (L.take 0) (w1.alloc (.map #[] 0))):=η (by
  have e:qH (L.take 0)=λ_=> []:=by funext q;rw [nQ];rfl
  refine⟨by rw [e];exact ui.made w1,λq=>by simp,by simp,(aX _ _).alloc (aZ _) _,aZ _,by omega,by simp⟩)
 have zA:Hid ((L.take 0).any (λy=>mX x y !=0)=aP):=η (by rw [nQ];rfl);have HXW:Hid (∀W,β w1 W->W.heap[bx]? =aC (aK #[aH x.Am (aA x.ms) x.cm,aH x.As (aA x.ss) x.cs,aH x.Ac (aA x.cy) x.cc,ν x.line,ν x.bV,ν x.lead,ν x.tr,ν x.bQ] 26 (0,0))):=η (λW hW=>(hW.block bx hz1).trans o7.o);go_wp2_with fail
 go_loopw [8,9,10,22] (λ_ _ _ i wr=>∃(k:Nat) (m:List ((Int×Int)×aN)),k<=aA L/\i=ν (k:Int)/\Hid (Jd w1 (w1.heap.size+1) w1.heap.size m (L.take k) wr)/\Hid ((L.take k).any (λy=>mX x y !=0)=aP)) (λ_ _ _ i _=>aA L-(ag i).toNat)
 case atStart=>exact⟨0,[],bL _,rfl,od,zA⟩
 case round=>
  clear od zA;obtain⟨k,m,hk,rfl,HN,HF⟩:=hrel;have cC:Hid (β w wr):=η (aR.o.trans (HN.o.bl.mono aR.o.size));by_cases hlt:k<aA L
  ·obtain⟨be,oe,rfl,kh,e0,e1,e2⟩:=oL ((HS.o.below cC.o).mono cC.o.size) hlt;have dR:=HI.o _ (cK hlt);have O7:=η (λhn=>aFh (x:=x) hlt HF.o hn);have CN:=η (zW (λy=>mX x y !=0) hlt);have lO:Hid (L.take (k+1)=L.take k++ [L[k]]):=η (fE hlt);have hpl:aA (L.take k)<=1024:=by rw [uz];omega
   have eY:(0:Int)<=(k:Int):=by omega
   have hkb:(k:Int)<(aA L:Int):=by omega
   generalize L[k]=y at*;generalize L.take k=pre at*;have Kv:=η (pd.o y dR);obtain⟨ym,ya,yn⟩:=y;simp only at e0 e1 e2;have dP:=η dR;have dX:bx<wr.heap.size:=by have:=HN.o.bl.size;omega
   have aV:Hid (β w (wr.alloc (aK #[ν ym,ν ya,ν yn] 76))):=η (cC.o.alloc cC.o.size _);have Ci:Hid ((wr.alloc (aK #[ν ym,ν ya,ν yn] 76)).heap[wr.heap.size]? =aC (aK #[ν ym,ν ya,ν yn] 76 (0,0))):=η (cO wr _);have qR:=η (HN.o.below ((aX _ _).alloc (aZ _) (aK #[ν ym,ν ya,ν yn] 76)));have hz2:wr.heap.size<(wr.alloc (aK #[ν ym,ν ya,ν yn] 76)).heap.size:=by simp
   clear dR;unfold Lg.val at Kv;simp only at Kv;go_upto_region 7 with fail
   generalize wr.alloc (aK #[ν ym,ν ya,ν yn] 76)=w2 at*;clear HN cC e0 e1 e2;obtain⟨BK,hby⟩:∃b',b'=wr.heap.size:=⟨_,rfl⟩;rw [<-hby] at Ci hz2 dX ⊢;clear hby;have JV:Hid (∀W,β w2 W->W.heap[bx]? =aC (aK #[aH x.Am (aA x.ms) x.cm,aH x.As (aA x.ss) x.cs,aH x.Ac (aA x.cy) x.cc,ν x.line,ν x.bV,ν x.lead,ν x.tr,ν x.bQ] 26 (0,0))/\W.heap[BK]? =aC (aK #[ν ym,ν ya,ν yn] 76 (0,0))):=η (λW hW=>⟨HXW.o W (qR.o.bl.trans (hW.mono qR.o.bl.size)),(hW.block BK hz2).trans Ci.o⟩);obtain⟨hx2,nE⟩:=JV.o _ (aX _ _);have c0:=bH _ bx 0 _ _ (0,0) hx2;have c1:=bH _ bx 1 _ _ (0,0) hx2;have c2:=bH _ bx 2 _ _ (0,0) hx2;have c3:=bH _ bx 3 _ _ (0,0) hx2;have c4:=bH _ bx 4 _ _ (0,0) hx2;have c5:=bH _ bx 5 _ _ (0,0) hx2;have c6:=bH _ bx 6 _ _ (0,0) hx2;have c7:=bH _ bx 7 _ _ (0,0) hx2;have y0:=bH _ BK 0 _ _ (0,0) nE;have y1:=bH _ BK 1 _ _ (0,0) nE;have y2:=bH _ BK 2 _ _ (0,0) nE;clear hx2 nE;by_cases hn:mX x ⟨ym,ya,yn⟩=0
   ·rw [hn] at Kv;have jM:Hid ((L.take (k+1)).any (λy=>mX x y !=0)=aP):=η (by rw [CN.o,HF.o,hn];rfl);clear hn O7 CN HF;go_upto_region 11 with (go_at_call 102;refine(Kv.o _ aV.o).mono ?_;rintro e w3 ⟨rfl,hb3⟩;have iP:=η (qR.o.below hb3);have BD:=(JV.o _ hb3).2;have hz3:BK<w3.heap.size:=cP hz2 hb3.size;clear c0 c1 c2 c3 c4 c5 c6 c7 y0 y1 y2 hb3;have y0:=bH _ BK 0 _ _ (0,0) BD;have y1:=bH _ BK 1 _ _ (0,0) BD;have a0A:=η BD;clear BD)
    have gH:=η (iP.o.below ((aX _ _).alloc (aZ _) (aK #[ν ym,ν ya] 162)));have U0:=η ((fF w3 (aK #[ν ym,ν ya] 162) hz3).trans a0A.o);have jP:=η (cO w3 (aK #[ν ym,ν ya] 162));have mW:w3.heap.size<(w3.alloc (aK #[ν ym,ν ya] 162)).heap.size:=by simp
    clear y0 y1 iP a0A qR Ci JV aV o7 kh;generalize w3.alloc (aK #[ν ym,ν ya] 162)=w4 at*;generalize w3.heap.size=bq at*;have y2:=bH _ BK 2 _ _ (0,0) U0.o;have s0:=bH _ bq 0 _ _ (0,0) jP.o;have s1:=bH _ bq 1 _ _ (0,0) jP.o;have N7:BK<w4.heap.size:=Li hz3 mW;have O5:Hid (J0 (ym,ya)):=η ⟨dP.o.m,dP.o.a⟩;obtain⟨st,w5,uU,ej,hs5,iU,DO⟩:=(gH.o.below ((aX _ _).alloc (aZ _) (aK #[ν yn] 2))).g.entry a7B a1M O5.o;obtain⟨Aq,cq,vT⟩:=bK iU;have Ae:Hid (w5.cell? ⟨w4.heap.size,0,aB⟩=aC (ν yn)):=η (by have e1:=ej.cell_far ⟨w4.heap.size,0,aB⟩ (by simp) (by have:=gH.o.lo;simp;omega);rw [e1];exact cL w4 _ _ 0 rfl);have I6:w1.heap.size+1<=w5.heap.size:=by rw [hs5];have:=gH.o.lo;simp;omega
    rw [vT] at uU iU;have Mw:(GI 159 (.map (aC w1.heap.size)) (bU #[ν ym,ν ya])).run aM (w4.alloc (aK #[ν yn] 2))= .ok (bB #[aH Aq (aA (qH pre (ym,ya))) cq,goInt st]) w5:=uU;have hbl:=a1x pre (ym,ya);have E9:=η DO;have fL:=η iU;have Aj:=η vT;clear uU DO iU ej hs5 vT;generalize goInt st=gs at*;go_wp2_with (at_builtin;refine wpList_append_own_at _ rfl _ _ 53 rfl (w1.heap.size+1) 2 i0 _ 1 8 mP bu hz0' fj xV rfl (by decide) _ (aA (qH pre (ym,ya))) ((qH pre (ym,ya)).map (aG aF)) rfl fL.o ⟨w4.heap.size,0,aB⟩ 1 1 [ν yn] rfl rfl (by intro j u hu;cases j with|zero=>simp at hu;subst hu;exact Ae.o|succ j=>simp at hu) xh (by simp only [bM];omega) (by omega) I6 ?_)
    intro v6 w6 FA Ez _ F5;obtain⟨w7,Db,Em,F3,AE,hB7⟩:=E9.o w6 v6 (qH pre (ym,ya)++ [yn]) (by rw [Aj.o];exact Ez) (by rw [cN,df];exact FA) (by rw [Aj.o];exact F5);have EH:Hid (Jd w1 (w1.heap.size+1) w1.heap.size (@eJ _ instBEqOfDecidableEq (ym,ya) v6 m) (L.take (k+1)) w7):=η (by
     have nZ:=gH.o.lo;have aGA:aa w1.heap.size w4 w7:=(((aX w4.heap.size w4).alloc (aZ _) _).mono (by omega)).trans (hB7 _ (aZ _));refine⟨?_,λq=> ?_, ?_, ?_,⟨nZ.1,nZ.2.1, ?_⟩⟩
     ·have e:qH (L.take (k+1))=λz=>if z=(ym,ya) then qH pre (ym,ya)++ [yn] else qH pre z:=by
       funext z;rw [lO.o,aDI];show (if z=(ym,ya) then _ else _)=_;by_cases hz:z=(ym,ya)
       ·subst hz;rfl
       rw [ifN hz,ifN hz]
      rw [e];exact Em
     ·rw [lO.o];constructor
      ·rintro⟨v,hv⟩;rcases Kf gH.o.g.map.apart hv with e|⟨hv0,_⟩
       ·injection e with e1 e2;exact⟨⟨ym,ya,yn⟩,by simp,e1.symm⟩
       obtain⟨y,hy,e⟩:=(gH.o.key q).1 ⟨v,hv0⟩;exact⟨y,vA _ hy,e⟩
      rintro⟨y,hy,e⟩;rcases gJ.1 hy with hy|hy
      ·obtain⟨v,hv⟩:=(gH.o.key q).2 ⟨y,hy,e⟩;exact a6f (q:=(ym,ya)) (v:=v6) hv
      have:y=⟨ym,ya,yn⟩:=by simpa using hy
      subst this;rw [<-e];exact⟨v6,Xj m⟩
     ·rw [lO.o,cN];have h1:=a6e (q:=(ym,ya)) (v:=v6) m;have h2:=gH.o.len;simp;omega
     ·exact gH.o.bl.trans aGA
     have:w4.heap.size+1<=w7.heap.size:=by simpa using AE
     omega)
    clear FA Ez F5 Em F3 AE hB7 E9 fL Ae Aj Mw gH;go_wp2_with fail
    clear Db;go_roundw
    case rel=>exact⟨k+1,_,by omega,by go_num,EH,jM⟩
    case measure=>simp [ag];omega
   have HR:Hid (mB x L=mX x ⟨ym,ya,yn⟩):=η (by unfold mB;rw [ifN bX.o,ifP (by rw [O7.o hn];exact hn),O7.o hn]);have HNZ:=η hn;have hne:(mX x ⟨ym,ya,yn⟩==0)=aP:=by simpa using hn
   have a4Q:(mX x ⟨ym,ya,yn⟩ !=0)=aO:=by simpa using hn
   generalize mX x ⟨ym,ya,yn⟩=E at*;clear hn O7 CN HF;go_wp2_with (go_at_call 102;refine(Kv.o _ aV.o).mono ?_;rintro e w3 ⟨rfl,hb3⟩;have af:Hid (β w w3):=τ aV hb3;clear hb3)
   go_ret2;exact⟨af.o,aU ⟨by rw [HR.o];exact HNZ.o,by rw [HR.o];rfl⟩⟩
  obtain rfl:k=aA L:=by omega
  rw [cT] at HN HF;have zA:Hid (Ei x L=0):=η (aFg HF.o);have OS:Hid (mB x L=if (fw L).any (λq=>dM (sD L q) !=0)=aO then 2 else 0):=η (by unfold mB;rw [ifN bX.o,ifN (by rw [zA.o];simp)]);have wX:=η (aIK w1.heap.size m wr HN.o.g.map HN.o.g.yr HN.o.g.dom (by have:=HN.o.len;omega));obtain⟨i1,qL,Qy,Qz,R5⟩:=dL RI;clear mR;go_wp2_with (go_at_call 103;refine wX.o.mono ?_;unfold Yw;rintro e wh ⟨vo,l,rfl,hsd,nB,km,hbl⟩;have qX:=η hsd;have EI:=η km;have TT:=η (HN.o.below hbl);have Kq:Hid (β w wh):=η ((cC.o).trans (hbl.mono cC.o.size));obtain⟨Ao,co,hvo⟩:=bK km;subst hvo;clear hsd km hbl wX)
  have hlen:=HN.o.len;obtain rfl:l=fw L:=aHH qX.o (λy hy=>(HI.o y hy).a) HN.o.key;have jk:aA (fw L)<=1024:=by omega
  clear HN nB qX cC HF zA hlen;have sN:Hid (β wh wh):=η (aX _ _);have Ze:Hid (wh.ownsRow wh.heap.size 76 3 (aH aB 0 0) (aA (mC L ((fw L).take 0))) (bA (mC L ((fw L).take 0)))):=η (by rw [nQ];exact gC _ _ _ _);have Ce:Hid (((fw L).take 0).any (λq=>dM (sD L q) !=0)=aP):=η (by rw [nQ];rfl);go_loopw [11,13,14,15,50] (λv _ _ _ i wr=>∃k:Nat,k<=aA (fw L)/\i=ν (k:Int)/\Hid (β wh wr)/\Hid (wr.ownsRow wh.heap.size 76 3 v (aA (mC L ((fw L).take k))) (bA (mC L ((fw L).take k))))/\Hid (((fw L).take k).any (λq=>dM (sD L q) !=0)=aP)) (λ_ _ _ _ i _=>aA (fw L)-(ag i).toNat)
  case atStart=>exact⟨0,bL _,rfl,sN,Ze,Ce⟩
  case round=>
   clear sN Ze Ce;obtain⟨k,hk,rfl,HR,HO,HV⟩:=hrel;obtain⟨Ax,cx,pK⟩:=bK HO.o;subst pK;by_cases hlt:k<aA (fw L)
   ·obtain⟨bo,oo,rfl,tI,e0,e1⟩:=a7A (((aW.cA EI.o).below HR.o).mono HR.o.size) hlt;have cG:=η (aIE L hlt);have LX:=η (zW (λq=>dM (sD L q) !=0) hlt);have EN:Hid ((dM (sD L (fw L)[k]) !=0)=aO->(fw L).any (λq=>dM (sD L q) !=0)=aO):=η (λh=>jv.2 ⟨_,cK hlt,h⟩);have gV:aA (mC L ((fw L).take k))<=1024:=bz (aID L _ k) jk;have WX:=(Ru L (fw L)[k]).1 (cK hlt);have eY:(0:Int)<=(k:Int):=by omega
    have hkb:(k:Int)<(aA (fw L):Int):=by omega
    generalize (fw L)[k]=q at*;obtain⟨y,hy,hyq⟩:=WX;have O5:Hid (J0 q):=η (by rw [<-hyq];exact⟨(HI.o y hy).m,(HI.o y hy).a⟩);obtain⟨Aq,cq,vT⟩:=bK (TT.o.g.slot q);have kK:Hid (∀W,β wh W->(Instr.lookup 159 (.map (aC w1.heap.size)) (bU #[ν q.1,ν q.2]) aP).run aM W= .ok (aH Aq (aA (qH L q)) cq) W):=η λW hW=>by have h2:=(TT.o.below hW).g.look a7B O5.o a1M;rw [vT] at h2;exact h2
    have kV:Hid (∀W,β wh W->aQ aM 104 #[aH Aq (aA (qH L q)) cq] W λe w'=>e=aT (bB #[ν (gQ (sD L q)),ν (dM (sD L q))])/\β W w'):=η λW hW=>Du (qH L q) Aq cq W (λz hz=>by obtain⟨u,hu,rfl⟩:=dW.1 hz;exact(HI.o u (jD.1 hu).1).n) (by have h2:=(TT.o.below hW).g.slot q;rw [vT] at h2;exact aW.cA h2) (by have:=a1x L q;omega)
    have af:Hid (β wh (wr.alloc (aK #[ν q.1,ν q.2] 162))):=η (HR.o.alloc HR.o.size _);have o8:=η (cO wr (aK #[ν q.1,ν q.2] 162));have cD:=η (HO.o.alloc (aK #[ν q.1,ν q.2] 162));have hz3:wr.heap.size<(wr.alloc (aK #[ν q.1,ν q.2] 162)).heap.size:=by simp
    clear vT hy hyq O5 HO;go_upto_region 17 with fail
    generalize wr.alloc (aK #[ν q.1,ν q.2] 162)=w3 at*;clear e0 e1;obtain⟨bq,Vn⟩:∃b',b'=wr.heap.size:=⟨_,rfl⟩;rw [<-Vn] at o8 hz3 ⊢;clear Vn;have iQ:Hid (∀W,β w3 W->W.cell? ⟨bq,0,aB⟩=aC (ν q.1)/\W.cell? ⟨bq,1,aB⟩=aC (ν q.2)):=η (λW hW=>⟨((ez hW).1 _ _ hz3).trans (ρ o8.o),((ez hW).1 _ _ hz3).trans (ρ o8.o)⟩);obtain⟨s0,s1⟩:=iQ.o _ (aX _ _);have hlk:=kK.o _ af.o;obtain⟨q1,q2⟩:=q;simp only at kK kV iQ s0 s1 hlk cG LX EN;generalize sD L (q1,q2)=s at*;by_cases hs1:aL s
    ·have yH:Hid (((fw L).take (k+1)).any (λq=>dM (sD L q) !=0)=aP):=η (by rw [LX.o,HV.o,(eA hs1).2];rfl);rw [(eA hs1).1,(eA hs1).2] at kV;by_cases hs0:s=0
     ·subst hs0;have HD:Hid (mC L ((fw L).take (k+1))=mC L ((fw L).take k)):=η (by rw [cG.o,ifN (by simp),List.append_nil]);clear hs1 LX EN cG kK;go_wp2_with (go_at_call 104;refine(kV.o _ af.o).mono ?_;rintro e w4 ⟨rfl,hb4⟩;have ar:Hid (β wh w4):=τ af hb4;have gH:Hid (β w3 w4):=η hb4;obtain⟨s0',s1'⟩:=iQ.o _ hb4;clear hb4 hlk s0 s1)
      have fL:Hid (w4.ownsRow wh.heap.size 76 3 (aH Ax (aA (mC L ((fw L).take k))) cx) (aA (mC L ((fw L).take (k+1)))) (bA (mC L ((fw L).take (k+1))))):=η (by rw [HD.o];exact iA cD.o gH.o);go_roundw
      case rel=>exact⟨k+1,by omega,by go_num,ar,fL,yH⟩
      case measure=>simp [ag];omega
     have HD:Hid (mC L ((fw L).take (k+1))=mC L ((fw L).take k)++ [⟨q1,q2,s⟩]):=η (by rw [cG.o,ifP hs0]);have Wm:(s==0)=aP:=by simpa using hs0
     have aMt:(s !=0)=aO:=by simpa using hs0
     generalize mC L ((fw L).take k)=D at*;clear hs1 LX EN cG kK hs0;go_wp2_with (first|(go_at_call 104;refine(kV.o _ af.o).mono ?_;rintro e w4 ⟨rfl,hb4⟩;have ar:Hid (β wh w4):=τ af hb4;have gH:Hid (β w3 w4):=η hb4;obtain⟨s0',s1'⟩:=iQ.o _ hb4;clear hb4 hlk s0 s1)|(at_builtin;refine wpList_append_lies _ rfl _ _ 39 rfl wh.heap.size 76 i1 _ 3 24 sZ qL Qy Qz R5 rfl (by omega) _ _ _ rfl ((iA cD.o gH.o).alloc (aK #[ν q1,ν q2,ν s] 76)) ⟨w4.heap.size,0,aB⟩ 1 1 (Lg.cells ⟨q1,q2,s⟩) rfl rfl (dN _ _ #[_,_,_] rfl) (RL _) (by omega) (by simp only [bM];omega) (by omega) (by have:=ar.o.size;simp;omega) (w4.heap.size+1) (by simp) ?_))
     intro g5 M7 w5 F9 tJ _ _;have cV:Hid (β wh w5):=η ((ar.o.alloc ar.o.size _).grown tJ (by have:=ar.o.size;simp;omega) (λj hj=>eT cD.o j hj));have fL:Hid (w5.ownsRow wh.heap.size 76 3 (aH (aC ⟨g5,0,aB⟩) (aA D+1) M7) (aA (mC L ((fw L).take (k+1)))) (bA (mC L ((fw L).take (k+1))))):=η (by rw [HD.o,cN,RJ];exact F9);clear F9 tJ cD ar gH af;go_wp2_with fail
     go_roundw
     case rel=>exact⟨k+1,by omega,by go_num,cV,fL,yH⟩
     case measure=>simp [ag];omega
    have px:Hid (mB x L=2):=η (by rw [OS.o,ifP (EN.o (by rw [(gp hs1).2];rfl))]);rw [(gp hs1).1,(gp hs1).2] at kV;clear hs1 LX EN cG kK;go_wp2_with (go_at_call 104;refine(kV.o _ af.o).mono ?_;rintro e w4 ⟨rfl,hb4⟩;have ar:Hid (β wh w4):=τ af hb4;have gH:Hid (β w3 w4):=η hb4;obtain⟨s0',s1'⟩:=iQ.o _ hb4;clear hb4 hlk s0 s1)
    go_ret2;exact⟨Kq.o.trans (ar.o.mono Kq.o.size),aU ⟨by rw [px.o];decide,by rw [px.o];rfl⟩⟩
   obtain rfl:k=aA (fw L):=by omega
   rw [cT] at HV;have uC:Hid (mB x L=0):=η (by rw [OS.o,ifN (by rw [HV.o];simp)]);have Vd:=HO.o;rw [cT] at Vd ⊢;have dD:Hid (wr.ownsRow w.heap.size 76 3 (aH Ax (aA (mC L (fw L))) cx) (aA (gY L)) (bA (gY L))):=η (iB Vd Kq.o.size);clear Vd HO;go_wp2_with fail
   go_ret2;exact⟨Kq.o.trans (HR.o.mono Kq.o.size),aS ⟨uC.o,_,rfl,dD.o⟩⟩
end
def Bd.val(x:Bd):aN:=bU #[aG aF x.s,aG aF x.m,aG aF x.c,aG aF x.q,aG aF x.p]
def rR(x:Bd):Bool:=decide (x.q<1)||decide (x.p<1)
theorem PY {w:aJ} {B:Nat} {A:Option aj} {l:List Bd}(h:aW w B A (nR l)) {k:Nat}(hk:k<aA l):
 ∃b o,A=aC ⟨b,o,aB⟩/\b<B/\w.cell? ⟨b,o+k*5,aB⟩=aC (ν l[k].s)/\w.cell? ⟨b,o+k*5+1,aB⟩=aC (ν l[k].m)/\w.cell? ⟨b,o+k*5+2,aB⟩=aC (ν l[k].c)/\w.cell? ⟨b,o+k*5+3,aB⟩=aC (ν l[k].q)/\w.cell? ⟨b,o+k*5+4,aB⟩=aC (ν l[k].p):=by
 obtain⟨b,o,e,hb,hc⟩:=h.run (i:=k*5) (y:=ν l[k].s) (t:= [ν l[k].m,ν l[k].c,ν l[k].q,ν l[k].p]) (λj u hu=>uP Bd.cells 5 (λ_=>rfl) l k hk j u hu);exact⟨b,o,e,hb,hc 0 _ rfl,hc 1 _ rfl,hc 2 _ rfl,hc 3 _ rfl,hc 4 _ rfl⟩
theorem aCP(x:Bd)(w:aJ):aQ aM 226 #[x.val] w λe w'=>e=aT (bJ (rR x))/\aa w.heap.size w w':=by
 obtain⟨s,m,c,q,p⟩:=x;unfold Bd.val;go_enter func226,ntmps226
 go_wp2
 all_goals
  go_ret;refine⟨fQ ?_,(aX _ _).alloc (aZ _) _⟩;rw [Fj];simp_all [rR]
theorem aH3(L:List Bd)(A:Option aj)(c:Nat)(w:aJ)(hs:aW w w.heap.size A (nR L))(hl:aA L<=1000000):
 aQ aM 254 #[aH A (aA L) c,.func (.func 226) #[] #[]] w λe w'=>e=aT (ν (uV rR L))/\β w w':=by
 have HS:=η hs;have HP:=η (λ(x:Bd) (W:aJ)=>aCP x W);unfold Bd.val at HP;go_enter func254,ntmps254
 go_wp2
 go_loopw [5,8] (λ_ i wr=>∃k:Nat,k<=aA L/\i=ν k/\Hid (β w wr)/\Hid ((L.take k).any rR=aP)) (λ_ i _=>aA L-(ag i).toNat)
 ·exact⟨0,bL _,rfl,aX _ _,rfl⟩
 ·
  obtain⟨k,hk,rfl,HB,HK⟩:=hrel;have hsz:=HB.o.size;by_cases hlt:k<aA L
  ·obtain⟨b,o,rfl,hb,d0,d1,d2,d3,d4⟩:=PY (HS.o.below HB) hlt;have HA:=η (zW rR hlt);cases hp:rR L[k]
   ·go_wp2_with (go_at_call 226;refine mG (HP.o L[k] _) λw1 aR=> ?_)
    go_roundw
    ·exact⟨k+1,by omega,by go_num,HB.o.trans (aR.o.mono hsz),η (by rw [HA.o,HK.o,hp];rfl)⟩
    simp [ag];omega
   have HF:=η (RB rR hlt HK hp);go_wp2_with (go_at_call 226;refine mG (HP.o L[k] _) λw1 aR=> ?_)
   go_ret;exact⟨cW HF,HB.o.trans (aR.o.mono hsz)⟩
  obtain rfl:k=aA L:=by omega
  have hn:=HK.o;rw [cT] at hn;have HN:=η (RD rR hn);go_wp2
  go_ret;exact⟨cW HN,HB⟩
theorem aG6(L:List Bd)(A:Option aj)(c:Nat)(w:aJ)(hs:aW w w.heap.size A (nR L))(hl:aA L<=1000000):
 aQ aM 225 #[aH A (aA L) c,.func (.func 226) #[] #[]] w λe w'=>e=aT (bJ (L.any rR))/\β w w':=by
 have HI:=η (aH3 L A c w hs hl);have HA:=η (X6 rR L);go_enter func225,ntmps225
 go_wp2_with (go_at_call 254;refine mG HI.o λw1 aR=> ?_)
 go_ret;exact⟨fQ HA,aR⟩
def uJ(L:List Bd)(aHQ cz:Int):Int:=if 1024<(aA L) then 6 else if aHQ<0\/cz<0\/L.any rR=aO then 1 else 0
theorem aCQ(L:List Bd)(A:Option aj)(c:Nat)(la ca:Int)(w:aJ)(hs:aW w w.heap.size A (nR L))(hl:aA L<=1000000):
 aQ aM 192 #[aH A (aA L) c,ν la,ν ca] w λe w'=>e=aT (ν (uJ L la ca))/\β w w':=by
 have HH:=η (aG6 L A c w hs hl);by_cases h1:1024<aA L
 ·have e:uJ L la ca=6:=by unfold uJ;rw [ifP h1]
  have hb:=decide_eq_true (by omega);rw [e];go_enter PC,PF
  go_wp2
  go_ret;exact⟨rfl,aX _ _⟩
 have hb:=decide_eq_false (by omega);by_cases h2:la<0
 ·have e:uJ L la ca=1:=by unfold uJ;rw [ifN h1,ifP (aS h2)]
  rw [e];go_enter PC,PF
  go_wp2
  go_ret;exact⟨rfl,aX _ _⟩
 by_cases h3:ca<0
 ·have e:uJ L la ca=1:=by unfold uJ;rw [ifN h1,ifP (aU (aS h3))]
  rw [e];go_enter PC,PF
  go_wp2
  go_ret;exact⟨rfl,aX _ _⟩
 cases h4:L.any rR
 ·have e:uJ L la ca=0:=by unfold uJ;rw [ifN h1,ifN (by rw [h4];simp;omega)]
  rw [e];rw [h4] at HH;go_enter PC,PF
  go_wp2_with (go_at_call 225;refine mG HH.o λw1 aR=> ?_)
  go_ret;exact⟨rfl,aR.o⟩
 have e:uJ L la ca=1:=by unfold uJ;rw [ifN h1,ifP (aU (aU h4))]
 rw [e];rw [h4] at HH;go_enter PC,PF
 go_wp2_with (go_at_call 225;refine mG HH.o λw1 aR=> ?_)
 go_ret;exact⟨rfl,aR.o⟩
section
def Gr(x:ak)(d:Bd):Bool:=(jX x d.m !=0)
def Gs(x:ak)(d:Bd):Bool:=(jI x d.c !=0)
def Gt(d:Bd):Bool:=decide (d.q<1)||decide (d.p<1)
def Jo(d:Bd):Bool:=decide (d.q>274877906944)
def Gu(x:ak)(d:Bd):Bool:=decide (d.p>(dY x d.c).b)
def nS(x:ak)(d:Bd):Int:=if Gr x d=aO then 9 else if Gs x d=aO then 10 else if Gt d=aO then 1 else if Jo d=aO then 2 else if Gu x d=aO then 15 else 0
def Eg(b0 b1 bs be:Nat):Array aN:= #[aG aF 9,.func (.func 149) #[] #[bF (aC ⟨b0,0,aB⟩),bF (aC ⟨b1,0,aB⟩)],aG aF 10,.func (.func 150) #[] #[bF (aC ⟨be,0,aB⟩)],aG aF 1,.func (.func 151) #[] #[bF (aC ⟨b1,0,aB⟩)],aG aF 2,.func (.func 152) #[] #[bF (aC ⟨b1,0,aB⟩)],aG aF 15,.func (.func 153) #[] #[bF (aC ⟨b1,0,aB⟩),bF (aC ⟨bs,0,aB⟩)]]
structure Km(W:aJ)(b0 b1 bs be bt:Nat)(x:ak)(d:Bd):Prop where
 cf:pX W b0 x
 ok:lX W x
 d1:W.cell? ⟨b1,1,aB⟩=aC (ν d.m)
 d3:W.cell? ⟨b1,3,aB⟩=aC (ν d.q)
 d4:W.cell? ⟨b1,4,aB⟩=aC (ν d.p)
 s1:W.cell? ⟨bs,1,aB⟩=aC (ν (dY x d.c).b)
 e0:W.cell? ⟨be,0,aB⟩=aC (ν (jI x d.c))
 tab:∀j u,(Eg b0 b1 bs be)[j]? =aC u->W.cell? ⟨bt,j,aB⟩=aC u
 h1:b1<W.heap.size
 h2:bs<W.heap.size
 h3:be<W.heap.size
 h4:bt<W.heap.size
theorem Km.below {w w':aJ} {b0 b1 bs be bt:Nat} {x:ak} {d:Bd}(h:Km w b0 b1 bs be bt x d)(hb:aa w.heap.size w w'):Km w' b0 b1 bs be bt x d:=
 ⟨h.cf.below hb,h.ok.below hb,(hb.cell (p:=⟨b1,1,aB⟩) h.h1).trans h.d1,(hb.cell (p:=⟨b1,3,aB⟩) h.h1).trans h.d3,(hb.cell (p:=⟨b1,4,aB⟩) h.h1).trans h.d4,(hb.cell (p:=⟨bs,1,aB⟩) h.h2).trans h.s1,(hb.cell (p:=⟨be,0,aB⟩) h.h3).trans h.e0,λj u hu=>(hb.cell (p:=⟨bt,j,aB⟩) h.h4).trans (h.tab j u hu),cP h.h1 hb.size,cP h.h2 hb.size,cP h.h3 hb.size,cP h.h4 hb.size⟩
section
variable (x:ak) (d:Bd) (b0 b1 bs be bt:Nat) (w:aJ) (h:Km w b0 b1 bs be bt x d)
include h
theorem aD2(hI:aL d.m):aQ aM 149 #[bF (aC ⟨b0,0,aB⟩),bF (aC ⟨b1,0,aB⟩)] w λe w'=>e=aT (bJ (Gr x d))/\aa w.heap.size w w':=by
 obtain⟨c0,c1,c2,c3,c4,c5,c6,c7,lh⟩:=h.cf;have d1:=h.d1;have HC:=η (Pk x d.m w h.ok hI);have hv:Gr x d=(jX x d.m !=0):=rfl;rw [hv];unfold ak.val at HC;generalize uX x d.m=p at*;generalize jX x d.m=me at*;go_enter func149,ntmps149
 go_wp2_with (go_at_call 147;refine mG HC.o λw1 aR=> ?_)
 go_ret;exact⟨rfl,aR.o.alloc aR.o.size _⟩
theorem aD3:aQ aM 150 #[bF (aC ⟨be,0,aB⟩)] w λe w'=>e=aT (bJ (Gs x d))/\aa w.heap.size w w':=by
 have e0:=h.e0;have hv:Gs x d=(jI x d.c !=0):=rfl;rw [hv];generalize jI x d.c=se at*;go_enter func150,ntmps150
 go_wp2
 go_ret;exact⟨rfl,aX _ _⟩
theorem aD4:aQ aM 151 #[bF (aC ⟨b1,0,aB⟩)] w λe w'=>e=aT (bJ (Gt d))/\aa w.heap.size w w':=by
 have d3:=h.d3;have d4:=h.d4;go_enter func151,ntmps151
 go_wp2
 all_goals
  go_ret;refine⟨fQ ?_,aX _ _⟩;rw [Fj];simp_all [Gt]
theorem aD5:aQ aM 152 #[bF (aC ⟨b1,0,aB⟩)] w λe w'=>e=aT (bJ (Jo d))/\aa w.heap.size w w':=by
 have d3:=h.d3;go_enter func152,ntmps152
 go_wp2
 go_ret;exact⟨rfl,aX _ _⟩
theorem aD6:aQ aM 153 #[bF (aC ⟨b1,0,aB⟩),bF (aC ⟨bs,0,aB⟩)] w λe w'=>e=aT (bJ (Gu x d))/\aa w.heap.size w w':=by
 have d4:=h.d4;have s1:=h.s1;have hv:Gu x d=decide (d.p>(dY x d.c).b):=rfl;rw [hv];generalize (dY x d.c).b=sb at*;go_enter func153,ntmps153
 go_wp2
 go_ret;exact⟨rfl,aX _ _⟩
end
def Bd.ok(d:Bd):Prop:=aL d.s/\aL d.m/\aL d.c/\aL d.q/\aL d.p
theorem a1o(x:ak)(d:Bd)(w:aJ)(h:lX w x)(hm:aA x.ms<=100000)(hs:aA x.ss<=100000)(hI:d.ok):
 aQ aM 88 #[x.val,d.val] w λe w'=>e=aT (aG aF (nS x d))/\aa w.heap.size w w':=by
 obtain⟨is,im,ic,iq,ip⟩:=hI;have HE:=η (show nS x d=if Gr x d=aO then 9 else if Gs x d=aO then 10 else if Gt d=aO then 1 else if Jo d=aO then 2 else if Gu x d=aO then 15 else 0 from rfl);generalize nS x d=ee at*;have hb1:aa w.heap.size w (w.alloc (aK #[aH x.Am (aA x.ms) x.cm,aH x.As (aA x.ss) x.cs,aH x.Ac (aA x.cy) x.cc,aG aF x.line,aG aF x.bV,aG aF x.lead,aG aF x.tr,aG aF x.bQ] 26)):=mQ w x;have hb2:aa w.heap.size w ((w.alloc (aK #[aH x.Am (aA x.ms) x.cm,aH x.As (aA x.ss) x.cs,aH x.Ac (aA x.cy) x.cc,aG aF x.line,aG aF x.bV,aG aF x.lead,aG aF x.tr,aG aF x.bQ] 26)).alloc (aK #[aG aF d.s,aG aF d.m,aG aF d.c,aG aF d.q,aG aF d.p] 41)):=hb1.alloc hb1.size _;have nX:pX ((w.alloc (aK #[aH x.Am (aA x.ms) x.cm,aH x.As (aA x.ss) x.cs,aH x.Ac (aA x.cy) x.cc,aG aF x.line,aG aF x.bV,aG aF x.lead,aG aF x.tr,aG aF x.bQ] 26)).alloc (aK #[aG aF d.s,aG aF d.m,aG aF d.c,aG aF d.q,aG aF d.p] 41)) w.heap.size x:=(zg w x).below σ;have dR:lX ((w.alloc (aK #[aH x.Am (aA x.ms) x.cm,aH x.As (aA x.ss) x.cs,aH x.Ac (aA x.cy) x.cc,aG aF x.line,aG aF x.bV,aG aF x.lead,aG aF x.tr,aG aF x.bQ] 26)).alloc (aK #[aG aF d.s,aG aF d.m,aG aF d.c,aG aF d.q,aG aF d.p] 41)) x:=h.below hb2;have hd:∀(j:Nat) (u:aN),(#[aG aF d.s,aG aF d.m,aG aF d.c,aG aF d.q,aG aF d.p]:Array aN)[j]? =aC u->((w.alloc (aK #[aH x.Am (aA x.ms) x.cm,aH x.As (aA x.ss) x.cs,aH x.Ac (aA x.cy) x.cc,aG aF x.line,aG aF x.bV,aG aF x.lead,aG aF x.tr,aG aF x.bQ] 26)).alloc (aK #[aG aF d.s,aG aF d.m,aG aF d.c,aG aF d.q,aG aF d.p] 41)).cell? ⟨w.heap.size+1,j,aB⟩=aC u:=by intro j u hu;rw [cL _ _ _ _ (by simp)];exact hu
 have hsz:((w.alloc (aK #[aH x.Am (aA x.ms) x.cm,aH x.As (aA x.ss) x.cs,aH x.Ac (aA x.cy) x.cc,aG aF x.line,aG aF x.bV,aG aF x.lead,aG aF x.tr,aG aF x.bQ] 26)).alloc (aK #[aG aF d.s,aG aF d.m,aG aF d.c,aG aF d.q,aG aF d.p] 41)).heap.size=w.heap.size+2:=by simp
 have HB:=η hb2;have tj:=η nX;have dP:=η dR;have HD:=η hd;obtain⟨c0,c1,c2,c3,c4,c5,c6,c7,lh⟩:=nX;have e2:=hd 2 _ rfl;unfold ak.val Bd.val at*;go_enter func88,ntmps88
 go_upto_region 1 with (fail)
 generalize hW:((w.alloc (aK #[aH x.Am (aA x.ms) x.cm,aH x.As (aA x.ss) x.cs,aH x.Ac (aA x.cy) x.cc,aG aF x.line,aG aF x.bV,aG aF x.lead,aG aF x.tr,aG aF x.bQ] 26)).alloc (aK #[aG aF d.s,aG aF d.m,aG aF d.c,aG aF d.q,aG aF d.p] 41))=W at*;have HS:=η (Nh x d.c W dP.o ic);unfold ak.val at HS;go_upto_region 2 with (go_at_call 117;refine HS.o.mono ?_;rintro e w1 ⟨rfl,hb1⟩;have aR:=η hb1)
 have hs1:=hsz;have h1:=aR.o.size;have nA:aa W.heap.size W (w1.alloc (aK #[aG aF (dY x d.c).a,aG aF (dY x d.c).b] 69)):=aR.o.alloc h1 _;have iy:aa W.heap.size W ((w1.alloc (aK #[aG aF (dY x d.c).a,aG aF (dY x d.c).b] 69)).alloc (aK #[aG aF (jI x d.c)] 32)):=nA.alloc nA.size _;have gD:aa W.heap.size W (((w1.alloc (aK #[aG aF (dY x d.c).a,aG aF (dY x d.c).b] 69)).alloc (aK #[aG aF (jI x d.c)] 32)).alloc (aK (Eg w.heap.size (w.heap.size+1) w1.heap.size (w1.heap.size+1)) 223)):=iy.alloc iy.size _;have Ht:aa w1.heap.size (w1.alloc (aK #[aG aF (dY x d.c).a,aG aF (dY x d.c).b] 69)) (((w1.alloc (aK #[aG aF (dY x d.c).a,aG aF (dY x d.c).b] 69)).alloc (aK #[aG aF (jI x d.c)] 32)).alloc (aK (Eg w.heap.size (w.heap.size+1) w1.heap.size (w1.heap.size+1)) 223)):=((aX _ _).alloc (by simp) _).alloc (by simp;omega) _;have HN:Hid (Km (((w1.alloc (aK #[aG aF (dY x d.c).a,aG aF (dY x d.c).b] 69)).alloc (aK #[aG aF (jI x d.c)] 32)).alloc (aK (Eg w.heap.size (w.heap.size+1) w1.heap.size (w1.heap.size+1)) 223)) w.heap.size (w.heap.size+1) w1.heap.size (w1.heap.size+1) (w1.heap.size+1+1) x d):=η ⟨tj.o.below gD,dP.o.below gD,(gD.cell (p:=⟨w.heap.size+1,1,aB⟩) (by simp;omega)).trans (HD.o 1 _ rfl),(gD.cell (p:=⟨w.heap.size+1,3,aB⟩) (by simp;omega)).trans (HD.o 3 _ rfl),(gD.cell (p:=⟨w.heap.size+1,4,aB⟩) (by simp;omega)).trans (HD.o 4 _ rfl),(by
  have q:aa (w1.heap.size+1) (w1.alloc (aK #[aG aF (dY x d.c).a,aG aF (dY x d.c).b] 69)) (((w1.alloc (aK #[aG aF (dY x d.c).a,aG aF (dY x d.c).b] 69)).alloc (aK #[aG aF (jI x d.c)] 32)).alloc (aK (Eg w.heap.size (w.heap.size+1) w1.heap.size (w1.heap.size+1)) 223)):=((aX _ _).alloc (by simp) _).alloc (by simp) _;exact(q.cell (p:=⟨w1.heap.size,1,aB⟩) (by simp)).trans (cL _ _ _ 1 rfl)),(by
  have q:aa (w1.heap.size+2) ((w1.alloc (aK #[aG aF (dY x d.c).a,aG aF (dY x d.c).b] 69)).alloc (aK #[aG aF (jI x d.c)] 32)) (((w1.alloc (aK #[aG aF (dY x d.c).a,aG aF (dY x d.c).b] 69)).alloc (aK #[aG aF (jI x d.c)] 32)).alloc (aK (Eg w.heap.size (w.heap.size+1) w1.heap.size (w1.heap.size+1)) 223)):=(aX _ _).alloc (by simp) _;exact(q.cell (p:=⟨w1.heap.size+1,0,aB⟩) (by simp)).trans (by rw [cL _ _ _ _ (by simp)];rfl)),(λj u hu=>by rw [cL _ _ _ _ (by simp)];exact hu),by simp;omega,by simp;omega,by simp,by simp⟩
 have cC:Hid (aa w.heap.size w (((w1.alloc (aK #[aG aF (dY x d.c).a,aG aF (dY x d.c).b] 69)).alloc (aK #[aG aF (jI x d.c)] 32)).alloc (aK (Eg w.heap.size (w.heap.size+1) w1.heap.size (w1.heap.size+1)) 223))):=HB.o.trans (gD.mono HB.o.size);unfold Eg at HN cC;go_wp2_with fail
 generalize ((w1.alloc (aK #[aG aF (dY x d.c).a,aG aF (dY x d.c).b] 69)).alloc (aK #[aG aF (jI x d.c)] 32)).alloc (aK #[aG aF 9,.func (.func 149) #[] #[bF (aC ⟨w.heap.size,0,aB⟩),bF (aC ⟨w.heap.size+1,0,aB⟩)],aG aF 10,.func (.func 150) #[] #[bF (aC ⟨w1.heap.size+1,0,aB⟩)],aG aF 1,.func (.func 151) #[] #[bF (aC ⟨w.heap.size+1,0,aB⟩)],aG aF 2,.func (.func 152) #[] #[bF (aC ⟨w.heap.size+1,0,aB⟩)],aG aF 15,.func (.func 153) #[] #[bF (aC ⟨w.heap.size+1,0,aB⟩),bF (aC ⟨w1.heap.size,0,aB⟩)]] 223)=w2 at HN cC ⊢;have aR:=cC;generalize e10:w.heap.size+1=b1 at HN ⊢;generalize e11:w.heap.size=b0 at HN aR ⊢;generalize e12:w1.heap.size+1=be at HN ⊢;generalize e13:be+1=bt at HN ⊢;generalize e14:w1.heap.size=bs at HN ⊢;refine ug 6 ?_;rw [eC];have t0:w2.cell? ⟨bt,0,aB⟩=aC (aG aF 9):=HN.o.tab 0 _ rfl;have t1:w2.cell? ⟨bt,1,aB⟩=aC (.func (.func 149) #[] #[bF (aC ⟨b0,0,aB⟩),bF (aC ⟨b1,0,aB⟩)]):=HN.o.tab 1 _ rfl;have hlt:=HN.o.h4;have bX:=η (HN.o.below ((aX _ _).alloc (aZ _) (aK #[aG aF 9,.func (.func 149) #[] #[bF (aC ⟨b0,0,aB⟩),bF (aC ⟨b1,0,aB⟩)]] 223)));have hsz:b0<=w2.heap.size:=by rw [<-e11];exact aR.o.size
 go_wp2_with fail
 refine(aD2 x d b0 b1 bs be bt _ bX.o im).mono ?_;rintro e w3 ⟨rfl,hb⟩;have fB:Hid (aa b0 w w3):=(aR.o.alloc hsz _).trans (hb.mono (by simp;omega));have je:=η (bX.o.below hb);have q0:w3.cell? ⟨w2.heap.size,0,aB⟩=aC (aG aF 9):=(hb.cell (p:=⟨w2.heap.size,0,aB⟩) (by simp)).trans (cL _ _ _ 0 rfl);cases gW:Gr x d
 case true=>
  have HF:Hid (9=ee):=by show _=_;rw [HE.o];simp [gW]
  go_wp2_with fail
  go_ret;exact⟨cW HF.o,by rw [e11];exact fB.o⟩
 have HN:=je;have aR:=fB;go_wp2_with fail
 rw [eC];have t0:w3.cell? ⟨bt,2,aB⟩=aC (aG aF 10):=HN.o.tab 2 _ rfl;have t1:w3.cell? ⟨bt,3,aB⟩=aC (.func (.func 150) #[] #[bF (aC ⟨be,0,aB⟩)]):=HN.o.tab 3 _ rfl;have hlt:=HN.o.h4;have bX:=η (HN.o.below ((aX _ _).alloc (aZ _) (aK #[aG aF 10,.func (.func 150) #[] #[bF (aC ⟨be,0,aB⟩)]] 223)));have hsz:b0<=w3.heap.size:=by rw [<-e11];exact aR.o.size
 go_wp2_with fail
 refine(aD3 x d b0 b1 bs be bt _ bX.o).mono ?_;rintro e w4 ⟨rfl,hb⟩;have fB:Hid (aa b0 w w4):=(aR.o.alloc hsz _).trans (hb.mono (by simp;omega));have je:=η (bX.o.below hb);have q0:w4.cell? ⟨w3.heap.size,0,aB⟩=aC (aG aF 10):=(hb.cell (p:=⟨w3.heap.size,0,aB⟩) (by simp)).trans (cL _ _ _ 0 rfl);cases mU:Gs x d
 case true=>
  have HF:Hid (10=ee):=by show _=_;rw [HE.o];simp [gW,mU]
  go_wp2_with fail
  go_ret;exact⟨cW HF.o,by rw [e11];exact fB.o⟩
 have HN:=je;have aR:=fB;go_wp2_with fail
 rw [eC];have t0:w4.cell? ⟨bt,4,aB⟩=aC (aG aF 1):=HN.o.tab 4 _ rfl;have t1:w4.cell? ⟨bt,5,aB⟩=aC (.func (.func 151) #[] #[bF (aC ⟨b1,0,aB⟩)]):=HN.o.tab 5 _ rfl;have hlt:=HN.o.h4;have bX:=η (HN.o.below ((aX _ _).alloc (aZ _) (aK #[aG aF 1,.func (.func 151) #[] #[bF (aC ⟨b1,0,aB⟩)]] 223)));have hsz:b0<=w4.heap.size:=by rw [<-e11];exact aR.o.size
 go_wp2_with fail
 refine(aD4 x d b0 b1 bs be bt _ bX.o).mono ?_;rintro e w5 ⟨rfl,hb⟩;have fB:Hid (aa b0 w w5):=(aR.o.alloc hsz _).trans (hb.mono (by simp;omega));have je:=η (bX.o.below hb);have q0:w5.cell? ⟨w4.heap.size,0,aB⟩=aC (aG aF 1):=(hb.cell (p:=⟨w4.heap.size,0,aB⟩) (by simp)).trans (cL _ _ _ 0 rfl);cases jV:Gt d
 case true=>
  have HF:Hid (1=ee):=by show _=_;rw [HE.o];simp [gW,mU,jV]
  go_wp2_with fail
  go_ret;exact⟨cW HF.o,by rw [e11];exact fB.o⟩
 have HN:=je;have aR:=fB;go_wp2_with fail
 rw [eC];have t0:w5.cell? ⟨bt,6,aB⟩=aC (aG aF 2):=HN.o.tab 6 _ rfl;have t1:w5.cell? ⟨bt,7,aB⟩=aC (.func (.func 152) #[] #[bF (aC ⟨b1,0,aB⟩)]):=HN.o.tab 7 _ rfl;have hlt:=HN.o.h4;have bX:=η (HN.o.below ((aX _ _).alloc (aZ _) (aK #[aG aF 2,.func (.func 152) #[] #[bF (aC ⟨b1,0,aB⟩)]] 223)));have hsz:b0<=w5.heap.size:=by rw [<-e11];exact aR.o.size
 go_wp2_with fail
 refine(aD5 x d b0 b1 bs be bt _ bX.o).mono ?_;rintro e w6 ⟨rfl,hb⟩;have fB:Hid (aa b0 w w6):=(aR.o.alloc hsz _).trans (hb.mono (by simp;omega));have je:=η (bX.o.below hb);have q0:w6.cell? ⟨w5.heap.size,0,aB⟩=aC (aG aF 2):=(hb.cell (p:=⟨w5.heap.size,0,aB⟩) (by simp)).trans (cL _ _ _ 0 rfl);cases uT:Jo d
 case true=>
  have HF:Hid (2=ee):=by show _=_;rw [HE.o];simp [gW,mU,jV,uT]
  go_wp2_with fail
  go_ret;exact⟨cW HF.o,by rw [e11];exact fB.o⟩
 have HN:=je;have aR:=fB;go_wp2_with fail
 rw [eC];have t0:w6.cell? ⟨bt,8,aB⟩=aC (aG aF 15):=HN.o.tab 8 _ rfl;have t1:w6.cell? ⟨bt,9,aB⟩=aC (.func (.func 153) #[] #[bF (aC ⟨b1,0,aB⟩),bF (aC ⟨bs,0,aB⟩)]):=HN.o.tab 9 _ rfl;have hlt:=HN.o.h4;have bX:=η (HN.o.below ((aX _ _).alloc (aZ _) (aK #[aG aF 15,.func (.func 153) #[] #[bF (aC ⟨b1,0,aB⟩),bF (aC ⟨bs,0,aB⟩)]] 223)));have hsz:b0<=w6.heap.size:=by rw [<-e11];exact aR.o.size
 go_wp2_with fail
 refine(aD6 x d b0 b1 bs be bt _ bX.o).mono ?_;rintro e w7 ⟨rfl,hb⟩;have fB:Hid (aa b0 w w7):=(aR.o.alloc hsz _).trans (hb.mono (by simp;omega));have je:=η (bX.o.below hb);have q0:w7.cell? ⟨w6.heap.size,0,aB⟩=aC (aG aF 15):=(hb.cell (p:=⟨w6.heap.size,0,aB⟩) (by simp)).trans (cL _ _ _ 0 rfl);cases xU:Gu x d
 case true=>
  have HF:Hid (15=ee):=by show _=_;rw [HE.o];simp [gW,mU,jV,uT,xU]
  go_wp2_with fail
  go_ret;exact⟨cW HF.o,by rw [e11];exact fB.o⟩
 have HN:=je;have aR:=fB;go_wp2_with fail
 rw [eC];have HF:Hid (0=ee):=by show _=_;rw [HE.o];simp [gW,mU,jV,uT,xU]
 go_wp2_with fail
 go_ret;exact⟨cW HF.o,by rw [e11];exact aR.o⟩
end
def aAH(x:ak)(w:aJ)(e:dU)(w':aJ):Prop:=
 β w w'/\((zh x≠0/\e=aT (bB #[bF aB,ν (zh x)]))\/(zh x=0/\∃nb Am cm As cs Ac cc,e=aT (bB #[π nb,ν 0])/\jA w' nb ({x with Am:=Am,cm:=cm,As:=As,cs:=cs,Ac:=Ac,cc:=cc}:ak) (aH aB 0 0) []/\wJ w' w.heap.size ({x with Am:=Am,cm:=cm,As:=As,cs:=cs,Ac:=Ac,cc:=cc}:ak)/\w.heap.size<=nb))
theorem aM5(x:ak)(w:aJ)(h:uh w x)(hm:aA x.ms<=100000)(hs:aA x.ss<=100000)(hc:aA x.cy<=100000):
 aQ aM 30 #[x.val] w (aAH x w):=by
 have aY:=η (mQ w x);have HK:=η (aEJ x (w.alloc (aK #[aH x.Am (aA x.ms) x.cm,aH x.As (aA x.ss) x.cs,aH x.Ac (aA x.cy) x.cc,ν x.line,ν x.bV,ν x.lead,ν x.tr,ν x.bQ] 26)) (h.ok.below (mQ w x)) hm hs hc);have tj:=η (zg w x);have CK:=η (λW hW=>a2T x W (h.below hW) hm hs hc);unfold ak.val at*;go_enter func30,ntmps30
 obtain⟨c0,c1,c2,c3,c4,c5,c6,c7,lh⟩:=tj.o;go_upto_region 2 with (go_at_call 78;refine mG HK.o λw1 aR=> ?_)
 have iH:=η (aY.o.trans (aR.o.mono aY.o.size));have wO:=η (tj.o.below aR.o);obtain⟨c0,c1,c2,c3,c4,c5,c6,c7,lh⟩:=wO.o;by_cases hk:zh x=0
 ·rw [hk];have HP:=η (CK.o w1 iH.o);go_wp2_with (go_at_call 32;refine HP.o.mono ?_;rintro e w2 ⟨Am,cm,As,cs,Ac,cc,rfl,eR,hb2⟩;have dD:=η eR;have aV:=η hb2)
  go_ret2;refine⟨(iH.o.trans (aV.o.mono iH.o.size)).alloc (bz iH.o.size aV.o.size) _,aU ⟨hk,w2.heap.size,Am,cm,As,cs,Ac,cc,rfl,⟨cO w2 _,gC _ _ _ _⟩, ?_,bz iH.o.size aV.o.size⟩⟩;have q:=dD.o.below ((aX _ _).alloc (aZ _) (aK #[aH Am (aA x.ms) cm,aH As (aA x.ss) cs,aH Ac (aA x.cy) cc,ν x.line,ν x.bV,ν x.lead,ν x.tr,ν x.bQ,aH aB 0 0] 134));exact⟨iB q.m iH.o.size,iB q.s iH.o.size,iB q.c iH.o.size⟩
 have hkb:(zh x==0)=aP:=by simpa using hk
 have TM:=η hk;go_wp2
 go_ret2;exact⟨iH.o,aS ⟨TM.o,rfl⟩⟩
def xB(x:ak)(L:List Bd)(d:Bd):Int:=if nS x d≠0 then nS x d else if x.bQ<=(aA L) then 6 else 0
theorem Us(L:List Bd)(x:Bd):nR (L++ [x])=nR L++x.cells:=by simp [nR]
theorem Ut(x:Bd):∀u∈x.cells,u.oneCell'=aO:=by intro u hu;simp [Bd.cells] at hu;rcases hu with rfl|rfl|rfl|rfl|rfl<;>rfl
def SZ(xb:Nat)(x:ak)(v:aN)(L:List Bd)(d:Bd)(w:aJ)(e:dU)(w':aJ):Prop:=
 (xB x L d≠0/\e=aT (bB #[ν 0,ν (xB x L d)])/\β w w')\/(xB x L d=0/\∃v',e=aT (bB #[ν ((aA L:Int)+1),ν 0])/\jA w' xb x v' (L++ [{d with s:=(aA L:Int)+1}])/\bC (λk=>k=xb\/v.ownBlock=aC k) w w'/\∀k,v'.ownBlock=aC k->v.ownBlock=aC k\/w.heap.size<=k)
theorem aM1(x:ak)(v:aN)(L:List Bd)(d:Bd)(xb:Nat)(w:aJ)(h:jA w xb x v L)(hk:lX w x)(hm:aA x.ms<=100000)(hs:aA x.ss<=100000)(hI:d.ok)(hl:aA L<=99999)(hb:aL x.bQ):
 aQ aM 90 #[π xb,d.val] w (SZ xb x v L d w):=by
 obtain⟨ds,dm,dc,dq,dp⟩:=d;have HE:Hid (xB x L ⟨ds,dm,dc,dq,dp⟩=if nS x ⟨ds,dm,dc,dq,dp⟩≠0 then nS x ⟨ds,dm,dc,dq,dp⟩ else if x.bQ<=(aA L) then 6 else 0):=η rfl;have aY:Hid (β w (w.alloc (aK #[ν ds,ν dm,ν dc,ν dq,ν dp] 41))):=η σ;have HT:=η (h.below aY.o);have pd:=η (λW hW=>a1o x ⟨ds,dm,dc,dq,dp⟩ W (hk.below hW) hm hs hI);have hz0:w.heap.size<(w.alloc (aK #[ν ds,ν dm,ν dc,ν dq,ν dp] 41)).heap.size:=by simp
 have HX:Hid ((w.alloc (aK #[ν ds,ν dm,ν dc,ν dq,ν dp] 41)).heap[w.heap.size]? =aC (aK #[ν ds,ν dm,ν dc,ν dq,ν dp] 41 (0,0))):=η (cO w _);have FL:=h.lt;have rM:Hid (∀k,v.ownBlock=aC k->k<w.heap.size):=η (λk hk=>(h.own.lt k hk).2);clear h hk hI hb;unfold ak.val Bd.val at*;unfold SZ;generalize xB x L ⟨ds,dm,dc,dq,dp⟩=ae at HE ⊢;generalize nS x ⟨ds,dm,dc,dq,dp⟩=be at HE pd ⊢;go_enter func90,ntmps90
 go_upto_region 3 with (fail)
 generalize w.alloc (aK #[ν ds,ν dm,ν dc,ν dq,ν dp] 41)=w1 at*;obtain⟨bx,bT⟩:∃bx,bx=w.heap.size:=⟨_,rfl⟩;have dH:=η bT;rw [<-bT] at HX hz0 ⊢;have htx:xb<bx:=by omega
 clear bT;have bO:Hid (∀W,β w1 W->W.cell? ⟨xb,0,aB⟩=aC (aH x.Am (aA x.ms) x.cm)/\W.cell? ⟨xb,1,aB⟩=aC (aH x.As (aA x.ss) x.cs)/\W.cell? ⟨xb,2,aB⟩=aC (aH x.Ac (aA x.cy) x.cc)/\W.cell? ⟨xb,3,aB⟩=aC (ν x.line)/\W.cell? ⟨xb,4,aB⟩=aC (ν x.bV)/\W.cell? ⟨xb,5,aB⟩=aC (ν x.lead)/\W.cell? ⟨xb,6,aB⟩=aC (ν x.tr)/\W.cell? ⟨xb,7,aB⟩=aC (ν x.bQ)/\W.cell? ⟨bx,0,aB⟩=aC (ν ds)/\W.cell? ⟨bx,1,aB⟩=aC (ν dm)/\W.cell? ⟨bx,2,aB⟩=aC (ν dc)/\W.cell? ⟨bx,3,aB⟩=aC (ν dq)/\W.cell? ⟨bx,4,aB⟩=aC (ν dp)):=η (by intro W hW;have hb:=(HT.o.below hW).blk;have hd:W.heap[bx]? =aC (aK #[ν ds,ν dm,ν dc,ν dq,ν dp] 41 (0,0)):=(hW.block bx hz0).trans HX.o;exact⟨ρ hb,ρ hb,ρ hb,ρ hb,ρ hb,ρ hb,ρ hb,ρ hb,ρ hd,ρ hd,ρ hd,ρ hd,ρ hd⟩);have eW:Hid (∀W,β w1 W->β w W):=η (λW hW=>aY.o.trans (hW.mono aY.o.size));have bP:β w1 w1.drew:=(aX _ _).drew;go_region_held3 (λW=>W.cell? ⟨xb,0,aB⟩=aC (aH x.Am (aA x.ms) x.cm)/\W.cell? ⟨xb,1,aB⟩=aC (aH x.As (aA x.ss) x.cs)/\W.cell? ⟨xb,2,aB⟩=aC (aH x.Ac (aA x.cy) x.cc)/\W.cell? ⟨xb,3,aB⟩=aC (ν x.line)/\W.cell? ⟨xb,4,aB⟩=aC (ν x.bV)/\W.cell? ⟨xb,5,aB⟩=aC (ν x.lead)/\W.cell? ⟨xb,6,aB⟩=aC (ν x.tr)/\W.cell? ⟨xb,7,aB⟩=aC (ν x.bQ)/\W.cell? ⟨bx,0,aB⟩=aC (ν ds)/\W.cell? ⟨bx,1,aB⟩=aC (ν dm)/\W.cell? ⟨bx,2,aB⟩=aC (ν dc)/\W.cell? ⟨bx,3,aB⟩=aC (ν dq)/\W.cell? ⟨bx,4,aB⟩=aC (ν dp)) (first|(with_reducible exact bO.o _ bP)|(with_reducible exact bO.o _ hb2)|(with_reducible exact bO.o _ hb3)) ((go_at_call 88;refine(pd.o _ (eW.o _ bP)).mono ?_;rintro e w2 ⟨rfl,vR⟩;have hb2:β w1 w2:=bP.trans (vR.mono bP.size)))
 have aV:=η hb2;clear vR bP;have qY:=η (HT.o.below aV.o);have kM:Hid (w2.heap[bx]? =aC (aK #[ν ds,ν dm,ν dc,ν dq,ν dp] 41 (0,0))):=η ((aV.o.block bx hz0).trans HX.o);have hz2:bx<w2.heap.size:=cP hz0 aV.o.size;have cC:=η (eW.o _ aV.o);clear HT HX aV eW bO aY pd hz0;by_cases h1:be=0
 case neg=>
  have kh:(be==0)=aP:=by simpa using h1
  have e1:ae=be:=by rw [HE.o,ifP h1]
  have HN:Hid (ae≠0):=η (by rw [e1];exact h1);rw [<-e1] at kh ⊢;clear HE e1 h1;go_wp2_with fail
  go_ret2;exact aS ⟨HN.o,rfl,cC.o⟩
 subst h1;obtain⟨A,c,hv⟩:=bK qY.o.own;subst hv;have c8:=qY.o.c8;go_upto_region 6 with (fail)
 go_quiet (fail)
 have E8:Hid (β w (w2.drewN nq)):=η (below_drewN cC.o nq);have Og:Hid (jA (w2.drewN nq) xb x (aH A (aA L) c) L):=η ⟨qY.o.blk,qY.o.own⟩;have Oo:Hid ((w2.drewN nq).heap[bx]? =aC (aK #[ν ds,ν dm,ν dc,ν dq,ν dp] 41 (0,0))):=η kM.o;have hzq:bx<(w2.drewN nq).heap.size:=hz2;clear cC qY kM hz2 c8;generalize w2.drewN nq=w3 at*;by_cases h2:x.bQ<=aA L
 ·have zt:decide (x.bQ<=(aA L:Int))=aO:=decide_eq_true h2;have e1:ae=6:=by rw [HE.o,ifN (by simp),ifP h2]
  have HN:Hid (ae≠0):=η (by rw [e1];decide);have xz:=η e1;clear HE e1;go_wp2_with fail
  go_ret2;exact aS ⟨HN.o,by rw [xz.o];rfl,E8.o⟩
 have HZ:Hid (ae=0):=η (by rw [HE.o,ifN (by simp),ifN h2]);have h3:(aA L:Int)<x.bQ:=by omega
 clear HE h2;have c8:=Og.o.c8;have q0:w3.frozen? ⟨bx,0,aB⟩=aP:=by simp [iJ,Oo.o]
 have q1:=r1c Oo;go_upto_region 9 with (fail)
 have OX:Hid (bx≠xb):=η (by omega);have JM:Hid ((aH A (aA L) c).ownBlock≠aC bx):=η (λe=>by have:=rM.o bx e;rw [dH.o] at this;omega);have rL:Hid (jA (w3.setCell ⟨bx,0,aB⟩ (ν ((aA L:Int)+1))) xb x (aH A (aA L) c) L):=η ⟨(nK _ _ _ _ (λe=>OX.o e.symm)).trans Og.o.blk,kF Og.o.own JM.o _⟩;have pC:Hid ((w3.setCell ⟨bx,0,aB⟩ (ν ((aA L:Int)+1))).heap[bx]? =aC (aK #[ν ((aA L:Int)+1),ν dm,ν dc,ν dq,ν dp] 41 (0,0))):=η ((lf Oo.o 0 _).trans rfl);have GA:Hid (bC (λk=>k=xb\/(aH A (aA L) c).ownBlock=aC k) w (w3.setCell ⟨bx,0,aB⟩ (ν ((aA L:Int)+1)))):=η ((bC.bZ _ E8.o).setCell (p:=⟨bx,0,aB⟩) (aU (Nat.le_of_eq dH.o.symm)) _);have mW:bx<(w3.setCell ⟨bx,0,aB⟩ (ν ((aA L:Int)+1))).heap.size:=by simpa using hzq
 have hzz:w.heap.size<=(w3.setCell ⟨bx,0,aB⟩ (ν ((aA L:Int)+1))).heap.size:=GA.o.size;generalize w3.setCell ⟨bx,0,aB⟩ (ν ((aA L:Int)+1))=w4 at*;clear Og Oo E8 c8 q0 q1 hzq;have d0:w4.drew.cell? ⟨xb,8,aB⟩=aC (aH A (aA L) c):=rL.o.c8;obtain⟨d1,d2,d3,d4,d5⟩:=r5c pC;have G9:Hid (jA w4.drew xb x (aH A (aA L) c) L):=η ⟨rL.o.blk,rL.o.own⟩;have JT:Hid (bC (λk=>k=xb\/(aH A (aA L) c).ownBlock=aC k) w w4.drew):=η GA.o.drew;have a4Z:xb<w4.drew.heap.size:=rL.o.lt;have Mc:bx<w4.drew.heap.size:=mW;have qU:Hid (aC xb≠(aH A (aA L) c).ownBlock):=η (λe=>rL.o.ne e.symm);have bX:Hid (aC bx≠(aH A (aA L) c).ownBlock):=η (λe=>JM.o e.symm);obtain⟨r,hr⟩:∃r,r=(aH A (aA L) c).ownBlock:=⟨_,rfl⟩;rw [<-hr] at qU bX;have HR:=η hr;clear hr rL pC GA JM;refine Ir (S:=λW=>W.cell? ⟨xb,8,aB⟩=aC (aH A (aA L) c)/\W.cell? ⟨bx,0,aB⟩=aC (ν ((aA L:Int)+1))/\W.cell? ⟨bx,1,aB⟩=aC (ν dm)/\W.cell? ⟨bx,2,aB⟩=aC (ν dc)/\W.cell? ⟨bx,3,aB⟩=aC (ν dq)/\W.cell? ⟨bx,4,aB⟩=aC (ν dp)) 10 (by kernel_rfl) ⟨d0,d1,d2,d3,d4,d5⟩ (λhHeld=> ?_);have bO:Hid (∀W,w4.drew.grownBy W r->W.cell? ⟨xb,8,aB⟩=aC (aH A (aA L) c)/\W.cell? ⟨bx,0,aB⟩=aC (ν ((aA L:Int)+1))/\W.cell? ⟨bx,1,aB⟩=aC (ν dm)/\W.cell? ⟨bx,2,aB⟩=aC (ν dc)/\W.cell? ⟨bx,3,aB⟩=aC (ν dq)/\W.cell? ⟨bx,4,aB⟩=aC (ν dp)):=η λW hg=>⟨(hg.cell_far ⟨xb,8,aB⟩ a4Z qU.o).trans d0,(hg.cell_far ⟨bx,0,aB⟩ Mc bX.o).trans d1,(hg.cell_far ⟨bx,1,aB⟩ Mc bX.o).trans d2,(hg.cell_far ⟨bx,2,aB⟩ Mc bX.o).trans d3,(hg.cell_far ⟨bx,3,aB⟩ Mc bX.o).trans d4,(hg.cell_far ⟨bx,4,aB⟩ Mc bX.o).trans d5⟩
 clear d0 d1 d2 d3 d4 d5;have aGy:w.heap.size<=w4.drew.heap.size:=hzz;clear hzz mW;generalize w4.drew=w5 at*;have Au:Hid (w5.grownBy w5 r):=η (Hj (aX _ _) r);obtain⟨ib,hib,R6,R7,R8⟩:=dL X7;refine eE (i:=0) (v:=π xb) rfl (by kernel_rfl) (by kernel_rfl) (by kernel_rfl) (by kernel_rfl) (by kernel_rfl) (λ_ _ _ h=>h) (aS ⟨by rfl,λw' hSw=>by obtain⟨s0,s1,s2,s3,s4,s5⟩:=hSw;go_simp⟩) hHeld ?_;refine eE (i:=1) (v:=π xb) rfl (by kernel_rfl) (by kernel_rfl) (by kernel_rfl) (by kernel_rfl) (by kernel_rfl) (λ_ _ _ h=>h) (aS ⟨by rfl,λw' hSw=>by obtain⟨s0,s1,s2,s3,s4,s5⟩:=hSw;go_simp⟩) hHeld ?_;refine eE (i:=2) (v:=π xb) rfl (by kernel_rfl) (by kernel_rfl) (by kernel_rfl) (by kernel_rfl) (by kernel_rfl) (λ_ _ _ h=>h) (aS ⟨by rfl,λw' hSw=>by obtain⟨s0,s1,s2,s3,s4,s5⟩:=hSw;go_simp⟩) hHeld ?_;refine eE (i:=3) (v:=bF (aC ⟨xb,8,aB⟩)) rfl (by kernel_rfl) (by kernel_rfl) (by kernel_rfl) (by kernel_rfl) (by kernel_rfl) (λ_ _ _ h=>h) (aS ⟨by rfl,λw' hSw=>by obtain⟨s0,s1,s2,s3,s4,s5⟩:=hSw;go_simp⟩) hHeld ?_;refine eE (i:=4) (v:=aH A (aA L) c) rfl (by kernel_rfl) (by kernel_rfl) (by kernel_rfl) (by kernel_rfl) (by kernel_rfl) (λ_ _ _ h=>h) (aS ⟨by rfl,λw' hSw=>by obtain⟨s0,s1,s2,s3,s4,s5⟩:=hSw;go_simp⟩) hHeld ?_;refine eE (i:=5) (v:=bU #[ν ((aA L:Int)+1),ν dm,ν dc,ν dq,ν dp]) rfl (by kernel_rfl) (by kernel_rfl) (by kernel_rfl) (by kernel_rfl) (by kernel_rfl) (λ_ _ _ h=>h) (aS ⟨by rfl,λw' hSw=>by obtain⟨s0,s1,s2,s3,s4,s5⟩:=hSw;go_simp⟩) hHeld ?_;clear hHeld;refine nw (rs:= [6]) (by kernel_rfl) (by simp) ?_;refine ei.cons rfl (λK hK=> ?_) ei.nil;go_simp
 have B0:Hid (w5.grownBy (w5.alloc (aK #[ν ((aA L:Int)+1),ν dm,ν dc,ν dq,ν dp] 41)) r):=η (Q6 Au.o _);have kL:=η (G9.o.own.alloc (aK #[ν ((aA L:Int)+1),ν dm,ν dc,ν dq,ν dp] 41));have wV:Hid (∀j u,([ν ((aA L:Int)+1),ν dm,ν dc,ν dq,ν dp]:List aN)[j]? =aC u->(w5.alloc (aK #[ν ((aA L:Int)+1),ν dm,ν dc,ν dq,ν dp] 41)).cell? ((⟨w5.heap.size,0,aB⟩:aj).add j)=aC u):=η (dN w5 41 #[ν ((aA L:Int)+1),ν dm,ν dc,ν dq,ν dp] rfl);refine hK.o _ _ (λ_=>bO.o _ B0.o) (λ_=> ?_);clear hK K;generalize (w5.alloc (aK #[ν ((aA L:Int)+1),ν dm,ν dc,ν dq,ν dp] 41))=w6 at*;refine nw (rs:= [7]) (by kernel_rfl) (by simp) ?_;refine ei.cons rfl (λK hK=> ?_) ei.nil;refine AW _ rfl (.tmp 40) (.tmp 42) 132 rfl 0 41 ib _ 5 40 PH hib R6 R7 R8 rfl (by decide) _ (aA L) (nR L) rfl kL.o ⟨w5.heap.size,0,aB⟩ 1 1 [ν ((aA L:Int)+1),ν dm,ν dc,ν dq,ν dp] rfl rfl wV.o (Ut ⟨(aA L:Int)+1,dm,dc,dq,dp⟩) (by decide) (by simp only [bM];omega) (by omega) (bL _) w6.heap.size rfl ?_;intro g cap w7 hown hgr hat _;have jC:Hid (w5.grownBy w7 r):=η (El B0.o hgr (aS HR.o.symm));have oh:=η hown;have Z0:Hid ((aH A (aA L) c).ownBlock=aC g\/w5.heap.size<=g):=η (hat.imp id (λe=>by rw [e];exact B0.o.size));clear hown hgr hat;refine hK.o _ _ (λ_=>bO.o _ jC.o) (λ_=> ?_);clear hK K;refine eE (i:=8) (v:=π xb) rfl (by kernel_rfl) (by kernel_rfl) (by kernel_rfl) (by kernel_rfl) (by kernel_rfl) (λ_ _ _ h=>h) (aS ⟨by rfl,λw' hSw=>by obtain⟨s0,s1,s2,s3,s4,s5⟩:=hSw;go_simp⟩) (bO.o _ jC.o) ?_;refine eE (i:=9) (v:=bF (aC ⟨xb,8,aB⟩)) rfl (by kernel_rfl) (by kernel_rfl) (by kernel_rfl) (by kernel_rfl) (by kernel_rfl) (λ_ _ _ h=>h) (aS ⟨by rfl,λw' hSw=>by obtain⟨s0,s1,s2,s3,s4,s5⟩:=hSw;go_simp⟩) (bO.o _ jC.o) ?_;refine nw (rs:= [10]) (by kernel_rfl) (by simp) ?_;refine ei.cons rfl (λK hK=> ?_) ei.nil;have c1:=(bO.o _ jC.o).1;have fh:=(jC.o.block xb a4Z qU.o).trans G9.o.blk;have hf7:w7.frozen? ⟨xb,8,aB⟩=aP:=by simp [iJ,fh]
 have ew:=η fh;clear fh;go_simp
 refine hK.o _ _ (λh=>absurd rfl h) (λ_=> ?_);clear hK K;refine Iq (by kernel_rfl) ?_ _;have Hw:g≠xb:=by
  rintro rfl;rcases Z0.o with e|e
  ·exact qU.o (by rw [HR.o,e])
  omega
 have s0:(w7.setCell ⟨xb,8,aB⟩ (aH (aC ⟨g,0,aB⟩) (aA L+1) cap)).cell? ⟨bx,0,aB⟩=aC (ν ((aA L:Int)+1)):=by have:=(bO.o _ jC.o).2.1;exact(gh (a:=⟨bx,0,aB⟩) (nK _ _ _ _ OX.o)).trans this
 go_wp2_with fail
 go_ret2;refine aU ⟨HZ.o,aH (aC ⟨g,0,aB⟩) (aA L+1) cap,rfl,⟨(lf ew.o 8 _).trans rfl, ?_⟩, ?_, ?_⟩
 ·rw [cN,Us];exact kF oh.o (λe=>Hw (by simpa [dy] using e)) _
 ·have h2:bC (λk=>k=xb\/(aH A (aA L) c).ownBlock=aC k) w5 w7:=bC.IX jC.o (λk hk=>aS (aU (by rw [<-HR.o];exact hk)));exact(JT.o.trans h2 (λk hk=>aS hk)).setCell (p:=⟨xb,8,aB⟩) (aS (aS rfl)) _
 intro k hk;have e:k=g:=by simpa [dy] using hk.symm
 subst e;rcases Z0.o with e|e
 ·exact aS e
 exact aU (bz aGy e)
def bk(d:Bd):Int×Int:=(d.p,d.s)
def qP(L:List Bd)(s:Int):List Bd:=L.filter λd=>decide (d.c=s)
theorem aKJ {L:List Bd} {k:Nat}(h:k<aA L)(s:Int):qP (L.take (k+1)) s=qP (L.take k) s++(if L[k].c=s then [L[k]] else []):=by
 rw [fE h];unfold qP;rw [List.filter_append];by_cases e:L[k].c=s
 ·rw [ifP e];simp [e]
 rw [ifN e];simp [e]
theorem a7E(L:List Bd)(s:Int):aA (qP L s)<=aA L:=qd _ _
structure E4(B:Nat)(sv kv:aN)(gs:List Nat)(done:List Bd)(W:aJ):Prop where
 s:W.ownsRow B 41 5 sv (aA done) (nR done)
 k:W.ownsRow B 53 1 kv (aA done) (gs.map k2)
 len:aA gs=aA done
 g:∀j (hj:j<aA gs) (hd:j<aA done),W.heap[gs[j]]? =aC (aK #[ν done[j].p,ν done[j].s] 2 (0,0))
theorem E4.below {B:Nat} {sv kv:aN} {gs:List Nat} {done:List Bd} {W W':aJ}(h:E4 B sv kv gs done W)(hb:aa W.heap.size W W'):E4 B sv kv gs done W':=
 ⟨iA h.s hb,iA h.k hb,h.len,λj hj hd=>(hb.block _ (fW.1 (h.g j hj hd)).1).trans (h.g j hj hd)⟩
theorem E4.key {B:Nat} {sv:aN} {A:Option aj} {c:Nat} {gs:List Nat} {done:List Bd} {W:aJ}(h:E4 B sv (aH A (aA done) c) gs done W):Cj W W.heap.size A (done.map bk):=λj hj=>by rw [iR] at hj;obtain⟨b,o,e,hb,hc⟩:=(aW.cA h.k).at (k:=j) (by rw [iR,h.len];exact hj);have hg:=h.g j (by rw [h.len];exact hj) hj;rw [wk] at hc;rw [wk];exact⟨b,o,gs[j]'(by rw [h.len];exact hj),2,e,hb,hc,(fW.1 hg).1,ρ hg,ρ hg⟩
def a8r(L:List Bd)(s:Int)(w:aJ)(e:dU)(w':aJ):Prop:=
 ∃v is,e=aT v/\JY ((qP L s).map bk) is/\w'.ownsRow w.heap.size 41 5 v (aA is) (nR (is.map λi=>(qP L s).getD i ⟨0,0,0,0,0⟩))/\β w w'
theorem aM6(x:ak)(v:aN)(L:List Bd)(s:Int)(xb:Nat)(w:aJ)(h:jA w xb x v L)(hl:aA L<=100000)(hI:∀d∈L,aL d.s):
 aQ aM 134 #[π xb,ν s] w (a8r L s w):=by
 have Ad:=η (aM2 x v L xb w h hl);have HI:=η hI;obtain⟨ib,a4N,R6,R7,R8⟩:=dL X7;obtain⟨i2,qM,X0,X1,X2⟩:=dL a7O;go_enter func134,ntmps134
 go_wp2_with (go_at_call 193;refine Ad.o.mono ?_;unfold pY;rintro e w1 ⟨v1,rfl,eB,hb1⟩;have cE:=η eB;have aR:=η hb1;obtain⟨A1,c1,AH⟩:=bK eB;subst AH)
 have cY:=η (aW.cA cE.o);have a9T:Hid (E4 w1.heap.size (aH aB 0 0) (aH aB 0 0) [] (qP (L.take 0) s) w1):=η ⟨gC _ _ _ _,gC _ _ _ _,rfl,λj hj=>by simp at hj⟩;have aY:Hid (β w1 w1):=η (aX _ _);go_loopw [5,7,9,15] (λsv kv _ i wr=>∃(k:Nat) (gs:List Nat),k<=aA L/\i=ν (k:Int)/\Hid (E4 w1.heap.size sv kv gs (qP (L.take k) s) wr)/\Hid (β w1 wr)) (λ_ _ _ i _=>aA L-(ag i).toNat)
 case atStart=>exact⟨0,[],bL _,rfl,a9T,aY⟩
 case round=>
  obtain⟨k,gs,hk,rfl,lK,HB⟩:=hrel;obtain⟨As,cs,Mz⟩:=bK lK.o.s;obtain⟨Ak,ck,WN⟩:=bK lK.o.k;subst Mz WN;by_cases hlt:k<aA L
  ·have cG:=η (aKJ hlt s);have jk:=bz (a7E (L.take k) s) (List.length_take_le _ _);obtain⟨be,oe,hA,kh,e0,e1,e2,e3,e4⟩:=PY (((cY.o).below HB.o).mono HB.o.size) hlt;have eY:(0:Int)<=(k:Int):=by omega
   have hkb:(k:Int)<(aA L:Int):=by omega
   subst hA;have HXV:Hid (L[k]=L[k]):=η rfl;generalize hd:L[k]=d at cG e0 e1 e2 e3 e4 HXV;generalize qP (L.take k) s=done at*;obtain⟨a2n,hd9⟩:∃q,q=qP (L.take (k+1)) s:=⟨_,rfl⟩;have oX:=η hd9;rw [<-hd9] at cG;obtain⟨ds,dm,dc,dq,dp⟩:=d;simp only at e0 e1 e2 e3 e4;by_cases hc:dc=s
   ·subst hc;have pL:a2n=done++ [⟨ds,dm,dc,dq,dp⟩]:=by rw [cG.o,ifP rfl]
    subst pL;have Wv:w1.heap.size<=wr.heap.size:=HB.o.size;have lF:=η (((aX wr.heap.size wr).alloc (aZ _) (aK #[ν ds,ν dm,ν dc,ν dq,ν dp] 41)).alloc (by simp) (aK #[ν ds,ν dm,ν dc,ν dq,ν dp] 41));have om:=η (lK.o.below lF.o);have cZ:Hid (((wr.alloc (aK #[ν ds,ν dm,ν dc,ν dq,ν dp] 41)).alloc (aK #[ν ds,ν dm,ν dc,ν dq,ν dp] 41)).heap[wr.heap.size]? =aC (aK #[ν ds,ν dm,ν dc,ν dq,ν dp] 41 (0,0))):=η ((fF _ _ (by simp)).trans (cO wr _));have rM:Hid (∀j,(aH As (aA done) cs).ownBlock=aC j->w1.heap.size<=j/\j<wr.heap.size):=η (λj hj=>lK.o.s.lt j hj);have GC:Hid (∀j,(aH Ak (aA done) ck).ownBlock=aC j->w1.heap.size<=j/\j<wr.heap.size):=η (λj hj=>lK.o.k.lt j hj);have HLEN:=η lK.o.len;have Kr:=η HB.o;go_wp2_with (at_builtin;refine wpList_append_lies _ rfl _ _ 132 rfl w1.heap.size 41 ib _ 5 40 PH a4N R6 R7 R8 rfl (by omega) _ _ _ rfl om.o.s ⟨wr.heap.size+1,0,aB⟩ 1 1 [ν ds,ν dm,ν dc,ν dq,ν dp] rfl rfl (dN _ _ #[ν ds,ν dm,ν dc,ν dq,ν dp] (by simp)) (Ut ⟨ds,dm,dc,dq,dp⟩) (by omega) (by simp only [bM];omega) (by omega) (by simp;omega) (wr.heap.size+1+1) (by simp) ?_)
    intro g3 sq w3 mS gL Et _;have hz3:wr.heap.size+1<w3.heap.size:=by have:=gL.size;simp at this;omega
    have af:Hid (aa w1.heap.size wr w3):=η ((lF.o.mono Wv).grown gL (by simp;omega) (λj hj=>(rM.o j hj).1));have hx3:=(gL.block wr.heap.size (by simp;omega) (λe=>by have:=(rM.o _ e.symm).2;omega)).trans cZ.o;have y0:w3.cell? ⟨wr.heap.size,0,aB⟩=aC (ν ds):=ρ hx3;have y4:w3.cell? ⟨wr.heap.size,4,aB⟩=aC (ν dp):=ρ hx3;have oZ:Hid (w3.ownsRow w1.heap.size 53 1 (aH Ak (aA done) ck) (aA done) (gs.map k2)):=η (om.o.k.kept gL (Bp om.o.k om.o.s (by decide)));have L4:Hid (∀j (hj:j<aA gs) (hd:j<aA done),w3.heap[gs[j]]? =aC (aK #[ν done[j].p,ν done[j].s] 2 (0,0))):=η (λj hj hd=>(gL.block _ (fW.1 (om.o.g j hj hd)).1 (λe=>gM om.o.s (om.o.g j hj hd) (by decide) e.symm)).trans (om.o.g j hj hd));have sP:Hid (w3.ownsRow w1.heap.size 41 5 (aH (aC ⟨g3,0,aB⟩) (aA done+1) sq) (aA done+1) (nR (done++ [⟨ds,dm,dc,dq,dp⟩]))):=η (by rw [Us];exact mS);have rD:=η (((aX w3.heap.size w3).alloc (aZ _) (aK #[ν dp,ν ds] 2)).alloc (by simp) (aK #[k2 w3.heap.size] 53));have yD:=η (iA oZ.o rD.o);have jP:=η (iA sP.o rD.o);have gH:Hid (∀j u,([k2 w3.heap.size]:List aN)[j]? =aC u->((w3.alloc (aK #[ν dp,ν ds] 2)).alloc (aK #[k2 w3.heap.size] 53)).cell? ((⟨w3.heap.size+1,0,aB⟩:aj).add j)=aC u):=η (dN _ _ #[_] (by simp));have EB:Hid (((w3.alloc (aK #[ν dp,ν ds] 2)).alloc (aK #[k2 w3.heap.size] 53)).heap[w3.heap.size]? =aC (aK #[ν dp,ν ds] 2 (0,0))):=η ((fF _ _ (by simp)).trans (cO w3 _));go_wp2_with (at_builtin;refine wpList_append_lies _ rfl _ _ 235 rfl w1.heap.size 53 i2 _ 1 24 underlying235 qM X0 X1 X2 rfl (by omega) _ _ _ rfl yD.o ⟨w3.heap.size+1,0,aB⟩ 1 1 [k2 w3.heap.size] rfl rfl gH.o (a4y [w3.heap.size]) (by omega) (by simp only [bM];omega) (by omega) (by simp;omega) (w3.heap.size+1+1) (by simp) ?_)
    intro g5 M7 w5 F9 tJ Vi _;have N7:w3.heap.size+1<w5.heap.size:=by have:=tJ.size;simp at this;omega
    have cV:Hid (β w1 w5):=η (Kr.o.trans ((af.o.trans (rD.o.mono (by omega))).grown tJ (by simp;omega) (λj hj=>(GC.o j hj).1)));have nC:w5.heap[w3.heap.size]? =aC (aK #[ν dp,ν ds] 2 (0,0)):=(tJ.block _ (by simp;omega) (λe=>by have:=(GC.o _ e.symm).2;omega)).trans EB.o;have TZ:Hid (E4 w1.heap.size (aH (aC ⟨g3,0,aB⟩) (aA done+1) sq) (aH (aC ⟨g5,0,aB⟩) (aA done+1) M7) (gs++ [w3.heap.size]) (done++ [⟨ds,dm,dc,dq,dp⟩]) w5):=η (by
     have I5:=HLEN.o;refine⟨?_, ?_,by simp [I5],λj hj hd=> ?_⟩
     ·rw [cN];exact jP.o.kept tJ (Bp jP.o yD.o (by decide))
     ·rw [cN,df];exact F9
     rcases rQ j (aA gs) with h|h
     ·rw [UA h,UA (by omega)];have h6:=L4.o j h (by omega);have WT:=(fW.1 h6).1;have h7:=(rD.o.block _ WT).trans h6;exact(tJ.block _ (by simp;omega) (λe=>gM yD.o h7 (by decide) e.symm)).trans h7
     have e:j=aA gs:=by simp at hj;omega
     subst e;rw [UB (aZ _),UB (by omega)];simp [I5];exact nC)
    clear F9 tJ Vi nC af sP jP oZ yD gH EB rD L4 rM GC Kr y0 y4;go_wp2_with fail
    go_roundw
    case rel=>exact⟨k+1,_,by omega,by go_num,by rw [<-oX.o];exact TZ,cV⟩
    case measure=>simp [ag];omega
   have pL:a2n=done:=by rw [cG.o,ifN hc,List.append_nil]
   subst pL;have hcb:(dc==s)=aP:=by simpa using hc
   have lF:=η ((aX wr.heap.size wr).alloc (aZ _) (aK #[ν ds,ν dm,ν dc,ν dq,ν dp] 41));have om:=η (lK.o.below lF.o);have af:Hid (β w1 (wr.alloc (aK #[ν ds,ν dm,ν dc,ν dq,ν dp] 41))):=η (HB.o.alloc HB.o.size _);clear cG lK HB lF;go_wp2_with fail
   go_roundw
   case rel=>exact⟨k+1,_,by omega,by go_num,by rw [<-oX.o];exact om,af⟩
   case measure=>simp [ag];omega
  obtain rfl:k=aA L:=by omega
  rw [cT] at lK;have jk:=a7E L s;have TI:Hid (∀p∈(qP L s).map bk,aL p.2):=η (λp hp=>by obtain⟨d,hd,rfl⟩:=dW.1 hp;exact HI.o d (jD.1 hd).1);obtain⟨done,Hu⟩:∃q,q=qP L s:=⟨_,rfl⟩;have Z8:=η Hu;rw [<-Hu] at lK jk TI;rw [cT,<-Hu];clear Hu;have OJ:=η (a6F (done.map bk) Ak ck wr (by rw [iR];omega) TI.o lK.o.key);rw [iR] at OJ;clear TI HI;go_wp2_with (go_at_call 162;refine OJ.o.mono ?_;unfold Si;rintro e w2 ⟨bw,is,rfl,eR,hb2,hc2,hz2,Hq⟩;have HIS:=η eR;have kJ:=η hc2;have aV:Hid (β wr w2):=η Hq;have CU:=η (lK.o.below Hq);have QM:bw<w2.heap.size:=hz2;clear eR hb2 hc2 hz2 Hq OJ)
  have Hz:aA is=aA done:=by rw [HIS.o.len,iR]
  obtain⟨ls,AB⟩:∃ls:List Bd,ls=is.map λi=>done.getD i ⟨0,0,0,0,0⟩:=⟨_,rfl⟩
  have Fu:=η AB;have mH:Hid (aA ls=aA done):=η (by rw [AB,iR];exact Hz);have tx:=η Hz;have th:Hid (β w w2):=η ((aR.o.trans (HB.o.mono aR.o.size)).trans (aV.o.mono (bz aR.o.size HB.o.size)));clear AB Hz lK HB aV hlt;have LL:Hid (w2.ownsRow w2.heap.size 41 5 (aH aB 0 0) 0 (nR (ls.take 0))):=η (by rw [nQ];exact gC _ _ _ _);have sN:Hid (β w2 w2):=η (aX _ _);go_loopw [6,11,39] (λv _ i wr=>∃k:Nat,k<=aA done/\i=ν (k:Int)/\Hid (β w2 wr)/\Hid (wr.ownsRow w2.heap.size 41 5 v k (nR (ls.take k)))) (λ_ _ i _=>aA done-(ag i).toNat)
  case atStart=>exact⟨0,bL _,rfl,sN,LL⟩
  case round=>
   clear sN LL;obtain⟨k,hk,rfl,HB,HO⟩:=hrel;obtain⟨Ax,cx,pK⟩:=bK HO.o;subst pK;by_cases hlt:k<aA done
   ·have zx:k<aA is:=by rw [tx.o];exact hlt
    have c0:=(HB.o.cell (p:=⟨bw,k,aB⟩) QM).trans (kJ.o k zx);have hbr:bw<wr.heap.size:=cP QM HB.o.size;have nY:is[k]<aA done:=by have:=HIS.o.lt _ (cK zx);rwa [iR] at this
    obtain⟨be,oe,hA,kh,e0,e1,e2,e3,e4⟩:=PY (((aW.cA CU.o.s).below HB.o).mono HB.o.size) nY;have lO:Hid (ls.take (k+1)=ls.take k++ [done[is[k]]]):=η (by rw [fE (by rw [mH.o];exact hlt)];congr 2;simp [Fu.o,List.getD,nY]);have bu:(0:Int)<=((is[k]:Nat):Int):=by omega
    have hib:((is[k]:Nat):Int)<(aA done:Int):=by omega
    have eY:(0:Int)<=(k:Int):=by omega
    have hkb:(k:Int)<(aA done:Int):=by omega
    subst hA;generalize done[is[k]]=q at*;generalize is[k]=ix at*;obtain⟨ds,dm,dc,dq,dp⟩:=q;simp only at e0 e1 e2 e3 e4;have af:Hid (β w2 (wr.alloc (aK #[ν ds,ν dm,ν dc,ν dq,ν dp] 41))):=η (HB.o.alloc HB.o.size _);have cD:=η (HO.o.alloc (aK #[ν ds,ν dm,ν dc,ν dq,ν dp] 41));have hzz:w2.heap.size<=wr.heap.size:=HB.o.size;go_wp2_with (at_builtin;refine wpList_append_lies _ rfl _ _ 132 rfl w2.heap.size 41 ib _ 5 40 PH a4N R6 R7 R8 rfl (by omega) _ _ _ rfl cD.o ⟨wr.heap.size,0,aB⟩ 1 1 [ν ds,ν dm,ν dc,ν dq,ν dp] rfl rfl (dN _ _ #[ν ds,ν dm,ν dc,ν dq,ν dp] rfl) (Ut ⟨ds,dm,dc,dq,dp⟩) (by omega) (by simp only [bM];omega) (by omega) (by simp;omega) (wr.heap.size+1) (by simp) ?_)
    intro g4 M6 w4 pN iM _ _;have ar:Hid (β w2 w4):=η (af.o.grown iM (by simp;omega) (λj hj=>eT cD.o j hj));have dV:Hid (w4.ownsRow w2.heap.size 41 5 (aH (aC ⟨g4,0,aB⟩) (k+1) M6) (k+1) (nR (ls.take (k+1)))):=η (by rw [lO.o,Us];exact pN);clear pN iM af cD HO HB;go_wp2_with fail
    go_roundw
    case rel=>exact⟨k+1,by omega,by go_num,ar,dV⟩
    case measure=>simp [ag];omega
   obtain rfl:k=aA done:=by omega
   have fL:Hid (wr.ownsRow w.heap.size 41 5 (aH Ax (aA done) cx) (aA is) (nR ls)):=η (by have h2:=HO.o;rw [List.take_of_length_le (by rw [mH.o];exact aZ _)] at h2;rw [tx.o];exact iB h2 th.o.size);go_wp2_with fail
   go_ret;refine⟨_,is,rfl,by rw [<-Z8.o];exact HIS.o, ?_,th.o.trans (HB.o.mono th.o.size)⟩;rw [<-Z8.o,<-Fu.o];exact fL.o
section
open Go.Sort
theorem aH1(zs:List Int)(A:Option aj)(c:Nat)(m:Int)(w:aJ)(h:aW w w.heap.size A (zs.map (aG aF)))(hl:aA zs<=1000000):
 aQ aM 15 #[aH A (aA zs) c,ν m] w λe w'=>e=aT (bJ (hasB zs m))/\w=w':=by
 have HS:=η h;go_enter func15,ntmps15
 go_wp2
 go_loop [5] (λi=>∃k:Nat,k<=aA zs/\i=ν k/\Hid ((zs.take k).contains m=aP)) (λi=>aA zs-(ag i).toNat)
 case atStart=>exact⟨0,bL _,rfl,rfl⟩
 case round=>
  obtain⟨k,hk,rfl,HN⟩:=hrel;by_cases hlt:k<aA zs
  ·obtain⟨b,o,rfl,hb,d0⟩:=tP HS.o hlt;have HA:=η (aEM m hlt);cases hp:(zs[k]==m)
   ·have HX:Hid ((zs.take (k+1)).contains m=aP):=by show _=_;rw [HA.o,HN.o,hp];rfl
    go_wp2
    go_round
    case rel=>exact⟨k+1,by omega,by go_num,HX⟩
    case measure=>simp [ag];omega
   have HF:Hid (aO=hasB zs m):=by
    show _=zs.contains m;symm;rw [U6];have e:zs[k]=m:=by simpa using hp
    rw [<-e];exact cK hlt
   go_wp2
   go_ret;exact⟨fQ HF.o,rfl⟩
  obtain rfl:k=aA zs:=by omega
  have hN:=HN.o;rw [cT] at hN;have HF:Hid (hasB zs m=aP):=hN;go_wp2
  go_ret;exact⟨fQ HF.o.symm,rfl⟩
theorem aIZ(ys:List Int)(g cap:Nat)(base:Nat)(w0 w:aJ)(hb0:base<=g)(h:w.ownsRow base 3 1 (aH (aC ⟨g,0,aB⟩) (aA ys) cap) (aA ys) (ys.map (aG aF)))(hl:aA ys<=1000000)(hB:aa base w0 w)(gy:base<=w.heap.size):
 aQ aM 217 #[aH (aC ⟨g,0,aB⟩) (aA ys) cap] w λe w2=>e=aT (bB #[])/\w2.ownsRow base 3 1 (aH (aC ⟨g,0,aB⟩) (aA ys) cap) (aA ys) ((ys.mergeSort λx y=>decide (x<=y)).map (aG aF))/\aa base w0 w2:=by
 obtain⟨q1,q2,q3⟩:=a6K h;refine(slices_Sort_int g 0 cap ys w q1 q2 (by omega)).mono ?_;rintro e w2 ⟨rfl,n2,os2,hw2⟩;obtain⟨o2,g2⟩:=a7W h (List.length_mergeSort _) hw2;exact⟨rfl,o2,hB.grown g2 gy (λj hj=>by injection hj with hj;omega)⟩
theorem aEC(ms:List Int)(g cap:Nat)(base:Nat)(w0 w:aJ)(hb0:base<=g)(h:w.ownsRow base 3 1 (aH (aC ⟨g,0,aB⟩) (aA ms) cap) (aA ms) (ms.map (aG aF)))(hl:aA ms<=1000000)(hB:aa base w0 w)(gy:base<=w.heap.size):
 aQ aM 218 #[aH (aC ⟨g,0,aB⟩) (aA ms) cap] w λe w3=>e=aT (aH (aC ⟨g,0,aB⟩) (aA (sU ms)) cap)/\w3.ownsRow base 3 1 (aH (aC ⟨g,0,aB⟩) (aA (sU ms)) cap) (aA (sU ms)) ((sU ms).map (aG aF))/\aa base w0 w3:=by
 obtain⟨q1,q2,q3⟩:=a6K h;refine(slices_Compact_int g 0 cap ms w q1 (by omega) q3).mono ?_;rintro e w3 ⟨rfl,n3,hw3⟩;have jz:=aEA ms;have hw4:w3=grow (putRow (aG aF) (Sort.ahead w n3) g 0 (sU ms++gP (aA ms-aA (sU ms)) 0).toArray) #[]:=by rw [hw3,grow_empty]
 obtain⟨o3,g3⟩:=a7W h (by simp;omega) hw4;refine⟨rfl, ?_,hB.grown g3 gy (λj hj=>by injection hj with hj;omega)⟩;have:=aJ7 o3 jz;rw [df,List.take_left' (by simp)] at this;exact this
theorem Ma(zs:List Int)(A:Option aj)(c:Nat)(m:Int)(w:aJ)(h:aW w w.heap.size A (zs.map (aG aF)))(hl:aA zs<=1000000):
 aQ aM 89 #[aH A (aA zs) c,ν m] w λe w'=>e=aT (bJ (hasB zs m))/\w=w':=by
 have HS:=η h;rcases Nat.eq_zero_or_pos (aA zs) with h0|h0
 ·have hz:zs= []:=nO h0;subst hz;go_enter aBE,aC1
  go_wp2_with fail
  refine(slices_Contains_int_empty A c m _).mono ?_;rintro e w1 ⟨rfl,rfl⟩;go_wp2_with fail
  go_ret;exact⟨rfl,rfl⟩
 obtain⟨b,o,rfl,hb,_⟩:=tP HS.o h0;go_enter aBE,aC1
 go_wp2_with fail
 refine(slices_Contains_int b o (aA zs) c zs m _ (aZ _) (by omega) (Y1 HS.o)).mono ?_;rintro e w1 ⟨rfl,rfl⟩;rw [cT,show zs.contains m=hasB zs m from rfl];go_wp2_with fail
 go_ret;exact⟨rfl,rfl⟩
end
def Sh(w:aJ)(L:List Lg)(e:dU)(w':aJ):Prop:=
 ∃v,e=aT v/\w'.ownsRow w.heap.size 76 3 v (aA L) (bA L)/\β w w'
def BQ(x:Ob):Bool:=decide (0<x.az)&&decide (x.done<x.az)
theorem aFK(x:Ob)(w:aJ):aQ aM 178 #[x.val] w λe w'=>e=aT (bJ (BQ x))/\aa w.heap.size w w':=by
 obtain⟨c,m,a,az,done,st⟩:=x;unfold Ob.val;go_enter func178,ntmps178
 go_wp2
 all_goals
  go_ret;refine⟨fQ ?_,(aX _ _).alloc (aZ _) _⟩;rw [Fj];simp_all [BQ]<;>omega
theorem aIm(L:List Ob)(A:Option aj)(c:Nat)(p:Ob->Bool)(w:aJ)(hs:aW w w.heap.size A (fK L))(hl:aA L<=1000000)
 (hp:∀(x:Ob) (W:aJ),β w W->aQ aM 178 #[x.val] W λe w'=>e=aT (bJ (p x))/\β W w'):
 aQ aM 177 #[aH A (aA L) c,.func (.func 178) #[] #[]] w (yx w (L.filter λx=>x.st==1&&p x)):=by
 have HS:=η hs;have HP:=η hp;obtain⟨i0,bu,hz0,fj,hz2⟩:=dL KX;go_enter aAk,aBX
 go_wp2_with fail
 go_loopw [5,7,10] (λu _ i wr=>∃k:Nat,k<=aA L/\i=ν k/\Hid (wr.ownsRow w.heap.size 59 6 u (aA ((L.take k).filter λx=>x.st==1&&p x)) (fK ((L.take k).filter λx=>x.st==1&&p x)))/\Hid (β w wr)) (λ_ _ i _=>aA L-(ag i).toNat)
 case atStart=>exact⟨0,bL _,rfl,⟨by simp [fK],aS ⟨rfl,rfl⟩⟩,aX _ _⟩
 case round=>
  obtain⟨k,hk,rfl,HO,HB⟩:=hrel;have hsz:=HB.o.size;have gV:=Px (λx:Ob=>x.st==1&&p x) L k;by_cases hlt:k<aA L
  ·obtain⟨b,o,rfl,hb,d0,d1,d2,d3,d4,d5⟩:=vw (HS.o.below HB.o) hlt;have HF:=η (Py (λx:Ob=>x.st==1&&p x) hlt);cases h1:(L[k].st==1)
   ·have hF:(L.take (k+1)).filter (λx=>x.st==1&&p x)=(L.take k).filter (λx=>x.st==1&&p x):=by rw [HF.o,h1];simp
    have jh:=HO.o;rw [<-hF] at jh;have cE:=η jh;go_wp2_with fail
    go_roundw
    case rel=>exact⟨k+1,by omega,by go_num,cE.o.alloc _,HB.o.alloc hsz _⟩
    case measure=>simp [ag];omega
   cases h2:p L[k]
   ·have hF:(L.take (k+1)).filter (λx=>x.st==1&&p x)=(L.take k).filter (λx=>x.st==1&&p x):=by rw [HF.o,h1,h2];simp
    have jh:=HO.o;rw [<-hF] at jh;have cE:=η jh;have uB:Hid (∀W:aJ,β w W->aQ aM 178 #[L[k].val] W λe w'=>e=aT (bJ aP)/\β W w'):=λW hW=>by have:=HP.o L[k] W hW;rw [h2] at this;exact this
    go_wp2_with fail
    refine(uB.o _ (HB.o.alloc hsz _)).mono ?_;rintro e w3 ⟨rfl,hb3⟩;have af:Hid (β w w3):=(HB.o.alloc hsz _).trans (hb3.mono (by simp;omega));have hg3:wr.grownBy w3 aB:=⟨hb3.os,hb3.tape,hb3.output,by have:=hb3.size;simp at this;omega,λi hi _=>(hb3.block i (by simp;omega)).trans (fF _ _ hi)⟩;have cD:=η (cE.o.kept hg3 (by cases (dy _)<;>simp));go_wp2_with fail
    go_roundw
    case rel=>exact⟨k+1,by omega,by go_num,cD,af⟩
    case measure=>simp [ag];omega
   have hF:(L.take (k+1)).filter (λx=>x.st==1&&p x)=(L.take k).filter (λx=>x.st==1&&p x)++ [L[k]]:=by rw [HF.o,h1,h2];simp
   have jM:=η hF;have uB:Hid (∀W:aJ,β w W->aQ aM 178 #[L[k].val] W λe w'=>e=aT (bJ aO)/\β W w'):=λW hW=>by have:=HP.o L[k] W hW;rw [h2] at this;exact this
   generalize (L.take k).filter (λx=>x.st==1&&p x)=ys at*;go_wp2_with fail
   refine(uB.o _ (HB.o.alloc hsz _)).mono ?_;rintro e w3 ⟨rfl,hb3⟩;have af:Hid (β w w3):=(HB.o.alloc hsz _).trans (hb3.mono (by simp;omega));have hz3:=hb3.size;simp at hz3;have hg3:wr.grownBy w3 aB:=⟨hb3.os,hb3.tape,hb3.output,by omega,λi hi _=>(hb3.block i (by simp;omega)).trans (fF _ _ hi)⟩;have cD:=η (HO.o.kept hg3 (by cases (dy _)<;>simp));have hc:=λj=>(hb3.cell (p:=⟨wr.heap.size,j,aB⟩) (by simp)).trans (cL _ _ _ j rfl)
   have e0:=hc 0;have e1:=hc 1;have e2:=hc 2;have e3:=hc 3;have e4:=hc 4;have e5:=hc 5;simp at e0 e1 e2 e3 e4 e5;go_wp2_with (at_builtin;refine j9 _ rfl _ _ 56 rfl w.heap.size 59 i0 _ 6 48 Gh bu hz0 fj hz2 rfl (by decide) _ (aA ys) (fK ys) rfl (cD.o.alloc _) ⟨w3.heap.size,0,aB⟩ 1 1 L[k].cells rfl rfl ?c1 ?c2 ?c3 ?c4 ?c5 ?_)
   case c1=>exact dN _ _ #[_,_,_,_,_,_] rfl
   case c2=>intro u hu;simp [Ob.cells] at hu;rcases hu with rfl|rfl|rfl|rfl|rfl|rfl<;>rfl
   case c3=>simp only [bM];omega
   case c4=>omega
   case c5=>simp;omega
   intro v' w4 hown1 dF _;have dV:Hid (w4.ownsRow w.heap.size 59 6 v' (aA ((L.take (k+1)).filter λx=>x.st==1&&p x)) (fK ((L.take (k+1)).filter λx=>x.st==1&&p x))):=by show jw _ _ _ _ _ _ _;rw [jM.o,NN,cN,uG];exact hown1
   have pj:Hid (β w w4):=(af.o.alloc (by omega) _).grown dF (by simp;omega) (λj hj=>eT cD.o j hj);go_wp2_with fail
   go_roundw
   case rel=>exact⟨k+1,by omega,by go_num,dV,pj⟩
   case measure=>simp [ag];omega
  obtain rfl:k=aA L:=by omega
  have hO:=HO.o;rw [cT] at hO;have dD:=η hO;go_wp2_with fail
  go_ret;exact⟨_,rfl,dD.o,HB.o⟩
theorem aIl(L:List Ob)(A:Option aj)(c:Nat)(c1:aN)(p:Ob->Bool)(w:aJ)(hs:aW w w.heap.size A (fK L))(hl:aA L<=1000000)
 (hp:∀(x:Ob) (W:aJ),β w W->aQ aM 223 #[x.val,c1] W λe w'=>e=aT (bJ (p x))/\β W w'):
 aQ aM 177 #[aH A (aA L) c,.func (.func 223) #[] #[c1]] w (yx w (L.filter λx=>x.st==1&&p x)):=by
 have HS:=η hs;have HP:=η hp;obtain⟨i0,bu,hz0,fj,hz2⟩:=dL KX;go_enter aAk,aBX
 go_wp2_with fail
 go_loopw [5,7,10] (λu _ i wr=>∃k:Nat,k<=aA L/\i=ν k/\Hid (wr.ownsRow w.heap.size 59 6 u (aA ((L.take k).filter λx=>x.st==1&&p x)) (fK ((L.take k).filter λx=>x.st==1&&p x)))/\Hid (β w wr)) (λ_ _ i _=>aA L-(ag i).toNat)
 case atStart=>exact⟨0,bL _,rfl,⟨by simp [fK],aS ⟨rfl,rfl⟩⟩,aX _ _⟩
 case round=>
  obtain⟨k,hk,rfl,HO,HB⟩:=hrel;have hsz:=HB.o.size;have gV:=Px (λx:Ob=>x.st==1&&p x) L k;by_cases hlt:k<aA L
  ·obtain⟨b,o,rfl,hb,d0,d1,d2,d3,d4,d5⟩:=vw (HS.o.below HB.o) hlt;have HF:=η (Py (λx:Ob=>x.st==1&&p x) hlt);cases h1:(L[k].st==1)
   ·have hF:(L.take (k+1)).filter (λx=>x.st==1&&p x)=(L.take k).filter (λx=>x.st==1&&p x):=by rw [HF.o,h1];simp
    have jh:=HO.o;rw [<-hF] at jh;have cE:=η jh;go_wp2_with fail
    go_roundw
    case rel=>exact⟨k+1,by omega,by go_num,cE.o.alloc _,HB.o.alloc hsz _⟩
    case measure=>simp [ag];omega
   cases h2:p L[k]
   ·have hF:(L.take (k+1)).filter (λx=>x.st==1&&p x)=(L.take k).filter (λx=>x.st==1&&p x):=by rw [HF.o,h1,h2];simp
    have jh:=HO.o;rw [<-hF] at jh;have cE:=η jh;have uB:Hid (∀W:aJ,β w W->aQ aM 223 #[L[k].val,c1] W λe w'=>e=aT (bJ aP)/\β W w'):=λW hW=>by have:=HP.o L[k] W hW;rw [h2] at this;exact this
    go_wp2_with fail
    refine(uB.o _ (HB.o.alloc hsz _)).mono ?_;rintro e w3 ⟨rfl,hb3⟩;have af:Hid (β w w3):=(HB.o.alloc hsz _).trans (hb3.mono (by simp;omega));have hg3:wr.grownBy w3 aB:=⟨hb3.os,hb3.tape,hb3.output,by have:=hb3.size;simp at this;omega,λi hi _=>(hb3.block i (by simp;omega)).trans (fF _ _ hi)⟩;have cD:=η (cE.o.kept hg3 (by cases (dy _)<;>simp));go_wp2_with fail
    go_roundw
    case rel=>exact⟨k+1,by omega,by go_num,cD,af⟩
    case measure=>simp [ag];omega
   have hF:(L.take (k+1)).filter (λx=>x.st==1&&p x)=(L.take k).filter (λx=>x.st==1&&p x)++ [L[k]]:=by rw [HF.o,h1,h2];simp
   have jM:=η hF;have uB:Hid (∀W:aJ,β w W->aQ aM 223 #[L[k].val,c1] W λe w'=>e=aT (bJ aO)/\β W w'):=λW hW=>by have:=HP.o L[k] W hW;rw [h2] at this;exact this
   generalize (L.take k).filter (λx=>x.st==1&&p x)=ys at*;go_wp2_with fail
   refine(uB.o _ (HB.o.alloc hsz _)).mono ?_;rintro e w3 ⟨rfl,hb3⟩;have af:Hid (β w w3):=(HB.o.alloc hsz _).trans (hb3.mono (by simp;omega));have hz3:=hb3.size;simp at hz3;have hg3:wr.grownBy w3 aB:=⟨hb3.os,hb3.tape,hb3.output,by omega,λi hi _=>(hb3.block i (by simp;omega)).trans (fF _ _ hi)⟩;have cD:=η (HO.o.kept hg3 (by cases (dy _)<;>simp));have hc:=λj=>(hb3.cell (p:=⟨wr.heap.size,j,aB⟩) (by simp)).trans (cL _ _ _ j rfl)
   have e0:=hc 0;have e1:=hc 1;have e2:=hc 2;have e3:=hc 3;have e4:=hc 4;have e5:=hc 5;simp at e0 e1 e2 e3 e4 e5;go_wp2_with (at_builtin;refine j9 _ rfl _ _ 56 rfl w.heap.size 59 i0 _ 6 48 Gh bu hz0 fj hz2 rfl (by decide) _ (aA ys) (fK ys) rfl (cD.o.alloc _) ⟨w3.heap.size,0,aB⟩ 1 1 L[k].cells rfl rfl ?c1 ?c2 ?c3 ?c4 ?c5 ?_)
   case c1=>exact dN _ _ #[_,_,_,_,_,_] rfl
   case c2=>intro u hu;simp [Ob.cells] at hu;rcases hu with rfl|rfl|rfl|rfl|rfl|rfl<;>rfl
   case c3=>simp only [bM];omega
   case c4=>omega
   case c5=>simp;omega
   intro v' w4 hown1 dF _;have dV:Hid (w4.ownsRow w.heap.size 59 6 v' (aA ((L.take (k+1)).filter λx=>x.st==1&&p x)) (fK ((L.take (k+1)).filter λx=>x.st==1&&p x))):=by show jw _ _ _ _ _ _ _;rw [jM.o,NN,cN,uG];exact hown1
   have pj:Hid (β w w4):=(af.o.alloc (by omega) _).grown dF (by simp;omega) (λj hj=>eT cD.o j hj);go_wp2_with fail
   go_roundw
   case rel=>exact⟨k+1,by omega,by go_num,dV,pj⟩
   case measure=>simp [ag];omega
  obtain rfl:k=aA L:=by omega
  have hO:=HO.o;rw [cT] at hO;have dD:=η hO;go_wp2_with fail
  go_ret;exact⟨_,rfl,dD.o,HB.o⟩
def Ob.claim(x:Ob):Lg:=⟨x.m,x.a,if x.az=fJ then 9223372036854775807 else-x.az⟩
theorem aDl(n:Int)(h:aL n):(dM (-n) !=0)=(n==fJ):=by
 unfold fJ;rcases Int.decEq n (-9223372036854775808) with h1|h1
 ·have h2:aL (-n):=by unfold aL at*;omega
  rw [(eA h2).2];simp [h1]
 subst h1;have h2:¬aL (- -9223372036854775808):=by decide
 rw [(gp h2).2];rfl
theorem aDm(x:Ob)(w:aJ)(h:aL x.az):aQ aM 224 #[x.val] w λe w'=>e=aT (x.claim.val)/\aa w.heap.size w w':=by
 have HA:=η (aDl x.az h);have HI:=η h;have HC:=η (show x.claim=⟨x.m,x.a,if x.az=fJ then 9223372036854775807 else-x.az⟩ from rfl);obtain⟨c,m,a,az,done,st⟩:=x;simp only at HA HI HC;by_cases hn:az=fJ
 ·have h1:(dM (-az) !=0)=aO:=by rw [HA.o];simpa using hn
  have HN:=η hn;clear h hn;unfold Ob.val;go_enter aAt,aBg
  go_wp2_with fail
  refine(RS az _ HI.o).mono ?_;rintro e w1 ⟨rfl,rfl⟩;go_wp2_with fail
  refine bodyPost_ret (v:=bU #[ν m,ν a,ν 9223372036854775807]) (by simp [results,aC5,go_sem]) rfl ⟨?_,σ.alloc (by simp) _⟩;rw [HC.o,HN.o];rfl
 have h1:(dM (-az) !=0)=aP:=by rw [HA.o];simpa using hn
 have HN:=η hn;have hv:gQ (-az)= -az:=by
  have h2:aL (-az):=by have hi:=HI.o;unfold aL fJ at*;omega
  exact(eA h2).1
 have HV:=η hv;clear h hn hv;unfold Ob.val;go_enter aAt,aBg
 go_wp2_with fail
 refine(RS az _ HI.o).mono ?_;rintro e w1 ⟨rfl,rfl⟩;go_wp2_with fail
 refine bodyPost_ret (v:=bU #[ν m,ν a,ν (gQ (-az))]) (by simp [results,aC5,go_sem]) rfl ⟨?_,σ.alloc (by simp) _⟩;rw [HC.o,HV.o,ifN HN.o];rfl
structure Jh(w:aJ)(bw:Nat)(A:Option aj)(c:Nat)(who:List Int):Prop where
 cell:w.cell? ⟨bw,0,aB⟩=aC (aH A (aA who) c)
 dt:aW w w.heap.size A (who.map (aG aF))
 lt:bw<w.heap.size
theorem Jh.below {w w':aJ} {bw:Nat} {A:Option aj} {c:Nat} {who:List Int}(h:Jh w bw A c who)(hb:aa w.heap.size w w'):Jh w' bw A c who:=
 ⟨(hb.cell (p:=⟨bw,0,aB⟩) h.lt).trans h.cell,(h.dt.below hb).mono hb.size,cP h.lt hb.size⟩
def tA(p:Ob->Bool)(x:Ob):Bool:=decide (x.az<0)&&p x
def pJ(jG:Int)(who:List Int)(x:Ob):Bool:=x.a==jG&& !hasB who x.m
theorem aFr(x:Ob)(jG:Int)(who:List Int)(A:Option aj)(c ba bw:Nat)(w:aJ)(h:Jh w bw A c who)(ha:w.cell? ⟨ba,0,aB⟩=aC (aG aF jG))(nA:ba<w.heap.size)(hl:aA who<=1000000):
 aQ aM 191 #[x.val,π ba,π bw] w λe w'=>e=aT (bJ (pJ jG who x))/\β w w':=by
 have HG:=η (show pJ jG who x=(x.a==jG&& !hasB who x.m) from rfl);obtain⟨xc,xm,xa,az,done,st⟩:=x;simp only at HG;unfold Ob.val;have hb:β w (w.alloc (aK #[ν xc,ν xm,ν xa,ν az,ν done,ν st] 59)):=(aX _ _).alloc (aZ _) _;have HH:=η (h.below hb);have HB:=η hb;have h0:=h.cell;have hlt:=h.lt;cases h1:(xa==jG)
 ·go_enter aAo,aBb
  go_wp2_with fail
  go_ret;exact⟨fQ (by rw [HG.o,h1];rfl),HB.o⟩
 go_enter aAo,aBb
 go_wp2_with fail
 refine(Ma who A c xm _ HH.o.dt hl).mono ?_;rintro e w1 ⟨rfl,rfl⟩;go_wp2_with fail
 go_ret;exact⟨fQ (by rw [HG.o,h1];simp),HB.o⟩
theorem aDn(x:Ob)(jG:Int)(who:List Int)(Aw:Option aj)(cw ba bw:Nat)(bi:Nat)(w:aJ)(hw:Jh w bw Aw cw who)(ha:w.cell? ⟨ba,0,aB⟩=aC (aG aF jG))(nA:ba<w.heap.size)(hi:w.cell? ⟨bi,0,aB⟩=aC (.func (.func 191) #[] #[bF (aC ⟨ba,0,aB⟩),bF (aC ⟨bw,0,aB⟩)]))(hbi:bi<w.heap.size)(hl:aA who<=1000000):
 aQ aM 223 #[x.val,π bi] w λe w'=>e=aT (bJ (tA (pJ jG who) x))/\β w w':=by
 have hb:β w (w.alloc (aK #[ν x.c,ν x.m,ν x.a,ν x.az,ν x.done,ν x.st] 59)):=(aX _ _).alloc (aZ _) _;have HB:=η hb;have HC:=η (aFr x jG who Aw cw ba bw _ (hw.below hb) ((hb.cell (p:=⟨ba,0,aB⟩) nA).trans ha) (by simp;omega) hl);have HQ:=η (show tA (pJ jG who) x=(decide (x.az<0)&&(pJ jG who) x) from rfl);generalize tA (pJ jG who) x=cv at*;generalize hp:(pJ jG who) x=pv at*;have HP:=η hp;obtain⟨xc,xm,xa,az,done,st⟩:=x;simp only at*;unfold Ob.val at HC ⊢;simp only at HC ⊢;by_cases h1:az<0
 ·have HD:Hid (cv=pv):=by show _=_;rw [HQ.o,decide_eq_true h1];rfl
  go_enter aAs,aBf
  go_wp2_with fail
  refine HC.o.mono ?_;rintro e w1 ⟨rfl,hb1⟩;have aR:Hid (β w w1):=HB.o.trans (hb1.mono (by simp));go_wp2_with fail
  go_ret;exact⟨fQ (HD.o.symm),aR.o⟩
 have HD:Hid (cv=aP):=by show _=_;rw [HQ.o,decide_eq_false h1];rfl
 go_enter aAs,aBf
 go_wp2_with fail
 go_ret;exact⟨fQ HD.o.symm,HB.o⟩
theorem aDp(L:List Ob)(A:Option aj)(c:Nat)(jG:Int)(who:List Int)(Aw:Option aj)(cw ba bw:Nat)(w:aJ)(hs:aW w w.heap.size A (fK L))(hl:aA L<=1000000)(hI:∀x∈L,aL x.az)(hw:Jh w bw Aw cw who)(ha:w.cell? ⟨ba,0,aB⟩=aC (aG aF jG))(nA:ba<w.heap.size)(WW:aA who<=1000000):
 aQ aM 190 #[aH A (aA L) c,.func (.func 191) #[] #[π ba,π bw]] w (Sh w ((L.filter λx=>x.st==1&&tA (pJ jG who) x).map Ob.claim)):=by
 have hb:β w (w.alloc (aK #[.func (.func 191) #[] #[π ba,π bw]] 170)):=(aX _ _).alloc (aZ _) _;have hp:∀(x:Ob) (W:aJ),aa (w.alloc (aK #[.func (.func 191) #[] #[π ba,π bw]] 170)).heap.size (w.alloc (aK #[.func (.func 191) #[] #[π ba,π bw]] 170)) W->aQ aM 223 #[x.val,π w.heap.size] W λe w'=>e=aT (bJ (tA (pJ jG who) x))/\β W w':=by intro x W hW;have hz:=hW.size;simp at hz;have oJ:β w W:=hb.trans (hW.mono (by simp));exact aDn x jG who Aw cw ba bw w.heap.size W (hw.below oJ) ((oJ.cell (p:=⟨ba,0,aB⟩) nA).trans ha) (by omega) (by rw [hW.cell (p:=⟨w.heap.size,0,aB⟩) (by simp),cL _ _ _ _ rfl];rfl) (by omega) WW
 have HC:=η (aIl L A c (π w.heap.size) (tA (pJ jG who)) (w.alloc (aK #[.func (.func 191) #[] #[π ba,π bw]] 170)) ((hs.below hb).mono (by simp)) hl hp);have HB:=η hb;have hDl:aA (L.filter λx=>x.st==1&&tA (pJ jG who) x)<=aA L:=qd _ _;have HDI:Hid (∀x∈(L.filter λx=>x.st==1&&tA (pJ jG who) x),aL x.az):=λx hx=>hI x (jD.1 hx).1
 obtain⟨i0,bu,hz0,fj,hz2⟩:=dL a5O;generalize hzs:(L.filter λx=>x.st==1&&tA (pJ jG who) x).map Ob.claim=zs;have HZ:=η hzs;go_enter func190,ntmps190
 go_wp2_with fail
 refine HC.o.mono ?_;rintro e w1 ⟨v1,rfl,eB,hb1⟩;generalize (L.filter λx=>x.st==1&&tA (pJ jG who) x)=D at*;obtain⟨A1,c1,rfl⟩:=bK eB;have HS:=η (aW.cA eB);have aR:Hid (β w w1):=HB.o.trans (hb1.mono (by simp));have hz1:=aR.o.size;go_wp2_with fail
 go_loopw [5,7,12] (λu _ i wr=>∃k:Nat,k<=aA D/\i=ν k/\Hid (wr.ownsRow w1.heap.size 76 3 u (aA ((D.take k).map Ob.claim)) (bA ((D.take k).map Ob.claim)))/\Hid (β w1 wr)) (λ_ _ i _=>aA D-(ag i).toNat)
 case atStart=>exact⟨0,bL _,rfl,⟨by simp [bA],aS ⟨rfl,rfl⟩⟩,aX _ _⟩
 case round=>
  obtain⟨k,hk,rfl,HO,HB⟩:=hrel;have hsz:=HB.o.size;by_cases hlt:k<aA D
  ·obtain⟨b,o,rfl,hb,d0,d1,d2,d3,d4,d5⟩:=vw (HS.o.below HB.o) hlt;have jM:Hid ((D.take (k+1)).map Ob.claim=(D.take k).map Ob.claim++ [D[k].claim]):=by show _=_;rw [fE hlt,df];rfl
   have Bc:aA ((D.take k).map Ob.claim)<=k:=by rw [iR];exact List.length_take_le _ _
   have OE:=η (HDI.o D[k] (cK hlt));generalize (D.take k).map Ob.claim=ys at*;go_wp2_with fail
   refine(aDm D[k] _ OE.o).mono ?_;rintro e w3 ⟨rfl,hb3⟩;have af:Hid (β w1 w3):=(HB.o.alloc hsz _).trans (hb3.mono (by simp;omega));have hz3:=hb3.size;simp at hz3;have hg3:wr.grownBy w3 aB:=⟨hb3.os,hb3.tape,hb3.output,by omega,λi hi _=>(hb3.block i (by simp;omega)).trans (fF _ _ hi)⟩;have cD:=η (HO.o.kept hg3 (by cases (dy _)<;>simp));rw [show D[k].claim.val=bU #[ν D[k].claim.m,ν D[k].claim.a,ν D[k].claim.n] from rfl];generalize D[k].claim=lg at*;go_wp2_with (at_builtin;refine j9 _ rfl _ _ 39 rfl w1.heap.size 76 i0 _ 3 24 sZ bu hz0 fj hz2 rfl (by decide) _ (aA ys) (bA ys) rfl (cD.o.alloc _) ⟨w3.heap.size,0,aB⟩ 1 1 lg.cells rfl rfl ?c1 (a5L lg) ?c3 ?c4 ?c5 ?_)
   case c1=>exact dN _ _ #[_,_,_] rfl
   case c3=>simp only [bM];omega
   case c4=>omega
   case c5=>simp;omega
   intro v' w4 hown1 dF _;have dV:Hid (w4.ownsRow w1.heap.size 76 3 v' (aA ((D.take (k+1)).map Ob.claim)) (bA ((D.take (k+1)).map Ob.claim))):=by show jw _ _ _ _ _ _ _;rw [jM.o,a5N,cN,uG];exact hown1
   have pj:Hid (β w1 w4):=(af.o.alloc (by omega) _).grown dF (by simp;omega) (λj hj=>eT cD.o j hj);go_wp2_with fail
   go_roundw
   case rel=>exact⟨k+1,by omega,by go_num,dV,pj⟩
   case measure=>simp [ag];omega
  obtain rfl:k=aA D:=by omega
  have hO:=HO.o;rw [cT,HZ.o] at hO;have dD:=η hO;go_wp2_with fail
  go_ret;exact⟨_,rfl,iB dD.o hz1,aR.o.trans (HB.o.mono hz1)⟩
theorem aFs(L:List Ob)(A:Option aj)(c:Nat)(jG:Int)(who:List Int)(Aw:Option aj)(cw:Nat)(w:aJ)(hs:aW w w.heap.size A (fK L))(hl:aA L<=1000000)(hI:∀x∈L,aL x.az)(hw:aW w w.heap.size Aw (who.map (aG aF)))(WW:aA who<=1000000):
 aQ aM 130 #[aH A (aA L) c,aH Aw (aA who) cw,ν jG] w (Sh w ((L.filter λx=>x.st==1&&tA (pJ jG who) x).map Ob.claim)):=by
 have hb:β w ((w.alloc (aK #[aH Aw (aA who) cw] 46)).alloc (aK #[ν jG] 3)):=σ.alloc (by simp) _;have HC:=η (aDp L A c jG who Aw cw (w.heap.size+1) w.heap.size ((w.alloc (aK #[aH Aw (aA who) cw] 46)).alloc (aK #[ν jG] 3)) ((hs.below hb).mono (by simp;omega)) hl hI ⟨by rw [BM _ _ _ (by simp),cL _ _ _ _ rfl];rfl,(hw.below hb).mono (by simp;omega),by simp;omega⟩ (by rw [cL _ _ _ _ (by simp)];rfl) (by simp) WW);have HB:=η hb;generalize (L.filter λx=>x.st==1&&tA (pJ jG who) x).map Ob.claim=zs at*;go_enter func130,ntmps130
 go_wp2_with fail
 refine HC.o.mono ?_;rintro e w1 ⟨v1,rfl,eB,hb1⟩;have cE:=η eB;have aR:Hid (β w w1):=HB.o.trans (hb1.mono (by simp;omega));go_wp2_with fail
 go_ret;exact⟨v1,rfl,iB cE.o (by simp;omega),aR.o⟩
section
open Go.Sort
structure wx(w:aJ)(A:Option aj)(c:Nat)(zs:List Int):Prop where
 dt:aW w w.heap.size A (zs.map (aG aF))
 nil:A=aB->zs= []/\c=0
theorem wx.below {w w':aJ} {A:Option aj} {c:Nat} {zs:List Int}(h:wx w A c zs)(hb:aa w.heap.size w w'):wx w' A c zs:=⟨(h.dt.below hb).mono hb.size,h.nil⟩
theorem a4o(zs:List Int):∀u∈zs.map (aG aF),u.oneCell'=aO:=by intro u hu;obtain⟨x,_,rfl⟩:=dW.1 hu;rfl
theorem SR {w:aJ} {ops:Array Oper} {rest:List Oper} {o:Oper} {a:Act} {Q:Exit->Act->aJ->Prop}(hgd:o.guard=aB)(s x:Operand)
 (ho:o.op= .call {callee:= .builtin .append,args:= #[s,x],argTypes:= #[46,46]}) (base:Nat)
 (v:aN) (n:Nat) (xs:List Int) (hs:a.eval s=v) (hown:w.ownsRow base 3 1 v n (xs.map (aG aF)))
 (A:Option aj) (c:Nat) (zs:List Int) (hx:a.eval x=aH A (aA zs) c) (hz:wx w A c zs) (hlen:n+aA zs<=1000000) (hbase:base<=w.heap.size)
 (h:∀v' w',w'.ownsRow base 3 1 v' (n+aA zs) ((xs++zs).map (aG aF))->w.grownBy w' v.ownBlock->wpList aM ops Q rest (a.put o.dst v') w'):wpList aM ops Q (o::rest) a w:=by
 obtain⟨i0,bu,hz0,hz1,hz2⟩:=dL RF;cases A with
 |none=>
  obtain⟨rfl,rfl⟩:=hz.nil rfl;refine wpList_append_own_none hgd s x 46 ho base 3 i0 1 yO bu v n (xs.map (aG aF)) hs hown hx (h v w (by simpa using hown) ⟨rfl,rfl,rfl,aZ _,λ_ _ _=>rfl⟩)
 |some ad=>
  refine j9 w hgd s x 46 ho base 3 i0 _ 1 8 yO bu hz0 hz1 hz2 rfl (by decide) v n (xs.map (aG aF)) hs hown ad (aA zs) c (zs.map (aG aF)) hx (by simp) ?_ (a4o zs) (by simp only [bM];omega) (by omega) hbase ?_
  ·intro j u hu;obtain⟨b,o',e,_,hc⟩:=hz.dt j u hu;injection e with e;subst e;have ea:(⟨b,o',aB⟩:aj).add j=⟨b,o'+j,aB⟩:=by unfold Addr.add;split<;>simp_all
   rw [ea];exact hc
  intro v' w' h1 h2 _;exact h v' w' (by rw [df];exact h1) h2
theorem aFw(w:aJ)(n:Nat)(hn:n<=1000000):jw (w.drew.alloc (aK (([]:List aN).toArray++E5 (aG aF 0).cells (0+n-0)++E5 (aG aF 0).cells (xM w (0+n) 0 3-(0+n))) 3)) w.heap.size 3 1 (aH (aC ⟨w.heap.size,0,aB⟩) 0 (xM w (0+n) 0 3)) 0 []:=by rw [Nat.zero_add];have h1:=grownCap_ge w n 0 3;refine⟨by simp,Or.inr ⟨w.heap.size,_,_,rfl,aZ _,cO _ _,bL _,grownCap_le_maxLen w n 0 3 (by simp only [bM];omega), ?_,by simp⟩⟩;simp only [Array.size_append,List.size_toArray,ES,size_zeroCells,Value.cells];simp;omega
theorem aEI(z1 z2:List Int)(A1 A2:Option aj)(c1 c2 g:Nat)(w:aJ)(h1:wx w A1 c1 z1)(h2:wx w A2 c2 z2)(g0:w.cell? ⟨g,0,aB⟩=aC (aH A1 (aA z1) c1))(g1:w.cell? ⟨g,1,aB⟩=aC (aH A2 (aA z2) c2))(hg:g<w.heap.size)(oK:aA z1<=100000)(hl2:aA z2<=100000):
 aQ aM 180 #[aH (aC ⟨g,0,aB⟩) 2 2] w (Yx w (z1++z2)):=by
 have H1:=η h1;have H2:=η h2;clear h1 h2;have G1:=η g1;rcases Nat.eq_zero_or_pos (aA z1+aA z2) with h0|h0
 ·have kB:aA z1=0:=by omega
  have lz:aA z2=0:=by omega
  have e1:z1= []:=nO kB;have e2:z2= []:=nO lz;subst e1 e2;clear h0 kB lz;have wK:=H1;have HZ:Hid (w.heap.size<=w.heap.size):=aZ _;have ew:Hid (w.heap.size<=w.heap.size):=aZ _;have pA:Hid (β w w):=aX _ _;have qT:Hid (w.ownsRow w.heap.size 3 1 (aH aB 0 0) 0 (([]:List Int).map (aG aF))):=⟨by simp,aS ⟨rfl,rfl⟩⟩;simp only [ES] at g0 g1;go_enter aAl,aBY
  go_wp2_with fail
  refine ug 3 ?_;rw [eC];go_wp2_with fail
  rw [eC];go_wp2_with fail
  rw [eC];go_wp2_with fail
  refine(Any8.slices_Grow_room growI aB 0 0 0 _ (by omega) (by omega) (by omega) (by omega)).mono ?_;rintro e w2 ⟨rfl,hw2⟩;obtain rfl:w=w2:=hw2.symm;go_wp2_with fail
  refine ug 3 ?_;rw [eC];go_wp2_with (at_builtin;refine SR rfl _ _ rfl w.heap.size _ 0 [] rfl qT.o A1 c1 [] rfl wK.o (by omega) HZ.o ?_)
  intro v3 w3 iz hg3;have cD:Hid (w3.ownsRow w.heap.size 3 1 v3 (aA ([]:List Int)) ([].map (aG aF))):=by show jw _ _ _ _ _ _ _;simpa using iz
  have af:Hid (β w w3):=(aX _ _).grown hg3 HZ.o (λj hj=>eT qT.o j hj);have mM:Hid (β w w3):=pA.o.trans (af.o.mono ew.o);have q1:w3.cell? ⟨g,1,aB⟩=aC (aH A2 (aA ([]:List Int)) c2):=(mM.o.cell (p:=⟨g,1,aB⟩) hg).trans G1.o;have CF:Hid (wx w3 A2 c2 []):=H2.o.below mM.o;have uu:Hid (w.heap.size<=w3.heap.size):=bz HZ.o af.o.size;clear iz hg3;go_wp2_with fail
  rw [eC];go_wp2_with (at_builtin;refine SR rfl _ _ rfl w.heap.size _ (aA ([]:List Int)) [] rfl cD.o A2 c2 [] rfl CF.o (by omega) uu.o ?_)
  intro v4 w4 gz hg4;have dV:Hid (w4.ownsRow w.heap.size 3 1 v4 (aA (([]:List Int)++ [])) (((([]:List Int)++ [])).map (aG aF))):=by show jw _ _ _ _ _ _ _;rw [cN];first|exact gz|(rw [df];exact gz)
  have ar:Hid (β w w4):=mM.o.trans (((aX _ _).grown hg4 uu.o (λj hj=>eT cD.o j hj)).mono ew.o);clear gz hg4 q1;go_wp2_with fail
  rw [eC];go_wp2_with fail
  go_ret;obtain⟨A4,c4,rfl,j5⟩:=Y2 dV.o rfl;exact⟨A4,c4,rfl,j5,ar.o⟩
 have yb:aF.wrap ((aA z1:Int)+aA z2)=(aA z1:Int)+aA z2:=sR _ (by omega);obtain⟨i0,bu,hz0,hz1,hz2⟩:=dL RF;go_enter aAl,aBY
 go_wp2_with fail
 refine ug 3 ?_;rw [eC];go_wp2_with fail
 rw [eC];go_wp2_with fail
 rw [eC];go_wp2_with fail
 clear yb;rw [show ((aA z1:Int)+(aA z2:Int))=((aA z1+aA z2:Nat):Int) from by omega];refine(Any8.slices_Grow_grow growI i0 (ν 0) bu hz0 (by rw [hz1];decide) aB 0 0 (aA z1+aA z2) [] _ (by omega) (by omega) (by rw [hz2];omega) (by omega) (by simp) (λ_=>rfl) (λa h=>by cases h)).mono ?_;rintro e w2 ⟨rfl,hw2⟩;have qT:Hid (w2.ownsRow w.heap.size 3 1 (aH (aC ⟨w.heap.size,0,aB⟩) 0 (xM w (0+(aA z1+aA z2)) 0 3)) 0 (([]:List Int).map (aG aF))):=by show jw _ _ _ _ _ _ _;rw [hw2];exact aFw w (aA z1+aA z2) (by omega)
 have pA:Hid (β w w2):=by show RowKit.Below _ _ _;rw [hw2];exact(aX _ _).drew.alloc (aZ _) _
 have HZ:Hid (w.heap.size<=w2.heap.size):=pA.o.size;have ew:Hid (w.heap.size<=w.heap.size):=aZ _;have wK:Hid (wx w2 A1 c1 z1):=H1.o.below pA.o;have p0:w2.cell? ⟨g,0,aB⟩=aC (aH A1 (aA z1) c1):=(pA.o.cell (p:=⟨g,0,aB⟩) hg).trans g0;clear hw2 g0 g1;rw [show (growI_ren.t 25)=3 from rfl];generalize xM w (0+(aA z1+aA z2)) 0 3=cap at*;go_wp2_with fail
 refine ug 3 ?_;rw [eC];go_wp2_with (at_builtin;refine SR rfl _ _ rfl w.heap.size _ 0 [] rfl qT.o A1 c1 z1 rfl wK.o (by omega) HZ.o ?_)
 intro v3 w3 iz hg3;have cD:Hid (w3.ownsRow w.heap.size 3 1 v3 (aA z1) (z1.map (aG aF))):=by show jw _ _ _ _ _ _ _;simpa using iz
 have af:Hid (aa w.heap.size w2 w3):=(aX _ _).grown hg3 HZ.o (λj hj=>eT qT.o j hj);have mM:Hid (β w w3):=pA.o.trans (af.o.mono ew.o);have q1:w3.cell? ⟨g,1,aB⟩=aC (aH A2 (aA z2) c2):=(mM.o.cell (p:=⟨g,1,aB⟩) hg).trans G1.o;have CF:Hid (wx w3 A2 c2 z2):=H2.o.below mM.o;have uu:Hid (w.heap.size<=w3.heap.size):=bz HZ.o af.o.size;clear iz hg3;go_wp2_with fail
 rw [eC];go_wp2_with (at_builtin;refine SR rfl _ _ rfl w.heap.size _ (aA z1) z1 rfl cD.o A2 c2 z2 rfl CF.o (by omega) uu.o ?_)
 intro v4 w4 gz hg4;have dV:Hid (w4.ownsRow w.heap.size 3 1 v4 (aA (z1++z2)) ((z1++z2).map (aG aF))):=by show jw _ _ _ _ _ _ _;rw [cN];first|exact gz|(rw [df];exact gz)
 have ar:Hid (β w w4):=mM.o.trans (((aX _ _).grown hg4 uu.o (λj hj=>eT cD.o j hj)).mono ew.o);clear gz hg4 q1;go_wp2_with fail
 rw [eC];go_wp2_with fail
 go_ret;obtain⟨A4,c4,rfl,j5⟩:=Y2 dV.o rfl;exact⟨A4,c4,rfl,j5,ar.o⟩
end
section
structure Ev where
 k:Int
 m:Int
 a:Int
 n:Int
 o:Int
def Ev.cells(x:Ev):List aN:= [aG aF x.k,aG aF x.m,aG aF x.a,aG aF x.n,aG aF x.o]
def uO(l:List Ev):List aN:=l.flatMap Ev.cells
theorem aFJ(l r:List Ev):uO (l++r)=uO l++uO r:=by simp [uO]
theorem a3H(l:List Ev):∀u∈uO l,u.oneCell'=aO:=by intro u hu;obtain⟨x,_,hx⟩:=List.mem_flatMap.1 hu;simp [Ev.cells] at hx;rcases hx with rfl|rfl|rfl|rfl|rfl<;>rfl
theorem a3G(l:List Ev):aA (uO l)=aA l*5:=by
 induction l with
 |nil=>rfl
 |cons x l ih=>simp only [uO,wZ,cN,uF] at*;rw [ih];simp [Ev.cells];omega
structure Dk where
 x:ak
 l:List Int
 h:List Hr
 ob:List Ob
 bx:List Bd
 who:List Int
 ai:Int
 st:Int
 en:Bool
 log:List Ev
structure Dp where
 vb:Nat
 vp:Vp
 sb:Nat
 sv:aN
 xb:Nat
 xc:ak
 xv:aN
 wv:aN
 lv:aN
def VB(p:Dp)(D:Dk):Array aN:= #[aH D.x.Am (aA D.x.ms) D.x.cm,aH D.x.As (aA D.x.ss) D.x.cs,aH D.x.Ac (aA D.x.cy) D.x.cc,aG aF D.x.line,aG aF D.x.bV,aG aF D.x.lead,aG aF D.x.tr,aG aF D.x.bQ,bF (aC ⟨p.vb,0,aB⟩),bF (aC ⟨p.sb,0,aB⟩),bF (aC ⟨p.xb,0,aB⟩),p.wv,aG aF D.ai,aG aF D.st,bJ D.en,p.lv]
structure bW(w:aJ)(db:Nat)(p:Dp)(D:Dk):Prop where
 blk:w.heap[db]? =aC (aK (VB p D) 90 (0,0))
 cf:wJ w 0 D.x
 vt:gU w p.vb p.vp (aA D.x.ms) (aA D.x.ss+1) (aA D.x.ms) D.l D.h
 sh:fN w p.sb 0 p.sv D.ob
 bx:jA w p.xb p.xc p.xv D.bx
 Dy:wJ w 0 p.xc
 same:p.xc.ms=D.x.ms/\p.xc.ss=D.x.ss/\p.xc.cy=D.x.cy/\p.xc.bQ=D.x.bQ
 who:w.ownsRow 0 3 1 p.wv (aA D.who) (D.who.map (aG aF))
 log:w.ownsRow 0 45 5 p.lv (aA D.log) (uO D.log)
def eV(db:Nat)(p:Dp)(k:Nat):Prop:=k=db\/qF p.vb p.vp k\/(k=p.sb\/p.sv.ownBlock=aC k)\/(k=p.xb\/p.xv.ownBlock=aC k)\/p.wv.ownBlock=aC k\/p.lv.ownBlock=aC k
def Ty(w:aJ)(T:List bY)(k:Nat):Prop:=∃cs t,t∈T/\w.heap[k]? =aC (aK cs t (0,0))
theorem Ty.own {w:aJ} {base:Nat} {e:bY} {s n:Nat} {v:aN} {xs:List aN}(h:w.ownsRow base e s v n xs) {k:Nat}(hk:v.ownBlock=aC k):Ty w [e] k:=by
 rcases h.2 with⟨rfl,_⟩|⟨g,cap,cur,rfl,_,hh,_⟩
 ·simp [dy] at hk
 have e':g=k:=by simpa [dy] using hk
 subst e';exact⟨_,_,List.mem_singleton.2 rfl,hh⟩
theorem Ty.mono {w:aJ} {T T':List bY} {k:Nat}(h:Ty w T k)(hs:∀t∈T,t∈T'):Ty w T' k:=by obtain⟨cs,t,ht,hh⟩:=h;exact⟨cs,t,hs t ht,hh⟩
theorem Ty.apart {w:aJ} {T T':List bY} {k:Nat}(h:Ty w T k)(h':Ty w T' k)(hd:∀t∈T,t∉T'):False:=by obtain⟨cs,t,ht,hh⟩:=h;obtain⟨cs',t',AG,Hx⟩:=h';rw [hh] at Hx;injection Hx with e;injection e with _ e2;subst e2;exact hd t ht AG
def TV:List bY:= [141,216,2,218,188]
def TS:List bY:= [146,59]
def TX:List bY:= [134,41]
def TC:List bY:= [67,69,71]
theorem gU.ty {w:aJ} {vb:Nat} {p:Vp} {M A:Nat} {room:Int} {l:List Int} {h:List Hr}(H:gU w vb p M A room l h) {k:Nat}(hk:qF vb p k):Ty w TV k:=by
 rcases hk with rfl|rfl|e|rfl|e
 ·exact⟨_,_,by decide,H.blk⟩
 ·exact⟨_,_,by decide,H.bk.blk⟩
 ·exact(Ty.own H.bk.own e).mono (by decide)
 ·exact⟨_,_,by decide,H.tb.blk⟩
 exact(Ty.own H.tb.own e).mono (by decide)
theorem fN.ty {w:aJ} {bs base:Nat} {v:aN} {L:List Ob}(H:fN w bs base v L) {k:Nat}(hk:k=bs\/v.ownBlock=aC k):Ty w TS k:=by
 rcases hk with rfl|e
 ·exact⟨_,_,by decide,H.s⟩
 exact(Ty.own H.own e).mono (by decide)
theorem jA.ty {w:aJ} {xb:Nat} {x:ak} {v:aN} {L:List Bd}(H:jA w xb x v L) {k:Nat}(hk:k=xb\/v.ownBlock=aC k):Ty w TX k:=by
 rcases hk with rfl|e
 ·exact⟨_,_,by decide,H.blk⟩
 exact(Ty.own H.own e).mono (by decide)
theorem wJ.upd {w w':aJ} {S:Nat->Prop} {b:Nat} {x:ak}(h:wJ w b x)(hu:bC S w w')(hS:∀k,Ty w TC k->¬S k):wJ w' b x:=
 ⟨hu.own h.m (λk hk=>hS k ((Ty.own h.m hk).mono (by decide))),hu.own h.s (λk hk=>hS k ((Ty.own h.s hk).mono (by decide))),hu.own h.c (λk hk=>hS k ((Ty.own h.c hk).mono (by decide)))⟩
theorem fN.upd {w w':aJ} {S:Nat->Prop} {bs base:Nat} {v:aN} {L:List Ob}(H:fN w bs base v L)(hu:bC S w w')(hS:∀k,Ty w TS k->¬S k):fN w' bs base v L:=
 ⟨(hu.keep bs H.lt (hS bs (H.ty (.inl rfl)))).trans H.s,hu.own H.own (λk hk=>hS k (H.ty (.inr hk)))⟩
theorem jA.upd {w w':aJ} {S:Nat->Prop} {xb:Nat} {x:ak} {v:aN} {L:List Bd}(H:jA w xb x v L)(hu:bC S w w')(hS:∀k,Ty w TX k->¬S k):jA w' xb x v L:=
 ⟨(hu.keep xb H.lt (hS xb (H.ty (.inl rfl)))).trans H.blk,hu.own H.own (λk hk=>hS k (H.ty (.inr hk)))⟩
theorem Only.upd {bs:Nat} {v:aN} {w w':aJ}(h:Only bs v w w'):bC (λk=>k=bs\/v.ownBlock=aC k) w w':=
 ⟨h.os,h.tape,h.output,h.size,λk hk hn=>h.block k hk (λe=>hn (.inl e)) (λe=>hn (.inr e.symm))⟩
section
variable {w w':aJ} {db:Nat} {p:Dp} {D:Dk} (H:bW w db p D)
include H
theorem bW.lt:db<w.heap.size:=(fW.1 H.blk).1
theorem bW.ty:Ty w [90] db:=⟨_,_,by decide,H.blk⟩
theorem bW.below(hb:aa w.heap.size w w'):bW w' db p D:=
 ⟨(hb.block _ H.lt).trans H.blk,H.cf.below hb,H.vt.below hb,H.sh.below hb,H.bx.below hb,H.Dy.below hb,H.same,iA H.who hb,iA H.log hb⟩
theorem bW.a8N(hu:bC (qF p.vb p.vp) w w') {SP:Vp} {l':List Int} {h':List Hr}(hv:gU w' p.vb SP (aA D.x.ms) (aA D.x.ss+1) (aA D.x.ms) l' h'):bW w' db {p with vp:=SP} {D with l:=l',h:=h'}:=by
 have no:∀ {T:List bY} {k:Nat},Ty w T k->(∀t∈T,t∉TV)->¬qF p.vb p.vp k:=λhk hd hs=>hk.apart (H.vt.ty hs) hd
 exact⟨(hu.keep db H.lt (no H.ty (by decide))).trans H.blk,H.cf.upd hu (λk hk=>no hk (by decide)),hv,H.sh.upd hu (λk hk=>no hk (by decide)),H.bx.upd hu (λk hk=>no hk (by decide)),H.Dy.upd hu (λk hk=>no hk (by decide)),H.same,hu.own H.who (λk hk=>no (Ty.own H.who hk) (by decide)),hu.own H.log (λk hk=>no (Ty.own H.log hk) (by decide))⟩
theorem bW.aKV(hu:bC (λk=>k=p.sb\/p.sv.ownBlock=aC k) w w') {SD:aN} {cR:List Ob}(hs:fN w' p.sb 0 SD cR):bW w' db {p with sv:=SD} {D with ob:=cR}:=by
 have no:∀ {T:List bY} {k:Nat},Ty w T k->(∀t∈T,t∉TS)->¬(k=p.sb\/p.sv.ownBlock=aC k):=λhk hd hs=>hk.apart (H.sh.ty hs) hd
 exact⟨(hu.keep db H.lt (no H.ty (by decide))).trans H.blk,H.cf.upd hu (λk hk=>no hk (by decide)),H.vt.upd hu (λk hk=>no (H.vt.ty hk) (by decide)),hs,H.bx.upd hu (λk hk=>no hk (by decide)),H.Dy.upd hu (λk hk=>no hk (by decide)),H.same,hu.own H.who (λk hk=>no (Ty.own H.who hk) (by decide)),hu.own H.log (λk hk=>no (Ty.own H.log hk) (by decide))⟩
theorem bW.box(hu:bC (λk=>k=p.xb\/p.xv.ownBlock=aC k) w w') {xv':aN} {M5:List Bd}(hb:jA w' p.xb p.xc xv' M5):bW w' db {p with xv:=xv'} {D with bx:=M5}:=by
 have no:∀ {T:List bY} {k:Nat},Ty w T k->(∀t∈T,t∉TX)->¬(k=p.xb\/p.xv.ownBlock=aC k):=λhk hd hs=>hk.apart (H.bx.ty hs) hd
 exact⟨(hu.keep db H.lt (no H.ty (by decide))).trans H.blk,H.cf.upd hu (λk hk=>no hk (by decide)),H.vt.upd hu (λk hk=>no (H.vt.ty hk) (by decide)),H.sh.upd hu (λk hk=>no hk (by decide)),hb,H.Dy.upd hu (λk hk=>no hk (by decide)),H.same,hu.own H.who (λk hk=>no (Ty.own H.who hk) (by decide)),hu.own H.log (λk hk=>no (Ty.own H.log hk) (by decide))⟩
theorem bW.Pc(i:Nat)(u:aN) {p':Dp} {D':Dk}(hc:(VB p D).setIfInBounds i u=VB p' D')(hx:D'.x=D.x)(hl:D'.l=D.l)(hh:D'.h=D.h)(ho:D'.ob=D.ob)(hb:D'.bx=D.bx)(hp:p'.vb=p.vb/\p'.vp=p.vp/\p'.sb=p.sb/\p'.sv=p.sv/\p'.xb=p.xb/\p'.xc=p.xc/\p'.xv=p.xv)(hw:w.ownsRow 0 3 1 p'.wv (aA D'.who) (D'.who.map (aG aF)))(hg:w.ownsRow 0 45 5 p'.lv (aA D'.log) (uO D'.log)):bW (w.setCell ⟨db,i,aB⟩ u) db p' D':=by
 have hu:=(bC.refl (λk=>k=db) w).setCell (p:=⟨db,i,aB⟩) (.inl rfl) u;have no:∀ {T:List bY} {k:Nat},Ty w T k->(∀t∈T,t∉ [90])->¬k=db:=λhk hd hs=>hk.apart (hs▸H.ty) hd
 obtain⟨h1,h2,h3,h4,h5,h6,h7⟩:=hp;refine⟨?_, ?_, ?_, ?_, ?_, ?_, ?_,hu.own hw (λk hk=>no (Ty.own hw hk) (by decide)),hu.own hg (λk hk=>no (Ty.own hg hk) (by decide))⟩
 ·rw [lf H.blk i u,hc]
 ·rw [hx];exact H.cf.upd hu (λk hk=>no hk (by decide))
 ·rw [h1,h2,hx,hl,hh];exact H.vt.upd hu (λk hk=>no (H.vt.ty hk) (by decide))
 ·rw [h3,h4,ho];exact H.sh.upd hu (λk hk=>no hk (by decide))
 ·rw [h5,h6,h7,hb];exact H.bx.upd hu (λk hk=>no hk (by decide))
 ·rw [h6];exact H.Dy.upd hu (λk hk=>no hk (by decide))
 rw [h6,hx];exact H.same
theorem bW.uW {k:Nat}(hk:eV db p k):k<w.heap.size:=by
 rcases hk with rfl|e|(rfl|e)|(rfl|e)|e|e
 ·exact H.lt
 ·exact H.vt.aCb _ e
 ·exact H.sh.lt
 ·exact(H.sh.own.lt k e).2
 ·exact H.bx.lt
 ·exact(H.bx.own.lt k e).2
 ·exact(H.who.lt k e).2
 exact(H.log.lt k e).2
theorem bW.told(hg:w.grownBy w' p.lv.ownBlock) {yf:aN} {XH:List Ev}(ho:w'.ownsRow 0 45 5 yf (aA XH) (uO XH)):bW (w'.setCell ⟨db,15,aB⟩ yf) db {p with lv:=yf} {D with log:=XH}:=by
 have xP:=gM H.log H.blk (by decide);have hb1:=(hg.block db H.lt (λe=>xP e.symm)).trans H.blk;have hu:bC (λk=>k=db\/p.lv.ownBlock=aC k) w (w'.setCell ⟨db,15,aB⟩ yf):=(bC.IX hg (λk hk=> .inl (.inr hk))).setCell (p:=⟨db,15,aB⟩) (.inl (.inl rfl)) _;have tyS:∀k,(k=db\/p.lv.ownBlock=aC k)->Ty w [90,45] k:=λk hk=>by
  rcases hk with rfl|e
  ·exact H.ty.mono (by decide)
  exact(Ty.own H.log e).mono (by decide)
 have no:∀ {T:List bY} {k:Nat},Ty w T k->(∀t∈T,t∉ [90,45])->¬(k=db\/p.lv.ownBlock=aC k):=λhk hd hs=>hk.apart (tyS _ hs) hd
 exact⟨(lf hb1 15 yf).trans rfl,H.cf.upd hu (λk hk=>no hk (by decide)),H.vt.upd hu (λk hk=>no (H.vt.ty hk) (by decide)),H.sh.upd hu (λk hk=>no hk (by decide)),H.bx.upd hu (λk hk=>no hk (by decide)),H.Dy.upd hu (λk hk=>no hk (by decide)),H.same,hu.own H.who (λk hk=>no (Ty.own H.who hk) (by decide)),kF ho (gM ho hb1 (by decide)) _⟩
end
def aq(db:Nat)(p:Dp)(D':Dk)(w w':aJ):Prop:=
 ∃p',bW w' db p' D'/\p'.vb=p.vb/\p'.sb=p.sb/\p'.xb=p.xb/\p'.xc=p.xc/\bC (eV db p) w w'/\∀k,eV db p' k->eV db p k\/w.heap.size<=k
theorem aq.refl {db:Nat} {p:Dp} {D:Dk} {w:aJ}(H:bW w db p D):aq db p D w w:=⟨p,H,rfl,rfl,rfl,rfl,bC.refl _ _,λ_ h=> .inl h⟩
theorem aq.bZ {db:Nat} {p:Dp} {D:Dk} {w w':aJ}(H:bW w db p D)(hb:aa w.heap.size w w'):aq db p D w w':=⟨p,H.below hb,rfl,rfl,rfl,rfl,bC.bZ _ hb,λ_ h=> .inl h⟩
theorem aq.trans {db:Nat} {p p1:Dp} {D2:Dk} {w w1 w2:aJ}(hu:bC (eV db p) w w1)(hs:∀k,eV db p1 k->eV db p k\/w.heap.size<=k)(hp:p1.vb=p.vb/\p1.sb=p.sb/\p1.xb=p.xb/\p1.xc=p.xc)(h2:aq db p1 D2 w1 w2):aq db p D2 w w2:=by obtain⟨p2,H2,e1,e2,e3,e4,vg,hs2⟩:=h2;exact⟨p2,H2,e1.trans hp.1,e2.trans hp.2.1,e3.trans hp.2.2.1,e4.trans hp.2.2.2,hu.trans vg hs,λk hk=>(hs2 k hk).elim (hs k) (λh=> .inr (bz hu.size h))⟩
theorem aq.below {db:Nat} {p:Dp} {D:Dk} {w w1 w2:aJ}(h:aq db p D w w1)(hb:aa w1.heap.size w1 w2):aq db p D w w2:=by obtain⟨p1,H,e1,e2,e3,e4,hu,hs⟩:=h;exact⟨p1,H.below hb,e1,e2,e3,e4,hu.below hb,hs⟩
end
structure Dw where
 k:Int
 m:Int
 n:Int
deriving DecidableEq
def Dw.cells(x:Dw):List aN:= [aG aF x.k,aG aF x.m,aG aF x.n]
def gS(l:List Dw):List aN:=l.flatMap Dw.cells
theorem Pt {w:aJ} {B:Nat} {A:Option aj} {l:List Dw}(h:aW w B A (gS l)) {k:Nat}(hk:k<aA l):
 ∃b o,A=aC ⟨b,o,aB⟩/\b<B/\w.cell? ⟨b,o+k*3,aB⟩=aC (ν l[k].k)/\w.cell? ⟨b,o+k*3+1,aB⟩=aC (ν l[k].m)/\w.cell? ⟨b,o+k*3+2,aB⟩=aC (ν l[k].n):=by
 obtain⟨b,o,e,hb,hc⟩:=h.run (i:=k*3) (y:=ν l[k].k) (t:= [ν l[k].m,ν l[k].n]) (λj u hu=>uP Dw.cells 3 (λ_=>rfl) l k hk j u hu);exact⟨b,o,e,hb,hc 0 _ rfl,hc 1 _ rfl,hc 2 _ rfl⟩
theorem VG(x:Dw):∀u∈x.cells,u.oneCell'=aO:=by intro u hu;simp [Dw.cells] at hu;rcases hu with rfl|rfl|rfl<;>rfl
theorem a2t(l:List Dw)(x:Dw):gS (l++ [x])=gS l++x.cells:=by simp [gS]
theorem Pu:(aM.info? 196).map (λi=>(i.zero,i.size,i.bytes))=aC (aC (bU #[aG aF 0,aG aF 0,aG aF 0]),3,24):=by kernel_rfl
theorem a2U(zs:List Int)(A:Option aj)(c:Nat)(m:Int)(w:aJ)(h:aW w w.heap.size A (zs.map (aG aF)))(hl:aA zs<=1000000):
 aQ aM 101 #[aH A (aA zs) c,ν m] w λe w'=>e=aT (bJ (zs.contains m))/\w=w':=by
 rcases Nat.eq_zero_or_pos (aA zs) with h0|h0
 ·have hz:=nO h0;subst hz;refine(slices_Contains_int_empty A c m _).mono ?_;rintro e w1 ⟨rfl,hw⟩;exact⟨rfl,hw.symm⟩
 obtain⟨b,o,rfl,hb,_⟩:=tP h h0;refine(slices_Contains_int b o (aA zs) c zs m _ (aZ _) (by omega) (Y1 h)).mono ?_;rintro e w1 ⟨rfl,hw⟩;exact⟨by rw [cT],hw.symm⟩
theorem PT(k m n:Int)(w:aJ):
 aQ aM 222 #[ν k,ν m,ν n] w λe w'=>e=aT (aH (aC ⟨w.heap.size,0,aB⟩) 1 1)/\w.alloc (aK #[ν k,ν m,ν n] 196)=w':=by
 go_enter func222,ntmps222
 go_wp2
 go_ret;exact⟨rfl,rfl⟩
def cX(L:List Dw):Int:=(L.map λx=>max x.n 0).sum
def sJ(L:List Dw):Int:=if cX L<=9223372036854775807 then cX L else 9223372036854775807
theorem a8E {L:List Dw} {k:Nat}(hk:k<aA L):cX (L.take (k+1))=cX (L.take k)+max L[k].n 0:=by unfold cX;rw [fE hk,df,Cm];simp
theorem Ip(L:List Dw):0<=cX L:=by
 unfold cX;induction L with
 |nil=>simp
 |cons x L ih=>simp only [yM,EU];omega
theorem aLM(L:List Dw)(k:Nat):cX (L.take k)<=cX L:=by
 have h:cX L=cX (L.take k)+cX (L.drop k):=by unfold cX;rw [<-Cm,<-df,List.take_append_drop]
 have:=Ip (L.drop k);omega
theorem aLN {L:List Dw} {k:Nat}(hk:k<aA L)(h:9223372036854775807-cX (L.take k)<L[k].n):sJ L=9223372036854775807:=by have h1:=a8E hk;have h2:=aLM L (k+1);unfold sJ;rw [ifN];omega
theorem SM {L:List Dw}(h:cX L<=9223372036854775807):sJ L=cX L:=by unfold sJ;rw [ifP h]
theorem a8F(L:List Dw)(A:Option aj)(c:Nat)(w:aJ)(hs:aW w w.heap.size A (gS L))(hI:∀x∈L,aL x.n)(hl:aA L<=100000):
 aQ aM 186 #[aH A (aA L) c] w λe w'=>e=aT (ν (sJ L))/\β w w':=by
 have HS:=η hs;have HI:=η hI;go_enter func186,ntmps186
 go_wp2
 go_loopw [3,8] (λn i wr=>∃k:Nat,∃s:Int,k<=aA L/\i=ν k/\n=ν s/\Hid (s=cX (L.take k))/\0<=s/\s<=9223372036854775807/\Hid (β w wr)) (λ_ i _=>aA L-(ag i).toNat)
 ·exact⟨0,0,bL _,rfl,rfl,rfl,by omega,by omega,aX _ _⟩
 ·
  obtain⟨k,s,hk,rfl,rfl,HT,h0,h1,HB⟩:=hrel;have hsz:=HB.o.size;by_cases hlt:k<aA L
  ·obtain⟨b,o,rfl,hb,d0,d1,d2⟩:=Pt (HS.o.below HB) hlt;have aR:Hid (∀v,β w (wr.alloc v)):=η λv=>HB.o.alloc hsz v
   have hn:=HI.o _ (cK hlt);unfold aL at hn;have cG:=η (a8E hlt);have J3:Hid (9223372036854775807-s<L[k].n->sJ L=9223372036854775807):=η λh=>aLN hlt (by rw [<-HT.o];exact h)
   generalize L[k].n=x at*;by_cases ki:9223372036854775807-s<x
   ·have HV:=η (J3 ki);go_wp2
    go_ret;exact⟨cW HV.o.symm,aR _⟩
   have bP:=decide_eq_false ki;have EM:Hid (s+max x 0=cX (L.take (k+1))):=η (by rw [cG.o,HT.o]);have yb:=sR _ (by omega);by_cases hx:x<=0
   ·have hm:max x 0=0:=by omega
    rw [hm,Int.add_zero] at EM;go_wp2
    go_roundw
    ·exact⟨k+1,s,by omega,by go_num,rfl,EM,h0,h1,η (aR _)⟩
    simp [ag];omega
   have hm:max x 0=x:=by omega
   rw [hm] at EM;have hw2:=sR _ (by omega);go_wp2
   go_roundw
   ·exact⟨k+1,s+x,by omega,by go_num,rfl,EM,by omega,by omega,η (aR _)⟩
   simp [ag];omega
  obtain rfl:k=aA L:=by omega
  have HV:Hid (s=sJ L):=η (by have:=HT.o;rw [cT] at this;rw [this,SM (by omega)]);go_wp2
  go_ret;exact⟨cW HV,HB⟩
structure DkC(W:aJ)(db:Nat)(p:Dp)(D:Dk):Prop where
 c0:W.cell? ⟨db,0,aB⟩=aC (aH D.x.Am (aA D.x.ms) D.x.cm)
 c1:W.cell? ⟨db,1,aB⟩=aC (aH D.x.As (aA D.x.ss) D.x.cs)
 c2:W.cell? ⟨db,2,aB⟩=aC (aH D.x.Ac (aA D.x.cy) D.x.cc)
 c3:W.cell? ⟨db,3,aB⟩=aC (ν D.x.line)
 c4:W.cell? ⟨db,4,aB⟩=aC (ν D.x.bV)
 c5:W.cell? ⟨db,5,aB⟩=aC (ν D.x.lead)
 c6:W.cell? ⟨db,6,aB⟩=aC (ν D.x.tr)
 c7:W.cell? ⟨db,7,aB⟩=aC (ν D.x.bQ)
 c8:W.cell? ⟨db,8,aB⟩=aC (π p.vb)
 c9:W.cell? ⟨db,9,aB⟩=aC (π p.sb)
 c10:W.cell? ⟨db,10,aB⟩=aC (π p.xb)
 c11:W.cell? ⟨db,11,aB⟩=aC (p.wv)
 c12:W.cell? ⟨db,12,aB⟩=aC (ν D.ai)
 c13:W.cell? ⟨db,13,aB⟩=aC (ν D.st)
 c14:W.cell? ⟨db,14,aB⟩=aC (bJ D.en)
 c15:W.cell? ⟨db,15,aB⟩=aC (p.lv)
theorem bW.cells {w:aJ} {db:Nat} {p:Dp} {D:Dk}(H:bW w db p D):DkC w db p D:=
 ⟨ρ H.blk,ρ H.blk,ρ H.blk,ρ H.blk,ρ H.blk,ρ H.blk,ρ H.blk,ρ H.blk,ρ H.blk,ρ H.blk,ρ H.blk,ρ H.blk,ρ H.blk,ρ H.blk,ρ H.blk,ρ H.blk⟩
theorem zk(db:Nat)(p:Dp)(D:Dk)(k m a:Int)(w:aJ)(H:bW w db p D)(hk:aL k)(hm:aL m):
 aQ aM 46 #[π db,bU #[ν k,ν m],ν a] w λe w'=>e=aT (ν (balA (aA D.x.ms) (aA D.x.ss+1) D.l k m a))/\β w w':=by
 have aY:Hid (β w (w.alloc (aK #[ν k,ν m] 51))):=η σ;have cZ:Hid ((w.alloc (aK #[ν k,ν m] 51)).heap[w.heap.size]? =aC (aK #[ν k,ν m] 51 (0,0))):=η (cO w _);have hz0:w.heap.size<(w.alloc (aK #[ν k,ν m] 51)).heap.size:=by simp
 have LR:=η (λW (hW:β w W)=>(H.below hW).cells.c8);have LW:=η (λW (hW:β w W)=>YU p.vb p.vp (aA D.x.ms) (aA D.x.ss+1) (aA D.x.ms) D.l D.h k m a W (H.below hW).vt hk hm);generalize balA (aA D.x.ms) (aA D.x.ss+1) D.l k m a=bv at*;generalize oN (plcA (aA D.x.ms) (aA D.x.ss+1) k m a)=be at*;go_enter func46,ntmps46
 go_upto_region 1 with (fail)
 generalize w.alloc (aK #[ν k,ν m] 51)=w1 at*;obtain⟨bx,bT⟩:∃bx,bx=w.heap.size:=⟨_,rfl⟩;rw [<-bT] at cZ hz0 ⊢;clear bT;have bO:Hid (∀W,β w1 W->W.cell? ⟨db,8,aB⟩=aC (π p.vb)/\W.cell? ⟨bx,0,aB⟩=aC (ν k)/\W.cell? ⟨bx,1,aB⟩=aC (ν m)):=η (by intro W hW;have hd:=(hW.block bx hz0).trans cZ.o;exact⟨LR.o W (aY.o.trans (hW.mono aY.o.size)),ρ hd,ρ hd⟩);have eW:Hid (∀W,β w1 W->β w W):=η (λW hW=>aY.o.trans (hW.mono aY.o.size));have bP:β w1 w1.drew:=(aX _ _).drew;go_region_held3 (λW=>W.cell? ⟨db,8,aB⟩=aC (π p.vb)/\W.cell? ⟨bx,0,aB⟩=aC (ν k)/\W.cell? ⟨bx,1,aB⟩=aC (ν m)) (first|(with_reducible exact bO.o _ bP)|(with_reducible exact bO.o _ hb2)|(with_reducible exact bO.o _ hb3)) ((go_at_call 41;refine(LW.o _ (eW.o _ bP)).mono ?_;rintro e w2 ⟨rfl,vR⟩;have hb2:β w1 w2:=bP.trans (vR.mono bP.size)))
 have aV:=η (eW.o _ hb2);clear hb2 vR bP bO LR LW eW aY cZ;go_wp2_with fail
 go_ret;exact⟨rfl,aV.o⟩
theorem Js(db:Nat)(p:Dp)(D:Dk)(s:Int)(A:Option aj)(c:Nat)(w:aJ)(H:bW w db p D)(hs:aW w w.heap.size A [aG aF s]):
 aQ aM 51 #[π db,aH A 1 c] w λe w'=>e=aT (ν (if D.st=s then 0 else 11))/\β w w':=by
 have c13:=H.cells.c13;have xy:=η (a2U [s] A c D.st w hs (by simp));generalize D.st=st at*;by_cases h:st=s
 ·have hq:([s]:List Int).contains st=aO:=by simp [h]
  rw [hq] at xy;rw [ifP h];clear h hq;go_enter aB4,aBq
  go_wp2_with (go_at_call 101;refine xy.o.mono ?_;rintro e w2 ⟨rfl,rfl⟩)
  go_ret;exact⟨rfl,aX _ _⟩
 have hq:([s]:List Int).contains st=aP:=by simp [h]
 rw [hq] at xy;rw [ifN h];go_enter aB4,aBq
 go_wp2_with (go_at_call 101;refine xy.o.mono ?_;rintro e w2 ⟨rfl,rfl⟩)
 go_ret;exact⟨rfl,aX _ _⟩
theorem aH9:(aM.info? 45).map (λi=>(i.zero,i.size,i.bytes))=aC (aC (bU #[aG aF 0,aG aF 0,aG aF 0,aG aF 0,aG aF 0]),5,40):=by kernel_rfl
theorem xK(db:Nat)(p:Dp)(D:Dk)(xs:List Ev)(b c:Nat)(w:aJ)(H:bW w db p D)(hb:∀j u,(uO xs)[j]? =aC u->w.cell? ((⟨b,0,aB⟩:aj).add j)=aC u)(hx1:1<=aA xs)(hx:aA xs<=100000)(hl:aA D.log<=1000000):
 aQ aM 55 #[π db,aH (aC ⟨b,0,aB⟩) (aA xs) c] w λe w'=>e=aT (bB #[])/\aq db p {D with log:=D.log++xs} w w':=by
 obtain⟨A,cl,hv⟩:=bK H.log;have d0:=H.cells.c15;have HO:=η H.log;have xP:=H.lt;have HF:=η H;have HN:=η hb;rw [hv] at d0 HO;obtain⟨i0,bu,hz0,fj,xV⟩:=dL aH9;go_enter func55,ntmps55
 go_wp2_with (at_builtin;refine wpList_append_lies _ rfl _ _ 35 rfl 0 45 i0 _ 5 40 underlying35 bu hz0 fj xV rfl (by omega) _ _ _ rfl HO.o ⟨b,0,aB⟩ (aA xs) c (uO xs) rfl (a3G xs) HN.o (a3H xs) (by omega) (by simp only [bM];omega) (by omega) (bL _) w.heap.size rfl ?_)
 intro g cap w2 hown hgr hat _;have hb2:=(hgr.block db xP (λe=>gM HF.o.log HF.o.blk (by decide) (by rw [hv];exact e.symm))).trans HF.o.blk;have f15:w2.frozen? ⟨db,15,aB⟩=aP:=by simp [iJ,hb2]
 have c15:w2.cell? ⟨db,15,aB⟩=aC p.lv:=ρ hb2;have HG:Hid (w.grownBy w2 p.lv.ownBlock):=η (by rw [hv];exact hgr);have dD:Hid (w2.ownsRow 0 45 5 (aH (aC ⟨g,0,aB⟩) (aA D.log+aA xs) cap) (aA (D.log++xs)) (uO (D.log++xs))):=η (by rw [cN,aFJ];exact hown);have O0:Hid (p.lv.ownBlock=aC g\/g=w.heap.size):=η (by rw [hv];exact hat);clear hown hgr hat hb2 HO HN d0;go_wp2
 go_end0
 refine⟨rfl,_,HF.o.told HG.o dD.o,rfl,rfl,rfl,rfl, ?_, ?_⟩
 ·exact(bC.IX HG.o (λk hk=> .inl (.inr (.inr (.inr (.inr (.inr hk))))))).setCell (p:=⟨db,15,aB⟩) (.inl (.inl rfl)) _
 rintro k (e|e|e|e|e|e)
 ·exact .inl (.inl e)
 ·exact .inl (.inr (.inl e))
 ·exact .inl (.inr (.inr (.inl e)))
 ·exact .inl (.inr (.inr (.inr (.inl e))))
 ·exact .inl (.inr (.inr (.inr (.inr (.inl e)))))
 have e2:g=k:=by simpa [dy] using e
 rcases O0.o with h|h
 ·exact .inl (.inr (.inr (.inr (.inr (.inr (by rw [h,e2]))))))
 exact .inr (by omega)
theorem bW.src {w:aJ} {db:Nat} {p:Dp} {D:Dk}(H:bW w db p D):lX w D.x:=H.cf.src.ok
def oQ(D:Dk)(m a:Int):Int:=if jX D.x m≠0 then jX D.x m else if a=0 then 0 else jI D.x a
theorem a2r(db:Nat)(p:Dp)(D:Dk)(m a:Int)(w:aJ)(H:bW w db p D)(hm:aL m)(ha:aL a):
 aQ aM 118 #[π db,ν m,ν a] w λe w'=>e=aT (ν (oQ D m a))/\β w w':=by
 have HM:=η (Pk D.x m w H.src hm);have HS:=η (λW (hW:β w W)=>Nh D.x a W (H.below hW).src ha);have HC:=η (λW (hW:β w W)=>(H.below hW).cells);obtain⟨c0,c1,c2,c3,c4,c5,c6,c7,c8,c9,c10,c11,c12,c13,c14,c15⟩:=H.cells;have hE:oQ D m a=if jX D.x m≠0 then jX D.x m else if a=0 then 0 else jI D.x a:=rfl
 have HE:=η hE;generalize oQ D m a=ee at HE ⊢;unfold ak.val at HM HS;generalize jX D.x m=me at*;generalize uX D.x m=mp at*;generalize jI D.x a=se at*;generalize dY D.x a=sp at*;go_enter func118,ntmps118
 go_upto_region 2 with (go_at_call 147;refine HM.o.mono ?_;rintro e w1 ⟨rfl,hb1⟩;have aR:=η hb1)
 have aV:Hid (β w (w1.alloc (aK #[ν mp.a,ν mp.b] 67))):=η (aR.o.alloc aR.o.size _);generalize w1.alloc (aK #[ν mp.a,ν mp.b] 67)=w2 at*;by_cases h1:me=0
 case neg=>
  have hb:(me==0)=aP:=by simpa using h1
  have HF:Hid (me=ee):=η (by rw [HE.o,ifP h1]);clear HE h1;go_wp2_with fail
  go_ret;exact⟨cW HF.o,aV.o⟩
 subst h1;by_cases h2:a=0
 ·subst h2;have HF:Hid (0=ee):=η (by rw [HE.o,ifN (by simp),ifP rfl]);clear HE;go_wp2_with fail
  go_ret;exact⟨cW HF.o,aV.o⟩
 have HF:Hid (se=ee):=η (by rw [HE.o,ifN (by simp),ifN h2]);have hb2:(a==0)=aP:=by simpa using h2
 obtain⟨c0,c1,c2,c3,c4,c5,c6,c7,c8,c9,c10,c11,c12,c13,c14,c15⟩:=HC.o _ aV.o;clear h2 HC HE c8 c9 c10 c11 c12 c13 c14 c15;go_wp2_with (go_at_call 117;refine(HS.o _ aV.o).mono ?_;rintro e w3 ⟨rfl,hb3⟩;have af:=τ aV hb3;clear hb3)
 go_ret;exact⟨cW HF.o,af.o.alloc af.o.size _⟩
def nk(D:Dk)(m n:Int):Int:=if jX D.x m≠0 then jX D.x m else if hasB D.who m=aO then 14 else if n<1 then 1 else 0
theorem a2m(db:Nat)(p:Dp)(D:Dk)(m n:Int)(w:aJ)(H:bW w db p D)(hm:aL m)(hw:aA D.who<=100000):
 aQ aM 85 #[π db,ν m,ν n] w λe w'=>e=aT (ν (nk D m n))/\β w w':=by
 have HM:=η (Pk D.x m w H.src hm);have HC:=η (λW (hW:β w W)=>(H.below hW).cells.c11);obtain⟨Aw,cw,hv⟩:=bK H.who;have HH:=η (λW (hW:β w W)=>Ma D.who Aw cw m W (by have h1:=(H.below hW).who;rw [hv] at h1;exact aW.cA h1) (by omega));rw [hv] at HC;obtain⟨c0,c1,c2,c3,c4,c5,c6,c7,c8,c9,c10,c11,c12,c13,c14,c15⟩:=H.cells;have hE:nk D m n=if jX D.x m≠0 then jX D.x m else if hasB D.who m=aO then 14 else if n<1 then 1 else 0:=rfl
 have HE:=η hE;generalize nk D m n=ee at HE ⊢;unfold ak.val at HM;generalize jX D.x m=me at*;generalize uX D.x m=mp at*;generalize hasB D.who m=hs at*;go_enter func85,ntmps85
 go_upto_region 4 with (go_at_call 147;refine HM.o.mono ?_;rintro e w1 ⟨rfl,hb1⟩;have aR:=η hb1)
 have aV:Hid (β w (w1.alloc (aK #[ν mp.a,ν mp.b] 67))):=η (aR.o.alloc aR.o.size _);generalize w1.alloc (aK #[ν mp.a,ν mp.b] 67)=w2 at*;by_cases h1:me=0
 case neg=>
  have hb:(me==0)=aP:=by simpa using h1
  have HF:Hid (me=ee):=η (by rw [HE.o,ifP h1]);clear HE h1;go_wp2_with fail
  go_ret;exact⟨cW HF.o,aV.o⟩
 subst h1;have c11:=HC.o _ aV.o;have JD:=η (HH.o _ aV.o);clear HC HH;cases hs with
 |true=>
  have HF:Hid (14=ee):=η (by rw [HE.o,ifN (by simp),ifP rfl]);clear HE;go_wp2_with (go_at_call 89;refine JD.o.mono ?_;rintro e w3 ⟨rfl,rfl⟩)
  go_ret;exact⟨cW HF.o,aV.o⟩
 |false=>
  by_cases h2:n<1
  ·have HF:Hid (1=ee):=η (by rw [HE.o,ifN (by simp),ifN (by simp),ifP h2]);clear HE;go_wp2_with (go_at_call 89;refine JD.o.mono ?_;rintro e w3 ⟨rfl,rfl⟩)
   go_ret;exact⟨cW HF.o,aV.o⟩
  have HF:Hid (0=ee):=η (by rw [HE.o,ifN (by simp),ifN (by simp),ifN h2]);clear HE;go_wp2_with (go_at_call 89;refine JD.o.mono ?_;rintro e w3 ⟨rfl,rfl⟩)
  go_ret;exact⟨cW HF.o,aV.o⟩
theorem aEe(db:Nat)(p:Dp)(D:Dk)(k m a:Int)(w:aJ)(H:bW w db p D)(hk:aL k)(hm:aL m):
 aQ aM 14 #[π db,bU #[ν k,ν m],ν a] w λe w'=>e=aT (bB #[ν (balA (aA D.x.ms) (aA D.x.ss+1) D.l k m a),ν (oN (plcA (aA D.x.ms) (aA D.x.ss+1) k m a))])/\β w w':=by
 have aY:Hid (β w (w.alloc (aK #[ν k,ν m] 51))):=η σ;have cZ:Hid ((w.alloc (aK #[ν k,ν m] 51)).heap[w.heap.size]? =aC (aK #[ν k,ν m] 51 (0,0))):=η (cO w _);have hz0:w.heap.size<(w.alloc (aK #[ν k,ν m] 51)).heap.size:=by simp
 have LR:=η (λW (hW:β w W)=>(H.below hW).cells.c8);have LW:=η (λW (hW:β w W)=>YU p.vb p.vp (aA D.x.ms) (aA D.x.ss+1) (aA D.x.ms) D.l D.h k m a W (H.below hW).vt hk hm);generalize balA (aA D.x.ms) (aA D.x.ss+1) D.l k m a=bv at*;generalize oN (plcA (aA D.x.ms) (aA D.x.ss+1) k m a)=be at*;go_enter func14,ntmps14
 go_upto_region 3 with (fail)
 generalize w.alloc (aK #[ν k,ν m] 51)=w1 at*;obtain⟨bx,bT⟩:∃bx,bx=w.heap.size:=⟨_,rfl⟩;rw [<-bT] at cZ hz0 ⊢;clear bT;have bO:Hid (∀W,β w1 W->W.cell? ⟨db,8,aB⟩=aC (π p.vb)/\W.cell? ⟨bx,0,aB⟩=aC (ν k)/\W.cell? ⟨bx,1,aB⟩=aC (ν m)):=η (by intro W hW;have hd:=(hW.block bx hz0).trans cZ.o;exact⟨LR.o W (aY.o.trans (hW.mono aY.o.size)),ρ hd,ρ hd⟩);have eW:Hid (∀W,β w1 W->β w W):=η (λW hW=>aY.o.trans (hW.mono aY.o.size));have bP:β w1 w1.drew:=(aX _ _).drew;go_region_held3 (λW=>W.cell? ⟨db,8,aB⟩=aC (π p.vb)/\W.cell? ⟨bx,0,aB⟩=aC (ν k)/\W.cell? ⟨bx,1,aB⟩=aC (ν m)) (first|(with_reducible exact bO.o _ bP)|(with_reducible exact bO.o _ hb2)|(with_reducible exact bO.o _ hb3)) ((go_at_call 41;refine(LW.o _ (eW.o _ bP)).mono ?_;rintro e w2 ⟨rfl,vR⟩;have hb2:β w1 w2:=bP.trans (vR.mono bP.size)))
 have aV:=η (eW.o _ hb2);clear hb2 vR bP bO LR LW eW aY cZ;go_wp2_with fail
 go_ret2;exact⟨rfl,aV.o⟩
def Bz(D:Dk)(m:Int):Int:=if plcA (aA D.x.ms) (aA D.x.ss+1) 8 m 0=aB then 0 else gQ (balA (aA D.x.ms) (aA D.x.ss+1) D.l 8 m 0-iL D.h 8 m 0)
theorem aEl(db:Nat)(p:Dp)(D:Dk)(m:Int)(w:aJ)(H:bW w db p D)(hm:aL m)(vW:∀y∈D.l,aL y)(hl:aA D.h<=100000):
 aQ aM 56 #[π db,ν m] w λe w'=>e=aT (ν (Bz D m))/\β w w':=by
 have HU:=η (λW (hW:β w W)=>a8P p.vb p.vp (aA D.x.ms) (aA D.x.ss+1) (aA D.x.ms) D.l D.h 8 m 0 W (H.below hW).vt (by decide) hm vW hl);have Ai:=η (λW=>za m W);have hE:Bz D m=if plcA (aA D.x.ms) (aA D.x.ss+1) 8 m 0=aB then 0 else gQ (balA (aA D.x.ms) (aA D.x.ss+1) D.l 8 m 0-iL D.h 8 m 0):=rfl
 rw [hE];generalize (if plcA (aA D.x.ms) (aA D.x.ss+1) 8 m 0=aB then 0 else gQ (balA (aA D.x.ms) (aA D.x.ss+1) D.l 8 m 0-iL D.h 8 m 0))=uv at*;generalize (if plcA (aA D.x.ms) (aA D.x.ss+1) 8 m 0=aB then 8 else dM (balA (aA D.x.ms) (aA D.x.ss+1) D.l 8 m 0-iL D.h 8 m 0))=ue at*;have xP:=H.lt;have c8:=H.cells.c8;go_enter func56,ntmps56
 go_upto_region 3 with (fail)
 have vS:=λ(n:rB w.heap.size w) (b o:Nat) (hb:b<w.heap.size)=>n.cells b o hb
 refine Nw w.heap.size (by kernel_rfl) (by kernel_rfl) ?_;repeat (go_big_quiet_step (first|(go_at_call 47;(with_reducible exact Calls.Jl (aZ _) (Ai.o _)))|(go_at_call 111;(with_reducible exact Calls.Jl (aZ _) (HU.o _ (rB.h _))))))
 refine wpQuiet_nil ?_;intro _ hw';obtain⟨nq,hw''⟩:=hw';subst hw'';have HN:=η nq.h;generalize nq.wd=w5 at*;go_wp2
 go_ret;exact⟨rfl,HN.o⟩
theorem aEd(db:Nat)(p:Dp)(D:Dk)(w:aJ)(H:bW w db p D)(hl:aA D.ob<=1000000):
 aQ aM 18 #[π db] w (yx w D.ob):=by
 have HT:=η (KV D.ob p.sv p.sb 0 w H.sh hl);have c9:=H.cells.c9;go_enter func18,ntmps18
 go_wp2_with (go_at_call 43;refine HT.o.mono ?_;rintro e w1 ⟨v1,rfl,eB,hb1⟩;have cE:=η eB;have aR:=η hb1)
 go_ret;exact⟨v1,rfl,cE,aR⟩
theorem aEh(db:Nat)(p:Dp)(D:Dk)(w:aJ)(H:bW w db p D)(hl:aA D.who<=100000):
 aQ aM 13 #[π db] w (pY 3 1 (aA D.who) (D.who.map (aG aF)) w):=by
 have HT:=η (aDw (aA D.who) (D.who.map (aG aF)) p.wv 0 w H.who (λu hu=>by obtain⟨x,_,rfl⟩:=dW.1 hu;rfl) hl);have c11:=H.cells.c11;obtain⟨A,c,hv⟩:=bK H.who;rw [hv] at HT c11;go_enter func13,ntmps13
 go_wp2_with (go_at_call 40;refine HT.o.mono ?_;rintro e w1 ⟨v1,rfl,eB,hb1⟩;have cE:=η eB;have aR:=η hb1)
 go_ret;exact⟨v1,rfl,cE,aR⟩
end Go.Proofs.YtdokipdchlcmeaaGreat
