/-
  Several texts in one, for one claim (printed by pack.py).
-/
import Derived.Test.YtdokipdchlcmeaaGreatPh5
set_option linter.all false
set_option maxRecDepth 100000
set_option maxHeartbeats 12800000
open Array renaming getElem?_eq_some_iff→fX
open Bool renaming true→aO,false→aP,eq_iff_iff→Fp
open Go renaming World→aJ,Value→aN,Calls→aQ,Addr→aj,cell_of_row→bH,maxLen→bM,TypeId→bY,heap_alloc_new→cO,info_parts→dJ,Ending→dU,rounds_succ→eB,wpList_append_own→iZ,wp_loop_rounds→um,grownCap→xM,step_append_lies→AY
open Go.Builtin renaming zeroCells→EA
open Go.Ending renaming returned→aT
open Go.Instr renaming mapEntry→GL,entryStore→Ow
open Go.IntKind renaming i64→aF
open Go.IntWalk renaming i64_in→sj
open Go.Lib renaming compact→su
open Go.Obj renaming cells→aK
open Go.Proofs renaming intOf→af
open Go.Proofs.Tryz renaming prog→aM,underlying53→mP,underlying39→tE,underlying46→yN,underlying56→Gj,func192→PF,ntmps192→PI,underlying132→PK,func102→a0V,ntmps102→a0p,underlying159→a1M,func177→aAk,func180→aAl,func191→aAo,func223→aAs,func224→aAt,func51→aB4,func52→aB5,func89→aBE,ntmps177→aBX,ntmps180→aBY,ntmps191→aBb,ntmps223→aBf,ntmps224→aBg,ntmps51→aBq,ntmps52→aBr,ntmps89→aC1,results224→aC5,underlying163→aC8
open Go.RowKit renaming Below→aY
open Go.RowKit.Below renaming refl→aX,heap_setCell→nK
open Go.Value renaming int→aG,slice→aH,tuple→bB,pointer→bF,bool→bJ,agg→bQ,ownBlock→dy
open Go.World renaming ownsRow_nil→fh,cell?_of_block→gu,frozen?→iK,ownsRow→kB,size_alloc→DB
open List renaming length→aA,getElem_mem→cH,length_append→cN,take_length→cT,map_append→dZ,mem_map→df,mem_cons_of_mem→dh,mem_cons→fE,take_succ_eq_append_getElem→fF,mem_append→gL,replicate→gR,length_map→iV,mem_filter→jD,any_eq_true→kA,pairwise_cons→kf,eq_nil_of_length_eq_zero→nO,take_zero→nQ,mem_cons_self→pE,length_filter_le→qg,mem_iff_getElem→tB,length_cons→uL,length_singleton→uM,length_take→vD,mem_append_left→vE,flatMap_cons→wZ,getElem_map→wk,map_cons→yM,any_eq_false→zQ,pairwise_map→BK,sum_append→Ct,length_nil→EY,sum_cons→Ea,contains_iff_mem→U8,getElem_append_left→UC,getElem_append_right→UD
open List.Pairwise renaming imp_of_mem→Oz
open Nat renaming le_refl→aa,zero_le→bK,le_trans→bz,lt_of_lt_of_le→cP,lt_or_ge→rW,lt_trans→Lj,lt_of_succ_lt→a0L
open Option renaming none→aB,some→aC
open Option.some renaming inj→pF
open Or renaming inl→aS,inr→aU
namespace Go.Proofs.YtdokipdchlcmeaaGreat
open Go.Proofs.Tryz Go.RowKit
section
open Go.Maps Go.MapKept Go.ChangeMaps
def Ij(q:Int×Int):List aN:= [aG aF q.1,aG aF q.2]
def AW(l:List (Int×Int)):List aN:=l.flatMap Ij
theorem a6z(l:List (Int×Int))(q:Int×Int):AW (l++ [q])=AW l++Ij q:=by simp [AW]
theorem aKL:(aM.info? 162).map (λi=>(i.zero,i.size,i.bytes))=aC (aC (bQ #[aG aF 0,aG aF 0]),2,16):=by kernel_rfl
theorem a7O:(aM.info? 53).map (λi=>(i.zero,i.size,i.bytes))=aC (aC (aH aB 0 0),1,24):=by kernel_rfl
theorem a7C(q:Int×Int):∀u∈Ij q,u.oneCell'=aO:=by intro u hu;simp [Ij] at hu;rcases hu with rfl|rfl<;>rfl
theorem a7A {w:aJ} {B:Nat} {A:Option aj} {l:List (Int×Int)}(h:aW w B A (AW l)) {k:Nat}(hk:k<aA l):
 ∃b o,A=aC ⟨b,o,aB⟩/\b<B/\w.cell? ⟨b,o+k*2,aB⟩=aC (ν l[k].1)/\w.cell? ⟨b,o+k*2+1,aB⟩=aC (ν l[k].2):=by
 obtain⟨b,o,e,hb,hc⟩:=h.run (i:=k*2) (y:=ν l[k].1) (t:= [ν l[k].2]) (λj u hu=>uV Ij 2 (λ_=>rfl) l k hk j u hu);exact⟨b,o,e,hb,hc 0 _ rfl,hc 1 _ rfl⟩
def k2(g:Nat):aN:=aH (aC ⟨g,0,aB⟩) 2 2
structure zT(B:Nat)(sv kv:aN)(gs:List Nat)(done:List (Int×Int))(W:aJ):Prop where
 s:W.ownsRow B 162 2 sv (aA done) (AW done)
 k:W.ownsRow B 53 1 kv (aA done) (gs.map k2)
 len:aA gs=aA done
 g:∀j (hj:j<aA gs) (hd:j<aA done),W.heap[gs[j]]? =aC (aK #[ν done[j].1,ν done[j].2] 2 (0,0))
theorem zT.below {B:Nat} {sv kv:aN} {gs:List Nat} {done:List (Int×Int)} {W W':aJ}(h:zT B sv kv gs done W)(hb:aY W.heap.size W W'):zT B sv kv gs done W':=
 ⟨gh h.s hb,gh h.k hb,h.len,λj hj hd=>(hb.block _ (fX.1 (h.g j hj hd)).1).trans (h.g j hj hd)⟩
theorem zT.kept {B:Nat} {sv kv:aN} {gs:List Nat} {done:List (Int×Int)} {W W':aJ} {r:Nat}(h:zT B sv kv gs done W)(hg:W.grownBy W' (aC r))(hr:r<B)(hgr:∀g∈gs,g≠r):zT B sv kv gs done W':=by
 have hne:∀ {e s n} {v:aN} {xs:List aN},W.ownsRow B e s v n xs->v.ownBlock=aB\/v.ownBlock≠aC r:=λho=>aU λe=>by have:=eF ho r e;omega
 exact⟨h.s.kept hg (hne h.s),h.k.kept hg (hne h.k),h.len,λj hj hd=>(hg.block _ (fX.1 (h.g j hj hd)).1 (λe=>hgr _ (cH hj) (pF e))).trans (h.g j hj hd)⟩
theorem a4x(gs:List Nat):∀u∈gs.map k2,u.oneCell'=aO:=by intro u hu;obtain⟨g,_,rfl⟩:=df.1 hu;rfl
theorem zT.key {B:Nat} {sv:aN} {A:Option aj} {c:Nat} {gs:List Nat} {done:List (Int×Int)} {W:aJ}(h:zT B sv (aH A (aA done) c) gs done W):Cq W W.heap.size A done:=λj hj=>by
 obtain⟨b,o,e,hb,hc⟩:=(aW.cA h.k).at (k:=j) (by rw [iV,h.len];exact hj);have hg:=h.g j (by rw [h.len];exact hj) hj;have hjg:j<aA gs:=by rw [h.len];exact hj
 rw [wk] at hc;exact⟨b,o,gs[j],2,e,hb,hc,(fX.1 hg).1,ρ hg,ρ hg⟩
structure U3(m:List ((Int×Int)×aN))(l:List (Int×Int)):Prop where
 wD:l.Pairwise (λa b=>pQ a<pQ b)
 mem:∀q,q∈l↔∃v,(q,v)∈m
def Yz(m:List ((Int×Int)×aN))(w:aJ)(e:dU)(w':aJ):Prop:=
 ∃v l,e=aT v/\U3 m l/\aA l<=aA m/\w'.ownsRow w.heap.size 162 2 v (aA l) (AW l)/\β w w'
theorem a5F {p q:Int×Int}(hp:aL p.2)(hq:aL q.2)(h:pQ p=pQ q):p=q:=by
 obtain⟨a,b⟩:=p;obtain⟨c,d⟩:=q;unfold aL at hp hq;simp only [pQ] at h hp hq;have h1:a=c:=by omega
 have h2:b=d:=by omega
 rw [h1,h2]
theorem aHJ {m:List ((Int×Int)×aN)} {done:List (Int×Int)} {is:List Nat}(hI:∀p∈done,aL p.2)(hn:done.Nodup)(ho:Jb done is)(Wu:∀q∈done,∃v,(q,v)∈m)(hall:∀p∈m,p.1∈done):U3 m (is.map λi=>done.getD i (0,0)):=by
 have hgd:∀i,i<aA done->done.getD i (0,0)∈done:=λi hi=>by
  have:done.getD i (0,0)=done[i]:=by simp [List.getD,hi]
  rw [this];exact cH hi
 refine⟨?_,λq=>⟨λhq=> ?_,λ⟨v,hv⟩=> ?_⟩⟩
 ·rw [BK];refine Oz ?_ ho.wD;intro a b ha hb h;have la:=ho.lt a ha;have lb:=ho.lt b hb;rcases h with h|⟨h,h2⟩
  ·exact h
  exfalso;unfold NJ at h;simp only [Int.toNat_natCast] at h;have e:=a5F (hI _ (hgd a la)) (hI _ (hgd b lb)) h;have e1:done.getD a (0,0)=done[a]:=by simp [List.getD,la]
  have e2:done.getD b (0,0)=done[b]:=by simp [List.getD,lb]
  rw [e1,e2] at e;have:=(List.getElem_inj (xs:=done) (h₀:=la) (h₁:=lb) hn).1 e;omega
 ·obtain⟨i,hi,rfl⟩:=df.1 hq;exact Wu _ (hgd i (ho.lt i hi))
 obtain⟨j,hj,e⟩:=tB.1 (hall _ hv);refine df.2 ⟨j,ho.all j hj, ?_⟩;simp only at e;rw [<-e];simp [List.getD,hj]
theorem aIO(b:Nat)(m:List ((Int×Int)×aN))(w:aJ)(hm:eX aM 162 xL w b m)(hst:∃es clock,w.heap[b]? =aC (.map es clock)/\Stamped es clock)(hd:∀p∈m,J2 p.1)(hl:aA m<=100000):
 aQ aM 103 #[.map (aC b)] w (Yz m w):=by
 have HM:=η hm;have HST:=η hst;have HD:=η hd;obtain⟨i1,qL,R6,R7,R8⟩:=dJ aKL;obtain⟨i2,qM,X3,X4,X5⟩:=dJ a7O;clear hm hst hd;go_enter func103,ntmps103
 go_wp2_with (at_range;refine aLv _ rfl _ _ rfl a1M rfl HM.o HST.o ?_;intro w1 hit hb1 hz1)
 have B9:=η hit;have aR:=η hb1;have FC:w.heap.size<w1.heap.size:=by omega
 have kP:Hid (zT w1.heap.size (aH aB 0 0) (aH aB 0 0) [] [] w1):=η ⟨fh _ _ _ _,fh _ _ _ _,rfl,λj hj=>by simp at hj⟩;have ZL:Hid (∀g∈([]:List Nat),w1.heap.size<=g):=η (by simp);clear hit hb1 hz1;go_wp2_with fail
 go_frame
 go_loopw [3,4,5] (λsv kv _ wr=>∃(done:List (Int×Int)) (gs:List Nat),Hid (qc aM 162 xL wr b w.heap.size m done)/\Hid (zT w1.heap.size sv kv gs done wr)/\Hid (∀g∈gs,w1.heap.size<=g)/\Hid (β w wr/\w1.heap.size<=wr.heap.size)) (λ_ _ _ wr=>aA m-seenAt wr w.heap.size)
 case atStart=>exact⟨[],[],B9,kP,ZL,aR.o,aa _⟩
 case round=>
  clear B9 kP ZL;obtain⟨done,gs,B9,kP,OB,HB⟩:=hrel;obtain⟨As,cs,N2⟩:=bL kP.o.s;obtain⟨Ak,ck,WR⟩:=bL kP.o.k;subst N2 WR;have Hv:=B9.o.count;have xP:aA done<=100000:=by omega
  go_wp2_with (at_next;refine aLu _ a3C rfl _ rfl rfl B9.o ?_ ?_)
  ·intro a3v;have EB:Hid (∀p∈m,p.1∈done):=η (λp hp=>a3v p.1.1 p.1.2 p.2 hp);clear a3v;have Zj:=η B9.o.once;have fL:=η B9.o.sub;have TH:Hid (∀p∈done,aL p.2):=η (λp hp=>by obtain⟨v,hv⟩:=fL.o p hp;exact(HD.o _ hv).2);have wX:=η (a6E done Ak ck wr (by omega) TH.o kP.o.key);clear B9 OB;go_wp2_with (go_at_call 162;refine wX.o.mono ?_;unfold Sl;rintro e w2 ⟨bw,is,rfl,eU,hb2,hc2,hz2,Hu⟩;have HIS:=η eU;have kN:=η hc2;have aV:Hid (β wr w2):=η Hu;have Cb:=η (kP.o.below Hu);have QP:bw<w2.heap.size:=hz2;clear eU hb2 hc2 hz2 Hu wX)
   have I5:aA is=aA done:=HIS.o.len;have Cm:=η (aHJ TH.o Zj.o HIS.o fL.o EB.o);obtain⟨ls,AD⟩:∃ls:List (Int×Int),ls=is.map λi=>done.getD i (0,0):=⟨_,rfl⟩
   rw [<-AD] at Cm;have Fy:=η AD;have mH:Hid (aA ls=aA done):=η (by rw [AD,iV];exact I5);have uG:=η I5;have uC:Hid (β w w2):=η (HB.o.1.trans (aV.o.mono HB.o.1.size));clear AD I5 fL TH Zj kP HB aV EB;have LL:Hid (w2.ownsRow w2.heap.size 162 2 (aH aB 0 0) 0 (AW (ls.take 0))):=η (by rw [nQ];exact fh _ _ _ _);have sV:Hid (β w2 w2):=η (aX _ _);go_loopw [6,8,30] (λv _ i wr=>∃k:Nat,k<=aA done/\i=ν (k:Int)/\Hid (β w2 wr)/\Hid (wr.ownsRow w2.heap.size 162 2 v k (AW (ls.take k)))) (λ_ _ i _=>aA done-(af i).toNat)
   case atStart=>exact⟨0,bK _,rfl,sV,LL⟩
   case round=>
    clear sV LL;obtain⟨k,hk,rfl,HB,HO⟩:=hrel;obtain⟨Ax,cx,pL⟩:=bL HO.o;subst pL;by_cases hlt:k<aA done
    ·have zy:k<aA is:=by rw [uG.o];exact hlt
     have c0:=(HB.o.cell (p:=⟨bw,k,aB⟩) QP).trans (kN.o k zy);have nY:=HIS.o.lt _ (cH zy);obtain⟨be,oe,hA,km,e0,e1⟩:=a7A (((aW.cA Cb.o.s).below HB.o).mono HB.o.size) nY;have lU:Hid (ls.take (k+1)=ls.take k++ [done[is[k]]]):=η (by rw [fF (by rw [mH.o];exact hlt)];congr 2;simp [Fy.o,List.getD,nY]);have bu:(0:Int)<=((is[k]:Nat):Int):=by omega
     have hib:((is[k]:Nat):Int)<(aA done:Int):=by omega
     have eY:(0:Int)<=(k:Int):=by omega
     have hkb:(k:Int)<(aA done:Int):=by omega
     subst hA;generalize done[is[k]]=q at*;generalize is[k]=ix at*;obtain⟨q1,q2⟩:=q;simp only at e0 e1;have ag:Hid (β w2 (wr.alloc (aK #[ν q1,ν q2] 162))):=η (HB.o.alloc HB.o.size _);have cD:=η (HO.o.alloc (aK #[ν q1,ν q2] 162));have hzz:w2.heap.size<=wr.heap.size:=HB.o.size;go_wp2_with (at_builtin;refine wpList_append_lies _ rfl _ _ 163 rfl w2.heap.size 162 i1 _ 2 16 aC8 qL R6 R7 R8 rfl (by omega) _ _ _ rfl cD.o ⟨wr.heap.size,0,aB⟩ 1 1 (Ij (q1,q2)) rfl rfl (dK _ _ #[_,_] rfl) (a7C _) (by omega) (by simp only [bM];omega) (by omega) (by simp;omega) (wr.heap.size+1) (by simp) ?_)
     intro g4 M8 w4 pN iQ _ _;have ar:Hid (β w2 w4):=η (ag.o.grown iQ (by simp;omega) (λj hj=>eF cD.o j hj));have dP:Hid (w4.ownsRow w2.heap.size 162 2 (aH (aC ⟨g4,0,aB⟩) (k+1) M8) (k+1) (AW (ls.take (k+1)))):=η (by rw [lU.o,a6z];exact pN);clear pN iQ ag cD HO HB;go_wp2_with fail
     go_roundw
     case rel=>exact⟨k+1,by omega,by go_num,ar,dP⟩
     case measure=>simp [af];omega
    obtain rfl:k=aA done:=by omega
    have ez:Hid (wr.ownsRow w.heap.size 162 2 (aH Ax (aA done) cx) (aA ls) (AW ls)):=η (by have h2:=HO.o;rw [List.take_of_length_le (by rw [mH.o];exact aa _)] at h2;rw [mH.o];exact iC h2 uC.o.size);go_wp2_with fail
    go_ret;exact⟨_,ls,rfl,Cm.o,by rw [mH.o];exact Hv,ez.o,uC.o.trans (HB.o.mono uC.o.size)⟩
  intro q1 q2 v w2 hq vg hit hgr hsz hen;have e1:xL (q1,q2)=bQ #[ν q1,ν q2]:=rfl;rw [e1] at hen ⊢;have Wy:w1.heap.size<=w2.heap.size:=by have:=HB.o.2;omega
  have Cb:=η (kP.o.kept hgr FC (λg hg=>by have:=OB.o g hg;omega));have ZV:=η hit;have aV:Hid (β w w2):=η (HB.o.1.grown hgr HB.o.1.size (λk hk=>by cases hk;exact aa _));have aGs:=B9.o.seen;clear B9 kP HB hit hgr hsz hq vg;have lL:=η (((aX w2.heap.size w2).alloc (aa _) (aK #[ν q1,ν q2] 162)).alloc (by simp) (aK #[ν q1,ν q2] 162));have oq:=η (Cb.o.below lL.o);have cY:Hid (((w2.alloc (aK #[ν q1,ν q2] 162)).alloc (aK #[ν q1,ν q2] 162)).heap[w2.heap.size]? =aC (aK #[ν q1,ν q2] 162 (0,0))):=η ((fG _ _ (by simp)).trans (cO w2 _));have rS:Hid (∀k,(aH As (aA done) cs).ownBlock=aC k->w1.heap.size<=k/\k<w2.heap.size):=η (λk hk=>Cb.o.s.lt k hk);have GH:Hid (∀k,(aH Ak (aA done) ck).ownBlock=aC k->w1.heap.size<=k/\k<w2.heap.size):=η (λk hk=>Cb.o.k.lt k hk);have HLEN:=η Cb.o.len;go_wp2_with (at_builtin;refine wpList_append_lies _ rfl _ _ 163 rfl w1.heap.size 162 i1 _ 2 16 aC8 qL R6 R7 R8 rfl (by omega) _ _ _ rfl oq.o.s ⟨w2.heap.size+1,0,aB⟩ 1 1 (Ij (q1,q2)) rfl rfl (dK _ _ #[_,_] (by simp)) (a7C _) (by omega) (by simp only [bM];omega) (by omega) (by simp;omega) (w2.heap.size+1+1) (by simp) ?_)
  intro g3 tG w3 mS gN F2 _;have hz3:w2.heap.size+1<w3.heap.size:=by have:=gN.size;simp at this;omega
  have ag:Hid (aY w1.heap.size w2 w3):=η ((lL.o.mono Wy).grown gN (by simp;omega) (λj hj=>(rS.o j hj).1));have hx3:=(gN.block w2.heap.size (by simp;omega) (λe=>by have:=(rS.o _ e.symm).2;omega)).trans cY.o;have y0:w3.cell? ⟨w2.heap.size,0,aB⟩=aC (ν q1):=ρ hx3;have y1:w3.cell? ⟨w2.heap.size,1,aB⟩=aC (ν q2):=ρ hx3;have od:Hid (w3.ownsRow w1.heap.size 53 1 (aH Ak (aA done) ck) (aA done) (gs.map k2)):=η (oq.o.k.kept gN (Bv oq.o.k oq.o.s (by decide)));have L4:Hid (∀j (hj:j<aA gs) (hd:j<aA done),w3.heap[gs[j]]? =aC (aK #[ν done[j].1,ν done[j].2] 2 (0,0))):=η (λj hj hd=>(gN.block _ (fX.1 (oq.o.g j hj hd)).1 (λe=>gP oq.o.s (oq.o.g j hj hd) (by decide) e.symm)).trans (oq.o.g j hj hd));have sY:Hid (w3.ownsRow w1.heap.size 162 2 (aH (aC ⟨g3,0,aB⟩) (aA done+1) tG) (aA done+1) (AW (done++ [(q1,q2)]))):=η (by rw [a6z];exact mS);clear mS gN F2 hx3 oq Cb lL cY;have rG:=η (((aX w3.heap.size w3).alloc (aa _) (aK #[ν q1,ν q2] 2)).alloc (by simp) (aK #[k2 w3.heap.size] 53));have yD:=η (gh od.o rG.o);have jS:=η (gh sY.o rG.o);have gK:Hid (∀j u,([k2 w3.heap.size]:List aN)[j]? =aC u->((w3.alloc (aK #[ν q1,ν q2] 2)).alloc (aK #[k2 w3.heap.size] 53)).cell? ((⟨w3.heap.size+1,0,aB⟩:aj).add j)=aC u):=η (dK _ _ #[_] (by simp));have EG:Hid (((w3.alloc (aK #[ν q1,ν q2] 2)).alloc (aK #[k2 w3.heap.size] 53)).heap[w3.heap.size]? =aC (aK #[ν q1,ν q2] 2 (0,0))):=η ((fG _ _ (by simp)).trans (cO w3 _));go_wp2_with (at_builtin;refine wpList_append_lies _ rfl _ _ 235 rfl w1.heap.size 53 i2 _ 1 24 underlying235 qM X3 X4 X5 rfl (by omega) _ _ _ rfl yD.o ⟨w3.heap.size+1,0,aB⟩ 1 1 [k2 w3.heap.size] rfl rfl gK.o (a4x [w3.heap.size]) (by omega) (by simp only [bM];omega) (by omega) (by simp;omega) (w3.heap.size+1+1) (by simp) ?_)
  intro g5 M9 w5 FH tS Vk _;have NB:w3.heap.size+1<w5.heap.size:=by have:=tS.size;simp at this;omega
  have cV:Hid (aY w1.heap.size w2 w5):=η ((ag.o.trans (rG.o.mono (by omega))).grown tS (by simp;omega) (λj hj=>(GH.o j hj).1));have nC:w5.heap[w3.heap.size]? =aC (aK #[ν q1,ν q2] 2 (0,0)):=(tS.block _ (by simp;omega) (λe=>by have:=(GH.o _ e.symm).2;omega)).trans EG.o;have Tb:Hid (zT w1.heap.size (aH (aC ⟨g3,0,aB⟩) (aA done+1) tG) (aH (aC ⟨g5,0,aB⟩) (aA done+1) M9) (gs++ [w3.heap.size]) (done++ [(q1,q2)]) w5):=η (by
   have Df:=HLEN.o;refine⟨?_, ?_,by simp [Df],λj hj hd=> ?_⟩
   ·rw [cN];exact jS.o.kept tS (Bv jS.o yD.o (by decide))
   ·rw [cN,dZ];exact FH
   rcases rW j (aA gs) with h|h
   ·rw [UC h,UC (by omega)];have h6:=L4.o j h (by omega);have WW:=(fX.1 h6).1;have h7:=(rG.o.block _ WW).trans h6;exact(tS.block _ (by simp;omega) (λe=>gP yD.o h7 (by decide) e.symm)).trans h7
   have e:j=aA gs:=by simp at hj;omega
   subst e;rw [UD (aa _),UD (by omega)];simp [Df];exact nC)
  have a9G:Hid (∀g∈gs++ [w3.heap.size],w1.heap.size<=g):=η (λg hg=>by
   rcases gL.1 hg with h|h
   ·exact OB.o g h
   simp at h;omega)
  have TM:Hid (qc aM 162 xL w5 b w.heap.size m (done++ [(q1,q2)])):=η (ZV.o.aIc (cV.o.block b (by have:=HM.o.lt;omega)) (cV.o.block _ FC));have wN:Hid (β w w5/\w1.heap.size<=w5.heap.size):=η ⟨aV.o.trans (cV.o.mono (by omega)),by omega⟩;have a4U:=TM.o.seen;have aGG:=TM.o.count;rw [cN,uM] at a4U aGG;clear FH tS Vk nC cV ag aV ZV sY jS od yD gK EG rG L4 OB rS GH;go_wp2_with fail
  go_roundw
  case rel=>exact⟨_,_,TM,Tb,a9G,wN⟩
  case measure=>rw [a4U,aGs];omega
end
section
open Go.Maps Go.MapKept Go.ChangeMaps
def mX(x:ak)(y:Lg):Int:=if jb x y.m≠0 then jb x y.m else if y.a=0 then 0 else jL x y.a
theorem aHu(x:ak)(i:Int):jb x i=0\/jb x i=9:=by unfold jb;split<;>simp
theorem aIA(x:ak)(y:Lg)(w:aJ)(h:lf w x)(hm:aL y.m)(ha:aL y.a):
 aQ aM 102 #[x.val,y.val] w λe w'=>e=aT (ν (mX x y))/\β w w':=by
 obtain⟨ym,ya,yn⟩:=y;simp only at hm ha;have aV:Hid (β w ((w.alloc (aK #[aH x.Am (aA x.ms) x.cm,aH x.As (aA x.ss) x.cs,aH x.Ac (aA x.cy) x.cc,ν x.line,ν x.bV,ν x.lead,ν x.tr,ν x.bT] 26)).alloc (aK #[ν ym,ν ya,ν yn] 76))):=η (σ.alloc (by simp) _);have cY:Hid (((w.alloc (aK #[aH x.Am (aA x.ms) x.cm,aH x.As (aA x.ss) x.cs,aH x.Ac (aA x.cy) x.cc,ν x.line,ν x.bV,ν x.lead,ν x.tr,ν x.bT] 26)).alloc (aK #[ν ym,ν ya,ν yn] 76)).heap[w.heap.size]? =aC (aK x.vals 26 (0,0))):=η ((fG _ _ (by simp)).trans (cO w _));have wY:Hid (((w.alloc (aK #[aH x.Am (aA x.ms) x.cm,aH x.As (aA x.ss) x.cs,aH x.Ac (aA x.cy) x.cc,ν x.line,ν x.bV,ν x.lead,ν x.tr,ν x.bT] 26)).alloc (aK #[ν ym,ν ya,ν yn] 76)).heap[w.heap.size+1]? =aC (aK #[ν ym,ν ya,ν yn] 76 (0,0))):=η (by have h1:=cO (w.alloc (aK #[aH x.Am (aA x.ms) x.cm,aH x.As (aA x.ss) x.cs,aH x.Ac (aA x.cy) x.cc,ν x.line,ν x.bV,ν x.lead,ν x.tr,ν x.bT] 26)) (aK #[ν ym,ν ya,ν yn] 76);rw [DB] at h1;exact h1);have hz2:w.heap.size+1<((w.alloc (aK #[aH x.Am (aA x.ms) x.cm,aH x.As (aA x.ss) x.cs,aH x.Ac (aA x.cy) x.cc,ν x.line,ν x.bV,ν x.lead,ν x.tr,ν x.bT] 26)).alloc (aK #[ν ym,ν ya,ν yn] 76)).heap.size:=by simp
 have zG:=η (λW (hW:β w W)=>Po x ym W (h.below hW) hm);have pA:=η (λW (hW:β w W)=>Nj x ya W (h.below hW) ha);have JO:Hid (mX x ⟨ym,ya,yn⟩=if jb x ym≠0 then jb x ym else if ya=0 then 0 else jL x ya):=η rfl;unfold ak.val at zG pA;unfold ak.vals at cY;unfold ak.val Lg.val;clear h hm ha;simp only;rcases aHu x ym with h0|h0
 ·rw [h0] at zG;by_cases ha0:ya=0
  ·subst ha0;have HR:Hid (mX x ⟨ym,0,yn⟩=0):=η (by rw [JO.o,ifN (by rw [h0];simp),ifP rfl]);clear h0 pA JO;go_enter a0V,a0p
   go_upto_region 1 with fail
   generalize ((w.alloc (aK #[aH x.Am (aA x.ms) x.cm,aH x.As (aA x.ss) x.cs,aH x.Ac (aA x.cy) x.cc,ν x.line,ν x.bV,ν x.lead,ν x.tr,ν x.bT] 26)).alloc (aK #[ν ym,ν 0,ν yn] 76))=w2 at*;have iU:Hid (∀W,β w2 W->W.heap[w.heap.size]? =aC (aK #[aH x.Am (aA x.ms) x.cm,aH x.As (aA x.ss) x.cs,aH x.Ac (aA x.cy) x.cc,ν x.line,ν x.bV,ν x.lead,ν x.tr,ν x.bT] 26 (0,0))/\W.heap[w.heap.size+1]? =aC (aK #[ν ym,ν 0,ν yn] 76 (0,0))):=η (λW hW=>⟨(hW.block _ (by omega)).trans cY.o,(hW.block _ hz2).trans wY.o⟩);obtain⟨bx,bU⟩:∃bx,bx=w.heap.size:=⟨_,rfl⟩;rw [<-bU] at iU ⊢;clear bU;obtain⟨hx2,nE⟩:=iU.o _ (aX _ _);have c0:=bH _ bx 0 _ _ (0,0) hx2;have c1:=bH _ bx 1 _ _ (0,0) hx2;have c2:=bH _ bx 2 _ _ (0,0) hx2;have c3:=bH _ bx 3 _ _ (0,0) hx2;have c4:=bH _ bx 4 _ _ (0,0) hx2;have c5:=bH _ bx 5 _ _ (0,0) hx2;have c6:=bH _ bx 6 _ _ (0,0) hx2;have c7:=bH _ bx 7 _ _ (0,0) hx2;have y0:=bH _ (bx+1) 0 _ _ (0,0) nE;have y1:=bH _ (bx+1) 1 _ _ (0,0) nE;clear hx2 nE;go_wp2_with (go_at_call 147;refine(zG.o _ aV.o).mono ?_;rintro e w3 ⟨rfl,hb3⟩;have ag:Hid (β w w3):=τ aV hb3;have ar:Hid (β w (w3.alloc (aK #[ν (ud x ym).a,ν (ud x ym).b] 67))):=η (ag.o.alloc ag.o.size _);obtain⟨hx3,vq⟩:=iU.o _ hb3;clear c0 c1 c2 c3 c4 c5 c6 c7 y0 y1;have c0:=bH _ bx 0 _ _ (0,0) hx3;have c1:=bH _ bx 1 _ _ (0,0) hx3;have c2:=bH _ bx 2 _ _ (0,0) hx3;have c3:=bH _ bx 3 _ _ (0,0) hx3;have c4:=bH _ bx 4 _ _ (0,0) hx3;have c5:=bH _ bx 5 _ _ (0,0) hx3;have c6:=bH _ bx 6 _ _ (0,0) hx3;have c7:=bH _ bx 7 _ _ (0,0) hx3;have y1:=bH _ (bx+1) 1 _ _ (0,0) vq;have iB:bx+1<w3.heap.size:=(fX.1 vq).1;have a4C:bx<w3.heap.size:=a0L iB;clear hx3 vq hb3)
   go_ret;exact⟨by rw [HR.o];rfl,ar.o⟩
  have HR:Hid (mX x ⟨ym,ya,yn⟩=jL x ya):=η (by rw [JO.o,ifN (by rw [h0];simp),ifN ha0]);have aMX:(ya==0)=aP:=by simpa using ha0
  clear h0 ha0 JO;go_enter a0V,a0p
  go_upto_region 1 with fail
  generalize ((w.alloc (aK #[aH x.Am (aA x.ms) x.cm,aH x.As (aA x.ss) x.cs,aH x.Ac (aA x.cy) x.cc,ν x.line,ν x.bV,ν x.lead,ν x.tr,ν x.bT] 26)).alloc (aK #[ν ym,ν ya,ν yn] 76))=w2 at*;have iU:Hid (∀W,β w2 W->W.heap[w.heap.size]? =aC (aK #[aH x.Am (aA x.ms) x.cm,aH x.As (aA x.ss) x.cs,aH x.Ac (aA x.cy) x.cc,ν x.line,ν x.bV,ν x.lead,ν x.tr,ν x.bT] 26 (0,0))/\W.heap[w.heap.size+1]? =aC (aK #[ν ym,ν ya,ν yn] 76 (0,0))):=η (λW hW=>⟨(hW.block _ (by omega)).trans cY.o,(hW.block _ hz2).trans wY.o⟩);obtain⟨bx,bU⟩:∃bx,bx=w.heap.size:=⟨_,rfl⟩;rw [<-bU] at iU ⊢;clear bU;obtain⟨hx2,nE⟩:=iU.o _ (aX _ _);have c0:=bH _ bx 0 _ _ (0,0) hx2;have c1:=bH _ bx 1 _ _ (0,0) hx2;have c2:=bH _ bx 2 _ _ (0,0) hx2;have c3:=bH _ bx 3 _ _ (0,0) hx2;have c4:=bH _ bx 4 _ _ (0,0) hx2;have c5:=bH _ bx 5 _ _ (0,0) hx2;have c6:=bH _ bx 6 _ _ (0,0) hx2;have c7:=bH _ bx 7 _ _ (0,0) hx2;have y0:=bH _ (bx+1) 0 _ _ (0,0) nE;have y1:=bH _ (bx+1) 1 _ _ (0,0) nE;clear hx2 nE;go_wp2_with (first|(go_at_call 147;refine(zG.o _ aV.o).mono ?_;rintro e w3 ⟨rfl,hb3⟩;have ag:Hid (β w w3):=τ aV hb3;have ar:Hid (β w (w3.alloc (aK #[ν (ud x ym).a,ν (ud x ym).b] 67))):=η (ag.o.alloc ag.o.size _);obtain⟨hx3,vq⟩:=iU.o _ hb3;clear c0 c1 c2 c3 c4 c5 c6 c7 y0 y1;have c0:=bH _ bx 0 _ _ (0,0) hx3;have c1:=bH _ bx 1 _ _ (0,0) hx3;have c2:=bH _ bx 2 _ _ (0,0) hx3;have c3:=bH _ bx 3 _ _ (0,0) hx3;have c4:=bH _ bx 4 _ _ (0,0) hx3;have c5:=bH _ bx 5 _ _ (0,0) hx3;have c6:=bH _ bx 6 _ _ (0,0) hx3;have c7:=bH _ bx 7 _ _ (0,0) hx3;have y1:=bH _ (bx+1) 1 _ _ (0,0) vq;have iB:bx+1<w3.heap.size:=(fX.1 vq).1;have a4C:bx<w3.heap.size:=a0L iB;clear hx3 vq hb3)|(go_at_call 117;refine(pA.o _ ar.o).mono ?_;rintro e w5 ⟨rfl,cd⟩;have cV:Hid (β w w5):=τ ar cd;clear cd))
  go_ret;exact⟨by rw [HR.o];rfl,cV.o.alloc cV.o.size _⟩
 rw [h0] at zG;have HR:Hid (mX x ⟨ym,ya,yn⟩=9):=η (by rw [JO.o,ifP (by rw [h0];simp),h0]);clear h0 pA JO;go_enter a0V,a0p
 go_upto_region 1 with fail
 generalize ((w.alloc (aK #[aH x.Am (aA x.ms) x.cm,aH x.As (aA x.ss) x.cs,aH x.Ac (aA x.cy) x.cc,ν x.line,ν x.bV,ν x.lead,ν x.tr,ν x.bT] 26)).alloc (aK #[ν ym,ν ya,ν yn] 76))=w2 at*;have iU:Hid (∀W,β w2 W->W.heap[w.heap.size]? =aC (aK #[aH x.Am (aA x.ms) x.cm,aH x.As (aA x.ss) x.cs,aH x.Ac (aA x.cy) x.cc,ν x.line,ν x.bV,ν x.lead,ν x.tr,ν x.bT] 26 (0,0))/\W.heap[w.heap.size+1]? =aC (aK #[ν ym,ν ya,ν yn] 76 (0,0))):=η (λW hW=>⟨(hW.block _ (by omega)).trans cY.o,(hW.block _ hz2).trans wY.o⟩);obtain⟨bx,bU⟩:∃bx,bx=w.heap.size:=⟨_,rfl⟩;rw [<-bU] at iU ⊢;clear bU;obtain⟨hx2,nE⟩:=iU.o _ (aX _ _);have c0:=bH _ bx 0 _ _ (0,0) hx2;have c1:=bH _ bx 1 _ _ (0,0) hx2;have c2:=bH _ bx 2 _ _ (0,0) hx2;have c3:=bH _ bx 3 _ _ (0,0) hx2;have c4:=bH _ bx 4 _ _ (0,0) hx2;have c5:=bH _ bx 5 _ _ (0,0) hx2;have c6:=bH _ bx 6 _ _ (0,0) hx2;have c7:=bH _ bx 7 _ _ (0,0) hx2;have y0:=bH _ (bx+1) 0 _ _ (0,0) nE;have y1:=bH _ (bx+1) 1 _ _ (0,0) nE;clear hx2 nE;go_wp2_with (go_at_call 147;refine(zG.o _ aV.o).mono ?_;rintro e w3 ⟨rfl,hb3⟩;have ag:Hid (β w w3):=τ aV hb3;have ar:Hid (β w (w3.alloc (aK #[ν (ud x ym).a,ν (ud x ym).b] 67))):=η (ag.o.alloc ag.o.size _);obtain⟨hx3,vq⟩:=iU.o _ hb3;clear c0 c1 c2 c3 c4 c5 c6 c7 y0 y1;have c0:=bH _ bx 0 _ _ (0,0) hx3;have c1:=bH _ bx 1 _ _ (0,0) hx3;have c2:=bH _ bx 2 _ _ (0,0) hx3;have c3:=bH _ bx 3 _ _ (0,0) hx3;have c4:=bH _ bx 4 _ _ (0,0) hx3;have c5:=bH _ bx 5 _ _ (0,0) hx3;have c6:=bH _ bx 6 _ _ (0,0) hx3;have c7:=bH _ bx 7 _ _ (0,0) hx3;have y1:=bH _ (bx+1) 1 _ _ (0,0) vq;have iB:bx+1<w3.heap.size:=(fX.1 vq).1;have a4C:bx<w3.heap.size:=a0L iB;clear hx3 vq hb3)
 go_ret;exact⟨by rw [HR.o];rfl,ar.o⟩
theorem ur.entry {κ:Type} [DecidableEq κ] {kt:bY} {enc:κ->aN} {jf:κ->Prop} {w:aJ} {base b:Nat} {m:List (κ×aN)} {f:κ->List Int}(K:CN aM kt enc jf)(h:ur kt enc jf w base b m f) {t:bY}(ht:aM.underlying t=aC (.map kt 53)) {q:κ}(hq:jf q):
 ∃st w1,(GL t (.map (aC b)) (enc q)).run aM w= .ok (.tuple #[CD q m,goInt st]) w1/\w.grownBy w1 (aC b)/\w1.heap.size=w.heap.size/\w1.ownsRow base 2 1 (CD q m) (aA (f q)) ((f q).map (aG aF))/\
  ∀(w2:aJ) (v':aN) (ys:List Int),w1.grownBy w2 (CD q m).ownBlock->w2.ownsRow base 2 1 v' (aA ys) (ys.map (aG aF))->(v'.ownBlock=(CD q m).ownBlock\/v'.ownBlock=aC w1.heap.size)->
   ∃w3,(Ow t (.map (aC b)) (goInt st) v').run aM w2= .ok () w3/\ur kt enc jf w3 base b (eR q v' m) (λz=>if z=q then ys else f z)/\
    (∀k,k<w.heap.size->k≠b->aC k≠(CD q m).ownBlock->w3.heap[k]? =w.heap[k]?)/\w.heap.size<=w3.heap.size/\∀B,B<=b->aY B w w3:=by
 obtain⟨st,w1,hr,hg1,hs1,hf⟩:=h.map.entry (t:=t) (e:=53) K ht (z:= .slice aB 0 0) (λu=>by kernel_rfl) h.yt h.dom hq;have aMp:=h.low;have Qt:=h.slot q;have mB:∀ {e s n} {v:aN} {xs:List aN} {W:aJ},W.ownsRow base e s v n xs->v.ownBlock≠aC b:=λho e=>by have:=eF ho b e;omega
 have h1:=Qt.kept hg1 (aU (mB Qt));refine⟨st,w1,hr,hg1,hs1,h1,λw2 v' ys hg2 hown hloc=> ?_⟩;have hs2:=hg2.size;have Vm:=h.map.lt;obtain⟨w3,hr3,Be,Wt,hg3⟩:=hf w2 v' (hg2.block b (by rw [hs1];exact Vm) (λe=>mB Qt e.symm));have hs3:=hg3.size;refine⟨w3,hr3,⟨Be,Wt,h.low,λp hp=> ?_,λp hp p' ni hne=> ?_,λq' hq'=> ?_,λp hp=> ?_⟩,λk hk hkb WQ=> ?_,by omega,λB hB=>⟨hg3.os.trans (hg2.os.trans hg1.os),hg3.tape.trans (hg2.tape.trans hg1.tape),hg3.output.trans (hg2.output.trans hg1.output),by omega,λk hk=>(hg3.block k (by omega) (by simp;omega)).trans ((hg2.block k (by omega) (λe=>by have:=eF Qt k e.symm;omega)).trans (hg1.block k (by omega) (by simp;omega)))⟩⟩
 ·rcases Kg h.map.apart hp with e|⟨gX,hne⟩
  ·subst e;simp only [if_true];exact hown.kept hg3 (aU (mB hown))
  have IG:=h.rows p gX;rw [ifN hne];have hr1:=IG.kept hg1 (aU (mB IG));refine(hr1.kept hg2 ?_).kept hg3 (aU (mB IG));have aGS:∀v,getM q m=aC v->p.2.ownBlock=aB\/p.2.ownBlock≠v.ownBlock:=λv hv=>h.far p gX (q,v) (RQ hv) hne
  unfold CD;cases KC:getM q m with
  |none=>cases hpo:p.2.ownBlock<;>simp [dy]
  |some v=>simpa using aGS v KC
 ·have apart:∀p∈m,p.1≠q->p.2.ownBlock=aB\/p.2.ownBlock≠v'.ownBlock:=λp hp hne=>by
   have IG:=h.rows p hp;rcases hloc with e|e
   ·rw [e];unfold CD;cases KC:getM q m with
    |none=>cases hpo:p.2.ownBlock<;>simp [dy]
    |some v=>simpa using h.far p hp (q,v) (RQ KC) hne
   rw [e];refine aU λe'=> ?_
   have:=(IG.lt _ e').2;omega
  rcases Kg h.map.apart hp with e|⟨gX,aGk⟩
  ·subst e;rcases Kg h.map.apart ni with e|⟨Wj,a4Q⟩
   ·subst e;exact absurd rfl hne
   rcases apart p' Wj a4Q with e|e
   ·simp only;rw [e];cases v'.ownBlock<;>simp
   exact aU (Ne.symm e)
  rcases Kg h.map.apart ni with e|⟨Wj,a4Q⟩
  ·subst e;exact apart p gX aGk
  exact h.far p gX p' Wj hne
 ·have l7:q'≠q:=λe=>hq' _ (Xl m) e.symm
  rw [ifN l7];exact h.off q' (λp hp e=>by obtain⟨u,hu⟩:=a6f (q:=q) (v:=v') hp;exact hq' _ hu e)
 ·rcases Kg h.map.apart hp with e|⟨gX,_⟩
  ·rw [e];exact hq
  exact h.dom p gX
 exact(hg3.block k (by omega) (by simp;omega)).trans ((hg2.block k (by omega) WQ).trans (hg1.block k hk (by simp;omega)))
def Lg.key(x:Lg):Int×Int:=(x.m,x.a)
def qG(L:List Lg)(q:Int×Int):List Int:=(L.filter λx=>x.key==q).map (·.n)
theorem aDN(L:List Lg)(x:Lg)(q:Int×Int):qG (L++ [x]) q=if q=x.key then qG L q++ [x.n] else qG L q:=by
 unfold qG;rw [List.filter_append,dZ];by_cases h:q=x.key
 ·rw [ifP h,List.filter_cons];simp [h]
 rw [ifN h,List.filter_cons];have:(x.key==q)=aP:=by simpa using Ne.symm h
 simp [this]
theorem a1x(L:List Lg)(q:Int×Int):aA (qG L q)<=aA L:=by unfold qG;rw [iV];exact qg _ _
def insSd(q:Int×Int):List (Int×Int)->List (Int×Int)
 | []=> [q]
 |p::l=>if q=p then p::l else if pQ q<pQ p then q::p::l else p::insSd q l
def gB(L:List Lg):List (Int×Int):=L.foldr (λx l=>insSd x.key l) []
theorem XC(q z:Int×Int):∀l,z∈insSd q l↔z=q\/z∈l
 | []=>by simp [insSd]
 |p::l=>by
  unfold insSd;split
  ·rename_i h;subst h;simp
  split
  ·simp
  simp only [fE,XC q z l];constructor
  ·rintro (h|h|h)
   ·exact aU (aS h)
   ·exact aS h
   exact aU (aU h)
  rintro (h|h|h)
  ·exact aU (aS h)
  ·exact aS h
  exact aU (aU h)
theorem a4l {q:Int×Int}(hq:aL q.2):∀ {l:List (Int×Int)},(∀p∈l,aL p.2)->l.Pairwise (λa b=>pQ a<pQ b)->(insSd q l).Pairwise (λa b=>pQ a<pQ b)
 | [],_,_=>by simp [insSd]
 |p::l,hI,h=>by
  obtain⟨h1,h2⟩:=kf.1 h;unfold insSd;split
  ·exact h
  rename_i hne;split
  ·rename_i hlt;refine kf.2 ⟨λz hz=> ?_,h⟩;rcases fE.1 hz with rfl|hz
   ·exact hlt
   exact Int.lt_trans hlt (h1 z hz)
  rename_i pM;refine kf.2 ⟨λz hz=> ?_,a4l hq (λz hz=>hI z (dh _ hz)) h2⟩;rcases (XC q z l).1 hz with rfl|hz
  ·have:pQ z≠pQ p:=λe=>hne (a5F hq (hI p (pE ..)) e)
   omega
  exact h1 z hz
theorem Rx(L:List Lg)(q:Int×Int):q∈gB L↔∃x∈L,x.key=q:=by
 induction L with
 |nil=>simp [gB]
 |cons x L ih=>
  show q∈insSd x.key (gB L)↔_;rw [XC,ih];simp [eq_comm]
theorem a7D {L:List Lg}(hI:∀x∈L,aL x.a):(gB L).Pairwise (λa b=>pQ a<pQ b):=by
 induction L with
 |nil=>simp [gB]
 |cons x L ih=>
  refine a4l (hI x (pE ..)) (λp hp=> ?_) (ih (λy hy=>hI y (dh _ hy)));obtain⟨y,hy,rfl⟩:=(Rx L p).1 hp;exact hI y (dh _ hy)
theorem a7e {α:Type} {k:α->Int}:∀ {a b:List α},a.Pairwise (λx y=>k x<k y)->b.Pairwise (λx y=>k x<k y)->(∀z,z∈a↔z∈b)->a=b
 | [],[],_,_,_=>rfl
 | [],y::b,_,_,h=>absurd ((h y).2 (pE ..)) (by simp)
 |x::a,[],_,_,h=>absurd ((h x).1 (pE ..)) (by simp)
 |x::a,y::b,ha,hb,h=>by
  obtain⟨a1,a2⟩:=kf.1 ha;obtain⟨b1,b2⟩:=kf.1 hb;have hxy:x=y:=by
   rcases fE.1 ((h x).1 (pE ..)) with e|e
   ·exact e
   rcases fE.1 ((h y).2 (pE ..)) with e2|e2
   ·exact e2.symm
   have:=b1 x e;have:=a1 y e2;omega
  subst hxy;rw [a7e a2 b2 λz=> ?_];constructor
  ·intro hz;rcases fE.1 ((h z).1 (dh _ hz)) with e|e
   ·subst e;have:=a1 z hz;omega
   exact e
  intro hz;rcases fE.1 ((h z).2 (dh _ hz)) with e|e
  ·subst e;have:=b1 z hz;omega
  exact e
theorem aHK {m:List ((Int×Int)×aN)} {l:List (Int×Int)} {L:List Lg}(h:U3 m l)(hI:∀x∈L,aL x.a)(hk:∀q,(∃v,(q,v)∈m)↔∃x∈L,x.key=q):l=gB L:=
 a7e h.wD (a7D hI) λz=>by rw [h.mem,hk,Rx]
end
section
open Go.Maps Go.MapKept Go.ChangeMaps
structure Lg.ok(x:Lg):Prop where
 m:aL x.m
 a:aL x.a
 n:aL x.n
def Ep(x:ak)(L:List Lg):Int:=match L.find? (λy=>mX x y !=0) with|some y=>mX x y|none=>0
def sM(L:List Lg)(q:Int×Int):Int:=sumI (qG L q)
def mC(x:ak)(L:List Lg):Int:=if 1024<(aA L) then 6 else if Ep x L≠0 then Ep x L else if (gB L).any (λq=>dC (sM L q) !=0)=aO then 2 else 0
def mD(L:List Lg)(l:List (Int×Int)):List Lg:=(l.filter λq=>sM L q !=0).map λq=>⟨q.1,q.2,sM L q⟩
def gZ(L:List Lg):List Lg:=mD L (gB L)
theorem aII(L:List Lg) {l:List (Int×Int)} {k:Nat}(hk:k<aA l):mD L (l.take (k+1))=mD L (l.take k)++(if sM L l[k]≠0 then [⟨l[k].1,l[k].2,sM L l[k]⟩] else []):=by unfold mD;rw [MK _ hk,dZ];by_cases h:sM L l[k]=0<;>simp [h]
theorem aIH(L:List Lg)(l:List (Int×Int))(k:Nat):aA (mD L (l.take k))<=aA l:=by unfold mD;rw [iV];exact MI _ _ _
theorem aFj {x:ak} {L:List Lg} {k:Nat}(hk:k<aA L)(h:(L.take k).any (λy=>mX x y !=0)=aP)(hn:mX x L[k]≠0):Ep x L=mX x L[k]:=by
 unfold Ep;have e:L=L.take k++L[k]::L.drop (k+1):=by rw [List.getElem_cons_drop,List.take_append_drop]
 have h1:L.find? (λy=>mX x y !=0)=aC L[k]:=by rw [List.find?_eq_some_iff_append];refine⟨by simpa using hn,L.take k,L.drop (k+1),e,λa ha=> ?_⟩;have:=zQ.1 h a ha;simpa using this
 rw [h1]
theorem aFi {x:ak} {L:List Lg}(h:L.any (λy=>mX x y !=0)=aP):Ep x L=0:=by unfold Ep;rw [List.find?_eq_none.2 (λa ha=>by have:=zQ.1 h a ha;simpa using this)]
def a8x(x:ak)(L:List Lg)(w:aJ)(e:dU)(w':aJ):Prop:=
 β w w'/\((mC x L=0/\∃v,e=aT (bB #[v,ν 0])/\w'.ownsRow w.heap.size 76 3 v (aA (gZ L)) (bA (gZ L)))\/(mC x L≠0/\e=aT (bB #[aH aB 0 0,ν (mC x L)])))
structure Jg(w:aJ)(base b:Nat)(m:List ((Int×Int)×aN))(L:List Lg)(W:aJ):Prop where
 g:ur 162 xL J2 W base b m (qG L)
 key:∀q,(∃v,(q,v)∈m)↔∃x∈L,x.key=q
 len:aA m<=aA L
 bl:β w W
 lo:w.heap.size<=b/\b<base/\base<=W.heap.size
theorem Jg.below {w W W':aJ} {base b:Nat} {m:List ((Int×Int)×aN)} {L:List Lg}(h:Jg w base b m L W)(hb:aY W.heap.size W W'):Jg w base b m L W':=
 ⟨h.g.below (aa _) hb,h.key,h.len,h.bl.trans (hb.mono h.bl.size),h.lo.1,h.lo.2.1,bz h.lo.2.2 hb.size⟩
theorem aIN(x:ak)(L:List Lg)(A:Option aj)(c:Nat)(w:aJ)(h:lf w x)(hs:aW w w.heap.size A (bA L))(hI:∀y∈L,y.ok)(hl:aA L<=100000):
 aQ aM 52 #[x.val,aH A (aA L) c] w (a8x x L w):=by
 have aR:Hid (β w (w.alloc (aK #[aH x.Am (aA x.ms) x.cm,aH x.As (aA x.ss) x.cs,aH x.Ac (aA x.cy) x.cc,ν x.line,ν x.bV,ν x.lead,ν x.tr,ν x.bT] 26))):=η σ;have o7:Hid ((w.alloc (aK #[aH x.Am (aA x.ms) x.cm,aH x.As (aA x.ss) x.cs,aH x.Ac (aA x.cy) x.cc,ν x.line,ν x.bV,ν x.lead,ν x.tr,ν x.bT] 26)).heap[w.heap.size]? =aC (aK x.vals 26 (0,0))):=η (cO w _);have uD:=η h;have HS:=η hs;have HI:=η hI;have hz1:w.heap.size<(w.alloc (aK #[aH x.Am (aA x.ms) x.cm,aH x.As (aA x.ss) x.cs,aH x.Ac (aA x.cy) x.cc,ν x.line,ν x.bV,ν x.lead,ν x.tr,ν x.bT] 26)).heap.size:=by simp
 unfold ak.vals at o7;clear h hs hI;by_cases kp:1024<aA L
 ·have HE:Hid (mC x L=6):=η (by unfold mC;rw [ifP kp]);have h1:(1024:Int)<(aA L:Int):=by omega
  unfold ak.val;go_enter aB5,aBr
  go_wp2_with fail
  go_ret2;exact⟨aR.o,aU ⟨by rw [HE.o];decide,by rw [HE.o];rfl⟩⟩
 have bX:=η kp;have DY:decide ((1024:Int)<(aA L:Int))=aP:=decide_eq_false (by omega);have qx:decide (1024<aA L)=aP:=decide_eq_false kp;have hl:aA L<=1024:=by omega
 clear kp;have pZ:=η (λ(y:Lg) (hy:y.ok) W (hW:β w W)=>aIA x y W (uD.o.below hW) hy.m hy.a);have mR:= @run_makeMap aM;obtain⟨i0,bu,hz0',ft,xV⟩:=dJ NH;unfold ak.val at pZ ⊢;go_enter aB5,aBr
 go_upto_region 3 with fail
 generalize (w.alloc (aK #[aH x.Am (aA x.ms) x.cm,aH x.As (aA x.ss) x.cs,aH x.Ac (aA x.cy) x.cc,ν x.line,ν x.bV,ν x.lead,ν x.tr,ν x.bT] 26))=w1 at*;obtain⟨bx,bU⟩:∃bx,bx=w.heap.size:=⟨_,rfl⟩;have dL:=η bU;rw [<-bU] at o7 hz1 ⊢;clear bU;have og:Hid (Jg w1 (w1.heap.size+1) w1.heap.size [] (L.take 0) (w1.alloc (.map #[] 0))):=η (by
  have e:qG (L.take 0)=λ_=> []:=by funext q;rw [nQ];rfl
  refine⟨by rw [e];exact ur.made w1,λq=>by simp,by simp,(aX _ _).alloc (aa _) _,aa _,by omega,by simp⟩)
 have zB:Hid ((L.take 0).any (λy=>mX x y !=0)=aP):=η (by rw [nQ];rfl);have HXW:Hid (∀W,β w1 W->W.heap[bx]? =aC (aK #[aH x.Am (aA x.ms) x.cm,aH x.As (aA x.ss) x.cs,aH x.Ac (aA x.cy) x.cc,ν x.line,ν x.bV,ν x.lead,ν x.tr,ν x.bT] 26 (0,0))):=η (λW hW=>(hW.block bx hz1).trans o7.o);go_wp2_with fail
 go_loopw [8,9,10,22] (λ_ _ _ i wr=>∃(k:Nat) (m:List ((Int×Int)×aN)),k<=aA L/\i=ν (k:Int)/\Hid (Jg w1 (w1.heap.size+1) w1.heap.size m (L.take k) wr)/\Hid ((L.take k).any (λy=>mX x y !=0)=aP)) (λ_ _ _ i _=>aA L-(af i).toNat)
 case atStart=>exact⟨0,[],bK _,rfl,og,zB⟩
 case round=>
  clear og zB;obtain⟨k,m,hk,rfl,HN,HF⟩:=hrel;have cC:Hid (β w wr):=η (aR.o.trans (HN.o.bl.mono aR.o.size));by_cases hlt:k<aA L
  ·obtain⟨be,oe,rfl,km,e0,e1,e2⟩:=oM ((HS.o.below cC.o).mono cC.o.size) hlt;have dS:=HI.o _ (cH hlt);have O8:=η (λhn=>aFj (x:=x) hlt HF.o hn);have CV:=η (zY (λy=>mX x y !=0) hlt);have lU:Hid (L.take (k+1)=L.take k++ [L[k]]):=η (fF hlt);have hpl:aA (L.take k)<=1024:=by rw [vD];omega
   have eY:(0:Int)<=(k:Int):=by omega
   have hkb:(k:Int)<(aA L:Int):=by omega
   generalize L[k]=y at*;generalize L.take k=pre at*;have Kw:=η (pZ.o y dS);obtain⟨ym,ya,yn⟩:=y;simp only at e0 e1 e2;have dQ:=η dS;have dW:bx<wr.heap.size:=by have:=HN.o.bl.size;omega
   have aV:Hid (β w (wr.alloc (aK #[ν ym,ν ya,ν yn] 76))):=η (cC.o.alloc cC.o.size _);have Cp:Hid ((wr.alloc (aK #[ν ym,ν ya,ν yn] 76)).heap[wr.heap.size]? =aC (aK #[ν ym,ν ya,ν yn] 76 (0,0))):=η (cO wr _);have qR:=η (HN.o.below ((aX _ _).alloc (aa _) (aK #[ν ym,ν ya,ν yn] 76)));have hz2:wr.heap.size<(wr.alloc (aK #[ν ym,ν ya,ν yn] 76)).heap.size:=by simp
   clear dS;unfold Lg.val at Kw;simp only at Kw;go_upto_region 7 with fail
   generalize wr.alloc (aK #[ν ym,ν ya,ν yn] 76)=w2 at*;clear HN cC e0 e1 e2;obtain⟨BP,hby⟩:∃b',b'=wr.heap.size:=⟨_,rfl⟩;rw [<-hby] at Cp hz2 dW ⊢;clear hby;have JY:Hid (∀W,β w2 W->W.heap[bx]? =aC (aK #[aH x.Am (aA x.ms) x.cm,aH x.As (aA x.ss) x.cs,aH x.Ac (aA x.cy) x.cc,ν x.line,ν x.bV,ν x.lead,ν x.tr,ν x.bT] 26 (0,0))/\W.heap[BP]? =aC (aK #[ν ym,ν ya,ν yn] 76 (0,0))):=η (λW hW=>⟨HXW.o W (qR.o.bl.trans (hW.mono qR.o.bl.size)),(hW.block BP hz2).trans Cp.o⟩);obtain⟨hx2,nE⟩:=JY.o _ (aX _ _);have c0:=bH _ bx 0 _ _ (0,0) hx2;have c1:=bH _ bx 1 _ _ (0,0) hx2;have c2:=bH _ bx 2 _ _ (0,0) hx2;have c3:=bH _ bx 3 _ _ (0,0) hx2;have c4:=bH _ bx 4 _ _ (0,0) hx2;have c5:=bH _ bx 5 _ _ (0,0) hx2;have c6:=bH _ bx 6 _ _ (0,0) hx2;have c7:=bH _ bx 7 _ _ (0,0) hx2;have y0:=bH _ BP 0 _ _ (0,0) nE;have y1:=bH _ BP 1 _ _ (0,0) nE;have y2:=bH _ BP 2 _ _ (0,0) nE;clear hx2 nE;by_cases hn:mX x ⟨ym,ya,yn⟩=0
   ·rw [hn] at Kw;have jQ:Hid ((L.take (k+1)).any (λy=>mX x y !=0)=aP):=η (by rw [CV.o,HF.o,hn];rfl);clear hn O8 CV HF;go_upto_region 11 with (go_at_call 102;refine(Kw.o _ aV.o).mono ?_;rintro e w3 ⟨rfl,hb3⟩;have iT:=η (qR.o.below hb3);have BJ:=(JY.o _ hb3).2;have hz3:BP<w3.heap.size:=cP hz2 hb3.size;clear c0 c1 c2 c3 c4 c5 c6 c7 y0 y1 y2 hb3;have y0:=bH _ BP 0 _ _ (0,0) BJ;have y1:=bH _ BP 1 _ _ (0,0) BJ;have a0A:=η BJ;clear BJ)
    have gK:=η (iT.o.below ((aX _ _).alloc (aa _) (aK #[ν ym,ν ya] 162)));have U2:=η ((fG w3 (aK #[ν ym,ν ya] 162) hz3).trans a0A.o);have jS:=η (cO w3 (aK #[ν ym,ν ya] 162));have mW:w3.heap.size<(w3.alloc (aK #[ν ym,ν ya] 162)).heap.size:=by simp
    clear y0 y1 iT a0A qR Cp JY aV o7 km;generalize w3.alloc (aK #[ν ym,ν ya] 162)=w4 at*;generalize w3.heap.size=bq at*;have y2:=bH _ BP 2 _ _ (0,0) U2.o;have s0:=bH _ bq 0 _ _ (0,0) jS.o;have s1:=bH _ bq 1 _ _ (0,0) jS.o;have NB:BP<w4.heap.size:=Lj hz3 mW;have O6:Hid (J2 (ym,ya)):=η ⟨dQ.o.m,dQ.o.a⟩;obtain⟨st,w5,ua,ej,hs5,iW,DZ⟩:=(gK.o.below ((aX _ _).alloc (aa _) (aK #[ν yn] 2))).g.entry a7B a1M O6.o;obtain⟨Aq,cq,vV⟩:=bL iW;have Aj:Hid (w5.cell? ⟨w4.heap.size,0,aB⟩=aC (ν yn)):=η (by have e1:=ej.cell_far ⟨w4.heap.size,0,aB⟩ (by simp) (by have:=gK.o.lo;simp;omega);rw [e1];exact cL w4 _ _ 0 rfl);have I8:w1.heap.size+1<=w5.heap.size:=by rw [hs5];have:=gK.o.lo;simp;omega
    rw [vV] at ua iW;have Mz:(GL 159 (.map (aC w1.heap.size)) (bQ #[ν ym,ν ya])).run aM (w4.alloc (aK #[ν yn] 2))= .ok (bB #[aH Aq (aA (qG pre (ym,ya))) cq,goInt st]) w5:=ua;have hbl:=a1x pre (ym,ya);have EE:=η DZ;have ez:=η iW;have B0:=η vV;clear ua DZ iW ej hs5 vV;generalize goInt st=gs at*;go_wp2_with (at_builtin;refine wpList_append_own_at _ rfl _ _ 53 rfl (w1.heap.size+1) 2 i0 _ 1 8 mP bu hz0' ft xV rfl (by decide) _ (aA (qG pre (ym,ya))) ((qG pre (ym,ya)).map (aG aF)) rfl ez.o ⟨w4.heap.size,0,aB⟩ 1 1 [ν yn] rfl rfl (by intro j u hu;cases j with|zero=>simp at hu;subst hu;exact Aj.o|succ j=>simp at hu) xh (by simp only [bM];omega) (by omega) I8 ?_)
    intro v6 w6 FI F7 _ FB;obtain⟨w7,Dh,Eu,F9,AG,hB7⟩:=EE.o w6 v6 (qG pre (ym,ya)++ [yn]) (by rw [B0.o];exact F7) (by rw [cN,dZ];exact FI) (by rw [B0.o];exact FB);have EM:Hid (Jg w1 (w1.heap.size+1) w1.heap.size (@eR _ instBEqOfDecidableEq (ym,ya) v6 m) (L.take (k+1)) w7):=η (by
     have nZ:=gK.o.lo;have aGC:aY w1.heap.size w4 w7:=(((aX w4.heap.size w4).alloc (aa _) _).mono (by omega)).trans (hB7 _ (aa _));refine⟨?_,λq=> ?_, ?_, ?_,⟨nZ.1,nZ.2.1, ?_⟩⟩
     ·have e:qG (L.take (k+1))=λz=>if z=(ym,ya) then qG pre (ym,ya)++ [yn] else qG pre z:=by
       funext z;rw [lU.o,aDN];show (if z=(ym,ya) then _ else _)=_;by_cases hz:z=(ym,ya)
       ·subst hz;rfl
       rw [ifN hz,ifN hz]
      rw [e];exact Eu
     ·rw [lU.o];constructor
      ·rintro⟨v,hv⟩;rcases Kg gK.o.g.map.apart hv with e|⟨hv0,_⟩
       ·injection e with e1 e2;exact⟨⟨ym,ya,yn⟩,by simp,e1.symm⟩
       obtain⟨y,hy,e⟩:=(gK.o.key q).1 ⟨v,hv0⟩;exact⟨y,vE _ hy,e⟩
      rintro⟨y,hy,e⟩;rcases gL.1 hy with hy|hy
      ·obtain⟨v,hv⟩:=(gK.o.key q).2 ⟨y,hy,e⟩;exact a6f (q:=(ym,ya)) (v:=v6) hv
      have:y=⟨ym,ya,yn⟩:=by simpa using hy
      subst this;rw [<-e];exact⟨v6,Xl m⟩
     ·rw [lU.o,cN];have h1:=a6e (q:=(ym,ya)) (v:=v6) m;have h2:=gK.o.len;simp;omega
     ·exact gK.o.bl.trans aGC
     have:w4.heap.size+1<=w7.heap.size:=by simpa using AG
     omega)
    clear FI F7 FB Eu F9 AG hB7 EE ez Aj B0 Mz gK;go_wp2_with fail
    clear Dh;go_roundw
    case rel=>exact⟨k+1,_,by omega,by go_num,EM,jQ⟩
    case measure=>simp [af];omega
   have HR:Hid (mC x L=mX x ⟨ym,ya,yn⟩):=η (by unfold mC;rw [ifN bX.o,ifP (by rw [O8.o hn];exact hn),O8.o hn]);have HNZ:=η hn;have hne:(mX x ⟨ym,ya,yn⟩==0)=aP:=by simpa using hn
   have a4P:(mX x ⟨ym,ya,yn⟩ !=0)=aO:=by simpa using hn
   generalize mX x ⟨ym,ya,yn⟩=E at*;clear hn O8 CV HF;go_wp2_with (go_at_call 102;refine(Kw.o _ aV.o).mono ?_;rintro e w3 ⟨rfl,hb3⟩;have ag:Hid (β w w3):=τ aV hb3;clear hb3)
   go_ret2;exact⟨ag.o,aU ⟨by rw [HR.o];exact HNZ.o,by rw [HR.o];rfl⟩⟩
  obtain rfl:k=aA L:=by omega
  rw [cT] at HN HF;have zB:Hid (Ep x L=0):=η (aFi HF.o);have OU:Hid (mC x L=if (gB L).any (λq=>dC (sM L q) !=0)=aO then 2 else 0):=η (by unfold mC;rw [ifN bX.o,ifN (by rw [zB.o];simp)]);have wX:=η (aIO w1.heap.size m wr HN.o.g.map HN.o.g.yt HN.o.g.dom (by have:=HN.o.len;omega));obtain⟨i1,qL,R6,R7,R8⟩:=dJ RL;clear mR;go_wp2_with (go_at_call 103;refine wX.o.mono ?_;unfold Yz;rintro e wh ⟨vo,l,rfl,hsd,kr,ky,hbl⟩;have qX:=η hsd;have EN:=η ky;have TW:=η (HN.o.below hbl);have Kr:Hid (β w wh):=η ((cC.o).trans (hbl.mono cC.o.size));obtain⟨Ao,co,hvo⟩:=bL ky;subst hvo;clear hsd ky hbl wX)
  have hlen:=HN.o.len;obtain rfl:l=gB L:=aHK qX.o (λy hy=>(HI.o y hy).a) HN.o.key;have jK:aA (gB L)<=1024:=by omega
  clear HN kr qX cC HF zB hlen;have sV:Hid (β wh wh):=η (aX _ _);have Zk:Hid (wh.ownsRow wh.heap.size 76 3 (aH aB 0 0) (aA (mD L ((gB L).take 0))) (bA (mD L ((gB L).take 0)))):=η (by rw [nQ];exact fh _ _ _ _);have Cn:Hid (((gB L).take 0).any (λq=>dC (sM L q) !=0)=aP):=η (by rw [nQ];rfl);go_loopw [11,13,14,15,50] (λv _ _ _ i wr=>∃k:Nat,k<=aA (gB L)/\i=ν (k:Int)/\Hid (β wh wr)/\Hid (wr.ownsRow wh.heap.size 76 3 v (aA (mD L ((gB L).take k))) (bA (mD L ((gB L).take k))))/\Hid (((gB L).take k).any (λq=>dC (sM L q) !=0)=aP)) (λ_ _ _ _ i _=>aA (gB L)-(af i).toNat)
  case atStart=>exact⟨0,bK _,rfl,sV,Zk,Cn⟩
  case round=>
   clear sV Zk Cn;obtain⟨k,hk,rfl,HR,HO,HV⟩:=hrel;obtain⟨Ax,cx,pL⟩:=bL HO.o;subst pL;by_cases hlt:k<aA (gB L)
   ·obtain⟨bo,oo,rfl,tR,e0,e1⟩:=a7A (((aW.cA EN.o).below HR.o).mono HR.o.size) hlt;have cG:=η (aII L hlt);have LX:=η (zY (λq=>dC (sM L q) !=0) hlt);have ET:Hid ((dC (sM L (gB L)[k]) !=0)=aO->(gB L).any (λq=>dC (sM L q) !=0)=aO):=η (λh=>kA.2 ⟨_,cH hlt,h⟩);have gW:aA (mD L ((gB L).take k))<=1024:=bz (aIH L _ k) jK;have Wa:=(Rx L (gB L)[k]).1 (cH hlt);have eY:(0:Int)<=(k:Int):=by omega
    have hkb:(k:Int)<(aA (gB L):Int):=by omega
    generalize (gB L)[k]=q at*;obtain⟨y,hy,hyq⟩:=Wa;have O6:Hid (J2 q):=η (by rw [<-hyq];exact⟨(HI.o y hy).m,(HI.o y hy).a⟩);obtain⟨Aq,cq,vV⟩:=bL (TW.o.g.slot q);have kO:Hid (∀W,β wh W->(Instr.lookup 159 (.map (aC w1.heap.size)) (bQ #[ν q.1,ν q.2]) aP).run aM W= .ok (aH Aq (aA (qG L q)) cq) W):=η λW hW=>by have h2:=(TW.o.below hW).g.look a7B O6.o a1M;rw [vV] at h2;exact h2
    have ji:Hid (∀W,β wh W->aQ aM 104 #[aH Aq (aA (qG L q)) cq] W λe w'=>e=aT (bB #[ν (fU (sM L q)),ν (dC (sM L q))])/\β W w'):=η λW hW=>CF (qG L q) Aq cq W (λz hz=>by obtain⟨u,hu,rfl⟩:=df.1 hz;exact(HI.o u (jD.1 hu).1).n) (by have h2:=(TW.o.below hW).g.slot q;rw [vV] at h2;exact aW.cA h2) (by have:=a1x L q;omega)
    have ag:Hid (β wh (wr.alloc (aK #[ν q.1,ν q.2] 162))):=η (HR.o.alloc HR.o.size _);have o8:=η (cO wr (aK #[ν q.1,ν q.2] 162));have cD:=η (HO.o.alloc (aK #[ν q.1,ν q.2] 162));have hz3:wr.heap.size<(wr.alloc (aK #[ν q.1,ν q.2] 162)).heap.size:=by simp
    clear vV hy hyq O6 HO;go_upto_region 17 with fail
    generalize wr.alloc (aK #[ν q.1,ν q.2] 162)=w3 at*;clear e0 e1;obtain⟨bq,Vq⟩:∃b',b'=wr.heap.size:=⟨_,rfl⟩;rw [<-Vq] at o8 hz3 ⊢;clear Vq;have iU:Hid (∀W,β w3 W->W.cell? ⟨bq,0,aB⟩=aC (ν q.1)/\W.cell? ⟨bq,1,aB⟩=aC (ν q.2)):=η (λW hW=>⟨((fA hW).1 _ _ hz3).trans (ρ o8.o),((fA hW).1 _ _ hz3).trans (ρ o8.o)⟩);obtain⟨s0,s1⟩:=iU.o _ (aX _ _);have hlk:=kO.o _ ag.o;obtain⟨q1,q2⟩:=q;simp only at kO ji iU s0 s1 hlk cG LX ET;generalize sM L (q1,q2)=s at*;by_cases hs1:aL s
    ·have yH:Hid (((gB L).take (k+1)).any (λq=>dC (sM L q) !=0)=aP):=η (by rw [LX.o,HV.o,(eA hs1).2];rfl);rw [(eA hs1).1,(eA hs1).2] at ji;by_cases hs0:s=0
     ·subst hs0;have HD:Hid (mD L ((gB L).take (k+1))=mD L ((gB L).take k)):=η (by rw [cG.o,ifN (by simp),List.append_nil]);clear hs1 LX ET cG kO;go_wp2_with (go_at_call 104;refine(ji.o _ ag.o).mono ?_;rintro e w4 ⟨rfl,hb4⟩;have ar:Hid (β wh w4):=τ ag hb4;have gK:Hid (β w3 w4):=η hb4;obtain⟨s0',s1'⟩:=iU.o _ hb4;clear hb4 hlk s0 s1)
      have ez:Hid (w4.ownsRow wh.heap.size 76 3 (aH Ax (aA (mD L ((gB L).take k))) cx) (aA (mD L ((gB L).take (k+1)))) (bA (mD L ((gB L).take (k+1))))):=η (by rw [HD.o];exact gh cD.o gK.o);go_roundw
      case rel=>exact⟨k+1,by omega,by go_num,ar,ez,yH⟩
      case measure=>simp [af];omega
     have HD:Hid (mD L ((gB L).take (k+1))=mD L ((gB L).take k)++ [⟨q1,q2,s⟩]):=η (by rw [cG.o,ifP hs0]);have Wp:(s==0)=aP:=by simpa using hs0
     have aN0:(s !=0)=aO:=by simpa using hs0
     generalize mD L ((gB L).take k)=D at*;clear hs1 LX ET cG kO hs0;go_wp2_with (first|(go_at_call 104;refine(ji.o _ ag.o).mono ?_;rintro e w4 ⟨rfl,hb4⟩;have ar:Hid (β wh w4):=τ ag hb4;have gK:Hid (β w3 w4):=η hb4;obtain⟨s0',s1'⟩:=iU.o _ hb4;clear hb4 hlk s0 s1)|(at_builtin;refine wpList_append_lies _ rfl _ _ 39 rfl wh.heap.size 76 i1 _ 3 24 tE qL R6 R7 R8 rfl (by omega) _ _ _ rfl ((gh cD.o gK.o).alloc (aK #[ν q1,ν q2,ν s] 76)) ⟨w4.heap.size,0,aB⟩ 1 1 (Lg.cells ⟨q1,q2,s⟩) rfl rfl (dK _ _ #[_,_,_] rfl) (RN _) (by omega) (by simp only [bM];omega) (by omega) (by have:=ar.o.size;simp;omega) (w4.heap.size+1) (by simp) ?_))
     intro g5 M9 w5 FH tS _ _;have cV:Hid (β wh w5):=η ((ar.o.alloc ar.o.size _).grown tS (by have:=ar.o.size;simp;omega) (λj hj=>eF cD.o j hj));have ez:Hid (w5.ownsRow wh.heap.size 76 3 (aH (aC ⟨g5,0,aB⟩) (aA D+1) M9) (aA (mD L ((gB L).take (k+1)))) (bA (mD L ((gB L).take (k+1))))):=η (by rw [HD.o,cN,RM];exact FH);clear FH tS cD ar gK ag;go_wp2_with fail
     go_roundw
     case rel=>exact⟨k+1,by omega,by go_num,cV,ez,yH⟩
     case measure=>simp [af];omega
    have pn:Hid (mC x L=2):=η (by rw [OU.o,ifP (ET.o (by rw [(gw hs1).2];rfl))]);rw [(gw hs1).1,(gw hs1).2] at ji;clear hs1 LX ET cG kO;go_wp2_with (go_at_call 104;refine(ji.o _ ag.o).mono ?_;rintro e w4 ⟨rfl,hb4⟩;have ar:Hid (β wh w4):=τ ag hb4;have gK:Hid (β w3 w4):=η hb4;obtain⟨s0',s1'⟩:=iU.o _ hb4;clear hb4 hlk s0 s1)
    go_ret2;exact⟨Kr.o.trans (ar.o.mono Kr.o.size),aU ⟨by rw [pn.o];decide,by rw [pn.o];rfl⟩⟩
   obtain rfl:k=aA (gB L):=by omega
   rw [cT] at HV;have sX:Hid (mC x L=0):=η (by rw [OU.o,ifN (by rw [HV.o];simp)]);have Vf:=HO.o;rw [cT] at Vf ⊢;have dE:Hid (wr.ownsRow w.heap.size 76 3 (aH Ax (aA (mD L (gB L))) cx) (aA (gZ L)) (bA (gZ L))):=η (iC Vf Kr.o.size);clear Vf HO;go_wp2_with fail
   go_ret2;exact⟨Kr.o.trans (HR.o.mono Kr.o.size),aS ⟨sX.o,_,rfl,dE.o⟩⟩
end
def Bd.val(x:Bd):aN:=bQ #[aG aF x.s,aG aF x.m,aG aF x.c,aG aF x.q,aG aF x.p]
def rX(x:Bd):Bool:=decide (x.q<1)||decide (x.p<1)
theorem Pb {w:aJ} {B:Nat} {A:Option aj} {l:List Bd}(h:aW w B A (nR l)) {k:Nat}(hk:k<aA l):
 ∃b o,A=aC ⟨b,o,aB⟩/\b<B/\w.cell? ⟨b,o+k*5,aB⟩=aC (ν l[k].s)/\w.cell? ⟨b,o+k*5+1,aB⟩=aC (ν l[k].m)/\w.cell? ⟨b,o+k*5+2,aB⟩=aC (ν l[k].c)/\w.cell? ⟨b,o+k*5+3,aB⟩=aC (ν l[k].q)/\w.cell? ⟨b,o+k*5+4,aB⟩=aC (ν l[k].p):=by
 obtain⟨b,o,e,hb,hc⟩:=h.run (i:=k*5) (y:=ν l[k].s) (t:= [ν l[k].m,ν l[k].c,ν l[k].q,ν l[k].p]) (λj u hu=>uV Bd.cells 5 (λ_=>rfl) l k hk j u hu);exact⟨b,o,e,hb,hc 0 _ rfl,hc 1 _ rfl,hc 2 _ rfl,hc 3 _ rfl,hc 4 _ rfl⟩
theorem aCR(x:Bd)(w:aJ):aQ aM 226 #[x.val] w λe w'=>e=aT (bJ (rX x))/\aY w.heap.size w w':=by
 obtain⟨s,m,c,q,p⟩:=x;unfold Bd.val;go_enter func226,ntmps226
 go_wp2
 all_goals
  go_ret;refine⟨fQ ?_,(aX _ _).alloc (aa _) _⟩;rw [Fp];simp_all [rX]
theorem aH6(L:List Bd)(A:Option aj)(c:Nat)(w:aJ)(hs:aW w w.heap.size A (nR L))(hl:aA L<=1000000):
 aQ aM 254 #[aH A (aA L) c,.func (.func 226) #[] #[]] w λe w'=>e=aT (ν (ub rX L))/\β w w':=by
 have HS:=η hs;have HP:=η (λ(x:Bd) (W:aJ)=>aCR x W);unfold Bd.val at HP;go_enter func254,ntmps254
 go_wp2
 go_loopw [5,8] (λ_ i wr=>∃k:Nat,k<=aA L/\i=ν k/\Hid (β w wr)/\Hid ((L.take k).any rX=aP)) (λ_ i _=>aA L-(af i).toNat)
 ·exact⟨0,bK _,rfl,aX _ _,rfl⟩
 ·
  obtain⟨k,hk,rfl,HB,HK⟩:=hrel;have hsz:=HB.o.size;by_cases hlt:k<aA L
  ·obtain⟨b,o,rfl,hb,d0,d1,d2,d3,d4⟩:=Pb (HS.o.below HB) hlt;have HA:=η (zY rX hlt);cases hp:rX L[k]
   ·go_wp2_with (go_at_call 226;refine kW (HP.o L[k] _) λw1 aR=> ?_)
    go_roundw
    ·exact⟨k+1,by omega,by go_num,HB.o.trans (aR.o.mono hsz),η (by rw [HA.o,HK.o,hp];rfl)⟩
    simp [af];omega
   have HF:=η (RG rX hlt HK hp);go_wp2_with (go_at_call 226;refine kW (HP.o L[k] _) λw1 aR=> ?_)
   go_ret;exact⟨cj HF,HB.o.trans (aR.o.mono hsz)⟩
  obtain rfl:k=aA L:=by omega
  have hn:=HK.o;rw [cT] at hn;have HN:=η (RH rX hn);go_wp2
  go_ret;exact⟨cj HN,HB⟩
theorem aG8(L:List Bd)(A:Option aj)(c:Nat)(w:aJ)(hs:aW w w.heap.size A (nR L))(hl:aA L<=1000000):
 aQ aM 225 #[aH A (aA L) c,.func (.func 226) #[] #[]] w λe w'=>e=aT (bJ (L.any rX))/\β w w':=by
 have HI:=η (aH6 L A c w hs hl);have HA:=η (X9 rX L);go_enter func225,ntmps225
 go_wp2_with (go_at_call 254;refine kW HI.o λw1 aR=> ?_)
 go_ret;exact⟨fQ HA,aR⟩
def uP(L:List Bd)(aHT cz:Int):Int:=if 1024<(aA L) then 6 else if aHT<0\/cz<0\/L.any rX=aO then 1 else 0
theorem aCS(L:List Bd)(A:Option aj)(c:Nat)(la ca:Int)(w:aJ)(hs:aW w w.heap.size A (nR L))(hl:aA L<=1000000):
 aQ aM 192 #[aH A (aA L) c,ν la,ν ca] w λe w'=>e=aT (ν (uP L la ca))/\β w w':=by
 have HH:=η (aG8 L A c w hs hl);by_cases h1:1024<aA L
 ·have e:uP L la ca=6:=by unfold uP;rw [ifP h1]
  have hb:=decide_eq_true (by omega);rw [e];go_enter PF,PI
  go_wp2
  go_ret;exact⟨rfl,aX _ _⟩
 have hb:=decide_eq_false (by omega);by_cases h2:la<0
 ·have e:uP L la ca=1:=by unfold uP;rw [ifN h1,ifP (aS h2)]
  rw [e];go_enter PF,PI
  go_wp2
  go_ret;exact⟨rfl,aX _ _⟩
 by_cases h3:ca<0
 ·have e:uP L la ca=1:=by unfold uP;rw [ifN h1,ifP (aU (aS h3))]
  rw [e];go_enter PF,PI
  go_wp2
  go_ret;exact⟨rfl,aX _ _⟩
 cases h4:L.any rX
 ·have e:uP L la ca=0:=by unfold uP;rw [ifN h1,ifN (by rw [h4];simp;omega)]
  rw [e];rw [h4] at HH;go_enter PF,PI
  go_wp2_with (go_at_call 225;refine kW HH.o λw1 aR=> ?_)
  go_ret;exact⟨rfl,aR.o⟩
 have e:uP L la ca=1:=by unfold uP;rw [ifN h1,ifP (aU (aU h4))]
 rw [e];rw [h4] at HH;go_enter PF,PI
 go_wp2_with (go_at_call 225;refine kW HH.o λw1 aR=> ?_)
 go_ret;exact⟨rfl,aR.o⟩
section
def Gt(x:ak)(d:Bd):Bool:=(jb x d.m !=0)
def Gu(x:ak)(d:Bd):Bool:=(jL x d.c !=0)
def Gv(d:Bd):Bool:=decide (d.q<1)||decide (d.p<1)
def Jq(d:Bd):Bool:=decide (d.q>274877906944)
def Gw(x:ak)(d:Bd):Bool:=decide (d.p>(dX x d.c).b)
def nS(x:ak)(d:Bd):Int:=if Gt x d=aO then 9 else if Gu x d=aO then 10 else if Gv d=aO then 1 else if Jq d=aO then 2 else if Gw x d=aO then 15 else 0
def Em(b0 b1 bs be:Nat):Array aN:= #[aG aF 9,.func (.func 149) #[] #[bF (aC ⟨b0,0,aB⟩),bF (aC ⟨b1,0,aB⟩)],aG aF 10,.func (.func 150) #[] #[bF (aC ⟨be,0,aB⟩)],aG aF 1,.func (.func 151) #[] #[bF (aC ⟨b1,0,aB⟩)],aG aF 2,.func (.func 152) #[] #[bF (aC ⟨b1,0,aB⟩)],aG aF 15,.func (.func 153) #[] #[bF (aC ⟨b1,0,aB⟩),bF (aC ⟨bs,0,aB⟩)]]
structure Kn(W:aJ)(b0 b1 bs be bt:Nat)(x:ak)(d:Bd):Prop where
 cf:pX W b0 x
 ok:lf W x
 d1:W.cell? ⟨b1,1,aB⟩=aC (ν d.m)
 d3:W.cell? ⟨b1,3,aB⟩=aC (ν d.q)
 d4:W.cell? ⟨b1,4,aB⟩=aC (ν d.p)
 s1:W.cell? ⟨bs,1,aB⟩=aC (ν (dX x d.c).b)
 e0:W.cell? ⟨be,0,aB⟩=aC (ν (jL x d.c))
 tab:∀j u,(Em b0 b1 bs be)[j]? =aC u->W.cell? ⟨bt,j,aB⟩=aC u
 h1:b1<W.heap.size
 h2:bs<W.heap.size
 h3:be<W.heap.size
 h4:bt<W.heap.size
theorem Kn.below {w w':aJ} {b0 b1 bs be bt:Nat} {x:ak} {d:Bd}(h:Kn w b0 b1 bs be bt x d)(hb:aY w.heap.size w w'):Kn w' b0 b1 bs be bt x d:=
 ⟨h.cf.below hb,h.ok.below hb,(hb.cell (p:=⟨b1,1,aB⟩) h.h1).trans h.d1,(hb.cell (p:=⟨b1,3,aB⟩) h.h1).trans h.d3,(hb.cell (p:=⟨b1,4,aB⟩) h.h1).trans h.d4,(hb.cell (p:=⟨bs,1,aB⟩) h.h2).trans h.s1,(hb.cell (p:=⟨be,0,aB⟩) h.h3).trans h.e0,λj u hu=>(hb.cell (p:=⟨bt,j,aB⟩) h.h4).trans (h.tab j u hu),cP h.h1 hb.size,cP h.h2 hb.size,cP h.h3 hb.size,cP h.h4 hb.size⟩
section
variable (x:ak) (d:Bd) (b0 b1 bs be bt:Nat) (w:aJ) (h:Kn w b0 b1 bs be bt x d)
include h
theorem aD6(hI:aL d.m):aQ aM 149 #[bF (aC ⟨b0,0,aB⟩),bF (aC ⟨b1,0,aB⟩)] w λe w'=>e=aT (bJ (Gt x d))/\aY w.heap.size w w':=by
 obtain⟨c0,c1,c2,c3,c4,c5,c6,c7,jk⟩:=h.cf;have d1:=h.d1;have HC:=η (Po x d.m w h.ok hI);have hv:Gt x d=(jb x d.m !=0):=rfl;rw [hv];unfold ak.val at HC;generalize ud x d.m=p at*;generalize jb x d.m=me at*;go_enter func149,ntmps149
 go_wp2_with (go_at_call 147;refine kW HC.o λw1 aR=> ?_)
 go_ret;exact⟨rfl,aR.o.alloc aR.o.size _⟩
theorem aD7:aQ aM 150 #[bF (aC ⟨be,0,aB⟩)] w λe w'=>e=aT (bJ (Gu x d))/\aY w.heap.size w w':=by
 have e0:=h.e0;have hv:Gu x d=(jL x d.c !=0):=rfl;rw [hv];generalize jL x d.c=se at*;go_enter func150,ntmps150
 go_wp2
 go_ret;exact⟨rfl,aX _ _⟩
theorem aD8:aQ aM 151 #[bF (aC ⟨b1,0,aB⟩)] w λe w'=>e=aT (bJ (Gv d))/\aY w.heap.size w w':=by
 have d3:=h.d3;have d4:=h.d4;go_enter func151,ntmps151
 go_wp2
 all_goals
  go_ret;refine⟨fQ ?_,aX _ _⟩;rw [Fp];simp_all [Gv]
theorem aD9:aQ aM 152 #[bF (aC ⟨b1,0,aB⟩)] w λe w'=>e=aT (bJ (Jq d))/\aY w.heap.size w w':=by
 have d3:=h.d3;go_enter func152,ntmps152
 go_wp2
 go_ret;exact⟨rfl,aX _ _⟩
theorem aDA:aQ aM 153 #[bF (aC ⟨b1,0,aB⟩),bF (aC ⟨bs,0,aB⟩)] w λe w'=>e=aT (bJ (Gw x d))/\aY w.heap.size w w':=by
 have d4:=h.d4;have s1:=h.s1;have hv:Gw x d=decide (d.p>(dX x d.c).b):=rfl;rw [hv];generalize (dX x d.c).b=sb at*;go_enter func153,ntmps153
 go_wp2
 go_ret;exact⟨rfl,aX _ _⟩
end
def Bd.ok(d:Bd):Prop:=aL d.s/\aL d.m/\aL d.c/\aL d.q/\aL d.p
theorem a1o(x:ak)(d:Bd)(w:aJ)(h:lf w x)(hm:aA x.ms<=100000)(hs:aA x.ss<=100000)(hI:d.ok):
 aQ aM 88 #[x.val,d.val] w λe w'=>e=aT (aG aF (nS x d))/\aY w.heap.size w w':=by
 obtain⟨is,im,ic,iq,ip⟩:=hI;have HE:=η (show nS x d=if Gt x d=aO then 9 else if Gu x d=aO then 10 else if Gv d=aO then 1 else if Jq d=aO then 2 else if Gw x d=aO then 15 else 0 from rfl);generalize nS x d=ee at*;have hb1:aY w.heap.size w (w.alloc (aK #[aH x.Am (aA x.ms) x.cm,aH x.As (aA x.ss) x.cs,aH x.Ac (aA x.cy) x.cc,aG aF x.line,aG aF x.bV,aG aF x.lead,aG aF x.tr,aG aF x.bT] 26)):=mQ w x;have hb2:aY w.heap.size w ((w.alloc (aK #[aH x.Am (aA x.ms) x.cm,aH x.As (aA x.ss) x.cs,aH x.Ac (aA x.cy) x.cc,aG aF x.line,aG aF x.bV,aG aF x.lead,aG aF x.tr,aG aF x.bT] 26)).alloc (aK #[aG aF d.s,aG aF d.m,aG aF d.c,aG aF d.q,aG aF d.p] 41)):=hb1.alloc hb1.size _;have nX:pX ((w.alloc (aK #[aH x.Am (aA x.ms) x.cm,aH x.As (aA x.ss) x.cs,aH x.Ac (aA x.cy) x.cc,aG aF x.line,aG aF x.bV,aG aF x.lead,aG aF x.tr,aG aF x.bT] 26)).alloc (aK #[aG aF d.s,aG aF d.m,aG aF d.c,aG aF d.q,aG aF d.p] 41)) w.heap.size x:=(zi w x).below σ;have dS:lf ((w.alloc (aK #[aH x.Am (aA x.ms) x.cm,aH x.As (aA x.ss) x.cs,aH x.Ac (aA x.cy) x.cc,aG aF x.line,aG aF x.bV,aG aF x.lead,aG aF x.tr,aG aF x.bT] 26)).alloc (aK #[aG aF d.s,aG aF d.m,aG aF d.c,aG aF d.q,aG aF d.p] 41)) x:=h.below hb2;have hd:∀(j:Nat) (u:aN),(#[aG aF d.s,aG aF d.m,aG aF d.c,aG aF d.q,aG aF d.p]:Array aN)[j]? =aC u->((w.alloc (aK #[aH x.Am (aA x.ms) x.cm,aH x.As (aA x.ss) x.cs,aH x.Ac (aA x.cy) x.cc,aG aF x.line,aG aF x.bV,aG aF x.lead,aG aF x.tr,aG aF x.bT] 26)).alloc (aK #[aG aF d.s,aG aF d.m,aG aF d.c,aG aF d.q,aG aF d.p] 41)).cell? ⟨w.heap.size+1,j,aB⟩=aC u:=by intro j u hu;rw [cL _ _ _ _ (by simp)];exact hu
 have hsz:((w.alloc (aK #[aH x.Am (aA x.ms) x.cm,aH x.As (aA x.ss) x.cs,aH x.Ac (aA x.cy) x.cc,aG aF x.line,aG aF x.bV,aG aF x.lead,aG aF x.tr,aG aF x.bT] 26)).alloc (aK #[aG aF d.s,aG aF d.m,aG aF d.c,aG aF d.q,aG aF d.p] 41)).heap.size=w.heap.size+2:=by simp
 have HB:=η hb2;have uD:=η nX;have dQ:=η dS;have HD:=η hd;obtain⟨c0,c1,c2,c3,c4,c5,c6,c7,jk⟩:=nX;have e2:=hd 2 _ rfl;unfold ak.val Bd.val at*;go_enter func88,ntmps88
 go_upto_region 1 with (fail)
 generalize hW:((w.alloc (aK #[aH x.Am (aA x.ms) x.cm,aH x.As (aA x.ss) x.cs,aH x.Ac (aA x.cy) x.cc,aG aF x.line,aG aF x.bV,aG aF x.lead,aG aF x.tr,aG aF x.bT] 26)).alloc (aK #[aG aF d.s,aG aF d.m,aG aF d.c,aG aF d.q,aG aF d.p] 41))=W at*;have HS:=η (Nj x d.c W dQ.o ic);unfold ak.val at HS;go_upto_region 2 with (go_at_call 117;refine HS.o.mono ?_;rintro e w1 ⟨rfl,hb1⟩;have aR:=η hb1)
 have hs1:=hsz;have h1:=aR.o.size;have nB:aY W.heap.size W (w1.alloc (aK #[aG aF (dX x d.c).a,aG aF (dX x d.c).b] 69)):=aR.o.alloc h1 _;have iO:aY W.heap.size W ((w1.alloc (aK #[aG aF (dX x d.c).a,aG aF (dX x d.c).b] 69)).alloc (aK #[aG aF (jL x d.c)] 32)):=nB.alloc nB.size _;have gF:aY W.heap.size W (((w1.alloc (aK #[aG aF (dX x d.c).a,aG aF (dX x d.c).b] 69)).alloc (aK #[aG aF (jL x d.c)] 32)).alloc (aK (Em w.heap.size (w.heap.size+1) w1.heap.size (w1.heap.size+1)) 223)):=iO.alloc iO.size _;have Hv:aY w1.heap.size (w1.alloc (aK #[aG aF (dX x d.c).a,aG aF (dX x d.c).b] 69)) (((w1.alloc (aK #[aG aF (dX x d.c).a,aG aF (dX x d.c).b] 69)).alloc (aK #[aG aF (jL x d.c)] 32)).alloc (aK (Em w.heap.size (w.heap.size+1) w1.heap.size (w1.heap.size+1)) 223)):=((aX _ _).alloc (by simp) _).alloc (by simp;omega) _;have HN:Hid (Kn (((w1.alloc (aK #[aG aF (dX x d.c).a,aG aF (dX x d.c).b] 69)).alloc (aK #[aG aF (jL x d.c)] 32)).alloc (aK (Em w.heap.size (w.heap.size+1) w1.heap.size (w1.heap.size+1)) 223)) w.heap.size (w.heap.size+1) w1.heap.size (w1.heap.size+1) (w1.heap.size+1+1) x d):=η ⟨uD.o.below gF,dQ.o.below gF,(gF.cell (p:=⟨w.heap.size+1,1,aB⟩) (by simp;omega)).trans (HD.o 1 _ rfl),(gF.cell (p:=⟨w.heap.size+1,3,aB⟩) (by simp;omega)).trans (HD.o 3 _ rfl),(gF.cell (p:=⟨w.heap.size+1,4,aB⟩) (by simp;omega)).trans (HD.o 4 _ rfl),(by
  have q:aY (w1.heap.size+1) (w1.alloc (aK #[aG aF (dX x d.c).a,aG aF (dX x d.c).b] 69)) (((w1.alloc (aK #[aG aF (dX x d.c).a,aG aF (dX x d.c).b] 69)).alloc (aK #[aG aF (jL x d.c)] 32)).alloc (aK (Em w.heap.size (w.heap.size+1) w1.heap.size (w1.heap.size+1)) 223)):=((aX _ _).alloc (by simp) _).alloc (by simp) _;exact(q.cell (p:=⟨w1.heap.size,1,aB⟩) (by simp)).trans (cL _ _ _ 1 rfl)),(by
  have q:aY (w1.heap.size+2) ((w1.alloc (aK #[aG aF (dX x d.c).a,aG aF (dX x d.c).b] 69)).alloc (aK #[aG aF (jL x d.c)] 32)) (((w1.alloc (aK #[aG aF (dX x d.c).a,aG aF (dX x d.c).b] 69)).alloc (aK #[aG aF (jL x d.c)] 32)).alloc (aK (Em w.heap.size (w.heap.size+1) w1.heap.size (w1.heap.size+1)) 223)):=(aX _ _).alloc (by simp) _;exact(q.cell (p:=⟨w1.heap.size+1,0,aB⟩) (by simp)).trans (by rw [cL _ _ _ _ (by simp)];rfl)),(λj u hu=>by rw [cL _ _ _ _ (by simp)];exact hu),by simp;omega,by simp;omega,by simp,by simp⟩
 have cC:Hid (aY w.heap.size w (((w1.alloc (aK #[aG aF (dX x d.c).a,aG aF (dX x d.c).b] 69)).alloc (aK #[aG aF (jL x d.c)] 32)).alloc (aK (Em w.heap.size (w.heap.size+1) w1.heap.size (w1.heap.size+1)) 223))):=HB.o.trans (gF.mono HB.o.size);unfold Em at HN cC;go_wp2_with fail
 generalize ((w1.alloc (aK #[aG aF (dX x d.c).a,aG aF (dX x d.c).b] 69)).alloc (aK #[aG aF (jL x d.c)] 32)).alloc (aK #[aG aF 9,.func (.func 149) #[] #[bF (aC ⟨w.heap.size,0,aB⟩),bF (aC ⟨w.heap.size+1,0,aB⟩)],aG aF 10,.func (.func 150) #[] #[bF (aC ⟨w1.heap.size+1,0,aB⟩)],aG aF 1,.func (.func 151) #[] #[bF (aC ⟨w.heap.size+1,0,aB⟩)],aG aF 2,.func (.func 152) #[] #[bF (aC ⟨w.heap.size+1,0,aB⟩)],aG aF 15,.func (.func 153) #[] #[bF (aC ⟨w.heap.size+1,0,aB⟩),bF (aC ⟨w1.heap.size,0,aB⟩)]] 223)=w2 at HN cC ⊢;have aR:=cC;generalize e10:w.heap.size+1=b1 at HN ⊢;generalize e11:w.heap.size=b0 at HN aR ⊢;generalize e12:w1.heap.size+1=be at HN ⊢;generalize e13:be+1=bt at HN ⊢;generalize e14:w1.heap.size=bs at HN ⊢;refine um 6 ?_;rw [eB];have t0:w2.cell? ⟨bt,0,aB⟩=aC (aG aF 9):=HN.o.tab 0 _ rfl;have t1:w2.cell? ⟨bt,1,aB⟩=aC (.func (.func 149) #[] #[bF (aC ⟨b0,0,aB⟩),bF (aC ⟨b1,0,aB⟩)]):=HN.o.tab 1 _ rfl;have hlt:=HN.o.h4;have bX:=η (HN.o.below ((aX _ _).alloc (aa _) (aK #[aG aF 9,.func (.func 149) #[] #[bF (aC ⟨b0,0,aB⟩),bF (aC ⟨b1,0,aB⟩)]] 223)));have hsz:b0<=w2.heap.size:=by rw [<-e11];exact aR.o.size
 go_wp2_with fail
 refine(aD6 x d b0 b1 bs be bt _ bX.o im).mono ?_;rintro e w3 ⟨rfl,hb⟩;have fD:Hid (aY b0 w w3):=(aR.o.alloc hsz _).trans (hb.mono (by simp;omega));have jg:=η (bX.o.below hb);have q0:w3.cell? ⟨w2.heap.size,0,aB⟩=aC (aG aF 9):=(hb.cell (p:=⟨w2.heap.size,0,aB⟩) (by simp)).trans (cL _ _ _ 0 rfl);cases gX:Gt x d
 case true=>
  have HF:Hid (9=ee):=by show _=_;rw [HE.o];simp [gX]
  go_wp2_with fail
  go_ret;exact⟨cj HF.o,by rw [e11];exact fD.o⟩
 have HN:=jg;have aR:=fD;go_wp2_with fail
 rw [eB];have t0:w3.cell? ⟨bt,2,aB⟩=aC (aG aF 10):=HN.o.tab 2 _ rfl;have t1:w3.cell? ⟨bt,3,aB⟩=aC (.func (.func 150) #[] #[bF (aC ⟨be,0,aB⟩)]):=HN.o.tab 3 _ rfl;have hlt:=HN.o.h4;have bX:=η (HN.o.below ((aX _ _).alloc (aa _) (aK #[aG aF 10,.func (.func 150) #[] #[bF (aC ⟨be,0,aB⟩)]] 223)));have hsz:b0<=w3.heap.size:=by rw [<-e11];exact aR.o.size
 go_wp2_with fail
 refine(aD7 x d b0 b1 bs be bt _ bX.o).mono ?_;rintro e w4 ⟨rfl,hb⟩;have fD:Hid (aY b0 w w4):=(aR.o.alloc hsz _).trans (hb.mono (by simp;omega));have jg:=η (bX.o.below hb);have q0:w4.cell? ⟨w3.heap.size,0,aB⟩=aC (aG aF 10):=(hb.cell (p:=⟨w3.heap.size,0,aB⟩) (by simp)).trans (cL _ _ _ 0 rfl);cases mU:Gu x d
 case true=>
  have HF:Hid (10=ee):=by show _=_;rw [HE.o];simp [gX,mU]
  go_wp2_with fail
  go_ret;exact⟨cj HF.o,by rw [e11];exact fD.o⟩
 have HN:=jg;have aR:=fD;go_wp2_with fail
 rw [eB];have t0:w4.cell? ⟨bt,4,aB⟩=aC (aG aF 1):=HN.o.tab 4 _ rfl;have t1:w4.cell? ⟨bt,5,aB⟩=aC (.func (.func 151) #[] #[bF (aC ⟨b1,0,aB⟩)]):=HN.o.tab 5 _ rfl;have hlt:=HN.o.h4;have bX:=η (HN.o.below ((aX _ _).alloc (aa _) (aK #[aG aF 1,.func (.func 151) #[] #[bF (aC ⟨b1,0,aB⟩)]] 223)));have hsz:b0<=w4.heap.size:=by rw [<-e11];exact aR.o.size
 go_wp2_with fail
 refine(aD8 x d b0 b1 bs be bt _ bX.o).mono ?_;rintro e w5 ⟨rfl,hb⟩;have fD:Hid (aY b0 w w5):=(aR.o.alloc hsz _).trans (hb.mono (by simp;omega));have jg:=η (bX.o.below hb);have q0:w5.cell? ⟨w4.heap.size,0,aB⟩=aC (aG aF 1):=(hb.cell (p:=⟨w4.heap.size,0,aB⟩) (by simp)).trans (cL _ _ _ 0 rfl);cases jZ:Gv d
 case true=>
  have HF:Hid (1=ee):=by show _=_;rw [HE.o];simp [gX,mU,jZ]
  go_wp2_with fail
  go_ret;exact⟨cj HF.o,by rw [e11];exact fD.o⟩
 have HN:=jg;have aR:=fD;go_wp2_with fail
 rw [eB];have t0:w5.cell? ⟨bt,6,aB⟩=aC (aG aF 2):=HN.o.tab 6 _ rfl;have t1:w5.cell? ⟨bt,7,aB⟩=aC (.func (.func 152) #[] #[bF (aC ⟨b1,0,aB⟩)]):=HN.o.tab 7 _ rfl;have hlt:=HN.o.h4;have bX:=η (HN.o.below ((aX _ _).alloc (aa _) (aK #[aG aF 2,.func (.func 152) #[] #[bF (aC ⟨b1,0,aB⟩)]] 223)));have hsz:b0<=w5.heap.size:=by rw [<-e11];exact aR.o.size
 go_wp2_with fail
 refine(aD9 x d b0 b1 bs be bt _ bX.o).mono ?_;rintro e w6 ⟨rfl,hb⟩;have fD:Hid (aY b0 w w6):=(aR.o.alloc hsz _).trans (hb.mono (by simp;omega));have jg:=η (bX.o.below hb);have q0:w6.cell? ⟨w5.heap.size,0,aB⟩=aC (aG aF 2):=(hb.cell (p:=⟨w5.heap.size,0,aB⟩) (by simp)).trans (cL _ _ _ 0 rfl);cases uZ:Jq d
 case true=>
  have HF:Hid (2=ee):=by show _=_;rw [HE.o];simp [gX,mU,jZ,uZ]
  go_wp2_with fail
  go_ret;exact⟨cj HF.o,by rw [e11];exact fD.o⟩
 have HN:=jg;have aR:=fD;go_wp2_with fail
 rw [eB];have t0:w6.cell? ⟨bt,8,aB⟩=aC (aG aF 15):=HN.o.tab 8 _ rfl;have t1:w6.cell? ⟨bt,9,aB⟩=aC (.func (.func 153) #[] #[bF (aC ⟨b1,0,aB⟩),bF (aC ⟨bs,0,aB⟩)]):=HN.o.tab 9 _ rfl;have hlt:=HN.o.h4;have bX:=η (HN.o.below ((aX _ _).alloc (aa _) (aK #[aG aF 15,.func (.func 153) #[] #[bF (aC ⟨b1,0,aB⟩),bF (aC ⟨bs,0,aB⟩)]] 223)));have hsz:b0<=w6.heap.size:=by rw [<-e11];exact aR.o.size
 go_wp2_with fail
 refine(aDA x d b0 b1 bs be bt _ bX.o).mono ?_;rintro e w7 ⟨rfl,hb⟩;have fD:Hid (aY b0 w w7):=(aR.o.alloc hsz _).trans (hb.mono (by simp;omega));have jg:=η (bX.o.below hb);have q0:w7.cell? ⟨w6.heap.size,0,aB⟩=aC (aG aF 15):=(hb.cell (p:=⟨w6.heap.size,0,aB⟩) (by simp)).trans (cL _ _ _ 0 rfl);cases xU:Gw x d
 case true=>
  have HF:Hid (15=ee):=by show _=_;rw [HE.o];simp [gX,mU,jZ,uZ,xU]
  go_wp2_with fail
  go_ret;exact⟨cj HF.o,by rw [e11];exact fD.o⟩
 have HN:=jg;have aR:=fD;go_wp2_with fail
 rw [eB];have HF:Hid (0=ee):=by show _=_;rw [HE.o];simp [gX,mU,jZ,uZ,xU]
 go_wp2_with fail
 go_ret;exact⟨cj HF.o,by rw [e11];exact aR.o⟩
end
def aAG(x:ak)(w:aJ)(e:dU)(w':aJ):Prop:=
 β w w'/\((zj x≠0/\e=aT (bB #[bF aB,ν (zj x)]))\/(zj x=0/\∃nb Am cm As cs Ac cc,e=aT (bB #[π nb,ν 0])/\jA w' nb ({x with Am:=Am,cm:=cm,As:=As,cs:=cs,Ac:=Ac,cc:=cc}:ak) (aH aB 0 0) []/\wJ w' w.heap.size ({x with Am:=Am,cm:=cm,As:=As,cs:=cs,Ac:=Ac,cc:=cc}:ak)/\w.heap.size<=nb))
theorem aMC(x:ak)(w:aJ)(h:uq w x)(hm:aA x.ms<=100000)(hs:aA x.ss<=100000)(hc:aA x.cy<=100000):
 aQ aM 30 #[x.val] w (aAG x w):=by
 have aZ:=η (mQ w x);have HK:=η (aEO x (w.alloc (aK #[aH x.Am (aA x.ms) x.cm,aH x.As (aA x.ss) x.cs,aH x.Ac (aA x.cy) x.cc,ν x.line,ν x.bV,ν x.lead,ν x.tr,ν x.bT] 26)) (h.ok.below (mQ w x)) hm hs hc);have uD:=η (zi w x);have CR:=η (λW hW=>a2R x W (h.below hW) hm hs hc);unfold ak.val at*;go_enter func30,ntmps30
 obtain⟨c0,c1,c2,c3,c4,c5,c6,c7,jk⟩:=uD.o;go_upto_region 2 with (go_at_call 78;refine kW HK.o λw1 aR=> ?_)
 have iI:=η (aZ.o.trans (aR.o.mono aZ.o.size));have wO:=η (uD.o.below aR.o);obtain⟨c0,c1,c2,c3,c4,c5,c6,c7,jk⟩:=wO.o;by_cases hk:zj x=0
 ·rw [hk];have HP:=η (CR.o w1 iI.o);go_wp2_with (go_at_call 32;refine HP.o.mono ?_;rintro e w2 ⟨Am,cm,As,cs,Ac,cc,rfl,eU,hb2⟩;have dE:=η eU;have aV:=η hb2)
  go_ret2;refine⟨(iI.o.trans (aV.o.mono iI.o.size)).alloc (bz iI.o.size aV.o.size) _,aU ⟨hk,w2.heap.size,Am,cm,As,cs,Ac,cc,rfl,⟨cO w2 _,fh _ _ _ _⟩, ?_,bz iI.o.size aV.o.size⟩⟩;have q:=dE.o.below ((aX _ _).alloc (aa _) (aK #[aH Am (aA x.ms) cm,aH As (aA x.ss) cs,aH Ac (aA x.cy) cc,ν x.line,ν x.bV,ν x.lead,ν x.tr,ν x.bT,aH aB 0 0] 134));exact⟨iC q.m iI.o.size,iC q.s iI.o.size,iC q.c iI.o.size⟩
 have hkb:(zj x==0)=aP:=by simpa using hk
 have TP:=η hk;go_wp2
 go_ret2;exact⟨iI.o,aS ⟨TP.o,rfl⟩⟩
def xB(x:ak)(L:List Bd)(d:Bd):Int:=if nS x d≠0 then nS x d else if x.bT<=(aA L) then 6 else 0
theorem Uu(L:List Bd)(x:Bd):nR (L++ [x])=nR L++x.cells:=by simp [nR]
theorem Uv(x:Bd):∀u∈x.cells,u.oneCell'=aO:=by intro u hu;simp [Bd.cells] at hu;rcases hu with rfl|rfl|rfl|rfl|rfl<;>rfl
def Sd(xb:Nat)(x:ak)(v:aN)(L:List Bd)(d:Bd)(w:aJ)(e:dU)(w':aJ):Prop:=
 (xB x L d≠0/\e=aT (bB #[ν 0,ν (xB x L d)])/\β w w')\/(xB x L d=0/\∃v',e=aT (bB #[ν ((aA L:Int)+1),ν 0])/\jA w' xb x v' (L++ [{d with s:=(aA L:Int)+1}])/\bC (λk=>k=xb\/v.ownBlock=aC k) w w'/\∀k,v'.ownBlock=aC k->v.ownBlock=aC k\/w.heap.size<=k)
theorem aM8(x:ak)(v:aN)(L:List Bd)(d:Bd)(xb:Nat)(w:aJ)(h:jA w xb x v L)(hk:lf w x)(hm:aA x.ms<=100000)(hs:aA x.ss<=100000)(hI:d.ok)(hl:aA L<=99999)(hb:aL x.bT):
 aQ aM 90 #[π xb,d.val] w (Sd xb x v L d w):=by
 obtain⟨ds,dm,dc,dq,dp⟩:=d;have HE:Hid (xB x L ⟨ds,dm,dc,dq,dp⟩=if nS x ⟨ds,dm,dc,dq,dp⟩≠0 then nS x ⟨ds,dm,dc,dq,dp⟩ else if x.bT<=(aA L) then 6 else 0):=η rfl;have aZ:Hid (β w (w.alloc (aK #[ν ds,ν dm,ν dc,ν dq,ν dp] 41))):=η σ;have HT:=η (h.below aZ.o);have pZ:=η (λW hW=>a1o x ⟨ds,dm,dc,dq,dp⟩ W (hk.below hW) hm hs hI);have hz0:w.heap.size<(w.alloc (aK #[ν ds,ν dm,ν dc,ν dq,ν dp] 41)).heap.size:=by simp
 have HX:Hid ((w.alloc (aK #[ν ds,ν dm,ν dc,ν dq,ν dp] 41)).heap[w.heap.size]? =aC (aK #[ν ds,ν dm,ν dc,ν dq,ν dp] 41 (0,0))):=η (cO w _);have FR:=h.lt;have rS:Hid (∀k,v.ownBlock=aC k->k<w.heap.size):=η (λk hk=>(h.own.lt k hk).2);clear h hk hI hb;unfold ak.val Bd.val at*;unfold Sd;generalize xB x L ⟨ds,dm,dc,dq,dp⟩=ae at HE ⊢;generalize nS x ⟨ds,dm,dc,dq,dp⟩=be at HE pZ ⊢;go_enter func90,ntmps90
 go_upto_region 3 with (fail)
 generalize w.alloc (aK #[ν ds,ν dm,ν dc,ν dq,ν dp] 41)=w1 at*;obtain⟨bx,bU⟩:∃bx,bx=w.heap.size:=⟨_,rfl⟩;have dL:=η bU;rw [<-bU] at HX hz0 ⊢;have htx:xb<bx:=by omega
 clear bU;have bO:Hid (∀W,β w1 W->W.cell? ⟨xb,0,aB⟩=aC (aH x.Am (aA x.ms) x.cm)/\W.cell? ⟨xb,1,aB⟩=aC (aH x.As (aA x.ss) x.cs)/\W.cell? ⟨xb,2,aB⟩=aC (aH x.Ac (aA x.cy) x.cc)/\W.cell? ⟨xb,3,aB⟩=aC (ν x.line)/\W.cell? ⟨xb,4,aB⟩=aC (ν x.bV)/\W.cell? ⟨xb,5,aB⟩=aC (ν x.lead)/\W.cell? ⟨xb,6,aB⟩=aC (ν x.tr)/\W.cell? ⟨xb,7,aB⟩=aC (ν x.bT)/\W.cell? ⟨bx,0,aB⟩=aC (ν ds)/\W.cell? ⟨bx,1,aB⟩=aC (ν dm)/\W.cell? ⟨bx,2,aB⟩=aC (ν dc)/\W.cell? ⟨bx,3,aB⟩=aC (ν dq)/\W.cell? ⟨bx,4,aB⟩=aC (ν dp)):=η (by intro W hW;have hb:=(HT.o.below hW).blk;have hd:W.heap[bx]? =aC (aK #[ν ds,ν dm,ν dc,ν dq,ν dp] 41 (0,0)):=(hW.block bx hz0).trans HX.o;exact⟨ρ hb,ρ hb,ρ hb,ρ hb,ρ hb,ρ hb,ρ hb,ρ hb,ρ hd,ρ hd,ρ hd,ρ hd,ρ hd⟩);have eI:Hid (∀W,β w1 W->β w W):=η (λW hW=>aZ.o.trans (hW.mono aZ.o.size));have bP:β w1 w1.drew:=(aX _ _).drew;go_region_held3 (λW=>W.cell? ⟨xb,0,aB⟩=aC (aH x.Am (aA x.ms) x.cm)/\W.cell? ⟨xb,1,aB⟩=aC (aH x.As (aA x.ss) x.cs)/\W.cell? ⟨xb,2,aB⟩=aC (aH x.Ac (aA x.cy) x.cc)/\W.cell? ⟨xb,3,aB⟩=aC (ν x.line)/\W.cell? ⟨xb,4,aB⟩=aC (ν x.bV)/\W.cell? ⟨xb,5,aB⟩=aC (ν x.lead)/\W.cell? ⟨xb,6,aB⟩=aC (ν x.tr)/\W.cell? ⟨xb,7,aB⟩=aC (ν x.bT)/\W.cell? ⟨bx,0,aB⟩=aC (ν ds)/\W.cell? ⟨bx,1,aB⟩=aC (ν dm)/\W.cell? ⟨bx,2,aB⟩=aC (ν dc)/\W.cell? ⟨bx,3,aB⟩=aC (ν dq)/\W.cell? ⟨bx,4,aB⟩=aC (ν dp)) (first|(with_reducible exact bO.o _ bP)|(with_reducible exact bO.o _ hb2)|(with_reducible exact bO.o _ hb3)) ((go_at_call 88;refine(pZ.o _ (eI.o _ bP)).mono ?_;rintro e w2 ⟨rfl,vU⟩;have hb2:β w1 w2:=bP.trans (vU.mono bP.size)))
 have aV:=η hb2;clear vU bP;have qY:=η (HT.o.below aV.o);have kQ:Hid (w2.heap[bx]? =aC (aK #[ν ds,ν dm,ν dc,ν dq,ν dp] 41 (0,0))):=η ((aV.o.block bx hz0).trans HX.o);have hz2:bx<w2.heap.size:=cP hz0 aV.o.size;have cC:=η (eI.o _ aV.o);clear HT HX aV eI bO aZ pZ hz0;by_cases h1:be=0
 case neg=>
  have km:(be==0)=aP:=by simpa using h1
  have e1:ae=be:=by rw [HE.o,ifP h1]
  have HN:Hid (ae≠0):=η (by rw [e1];exact h1);rw [<-e1] at km ⊢;clear HE e1 h1;go_wp2_with fail
  go_ret2;exact aS ⟨HN.o,rfl,cC.o⟩
 subst h1;obtain⟨A,c,hv⟩:=bL qY.o.own;subst hv;have c8:=qY.o.c8;go_upto_region 6 with (fail)
 go_quiet (fail)
 have ED:Hid (β w (w2.drewN nq)):=η (below_drewN cC.o nq);have Oj:Hid (jA (w2.drewN nq) xb x (aH A (aA L) c) L):=η ⟨qY.o.blk,qY.o.own⟩;have Ou:Hid ((w2.drewN nq).heap[bx]? =aC (aK #[ν ds,ν dm,ν dc,ν dq,ν dp] 41 (0,0))):=η kQ.o;have hzq:bx<(w2.drewN nq).heap.size:=hz2;clear cC qY kQ hz2 c8;generalize w2.drewN nq=w3 at*;by_cases h2:x.bT<=aA L
 ·have zw:decide (x.bT<=(aA L:Int))=aO:=decide_eq_true h2;have e1:ae=6:=by rw [HE.o,ifN (by simp),ifP h2]
  have HN:Hid (ae≠0):=η (by rw [e1];decide);have xz:=η e1;clear HE e1;go_wp2_with fail
  go_ret2;exact aS ⟨HN.o,by rw [xz.o];rfl,ED.o⟩
 have HZ:Hid (ae=0):=η (by rw [HE.o,ifN (by simp),ifN h2]);have h3:(aA L:Int)<x.bT:=by omega
 clear HE h2;have c8:=Oj.o.c8;have q0:w3.frozen? ⟨bx,0,aB⟩=aP:=by simp [iK,Ou.o]
 have q1:=r1c Ou;go_upto_region 9 with (fail)
 have OZ:Hid (bx≠xb):=η (by omega);have JP:Hid ((aH A (aA L) c).ownBlock≠aC bx):=η (λe=>by have:=rS.o bx e;rw [dL.o] at this;omega);have rR:Hid (jA (w3.setCell ⟨bx,0,aB⟩ (ν ((aA L:Int)+1))) xb x (aH A (aA L) c) L):=η ⟨(nK _ _ _ _ (λe=>OZ.o e.symm)).trans Oj.o.blk,kK Oj.o.own JP.o _⟩;have pD:Hid ((w3.setCell ⟨bx,0,aB⟩ (ν ((aA L:Int)+1))).heap[bx]? =aC (aK #[ν ((aA L:Int)+1),ν dm,ν dc,ν dq,ν dp] 41 (0,0))):=η ((lu Ou.o 0 _).trans rfl);have GG:Hid (bC (λk=>k=xb\/(aH A (aA L) c).ownBlock=aC k) w (w3.setCell ⟨bx,0,aB⟩ (ν ((aA L:Int)+1)))):=η ((bC.bZ _ ED.o).setCell (p:=⟨bx,0,aB⟩) (aU (Nat.le_of_eq dL.o.symm)) _);have mW:bx<(w3.setCell ⟨bx,0,aB⟩ (ν ((aA L:Int)+1))).heap.size:=by simpa using hzq
 have hzz:w.heap.size<=(w3.setCell ⟨bx,0,aB⟩ (ν ((aA L:Int)+1))).heap.size:=GG.o.size;generalize w3.setCell ⟨bx,0,aB⟩ (ν ((aA L:Int)+1))=w4 at*;clear Oj Ou ED c8 q0 q1 hzq;have d0:w4.drew.cell? ⟨xb,8,aB⟩=aC (aH A (aA L) c):=rR.o.c8;obtain⟨d1,d2,d3,d4,d5⟩:=r5c pD;have GF:Hid (jA w4.drew xb x (aH A (aA L) c) L):=η ⟨rR.o.blk,rR.o.own⟩;have JW:Hid (bC (λk=>k=xb\/(aH A (aA L) c).ownBlock=aC k) w w4.drew):=η GG.o.drew;have a4Y:xb<w4.drew.heap.size:=rR.o.lt;have Mf:bx<w4.drew.heap.size:=mW;have qU:Hid (aC xb≠(aH A (aA L) c).ownBlock):=η (λe=>rR.o.ne e.symm);have bX:Hid (aC bx≠(aH A (aA L) c).ownBlock):=η (λe=>JP.o e.symm);obtain⟨r,hr⟩:∃r,r=(aH A (aA L) c).ownBlock:=⟨_,rfl⟩;rw [<-hr] at qU bX;have HR:=η hr;clear hr rR pD GG JP;refine Iw (S:=λW=>W.cell? ⟨xb,8,aB⟩=aC (aH A (aA L) c)/\W.cell? ⟨bx,0,aB⟩=aC (ν ((aA L:Int)+1))/\W.cell? ⟨bx,1,aB⟩=aC (ν dm)/\W.cell? ⟨bx,2,aB⟩=aC (ν dc)/\W.cell? ⟨bx,3,aB⟩=aC (ν dq)/\W.cell? ⟨bx,4,aB⟩=aC (ν dp)) 10 (by kernel_rfl) ⟨d0,d1,d2,d3,d4,d5⟩ (λhHeld=> ?_);have bO:Hid (∀W,w4.drew.grownBy W r->W.cell? ⟨xb,8,aB⟩=aC (aH A (aA L) c)/\W.cell? ⟨bx,0,aB⟩=aC (ν ((aA L:Int)+1))/\W.cell? ⟨bx,1,aB⟩=aC (ν dm)/\W.cell? ⟨bx,2,aB⟩=aC (ν dc)/\W.cell? ⟨bx,3,aB⟩=aC (ν dq)/\W.cell? ⟨bx,4,aB⟩=aC (ν dp)):=η λW hg=>⟨(hg.cell_far ⟨xb,8,aB⟩ a4Y qU.o).trans d0,(hg.cell_far ⟨bx,0,aB⟩ Mf bX.o).trans d1,(hg.cell_far ⟨bx,1,aB⟩ Mf bX.o).trans d2,(hg.cell_far ⟨bx,2,aB⟩ Mf bX.o).trans d3,(hg.cell_far ⟨bx,3,aB⟩ Mf bX.o).trans d4,(hg.cell_far ⟨bx,4,aB⟩ Mf bX.o).trans d5⟩
 clear d0 d1 d2 d3 d4 d5;have aH2:w.heap.size<=w4.drew.heap.size:=hzz;clear hzz mW;generalize w4.drew=w5 at*;have B1:Hid (w5.grownBy w5 r):=η (Hl (aX _ _) r);obtain⟨ib,hib,R9,RA,RB⟩:=dJ XA;refine eC (i:=0) (v:=π xb) rfl (by kernel_rfl) (by kernel_rfl) (by kernel_rfl) (by kernel_rfl) (by kernel_rfl) (λ_ _ _ h=>h) (aS ⟨by rfl,λw' hSw=>by obtain⟨s0,s1,s2,s3,s4,s5⟩:=hSw;go_simp⟩) hHeld ?_;refine eC (i:=1) (v:=π xb) rfl (by kernel_rfl) (by kernel_rfl) (by kernel_rfl) (by kernel_rfl) (by kernel_rfl) (λ_ _ _ h=>h) (aS ⟨by rfl,λw' hSw=>by obtain⟨s0,s1,s2,s3,s4,s5⟩:=hSw;go_simp⟩) hHeld ?_;refine eC (i:=2) (v:=π xb) rfl (by kernel_rfl) (by kernel_rfl) (by kernel_rfl) (by kernel_rfl) (by kernel_rfl) (λ_ _ _ h=>h) (aS ⟨by rfl,λw' hSw=>by obtain⟨s0,s1,s2,s3,s4,s5⟩:=hSw;go_simp⟩) hHeld ?_;refine eC (i:=3) (v:=bF (aC ⟨xb,8,aB⟩)) rfl (by kernel_rfl) (by kernel_rfl) (by kernel_rfl) (by kernel_rfl) (by kernel_rfl) (λ_ _ _ h=>h) (aS ⟨by rfl,λw' hSw=>by obtain⟨s0,s1,s2,s3,s4,s5⟩:=hSw;go_simp⟩) hHeld ?_;refine eC (i:=4) (v:=aH A (aA L) c) rfl (by kernel_rfl) (by kernel_rfl) (by kernel_rfl) (by kernel_rfl) (by kernel_rfl) (λ_ _ _ h=>h) (aS ⟨by rfl,λw' hSw=>by obtain⟨s0,s1,s2,s3,s4,s5⟩:=hSw;go_simp⟩) hHeld ?_;refine eC (i:=5) (v:=bQ #[ν ((aA L:Int)+1),ν dm,ν dc,ν dq,ν dp]) rfl (by kernel_rfl) (by kernel_rfl) (by kernel_rfl) (by kernel_rfl) (by kernel_rfl) (λ_ _ _ h=>h) (aS ⟨by rfl,λw' hSw=>by obtain⟨s0,s1,s2,s3,s4,s5⟩:=hSw;go_simp⟩) hHeld ?_;clear hHeld;refine nx (rs:= [6]) (by kernel_rfl) (by simp) ?_;refine ei.cons rfl (λK hK=> ?_) ei.nil;go_simp
 have B4:Hid (w5.grownBy (w5.alloc (aK #[ν ((aA L:Int)+1),ν dm,ν dc,ν dq,ν dp] 41)) r):=η (Q9 B1.o _);have jh:=η (GF.o.own.alloc (aK #[ν ((aA L:Int)+1),ν dm,ν dc,ν dq,ν dp] 41));have wV:Hid (∀j u,([ν ((aA L:Int)+1),ν dm,ν dc,ν dq,ν dp]:List aN)[j]? =aC u->(w5.alloc (aK #[ν ((aA L:Int)+1),ν dm,ν dc,ν dq,ν dp] 41)).cell? ((⟨w5.heap.size,0,aB⟩:aj).add j)=aC u):=η (dK w5 41 #[ν ((aA L:Int)+1),ν dm,ν dc,ν dq,ν dp] rfl);refine hK.o _ _ (λ_=>bO.o _ B4.o) (λ_=> ?_);clear hK K;generalize (w5.alloc (aK #[ν ((aA L:Int)+1),ν dm,ν dc,ν dq,ν dp] 41))=w6 at*;refine nx (rs:= [7]) (by kernel_rfl) (by simp) ?_;refine ei.cons rfl (λK hK=> ?_) ei.nil;refine AY _ rfl (.tmp 40) (.tmp 42) 132 rfl 0 41 ib _ 5 40 PK hib R9 RA RB rfl (by decide) _ (aA L) (nR L) rfl jh.o ⟨w5.heap.size,0,aB⟩ 1 1 [ν ((aA L:Int)+1),ν dm,ν dc,ν dq,ν dp] rfl rfl wV.o (Uv ⟨(aA L:Int)+1,dm,dc,dq,dp⟩) (by decide) (by simp only [bM];omega) (by omega) (bK _) w6.heap.size rfl ?_;intro g cap w7 hown hgr hat _;have jC:Hid (w5.grownBy w7 r):=η (Et B4.o hgr (aS HR.o.symm));have rN:=η hown;have Z3:Hid ((aH A (aA L) c).ownBlock=aC g\/w5.heap.size<=g):=η (hat.imp id (λe=>by rw [e];exact B4.o.size));clear hown hgr hat;refine hK.o _ _ (λ_=>bO.o _ jC.o) (λ_=> ?_);clear hK K;refine eC (i:=8) (v:=π xb) rfl (by kernel_rfl) (by kernel_rfl) (by kernel_rfl) (by kernel_rfl) (by kernel_rfl) (λ_ _ _ h=>h) (aS ⟨by rfl,λw' hSw=>by obtain⟨s0,s1,s2,s3,s4,s5⟩:=hSw;go_simp⟩) (bO.o _ jC.o) ?_;refine eC (i:=9) (v:=bF (aC ⟨xb,8,aB⟩)) rfl (by kernel_rfl) (by kernel_rfl) (by kernel_rfl) (by kernel_rfl) (by kernel_rfl) (λ_ _ _ h=>h) (aS ⟨by rfl,λw' hSw=>by obtain⟨s0,s1,s2,s3,s4,s5⟩:=hSw;go_simp⟩) (bO.o _ jC.o) ?_;refine nx (rs:= [10]) (by kernel_rfl) (by simp) ?_;refine ei.cons rfl (λK hK=> ?_) ei.nil;have c1:=(bO.o _ jC.o).1;have fP:=(jC.o.block xb a4Y qU.o).trans GF.o.blk;have hf7:w7.frozen? ⟨xb,8,aB⟩=aP:=by simp [iK,fP]
 have ew:=η fP;clear fP;go_simp
 refine hK.o _ _ (λh=>absurd rfl h) (λ_=> ?_);clear hK K;refine Iu (by kernel_rfl) ?_ _;have Hy:g≠xb:=by
  rintro rfl;rcases Z3.o with e|e
  ·exact qU.o (by rw [HR.o,e])
  omega
 have s0:(w7.setCell ⟨xb,8,aB⟩ (aH (aC ⟨g,0,aB⟩) (aA L+1) cap)).cell? ⟨bx,0,aB⟩=aC (ν ((aA L:Int)+1)):=by have:=(bO.o _ jC.o).2.1;exact(gu (a:=⟨bx,0,aB⟩) (nK _ _ _ _ OZ.o)).trans this
 go_wp2_with fail
 go_ret2;refine aU ⟨HZ.o,aH (aC ⟨g,0,aB⟩) (aA L+1) cap,rfl,⟨(lu ew.o 8 _).trans rfl, ?_⟩, ?_, ?_⟩
 ·rw [cN,Uu];exact kK rN.o (λe=>Hy (by simpa [dy] using e)) _
 ·have h2:bC (λk=>k=xb\/(aH A (aA L) c).ownBlock=aC k) w5 w7:=bC.IZ jC.o (λk hk=>aS (aU (by rw [<-HR.o];exact hk)));exact(JW.o.trans h2 (λk hk=>aS hk)).setCell (p:=⟨xb,8,aB⟩) (aS (aS rfl)) _
 intro k hk;have e:k=g:=by simpa [dy] using hk.symm
 subst e;rcases Z3.o with e|e
 ·exact aS e
 exact aU (bz aH2 e)
def bk(d:Bd):Int×Int:=(d.p,d.s)
def qP(L:List Bd)(s:Int):List Bd:=L.filter λd=>decide (d.c=s)
theorem aKN {L:List Bd} {k:Nat}(h:k<aA L)(s:Int):qP (L.take (k+1)) s=qP (L.take k) s++(if L[k].c=s then [L[k]] else []):=by
 rw [fF h];unfold qP;rw [List.filter_append];by_cases e:L[k].c=s
 ·rw [ifP e];simp [e]
 rw [ifN e];simp [e]
theorem a7E(L:List Bd)(s:Int):aA (qP L s)<=aA L:=qg _ _
structure E9(B:Nat)(sv kv:aN)(gs:List Nat)(done:List Bd)(W:aJ):Prop where
 s:W.ownsRow B 41 5 sv (aA done) (nR done)
 k:W.ownsRow B 53 1 kv (aA done) (gs.map k2)
 len:aA gs=aA done
 g:∀j (hj:j<aA gs) (hd:j<aA done),W.heap[gs[j]]? =aC (aK #[ν done[j].p,ν done[j].s] 2 (0,0))
theorem E9.below {B:Nat} {sv kv:aN} {gs:List Nat} {done:List Bd} {W W':aJ}(h:E9 B sv kv gs done W)(hb:aY W.heap.size W W'):E9 B sv kv gs done W':=
 ⟨gh h.s hb,gh h.k hb,h.len,λj hj hd=>(hb.block _ (fX.1 (h.g j hj hd)).1).trans (h.g j hj hd)⟩
theorem E9.key {B:Nat} {sv:aN} {A:Option aj} {c:Nat} {gs:List Nat} {done:List Bd} {W:aJ}(h:E9 B sv (aH A (aA done) c) gs done W):Cq W W.heap.size A (done.map bk):=λj hj=>by rw [iV] at hj;obtain⟨b,o,e,hb,hc⟩:=(aW.cA h.k).at (k:=j) (by rw [iV,h.len];exact hj);have hg:=h.g j (by rw [h.len];exact hj) hj;rw [wk] at hc;rw [wk];exact⟨b,o,gs[j]'(by rw [h.len];exact hj),2,e,hb,hc,(fX.1 hg).1,ρ hg,ρ hg⟩
def a8q(L:List Bd)(s:Int)(w:aJ)(e:dU)(w':aJ):Prop:=
 ∃v is,e=aT v/\Jb ((qP L s).map bk) is/\w'.ownsRow w.heap.size 41 5 v (aA is) (nR (is.map λi=>(qP L s).getD i ⟨0,0,0,0,0⟩))/\β w w'
theorem aMD(x:ak)(v:aN)(L:List Bd)(s:Int)(xb:Nat)(w:aJ)(h:jA w xb x v L)(hl:aA L<=100000)(hI:∀d∈L,aL d.s):
 aQ aM 134 #[π xb,ν s] w (a8q L s w):=by
 have Ah:=η (aM9 x v L xb w h hl);have HI:=η hI;obtain⟨ib,a4M,R9,RA,RB⟩:=dJ XA;obtain⟨i2,qM,X3,X4,X5⟩:=dJ a7O;go_enter func134,ntmps134
 go_wp2_with (go_at_call 193;refine Ah.o.mono ?_;unfold sU;rintro e w1 ⟨v1,rfl,eK,hb1⟩;have cF:=η eK;have aR:=η hb1;obtain⟨A1,c1,AJ⟩:=bL eK;subst AJ)
 have cX:=η (aW.cA cF.o);have a9S:Hid (E9 w1.heap.size (aH aB 0 0) (aH aB 0 0) [] (qP (L.take 0) s) w1):=η ⟨fh _ _ _ _,fh _ _ _ _,rfl,λj hj=>by simp at hj⟩;have aZ:Hid (β w1 w1):=η (aX _ _);go_loopw [5,7,9,15] (λsv kv _ i wr=>∃(k:Nat) (gs:List Nat),k<=aA L/\i=ν (k:Int)/\Hid (E9 w1.heap.size sv kv gs (qP (L.take k) s) wr)/\Hid (β w1 wr)) (λ_ _ _ i _=>aA L-(af i).toNat)
 case atStart=>exact⟨0,[],bK _,rfl,a9S,aZ⟩
 case round=>
  obtain⟨k,gs,hk,rfl,kP,HB⟩:=hrel;obtain⟨As,cs,N2⟩:=bL kP.o.s;obtain⟨Ak,ck,WR⟩:=bL kP.o.k;subst N2 WR;by_cases hlt:k<aA L
  ·have cG:=η (aKN hlt s);have jK:=bz (a7E (L.take k) s) (List.length_take_le _ _);obtain⟨be,oe,hA,km,e0,e1,e2,e3,e4⟩:=Pb (((cX.o).below HB.o).mono HB.o.size) hlt;have eY:(0:Int)<=(k:Int):=by omega
   have hkb:(k:Int)<(aA L:Int):=by omega
   subst hA;have HXV:Hid (L[k]=L[k]):=η rfl;generalize hd:L[k]=d at cG e0 e1 e2 e3 e4 HXV;generalize qP (L.take k) s=done at*;obtain⟨a2m,hd9⟩:∃q,q=qP (L.take (k+1)) s:=⟨_,rfl⟩;have oY:=η hd9;rw [<-hd9] at cG;obtain⟨ds,dm,dc,dq,dp⟩:=d;simp only at e0 e1 e2 e3 e4;by_cases hc:dc=s
   ·subst hc;have qx:a2m=done++ [⟨ds,dm,dc,dq,dp⟩]:=by rw [cG.o,ifP rfl]
    subst qx;have Wy:w1.heap.size<=wr.heap.size:=HB.o.size;have lL:=η (((aX wr.heap.size wr).alloc (aa _) (aK #[ν ds,ν dm,ν dc,ν dq,ν dp] 41)).alloc (by simp) (aK #[ν ds,ν dm,ν dc,ν dq,ν dp] 41));have oq:=η (kP.o.below lL.o);have cY:Hid (((wr.alloc (aK #[ν ds,ν dm,ν dc,ν dq,ν dp] 41)).alloc (aK #[ν ds,ν dm,ν dc,ν dq,ν dp] 41)).heap[wr.heap.size]? =aC (aK #[ν ds,ν dm,ν dc,ν dq,ν dp] 41 (0,0))):=η ((fG _ _ (by simp)).trans (cO wr _));have rS:Hid (∀j,(aH As (aA done) cs).ownBlock=aC j->w1.heap.size<=j/\j<wr.heap.size):=η (λj hj=>kP.o.s.lt j hj);have GH:Hid (∀j,(aH Ak (aA done) ck).ownBlock=aC j->w1.heap.size<=j/\j<wr.heap.size):=η (λj hj=>kP.o.k.lt j hj);have HLEN:=η kP.o.len;have Ks:=η HB.o;go_wp2_with (at_builtin;refine wpList_append_lies _ rfl _ _ 132 rfl w1.heap.size 41 ib _ 5 40 PK a4M R9 RA RB rfl (by omega) _ _ _ rfl oq.o.s ⟨wr.heap.size+1,0,aB⟩ 1 1 [ν ds,ν dm,ν dc,ν dq,ν dp] rfl rfl (dK _ _ #[ν ds,ν dm,ν dc,ν dq,ν dp] (by simp)) (Uv ⟨ds,dm,dc,dq,dp⟩) (by omega) (by simp only [bM];omega) (by omega) (by simp;omega) (wr.heap.size+1+1) (by simp) ?_)
    intro g3 tG w3 mS gN F2 _;have hz3:wr.heap.size+1<w3.heap.size:=by have:=gN.size;simp at this;omega
    have ag:Hid (aY w1.heap.size wr w3):=η ((lL.o.mono Wy).grown gN (by simp;omega) (λj hj=>(rS.o j hj).1));have hx3:=(gN.block wr.heap.size (by simp;omega) (λe=>by have:=(rS.o _ e.symm).2;omega)).trans cY.o;have y0:w3.cell? ⟨wr.heap.size,0,aB⟩=aC (ν ds):=ρ hx3;have y4:w3.cell? ⟨wr.heap.size,4,aB⟩=aC (ν dp):=ρ hx3;have od:Hid (w3.ownsRow w1.heap.size 53 1 (aH Ak (aA done) ck) (aA done) (gs.map k2)):=η (oq.o.k.kept gN (Bv oq.o.k oq.o.s (by decide)));have L4:Hid (∀j (hj:j<aA gs) (hd:j<aA done),w3.heap[gs[j]]? =aC (aK #[ν done[j].p,ν done[j].s] 2 (0,0))):=η (λj hj hd=>(gN.block _ (fX.1 (oq.o.g j hj hd)).1 (λe=>gP oq.o.s (oq.o.g j hj hd) (by decide) e.symm)).trans (oq.o.g j hj hd));have sY:Hid (w3.ownsRow w1.heap.size 41 5 (aH (aC ⟨g3,0,aB⟩) (aA done+1) tG) (aA done+1) (nR (done++ [⟨ds,dm,dc,dq,dp⟩]))):=η (by rw [Uu];exact mS);have rG:=η (((aX w3.heap.size w3).alloc (aa _) (aK #[ν dp,ν ds] 2)).alloc (by simp) (aK #[k2 w3.heap.size] 53));have yD:=η (gh od.o rG.o);have jS:=η (gh sY.o rG.o);have gK:Hid (∀j u,([k2 w3.heap.size]:List aN)[j]? =aC u->((w3.alloc (aK #[ν dp,ν ds] 2)).alloc (aK #[k2 w3.heap.size] 53)).cell? ((⟨w3.heap.size+1,0,aB⟩:aj).add j)=aC u):=η (dK _ _ #[_] (by simp));have EG:Hid (((w3.alloc (aK #[ν dp,ν ds] 2)).alloc (aK #[k2 w3.heap.size] 53)).heap[w3.heap.size]? =aC (aK #[ν dp,ν ds] 2 (0,0))):=η ((fG _ _ (by simp)).trans (cO w3 _));go_wp2_with (at_builtin;refine wpList_append_lies _ rfl _ _ 235 rfl w1.heap.size 53 i2 _ 1 24 underlying235 qM X3 X4 X5 rfl (by omega) _ _ _ rfl yD.o ⟨w3.heap.size+1,0,aB⟩ 1 1 [k2 w3.heap.size] rfl rfl gK.o (a4x [w3.heap.size]) (by omega) (by simp only [bM];omega) (by omega) (by simp;omega) (w3.heap.size+1+1) (by simp) ?_)
    intro g5 M9 w5 FH tS Vk _;have NB:w3.heap.size+1<w5.heap.size:=by have:=tS.size;simp at this;omega
    have cV:Hid (β w1 w5):=η (Ks.o.trans ((ag.o.trans (rG.o.mono (by omega))).grown tS (by simp;omega) (λj hj=>(GH.o j hj).1)));have nC:w5.heap[w3.heap.size]? =aC (aK #[ν dp,ν ds] 2 (0,0)):=(tS.block _ (by simp;omega) (λe=>by have:=(GH.o _ e.symm).2;omega)).trans EG.o;have Tb:Hid (E9 w1.heap.size (aH (aC ⟨g3,0,aB⟩) (aA done+1) tG) (aH (aC ⟨g5,0,aB⟩) (aA done+1) M9) (gs++ [w3.heap.size]) (done++ [⟨ds,dm,dc,dq,dp⟩]) w5):=η (by
     have Df:=HLEN.o;refine⟨?_, ?_,by simp [Df],λj hj hd=> ?_⟩
     ·rw [cN];exact jS.o.kept tS (Bv jS.o yD.o (by decide))
     ·rw [cN,dZ];exact FH
     rcases rW j (aA gs) with h|h
     ·rw [UC h,UC (by omega)];have h6:=L4.o j h (by omega);have WW:=(fX.1 h6).1;have h7:=(rG.o.block _ WW).trans h6;exact(tS.block _ (by simp;omega) (λe=>gP yD.o h7 (by decide) e.symm)).trans h7
     have e:j=aA gs:=by simp at hj;omega
     subst e;rw [UD (aa _),UD (by omega)];simp [Df];exact nC)
    clear FH tS Vk nC ag sY jS od yD gK EG rG L4 rS GH Ks y0 y4;go_wp2_with fail
    go_roundw
    case rel=>exact⟨k+1,_,by omega,by go_num,by rw [<-oY.o];exact Tb,cV⟩
    case measure=>simp [af];omega
   have qx:a2m=done:=by rw [cG.o,ifN hc,List.append_nil]
   subst qx;have hcb:(dc==s)=aP:=by simpa using hc
   have lL:=η ((aX wr.heap.size wr).alloc (aa _) (aK #[ν ds,ν dm,ν dc,ν dq,ν dp] 41));have oq:=η (kP.o.below lL.o);have ag:Hid (β w1 (wr.alloc (aK #[ν ds,ν dm,ν dc,ν dq,ν dp] 41))):=η (HB.o.alloc HB.o.size _);clear cG kP HB lL;go_wp2_with fail
   go_roundw
   case rel=>exact⟨k+1,_,by omega,by go_num,by rw [<-oY.o];exact oq,ag⟩
   case measure=>simp [af];omega
  obtain rfl:k=aA L:=by omega
  rw [cT] at kP;have jK:=a7E L s;have TK:Hid (∀p∈(qP L s).map bk,aL p.2):=η (λp hp=>by obtain⟨d,hd,rfl⟩:=df.1 hp;exact HI.o d (jD.1 hd).1);obtain⟨done,Hw⟩:∃q,q=qP L s:=⟨_,rfl⟩;have ZB:=η Hw;rw [<-Hw] at kP jK TK;rw [cT,<-Hw];clear Hw;have OM:=η (a6E (done.map bk) Ak ck wr (by rw [iV];omega) TK.o kP.o.key);rw [iV] at OM;clear TK HI;go_wp2_with (go_at_call 162;refine OM.o.mono ?_;unfold Sl;rintro e w2 ⟨bw,is,rfl,eU,hb2,hc2,hz2,Hu⟩;have HIS:=η eU;have kN:=η hc2;have aV:Hid (β wr w2):=η Hu;have Cb:=η (kP.o.below Hu);have QP:bw<w2.heap.size:=hz2;clear eU hb2 hc2 hz2 Hu OM)
  have I5:aA is=aA done:=by rw [HIS.o.len,iV]
  obtain⟨ls,AD⟩:∃ls:List Bd,ls=is.map λi=>done.getD i ⟨0,0,0,0,0⟩:=⟨_,rfl⟩
  have Fy:=η AD;have mH:Hid (aA ls=aA done):=η (by rw [AD,iV];exact I5);have uG:=η I5;have uC:Hid (β w w2):=η ((aR.o.trans (HB.o.mono aR.o.size)).trans (aV.o.mono (bz aR.o.size HB.o.size)));clear AD I5 kP HB aV hlt;have LL:Hid (w2.ownsRow w2.heap.size 41 5 (aH aB 0 0) 0 (nR (ls.take 0))):=η (by rw [nQ];exact fh _ _ _ _);have sV:Hid (β w2 w2):=η (aX _ _);go_loopw [6,11,39] (λv _ i wr=>∃k:Nat,k<=aA done/\i=ν (k:Int)/\Hid (β w2 wr)/\Hid (wr.ownsRow w2.heap.size 41 5 v k (nR (ls.take k)))) (λ_ _ i _=>aA done-(af i).toNat)
  case atStart=>exact⟨0,bK _,rfl,sV,LL⟩
  case round=>
   clear sV LL;obtain⟨k,hk,rfl,HB,HO⟩:=hrel;obtain⟨Ax,cx,pL⟩:=bL HO.o;subst pL;by_cases hlt:k<aA done
   ·have zy:k<aA is:=by rw [uG.o];exact hlt
    have c0:=(HB.o.cell (p:=⟨bw,k,aB⟩) QP).trans (kN.o k zy);have hbr:bw<wr.heap.size:=cP QP HB.o.size;have nY:is[k]<aA done:=by have:=HIS.o.lt _ (cH zy);rwa [iV] at this
    obtain⟨be,oe,hA,km,e0,e1,e2,e3,e4⟩:=Pb (((aW.cA Cb.o.s).below HB.o).mono HB.o.size) nY;have lU:Hid (ls.take (k+1)=ls.take k++ [done[is[k]]]):=η (by rw [fF (by rw [mH.o];exact hlt)];congr 2;simp [Fy.o,List.getD,nY]);have bu:(0:Int)<=((is[k]:Nat):Int):=by omega
    have hib:((is[k]:Nat):Int)<(aA done:Int):=by omega
    have eY:(0:Int)<=(k:Int):=by omega
    have hkb:(k:Int)<(aA done:Int):=by omega
    subst hA;generalize done[is[k]]=q at*;generalize is[k]=ix at*;obtain⟨ds,dm,dc,dq,dp⟩:=q;simp only at e0 e1 e2 e3 e4;have ag:Hid (β w2 (wr.alloc (aK #[ν ds,ν dm,ν dc,ν dq,ν dp] 41))):=η (HB.o.alloc HB.o.size _);have cD:=η (HO.o.alloc (aK #[ν ds,ν dm,ν dc,ν dq,ν dp] 41));have hzz:w2.heap.size<=wr.heap.size:=HB.o.size;go_wp2_with (at_builtin;refine wpList_append_lies _ rfl _ _ 132 rfl w2.heap.size 41 ib _ 5 40 PK a4M R9 RA RB rfl (by omega) _ _ _ rfl cD.o ⟨wr.heap.size,0,aB⟩ 1 1 [ν ds,ν dm,ν dc,ν dq,ν dp] rfl rfl (dK _ _ #[ν ds,ν dm,ν dc,ν dq,ν dp] rfl) (Uv ⟨ds,dm,dc,dq,dp⟩) (by omega) (by simp only [bM];omega) (by omega) (by simp;omega) (wr.heap.size+1) (by simp) ?_)
    intro g4 M8 w4 pN iQ _ _;have ar:Hid (β w2 w4):=η (ag.o.grown iQ (by simp;omega) (λj hj=>eF cD.o j hj));have dP:Hid (w4.ownsRow w2.heap.size 41 5 (aH (aC ⟨g4,0,aB⟩) (k+1) M8) (k+1) (nR (ls.take (k+1)))):=η (by rw [lU.o,Uu];exact pN);clear pN iQ ag cD HO HB;go_wp2_with fail
    go_roundw
    case rel=>exact⟨k+1,by omega,by go_num,ar,dP⟩
    case measure=>simp [af];omega
   obtain rfl:k=aA done:=by omega
   have ez:Hid (wr.ownsRow w.heap.size 41 5 (aH Ax (aA done) cx) (aA is) (nR ls)):=η (by have h2:=HO.o;rw [List.take_of_length_le (by rw [mH.o];exact aa _)] at h2;rw [uG.o];exact iC h2 uC.o.size);go_wp2_with fail
   go_ret;refine⟨_,is,rfl,by rw [<-ZB.o];exact HIS.o, ?_,uC.o.trans (HB.o.mono uC.o.size)⟩;rw [<-ZB.o,<-Fy.o];exact ez.o
section
open Go.Sort
theorem aN6(zs:List Int)(A:Option aj)(c:Nat)(m:Int)(w:aJ)(h:aW w w.heap.size A (zs.map (aG aF)))(hl:aA zs<=1000000):
 aQ aM 15 #[aH A (aA zs) c,ν m] w λe w'=>e=aT (bJ (hasB zs m))/\w=w':=by
 have HS:=η h;go_enter func15,ntmps15
 go_wp2
 go_loop [5] (λi=>∃k:Nat,k<=aA zs/\i=ν k/\Hid ((zs.take k).contains m=aP)) (λi=>aA zs-(af i).toNat)
 case atStart=>exact⟨0,bK _,rfl,rfl⟩
 case round=>
  obtain⟨k,hk,rfl,HN⟩:=hrel;by_cases hlt:k<aA zs
  ·obtain⟨b,o,rfl,hb,d0⟩:=tV HS.o hlt;have HA:=η (aER m hlt);cases hp:(zs[k]==m)
   ·have HX:Hid ((zs.take (k+1)).contains m=aP):=by show _=_;rw [HA.o,HN.o,hp];rfl
    go_wp2
    go_round
    case rel=>exact⟨k+1,by omega,by go_num,HX⟩
    case measure=>simp [af];omega
   have HF:Hid (aO=hasB zs m):=by
    show _=zs.contains m;symm;rw [U8];have e:zs[k]=m:=by simpa using hp
    rw [<-e];exact cH hlt
   go_wp2
   go_ret;exact⟨fQ HF.o,rfl⟩
  obtain rfl:k=aA zs:=by omega
  have hN:=HN.o;rw [cT] at hN;have HF:Hid (hasB zs m=aP):=hN;go_wp2
  go_ret;exact⟨fQ HF.o.symm,rfl⟩
theorem aId(ys:List Int)(g cap:Nat)(base:Nat)(w0 w:aJ)(hb0:base<=g)(h:w.ownsRow base 3 1 (aH (aC ⟨g,0,aB⟩) (aA ys) cap) (aA ys) (ys.map (aG aF)))(hl:aA ys<=1000000)(hB:aY base w0 w)(iB:base<=w.heap.size):
 aQ aM 217 #[aH (aC ⟨g,0,aB⟩) (aA ys) cap] w λe w2=>e=aT (bB #[])/\w2.ownsRow base 3 1 (aH (aC ⟨g,0,aB⟩) (aA ys) cap) (aA ys) ((ys.mergeSort λx y=>decide (x<=y)).map (aG aF))/\aY base w0 w2:=by
 obtain⟨q1,q2,q3⟩:=a6J h;refine(slices_Sort_int g 0 cap ys w q1 q2 (by omega)).mono ?_;rintro e w2 ⟨rfl,n2,os2,hw2⟩;obtain⟨o2,g2⟩:=a7W h (List.length_mergeSort _) hw2;exact⟨rfl,o2,hB.grown g2 iB (λj hj=>by injection hj with hj;omega)⟩
theorem aEH(ms:List Int)(g cap:Nat)(base:Nat)(w0 w:aJ)(hb0:base<=g)(h:w.ownsRow base 3 1 (aH (aC ⟨g,0,aB⟩) (aA ms) cap) (aA ms) (ms.map (aG aF)))(hl:aA ms<=1000000)(hB:aY base w0 w)(iB:base<=w.heap.size):
 aQ aM 218 #[aH (aC ⟨g,0,aB⟩) (aA ms) cap] w λe w3=>e=aT (aH (aC ⟨g,0,aB⟩) (aA (su ms)) cap)/\w3.ownsRow base 3 1 (aH (aC ⟨g,0,aB⟩) (aA (su ms)) cap) (aA (su ms)) ((su ms).map (aG aF))/\aY base w0 w3:=by
 obtain⟨q1,q2,q3⟩:=a6J h;refine(slices_Compact_int g 0 cap ms w q1 (by omega) q3).mono ?_;rintro e w3 ⟨rfl,n3,hw3⟩;have jY:=aEF ms;have hw4:w3=grow (putRow (aG aF) (Sort.ahead w n3) g 0 (su ms++gR (aA ms-aA (su ms)) 0).toArray) #[]:=by rw [hw3,grow_empty]
 obtain⟨o3,g3⟩:=a7W h (by simp;omega) hw4;refine⟨rfl, ?_,hB.grown g3 iB (λj hj=>by injection hj with hj;omega)⟩;have:=aJC o3 jY;rw [dZ,List.take_left' (by simp)] at this;exact this
theorem Md(zs:List Int)(A:Option aj)(c:Nat)(m:Int)(w:aJ)(h:aW w w.heap.size A (zs.map (aG aF)))(hl:aA zs<=1000000):
 aQ aM 89 #[aH A (aA zs) c,ν m] w λe w'=>e=aT (bJ (hasB zs m))/\w=w':=by
 have HS:=η h;rcases Nat.eq_zero_or_pos (aA zs) with h0|h0
 ·have hz:zs= []:=nO h0;subst hz;go_enter aBE,aC1
  go_wp2_with fail
  refine(slices_Contains_int_empty A c m _).mono ?_;rintro e w1 ⟨rfl,rfl⟩;go_wp2_with fail
  go_ret;exact⟨rfl,rfl⟩
 obtain⟨b,o,rfl,hb,_⟩:=tV HS.o h0;go_enter aBE,aC1
 go_wp2_with fail
 refine(slices_Contains_int b o (aA zs) c zs m _ (aa _) (by omega) (Y3 HS.o)).mono ?_;rintro e w1 ⟨rfl,rfl⟩;rw [cT,show zs.contains m=hasB zs m from rfl];go_wp2_with fail
 go_ret;exact⟨rfl,rfl⟩
end
def Sk(w:aJ)(L:List Lg)(e:dU)(w':aJ):Prop:=
 ∃v,e=aT v/\w'.ownsRow w.heap.size 76 3 v (aA L) (bA L)/\β w w'
def BV(x:Ob):Bool:=decide (0<x.az)&&decide (x.done<x.az)
theorem aFO(x:Ob)(w:aJ):aQ aM 178 #[x.val] w λe w'=>e=aT (bJ (BV x))/\aY w.heap.size w w':=by
 obtain⟨c,m,a,az,done,st⟩:=x;unfold Ob.val;go_enter func178,ntmps178
 go_wp2
 all_goals
  go_ret;refine⟨fQ ?_,(aX _ _).alloc (aa _) _⟩;rw [Fp];simp_all [BV]<;>omega
theorem aIq(L:List Ob)(A:Option aj)(c:Nat)(p:Ob->Bool)(w:aJ)(hs:aW w w.heap.size A (fK L))(hl:aA L<=1000000)
 (hp:∀(x:Ob) (W:aJ),β w W->aQ aM 178 #[x.val] W λe w'=>e=aT (bJ (p x))/\β W w'):
 aQ aM 177 #[aH A (aA L) c,.func (.func 178) #[] #[]] w (yy w (L.filter λx=>x.st==1&&p x)):=by
 have HS:=η hs;have HP:=η hp;obtain⟨i0,bu,hz0,ft,hz2⟩:=dJ KY;go_enter aAk,aBX
 go_wp2_with fail
 go_loopw [5,7,10] (λu _ i wr=>∃k:Nat,k<=aA L/\i=ν k/\Hid (wr.ownsRow w.heap.size 59 6 u (aA ((L.take k).filter λx=>x.st==1&&p x)) (fK ((L.take k).filter λx=>x.st==1&&p x)))/\Hid (β w wr)) (λ_ _ i _=>aA L-(af i).toNat)
 case atStart=>exact⟨0,bK _,rfl,⟨by simp [fK],aS ⟨rfl,rfl⟩⟩,aX _ _⟩
 case round=>
  obtain⟨k,hk,rfl,HO,HB⟩:=hrel;have hsz:=HB.o.size;have gW:=Q0 (λx:Ob=>x.st==1&&p x) L k;by_cases hlt:k<aA L
  ·obtain⟨b,o,rfl,hb,d0,d1,d2,d3,d4,d5⟩:=vx (HS.o.below HB.o) hlt;have HF:=η (Q1 (λx:Ob=>x.st==1&&p x) hlt);cases h1:(L[k].st==1)
   ·have hF:(L.take (k+1)).filter (λx=>x.st==1&&p x)=(L.take k).filter (λx=>x.st==1&&p x):=by rw [HF.o,h1];simp
    have jo:=HO.o;rw [<-hF] at jo;have cF:=η jo;go_wp2_with fail
    go_roundw
    case rel=>exact⟨k+1,by omega,by go_num,cF.o.alloc _,HB.o.alloc hsz _⟩
    case measure=>simp [af];omega
   cases h2:p L[k]
   ·have hF:(L.take (k+1)).filter (λx=>x.st==1&&p x)=(L.take k).filter (λx=>x.st==1&&p x):=by rw [HF.o,h1,h2];simp
    have jo:=HO.o;rw [<-hF] at jo;have cF:=η jo;have uJ:Hid (∀W:aJ,β w W->aQ aM 178 #[L[k].val] W λe w'=>e=aT (bJ aP)/\β W w'):=λW hW=>by have:=HP.o L[k] W hW;rw [h2] at this;exact this
    go_wp2_with fail
    refine(uJ.o _ (HB.o.alloc hsz _)).mono ?_;rintro e w3 ⟨rfl,hb3⟩;have ag:Hid (β w w3):=(HB.o.alloc hsz _).trans (hb3.mono (by simp;omega));have hg3:wr.grownBy w3 aB:=⟨hb3.os,hb3.tape,hb3.output,by have:=hb3.size;simp at this;omega,λi hi _=>(hb3.block i (by simp;omega)).trans (fG _ _ hi)⟩;have cD:=η (cF.o.kept hg3 (by cases (dy _)<;>simp));go_wp2_with fail
    go_roundw
    case rel=>exact⟨k+1,by omega,by go_num,cD,ag⟩
    case measure=>simp [af];omega
   have hF:(L.take (k+1)).filter (λx=>x.st==1&&p x)=(L.take k).filter (λx=>x.st==1&&p x)++ [L[k]]:=by rw [HF.o,h1,h2];simp
   have jQ:=η hF;have uJ:Hid (∀W:aJ,β w W->aQ aM 178 #[L[k].val] W λe w'=>e=aT (bJ aO)/\β W w'):=λW hW=>by have:=HP.o L[k] W hW;rw [h2] at this;exact this
   generalize (L.take k).filter (λx=>x.st==1&&p x)=ys at*;go_wp2_with fail
   refine(uJ.o _ (HB.o.alloc hsz _)).mono ?_;rintro e w3 ⟨rfl,hb3⟩;have ag:Hid (β w w3):=(HB.o.alloc hsz _).trans (hb3.mono (by simp;omega));have hz3:=hb3.size;simp at hz3;have hg3:wr.grownBy w3 aB:=⟨hb3.os,hb3.tape,hb3.output,by omega,λi hi _=>(hb3.block i (by simp;omega)).trans (fG _ _ hi)⟩;have cD:=η (HO.o.kept hg3 (by cases (dy _)<;>simp));have hc:=λj=>(hb3.cell (p:=⟨wr.heap.size,j,aB⟩) (by simp)).trans (cL _ _ _ j rfl)
   have e0:=hc 0;have e1:=hc 1;have e2:=hc 2;have e3:=hc 3;have e4:=hc 4;have e5:=hc 5;simp at e0 e1 e2 e3 e4 e5;go_wp2_with (at_builtin;refine iZ _ rfl _ _ 56 rfl w.heap.size 59 i0 _ 6 48 Gj bu hz0 ft hz2 rfl (by decide) _ (aA ys) (fK ys) rfl (cD.o.alloc _) ⟨w3.heap.size,0,aB⟩ 1 1 L[k].cells rfl rfl ?c1 ?c2 ?c3 ?c4 ?c5 ?_)
   case c1=>exact dK _ _ #[_,_,_,_,_,_] rfl
   case c2=>intro u hu;simp [Ob.cells] at hu;rcases hu with rfl|rfl|rfl|rfl|rfl|rfl<;>rfl
   case c3=>simp only [bM];omega
   case c4=>omega
   case c5=>simp;omega
   intro v' w4 hown1 dG _;have dP:Hid (w4.ownsRow w.heap.size 59 6 v' (aA ((L.take (k+1)).filter λx=>x.st==1&&p x)) (fK ((L.take (k+1)).filter λx=>x.st==1&&p x))):=by show kB _ _ _ _ _ _ _;rw [jQ.o,NQ,cN,uM];exact hown1
   have pg:Hid (β w w4):=(ag.o.alloc (by omega) _).grown dG (by simp;omega) (λj hj=>eF cD.o j hj);go_wp2_with fail
   go_roundw
   case rel=>exact⟨k+1,by omega,by go_num,dP,pg⟩
   case measure=>simp [af];omega
  obtain rfl:k=aA L:=by omega
  have hO:=HO.o;rw [cT] at hO;have dE:=η hO;go_wp2_with fail
  go_ret;exact⟨_,rfl,dE.o,HB.o⟩
theorem aIp(L:List Ob)(A:Option aj)(c:Nat)(c1:aN)(p:Ob->Bool)(w:aJ)(hs:aW w w.heap.size A (fK L))(hl:aA L<=1000000)
 (hp:∀(x:Ob) (W:aJ),β w W->aQ aM 223 #[x.val,c1] W λe w'=>e=aT (bJ (p x))/\β W w'):
 aQ aM 177 #[aH A (aA L) c,.func (.func 223) #[] #[c1]] w (yy w (L.filter λx=>x.st==1&&p x)):=by
 have HS:=η hs;have HP:=η hp;obtain⟨i0,bu,hz0,ft,hz2⟩:=dJ KY;go_enter aAk,aBX
 go_wp2_with fail
 go_loopw [5,7,10] (λu _ i wr=>∃k:Nat,k<=aA L/\i=ν k/\Hid (wr.ownsRow w.heap.size 59 6 u (aA ((L.take k).filter λx=>x.st==1&&p x)) (fK ((L.take k).filter λx=>x.st==1&&p x)))/\Hid (β w wr)) (λ_ _ i _=>aA L-(af i).toNat)
 case atStart=>exact⟨0,bK _,rfl,⟨by simp [fK],aS ⟨rfl,rfl⟩⟩,aX _ _⟩
 case round=>
  obtain⟨k,hk,rfl,HO,HB⟩:=hrel;have hsz:=HB.o.size;have gW:=Q0 (λx:Ob=>x.st==1&&p x) L k;by_cases hlt:k<aA L
  ·obtain⟨b,o,rfl,hb,d0,d1,d2,d3,d4,d5⟩:=vx (HS.o.below HB.o) hlt;have HF:=η (Q1 (λx:Ob=>x.st==1&&p x) hlt);cases h1:(L[k].st==1)
   ·have hF:(L.take (k+1)).filter (λx=>x.st==1&&p x)=(L.take k).filter (λx=>x.st==1&&p x):=by rw [HF.o,h1];simp
    have jo:=HO.o;rw [<-hF] at jo;have cF:=η jo;go_wp2_with fail
    go_roundw
    case rel=>exact⟨k+1,by omega,by go_num,cF.o.alloc _,HB.o.alloc hsz _⟩
    case measure=>simp [af];omega
   cases h2:p L[k]
   ·have hF:(L.take (k+1)).filter (λx=>x.st==1&&p x)=(L.take k).filter (λx=>x.st==1&&p x):=by rw [HF.o,h1,h2];simp
    have jo:=HO.o;rw [<-hF] at jo;have cF:=η jo;have uJ:Hid (∀W:aJ,β w W->aQ aM 223 #[L[k].val,c1] W λe w'=>e=aT (bJ aP)/\β W w'):=λW hW=>by have:=HP.o L[k] W hW;rw [h2] at this;exact this
    go_wp2_with fail
    refine(uJ.o _ (HB.o.alloc hsz _)).mono ?_;rintro e w3 ⟨rfl,hb3⟩;have ag:Hid (β w w3):=(HB.o.alloc hsz _).trans (hb3.mono (by simp;omega));have hg3:wr.grownBy w3 aB:=⟨hb3.os,hb3.tape,hb3.output,by have:=hb3.size;simp at this;omega,λi hi _=>(hb3.block i (by simp;omega)).trans (fG _ _ hi)⟩;have cD:=η (cF.o.kept hg3 (by cases (dy _)<;>simp));go_wp2_with fail
    go_roundw
    case rel=>exact⟨k+1,by omega,by go_num,cD,ag⟩
    case measure=>simp [af];omega
   have hF:(L.take (k+1)).filter (λx=>x.st==1&&p x)=(L.take k).filter (λx=>x.st==1&&p x)++ [L[k]]:=by rw [HF.o,h1,h2];simp
   have jQ:=η hF;have uJ:Hid (∀W:aJ,β w W->aQ aM 223 #[L[k].val,c1] W λe w'=>e=aT (bJ aO)/\β W w'):=λW hW=>by have:=HP.o L[k] W hW;rw [h2] at this;exact this
   generalize (L.take k).filter (λx=>x.st==1&&p x)=ys at*;go_wp2_with fail
   refine(uJ.o _ (HB.o.alloc hsz _)).mono ?_;rintro e w3 ⟨rfl,hb3⟩;have ag:Hid (β w w3):=(HB.o.alloc hsz _).trans (hb3.mono (by simp;omega));have hz3:=hb3.size;simp at hz3;have hg3:wr.grownBy w3 aB:=⟨hb3.os,hb3.tape,hb3.output,by omega,λi hi _=>(hb3.block i (by simp;omega)).trans (fG _ _ hi)⟩;have cD:=η (HO.o.kept hg3 (by cases (dy _)<;>simp));have hc:=λj=>(hb3.cell (p:=⟨wr.heap.size,j,aB⟩) (by simp)).trans (cL _ _ _ j rfl)
   have e0:=hc 0;have e1:=hc 1;have e2:=hc 2;have e3:=hc 3;have e4:=hc 4;have e5:=hc 5;simp at e0 e1 e2 e3 e4 e5;go_wp2_with (at_builtin;refine iZ _ rfl _ _ 56 rfl w.heap.size 59 i0 _ 6 48 Gj bu hz0 ft hz2 rfl (by decide) _ (aA ys) (fK ys) rfl (cD.o.alloc _) ⟨w3.heap.size,0,aB⟩ 1 1 L[k].cells rfl rfl ?c1 ?c2 ?c3 ?c4 ?c5 ?_)
   case c1=>exact dK _ _ #[_,_,_,_,_,_] rfl
   case c2=>intro u hu;simp [Ob.cells] at hu;rcases hu with rfl|rfl|rfl|rfl|rfl|rfl<;>rfl
   case c3=>simp only [bM];omega
   case c4=>omega
   case c5=>simp;omega
   intro v' w4 hown1 dG _;have dP:Hid (w4.ownsRow w.heap.size 59 6 v' (aA ((L.take (k+1)).filter λx=>x.st==1&&p x)) (fK ((L.take (k+1)).filter λx=>x.st==1&&p x))):=by show kB _ _ _ _ _ _ _;rw [jQ.o,NQ,cN,uM];exact hown1
   have pg:Hid (β w w4):=(ag.o.alloc (by omega) _).grown dG (by simp;omega) (λj hj=>eF cD.o j hj);go_wp2_with fail
   go_roundw
   case rel=>exact⟨k+1,by omega,by go_num,dP,pg⟩
   case measure=>simp [af];omega
  obtain rfl:k=aA L:=by omega
  have hO:=HO.o;rw [cT] at hO;have dE:=η hO;go_wp2_with fail
  go_ret;exact⟨_,rfl,dE.o,HB.o⟩
def Ob.claim(x:Ob):Lg:=⟨x.m,x.a,if x.az=fw then 9223372036854775807 else-x.az⟩
theorem aDq(n:Int)(h:aL n):(dC (-n) !=0)=(n==fw):=by
 unfold fw;rcases Int.decEq n (-9223372036854775808) with h1|h1
 ·have h2:aL (-n):=by unfold aL at*;omega
  rw [(eA h2).2];simp [h1]
 subst h1;have h2:¬aL (- -9223372036854775808):=by decide
 rw [(gw h2).2];rfl
theorem aDr(x:Ob)(w:aJ)(h:aL x.az):aQ aM 224 #[x.val] w λe w'=>e=aT (x.claim.val)/\aY w.heap.size w w':=by
 have HA:=η (aDq x.az h);have HI:=η h;have HC:=η (show x.claim=⟨x.m,x.a,if x.az=fw then 9223372036854775807 else-x.az⟩ from rfl);obtain⟨c,m,a,az,done,st⟩:=x;simp only at HA HI HC;by_cases hn:az=fw
 ·have h1:(dC (-az) !=0)=aO:=by rw [HA.o];simpa using hn
  have HN:=η hn;clear h hn;unfold Ob.val;go_enter aAt,aBg
  go_wp2_with fail
  refine(RU az _ HI.o).mono ?_;rintro e w1 ⟨rfl,rfl⟩;go_wp2_with fail
  refine bodyPost_ret (v:=bQ #[ν m,ν a,ν 9223372036854775807]) (by simp [results,aC5,go_sem]) rfl ⟨?_,σ.alloc (by simp) _⟩;rw [HC.o,HN.o];rfl
 have h1:(dC (-az) !=0)=aP:=by rw [HA.o];simpa using hn
 have HN:=η hn;have hv:fU (-az)= -az:=by
  have h2:aL (-az):=by have hi:=HI.o;unfold aL fw at*;omega
  exact(eA h2).1
 have HV:=η hv;clear h hn hv;unfold Ob.val;go_enter aAt,aBg
 go_wp2_with fail
 refine(RU az _ HI.o).mono ?_;rintro e w1 ⟨rfl,rfl⟩;go_wp2_with fail
 refine bodyPost_ret (v:=bQ #[ν m,ν a,ν (fU (-az))]) (by simp [results,aC5,go_sem]) rfl ⟨?_,σ.alloc (by simp) _⟩;rw [HC.o,HV.o,ifN HN.o];rfl
structure Jk(w:aJ)(bw:Nat)(A:Option aj)(c:Nat)(who:List Int):Prop where
 cell:w.cell? ⟨bw,0,aB⟩=aC (aH A (aA who) c)
 dt:aW w w.heap.size A (who.map (aG aF))
 lt:bw<w.heap.size
theorem Jk.below {w w':aJ} {bw:Nat} {A:Option aj} {c:Nat} {who:List Int}(h:Jk w bw A c who)(hb:aY w.heap.size w w'):Jk w' bw A c who:=
 ⟨(hb.cell (p:=⟨bw,0,aB⟩) h.lt).trans h.cell,(h.dt.below hb).mono hb.size,cP h.lt hb.size⟩
def tJ(p:Ob->Bool)(x:Ob):Bool:=decide (x.az<0)&&p x
def pK(jG:Int)(who:List Int)(x:Ob):Bool:=x.a==jG&& !hasB who x.m
theorem aFt(x:Ob)(jG:Int)(who:List Int)(A:Option aj)(c ba bw:Nat)(w:aJ)(h:Jk w bw A c who)(ha:w.cell? ⟨ba,0,aB⟩=aC (aG aF jG))(nB:ba<w.heap.size)(hl:aA who<=1000000):
 aQ aM 191 #[x.val,π ba,π bw] w λe w'=>e=aT (bJ (pK jG who x))/\β w w':=by
 have HG:=η (show pK jG who x=(x.a==jG&& !hasB who x.m) from rfl);obtain⟨xc,xm,xa,az,done,st⟩:=x;simp only at HG;unfold Ob.val;have hb:β w (w.alloc (aK #[ν xc,ν xm,ν xa,ν az,ν done,ν st] 59)):=(aX _ _).alloc (aa _) _;have HH:=η (h.below hb);have HB:=η hb;have h0:=h.cell;have hlt:=h.lt;cases h1:(xa==jG)
 ·go_enter aAo,aBb
  go_wp2_with fail
  go_ret;exact⟨fQ (by rw [HG.o,h1];rfl),HB.o⟩
 go_enter aAo,aBb
 go_wp2_with fail
 refine(Md who A c xm _ HH.o.dt hl).mono ?_;rintro e w1 ⟨rfl,rfl⟩;go_wp2_with fail
 go_ret;exact⟨fQ (by rw [HG.o,h1];simp),HB.o⟩
theorem aDs(x:Ob)(jG:Int)(who:List Int)(Aw:Option aj)(cw ba bw:Nat)(bi:Nat)(w:aJ)(hw:Jk w bw Aw cw who)(ha:w.cell? ⟨ba,0,aB⟩=aC (aG aF jG))(nB:ba<w.heap.size)(hi:w.cell? ⟨bi,0,aB⟩=aC (.func (.func 191) #[] #[bF (aC ⟨ba,0,aB⟩),bF (aC ⟨bw,0,aB⟩)]))(hbi:bi<w.heap.size)(hl:aA who<=1000000):
 aQ aM 223 #[x.val,π bi] w λe w'=>e=aT (bJ (tJ (pK jG who) x))/\β w w':=by
 have hb:β w (w.alloc (aK #[ν x.c,ν x.m,ν x.a,ν x.az,ν x.done,ν x.st] 59)):=(aX _ _).alloc (aa _) _;have HB:=η hb;have HC:=η (aFt x jG who Aw cw ba bw _ (hw.below hb) ((hb.cell (p:=⟨ba,0,aB⟩) nB).trans ha) (by simp;omega) hl);have HQ:=η (show tJ (pK jG who) x=(decide (x.az<0)&&(pK jG who) x) from rfl);generalize tJ (pK jG who) x=cv at*;generalize hp:(pK jG who) x=pv at*;have HP:=η hp;obtain⟨xc,xm,xa,az,done,st⟩:=x;simp only at*;unfold Ob.val at HC ⊢;simp only at HC ⊢;by_cases h1:az<0
 ·have HD:Hid (cv=pv):=by show _=_;rw [HQ.o,decide_eq_true h1];rfl
  go_enter aAs,aBf
  go_wp2_with fail
  refine HC.o.mono ?_;rintro e w1 ⟨rfl,hb1⟩;have aR:Hid (β w w1):=HB.o.trans (hb1.mono (by simp));go_wp2_with fail
  go_ret;exact⟨fQ (HD.o.symm),aR.o⟩
 have HD:Hid (cv=aP):=by show _=_;rw [HQ.o,decide_eq_false h1];rfl
 go_enter aAs,aBf
 go_wp2_with fail
 go_ret;exact⟨fQ HD.o.symm,HB.o⟩
theorem aDu(L:List Ob)(A:Option aj)(c:Nat)(jG:Int)(who:List Int)(Aw:Option aj)(cw ba bw:Nat)(w:aJ)(hs:aW w w.heap.size A (fK L))(hl:aA L<=1000000)(hI:∀x∈L,aL x.az)(hw:Jk w bw Aw cw who)(ha:w.cell? ⟨ba,0,aB⟩=aC (aG aF jG))(nB:ba<w.heap.size)(WZ:aA who<=1000000):
 aQ aM 190 #[aH A (aA L) c,.func (.func 191) #[] #[π ba,π bw]] w (Sk w ((L.filter λx=>x.st==1&&tJ (pK jG who) x).map Ob.claim)):=by
 have hb:β w (w.alloc (aK #[.func (.func 191) #[] #[π ba,π bw]] 170)):=(aX _ _).alloc (aa _) _;have hp:∀(x:Ob) (W:aJ),aY (w.alloc (aK #[.func (.func 191) #[] #[π ba,π bw]] 170)).heap.size (w.alloc (aK #[.func (.func 191) #[] #[π ba,π bw]] 170)) W->aQ aM 223 #[x.val,π w.heap.size] W λe w'=>e=aT (bJ (tJ (pK jG who) x))/\β W w':=by intro x W hW;have hz:=hW.size;simp at hz;have oJ:β w W:=hb.trans (hW.mono (by simp));exact aDs x jG who Aw cw ba bw w.heap.size W (hw.below oJ) ((oJ.cell (p:=⟨ba,0,aB⟩) nB).trans ha) (by omega) (by rw [hW.cell (p:=⟨w.heap.size,0,aB⟩) (by simp),cL _ _ _ _ rfl];rfl) (by omega) WZ
 have HC:=η (aIp L A c (π w.heap.size) (tJ (pK jG who)) (w.alloc (aK #[.func (.func 191) #[] #[π ba,π bw]] 170)) ((hs.below hb).mono (by simp)) hl hp);have HB:=η hb;have hDl:aA (L.filter λx=>x.st==1&&tJ (pK jG who) x)<=aA L:=qg _ _;have HDI:Hid (∀x∈(L.filter λx=>x.st==1&&tJ (pK jG who) x),aL x.az):=λx hx=>hI x (jD.1 hx).1
 obtain⟨i0,bu,hz0,ft,hz2⟩:=dJ a5N;generalize hzs:(L.filter λx=>x.st==1&&tJ (pK jG who) x).map Ob.claim=zs;have HZ:=η hzs;go_enter func190,ntmps190
 go_wp2_with fail
 refine HC.o.mono ?_;rintro e w1 ⟨v1,rfl,eK,hb1⟩;generalize (L.filter λx=>x.st==1&&tJ (pK jG who) x)=D at*;obtain⟨A1,c1,rfl⟩:=bL eK;have HS:=η (aW.cA eK);have aR:Hid (β w w1):=HB.o.trans (hb1.mono (by simp));have hz1:=aR.o.size;go_wp2_with fail
 go_loopw [5,7,12] (λu _ i wr=>∃k:Nat,k<=aA D/\i=ν k/\Hid (wr.ownsRow w1.heap.size 76 3 u (aA ((D.take k).map Ob.claim)) (bA ((D.take k).map Ob.claim)))/\Hid (β w1 wr)) (λ_ _ i _=>aA D-(af i).toNat)
 case atStart=>exact⟨0,bK _,rfl,⟨by simp [bA],aS ⟨rfl,rfl⟩⟩,aX _ _⟩
 case round=>
  obtain⟨k,hk,rfl,HO,HB⟩:=hrel;have hsz:=HB.o.size;by_cases hlt:k<aA D
  ·obtain⟨b,o,rfl,hb,d0,d1,d2,d3,d4,d5⟩:=vx (HS.o.below HB.o) hlt;have jQ:Hid ((D.take (k+1)).map Ob.claim=(D.take k).map Ob.claim++ [D[k].claim]):=by show _=_;rw [fF hlt,dZ];rfl
   have Bi:aA ((D.take k).map Ob.claim)<=k:=by rw [iV];exact List.length_take_le _ _
   have OH:=η (HDI.o D[k] (cH hlt));generalize (D.take k).map Ob.claim=ys at*;go_wp2_with fail
   refine(aDr D[k] _ OH.o).mono ?_;rintro e w3 ⟨rfl,hb3⟩;have ag:Hid (β w1 w3):=(HB.o.alloc hsz _).trans (hb3.mono (by simp;omega));have hz3:=hb3.size;simp at hz3;have hg3:wr.grownBy w3 aB:=⟨hb3.os,hb3.tape,hb3.output,by omega,λi hi _=>(hb3.block i (by simp;omega)).trans (fG _ _ hi)⟩;have cD:=η (HO.o.kept hg3 (by cases (dy _)<;>simp));rw [show D[k].claim.val=bQ #[ν D[k].claim.m,ν D[k].claim.a,ν D[k].claim.n] from rfl];generalize D[k].claim=lg at*;go_wp2_with (at_builtin;refine iZ _ rfl _ _ 39 rfl w1.heap.size 76 i0 _ 3 24 tE bu hz0 ft hz2 rfl (by decide) _ (aA ys) (bA ys) rfl (cD.o.alloc _) ⟨w3.heap.size,0,aB⟩ 1 1 lg.cells rfl rfl ?c1 (a5K lg) ?c3 ?c4 ?c5 ?_)
   case c1=>exact dK _ _ #[_,_,_] rfl
   case c3=>simp only [bM];omega
   case c4=>omega
   case c5=>simp;omega
   intro v' w4 hown1 dG _;have dP:Hid (w4.ownsRow w1.heap.size 76 3 v' (aA ((D.take (k+1)).map Ob.claim)) (bA ((D.take (k+1)).map Ob.claim))):=by show kB _ _ _ _ _ _ _;rw [jQ.o,a5M,cN,uM];exact hown1
   have pg:Hid (β w1 w4):=(ag.o.alloc (by omega) _).grown dG (by simp;omega) (λj hj=>eF cD.o j hj);go_wp2_with fail
   go_roundw
   case rel=>exact⟨k+1,by omega,by go_num,dP,pg⟩
   case measure=>simp [af];omega
  obtain rfl:k=aA D:=by omega
  have hO:=HO.o;rw [cT,HZ.o] at hO;have dE:=η hO;go_wp2_with fail
  go_ret;exact⟨_,rfl,iC dE.o hz1,aR.o.trans (HB.o.mono hz1)⟩
theorem aFu(L:List Ob)(A:Option aj)(c:Nat)(jG:Int)(who:List Int)(Aw:Option aj)(cw:Nat)(w:aJ)(hs:aW w w.heap.size A (fK L))(hl:aA L<=1000000)(hI:∀x∈L,aL x.az)(hw:aW w w.heap.size Aw (who.map (aG aF)))(WZ:aA who<=1000000):
 aQ aM 130 #[aH A (aA L) c,aH Aw (aA who) cw,ν jG] w (Sk w ((L.filter λx=>x.st==1&&tJ (pK jG who) x).map Ob.claim)):=by
 have hb:β w ((w.alloc (aK #[aH Aw (aA who) cw] 46)).alloc (aK #[ν jG] 3)):=σ.alloc (by simp) _;have HC:=η (aDu L A c jG who Aw cw (w.heap.size+1) w.heap.size ((w.alloc (aK #[aH Aw (aA who) cw] 46)).alloc (aK #[ν jG] 3)) ((hs.below hb).mono (by simp;omega)) hl hI ⟨by rw [BQ _ _ _ (by simp),cL _ _ _ _ rfl];rfl,(hw.below hb).mono (by simp;omega),by simp;omega⟩ (by rw [cL _ _ _ _ (by simp)];rfl) (by simp) WZ);have HB:=η hb;generalize (L.filter λx=>x.st==1&&tJ (pK jG who) x).map Ob.claim=zs at*;go_enter func130,ntmps130
 go_wp2_with fail
 refine HC.o.mono ?_;rintro e w1 ⟨v1,rfl,eK,hb1⟩;have cF:=η eK;have aR:Hid (β w w1):=HB.o.trans (hb1.mono (by simp;omega));go_wp2_with fail
 go_ret;exact⟨v1,rfl,iC cF.o (by simp;omega),aR.o⟩
section
open Go.Sort
structure wx(w:aJ)(A:Option aj)(c:Nat)(zs:List Int):Prop where
 dt:aW w w.heap.size A (zs.map (aG aF))
 nil:A=aB->zs= []/\c=0
theorem wx.below {w w':aJ} {A:Option aj} {c:Nat} {zs:List Int}(h:wx w A c zs)(hb:aY w.heap.size w w'):wx w' A c zs:=⟨(h.dt.below hb).mono hb.size,h.nil⟩
theorem a4n(zs:List Int):∀u∈zs.map (aG aF),u.oneCell'=aO:=by intro u hu;obtain⟨x,_,rfl⟩:=df.1 hu;rfl
theorem SV {w:aJ} {ops:Array Oper} {rest:List Oper} {o:Oper} {a:Act} {Q:Exit->Act->aJ->Prop}(hgd:o.guard=aB)(s x:Operand)
 (ho:o.op= .call {callee:= .builtin .append,args:= #[s,x],argTypes:= #[46,46]}) (base:Nat)
 (v:aN) (n:Nat) (xs:List Int) (hs:a.eval s=v) (hown:w.ownsRow base 3 1 v n (xs.map (aG aF)))
 (A:Option aj) (c:Nat) (zs:List Int) (hx:a.eval x=aH A (aA zs) c) (hz:wx w A c zs) (hlen:n+aA zs<=1000000) (hbase:base<=w.heap.size)
 (h:∀v' w',w'.ownsRow base 3 1 v' (n+aA zs) ((xs++zs).map (aG aF))->w.grownBy w' v.ownBlock->wpList aM ops Q rest (a.put o.dst v') w'):wpList aM ops Q (o::rest) a w:=by
 obtain⟨i0,bu,hz0,hz1,hz2⟩:=dJ RI;cases A with
 |none=>
  obtain⟨rfl,rfl⟩:=hz.nil rfl;refine wpList_append_own_none hgd s x 46 ho base 3 i0 1 yN bu v n (xs.map (aG aF)) hs hown hx (h v w (by simpa using hown) ⟨rfl,rfl,rfl,aa _,λ_ _ _=>rfl⟩)
 |some ad=>
  refine iZ w hgd s x 46 ho base 3 i0 _ 1 8 yN bu hz0 hz1 hz2 rfl (by decide) v n (xs.map (aG aF)) hs hown ad (aA zs) c (zs.map (aG aF)) hx (by simp) ?_ (a4n zs) (by simp only [bM];omega) (by omega) hbase ?_
  ·intro j u hu;obtain⟨b,o',e,_,hc⟩:=hz.dt j u hu;injection e with e;subst e;have ea:(⟨b,o',aB⟩:aj).add j=⟨b,o'+j,aB⟩:=by unfold Addr.add;split<;>simp_all
   rw [ea];exact hc
  intro v' w' h1 h2 _;exact h v' w' (by rw [dZ];exact h1) h2
theorem aFy(w:aJ)(n:Nat)(hn:n<=1000000):kB (w.drew.alloc (aK (([]:List aN).toArray++EA (aG aF 0).cells (0+n-0)++EA (aG aF 0).cells (xM w (0+n) 0 3-(0+n))) 3)) w.heap.size 3 1 (aH (aC ⟨w.heap.size,0,aB⟩) 0 (xM w (0+n) 0 3)) 0 []:=by rw [Nat.zero_add];have h1:=grownCap_ge w n 0 3;refine⟨by simp,Or.inr ⟨w.heap.size,_,_,rfl,aa _,cO _ _,bK _,grownCap_le_maxLen w n 0 3 (by simp only [bM];omega), ?_,by simp⟩⟩;simp only [Array.size_append,List.size_toArray,EY,size_zeroCells,Value.cells];simp;omega
theorem aEN(z1 z2:List Int)(A1 A2:Option aj)(c1 c2 g:Nat)(w:aJ)(h1:wx w A1 c1 z1)(h2:wx w A2 c2 z2)(g0:w.cell? ⟨g,0,aB⟩=aC (aH A1 (aA z1) c1))(g1:w.cell? ⟨g,1,aB⟩=aC (aH A2 (aA z2) c2))(hg:g<w.heap.size)(oK:aA z1<=100000)(hl2:aA z2<=100000):
 aQ aM 180 #[aH (aC ⟨g,0,aB⟩) 2 2] w (Z0 w (z1++z2)):=by
 have H1:=η h1;have H2:=η h2;clear h1 h2;have G1:=η g1;rcases Nat.eq_zero_or_pos (aA z1+aA z2) with h0|h0
 ·have jJ:aA z1=0:=by omega
  have oL:aA z2=0:=by omega
  have e1:z1= []:=nO jJ;have e2:z2= []:=nO oL;subst e1 e2;clear h0 jJ oL;have wK:=H1;have HZ:Hid (w.heap.size<=w.heap.size):=aa _;have ew:Hid (w.heap.size<=w.heap.size):=aa _;have pB:Hid (β w w):=aX _ _;have qT:Hid (w.ownsRow w.heap.size 3 1 (aH aB 0 0) 0 (([]:List Int).map (aG aF))):=⟨by simp,aS ⟨rfl,rfl⟩⟩;simp only [EY] at g0 g1;go_enter aAl,aBY
  go_wp2_with fail
  refine um 3 ?_;rw [eB];go_wp2_with fail
  rw [eB];go_wp2_with fail
  rw [eB];go_wp2_with fail
  refine(Any8.slices_Grow_room growI aB 0 0 0 _ (by omega) (by omega) (by omega) (by omega)).mono ?_;rintro e w2 ⟨rfl,hw2⟩;obtain rfl:w=w2:=hw2.symm;go_wp2_with fail
  refine um 3 ?_;rw [eB];go_wp2_with (at_builtin;refine SV rfl _ _ rfl w.heap.size _ 0 [] rfl qT.o A1 c1 [] rfl wK.o (by omega) HZ.o ?_)
  intro v3 w3 j5 hg3;have cD:Hid (w3.ownsRow w.heap.size 3 1 v3 (aA ([]:List Int)) ([].map (aG aF))):=by show kB _ _ _ _ _ _ _;simpa using j5
  have ag:Hid (β w w3):=(aX _ _).grown hg3 HZ.o (λj hj=>eF qT.o j hj);have mM:Hid (β w w3):=pB.o.trans (ag.o.mono ew.o);have q1:w3.cell? ⟨g,1,aB⟩=aC (aH A2 (aA ([]:List Int)) c2):=(mM.o.cell (p:=⟨g,1,aB⟩) hg).trans G1.o;have CO:Hid (wx w3 A2 c2 []):=H2.o.below mM.o;have uz:Hid (w.heap.size<=w3.heap.size):=bz HZ.o ag.o.size;clear j5 hg3;go_wp2_with fail
  rw [eB];go_wp2_with (at_builtin;refine SV rfl _ _ rfl w.heap.size _ (aA ([]:List Int)) [] rfl cD.o A2 c2 [] rfl CO.o (by omega) uz.o ?_)
  intro v4 w4 gG hg4;have dP:Hid (w4.ownsRow w.heap.size 3 1 v4 (aA (([]:List Int)++ [])) (((([]:List Int)++ [])).map (aG aF))):=by show kB _ _ _ _ _ _ _;rw [cN];first|exact gG|(rw [dZ];exact gG)
  have ar:Hid (β w w4):=mM.o.trans (((aX _ _).grown hg4 uz.o (λj hj=>eF cD.o j hj)).mono ew.o);clear gG hg4 q1;go_wp2_with fail
  rw [eB];go_wp2_with fail
  go_ret;obtain⟨A4,c4,rfl,j6⟩:=Y4 dP.o rfl;exact⟨A4,c4,rfl,j6,ar.o⟩
 have yf:aF.wrap ((aA z1:Int)+aA z2)=(aA z1:Int)+aA z2:=sj _ (by omega);obtain⟨i0,bu,hz0,hz1,hz2⟩:=dJ RI;go_enter aAl,aBY
 go_wp2_with fail
 refine um 3 ?_;rw [eB];go_wp2_with fail
 rw [eB];go_wp2_with fail
 rw [eB];go_wp2_with fail
 clear yf;rw [show ((aA z1:Int)+(aA z2:Int))=((aA z1+aA z2:Nat):Int) from by omega];refine(Any8.slices_Grow_grow growI i0 (ν 0) bu hz0 (by rw [hz1];decide) aB 0 0 (aA z1+aA z2) [] _ (by omega) (by omega) (by rw [hz2];omega) (by omega) (by simp) (λ_=>rfl) (λa h=>by cases h)).mono ?_;rintro e w2 ⟨rfl,hw2⟩;have qT:Hid (w2.ownsRow w.heap.size 3 1 (aH (aC ⟨w.heap.size,0,aB⟩) 0 (xM w (0+(aA z1+aA z2)) 0 3)) 0 (([]:List Int).map (aG aF))):=by show kB _ _ _ _ _ _ _;rw [hw2];exact aFy w (aA z1+aA z2) (by omega)
 have pB:Hid (β w w2):=by show RowKit.Below _ _ _;rw [hw2];exact(aX _ _).drew.alloc (aa _) _
 have HZ:Hid (w.heap.size<=w2.heap.size):=pB.o.size;have ew:Hid (w.heap.size<=w.heap.size):=aa _;have wK:Hid (wx w2 A1 c1 z1):=H1.o.below pB.o;have p0:w2.cell? ⟨g,0,aB⟩=aC (aH A1 (aA z1) c1):=(pB.o.cell (p:=⟨g,0,aB⟩) hg).trans g0;clear hw2 g0 g1;rw [show (growI_ren.t 25)=3 from rfl];generalize xM w (0+(aA z1+aA z2)) 0 3=cap at*;go_wp2_with fail
 refine um 3 ?_;rw [eB];go_wp2_with (at_builtin;refine SV rfl _ _ rfl w.heap.size _ 0 [] rfl qT.o A1 c1 z1 rfl wK.o (by omega) HZ.o ?_)
 intro v3 w3 j5 hg3;have cD:Hid (w3.ownsRow w.heap.size 3 1 v3 (aA z1) (z1.map (aG aF))):=by show kB _ _ _ _ _ _ _;simpa using j5
 have ag:Hid (aY w.heap.size w2 w3):=(aX _ _).grown hg3 HZ.o (λj hj=>eF qT.o j hj);have mM:Hid (β w w3):=pB.o.trans (ag.o.mono ew.o);have q1:w3.cell? ⟨g,1,aB⟩=aC (aH A2 (aA z2) c2):=(mM.o.cell (p:=⟨g,1,aB⟩) hg).trans G1.o;have CO:Hid (wx w3 A2 c2 z2):=H2.o.below mM.o;have uz:Hid (w.heap.size<=w3.heap.size):=bz HZ.o ag.o.size;clear j5 hg3;go_wp2_with fail
 rw [eB];go_wp2_with (at_builtin;refine SV rfl _ _ rfl w.heap.size _ (aA z1) z1 rfl cD.o A2 c2 z2 rfl CO.o (by omega) uz.o ?_)
 intro v4 w4 gG hg4;have dP:Hid (w4.ownsRow w.heap.size 3 1 v4 (aA (z1++z2)) ((z1++z2).map (aG aF))):=by show kB _ _ _ _ _ _ _;rw [cN];first|exact gG|(rw [dZ];exact gG)
 have ar:Hid (β w w4):=mM.o.trans (((aX _ _).grown hg4 uz.o (λj hj=>eF cD.o j hj)).mono ew.o);clear gG hg4 q1;go_wp2_with fail
 rw [eB];go_wp2_with fail
 go_ret;obtain⟨A4,c4,rfl,j6⟩:=Y4 dP.o rfl;exact⟨A4,c4,rfl,j6,ar.o⟩
end
section
structure Ev where
 k:Int
 m:Int
 a:Int
 n:Int
 o:Int
def Ev.cells(x:Ev):List aN:= [aG aF x.k,aG aF x.m,aG aF x.a,aG aF x.n,aG aF x.o]
def uU(l:List Ev):List aN:=l.flatMap Ev.cells
theorem aFN(l r:List Ev):uU (l++r)=uU l++uU r:=by simp [uU]
theorem a3G(l:List Ev):∀u∈uU l,u.oneCell'=aO:=by intro u hu;obtain⟨x,_,hx⟩:=List.mem_flatMap.1 hu;simp [Ev.cells] at hx;rcases hx with rfl|rfl|rfl|rfl|rfl<;>rfl
theorem a3F(l:List Ev):aA (uU l)=aA l*5:=by
 induction l with
 |nil=>rfl
 |cons x l ih=>simp only [uU,wZ,cN,uL] at*;rw [ih];simp [Ev.cells];omega
structure Dk where
 x:ak
 l:List Int
 h:List Hr
 ob:List Ob
 bx:List Bd
 who:List Int
 ai:Int
 st:Int
 en:Bool
 log:List Ev
structure Dp where
 vb:Nat
 vp:Vp
 sb:Nat
 sv:aN
 xb:Nat
 xc:ak
 xv:aN
 wv:aN
 lv:aN
def VE(p:Dp)(D:Dk):Array aN:= #[aH D.x.Am (aA D.x.ms) D.x.cm,aH D.x.As (aA D.x.ss) D.x.cs,aH D.x.Ac (aA D.x.cy) D.x.cc,aG aF D.x.line,aG aF D.x.bV,aG aF D.x.lead,aG aF D.x.tr,aG aF D.x.bT,bF (aC ⟨p.vb,0,aB⟩),bF (aC ⟨p.sb,0,aB⟩),bF (aC ⟨p.xb,0,aB⟩),p.wv,aG aF D.ai,aG aF D.st,bJ D.en,p.lv]
structure bW(w:aJ)(db:Nat)(p:Dp)(D:Dk):Prop where
 blk:w.heap[db]? =aC (aK (VE p D) 90 (0,0))
 cf:wJ w 0 D.x
 vt:gS w p.vb p.vp (aA D.x.ms) (aA D.x.ss+1) (aA D.x.ms) D.l D.h
 sh:fM w p.sb 0 p.sv D.ob
 bx:jA w p.xb p.xc p.xv D.bx
 E6:wJ w 0 p.xc
 same:p.xc.ms=D.x.ms/\p.xc.ss=D.x.ss/\p.xc.cy=D.x.cy/\p.xc.bT=D.x.bT
 who:w.ownsRow 0 3 1 p.wv (aA D.who) (D.who.map (aG aF))
 log:w.ownsRow 0 45 5 p.lv (aA D.log) (uU D.log)
def eW(db:Nat)(p:Dp)(k:Nat):Prop:=k=db\/qE p.vb p.vp k\/(k=p.sb\/p.sv.ownBlock=aC k)\/(k=p.xb\/p.xv.ownBlock=aC k)\/p.wv.ownBlock=aC k\/p.lv.ownBlock=aC k
def Ty(w:aJ)(T:List bY)(k:Nat):Prop:=∃cs t,t∈T/\w.heap[k]? =aC (aK cs t (0,0))
theorem Ty.own {w:aJ} {base:Nat} {e:bY} {s n:Nat} {v:aN} {xs:List aN}(h:w.ownsRow base e s v n xs) {k:Nat}(hk:v.ownBlock=aC k):Ty w [e] k:=by
 rcases h.2 with⟨rfl,_⟩|⟨g,cap,cur,rfl,_,hh,_⟩
 ·simp [dy] at hk
 have e':g=k:=by simpa [dy] using hk
 subst e';exact⟨_,_,List.mem_singleton.2 rfl,hh⟩
theorem Ty.mono {w:aJ} {T T':List bY} {k:Nat}(h:Ty w T k)(hs:∀t∈T,t∈T'):Ty w T' k:=by obtain⟨cs,t,ht,hh⟩:=h;exact⟨cs,t,hs t ht,hh⟩
theorem Ty.apart {w:aJ} {T T':List bY} {k:Nat}(h:Ty w T k)(h':Ty w T' k)(hd:∀t∈T,t∉T'):False:=by obtain⟨cs,t,ht,hh⟩:=h;obtain⟨cs',t',AH,Hz⟩:=h';rw [hh] at Hz;injection Hz with e;injection e with _ e2;subst e2;exact hd t ht AH
def TV:List bY:= [141,216,2,218,188]
def TS:List bY:= [146,59]
def TX:List bY:= [134,41]
def TC:List bY:= [67,69,71]
theorem gS.ty {w:aJ} {vb:Nat} {p:Vp} {M A:Nat} {room:Int} {l:List Int} {h:List Hr}(H:gS w vb p M A room l h) {k:Nat}(hk:qE vb p k):Ty w TV k:=by
 rcases hk with rfl|rfl|e|rfl|e
 ·exact⟨_,_,by decide,H.blk⟩
 ·exact⟨_,_,by decide,H.bk.blk⟩
 ·exact(Ty.own H.bk.own e).mono (by decide)
 ·exact⟨_,_,by decide,H.tb.blk⟩
 exact(Ty.own H.tb.own e).mono (by decide)
theorem fM.ty {w:aJ} {bs base:Nat} {v:aN} {L:List Ob}(H:fM w bs base v L) {k:Nat}(hk:k=bs\/v.ownBlock=aC k):Ty w TS k:=by
 rcases hk with rfl|e
 ·exact⟨_,_,by decide,H.s⟩
 exact(Ty.own H.own e).mono (by decide)
theorem jA.ty {w:aJ} {xb:Nat} {x:ak} {v:aN} {L:List Bd}(H:jA w xb x v L) {k:Nat}(hk:k=xb\/v.ownBlock=aC k):Ty w TX k:=by
 rcases hk with rfl|e
 ·exact⟨_,_,by decide,H.blk⟩
 exact(Ty.own H.own e).mono (by decide)
theorem wJ.upd {w w':aJ} {S:Nat->Prop} {b:Nat} {x:ak}(h:wJ w b x)(hu:bC S w w')(hS:∀k,Ty w TC k->¬S k):wJ w' b x:=
 ⟨hu.own h.m (λk hk=>hS k ((Ty.own h.m hk).mono (by decide))),hu.own h.s (λk hk=>hS k ((Ty.own h.s hk).mono (by decide))),hu.own h.c (λk hk=>hS k ((Ty.own h.c hk).mono (by decide)))⟩
theorem fM.upd {w w':aJ} {S:Nat->Prop} {bs base:Nat} {v:aN} {L:List Ob}(H:fM w bs base v L)(hu:bC S w w')(hS:∀k,Ty w TS k->¬S k):fM w' bs base v L:=
 ⟨(hu.keep bs H.lt (hS bs (H.ty (.inl rfl)))).trans H.s,hu.own H.own (λk hk=>hS k (H.ty (.inr hk)))⟩
theorem jA.upd {w w':aJ} {S:Nat->Prop} {xb:Nat} {x:ak} {v:aN} {L:List Bd}(H:jA w xb x v L)(hu:bC S w w')(hS:∀k,Ty w TX k->¬S k):jA w' xb x v L:=
 ⟨(hu.keep xb H.lt (hS xb (H.ty (.inl rfl)))).trans H.blk,hu.own H.own (λk hk=>hS k (H.ty (.inr hk)))⟩
theorem Only.upd {bs:Nat} {v:aN} {w w':aJ}(h:Only bs v w w'):bC (λk=>k=bs\/v.ownBlock=aC k) w w':=
 ⟨h.os,h.tape,h.output,h.size,λk hk hn=>h.block k hk (λe=>hn (.inl e)) (λe=>hn (.inr e.symm))⟩
section
variable {w w':aJ} {db:Nat} {p:Dp} {D:Dk} (H:bW w db p D)
include H
theorem bW.lt:db<w.heap.size:=(fX.1 H.blk).1
theorem bW.ty:Ty w [90] db:=⟨_,_,by decide,H.blk⟩
theorem bW.below(hb:aY w.heap.size w w'):bW w' db p D:=
 ⟨(hb.block _ H.lt).trans H.blk,H.cf.below hb,H.vt.below hb,H.sh.below hb,H.bx.below hb,H.E6.below hb,H.same,gh H.who hb,gh H.log hb⟩
theorem bW.a8M(hu:bC (qE p.vb p.vp) w w') {SS:Vp} {l':List Int} {h':List Hr}(hv:gS w' p.vb SS (aA D.x.ms) (aA D.x.ss+1) (aA D.x.ms) l' h'):bW w' db {p with vp:=SS} {D with l:=l',h:=h'}:=by
 have no:∀ {T:List bY} {k:Nat},Ty w T k->(∀t∈T,t∉TV)->¬qE p.vb p.vp k:=λhk hd hs=>hk.apart (H.vt.ty hs) hd
 exact⟨(hu.keep db H.lt (no H.ty (by decide))).trans H.blk,H.cf.upd hu (λk hk=>no hk (by decide)),hv,H.sh.upd hu (λk hk=>no hk (by decide)),H.bx.upd hu (λk hk=>no hk (by decide)),H.E6.upd hu (λk hk=>no hk (by decide)),H.same,hu.own H.who (λk hk=>no (Ty.own H.who hk) (by decide)),hu.own H.log (λk hk=>no (Ty.own H.log hk) (by decide))⟩
theorem bW.aKZ(hu:bC (λk=>k=p.sb\/p.sv.ownBlock=aC k) w w') {SF:aN} {cR:List Ob}(hs:fM w' p.sb 0 SF cR):bW w' db {p with sv:=SF} {D with ob:=cR}:=by
 have no:∀ {T:List bY} {k:Nat},Ty w T k->(∀t∈T,t∉TS)->¬(k=p.sb\/p.sv.ownBlock=aC k):=λhk hd hs=>hk.apart (H.sh.ty hs) hd
 exact⟨(hu.keep db H.lt (no H.ty (by decide))).trans H.blk,H.cf.upd hu (λk hk=>no hk (by decide)),H.vt.upd hu (λk hk=>no (H.vt.ty hk) (by decide)),hs,H.bx.upd hu (λk hk=>no hk (by decide)),H.E6.upd hu (λk hk=>no hk (by decide)),H.same,hu.own H.who (λk hk=>no (Ty.own H.who hk) (by decide)),hu.own H.log (λk hk=>no (Ty.own H.log hk) (by decide))⟩
theorem bW.box(hu:bC (λk=>k=p.xb\/p.xv.ownBlock=aC k) w w') {xv':aN} {M7:List Bd}(hb:jA w' p.xb p.xc xv' M7):bW w' db {p with xv:=xv'} {D with bx:=M7}:=by
 have no:∀ {T:List bY} {k:Nat},Ty w T k->(∀t∈T,t∉TX)->¬(k=p.xb\/p.xv.ownBlock=aC k):=λhk hd hs=>hk.apart (H.bx.ty hs) hd
 exact⟨(hu.keep db H.lt (no H.ty (by decide))).trans H.blk,H.cf.upd hu (λk hk=>no hk (by decide)),H.vt.upd hu (λk hk=>no (H.vt.ty hk) (by decide)),H.sh.upd hu (λk hk=>no hk (by decide)),hb,H.E6.upd hu (λk hk=>no hk (by decide)),H.same,hu.own H.who (λk hk=>no (Ty.own H.who hk) (by decide)),hu.own H.log (λk hk=>no (Ty.own H.log hk) (by decide))⟩
theorem bW.Ph(i:Nat)(u:aN) {p':Dp} {D':Dk}(hc:(VE p D).setIfInBounds i u=VE p' D')(hx:D'.x=D.x)(hl:D'.l=D.l)(hh:D'.h=D.h)(ho:D'.ob=D.ob)(hb:D'.bx=D.bx)(hp:p'.vb=p.vb/\p'.vp=p.vp/\p'.sb=p.sb/\p'.sv=p.sv/\p'.xb=p.xb/\p'.xc=p.xc/\p'.xv=p.xv)(hw:w.ownsRow 0 3 1 p'.wv (aA D'.who) (D'.who.map (aG aF)))(hg:w.ownsRow 0 45 5 p'.lv (aA D'.log) (uU D'.log)):bW (w.setCell ⟨db,i,aB⟩ u) db p' D':=by
 have hu:=(bC.refl (λk=>k=db) w).setCell (p:=⟨db,i,aB⟩) (.inl rfl) u;have no:∀ {T:List bY} {k:Nat},Ty w T k->(∀t∈T,t∉ [90])->¬k=db:=λhk hd hs=>hk.apart (hs▸H.ty) hd
 obtain⟨h1,h2,h3,h4,h5,h6,h7⟩:=hp;refine⟨?_, ?_, ?_, ?_, ?_, ?_, ?_,hu.own hw (λk hk=>no (Ty.own hw hk) (by decide)),hu.own hg (λk hk=>no (Ty.own hg hk) (by decide))⟩
 ·rw [lu H.blk i u,hc]
 ·rw [hx];exact H.cf.upd hu (λk hk=>no hk (by decide))
 ·rw [h1,h2,hx,hl,hh];exact H.vt.upd hu (λk hk=>no (H.vt.ty hk) (by decide))
 ·rw [h3,h4,ho];exact H.sh.upd hu (λk hk=>no hk (by decide))
 ·rw [h5,h6,h7,hb];exact H.bx.upd hu (λk hk=>no hk (by decide))
 ·rw [h6];exact H.E6.upd hu (λk hk=>no hk (by decide))
 rw [h6,hx];exact H.same
theorem bW.tW {k:Nat}(hk:eW db p k):k<w.heap.size:=by
 rcases hk with rfl|e|(rfl|e)|(rfl|e)|e|e
 ·exact H.lt
 ·exact H.vt.aCe _ e
 ·exact H.sh.lt
 ·exact(H.sh.own.lt k e).2
 ·exact H.bx.lt
 ·exact(H.bx.own.lt k e).2
 ·exact(H.who.lt k e).2
 exact(H.log.lt k e).2
theorem bW.told(hg:w.grownBy w' p.lv.ownBlock) {yh:aN} {XJ:List Ev}(ho:w'.ownsRow 0 45 5 yh (aA XJ) (uU XJ)):bW (w'.setCell ⟨db,15,aB⟩ yh) db {p with lv:=yh} {D with log:=XJ}:=by
 have xP:=gP H.log H.blk (by decide);have hb1:=(hg.block db H.lt (λe=>xP e.symm)).trans H.blk;have hu:bC (λk=>k=db\/p.lv.ownBlock=aC k) w (w'.setCell ⟨db,15,aB⟩ yh):=(bC.IZ hg (λk hk=> .inl (.inr hk))).setCell (p:=⟨db,15,aB⟩) (.inl (.inl rfl)) _;have tyS:∀k,(k=db\/p.lv.ownBlock=aC k)->Ty w [90,45] k:=λk hk=>by
  rcases hk with rfl|e
  ·exact H.ty.mono (by decide)
  exact(Ty.own H.log e).mono (by decide)
 have no:∀ {T:List bY} {k:Nat},Ty w T k->(∀t∈T,t∉ [90,45])->¬(k=db\/p.lv.ownBlock=aC k):=λhk hd hs=>hk.apart (tyS _ hs) hd
 exact⟨(lu hb1 15 yh).trans rfl,H.cf.upd hu (λk hk=>no hk (by decide)),H.vt.upd hu (λk hk=>no (H.vt.ty hk) (by decide)),H.sh.upd hu (λk hk=>no hk (by decide)),H.bx.upd hu (λk hk=>no hk (by decide)),H.E6.upd hu (λk hk=>no hk (by decide)),H.same,hu.own H.who (λk hk=>no (Ty.own H.who hk) (by decide)),kK ho (gP ho hb1 (by decide)) _⟩
end
def aq(db:Nat)(p:Dp)(D':Dk)(w w':aJ):Prop:=
 ∃p',bW w' db p' D'/\p'.vb=p.vb/\p'.sb=p.sb/\p'.xb=p.xb/\p'.xc=p.xc/\bC (eW db p) w w'/\∀k,eW db p' k->eW db p k\/w.heap.size<=k
theorem aq.refl {db:Nat} {p:Dp} {D:Dk} {w:aJ}(H:bW w db p D):aq db p D w w:=⟨p,H,rfl,rfl,rfl,rfl,bC.refl _ _,λ_ h=> .inl h⟩
theorem aq.bZ {db:Nat} {p:Dp} {D:Dk} {w w':aJ}(H:bW w db p D)(hb:aY w.heap.size w w'):aq db p D w w':=⟨p,H.below hb,rfl,rfl,rfl,rfl,bC.bZ _ hb,λ_ h=> .inl h⟩
theorem aq.trans {db:Nat} {p p1:Dp} {D2:Dk} {w w1 w2:aJ}(hu:bC (eW db p) w w1)(hs:∀k,eW db p1 k->eW db p k\/w.heap.size<=k)(hp:p1.vb=p.vb/\p1.sb=p.sb/\p1.xb=p.xb/\p1.xc=p.xc)(h2:aq db p1 D2 w1 w2):aq db p D2 w w2:=by obtain⟨p2,H2,e1,e2,e3,e4,sA,hs2⟩:=h2;exact⟨p2,H2,e1.trans hp.1,e2.trans hp.2.1,e3.trans hp.2.2.1,e4.trans hp.2.2.2,hu.trans sA hs,λk hk=>(hs2 k hk).elim (hs k) (λh=> .inr (bz hu.size h))⟩
theorem aq.below {db:Nat} {p:Dp} {D:Dk} {w w1 w2:aJ}(h:aq db p D w w1)(hb:aY w1.heap.size w1 w2):aq db p D w w2:=by obtain⟨p1,H,e1,e2,e3,e4,hu,hs⟩:=h;exact⟨p1,H.below hb,e1,e2,e3,e4,hu.below hb,hs⟩
end
structure Dw where
 k:Int
 m:Int
 n:Int
deriving DecidableEq
def Dw.cells(x:Dw):List aN:= [aG aF x.k,aG aF x.m,aG aF x.n]
def gU(l:List Dw):List aN:=l.flatMap Dw.cells
theorem Pw {w:aJ} {B:Nat} {A:Option aj} {l:List Dw}(h:aW w B A (gU l)) {k:Nat}(hk:k<aA l):
 ∃b o,A=aC ⟨b,o,aB⟩/\b<B/\w.cell? ⟨b,o+k*3,aB⟩=aC (ν l[k].k)/\w.cell? ⟨b,o+k*3+1,aB⟩=aC (ν l[k].m)/\w.cell? ⟨b,o+k*3+2,aB⟩=aC (ν l[k].n):=by
 obtain⟨b,o,e,hb,hc⟩:=h.run (i:=k*3) (y:=ν l[k].k) (t:= [ν l[k].m,ν l[k].n]) (λj u hu=>uV Dw.cells 3 (λ_=>rfl) l k hk j u hu);exact⟨b,o,e,hb,hc 0 _ rfl,hc 1 _ rfl,hc 2 _ rfl⟩
theorem VJ(x:Dw):∀u∈x.cells,u.oneCell'=aO:=by intro u hu;simp [Dw.cells] at hu;rcases hu with rfl|rfl|rfl<;>rfl
theorem a2s(l:List Dw)(x:Dw):gU (l++ [x])=gU l++x.cells:=by simp [gU]
theorem Px:(aM.info? 196).map (λi=>(i.zero,i.size,i.bytes))=aC (aC (bQ #[aG aF 0,aG aF 0,aG aF 0]),3,24):=by kernel_rfl
theorem a2S(zs:List Int)(A:Option aj)(c:Nat)(m:Int)(w:aJ)(h:aW w w.heap.size A (zs.map (aG aF)))(hl:aA zs<=1000000):
 aQ aM 101 #[aH A (aA zs) c,ν m] w λe w'=>e=aT (bJ (zs.contains m))/\w=w':=by
 rcases Nat.eq_zero_or_pos (aA zs) with h0|h0
 ·have hz:=nO h0;subst hz;refine(slices_Contains_int_empty A c m _).mono ?_;rintro e w1 ⟨rfl,hw⟩;exact⟨rfl,hw.symm⟩
 obtain⟨b,o,rfl,hb,_⟩:=tV h h0;refine(slices_Contains_int b o (aA zs) c zs m _ (aa _) (by omega) (Y3 h)).mono ?_;rintro e w1 ⟨rfl,hw⟩;exact⟨by rw [cT],hw.symm⟩
theorem PW(k m n:Int)(w:aJ):
 aQ aM 222 #[ν k,ν m,ν n] w λe w'=>e=aT (aH (aC ⟨w.heap.size,0,aB⟩) 1 1)/\w.alloc (aK #[ν k,ν m,ν n] 196)=w':=by
 go_enter func222,ntmps222
 go_wp2
 go_ret;exact⟨rfl,rfl⟩
def cW(L:List Dw):Int:=(L.map λx=>max x.n 0).sum
def sQ(L:List Dw):Int:=if cW L<=9223372036854775807 then cW L else 9223372036854775807
theorem a8E {L:List Dw} {k:Nat}(hk:k<aA L):cW (L.take (k+1))=cW (L.take k)+max L[k].n 0:=by unfold cW;rw [fF hk,dZ,Ct];simp
theorem Ir(L:List Dw):0<=cW L:=by
 unfold cW;induction L with
 |nil=>simp
 |cons x L ih=>simp only [yM,Ea];omega
theorem aLS(L:List Dw)(k:Nat):cW (L.take k)<=cW L:=by
 have h:cW L=cW (L.take k)+cW (L.drop k):=by unfold cW;rw [<-Ct,<-dZ,List.take_append_drop]
 have:=Ir (L.drop k);omega
theorem aLT {L:List Dw} {k:Nat}(hk:k<aA L)(h:9223372036854775807-cW (L.take k)<L[k].n):sQ L=9223372036854775807:=by have h1:=a8E hk;have h2:=aLS L (k+1);unfold sQ;rw [ifN];omega
theorem SP {L:List Dw}(h:cW L<=9223372036854775807):sQ L=cW L:=by unfold sQ;rw [ifP h]
theorem a8F(L:List Dw)(A:Option aj)(c:Nat)(w:aJ)(hs:aW w w.heap.size A (gU L))(hI:∀x∈L,aL x.n)(hl:aA L<=100000):
 aQ aM 186 #[aH A (aA L) c] w λe w'=>e=aT (ν (sQ L))/\β w w':=by
 have HS:=η hs;have HI:=η hI;go_enter func186,ntmps186
 go_wp2
 go_loopw [3,8] (λn i wr=>∃k:Nat,∃s:Int,k<=aA L/\i=ν k/\n=ν s/\Hid (s=cW (L.take k))/\0<=s/\s<=9223372036854775807/\Hid (β w wr)) (λ_ i _=>aA L-(af i).toNat)
 ·exact⟨0,0,bK _,rfl,rfl,rfl,by omega,by omega,aX _ _⟩
 ·
  obtain⟨k,s,hk,rfl,rfl,HT,h0,h1,HB⟩:=hrel;have hsz:=HB.o.size;by_cases hlt:k<aA L
  ·obtain⟨b,o,rfl,hb,d0,d1,d2⟩:=Pw (HS.o.below HB) hlt;have aR:Hid (∀v,β w (wr.alloc v)):=η λv=>HB.o.alloc hsz v
   have hn:=HI.o _ (cH hlt);unfold aL at hn;have cG:=η (a8E hlt);have J5:Hid (9223372036854775807-s<L[k].n->sQ L=9223372036854775807):=η λh=>aLT hlt (by rw [<-HT.o];exact h)
   generalize L[k].n=x at*;by_cases kp:9223372036854775807-s<x
   ·have HV:=η (J5 kp);go_wp2
    go_ret;exact⟨cj HV.o.symm,aR _⟩
   have bP:=decide_eq_false kp;have ES:Hid (s+max x 0=cW (L.take (k+1))):=η (by rw [cG.o,HT.o]);have yf:=sj _ (by omega);by_cases hx:x<=0
   ·have hm:max x 0=0:=by omega
    rw [hm,Int.add_zero] at ES;go_wp2
    go_roundw
    ·exact⟨k+1,s,by omega,by go_num,rfl,ES,h0,h1,η (aR _)⟩
    simp [af];omega
   have hm:max x 0=x:=by omega
   rw [hm] at ES;have hw2:=sj _ (by omega);go_wp2
   go_roundw
   ·exact⟨k+1,s+x,by omega,by go_num,rfl,ES,by omega,by omega,η (aR _)⟩
   simp [af];omega
  obtain rfl:k=aA L:=by omega
  have HV:Hid (s=sQ L):=η (by have:=HT.o;rw [cT] at this;rw [this,SP (by omega)]);go_wp2
  go_ret;exact⟨cj HV,HB⟩
structure DkC(W:aJ)(db:Nat)(p:Dp)(D:Dk):Prop where
 c0:W.cell? ⟨db,0,aB⟩=aC (aH D.x.Am (aA D.x.ms) D.x.cm)
 c1:W.cell? ⟨db,1,aB⟩=aC (aH D.x.As (aA D.x.ss) D.x.cs)
 c2:W.cell? ⟨db,2,aB⟩=aC (aH D.x.Ac (aA D.x.cy) D.x.cc)
 c3:W.cell? ⟨db,3,aB⟩=aC (ν D.x.line)
 c4:W.cell? ⟨db,4,aB⟩=aC (ν D.x.bV)
 c5:W.cell? ⟨db,5,aB⟩=aC (ν D.x.lead)
 c6:W.cell? ⟨db,6,aB⟩=aC (ν D.x.tr)
 c7:W.cell? ⟨db,7,aB⟩=aC (ν D.x.bT)
 c8:W.cell? ⟨db,8,aB⟩=aC (π p.vb)
 c9:W.cell? ⟨db,9,aB⟩=aC (π p.sb)
 c10:W.cell? ⟨db,10,aB⟩=aC (π p.xb)
 c11:W.cell? ⟨db,11,aB⟩=aC (p.wv)
 c12:W.cell? ⟨db,12,aB⟩=aC (ν D.ai)
 c13:W.cell? ⟨db,13,aB⟩=aC (ν D.st)
 c14:W.cell? ⟨db,14,aB⟩=aC (bJ D.en)
 c15:W.cell? ⟨db,15,aB⟩=aC (p.lv)
theorem bW.cells {w:aJ} {db:Nat} {p:Dp} {D:Dk}(H:bW w db p D):DkC w db p D:=
 ⟨ρ H.blk,ρ H.blk,ρ H.blk,ρ H.blk,ρ H.blk,ρ H.blk,ρ H.blk,ρ H.blk,ρ H.blk,ρ H.blk,ρ H.blk,ρ H.blk,ρ H.blk,ρ H.blk,ρ H.blk,ρ H.blk⟩
theorem zm(db:Nat)(p:Dp)(D:Dk)(k m a:Int)(w:aJ)(H:bW w db p D)(hk:aL k)(hm:aL m):
 aQ aM 46 #[π db,bQ #[ν k,ν m],ν a] w λe w'=>e=aT (ν (balA (aA D.x.ms) (aA D.x.ss+1) D.l k m a))/\β w w':=by
 have aZ:Hid (β w (w.alloc (aK #[ν k,ν m] 51))):=η σ;have cY:Hid ((w.alloc (aK #[ν k,ν m] 51)).heap[w.heap.size]? =aC (aK #[ν k,ν m] 51 (0,0))):=η (cO w _);have hz0:w.heap.size<(w.alloc (aK #[ν k,ν m] 51)).heap.size:=by simp
 have LR:=η (λW (hW:β w W)=>(H.below hW).cells.c8);have LW:=η (λW (hW:β w W)=>YV p.vb p.vp (aA D.x.ms) (aA D.x.ss+1) (aA D.x.ms) D.l D.h k m a W (H.below hW).vt hk hm);generalize balA (aA D.x.ms) (aA D.x.ss+1) D.l k m a=bv at*;generalize np (plcA (aA D.x.ms) (aA D.x.ss+1) k m a)=be at*;go_enter func46,ntmps46
 go_upto_region 1 with (fail)
 generalize w.alloc (aK #[ν k,ν m] 51)=w1 at*;obtain⟨bx,bU⟩:∃bx,bx=w.heap.size:=⟨_,rfl⟩;rw [<-bU] at cY hz0 ⊢;clear bU;have bO:Hid (∀W,β w1 W->W.cell? ⟨db,8,aB⟩=aC (π p.vb)/\W.cell? ⟨bx,0,aB⟩=aC (ν k)/\W.cell? ⟨bx,1,aB⟩=aC (ν m)):=η (by intro W hW;have hd:=(hW.block bx hz0).trans cY.o;exact⟨LR.o W (aZ.o.trans (hW.mono aZ.o.size)),ρ hd,ρ hd⟩);have eI:Hid (∀W,β w1 W->β w W):=η (λW hW=>aZ.o.trans (hW.mono aZ.o.size));have bP:β w1 w1.drew:=(aX _ _).drew;go_region_held3 (λW=>W.cell? ⟨db,8,aB⟩=aC (π p.vb)/\W.cell? ⟨bx,0,aB⟩=aC (ν k)/\W.cell? ⟨bx,1,aB⟩=aC (ν m)) (first|(with_reducible exact bO.o _ bP)|(with_reducible exact bO.o _ hb2)|(with_reducible exact bO.o _ hb3)) ((go_at_call 41;refine(LW.o _ (eI.o _ bP)).mono ?_;rintro e w2 ⟨rfl,vU⟩;have hb2:β w1 w2:=bP.trans (vU.mono bP.size)))
 have aV:=η (eI.o _ hb2);clear hb2 vU bP bO LR LW eI aZ cY;go_wp2_with fail
 go_ret;exact⟨rfl,aV.o⟩
theorem Ju(db:Nat)(p:Dp)(D:Dk)(s:Int)(A:Option aj)(c:Nat)(w:aJ)(H:bW w db p D)(hs:aW w w.heap.size A [aG aF s]):
 aQ aM 51 #[π db,aH A 1 c] w λe w'=>e=aT (ν (if D.st=s then 0 else 11))/\β w w':=by
 have c13:=H.cells.c13;have xx:=η (a2S [s] A c D.st w hs (by simp));generalize D.st=st at*;by_cases h:st=s
 ·have hq:([s]:List Int).contains st=aO:=by simp [h]
  rw [hq] at xx;rw [ifP h];clear h hq;go_enter aB4,aBq
  go_wp2_with (go_at_call 101;refine xx.o.mono ?_;rintro e w2 ⟨rfl,rfl⟩)
  go_ret;exact⟨rfl,aX _ _⟩
 have hq:([s]:List Int).contains st=aP:=by simp [h]
 rw [hq] at xx;rw [ifN h];go_enter aB4,aBq
 go_wp2_with (go_at_call 101;refine xx.o.mono ?_;rintro e w2 ⟨rfl,rfl⟩)
 go_ret;exact⟨rfl,aX _ _⟩
theorem aHC:(aM.info? 45).map (λi=>(i.zero,i.size,i.bytes))=aC (aC (bQ #[aG aF 0,aG aF 0,aG aF 0,aG aF 0,aG aF 0]),5,40):=by kernel_rfl
theorem xK(db:Nat)(p:Dp)(D:Dk)(xs:List Ev)(b c:Nat)(w:aJ)(H:bW w db p D)(hb:∀j u,(uU xs)[j]? =aC u->w.cell? ((⟨b,0,aB⟩:aj).add j)=aC u)(hx1:1<=aA xs)(hx:aA xs<=100000)(hl:aA D.log<=1000000):
 aQ aM 55 #[π db,aH (aC ⟨b,0,aB⟩) (aA xs) c] w λe w'=>e=aT (bB #[])/\aq db p {D with log:=D.log++xs} w w':=by
 obtain⟨A,cl,hv⟩:=bL H.log;have d0:=H.cells.c15;have HO:=η H.log;have xP:=H.lt;have HF:=η H;have HN:=η hb;rw [hv] at d0 HO;obtain⟨i0,bu,hz0,ft,xV⟩:=dJ aHC;go_enter func55,ntmps55
 go_wp2_with (at_builtin;refine wpList_append_lies _ rfl _ _ 35 rfl 0 45 i0 _ 5 40 underlying35 bu hz0 ft xV rfl (by omega) _ _ _ rfl HO.o ⟨b,0,aB⟩ (aA xs) c (uU xs) rfl (a3F xs) HN.o (a3G xs) (by omega) (by simp only [bM];omega) (by omega) (bK _) w.heap.size rfl ?_)
 intro g cap w2 hown hgr hat _;have hb2:=(hgr.block db xP (λe=>gP HF.o.log HF.o.blk (by decide) (by rw [hv];exact e.symm))).trans HF.o.blk;have f15:w2.frozen? ⟨db,15,aB⟩=aP:=by simp [iK,hb2]
 have c15:w2.cell? ⟨db,15,aB⟩=aC p.lv:=ρ hb2;have HG:Hid (w.grownBy w2 p.lv.ownBlock):=η (by rw [hv];exact hgr);have dE:Hid (w2.ownsRow 0 45 5 (aH (aC ⟨g,0,aB⟩) (aA D.log+aA xs) cap) (aA (D.log++xs)) (uU (D.log++xs))):=η (by rw [cN,aFN];exact hown);have O1:Hid (p.lv.ownBlock=aC g\/g=w.heap.size):=η (by rw [hv];exact hat);clear hown hgr hat hb2 HO HN d0;go_wp2
 go_end0
 refine⟨rfl,_,HF.o.told HG.o dE.o,rfl,rfl,rfl,rfl, ?_, ?_⟩
 ·exact(bC.IZ HG.o (λk hk=> .inl (.inr (.inr (.inr (.inr (.inr hk))))))).setCell (p:=⟨db,15,aB⟩) (.inl (.inl rfl)) _
 rintro k (e|e|e|e|e|e)
 ·exact .inl (.inl e)
 ·exact .inl (.inr (.inl e))
 ·exact .inl (.inr (.inr (.inl e)))
 ·exact .inl (.inr (.inr (.inr (.inl e))))
 ·exact .inl (.inr (.inr (.inr (.inr (.inl e)))))
 have e2:g=k:=by simpa [dy] using e
 rcases O1.o with h|h
 ·exact .inl (.inr (.inr (.inr (.inr (.inr (by rw [h,e2]))))))
 exact .inr (by omega)
theorem bW.src {w:aJ} {db:Nat} {p:Dp} {D:Dk}(H:bW w db p D):lf w D.x:=H.cf.src.ok
def oT(D:Dk)(m a:Int):Int:=if jb D.x m≠0 then jb D.x m else if a=0 then 0 else jL D.x a
theorem a2q(db:Nat)(p:Dp)(D:Dk)(m a:Int)(w:aJ)(H:bW w db p D)(hm:aL m)(ha:aL a):
 aQ aM 118 #[π db,ν m,ν a] w λe w'=>e=aT (ν (oT D m a))/\β w w':=by
 have HM:=η (Po D.x m w H.src hm);have HS:=η (λW (hW:β w W)=>Nj D.x a W (H.below hW).src ha);have HC:=η (λW (hW:β w W)=>(H.below hW).cells);obtain⟨c0,c1,c2,c3,c4,c5,c6,c7,c8,c9,c10,c11,c12,c13,c14,c15⟩:=H.cells;have hE:oT D m a=if jb D.x m≠0 then jb D.x m else if a=0 then 0 else jL D.x a:=rfl
 have HE:=η hE;generalize oT D m a=ee at HE ⊢;unfold ak.val at HM HS;generalize jb D.x m=me at*;generalize ud D.x m=mp at*;generalize jL D.x a=se at*;generalize dX D.x a=sp at*;go_enter func118,ntmps118
 go_upto_region 2 with (go_at_call 147;refine HM.o.mono ?_;rintro e w1 ⟨rfl,hb1⟩;have aR:=η hb1)
 have aV:Hid (β w (w1.alloc (aK #[ν mp.a,ν mp.b] 67))):=η (aR.o.alloc aR.o.size _);generalize w1.alloc (aK #[ν mp.a,ν mp.b] 67)=w2 at*;by_cases h1:me=0
 case neg=>
  have hb:(me==0)=aP:=by simpa using h1
  have HF:Hid (me=ee):=η (by rw [HE.o,ifP h1]);clear HE h1;go_wp2_with fail
  go_ret;exact⟨cj HF.o,aV.o⟩
 subst h1;by_cases h2:a=0
 ·subst h2;have HF:Hid (0=ee):=η (by rw [HE.o,ifN (by simp),ifP rfl]);clear HE;go_wp2_with fail
  go_ret;exact⟨cj HF.o,aV.o⟩
 have HF:Hid (se=ee):=η (by rw [HE.o,ifN (by simp),ifN h2]);have hb2:(a==0)=aP:=by simpa using h2
 obtain⟨c0,c1,c2,c3,c4,c5,c6,c7,c8,c9,c10,c11,c12,c13,c14,c15⟩:=HC.o _ aV.o;clear h2 HC HE c8 c9 c10 c11 c12 c13 c14 c15;go_wp2_with (go_at_call 117;refine(HS.o _ aV.o).mono ?_;rintro e w3 ⟨rfl,hb3⟩;have ag:=τ aV hb3;clear hb3)
 go_ret;exact⟨cj HF.o,ag.o.alloc ag.o.size _⟩
def nk(D:Dk)(m n:Int):Int:=if jb D.x m≠0 then jb D.x m else if hasB D.who m=aO then 14 else if n<1 then 1 else 0
theorem a2l(db:Nat)(p:Dp)(D:Dk)(m n:Int)(w:aJ)(H:bW w db p D)(hm:aL m)(hw:aA D.who<=100000):
 aQ aM 85 #[π db,ν m,ν n] w λe w'=>e=aT (ν (nk D m n))/\β w w':=by
 have HM:=η (Po D.x m w H.src hm);have HC:=η (λW (hW:β w W)=>(H.below hW).cells.c11);obtain⟨Aw,cw,hv⟩:=bL H.who;have HH:=η (λW (hW:β w W)=>Md D.who Aw cw m W (by have h1:=(H.below hW).who;rw [hv] at h1;exact aW.cA h1) (by omega));rw [hv] at HC;obtain⟨c0,c1,c2,c3,c4,c5,c6,c7,c8,c9,c10,c11,c12,c13,c14,c15⟩:=H.cells;have hE:nk D m n=if jb D.x m≠0 then jb D.x m else if hasB D.who m=aO then 14 else if n<1 then 1 else 0:=rfl
 have HE:=η hE;generalize nk D m n=ee at HE ⊢;unfold ak.val at HM;generalize jb D.x m=me at*;generalize ud D.x m=mp at*;generalize hasB D.who m=hs at*;go_enter func85,ntmps85
 go_upto_region 4 with (go_at_call 147;refine HM.o.mono ?_;rintro e w1 ⟨rfl,hb1⟩;have aR:=η hb1)
 have aV:Hid (β w (w1.alloc (aK #[ν mp.a,ν mp.b] 67))):=η (aR.o.alloc aR.o.size _);generalize w1.alloc (aK #[ν mp.a,ν mp.b] 67)=w2 at*;by_cases h1:me=0
 case neg=>
  have hb:(me==0)=aP:=by simpa using h1
  have HF:Hid (me=ee):=η (by rw [HE.o,ifP h1]);clear HE h1;go_wp2_with fail
  go_ret;exact⟨cj HF.o,aV.o⟩
 subst h1;have c11:=HC.o _ aV.o;have JF:=η (HH.o _ aV.o);clear HC HH;cases hs with
 |true=>
  have HF:Hid (14=ee):=η (by rw [HE.o,ifN (by simp),ifP rfl]);clear HE;go_wp2_with (go_at_call 89;refine JF.o.mono ?_;rintro e w3 ⟨rfl,rfl⟩)
  go_ret;exact⟨cj HF.o,aV.o⟩
 |false=>
  by_cases h2:n<1
  ·have HF:Hid (1=ee):=η (by rw [HE.o,ifN (by simp),ifN (by simp),ifP h2]);clear HE;go_wp2_with (go_at_call 89;refine JF.o.mono ?_;rintro e w3 ⟨rfl,rfl⟩)
   go_ret;exact⟨cj HF.o,aV.o⟩
  have HF:Hid (0=ee):=η (by rw [HE.o,ifN (by simp),ifN (by simp),ifN h2]);clear HE;go_wp2_with (go_at_call 89;refine JF.o.mono ?_;rintro e w3 ⟨rfl,rfl⟩)
  go_ret;exact⟨cj HF.o,aV.o⟩
theorem a2X(db:Nat)(p:Dp)(D:Dk)(k m a:Int)(w:aJ)(H:bW w db p D)(hk:aL k)(hm:aL m):
 aQ aM 14 #[π db,bQ #[ν k,ν m],ν a] w λe w'=>e=aT (bB #[ν (balA (aA D.x.ms) (aA D.x.ss+1) D.l k m a),ν (np (plcA (aA D.x.ms) (aA D.x.ss+1) k m a))])/\β w w':=by
 have aZ:Hid (β w (w.alloc (aK #[ν k,ν m] 51))):=η σ;have cY:Hid ((w.alloc (aK #[ν k,ν m] 51)).heap[w.heap.size]? =aC (aK #[ν k,ν m] 51 (0,0))):=η (cO w _);have hz0:w.heap.size<(w.alloc (aK #[ν k,ν m] 51)).heap.size:=by simp
 have LR:=η (λW (hW:β w W)=>(H.below hW).cells.c8);have LW:=η (λW (hW:β w W)=>YV p.vb p.vp (aA D.x.ms) (aA D.x.ss+1) (aA D.x.ms) D.l D.h k m a W (H.below hW).vt hk hm);generalize balA (aA D.x.ms) (aA D.x.ss+1) D.l k m a=bv at*;generalize np (plcA (aA D.x.ms) (aA D.x.ss+1) k m a)=be at*;go_enter func14,ntmps14
 go_upto_region 3 with (fail)
 generalize w.alloc (aK #[ν k,ν m] 51)=w1 at*;obtain⟨bx,bU⟩:∃bx,bx=w.heap.size:=⟨_,rfl⟩;rw [<-bU] at cY hz0 ⊢;clear bU;have bO:Hid (∀W,β w1 W->W.cell? ⟨db,8,aB⟩=aC (π p.vb)/\W.cell? ⟨bx,0,aB⟩=aC (ν k)/\W.cell? ⟨bx,1,aB⟩=aC (ν m)):=η (by intro W hW;have hd:=(hW.block bx hz0).trans cY.o;exact⟨LR.o W (aZ.o.trans (hW.mono aZ.o.size)),ρ hd,ρ hd⟩);have eI:Hid (∀W,β w1 W->β w W):=η (λW hW=>aZ.o.trans (hW.mono aZ.o.size));have bP:β w1 w1.drew:=(aX _ _).drew;go_region_held3 (λW=>W.cell? ⟨db,8,aB⟩=aC (π p.vb)/\W.cell? ⟨bx,0,aB⟩=aC (ν k)/\W.cell? ⟨bx,1,aB⟩=aC (ν m)) (first|(with_reducible exact bO.o _ bP)|(with_reducible exact bO.o _ hb2)|(with_reducible exact bO.o _ hb3)) ((go_at_call 41;refine(LW.o _ (eI.o _ bP)).mono ?_;rintro e w2 ⟨rfl,vU⟩;have hb2:β w1 w2:=bP.trans (vU.mono bP.size)))
 have aV:=η (eI.o _ hb2);clear hb2 vU bP bO LR LW eI aZ cY;go_wp2_with fail
 go_ret2;exact⟨rfl,aV.o⟩
theorem aEo(db:Nat)(p:Dp)(D:Dk)(x:Nat)(w:aJ)(H:bW w db p D)(r8:∀y∈D.l,aL y)(hx:x<aA D.x.ss+1):
 aQ aM 21 #[π db,ν (x:Int)] w λe w'=>e=aT (bB #[ν (fU (sumI (oQ (aA D.x.ms) D.l x))),ν (dC (sumI (oQ (aA D.x.ms) D.l x)))])/\β w w':=by
 have HT:=η (aLi p.vb p.vp (aA D.x.ms) (aA D.x.ss+1) (aA D.x.ms) D.l D.h x w H.vt r8 hx);have c8:=H.cells.c8;generalize fU (sumI (oQ (aA D.x.ms) D.l x))=v1 at*;generalize dC (sumI (oQ (aA D.x.ms) D.l x))=v2 at*;go_enter func21,ntmps21
 go_wp2_with (go_at_call 44;refine kW HT.o λw1 aR=> ?_)
 go_ret2;exact⟨rfl,aR⟩
def CH(D:Dk)(m:Int):Int:=if plcA (aA D.x.ms) (aA D.x.ss+1) 8 m 0=aB then 0 else fU (balA (aA D.x.ms) (aA D.x.ss+1) D.l 8 m 0-iP D.h 8 m 0)
theorem aEp(db:Nat)(p:Dp)(D:Dk)(m:Int)(w:aJ)(H:bW w db p D)(hm:aL m)(r8:∀y∈D.l,aL y)(hl:aA D.h<=100000):
 aQ aM 56 #[π db,ν m] w λe w'=>e=aT (ν (CH D m))/\β w w':=by
 have HU:=η (λW (hW:β w W)=>a8O p.vb p.vp (aA D.x.ms) (aA D.x.ss+1) (aA D.x.ms) D.l D.h 8 m 0 W (H.below hW).vt (by decide) hm r8 hl);have Az:=η (λW=>zg m W);have hE:CH D m=if plcA (aA D.x.ms) (aA D.x.ss+1) 8 m 0=aB then 0 else fU (balA (aA D.x.ms) (aA D.x.ss+1) D.l 8 m 0-iP D.h 8 m 0):=rfl
 rw [hE];generalize (if plcA (aA D.x.ms) (aA D.x.ss+1) 8 m 0=aB then 0 else fU (balA (aA D.x.ms) (aA D.x.ss+1) D.l 8 m 0-iP D.h 8 m 0))=uv at*;generalize (if plcA (aA D.x.ms) (aA D.x.ss+1) 8 m 0=aB then 8 else dC (balA (aA D.x.ms) (aA D.x.ss+1) D.l 8 m 0-iP D.h 8 m 0))=ue at*;have xP:=H.lt;have c8:=H.cells.c8;go_enter func56,ntmps56
 go_upto_region 3 with (fail)
 have yX:=λ(n:sR w.heap.size w) (b o:Nat) (hb:b<w.heap.size)=>n.cells b o hb
 refine SX w.heap.size (by kernel_rfl) (by kernel_rfl) ?_;repeat (go_big_quiet_step (first|(go_at_call 47;(with_reducible exact Calls.M4 (aa _) (Az.o _)))|(go_at_call 111;(with_reducible exact Calls.M4 (aa _) (HU.o _ (sR.h _))))))
 refine wpQuiet_nil ?_;intro _ hw';obtain⟨nq,hw''⟩:=hw';subst hw'';have HN:=η nq.h;generalize nq.wd=w5 at*;go_wp2
 go_ret;exact⟨rfl,HN.o⟩
theorem aEi(db:Nat)(p:Dp)(D:Dk)(w:aJ)(H:bW w db p D)(hl:aA D.ob<=1000000):
 aQ aM 18 #[π db] w (yy w D.ob):=by
 have HT:=η (KW D.ob p.sv p.sb 0 w H.sh hl);have c9:=H.cells.c9;go_enter func18,ntmps18
 go_wp2_with (go_at_call 43;refine HT.o.mono ?_;rintro e w1 ⟨v1,rfl,eK,hb1⟩;have cF:=η eK;have aR:=η hb1)
 go_ret;exact⟨v1,rfl,cF,aR⟩
end Go.Proofs.YtdokipdchlcmeaaGreat
