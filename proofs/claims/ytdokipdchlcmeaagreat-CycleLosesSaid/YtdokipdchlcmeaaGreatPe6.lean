/-
  Several texts in one, for one claim (printed by pack.py).
-/
import Derived.Test.YtdokipdchlcmeaaGreatPe5
set_option linter.all false
set_option maxRecDepth 100000
set_option maxHeartbeats 12800000
open Array renaming getElem?_eq_some_iff→fY
open Bool renaming true→aO,false→aP,eq_iff_iff→FN
open Go renaming World→aJ,Value→aN,Calls→aQ,Addr→ai,cell_of_row→bG,maxLen→bK,TypeId→bX,heap_alloc_new→cT,info_parts→dK,Ending→di,rounds_succ→eA,wpList_append_own→iw,wp_loop_rounds→uY,grownCap→xB,step_append_lies→AL
open Go.Builtin renaming zeroCells→Dl
open Go.Ending renaming returned→aU
open Go.Instr renaming mapEntry→Fp,entryStore→OS
open Go.IntKind renaming i64→aF
open Go.IntWalk renaming i64_in→sM
open Go.Lib renaming compact→sP
open Go.Obj renaming cells→aK
open Go.Proofs renaming intOf→ag
open Go.Proofs.Tryz renaming prog→aM,underlying53→mD,underlying39→sU,underlying46→yD,underlying56→GJ,func192→Ot,ntmps192→Ow,underlying132→Oy,func102→a0C,ntmps102→a0V,underlying159→a0r,func177→aAE,func180→aAF,func191→aAI,func223→aAM,func224→aAN,func51→aAY,func52→aAZ,func89→aAi,ntmps177→aB1,ntmps180→aB2,ntmps191→aB5,ntmps223→aB9,ntmps224→aBA,ntmps51→aBK,ntmps52→aBL,ntmps89→aBV,results224→aBZ,underlying163→aBc
open Go.RowKit renaming Below→aa
open Go.RowKit.Below renaming refl→aX,heap_setCell→nB
open Go.Value renaming int→aG,slice→aH,tuple→bB,pointer→bH,bool→bM,agg→bO,ownBlock→dx
open Go.World renaming ownsRow_nil→gC,cell?_of_block→gg,frozen?→iU,ownsRow→jn,size_alloc→Cr
open List renaming length→aA,getElem_mem→cK,length_append→cL,take_length→cU,mem_map→dV,map_append→dY,mem_cons_of_mem→df,mem_cons→fC,take_succ_eq_append_getElem→fF,mem_append→gJ,replicate→gN,length_map→iK,mem_filter→j6,any_eq_true→kK,pairwise_cons→kX,eq_nil_of_length_eq_zero→nG,take_zero→nJ,mem_cons_self→oZ,length_filter_le→qN,mem_iff_getElem→sR,length_cons→uB,length_singleton→uC,mem_append_left→uD,length_take→ur,flatMap_cons→wP,getElem_map→wQ,map_cons→yB,any_eq_false→zE,pairwise_map→B8,sum_append→Cc,length_nil→EC,sum_cons→EF,getElem_append_right→OZ,contains_iff_mem→Tj,getElem_append_left→Tp
open List.Pairwise renaming imp_of_mem→OW
open Nat renaming le_refl→aZ,zero_le→bL,le_trans→cC,lt_of_lt_of_le→cR,lt_or_ge→rF,lt_trans→LS,lt_of_succ_lt→Zs
open Option renaming none→aB,some→aC
open Option.some renaming inj→od
open Or renaming inl→aS,inr→aT
namespace Go.Proofs.YtdokipdchlcmeaaGreat
open Go.Proofs.Tryz Go.RowKit
section
open Go.Maps Go.MapKept Go.ChangeMaps
def IB(q:Int×Int):List aN:= [aG aF q.1,aG aF q.2]
def AH(l:List (Int×Int)):List aN:=l.flatMap IB
theorem a6W(l:List (Int×Int))(q:Int×Int):AH (l++ [q])=AH l++IB q:=by simp [AH]
theorem aJl:(aM.info? 162).map (λi=>(i.zero,i.size,i.bytes))=aC (aC (bO #[aG aF 0,aG aF 0]),2,16):=by kernel_rfl
theorem a6l:(aM.info? 53).map (λi=>(i.zero,i.size,i.bytes))=aC (aC (aH aB 0 0),1,24):=by kernel_rfl
theorem a6Z(q:Int×Int):∀u∈IB q,u.oneCell'=aO:=by intro u hu;simp [IB] at hu;rcases hu with rfl|rfl<;>rfl
theorem a6X {w:aJ} {B:Nat} {A:Option ai} {l:List (Int×Int)}(h:aW w B A (AH l)) {k:Nat}(hk:k<aA l):
 ∃b o,A=aC ⟨b,o,aB⟩/\b<B/\w.cell? ⟨b,o+k*2,aB⟩=aC (ν l[k].1)/\w.cell? ⟨b,o+k*2+1,aB⟩=aC (ν l[k].2):=by
 obtain⟨b,o,e,hb,hc⟩:=h.run (i:=k*2) (y:=ν l[k].1) (t:= [ν l[k].2]) (λj u hu=>tC IB 2 (λ_=>rfl) l k hk j u hu);exact⟨b,o,e,hb,hc 0 _ rfl,hc 1 _ rfl⟩
def k2(g:Nat):aN:=aH (aC ⟨g,0,aB⟩) 2 2
structure zH(B:Nat)(sv kv:aN)(gs:List Nat)(done:List (Int×Int))(W:aJ):Prop where
 s:W.ownsRow B 162 2 sv (aA done) (AH done)
 k:W.ownsRow B 53 1 kv (aA done) (gs.map k2)
 len:aA gs=aA done
 g:∀j (hj:j<aA gs) (hd:j<aA done),W.heap[gs[j]]? =aC (aK #[ν done[j].1,ν done[j].2] 2 (0,0))
theorem zH.below {B:Nat} {sv kv:aN} {gs:List Nat} {done:List (Int×Int)} {W W':aJ}(h:zH B sv kv gs done W)(hb:aa W.heap.size W W'):zH B sv kv gs done W':=
 ⟨iI h.s hb,iI h.k hb,h.len,λj hj hd=>(hb.block _ (fY.1 (h.g j hj hd)).1).trans (h.g j hj hd)⟩
theorem zH.kept {B:Nat} {sv kv:aN} {gs:List Nat} {done:List (Int×Int)} {W W':aJ} {r:Nat}(h:zH B sv kv gs done W)(hg:W.grownBy W' (aC r))(hr:r<B)(hgr:∀g∈gs,g≠r):zH B sv kv gs done W':=by
 have hne:∀ {e s n} {v:aN} {xs:List aN},W.ownsRow B e s v n xs->v.ownBlock=aB\/v.ownBlock≠aC r:=λho=>aT λe=>by have:=ei ho r e;omega
 exact⟨h.s.kept hg (hne h.s),h.k.kept hg (hne h.k),h.len,λj hj hd=>(hg.block _ (fY.1 (h.g j hj hd)).1 (λe=>hgr _ (cK hj) (od e))).trans (h.g j hj hd)⟩
theorem a4U(gs:List Nat):∀u∈gs.map k2,u.oneCell'=aO:=by intro u hu;obtain⟨g,_,rfl⟩:=dV.1 hu;rfl
theorem zH.key {B:Nat} {sv:aN} {A:Option ai} {c:Nat} {gs:List Nat} {done:List (Int×Int)} {W:aJ}(h:zH B sv (aH A (aA done) c) gs done W):CZ W W.heap.size A done:=λj hj=>by
 obtain⟨b,o,e,hb,hc⟩:=(aW.cA h.k).at (k:=j) (by rw [iK,h.len];exact hj);have hg:=h.g j (by rw [h.len];exact hj) hj;have hjg:j<aA gs:=by rw [h.len];exact hj
 rw [wQ] at hc;exact⟨b,o,gs[j],2,e,hb,hc,(fY.1 hg).1,ρ hg,ρ hg⟩
structure Te(m:List ((Int×Int)×aN))(l:List (Int×Int)):Prop where
 vk:l.Pairwise (λa b=>pE a<pE b)
 mem:∀q,q∈l↔∃v,(q,v)∈m
def YW(m:List ((Int×Int)×aN))(w:aJ)(e:di)(w':aJ):Prop:=
 ∃v l,e=aU v/\Te m l/\aA l<=aA m/\w'.ownsRow w.heap.size 162 2 v (aA l) (AH l)/\β w w'
theorem a4c {p q:Int×Int}(hp:aL p.2)(hq:aL q.2)(h:pE p=pE q):p=q:=by
 obtain⟨a,b⟩:=p;obtain⟨c,d⟩:=q;unfold aL at hp hq;simp only [pE] at h hp hq;have h1:a=c:=by omega
 have h2:b=d:=by omega
 rw [h1,h2]
theorem aGo {m:List ((Int×Int)×aN)} {done:List (Int×Int)} {is:List Nat}(hI:∀p∈done,aL p.2)(hn:done.Nodup)(ho:JD done is)(WU:∀q∈done,∃v,(q,v)∈m)(hall:∀p∈m,p.1∈done):Te m (is.map λi=>done.getD i (0,0)):=by
 have hgd:∀i,i<aA done->done.getD i (0,0)∈done:=λi hi=>by
  have:done.getD i (0,0)=done[i]:=by simp [List.getD,hi]
  rw [this];exact cK hi
 refine⟨?_,λq=>⟨λhq=> ?_,λ⟨v,hv⟩=> ?_⟩⟩
 ·rw [B8];refine OW ?_ ho.vk;intro a b ha hb h;have la:=ho.lt a ha;have lb:=ho.lt b hb;rcases h with h|⟨h,h2⟩
  ·exact h
  exfalso;unfold N1 at h;simp only [Int.toNat_natCast] at h;have e:=a4c (hI _ (hgd a la)) (hI _ (hgd b lb)) h;have e1:done.getD a (0,0)=done[a]:=by simp [List.getD,la]
  have e2:done.getD b (0,0)=done[b]:=by simp [List.getD,lb]
  rw [e1,e2] at e;have:=(List.getElem_inj (xs:=done) (h₀:=la) (h₁:=lb) hn).1 e;omega
 ·obtain⟨i,hi,rfl⟩:=dV.1 hq;exact WU _ (hgd i (ho.lt i hi))
 obtain⟨j,hj,e⟩:=sR.1 (hall _ hv);refine dV.2 ⟨j,ho.all j hj, ?_⟩;simp only at e;rw [<-e];simp [List.getD,hj]
theorem aHr(b:Nat)(m:List ((Int×Int)×aN))(w:aJ)(hm:eU aM 162 xA w b m)(hst:∃es clock,w.heap[b]? =aC (.map es clock)/\Stamped es clock)(hd:∀p∈m,IY p.1)(hl:aA m<=100000):
 aQ aM 103 #[.map (aC b)] w (YW m w):=by
 have HM:=η hm;have HST:=η hst;have HD:=η hd;obtain⟨i1,pg,Qf,Qg,Qh⟩:=dK aJl;obtain⟨i2,pj,We,Wf,Wh⟩:=dK a6l;clear hm hst hd;go_enter func103,ntmps103
 go_wp2_with (at_range;refine aLI _ rfl _ _ rfl a0r rfl HM.o HST.o ?_;intro w1 hit hb1 hz1)
 have Ai:=η hit;have aR:=η hb1;have Ek:w.heap.size<w1.heap.size:=by omega
 have lJ:Hid (zH w1.heap.size (aH aB 0 0) (aH aB 0 0) [] [] w1):=η ⟨gC _ _ _ _,gC _ _ _ _,rfl,λj hj=>by simp at hj⟩;have Yr:Hid (∀g∈([]:List Nat),w1.heap.size<=g):=η (by simp);clear hit hb1 hz1;go_wp2_with fail
 go_frame
 go_loopw [3,4,5] (λsv kv _ wr=>∃(done:List (Int×Int)) (gs:List Nat),Hid (qM aM 162 xA wr b w.heap.size m done)/\Hid (zH w1.heap.size sv kv gs done wr)/\Hid (∀g∈gs,w1.heap.size<=g)/\Hid (β w wr/\w1.heap.size<=wr.heap.size)) (λ_ _ _ wr=>aA m-seenAt wr w.heap.size)
 case atStart=>exact⟨[],[],Ai,lJ,Yr,aR.o,aZ _⟩
 case round=>
  clear Ai lJ Yr;obtain⟨done,gs,Ai,lJ,Nu,HB⟩:=hrel;obtain⟨As,cs,Mm⟩:=bJ lJ.o.s;obtain⟨Ak,ck,Vv⟩:=bJ lJ.o.k;subst Mm Vv;have Gx:=Ai.o.count;have yN:aA done<=100000:=by omega
  go_wp2_with (at_next;refine aLH _ a2c rfl _ rfl rfl Ai.o ?_ ?_)
  ·intro a3U;have Dm:Hid (∀p∈m,p.1∈done):=η (λp hp=>a3U p.1.1 p.1.2 p.2 hp);clear a3U;have ZG:=η Ai.o.once;have fL:=η Ai.o.sub;have Si:Hid (∀p∈done,aL p.2):=η (λp hp=>by obtain⟨v,hv⟩:=fL.o p hp;exact(HD.o _ hv).2);have wK:=η (a5b done Ak ck wr (by omega) Si.o lJ.o.key);clear Ai Nu;go_wp2_with (go_at_call 162;refine wK.o.mono ?_;unfold SM;rintro e w2 ⟨bw,is,rfl,fN,hb2,hc2,hz2,Gw⟩;have HIS:=η fN;have kE:=η hc2;have aV:Hid (β wr w2):=η Gw;have CO:=η (lJ.o.below Gw);have Q2:bw<w2.heap.size:=hz2;clear fN hb2 hc2 hz2 Gw wK)
   have He:aA is=aA done:=HIS.o.len;have CV:=η (aGo Si.o ZG.o HIS.o fL.o Dm.o);obtain⟨ls,zo⟩:∃ls:List (Int×Int),ls=is.map λi=>done.getD i (0,0):=⟨_,rfl⟩
   rw [<-zo] at CV;have FZ:=η zo;have lx:Hid (aA ls=aA done):=η (by rw [zo,iK];exact He);have td:=η He;have tW:Hid (β w w2):=η (HB.o.1.trans (aV.o.mono HB.o.1.size));clear zo He fL Si ZG lJ HB aV Dm;have L3:Hid (w2.ownsRow w2.heap.size 162 2 (aH aB 0 0) 0 (AH (ls.take 0))):=η (by rw [nJ];exact gC _ _ _ _);have sF:Hid (β w2 w2):=η (aX _ _);go_loopw [6,8,30] (λv _ i wr=>∃k:Nat,k<=aA done/\i=ν (k:Int)/\Hid (β w2 wr)/\Hid (wr.ownsRow w2.heap.size 162 2 v k (AH (ls.take k)))) (λ_ _ i _=>aA done-(ag i).toNat)
   case atStart=>exact⟨0,bL _,rfl,sF,L3⟩
   case round=>
    clear sF L3;obtain⟨k,hk,rfl,HB,HO⟩:=hrel;obtain⟨Ax,cx,oz⟩:=bJ HO.o;subst oz;by_cases hlt:k<aA done
    ·have zm:k<aA is:=by rw [td.o];exact hlt
     have c0:=(HB.o.cell (p:=⟨bw,k,aB⟩) Q2).trans (kE.o k zm);have nR:=HIS.o.lt _ (cK zm);obtain⟨be,oe,hA,lO,e0,e1⟩:=a6X (((aW.cA CO.o.s).below HB.o).mono HB.o.size) nR;have lM:Hid (ls.take (k+1)=ls.take k++ [done[is[k]]]):=η (by rw [fF (by rw [lx.o];exact hlt)];congr 2;simp [FZ.o,List.getD,nR]);have bj:(0:Int)<=((is[k]:Nat):Int):=by omega
     have hib:((is[k]:Nat):Int)<(aA done:Int):=by omega
     have eV:(0:Int)<=(k:Int):=by omega
     have hkb:(k:Int)<(aA done:Int):=by omega
     subst hA;generalize done[is[k]]=q at*;generalize is[k]=ix at*;obtain⟨q1,q2⟩:=q;simp only at e0 e1;have af:Hid (β w2 (wr.alloc (aK #[ν q1,ν q2] 162))):=η (HB.o.alloc HB.o.size _);have cB:=η (HO.o.alloc (aK #[ν q1,ν q2] 162));have hzz:w2.heap.size<=wr.heap.size:=HB.o.size;go_wp2_with (at_builtin;refine wpList_append_lies _ rfl _ _ 163 rfl w2.heap.size 162 i1 _ 2 16 aBc pg Qf Qg Qh rfl (by omega) _ _ _ rfl cB.o ⟨wr.heap.size,0,aB⟩ 1 1 (IB (q1,q2)) rfl rfl (dM _ _ #[_,_] rfl) (a6Z _) (by omega) (by simp only [bK];omega) (by omega) (by simp;omega) (wr.heap.size+1) (by simp) ?_)
     intro g4 Lp w4 pB iH _ _;have ar:Hid (β w2 w4):=η (af.o.grown iH (by simp;omega) (λj hj=>ei cB.o j hj));have dU:Hid (w4.ownsRow w2.heap.size 162 2 (aH (aC ⟨g4,0,aB⟩) (k+1) Lp) (k+1) (AH (ls.take (k+1)))):=η (by rw [lM.o,a6W];exact pB);clear pB iH af cB HO HB;go_wp2_with fail
     go_roundw
     case rel=>exact⟨k+1,by omega,by go_num,ar,dU⟩
     case measure=>simp [ag];omega
    obtain rfl:k=aA done:=by omega
    have fK:Hid (wr.ownsRow w.heap.size 162 2 (aH Ax (aA done) cx) (aA ls) (AH ls)):=η (by have h2:=HO.o;rw [List.take_of_length_le (by rw [lx.o];exact aZ _)] at h2;rw [lx.o];exact jT h2 tW.o.size);go_wp2_with fail
    go_ret;exact⟨_,ls,rfl,CV.o,by rw [lx.o];exact Gx,fK.o,tW.o.trans (HB.o.mono tW.o.size)⟩
  intro q1 q2 v w2 hq vQ hit hgr hsz hen;have e1:xA (q1,q2)=bO #[ν q1,ν q2]:=rfl;rw [e1] at hen ⊢;have WZ:w1.heap.size<=w2.heap.size:=by have:=HB.o.2;omega
  have CO:=η (lJ.o.kept hgr Ek (λg hg=>by have:=Nu.o g hg;omega));have Z0:=η hit;have aV:Hid (β w w2):=η (HB.o.1.grown hgr HB.o.1.size (λk hk=>by cases hk;exact aZ _));have aGN:=Ai.o.seen;clear Ai lJ HB hit hgr hsz hq vQ;have lC:=η (((aX w2.heap.size w2).alloc (aZ _) (aK #[ν q1,ν q2] 162)).alloc (by simp) (aK #[ν q1,ν q2] 162));have oQ:=η (CO.o.below lC.o);have dC:Hid (((w2.alloc (aK #[ν q1,ν q2] 162)).alloc (aK #[ν q1,ν q2] 162)).heap[w2.heap.size]? =aC (aK #[ν q1,ν q2] 162 (0,0))):=η ((fG _ _ (by simp)).trans (cT w2 _));have wN:Hid (∀k,(aH As (aA done) cs).ownBlock=aC k->w1.heap.size<=k/\k<w2.heap.size):=η (λk hk=>CO.o.s.lt k hk);have Fj:Hid (∀k,(aH Ak (aA done) ck).ownBlock=aC k->w1.heap.size<=k/\k<w2.heap.size):=η (λk hk=>CO.o.k.lt k hk);have HLEN:=η CO.o.len;go_wp2_with (at_builtin;refine wpList_append_lies _ rfl _ _ 163 rfl w1.heap.size 162 i1 _ 2 16 aBc pg Qf Qg Qh rfl (by omega) _ _ _ rfl oQ.o.s ⟨w2.heap.size+1,0,aB⟩ 1 1 (IB (q1,q2)) rfl rfl (dM _ _ #[_,_] (by simp)) (a6Z _) (by omega) (by simp only [bK];omega) (by omega) (by simp;omega) (w2.heap.size+1+1) (by simp) ?_)
  intro g3 sW w3 mJ gK Eb _;have hz3:w2.heap.size+1<w3.heap.size:=by have:=gK.size;simp at this;omega
  have af:Hid (aa w1.heap.size w2 w3):=η ((lC.o.mono WZ).grown gK (by simp;omega) (λj hj=>(wN.o j hj).1));have hx3:=(gK.block w2.heap.size (by simp;omega) (λe=>by have:=(wN.o _ e.symm).2;omega)).trans dC.o;have y0:w3.cell? ⟨w2.heap.size,0,aB⟩=aC (ν q1):=ρ hx3;have y1:w3.cell? ⟨w2.heap.size,1,aB⟩=aC (ν q2):=ρ hx3;have oO:Hid (w3.ownsRow w1.heap.size 53 1 (aH Ak (aA done) ck) (aA done) (gs.map k2)):=η (oQ.o.k.kept gK (Bn oQ.o.k oQ.o.s (by decide)));have Kl:Hid (∀j (hj:j<aA gs) (hd:j<aA done),w3.heap[gs[j]]? =aC (aK #[ν done[j].1,ν done[j].2] 2 (0,0))):=η (λj hj hd=>(gK.block _ (fY.1 (oQ.o.g j hj hd)).1 (λe=>gM oQ.o.s (oQ.o.g j hj hd) (by decide) e.symm)).trans (oQ.o.g j hj hd));have sJ:Hid (w3.ownsRow w1.heap.size 162 2 (aH (aC ⟨g3,0,aB⟩) (aA done+1) sW) (aA done+1) (AH (done++ [(q1,q2)]))):=η (by rw [a6W];exact mJ);clear mJ gK Eb hx3 oQ CO lC dC;have qm:=η (((aX w3.heap.size w3).alloc (aZ _) (aK #[ν q1,ν q2] 2)).alloc (by simp) (aK #[k2 w3.heap.size] 53));have xl:=η (iI oO.o qm.o);have kH:=η (iI sJ.o qm.o);have gZ:Hid (∀j u,([k2 w3.heap.size]:List aN)[j]? =aC u->((w3.alloc (aK #[ν q1,ν q2] 2)).alloc (aK #[k2 w3.heap.size] 53)).cell? ((⟨w3.heap.size+1,0,aB⟩:ai).add j)=aC u):=η (dM _ _ #[_] (by simp));have Dt:Hid (((w3.alloc (aK #[ν q1,ν q2] 2)).alloc (aK #[k2 w3.heap.size] 53)).heap[w3.heap.size]? =aC (aK #[ν q1,ν q2] 2 (0,0))):=η ((fG _ _ (by simp)).trans (cT w3 _));go_wp2_with (at_builtin;refine wpList_append_lies _ rfl _ _ 235 rfl w1.heap.size 53 i2 _ 1 24 underlying235 pj We Wf Wh rfl (by omega) _ _ _ rfl xl.o ⟨w3.heap.size+1,0,aB⟩ 1 1 [k2 w3.heap.size] rfl rfl gZ.o (a4U [w3.heap.size]) (by omega) (by simp only [bK];omega) (by omega) (by simp;omega) (w3.heap.size+1+1) (by simp) ?_)
  intro g5 Lq w5 Eo tE VP _;have Mv:w3.heap.size+1<w5.heap.size:=by have:=tE.size;simp at this;omega
  have cz:Hid (aa w1.heap.size w2 w5):=η ((af.o.trans (qm.o.mono (by omega))).grown tE (by simp;omega) (λj hj=>(Fj.o j hj).1));have mn:w5.heap[w3.heap.size]? =aC (aK #[ν q1,ν q2] 2 (0,0)):=(tE.block _ (by simp;omega) (λe=>by have:=(Fj.o _ e.symm).2;omega)).trans Dt.o;have TA:Hid (zH w1.heap.size (aH (aC ⟨g3,0,aB⟩) (aA done+1) sW) (aH (aC ⟨g5,0,aB⟩) (aA done+1) Lq) (gs++ [w3.heap.size]) (done++ [(q1,q2)]) w5):=η (by
   have Hg:=HLEN.o;refine⟨?_, ?_,by simp [Hg],λj hj hd=> ?_⟩
   ·rw [cL];exact kH.o.kept tE (Bn kH.o xl.o (by decide))
   ·rw [cL,dY];exact Eo
   rcases rF j (aA gs) with h|h
   ·rw [Tp h,Tp (by omega)];have h6:=Kl.o j h (by omega);have W4:=(fY.1 h6).1;have h7:=(qm.o.block _ W4).trans h6;exact(tE.block _ (by simp;omega) (λe=>gM xl.o h7 (by decide) e.symm)).trans h7
   have e:j=aA gs:=by simp at hj;omega
   subst e;rw [OZ (aZ _),OZ (by omega)];simp [Hg];exact mn)
  have a8c:Hid (∀g∈gs++ [w3.heap.size],w1.heap.size<=g):=η (λg hg=>by
   rcases gJ.1 hg with h|h
   ·exact Nu.o g h
   simp at h;omega)
  have Sp:Hid (qM aM 162 xA w5 b w.heap.size m (done++ [(q1,q2)])):=η (Z0.o.aI4 (cz.o.block b (by have:=HM.o.lt;omega)) (cz.o.block _ Ek));have wA:Hid (β w w5/\w1.heap.size<=w5.heap.size):=η ⟨aV.o.trans (cz.o.mono (by omega)),by omega⟩;have a3s:=Sp.o.seen;have aFl:=Sp.o.count;rw [cL,uC] at a3s aFl;clear Eo tE VP mn cz af aV Z0 sJ kH oO xl gZ Dt qm Kl Nu wN Fj;go_wp2_with fail
  go_roundw
  case rel=>exact⟨_,_,Sp,TA,a8c,wA⟩
  case measure=>rw [a3s,aGN];omega
end
section
open Go.Maps Go.MapKept Go.ChangeMaps
def mN(x:ak)(y:Lg):Int:=if jS x y.m≠0 then jS x y.m else if y.a=0 then 0 else jC x y.a
theorem aHN(x:ak)(i:Int):jS x i=0\/jS x i=9:=by unfold jS;split<;>simp
theorem aHd(x:ak)(y:Lg)(w:aJ)(h:lS w x)(hm:aL y.m)(ha:aL y.a):
 aQ aM 102 #[x.val,y.val] w λe w'=>e=aU (ν (mN x y))/\β w w':=by
 obtain⟨ym,ya,yn⟩:=y;simp only at hm ha;have aV:Hid (β w ((w.alloc (aK #[aH x.Am (aA x.ms) x.cm,aH x.As (aA x.ss) x.cs,aH x.Ac (aA x.cy) x.cc,ν x.line,ν x.bu,ν x.lead,ν x.tr,ν x.bY] 26)).alloc (aK #[ν ym,ν ya,ν yn] 76))):=η (σ.alloc (by simp) _);have dC:Hid (((w.alloc (aK #[aH x.Am (aA x.ms) x.cm,aH x.As (aA x.ss) x.cs,aH x.Ac (aA x.cy) x.cc,ν x.line,ν x.bu,ν x.lead,ν x.tr,ν x.bY] 26)).alloc (aK #[ν ym,ν ya,ν yn] 76)).heap[w.heap.size]? =aC (aK x.vals 26 (0,0))):=η ((fG _ _ (by simp)).trans (cT w _));have wO:Hid (((w.alloc (aK #[aH x.Am (aA x.ms) x.cm,aH x.As (aA x.ss) x.cs,aH x.Ac (aA x.cy) x.cc,ν x.line,ν x.bu,ν x.lead,ν x.tr,ν x.bY] 26)).alloc (aK #[ν ym,ν ya,ν yn] 76)).heap[w.heap.size+1]? =aC (aK #[ν ym,ν ya,ν yn] 76 (0,0))):=η (by have h1:=cT (w.alloc (aK #[aH x.Am (aA x.ms) x.cm,aH x.As (aA x.ss) x.cs,aH x.Ac (aA x.cy) x.cc,ν x.line,ν x.bu,ν x.lead,ν x.tr,ν x.bY] 26)) (aK #[ν ym,ν ya,ν yn] 76);rw [Cr] at h1;exact h1);have hz2:w.heap.size+1<((w.alloc (aK #[aH x.Am (aA x.ms) x.cm,aH x.As (aA x.ss) x.cs,aH x.Ac (aA x.cy) x.cc,ν x.line,ν x.bu,ν x.lead,ν x.tr,ν x.bY] 26)).alloc (aK #[ν ym,ν ya,ν yn] 76)).heap.size:=by simp
 have yv:=η (λW (hW:β w W)=>PO x ym W (h.below hW) hm);have oX:=η (λW (hW:β w W)=>NS x ya W (h.below hW) ha);have Iz:Hid (mN x ⟨ym,ya,yn⟩=if jS x ym≠0 then jS x ym else if ya=0 then 0 else jC x ya):=η rfl;unfold ak.val at yv oX;unfold ak.vals at dC;unfold ak.val Lg.val;clear h hm ha;simp only;rcases aHN x ym with h0|h0
 ·rw [h0] at yv;by_cases ha0:ya=0
  ·subst ha0;have HR:Hid (mN x ⟨ym,0,yn⟩=0):=η (by rw [Iz.o,ifN (by rw [h0];simp),ifP rfl]);clear h0 oX Iz;go_enter a0C,a0V
   go_upto_region 1 with fail
   generalize ((w.alloc (aK #[aH x.Am (aA x.ms) x.cm,aH x.As (aA x.ss) x.cs,aH x.Ac (aA x.cy) x.cc,ν x.line,ν x.bu,ν x.lead,ν x.tr,ν x.bY] 26)).alloc (aK #[ν ym,ν 0,ν yn] 76))=w2 at*;have j5:Hid (∀W,β w2 W->W.heap[w.heap.size]? =aC (aK #[aH x.Am (aA x.ms) x.cm,aH x.As (aA x.ss) x.cs,aH x.Ac (aA x.cy) x.cc,ν x.line,ν x.bu,ν x.lead,ν x.tr,ν x.bY] 26 (0,0))/\W.heap[w.heap.size+1]? =aC (aK #[ν ym,ν 0,ν yn] 76 (0,0))):=η (λW hW=>⟨(hW.block _ (by omega)).trans dC.o,(hW.block _ hz2).trans wO.o⟩);obtain⟨bx,bQ⟩:∃bx,bx=w.heap.size:=⟨_,rfl⟩;rw [<-bQ] at j5 ⊢;clear bQ;obtain⟨hx2,nW⟩:=j5.o _ (aX _ _);have c0:=bG _ bx 0 _ _ (0,0) hx2;have c1:=bG _ bx 1 _ _ (0,0) hx2;have c2:=bG _ bx 2 _ _ (0,0) hx2;have c3:=bG _ bx 3 _ _ (0,0) hx2;have c4:=bG _ bx 4 _ _ (0,0) hx2;have c5:=bG _ bx 5 _ _ (0,0) hx2;have c6:=bG _ bx 6 _ _ (0,0) hx2;have c7:=bG _ bx 7 _ _ (0,0) hx2;have y0:=bG _ (bx+1) 0 _ _ (0,0) nW;have y1:=bG _ (bx+1) 1 _ _ (0,0) nW;clear hx2 nW;go_wp2_with (go_at_call 147;refine(yv.o _ aV.o).mono ?_;rintro e w3 ⟨rfl,hb3⟩;have af:Hid (β w w3):=τ aV hb3;have ar:Hid (β w (w3.alloc (aK #[ν (uS x ym).a,ν (uS x ym).b] 67))):=η (af.o.alloc af.o.size _);obtain⟨hx3,vV⟩:=j5.o _ hb3;clear c0 c1 c2 c3 c4 c5 c6 c7 y0 y1;have c0:=bG _ bx 0 _ _ (0,0) hx3;have c1:=bG _ bx 1 _ _ (0,0) hx3;have c2:=bG _ bx 2 _ _ (0,0) hx3;have c3:=bG _ bx 3 _ _ (0,0) hx3;have c4:=bG _ bx 4 _ _ (0,0) hx3;have c5:=bG _ bx 5 _ _ (0,0) hx3;have c6:=bG _ bx 6 _ _ (0,0) hx3;have c7:=bG _ bx 7 _ _ (0,0) hx3;have y1:=bG _ (bx+1) 1 _ _ (0,0) vV;have iV:bx+1<w3.heap.size:=(fY.1 vV).1;have a3b:bx<w3.heap.size:=Zs iV;clear hx3 vV hb3)
   go_ret;exact⟨by rw [HR.o];rfl,ar.o⟩
  have HR:Hid (mN x ⟨ym,ya,yn⟩=jC x ya):=η (by rw [Iz.o,ifN (by rw [h0];simp),ifN ha0]);have aLv:(ya==0)=aP:=by simpa using ha0
  clear h0 ha0 Iz;go_enter a0C,a0V
  go_upto_region 1 with fail
  generalize ((w.alloc (aK #[aH x.Am (aA x.ms) x.cm,aH x.As (aA x.ss) x.cs,aH x.Ac (aA x.cy) x.cc,ν x.line,ν x.bu,ν x.lead,ν x.tr,ν x.bY] 26)).alloc (aK #[ν ym,ν ya,ν yn] 76))=w2 at*;have j5:Hid (∀W,β w2 W->W.heap[w.heap.size]? =aC (aK #[aH x.Am (aA x.ms) x.cm,aH x.As (aA x.ss) x.cs,aH x.Ac (aA x.cy) x.cc,ν x.line,ν x.bu,ν x.lead,ν x.tr,ν x.bY] 26 (0,0))/\W.heap[w.heap.size+1]? =aC (aK #[ν ym,ν ya,ν yn] 76 (0,0))):=η (λW hW=>⟨(hW.block _ (by omega)).trans dC.o,(hW.block _ hz2).trans wO.o⟩);obtain⟨bx,bQ⟩:∃bx,bx=w.heap.size:=⟨_,rfl⟩;rw [<-bQ] at j5 ⊢;clear bQ;obtain⟨hx2,nW⟩:=j5.o _ (aX _ _);have c0:=bG _ bx 0 _ _ (0,0) hx2;have c1:=bG _ bx 1 _ _ (0,0) hx2;have c2:=bG _ bx 2 _ _ (0,0) hx2;have c3:=bG _ bx 3 _ _ (0,0) hx2;have c4:=bG _ bx 4 _ _ (0,0) hx2;have c5:=bG _ bx 5 _ _ (0,0) hx2;have c6:=bG _ bx 6 _ _ (0,0) hx2;have c7:=bG _ bx 7 _ _ (0,0) hx2;have y0:=bG _ (bx+1) 0 _ _ (0,0) nW;have y1:=bG _ (bx+1) 1 _ _ (0,0) nW;clear hx2 nW;go_wp2_with (first|(go_at_call 147;refine(yv.o _ aV.o).mono ?_;rintro e w3 ⟨rfl,hb3⟩;have af:Hid (β w w3):=τ aV hb3;have ar:Hid (β w (w3.alloc (aK #[ν (uS x ym).a,ν (uS x ym).b] 67))):=η (af.o.alloc af.o.size _);obtain⟨hx3,vV⟩:=j5.o _ hb3;clear c0 c1 c2 c3 c4 c5 c6 c7 y0 y1;have c0:=bG _ bx 0 _ _ (0,0) hx3;have c1:=bG _ bx 1 _ _ (0,0) hx3;have c2:=bG _ bx 2 _ _ (0,0) hx3;have c3:=bG _ bx 3 _ _ (0,0) hx3;have c4:=bG _ bx 4 _ _ (0,0) hx3;have c5:=bG _ bx 5 _ _ (0,0) hx3;have c6:=bG _ bx 6 _ _ (0,0) hx3;have c7:=bG _ bx 7 _ _ (0,0) hx3;have y1:=bG _ (bx+1) 1 _ _ (0,0) vV;have iV:bx+1<w3.heap.size:=(fY.1 vV).1;have a3b:bx<w3.heap.size:=Zs iV;clear hx3 vV hb3)|(go_at_call 117;refine(oX.o _ ar.o).mono ?_;rintro e w5 ⟨rfl,dG⟩;have cz:Hid (β w w5):=τ ar dG;clear dG))
  go_ret;exact⟨by rw [HR.o];rfl,cz.o.alloc cz.o.size _⟩
 rw [h0] at yv;have HR:Hid (mN x ⟨ym,ya,yn⟩=9):=η (by rw [Iz.o,ifP (by rw [h0];simp),h0]);clear h0 oX Iz;go_enter a0C,a0V
 go_upto_region 1 with fail
 generalize ((w.alloc (aK #[aH x.Am (aA x.ms) x.cm,aH x.As (aA x.ss) x.cs,aH x.Ac (aA x.cy) x.cc,ν x.line,ν x.bu,ν x.lead,ν x.tr,ν x.bY] 26)).alloc (aK #[ν ym,ν ya,ν yn] 76))=w2 at*;have j5:Hid (∀W,β w2 W->W.heap[w.heap.size]? =aC (aK #[aH x.Am (aA x.ms) x.cm,aH x.As (aA x.ss) x.cs,aH x.Ac (aA x.cy) x.cc,ν x.line,ν x.bu,ν x.lead,ν x.tr,ν x.bY] 26 (0,0))/\W.heap[w.heap.size+1]? =aC (aK #[ν ym,ν ya,ν yn] 76 (0,0))):=η (λW hW=>⟨(hW.block _ (by omega)).trans dC.o,(hW.block _ hz2).trans wO.o⟩);obtain⟨bx,bQ⟩:∃bx,bx=w.heap.size:=⟨_,rfl⟩;rw [<-bQ] at j5 ⊢;clear bQ;obtain⟨hx2,nW⟩:=j5.o _ (aX _ _);have c0:=bG _ bx 0 _ _ (0,0) hx2;have c1:=bG _ bx 1 _ _ (0,0) hx2;have c2:=bG _ bx 2 _ _ (0,0) hx2;have c3:=bG _ bx 3 _ _ (0,0) hx2;have c4:=bG _ bx 4 _ _ (0,0) hx2;have c5:=bG _ bx 5 _ _ (0,0) hx2;have c6:=bG _ bx 6 _ _ (0,0) hx2;have c7:=bG _ bx 7 _ _ (0,0) hx2;have y0:=bG _ (bx+1) 0 _ _ (0,0) nW;have y1:=bG _ (bx+1) 1 _ _ (0,0) nW;clear hx2 nW;go_wp2_with (go_at_call 147;refine(yv.o _ aV.o).mono ?_;rintro e w3 ⟨rfl,hb3⟩;have af:Hid (β w w3):=τ aV hb3;have ar:Hid (β w (w3.alloc (aK #[ν (uS x ym).a,ν (uS x ym).b] 67))):=η (af.o.alloc af.o.size _);obtain⟨hx3,vV⟩:=j5.o _ hb3;clear c0 c1 c2 c3 c4 c5 c6 c7 y0 y1;have c0:=bG _ bx 0 _ _ (0,0) hx3;have c1:=bG _ bx 1 _ _ (0,0) hx3;have c2:=bG _ bx 2 _ _ (0,0) hx3;have c3:=bG _ bx 3 _ _ (0,0) hx3;have c4:=bG _ bx 4 _ _ (0,0) hx3;have c5:=bG _ bx 5 _ _ (0,0) hx3;have c6:=bG _ bx 6 _ _ (0,0) hx3;have c7:=bG _ bx 7 _ _ (0,0) hx3;have y1:=bG _ (bx+1) 1 _ _ (0,0) vV;have iV:bx+1<w3.heap.size:=(fY.1 vV).1;have a3b:bx<w3.heap.size:=Zs iV;clear hx3 vV hb3)
 go_ret;exact⟨by rw [HR.o];rfl,ar.o⟩
theorem ua.entry {κ:Type} [DecidableEq κ] {kt:bX} {enc:κ->aN} {jZ:κ->Prop} {w:aJ} {base b:Nat} {m:List (κ×aN)} {f:κ->List Int}(K:CB aM kt enc jZ)(h:ua kt enc jZ w base b m f) {t:bX}(ht:aM.underlying t=aC (.map kt 53)) {q:κ}(hq:jZ q):
 ∃st w1,(Fp t (.map (aC b)) (enc q)).run aM w= .ok (.tuple #[Bt q m,goInt st]) w1/\w.grownBy w1 (aC b)/\w1.heap.size=w.heap.size/\w1.ownsRow base 2 1 (Bt q m) (aA (f q)) ((f q).map (aG aF))/\
  ∀(w2:aJ) (v':aN) (ys:List Int),w1.grownBy w2 (Bt q m).ownBlock->w2.ownsRow base 2 1 v' (aA ys) (ys.map (aG aF))->(v'.ownBlock=(Bt q m).ownBlock\/v'.ownBlock=aC w1.heap.size)->
   ∃w3,(OS t (.map (aC b)) (goInt st) v').run aM w2= .ok () w3/\ua kt enc jZ w3 base b (eI q v' m) (λz=>if z=q then ys else f z)/\
    (∀k,k<w.heap.size->k≠b->aC k≠(Bt q m).ownBlock->w3.heap[k]? =w.heap[k]?)/\w.heap.size<=w3.heap.size/\∀B,B<=b->aa B w w3:=by
 obtain⟨st,w1,hr,hg1,hs1,hf⟩:=h.map.entry (t:=t) (e:=53) K ht (z:= .slice aB 0 0) (λu=>by kernel_rfl) h.yc h.dom hq;have aMD:=h.low;have QX:=h.slot q;have mj:∀ {e s n} {v:aN} {xs:List aN} {W:aJ},W.ownsRow base e s v n xs->v.ownBlock≠aC b:=λho e=>by have:=ei ho b e;omega
 have h1:=QX.kept hg1 (aT (mj QX));refine⟨st,w1,hr,hg1,hs1,h1,λw2 v' ys hg2 hown hloc=> ?_⟩;have hs2:=hg2.size;have VR:=h.map.lt;obtain⟨w3,hr3,BV,WT,hg3⟩:=hf w2 v' (hg2.block b (by rw [hs1];exact VR) (λe=>mj QX e.symm));have hs3:=hg3.size;refine⟨w3,hr3,⟨BV,WT,h.low,λp hp=> ?_,λp hp p' nU hne=> ?_,λq' hq'=> ?_,λp hp=> ?_⟩,λk hk hkb Vu=> ?_,by omega,λB hB=>⟨hg3.os.trans (hg2.os.trans hg1.os),hg3.tape.trans (hg2.tape.trans hg1.tape),hg3.output.trans (hg2.output.trans hg1.output),by omega,λk hk=>(hg3.block k (by omega) (by simp;omega)).trans ((hg2.block k (by omega) (λe=>by have:=ei QX k e.symm;omega)).trans (hg1.block k (by omega) (by simp;omega)))⟩⟩
 ·rcases KM h.map.apart hp with e|⟨gW,hne⟩
  ·subst e;simp only [if_true];exact hown.kept hg3 (aT (mj hown))
  have Hm:=h.rows p gW;rw [ifN hne];have hr1:=Hm.kept hg1 (aT (mj Hm));refine(hr1.kept hg2 ?_).kept hg3 (aT (mj Hm));have aFx:∀v,getM q m=aC v->p.2.ownBlock=aB\/p.2.ownBlock≠v.ownBlock:=λv hv=>h.far p gW (q,v) (Qx hv) hne
  unfold Bt;cases Jo:getM q m with
  |none=>cases hpo:p.2.ownBlock<;>simp [dx]
  |some v=>simpa using aFx v Jo
 ·have apart:∀p∈m,p.1≠q->p.2.ownBlock=aB\/p.2.ownBlock≠v'.ownBlock:=λp hp hne=>by
   have Hm:=h.rows p hp;rcases hloc with e|e
   ·rw [e];unfold Bt;cases Jo:getM q m with
    |none=>cases hpo:p.2.ownBlock<;>simp [dx]
    |some v=>simpa using h.far p hp (q,v) (Qx Jo) hne
   rw [e];refine aT λe'=> ?_
   have:=(Hm.lt _ e').2;omega
  rcases KM h.map.apart hp with e|⟨gW,aGG⟩
  ·subst e;rcases KM h.map.apart nU with e|⟨WK,a3n⟩
   ·subst e;exact absurd rfl hne
   rcases apart p' WK a3n with e|e
   ·simp only;rw [e];cases v'.ownBlock<;>simp
   exact aT (Ne.symm e)
  rcases KM h.map.apart nU with e|⟨WK,a3n⟩
  ·subst e;exact apart p gW aGG
  exact h.far p gW p' WK hne
 ·have kj:q'≠q:=λe=>hq' _ (XO m) e.symm
  rw [ifN kj];exact h.off q' (λp hp e=>by obtain⟨u,hu⟩:=a6B (q:=q) (v:=v') hp;exact hq' _ hu e)
 ·rcases KM h.map.apart hp with e|⟨gW,_⟩
  ·rw [e];exact hq
  exact h.dom p gW
 exact(hg3.block k (by omega) (by simp;omega)).trans ((hg2.block k (by omega) Vu).trans (hg1.block k hk (by simp;omega)))
def Lg.key(x:Lg):Int×Int:=(x.m,x.a)
def pX(L:List Lg)(q:Int×Int):List Int:=(L.filter λx=>x.key==q).map (·.n)
theorem aCo(L:List Lg)(x:Lg)(q:Int×Int):pX (L++ [x]) q=if q=x.key then pX L q++ [x.n] else pX L q:=by
 unfold pX;rw [List.filter_append,dY];by_cases h:q=x.key
 ·rw [ifP h,List.filter_cons];simp [h]
 rw [ifN h,List.filter_cons];have:(x.key==q)=aP:=by simpa using Ne.symm h
 simp [this]
theorem a1X(L:List Lg)(q:Int×Int):aA (pX L q)<=aA L:=by unfold pX;rw [iK];exact qN _ _
def insSd(q:Int×Int):List (Int×Int)->List (Int×Int)
 | []=> [q]
 |p::l=>if q=p then p::l else if pE q<pE p then q::p::l else p::insSd q l
def fw(L:List Lg):List (Int×Int):=L.foldr (λx l=>insSd x.key l) []
theorem Wo(q z:Int×Int):∀l,z∈insSd q l↔z=q\/z∈l
 | []=>by simp [insSd]
 |p::l=>by
  unfold insSd;split
  ·rename_i h;subst h;simp
  split
  ·simp
  simp only [fC,Wo q z l];constructor
  ·rintro (h|h|h)
   ·exact aT (aS h)
   ·exact aS h
   exact aT (aT h)
  rintro (h|h|h)
  ·exact aT (aS h)
  ·exact aS h
  exact aT (aT h)
theorem a4J {q:Int×Int}(hq:aL q.2):∀ {l:List (Int×Int)},(∀p∈l,aL p.2)->l.Pairwise (λa b=>pE a<pE b)->(insSd q l).Pairwise (λa b=>pE a<pE b)
 | [],_,_=>by simp [insSd]
 |p::l,hI,h=>by
  obtain⟨h1,h2⟩:=kX.1 h;unfold insSd;split
  ·exact h
  rename_i hne;split
  ·rename_i hlt;refine kX.2 ⟨λz hz=> ?_,h⟩;rcases fC.1 hz with rfl|hz
   ·exact hlt
   exact Int.lt_trans hlt (h1 z hz)
  rename_i pA;refine kX.2 ⟨λz hz=> ?_,a4J hq (λz hz=>hI z (df _ hz)) h2⟩;rcases (Wo q z l).1 hz with rfl|hz
  ·have:pE z≠pE p:=λe=>hne (a4c hq (hI p (oZ ..)) e)
   omega
  exact h1 z hz
theorem Rb(L:List Lg)(q:Int×Int):q∈fw L↔∃x∈L,x.key=q:=by
 induction L with
 |nil=>simp [fw]
 |cons x L ih=>
  show q∈insSd x.key (fw L)↔_;rw [Wo,ih];simp [eq_comm]
theorem a6a {L:List Lg}(hI:∀x∈L,aL x.a):(fw L).Pairwise (λa b=>pE a<pE b):=by
 induction L with
 |nil=>simp [fw]
 |cons x L ih=>
  refine a4J (hI x (oZ ..)) (λp hp=> ?_) (ih (λy hy=>hI y (df _ hy)));obtain⟨y,hy,rfl⟩:=(Rb L p).1 hp;exact hI y (df _ hy)
theorem a7B {α:Type} {k:α->Int}:∀ {a b:List α},a.Pairwise (λx y=>k x<k y)->b.Pairwise (λx y=>k x<k y)->(∀z,z∈a↔z∈b)->a=b
 | [],[],_,_,_=>rfl
 | [],y::b,_,_,h=>absurd ((h y).2 (oZ ..)) (by simp)
 |x::a,[],_,_,h=>absurd ((h x).1 (oZ ..)) (by simp)
 |x::a,y::b,ha,hb,h=>by
  obtain⟨a1,a2⟩:=kX.1 ha;obtain⟨b1,b2⟩:=kX.1 hb;have hxy:x=y:=by
   rcases fC.1 ((h x).1 (oZ ..)) with e|e
   ·exact e
   rcases fC.1 ((h y).2 (oZ ..)) with e2|e2
   ·exact e2.symm
   have:=b1 x e;have:=a1 y e2;omega
  subst hxy;rw [a7B a2 b2 λz=> ?_];constructor
  ·intro hz;rcases fC.1 ((h z).1 (df _ hz)) with e|e
   ·subst e;have:=a1 z hz;omega
   exact e
  intro hz;rcases fC.1 ((h z).2 (df _ hz)) with e|e
  ·subst e;have:=b1 z hz;omega
  exact e
theorem aGp {m:List ((Int×Int)×aN)} {l:List (Int×Int)} {L:List Lg}(h:Te m l)(hI:∀x∈L,aL x.a)(hk:∀q,(∃v,(q,v)∈m)↔∃x∈L,x.key=q):l=fw L:=
 a7B h.vk (a6a hI) λz=>by rw [h.mem,hk,Rb]
end
section
open Go.Maps Go.MapKept Go.ChangeMaps
structure Lg.ok(x:Lg):Prop where
 m:aL x.m
 a:aL x.a
 n:aL x.n
def ER(x:ak)(L:List Lg):Int:=match L.find? (λy=>mN x y !=0) with|some y=>mN x y|none=>0
def rq(L:List Lg)(q:Int×Int):Int:=sumI (pX L q)
def mP(x:ak)(L:List Lg):Int:=if 1024<(aA L) then 6 else if ER x L≠0 then ER x L else if (fw L).any (λq=>dL (rq L q) !=0)=aO then 2 else 0
def lh(L:List Lg)(l:List (Int×Int)):List Lg:=(l.filter λq=>rq L q !=0).map λq=>⟨q.1,q.2,rq L q⟩
def gw(L:List Lg):List Lg:=lh L (fw L)
theorem aHl(L:List Lg) {l:List (Int×Int)} {k:Nat}(hk:k<aA l):lh L (l.take (k+1))=lh L (l.take k)++(if rq L l[k]≠0 then [⟨l[k].1,l[k].2,rq L l[k]⟩] else []):=by unfold lh;rw [M4 _ hk,dY];by_cases h:rq L l[k]=0<;>simp [h]
theorem aHk(L:List Lg)(l:List (Int×Int))(k:Nat):aA (lh L (l.take k))<=aA l:=by unfold lh;rw [iK];exact M3 _ _ _
theorem aFF {x:ak} {L:List Lg} {k:Nat}(hk:k<aA L)(h:(L.take k).any (λy=>mN x y !=0)=aP)(hn:mN x L[k]≠0):ER x L=mN x L[k]:=by
 unfold ER;have e:L=L.take k++L[k]::L.drop (k+1):=by rw [List.getElem_cons_drop,List.take_append_drop]
 have h1:L.find? (λy=>mN x y !=0)=aC L[k]:=by rw [List.find?_eq_some_iff_append];refine⟨by simpa using hn,L.take k,L.drop (k+1),e,λa ha=> ?_⟩;have:=zE.1 h a ha;simpa using this
 rw [h1]
theorem aFE {x:ak} {L:List Lg}(h:L.any (λy=>mN x y !=0)=aP):ER x L=0:=by unfold ER;rw [List.find?_eq_none.2 (λa ha=>by have:=zE.1 h a ha;simpa using this)]
def a8U(x:ak)(L:List Lg)(w:aJ)(e:di)(w':aJ):Prop:=
 β w w'/\((mP x L=0/\∃v,e=aU (bB #[v,ν 0])/\w'.ownsRow w.heap.size 76 3 v (aA (gw L)) (bA (gw L)))\/(mP x L≠0/\e=aU (bB #[aH aB 0 0,ν (mP x L)])))
structure JJ(w:aJ)(base b:Nat)(m:List ((Int×Int)×aN))(L:List Lg)(W:aJ):Prop where
 g:ua 162 xA IY W base b m (pX L)
 key:∀q,(∃v,(q,v)∈m)↔∃x∈L,x.key=q
 len:aA m<=aA L
 bl:β w W
 lo:w.heap.size<=b/\b<base/\base<=W.heap.size
theorem JJ.below {w W W':aJ} {base b:Nat} {m:List ((Int×Int)×aN)} {L:List Lg}(h:JJ w base b m L W)(hb:aa W.heap.size W W'):JJ w base b m L W':=
 ⟨h.g.below (aZ _) hb,h.key,h.len,h.bl.trans (hb.mono h.bl.size),h.lo.1,h.lo.2.1,cC h.lo.2.2 hb.size⟩
theorem aHq(x:ak)(L:List Lg)(A:Option ai)(c:Nat)(w:aJ)(h:lS w x)(hs:aW w w.heap.size A (bA L))(hI:∀y∈L,y.ok)(hl:aA L<=100000):
 aQ aM 52 #[x.val,aH A (aA L) c] w (a8U x L w):=by
 have aR:Hid (β w (w.alloc (aK #[aH x.Am (aA x.ms) x.cm,aH x.As (aA x.ss) x.cs,aH x.Ac (aA x.cy) x.cc,ν x.line,ν x.bu,ν x.lead,ν x.tr,ν x.bY] 26))):=η σ;have qL:Hid ((w.alloc (aK #[aH x.Am (aA x.ms) x.cm,aH x.As (aA x.ss) x.cs,aH x.Ac (aA x.cy) x.cc,ν x.line,ν x.bu,ν x.lead,ν x.tr,ν x.bY] 26)).heap[w.heap.size]? =aC (aK x.vals 26 (0,0))):=η (cT w _);have tX:=η h;have HS:=η hs;have HI:=η hI;have hz1:w.heap.size<(w.alloc (aK #[aH x.Am (aA x.ms) x.cm,aH x.As (aA x.ss) x.cs,aH x.Ac (aA x.cy) x.cc,ν x.line,ν x.bu,ν x.lead,ν x.tr,ν x.bY] 26)).heap.size:=by simp
 unfold ak.vals at qL;clear h hs hI;by_cases kh:1024<aA L
 ·have HE:Hid (mP x L=6):=η (by unfold mP;rw [ifP kh]);have h1:(1024:Int)<(aA L:Int):=by omega
  unfold ak.val;go_enter aAZ,aBL
  go_wp2_with fail
  go_ret2;exact⟨aR.o,aT ⟨by rw [HE.o];decide,by rw [HE.o];rfl⟩⟩
 have bP:=η kh;have DF:decide ((1024:Int)<(aA L:Int))=aP:=decide_eq_false (by omega);have qX:decide (1024<aA L)=aP:=decide_eq_false kh;have hl:aA L<=1024:=by omega
 clear kh;have pN:=η (λ(y:Lg) (hy:y.ok) W (hW:β w W)=>aHd x y W (tX.o.below hW) hy.m hy.a);have mG:= @run_makeMap aM;obtain⟨i0,bj,hz0',fh,xK⟩:=dK Mz;unfold ak.val at pN ⊢;go_enter aAZ,aBL
 go_upto_region 3 with fail
 generalize (w.alloc (aK #[aH x.Am (aA x.ms) x.cm,aH x.As (aA x.ss) x.cs,aH x.Ac (aA x.cy) x.cc,ν x.line,ν x.bu,ν x.lead,ν x.tr,ν x.bY] 26))=w1 at*;obtain⟨bx,bQ⟩:∃bx,bx=w.heap.size:=⟨_,rfl⟩;have dN:=η bQ;rw [<-bQ] at qL hz1 ⊢;clear bQ;have oP:Hid (JJ w1 (w1.heap.size+1) w1.heap.size [] (L.take 0) (w1.alloc (.map #[] 0))):=η (by
  have e:pX (L.take 0)=λ_=> []:=by funext q;rw [nJ];rfl
  refine⟨by rw [e];exact ua.made w1,λq=>by simp,by simp,(aX _ _).alloc (aZ _) _,aZ _,by omega,by simp⟩)
 have yo:Hid ((L.take 0).any (λy=>mN x y !=0)=aP):=η (by rw [nJ];rfl);have HXW:Hid (∀W,β w1 W->W.heap[bx]? =aC (aK #[aH x.Am (aA x.ms) x.cm,aH x.As (aA x.ss) x.cs,aH x.Ac (aA x.cy) x.cc,ν x.line,ν x.bu,ν x.lead,ν x.tr,ν x.bY] 26 (0,0))):=η (λW hW=>(hW.block bx hz1).trans qL.o);go_wp2_with fail
 go_loopw [8,9,10,22] (λ_ _ _ i wr=>∃(k:Nat) (m:List ((Int×Int)×aN)),k<=aA L/\i=ν (k:Int)/\Hid (JJ w1 (w1.heap.size+1) w1.heap.size m (L.take k) wr)/\Hid ((L.take k).any (λy=>mN x y !=0)=aP)) (λ_ _ _ i _=>aA L-(ag i).toNat)
 case atStart=>exact⟨0,[],bL _,rfl,oP,yo⟩
 case round=>
  clear oP yo;obtain⟨k,m,hk,rfl,HN,HF⟩:=hrel;have cE:Hid (β w wr):=η (aR.o.trans (HN.o.bl.mono aR.o.size));by_cases hlt:k<aA L
  ·obtain⟨be,oe,rfl,lO,e0,e1,e2⟩:=oG ((HS.o.below cE.o).mono cE.o.size) hlt;have dR:=HI.o _ (cK hlt);have Ns:=η (λhn=>aFF (x:=x) hlt HF.o hn);have CI:=η (zM (λy=>mN x y !=0) hlt);have lM:Hid (L.take (k+1)=L.take k++ [L[k]]):=η (fF hlt);have hpl:aA (L.take k)<=1024:=by rw [ur];omega
   have eV:(0:Int)<=(k:Int):=by omega
   have hkb:(k:Int)<(aA L:Int):=by omega
   generalize L[k]=y at*;generalize L.take k=pre at*;have Kg:=η (pN.o y dR);obtain⟨ym,ya,yn⟩:=y;simp only at e0 e1 e2;have dP:=η dR;have eH:bx<wr.heap.size:=by have:=HN.o.bl.size;omega
   have aV:Hid (β w (wr.alloc (aK #[ν ym,ν ya,ν yn] 76))):=η (cE.o.alloc cE.o.size _);have CY:Hid ((wr.alloc (aK #[ν ym,ν ya,ν yn] 76)).heap[wr.heap.size]? =aC (aK #[ν ym,ν ya,ν yn] 76 (0,0))):=η (cT wr _);have qF:=η (HN.o.below ((aX _ _).alloc (aZ _) (aK #[ν ym,ν ya,ν yn] 76)));have hz2:wr.heap.size<(wr.alloc (aK #[ν ym,ν ya,ν yn] 76)).heap.size:=by simp
   clear dR;unfold Lg.val at Kg;simp only at Kg;go_upto_region 7 with fail
   generalize wr.alloc (aK #[ν ym,ν ya,ν yn] 76)=w2 at*;clear HN cE e0 e1 e2;obtain⟨BG,hby⟩:∃b',b'=wr.heap.size:=⟨_,rfl⟩;rw [<-hby] at CY hz2 eH ⊢;clear hby;have JA:Hid (∀W,β w2 W->W.heap[bx]? =aC (aK #[aH x.Am (aA x.ms) x.cm,aH x.As (aA x.ss) x.cs,aH x.Ac (aA x.cy) x.cc,ν x.line,ν x.bu,ν x.lead,ν x.tr,ν x.bY] 26 (0,0))/\W.heap[BG]? =aC (aK #[ν ym,ν ya,ν yn] 76 (0,0))):=η (λW hW=>⟨HXW.o W (qF.o.bl.trans (hW.mono qF.o.bl.size)),(hW.block BG hz2).trans CY.o⟩);obtain⟨hx2,nW⟩:=JA.o _ (aX _ _);have c0:=bG _ bx 0 _ _ (0,0) hx2;have c1:=bG _ bx 1 _ _ (0,0) hx2;have c2:=bG _ bx 2 _ _ (0,0) hx2;have c3:=bG _ bx 3 _ _ (0,0) hx2;have c4:=bG _ bx 4 _ _ (0,0) hx2;have c5:=bG _ bx 5 _ _ (0,0) hx2;have c6:=bG _ bx 6 _ _ (0,0) hx2;have c7:=bG _ bx 7 _ _ (0,0) hx2;have y0:=bG _ BG 0 _ _ (0,0) nW;have y1:=bG _ BG 1 _ _ (0,0) nW;have y2:=bG _ BG 2 _ _ (0,0) nW;clear hx2 nW;by_cases hn:mN x ⟨ym,ya,yn⟩=0
   ·rw [hn] at Kg;have jH:Hid ((L.take (k+1)).any (λy=>mN x y !=0)=aP):=η (by rw [CI.o,HF.o,hn];rfl);clear hn Ns CI HF;go_upto_region 11 with (go_at_call 102;refine(Kg.o _ aV.o).mono ?_;rintro e w3 ⟨rfl,hb3⟩;have iZ:=η (qF.o.below hb3);have B7:=(JA.o _ hb3).2;have hz3:BG<w3.heap.size:=cR hz2 hb3.size;clear c0 c1 c2 c3 c4 c5 c6 c7 y0 y1 y2 hb3;have y0:=bG _ BG 0 _ _ (0,0) B7;have y1:=bG _ BG 1 _ _ (0,0) B7;have Zc:=η B7;clear B7)
    have gZ:=η (iZ.o.below ((aX _ _).alloc (aZ _) (aK #[ν ym,ν ya] 162)));have Tc:=η ((fG w3 (aK #[ν ym,ν ya] 162) hz3).trans Zc.o);have kH:=η (cT w3 (aK #[ν ym,ν ya] 162));have mM:w3.heap.size<(w3.alloc (aK #[ν ym,ν ya] 162)).heap.size:=by simp
    clear y0 y1 iZ Zc qF CY JA aV qL lO;generalize w3.alloc (aK #[ν ym,ν ya] 162)=w4 at*;generalize w3.heap.size=bq at*;have y2:=bG _ BG 2 _ _ (0,0) Tc.o;have s0:=bG _ bq 0 _ _ (0,0) kH.o;have s1:=bG _ bq 1 _ _ (0,0) kH.o;have Mv:BG<w4.heap.size:=LS hz3 mM;have Nq:Hid (IY (ym,ya)):=η ⟨dP.o.m,dP.o.a⟩;obtain⟨st,w5,uP,eZ,hs5,jA,DG⟩:=(gZ.o.below ((aX _ _).alloc (aZ _) (aK #[ν yn] 2))).g.entry a6Y a0r Nq.o;obtain⟨Aq,cq,vJ⟩:=bJ jA;have AX:Hid (w5.cell? ⟨w4.heap.size,0,aB⟩=aC (ν yn)):=η (by have e1:=eZ.cell_far ⟨w4.heap.size,0,aB⟩ (by simp) (by have:=gZ.o.lo;simp;omega);rw [e1];exact cM w4 _ _ 0 rfl);have Hh:w1.heap.size+1<=w5.heap.size:=by rw [hs5];have:=gZ.o.lo;simp;omega
    rw [vJ] at uP jA;have Mj:(Fp 159 (.map (aC w1.heap.size)) (bO #[ν ym,ν ya])).run aM (w4.alloc (aK #[ν yn] 2))= .ok (bB #[aH Aq (aA (pX pre (ym,ya))) cq,goInt st]) w5:=uP;have hbl:=a1X pre (ym,ya);have Dr:=η DG;have fK:=η jA;have AZ:=η vJ;clear uP DG jA eZ hs5 vJ;generalize goInt st=gs at*;go_wp2_with (at_builtin;refine wpList_append_own_at _ rfl _ _ 53 rfl (w1.heap.size+1) 2 i0 _ 1 8 mD bj hz0' fh xK rfl (by decide) _ (aA (pX pre (ym,ya))) ((pX pre (ym,ya)).map (aG aF)) rfl fK.o ⟨w4.heap.size,0,aB⟩ 1 1 [ν yn] rfl rfl (by intro j u hu;cases j with|zero=>simp at hu;subst hu;exact AX.o|succ j=>simp at hu) xQ (by simp only [bK];omega) (by omega) Hh ?_)
    intro v6 w6 Ep Eg _ Ej;obtain⟨w7,DR,EW,BS,zt,hB7⟩:=Dr.o w6 v6 (pX pre (ym,ya)++ [yn]) (by rw [AZ.o];exact Eg) (by rw [cL,dY];exact Ep) (by rw [AZ.o];exact Ej);have E2:Hid (JJ w1 (w1.heap.size+1) w1.heap.size (@eI _ instBEqOfDecidableEq (ym,ya) v6 m) (L.take (k+1)) w7):=η (by
     have nS:=gZ.o.lo;have aFi:aa w1.heap.size w4 w7:=(((aX w4.heap.size w4).alloc (aZ _) _).mono (by omega)).trans (hB7 _ (aZ _));refine⟨?_,λq=> ?_, ?_, ?_,⟨nS.1,nS.2.1, ?_⟩⟩
     ·have e:pX (L.take (k+1))=λz=>if z=(ym,ya) then pX pre (ym,ya)++ [yn] else pX pre z:=by
       funext z;rw [lM.o,aCo];show (if z=(ym,ya) then _ else _)=_;by_cases hz:z=(ym,ya)
       ·subst hz;rfl
       rw [ifN hz,ifN hz]
      rw [e];exact EW
     ·rw [lM.o];constructor
      ·rintro⟨v,hv⟩;rcases KM gZ.o.g.map.apart hv with e|⟨hv0,_⟩
       ·injection e with e1 e2;exact⟨⟨ym,ya,yn⟩,by simp,e1.symm⟩
       obtain⟨y,hy,e⟩:=(gZ.o.key q).1 ⟨v,hv0⟩;exact⟨y,uD _ hy,e⟩
      rintro⟨y,hy,e⟩;rcases gJ.1 hy with hy|hy
      ·obtain⟨v,hv⟩:=(gZ.o.key q).2 ⟨y,hy,e⟩;exact a6B (q:=(ym,ya)) (v:=v6) hv
      have:y=⟨ym,ya,yn⟩:=by simpa using hy
      subst this;rw [<-e];exact⟨v6,XO m⟩
     ·rw [lM.o,cL];have h1:=a6A (q:=(ym,ya)) (v:=v6) m;have h2:=gZ.o.len;simp;omega
     ·exact gZ.o.bl.trans aFi
     have:w4.heap.size+1<=w7.heap.size:=by simpa using zt
     omega)
    clear Ep Eg Ej EW BS zt hB7 Dr fK AX AZ Mj gZ;go_wp2_with fail
    clear DR;go_roundw
    case rel=>exact⟨k+1,_,by omega,by go_num,E2,jH⟩
    case measure=>simp [ag];omega
   have HR:Hid (mP x L=mN x ⟨ym,ya,yn⟩):=η (by unfold mP;rw [ifN bP.o,ifP (by rw [Ns.o hn];exact hn),Ns.o hn]);have HNZ:=η hn;have hne:(mN x ⟨ym,ya,yn⟩==0)=aP:=by simpa using hn
   have a3m:(mN x ⟨ym,ya,yn⟩ !=0)=aO:=by simpa using hn
   generalize mN x ⟨ym,ya,yn⟩=E at*;clear hn Ns CI HF;go_wp2_with (go_at_call 102;refine(Kg.o _ aV.o).mono ?_;rintro e w3 ⟨rfl,hb3⟩;have af:Hid (β w w3):=τ aV hb3;clear hb3)
   go_ret2;exact⟨af.o,aT ⟨by rw [HR.o];exact HNZ.o,by rw [HR.o];rfl⟩⟩
  obtain rfl:k=aA L:=by omega
  rw [cU] at HN HF;have yo:Hid (ER x L=0):=η (aFE HF.o);have O8:Hid (mP x L=if (fw L).any (λq=>dL (rq L q) !=0)=aO then 2 else 0):=η (by unfold mP;rw [ifN bP.o,ifN (by rw [yo.o];simp)]);have wK:=η (aHr w1.heap.size m wr HN.o.g.map HN.o.g.yc HN.o.g.dom (by have:=HN.o.len;omega));obtain⟨i1,pg,Qf,Qg,Qh⟩:=dK Qs;clear mG;go_wp2_with (go_at_call 103;refine wK.o.mono ?_;unfold YW;rintro e wh ⟨vo,l,rfl,hsd,mi,mH,hbl⟩;have qJ:=η hsd;have T8:=η mH;have Sy:=η (HN.o.below hbl);have Ka:Hid (β w wh):=η ((cE.o).trans (hbl.mono cE.o.size));obtain⟨Ao,co,hvo⟩:=bJ mH;subst hvo;clear hsd mH hbl wK)
  have hlen:=HN.o.len;obtain rfl:l=fw L:=aGp qJ.o (λy hy=>(HI.o y hy).a) HN.o.key;have jf:aA (fw L)<=1024:=by omega
  clear HN mi qJ cE HF yo hlen;have sF:Hid (β wh wh):=η (aX _ _);have ZH:Hid (wh.ownsRow wh.heap.size 76 3 (aH aB 0 0) (aA (lh L ((fw L).take 0))) (bA (lh L ((fw L).take 0)))):=η (by rw [nJ];exact gC _ _ _ _);have CX:Hid (((fw L).take 0).any (λq=>dL (rq L q) !=0)=aP):=η (by rw [nJ];rfl);go_loopw [11,13,14,15,50] (λv _ _ _ i wr=>∃k:Nat,k<=aA (fw L)/\i=ν (k:Int)/\Hid (β wh wr)/\Hid (wr.ownsRow wh.heap.size 76 3 v (aA (lh L ((fw L).take k))) (bA (lh L ((fw L).take k))))/\Hid (((fw L).take k).any (λq=>dL (rq L q) !=0)=aP)) (λ_ _ _ _ i _=>aA (fw L)-(ag i).toNat)
  case atStart=>exact⟨0,bL _,rfl,sF,ZH,CX⟩
  case round=>
   clear sF ZH CX;obtain⟨k,hk,rfl,HR,HO,HV⟩:=hrel;obtain⟨Ax,cx,oz⟩:=bJ HO.o;subst oz;by_cases hlt:k<aA (fw L)
   ·obtain⟨bo,oo,rfl,tD,e0,e1⟩:=a6X (((aW.cA T8.o).below HR.o).mono HR.o.size) hlt;have cG:=η (aHl L hlt);have LG:=η (zM (λq=>dL (rq L q) !=0) hlt);have E8:Hid ((dL (rq L (fw L)[k]) !=0)=aO->(fw L).any (λq=>dL (rq L q) !=0)=aO):=η (λh=>kK.2 ⟨_,cK hlt,h⟩);have gV:aA (lh L ((fw L).take k))<=1024:=cC (aHk L _ k) jf;have WB:=(Rb L (fw L)[k]).1 (cK hlt);have eV:(0:Int)<=(k:Int):=by omega
    have hkb:(k:Int)<(aA (fw L):Int):=by omega
    generalize (fw L)[k]=q at*;obtain⟨y,hy,hyq⟩:=WB;have Nq:Hid (IY q):=η (by rw [<-hyq];exact⟨(HI.o y hy).m,(HI.o y hy).a⟩);obtain⟨Aq,cq,vJ⟩:=bJ (Sy.o.g.slot q);have kF:Hid (∀W,β wh W->(Instr.lookup 159 (.map (aC w1.heap.size)) (bO #[ν q.1,ν q.2]) aP).run aM W= .ok (aH Aq (aA (pX L q)) cq) W):=η λW hW=>by have h2:=(Sy.o.below hW).g.look a6Y Nq.o a0r;rw [vJ] at h2;exact h2
    have kV:Hid (∀W,β wh W->aQ aM 104 #[aH Aq (aA (pX L q)) cq] W λe w'=>e=aU (bB #[ν (gP (rq L q)),ν (dL (rq L q))])/\β W w'):=η λW hW=>Dg (pX L q) Aq cq W (λz hz=>by obtain⟨u,hu,rfl⟩:=dV.1 hz;exact(HI.o u (j6.1 hu).1).n) (by have h2:=(Sy.o.below hW).g.slot q;rw [vJ] at h2;exact aW.cA h2) (by have:=a1X L q;omega)
    have af:Hid (β wh (wr.alloc (aK #[ν q.1,ν q.2] 162))):=η (HR.o.alloc HR.o.size _);have nu:=η (cT wr (aK #[ν q.1,ν q.2] 162));have cB:=η (HO.o.alloc (aK #[ν q.1,ν q.2] 162));have hz3:wr.heap.size<(wr.alloc (aK #[ν q.1,ν q.2] 162)).heap.size:=by simp
    clear vJ hy hyq Nq HO;go_upto_region 17 with fail
    generalize wr.alloc (aK #[ν q.1,ν q.2] 162)=w3 at*;clear e0 e1;obtain⟨bq,VU⟩:∃b',b'=wr.heap.size:=⟨_,rfl⟩;rw [<-VU] at nu hz3 ⊢;clear VU;have j5:Hid (∀W,β w3 W->W.cell? ⟨bq,0,aB⟩=aC (ν q.1)/\W.cell? ⟨bq,1,aB⟩=aC (ν q.2)):=η (λW hW=>⟨((ez hW).1 _ _ hz3).trans (ρ nu.o),((ez hW).1 _ _ hz3).trans (ρ nu.o)⟩);obtain⟨s0,s1⟩:=j5.o _ (aX _ _);have hlk:=kF.o _ af.o;obtain⟨q1,q2⟩:=q;simp only at kF kV j5 s0 s1 hlk cG LG E8;generalize rq L (q1,q2)=s at*;by_cases hs1:aL s
    ·have xy:Hid (((fw L).take (k+1)).any (λq=>dL (rq L q) !=0)=aP):=η (by rw [LG.o,HV.o,(dy hs1).2];rfl);rw [(dy hs1).1,(dy hs1).2] at kV;by_cases hs0:s=0
     ·subst hs0;have HD:Hid (lh L ((fw L).take (k+1))=lh L ((fw L).take k)):=η (by rw [cG.o,ifN (by simp),List.append_nil]);clear hs1 LG E8 cG kF;go_wp2_with (go_at_call 104;refine(kV.o _ af.o).mono ?_;rintro e w4 ⟨rfl,hb4⟩;have ar:Hid (β wh w4):=τ af hb4;have gZ:Hid (β w3 w4):=η hb4;obtain⟨s0',s1'⟩:=j5.o _ hb4;clear hb4 hlk s0 s1)
      have fK:Hid (w4.ownsRow wh.heap.size 76 3 (aH Ax (aA (lh L ((fw L).take k))) cx) (aA (lh L ((fw L).take (k+1)))) (bA (lh L ((fw L).take (k+1))))):=η (by rw [HD.o];exact iI cB.o gZ.o);go_roundw
      case rel=>exact⟨k+1,by omega,by go_num,ar,fK,xy⟩
      case measure=>simp [ag];omega
     have HD:Hid (lh L ((fw L).take (k+1))=lh L ((fw L).take k)++ [⟨q1,q2,s⟩]):=η (by rw [cG.o,ifP hs0]);have WQ:(s==0)=aP:=by simpa using hs0
     have aMP:(s !=0)=aO:=by simpa using hs0
     generalize lh L ((fw L).take k)=D at*;clear hs1 LG E8 cG kF hs0;go_wp2_with (first|(go_at_call 104;refine(kV.o _ af.o).mono ?_;rintro e w4 ⟨rfl,hb4⟩;have ar:Hid (β wh w4):=τ af hb4;have gZ:Hid (β w3 w4):=η hb4;obtain⟨s0',s1'⟩:=j5.o _ hb4;clear hb4 hlk s0 s1)|(at_builtin;refine wpList_append_lies _ rfl _ _ 39 rfl wh.heap.size 76 i1 _ 3 24 sU pg Qf Qg Qh rfl (by omega) _ _ _ rfl ((iI cB.o gZ.o).alloc (aK #[ν q1,ν q2,ν s] 76)) ⟨w4.heap.size,0,aB⟩ 1 1 (Lg.cells ⟨q1,q2,s⟩) rfl rfl (dM _ _ #[_,_,_] rfl) (Qu _) (by omega) (by simp only [bK];omega) (by omega) (by have:=ar.o.size;simp;omega) (w4.heap.size+1) (by simp) ?_))
     intro g5 Lq w5 Eo tE _ _;have cz:Hid (β wh w5):=η ((ar.o.alloc ar.o.size _).grown tE (by have:=ar.o.size;simp;omega) (λj hj=>ei cB.o j hj));have fK:Hid (w5.ownsRow wh.heap.size 76 3 (aH (aC ⟨g5,0,aB⟩) (aA D+1) Lq) (aA (lh L ((fw L).take (k+1)))) (bA (lh L ((fw L).take (k+1))))):=η (by rw [HD.o,cL,Qt];exact Eo);clear Eo tE cB ar gZ af;go_wp2_with fail
     go_roundw
     case rel=>exact⟨k+1,by omega,by go_num,cz,fK,xy⟩
     case measure=>simp [ag];omega
    have pS:Hid (mP x L=2):=η (by rw [O8.o,ifP (E8.o (by rw [(gh hs1).2];rfl))]);rw [(gh hs1).1,(gh hs1).2] at kV;clear hs1 LG E8 cG kF;go_wp2_with (go_at_call 104;refine(kV.o _ af.o).mono ?_;rintro e w4 ⟨rfl,hb4⟩;have ar:Hid (β wh w4):=τ af hb4;have gZ:Hid (β w3 w4):=η hb4;obtain⟨s0',s1'⟩:=j5.o _ hb4;clear hb4 hlk s0 s1)
    go_ret2;exact⟨Ka.o.trans (ar.o.mono Ka.o.size),aT ⟨by rw [pS.o];decide,by rw [pS.o];rfl⟩⟩
   obtain rfl:k=aA (fw L):=by omega
   rw [cU] at HV;have tx:Hid (mP x L=0):=η (by rw [O8.o,ifN (by rw [HV.o];simp)]);have VK:=HO.o;rw [cU] at VK ⊢;have dB:Hid (wr.ownsRow w.heap.size 76 3 (aH Ax (aA (lh L (fw L))) cx) (aA (gw L)) (bA (gw L))):=η (jT VK Ka.o.size);clear VK HO;go_wp2_with fail
   go_ret2;exact⟨Ka.o.trans (HR.o.mono Ka.o.size),aS ⟨tx.o,_,rfl,dB.o⟩⟩
end
def Bd.val(x:Bd):aN:=bO #[aG aF x.s,aG aF x.m,aG aF x.c,aG aF x.q,aG aF x.p]
def rH(x:Bd):Bool:=decide (x.q<1)||decide (x.p<1)
theorem PF {w:aJ} {B:Nat} {A:Option ai} {l:List Bd}(h:aW w B A (ny l)) {k:Nat}(hk:k<aA l):
 ∃b o,A=aC ⟨b,o,aB⟩/\b<B/\w.cell? ⟨b,o+k*5,aB⟩=aC (ν l[k].s)/\w.cell? ⟨b,o+k*5+1,aB⟩=aC (ν l[k].m)/\w.cell? ⟨b,o+k*5+2,aB⟩=aC (ν l[k].c)/\w.cell? ⟨b,o+k*5+3,aB⟩=aC (ν l[k].q)/\w.cell? ⟨b,o+k*5+4,aB⟩=aC (ν l[k].p):=by
 obtain⟨b,o,e,hb,hc⟩:=h.run (i:=k*5) (y:=ν l[k].s) (t:= [ν l[k].m,ν l[k].c,ν l[k].q,ν l[k].p]) (λj u hu=>tC Bd.cells 5 (λ_=>rfl) l k hk j u hu);exact⟨b,o,e,hb,hc 0 _ rfl,hc 1 _ rfl,hc 2 _ rfl,hc 3 _ rfl,hc 4 _ rfl⟩
theorem aBt(x:Bd)(w:aJ):aQ aM 226 #[x.val] w λe w'=>e=aU (bM (rH x))/\aa w.heap.size w w':=by
 obtain⟨s,m,c,q,p⟩:=x;unfold Bd.val;go_enter func226,ntmps226
 go_wp2
 all_goals
  go_ret;refine⟨fP ?_,(aX _ _).alloc (aZ _) _⟩;rw [FN];simp_all [rH]
theorem aGa(L:List Bd)(A:Option ai)(c:Nat)(w:aJ)(hs:aW w w.heap.size A (ny L))(hl:aA L<=1000000):
 aQ aM 254 #[aH A (aA L) c,.func (.func 226) #[] #[]] w λe w'=>e=aU (ν (uQ rH L))/\β w w':=by
 have HS:=η hs;have HP:=η (λ(x:Bd) (W:aJ)=>aBt x W);unfold Bd.val at HP;go_enter func254,ntmps254
 go_wp2
 go_loopw [5,8] (λ_ i wr=>∃k:Nat,k<=aA L/\i=ν k/\Hid (β w wr)/\Hid ((L.take k).any rH=aP)) (λ_ i _=>aA L-(ag i).toNat)
 ·exact⟨0,bL _,rfl,aX _ _,rfl⟩
 ·
  obtain⟨k,hk,rfl,HB,HK⟩:=hrel;have hsz:=HB.o.size;by_cases hlt:k<aA L
  ·obtain⟨b,o,rfl,hb,d0,d1,d2,d3,d4⟩:=PF (HS.o.below HB) hlt;have HA:=η (zM rH hlt);cases hp:rH L[k]
   ·go_wp2_with (go_at_call 226;refine lu (HP.o L[k] _) λw1 aR=> ?_)
    go_roundw
    ·exact⟨k+1,by omega,by go_num,HB.o.trans (aR.o.mono hsz),η (by rw [HA.o,HK.o,hp];rfl)⟩
    simp [ag];omega
   have HF:=η (Qn rH hlt HK hp);go_wp2_with (go_at_call 226;refine lu (HP.o L[k] _) λw1 aR=> ?_)
   go_ret;exact⟨cY HF,HB.o.trans (aR.o.mono hsz)⟩
  obtain rfl:k=aA L:=by omega
  have hn:=HK.o;rw [cU] at hn;have HN:=η (Qo rH hn);go_wp2
  go_ret;exact⟨cY HN,HB⟩
theorem aFe(L:List Bd)(A:Option ai)(c:Nat)(w:aJ)(hs:aW w w.heap.size A (ny L))(hl:aA L<=1000000):
 aQ aM 225 #[aH A (aA L) c,.func (.func 226) #[] #[]] w λe w'=>e=aU (bM (L.any rH))/\β w w':=by
 have HI:=η (aGa L A c w hs hl);have HA:=η (Wl rH L);go_enter func225,ntmps225
 go_wp2_with (go_at_call 254;refine lu HI.o λw1 aR=> ?_)
 go_ret;exact⟨fP HA,aR⟩
def uG(L:List Bd)(aGy cd:Int):Int:=if 1024<(aA L) then 6 else if aGy<0\/cd<0\/L.any rH=aO then 1 else 0
theorem aBu(L:List Bd)(A:Option ai)(c:Nat)(la ca:Int)(w:aJ)(hs:aW w w.heap.size A (ny L))(hl:aA L<=1000000):
 aQ aM 192 #[aH A (aA L) c,ν la,ν ca] w λe w'=>e=aU (ν (uG L la ca))/\β w w':=by
 have HH:=η (aFe L A c w hs hl);by_cases h1:1024<aA L
 ·have e:uG L la ca=6:=by unfold uG;rw [ifP h1]
  have hb:=decide_eq_true (by omega);rw [e];go_enter Ot,Ow
  go_wp2
  go_ret;exact⟨rfl,aX _ _⟩
 have hb:=decide_eq_false (by omega);by_cases h2:la<0
 ·have e:uG L la ca=1:=by unfold uG;rw [ifN h1,ifP (aS h2)]
  rw [e];go_enter Ot,Ow
  go_wp2
  go_ret;exact⟨rfl,aX _ _⟩
 by_cases h3:ca<0
 ·have e:uG L la ca=1:=by unfold uG;rw [ifN h1,ifP (aT (aS h3))]
  rw [e];go_enter Ot,Ow
  go_wp2
  go_ret;exact⟨rfl,aX _ _⟩
 cases h4:L.any rH
 ·have e:uG L la ca=0:=by unfold uG;rw [ifN h1,ifN (by rw [h4];simp;omega)]
  rw [e];rw [h4] at HH;go_enter Ot,Ow
  go_wp2_with (go_at_call 225;refine lu HH.o λw1 aR=> ?_)
  go_ret;exact⟨rfl,aR.o⟩
 have e:uG L la ca=1:=by unfold uG;rw [ifN h1,ifP (aT (aT h4))]
 rw [e];rw [h4] at HH;go_enter Ot,Ow
 go_wp2_with (go_at_call 225;refine lu HH.o λw1 aR=> ?_)
 go_ret;exact⟨rfl,aR.o⟩
section
def GV(x:ak)(d:Bd):Bool:=(jS x d.m !=0)
def GX(x:ak)(d:Bd):Bool:=(jC x d.c !=0)
def GY(d:Bd):Bool:=decide (d.q<1)||decide (d.p<1)
def JU(d:Bd):Bool:=decide (d.q>274877906944)
def GZ(x:ak)(d:Bd):Bool:=decide (d.p>(dW x d.c).b)
def nK(x:ak)(d:Bd):Int:=if GV x d=aO then 9 else if GX x d=aO then 10 else if GY d=aO then 1 else if JU d=aO then 2 else if GZ x d=aO then 15 else 0
def EO(b0 b1 bs be:Nat):Array aN:= #[aG aF 9,.func (.func 149) #[] #[bH (aC ⟨b0,0,aB⟩),bH (aC ⟨b1,0,aB⟩)],aG aF 10,.func (.func 150) #[] #[bH (aC ⟨be,0,aB⟩)],aG aF 1,.func (.func 151) #[] #[bH (aC ⟨b1,0,aB⟩)],aG aF 2,.func (.func 152) #[] #[bH (aC ⟨b1,0,aB⟩)],aG aF 15,.func (.func 153) #[] #[bH (aC ⟨b1,0,aB⟩),bH (aC ⟨bs,0,aB⟩)]]
structure KX(W:aJ)(b0 b1 bs be bt:Nat)(x:ak)(d:Bd):Prop where
 cf:pL W b0 x
 ok:lS W x
 d1:W.cell? ⟨b1,1,aB⟩=aC (ν d.m)
 d3:W.cell? ⟨b1,3,aB⟩=aC (ν d.q)
 d4:W.cell? ⟨b1,4,aB⟩=aC (ν d.p)
 s1:W.cell? ⟨bs,1,aB⟩=aC (ν (dW x d.c).b)
 e0:W.cell? ⟨be,0,aB⟩=aC (ν (jC x d.c))
 tab:∀j u,(EO b0 b1 bs be)[j]? =aC u->W.cell? ⟨bt,j,aB⟩=aC u
 h1:b1<W.heap.size
 h2:bs<W.heap.size
 h3:be<W.heap.size
 h4:bt<W.heap.size
theorem KX.below {w w':aJ} {b0 b1 bs be bt:Nat} {x:ak} {d:Bd}(h:KX w b0 b1 bs be bt x d)(hb:aa w.heap.size w w'):KX w' b0 b1 bs be bt x d:=
 ⟨h.cf.below hb,h.ok.below hb,(hb.cell (p:=⟨b1,1,aB⟩) h.h1).trans h.d1,(hb.cell (p:=⟨b1,3,aB⟩) h.h1).trans h.d3,(hb.cell (p:=⟨b1,4,aB⟩) h.h1).trans h.d4,(hb.cell (p:=⟨bs,1,aB⟩) h.h2).trans h.s1,(hb.cell (p:=⟨be,0,aB⟩) h.h3).trans h.e0,λj u hu=>(hb.cell (p:=⟨bt,j,aB⟩) h.h4).trans (h.tab j u hu),cR h.h1 hb.size,cR h.h2 hb.size,cR h.h3 hb.size,cR h.h4 hb.size⟩
section
variable (x:ak) (d:Bd) (b0 b1 bs be bt:Nat) (w:aJ) (h:KX w b0 b1 bs be bt x d)
include h
theorem aCW(hI:aL d.m):aQ aM 149 #[bH (aC ⟨b0,0,aB⟩),bH (aC ⟨b1,0,aB⟩)] w λe w'=>e=aU (bM (GV x d))/\aa w.heap.size w w':=by
 obtain⟨c0,c1,c2,c3,c4,c5,c6,c7,kM⟩:=h.cf;have d1:=h.d1;have HC:=η (PO x d.m w h.ok hI);have hv:GV x d=(jS x d.m !=0):=rfl;rw [hv];unfold ak.val at HC;generalize uS x d.m=p at*;generalize jS x d.m=me at*;go_enter func149,ntmps149
 go_wp2_with (go_at_call 147;refine lu HC.o λw1 aR=> ?_)
 go_ret;exact⟨rfl,aR.o.alloc aR.o.size _⟩
theorem aCX:aQ aM 150 #[bH (aC ⟨be,0,aB⟩)] w λe w'=>e=aU (bM (GX x d))/\aa w.heap.size w w':=by
 have e0:=h.e0;have hv:GX x d=(jC x d.c !=0):=rfl;rw [hv];generalize jC x d.c=se at*;go_enter func150,ntmps150
 go_wp2
 go_ret;exact⟨rfl,aX _ _⟩
theorem aCY:aQ aM 151 #[bH (aC ⟨b1,0,aB⟩)] w λe w'=>e=aU (bM (GY d))/\aa w.heap.size w w':=by
 have d3:=h.d3;have d4:=h.d4;go_enter func151,ntmps151
 go_wp2
 all_goals
  go_ret;refine⟨fP ?_,aX _ _⟩;rw [FN];simp_all [GY]
theorem aCZ:aQ aM 152 #[bH (aC ⟨b1,0,aB⟩)] w λe w'=>e=aU (bM (JU d))/\aa w.heap.size w w':=by
 have d3:=h.d3;go_enter func152,ntmps152
 go_wp2
 go_ret;exact⟨rfl,aX _ _⟩
theorem aCa:aQ aM 153 #[bH (aC ⟨b1,0,aB⟩),bH (aC ⟨bs,0,aB⟩)] w λe w'=>e=aU (bM (GZ x d))/\aa w.heap.size w w':=by
 have d4:=h.d4;have s1:=h.s1;have hv:GZ x d=decide (d.p>(dW x d.c).b):=rfl;rw [hv];generalize (dW x d.c).b=sb at*;go_enter func153,ntmps153
 go_wp2
 go_ret;exact⟨rfl,aX _ _⟩
end
def Bd.ok(d:Bd):Prop:=aL d.s/\aL d.m/\aL d.c/\aL d.q/\aL d.p
theorem a1Q(x:ak)(d:Bd)(w:aJ)(h:lS w x)(hm:aA x.ms<=100000)(hs:aA x.ss<=100000)(hI:d.ok):
 aQ aM 88 #[x.val,d.val] w λe w'=>e=aU (aG aF (nK x d))/\aa w.heap.size w w':=by
 obtain⟨is,im,ic,iq,ip⟩:=hI;have HE:=η (show nK x d=if GV x d=aO then 9 else if GX x d=aO then 10 else if GY d=aO then 1 else if JU d=aO then 2 else if GZ x d=aO then 15 else 0 from rfl);generalize nK x d=ee at*;have hb1:aa w.heap.size w (w.alloc (aK #[aH x.Am (aA x.ms) x.cm,aH x.As (aA x.ss) x.cs,aH x.Ac (aA x.cy) x.cc,aG aF x.line,aG aF x.bu,aG aF x.lead,aG aF x.tr,aG aF x.bY] 26)):=mE w x;have hb2:aa w.heap.size w ((w.alloc (aK #[aH x.Am (aA x.ms) x.cm,aH x.As (aA x.ss) x.cs,aH x.Ac (aA x.cy) x.cc,aG aF x.line,aG aF x.bu,aG aF x.lead,aG aF x.tr,aG aF x.bY] 26)).alloc (aK #[aG aF d.s,aG aF d.m,aG aF d.c,aG aF d.q,aG aF d.p] 41)):=hb1.alloc hb1.size _;have nQ:pL ((w.alloc (aK #[aH x.Am (aA x.ms) x.cm,aH x.As (aA x.ss) x.cs,aH x.Ac (aA x.cy) x.cc,aG aF x.line,aG aF x.bu,aG aF x.lead,aG aF x.tr,aG aF x.bY] 26)).alloc (aK #[aG aF d.s,aG aF d.m,aG aF d.c,aG aF d.q,aG aF d.p] 41)) w.heap.size x:=(zS w x).below σ;have dR:lS ((w.alloc (aK #[aH x.Am (aA x.ms) x.cm,aH x.As (aA x.ss) x.cs,aH x.Ac (aA x.cy) x.cc,aG aF x.line,aG aF x.bu,aG aF x.lead,aG aF x.tr,aG aF x.bY] 26)).alloc (aK #[aG aF d.s,aG aF d.m,aG aF d.c,aG aF d.q,aG aF d.p] 41)) x:=h.below hb2;have hd:∀(j:Nat) (u:aN),(#[aG aF d.s,aG aF d.m,aG aF d.c,aG aF d.q,aG aF d.p]:Array aN)[j]? =aC u->((w.alloc (aK #[aH x.Am (aA x.ms) x.cm,aH x.As (aA x.ss) x.cs,aH x.Ac (aA x.cy) x.cc,aG aF x.line,aG aF x.bu,aG aF x.lead,aG aF x.tr,aG aF x.bY] 26)).alloc (aK #[aG aF d.s,aG aF d.m,aG aF d.c,aG aF d.q,aG aF d.p] 41)).cell? ⟨w.heap.size+1,j,aB⟩=aC u:=by intro j u hu;rw [cM _ _ _ _ (by simp)];exact hu
 have hsz:((w.alloc (aK #[aH x.Am (aA x.ms) x.cm,aH x.As (aA x.ss) x.cs,aH x.Ac (aA x.cy) x.cc,aG aF x.line,aG aF x.bu,aG aF x.lead,aG aF x.tr,aG aF x.bY] 26)).alloc (aK #[aG aF d.s,aG aF d.m,aG aF d.c,aG aF d.q,aG aF d.p] 41)).heap.size=w.heap.size+2:=by simp
 have HB:=η hb2;have tX:=η nQ;have dP:=η dR;have HD:=η hd;obtain⟨c0,c1,c2,c3,c4,c5,c6,c7,kM⟩:=nQ;have e2:=hd 2 _ rfl;unfold ak.val Bd.val at*;go_enter func88,ntmps88
 go_upto_region 1 with (fail)
 generalize hW:((w.alloc (aK #[aH x.Am (aA x.ms) x.cm,aH x.As (aA x.ss) x.cs,aH x.Ac (aA x.cy) x.cc,aG aF x.line,aG aF x.bu,aG aF x.lead,aG aF x.tr,aG aF x.bY] 26)).alloc (aK #[aG aF d.s,aG aF d.m,aG aF d.c,aG aF d.q,aG aF d.p] 41))=W at*;have HS:=η (NS x d.c W dP.o ic);unfold ak.val at HS;go_upto_region 2 with (go_at_call 117;refine HS.o.mono ?_;rintro e w1 ⟨rfl,hb1⟩;have aR:=η hb1)
 have hs1:=hsz;have h1:=aR.o.size;have mF:aa W.heap.size W (w1.alloc (aK #[aG aF (dW x d.c).a,aG aF (dW x d.c).b] 69)):=aR.o.alloc h1 _;have js:aa W.heap.size W ((w1.alloc (aK #[aG aF (dW x d.c).a,aG aF (dW x d.c).b] 69)).alloc (aK #[aG aF (jC x d.c)] 32)):=mF.alloc mF.size _;have gG:aa W.heap.size W (((w1.alloc (aK #[aG aF (dW x d.c).a,aG aF (dW x d.c).b] 69)).alloc (aK #[aG aF (jC x d.c)] 32)).alloc (aK (EO w.heap.size (w.heap.size+1) w1.heap.size (w1.heap.size+1)) 223)):=js.alloc js.size _;have Gx:aa w1.heap.size (w1.alloc (aK #[aG aF (dW x d.c).a,aG aF (dW x d.c).b] 69)) (((w1.alloc (aK #[aG aF (dW x d.c).a,aG aF (dW x d.c).b] 69)).alloc (aK #[aG aF (jC x d.c)] 32)).alloc (aK (EO w.heap.size (w.heap.size+1) w1.heap.size (w1.heap.size+1)) 223)):=((aX _ _).alloc (by simp) _).alloc (by simp;omega) _;have HN:Hid (KX (((w1.alloc (aK #[aG aF (dW x d.c).a,aG aF (dW x d.c).b] 69)).alloc (aK #[aG aF (jC x d.c)] 32)).alloc (aK (EO w.heap.size (w.heap.size+1) w1.heap.size (w1.heap.size+1)) 223)) w.heap.size (w.heap.size+1) w1.heap.size (w1.heap.size+1) (w1.heap.size+1+1) x d):=η ⟨tX.o.below gG,dP.o.below gG,(gG.cell (p:=⟨w.heap.size+1,1,aB⟩) (by simp;omega)).trans (HD.o 1 _ rfl),(gG.cell (p:=⟨w.heap.size+1,3,aB⟩) (by simp;omega)).trans (HD.o 3 _ rfl),(gG.cell (p:=⟨w.heap.size+1,4,aB⟩) (by simp;omega)).trans (HD.o 4 _ rfl),(by
  have q:aa (w1.heap.size+1) (w1.alloc (aK #[aG aF (dW x d.c).a,aG aF (dW x d.c).b] 69)) (((w1.alloc (aK #[aG aF (dW x d.c).a,aG aF (dW x d.c).b] 69)).alloc (aK #[aG aF (jC x d.c)] 32)).alloc (aK (EO w.heap.size (w.heap.size+1) w1.heap.size (w1.heap.size+1)) 223)):=((aX _ _).alloc (by simp) _).alloc (by simp) _;exact(q.cell (p:=⟨w1.heap.size,1,aB⟩) (by simp)).trans (cM _ _ _ 1 rfl)),(by
  have q:aa (w1.heap.size+2) ((w1.alloc (aK #[aG aF (dW x d.c).a,aG aF (dW x d.c).b] 69)).alloc (aK #[aG aF (jC x d.c)] 32)) (((w1.alloc (aK #[aG aF (dW x d.c).a,aG aF (dW x d.c).b] 69)).alloc (aK #[aG aF (jC x d.c)] 32)).alloc (aK (EO w.heap.size (w.heap.size+1) w1.heap.size (w1.heap.size+1)) 223)):=(aX _ _).alloc (by simp) _;exact(q.cell (p:=⟨w1.heap.size+1,0,aB⟩) (by simp)).trans (by rw [cM _ _ _ _ (by simp)];rfl)),(λj u hu=>by rw [cM _ _ _ _ (by simp)];exact hu),by simp;omega,by simp;omega,by simp,by simp⟩
 have cE:Hid (aa w.heap.size w (((w1.alloc (aK #[aG aF (dW x d.c).a,aG aF (dW x d.c).b] 69)).alloc (aK #[aG aF (jC x d.c)] 32)).alloc (aK (EO w.heap.size (w.heap.size+1) w1.heap.size (w1.heap.size+1)) 223))):=HB.o.trans (gG.mono HB.o.size);unfold EO at HN cE;go_wp2_with fail
 generalize ((w1.alloc (aK #[aG aF (dW x d.c).a,aG aF (dW x d.c).b] 69)).alloc (aK #[aG aF (jC x d.c)] 32)).alloc (aK #[aG aF 9,.func (.func 149) #[] #[bH (aC ⟨w.heap.size,0,aB⟩),bH (aC ⟨w.heap.size+1,0,aB⟩)],aG aF 10,.func (.func 150) #[] #[bH (aC ⟨w1.heap.size+1,0,aB⟩)],aG aF 1,.func (.func 151) #[] #[bH (aC ⟨w.heap.size+1,0,aB⟩)],aG aF 2,.func (.func 152) #[] #[bH (aC ⟨w.heap.size+1,0,aB⟩)],aG aF 15,.func (.func 153) #[] #[bH (aC ⟨w.heap.size+1,0,aB⟩),bH (aC ⟨w1.heap.size,0,aB⟩)]] 223)=w2 at HN cE ⊢;have aR:=cE;generalize e10:w.heap.size+1=b1 at HN ⊢;generalize e11:w.heap.size=b0 at HN aR ⊢;generalize e12:w1.heap.size+1=be at HN ⊢;generalize e13:be+1=bt at HN ⊢;generalize e14:w1.heap.size=bs at HN ⊢;refine uY 6 ?_;rw [eA];have t0:w2.cell? ⟨bt,0,aB⟩=aC (aG aF 9):=HN.o.tab 0 _ rfl;have t1:w2.cell? ⟨bt,1,aB⟩=aC (.func (.func 149) #[] #[bH (aC ⟨b0,0,aB⟩),bH (aC ⟨b1,0,aB⟩)]):=HN.o.tab 1 _ rfl;have hlt:=HN.o.h4;have bP:=η (HN.o.below ((aX _ _).alloc (aZ _) (aK #[aG aF 9,.func (.func 149) #[] #[bH (aC ⟨b0,0,aB⟩),bH (aC ⟨b1,0,aB⟩)]] 223)));have hsz:b0<=w2.heap.size:=by rw [<-e11];exact aR.o.size
 go_wp2_with fail
 refine(aCW x d b0 b1 bs be bt _ bP.o im).mono ?_;rintro e w3 ⟨rfl,hb⟩;have fB:Hid (aa b0 w w3):=(aR.o.alloc hsz _).trans (hb.mono (by simp;omega));have ja:=η (bP.o.below hb);have q0:w3.cell? ⟨w2.heap.size,0,aB⟩=aC (aG aF 9):=(hb.cell (p:=⟨w2.heap.size,0,aB⟩) (by simp)).trans (cM _ _ _ 0 rfl);cases gW:GV x d
 case true=>
  have HF:Hid (9=ee):=by show _=_;rw [HE.o];simp [gW]
  go_wp2_with fail
  go_ret;exact⟨cY HF.o,by rw [e11];exact fB.o⟩
 have HN:=ja;have aR:=fB;go_wp2_with fail
 rw [eA];have t0:w3.cell? ⟨bt,2,aB⟩=aC (aG aF 10):=HN.o.tab 2 _ rfl;have t1:w3.cell? ⟨bt,3,aB⟩=aC (.func (.func 150) #[] #[bH (aC ⟨be,0,aB⟩)]):=HN.o.tab 3 _ rfl;have hlt:=HN.o.h4;have bP:=η (HN.o.below ((aX _ _).alloc (aZ _) (aK #[aG aF 10,.func (.func 150) #[] #[bH (aC ⟨be,0,aB⟩)]] 223)));have hsz:b0<=w3.heap.size:=by rw [<-e11];exact aR.o.size
 go_wp2_with fail
 refine(aCX x d b0 b1 bs be bt _ bP.o).mono ?_;rintro e w4 ⟨rfl,hb⟩;have fB:Hid (aa b0 w w4):=(aR.o.alloc hsz _).trans (hb.mono (by simp;omega));have ja:=η (bP.o.below hb);have q0:w4.cell? ⟨w3.heap.size,0,aB⟩=aC (aG aF 10):=(hb.cell (p:=⟨w3.heap.size,0,aB⟩) (by simp)).trans (cM _ _ _ 0 rfl);cases mK:GX x d
 case true=>
  have HF:Hid (10=ee):=by show _=_;rw [HE.o];simp [gW,mK]
  go_wp2_with fail
  go_ret;exact⟨cY HF.o,by rw [e11];exact fB.o⟩
 have HN:=ja;have aR:=fB;go_wp2_with fail
 rw [eA];have t0:w4.cell? ⟨bt,4,aB⟩=aC (aG aF 1):=HN.o.tab 4 _ rfl;have t1:w4.cell? ⟨bt,5,aB⟩=aC (.func (.func 151) #[] #[bH (aC ⟨b1,0,aB⟩)]):=HN.o.tab 5 _ rfl;have hlt:=HN.o.h4;have bP:=η (HN.o.below ((aX _ _).alloc (aZ _) (aK #[aG aF 1,.func (.func 151) #[] #[bH (aC ⟨b1,0,aB⟩)]] 223)));have hsz:b0<=w4.heap.size:=by rw [<-e11];exact aR.o.size
 go_wp2_with fail
 refine(aCY x d b0 b1 bs be bt _ bP.o).mono ?_;rintro e w5 ⟨rfl,hb⟩;have fB:Hid (aa b0 w w5):=(aR.o.alloc hsz _).trans (hb.mono (by simp;omega));have ja:=η (bP.o.below hb);have q0:w5.cell? ⟨w4.heap.size,0,aB⟩=aC (aG aF 1):=(hb.cell (p:=⟨w4.heap.size,0,aB⟩) (by simp)).trans (cM _ _ _ 0 rfl);cases nV:GY d
 case true=>
  have HF:Hid (1=ee):=by show _=_;rw [HE.o];simp [gW,mK,nV]
  go_wp2_with fail
  go_ret;exact⟨cY HF.o,by rw [e11];exact fB.o⟩
 have HN:=ja;have aR:=fB;go_wp2_with fail
 rw [eA];have t0:w5.cell? ⟨bt,6,aB⟩=aC (aG aF 2):=HN.o.tab 6 _ rfl;have t1:w5.cell? ⟨bt,7,aB⟩=aC (.func (.func 152) #[] #[bH (aC ⟨b1,0,aB⟩)]):=HN.o.tab 7 _ rfl;have hlt:=HN.o.h4;have bP:=η (HN.o.below ((aX _ _).alloc (aZ _) (aK #[aG aF 2,.func (.func 152) #[] #[bH (aC ⟨b1,0,aB⟩)]] 223)));have hsz:b0<=w5.heap.size:=by rw [<-e11];exact aR.o.size
 go_wp2_with fail
 refine(aCZ x d b0 b1 bs be bt _ bP.o).mono ?_;rintro e w6 ⟨rfl,hb⟩;have fB:Hid (aa b0 w w6):=(aR.o.alloc hsz _).trans (hb.mono (by simp;omega));have ja:=η (bP.o.below hb);have q0:w6.cell? ⟨w5.heap.size,0,aB⟩=aC (aG aF 2):=(hb.cell (p:=⟨w5.heap.size,0,aB⟩) (by simp)).trans (cM _ _ _ 0 rfl);cases uO:JU d
 case true=>
  have HF:Hid (2=ee):=by show _=_;rw [HE.o];simp [gW,mK,nV,uO]
  go_wp2_with fail
  go_ret;exact⟨cY HF.o,by rw [e11];exact fB.o⟩
 have HN:=ja;have aR:=fB;go_wp2_with fail
 rw [eA];have t0:w6.cell? ⟨bt,8,aB⟩=aC (aG aF 15):=HN.o.tab 8 _ rfl;have t1:w6.cell? ⟨bt,9,aB⟩=aC (.func (.func 153) #[] #[bH (aC ⟨b1,0,aB⟩),bH (aC ⟨bs,0,aB⟩)]):=HN.o.tab 9 _ rfl;have hlt:=HN.o.h4;have bP:=η (HN.o.below ((aX _ _).alloc (aZ _) (aK #[aG aF 15,.func (.func 153) #[] #[bH (aC ⟨b1,0,aB⟩),bH (aC ⟨bs,0,aB⟩)]] 223)));have hsz:b0<=w6.heap.size:=by rw [<-e11];exact aR.o.size
 go_wp2_with fail
 refine(aCa x d b0 b1 bs be bt _ bP.o).mono ?_;rintro e w7 ⟨rfl,hb⟩;have fB:Hid (aa b0 w w7):=(aR.o.alloc hsz _).trans (hb.mono (by simp;omega));have ja:=η (bP.o.below hb);have q0:w7.cell? ⟨w6.heap.size,0,aB⟩=aC (aG aF 15):=(hb.cell (p:=⟨w6.heap.size,0,aB⟩) (by simp)).trans (cM _ _ _ 0 rfl);cases xJ:GZ x d
 case true=>
  have HF:Hid (15=ee):=by show _=_;rw [HE.o];simp [gW,mK,nV,uO,xJ]
  go_wp2_with fail
  go_ret;exact⟨cY HF.o,by rw [e11];exact fB.o⟩
 have HN:=ja;have aR:=fB;go_wp2_with fail
 rw [eA];have HF:Hid (0=ee):=by show _=_;rw [HE.o];simp [gW,mK,nV,uO,xJ]
 go_wp2_with fail
 go_ret;exact⟨cY HF.o,by rw [e11];exact aR.o⟩
end
def a9m(x:ak)(w:aJ)(e:di)(w':aJ):Prop:=
 β w w'/\((zT x≠0/\e=aU (bB #[bH aB,ν (zT x)]))\/(zT x=0/\∃nb Am cm As cs Ac cc,e=aU (bB #[π nb,ν 0])/\jY w' nb ({x with Am:=Am,cm:=cm,As:=As,cs:=cs,Ac:=Ac,cc:=cc}:ak) (aH aB 0 0) []/\vw w' w.heap.size ({x with Am:=Am,cm:=cm,As:=As,cs:=cs,Ac:=Ac,cc:=cc}:ak)/\w.heap.size<=nb))
theorem aLZ(x:ak)(w:aJ)(h:uZ w x)(hm:aA x.ms<=100000)(hs:aA x.ss<=100000)(hc:aA x.cy<=100000):
 aQ aM 30 #[x.val] w (a9m x w):=by
 have aY:=η (mE w x);have HK:=η (aDt x (w.alloc (aK #[aH x.Am (aA x.ms) x.cm,aH x.As (aA x.ss) x.cs,aH x.Ac (aA x.cy) x.cc,ν x.line,ν x.bu,ν x.lead,ν x.tr,ν x.bY] 26)) (h.ok.below (mE w x)) hm hs hc);have tX:=η (zS w x);have Kf:=η (λW hW=>a1q x W (h.below hW) hm hs hc);unfold ak.val at*;go_enter func30,ntmps30
 obtain⟨c0,c1,c2,c3,c4,c5,c6,c7,kM⟩:=tX.o;go_upto_region 2 with (go_at_call 78;refine lu HK.o λw1 aR=> ?_)
 have jF:=η (aY.o.trans (aR.o.mono aY.o.size));have wB:=η (tX.o.below aR.o);obtain⟨c0,c1,c2,c3,c4,c5,c6,c7,kM⟩:=wB.o;by_cases hk:zT x=0
 ·rw [hk];have HP:=η (Kf.o w1 jF.o);go_wp2_with (go_at_call 32;refine HP.o.mono ?_;rintro e w2 ⟨Am,cm,As,cs,Ac,cc,rfl,fN,hb2⟩;have dB:=η fN;have aV:=η hb2)
  go_ret2;refine⟨(jF.o.trans (aV.o.mono jF.o.size)).alloc (cC jF.o.size aV.o.size) _,aT ⟨hk,w2.heap.size,Am,cm,As,cs,Ac,cc,rfl,⟨cT w2 _,gC _ _ _ _⟩, ?_,cC jF.o.size aV.o.size⟩⟩;have q:=dB.o.below ((aX _ _).alloc (aZ _) (aK #[aH Am (aA x.ms) cm,aH As (aA x.ss) cs,aH Ac (aA x.cy) cc,ν x.line,ν x.bu,ν x.lead,ν x.tr,ν x.bY,aH aB 0 0] 134));exact⟨jT q.m jF.o.size,jT q.s jF.o.size,jT q.c jF.o.size⟩
 have hkb:(zT x==0)=aP:=by simpa using hk
 have Ss:=η hk;go_wp2
 go_ret2;exact⟨jF.o,aS ⟨Ss.o,rfl⟩⟩
def wT(x:ak)(L:List Bd)(d:Bd):Int:=if nK x d≠0 then nK x d else if x.bY<=(aA L) then 6 else 0
theorem Ua(L:List Bd)(x:Bd):ny (L++ [x])=ny L++x.cells:=by simp [ny]
theorem Ub(x:Bd):∀u∈x.cells,u.oneCell'=aO:=by intro u hu;simp [Bd.cells] at hu;rcases hu with rfl|rfl|rfl|rfl|rfl<;>rfl
def SF(xb:Nat)(x:ak)(v:aN)(L:List Bd)(d:Bd)(w:aJ)(e:di)(w':aJ):Prop:=
 (wT x L d≠0/\e=aU (bB #[ν 0,ν (wT x L d)])/\β w w')\/(wT x L d=0/\∃v',e=aU (bB #[ν ((aA L:Int)+1),ν 0])/\jY w' xb x v' (L++ [{d with s:=(aA L:Int)+1}])/\bC (λk=>k=xb\/v.ownBlock=aC k) w w'/\∀k,v'.ownBlock=aC k->v.ownBlock=aC k\/w.heap.size<=k)
theorem aLW(x:ak)(v:aN)(L:List Bd)(d:Bd)(xb:Nat)(w:aJ)(h:jY w xb x v L)(hk:lS w x)(hm:aA x.ms<=100000)(hs:aA x.ss<=100000)(hI:d.ok)(hl:aA L<=99999)(hb:aL x.bY):
 aQ aM 90 #[π xb,d.val] w (SF xb x v L d w):=by
 obtain⟨ds,dm,dc,dq,dp⟩:=d;have HE:Hid (wT x L ⟨ds,dm,dc,dq,dp⟩=if nK x ⟨ds,dm,dc,dq,dp⟩≠0 then nK x ⟨ds,dm,dc,dq,dp⟩ else if x.bY<=(aA L) then 6 else 0):=η rfl;have aY:Hid (β w (w.alloc (aK #[ν ds,ν dm,ν dc,ν dq,ν dp] 41))):=η σ;have HT:=η (h.below aY.o);have pN:=η (λW hW=>a1Q x ⟨ds,dm,dc,dq,dp⟩ W (hk.below hW) hm hs hI);have hz0:w.heap.size<(w.alloc (aK #[ν ds,ν dm,ν dc,ν dq,ν dp] 41)).heap.size:=by simp
 have HX:Hid ((w.alloc (aK #[ν ds,ν dm,ν dc,ν dq,ν dp] 41)).heap[w.heap.size]? =aC (aK #[ν ds,ν dm,ν dc,ν dq,ν dp] 41 (0,0))):=η (cT w _);have F2:=h.lt;have wN:Hid (∀k,v.ownBlock=aC k->k<w.heap.size):=η (λk hk=>(h.own.lt k hk).2);clear h hk hI hb;unfold ak.val Bd.val at*;unfold SF;generalize wT x L ⟨ds,dm,dc,dq,dp⟩=ae at HE ⊢;generalize nK x ⟨ds,dm,dc,dq,dp⟩=be at HE pN ⊢;go_enter func90,ntmps90
 go_upto_region 3 with (fail)
 generalize w.alloc (aK #[ν ds,ν dm,ν dc,ν dq,ν dp] 41)=w1 at*;obtain⟨bx,bQ⟩:∃bx,bx=w.heap.size:=⟨_,rfl⟩;have dN:=η bQ;rw [<-bQ] at HX hz0 ⊢;have htx:xb<bx:=by omega
 clear bQ;have bW:Hid (∀W,β w1 W->W.cell? ⟨xb,0,aB⟩=aC (aH x.Am (aA x.ms) x.cm)/\W.cell? ⟨xb,1,aB⟩=aC (aH x.As (aA x.ss) x.cs)/\W.cell? ⟨xb,2,aB⟩=aC (aH x.Ac (aA x.cy) x.cc)/\W.cell? ⟨xb,3,aB⟩=aC (ν x.line)/\W.cell? ⟨xb,4,aB⟩=aC (ν x.bu)/\W.cell? ⟨xb,5,aB⟩=aC (ν x.lead)/\W.cell? ⟨xb,6,aB⟩=aC (ν x.tr)/\W.cell? ⟨xb,7,aB⟩=aC (ν x.bY)/\W.cell? ⟨bx,0,aB⟩=aC (ν ds)/\W.cell? ⟨bx,1,aB⟩=aC (ν dm)/\W.cell? ⟨bx,2,aB⟩=aC (ν dc)/\W.cell? ⟨bx,3,aB⟩=aC (ν dq)/\W.cell? ⟨bx,4,aB⟩=aC (ν dp)):=η (by intro W hW;have hb:=(HT.o.below hW).blk;have hd:W.heap[bx]? =aC (aK #[ν ds,ν dm,ν dc,ν dq,ν dp] 41 (0,0)):=(hW.block bx hz0).trans HX.o;exact⟨ρ hb,ρ hb,ρ hb,ρ hb,ρ hb,ρ hb,ρ hb,ρ hb,ρ hd,ρ hd,ρ hd,ρ hd,ρ hd⟩);have eJ:Hid (∀W,β w1 W->β w W):=η (λW hW=>aY.o.trans (hW.mono aY.o.size));have bU:β w1 w1.drew:=(aX _ _).drew;go_region_held3 (λW=>W.cell? ⟨xb,0,aB⟩=aC (aH x.Am (aA x.ms) x.cm)/\W.cell? ⟨xb,1,aB⟩=aC (aH x.As (aA x.ss) x.cs)/\W.cell? ⟨xb,2,aB⟩=aC (aH x.Ac (aA x.cy) x.cc)/\W.cell? ⟨xb,3,aB⟩=aC (ν x.line)/\W.cell? ⟨xb,4,aB⟩=aC (ν x.bu)/\W.cell? ⟨xb,5,aB⟩=aC (ν x.lead)/\W.cell? ⟨xb,6,aB⟩=aC (ν x.tr)/\W.cell? ⟨xb,7,aB⟩=aC (ν x.bY)/\W.cell? ⟨bx,0,aB⟩=aC (ν ds)/\W.cell? ⟨bx,1,aB⟩=aC (ν dm)/\W.cell? ⟨bx,2,aB⟩=aC (ν dc)/\W.cell? ⟨bx,3,aB⟩=aC (ν dq)/\W.cell? ⟨bx,4,aB⟩=aC (ν dp)) (first|(with_reducible exact bW.o _ bU)|(with_reducible exact bW.o _ hb2)|(with_reducible exact bW.o _ hb3)) ((go_at_call 88;refine(pN.o _ (eJ.o _ bU)).mono ?_;rintro e w2 ⟨rfl,BQ⟩;have hb2:β w1 w2:=bU.trans (BQ.mono bU.size)))
 have aV:=η hb2;clear BQ bU;have qK:=η (HT.o.below aV.o);have kJ:Hid (w2.heap[bx]? =aC (aK #[ν ds,ν dm,ν dc,ν dq,ν dp] 41 (0,0))):=η ((aV.o.block bx hz0).trans HX.o);have hz2:bx<w2.heap.size:=cR hz0 aV.o.size;have cE:=η (eJ.o _ aV.o);clear HT HX aV eJ bW aY pN hz0;by_cases h1:be=0
 case neg=>
  have lO:(be==0)=aP:=by simpa using h1
  have e1:ae=be:=by rw [HE.o,ifP h1]
  have HN:Hid (ae≠0):=η (by rw [e1];exact h1);rw [<-e1] at lO ⊢;clear HE e1 h1;go_wp2_with fail
  go_ret2;exact aS ⟨HN.o,rfl,cE.o⟩
 subst h1;obtain⟨A,c,hv⟩:=bJ qK.o.own;subst hv;have c8:=qK.o.c8;go_upto_region 6 with (fail)
 go_quiet (fail)
 have Dn:Hid (β w (w2.drewN nq)):=η (below_drewN cE.o nq);have OJ:Hid (jY (w2.drewN nq) xb x (aH A (aA L) c) L):=η ⟨qK.o.blk,qK.o.own⟩;have OP:Hid ((w2.drewN nq).heap[bx]? =aC (aK #[ν ds,ν dm,ν dc,ν dq,ν dp] 41 (0,0))):=η kJ.o;have hzq:bx<(w2.drewN nq).heap.size:=hz2;clear cE qK kJ hz2 c8;generalize w2.drewN nq=w3 at*;by_cases h2:x.bY<=aA L
 ·have zh:decide (x.bY<=(aA L:Int))=aO:=decide_eq_true h2;have e1:ae=6:=by rw [HE.o,ifN (by simp),ifP h2]
  have HN:Hid (ae≠0):=η (by rw [e1];decide);have xY:=η e1;clear HE e1;go_wp2_with fail
  go_ret2;exact aS ⟨HN.o,by rw [xY.o];rfl,Dn.o⟩
 have HZ:Hid (ae=0):=η (by rw [HE.o,ifN (by simp),ifN h2]);have h3:(aA L:Int)<x.bY:=by omega
 clear HE h2;have c8:=OJ.o.c8;have q0:w3.frozen? ⟨bx,0,aB⟩=aP:=by simp [iU,OP.o]
 have q1:=r1c OP;go_upto_region 9 with (fail)
 have OC:Hid (bx≠xb):=η (by omega);have J0:Hid ((aH A (aA L) c).ownBlock≠aC bx):=η (λe=>by have:=wN.o bx e;rw [dN.o] at this;omega);have rB:Hid (jY (w3.setCell ⟨bx,0,aB⟩ (ν ((aA L:Int)+1))) xb x (aH A (aA L) c) L):=η ⟨(nB _ _ _ _ (λe=>OC.o e.symm)).trans OJ.o.blk,jz OJ.o.own J0.o _⟩;have oY:Hid ((w3.setCell ⟨bx,0,aB⟩ (ν ((aA L:Int)+1))).heap[bx]? =aC (aK #[ν ((aA L:Int)+1),ν dm,ν dc,ν dq,ν dp] 41 (0,0))):=η ((om OP.o 0 _).trans rfl);have Fh:Hid (bC (λk=>k=xb\/(aH A (aA L) c).ownBlock=aC k) w (w3.setCell ⟨bx,0,aB⟩ (ν ((aA L:Int)+1)))):=η ((bC.bV _ Dn.o).setCell (p:=⟨bx,0,aB⟩) (aT (Nat.le_of_eq dN.o.symm)) _);have mM:bx<(w3.setCell ⟨bx,0,aB⟩ (ν ((aA L:Int)+1))).heap.size:=by simpa using hzq
 have hzz:w.heap.size<=(w3.setCell ⟨bx,0,aB⟩ (ν ((aA L:Int)+1))).heap.size:=Fh.o.size;generalize w3.setCell ⟨bx,0,aB⟩ (ν ((aA L:Int)+1))=w4 at*;clear OJ OP Dn c8 q0 q1 hzq;have d0:w4.drew.cell? ⟨xb,8,aB⟩=aC (aH A (aA L) c):=rB.o.c8;obtain⟨d1,d2,d3,d4,d5⟩:=r5c oY;have CW:Hid (jY w4.drew xb x (aH A (aA L) c) L):=η ⟨rB.o.blk,rB.o.own⟩;have J9:Hid (bC (λk=>k=xb\/(aH A (aA L) c).ownBlock=aC k) w w4.drew):=η Fh.o.drew;have a3w:xb<w4.drew.heap.size:=rB.o.lt;have MO:bx<w4.drew.heap.size:=mM;have th:Hid (aC xb≠(aH A (aA L) c).ownBlock):=η (λe=>rB.o.ne e.symm);have bP:Hid (aC bx≠(aH A (aA L) c).ownBlock):=η (λe=>J0.o e.symm);obtain⟨r,hr⟩:∃r,r=(aH A (aA L) c).ownBlock:=⟨_,rfl⟩;rw [<-hr] at th bP;have HR:=η hr;clear hr rB oY Fh J0;refine IQ (S:=λW=>W.cell? ⟨xb,8,aB⟩=aC (aH A (aA L) c)/\W.cell? ⟨bx,0,aB⟩=aC (ν ((aA L:Int)+1))/\W.cell? ⟨bx,1,aB⟩=aC (ν dm)/\W.cell? ⟨bx,2,aB⟩=aC (ν dc)/\W.cell? ⟨bx,3,aB⟩=aC (ν dq)/\W.cell? ⟨bx,4,aB⟩=aC (ν dp)) 10 (by kernel_rfl) ⟨d0,d1,d2,d3,d4,d5⟩ (λhHeld=> ?_);have bW:Hid (∀W,w4.drew.grownBy W r->W.cell? ⟨xb,8,aB⟩=aC (aH A (aA L) c)/\W.cell? ⟨bx,0,aB⟩=aC (ν ((aA L:Int)+1))/\W.cell? ⟨bx,1,aB⟩=aC (ν dm)/\W.cell? ⟨bx,2,aB⟩=aC (ν dc)/\W.cell? ⟨bx,3,aB⟩=aC (ν dq)/\W.cell? ⟨bx,4,aB⟩=aC (ν dp)):=η λW hg=>⟨(hg.cell_far ⟨xb,8,aB⟩ a3w th.o).trans d0,(hg.cell_far ⟨bx,0,aB⟩ MO bP.o).trans d1,(hg.cell_far ⟨bx,1,aB⟩ MO bP.o).trans d2,(hg.cell_far ⟨bx,2,aB⟩ MO bP.o).trans d3,(hg.cell_far ⟨bx,3,aB⟩ MO bP.o).trans d4,(hg.cell_far ⟨bx,4,aB⟩ MO bP.o).trans d5⟩
 clear d0 d1 d2 d3 d4 d5;have aGW:w.heap.size<=w4.drew.heap.size:=hzz;clear hzz mM;generalize w4.drew=w5 at*;have Aa:Hid (w5.grownBy w5 r):=η (Gp (aX _ _) r);obtain⟨ib,hib,Qi,Qj,Qk⟩:=dK Wm;refine eB (i:=0) (v:=π xb) rfl (by kernel_rfl) (by kernel_rfl) (by kernel_rfl) (by kernel_rfl) (by kernel_rfl) (λ_ _ _ h=>h) (aS ⟨by rfl,λw' hSw=>by obtain⟨s0,s1,s2,s3,s4,s5⟩:=hSw;go_simp⟩) hHeld ?_;refine eB (i:=1) (v:=π xb) rfl (by kernel_rfl) (by kernel_rfl) (by kernel_rfl) (by kernel_rfl) (by kernel_rfl) (λ_ _ _ h=>h) (aS ⟨by rfl,λw' hSw=>by obtain⟨s0,s1,s2,s3,s4,s5⟩:=hSw;go_simp⟩) hHeld ?_;refine eB (i:=2) (v:=π xb) rfl (by kernel_rfl) (by kernel_rfl) (by kernel_rfl) (by kernel_rfl) (by kernel_rfl) (λ_ _ _ h=>h) (aS ⟨by rfl,λw' hSw=>by obtain⟨s0,s1,s2,s3,s4,s5⟩:=hSw;go_simp⟩) hHeld ?_;refine eB (i:=3) (v:=bH (aC ⟨xb,8,aB⟩)) rfl (by kernel_rfl) (by kernel_rfl) (by kernel_rfl) (by kernel_rfl) (by kernel_rfl) (λ_ _ _ h=>h) (aS ⟨by rfl,λw' hSw=>by obtain⟨s0,s1,s2,s3,s4,s5⟩:=hSw;go_simp⟩) hHeld ?_;refine eB (i:=4) (v:=aH A (aA L) c) rfl (by kernel_rfl) (by kernel_rfl) (by kernel_rfl) (by kernel_rfl) (by kernel_rfl) (λ_ _ _ h=>h) (aS ⟨by rfl,λw' hSw=>by obtain⟨s0,s1,s2,s3,s4,s5⟩:=hSw;go_simp⟩) hHeld ?_;refine eB (i:=5) (v:=bO #[ν ((aA L:Int)+1),ν dm,ν dc,ν dq,ν dp]) rfl (by kernel_rfl) (by kernel_rfl) (by kernel_rfl) (by kernel_rfl) (by kernel_rfl) (λ_ _ _ h=>h) (aS ⟨by rfl,λw' hSw=>by obtain⟨s0,s1,s2,s3,s4,s5⟩:=hSw;go_simp⟩) hHeld ?_;clear hHeld;refine nj (rs:= [6]) (by kernel_rfl) (by simp) ?_;refine eX.cons rfl (λK hK=> ?_) eX.nil;go_simp
 have Ad:Hid (w5.grownBy (w5.alloc (aK #[ν ((aA L:Int)+1),ν dm,ν dc,ν dq,ν dp] 41)) r):=η (Po Aa.o _);have lV:=η (CW.o.own.alloc (aK #[ν ((aA L:Int)+1),ν dm,ν dc,ν dq,ν dp] 41));have wH:Hid (∀j u,([ν ((aA L:Int)+1),ν dm,ν dc,ν dq,ν dp]:List aN)[j]? =aC u->(w5.alloc (aK #[ν ((aA L:Int)+1),ν dm,ν dc,ν dq,ν dp] 41)).cell? ((⟨w5.heap.size,0,aB⟩:ai).add j)=aC u):=η (dM w5 41 #[ν ((aA L:Int)+1),ν dm,ν dc,ν dq,ν dp] rfl);refine hK.o _ _ (λ_=>bW.o _ Ad.o) (λ_=> ?_);clear hK K;generalize (w5.alloc (aK #[ν ((aA L:Int)+1),ν dm,ν dc,ν dq,ν dp] 41))=w6 at*;refine nj (rs:= [7]) (by kernel_rfl) (by simp) ?_;refine eX.cons rfl (λK hK=> ?_) eX.nil;refine AL _ rfl (.tmp 40) (.tmp 42) 132 rfl 0 41 ib _ 5 40 Oy hib Qi Qj Qk rfl (by decide) _ (aA L) (ny L) rfl lV.o ⟨w5.heap.size,0,aB⟩ 1 1 [ν ((aA L:Int)+1),ν dm,ν dc,ν dq,ν dp] rfl rfl wH.o (Ub ⟨(aA L:Int)+1,dm,dc,dq,dp⟩) (by decide) (by simp only [bK];omega) (by omega) (bL _) w6.heap.size rfl ?_;intro g cap w7 hown hgr hat _;have iz:Hid (w5.grownBy w7 r):=η (EU Ad.o hgr (aS HR.o.symm));have pQ:=η hown;have Ya:Hid ((aH A (aA L) c).ownBlock=aC g\/w5.heap.size<=g):=η (hat.imp id (λe=>by rw [e];exact Ad.o.size));clear hown hgr hat;refine hK.o _ _ (λ_=>bW.o _ iz.o) (λ_=> ?_);clear hK K;refine eB (i:=8) (v:=π xb) rfl (by kernel_rfl) (by kernel_rfl) (by kernel_rfl) (by kernel_rfl) (by kernel_rfl) (λ_ _ _ h=>h) (aS ⟨by rfl,λw' hSw=>by obtain⟨s0,s1,s2,s3,s4,s5⟩:=hSw;go_simp⟩) (bW.o _ iz.o) ?_;refine eB (i:=9) (v:=bH (aC ⟨xb,8,aB⟩)) rfl (by kernel_rfl) (by kernel_rfl) (by kernel_rfl) (by kernel_rfl) (by kernel_rfl) (λ_ _ _ h=>h) (aS ⟨by rfl,λw' hSw=>by obtain⟨s0,s1,s2,s3,s4,s5⟩:=hSw;go_simp⟩) (bW.o _ iz.o) ?_;refine nj (rs:= [10]) (by kernel_rfl) (by simp) ?_;refine eX.cons rfl (λK hK=> ?_) eX.nil;have c1:=(bW.o _ iz.o).1;have gD:=(iz.o.block xb a3w th.o).trans CW.o.blk;have hf7:w7.frozen? ⟨xb,8,aB⟩=aP:=by simp [iU,gD]
 have ew:=η gD;clear gD;go_simp
 refine hK.o _ _ (λh=>absurd rfl h) (λ_=> ?_);clear hK K;refine IP (by kernel_rfl) ?_ _;have Ha:g≠xb:=by
  rintro rfl;rcases Ya.o with e|e
  ·exact th.o (by rw [HR.o,e])
  omega
 have s0:(w7.setCell ⟨xb,8,aB⟩ (aH (aC ⟨g,0,aB⟩) (aA L+1) cap)).cell? ⟨bx,0,aB⟩=aC (ν ((aA L:Int)+1)):=by have:=(bW.o _ iz.o).2.1;exact(gg (a:=⟨bx,0,aB⟩) (nB _ _ _ _ OC.o)).trans this
 go_wp2_with fail
 go_ret2;refine aT ⟨HZ.o,aH (aC ⟨g,0,aB⟩) (aA L+1) cap,rfl,⟨(om ew.o 8 _).trans rfl, ?_⟩, ?_, ?_⟩
 ·rw [cL,Ua];exact jz pQ.o (λe=>Ha (by simpa [dx] using e)) _
 ·have h2:bC (λk=>k=xb\/(aH A (aA L) c).ownBlock=aC k) w5 w7:=bC.I4 iz.o (λk hk=>aS (aT (by rw [<-HR.o];exact hk)));exact(J9.o.trans h2 (λk hk=>aS hk)).setCell (p:=⟨xb,8,aB⟩) (aS (aS rfl)) _
 intro k hk;have e:k=g:=by simpa [dx] using hk.symm
 subst e;rcases Ya.o with e|e
 ·exact aS e
 exact aT (cC aGW e)
def bk(d:Bd):Int×Int:=(d.p,d.s)
def q9(L:List Bd)(s:Int):List Bd:=L.filter λd=>decide (d.c=s)
theorem aJn {L:List Bd} {k:Nat}(h:k<aA L)(s:Int):q9 (L.take (k+1)) s=q9 (L.take k) s++(if L[k].c=s then [L[k]] else []):=by
 rw [fF h];unfold q9;rw [List.filter_append];by_cases e:L[k].c=s
 ·rw [ifP e];simp [e]
 rw [ifN e];simp [e]
theorem a6b(L:List Bd)(s:Int):aA (q9 L s)<=aA L:=qN _ _
structure Dj(B:Nat)(sv kv:aN)(gs:List Nat)(done:List Bd)(W:aJ):Prop where
 s:W.ownsRow B 41 5 sv (aA done) (ny done)
 k:W.ownsRow B 53 1 kv (aA done) (gs.map k2)
 len:aA gs=aA done
 g:∀j (hj:j<aA gs) (hd:j<aA done),W.heap[gs[j]]? =aC (aK #[ν done[j].p,ν done[j].s] 2 (0,0))
theorem Dj.below {B:Nat} {sv kv:aN} {gs:List Nat} {done:List Bd} {W W':aJ}(h:Dj B sv kv gs done W)(hb:aa W.heap.size W W'):Dj B sv kv gs done W':=
 ⟨iI h.s hb,iI h.k hb,h.len,λj hj hd=>(hb.block _ (fY.1 (h.g j hj hd)).1).trans (h.g j hj hd)⟩
theorem Dj.key {B:Nat} {sv:aN} {A:Option ai} {c:Nat} {gs:List Nat} {done:List Bd} {W:aJ}(h:Dj B sv (aH A (aA done) c) gs done W):CZ W W.heap.size A (done.map bk):=λj hj=>by rw [iK] at hj;obtain⟨b,o,e,hb,hc⟩:=(aW.cA h.k).at (k:=j) (by rw [iK,h.len];exact hj);have hg:=h.g j (by rw [h.len];exact hj) hj;rw [wQ] at hc;rw [wQ];exact⟨b,o,gs[j]'(by rw [h.len];exact hj),2,e,hb,hc,(fY.1 hg).1,ρ hg,ρ hg⟩
def a8O(L:List Bd)(s:Int)(w:aJ)(e:di)(w':aJ):Prop:=
 ∃v is,e=aU v/\JD ((q9 L s).map bk) is/\w'.ownsRow w.heap.size 41 5 v (aA is) (ny (is.map λi=>(q9 L s).getD i ⟨0,0,0,0,0⟩))/\β w w'
theorem aLa(x:ak)(v:aN)(L:List Bd)(s:Int)(xb:Nat)(w:aJ)(h:jY w xb x v L)(hl:aA L<=100000)(hI:∀d∈L,aL d.s):
 aQ aM 134 #[π xb,ν s] w (a8O L s w):=by
 have AV:=η (aLX x v L xb w h hl);have HI:=η hI;obtain⟨ib,a3j,Qi,Qj,Qk⟩:=dK Wm;obtain⟨i2,pj,We,Wf,Wh⟩:=dK a6l;go_enter func134,ntmps134
 go_wp2_with (go_at_call 193;refine AV.o.mono ?_;unfold nC;rintro e w1 ⟨v1,rfl,eR,hb1⟩;have cF:=η eR;have aR:=η hb1;obtain⟨A1,c1,zv⟩:=bJ eR;subst zv)
 have cW:=η (aW.cA cF.o);have a8o:Hid (Dj w1.heap.size (aH aB 0 0) (aH aB 0 0) [] (q9 (L.take 0) s) w1):=η ⟨gC _ _ _ _,gC _ _ _ _,rfl,λj hj=>by simp at hj⟩;have aY:Hid (β w1 w1):=η (aX _ _);go_loopw [5,7,9,15] (λsv kv _ i wr=>∃(k:Nat) (gs:List Nat),k<=aA L/\i=ν (k:Int)/\Hid (Dj w1.heap.size sv kv gs (q9 (L.take k) s) wr)/\Hid (β w1 wr)) (λ_ _ _ i _=>aA L-(ag i).toNat)
 case atStart=>exact⟨0,[],bL _,rfl,a8o,aY⟩
 case round=>
  obtain⟨k,gs,hk,rfl,lJ,HB⟩:=hrel;obtain⟨As,cs,Mm⟩:=bJ lJ.o.s;obtain⟨Ak,ck,Vv⟩:=bJ lJ.o.k;subst Mm Vv;by_cases hlt:k<aA L
  ·have cG:=η (aJn hlt s);have jf:=cC (a6b (L.take k) s) (List.length_take_le _ _);obtain⟨be,oe,hA,lO,e0,e1,e2,e3,e4⟩:=PF (((cW.o).below HB.o).mono HB.o.size) hlt;have eV:(0:Int)<=(k:Int):=by omega
   have hkb:(k:Int)<(aA L:Int):=by omega
   subst hA;have HXV:Hid (L[k]=L[k]):=η rfl;generalize hd:L[k]=d at cG e0 e1 e2 e3 e4 HXV;generalize q9 (L.take k) s=done at*;obtain⟨a2M,hd9⟩:∃q,q=q9 (L.take (k+1)) s:=⟨_,rfl⟩;have ud:=η hd9;rw [<-hd9] at cG;obtain⟨ds,dm,dc,dq,dp⟩:=d;simp only at e0 e1 e2 e3 e4;by_cases hc:dc=s
   ·subst hc;have qX:a2M=done++ [⟨ds,dm,dc,dq,dp⟩]:=by rw [cG.o,ifP rfl]
    subst qX;have WZ:w1.heap.size<=wr.heap.size:=HB.o.size;have lC:=η (((aX wr.heap.size wr).alloc (aZ _) (aK #[ν ds,ν dm,ν dc,ν dq,ν dp] 41)).alloc (by simp) (aK #[ν ds,ν dm,ν dc,ν dq,ν dp] 41));have oQ:=η (lJ.o.below lC.o);have dC:Hid (((wr.alloc (aK #[ν ds,ν dm,ν dc,ν dq,ν dp] 41)).alloc (aK #[ν ds,ν dm,ν dc,ν dq,ν dp] 41)).heap[wr.heap.size]? =aC (aK #[ν ds,ν dm,ν dc,ν dq,ν dp] 41 (0,0))):=η ((fG _ _ (by simp)).trans (cT wr _));have wN:Hid (∀j,(aH As (aA done) cs).ownBlock=aC j->w1.heap.size<=j/\j<wr.heap.size):=η (λj hj=>lJ.o.s.lt j hj);have Fj:Hid (∀j,(aH Ak (aA done) ck).ownBlock=aC j->w1.heap.size<=j/\j<wr.heap.size):=η (λj hj=>lJ.o.k.lt j hj);have HLEN:=η lJ.o.len;have Kb:=η HB.o;go_wp2_with (at_builtin;refine wpList_append_lies _ rfl _ _ 132 rfl w1.heap.size 41 ib _ 5 40 Oy a3j Qi Qj Qk rfl (by omega) _ _ _ rfl oQ.o.s ⟨wr.heap.size+1,0,aB⟩ 1 1 [ν ds,ν dm,ν dc,ν dq,ν dp] rfl rfl (dM _ _ #[ν ds,ν dm,ν dc,ν dq,ν dp] (by simp)) (Ub ⟨ds,dm,dc,dq,dp⟩) (by omega) (by simp only [bK];omega) (by omega) (by simp;omega) (wr.heap.size+1+1) (by simp) ?_)
    intro g3 sW w3 mJ gK Eb _;have hz3:wr.heap.size+1<w3.heap.size:=by have:=gK.size;simp at this;omega
    have af:Hid (aa w1.heap.size wr w3):=η ((lC.o.mono WZ).grown gK (by simp;omega) (λj hj=>(wN.o j hj).1));have hx3:=(gK.block wr.heap.size (by simp;omega) (λe=>by have:=(wN.o _ e.symm).2;omega)).trans dC.o;have y0:w3.cell? ⟨wr.heap.size,0,aB⟩=aC (ν ds):=ρ hx3;have y4:w3.cell? ⟨wr.heap.size,4,aB⟩=aC (ν dp):=ρ hx3;have oO:Hid (w3.ownsRow w1.heap.size 53 1 (aH Ak (aA done) ck) (aA done) (gs.map k2)):=η (oQ.o.k.kept gK (Bn oQ.o.k oQ.o.s (by decide)));have Kl:Hid (∀j (hj:j<aA gs) (hd:j<aA done),w3.heap[gs[j]]? =aC (aK #[ν done[j].p,ν done[j].s] 2 (0,0))):=η (λj hj hd=>(gK.block _ (fY.1 (oQ.o.g j hj hd)).1 (λe=>gM oQ.o.s (oQ.o.g j hj hd) (by decide) e.symm)).trans (oQ.o.g j hj hd));have sJ:Hid (w3.ownsRow w1.heap.size 41 5 (aH (aC ⟨g3,0,aB⟩) (aA done+1) sW) (aA done+1) (ny (done++ [⟨ds,dm,dc,dq,dp⟩]))):=η (by rw [Ua];exact mJ);have qm:=η (((aX w3.heap.size w3).alloc (aZ _) (aK #[ν dp,ν ds] 2)).alloc (by simp) (aK #[k2 w3.heap.size] 53));have xl:=η (iI oO.o qm.o);have kH:=η (iI sJ.o qm.o);have gZ:Hid (∀j u,([k2 w3.heap.size]:List aN)[j]? =aC u->((w3.alloc (aK #[ν dp,ν ds] 2)).alloc (aK #[k2 w3.heap.size] 53)).cell? ((⟨w3.heap.size+1,0,aB⟩:ai).add j)=aC u):=η (dM _ _ #[_] (by simp));have Dt:Hid (((w3.alloc (aK #[ν dp,ν ds] 2)).alloc (aK #[k2 w3.heap.size] 53)).heap[w3.heap.size]? =aC (aK #[ν dp,ν ds] 2 (0,0))):=η ((fG _ _ (by simp)).trans (cT w3 _));go_wp2_with (at_builtin;refine wpList_append_lies _ rfl _ _ 235 rfl w1.heap.size 53 i2 _ 1 24 underlying235 pj We Wf Wh rfl (by omega) _ _ _ rfl xl.o ⟨w3.heap.size+1,0,aB⟩ 1 1 [k2 w3.heap.size] rfl rfl gZ.o (a4U [w3.heap.size]) (by omega) (by simp only [bK];omega) (by omega) (by simp;omega) (w3.heap.size+1+1) (by simp) ?_)
    intro g5 Lq w5 Eo tE VP _;have Mv:w3.heap.size+1<w5.heap.size:=by have:=tE.size;simp at this;omega
    have cz:Hid (β w1 w5):=η (Kb.o.trans ((af.o.trans (qm.o.mono (by omega))).grown tE (by simp;omega) (λj hj=>(Fj.o j hj).1)));have mn:w5.heap[w3.heap.size]? =aC (aK #[ν dp,ν ds] 2 (0,0)):=(tE.block _ (by simp;omega) (λe=>by have:=(Fj.o _ e.symm).2;omega)).trans Dt.o;have TA:Hid (Dj w1.heap.size (aH (aC ⟨g3,0,aB⟩) (aA done+1) sW) (aH (aC ⟨g5,0,aB⟩) (aA done+1) Lq) (gs++ [w3.heap.size]) (done++ [⟨ds,dm,dc,dq,dp⟩]) w5):=η (by
     have Hg:=HLEN.o;refine⟨?_, ?_,by simp [Hg],λj hj hd=> ?_⟩
     ·rw [cL];exact kH.o.kept tE (Bn kH.o xl.o (by decide))
     ·rw [cL,dY];exact Eo
     rcases rF j (aA gs) with h|h
     ·rw [Tp h,Tp (by omega)];have h6:=Kl.o j h (by omega);have W4:=(fY.1 h6).1;have h7:=(qm.o.block _ W4).trans h6;exact(tE.block _ (by simp;omega) (λe=>gM xl.o h7 (by decide) e.symm)).trans h7
     have e:j=aA gs:=by simp at hj;omega
     subst e;rw [OZ (aZ _),OZ (by omega)];simp [Hg];exact mn)
    clear Eo tE VP mn af sJ kH oO xl gZ Dt qm Kl wN Fj Kb y0 y4;go_wp2_with fail
    go_roundw
    case rel=>exact⟨k+1,_,by omega,by go_num,by rw [<-ud.o];exact TA,cz⟩
    case measure=>simp [ag];omega
   have qX:a2M=done:=by rw [cG.o,ifN hc,List.append_nil]
   subst qX;have hcb:(dc==s)=aP:=by simpa using hc
   have lC:=η ((aX wr.heap.size wr).alloc (aZ _) (aK #[ν ds,ν dm,ν dc,ν dq,ν dp] 41));have oQ:=η (lJ.o.below lC.o);have af:Hid (β w1 (wr.alloc (aK #[ν ds,ν dm,ν dc,ν dq,ν dp] 41))):=η (HB.o.alloc HB.o.size _);clear cG lJ HB lC;go_wp2_with fail
   go_roundw
   case rel=>exact⟨k+1,_,by omega,by go_num,by rw [<-ud.o];exact oQ,af⟩
   case measure=>simp [ag];omega
  obtain rfl:k=aA L:=by omega
  rw [cU] at lJ;have jf:=a6b L s;have Sl:Hid (∀p∈(q9 L s).map bk,aL p.2):=η (λp hp=>by obtain⟨d,hd,rfl⟩:=dV.1 hp;exact HI.o d (j6.1 hd).1);obtain⟨done,Gy⟩:∃q,q=q9 L s:=⟨_,rfl⟩;have Yi:=η Gy;rw [<-Gy] at lJ jf Sl;rw [cU,<-Gy];clear Gy;have O2:=η (a5b (done.map bk) Ak ck wr (by rw [iK];omega) Sl.o lJ.o.key);rw [iK] at O2;clear Sl HI;go_wp2_with (go_at_call 162;refine O2.o.mono ?_;unfold SM;rintro e w2 ⟨bw,is,rfl,fN,hb2,hc2,hz2,Gw⟩;have HIS:=η fN;have kE:=η hc2;have aV:Hid (β wr w2):=η Gw;have CO:=η (lJ.o.below Gw);have Q2:bw<w2.heap.size:=hz2;clear fN hb2 hc2 hz2 Gw O2)
  have He:aA is=aA done:=by rw [HIS.o.len,iK]
  obtain⟨ls,zo⟩:∃ls:List Bd,ls=is.map λi=>done.getD i ⟨0,0,0,0,0⟩:=⟨_,rfl⟩
  have FZ:=η zo;have lx:Hid (aA ls=aA done):=η (by rw [zo,iK];exact He);have td:=η He;have tW:Hid (β w w2):=η ((aR.o.trans (HB.o.mono aR.o.size)).trans (aV.o.mono (cC aR.o.size HB.o.size)));clear zo He lJ HB aV hlt;have L3:Hid (w2.ownsRow w2.heap.size 41 5 (aH aB 0 0) 0 (ny (ls.take 0))):=η (by rw [nJ];exact gC _ _ _ _);have sF:Hid (β w2 w2):=η (aX _ _);go_loopw [6,11,39] (λv _ i wr=>∃k:Nat,k<=aA done/\i=ν (k:Int)/\Hid (β w2 wr)/\Hid (wr.ownsRow w2.heap.size 41 5 v k (ny (ls.take k)))) (λ_ _ i _=>aA done-(ag i).toNat)
  case atStart=>exact⟨0,bL _,rfl,sF,L3⟩
  case round=>
   clear sF L3;obtain⟨k,hk,rfl,HB,HO⟩:=hrel;obtain⟨Ax,cx,oz⟩:=bJ HO.o;subst oz;by_cases hlt:k<aA done
   ·have zm:k<aA is:=by rw [td.o];exact hlt
    have c0:=(HB.o.cell (p:=⟨bw,k,aB⟩) Q2).trans (kE.o k zm);have hbr:bw<wr.heap.size:=cR Q2 HB.o.size;have nR:is[k]<aA done:=by have:=HIS.o.lt _ (cK zm);rwa [iK] at this
    obtain⟨be,oe,hA,lO,e0,e1,e2,e3,e4⟩:=PF (((aW.cA CO.o.s).below HB.o).mono HB.o.size) nR;have lM:Hid (ls.take (k+1)=ls.take k++ [done[is[k]]]):=η (by rw [fF (by rw [lx.o];exact hlt)];congr 2;simp [FZ.o,List.getD,nR]);have bj:(0:Int)<=((is[k]:Nat):Int):=by omega
    have hib:((is[k]:Nat):Int)<(aA done:Int):=by omega
    have eV:(0:Int)<=(k:Int):=by omega
    have hkb:(k:Int)<(aA done:Int):=by omega
    subst hA;generalize done[is[k]]=q at*;generalize is[k]=ix at*;obtain⟨ds,dm,dc,dq,dp⟩:=q;simp only at e0 e1 e2 e3 e4;have af:Hid (β w2 (wr.alloc (aK #[ν ds,ν dm,ν dc,ν dq,ν dp] 41))):=η (HB.o.alloc HB.o.size _);have cB:=η (HO.o.alloc (aK #[ν ds,ν dm,ν dc,ν dq,ν dp] 41));have hzz:w2.heap.size<=wr.heap.size:=HB.o.size;go_wp2_with (at_builtin;refine wpList_append_lies _ rfl _ _ 132 rfl w2.heap.size 41 ib _ 5 40 Oy a3j Qi Qj Qk rfl (by omega) _ _ _ rfl cB.o ⟨wr.heap.size,0,aB⟩ 1 1 [ν ds,ν dm,ν dc,ν dq,ν dp] rfl rfl (dM _ _ #[ν ds,ν dm,ν dc,ν dq,ν dp] rfl) (Ub ⟨ds,dm,dc,dq,dp⟩) (by omega) (by simp only [bK];omega) (by omega) (by simp;omega) (wr.heap.size+1) (by simp) ?_)
    intro g4 Lp w4 pB iH _ _;have ar:Hid (β w2 w4):=η (af.o.grown iH (by simp;omega) (λj hj=>ei cB.o j hj));have dU:Hid (w4.ownsRow w2.heap.size 41 5 (aH (aC ⟨g4,0,aB⟩) (k+1) Lp) (k+1) (ny (ls.take (k+1)))):=η (by rw [lM.o,Ua];exact pB);clear pB iH af cB HO HB;go_wp2_with fail
    go_roundw
    case rel=>exact⟨k+1,by omega,by go_num,ar,dU⟩
    case measure=>simp [ag];omega
   obtain rfl:k=aA done:=by omega
   have fK:Hid (wr.ownsRow w.heap.size 41 5 (aH Ax (aA done) cx) (aA is) (ny ls)):=η (by have h2:=HO.o;rw [List.take_of_length_le (by rw [lx.o];exact aZ _)] at h2;rw [td.o];exact jT h2 tW.o.size);go_wp2_with fail
   go_ret;refine⟨_,is,rfl,by rw [<-Yi.o];exact HIS.o, ?_,tW.o.trans (HB.o.mono tW.o.size)⟩;rw [<-Yi.o,<-FZ.o];exact fK.o
section
open Go.Sort
theorem aGY(zs:List Int)(A:Option ai)(c:Nat)(m:Int)(w:aJ)(h:aW w w.heap.size A (zs.map (aG aF)))(hl:aA zs<=1000000):
 aQ aM 15 #[aH A (aA zs) c,ν m] w λe w'=>e=aU (bM (hasB zs m))/\w=w':=by
 have HS:=η h;go_enter func15,ntmps15
 go_wp2
 go_loop [5] (λi=>∃k:Nat,k<=aA zs/\i=ν k/\Hid ((zs.take k).contains m=aP)) (λi=>aA zs-(ag i).toNat)
 case atStart=>exact⟨0,bL _,rfl,rfl⟩
 case round=>
  obtain⟨k,hk,rfl,HN⟩:=hrel;by_cases hlt:k<aA zs
  ·obtain⟨b,o,rfl,hb,d0⟩:=tK HS.o hlt;have HA:=η (aDw m hlt);cases hp:(zs[k]==m)
   ·have HX:Hid ((zs.take (k+1)).contains m=aP):=by show _=_;rw [HA.o,HN.o,hp];rfl
    go_wp2
    go_round
    case rel=>exact⟨k+1,by omega,by go_num,HX⟩
    case measure=>simp [ag];omega
   have HF:Hid (aO=hasB zs m):=by
    show _=zs.contains m;symm;rw [Tj];have e:zs[k]=m:=by simpa using hp
    rw [<-e];exact cK hlt
   go_wp2
   go_ret;exact⟨fP HF.o,rfl⟩
  obtain rfl:k=aA zs:=by omega
  have hN:=HN.o;rw [cU] at hN;have HF:Hid (hasB zs m=aP):=hN;go_wp2
  go_ret;exact⟨fP HF.o.symm,rfl⟩
theorem aI5(ys:List Int)(g cap:Nat)(base:Nat)(w0 w:aJ)(hb0:base<=g)(h:w.ownsRow base 3 1 (aH (aC ⟨g,0,aB⟩) (aA ys) cap) (aA ys) (ys.map (aG aF)))(hl:aA ys<=1000000)(hB:aa base w0 w)(iV:base<=w.heap.size):
 aQ aM 217 #[aH (aC ⟨g,0,aB⟩) (aA ys) cap] w λe w2=>e=aU (bB #[])/\w2.ownsRow base 3 1 (aH (aC ⟨g,0,aB⟩) (aA ys) cap) (aA ys) ((ys.mergeSort λx y=>decide (x<=y)).map (aG aF))/\aa base w0 w2:=by
 obtain⟨q1,q2,q3⟩:=a5g h;refine(slices_Sort_int g 0 cap ys w q1 q2 (by omega)).mono ?_;rintro e w2 ⟨rfl,n2,os2,hw2⟩;obtain⟨o2,g2⟩:=a6t h (List.length_mergeSort _) hw2;exact⟨rfl,o2,hB.grown g2 iV (λj hj=>by injection hj with hj;omega)⟩
theorem aDm(ms:List Int)(g cap:Nat)(base:Nat)(w0 w:aJ)(hb0:base<=g)(h:w.ownsRow base 3 1 (aH (aC ⟨g,0,aB⟩) (aA ms) cap) (aA ms) (ms.map (aG aF)))(hl:aA ms<=1000000)(hB:aa base w0 w)(iV:base<=w.heap.size):
 aQ aM 218 #[aH (aC ⟨g,0,aB⟩) (aA ms) cap] w λe w3=>e=aU (aH (aC ⟨g,0,aB⟩) (aA (sP ms)) cap)/\w3.ownsRow base 3 1 (aH (aC ⟨g,0,aB⟩) (aA (sP ms)) cap) (aA (sP ms)) ((sP ms).map (aG aF))/\aa base w0 w3:=by
 obtain⟨q1,q2,q3⟩:=a5g h;refine(slices_Compact_int g 0 cap ms w q1 (by omega) q3).mono ?_;rintro e w3 ⟨rfl,n3,hw3⟩;have jt:=aDk ms;have hw4:w3=grow (putRow (aG aF) (Sort.ahead w n3) g 0 (sP ms++gN (aA ms-aA (sP ms)) 0).toArray) #[]:=by rw [hw3,grow_empty]
 obtain⟨o3,g3⟩:=a6t h (by simp;omega) hw4;refine⟨rfl, ?_,hB.grown g3 iV (λj hj=>by injection hj with hj;omega)⟩;have:=aId o3 jt;rw [dY,List.take_left' (by simp)] at this;exact this
theorem MM(zs:List Int)(A:Option ai)(c:Nat)(m:Int)(w:aJ)(h:aW w w.heap.size A (zs.map (aG aF)))(hl:aA zs<=1000000):
 aQ aM 89 #[aH A (aA zs) c,ν m] w λe w'=>e=aU (bM (hasB zs m))/\w=w':=by
 have HS:=η h;rcases Nat.eq_zero_or_pos (aA zs) with h0|h0
 ·have hz:zs= []:=nG h0;subst hz;go_enter aAi,aBV
  go_wp2_with fail
  refine(slices_Contains_int_empty A c m _).mono ?_;rintro e w1 ⟨rfl,rfl⟩;go_wp2_with fail
  go_ret;exact⟨rfl,rfl⟩
 obtain⟨b,o,rfl,hb,_⟩:=tK HS.o h0;go_enter aAi,aBV
 go_wp2_with fail
 refine(slices_Contains_int b o (aA zs) c zs m _ (aZ _) (by omega) (Xe HS.o)).mono ?_;rintro e w1 ⟨rfl,rfl⟩;rw [cU,show zs.contains m=hasB zs m from rfl];go_wp2_with fail
 go_ret;exact⟨rfl,rfl⟩
end
def SL(w:aJ)(L:List Lg)(e:di)(w':aJ):Prop:=
 ∃v,e=aU v/\w'.ownsRow w.heap.size 76 3 v (aA L) (bA L)/\β w w'
def BK(x:Ob):Bool:=decide (0<x.az)&&decide (x.done<x.az)
theorem aEu(x:Ob)(w:aJ):aQ aM 178 #[x.val] w λe w'=>e=aU (bM (BK x))/\aa w.heap.size w w':=by
 obtain⟨c,m,a,az,done,st⟩:=x;unfold Ob.val;go_enter func178,ntmps178
 go_wp2
 all_goals
  go_ret;refine⟨fP ?_,(aX _ _).alloc (aZ _) _⟩;rw [FN];simp_all [BK]<;>omega
theorem aII(L:List Ob)(A:Option ai)(c:Nat)(p:Ob->Bool)(w:aJ)(hs:aW w w.heap.size A (fJ L))(hl:aA L<=1000000)
 (hp:∀(x:Ob) (W:aJ),β w W->aQ aM 178 #[x.val] W λe w'=>e=aU (bM (p x))/\β W w'):
 aQ aM 177 #[aH A (aA L) c,.func (.func 178) #[] #[]] w (CC w (L.filter λx=>x.st==1&&p x)):=by
 have HS:=η hs;have HP:=η hp;obtain⟨i0,bj,hz0,fh,hz2⟩:=dK KD;go_enter aAE,aB1
 go_wp2_with fail
 go_loopw [5,7,10] (λu _ i wr=>∃k:Nat,k<=aA L/\i=ν k/\Hid (wr.ownsRow w.heap.size 59 6 u (aA ((L.take k).filter λx=>x.st==1&&p x)) (fJ ((L.take k).filter λx=>x.st==1&&p x)))/\Hid (β w wr)) (λ_ _ i _=>aA L-(ag i).toNat)
 case atStart=>exact⟨0,bL _,rfl,⟨by simp [fJ],aS ⟨rfl,rfl⟩⟩,aX _ _⟩
 case round=>
  obtain⟨k,hk,rfl,HO,HB⟩:=hrel;have hsz:=HB.o.size;have gV:=Pb (λx:Ob=>x.st==1&&p x) L k;by_cases hlt:k<aA L
  ·obtain⟨b,o,rfl,hb,d0,d1,d2,d3,d4,d5⟩:=xO (HS.o.below HB.o) hlt;have HF:=η (Pc (λx:Ob=>x.st==1&&p x) hlt);cases h1:(L[k].st==1)
   ·have hF:(L.take (k+1)).filter (λx=>x.st==1&&p x)=(L.take k).filter (λx=>x.st==1&&p x):=by rw [HF.o,h1];simp
    have jd:=HO.o;rw [<-hF] at jd;have cF:=η jd;go_wp2_with fail
    go_roundw
    case rel=>exact⟨k+1,by omega,by go_num,cF.o.alloc _,HB.o.alloc hsz _⟩
    case measure=>simp [ag];omega
   cases h2:p L[k]
   ·have hF:(L.take (k+1)).filter (λx=>x.st==1&&p x)=(L.take k).filter (λx=>x.st==1&&p x):=by rw [HF.o,h1,h2];simp
    have jd:=HO.o;rw [<-hF] at jd;have cF:=η jd;have tu:Hid (∀W:aJ,β w W->aQ aM 178 #[L[k].val] W λe w'=>e=aU (bM aP)/\β W w'):=λW hW=>by have:=HP.o L[k] W hW;rw [h2] at this;exact this
    go_wp2_with fail
    refine(tu.o _ (HB.o.alloc hsz _)).mono ?_;rintro e w3 ⟨rfl,hb3⟩;have af:Hid (β w w3):=(HB.o.alloc hsz _).trans (hb3.mono (by simp;omega));have hg3:wr.grownBy w3 aB:=⟨hb3.os,hb3.tape,hb3.output,by have:=hb3.size;simp at this;omega,λi hi _=>(hb3.block i (by simp;omega)).trans (fG _ _ hi)⟩;have cB:=η (cF.o.kept hg3 (by cases (dx _)<;>simp));go_wp2_with fail
    go_roundw
    case rel=>exact⟨k+1,by omega,by go_num,cB,af⟩
    case measure=>simp [ag];omega
   have hF:(L.take (k+1)).filter (λx=>x.st==1&&p x)=(L.take k).filter (λx=>x.st==1&&p x)++ [L[k]]:=by rw [HF.o,h1,h2];simp
   have jH:=η hF;have tu:Hid (∀W:aJ,β w W->aQ aM 178 #[L[k].val] W λe w'=>e=aU (bM aO)/\β W w'):=λW hW=>by have:=HP.o L[k] W hW;rw [h2] at this;exact this
   generalize (L.take k).filter (λx=>x.st==1&&p x)=ys at*;go_wp2_with fail
   refine(tu.o _ (HB.o.alloc hsz _)).mono ?_;rintro e w3 ⟨rfl,hb3⟩;have af:Hid (β w w3):=(HB.o.alloc hsz _).trans (hb3.mono (by simp;omega));have hz3:=hb3.size;simp at hz3;have hg3:wr.grownBy w3 aB:=⟨hb3.os,hb3.tape,hb3.output,by omega,λi hi _=>(hb3.block i (by simp;omega)).trans (fG _ _ hi)⟩;have cB:=η (HO.o.kept hg3 (by cases (dx _)<;>simp));have hc:=λj=>(hb3.cell (p:=⟨wr.heap.size,j,aB⟩) (by simp)).trans (cM _ _ _ j rfl)
   have e0:=hc 0;have e1:=hc 1;have e2:=hc 2;have e3:=hc 3;have e4:=hc 4;have e5:=hc 5;simp at e0 e1 e2 e3 e4 e5;go_wp2_with (at_builtin;refine iw _ rfl _ _ 56 rfl w.heap.size 59 i0 _ 6 48 GJ bj hz0 fh hz2 rfl (by decide) _ (aA ys) (fJ ys) rfl (cB.o.alloc _) ⟨w3.heap.size,0,aB⟩ 1 1 L[k].cells rfl rfl ?c1 ?c2 ?c3 ?c4 ?c5 ?_)
   case c1=>exact dM _ _ #[_,_,_,_,_,_] rfl
   case c2=>intro u hu;simp [Ob.cells] at hu;rcases hu with rfl|rfl|rfl|rfl|rfl|rfl<;>rfl
   case c3=>simp only [bK];omega
   case c4=>omega
   case c5=>simp;omega
   intro v' w4 hown1 dE _;have dU:Hid (w4.ownsRow w.heap.size 59 6 v' (aA ((L.take (k+1)).filter λx=>x.st==1&&p x)) (fJ ((L.take (k+1)).filter λx=>x.st==1&&p x))):=by show jn _ _ _ _ _ _ _;rw [jH.o,N7,cL,uC];exact hown1
   have pP:Hid (β w w4):=(af.o.alloc (by omega) _).grown dE (by simp;omega) (λj hj=>ei cB.o j hj);go_wp2_with fail
   go_roundw
   case rel=>exact⟨k+1,by omega,by go_num,dU,pP⟩
   case measure=>simp [ag];omega
  obtain rfl:k=aA L:=by omega
  have hO:=HO.o;rw [cU] at hO;have dB:=η hO;go_wp2_with fail
  go_ret;exact⟨_,rfl,dB.o,HB.o⟩
theorem aIH(L:List Ob)(A:Option ai)(c:Nat)(c1:aN)(p:Ob->Bool)(w:aJ)(hs:aW w w.heap.size A (fJ L))(hl:aA L<=1000000)
 (hp:∀(x:Ob) (W:aJ),β w W->aQ aM 223 #[x.val,c1] W λe w'=>e=aU (bM (p x))/\β W w'):
 aQ aM 177 #[aH A (aA L) c,.func (.func 223) #[] #[c1]] w (CC w (L.filter λx=>x.st==1&&p x)):=by
 have HS:=η hs;have HP:=η hp;obtain⟨i0,bj,hz0,fh,hz2⟩:=dK KD;go_enter aAE,aB1
 go_wp2_with fail
 go_loopw [5,7,10] (λu _ i wr=>∃k:Nat,k<=aA L/\i=ν k/\Hid (wr.ownsRow w.heap.size 59 6 u (aA ((L.take k).filter λx=>x.st==1&&p x)) (fJ ((L.take k).filter λx=>x.st==1&&p x)))/\Hid (β w wr)) (λ_ _ i _=>aA L-(ag i).toNat)
 case atStart=>exact⟨0,bL _,rfl,⟨by simp [fJ],aS ⟨rfl,rfl⟩⟩,aX _ _⟩
 case round=>
  obtain⟨k,hk,rfl,HO,HB⟩:=hrel;have hsz:=HB.o.size;have gV:=Pb (λx:Ob=>x.st==1&&p x) L k;by_cases hlt:k<aA L
  ·obtain⟨b,o,rfl,hb,d0,d1,d2,d3,d4,d5⟩:=xO (HS.o.below HB.o) hlt;have HF:=η (Pc (λx:Ob=>x.st==1&&p x) hlt);cases h1:(L[k].st==1)
   ·have hF:(L.take (k+1)).filter (λx=>x.st==1&&p x)=(L.take k).filter (λx=>x.st==1&&p x):=by rw [HF.o,h1];simp
    have jd:=HO.o;rw [<-hF] at jd;have cF:=η jd;go_wp2_with fail
    go_roundw
    case rel=>exact⟨k+1,by omega,by go_num,cF.o.alloc _,HB.o.alloc hsz _⟩
    case measure=>simp [ag];omega
   cases h2:p L[k]
   ·have hF:(L.take (k+1)).filter (λx=>x.st==1&&p x)=(L.take k).filter (λx=>x.st==1&&p x):=by rw [HF.o,h1,h2];simp
    have jd:=HO.o;rw [<-hF] at jd;have cF:=η jd;have tu:Hid (∀W:aJ,β w W->aQ aM 223 #[L[k].val,c1] W λe w'=>e=aU (bM aP)/\β W w'):=λW hW=>by have:=HP.o L[k] W hW;rw [h2] at this;exact this
    go_wp2_with fail
    refine(tu.o _ (HB.o.alloc hsz _)).mono ?_;rintro e w3 ⟨rfl,hb3⟩;have af:Hid (β w w3):=(HB.o.alloc hsz _).trans (hb3.mono (by simp;omega));have hg3:wr.grownBy w3 aB:=⟨hb3.os,hb3.tape,hb3.output,by have:=hb3.size;simp at this;omega,λi hi _=>(hb3.block i (by simp;omega)).trans (fG _ _ hi)⟩;have cB:=η (cF.o.kept hg3 (by cases (dx _)<;>simp));go_wp2_with fail
    go_roundw
    case rel=>exact⟨k+1,by omega,by go_num,cB,af⟩
    case measure=>simp [ag];omega
   have hF:(L.take (k+1)).filter (λx=>x.st==1&&p x)=(L.take k).filter (λx=>x.st==1&&p x)++ [L[k]]:=by rw [HF.o,h1,h2];simp
   have jH:=η hF;have tu:Hid (∀W:aJ,β w W->aQ aM 223 #[L[k].val,c1] W λe w'=>e=aU (bM aO)/\β W w'):=λW hW=>by have:=HP.o L[k] W hW;rw [h2] at this;exact this
   generalize (L.take k).filter (λx=>x.st==1&&p x)=ys at*;go_wp2_with fail
   refine(tu.o _ (HB.o.alloc hsz _)).mono ?_;rintro e w3 ⟨rfl,hb3⟩;have af:Hid (β w w3):=(HB.o.alloc hsz _).trans (hb3.mono (by simp;omega));have hz3:=hb3.size;simp at hz3;have hg3:wr.grownBy w3 aB:=⟨hb3.os,hb3.tape,hb3.output,by omega,λi hi _=>(hb3.block i (by simp;omega)).trans (fG _ _ hi)⟩;have cB:=η (HO.o.kept hg3 (by cases (dx _)<;>simp));have hc:=λj=>(hb3.cell (p:=⟨wr.heap.size,j,aB⟩) (by simp)).trans (cM _ _ _ j rfl)
   have e0:=hc 0;have e1:=hc 1;have e2:=hc 2;have e3:=hc 3;have e4:=hc 4;have e5:=hc 5;simp at e0 e1 e2 e3 e4 e5;go_wp2_with (at_builtin;refine iw _ rfl _ _ 56 rfl w.heap.size 59 i0 _ 6 48 GJ bj hz0 fh hz2 rfl (by decide) _ (aA ys) (fJ ys) rfl (cB.o.alloc _) ⟨w3.heap.size,0,aB⟩ 1 1 L[k].cells rfl rfl ?c1 ?c2 ?c3 ?c4 ?c5 ?_)
   case c1=>exact dM _ _ #[_,_,_,_,_,_] rfl
   case c2=>intro u hu;simp [Ob.cells] at hu;rcases hu with rfl|rfl|rfl|rfl|rfl|rfl<;>rfl
   case c3=>simp only [bK];omega
   case c4=>omega
   case c5=>simp;omega
   intro v' w4 hown1 dE _;have dU:Hid (w4.ownsRow w.heap.size 59 6 v' (aA ((L.take (k+1)).filter λx=>x.st==1&&p x)) (fJ ((L.take (k+1)).filter λx=>x.st==1&&p x))):=by show jn _ _ _ _ _ _ _;rw [jH.o,N7,cL,uC];exact hown1
   have pP:Hid (β w w4):=(af.o.alloc (by omega) _).grown dE (by simp;omega) (λj hj=>ei cB.o j hj);go_wp2_with fail
   go_roundw
   case rel=>exact⟨k+1,by omega,by go_num,dU,pP⟩
   case measure=>simp [ag];omega
  obtain rfl:k=aA L:=by omega
  have hO:=HO.o;rw [cU] at hO;have dB:=η hO;go_wp2_with fail
  go_ret;exact⟨_,rfl,dB.o,HB.o⟩
def Ob.claim(x:Ob):Lg:=⟨x.m,x.a,if x.az=fj then 9223372036854775807 else-x.az⟩
theorem aDH(n:Int)(h:aL n):(dL (-n) !=0)=(n==fj):=by
 unfold fj;rcases Int.decEq n (-9223372036854775808) with h1|h1
 ·have h2:aL (-n):=by unfold aL at*;omega
  rw [(dy h2).2];simp [h1]
 subst h1;have h2:¬aL (- -9223372036854775808):=by decide
 rw [(gh h2).2];rfl
theorem aDI(x:Ob)(w:aJ)(h:aL x.az):aQ aM 224 #[x.val] w λe w'=>e=aU (x.claim.val)/\aa w.heap.size w w':=by
 have HA:=η (aDH x.az h);have HI:=η h;have HC:=η (show x.claim=⟨x.m,x.a,if x.az=fj then 9223372036854775807 else-x.az⟩ from rfl);obtain⟨c,m,a,az,done,st⟩:=x;simp only at HA HI HC;by_cases hn:az=fj
 ·have h1:(dL (-az) !=0)=aO:=by rw [HA.o];simpa using hn
  have HN:=η hn;clear h hn;unfold Ob.val;go_enter aAN,aBA
  go_wp2_with fail
  refine(R5 az _ HI.o).mono ?_;rintro e w1 ⟨rfl,rfl⟩;go_wp2_with fail
  refine bodyPost_ret (v:=bO #[ν m,ν a,ν 9223372036854775807]) (by simp [results,aBZ,go_sem]) rfl ⟨?_,σ.alloc (by simp) _⟩;rw [HC.o,HN.o];rfl
 have h1:(dL (-az) !=0)=aP:=by rw [HA.o];simpa using hn
 have HN:=η hn;have hv:gP (-az)= -az:=by
  have h2:aL (-az):=by have hi:=HI.o;unfold aL fj at*;omega
  exact(dy h2).1
 have HV:=η hv;clear h hn hv;unfold Ob.val;go_enter aAN,aBA
 go_wp2_with fail
 refine(R5 az _ HI.o).mono ?_;rintro e w1 ⟨rfl,rfl⟩;go_wp2_with fail
 refine bodyPost_ret (v:=bO #[ν m,ν a,ν (gP (-az))]) (by simp [results,aBZ,go_sem]) rfl ⟨?_,σ.alloc (by simp) _⟩;rw [HC.o,HV.o,ifN HN.o];rfl
structure JN(w:aJ)(bw:Nat)(A:Option ai)(c:Nat)(who:List Int):Prop where
 cell:w.cell? ⟨bw,0,aB⟩=aC (aH A (aA who) c)
 dh:aW w w.heap.size A (who.map (aG aF))
 lt:bw<w.heap.size
theorem JN.below {w w':aJ} {bw:Nat} {A:Option ai} {c:Nat} {who:List Int}(h:JN w bw A c who)(hb:aa w.heap.size w w'):JN w' bw A c who:=
 ⟨(hb.cell (p:=⟨bw,0,aB⟩) h.lt).trans h.cell,(h.dh.below hb).mono hb.size,cR h.lt hb.size⟩
def sZ(p:Ob->Bool)(x:Ob):Bool:=decide (x.az<0)&&p x
def ow(j8:Int)(who:List Int)(x:Ob):Bool:=x.a==j8&& !hasB who x.m
theorem aFP(x:Ob)(j8:Int)(who:List Int)(A:Option ai)(c ba bw:Nat)(w:aJ)(h:JN w bw A c who)(ha:w.cell? ⟨ba,0,aB⟩=aC (aG aF j8))(mF:ba<w.heap.size)(hl:aA who<=1000000):
 aQ aM 191 #[x.val,π ba,π bw] w λe w'=>e=aU (bM (ow j8 who x))/\β w w':=by
 have HG:=η (show ow j8 who x=(x.a==j8&& !hasB who x.m) from rfl);obtain⟨xc,xm,xa,az,done,st⟩:=x;simp only at HG;unfold Ob.val;have hb:β w (w.alloc (aK #[ν xc,ν xm,ν xa,ν az,ν done,ν st] 59)):=(aX _ _).alloc (aZ _) _;have HH:=η (h.below hb);have HB:=η hb;have h0:=h.cell;have hlt:=h.lt;cases h1:(xa==j8)
 ·go_enter aAI,aB5
  go_wp2_with fail
  go_ret;exact⟨fP (by rw [HG.o,h1];rfl),HB.o⟩
 go_enter aAI,aB5
 go_wp2_with fail
 refine(MM who A c xm _ HH.o.dh hl).mono ?_;rintro e w1 ⟨rfl,rfl⟩;go_wp2_with fail
 go_ret;exact⟨fP (by rw [HG.o,h1];simp),HB.o⟩
theorem aDJ(x:Ob)(j8:Int)(who:List Int)(Aw:Option ai)(cw ba bw:Nat)(bi:Nat)(w:aJ)(hw:JN w bw Aw cw who)(ha:w.cell? ⟨ba,0,aB⟩=aC (aG aF j8))(mF:ba<w.heap.size)(hi:w.cell? ⟨bi,0,aB⟩=aC (.func (.func 191) #[] #[bH (aC ⟨ba,0,aB⟩),bH (aC ⟨bw,0,aB⟩)]))(hbi:bi<w.heap.size)(hl:aA who<=1000000):
 aQ aM 223 #[x.val,π bi] w λe w'=>e=aU (bM (sZ (ow j8 who) x))/\β w w':=by
 have hb:β w (w.alloc (aK #[ν x.c,ν x.m,ν x.a,ν x.az,ν x.done,ν x.st] 59)):=(aX _ _).alloc (aZ _) _;have HB:=η hb;have HC:=η (aFP x j8 who Aw cw ba bw _ (hw.below hb) ((hb.cell (p:=⟨ba,0,aB⟩) mF).trans ha) (by simp;omega) hl);have HQ:=η (show sZ (ow j8 who) x=(decide (x.az<0)&&(ow j8 who) x) from rfl);generalize sZ (ow j8 who) x=cv at*;generalize hp:(ow j8 who) x=pv at*;have HP:=η hp;obtain⟨xc,xm,xa,az,done,st⟩:=x;simp only at*;unfold Ob.val at HC ⊢;simp only at HC ⊢;by_cases h1:az<0
 ·have HD:Hid (cv=pv):=by show _=_;rw [HQ.o,decide_eq_true h1];rfl
  go_enter aAM,aB9
  go_wp2_with fail
  refine HC.o.mono ?_;rintro e w1 ⟨rfl,hb1⟩;have aR:Hid (β w w1):=HB.o.trans (hb1.mono (by simp));go_wp2_with fail
  go_ret;exact⟨fP (HD.o.symm),aR.o⟩
 have HD:Hid (cv=aP):=by show _=_;rw [HQ.o,decide_eq_false h1];rfl
 go_enter aAM,aB9
 go_wp2_with fail
 go_ret;exact⟨fP HD.o.symm,HB.o⟩
theorem aDL(L:List Ob)(A:Option ai)(c:Nat)(j8:Int)(who:List Int)(Aw:Option ai)(cw ba bw:Nat)(w:aJ)(hs:aW w w.heap.size A (fJ L))(hl:aA L<=1000000)(hI:∀x∈L,aL x.az)(hw:JN w bw Aw cw who)(ha:w.cell? ⟨ba,0,aB⟩=aC (aG aF j8))(mF:ba<w.heap.size)(WA:aA who<=1000000):
 aQ aM 190 #[aH A (aA L) c,.func (.func 191) #[] #[π ba,π bw]] w (SL w ((L.filter λx=>x.st==1&&sZ (ow j8 who) x).map Ob.claim)):=by
 have hb:β w (w.alloc (aK #[.func (.func 191) #[] #[π ba,π bw]] 170)):=(aX _ _).alloc (aZ _) _;have hp:∀(x:Ob) (W:aJ),aa (w.alloc (aK #[.func (.func 191) #[] #[π ba,π bw]] 170)).heap.size (w.alloc (aK #[.func (.func 191) #[] #[π ba,π bw]] 170)) W->aQ aM 223 #[x.val,π w.heap.size] W λe w'=>e=aU (bM (sZ (ow j8 who) x))/\β W w':=by intro x W hW;have hz:=hW.size;simp at hz;have oC:β w W:=hb.trans (hW.mono (by simp));exact aDJ x j8 who Aw cw ba bw w.heap.size W (hw.below oC) ((oC.cell (p:=⟨ba,0,aB⟩) mF).trans ha) (by omega) (by rw [hW.cell (p:=⟨w.heap.size,0,aB⟩) (by simp),cM _ _ _ _ rfl];rfl) (by omega) WA
 have HC:=η (aIH L A c (π w.heap.size) (sZ (ow j8 who)) (w.alloc (aK #[.func (.func 191) #[] #[π ba,π bw]] 170)) ((hs.below hb).mono (by simp)) hl hp);have HB:=η hb;have hDl:aA (L.filter λx=>x.st==1&&sZ (ow j8 who) x)<=aA L:=qN _ _;have HDI:Hid (∀x∈(L.filter λx=>x.st==1&&sZ (ow j8 who) x),aL x.az):=λx hx=>hI x (j6.1 hx).1
 obtain⟨i0,bj,hz0,fh,hz2⟩:=dK a4l;generalize hzs:(L.filter λx=>x.st==1&&sZ (ow j8 who) x).map Ob.claim=zs;have HZ:=η hzs;go_enter func190,ntmps190
 go_wp2_with fail
 refine HC.o.mono ?_;rintro e w1 ⟨v1,rfl,eR,hb1⟩;generalize (L.filter λx=>x.st==1&&sZ (ow j8 who) x)=D at*;obtain⟨A1,c1,rfl⟩:=bJ eR;have HS:=η (aW.cA eR);have aR:Hid (β w w1):=HB.o.trans (hb1.mono (by simp));have hz1:=aR.o.size;go_wp2_with fail
 go_loopw [5,7,12] (λu _ i wr=>∃k:Nat,k<=aA D/\i=ν k/\Hid (wr.ownsRow w1.heap.size 76 3 u (aA ((D.take k).map Ob.claim)) (bA ((D.take k).map Ob.claim)))/\Hid (β w1 wr)) (λ_ _ i _=>aA D-(ag i).toNat)
 case atStart=>exact⟨0,bL _,rfl,⟨by simp [bA],aS ⟨rfl,rfl⟩⟩,aX _ _⟩
 case round=>
  obtain⟨k,hk,rfl,HO,HB⟩:=hrel;have hsz:=HB.o.size;by_cases hlt:k<aA D
  ·obtain⟨b,o,rfl,hb,d0,d1,d2,d3,d4,d5⟩:=xO (HS.o.below HB.o) hlt;have jH:Hid ((D.take (k+1)).map Ob.claim=(D.take k).map Ob.claim++ [D[k].claim]):=by show _=_;rw [fF hlt,dY];rfl
   have Ba:aA ((D.take k).map Ob.claim)<=k:=by rw [iK];exact List.length_take_le _ _
   have Ny:=η (HDI.o D[k] (cK hlt));generalize (D.take k).map Ob.claim=ys at*;go_wp2_with fail
   refine(aDI D[k] _ Ny.o).mono ?_;rintro e w3 ⟨rfl,hb3⟩;have af:Hid (β w1 w3):=(HB.o.alloc hsz _).trans (hb3.mono (by simp;omega));have hz3:=hb3.size;simp at hz3;have hg3:wr.grownBy w3 aB:=⟨hb3.os,hb3.tape,hb3.output,by omega,λi hi _=>(hb3.block i (by simp;omega)).trans (fG _ _ hi)⟩;have cB:=η (HO.o.kept hg3 (by cases (dx _)<;>simp));rw [show D[k].claim.val=bO #[ν D[k].claim.m,ν D[k].claim.a,ν D[k].claim.n] from rfl];generalize D[k].claim=lg at*;go_wp2_with (at_builtin;refine iw _ rfl _ _ 39 rfl w1.heap.size 76 i0 _ 3 24 sU bj hz0 fh hz2 rfl (by decide) _ (aA ys) (bA ys) rfl (cB.o.alloc _) ⟨w3.heap.size,0,aB⟩ 1 1 lg.cells rfl rfl ?c1 (a4i lg) ?c3 ?c4 ?c5 ?_)
   case c1=>exact dM _ _ #[_,_,_] rfl
   case c3=>simp only [bK];omega
   case c4=>omega
   case c5=>simp;omega
   intro v' w4 hown1 dE _;have dU:Hid (w4.ownsRow w1.heap.size 76 3 v' (aA ((D.take (k+1)).map Ob.claim)) (bA ((D.take (k+1)).map Ob.claim))):=by show jn _ _ _ _ _ _ _;rw [jH.o,a4k,cL,uC];exact hown1
   have pP:Hid (β w1 w4):=(af.o.alloc (by omega) _).grown dE (by simp;omega) (λj hj=>ei cB.o j hj);go_wp2_with fail
   go_roundw
   case rel=>exact⟨k+1,by omega,by go_num,dU,pP⟩
   case measure=>simp [ag];omega
  obtain rfl:k=aA D:=by omega
  have hO:=HO.o;rw [cU,HZ.o] at hO;have dB:=η hO;go_wp2_with fail
  go_ret;exact⟨_,rfl,jT dB.o hz1,aR.o.trans (HB.o.mono hz1)⟩
theorem aFQ(L:List Ob)(A:Option ai)(c:Nat)(j8:Int)(who:List Int)(Aw:Option ai)(cw:Nat)(w:aJ)(hs:aW w w.heap.size A (fJ L))(hl:aA L<=1000000)(hI:∀x∈L,aL x.az)(hw:aW w w.heap.size Aw (who.map (aG aF)))(WA:aA who<=1000000):
 aQ aM 130 #[aH A (aA L) c,aH Aw (aA who) cw,ν j8] w (SL w ((L.filter λx=>x.st==1&&sZ (ow j8 who) x).map Ob.claim)):=by
 have hb:β w ((w.alloc (aK #[aH Aw (aA who) cw] 46)).alloc (aK #[ν j8] 3)):=σ.alloc (by simp) _;have HC:=η (aDL L A c j8 who Aw cw (w.heap.size+1) w.heap.size ((w.alloc (aK #[aH Aw (aA who) cw] 46)).alloc (aK #[ν j8] 3)) ((hs.below hb).mono (by simp;omega)) hl hI ⟨by rw [BH _ _ _ (by simp),cM _ _ _ _ rfl];rfl,(hw.below hb).mono (by simp;omega),by simp;omega⟩ (by rw [cM _ _ _ _ (by simp)];rfl) (by simp) WA);have HB:=η hb;generalize (L.filter λx=>x.st==1&&sZ (ow j8 who) x).map Ob.claim=zs at*;go_enter func130,ntmps130
 go_wp2_with fail
 refine HC.o.mono ?_;rintro e w1 ⟨v1,rfl,eR,hb1⟩;have cF:=η eR;have aR:Hid (β w w1):=HB.o.trans (hb1.mono (by simp;omega));go_wp2_with fail
 go_ret;exact⟨v1,rfl,jT cF.o (by simp;omega),aR.o⟩
section
open Go.Sort
structure wR(w:aJ)(A:Option ai)(c:Nat)(zs:List Int):Prop where
 dh:aW w w.heap.size A (zs.map (aG aF))
 nil:A=aB->zs= []/\c=0
theorem wR.below {w w':aJ} {A:Option ai} {c:Nat} {zs:List Int}(h:wR w A c zs)(hb:aa w.heap.size w w'):wR w' A c zs:=⟨(h.dh.below hb).mono hb.size,h.nil⟩
theorem aGl(zs:List Int):∀u∈zs.map (aG aF),u.oneCell'=aO:=by intro u hu;obtain⟨x,_,rfl⟩:=dV.1 hu;rfl
theorem S8 {w:aJ} {ops:Array Oper} {rest:List Oper} {o:Oper} {a:Act} {Q:Exit->Act->aJ->Prop}(hgd:o.guard=aB)(s x:Operand)
 (ho:o.op= .call {callee:= .builtin .append,args:= #[s,x],argTypes:= #[46,46]}) (base:Nat)
 (v:aN) (n:Nat) (xs:List Int) (hs:a.eval s=v) (hown:w.ownsRow base 3 1 v n (xs.map (aG aF)))
 (A:Option ai) (c:Nat) (zs:List Int) (hx:a.eval x=aH A (aA zs) c) (hz:wR w A c zs) (hlen:n+aA zs<=1000000) (hbase:base<=w.heap.size)
 (h:∀v' w',w'.ownsRow base 3 1 v' (n+aA zs) ((xs++zs).map (aG aF))->w.grownBy w' v.ownBlock->wpList aM ops Q rest (a.put o.dst v') w'):wpList aM ops Q (o::rest) a w:=by
 obtain⟨i0,bj,hz0,hz1,hz2⟩:=dK Qp;cases A with
 |none=>
  obtain⟨rfl,rfl⟩:=hz.nil rfl;refine wpList_append_own_none hgd s x 46 ho base 3 i0 1 yD bj v n (xs.map (aG aF)) hs hown hx (h v w (by simpa using hown) ⟨rfl,rfl,rfl,aZ _,λ_ _ _=>rfl⟩)
 |some ad=>
  refine iw w hgd s x 46 ho base 3 i0 _ 1 8 yD bj hz0 hz1 hz2 rfl (by decide) v n (xs.map (aG aF)) hs hown ad (aA zs) c (zs.map (aG aF)) hx (by simp) ?_ (aGl zs) (by simp only [bK];omega) (by omega) hbase ?_
  ·intro j u hu;obtain⟨b,o',e,_,hc⟩:=hz.dh j u hu;injection e with e;subst e;have ea:(⟨b,o',aB⟩:ai).add j=⟨b,o'+j,aB⟩:=by unfold Addr.add;split<;>simp_all
   rw [ea];exact hc
  intro v' w' h1 h2 _;exact h v' w' (by rw [dY];exact h1) h2
theorem aFU(w:aJ)(n:Nat)(hn:n<=1000000):jn (w.drew.alloc (aK (([]:List aN).toArray++Dl (aG aF 0).cells (0+n-0)++Dl (aG aF 0).cells (xB w (0+n) 0 3-(0+n))) 3)) w.heap.size 3 1 (aH (aC ⟨w.heap.size,0,aB⟩) 0 (xB w (0+n) 0 3)) 0 []:=by rw [Nat.zero_add];have h1:=grownCap_ge w n 0 3;refine⟨by simp,Or.inr ⟨w.heap.size,_,_,rfl,aZ _,cT _ _,bL _,grownCap_le_maxLen w n 0 3 (by simp only [bK];omega), ?_,by simp⟩⟩;simp only [Array.size_append,List.size_toArray,EC,size_zeroCells,Value.cells];simp;omega
theorem aDs(z1 z2:List Int)(A1 A2:Option ai)(c1 c2 g:Nat)(w:aJ)(h1:wR w A1 c1 z1)(h2:wR w A2 c2 z2)(g0:w.cell? ⟨g,0,aB⟩=aC (aH A1 (aA z1) c1))(g1:w.cell? ⟨g,1,aB⟩=aC (aH A2 (aA z2) c2))(hg:g<w.heap.size)(oD:aA z1<=100000)(hl2:aA z2<=100000):
 aQ aM 180 #[aH (aC ⟨g,0,aB⟩) 2 2] w (YX w (z1++z2)):=by
 have H1:=η h1;have H2:=η h2;clear h1 h2;have G1:=η g1;rcases Nat.eq_zero_or_pos (aA z1+aA z2) with h0|h0
 ·have ju:aA z1=0:=by omega
  have oF:aA z2=0:=by omega
  have e1:z1= []:=nG ju;have e2:z2= []:=nG oF;subst e1 e2;clear h0 ju oF;have vx:=H1;have HZ:Hid (w.heap.size<=w.heap.size):=aZ _;have ew:Hid (w.heap.size<=w.heap.size):=aZ _;have sK:Hid (β w w):=aX _ _;have qG:Hid (w.ownsRow w.heap.size 3 1 (aH aB 0 0) 0 (([]:List Int).map (aG aF))):=⟨by simp,aS ⟨rfl,rfl⟩⟩;simp only [EC] at g0 g1;go_enter aAF,aB2
  go_wp2_with fail
  refine uY 3 ?_;rw [eA];go_wp2_with fail
  rw [eA];go_wp2_with fail
  rw [eA];go_wp2_with fail
  refine(Any8.slices_Grow_room growI aB 0 0 0 _ (by omega) (by omega) (by omega) (by omega)).mono ?_;rintro e w2 ⟨rfl,hw2⟩;obtain rfl:w=w2:=hw2.symm;go_wp2_with fail
  refine uY 3 ?_;rw [eA];go_wp2_with (at_builtin;refine S8 rfl _ _ rfl w.heap.size _ 0 [] rfl qG.o A1 c1 [] rfl vx.o (by omega) HZ.o ?_)
  intro v3 w3 ik hg3;have cB:Hid (w3.ownsRow w.heap.size 3 1 v3 (aA ([]:List Int)) ([].map (aG aF))):=by show jn _ _ _ _ _ _ _;simpa using ik
  have af:Hid (β w w3):=(aX _ _).grown hg3 HZ.o (λj hj=>ei qG.o j hj);have mB:Hid (β w w3):=sK.o.trans (af.o.mono ew.o);have q1:w3.cell? ⟨g,1,aB⟩=aC (aH A2 (aA ([]:List Int)) c2):=(mB.o.cell (p:=⟨g,1,aB⟩) hg).trans G1.o;have CD:Hid (wR w3 A2 c2 []):=H2.o.below mB.o;have uk:Hid (w.heap.size<=w3.heap.size):=cC HZ.o af.o.size;clear ik hg3;go_wp2_with fail
  rw [eA];go_wp2_with (at_builtin;refine S8 rfl _ _ rfl w.heap.size _ (aA ([]:List Int)) [] rfl cB.o A2 c2 [] rfl CD.o (by omega) uk.o ?_)
  intro v4 w4 gL hg4;have dU:Hid (w4.ownsRow w.heap.size 3 1 v4 (aA (([]:List Int)++ [])) (((([]:List Int)++ [])).map (aG aF))):=by show jn _ _ _ _ _ _ _;rw [cL];first|exact gL|(rw [dY];exact gL)
  have ar:Hid (β w w4):=mB.o.trans (((aX _ _).grown hg4 uk.o (λj hj=>ei cB.o j hj)).mono ew.o);clear gL hg4 q1;go_wp2_with fail
  rw [eA];go_wp2_with fail
  go_ret;obtain⟨A4,c4,rfl,jv⟩:=Xf dU.o rfl;exact⟨A4,c4,rfl,jv,ar.o⟩
 have yP:aF.wrap ((aA z1:Int)+aA z2)=(aA z1:Int)+aA z2:=sM _ (by omega);obtain⟨i0,bj,hz0,hz1,hz2⟩:=dK Qp;go_enter aAF,aB2
 go_wp2_with fail
 refine uY 3 ?_;rw [eA];go_wp2_with fail
 rw [eA];go_wp2_with fail
 rw [eA];go_wp2_with fail
 clear yP;rw [show ((aA z1:Int)+(aA z2:Int))=((aA z1+aA z2:Nat):Int) from by omega];refine(Any8.slices_Grow_grow growI i0 (ν 0) bj hz0 (by rw [hz1];decide) aB 0 0 (aA z1+aA z2) [] _ (by omega) (by omega) (by rw [hz2];omega) (by omega) (by simp) (λ_=>rfl) (λa h=>by cases h)).mono ?_;rintro e w2 ⟨rfl,hw2⟩;have qG:Hid (w2.ownsRow w.heap.size 3 1 (aH (aC ⟨w.heap.size,0,aB⟩) 0 (xB w (0+(aA z1+aA z2)) 0 3)) 0 (([]:List Int).map (aG aF))):=by show jn _ _ _ _ _ _ _;rw [hw2];exact aFU w (aA z1+aA z2) (by omega)
 have sK:Hid (β w w2):=by show RowKit.Below _ _ _;rw [hw2];exact(aX _ _).drew.alloc (aZ _) _
 have HZ:Hid (w.heap.size<=w2.heap.size):=sK.o.size;have ew:Hid (w.heap.size<=w.heap.size):=aZ _;have vx:Hid (wR w2 A1 c1 z1):=H1.o.below sK.o;have p0:w2.cell? ⟨g,0,aB⟩=aC (aH A1 (aA z1) c1):=(sK.o.cell (p:=⟨g,0,aB⟩) hg).trans g0;clear hw2 g0 g1;rw [show (growI_ren.t 25)=3 from rfl];generalize xB w (0+(aA z1+aA z2)) 0 3=cap at*;go_wp2_with fail
 refine uY 3 ?_;rw [eA];go_wp2_with (at_builtin;refine S8 rfl _ _ rfl w.heap.size _ 0 [] rfl qG.o A1 c1 z1 rfl vx.o (by omega) HZ.o ?_)
 intro v3 w3 ik hg3;have cB:Hid (w3.ownsRow w.heap.size 3 1 v3 (aA z1) (z1.map (aG aF))):=by show jn _ _ _ _ _ _ _;simpa using ik
 have af:Hid (aa w.heap.size w2 w3):=(aX _ _).grown hg3 HZ.o (λj hj=>ei qG.o j hj);have mB:Hid (β w w3):=sK.o.trans (af.o.mono ew.o);have q1:w3.cell? ⟨g,1,aB⟩=aC (aH A2 (aA z2) c2):=(mB.o.cell (p:=⟨g,1,aB⟩) hg).trans G1.o;have CD:Hid (wR w3 A2 c2 z2):=H2.o.below mB.o;have uk:Hid (w.heap.size<=w3.heap.size):=cC HZ.o af.o.size;clear ik hg3;go_wp2_with fail
 rw [eA];go_wp2_with (at_builtin;refine S8 rfl _ _ rfl w.heap.size _ (aA z1) z1 rfl cB.o A2 c2 z2 rfl CD.o (by omega) uk.o ?_)
 intro v4 w4 gL hg4;have dU:Hid (w4.ownsRow w.heap.size 3 1 v4 (aA (z1++z2)) ((z1++z2).map (aG aF))):=by show jn _ _ _ _ _ _ _;rw [cL];first|exact gL|(rw [dY];exact gL)
 have ar:Hid (β w w4):=mB.o.trans (((aX _ _).grown hg4 uk.o (λj hj=>ei cB.o j hj)).mono ew.o);clear gL hg4 q1;go_wp2_with fail
 rw [eA];go_wp2_with fail
 go_ret;obtain⟨A4,c4,rfl,jv⟩:=Xf dU.o rfl;exact⟨A4,c4,rfl,jv,ar.o⟩
end
section
structure Ev where
 k:Int
 m:Int
 a:Int
 n:Int
 o:Int
def Ev.cells(x:Ev):List aN:= [aG aF x.k,aG aF x.m,aG aF x.a,aG aF x.n,aG aF x.o]
def rK(l:List Ev):List aN:=l.flatMap Ev.cells
theorem aEr(l r:List Ev):rK (l++r)=rK l++rK r:=by simp [rK]
theorem a2f(l:List Ev):∀u∈rK l,u.oneCell'=aO:=by intro u hu;obtain⟨x,_,hx⟩:=List.mem_flatMap.1 hu;simp [Ev.cells] at hx;rcases hx with rfl|rfl|rfl|rfl|rfl<;>rfl
theorem aEs(l:List Ev):aA (rK l)=aA l*5:=by
 induction l with
 |nil=>rfl
 |cons x l ih=>simp only [rK,wP,cL,uB] at*;rw [ih];simp [Ev.cells];omega
structure Dk where
 x:ak
 l:List Int
 h:List Hr
 ob:List Ob
 bx:List Bd
 who:List Int
 aj:Int
 st:Int
 en:Bool
 log:List Ev
structure Dp where
 vb:Nat
 vp:Vp
 sb:Nat
 sv:aN
 xb:Nat
 xc:ak
 xv:aN
 wv:aN
 lv:aN
def Uo(p:Dp)(D:Dk):Array aN:= #[aH D.x.Am (aA D.x.ms) D.x.cm,aH D.x.As (aA D.x.ss) D.x.cs,aH D.x.Ac (aA D.x.cy) D.x.cc,aG aF D.x.line,aG aF D.x.bu,aG aF D.x.lead,aG aF D.x.tr,aG aF D.x.bY,bH (aC ⟨p.vb,0,aB⟩),bH (aC ⟨p.sb,0,aB⟩),bH (aC ⟨p.xb,0,aB⟩),p.wv,aG aF D.aj,aG aF D.st,bM D.en,p.lv]
structure bT(w:aJ)(db:Nat)(p:Dp)(D:Dk):Prop where
 blk:w.heap[db]? =aC (aK (Uo p D) 90 (0,0))
 cf:vw w 0 D.x
 vt:iB w p.vb p.vp (aA D.x.ms) (aA D.x.ss+1) (aA D.x.ms) D.l D.h
 sh:fX w p.sb 0 p.sv D.ob
 bx:jY w p.xb p.xc p.xv D.bx
 FK:vw w 0 p.xc
 same:p.xc.ms=D.x.ms/\p.xc.ss=D.x.ss/\p.xc.cy=D.x.cy/\p.xc.bY=D.x.bY
 who:w.ownsRow 0 3 1 p.wv (aA D.who) (D.who.map (aG aF))
 log:w.ownsRow 0 45 5 p.lv (aA D.log) (rK D.log)
def eY(db:Nat)(p:Dp)(k:Nat):Prop:=k=db\/rG p.vb p.vp k\/(k=p.sb\/p.sv.ownBlock=aC k)\/(k=p.xb\/p.xv.ownBlock=aC k)\/p.wv.ownBlock=aC k\/p.lv.ownBlock=aC k
def Ty(w:aJ)(T:List bX)(k:Nat):Prop:=∃cs t,t∈T/\w.heap[k]? =aC (aK cs t (0,0))
theorem Ty.own {w:aJ} {base:Nat} {e:bX} {s n:Nat} {v:aN} {xs:List aN}(h:w.ownsRow base e s v n xs) {k:Nat}(hk:v.ownBlock=aC k):Ty w [e] k:=by
 rcases h.2 with⟨rfl,_⟩|⟨g,cap,cur,rfl,_,hh,_⟩
 ·simp [dx] at hk
 have e':g=k:=by simpa [dx] using hk
 subst e';exact⟨_,_,List.mem_singleton.2 rfl,hh⟩
theorem Ty.mono {w:aJ} {T T':List bX} {k:Nat}(h:Ty w T k)(hs:∀t∈T,t∈T'):Ty w T' k:=by obtain⟨cs,t,ht,hh⟩:=h;exact⟨cs,t,hs t ht,hh⟩
theorem Ty.apart {w:aJ} {T T':List bX} {k:Nat}(h:Ty w T k)(h':Ty w T' k)(hd:∀t∈T,t∉T'):False:=by obtain⟨cs,t,ht,hh⟩:=h;obtain⟨cs',t',zu,Hb⟩:=h';rw [hh] at Hb;injection Hb with e;injection e with _ e2;subst e2;exact hd t ht zu
def TV:List bX:= [141,216,2,218,188]
def TS:List bX:= [146,59]
def TX:List bX:= [134,41]
def TC:List bX:= [67,69,71]
theorem iB.ty {w:aJ} {vb:Nat} {p:Vp} {M A:Nat} {room:Int} {l:List Int} {h:List Hr}(H:iB w vb p M A room l h) {k:Nat}(hk:rG vb p k):Ty w TV k:=by
 rcases hk with rfl|rfl|e|rfl|e
 ·exact⟨_,_,by decide,H.blk⟩
 ·exact⟨_,_,by decide,H.bk.blk⟩
 ·exact(Ty.own H.bk.own e).mono (by decide)
 ·exact⟨_,_,by decide,H.tb.blk⟩
 exact(Ty.own H.tb.own e).mono (by decide)
theorem fX.ty {w:aJ} {bs base:Nat} {v:aN} {L:List Ob}(H:fX w bs base v L) {k:Nat}(hk:k=bs\/v.ownBlock=aC k):Ty w TS k:=by
 rcases hk with rfl|e
 ·exact⟨_,_,by decide,H.s⟩
 exact(Ty.own H.own e).mono (by decide)
theorem jY.ty {w:aJ} {xb:Nat} {x:ak} {v:aN} {L:List Bd}(H:jY w xb x v L) {k:Nat}(hk:k=xb\/v.ownBlock=aC k):Ty w TX k:=by
 rcases hk with rfl|e
 ·exact⟨_,_,by decide,H.blk⟩
 exact(Ty.own H.own e).mono (by decide)
theorem vw.upd {w w':aJ} {S:Nat->Prop} {b:Nat} {x:ak}(h:vw w b x)(hu:bC S w w')(hS:∀k,Ty w TC k->¬S k):vw w' b x:=
 ⟨hu.own h.m (λk hk=>hS k ((Ty.own h.m hk).mono (by decide))),hu.own h.s (λk hk=>hS k ((Ty.own h.s hk).mono (by decide))),hu.own h.c (λk hk=>hS k ((Ty.own h.c hk).mono (by decide)))⟩
theorem fX.upd {w w':aJ} {S:Nat->Prop} {bs base:Nat} {v:aN} {L:List Ob}(H:fX w bs base v L)(hu:bC S w w')(hS:∀k,Ty w TS k->¬S k):fX w' bs base v L:=
 ⟨(hu.keep bs H.lt (hS bs (H.ty (.inl rfl)))).trans H.s,hu.own H.own (λk hk=>hS k (H.ty (.inr hk)))⟩
theorem jY.upd {w w':aJ} {S:Nat->Prop} {xb:Nat} {x:ak} {v:aN} {L:List Bd}(H:jY w xb x v L)(hu:bC S w w')(hS:∀k,Ty w TX k->¬S k):jY w' xb x v L:=
 ⟨(hu.keep xb H.lt (hS xb (H.ty (.inl rfl)))).trans H.blk,hu.own H.own (λk hk=>hS k (H.ty (.inr hk)))⟩
theorem Only.upd {bs:Nat} {v:aN} {w w':aJ}(h:Only bs v w w'):bC (λk=>k=bs\/v.ownBlock=aC k) w w':=
 ⟨h.os,h.tape,h.output,h.size,λk hk hn=>h.block k hk (λe=>hn (.inl e)) (λe=>hn (.inr e.symm))⟩
section
variable {w w':aJ} {db:Nat} {p:Dp} {D:Dk} (H:bT w db p D)
include H
theorem bT.lt:db<w.heap.size:=(fY.1 H.blk).1
theorem bT.ty:Ty w [90] db:=⟨_,_,by decide,H.blk⟩
theorem bT.below(hb:aa w.heap.size w w'):bT w' db p D:=
 ⟨(hb.block _ H.lt).trans H.blk,H.cf.below hb,H.vt.below hb,H.sh.below hb,H.bx.below hb,H.FK.below hb,H.same,iI H.who hb,iI H.log hb⟩
theorem bT.a7k(hu:bC (rG p.vb p.vp) w w') {S6:Vp} {l':List Int} {h':List Hr}(hv:iB w' p.vb S6 (aA D.x.ms) (aA D.x.ss+1) (aA D.x.ms) l' h'):bT w' db {p with vp:=S6} {D with l:=l',h:=h'}:=by
 have no:∀ {T:List bX} {k:Nat},Ty w T k->(∀t∈T,t∉TV)->¬rG p.vb p.vp k:=λhk hd hs=>hk.apart (H.vt.ty hs) hd
 exact⟨(hu.keep db H.lt (no H.ty (by decide))).trans H.blk,H.cf.upd hu (λk hk=>no hk (by decide)),hv,H.sh.upd hu (λk hk=>no hk (by decide)),H.bx.upd hu (λk hk=>no hk (by decide)),H.FK.upd hu (λk hk=>no hk (by decide)),H.same,hu.own H.who (λk hk=>no (Ty.own H.who hk) (by decide)),hu.own H.log (λk hk=>no (Ty.own H.log hk) (by decide))⟩
theorem bT.aJz(hu:bC (λk=>k=p.sb\/p.sv.ownBlock=aC k) w w') {Rp:aN} {cQ:List Ob}(hs:fX w' p.sb 0 Rp cQ):bT w' db {p with sv:=Rp} {D with ob:=cQ}:=by
 have no:∀ {T:List bX} {k:Nat},Ty w T k->(∀t∈T,t∉TS)->¬(k=p.sb\/p.sv.ownBlock=aC k):=λhk hd hs=>hk.apart (H.sh.ty hs) hd
 exact⟨(hu.keep db H.lt (no H.ty (by decide))).trans H.blk,H.cf.upd hu (λk hk=>no hk (by decide)),H.vt.upd hu (λk hk=>no (H.vt.ty hk) (by decide)),hs,H.bx.upd hu (λk hk=>no hk (by decide)),H.FK.upd hu (λk hk=>no hk (by decide)),H.same,hu.own H.who (λk hk=>no (Ty.own H.who hk) (by decide)),hu.own H.log (λk hk=>no (Ty.own H.log hk) (by decide))⟩
theorem bT.box(hu:bC (λk=>k=p.xb\/p.xv.ownBlock=aC k) w w') {xv':aN} {Ln:List Bd}(hb:jY w' p.xb p.xc xv' Ln):bT w' db {p with xv:=xv'} {D with bx:=Ln}:=by
 have no:∀ {T:List bX} {k:Nat},Ty w T k->(∀t∈T,t∉TX)->¬(k=p.xb\/p.xv.ownBlock=aC k):=λhk hd hs=>hk.apart (H.bx.ty hs) hd
 exact⟨(hu.keep db H.lt (no H.ty (by decide))).trans H.blk,H.cf.upd hu (λk hk=>no hk (by decide)),H.vt.upd hu (λk hk=>no (H.vt.ty hk) (by decide)),H.sh.upd hu (λk hk=>no hk (by decide)),hb,H.FK.upd hu (λk hk=>no hk (by decide)),H.same,hu.own H.who (λk hk=>no (Ty.own H.who hk) (by decide)),hu.own H.log (λk hk=>no (Ty.own H.log hk) (by decide))⟩
theorem bT.PJ(i:Nat)(u:aN) {p':Dp} {D':Dk}(hc:(Uo p D).setIfInBounds i u=Uo p' D')(hx:D'.x=D.x)(hl:D'.l=D.l)(hh:D'.h=D.h)(ho:D'.ob=D.ob)(hb:D'.bx=D.bx)(hp:p'.vb=p.vb/\p'.vp=p.vp/\p'.sb=p.sb/\p'.sv=p.sv/\p'.xb=p.xb/\p'.xc=p.xc/\p'.xv=p.xv)(hw:w.ownsRow 0 3 1 p'.wv (aA D'.who) (D'.who.map (aG aF)))(hg:w.ownsRow 0 45 5 p'.lv (aA D'.log) (rK D'.log)):bT (w.setCell ⟨db,i,aB⟩ u) db p' D':=by
 have hu:=(bC.refl (λk=>k=db) w).setCell (p:=⟨db,i,aB⟩) (.inl rfl) u;have no:∀ {T:List bX} {k:Nat},Ty w T k->(∀t∈T,t∉ [90])->¬k=db:=λhk hd hs=>hk.apart (hs▸H.ty) hd
 obtain⟨h1,h2,h3,h4,h5,h6,h7⟩:=hp;refine⟨?_, ?_, ?_, ?_, ?_, ?_, ?_,hu.own hw (λk hk=>no (Ty.own hw hk) (by decide)),hu.own hg (λk hk=>no (Ty.own hg hk) (by decide))⟩
 ·rw [om H.blk i u,hc]
 ·rw [hx];exact H.cf.upd hu (λk hk=>no hk (by decide))
 ·rw [h1,h2,hx,hl,hh];exact H.vt.upd hu (λk hk=>no (H.vt.ty hk) (by decide))
 ·rw [h3,h4,ho];exact H.sh.upd hu (λk hk=>no hk (by decide))
 ·rw [h5,h6,h7,hb];exact H.bx.upd hu (λk hk=>no hk (by decide))
 ·rw [h6];exact H.FK.upd hu (λk hk=>no hk (by decide))
 rw [h6,hx];exact H.same
theorem bT.uR {k:Nat}(hk:eY db p k):k<w.heap.size:=by
 rcases hk with rfl|e|(rfl|e)|(rfl|e)|e|e
 ·exact H.lt
 ·exact H.vt.aC5 _ e
 ·exact H.sh.lt
 ·exact(H.sh.own.lt k e).2
 ·exact H.bx.lt
 ·exact(H.bx.own.lt k e).2
 ·exact(H.who.lt k e).2
 exact(H.log.lt k e).2
theorem bT.told(hg:w.grownBy w' p.lv.ownBlock) {yR:aN} {Ww:List Ev}(ho:w'.ownsRow 0 45 5 yR (aA Ww) (rK Ww)):bT (w'.setCell ⟨db,15,aB⟩ yR) db {p with lv:=yR} {D with log:=Ww}:=by
 have yN:=gM H.log H.blk (by decide);have hb1:=(hg.block db H.lt (λe=>yN e.symm)).trans H.blk;have hu:bC (λk=>k=db\/p.lv.ownBlock=aC k) w (w'.setCell ⟨db,15,aB⟩ yR):=(bC.I4 hg (λk hk=> .inl (.inr hk))).setCell (p:=⟨db,15,aB⟩) (.inl (.inl rfl)) _;have tyS:∀k,(k=db\/p.lv.ownBlock=aC k)->Ty w [90,45] k:=λk hk=>by
  rcases hk with rfl|e
  ·exact H.ty.mono (by decide)
  exact(Ty.own H.log e).mono (by decide)
 have no:∀ {T:List bX} {k:Nat},Ty w T k->(∀t∈T,t∉ [90,45])->¬(k=db\/p.lv.ownBlock=aC k):=λhk hd hs=>hk.apart (tyS _ hs) hd
 exact⟨(om hb1 15 yR).trans rfl,H.cf.upd hu (λk hk=>no hk (by decide)),H.vt.upd hu (λk hk=>no (H.vt.ty hk) (by decide)),H.sh.upd hu (λk hk=>no hk (by decide)),H.bx.upd hu (λk hk=>no hk (by decide)),H.FK.upd hu (λk hk=>no hk (by decide)),H.same,hu.own H.who (λk hk=>no (Ty.own H.who hk) (by decide)),jz ho (gM ho hb1 (by decide)) _⟩
end
def aq(db:Nat)(p:Dp)(D':Dk)(w w':aJ):Prop:=
 ∃p',bT w' db p' D'/\p'.vb=p.vb/\p'.sb=p.sb/\p'.xb=p.xb/\p'.xc=p.xc/\bC (eY db p) w w'/\∀k,eY db p' k->eY db p k\/w.heap.size<=k
theorem aq.refl {db:Nat} {p:Dp} {D:Dk} {w:aJ}(H:bT w db p D):aq db p D w w:=⟨p,H,rfl,rfl,rfl,rfl,bC.refl _ _,λ_ h=> .inl h⟩
theorem aq.bV {db:Nat} {p:Dp} {D:Dk} {w w':aJ}(H:bT w db p D)(hb:aa w.heap.size w w'):aq db p D w w':=⟨p,H.below hb,rfl,rfl,rfl,rfl,bC.bV _ hb,λ_ h=> .inl h⟩
theorem aq.trans {db:Nat} {p p1:Dp} {D2:Dk} {w w1 w2:aJ}(hu:bC (eY db p) w w1)(hs:∀k,eY db p1 k->eY db p k\/w.heap.size<=k)(hp:p1.vb=p.vb/\p1.sb=p.sb/\p1.xb=p.xb/\p1.xc=p.xc)(h2:aq db p1 D2 w1 w2):aq db p D2 w w2:=by obtain⟨p2,H2,e1,e2,e3,e4,vS,hs2⟩:=h2;exact⟨p2,H2,e1.trans hp.1,e2.trans hp.2.1,e3.trans hp.2.2.1,e4.trans hp.2.2.2,hu.trans vS hs,λk hk=>(hs2 k hk).elim (hs k) (λh=> .inr (cC hu.size h))⟩
theorem aq.below {db:Nat} {p:Dp} {D:Dk} {w w1 w2:aJ}(h:aq db p D w w1)(hb:aa w1.heap.size w1 w2):aq db p D w w2:=by obtain⟨p1,H,e1,e2,e3,e4,hu,hs⟩:=h;exact⟨p1,H.below hb,e1,e2,e3,e4,hu.below hb,hs⟩
end
structure Dw where
 k:Int
 m:Int
 n:Int
deriving DecidableEq
def Dw.cells(x:Dw):List aN:= [aG aF x.k,aG aF x.m,aG aF x.n]
def gR(l:List Dw):List aN:=l.flatMap Dw.cells
theorem PX {w:aJ} {B:Nat} {A:Option ai} {l:List Dw}(h:aW w B A (gR l)) {k:Nat}(hk:k<aA l):
 ∃b o,A=aC ⟨b,o,aB⟩/\b<B/\w.cell? ⟨b,o+k*3,aB⟩=aC (ν l[k].k)/\w.cell? ⟨b,o+k*3+1,aB⟩=aC (ν l[k].m)/\w.cell? ⟨b,o+k*3+2,aB⟩=aC (ν l[k].n):=by
 obtain⟨b,o,e,hb,hc⟩:=h.run (i:=k*3) (y:=ν l[k].k) (t:= [ν l[k].m,ν l[k].n]) (λj u hu=>tC Dw.cells 3 (λ_=>rfl) l k hk j u hu);exact⟨b,o,e,hb,hc 0 _ rfl,hc 1 _ rfl,hc 2 _ rfl⟩
theorem Ut(x:Dw):∀u∈x.cells,u.oneCell'=aO:=by intro u hu;simp [Dw.cells] at hu;rcases hu with rfl|rfl|rfl<;>rfl
theorem a2S(l:List Dw)(x:Dw):gR (l++ [x])=gR l++x.cells:=by simp [gR]
theorem PY:(aM.info? 196).map (λi=>(i.zero,i.size,i.bytes))=aC (aC (bO #[aG aF 0,aG aF 0,aG aF 0]),3,24):=by kernel_rfl
theorem a1r(zs:List Int)(A:Option ai)(c:Nat)(m:Int)(w:aJ)(h:aW w w.heap.size A (zs.map (aG aF)))(hl:aA zs<=1000000):
 aQ aM 101 #[aH A (aA zs) c,ν m] w λe w'=>e=aU (bM (zs.contains m))/\w=w':=by
 rcases Nat.eq_zero_or_pos (aA zs) with h0|h0
 ·have hz:=nG h0;subst hz;refine(slices_Contains_int_empty A c m _).mono ?_;rintro e w1 ⟨rfl,hw⟩;exact⟨rfl,hw.symm⟩
 obtain⟨b,o,rfl,hb,_⟩:=tK h h0;refine(slices_Contains_int b o (aA zs) c zs m _ (aZ _) (by omega) (Xe h)).mono ?_;rintro e w1 ⟨rfl,hw⟩;exact⟨by rw [cU],hw.symm⟩
theorem PA(k m n:Int)(w:aJ):
 aQ aM 222 #[ν k,ν m,ν n] w λe w'=>e=aU (aH (aC ⟨w.heap.size,0,aB⟩) 1 1)/\w.alloc (aK #[ν k,ν m,ν n] 196)=w':=by
 go_enter func222,ntmps222
 go_wp2
 go_ret;exact⟨rfl,rfl⟩
def cV(L:List Dw):Int:=(L.map λx=>max x.n 0).sum
def s7(L:List Dw):Int:=if cV L<=9223372036854775807 then cV L else 9223372036854775807
theorem a7b {L:List Dw} {k:Nat}(hk:k<aA L):cV (L.take (k+1))=cV (L.take k)+max L[k].n 0:=by unfold cV;rw [fF hk,dY,Cc];simp
theorem IL(L:List Dw):0<=cV L:=by
 unfold cV;induction L with
 |nil=>simp
 |cons x L ih=>simp only [yB,EF];omega
theorem aKq(L:List Dw)(k:Nat):cV (L.take k)<=cV L:=by
 have h:cV L=cV (L.take k)+cV (L.drop k):=by unfold cV;rw [<-Cc,<-dY,List.take_append_drop]
 have:=IL (L.drop k);omega
theorem aKr {L:List Dw} {k:Nat}(hk:k<aA L)(h:9223372036854775807-cV (L.take k)<L[k].n):s7 L=9223372036854775807:=by have h1:=a7b hk;have h2:=aKq L (k+1);unfold s7;rw [ifN];omega
theorem Rz {L:List Dw}(h:cV L<=9223372036854775807):s7 L=cV L:=by unfold s7;rw [ifP h]
theorem a7c(L:List Dw)(A:Option ai)(c:Nat)(w:aJ)(hs:aW w w.heap.size A (gR L))(hI:∀x∈L,aL x.n)(hl:aA L<=100000):
 aQ aM 186 #[aH A (aA L) c] w λe w'=>e=aU (ν (s7 L))/\β w w':=by
 have HS:=η hs;have HI:=η hI;go_enter func186,ntmps186
 go_wp2
 go_loopw [3,8] (λn i wr=>∃k:Nat,∃s:Int,k<=aA L/\i=ν k/\n=ν s/\Hid (s=cV (L.take k))/\0<=s/\s<=9223372036854775807/\Hid (β w wr)) (λ_ i _=>aA L-(ag i).toNat)
 ·exact⟨0,0,bL _,rfl,rfl,rfl,by omega,by omega,aX _ _⟩
 ·
  obtain⟨k,s,hk,rfl,rfl,HT,h0,h1,HB⟩:=hrel;have hsz:=HB.o.size;by_cases hlt:k<aA L
  ·obtain⟨b,o,rfl,hb,d0,d1,d2⟩:=PX (HS.o.below HB) hlt;have aR:Hid (∀v,β w (wr.alloc v)):=η λv=>HB.o.alloc hsz v
   have hn:=HI.o _ (cK hlt);unfold aL at hn;have cG:=η (a7b hlt);have Ib:Hid (9223372036854775807-s<L[k].n->s7 L=9223372036854775807):=η λh=>aKr hlt (by rw [<-HT.o];exact h)
   generalize L[k].n=x at*;by_cases kh:9223372036854775807-s<x
   ·have HV:=η (Ib kh);go_wp2
    go_ret;exact⟨cY HV.o.symm,aR _⟩
   have bU:=decide_eq_false kh;have E7:Hid (s+max x 0=cV (L.take (k+1))):=η (by rw [cG.o,HT.o]);have yP:=sM _ (by omega);by_cases hx:x<=0
   ·have hm:max x 0=0:=by omega
    rw [hm,Int.add_zero] at E7;go_wp2
    go_roundw
    ·exact⟨k+1,s,by omega,by go_num,rfl,E7,h0,h1,η (aR _)⟩
    simp [ag];omega
   have hm:max x 0=x:=by omega
   rw [hm] at E7;have hw2:=sM _ (by omega);go_wp2
   go_roundw
   ·exact⟨k+1,s+x,by omega,by go_num,rfl,E7,by omega,by omega,η (aR _)⟩
   simp [ag];omega
  obtain rfl:k=aA L:=by omega
  have HV:Hid (s=s7 L):=η (by have:=HT.o;rw [cU] at this;rw [this,Rz (by omega)]);go_wp2
  go_ret;exact⟨cY HV,HB⟩
structure DkC(W:aJ)(db:Nat)(p:Dp)(D:Dk):Prop where
 c0:W.cell? ⟨db,0,aB⟩=aC (aH D.x.Am (aA D.x.ms) D.x.cm)
 c1:W.cell? ⟨db,1,aB⟩=aC (aH D.x.As (aA D.x.ss) D.x.cs)
 c2:W.cell? ⟨db,2,aB⟩=aC (aH D.x.Ac (aA D.x.cy) D.x.cc)
 c3:W.cell? ⟨db,3,aB⟩=aC (ν D.x.line)
 c4:W.cell? ⟨db,4,aB⟩=aC (ν D.x.bu)
 c5:W.cell? ⟨db,5,aB⟩=aC (ν D.x.lead)
 c6:W.cell? ⟨db,6,aB⟩=aC (ν D.x.tr)
 c7:W.cell? ⟨db,7,aB⟩=aC (ν D.x.bY)
 c8:W.cell? ⟨db,8,aB⟩=aC (π p.vb)
 c9:W.cell? ⟨db,9,aB⟩=aC (π p.sb)
 c10:W.cell? ⟨db,10,aB⟩=aC (π p.xb)
 c11:W.cell? ⟨db,11,aB⟩=aC (p.wv)
 c12:W.cell? ⟨db,12,aB⟩=aC (ν D.aj)
 c13:W.cell? ⟨db,13,aB⟩=aC (ν D.st)
 c14:W.cell? ⟨db,14,aB⟩=aC (bM D.en)
 c15:W.cell? ⟨db,15,aB⟩=aC (p.lv)
theorem bT.cells {w:aJ} {db:Nat} {p:Dp} {D:Dk}(H:bT w db p D):DkC w db p D:=
 ⟨ρ H.blk,ρ H.blk,ρ H.blk,ρ H.blk,ρ H.blk,ρ H.blk,ρ H.blk,ρ H.blk,ρ H.blk,ρ H.blk,ρ H.blk,ρ H.blk,ρ H.blk,ρ H.blk,ρ H.blk,ρ H.blk⟩
theorem zW(db:Nat)(p:Dp)(D:Dk)(k m a:Int)(w:aJ)(H:bT w db p D)(hk:aL k)(hm:aL m):
 aQ aM 46 #[π db,bO #[ν k,ν m],ν a] w λe w'=>e=aU (ν (balA (aA D.x.ms) (aA D.x.ss+1) D.l k m a))/\β w w':=by
 have aY:Hid (β w (w.alloc (aK #[ν k,ν m] 51))):=η σ;have dC:Hid ((w.alloc (aK #[ν k,ν m] 51)).heap[w.heap.size]? =aC (aK #[ν k,ν m] 51 (0,0))):=η (cT w _);have hz0:w.heap.size<(w.alloc (aK #[ν k,ν m] 51)).heap.size:=by simp
 have LA:=η (λW (hW:β w W)=>(H.below hW).cells.c8);have LF:=η (λW (hW:β w W)=>Y6 p.vb p.vp (aA D.x.ms) (aA D.x.ss+1) (aA D.x.ms) D.l D.h k m a W (H.below hW).vt hk hm);generalize balA (aA D.x.ms) (aA D.x.ss+1) D.l k m a=bv at*;generalize nZ (plcA (aA D.x.ms) (aA D.x.ss+1) k m a)=be at*;go_enter func46,ntmps46
 go_upto_region 1 with (fail)
 generalize w.alloc (aK #[ν k,ν m] 51)=w1 at*;obtain⟨bx,bQ⟩:∃bx,bx=w.heap.size:=⟨_,rfl⟩;rw [<-bQ] at dC hz0 ⊢;clear bQ;have bW:Hid (∀W,β w1 W->W.cell? ⟨db,8,aB⟩=aC (π p.vb)/\W.cell? ⟨bx,0,aB⟩=aC (ν k)/\W.cell? ⟨bx,1,aB⟩=aC (ν m)):=η (by intro W hW;have hd:=(hW.block bx hz0).trans dC.o;exact⟨LA.o W (aY.o.trans (hW.mono aY.o.size)),ρ hd,ρ hd⟩);have eJ:Hid (∀W,β w1 W->β w W):=η (λW hW=>aY.o.trans (hW.mono aY.o.size));have bU:β w1 w1.drew:=(aX _ _).drew;go_region_held3 (λW=>W.cell? ⟨db,8,aB⟩=aC (π p.vb)/\W.cell? ⟨bx,0,aB⟩=aC (ν k)/\W.cell? ⟨bx,1,aB⟩=aC (ν m)) (first|(with_reducible exact bW.o _ bU)|(with_reducible exact bW.o _ hb2)|(with_reducible exact bW.o _ hb3)) ((go_at_call 41;refine(LF.o _ (eJ.o _ bU)).mono ?_;rintro e w2 ⟨rfl,BQ⟩;have hb2:β w1 w2:=bU.trans (BQ.mono bU.size)))
 have aV:=η (eJ.o _ hb2);clear hb2 BQ bU bW LA LF eJ aY dC;go_wp2_with fail
 go_ret;exact⟨rfl,aV.o⟩
theorem JY(db:Nat)(p:Dp)(D:Dk)(s:Int)(A:Option ai)(c:Nat)(w:aJ)(H:bT w db p D)(hs:aW w w.heap.size A [aG aF s]):
 aQ aM 51 #[π db,aH A 1 c] w λe w'=>e=aU (ν (if D.st=s then 0 else 11))/\β w w':=by
 have c13:=H.cells.c13;have xX:=η (a1r [s] A c D.st w hs (by simp));generalize D.st=st at*;by_cases h:st=s
 ·have hq:([s]:List Int).contains st=aO:=by simp [h]
  rw [hq] at xX;rw [ifP h];clear h hq;go_enter aAY,aBK
  go_wp2_with (go_at_call 101;refine xX.o.mono ?_;rintro e w2 ⟨rfl,rfl⟩)
  go_ret;exact⟨rfl,aX _ _⟩
 have hq:([s]:List Int).contains st=aP:=by simp [h]
 rw [hq] at xX;rw [ifN h];go_enter aAY,aBK
 go_wp2_with (go_at_call 101;refine xX.o.mono ?_;rintro e w2 ⟨rfl,rfl⟩)
 go_ret;exact⟨rfl,aX _ _⟩
theorem aGg:(aM.info? 45).map (λi=>(i.zero,i.size,i.bytes))=aC (aC (bO #[aG aF 0,aG aF 0,aG aF 0,aG aF 0,aG aF 0]),5,40):=by kernel_rfl
theorem wx(db:Nat)(p:Dp)(D:Dk)(xs:List Ev)(b c:Nat)(w:aJ)(H:bT w db p D)(hb:∀j u,(rK xs)[j]? =aC u->w.cell? ((⟨b,0,aB⟩:ai).add j)=aC u)(hx1:1<=aA xs)(hx:aA xs<=100000)(hl:aA D.log<=1000000):
 aQ aM 55 #[π db,aH (aC ⟨b,0,aB⟩) (aA xs) c] w λe w'=>e=aU (bB #[])/\aq db p {D with log:=D.log++xs} w w':=by
 obtain⟨A,cl,hv⟩:=bJ H.log;have d0:=H.cells.c15;have HO:=η H.log;have yN:=H.lt;have HF:=η H;have HN:=η hb;rw [hv] at d0 HO;obtain⟨i0,bj,hz0,fh,xK⟩:=dK aGg;go_enter func55,ntmps55
 go_wp2_with (at_builtin;refine wpList_append_lies _ rfl _ _ 35 rfl 0 45 i0 _ 5 40 underlying35 bj hz0 fh xK rfl (by omega) _ _ _ rfl HO.o ⟨b,0,aB⟩ (aA xs) c (rK xs) rfl (aEs xs) HN.o (a2f xs) (by omega) (by simp only [bK];omega) (by omega) (bL _) w.heap.size rfl ?_)
 intro g cap w2 hown hgr hat _;have hb2:=(hgr.block db yN (λe=>gM HF.o.log HF.o.blk (by decide) (by rw [hv];exact e.symm))).trans HF.o.blk;have f15:w2.frozen? ⟨db,15,aB⟩=aP:=by simp [iU,hb2]
 have c15:w2.cell? ⟨db,15,aB⟩=aC p.lv:=ρ hb2;have HG:Hid (w.grownBy w2 p.lv.ownBlock):=η (by rw [hv];exact hgr);have dB:Hid (w2.ownsRow 0 45 5 (aH (aC ⟨g,0,aB⟩) (aA D.log+aA xs) cap) (aA (D.log++xs)) (rK (D.log++xs))):=η (by rw [cL,aEr];exact hown);have Nj:Hid (p.lv.ownBlock=aC g\/g=w.heap.size):=η (by rw [hv];exact hat);clear hown hgr hat hb2 HO HN d0;go_wp2
 go_end0
 refine⟨rfl,_,HF.o.told HG.o dB.o,rfl,rfl,rfl,rfl, ?_, ?_⟩
 ·exact(bC.I4 HG.o (λk hk=> .inl (.inr (.inr (.inr (.inr (.inr hk))))))).setCell (p:=⟨db,15,aB⟩) (.inl (.inl rfl)) _
 rintro k (e|e|e|e|e|e)
 ·exact .inl (.inl e)
 ·exact .inl (.inr (.inl e))
 ·exact .inl (.inr (.inr (.inl e)))
 ·exact .inl (.inr (.inr (.inr (.inl e))))
 ·exact .inl (.inr (.inr (.inr (.inr (.inl e)))))
 have e2:g=k:=by simpa [dx] using e
 rcases Nj.o with h|h
 ·exact .inl (.inr (.inr (.inr (.inr (.inr (by rw [h,e2]))))))
 exact .inr (by omega)
theorem bT.src {w:aJ} {db:Nat} {p:Dp} {D:Dk}(H:bT w db p D):lS w D.x:=H.cf.src.ok
def oK(D:Dk)(m a:Int):Int:=if jS D.x m≠0 then jS D.x m else if a=0 then 0 else jC D.x a
theorem a2Q(db:Nat)(p:Dp)(D:Dk)(m a:Int)(w:aJ)(H:bT w db p D)(hm:aL m)(ha:aL a):
 aQ aM 118 #[π db,ν m,ν a] w λe w'=>e=aU (ν (oK D m a))/\β w w':=by
 have HM:=η (PO D.x m w H.src hm);have HS:=η (λW (hW:β w W)=>NS D.x a W (H.below hW).src ha);have HC:=η (λW (hW:β w W)=>(H.below hW).cells);obtain⟨c0,c1,c2,c3,c4,c5,c6,c7,c8,c9,c10,c11,c12,c13,c14,c15⟩:=H.cells;have hE:oK D m a=if jS D.x m≠0 then jS D.x m else if a=0 then 0 else jC D.x a:=rfl
 have HE:=η hE;generalize oK D m a=ee at HE ⊢;unfold ak.val at HM HS;generalize jS D.x m=me at*;generalize uS D.x m=mp at*;generalize jC D.x a=se at*;generalize dW D.x a=sp at*;go_enter func118,ntmps118
 go_upto_region 2 with (go_at_call 147;refine HM.o.mono ?_;rintro e w1 ⟨rfl,hb1⟩;have aR:=η hb1)
 have aV:Hid (β w (w1.alloc (aK #[ν mp.a,ν mp.b] 67))):=η (aR.o.alloc aR.o.size _);generalize w1.alloc (aK #[ν mp.a,ν mp.b] 67)=w2 at*;by_cases h1:me=0
 case neg=>
  have hb:(me==0)=aP:=by simpa using h1
  have HF:Hid (me=ee):=η (by rw [HE.o,ifP h1]);clear HE h1;go_wp2_with fail
  go_ret;exact⟨cY HF.o,aV.o⟩
 subst h1;by_cases h2:a=0
 ·subst h2;have HF:Hid (0=ee):=η (by rw [HE.o,ifN (by simp),ifP rfl]);clear HE;go_wp2_with fail
  go_ret;exact⟨cY HF.o,aV.o⟩
 have HF:Hid (se=ee):=η (by rw [HE.o,ifN (by simp),ifN h2]);have hb2:(a==0)=aP:=by simpa using h2
 obtain⟨c0,c1,c2,c3,c4,c5,c6,c7,c8,c9,c10,c11,c12,c13,c14,c15⟩:=HC.o _ aV.o;clear h2 HC HE c8 c9 c10 c11 c12 c13 c14 c15;go_wp2_with (go_at_call 117;refine(HS.o _ aV.o).mono ?_;rintro e w3 ⟨rfl,hb3⟩;have af:=τ aV hb3;clear hb3)
 go_ret;exact⟨cY HF.o,af.o.alloc af.o.size _⟩
def nY(D:Dk)(m n:Int):Int:=if jS D.x m≠0 then jS D.x m else if hasB D.who m=aO then 14 else if n<1 then 1 else 0
theorem a2L(db:Nat)(p:Dp)(D:Dk)(m n:Int)(w:aJ)(H:bT w db p D)(hm:aL m)(hw:aA D.who<=100000):
 aQ aM 85 #[π db,ν m,ν n] w λe w'=>e=aU (ν (nY D m n))/\β w w':=by
 have HM:=η (PO D.x m w H.src hm);have HC:=η (λW (hW:β w W)=>(H.below hW).cells.c11);obtain⟨Aw,cw,hv⟩:=bJ H.who;have HH:=η (λW (hW:β w W)=>MM D.who Aw cw m W (by have h1:=(H.below hW).who;rw [hv] at h1;exact aW.cA h1) (by omega));rw [hv] at HC;obtain⟨c0,c1,c2,c3,c4,c5,c6,c7,c8,c9,c10,c11,c12,c13,c14,c15⟩:=H.cells;have hE:nY D m n=if jS D.x m≠0 then jS D.x m else if hasB D.who m=aO then 14 else if n<1 then 1 else 0:=rfl
 have HE:=η hE;generalize nY D m n=ee at HE ⊢;unfold ak.val at HM;generalize jS D.x m=me at*;generalize uS D.x m=mp at*;generalize hasB D.who m=hs at*;go_enter func85,ntmps85
 go_upto_region 4 with (go_at_call 147;refine HM.o.mono ?_;rintro e w1 ⟨rfl,hb1⟩;have aR:=η hb1)
 have aV:Hid (β w (w1.alloc (aK #[ν mp.a,ν mp.b] 67))):=η (aR.o.alloc aR.o.size _);generalize w1.alloc (aK #[ν mp.a,ν mp.b] 67)=w2 at*;by_cases h1:me=0
 case neg=>
  have hb:(me==0)=aP:=by simpa using h1
  have HF:Hid (me=ee):=η (by rw [HE.o,ifP h1]);clear HE h1;go_wp2_with fail
  go_ret;exact⟨cY HF.o,aV.o⟩
 subst h1;have c11:=HC.o _ aV.o;have Io:=η (HH.o _ aV.o);clear HC HH;cases hs with
 |true=>
  have HF:Hid (14=ee):=η (by rw [HE.o,ifN (by simp),ifP rfl]);clear HE;go_wp2_with (go_at_call 89;refine Io.o.mono ?_;rintro e w3 ⟨rfl,rfl⟩)
  go_ret;exact⟨cY HF.o,aV.o⟩
 |false=>
  by_cases h2:n<1
  ·have HF:Hid (1=ee):=η (by rw [HE.o,ifN (by simp),ifN (by simp),ifP h2]);clear HE;go_wp2_with (go_at_call 89;refine Io.o.mono ?_;rintro e w3 ⟨rfl,rfl⟩)
   go_ret;exact⟨cY HF.o,aV.o⟩
  have HF:Hid (0=ee):=η (by rw [HE.o,ifN (by simp),ifN (by simp),ifN h2]);clear HE;go_wp2_with (go_at_call 89;refine Io.o.mono ?_;rintro e w3 ⟨rfl,rfl⟩)
  go_ret;exact⟨cY HF.o,aV.o⟩
theorem a1w(db:Nat)(p:Dp)(D:Dk)(k m a:Int)(w:aJ)(H:bT w db p D)(hk:aL k)(hm:aL m):
 aQ aM 14 #[π db,bO #[ν k,ν m],ν a] w λe w'=>e=aU (bB #[ν (balA (aA D.x.ms) (aA D.x.ss+1) D.l k m a),ν (nZ (plcA (aA D.x.ms) (aA D.x.ss+1) k m a))])/\β w w':=by
 have aY:Hid (β w (w.alloc (aK #[ν k,ν m] 51))):=η σ;have dC:Hid ((w.alloc (aK #[ν k,ν m] 51)).heap[w.heap.size]? =aC (aK #[ν k,ν m] 51 (0,0))):=η (cT w _);have hz0:w.heap.size<(w.alloc (aK #[ν k,ν m] 51)).heap.size:=by simp
 have LA:=η (λW (hW:β w W)=>(H.below hW).cells.c8);have LF:=η (λW (hW:β w W)=>Y6 p.vb p.vp (aA D.x.ms) (aA D.x.ss+1) (aA D.x.ms) D.l D.h k m a W (H.below hW).vt hk hm);generalize balA (aA D.x.ms) (aA D.x.ss+1) D.l k m a=bv at*;generalize nZ (plcA (aA D.x.ms) (aA D.x.ss+1) k m a)=be at*;go_enter func14,ntmps14
 go_upto_region 3 with (fail)
 generalize w.alloc (aK #[ν k,ν m] 51)=w1 at*;obtain⟨bx,bQ⟩:∃bx,bx=w.heap.size:=⟨_,rfl⟩;rw [<-bQ] at dC hz0 ⊢;clear bQ;have bW:Hid (∀W,β w1 W->W.cell? ⟨db,8,aB⟩=aC (π p.vb)/\W.cell? ⟨bx,0,aB⟩=aC (ν k)/\W.cell? ⟨bx,1,aB⟩=aC (ν m)):=η (by intro W hW;have hd:=(hW.block bx hz0).trans dC.o;exact⟨LA.o W (aY.o.trans (hW.mono aY.o.size)),ρ hd,ρ hd⟩);have eJ:Hid (∀W,β w1 W->β w W):=η (λW hW=>aY.o.trans (hW.mono aY.o.size));have bU:β w1 w1.drew:=(aX _ _).drew;go_region_held3 (λW=>W.cell? ⟨db,8,aB⟩=aC (π p.vb)/\W.cell? ⟨bx,0,aB⟩=aC (ν k)/\W.cell? ⟨bx,1,aB⟩=aC (ν m)) (first|(with_reducible exact bW.o _ bU)|(with_reducible exact bW.o _ hb2)|(with_reducible exact bW.o _ hb3)) ((go_at_call 41;refine(LF.o _ (eJ.o _ bU)).mono ?_;rintro e w2 ⟨rfl,BQ⟩;have hb2:β w1 w2:=bU.trans (BQ.mono bU.size)))
 have aV:=η (eJ.o _ hb2);clear hb2 BQ bU bW LA LF eJ aY dC;go_wp2_with fail
 go_ret2;exact⟨rfl,aV.o⟩
def Bv(D:Dk)(m:Int):Int:=if plcA (aA D.x.ms) (aA D.x.ss+1) 8 m 0=aB then 0 else gP (balA (aA D.x.ms) (aA D.x.ss+1) D.l 8 m 0-iG D.h 8 m 0)
theorem aEJ(db:Nat)(p:Dp)(D:Dk)(m:Int)(w:aJ)(H:bT w db p D)(hm:aL m)(vM:∀y∈D.l,aL y)(hl:aA D.h<=100000):
 aQ aM 56 #[π db,ν m] w λe w'=>e=aU (ν (Bv D m))/\β w w':=by
 have HU:=η (λW (hW:β w W)=>a7m p.vb p.vp (aA D.x.ms) (aA D.x.ss+1) (aA D.x.ms) D.l D.h 8 m 0 W (H.below hW).vt (by decide) hm vM hl);have AY:=η (λW=>zQ m W);have hE:Bv D m=if plcA (aA D.x.ms) (aA D.x.ss+1) 8 m 0=aB then 0 else gP (balA (aA D.x.ms) (aA D.x.ss+1) D.l 8 m 0-iG D.h 8 m 0):=rfl
 rw [hE];generalize (if plcA (aA D.x.ms) (aA D.x.ss+1) 8 m 0=aB then 0 else gP (balA (aA D.x.ms) (aA D.x.ss+1) D.l 8 m 0-iG D.h 8 m 0))=uv at*;generalize (if plcA (aA D.x.ms) (aA D.x.ss+1) 8 m 0=aB then 8 else dL (balA (aA D.x.ms) (aA D.x.ss+1) D.l 8 m 0-iG D.h 8 m 0))=ue at*;have yN:=H.lt;have c8:=H.cells.c8;go_enter func56,ntmps56
 go_upto_region 3 with (fail)
 have yM:=λ(n:sA w.heap.size w) (b o:Nat) (hb:b<w.heap.size)=>n.cells b o hb
 refine S9 w.heap.size (by kernel_rfl) (by kernel_rfl) ?_;repeat (go_big_quiet_step (first|(go_at_call 47;(with_reducible exact Calls.Lk (aZ _) (AY.o _)))|(go_at_call 111;(with_reducible exact Calls.Lk (aZ _) (HU.o _ (sA.h _))))))
 refine wpQuiet_nil ?_;intro _ hw';obtain⟨nq,hw''⟩:=hw';subst hw'';have HN:=η nq.h;generalize nq.wd=w5 at*;go_wp2
 go_ret;exact⟨rfl,HN.o⟩
theorem aEF(db:Nat)(p:Dp)(D:Dk)(w:aJ)(H:bT w db p D)(hl:aA D.who<=100000):
 aQ aM 13 #[π db] w (nC 3 1 (aA D.who) (D.who.map (aG aF)) w):=by
 have HT:=η (aDV (aA D.who) (D.who.map (aG aF)) p.wv 0 w H.who (λu hu=>by obtain⟨x,_,rfl⟩:=dV.1 hu;rfl) hl);have c11:=H.cells.c11;obtain⟨A,c,hv⟩:=bJ H.who;rw [hv] at HT c11;go_enter func13,ntmps13
 go_wp2_with (go_at_call 40;refine HT.o.mono ?_;rintro e w1 ⟨v1,rfl,eR,hb1⟩;have cF:=η eR;have aR:=η hb1)
 go_ret;exact⟨v1,rfl,cF,aR⟩
theorem aEE(db:Nat)(p:Dp)(D:Dk)(w:aJ)(H:bT w db p D)(hl:aA D.log<=100000):
 aQ aM 11 #[π db] w (nC 45 5 (aA D.log) (rK D.log) w):=by
 have HT:=η (aDS (aA D.log) (rK D.log) p.lv 0 w H.log (a2f _) hl);have c15:=H.cells.c15;obtain⟨A,c,hv⟩:=bJ H.log;rw [hv] at HT c15;go_enter func11,ntmps11
 go_wp2_with (go_at_call 34;refine HT.o.mono ?_;rintro e w1 ⟨v1,rfl,eR,hb1⟩;have cF:=η eR;have aR:=η hb1)
 go_ret;exact⟨v1,rfl,cF,aR⟩
end Go.Proofs.YtdokipdchlcmeaaGreat
