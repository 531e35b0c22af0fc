/-
  Several texts in one, for one claim (printed by pack.py).
-/
import Derived.Test.YtdokipdchlcmeaaGreatPf5
set_option linter.all false
set_option maxRecDepth 100000
set_option maxHeartbeats 12800000
open Array renaming getElem?_eq_some_iff→fY
open Bool renaming true→aO,false→aP,eq_iff_iff→GC
open Go renaming World→aJ,Value→aN,Calls→aQ,Addr→ai,cell_of_row→bH,maxLen→bO,TypeId→bZ,heap_alloc_new→cQ,info_parts→dP,Ending→dX,rounds_succ→eI,wpList_append_own→jC,wp_loop_rounds→ux,grownCap→xR,step_append_lies→Ad
open Go.Builtin renaming zeroCells→EH
open Go.Ending renaming returned→aT
open Go.Instr renaming mapEntry→Ge,entryStore→PA
open Go.IntKind renaming i64→aF
open Go.IntWalk renaming i64_in→sr
open Go.Lib renaming compact→tB
open Go.Obj renaming cells→aK
open Go.Proofs renaming intOf→ag
open Go.Proofs.Tryz renaming prog→aM,underlying53→mX,underlying39→tG,underlying46→yU,underlying56→He,func192→PV,ntmps192→PY,underlying132→Pa,func102→a0Y,ntmps102→a0s,underlying159→a1P,func177→aAs,func180→aAt,func191→aAw,func223→aB0,func224→aB1,func51→aBC,func52→aBD,func89→aBM,ntmps177→aBf,ntmps180→aBg,ntmps191→aBj,ntmps223→aBn,ntmps224→aBo,ntmps51→aBy,ntmps52→aBz,ntmps89→aC9,results224→aCD,underlying163→aCG
open Go.RowKit renaming Below→aa
open Go.RowKit.Below renaming refl→aX,heap_setCell→nR
open Go.Value renaming int→aG,slice→aH,tuple→bC,pointer→bD,bool→bK,agg→bP,ownBlock→eF
open Go.World renaming ownsRow_nil→gG,cell?_of_block→gu,frozen?→iO,ownsRow→kF,size_alloc→DK
open List renaming length→aA,getElem_mem→cK,length_append→cN,take_length→cU,map_append→dh,mem_map→di,mem_cons_of_mem→dx,mem_cons→fG,take_succ_eq_append_getElem→fH,mem_append→gN,replicate→gP,length_map→iX,mem_filter→jG,any_eq_true→kE,pairwise_cons→kp,eq_nil_of_length_eq_zero→nU,take_zero→nW,mem_cons_self→pG,length_filter_le→qo,mem_iff_getElem→tD,length_cons→uS,length_singleton→uT,length_take→vN,mem_append_left→vP,flatMap_cons→xB,getElem_map→xC,map_cons→yS,any_eq_false→zT,pairwise_map→BO,sum_append→D6,length_nil→Eh,sum_cons→Ej,contains_iff_mem→UQ,getElem_append_left→UW,getElem_append_right→UX
open List.Pairwise renaming imp_of_mem→PD
open Nat renaming le_refl→aZ,zero_le→bM,le_trans→bz,lt_of_lt_of_le→cL,lt_or_ge→rZ,lt_trans→M9,lt_of_succ_lt→a0O
open Option renaming none→aB,some→aC
open Option.some renaming inj→pH
open Or renaming inl→aS,inr→aU
namespace Go.Proofs.YtdokipdchlcmeaaGreat
open Go.Proofs.Tryz Go.RowKit
section
open Go.Maps Go.MapKept Go.ChangeMaps
def J6(q:Int×Int):List aN:= [aG aF q.1,aG aF q.2]
def Aa(l:List (Int×Int)):List aN:=l.flatMap J6
theorem a7H(l:List (Int×Int))(q:Int×Int):Aa (l++ [q])=Aa l++J6 q:=by simp [Aa]
theorem aKQ:(aM.info? 162).map (λi=>(i.zero,i.size,i.bytes))=aC (aC (bP #[aG aF 0,aG aF 0]),2,16):=by kernel_rfl
theorem a7W:(aM.info? 53).map (λi=>(i.zero,i.size,i.bytes))=aC (aC (aH aB 0 0),1,24):=by kernel_rfl
theorem a7K(q:Int×Int):∀u∈J6 q,u.oneCell'=aO:=by intro u hu;simp [J6] at hu;rcases hu with rfl|rfl<;>rfl
theorem a7I {w:aJ} {B:Nat} {A:Option ai} {l:List (Int×Int)}(h:aW w B A (Aa l)) {k:Nat}(hk:k<aA l):
 ∃b o,A=aC ⟨b,o,aB⟩/\b<B/\w.cell? ⟨b,o+k*2,aB⟩=aC (ν l[k].1)/\w.cell? ⟨b,o+k*2+1,aB⟩=aC (ν l[k].2):=by
 obtain⟨b,o,e,hb,hc⟩:=h.run (i:=k*2) (y:=ν l[k].1) (t:= [ν l[k].2]) (λj u hu=>tT J6 2 (λ_=>rfl) l k hk j u hu);exact⟨b,o,e,hb,hc 0 _ rfl,hc 1 _ rfl⟩
def k2(g:Nat):aN:=aH (aC ⟨g,0,aB⟩) 2 2
structure zW(B:Nat)(sv kv:aN)(gs:List Nat)(done:List (Int×Int))(W:aJ):Prop where
 s:W.ownsRow B 162 2 sv (aA done) (Aa done)
 k:W.ownsRow B 53 1 kv (aA done) (gs.map k2)
 len:aA gs=aA done
 g:∀j (hj:j<aA gs) (hd:j<aA done),W.heap[gs[j]]? =aC (aK #[ν done[j].1,ν done[j].2] 2 (0,0))
theorem zW.below {B:Nat} {sv kv:aN} {gs:List Nat} {done:List (Int×Int)} {W W':aJ}(h:zW B sv kv gs done W)(hb:aa W.heap.size W W'):zW B sv kv gs done W':=
 ⟨iJ h.s hb,iJ h.k hb,h.len,λj hj hd=>(hb.block _ (fY.1 (h.g j hj hd)).1).trans (h.g j hj hd)⟩
theorem zW.kept {B:Nat} {sv kv:aN} {gs:List Nat} {done:List (Int×Int)} {W W':aJ} {r:Nat}(h:zW B sv kv gs done W)(hg:W.grownBy W' (aC r))(hr:r<B)(hgr:∀g∈gs,g≠r):zW B sv kv gs done W':=by
 have hne:∀ {e s n} {v:aN} {xs:List aN},W.ownsRow B e s v n xs->v.ownBlock=aB\/v.ownBlock≠aC r:=λho=>aU λe=>by have:=eU ho r e;omega
 exact⟨h.s.kept hg (hne h.s),h.k.kept hg (hne h.k),h.len,λj hj hd=>(hg.block _ (fY.1 (h.g j hj hd)).1 (λe=>hgr _ (cK hj) (pH e))).trans (h.g j hj hd)⟩
theorem a5G(gs:List Nat):∀u∈gs.map k2,u.oneCell'=aO:=by intro u hu;obtain⟨g,_,rfl⟩:=di.1 hu;rfl
theorem zW.key {B:Nat} {sv:aN} {A:Option ai} {c:Nat} {gs:List Nat} {done:List (Int×Int)} {W:aJ}(h:zW B sv (aH A (aA done) c) gs done W):Cz W W.heap.size A done:=λj hj=>by
 obtain⟨b,o,e,hb,hc⟩:=(aW.cB h.k).at (k:=j) (by rw [iX,h.len];exact hj);have hg:=h.g j (by rw [h.len];exact hj) hj;have hjg:j<aA gs:=by rw [h.len];exact hj
 rw [xC] at hc;exact⟨b,o,gs[j],2,e,hb,hc,(fY.1 hg).1,ρ hg,ρ hg⟩
structure UK(m:List ((Int×Int)×aN))(l:List (Int×Int)):Prop where
 wM:l.Pairwise (λa b=>pT a<pT b)
 mem:∀q,q∈l↔∃v,(q,v)∈m
def ZC(m:List ((Int×Int)×aN))(w:aJ)(e:dX)(w':aJ):Prop:=
 ∃v l,e=aT v/\UK m l/\aA l<=aA m/\w'.ownsRow w.heap.size 162 2 v (aA l) (Aa l)/\β w w'
theorem a5O {p q:Int×Int}(hp:aL p.2)(hq:aL q.2)(h:pT p=pT q):p=q:=by
 obtain⟨a,b⟩:=p;obtain⟨c,d⟩:=q;unfold aL at hp hq;simp only [pT] at h hp hq;have h1:a=c:=by omega
 have h2:b=d:=by omega
 rw [h1,h2]
theorem aHQ {m:List ((Int×Int)×aN)} {done:List (Int×Int)} {is:List Nat}(hI:∀p∈done,aL p.2)(hn:done.Nodup)(ho:Js done is)(X9:∀q∈done,∃v,(q,v)∈m)(hall:∀p∈m,p.1∈done):UK m (is.map λi=>done.getD i (0,0)):=by
 have hgd:∀i,i<aA done->done.getD i (0,0)∈done:=λi hi=>by
  have:done.getD i (0,0)=done[i]:=by simp [List.getD,hi]
  rw [this];exact cK hi
 refine⟨?_,λq=>⟨λhq=> ?_,λ⟨v,hv⟩=> ?_⟩⟩
 ·rw [BO];refine PD ?_ ho.wM;intro a b ha hb h;have la:=ho.lt a ha;have lb:=ho.lt b hb;rcases h with h|⟨h,h2⟩
  ·exact h
  exfalso;unfold Nc at h;simp only [Int.toNat_natCast] at h;have e:=a5O (hI _ (hgd a la)) (hI _ (hgd b lb)) h;have e1:done.getD a (0,0)=done[a]:=by simp [List.getD,la]
  have e2:done.getD b (0,0)=done[b]:=by simp [List.getD,lb]
  rw [e1,e2] at e;have:=(List.getElem_inj (xs:=done) (h₀:=la) (h₁:=lb) hn).1 e;omega
 ·obtain⟨i,hi,rfl⟩:=di.1 hq;exact X9 _ (hgd i (ho.lt i hi))
 obtain⟨j,hj,e⟩:=tD.1 (hall _ hv);refine di.2 ⟨j,ho.all j hj, ?_⟩;simp only at e;rw [<-e];simp [List.getD,hj]
theorem aIU(b:Nat)(m:List ((Int×Int)×aN))(w:aJ)(hm:ei aM 162 xQ w b m)(hst:∃es clock,w.heap[b]? =aC (.map es clock)/\Stamped es clock)(hd:∀p∈m,JK p.1)(hl:aA m<=100000):
 aQ aM 103 #[.map (aC b)] w (ZC m w):=by
 have HM:=η hm;have HST:=η hst;have HD:=η hd;obtain⟨i1,qR,RO,RP,RQ⟩:=dP aKQ;obtain⟨i2,qT,XI,XJ,XK⟩:=dP a7W;clear hm hst hd;go_enter func103,ntmps103
 go_wp2_with (at_range;refine aLy _ rfl _ _ rfl a1P rfl HM.o HST.o ?_;intro w1 hit hb1 hz1)
 have BC:=η hit;have aR:=η hb1;have FO:w.heap.size<w1.heap.size:=by omega
 have lS:Hid (zW w1.heap.size (aH aB 0 0) (aH aB 0 0) [] [] w1):=η ⟨gG _ _ _ _,gG _ _ _ _,rfl,λj hj=>by simp at hj⟩;have ZX:Hid (∀g∈([]:List Nat),w1.heap.size<=g):=η (by simp);clear hit hb1 hz1;go_wp2_with fail
 go_frame
 go_loopw [3,4,5] (λsv kv _ wr=>∃(done:List (Int×Int)) (gs:List Nat),Hid (qm aM 162 xQ wr b w.heap.size m done)/\Hid (zW w1.heap.size sv kv gs done wr)/\Hid (∀g∈gs,w1.heap.size<=g)/\Hid (β w wr/\w1.heap.size<=wr.heap.size)) (λ_ _ _ wr=>aA m-seenAt wr w.heap.size)
 case atStart=>exact⟨[],[],BC,lS,ZX,aR.o,aZ _⟩
 case round=>
  clear BC lS ZX;obtain⟨done,gs,BC,lS,OX,HB⟩:=hrel;obtain⟨As,cs,NM⟩:=bL lS.o.s;obtain⟨Ak,ck,Wh⟩:=bL lS.o.k;subst NM Wh;have IK:=BC.o.count;have xU:aA done<=100000:=by omega
  go_wp2_with (at_next;refine aLx _ a3H rfl _ rfl rfl BC.o ?_ ?_)
  ·intro a3z;have EI:Hid (∀p∈m,p.1∈done):=η (λp hp=>a3z p.1.1 p.1.2 p.2 hp);clear a3z;have Zt:=η BC.o.once;have fQ:=η BC.o.sub;have Tc:Hid (∀p∈done,aL p.2):=η (λp hp=>by obtain⟨v,hv⟩:=fQ.o p hp;exact(HD.o _ hv).2);have wx:=η (a6N done Ak ck wr (by omega) Tc.o lS.o.key);clear BC OX;go_wp2_with (go_at_call 162;refine wx.o.mono ?_;unfold TE;rintro e w2 ⟨bw,is,rfl,eY,hb2,hc2,hz2,IJ⟩;have HIS:=η eY;have kS:=η hc2;have aV:Hid (β wr w2):=η IJ;have Ck:=η (lS.o.below IJ);have Qe:bw<w2.heap.size:=hz2;clear eY hb2 hc2 hz2 IJ wx)
   have IV:aA is=aA done:=HIS.o.len;have Cs:=η (aHQ Tc.o Zt.o HIS.o fQ.o EI.o);obtain⟨ls,AK⟩:∃ls:List (Int×Int),ls=is.map λi=>done.getD i (0,0):=⟨_,rfl⟩
   rw [<-AK] at Cs;have GN:=η AK;have mP:Hid (aA ls=aA done):=η (by rw [AK,iX];exact IV);have uM:=η IV;have uG:Hid (β w w2):=η (HB.o.1.trans (aV.o.mono HB.o.1.size));clear AK IV fQ Tc Zt lS HB aV EI;have Lj:Hid (w2.ownsRow w2.heap.size 162 2 (aH aB 0 0) 0 (Aa (ls.take 0))):=η (by rw [nW];exact gG _ _ _ _);have sY:Hid (β w2 w2):=η (aX _ _);go_loopw [6,8,30] (λv _ i wr=>∃k:Nat,k<=aA done/\i=ν (k:Int)/\Hid (β w2 wr)/\Hid (wr.ownsRow w2.heap.size 162 2 v k (Aa (ls.take k)))) (λ_ _ i _=>aA done-(ag i).toNat)
   case atStart=>exact⟨0,bM _,rfl,sY,Lj⟩
   case round=>
    clear sY Lj;obtain⟨k,hk,rfl,HB,HO⟩:=hrel;obtain⟨Ax,cx,pN⟩:=bL HO.o;subst pN;by_cases hlt:k<aA done
    ·have AH:k<aA is:=by rw [uM.o];exact hlt
     have c0:=(HB.o.cell (p:=⟨bw,k,aB⟩) Qe).trans (kS.o k AH);have nk:=HIS.o.lt _ (cK AH);obtain⟨be,oe,hA,kY,e0,e1⟩:=a7I (((aW.cB Ck.o.s).below HB.o).mono HB.o.size) nk;have jU:Hid (ls.take (k+1)=ls.take k++ [done[is[k]]]):=η (by rw [fH (by rw [mP.o];exact hlt)];congr 2;simp [GN.o,List.getD,nk]);have bu:(0:Int)<=((is[k]:Nat):Int):=by omega
     have hib:((is[k]:Nat):Int)<(aA done:Int):=by omega
     have ej:(0:Int)<=(k:Int):=by omega
     have hkb:(k:Int)<(aA done:Int):=by omega
     subst hA;generalize done[is[k]]=q at*;generalize is[k]=ix at*;obtain⟨q1,q2⟩:=q;simp only at e0 e1;have af:Hid (β w2 (wr.alloc (aK #[ν q1,ν q2] 162))):=η (HB.o.alloc HB.o.size _);have cD:=η (HO.o.alloc (aK #[ν q1,ν q2] 162));have hzz:w2.heap.size<=wr.heap.size:=HB.o.size;go_wp2_with (at_builtin;refine wpList_append_lies _ rfl _ _ 163 rfl w2.heap.size 162 i1 _ 2 16 aCG qR RO RP RQ rfl (by omega) _ _ _ rfl cD.o ⟨wr.heap.size,0,aB⟩ 1 1 (J6 (q1,q2)) rfl rfl (dS _ _ #[_,_] rfl) (a7K _) (by omega) (by simp only [bO];omega) (by omega) (by simp;omega) (wr.heap.size+1) (by simp) ?_)
     intro g4 MU w4 pQ iT _ _;have ar:Hid (β w2 w4):=η (af.o.grown iT (by simp;omega) (λj hj=>eU cD.o j hj));have dY:Hid (w4.ownsRow w2.heap.size 162 2 (aH (aC ⟨g4,0,aB⟩) (k+1) MU) (k+1) (Aa (ls.take (k+1)))):=η (by rw [jU.o,a7H];exact pQ);clear pQ iT af cD HO HB;go_wp2_with fail
     go_roundw
     case rel=>exact⟨k+1,by omega,by go_num,ar,dY⟩
     case measure=>simp [ag];omega
    obtain rfl:k=aA done:=by omega
    have fP:Hid (wr.ownsRow w.heap.size 162 2 (aH Ax (aA done) cx) (aA ls) (Aa ls)):=η (by have h2:=HO.o;rw [List.take_of_length_le (by rw [mP.o];exact aZ _)] at h2;rw [mP.o];exact iD h2 uG.o.size);go_wp2_with fail
    go_ret;exact⟨_,ls,rfl,Cs.o,by rw [mP.o];exact IK,fP.o,uG.o.trans (HB.o.mono uG.o.size)⟩
  intro q1 q2 v w2 hq vw hit hgr hsz hen;have e1:xQ (q1,q2)=bP #[ν q1,ν q2]:=rfl;rw [e1] at hen ⊢;have XD:w1.heap.size<=w2.heap.size:=by have:=HB.o.2;omega
  have Ck:=η (lS.o.kept hgr FO (λg hg=>by have:=OX.o g hg;omega));have Zf:=η hit;have aV:Hid (β w w2):=η (HB.o.1.grown hgr HB.o.1.size (λk hk=>by cases hk;exact aZ _));have aGz:=BC.o.seen;clear BC lS HB hit hgr hsz hq vw;have lN:=η (((aX w2.heap.size w2).alloc (aZ _) (aK #[ν q1,ν q2] 162)).alloc (by simp) (aK #[ν q1,ν q2] 162));have ot:=η (Ck.o.below lN.o);have cu:Hid (((w2.alloc (aK #[ν q1,ν q2] 162)).alloc (aK #[ν q1,ν q2] 162)).heap[w2.heap.size]? =aC (aK #[ν q1,ν q2] 162 (0,0))):=η ((fL _ _ (by simp)).trans (cQ w2 _));have rW:Hid (∀k,(aH As (aA done) cs).ownBlock=aC k->w1.heap.size<=k/\k<w2.heap.size):=η (λk hk=>Ck.o.s.lt k hk);have Gb:Hid (∀k,(aH Ak (aA done) ck).ownBlock=aC k->w1.heap.size<=k/\k<w2.heap.size):=η (λk hk=>Ck.o.k.lt k hk);have HLEN:=η Ck.o.len;go_wp2_with (at_builtin;refine wpList_append_lies _ rfl _ _ 163 rfl w1.heap.size 162 i1 _ 2 16 aCG qR RO RP RQ rfl (by omega) _ _ _ rfl ot.o.s ⟨w2.heap.size+1,0,aB⟩ 1 1 (J6 (q1,q2)) rfl rfl (dS _ _ #[_,_] (by simp)) (a7K _) (by omega) (by simp only [bO];omega) (by omega) (by simp;omega) (w2.heap.size+1+1) (by simp) ?_)
  intro g3 tI w3 ma gQ FC _;have hz3:w2.heap.size+1<w3.heap.size:=by have:=gQ.size;simp at this;omega
  have af:Hid (aa w1.heap.size w2 w3):=η ((lN.o.mono XD).grown gQ (by simp;omega) (λj hj=>(rW.o j hj).1));have hx3:=(gQ.block w2.heap.size (by simp;omega) (λe=>by have:=(rW.o _ e.symm).2;omega)).trans cu.o;have y0:w3.cell? ⟨w2.heap.size,0,aB⟩=aC (ν q1):=ρ hx3;have y1:w3.cell? ⟨w2.heap.size,1,aB⟩=aC (ν q2):=ρ hx3;have oh:Hid (w3.ownsRow w1.heap.size 53 1 (aH Ak (aA done) ck) (aA done) (gs.map k2)):=η (ot.o.k.kept gQ (CA ot.o.k ot.o.s (by decide)));have LV:Hid (∀j (hj:j<aA gs) (hd:j<aA done),w3.heap[gs[j]]? =aC (aK #[ν done[j].1,ν done[j].2] 2 (0,0))):=η (λj hj hd=>(gQ.block _ (fY.1 (ot.o.g j hj hd)).1 (λe=>gS ot.o.s (ot.o.g j hj hd) (by decide) e.symm)).trans (ot.o.g j hj hd));have sj:Hid (w3.ownsRow w1.heap.size 162 2 (aH (aC ⟨g3,0,aB⟩) (aA done+1) tI) (aA done+1) (Aa (done++ [(q1,q2)]))):=η (by rw [a7H];exact ma);clear ma gQ FC hx3 ot Ck lN cu;have rL:=η (((aX w3.heap.size w3).alloc (aZ _) (aK #[ν q1,ν q2] 2)).alloc (by simp) (aK #[k2 w3.heap.size] 53));have yJ:=η (iJ oh.o rL.o);have jT:=η (iJ sj.o rL.o);have gM:Hid (∀j u,([k2 w3.heap.size]:List aN)[j]? =aC u->((w3.alloc (aK #[ν q1,ν q2] 2)).alloc (aK #[k2 w3.heap.size] 53)).cell? ((⟨w3.heap.size+1,0,aB⟩:ai).add j)=aC u):=η (dS _ _ #[_] (by simp));have EN:Hid (((w3.alloc (aK #[ν q1,ν q2] 2)).alloc (aK #[k2 w3.heap.size] 53)).heap[w3.heap.size]? =aC (aK #[ν q1,ν q2] 2 (0,0))):=η ((fL _ _ (by simp)).trans (cQ w3 _));go_wp2_with (at_builtin;refine wpList_append_lies _ rfl _ _ 235 rfl w1.heap.size 53 i2 _ 1 24 underlying235 qT XI XJ XK rfl (by omega) _ _ _ rfl yJ.o ⟨w3.heap.size+1,0,aB⟩ 1 1 [k2 w3.heap.size] rfl rfl gM.o (a5G [w3.heap.size]) (by omega) (by simp only [bO];omega) (by omega) (by simp;omega) (w3.heap.size+1+1) (by simp) ?_)
  intro g5 MV w5 FR tW W6 _;have NV:w3.heap.size+1<w5.heap.size:=by have:=tW.size;simp at this;omega
  have cY:Hid (aa w1.heap.size w2 w5):=η ((af.o.trans (rL.o.mono (by omega))).grown tW (by simp;omega) (λj hj=>(Gb.o j hj).1));have nJ:w5.heap[w3.heap.size]? =aC (aK #[ν q1,ν q2] 2 (0,0)):=(tW.block _ (by simp;omega) (λe=>by have:=(Gb.o _ e.symm).2;omega)).trans EN.o;have Tt:Hid (zW w1.heap.size (aH (aC ⟨g3,0,aB⟩) (aA done+1) tI) (aH (aC ⟨g5,0,aB⟩) (aA done+1) MV) (gs++ [w3.heap.size]) (done++ [(q1,q2)]) w5):=η (by
   have IX:=HLEN.o;refine⟨?_, ?_,by simp [IX],λj hj hd=> ?_⟩
   ·rw [cN];exact jT.o.kept tW (CA jT.o yJ.o (by decide))
   ·rw [cN,dh];exact FR
   rcases rZ j (aA gs) with h|h
   ·rw [UW h,UW (by omega)];have h6:=LV.o j h (by omega);have Wn:=(fY.1 h6).1;have h7:=(rL.o.block _ Wn).trans h6;exact(tW.block _ (by simp;omega) (λe=>gS yJ.o h7 (by decide) e.symm)).trans h7
   have e:j=aA gs:=by simp at hj;omega
   subst e;rw [UX (aZ _),UX (by omega)];simp [IX];exact nJ)
  have a9P:Hid (∀g∈gs++ [w3.heap.size],w1.heap.size<=g):=η (λg hg=>by
   rcases gN.1 hg with h|h
   ·exact OX.o g h
   simp at h;omega)
  have Tg:Hid (qm aM 162 xQ w5 b w.heap.size m (done++ [(q1,q2)])):=η (Zf.o.aIi (cY.o.block b (by have:=HM.o.lt;omega)) (cY.o.block _ FO));have rM:Hid (β w w5/\w1.heap.size<=w5.heap.size):=η ⟨aV.o.trans (cY.o.mono (by omega)),by omega⟩;have a4d:=Tg.o.seen;have aGO:=Tg.o.count;rw [cN,uT] at a4d aGO;clear FR tW W6 nJ cY af aV Zf sj jT oh yJ gM EN rL LV OX rW Gb;go_wp2_with fail
  go_roundw
  case rel=>exact⟨_,_,Tg,Tt,a9P,rM⟩
  case measure=>rw [a4d,aGz];omega
end
section
open Go.Maps Go.MapKept Go.ChangeMaps
def mi(x:ak)(y:Lg):Int:=if jd x y.m≠0 then jd x y.m else if y.a=0 then 0 else jM x y.a
theorem aI0(x:ak)(i:Int):jd x i=0\/jd x i=9:=by unfold jd;split<;>simp
theorem aIG(x:ak)(y:Lg)(w:aJ)(h:lj w x)(hm:aL y.m)(ha:aL y.a):
 aQ aM 102 #[x.val,y.val] w λe w'=>e=aT (ν (mi x y))/\β w w':=by
 obtain⟨ym,ya,yn⟩:=y;simp only at hm ha;have aV:Hid (β w ((w.alloc (aK #[aH x.Am (aA x.ms) x.cm,aH x.As (aA x.ss) x.cs,aH x.Ac (aA x.cy) x.cc,ν x.line,ν x.bW,ν x.lead,ν x.tr,ν x.bT] 26)).alloc (aK #[ν ym,ν ya,ν yn] 76))):=η (σ.alloc (by simp) _);have cu:Hid (((w.alloc (aK #[aH x.Am (aA x.ms) x.cm,aH x.As (aA x.ss) x.cs,aH x.Ac (aA x.cy) x.cc,ν x.line,ν x.bW,ν x.lead,ν x.tr,ν x.bT] 26)).alloc (aK #[ν ym,ν ya,ν yn] 76)).heap[w.heap.size]? =aC (aK x.vals 26 (0,0))):=η ((fL _ _ (by simp)).trans (cQ w _));have xA:Hid (((w.alloc (aK #[aH x.Am (aA x.ms) x.cm,aH x.As (aA x.ss) x.cs,aH x.Ac (aA x.cy) x.cc,ν x.line,ν x.bW,ν x.lead,ν x.tr,ν x.bT] 26)).alloc (aK #[ν ym,ν ya,ν yn] 76)).heap[w.heap.size+1]? =aC (aK #[ν ym,ν ya,ν yn] 76 (0,0))):=η (by have h1:=cQ (w.alloc (aK #[aH x.Am (aA x.ms) x.cm,aH x.As (aA x.ss) x.cs,aH x.Ac (aA x.cy) x.cc,ν x.line,ν x.bW,ν x.lead,ν x.tr,ν x.bT] 26)) (aK #[ν ym,ν ya,ν yn] 76);rw [DK] at h1;exact h1);have hz2:w.heap.size+1<((w.alloc (aK #[aH x.Am (aA x.ms) x.cm,aH x.As (aA x.ss) x.cs,aH x.Ac (aA x.cy) x.cc,ν x.line,ν x.bW,ν x.lead,ν x.tr,ν x.bT] 26)).alloc (aK #[ν ym,ν ya,ν yn] 76)).heap.size:=by simp
 have zJ:=η (λW (hW:β w W)=>Q4 x ym W (h.below hW) hm);have pB:=η (λW (hW:β w W)=>O3 x ya W (h.below hW) ha);have Jf:Hid (mi x ⟨ym,ya,yn⟩=if jd x ym≠0 then jd x ym else if ya=0 then 0 else jM x ya):=η rfl;unfold ak.val at zJ pB;unfold ak.vals at cu;unfold ak.val Lg.val;clear h hm ha;simp only;rcases aI0 x ym with h0|h0
 ·rw [h0] at zJ;by_cases ha0:ya=0
  ·subst ha0;have HR:Hid (mi x ⟨ym,0,yn⟩=0):=η (by rw [Jf.o,ifN (by rw [h0];simp),ifP rfl]);clear h0 pB Jf;go_enter a0Y,a0s
   go_upto_region 1 with fail
   generalize ((w.alloc (aK #[aH x.Am (aA x.ms) x.cm,aH x.As (aA x.ss) x.cs,aH x.Ac (aA x.cy) x.cc,ν x.line,ν x.bW,ν x.lead,ν x.tr,ν x.bT] 26)).alloc (aK #[ν ym,ν 0,ν yn] 76))=w2 at*;have iW:Hid (∀W,β w2 W->W.heap[w.heap.size]? =aC (aK #[aH x.Am (aA x.ms) x.cm,aH x.As (aA x.ss) x.cs,aH x.Ac (aA x.cy) x.cc,ν x.line,ν x.bW,ν x.lead,ν x.tr,ν x.bT] 26 (0,0))/\W.heap[w.heap.size+1]? =aC (aK #[ν ym,ν 0,ν yn] 76 (0,0))):=η (λW hW=>⟨(hW.block _ (by omega)).trans cu.o,(hW.block _ hz2).trans xA.o⟩);obtain⟨bx,bU⟩:∃bx,bx=w.heap.size:=⟨_,rfl⟩;rw [<-bU] at iW ⊢;clear bU;obtain⟨hx2,nM⟩:=iW.o _ (aX _ _);have c0:=bH _ bx 0 _ _ (0,0) hx2;have c1:=bH _ bx 1 _ _ (0,0) hx2;have c2:=bH _ bx 2 _ _ (0,0) hx2;have c3:=bH _ bx 3 _ _ (0,0) hx2;have c4:=bH _ bx 4 _ _ (0,0) hx2;have c5:=bH _ bx 5 _ _ (0,0) hx2;have c6:=bH _ bx 6 _ _ (0,0) hx2;have c7:=bH _ bx 7 _ _ (0,0) hx2;have y0:=bH _ (bx+1) 0 _ _ (0,0) nM;have y1:=bH _ (bx+1) 1 _ _ (0,0) nM;clear hx2 nM;go_wp2_with (go_at_call 147;refine(zJ.o _ aV.o).mono ?_;rintro e w3 ⟨rfl,hb3⟩;have af:Hid (β w w3):=τ aV hb3;have ar:Hid (β w (w3.alloc (aK #[ν (uk x ym).a,ν (uk x ym).b] 67))):=η (af.o.alloc af.o.size _);obtain⟨hx3,wC⟩:=iW.o _ hb3;clear c0 c1 c2 c3 c4 c5 c6 c7 y0 y1;have c0:=bH _ bx 0 _ _ (0,0) hx3;have c1:=bH _ bx 1 _ _ (0,0) hx3;have c2:=bH _ bx 2 _ _ (0,0) hx3;have c3:=bH _ bx 3 _ _ (0,0) hx3;have c4:=bH _ bx 4 _ _ (0,0) hx3;have c5:=bH _ bx 5 _ _ (0,0) hx3;have c6:=bH _ bx 6 _ _ (0,0) hx3;have c7:=bH _ bx 7 _ _ (0,0) hx3;have y1:=bH _ (bx+1) 1 _ _ (0,0) wC;have iB:bx+1<w3.heap.size:=(fY.1 wC).1;have a4H:bx<w3.heap.size:=a0O iB;clear hx3 wC hb3)
   go_ret;exact⟨by rw [HR.o];rfl,ar.o⟩
  have HR:Hid (mi x ⟨ym,ya,yn⟩=jM x ya):=η (by rw [Jf.o,ifN (by rw [h0];simp),ifN ha0]);have aGE:(ya==0)=aP:=by simpa using ha0
  clear h0 ha0 Jf;go_enter a0Y,a0s
  go_upto_region 1 with fail
  generalize ((w.alloc (aK #[aH x.Am (aA x.ms) x.cm,aH x.As (aA x.ss) x.cs,aH x.Ac (aA x.cy) x.cc,ν x.line,ν x.bW,ν x.lead,ν x.tr,ν x.bT] 26)).alloc (aK #[ν ym,ν ya,ν yn] 76))=w2 at*;have iW:Hid (∀W,β w2 W->W.heap[w.heap.size]? =aC (aK #[aH x.Am (aA x.ms) x.cm,aH x.As (aA x.ss) x.cs,aH x.Ac (aA x.cy) x.cc,ν x.line,ν x.bW,ν x.lead,ν x.tr,ν x.bT] 26 (0,0))/\W.heap[w.heap.size+1]? =aC (aK #[ν ym,ν ya,ν yn] 76 (0,0))):=η (λW hW=>⟨(hW.block _ (by omega)).trans cu.o,(hW.block _ hz2).trans xA.o⟩);obtain⟨bx,bU⟩:∃bx,bx=w.heap.size:=⟨_,rfl⟩;rw [<-bU] at iW ⊢;clear bU;obtain⟨hx2,nM⟩:=iW.o _ (aX _ _);have c0:=bH _ bx 0 _ _ (0,0) hx2;have c1:=bH _ bx 1 _ _ (0,0) hx2;have c2:=bH _ bx 2 _ _ (0,0) hx2;have c3:=bH _ bx 3 _ _ (0,0) hx2;have c4:=bH _ bx 4 _ _ (0,0) hx2;have c5:=bH _ bx 5 _ _ (0,0) hx2;have c6:=bH _ bx 6 _ _ (0,0) hx2;have c7:=bH _ bx 7 _ _ (0,0) hx2;have y0:=bH _ (bx+1) 0 _ _ (0,0) nM;have y1:=bH _ (bx+1) 1 _ _ (0,0) nM;clear hx2 nM;go_wp2_with (first|(go_at_call 147;refine(zJ.o _ aV.o).mono ?_;rintro e w3 ⟨rfl,hb3⟩;have af:Hid (β w w3):=τ aV hb3;have ar:Hid (β w (w3.alloc (aK #[ν (uk x ym).a,ν (uk x ym).b] 67))):=η (af.o.alloc af.o.size _);obtain⟨hx3,wC⟩:=iW.o _ hb3;clear c0 c1 c2 c3 c4 c5 c6 c7 y0 y1;have c0:=bH _ bx 0 _ _ (0,0) hx3;have c1:=bH _ bx 1 _ _ (0,0) hx3;have c2:=bH _ bx 2 _ _ (0,0) hx3;have c3:=bH _ bx 3 _ _ (0,0) hx3;have c4:=bH _ bx 4 _ _ (0,0) hx3;have c5:=bH _ bx 5 _ _ (0,0) hx3;have c6:=bH _ bx 6 _ _ (0,0) hx3;have c7:=bH _ bx 7 _ _ (0,0) hx3;have y1:=bH _ (bx+1) 1 _ _ (0,0) wC;have iB:bx+1<w3.heap.size:=(fY.1 wC).1;have a4H:bx<w3.heap.size:=a0O iB;clear hx3 wC hb3)|(go_at_call 117;refine(pB.o _ ar.o).mono ?_;rintro e w5 ⟨rfl,dA⟩;have cY:Hid (β w w5):=τ ar dA;clear dA))
  go_ret;exact⟨by rw [HR.o];rfl,cY.o.alloc cY.o.size _⟩
 rw [h0] at zJ;have HR:Hid (mi x ⟨ym,ya,yn⟩=9):=η (by rw [Jf.o,ifP (by rw [h0];simp),h0]);clear h0 pB Jf;go_enter a0Y,a0s
 go_upto_region 1 with fail
 generalize ((w.alloc (aK #[aH x.Am (aA x.ms) x.cm,aH x.As (aA x.ss) x.cs,aH x.Ac (aA x.cy) x.cc,ν x.line,ν x.bW,ν x.lead,ν x.tr,ν x.bT] 26)).alloc (aK #[ν ym,ν ya,ν yn] 76))=w2 at*;have iW:Hid (∀W,β w2 W->W.heap[w.heap.size]? =aC (aK #[aH x.Am (aA x.ms) x.cm,aH x.As (aA x.ss) x.cs,aH x.Ac (aA x.cy) x.cc,ν x.line,ν x.bW,ν x.lead,ν x.tr,ν x.bT] 26 (0,0))/\W.heap[w.heap.size+1]? =aC (aK #[ν ym,ν ya,ν yn] 76 (0,0))):=η (λW hW=>⟨(hW.block _ (by omega)).trans cu.o,(hW.block _ hz2).trans xA.o⟩);obtain⟨bx,bU⟩:∃bx,bx=w.heap.size:=⟨_,rfl⟩;rw [<-bU] at iW ⊢;clear bU;obtain⟨hx2,nM⟩:=iW.o _ (aX _ _);have c0:=bH _ bx 0 _ _ (0,0) hx2;have c1:=bH _ bx 1 _ _ (0,0) hx2;have c2:=bH _ bx 2 _ _ (0,0) hx2;have c3:=bH _ bx 3 _ _ (0,0) hx2;have c4:=bH _ bx 4 _ _ (0,0) hx2;have c5:=bH _ bx 5 _ _ (0,0) hx2;have c6:=bH _ bx 6 _ _ (0,0) hx2;have c7:=bH _ bx 7 _ _ (0,0) hx2;have y0:=bH _ (bx+1) 0 _ _ (0,0) nM;have y1:=bH _ (bx+1) 1 _ _ (0,0) nM;clear hx2 nM;go_wp2_with (go_at_call 147;refine(zJ.o _ aV.o).mono ?_;rintro e w3 ⟨rfl,hb3⟩;have af:Hid (β w w3):=τ aV hb3;have ar:Hid (β w (w3.alloc (aK #[ν (uk x ym).a,ν (uk x ym).b] 67))):=η (af.o.alloc af.o.size _);obtain⟨hx3,wC⟩:=iW.o _ hb3;clear c0 c1 c2 c3 c4 c5 c6 c7 y0 y1;have c0:=bH _ bx 0 _ _ (0,0) hx3;have c1:=bH _ bx 1 _ _ (0,0) hx3;have c2:=bH _ bx 2 _ _ (0,0) hx3;have c3:=bH _ bx 3 _ _ (0,0) hx3;have c4:=bH _ bx 4 _ _ (0,0) hx3;have c5:=bH _ bx 5 _ _ (0,0) hx3;have c6:=bH _ bx 6 _ _ (0,0) hx3;have c7:=bH _ bx 7 _ _ (0,0) hx3;have y1:=bH _ (bx+1) 1 _ _ (0,0) wC;have iB:bx+1<w3.heap.size:=(fY.1 wC).1;have a4H:bx<w3.heap.size:=a0O iB;clear hx3 wC hb3)
 go_ret;exact⟨by rw [HR.o];rfl,ar.o⟩
theorem vA.entry {κ:Type} [DecidableEq κ] {kt:bZ} {enc:κ->aN} {jk:κ->Prop} {w:aJ} {base b:Nat} {m:List (κ×aN)} {f:κ->List Int}(K:CS aM kt enc jk)(h:vA kt enc jk w base b m f) {t:bZ}(ht:aM.underlying t=aC (.map kt 53)) {q:κ}(hq:jk q):
 ∃st w1,(Ge t (.map (aC b)) (enc q)).run aM w= .ok (.tuple #[CG q m,goInt st]) w1/\w.grownBy w1 (aC b)/\w1.heap.size=w.heap.size/\w1.ownsRow base 2 1 (CG q m) (aA (f q)) ((f q).map (aG aF))/\
  ∀(w2:aJ) (v':aN) (ys:List Int),w1.grownBy w2 (CG q m).ownBlock->w2.ownsRow base 2 1 v' (aA ys) (ys.map (aG aF))->(v'.ownBlock=(CG q m).ownBlock\/v'.ownBlock=aC w1.heap.size)->
   ∃w3,(PA t (.map (aC b)) (goInt st) v').run aM w2= .ok () w3/\vA kt enc jk w3 base b (eV q v' m) (λz=>if z=q then ys else f z)/\
    (∀k,k<w.heap.size->k≠b->aC k≠(CG q m).ownBlock->w3.heap[k]? =w.heap[k]?)/\w.heap.size<=w3.heap.size/\∀B,B<=b->aa B w w3:=by
 obtain⟨st,w1,hr,hg1,hs1,hf⟩:=h.map.entry (t:=t) (e:=53) K ht (z:= .slice aB 0 0) (λu=>by kernel_rfl) h.yy h.dom hq;have aMw:=h.low;have RF:=h.slot q;have mF:∀ {e s n} {v:aN} {xs:List aN} {W:aJ},W.ownsRow base e s v n xs->v.ownBlock≠aC b:=λho e=>by have:=eU ho b e;omega
 have h1:=RF.kept hg1 (aU (mF RF));refine⟨st,w1,hr,hg1,hs1,h1,λw2 v' ys hg2 hown hloc=> ?_⟩;have hs2:=hg2.size;have WA:=h.map.lt;obtain⟨w3,hr3,Bi,X8,hg3⟩:=hf w2 v' (hg2.block b (by rw [hs1];exact WA) (λe=>mF RF e.symm));have hs3:=hg3.size;refine⟨w3,hr3,⟨Bi,X8,h.low,λp hp=> ?_,λp hp p' nw hne=> ?_,λq' hq'=> ?_,λp hp=> ?_⟩,λk hk hkb Wf=> ?_,by omega,λB hB=>⟨hg3.os.trans (hg2.os.trans hg1.os),hg3.tape.trans (hg2.tape.trans hg1.tape),hg3.output.trans (hg2.output.trans hg1.output),by omega,λk hk=>(hg3.block k (by omega) (by simp;omega)).trans ((hg2.block k (by omega) (λe=>by have:=eU RF k e.symm;omega)).trans (hg1.block k (by omega) (by simp;omega)))⟩⟩
 ·rcases L5 h.map.apart hp with e|⟨gR,hne⟩
  ·subst e;simp only [if_true];exact hown.kept hg3 (aU (mF hown))
  have Ig:=h.rows p gR;rw [ifN hne];have hr1:=Ig.kept hg1 (aU (mF Ig));refine(hr1.kept hg2 ?_).kept hg3 (aU (mF Ig));have aGa:∀v,getM q m=aC v->p.2.ownBlock=aB\/p.2.ownBlock≠v.ownBlock:=λv hv=>h.far p gR (q,v) (Rj hv) hne
  unfold CG;cases KW:getM q m with
  |none=>cases hpo:p.2.ownBlock<;>simp [eF]
  |some v=>simpa using aGa v KW
 ·have apart:∀p∈m,p.1≠q->p.2.ownBlock=aB\/p.2.ownBlock≠v'.ownBlock:=λp hp hne=>by
   have Ig:=h.rows p hp;rcases hloc with e|e
   ·rw [e];unfold CG;cases KW:getM q m with
    |none=>cases hpo:p.2.ownBlock<;>simp [eF]
    |some v=>simpa using h.far p hp (q,v) (Rj KW) hne
   rw [e];refine aU λe'=> ?_
   have:=(Ig.lt _ e').2;omega
  rcases L5 h.map.apart hp with e|⟨gR,aGs⟩
  ·subst e;rcases L5 h.map.apart nw with e|⟨Wz,a4Z⟩
   ·subst e;exact absurd rfl hne
   rcases apart p' Wz a4Z with e|e
   ·simp only;rw [e];cases v'.ownBlock<;>simp
   exact aU (Ne.symm e)
  rcases L5 h.map.apart nw with e|⟨Wz,a4Z⟩
  ·subst e;exact apart p gR aGs
  exact h.far p gR p' Wz hne
 ·have lA:q'≠q:=λe=>hq' _ (Xz m) e.symm
  rw [ifN lA];exact h.off q' (λp hp e=>by obtain⟨u,hu⟩:=a6n (q:=q) (v:=v') hp;exact hq' _ hu e)
 ·rcases L5 h.map.apart hp with e|⟨gR,_⟩
  ·rw [e];exact hq
  exact h.dom p gR
 exact(hg3.block k (by omega) (by simp;omega)).trans ((hg2.block k (by omega) Wf).trans (hg1.block k hk (by simp;omega)))
def Lg.key(x:Lg):Int×Int:=(x.m,x.a)
def qM(L:List Lg)(q:Int×Int):List Int:=(L.filter λx=>x.key==q).map (·.n)
theorem aDQ(L:List Lg)(x:Lg)(q:Int×Int):qM (L++ [x]) q=if q=x.key then qM L q++ [x.n] else qM L q:=by
 unfold qM;rw [List.filter_append,dh];by_cases h:q=x.key
 ·rw [ifP h,List.filter_cons];simp [h]
 rw [ifN h,List.filter_cons];have:(x.key==q)=aP:=by simpa using Ne.symm h
 simp [this]
theorem a2A(L:List Lg)(q:Int×Int):aA (qM L q)<=aA L:=by unfold qM;rw [iX];exact qo _ _
def insSd(q:Int×Int):List (Int×Int)->List (Int×Int)
 | []=> [q]
 |p::l=>if q=p then p::l else if pT q<pT p then q::p::l else p::insSd q l
def gC(L:List Lg):List (Int×Int):=L.foldr (λx l=>insSd x.key l) []
theorem XR(q z:Int×Int):∀l,z∈insSd q l↔z=q\/z∈l
 | []=>by simp [insSd]
 |p::l=>by
  unfold insSd;split
  ·rename_i h;subst h;simp
  split
  ·simp
  simp only [fG,XR q z l];constructor
  ·rintro (h|h|h)
   ·exact aU (aS h)
   ·exact aS h
   exact aU (aU h)
  rintro (h|h|h)
  ·exact aU (aS h)
  ·exact aS h
  exact aU (aU h)
theorem a4u {q:Int×Int}(hq:aL q.2):∀ {l:List (Int×Int)},(∀p∈l,aL p.2)->l.Pairwise (λa b=>pT a<pT b)->(insSd q l).Pairwise (λa b=>pT a<pT b)
 | [],_,_=>by simp [insSd]
 |p::l,hI,h=>by
  obtain⟨h1,h2⟩:=kp.1 h;unfold insSd;split
  ·exact h
  rename_i hne;split
  ·rename_i hlt;refine kp.2 ⟨λz hz=> ?_,h⟩;rcases fG.1 hz with rfl|hz
   ·exact hlt
   exact Int.lt_trans hlt (h1 z hz)
  rename_i pP;refine kp.2 ⟨λz hz=> ?_,a4u hq (λz hz=>hI z (dx _ hz)) h2⟩;rcases (XR q z l).1 hz with rfl|hz
  ·have:pT z≠pT p:=λe=>hne (a5O hq (hI p (pG ..)) e)
   omega
  exact h1 z hz
theorem SI(L:List Lg)(q:Int×Int):q∈gC L↔∃x∈L,x.key=q:=by
 induction L with
 |nil=>simp [gC]
 |cons x L ih=>
  show q∈insSd x.key (gC L)↔_;rw [XR,ih];simp [eq_comm]
theorem a7L {L:List Lg}(hI:∀x∈L,aL x.a):(gC L).Pairwise (λa b=>pT a<pT b):=by
 induction L with
 |nil=>simp [gC]
 |cons x L ih=>
  refine a4u (hI x (pG ..)) (λp hp=> ?_) (ih (λy hy=>hI y (dx _ hy)));obtain⟨y,hy,rfl⟩:=(SI L p).1 hp;exact hI y (dx _ hy)
theorem a7m {α:Type} {k:α->Int}:∀ {a b:List α},a.Pairwise (λx y=>k x<k y)->b.Pairwise (λx y=>k x<k y)->(∀z,z∈a↔z∈b)->a=b
 | [],[],_,_,_=>rfl
 | [],y::b,_,_,h=>absurd ((h y).2 (pG ..)) (by simp)
 |x::a,[],_,_,h=>absurd ((h x).1 (pG ..)) (by simp)
 |x::a,y::b,ha,hb,h=>by
  obtain⟨a1,a2⟩:=kp.1 ha;obtain⟨b1,b2⟩:=kp.1 hb;have hxy:x=y:=by
   rcases fG.1 ((h x).1 (pG ..)) with e|e
   ·exact e
   rcases fG.1 ((h y).2 (pG ..)) with e2|e2
   ·exact e2.symm
   have:=b1 x e;have:=a1 y e2;omega
  subst hxy;rw [a7m a2 b2 λz=> ?_];constructor
  ·intro hz;rcases fG.1 ((h z).1 (dx _ hz)) with e|e
   ·subst e;have:=a1 z hz;omega
   exact e
  intro hz;rcases fG.1 ((h z).2 (dx _ hz)) with e|e
  ·subst e;have:=b1 z hz;omega
  exact e
theorem aHR {m:List ((Int×Int)×aN)} {l:List (Int×Int)} {L:List Lg}(h:UK m l)(hI:∀x∈L,aL x.a)(hk:∀q,(∃v,(q,v)∈m)↔∃x∈L,x.key=q):l=gC L:=
 a7m h.wM (a7L hI) λz=>by rw [h.mem,hk,SI]
end
section
open Go.Maps Go.MapKept Go.ChangeMaps
structure Lg.ok(x:Lg):Prop where
 m:aL x.m
 a:aL x.a
 n:aL x.n
def F3(x:ak)(L:List Lg):Int:=match L.find? (λy=>mi x y !=0) with|some y=>mi x y|none=>0
def sQ(L:List Lg)(q:Int×Int):Int:=sumI (qM L q)
def mG(x:ak)(L:List Lg):Int:=if 1024<(aA L) then 6 else if F3 x L≠0 then F3 x L else if (gC L).any (λq=>dR (sQ L q) !=0)=aO then 2 else 0
def mH(L:List Lg)(l:List (Int×Int)):List Lg:=(l.filter λq=>sQ L q !=0).map λq=>⟨q.1,q.2,sQ L q⟩
def gh(L:List Lg):List Lg:=mH L (gC L)
theorem aIO(L:List Lg) {l:List (Int×Int)} {k:Nat}(hk:k<aA l):mH L (l.take (k+1))=mH L (l.take k)++(if sQ L l[k]≠0 then [⟨l[k].1,l[k].2,sQ L l[k]⟩] else []):=by unfold mH;rw [Mf _ hk,dh];by_cases h:sQ L l[k]=0<;>simp [h]
theorem aIN(L:List Lg)(l:List (Int×Int))(k:Nat):aA (mH L (l.take k))<=aA l:=by unfold mH;rw [iX];exact Me _ _ _
theorem aFr {x:ak} {L:List Lg} {k:Nat}(hk:k<aA L)(h:(L.take k).any (λy=>mi x y !=0)=aP)(hn:mi x L[k]≠0):F3 x L=mi x L[k]:=by
 unfold F3;have e:L=L.take k++L[k]::L.drop (k+1):=by rw [List.getElem_cons_drop,List.take_append_drop]
 have h1:L.find? (λy=>mi x y !=0)=aC L[k]:=by rw [List.find?_eq_some_iff_append];refine⟨by simpa using hn,L.take k,L.drop (k+1),e,λa ha=> ?_⟩;have:=zT.1 h a ha;simpa using this
 rw [h1]
theorem aFq {x:ak} {L:List Lg}(h:L.any (λy=>mi x y !=0)=aP):F3 x L=0:=by unfold F3;rw [List.find?_eq_none.2 (λa ha=>by have:=zT.1 h a ha;simpa using this)]
def a9G(x:ak)(L:List Lg)(w:aJ)(e:dX)(w':aJ):Prop:=
 β w w'/\((mG x L=0/\∃v,e=aT (bC #[v,ν 0])/\w'.ownsRow w.heap.size 76 3 v (aA (gh L)) (bB (gh L)))\/(mG x L≠0/\e=aT (bC #[aH aB 0 0,ν (mG x L)])))
structure Jx(w:aJ)(base b:Nat)(m:List ((Int×Int)×aN))(L:List Lg)(W:aJ):Prop where
 g:vA 162 xQ JK W base b m (qM L)
 key:∀q,(∃v,(q,v)∈m)↔∃x∈L,x.key=q
 len:aA m<=aA L
 bl:β w W
 lo:w.heap.size<=b/\b<base/\base<=W.heap.size
theorem Jx.below {w W W':aJ} {base b:Nat} {m:List ((Int×Int)×aN)} {L:List Lg}(h:Jx w base b m L W)(hb:aa W.heap.size W W'):Jx w base b m L W':=
 ⟨h.g.below (aZ _) hb,h.key,h.len,h.bl.trans (hb.mono h.bl.size),h.lo.1,h.lo.2.1,bz h.lo.2.2 hb.size⟩
theorem aIT(x:ak)(L:List Lg)(A:Option ai)(c:Nat)(w:aJ)(h:lj w x)(hs:aW w w.heap.size A (bB L))(hI:∀y∈L,y.ok)(hl:aA L<=100000):
 aQ aM 52 #[x.val,aH A (aA L) c] w (a9G x L w):=by
 have aR:Hid (β w (w.alloc (aK #[aH x.Am (aA x.ms) x.cm,aH x.As (aA x.ss) x.cs,aH x.Ac (aA x.cy) x.cc,ν x.line,ν x.bW,ν x.lead,ν x.tr,ν x.bT] 26))):=η σ;have oC:Hid ((w.alloc (aK #[aH x.Am (aA x.ms) x.cm,aH x.As (aA x.ss) x.cs,aH x.Ac (aA x.cy) x.cc,ν x.line,ν x.bW,ν x.lead,ν x.tr,ν x.bT] 26)).heap[w.heap.size]? =aC (aK x.vals 26 (0,0))):=η (cQ w _);have uI:=η h;have HS:=η hs;have HI:=η hI;have hz1:w.heap.size<(w.alloc (aK #[aH x.Am (aA x.ms) x.cm,aH x.As (aA x.ss) x.cs,aH x.Ac (aA x.cy) x.cc,ν x.line,ν x.bW,ν x.lead,ν x.tr,ν x.bT] 26)).heap.size:=by simp
 unfold ak.vals at oC;clear h hs hI;by_cases l7:1024<aA L
 ·have HE:Hid (mG x L=6):=η (by unfold mG;rw [ifP l7]);have h1:(1024:Int)<(aA L:Int):=by omega
  unfold ak.val;go_enter aBD,aBz
  go_wp2_with fail
  go_ret2;exact⟨aR.o,aU ⟨by rw [HE.o];decide,by rw [HE.o];rfl⟩⟩
 have bX:=η l7;have Dd:decide ((1024:Int)<(aA L:Int))=aP:=decide_eq_false (by omega);have rC:decide (1024<aA L)=aP:=decide_eq_false l7;have hl:aA L<=1024:=by omega
 clear l7;have pn:=η (λ(y:Lg) (hy:y.ok) W (hW:β w W)=>aIG x y W (uI.o.below hW) hy.m hy.a);have mZ:= @run_makeMap aM;obtain⟨i0,bu,hz0',fw,xe⟩:=dP Na;unfold ak.val at pn ⊢;go_enter aBD,aBz
 go_upto_region 3 with fail
 generalize (w.alloc (aK #[aH x.Am (aA x.ms) x.cm,aH x.As (aA x.ss) x.cs,aH x.Ac (aA x.cy) x.cc,ν x.line,ν x.bW,ν x.lead,ν x.tr,ν x.bT] 26))=w1 at*;obtain⟨bx,bU⟩:∃bx,bx=w.heap.size:=⟨_,rfl⟩;have dJ:=η bU;rw [<-bU] at oC hz1 ⊢;clear bU;have om:Hid (Jx w1 (w1.heap.size+1) w1.heap.size [] (L.take 0) (w1.alloc (.map #[] 0))):=η (by
  have e:qM (L.take 0)=λ_=> []:=by funext q;rw [nW];rfl
  refine⟨by rw [e];exact vA.made w1,λq=>by simp,by simp,(aX _ _).alloc (aZ _) _,aZ _,by omega,by simp⟩)
 have zF:Hid ((L.take 0).any (λy=>mi x y !=0)=aP):=η (by rw [nW];rfl);have HXW:Hid (∀W,β w1 W->W.heap[bx]? =aC (aK #[aH x.Am (aA x.ms) x.cm,aH x.As (aA x.ss) x.cs,aH x.Ac (aA x.cy) x.cc,ν x.line,ν x.bW,ν x.lead,ν x.tr,ν x.bT] 26 (0,0))):=η (λW hW=>(hW.block bx hz1).trans oC.o);go_wp2_with fail
 go_loopw [8,9,10,22] (λ_ _ _ i wr=>∃(k:Nat) (m:List ((Int×Int)×aN)),k<=aA L/\i=ν (k:Int)/\Hid (Jx w1 (w1.heap.size+1) w1.heap.size m (L.take k) wr)/\Hid ((L.take k).any (λy=>mi x y !=0)=aP)) (λ_ _ _ i _=>aA L-(ag i).toNat)
 case atStart=>exact⟨0,[],bM _,rfl,om,zF⟩
 case round=>
  clear om zF;obtain⟨k,m,hk,rfl,HN,HF⟩:=hrel;have cC:Hid (β w wr):=η (aR.o.trans (HN.o.bl.mono aR.o.size));by_cases hlt:k<aA L
  ·obtain⟨be,oe,rfl,kY,e0,e1,e2⟩:=oQ ((HS.o.below cC.o).mono cC.o.size) hlt;have dU:=HI.o _ (cK hlt);have OT:=η (λhn=>aFr (x:=x) hlt HF.o hn);have Ca:=η (zb (λy=>mi x y !=0) hlt);have jU:Hid (L.take (k+1)=L.take k++ [L[k]]):=η (fH hlt);have hpl:aA (L.take k)<=1024:=by rw [vN];omega
   have ej:(0:Int)<=(k:Int):=by omega
   have hkb:(k:Int)<(aA L:Int):=by omega
   generalize L[k]=y at*;generalize L.take k=pre at*;have LO:=η (pn.o y dU);obtain⟨ym,ya,yn⟩:=y;simp only at e0 e1 e2;have dT:=η dU;have dZ:bx<wr.heap.size:=by have:=HN.o.bl.size;omega
   have aV:Hid (β w (wr.alloc (aK #[ν ym,ν ya,ν yn] 76))):=η (cC.o.alloc cC.o.size _);have Cw:Hid ((wr.alloc (aK #[ν ym,ν ya,ν yn] 76)).heap[wr.heap.size]? =aC (aK #[ν ym,ν ya,ν yn] 76 (0,0))):=η (cQ wr _);have qY:=η (HN.o.below ((aX _ _).alloc (aZ _) (aK #[ν ym,ν ya,ν yn] 76)));have hz2:wr.heap.size<(wr.alloc (aK #[ν ym,ν ya,ν yn] 76)).heap.size:=by simp
   clear dU;unfold Lg.val at LO;simp only at LO;go_upto_region 7 with fail
   generalize wr.alloc (aK #[ν ym,ν ya,ν yn] 76)=w2 at*;clear HN cC e0 e1 e2;obtain⟨BS,hby⟩:∃b',b'=wr.heap.size:=⟨_,rfl⟩;rw [<-hby] at Cw hz2 dZ ⊢;clear hby;have Jp:Hid (∀W,β w2 W->W.heap[bx]? =aC (aK #[aH x.Am (aA x.ms) x.cm,aH x.As (aA x.ss) x.cs,aH x.Ac (aA x.cy) x.cc,ν x.line,ν x.bW,ν x.lead,ν x.tr,ν x.bT] 26 (0,0))/\W.heap[BS]? =aC (aK #[ν ym,ν ya,ν yn] 76 (0,0))):=η (λW hW=>⟨HXW.o W (qY.o.bl.trans (hW.mono qY.o.bl.size)),(hW.block BS hz2).trans Cw.o⟩);obtain⟨hx2,nM⟩:=Jp.o _ (aX _ _);have c0:=bH _ bx 0 _ _ (0,0) hx2;have c1:=bH _ bx 1 _ _ (0,0) hx2;have c2:=bH _ bx 2 _ _ (0,0) hx2;have c3:=bH _ bx 3 _ _ (0,0) hx2;have c4:=bH _ bx 4 _ _ (0,0) hx2;have c5:=bH _ bx 5 _ _ (0,0) hx2;have c6:=bH _ bx 6 _ _ (0,0) hx2;have c7:=bH _ bx 7 _ _ (0,0) hx2;have y0:=bH _ BS 0 _ _ (0,0) nM;have y1:=bH _ BS 1 _ _ (0,0) nM;have y2:=bH _ BS 2 _ _ (0,0) nM;clear hx2 nM;by_cases hn:mi x ⟨ym,ya,yn⟩=0
   ·rw [hn] at LO;have jR:Hid ((L.take (k+1)).any (λy=>mi x y !=0)=aP):=η (by rw [Ca.o,HF.o,hn];rfl);clear hn OT Ca HF;go_upto_region 11 with (go_at_call 102;refine(LO.o _ aV.o).mono ?_;rintro e w3 ⟨rfl,hb3⟩;have iV:=η (qY.o.below hb3);have BM:=(Jp.o _ hb3).2;have hz3:BS<w3.heap.size:=cL hz2 hb3.size;clear c0 c1 c2 c3 c4 c5 c6 c7 y0 y1 y2 hb3;have y0:=bH _ BS 0 _ _ (0,0) BM;have y1:=bH _ BS 1 _ _ (0,0) BM;have a0D:=η BM;clear BM)
    have gM:=η (iV.o.below ((aX _ _).alloc (aZ _) (aK #[ν ym,ν ya] 162)));have UJ:=η ((fL w3 (aK #[ν ym,ν ya] 162) hz3).trans a0D.o);have jT:=η (cQ w3 (aK #[ν ym,ν ya] 162));have mh:w3.heap.size<(w3.alloc (aK #[ν ym,ν ya] 162)).heap.size:=by simp
    clear y0 y1 iV a0D qY Cw Jp aV oC kY;generalize w3.alloc (aK #[ν ym,ν ya] 162)=w4 at*;generalize w3.heap.size=bq at*;have y2:=bH _ BS 2 _ _ (0,0) UJ.o;have s0:=bH _ bq 0 _ _ (0,0) jT.o;have s1:=bH _ bq 1 _ _ (0,0) jT.o;have NV:BS<w4.heap.size:=M9 hz3 mh;have OQ:Hid (JK (ym,ya)):=η ⟨dT.o.m,dT.o.a⟩;obtain⟨st,w5,ui,fA,hs5,iY,Df⟩:=(gM.o.below ((aX _ _).alloc (aZ _) (aK #[ν yn] 2))).g.entry a7J a1P OQ.o;obtain⟨Aq,cq,vk⟩:=bL iY;have B1:Hid (w5.cell? ⟨w4.heap.size,0,aB⟩=aC (ν yn)):=η (by have e1:=fA.cell_far ⟨w4.heap.size,0,aB⟩ (by simp) (by have:=gM.o.lo;simp;omega);rw [e1];exact cM w4 _ _ 0 rfl);have IY:w1.heap.size+1<=w5.heap.size:=by rw [hs5];have:=gM.o.lo;simp;omega
    rw [vk] at ui iY;have NK:(Ge 159 (.map (aC w1.heap.size)) (bP #[ν ym,ν ya])).run aM (w4.alloc (aK #[ν yn] 2))= .ok (bC #[aH Aq (aA (qM pre (ym,ya))) cq,goInt st]) w5:=ui;have hbl:=a2A pre (ym,ya);have EL:=η Df;have fP:=η iY;have B7:=η vk;clear ui Df iY fA hs5 vk;generalize goInt st=gs at*;go_wp2_with (at_builtin;refine wpList_append_own_at _ rfl _ _ 53 rfl (w1.heap.size+1) 2 i0 _ 1 8 mX bu hz0' fw xe rfl (by decide) _ (aA (qM pre (ym,ya))) ((qM pre (ym,ya)).map (aG aF)) rfl fP.o ⟨w4.heap.size,0,aB⟩ 1 1 [ν yn] rfl rfl (by intro j u hu;cases j with|zero=>simp at hu;subst hu;exact B1.o|succ j=>simp at hu) xy (by simp only [bO];omega) (by omega) IY ?_)
    intro v6 w6 FU FJ _ FN;obtain⟨w7,Dr,F7,FL,AO,hB7⟩:=EL.o w6 v6 (qM pre (ym,ya)++ [yn]) (by rw [B7.o];exact FJ) (by rw [cN,dh];exact FU) (by rw [B7.o];exact FN);have EW:Hid (Jx w1 (w1.heap.size+1) w1.heap.size (@eV _ instBEqOfDecidableEq (ym,ya) v6 m) (L.take (k+1)) w7):=η (by
     have np:=gM.o.lo;have aGL:aa w1.heap.size w4 w7:=(((aX w4.heap.size w4).alloc (aZ _) _).mono (by omega)).trans (hB7 _ (aZ _));refine⟨?_,λq=> ?_, ?_, ?_,⟨np.1,np.2.1, ?_⟩⟩
     ·have e:qM (L.take (k+1))=λz=>if z=(ym,ya) then qM pre (ym,ya)++ [yn] else qM pre z:=by
       funext z;rw [jU.o,aDQ];show (if z=(ym,ya) then _ else _)=_;by_cases hz:z=(ym,ya)
       ·subst hz;rfl
       rw [ifN hz,ifN hz]
      rw [e];exact F7
     ·rw [jU.o];constructor
      ·rintro⟨v,hv⟩;rcases L5 gM.o.g.map.apart hv with e|⟨hv0,_⟩
       ·injection e with e1 e2;exact⟨⟨ym,ya,yn⟩,by simp,e1.symm⟩
       obtain⟨y,hy,e⟩:=(gM.o.key q).1 ⟨v,hv0⟩;exact⟨y,vP _ hy,e⟩
      rintro⟨y,hy,e⟩;rcases gN.1 hy with hy|hy
      ·obtain⟨v,hv⟩:=(gM.o.key q).2 ⟨y,hy,e⟩;exact a6n (q:=(ym,ya)) (v:=v6) hv
      have:y=⟨ym,ya,yn⟩:=by simpa using hy
      subst this;rw [<-e];exact⟨v6,Xz m⟩
     ·rw [jU.o,cN];have h1:=a6m (q:=(ym,ya)) (v:=v6) m;have h2:=gM.o.len;simp;omega
     ·exact gM.o.bl.trans aGL
     have:w4.heap.size+1<=w7.heap.size:=by simpa using AO
     omega)
    clear FU FJ FN F7 FL AO hB7 EL fP B1 B7 NK gM;go_wp2_with fail
    clear Dr;go_roundw
    case rel=>exact⟨k+1,_,by omega,by go_num,EW,jR⟩
    case measure=>simp [ag];omega
   have HR:Hid (mG x L=mi x ⟨ym,ya,yn⟩):=η (by unfold mG;rw [ifN bX.o,ifP (by rw [OT.o hn];exact hn),OT.o hn]);have HNZ:=η hn;have hne:(mi x ⟨ym,ya,yn⟩==0)=aP:=by simpa using hn
   have a4Y:(mi x ⟨ym,ya,yn⟩ !=0)=aO:=by simpa using hn
   generalize mi x ⟨ym,ya,yn⟩=E at*;clear hn OT Ca HF;go_wp2_with (go_at_call 102;refine(LO.o _ aV.o).mono ?_;rintro e w3 ⟨rfl,hb3⟩;have af:Hid (β w w3):=τ aV hb3;clear hb3)
   go_ret2;exact⟨af.o,aU ⟨by rw [HR.o];exact HNZ.o,by rw [HR.o];rfl⟩⟩
  obtain rfl:k=aA L:=by omega
  rw [cU] at HN HF;have zF:Hid (F3 x L=0):=η (aFq HF.o);have Oq:Hid (mG x L=if (gC L).any (λq=>dR (sQ L q) !=0)=aO then 2 else 0):=η (by unfold mG;rw [ifN bX.o,ifN (by rw [zF.o];simp)]);have wx:=η (aIU w1.heap.size m wr HN.o.g.map HN.o.g.yy HN.o.g.dom (by have:=HN.o.len;omega));obtain⟨i1,qR,RO,RP,RQ⟩:=dP Rc;clear mZ;go_wp2_with (go_at_call 103;refine wx.o.mono ?_;unfold ZC;rintro e wh ⟨vo,l,rfl,hsd,nH,l9,hbl⟩;have qh:=η hsd;have EX:=η l9;have Tp:=η (HN.o.below hbl);have LI:Hid (β w wh):=η ((cC.o).trans (hbl.mono cC.o.size));obtain⟨Ao,co,hvo⟩:=bL l9;subst hvo;clear hsd l9 hbl wx)
  have hlen:=HN.o.len;obtain rfl:l=gC L:=aHR qh.o (λy hy=>(HI.o y hy).a) HN.o.key;have jt:aA (gC L)<=1024:=by omega
  clear HN nH qh cC HF zF hlen;have sY:Hid (β wh wh):=η (aX _ _);have Zu:Hid (wh.ownsRow wh.heap.size 76 3 (aH aB 0 0) (aA (mH L ((gC L).take 0))) (bB (mH L ((gC L).take 0)))):=η (by rw [nW];exact gG _ _ _ _);have Cu:Hid (((gC L).take 0).any (λq=>dR (sQ L q) !=0)=aP):=η (by rw [nW];rfl);go_loopw [11,13,14,15,50] (λv _ _ _ i wr=>∃k:Nat,k<=aA (gC L)/\i=ν (k:Int)/\Hid (β wh wr)/\Hid (wr.ownsRow wh.heap.size 76 3 v (aA (mH L ((gC L).take k))) (bB (mH L ((gC L).take k))))/\Hid (((gC L).take k).any (λq=>dR (sQ L q) !=0)=aP)) (λ_ _ _ _ i _=>aA (gC L)-(ag i).toNat)
  case atStart=>exact⟨0,bM _,rfl,sY,Zu,Cu⟩
  case round=>
   clear sY Zu Cu;obtain⟨k,hk,rfl,HR,HO,HV⟩:=hrel;obtain⟨Ax,cx,pN⟩:=bL HO.o;subst pN;by_cases hlt:k<aA (gC L)
   ·obtain⟨bo,oo,rfl,tV,e0,e1⟩:=a7I (((aW.cB EX.o).below HR.o).mono HR.o.size) hlt;have cG:=η (aIO L hlt);have Lv:=η (zb (λq=>dR (sQ L q) !=0) hlt);have Ed:Hid ((dR (sQ L (gC L)[k]) !=0)=aO->(gC L).any (λq=>dR (sQ L q) !=0)=aO):=η (λh=>kE.2 ⟨_,cK hlt,h⟩);have gZ:aA (mH L ((gC L).take k))<=1024:=bz (aIN L _ k) jt;have Ws:=(SI L (gC L)[k]).1 (cK hlt);have ej:(0:Int)<=(k:Int):=by omega
    have hkb:(k:Int)<(aA (gC L):Int):=by omega
    generalize (gC L)[k]=q at*;obtain⟨y,hy,hyq⟩:=Ws;have OQ:Hid (JK q):=η (by rw [<-hyq];exact⟨(HI.o y hy).m,(HI.o y hy).a⟩);obtain⟨Aq,cq,vk⟩:=bL (Tp.o.g.slot q);have kT:Hid (∀W,β wh W->(Instr.lookup 159 (.map (aC w1.heap.size)) (bP #[ν q.1,ν q.2]) aP).run aM W= .ok (aH Aq (aA (qM L q)) cq) W):=η λW hW=>by have h2:=(Tp.o.below hW).g.look a7J OQ.o a1P;rw [vk] at h2;exact h2
    have kj:Hid (∀W,β wh W->aQ aM 104 #[aH Aq (aA (qM L q)) cq] W λe w'=>e=aT (bC #[ν (gU (sQ L q)),ν (dR (sQ L q))])/\β W w'):=η λW hW=>EB (qM L q) Aq cq W (λz hz=>by obtain⟨u,hu,rfl⟩:=di.1 hz;exact(HI.o u (jG.1 hu).1).n) (by have h2:=(Tp.o.below hW).g.slot q;rw [vk] at h2;exact aW.cB h2) (by have:=a2A L q;omega)
    have af:Hid (β wh (wr.alloc (aK #[ν q.1,ν q.2] 162))):=η (HR.o.alloc HR.o.size _);have oD:=η (cQ wr (aK #[ν q.1,ν q.2] 162));have cD:=η (HO.o.alloc (aK #[ν q.1,ν q.2] 162));have hz3:wr.heap.size<(wr.alloc (aK #[ν q.1,ν q.2] 162)).heap.size:=by simp
    clear vk hy hyq OQ HO;go_upto_region 17 with fail
    generalize wr.alloc (aK #[ν q.1,ν q.2] 162)=w3 at*;clear e0 e1;obtain⟨bq,WD⟩:∃b',b'=wr.heap.size:=⟨_,rfl⟩;rw [<-WD] at oD hz3 ⊢;clear WD;have iW:Hid (∀W,β w3 W->W.cell? ⟨bq,0,aB⟩=aC (ν q.1)/\W.cell? ⟨bq,1,aB⟩=aC (ν q.2)):=η (λW hW=>⟨((fD hW).1 _ _ hz3).trans (ρ oD.o),((fD hW).1 _ _ hz3).trans (ρ oD.o)⟩);obtain⟨s0,s1⟩:=iW.o _ (aX _ _);have hlk:=kT.o _ af.o;obtain⟨q1,q2⟩:=q;simp only at kT kj iW s0 s1 hlk cG Lv Ed;generalize sQ L (q1,q2)=s at*;by_cases hs1:aL s
    ·have yN:Hid (((gC L).take (k+1)).any (λq=>dR (sQ L q) !=0)=aP):=η (by rw [Lv.o,HV.o,(eH hs1).2];rfl);rw [(eH hs1).1,(eH hs1).2] at kj;by_cases hs0:s=0
     ·subst hs0;have HD:Hid (mH L ((gC L).take (k+1))=mH L ((gC L).take k)):=η (by rw [cG.o,ifN (by simp),List.append_nil]);clear hs1 Lv Ed cG kT;go_wp2_with (go_at_call 104;refine(kj.o _ af.o).mono ?_;rintro e w4 ⟨rfl,hb4⟩;have ar:Hid (β wh w4):=τ af hb4;have gM:Hid (β w3 w4):=η hb4;obtain⟨s0',s1'⟩:=iW.o _ hb4;clear hb4 hlk s0 s1)
      have fP:Hid (w4.ownsRow wh.heap.size 76 3 (aH Ax (aA (mH L ((gC L).take k))) cx) (aA (mH L ((gC L).take (k+1)))) (bB (mH L ((gC L).take (k+1))))):=η (by rw [HD.o];exact iJ cD.o gM.o);go_roundw
      case rel=>exact⟨k+1,by omega,by go_num,ar,fP,yN⟩
      case measure=>simp [ag];omega
     have HD:Hid (mH L ((gC L).take (k+1))=mH L ((gC L).take k)++ [⟨q1,q2,s⟩]):=η (by rw [cG.o,ifP hs0]);have X5:(s==0)=aP:=by simpa using hs0
     have aN9:(s !=0)=aO:=by simpa using hs0
     generalize mH L ((gC L).take k)=D at*;clear hs1 Lv Ed cG kT hs0;go_wp2_with (first|(go_at_call 104;refine(kj.o _ af.o).mono ?_;rintro e w4 ⟨rfl,hb4⟩;have ar:Hid (β wh w4):=τ af hb4;have gM:Hid (β w3 w4):=η hb4;obtain⟨s0',s1'⟩:=iW.o _ hb4;clear hb4 hlk s0 s1)|(at_builtin;refine wpList_append_lies _ rfl _ _ 39 rfl wh.heap.size 76 i1 _ 3 24 tG qR RO RP RQ rfl (by omega) _ _ _ rfl ((iJ cD.o gM.o).alloc (aK #[ν q1,ν q2,ν s] 76)) ⟨w4.heap.size,0,aB⟩ 1 1 (Lg.cells ⟨q1,q2,s⟩) rfl rfl (dS _ _ #[_,_,_] rfl) (Rf _) (by omega) (by simp only [bO];omega) (by omega) (by have:=ar.o.size;simp;omega) (w4.heap.size+1) (by simp) ?_))
     intro g5 MV w5 FR tW _ _;have cY:Hid (β wh w5):=η ((ar.o.alloc ar.o.size _).grown tW (by have:=ar.o.size;simp;omega) (λj hj=>eU cD.o j hj));have fP:Hid (w5.ownsRow wh.heap.size 76 3 (aH (aC ⟨g5,0,aB⟩) (aA D+1) MV) (aA (mH L ((gC L).take (k+1)))) (bB (mH L ((gC L).take (k+1))))):=η (by rw [HD.o,cN,Re];exact FR);clear FR tW cD ar gM af;go_wp2_with fail
     go_roundw
     case rel=>exact⟨k+1,by omega,by go_num,cY,fP,yN⟩
     case measure=>simp [ag];omega
    have qD:Hid (mG x L=2):=η (by rw [Oq.o,ifP (Ed.o (by rw [(gw hs1).2];rfl))]);rw [(gw hs1).1,(gw hs1).2] at kj;clear hs1 Lv Ed cG kT;go_wp2_with (go_at_call 104;refine(kj.o _ af.o).mono ?_;rintro e w4 ⟨rfl,hb4⟩;have ar:Hid (β wh w4):=τ af hb4;have gM:Hid (β w3 w4):=η hb4;obtain⟨s0',s1'⟩:=iW.o _ hb4;clear hb4 hlk s0 s1)
    go_ret2;exact⟨LI.o.trans (ar.o.mono LI.o.size),aU ⟨by rw [qD.o];decide,by rw [qD.o];rfl⟩⟩
   obtain rfl:k=aA (gC L):=by omega
   rw [cU] at HV;have uQ:Hid (mG x L=0):=η (by rw [Oq.o,ifN (by rw [HV.o];simp)]);have Vw:=HO.o;rw [cU] at Vw ⊢;have dG:Hid (wr.ownsRow w.heap.size 76 3 (aH Ax (aA (mH L (gC L))) cx) (aA (gh L)) (bB (gh L))):=η (iD Vw LI.o.size);clear Vw HO;go_wp2_with fail
   go_ret2;exact⟨LI.o.trans (HR.o.mono LI.o.size),aS ⟨uQ.o,_,rfl,dG.o⟩⟩
end
def Bd.val(x:Bd):aN:=bP #[aG aF x.s,aG aF x.m,aG aF x.c,aG aF x.q,aG aF x.p]
def rh(x:Bd):Bool:=decide (x.q<1)||decide (x.p<1)
theorem Pv {w:aJ} {B:Nat} {A:Option ai} {l:List Bd}(h:aW w B A (nX l)) {k:Nat}(hk:k<aA l):
 ∃b o,A=aC ⟨b,o,aB⟩/\b<B/\w.cell? ⟨b,o+k*5,aB⟩=aC (ν l[k].s)/\w.cell? ⟨b,o+k*5+1,aB⟩=aC (ν l[k].m)/\w.cell? ⟨b,o+k*5+2,aB⟩=aC (ν l[k].c)/\w.cell? ⟨b,o+k*5+3,aB⟩=aC (ν l[k].q)/\w.cell? ⟨b,o+k*5+4,aB⟩=aC (ν l[k].p):=by
 obtain⟨b,o,e,hb,hc⟩:=h.run (i:=k*5) (y:=ν l[k].s) (t:= [ν l[k].m,ν l[k].c,ν l[k].q,ν l[k].p]) (λj u hu=>tT Bd.cells 5 (λ_=>rfl) l k hk j u hu);exact⟨b,o,e,hb,hc 0 _ rfl,hc 1 _ rfl,hc 2 _ rfl,hc 3 _ rfl,hc 4 _ rfl⟩
theorem aCX(x:Bd)(w:aJ):aQ aM 226 #[x.val] w λe w'=>e=aT (bK (rh x))/\aa w.heap.size w w':=by
 obtain⟨s,m,c,q,p⟩:=x;unfold Bd.val;go_enter func226,ntmps226
 go_wp2
 all_goals
  go_ret;refine⟨fT ?_,(aX _ _).alloc (aZ _) _⟩;rw [GC];simp_all [rh]
theorem aHD(L:List Bd)(A:Option ai)(c:Nat)(w:aJ)(hs:aW w w.heap.size A (nX L))(hl:aA L<=1000000):
 aQ aM 254 #[aH A (aA L) c,.func (.func 226) #[] #[]] w λe w'=>e=aT (ν (uj rh L))/\β w w':=by
 have HS:=η hs;have HP:=η (λ(x:Bd) (W:aJ)=>aCX x W);unfold Bd.val at HP;go_enter func254,ntmps254
 go_wp2
 go_loopw [5,8] (λ_ i wr=>∃k:Nat,k<=aA L/\i=ν k/\Hid (β w wr)/\Hid ((L.take k).any rh=aP)) (λ_ i _=>aA L-(ag i).toNat)
 ·exact⟨0,bM _,rfl,aX _ _,rfl⟩
 ·
  obtain⟨k,hk,rfl,HB,HK⟩:=hrel;have hsz:=HB.o.size;by_cases hlt:k<aA L
  ·obtain⟨b,o,rfl,hb,d0,d1,d2,d3,d4⟩:=Pv (HS.o.below HB) hlt;have HA:=η (zb rh hlt);cases hp:rh L[k]
   ·go_wp2_with (go_at_call 226;refine mM (HP.o L[k] _) λw1 aR=> ?_)
    go_roundw
    ·exact⟨k+1,by omega,by go_num,HB.o.trans (aR.o.mono hsz),η (by rw [HA.o,HK.o,hp];rfl)⟩
    simp [ag];omega
   have HF:=η (RY rh hlt HK hp);go_wp2_with (go_at_call 226;refine mM (HP.o L[k] _) λw1 aR=> ?_)
   go_ret;exact⟨cW HF,HB.o.trans (aR.o.mono hsz)⟩
  obtain rfl:k=aA L:=by omega
  have hn:=HK.o;rw [cU] at hn;have HN:=η (RZ rh hn);go_wp2
  go_ret;exact⟨cW HN,HB⟩
theorem aGH(L:List Bd)(A:Option ai)(c:Nat)(w:aJ)(hs:aW w w.heap.size A (nX L))(hl:aA L<=1000000):
 aQ aM 225 #[aH A (aA L) c,.func (.func 226) #[] #[]] w λe w'=>e=aT (bK (L.any rh))/\β w w':=by
 have HI:=η (aHD L A c w hs hl);have HA:=η (XO rh L);go_enter func225,ntmps225
 go_wp2_with (go_at_call 254;refine mM HI.o λw1 aR=> ?_)
 go_ret;exact⟨fT HA,aR⟩
def uW(L:List Bd)(aHa dC:Int):Int:=if 1024<(aA L) then 6 else if aHa<0\/dC<0\/L.any rh=aO then 1 else 0
theorem aCY(L:List Bd)(A:Option ai)(c:Nat)(la ca:Int)(w:aJ)(hs:aW w w.heap.size A (nX L))(hl:aA L<=1000000):
 aQ aM 192 #[aH A (aA L) c,ν la,ν ca] w λe w'=>e=aT (ν (uW L la ca))/\β w w':=by
 have HH:=η (aGH L A c w hs hl);by_cases h1:1024<aA L
 ·have e:uW L la ca=6:=by unfold uW;rw [ifP h1]
  have hb:=decide_eq_true (by omega);rw [e];go_enter PV,PY
  go_wp2
  go_ret;exact⟨rfl,aX _ _⟩
 have hb:=decide_eq_false (by omega);by_cases h2:la<0
 ·have e:uW L la ca=1:=by unfold uW;rw [ifN h1,ifP (aS h2)]
  rw [e];go_enter PV,PY
  go_wp2
  go_ret;exact⟨rfl,aX _ _⟩
 by_cases h3:ca<0
 ·have e:uW L la ca=1:=by unfold uW;rw [ifN h1,ifP (aU (aS h3))]
  rw [e];go_enter PV,PY
  go_wp2
  go_ret;exact⟨rfl,aX _ _⟩
 cases h4:L.any rh
 ·have e:uW L la ca=0:=by unfold uW;rw [ifN h1,ifN (by rw [h4];simp;omega)]
  rw [e];rw [h4] at HH;go_enter PV,PY
  go_wp2_with (go_at_call 225;refine mM HH.o λw1 aR=> ?_)
  go_ret;exact⟨rfl,aR.o⟩
 have e:uW L la ca=1:=by unfold uW;rw [ifN h1,ifP (aU (aU h4))]
 rw [e];rw [h4] at HH;go_enter PV,PY
 go_wp2_with (go_at_call 225;refine mM HH.o λw1 aR=> ?_)
 go_ret;exact⟨rfl,aR.o⟩
section
def Hm(x:ak)(d:Bd):Bool:=(jd x d.m !=0)
def Hn(x:ak)(d:Bd):Bool:=(jM x d.c !=0)
def Ho(d:Bd):Bool:=decide (d.q<1)||decide (d.p<1)
def K9(d:Bd):Bool:=decide (d.q>274877906944)
def Hp(x:ak)(d:Bd):Bool:=decide (d.p>(df x d.c).b)
def nY(x:ak)(d:Bd):Int:=if Hm x d=aO then 9 else if Hn x d=aO then 10 else if Ho d=aO then 1 else if K9 d=aO then 2 else if Hp x d=aO then 15 else 0
def Ex(b0 b1 bs be:Nat):Array aN:= #[aG aF 9,.func (.func 149) #[] #[bD (aC ⟨b0,0,aB⟩),bD (aC ⟨b1,0,aB⟩)],aG aF 10,.func (.func 150) #[] #[bD (aC ⟨be,0,aB⟩)],aG aF 1,.func (.func 151) #[] #[bD (aC ⟨b1,0,aB⟩)],aG aF 2,.func (.func 152) #[] #[bD (aC ⟨b1,0,aB⟩)],aG aF 15,.func (.func 153) #[] #[bD (aC ⟨b1,0,aB⟩),bD (aC ⟨bs,0,aB⟩)]]
structure LD(W:aJ)(b0 b1 bs be bt:Nat)(x:ak)(d:Bd):Prop where
 cf:pd W b0 x
 ok:lj W x
 d1:W.cell? ⟨b1,1,aB⟩=aC (ν d.m)
 d3:W.cell? ⟨b1,3,aB⟩=aC (ν d.q)
 d4:W.cell? ⟨b1,4,aB⟩=aC (ν d.p)
 s1:W.cell? ⟨bs,1,aB⟩=aC (ν (df x d.c).b)
 e0:W.cell? ⟨be,0,aB⟩=aC (ν (jM x d.c))
 tab:∀j u,(Ex b0 b1 bs be)[j]? =aC u->W.cell? ⟨bt,j,aB⟩=aC u
 h1:b1<W.heap.size
 h2:bs<W.heap.size
 h3:be<W.heap.size
 h4:bt<W.heap.size
theorem LD.below {w w':aJ} {b0 b1 bs be bt:Nat} {x:ak} {d:Bd}(h:LD w b0 b1 bs be bt x d)(hb:aa w.heap.size w w'):LD w' b0 b1 bs be bt x d:=
 ⟨h.cf.below hb,h.ok.below hb,(hb.cell (p:=⟨b1,1,aB⟩) h.h1).trans h.d1,(hb.cell (p:=⟨b1,3,aB⟩) h.h1).trans h.d3,(hb.cell (p:=⟨b1,4,aB⟩) h.h1).trans h.d4,(hb.cell (p:=⟨bs,1,aB⟩) h.h2).trans h.s1,(hb.cell (p:=⟨be,0,aB⟩) h.h3).trans h.e0,λj u hu=>(hb.cell (p:=⟨bt,j,aB⟩) h.h4).trans (h.tab j u hu),cL h.h1 hb.size,cL h.h2 hb.size,cL h.h3 hb.size,cL h.h4 hb.size⟩
section
variable (x:ak) (d:Bd) (b0 b1 bs be bt:Nat) (w:aJ) (h:LD w b0 b1 bs be bt x d)
include h
theorem aDA(hI:aL d.m):aQ aM 149 #[bD (aC ⟨b0,0,aB⟩),bD (aC ⟨b1,0,aB⟩)] w λe w'=>e=aT (bK (Hm x d))/\aa w.heap.size w w':=by
 obtain⟨c0,c1,c2,c3,c4,c5,c6,c7,jL⟩:=h.cf;have d1:=h.d1;have HC:=η (Q4 x d.m w h.ok hI);have hv:Hm x d=(jd x d.m !=0):=rfl;rw [hv];unfold ak.val at HC;generalize uk x d.m=p at*;generalize jd x d.m=me at*;go_enter func149,ntmps149
 go_wp2_with (go_at_call 147;refine mM HC.o λw1 aR=> ?_)
 go_ret;exact⟨rfl,aR.o.alloc aR.o.size _⟩
theorem aDB:aQ aM 150 #[bD (aC ⟨be,0,aB⟩)] w λe w'=>e=aT (bK (Hn x d))/\aa w.heap.size w w':=by
 have e0:=h.e0;have hv:Hn x d=(jM x d.c !=0):=rfl;rw [hv];generalize jM x d.c=se at*;go_enter func150,ntmps150
 go_wp2
 go_ret;exact⟨rfl,aX _ _⟩
theorem aDC:aQ aM 151 #[bD (aC ⟨b1,0,aB⟩)] w λe w'=>e=aT (bK (Ho d))/\aa w.heap.size w w':=by
 have d3:=h.d3;have d4:=h.d4;go_enter func151,ntmps151
 go_wp2
 all_goals
  go_ret;refine⟨fT ?_,aX _ _⟩;rw [GC];simp_all [Ho]
theorem aDD:aQ aM 152 #[bD (aC ⟨b1,0,aB⟩)] w λe w'=>e=aT (bK (K9 d))/\aa w.heap.size w w':=by
 have d3:=h.d3;go_enter func152,ntmps152
 go_wp2
 go_ret;exact⟨rfl,aX _ _⟩
theorem aDE:aQ aM 153 #[bD (aC ⟨b1,0,aB⟩),bD (aC ⟨bs,0,aB⟩)] w λe w'=>e=aT (bK (Hp x d))/\aa w.heap.size w w':=by
 have d4:=h.d4;have s1:=h.s1;have hv:Hp x d=decide (d.p>(df x d.c).b):=rfl;rw [hv];generalize (df x d.c).b=sb at*;go_enter func153,ntmps153
 go_wp2
 go_ret;exact⟨rfl,aX _ _⟩
end
def Bd.ok(d:Bd):Prop:=aL d.s/\aL d.m/\aL d.c/\aL d.q/\aL d.p
theorem a1r(x:ak)(d:Bd)(w:aJ)(h:lj w x)(hm:aA x.ms<=100000)(hs:aA x.ss<=100000)(hI:d.ok):
 aQ aM 88 #[x.val,d.val] w λe w'=>e=aT (aG aF (nY x d))/\aa w.heap.size w w':=by
 obtain⟨is,im,ic,iq,ip⟩:=hI;have HE:=η (show nY x d=if Hm x d=aO then 9 else if Hn x d=aO then 10 else if Ho d=aO then 1 else if K9 d=aO then 2 else if Hp x d=aO then 15 else 0 from rfl);generalize nY x d=ee at*;have hb1:aa w.heap.size w (w.alloc (aK #[aH x.Am (aA x.ms) x.cm,aH x.As (aA x.ss) x.cs,aH x.Ac (aA x.cy) x.cc,aG aF x.line,aG aF x.bW,aG aF x.lead,aG aF x.tr,aG aF x.bT] 26)):=mY w x;have hb2:aa w.heap.size w ((w.alloc (aK #[aH x.Am (aA x.ms) x.cm,aH x.As (aA x.ss) x.cs,aH x.Ac (aA x.cy) x.cc,aG aF x.line,aG aF x.bW,aG aF x.lead,aG aF x.tr,aG aF x.bT] 26)).alloc (aK #[aG aF d.s,aG aF d.m,aG aF d.c,aG aF d.q,aG aF d.p] 41)):=hb1.alloc hb1.size _;have nj:pd ((w.alloc (aK #[aH x.Am (aA x.ms) x.cm,aH x.As (aA x.ss) x.cs,aH x.Ac (aA x.cy) x.cc,aG aF x.line,aG aF x.bW,aG aF x.lead,aG aF x.tr,aG aF x.bT] 26)).alloc (aK #[aG aF d.s,aG aF d.m,aG aF d.c,aG aF d.q,aG aF d.p] 41)) w.heap.size x:=(zl w x).below σ;have dU:lj ((w.alloc (aK #[aH x.Am (aA x.ms) x.cm,aH x.As (aA x.ss) x.cs,aH x.Ac (aA x.cy) x.cc,aG aF x.line,aG aF x.bW,aG aF x.lead,aG aF x.tr,aG aF x.bT] 26)).alloc (aK #[aG aF d.s,aG aF d.m,aG aF d.c,aG aF d.q,aG aF d.p] 41)) x:=h.below hb2;have hd:∀(j:Nat) (u:aN),(#[aG aF d.s,aG aF d.m,aG aF d.c,aG aF d.q,aG aF d.p]:Array aN)[j]? =aC u->((w.alloc (aK #[aH x.Am (aA x.ms) x.cm,aH x.As (aA x.ss) x.cs,aH x.Ac (aA x.cy) x.cc,aG aF x.line,aG aF x.bW,aG aF x.lead,aG aF x.tr,aG aF x.bT] 26)).alloc (aK #[aG aF d.s,aG aF d.m,aG aF d.c,aG aF d.q,aG aF d.p] 41)).cell? ⟨w.heap.size+1,j,aB⟩=aC u:=by intro j u hu;rw [cM _ _ _ _ (by simp)];exact hu
 have hsz:((w.alloc (aK #[aH x.Am (aA x.ms) x.cm,aH x.As (aA x.ss) x.cs,aH x.Ac (aA x.cy) x.cc,aG aF x.line,aG aF x.bW,aG aF x.lead,aG aF x.tr,aG aF x.bT] 26)).alloc (aK #[aG aF d.s,aG aF d.m,aG aF d.c,aG aF d.q,aG aF d.p] 41)).heap.size=w.heap.size+2:=by simp
 have HB:=η hb2;have uI:=η nj;have dT:=η dU;have HD:=η hd;obtain⟨c0,c1,c2,c3,c4,c5,c6,c7,jL⟩:=nj;have e2:=hd 2 _ rfl;unfold ak.val Bd.val at*;go_enter func88,ntmps88
 go_upto_region 1 with (fail)
 generalize hW:((w.alloc (aK #[aH x.Am (aA x.ms) x.cm,aH x.As (aA x.ss) x.cs,aH x.Ac (aA x.cy) x.cc,aG aF x.line,aG aF x.bW,aG aF x.lead,aG aF x.tr,aG aF x.bT] 26)).alloc (aK #[aG aF d.s,aG aF d.m,aG aF d.c,aG aF d.q,aG aF d.p] 41))=W at*;have HS:=η (O3 x d.c W dT.o ic);unfold ak.val at HS;go_upto_region 2 with (go_at_call 117;refine HS.o.mono ?_;rintro e w1 ⟨rfl,hb1⟩;have aR:=η hb1)
 have hs1:=hsz;have h1:=aR.o.size;have nG:aa W.heap.size W (w1.alloc (aK #[aG aF (df x d.c).a,aG aF (df x d.c).b] 69)):=aR.o.alloc h1 _;have j6:aa W.heap.size W ((w1.alloc (aK #[aG aF (df x d.c).a,aG aF (df x d.c).b] 69)).alloc (aK #[aG aF (jM x d.c)] 32)):=nG.alloc nG.size _;have gH:aa W.heap.size W (((w1.alloc (aK #[aG aF (df x d.c).a,aG aF (df x d.c).b] 69)).alloc (aK #[aG aF (jM x d.c)] 32)).alloc (aK (Ex w.heap.size (w.heap.size+1) w1.heap.size (w1.heap.size+1)) 223)):=j6.alloc j6.size _;have IK:aa w1.heap.size (w1.alloc (aK #[aG aF (df x d.c).a,aG aF (df x d.c).b] 69)) (((w1.alloc (aK #[aG aF (df x d.c).a,aG aF (df x d.c).b] 69)).alloc (aK #[aG aF (jM x d.c)] 32)).alloc (aK (Ex w.heap.size (w.heap.size+1) w1.heap.size (w1.heap.size+1)) 223)):=((aX _ _).alloc (by simp) _).alloc (by simp;omega) _;have HN:Hid (LD (((w1.alloc (aK #[aG aF (df x d.c).a,aG aF (df x d.c).b] 69)).alloc (aK #[aG aF (jM x d.c)] 32)).alloc (aK (Ex w.heap.size (w.heap.size+1) w1.heap.size (w1.heap.size+1)) 223)) w.heap.size (w.heap.size+1) w1.heap.size (w1.heap.size+1) (w1.heap.size+1+1) x d):=η ⟨uI.o.below gH,dT.o.below gH,(gH.cell (p:=⟨w.heap.size+1,1,aB⟩) (by simp;omega)).trans (HD.o 1 _ rfl),(gH.cell (p:=⟨w.heap.size+1,3,aB⟩) (by simp;omega)).trans (HD.o 3 _ rfl),(gH.cell (p:=⟨w.heap.size+1,4,aB⟩) (by simp;omega)).trans (HD.o 4 _ rfl),(by
  have q:aa (w1.heap.size+1) (w1.alloc (aK #[aG aF (df x d.c).a,aG aF (df x d.c).b] 69)) (((w1.alloc (aK #[aG aF (df x d.c).a,aG aF (df x d.c).b] 69)).alloc (aK #[aG aF (jM x d.c)] 32)).alloc (aK (Ex w.heap.size (w.heap.size+1) w1.heap.size (w1.heap.size+1)) 223)):=((aX _ _).alloc (by simp) _).alloc (by simp) _;exact(q.cell (p:=⟨w1.heap.size,1,aB⟩) (by simp)).trans (cM _ _ _ 1 rfl)),(by
  have q:aa (w1.heap.size+2) ((w1.alloc (aK #[aG aF (df x d.c).a,aG aF (df x d.c).b] 69)).alloc (aK #[aG aF (jM x d.c)] 32)) (((w1.alloc (aK #[aG aF (df x d.c).a,aG aF (df x d.c).b] 69)).alloc (aK #[aG aF (jM x d.c)] 32)).alloc (aK (Ex w.heap.size (w.heap.size+1) w1.heap.size (w1.heap.size+1)) 223)):=(aX _ _).alloc (by simp) _;exact(q.cell (p:=⟨w1.heap.size+1,0,aB⟩) (by simp)).trans (by rw [cM _ _ _ _ (by simp)];rfl)),(λj u hu=>by rw [cM _ _ _ _ (by simp)];exact hu),by simp;omega,by simp;omega,by simp,by simp⟩
 have cC:Hid (aa w.heap.size w (((w1.alloc (aK #[aG aF (df x d.c).a,aG aF (df x d.c).b] 69)).alloc (aK #[aG aF (jM x d.c)] 32)).alloc (aK (Ex w.heap.size (w.heap.size+1) w1.heap.size (w1.heap.size+1)) 223))):=HB.o.trans (gH.mono HB.o.size);unfold Ex at HN cC;go_wp2_with fail
 generalize ((w1.alloc (aK #[aG aF (df x d.c).a,aG aF (df x d.c).b] 69)).alloc (aK #[aG aF (jM x d.c)] 32)).alloc (aK #[aG aF 9,.func (.func 149) #[] #[bD (aC ⟨w.heap.size,0,aB⟩),bD (aC ⟨w.heap.size+1,0,aB⟩)],aG aF 10,.func (.func 150) #[] #[bD (aC ⟨w1.heap.size+1,0,aB⟩)],aG aF 1,.func (.func 151) #[] #[bD (aC ⟨w.heap.size+1,0,aB⟩)],aG aF 2,.func (.func 152) #[] #[bD (aC ⟨w.heap.size+1,0,aB⟩)],aG aF 15,.func (.func 153) #[] #[bD (aC ⟨w.heap.size+1,0,aB⟩),bD (aC ⟨w1.heap.size,0,aB⟩)]] 223)=w2 at HN cC ⊢;have aR:=cC;generalize e10:w.heap.size+1=b1 at HN ⊢;generalize e11:w.heap.size=b0 at HN aR ⊢;generalize e12:w1.heap.size+1=be at HN ⊢;generalize e13:be+1=bt at HN ⊢;generalize e14:w1.heap.size=bs at HN ⊢;refine ux 6 ?_;rw [eI];have t0:w2.cell? ⟨bt,0,aB⟩=aC (aG aF 9):=HN.o.tab 0 _ rfl;have t1:w2.cell? ⟨bt,1,aB⟩=aC (.func (.func 149) #[] #[bD (aC ⟨b0,0,aB⟩),bD (aC ⟨b1,0,aB⟩)]):=HN.o.tab 1 _ rfl;have hlt:=HN.o.h4;have bX:=η (HN.o.below ((aX _ _).alloc (aZ _) (aK #[aG aF 9,.func (.func 149) #[] #[bD (aC ⟨b0,0,aB⟩),bD (aC ⟨b1,0,aB⟩)]] 223)));have hsz:b0<=w2.heap.size:=by rw [<-e11];exact aR.o.size
 go_wp2_with fail
 refine(aDA x d b0 b1 bs be bt _ bX.o im).mono ?_;rintro e w3 ⟨rfl,hb⟩;have fF:Hid (aa b0 w w3):=(aR.o.alloc hsz _).trans (hb.mono (by simp;omega));have jl:=η (bX.o.below hb);have q0:w3.cell? ⟨w2.heap.size,0,aB⟩=aC (aG aF 9):=(hb.cell (p:=⟨w2.heap.size,0,aB⟩) (by simp)).trans (cM _ _ _ 0 rfl);cases gR:Hm x d
 case true=>
  have HF:Hid (9=ee):=by show _=_;rw [HE.o];simp [gR]
  go_wp2_with fail
  go_ret;exact⟨cW HF.o,by rw [e11];exact fF.o⟩
 have HN:=jl;have aR:=fF;go_wp2_with fail
 rw [eI];have t0:w3.cell? ⟨bt,2,aB⟩=aC (aG aF 10):=HN.o.tab 2 _ rfl;have t1:w3.cell? ⟨bt,3,aB⟩=aC (.func (.func 150) #[] #[bD (aC ⟨be,0,aB⟩)]):=HN.o.tab 3 _ rfl;have hlt:=HN.o.h4;have bX:=η (HN.o.below ((aX _ _).alloc (aZ _) (aK #[aG aF 10,.func (.func 150) #[] #[bD (aC ⟨be,0,aB⟩)]] 223)));have hsz:b0<=w3.heap.size:=by rw [<-e11];exact aR.o.size
 go_wp2_with fail
 refine(aDB x d b0 b1 bs be bt _ bX.o).mono ?_;rintro e w4 ⟨rfl,hb⟩;have fF:Hid (aa b0 w w4):=(aR.o.alloc hsz _).trans (hb.mono (by simp;omega));have jl:=η (bX.o.below hb);have q0:w4.cell? ⟨w3.heap.size,0,aB⟩=aC (aG aF 10):=(hb.cell (p:=⟨w3.heap.size,0,aB⟩) (by simp)).trans (cM _ _ _ 0 rfl);cases lX:Hn x d
 case true=>
  have HF:Hid (10=ee):=by show _=_;rw [HE.o];simp [gR,lX]
  go_wp2_with fail
  go_ret;exact⟨cW HF.o,by rw [e11];exact fF.o⟩
 have HN:=jl;have aR:=fF;go_wp2_with fail
 rw [eI];have t0:w4.cell? ⟨bt,4,aB⟩=aC (aG aF 1):=HN.o.tab 4 _ rfl;have t1:w4.cell? ⟨bt,5,aB⟩=aC (.func (.func 151) #[] #[bD (aC ⟨b1,0,aB⟩)]):=HN.o.tab 5 _ rfl;have hlt:=HN.o.h4;have bX:=η (HN.o.below ((aX _ _).alloc (aZ _) (aK #[aG aF 1,.func (.func 151) #[] #[bD (aC ⟨b1,0,aB⟩)]] 223)));have hsz:b0<=w4.heap.size:=by rw [<-e11];exact aR.o.size
 go_wp2_with fail
 refine(aDC x d b0 b1 bs be bt _ bX.o).mono ?_;rintro e w5 ⟨rfl,hb⟩;have fF:Hid (aa b0 w w5):=(aR.o.alloc hsz _).trans (hb.mono (by simp;omega));have jl:=η (bX.o.below hb);have q0:w5.cell? ⟨w4.heap.size,0,aB⟩=aC (aG aF 1):=(hb.cell (p:=⟨w4.heap.size,0,aB⟩) (by simp)).trans (cM _ _ _ 0 rfl);cases jb:Ho d
 case true=>
  have HF:Hid (1=ee):=by show _=_;rw [HE.o];simp [gR,lX,jb]
  go_wp2_with fail
  go_ret;exact⟨cW HF.o,by rw [e11];exact fF.o⟩
 have HN:=jl;have aR:=fF;go_wp2_with fail
 rw [eI];have t0:w5.cell? ⟨bt,6,aB⟩=aC (aG aF 2):=HN.o.tab 6 _ rfl;have t1:w5.cell? ⟨bt,7,aB⟩=aC (.func (.func 152) #[] #[bD (aC ⟨b1,0,aB⟩)]):=HN.o.tab 7 _ rfl;have hlt:=HN.o.h4;have bX:=η (HN.o.below ((aX _ _).alloc (aZ _) (aK #[aG aF 2,.func (.func 152) #[] #[bD (aC ⟨b1,0,aB⟩)]] 223)));have hsz:b0<=w5.heap.size:=by rw [<-e11];exact aR.o.size
 go_wp2_with fail
 refine(aDD x d b0 b1 bs be bt _ bX.o).mono ?_;rintro e w6 ⟨rfl,hb⟩;have fF:Hid (aa b0 w w6):=(aR.o.alloc hsz _).trans (hb.mono (by simp;omega));have jl:=η (bX.o.below hb);have q0:w6.cell? ⟨w5.heap.size,0,aB⟩=aC (aG aF 2):=(hb.cell (p:=⟨w5.heap.size,0,aB⟩) (by simp)).trans (cM _ _ _ 0 rfl);cases uh:K9 d
 case true=>
  have HF:Hid (2=ee):=by show _=_;rw [HE.o];simp [gR,lX,jb,uh]
  go_wp2_with fail
  go_ret;exact⟨cW HF.o,by rw [e11];exact fF.o⟩
 have HN:=jl;have aR:=fF;go_wp2_with fail
 rw [eI];have t0:w6.cell? ⟨bt,8,aB⟩=aC (aG aF 15):=HN.o.tab 8 _ rfl;have t1:w6.cell? ⟨bt,9,aB⟩=aC (.func (.func 153) #[] #[bD (aC ⟨b1,0,aB⟩),bD (aC ⟨bs,0,aB⟩)]):=HN.o.tab 9 _ rfl;have hlt:=HN.o.h4;have bX:=η (HN.o.below ((aX _ _).alloc (aZ _) (aK #[aG aF 15,.func (.func 153) #[] #[bD (aC ⟨b1,0,aB⟩),bD (aC ⟨bs,0,aB⟩)]] 223)));have hsz:b0<=w6.heap.size:=by rw [<-e11];exact aR.o.size
 go_wp2_with fail
 refine(aDE x d b0 b1 bs be bt _ bX.o).mono ?_;rintro e w7 ⟨rfl,hb⟩;have fF:Hid (aa b0 w w7):=(aR.o.alloc hsz _).trans (hb.mono (by simp;omega));have jl:=η (bX.o.below hb);have q0:w7.cell? ⟨w6.heap.size,0,aB⟩=aC (aG aF 15):=(hb.cell (p:=⟨w6.heap.size,0,aB⟩) (by simp)).trans (cM _ _ _ 0 rfl);cases xZ:Hp x d
 case true=>
  have HF:Hid (15=ee):=by show _=_;rw [HE.o];simp [gR,lX,jb,uh,xZ]
  go_wp2_with fail
  go_ret;exact⟨cW HF.o,by rw [e11];exact fF.o⟩
 have HN:=jl;have aR:=fF;go_wp2_with fail
 rw [eI];have HF:Hid (0=ee):=by show _=_;rw [HE.o];simp [gR,lX,jb,uh,xZ]
 go_wp2_with fail
 go_ret;exact⟨cW HF.o,by rw [e11];exact aR.o⟩
end
def aAP(x:ak)(w:aJ)(e:dX)(w':aJ):Prop:=
 β w w'/\((zm x≠0/\e=aT (bC #[bD aB,ν (zm x)]))\/(zm x=0/\∃nb Am cm As cs Ac cc,e=aT (bC #[π nb,ν 0])/\jD w' nb ({x with Am:=Am,cm:=cm,As:=As,cs:=cs,Ac:=Ac,cc:=cc}:ak) (aH aB 0 0) []/\wQ w' w.heap.size ({x with Am:=Am,cm:=cm,As:=As,cs:=cs,Ac:=Ac,cc:=cc}:ak)/\w.heap.size<=nb))
theorem aMF(x:ak)(w:aJ)(h:uz w x)(hm:aA x.ms<=100000)(hs:aA x.ss<=100000)(hc:aA x.cy<=100000):
 aQ aM 30 #[x.val] w (aAP x w):=by
 have aY:=η (mY w x);have HK:=η (aER x (w.alloc (aK #[aH x.Am (aA x.ms) x.cm,aH x.As (aA x.ss) x.cs,aH x.Ac (aA x.cy) x.cc,ν x.line,ν x.bW,ν x.lead,ν x.tr,ν x.bT] 26)) (h.ok.below (mY w x)) hm hs hc);have uI:=η (zl w x);have CX:=η (λW hW=>a2W x W (h.below hW) hm hs hc);unfold ak.val at*;go_enter func30,ntmps30
 obtain⟨c0,c1,c2,c3,c4,c5,c6,c7,jL⟩:=uI.o;go_upto_region 2 with (go_at_call 78;refine mM HK.o λw1 aR=> ?_)
 have iL:=η (aY.o.trans (aR.o.mono aY.o.size));have uH:=η (uI.o.below aR.o);obtain⟨c0,c1,c2,c3,c4,c5,c6,c7,jL⟩:=uH.o;by_cases hk:zm x=0
 ·rw [hk];have HP:=η (CX.o w1 iL.o);go_wp2_with (go_at_call 32;refine HP.o.mono ?_;rintro e w2 ⟨Am,cm,As,cs,Ac,cc,rfl,eY,hb2⟩;have dG:=η eY;have aV:=η hb2)
  go_ret2;refine⟨(iL.o.trans (aV.o.mono iL.o.size)).alloc (bz iL.o.size aV.o.size) _,aU ⟨hk,w2.heap.size,Am,cm,As,cs,Ac,cc,rfl,⟨cQ w2 _,gG _ _ _ _⟩, ?_,bz iL.o.size aV.o.size⟩⟩;have q:=dG.o.below ((aX _ _).alloc (aZ _) (aK #[aH Am (aA x.ms) cm,aH As (aA x.ss) cs,aH Ac (aA x.cy) cc,ν x.line,ν x.bW,ν x.lead,ν x.tr,ν x.bT,aH aB 0 0] 134));exact⟨iD q.m iL.o.size,iD q.s iL.o.size,iD q.c iL.o.size⟩
 have hkb:(zm x==0)=aP:=by simpa using hk
 have Ti:=η hk;go_wp2
 go_ret2;exact⟨iL.o,aS ⟨Ti.o,rfl⟩⟩
def xG(x:ak)(L:List Bd)(d:Bd):Int:=if nY x d≠0 then nY x d else if x.bT<=(aA L) then 6 else 0
theorem VD(L:List Bd)(x:Bd):nX (L++ [x])=nX L++x.cells:=by simp [nX]
theorem VE(x:Bd):∀u∈x.cells,u.oneCell'=aO:=by intro u hu;simp [Bd.cells] at hu;rcases hu with rfl|rfl|rfl|rfl|rfl<;>rfl
def Sz(xb:Nat)(x:ak)(v:aN)(L:List Bd)(d:Bd)(w:aJ)(e:dX)(w':aJ):Prop:=
 (xG x L d≠0/\e=aT (bC #[ν 0,ν (xG x L d)])/\β w w')\/(xG x L d=0/\∃v',e=aT (bC #[ν ((aA L:Int)+1),ν 0])/\jD w' xb x v' (L++ [{d with s:=(aA L:Int)+1}])/\bA (λk=>k=xb\/v.ownBlock=aC k) w w'/\∀k,v'.ownBlock=aC k->v.ownBlock=aC k\/w.heap.size<=k)
theorem aMB(x:ak)(v:aN)(L:List Bd)(d:Bd)(xb:Nat)(w:aJ)(h:jD w xb x v L)(hk:lj w x)(hm:aA x.ms<=100000)(hs:aA x.ss<=100000)(hI:d.ok)(hl:aA L<=99999)(hb:aL x.bT):
 aQ aM 90 #[π xb,d.val] w (Sz xb x v L d w):=by
 obtain⟨ds,dm,dc,dq,dp⟩:=d;have HE:Hid (xG x L ⟨ds,dm,dc,dq,dp⟩=if nY x ⟨ds,dm,dc,dq,dp⟩≠0 then nY x ⟨ds,dm,dc,dq,dp⟩ else if x.bT<=(aA L) then 6 else 0):=η rfl;have aY:Hid (β w (w.alloc (aK #[ν ds,ν dm,ν dc,ν dq,ν dp] 41))):=η σ;have HT:=η (h.below aY.o);have pn:=η (λW hW=>a1r x ⟨ds,dm,dc,dq,dp⟩ W (hk.below hW) hm hs hI);have hz0:w.heap.size<(w.alloc (aK #[ν ds,ν dm,ν dc,ν dq,ν dp] 41)).heap.size:=by simp
 have HX:Hid ((w.alloc (aK #[ν ds,ν dm,ν dc,ν dq,ν dp] 41)).heap[w.heap.size]? =aC (aK #[ν ds,ν dm,ν dc,ν dq,ν dp] 41 (0,0))):=η (cQ w _);have Ff:=h.lt;have rW:Hid (∀k,v.ownBlock=aC k->k<w.heap.size):=η (λk hk=>(h.own.lt k hk).2);clear h hk hI hb;unfold ak.val Bd.val at*;unfold Sz;generalize xG x L ⟨ds,dm,dc,dq,dp⟩=ae at HE ⊢;generalize nY x ⟨ds,dm,dc,dq,dp⟩=be at HE pn ⊢;go_enter func90,ntmps90
 go_upto_region 3 with (fail)
 generalize w.alloc (aK #[ν ds,ν dm,ν dc,ν dq,ν dp] 41)=w1 at*;obtain⟨bx,bU⟩:∃bx,bx=w.heap.size:=⟨_,rfl⟩;have dJ:=η bU;rw [<-bU] at HX hz0 ⊢;have htx:xb<bx:=by omega
 clear bU;have bJ:Hid (∀W,β w1 W->W.cell? ⟨xb,0,aB⟩=aC (aH x.Am (aA x.ms) x.cm)/\W.cell? ⟨xb,1,aB⟩=aC (aH x.As (aA x.ss) x.cs)/\W.cell? ⟨xb,2,aB⟩=aC (aH x.Ac (aA x.cy) x.cc)/\W.cell? ⟨xb,3,aB⟩=aC (ν x.line)/\W.cell? ⟨xb,4,aB⟩=aC (ν x.bW)/\W.cell? ⟨xb,5,aB⟩=aC (ν x.lead)/\W.cell? ⟨xb,6,aB⟩=aC (ν x.tr)/\W.cell? ⟨xb,7,aB⟩=aC (ν x.bT)/\W.cell? ⟨bx,0,aB⟩=aC (ν ds)/\W.cell? ⟨bx,1,aB⟩=aC (ν dm)/\W.cell? ⟨bx,2,aB⟩=aC (ν dc)/\W.cell? ⟨bx,3,aB⟩=aC (ν dq)/\W.cell? ⟨bx,4,aB⟩=aC (ν dp)):=η (by intro W hW;have hb:=(HT.o.below hW).blk;have hd:W.heap[bx]? =aC (aK #[ν ds,ν dm,ν dc,ν dq,ν dp] 41 (0,0)):=(hW.block bx hz0).trans HX.o;exact⟨ρ hb,ρ hb,ρ hb,ρ hb,ρ hb,ρ hb,ρ hb,ρ hb,ρ hd,ρ hd,ρ hd,ρ hd,ρ hd⟩);have eJ:Hid (∀W,β w1 W->β w W):=η (λW hW=>aY.o.trans (hW.mono aY.o.size));have bQ:β w1 w1.drew:=(aX _ _).drew;go_region_held3 (λW=>W.cell? ⟨xb,0,aB⟩=aC (aH x.Am (aA x.ms) x.cm)/\W.cell? ⟨xb,1,aB⟩=aC (aH x.As (aA x.ss) x.cs)/\W.cell? ⟨xb,2,aB⟩=aC (aH x.Ac (aA x.cy) x.cc)/\W.cell? ⟨xb,3,aB⟩=aC (ν x.line)/\W.cell? ⟨xb,4,aB⟩=aC (ν x.bW)/\W.cell? ⟨xb,5,aB⟩=aC (ν x.lead)/\W.cell? ⟨xb,6,aB⟩=aC (ν x.tr)/\W.cell? ⟨xb,7,aB⟩=aC (ν x.bT)/\W.cell? ⟨bx,0,aB⟩=aC (ν ds)/\W.cell? ⟨bx,1,aB⟩=aC (ν dm)/\W.cell? ⟨bx,2,aB⟩=aC (ν dc)/\W.cell? ⟨bx,3,aB⟩=aC (ν dq)/\W.cell? ⟨bx,4,aB⟩=aC (ν dp)) (first|(with_reducible exact bJ.o _ bQ)|(with_reducible exact bJ.o _ hb2)|(with_reducible exact bJ.o _ hb3)) ((go_at_call 88;refine(pn.o _ (eJ.o _ bQ)).mono ?_;rintro e w2 ⟨rfl,vh⟩;have hb2:β w1 w2:=bQ.trans (vh.mono bQ.size)))
 have aV:=η hb2;clear vh bQ;have qi:=η (HT.o.below aV.o);have kU:Hid (w2.heap[bx]? =aC (aK #[ν ds,ν dm,ν dc,ν dq,ν dp] 41 (0,0))):=η ((aV.o.block bx hz0).trans HX.o);have hz2:bx<w2.heap.size:=cL hz0 aV.o.size;have cC:=η (eJ.o _ aV.o);clear HT HX aV eJ bJ aY pn hz0;by_cases h1:be=0
 case neg=>
  have kY:(be==0)=aP:=by simpa using h1
  have e1:ae=be:=by rw [HE.o,ifP h1]
  have HN:Hid (ae≠0):=η (by rw [e1];exact h1);rw [<-e1] at kY ⊢;clear HE e1 h1;go_wp2_with fail
  go_ret2;exact aS ⟨HN.o,rfl,cC.o⟩
 subst h1;obtain⟨A,c,hv⟩:=bL qi.o.own;subst hv;have c8:=qi.o.c8;go_upto_region 6 with (fail)
 go_quiet (fail)
 have EK:Hid (β w (w2.drewN nq)):=η (below_drewN cC.o nq);have P1:Hid (jD (w2.drewN nq) xb x (aH A (aA L) c) L):=η ⟨qi.o.blk,qi.o.own⟩;have P8:Hid ((w2.drewN nq).heap[bx]? =aC (aK #[ν ds,ν dm,ν dc,ν dq,ν dp] 41 (0,0))):=η kU.o;have hzq:bx<(w2.drewN nq).heap.size:=hz2;clear cC qi kU hz2 c8;generalize w2.drewN nq=w3 at*;by_cases h2:x.bT<=aA L
 ·have AB:decide (x.bT<=(aA L:Int))=aO:=decide_eq_true h2;have e1:ae=6:=by rw [HE.o,ifN (by simp),ifP h2]
  have HN:Hid (ae≠0):=η (by rw [e1];decide);have yD:=η e1;clear HE e1;go_wp2_with fail
  go_ret2;exact aS ⟨HN.o,by rw [yD.o];rfl,EK.o⟩
 have HZ:Hid (ae=0):=η (by rw [HE.o,ifN (by simp),ifN h2]);have h3:(aA L:Int)<x.bT:=by omega
 clear HE h2;have c8:=P1.o.c8;have q0:w3.frozen? ⟨bx,0,aB⟩=aP:=by simp [iO,P8.o]
 have q1:=r1c P8;go_upto_region 9 with (fail)
 have Cj:Hid (bx≠xb):=η (by omega);have Jg:Hid ((aH A (aA L) c).ownBlock≠aC bx):=η (λe=>by have:=rW.o bx e;rw [dJ.o] at this;omega);have rV:Hid (jD (w3.setCell ⟨bx,0,aB⟩ (ν ((aA L:Int)+1))) xb x (aH A (aA L) c) L):=η ⟨(nR _ _ _ _ (λe=>Cj.o e.symm)).trans P1.o.blk,kP P1.o.own Jg.o _⟩;have pE:Hid ((w3.setCell ⟨bx,0,aB⟩ (ν ((aA L:Int)+1))).heap[bx]? =aC (aK #[ν ((aA L:Int)+1),ν dm,ν dc,ν dq,ν dp] 41 (0,0))):=η ((lz P8.o 0 _).trans rfl);have Ga:Hid (bA (λk=>k=xb\/(aH A (aA L) c).ownBlock=aC k) w (w3.setCell ⟨bx,0,aB⟩ (ν ((aA L:Int)+1)))):=η ((bA.bY _ EK.o).setCell (p:=⟨bx,0,aB⟩) (aU (Nat.le_of_eq dJ.o.symm)) _);have mh:bx<(w3.setCell ⟨bx,0,aB⟩ (ν ((aA L:Int)+1))).heap.size:=by simpa using hzq
 have hzz:w.heap.size<=(w3.setCell ⟨bx,0,aB⟩ (ν ((aA L:Int)+1))).heap.size:=Ga.o.size;generalize w3.setCell ⟨bx,0,aB⟩ (ν ((aA L:Int)+1))=w4 at*;clear P1 P8 EK c8 q0 q1 hzq;have d0:w4.drew.cell? ⟨xb,8,aB⟩=aC (aH A (aA L) c):=rV.o.c8;obtain⟨d1,d2,d3,d4,d5⟩:=r5c pE;have Ct:Hid (jD w4.drew xb x (aH A (aA L) c) L):=η ⟨rV.o.blk,rV.o.own⟩;have Jn:Hid (bA (λk=>k=xb\/(aH A (aA L) c).ownBlock=aC k) w w4.drew):=η Ga.o.drew;have a4h:xb<w4.drew.heap.size:=rV.o.lt;have My:bx<w4.drew.heap.size:=mh;have qc:Hid (aC xb≠(aH A (aA L) c).ownBlock):=η (λe=>rV.o.ne e.symm);have bX:Hid (aC bx≠(aH A (aA L) c).ownBlock):=η (λe=>Jg.o e.symm);obtain⟨r,hr⟩:∃r,r=(aH A (aA L) c).ownBlock:=⟨_,rfl⟩;rw [<-hr] at qc bX;have HR:=η hr;clear hr rV pE Ga Jg;refine CM (S:=λW=>W.cell? ⟨xb,8,aB⟩=aC (aH A (aA L) c)/\W.cell? ⟨bx,0,aB⟩=aC (ν ((aA L:Int)+1))/\W.cell? ⟨bx,1,aB⟩=aC (ν dm)/\W.cell? ⟨bx,2,aB⟩=aC (ν dc)/\W.cell? ⟨bx,3,aB⟩=aC (ν dq)/\W.cell? ⟨bx,4,aB⟩=aC (ν dp)) 10 (by kernel_rfl) ⟨d0,d1,d2,d3,d4,d5⟩ (λhHeld=> ?_);have bJ:Hid (∀W,w4.drew.grownBy W r->W.cell? ⟨xb,8,aB⟩=aC (aH A (aA L) c)/\W.cell? ⟨bx,0,aB⟩=aC (ν ((aA L:Int)+1))/\W.cell? ⟨bx,1,aB⟩=aC (ν dm)/\W.cell? ⟨bx,2,aB⟩=aC (ν dc)/\W.cell? ⟨bx,3,aB⟩=aC (ν dq)/\W.cell? ⟨bx,4,aB⟩=aC (ν dp)):=η λW hg=>⟨(hg.cell_far ⟨xb,8,aB⟩ a4h qc.o).trans d0,(hg.cell_far ⟨bx,0,aB⟩ My bX.o).trans d1,(hg.cell_far ⟨bx,1,aB⟩ My bX.o).trans d2,(hg.cell_far ⟨bx,2,aB⟩ My bX.o).trans d3,(hg.cell_far ⟨bx,3,aB⟩ My bX.o).trans d4,(hg.cell_far ⟨bx,4,aB⟩ My bX.o).trans d5⟩
 clear d0 d1 d2 d3 d4 d5;have aH9:w.heap.size<=w4.drew.heap.size:=hzz;clear hzz mh;generalize w4.drew=w5 at*;have B8:Hid (w5.grownBy w5 r):=η (IA (aX _ _) r);obtain⟨ib,hib,RS,RT,RU⟩:=dP XP;refine cP (i:=0) (v:=π xb) rfl (by kernel_rfl) (by kernel_rfl) (by kernel_rfl) (by kernel_rfl) (by kernel_rfl) (λ_ _ _ h=>h) (aS ⟨by rfl,λw' hSw=>by obtain⟨s0,s1,s2,s3,s4,s5⟩:=hSw;go_simp⟩) hHeld ?_;refine cP (i:=1) (v:=π xb) rfl (by kernel_rfl) (by kernel_rfl) (by kernel_rfl) (by kernel_rfl) (by kernel_rfl) (λ_ _ _ h=>h) (aS ⟨by rfl,λw' hSw=>by obtain⟨s0,s1,s2,s3,s4,s5⟩:=hSw;go_simp⟩) hHeld ?_;refine cP (i:=2) (v:=π xb) rfl (by kernel_rfl) (by kernel_rfl) (by kernel_rfl) (by kernel_rfl) (by kernel_rfl) (λ_ _ _ h=>h) (aS ⟨by rfl,λw' hSw=>by obtain⟨s0,s1,s2,s3,s4,s5⟩:=hSw;go_simp⟩) hHeld ?_;refine cP (i:=3) (v:=bD (aC ⟨xb,8,aB⟩)) rfl (by kernel_rfl) (by kernel_rfl) (by kernel_rfl) (by kernel_rfl) (by kernel_rfl) (λ_ _ _ h=>h) (aS ⟨by rfl,λw' hSw=>by obtain⟨s0,s1,s2,s3,s4,s5⟩:=hSw;go_simp⟩) hHeld ?_;refine cP (i:=4) (v:=aH A (aA L) c) rfl (by kernel_rfl) (by kernel_rfl) (by kernel_rfl) (by kernel_rfl) (by kernel_rfl) (λ_ _ _ h=>h) (aS ⟨by rfl,λw' hSw=>by obtain⟨s0,s1,s2,s3,s4,s5⟩:=hSw;go_simp⟩) hHeld ?_;refine cP (i:=5) (v:=bP #[ν ((aA L:Int)+1),ν dm,ν dc,ν dq,ν dp]) rfl (by kernel_rfl) (by kernel_rfl) (by kernel_rfl) (by kernel_rfl) (by kernel_rfl) (λ_ _ _ h=>h) (aS ⟨by rfl,λw' hSw=>by obtain⟨s0,s1,s2,s3,s4,s5⟩:=hSw;go_simp⟩) hHeld ?_;clear hHeld;refine iv (rs:= [6]) (by kernel_rfl) (by simp) ?_;refine cX.cons rfl (λK hK=> ?_) cX.nil;go_simp
 have BA:Hid (w5.grownBy (w5.alloc (aK #[ν ((aA L:Int)+1),ν dm,ν dc,ν dq,ν dp] 41)) r):=η (QO B8.o _);have lx:=η (Ct.o.own.alloc (aK #[ν ((aA L:Int)+1),ν dm,ν dc,ν dq,ν dp] 41));have wZ:Hid (∀j u,([ν ((aA L:Int)+1),ν dm,ν dc,ν dq,ν dp]:List aN)[j]? =aC u->(w5.alloc (aK #[ν ((aA L:Int)+1),ν dm,ν dc,ν dq,ν dp] 41)).cell? ((⟨w5.heap.size,0,aB⟩:ai).add j)=aC u):=η (dS w5 41 #[ν ((aA L:Int)+1),ν dm,ν dc,ν dq,ν dp] rfl);refine hK.o _ _ (λ_=>bJ.o _ BA.o) (λ_=> ?_);clear hK K;generalize (w5.alloc (aK #[ν ((aA L:Int)+1),ν dm,ν dc,ν dq,ν dp] 41))=w6 at*;refine iv (rs:= [7]) (by kernel_rfl) (by simp) ?_;refine cX.cons rfl (λK hK=> ?_) cX.nil;refine Ad _ rfl (.tmp 40) (.tmp 42) 132 rfl 0 41 ib _ 5 40 Pa hib RS RT RU rfl (by decide) _ (aA L) (nX L) rfl lx.o ⟨w5.heap.size,0,aB⟩ 1 1 [ν ((aA L:Int)+1),ν dm,ν dc,ν dq,ν dp] rfl rfl wZ.o (VE ⟨(aA L:Int)+1,dm,dc,dq,dp⟩) (by decide) (by simp only [bO];omega) (by omega) (bM _) w6.heap.size rfl ?_;intro g cap w7 hown hgr hat _;have jF:Hid (w5.grownBy w7 r):=η (F6 BA.o hgr (aS HR.o.symm));have rS:=η hown;have ZG:Hid ((aH A (aA L) c).ownBlock=aC g\/w5.heap.size<=g):=η (hat.imp id (λe=>by rw [e];exact BA.o.size));clear hown hgr hat;refine hK.o _ _ (λ_=>bJ.o _ jF.o) (λ_=> ?_);clear hK K;refine cP (i:=8) (v:=π xb) rfl (by kernel_rfl) (by kernel_rfl) (by kernel_rfl) (by kernel_rfl) (by kernel_rfl) (λ_ _ _ h=>h) (aS ⟨by rfl,λw' hSw=>by obtain⟨s0,s1,s2,s3,s4,s5⟩:=hSw;go_simp⟩) (bJ.o _ jF.o) ?_;refine cP (i:=9) (v:=bD (aC ⟨xb,8,aB⟩)) rfl (by kernel_rfl) (by kernel_rfl) (by kernel_rfl) (by kernel_rfl) (by kernel_rfl) (λ_ _ _ h=>h) (aS ⟨by rfl,λw' hSw=>by obtain⟨s0,s1,s2,s3,s4,s5⟩:=hSw;go_simp⟩) (bJ.o _ jF.o) ?_;refine iv (rs:= [10]) (by kernel_rfl) (by simp) ?_;refine cX.cons rfl (λK hK=> ?_) cX.nil;have c1:=(bJ.o _ jF.o).1;have ft:=(jF.o.block xb a4h qc.o).trans Ct.o.blk;have hf7:w7.frozen? ⟨xb,8,aB⟩=aP:=by simp [iO,ft]
 have fC:=η ft;clear ft;go_simp
 refine hK.o _ _ (λh=>absurd rfl h) (λ_=> ?_);clear hK K;refine CL (by kernel_rfl) ?_ _;have IP:g≠xb:=by
  rintro rfl;rcases ZG.o with e|e
  ·exact qc.o (by rw [HR.o,e])
  omega
 have s0:(w7.setCell ⟨xb,8,aB⟩ (aH (aC ⟨g,0,aB⟩) (aA L+1) cap)).cell? ⟨bx,0,aB⟩=aC (ν ((aA L:Int)+1)):=by have:=(bJ.o _ jF.o).2.1;exact(gu (a:=⟨bx,0,aB⟩) (nR _ _ _ _ Cj.o)).trans this
 go_wp2_with fail
 go_ret2;refine aU ⟨HZ.o,aH (aC ⟨g,0,aB⟩) (aA L+1) cap,rfl,⟨(lz fC.o 8 _).trans rfl, ?_⟩, ?_, ?_⟩
 ·rw [cN,VD];exact kP rS.o (λe=>IP (by simpa [eF] using e)) _
 ·have h2:bA (λk=>k=xb\/(aH A (aA L) c).ownBlock=aC k) w5 w7:=bA.Iy jF.o (λk hk=>aS (aU (by rw [<-HR.o];exact hk)));exact(Jn.o.trans h2 (λk hk=>aS hk)).setCell (p:=⟨xb,8,aB⟩) (aS (aS rfl)) _
 intro k hk;have e:k=g:=by simpa [eF] using hk.symm
 subst e;rcases ZG.o with e|e
 ·exact aS e
 exact aU (bz aH9 e)
def bk(d:Bd):Int×Int:=(d.p,d.s)
def qW(L:List Bd)(s:Int):List Bd:=L.filter λd=>decide (d.c=s)
theorem aKS {L:List Bd} {k:Nat}(h:k<aA L)(s:Int):qW (L.take (k+1)) s=qW (L.take k) s++(if L[k].c=s then [L[k]] else []):=by
 rw [fH h];unfold qW;rw [List.filter_append];by_cases e:L[k].c=s
 ·rw [ifP e];simp [e]
 rw [ifN e];simp [e]
theorem a7M(L:List Bd)(s:Int):aA (qW L s)<=aA L:=qo _ _
structure EG(B:Nat)(sv kv:aN)(gs:List Nat)(done:List Bd)(W:aJ):Prop where
 s:W.ownsRow B 41 5 sv (aA done) (nX done)
 k:W.ownsRow B 53 1 kv (aA done) (gs.map k2)
 len:aA gs=aA done
 g:∀j (hj:j<aA gs) (hd:j<aA done),W.heap[gs[j]]? =aC (aK #[ν done[j].p,ν done[j].s] 2 (0,0))
theorem EG.below {B:Nat} {sv kv:aN} {gs:List Nat} {done:List Bd} {W W':aJ}(h:EG B sv kv gs done W)(hb:aa W.heap.size W W'):EG B sv kv gs done W':=
 ⟨iJ h.s hb,iJ h.k hb,h.len,λj hj hd=>(hb.block _ (fY.1 (h.g j hj hd)).1).trans (h.g j hj hd)⟩
theorem EG.key {B:Nat} {sv:aN} {A:Option ai} {c:Nat} {gs:List Nat} {done:List Bd} {W:aJ}(h:EG B sv (aH A (aA done) c) gs done W):Cz W W.heap.size A (done.map bk):=λj hj=>by rw [iX] at hj;obtain⟨b,o,e,hb,hc⟩:=(aW.cB h.k).at (k:=j) (by rw [iX,h.len];exact hj);have hg:=h.g j (by rw [h.len];exact hj) hj;rw [xC] at hc;rw [xC];exact⟨b,o,gs[j]'(by rw [h.len];exact hj),2,e,hb,hc,(fY.1 hg).1,ρ hg,ρ hg⟩
def a8z(L:List Bd)(s:Int)(w:aJ)(e:dX)(w':aJ):Prop:=
 ∃v is,e=aT v/\Js ((qW L s).map bk) is/\w'.ownsRow w.heap.size 41 5 v (aA is) (nX (is.map λi=>(qW L s).getD i ⟨0,0,0,0,0⟩))/\β w w'
theorem aMG(x:ak)(v:aN)(L:List Bd)(s:Int)(xb:Nat)(w:aJ)(h:jD w xb x v L)(hl:aA L<=100000)(hI:∀d∈L,aL d.s):
 aQ aM 134 #[π xb,ν s] w (a8z L s w):=by
 have Az:=η (aMC x v L xb w h hl);have HI:=η hI;obtain⟨ib,a4U,RS,RT,RU⟩:=dP XP;obtain⟨i2,qT,XI,XJ,XK⟩:=dP a7W;go_enter func134,ntmps134
 go_wp2_with (go_at_call 193;refine Az.o.mono ?_;unfold pg;rintro e w1 ⟨v1,rfl,eT,hb1⟩;have cF:=η eT;have aR:=η hb1;obtain⟨A1,c1,AQ⟩:=bL eT;subst AQ)
 have cj:=η (aW.cB cF.o);have a9b:Hid (EG w1.heap.size (aH aB 0 0) (aH aB 0 0) [] (qW (L.take 0) s) w1):=η ⟨gG _ _ _ _,gG _ _ _ _,rfl,λj hj=>by simp at hj⟩;have aY:Hid (β w1 w1):=η (aX _ _);go_loopw [5,7,9,15] (λsv kv _ i wr=>∃(k:Nat) (gs:List Nat),k<=aA L/\i=ν (k:Int)/\Hid (EG w1.heap.size sv kv gs (qW (L.take k) s) wr)/\Hid (β w1 wr)) (λ_ _ _ i _=>aA L-(ag i).toNat)
 case atStart=>exact⟨0,[],bM _,rfl,a9b,aY⟩
 case round=>
  obtain⟨k,gs,hk,rfl,lS,HB⟩:=hrel;obtain⟨As,cs,NM⟩:=bL lS.o.s;obtain⟨Ak,ck,Wh⟩:=bL lS.o.k;subst NM Wh;by_cases hlt:k<aA L
  ·have cG:=η (aKS hlt s);have jt:=bz (a7M (L.take k) s) (List.length_take_le _ _);obtain⟨be,oe,hA,kY,e0,e1,e2,e3,e4⟩:=Pv (((cj.o).below HB.o).mono HB.o.size) hlt;have ej:(0:Int)<=(k:Int):=by omega
   have hkb:(k:Int)<(aA L:Int):=by omega
   subst hA;have HXV:Hid (L[k]=L[k]):=η rfl;generalize hd:L[k]=d at cG e0 e1 e2 e3 e4 HXV;generalize qW (L.take k) s=done at*;obtain⟨a2r,hd9⟩:∃q,q=qW (L.take (k+1)) s:=⟨_,rfl⟩;have od:=η hd9;rw [<-hd9] at cG;obtain⟨ds,dm,dc,dq,dp⟩:=d;simp only at e0 e1 e2 e3 e4;by_cases hc:dc=s
   ·subst hc;have rC:a2r=done++ [⟨ds,dm,dc,dq,dp⟩]:=by rw [cG.o,ifP rfl]
    subst rC;have XD:w1.heap.size<=wr.heap.size:=HB.o.size;have lN:=η (((aX wr.heap.size wr).alloc (aZ _) (aK #[ν ds,ν dm,ν dc,ν dq,ν dp] 41)).alloc (by simp) (aK #[ν ds,ν dm,ν dc,ν dq,ν dp] 41));have ot:=η (lS.o.below lN.o);have cu:Hid (((wr.alloc (aK #[ν ds,ν dm,ν dc,ν dq,ν dp] 41)).alloc (aK #[ν ds,ν dm,ν dc,ν dq,ν dp] 41)).heap[wr.heap.size]? =aC (aK #[ν ds,ν dm,ν dc,ν dq,ν dp] 41 (0,0))):=η ((fL _ _ (by simp)).trans (cQ wr _));have rW:Hid (∀j,(aH As (aA done) cs).ownBlock=aC j->w1.heap.size<=j/\j<wr.heap.size):=η (λj hj=>lS.o.s.lt j hj);have Gb:Hid (∀j,(aH Ak (aA done) ck).ownBlock=aC j->w1.heap.size<=j/\j<wr.heap.size):=η (λj hj=>lS.o.k.lt j hj);have HLEN:=η lS.o.len;have LJ:=η HB.o;go_wp2_with (at_builtin;refine wpList_append_lies _ rfl _ _ 132 rfl w1.heap.size 41 ib _ 5 40 Pa a4U RS RT RU rfl (by omega) _ _ _ rfl ot.o.s ⟨wr.heap.size+1,0,aB⟩ 1 1 [ν ds,ν dm,ν dc,ν dq,ν dp] rfl rfl (dS _ _ #[ν ds,ν dm,ν dc,ν dq,ν dp] (by simp)) (VE ⟨ds,dm,dc,dq,dp⟩) (by omega) (by simp only [bO];omega) (by omega) (by simp;omega) (wr.heap.size+1+1) (by simp) ?_)
    intro g3 tI w3 ma gQ FC _;have hz3:wr.heap.size+1<w3.heap.size:=by have:=gQ.size;simp at this;omega
    have af:Hid (aa w1.heap.size wr w3):=η ((lN.o.mono XD).grown gQ (by simp;omega) (λj hj=>(rW.o j hj).1));have hx3:=(gQ.block wr.heap.size (by simp;omega) (λe=>by have:=(rW.o _ e.symm).2;omega)).trans cu.o;have y0:w3.cell? ⟨wr.heap.size,0,aB⟩=aC (ν ds):=ρ hx3;have y4:w3.cell? ⟨wr.heap.size,4,aB⟩=aC (ν dp):=ρ hx3;have oh:Hid (w3.ownsRow w1.heap.size 53 1 (aH Ak (aA done) ck) (aA done) (gs.map k2)):=η (ot.o.k.kept gQ (CA ot.o.k ot.o.s (by decide)));have LV:Hid (∀j (hj:j<aA gs) (hd:j<aA done),w3.heap[gs[j]]? =aC (aK #[ν done[j].p,ν done[j].s] 2 (0,0))):=η (λj hj hd=>(gQ.block _ (fY.1 (ot.o.g j hj hd)).1 (λe=>gS ot.o.s (ot.o.g j hj hd) (by decide) e.symm)).trans (ot.o.g j hj hd));have sj:Hid (w3.ownsRow w1.heap.size 41 5 (aH (aC ⟨g3,0,aB⟩) (aA done+1) tI) (aA done+1) (nX (done++ [⟨ds,dm,dc,dq,dp⟩]))):=η (by rw [VD];exact ma);have rL:=η (((aX w3.heap.size w3).alloc (aZ _) (aK #[ν dp,ν ds] 2)).alloc (by simp) (aK #[k2 w3.heap.size] 53));have yJ:=η (iJ oh.o rL.o);have jT:=η (iJ sj.o rL.o);have gM:Hid (∀j u,([k2 w3.heap.size]:List aN)[j]? =aC u->((w3.alloc (aK #[ν dp,ν ds] 2)).alloc (aK #[k2 w3.heap.size] 53)).cell? ((⟨w3.heap.size+1,0,aB⟩:ai).add j)=aC u):=η (dS _ _ #[_] (by simp));have EN:Hid (((w3.alloc (aK #[ν dp,ν ds] 2)).alloc (aK #[k2 w3.heap.size] 53)).heap[w3.heap.size]? =aC (aK #[ν dp,ν ds] 2 (0,0))):=η ((fL _ _ (by simp)).trans (cQ w3 _));go_wp2_with (at_builtin;refine wpList_append_lies _ rfl _ _ 235 rfl w1.heap.size 53 i2 _ 1 24 underlying235 qT XI XJ XK rfl (by omega) _ _ _ rfl yJ.o ⟨w3.heap.size+1,0,aB⟩ 1 1 [k2 w3.heap.size] rfl rfl gM.o (a5G [w3.heap.size]) (by omega) (by simp only [bO];omega) (by omega) (by simp;omega) (w3.heap.size+1+1) (by simp) ?_)
    intro g5 MV w5 FR tW W6 _;have NV:w3.heap.size+1<w5.heap.size:=by have:=tW.size;simp at this;omega
    have cY:Hid (β w1 w5):=η (LJ.o.trans ((af.o.trans (rL.o.mono (by omega))).grown tW (by simp;omega) (λj hj=>(Gb.o j hj).1)));have nJ:w5.heap[w3.heap.size]? =aC (aK #[ν dp,ν ds] 2 (0,0)):=(tW.block _ (by simp;omega) (λe=>by have:=(Gb.o _ e.symm).2;omega)).trans EN.o;have Tt:Hid (EG w1.heap.size (aH (aC ⟨g3,0,aB⟩) (aA done+1) tI) (aH (aC ⟨g5,0,aB⟩) (aA done+1) MV) (gs++ [w3.heap.size]) (done++ [⟨ds,dm,dc,dq,dp⟩]) w5):=η (by
     have IX:=HLEN.o;refine⟨?_, ?_,by simp [IX],λj hj hd=> ?_⟩
     ·rw [cN];exact jT.o.kept tW (CA jT.o yJ.o (by decide))
     ·rw [cN,dh];exact FR
     rcases rZ j (aA gs) with h|h
     ·rw [UW h,UW (by omega)];have h6:=LV.o j h (by omega);have Wn:=(fY.1 h6).1;have h7:=(rL.o.block _ Wn).trans h6;exact(tW.block _ (by simp;omega) (λe=>gS yJ.o h7 (by decide) e.symm)).trans h7
     have e:j=aA gs:=by simp at hj;omega
     subst e;rw [UX (aZ _),UX (by omega)];simp [IX];exact nJ)
    clear FR tW W6 nJ af sj jT oh yJ gM EN rL LV rW Gb LJ y0 y4;go_wp2_with fail
    go_roundw
    case rel=>exact⟨k+1,_,by omega,by go_num,by rw [<-od.o];exact Tt,cY⟩
    case measure=>simp [ag];omega
   have rC:a2r=done:=by rw [cG.o,ifN hc,List.append_nil]
   subst rC;have hcb:(dc==s)=aP:=by simpa using hc
   have lN:=η ((aX wr.heap.size wr).alloc (aZ _) (aK #[ν ds,ν dm,ν dc,ν dq,ν dp] 41));have ot:=η (lS.o.below lN.o);have af:Hid (β w1 (wr.alloc (aK #[ν ds,ν dm,ν dc,ν dq,ν dp] 41))):=η (HB.o.alloc HB.o.size _);clear cG lS HB lN;go_wp2_with fail
   go_roundw
   case rel=>exact⟨k+1,_,by omega,by go_num,by rw [<-od.o];exact ot,af⟩
   case measure=>simp [ag];omega
  obtain rfl:k=aA L:=by omega
  rw [cU] at lS;have jt:=a7M L s;have Tf:Hid (∀p∈(qW L s).map bk,aL p.2):=η (λp hp=>by obtain⟨d,hd,rfl⟩:=di.1 hp;exact HI.o d (jG.1 hd).1);obtain⟨done,IL⟩:∃q,q=qW L s:=⟨_,rfl⟩;have ZN:=η IL;rw [<-IL] at lS jt Tf;rw [cU,<-IL];clear IL;have Oh:=η (a6N (done.map bk) Ak ck wr (by rw [iX];omega) Tf.o lS.o.key);rw [iX] at Oh;clear Tf HI;go_wp2_with (go_at_call 162;refine Oh.o.mono ?_;unfold TE;rintro e w2 ⟨bw,is,rfl,eY,hb2,hc2,hz2,IJ⟩;have HIS:=η eY;have kS:=η hc2;have aV:Hid (β wr w2):=η IJ;have Ck:=η (lS.o.below IJ);have Qe:bw<w2.heap.size:=hz2;clear eY hb2 hc2 hz2 IJ Oh)
  have IV:aA is=aA done:=by rw [HIS.o.len,iX]
  obtain⟨ls,AK⟩:∃ls:List Bd,ls=is.map λi=>done.getD i ⟨0,0,0,0,0⟩:=⟨_,rfl⟩
  have GN:=η AK;have mP:Hid (aA ls=aA done):=η (by rw [AK,iX];exact IV);have uM:=η IV;have uG:Hid (β w w2):=η ((aR.o.trans (HB.o.mono aR.o.size)).trans (aV.o.mono (bz aR.o.size HB.o.size)));clear AK IV lS HB aV hlt;have Lj:Hid (w2.ownsRow w2.heap.size 41 5 (aH aB 0 0) 0 (nX (ls.take 0))):=η (by rw [nW];exact gG _ _ _ _);have sY:Hid (β w2 w2):=η (aX _ _);go_loopw [6,11,39] (λv _ i wr=>∃k:Nat,k<=aA done/\i=ν (k:Int)/\Hid (β w2 wr)/\Hid (wr.ownsRow w2.heap.size 41 5 v k (nX (ls.take k)))) (λ_ _ i _=>aA done-(ag i).toNat)
  case atStart=>exact⟨0,bM _,rfl,sY,Lj⟩
  case round=>
   clear sY Lj;obtain⟨k,hk,rfl,HB,HO⟩:=hrel;obtain⟨Ax,cx,pN⟩:=bL HO.o;subst pN;by_cases hlt:k<aA done
   ·have AH:k<aA is:=by rw [uM.o];exact hlt
    have c0:=(HB.o.cell (p:=⟨bw,k,aB⟩) Qe).trans (kS.o k AH);have hbr:bw<wr.heap.size:=cL Qe HB.o.size;have nk:is[k]<aA done:=by have:=HIS.o.lt _ (cK AH);rwa [iX] at this
    obtain⟨be,oe,hA,kY,e0,e1,e2,e3,e4⟩:=Pv (((aW.cB Ck.o.s).below HB.o).mono HB.o.size) nk;have jU:Hid (ls.take (k+1)=ls.take k++ [done[is[k]]]):=η (by rw [fH (by rw [mP.o];exact hlt)];congr 2;simp [GN.o,List.getD,nk]);have bu:(0:Int)<=((is[k]:Nat):Int):=by omega
    have hib:((is[k]:Nat):Int)<(aA done:Int):=by omega
    have ej:(0:Int)<=(k:Int):=by omega
    have hkb:(k:Int)<(aA done:Int):=by omega
    subst hA;generalize done[is[k]]=q at*;generalize is[k]=ix at*;obtain⟨ds,dm,dc,dq,dp⟩:=q;simp only at e0 e1 e2 e3 e4;have af:Hid (β w2 (wr.alloc (aK #[ν ds,ν dm,ν dc,ν dq,ν dp] 41))):=η (HB.o.alloc HB.o.size _);have cD:=η (HO.o.alloc (aK #[ν ds,ν dm,ν dc,ν dq,ν dp] 41));have hzz:w2.heap.size<=wr.heap.size:=HB.o.size;go_wp2_with (at_builtin;refine wpList_append_lies _ rfl _ _ 132 rfl w2.heap.size 41 ib _ 5 40 Pa a4U RS RT RU rfl (by omega) _ _ _ rfl cD.o ⟨wr.heap.size,0,aB⟩ 1 1 [ν ds,ν dm,ν dc,ν dq,ν dp] rfl rfl (dS _ _ #[ν ds,ν dm,ν dc,ν dq,ν dp] rfl) (VE ⟨ds,dm,dc,dq,dp⟩) (by omega) (by simp only [bO];omega) (by omega) (by simp;omega) (wr.heap.size+1) (by simp) ?_)
    intro g4 MU w4 pQ iT _ _;have ar:Hid (β w2 w4):=η (af.o.grown iT (by simp;omega) (λj hj=>eU cD.o j hj));have dY:Hid (w4.ownsRow w2.heap.size 41 5 (aH (aC ⟨g4,0,aB⟩) (k+1) MU) (k+1) (nX (ls.take (k+1)))):=η (by rw [jU.o,VD];exact pQ);clear pQ iT af cD HO HB;go_wp2_with fail
    go_roundw
    case rel=>exact⟨k+1,by omega,by go_num,ar,dY⟩
    case measure=>simp [ag];omega
   obtain rfl:k=aA done:=by omega
   have fP:Hid (wr.ownsRow w.heap.size 41 5 (aH Ax (aA done) cx) (aA is) (nX ls)):=η (by have h2:=HO.o;rw [List.take_of_length_le (by rw [mP.o];exact aZ _)] at h2;rw [uM.o];exact iD h2 uG.o.size);go_wp2_with fail
   go_ret;refine⟨_,is,rfl,by rw [<-ZN.o];exact HIS.o, ?_,uG.o.trans (HB.o.mono uG.o.size)⟩;rw [<-ZN.o,<-GN.o];exact fP.o
section
open Go.Sort
theorem aNF(zs:List Int)(A:Option ai)(c:Nat)(m:Int)(w:aJ)(h:aW w w.heap.size A (zs.map (aG aF)))(hl:aA zs<=1000000):
 aQ aM 15 #[aH A (aA zs) c,ν m] w λe w'=>e=aT (bK (hasB zs m))/\w=w':=by
 have HS:=η h;go_enter func15,ntmps15
 go_wp2
 go_loop [5] (λi=>∃k:Nat,k<=aA zs/\i=ν k/\Hid ((zs.take k).contains m=aP)) (λi=>aA zs-(ag i).toNat)
 case atStart=>exact⟨0,bM _,rfl,rfl⟩
 case round=>
  obtain⟨k,hk,rfl,HN⟩:=hrel;by_cases hlt:k<aA zs
  ·obtain⟨b,o,rfl,hb,d0⟩:=tZ HS.o hlt;have HA:=η (aEU m hlt);cases hp:(zs[k]==m)
   ·have HX:Hid ((zs.take (k+1)).contains m=aP):=by show _=_;rw [HA.o,HN.o,hp];rfl
    go_wp2
    go_round
    case rel=>exact⟨k+1,by omega,by go_num,HX⟩
    case measure=>simp [ag];omega
   have HF:Hid (aO=hasB zs m):=by
    show _=zs.contains m;symm;rw [UQ];have e:zs[k]=m:=by simpa using hp
    rw [<-e];exact cK hlt
   go_wp2
   go_ret;exact⟨fT HF.o,rfl⟩
  obtain rfl:k=aA zs:=by omega
  have hN:=HN.o;rw [cU] at hN;have HF:Hid (hasB zs m=aP):=hN;go_wp2
  go_ret;exact⟨fT HF.o.symm,rfl⟩
theorem aIj(ys:List Int)(g cap:Nat)(base:Nat)(w0 w:aJ)(hb0:base<=g)(h:w.ownsRow base 3 1 (aH (aC ⟨g,0,aB⟩) (aA ys) cap) (aA ys) (ys.map (aG aF)))(hl:aA ys<=1000000)(hB:aa base w0 w)(iB:base<=w.heap.size):
 aQ aM 217 #[aH (aC ⟨g,0,aB⟩) (aA ys) cap] w λe w2=>e=aT (bC #[])/\w2.ownsRow base 3 1 (aH (aC ⟨g,0,aB⟩) (aA ys) cap) (aA ys) ((ys.mergeSort λx y=>decide (x<=y)).map (aG aF))/\aa base w0 w2:=by
 obtain⟨q1,q2,q3⟩:=a6S h;refine(slices_Sort_int g 0 cap ys w q1 q2 (by omega)).mono ?_;rintro e w2 ⟨rfl,n2,os2,hw2⟩;obtain⟨o2,g2⟩:=a7e h (List.length_mergeSort _) hw2;exact⟨rfl,o2,hB.grown g2 iB (λj hj=>by injection hj with hj;omega)⟩
theorem aEK(ms:List Int)(g cap:Nat)(base:Nat)(w0 w:aJ)(hb0:base<=g)(h:w.ownsRow base 3 1 (aH (aC ⟨g,0,aB⟩) (aA ms) cap) (aA ms) (ms.map (aG aF)))(hl:aA ms<=1000000)(hB:aa base w0 w)(iB:base<=w.heap.size):
 aQ aM 218 #[aH (aC ⟨g,0,aB⟩) (aA ms) cap] w λe w3=>e=aT (aH (aC ⟨g,0,aB⟩) (aA (tB ms)) cap)/\w3.ownsRow base 3 1 (aH (aC ⟨g,0,aB⟩) (aA (tB ms)) cap) (aA (tB ms)) ((tB ms).map (aG aF))/\aa base w0 w3:=by
 obtain⟨q1,q2,q3⟩:=a6S h;refine(slices_Compact_int g 0 cap ms w q1 (by omega) q3).mono ?_;rintro e w3 ⟨rfl,n3,hw3⟩;have kL:=aEI ms;have hw4:w3=grow (putRow (aG aF) (Sort.ahead w n3) g 0 (tB ms++gP (aA ms-aA (tB ms)) 0).toArray) #[]:=by rw [hw3,grow_empty]
 obtain⟨o3,g3⟩:=a7e h (by simp;omega) hw4;refine⟨rfl, ?_,hB.grown g3 iB (λj hj=>by injection hj with hj;omega)⟩;have:=aJH o3 kL;rw [dh,List.take_left' (by simp)] at this;exact this
theorem Mw(zs:List Int)(A:Option ai)(c:Nat)(m:Int)(w:aJ)(h:aW w w.heap.size A (zs.map (aG aF)))(hl:aA zs<=1000000):
 aQ aM 89 #[aH A (aA zs) c,ν m] w λe w'=>e=aT (bK (hasB zs m))/\w=w':=by
 have HS:=η h;rcases Nat.eq_zero_or_pos (aA zs) with h0|h0
 ·have hz:zs= []:=nU h0;subst hz;go_enter aBM,aC9
  go_wp2_with fail
  refine(slices_Contains_int_empty A c m _).mono ?_;rintro e w1 ⟨rfl,rfl⟩;go_wp2_with fail
  go_ret;exact⟨rfl,rfl⟩
 obtain⟨b,o,rfl,hb,_⟩:=tZ HS.o h0;go_enter aBM,aC9
 go_wp2_with fail
 refine(slices_Contains_int b o (aA zs) c zs m _ (aZ _) (by omega) (YH HS.o)).mono ?_;rintro e w1 ⟨rfl,rfl⟩;rw [cU,show zs.contains m=hasB zs m from rfl];go_wp2_with fail
 go_ret;exact⟨rfl,rfl⟩
end
def TD(w:aJ)(L:List Lg)(e:dX)(w':aJ):Prop:=
 ∃v,e=aT v/\w'.ownsRow w.heap.size 76 3 v (aA L) (bB L)/\β w w'
def BZ(x:Ob):Bool:=decide (0<x.az)&&decide (x.done<x.az)
theorem aFR(x:Ob)(w:aJ):aQ aM 178 #[x.val] w λe w'=>e=aT (bK (BZ x))/\aa w.heap.size w w':=by
 obtain⟨c,m,a,az,done,st⟩:=x;unfold Ob.val;go_enter func178,ntmps178
 go_wp2
 all_goals
  go_ret;refine⟨fT ?_,(aX _ _).alloc (aZ _) _⟩;rw [GC];simp_all [BZ]<;>omega
theorem aIw(L:List Ob)(A:Option ai)(c:Nat)(p:Ob->Bool)(w:aJ)(hs:aW w w.heap.size A (fN L))(hl:aA L<=1000000)
 (hp:∀(x:Ob) (W:aJ),β w W->aQ aM 178 #[x.val] W λe w'=>e=aT (bK (p x))/\β W w'):
 aQ aM 177 #[aH A (aA L) c,.func (.func 178) #[] #[]] w (CT w (L.filter λx=>x.st==1&&p x)):=by
 have HS:=η hs;have HP:=η hp;obtain⟨i0,bu,hz0,fw,hz2⟩:=dP Kt;go_enter aAs,aBf
 go_wp2_with fail
 go_loopw [5,7,10] (λu _ i wr=>∃k:Nat,k<=aA L/\i=ν k/\Hid (wr.ownsRow w.heap.size 59 6 u (aA ((L.take k).filter λx=>x.st==1&&p x)) (fN ((L.take k).filter λx=>x.st==1&&p x)))/\Hid (β w wr)) (λ_ _ i _=>aA L-(ag i).toNat)
 case atStart=>exact⟨0,bM _,rfl,⟨by simp [fN],aS ⟨rfl,rfl⟩⟩,aX _ _⟩
 case round=>
  obtain⟨k,hk,rfl,HO,HB⟩:=hrel;have hsz:=HB.o.size;have gZ:=QF (λx:Ob=>x.st==1&&p x) L k;by_cases hlt:k<aA L
  ·obtain⟨b,o,rfl,hb,d0,d1,d2,d3,d4,d5⟩:=xw (HS.o.below HB.o) hlt;have HF:=η (QG (λx:Ob=>x.st==1&&p x) hlt);cases h1:(L[k].st==1)
   ·have hF:(L.take (k+1)).filter (λx=>x.st==1&&p x)=(L.take k).filter (λx=>x.st==1&&p x):=by rw [HF.o,h1];simp
    have jq:=HO.o;rw [<-hF] at jq;have cF:=η jq;go_wp2_with fail
    go_roundw
    case rel=>exact⟨k+1,by omega,by go_num,cF.o.alloc _,HB.o.alloc hsz _⟩
    case measure=>simp [ag];omega
   cases h2:p L[k]
   ·have hF:(L.take (k+1)).filter (λx=>x.st==1&&p x)=(L.take k).filter (λx=>x.st==1&&p x):=by rw [HF.o,h1,h2];simp
    have jq:=HO.o;rw [<-hF] at jq;have cF:=η jq;have uP:Hid (∀W:aJ,β w W->aQ aM 178 #[L[k].val] W λe w'=>e=aT (bK aP)/\β W w'):=λW hW=>by have:=HP.o L[k] W hW;rw [h2] at this;exact this
    go_wp2_with fail
    refine(uP.o _ (HB.o.alloc hsz _)).mono ?_;rintro e w3 ⟨rfl,hb3⟩;have af:Hid (β w w3):=(HB.o.alloc hsz _).trans (hb3.mono (by simp;omega));have hg3:wr.grownBy w3 aB:=⟨hb3.os,hb3.tape,hb3.output,by have:=hb3.size;simp at this;omega,λi hi _=>(hb3.block i (by simp;omega)).trans (fL _ _ hi)⟩;have cD:=η (cF.o.kept hg3 (by cases (eF _)<;>simp));go_wp2_with fail
    go_roundw
    case rel=>exact⟨k+1,by omega,by go_num,cD,af⟩
    case measure=>simp [ag];omega
   have hF:(L.take (k+1)).filter (λx=>x.st==1&&p x)=(L.take k).filter (λx=>x.st==1&&p x)++ [L[k]]:=by rw [HF.o,h1,h2];simp
   have jR:=η hF;have uP:Hid (∀W:aJ,β w W->aQ aM 178 #[L[k].val] W λe w'=>e=aT (bK aO)/\β W w'):=λW hW=>by have:=HP.o L[k] W hW;rw [h2] at this;exact this
   generalize (L.take k).filter (λx=>x.st==1&&p x)=ys at*;go_wp2_with fail
   refine(uP.o _ (HB.o.alloc hsz _)).mono ?_;rintro e w3 ⟨rfl,hb3⟩;have af:Hid (β w w3):=(HB.o.alloc hsz _).trans (hb3.mono (by simp;omega));have hz3:=hb3.size;simp at hz3;have hg3:wr.grownBy w3 aB:=⟨hb3.os,hb3.tape,hb3.output,by omega,λi hi _=>(hb3.block i (by simp;omega)).trans (fL _ _ hi)⟩;have cD:=η (HO.o.kept hg3 (by cases (eF _)<;>simp));have hc:=λj=>(hb3.cell (p:=⟨wr.heap.size,j,aB⟩) (by simp)).trans (cM _ _ _ j rfl)
   have e0:=hc 0;have e1:=hc 1;have e2:=hc 2;have e3:=hc 3;have e4:=hc 4;have e5:=hc 5;simp at e0 e1 e2 e3 e4 e5;go_wp2_with (at_builtin;refine jC _ rfl _ _ 56 rfl w.heap.size 59 i0 _ 6 48 He bu hz0 fw hz2 rfl (by decide) _ (aA ys) (fN ys) rfl (cD.o.alloc _) ⟨w3.heap.size,0,aB⟩ 1 1 L[k].cells rfl rfl ?c1 ?c2 ?c3 ?c4 ?c5 ?_)
   case c1=>exact dS _ _ #[_,_,_,_,_,_] rfl
   case c2=>intro u hu;simp [Ob.cells] at hu;rcases hu with rfl|rfl|rfl|rfl|rfl|rfl<;>rfl
   case c3=>simp only [bO];omega
   case c4=>omega
   case c5=>simp;omega
   intro v' w4 hown1 dK _;have dY:Hid (w4.ownsRow w.heap.size 59 6 v' (aA ((L.take (k+1)).filter λx=>x.st==1&&p x)) (fN ((L.take (k+1)).filter λx=>x.st==1&&p x))):=by show kF _ _ _ _ _ _ _;rw [jR.o,Nj,cN,uT];exact hown1
   have py:Hid (β w w4):=(af.o.alloc (by omega) _).grown dK (by simp;omega) (λj hj=>eU cD.o j hj);go_wp2_with fail
   go_roundw
   case rel=>exact⟨k+1,by omega,by go_num,dY,py⟩
   case measure=>simp [ag];omega
  obtain rfl:k=aA L:=by omega
  have hO:=HO.o;rw [cU] at hO;have dG:=η hO;go_wp2_with fail
  go_ret;exact⟨_,rfl,dG.o,HB.o⟩
theorem aIv(L:List Ob)(A:Option ai)(c:Nat)(c1:aN)(p:Ob->Bool)(w:aJ)(hs:aW w w.heap.size A (fN L))(hl:aA L<=1000000)
 (hp:∀(x:Ob) (W:aJ),β w W->aQ aM 223 #[x.val,c1] W λe w'=>e=aT (bK (p x))/\β W w'):
 aQ aM 177 #[aH A (aA L) c,.func (.func 223) #[] #[c1]] w (CT w (L.filter λx=>x.st==1&&p x)):=by
 have HS:=η hs;have HP:=η hp;obtain⟨i0,bu,hz0,fw,hz2⟩:=dP Kt;go_enter aAs,aBf
 go_wp2_with fail
 go_loopw [5,7,10] (λu _ i wr=>∃k:Nat,k<=aA L/\i=ν k/\Hid (wr.ownsRow w.heap.size 59 6 u (aA ((L.take k).filter λx=>x.st==1&&p x)) (fN ((L.take k).filter λx=>x.st==1&&p x)))/\Hid (β w wr)) (λ_ _ i _=>aA L-(ag i).toNat)
 case atStart=>exact⟨0,bM _,rfl,⟨by simp [fN],aS ⟨rfl,rfl⟩⟩,aX _ _⟩
 case round=>
  obtain⟨k,hk,rfl,HO,HB⟩:=hrel;have hsz:=HB.o.size;have gZ:=QF (λx:Ob=>x.st==1&&p x) L k;by_cases hlt:k<aA L
  ·obtain⟨b,o,rfl,hb,d0,d1,d2,d3,d4,d5⟩:=xw (HS.o.below HB.o) hlt;have HF:=η (QG (λx:Ob=>x.st==1&&p x) hlt);cases h1:(L[k].st==1)
   ·have hF:(L.take (k+1)).filter (λx=>x.st==1&&p x)=(L.take k).filter (λx=>x.st==1&&p x):=by rw [HF.o,h1];simp
    have jq:=HO.o;rw [<-hF] at jq;have cF:=η jq;go_wp2_with fail
    go_roundw
    case rel=>exact⟨k+1,by omega,by go_num,cF.o.alloc _,HB.o.alloc hsz _⟩
    case measure=>simp [ag];omega
   cases h2:p L[k]
   ·have hF:(L.take (k+1)).filter (λx=>x.st==1&&p x)=(L.take k).filter (λx=>x.st==1&&p x):=by rw [HF.o,h1,h2];simp
    have jq:=HO.o;rw [<-hF] at jq;have cF:=η jq;have uP:Hid (∀W:aJ,β w W->aQ aM 223 #[L[k].val,c1] W λe w'=>e=aT (bK aP)/\β W w'):=λW hW=>by have:=HP.o L[k] W hW;rw [h2] at this;exact this
    go_wp2_with fail
    refine(uP.o _ (HB.o.alloc hsz _)).mono ?_;rintro e w3 ⟨rfl,hb3⟩;have af:Hid (β w w3):=(HB.o.alloc hsz _).trans (hb3.mono (by simp;omega));have hg3:wr.grownBy w3 aB:=⟨hb3.os,hb3.tape,hb3.output,by have:=hb3.size;simp at this;omega,λi hi _=>(hb3.block i (by simp;omega)).trans (fL _ _ hi)⟩;have cD:=η (cF.o.kept hg3 (by cases (eF _)<;>simp));go_wp2_with fail
    go_roundw
    case rel=>exact⟨k+1,by omega,by go_num,cD,af⟩
    case measure=>simp [ag];omega
   have hF:(L.take (k+1)).filter (λx=>x.st==1&&p x)=(L.take k).filter (λx=>x.st==1&&p x)++ [L[k]]:=by rw [HF.o,h1,h2];simp
   have jR:=η hF;have uP:Hid (∀W:aJ,β w W->aQ aM 223 #[L[k].val,c1] W λe w'=>e=aT (bK aO)/\β W w'):=λW hW=>by have:=HP.o L[k] W hW;rw [h2] at this;exact this
   generalize (L.take k).filter (λx=>x.st==1&&p x)=ys at*;go_wp2_with fail
   refine(uP.o _ (HB.o.alloc hsz _)).mono ?_;rintro e w3 ⟨rfl,hb3⟩;have af:Hid (β w w3):=(HB.o.alloc hsz _).trans (hb3.mono (by simp;omega));have hz3:=hb3.size;simp at hz3;have hg3:wr.grownBy w3 aB:=⟨hb3.os,hb3.tape,hb3.output,by omega,λi hi _=>(hb3.block i (by simp;omega)).trans (fL _ _ hi)⟩;have cD:=η (HO.o.kept hg3 (by cases (eF _)<;>simp));have hc:=λj=>(hb3.cell (p:=⟨wr.heap.size,j,aB⟩) (by simp)).trans (cM _ _ _ j rfl)
   have e0:=hc 0;have e1:=hc 1;have e2:=hc 2;have e3:=hc 3;have e4:=hc 4;have e5:=hc 5;simp at e0 e1 e2 e3 e4 e5;go_wp2_with (at_builtin;refine jC _ rfl _ _ 56 rfl w.heap.size 59 i0 _ 6 48 He bu hz0 fw hz2 rfl (by decide) _ (aA ys) (fN ys) rfl (cD.o.alloc _) ⟨w3.heap.size,0,aB⟩ 1 1 L[k].cells rfl rfl ?c1 ?c2 ?c3 ?c4 ?c5 ?_)
   case c1=>exact dS _ _ #[_,_,_,_,_,_] rfl
   case c2=>intro u hu;simp [Ob.cells] at hu;rcases hu with rfl|rfl|rfl|rfl|rfl|rfl<;>rfl
   case c3=>simp only [bO];omega
   case c4=>omega
   case c5=>simp;omega
   intro v' w4 hown1 dK _;have dY:Hid (w4.ownsRow w.heap.size 59 6 v' (aA ((L.take (k+1)).filter λx=>x.st==1&&p x)) (fN ((L.take (k+1)).filter λx=>x.st==1&&p x))):=by show kF _ _ _ _ _ _ _;rw [jR.o,Nj,cN,uT];exact hown1
   have py:Hid (β w w4):=(af.o.alloc (by omega) _).grown dK (by simp;omega) (λj hj=>eU cD.o j hj);go_wp2_with fail
   go_roundw
   case rel=>exact⟨k+1,by omega,by go_num,dY,py⟩
   case measure=>simp [ag];omega
  obtain rfl:k=aA L:=by omega
  have hO:=HO.o;rw [cU] at hO;have dG:=η hO;go_wp2_with fail
  go_ret;exact⟨_,rfl,dG.o,HB.o⟩
def Ob.claim(x:Ob):Lg:=⟨x.m,x.a,if x.az=gA then 9223372036854775807 else-x.az⟩
theorem aDt(n:Int)(h:aL n):(dR (-n) !=0)=(n==gA):=by
 unfold gA;rcases Int.decEq n (-9223372036854775808) with h1|h1
 ·have h2:aL (-n):=by unfold aL at*;omega
  rw [(eH h2).2];simp [h1]
 subst h1;have h2:¬aL (- -9223372036854775808):=by decide
 rw [(gw h2).2];rfl
theorem aDu(x:Ob)(w:aJ)(h:aL x.az):aQ aM 224 #[x.val] w λe w'=>e=aT (x.claim.val)/\aa w.heap.size w w':=by
 have HA:=η (aDt x.az h);have HI:=η h;have HC:=η (show x.claim=⟨x.m,x.a,if x.az=gA then 9223372036854775807 else-x.az⟩ from rfl);obtain⟨c,m,a,az,done,st⟩:=x;simp only at HA HI HC;by_cases hn:az=gA
 ·have h1:(dR (-az) !=0)=aO:=by rw [HA.o];simpa using hn
  have HN:=η hn;clear h hn;unfold Ob.val;go_enter aB1,aBo
  go_wp2_with fail
  refine(Rm az _ HI.o).mono ?_;rintro e w1 ⟨rfl,rfl⟩;go_wp2_with fail
  refine bodyPost_ret (v:=bP #[ν m,ν a,ν 9223372036854775807]) (by simp [results,aCD,go_sem]) rfl ⟨?_,σ.alloc (by simp) _⟩;rw [HC.o,HN.o];rfl
 have h1:(dR (-az) !=0)=aP:=by rw [HA.o];simpa using hn
 have HN:=η hn;have hv:gU (-az)= -az:=by
  have h2:aL (-az):=by have hi:=HI.o;unfold aL gA at*;omega
  exact(eH h2).1
 have HV:=η hv;clear h hn hv;unfold Ob.val;go_enter aB1,aBo
 go_wp2_with fail
 refine(Rm az _ HI.o).mono ?_;rintro e w1 ⟨rfl,rfl⟩;go_wp2_with fail
 refine bodyPost_ret (v:=bP #[ν m,ν a,ν (gU (-az))]) (by simp [results,aCD,go_sem]) rfl ⟨?_,σ.alloc (by simp) _⟩;rw [HC.o,HV.o,ifN HN.o];rfl
structure K3(w:aJ)(bw:Nat)(A:Option ai)(c:Nat)(who:List Int):Prop where
 cell:w.cell? ⟨bw,0,aB⟩=aC (aH A (aA who) c)
 eA:aW w w.heap.size A (who.map (aG aF))
 lt:bw<w.heap.size
theorem K3.below {w w':aJ} {bw:Nat} {A:Option ai} {c:Nat} {who:List Int}(h:K3 w bw A c who)(hb:aa w.heap.size w w'):K3 w' bw A c who:=
 ⟨(hb.cell (p:=⟨bw,0,aB⟩) h.lt).trans h.cell,(h.eA.below hb).mono hb.size,cL h.lt hb.size⟩
def tM(p:Ob->Bool)(x:Ob):Bool:=decide (x.az<0)&&p x
def pM(jJ:Int)(who:List Int)(x:Ob):Bool:=x.a==jJ&& !hasB who x.m
theorem aG1(x:Ob)(jJ:Int)(who:List Int)(A:Option ai)(c ba bw:Nat)(w:aJ)(h:K3 w bw A c who)(ha:w.cell? ⟨ba,0,aB⟩=aC (aG aF jJ))(nG:ba<w.heap.size)(hl:aA who<=1000000):
 aQ aM 191 #[x.val,π ba,π bw] w λe w'=>e=aT (bK (pM jJ who x))/\β w w':=by
 have HG:=η (show pM jJ who x=(x.a==jJ&& !hasB who x.m) from rfl);obtain⟨xc,xm,xa,az,done,st⟩:=x;simp only at HG;unfold Ob.val;have hb:β w (w.alloc (aK #[ν xc,ν xm,ν xa,ν az,ν done,ν st] 59)):=(aX _ _).alloc (aZ _) _;have HH:=η (h.below hb);have HB:=η hb;have h0:=h.cell;have hlt:=h.lt;cases h1:(xa==jJ)
 ·go_enter aAw,aBj
  go_wp2_with fail
  go_ret;exact⟨fT (by rw [HG.o,h1];rfl),HB.o⟩
 go_enter aAw,aBj
 go_wp2_with fail
 refine(Mw who A c xm _ HH.o.eA hl).mono ?_;rintro e w1 ⟨rfl,rfl⟩;go_wp2_with fail
 go_ret;exact⟨fT (by rw [HG.o,h1];simp),HB.o⟩
theorem aDv(x:Ob)(jJ:Int)(who:List Int)(Aw:Option ai)(cw ba bw:Nat)(bi:Nat)(w:aJ)(hw:K3 w bw Aw cw who)(ha:w.cell? ⟨ba,0,aB⟩=aC (aG aF jJ))(nG:ba<w.heap.size)(hi:w.cell? ⟨bi,0,aB⟩=aC (.func (.func 191) #[] #[bD (aC ⟨ba,0,aB⟩),bD (aC ⟨bw,0,aB⟩)]))(hbi:bi<w.heap.size)(hl:aA who<=1000000):
 aQ aM 223 #[x.val,π bi] w λe w'=>e=aT (bK (tM (pM jJ who) x))/\β w w':=by
 have hb:β w (w.alloc (aK #[ν x.c,ν x.m,ν x.a,ν x.az,ν x.done,ν x.st] 59)):=(aX _ _).alloc (aZ _) _;have HB:=η hb;have HC:=η (aG1 x jJ who Aw cw ba bw _ (hw.below hb) ((hb.cell (p:=⟨ba,0,aB⟩) nG).trans ha) (by simp;omega) hl);have HQ:=η (show tM (pM jJ who) x=(decide (x.az<0)&&(pM jJ who) x) from rfl);generalize tM (pM jJ who) x=cv at*;generalize hp:(pM jJ who) x=pv at*;have HP:=η hp;obtain⟨xc,xm,xa,az,done,st⟩:=x;simp only at*;unfold Ob.val at HC ⊢;simp only at HC ⊢;by_cases h1:az<0
 ·have HD:Hid (cv=pv):=by show _=_;rw [HQ.o,decide_eq_true h1];rfl
  go_enter aB0,aBn
  go_wp2_with fail
  refine HC.o.mono ?_;rintro e w1 ⟨rfl,hb1⟩;have aR:Hid (β w w1):=HB.o.trans (hb1.mono (by simp));go_wp2_with fail
  go_ret;exact⟨fT (HD.o.symm),aR.o⟩
 have HD:Hid (cv=aP):=by show _=_;rw [HQ.o,decide_eq_false h1];rfl
 go_enter aB0,aBn
 go_wp2_with fail
 go_ret;exact⟨fT HD.o.symm,HB.o⟩
theorem aDx(L:List Ob)(A:Option ai)(c:Nat)(jJ:Int)(who:List Int)(Aw:Option ai)(cw ba bw:Nat)(w:aJ)(hs:aW w w.heap.size A (fN L))(hl:aA L<=1000000)(hI:∀x∈L,aL x.az)(hw:K3 w bw Aw cw who)(ha:w.cell? ⟨ba,0,aB⟩=aC (aG aF jJ))(nG:ba<w.heap.size)(Wq:aA who<=1000000):
 aQ aM 190 #[aH A (aA L) c,.func (.func 191) #[] #[π ba,π bw]] w (TD w ((L.filter λx=>x.st==1&&tM (pM jJ who) x).map Ob.claim)):=by
 have hb:β w (w.alloc (aK #[.func (.func 191) #[] #[π ba,π bw]] 170)):=(aX _ _).alloc (aZ _) _;have hp:∀(x:Ob) (W:aJ),aa (w.alloc (aK #[.func (.func 191) #[] #[π ba,π bw]] 170)).heap.size (w.alloc (aK #[.func (.func 191) #[] #[π ba,π bw]] 170)) W->aQ aM 223 #[x.val,π w.heap.size] W λe w'=>e=aT (bK (tM (pM jJ who) x))/\β W w':=by intro x W hW;have hz:=hW.size;simp at hz;have oN:β w W:=hb.trans (hW.mono (by simp));exact aDv x jJ who Aw cw ba bw w.heap.size W (hw.below oN) ((oN.cell (p:=⟨ba,0,aB⟩) nG).trans ha) (by omega) (by rw [hW.cell (p:=⟨w.heap.size,0,aB⟩) (by simp),cM _ _ _ _ rfl];rfl) (by omega) Wq
 have HC:=η (aIv L A c (π w.heap.size) (tM (pM jJ who)) (w.alloc (aK #[.func (.func 191) #[] #[π ba,π bw]] 170)) ((hs.below hb).mono (by simp)) hl hp);have HB:=η hb;have hDl:aA (L.filter λx=>x.st==1&&tM (pM jJ who) x)<=aA L:=qo _ _;have HDI:Hid (∀x∈(L.filter λx=>x.st==1&&tM (pM jJ who) x),aL x.az):=λx hx=>hI x (jG.1 hx).1
 obtain⟨i0,bu,hz0,fw,hz2⟩:=dP a5W;generalize hzs:(L.filter λx=>x.st==1&&tM (pM jJ who) x).map Ob.claim=zs;have HZ:=η hzs;go_enter func190,ntmps190
 go_wp2_with fail
 refine HC.o.mono ?_;rintro e w1 ⟨v1,rfl,eT,hb1⟩;generalize (L.filter λx=>x.st==1&&tM (pM jJ who) x)=D at*;obtain⟨A1,c1,rfl⟩:=bL eT;have HS:=η (aW.cB eT);have aR:Hid (β w w1):=HB.o.trans (hb1.mono (by simp));have hz1:=aR.o.size;go_wp2_with fail
 go_loopw [5,7,12] (λu _ i wr=>∃k:Nat,k<=aA D/\i=ν k/\Hid (wr.ownsRow w1.heap.size 76 3 u (aA ((D.take k).map Ob.claim)) (bB ((D.take k).map Ob.claim)))/\Hid (β w1 wr)) (λ_ _ i _=>aA D-(ag i).toNat)
 case atStart=>exact⟨0,bM _,rfl,⟨by simp [bB],aS ⟨rfl,rfl⟩⟩,aX _ _⟩
 case round=>
  obtain⟨k,hk,rfl,HO,HB⟩:=hrel;have hsz:=HB.o.size;by_cases hlt:k<aA D
  ·obtain⟨b,o,rfl,hb,d0,d1,d2,d3,d4,d5⟩:=xw (HS.o.below HB.o) hlt;have jR:Hid ((D.take (k+1)).map Ob.claim=(D.take k).map Ob.claim++ [D[k].claim]):=by show _=_;rw [fH hlt,dh];rfl
   have Bn:aA ((D.take k).map Ob.claim)<=k:=by rw [iX];exact List.length_take_le _ _
   have Oc:=η (HDI.o D[k] (cK hlt));generalize (D.take k).map Ob.claim=ys at*;go_wp2_with fail
   refine(aDu D[k] _ Oc.o).mono ?_;rintro e w3 ⟨rfl,hb3⟩;have af:Hid (β w1 w3):=(HB.o.alloc hsz _).trans (hb3.mono (by simp;omega));have hz3:=hb3.size;simp at hz3;have hg3:wr.grownBy w3 aB:=⟨hb3.os,hb3.tape,hb3.output,by omega,λi hi _=>(hb3.block i (by simp;omega)).trans (fL _ _ hi)⟩;have cD:=η (HO.o.kept hg3 (by cases (eF _)<;>simp));rw [show D[k].claim.val=bP #[ν D[k].claim.m,ν D[k].claim.a,ν D[k].claim.n] from rfl];generalize D[k].claim=lg at*;go_wp2_with (at_builtin;refine jC _ rfl _ _ 39 rfl w1.heap.size 76 i0 _ 3 24 tG bu hz0 fw hz2 rfl (by decide) _ (aA ys) (bB ys) rfl (cD.o.alloc _) ⟨w3.heap.size,0,aB⟩ 1 1 lg.cells rfl rfl ?c1 (a5T lg) ?c3 ?c4 ?c5 ?_)
   case c1=>exact dS _ _ #[_,_,_] rfl
   case c3=>simp only [bO];omega
   case c4=>omega
   case c5=>simp;omega
   intro v' w4 hown1 dK _;have dY:Hid (w4.ownsRow w1.heap.size 76 3 v' (aA ((D.take (k+1)).map Ob.claim)) (bB ((D.take (k+1)).map Ob.claim))):=by show kF _ _ _ _ _ _ _;rw [jR.o,a5V,cN,uT];exact hown1
   have py:Hid (β w1 w4):=(af.o.alloc (by omega) _).grown dK (by simp;omega) (λj hj=>eU cD.o j hj);go_wp2_with fail
   go_roundw
   case rel=>exact⟨k+1,by omega,by go_num,dY,py⟩
   case measure=>simp [ag];omega
  obtain rfl:k=aA D:=by omega
  have hO:=HO.o;rw [cU,HZ.o] at hO;have dG:=η hO;go_wp2_with fail
  go_ret;exact⟨_,rfl,iD dG.o hz1,aR.o.trans (HB.o.mono hz1)⟩
theorem aG2(L:List Ob)(A:Option ai)(c:Nat)(jJ:Int)(who:List Int)(Aw:Option ai)(cw:Nat)(w:aJ)(hs:aW w w.heap.size A (fN L))(hl:aA L<=1000000)(hI:∀x∈L,aL x.az)(hw:aW w w.heap.size Aw (who.map (aG aF)))(Wq:aA who<=1000000):
 aQ aM 130 #[aH A (aA L) c,aH Aw (aA who) cw,ν jJ] w (TD w ((L.filter λx=>x.st==1&&tM (pM jJ who) x).map Ob.claim)):=by
 have hb:β w ((w.alloc (aK #[aH Aw (aA who) cw] 46)).alloc (aK #[ν jJ] 3)):=σ.alloc (by simp) _;have HC:=η (aDx L A c jJ who Aw cw (w.heap.size+1) w.heap.size ((w.alloc (aK #[aH Aw (aA who) cw] 46)).alloc (aK #[ν jJ] 3)) ((hs.below hb).mono (by simp;omega)) hl hI ⟨by rw [BU _ _ _ (by simp),cM _ _ _ _ rfl];rfl,(hw.below hb).mono (by simp;omega),by simp;omega⟩ (by rw [cM _ _ _ _ (by simp)];rfl) (by simp) Wq);have HB:=η hb;generalize (L.filter λx=>x.st==1&&tM (pM jJ who) x).map Ob.claim=zs at*;go_enter func130,ntmps130
 go_wp2_with fail
 refine HC.o.mono ?_;rintro e w1 ⟨v1,rfl,eT,hb1⟩;have cF:=η eT;have aR:Hid (β w w1):=HB.o.trans (hb1.mono (by simp;omega));go_wp2_with fail
 go_ret;exact⟨v1,rfl,iD cF.o (by simp;omega),aR.o⟩
section
open Go.Sort
structure xE(w:aJ)(A:Option ai)(c:Nat)(zs:List Int):Prop where
 eA:aW w w.heap.size A (zs.map (aG aF))
 nil:A=aB->zs= []/\c=0
theorem xE.below {w w':aJ} {A:Option ai} {c:Nat} {zs:List Int}(h:xE w A c zs)(hb:aa w.heap.size w w'):xE w' A c zs:=⟨(h.eA.below hb).mono hb.size,h.nil⟩
theorem a4w(zs:List Int):∀u∈zs.map (aG aF),u.oneCell'=aO:=by intro u hu;obtain⟨x,_,rfl⟩:=di.1 hu;rfl
theorem Sr {w:aJ} {ops:Array Oper} {rest:List Oper} {o:Oper} {a:Act} {Q:Exit->Act->aJ->Prop}(hgd:o.guard=aB)(s x:Operand)
 (ho:o.op= .call {callee:= .builtin .append,args:= #[s,x],argTypes:= #[46,46]}) (base:Nat)
 (v:aN) (n:Nat) (xs:List Int) (hs:a.eval s=v) (hown:w.ownsRow base 3 1 v n (xs.map (aG aF)))
 (A:Option ai) (c:Nat) (zs:List Int) (hx:a.eval x=aH A (aA zs) c) (hz:xE w A c zs) (hlen:n+aA zs<=1000000) (hbase:base<=w.heap.size)
 (h:∀v' w',w'.ownsRow base 3 1 v' (n+aA zs) ((xs++zs).map (aG aF))->w.grownBy w' v.ownBlock->wpList aM ops Q rest (a.put o.dst v') w'):wpList aM ops Q (o::rest) a w:=by
 obtain⟨i0,bu,hz0,hz1,hz2⟩:=dP Ra;cases A with
 |none=>
  obtain⟨rfl,rfl⟩:=hz.nil rfl;refine wpList_append_own_none hgd s x 46 ho base 3 i0 1 yU bu v n (xs.map (aG aF)) hs hown hx (h v w (by simpa using hown) ⟨rfl,rfl,rfl,aZ _,λ_ _ _=>rfl⟩)
 |some ad=>
  refine jC w hgd s x 46 ho base 3 i0 _ 1 8 yU bu hz0 hz1 hz2 rfl (by decide) v n (xs.map (aG aF)) hs hown ad (aA zs) c (zs.map (aG aF)) hx (by simp) ?_ (a4w zs) (by simp only [bO];omega) (by omega) hbase ?_
  ·intro j u hu;obtain⟨b,o',e,_,hc⟩:=hz.eA j u hu;injection e with e;subst e;have ea:(⟨b,o',aB⟩:ai).add j=⟨b,o'+j,aB⟩:=by unfold Addr.add;split<;>simp_all
   rw [ea];exact hc
  intro v' w' h1 h2 _;exact h v' w' (by rw [dh];exact h1) h2
theorem aG6(w:aJ)(n:Nat)(hn:n<=1000000):kF (w.drew.alloc (aK (([]:List aN).toArray++EH (aG aF 0).cells (0+n-0)++EH (aG aF 0).cells (xR w (0+n) 0 3-(0+n))) 3)) w.heap.size 3 1 (aH (aC ⟨w.heap.size,0,aB⟩) 0 (xR w (0+n) 0 3)) 0 []:=by rw [Nat.zero_add];have h1:=grownCap_ge w n 0 3;refine⟨by simp,Or.inr ⟨w.heap.size,_,_,rfl,aZ _,cQ _ _,bM _,grownCap_le_maxLen w n 0 3 (by simp only [bO];omega), ?_,by simp⟩⟩;simp only [Array.size_append,List.size_toArray,Eh,size_zeroCells,Value.cells];simp;omega
theorem aEQ(z1 z2:List Int)(A1 A2:Option ai)(c1 c2 g:Nat)(w:aJ)(h1:xE w A1 c1 z1)(h2:xE w A2 c2 z2)(g0:w.cell? ⟨g,0,aB⟩=aC (aH A1 (aA z1) c1))(g1:w.cell? ⟨g,1,aB⟩=aC (aH A2 (aA z2) c2))(hg:g<w.heap.size)(oO:aA z1<=100000)(hl2:aA z2<=100000):
 aQ aM 180 #[aH (aC ⟨g,0,aB⟩) 2 2] w (ZE w (z1++z2)):=by
 have H1:=η h1;have H2:=η h2;clear h1 h2;have G1:=η g1;rcases Nat.eq_zero_or_pos (aA z1+aA z2) with h0|h0
 ·have kM:aA z1=0:=by omega
  have oP:aA z2=0:=by omega
  have e1:z1= []:=nU kM;have e2:z2= []:=nU oP;subst e1 e2;clear h0 kM oP;have wR:=H1;have HZ:Hid (w.heap.size<=w.heap.size):=aZ _;have fC:Hid (w.heap.size<=w.heap.size):=aZ _;have pC:Hid (β w w):=aX _ _;have qZ:Hid (w.ownsRow w.heap.size 3 1 (aH aB 0 0) 0 (([]:List Int).map (aG aF))):=⟨by simp,aS ⟨rfl,rfl⟩⟩;simp only [Eh] at g0 g1;go_enter aAt,aBg
  go_wp2_with fail
  refine ux 3 ?_;rw [eI];go_wp2_with fail
  rw [eI];go_wp2_with fail
  rw [eI];go_wp2_with fail
  refine(Any8.slices_Grow_room growI aB 0 0 0 _ (by omega) (by omega) (by omega) (by omega)).mono ?_;rintro e w2 ⟨rfl,hw2⟩;obtain rfl:w=w2:=hw2.symm;go_wp2_with fail
  refine ux 3 ?_;rw [eI];go_wp2_with (at_builtin;refine Sr rfl _ _ rfl w.heap.size _ 0 [] rfl qZ.o A1 c1 [] rfl wR.o (by omega) HZ.o ?_)
  intro v3 w3 j7 hg3;have cD:Hid (w3.ownsRow w.heap.size 3 1 v3 (aA ([]:List Int)) ([].map (aG aF))):=by show kF _ _ _ _ _ _ _;simpa using j7
  have af:Hid (β w w3):=(aX _ _).grown hg3 HZ.o (λj hj=>eU qZ.o j hj);have mV:Hid (β w w3):=pC.o.trans (af.o.mono fC.o);have q1:w3.cell? ⟨g,1,aB⟩=aC (aH A2 (aA ([]:List Int)) c2):=(mV.o.cell (p:=⟨g,1,aB⟩) hg).trans G1.o;have CU:Hid (xE w3 A2 c2 []):=H2.o.below mV.o;have vK:Hid (w.heap.size<=w3.heap.size):=bz HZ.o af.o.size;clear j7 hg3;go_wp2_with fail
  rw [eI];go_wp2_with (at_builtin;refine Sr rfl _ _ rfl w.heap.size _ (aA ([]:List Int)) [] rfl cD.o A2 c2 [] rfl CU.o (by omega) vK.o ?_)
  intro v4 w4 iC hg4;have dY:Hid (w4.ownsRow w.heap.size 3 1 v4 (aA (([]:List Int)++ [])) (((([]:List Int)++ [])).map (aG aF))):=by show kF _ _ _ _ _ _ _;rw [cN];first|exact iC|(rw [dh];exact iC)
  have ar:Hid (β w w4):=mV.o.trans (((aX _ _).grown hg4 vK.o (λj hj=>eU cD.o j hj)).mono fC.o);clear iC hg4 q1;go_wp2_with fail
  rw [eI];go_wp2_with fail
  go_ret;obtain⟨A4,c4,rfl,j8⟩:=YI dY.o rfl;exact⟨A4,c4,rfl,j8,ar.o⟩
 have yj:aF.wrap ((aA z1:Int)+aA z2)=(aA z1:Int)+aA z2:=sr _ (by omega);obtain⟨i0,bu,hz0,hz1,hz2⟩:=dP Ra;go_enter aAt,aBg
 go_wp2_with fail
 refine ux 3 ?_;rw [eI];go_wp2_with fail
 rw [eI];go_wp2_with fail
 rw [eI];go_wp2_with fail
 clear yj;rw [show ((aA z1:Int)+(aA z2:Int))=((aA z1+aA z2:Nat):Int) from by omega];refine(Any8.slices_Grow_grow growI i0 (ν 0) bu hz0 (by rw [hz1];decide) aB 0 0 (aA z1+aA z2) [] _ (by omega) (by omega) (by rw [hz2];omega) (by omega) (by simp) (λ_=>rfl) (λa h=>by cases h)).mono ?_;rintro e w2 ⟨rfl,hw2⟩;have qZ:Hid (w2.ownsRow w.heap.size 3 1 (aH (aC ⟨w.heap.size,0,aB⟩) 0 (xR w (0+(aA z1+aA z2)) 0 3)) 0 (([]:List Int).map (aG aF))):=by show kF _ _ _ _ _ _ _;rw [hw2];exact aG6 w (aA z1+aA z2) (by omega)
 have pC:Hid (β w w2):=by show RowKit.Below _ _ _;rw [hw2];exact(aX _ _).drew.alloc (aZ _) _
 have HZ:Hid (w.heap.size<=w2.heap.size):=pC.o.size;have fC:Hid (w.heap.size<=w.heap.size):=aZ _;have wR:Hid (xE w2 A1 c1 z1):=H1.o.below pC.o;have p0:w2.cell? ⟨g,0,aB⟩=aC (aH A1 (aA z1) c1):=(pC.o.cell (p:=⟨g,0,aB⟩) hg).trans g0;clear hw2 g0 g1;rw [show (growI_ren.t 25)=3 from rfl];generalize xR w (0+(aA z1+aA z2)) 0 3=cap at*;go_wp2_with fail
 refine ux 3 ?_;rw [eI];go_wp2_with (at_builtin;refine Sr rfl _ _ rfl w.heap.size _ 0 [] rfl qZ.o A1 c1 z1 rfl wR.o (by omega) HZ.o ?_)
 intro v3 w3 j7 hg3;have cD:Hid (w3.ownsRow w.heap.size 3 1 v3 (aA z1) (z1.map (aG aF))):=by show kF _ _ _ _ _ _ _;simpa using j7
 have af:Hid (aa w.heap.size w2 w3):=(aX _ _).grown hg3 HZ.o (λj hj=>eU qZ.o j hj);have mV:Hid (β w w3):=pC.o.trans (af.o.mono fC.o);have q1:w3.cell? ⟨g,1,aB⟩=aC (aH A2 (aA z2) c2):=(mV.o.cell (p:=⟨g,1,aB⟩) hg).trans G1.o;have CU:Hid (xE w3 A2 c2 z2):=H2.o.below mV.o;have vK:Hid (w.heap.size<=w3.heap.size):=bz HZ.o af.o.size;clear j7 hg3;go_wp2_with fail
 rw [eI];go_wp2_with (at_builtin;refine Sr rfl _ _ rfl w.heap.size _ (aA z1) z1 rfl cD.o A2 c2 z2 rfl CU.o (by omega) vK.o ?_)
 intro v4 w4 iC hg4;have dY:Hid (w4.ownsRow w.heap.size 3 1 v4 (aA (z1++z2)) ((z1++z2).map (aG aF))):=by show kF _ _ _ _ _ _ _;rw [cN];first|exact iC|(rw [dh];exact iC)
 have ar:Hid (β w w4):=mV.o.trans (((aX _ _).grown hg4 vK.o (λj hj=>eU cD.o j hj)).mono fC.o);clear iC hg4 q1;go_wp2_with fail
 rw [eI];go_wp2_with fail
 go_ret;obtain⟨A4,c4,rfl,j8⟩:=YI dY.o rfl;exact⟨A4,c4,rfl,j8,ar.o⟩
end
section
structure Ev where
 k:Int
 m:Int
 a:Int
 n:Int
 o:Int
def Ev.cells(x:Ev):List aN:= [aG aF x.k,aG aF x.m,aG aF x.a,aG aF x.n,aG aF x.o]
def qP(l:List Ev):List aN:=l.flatMap Ev.cells
theorem aFP(l r:List Ev):qP (l++r)=qP l++qP r:=by simp [qP]
theorem Vf(l:List Ev):∀u∈qP l,u.oneCell'=aO:=by intro u hu;obtain⟨x,_,hx⟩:=List.mem_flatMap.1 hu;simp [Ev.cells] at hx;rcases hx with rfl|rfl|rfl|rfl|rfl<;>rfl
theorem a3K(l:List Ev):aA (qP l)=aA l*5:=by
 induction l with
 |nil=>rfl
 |cons x l ih=>simp only [qP,xB,cN,uS] at*;rw [ih];simp [Ev.cells];omega
structure Dk where
 x:ak
 l:List Int
 h:List Hr
 ob:List Ob
 bx:List Bd
 who:List Int
 aj:Int
 st:Int
 en:Bool
 log:List Ev
structure Dp where
 vb:Nat
 vp:Vp
 sb:Nat
 sv:aN
 xb:Nat
 xc:ak
 xv:aN
 wv:aN
 lv:aN
def VS(p:Dp)(D:Dk):Array aN:= #[aH D.x.Am (aA D.x.ms) D.x.cm,aH D.x.As (aA D.x.ss) D.x.cs,aH D.x.Ac (aA D.x.cy) D.x.cc,aG aF D.x.line,aG aF D.x.bW,aG aF D.x.lead,aG aF D.x.tr,aG aF D.x.bT,bD (aC ⟨p.vb,0,aB⟩),bD (aC ⟨p.sb,0,aB⟩),bD (aC ⟨p.xb,0,aB⟩),p.wv,aG aF D.aj,aG aF D.st,bK D.en,p.lv]
structure bV(w:aJ)(db:Nat)(p:Dp)(D:Dk):Prop where
 blk:w.heap[db]? =aC (aK (VS p D) 90 (0,0))
 cf:wQ w 0 D.x
 vt:gY w p.vb p.vp (aA D.x.ms) (aA D.x.ss+1) (aA D.x.ms) D.l D.h
 sh:fR w p.sb 0 p.sv D.ob
 bx:jD w p.xb p.xc p.xv D.bx
 CN:wQ w 0 p.xc
 same:p.xc.ms=D.x.ms/\p.xc.ss=D.x.ss/\p.xc.cy=D.x.cy/\p.xc.bT=D.x.bT
 who:w.ownsRow 0 3 1 p.wv (aA D.who) (D.who.map (aG aF))
 log:w.ownsRow 0 45 5 p.lv (aA D.log) (qP D.log)
def eW(db:Nat)(p:Dp)(k:Nat):Prop:=k=db\/qK p.vb p.vp k\/(k=p.sb\/p.sv.ownBlock=aC k)\/(k=p.xb\/p.xv.ownBlock=aC k)\/p.wv.ownBlock=aC k\/p.lv.ownBlock=aC k
def Ty(w:aJ)(T:List bZ)(k:Nat):Prop:=∃cs t,t∈T/\w.heap[k]? =aC (aK cs t (0,0))
theorem Ty.own {w:aJ} {base:Nat} {e:bZ} {s n:Nat} {v:aN} {xs:List aN}(h:w.ownsRow base e s v n xs) {k:Nat}(hk:v.ownBlock=aC k):Ty w [e] k:=by
 rcases h.2 with⟨rfl,_⟩|⟨g,cap,cur,rfl,_,hh,_⟩
 ·simp [eF] at hk
 have e':g=k:=by simpa [eF] using hk
 subst e';exact⟨_,_,List.mem_singleton.2 rfl,hh⟩
theorem Ty.mono {w:aJ} {T T':List bZ} {k:Nat}(h:Ty w T k)(hs:∀t∈T,t∈T'):Ty w T' k:=by obtain⟨cs,t,ht,hh⟩:=h;exact⟨cs,t,hs t ht,hh⟩
theorem Ty.apart {w:aJ} {T T':List bZ} {k:Nat}(h:Ty w T k)(h':Ty w T' k)(hd:∀t∈T,t∉T'):False:=by obtain⟨cs,t,ht,hh⟩:=h;obtain⟨cs',t',AP,IQ⟩:=h';rw [hh] at IQ;injection IQ with e;injection e with _ e2;subst e2;exact hd t ht AP
def TV:List bZ:= [141,216,2,218,188]
def TS:List bZ:= [146,59]
def TX:List bZ:= [134,41]
def TC:List bZ:= [67,69,71]
theorem gY.ty {w:aJ} {vb:Nat} {p:Vp} {M A:Nat} {room:Int} {l:List Int} {h:List Hr}(H:gY w vb p M A room l h) {k:Nat}(hk:qK vb p k):Ty w TV k:=by
 rcases hk with rfl|rfl|e|rfl|e
 ·exact⟨_,_,by decide,H.blk⟩
 ·exact⟨_,_,by decide,H.bk.blk⟩
 ·exact(Ty.own H.bk.own e).mono (by decide)
 ·exact⟨_,_,by decide,H.tb.blk⟩
 exact(Ty.own H.tb.own e).mono (by decide)
theorem fR.ty {w:aJ} {bs base:Nat} {v:aN} {L:List Ob}(H:fR w bs base v L) {k:Nat}(hk:k=bs\/v.ownBlock=aC k):Ty w TS k:=by
 rcases hk with rfl|e
 ·exact⟨_,_,by decide,H.s⟩
 exact(Ty.own H.own e).mono (by decide)
theorem jD.ty {w:aJ} {xb:Nat} {x:ak} {v:aN} {L:List Bd}(H:jD w xb x v L) {k:Nat}(hk:k=xb\/v.ownBlock=aC k):Ty w TX k:=by
 rcases hk with rfl|e
 ·exact⟨_,_,by decide,H.blk⟩
 exact(Ty.own H.own e).mono (by decide)
theorem wQ.upd {w w':aJ} {S:Nat->Prop} {b:Nat} {x:ak}(h:wQ w b x)(hu:bA S w w')(hS:∀k,Ty w TC k->¬S k):wQ w' b x:=
 ⟨hu.own h.m (λk hk=>hS k ((Ty.own h.m hk).mono (by decide))),hu.own h.s (λk hk=>hS k ((Ty.own h.s hk).mono (by decide))),hu.own h.c (λk hk=>hS k ((Ty.own h.c hk).mono (by decide)))⟩
theorem fR.upd {w w':aJ} {S:Nat->Prop} {bs base:Nat} {v:aN} {L:List Ob}(H:fR w bs base v L)(hu:bA S w w')(hS:∀k,Ty w TS k->¬S k):fR w' bs base v L:=
 ⟨(hu.keep bs H.lt (hS bs (H.ty (.inl rfl)))).trans H.s,hu.own H.own (λk hk=>hS k (H.ty (.inr hk)))⟩
theorem jD.upd {w w':aJ} {S:Nat->Prop} {xb:Nat} {x:ak} {v:aN} {L:List Bd}(H:jD w xb x v L)(hu:bA S w w')(hS:∀k,Ty w TX k->¬S k):jD w' xb x v L:=
 ⟨(hu.keep xb H.lt (hS xb (H.ty (.inl rfl)))).trans H.blk,hu.own H.own (λk hk=>hS k (H.ty (.inr hk)))⟩
theorem Only.upd {bs:Nat} {v:aN} {w w':aJ}(h:Only bs v w w'):bA (λk=>k=bs\/v.ownBlock=aC k) w w':=
 ⟨h.os,h.tape,h.output,h.size,λk hk hn=>h.block k hk (λe=>hn (.inl e)) (λe=>hn (.inr e.symm))⟩
section
variable {w w':aJ} {db:Nat} {p:Dp} {D:Dk} (H:bV w db p D)
include H
theorem bV.lt:db<w.heap.size:=(fY.1 H.blk).1
theorem bV.ty:Ty w [90] db:=⟨_,_,by decide,H.blk⟩
theorem bV.below(hb:aa w.heap.size w w'):bV w' db p D:=
 ⟨(hb.block _ H.lt).trans H.blk,H.cf.below hb,H.vt.below hb,H.sh.below hb,H.bx.below hb,H.CN.below hb,H.same,iJ H.who hb,iJ H.log hb⟩
theorem bV.a8V(hu:bA (qK p.vb p.vp) w w') {Sl:Vp} {l':List Int} {h':List Hr}(hv:gY w' p.vb Sl (aA D.x.ms) (aA D.x.ss+1) (aA D.x.ms) l' h'):bV w' db {p with vp:=Sl} {D with l:=l',h:=h'}:=by
 have no:∀ {T:List bZ} {k:Nat},Ty w T k->(∀t∈T,t∉TV)->¬qK p.vb p.vp k:=λhk hd hs=>hk.apart (H.vt.ty hs) hd
 exact⟨(hu.keep db H.lt (no H.ty (by decide))).trans H.blk,H.cf.upd hu (λk hk=>no hk (by decide)),hv,H.sh.upd hu (λk hk=>no hk (by decide)),H.bx.upd hu (λk hk=>no hk (by decide)),H.CN.upd hu (λk hk=>no hk (by decide)),H.same,hu.own H.who (λk hk=>no (Ty.own H.who hk) (by decide)),hu.own H.log (λk hk=>no (Ty.own H.log hk) (by decide))⟩
theorem bV.aKe(hu:bA (λk=>k=p.sb\/p.sv.ownBlock=aC k) w w') {SZ:aN} {cT:List Ob}(hs:fR w' p.sb 0 SZ cT):bV w' db {p with sv:=SZ} {D with ob:=cT}:=by
 have no:∀ {T:List bZ} {k:Nat},Ty w T k->(∀t∈T,t∉TS)->¬(k=p.sb\/p.sv.ownBlock=aC k):=λhk hd hs=>hk.apart (H.sh.ty hs) hd
 exact⟨(hu.keep db H.lt (no H.ty (by decide))).trans H.blk,H.cf.upd hu (λk hk=>no hk (by decide)),H.vt.upd hu (λk hk=>no (H.vt.ty hk) (by decide)),hs,H.bx.upd hu (λk hk=>no hk (by decide)),H.CN.upd hu (λk hk=>no hk (by decide)),H.same,hu.own H.who (λk hk=>no (Ty.own H.who hk) (by decide)),hu.own H.log (λk hk=>no (Ty.own H.log hk) (by decide))⟩
theorem bV.box(hu:bA (λk=>k=p.xb\/p.xv.ownBlock=aC k) w w') {xv':aN} {MT:List Bd}(hb:jD w' p.xb p.xc xv' MT):bV w' db {p with xv:=xv'} {D with bx:=MT}:=by
 have no:∀ {T:List bZ} {k:Nat},Ty w T k->(∀t∈T,t∉TX)->¬(k=p.xb\/p.xv.ownBlock=aC k):=λhk hd hs=>hk.apart (H.bx.ty hs) hd
 exact⟨(hu.keep db H.lt (no H.ty (by decide))).trans H.blk,H.cf.upd hu (λk hk=>no hk (by decide)),H.vt.upd hu (λk hk=>no (H.vt.ty hk) (by decide)),H.sh.upd hu (λk hk=>no hk (by decide)),hb,H.CN.upd hu (λk hk=>no hk (by decide)),H.same,hu.own H.who (λk hk=>no (Ty.own H.who hk) (by decide)),hu.own H.log (λk hk=>no (Ty.own H.log hk) (by decide))⟩
theorem bV.Pz(i:Nat)(u:aN) {p':Dp} {D':Dk}(hc:(VS p D).setIfInBounds i u=VS p' D')(hx:D'.x=D.x)(hl:D'.l=D.l)(hh:D'.h=D.h)(ho:D'.ob=D.ob)(hb:D'.bx=D.bx)(hp:p'.vb=p.vb/\p'.vp=p.vp/\p'.sb=p.sb/\p'.sv=p.sv/\p'.xb=p.xb/\p'.xc=p.xc/\p'.xv=p.xv)(hw:w.ownsRow 0 3 1 p'.wv (aA D'.who) (D'.who.map (aG aF)))(hg:w.ownsRow 0 45 5 p'.lv (aA D'.log) (qP D'.log)):bV (w.setCell ⟨db,i,aB⟩ u) db p' D':=by
 have hu:=(bA.refl (λk=>k=db) w).setCell (p:=⟨db,i,aB⟩) (.inl rfl) u;have no:∀ {T:List bZ} {k:Nat},Ty w T k->(∀t∈T,t∉ [90])->¬k=db:=λhk hd hs=>hk.apart (hs▸H.ty) hd
 obtain⟨h1,h2,h3,h4,h5,h6,h7⟩:=hp;refine⟨?_, ?_, ?_, ?_, ?_, ?_, ?_,hu.own hw (λk hk=>no (Ty.own hw hk) (by decide)),hu.own hg (λk hk=>no (Ty.own hg hk) (by decide))⟩
 ·rw [lz H.blk i u,hc]
 ·rw [hx];exact H.cf.upd hu (λk hk=>no hk (by decide))
 ·rw [h1,h2,hx,hl,hh];exact H.vt.upd hu (λk hk=>no (H.vt.ty hk) (by decide))
 ·rw [h3,h4,ho];exact H.sh.upd hu (λk hk=>no hk (by decide))
 ·rw [h5,h6,h7,hb];exact H.bx.upd hu (λk hk=>no hk (by decide))
 ·rw [h6];exact H.CN.upd hu (λk hk=>no hk (by decide))
 rw [h6,hx];exact H.same
theorem bV.td {k:Nat}(hk:eW db p k):k<w.heap.size:=by
 rcases hk with rfl|e|(rfl|e)|(rfl|e)|e|e
 ·exact H.lt
 ·exact H.vt.aCj _ e
 ·exact H.sh.lt
 ·exact(H.sh.own.lt k e).2
 ·exact H.bx.lt
 ·exact(H.bx.own.lt k e).2
 ·exact(H.who.lt k e).2
 exact(H.log.lt k e).2
theorem bV.told(hg:w.grownBy w' p.lv.ownBlock) {yo:aN} {XY:List Ev}(ho:w'.ownsRow 0 45 5 yo (aA XY) (qP XY)):bV (w'.setCell ⟨db,15,aB⟩ yo) db {p with lv:=yo} {D with log:=XY}:=by
 have xU:=gS H.log H.blk (by decide);have hb1:=(hg.block db H.lt (λe=>xU e.symm)).trans H.blk;have hu:bA (λk=>k=db\/p.lv.ownBlock=aC k) w (w'.setCell ⟨db,15,aB⟩ yo):=(bA.Iy hg (λk hk=> .inl (.inr hk))).setCell (p:=⟨db,15,aB⟩) (.inl (.inl rfl)) _;have tyS:∀k,(k=db\/p.lv.ownBlock=aC k)->Ty w [90,45] k:=λk hk=>by
  rcases hk with rfl|e
  ·exact H.ty.mono (by decide)
  exact(Ty.own H.log e).mono (by decide)
 have no:∀ {T:List bZ} {k:Nat},Ty w T k->(∀t∈T,t∉ [90,45])->¬(k=db\/p.lv.ownBlock=aC k):=λhk hd hs=>hk.apart (tyS _ hs) hd
 exact⟨(lz hb1 15 yo).trans rfl,H.cf.upd hu (λk hk=>no hk (by decide)),H.vt.upd hu (λk hk=>no (H.vt.ty hk) (by decide)),H.sh.upd hu (λk hk=>no hk (by decide)),H.bx.upd hu (λk hk=>no hk (by decide)),H.CN.upd hu (λk hk=>no hk (by decide)),H.same,hu.own H.who (λk hk=>no (Ty.own H.who hk) (by decide)),kP ho (gS ho hb1 (by decide)) _⟩
end
def aq(db:Nat)(p:Dp)(D':Dk)(w w':aJ):Prop:=
 ∃p',bV w' db p' D'/\p'.vb=p.vb/\p'.sb=p.sb/\p'.xb=p.xb/\p'.xc=p.xc/\bA (eW db p) w w'/\∀k,eW db p' k->eW db p k\/w.heap.size<=k
theorem aq.refl {db:Nat} {p:Dp} {D:Dk} {w:aJ}(H:bV w db p D):aq db p D w w:=⟨p,H,rfl,rfl,rfl,rfl,bA.refl _ _,λ_ h=> .inl h⟩
theorem aq.bY {db:Nat} {p:Dp} {D:Dk} {w w':aJ}(H:bV w db p D)(hb:aa w.heap.size w w'):aq db p D w w':=⟨p,H.below hb,rfl,rfl,rfl,rfl,bA.bY _ hb,λ_ h=> .inl h⟩
theorem aq.trans {db:Nat} {p p1:Dp} {D2:Dk} {w w1 w2:aJ}(hu:bA (eW db p) w w1)(hs:∀k,eW db p1 k->eW db p k\/w.heap.size<=k)(hp:p1.vb=p.vb/\p1.sb=p.sb/\p1.xb=p.xb/\p1.xc=p.xc)(h2:aq db p1 D2 w1 w2):aq db p D2 w w2:=by obtain⟨p2,H2,e1,e2,e3,e4,vy,hs2⟩:=h2;exact⟨p2,H2,e1.trans hp.1,e2.trans hp.2.1,e3.trans hp.2.2.1,e4.trans hp.2.2.2,hu.trans vy hs,λk hk=>(hs2 k hk).elim (hs k) (λh=> .inr (bz hu.size h))⟩
theorem aq.below {db:Nat} {p:Dp} {D:Dk} {w w1 w2:aJ}(h:aq db p D w w1)(hb:aa w1.heap.size w1 w2):aq db p D w w2:=by obtain⟨p1,H,e1,e2,e3,e4,hu,hs⟩:=h;exact⟨p1,H.below hb,e1,e2,e3,e4,hu.below hb,hs⟩
end
structure Dw where
 k:Int
 m:Int
 n:Int
deriving DecidableEq
def Dw.cells(x:Dw):List aN:= [aG aF x.k,aG aF x.m,aG aF x.n]
def gW(l:List Dw):List aN:=l.flatMap Dw.cells
theorem QB {w:aJ} {B:Nat} {A:Option ai} {l:List Dw}(h:aW w B A (gW l)) {k:Nat}(hk:k<aA l):
 ∃b o,A=aC ⟨b,o,aB⟩/\b<B/\w.cell? ⟨b,o+k*3,aB⟩=aC (ν l[k].k)/\w.cell? ⟨b,o+k*3+1,aB⟩=aC (ν l[k].m)/\w.cell? ⟨b,o+k*3+2,aB⟩=aC (ν l[k].n):=by
 obtain⟨b,o,e,hb,hc⟩:=h.run (i:=k*3) (y:=ν l[k].k) (t:= [ν l[k].m,ν l[k].n]) (λj u hu=>tT Dw.cells 3 (λ_=>rfl) l k hk j u hu);exact⟨b,o,e,hb,hc 0 _ rfl,hc 1 _ rfl,hc 2 _ rfl⟩
theorem VX(x:Dw):∀u∈x.cells,u.oneCell'=aO:=by intro u hu;simp [Dw.cells] at hu;rcases hu with rfl|rfl|rfl<;>rfl
theorem a2x(l:List Dw)(x:Dw):gW (l++ [x])=gW l++x.cells:=by simp [gW]
theorem QC:(aM.info? 196).map (λi=>(i.zero,i.size,i.bytes))=aC (aC (bP #[aG aF 0,aG aF 0,aG aF 0]),3,24):=by kernel_rfl
theorem a2X(zs:List Int)(A:Option ai)(c:Nat)(m:Int)(w:aJ)(h:aW w w.heap.size A (zs.map (aG aF)))(hl:aA zs<=1000000):
 aQ aM 101 #[aH A (aA zs) c,ν m] w λe w'=>e=aT (bK (zs.contains m))/\w=w':=by
 rcases Nat.eq_zero_or_pos (aA zs) with h0|h0
 ·have hz:=nU h0;subst hz;refine(slices_Contains_int_empty A c m _).mono ?_;rintro e w1 ⟨rfl,hw⟩;exact⟨rfl,hw.symm⟩
 obtain⟨b,o,rfl,hb,_⟩:=tZ h h0;refine(slices_Contains_int b o (aA zs) c zs m _ (aZ _) (by omega) (YH h)).mono ?_;rintro e w1 ⟨rfl,hw⟩;exact⟨by rw [cU],hw.symm⟩
theorem Pp(k m n:Int)(w:aJ):
 aQ aM 222 #[ν k,ν m,ν n] w λe w'=>e=aT (aH (aC ⟨w.heap.size,0,aB⟩) 1 1)/\w.alloc (aK #[ν k,ν m,ν n] 196)=w':=by
 go_enter func222,ntmps222
 go_wp2
 go_ret;exact⟨rfl,rfl⟩
def cd(L:List Dw):Int:=(L.map λx=>max x.n 0).sum
def sU(L:List Dw):Int:=if cd L<=9223372036854775807 then cd L else 9223372036854775807
theorem a8M {L:List Dw} {k:Nat}(hk:k<aA L):cd (L.take (k+1))=cd (L.take k)+max L[k].n 0:=by unfold cd;rw [fH hk,dh,D6];simp
theorem JD(L:List Dw):0<=cd L:=by
 unfold cd;induction L with
 |nil=>simp
 |cons x L ih=>simp only [yS,Ej];omega
theorem aLW(L:List Dw)(k:Nat):cd (L.take k)<=cd L:=by
 have h:cd L=cd (L.take k)+cd (L.drop k):=by unfold cd;rw [<-D6,<-dh,List.take_append_drop]
 have:=JD (L.drop k);omega
theorem aLX {L:List Dw} {k:Nat}(hk:k<aA L)(h:9223372036854775807-cd (L.take k)<L[k].n):sU L=9223372036854775807:=by have h1:=a8M hk;have h2:=aLW L (k+1);unfold sU;rw [ifN];omega
theorem Sj {L:List Dw}(h:cd L<=9223372036854775807):sU L=cd L:=by unfold sU;rw [ifP h]
theorem a8N(L:List Dw)(A:Option ai)(c:Nat)(w:aJ)(hs:aW w w.heap.size A (gW L))(hI:∀x∈L,aL x.n)(hl:aA L<=100000):
 aQ aM 186 #[aH A (aA L) c] w λe w'=>e=aT (ν (sU L))/\β w w':=by
 have HS:=η hs;have HI:=η hI;go_enter func186,ntmps186
 go_wp2
 go_loopw [3,8] (λn i wr=>∃k:Nat,∃s:Int,k<=aA L/\i=ν k/\n=ν s/\Hid (s=cd (L.take k))/\0<=s/\s<=9223372036854775807/\Hid (β w wr)) (λ_ i _=>aA L-(ag i).toNat)
 ·exact⟨0,0,bM _,rfl,rfl,rfl,by omega,by omega,aX _ _⟩
 ·
  obtain⟨k,s,hk,rfl,rfl,HT,h0,h1,HB⟩:=hrel;have hsz:=HB.o.size;by_cases hlt:k<aA L
  ·obtain⟨b,o,rfl,hb,d0,d1,d2⟩:=QB (HS.o.below HB) hlt;have aR:Hid (∀v,β w (wr.alloc v)):=η λv=>HB.o.alloc hsz v
   have hn:=HI.o _ (cK hlt);unfold aL at hn;have cG:=η (a8M hlt);have JN:Hid (9223372036854775807-s<L[k].n->sU L=9223372036854775807):=η λh=>aLX hlt (by rw [<-HT.o];exact h)
   generalize L[k].n=x at*;by_cases l7:9223372036854775807-s<x
   ·have HV:=η (JN l7);go_wp2
    go_ret;exact⟨cW HV.o.symm,aR _⟩
   have bQ:=decide_eq_false l7;have Ec:Hid (s+max x 0=cd (L.take (k+1))):=η (by rw [cG.o,HT.o]);have yj:=sr _ (by omega);by_cases hx:x<=0
   ·have hm:max x 0=0:=by omega
    rw [hm,Int.add_zero] at Ec;go_wp2
    go_roundw
    ·exact⟨k+1,s,by omega,by go_num,rfl,Ec,h0,h1,η (aR _)⟩
    simp [ag];omega
   have hm:max x 0=x:=by omega
   rw [hm] at Ec;have hw2:=sr _ (by omega);go_wp2
   go_roundw
   ·exact⟨k+1,s+x,by omega,by go_num,rfl,Ec,by omega,by omega,η (aR _)⟩
   simp [ag];omega
  obtain rfl:k=aA L:=by omega
  have HV:Hid (s=sU L):=η (by have:=HT.o;rw [cU] at this;rw [this,Sj (by omega)]);go_wp2
  go_ret;exact⟨cW HV,HB⟩
structure DkC(W:aJ)(db:Nat)(p:Dp)(D:Dk):Prop where
 c0:W.cell? ⟨db,0,aB⟩=aC (aH D.x.Am (aA D.x.ms) D.x.cm)
 c1:W.cell? ⟨db,1,aB⟩=aC (aH D.x.As (aA D.x.ss) D.x.cs)
 c2:W.cell? ⟨db,2,aB⟩=aC (aH D.x.Ac (aA D.x.cy) D.x.cc)
 c3:W.cell? ⟨db,3,aB⟩=aC (ν D.x.line)
 c4:W.cell? ⟨db,4,aB⟩=aC (ν D.x.bW)
 c5:W.cell? ⟨db,5,aB⟩=aC (ν D.x.lead)
 c6:W.cell? ⟨db,6,aB⟩=aC (ν D.x.tr)
 c7:W.cell? ⟨db,7,aB⟩=aC (ν D.x.bT)
 c8:W.cell? ⟨db,8,aB⟩=aC (π p.vb)
 c9:W.cell? ⟨db,9,aB⟩=aC (π p.sb)
 c10:W.cell? ⟨db,10,aB⟩=aC (π p.xb)
 c11:W.cell? ⟨db,11,aB⟩=aC (p.wv)
 c12:W.cell? ⟨db,12,aB⟩=aC (ν D.aj)
 c13:W.cell? ⟨db,13,aB⟩=aC (ν D.st)
 c14:W.cell? ⟨db,14,aB⟩=aC (bK D.en)
 c15:W.cell? ⟨db,15,aB⟩=aC (p.lv)
theorem bV.cells {w:aJ} {db:Nat} {p:Dp} {D:Dk}(H:bV w db p D):DkC w db p D:=
 ⟨ρ H.blk,ρ H.blk,ρ H.blk,ρ H.blk,ρ H.blk,ρ H.blk,ρ H.blk,ρ H.blk,ρ H.blk,ρ H.blk,ρ H.blk,ρ H.blk,ρ H.blk,ρ H.blk,ρ H.blk,ρ H.blk⟩
theorem zq(db:Nat)(p:Dp)(D:Dk)(k m a:Int)(w:aJ)(H:bV w db p D)(hk:aL k)(hm:aL m):
 aQ aM 46 #[π db,bP #[ν k,ν m],ν a] w λe w'=>e=aT (ν (balA (aA D.x.ms) (aA D.x.ss+1) D.l k m a))/\β w w':=by
 have aY:Hid (β w (w.alloc (aK #[ν k,ν m] 51))):=η σ;have cu:Hid ((w.alloc (aK #[ν k,ν m] 51)).heap[w.heap.size]? =aC (aK #[ν k,ν m] 51 (0,0))):=η (cQ w _);have hz0:w.heap.size<(w.alloc (aK #[ν k,ν m] 51)).heap.size:=by simp
 have Lq:=η (λW (hW:β w W)=>(H.below hW).cells.c8);have Lu:=η (λW (hW:β w W)=>Yj p.vb p.vp (aA D.x.ms) (aA D.x.ss+1) (aA D.x.ms) D.l D.h k m a W (H.below hW).vt hk hm);generalize balA (aA D.x.ms) (aA D.x.ss+1) D.l k m a=bv at*;generalize nN (plcA (aA D.x.ms) (aA D.x.ss+1) k m a)=be at*;go_enter func46,ntmps46
 go_upto_region 1 with (fail)
 generalize w.alloc (aK #[ν k,ν m] 51)=w1 at*;obtain⟨bx,bU⟩:∃bx,bx=w.heap.size:=⟨_,rfl⟩;rw [<-bU] at cu hz0 ⊢;clear bU;have bJ:Hid (∀W,β w1 W->W.cell? ⟨db,8,aB⟩=aC (π p.vb)/\W.cell? ⟨bx,0,aB⟩=aC (ν k)/\W.cell? ⟨bx,1,aB⟩=aC (ν m)):=η (by intro W hW;have hd:=(hW.block bx hz0).trans cu.o;exact⟨Lq.o W (aY.o.trans (hW.mono aY.o.size)),ρ hd,ρ hd⟩);have eJ:Hid (∀W,β w1 W->β w W):=η (λW hW=>aY.o.trans (hW.mono aY.o.size));have bQ:β w1 w1.drew:=(aX _ _).drew;go_region_held3 (λW=>W.cell? ⟨db,8,aB⟩=aC (π p.vb)/\W.cell? ⟨bx,0,aB⟩=aC (ν k)/\W.cell? ⟨bx,1,aB⟩=aC (ν m)) (first|(with_reducible exact bJ.o _ bQ)|(with_reducible exact bJ.o _ hb2)|(with_reducible exact bJ.o _ hb3)) ((go_at_call 41;refine(Lu.o _ (eJ.o _ bQ)).mono ?_;rintro e w2 ⟨rfl,vh⟩;have hb2:β w1 w2:=bQ.trans (vh.mono bQ.size)))
 have aV:=η (eJ.o _ hb2);clear hb2 vh bQ bJ Lq Lu eJ aY cu;go_wp2_with fail
 go_ret;exact⟨rfl,aV.o⟩
theorem KD(db:Nat)(p:Dp)(D:Dk)(s:Int)(A:Option ai)(c:Nat)(w:aJ)(H:bV w db p D)(hs:aW w w.heap.size A [aG aF s]):
 aQ aM 51 #[π db,aH A 1 c] w λe w'=>e=aT (ν (if D.st=s then 0 else 11))/\β w w':=by
 have c13:=H.cells.c13;have yC:=η (a2X [s] A c D.st w hs (by simp));generalize D.st=st at*;by_cases h:st=s
 ·have hq:([s]:List Int).contains st=aO:=by simp [h]
  rw [hq] at yC;rw [ifP h];clear h hq;go_enter aBC,aBy
  go_wp2_with (go_at_call 101;refine yC.o.mono ?_;rintro e w2 ⟨rfl,rfl⟩)
  go_ret;exact⟨rfl,aX _ _⟩
 have hq:([s]:List Int).contains st=aP:=by simp [h]
 rw [hq] at yC;rw [ifN h];go_enter aBC,aBy
 go_wp2_with (go_at_call 101;refine yC.o.mono ?_;rintro e w2 ⟨rfl,rfl⟩)
 go_ret;exact⟨rfl,aX _ _⟩
theorem aHJ:(aM.info? 45).map (λi=>(i.zero,i.size,i.bytes))=aC (aC (bP #[aG aF 0,aG aF 0,aG aF 0,aG aF 0,aG aF 0]),5,40):=by kernel_rfl
theorem xP(db:Nat)(p:Dp)(D:Dk)(xs:List Ev)(b c:Nat)(w:aJ)(H:bV w db p D)(hb:∀j u,(qP xs)[j]? =aC u->w.cell? ((⟨b,0,aB⟩:ai).add j)=aC u)(hx1:1<=aA xs)(hx:aA xs<=100000)(hl:aA D.log<=1000000):
 aQ aM 55 #[π db,aH (aC ⟨b,0,aB⟩) (aA xs) c] w λe w'=>e=aT (bC #[])/\aq db p {D with log:=D.log++xs} w w':=by
 obtain⟨A,cl,hv⟩:=bL H.log;have d0:=H.cells.c15;have HO:=η H.log;have xU:=H.lt;have HF:=η H;have HN:=η hb;rw [hv] at d0 HO;obtain⟨i0,bu,hz0,fw,xe⟩:=dP aHJ;go_enter func55,ntmps55
 go_wp2_with (at_builtin;refine wpList_append_lies _ rfl _ _ 35 rfl 0 45 i0 _ 5 40 underlying35 bu hz0 fw xe rfl (by omega) _ _ _ rfl HO.o ⟨b,0,aB⟩ (aA xs) c (qP xs) rfl (a3K xs) HN.o (Vf xs) (by omega) (by simp only [bO];omega) (by omega) (bM _) w.heap.size rfl ?_)
 intro g cap w2 hown hgr hat _;have hb2:=(hgr.block db xU (λe=>gS HF.o.log HF.o.blk (by decide) (by rw [hv];exact e.symm))).trans HF.o.blk;have f15:w2.frozen? ⟨db,15,aB⟩=aP:=by simp [iO,hb2]
 have c15:w2.cell? ⟨db,15,aB⟩=aC p.lv:=ρ hb2;have HG:Hid (w.grownBy w2 p.lv.ownBlock):=η (by rw [hv];exact hgr);have dG:Hid (w2.ownsRow 0 45 5 (aH (aC ⟨g,0,aB⟩) (aA D.log+aA xs) cap) (aA (D.log++xs)) (qP (D.log++xs))):=η (by rw [cN,aFP];exact hown);have OJ:Hid (p.lv.ownBlock=aC g\/g=w.heap.size):=η (by rw [hv];exact hat);clear hown hgr hat hb2 HO HN d0;go_wp2
 go_end0
 refine⟨rfl,_,HF.o.told HG.o dG.o,rfl,rfl,rfl,rfl, ?_, ?_⟩
 ·exact(bA.Iy HG.o (λk hk=> .inl (.inr (.inr (.inr (.inr (.inr hk))))))).setCell (p:=⟨db,15,aB⟩) (.inl (.inl rfl)) _
 rintro k (e|e|e|e|e|e)
 ·exact .inl (.inl e)
 ·exact .inl (.inr (.inl e))
 ·exact .inl (.inr (.inr (.inl e)))
 ·exact .inl (.inr (.inr (.inr (.inl e))))
 ·exact .inl (.inr (.inr (.inr (.inr (.inl e)))))
 have e2:g=k:=by simpa [eF] using e
 rcases OJ.o with h|h
 ·exact .inl (.inr (.inr (.inr (.inr (.inr (by rw [h,e2]))))))
 exact .inr (by omega)
theorem bV.src {w:aJ} {db:Nat} {p:Dp} {D:Dk}(H:bV w db p D):lj w D.x:=H.cf.src.ok
def oW(D:Dk)(m a:Int):Int:=if jd D.x m≠0 then jd D.x m else if a=0 then 0 else jM D.x a
theorem a2v(db:Nat)(p:Dp)(D:Dk)(m a:Int)(w:aJ)(H:bV w db p D)(hm:aL m)(ha:aL a):
 aQ aM 118 #[π db,ν m,ν a] w λe w'=>e=aT (ν (oW D m a))/\β w w':=by
 have HM:=η (Q4 D.x m w H.src hm);have HS:=η (λW (hW:β w W)=>O3 D.x a W (H.below hW).src ha);have HC:=η (λW (hW:β w W)=>(H.below hW).cells);obtain⟨c0,c1,c2,c3,c4,c5,c6,c7,c8,c9,c10,c11,c12,c13,c14,c15⟩:=H.cells;have hE:oW D m a=if jd D.x m≠0 then jd D.x m else if a=0 then 0 else jM D.x a:=rfl
 have HE:=η hE;generalize oW D m a=ee at HE ⊢;unfold ak.val at HM HS;generalize jd D.x m=me at*;generalize uk D.x m=mp at*;generalize jM D.x a=se at*;generalize df D.x a=sp at*;go_enter func118,ntmps118
 go_upto_region 2 with (go_at_call 147;refine HM.o.mono ?_;rintro e w1 ⟨rfl,hb1⟩;have aR:=η hb1)
 have aV:Hid (β w (w1.alloc (aK #[ν mp.a,ν mp.b] 67))):=η (aR.o.alloc aR.o.size _);generalize w1.alloc (aK #[ν mp.a,ν mp.b] 67)=w2 at*;by_cases h1:me=0
 case neg=>
  have hb:(me==0)=aP:=by simpa using h1
  have HF:Hid (me=ee):=η (by rw [HE.o,ifP h1]);clear HE h1;go_wp2_with fail
  go_ret;exact⟨cW HF.o,aV.o⟩
 subst h1;by_cases h2:a=0
 ·subst h2;have HF:Hid (0=ee):=η (by rw [HE.o,ifN (by simp),ifP rfl]);clear HE;go_wp2_with fail
  go_ret;exact⟨cW HF.o,aV.o⟩
 have HF:Hid (se=ee):=η (by rw [HE.o,ifN (by simp),ifN h2]);have hb2:(a==0)=aP:=by simpa using h2
 obtain⟨c0,c1,c2,c3,c4,c5,c6,c7,c8,c9,c10,c11,c12,c13,c14,c15⟩:=HC.o _ aV.o;clear h2 HC HE c8 c9 c10 c11 c12 c13 c14 c15;go_wp2_with (go_at_call 117;refine(HS.o _ aV.o).mono ?_;rintro e w3 ⟨rfl,hb3⟩;have af:=τ aV hb3;clear hb3)
 go_ret;exact⟨cW HF.o,af.o.alloc af.o.size _⟩
def ny(D:Dk)(m n:Int):Int:=if jd D.x m≠0 then jd D.x m else if hasB D.who m=aO then 14 else if n<1 then 1 else 0
theorem a2q(db:Nat)(p:Dp)(D:Dk)(m n:Int)(w:aJ)(H:bV w db p D)(hm:aL m)(hw:aA D.who<=100000):
 aQ aM 85 #[π db,ν m,ν n] w λe w'=>e=aT (ν (ny D m n))/\β w w':=by
 have HM:=η (Q4 D.x m w H.src hm);have HC:=η (λW (hW:β w W)=>(H.below hW).cells.c11);obtain⟨Aw,cw,hv⟩:=bL H.who;have HH:=η (λW (hW:β w W)=>Mw D.who Aw cw m W (by have h1:=(H.below hW).who;rw [hv] at h1;exact aW.cB h1) (by omega));rw [hv] at HC;obtain⟨c0,c1,c2,c3,c4,c5,c6,c7,c8,c9,c10,c11,c12,c13,c14,c15⟩:=H.cells;have hE:ny D m n=if jd D.x m≠0 then jd D.x m else if hasB D.who m=aO then 14 else if n<1 then 1 else 0:=rfl
 have HE:=η hE;generalize ny D m n=ee at HE ⊢;unfold ak.val at HM;generalize jd D.x m=me at*;generalize uk D.x m=mp at*;generalize hasB D.who m=hs at*;go_enter func85,ntmps85
 go_upto_region 4 with (go_at_call 147;refine HM.o.mono ?_;rintro e w1 ⟨rfl,hb1⟩;have aR:=η hb1)
 have aV:Hid (β w (w1.alloc (aK #[ν mp.a,ν mp.b] 67))):=η (aR.o.alloc aR.o.size _);generalize w1.alloc (aK #[ν mp.a,ν mp.b] 67)=w2 at*;by_cases h1:me=0
 case neg=>
  have hb:(me==0)=aP:=by simpa using h1
  have HF:Hid (me=ee):=η (by rw [HE.o,ifP h1]);clear HE h1;go_wp2_with fail
  go_ret;exact⟨cW HF.o,aV.o⟩
 subst h1;have c11:=HC.o _ aV.o;have JX:=η (HH.o _ aV.o);clear HC HH;cases hs with
 |true=>
  have HF:Hid (14=ee):=η (by rw [HE.o,ifN (by simp),ifP rfl]);clear HE;go_wp2_with (go_at_call 89;refine JX.o.mono ?_;rintro e w3 ⟨rfl,rfl⟩)
  go_ret;exact⟨cW HF.o,aV.o⟩
 |false=>
  by_cases h2:n<1
  ·have HF:Hid (1=ee):=η (by rw [HE.o,ifN (by simp),ifN (by simp),ifP h2]);clear HE;go_wp2_with (go_at_call 89;refine JX.o.mono ?_;rintro e w3 ⟨rfl,rfl⟩)
   go_ret;exact⟨cW HF.o,aV.o⟩
  have HF:Hid (0=ee):=η (by rw [HE.o,ifN (by simp),ifN (by simp),ifN h2]);clear HE;go_wp2_with (go_at_call 89;refine JX.o.mono ?_;rintro e w3 ⟨rfl,rfl⟩)
  go_ret;exact⟨cW HF.o,aV.o⟩
theorem a2c(db:Nat)(p:Dp)(D:Dk)(k m a:Int)(w:aJ)(H:bV w db p D)(hk:aL k)(hm:aL m):
 aQ aM 14 #[π db,bP #[ν k,ν m],ν a] w λe w'=>e=aT (bC #[ν (balA (aA D.x.ms) (aA D.x.ss+1) D.l k m a),ν (nN (plcA (aA D.x.ms) (aA D.x.ss+1) k m a))])/\β w w':=by
 have aY:Hid (β w (w.alloc (aK #[ν k,ν m] 51))):=η σ;have cu:Hid ((w.alloc (aK #[ν k,ν m] 51)).heap[w.heap.size]? =aC (aK #[ν k,ν m] 51 (0,0))):=η (cQ w _);have hz0:w.heap.size<(w.alloc (aK #[ν k,ν m] 51)).heap.size:=by simp
 have Lq:=η (λW (hW:β w W)=>(H.below hW).cells.c8);have Lu:=η (λW (hW:β w W)=>Yj p.vb p.vp (aA D.x.ms) (aA D.x.ss+1) (aA D.x.ms) D.l D.h k m a W (H.below hW).vt hk hm);generalize balA (aA D.x.ms) (aA D.x.ss+1) D.l k m a=bv at*;generalize nN (plcA (aA D.x.ms) (aA D.x.ss+1) k m a)=be at*;go_enter func14,ntmps14
 go_upto_region 3 with (fail)
 generalize w.alloc (aK #[ν k,ν m] 51)=w1 at*;obtain⟨bx,bU⟩:∃bx,bx=w.heap.size:=⟨_,rfl⟩;rw [<-bU] at cu hz0 ⊢;clear bU;have bJ:Hid (∀W,β w1 W->W.cell? ⟨db,8,aB⟩=aC (π p.vb)/\W.cell? ⟨bx,0,aB⟩=aC (ν k)/\W.cell? ⟨bx,1,aB⟩=aC (ν m)):=η (by intro W hW;have hd:=(hW.block bx hz0).trans cu.o;exact⟨Lq.o W (aY.o.trans (hW.mono aY.o.size)),ρ hd,ρ hd⟩);have eJ:Hid (∀W,β w1 W->β w W):=η (λW hW=>aY.o.trans (hW.mono aY.o.size));have bQ:β w1 w1.drew:=(aX _ _).drew;go_region_held3 (λW=>W.cell? ⟨db,8,aB⟩=aC (π p.vb)/\W.cell? ⟨bx,0,aB⟩=aC (ν k)/\W.cell? ⟨bx,1,aB⟩=aC (ν m)) (first|(with_reducible exact bJ.o _ bQ)|(with_reducible exact bJ.o _ hb2)|(with_reducible exact bJ.o _ hb3)) ((go_at_call 41;refine(Lu.o _ (eJ.o _ bQ)).mono ?_;rintro e w2 ⟨rfl,vh⟩;have hb2:β w1 w2:=bQ.trans (vh.mono bQ.size)))
 have aV:=η (eJ.o _ hb2);clear hb2 vh bQ bJ Lq Lu eJ aY cu;go_wp2_with fail
 go_ret2;exact⟨rfl,aV.o⟩
def CK(D:Dk)(m:Int):Int:=if plcA (aA D.x.ms) (aA D.x.ss+1) 8 m 0=aB then 0 else gU (balA (aA D.x.ms) (aA D.x.ss+1) D.l 8 m 0-iR D.h 8 m 0)
theorem aEr(db:Nat)(p:Dp)(D:Dk)(m:Int)(w:aJ)(H:bV w db p D)(hm:aL m)(vq:∀y∈D.l,aL y)(hl:aA D.h<=100000):
 aQ aM 56 #[π db,ν m] w λe w'=>e=aT (ν (CK D m))/\β w w':=by
 have HU:=η (λW (hW:β w W)=>a8X p.vb p.vp (aA D.x.ms) (aA D.x.ss+1) (aA D.x.ms) D.l D.h 8 m 0 W (H.below hW).vt (by decide) hm vq hl);have B4:=η (λW=>zj m W);have hE:CK D m=if plcA (aA D.x.ms) (aA D.x.ss+1) 8 m 0=aB then 0 else gU (balA (aA D.x.ms) (aA D.x.ss+1) D.l 8 m 0-iR D.h 8 m 0):=rfl
 rw [hE];generalize (if plcA (aA D.x.ms) (aA D.x.ss+1) 8 m 0=aB then 0 else gU (balA (aA D.x.ms) (aA D.x.ss+1) D.l 8 m 0-iR D.h 8 m 0))=uv at*;generalize (if plcA (aA D.x.ms) (aA D.x.ss+1) 8 m 0=aB then 8 else dR (balA (aA D.x.ms) (aA D.x.ss+1) D.l 8 m 0-iR D.h 8 m 0))=ue at*;have xU:=H.lt;have c8:=H.cells.c8;go_enter func56,ntmps56
 go_upto_region 3 with (fail)
 have yf:=λ(n:sV w.heap.size w) (b o:Nat) (hb:b<w.heap.size)=>n.cells b o hb
 refine Ss w.heap.size (by kernel_rfl) (by kernel_rfl) ?_;repeat (go_big_quiet_step (first|(go_at_call 47;(with_reducible exact Calls.MQ (aZ _) (B4.o _)))|(go_at_call 111;(with_reducible exact Calls.MQ (aZ _) (HU.o _ (sV.h _))))))
 refine wpQuiet_nil ?_;intro _ hw';obtain⟨nq,hw''⟩:=hw';subst hw'';have HN:=η nq.h;generalize nq.wd=w5 at*;go_wp2
 go_ret;exact⟨rfl,HN.o⟩
theorem aEn(db:Nat)(p:Dp)(D:Dk)(w:aJ)(H:bV w db p D)(hl:aA D.log<=100000):
 aQ aM 11 #[π db] w (pg 45 5 (aA D.log) (qP D.log) w):=by
 have HT:=η (aE3 (aA D.log) (qP D.log) p.lv 0 w H.log (Vf _) hl);have c15:=H.cells.c15;obtain⟨A,c,hv⟩:=bL H.log;rw [hv] at HT c15;go_enter func11,ntmps11
 go_wp2_with (go_at_call 34;refine HT.o.mono ?_;rintro e w1 ⟨v1,rfl,eT,hb1⟩;have cF:=η eT;have aR:=η hb1)
 go_ret;exact⟨v1,rfl,cF,aR⟩
end Go.Proofs.YtdokipdchlcmeaaGreat
