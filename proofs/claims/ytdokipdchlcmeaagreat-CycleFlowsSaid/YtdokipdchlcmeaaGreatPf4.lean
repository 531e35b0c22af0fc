/-
  Several texts in one, for one claim (printed by pack.py).
-/
import Derived.Test.YtdokipdchlcmeaaGreatPf3
import Derived.Laws.EntriesVeiled
import Derived.Shelf.Spec.SlicesGrow
import Derived.Laws.AppendOwnNone
import Derived.LoopN
import Derived.Lib.SlKeysI
set_option linter.all false
set_option maxRecDepth 100000
set_option maxHeartbeats 12800000
open Array renaming getElem?_eq_some_iff→fY
open Bool renaming true→aO,false→aP,and_eq_true→ji,false_eq_true→Yy
open Go renaming World→aJ,Value→aN,Calls→aQ,Addr→ai,cell_of_row→bH,maxLen→bO,TypeId→bZ,heap_alloc_new→cQ,info_parts→dP,Ending→dX,rounds_succ→eI,wpList_append_own→jC,callsIn_wide→tH,wp_loop_rounds→ux,grownCap→xR,step_append_lies→Ad
open Go.Builtin renaming zeroCells→EH
open Go.Ending renaming returned→aT
open Go.Fence renaming wide→LF
open Go.Instr renaming mapUpdate→Ef,mapEntry→Ge,makeSlice→PB
open Go.IntKind renaming i64→aF,wrap_i64→fh,wrap_u64→vM
open Go.IntWalk renaming i64_in→sr
open Go.MapKept renaming run_getObj_map→BP,run_setObj_map→Gj
open Go.Maps renaming keyOf_int_mk→a8v
open Go.Obj renaming cells→aK
open Go.Proofs renaming intOf→ag
open Go.Proofs.Lays8 renaming n4→Z8
open Go.Proofs.Tryz renaming prog→aM,underlying53→mX,underlying39→tG,underlying3→xF,underlying46→yU,underlying4→BQ,isAgg3→DC,isAgg4→DD,sizeOf3→DF,sizeOf4→DG,zeroValue3→DI,zeroValue4→DJ,isAgg0→Gx,sizeOf0→Ha,underlying0→Hb,zeroValue0→Hf,func86→ME,isAgg46→MF,ntmps86→MG,sizeOf46→MH,zeroValue46→MI,isAgg9→PX,sizeOf9→PZ,underlying9→Pc,zeroValue9→Pf,func199→Ui,ntmps199→Up,func117→a0Z,func131→a0b,func197→a0g,func229→a0i,isAgg20→a0p,ntmps117→a0t,ntmps131→a0v,ntmps197→a1A,ntmps229→a1C,results117→a1K,sizeOf20→a1M,underlying20→a1R,zeroValue20→a1U,func111→aAf,func129→aAk,func159→aAq,func188→aAv,func200→aAy,func204→aAz,func259→aB2,func260→aB3,func99→aBO,ntmps111→aBS,ntmps129→aBX,ntmps159→aBd,ntmps188→aBi,ntmps200→aBl,ntmps204→aBm,ntmps259→aBp,ntmps260→aBq,ntmps99→aCB
open Go.Region renaming wanted→Jz
open Go.Result renaming andThen→uU
open Go.RowKit renaming Below→aa,wrap64→fV
open Go.RowKit.Below renaming refl→aX,heap_setCell→nR,alloc→rK,setCell→EF
open Go.Shelf renaming Ren→zB
open Go.Value renaming int→aG,slice→aH,tuple→bC,pointer→bD,bool→bK,agg→bP,ownBlock→eF
open Go.WideElems renaming rg→Pg,rd→aCP,Fit→aMR
open Go.WideShapes renaming sorted_perm→aMS
open Go.World renaming ownsRow_nil→gG,cell?_of_block→gu,frozen?→iO,ownsRow→kF,size_alloc→DK
open Int renaming le_refl→dM
open List renaming length→aA,getElem_mem→cK,length_append→cN,take_length→cU,range→dQ,map_append→dh,mem_map→di,mem_cons_of_mem→dx,mem_cons→fG,take_succ_eq_append_getElem→fH,mem_append→gN,replicate→gP,getElem?_eq_getElem→iG,length_map→iX,mem_filter→jG,any_eq_true→kE,zipWith→kV,pairwise_cons→kp,eq_nil_of_length_eq_zero→nU,mem_range→nV,take_zero→nW,mem_cons_self→pG,length_filter_le→qo,getD_eq_getElem?_getD→tC,mem_iff_getElem→tD,length_cons→uS,length_singleton→uT,length_take→vN,mem_append_left→vP,pairwise_iff_getElem→vQ,flatMap_cons→xB,getElem_map→xC,length_set→xD,any_eq_false→zT,mem_of_getElem?→zV,pairwise_map→BO,foldl_cons→D3,length_nil→Eh,length_zipWith→Ei,zipWith_cons_cons→Ek,mem_append_right→Gh,nil_append→Gi,map_congr_left→Jv,map_map→M5,getElem_replicate→PG,mergeSort_perm→a0K,mem_map_of_mem→aA8
open Nat renaming le_refl→aZ,zero_le→bM,le_trans→bz,lt_of_lt_of_le→cL,mul_le_mul→yT,add_mul→Gm,add_zero→Gp
open Option renaming none→aB,some→aC
open Option.some renaming inj→pH
open Or renaming inl→aS,inr→aU
namespace Go.Proofs.YtdokipdchlcmeaaGreat
open Go.Proofs.Tryz Go.RowKit
section
open Go.Maps Go.MapKept Go.ChangeMaps
theorem aKk:(aM.info? 53).map (λi=>(i.zero,i.size,i.bytes))=aC (aC (aH aB 0 0),1,24):=by kernel_rfl
theorem aKu:(aM.info? 289).map (λi=>(i.zero,i.size,i.bytes))=aC (aC (bP #[aG aF 0,aG aF 0,aG aF 0]),3,24):=by kernel_rfl
theorem aHu(W:aJ):(PB 235 (aG aF 9) (aG aF 9)).run aM W= .ok (aH (aC ⟨W.heap.size,0,aB⟩) 9 9) (W.alloc (aK #[aH aB 0 0,aH aB 0 0,aH aB 0 0,aH aB 0 0,aH aB 0 0,aH aB 0 0,aH aB 0 0,aH aB 0 0,aH aB 0 0] 53)):=by
 obtain⟨i0,hi,hz0,hz1,hz2⟩:=dP aKk;have h:=run_makeSlice (P:=aM) W 235 53 i0 _ underlying235 hi hz0 aF aF 9 9 (by omega) (dM _) (by rw [hz1];simp) (by rw [hz2];simp) (by omega);rw [hz1] at h;have hm:madeCells (aH aB 0 0).cells (Int.toNat 9*1)= #[aH aB 0 0,aH aB 0 0,aH aB 0 0,aH aB 0 0,aH aB 0 0,aH aB 0 0,aH aB 0 0,aH aB 0 0,aH aB 0 0]:=by kernel_rfl
 rw [hm] at h;exact h
def ZB(w:aJ)(l:List En)(e:dX)(W':aJ):Prop:=
 ∃base b ab cf ov,e=aT (bC #[.map (aC b),aH (aC ⟨ab,0,aB⟩) 9 9,ov])/\lM w base b ab cf ov (gthF l) (dE l) W'
theorem IA {w W:aJ}(h:aa w.heap.size w W)(r:Option Nat):w.grownBy W r:=⟨h.os,h.tape,h.output,h.size,λk hk _=>h.block k hk⟩
theorem F6 {w W W':aJ} {r r':Option Nat}(h:w.grownBy W r)(h':W.grownBy W' r')(hr:r'=r\/∀g,r'=aC g->w.heap.size<=g):w.grownBy W' r:=by
 refine⟨h'.os.trans h.os,h'.tape.trans h.tape,h'.output.trans h.output,bz h.size h'.size,λk hk hne=> ?_⟩;rw [h'.block k (cL hk h.size) ?_,h.block k hk hne];rcases hr with rfl|hr
 ·exact hne
 intro e;have:=hr k e.symm;omega
theorem QO {w W:aJ} {r:Option Nat}(h:w.grownBy W r)(o:Obj):w.grownBy (W.alloc o) r:=F6 h (IA ((aX _ _).alloc (aZ _) o) r) (.inl rfl)
theorem aFv(l:List En)(A:Option ai)(c:Nat)(w:aJ)(hs:aW w w.heap.size A (qy l))(hI:∀x∈l,x.ok)(ha:∀x∈l,0<=x.a/\x.a<=8)(hl:aA l<=1024):
 aQ aM 206 #[aH A (aA l) c] w (ZB w l):=by
 have HS:=η hs;have HI:=η hI;have HA:=η ha;clear hs hI ha;have mZ:= @run_makeMap aM;have AL:=aHu (w.alloc (.map #[] 0));have HST:Hid (lM w (w.heap.size+2) w.heap.size (w.heap.size+1) (λ_=>aH aB 0 0) (aH aB 0 0) (gthF (l.take 0)) (dE (l.take 0)) ((w.alloc (.map #[] 0)).alloc (aK #[aH aB 0 0,aH aB 0 0,aH aB 0 0,aH aB 0 0,aH aB 0 0,aH aB 0 0,aH aB 0 0,aH aB 0 0,aH aB 0 0] 53))):=η (by
  refine⟨⟨[],(ei.made _ _ _ _).alloc _,λq=>rfl,λp hp=>by cases hp⟩,⟨#[],0,(fL _ _ (by simp)).trans (cQ w _),stamped_empty 0⟩, ?_, ?_,gG _ _ _ _,⟨by omega,by omega,by omega,by omega,by omega,by simp⟩,σ.alloc (by simp) _⟩
  ·have:=cQ (w.alloc (.map #[] 0)) (aK #[aH aB 0 0,aH aB 0 0,aH aB 0 0,aH aB 0 0,aH aB 0 0,aH aB 0 0,aH aB 0 0,aH aB 0 0,aH aB 0 0] 53);rw [DK] at this;exact this
  rw [nW,aGA];exact uF.made _ _)
 go_enter func206,ntmps206
 go_wp2_with fail
 rw [DK] at*;generalize (w.alloc (.map #[] 0)).alloc (aK #[aH aB 0 0,aH aB 0 0,aH aB 0 0,aH aB 0 0,aH aB 0 0,aH aB 0 0,aH aB 0 0,aH aB 0 0,aH aB 0 0] 53)=w1 at*;go_loopw [7,9,10,15] (λov _ _ i wr=>∃(k:Nat) (cf:Ix->aN),k<=aA l/\i=ν (k:Int)/\Hid (lM w (w.heap.size+2) w.heap.size (w.heap.size+1) cf ov (gthF (l.take k)) (dE (l.take k)) wr)) (λ_ _ _ i _=>aA l-(ag i).toNat)
 case atStart=>exact⟨0,_,bM _,rfl,HST⟩
 case round=>
  clear HST AL;obtain⟨k,cf,hk,rfl,HG⟩:=hrel;obtain⟨Ao,co,NH⟩:=bL HG.o.ord;subst NH;by_cases hlt:k<aA l
  ·obtain⟨be,oe,rfl,kY,e0,e1,e2,e3⟩:=Vd ((HS.o.below HG.o.b).mono HG.o.b.size) hlt;have dU:=HI.o _ (cK hlt);have pN:=HA.o _ (cK hlt);have jU:Hid (l.take (k+1)=l.take k++ [l[k]]):=η (fH hlt);have eK:aA (l.take k)<=1024:=by rw [vN];omega
   have ej:(0:Int)<=(k:Int):=by omega
   have hkb:(k:Int)<(aA l:Int):=by omega
   generalize l[k]=x at*;generalize l.take k=pre at*;obtain⟨xk,xm,xa,xn⟩:=x;simp only at e0 e1 e2 e3 pN;obtain⟨a,rfl⟩:∃a:Nat,xa=(a:Int):=⟨xa.toNat,by omega⟩;have FA:a<9:=by omega
   have aMb:(a:Int)<9:=by omega
   have ha0:(0:Int)<=(a:Int):=by omega
   have HQ:Hid (GF (xk,xm,(a:Int))):=η ⟨dU.k,dU.m,dU.a⟩;clear pN dU;have aR:Hid (β wr ((wr.alloc (aK #[ν xk,ν xm,ν (a:Int),ν xn] 103)).alloc (aK #[ν xk,ν xm,ν (a:Int)] 289))):=η (σ.alloc (by simp) _);have cu:Hid (((wr.alloc (aK #[ν xk,ν xm,ν (a:Int),ν xn] 103)).alloc (aK #[ν xk,ν xm,ν (a:Int)] 289)).heap[wr.heap.size]? =aC (aK #[ν xk,ν xm,ν (a:Int),ν xn] 103 (0,0))):=η ((fL _ _ (by simp)).trans (cQ wr _));have xA:Hid (((wr.alloc (aK #[ν xk,ν xm,ν (a:Int),ν xn] 103)).alloc (aK #[ν xk,ν xm,ν (a:Int)] 289)).heap[wr.heap.size+1]? =aC (aK #[ν xk,ν xm,ν (a:Int)] 289 (0,0))):=η (by have:=cQ (wr.alloc (aK #[ν xk,ν xm,ν (a:Int),ν xn] 103)) (aK #[ν xk,ν xm,ν (a:Int)] 289);rw [DK] at this;exact this);have hz1:wr.heap.size+1<((wr.alloc (aK #[ν xk,ν xm,ν (a:Int),ν xn] 103)).alloc (aK #[ν xk,ν xm,ν (a:Int)] 289)).heap.size:=by simp
   have lQ:=η (HG.o.below aR.o);have hbl:w.heap.size+2<=wr.heap.size:=HG.o.low.2.2.2.2.2;have ET:Hid (∀i g,(cf i).ownBlock=aC g->g<wr.heap.size):=η λi g e=>((HG.o.tR.rows i).lt g e).2
   have lR:Hid (∀g,(aH Ao (aA (dE pre)) co).ownBlock=aC g->g<wr.heap.size):=η λg e=>(HG.o.ord.lt g e).2
   go_upto_region 8 with fail
   generalize (wr.alloc (aK #[ν xk,ν xm,ν (a:Int),ν xn] 103)).alloc (aK #[ν xk,ν xm,ν (a:Int)] 289)=w2 at*;clear HG aR;clear e0 e1 e2 e3;generalize wr.heap.size=bx at*;obtain⟨c0,c1,c2,c3⟩:=S9 cu;obtain⟨s0,s1,s2⟩:=O0 xA;obtain⟨Aq,cq,vk⟩:=bL (lQ.o.tR.rows (.inl (xk,xm,(a:Int))));have hlk:(Instr.lookup 284 (.map (aC w.heap.size)) (bP #[ν xk,ν xm,ν (a:Int)]) aP).run aM w2= .ok (aH Aq (aA (gz pre (xk,xm,(a:Int)))) cq) w2:=by rw [<-show cf (.inl (xk,xm,(a:Int)))=aH Aq (aA (gz pre (xk,xm,(a:Int)))) cq from vk];exact lQ.o.look HQ.o
   have GQ:Hid (dE (pre++ [⟨xk,xm,(a:Int),xn⟩])=dE pre++(if (gz pre (xk,xm,(a:Int))).isEmpty then [(xk,xm,(a:Int))] else [])):=η (Rt pre _);have pP:=a2B pre (xk,xm,(a:Int));have l9:aA (dE pre)<=1024:=bz (Rs [] pre) eK;have B7:=η vk;clear vk;have key:∃n:Nat,n=aA (gz pre (xk,xm,(a:Int))):=⟨_,rfl⟩;obtain⟨n,hn⟩:=key;rw [<-hn] at hlk pP;have HN:=η hn;clear hn;obtain⟨ip,hip,aH6,aH7,aH8⟩:=dP aKu;obtain⟨i0,bu,hz0',fw,xe⟩:=dP Na;by_cases mE:n=0
   ·have mF:(((n:Nat):Int)==0)=aO:=by simp [mE]
    have om:=η mE;clear mE;have HE:Hid (dE (pre++ [⟨xk,xm,(a:Int),xn⟩])=dE pre++ [(xk,xm,(a:Int))]):=η (by rw [GQ.o,ifP];have h1:=HN.o;rw [om.o] at h1;simpa using List.length_eq_zero_iff.1 h1.symm);have zL:=η (lQ.o.ord.alloc (aK #[ν xk,ν xm,ν (a:Int)] 289));go_wp2_with (at_builtin;refine wpList_append_lies _ rfl _ _ 285 rfl (w.heap.size+2) 289 ip _ 3 24 underlying285 hip aH6 aH7 aH8 rfl (by omega) _ _ (J9 (dE pre)) rfl zL.o ⟨w2.heap.size,0,aB⟩ 1 1 (O6 (xk,xm,(a:Int))) rfl rfl (dS _ _ #[_,_,_] rfl) (by intro u hu;simp [O6] at hu;rcases hu with rfl|rfl|rfl<;>rfl) (by omega) (by simp only [bO];omega) (by omega) (by have:=lQ.o.low.2.2.2.2.2;simp;omega) (w2.heap.size+1) (by simp) ?_)
    intro g3 tI w3 ma gQ _ _;have hne:∀k,(aH Ao (aA (dE pre)) co).ownBlock=aC k->k<bx:=lR.o;have uJ:Hid (lM w (w.heap.size+2) w.heap.size (w.heap.size+1) cf (aH (aC ⟨g3,0,aB⟩) (aA (dE pre)+1) tI) (gthF pre) (dE (pre++ [⟨xk,xm,(a:Int),xn⟩])) w3):=η (by refine(lQ.o.below σ).aJ2 gQ ?_;rw [HE.o,aKs,cN];exact ma);have oD:Hid (w3.heap[bx]? =aC (aK #[ν xk,ν xm,ν (a:Int),ν xn] 103 (0,0))):=η ((gQ.block bx (by simp;omega) (λe=>by have:=hne _ e.symm;omega)).trans ((fL _ _ (by omega)).trans cu.o));have BM:Hid (w3.heap[bx+1]? =aC (aK #[ν xk,ν xm,ν (a:Int)] 289 (0,0))):=η ((gQ.block (bx+1) (by simp;omega) (λe=>by have:=hne _ e.symm;omega)).trans ((fL _ _ (by omega)).trans xA.o));have hz3:bx+1<w3.heap.size:=by have:=gQ.size;simp at this;omega
    clear ma gQ hne HE zL lQ cu xA s0 s1 s2 hlk hz1 lR GQ;go_upto_region 10 with fail
    generalize (aH (aC ⟨g3,0,aB⟩) (aA (dE pre)+1) tI)=Nt at*;obtain⟨c0,c1,c2,c3⟩:=S9 oD;obtain⟨s0,s1,s2⟩:=O0 BM;obtain⟨st,w5,ui,fA,hs5,iY,Df⟩:=(uJ.o.below ((aX _ _).alloc (aZ _) (aK #[ν xn] 2))).entry HQ.o;have B1:Hid (w5.cell? ⟨w3.heap.size,0,aB⟩=aC (ν xn)):=η (by have e1:=fA.cell_far ⟨w3.heap.size,0,aB⟩ (by simp) (by have:=uJ.o.low;simp;omega);rw [e1];exact cM w3 _ _ 0 rfl);have XL:w3.heap.size+1=w5.heap.size:=by rw [hs5];simp
    have IY:w.heap.size+2<=w5.heap.size:=by have:=uJ.o.low.2.2.2.2.2;omega
    rw [B7.o] at ui iY;have jr:aA (gthF pre (.inl (xk,xm,(a:Int))))=n:=HN.o.symm;rw [jr] at ui iY;have yC:Hid (cf (.inl (xk,xm,(a:Int)))=aH Aq n cq):=η (by rw [B7.o,jr]);have NK:(Ge 284 (.map (aC w.heap.size)) (bP #[ν xk,ν xm,ν (a:Int)])).run aM (w3.alloc (aK #[ν xn] 2))= .ok (bC #[aH Aq n cq,goInt st]) w5:=ui;have EL:=η Df;have fP:=η iY;clear ui Df iY fA XL hs5 jr;generalize goInt st=gs at*;go_wp2_with (at_builtin;refine wpList_append_own_at _ rfl _ _ 53 rfl (w.heap.size+2) 2 i0 _ 1 8 mX bu hz0' fw xe rfl (by decide) _ n ((gthF pre (.inl (xk,xm,(a:Int)))).map (aG aF)) rfl fP.o ⟨w3.heap.size,0,aB⟩ 1 1 [ν xn] rfl rfl (by intro j u hu;cases j with|zero=>simp at hu;subst hu;exact B1.o|succ j=>simp at hu) xy (by simp only [bO];omega) (by omega) IY ?_)
    intro v6 w6 FU FJ _ FN;obtain⟨w7,Dr,F7,FL,AO⟩:=EL.o w6 v6 (gz pre (xk,xm,(a:Int))++ [xn]) (by rw [yC.o];exact FJ) (by have h1:=FU;rw [cN,<-HN.o,dh];exact h1) (by rw [yC.o];exact FN);have Cv:Hid (w7.heap[bx]? =aC (aK #[ν xk,ν xm,ν (a:Int),ν xn] 103 (0,0))):=η ((FL bx (by simp;omega) (by omega) (λe=>by have:=ET.o _ _ e.symm;omega)).trans ((fL _ _ (by omega)).trans oD.o))
    have Ip:bx+1<w7.heap.size:=by have:w3.heap.size+1<=w7.heap.size:=by simpa using AO
                                  omega
    clear FL AO FU FJ FN EL fP B1 IY yC uJ oD BM NK HN B7 hz3;go_upto_region 11 with fail
    clear Dr s0 s1 s2;have jF:=η F7;clear F7;have JW:Hid (iE (iE (gthF pre) (.inl (xk,xm,(a:Int))) (gz pre (xk,xm,(a:Int))++ [xn])) (.inr a) (gy pre a++ [xn])=gthF (l.take (k+1))):=η (by rw [jU.o];exact a3m pre ⟨xk,xm,(a:Int),xn⟩ a FA rfl);have uK:Hid (iE (gthF pre) (.inl (xk,xm,(a:Int))) (gz pre (xk,xm,(a:Int))++ [xn]) (.inr a)=gy pre a):=η (by rw [Ai _ _ (by simp)];simp [gthF,FA]);have rz:=VG pre a;rw [<-jU.o] at jF;generalize iE cf (.inl (xk,xm,(a:Int))) v6=zk at*;generalize iE (gthF pre) (.inl (xk,xm,(a:Int))) (gz pre (xk,xm,(a:Int))++ [xn])=g7 at*;have hrow:=jF.o.tR.rows (.inr a);rw [uK.o] at hrow;generalize gy pre a=ys at*;obtain⟨Ar,cr,nj⟩:=bL hrow;have hab:w7.cell? ⟨w.heap.size+1,a,aB⟩=aC (aH Ar (aA ys) cr):=by rw [bH _ _ a _ _ (0,0) jF.o.blk,VH zk FA,nj]
    have d1:w7.drew.cell? ⟨bx,2,aB⟩=aC (ν (a:Int)):=ρ Cv.o;have d2:w7.drew.cell? ⟨bx,3,aB⟩=aC (ν xn):=ρ Cv.o;have d3:w7.drew.cell? ⟨w.heap.size+1,a,aB⟩=aC (aH Ar (aA ys) cr):=hab;have d4:w7.drew.frozen? ⟨w.heap.size+1,a,aB⟩=aP:=by show w7.frozen? _=aP;simp [iO,jF.o.blk]
    have rS:Hid (w7.drew.ownsRow (w.heap.size+2) 2 1 (aH Ar (aA ys) cr) (aA ys) (ys.map (aG aF))):=η (by rw [nj] at hrow;exact hrow);obtain⟨r,hr⟩:∃r,r=(zk (.inr a)).ownBlock:=⟨_,rfl⟩;have hr2:(aH Ar (aA ys) cr).ownBlock=r:=by rw [hr,nj]
    have Jj:Hid (∀g,r=aC g->w.heap.size+2<=g/\g<w7.heap.size):=η λg e=>hrow.lt g (hr▸e)
    have dJ:Hid (aC bx≠r):=η (λe=>by have h1:=jF.o.tR.rows (.inr a);rcases CA h1 jF.o.ord (by decide) with _|_<;>exact(gS h1 Cv.o (by decide)) (hr▸e.symm));have Mu:w.heap.size+1<w7.heap.size:=by have:=jF.o.low;omega
    have Wl:w.heap.size+2<=w7.drew.heap.size:=jF.o.low.2.2.2.2.2;have BG:Hid (aC (w.heap.size+1)≠r):=η (λe=>by have:=(Jj.o _ e.symm).1;omega);have HR:=η hr;have qD:=η hr2;have TT:Hid (lM w (w.heap.size+2) w.heap.size (w.heap.size+1) zk Nt g7 (dE (l.take (k+1))) w7.drew):=η (jF.o.below (aX _ _).drew);have Mz:bx<w7.drew.heap.size:=by have:w7.drew.heap.size=w7.heap.size:=rfl;omega
    have Mv:w.heap.size+1<w7.drew.heap.size:=Mu;clear hrow nj hr hr2 hab jF Mu Ip;refine CM (S:=λW=>W.cell? ⟨bx,2,aB⟩=aC (ν (a:Int))/\W.cell? ⟨bx,3,aB⟩=aC (ν xn)/\W.cell? ⟨w.heap.size+1,a,aB⟩=aC (aH Ar (aA ys) cr)) 13 (by kernel_rfl) ⟨d1,d2,d3⟩ (λhHeld=> ?_);have bJ:Hid (∀W,w7.drew.grownBy W r->W.cell? ⟨bx,2,aB⟩=aC (ν (a:Int))/\W.cell? ⟨bx,3,aB⟩=aC (ν xn)/\W.cell? ⟨w.heap.size+1,a,aB⟩=aC (aH Ar (aA ys) cr)):=η λW hg=>⟨(hg.cell_far ⟨bx,2,aB⟩ Mz dJ.o).trans d1,(hg.cell_far ⟨bx,3,aB⟩ Mz dJ.o).trans d2,(hg.cell_far ⟨w.heap.size+1,a,aB⟩ Mv BG.o).trans d3⟩
    have Jl:Hid (∀W,w7.drew.grownBy W r->W.frozen? ⟨w.heap.size+1,a,aB⟩=aP):=η λW hg=>(hg.frozen_far ⟨w.heap.size+1,a,aB⟩ Mv BG.o).trans d4
    clear d1 d2 d3 d4;generalize w7.drew=w8 at*;have B8:Hid (w8.grownBy w8 r):=η (IA (aX _ _) r);refine cP (i:=0) (v:=aH (aC ⟨w.heap.size+1,0,aB⟩) 9 9) rfl (by kernel_rfl) (by kernel_rfl) (by kernel_rfl) (by kernel_rfl) (by kernel_rfl) (λ_ _ _ h=>h) (aS ⟨by rfl,λw' hSw=>by obtain⟨s1,s2,s3⟩:=hSw;go_simp⟩) hHeld ?_;refine cP (i:=1) (v:=bD (aC ⟨bx,2,aB⟩)) rfl (by kernel_rfl) (by kernel_rfl) (by kernel_rfl) (by kernel_rfl) (by kernel_rfl) (λ_ _ _ h=>h) (aS ⟨by rfl,λw' hSw=>by obtain⟨s1,s2,s3⟩:=hSw;go_simp⟩) hHeld ?_;refine cP (i:=2) (v:=ν (a:Int)) rfl (by kernel_rfl) (by kernel_rfl) (by kernel_rfl) (by kernel_rfl) (by kernel_rfl) (λ_ _ _ h=>h) (aS ⟨by rfl,λw' hSw=>by obtain⟨s1,s2,s3⟩:=hSw;go_simp⟩) hHeld ?_;refine cP (i:=3) (v:=aH (aC ⟨w.heap.size+1,0,aB⟩) 9 9) rfl (by kernel_rfl) (by kernel_rfl) (by kernel_rfl) (by kernel_rfl) (by kernel_rfl) (λ_ _ _ h=>h) (aS ⟨by rfl,λw' hSw=>by obtain⟨s1,s2,s3⟩:=hSw;go_simp⟩) hHeld ?_;refine cP (i:=4) (v:=bD (aC ⟨bx,2,aB⟩)) rfl (by kernel_rfl) (by kernel_rfl) (by kernel_rfl) (by kernel_rfl) (by kernel_rfl) (λ_ _ _ h=>h) (aS ⟨by rfl,λw' hSw=>by obtain⟨s1,s2,s3⟩:=hSw;go_simp⟩) hHeld ?_;refine cP (i:=5) (v:=ν (a:Int)) rfl (by kernel_rfl) (by kernel_rfl) (by kernel_rfl) (by kernel_rfl) (by kernel_rfl) (λ_ _ _ h=>h) (aS ⟨by rfl,λw' hSw=>by obtain⟨s1,s2,s3⟩:=hSw;go_simp⟩) hHeld ?_;refine cP (i:=6) (v:=bD (aC ⟨w.heap.size+1,a,aB⟩)) rfl (by kernel_rfl) (by kernel_rfl) (by kernel_rfl) (by kernel_rfl) (by kernel_rfl) (λ_ _ _ h=>h) (aS ⟨by rfl,λw' hSw=>by obtain⟨s1,s2,s3⟩:=hSw;go_simp⟩) hHeld ?_;refine cP (i:=7) (v:=aH Ar (aA ys) cr) rfl (by kernel_rfl) (by kernel_rfl) (by kernel_rfl) (by kernel_rfl) (by kernel_rfl) (λ_ _ _ h=>h) (aS ⟨by rfl,λw' hSw=>by obtain⟨s1,s2,s3⟩:=hSw;go_simp⟩) hHeld ?_;refine cP (i:=8) (v:=bD (aC ⟨bx,3,aB⟩)) rfl (by kernel_rfl) (by kernel_rfl) (by kernel_rfl) (by kernel_rfl) (by kernel_rfl) (λ_ _ _ h=>h) (aS ⟨by rfl,λw' hSw=>by obtain⟨s1,s2,s3⟩:=hSw;go_simp⟩) hHeld ?_;refine cP (i:=9) (v:=ν xn) rfl (by kernel_rfl) (by kernel_rfl) (by kernel_rfl) (by kernel_rfl) (by kernel_rfl) (λ_ _ _ h=>h) (aS ⟨by rfl,λw' hSw=>by obtain⟨s1,s2,s3⟩:=hSw;go_simp⟩) hHeld ?_;clear hHeld;refine iv (rs:= [10]) (by kernel_rfl) (by simp) ?_;refine cX.cons rfl (λK hK=> ?_) cX.nil;go_simp
    have Cb:Hid (w8.grownBy (w8.alloc (aK #[ν xn] 2)) r):=η (QO B8.o _);have wk:=η (rS.o.alloc (aK #[ν xn] 2));have Je:Hid (∀j u,([ν xn]:List aN)[j]? =aC u->(w8.alloc (aK #[ν xn] 2)).cell? ((⟨w8.heap.size,0,aB⟩:ai).add j)=aC u):=η (dS w8 2 #[ν xn] rfl);refine hK.o _ _ (λ_=>bJ.o _ Cb.o) (λ_=> ?_);clear hK K;generalize (w8.alloc (aK #[ν xn] 2))=w9 at*;refine iv (rs:= [11]) (by kernel_rfl) (by simp) ?_;refine cX.cons rfl (λK hK=> ?_) cX.nil;refine Ad _ rfl (.tmp 49) (.tmp 52) 53 rfl (w.heap.size+2) 2 i0 _ 1 8 mX bu hz0' fw xe rfl (by decide) _ (aA ys) (ys.map (aG aF)) rfl wk.o ⟨w8.heap.size,0,aB⟩ 1 1 [ν xn] rfl rfl Je.o xy (by decide) (by simp only [bO];omega) (by omega) (bz Wl Cb.o.size) w9.heap.size rfl ?_;intro g10 zi uB hown hgr hat _;have zH:Hid (w8.grownBy uB r):=η (F6 Cb.o hgr (.inl qD.o));have NB:uB.ownsRow (w.heap.size+2) 2 1 (aH (aC ⟨g10,0,aB⟩) (aA ys+1) zi) (aA (ys++ [xn])) ((ys++ [xn]).map (aG aF)):=by rw [cN,dh];exact hown
    have hloc:(aH (aC ⟨g10,0,aB⟩) (aA ys+1) zi).ownBlock=(zk (.inr a)).ownBlock\/∃g,(aH (aC ⟨g10,0,aB⟩) (aA ys+1) zi).ownBlock=aC g/\w8.heap.size<=g:=by
     rw [<-HR.o];rcases hat with e|e
     ·exact .inl (by rw [<-qD.o];exact e.symm)
     exact .inr ⟨_,rfl,by rw [e];exact Cb.o.size⟩
    have TQ:Hid (lM w (w.heap.size+2) w.heap.size (w.heap.size+1) (iE zk (.inr a) (aH (aC ⟨g10,0,aB⟩) (aA ys+1) zi)) Nt (gthF (l.take (k+1))) (dE (l.take (k+1))) (uB.setCell ⟨w.heap.size+1,a,aB⟩ (aH (aC ⟨g10,0,aB⟩) (aA ys+1) zi))):=η (by rw [<-JW.o];exact TT.o.a1m FA (by rw [<-HR.o];exact zH.o) NB hloc);have f1:=(bJ.o _ zH.o).2.2;have f2:=Jl.o _ zH.o;clear hown hgr hat NB hloc;refine hK.o _ _ (λ_=>bJ.o _ zH.o) (λ_=> ?_);clear hK K;refine cP (i:=12) (v:=bD (aC ⟨w.heap.size+1,a,aB⟩)) rfl (by kernel_rfl) (by kernel_rfl) (by kernel_rfl) (by kernel_rfl) (by kernel_rfl) (λ_ _ _ h=>h) (aS ⟨by rfl,λw' hSw=>by obtain⟨s1,s2,s3⟩:=hSw;go_simp⟩) (bJ.o _ zH.o) ?_;refine iv (rs:= [13]) (by kernel_rfl) (by simp) ?_;refine cX.cons rfl (λK hK=> ?_) cX.nil;go_simp
    refine hK.o _ _ (λh=>absurd rfl h) (λ_=> ?_);clear hK K;refine CL (by kernel_rfl) ?_ _;go_wp2_with fail
    go_roundw
    case rel=>exact⟨k+1,_,by omega,by go_num,TQ⟩
    case measure=>simp [ag];omega
   have mF:(((n:Nat):Int)==0)=aP:=by simpa using mE
   have uJ:Hid (lM w (w.heap.size+2) w.heap.size (w.heap.size+1) cf (aH Ao (aA (dE pre)) co) (gthF pre) (dE (pre++ [⟨xk,xm,(a:Int),xn⟩])) w2):=η (by
    have e:dE (pre++ [⟨xk,xm,(a:Int),xn⟩])=dE pre:=by rw [GQ.o,ifN,List.append_nil];intro h;exact mE (by rw [HN.o,List.isEmpty_iff.1 h];rfl)
    rw [e];exact lQ.o)
   have oD:=cu;have BM:=xA;have hz3:=hz1;go_upto_region 10 with fail
   clear lQ cu xA s0 s1 s2 hlk hz1 lR GQ;generalize (aH Ao (aA (dE pre)) co)=Nt at*;generalize w2=w3 at*;obtain⟨c0,c1,c2,c3⟩:=S9 oD;obtain⟨s0,s1,s2⟩:=O0 BM;obtain⟨st,w5,ui,fA,hs5,iY,Df⟩:=(uJ.o.below ((aX _ _).alloc (aZ _) (aK #[ν xn] 2))).entry HQ.o;have B1:Hid (w5.cell? ⟨w3.heap.size,0,aB⟩=aC (ν xn)):=η (by have e1:=fA.cell_far ⟨w3.heap.size,0,aB⟩ (by simp) (by have:=uJ.o.low;simp;omega);rw [e1];exact cM w3 _ _ 0 rfl);have XL:w3.heap.size+1=w5.heap.size:=by rw [hs5];simp
   have IY:w.heap.size+2<=w5.heap.size:=by have:=uJ.o.low.2.2.2.2.2;omega
   rw [B7.o] at ui iY;have jr:aA (gthF pre (.inl (xk,xm,(a:Int))))=n:=HN.o.symm;rw [jr] at ui iY;have yC:Hid (cf (.inl (xk,xm,(a:Int)))=aH Aq n cq):=η (by rw [B7.o,jr]);have NK:(Ge 284 (.map (aC w.heap.size)) (bP #[ν xk,ν xm,ν (a:Int)])).run aM (w3.alloc (aK #[ν xn] 2))= .ok (bC #[aH Aq n cq,goInt st]) w5:=ui;have EL:=η Df;have fP:=η iY;clear ui Df iY fA XL hs5 jr;generalize goInt st=gs at*;go_wp2_with (at_builtin;refine wpList_append_own_at _ rfl _ _ 53 rfl (w.heap.size+2) 2 i0 _ 1 8 mX bu hz0' fw xe rfl (by decide) _ n ((gthF pre (.inl (xk,xm,(a:Int)))).map (aG aF)) rfl fP.o ⟨w3.heap.size,0,aB⟩ 1 1 [ν xn] rfl rfl (by intro j u hu;cases j with|zero=>simp at hu;subst hu;exact B1.o|succ j=>simp at hu) xy (by simp only [bO];omega) (by omega) IY ?_)
   intro v6 w6 FU FJ _ FN;obtain⟨w7,Dr,F7,FL,AO⟩:=EL.o w6 v6 (gz pre (xk,xm,(a:Int))++ [xn]) (by rw [yC.o];exact FJ) (by have h1:=FU;rw [cN,<-HN.o,dh];exact h1) (by rw [yC.o];exact FN);have Cv:Hid (w7.heap[bx]? =aC (aK #[ν xk,ν xm,ν (a:Int),ν xn] 103 (0,0))):=η ((FL bx (by simp;omega) (by omega) (λe=>by have:=ET.o _ _ e.symm;omega)).trans ((fL _ _ (by omega)).trans oD.o))
   have Ip:bx+1<w7.heap.size:=by have:w3.heap.size+1<=w7.heap.size:=by simpa using AO
                                 omega
   clear FL AO FU FJ FN EL fP B1 IY yC uJ oD BM NK HN B7 hz3;go_upto_region 11 with fail
   clear Dr s0 s1 s2;have jF:=η F7;clear F7;have JW:Hid (iE (iE (gthF pre) (.inl (xk,xm,(a:Int))) (gz pre (xk,xm,(a:Int))++ [xn])) (.inr a) (gy pre a++ [xn])=gthF (l.take (k+1))):=η (by rw [jU.o];exact a3m pre ⟨xk,xm,(a:Int),xn⟩ a FA rfl);have uK:Hid (iE (gthF pre) (.inl (xk,xm,(a:Int))) (gz pre (xk,xm,(a:Int))++ [xn]) (.inr a)=gy pre a):=η (by rw [Ai _ _ (by simp)];simp [gthF,FA]);have rz:=VG pre a;rw [<-jU.o] at jF;generalize iE cf (.inl (xk,xm,(a:Int))) v6=zk at*;generalize iE (gthF pre) (.inl (xk,xm,(a:Int))) (gz pre (xk,xm,(a:Int))++ [xn])=g7 at*;have hrow:=jF.o.tR.rows (.inr a);rw [uK.o] at hrow;generalize gy pre a=ys at*;obtain⟨Ar,cr,nj⟩:=bL hrow;have hab:w7.cell? ⟨w.heap.size+1,a,aB⟩=aC (aH Ar (aA ys) cr):=by rw [bH _ _ a _ _ (0,0) jF.o.blk,VH zk FA,nj]
   have d1:w7.drew.cell? ⟨bx,2,aB⟩=aC (ν (a:Int)):=ρ Cv.o;have d2:w7.drew.cell? ⟨bx,3,aB⟩=aC (ν xn):=ρ Cv.o;have d3:w7.drew.cell? ⟨w.heap.size+1,a,aB⟩=aC (aH Ar (aA ys) cr):=hab;have d4:w7.drew.frozen? ⟨w.heap.size+1,a,aB⟩=aP:=by show w7.frozen? _=aP;simp [iO,jF.o.blk]
   have rS:Hid (w7.drew.ownsRow (w.heap.size+2) 2 1 (aH Ar (aA ys) cr) (aA ys) (ys.map (aG aF))):=η (by rw [nj] at hrow;exact hrow);obtain⟨r,hr⟩:∃r,r=(zk (.inr a)).ownBlock:=⟨_,rfl⟩;have hr2:(aH Ar (aA ys) cr).ownBlock=r:=by rw [hr,nj]
   have Jj:Hid (∀g,r=aC g->w.heap.size+2<=g/\g<w7.heap.size):=η λg e=>hrow.lt g (hr▸e)
   have dJ:Hid (aC bx≠r):=η (λe=>by have h1:=jF.o.tR.rows (.inr a);rcases CA h1 jF.o.ord (by decide) with _|_<;>exact(gS h1 Cv.o (by decide)) (hr▸e.symm));have Mu:w.heap.size+1<w7.heap.size:=by have:=jF.o.low;omega
   have Wl:w.heap.size+2<=w7.drew.heap.size:=jF.o.low.2.2.2.2.2;have BG:Hid (aC (w.heap.size+1)≠r):=η (λe=>by have:=(Jj.o _ e.symm).1;omega);have HR:=η hr;have qD:=η hr2;have TT:Hid (lM w (w.heap.size+2) w.heap.size (w.heap.size+1) zk Nt g7 (dE (l.take (k+1))) w7.drew):=η (jF.o.below (aX _ _).drew);have Mz:bx<w7.drew.heap.size:=by have:w7.drew.heap.size=w7.heap.size:=rfl;omega
   have Mv:w.heap.size+1<w7.drew.heap.size:=Mu;clear hrow nj hr hr2 hab jF Mu Ip;refine CM (S:=λW=>W.cell? ⟨bx,2,aB⟩=aC (ν (a:Int))/\W.cell? ⟨bx,3,aB⟩=aC (ν xn)/\W.cell? ⟨w.heap.size+1,a,aB⟩=aC (aH Ar (aA ys) cr)) 13 (by kernel_rfl) ⟨d1,d2,d3⟩ (λhHeld=> ?_);have bJ:Hid (∀W,w7.drew.grownBy W r->W.cell? ⟨bx,2,aB⟩=aC (ν (a:Int))/\W.cell? ⟨bx,3,aB⟩=aC (ν xn)/\W.cell? ⟨w.heap.size+1,a,aB⟩=aC (aH Ar (aA ys) cr)):=η λW hg=>⟨(hg.cell_far ⟨bx,2,aB⟩ Mz dJ.o).trans d1,(hg.cell_far ⟨bx,3,aB⟩ Mz dJ.o).trans d2,(hg.cell_far ⟨w.heap.size+1,a,aB⟩ Mv BG.o).trans d3⟩
   have Jl:Hid (∀W,w7.drew.grownBy W r->W.frozen? ⟨w.heap.size+1,a,aB⟩=aP):=η λW hg=>(hg.frozen_far ⟨w.heap.size+1,a,aB⟩ Mv BG.o).trans d4
   clear d1 d2 d3 d4;generalize w7.drew=w8 at*;have B8:Hid (w8.grownBy w8 r):=η (IA (aX _ _) r);refine cP (i:=0) (v:=aH (aC ⟨w.heap.size+1,0,aB⟩) 9 9) rfl (by kernel_rfl) (by kernel_rfl) (by kernel_rfl) (by kernel_rfl) (by kernel_rfl) (λ_ _ _ h=>h) (aS ⟨by rfl,λw' hSw=>by obtain⟨s1,s2,s3⟩:=hSw;go_simp⟩) hHeld ?_;refine cP (i:=1) (v:=bD (aC ⟨bx,2,aB⟩)) rfl (by kernel_rfl) (by kernel_rfl) (by kernel_rfl) (by kernel_rfl) (by kernel_rfl) (λ_ _ _ h=>h) (aS ⟨by rfl,λw' hSw=>by obtain⟨s1,s2,s3⟩:=hSw;go_simp⟩) hHeld ?_;refine cP (i:=2) (v:=ν (a:Int)) rfl (by kernel_rfl) (by kernel_rfl) (by kernel_rfl) (by kernel_rfl) (by kernel_rfl) (λ_ _ _ h=>h) (aS ⟨by rfl,λw' hSw=>by obtain⟨s1,s2,s3⟩:=hSw;go_simp⟩) hHeld ?_;refine cP (i:=3) (v:=aH (aC ⟨w.heap.size+1,0,aB⟩) 9 9) rfl (by kernel_rfl) (by kernel_rfl) (by kernel_rfl) (by kernel_rfl) (by kernel_rfl) (λ_ _ _ h=>h) (aS ⟨by rfl,λw' hSw=>by obtain⟨s1,s2,s3⟩:=hSw;go_simp⟩) hHeld ?_;refine cP (i:=4) (v:=bD (aC ⟨bx,2,aB⟩)) rfl (by kernel_rfl) (by kernel_rfl) (by kernel_rfl) (by kernel_rfl) (by kernel_rfl) (λ_ _ _ h=>h) (aS ⟨by rfl,λw' hSw=>by obtain⟨s1,s2,s3⟩:=hSw;go_simp⟩) hHeld ?_;refine cP (i:=5) (v:=ν (a:Int)) rfl (by kernel_rfl) (by kernel_rfl) (by kernel_rfl) (by kernel_rfl) (by kernel_rfl) (λ_ _ _ h=>h) (aS ⟨by rfl,λw' hSw=>by obtain⟨s1,s2,s3⟩:=hSw;go_simp⟩) hHeld ?_;refine cP (i:=6) (v:=bD (aC ⟨w.heap.size+1,a,aB⟩)) rfl (by kernel_rfl) (by kernel_rfl) (by kernel_rfl) (by kernel_rfl) (by kernel_rfl) (λ_ _ _ h=>h) (aS ⟨by rfl,λw' hSw=>by obtain⟨s1,s2,s3⟩:=hSw;go_simp⟩) hHeld ?_;refine cP (i:=7) (v:=aH Ar (aA ys) cr) rfl (by kernel_rfl) (by kernel_rfl) (by kernel_rfl) (by kernel_rfl) (by kernel_rfl) (λ_ _ _ h=>h) (aS ⟨by rfl,λw' hSw=>by obtain⟨s1,s2,s3⟩:=hSw;go_simp⟩) hHeld ?_;refine cP (i:=8) (v:=bD (aC ⟨bx,3,aB⟩)) rfl (by kernel_rfl) (by kernel_rfl) (by kernel_rfl) (by kernel_rfl) (by kernel_rfl) (λ_ _ _ h=>h) (aS ⟨by rfl,λw' hSw=>by obtain⟨s1,s2,s3⟩:=hSw;go_simp⟩) hHeld ?_;refine cP (i:=9) (v:=ν xn) rfl (by kernel_rfl) (by kernel_rfl) (by kernel_rfl) (by kernel_rfl) (by kernel_rfl) (λ_ _ _ h=>h) (aS ⟨by rfl,λw' hSw=>by obtain⟨s1,s2,s3⟩:=hSw;go_simp⟩) hHeld ?_;clear hHeld;refine iv (rs:= [10]) (by kernel_rfl) (by simp) ?_;refine cX.cons rfl (λK hK=> ?_) cX.nil;go_simp
   have Cb:Hid (w8.grownBy (w8.alloc (aK #[ν xn] 2)) r):=η (QO B8.o _);have wk:=η (rS.o.alloc (aK #[ν xn] 2));have Je:Hid (∀j u,([ν xn]:List aN)[j]? =aC u->(w8.alloc (aK #[ν xn] 2)).cell? ((⟨w8.heap.size,0,aB⟩:ai).add j)=aC u):=η (dS w8 2 #[ν xn] rfl);refine hK.o _ _ (λ_=>bJ.o _ Cb.o) (λ_=> ?_);clear hK K;generalize (w8.alloc (aK #[ν xn] 2))=w9 at*;refine iv (rs:= [11]) (by kernel_rfl) (by simp) ?_;refine cX.cons rfl (λK hK=> ?_) cX.nil;refine Ad _ rfl (.tmp 49) (.tmp 52) 53 rfl (w.heap.size+2) 2 i0 _ 1 8 mX bu hz0' fw xe rfl (by decide) _ (aA ys) (ys.map (aG aF)) rfl wk.o ⟨w8.heap.size,0,aB⟩ 1 1 [ν xn] rfl rfl Je.o xy (by decide) (by simp only [bO];omega) (by omega) (bz Wl Cb.o.size) w9.heap.size rfl ?_;intro g10 zi uB hown hgr hat _;have zH:Hid (w8.grownBy uB r):=η (F6 Cb.o hgr (.inl qD.o));have NB:uB.ownsRow (w.heap.size+2) 2 1 (aH (aC ⟨g10,0,aB⟩) (aA ys+1) zi) (aA (ys++ [xn])) ((ys++ [xn]).map (aG aF)):=by rw [cN,dh];exact hown
   have hloc:(aH (aC ⟨g10,0,aB⟩) (aA ys+1) zi).ownBlock=(zk (.inr a)).ownBlock\/∃g,(aH (aC ⟨g10,0,aB⟩) (aA ys+1) zi).ownBlock=aC g/\w8.heap.size<=g:=by
    rw [<-HR.o];rcases hat with e|e
    ·exact .inl (by rw [<-qD.o];exact e.symm)
    exact .inr ⟨_,rfl,by rw [e];exact Cb.o.size⟩
   have TQ:Hid (lM w (w.heap.size+2) w.heap.size (w.heap.size+1) (iE zk (.inr a) (aH (aC ⟨g10,0,aB⟩) (aA ys+1) zi)) Nt (gthF (l.take (k+1))) (dE (l.take (k+1))) (uB.setCell ⟨w.heap.size+1,a,aB⟩ (aH (aC ⟨g10,0,aB⟩) (aA ys+1) zi))):=η (by rw [<-JW.o];exact TT.o.a1m FA (by rw [<-HR.o];exact zH.o) NB hloc);have f1:=(bJ.o _ zH.o).2.2;have f2:=Jl.o _ zH.o;clear hown hgr hat NB hloc;refine hK.o _ _ (λ_=>bJ.o _ zH.o) (λ_=> ?_);clear hK K;refine cP (i:=12) (v:=bD (aC ⟨w.heap.size+1,a,aB⟩)) rfl (by kernel_rfl) (by kernel_rfl) (by kernel_rfl) (by kernel_rfl) (by kernel_rfl) (λ_ _ _ h=>h) (aS ⟨by rfl,λw' hSw=>by obtain⟨s1,s2,s3⟩:=hSw;go_simp⟩) (bJ.o _ zH.o) ?_;refine iv (rs:= [13]) (by kernel_rfl) (by simp) ?_;refine cX.cons rfl (λK hK=> ?_) cX.nil;go_simp
   refine hK.o _ _ (λh=>absurd rfl h) (λ_=> ?_);clear hK K;refine CL (by kernel_rfl) ?_ _;go_wp2_with fail
   go_roundw
   case rel=>exact⟨k+1,_,by omega,by go_num,TQ⟩
   case measure=>simp [ag];omega
  obtain rfl:k=aA l:=by omega
  rw [cU] at HG ⊢;go_wp2_with fail
  go_ret3;exact⟨_,_,_,_,_,rfl,HG.o⟩
end
theorem aHA:(aM.info? 2).map (λi=>(i.zero,i.size,i.bytes))=aC (aC (aG aF 0),1,8):=by kernel_rfl
theorem a5W:(aM.info? 76).map (λi=>(i.zero,i.size,i.bytes))=aC (aC (bP #[aG aF 0,aG aF 0,aG aF 0]),3,24):=by kernel_rfl
theorem a5T(x:Lg):∀u∈x.cells,u.oneCell'=aO:=by intro u hu;simp [Lg.cells] at hu;rcases hu with rfl|rfl|rfl<;>rfl
theorem a5V(L:List Lg)(x:Lg):bB (L++ [x])=bB L++x.cells:=by unfold bB;simp
def bG(L:List Lg):List Int:=L.map (·.n)
theorem qu(L:List Lg):aA (bG L)=aA L:=by unfold bG;rw [iX]
theorem aCo {L:List Lg} {k:Nat}(hk:k<aA L):bG (L.take (k+1))=bG (L.take k)++ [L[k].n]:=by unfold bG;rw [fH hk,dh];rfl
theorem V0(L:List Lg)(A:Option ai)(c:Nat)(w:aJ)(hs:aW w w.heap.size A (bB L))(hl:aA L<=100000):
 aQ aM 189 #[aH A (aA L) c] w (T8 (bG L) w):=by
 obtain⟨i0,bu,hz0,hz1,hz2⟩:=dP aHA;have HS:=η hs;go_enter func189,ntmps189
 go_wp2
 go_loopw [3,5,8] (λu _ i wr=>∃k:Nat,k<=aA L/\i=ν k/\Hid (wr.ownsRow w.heap.size 2 1 u (aA (bG (L.take k))) ((bG (L.take k)).map (aG aF)))/\Hid (β w wr)) (λ_ _ i _=>aA L-(ag i).toNat)
 ·exact⟨0,bM _,rfl,⟨by simp,aS ⟨rfl,rfl⟩⟩,aX _ _⟩
 ·
  obtain⟨k,hk,rfl,HO,HB⟩:=hrel;have hsz:=HB.o.size;by_cases hlt:k<aA L
  ·obtain⟨b,o,rfl,hb,d0,d1,d2⟩:=oQ (HS.o.below HB.o) hlt;have HF:=η (aCo hlt);have Bn:aA (bG (L.take k))<=k:=by rw [qu,vN];omega
   generalize bG (L.take k)=ys at*;go_wp2_with (at_builtin;refine jC _ rfl _ _ 53 rfl w.heap.size 2 i0 _ 1 8 mX bu hz0 hz1 hz2 rfl (by decide) _ (aA ys) (ys.map (aG aF)) rfl ((HO.o.alloc _).alloc _) ⟨wr.heap.size+1,0,aB⟩ 1 1 [ν L[k].n] rfl rfl (dS _ _ #[_] (by simp)) xy (by simp only [bO];omega) (by omega) (by simp;omega) ?_)
   intro v' w4 hown1 dK _;have dY:Hid (w4.ownsRow w.heap.size 2 1 v' (aA (bG (L.take (k+1)))) ((bG (L.take (k+1))).map (aG aF))):=by show kF _ _ _ _ _ _ _;rw [HF.o,dh,cN,uT];exact hown1
   have py:=((HB.o.alloc hsz _).alloc (by simp;omega) _).grown dK (by simp;omega) (λj hj=>eU HO.o j hj);go_wp2
   go_roundw
   ·exact⟨k+1,by omega,by go_num,dY,py⟩
   simp [ag];omega
  obtain rfl:k=aA L:=by omega
  have hO:=HO.o;rw [cU] at hO;obtain⟨A1,c1,rfl⟩:=bL hO;have qh:=η (aW.cB hO);go_wp2
  go_ret;exact⟨A1,c1,rfl,qh.o,HB.o⟩
def xH(L:List Lg):Int:=(L[0]?.map (·.a)).getD 0
def J3(L:List Lg)(k:Nat):Int:=(L[k-1]?.map (·.m)).getD 0
def zh(L:List Lg)(k:Nat):Bool:=match L[k]? with
 |none=>aP
 |some x=>decide (x.n<1)||(x.a !=xH L||(decide (0<k)&&decide (x.m<=J3 L k)))
def dF(L:List Lg):Int:=if 1024<(aA L) then 6 else if (dQ (aA L)).any (zh L) then 1 else dR (sumI (bG L))
theorem Hi {L:List Lg} {k:Nat}(hk:k<aA L):zh L k=(decide (L[k].n<1)||(L[k].a !=xH L||(decide (0<k)&&decide (L[k].m<=J3 L k)))):=by unfold zh;rw [iG hk]
theorem Rz {L:List Lg} {k:Nat}(hk:k-1<aA L):J3 L k=L[k-1].m:=by unfold J3;rw [iG hk];rfl
theorem V8 {L:List Lg}(hk:0<aA L):xH L=L[0].a:=by unfold xH;rw [iG hk];rfl
theorem VJ {L:List Lg} {k:Nat}(hl:aA L<=1024)(hk:k<aA L)(h:zh L k=aO):dF L=1:=by unfold dF;rw [ifN (by omega),ifP (kE.2 ⟨k,nV.2 hk,h⟩)]
theorem aDz {L:List Lg}(hl:aA L<=1024)(h:∀k,k<aA L->zh L k=aP):dF L=dR (sumI (bG L)):=by unfold dF;rw [ifN (by omega),ifN];rw [kE];rintro⟨k,hk,e⟩;rw [h k (nV.1 hk)] at e;cases e
theorem MN {L:List Lg}(h:∀x∈L,aL x.n):∀x∈bG L,aL x:=by intro x hx;obtain⟨y,hy,rfl⟩:=di.1 hx;exact h y hy
theorem Q2(L:List Lg)(A:Option ai)(c:Nat)(w:aJ)(hs:aW w w.heap.size A (bB L))(hI:∀x∈L,aL x.n)(hl:aA L<=100000):
 aQ aM 188 #[aH A (aA L) c] w λe w'=>e=aT (ν (dF L))/\β w w':=by
 have HS:=η hs;have HI:=η hI;by_cases hle:aA L<=1024
 ·have aGl:¬(1024:Int)<(aA L:Int):=by omega
  go_enter aAv,aBi
  go_wp2_with fail
  go_loopw [3,4,12] (λ_ _ i wr=>∃k:Nat,k<=aA L/\i=ν k/\Hid (∀j,j<k->zh L j=aP)/\Hid (β w wr)) (λ_ _ i _=>aA L-(ag i).toNat)
  case atStart=>exact⟨0,bM _,rfl,λj h=>by omega,aX _ _⟩
  case round=>
   obtain⟨k,hk,rfl,HP,HB⟩:=hrel;have hsz:=HB.o.size;by_cases hlt:k<aA L
   ·have cj:=η (HS.o.below HB.o);obtain⟨b,o,rfl,hb,d0,d1,d2⟩:=oQ cj.o hlt;obtain⟨b0,o0,e0,hb0,f0,f1,f2⟩:=oQ cj.o (show 0<(aA L) by omega);injection e0 with e0;injection e0 with e1 e2;subst e1 e2;simp only [Nat.zero_mul,Gp] at f0 f1 f2;rw [<-V8 (show 0<(aA L) by omega)] at f1;have iL:=η (Hi hlt);have hbr:b<wr.heap.size:=by omega
    have ej:(0:Int)<=(k:Int):=by omega
    have hkb:(k:Int)<(aA L:Int):=by omega
    have hl0:(0:Int)<(aA L:Int):=by omega
    by_cases hn:L[k].n<1
    ·have mF:decide (L[k].n<1)=aO:=decide_eq_true hn;have HE:=η (VJ hle hlt (iL.o.trans (by rw [mF];rfl)));go_wp2_with fail
     go_quiet (fail)
     go_wp2_with fail
     go_ret;exact⟨cW HE.o.symm,below_drewN (HB.o.alloc hsz _) nq⟩
    by_cases ha:L[k].a=xH L
    ·have hab:(L[k].a !=xH L)=aP:=by simpa using ha
     have mF:decide (L[k].n<1)=aP:=decide_eq_false hn;rcases Nat.eq_zero_or_pos k with hz|hz
     ·subst hz;have mR:Hid (∀j,j<0+1->zh L j=aP):=by
       intro j hj;by_cases e:j=0
       ·subst e;exact iL.o.trans (by rw [mF,hab];rfl)
       exact HP.o j (by omega)
      go_wp2_with fail
      go_quiet (fail)
      go_wp2_with fail
      go_roundw
      case rel=>exact⟨0+1,by omega,by go_num,mR,below_drewN (HB.o.alloc hsz _) nq⟩
      case measure=>simp [ag];omega
     have hz':(0:Int)<(k:Int):=by omega
     have hzb:decide (0<k)=aO:=by simpa using hz
     obtain⟨b9,o9,e9,ez,g0,g1,g2⟩:=oQ cj.o (show k-1<(aA L) by omega);injection e9 with e9;injection e9 with Va Vb;subst Va Vb;rw [<-Rz (show k-1<(aA L) by omega)] at g0;have Bh:aF.wrap ((k:Int)-1)=(k:Int)-1:=sr _ (by omega);have AG:(0:Int)<=(k:Int)-1:=by omega
     have hk2:(k:Int)-1<(aA L:Int):=by omega
     have hkn:((k:Int)-1).toNat=k-1:=by omega
     by_cases hm:L[k].m<=J3 L k
     ·have vu:decide (L[k].m<=J3 L k)=aO:=decide_eq_true hm;have HE:=η (VJ hle hlt (iL.o.trans (by rw [mF,hab,hzb,vu];rfl)));go_wp2_with fail
      go_quiet (fail)
      go_wp2_with fail
      go_ret;exact⟨cW HE.o.symm,below_drewN (HB.o.alloc hsz _) nq⟩
     have vu:decide (L[k].m<=J3 L k)=aP:=decide_eq_false hm;have mR:Hid (∀j,j<k+1->zh L j=aP):=by
      intro j hj;by_cases e:j=k
      ·subst e;exact iL.o.trans (by rw [mF,hab,hzb,vu];rfl)
      exact HP.o j (by omega)
     go_wp2_with fail
     go_quiet (fail)
     go_wp2_with fail
     go_roundw
     case rel=>exact⟨k+1,by omega,by go_num,mR,below_drewN (HB.o.alloc hsz _) nq⟩
     case measure=>simp [ag];omega
    have hab:(L[k].a !=xH L)=aO:=by simpa [bne] using ha
    have mF:decide (L[k].n<1)=aP:=decide_eq_false hn;have HE:=η (VJ hle hlt (iL.o.trans (by rw [mF,hab];rfl)));go_wp2_with fail
    go_quiet (fail)
    go_wp2_with fail
    go_ret;exact⟨cW HE.o.symm,below_drewN (HB.o.alloc hsz _) nq⟩
   obtain rfl:k=aA L:=by omega
   have HE:=η (aDz hle HP.o);have TG:=η (V0 L A c _ ((HS.o.below HB.o).mono hsz) hl);go_wp2_with fail
   refine TG.o.mono ?_;rintro e w2 ⟨A2,c2,rfl,hs2,hb2⟩;have cO:=η hs2;have aV:Hid (β w w2):=HB.o.trans (hb2.mono hsz);have nH:aA (bG L)<=4611686018427387904:=by rw [qu];omega
   go_wp2_with fail
   refine(EB (bG L) A2 c2 _ (MN HI.o) cO.o nH).mono ?_;rintro e w3 ⟨rfl,hb3⟩;have af:Hid (β w w3):=aV.o.trans (hb3.mono aV.o.size);go_wp2_with fail
   go_ret;exact⟨cW HE.o.symm,af.o⟩
 have aGl:(1024:Int)<(aA L:Int):=by omega
 have HE:Hid (dF L=6):=by show _=_;unfold dF;rw [ifP (by omega)]
 go_enter aAv,aBi
 go_wp2_with fail
 go_ret;exact⟨cW HE.o.symm,aX _ _⟩
section
open Go.Proofs.YtdokipdchlcmeaaGreat.pJ Go.Proofs.YtdokipdchlcmeaaGreat.ShareLaw
theorem a7t(n:Nat)(f:Nat->Int):∀k,k<=n->sumI ((cZ n f).take k)=dg f k
 |0,_=>by simp [sumI,dg]
 |k+1,h=>by
  have hk:k<aA (cZ n f):=by rw [rI];omega
  rw [YV hk,a7t n f k (by omega),E8 hk];rfl
theorem aL6(n:Nat)(f:Nat->Int):sumI (cZ n f)=dg f n:=by rw [<-a7t n f n (aZ _),List.take_of_length_le (by grind [rI])]
theorem a7r:∀n,sumI (gP n 0)=0
 |0=>rfl
 |n+1=>by rw [List.replicate_succ];unfold sumI;rw [a7r n];rfl
theorem aCg {T:Int} {l:List Int}(h:iP T l=0):za T l=0/\((sumI l<=T/\dN T l=l)\/(T<sumI l/\T=0/\dN T l=gP (aA l) 0)\/(T<sumI l/\0<T/\dN T l=cZ (aA l) (ShareLaw.part T (sumI l) (wf l) (aA l)))):=by have F:=QJ h;have hp:=F.pos;grind [za,dN,vU,uV]
structure a8t(T:Int)(l:List Int):Prop where
 err:za T l=0
 len:aA (dN T l)=aA l
 bd:∀i (h:i<aA (dN T l)) (h':i<aA l),0<=(dN T l)[i]/\(dN T l)[i]<=l[i]
 sum:sumI (dN T l)=min T (sumI l)
theorem getElem_of_eq {α:Type} {l m:List α}(e:l=m) {i:Nat}(h:i<aA l):l[i]=m[i]'(e▸h):=by subst e;rfl
theorem aLp {l:List Int}(h:∀x∈l,0<=x):∀i,i<aA l->0<=wf l i:=λi hi=>by grind [LB,cK]
theorem F5 {T:Int} {l:List Int}(h:iP T l=0):a8t T l:=by
 have F:=QJ h;obtain⟨e,hc⟩:=aCg h;rcases hc with⟨h1,h2⟩|⟨h1,h2,h3⟩|⟨h1,h2,h3⟩
 ·refine⟨e,by rw [h2],λi hi hi'=> ?_,by grind⟩;rw [getElem_of_eq h2 hi];exact⟨F.all _ (cK hi'),dM _⟩
 ·refine⟨e,by grind,λi hi hi'=> ?_,by grind [a7r]⟩;rw [getElem_of_eq h3 hi,PG];exact⟨dM _,F.all _ (cK hi')⟩
 have hs:=Yc l;refine⟨e,by rw [h3,rI],λi hi hi'=> ?_, ?_⟩
 ·rw [getElem_of_eq h3 hi,E8,<-LB hi'];have hw:=aLp F.all i hi';exact⟨aJK (by omega) (by omega) hs hw,aJJ (by omega) (by omega) hs hw⟩
 grind [aL6,aLD]
theorem Vl {T:Int} {l:List Int}(h:iP T l=0):fitB l (dN T l)=aO:=by have G:=F5 h;exact(QI G.len.symm).2 λi h1 h2=>G.bd i h2 h1
end
def yr(a b:Int):Int:=if a<=b then 0 else if dR (a-b)=0 then gU (a-b) else 9223372036854775807
theorem aJA {a b:Int}(ha:0<=a)(hb:0<=b)(h:aL a):yr a b=max (a-b) 0:=by
 unfold yr;by_cases h1:a<=b
 ·rw [ifP h1];omega
 have hI:aL (a-b):=by unfold aL at*;omega
 rw [ifN h1,(eH hI).1,(eH hI).2,ifP rfl];omega
theorem aJC(a b:Int)(w:aJ)(ha:aL a)(hb:aL b):
 aQ aM 86 #[ν a,ν b] w λe w'=>e=aT (ν (yr a b))/\w=w':=by
 have HS:=λW=>η (SP a b W ha hb)
 have HD:=η (show yr a b=if a<=b then 0 else if dR (a-b)=0 then gU (a-b) else 9223372036854775807 from rfl);by_cases h1:a<=b
 ·have HE:Hid (yr a b=0):=by show _=_;rw [HD.o,ifP h1]
  go_enter ME,MG
  go_wp2_with fail
  go_ret;exact⟨cW HE.o.symm,rfl⟩
 by_cases h2:dR (a-b)=0
 ·have HE:Hid (yr a b=gU (a-b)):=by show _=_;rw [HD.o,ifN h1,ifP h2]
  rw [h2] at HS;generalize gU (a-b)=V at*;go_enter ME,MG
  go_wp2_with fail
  refine(HS _).o.mono ?_;rintro e w1 ⟨rfl,rfl⟩;go_wp2_with fail
  go_ret;exact⟨cW HE.o.symm,rfl⟩
 have HE:Hid (yr a b=9223372036854775807):=by show _=_;rw [HD.o,ifN h1,ifN h2]
 have h2b:(dR (a-b) !=0)=aO:=by simpa [bne] using h2
 generalize gU (a-b)=V at*;generalize dR (a-b)=E at*;go_enter ME,MG
 go_wp2_with fail
 refine(HS _).o.mono ?_;rintro e w1 ⟨rfl,rfl⟩;go_wp2_with fail
 go_ret;exact⟨cW HE.o.symm,rfl⟩
def ie(L:List Lg):Int:=if dF L=0 then sumI (bG L) else 0
theorem BW {L:List Lg}(h:dF L=0):aA L<=1024/\(∀k,k<aA L->zh L k=aP)/\aL (sumI (bG L)):=by
 unfold dF at h;by_cases h1:1024<aA L
 ·rw [ifP h1] at h;omega
 rw [ifN h1] at h;by_cases h2:(dQ (aA L)).any (zh L)=aO
 ·rw [ifP h2] at h;omega
 rw [ifN h2] at h;refine⟨by omega,λk hk=> ?_,a1g h⟩;cases hb:zh L k
 ·rfl
 exact absurd (kE.2 ⟨k,nV.2 hk,hb⟩) h2
theorem aE0 {L:List Lg}(h:dF L=0):gU (sumI (bG L))=sumI (bG L)/\dR (sumI (bG L))=0:=eH (BW h).2.2
theorem Ps(L:List Lg)(A:Option ai)(c:Nat)(w:aJ)(hs:aW w w.heap.size A (bB L))(hI:∀x∈L,aL x.n)(hl:aA L<=100000):
 aQ aM 129 #[aH A (aA L) c] w λe w'=>e=aT (bC #[ν (ie L),ν (dF L)])/\β w w':=by
 have HC:=η (Q2 L A c w hs hI hl);have HS:=η hs;have HI:=η hI;have HD:=η (show ie L=if dF L=0 then sumI (bG L) else 0 from rfl);have HQ:=η (aE0 (L:=L));by_cases h0:dF L=0
 ·have HE:Hid (ie L=sumI (bG L)):=by show _=_;rw [HD.o,ifP h0]
  have lT:=η (HQ.o h0);have H00:=η h0;rw [h0] at HC;go_enter aAk,aBX
  go_wp2_with fail
  refine HC.o.mono ?_;rintro e w1 ⟨rfl,hb1⟩;have aR:=η hb1;have TG:=η (V0 L A c _ ((HS.o.below aR.o).mono aR.o.size) hl);go_wp2_with fail
  refine TG.o.mono ?_;rintro e w2 ⟨A2,c2,rfl,hs2,hb2⟩;have cO:=η hs2;have aV:Hid (β w w2):=aR.o.trans (hb2.mono aR.o.size);have nH:aA (bG L)<=4611686018427387904:=by rw [qu];omega
  go_wp2_with fail
  refine(EB (bG L) A2 c2 _ (MN HI.o) cO.o nH).mono ?_;rintro e w3 ⟨rfl,hb3⟩;have af:Hid (β w w3):=aV.o.trans (hb3.mono aV.o.size);go_wp2_with fail
  go_ret2;exact⟨(by rw [HE.o,lT.o.1,lT.o.2,H00.o];first|done|rfl),af.o⟩
 have HE:Hid (ie L=0):=by show _=_;rw [HD.o,ifN h0]
 have h0b:(dF L !=0)=aO:=by simpa [bne] using h0
 generalize dF L=E at*;go_enter aAk,aBX
 go_wp2_with fail
 refine HC.o.mono ?_;rintro e w1 ⟨rfl,hb1⟩;have aR:=η hb1;go_wp2_with fail
 go_ret2;exact⟨(by rw [HE.o];first|done|rfl),aR.o⟩
def jO(cE:Int)(L:List Lg):Int:=if dF L≠0 then dF L else if cE<0 then 1 else 0
def Ab(cE:Int)(L:List Lg):Int:=if jO cE L=0 then yr (sumI (bG L)) cE else 0
theorem a7U(cE:Int)(L:List Lg)(A:Option ai)(c:Nat)(w:aJ)(hA:aL cE)(hs:aW w w.heap.size A (bB L))(hI:∀x∈L,aL x.n)(hl:aA L<=100000):
 aQ aM 131 #[ν cE,aH A (aA L) c] w λe w'=>e=aT (bC #[ν (Ab cE L),ν (jO cE L)])/\β w w':=by
 have HC:=η (Ps L A c w hs hI hl);have HD:=η (show jO cE L=if dF L≠0 then dF L else if cE<0 then 1 else 0 from rfl);have HV:=η (show Ab cE L=if jO cE L=0 then yr (sumI (bG L)) cE else 0 from rfl);by_cases h0:dF L=0
 ·have kj:Hid (ie L=sumI (bG L)):=by show _=_;unfold ie;rw [ifP h0]
  have zL:=λW=>η (aJC (sumI (bG L)) cE W (BW h0).2.2 hA)
  rw [kj.o,h0] at HC;by_cases h1:cE<0
  ·have HE:Hid (jO cE L=1):=by show _=_;rw [HD.o,ifN (by omega),ifP h1]
   have mr:Hid (Ab cE L=0):=by show _=_;rw [HV.o,ifN (by rw [HE.o];omega)]
   go_enter a0b,a0v
   go_wp2_with fail
   refine HC.o.mono ?_;rintro e w1 ⟨rfl,hb1⟩;have aR:=η hb1;go_wp2_with fail
   go_ret2;exact⟨(by rw [HE.o,mr.o];first|done|rfl),aR⟩
  have HE:Hid (jO cE L=0):=by show _=_;rw [HD.o,ifN (by omega),ifN h1]
  have mr:Hid (Ab cE L=yr (sumI (bG L)) cE):=by show _=_;rw [HV.o,ifP HE.o]
  generalize yr (sumI (bG L)) cE=OV at*;generalize sumI (bG L)=S at*;go_enter a0b,a0v
  go_wp2_with fail
  refine HC.o.mono ?_;rintro e w1 ⟨rfl,hb1⟩;have aR:=η hb1;go_wp2_with fail
  refine(zL _).o.mono ?_;rintro e w2 ⟨rfl,rfl⟩;go_wp2_with fail
  go_ret2;exact⟨(by rw [HE.o,mr.o];first|done|rfl),aR⟩
 have HE:Hid (jO cE L=dF L):=by show _=_;rw [HD.o,ifP h0]
 have mr:Hid (Ab cE L=0):=by show _=_;rw [HV.o,ifN (by rw [HE.o];exact h0)]
 have h0b:(dF L !=0)=aO:=by simpa [bne] using h0
 generalize dF L=E at*;generalize ie L=S at*;go_enter a0b,a0v
 go_wp2_with fail
 refine HC.o.mono ?_;rintro e w1 ⟨rfl,hb1⟩;have aR:=η hb1;go_wp2_with fail
 go_ret2;exact⟨(by rw [HE.o,mr.o];first|done|rfl),aR⟩
def fB(L:List Lg)(xs:List Int):List Lg:=(kV (λ(x:Lg) n=>(⟨x.m,x.a,n⟩:Lg)) L xs).filter λx=>decide (0<x.n)
theorem aKm {L:List Lg} {xs:List Int} {k:Nat}(h:k<aA L)(h':k<aA xs):fB (L.take (k+1)) (xs.take (k+1))=fB (L.take k) (xs.take k)++if 0<xs[k] then [⟨L[k].m,L[k].a,xs[k]⟩] else []:=by unfold fB;rw [fH h,fH h',List.zipWith_append (by simp;omega),List.filter_append];by_cases c:0<xs[k]<;>simp [c]
theorem aKl(L:List Lg)(xs:List Int)(k:Nat):aA (fB (L.take k) (xs.take k))<=k:=by unfold fB;refine bz (qo _ _) ?_;rw [Ei,vN];omega
theorem SL(L:List Lg)(xs:List Int):aA (fB L xs)<=aA L:=by unfold fB;refine bz (qo _ _) ?_;rw [Ei];omega
theorem Q3 {cE:Int} {L:List Lg}(h:jO cE L=0):iP cE (bG L)=0/\dF L=0/\0<=cE:=by
 unfold jO at h;by_cases h1:dF L≠0
 ·rw [ifP h1] at h;exact absurd h h1
 rw [ifN h1] at h;have h0:dF L=0:=by omega
 obtain⟨a,b,d⟩:=BW h0;have hA:0<=cE:=by
  by_cases h2:cE<0
  ·rw [ifP h2] at h;omega
  omega
 refine⟨?_,h0,hA⟩;have hn:=a5u λk hk=>by
  rw [qu] at hk;have:=b k hk;rw [Hi hk] at this;simp only [Bool.or_eq_false_iff,decide_eq_false_iff_not] at this;have e:(bG L)[k]'(by rw [qu];exact hk)=L[k].n:=by unfold bG;rw [xC]
  rw [e];omega
 unfold iP;rw [ifN (by rw [qu];omega),ifN (by rw [hn];simp;omega),(eH d).2]
def jn(cE:Int)(L:List Lg):List Lg:=if jO cE L=0 then fB L (dN cE (bG L)) else []
def jv(cE:Int)(L:List Lg):List Lg:=if jO cE L=0 then fB L (oT (bG L) (dN cE (bG L))) else []
theorem aHp {T:Int} {l:List Int}(h:iP T l=0):aA (oT l (dN T l))=aA l/\AV l (dN T l)=0:=by have G:=F5 h;unfold oT AV;rw [Vl h];refine⟨?_,rfl⟩;rw [ifP rfl,Ei,G.len,Nat.min_self]
def gatE(f:Int->List Int):List Int->Int
 | []=>0
 |k::ks=>if aL (sumI (f k)) then gatE f ks else 2
def ni(f:Int->List Int)(ks:List Int):List Lg:=ks.map λk=>⟨k,0,sumI (f k)⟩
def ru(f:Int->List Int)(ks:List Int):List Lg:=if gatE f ks=0 then ni f ks else []
theorem a3U {f:Int->List Int}:∀ {ks:List Int} {k:Nat} (hk:k<aA ks),(∀j (hj:j<k),aL (sumI (f ks[j])))->¬aL (sumI (f ks[k]))->gatE f ks=2
 |x::xs,0,_,_,h=>by unfold gatE;rw [ifN (by simpa using h)]
 |x::xs,k+1,hk,h,h'=>by unfold gatE;rw [ifP (by have:=h 0 (by omega);simpa using this)];exact a3U (by simpa using hk) (λj hj=>by have:=h (j+1) (by omega);simpa using this) (by simpa using h')
theorem Vk {f:Int->List Int}:∀ {ks:List Int},(∀j (hj:j<aA ks),aL (sumI (f ks[j])))->gatE f ks=0
 | [],_=>rfl
 |x::xs,h=>by unfold gatE;rw [ifP (by have:=h 0 (by simp);simpa using this)];exact Vk λj hj=>by have:=h (j+1) (by simpa using hj);simpa using this
theorem aFu(f:Int->List Int) {ks:List Int} {k:Nat}(hk:k<aA ks):ni f (ks.take (k+1))=ni f (ks.take k)++ [⟨ks[k],0,sumI (f ks[k])⟩]:=by unfold ni;rw [fH hk,dh];rfl
theorem Nf:(aM.info? 76).map (λi=>(i.zero,i.size,i.bytes))=aC (aC (bP #[aG aF 0,aG aF 0,aG aF 0]),3,24):=by kernel_rfl
theorem Km(x:Lg):∀u∈x.cells,u.oneCell'=aO:=by intro u hu;simp [Lg.cells] at hu;rcases hu with rfl|rfl|rfl<;>rfl
theorem aHk(l:List Lg)(x:Lg):bB (l++ [x])=bB l++x.cells:=by simp [bB]
theorem Nu {wr w1:aJ} {base:Nat} {e:bZ} {s n:Nat} {u:aN} {xs:List aN}(h:wr.ownsRow base e s u n xs)(hb:aa wr.heap.size wr w1):w1.ownsRow base e s u n xs:=
 h.kept ⟨hb.os,hb.tape,hb.output,hb.size,λk hk _=>hb.block k hk⟩ (by cases u.ownBlock<;>simp:u.ownBlock=aB\/u.ownBlock≠aB)
end Go.Proofs.YtdokipdchlcmeaaGreat
namespace Go.Proofs
open Go.Proofs.Tryz
open Go.Shelf
def growL_ren:zB:=⟨fun|4=>232|n=>n,fun|22=>39|25=>76|3=>3|4=>4|9=>9|20=>20|0=>0|n=>n,fun|n=>n⟩
theorem growL:Z8 aM growL_ren:= {
 mixed:=by kernel_rfl
 f4:=⟨f232.name,by decide,func232.trans (congrArg aC (by kernel_rfl))⟩
 t0:=Hb
 a0:=Gx
 z0:=Ha
 v0:=Hf
 t3:=xF
 a3:=DC
 z3:=DF
 v3:=DI
 t4:=BQ
 a4:=DD
 z4:=DG
 v4:=DJ
 t9:=Pc
 a9:=PX
 z9:=PZ
 v9:=Pf
 t20:=a1R
 a20:=a0p
 z20:=a1M
 v20:=a1U
 t22:=tG
 a22:=isAgg39
 z22:=sizeOf39
 v22:=zeroValue39}
def growA_ren:zB:=⟨fun|4=>278|n=>n,fun|22=>53|25=>2|3=>3|4=>4|9=>9|20=>20|0=>0|n=>n,fun|n=>n⟩
theorem growA:Z8 aM growA_ren:= {
 mixed:=by kernel_rfl
 f4:=⟨f278.name,by decide,func278.trans (congrArg aC (by kernel_rfl))⟩
 t0:=Hb
 a0:=Gx
 z0:=Ha
 v0:=Hf
 t3:=xF
 a3:=DC
 z3:=DF
 v3:=DI
 t4:=BQ
 a4:=DD
 z4:=DG
 v4:=DJ
 t9:=Pc
 a9:=PX
 z9:=PZ
 v9:=Pf
 t20:=a1R
 a20:=a0p
 z20:=a1M
 v20:=a1U
 t22:=mX
 a22:=isAgg53
 z22:=sizeOf53
 v22:=zeroValue53}
def growI_ren:zB:=⟨fun|4=>219|n=>n,fun|22=>46|25=>3|3=>3|4=>4|9=>9|20=>20|0=>0|n=>n,fun|n=>n⟩
theorem growI:Z8 aM growI_ren:= {
 mixed:=by kernel_rfl
 f4:=⟨f219.name,by decide,func219.trans (congrArg aC (by kernel_rfl))⟩
 t0:=Hb
 a0:=Gx
 z0:=Ha
 v0:=Hf
 t3:=xF
 a3:=DC
 z3:=DF
 v3:=DI
 t4:=BQ
 a4:=DD
 z4:=DG
 v4:=DJ
 t9:=Pc
 a9:=PX
 z9:=PZ
 v9:=Pf
 t20:=a1R
 a20:=a0p
 z20:=a1M
 v20:=a1U
 t22:=yU
 a22:=MF
 z22:=MH
 v22:=MI}
end Go.Proofs
namespace Go.Proofs.YtdokipdchlcmeaaGreat
open Go.Proofs.Tryz Go.RowKit
structure su(w:aJ)(A:Option ai)(c:Nat)(L:List Lg):Prop where
 eA:aW w w.heap.size A (bB L)
 nil:A=aB->aA L=0/\c=0
theorem su.below {w w':aJ} {A:Option ai} {c:Nat} {L:List Lg}(h:su w A c L)(hb:aa w.heap.size w w'):su w' A c L:=⟨(h.eA.below hb).mono hb.size,h.nil⟩
theorem a5Y(L:List Lg):∀u∈bB L,u.oneCell'=aO:=by intro u hu;obtain⟨x,_,hx⟩:=List.mem_flatMap.1 hu;exact Km x u hx
theorem a5X(L:List Lg):aA (bB L)=aA L*3:=by
 unfold bB;induction L with
 |nil=>rfl
 |cons x L ih=>rw [xB,cN,ih,uS];simp [Lg.cells];omega
theorem Sp {w:aJ} {ops:Array Oper} {rest:List Oper} {o:Oper} {a:Act} {Q:Exit->Act->aJ->Prop}(hgd:o.guard=aB)(s x:Operand)
 (ho:o.op= .call {callee:= .builtin .append,args:= #[s,x],argTypes:= #[39,39]}) (base:Nat)
 (v:aN) (n:Nat) (xs:List aN) (hs:a.eval s=v) (hown:w.ownsRow base 76 3 v n xs)
 (A:Option ai) (c:Nat) (L:List Lg) (hx:a.eval x=aH A (aA L) c) (hz:su w A c L) (hlen:n+aA L<=1000000) (hbase:base<=w.heap.size)
 (h:∀v' w',w'.ownsRow base 76 3 v' (n+aA L) (xs++bB L)->w.grownBy w' v.ownBlock->wpList aM ops Q rest (a.put o.dst v') w'):wpList aM ops Q (o::rest) a w:=by
 obtain⟨i0,bu,hz0,hz1,hz2⟩:=dP Nf;cases A with
 |none=>
  obtain⟨h1,rfl⟩:=hz.nil rfl;obtain rfl:L= []:=nU h1;refine wpList_append_own_none hgd s x 39 ho base 76 i0 3 tG bu v n xs hs hown hx (h v w (by simpa [bB] using hown) ⟨rfl,rfl,rfl,aZ _,λ_ _ _=>rfl⟩)
 |some ad=>
  refine jC w hgd s x 39 ho base 76 i0 _ 3 24 tG bu hz0 hz1 hz2 rfl (by decide) v n xs hs hown ad (aA L) c (bB L) hx (a5X L) ?_ (a5Y L) (by simp only [bO];omega) (by omega) hbase ?_
  ·intro j u hu;obtain⟨b,o',e,_,hc⟩:=hz.eA j u hu;have e:=pH e;subst e;have ea:(⟨b,o',aB⟩:ai).add j=⟨b,o'+j,aB⟩:=by unfold Addr.add;split<;>simp_all
   rw [ea];exact hc
  intro v' w' h1 h2 _;exact h v' w' h1 h2
theorem a3k(w:aJ)(z:Array aN)(n k:Nat)(e:bZ)(hk:z.size=k)(hn:n<=1000000):kF (w.drew.alloc (aK (([]:List aN).toArray++EH z (0+n-0)++EH z (xR w (0+n) 0 e-(0+n))) e)) w.heap.size e k (aH (aC ⟨w.heap.size,0,aB⟩) 0 (xR w (0+n) 0 e)) 0 []:=by rw [Nat.zero_add];have h1:=grownCap_ge w n 0 e;refine⟨by simp,Or.inr ⟨w.heap.size,_,_,rfl,aZ _,cQ _ _,bM _,grownCap_le_maxLen w n 0 e (by simp only [bO];omega), ?_,by simp⟩⟩;simp only [Array.size_append,List.size_toArray,Eh,size_zeroCells,hk];rw [Nat.sub_zero,Nat.zero_add,<-Gm,Nat.add_sub_cancel' h1]
theorem aG5(w:aJ)(n:Nat)(hn:n<=1000000):kF (w.drew.alloc (aK (([]:List aN).toArray++EH (Value.agg #[aG aF 0,aG aF 0,aG aF 0]).cells (0+n-0)++EH (Value.agg #[aG aF 0,aG aF 0,aG aF 0]).cells (xR w (0+n) 0 76-(0+n))) 76)) w.heap.size 76 3 (aH (aC ⟨w.heap.size,0,aB⟩) 0 (xR w (0+n) 0 76)) 0 []:=a3k w _ n 3 _ rfl hn
def a9F(l:List Lg)(w:aJ)(e:dX)(w':aJ):Prop:=∃A c,e=aT (aH A (aA l) c)/\w'.ownsRow w.heap.size 76 3 (aH A (aA l) c) (aA l) (bB l)/\aa w.heap.size w w'
theorem aEP(z1 z2:List Lg)(A1 A2:Option ai)(c1 c2 g:Nat)(w:aJ)(h1:su w A1 c1 z1)(h2:su w A2 c2 z2)(g0:w.cell? ⟨g,0,aB⟩=aC (aH A1 (aA z1) c1))(g1:w.cell? ⟨g,1,aB⟩=aC (aH A2 (aA z2) c2))(hg:g<w.heap.size)(oO:aA z1<=100000)(hl2:aA z2<=100000):
 aQ aM 200 #[aH (aC ⟨g,0,aB⟩) 2 2] w (a9F (z1++z2) w):=by
 have H1:=η h1;have H2:=η h2;have G1:=η g1;rcases Nat.eq_zero_or_pos (aA z1+aA z2) with h0|h0
 ·have kM:aA z1=0:=by omega
  have oP:aA z2=0:=by omega
  have e1:z1= []:=nU kM;have e2:z2= []:=nU oP;subst e1 e2;have qZ:Hid (w.ownsRow w.heap.size 76 3 (aH aB 0 0) 0 []):=⟨by simp,aS ⟨rfl,rfl⟩⟩;simp only [Eh] at g0 g1;go_enter aAy,aBl
  go_wp2_with fail
  refine ux 3 ?_;rw [eI];go_wp2_with fail
  rw [eI];go_wp2_with fail
  rw [eI];go_wp2_with fail
  refine(Any8.slices_Grow_room growL aB 0 0 0 _ (by omega) (by omega) (by omega) (by omega)).mono ?_;rintro e w2 ⟨rfl,hw2⟩;obtain rfl:w=w2:=hw2.symm;go_wp2_with fail
  refine ux 3 ?_;rw [eI];go_wp2_with (at_builtin;refine Sp rfl _ _ rfl w.heap.size _ 0 [] rfl qZ.o A1 c1 [] rfl H1.o (by simp) (aZ _) ?_)
  intro v3 w3 j7 hg3;have cD:Hid (w3.ownsRow w.heap.size 76 3 v3 0 []):=by show kF _ _ _ _ _ _ _;simpa [bB] using j7
  have af:Hid (β w w3):=η ((aX _ _).grown hg3 (aZ _) (λj hj=>eU qZ.o j hj));have q1:w3.cell? ⟨g,1,aB⟩=aC (aH A2 0 c2):=(af.o.cell (p:=⟨g,1,aB⟩) hg).trans G1.o;have CU:=η (H2.o.below af.o);have vK:=η af.o.size;go_wp2_with fail
  rw [eI];go_wp2_with (at_builtin;refine Sp rfl _ _ rfl w.heap.size _ 0 [] rfl cD.o A2 c2 [] rfl CU.o (by simp) vK.o ?_)
  intro v4 w4 iC hg4;have dY:Hid (w4.ownsRow w.heap.size 76 3 v4 0 []):=by show kF _ _ _ _ _ _ _;simpa [bB] using iC
  have ar:Hid (β w w4):=η (af.o.trans ((aX _ _).grown hg4 vK.o (λj hj=>eU cD.o j hj)));go_wp2_with fail
  rw [eI];go_wp2_with fail
  go_ret;obtain⟨A4,c4,rfl⟩:=bL dY.o;exact⟨A4,c4,rfl,dY.o,ar.o⟩
 have yj:aF.wrap ((aA z1:Int)+aA z2)=(aA z1:Int)+aA z2:=sr _ (by omega);obtain⟨i0,bu,hz0,hz1,hz2⟩:=dP Nf;go_enter aAy,aBl
 go_wp2_with fail
 refine ux 3 ?_;rw [eI];go_wp2_with fail
 rw [eI];go_wp2_with fail
 rw [eI];go_wp2_with fail
 clear yj;rw [show ((aA z1:Int)+(aA z2:Int))=((aA z1+aA z2:Nat):Int) from by omega];refine(Any8.slices_Grow_grow growL i0 (bP #[ν 0,ν 0,ν 0]) bu hz0 (by rw [hz1];decide) aB 0 0 (aA z1+aA z2) [] _ (by omega) (by omega) (by rw [hz2];omega) (by omega) (by simp) (λ_=>rfl) (λa h=>by cases h)).mono ?_;rintro e w2 ⟨rfl,hw2⟩;have qZ:Hid (w2.ownsRow w.heap.size 76 3 (aH (aC ⟨w.heap.size,0,aB⟩) 0 (xR w (0+(aA z1+aA z2)) 0 76)) 0 []):=by show kF _ _ _ _ _ _ _;rw [hw2];exact aG5 w (aA z1+aA z2) (by omega)
 have pC:Hid (β w w2):=by show RowKit.Below _ _ _;rw [hw2];exact(aX _ _).drew.alloc (aZ _) _
 have HZ:=η pC.o.size;have wR:=η (H1.o.below pC.o);have p0:w2.cell? ⟨g,0,aB⟩=aC (aH A1 (aA z1) c1):=(pC.o.cell (p:=⟨g,0,aB⟩) hg).trans g0;clear hw2 g0 g1;rw [show (growL_ren.t 25)=76 from rfl];generalize xR w (0+(aA z1+aA z2)) 0 76=cap at*;go_wp2_with fail
 refine ux 3 ?_;rw [eI];go_wp2_with (at_builtin;refine Sp rfl _ _ rfl w.heap.size _ 0 [] rfl qZ.o A1 c1 z1 rfl wR.o (by omega) HZ.o ?_)
 intro v3 w3 j7 hg3;have cD:Hid (w3.ownsRow w.heap.size 76 3 v3 (aA z1) (bB z1)):=by show kF _ _ _ _ _ _ _;simpa using j7
 have mV:Hid (β w w3):=η (pC.o.trans ((aX _ _).grown hg3 HZ.o (λj hj=>eU qZ.o j hj)));have q1:w3.cell? ⟨g,1,aB⟩=aC (aH A2 (aA z2) c2):=(mV.o.cell (p:=⟨g,1,aB⟩) hg).trans G1.o;have CU:=η (H2.o.below mV.o);have vK:=η mV.o.size;clear j7 hg3;go_wp2_with fail
 rw [eI];go_wp2_with (at_builtin;refine Sp rfl _ _ rfl w.heap.size _ (aA z1) (bB z1) rfl cD.o A2 c2 z2 rfl CU.o (by omega) vK.o ?_)
 intro v4 w4 iC hg4;have dY:Hid (w4.ownsRow w.heap.size 76 3 v4 (aA (z1++z2)) (bB (z1++z2))):=by show kF _ _ _ _ _ _ _;rw [cN,show bB (z1++z2)=bB z1++bB z2 by simp [bB]];exact iC
 have ar:Hid (β w w4):=η (mV.o.trans ((aX _ _).grown hg4 vK.o (λj hj=>eU cD.o j hj)));clear iC hg4 q1;go_wp2_with fail
 rw [eI];go_wp2_with fail
 go_ret;obtain⟨A4,c4,rfl⟩:=bL dY.o;exact⟨A4,c4,rfl,dY.o,ar.o⟩
section
open Go.Maps Go.MapKept Go.ChangeMaps
open Go.WideElems (Fit)
theorem a4p {x:Int}(h:aL x):(Lit.int aF x).wf=aO:=by unfold aL at h;have h1:aF.min= -9223372036854775808:=rfl;have h2:aF.max=9223372036854775807:=rfl;simp only [Lit.wf,ji,decide_eq_true_eq,h1,h2];exact h
def encI(n:Int):aN:=aG aF n
theorem Bo:CS aM 3 encI aL where
 keyed:=Go.Maps.int_keyed xF
 key:=λq hq=>⟨_,a8v xF (a4p hq)⟩
 inj:=λq q' h=>by unfold encI at h;simpa using h
def mK(q:Int)(m:List (Int×aN)):aN:=(getM q m).getD (aH aB 0 0)
structure lL(w:aJ)(base b:Nat)(m:List (Int×aN))(f:Int->List Int):Prop where
 map:ei aM 3 encI w b m
 yy:∃es clock,w.heap[b]? =aC (.map es clock)/\Stamped es clock
 low:b<base
 rows:∀p∈m,w.ownsRow base 2 1 p.2 (aA (f p.1)) ((f p.1).map encI)
 far:∀p∈m,∀q∈m,p.1≠q.1->p.2.ownBlock=aB\/p.2.ownBlock≠q.2.ownBlock
 off:∀q,(∀p∈m,p.1≠q)->f q= []
 dom:∀p∈m,aL p.1
section
variable {w w' w1:aJ} {base b:Nat} {m:List (Int×aN)} {f:Int->List Int}
theorem lL.made(w:aJ):lL (w.alloc (.map #[] 0)) (w.heap.size+1) w.heap.size [] (λ_=> []):=
 ⟨ei.made _ _ _ _,⟨#[],0,cQ w _,stamped_empty 0⟩,Nat.lt_succ_self _,by simp,by simp,λ_ _=>rfl,by simp⟩
theorem Rx {e:bZ} {size n:Nat} {v:aN} {xs:List aN}(h:w.ownsRow base e size v n xs) {g:Nat}(hg:g<base):v.ownBlock≠aC g:=λe=>by have:=(h.lt _ e).1;omega
theorem lL.below {B:Nat}(h:lL w base b m f)(hB:w.heap.size<=B)(hb:aa B w w'):lL w' base b m f:=by obtain⟨es,clock,hb',hs⟩:=h.yy;have hlt:=h.map.lt;refine⟨h.map.below (by omega) hb,⟨es,clock,(hb.block b (by omega)).trans hb',hs⟩,h.low,λp hp=>(h.rows p hp).kept ⟨hb.os,hb.tape,hb.output,hb.size,λk hk _=>hb.block k (cL hk hB)⟩ (by cases p.2.ownBlock<;>simp:p.2.ownBlock=aB\/p.2.ownBlock≠aB),h.far,h.off,h.dom⟩
theorem Xc {q:Int} {v:aN}:∀ {m:List (Int×aN)},getM q m=aC v->(q,v)∈m
 | [],h=>by simp [getM] at h
 |p::m,h=>by
  unfold getM at h;split at h
  ·rename_i hc;have e:p.1=q:=by simpa using hc
   obtain⟨a,c⟩:=p;simp at e h;subst e h;exact pG ..
  exact dx _ (Xc h)
theorem a3Z {q:Int}:∀ {m:List (Int×aN)},getM q m=aB->∀p∈m,p.1≠q
 | [],_,p,hp=>by simp at hp
 |p::m,h,x,hx=>by
  unfold getM at h;split at h
  ·cases h
  rename_i hc;rcases fG.1 hx with rfl|hx
  ·simpa using hc
  exact a3Z h x hx
theorem lL.slot(h:lL w base b m f)(q:Int):w.ownsRow base 2 1 (mK q m) (aA (f q)) ((f q).map encI):=by
 unfold mK;cases hg:getM q m with
 |none=>rw [h.off q (a3Z hg)];exact gG _ _ _ _
 |some v=>exact h.rows _ (Xc hg)
theorem lL.look(h:lL w base b m f) {q:Int}(hq:aL q) {t:bZ}(ht:aM.underlying t=aC (.map 3 53)):(Instr.lookup t (.map (aC b)) (.int aF q) aP).run aM w= .ok (mK q m) w:=
 ei.look (P:=aM) aP Bo ht (z:= .slice aB 0 0) (by kernel_rfl) h.map h.dom hq
theorem J4 {q:Int} {v:aN}(ha:wO m) {x:Int×aN}(hx:x∈eV q v m):x=(q,v)\/(x∈m/\x.1≠q):=by
 induction m with
 |nil=>simp [eV] at hx;exact aS hx
 |cons p m ih=>
  obtain⟨h1,h2⟩:=kp.1 ha;unfold eV at hx;split at hx
  ·rename_i hc;have e:p.1=q:=by simpa using hc
   rcases fG.1 hx with hx|hx
   ·exact aS hx
   exact aU ⟨dx _ hx,λe'=>h1 x hx (e.trans e'.symm)⟩
  rename_i hc;rcases fG.1 hx with hx|hx
  ·subst hx;exact aU ⟨pG ..,by simpa using hc⟩
  rcases ih h2 hx with h|⟨h,h'⟩
  ·exact aS h
  exact aU ⟨dx _ h,h'⟩
theorem Y0 {q:Int} {v:aN}:∀(m:List (Int×aN)),aA (eV q v m)<=aA m+1
 | []=>by simp [eV]
 |p::m=>by
  unfold eV;split
  ·simp
  have:=Y0 (q:=q) (v:=v) m;simp;omega
theorem Y1 {q:Int} {v:aN} {x:Int×aN}(hx:x∈m):∃u,(x.1,u)∈eV q v m:=by
 induction m with
 |nil=>simp at hx
 |cons p m ih=>
  unfold eV;split
  ·rename_i hc;have e:p.1=q:=by simpa using hc
   rcases fG.1 hx with rfl|hx
   ·exact⟨v,by rw [e];exact pG ..⟩
   exact⟨x.2,dx _ hx⟩
  rcases fG.1 hx with rfl|hx
  ·exact⟨x.2,pG ..⟩
  obtain⟨u,hu⟩:=ih hx;exact⟨u,dx _ hu⟩
theorem S6 {q:Int} {v:aN}:∀(m:List (Int×aN)),(q,v)∈eV q v m
 | []=>by simp [eV]
 |p::m=>by
  unfold eV;split
  ·exact pG ..
  exact dx _ (S6 m)
theorem aL3 {t:bZ}(ht:aM.underlying t=aC (.map 3 53))(h:ei aM 3 encI w b m)(hs:∃es clock,w.heap[b]? =aC (.map es clock)/\Stamped es clock)(hd:∀p∈m,aL p.1) {q:Int}(hq:aL q)(v:aN):
 ∃w',(Ef t (.map (aC b)) (ν q) v).run aM w= .ok () w'/\ei aM 3 encI w' b (eV q v m)/\w.grownBy w' (aC b)/\∃es clock,w'.heap[b]? =aC (.map es clock)/\Stamped es clock:=by
 obtain⟨w',hrun,hM,hg⟩:=h.store Bo ht hd hq v;refine⟨w',hrun,hM,hg, ?_⟩;obtain⟨es,clock,hb,hs⟩:=hs;obtain⟨I4,Hq,hb0,hm⟩:=h.blk;obtain⟨rfl,rfl⟩:es=I4/\clock=Hq:=by rw [hb] at hb0;simpa using hb0
 obtain⟨kl,eK⟩:=Bo.key q hq;change (Ef t (.map (aC b)) (encI q) v).run aM w= .ok () w' at hrun;rcases ei.find Bo hm hd hq w with⟨h1,h2⟩|⟨j,v0,h1,h2,e0,h3,h4,h5⟩
 ·simp [Ef,run_underlying ht,BP hb,Bo.keyed.check w aP eK,h1,Gj _ hb,uU] at hrun;have hk:∀x∈es.toList,x.key≠encI q:=by
   intro x hx e;have h1:(x.key,x.val)∈m.map λp=>(encI p.1,p.2):=by rw [<-hm];exact aA8 (f:=λe=>(e.key,e.val)) hx
   obtain⟨p,hp,e'⟩:=di.1 h1;injection e' with e1 e2;exact h2 p hp (Bo.inj _ _ (e1.trans e))
  exact⟨_,_,by rw [<-hrun];exact heap_setBlock_same hb _,stamped_push hs hk⟩
 simp [Ef,run_underlying ht,BP hb,Bo.keyed.check w aP eK,h1,h3,h4,Bo.keyed.stays w eK,Gj _ hb,uU] at hrun;refine⟨_,_,by rw [<-hrun];exact heap_setBlock_same hb _,stamped_modify hs j (λe'=> {e' with key:=encI q,val:=v}) (λ_ _=>rfl) (λe _ h6=> ?_)⟩;have h7:=pH (h3.symm.trans h6);have h8:=h7▸h4;exact h8.symm
theorem lL.put {t:bZ}(ht:aM.underlying t=aC (.map 3 53))(h:lL w base b m f) {q:Int}(hq:aL q)(hg:w.grownBy w1 (mK q m).ownBlock) {v':aN} {ys:List Int}(hown:w1.ownsRow base 2 1 v' (aA ys) (ys.map encI))
 (hloc:v'.ownBlock=(mK q m).ownBlock\/∃g,v'.ownBlock=aC g/\w.heap.size<=g):
 ∃w2,(Ef t (.map (aC b)) (ν q) v').run aM w1= .ok () w2/\lL w2 base b (eV q v' m) (λk=>if k=q then ys else f k)/\w1.grownBy w2 (aC b):=by
 have jt:=h.slot q;have mF:aC b≠(mK q m).ownBlock:=λe=>Rx jt h.low e.symm
 obtain⟨es,clock,hb,hs⟩:=h.yy;have hlt:=h.map.lt;obtain⟨w2,hrun,hM,hg2,hst⟩:=aL3 ht (h.map.grown hg mF) ⟨es,clock,(hg.block b hlt mF).trans hb,hs⟩ h.dom hq v';have apart:∀p∈m,p.1≠q->p.2.ownBlock=aB\/p.2.ownBlock≠(mK q m).ownBlock:=by
  intro p hp hne;unfold mK;cases KW:getM q m with
  |none=>cases p.2.ownBlock<;>simp [eF]
  |some v=>exact h.far p hp _ (Xc KW) hne
 have apart':∀p∈m,p.1≠q->p.2.ownBlock=aB\/p.2.ownBlock≠v'.ownBlock:=by
  intro p hp hne;rcases hloc with e|⟨g,e,AB⟩
  ·rw [e];exact apart p hp hne
  cases hx:p.2.ownBlock with
  |none=>exact aS rfl
  |some gx=>
   refine aU λe'=> ?_
   have:=((h.rows p hp).lt gx hx).2;rw [e] at e';cases e';omega
 refine⟨w2,hrun,⟨hM,hst,h.low,λp hp=> ?_,λp hp p' nw hne=> ?_,λk hk=> ?_,λp hp=> ?_⟩,hg2⟩
 ·rcases J4 h.map.apart hp with rfl|⟨hp,hne⟩
  ·simp only [ifP];exact hown.kept hg2 (aU (Rx hown h.low))
  simp only [ifN hne];have h1:=(h.rows p hp).kept hg (apart p hp hne);exact h1.kept hg2 (aU (Rx h1 h.low))
 ·rcases J4 h.map.apart hp with rfl|⟨hp,lX⟩
  ·rcases J4 h.map.apart nw with rfl|⟨nw,a4a⟩
   ·exact absurd rfl hne
   rcases apart' p' nw a4a with e|e
   ·cases hv:v'.ownBlock with
    |none=>exact aS rfl
    |some g=>exact aU (by rw [e];simp)
   exact aU λe'=>e e'.symm
  rcases J4 h.map.apart nw with rfl|⟨nw,a4a⟩
  ·exact apart' p hp lX
  exact h.far p hp p' nw hne
 ·have hkq:k≠q:=λe=>hk _ (S6 m) e.symm
  simp only [ifN hkq];refine h.off k λp hp e=> ?_
  obtain⟨u,hu⟩:=Y1 (q:=q) (v:=v') hp;exact hk _ hu e
 rcases J4 h.map.apart hp with rfl|⟨hp,_⟩
 ·exact hq
 exact h.dom p hp
theorem lL.keys(h:lL w base b m f)(hl:aA m<=bO):∃D:DataW Unit,w.ownsMap aM 3 (λ_=>aC (.nil,[])) b (aA m) D/\Maps.size D=aA m/\(m.map (·.1)).Perm (intKeys D):=by
 obtain⟨es,clock,hb,hs⟩:=h.yy;obtain⟨I4,Hq,hb0,hm⟩:=h.map.blk;obtain⟨rfl,rfl⟩:es=I4/\clock=Hq:=by rw [hb] at hb0;simpa using hb0
 have hsz:es.size=aA m:=by have:=congrArg List.length hm;simpa using this
 have hkey:∀x∈es.toList,∃p∈m,x.key=encI p.1:=by
  intro x hx;have h1:(x.key,x.val)∈m.map λp=>(encI p.1,p.2):=by rw [<-hm];exact aA8 (f:=λe=>(e.key,e.val)) hx
  obtain⟨p,hp,e'⟩:=di.1 h1;injection e' with e1 e2;exact⟨p,hp,e1.symm⟩
 have eK:∀q,aL q->keyOf aM 3 (encI q)=aC (.int aF q):=λq hq=>a8v xF (a4p hq)
 have F:aMR (H:=Unit) aM 3 (λ_=>aC (.nil,[])) es clock:=⟨by rw [hsz];exact hl,hs,λx hx=>by obtain⟨p,hp,e⟩:=hkey x hx;exact⟨(.int aF p.1,.nil),by simp [aCP,e,eK p.1 (h.dom p hp)]⟩⟩;have hrg:es.toList.map (Pg (H:=Unit) aM 3 (λ_=>aC (.nil,[])))=m.map λp=>(Lit.int aF p.1,DataW.nil):=by
  have e1:es.toList.map (λe=>(e.key))=m.map λp=>encI p.1:=by have:=congrArg (List.map Prod.fst) hm;simpa [M5,Function.comp_def] using this
  have e2:es.toList.map (Pg (H:=Unit) aM 3 (λ_=>aC (.nil,[])))=(es.toList.map (λe=>e.key)).map λv=>((keyOf aM 3 v).map λkl=>(kl,(DataW.nil:DataW Unit))).getD (.bool aP,.nil):=by
   rw [M5];refine Jv λx _=> ?_
   simp only [Pg,aCP,Function.comp];cases keyOf aM 3 x.key<;>rfl
  rw [e2,e1,M5];refine Jv λp hp=> ?_
  simp [eK p.1 (h.dom p hp)]
 refine⟨.map ((es.toList.map (Pg aM 3 (λ_=>aC (.nil,[])))).foldr DataW.insert []),⟨es,clock,hb,F,by omega,rfl⟩, ?_, ?_⟩
 ·rw [Maps.size_eq,length_sorted];simp [hsz]
 have hp:=(aMS (es.toList.map (Pg (H:=Unit) aM 3 (λ_=>aC (.nil,[])))));have h2:=(hp.map λp:Lit×DataW Unit=>Go.intOf p.1).symm;refine List.Perm.trans ?_ h2;rw [hrg,M5];exact List.Perm.of_eq (Jv λp _=>rfl)
end
end
section
open Go.Maps Go.Sort Go.Shelf
theorem aHX(mb:Option Nat)(W:aJ):aQ aM 231 #[.map mb] W λe w'=>e=aT (.func (.func 262) #[] #[bD (aC ⟨W.heap.size,0,aB⟩)])/\w'=W.alloc (aK #[.map mb] 272):=
 tH.1 (AnyZI.keys_in keysA LF 5 trivial rfl mb W)
theorem aKq(m:Nat):AnyZI.SortsIn aM sortedA_ren LF m:=
 ⟨λblk off cap ss W hH hblk hsz=>tH.2 (slices_Sort_int blk off cap ss W hH hblk hsz),
  λp cap W=>tH.2 (slices_Sort_int_none p cap W)⟩
def nx(m:List (Int×aN)):List Int:=(m.map (·.1)).mergeSort λx y=>decide (x<=y)
theorem aHW(m:List (Int×aN)):aA (nx m)=aA m:=by simp [nx]
theorem aKr {w:aJ} {base b:Nat} {m:List (Int×aN)} {f:Int->List Int}(h:lL w base b m f)(hl:aA m<=1000000):
 aQ aM 230 #[.func (.func 262) #[] #[π w.heap.size]] (w.alloc (aK #[.map (aC b)] 272)) λe w'=>
  ∃A c,e=aT (aH A (aA m) c)/\aW w' w'.heap.size A ((nx m).map (aG aF))/\aa (w.heap.size+1) (w.alloc (aK #[.map (aC b)] 272)) w':=by
 obtain⟨D,hown,hsz,a4b⟩:=h.keys (by unfold bO;omega);have hbl:=hown.lt
 have hseq:SeqGives LF 2 aM 262 #[π w.heap.size] encZ (λss=>ss.Perm (intKeys D)) (Maps.size D) (w.alloc (aK #[.map (aC b)] 272)):=
  AnyZI.keys_gives (ρ:=keysA_ren) {keysA with} LF _ trivial rfl (by omega) w.heap.size b _ D _ (by simp) (by simp) (by obtain⟨es,clock,hb,Ft,hs,hD⟩:=hown;exact⟨es,clock,(Below.heap_alloc _ _ b hbl).trans hb,Ft,hs,hD⟩)
 have cS:=AnyZI.sorted_in sortedA LF 5 trivial trivial trivial trivial rfl (by omega) (aKq _) (enters_of func217 (by kernel_rfl) rfl) 262 #[π w.heap.size] trivial (enters_of func262 (by kernel_rfl) rfl) _ _ (by rw [hsz];unfold bO;omega) (by rw [hsz];omega) _ hseq;have cS':=tH.1 cS;change aQ aM 230 _ _ _ at cS';refine cS'.mono ?_;rintro e w' ⟨v,ss,rfl,hp,hrow,-,hb⟩;have hlen:aA ss=aA m:=by have:=(hp.trans a4b.symm).length_eq;simpa using this
 have KX:=mergeSort_of_perm_i (hp.trans a4b.symm);rw [KX,hlen] at hrow;obtain⟨A,c,rfl⟩:=bL hrow;exact⟨A,c,rfl,aW.cB hrow,by simpa using hb⟩
end
theorem SC {k:IntKind} {a b:Int}(h:a=b):aT (aG k a)=aT (aG k b):=by rw [h]
def rJ(a:Int):Nat:=a.natAbs
theorem a7G(a:Int)(w:aJ)(ha:aL a):aQ aM 204 #[aG aF a] w λe w'=>e=aT (aG .u64 (rJ a:Int))/\w=w':=by
 have ha1:=ha.1;have ha2:=ha.2;have hn:rJ a=a.natAbs:=rfl;have HN:=η hn;by_cases h:0<=a
 ·go_enter aAz,aBm
  go_wp2
  go_ret;refine⟨SC ?_,rfl⟩;have hn:=HN.o;first|omega|(simp only [vM];omega)
 go_enter aAz,aBm
 go_wp2
 go_ret;refine⟨SC ?_,rfl⟩;have hn:=HN.o;first|omega|(simp only [vM,fh];omega)
theorem YK(a:Int)(w:aJ)(ha:aL a):aQ aM 259 #[aG aF a] w λe w'=>e=aT (aG .u64 (rJ a:Int))/\w=w':=by
 have ha1:=ha.1;have ha2:=ha.2;have hn:rJ a=a.natAbs:=rfl;have HN:=η hn;by_cases h:a<0
 ·go_enter aB2,aBp
  go_wp2
  go_ret;refine⟨SC ?_,rfl⟩;have hn:=HN.o;first|omega|(simp only [vM];omega)
 go_enter aB2,aBp
 go_wp2
 go_ret;refine⟨SC ?_,rfl⟩;have hn:=HN.o;first|omega|(simp only [vM];omega)
theorem a6v {k:IntKind} {a c:Int} {b d:Bool}(h:a=c)(h':b=d):aT (bC #[aG k a,bK b])=aT (bC #[aG k c,bK d]):=by rw [h,h']
def O5(n:Nat)(b:Bool):Int:=if b then (if n<=9223372036854775808 then-(n:Int) else 18446744073709551616-n) else (if n<9223372036854775808 then n else n-18446744073709551616)
def J8(n:Nat)(b:Bool):Bool:=if b then decide (n<=9223372036854775808) else decide (n<9223372036854775808)
theorem YJ(n:Nat)(b:Bool)(w:aJ)(hn:n<18446744073709551616):aQ aM 260 #[aG .u64 (n:Int),bK b] w λe w'=>e=aT (bC #[aG aF (O5 n b),bK (J8 n b)])/\w=w':=by
 cases b
 ·go_enter aB3,aBq
  go_wp2
  go_ret2;refine⟨a6v ?_ ?_,rfl⟩
  ·unfold O5 fV;simp only [Yy,if_false];split<;>omega
  unfold J8;simp only [Yy,if_false];exact decide_eq_decide.2 (by omega)
 go_enter aB3,aBq
 go_wp2
 go_ret2;refine⟨a6v ?_ ?_,rfl⟩
 ·unfold O5 fV;simp only [vM,if_true];split<;>omega
 unfold J8;simp only [if_true];exact decide_eq_decide.2 (by omega)
theorem Sa {a:Int}(ha:aL a):rJ a<=9223372036854775808:=by have:=ha.1;have:=ha.2;unfold rJ;omega
theorem a8H(a b:Int):rJ a*rJ b=(a*b).natAbs:=(Int.natAbs_mul a b).symm
theorem mul_neg {a b:Int}(h:(decide (a<0) !=decide (b<0))=aO):a*b<=0:=by
 by_cases h1:a<0
 ·by_cases h2:b<0
  ·simp [h1,h2] at h
  exact Int.mul_nonpos_of_nonpos_of_nonneg (show a<=0 by omega) (show 0<=b by omega)
 by_cases h2:b<0
 ·exact Int.mul_nonpos_of_nonneg_of_nonpos (show 0<=a by omega) (show b<=0 by omega)
 simp [h1,h2] at h
theorem a5t {a b:Int}(h:(decide (a<0) !=decide (b<0))=aP):0<=a*b:=by
 by_cases h1:a<0
 ·by_cases h2:b<0
  ·have:=Int.mul_pos_of_neg_of_neg h1 h2;omega
  simp [h1,h2] at h
 by_cases h2:b<0
 ·simp [h1,h2] at h
 exact Int.mul_nonneg (show 0<=a by omega) (show 0<=b by omega)
theorem aIC {z:Int} {p hi lo:Nat} {s:Bool}(hp:p=z.natAbs)(hn:s=aO->z<=0)(hs:s=aP->0<=z)(np:lo=p % 18446744073709551616)(Dl:hi=p/18446744073709551616):
 (hi≠0->¬aL z)/\(hi=0->J8 lo s=aP->¬aL z)/\(hi=0->J8 lo s=aO->aL z/\O5 lo s=z):=by
 unfold aL J8 O5;cases s
 ·have:=hs rfl;refine⟨λh=>by omega,λh h'=> ?_,λh h'=> ?_⟩
  ·simp at h';omega
  simp at h';simp [h'];omega
 have:=hn rfl;refine⟨λh=>by omega,λh h'=> ?_,λh h'=> ?_⟩
 ·simp at h';omega
 simp at h';simp [h'];omega
theorem Xe(a b:Int)(w:aJ)(ha:aL a)(hb:aL b):aQ aM 229 #[aG aF a,aG aF b] w λe w'=>e=aT (bC #[aG aF (gU (a*b)),aG aF (dR (a*b))])/\w=w':=by
 have HA:=η ha;have HB:=η hb;obtain⟨z,hz⟩:=xq (a*b);obtain⟨lo,np⟩:=xq (rJ a*rJ b % 18446744073709551616);obtain⟨hi,Dl⟩:=xq (rJ a*rJ b/18446744073709551616);have HM:∀W,Hid (aQ aM 258 #[aG .u64 (rJ a:Int),aG .u64 (rJ b:Int)] W λe w'=>e=aT (bC #[aG .u64 (hi:Int),aG .u64 (lo:Int)])/\w'=W):=λW=>η (by have h1:=Sa ha;have h2:=Sa hb;rw [np,Dl];exact bits_Mul64 (rJ a) (rJ b) (by omega) (by omega) W)
 have Wm:lo<18446744073709551616:=by omega
 obtain⟨sg,nJ⟩:∃sg:Bool,sg= !(decide (a<0)==decide (b<0)):=⟨_,rfl⟩;have HW:=η (aIC (z:=z) (s:=sg) (by rw [a8H,hz]) (λh=>by rw [hz];exact mul_neg (nJ.symm.trans h)) (λh=>by rw [hz];exact a5t (nJ.symm.trans h)) np Dl);rw [<-hz];have HS:=η nJ;clear ha hb np Dl hz nJ;by_cases hh:hi=0
 ·subst hh;cases hB:J8 lo sg
  ·have hno:=HW.o.2.1 rfl hB;go_enter a0i,a1C
   go_wp2_with (first|(go_at_call 259;refine(YK _ _ (by first|exact HA|exact HB)).mono ?_;rintro e w' ⟨rfl,rfl⟩)|(go_at_call 258;refine(HM _).o.mono ?_;rintro e w' ⟨rfl,rfl⟩)|(go_at_call 260;rw [<-HS.o];refine(YJ lo sg _ Wm).mono ?_;rintro e w' ⟨rfl,rfl⟩))
   go_ret2;exact⟨nP (gw hno).1.symm (gw hno).2.symm,rfl⟩
  have Dt:=HW.o.2.2 rfl hB;go_enter a0i,a1C
  go_wp2_with (first|(go_at_call 259;refine(YK _ _ (by first|exact HA|exact HB)).mono ?_;rintro e w' ⟨rfl,rfl⟩)|(go_at_call 258;refine(HM _).o.mono ?_;rintro e w' ⟨rfl,rfl⟩)|(go_at_call 260;rw [<-HS.o];refine(YJ lo sg _ Wm).mono ?_;rintro e w' ⟨rfl,rfl⟩))
  go_ret2;exact⟨nP (by rw [(eH Dt.1).1]) (eH Dt.1).2.symm,rfl⟩
 have hno:=HW.o.1 hh;go_enter a0i,a1C
 go_wp2_with (first|(go_at_call 259;refine(YK _ _ (by first|exact HA|exact HB)).mono ?_;rintro e w' ⟨rfl,rfl⟩)|(go_at_call 258;refine(HM _).o.mono ?_;rintro e w' ⟨rfl,rfl⟩)|(go_at_call 260;rw [<-HS.o];refine(YJ lo sg _ Wm).mono ?_;rintro e w' ⟨rfl,rfl⟩))
 go_ret2;exact⟨nP (gw hno).1.symm (gw hno).2.symm,rfl⟩
def tx(x:ak)(i:Int):Prop:=1<=i/\i<=aA x.ss
instance(x:ak)(i:Int):Decidable (tx x i):=inferInstanceAs (Decidable (_/\_))
def df(x:ak)(i:Int):Pr:=if tx x i then x.ss.getD (i-1).toNat ⟨0,0⟩ else⟨0,0⟩
def jM(x:ak)(i:Int):Int:=if tx x i then 0 else 10
theorem a7N {x:ak} {i:Int}(h:¬tx x i):df x i=⟨0,0⟩/\jM x i=10:=by unfold df jM;rw [ifN h,ifN h];exact⟨rfl,rfl⟩
theorem aKT {x:ak} {k:Nat}(h:k<aA x.ss):df x ((k:Int)+1)=x.ss[k]/\jM x ((k:Int)+1)=0:=by
 have h1:tx x ((k:Int)+1):=by unfold tx;omega
 unfold df jM;rw [ifP h1,ifP h1,show ((k:Int)+1-1).toNat=k by omega];exact⟨by simp [List.getD,h],rfl⟩
theorem O3(x:ak)(i:Int)(w:aJ)(h:lj w x)(hI:aL i):
 aQ aM 117 #[x.val,ν i] w λe w'=>e=aT (bC #[bP #[ν (df x i).a,ν (df x i).b],ν (jM x i)])/\β w w':=by
 have aY:=η (mY w x);have uH:=(zl w x).c1;have HS:=η (h.s.below (mY w x));have Db:=hI.1;have hI2:=hI.2;by_cases h1:i<1
 ·have hP:=a7N (x:=x) (i:=i) (by unfold tx;omega);rw [hP.1,hP.2];unfold ak.val at*;go_enter a0Z,a0t
  go_wp2_with fail
  exact bodyPost_ret (v:=bC #[bP #[ν 0,ν 0],ν 10]) (by simp [results,a1K,go_sem]) rfl ⟨rfl,by repeat (first|exact aY.o|refine EF ?_ (by simp) _|refine rK ?_ (by simp) _)⟩
 by_cases h2:i<=aA x.ss
 ·obtain⟨k,hk⟩:∃k:Nat,k=(i-1).toNat:=⟨_,rfl⟩;have eK:k<aA x.ss:=by omega
  have hik:i=(k:Int)+1:=by omega
  have hP:=aKT eK;rw [<-hik] at hP;rw [hP.1,hP.2];have em:i-1=(k:Int):=by omega
  have h3:¬i>(aA x.ss:Int):=by omega
  clear hP hk hik h2;unfold ak.val at*;obtain⟨b,o,hA,hb,d0,d1⟩:=Fs HS.o eK;rw [hA] at aY uH d0 d1 ⊢;have oA:=η hb;generalize x.ss[k]=p at*;go_enter a0Z,a0t
  go_wp2_with fail
  exact bodyPost_ret (v:=bC #[bP #[ν p.a,ν p.b],ν 0]) (by simp [results,a1K,go_sem]) rfl ⟨rfl,by repeat (first|exact aY.o|refine EF ?_ (by simp) _|refine rK ?_ (by simp) _)⟩
 have hP:=a7N (x:=x) (i:=i) (by unfold tx;omega);rw [hP.1,hP.2];clear hP;unfold ak.val at*;go_enter a0Z,a0t
 go_wp2_with fail
 exact bodyPost_ret (v:=bC #[bP #[ν 0,ν 0],ν 10]) (by simp [results,a1K,go_sem]) rfl ⟨rfl,by repeat (first|exact aY.o|refine EF ?_ (by simp) _|refine rK ?_ (by simp) _)⟩
def Aj(x:ak)(a n:Int):Int:=if tx x a then (if n<1 then 0 else gU (n*(df x a).a)) else 0
def y8(x:ak)(a n:Int):Int:=if tx x a then (if n<1 then 1 else dR (n*(df x a).a)) else 10
theorem aLt(x:ak)(m a n:Int)(w:aJ)(h:lj w x)(ha:aL a)(hn:aL n)(hp:aL (df x a).a):
 aQ aM 197 #[x.val,bP #[ν m,ν a,ν n]] w λe w'=>e=aT (bC #[ν (Aj x a n),ν (y8 x a n)])/\β w w':=by
 have aY:=η (((aX _ w).alloc (aZ _) (aK #[aH x.Am (aA x.ms) x.cm,aH x.As (aA x.ss) x.cs,aH x.Ac (aA x.cy) x.cc,ν x.line,ν x.bW,ν x.lead,ν x.tr,ν x.bT] 26)).alloc (by simp) (aK #[ν m,ν a,ν n] 76));have HS:=λW (hb:β w W)=>η (O3 x a W (h.below hb) ha)
 have zQ:=η HS;have HN:=η hn;have HP:=η hp;have hV:Aj x a n=if tx x a then (if n<1 then 0 else gU (n*(df x a).a)) else 0:=rfl
 have hE:y8 x a n=if tx x a then (if n<1 then 1 else dR (n*(df x a).a)) else 10:=rfl
 have RA:jM x a=if tx x a then 0 else 10:=rfl
 generalize Aj x a n=V at*;generalize y8 x a n=E at*;unfold ak.val at*;have kS:Hid (∀W,aa ((w.alloc (aK #[aH x.Am (aA x.ms) x.cm,aH x.As (aA x.ss) x.cs,aH x.Ac (aA x.cy) x.cc,ν x.line,ν x.bW,ν x.lead,ν x.tr,ν x.bT] 26)).alloc (aK #[ν m,ν a,ν n] 76)).heap.size ((w.alloc (aK #[aH x.Am (aA x.ms) x.cm,aH x.As (aA x.ss) x.cs,aH x.Ac (aA x.cy) x.cc,ν x.line,ν x.bW,ν x.lead,ν x.tr,ν x.bT] 26)).alloc (aK #[ν m,ν a,ν n] 76)) W->W.cell? ⟨w.heap.size+1,2,aB⟩=aC (ν n)):=η λW hb=>by rw [hb.cell (p:=⟨w.heap.size+1,2,aB⟩) (by simp)];simp
 by_cases hs:tx x a
 ·rw [ifP hs] at hV hE RA;rw [RA] at zQ;generalize df x a=q at*;by_cases h1:n<1
  ·rw [ifP h1] at hV hE;subst hV hE;go_enter a0g,a1A
   go_wp2_with (first|(go_at_call 117;refine(zQ _ aY).o.mono ?_;rintro e w1 ⟨rfl,hb1⟩;have aR:=η (aY.o.trans (hb1.mono (by simp;omega)));have oO:w.heap.size+1<w1.heap.size:=(by have:=hb1.size;simp at this;omega);have k2:=kS.o _ hb1)|(go_at_call 229;refine(Xe _ _ _ HN HP).mono ?_;rintro e w1 ⟨rfl,rfl⟩))
   go_ret2;exact⟨rfl,aR.o.alloc (by omega) _⟩
  rw [ifN h1] at hV hE;subst hV hE;go_enter a0g,a1A
  go_wp2_with (first|(go_at_call 117;refine(zQ _ aY).o.mono ?_;rintro e w1 ⟨rfl,hb1⟩;have aR:=η (aY.o.trans (hb1.mono (by simp;omega)));have oO:w.heap.size+1<w1.heap.size:=(by have:=hb1.size;simp at this;omega);have k2:=kS.o _ hb1)|(go_at_call 229;refine(Xe _ _ _ HN HP).mono ?_;rintro e w1 ⟨rfl,rfl⟩))
  go_ret2;exact⟨rfl,aR.o.alloc (by omega) _⟩
 rw [ifN hs] at hV hE RA;rw [RA] at zQ;generalize df x a=q at*;subst hV hE;go_enter a0g,a1A
 go_wp2_with (first|(go_at_call 117;refine(zQ _ aY).o.mono ?_;rintro e w1 ⟨rfl,hb1⟩;have aR:=η (aY.o.trans (hb1.mono (by simp;omega)));have oO:w.heap.size+1<w1.heap.size:=(by have:=hb1.size;simp at this;omega);have k2:=kS.o _ hb1)|(go_at_call 229;refine(Xe _ _ _ HN HP).mono ?_;rintro e w1 ⟨rfl,rfl⟩))
 go_ret2;exact⟨rfl,aR.o.alloc (by omega) _⟩
theorem SN {P:Program} {w:aJ} {ops:Array Oper} {o:Oper} {a:Act} {K:Act->aJ->Prop} {Q:Exit->Act->aJ->Prop} {E:Prop}(hgd:o.guard=aB)(t:bZ)(mo xo vo:Operand)(ho:o.op= .mapUpdate t mo xo vo)
 {b:Nat} {q:aN} {v:aN} (hm:a.eval mo= .map (aC b)) (hx:a.eval xo=q) (hv:a.eval vo=v) {R:aJ->Prop} (hrun:∃w2,(Ef t (.map (aC b)) q v).run P w= .ok () w2/\R w2) (h:∀w2,R w2->K (a.put o.dst undef) w2):
 if Jz o (yielded ops a.tmps)=aO then Oper.wp P o a w K Q else E:=by
 have hw:Jz o (yielded ops a.tmps)=aO:=by simp [Jz,hgd]
 rw [ifP hw];obtain⟨w2,hr,h2⟩:=hrun;unfold Oper.wp;simp [execOp,ho,hm,hx,hv,hr,uU];exact h w2 h2
def mL(x:ak)(L:List Lg)(q:Int):List Int:=(L.filter λy=>y.m==q).map λy=>Aj x y.a y.n
def wthsE(x:ak):List Lg->Int
 | []=>0
 |y::L=>if y8 x y.a y.n=0 then wthsE x L else y8 x y.a y.n
theorem aM9(x:ak) {L:List Lg} {k:Nat}(hk:k<aA L)(q:Int):mL x (L.take (k+1)) q=if q=L[k].m then mL x (L.take k) q++ [Aj x L[k].a L[k].n] else mL x (L.take k) q:=by
 unfold mL;rw [fH hk,List.filter_append,dh];by_cases h:q=L[k].m
 ·rw [ifP h];simp [h]
 rw [ifN h];have h':¬L[k].m=q:=λe=>h e.symm
 simp [h']
theorem a8h {x:ak}:∀ {L:List Lg} {k:Nat} (hk:k<aA L),(∀j (hj:j<k),y8 x L[j].a L[j].n=0)->y8 x L[k].a L[k].n≠0->wthsE x L=y8 x L[k].a L[k].n
 |y::L,0,_,_,h=>by unfold wthsE;rw [ifN (by simpa using h)];rfl
 |y::L,k+1,hk,h,h'=>by unfold wthsE;rw [ifP (by have:=h 0 (by omega);simpa using this)];exact a8h (by simpa using hk) (λj hj=>by have:=h (j+1) (by omega);simpa using this) (by simpa using h')
theorem a8g {x:ak}:∀ {L:List Lg},(∀j (hj:j<aA L),y8 x L[j].a L[j].n=0)->wthsE x L=0
 | [],_=>rfl
 |y::L,h=>by unfold wthsE;rw [ifP (by have:=h 0 (by simp);simpa using this)];exact a8g λj hj=>by have:=h (j+1) (by simpa using hj);simpa using this
theorem a4o:(aM.info? 2).map (λi=>(i.zero,i.size,i.bytes))=aC (aC (aG aF 0),1,8):=by kernel_rfl
structure WI(x:ak)(L:List Lg)(w wr:aJ)(k:Nat)(m:List (Int×aN)):Prop where
 g:lL wr (w.heap.size+2) (w.heap.size+1) m (mL x (L.take k))
 len:aA m<=k
 ks:∀q,(∃p∈m,p.1=q)↔∃y∈L.take k,y.m=q
 ok:∀j (hj:j<aA L),j<k->y8 x L[j].a L[j].n=0
 bx:pd wr w.heap.size x
 b:β w wr
theorem pd.grown {w w':aJ} {bx:Nat} {x:ak} {row:Option Nat}(h:pd w bx x)(hg:w.grownBy w' row)(hne:aC bx≠row):pd w' bx x:=
 have k:=λo=>gu (w:=w) (w':=w') (a:=⟨bx,o,aB⟩) (hg.block bx h.lt hne)
 ⟨(k 0).trans h.c0,(k 1).trans h.c1,(k 2).trans h.c2,(k 3).trans h.c3,(k 4).trans h.c4,(k 5).trans h.c5,(k 6).trans h.c6,(k 7).trans h.c7,cL h.lt hg.size⟩
theorem WI.below {x:ak} {L:List Lg} {w wr w2:aJ} {k:Nat} {m:List (Int×aN)}(h:WI x L w wr k m)(hb:aa wr.heap.size wr w2):WI x L w w2 k m:=
 ⟨h.g.below (aZ _) hb,h.len,h.ks,h.ok,h.bx.below hb,h.b.trans (hb.mono h.b.size)⟩
theorem WI.step {x:ak} {L:List Lg} {w w2 w4 w5:aJ} {k:Nat} {m:List (Int×aN)} {v':aN}(h:WI x L w w2 k m)(hk:k<aA L)(he:y8 x L[k].a L[k].n=0)
 (hg:w2.grownBy w4 (mK L[k].m m).ownBlock) (h5:lL w5 (w.heap.size+2) (w.heap.size+1) (eV L[k].m v' m) (λq=>if q=L[k].m then mL x (L.take k) L[k].m++ [Aj x L[k].a L[k].n] else mL x (L.take k) q)) (fA:w4.grownBy w5 (aC (w.heap.size+1))):WI x L w w5 (k+1) (eV L[k].m v' m):=by
 have hrow:∀j,(mK L[k].m m).ownBlock=aC j->w.heap.size+2<=j:=λj hj=>((h.g.slot L[k].m).lt j hj).1
 have hb4:=h.b.grown hg h.b.size λj hj=>by have:=hrow j hj;omega
 refine⟨?_, ?_,λq=> ?_,λj hj hjk=> ?_, ?_, ?_⟩
 ·have e:(λq=>if q=L[k].m then mL x (L.take k) L[k].m++ [Aj x L[k].a L[k].n] else mL x (L.take k) q)=mL x (L.take (k+1)):=by
   funext q;rw [aM9 x hk q];by_cases e:q=L[k].m
   ·rw [ifP e,ifP e,e]
   rw [ifN e,ifN e]
  rw [<-e];exact h5
 ·have:=Y0 (q:=L[k].m) (v:=v') m;have:=h.len;omega
 ·have h1:=h.ks q;rw [fH hk];constructor
  ·rintro⟨p,hp,rfl⟩;rcases J4 h.g.map.apart hp with rfl|⟨hp,_⟩
   ·exact⟨L[k],Gh _ (List.mem_singleton.2 rfl),rfl⟩
   obtain⟨y,hy,e⟩:=h1.1 ⟨p,hp,rfl⟩;exact⟨y,vP _ hy,e⟩
  rintro⟨y,hy,rfl⟩;rcases gN.1 hy with hy|hy
  ·obtain⟨p,hp,e⟩:=h1.2 ⟨y,hy,rfl⟩;obtain⟨u,hu⟩:=Y1 (q:=L[k].m) (v:=v') hp;exact⟨_,hu,e⟩
  simp at hy;subst hy;exact⟨_,S6 m,rfl⟩
 ·by_cases e:j=k
  ·subst e;exact he
  exact h.ok j hj (by omega)
 ·refine(h.bx.grown hg (λe=> ?_)).grown fA (by simp);have:=hrow _ e.symm;omega
 exact hb4.grown fA hb4.size λj hj=>by cases hj;omega
theorem a5J {m:List (Int×aN)}(h:wO m):(nx m).Pairwise (· < ·):=by
 have h1:(nx m).Pairwise λa b=>decide (a<=b)=aO:=List.pairwise_mergeSort (λa b c h1 h2=>by simp only [decide_eq_true_eq] at*;omega) (λa b=>by simp only [Bool.or_eq_true,decide_eq_true_eq];omega) _
 have h2:(nx m).Pairwise (· ≠ ·):=((a0K _ _).pairwise_iff (λ{_ _} hne=>Ne.symm hne)).2 (BO.2 h);exact(h1.and h2).imp λ{a b} h=>by have:=h.1;simp only [decide_eq_true_eq] at this;have:=h.2;omega
theorem a5I {m:List (Int×aN)}(q:Int):q∈nx m↔∃p∈m,p.1=q:=by rw [show (q∈nx m)=(q∈m.map (·.1)) from propext (a0K _ _).mem_iff,di]
theorem aMA(x:ak)(a n:Int):aL (Aj x a n):=by
 unfold Aj;split
 ·split
  ·unfold aL;omega
  exact V7 _
 unfold aL;omega
theorem Ys(x:ak)(L:List Lg)(q:Int):aA (mL x L q)<=aA L/\∀z∈mL x L q,aL z:=by unfold mL;refine⟨by rw [iX];exact qo _ _,λz hz=> ?_⟩;obtain⟨y,_,rfl⟩:=di.1 hz;exact aMA _ _ _
theorem a7Q(w:aJ)(t:bZ)(xs:List aN):aW (w.alloc (aK xs.toArray t)) (w.alloc (aK xs.toArray t)).heap.size (aC ⟨w.heap.size,0,aB⟩) xs:=λj u hu=>
 ⟨w.heap.size,0,rfl,by simp,by rw [Nat.zero_add,cM _ _ _ j rfl,<-Array.getElem?_toList];exact hu⟩
theorem a7d:∀ {a b:List Int},a.Pairwise (· < ·)->b.Pairwise (· < ·)->(∀q,q∈a↔q∈b)->a=b
 | [],[],_,_,_=>rfl
 | [],y::b,_,_,h=>by have:=(h y).2 (by simp);simp at this
 |x::a,[],_,_,h=>by have:=(h x).1 (by simp);simp at this
 |x::a,y::b,ha,hb,h=>by
  obtain⟨ha1,ha2⟩:=kp.1 ha;obtain⟨hb1,hb2⟩:=kp.1 hb;have e:x=y:=by
   rcases fG.1 ((h x).1 (by simp)) with e|e
   ·exact e
   rcases fG.1 ((h y).2 (by simp)) with e'|e'
   ·exact e'.symm
   have:=hb1 x e;have:=ha1 y e';omega
  subst e;have h2:∀q,q∈a↔q∈b:=λq=>by
   constructor
   ·intro hq;rcases fG.1 ((h q).1 (by simp [hq])) with e|e
    ·have:=ha1 q hq;omega
    exact e
   intro hq;rcases fG.1 ((h q).2 (by simp [hq])) with e|e
   ·have:=hb1 q hq;omega
   exact e
  rw [a7d ha2 hb2 h2]
def ofV(m:Int):List Lg->Int
 | []=>0
 |y::L=>if y.m=m then y.n else ofV m L
theorem a6E {m:Int}:∀ {L:List Lg} {k:Nat} (hk:k<aA L),(∀j (hj:j<aA L),j<k->L[j].m≠m)->L[k].m=m->ofV m L=L[k].n
 |y::L,0,_,_,h=>by unfold ofV;rw [ifP (by simpa using h)];rfl
 |y::L,k+1,hk,h,h'=>by unfold ofV;rw [ifN (by have:=h 0 (by simp) (by omega);simpa using this)];exact a6E (by simpa using hk) (λj hj hjk=>by have:=h (j+1) (by simpa using hj) (by omega);simpa using this) (by simpa using h')
theorem a6H {m:Int}:∀ {L:List Lg},(∀j (hj:j<aA L),L[j].m≠m)->ofV m L=0
 | [],_=>rfl
 |y::L,h=>by unfold ofV;rw [ifN (by have:=h 0 (by simp);simpa using this)];exact a6H λj hj=>by have:=h (j+1) (by simpa using hj);simpa using this
theorem a2V(L:List Lg)(m:Int)(A:Option ai)(c:Nat)(w:aJ)(hs:aW w w.heap.size A (bB L))(hl:aA L<=100000):
 aQ aM 75 #[aH A (aA L) c,ν m] w λe w'=>e=aT (ν (ofV m L))/\β w w':=by
 have HS:=η hs;go_enter func75,ntmps75
 go_wp2
 go_loopw [9] (λi wr=>∃k:Nat,k<=aA L/\i=ν k/\Hid (∀j (hj:j<aA L),j<k->L[j].m≠m)/\Hid (β w wr)) (λi _=>aA L-(ag i).toNat)
 ·exact⟨0,bM _,rfl,λj _ h=>absurd h (Nat.not_lt_zero _),aX _ _⟩
 ·
  obtain⟨k,hk,rfl,HN,HB⟩:=hrel;have hsz:=HB.o.size;by_cases hlt:k<aA L
  ·obtain⟨b,o,rfl,hb,d0,d1,d2⟩:=oQ (HS.o.below HB) hlt;have aR:Hid (∀v,β w (wr.alloc v)):=η λv=>HB.o.alloc hsz v
   by_cases hm:L[k].m=m
   ·have HV:=η (a6E hlt HN hm);go_wp2
    go_ret;exact⟨cW HV.o.symm,aR _⟩
   have vu:(L[k].m==m)=aP:=by rw [beq_eq_false_iff_ne];exact hm
   have vH:Hid (∀j (hj:j<aA L),j<k+1->L[j].m≠m):=η λj hj h=>by
    by_cases e:j=k
    ·subst e;exact hm
    exact HN j hj (by omega)
   go_wp2
   go_roundw
   ·exact⟨k+1,by omega,by go_num,vH,η (aR _)⟩
   simp [ag];omega
  obtain rfl:k=aA L:=by omega
  have HV:=η (a6H λj hj=>HN j hj hj);go_wp2
  go_ret;exact⟨cW HV.o.symm,HB⟩
theorem S5(x:Lg)(L:List Lg)(n:Int)(xs:List Int):fB (x::L) (n::xs)=(if 0<n then [⟨x.m,x.a,n⟩] else [])++fB L xs:=by unfold fB;rw [Ek,List.filter_cons];by_cases h:0<n<;>simp [h]
theorem a7a:∀ {L:List Lg} {xs:List Int} {z:Lg},z∈fB L xs->∃y∈L,z.m=y.m
 | [],_,z,h=>by simp [fB] at h
 |_::_,[],z,h=>by simp [fB] at h
 |y::L,n::xs,z,h=>by
  rw [S5] at h;rcases gN.1 h with h|h
  ·by_cases hn:0<n
   ·rw [ifP hn] at h;simp at h;exact⟨y,by simp,by rw [h]⟩
   rw [ifN hn] at h;simp at h
  obtain⟨u,hu,e⟩:=a7a h;exact⟨u,by simp [hu],e⟩
theorem a6G {m:Int}:∀ {L:List Lg},(∀y∈L,y.m≠m)->ofV m L=0
 | [],_=>rfl
 |y::L,h=>by unfold ofV;rw [ifN (h y (by simp))];exact a6G λz hz=>h z (by simp [hz])
def pick(m:Int):List Lg->List Int->Int
 |y::L,x::xs=>if y.m=m then x else pick m L xs
 |_,_=>0
theorem Xu(m:Int):∀L:List Lg,pick m L (bG L)=ofV m L
 | []=>rfl
 |y::L=>by
  show (if y.m=m then y.n else pick m L (bG L))=if y.m=m then y.n else ofV m L
  rw [Xu m L]
theorem a6V(m:Int):∀(L:List Lg) (c a:List Int),aA c=aA L->aA a=aA L->pick m L a+pick m L (kV (· - ·) c a)=pick m L c
 | [],_,_,_,_=>by simp [pick]
 |y::L,[],_,h,_=>by simp at h
 |y::L,_::_,[],_,h=>by simp at h
 |y::L,u::c,v::a,h,h'=>by have:=a6V m L c a (by simpa using h) (by simpa using h');rw [Ek];unfold pick;split<;>omega
theorem Xi {m:Int}:∀ {L:List Lg} {xs:List Int},L.Pairwise (λx y=>x.m<y.m)->(∀x∈xs,0<=x)->aA xs=aA L->ofV m (fB L xs)=pick m L xs
 | [],_,_,_,_=>by simp [fB,ofV,pick]
 |y::L,[],_,_,h=>by simp at h
 |y::L,n::xs,hp,hx,hl=>by
  obtain⟨h1,h2⟩:=kp.1 hp;have hr:=Xi (m:=m) (xs:=xs) h2 (λx h=>hx x (by simp [h])) (by simpa using hl);have hn:=hx n (by simp);rw [S5];unfold pick;by_cases hm:y.m=m
  ·rw [ifP hm];by_cases h0:0<n
   ·rw [ifP h0];simp [ofV,hm]
   rw [ifN h0,Gi,a6G]
   ·omega
   intro z hz;obtain⟨u,hu,e⟩:=a7a hz;have:=h1 u hu;omega
  rw [ifN hm];by_cases h0:0<n
  ·rw [ifP h0];simp only [List.singleton_append,ofV];rw [ifN hm];exact hr
  rw [ifN h0,Gi];exact hr
theorem a6W {m:Int}:∀ {L:List Lg} {xs ys:List Int},aA xs=aA L->aA ys=aA L->(∀i (h:i<aA xs) (h':i<aA ys),0<=xs[i]/\xs[i]<=ys[i])->0<=pick m L xs/\pick m L xs<=pick m L ys
 | [],_,_,_,_,_=>by simp [pick]
 |y::L,[],_,h,_,_=>by simp at h
 |y::L,_::_,[],_,h,_=>by simp at h
 |y::L,u::xs,v::ys,h,h',hb=>by
  unfold pick;split
  ·have:=hb 0 (by simp) (by simp);simpa using this
  exact a6W (by simpa using h) (by simpa using h') λi hi hi'=>by have:=hb (i+1) (by simpa using hi) (by simpa using hi');simpa using this
theorem aJm {L:List Lg}(h:dF L=0):L.Pairwise (λx y=>x.m<y.m):=by
 obtain⟨_,b,_⟩:=BW h;have step:∀k (hk:k+1<aA L),L[k].m<L[k+1].m:=λk hk=>by have:=b (k+1) hk;rw [Hi hk,Rz (by omega)] at this;simp at this;exact this.2.2
 have all:∀k (hk:k<aA L) i (hi:i<aA L),i<k->L[i].m<L[k].m:=by
  intro k;induction k with
  |zero=>intro _ i _ h;omega
  |succ k ih=>
   intro hk i hi hik;have s:=step k hk;by_cases e:i=k
   ·subst e;exact s
   have:=ih (by omega) i hi (by omega);omega
 exact vQ.2 λi j hi hj s8=>all j hj i hi s8
theorem a8F:∀(c a:List Int),aA c=aA a->sumI (kV (· - ·) c a)=sumI c-sumI a
 | [],[],_=>by simp [sumI]
 | [],_::_,h=>by simp at h
 |_::_,[],h=>by simp at h
 |u::c,v::a,h=>by have:=a8F c a (by simpa using h);rw [Ek];simp only [sumI];omega
theorem a7Z:∀ {L:List Lg} {xs:List Int},aA xs=aA L->(∀x∈xs,0<=x)->(fB L xs= []↔sumI xs=0)
 | [],[],_,_=>by simp [fB,sumI]
 | [],_::_,h,_=>by simp at h
 |_::_,[],h,_=>by simp at h
 |y::L,n::xs,h,hx=>by
  have hr:=a7Z (L:=L) (xs:=xs) (by simpa using h) λx mf=>hx x (by simp [mf])
  have hn:=hx n (by simp);have hs:0<=sumI xs:=a8E λx h=>hx x (by simp [h])
  rw [S5];simp only [sumI];by_cases h0:0<n
  ·rw [ifP h0];constructor
   ·intro h;simp at h
   intro h;omega
  rw [ifN h0,Gi,hr];omega
structure aAV(dC:Int)(L:List Lg)(m:Int):Prop where
 g:jn dC L=fB L (dN dC (bG L))
 k:jv dC L=fB L (kV (· - ·) (bG L) (dN dC (bG L)))
 gl:aA (jn dC L)<=aA L
 ll:aA (jv dC L)<=aA L
 al:aA (dN dC (bG L))=aA L
 bd:∀i (h:i<aA (dN dC (bG L))) (h':i<aA L),0<=(dN dC (bG L))[i]/\(dN dC (bG L))[i]<=L[i].n
 of:ofV m (jn dC L)+ofV m (jv dC L)=ofV m L
 lo:0<=ofV m (jn dC L)/\ofV m (jn dC L)<=ofV m L
 em:jv dC L= []↔sumI (bG L)<=dC
theorem aJL {dC:Int} {L:List Lg}(m:Int)(h:jO dC L=0):aAV dC L m:=by
 obtain⟨Qg,kL,KP⟩:=Q3 h;have G:=F5 Qg;have nH:oT (bG L) (dN dC (bG L))=kV (· - ·) (bG L) (dN dC (bG L)):=by unfold oT;rw [ifP (Vl Qg)]
 have hg:jn dC L=fB L (dN dC (bG L)):=by unfold jn;rw [ifP h]
 have hk:jv dC L=fB L (kV (· - ·) (bG L) (dN dC (bG L))):=by unfold jv;rw [ifP h,nH]
 have hlen:aA (dN dC (bG L))=aA L:=by rw [G.len,qu]
 have hzl:aA (kV (· - ·) (bG L) (dN dC (bG L)))=aA L:=by rw [Ei,qu,hlen,Nat.min_self]
 have p1:∀x∈dN dC (bG L),0<=x:=λx hx=>by obtain⟨i,hi,rfl⟩:=tD.1 hx;exact(G.bd i hi (by rw [<-G.len];exact hi)).1
 have p2:∀x∈kV (· - ·) (bG L) (dN dC (bG L)),0<=x:=λx hx=>by obtain⟨i,hi,rfl⟩:=tD.1 hx;rw [Ei] at hi;rw [List.getElem_zipWith];have:=G.bd i (by omega) (by omega);omega
 have hr:=aJm kL;have a1:=Xi (m:=m) hr p1 hlen;have a2:=Xi (m:=m) hr p2 hzl;have a3:=a6V m L (bG L) (dN dC (bG L)) (qu L) hlen;rw [Xu] at a3;have a4:=a6W (m:=m) (L:=L) hlen (qu L) λi h1 h2=>G.bd i h1 h2
 rw [Xu] at a4;refine⟨hg,hk,by rw [hg];exact SL _ _,by rw [hk];exact SL _ _,hlen,λi h1 h2=> ?_,by rw [hg,hk,a1,a2];exact a3,by rw [hg,a1];exact a4, ?_⟩
 ·have:=G.bd i h1 (by rw [qu];exact h2);have e:(bG L)[i]'(by rw [qu];exact h2)=L[i].n:=xC _;rw [e] at this;exact this
 rw [hk,a7Z hzl p2,a8F _ _ (by rw [qu,hlen]),G.sum];omega
def tJ(L:List Lg):Bool:=decide (aA L=0)||decide (xH L=0)
def yb(dC:Int)(L:List Lg):Int:=if dF L≠0 then dF L else if tJ L=aP then 1 else if dC<0 then 1 else 0
def oH(L:List Lg):Int:=if dF L≠0 then dF L else if tJ L=aP then 1 else 0
def zn(dC:Int)(L:List Lg):List Lg:=if yb dC L=0 then jn dC L else []
def zo(dC:Int)(L:List Lg):List Lg:=if yb dC L=0 then jv dC L else []
theorem aJM {dC:Int} {L:List Lg}(h:oH L≠0):yb dC L=oH L/\zn dC L= []/\zo dC L= []:=by
 have e:yb dC L=oH L:=by
  unfold yb oH at*;by_cases h1:dF L≠0
  ·rw [ifP h1,ifP h1]
  rw [ifN h1] at h;rw [ifN h1,ifN h1];by_cases h2:tJ L=aP
  ·rw [ifP h2,ifP h2]
  rw [ifN h2] at h;exact absurd rfl h
 unfold zn zo;rw [e,ifN h,ifN h];exact⟨rfl,rfl,rfl⟩
theorem aJO {dC:Int} {L:List Lg}(h:oH L=0):yb dC L=jO dC L/\zn dC L=jn dC L/\zo dC L=jv dC L:=by
 have e:yb dC L=jO dC L:=by
  unfold yb oH jO at*;by_cases h1:dF L≠0
  ·rw [ifP h1] at h;exact absurd h h1
  rw [ifN h1] at h;rw [ifN h1,ifN h1];by_cases h2:tJ L=aP
  ·rw [ifP h2] at h;exact absurd h (by decide)
  rw [ifN h2]
 unfold zn zo;rw [e];refine⟨rfl, ?_, ?_⟩
 ·split
  ·rfl
  rename_i h;unfold jn;rw [ifN h]
 split
 ·rfl
 rename_i h;unfold jv;rw [ifN h]
theorem aDV {w:aJ} {B:Nat} {A:Option ai} {L:List Lg}(h:aW w B A (bB L))(hk:0<aA L):∃b o,A=aC ⟨b,o,aB⟩/\b<B/\w.cell? ⟨b,o+1,aB⟩=aC (aG aF (xH L)):=by obtain⟨b,o,e,hb,_,d1,_⟩:=oQ h hk;rw [Nat.zero_mul,Gp,<-V8 hk] at d1;exact⟨b,o,e,hb,d1⟩
theorem VI(L:List Lg)(A:Option ai)(c:Nat)(w:aJ)(hs:aW w w.heap.size A (bB L))(hI:∀x∈L,aL x.n)(hl:aA L<=100000):
 aQ aM 199 #[aH A (aA L) c] w λe w'=>e=aT (ν (oH L))/\β w w':=by
 have HC:=η (Q2 L A c w hs hI hl);have HS:=η hs;have HD:Hid (oH L=if dF L≠0 then dF L else if tJ L=aP then 1 else 0):=η rfl;have B2:Hid (tJ L=(decide (aA L=0)||decide (xH L=0))):=η rfl;generalize oH L=ce at*;by_cases he:dF L=0
 ·rw [he] at HC HD;rcases Nat.eq_zero_or_pos (aA L) with h0|h0
  ·have hE:ce=0:=by rw [HD.o,B2.o,decide_eq_true h0];rfl
   subst hE;rw [h0] at HC ⊢;go_enter Ui,Up
   go_wp2_with (go_at_call 188;refine HC.o.mono ?_;rintro e w1 ⟨rfl,hb1⟩;have aR:=η hb1)
   go_ret;exact⟨rfl,aR⟩
  have hl0:(0:Int)<(aA L:Int):=by omega
  have HK:Hid (∀W,β w W->∃b o,A=aC ⟨b,o,aB⟩/\b<w.heap.size/\W.cell? ⟨b,o+1,aB⟩=aC (ν (xH L))):=η λW hW=>aDV (HS.o.below hW) h0
  have yB:Hid (tJ L=decide (xH L=0)):=η (by rw [B2.o,decide_eq_false (by omega),Bool.false_or]);generalize xH L=a at*;by_cases ha:a=0
  ·have hE:ce=0:=by rw [HD.o,yB.o,decide_eq_true ha];rfl
   subst hE ha;go_enter Ui,Up
   go_wp2_with (go_at_call 188;refine HC.o.mono ?_;rintro e w1 ⟨rfl,hb1⟩;have aR:=η hb1;obtain⟨b,o,rfl,hb,d1⟩:=HK.o _ hb1)
   go_ret;exact⟨rfl,aR⟩
  have hE:ce=1:=by rw [HD.o,yB.o,decide_eq_false ha];rfl
  subst hE;have hab:(a !=0)=aO:=by simpa [bne] using ha
  go_enter Ui,Up
  go_wp2_with (go_at_call 188;refine HC.o.mono ?_;rintro e w1 ⟨rfl,hb1⟩;have aR:=η hb1;obtain⟨b,o,rfl,hb,d1⟩:=HK.o _ hb1)
  go_ret;exact⟨rfl,aR⟩
 have hE:ce=dF L:=by rw [HD.o,ifP he]
 rw [hE];generalize dF L=ge at*;go_enter Ui,Up
 go_wp2_with (go_at_call 188;refine HC.o.mono ?_;rintro e w1 ⟨rfl,hb1⟩;have aR:=η hb1)
 go_ret;exact⟨rfl,aR⟩
def fW(L:List Lg)(q:Int):List Int:=(L.filter λy=>y.m==q).map (·.n)
theorem aCn {L:List Lg} {k:Nat}(hk:k<aA L)(q:Int):fW (L.take (k+1)) q=if q=L[k].m then fW (L.take k) q++ [L[k].n] else fW (L.take k) q:=by
 unfold fW;rw [fH hk,List.filter_append,dh];by_cases h:q=L[k].m
 ·rw [ifP h];simp [h]
 rw [ifN h];have h':¬L[k].m=q:=λe=>h e.symm
 simp [h']
theorem V6 {L:List Lg}(hI:∀y∈L,aL y.n)(q:Int):aA (fW L q)<=aA L/\∀z∈fW L q,aL z:=by unfold fW;refine⟨by rw [iX];exact qo _ _,λz hz=> ?_⟩;obtain⟨y,hy,rfl⟩:=di.1 hz;exact hI y (jG.1 hy).1
theorem aCm(A B:List Lg)(q:Int):fW (A++B) q=fW A q++fW B q:=by unfold fW;rw [List.filter_append,dh]
theorem V5:∀ {L:List Lg} (q:Int),(∀y∈L,0<=y.n)->0<=sumI (fW L q)/\sumI (fW L q)<=sumI (bG L)
 | [],_,_=>by simp [fW,bG,sumI]
 |y::L,q,h=>by
  obtain⟨h1,h2⟩:=V5 (L:=L) q λz hz=>h z (by simp [hz])
  have hy:=h y (by simp);have e2:sumI (bG (y::L))=y.n+sumI (bG L):=rfl;by_cases hq:y.m=q
  ·have e1:fW (y::L) q=y.n::fW L q:=by unfold fW;simp [hq]
   rw [e1,e2];simp only [sumI];omega
  have e1:fW (y::L) q=fW L q:=by unfold fW;simp [hq]
  rw [e1,e2];omega
theorem a2P {L:List Lg}(h:dF L=0):∀y∈L,0<=y.n:=λx hx=>by obtain⟨i,hi,rfl⟩:=tD.1 hx;have:=(BW h).2.1 i hi;rw [Hi hi] at this;simp at this;omega
def Iq(A B:List Lg):Int:=sumI (bG A)+sumI (bG B)
def sM(A B:List Lg):Int:=if dF A≠0 then dF A else if dF B≠0 then dF B else if tJ A=aP then 1 else if tJ B=aP then 1 else dR (Iq A B)
theorem a5C(A B:List Lg):(dF A≠0/\sM A B=dF A)\/(dF A=0/\dF B≠0/\sM A B=dF B)\/(dF A=0/\dF B=0/\tJ A=aP/\sM A B=1)\/(dF A=0/\dF B=0/\tJ A=aO/\tJ B=aP/\sM A B=1)\/(dF A=0/\dF B=0/\tJ A=aO/\tJ B=aO/\sM A B=dR (Iq A B)):=by
 unfold sM;by_cases h1:dF A=0
 ·by_cases h2:dF B=0
  ·cases h3:tJ A
   ·right;right;left;simp [h1,h2]
   cases h4:tJ B
   ·right;right;right;left;simp [h1,h2]
   right;right;right;right;simp [h1,h2]
  right;left;simp [h1,h2]
 left;simp [h1]
theorem a5D {A B:List Lg}(ha:dF A=0)(hb:dF B=0)(hT:aL (Iq A B))(q:Int):aL (sumI (fW (A++B) q)):=by have h1:=V5 q (a2P ha);have h2:=V5 q (a2P hb);rw [aCm,O8];unfold Iq aL at*;omega
theorem Pm(a b:Int)(w:aJ)(ha:aL a)(hb:aL b):
 aQ aM 201 #[ν a,ν b] w λe w'=>
  e=aT (bC #[ν (gU (a+b)),ν (dR (a+b))])/\w=w':=by
 have HA:=η ha;have HB:=η hb;go_enter func201,ntmps201
 go_wp2
 all_goals
  go_ret2;have ha:=HA.o;have hb:=HB.o;refine⟨?_,rfl⟩;unfold aL at ha hb;by_cases h:aL (a+b)
  ·obtain⟨h1,h2⟩:=eH h;rw [h1,h2];unfold aL at h;have hw:fV (a+b)=a+b:=by unfold fV;omega
   simp_all<;>omega
  obtain⟨h1,h2⟩:=gw h;rw [h1,h2];unfold aL at h;unfold fV at*;simp_all<;>omega
structure JI(L:List Lg)(w wr:aJ)(b lo k:Nat)(u:aN)(m:List (Int×aN)):Prop where
 g:lL wr (b+1) b m (fW (L.take k))
 len:aA m<=k
 ks:∀q,(∃p∈m,p.1=q)↔∃y∈L.take k,y.m=q
 own:wr.ownsRow lo 76 3 u (aA L) (bB L)
 np:b<lo
 hb:w.heap.size<=b
 b:β w wr
theorem JI.below {L:List Lg} {w wr w2:aJ} {b lo k:Nat} {u:aN} {m:List (Int×aN)}(h:JI L w wr b lo k u m)(hb:aa wr.heap.size wr w2):JI L w w2 b lo k u m:=
 ⟨h.g.below (aZ _) hb,h.len,h.ks,Nu h.own hb,h.np,h.hb,h.b.trans (hb.mono h.b.size)⟩
theorem JI.step {L:List Lg} {w w2 w4 w5:aJ} {b lo k:Nat} {u:aN} {m:List (Int×aN)} {v':aN}(h:JI L w w2 b lo k u m)(hk:k<aA L)
 (hg:w2.grownBy w4 (mK L[k].m m).ownBlock) (h5:lL w5 (b+1) b (eV L[k].m v' m) (λq=>if q=L[k].m then fW (L.take k) L[k].m++ [L[k].n] else fW (L.take k) q)) (fA:w4.grownBy w5 (aC b)):JI L w w5 b lo (k+1) u (eV L[k].m v' m):=by
 have jt:=h.g.slot L[k].m;have hrow:∀j,(mK L[k].m m).ownBlock=aC j->b+1<=j:=λj hj=>(jt.lt j hj).1
 have j6:=h.hb;have hb4:=h.b.grown hg h.b.size λj hj=>by have:=hrow j hj;omega
 refine⟨?_, ?_,λq=> ?_, ?_,h.np,h.hb, ?_⟩
 ·have e:(λq=>if q=L[k].m then fW (L.take k) L[k].m++ [L[k].n] else fW (L.take k) q)=fW (L.take (k+1)):=by
   funext q;rw [aCn hk q];by_cases e:q=L[k].m
   ·rw [ifP e,ifP e,e]
   rw [ifN e,ifN e]
  rw [<-e];exact h5
 ·have:=Y0 (q:=L[k].m) (v:=v') m;have:=h.len;omega
 ·have h1:=h.ks q;rw [fH hk];constructor
  ·rintro⟨p,hp,rfl⟩;rcases J4 h.g.map.apart hp with rfl|⟨hp,_⟩
   ·exact⟨L[k],Gh _ (List.mem_singleton.2 rfl),rfl⟩
   obtain⟨y,hy,e⟩:=h1.1 ⟨p,hp,rfl⟩;exact⟨y,vP _ hy,e⟩
  rintro⟨y,hy,rfl⟩;rcases gN.1 hy with hy|hy
  ·obtain⟨p,hp,e⟩:=h1.2 ⟨y,hy,rfl⟩;obtain⟨u,hu⟩:=Y1 (q:=L[k].m) (v:=v') hp;exact⟨_,hu,e⟩
  simp at hy;subst hy;exact⟨_,S6 m,rfl⟩
 ·have h1:=h.own.kept hg (J0 h.own jt (by decide));exact h1.kept fA (aU (Rx h1 h.np))
 exact hb4.grown fA hb4.size λj hj=>by cases hj;omega
theorem a3V(f:Int->List Int):∀ks:List Int,gatE f ks=0\/gatE f ks=2
 | []=>aS rfl
 |k::ks=>by
  unfold gatE;split
  ·exact a3V f ks
  exact aU rfl
section
open Go.Maps Go.MapKept Go.ChangeMaps
theorem aJZ {M A:Nat} {k m a:Int}(h:plcA M A k m a≠aB):0<=a/\a<(A:Int):=by
 unfold plcA at h;split at h
 ·exact absurd rfl h
 split at h
 ·assumption
 exact absurd rfl h
theorem Xk:∀ {pre l:List En} {q:Int×Int×Int},q∈ordF pre l->∃x∈l,x.spot=q
 |_,[],_,h=>by simp [ordF] at h
 |pre,x::l,q,h=>by
  rw [ordF,gN] at h;rcases h with h|h
  ·split at h
   ·exact⟨x,pG ..,(List.mem_singleton.1 h).symm⟩
   cases h
  obtain⟨y,hy,e⟩:=Xk h;exact⟨y,dx _ hy,e⟩
theorem aDR {l:List En}(h:∀x∈l,x.ok)(q:Int×Int×Int):∀y∈gz l q,aL y:=by intro y hy;obtain⟨x,hx,rfl⟩:=di.1 hy;exact(h x (jG.1 hx).1).n
theorem aDN {l:List En}(h:∀x∈l,x.ok)(i:Nat):∀y∈gy l i,aL y:=by intro y hy;obtain⟨x,hx,rfl⟩:=di.1 hy;exact(h x (jG.1 hx).1).n
theorem aDY:(aM.info? 233).map (λi=>(i.zero,i.size,i.bytes))=aC (aC (bP #[aG aF 0,bK aP,aG aF 0,aG aF 0]),4,32):=by kernel_rfl
theorem aDZ(x:Ch):∀u∈x.cells,u.oneCell'=aO:=by intro u hu;simp [Ch.cells] at hu;rcases hu with rfl|rfl|rfl|rfl<;>rfl
def a9A(M A:Nat)(l:List Int)(es:List En)(w:aJ)(e:dX)(w':aJ):Prop:=
 β w w'/\((jY M A l es=0/\∃v,e=aT (bC #[v,ν 0])/\w'.ownsRow w.heap.size 233 4 v (aA (ky M A l es)) (BV (ky M A l es)))\/(jY M A l es≠0/\e=aT (bC #[aH aB 0 0,ν (jY M A l es)])))
theorem aDm {M A:Nat} {l:List Int} {es:List En}(h1:¬1024<aA es) {k:Nat}(hk:k<aA es)(h:lF M A es[k].spot=aB):jY M A l es=8:=by unfold jY;rw [ifN h1,ifP];rw [kE];exact⟨_,cK hk,by rw [h];rfl⟩
theorem aDk {M A:Nat} {l:List Int} {es:List En}(h1:¬1024<aA es)(h2:es.any (λx=>(lF M A x.spot).isNone)=aP) {k:Nat}(hk:k<9)(h:sumI (gy es k)≠0):jY M A l es=17:=by unfold jY;rw [ifN h1,ifN (by rw [h2];simp),ifP];rw [kE];exact⟨k,nV.2 hk,by simpa using h⟩
theorem aDl {M A:Nat} {l:List Int} {es:List En}(h1:¬1024<aA es)(h2:es.any (λx=>(lF M A x.spot).isNone)=aP)(h3:(dQ 9).any (λi=>sumI (gy es i) !=0)=aP) {k:Nat}(hk:k<aA (dE es))(h:yt M A l es (dE es)[k]=aO):jY M A l es=2:=by unfold jY;rw [ifN h1,ifN (by rw [h2];simp),ifN (by rw [h3];simp),ifP];rw [kE];exact⟨_,cK hk,h⟩
theorem aDj {M A:Nat} {l:List Int} {es:List En}(h1:¬1024<aA es)(h2:es.any (λx=>(lF M A x.spot).isNone)=aP)(h3:(dQ 9).any (λi=>sumI (gy es i) !=0)=aP)(h:(dE es).any (yt M A l es)=aP):jY M A l es=0:=by unfold jY;rw [ifN h1,ifN (by rw [h2];simp),ifN (by rw [h3];simp),ifN (by rw [h];simp)]
theorem aJv(p:Nat->Bool)(k:Nat):(dQ (k+1)).any p=((dQ k).any p||p k):=by rw [List.range_succ,List.any_append];simp
theorem aKt {w:aJ} {B:Nat} {A:Option ai} {l:List (Int×Int×Int)}(h:aW w B A (J9 l)) {k:Nat}(hk:k<aA l):
 ∃b o,A=aC ⟨b,o,aB⟩/\b<B/\w.cell? ⟨b,o+k*3,aB⟩=aC (ν l[k].1)/\w.cell? ⟨b,o+k*3+1,aB⟩=aC (ν l[k].2.1)/\w.cell? ⟨b,o+k*3+2,aB⟩=aC (ν l[k].2.2):=by
 obtain⟨b,o,e,hb,hc⟩:=h.run (i:=k*3) (y:=ν l[k].1) (t:= [ν l[k].2.1,ν l[k].2.2]) (λj u hu=>tT O6 3 (λ_=>rfl) l k hk j u hu);exact⟨b,o,e,hb,hc 0 _ rfl,hc 1 _ rfl,hc 2 _ rfl⟩
theorem aD9(M A:Nat)(v:aN)(l:List Int)(po:Int)(es:List En)(AA:Option ai)(c bb:Nat)(w:aJ)(h:fK w bb M A v l po)(hs:aW w w.heap.size AA (qy es))(hI:∀x∈es,x.ok)(vq:∀y∈l,aL y)(hl:aA es<=100000):
 aQ aM 159 #[π bb,aH AA (aA es) c] w (a9A M A l es w):=by
 have pj:=η h;have HS:=η hs;have HI:=η hI;have Ja:=η vq;by_cases h1:1024<aA es
 ·have HE:Hid (jY M A l es=6):=η (by unfold jY;rw [ifP h1]);have ub:(1024:Int)<(aA es:Int):=by omega
  go_enter aAq,aBd
  go_wp2_with fail
  go_ret2;exact⟨aX _ _,.inr ⟨by rw [HE.o];decide,by rw [HE.o];rfl⟩⟩
 have HN:=η h1;have ub:decide ((1024:Int)<(aA es:Int))=aP:=decide_eq_false (by omega);have aMX:decide (1024<aA es)=aP:=decide_eq_false h1;have hl:aA es<=1024:=by omega
 have aY:Hid (β w w):=η (aX _ _);have iF:Hid ((es.take 0).any (λx=>(lF M A x.spot).isNone)=aP):=η (by rw [nW];rfl);go_enter aAq,aBd
 go_wp2_with fail
 go_loopw [7,8,9,30] (λ_ _ _ i wr=>∃k:Nat,k<=aA es/\i=ν (k:Int)/\Hid (β w wr)/\Hid ((es.take k).any (λx=>(lF M A x.spot).isNone)=aP)) (λ_ _ _ i _=>aA es-(ag i).toNat)
 case atStart=>exact⟨0,bM _,rfl,aY,iF⟩
 case round=>
  obtain⟨k,hk,rfl,HB,HP⟩:=hrel;by_cases hlt:k<aA es
  ·obtain⟨be,oe,rfl,kY,e0,e1,e2,e3⟩:=Vd ((HS.o.below HB.o).mono HB.o.size) hlt;have dU:=HI.o _ (cK hlt);have cG:=η (zb (λx:En=>(lF M A x.spot).isNone) hlt);have HE8:=η (aDm (M:=M) (A:=A) (l:=l) HN.o hlt);have ej:(0:Int)<=(k:Int):=by omega
   have hkb:(k:Int)<(aA es:Int):=by omega
   generalize es[k]=x at*;obtain⟨xk,xm,xa,xn⟩:=x;simp only at e0 e1 e2 e3;obtain⟨Ku,Kv,Kw,ok3⟩:=dU;simp only at Ku Kv Kw ok3;have eR:Hid (∀W,β w W->aQ aM 155 #[π bb,bP #[ν xk,ν xm],ν xa] W λe w'=>e=aT (bC #[ν (numV (plcA M A xk xm xa)),ν (nN (plcA M A xk xm xa))])/\β W w'):=η λW hW=>VF M A v l po xk xm xa bb W (pj.o.below hW) Ku Kv
   have dJ:Hid (β w (wr.alloc (aK #[ν xk,ν xm,ν xa,ν xn] 103))):=η (HB.o.alloc HB.o.size _);cases hp:plcA M A xk xm xa with
   |none=>
    rw [hp] at eR;have HE:Hid (jY M A l es=8):=η (HE8.o hp);unfold numV nN at eR;simp only at eR;go_wp2_with (go_at_call 155;refine(eR.o _ dJ.o).mono ?_;rintro e w2 ⟨rfl,hb2⟩;have aV:Hid (β w w2):=τ dJ hb2)
    go_ret2;exact⟨aV.o,.inr ⟨by rw [HE.o];decide,by rw [HE.o];rfl⟩⟩
   |some n=>
    rw [hp] at eR;have mR:Hid ((es.take (k+1)).any (λx=>(lF M A x.spot).isNone)=aP):=η (by rw [cG.o,HP.o];simp [lF,En.spot,hp]);unfold numV nN at eR;simp only at eR;go_wp2_with (go_at_call 155;refine(eR.o _ dJ.o).mono ?_;rintro e w2 ⟨rfl,hb2⟩;have aV:Hid (β w w2):=τ dJ hb2)
    go_roundw
    case rel=>exact⟨k+1,by omega,by go_num,aV,mR⟩
    case measure=>simp [ag];omega
  obtain rfl:k=aA es:=by omega
  rw [cU] at HP;have HA:Hid (∀x∈es,0<=x.a/\x.a<=8):=η λx hx=>by
   have h2:=zT.1 HP.o x hx;have h3:plcA M A x.k x.m x.a≠aB:=λe=>h2 (by simp only [lF,En.spot,e];rfl)
   have h4:=aJZ h3;have:=pj.o.hA;omega
  have EY:=HP;have Ll:Hid (∀q∈dE es,lF M A q≠aB/\GF q):=η λq hq=>by obtain⟨x,hx,e⟩:=Xk hq;have h2:=zT.1 HP.o x hx;have h3:=HI.o x hx;rw [<-e];exact⟨λe=>h2 (by rw [e];rfl),h3.k,h3.m,h3.a⟩
  have uK:=η (aFv es AA c wr ((HS.o.below HB.o).mono HB.o.size) HI.o HA.o hl);go_wp2_with (go_at_call 206;refine uK.o.mono ?_;unfold ZB;rintro e w2 ⟨base,b,ab,cf,ov,rfl,hg2⟩;have HG2:=η hg2)
  obtain⟨wg,rfl⟩:∃wg:aJ,wg=wr:=⟨_,rfl⟩;have Tx:Hid ((dQ 0).any (λi=>sumI (gy es i) !=0)=aP):=η rfl;go_loopw [14,15,16,55] (λ_ _ _ i wr=>∃k:Nat,k<=9/\i=ν (k:Int)/\Hid (lM wg base b ab cf ov (gthF es) (dE es) wr)/\Hid ((dQ k).any (λi=>sumI (gy es i) !=0)=aP)) (λ_ _ _ i _=>9-(ag i).toNat)
  case atStart=>exact⟨0,bM _,rfl,HG2,Tx⟩
  case round=>
   obtain⟨k,hk,rfl,HG,HQ⟩:=hrel;by_cases hlt:k<9
   ·have hrow:=HG.o.tR.rows (.inr k);have hgf:gthF es (.inr k)=gy es k:=by simp [gthF,hlt]
    rw [hgf] at hrow;obtain⟨Ar,cr,nj⟩:=bL hrow;have hc0:wr.cell? ⟨ab,k,aB⟩=aC (aH Ar (aA (gy es k)) cr):=by rw [bH _ _ k _ _ (0,0) HG.o.blk,VH cf hlt,nj]
    have hab:=HG.o.low;have rz:=VG es k;have kj:=η (EB (gy es k) Ar cr wr (aDN HI.o k) (by rw [nj] at hrow;exact aW.cB hrow) (by omega));have a9O:=η (aDk (l:=l) HN.o HP.o hlt);have HRS:=η (aJv (λi=>sumI (gy es i) !=0) k);have ej:(0:Int)<=(k:Int):=by omega
    have hkb:(k:Int)<9:=by omega
    generalize gy es k=ys at*;generalize sumI ys=s at*;by_cases hs0:s=0
    ·subst hs0;have e1:=(eH Jr).1;have e2:=(eH Jr).2;rw [e1,e2] at kj;have BH:Hid ((dQ (k+1)).any (λi=>sumI (gy es i) !=0)=aP):=η (by rw [HRS.o,HQ.o];rfl);go_wp2_with (go_at_call 104;refine kj.o.mono ?_;rintro e w3 ⟨rfl,hb3⟩;have uJ:=η (HG.o.below hb3))
     go_roundw
     case rel=>exact⟨k+1,by omega,by go_num,uJ,BH⟩
     case measure=>simp [ag];omega
    have HE:Hid (jY M A l es=17):=η (a9O.o hs0);have wT:=η (HB.o.trans (HG.o.b.mono HB.o.size));by_cases QR:aL s
    ·have e1:=(eH QR).1;have e2:=(eH QR).2;rw [e1,e2] at kj;have hsn:(s !=0)=aO:=by simpa using hs0
     go_wp2_with (go_at_call 104;refine kj.o.mono ?_;rintro e w3 ⟨rfl,hb3⟩;have af:Hid (β w w3):=τ wT hb3)
     go_ret2;exact⟨af.o,.inr ⟨by rw [HE.o];decide,by rw [HE.o];rfl⟩⟩
    have e1:=(gw QR).1;have e2:=(gw QR).2;rw [e1,e2] at kj;go_wp2_with (go_at_call 104;refine kj.o.mono ?_;rintro e w3 ⟨rfl,hb3⟩;have af:Hid (β w w3):=τ wT hb3)
    go_ret2;exact⟨af.o,.inr ⟨by rw [HE.o];decide,by rw [HE.o];rfl⟩⟩
   obtain rfl:k=9:=by omega
   rw [show ((9:Nat):Int)=9 from rfl];obtain⟨wh,rfl⟩:∃wh:aJ,wh=wr:=⟨_,rfl⟩;have cC:=η (HB.o.trans (HG.o.b.mono HB.o.size));have NG:=HG.o.ord;have l9:aA (dE es)<=1024:=bz (Rs [] es) hl;obtain⟨Ao,co,NH⟩:=bL NG;subst NH;have mQ:Hid (wh.ownsRow wh.heap.size 233 4 (aH aB 0 0) 0 (BV ((ky M A l es).take 0))):=η (by rw [nW];exact gG _ _ _ _);have Cu:Hid (((dE es).take 0).any (yt M A l es)=aP):=η (by rw [nW];rfl);have HBh:Hid (β wh wh):=η (aX _ _);go_wp2_with fail
   go_loopw [17,19,20,21,22,23,24,73] (λv _ _ _ _ _ _ i wr=>∃k:Nat,k<=aA (dE es)/\i=ν (k:Int)/\Hid (β wh wr)/\Hid (wr.ownsRow wh.heap.size 233 4 v k (BV ((ky M A l es).take k)))/\Hid (((dE es).take k).any (yt M A l es)=aP)) (λ_ _ _ _ _ _ _ i _=>aA (dE es)-(ag i).toNat)
   case atStart=>exact⟨0,bM _,rfl,HBh,mQ,Cu⟩
   case round=>
    obtain⟨k,hk,rfl,HR,HO,HV⟩:=hrel;obtain⟨Ax,cx,pN⟩:=bL HO.o;subst pN;by_cases hlt:k<aA (dE es)
    ·obtain⟨be,oe,rfl,kY,e0,e1,e2⟩:=aKt (((aW.cB NG).below HR.o).mono HR.o.size) hlt;obtain⟨gR,aGV⟩:=Ll.o _ (cK hlt);have cG:=η (zb (yt M A l es) hlt);have jU:Hid ((ky M A l es).take (k+1)=(ky M A l es).take k++ [kG M A l es (dE es)[k]]):=η (by rw [fH (by unfold ky;rw [iX];exact hlt)];simp [ky]);have mr:=η (aDl (l:=l) HN.o EY.o HQ.o hlt);have ej:(0:Int)<=(k:Int):=by omega
     have hkb:(k:Int)<(aA (dE es):Int):=by omega
     generalize (dE es)[k]=q at*;have HD:=η aGV;obtain⟨n,hn⟩:∃n,lF M A q=aC n:=Option.ne_none_iff_exists'.1 gR;have pP:n<aA l:=by rw [pj.o.len];exact Nx hn
     have hnA:n<=9*54:=by have h2:=pj.o.len;have h3:=pj.o.hM;have h4:=pj.o.hA;have h5:A*(6+3*M)<=9*54:=yT h4 (by omega);omega
     obtain⟨Av,cv,RJ⟩:=bL pj.o.own;obtain⟨bv,ov,KP,hbv,hcv⟩:=tZ (aW.cB (by have h2:=pj.o.own;rw [RJ] at h2;exact h2)) pP;have hbl:ku M A l q=l[n]:=by unfold ku balA;rw [show plcA M A q.1 q.2.1 q.2.2=aC n from hn];simp [pP]
     have LM:Hid (kG M A l es q=⟨(n:Int),tU q.1,fE es q,l[n]+fE es q⟩):=η (by unfold kG;rw [hn,hbl];rfl);have Ow:Hid (yt M A l es q=(dR (fE es q) !=0||dR (l[n]+fE es q) !=0)):=η (by unfold yt;rw [hbl]);have hlx:=Ja.o _ (cK pP);have aN4:(0:Int)<=(n:Int):=by omega
     have mF:(n:Int)<(aA l:Int):=by omega
     obtain⟨Aq,cq,vk⟩:=bL (HG.o.tR.rows (.inl q));have kT:Hid (∀W,β wh W->(Instr.lookup 284 (.map (aC b)) (bP #[ν q.1,ν q.2.1,ν q.2.2]) aP).run aM W= .ok (aH Aq (aA (gz es q)) cq) W):=η λW hW=>by have h2:=(HG.o.below hW).look HD.o;rw [vk] at h2;exact h2
     have kj:Hid (∀W,β wh W->aQ aM 104 #[aH Aq (aA (gz es q)) cq] W λe w'=>e=aT (bC #[ν (gU (fE es q)),ν (dR (fE es q))])/\β W w'):=η λW hW=>EB (gz es q) Aq cq W (aDR HI.o q) (by have h2:=(HG.o.below hW).tR.rows (.inl q);rw [vk] at h2;exact aW.cB h2) (by have:=a2B es q;omega)
     have eR:Hid (∀W,β wh W->aQ aM 155 #[π bb,bP #[ν q.1,ν q.2.1],ν q.2.2] W λe w'=>e=aT (bC #[ν (n:Int),ν 0])/\β W w'):=η λW hW=>by have h2:=VF M A v l po q.1 q.2.1 q.2.2 bb W (pj.o.below (cC.o.trans (hW.mono cC.o.size))) HD.o.1 HD.o.2.1;rw [show plcA M A q.1 q.2.1 q.2.2=aC n from hn] at h2;exact h2
     have B2:Hid (∀W,β wh W->W.cell? ⟨bb,2,aB⟩=aC (aH Av (aA l) cv)/\W.cell? ⟨bv,ov+n,aB⟩=aC (ν l[n])):=η λW hW=>by have h2:=cC.o.trans (hW.mono cC.o.size);refine⟨?_,((fD h2).1 _ _ hbv).trans hcv⟩;rw [<-RJ];exact(pj.o.below h2).c2
     have dJ:Hid (β wh (wr.alloc (aK #[ν q.1,ν q.2.1,ν q.2.2] 289))):=η (HR.o.alloc HR.o.size _);have cu:Hid ((wr.alloc (aK #[ν q.1,ν q.2.1,ν q.2.2] 289)).heap[wr.heap.size]? =aC (aK #[ν q.1,ν q.2.1,ν q.2.2] 289 (0,0))):=η (cQ wr _);have cF:=η (HO.o.alloc (aK #[ν q.1,ν q.2.1,ν q.2.2] 289));have AL:k<=1024:=by omega
     have hz0:wr.heap.size<(wr.alloc (aK #[ν q.1,ν q.2.1,ν q.2.2] 289)).heap.size:=by simp
     subst KP;go_upto_region 22 with fail
     generalize wr.alloc (aK #[ν q.1,ν q.2.1,ν q.2.2] 289)=w3 at*;generalize wr.heap.size=bx at*;obtain⟨q1,q2,q3⟩:=q;simp only at HD LM Ow kT kj eR cu mr cG jU;have iW:Hid (∀W,β w3 W->W.cell? ⟨bx,0,aB⟩=aC (ν q1)/\W.cell? ⟨bx,1,aB⟩=aC (ν q2)/\W.cell? ⟨bx,2,aB⟩=aC (ν q3)):=η λW hW=>⟨((fD hW).1 _ _ hz0).trans (ρ cu.o),((fD hW).1 _ _ hz0).trans (ρ cu.o),((fD hW).1 _ _ hz0).trans (ρ cu.o)⟩
     have Zo:=η hlx;obtain⟨s0,s1,s2⟩:=iW.o _ (aX _ _);generalize fE es (q1,q2,q3)=s at*;by_cases hs1:aL s
     ·by_cases hs2:aL (l[n]+s)
      ·have yN:Hid (((dE es).take (k+1)).any (yt M A l es)=aP):=η (by rw [cG.o,HV.o,Ow.o,(eH hs1).2,(eH hs2).2];rfl);have HAD:=η (λW=>Pm l[n] s W Zo.o hs1);rw [(eH hs2).1,(eH hs2).2] at HAD;rw [(eH hs1).1,(eH hs1).2] at kj;obtain⟨ic,Dm,sH,sJ,sK⟩:=dP aDY;go_wp2_with (first|(go_at_call 155;refine(eR.o _ dJ.o).mono ?_;rintro e w4 ⟨rfl,hb4⟩;have ar:Hid (β wh w4):=τ dJ hb4;have gM:Hid (β w3 w4):=η hb4;have hlk:=kT.o _ ar.o;obtain⟨s0,s1,s2⟩:=iW.o _ gM.o)|(go_at_call 104;refine(kj.o _ ar.o).mono ?_;rintro e w5 ⟨rfl,dA⟩;have cY:Hid (β wh w5):=τ ar dA;have oq:Hid (β w3 w5):=τ gM dA;obtain⟨cb,cl⟩:=B2.o _ cY.o;obtain⟨s0,s1,s2⟩:=iW.o _ oq.o)|(go_at_call 201;refine(HAD.o _).mono ?_;rintro e w6 ⟨rfl,rfl⟩)|(go_at_call 112;refine(Q0 q1 q2 _).mono ?_;rintro e w6 ⟨rfl,iQ⟩;have gK:Hid (β wh w6):=τ cY iQ;have wZ:Hid (β w3 w6):=τ oq iQ;have lx:=η ((iJ cF.o wZ.o).alloc (aK #[ν (n:Int),bK (tU q1),ν s,ν (l[n]+s)] 233)))|(at_builtin;refine wpList_append_lies _ rfl _ _ 229 rfl wh.heap.size 233 ic _ 4 32 underlying229 Dm sH sJ sK rfl (by omega) _ _ _ rfl lx.o ⟨w6.heap.size,0,aB⟩ 1 1 (Ch.cells ⟨(n:Int),tU q1,s,l[n]+s⟩) rfl rfl (dS _ _ #[_,_,_,_] rfl) (aDZ _) (by omega) (by simp only [bO];omega) (by omega) (by have:=gK.o.size;simp;omega) (w6.heap.size+1) (by simp) ?_))
       intro g7 aDU w7 aGv Qo _ _;have vB:Hid (β wh w7):=η ((gK.o.alloc gK.o.size _).grown Qo (by have:=gK.o.size;simp;omega) (λj hj=>eU lx.o j hj));have rS:Hid (w7.ownsRow wh.heap.size 233 4 (aH (aC ⟨g7,0,aB⟩) (k+1) aDU) (k+1) (BV ((ky M A l es).take (k+1)))):=η (by rw [jU.o,LM.o,aDX];exact aGv);go_wp2_with fail
       go_roundw
       case rel=>exact⟨k+1,by omega,by go_num,vB,rS,yN⟩
       case measure=>simp [ag];omega
      have HE:Hid (jY M A l es=2):=η (mr.o (by rw [Ow.o,(gw hs2).2];simp));have HAD:=η (λW=>Pm l[n] s W Zo.o hs1);rw [(gw hs2).1,(gw hs2).2] at HAD;rw [(eH hs1).1,(eH hs1).2] at kj;go_wp2_with (first|(go_at_call 155;refine(eR.o _ dJ.o).mono ?_;rintro e w4 ⟨rfl,hb4⟩;have ar:Hid (β wh w4):=τ dJ hb4;have gM:Hid (β w3 w4):=η hb4;have hlk:=kT.o _ ar.o;obtain⟨s0,s1,s2⟩:=iW.o _ gM.o)|(go_at_call 104;refine(kj.o _ ar.o).mono ?_;rintro e w5 ⟨rfl,dA⟩;have cY:Hid (β wh w5):=τ ar dA;have oq:Hid (β w3 w5):=τ gM dA;obtain⟨cb,cl⟩:=B2.o _ cY.o;obtain⟨s0,s1,s2⟩:=iW.o _ oq.o)|(go_at_call 201;refine(HAD.o _).mono ?_;rintro e w6 ⟨rfl,rfl⟩))
      go_ret2;exact⟨cC.o.trans (cY.o.mono cC.o.size),.inr ⟨by rw [HE.o];decide,by rw [HE.o];rfl⟩⟩
     have HE:Hid (jY M A l es=2):=η (mr.o (by rw [Ow.o,(gw hs1).2];simp));rw [(gw hs1).1,(gw hs1).2] at kj;go_wp2_with (first|(go_at_call 155;refine(eR.o _ dJ.o).mono ?_;rintro e w4 ⟨rfl,hb4⟩;have ar:Hid (β wh w4):=τ dJ hb4;have gM:Hid (β w3 w4):=η hb4;have hlk:=kT.o _ ar.o;obtain⟨s0,s1,s2⟩:=iW.o _ gM.o)|(go_at_call 104;refine(kj.o _ ar.o).mono ?_;rintro e w5 ⟨rfl,dA⟩;have cY:Hid (β wh w5):=τ ar dA;have oq:Hid (β w3 w5):=τ gM dA;obtain⟨cb,cl⟩:=B2.o _ cY.o;obtain⟨s0,s1,s2⟩:=iW.o _ oq.o))
     go_ret2;exact⟨cC.o.trans (cY.o.mono cC.o.size),.inr ⟨by rw [HE.o];decide,by rw [HE.o];rfl⟩⟩
    obtain rfl:k=aA (dE es):=by omega
    rw [cU] at HV;have cD:Hid (wr.ownsRow wh.heap.size 233 4 (aH Ax (aA (dE es)) cx) (aA (ky M A l es)) (BV (ky M A l es))):=η (by
     have e:aA (ky M A l es)=aA (dE es):=by unfold ky;rw [iX]
     have h2:=HO.o;rw [List.take_of_length_le (by omega)] at h2;rw [e];exact h2)
    have wU:Hid (jY M A l es=0):=η (aDj HN.o EY.o HQ.o HV.o);go_wp2_with fail
    go_ret2;exact⟨cC.o.trans (HR.o.mono cC.o.size),.inl ⟨wU.o,_,rfl,iD cD.o cC.o.size⟩⟩
end
section
structure bA(S:Nat->Prop)(w w':aJ):Prop where
 os:w'.os=w.os
 tape:w'.tape=w.tape
 output:w'.output=w.output
 size:w.heap.size<=w'.heap.size
 keep:∀k,k<w.heap.size->¬S k->w'.heap[k]? =w.heap[k]?
section
variable {S S':Nat->Prop} {w w1 w2:aJ}
theorem bA.refl(S:Nat->Prop)(w:aJ):bA S w w:=⟨rfl,rfl,rfl,aZ _,λ_ _ _=>rfl⟩
theorem bA.trans(h:bA S w w1)(h':bA S' w1 w2)(hs:∀k,S' k->S k\/w.heap.size<=k):bA S w w2:=
 ⟨h'.os.trans h.os,h'.tape.trans h.tape,h'.output.trans h.output,bz h.size h'.size,λk hk hn=>(h'.keep k (cL hk h.size) (λe=>(hs k e).elim hn (λe2=>by omega))).trans (h.keep k hk hn)⟩
theorem bA.bY(S:Nat->Prop)(h:aa w.heap.size w w1):bA S w w1:=⟨h.os,h.tape,h.output,h.size,λk hk _=>h.block k hk⟩
theorem bA.Iy {row:Option Nat}(h:w.grownBy w1 row)(hr:∀k,row=aC k->S k\/w.heap.size<=k):bA S w w1:=
 ⟨h.os,h.tape,h.output,h.size,λk hk hn=>h.block k hk (λe=>(hr k e.symm).elim hn (λe2=>by omega))⟩
theorem bA.below(h:bA S w w1)(hb:aa w1.heap.size w1 w2):bA S w w2:=h.trans (bA.bY (λ_=>False) hb) (λ_ e=>e.elim)
theorem bA.mono(h:bA S w w1)(hs:∀k,S k->S' k\/w.heap.size<=k):bA S' w w1:=⟨h.os,h.tape,h.output,h.size,λk hk hn=>h.keep k hk (λe=>(hs k e).elim hn (λe2=>by omega))⟩
theorem bA.toBelow {B:Nat}(h:bA S w w1)(hB:B<=w.heap.size)(hs:∀k,S k->B<=k):aa B w w1:=⟨h.os,h.tape,h.output,h.size,λk hk=>h.keep k (by omega) (λe=>by have:=hs k e;omega)⟩
theorem bA.cell(h:bA S w w1) {k:Nat}(o:Nat)(hk:k<w.heap.size)(hn:¬S k):w1.cell? ⟨k,o,aB⟩=w.cell? ⟨k,o,aB⟩:=gu (a:=⟨k,o,aB⟩) (h.keep k hk hn)
theorem bA.own(h:bA S w w1) {base:Nat} {e:bZ} {size n:Nat} {v:aN} {xs:List aN}(ho:w.ownsRow base e size v n xs)(hv:∀k,v.ownBlock=aC k->¬S k):w1.ownsRow base e size v n xs:=by
 have hlt:=λk hk=>(ho.lt k hk).2
 rcases ho.2 with⟨hv0,hn⟩|⟨g,cap,cur,hvg,h1,h2,h3,h4,h5⟩
 ·exact⟨ho.1,aS ⟨hv0,hn⟩⟩
 have hg:v.ownBlock=aC g:=by rw [hvg];rfl
 exact⟨ho.1,aU ⟨g,cap,cur,hvg,h1,(h.keep g (hlt g hg) (hv g hg)).trans h2,h3,h4,h5⟩⟩
theorem bA.eA(h:bA S w w1) {A:Option ai} {xs:List aN}(hs:aW w w.heap.size A xs)(hA:xs≠ []->∀p,A=aC p->¬S p.block):aW w1 w1.heap.size A xs:=λj u hu=>by
 obtain⟨b,o,e,hb,hc⟩:=hs j u hu;have hne:xs≠ []:=by intro e0;rw [e0] at hu;simp at hu
 exact⟨b,o,e,cL hb h.size,(h.cell _ hb (hA hne _ e)).trans hc⟩
theorem bA.setCell(h:bA S w w1) {p:ai}(hp:S p.block\/w.heap.size<=p.block)(u:aN):bA S w (w1.setCell p u):=
 h.trans (S':=λk=>k=p.block) ⟨rfl,rfl,rfl,by simp,λk _ hk=>nR _ _ _ _ hk⟩ (λk e=>by rw [e];exact hp)
theorem bA.alloc(h:bA S w w1)(o:Obj):bA S w (w1.alloc o):=h.below ((aX _ _).alloc (aZ _) o)
theorem bA.drew(h:bA S w w1):bA S w w1.drew:=h.below (aX _ _).drew
end
end
theorem aDp {M A:Nat} {l:List Int} {es:List En}(h:jY M A l es=0):(es.any (λx=>(lF M A x.spot).isNone)=aP)/\(dE es).any (yt M A l es)=aP/\(dQ 9).any (λi=>sumI (gy es i) !=0)=aP:=by
 unfold jY at h;split at h
 ·omega
 split at h
 ·omega
 rename_i h1;split at h
 ·omega
 rename_i h2;split at h
 ·omega
 rename_i h3;exact⟨by simpa using h1,by simpa using h3,by simpa using h2⟩
theorem aJf {M A:Nat} {es:List En}(h:es.any (λx=>(lF M A x.spot).isNone)=aP) {q:Int×Int×Int}(hq:q∈dE es):lF M A q≠aB:=by obtain⟨x,hx,e⟩:=Xk hq;have h2:=zT.1 h x hx;rw [<-e];exact λe=>h2 (by rw [e];rfl)
theorem aDo {M A:Nat} {l:List Int} {es:List En}(h:jY M A l es=0)(hl:aA l=A*(6+3*M)) {x:Ch}(hx:x∈ky M A l es):∃n:Nat,x.p=(n:Int)/\n<aA l:=by obtain⟨q,hq,rfl⟩:=di.1 hx;obtain⟨n,hn⟩:=Option.ne_none_iff_exists'.1 (aJf (aDp h).1 hq);exact⟨n,by unfold kG;rw [hn];rfl,by rw [hl];exact Nx hn⟩
def L4(M A:Nat)(l:List Int)(es:List En):List Int:=if nZ M A l es=0 then kN M A l es else l
def aAY(bb M A:Nat)(v:aN)(l:List Int)(es:List En)(w:aJ)(e:dX)(w':aJ):Prop:=
 ∃xz,e=aT (ν (nZ M A l es))/\fK w' bb M A v (L4 M A l es) xz/\bA (λk=>k=bb\/v.ownBlock=aC k) w w'
theorem fK.upd {w w1:aJ} {bb M A:Nat} {v:aN} {l:List Int} {po:Int} {S:Nat->Prop}(h:fK w bb M A v l po)(hu:bA S w w1)(h1:¬S bb)(h2:∀k,v.ownBlock=aC k->¬S k):fK w1 bb M A v l po:=
 ⟨(hu.keep bb h.lt h1).trans h.blk,hu.own h.own h2,h.len,h.hM,h.hA⟩
theorem fK.ne {w:aJ} {bb M A:Nat} {v:aN} {l:List Int} {po:Int}(h:fK w bb M A v l po):v.ownBlock≠aC bb:=gS h.own h.blk (by decide)
theorem fK.put {w:aJ} {bb M A g cv:Nat} {l:List Int} {po:Int}(h:fK w bb M A (aH (aC ⟨g,0,aB⟩) (aA l) cv) l po)(n:Nat)(y:Int):fK (w.setCell ⟨g,n,aB⟩ (aG aF y)) bb M A (aH (aC ⟨g,0,aB⟩) (aA l) cv) (l.set n y) po:=by
 have hne:g≠bb:=λe=>h.ne (by rw [e];rfl)
 refine⟨(nR _ _ _ _ (Ne.symm hne)).trans h.blk, ?_,by rw [xD];exact h.len,h.hM,h.hA⟩;have h2:=(h.own.stored n (ν y)).1;rw [xD,List.map_set];exact h2
theorem fK.aJl {w:aJ} {bb M A:Nat} {v:aN} {l:List Int} {po:Int}(h:fK w bb M A v l po)(y:Int):fK (w.setCell ⟨bb,3,aB⟩ (aG aF y)) bb M A v l y:=
 ⟨(lz h.blk 3 _).trans rfl,kP h.own (λe=>h.ne e) _,h.len,h.hM,h.hA⟩
theorem fK.f3 {w:aJ} {bb M A:Nat} {v:aN} {l:List Int} {po:Int}(h:fK w bb M A v l po)(j:Nat):w.frozen? ⟨bb,j,aB⟩=aP:=by simp [iO,h.blk]
theorem a1y(M A:Nat)(v:aN)(l:List Int)(po:Int)(es:List En)(AA:Option ai)(c bb:Nat)(w:aJ)(h:fK w bb M A v l po)(hs:aW w w.heap.size AA (qy es))(hI:∀x∈es,x.ok)(vq:∀y∈l,aL y)(hl:aA es<=100000):
 aQ aM 99 #[π bb,aH AA (aA es) c] w (aAY bb M A v l es w):=by
 have LM:=η (aD9 M A v l po es AA c bb w h hs hI vq hl);have pj:=η h;have hbl:=h.lt;by_cases h0:jY M A l es=0
 ·obtain⟨E,hE⟩:=xq (nZ M A l es);have wU:=η h0;have l9:aA (ky M A l es)<=100000:=by
   have h2:=Rs [] es;have e:aA (ky M A l es)=aA (dE es):=by unfold ky;rw [iX]
   rw [e];exact bz h2 hl
  have HP:=η (λx hx=>aDo (M:=M) (A:=A) (l:=l) (es:=es) wU.o pj.o.len (x:=x) hx);have rR:Hid (kN M A l es=lG l (ky M A l es)):=η rfl;have wT:Hid (nZ M A l es=if (ky M A l es).any rr=aO then 13 else 0):=η (by unfold nZ;rw [ifN (by simpa using wU.o)]);go_enter aBO,aCB
  go_wp2_with (go_at_call 159;refine LM.o.mono ?_;rintro e w2 ⟨hb2,h2⟩;obtain⟨vo,rfl,eY⟩:∃v,e=aT (bC #[v,ν 0])/\w2.ownsRow w.heap.size 233 4 v (aA (ky M A l es)) (BV (ky M A l es)):=(h2.elim (λh=>h.2) (λh=>absurd wU.o h.1));have aV:Hid (β w w2):=η hb2;have dG:=η eY;obtain⟨Ao,co,NH⟩:=bL eY;subst NH)
  generalize ky M A l es=cs at*;have zF:Hid ((cs.take 0).any rr=aP):=η (by rw [nW];rfl);have sY:Hid (β w2 w2):=η (aX _ _);go_loopw [8,24] (λ_ i wr=>∃k:Nat,k<=aA cs/\i=ν (k:Int)/\Hid (β w2 wr)/\Hid ((cs.take k).any rr=aP)) (λ_ i _=>aA cs-(ag i).toNat)
  ·exact⟨0,bM _,rfl,sY,zF⟩
  ·
   obtain⟨k,hk,rfl,HR,HF⟩:=hrel;by_cases hlt:k<aA cs
   ·obtain⟨be,oe,rfl,kY,e0,e1,e2,e3⟩:=a2H (((aW.cB dG.o).below HR.o).mono HR.o.size) hlt;have cG:=η (zb rr hlt);have ej:(0:Int)<=(k:Int):=by omega
    have hkb:(k:Int)<(aA cs:Int):=by omega
    have GM:=η (λ(h:rr cs[k]=aO)=>kE.2 ⟨_,cK hlt,h⟩);generalize cs[k]=x at*;obtain⟨xp,xf,xb,xn⟩:=x;simp only at e0 e1 e2 e3;have af:Hid (β w2 (wr.alloc (aK #[ν xp,bK xf,ν xb,ν xn] 233))):=η (HR.o.alloc HR.o.size _);cases xf with
    |true=>
     have jR:Hid ((cs.take (k+1)).any rr=aP):=η (by rw [cG.o,HF.o];rfl);go_wp2
     go_roundw
     ·exact⟨k+1,by omega,by go_num,af,jR⟩
     simp [ag];omega
    |false=>
     by_cases hb:xb<0
     ·by_cases hn:xn<0
      ·have yE:Hid (nZ M A l es=13):=η (by rw [wT.o,ifP (GM.o (by simp [rr,hb,hn]))]);go_wp2
       go_ret;refine⟨po,by rw [yE.o];rfl, ?_,(bA.bY _ aV.o).trans (bA.bY (λ_=>False) af.o) (λ_ h=>h.elim)⟩;unfold L4;rw [ifN (by rw [yE.o];decide)];exact(pj.o.below aV.o).below af.o
      have jR:Hid ((cs.take (k+1)).any rr=aP):=η (by rw [cG.o,HF.o];simp [rr,hn]);go_wp2
      go_roundw
      ·exact⟨k+1,by omega,by go_num,af,jR⟩
      simp [ag];omega
     have jR:Hid ((cs.take (k+1)).any rr=aP):=η (by rw [cG.o,HF.o];simp [rr,hb]);go_wp2
     go_roundw
     ·exact⟨k+1,by omega,by go_num,af,jR⟩
     simp [ag];omega
   obtain rfl:k=aA cs:=by omega
   rw [cU] at HF;have yE:Hid (nZ M A l es=0):=η (by rw [wT.o,ifN (by rw [HF.o];simp)]);obtain⟨wh,rfl⟩:∃wh:aJ,wh=wr:=⟨_,rfl⟩;have cC:Hid (β w wh):=η (aV.o.trans (HR.o.mono aV.o.size));have Ce:Hid (fK wh bb M A v (lG l (cs.take 0)) po):=η (by rw [nW];exact(pj.o.below aV.o).below HR.o);have P3:Hid (bA (λk=>k=bb\/v.ownBlock=aC k) wh wh):=η (bA.refl _ _);have HOW:=η (iJ dG.o HR.o);have rW:Hid (∀k,v.ownBlock=aC k->k<w.heap.size):=η λk hk=>(pj.o.own.lt k hk).2
   go_wp2
   go_loopw [10,44] (λ_ i wr=>∃k:Nat,k<=aA cs/\i=ν (k:Int)/\Hid (fK wr bb M A v (lG l (cs.take k)) po)/\Hid (bA (λk=>k=bb\/v.ownBlock=aC k) wh wr)) (λ_ i _=>aA cs-(ag i).toNat)
   ·exact⟨0,bM _,rfl,Ce,P3⟩
   ·
    obtain⟨k,hk,rfl,HK,HU⟩:=hrel;by_cases hlt:k<aA cs
    ·have lS:=η (HU.o.own HOW.o (λj hj=>by
      have h2:=eU HOW.o j hj;rintro (h3|h3)
      ·omega
      have:=rW.o j h3;omega))
     obtain⟨be,oe,rfl,kY,e0,e1,e2,e3⟩:=a2H (aW.cB lS.o) hlt;obtain⟨n,hxp,pP⟩:=HP.o _ (cK hlt);have jU:Hid (cs.take (k+1)=cs.take k++ [cs[k]]):=η (fH hlt);have ej:(0:Int)<=(k:Int):=by omega
     have hkb:(k:Int)<(aA cs:Int):=by omega
     generalize cs[k]=x at*;obtain⟨xp,xf,xb,xn⟩:=x;simp only at e0 e1 e2 e3 hxp;subst hxp;have Ll:Hid (lG l (cs.take (k+1))=(lG l (cs.take k)).set n xn):=η (by rw [jU.o,aJp];simp);have hpl:aA (lG l (cs.take k))=aA l:=a6k _ _;have lN:Hid (fK (wr.alloc (aK #[ν (n:Int),bK xf,ν xb,ν xn] 233)) bb M A v (lG l (cs.take k)) po):=η (HK.o.below σ);have oD:Hid ((wr.alloc (aK #[ν (n:Int),bK xf,ν xb,ν xn] 233)).heap[wr.heap.size]? =aC (aK #[ν (n:Int),bK xf,ν xb,ν xn] 233 (0,0))):=η (cQ wr _);have HU3:Hid (bA (λk=>k=bb\/v.ownBlock=aC k) wh (wr.alloc (aK #[ν (n:Int),bK xf,ν xb,ν xn] 233))):=η (HU.o.alloc _);have hgw:∀g,v.ownBlock=aC g->g<wr.heap.size:=λg hg=>(HK.o.own.lt g hg).2
     go_upto_region 15 with fail
     generalize wr.alloc (aK #[ν (n:Int),bK xf,ν xb,ν xn] 233)=w3 at*;generalize wr.heap.size=bx at*;generalize lG l (cs.take k)=pl at*;have hpn:0<aA pl:=by omega
     obtain⟨g,cap,RJ,hg0,jr⟩:=lN.o.own.form hpn;subst RJ;have hnp:n<aA pl:=by omega
     have d1:w3.drew.cell? ⟨bb,2,aB⟩=aC (aH (aC ⟨g,0,aB⟩) (aA pl) cap):=lN.o.c2;have d2:=r1c oD;have d3:w3.drew.cell? ⟨bx,3,aB⟩=aC (ν xn):=ρ oD.o;have HD:Hid (fK w3.drew bb M A (aH (aC ⟨g,0,aB⟩) (aA pl) cap) pl po):=η (lN.o.below (aX _ _).drew);have Ga:Hid (bA (λk=>k=bb\/(aH (aC ⟨g,0,aB⟩) (aA pl) cap).ownBlock=aC k) wh w3.drew):=η HU3.o.drew;have mE:(0:Int)<=(n:Int):=by omega
     obtain⟨y,hy⟩:∃y,w3.drew.cell? ⟨g,n,aB⟩=aC y:=by have h2:=HD.o.own.cellAt n (by omega);exact⟨_,h2.trans (by rw [List.getElem?_map,iG hnp];rfl)⟩
     have pO:=HD.o.own.frozenAt n;refine CM (S:=λW=>W.cell? ⟨bb,2,aB⟩=aC (aH (aC ⟨g,0,aB⟩) (aA pl) cap)/\W.cell? ⟨bx,0,aB⟩=aC (ν (n:Int))/\W.cell? ⟨bx,3,aB⟩=aC (ν xn)) 9 (by kernel_rfl) ⟨d1,d2,d3⟩ (λhHeld=> ?_);generalize w3.drew=w4 at*;refine tL 0 (π bb) rfl (by kernel_rfl) (λ_ _ _ h=>h) ⟨rfl,λ_ _=>by go_simp⟩ hHeld ?_;refine tL 1 (π bb) rfl (by kernel_rfl) (λ_ _ _ h=>h) ⟨rfl,λ_ _=>by go_simp⟩ hHeld ?_;refine tL 2 (ξ bb 2) rfl (by kernel_rfl) (λ_ _ _ h=>h) ⟨rfl,λ_ _=>by go_simp⟩ hHeld ?_;refine tL 3 (aH (aC ⟨g,0,aB⟩) (aA pl) cap) rfl (by kernel_rfl) (λ_ _ _ h=>h) ⟨rfl,λ_ _=>by go_simp⟩ hHeld ?_;refine tL 4 (π bx) rfl (by kernel_rfl) (λ_ _ _ h=>h) ⟨rfl,λ_ _=>by go_simp⟩ hHeld ?_;refine tL 5 (ν (n:Int)) rfl (by kernel_rfl) (λ_ _ _ h=>h) ⟨rfl,λ_ _=>by go_simp⟩ hHeld ?_;refine tL 6 (ξ bx 3) rfl (by kernel_rfl) (λ_ _ _ h=>h) ⟨rfl,λ_ _=>by go_simp⟩ hHeld ?_;refine tL 7 (ν xn) rfl (by kernel_rfl) (λ_ _ _ h=>h) ⟨rfl,λ_ _=>by go_simp⟩ hHeld ?_;refine tL 8 (ξ g n) rfl (by kernel_rfl) (λ_ _ _ h=>h) ⟨rfl,λ_ _=>by go_simp⟩ hHeld ?_;refine nL 9 rfl (by kernel_rfl) λK hK=> ?_
     go_simp
     have ER:Hid (fK (w4.setCell ⟨g,n,aB⟩ (ν xn)) bb M A (aH (aC ⟨g,0,aB⟩) (aA pl) cap) (lG l (cs.take (k+1))) po):=η (by rw [Ll.o];exact HD.o.put n xn);have Jn:Hid (bA (λk=>k=bb\/(aH (aC ⟨g,0,aB⟩) (aA pl) cap).ownBlock=aC k) wh (w4.setCell ⟨g,n,aB⟩ (ν xn))):=η (Ga.o.setCell (p:=⟨g,n,aB⟩) (aS (aU rfl)) _);refine hK.o _ _ (λh=>absurd rfl h) (λ_=> ?_);refine CL (by kernel_rfl) ?_ _;go_wp2
     go_roundw
     ·exact⟨k+1,by omega,by go_num,ER,Jn⟩
     simp [ag];omega
    obtain rfl:k=aA cs:=by omega
    rw [cU] at HK;have c3:=HK.o.c3;have f3:=HK.o.f3 3;go_wp2
    go_ret;refine⟨fV (po+1),by rw [yE.o];rfl, ?_,((bA.bY _ cC.o).trans HU.o (λk h=>aS h)).setCell (p:=⟨bb,3,aB⟩) (aS (aS rfl)) _⟩;unfold L4;rw [ifP yE.o,rR.o];exact HK.o.aJl _
 have HE:Hid (nZ M A l es=jY M A l es):=η (by unfold nZ;rw [ifP h0]);have HN:=η h0;have a4Y:(jY M A l es !=0)=aO:=by simpa using h0
 go_enter aBO,aCB
 go_wp2_with (go_at_call 159;refine LM.o.mono ?_;rintro e w2 ⟨hb2,h2⟩;obtain rfl:e=aT (bC #[aH aB 0 0,ν (jY M A l es)]):=(h2.elim (λh=>absurd h.1 HN.o) (λh=>h.2));have aV:Hid (β w w2):=η hb2)
 go_ret;refine⟨po,by rw [HE.o];rfl, ?_,bA.bY _ aV.o⟩;unfold L4;rw [ifN (by rw [HE.o];exact HN.o)];exact pj.o.below aV.o
section
structure Vp where
 bb:Nat
 bv:aN
 po:Int
 tb:Nat
 tv:aN
structure gY(w:aJ)(vb:Nat)(p:Vp)(M A:Nat)(room:Int)(l:List Int)(h:List Hr):Prop where
 blk:w.heap[vb]? =aC (aK #[π p.bb,π p.tb] 141 (0,0))
 bk:fK w p.bb M A p.bv l p.po
 tb:jH w p.tb room p.tv h
def qK(vb:Nat)(p:Vp)(k:Nat):Prop:=k=vb\/k=p.bb\/p.bv.ownBlock=aC k\/k=p.tb\/p.tv.ownBlock=aC k
section
variable {w w1:aJ} {vb:Nat} {p:Vp} {M A:Nat} {room:Int} {l:List Int} {h:List Hr}
theorem gY.lt(H:gY w vb p M A room l h):vb<w.heap.size:=(fY.1 H.blk).1
theorem gY.c0(H:gY w vb p M A room l h):w.cell? ⟨vb,0,aB⟩=aC (bD (aC ⟨p.bb,0,aB⟩)):=bH _ _ _ _ _ (0,0) H.blk
theorem gY.c1(H:gY w vb p M A room l h):w.cell? ⟨vb,1,aB⟩=aC (bD (aC ⟨p.tb,0,aB⟩)):=bH _ _ _ _ _ (0,0) H.blk
theorem gY.below(H:gY w vb p M A room l h)(hb:aa w.heap.size w w1):gY w1 vb p M A room l h:=⟨(hb.block _ H.lt).trans H.blk,H.bk.below hb,H.tb.below hb⟩
theorem jH.upd {tb:Nat} {v:aN} {S:Nat->Prop}(H:jH w tb room v h)(hu:bA S w w1)(h1:¬S tb)(h2:∀k,v.ownBlock=aC k->¬S k):jH w1 tb room v h:=⟨(hu.keep tb H.lt h1).trans H.blk,hu.own H.own h2⟩
theorem gY.upd {S:Nat->Prop}(H:gY w vb p M A room l h)(hu:bA S w w1)(hS:∀k,qK vb p k->¬S k):gY w1 vb p M A room l h:=
 ⟨(hu.keep vb H.lt (hS _ (aS rfl))).trans H.blk,H.bk.upd hu (hS _ (aU (aS rfl))) (λk hk=>hS _ (aU (aU (aS hk)))),H.tb.upd hu (hS _ (aU (aU (aU (aS rfl))))) (λk hk=>hS _ (aU (aU (aU (aU hk)))))⟩
theorem gY.aCj(H:gY w vb p M A room l h):∀k,qK vb p k->k<w.heap.size:=by
 rintro k (e|e|e|e|e)
 ·rw [e];exact H.lt
 ·rw [e];exact H.bk.lt
 ·exact(H.bk.own.lt k e).2
 ·rw [e];exact H.tb.lt
 exact(H.tb.own.lt k e).2
end
theorem Ke {w:aJ} {B:Nat} {A:Option ai} {l:List Hr}(h:aW w B A (sF l)) {k:Nat}(hk:k<aA l):
 ∃b o,A=aC ⟨b,o,aB⟩/\b<B/\w.cell? ⟨b,o+k*5,aB⟩=aC (ν l[k].i)/\w.cell? ⟨b,o+k*5+1,aB⟩=aC (ν l[k].s)/\w.cell? ⟨b,o+k*5+2,aB⟩=aC (ν l[k].m)/\w.cell? ⟨b,o+k*5+3,aB⟩=aC (ν l[k].a)/\w.cell? ⟨b,o+k*5+4,aB⟩=aC (ν l[k].n):=by
 obtain⟨b,o,e,hb,hc⟩:=h.run (i:=k*5) (y:=ν l[k].i) (t:= [ν l[k].s,ν l[k].m,ν l[k].a,ν l[k].n]) (λj u hu=>tT Hr.cells 5 (λ_=>rfl) l k hk j u hu);exact⟨b,o,e,hb,hc 0 _ rfl,hc 1 _ rfl,hc 2 _ rfl,hc 3 _ rfl,hc 4 _ rfl⟩
theorem aGW(h:List Hr)(k m a:Int):aL (iR h k m a):=by
 have key:∀(h:List Hr) (z:Int),aL z->aL (h.foldl (λn r=>if r.s==k&&r.m==m&&r.a==a then fV (n+r.n) else n) z):=by
  intro h;induction h with
  |nil=>intro z hz;exact hz
  |cons r h ih=>
   intro z hz;rw [D3];apply ih;split
   ·unfold aL fV;omega
   exact hz
 exact key h 0 Jr
theorem aLM {α:Type} {l:List α} {k:Nat}(hk:k<aA l):l.take (k+1)=l.take k++ [l[k]]:=fH hk
theorem a8W(vb:Nat)(p:Vp)(M A:Nat)(room:Int)(l:List Int)(h:List Hr)(k m a:Int)(w:aJ)(H:gY w vb p M A room l h)(hl:aA h<=100000):
 aQ aM 160 #[π vb,bP #[ν k,ν m],ν a] w λe w'=>e=aT (ν (iR h k m a))/\β w w':=by
 have aY:Hid (β w (w.alloc (aK #[ν k,ν m] 51))):=η σ;have HV:=η (H.below aY.o);have c1:=HV.o.c1;have cu:Hid ((w.alloc (aK #[ν k,ν m] 51)).heap[w.heap.size]? =aC (aK #[ν k,ν m] 51 (0,0))):=η (cQ w _);have hz0:w.heap.size<(w.alloc (aK #[ν k,ν m] 51)).heap.size:=by simp
 clear H;go_enter func160,ntmps160
 go_wp2_with fail
 generalize w.alloc (aK #[ν k,ν m] 51)=w1 at*;obtain⟨bx,bU⟩:∃bx,bx=w.heap.size:=⟨_,rfl⟩;rw [<-bU] at cu hz0 ⊢;clear bU;have Lt:=η (a8P room p.tv h p.tb w1 HV.o.tb hl);go_wp2_with (go_at_call 125;refine Lt.o.mono ?_)
 rintro e w2 ⟨v2,rfl,eY,hb2⟩;have HO:=η eY;have HB:Hid (β w w2):=τ aY hb2;have HX:Hid (w2.heap[bx]? =aC (aK #[ν k,ν m] 51 (0,0))):=η ((hb2.block bx hz0).trans cu.o);have hz2:bx<w2.heap.size:=cL hz0 hb2.size;obtain⟨Ar,cr,hv⟩:=bL eY;subst hv;have sY:Hid (β w2 w2):=η (aX _ _);have LX:Hid (iR (h.take 0) k m a=0):=η (by rw [nW];rfl);clear eY hb2 Lt HV c1 cu aY;go_wp2_with fail
 go_loopw [7,9,16] (λn _ i wr=>∃(j:Nat) (z:Int),j<=aA h/\i=ν (j:Int)/\n=ν z/\Hid (iR (h.take j) k m a=z)/\Hid (β w2 wr)) (λ_ _ i _=>aA h-(ag i).toNat)
 case atStart=>exact⟨0,0,bM _,rfl,rfl,LX,sY⟩
 case round=>
  clear sY LX;obtain⟨j,z,hj,rfl,rfl,HH,HR⟩:=hrel;by_cases hlt:j<aA h
  ·obtain⟨be,oe,rfl,kY,e0,e1,e2,e3,e4⟩:=Ke (((aW.cB HO.o).below HR.o).mono HR.o.size) hlt;have cG:Hid (iR (h.take (j+1)) k m a=if (h[j].s==k&&h[j].m==m&&h[j].a==a)=aO then fV (z+h[j].n) else z):=η (by rw [aLM hlt,aGX,HH.o]);have AE:(0:Int)<=(j:Int):=by omega
   have hjb:(j:Int)<(aA h:Int):=by omega
   generalize h[j]=r at*;obtain⟨ri,rs,rm,ra,rn⟩:=r;simp only at e0 e1 e2 e3 e4 cG;have af:Hid (β w2 (wr.alloc (aK #[ν ri,ν rs,ν rm,ν ra,ν rn] 188))):=η (HR.o.alloc HR.o.size _);have q0:wr.cell? ⟨bx,0,aB⟩=aC (ν k):=(HR.o.cell (p:=⟨bx,0,aB⟩) hz2).trans (ρ HX.o);have q1:wr.cell? ⟨bx,1,aB⟩=aC (ν m):=(HR.o.cell (p:=⟨bx,1,aB⟩) hz2).trans (ρ HX.o);have hzr:bx<wr.heap.size:=cL hz2 HR.o.size;by_cases h1:rs=k
   ·subst h1;by_cases h2:rm=m
    ·subst h2;by_cases h3:ra=a
     ·subst h3;have HN:Hid (iR (h.take (j+1)) rs rm ra=fV (z+rn)):=η (by rw [cG.o];simp);go_wp2_with fail
      go_roundw
      case rel=>exact⟨j+1,_,by omega,by go_num,rfl,HN,af⟩
      case measure=>simp [ag];omega
     have HN:Hid (iR (h.take (j+1)) rs rm a=z):=η (by rw [cG.o];simp [h3]);have IB:(ra==a)=aP:=by simpa using h3
     go_wp2_with fail
     go_roundw
     case rel=>exact⟨j+1,_,by omega,by go_num,rfl,HN,af⟩
     case measure=>simp [ag];omega
    have HN:Hid (iR (h.take (j+1)) rs m a=z):=η (by rw [cG.o];simp [h2]);have ud:(rm==m)=aP:=by simpa using h2
    go_wp2_with fail
    go_roundw
    case rel=>exact⟨j+1,_,by omega,by go_num,rfl,HN,af⟩
    case measure=>simp [ag];omega
   have HN:Hid (iR (h.take (j+1)) k m a=z):=η (by rw [cG.o];simp [h1]);have ub:(rs==k)=aP:=by simpa using h1
   go_wp2_with fail
   go_roundw
   case rel=>exact⟨j+1,_,by omega,by go_num,rfl,HN,af⟩
   case measure=>simp [ag];omega
  obtain rfl:j=aA h:=by omega
  rw [cU] at HH;go_wp2_with fail
  go_ret;exact⟨by rw [HH.o];rfl,HB.o.trans (HR.o.mono HB.o.size)⟩
theorem Yj(vb:Nat)(p:Vp)(M A:Nat)(room:Int)(l:List Int)(h:List Hr)(k m a:Int)(w:aJ)(H:gY w vb p M A room l h)(hk:aL k)(hm:aL m):
 aQ aM 41 #[π vb,bP #[ν k,ν m],ν a] w λe w'=>e=aT (bC #[ν (balA M A l k m a),ν (nN (plcA M A k m a))])/\β w w':=by
 have aY:Hid (β w (w.alloc (aK #[ν k,ν m] 51))):=η σ;have HV:=η (H.below aY.o);have c0:=HV.o.c0;have Im:=HV.o.lt;have oA:=η (λW (hW:aa (w.alloc (aK #[ν k,ν m] 51)).heap.size (w.alloc (aK #[ν k,ν m] 51)) W)=>VC M A p.bv l p.po k m a p.bb W (HV.o.bk.below hW) hk hm);have x0:(w.alloc (aK #[ν k,ν m] 51)).cell? ⟨w.heap.size,0,aB⟩=aC (ν k):=cM w _ _ 0 rfl;have x1:(w.alloc (aK #[ν k,ν m] 51)).cell? ⟨w.heap.size,1,aB⟩=aC (ν m):=cM w _ _ 1 rfl;have hz0:w.heap.size<(w.alloc (aK #[ν k,ν m] 51)).heap.size:=by simp
 generalize balA M A l k m a=R at*;generalize nN (plcA M A k m a)=E at*;go_enter func41,ntmps41
 go_upto_region 3 with fail
 generalize w.alloc (aK #[ν k,ν m] 51)=w1 at*;obtain⟨bx,bU⟩:∃bx,bx=w.heap.size:=⟨_,rfl⟩;rw [<-bU] at x0 x1 hz0 ⊢;clear bU;have yf:=λ(n:sV w1.heap.size w1) (b o:Nat) (hb:b<w1.heap.size)=>n.cells b o hb
 refine Ss w1.heap.size (by kernel_rfl) (by kernel_rfl) ?_;repeat (go_big_quiet_step ((go_at_call 92;exact Calls.MQ (aZ _) (oA.o _ (sV.h _)))))
 refine wpQuiet_nil ?_;intro _ hw';obtain⟨nq,hw''⟩:=hw';subst hw'';have HN:=η (aY.o.trans (nq.h.mono aY.o.size));clear yf;go_wp2_with fail
 go_ret2;exact⟨rfl,HN.o⟩
theorem a8X(vb:Nat)(p:Vp)(M A:Nat)(room:Int)(l:List Int)(h:List Hr)(k m a:Int)(w:aJ)(H:gY w vb p M A room l h)(hk:aL k)(hm:aL m)(vq:∀y∈l,aL y)(hl:aA h<=100000):
 aQ aM 111 #[π vb,bP #[ν k,ν m],ν a] w λe w'=>e=aT (bC #[ν (if plcA M A k m a=aB then 0 else gU (balA M A l k m a-iR h k m a)),ν (if plcA M A k m a=aB then 8 else dR (balA M A l k m a-iR h k m a))])/\β w w':=by
 have aY:Hid (β w (w.alloc (aK #[ν k,ν m] 51))):=η σ;have HV:=η (H.below aY.o);have iL:=η (Yj vb p M A room l h k m a (w.alloc (aK #[ν k,ν m] 51)) HV.o hk hm);have LY:=η (λW (hW:aa (w.alloc (aK #[ν k,ν m] 51)).heap.size (w.alloc (aK #[ν k,ν m] 51)) W)=>a8W vb p M A room l h k m a W (HV.o.below hW) hl);have x0:(w.alloc (aK #[ν k,ν m] 51)).cell? ⟨w.heap.size,0,aB⟩=aC (ν k):=cM w _ _ 0 rfl;have x1:(w.alloc (aK #[ν k,ν m] 51)).cell? ⟨w.heap.size,1,aB⟩=aC (ν m):=cM w _ _ 1 rfl;have hz0:w.heap.size<(w.alloc (aK #[ν k,ν m] 51)).heap.size:=by simp
 have zD:Hid (aL (balA M A l k m a)):=η (by
  unfold balA;split
  ·rename_i n _;rw [tC];cases hg:l[n]? with
   |none=>exact Jr
   |some y=>exact vq _ (zV hg)
  exact Jr)
 have og:=η (aGW h k m a);by_cases hp:plcA M A k m a=aB
 ·rw [ifP hp,ifP hp];rw [hp] at iL;generalize balA M A l k m a=R at*;unfold nN at iL;simp only at iL;go_enter aAf,aBS
  go_wp2_with (go_at_call 41;refine iL.o.mono ?_;rintro e w2 ⟨rfl,hb2⟩;have aV:Hid (β w w2):=τ aY hb2)
  go_ret2;exact⟨rfl,aV.o⟩
 rw [ifN hp,ifN hp];obtain⟨n,hn⟩:=Option.ne_none_iff_exists'.1 hp;rw [hn] at iL;have kj:=η (λW=>SP (balA M A l k m a) (iR h k m a) W zD.o og.o);generalize balA M A l k m a=R at*;generalize iR h k m a=Z at*;unfold nN at iL;simp only at iL;go_enter aAf,aBS
 go_wp2_with (first|(go_at_call 41;refine iL.o.mono ?_;rintro e w2 ⟨rfl,hb2⟩;have aV:Hid (β w w2):=τ aY hb2;have qY:=η hb2;have y0:=(fD hb2).1 w.heap.size 0 hz0;have y1:=(fD hb2).1 w.heap.size 1 hz0;rw [x0] at y0;rw [x1] at y1)|(go_at_call 160;refine(LY.o _ qY.o).mono ?_;rintro e w3 ⟨rfl,hb3⟩;have af:Hid (β w w3):=τ aV hb3)|(go_at_call 148;refine(kj.o _).mono ?_;rintro e w4 ⟨rfl,rfl⟩))
 go_ret2;exact⟨rfl,af.o⟩
end
end Go.Proofs.YtdokipdchlcmeaaGreat
