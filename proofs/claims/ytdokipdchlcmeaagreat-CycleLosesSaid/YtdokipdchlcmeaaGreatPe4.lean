/-
  Several texts in one, for one claim (printed by pack.py).
-/
import Derived.Test.YtdokipdchlcmeaaGreatPe3
import Derived.Laws.EntriesVeiled
import Derived.Shelf.Spec.SlicesGrow
import Derived.Laws.AppendOwnNone
import Derived.LoopN
import Derived.Lib.SlKeysI
set_option linter.all false
set_option maxRecDepth 100000
set_option maxHeartbeats 12800000
open Array renaming getElem?_eq_some_iff→fY
open Bool renaming true→aO,false→aP,and_eq_true→jX,false_eq_true→YJ
open Go renaming World→aJ,Value→aN,Calls→aQ,Addr→ai,cell_of_row→bG,maxLen→bK,TypeId→bX,heap_alloc_new→cT,info_parts→dK,Ending→di,rounds_succ→eA,wpList_append_own→iw,callsIn_wide→sV,wp_loop_rounds→uY,grownCap→xB,step_append_lies→AL
open Go.Builtin renaming zeroCells→Dl
open Go.Ending renaming returned→aU
open Go.Fence renaming wide→KY
open Go.Instr renaming mapUpdate→EA,mapEntry→Fp,makeSlice→OT
open Go.IntKind renaming i64→aF,wrap_i64→fW,wrap_u64→uo
open Go.IntWalk renaming i64_in→sM
open Go.MapKept renaming run_getObj_map→B9,run_setObj_map→Fu
open Go.Maps renaming keyOf_int_mk→a8K
open Go.Obj renaming cells→aK
open Go.Proofs renaming intOf→ag
open Go.Proofs.Lays8 renaming n4→YS
open Go.Proofs.Tryz renaming prog→aM,underlying53→mD,underlying39→sU,underlying3→wS,underlying46→yD,underlying4→BA,isAgg3→Cl,isAgg4→Cm,sizeOf3→Cn,sizeOf4→Co,zeroValue3→Cp,zeroValue4→Cq,isAgg0→GD,sizeOf0→GG,underlying0→GH,zeroValue0→GK,func86→LY,isAgg46→LZ,ntmps86→La,sizeOf46→Lb,zeroValue46→Lc,isAgg9→Ov,sizeOf9→Ox,underlying9→P0,zeroValue9→P1,func199→U3,ntmps199→UA,func117→a0D,func131→a0F,func197→a0J,func229→a0L,isAgg20→a0S,ntmps117→a0W,ntmps131→a0Y,ntmps197→a0c,ntmps229→a0e,results117→a0m,sizeOf20→a0o,underlying20→a0t,zeroValue20→a0w,func111→aA1,func129→aA6,func159→aAC,func188→aAH,func200→aAK,func204→aAL,func259→aAO,func260→aAP,func99→aAk,ntmps111→aAo,ntmps129→aAt,ntmps159→aAz,ntmps188→aB4,ntmps200→aB7,ntmps204→aB8,ntmps259→aBB,ntmps260→aBC,ntmps99→aBX
open Go.Region renaming wanted→JL
open Go.Result renaming andThen→uE
open Go.RowKit renaming Below→aa,wrap64→fV
open Go.RowKit.Below renaming refl→aX,heap_setCell→nB,alloc→qj,setCell→Di
open Go.Shelf renaming Ren→yh
open Go.Value renaming int→aG,slice→aH,tuple→bB,pointer→bH,bool→bM,agg→bO,ownBlock→dx
open Go.WideElems renaming rg→P3,rd→aBl,Fit→aLl
open Go.WideShapes renaming sorted_perm→aLm
open Go.World renaming ownsRow_nil→gC,cell?_of_block→gg,frozen?→iU,ownsRow→jn,size_alloc→Cr
open Int renaming le_refl→dH
open List renaming length→aA,getElem_mem→cK,length_append→cL,take_length→cU,range→dQ,mem_map→dV,map_append→dY,mem_cons_of_mem→df,mem_cons→fC,take_succ_eq_append_getElem→fF,mem_append→gJ,replicate→gN,getElem?_eq_getElem→iA,length_map→iK,mem_filter→j6,any_eq_true→kK,zipWith→kL,pairwise_cons→kX,eq_nil_of_length_eq_zero→nG,mem_range→nH,take_zero→nJ,mem_cons_self→oZ,length_filter_le→qN,getD_eq_getElem?_getD→sQ,mem_iff_getElem→sR,length_cons→uB,length_singleton→uC,mem_append_left→uD,length_take→ur,pairwise_iff_getElem→uu,flatMap_cons→wP,getElem_map→wQ,length_set→yA,any_eq_false→zE,mem_of_getElem?→zG,pairwise_map→B8,foldl_cons→Ca,length_nil→EC,length_zipWith→ED,mem_append_right→EE,zipWith_cons_cons→EG,nil_append→Fs,map_congr_left→JG,map_map→LO,getElem_replicate→Tq,mergeSort_perm→Zo,mem_map_of_mem→a9V
open Nat renaming le_refl→aZ,zero_le→bL,le_trans→cC,lt_of_lt_of_le→cR,mul_le_mul→yC,add_mul→Fw,add_zero→Fx
open Option renaming none→aB,some→aC
open Option.some renaming inj→od
open Or renaming inl→aS,inr→aT
namespace Go.Proofs.YtdokipdchlcmeaaGreat
open Go.Proofs.Tryz Go.RowKit
section
open Go.Maps Go.MapKept Go.ChangeMaps
theorem aK5:(aM.info? 53).map (λi=>(i.zero,i.size,i.bytes))=aC (aC (aH aB 0 0),1,24):=by kernel_rfl
theorem aKF:(aM.info? 289).map (λi=>(i.zero,i.size,i.bytes))=aC (aC (bO #[aG aF 0,aG aF 0,aG aF 0]),3,24):=by kernel_rfl
theorem aHH(W:aJ):(OT 235 (aG aF 9) (aG aF 9)).run aM W= .ok (aH (aC ⟨W.heap.size,0,aB⟩) 9 9) (W.alloc (aK #[aH aB 0 0,aH aB 0 0,aH aB 0 0,aH aB 0 0,aH aB 0 0,aH aB 0 0,aH aB 0 0,aH aB 0 0,aH aB 0 0] 53)):=by
 obtain⟨i0,hi,hz0,hz1,hz2⟩:=dK aK5;have h:=run_makeSlice (P:=aM) W 235 53 i0 _ underlying235 hi hz0 aF aF 9 9 (by omega) (dH _) (by rw [hz1];simp) (by rw [hz2];simp) (by omega);rw [hz1] at h;have hm:madeCells (aH aB 0 0).cells (Int.toNat 9*1)= #[aH aB 0 0,aH aB 0 0,aH aB 0 0,aH aB 0 0,aH aB 0 0,aH aB 0 0,aH aB 0 0,aH aB 0 0,aH aB 0 0]:=by kernel_rfl
 rw [hm] at h;exact h
def YV(w:aJ)(l:List En)(e:di)(W':aJ):Prop:=
 ∃base b ab cf ov,e=aU (bB #[.map (aC b),aH (aC ⟨ab,0,aB⟩) 9 9,ov])/\lB w base b ab cf ov (gthF l) (cu l) W'
theorem Gp {w W:aJ}(h:aa w.heap.size w W)(r:Option Nat):w.grownBy W r:=⟨h.os,h.tape,h.output,h.size,λk hk _=>h.block k hk⟩
theorem EU {w W W':aJ} {r r':Option Nat}(h:w.grownBy W r)(h':W.grownBy W' r')(hr:r'=r\/∀g,r'=aC g->w.heap.size<=g):w.grownBy W' r:=by
 refine⟨h'.os.trans h.os,h'.tape.trans h.tape,h'.output.trans h.output,cC h.size h'.size,λk hk hne=> ?_⟩;rw [h'.block k (cR hk h.size) ?_,h.block k hk hne];rcases hr with rfl|hr
 ·exact hne
 intro e;have:=hr k e.symm;omega
theorem Po {w W:aJ} {r:Option Nat}(h:w.grownBy W r)(o:Obj):w.grownBy (W.alloc o) r:=EU h (Gp ((aX _ _).alloc (aZ _) o) r) (.inl rfl)
theorem aFJ(l:List En)(A:Option ai)(c:Nat)(w:aJ)(hs:aW w w.heap.size A (qT l))(hI:∀x∈l,x.ok)(ha:∀x∈l,0<=x.a/\x.a<=8)(hl:aA l<=1024):
 aQ aM 206 #[aH A (aA l) c] w (YV w l):=by
 have HS:=η hs;have HI:=η hI;have HA:=η ha;clear hs hI ha;have mG:= @run_makeMap aM;have DO:=aHH (w.alloc (.map #[] 0));have HST:Hid (lB w (w.heap.size+2) w.heap.size (w.heap.size+1) (λ_=>aH aB 0 0) (aH aB 0 0) (gthF (l.take 0)) (cu (l.take 0)) ((w.alloc (.map #[] 0)).alloc (aK #[aH aB 0 0,aH aB 0 0,aH aB 0 0,aH aB 0 0,aH aB 0 0,aH aB 0 0,aH aB 0 0,aH aB 0 0,aH aB 0 0] 53))):=η (by
  refine⟨⟨[],(eU.made _ _ _ _).alloc _,λq=>rfl,λp hp=>by cases hp⟩,⟨#[],0,(fG _ _ (by simp)).trans (cT w _),stamped_empty 0⟩, ?_, ?_,gC _ _ _ _,⟨by omega,by omega,by omega,by omega,by omega,by simp⟩,σ.alloc (by simp) _⟩
  ·have:=cT (w.alloc (.map #[] 0)) (aK #[aH aB 0 0,aH aB 0 0,aH aB 0 0,aH aB 0 0,aH aB 0 0,aH aB 0 0,aH aB 0 0,aH aB 0 0,aH aB 0 0] 53);rw [Cr] at this;exact this
  rw [nJ,aFY];exact tV.made _ _)
 go_enter func206,ntmps206
 go_wp2_with fail
 rw [Cr] at*;generalize (w.alloc (.map #[] 0)).alloc (aK #[aH aB 0 0,aH aB 0 0,aH aB 0 0,aH aB 0 0,aH aB 0 0,aH aB 0 0,aH aB 0 0,aH aB 0 0,aH aB 0 0] 53)=w1 at*;go_loopw [7,9,10,15] (λov _ _ i wr=>∃(k:Nat) (cf:Ix->aN),k<=aA l/\i=ν (k:Int)/\Hid (lB w (w.heap.size+2) w.heap.size (w.heap.size+1) cf ov (gthF (l.take k)) (cu (l.take k)) wr)) (λ_ _ _ i _=>aA l-(ag i).toNat)
 case atStart=>exact⟨0,_,bL _,rfl,HST⟩
 case round=>
  clear HST DO;obtain⟨k,cf,hk,rfl,HG⟩:=hrel;obtain⟨Ao,co,Mg⟩:=bJ HG.o.ord;subst Mg;by_cases hlt:k<aA l
  ·obtain⟨be,oe,rfl,lO,e0,e1,e2,e3⟩:=Uz ((HS.o.below HG.o.b).mono HG.o.b.size) hlt;have dR:=HI.o _ (cK hlt);have oz:=HA.o _ (cK hlt);have lM:Hid (l.take (k+1)=l.take k++ [l[k]]):=η (fF hlt);have eC:aA (l.take k)<=1024:=by rw [ur];omega
   have eV:(0:Int)<=(k:Int):=by omega
   have hkb:(k:Int)<(aA l:Int):=by omega
   generalize l[k]=x at*;generalize l.take k=pre at*;obtain⟨xk,xm,xa,xn⟩:=x;simp only at e0 e1 e2 e3 oz;obtain⟨a,rfl⟩:∃a:Nat,xa=(a:Int):=⟨xa.toNat,by omega⟩;have EZ:a<9:=by omega
   have aLw:(a:Int)<9:=by omega
   have ha0:(0:Int)<=(a:Int):=by omega
   have HQ:Hid (FP (xk,xm,(a:Int))):=η ⟨dR.k,dR.m,dR.a⟩;clear oz dR;have aR:Hid (β wr ((wr.alloc (aK #[ν xk,ν xm,ν (a:Int),ν xn] 103)).alloc (aK #[ν xk,ν xm,ν (a:Int)] 289))):=η (σ.alloc (by simp) _);have dC:Hid (((wr.alloc (aK #[ν xk,ν xm,ν (a:Int),ν xn] 103)).alloc (aK #[ν xk,ν xm,ν (a:Int)] 289)).heap[wr.heap.size]? =aC (aK #[ν xk,ν xm,ν (a:Int),ν xn] 103 (0,0))):=η ((fG _ _ (by simp)).trans (cT wr _));have wO:Hid (((wr.alloc (aK #[ν xk,ν xm,ν (a:Int),ν xn] 103)).alloc (aK #[ν xk,ν xm,ν (a:Int)] 289)).heap[wr.heap.size+1]? =aC (aK #[ν xk,ν xm,ν (a:Int)] 289 (0,0))):=η (by have:=cT (wr.alloc (aK #[ν xk,ν xm,ν (a:Int),ν xn] 103)) (aK #[ν xk,ν xm,ν (a:Int)] 289);rw [Cr] at this;exact this);have hz1:wr.heap.size+1<((wr.alloc (aK #[ν xk,ν xm,ν (a:Int),ν xn] 103)).alloc (aK #[ν xk,ν xm,ν (a:Int)] 289)).heap.size:=by simp
   have lG:=η (HG.o.below aR.o);have hbl:w.heap.size+2<=wr.heap.size:=HG.o.low.2.2.2.2.2;have Dy:Hid (∀i g,(cf i).ownBlock=aC g->g<wr.heap.size):=η λi g e=>((HG.o.tA.rows i).lt g e).2
   have lH:Hid (∀g,(aH Ao (aA (cu pre)) co).ownBlock=aC g->g<wr.heap.size):=η λg e=>(HG.o.ord.lt g e).2
   go_upto_region 8 with fail
   generalize (wr.alloc (aK #[ν xk,ν xm,ν (a:Int),ν xn] 103)).alloc (aK #[ν xk,ν xm,ν (a:Int)] 289)=w2 at*;clear HG aR;clear e0 e1 e2 e3;generalize wr.heap.size=bx at*;obtain⟨c0,c1,c2,c3⟩:=RO dC;obtain⟨s0,s1,s2⟩:=NP wO;obtain⟨Aq,cq,vJ⟩:=bJ (lG.o.tA.rows (.inl (xk,xm,(a:Int))));have hlk:(Instr.lookup 284 (.map (aC w.heap.size)) (bO #[ν xk,ν xm,ν (a:Int)]) aP).run aM w2= .ok (aH Aq (aA (gq pre (xk,xm,(a:Int)))) cq) w2:=by rw [<-show cf (.inl (xk,xm,(a:Int)))=aH Aq (aA (gq pre (xk,xm,(a:Int)))) cq from vJ];exact lG.o.look HQ.o
   have Fa:Hid (cu (pre++ [⟨xk,xm,(a:Int),xn⟩])=cu pre++(if (gq pre (xk,xm,(a:Int))).isEmpty then [(xk,xm,(a:Int))] else [])):=η (RB pre _);have pA:=a1Y pre (xk,xm,(a:Int));have mH:aA (cu pre)<=1024:=cC (RA [] pre) eC;have AZ:=η vJ;clear vJ;have key:∃n:Nat,n=aA (gq pre (xk,xm,(a:Int))):=⟨_,rfl⟩;obtain⟨n,hn⟩:=key;rw [<-hn] at hlk pA;have HN:=η hn;clear hn;obtain⟨ip,hip,aGT,aGU,aGV⟩:=dK aKF;obtain⟨i0,bj,hz0',fh,xK⟩:=dK Mz;by_cases lf:n=0
   ·have mj:(((n:Nat):Int)==0)=aO:=by simp [lf]
    have oP:=η lf;clear lf;have HE:Hid (cu (pre++ [⟨xk,xm,(a:Int),xn⟩])=cu pre++ [(xk,xm,(a:Int))]):=η (by rw [Fa.o,ifP];have h1:=HN.o;rw [oP.o] at h1;simpa using List.length_eq_zero_iff.1 h1.symm);have yx:=η (lG.o.ord.alloc (aK #[ν xk,ν xm,ν (a:Int)] 289));go_wp2_with (at_builtin;refine wpList_append_lies _ rfl _ _ 285 rfl (w.heap.size+2) 289 ip _ 3 24 underlying285 hip aGT aGU aGV rfl (by omega) _ _ (IE (cu pre)) rfl yx.o ⟨w2.heap.size,0,aB⟩ 1 1 (NV (xk,xm,(a:Int))) rfl rfl (dM _ _ #[_,_,_] rfl) (by intro u hu;simp [NV] at hu;rcases hu with rfl|rfl|rfl<;>rfl) (by omega) (by simp only [bK];omega) (by omega) (by have:=lG.o.low.2.2.2.2.2;simp;omega) (w2.heap.size+1) (by simp) ?_)
    intro g3 sW w3 mJ gK _ _;have hne:∀k,(aH Ao (aA (cu pre)) co).ownBlock=aC k->k<bx:=lH.o;have tY:Hid (lB w (w.heap.size+2) w.heap.size (w.heap.size+1) cf (aH (aC ⟨g3,0,aB⟩) (aA (cu pre)+1) sW) (gthF pre) (cu (pre++ [⟨xk,xm,(a:Int),xn⟩])) w3):=η (by refine(lG.o.below σ).aIO gK ?_;rw [HE.o,aKD,cL];exact mJ);have nu:Hid (w3.heap[bx]? =aC (aK #[ν xk,ν xm,ν (a:Int),ν xn] 103 (0,0))):=η ((gK.block bx (by simp;omega) (λe=>by have:=hne _ e.symm;omega)).trans ((fG _ _ (by omega)).trans dC.o));have B7:Hid (w3.heap[bx+1]? =aC (aK #[ν xk,ν xm,ν (a:Int)] 289 (0,0))):=η ((gK.block (bx+1) (by simp;omega) (λe=>by have:=hne _ e.symm;omega)).trans ((fG _ _ (by omega)).trans wO.o));have hz3:bx+1<w3.heap.size:=by have:=gK.size;simp at this;omega
    clear mJ gK hne HE yx lG dC wO s0 s1 s2 hlk hz1 lH Fa;go_upto_region 10 with fail
    generalize (aH (aC ⟨g3,0,aB⟩) (aA (cu pre)+1) sW)=NG at*;obtain⟨c0,c1,c2,c3⟩:=RO nu;obtain⟨s0,s1,s2⟩:=NP B7;obtain⟨st,w5,uP,eZ,hs5,jA,DG⟩:=(tY.o.below ((aX _ _).alloc (aZ _) (aK #[ν xn] 2))).entry HQ.o;have AX:Hid (w5.cell? ⟨w3.heap.size,0,aB⟩=aC (ν xn)):=η (by have e1:=eZ.cell_far ⟨w3.heap.size,0,aB⟩ (by simp) (by have:=tY.o.low;simp;omega);rw [e1];exact cM w3 _ _ 0 rfl);have Wi:w3.heap.size+1=w5.heap.size:=by rw [hs5];simp
    have Hh:w.heap.size+2<=w5.heap.size:=by have:=tY.o.low.2.2.2.2.2;omega
    rw [AZ.o] at uP jA;have jQ:aA (gthF pre (.inl (xk,xm,(a:Int))))=n:=HN.o.symm;rw [jQ] at uP jA;have xX:Hid (cf (.inl (xk,xm,(a:Int)))=aH Aq n cq):=η (by rw [AZ.o,jQ]);have Mj:(Fp 284 (.map (aC w.heap.size)) (bO #[ν xk,ν xm,ν (a:Int)])).run aM (w3.alloc (aK #[ν xn] 2))= .ok (bB #[aH Aq n cq,goInt st]) w5:=uP;have Dr:=η DG;have fK:=η jA;clear uP DG jA eZ Wi hs5 jQ;generalize goInt st=gs at*;go_wp2_with (at_builtin;refine wpList_append_own_at _ rfl _ _ 53 rfl (w.heap.size+2) 2 i0 _ 1 8 mD bj hz0' fh xK rfl (by decide) _ n ((gthF pre (.inl (xk,xm,(a:Int)))).map (aG aF)) rfl fK.o ⟨w3.heap.size,0,aB⟩ 1 1 [ν xn] rfl rfl (by intro j u hu;cases j with|zero=>simp at hu;subst hu;exact AX.o|succ j=>simp at hu) xQ (by simp only [bK];omega) (by omega) Hh ?_)
    intro v6 w6 Ep Eg _ Ej;obtain⟨w7,DR,EW,BS,zt⟩:=Dr.o w6 v6 (gq pre (xk,xm,(a:Int))++ [xn]) (by rw [xX.o];exact Eg) (by have h1:=Ep;rw [cL,<-HN.o,dY];exact h1) (by rw [xX.o];exact Ej);have Fk:Hid (w7.heap[bx]? =aC (aK #[ν xk,ν xm,ν (a:Int),ν xn] 103 (0,0))):=η ((BS bx (by simp;omega) (by omega) (λe=>by have:=Dy.o _ _ e.symm;omega)).trans ((fG _ _ (by omega)).trans nu.o))
    have Hv:bx+1<w7.heap.size:=by have:w3.heap.size+1<=w7.heap.size:=by simpa using zt
                                  omega
    clear BS zt Ep Eg Ej Dr fK AX Hh xX tY nu B7 Mj HN AZ hz3;go_upto_region 11 with fail
    clear DR s0 s1 s2;have iz:=η EW;clear EW;have Im:Hid (gy (gy (gthF pre) (.inl (xk,xm,(a:Int))) (gq pre (xk,xm,(a:Int))++ [xn])) (.inr a) (gp pre a++ [xn])=gthF (l.take (k+1))):=η (by rw [lM.o];exact a3H pre ⟨xk,xm,(a:Int),xn⟩ a EZ rfl);have tZ:Hid (gy (gthF pre) (.inl (xk,xm,(a:Int))) (gq pre (xk,xm,(a:Int))++ [xn]) (.inr a)=gp pre a):=η (by rw [AQ _ _ (by simp)];simp [gthF,EZ]);have rO:=Ud pre a;rw [<-lM.o] at iz;generalize gy cf (.inl (xk,xm,(a:Int))) v6=zR at*;generalize gy (gthF pre) (.inl (xk,xm,(a:Int))) (gq pre (xk,xm,(a:Int))++ [xn])=g7 at*;have hrow:=iz.o.tA.rows (.inr a);rw [tZ.o] at hrow;generalize gp pre a=ys at*;obtain⟨Ar,cr,nQ⟩:=bJ hrow;have hab:w7.cell? ⟨w.heap.size+1,a,aB⟩=aC (aH Ar (aA ys) cr):=by rw [bG _ _ a _ _ (0,0) iz.o.blk,Ue zR EZ,nQ]
    have d1:w7.drew.cell? ⟨bx,2,aB⟩=aC (ν (a:Int)):=ρ Fk.o;have d2:w7.drew.cell? ⟨bx,3,aB⟩=aC (ν xn):=ρ Fk.o;have d3:w7.drew.cell? ⟨w.heap.size+1,a,aB⟩=aC (aH Ar (aA ys) cr):=hab;have d4:w7.drew.frozen? ⟨w.heap.size+1,a,aB⟩=aP:=by show w7.frozen? _=aP;simp [iU,iz.o.blk]
    have pQ:Hid (w7.drew.ownsRow (w.heap.size+2) 2 1 (aH Ar (aA ys) cr) (aA ys) (ys.map (aG aF))):=η (by rw [nQ] at hrow;exact hrow);obtain⟨r,hr⟩:∃r,r=(zR (.inr a)).ownBlock:=⟨_,rfl⟩;have hr2:(aH Ar (aA ys) cr).ownBlock=r:=by rw [hr,nQ]
    have J3:Hid (∀g,r=aC g->w.heap.size+2<=g/\g<w7.heap.size):=η λg e=>hrow.lt g (hr▸e)
    have dN:Hid (aC bx≠r):=η (λe=>by have h1:=iz.o.tA.rows (.inr a);rcases Bn h1 iz.o.ord (by decide) with _|_<;>exact(gM h1 Fk.o (by decide)) (hr▸e.symm));have MK:w.heap.size+1<w7.heap.size:=by have:=iz.o.low;omega
    have Vy:w.heap.size+2<=w7.drew.heap.size:=iz.o.low.2.2.2.2.2;have Au:Hid (aC (w.heap.size+1)≠r):=η (λe=>by have:=(J3.o _ e.symm).1;omega);have HR:=η hr;have pS:=η hr2;have Sa:Hid (lB w (w.heap.size+2) w.heap.size (w.heap.size+1) zR NG g7 (cu (l.take (k+1))) w7.drew):=η (iz.o.below (aX _ _).drew);have MP:bx<w7.drew.heap.size:=by have:w7.drew.heap.size=w7.heap.size:=rfl;omega
    have ML:w.heap.size+1<w7.drew.heap.size:=MK;clear hrow nQ hr hr2 hab iz MK Hv;refine IQ (S:=λW=>W.cell? ⟨bx,2,aB⟩=aC (ν (a:Int))/\W.cell? ⟨bx,3,aB⟩=aC (ν xn)/\W.cell? ⟨w.heap.size+1,a,aB⟩=aC (aH Ar (aA ys) cr)) 13 (by kernel_rfl) ⟨d1,d2,d3⟩ (λhHeld=> ?_);have bW:Hid (∀W,w7.drew.grownBy W r->W.cell? ⟨bx,2,aB⟩=aC (ν (a:Int))/\W.cell? ⟨bx,3,aB⟩=aC (ν xn)/\W.cell? ⟨w.heap.size+1,a,aB⟩=aC (aH Ar (aA ys) cr)):=η λW hg=>⟨(hg.cell_far ⟨bx,2,aB⟩ MP dN.o).trans d1,(hg.cell_far ⟨bx,3,aB⟩ MP dN.o).trans d2,(hg.cell_far ⟨w.heap.size+1,a,aB⟩ ML Au.o).trans d3⟩
    have J7:Hid (∀W,w7.drew.grownBy W r->W.frozen? ⟨w.heap.size+1,a,aB⟩=aP):=η λW hg=>(hg.frozen_far ⟨w.heap.size+1,a,aB⟩ ML Au.o).trans d4
    clear d1 d2 d3 d4;generalize w7.drew=w8 at*;have Aa:Hid (w8.grownBy w8 r):=η (Gp (aX _ _) r);refine eB (i:=0) (v:=aH (aC ⟨w.heap.size+1,0,aB⟩) 9 9) rfl (by kernel_rfl) (by kernel_rfl) (by kernel_rfl) (by kernel_rfl) (by kernel_rfl) (λ_ _ _ h=>h) (aS ⟨by rfl,λw' hSw=>by obtain⟨s1,s2,s3⟩:=hSw;go_simp⟩) hHeld ?_;refine eB (i:=1) (v:=bH (aC ⟨bx,2,aB⟩)) rfl (by kernel_rfl) (by kernel_rfl) (by kernel_rfl) (by kernel_rfl) (by kernel_rfl) (λ_ _ _ h=>h) (aS ⟨by rfl,λw' hSw=>by obtain⟨s1,s2,s3⟩:=hSw;go_simp⟩) hHeld ?_;refine eB (i:=2) (v:=ν (a:Int)) rfl (by kernel_rfl) (by kernel_rfl) (by kernel_rfl) (by kernel_rfl) (by kernel_rfl) (λ_ _ _ h=>h) (aS ⟨by rfl,λw' hSw=>by obtain⟨s1,s2,s3⟩:=hSw;go_simp⟩) hHeld ?_;refine eB (i:=3) (v:=aH (aC ⟨w.heap.size+1,0,aB⟩) 9 9) rfl (by kernel_rfl) (by kernel_rfl) (by kernel_rfl) (by kernel_rfl) (by kernel_rfl) (λ_ _ _ h=>h) (aS ⟨by rfl,λw' hSw=>by obtain⟨s1,s2,s3⟩:=hSw;go_simp⟩) hHeld ?_;refine eB (i:=4) (v:=bH (aC ⟨bx,2,aB⟩)) rfl (by kernel_rfl) (by kernel_rfl) (by kernel_rfl) (by kernel_rfl) (by kernel_rfl) (λ_ _ _ h=>h) (aS ⟨by rfl,λw' hSw=>by obtain⟨s1,s2,s3⟩:=hSw;go_simp⟩) hHeld ?_;refine eB (i:=5) (v:=ν (a:Int)) rfl (by kernel_rfl) (by kernel_rfl) (by kernel_rfl) (by kernel_rfl) (by kernel_rfl) (λ_ _ _ h=>h) (aS ⟨by rfl,λw' hSw=>by obtain⟨s1,s2,s3⟩:=hSw;go_simp⟩) hHeld ?_;refine eB (i:=6) (v:=bH (aC ⟨w.heap.size+1,a,aB⟩)) rfl (by kernel_rfl) (by kernel_rfl) (by kernel_rfl) (by kernel_rfl) (by kernel_rfl) (λ_ _ _ h=>h) (aS ⟨by rfl,λw' hSw=>by obtain⟨s1,s2,s3⟩:=hSw;go_simp⟩) hHeld ?_;refine eB (i:=7) (v:=aH Ar (aA ys) cr) rfl (by kernel_rfl) (by kernel_rfl) (by kernel_rfl) (by kernel_rfl) (by kernel_rfl) (λ_ _ _ h=>h) (aS ⟨by rfl,λw' hSw=>by obtain⟨s1,s2,s3⟩:=hSw;go_simp⟩) hHeld ?_;refine eB (i:=8) (v:=bH (aC ⟨bx,3,aB⟩)) rfl (by kernel_rfl) (by kernel_rfl) (by kernel_rfl) (by kernel_rfl) (by kernel_rfl) (λ_ _ _ h=>h) (aS ⟨by rfl,λw' hSw=>by obtain⟨s1,s2,s3⟩:=hSw;go_simp⟩) hHeld ?_;refine eB (i:=9) (v:=ν xn) rfl (by kernel_rfl) (by kernel_rfl) (by kernel_rfl) (by kernel_rfl) (by kernel_rfl) (λ_ _ _ h=>h) (aS ⟨by rfl,λw' hSw=>by obtain⟨s1,s2,s3⟩:=hSw;go_simp⟩) hHeld ?_;clear hHeld;refine nj (rs:= [10]) (by kernel_rfl) (by simp) ?_;refine eX.cons rfl (λK hK=> ?_) eX.nil;go_simp
    have CK:Hid (w8.grownBy (w8.alloc (aK #[ν xn] 2)) r):=η (Po Aa.o _);have wJ:=η (pQ.o.alloc (aK #[ν xn] 2));have Iy:Hid (∀j u,([ν xn]:List aN)[j]? =aC u->(w8.alloc (aK #[ν xn] 2)).cell? ((⟨w8.heap.size,0,aB⟩:ai).add j)=aC u):=η (dM w8 2 #[ν xn] rfl);refine hK.o _ _ (λ_=>bW.o _ CK.o) (λ_=> ?_);clear hK K;generalize (w8.alloc (aK #[ν xn] 2))=w9 at*;refine nj (rs:= [11]) (by kernel_rfl) (by simp) ?_;refine eX.cons rfl (λK hK=> ?_) eX.nil;refine AL _ rfl (.tmp 49) (.tmp 52) 53 rfl (w.heap.size+2) 2 i0 _ 1 8 mD bj hz0' fh xK rfl (by decide) _ (aA ys) (ys.map (aG aF)) rfl wJ.o ⟨w8.heap.size,0,aB⟩ 1 1 [ν xn] rfl rfl Iy.o xQ (by decide) (by simp only [bK];omega) (by omega) (cC Vy CK.o.size) w9.heap.size rfl ?_;intro g10 zP s8 hown hgr hat _;have yr:Hid (w8.grownBy s8 r):=η (EU CK.o hgr (.inl pS.o));have Mc:s8.ownsRow (w.heap.size+2) 2 1 (aH (aC ⟨g10,0,aB⟩) (aA ys+1) zP) (aA (ys++ [xn])) ((ys++ [xn]).map (aG aF)):=by rw [cL,dY];exact hown
    have hloc:(aH (aC ⟨g10,0,aB⟩) (aA ys+1) zP).ownBlock=(zR (.inr a)).ownBlock\/∃g,(aH (aC ⟨g10,0,aB⟩) (aA ys+1) zP).ownBlock=aC g/\w8.heap.size<=g:=by
     rw [<-HR.o];rcases hat with e|e
     ·exact .inl (by rw [<-pS.o];exact e.symm)
     exact .inr ⟨_,rfl,by rw [e];exact CK.o.size⟩
    have SY:Hid (lB w (w.heap.size+2) w.heap.size (w.heap.size+1) (gy zR (.inr a) (aH (aC ⟨g10,0,aB⟩) (aA ys+1) zP)) NG (gthF (l.take (k+1))) (cu (l.take (k+1))) (s8.setCell ⟨w.heap.size+1,a,aB⟩ (aH (aC ⟨g10,0,aB⟩) (aA ys+1) zP))):=η (by rw [<-Im.o];exact Sa.o.a1N EZ (by rw [<-HR.o];exact yr.o) Mc hloc);have f1:=(bW.o _ yr.o).2.2;have f2:=J7.o _ yr.o;clear hown hgr hat Mc hloc;refine hK.o _ _ (λ_=>bW.o _ yr.o) (λ_=> ?_);clear hK K;refine eB (i:=12) (v:=bH (aC ⟨w.heap.size+1,a,aB⟩)) rfl (by kernel_rfl) (by kernel_rfl) (by kernel_rfl) (by kernel_rfl) (by kernel_rfl) (λ_ _ _ h=>h) (aS ⟨by rfl,λw' hSw=>by obtain⟨s1,s2,s3⟩:=hSw;go_simp⟩) (bW.o _ yr.o) ?_;refine nj (rs:= [13]) (by kernel_rfl) (by simp) ?_;refine eX.cons rfl (λK hK=> ?_) eX.nil;go_simp
    refine hK.o _ _ (λh=>absurd rfl h) (λ_=> ?_);clear hK K;refine IP (by kernel_rfl) ?_ _;go_wp2_with fail
    go_roundw
    case rel=>exact⟨k+1,_,by omega,by go_num,SY⟩
    case measure=>simp [ag];omega
   have mj:(((n:Nat):Int)==0)=aP:=by simpa using lf
   have tY:Hid (lB w (w.heap.size+2) w.heap.size (w.heap.size+1) cf (aH Ao (aA (cu pre)) co) (gthF pre) (cu (pre++ [⟨xk,xm,(a:Int),xn⟩])) w2):=η (by
    have e:cu (pre++ [⟨xk,xm,(a:Int),xn⟩])=cu pre:=by rw [Fa.o,ifN,List.append_nil];intro h;exact lf (by rw [HN.o,List.isEmpty_iff.1 h];rfl)
    rw [e];exact lG.o)
   have nu:=dC;have B7:=wO;have hz3:=hz1;go_upto_region 10 with fail
   clear lG dC wO s0 s1 s2 hlk hz1 lH Fa;generalize (aH Ao (aA (cu pre)) co)=NG at*;generalize w2=w3 at*;obtain⟨c0,c1,c2,c3⟩:=RO nu;obtain⟨s0,s1,s2⟩:=NP B7;obtain⟨st,w5,uP,eZ,hs5,jA,DG⟩:=(tY.o.below ((aX _ _).alloc (aZ _) (aK #[ν xn] 2))).entry HQ.o;have AX:Hid (w5.cell? ⟨w3.heap.size,0,aB⟩=aC (ν xn)):=η (by have e1:=eZ.cell_far ⟨w3.heap.size,0,aB⟩ (by simp) (by have:=tY.o.low;simp;omega);rw [e1];exact cM w3 _ _ 0 rfl);have Wi:w3.heap.size+1=w5.heap.size:=by rw [hs5];simp
   have Hh:w.heap.size+2<=w5.heap.size:=by have:=tY.o.low.2.2.2.2.2;omega
   rw [AZ.o] at uP jA;have jQ:aA (gthF pre (.inl (xk,xm,(a:Int))))=n:=HN.o.symm;rw [jQ] at uP jA;have xX:Hid (cf (.inl (xk,xm,(a:Int)))=aH Aq n cq):=η (by rw [AZ.o,jQ]);have Mj:(Fp 284 (.map (aC w.heap.size)) (bO #[ν xk,ν xm,ν (a:Int)])).run aM (w3.alloc (aK #[ν xn] 2))= .ok (bB #[aH Aq n cq,goInt st]) w5:=uP;have Dr:=η DG;have fK:=η jA;clear uP DG jA eZ Wi hs5 jQ;generalize goInt st=gs at*;go_wp2_with (at_builtin;refine wpList_append_own_at _ rfl _ _ 53 rfl (w.heap.size+2) 2 i0 _ 1 8 mD bj hz0' fh xK rfl (by decide) _ n ((gthF pre (.inl (xk,xm,(a:Int)))).map (aG aF)) rfl fK.o ⟨w3.heap.size,0,aB⟩ 1 1 [ν xn] rfl rfl (by intro j u hu;cases j with|zero=>simp at hu;subst hu;exact AX.o|succ j=>simp at hu) xQ (by simp only [bK];omega) (by omega) Hh ?_)
   intro v6 w6 Ep Eg _ Ej;obtain⟨w7,DR,EW,BS,zt⟩:=Dr.o w6 v6 (gq pre (xk,xm,(a:Int))++ [xn]) (by rw [xX.o];exact Eg) (by have h1:=Ep;rw [cL,<-HN.o,dY];exact h1) (by rw [xX.o];exact Ej);have Fk:Hid (w7.heap[bx]? =aC (aK #[ν xk,ν xm,ν (a:Int),ν xn] 103 (0,0))):=η ((BS bx (by simp;omega) (by omega) (λe=>by have:=Dy.o _ _ e.symm;omega)).trans ((fG _ _ (by omega)).trans nu.o))
   have Hv:bx+1<w7.heap.size:=by have:w3.heap.size+1<=w7.heap.size:=by simpa using zt
                                 omega
   clear BS zt Ep Eg Ej Dr fK AX Hh xX tY nu B7 Mj HN AZ hz3;go_upto_region 11 with fail
   clear DR s0 s1 s2;have iz:=η EW;clear EW;have Im:Hid (gy (gy (gthF pre) (.inl (xk,xm,(a:Int))) (gq pre (xk,xm,(a:Int))++ [xn])) (.inr a) (gp pre a++ [xn])=gthF (l.take (k+1))):=η (by rw [lM.o];exact a3H pre ⟨xk,xm,(a:Int),xn⟩ a EZ rfl);have tZ:Hid (gy (gthF pre) (.inl (xk,xm,(a:Int))) (gq pre (xk,xm,(a:Int))++ [xn]) (.inr a)=gp pre a):=η (by rw [AQ _ _ (by simp)];simp [gthF,EZ]);have rO:=Ud pre a;rw [<-lM.o] at iz;generalize gy cf (.inl (xk,xm,(a:Int))) v6=zR at*;generalize gy (gthF pre) (.inl (xk,xm,(a:Int))) (gq pre (xk,xm,(a:Int))++ [xn])=g7 at*;have hrow:=iz.o.tA.rows (.inr a);rw [tZ.o] at hrow;generalize gp pre a=ys at*;obtain⟨Ar,cr,nQ⟩:=bJ hrow;have hab:w7.cell? ⟨w.heap.size+1,a,aB⟩=aC (aH Ar (aA ys) cr):=by rw [bG _ _ a _ _ (0,0) iz.o.blk,Ue zR EZ,nQ]
   have d1:w7.drew.cell? ⟨bx,2,aB⟩=aC (ν (a:Int)):=ρ Fk.o;have d2:w7.drew.cell? ⟨bx,3,aB⟩=aC (ν xn):=ρ Fk.o;have d3:w7.drew.cell? ⟨w.heap.size+1,a,aB⟩=aC (aH Ar (aA ys) cr):=hab;have d4:w7.drew.frozen? ⟨w.heap.size+1,a,aB⟩=aP:=by show w7.frozen? _=aP;simp [iU,iz.o.blk]
   have pQ:Hid (w7.drew.ownsRow (w.heap.size+2) 2 1 (aH Ar (aA ys) cr) (aA ys) (ys.map (aG aF))):=η (by rw [nQ] at hrow;exact hrow);obtain⟨r,hr⟩:∃r,r=(zR (.inr a)).ownBlock:=⟨_,rfl⟩;have hr2:(aH Ar (aA ys) cr).ownBlock=r:=by rw [hr,nQ]
   have J3:Hid (∀g,r=aC g->w.heap.size+2<=g/\g<w7.heap.size):=η λg e=>hrow.lt g (hr▸e)
   have dN:Hid (aC bx≠r):=η (λe=>by have h1:=iz.o.tA.rows (.inr a);rcases Bn h1 iz.o.ord (by decide) with _|_<;>exact(gM h1 Fk.o (by decide)) (hr▸e.symm));have MK:w.heap.size+1<w7.heap.size:=by have:=iz.o.low;omega
   have Vy:w.heap.size+2<=w7.drew.heap.size:=iz.o.low.2.2.2.2.2;have Au:Hid (aC (w.heap.size+1)≠r):=η (λe=>by have:=(J3.o _ e.symm).1;omega);have HR:=η hr;have pS:=η hr2;have Sa:Hid (lB w (w.heap.size+2) w.heap.size (w.heap.size+1) zR NG g7 (cu (l.take (k+1))) w7.drew):=η (iz.o.below (aX _ _).drew);have MP:bx<w7.drew.heap.size:=by have:w7.drew.heap.size=w7.heap.size:=rfl;omega
   have ML:w.heap.size+1<w7.drew.heap.size:=MK;clear hrow nQ hr hr2 hab iz MK Hv;refine IQ (S:=λW=>W.cell? ⟨bx,2,aB⟩=aC (ν (a:Int))/\W.cell? ⟨bx,3,aB⟩=aC (ν xn)/\W.cell? ⟨w.heap.size+1,a,aB⟩=aC (aH Ar (aA ys) cr)) 13 (by kernel_rfl) ⟨d1,d2,d3⟩ (λhHeld=> ?_);have bW:Hid (∀W,w7.drew.grownBy W r->W.cell? ⟨bx,2,aB⟩=aC (ν (a:Int))/\W.cell? ⟨bx,3,aB⟩=aC (ν xn)/\W.cell? ⟨w.heap.size+1,a,aB⟩=aC (aH Ar (aA ys) cr)):=η λW hg=>⟨(hg.cell_far ⟨bx,2,aB⟩ MP dN.o).trans d1,(hg.cell_far ⟨bx,3,aB⟩ MP dN.o).trans d2,(hg.cell_far ⟨w.heap.size+1,a,aB⟩ ML Au.o).trans d3⟩
   have J7:Hid (∀W,w7.drew.grownBy W r->W.frozen? ⟨w.heap.size+1,a,aB⟩=aP):=η λW hg=>(hg.frozen_far ⟨w.heap.size+1,a,aB⟩ ML Au.o).trans d4
   clear d1 d2 d3 d4;generalize w7.drew=w8 at*;have Aa:Hid (w8.grownBy w8 r):=η (Gp (aX _ _) r);refine eB (i:=0) (v:=aH (aC ⟨w.heap.size+1,0,aB⟩) 9 9) rfl (by kernel_rfl) (by kernel_rfl) (by kernel_rfl) (by kernel_rfl) (by kernel_rfl) (λ_ _ _ h=>h) (aS ⟨by rfl,λw' hSw=>by obtain⟨s1,s2,s3⟩:=hSw;go_simp⟩) hHeld ?_;refine eB (i:=1) (v:=bH (aC ⟨bx,2,aB⟩)) rfl (by kernel_rfl) (by kernel_rfl) (by kernel_rfl) (by kernel_rfl) (by kernel_rfl) (λ_ _ _ h=>h) (aS ⟨by rfl,λw' hSw=>by obtain⟨s1,s2,s3⟩:=hSw;go_simp⟩) hHeld ?_;refine eB (i:=2) (v:=ν (a:Int)) rfl (by kernel_rfl) (by kernel_rfl) (by kernel_rfl) (by kernel_rfl) (by kernel_rfl) (λ_ _ _ h=>h) (aS ⟨by rfl,λw' hSw=>by obtain⟨s1,s2,s3⟩:=hSw;go_simp⟩) hHeld ?_;refine eB (i:=3) (v:=aH (aC ⟨w.heap.size+1,0,aB⟩) 9 9) rfl (by kernel_rfl) (by kernel_rfl) (by kernel_rfl) (by kernel_rfl) (by kernel_rfl) (λ_ _ _ h=>h) (aS ⟨by rfl,λw' hSw=>by obtain⟨s1,s2,s3⟩:=hSw;go_simp⟩) hHeld ?_;refine eB (i:=4) (v:=bH (aC ⟨bx,2,aB⟩)) rfl (by kernel_rfl) (by kernel_rfl) (by kernel_rfl) (by kernel_rfl) (by kernel_rfl) (λ_ _ _ h=>h) (aS ⟨by rfl,λw' hSw=>by obtain⟨s1,s2,s3⟩:=hSw;go_simp⟩) hHeld ?_;refine eB (i:=5) (v:=ν (a:Int)) rfl (by kernel_rfl) (by kernel_rfl) (by kernel_rfl) (by kernel_rfl) (by kernel_rfl) (λ_ _ _ h=>h) (aS ⟨by rfl,λw' hSw=>by obtain⟨s1,s2,s3⟩:=hSw;go_simp⟩) hHeld ?_;refine eB (i:=6) (v:=bH (aC ⟨w.heap.size+1,a,aB⟩)) rfl (by kernel_rfl) (by kernel_rfl) (by kernel_rfl) (by kernel_rfl) (by kernel_rfl) (λ_ _ _ h=>h) (aS ⟨by rfl,λw' hSw=>by obtain⟨s1,s2,s3⟩:=hSw;go_simp⟩) hHeld ?_;refine eB (i:=7) (v:=aH Ar (aA ys) cr) rfl (by kernel_rfl) (by kernel_rfl) (by kernel_rfl) (by kernel_rfl) (by kernel_rfl) (λ_ _ _ h=>h) (aS ⟨by rfl,λw' hSw=>by obtain⟨s1,s2,s3⟩:=hSw;go_simp⟩) hHeld ?_;refine eB (i:=8) (v:=bH (aC ⟨bx,3,aB⟩)) rfl (by kernel_rfl) (by kernel_rfl) (by kernel_rfl) (by kernel_rfl) (by kernel_rfl) (λ_ _ _ h=>h) (aS ⟨by rfl,λw' hSw=>by obtain⟨s1,s2,s3⟩:=hSw;go_simp⟩) hHeld ?_;refine eB (i:=9) (v:=ν xn) rfl (by kernel_rfl) (by kernel_rfl) (by kernel_rfl) (by kernel_rfl) (by kernel_rfl) (λ_ _ _ h=>h) (aS ⟨by rfl,λw' hSw=>by obtain⟨s1,s2,s3⟩:=hSw;go_simp⟩) hHeld ?_;clear hHeld;refine nj (rs:= [10]) (by kernel_rfl) (by simp) ?_;refine eX.cons rfl (λK hK=> ?_) eX.nil;go_simp
   have CK:Hid (w8.grownBy (w8.alloc (aK #[ν xn] 2)) r):=η (Po Aa.o _);have wJ:=η (pQ.o.alloc (aK #[ν xn] 2));have Iy:Hid (∀j u,([ν xn]:List aN)[j]? =aC u->(w8.alloc (aK #[ν xn] 2)).cell? ((⟨w8.heap.size,0,aB⟩:ai).add j)=aC u):=η (dM w8 2 #[ν xn] rfl);refine hK.o _ _ (λ_=>bW.o _ CK.o) (λ_=> ?_);clear hK K;generalize (w8.alloc (aK #[ν xn] 2))=w9 at*;refine nj (rs:= [11]) (by kernel_rfl) (by simp) ?_;refine eX.cons rfl (λK hK=> ?_) eX.nil;refine AL _ rfl (.tmp 49) (.tmp 52) 53 rfl (w.heap.size+2) 2 i0 _ 1 8 mD bj hz0' fh xK rfl (by decide) _ (aA ys) (ys.map (aG aF)) rfl wJ.o ⟨w8.heap.size,0,aB⟩ 1 1 [ν xn] rfl rfl Iy.o xQ (by decide) (by simp only [bK];omega) (by omega) (cC Vy CK.o.size) w9.heap.size rfl ?_;intro g10 zP s8 hown hgr hat _;have yr:Hid (w8.grownBy s8 r):=η (EU CK.o hgr (.inl pS.o));have Mc:s8.ownsRow (w.heap.size+2) 2 1 (aH (aC ⟨g10,0,aB⟩) (aA ys+1) zP) (aA (ys++ [xn])) ((ys++ [xn]).map (aG aF)):=by rw [cL,dY];exact hown
   have hloc:(aH (aC ⟨g10,0,aB⟩) (aA ys+1) zP).ownBlock=(zR (.inr a)).ownBlock\/∃g,(aH (aC ⟨g10,0,aB⟩) (aA ys+1) zP).ownBlock=aC g/\w8.heap.size<=g:=by
    rw [<-HR.o];rcases hat with e|e
    ·exact .inl (by rw [<-pS.o];exact e.symm)
    exact .inr ⟨_,rfl,by rw [e];exact CK.o.size⟩
   have SY:Hid (lB w (w.heap.size+2) w.heap.size (w.heap.size+1) (gy zR (.inr a) (aH (aC ⟨g10,0,aB⟩) (aA ys+1) zP)) NG (gthF (l.take (k+1))) (cu (l.take (k+1))) (s8.setCell ⟨w.heap.size+1,a,aB⟩ (aH (aC ⟨g10,0,aB⟩) (aA ys+1) zP))):=η (by rw [<-Im.o];exact Sa.o.a1N EZ (by rw [<-HR.o];exact yr.o) Mc hloc);have f1:=(bW.o _ yr.o).2.2;have f2:=J7.o _ yr.o;clear hown hgr hat Mc hloc;refine hK.o _ _ (λ_=>bW.o _ yr.o) (λ_=> ?_);clear hK K;refine eB (i:=12) (v:=bH (aC ⟨w.heap.size+1,a,aB⟩)) rfl (by kernel_rfl) (by kernel_rfl) (by kernel_rfl) (by kernel_rfl) (by kernel_rfl) (λ_ _ _ h=>h) (aS ⟨by rfl,λw' hSw=>by obtain⟨s1,s2,s3⟩:=hSw;go_simp⟩) (bW.o _ yr.o) ?_;refine nj (rs:= [13]) (by kernel_rfl) (by simp) ?_;refine eX.cons rfl (λK hK=> ?_) eX.nil;go_simp
   refine hK.o _ _ (λh=>absurd rfl h) (λ_=> ?_);clear hK K;refine IP (by kernel_rfl) ?_ _;go_wp2_with fail
   go_roundw
   case rel=>exact⟨k+1,_,by omega,by go_num,SY⟩
   case measure=>simp [ag];omega
  obtain rfl:k=aA l:=by omega
  rw [cU] at HG ⊢;go_wp2_with fail
  go_ret3;exact⟨_,_,_,_,_,rfl,HG.o⟩
end
theorem aGX:(aM.info? 2).map (λi=>(i.zero,i.size,i.bytes))=aC (aC (aG aF 0),1,8):=by kernel_rfl
theorem a4l:(aM.info? 76).map (λi=>(i.zero,i.size,i.bytes))=aC (aC (bO #[aG aF 0,aG aF 0,aG aF 0]),3,24):=by kernel_rfl
theorem a4i(x:Lg):∀u∈x.cells,u.oneCell'=aO:=by intro u hu;simp [Lg.cells] at hu;rcases hu with rfl|rfl|rfl<;>rfl
theorem a4k(L:List Lg)(x:Lg):bA (L++ [x])=bA L++x.cells:=by unfold bA;simp
def bF(L:List Lg):List Int:=L.map (·.n)
theorem qP(L:List Lg):aA (bF L)=aA L:=by unfold bF;rw [iK]
theorem aCA {L:List Lg} {k:Nat}(hk:k<aA L):bF (L.take (k+1))=bF (L.take k)++ [L[k].n]:=by unfold bF;rw [fF hk,dY];rfl
theorem UM(L:List Lg)(A:Option ai)(c:Nat)(w:aJ)(hs:aW w w.heap.size A (bA L))(hl:aA L<=100000):
 aQ aM 189 #[aH A (aA L) c] w (SG (bF L) w):=by
 obtain⟨i0,bj,hz0,hz1,hz2⟩:=dK aGX;have HS:=η hs;go_enter func189,ntmps189
 go_wp2
 go_loopw [3,5,8] (λu _ i wr=>∃k:Nat,k<=aA L/\i=ν k/\Hid (wr.ownsRow w.heap.size 2 1 u (aA (bF (L.take k))) ((bF (L.take k)).map (aG aF)))/\Hid (β w wr)) (λ_ _ i _=>aA L-(ag i).toNat)
 ·exact⟨0,bL _,rfl,⟨by simp,aS ⟨rfl,rfl⟩⟩,aX _ _⟩
 ·
  obtain⟨k,hk,rfl,HO,HB⟩:=hrel;have hsz:=HB.o.size;by_cases hlt:k<aA L
  ·obtain⟨b,o,rfl,hb,d0,d1,d2⟩:=oG (HS.o.below HB.o) hlt;have HF:=η (aCA hlt);have Ba:aA (bF (L.take k))<=k:=by rw [qP,ur];omega
   generalize bF (L.take k)=ys at*;go_wp2_with (at_builtin;refine iw _ rfl _ _ 53 rfl w.heap.size 2 i0 _ 1 8 mD bj hz0 hz1 hz2 rfl (by decide) _ (aA ys) (ys.map (aG aF)) rfl ((HO.o.alloc _).alloc _) ⟨wr.heap.size+1,0,aB⟩ 1 1 [ν L[k].n] rfl rfl (dM _ _ #[_] (by simp)) xQ (by simp only [bK];omega) (by omega) (by simp;omega) ?_)
   intro v' w4 hown1 dE _;have dU:Hid (w4.ownsRow w.heap.size 2 1 v' (aA (bF (L.take (k+1)))) ((bF (L.take (k+1))).map (aG aF))):=by show jn _ _ _ _ _ _ _;rw [HF.o,dY,cL,uC];exact hown1
   have pP:=((HB.o.alloc hsz _).alloc (by simp;omega) _).grown dE (by simp;omega) (λj hj=>ei HO.o j hj);go_wp2
   go_roundw
   ·exact⟨k+1,by omega,by go_num,dU,pP⟩
   simp [ag];omega
  obtain rfl:k=aA L:=by omega
  have hO:=HO.o;rw [cU] at hO;obtain⟨A1,c1,rfl⟩:=bJ hO;have qJ:=η (aW.cA hO);go_wp2
  go_ret;exact⟨A1,c1,rfl,qJ.o,HB.o⟩
def wU(L:List Lg):Int:=(L[0]?.map (·.a)).getD 0
def I9(L:List Lg)(k:Nat):Int:=(L[k-1]?.map (·.m)).getD 0
def zO(L:List Lg)(k:Nat):Bool:=match L[k]? with
 |none=>aP
 |some x=>decide (x.n<1)||(x.a !=wU L||(decide (0<k)&&decide (x.m<=I9 L k)))
def dA(L:List Lg):Int:=if 1024<(aA L) then 6 else if (dQ (aA L)).any (zO L) then 1 else dL (sumI (bF L))
theorem GN {L:List Lg} {k:Nat}(hk:k<aA L):zO L k=(decide (L[k].n<1)||(L[k].a !=wU L||(decide (0<k)&&decide (L[k].m<=I9 L k)))):=by unfold zO;rw [iA hk]
theorem RI {L:List Lg} {k:Nat}(hk:k-1<aA L):I9 L k=L[k-1].m:=by unfold I9;rw [iA hk];rfl
theorem UR {L:List Lg}(hk:0<aA L):wU L=L[0].a:=by unfold wU;rw [iA hk];rfl
theorem Ug {L:List Lg} {k:Nat}(hl:aA L<=1024)(hk:k<aA L)(h:zO L k=aO):dA L=1:=by unfold dA;rw [ifN (by omega),ifP (kK.2 ⟨k,nH.2 hk,h⟩)]
theorem aDN {L:List Lg}(hl:aA L<=1024)(h:∀k,k<aA L->zO L k=aP):dA L=dL (sumI (bF L)):=by unfold dA;rw [ifN (by omega),ifN];rw [kK];rintro⟨k,hk,e⟩;rw [h k (nH.1 hk)] at e;cases e
theorem Lh {L:List Lg}(h:∀x∈L,aL x.n):∀x∈bF L,aL x:=by intro x hx;obtain⟨y,hy,rfl⟩:=dV.1 hx;exact h y hy
theorem PM(L:List Lg)(A:Option ai)(c:Nat)(w:aJ)(hs:aW w w.heap.size A (bA L))(hI:∀x∈L,aL x.n)(hl:aA L<=100000):
 aQ aM 188 #[aH A (aA L) c] w λe w'=>e=aU (ν (dA L))/\β w w':=by
 have HS:=η hs;have HI:=η hI;by_cases hle:aA L<=1024
 ·have aG6:¬(1024:Int)<(aA L:Int):=by omega
  go_enter aAH,aB4
  go_wp2_with fail
  go_loopw [3,4,12] (λ_ _ i wr=>∃k:Nat,k<=aA L/\i=ν k/\Hid (∀j,j<k->zO L j=aP)/\Hid (β w wr)) (λ_ _ i _=>aA L-(ag i).toNat)
  case atStart=>exact⟨0,bL _,rfl,λj h=>by omega,aX _ _⟩
  case round=>
   obtain⟨k,hk,rfl,HP,HB⟩:=hrel;have hsz:=HB.o.size;by_cases hlt:k<aA L
   ·have cW:=η (HS.o.below HB.o);obtain⟨b,o,rfl,hb,d0,d1,d2⟩:=oG cW.o hlt;obtain⟨b0,o0,e0,hb0,f0,f1,f2⟩:=oG cW.o (show 0<(aA L) by omega);injection e0 with e0;injection e0 with e1 e2;subst e1 e2;simp only [Nat.zero_mul,Fx] at f0 f1 f2;rw [<-UR (show 0<(aA L) by omega)] at f1;have jF:=η (GN hlt);have hbr:b<wr.heap.size:=by omega
    have eV:(0:Int)<=(k:Int):=by omega
    have hkb:(k:Int)<(aA L:Int):=by omega
    have hl0:(0:Int)<(aA L:Int):=by omega
    by_cases hn:L[k].n<1
    ·have mj:decide (L[k].n<1)=aO:=decide_eq_true hn;have HE:=η (Ug hle hlt (jF.o.trans (by rw [mj];rfl)));go_wp2_with fail
     go_quiet (fail)
     go_wp2_with fail
     go_ret;exact⟨cY HE.o.symm,below_drewN (HB.o.alloc hsz _) nq⟩
    by_cases ha:L[k].a=wU L
    ·have hab:(L[k].a !=wU L)=aP:=by simpa using ha
     have mj:decide (L[k].n<1)=aP:=decide_eq_false hn;rcases Nat.eq_zero_or_pos k with hz|hz
     ·subst hz;have nr:Hid (∀j,j<0+1->zO L j=aP):=by
       intro j hj;by_cases e:j=0
       ·subst e;exact jF.o.trans (by rw [mj,hab];rfl)
       exact HP.o j (by omega)
      go_wp2_with fail
      go_quiet (fail)
      go_wp2_with fail
      go_roundw
      case rel=>exact⟨0+1,by omega,by go_num,nr,below_drewN (HB.o.alloc hsz _) nq⟩
      case measure=>simp [ag];omega
     have hz':(0:Int)<(k:Int):=by omega
     have hzb:decide (0<k)=aO:=by simpa using hz
     obtain⟨b9,o9,e9,gF,g0,g1,g2⟩:=oG cW.o (show k-1<(aA L) by omega);injection e9 with e9;injection e9 with Uw Ux;subst Uw Ux;rw [<-RI (show k-1<(aA L) by omega)] at g0;have BU:aF.wrap ((k:Int)-1)=(k:Int)-1:=sM _ (by omega);have zl:(0:Int)<=(k:Int)-1:=by omega
     have hk2:(k:Int)-1<(aA L:Int):=by omega
     have hkn:((k:Int)-1).toNat=k-1:=by omega
     by_cases hm:L[k].m<=I9 L k
     ·have vP:decide (L[k].m<=I9 L k)=aO:=decide_eq_true hm;have HE:=η (Ug hle hlt (jF.o.trans (by rw [mj,hab,hzb,vP];rfl)));go_wp2_with fail
      go_quiet (fail)
      go_wp2_with fail
      go_ret;exact⟨cY HE.o.symm,below_drewN (HB.o.alloc hsz _) nq⟩
     have vP:decide (L[k].m<=I9 L k)=aP:=decide_eq_false hm;have nr:Hid (∀j,j<k+1->zO L j=aP):=by
      intro j hj;by_cases e:j=k
      ·subst e;exact jF.o.trans (by rw [mj,hab,hzb,vP];rfl)
      exact HP.o j (by omega)
     go_wp2_with fail
     go_quiet (fail)
     go_wp2_with fail
     go_roundw
     case rel=>exact⟨k+1,by omega,by go_num,nr,below_drewN (HB.o.alloc hsz _) nq⟩
     case measure=>simp [ag];omega
    have hab:(L[k].a !=wU L)=aO:=by simpa [bne] using ha
    have mj:decide (L[k].n<1)=aP:=decide_eq_false hn;have HE:=η (Ug hle hlt (jF.o.trans (by rw [mj,hab];rfl)));go_wp2_with fail
    go_quiet (fail)
    go_wp2_with fail
    go_ret;exact⟨cY HE.o.symm,below_drewN (HB.o.alloc hsz _) nq⟩
   obtain rfl:k=aA L:=by omega
   have HE:=η (aDN hle HP.o);have SP:=η (UM L A c _ ((HS.o.below HB.o).mono hsz) hl);go_wp2_with fail
   refine SP.o.mono ?_;rintro e w2 ⟨A2,c2,rfl,hs2,hb2⟩;have cP:=η hs2;have aV:Hid (β w w2):=HB.o.trans (hb2.mono hsz);have mi:aA (bF L)<=4611686018427387904:=by rw [qP];omega
   go_wp2_with fail
   refine(Dg (bF L) A2 c2 _ (Lh HI.o) cP.o mi).mono ?_;rintro e w3 ⟨rfl,hb3⟩;have af:Hid (β w w3):=aV.o.trans (hb3.mono aV.o.size);go_wp2_with fail
   go_ret;exact⟨cY HE.o.symm,af.o⟩
 have aG6:(1024:Int)<(aA L:Int):=by omega
 have HE:Hid (dA L=6):=by show _=_;unfold dA;rw [ifP (by omega)]
 go_enter aAH,aB4
 go_wp2_with fail
 go_ret;exact⟨cY HE.o.symm,aX _ _⟩
section
open Go.Proofs.YtdokipdchlcmeaaGreat.oh Go.Proofs.YtdokipdchlcmeaaGreat.ShareLaw
theorem a7I(n:Nat)(f:Nat->Int):∀k,k<=n->sumI ((eE n f).take k)=dX f k
 |0,_=>by simp [sumI,dX]
 |k+1,h=>by
  have hk:k<aA (eE n f):=by rw [qh];omega
  rw [Xs hk,a7I n f k (by omega),Dd hk];rfl
theorem aKR(n:Nat)(f:Nat->Int):sumI (eE n f)=dX f n:=by rw [<-a7I n f n (aZ _),List.take_of_length_le (by grind [qh])]
theorem a7G:∀n,sumI (gN n 0)=0
 |0=>rfl
 |n+1=>by rw [List.replicate_succ];unfold sumI;rw [a7G n];rfl
theorem aC2 {T:Int} {l:List Int}(h:iF T l=0):zL T l=0/\((sumI l<=T/\dJ T l=l)\/(T<sumI l/\T=0/\dJ T l=gN (aA l) 0)\/(T<sumI l/\0<T/\dJ T l=eE (aA l) (ShareLaw.part T (sumI l) (wf l) (aA l)))):=by have F:=Ph h;have hp:=F.pos;grind [zL,dJ,uz,uF]
structure a8I(T:Int)(l:List Int):Prop where
 err:zL T l=0
 len:aA (dJ T l)=aA l
 bd:∀i (h:i<aA (dJ T l)) (h':i<aA l),0<=(dJ T l)[i]/\(dJ T l)[i]<=l[i]
 sum:sumI (dJ T l)=min T (sumI l)
theorem getElem_of_eq {α:Type} {l m:List α}(e:l=m) {i:Nat}(h:i<aA l):l[i]=m[i]'(e▸h):=by subst e;rfl
theorem aL8 {l:List Int}(h:∀x∈l,0<=x):∀i,i<aA l->0<=wf l i:=λi hi=>by grind [KS,cK]
theorem ET {T:Int} {l:List Int}(h:iF T l=0):a8I T l:=by
 have F:=Ph h;obtain⟨e,hc⟩:=aC2 h;rcases hc with⟨h1,h2⟩|⟨h1,h2,h3⟩|⟨h1,h2,h3⟩
 ·refine⟨e,by rw [h2],λi hi hi'=> ?_,by grind⟩;rw [getElem_of_eq h2 hi];exact⟨F.all _ (cK hi'),dH _⟩
 ·refine⟨e,by grind,λi hi hi'=> ?_,by grind [a7G]⟩;rw [getElem_of_eq h3 hi,Tq];exact⟨dH _,F.all _ (cK hi')⟩
 have hs:=Xz l;refine⟨e,by rw [h3,qh],λi hi hi'=> ?_, ?_⟩
 ·rw [getElem_of_eq h3 hi,Dd,<-KS hi'];have hw:=aL8 F.all i hi';exact⟨aIg (by omega) (by omega) hs hw,aIf (by omega) (by omega) hs hw⟩
 grind [aKR,aKY]
theorem VA {T:Int} {l:List Int}(h:iF T l=0):fitB l (dJ T l)=aO:=by have G:=ET h;exact(Pg G.len.symm).2 λi h1 h2=>G.bd i h2 h1
end
def yX(a b:Int):Int:=if a<=b then 0 else if dL (a-b)=0 then gP (a-b) else 9223372036854775807
theorem aIW {a b:Int}(ha:0<=a)(hb:0<=b)(h:aL a):yX a b=max (a-b) 0:=by
 unfold yX;by_cases h1:a<=b
 ·rw [ifP h1];omega
 have hI:aL (a-b):=by unfold aL at*;omega
 rw [ifN h1,(dy hI).1,(dy hI).2,ifP rfl];omega
theorem aIY(a b:Int)(w:aJ)(ha:aL a)(hb:aL b):
 aQ aM 86 #[ν a,ν b] w λe w'=>e=aU (ν (yX a b))/\w=w':=by
 have HS:=λW=>η (Rh a b W ha hb)
 have HD:=η (show yX a b=if a<=b then 0 else if dL (a-b)=0 then gP (a-b) else 9223372036854775807 from rfl);by_cases h1:a<=b
 ·have HE:Hid (yX a b=0):=by show _=_;rw [HD.o,ifP h1]
  go_enter LY,La
  go_wp2_with fail
  go_ret;exact⟨cY HE.o.symm,rfl⟩
 by_cases h2:dL (a-b)=0
 ·have HE:Hid (yX a b=gP (a-b)):=by show _=_;rw [HD.o,ifN h1,ifP h2]
  rw [h2] at HS;generalize gP (a-b)=V at*;go_enter LY,La
  go_wp2_with fail
  refine(HS _).o.mono ?_;rintro e w1 ⟨rfl,rfl⟩;go_wp2_with fail
  go_ret;exact⟨cY HE.o.symm,rfl⟩
 have HE:Hid (yX a b=9223372036854775807):=by show _=_;rw [HD.o,ifN h1,ifN h2]
 have h2b:(dL (a-b) !=0)=aO:=by simpa [bne] using h2
 generalize gP (a-b)=V at*;generalize dL (a-b)=E at*;go_enter LY,La
 go_wp2_with fail
 refine(HS _).o.mono ?_;rintro e w1 ⟨rfl,rfl⟩;go_wp2_with fail
 go_ret;exact⟨cY HE.o.symm,rfl⟩
def iO(L:List Lg):Int:=if dA L=0 then sumI (bF L) else 0
theorem BJ {L:List Lg}(h:dA L=0):aA L<=1024/\(∀k,k<aA L->zO L k=aP)/\aL (sumI (bF L)):=by
 unfold dA at h;by_cases h1:1024<aA L
 ·rw [ifP h1] at h;omega
 rw [ifN h1] at h;by_cases h2:(dQ (aA L)).any (zO L)=aO
 ·rw [ifP h2] at h;omega
 rw [ifN h2] at h;refine⟨by omega,λk hk=> ?_,a1H h⟩;cases hb:zO L k
 ·rfl
 exact absurd (kK.2 ⟨k,nH.2 hk,hb⟩) h2
theorem aDO {L:List Lg}(h:dA L=0):gP (sumI (bF L))=sumI (bF L)/\dL (sumI (bF L))=0:=dy (BJ h).2.2
theorem PC(L:List Lg)(A:Option ai)(c:Nat)(w:aJ)(hs:aW w w.heap.size A (bA L))(hI:∀x∈L,aL x.n)(hl:aA L<=100000):
 aQ aM 129 #[aH A (aA L) c] w λe w'=>e=aU (bB #[ν (iO L),ν (dA L)])/\β w w':=by
 have HC:=η (PM L A c w hs hI hl);have HS:=η hs;have HI:=η hI;have HD:=η (show iO L=if dA L=0 then sumI (bF L) else 0 from rfl);have HQ:=η (aDO (L:=L));by_cases h0:dA L=0
 ·have HE:Hid (iO L=sumI (bF L)):=by show _=_;rw [HD.o,ifP h0]
  have kG:=η (HQ.o h0);have H00:=η h0;rw [h0] at HC;go_enter aA6,aAt
  go_wp2_with fail
  refine HC.o.mono ?_;rintro e w1 ⟨rfl,hb1⟩;have aR:=η hb1;have SP:=η (UM L A c _ ((HS.o.below aR.o).mono aR.o.size) hl);go_wp2_with fail
  refine SP.o.mono ?_;rintro e w2 ⟨A2,c2,rfl,hs2,hb2⟩;have cP:=η hs2;have aV:Hid (β w w2):=aR.o.trans (hb2.mono aR.o.size);have mi:aA (bF L)<=4611686018427387904:=by rw [qP];omega
  go_wp2_with fail
  refine(Dg (bF L) A2 c2 _ (Lh HI.o) cP.o mi).mono ?_;rintro e w3 ⟨rfl,hb3⟩;have af:Hid (β w w3):=aV.o.trans (hb3.mono aV.o.size);go_wp2_with fail
  go_ret2;exact⟨(by rw [HE.o,kG.o.1,kG.o.2,H00.o];first|done|rfl),af.o⟩
 have HE:Hid (iO L=0):=by show _=_;rw [HD.o,ifN h0]
 have h0b:(dA L !=0)=aO:=by simpa [bne] using h0
 generalize dA L=E at*;go_enter aA6,aAt
 go_wp2_with fail
 refine HC.o.mono ?_;rintro e w1 ⟨rfl,hb1⟩;have aR:=η hb1;go_wp2_with fail
 go_ret2;exact⟨(by rw [HE.o];first|done|rfl),aR.o⟩
def jD(cD:Int)(L:List Lg):Int:=if dA L≠0 then dA L else if cD<0 then 1 else 0
def AJ(cD:Int)(L:List Lg):Int:=if jD cD L=0 then yX (sumI (bF L)) cD else 0
theorem a6j(cD:Int)(L:List Lg)(A:Option ai)(c:Nat)(w:aJ)(hA:aL cD)(hs:aW w w.heap.size A (bA L))(hI:∀x∈L,aL x.n)(hl:aA L<=100000):
 aQ aM 131 #[ν cD,aH A (aA L) c] w λe w'=>e=aU (bB #[ν (AJ cD L),ν (jD cD L)])/\β w w':=by
 have HC:=η (PC L A c w hs hI hl);have HD:=η (show jD cD L=if dA L≠0 then dA L else if cD<0 then 1 else 0 from rfl);have HV:=η (show AJ cD L=if jD cD L=0 then yX (sumI (bF L)) cD else 0 from rfl);by_cases h0:dA L=0
 ·have kV:Hid (iO L=sumI (bF L)):=by show _=_;unfold iO;rw [ifP h0]
  have yx:=λW=>η (aIY (sumI (bF L)) cD W (BJ h0).2.2 hA)
  rw [kV.o,h0] at HC;by_cases h1:cD<0
  ·have HE:Hid (jD cD L=1):=by show _=_;rw [HD.o,ifN (by omega),ifP h1]
   have mV:Hid (AJ cD L=0):=by show _=_;rw [HV.o,ifN (by rw [HE.o];omega)]
   go_enter a0F,a0Y
   go_wp2_with fail
   refine HC.o.mono ?_;rintro e w1 ⟨rfl,hb1⟩;have aR:=η hb1;go_wp2_with fail
   go_ret2;exact⟨(by rw [HE.o,mV.o];first|done|rfl),aR⟩
  have HE:Hid (jD cD L=0):=by show _=_;rw [HD.o,ifN (by omega),ifN h1]
  have mV:Hid (AJ cD L=yX (sumI (bF L)) cD):=by show _=_;rw [HV.o,ifP HE.o]
  generalize yX (sumI (bF L)) cD=OV at*;generalize sumI (bF L)=S at*;go_enter a0F,a0Y
  go_wp2_with fail
  refine HC.o.mono ?_;rintro e w1 ⟨rfl,hb1⟩;have aR:=η hb1;go_wp2_with fail
  refine(yx _).o.mono ?_;rintro e w2 ⟨rfl,rfl⟩;go_wp2_with fail
  go_ret2;exact⟨(by rw [HE.o,mV.o];first|done|rfl),aR⟩
 have HE:Hid (jD cD L=dA L):=by show _=_;rw [HD.o,ifP h0]
 have mV:Hid (AJ cD L=0):=by show _=_;rw [HV.o,ifN (by rw [HE.o];exact h0)]
 have h0b:(dA L !=0)=aO:=by simpa [bne] using h0
 generalize dA L=E at*;generalize iO L=S at*;go_enter a0F,a0Y
 go_wp2_with fail
 refine HC.o.mono ?_;rintro e w1 ⟨rfl,hb1⟩;have aR:=η hb1;go_wp2_with fail
 go_ret2;exact⟨(by rw [HE.o,mV.o];first|done|rfl),aR⟩
def ej(L:List Lg)(xs:List Int):List Lg:=(kL (λ(x:Lg) n=>(⟨x.m,x.a,n⟩:Lg)) L xs).filter λx=>decide (0<x.n)
theorem aK7 {L:List Lg} {xs:List Int} {k:Nat}(h:k<aA L)(h':k<aA xs):ej (L.take (k+1)) (xs.take (k+1))=ej (L.take k) (xs.take k)++if 0<xs[k] then [⟨L[k].m,L[k].a,xs[k]⟩] else []:=by unfold ej;rw [fF h,fF h',List.zipWith_append (by simp;omega),List.filter_append];by_cases c:0<xs[k]<;>simp [c]
theorem aK6(L:List Lg)(xs:List Int)(k:Nat):aA (ej (L.take k) (xs.take k))<=k:=by unfold ej;refine cC (qN _ _) ?_;rw [ED,ur];omega
theorem Re(L:List Lg)(xs:List Int):aA (ej L xs)<=aA L:=by unfold ej;refine cC (qN _ _) ?_;rw [ED];omega
theorem PN {cD:Int} {L:List Lg}(h:jD cD L=0):iF cD (bF L)=0/\dA L=0/\0<=cD:=by
 unfold jD at h;by_cases h1:dA L≠0
 ·rw [ifP h1] at h;exact absurd h h1
 rw [ifN h1] at h;have h0:dA L=0:=by omega
 obtain⟨a,b,d⟩:=BJ h0;have hA:0<=cD:=by
  by_cases h2:cD<0
  ·rw [ifP h2] at h;omega
  omega
 refine⟨?_,h0,hA⟩;have hn:=a5J λk hk=>by
  rw [qP] at hk;have:=b k hk;rw [GN hk] at this;simp only [Bool.or_eq_false_iff,decide_eq_false_iff_not] at this;have e:(bF L)[k]'(by rw [qP];exact hk)=L[k].n:=by unfold bF;rw [wQ]
  rw [e];omega
 unfold iF;rw [ifN (by rw [qP];omega),ifN (by rw [hn];simp;omega),(dy d).2]
def jb(cD:Int)(L:List Lg):List Lg:=if jD cD L=0 then ej L (dJ cD (bF L)) else []
def jh(cD:Int)(L:List Lg):List Lg:=if jD cD L=0 then ej L (oH (bF L) (dJ cD (bF L))) else []
theorem aHC {T:Int} {l:List Int}(h:iF T l=0):aA (oH l (dJ T l))=aA l/\zy l (dJ T l)=0:=by have G:=ET h;unfold oH zy;rw [VA h];refine⟨?_,rfl⟩;rw [ifP rfl,ED,G.len,Nat.min_self]
def gatE(f:Int->List Int):List Int->Int
 | []=>0
 |k::ks=>if aL (sumI (f k)) then gatE f ks else 2
def nP(f:Int->List Int)(ks:List Int):List Lg:=ks.map λk=>⟨k,0,sumI (f k)⟩
def rM(f:Int->List Int)(ks:List Int):List Lg:=if gatE f ks=0 then nP f ks else []
theorem a2p {f:Int->List Int}:∀ {ks:List Int} {k:Nat} (hk:k<aA ks),(∀j (hj:j<k),aL (sumI (f ks[j])))->¬aL (sumI (f ks[k]))->gatE f ks=2
 |x::xs,0,_,_,h=>by unfold gatE;rw [ifN (by simpa using h)]
 |x::xs,k+1,hk,h,h'=>by unfold gatE;rw [ifP (by have:=h 0 (by omega);simpa using this)];exact a2p (by simpa using hk) (λj hj=>by have:=h (j+1) (by omega);simpa using this) (by simpa using h')
theorem V9 {f:Int->List Int}:∀ {ks:List Int},(∀j (hj:j<aA ks),aL (sumI (f ks[j])))->gatE f ks=0
 | [],_=>rfl
 |x::xs,h=>by unfold gatE;rw [ifP (by have:=h 0 (by simp);simpa using this)];exact V9 λj hj=>by have:=h (j+1) (by simpa using hj);simpa using this
theorem aFI(f:Int->List Int) {ks:List Int} {k:Nat}(hk:k<aA ks):nP f (ks.take (k+1))=nP f (ks.take k)++ [⟨ks[k],0,sumI (f ks[k])⟩]:=by unfold nP;rw [fF hk,dY];rfl
theorem N3:(aM.info? 76).map (λi=>(i.zero,i.size,i.bytes))=aC (aC (bO #[aG aF 0,aG aF 0,aG aF 0]),3,24):=by kernel_rfl
theorem K7(x:Lg):∀u∈x.cells,u.oneCell'=aO:=by intro u hu;simp [Lg.cells] at hu;rcases hu with rfl|rfl|rfl<;>rfl
theorem aH6(l:List Lg)(x:Lg):bA (l++ [x])=bA l++x.cells:=by simp [bA]
theorem NH {wr w1:aJ} {base:Nat} {e:bX} {s n:Nat} {u:aN} {xs:List aN}(h:wr.ownsRow base e s u n xs)(hb:aa wr.heap.size wr w1):w1.ownsRow base e s u n xs:=
 h.kept ⟨hb.os,hb.tape,hb.output,hb.size,λk hk _=>hb.block k hk⟩ (by cases u.ownBlock<;>simp:u.ownBlock=aB\/u.ownBlock≠aB)
end Go.Proofs.YtdokipdchlcmeaaGreat
namespace Go.Proofs
open Go.Proofs.Tryz
open Go.Shelf
def growL_ren:yh:=⟨fun|4=>232|n=>n,fun|22=>39|25=>76|3=>3|4=>4|9=>9|20=>20|0=>0|n=>n,fun|n=>n⟩
theorem growL:YS aM growL_ren:= {
 mixed:=by kernel_rfl
 f4:=⟨f232.name,by decide,func232.trans (congrArg aC (by kernel_rfl))⟩
 t0:=GH
 a0:=GD
 z0:=GG
 v0:=GK
 t3:=wS
 a3:=Cl
 z3:=Cn
 v3:=Cp
 t4:=BA
 a4:=Cm
 z4:=Co
 v4:=Cq
 t9:=P0
 a9:=Ov
 z9:=Ox
 v9:=P1
 t20:=a0t
 a20:=a0S
 z20:=a0o
 v20:=a0w
 t22:=sU
 a22:=isAgg39
 z22:=sizeOf39
 v22:=zeroValue39}
def growA_ren:yh:=⟨fun|4=>278|n=>n,fun|22=>53|25=>2|3=>3|4=>4|9=>9|20=>20|0=>0|n=>n,fun|n=>n⟩
theorem growA:YS aM growA_ren:= {
 mixed:=by kernel_rfl
 f4:=⟨f278.name,by decide,func278.trans (congrArg aC (by kernel_rfl))⟩
 t0:=GH
 a0:=GD
 z0:=GG
 v0:=GK
 t3:=wS
 a3:=Cl
 z3:=Cn
 v3:=Cp
 t4:=BA
 a4:=Cm
 z4:=Co
 v4:=Cq
 t9:=P0
 a9:=Ov
 z9:=Ox
 v9:=P1
 t20:=a0t
 a20:=a0S
 z20:=a0o
 v20:=a0w
 t22:=mD
 a22:=isAgg53
 z22:=sizeOf53
 v22:=zeroValue53}
def growI_ren:yh:=⟨fun|4=>219|n=>n,fun|22=>46|25=>3|3=>3|4=>4|9=>9|20=>20|0=>0|n=>n,fun|n=>n⟩
theorem growI:YS aM growI_ren:= {
 mixed:=by kernel_rfl
 f4:=⟨f219.name,by decide,func219.trans (congrArg aC (by kernel_rfl))⟩
 t0:=GH
 a0:=GD
 z0:=GG
 v0:=GK
 t3:=wS
 a3:=Cl
 z3:=Cn
 v3:=Cp
 t4:=BA
 a4:=Cm
 z4:=Co
 v4:=Cq
 t9:=P0
 a9:=Ov
 z9:=Ox
 v9:=P1
 t20:=a0t
 a20:=a0S
 z20:=a0o
 v20:=a0w
 t22:=yD
 a22:=LZ
 z22:=Lb
 v22:=Lc}
end Go.Proofs
namespace Go.Proofs.YtdokipdchlcmeaaGreat
open Go.Proofs.Tryz Go.RowKit
structure sN(w:aJ)(A:Option ai)(c:Nat)(L:List Lg):Prop where
 dh:aW w w.heap.size A (bA L)
 nil:A=aB->aA L=0/\c=0
theorem sN.below {w w':aJ} {A:Option ai} {c:Nat} {L:List Lg}(h:sN w A c L)(hb:aa w.heap.size w w'):sN w' A c L:=⟨(h.dh.below hb).mono hb.size,h.nil⟩
theorem a4n(L:List Lg):∀u∈bA L,u.oneCell'=aO:=by intro u hu;obtain⟨x,_,hx⟩:=List.mem_flatMap.1 hu;exact K7 x u hx
theorem a4m(L:List Lg):aA (bA L)=aA L*3:=by
 unfold bA;induction L with
 |nil=>rfl
 |cons x L ih=>rw [wP,cL,ih,uB];simp [Lg.cells];omega
theorem S7 {w:aJ} {ops:Array Oper} {rest:List Oper} {o:Oper} {a:Act} {Q:Exit->Act->aJ->Prop}(hgd:o.guard=aB)(s x:Operand)
 (ho:o.op= .call {callee:= .builtin .append,args:= #[s,x],argTypes:= #[39,39]}) (base:Nat)
 (v:aN) (n:Nat) (xs:List aN) (hs:a.eval s=v) (hown:w.ownsRow base 76 3 v n xs)
 (A:Option ai) (c:Nat) (L:List Lg) (hx:a.eval x=aH A (aA L) c) (hz:sN w A c L) (hlen:n+aA L<=1000000) (hbase:base<=w.heap.size)
 (h:∀v' w',w'.ownsRow base 76 3 v' (n+aA L) (xs++bA L)->w.grownBy w' v.ownBlock->wpList aM ops Q rest (a.put o.dst v') w'):wpList aM ops Q (o::rest) a w:=by
 obtain⟨i0,bj,hz0,hz1,hz2⟩:=dK N3;cases A with
 |none=>
  obtain⟨h1,rfl⟩:=hz.nil rfl;obtain rfl:L= []:=nG h1;refine wpList_append_own_none hgd s x 39 ho base 76 i0 3 sU bj v n xs hs hown hx (h v w (by simpa [bA] using hown) ⟨rfl,rfl,rfl,aZ _,λ_ _ _=>rfl⟩)
 |some ad=>
  refine iw w hgd s x 39 ho base 76 i0 _ 3 24 sU bj hz0 hz1 hz2 rfl (by decide) v n xs hs hown ad (aA L) c (bA L) hx (a4m L) ?_ (a4n L) (by simp only [bK];omega) (by omega) hbase ?_
  ·intro j u hu;obtain⟨b,o',e,_,hc⟩:=hz.dh j u hu;have e:=od e;subst e;have ea:(⟨b,o',aB⟩:ai).add j=⟨b,o'+j,aB⟩:=by unfold Addr.add;split<;>simp_all
   rw [ea];exact hc
  intro v' w' h1 h2 _;exact h v' w' h1 h2
theorem a3F(w:aJ)(z:Array aN)(n k:Nat)(e:bX)(hk:z.size=k)(hn:n<=1000000):jn (w.drew.alloc (aK (([]:List aN).toArray++Dl z (0+n-0)++Dl z (xB w (0+n) 0 e-(0+n))) e)) w.heap.size e k (aH (aC ⟨w.heap.size,0,aB⟩) 0 (xB w (0+n) 0 e)) 0 []:=by rw [Nat.zero_add];have h1:=grownCap_ge w n 0 e;refine⟨by simp,Or.inr ⟨w.heap.size,_,_,rfl,aZ _,cT _ _,bL _,grownCap_le_maxLen w n 0 e (by simp only [bK];omega), ?_,by simp⟩⟩;simp only [Array.size_append,List.size_toArray,EC,size_zeroCells,hk];rw [Nat.sub_zero,Nat.zero_add,<-Fw,Nat.add_sub_cancel' h1]
theorem aFT(w:aJ)(n:Nat)(hn:n<=1000000):jn (w.drew.alloc (aK (([]:List aN).toArray++Dl (Value.agg #[aG aF 0,aG aF 0,aG aF 0]).cells (0+n-0)++Dl (Value.agg #[aG aF 0,aG aF 0,aG aF 0]).cells (xB w (0+n) 0 76-(0+n))) 76)) w.heap.size 76 3 (aH (aC ⟨w.heap.size,0,aB⟩) 0 (xB w (0+n) 0 76)) 0 []:=a3F w _ n 3 _ rfl hn
def a8T(l:List Lg)(w:aJ)(e:di)(w':aJ):Prop:=∃A c,e=aU (aH A (aA l) c)/\w'.ownsRow w.heap.size 76 3 (aH A (aA l) c) (aA l) (bA l)/\aa w.heap.size w w'
theorem aDr(z1 z2:List Lg)(A1 A2:Option ai)(c1 c2 g:Nat)(w:aJ)(h1:sN w A1 c1 z1)(h2:sN w A2 c2 z2)(g0:w.cell? ⟨g,0,aB⟩=aC (aH A1 (aA z1) c1))(g1:w.cell? ⟨g,1,aB⟩=aC (aH A2 (aA z2) c2))(hg:g<w.heap.size)(oD:aA z1<=100000)(hl2:aA z2<=100000):
 aQ aM 200 #[aH (aC ⟨g,0,aB⟩) 2 2] w (a8T (z1++z2) w):=by
 have H1:=η h1;have H2:=η h2;have G1:=η g1;rcases Nat.eq_zero_or_pos (aA z1+aA z2) with h0|h0
 ·have ju:aA z1=0:=by omega
  have oF:aA z2=0:=by omega
  have e1:z1= []:=nG ju;have e2:z2= []:=nG oF;subst e1 e2;have qG:Hid (w.ownsRow w.heap.size 76 3 (aH aB 0 0) 0 []):=⟨by simp,aS ⟨rfl,rfl⟩⟩;simp only [EC] at g0 g1;go_enter aAK,aB7
  go_wp2_with fail
  refine uY 3 ?_;rw [eA];go_wp2_with fail
  rw [eA];go_wp2_with fail
  rw [eA];go_wp2_with fail
  refine(Any8.slices_Grow_room growL aB 0 0 0 _ (by omega) (by omega) (by omega) (by omega)).mono ?_;rintro e w2 ⟨rfl,hw2⟩;obtain rfl:w=w2:=hw2.symm;go_wp2_with fail
  refine uY 3 ?_;rw [eA];go_wp2_with (at_builtin;refine S7 rfl _ _ rfl w.heap.size _ 0 [] rfl qG.o A1 c1 [] rfl H1.o (by simp) (aZ _) ?_)
  intro v3 w3 ik hg3;have cB:Hid (w3.ownsRow w.heap.size 76 3 v3 0 []):=by show jn _ _ _ _ _ _ _;simpa [bA] using ik
  have af:Hid (β w w3):=η ((aX _ _).grown hg3 (aZ _) (λj hj=>ei qG.o j hj));have q1:w3.cell? ⟨g,1,aB⟩=aC (aH A2 0 c2):=(af.o.cell (p:=⟨g,1,aB⟩) hg).trans G1.o;have CD:=η (H2.o.below af.o);have uk:=η af.o.size;go_wp2_with fail
  rw [eA];go_wp2_with (at_builtin;refine S7 rfl _ _ rfl w.heap.size _ 0 [] rfl cB.o A2 c2 [] rfl CD.o (by simp) uk.o ?_)
  intro v4 w4 gL hg4;have dU:Hid (w4.ownsRow w.heap.size 76 3 v4 0 []):=by show jn _ _ _ _ _ _ _;simpa [bA] using gL
  have ar:Hid (β w w4):=η (af.o.trans ((aX _ _).grown hg4 uk.o (λj hj=>ei cB.o j hj)));go_wp2_with fail
  rw [eA];go_wp2_with fail
  go_ret;obtain⟨A4,c4,rfl⟩:=bJ dU.o;exact⟨A4,c4,rfl,dU.o,ar.o⟩
 have yP:aF.wrap ((aA z1:Int)+aA z2)=(aA z1:Int)+aA z2:=sM _ (by omega);obtain⟨i0,bj,hz0,hz1,hz2⟩:=dK N3;go_enter aAK,aB7
 go_wp2_with fail
 refine uY 3 ?_;rw [eA];go_wp2_with fail
 rw [eA];go_wp2_with fail
 rw [eA];go_wp2_with fail
 clear yP;rw [show ((aA z1:Int)+(aA z2:Int))=((aA z1+aA z2:Nat):Int) from by omega];refine(Any8.slices_Grow_grow growL i0 (bO #[ν 0,ν 0,ν 0]) bj hz0 (by rw [hz1];decide) aB 0 0 (aA z1+aA z2) [] _ (by omega) (by omega) (by rw [hz2];omega) (by omega) (by simp) (λ_=>rfl) (λa h=>by cases h)).mono ?_;rintro e w2 ⟨rfl,hw2⟩;have qG:Hid (w2.ownsRow w.heap.size 76 3 (aH (aC ⟨w.heap.size,0,aB⟩) 0 (xB w (0+(aA z1+aA z2)) 0 76)) 0 []):=by show jn _ _ _ _ _ _ _;rw [hw2];exact aFT w (aA z1+aA z2) (by omega)
 have sK:Hid (β w w2):=by show RowKit.Below _ _ _;rw [hw2];exact(aX _ _).drew.alloc (aZ _) _
 have HZ:=η sK.o.size;have vx:=η (H1.o.below sK.o);have p0:w2.cell? ⟨g,0,aB⟩=aC (aH A1 (aA z1) c1):=(sK.o.cell (p:=⟨g,0,aB⟩) hg).trans g0;clear hw2 g0 g1;rw [show (growL_ren.t 25)=76 from rfl];generalize xB w (0+(aA z1+aA z2)) 0 76=cap at*;go_wp2_with fail
 refine uY 3 ?_;rw [eA];go_wp2_with (at_builtin;refine S7 rfl _ _ rfl w.heap.size _ 0 [] rfl qG.o A1 c1 z1 rfl vx.o (by omega) HZ.o ?_)
 intro v3 w3 ik hg3;have cB:Hid (w3.ownsRow w.heap.size 76 3 v3 (aA z1) (bA z1)):=by show jn _ _ _ _ _ _ _;simpa using ik
 have mB:Hid (β w w3):=η (sK.o.trans ((aX _ _).grown hg3 HZ.o (λj hj=>ei qG.o j hj)));have q1:w3.cell? ⟨g,1,aB⟩=aC (aH A2 (aA z2) c2):=(mB.o.cell (p:=⟨g,1,aB⟩) hg).trans G1.o;have CD:=η (H2.o.below mB.o);have uk:=η mB.o.size;clear ik hg3;go_wp2_with fail
 rw [eA];go_wp2_with (at_builtin;refine S7 rfl _ _ rfl w.heap.size _ (aA z1) (bA z1) rfl cB.o A2 c2 z2 rfl CD.o (by omega) uk.o ?_)
 intro v4 w4 gL hg4;have dU:Hid (w4.ownsRow w.heap.size 76 3 v4 (aA (z1++z2)) (bA (z1++z2))):=by show jn _ _ _ _ _ _ _;rw [cL,show bA (z1++z2)=bA z1++bA z2 by simp [bA]];exact gL
 have ar:Hid (β w w4):=η (mB.o.trans ((aX _ _).grown hg4 uk.o (λj hj=>ei cB.o j hj)));clear gL hg4 q1;go_wp2_with fail
 rw [eA];go_wp2_with fail
 go_ret;obtain⟨A4,c4,rfl⟩:=bJ dU.o;exact⟨A4,c4,rfl,dU.o,ar.o⟩
section
open Go.Maps Go.MapKept Go.ChangeMaps
open Go.WideElems (Fit)
theorem a4E {x:Int}(h:aL x):(Lit.int aF x).wf=aO:=by unfold aL at h;have h1:aF.min= -9223372036854775808:=rfl;have h2:aF.max=9223372036854775807:=rfl;simp only [Lit.wf,jX,decide_eq_true_eq,h1,h2];exact h
def encI(n:Int):aN:=aG aF n
theorem Bb:CB aM 3 encI aL where
 keyed:=Go.Maps.int_keyed wS
 key:=λq hq=>⟨_,a8K wS (a4E hq)⟩
 inj:=λq q' h=>by unfold encI at h;simpa using h
def lj(q:Int)(m:List (Int×aN)):aN:=(getM q m).getD (aH aB 0 0)
structure lA(w:aJ)(base b:Nat)(m:List (Int×aN))(f:Int->List Int):Prop where
 map:eU aM 3 encI w b m
 yc:∃es clock,w.heap[b]? =aC (.map es clock)/\Stamped es clock
 low:b<base
 rows:∀p∈m,w.ownsRow base 2 1 p.2 (aA (f p.1)) ((f p.1).map encI)
 far:∀p∈m,∀q∈m,p.1≠q.1->p.2.ownBlock=aB\/p.2.ownBlock≠q.2.ownBlock
 off:∀q,(∀p∈m,p.1≠q)->f q= []
 dom:∀p∈m,aL p.1
section
variable {w w' w1:aJ} {base b:Nat} {m:List (Int×aN)} {f:Int->List Int}
theorem lA.made(w:aJ):lA (w.alloc (.map #[] 0)) (w.heap.size+1) w.heap.size [] (λ_=> []):=
 ⟨eU.made _ _ _ _,⟨#[],0,cT w _,stamped_empty 0⟩,Nat.lt_succ_self _,by simp,by simp,λ_ _=>rfl,by simp⟩
theorem RG {e:bX} {size n:Nat} {v:aN} {xs:List aN}(h:w.ownsRow base e size v n xs) {g:Nat}(hg:g<base):v.ownBlock≠aC g:=λe=>by have:=(h.lt _ e).1;omega
theorem lA.below {B:Nat}(h:lA w base b m f)(hB:w.heap.size<=B)(hb:aa B w w'):lA w' base b m f:=by obtain⟨es,clock,hb',hs⟩:=h.yc;have hlt:=h.map.lt;refine⟨h.map.below (by omega) hb,⟨es,clock,(hb.block b (by omega)).trans hb',hs⟩,h.low,λp hp=>(h.rows p hp).kept ⟨hb.os,hb.tape,hb.output,hb.size,λk hk _=>hb.block k (cR hk hB)⟩ (by cases p.2.ownBlock<;>simp:p.2.ownBlock=aB\/p.2.ownBlock≠aB),h.far,h.off,h.dom⟩
theorem X1 {q:Int} {v:aN}:∀ {m:List (Int×aN)},getM q m=aC v->(q,v)∈m
 | [],h=>by simp [getM] at h
 |p::m,h=>by
  unfold getM at h;split at h
  ·rename_i hc;have e:p.1=q:=by simpa using hc
   obtain⟨a,c⟩:=p;simp at e h;subst e h;exact oZ ..
  exact df _ (X1 h)
theorem a2u {q:Int}:∀ {m:List (Int×aN)},getM q m=aB->∀p∈m,p.1≠q
 | [],_,p,hp=>by simp at hp
 |p::m,h,x,hx=>by
  unfold getM at h;split at h
  ·cases h
  rename_i hc;rcases fC.1 hx with rfl|hx
  ·simpa using hc
  exact a2u h x hx
theorem lA.slot(h:lA w base b m f)(q:Int):w.ownsRow base 2 1 (lj q m) (aA (f q)) ((f q).map encI):=by
 unfold lj;cases hg:getM q m with
 |none=>rw [h.off q (a2u hg)];exact gC _ _ _ _
 |some v=>exact h.rows _ (X1 hg)
theorem lA.look(h:lA w base b m f) {q:Int}(hq:aL q) {t:bX}(ht:aM.underlying t=aC (.map 3 53)):(Instr.lookup t (.map (aC b)) (.int aF q) aP).run aM w= .ok (lj q m) w:=
 eU.look (P:=aM) aP Bb ht (z:= .slice aB 0 0) (by kernel_rfl) h.map h.dom hq
theorem IA {q:Int} {v:aN}(ha:vr m) {x:Int×aN}(hx:x∈eI q v m):x=(q,v)\/(x∈m/\x.1≠q):=by
 induction m with
 |nil=>simp [eI] at hx;exact aS hx
 |cons p m ih=>
  obtain⟨h1,h2⟩:=kX.1 ha;unfold eI at hx;split at hx
  ·rename_i hc;have e:p.1=q:=by simpa using hc
   rcases fC.1 hx with hx|hx
   ·exact aS hx
   exact aT ⟨df _ hx,λe'=>h1 x hx (e.trans e'.symm)⟩
  rename_i hc;rcases fC.1 hx with hx|hx
  ·subst hx;exact aT ⟨oZ ..,by simpa using hc⟩
  rcases ih h2 hx with h|⟨h,h'⟩
  ·exact aS h
  exact aT ⟨df _ h,h'⟩
theorem XP {q:Int} {v:aN}:∀(m:List (Int×aN)),aA (eI q v m)<=aA m+1
 | []=>by simp [eI]
 |p::m=>by
  unfold eI;split
  ·simp
  have:=XP (q:=q) (v:=v) m;simp;omega
theorem XQ {q:Int} {v:aN} {x:Int×aN}(hx:x∈m):∃u,(x.1,u)∈eI q v m:=by
 induction m with
 |nil=>simp at hx
 |cons p m ih=>
  unfold eI;split
  ·rename_i hc;have e:p.1=q:=by simpa using hc
   rcases fC.1 hx with rfl|hx
   ·exact⟨v,by rw [e];exact oZ ..⟩
   exact⟨x.2,df _ hx⟩
  rcases fC.1 hx with rfl|hx
  ·exact⟨x.2,oZ ..⟩
  obtain⟨u,hu⟩:=ih hx;exact⟨u,df _ hu⟩
theorem RL {q:Int} {v:aN}:∀(m:List (Int×aN)),(q,v)∈eI q v m
 | []=>by simp [eI]
 |p::m=>by
  unfold eI;split
  ·exact oZ ..
  exact df _ (RL m)
theorem aKO {t:bX}(ht:aM.underlying t=aC (.map 3 53))(h:eU aM 3 encI w b m)(hs:∃es clock,w.heap[b]? =aC (.map es clock)/\Stamped es clock)(hd:∀p∈m,aL p.1) {q:Int}(hq:aL q)(v:aN):
 ∃w',(EA t (.map (aC b)) (ν q) v).run aM w= .ok () w'/\eU aM 3 encI w' b (eI q v m)/\w.grownBy w' (aC b)/\∃es clock,w'.heap[b]? =aC (.map es clock)/\Stamped es clock:=by
 obtain⟨w',hrun,hM,hg⟩:=h.store Bb ht hd hq v;refine⟨w',hrun,hM,hg, ?_⟩;obtain⟨es,clock,hb,hs⟩:=hs;obtain⟨Gi,Ga,hb0,hm⟩:=h.blk;obtain⟨rfl,rfl⟩:es=Gi/\clock=Ga:=by rw [hb] at hb0;simpa using hb0
 obtain⟨kl,eC⟩:=Bb.key q hq;change (EA t (.map (aC b)) (encI q) v).run aM w= .ok () w' at hrun;rcases eU.find Bb hm hd hq w with⟨h1,h2⟩|⟨j,v0,h1,h2,e0,h3,h4,h5⟩
 ·simp [EA,run_underlying ht,B9 hb,Bb.keyed.check w aP eC,h1,Fu _ hb,uE] at hrun;have hk:∀x∈es.toList,x.key≠encI q:=by
   intro x hx e;have h1:(x.key,x.val)∈m.map λp=>(encI p.1,p.2):=by rw [<-hm];exact a9V (f:=λe=>(e.key,e.val)) hx
   obtain⟨p,hp,e'⟩:=dV.1 h1;injection e' with e1 e2;exact h2 p hp (Bb.inj _ _ (e1.trans e))
  exact⟨_,_,by rw [<-hrun];exact heap_setBlock_same hb _,stamped_push hs hk⟩
 simp [EA,run_underlying ht,B9 hb,Bb.keyed.check w aP eC,h1,h3,h4,Bb.keyed.stays w eC,Fu _ hb,uE] at hrun;refine⟨_,_,by rw [<-hrun];exact heap_setBlock_same hb _,stamped_modify hs j (λe'=> {e' with key:=encI q,val:=v}) (λ_ _=>rfl) (λe _ h6=> ?_)⟩;have h7:=od (h3.symm.trans h6);have h8:=h7▸h4;exact h8.symm
theorem lA.put {t:bX}(ht:aM.underlying t=aC (.map 3 53))(h:lA w base b m f) {q:Int}(hq:aL q)(hg:w.grownBy w1 (lj q m).ownBlock) {v':aN} {ys:List Int}(hown:w1.ownsRow base 2 1 v' (aA ys) (ys.map encI))
 (hloc:v'.ownBlock=(lj q m).ownBlock\/∃g,v'.ownBlock=aC g/\w.heap.size<=g):
 ∃w2,(EA t (.map (aC b)) (ν q) v').run aM w1= .ok () w2/\lA w2 base b (eI q v' m) (λk=>if k=q then ys else f k)/\w1.grownBy w2 (aC b):=by
 have jf:=h.slot q;have mj:aC b≠(lj q m).ownBlock:=λe=>RG jf h.low e.symm
 obtain⟨es,clock,hb,hs⟩:=h.yc;have hlt:=h.map.lt;obtain⟨w2,hrun,hM,hg2,hst⟩:=aKO ht (h.map.grown hg mj) ⟨es,clock,(hg.block b hlt mj).trans hb,hs⟩ h.dom hq v';have apart:∀p∈m,p.1≠q->p.2.ownBlock=aB\/p.2.ownBlock≠(lj q m).ownBlock:=by
  intro p hp hne;unfold lj;cases Jo:getM q m with
  |none=>cases p.2.ownBlock<;>simp [dx]
  |some v=>exact h.far p hp _ (X1 Jo) hne
 have apart':∀p∈m,p.1≠q->p.2.ownBlock=aB\/p.2.ownBlock≠v'.ownBlock:=by
  intro p hp hne;rcases hloc with e|⟨g,e,zh⟩
  ·rw [e];exact apart p hp hne
  cases hx:p.2.ownBlock with
  |none=>exact aS rfl
  |some gx=>
   refine aT λe'=> ?_
   have:=((h.rows p hp).lt gx hx).2;rw [e] at e';cases e';omega
 refine⟨w2,hrun,⟨hM,hst,h.low,λp hp=> ?_,λp hp p' nU hne=> ?_,λk hk=> ?_,λp hp=> ?_⟩,hg2⟩
 ·rcases IA h.map.apart hp with rfl|⟨hp,hne⟩
  ·simp only [ifP];exact hown.kept hg2 (aT (RG hown h.low))
  simp only [ifN hne];have h1:=(h.rows p hp).kept hg (apart p hp hne);exact h1.kept hg2 (aT (RG h1 h.low))
 ·rcases IA h.map.apart hp with rfl|⟨hp,mK⟩
  ·rcases IA h.map.apart nU with rfl|⟨nU,a3o⟩
   ·exact absurd rfl hne
   rcases apart' p' nU a3o with e|e
   ·cases hv:v'.ownBlock with
    |none=>exact aS rfl
    |some g=>exact aT (by rw [e];simp)
   exact aT λe'=>e e'.symm
  rcases IA h.map.apart nU with rfl|⟨nU,a3o⟩
  ·exact apart' p hp mK
  exact h.far p hp p' nU hne
 ·have hkq:k≠q:=λe=>hk _ (RL m) e.symm
  simp only [ifN hkq];refine h.off k λp hp e=> ?_
  obtain⟨u,hu⟩:=XQ (q:=q) (v:=v') hp;exact hk _ hu e
 rcases IA h.map.apart hp with rfl|⟨hp,_⟩
 ·exact hq
 exact h.dom p hp
theorem lA.keys(h:lA w base b m f)(hl:aA m<=bK):∃D:DataW Unit,w.ownsMap aM 3 (λ_=>aC (.nil,[])) b (aA m) D/\Maps.size D=aA m/\(m.map (·.1)).Perm (intKeys D):=by
 obtain⟨es,clock,hb,hs⟩:=h.yc;obtain⟨Gi,Ga,hb0,hm⟩:=h.map.blk;obtain⟨rfl,rfl⟩:es=Gi/\clock=Ga:=by rw [hb] at hb0;simpa using hb0
 have hsz:es.size=aA m:=by have:=congrArg List.length hm;simpa using this
 have hkey:∀x∈es.toList,∃p∈m,x.key=encI p.1:=by
  intro x hx;have h1:(x.key,x.val)∈m.map λp=>(encI p.1,p.2):=by rw [<-hm];exact a9V (f:=λe=>(e.key,e.val)) hx
  obtain⟨p,hp,e'⟩:=dV.1 h1;injection e' with e1 e2;exact⟨p,hp,e1.symm⟩
 have eC:∀q,aL q->keyOf aM 3 (encI q)=aC (.int aF q):=λq hq=>a8K wS (a4E hq)
 have F:aLl (H:=Unit) aM 3 (λ_=>aC (.nil,[])) es clock:=⟨by rw [hsz];exact hl,hs,λx hx=>by obtain⟨p,hp,e⟩:=hkey x hx;exact⟨(.int aF p.1,.nil),by simp [aBl,e,eC p.1 (h.dom p hp)]⟩⟩;have hrg:es.toList.map (P3 (H:=Unit) aM 3 (λ_=>aC (.nil,[])))=m.map λp=>(Lit.int aF p.1,DataW.nil):=by
  have e1:es.toList.map (λe=>(e.key))=m.map λp=>encI p.1:=by have:=congrArg (List.map Prod.fst) hm;simpa [LO,Function.comp_def] using this
  have e2:es.toList.map (P3 (H:=Unit) aM 3 (λ_=>aC (.nil,[])))=(es.toList.map (λe=>e.key)).map λv=>((keyOf aM 3 v).map λkl=>(kl,(DataW.nil:DataW Unit))).getD (.bool aP,.nil):=by
   rw [LO];refine JG λx _=> ?_
   simp only [P3,aBl,Function.comp];cases keyOf aM 3 x.key<;>rfl
  rw [e2,e1,LO];refine JG λp hp=> ?_
  simp [eC p.1 (h.dom p hp)]
 refine⟨.map ((es.toList.map (P3 aM 3 (λ_=>aC (.nil,[])))).foldr DataW.insert []),⟨es,clock,hb,F,by omega,rfl⟩, ?_, ?_⟩
 ·rw [Maps.size_eq,length_sorted];simp [hsz]
 have hp:=(aLm (es.toList.map (P3 (H:=Unit) aM 3 (λ_=>aC (.nil,[])))));have h2:=(hp.map λp:Lit×DataW Unit=>Go.intOf p.1).symm;refine List.Perm.trans ?_ h2;rw [hrg,LO];exact List.Perm.of_eq (JG λp _=>rfl)
end
end
section
open Go.Maps Go.Sort Go.Shelf
theorem aGv(mb:Option Nat)(W:aJ):aQ aM 231 #[.map mb] W λe w'=>e=aU (.func (.func 262) #[] #[bH (aC ⟨W.heap.size,0,aB⟩)])/\w'=W.alloc (aK #[.map mb] 272):=
 sV.1 (AnyZI.keys_in keysA KY 5 trivial rfl mb W)
theorem aKB(m:Nat):AnyZI.SortsIn aM sortedA_ren KY m:=
 ⟨λblk off cap ss W hH hblk hsz=>sV.2 (slices_Sort_int blk off cap ss W hH hblk hsz),
  λp cap W=>sV.2 (slices_Sort_int_none p cap W)⟩
def nX(m:List (Int×aN)):List Int:=(m.map (·.1)).mergeSort λx y=>decide (x<=y)
theorem aGu(m:List (Int×aN)):aA (nX m)=aA m:=by simp [nX]
theorem aKC {w:aJ} {base b:Nat} {m:List (Int×aN)} {f:Int->List Int}(h:lA w base b m f)(hl:aA m<=1000000):
 aQ aM 230 #[.func (.func 262) #[] #[π w.heap.size]] (w.alloc (aK #[.map (aC b)] 272)) λe w'=>
  ∃A c,e=aU (aH A (aA m) c)/\aW w' w'.heap.size A ((nX m).map (aG aF))/\aa (w.heap.size+1) (w.alloc (aK #[.map (aC b)] 272)) w':=by
 obtain⟨D,hown,hsz,a3p⟩:=h.keys (by unfold bK;omega);have hbl:=hown.lt
 have hseq:SeqGives KY 2 aM 262 #[π w.heap.size] encZ (λss=>ss.Perm (intKeys D)) (Maps.size D) (w.alloc (aK #[.map (aC b)] 272)):=
  AnyZI.keys_gives (ρ:=keysA_ren) {keysA with} KY _ trivial rfl (by omega) w.heap.size b _ D _ (by simp) (by simp) (by obtain⟨es,clock,hb,Ft,hs,hD⟩:=hown;exact⟨es,clock,(Below.heap_alloc _ _ b hbl).trans hb,Ft,hs,hD⟩)
 have cS:=AnyZI.sorted_in sortedA KY 5 trivial trivial trivial trivial rfl (by omega) (aKB _) (enters_of func217 (by kernel_rfl) rfl) 262 #[π w.heap.size] trivial (enters_of func262 (by kernel_rfl) rfl) _ _ (by rw [hsz];unfold bK;omega) (by rw [hsz];omega) _ hseq;have cS':=sV.1 cS;change aQ aM 230 _ _ _ at cS';refine cS'.mono ?_;rintro e w' ⟨v,ss,rfl,hp,hrow,-,hb⟩;have hlen:aA ss=aA m:=by have:=(hp.trans a3p.symm).length_eq;simpa using this
 have Jp:=mergeSort_of_perm_i (hp.trans a3p.symm);rw [Jp,hlen] at hrow;obtain⟨A,c,rfl⟩:=bJ hrow;exact⟨A,c,rfl,aW.cA hrow,by simpa using hb⟩
end
theorem RS {k:IntKind} {a b:Int}(h:a=b):aU (aG k a)=aU (aG k b):=by rw [h]
def qi(a:Int):Nat:=a.natAbs
theorem a6V(a:Int)(w:aJ)(ha:aL a):aQ aM 204 #[aG aF a] w λe w'=>e=aU (aG .u64 (qi a:Int))/\w=w':=by
 have ha1:=ha.1;have ha2:=ha.2;have hn:qi a=a.natAbs:=rfl;have HN:=η hn;by_cases h:0<=a
 ·go_enter aAL,aB8
  go_wp2
  go_ret;refine⟨RS ?_,rfl⟩;have hn:=HN.o;first|omega|(simp only [uo];omega)
 go_enter aAL,aB8
 go_wp2
 go_ret;refine⟨RS ?_,rfl⟩;have hn:=HN.o;first|omega|(simp only [uo,fW];omega)
theorem Xh(a:Int)(w:aJ)(ha:aL a):aQ aM 259 #[aG aF a] w λe w'=>e=aU (aG .u64 (qi a:Int))/\w=w':=by
 have ha1:=ha.1;have ha2:=ha.2;have hn:qi a=a.natAbs:=rfl;have HN:=η hn;by_cases h:a<0
 ·go_enter aAO,aBB
  go_wp2
  go_ret;refine⟨RS ?_,rfl⟩;have hn:=HN.o;first|omega|(simp only [uo];omega)
 go_enter aAO,aBB
 go_wp2
 go_ret;refine⟨RS ?_,rfl⟩;have hn:=HN.o;first|omega|(simp only [uo];omega)
theorem a6J {k:IntKind} {a c:Int} {b d:Bool}(h:a=c)(h':b=d):aU (bB #[aG k a,bM b])=aU (bB #[aG k c,bM d]):=by rw [h,h']
def NU(n:Nat)(b:Bool):Int:=if b then (if n<=9223372036854775808 then-(n:Int) else 18446744073709551616-n) else (if n<9223372036854775808 then n else n-18446744073709551616)
def ID(n:Nat)(b:Bool):Bool:=if b then decide (n<=9223372036854775808) else decide (n<9223372036854775808)
theorem Xg(n:Nat)(b:Bool)(w:aJ)(hn:n<18446744073709551616):aQ aM 260 #[aG .u64 (n:Int),bM b] w λe w'=>e=aU (bB #[aG aF (NU n b),bM (ID n b)])/\w=w':=by
 cases b
 ·go_enter aAP,aBC
  go_wp2
  go_ret2;refine⟨a6J ?_ ?_,rfl⟩
  ·unfold NU fV;simp only [YJ,if_false];split<;>omega
  unfold ID;simp only [YJ,if_false];exact decide_eq_decide.2 (by omega)
 go_enter aAP,aBC
 go_wp2
 go_ret2;refine⟨a6J ?_ ?_,rfl⟩
 ·unfold NU fV;simp only [uo,if_true];split<;>omega
 unfold ID;simp only [if_true];exact decide_eq_decide.2 (by omega)
theorem Rq {a:Int}(ha:aL a):qi a<=9223372036854775808:=by have:=ha.1;have:=ha.2;unfold qi;omega
theorem a7W(a b:Int):qi a*qi b=(a*b).natAbs:=(Int.natAbs_mul a b).symm
theorem mul_neg {a b:Int}(h:(decide (a<0) !=decide (b<0))=aO):a*b<=0:=by
 by_cases h1:a<0
 ·by_cases h2:b<0
  ·simp [h1,h2] at h
  exact Int.mul_nonpos_of_nonpos_of_nonneg (show a<=0 by omega) (show 0<=b by omega)
 by_cases h2:b<0
 ·exact Int.mul_nonpos_of_nonneg_of_nonpos (show 0<=a by omega) (show b<=0 by omega)
 simp [h1,h2] at h
theorem a5I {a b:Int}(h:(decide (a<0) !=decide (b<0))=aP):0<=a*b:=by
 by_cases h1:a<0
 ·by_cases h2:b<0
  ·have:=Int.mul_pos_of_neg_of_neg h1 h2;omega
  simp [h1,h2] at h
 by_cases h2:b<0
 ·simp [h1,h2] at h
 exact Int.mul_nonneg (show 0<=a by omega) (show 0<=b by omega)
theorem aHZ {z:Int} {p hi lo:Nat} {s:Bool}(hp:p=z.natAbs)(hn:s=aO->z<=0)(hs:s=aP->0<=z)(nS:lo=p % 18446744073709551616)(DL:hi=p/18446744073709551616):
 (hi≠0->¬aL z)/\(hi=0->ID lo s=aP->¬aL z)/\(hi=0->ID lo s=aO->aL z/\NU lo s=z):=by
 unfold aL ID NU;cases s
 ·have:=hs rfl;refine⟨λh=>by omega,λh h'=> ?_,λh h'=> ?_⟩
  ·simp at h';omega
  simp at h';simp [h'];omega
 have:=hn rfl;refine⟨λh=>by omega,λh h'=> ?_,λh h'=> ?_⟩
 ·simp at h';omega
 simp at h';simp [h'];omega
theorem X3(a b:Int)(w:aJ)(ha:aL a)(hb:aL b):aQ aM 229 #[aG aF a,aG aF b] w λe w'=>e=aU (bB #[aG aF (gP (a*b)),aG aF (dL (a*b))])/\w=w':=by
 have HA:=η ha;have HB:=η hb;obtain⟨z,hz⟩:=xq (a*b);obtain⟨lo,nS⟩:=xq (qi a*qi b % 18446744073709551616);obtain⟨hi,DL⟩:=xq (qi a*qi b/18446744073709551616);have HM:∀W,Hid (aQ aM 258 #[aG .u64 (qi a:Int),aG .u64 (qi b:Int)] W λe w'=>e=aU (bB #[aG .u64 (hi:Int),aG .u64 (lo:Int)])/\w'=W):=λW=>η (by have h1:=Rq ha;have h2:=Rq hb;rw [nS,DL];exact bits_Mul64 (qi a) (qi b) (by omega) (by omega) W)
 have Vz:lo<18446744073709551616:=by omega
 obtain⟨sg,mn⟩:∃sg:Bool,sg= !(decide (a<0)==decide (b<0)):=⟨_,rfl⟩;have HW:=η (aHZ (z:=z) (s:=sg) (by rw [a7W,hz]) (λh=>by rw [hz];exact mul_neg (mn.symm.trans h)) (λh=>by rw [hz];exact a5I (mn.symm.trans h)) nS DL);rw [<-hz];have HS:=η mn;clear ha hb nS DL hz mn;by_cases hh:hi=0
 ·subst hh;cases hB:ID lo sg
  ·have hno:=HW.o.2.1 rfl hB;go_enter a0L,a0e
   go_wp2_with (first|(go_at_call 259;refine(Xh _ _ (by first|exact HA|exact HB)).mono ?_;rintro e w' ⟨rfl,rfl⟩)|(go_at_call 258;refine(HM _).o.mono ?_;rintro e w' ⟨rfl,rfl⟩)|(go_at_call 260;rw [<-HS.o];refine(Xg lo sg _ Vz).mono ?_;rintro e w' ⟨rfl,rfl⟩))
   go_ret2;exact⟨my (gh hno).1.symm (gh hno).2.symm,rfl⟩
  have DU:=HW.o.2.2 rfl hB;go_enter a0L,a0e
  go_wp2_with (first|(go_at_call 259;refine(Xh _ _ (by first|exact HA|exact HB)).mono ?_;rintro e w' ⟨rfl,rfl⟩)|(go_at_call 258;refine(HM _).o.mono ?_;rintro e w' ⟨rfl,rfl⟩)|(go_at_call 260;rw [<-HS.o];refine(Xg lo sg _ Vz).mono ?_;rintro e w' ⟨rfl,rfl⟩))
  go_ret2;exact⟨my (by rw [(dy DU.1).1]) (dy DU.1).2.symm,rfl⟩
 have hno:=HW.o.1 hh;go_enter a0L,a0e
 go_wp2_with (first|(go_at_call 259;refine(Xh _ _ (by first|exact HA|exact HB)).mono ?_;rintro e w' ⟨rfl,rfl⟩)|(go_at_call 258;refine(HM _).o.mono ?_;rintro e w' ⟨rfl,rfl⟩)|(go_at_call 260;rw [<-HS.o];refine(Xg lo sg _ Vz).mono ?_;rintro e w' ⟨rfl,rfl⟩))
 go_ret2;exact⟨my (gh hno).1.symm (gh hno).2.symm,rfl⟩
def tQ(x:ak)(i:Int):Prop:=1<=i/\i<=aA x.ss
instance(x:ak)(i:Int):Decidable (tQ x i):=inferInstanceAs (Decidable (_/\_))
def dW(x:ak)(i:Int):Pr:=if tQ x i then x.ss.getD (i-1).toNat ⟨0,0⟩ else⟨0,0⟩
def jC(x:ak)(i:Int):Int:=if tQ x i then 0 else 10
theorem a6c {x:ak} {i:Int}(h:¬tQ x i):dW x i=⟨0,0⟩/\jC x i=10:=by unfold dW jC;rw [ifN h,ifN h];exact⟨rfl,rfl⟩
theorem aJo {x:ak} {k:Nat}(h:k<aA x.ss):dW x ((k:Int)+1)=x.ss[k]/\jC x ((k:Int)+1)=0:=by
 have h1:tQ x ((k:Int)+1):=by unfold tQ;omega
 unfold dW jC;rw [ifP h1,ifP h1,show ((k:Int)+1-1).toNat=k by omega];exact⟨by simp [List.getD,h],rfl⟩
theorem NS(x:ak)(i:Int)(w:aJ)(h:lS w x)(hI:aL i):
 aQ aM 117 #[x.val,ν i] w λe w'=>e=aU (bB #[bO #[ν (dW x i).a,ν (dW x i).b],ν (jC x i)])/\β w w':=by
 have aY:=η (mE w x);have wB:=(zS w x).c1;have HS:=η (h.s.below (mE w x));have DC:=hI.1;have hI2:=hI.2;by_cases h1:i<1
 ·have hP:=a6c (x:=x) (i:=i) (by unfold tQ;omega);rw [hP.1,hP.2];unfold ak.val at*;go_enter a0D,a0W
  go_wp2_with fail
  exact bodyPost_ret (v:=bB #[bO #[ν 0,ν 0],ν 10]) (by simp [results,a0m,go_sem]) rfl ⟨rfl,by repeat (first|exact aY.o|refine Di ?_ (by simp) _|refine qj ?_ (by simp) _)⟩
 by_cases h2:i<=aA x.ss
 ·obtain⟨k,hk⟩:∃k:Nat,k=(i-1).toNat:=⟨_,rfl⟩;have eC:k<aA x.ss:=by omega
  have hik:i=(k:Int)+1:=by omega
  have hP:=aJo eC;rw [<-hik] at hP;rw [hP.1,hP.2];have em:i-1=(k:Int):=by omega
  have h3:¬i>(aA x.ss:Int):=by omega
  clear hP hk hik h2;unfold ak.val at*;obtain⟨b,o,hA,hb,d0,d1⟩:=FB HS.o eC;rw [hA] at aY wB d0 d1 ⊢;have xW:=η hb;generalize x.ss[k]=p at*;go_enter a0D,a0W
  go_wp2_with fail
  exact bodyPost_ret (v:=bB #[bO #[ν p.a,ν p.b],ν 0]) (by simp [results,a0m,go_sem]) rfl ⟨rfl,by repeat (first|exact aY.o|refine Di ?_ (by simp) _|refine qj ?_ (by simp) _)⟩
 have hP:=a6c (x:=x) (i:=i) (by unfold tQ;omega);rw [hP.1,hP.2];clear hP;unfold ak.val at*;go_enter a0D,a0W
 go_wp2_with fail
 exact bodyPost_ret (v:=bB #[bO #[ν 0,ν 0],ν 10]) (by simp [results,a0m,go_sem]) rfl ⟨rfl,by repeat (first|exact aY.o|refine Di ?_ (by simp) _|refine qj ?_ (by simp) _)⟩
def AR(x:ak)(a n:Int):Int:=if tQ x a then (if n<1 then 0 else gP (n*(dW x a).a)) else 0
def xT(x:ak)(a n:Int):Int:=if tQ x a then (if n<1 then 1 else dL (n*(dW x a).a)) else 10
theorem aLC(x:ak)(m a n:Int)(w:aJ)(h:lS w x)(ha:aL a)(hn:aL n)(hp:aL (dW x a).a):
 aQ aM 197 #[x.val,bO #[ν m,ν a,ν n]] w λe w'=>e=aU (bB #[ν (AR x a n),ν (xT x a n)])/\β w w':=by
 have aY:=η (((aX _ w).alloc (aZ _) (aK #[aH x.Am (aA x.ms) x.cm,aH x.As (aA x.ss) x.cs,aH x.Ac (aA x.cy) x.cc,ν x.line,ν x.bu,ν x.lead,ν x.tr,ν x.bY] 26)).alloc (by simp) (aK #[ν m,ν a,ν n] 76));have HS:=λW (hb:β w W)=>η (NS x a W (h.below hb) ha)
 have zB:=η HS;have HN:=η hn;have HP:=η hp;have hV:AR x a n=if tQ x a then (if n<1 then 0 else gP (n*(dW x a).a)) else 0:=rfl
 have hE:xT x a n=if tQ x a then (if n<1 then 1 else dL (n*(dW x a).a)) else 10:=rfl
 have QU:jC x a=if tQ x a then 0 else 10:=rfl
 generalize AR x a n=V at*;generalize xT x a n=E at*;unfold ak.val at*;have kE:Hid (∀W,aa ((w.alloc (aK #[aH x.Am (aA x.ms) x.cm,aH x.As (aA x.ss) x.cs,aH x.Ac (aA x.cy) x.cc,ν x.line,ν x.bu,ν x.lead,ν x.tr,ν x.bY] 26)).alloc (aK #[ν m,ν a,ν n] 76)).heap.size ((w.alloc (aK #[aH x.Am (aA x.ms) x.cm,aH x.As (aA x.ss) x.cs,aH x.Ac (aA x.cy) x.cc,ν x.line,ν x.bu,ν x.lead,ν x.tr,ν x.bY] 26)).alloc (aK #[ν m,ν a,ν n] 76)) W->W.cell? ⟨w.heap.size+1,2,aB⟩=aC (ν n)):=η λW hb=>by rw [hb.cell (p:=⟨w.heap.size+1,2,aB⟩) (by simp)];simp
 by_cases hs:tQ x a
 ·rw [ifP hs] at hV hE QU;rw [QU] at zB;generalize dW x a=q at*;by_cases h1:n<1
  ·rw [ifP h1] at hV hE;subst hV hE;go_enter a0J,a0c
   go_wp2_with (first|(go_at_call 117;refine(zB _ aY).o.mono ?_;rintro e w1 ⟨rfl,hb1⟩;have aR:=η (aY.o.trans (hb1.mono (by simp;omega)));have oD:w.heap.size+1<w1.heap.size:=(by have:=hb1.size;simp at this;omega);have k2:=kE.o _ hb1)|(go_at_call 229;refine(X3 _ _ _ HN HP).mono ?_;rintro e w1 ⟨rfl,rfl⟩))
   go_ret2;exact⟨rfl,aR.o.alloc (by omega) _⟩
  rw [ifN h1] at hV hE;subst hV hE;go_enter a0J,a0c
  go_wp2_with (first|(go_at_call 117;refine(zB _ aY).o.mono ?_;rintro e w1 ⟨rfl,hb1⟩;have aR:=η (aY.o.trans (hb1.mono (by simp;omega)));have oD:w.heap.size+1<w1.heap.size:=(by have:=hb1.size;simp at this;omega);have k2:=kE.o _ hb1)|(go_at_call 229;refine(X3 _ _ _ HN HP).mono ?_;rintro e w1 ⟨rfl,rfl⟩))
  go_ret2;exact⟨rfl,aR.o.alloc (by omega) _⟩
 rw [ifN hs] at hV hE QU;rw [QU] at zB;generalize dW x a=q at*;subst hV hE;go_enter a0J,a0c
 go_wp2_with (first|(go_at_call 117;refine(zB _ aY).o.mono ?_;rintro e w1 ⟨rfl,hb1⟩;have aR:=η (aY.o.trans (hb1.mono (by simp;omega)));have oD:w.heap.size+1<w1.heap.size:=(by have:=hb1.size;simp at this;omega);have k2:=kE.o _ hb1)|(go_at_call 229;refine(X3 _ _ _ HN HP).mono ?_;rintro e w1 ⟨rfl,rfl⟩))
 go_ret2;exact⟨rfl,aR.o.alloc (by omega) _⟩
theorem Rg {P:Program} {w:aJ} {ops:Array Oper} {o:Oper} {a:Act} {K:Act->aJ->Prop} {Q:Exit->Act->aJ->Prop} {E:Prop}(hgd:o.guard=aB)(t:bX)(mo xo vo:Operand)(ho:o.op= .mapUpdate t mo xo vo)
 {b:Nat} {q:aN} {v:aN} (hm:a.eval mo= .map (aC b)) (hx:a.eval xo=q) (hv:a.eval vo=v) {R:aJ->Prop} (hrun:∃w2,(EA t (.map (aC b)) q v).run P w= .ok () w2/\R w2) (h:∀w2,R w2->K (a.put o.dst undef) w2):
 if JL o (yielded ops a.tmps)=aO then Oper.wp P o a w K Q else E:=by
 have hw:JL o (yielded ops a.tmps)=aO:=by simp [JL,hgd]
 rw [ifP hw];obtain⟨w2,hr,h2⟩:=hrun;unfold Oper.wp;simp [execOp,ho,hm,hx,hv,hr,uE];exact h w2 h2
def lq(x:ak)(L:List Lg)(q:Int):List Int:=(L.filter λy=>y.m==q).map λy=>AR x y.a y.n
def wthsE(x:ak):List Lg->Int
 | []=>0
 |y::L=>if xT x y.a y.n=0 then wthsE x L else xT x y.a y.n
theorem aLU(x:ak) {L:List Lg} {k:Nat}(hk:k<aA L)(q:Int):lq x (L.take (k+1)) q=if q=L[k].m then lq x (L.take k) q++ [AR x L[k].a L[k].n] else lq x (L.take k) q:=by
 unfold lq;rw [fF hk,List.filter_append,dY];by_cases h:q=L[k].m
 ·rw [ifP h];simp [h]
 rw [ifN h];have h':¬L[k].m=q:=λe=>h e.symm
 simp [h']
theorem a7w {x:ak}:∀ {L:List Lg} {k:Nat} (hk:k<aA L),(∀j (hj:j<k),xT x L[j].a L[j].n=0)->xT x L[k].a L[k].n≠0->wthsE x L=xT x L[k].a L[k].n
 |y::L,0,_,_,h=>by unfold wthsE;rw [ifN (by simpa using h)];rfl
 |y::L,k+1,hk,h,h'=>by unfold wthsE;rw [ifP (by have:=h 0 (by omega);simpa using this)];exact a7w (by simpa using hk) (λj hj=>by have:=h (j+1) (by omega);simpa using this) (by simpa using h')
theorem a7v {x:ak}:∀ {L:List Lg},(∀j (hj:j<aA L),xT x L[j].a L[j].n=0)->wthsE x L=0
 | [],_=>rfl
 |y::L,h=>by unfold wthsE;rw [ifP (by have:=h 0 (by simp);simpa using this)];exact a7v λj hj=>by have:=h (j+1) (by simpa using hj);simpa using this
theorem a4D:(aM.info? 2).map (λi=>(i.zero,i.size,i.bytes))=aC (aC (aG aF 0),1,8):=by kernel_rfl
structure WI(x:ak)(L:List Lg)(w wr:aJ)(k:Nat)(m:List (Int×aN)):Prop where
 g:lA wr (w.heap.size+2) (w.heap.size+1) m (lq x (L.take k))
 len:aA m<=k
 ks:∀q,(∃p∈m,p.1=q)↔∃y∈L.take k,y.m=q
 ok:∀j (hj:j<aA L),j<k->xT x L[j].a L[j].n=0
 bx:pL wr w.heap.size x
 b:β w wr
theorem pL.grown {w w':aJ} {bx:Nat} {x:ak} {row:Option Nat}(h:pL w bx x)(hg:w.grownBy w' row)(hne:aC bx≠row):pL w' bx x:=
 have k:=λo=>gg (w:=w) (w':=w') (a:=⟨bx,o,aB⟩) (hg.block bx h.lt hne)
 ⟨(k 0).trans h.c0,(k 1).trans h.c1,(k 2).trans h.c2,(k 3).trans h.c3,(k 4).trans h.c4,(k 5).trans h.c5,(k 6).trans h.c6,(k 7).trans h.c7,cR h.lt hg.size⟩
theorem WI.below {x:ak} {L:List Lg} {w wr w2:aJ} {k:Nat} {m:List (Int×aN)}(h:WI x L w wr k m)(hb:aa wr.heap.size wr w2):WI x L w w2 k m:=
 ⟨h.g.below (aZ _) hb,h.len,h.ks,h.ok,h.bx.below hb,h.b.trans (hb.mono h.b.size)⟩
theorem WI.step {x:ak} {L:List Lg} {w w2 w4 w5:aJ} {k:Nat} {m:List (Int×aN)} {v':aN}(h:WI x L w w2 k m)(hk:k<aA L)(he:xT x L[k].a L[k].n=0)
 (hg:w2.grownBy w4 (lj L[k].m m).ownBlock) (h5:lA w5 (w.heap.size+2) (w.heap.size+1) (eI L[k].m v' m) (λq=>if q=L[k].m then lq x (L.take k) L[k].m++ [AR x L[k].a L[k].n] else lq x (L.take k) q)) (eZ:w4.grownBy w5 (aC (w.heap.size+1))):WI x L w w5 (k+1) (eI L[k].m v' m):=by
 have hrow:∀j,(lj L[k].m m).ownBlock=aC j->w.heap.size+2<=j:=λj hj=>((h.g.slot L[k].m).lt j hj).1
 have hb4:=h.b.grown hg h.b.size λj hj=>by have:=hrow j hj;omega
 refine⟨?_, ?_,λq=> ?_,λj hj hjk=> ?_, ?_, ?_⟩
 ·have e:(λq=>if q=L[k].m then lq x (L.take k) L[k].m++ [AR x L[k].a L[k].n] else lq x (L.take k) q)=lq x (L.take (k+1)):=by
   funext q;rw [aLU x hk q];by_cases e:q=L[k].m
   ·rw [ifP e,ifP e,e]
   rw [ifN e,ifN e]
  rw [<-e];exact h5
 ·have:=XP (q:=L[k].m) (v:=v') m;have:=h.len;omega
 ·have h1:=h.ks q;rw [fF hk];constructor
  ·rintro⟨p,hp,rfl⟩;rcases IA h.g.map.apart hp with rfl|⟨hp,_⟩
   ·exact⟨L[k],EE _ (List.mem_singleton.2 rfl),rfl⟩
   obtain⟨y,hy,e⟩:=h1.1 ⟨p,hp,rfl⟩;exact⟨y,uD _ hy,e⟩
  rintro⟨y,hy,rfl⟩;rcases gJ.1 hy with hy|hy
  ·obtain⟨p,hp,e⟩:=h1.2 ⟨y,hy,rfl⟩;obtain⟨u,hu⟩:=XQ (q:=L[k].m) (v:=v') hp;exact⟨_,hu,e⟩
  simp at hy;subst hy;exact⟨_,RL m,rfl⟩
 ·by_cases e:j=k
  ·subst e;exact he
  exact h.ok j hj (by omega)
 ·refine(h.bx.grown hg (λe=> ?_)).grown eZ (by simp);have:=hrow _ e.symm;omega
 exact hb4.grown eZ hb4.size λj hj=>by cases hj;omega
theorem a4X {m:List (Int×aN)}(h:vr m):(nX m).Pairwise (· < ·):=by
 have h1:(nX m).Pairwise λa b=>decide (a<=b)=aO:=List.pairwise_mergeSort (λa b c h1 h2=>by simp only [decide_eq_true_eq] at*;omega) (λa b=>by simp only [Bool.or_eq_true,decide_eq_true_eq];omega) _
 have h2:(nX m).Pairwise (· ≠ ·):=((Zo _ _).pairwise_iff (λ{_ _} hne=>Ne.symm hne)).2 (B8.2 h);exact(h1.and h2).imp λ{a b} h=>by have:=h.1;simp only [decide_eq_true_eq] at this;have:=h.2;omega
theorem a4W {m:List (Int×aN)}(q:Int):q∈nX m↔∃p∈m,p.1=q:=by rw [show (q∈nX m)=(q∈m.map (·.1)) from propext (Zo _ _).mem_iff,dV]
theorem aLV(x:ak)(a n:Int):aL (AR x a n):=by
 unfold AR;split
 ·split
  ·unfold aL;omega
  exact UQ _
 unfold aL;omega
theorem YE(x:ak)(L:List Lg)(q:Int):aA (lq x L q)<=aA L/\∀z∈lq x L q,aL z:=by unfold lq;refine⟨by rw [iK];exact qN _ _,λz hz=> ?_⟩;obtain⟨y,_,rfl⟩:=dV.1 hz;exact aLV _ _ _
theorem a6f(w:aJ)(t:bX)(xs:List aN):aW (w.alloc (aK xs.toArray t)) (w.alloc (aK xs.toArray t)).heap.size (aC ⟨w.heap.size,0,aB⟩) xs:=λj u hu=>
 ⟨w.heap.size,0,rfl,by simp,by rw [Nat.zero_add,cM _ _ _ j rfl,<-Array.getElem?_toList];exact hu⟩
theorem a6s:∀ {a b:List Int},a.Pairwise (· < ·)->b.Pairwise (· < ·)->(∀q,q∈a↔q∈b)->a=b
 | [],[],_,_,_=>rfl
 | [],y::b,_,_,h=>by have:=(h y).2 (by simp);simp at this
 |x::a,[],_,_,h=>by have:=(h x).1 (by simp);simp at this
 |x::a,y::b,ha,hb,h=>by
  obtain⟨ha1,ha2⟩:=kX.1 ha;obtain⟨hb1,hb2⟩:=kX.1 hb;have e:x=y:=by
   rcases fC.1 ((h x).1 (by simp)) with e|e
   ·exact e
   rcases fC.1 ((h y).2 (by simp)) with e'|e'
   ·exact e'.symm
   have:=hb1 x e;have:=ha1 y e';omega
  subst e;have h2:∀q,q∈a↔q∈b:=λq=>by
   constructor
   ·intro hq;rcases fC.1 ((h q).1 (by simp [hq])) with e|e
    ·have:=ha1 q hq;omega
    exact e
   intro hq;rcases fC.1 ((h q).2 (by simp [hq])) with e|e
   ·have:=hb1 q hq;omega
   exact e
  rw [a6s ha2 hb2 h2]
def ofV(m:Int):List Lg->Int
 | []=>0
 |y::L=>if y.m=m then y.n else ofV m L
theorem a5S {m:Int}:∀ {L:List Lg} {k:Nat} (hk:k<aA L),(∀j (hj:j<aA L),j<k->L[j].m≠m)->L[k].m=m->ofV m L=L[k].n
 |y::L,0,_,_,h=>by unfold ofV;rw [ifP (by simpa using h)];rfl
 |y::L,k+1,hk,h,h'=>by unfold ofV;rw [ifN (by have:=h 0 (by simp) (by omega);simpa using this)];exact a5S (by simpa using hk) (λj hj hjk=>by have:=h (j+1) (by simpa using hj) (by omega);simpa using this) (by simpa using h')
theorem a5V {m:Int}:∀ {L:List Lg},(∀j (hj:j<aA L),L[j].m≠m)->ofV m L=0
 | [],_=>rfl
 |y::L,h=>by unfold ofV;rw [ifN (by have:=h 0 (by simp);simpa using this)];exact a5V λj hj=>by have:=h (j+1) (by simpa using hj);simpa using this
theorem a1p(L:List Lg)(m:Int)(A:Option ai)(c:Nat)(w:aJ)(hs:aW w w.heap.size A (bA L))(hl:aA L<=100000):
 aQ aM 75 #[aH A (aA L) c,ν m] w λe w'=>e=aU (ν (ofV m L))/\β w w':=by
 have HS:=η hs;go_enter func75,ntmps75
 go_wp2
 go_loopw [9] (λi wr=>∃k:Nat,k<=aA L/\i=ν k/\Hid (∀j (hj:j<aA L),j<k->L[j].m≠m)/\Hid (β w wr)) (λi _=>aA L-(ag i).toNat)
 ·exact⟨0,bL _,rfl,λj _ h=>absurd h (Nat.not_lt_zero _),aX _ _⟩
 ·
  obtain⟨k,hk,rfl,HN,HB⟩:=hrel;have hsz:=HB.o.size;by_cases hlt:k<aA L
  ·obtain⟨b,o,rfl,hb,d0,d1,d2⟩:=oG (HS.o.below HB) hlt;have aR:Hid (∀v,β w (wr.alloc v)):=η λv=>HB.o.alloc hsz v
   by_cases hm:L[k].m=m
   ·have HV:=η (a5S hlt HN hm);go_wp2
    go_ret;exact⟨cY HV.o.symm,aR _⟩
   have vP:(L[k].m==m)=aP:=by rw [beq_eq_false_iff_ne];exact hm
   have ui:Hid (∀j (hj:j<aA L),j<k+1->L[j].m≠m):=η λj hj h=>by
    by_cases e:j=k
    ·subst e;exact hm
    exact HN j hj (by omega)
   go_wp2
   go_roundw
   ·exact⟨k+1,by omega,by go_num,ui,η (aR _)⟩
   simp [ag];omega
  obtain rfl:k=aA L:=by omega
  have HV:=η (a5V λj hj=>HN j hj hj);go_wp2
  go_ret;exact⟨cY HV.o.symm,HB⟩
theorem RJ(x:Lg)(L:List Lg)(n:Int)(xs:List Int):ej (x::L) (n::xs)=(if 0<n then [⟨x.m,x.a,n⟩] else [])++ej L xs:=by unfold ej;rw [EG,List.filter_cons];by_cases h:0<n<;>simp [h]
theorem a6p:∀ {L:List Lg} {xs:List Int} {z:Lg},z∈ej L xs->∃y∈L,z.m=y.m
 | [],_,z,h=>by simp [ej] at h
 |_::_,[],z,h=>by simp [ej] at h
 |y::L,n::xs,z,h=>by
  rw [RJ] at h;rcases gJ.1 h with h|h
  ·by_cases hn:0<n
   ·rw [ifP hn] at h;simp at h;exact⟨y,by simp,by rw [h]⟩
   rw [ifN hn] at h;simp at h
  obtain⟨u,hu,e⟩:=a6p h;exact⟨u,by simp [hu],e⟩
theorem a5U {m:Int}:∀ {L:List Lg},(∀y∈L,y.m≠m)->ofV m L=0
 | [],_=>rfl
 |y::L,h=>by unfold ofV;rw [ifN (h y (by simp))];exact a5U λz hz=>h z (by simp [hz])
def pick(m:Int):List Lg->List Int->Int
 |y::L,x::xs=>if y.m=m then x else pick m L xs
 |_,_=>0
theorem XJ(m:Int):∀L:List Lg,pick m L (bF L)=ofV m L
 | []=>rfl
 |y::L=>by
  show (if y.m=m then y.n else pick m L (bF L))=if y.m=m then y.n else ofV m L
  rw [XJ m L]
theorem a5j(m:Int):∀(L:List Lg) (c a:List Int),aA c=aA L->aA a=aA L->pick m L a+pick m L (kL (· - ·) c a)=pick m L c
 | [],_,_,_,_=>by simp [pick]
 |y::L,[],_,h,_=>by simp at h
 |y::L,_::_,[],_,h=>by simp at h
 |y::L,u::c,v::a,h,h'=>by have:=a5j m L c a (by simpa using h) (by simpa using h');rw [EG];unfold pick;split<;>omega
theorem X7 {m:Int}:∀ {L:List Lg} {xs:List Int},L.Pairwise (λx y=>x.m<y.m)->(∀x∈xs,0<=x)->aA xs=aA L->ofV m (ej L xs)=pick m L xs
 | [],_,_,_,_=>by simp [ej,ofV,pick]
 |y::L,[],_,_,h=>by simp at h
 |y::L,n::xs,hp,hx,hl=>by
  obtain⟨h1,h2⟩:=kX.1 hp;have hr:=X7 (m:=m) (xs:=xs) h2 (λx h=>hx x (by simp [h])) (by simpa using hl);have hn:=hx n (by simp);rw [RJ];unfold pick;by_cases hm:y.m=m
  ·rw [ifP hm];by_cases h0:0<n
   ·rw [ifP h0];simp [ofV,hm]
   rw [ifN h0,Fs,a5U]
   ·omega
   intro z hz;obtain⟨u,hu,e⟩:=a6p hz;have:=h1 u hu;omega
  rw [ifN hm];by_cases h0:0<n
  ·rw [ifP h0];simp only [List.singleton_append,ofV];rw [ifN hm];exact hr
  rw [ifN h0,Fs];exact hr
theorem a5k {m:Int}:∀ {L:List Lg} {xs ys:List Int},aA xs=aA L->aA ys=aA L->(∀i (h:i<aA xs) (h':i<aA ys),0<=xs[i]/\xs[i]<=ys[i])->0<=pick m L xs/\pick m L xs<=pick m L ys
 | [],_,_,_,_,_=>by simp [pick]
 |y::L,[],_,h,_,_=>by simp at h
 |y::L,_::_,[],_,h,_=>by simp at h
 |y::L,u::xs,v::ys,h,h',hb=>by
  unfold pick;split
  ·have:=hb 0 (by simp) (by simp);simpa using this
  exact a5k (by simpa using h) (by simpa using h') λi hi hi'=>by have:=hb (i+1) (by simpa using hi) (by simpa using hi');simpa using this
theorem aJ8 {L:List Lg}(h:dA L=0):L.Pairwise (λx y=>x.m<y.m):=by
 obtain⟨_,b,_⟩:=BJ h;have step:∀k (hk:k+1<aA L),L[k].m<L[k+1].m:=λk hk=>by have:=b (k+1) hk;rw [GN hk,RI (by omega)] at this;simp at this;exact this.2.2
 have all:∀k (hk:k<aA L) i (hi:i<aA L),i<k->L[i].m<L[k].m:=by
  intro k;induction k with
  |zero=>intro _ i _ h;omega
  |succ k ih=>
   intro hk i hi hik;have s:=step k hk;by_cases e:i=k
   ·subst e;exact s
   have:=ih (by omega) i hi (by omega);omega
 exact uu.2 λi j hi hj rR=>all j hj i hi rR
theorem a7U:∀(c a:List Int),aA c=aA a->sumI (kL (· - ·) c a)=sumI c-sumI a
 | [],[],_=>by simp [sumI]
 | [],_::_,h=>by simp at h
 |_::_,[],h=>by simp at h
 |u::c,v::a,h=>by have:=a7U c a (by simpa using h);rw [EG];simp only [sumI];omega
theorem a6o:∀ {L:List Lg} {xs:List Int},aA xs=aA L->(∀x∈xs,0<=x)->(ej L xs= []↔sumI xs=0)
 | [],[],_,_=>by simp [ej,sumI]
 | [],_::_,h,_=>by simp at h
 |_::_,[],h,_=>by simp at h
 |y::L,n::xs,h,hx=>by
  have hr:=a6o (L:=L) (xs:=xs) (by simpa using h) λx mL=>hx x (by simp [mL])
  have hn:=hx n (by simp);have hs:0<=sumI xs:=a7T λx h=>hx x (by simp [h])
  rw [RJ];simp only [sumI];by_cases h0:0<n
  ·rw [ifP h0];constructor
   ·intro h;simp at h
   intro h;omega
  rw [ifN h0,Fs,hr];omega
structure a9r(cd:Int)(L:List Lg)(m:Int):Prop where
 g:jb cd L=ej L (dJ cd (bF L))
 k:jh cd L=ej L (kL (· - ·) (bF L) (dJ cd (bF L)))
 gl:aA (jb cd L)<=aA L
 ll:aA (jh cd L)<=aA L
 al:aA (dJ cd (bF L))=aA L
 bd:∀i (h:i<aA (dJ cd (bF L))) (h':i<aA L),0<=(dJ cd (bF L))[i]/\(dJ cd (bF L))[i]<=L[i].n
 of:ofV m (jb cd L)+ofV m (jh cd L)=ofV m L
 lo:0<=ofV m (jb cd L)/\ofV m (jb cd L)<=ofV m L
 em:jh cd L= []↔sumI (bF L)<=cd
theorem aIh {cd:Int} {L:List Lg}(m:Int)(h:jD cd L=0):a9r cd L m:=by
 obtain⟨Q4,jt,Jj⟩:=PN h;have G:=ET Q4;have mi:oH (bF L) (dJ cd (bF L))=kL (· - ·) (bF L) (dJ cd (bF L)):=by unfold oH;rw [ifP (VA Q4)]
 have hg:jb cd L=ej L (dJ cd (bF L)):=by unfold jb;rw [ifP h]
 have hk:jh cd L=ej L (kL (· - ·) (bF L) (dJ cd (bF L))):=by unfold jh;rw [ifP h,mi]
 have hlen:aA (dJ cd (bF L))=aA L:=by rw [G.len,qP]
 have hzl:aA (kL (· - ·) (bF L) (dJ cd (bF L)))=aA L:=by rw [ED,qP,hlen,Nat.min_self]
 have p1:∀x∈dJ cd (bF L),0<=x:=λx hx=>by obtain⟨i,hi,rfl⟩:=sR.1 hx;exact(G.bd i hi (by rw [<-G.len];exact hi)).1
 have p2:∀x∈kL (· - ·) (bF L) (dJ cd (bF L)),0<=x:=λx hx=>by obtain⟨i,hi,rfl⟩:=sR.1 hx;rw [ED] at hi;rw [List.getElem_zipWith];have:=G.bd i (by omega) (by omega);omega
 have hr:=aJ8 jt;have a1:=X7 (m:=m) hr p1 hlen;have a2:=X7 (m:=m) hr p2 hzl;have a3:=a5j m L (bF L) (dJ cd (bF L)) (qP L) hlen;rw [XJ] at a3;have a4:=a5k (m:=m) (L:=L) hlen (qP L) λi h1 h2=>G.bd i h1 h2
 rw [XJ] at a4;refine⟨hg,hk,by rw [hg];exact Re _ _,by rw [hk];exact Re _ _,hlen,λi h1 h2=> ?_,by rw [hg,hk,a1,a2];exact a3,by rw [hg,a1];exact a4, ?_⟩
 ·have:=G.bd i h1 (by rw [qP];exact h2);have e:(bF L)[i]'(by rw [qP];exact h2)=L[i].n:=wQ _;rw [e] at this;exact this
 rw [hk,a6o hzl p2,a7U _ _ (by rw [qP,hlen]),G.sum];omega
def sX(L:List Lg):Bool:=decide (aA L=0)||decide (wU L=0)
def yI(cd:Int)(L:List Lg):Int:=if dA L≠0 then dA L else if sX L=aP then 1 else if cd<0 then 1 else 0
def nz(L:List Lg):Int:=if dA L≠0 then dA L else if sX L=aP then 1 else 0
def zU(cd:Int)(L:List Lg):List Lg:=if yI cd L=0 then jb cd L else []
def zV(cd:Int)(L:List Lg):List Lg:=if yI cd L=0 then jh cd L else []
theorem aIi {cd:Int} {L:List Lg}(h:nz L≠0):yI cd L=nz L/\zU cd L= []/\zV cd L= []:=by
 have e:yI cd L=nz L:=by
  unfold yI nz at*;by_cases h1:dA L≠0
  ·rw [ifP h1,ifP h1]
  rw [ifN h1] at h;rw [ifN h1,ifN h1];by_cases h2:sX L=aP
  ·rw [ifP h2,ifP h2]
  rw [ifN h2] at h;exact absurd rfl h
 unfold zU zV;rw [e,ifN h,ifN h];exact⟨rfl,rfl,rfl⟩
theorem aIk {cd:Int} {L:List Lg}(h:nz L=0):yI cd L=jD cd L/\zU cd L=jb cd L/\zV cd L=jh cd L:=by
 have e:yI cd L=jD cd L:=by
  unfold yI nz jD at*;by_cases h1:dA L≠0
  ·rw [ifP h1] at h;exact absurd h h1
  rw [ifN h1] at h;rw [ifN h1,ifN h1];by_cases h2:sX L=aP
  ·rw [ifP h2] at h;exact absurd h (by decide)
  rw [ifN h2]
 unfold zU zV;rw [e];refine⟨rfl, ?_, ?_⟩
 ·split
  ·rfl
  rename_i h;unfold jb;rw [ifN h]
 split
 ·rfl
 rename_i h;unfold jh;rw [ifN h]
theorem aCt {w:aJ} {B:Nat} {A:Option ai} {L:List Lg}(h:aW w B A (bA L))(hk:0<aA L):∃b o,A=aC ⟨b,o,aB⟩/\b<B/\w.cell? ⟨b,o+1,aB⟩=aC (aG aF (wU L)):=by obtain⟨b,o,e,hb,_,d1,_⟩:=oG h hk;rw [Nat.zero_mul,Fx,<-UR hk] at d1;exact⟨b,o,e,hb,d1⟩
theorem Uf(L:List Lg)(A:Option ai)(c:Nat)(w:aJ)(hs:aW w w.heap.size A (bA L))(hI:∀x∈L,aL x.n)(hl:aA L<=100000):
 aQ aM 199 #[aH A (aA L) c] w λe w'=>e=aU (ν (nz L))/\β w w':=by
 have HC:=η (PM L A c w hs hI hl);have HS:=η hs;have HD:Hid (nz L=if dA L≠0 then dA L else if sX L=aP then 1 else 0):=η rfl;have Dq:Hid (sX L=(decide (aA L=0)||decide (wU L=0))):=η rfl;generalize nz L=ce at*;by_cases he:dA L=0
 ·rw [he] at HC HD;rcases Nat.eq_zero_or_pos (aA L) with h0|h0
  ·have hE:ce=0:=by rw [HD.o,Dq.o,decide_eq_true h0];rfl
   subst hE;rw [h0] at HC ⊢;go_enter U3,UA
   go_wp2_with (go_at_call 188;refine HC.o.mono ?_;rintro e w1 ⟨rfl,hb1⟩;have aR:=η hb1)
   go_ret;exact⟨rfl,aR⟩
  have hl0:(0:Int)<(aA L:Int):=by omega
  have HK:Hid (∀W,β w W->∃b o,A=aC ⟨b,o,aB⟩/\b<w.heap.size/\W.cell? ⟨b,o+1,aB⟩=aC (ν (wU L))):=η λW hW=>aCt (HS.o.below hW) h0
  have FR:Hid (sX L=decide (wU L=0)):=η (by rw [Dq.o,decide_eq_false (by omega),Bool.false_or]);generalize wU L=a at*;by_cases ha:a=0
  ·have hE:ce=0:=by rw [HD.o,FR.o,decide_eq_true ha];rfl
   subst hE ha;go_enter U3,UA
   go_wp2_with (go_at_call 188;refine HC.o.mono ?_;rintro e w1 ⟨rfl,hb1⟩;have aR:=η hb1;obtain⟨b,o,rfl,hb,d1⟩:=HK.o _ hb1)
   go_ret;exact⟨rfl,aR⟩
  have hE:ce=1:=by rw [HD.o,FR.o,decide_eq_false ha];rfl
  subst hE;have hab:(a !=0)=aO:=by simpa [bne] using ha
  go_enter U3,UA
  go_wp2_with (go_at_call 188;refine HC.o.mono ?_;rintro e w1 ⟨rfl,hb1⟩;have aR:=η hb1;obtain⟨b,o,rfl,hb,d1⟩:=HK.o _ hb1)
  go_ret;exact⟨rfl,aR⟩
 have hE:ce=dA L:=by rw [HD.o,ifP he]
 rw [hE];generalize dA L=ge at*;go_enter U3,UA
 go_wp2_with (go_at_call 188;refine HC.o.mono ?_;rintro e w1 ⟨rfl,hb1⟩;have aR:=η hb1)
 go_ret;exact⟨rfl,aR⟩
def fS(L:List Lg)(q:Int):List Int:=(L.filter λy=>y.m==q).map (·.n)
theorem aC9 {L:List Lg} {k:Nat}(hk:k<aA L)(q:Int):fS (L.take (k+1)) q=if q=L[k].m then fS (L.take k) q++ [L[k].n] else fS (L.take k) q:=by
 unfold fS;rw [fF hk,List.filter_append,dY];by_cases h:q=L[k].m
 ·rw [ifP h];simp [h]
 rw [ifN h];have h':¬L[k].m=q:=λe=>h e.symm
 simp [h']
theorem UO {L:List Lg}(hI:∀y∈L,aL y.n)(q:Int):aA (fS L q)<=aA L/\∀z∈fS L q,aL z:=by unfold fS;refine⟨by rw [iK];exact qN _ _,λz hz=> ?_⟩;obtain⟨y,hy,rfl⟩:=dV.1 hz;exact hI y (j6.1 hy).1
theorem aC8(A B:List Lg)(q:Int):fS (A++B) q=fS A q++fS B q:=by unfold fS;rw [List.filter_append,dY]
theorem UN:∀ {L:List Lg} (q:Int),(∀y∈L,0<=y.n)->0<=sumI (fS L q)/\sumI (fS L q)<=sumI (bF L)
 | [],_,_=>by simp [fS,bF,sumI]
 |y::L,q,h=>by
  obtain⟨h1,h2⟩:=UN (L:=L) q λz hz=>h z (by simp [hz])
  have hy:=h y (by simp);have e2:sumI (bF (y::L))=y.n+sumI (bF L):=rfl;by_cases hq:y.m=q
  ·have e1:fS (y::L) q=y.n::fS L q:=by unfold fS;simp [hq]
   rw [e1,e2];simp only [sumI];omega
  have e1:fS (y::L) q=fS L q:=by unfold fS;simp [hq]
  rw [e1,e2];omega
theorem a1m {L:List Lg}(h:dA L=0):∀y∈L,0<=y.n:=λx hx=>by obtain⟨i,hi,rfl⟩:=sR.1 hx;have:=(BJ h).2.1 i hi;rw [GN hi] at this;simp at this;omega
def Hw(A B:List Lg):Int:=sumI (bF A)+sumI (bF B)
def rY(A B:List Lg):Int:=if dA A≠0 then dA A else if dA B≠0 then dA B else if sX A=aP then 1 else if sX B=aP then 1 else dL (Hw A B)
theorem a4Q(A B:List Lg):(dA A≠0/\rY A B=dA A)\/(dA A=0/\dA B≠0/\rY A B=dA B)\/(dA A=0/\dA B=0/\sX A=aP/\rY A B=1)\/(dA A=0/\dA B=0/\sX A=aO/\sX B=aP/\rY A B=1)\/(dA A=0/\dA B=0/\sX A=aO/\sX B=aO/\rY A B=dL (Hw A B)):=by
 unfold rY;by_cases h1:dA A=0
 ·by_cases h2:dA B=0
  ·cases h3:sX A
   ·right;right;left;simp [h1,h2]
   cases h4:sX B
   ·right;right;right;left;simp [h1,h2]
   right;right;right;right;simp [h1,h2]
  right;left;simp [h1,h2]
 left;simp [h1]
theorem a4R {A B:List Lg}(ha:dA A=0)(hb:dA B=0)(hT:aL (Hw A B))(q:Int):aL (sumI (fS (A++B) q)):=by have h1:=UN q (a1m ha);have h2:=UN q (a1m hb);rw [aC8,NY];unfold Hw aL at*;omega
theorem P7(a b:Int)(w:aJ)(ha:aL a)(hb:aL b):
 aQ aM 201 #[ν a,ν b] w λe w'=>
  e=aU (bB #[ν (gP (a+b)),ν (dL (a+b))])/\w=w':=by
 have HA:=η ha;have HB:=η hb;go_enter func201,ntmps201
 go_wp2
 all_goals
  go_ret2;have ha:=HA.o;have hb:=HB.o;refine⟨?_,rfl⟩;unfold aL at ha hb;by_cases h:aL (a+b)
  ·obtain⟨h1,h2⟩:=dy h;rw [h1,h2];unfold aL at h;have hw:fV (a+b)=a+b:=by unfold fV;omega
   simp_all<;>omega
  obtain⟨h1,h2⟩:=gh h;rw [h1,h2];unfold aL at h;unfold fV at*;simp_all<;>omega
structure JI(L:List Lg)(w wr:aJ)(b lo k:Nat)(u:aN)(m:List (Int×aN)):Prop where
 g:lA wr (b+1) b m (fS (L.take k))
 len:aA m<=k
 ks:∀q,(∃p∈m,p.1=q)↔∃y∈L.take k,y.m=q
 own:wr.ownsRow lo 76 3 u (aA L) (bA L)
 nS:b<lo
 hb:w.heap.size<=b
 b:β w wr
theorem JI.below {L:List Lg} {w wr w2:aJ} {b lo k:Nat} {u:aN} {m:List (Int×aN)}(h:JI L w wr b lo k u m)(hb:aa wr.heap.size wr w2):JI L w w2 b lo k u m:=
 ⟨h.g.below (aZ _) hb,h.len,h.ks,NH h.own hb,h.nS,h.hb,h.b.trans (hb.mono h.b.size)⟩
theorem JI.step {L:List Lg} {w w2 w4 w5:aJ} {b lo k:Nat} {u:aN} {m:List (Int×aN)} {v':aN}(h:JI L w w2 b lo k u m)(hk:k<aA L)
 (hg:w2.grownBy w4 (lj L[k].m m).ownBlock) (h5:lA w5 (b+1) b (eI L[k].m v' m) (λq=>if q=L[k].m then fS (L.take k) L[k].m++ [L[k].n] else fS (L.take k) q)) (eZ:w4.grownBy w5 (aC b)):JI L w w5 b lo (k+1) u (eI L[k].m v' m):=by
 have jf:=h.g.slot L[k].m;have hrow:∀j,(lj L[k].m m).ownBlock=aC j->b+1<=j:=λj hj=>(jf.lt j hj).1
 have js:=h.hb;have hb4:=h.b.grown hg h.b.size λj hj=>by have:=hrow j hj;omega
 refine⟨?_, ?_,λq=> ?_, ?_,h.nS,h.hb, ?_⟩
 ·have e:(λq=>if q=L[k].m then fS (L.take k) L[k].m++ [L[k].n] else fS (L.take k) q)=fS (L.take (k+1)):=by
   funext q;rw [aC9 hk q];by_cases e:q=L[k].m
   ·rw [ifP e,ifP e,e]
   rw [ifN e,ifN e]
  rw [<-e];exact h5
 ·have:=XP (q:=L[k].m) (v:=v') m;have:=h.len;omega
 ·have h1:=h.ks q;rw [fF hk];constructor
  ·rintro⟨p,hp,rfl⟩;rcases IA h.g.map.apart hp with rfl|⟨hp,_⟩
   ·exact⟨L[k],EE _ (List.mem_singleton.2 rfl),rfl⟩
   obtain⟨y,hy,e⟩:=h1.1 ⟨p,hp,rfl⟩;exact⟨y,uD _ hy,e⟩
  rintro⟨y,hy,rfl⟩;rcases gJ.1 hy with hy|hy
  ·obtain⟨p,hp,e⟩:=h1.2 ⟨y,hy,rfl⟩;obtain⟨u,hu⟩:=XQ (q:=L[k].m) (v:=v') hp;exact⟨_,hu,e⟩
  simp at hy;subst hy;exact⟨_,RL m,rfl⟩
 ·have h1:=h.own.kept hg (I6 h.own jf (by decide));exact h1.kept eZ (aT (RG h1 h.nS))
 exact hb4.grown eZ hb4.size λj hj=>by cases hj;omega
theorem a2q(f:Int->List Int):∀ks:List Int,gatE f ks=0\/gatE f ks=2
 | []=>aS rfl
 |k::ks=>by
  unfold gatE;split
  ·exact a2q f ks
  exact aT rfl
section
open Go.Maps Go.MapKept Go.ChangeMaps
theorem aIv {M A:Nat} {k m a:Int}(h:plcA M A k m a≠aB):0<=a/\a<(A:Int):=by
 unfold plcA at h;split at h
 ·exact absurd rfl h
 split at h
 ·assumption
 exact absurd rfl h
theorem X9:∀ {pre l:List En} {q:Int×Int×Int},q∈ordF pre l->∃x∈l,x.spot=q
 |_,[],_,h=>by simp [ordF] at h
 |pre,x::l,q,h=>by
  rw [ordF,gJ] at h;rcases h with h|h
  ·split at h
   ·exact⟨x,oZ ..,(List.mem_singleton.1 h).symm⟩
   cases h
  obtain⟨y,hy,e⟩:=X9 h;exact⟨y,df _ hy,e⟩
theorem aCp {l:List En}(h:∀x∈l,x.ok)(q:Int×Int×Int):∀y∈gq l q,aL y:=by intro y hy;obtain⟨x,hx,rfl⟩:=dV.1 hy;exact(h x (j6.1 hx).1).n
theorem aCl {l:List En}(h:∀x∈l,x.ok)(i:Nat):∀y∈gp l i,aL y:=by intro y hy;obtain⟨x,hx,rfl⟩:=dV.1 hy;exact(h x (j6.1 hx).1).n
theorem aCw:(aM.info? 233).map (λi=>(i.zero,i.size,i.bytes))=aC (aC (bO #[aG aF 0,bM aP,aG aF 0,aG aF 0]),4,32):=by kernel_rfl
theorem aCx(x:Ch):∀u∈x.cells,u.oneCell'=aO:=by intro u hu;simp [Ch.cells] at hu;rcases hu with rfl|rfl|rfl|rfl<;>rfl
def a8P(M A:Nat)(l:List Int)(es:List En)(w:aJ)(e:di)(w':aJ):Prop:=
 β w w'/\((jO M A l es=0/\∃v,e=aU (bB #[v,ν 0])/\w'.ownsRow w.heap.size 233 4 v (aA (kg M A l es)) (BI (kg M A l es)))\/(jO M A l es≠0/\e=aU (bB #[aH aB 0 0,ν (jO M A l es)])))
theorem aDA {M A:Nat} {l:List Int} {es:List En}(h1:¬1024<aA es) {k:Nat}(hk:k<aA es)(h:kr M A es[k].spot=aB):jO M A l es=8:=by unfold jO;rw [ifN h1,ifP];rw [kK];exact⟨_,cK hk,by rw [h];rfl⟩
theorem aD8 {M A:Nat} {l:List Int} {es:List En}(h1:¬1024<aA es)(h2:es.any (λx=>(kr M A x.spot).isNone)=aP) {k:Nat}(hk:k<9)(h:sumI (gp es k)≠0):jO M A l es=17:=by unfold jO;rw [ifN h1,ifN (by rw [h2];simp),ifP];rw [kK];exact⟨k,nH.2 hk,by simpa using h⟩
theorem aD9 {M A:Nat} {l:List Int} {es:List En}(h1:¬1024<aA es)(h2:es.any (λx=>(kr M A x.spot).isNone)=aP)(h3:(dQ 9).any (λi=>sumI (gp es i) !=0)=aP) {k:Nat}(hk:k<aA (cu es))(h:yY M A l es (cu es)[k]=aO):jO M A l es=2:=by unfold jO;rw [ifN h1,ifN (by rw [h2];simp),ifN (by rw [h3];simp),ifP];rw [kK];exact⟨_,cK hk,h⟩
theorem aD7 {M A:Nat} {l:List Int} {es:List En}(h1:¬1024<aA es)(h2:es.any (λx=>(kr M A x.spot).isNone)=aP)(h3:(dQ 9).any (λi=>sumI (gp es i) !=0)=aP)(h:(cu es).any (yY M A l es)=aP):jO M A l es=0:=by unfold jO;rw [ifN h1,ifN (by rw [h2];simp),ifN (by rw [h3];simp),ifN (by rw [h];simp)]
theorem aJH(p:Nat->Bool)(k:Nat):(dQ (k+1)).any p=((dQ k).any p||p k):=by rw [List.range_succ,List.any_append];simp
theorem aKE {w:aJ} {B:Nat} {A:Option ai} {l:List (Int×Int×Int)}(h:aW w B A (IE l)) {k:Nat}(hk:k<aA l):
 ∃b o,A=aC ⟨b,o,aB⟩/\b<B/\w.cell? ⟨b,o+k*3,aB⟩=aC (ν l[k].1)/\w.cell? ⟨b,o+k*3+1,aB⟩=aC (ν l[k].2.1)/\w.cell? ⟨b,o+k*3+2,aB⟩=aC (ν l[k].2.2):=by
 obtain⟨b,o,e,hb,hc⟩:=h.run (i:=k*3) (y:=ν l[k].1) (t:= [ν l[k].2.1,ν l[k].2.2]) (λj u hu=>tC NV 3 (λ_=>rfl) l k hk j u hu);exact⟨b,o,e,hb,hc 0 _ rfl,hc 1 _ rfl,hc 2 _ rfl⟩
theorem aCV(M A:Nat)(v:aN)(l:List Int)(po:Int)(es:List En)(AA:Option ai)(c bb:Nat)(w:aJ)(h:fE w bb M A v l po)(hs:aW w w.heap.size AA (qT es))(hI:∀x∈es,x.ok)(vM:∀y∈l,aL y)(hl:aA es<=100000):
 aQ aM 159 #[π bb,aH AA (aA es) c] w (a8P M A l es w):=by
 have pM:=η h;have HS:=η hs;have HI:=η hI;have Iq:=η vM;by_cases h1:1024<aA es
 ·have HE:Hid (jO M A l es=6):=η (by unfold jO;rw [ifP h1]);have uL:(1024:Int)<(aA es:Int):=by omega
  go_enter aAC,aAz
  go_wp2_with fail
  go_ret2;exact⟨aX _ _,.inr ⟨by rw [HE.o];decide,by rw [HE.o];rfl⟩⟩
 have HN:=η h1;have uL:decide ((1024:Int)<(aA es:Int))=aP:=decide_eq_false (by omega);have aLr:decide (1024<aA es)=aP:=decide_eq_false h1;have hl:aA es<=1024:=by omega
 have aY:Hid (β w w):=η (aX _ _);have iP:Hid ((es.take 0).any (λx=>(kr M A x.spot).isNone)=aP):=η (by rw [nJ];rfl);go_enter aAC,aAz
 go_wp2_with fail
 go_loopw [7,8,9,30] (λ_ _ _ i wr=>∃k:Nat,k<=aA es/\i=ν (k:Int)/\Hid (β w wr)/\Hid ((es.take k).any (λx=>(kr M A x.spot).isNone)=aP)) (λ_ _ _ i _=>aA es-(ag i).toNat)
 case atStart=>exact⟨0,bL _,rfl,aY,iP⟩
 case round=>
  obtain⟨k,hk,rfl,HB,HP⟩:=hrel;by_cases hlt:k<aA es
  ·obtain⟨be,oe,rfl,lO,e0,e1,e2,e3⟩:=Uz ((HS.o.below HB.o).mono HB.o.size) hlt;have dR:=HI.o _ (cK hlt);have cG:=η (zM (λx:En=>(kr M A x.spot).isNone) hlt);have HE8:=η (aDA (M:=M) (A:=A) (l:=l) HN.o hlt);have eV:(0:Int)<=(k:Int):=by omega
   have hkb:(k:Int)<(aA es:Int):=by omega
   generalize es[k]=x at*;obtain⟨xk,xm,xa,xn⟩:=x;simp only at e0 e1 e2 e3;obtain⟨KE,KF,KG,ok3⟩:=dR;simp only at KE KF KG ok3;have eF:Hid (∀W,β w W->aQ aM 155 #[π bb,bO #[ν xk,ν xm],ν xa] W λe w'=>e=aU (bB #[ν (numV (plcA M A xk xm xa)),ν (nZ (plcA M A xk xm xa))])/\β W w'):=η λW hW=>Uc M A v l po xk xm xa bb W (pM.o.below hW) KE KF
   have dN:Hid (β w (wr.alloc (aK #[ν xk,ν xm,ν xa,ν xn] 103))):=η (HB.o.alloc HB.o.size _);cases hp:plcA M A xk xm xa with
   |none=>
    rw [hp] at eF;have HE:Hid (jO M A l es=8):=η (HE8.o hp);unfold numV nZ at eF;simp only at eF;go_wp2_with (go_at_call 155;refine(eF.o _ dN.o).mono ?_;rintro e w2 ⟨rfl,hb2⟩;have aV:Hid (β w w2):=τ dN hb2)
    go_ret2;exact⟨aV.o,.inr ⟨by rw [HE.o];decide,by rw [HE.o];rfl⟩⟩
   |some n=>
    rw [hp] at eF;have nr:Hid ((es.take (k+1)).any (λx=>(kr M A x.spot).isNone)=aP):=η (by rw [cG.o,HP.o];simp [kr,En.spot,hp]);unfold numV nZ at eF;simp only at eF;go_wp2_with (go_at_call 155;refine(eF.o _ dN.o).mono ?_;rintro e w2 ⟨rfl,hb2⟩;have aV:Hid (β w w2):=τ dN hb2)
    go_roundw
    case rel=>exact⟨k+1,by omega,by go_num,aV,nr⟩
    case measure=>simp [ag];omega
  obtain rfl:k=aA es:=by omega
  rw [cU] at HP;have HA:Hid (∀x∈es,0<=x.a/\x.a<=8):=η λx hx=>by
   have h2:=zE.1 HP.o x hx;have h3:plcA M A x.k x.m x.a≠aB:=λe=>h2 (by simp only [kr,En.spot,e];rfl)
   have h4:=aIv h3;have:=pM.o.hA;omega
  have E4:=HP;have L5:Hid (∀q∈cu es,kr M A q≠aB/\FP q):=η λq hq=>by obtain⟨x,hx,e⟩:=X9 hq;have h2:=zE.1 HP.o x hx;have h3:=HI.o x hx;rw [<-e];exact⟨λe=>h2 (by rw [e];rfl),h3.k,h3.m,h3.a⟩
  have tZ:=η (aFJ es AA c wr ((HS.o.below HB.o).mono HB.o.size) HI.o HA.o hl);go_wp2_with (go_at_call 206;refine tZ.o.mono ?_;unfold YV;rintro e w2 ⟨base,b,ab,cf,ov,rfl,hg2⟩;have HG2:=η hg2)
  obtain⟨wg,rfl⟩:∃wg:aJ,wg=wr:=⟨_,rfl⟩;have TE:Hid ((dQ 0).any (λi=>sumI (gp es i) !=0)=aP):=η rfl;go_loopw [14,15,16,55] (λ_ _ _ i wr=>∃k:Nat,k<=9/\i=ν (k:Int)/\Hid (lB wg base b ab cf ov (gthF es) (cu es) wr)/\Hid ((dQ k).any (λi=>sumI (gp es i) !=0)=aP)) (λ_ _ _ i _=>9-(ag i).toNat)
  case atStart=>exact⟨0,bL _,rfl,HG2,TE⟩
  case round=>
   obtain⟨k,hk,rfl,HG,HQ⟩:=hrel;by_cases hlt:k<9
   ·have hrow:=HG.o.tA.rows (.inr k);have hgf:gthF es (.inr k)=gp es k:=by simp [gthF,hlt]
    rw [hgf] at hrow;obtain⟨Ar,cr,nQ⟩:=bJ hrow;have hc0:wr.cell? ⟨ab,k,aB⟩=aC (aH Ar (aA (gp es k)) cr):=by rw [bG _ _ k _ _ (0,0) HG.o.blk,Ue cf hlt,nQ]
    have hab:=HG.o.low;have rO:=Ud es k;have kV:=η (Dg (gp es k) Ar cr wr (aCl HI.o k) (by rw [nQ] at hrow;exact aW.cA hrow) (by omega));have a8b:=η (aD8 (l:=l) HN.o HP.o hlt);have HRS:=η (aJH (λi=>sumI (gp es i) !=0) k);have eV:(0:Int)<=(k:Int):=by omega
    have hkb:(k:Int)<9:=by omega
    generalize gp es k=ys at*;generalize sumI ys=s at*;by_cases hs0:s=0
    ·subst hs0;have e1:=(dy JC).1;have e2:=(dy JC).2;rw [e1,e2] at kV;have Az:Hid ((dQ (k+1)).any (λi=>sumI (gp es i) !=0)=aP):=η (by rw [HRS.o,HQ.o];rfl);go_wp2_with (go_at_call 104;refine kV.o.mono ?_;rintro e w3 ⟨rfl,hb3⟩;have tY:=η (HG.o.below hb3))
     go_roundw
     case rel=>exact⟨k+1,by omega,by go_num,tY,Az⟩
     case measure=>simp [ag];omega
    have HE:Hid (jO M A l es=17):=η (a8b.o hs0);have vz:=η (HB.o.trans (HG.o.b.mono HB.o.size));by_cases Pq:aL s
    ·have e1:=(dy Pq).1;have e2:=(dy Pq).2;rw [e1,e2] at kV;have hsn:(s !=0)=aO:=by simpa using hs0
     go_wp2_with (go_at_call 104;refine kV.o.mono ?_;rintro e w3 ⟨rfl,hb3⟩;have af:Hid (β w w3):=τ vz hb3)
     go_ret2;exact⟨af.o,.inr ⟨by rw [HE.o];decide,by rw [HE.o];rfl⟩⟩
    have e1:=(gh Pq).1;have e2:=(gh Pq).2;rw [e1,e2] at kV;go_wp2_with (go_at_call 104;refine kV.o.mono ?_;rintro e w3 ⟨rfl,hb3⟩;have af:Hid (β w w3):=τ vz hb3)
    go_ret2;exact⟨af.o,.inr ⟨by rw [HE.o];decide,by rw [HE.o];rfl⟩⟩
   obtain rfl:k=9:=by omega
   rw [show ((9:Nat):Int)=9 from rfl];obtain⟨wh,rfl⟩:∃wh:aJ,wh=wr:=⟨_,rfl⟩;have cE:=η (HB.o.trans (HG.o.b.mono HB.o.size));have Mf:=HG.o.ord;have mH:aA (cu es)<=1024:=cC (RA [] es) hl;obtain⟨Ao,co,Mg⟩:=bJ Mf;subst Mg;have ly:Hid (wh.ownsRow wh.heap.size 233 4 (aH aB 0 0) 0 (BI ((kg M A l es).take 0))):=η (by rw [nJ];exact gC _ _ _ _);have CX:Hid (((cu es).take 0).any (yY M A l es)=aP):=η (by rw [nJ];rfl);have HBh:Hid (β wh wh):=η (aX _ _);go_wp2_with fail
   go_loopw [17,19,20,21,22,23,24,73] (λv _ _ _ _ _ _ i wr=>∃k:Nat,k<=aA (cu es)/\i=ν (k:Int)/\Hid (β wh wr)/\Hid (wr.ownsRow wh.heap.size 233 4 v k (BI ((kg M A l es).take k)))/\Hid (((cu es).take k).any (yY M A l es)=aP)) (λ_ _ _ _ _ _ _ i _=>aA (cu es)-(ag i).toNat)
   case atStart=>exact⟨0,bL _,rfl,HBh,ly,CX⟩
   case round=>
    obtain⟨k,hk,rfl,HR,HO,HV⟩:=hrel;obtain⟨Ax,cx,oz⟩:=bJ HO.o;subst oz;by_cases hlt:k<aA (cu es)
    ·obtain⟨be,oe,rfl,lO,e0,e1,e2⟩:=aKE (((aW.cA Mf).below HR.o).mono HR.o.size) hlt;obtain⟨gW,aFs⟩:=L5.o _ (cK hlt);have cG:=η (zM (yY M A l es) hlt);have lM:Hid ((kg M A l es).take (k+1)=(kg M A l es).take k++ [jo M A l es (cu es)[k]]):=η (by rw [fF (by unfold kg;rw [iK];exact hlt)];simp [kg]);have mV:=η (aD9 (l:=l) HN.o E4.o HQ.o hlt);have eV:(0:Int)<=(k:Int):=by omega
     have hkb:(k:Int)<(aA (cu es):Int):=by omega
     generalize (cu es)[k]=q at*;have HD:=η aFs;obtain⟨n,hn⟩:∃n,kr M A q=aC n:=Option.ne_none_iff_exists'.1 gW;have pA:n<aA l:=by rw [pM.o.len];exact NK hn
     have hnA:n<=9*54:=by have h2:=pM.o.len;have h3:=pM.o.hM;have h4:=pM.o.hA;have h5:A*(6+3*M)<=9*54:=yC h4 (by omega);omega
     obtain⟨Av,cv,Qb⟩:=bJ pM.o.own;obtain⟨bv,ov,Jj,hbv,hcv⟩:=tK (aW.cA (by have h2:=pM.o.own;rw [Qb] at h2;exact h2)) pA;have hbl:kf M A l q=l[n]:=by unfold kf balA;rw [show plcA M A q.1 q.2.1 q.2.2=aC n from hn];simp [pA]
     have Kd:Hid (jo M A l es q=⟨(n:Int),uK q.1,fA es q,l[n]+fA es q⟩):=η (by unfold jo;rw [hn,hbl];rfl);have OD:Hid (yY M A l es q=(dL (fA es q) !=0||dL (l[n]+fA es q) !=0)):=η (by unfold yY;rw [hbl]);have hlx:=Iq.o _ (cK pA);have aMK:(0:Int)<=(n:Int):=by omega
     have mj:(n:Int)<(aA l:Int):=by omega
     obtain⟨Aq,cq,vJ⟩:=bJ (HG.o.tA.rows (.inl q));have kF:Hid (∀W,β wh W->(Instr.lookup 284 (.map (aC b)) (bO #[ν q.1,ν q.2.1,ν q.2.2]) aP).run aM W= .ok (aH Aq (aA (gq es q)) cq) W):=η λW hW=>by have h2:=(HG.o.below hW).look HD.o;rw [vJ] at h2;exact h2
     have kV:Hid (∀W,β wh W->aQ aM 104 #[aH Aq (aA (gq es q)) cq] W λe w'=>e=aU (bB #[ν (gP (fA es q)),ν (dL (fA es q))])/\β W w'):=η λW hW=>Dg (gq es q) Aq cq W (aCp HI.o q) (by have h2:=(HG.o.below hW).tA.rows (.inl q);rw [vJ] at h2;exact aW.cA h2) (by have:=a1Y es q;omega)
     have eF:Hid (∀W,β wh W->aQ aM 155 #[π bb,bO #[ν q.1,ν q.2.1],ν q.2.2] W λe w'=>e=aU (bB #[ν (n:Int),ν 0])/\β W w'):=η λW hW=>by have h2:=Uc M A v l po q.1 q.2.1 q.2.2 bb W (pM.o.below (cE.o.trans (hW.mono cE.o.size))) HD.o.1 HD.o.2.1;rw [show plcA M A q.1 q.2.1 q.2.2=aC n from hn] at h2;exact h2
     have Dq:Hid (∀W,β wh W->W.cell? ⟨bb,2,aB⟩=aC (aH Av (aA l) cv)/\W.cell? ⟨bv,ov+n,aB⟩=aC (ν l[n])):=η λW hW=>by have h2:=cE.o.trans (hW.mono cE.o.size);refine⟨?_,((ez h2).1 _ _ hbv).trans hcv⟩;rw [<-Qb];exact(pM.o.below h2).c2
     have dN:Hid (β wh (wr.alloc (aK #[ν q.1,ν q.2.1,ν q.2.2] 289))):=η (HR.o.alloc HR.o.size _);have dC:Hid ((wr.alloc (aK #[ν q.1,ν q.2.1,ν q.2.2] 289)).heap[wr.heap.size]? =aC (aK #[ν q.1,ν q.2.1,ν q.2.2] 289 (0,0))):=η (cT wr _);have cF:=η (HO.o.alloc (aK #[ν q.1,ν q.2.1,ν q.2.2] 289));have DO:k<=1024:=by omega
     have hz0:wr.heap.size<(wr.alloc (aK #[ν q.1,ν q.2.1,ν q.2.2] 289)).heap.size:=by simp
     subst Jj;go_upto_region 22 with fail
     generalize wr.alloc (aK #[ν q.1,ν q.2.1,ν q.2.2] 289)=w3 at*;generalize wr.heap.size=bx at*;obtain⟨q1,q2,q3⟩:=q;simp only at HD Kd OD kF kV eF dC mV cG lM;have j5:Hid (∀W,β w3 W->W.cell? ⟨bx,0,aB⟩=aC (ν q1)/\W.cell? ⟨bx,1,aB⟩=aC (ν q2)/\W.cell? ⟨bx,2,aB⟩=aC (ν q3)):=η λW hW=>⟨((ez hW).1 _ _ hz0).trans (ρ dC.o),((ez hW).1 _ _ hz0).trans (ρ dC.o),((ez hW).1 _ _ hz0).trans (ρ dC.o)⟩
     have ZA:=η hlx;obtain⟨s0,s1,s2⟩:=j5.o _ (aX _ _);generalize fA es (q1,q2,q3)=s at*;by_cases hs1:aL s
     ·by_cases hs2:aL (l[n]+s)
      ·have xy:Hid (((cu es).take (k+1)).any (yY M A l es)=aP):=η (by rw [cG.o,HV.o,OD.o,(dy hs1).2,(dy hs2).2];rfl);have HAD:=η (λW=>P7 l[n] s W ZA.o hs1);rw [(dy hs2).1,(dy hs2).2] at HAD;rw [(dy hs1).1,(dy hs1).2] at kV;obtain⟨ic,DM,rU,rV,rW⟩:=dK aCw;go_wp2_with (first|(go_at_call 155;refine(eF.o _ dN.o).mono ?_;rintro e w4 ⟨rfl,hb4⟩;have ar:Hid (β wh w4):=τ dN hb4;have gZ:Hid (β w3 w4):=η hb4;have hlk:=kF.o _ ar.o;obtain⟨s0,s1,s2⟩:=j5.o _ gZ.o)|(go_at_call 104;refine(kV.o _ ar.o).mono ?_;rintro e w5 ⟨rfl,dG⟩;have cz:Hid (β wh w5):=τ ar dG;have qz:Hid (β w3 w5):=τ gZ dG;obtain⟨cb,cl⟩:=Dq.o _ cz.o;obtain⟨s0,s1,s2⟩:=j5.o _ qz.o)|(go_at_call 201;refine(HAD.o _).mono ?_;rintro e w6 ⟨rfl,rfl⟩)|(go_at_call 112;refine(PK q1 q2 _).mono ?_;rintro e w6 ⟨rfl,iL⟩;have gz:Hid (β wh w6):=τ cz iL;have wH:Hid (β w3 w6):=τ qz iL;have lV:=η ((iI cF.o wH.o).alloc (aK #[ν (n:Int),bM (uK q1),ν s,ν (l[n]+s)] 233)))|(at_builtin;refine wpList_append_lies _ rfl _ _ 229 rfl wh.heap.size 233 ic _ 4 32 underlying229 DM rU rV rW rfl (by omega) _ _ _ rfl lV.o ⟨w6.heap.size,0,aB⟩ 1 1 (Ch.cells ⟨(n:Int),uK q1,s,l[n]+s⟩) rfl rfl (dM _ _ #[_,_,_,_] rfl) (aCx _) (by omega) (by simp only [bK];omega) (by omega) (by have:=gz.o.size;simp;omega) (w6.heap.size+1) (by simp) ?_))
       intro g7 aCs w7 aGJ QC _ _;have ub:Hid (β wh w7):=η ((gz.o.alloc gz.o.size _).grown QC (by have:=gz.o.size;simp;omega) (λj hj=>ei lV.o j hj));have pQ:Hid (w7.ownsRow wh.heap.size 233 4 (aH (aC ⟨g7,0,aB⟩) (k+1) aCs) (k+1) (BI ((kg M A l es).take (k+1)))):=η (by rw [lM.o,Kd.o,aCv];exact aGJ);go_wp2_with fail
       go_roundw
       case rel=>exact⟨k+1,by omega,by go_num,ub,pQ,xy⟩
       case measure=>simp [ag];omega
      have HE:Hid (jO M A l es=2):=η (mV.o (by rw [OD.o,(gh hs2).2];simp));have HAD:=η (λW=>P7 l[n] s W ZA.o hs1);rw [(gh hs2).1,(gh hs2).2] at HAD;rw [(dy hs1).1,(dy hs1).2] at kV;go_wp2_with (first|(go_at_call 155;refine(eF.o _ dN.o).mono ?_;rintro e w4 ⟨rfl,hb4⟩;have ar:Hid (β wh w4):=τ dN hb4;have gZ:Hid (β w3 w4):=η hb4;have hlk:=kF.o _ ar.o;obtain⟨s0,s1,s2⟩:=j5.o _ gZ.o)|(go_at_call 104;refine(kV.o _ ar.o).mono ?_;rintro e w5 ⟨rfl,dG⟩;have cz:Hid (β wh w5):=τ ar dG;have qz:Hid (β w3 w5):=τ gZ dG;obtain⟨cb,cl⟩:=Dq.o _ cz.o;obtain⟨s0,s1,s2⟩:=j5.o _ qz.o)|(go_at_call 201;refine(HAD.o _).mono ?_;rintro e w6 ⟨rfl,rfl⟩))
      go_ret2;exact⟨cE.o.trans (cz.o.mono cE.o.size),.inr ⟨by rw [HE.o];decide,by rw [HE.o];rfl⟩⟩
     have HE:Hid (jO M A l es=2):=η (mV.o (by rw [OD.o,(gh hs1).2];simp));rw [(gh hs1).1,(gh hs1).2] at kV;go_wp2_with (first|(go_at_call 155;refine(eF.o _ dN.o).mono ?_;rintro e w4 ⟨rfl,hb4⟩;have ar:Hid (β wh w4):=τ dN hb4;have gZ:Hid (β w3 w4):=η hb4;have hlk:=kF.o _ ar.o;obtain⟨s0,s1,s2⟩:=j5.o _ gZ.o)|(go_at_call 104;refine(kV.o _ ar.o).mono ?_;rintro e w5 ⟨rfl,dG⟩;have cz:Hid (β wh w5):=τ ar dG;have qz:Hid (β w3 w5):=τ gZ dG;obtain⟨cb,cl⟩:=Dq.o _ cz.o;obtain⟨s0,s1,s2⟩:=j5.o _ qz.o))
     go_ret2;exact⟨cE.o.trans (cz.o.mono cE.o.size),.inr ⟨by rw [HE.o];decide,by rw [HE.o];rfl⟩⟩
    obtain rfl:k=aA (cu es):=by omega
    rw [cU] at HV;have cB:Hid (wr.ownsRow wh.heap.size 233 4 (aH Ax (aA (cu es)) cx) (aA (kg M A l es)) (BI (kg M A l es))):=η (by
     have e:aA (kg M A l es)=aA (cu es):=by unfold kg;rw [iK]
     have h2:=HO.o;rw [List.take_of_length_le (by omega)] at h2;rw [e];exact h2)
    have wC:Hid (jO M A l es=0):=η (aD7 HN.o E4.o HQ.o HV.o);go_wp2_with fail
    go_ret2;exact⟨cE.o.trans (HR.o.mono cE.o.size),.inl ⟨wC.o,_,rfl,jT cB.o cE.o.size⟩⟩
end
section
structure bC(S:Nat->Prop)(w w':aJ):Prop where
 os:w'.os=w.os
 tape:w'.tape=w.tape
 output:w'.output=w.output
 size:w.heap.size<=w'.heap.size
 keep:∀k,k<w.heap.size->¬S k->w'.heap[k]? =w.heap[k]?
section
variable {S S':Nat->Prop} {w w1 w2:aJ}
theorem bC.refl(S:Nat->Prop)(w:aJ):bC S w w:=⟨rfl,rfl,rfl,aZ _,λ_ _ _=>rfl⟩
theorem bC.trans(h:bC S w w1)(h':bC S' w1 w2)(hs:∀k,S' k->S k\/w.heap.size<=k):bC S w w2:=
 ⟨h'.os.trans h.os,h'.tape.trans h.tape,h'.output.trans h.output,cC h.size h'.size,λk hk hn=>(h'.keep k (cR hk h.size) (λe=>(hs k e).elim hn (λe2=>by omega))).trans (h.keep k hk hn)⟩
theorem bC.bV(S:Nat->Prop)(h:aa w.heap.size w w1):bC S w w1:=⟨h.os,h.tape,h.output,h.size,λk hk _=>h.block k hk⟩
theorem bC.I4 {row:Option Nat}(h:w.grownBy w1 row)(hr:∀k,row=aC k->S k\/w.heap.size<=k):bC S w w1:=
 ⟨h.os,h.tape,h.output,h.size,λk hk hn=>h.block k hk (λe=>(hr k e.symm).elim hn (λe2=>by omega))⟩
theorem bC.below(h:bC S w w1)(hb:aa w1.heap.size w1 w2):bC S w w2:=h.trans (bC.bV (λ_=>False) hb) (λ_ e=>e.elim)
theorem bC.mono(h:bC S w w1)(hs:∀k,S k->S' k\/w.heap.size<=k):bC S' w w1:=⟨h.os,h.tape,h.output,h.size,λk hk hn=>h.keep k hk (λe=>(hs k e).elim hn (λe2=>by omega))⟩
theorem bC.toBelow {B:Nat}(h:bC S w w1)(hB:B<=w.heap.size)(hs:∀k,S k->B<=k):aa B w w1:=⟨h.os,h.tape,h.output,h.size,λk hk=>h.keep k (by omega) (λe=>by have:=hs k e;omega)⟩
theorem bC.cell(h:bC S w w1) {k:Nat}(o:Nat)(hk:k<w.heap.size)(hn:¬S k):w1.cell? ⟨k,o,aB⟩=w.cell? ⟨k,o,aB⟩:=gg (a:=⟨k,o,aB⟩) (h.keep k hk hn)
theorem bC.own(h:bC S w w1) {base:Nat} {e:bX} {size n:Nat} {v:aN} {xs:List aN}(ho:w.ownsRow base e size v n xs)(hv:∀k,v.ownBlock=aC k->¬S k):w1.ownsRow base e size v n xs:=by
 have hlt:=λk hk=>(ho.lt k hk).2
 rcases ho.2 with⟨hv0,hn⟩|⟨g,cap,cur,hvg,h1,h2,h3,h4,h5⟩
 ·exact⟨ho.1,aS ⟨hv0,hn⟩⟩
 have hg:v.ownBlock=aC g:=by rw [hvg];rfl
 exact⟨ho.1,aT ⟨g,cap,cur,hvg,h1,(h.keep g (hlt g hg) (hv g hg)).trans h2,h3,h4,h5⟩⟩
theorem bC.dh(h:bC S w w1) {A:Option ai} {xs:List aN}(hs:aW w w.heap.size A xs)(hA:xs≠ []->∀p,A=aC p->¬S p.block):aW w1 w1.heap.size A xs:=λj u hu=>by
 obtain⟨b,o,e,hb,hc⟩:=hs j u hu;have hne:xs≠ []:=by intro e0;rw [e0] at hu;simp at hu
 exact⟨b,o,e,cR hb h.size,(h.cell _ hb (hA hne _ e)).trans hc⟩
theorem bC.setCell(h:bC S w w1) {p:ai}(hp:S p.block\/w.heap.size<=p.block)(u:aN):bC S w (w1.setCell p u):=
 h.trans (S':=λk=>k=p.block) ⟨rfl,rfl,rfl,by simp,λk _ hk=>nB _ _ _ _ hk⟩ (λk e=>by rw [e];exact hp)
theorem bC.alloc(h:bC S w w1)(o:Obj):bC S w (w1.alloc o):=h.below ((aX _ _).alloc (aZ _) o)
theorem bC.drew(h:bC S w w1):bC S w w1.drew:=h.below (aX _ _).drew
end
end
theorem aDD {M A:Nat} {l:List Int} {es:List En}(h:jO M A l es=0):(es.any (λx=>(kr M A x.spot).isNone)=aP)/\(cu es).any (yY M A l es)=aP/\(dQ 9).any (λi=>sumI (gp es i) !=0)=aP:=by
 unfold jO at h;split at h
 ·omega
 split at h
 ·omega
 rename_i h1;split at h
 ·omega
 rename_i h2;split at h
 ·omega
 rename_i h3;exact⟨by simpa using h1,by simpa using h3,by simpa using h2⟩
theorem aJ1 {M A:Nat} {es:List En}(h:es.any (λx=>(kr M A x.spot).isNone)=aP) {q:Int×Int×Int}(hq:q∈cu es):kr M A q≠aB:=by obtain⟨x,hx,e⟩:=X9 hq;have h2:=zE.1 h x hx;rw [<-e];exact λe=>h2 (by rw [e];rfl)
theorem aDC {M A:Nat} {l:List Int} {es:List En}(h:jO M A l es=0)(hl:aA l=A*(6+3*M)) {x:Ch}(hx:x∈kg M A l es):∃n:Nat,x.p=(n:Int)/\n<aA l:=by obtain⟨q,hq,rfl⟩:=dV.1 hx;obtain⟨n,hn⟩:=Option.ne_none_iff_exists'.1 (aJ1 (aDD h).1 hq);exact⟨n,by unfold jo;rw [hn];rfl,by rw [hl];exact NK hn⟩
def KL(M A:Nat)(l:List Int)(es:List En):List Int:=if nM M A l es=0 then jw M A l es else l
def a9u(bb M A:Nat)(v:aN)(l:List Int)(es:List En)(w:aJ)(e:di)(w':aJ):Prop:=
 ∃xS,e=aU (ν (nM M A l es))/\fE w' bb M A v (KL M A l es) xS/\bC (λk=>k=bb\/v.ownBlock=aC k) w w'
theorem fE.upd {w w1:aJ} {bb M A:Nat} {v:aN} {l:List Int} {po:Int} {S:Nat->Prop}(h:fE w bb M A v l po)(hu:bC S w w1)(h1:¬S bb)(h2:∀k,v.ownBlock=aC k->¬S k):fE w1 bb M A v l po:=
 ⟨(hu.keep bb h.lt h1).trans h.blk,hu.own h.own h2,h.len,h.hM,h.hA⟩
theorem fE.ne {w:aJ} {bb M A:Nat} {v:aN} {l:List Int} {po:Int}(h:fE w bb M A v l po):v.ownBlock≠aC bb:=gM h.own h.blk (by decide)
theorem fE.put {w:aJ} {bb M A g cv:Nat} {l:List Int} {po:Int}(h:fE w bb M A (aH (aC ⟨g,0,aB⟩) (aA l) cv) l po)(n:Nat)(y:Int):fE (w.setCell ⟨g,n,aB⟩ (aG aF y)) bb M A (aH (aC ⟨g,0,aB⟩) (aA l) cv) (l.set n y) po:=by
 have hne:g≠bb:=λe=>h.ne (by rw [e];rfl)
 refine⟨(nB _ _ _ _ (Ne.symm hne)).trans h.blk, ?_,by rw [yA];exact h.len,h.hM,h.hA⟩;have h2:=(h.own.stored n (ν y)).1;rw [yA,List.map_set];exact h2
theorem fE.aJ7 {w:aJ} {bb M A:Nat} {v:aN} {l:List Int} {po:Int}(h:fE w bb M A v l po)(y:Int):fE (w.setCell ⟨bb,3,aB⟩ (aG aF y)) bb M A v l y:=
 ⟨(om h.blk 3 _).trans rfl,jz h.own (λe=>h.ne e) _,h.len,h.hM,h.hA⟩
theorem fE.f3 {w:aJ} {bb M A:Nat} {v:aN} {l:List Int} {po:Int}(h:fE w bb M A v l po)(j:Nat):w.frozen? ⟨bb,j,aB⟩=aP:=by simp [iU,h.blk]
theorem a1V(M A:Nat)(v:aN)(l:List Int)(po:Int)(es:List En)(AA:Option ai)(c bb:Nat)(w:aJ)(h:fE w bb M A v l po)(hs:aW w w.heap.size AA (qT es))(hI:∀x∈es,x.ok)(vM:∀y∈l,aL y)(hl:aA es<=100000):
 aQ aM 99 #[π bb,aH AA (aA es) c] w (a9u bb M A v l es w):=by
 have Kd:=η (aCV M A v l po es AA c bb w h hs hI vM hl);have pM:=η h;have hbl:=h.lt;by_cases h0:jO M A l es=0
 ·obtain⟨E,hE⟩:=xq (nM M A l es);have wC:=η h0;have mH:aA (kg M A l es)<=100000:=by
   have h2:=RA [] es;have e:aA (kg M A l es)=aA (cu es):=by unfold kg;rw [iK]
   rw [e];exact cC h2 hl
  have HP:=η (λx hx=>aDC (M:=M) (A:=A) (l:=l) (es:=es) wC.o pM.o.len (x:=x) hx);have r8:Hid (jw M A l es=ku l (kg M A l es)):=η rfl;have vz:Hid (nM M A l es=if (kg M A l es).any rL=aO then 13 else 0):=η (by unfold nM;rw [ifN (by simpa using wC.o)]);go_enter aAk,aBX
  go_wp2_with (go_at_call 159;refine Kd.o.mono ?_;rintro e w2 ⟨hb2,h2⟩;obtain⟨vo,rfl,fN⟩:∃v,e=aU (bB #[v,ν 0])/\w2.ownsRow w.heap.size 233 4 v (aA (kg M A l es)) (BI (kg M A l es)):=(h2.elim (λh=>h.2) (λh=>absurd wC.o h.1));have aV:Hid (β w w2):=η hb2;have dB:=η fN;obtain⟨Ao,co,Mg⟩:=bJ fN;subst Mg)
  generalize kg M A l es=cs at*;have yo:Hid ((cs.take 0).any rL=aP):=η (by rw [nJ];rfl);have sF:Hid (β w2 w2):=η (aX _ _);go_loopw [8,24] (λ_ i wr=>∃k:Nat,k<=aA cs/\i=ν (k:Int)/\Hid (β w2 wr)/\Hid ((cs.take k).any rL=aP)) (λ_ i _=>aA cs-(ag i).toNat)
  ·exact⟨0,bL _,rfl,sF,yo⟩
  ·
   obtain⟨k,hk,rfl,HR,HF⟩:=hrel;by_cases hlt:k<aA cs
   ·obtain⟨be,oe,rfl,lO,e0,e1,e2,e3⟩:=a1e (((aW.cA dB.o).below HR.o).mono HR.o.size) hlt;have cG:=η (zM rL hlt);have eV:(0:Int)<=(k:Int):=by omega
    have hkb:(k:Int)<(aA cs:Int):=by omega
    have Ah:=η (λ(h:rL cs[k]=aO)=>kK.2 ⟨_,cK hlt,h⟩);generalize cs[k]=x at*;obtain⟨xp,xf,xb,xn⟩:=x;simp only at e0 e1 e2 e3;have af:Hid (β w2 (wr.alloc (aK #[ν xp,bM xf,ν xb,ν xn] 233))):=η (HR.o.alloc HR.o.size _);cases xf with
    |true=>
     have jH:Hid ((cs.take (k+1)).any rL=aP):=η (by rw [cG.o,HF.o];rfl);go_wp2
     go_roundw
     ·exact⟨k+1,by omega,by go_num,af,jH⟩
     simp [ag];omega
    |false=>
     by_cases hb:xb<0
     ·by_cases hn:xn<0
      ·have xZ:Hid (nM M A l es=13):=η (by rw [vz.o,ifP (Ah.o (by simp [rL,hb,hn]))]);go_wp2
       go_ret;refine⟨po,by rw [xZ.o];rfl, ?_,(bC.bV _ aV.o).trans (bC.bV (λ_=>False) af.o) (λ_ h=>h.elim)⟩;unfold KL;rw [ifN (by rw [xZ.o];decide)];exact(pM.o.below aV.o).below af.o
      have jH:Hid ((cs.take (k+1)).any rL=aP):=η (by rw [cG.o,HF.o];simp [rL,hn]);go_wp2
      go_roundw
      ·exact⟨k+1,by omega,by go_num,af,jH⟩
      simp [ag];omega
     have jH:Hid ((cs.take (k+1)).any rL=aP):=η (by rw [cG.o,HF.o];simp [rL,hb]);go_wp2
     go_roundw
     ·exact⟨k+1,by omega,by go_num,af,jH⟩
     simp [ag];omega
   obtain rfl:k=aA cs:=by omega
   rw [cU] at HF;have xZ:Hid (nM M A l es=0):=η (by rw [vz.o,ifN (by rw [HF.o];simp)]);obtain⟨wh,rfl⟩:∃wh:aJ,wh=wr:=⟨_,rfl⟩;have cE:Hid (β w wh):=η (aV.o.trans (HR.o.mono aV.o.size));have CM:Hid (fE wh bb M A v (ku l (cs.take 0)) po):=η (by rw [nJ];exact(pM.o.below aV.o).below HR.o);have OL:Hid (bC (λk=>k=bb\/v.ownBlock=aC k) wh wh):=η (bC.refl _ _);have HOW:=η (iI dB.o HR.o);have wN:Hid (∀k,v.ownBlock=aC k->k<w.heap.size):=η λk hk=>(pM.o.own.lt k hk).2
   go_wp2
   go_loopw [10,44] (λ_ i wr=>∃k:Nat,k<=aA cs/\i=ν (k:Int)/\Hid (fE wr bb M A v (ku l (cs.take k)) po)/\Hid (bC (λk=>k=bb\/v.ownBlock=aC k) wh wr)) (λ_ i _=>aA cs-(ag i).toNat)
   ·exact⟨0,bL _,rfl,CM,OL⟩
   ·
    obtain⟨k,hk,rfl,HK,HU⟩:=hrel;by_cases hlt:k<aA cs
    ·have lJ:=η (HU.o.own HOW.o (λj hj=>by
      have h2:=ei HOW.o j hj;rintro (h3|h3)
      ·omega
      have:=wN.o j h3;omega))
     obtain⟨be,oe,rfl,lO,e0,e1,e2,e3⟩:=a1e (aW.cA lJ.o) hlt;obtain⟨n,hxp,pA⟩:=HP.o _ (cK hlt);have lM:Hid (cs.take (k+1)=cs.take k++ [cs[k]]):=η (fF hlt);have eV:(0:Int)<=(k:Int):=by omega
     have hkb:(k:Int)<(aA cs:Int):=by omega
     generalize cs[k]=x at*;obtain⟨xp,xf,xb,xn⟩:=x;simp only at e0 e1 e2 e3 hxp;subst hxp;have L5:Hid (ku l (cs.take (k+1))=(ku l (cs.take k)).set n xn):=η (by rw [lM.o,aJB];simp);have hpl:aA (ku l (cs.take k))=aA l:=a5y _ _;have lC:Hid (fE (wr.alloc (aK #[ν (n:Int),bM xf,ν xb,ν xn] 233)) bb M A v (ku l (cs.take k)) po):=η (HK.o.below σ);have nu:Hid ((wr.alloc (aK #[ν (n:Int),bM xf,ν xb,ν xn] 233)).heap[wr.heap.size]? =aC (aK #[ν (n:Int),bM xf,ν xb,ν xn] 233 (0,0))):=η (cT wr _);have HU3:Hid (bC (λk=>k=bb\/v.ownBlock=aC k) wh (wr.alloc (aK #[ν (n:Int),bM xf,ν xb,ν xn] 233))):=η (HU.o.alloc _);have hgw:∀g,v.ownBlock=aC g->g<wr.heap.size:=λg hg=>(HK.o.own.lt g hg).2
     go_upto_region 15 with fail
     generalize wr.alloc (aK #[ν (n:Int),bM xf,ν xb,ν xn] 233)=w3 at*;generalize wr.heap.size=bx at*;generalize ku l (cs.take k)=pl at*;have hpn:0<aA pl:=by omega
     obtain⟨g,cap,Qb,hg0,jQ⟩:=lC.o.own.form hpn;subst Qb;have hnp:n<aA pl:=by omega
     have d1:w3.drew.cell? ⟨bb,2,aB⟩=aC (aH (aC ⟨g,0,aB⟩) (aA pl) cap):=lC.o.c2;have d2:=r1c nu;have d3:w3.drew.cell? ⟨bx,3,aB⟩=aC (ν xn):=ρ nu.o;have HD:Hid (fE w3.drew bb M A (aH (aC ⟨g,0,aB⟩) (aA pl) cap) pl po):=η (lC.o.below (aX _ _).drew);have Fh:Hid (bC (λk=>k=bb\/(aH (aC ⟨g,0,aB⟩) (aA pl) cap).ownBlock=aC k) wh w3.drew):=η HU3.o.drew;have lf:(0:Int)<=(n:Int):=by omega
     obtain⟨y,hy⟩:∃y,w3.drew.cell? ⟨g,n,aB⟩=aC y:=by have h2:=HD.o.own.cellAt n (by omega);exact⟨_,h2.trans (by rw [List.getElem?_map,iA hnp];rfl)⟩
     have vK:=HD.o.own.frozenAt n;refine IQ (S:=λW=>W.cell? ⟨bb,2,aB⟩=aC (aH (aC ⟨g,0,aB⟩) (aA pl) cap)/\W.cell? ⟨bx,0,aB⟩=aC (ν (n:Int))/\W.cell? ⟨bx,3,aB⟩=aC (ν xn)) 9 (by kernel_rfl) ⟨d1,d2,d3⟩ (λhHeld=> ?_);generalize w3.drew=w4 at*;refine tL 0 (π bb) rfl (by kernel_rfl) (λ_ _ _ h=>h) ⟨rfl,λ_ _=>by go_simp⟩ hHeld ?_;refine tL 1 (π bb) rfl (by kernel_rfl) (λ_ _ _ h=>h) ⟨rfl,λ_ _=>by go_simp⟩ hHeld ?_;refine tL 2 (ξ bb 2) rfl (by kernel_rfl) (λ_ _ _ h=>h) ⟨rfl,λ_ _=>by go_simp⟩ hHeld ?_;refine tL 3 (aH (aC ⟨g,0,aB⟩) (aA pl) cap) rfl (by kernel_rfl) (λ_ _ _ h=>h) ⟨rfl,λ_ _=>by go_simp⟩ hHeld ?_;refine tL 4 (π bx) rfl (by kernel_rfl) (λ_ _ _ h=>h) ⟨rfl,λ_ _=>by go_simp⟩ hHeld ?_;refine tL 5 (ν (n:Int)) rfl (by kernel_rfl) (λ_ _ _ h=>h) ⟨rfl,λ_ _=>by go_simp⟩ hHeld ?_;refine tL 6 (ξ bx 3) rfl (by kernel_rfl) (λ_ _ _ h=>h) ⟨rfl,λ_ _=>by go_simp⟩ hHeld ?_;refine tL 7 (ν xn) rfl (by kernel_rfl) (λ_ _ _ h=>h) ⟨rfl,λ_ _=>by go_simp⟩ hHeld ?_;refine tL 8 (ξ g n) rfl (by kernel_rfl) (λ_ _ _ h=>h) ⟨rfl,λ_ _=>by go_simp⟩ hHeld ?_;refine nL 9 rfl (by kernel_rfl) λK hK=> ?_
     go_simp
     have Dv:Hid (fE (w4.setCell ⟨g,n,aB⟩ (ν xn)) bb M A (aH (aC ⟨g,0,aB⟩) (aA pl) cap) (ku l (cs.take (k+1))) po):=η (by rw [L5.o];exact HD.o.put n xn);have J9:Hid (bC (λk=>k=bb\/(aH (aC ⟨g,0,aB⟩) (aA pl) cap).ownBlock=aC k) wh (w4.setCell ⟨g,n,aB⟩ (ν xn))):=η (Fh.o.setCell (p:=⟨g,n,aB⟩) (aS (aT rfl)) _);refine hK.o _ _ (λh=>absurd rfl h) (λ_=> ?_);refine IP (by kernel_rfl) ?_ _;go_wp2
     go_roundw
     ·exact⟨k+1,by omega,by go_num,Dv,J9⟩
     simp [ag];omega
    obtain rfl:k=aA cs:=by omega
    rw [cU] at HK;have c3:=HK.o.c3;have f3:=HK.o.f3 3;go_wp2
    go_ret;refine⟨fV (po+1),by rw [xZ.o];rfl, ?_,((bC.bV _ cE.o).trans HU.o (λk h=>aS h)).setCell (p:=⟨bb,3,aB⟩) (aS (aS rfl)) _⟩;unfold KL;rw [ifP xZ.o,r8.o];exact HK.o.aJ7 _
 have HE:Hid (nM M A l es=jO M A l es):=η (by unfold nM;rw [ifP h0]);have HN:=η h0;have a3m:(jO M A l es !=0)=aO:=by simpa using h0
 go_enter aAk,aBX
 go_wp2_with (go_at_call 159;refine Kd.o.mono ?_;rintro e w2 ⟨hb2,h2⟩;obtain rfl:e=aU (bB #[aH aB 0 0,ν (jO M A l es)]):=(h2.elim (λh=>absurd h.1 HN.o) (λh=>h.2));have aV:Hid (β w w2):=η hb2)
 go_ret;refine⟨po,by rw [HE.o];rfl, ?_,bC.bV _ aV.o⟩;unfold KL;rw [ifN (by rw [HE.o];exact HN.o)];exact pM.o.below aV.o
section
structure Vp where
 bb:Nat
 bv:aN
 po:Int
 tb:Nat
 tv:aN
structure iB(w:aJ)(vb:Nat)(p:Vp)(M A:Nat)(room:Int)(l:List Int)(h:List Hr):Prop where
 blk:w.heap[vb]? =aC (aK #[π p.bb,π p.tb] 141 (0,0))
 bk:fE w p.bb M A p.bv l p.po
 tb:jM w p.tb room p.tv h
def rG(vb:Nat)(p:Vp)(k:Nat):Prop:=k=vb\/k=p.bb\/p.bv.ownBlock=aC k\/k=p.tb\/p.tv.ownBlock=aC k
section
variable {w w1:aJ} {vb:Nat} {p:Vp} {M A:Nat} {room:Int} {l:List Int} {h:List Hr}
theorem iB.lt(H:iB w vb p M A room l h):vb<w.heap.size:=(fY.1 H.blk).1
theorem iB.c0(H:iB w vb p M A room l h):w.cell? ⟨vb,0,aB⟩=aC (bH (aC ⟨p.bb,0,aB⟩)):=bG _ _ _ _ _ (0,0) H.blk
theorem iB.c1(H:iB w vb p M A room l h):w.cell? ⟨vb,1,aB⟩=aC (bH (aC ⟨p.tb,0,aB⟩)):=bG _ _ _ _ _ (0,0) H.blk
theorem iB.below(H:iB w vb p M A room l h)(hb:aa w.heap.size w w1):iB w1 vb p M A room l h:=⟨(hb.block _ H.lt).trans H.blk,H.bk.below hb,H.tb.below hb⟩
theorem jM.upd {tb:Nat} {v:aN} {S:Nat->Prop}(H:jM w tb room v h)(hu:bC S w w1)(h1:¬S tb)(h2:∀k,v.ownBlock=aC k->¬S k):jM w1 tb room v h:=⟨(hu.keep tb H.lt h1).trans H.blk,hu.own H.own h2⟩
theorem iB.upd {S:Nat->Prop}(H:iB w vb p M A room l h)(hu:bC S w w1)(hS:∀k,rG vb p k->¬S k):iB w1 vb p M A room l h:=
 ⟨(hu.keep vb H.lt (hS _ (aS rfl))).trans H.blk,H.bk.upd hu (hS _ (aT (aS rfl))) (λk hk=>hS _ (aT (aT (aS hk)))),H.tb.upd hu (hS _ (aT (aT (aT (aS rfl))))) (λk hk=>hS _ (aT (aT (aT (aT hk)))))⟩
theorem iB.aC5(H:iB w vb p M A room l h):∀k,rG vb p k->k<w.heap.size:=by
 rintro k (e|e|e|e|e)
 ·rw [e];exact H.lt
 ·rw [e];exact H.bk.lt
 ·exact(H.bk.own.lt k e).2
 ·rw [e];exact H.tb.lt
 exact(H.tb.own.lt k e).2
end
theorem Jw {w:aJ} {B:Nat} {A:Option ai} {l:List Hr}(h:aW w B A (tJ l)) {k:Nat}(hk:k<aA l):
 ∃b o,A=aC ⟨b,o,aB⟩/\b<B/\w.cell? ⟨b,o+k*5,aB⟩=aC (ν l[k].i)/\w.cell? ⟨b,o+k*5+1,aB⟩=aC (ν l[k].s)/\w.cell? ⟨b,o+k*5+2,aB⟩=aC (ν l[k].m)/\w.cell? ⟨b,o+k*5+3,aB⟩=aC (ν l[k].a)/\w.cell? ⟨b,o+k*5+4,aB⟩=aC (ν l[k].n):=by
 obtain⟨b,o,e,hb,hc⟩:=h.run (i:=k*5) (y:=ν l[k].i) (t:= [ν l[k].s,ν l[k].m,ν l[k].a,ν l[k].n]) (λj u hu=>tC Hr.cells 5 (λ_=>rfl) l k hk j u hu);exact⟨b,o,e,hb,hc 0 _ rfl,hc 1 _ rfl,hc 2 _ rfl,hc 3 _ rfl,hc 4 _ rfl⟩
theorem aFt(h:List Hr)(k m a:Int):aL (iG h k m a):=by
 have key:∀(h:List Hr) (z:Int),aL z->aL (h.foldl (λn r=>if r.s==k&&r.m==m&&r.a==a then fV (n+r.n) else n) z):=by
  intro h;induction h with
  |nil=>intro z hz;exact hz
  |cons r h ih=>
   intro z hz;rw [Ca];apply ih;split
   ·unfold aL fV;omega
   exact hz
 exact key h 0 JC
theorem aKh {α:Type} {l:List α} {k:Nat}(hk:k<aA l):l.take (k+1)=l.take k++ [l[k]]:=fF hk
theorem a7l(vb:Nat)(p:Vp)(M A:Nat)(room:Int)(l:List Int)(h:List Hr)(k m a:Int)(w:aJ)(H:iB w vb p M A room l h)(hl:aA h<=100000):
 aQ aM 160 #[π vb,bO #[ν k,ν m],ν a] w λe w'=>e=aU (ν (iG h k m a))/\β w w':=by
 have aY:Hid (β w (w.alloc (aK #[ν k,ν m] 51))):=η σ;have HV:=η (H.below aY.o);have c1:=HV.o.c1;have dC:Hid ((w.alloc (aK #[ν k,ν m] 51)).heap[w.heap.size]? =aC (aK #[ν k,ν m] 51 (0,0))):=η (cT w _);have hz0:w.heap.size<(w.alloc (aK #[ν k,ν m] 51)).heap.size:=by simp
 clear H;go_enter func160,ntmps160
 go_wp2_with fail
 generalize w.alloc (aK #[ν k,ν m] 51)=w1 at*;obtain⟨bx,bQ⟩:∃bx,bx=w.heap.size:=⟨_,rfl⟩;rw [<-bQ] at dC hz0 ⊢;clear bQ;have LD:=η (a7e room p.tv h p.tb w1 HV.o.tb hl);go_wp2_with (go_at_call 125;refine LD.o.mono ?_)
 rintro e w2 ⟨v2,rfl,fN,hb2⟩;have HO:=η fN;have HB:Hid (β w w2):=τ aY hb2;have HX:Hid (w2.heap[bx]? =aC (aK #[ν k,ν m] 51 (0,0))):=η ((hb2.block bx hz0).trans dC.o);have hz2:bx<w2.heap.size:=cR hz0 hb2.size;obtain⟨Ar,cr,hv⟩:=bJ fN;subst hv;have sF:Hid (β w2 w2):=η (aX _ _);have Kn:Hid (iG (h.take 0) k m a=0):=η (by rw [nJ];rfl);clear fN hb2 LD HV c1 dC aY;go_wp2_with fail
 go_loopw [7,9,16] (λn _ i wr=>∃(j:Nat) (z:Int),j<=aA h/\i=ν (j:Int)/\n=ν z/\Hid (iG (h.take j) k m a=z)/\Hid (β w2 wr)) (λ_ _ i _=>aA h-(ag i).toNat)
 case atStart=>exact⟨0,0,bL _,rfl,rfl,Kn,sF⟩
 case round=>
  clear sF Kn;obtain⟨j,z,hj,rfl,rfl,HH,HR⟩:=hrel;by_cases hlt:j<aA h
  ·obtain⟨be,oe,rfl,lO,e0,e1,e2,e3,e4⟩:=Jw (((aW.cA HO.o).below HR.o).mono HR.o.size) hlt;have cG:Hid (iG (h.take (j+1)) k m a=if (h[j].s==k&&h[j].m==m&&h[j].a==a)=aO then fV (z+h[j].n) else z):=η (by rw [aKh hlt,aFu,HH.o]);have zk:(0:Int)<=(j:Int):=by omega
   have hjb:(j:Int)<(aA h:Int):=by omega
   generalize h[j]=r at*;obtain⟨ri,rs,rm,ra,rn⟩:=r;simp only at e0 e1 e2 e3 e4 cG;have af:Hid (β w2 (wr.alloc (aK #[ν ri,ν rs,ν rm,ν ra,ν rn] 188))):=η (HR.o.alloc HR.o.size _);have q0:wr.cell? ⟨bx,0,aB⟩=aC (ν k):=(HR.o.cell (p:=⟨bx,0,aB⟩) hz2).trans (ρ HX.o);have q1:wr.cell? ⟨bx,1,aB⟩=aC (ν m):=(HR.o.cell (p:=⟨bx,1,aB⟩) hz2).trans (ρ HX.o);have hzr:bx<wr.heap.size:=cR hz2 HR.o.size;by_cases h1:rs=k
   ·subst h1;by_cases h2:rm=m
    ·subst h2;by_cases h3:ra=a
     ·subst h3;have HN:Hid (iG (h.take (j+1)) rs rm ra=fV (z+rn)):=η (by rw [cG.o];simp);go_wp2_with fail
      go_roundw
      case rel=>exact⟨j+1,_,by omega,by go_num,rfl,HN,af⟩
      case measure=>simp [ag];omega
     have HN:Hid (iG (h.take (j+1)) rs rm a=z):=η (by rw [cG.o];simp [h3]);have Gq:(ra==a)=aP:=by simpa using h3
     go_wp2_with fail
     go_roundw
     case rel=>exact⟨j+1,_,by omega,by go_num,rfl,HN,af⟩
     case measure=>simp [ag];omega
    have HN:Hid (iG (h.take (j+1)) rs m a=z):=η (by rw [cG.o];simp [h2]);have uM:(rm==m)=aP:=by simpa using h2
    go_wp2_with fail
    go_roundw
    case rel=>exact⟨j+1,_,by omega,by go_num,rfl,HN,af⟩
    case measure=>simp [ag];omega
   have HN:Hid (iG (h.take (j+1)) k m a=z):=η (by rw [cG.o];simp [h1]);have uL:(rs==k)=aP:=by simpa using h1
   go_wp2_with fail
   go_roundw
   case rel=>exact⟨j+1,_,by omega,by go_num,rfl,HN,af⟩
   case measure=>simp [ag];omega
  obtain rfl:j=aA h:=by omega
  rw [cU] at HH;go_wp2_with fail
  go_ret;exact⟨by rw [HH.o];rfl,HB.o.trans (HR.o.mono HB.o.size)⟩
theorem Y6(vb:Nat)(p:Vp)(M A:Nat)(room:Int)(l:List Int)(h:List Hr)(k m a:Int)(w:aJ)(H:iB w vb p M A room l h)(hk:aL k)(hm:aL m):
 aQ aM 41 #[π vb,bO #[ν k,ν m],ν a] w λe w'=>e=aU (bB #[ν (balA M A l k m a),ν (nZ (plcA M A k m a))])/\β w w':=by
 have aY:Hid (β w (w.alloc (aK #[ν k,ν m] 51))):=η σ;have HV:=η (H.below aY.o);have c0:=HV.o.c0;have WY:=HV.o.lt;have xW:=η (λW (hW:aa (w.alloc (aK #[ν k,ν m] 51)).heap.size (w.alloc (aK #[ν k,ν m] 51)) W)=>UZ M A p.bv l p.po k m a p.bb W (HV.o.bk.below hW) hk hm);have x0:(w.alloc (aK #[ν k,ν m] 51)).cell? ⟨w.heap.size,0,aB⟩=aC (ν k):=cM w _ _ 0 rfl;have x1:(w.alloc (aK #[ν k,ν m] 51)).cell? ⟨w.heap.size,1,aB⟩=aC (ν m):=cM w _ _ 1 rfl;have hz0:w.heap.size<(w.alloc (aK #[ν k,ν m] 51)).heap.size:=by simp
 generalize balA M A l k m a=R at*;generalize nZ (plcA M A k m a)=E at*;go_enter func41,ntmps41
 go_upto_region 3 with fail
 generalize w.alloc (aK #[ν k,ν m] 51)=w1 at*;obtain⟨bx,bQ⟩:∃bx,bx=w.heap.size:=⟨_,rfl⟩;rw [<-bQ] at x0 x1 hz0 ⊢;clear bQ;have yM:=λ(n:sA w1.heap.size w1) (b o:Nat) (hb:b<w1.heap.size)=>n.cells b o hb
 refine S9 w1.heap.size (by kernel_rfl) (by kernel_rfl) ?_;repeat (go_big_quiet_step ((go_at_call 92;exact Calls.Lk (aZ _) (xW.o _ (sA.h _)))))
 refine wpQuiet_nil ?_;intro _ hw';obtain⟨nq,hw''⟩:=hw';subst hw'';have HN:=η (aY.o.trans (nq.h.mono aY.o.size));clear yM;go_wp2_with fail
 go_ret2;exact⟨rfl,HN.o⟩
theorem a7m(vb:Nat)(p:Vp)(M A:Nat)(room:Int)(l:List Int)(h:List Hr)(k m a:Int)(w:aJ)(H:iB w vb p M A room l h)(hk:aL k)(hm:aL m)(vM:∀y∈l,aL y)(hl:aA h<=100000):
 aQ aM 111 #[π vb,bO #[ν k,ν m],ν a] w λe w'=>e=aU (bB #[ν (if plcA M A k m a=aB then 0 else gP (balA M A l k m a-iG h k m a)),ν (if plcA M A k m a=aB then 8 else dL (balA M A l k m a-iG h k m a))])/\β w w':=by
 have aY:Hid (β w (w.alloc (aK #[ν k,ν m] 51))):=η σ;have HV:=η (H.below aY.o);have jF:=η (Y6 vb p M A room l h k m a (w.alloc (aK #[ν k,ν m] 51)) HV.o hk hm);have Ko:=η (λW (hW:aa (w.alloc (aK #[ν k,ν m] 51)).heap.size (w.alloc (aK #[ν k,ν m] 51)) W)=>a7l vb p M A room l h k m a W (HV.o.below hW) hl);have x0:(w.alloc (aK #[ν k,ν m] 51)).cell? ⟨w.heap.size,0,aB⟩=aC (ν k):=cM w _ _ 0 rfl;have x1:(w.alloc (aK #[ν k,ν m] 51)).cell? ⟨w.heap.size,1,aB⟩=aC (ν m):=cM w _ _ 1 rfl;have hz0:w.heap.size<(w.alloc (aK #[ν k,ν m] 51)).heap.size:=by simp
 have yj:Hid (aL (balA M A l k m a)):=η (by
  unfold balA;split
  ·rename_i n _;rw [sQ];cases hg:l[n]? with
   |none=>exact JC
   |some y=>exact vM _ (zG hg)
  exact JC)
 have oN:=η (aFt h k m a);by_cases hp:plcA M A k m a=aB
 ·rw [ifP hp,ifP hp];rw [hp] at jF;generalize balA M A l k m a=R at*;unfold nZ at jF;simp only at jF;go_enter aA1,aAo
  go_wp2_with (go_at_call 41;refine jF.o.mono ?_;rintro e w2 ⟨rfl,hb2⟩;have aV:Hid (β w w2):=τ aY hb2)
  go_ret2;exact⟨rfl,aV.o⟩
 rw [ifN hp,ifN hp];obtain⟨n,hn⟩:=Option.ne_none_iff_exists'.1 hp;rw [hn] at jF;have kV:=η (λW=>Rh (balA M A l k m a) (iG h k m a) W yj.o oN.o);generalize balA M A l k m a=R at*;generalize iG h k m a=Z at*;unfold nZ at jF;simp only at jF;go_enter aA1,aAo
 go_wp2_with (first|(go_at_call 41;refine jF.o.mono ?_;rintro e w2 ⟨rfl,hb2⟩;have aV:Hid (β w w2):=τ aY hb2;have qF:=η hb2;have y0:=(ez hb2).1 w.heap.size 0 hz0;have y1:=(ez hb2).1 w.heap.size 1 hz0;rw [x0] at y0;rw [x1] at y1)|(go_at_call 160;refine(Ko.o _ qF.o).mono ?_;rintro e w3 ⟨rfl,hb3⟩;have af:Hid (β w w3):=τ aV hb3)|(go_at_call 148;refine(kV.o _).mono ?_;rintro e w4 ⟨rfl,rfl⟩))
 go_ret2;exact⟨rfl,af.o⟩
end
end Go.Proofs.YtdokipdchlcmeaaGreat
