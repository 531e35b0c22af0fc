/-
  Several texts in one, for one claim (printed by pack.py).
-/
import Derived.Test.YtdokipdchlcmeaaGreatPg3
import Derived.Laws.EntriesVeiled
import Derived.Shelf.Spec.SlicesGrow
import Derived.Laws.AppendOwnNone
import Derived.LoopN
import Derived.Lib.SlKeysI
set_option linter.all false
set_option maxRecDepth 100000
set_option maxHeartbeats 12800000
open Array renaming getElem?_eq_some_iff→fW
open Bool renaming true→aO,false→aP,and_eq_true→jb,false_eq_true→Yj
open Go renaming World→aJ,Value→aN,Calls→aQ,Addr→aj,cell_of_row→bH,maxLen→bM,TypeId→bY,heap_alloc_new→cO,info_parts→dL,Ending→dU,rounds_succ→eC,wpList_append_own→j9,callsIn_wide→sj,wp_loop_rounds→ug,grownCap→xM,step_append_lies→AW
open Go.Builtin renaming zeroCells→E5
open Go.Ending renaming returned→aT
open Go.Fence renaming wide→Kn
open Go.Instr renaming mapUpdate→EP,mapEntry→GI,makeSlice→Ou
open Go.IntKind renaming i64→aF,wrap_i64→fZ,wrap_u64→ux
open Go.IntWalk renaming i64_in→sR
open Go.MapKept renaming run_getObj_map→BH,run_setObj_map→GM
open Go.Maps renaming keyOf_int_mk→a8n
open Go.Obj renaming cells→aK
open Go.Proofs renaming intOf→ag
open Go.Proofs.Lays8 renaming n4→Ys
open Go.Proofs.Tryz renaming prog→aM,underlying53→mP,underlying39→sZ,underlying3→xA,underlying46→yO,underlying4→BI,isAgg3→Cs,isAgg4→Ct,sizeOf3→Cu,sizeOf4→Cv,zeroValue3→Cw,zeroValue4→Cx,isAgg0→Gc,sizeOf0→Ge,underlying0→Gf,zeroValue0→Gi,func86→Ln,isAgg46→Lp,ntmps86→Lq,sizeOf46→Lr,zeroValue46→Ls,isAgg9→PE,sizeOf9→PG,underlying9→PJ,zeroValue9→PK,func199→UO,ntmps199→UY,func117→a0W,func131→a0Y,func197→a0d,func229→a0f,isAgg20→a0m,ntmps117→a0q,ntmps131→a0s,ntmps197→a0x,ntmps229→a0z,results117→a1H,sizeOf20→a1J,underlying20→a1O,zeroValue20→a1R,func111→aAX,func129→aAc,func159→aAi,func188→aAn,func200→aAq,func204→aAr,func259→aAu,func260→aAv,func99→aBG,ntmps111→aBK,ntmps129→aBP,ntmps159→aBV,ntmps188→aBa,ntmps200→aBd,ntmps204→aBe,ntmps259→aBh,ntmps260→aBi,ntmps99→aC3
open Go.Region renaming wanted→Jf
open Go.Result renaming andThen→uH
open Go.RowKit renaming Below→aa,wrap64→fS
open Go.RowKit.Below renaming refl→aX,heap_setCell→nK,alloc→rC,setCell→E2
open Go.Shelf renaming Ren→yw
open Go.Value renaming int→aG,slice→aH,tuple→bB,pointer→bF,bool→bJ,agg→bU,ownBlock→dy
open Go.WideElems renaming rg→PL,rd→aCH,Fit→aMH
open Go.WideShapes renaming sorted_perm→aMI
open Go.World renaming ownsRow_nil→gC,cell?_of_block→gh,frozen?→iJ,ownsRow→jw,size_alloc→Cz
open Int renaming le_refl→dJ
open List renaming length→aA,getElem_mem→cK,length_append→cN,take_length→cT,range→dQ,mem_map→dW,map_append→df,mem_cons_of_mem→dh,mem_cons→fC,take_succ_eq_append_getElem→fE,mem_append→gJ,replicate→gP,getElem?_eq_getElem→iD,length_map→iR,mem_filter→jD,any_eq_true→jv,zipWith→kN,pairwise_cons→kX,eq_nil_of_length_eq_zero→nO,mem_range→nP,take_zero→nQ,mem_cons_self→pD,length_filter_le→qd,getD_eq_getElem?_getD→sV,mem_iff_getElem→sW,length_cons→uF,length_singleton→uG,length_take→uz,mem_append_left→vA,pairwise_iff_getElem→vB,flatMap_cons→wZ,getElem_map→wk,length_set→yL,any_eq_false→zO,mem_of_getElem?→zQ,pairwise_map→BG,foldl_cons→Ck,length_nil→ES,length_zipWith→ET,zipWith_cons_cons→EW,mem_append_right→GK,nil_append→GL,map_congr_left→Jb,map_map→Ld,getElem_replicate→UC,mergeSort_perm→a0H,mem_map_of_mem→aA0
open Nat renaming le_refl→aZ,zero_le→bL,le_trans→bz,lt_of_lt_of_le→cP,mul_le_mul→yN,add_mul→GR,add_zero→GU
open Option renaming none→aB,some→aC
open Option.some renaming inj→pE
open Or renaming inl→aS,inr→aU
namespace Go.Proofs.YtdokipdchlcmeaaGreat
open Go.Proofs.Tryz Go.RowKit
section
open Go.Maps Go.MapKept Go.ChangeMaps
theorem aKa:(aM.info? 53).map (λi=>(i.zero,i.size,i.bytes))=aC (aC (aH aB 0 0),1,24):=by kernel_rfl
theorem aKk:(aM.info? 289).map (λi=>(i.zero,i.size,i.bytes))=aC (aC (bU #[aG aF 0,aG aF 0,aG aF 0]),3,24):=by kernel_rfl
theorem aHk(W:aJ):(Ou 235 (aG aF 9) (aG aF 9)).run aM W= .ok (aH (aC ⟨W.heap.size,0,aB⟩) 9 9) (W.alloc (aK #[aH aB 0 0,aH aB 0 0,aH aB 0 0,aH aB 0 0,aH aB 0 0,aH aB 0 0,aH aB 0 0,aH aB 0 0,aH aB 0 0] 53)):=by
 obtain⟨i0,hi,hz0,hz1,hz2⟩:=dL aKa;have h:=run_makeSlice (P:=aM) W 235 53 i0 _ underlying235 hi hz0 aF aF 9 9 (by omega) (dJ _) (by rw [hz1];simp) (by rw [hz2];simp) (by omega);rw [hz1] at h;have hm:madeCells (aH aB 0 0).cells (Int.toNat 9*1)= #[aH aB 0 0,aH aB 0 0,aH aB 0 0,aH aB 0 0,aH aB 0 0,aH aB 0 0,aH aB 0 0,aH aB 0 0,aH aB 0 0]:=by kernel_rfl
 rw [hm] at h;exact h
def Yv(w:aJ)(l:List En)(e:dU)(W':aJ):Prop:=
 ∃base b ab cf ov,e=aT (bB #[.map (aC b),aH (aC ⟨ab,0,aB⟩) 9 9,ov])/\lD w base b ab cf ov (gthF l) (dB l) W'
theorem Hj {w W:aJ}(h:aa w.heap.size w W)(r:Option Nat):w.grownBy W r:=⟨h.os,h.tape,h.output,h.size,λk hk _=>h.block k hk⟩
theorem El {w W W':aJ} {r r':Option Nat}(h:w.grownBy W r)(h':W.grownBy W' r')(hr:r'=r\/∀g,r'=aC g->w.heap.size<=g):w.grownBy W' r:=by
 refine⟨h'.os.trans h.os,h'.tape.trans h.tape,h'.output.trans h.output,bz h.size h'.size,λk hk hne=> ?_⟩;rw [h'.block k (cP hk h.size) ?_,h.block k hk hne];rcases hr with rfl|hr
 ·exact hne
 intro e;have:=hr k e.symm;omega
theorem Q6 {w W:aJ} {r:Option Nat}(h:w.grownBy W r)(o:Obj):w.grownBy (W.alloc o) r:=El h (Hj ((aX _ _).alloc (aZ _) o) r) (.inl rfl)
theorem aFl(l:List En)(A:Option aj)(c:Nat)(w:aJ)(hs:aW w w.heap.size A (qm l))(hI:∀x∈l,x.ok)(ha:∀x∈l,0<=x.a/\x.a<=8)(hl:aA l<=1024):
 aQ aM 206 #[aH A (aA l) c] w (Yv w l):=by
 have HS:=η hs;have HI:=η hI;have HA:=η ha;clear hs hI ha;have mR:= @run_makeMap aM;have Da:=aHk (w.alloc (.map #[] 0));have HST:Hid (lD w (w.heap.size+2) w.heap.size (w.heap.size+1) (λ_=>aH aB 0 0) (aH aB 0 0) (gthF (l.take 0)) (dB (l.take 0)) ((w.alloc (.map #[] 0)).alloc (aK #[aH aB 0 0,aH aB 0 0,aH aB 0 0,aH aB 0 0,aH aB 0 0,aH aB 0 0,aH aB 0 0,aH aB 0 0,aH aB 0 0] 53))):=η (by
  refine⟨⟨[],(eX.made _ _ _ _).alloc _,λq=>rfl,λp hp=>by cases hp⟩,⟨#[],0,(fF _ _ (by simp)).trans (cO w _),stamped_empty 0⟩, ?_, ?_,gC _ _ _ _,⟨by omega,by omega,by omega,by omega,by omega,by simp⟩,σ.alloc (by simp) _⟩
  ·have:=cO (w.alloc (.map #[] 0)) (aK #[aH aB 0 0,aH aB 0 0,aH aB 0 0,aH aB 0 0,aH aB 0 0,aH aB 0 0,aH aB 0 0,aH aB 0 0,aH aB 0 0] 53);rw [Cz] at this;exact this
  rw [nQ,aG0];exact td.made _ _)
 go_enter func206,ntmps206
 go_wp2_with fail
 rw [Cz] at*;generalize (w.alloc (.map #[] 0)).alloc (aK #[aH aB 0 0,aH aB 0 0,aH aB 0 0,aH aB 0 0,aH aB 0 0,aH aB 0 0,aH aB 0 0,aH aB 0 0,aH aB 0 0] 53)=w1 at*;go_loopw [7,9,10,15] (λov _ _ i wr=>∃(k:Nat) (cf:Ix->aN),k<=aA l/\i=ν (k:Int)/\Hid (lD w (w.heap.size+2) w.heap.size (w.heap.size+1) cf ov (gthF (l.take k)) (dB (l.take k)) wr)) (λ_ _ _ i _=>aA l-(ag i).toNat)
 case atStart=>exact⟨0,_,bL _,rfl,HST⟩
 case round=>
  clear HST Da;obtain⟨k,cf,hk,rfl,HG⟩:=hrel;obtain⟨Ao,co,Mt⟩:=bK HG.o.ord;subst Mt;by_cases hlt:k<aA l
  ·obtain⟨be,oe,rfl,kh,e0,e1,e2,e3⟩:=VM ((HS.o.below HG.o.b).mono HG.o.b.size) hlt;have dR:=HI.o _ (cK hlt);have pK:=HA.o _ (cK hlt);have lO:Hid (l.take (k+1)=l.take k++ [l[k]]):=η (fE hlt);have eF:aA (l.take k)<=1024:=by rw [uz];omega
   have eY:(0:Int)<=(k:Int):=by omega
   have hkb:(k:Int)<(aA l:Int):=by omega
   generalize l[k]=x at*;generalize l.take k=pre at*;obtain⟨xk,xm,xa,xn⟩:=x;simp only at e0 e1 e2 e3 pK;obtain⟨a,rfl⟩:∃a:Nat,xa=(a:Int):=⟨xa.toNat,by omega⟩;have Er:a<9:=by omega
   have aMR:(a:Int)<9:=by omega
   have ha0:(0:Int)<=(a:Int):=by omega
   have HQ:Hid (Fl (xk,xm,(a:Int))):=η ⟨dR.k,dR.m,dR.a⟩;clear pK dR;have aR:Hid (β wr ((wr.alloc (aK #[ν xk,ν xm,ν (a:Int),ν xn] 103)).alloc (aK #[ν xk,ν xm,ν (a:Int)] 289))):=η (σ.alloc (by simp) _);have cZ:Hid (((wr.alloc (aK #[ν xk,ν xm,ν (a:Int),ν xn] 103)).alloc (aK #[ν xk,ν xm,ν (a:Int)] 289)).heap[wr.heap.size]? =aC (aK #[ν xk,ν xm,ν (a:Int),ν xn] 103 (0,0))):=η ((fF _ _ (by simp)).trans (cO wr _));have wY:Hid (((wr.alloc (aK #[ν xk,ν xm,ν (a:Int),ν xn] 103)).alloc (aK #[ν xk,ν xm,ν (a:Int)] 289)).heap[wr.heap.size+1]? =aC (aK #[ν xk,ν xm,ν (a:Int)] 289 (0,0))):=η (by have:=cO (wr.alloc (aK #[ν xk,ν xm,ν (a:Int),ν xn] 103)) (aK #[ν xk,ν xm,ν (a:Int)] 289);rw [Cz] at this;exact this);have hz1:wr.heap.size+1<((wr.alloc (aK #[ν xk,ν xm,ν (a:Int),ν xn] 103)).alloc (aK #[ν xk,ν xm,ν (a:Int)] 289)).heap.size:=by simp
   have lH:=η (HG.o.below aR.o);have hbl:w.heap.size+2<=wr.heap.size:=HG.o.low.2.2.2.2.2;have EF:Hid (∀i g,(cf i).ownBlock=aC g->g<wr.heap.size):=η λi g e=>((HG.o.tF.rows i).lt g e).2
   have lJ:Hid (∀g,(aH Ao (aA (dB pre)) co).ownBlock=aC g->g<wr.heap.size):=η λg e=>(HG.o.ord.lt g e).2
   go_upto_region 8 with fail
   generalize (wr.alloc (aK #[ν xk,ν xm,ν (a:Int),ν xn] 103)).alloc (aK #[ν xk,ν xm,ν (a:Int)] 289)=w2 at*;clear HG aR;clear e0 e1 e2 e3;generalize wr.heap.size=bx at*;obtain⟨c0,c1,c2,c3⟩:=Rk cZ;obtain⟨s0,s1,s2⟩:=Nd wY;obtain⟨Aq,cq,vT⟩:=bK (lH.o.tF.rows (.inl (xk,xm,(a:Int))));have hlk:(Instr.lookup 284 (.map (aC w.heap.size)) (bU #[ν xk,ν xm,ν (a:Int)]) aP).run aM w2= .ok (aH Aq (aA (gu pre (xk,xm,(a:Int)))) cq) w2:=by rw [<-show cf (.inl (xk,xm,(a:Int)))=aH Aq (aA (gu pre (xk,xm,(a:Int)))) cq from vT];exact lH.o.look HQ.o
   have Fv:Hid (dB (pre++ [⟨xk,xm,(a:Int),xn⟩])=dB pre++(if (gu pre (xk,xm,(a:Int))).isEmpty then [(xk,xm,(a:Int))] else [])):=η (RZ pre _);have pM:=a1y pre (xk,xm,(a:Int));have km:aA (dB pre)<=1024:=bz (RY [] pre) eF;have Aj:=η vT;clear vT;have key:∃n:Nat,n=aA (gu pre (xk,xm,(a:Int))):=⟨_,rfl⟩;obtain⟨n,hn⟩:=key;rw [<-hn] at hlk pM;have HN:=η hn;clear hn;obtain⟨ip,hip,aGv,aGw,aGx⟩:=dL aKk;obtain⟨i0,bu,hz0',fj,xV⟩:=dL NB;by_cases ly:n=0
   ·have mA:(((n:Nat):Int)==0)=aO:=by simp [ly]
    have od:=η ly;clear ly;have HE:Hid (dB (pre++ [⟨xk,xm,(a:Int),xn⟩])=dB pre++ [(xk,xm,(a:Int))]):=η (by rw [Fv.o,ifP];have h1:=HN.o;rw [od.o] at h1;simpa using List.length_eq_zero_iff.1 h1.symm);have zG:=η (lH.o.ord.alloc (aK #[ν xk,ν xm,ν (a:Int)] 289));go_wp2_with (at_builtin;refine wpList_append_lies _ rfl _ _ 285 rfl (w.heap.size+2) 289 ip _ 3 24 underlying285 hip aGv aGw aGx rfl (by omega) _ _ (Ik (dB pre)) rfl zG.o ⟨w2.heap.size,0,aB⟩ 1 1 (Nk (xk,xm,(a:Int))) rfl rfl (dN _ _ #[_,_,_] rfl) (by intro u hu;simp [Nk] at hu;rcases hu with rfl|rfl|rfl<;>rfl) (by omega) (by simp only [bM];omega) (by omega) (by have:=lH.o.low.2.2.2.2.2;simp;omega) (w2.heap.size+1) (by simp) ?_)
    intro g3 sq w3 mS gL _ _;have hne:∀k,(aH Ao (aA (dB pre)) co).ownBlock=aC k->k<bx:=lJ.o;have tq:Hid (lD w (w.heap.size+2) w.heap.size (w.heap.size+1) cf (aH (aC ⟨g3,0,aB⟩) (aA (dB pre)+1) sq) (gthF pre) (dB (pre++ [⟨xk,xm,(a:Int),xn⟩])) w3):=η (by refine(lH.o.below σ).aIs gL ?_;rw [HE.o,aKi,cN];exact mS);have o8:Hid (w3.heap[bx]? =aC (aK #[ν xk,ν xm,ν (a:Int),ν xn] 103 (0,0))):=η ((gL.block bx (by simp;omega) (λe=>by have:=hne _ e.symm;omega)).trans ((fF _ _ (by omega)).trans cZ.o));have BD:Hid (w3.heap[bx+1]? =aC (aK #[ν xk,ν xm,ν (a:Int)] 289 (0,0))):=η ((gL.block (bx+1) (by simp;omega) (λe=>by have:=hne _ e.symm;omega)).trans ((fF _ _ (by omega)).trans wY.o));have hz3:bx+1<w3.heap.size:=by have:=gL.size;simp at this;omega
    clear mS gL hne HE zG lH cZ wY s0 s1 s2 hlk hz1 lJ Fv;go_upto_region 10 with fail
    generalize (aH (aC ⟨g3,0,aB⟩) (aA (dB pre)+1) sq)=NU at*;obtain⟨c0,c1,c2,c3⟩:=Rk o8;obtain⟨s0,s1,s2⟩:=Nd BD;obtain⟨st,w5,uU,ej,hs5,iU,DO⟩:=(tq.o.below ((aX _ _).alloc (aZ _) (aK #[ν xn] 2))).entry HQ.o;have Ae:Hid (w5.cell? ⟨w3.heap.size,0,aB⟩=aC (ν xn)):=η (by have e1:=ej.cell_far ⟨w3.heap.size,0,aB⟩ (by simp) (by have:=tq.o.low;simp;omega);rw [e1];exact cL w3 _ _ 0 rfl);have X3:w3.heap.size+1=w5.heap.size:=by rw [hs5];simp
    have I6:w.heap.size+2<=w5.heap.size:=by have:=tq.o.low.2.2.2.2.2;omega
    rw [Aj.o] at uU iU;have kA:aA (gthF pre (.inl (xk,xm,(a:Int))))=n:=HN.o.symm;rw [kA] at uU iU;have xy:Hid (cf (.inl (xk,xm,(a:Int)))=aH Aq n cq):=η (by rw [Aj.o,kA]);have Mw:(GI 284 (.map (aC w.heap.size)) (bU #[ν xk,ν xm,ν (a:Int)])).run aM (w3.alloc (aK #[ν xn] 2))= .ok (bB #[aH Aq n cq,goInt st]) w5:=uU;have E9:=η DO;have fL:=η iU;clear uU DO iU ej X3 hs5 kA;generalize goInt st=gs at*;go_wp2_with (at_builtin;refine wpList_append_own_at _ rfl _ _ 53 rfl (w.heap.size+2) 2 i0 _ 1 8 mP bu hz0' fj xV rfl (by decide) _ n ((gthF pre (.inl (xk,xm,(a:Int)))).map (aG aF)) rfl fL.o ⟨w3.heap.size,0,aB⟩ 1 1 [ν xn] rfl rfl (by intro j u hu;cases j with|zero=>simp at hu;subst hu;exact Ae.o|succ j=>simp at hu) xh (by simp only [bM];omega) (by omega) I6 ?_)
    intro v6 w6 FA Ez _ F5;obtain⟨w7,Db,Em,F3,AE⟩:=E9.o w6 v6 (gu pre (xk,xm,(a:Int))++ [xn]) (by rw [xy.o];exact Ez) (by have h1:=FA;rw [cN,<-HN.o,df];exact h1) (by rw [xy.o];exact F5);have Cg:Hid (w7.heap[bx]? =aC (aK #[ν xk,ν xm,ν (a:Int),ν xn] 103 (0,0))):=η ((F3 bx (by simp;omega) (by omega) (λe=>by have:=EF.o _ _ e.symm;omega)).trans ((fF _ _ (by omega)).trans o8.o))
    have IP:bx+1<w7.heap.size:=by have:w3.heap.size+1<=w7.heap.size:=by simpa using AE
                                  omega
    clear F3 AE FA Ez F5 E9 fL Ae I6 xy tq o8 BD Mw HN Aj hz3;go_upto_region 11 with fail
    clear Db s0 s1 s2;have jC:=η Em;clear Em;have JC:Hid (iC (iC (gthF pre) (.inl (xk,xm,(a:Int))) (gu pre (xk,xm,(a:Int))++ [xn])) (.inr a) (gq pre a++ [xn])=gthF (l.take (k+1))):=η (by rw [lO.o];exact a3j pre ⟨xk,xm,(a:Int),xn⟩ a Er rfl);have tu:Hid (iC (gthF pre) (.inl (xk,xm,(a:Int))) (gu pre (xk,xm,(a:Int))++ [xn]) (.inr a)=gq pre a):=η (by rw [AZ _ _ (by simp)];simp [gthF,Er]);have rX:=Uv pre a;rw [<-lO.o] at jC;generalize iC cf (.inl (xk,xm,(a:Int))) v6=zb at*;generalize iC (gthF pre) (.inl (xk,xm,(a:Int))) (gu pre (xk,xm,(a:Int))++ [xn])=g7 at*;have hrow:=jC.o.tF.rows (.inr a);rw [tu.o] at hrow;generalize gq pre a=ys at*;obtain⟨Ar,cr,nX⟩:=bK hrow;have hab:w7.cell? ⟨w.heap.size+1,a,aB⟩=aC (aH Ar (aA ys) cr):=by rw [bH _ _ a _ _ (0,0) jC.o.blk,Uw zb Er,nX]
    have d1:w7.drew.cell? ⟨bx,2,aB⟩=aC (ν (a:Int)):=ρ Cg.o;have d2:w7.drew.cell? ⟨bx,3,aB⟩=aC (ν xn):=ρ Cg.o;have d3:w7.drew.cell? ⟨w.heap.size+1,a,aB⟩=aC (aH Ar (aA ys) cr):=hab;have d4:w7.drew.frozen? ⟨w.heap.size+1,a,aB⟩=aP:=by show w7.frozen? _=aP;simp [iJ,jC.o.blk]
    have oh:Hid (w7.drew.ownsRow (w.heap.size+2) 2 1 (aH Ar (aA ys) cr) (aA ys) (ys.map (aG aF))):=η (by rw [nX] at hrow;exact hrow);obtain⟨r,hr⟩:∃r,r=(zb (.inr a)).ownBlock:=⟨_,rfl⟩;have hr2:(aH Ar (aA ys) cr).ownBlock=r:=by rw [hr,nX]
    have JP:Hid (∀g,r=aC g->w.heap.size+2<=g/\g<w7.heap.size):=η λg e=>hrow.lt g (hr▸e)
    have dH:Hid (aC bx≠r):=η (λe=>by have h1:=jC.o.tF.rows (.inr a);rcases Bp h1 jC.o.ord (by decide) with _|_<;>exact(gM h1 Cg.o (by decide)) (hr▸e.symm));have MX:w.heap.size+1<w7.heap.size:=by have:=jC.o.low;omega
    have WR:w.heap.size+2<=w7.drew.heap.size:=jC.o.low.2.2.2.2.2;have B7:Hid (aC (w.heap.size+1)≠r):=η (λe=>by have:=(JP.o _ e.symm).1;omega);have HR:=η hr;have px:=η hr2;have T8:Hid (lD w (w.heap.size+2) w.heap.size (w.heap.size+1) zb NU g7 (dB (l.take (k+1))) w7.drew):=η (jC.o.below (aX _ _).drew);have Md:bx<w7.drew.heap.size:=by have:w7.drew.heap.size=w7.heap.size:=rfl;omega
    have MZ:w.heap.size+1<w7.drew.heap.size:=MX;clear hrow nX hr hr2 hab jC MX IP;refine Ir (S:=λW=>W.cell? ⟨bx,2,aB⟩=aC (ν (a:Int))/\W.cell? ⟨bx,3,aB⟩=aC (ν xn)/\W.cell? ⟨w.heap.size+1,a,aB⟩=aC (aH Ar (aA ys) cr)) 13 (by kernel_rfl) ⟨d1,d2,d3⟩ (λhHeld=> ?_);have bO:Hid (∀W,w7.drew.grownBy W r->W.cell? ⟨bx,2,aB⟩=aC (ν (a:Int))/\W.cell? ⟨bx,3,aB⟩=aC (ν xn)/\W.cell? ⟨w.heap.size+1,a,aB⟩=aC (aH Ar (aA ys) cr)):=η λW hg=>⟨(hg.cell_far ⟨bx,2,aB⟩ Md dH.o).trans d1,(hg.cell_far ⟨bx,3,aB⟩ Md dH.o).trans d2,(hg.cell_far ⟨w.heap.size+1,a,aB⟩ MZ B7.o).trans d3⟩
    have JR:Hid (∀W,w7.drew.grownBy W r->W.frozen? ⟨w.heap.size+1,a,aB⟩=aP):=η λW hg=>(hg.frozen_far ⟨w.heap.size+1,a,aB⟩ MZ B7.o).trans d4
    clear d1 d2 d3 d4;generalize w7.drew=w8 at*;have Au:Hid (w8.grownBy w8 r):=η (Hj (aX _ _) r);refine eE (i:=0) (v:=aH (aC ⟨w.heap.size+1,0,aB⟩) 9 9) rfl (by kernel_rfl) (by kernel_rfl) (by kernel_rfl) (by kernel_rfl) (by kernel_rfl) (λ_ _ _ h=>h) (aS ⟨by rfl,λw' hSw=>by obtain⟨s1,s2,s3⟩:=hSw;go_simp⟩) hHeld ?_;refine eE (i:=1) (v:=bF (aC ⟨bx,2,aB⟩)) rfl (by kernel_rfl) (by kernel_rfl) (by kernel_rfl) (by kernel_rfl) (by kernel_rfl) (λ_ _ _ h=>h) (aS ⟨by rfl,λw' hSw=>by obtain⟨s1,s2,s3⟩:=hSw;go_simp⟩) hHeld ?_;refine eE (i:=2) (v:=ν (a:Int)) rfl (by kernel_rfl) (by kernel_rfl) (by kernel_rfl) (by kernel_rfl) (by kernel_rfl) (λ_ _ _ h=>h) (aS ⟨by rfl,λw' hSw=>by obtain⟨s1,s2,s3⟩:=hSw;go_simp⟩) hHeld ?_;refine eE (i:=3) (v:=aH (aC ⟨w.heap.size+1,0,aB⟩) 9 9) rfl (by kernel_rfl) (by kernel_rfl) (by kernel_rfl) (by kernel_rfl) (by kernel_rfl) (λ_ _ _ h=>h) (aS ⟨by rfl,λw' hSw=>by obtain⟨s1,s2,s3⟩:=hSw;go_simp⟩) hHeld ?_;refine eE (i:=4) (v:=bF (aC ⟨bx,2,aB⟩)) rfl (by kernel_rfl) (by kernel_rfl) (by kernel_rfl) (by kernel_rfl) (by kernel_rfl) (λ_ _ _ h=>h) (aS ⟨by rfl,λw' hSw=>by obtain⟨s1,s2,s3⟩:=hSw;go_simp⟩) hHeld ?_;refine eE (i:=5) (v:=ν (a:Int)) rfl (by kernel_rfl) (by kernel_rfl) (by kernel_rfl) (by kernel_rfl) (by kernel_rfl) (λ_ _ _ h=>h) (aS ⟨by rfl,λw' hSw=>by obtain⟨s1,s2,s3⟩:=hSw;go_simp⟩) hHeld ?_;refine eE (i:=6) (v:=bF (aC ⟨w.heap.size+1,a,aB⟩)) rfl (by kernel_rfl) (by kernel_rfl) (by kernel_rfl) (by kernel_rfl) (by kernel_rfl) (λ_ _ _ h=>h) (aS ⟨by rfl,λw' hSw=>by obtain⟨s1,s2,s3⟩:=hSw;go_simp⟩) hHeld ?_;refine eE (i:=7) (v:=aH Ar (aA ys) cr) rfl (by kernel_rfl) (by kernel_rfl) (by kernel_rfl) (by kernel_rfl) (by kernel_rfl) (λ_ _ _ h=>h) (aS ⟨by rfl,λw' hSw=>by obtain⟨s1,s2,s3⟩:=hSw;go_simp⟩) hHeld ?_;refine eE (i:=8) (v:=bF (aC ⟨bx,3,aB⟩)) rfl (by kernel_rfl) (by kernel_rfl) (by kernel_rfl) (by kernel_rfl) (by kernel_rfl) (λ_ _ _ h=>h) (aS ⟨by rfl,λw' hSw=>by obtain⟨s1,s2,s3⟩:=hSw;go_simp⟩) hHeld ?_;refine eE (i:=9) (v:=ν xn) rfl (by kernel_rfl) (by kernel_rfl) (by kernel_rfl) (by kernel_rfl) (by kernel_rfl) (λ_ _ _ h=>h) (aS ⟨by rfl,λw' hSw=>by obtain⟨s1,s2,s3⟩:=hSw;go_simp⟩) hHeld ?_;clear hHeld;refine nw (rs:= [10]) (by kernel_rfl) (by simp) ?_;refine ei.cons rfl (λK hK=> ?_) ei.nil;go_simp
    have CO:Hid (w8.grownBy (w8.alloc (aK #[ν xn] 2)) r):=η (Q6 Au.o _);have wW:=η (oh.o.alloc (aK #[ν xn] 2));have JK:Hid (∀j u,([ν xn]:List aN)[j]? =aC u->(w8.alloc (aK #[ν xn] 2)).cell? ((⟨w8.heap.size,0,aB⟩:aj).add j)=aC u):=η (dN w8 2 #[ν xn] rfl);refine hK.o _ _ (λ_=>bO.o _ CO.o) (λ_=> ?_);clear hK K;generalize (w8.alloc (aK #[ν xn] 2))=w9 at*;refine nw (rs:= [11]) (by kernel_rfl) (by simp) ?_;refine ei.cons rfl (λK hK=> ?_) ei.nil;refine AW _ rfl (.tmp 49) (.tmp 52) 53 rfl (w.heap.size+2) 2 i0 _ 1 8 mP bu hz0' fj xV rfl (by decide) _ (aA ys) (ys.map (aG aF)) rfl wW.o ⟨w8.heap.size,0,aB⟩ 1 1 [ν xn] rfl rfl JK.o xh (by decide) (by simp only [bM];omega) (by omega) (bz WR CO.o.size) w9.heap.size rfl ?_;intro g10 zZ sK hown hgr hat _;have zC:Hid (w8.grownBy sK r):=η (El CO.o hgr (.inl px.o));have Mp:sK.ownsRow (w.heap.size+2) 2 1 (aH (aC ⟨g10,0,aB⟩) (aA ys+1) zZ) (aA (ys++ [xn])) ((ys++ [xn]).map (aG aF)):=by rw [cN,df];exact hown
    have hloc:(aH (aC ⟨g10,0,aB⟩) (aA ys+1) zZ).ownBlock=(zb (.inr a)).ownBlock\/∃g,(aH (aC ⟨g10,0,aB⟩) (aA ys+1) zZ).ownBlock=aC g/\w8.heap.size<=g:=by
     rw [<-HR.o];rcases hat with e|e
     ·exact .inl (by rw [<-px.o];exact e.symm)
     exact .inr ⟨_,rfl,by rw [e];exact CO.o.size⟩
    have Sx:Hid (lD w (w.heap.size+2) w.heap.size (w.heap.size+1) (iC zb (.inr a) (aH (aC ⟨g10,0,aB⟩) (aA ys+1) zZ)) NU (gthF (l.take (k+1))) (dB (l.take (k+1))) (sK.setCell ⟨w.heap.size+1,a,aB⟩ (aH (aC ⟨g10,0,aB⟩) (aA ys+1) zZ))):=η (by rw [<-JC.o];exact T8.o.a1j Er (by rw [<-HR.o];exact zC.o) Mp hloc);have f1:=(bO.o _ zC.o).2.2;have f2:=JR.o _ zC.o;clear hown hgr hat Mp hloc;refine hK.o _ _ (λ_=>bO.o _ zC.o) (λ_=> ?_);clear hK K;refine eE (i:=12) (v:=bF (aC ⟨w.heap.size+1,a,aB⟩)) rfl (by kernel_rfl) (by kernel_rfl) (by kernel_rfl) (by kernel_rfl) (by kernel_rfl) (λ_ _ _ h=>h) (aS ⟨by rfl,λw' hSw=>by obtain⟨s1,s2,s3⟩:=hSw;go_simp⟩) (bO.o _ zC.o) ?_;refine nw (rs:= [13]) (by kernel_rfl) (by simp) ?_;refine ei.cons rfl (λK hK=> ?_) ei.nil;go_simp
    refine hK.o _ _ (λh=>absurd rfl h) (λ_=> ?_);clear hK K;refine Iq (by kernel_rfl) ?_ _;go_wp2_with fail
    go_roundw
    case rel=>exact⟨k+1,_,by omega,by go_num,Sx⟩
    case measure=>simp [ag];omega
   have mA:(((n:Nat):Int)==0)=aP:=by simpa using ly
   have tq:Hid (lD w (w.heap.size+2) w.heap.size (w.heap.size+1) cf (aH Ao (aA (dB pre)) co) (gthF pre) (dB (pre++ [⟨xk,xm,(a:Int),xn⟩])) w2):=η (by
    have e:dB (pre++ [⟨xk,xm,(a:Int),xn⟩])=dB pre:=by rw [Fv.o,ifN,List.append_nil];intro h;exact ly (by rw [HN.o,List.isEmpty_iff.1 h];rfl)
    rw [e];exact lH.o)
   have o8:=cZ;have BD:=wY;have hz3:=hz1;go_upto_region 10 with fail
   clear lH cZ wY s0 s1 s2 hlk hz1 lJ Fv;generalize (aH Ao (aA (dB pre)) co)=NU at*;generalize w2=w3 at*;obtain⟨c0,c1,c2,c3⟩:=Rk o8;obtain⟨s0,s1,s2⟩:=Nd BD;obtain⟨st,w5,uU,ej,hs5,iU,DO⟩:=(tq.o.below ((aX _ _).alloc (aZ _) (aK #[ν xn] 2))).entry HQ.o;have Ae:Hid (w5.cell? ⟨w3.heap.size,0,aB⟩=aC (ν xn)):=η (by have e1:=ej.cell_far ⟨w3.heap.size,0,aB⟩ (by simp) (by have:=tq.o.low;simp;omega);rw [e1];exact cL w3 _ _ 0 rfl);have X3:w3.heap.size+1=w5.heap.size:=by rw [hs5];simp
   have I6:w.heap.size+2<=w5.heap.size:=by have:=tq.o.low.2.2.2.2.2;omega
   rw [Aj.o] at uU iU;have kA:aA (gthF pre (.inl (xk,xm,(a:Int))))=n:=HN.o.symm;rw [kA] at uU iU;have xy:Hid (cf (.inl (xk,xm,(a:Int)))=aH Aq n cq):=η (by rw [Aj.o,kA]);have Mw:(GI 284 (.map (aC w.heap.size)) (bU #[ν xk,ν xm,ν (a:Int)])).run aM (w3.alloc (aK #[ν xn] 2))= .ok (bB #[aH Aq n cq,goInt st]) w5:=uU;have E9:=η DO;have fL:=η iU;clear uU DO iU ej X3 hs5 kA;generalize goInt st=gs at*;go_wp2_with (at_builtin;refine wpList_append_own_at _ rfl _ _ 53 rfl (w.heap.size+2) 2 i0 _ 1 8 mP bu hz0' fj xV rfl (by decide) _ n ((gthF pre (.inl (xk,xm,(a:Int)))).map (aG aF)) rfl fL.o ⟨w3.heap.size,0,aB⟩ 1 1 [ν xn] rfl rfl (by intro j u hu;cases j with|zero=>simp at hu;subst hu;exact Ae.o|succ j=>simp at hu) xh (by simp only [bM];omega) (by omega) I6 ?_)
   intro v6 w6 FA Ez _ F5;obtain⟨w7,Db,Em,F3,AE⟩:=E9.o w6 v6 (gu pre (xk,xm,(a:Int))++ [xn]) (by rw [xy.o];exact Ez) (by have h1:=FA;rw [cN,<-HN.o,df];exact h1) (by rw [xy.o];exact F5);have Cg:Hid (w7.heap[bx]? =aC (aK #[ν xk,ν xm,ν (a:Int),ν xn] 103 (0,0))):=η ((F3 bx (by simp;omega) (by omega) (λe=>by have:=EF.o _ _ e.symm;omega)).trans ((fF _ _ (by omega)).trans o8.o))
   have IP:bx+1<w7.heap.size:=by have:w3.heap.size+1<=w7.heap.size:=by simpa using AE
                                 omega
   clear F3 AE FA Ez F5 E9 fL Ae I6 xy tq o8 BD Mw HN Aj hz3;go_upto_region 11 with fail
   clear Db s0 s1 s2;have jC:=η Em;clear Em;have JC:Hid (iC (iC (gthF pre) (.inl (xk,xm,(a:Int))) (gu pre (xk,xm,(a:Int))++ [xn])) (.inr a) (gq pre a++ [xn])=gthF (l.take (k+1))):=η (by rw [lO.o];exact a3j pre ⟨xk,xm,(a:Int),xn⟩ a Er rfl);have tu:Hid (iC (gthF pre) (.inl (xk,xm,(a:Int))) (gu pre (xk,xm,(a:Int))++ [xn]) (.inr a)=gq pre a):=η (by rw [AZ _ _ (by simp)];simp [gthF,Er]);have rX:=Uv pre a;rw [<-lO.o] at jC;generalize iC cf (.inl (xk,xm,(a:Int))) v6=zb at*;generalize iC (gthF pre) (.inl (xk,xm,(a:Int))) (gu pre (xk,xm,(a:Int))++ [xn])=g7 at*;have hrow:=jC.o.tF.rows (.inr a);rw [tu.o] at hrow;generalize gq pre a=ys at*;obtain⟨Ar,cr,nX⟩:=bK hrow;have hab:w7.cell? ⟨w.heap.size+1,a,aB⟩=aC (aH Ar (aA ys) cr):=by rw [bH _ _ a _ _ (0,0) jC.o.blk,Uw zb Er,nX]
   have d1:w7.drew.cell? ⟨bx,2,aB⟩=aC (ν (a:Int)):=ρ Cg.o;have d2:w7.drew.cell? ⟨bx,3,aB⟩=aC (ν xn):=ρ Cg.o;have d3:w7.drew.cell? ⟨w.heap.size+1,a,aB⟩=aC (aH Ar (aA ys) cr):=hab;have d4:w7.drew.frozen? ⟨w.heap.size+1,a,aB⟩=aP:=by show w7.frozen? _=aP;simp [iJ,jC.o.blk]
   have oh:Hid (w7.drew.ownsRow (w.heap.size+2) 2 1 (aH Ar (aA ys) cr) (aA ys) (ys.map (aG aF))):=η (by rw [nX] at hrow;exact hrow);obtain⟨r,hr⟩:∃r,r=(zb (.inr a)).ownBlock:=⟨_,rfl⟩;have hr2:(aH Ar (aA ys) cr).ownBlock=r:=by rw [hr,nX]
   have JP:Hid (∀g,r=aC g->w.heap.size+2<=g/\g<w7.heap.size):=η λg e=>hrow.lt g (hr▸e)
   have dH:Hid (aC bx≠r):=η (λe=>by have h1:=jC.o.tF.rows (.inr a);rcases Bp h1 jC.o.ord (by decide) with _|_<;>exact(gM h1 Cg.o (by decide)) (hr▸e.symm));have MX:w.heap.size+1<w7.heap.size:=by have:=jC.o.low;omega
   have WR:w.heap.size+2<=w7.drew.heap.size:=jC.o.low.2.2.2.2.2;have B7:Hid (aC (w.heap.size+1)≠r):=η (λe=>by have:=(JP.o _ e.symm).1;omega);have HR:=η hr;have px:=η hr2;have T8:Hid (lD w (w.heap.size+2) w.heap.size (w.heap.size+1) zb NU g7 (dB (l.take (k+1))) w7.drew):=η (jC.o.below (aX _ _).drew);have Md:bx<w7.drew.heap.size:=by have:w7.drew.heap.size=w7.heap.size:=rfl;omega
   have MZ:w.heap.size+1<w7.drew.heap.size:=MX;clear hrow nX hr hr2 hab jC MX IP;refine Ir (S:=λW=>W.cell? ⟨bx,2,aB⟩=aC (ν (a:Int))/\W.cell? ⟨bx,3,aB⟩=aC (ν xn)/\W.cell? ⟨w.heap.size+1,a,aB⟩=aC (aH Ar (aA ys) cr)) 13 (by kernel_rfl) ⟨d1,d2,d3⟩ (λhHeld=> ?_);have bO:Hid (∀W,w7.drew.grownBy W r->W.cell? ⟨bx,2,aB⟩=aC (ν (a:Int))/\W.cell? ⟨bx,3,aB⟩=aC (ν xn)/\W.cell? ⟨w.heap.size+1,a,aB⟩=aC (aH Ar (aA ys) cr)):=η λW hg=>⟨(hg.cell_far ⟨bx,2,aB⟩ Md dH.o).trans d1,(hg.cell_far ⟨bx,3,aB⟩ Md dH.o).trans d2,(hg.cell_far ⟨w.heap.size+1,a,aB⟩ MZ B7.o).trans d3⟩
   have JR:Hid (∀W,w7.drew.grownBy W r->W.frozen? ⟨w.heap.size+1,a,aB⟩=aP):=η λW hg=>(hg.frozen_far ⟨w.heap.size+1,a,aB⟩ MZ B7.o).trans d4
   clear d1 d2 d3 d4;generalize w7.drew=w8 at*;have Au:Hid (w8.grownBy w8 r):=η (Hj (aX _ _) r);refine eE (i:=0) (v:=aH (aC ⟨w.heap.size+1,0,aB⟩) 9 9) rfl (by kernel_rfl) (by kernel_rfl) (by kernel_rfl) (by kernel_rfl) (by kernel_rfl) (λ_ _ _ h=>h) (aS ⟨by rfl,λw' hSw=>by obtain⟨s1,s2,s3⟩:=hSw;go_simp⟩) hHeld ?_;refine eE (i:=1) (v:=bF (aC ⟨bx,2,aB⟩)) rfl (by kernel_rfl) (by kernel_rfl) (by kernel_rfl) (by kernel_rfl) (by kernel_rfl) (λ_ _ _ h=>h) (aS ⟨by rfl,λw' hSw=>by obtain⟨s1,s2,s3⟩:=hSw;go_simp⟩) hHeld ?_;refine eE (i:=2) (v:=ν (a:Int)) rfl (by kernel_rfl) (by kernel_rfl) (by kernel_rfl) (by kernel_rfl) (by kernel_rfl) (λ_ _ _ h=>h) (aS ⟨by rfl,λw' hSw=>by obtain⟨s1,s2,s3⟩:=hSw;go_simp⟩) hHeld ?_;refine eE (i:=3) (v:=aH (aC ⟨w.heap.size+1,0,aB⟩) 9 9) rfl (by kernel_rfl) (by kernel_rfl) (by kernel_rfl) (by kernel_rfl) (by kernel_rfl) (λ_ _ _ h=>h) (aS ⟨by rfl,λw' hSw=>by obtain⟨s1,s2,s3⟩:=hSw;go_simp⟩) hHeld ?_;refine eE (i:=4) (v:=bF (aC ⟨bx,2,aB⟩)) rfl (by kernel_rfl) (by kernel_rfl) (by kernel_rfl) (by kernel_rfl) (by kernel_rfl) (λ_ _ _ h=>h) (aS ⟨by rfl,λw' hSw=>by obtain⟨s1,s2,s3⟩:=hSw;go_simp⟩) hHeld ?_;refine eE (i:=5) (v:=ν (a:Int)) rfl (by kernel_rfl) (by kernel_rfl) (by kernel_rfl) (by kernel_rfl) (by kernel_rfl) (λ_ _ _ h=>h) (aS ⟨by rfl,λw' hSw=>by obtain⟨s1,s2,s3⟩:=hSw;go_simp⟩) hHeld ?_;refine eE (i:=6) (v:=bF (aC ⟨w.heap.size+1,a,aB⟩)) rfl (by kernel_rfl) (by kernel_rfl) (by kernel_rfl) (by kernel_rfl) (by kernel_rfl) (λ_ _ _ h=>h) (aS ⟨by rfl,λw' hSw=>by obtain⟨s1,s2,s3⟩:=hSw;go_simp⟩) hHeld ?_;refine eE (i:=7) (v:=aH Ar (aA ys) cr) rfl (by kernel_rfl) (by kernel_rfl) (by kernel_rfl) (by kernel_rfl) (by kernel_rfl) (λ_ _ _ h=>h) (aS ⟨by rfl,λw' hSw=>by obtain⟨s1,s2,s3⟩:=hSw;go_simp⟩) hHeld ?_;refine eE (i:=8) (v:=bF (aC ⟨bx,3,aB⟩)) rfl (by kernel_rfl) (by kernel_rfl) (by kernel_rfl) (by kernel_rfl) (by kernel_rfl) (λ_ _ _ h=>h) (aS ⟨by rfl,λw' hSw=>by obtain⟨s1,s2,s3⟩:=hSw;go_simp⟩) hHeld ?_;refine eE (i:=9) (v:=ν xn) rfl (by kernel_rfl) (by kernel_rfl) (by kernel_rfl) (by kernel_rfl) (by kernel_rfl) (λ_ _ _ h=>h) (aS ⟨by rfl,λw' hSw=>by obtain⟨s1,s2,s3⟩:=hSw;go_simp⟩) hHeld ?_;clear hHeld;refine nw (rs:= [10]) (by kernel_rfl) (by simp) ?_;refine ei.cons rfl (λK hK=> ?_) ei.nil;go_simp
   have CO:Hid (w8.grownBy (w8.alloc (aK #[ν xn] 2)) r):=η (Q6 Au.o _);have wW:=η (oh.o.alloc (aK #[ν xn] 2));have JK:Hid (∀j u,([ν xn]:List aN)[j]? =aC u->(w8.alloc (aK #[ν xn] 2)).cell? ((⟨w8.heap.size,0,aB⟩:aj).add j)=aC u):=η (dN w8 2 #[ν xn] rfl);refine hK.o _ _ (λ_=>bO.o _ CO.o) (λ_=> ?_);clear hK K;generalize (w8.alloc (aK #[ν xn] 2))=w9 at*;refine nw (rs:= [11]) (by kernel_rfl) (by simp) ?_;refine ei.cons rfl (λK hK=> ?_) ei.nil;refine AW _ rfl (.tmp 49) (.tmp 52) 53 rfl (w.heap.size+2) 2 i0 _ 1 8 mP bu hz0' fj xV rfl (by decide) _ (aA ys) (ys.map (aG aF)) rfl wW.o ⟨w8.heap.size,0,aB⟩ 1 1 [ν xn] rfl rfl JK.o xh (by decide) (by simp only [bM];omega) (by omega) (bz WR CO.o.size) w9.heap.size rfl ?_;intro g10 zZ sK hown hgr hat _;have zC:Hid (w8.grownBy sK r):=η (El CO.o hgr (.inl px.o));have Mp:sK.ownsRow (w.heap.size+2) 2 1 (aH (aC ⟨g10,0,aB⟩) (aA ys+1) zZ) (aA (ys++ [xn])) ((ys++ [xn]).map (aG aF)):=by rw [cN,df];exact hown
   have hloc:(aH (aC ⟨g10,0,aB⟩) (aA ys+1) zZ).ownBlock=(zb (.inr a)).ownBlock\/∃g,(aH (aC ⟨g10,0,aB⟩) (aA ys+1) zZ).ownBlock=aC g/\w8.heap.size<=g:=by
    rw [<-HR.o];rcases hat with e|e
    ·exact .inl (by rw [<-px.o];exact e.symm)
    exact .inr ⟨_,rfl,by rw [e];exact CO.o.size⟩
   have Sx:Hid (lD w (w.heap.size+2) w.heap.size (w.heap.size+1) (iC zb (.inr a) (aH (aC ⟨g10,0,aB⟩) (aA ys+1) zZ)) NU (gthF (l.take (k+1))) (dB (l.take (k+1))) (sK.setCell ⟨w.heap.size+1,a,aB⟩ (aH (aC ⟨g10,0,aB⟩) (aA ys+1) zZ))):=η (by rw [<-JC.o];exact T8.o.a1j Er (by rw [<-HR.o];exact zC.o) Mp hloc);have f1:=(bO.o _ zC.o).2.2;have f2:=JR.o _ zC.o;clear hown hgr hat Mp hloc;refine hK.o _ _ (λ_=>bO.o _ zC.o) (λ_=> ?_);clear hK K;refine eE (i:=12) (v:=bF (aC ⟨w.heap.size+1,a,aB⟩)) rfl (by kernel_rfl) (by kernel_rfl) (by kernel_rfl) (by kernel_rfl) (by kernel_rfl) (λ_ _ _ h=>h) (aS ⟨by rfl,λw' hSw=>by obtain⟨s1,s2,s3⟩:=hSw;go_simp⟩) (bO.o _ zC.o) ?_;refine nw (rs:= [13]) (by kernel_rfl) (by simp) ?_;refine ei.cons rfl (λK hK=> ?_) ei.nil;go_simp
   refine hK.o _ _ (λh=>absurd rfl h) (λ_=> ?_);clear hK K;refine Iq (by kernel_rfl) ?_ _;go_wp2_with fail
   go_roundw
   case rel=>exact⟨k+1,_,by omega,by go_num,Sx⟩
   case measure=>simp [ag];omega
  obtain rfl:k=aA l:=by omega
  rw [cT] at HG ⊢;go_wp2_with fail
  go_ret3;exact⟨_,_,_,_,_,rfl,HG.o⟩
end
theorem aGz:(aM.info? 2).map (λi=>(i.zero,i.size,i.bytes))=aC (aC (aG aF 0),1,8):=by kernel_rfl
theorem a5O:(aM.info? 76).map (λi=>(i.zero,i.size,i.bytes))=aC (aC (bU #[aG aF 0,aG aF 0,aG aF 0]),3,24):=by kernel_rfl
theorem a5L(x:Lg):∀u∈x.cells,u.oneCell'=aO:=by intro u hu;simp [Lg.cells] at hu;rcases hu with rfl|rfl|rfl<;>rfl
theorem a5N(L:List Lg)(x:Lg):bA (L++ [x])=bA L++x.cells:=by unfold bA;simp
def bG(L:List Lg):List Int:=L.map (·.n)
theorem qh(L:List Lg):aA (bG L)=aA L:=by unfold bG;rw [iR]
theorem aCg {L:List Lg} {k:Nat}(hk:k<aA L):bG (L.take (k+1))=bG (L.take k)++ [L[k].n]:=by unfold bG;rw [fE hk,df];rfl
theorem Uj(L:List Lg)(A:Option aj)(c:Nat)(w:aJ)(hs:aW w w.heap.size A (bA L))(hl:aA L<=100000):
 aQ aM 189 #[aH A (aA L) c] w (Sb (bG L) w):=by
 obtain⟨i0,bu,hz0,hz1,hz2⟩:=dL aGz;have HS:=η hs;go_enter func189,ntmps189
 go_wp2
 go_loopw [3,5,8] (λu _ i wr=>∃k:Nat,k<=aA L/\i=ν k/\Hid (wr.ownsRow w.heap.size 2 1 u (aA (bG (L.take k))) ((bG (L.take k)).map (aG aF)))/\Hid (β w wr)) (λ_ _ i _=>aA L-(ag i).toNat)
 ·exact⟨0,bL _,rfl,⟨by simp,aS ⟨rfl,rfl⟩⟩,aX _ _⟩
 ·
  obtain⟨k,hk,rfl,HO,HB⟩:=hrel;have hsz:=HB.o.size;by_cases hlt:k<aA L
  ·obtain⟨b,o,rfl,hb,d0,d1,d2⟩:=oL (HS.o.below HB.o) hlt;have HF:=η (aCg hlt);have Bc:aA (bG (L.take k))<=k:=by rw [qh,uz];omega
   generalize bG (L.take k)=ys at*;go_wp2_with (at_builtin;refine j9 _ rfl _ _ 53 rfl w.heap.size 2 i0 _ 1 8 mP bu hz0 hz1 hz2 rfl (by decide) _ (aA ys) (ys.map (aG aF)) rfl ((HO.o.alloc _).alloc _) ⟨wr.heap.size+1,0,aB⟩ 1 1 [ν L[k].n] rfl rfl (dN _ _ #[_] (by simp)) xh (by simp only [bM];omega) (by omega) (by simp;omega) ?_)
   intro v' w4 hown1 dF _;have dV:Hid (w4.ownsRow w.heap.size 2 1 v' (aA (bG (L.take (k+1)))) ((bG (L.take (k+1))).map (aG aF))):=by show jw _ _ _ _ _ _ _;rw [HF.o,df,cN,uG];exact hown1
   have pj:=((HB.o.alloc hsz _).alloc (by simp;omega) _).grown dF (by simp;omega) (λj hj=>eT HO.o j hj);go_wp2
   go_roundw
   ·exact⟨k+1,by omega,by go_num,dV,pj⟩
   simp [ag];omega
  obtain rfl:k=aA L:=by omega
  have hO:=HO.o;rw [cT] at hO;obtain⟨A1,c1,rfl⟩:=bK hO;have qX:=η (aW.cA hO);go_wp2
  go_ret;exact⟨A1,c1,rfl,qX.o,HB.o⟩
def xC(L:List Lg):Int:=(L[0]?.map (·.a)).getD 0
def Ic(L:List Lg)(k:Nat):Int:=(L[k-1]?.map (·.m)).getD 0
def zY(L:List Lg)(k:Nat):Bool:=match L[k]? with
 |none=>aP
 |some x=>decide (x.n<1)||(x.a !=xC L||(decide (0<k)&&decide (x.m<=Ic L k)))
def dC(L:List Lg):Int:=if 1024<(aA L) then 6 else if (dQ (aA L)).any (zY L) then 1 else dM (sumI (bG L))
theorem Gl {L:List Lg} {k:Nat}(hk:k<aA L):zY L k=(decide (L[k].n<1)||(L[k].a !=xC L||(decide (0<k)&&decide (L[k].m<=Ic L k)))):=by unfold zY;rw [iD hk]
theorem Rf {L:List Lg} {k:Nat}(hk:k-1<aA L):Ic L k=L[k-1].m:=by unfold Ic;rw [iD hk];rfl
theorem Un {L:List Lg}(hk:0<aA L):xC L=L[0].a:=by unfold xC;rw [iD hk];rfl
theorem Uy {L:List Lg} {k:Nat}(hl:aA L<=1024)(hk:k<aA L)(h:zY L k=aO):dC L=1:=by unfold dC;rw [ifN (by omega),ifP (jv.2 ⟨k,nP.2 hk,h⟩)]
theorem aDr {L:List Lg}(hl:aA L<=1024)(h:∀k,k<aA L->zY L k=aP):dC L=dM (sumI (bG L)):=by unfold dC;rw [ifN (by omega),ifN];rw [jv];rintro⟨k,hk,e⟩;rw [h k (nP.1 hk)] at e;cases e
theorem Lx {L:List Lg}(h:∀x∈L,aL x.n):∀x∈bG L,aL x:=by intro x hx;obtain⟨y,hy,rfl⟩:=dW.1 hx;exact h y hy
theorem Ph(L:List Lg)(A:Option aj)(c:Nat)(w:aJ)(hs:aW w w.heap.size A (bA L))(hI:∀x∈L,aL x.n)(hl:aA L<=100000):
 aQ aM 188 #[aH A (aA L) c] w λe w'=>e=aT (ν (dC L))/\β w w':=by
 have HS:=η hs;have HI:=η hI;by_cases hle:aA L<=1024
 ·have aGY:¬(1024:Int)<(aA L:Int):=by omega
  go_enter aAn,aBa
  go_wp2_with fail
  go_loopw [3,4,12] (λ_ _ i wr=>∃k:Nat,k<=aA L/\i=ν k/\Hid (∀j,j<k->zY L j=aP)/\Hid (β w wr)) (λ_ _ i _=>aA L-(ag i).toNat)
  case atStart=>exact⟨0,bL _,rfl,λj h=>by omega,aX _ _⟩
  case round=>
   obtain⟨k,hk,rfl,HP,HB⟩:=hrel;have hsz:=HB.o.size;by_cases hlt:k<aA L
   ·have cY:=η (HS.o.below HB.o);obtain⟨b,o,rfl,hb,d0,d1,d2⟩:=oL cY.o hlt;obtain⟨b0,o0,e0,hb0,f0,f1,f2⟩:=oL cY.o (show 0<(aA L) by omega);injection e0 with e0;injection e0 with e1 e2;subst e1 e2;simp only [Nat.zero_mul,GU] at f0 f1 f2;rw [<-Un (show 0<(aA L) by omega)] at f1;have iH:=η (Gl hlt);have hbr:b<wr.heap.size:=by omega
    have eY:(0:Int)<=(k:Int):=by omega
    have hkb:(k:Int)<(aA L:Int):=by omega
    have hl0:(0:Int)<(aA L:Int):=by omega
    by_cases hn:L[k].n<1
    ·have mA:decide (L[k].n<1)=aO:=decide_eq_true hn;have HE:=η (Uy hle hlt (iH.o.trans (by rw [mA];rfl)));go_wp2_with fail
     go_quiet (fail)
     go_wp2_with fail
     go_ret;exact⟨cW HE.o.symm,below_drewN (HB.o.alloc hsz _) nq⟩
    by_cases ha:L[k].a=xC L
    ·have hab:(L[k].a !=xC L)=aP:=by simpa using ha
     have mA:decide (L[k].n<1)=aP:=decide_eq_false hn;rcases Nat.eq_zero_or_pos k with hz|hz
     ·subst hz;have o6:Hid (∀j,j<0+1->zY L j=aP):=by
       intro j hj;by_cases e:j=0
       ·subst e;exact iH.o.trans (by rw [mA,hab];rfl)
       exact HP.o j (by omega)
      go_wp2_with fail
      go_quiet (fail)
      go_wp2_with fail
      go_roundw
      case rel=>exact⟨0+1,by omega,by go_num,o6,below_drewN (HB.o.alloc hsz _) nq⟩
      case measure=>simp [ag];omega
     have hz':(0:Int)<(k:Int):=by omega
     have hzb:decide (0<k)=aO:=by simpa using hz
     obtain⟨b9,o9,e9,gK,g0,g1,g2⟩:=oL cY.o (show k-1<(aA L) by omega);injection e9 with e9;injection e9 with VJ VK;subst VJ VK;rw [<-Rf (show k-1<(aA L) by omega)] at g0;have BW:aF.wrap ((k:Int)-1)=(k:Int)-1:=sR _ (by omega);have zw:(0:Int)<=(k:Int)-1:=by omega
     have hk2:(k:Int)-1<(aA L:Int):=by omega
     have hkn:((k:Int)-1).toNat=k-1:=by omega
     by_cases hm:L[k].m<=Ic L k
     ·have vY:decide (L[k].m<=Ic L k)=aO:=decide_eq_true hm;have HE:=η (Uy hle hlt (iH.o.trans (by rw [mA,hab,hzb,vY];rfl)));go_wp2_with fail
      go_quiet (fail)
      go_wp2_with fail
      go_ret;exact⟨cW HE.o.symm,below_drewN (HB.o.alloc hsz _) nq⟩
     have vY:decide (L[k].m<=Ic L k)=aP:=decide_eq_false hm;have o6:Hid (∀j,j<k+1->zY L j=aP):=by
      intro j hj;by_cases e:j=k
      ·subst e;exact iH.o.trans (by rw [mA,hab,hzb,vY];rfl)
      exact HP.o j (by omega)
     go_wp2_with fail
     go_quiet (fail)
     go_wp2_with fail
     go_roundw
     case rel=>exact⟨k+1,by omega,by go_num,o6,below_drewN (HB.o.alloc hsz _) nq⟩
     case measure=>simp [ag];omega
    have hab:(L[k].a !=xC L)=aO:=by simpa [bne] using ha
    have mA:decide (L[k].n<1)=aP:=decide_eq_false hn;have HE:=η (Uy hle hlt (iH.o.trans (by rw [mA,hab];rfl)));go_wp2_with fail
    go_quiet (fail)
    go_wp2_with fail
    go_ret;exact⟨cW HE.o.symm,below_drewN (HB.o.alloc hsz _) nq⟩
   obtain rfl:k=aA L:=by omega
   have HE:=η (aDr hle HP.o);have Sk:=η (Uj L A c _ ((HS.o.below HB.o).mono hsz) hl);go_wp2_with fail
   refine Sk.o.mono ?_;rintro e w2 ⟨A2,c2,rfl,hs2,hb2⟩;have cM:=η hs2;have aV:Hid (β w w2):=HB.o.trans (hb2.mono hsz);have nB:aA (bG L)<=4611686018427387904:=by rw [qh];omega
   go_wp2_with fail
   refine(Du (bG L) A2 c2 _ (Lx HI.o) cM.o nB).mono ?_;rintro e w3 ⟨rfl,hb3⟩;have af:Hid (β w w3):=aV.o.trans (hb3.mono aV.o.size);go_wp2_with fail
   go_ret;exact⟨cW HE.o.symm,af.o⟩
 have aGY:(1024:Int)<(aA L:Int):=by omega
 have HE:Hid (dC L=6):=by show _=_;unfold dC;rw [ifP (by omega)]
 go_enter aAn,aBa
 go_wp2_with fail
 go_ret;exact⟨cW HE.o.symm,aX _ _⟩
section
open Go.Proofs.YtdokipdchlcmeaaGreat.pG Go.Proofs.YtdokipdchlcmeaaGreat.ShareLaw
theorem a7l(n:Nat)(f:Nat->Int):∀k,k<=n->sumI ((eH n f).take k)=dZ f k
 |0,_=>by simp [sumI,dZ]
 |k+1,h=>by
  have hk:k<aA (eH n f):=by rw [r9];omega
  rw [YG hk,a7l n f k (by omega),Dr hk];rfl
theorem aKw(n:Nat)(f:Nat->Int):sumI (eH n f)=dZ f n:=by rw [<-a7l n f n (aZ _),List.take_of_length_le (by grind [r9])]
theorem a7j:∀n,sumI (gP n 0)=0
 |0=>rfl
 |n+1=>by rw [List.replicate_succ];unfold sumI;rw [a7j n];rfl
theorem aCY {T:Int} {l:List Int}(h:iK T l=0):zV T l=0/\((sumI l<=T/\dK T l=l)\/(T<sumI l/\T=0/\dK T l=gP (aA l) 0)\/(T<sumI l/\0<T/\dK T l=eH (aA l) (ShareLaw.part T (sumI l) (wf l) (aA l)))):=by have F:=Q1 h;have hp:=F.pos;grind [zV,dK,vG,uI]
structure a8l(T:Int)(l:List Int):Prop where
 err:zV T l=0
 len:aA (dK T l)=aA l
 bd:∀i (h:i<aA (dK T l)) (h':i<aA l),0<=(dK T l)[i]/\(dK T l)[i]<=l[i]
 sum:sumI (dK T l)=min T (sumI l)
theorem getElem_of_eq {α:Type} {l m:List α}(e:l=m) {i:Nat}(h:i<aA l):l[i]=m[i]'(e▸h):=by subst e;rfl
theorem aLf {l:List Int}(h:∀x∈l,0<=x):∀i,i<aA l->0<=wf l i:=λi hi=>by grind [Kk,cK]
theorem Ek {T:Int} {l:List Int}(h:iK T l=0):a8l T l:=by
 have F:=Q1 h;obtain⟨e,hc⟩:=aCY h;rcases hc with⟨h1,h2⟩|⟨h1,h2,h3⟩|⟨h1,h2,h3⟩
 ·refine⟨e,by rw [h2],λi hi hi'=> ?_,by grind⟩;rw [getElem_of_eq h2 hi];exact⟨F.all _ (cK hi'),dJ _⟩
 ·refine⟨e,by grind,λi hi hi'=> ?_,by grind [a7j]⟩;rw [getElem_of_eq h3 hi,UC];exact⟨dJ _,F.all _ (cK hi')⟩
 have hs:=YN l;refine⟨e,by rw [h3,r9],λi hi hi'=> ?_, ?_⟩
 ·rw [getElem_of_eq h3 hi,Dr,<-Kk hi'];have hw:=aLf F.all i hi';exact⟨aJA (by omega) (by omega) hs hw,aJ9 (by omega) (by omega) hs hw⟩
 grind [aKw,aL3]
theorem VT {T:Int} {l:List Int}(h:iK T l=0):fitB l (dK T l)=aO:=by have G:=Ek h;exact(Q0 G.len.symm).2 λi h1 h2=>G.bd i h2 h1
end
def yh(a b:Int):Int:=if a<=b then 0 else if dM (a-b)=0 then gQ (a-b) else 9223372036854775807
theorem aJ0 {a b:Int}(ha:0<=a)(hb:0<=b)(h:aL a):yh a b=max (a-b) 0:=by
 unfold yh;by_cases h1:a<=b
 ·rw [ifP h1];omega
 have hI:aL (a-b):=by unfold aL at*;omega
 rw [ifN h1,(eA hI).1,(eA hI).2,ifP rfl];omega
theorem aJ2(a b:Int)(w:aJ)(ha:aL a)(hb:aL b):
 aQ aM 86 #[ν a,ν b] w λe w'=>e=aT (ν (yh a b))/\w=w':=by
 have HS:=λW=>η (S5 a b W ha hb)
 have HD:=η (show yh a b=if a<=b then 0 else if dM (a-b)=0 then gQ (a-b) else 9223372036854775807 from rfl);by_cases h1:a<=b
 ·have HE:Hid (yh a b=0):=by show _=_;rw [HD.o,ifP h1]
  go_enter Ln,Lq
  go_wp2_with fail
  go_ret;exact⟨cW HE.o.symm,rfl⟩
 by_cases h2:dM (a-b)=0
 ·have HE:Hid (yh a b=gQ (a-b)):=by show _=_;rw [HD.o,ifN h1,ifP h2]
  rw [h2] at HS;generalize gQ (a-b)=V at*;go_enter Ln,Lq
  go_wp2_with fail
  refine(HS _).o.mono ?_;rintro e w1 ⟨rfl,rfl⟩;go_wp2_with fail
  go_ret;exact⟨cW HE.o.symm,rfl⟩
 have HE:Hid (yh a b=9223372036854775807):=by show _=_;rw [HD.o,ifN h1,ifN h2]
 have h2b:(dM (a-b) !=0)=aO:=by simpa [bne] using h2
 generalize gQ (a-b)=V at*;generalize dM (a-b)=E at*;go_enter Ln,Lq
 go_wp2_with fail
 refine(HS _).o.mono ?_;rintro e w1 ⟨rfl,rfl⟩;go_wp2_with fail
 go_ret;exact⟨cW HE.o.symm,rfl⟩
def iW(L:List Lg):Int:=if dC L=0 then sumI (bG L) else 0
theorem BO {L:List Lg}(h:dC L=0):aA L<=1024/\(∀k,k<aA L->zY L k=aP)/\aL (sumI (bG L)):=by
 unfold dC at h;by_cases h1:1024<aA L
 ·rw [ifP h1] at h;omega
 rw [ifN h1] at h;by_cases h2:(dQ (aA L)).any (zY L)=aO
 ·rw [ifP h2] at h;omega
 rw [ifN h2] at h;refine⟨by omega,λk hk=> ?_,a1d h⟩;cases hb:zY L k
 ·rfl
 exact absurd (jv.2 ⟨k,nP.2 hk,hb⟩) h2
theorem aDs {L:List Lg}(h:dC L=0):gQ (sumI (bG L))=sumI (bG L)/\dM (sumI (bG L))=0:=eA (BO h).2.2
theorem PV(L:List Lg)(A:Option aj)(c:Nat)(w:aJ)(hs:aW w w.heap.size A (bA L))(hI:∀x∈L,aL x.n)(hl:aA L<=100000):
 aQ aM 129 #[aH A (aA L) c] w λe w'=>e=aT (bB #[ν (iW L),ν (dC L)])/\β w w':=by
 have HC:=η (Ph L A c w hs hI hl);have HS:=η hs;have HI:=η hI;have HD:=η (show iW L=if dC L=0 then sumI (bG L) else 0 from rfl);have HQ:=η (aDs (L:=L));by_cases h0:dC L=0
 ·have HE:Hid (iW L=sumI (bG L)):=by show _=_;rw [HD.o,ifP h0]
  have lL:=η (HQ.o h0);have H00:=η h0;rw [h0] at HC;go_enter aAc,aBP
  go_wp2_with fail
  refine HC.o.mono ?_;rintro e w1 ⟨rfl,hb1⟩;have aR:=η hb1;have Sk:=η (Uj L A c _ ((HS.o.below aR.o).mono aR.o.size) hl);go_wp2_with fail
  refine Sk.o.mono ?_;rintro e w2 ⟨A2,c2,rfl,hs2,hb2⟩;have cM:=η hs2;have aV:Hid (β w w2):=aR.o.trans (hb2.mono aR.o.size);have nB:aA (bG L)<=4611686018427387904:=by rw [qh];omega
  go_wp2_with fail
  refine(Du (bG L) A2 c2 _ (Lx HI.o) cM.o nB).mono ?_;rintro e w3 ⟨rfl,hb3⟩;have af:Hid (β w w3):=aV.o.trans (hb3.mono aV.o.size);go_wp2_with fail
  go_ret2;exact⟨(by rw [HE.o,lL.o.1,lL.o.2,H00.o];first|done|rfl),af.o⟩
 have HE:Hid (iW L=0):=by show _=_;rw [HD.o,ifN h0]
 have h0b:(dC L !=0)=aO:=by simpa [bne] using h0
 generalize dC L=E at*;go_enter aAc,aBP
 go_wp2_with fail
 refine HC.o.mono ?_;rintro e w1 ⟨rfl,hb1⟩;have aR:=η hb1;go_wp2_with fail
 go_ret2;exact⟨(by rw [HE.o];first|done|rfl),aR.o⟩
def jJ(cF:Int)(L:List Lg):Int:=if dC L≠0 then dC L else if cF<0 then 1 else 0
def AV(cF:Int)(L:List Lg):Int:=if jJ cF L=0 then yh (sumI (bG L)) cF else 0
theorem a7L(cF:Int)(L:List Lg)(A:Option aj)(c:Nat)(w:aJ)(hA:aL cF)(hs:aW w w.heap.size A (bA L))(hI:∀x∈L,aL x.n)(hl:aA L<=100000):
 aQ aM 131 #[ν cF,aH A (aA L) c] w λe w'=>e=aT (bB #[ν (AV cF L),ν (jJ cF L)])/\β w w':=by
 have HC:=η (PV L A c w hs hI hl);have HD:=η (show jJ cF L=if dC L≠0 then dC L else if cF<0 then 1 else 0 from rfl);have HV:=η (show AV cF L=if jJ cF L=0 then yh (sumI (bG L)) cF else 0 from rfl);by_cases h0:dC L=0
 ·have kV:Hid (iW L=sumI (bG L)):=by show _=_;unfold iW;rw [ifP h0]
  have zG:=λW=>η (aJ2 (sumI (bG L)) cF W (BO h0).2.2 hA)
  rw [kV.o,h0] at HC;by_cases h1:cF<0
  ·have HE:Hid (jJ cF L=1):=by show _=_;rw [HD.o,ifN (by omega),ifP h1]
   have mf:Hid (AV cF L=0):=by show _=_;rw [HV.o,ifN (by rw [HE.o];omega)]
   go_enter a0Y,a0s
   go_wp2_with fail
   refine HC.o.mono ?_;rintro e w1 ⟨rfl,hb1⟩;have aR:=η hb1;go_wp2_with fail
   go_ret2;exact⟨(by rw [HE.o,mf.o];first|done|rfl),aR⟩
  have HE:Hid (jJ cF L=0):=by show _=_;rw [HD.o,ifN (by omega),ifN h1]
  have mf:Hid (AV cF L=yh (sumI (bG L)) cF):=by show _=_;rw [HV.o,ifP HE.o]
  generalize yh (sumI (bG L)) cF=OV at*;generalize sumI (bG L)=S at*;go_enter a0Y,a0s
  go_wp2_with fail
  refine HC.o.mono ?_;rintro e w1 ⟨rfl,hb1⟩;have aR:=η hb1;go_wp2_with fail
  refine(zG _).o.mono ?_;rintro e w2 ⟨rfl,rfl⟩;go_wp2_with fail
  go_ret2;exact⟨(by rw [HE.o,mf.o];first|done|rfl),aR⟩
 have HE:Hid (jJ cF L=dC L):=by show _=_;rw [HD.o,ifP h0]
 have mf:Hid (AV cF L=0):=by show _=_;rw [HV.o,ifN (by rw [HE.o];exact h0)]
 have h0b:(dC L !=0)=aO:=by simpa [bne] using h0
 generalize dC L=E at*;generalize iW L=S at*;go_enter a0Y,a0s
 go_wp2_with fail
 refine HC.o.mono ?_;rintro e w1 ⟨rfl,hb1⟩;have aR:=η hb1;go_wp2_with fail
 go_ret2;exact⟨(by rw [HE.o,mf.o];first|done|rfl),aR⟩
def eo(L:List Lg)(xs:List Int):List Lg:=(kN (λ(x:Lg) n=>(⟨x.m,x.a,n⟩:Lg)) L xs).filter λx=>decide (0<x.n)
theorem aKc {L:List Lg} {xs:List Int} {k:Nat}(h:k<aA L)(h':k<aA xs):eo (L.take (k+1)) (xs.take (k+1))=eo (L.take k) (xs.take k)++if 0<xs[k] then [⟨L[k].m,L[k].a,xs[k]⟩] else []:=by unfold eo;rw [fE h,fE h',List.zipWith_append (by simp;omega),List.filter_append];by_cases c:0<xs[k]<;>simp [c]
theorem aKb(L:List Lg)(xs:List Int)(k:Nat):aA (eo (L.take k) (xs.take k))<=k:=by unfold eo;refine bz (qd _ _) ?_;rw [ET,uz];omega
theorem Rx(L:List Lg)(xs:List Int):aA (eo L xs)<=aA L:=by unfold eo;refine bz (qd _ _) ?_;rw [ET];omega
theorem Pj {cF:Int} {L:List Lg}(h:jJ cF L=0):iK cF (bG L)=0/\dC L=0/\0<=cF:=by
 unfold jJ at h;by_cases h1:dC L≠0
 ·rw [ifP h1] at h;exact absurd h h1
 rw [ifN h1] at h;have h0:dC L=0:=by omega
 obtain⟨a,b,d⟩:=BO h0;have hA:0<=cF:=by
  by_cases h2:cF<0
  ·rw [ifP h2] at h;omega
  omega
 refine⟨?_,h0,hA⟩;have hn:=a5m λk hk=>by
  rw [qh] at hk;have:=b k hk;rw [Gl hk] at this;simp only [Bool.or_eq_false_iff,decide_eq_false_iff_not] at this;have e:(bG L)[k]'(by rw [qh];exact hk)=L[k].n:=by unfold bG;rw [wk]
  rw [e];omega
 unfold iK;rw [ifN (by rw [qh];omega),ifN (by rw [hn];simp;omega),(eA d).2]
def jf(cF:Int)(L:List Lg):List Lg:=if jJ cF L=0 then eo L (dK cF (bG L)) else []
def jm(cF:Int)(L:List Lg):List Lg:=if jJ cF L=0 then eo L (oM (bG L) (dK cF (bG L))) else []
theorem aHf {T:Int} {l:List Int}(h:iK T l=0):aA (oM l (dK T l))=aA l/\AL l (dK T l)=0:=by have G:=Ek h;unfold oM AL;rw [VT h];refine⟨?_,rfl⟩;rw [ifP rfl,ET,G.len,Nat.min_self]
def gatE(f:Int->List Int):List Int->Int
 | []=>0
 |k::ks=>if aL (sumI (f k)) then gatE f ks else 2
def nW(f:Int->List Int)(ks:List Int):List Lg:=ks.map λk=>⟨k,0,sumI (f k)⟩
def rV(f:Int->List Int)(ks:List Int):List Lg:=if gatE f ks=0 then nW f ks else []
theorem a3R {f:Int->List Int}:∀ {ks:List Int} {k:Nat} (hk:k<aA ks),(∀j (hj:j<k),aL (sumI (f ks[j])))->¬aL (sumI (f ks[k]))->gatE f ks=2
 |x::xs,0,_,_,h=>by unfold gatE;rw [ifN (by simpa using h)]
 |x::xs,k+1,hk,h,h'=>by unfold gatE;rw [ifP (by have:=h 0 (by omega);simpa using this)];exact a3R (by simpa using hk) (λj hj=>by have:=h (j+1) (by omega);simpa using this) (by simpa using h')
theorem VS {f:Int->List Int}:∀ {ks:List Int},(∀j (hj:j<aA ks),aL (sumI (f ks[j])))->gatE f ks=0
 | [],_=>rfl
 |x::xs,h=>by unfold gatE;rw [ifP (by have:=h 0 (by simp);simpa using this)];exact VS λj hj=>by have:=h (j+1) (by simpa using hj);simpa using this
theorem aFk(f:Int->List Int) {ks:List Int} {k:Nat}(hk:k<aA ks):nW f (ks.take (k+1))=nW f (ks.take k)++ [⟨ks[k],0,sumI (f ks[k])⟩]:=by unfold nW;rw [fE hk,df];rfl
theorem NJ:(aM.info? 76).map (λi=>(i.zero,i.size,i.bytes))=aC (aC (bU #[aG aF 0,aG aF 0,aG aF 0]),3,24):=by kernel_rfl
theorem KQ(x:Lg):∀u∈x.cells,u.oneCell'=aO:=by intro u hu;simp [Lg.cells] at hu;rcases hu with rfl|rfl|rfl<;>rfl
theorem aHa(l:List Lg)(x:Lg):bA (l++ [x])=bA l++x.cells:=by simp [bA]
theorem NV {wr w1:aJ} {base:Nat} {e:bY} {s n:Nat} {u:aN} {xs:List aN}(h:wr.ownsRow base e s u n xs)(hb:aa wr.heap.size wr w1):w1.ownsRow base e s u n xs:=
 h.kept ⟨hb.os,hb.tape,hb.output,hb.size,λk hk _=>hb.block k hk⟩ (by cases u.ownBlock<;>simp:u.ownBlock=aB\/u.ownBlock≠aB)
end Go.Proofs.YtdokipdchlcmeaaGreat
namespace Go.Proofs
open Go.Proofs.Tryz
open Go.Shelf
def growL_ren:yw:=⟨fun|4=>232|n=>n,fun|22=>39|25=>76|3=>3|4=>4|9=>9|20=>20|0=>0|n=>n,fun|n=>n⟩
theorem growL:Ys aM growL_ren:= {
 mixed:=by kernel_rfl
 f4:=⟨f232.name,by decide,func232.trans (congrArg aC (by kernel_rfl))⟩
 t0:=Gf
 a0:=Gc
 z0:=Ge
 v0:=Gi
 t3:=xA
 a3:=Cs
 z3:=Cu
 v3:=Cw
 t4:=BI
 a4:=Ct
 z4:=Cv
 v4:=Cx
 t9:=PJ
 a9:=PE
 z9:=PG
 v9:=PK
 t20:=a1O
 a20:=a0m
 z20:=a1J
 v20:=a1R
 t22:=sZ
 a22:=isAgg39
 z22:=sizeOf39
 v22:=zeroValue39}
def growA_ren:yw:=⟨fun|4=>278|n=>n,fun|22=>53|25=>2|3=>3|4=>4|9=>9|20=>20|0=>0|n=>n,fun|n=>n⟩
theorem growA:Ys aM growA_ren:= {
 mixed:=by kernel_rfl
 f4:=⟨f278.name,by decide,func278.trans (congrArg aC (by kernel_rfl))⟩
 t0:=Gf
 a0:=Gc
 z0:=Ge
 v0:=Gi
 t3:=xA
 a3:=Cs
 z3:=Cu
 v3:=Cw
 t4:=BI
 a4:=Ct
 z4:=Cv
 v4:=Cx
 t9:=PJ
 a9:=PE
 z9:=PG
 v9:=PK
 t20:=a1O
 a20:=a0m
 z20:=a1J
 v20:=a1R
 t22:=mP
 a22:=isAgg53
 z22:=sizeOf53
 v22:=zeroValue53}
def growI_ren:yw:=⟨fun|4=>219|n=>n,fun|22=>46|25=>3|3=>3|4=>4|9=>9|20=>20|0=>0|n=>n,fun|n=>n⟩
theorem growI:Ys aM growI_ren:= {
 mixed:=by kernel_rfl
 f4:=⟨f219.name,by decide,func219.trans (congrArg aC (by kernel_rfl))⟩
 t0:=Gf
 a0:=Gc
 z0:=Ge
 v0:=Gi
 t3:=xA
 a3:=Cs
 z3:=Cu
 v3:=Cw
 t4:=BI
 a4:=Ct
 z4:=Cv
 v4:=Cx
 t9:=PJ
 a9:=PE
 z9:=PG
 v9:=PK
 t20:=a1O
 a20:=a0m
 z20:=a1J
 v20:=a1R
 t22:=yO
 a22:=Lp
 z22:=Lr
 v22:=Ls}
end Go.Proofs
namespace Go.Proofs.YtdokipdchlcmeaaGreat
open Go.Proofs.Tryz Go.RowKit
structure sS(w:aJ)(A:Option aj)(c:Nat)(L:List Lg):Prop where
 dt:aW w w.heap.size A (bA L)
 nil:A=aB->aA L=0/\c=0
theorem sS.below {w w':aJ} {A:Option aj} {c:Nat} {L:List Lg}(h:sS w A c L)(hb:aa w.heap.size w w'):sS w' A c L:=⟨(h.dt.below hb).mono hb.size,h.nil⟩
theorem a5Q(L:List Lg):∀u∈bA L,u.oneCell'=aO:=by intro u hu;obtain⟨x,_,hx⟩:=List.mem_flatMap.1 hu;exact KQ x u hx
theorem a5P(L:List Lg):aA (bA L)=aA L*3:=by
 unfold bA;induction L with
 |nil=>rfl
 |cons x L ih=>rw [wZ,cN,ih,uF];simp [Lg.cells];omega
theorem SQ {w:aJ} {ops:Array Oper} {rest:List Oper} {o:Oper} {a:Act} {Q:Exit->Act->aJ->Prop}(hgd:o.guard=aB)(s x:Operand)
 (ho:o.op= .call {callee:= .builtin .append,args:= #[s,x],argTypes:= #[39,39]}) (base:Nat)
 (v:aN) (n:Nat) (xs:List aN) (hs:a.eval s=v) (hown:w.ownsRow base 76 3 v n xs)
 (A:Option aj) (c:Nat) (L:List Lg) (hx:a.eval x=aH A (aA L) c) (hz:sS w A c L) (hlen:n+aA L<=1000000) (hbase:base<=w.heap.size)
 (h:∀v' w',w'.ownsRow base 76 3 v' (n+aA L) (xs++bA L)->w.grownBy w' v.ownBlock->wpList aM ops Q rest (a.put o.dst v') w'):wpList aM ops Q (o::rest) a w:=by
 obtain⟨i0,bu,hz0,hz1,hz2⟩:=dL NJ;cases A with
 |none=>
  obtain⟨h1,rfl⟩:=hz.nil rfl;obtain rfl:L= []:=nO h1;refine wpList_append_own_none hgd s x 39 ho base 76 i0 3 sZ bu v n xs hs hown hx (h v w (by simpa [bA] using hown) ⟨rfl,rfl,rfl,aZ _,λ_ _ _=>rfl⟩)
 |some ad=>
  refine j9 w hgd s x 39 ho base 76 i0 _ 3 24 sZ bu hz0 hz1 hz2 rfl (by decide) v n xs hs hown ad (aA L) c (bA L) hx (a5P L) ?_ (a5Q L) (by simp only [bM];omega) (by omega) hbase ?_
  ·intro j u hu;obtain⟨b,o',e,_,hc⟩:=hz.dt j u hu;have e:=pE e;subst e;have ea:(⟨b,o',aB⟩:aj).add j=⟨b,o'+j,aB⟩:=by unfold Addr.add;split<;>simp_all
   rw [ea];exact hc
  intro v' w' h1 h2 _;exact h v' w' h1 h2
theorem a3h(w:aJ)(z:Array aN)(n k:Nat)(e:bY)(hk:z.size=k)(hn:n<=1000000):jw (w.drew.alloc (aK (([]:List aN).toArray++E5 z (0+n-0)++E5 z (xM w (0+n) 0 e-(0+n))) e)) w.heap.size e k (aH (aC ⟨w.heap.size,0,aB⟩) 0 (xM w (0+n) 0 e)) 0 []:=by rw [Nat.zero_add];have h1:=grownCap_ge w n 0 e;refine⟨by simp,Or.inr ⟨w.heap.size,_,_,rfl,aZ _,cO _ _,bL _,grownCap_le_maxLen w n 0 e (by simp only [bM];omega), ?_,by simp⟩⟩;simp only [Array.size_append,List.size_toArray,ES,size_zeroCells,hk];rw [Nat.sub_zero,Nat.zero_add,<-GR,Nat.add_sub_cancel' h1]
theorem aFv(w:aJ)(n:Nat)(hn:n<=1000000):jw (w.drew.alloc (aK (([]:List aN).toArray++E5 (Value.agg #[aG aF 0,aG aF 0,aG aF 0]).cells (0+n-0)++E5 (Value.agg #[aG aF 0,aG aF 0,aG aF 0]).cells (xM w (0+n) 0 76-(0+n))) 76)) w.heap.size 76 3 (aH (aC ⟨w.heap.size,0,aB⟩) 0 (xM w (0+n) 0 76)) 0 []:=a3h w _ n 3 _ rfl hn
def a8x(l:List Lg)(w:aJ)(e:dU)(w':aJ):Prop:=∃A c,e=aT (aH A (aA l) c)/\w'.ownsRow w.heap.size 76 3 (aH A (aA l) c) (aA l) (bA l)/\aa w.heap.size w w'
theorem aEH(z1 z2:List Lg)(A1 A2:Option aj)(c1 c2 g:Nat)(w:aJ)(h1:sS w A1 c1 z1)(h2:sS w A2 c2 z2)(g0:w.cell? ⟨g,0,aB⟩=aC (aH A1 (aA z1) c1))(g1:w.cell? ⟨g,1,aB⟩=aC (aH A2 (aA z2) c2))(hg:g<w.heap.size)(oK:aA z1<=100000)(hl2:aA z2<=100000):
 aQ aM 200 #[aH (aC ⟨g,0,aB⟩) 2 2] w (a8x (z1++z2) w):=by
 have H1:=η h1;have H2:=η h2;have G1:=η g1;rcases Nat.eq_zero_or_pos (aA z1+aA z2) with h0|h0
 ·have kB:aA z1=0:=by omega
  have lz:aA z2=0:=by omega
  have e1:z1= []:=nO kB;have e2:z2= []:=nO lz;subst e1 e2;have qT:Hid (w.ownsRow w.heap.size 76 3 (aH aB 0 0) 0 []):=⟨by simp,aS ⟨rfl,rfl⟩⟩;simp only [ES] at g0 g1;go_enter aAq,aBd
  go_wp2_with fail
  refine ug 3 ?_;rw [eC];go_wp2_with fail
  rw [eC];go_wp2_with fail
  rw [eC];go_wp2_with fail
  refine(Any8.slices_Grow_room growL aB 0 0 0 _ (by omega) (by omega) (by omega) (by omega)).mono ?_;rintro e w2 ⟨rfl,hw2⟩;obtain rfl:w=w2:=hw2.symm;go_wp2_with fail
  refine ug 3 ?_;rw [eC];go_wp2_with (at_builtin;refine SQ rfl _ _ rfl w.heap.size _ 0 [] rfl qT.o A1 c1 [] rfl H1.o (by simp) (aZ _) ?_)
  intro v3 w3 iz hg3;have cD:Hid (w3.ownsRow w.heap.size 76 3 v3 0 []):=by show jw _ _ _ _ _ _ _;simpa [bA] using iz
  have af:Hid (β w w3):=η ((aX _ _).grown hg3 (aZ _) (λj hj=>eT qT.o j hj));have q1:w3.cell? ⟨g,1,aB⟩=aC (aH A2 0 c2):=(af.o.cell (p:=⟨g,1,aB⟩) hg).trans G1.o;have CF:=η (H2.o.below af.o);have uu:=η af.o.size;go_wp2_with fail
  rw [eC];go_wp2_with (at_builtin;refine SQ rfl _ _ rfl w.heap.size _ 0 [] rfl cD.o A2 c2 [] rfl CF.o (by simp) uu.o ?_)
  intro v4 w4 gz hg4;have dV:Hid (w4.ownsRow w.heap.size 76 3 v4 0 []):=by show jw _ _ _ _ _ _ _;simpa [bA] using gz
  have ar:Hid (β w w4):=η (af.o.trans ((aX _ _).grown hg4 uu.o (λj hj=>eT cD.o j hj)));go_wp2_with fail
  rw [eC];go_wp2_with fail
  go_ret;obtain⟨A4,c4,rfl⟩:=bK dV.o;exact⟨A4,c4,rfl,dV.o,ar.o⟩
 have yb:aF.wrap ((aA z1:Int)+aA z2)=(aA z1:Int)+aA z2:=sR _ (by omega);obtain⟨i0,bu,hz0,hz1,hz2⟩:=dL NJ;go_enter aAq,aBd
 go_wp2_with fail
 refine ug 3 ?_;rw [eC];go_wp2_with fail
 rw [eC];go_wp2_with fail
 rw [eC];go_wp2_with fail
 clear yb;rw [show ((aA z1:Int)+(aA z2:Int))=((aA z1+aA z2:Nat):Int) from by omega];refine(Any8.slices_Grow_grow growL i0 (bU #[ν 0,ν 0,ν 0]) bu hz0 (by rw [hz1];decide) aB 0 0 (aA z1+aA z2) [] _ (by omega) (by omega) (by rw [hz2];omega) (by omega) (by simp) (λ_=>rfl) (λa h=>by cases h)).mono ?_;rintro e w2 ⟨rfl,hw2⟩;have qT:Hid (w2.ownsRow w.heap.size 76 3 (aH (aC ⟨w.heap.size,0,aB⟩) 0 (xM w (0+(aA z1+aA z2)) 0 76)) 0 []):=by show jw _ _ _ _ _ _ _;rw [hw2];exact aFv w (aA z1+aA z2) (by omega)
 have pA:Hid (β w w2):=by show RowKit.Below _ _ _;rw [hw2];exact(aX _ _).drew.alloc (aZ _) _
 have HZ:=η pA.o.size;have wK:=η (H1.o.below pA.o);have p0:w2.cell? ⟨g,0,aB⟩=aC (aH A1 (aA z1) c1):=(pA.o.cell (p:=⟨g,0,aB⟩) hg).trans g0;clear hw2 g0 g1;rw [show (growL_ren.t 25)=76 from rfl];generalize xM w (0+(aA z1+aA z2)) 0 76=cap at*;go_wp2_with fail
 refine ug 3 ?_;rw [eC];go_wp2_with (at_builtin;refine SQ rfl _ _ rfl w.heap.size _ 0 [] rfl qT.o A1 c1 z1 rfl wK.o (by omega) HZ.o ?_)
 intro v3 w3 iz hg3;have cD:Hid (w3.ownsRow w.heap.size 76 3 v3 (aA z1) (bA z1)):=by show jw _ _ _ _ _ _ _;simpa using iz
 have mM:Hid (β w w3):=η (pA.o.trans ((aX _ _).grown hg3 HZ.o (λj hj=>eT qT.o j hj)));have q1:w3.cell? ⟨g,1,aB⟩=aC (aH A2 (aA z2) c2):=(mM.o.cell (p:=⟨g,1,aB⟩) hg).trans G1.o;have CF:=η (H2.o.below mM.o);have uu:=η mM.o.size;clear iz hg3;go_wp2_with fail
 rw [eC];go_wp2_with (at_builtin;refine SQ rfl _ _ rfl w.heap.size _ (aA z1) (bA z1) rfl cD.o A2 c2 z2 rfl CF.o (by omega) uu.o ?_)
 intro v4 w4 gz hg4;have dV:Hid (w4.ownsRow w.heap.size 76 3 v4 (aA (z1++z2)) (bA (z1++z2))):=by show jw _ _ _ _ _ _ _;rw [cN,show bA (z1++z2)=bA z1++bA z2 by simp [bA]];exact gz
 have ar:Hid (β w w4):=η (mM.o.trans ((aX _ _).grown hg4 uu.o (λj hj=>eT cD.o j hj)));clear gz hg4 q1;go_wp2_with fail
 rw [eC];go_wp2_with fail
 go_ret;obtain⟨A4,c4,rfl⟩:=bK dV.o;exact⟨A4,c4,rfl,dV.o,ar.o⟩
section
open Go.Maps Go.MapKept Go.ChangeMaps
open Go.WideElems (Fit)
theorem a4h {x:Int}(h:aL x):(Lit.int aF x).wf=aO:=by unfold aL at h;have h1:aF.min= -9223372036854775808:=rfl;have h2:aF.max=9223372036854775807:=rfl;simp only [Lit.wf,jb,decide_eq_true_eq,h1,h2];exact h
def encI(n:Int):aN:=aG aF n
theorem Be:CE aM 3 encI aL where
 keyed:=Go.Maps.int_keyed xA
 key:=λq hq=>⟨_,a8n xA (a4h hq)⟩
 inj:=λq q' h=>by unfold encI at h;simpa using h
def mE(q:Int)(m:List (Int×aN)):aN:=(getM q m).getD (aH aB 0 0)
structure lC(w:aJ)(base b:Nat)(m:List (Int×aN))(f:Int->List Int):Prop where
 map:eX aM 3 encI w b m
 yr:∃es clock,w.heap[b]? =aC (.map es clock)/\Stamped es clock
 low:b<base
 rows:∀p∈m,w.ownsRow base 2 1 p.2 (aA (f p.1)) ((f p.1).map encI)
 far:∀p∈m,∀q∈m,p.1≠q.1->p.2.ownBlock=aB\/p.2.ownBlock≠q.2.ownBlock
 off:∀q,(∀p∈m,p.1≠q)->f q= []
 dom:∀p∈m,aL p.1
section
variable {w w' w1:aJ} {base b:Nat} {m:List (Int×aN)} {f:Int->List Int}
theorem lC.made(w:aJ):lC (w.alloc (.map #[] 0)) (w.heap.size+1) w.heap.size [] (λ_=> []):=
 ⟨eX.made _ _ _ _,⟨#[],0,cO w _,stamped_empty 0⟩,Nat.lt_succ_self _,by simp,by simp,λ_ _=>rfl,by simp⟩
theorem Rc {e:bY} {size n:Nat} {v:aN} {xs:List aN}(h:w.ownsRow base e size v n xs) {g:Nat}(hg:g<base):v.ownBlock≠aC g:=λe=>by have:=(h.lt _ e).1;omega
theorem lC.below {B:Nat}(h:lC w base b m f)(hB:w.heap.size<=B)(hb:aa B w w'):lC w' base b m f:=by obtain⟨es,clock,hb',hs⟩:=h.yr;have hlt:=h.map.lt;refine⟨h.map.below (by omega) hb,⟨es,clock,(hb.block b (by omega)).trans hb',hs⟩,h.low,λp hp=>(h.rows p hp).kept ⟨hb.os,hb.tape,hb.output,hb.size,λk hk _=>hb.block k (cP hk hB)⟩ (by cases p.2.ownBlock<;>simp:p.2.ownBlock=aB\/p.2.ownBlock≠aB),h.far,h.off,h.dom⟩
theorem XM {q:Int} {v:aN}:∀ {m:List (Int×aN)},getM q m=aC v->(q,v)∈m
 | [],h=>by simp [getM] at h
 |p::m,h=>by
  unfold getM at h;split at h
  ·rename_i hc;have e:p.1=q:=by simpa using hc
   obtain⟨a,c⟩:=p;simp at e h;subst e h;exact pD ..
  exact dh _ (XM h)
theorem a3W {q:Int}:∀ {m:List (Int×aN)},getM q m=aB->∀p∈m,p.1≠q
 | [],_,p,hp=>by simp at hp
 |p::m,h,x,hx=>by
  unfold getM at h;split at h
  ·cases h
  rename_i hc;rcases fC.1 hx with rfl|hx
  ·simpa using hc
  exact a3W h x hx
theorem lC.slot(h:lC w base b m f)(q:Int):w.ownsRow base 2 1 (mE q m) (aA (f q)) ((f q).map encI):=by
 unfold mE;cases hg:getM q m with
 |none=>rw [h.off q (a3W hg)];exact gC _ _ _ _
 |some v=>exact h.rows _ (XM hg)
theorem lC.look(h:lC w base b m f) {q:Int}(hq:aL q) {t:bY}(ht:aM.underlying t=aC (.map 3 53)):(Instr.lookup t (.map (aC b)) (.int aF q) aP).run aM w= .ok (mE q m) w:=
 eX.look (P:=aM) aP Be ht (z:= .slice aB 0 0) (by kernel_rfl) h.map h.dom hq
theorem Ie {q:Int} {v:aN}(ha:wF m) {x:Int×aN}(hx:x∈eJ q v m):x=(q,v)\/(x∈m/\x.1≠q):=by
 induction m with
 |nil=>simp [eJ] at hx;exact aS hx
 |cons p m ih=>
  obtain⟨h1,h2⟩:=kX.1 ha;unfold eJ at hx;split at hx
  ·rename_i hc;have e:p.1=q:=by simpa using hc
   rcases fC.1 hx with hx|hx
   ·exact aS hx
   exact aU ⟨dh _ hx,λe'=>h1 x hx (e.trans e'.symm)⟩
  rename_i hc;rcases fC.1 hx with hx|hx
  ·subst hx;exact aU ⟨pD ..,by simpa using hc⟩
  rcases ih h2 hx with h|⟨h,h'⟩
  ·exact aS h
  exact aU ⟨dh _ h,h'⟩
theorem Xk {q:Int} {v:aN}:∀(m:List (Int×aN)),aA (eJ q v m)<=aA m+1
 | []=>by simp [eJ]
 |p::m=>by
  unfold eJ;split
  ·simp
  have:=Xk (q:=q) (v:=v) m;simp;omega
theorem Xl {q:Int} {v:aN} {x:Int×aN}(hx:x∈m):∃u,(x.1,u)∈eJ q v m:=by
 induction m with
 |nil=>simp at hx
 |cons p m ih=>
  unfold eJ;split
  ·rename_i hc;have e:p.1=q:=by simpa using hc
   rcases fC.1 hx with rfl|hx
   ·exact⟨v,by rw [e];exact pD ..⟩
   exact⟨x.2,dh _ hx⟩
  rcases fC.1 hx with rfl|hx
  ·exact⟨x.2,pD ..⟩
  obtain⟨u,hu⟩:=ih hx;exact⟨u,dh _ hu⟩
theorem Rh {q:Int} {v:aN}:∀(m:List (Int×aN)),(q,v)∈eJ q v m
 | []=>by simp [eJ]
 |p::m=>by
  unfold eJ;split
  ·exact pD ..
  exact dh _ (Rh m)
theorem aKt {t:bY}(ht:aM.underlying t=aC (.map 3 53))(h:eX aM 3 encI w b m)(hs:∃es clock,w.heap[b]? =aC (.map es clock)/\Stamped es clock)(hd:∀p∈m,aL p.1) {q:Int}(hq:aL q)(v:aN):
 ∃w',(EP t (.map (aC b)) (ν q) v).run aM w= .ok () w'/\eX aM 3 encI w' b (eJ q v m)/\w.grownBy w' (aC b)/\∃es clock,w'.heap[b]? =aC (.map es clock)/\Stamped es clock:=by
 obtain⟨w',hrun,hM,hg⟩:=h.store Be ht hd hq v;refine⟨w',hrun,hM,hg, ?_⟩;obtain⟨es,clock,hb,hs⟩:=hs;obtain⟨He,Gv,hb0,hm⟩:=h.blk;obtain⟨rfl,rfl⟩:es=He/\clock=Gv:=by rw [hb] at hb0;simpa using hb0
 obtain⟨kl,eF⟩:=Be.key q hq;change (EP t (.map (aC b)) (encI q) v).run aM w= .ok () w' at hrun;rcases eX.find Be hm hd hq w with⟨h1,h2⟩|⟨j,v0,h1,h2,e0,h3,h4,h5⟩
 ·simp [EP,run_underlying ht,BH hb,Be.keyed.check w aP eF,h1,GM _ hb,uH] at hrun;have hk:∀x∈es.toList,x.key≠encI q:=by
   intro x hx e;have h1:(x.key,x.val)∈m.map λp=>(encI p.1,p.2):=by rw [<-hm];exact aA0 (f:=λe=>(e.key,e.val)) hx
   obtain⟨p,hp,e'⟩:=dW.1 h1;injection e' with e1 e2;exact h2 p hp (Be.inj _ _ (e1.trans e))
  exact⟨_,_,by rw [<-hrun];exact heap_setBlock_same hb _,stamped_push hs hk⟩
 simp [EP,run_underlying ht,BH hb,Be.keyed.check w aP eF,h1,h3,h4,Be.keyed.stays w eF,GM _ hb,uH] at hrun;refine⟨_,_,by rw [<-hrun];exact heap_setBlock_same hb _,stamped_modify hs j (λe'=> {e' with key:=encI q,val:=v}) (λ_ _=>rfl) (λe _ h6=> ?_)⟩;have h7:=pE (h3.symm.trans h6);have h8:=h7▸h4;exact h8.symm
theorem lC.put {t:bY}(ht:aM.underlying t=aC (.map 3 53))(h:lC w base b m f) {q:Int}(hq:aL q)(hg:w.grownBy w1 (mE q m).ownBlock) {v':aN} {ys:List Int}(hown:w1.ownsRow base 2 1 v' (aA ys) (ys.map encI))
 (hloc:v'.ownBlock=(mE q m).ownBlock\/∃g,v'.ownBlock=aC g/\w.heap.size<=g):
 ∃w2,(EP t (.map (aC b)) (ν q) v').run aM w1= .ok () w2/\lC w2 base b (eJ q v' m) (λk=>if k=q then ys else f k)/\w1.grownBy w2 (aC b):=by
 have jk:=h.slot q;have mA:aC b≠(mE q m).ownBlock:=λe=>Rc jk h.low e.symm
 obtain⟨es,clock,hb,hs⟩:=h.yr;have hlt:=h.map.lt;obtain⟨w2,hrun,hM,hg2,hst⟩:=aKt ht (h.map.grown hg mA) ⟨es,clock,(hg.block b hlt mA).trans hb,hs⟩ h.dom hq v';have apart:∀p∈m,p.1≠q->p.2.ownBlock=aB\/p.2.ownBlock≠(mE q m).ownBlock:=by
  intro p hp hne;unfold mE;cases KA:getM q m with
  |none=>cases p.2.ownBlock<;>simp [dy]
  |some v=>exact h.far p hp _ (XM KA) hne
 have apart':∀p∈m,p.1≠q->p.2.ownBlock=aB\/p.2.ownBlock≠v'.ownBlock:=by
  intro p hp hne;rcases hloc with e|⟨g,e,zt⟩
  ·rw [e];exact apart p hp hne
  cases hx:p.2.ownBlock with
  |none=>exact aS rfl
  |some gx=>
   refine aU λe'=> ?_
   have:=((h.rows p hp).lt gx hx).2;rw [e] at e';cases e';omega
 refine⟨w2,hrun,⟨hM,hst,h.low,λp hp=> ?_,λp hp p' ni hne=> ?_,λk hk=> ?_,λp hp=> ?_⟩,hg2⟩
 ·rcases Ie h.map.apart hp with rfl|⟨hp,hne⟩
  ·simp only [ifP];exact hown.kept hg2 (aU (Rc hown h.low))
  simp only [ifN hne];have h1:=(h.rows p hp).kept hg (apart p hp hne);exact h1.kept hg2 (aU (Rc h1 h.low))
 ·rcases Ie h.map.apart hp with rfl|⟨hp,mU⟩
  ·rcases Ie h.map.apart ni with rfl|⟨ni,a4S⟩
   ·exact absurd rfl hne
   rcases apart' p' ni a4S with e|e
   ·cases hv:v'.ownBlock with
    |none=>exact aS rfl
    |some g=>exact aU (by rw [e];simp)
   exact aU λe'=>e e'.symm
  rcases Ie h.map.apart ni with rfl|⟨ni,a4S⟩
  ·exact apart' p hp mU
  exact h.far p hp p' ni hne
 ·have hkq:k≠q:=λe=>hk _ (Rh m) e.symm
  simp only [ifN hkq];refine h.off k λp hp e=> ?_
  obtain⟨u,hu⟩:=Xl (q:=q) (v:=v') hp;exact hk _ hu e
 rcases Ie h.map.apart hp with rfl|⟨hp,_⟩
 ·exact hq
 exact h.dom p hp
theorem lC.keys(h:lC w base b m f)(hl:aA m<=bM):∃D:DataW Unit,w.ownsMap aM 3 (λ_=>aC (.nil,[])) b (aA m) D/\Maps.size D=aA m/\(m.map (·.1)).Perm (intKeys D):=by
 obtain⟨es,clock,hb,hs⟩:=h.yr;obtain⟨He,Gv,hb0,hm⟩:=h.map.blk;obtain⟨rfl,rfl⟩:es=He/\clock=Gv:=by rw [hb] at hb0;simpa using hb0
 have hsz:es.size=aA m:=by have:=congrArg List.length hm;simpa using this
 have hkey:∀x∈es.toList,∃p∈m,x.key=encI p.1:=by
  intro x hx;have h1:(x.key,x.val)∈m.map λp=>(encI p.1,p.2):=by rw [<-hm];exact aA0 (f:=λe=>(e.key,e.val)) hx
  obtain⟨p,hp,e'⟩:=dW.1 h1;injection e' with e1 e2;exact⟨p,hp,e1.symm⟩
 have eF:∀q,aL q->keyOf aM 3 (encI q)=aC (.int aF q):=λq hq=>a8n xA (a4h hq)
 have F:aMH (H:=Unit) aM 3 (λ_=>aC (.nil,[])) es clock:=⟨by rw [hsz];exact hl,hs,λx hx=>by obtain⟨p,hp,e⟩:=hkey x hx;exact⟨(.int aF p.1,.nil),by simp [aCH,e,eF p.1 (h.dom p hp)]⟩⟩;have hrg:es.toList.map (PL (H:=Unit) aM 3 (λ_=>aC (.nil,[])))=m.map λp=>(Lit.int aF p.1,DataW.nil):=by
  have e1:es.toList.map (λe=>(e.key))=m.map λp=>encI p.1:=by have:=congrArg (List.map Prod.fst) hm;simpa [Ld,Function.comp_def] using this
  have e2:es.toList.map (PL (H:=Unit) aM 3 (λ_=>aC (.nil,[])))=(es.toList.map (λe=>e.key)).map λv=>((keyOf aM 3 v).map λkl=>(kl,(DataW.nil:DataW Unit))).getD (.bool aP,.nil):=by
   rw [Ld];refine Jb λx _=> ?_
   simp only [PL,aCH,Function.comp];cases keyOf aM 3 x.key<;>rfl
  rw [e2,e1,Ld];refine Jb λp hp=> ?_
  simp [eF p.1 (h.dom p hp)]
 refine⟨.map ((es.toList.map (PL aM 3 (λ_=>aC (.nil,[])))).foldr DataW.insert []),⟨es,clock,hb,F,by omega,rfl⟩, ?_, ?_⟩
 ·rw [Maps.size_eq,length_sorted];simp [hsz]
 have hp:=(aMI (es.toList.map (PL (H:=Unit) aM 3 (λ_=>aC (.nil,[])))));have h2:=(hp.map λp:Lit×DataW Unit=>Go.intOf p.1).symm;refine List.Perm.trans ?_ h2;rw [hrg,Ld];exact List.Perm.of_eq (Jb λp _=>rfl)
end
end
section
open Go.Maps Go.Sort Go.Shelf
theorem aHN(mb:Option Nat)(W:aJ):aQ aM 231 #[.map mb] W λe w'=>e=aT (.func (.func 262) #[] #[bF (aC ⟨W.heap.size,0,aB⟩)])/\w'=W.alloc (aK #[.map mb] 272):=
 sj.1 (AnyZI.keys_in keysA Kn 5 trivial rfl mb W)
theorem aKg(m:Nat):AnyZI.SortsIn aM sortedA_ren Kn m:=
 ⟨λblk off cap ss W hH hblk hsz=>sj.2 (slices_Sort_int blk off cap ss W hH hblk hsz),
  λp cap W=>sj.2 (slices_Sort_int_none p cap W)⟩
def nj(m:List (Int×aN)):List Int:=(m.map (·.1)).mergeSort λx y=>decide (x<=y)
theorem aHM(m:List (Int×aN)):aA (nj m)=aA m:=by simp [nj]
theorem aKh {w:aJ} {base b:Nat} {m:List (Int×aN)} {f:Int->List Int}(h:lC w base b m f)(hl:aA m<=1000000):
 aQ aM 230 #[.func (.func 262) #[] #[π w.heap.size]] (w.alloc (aK #[.map (aC b)] 272)) λe w'=>
  ∃A c,e=aT (aH A (aA m) c)/\aW w' w'.heap.size A ((nj m).map (aG aF))/\aa (w.heap.size+1) (w.alloc (aK #[.map (aC b)] 272)) w':=by
 obtain⟨D,hown,hsz,a4T⟩:=h.keys (by unfold bM;omega);have hbl:=hown.lt
 have hseq:SeqGives Kn 2 aM 262 #[π w.heap.size] encZ (λss=>ss.Perm (intKeys D)) (Maps.size D) (w.alloc (aK #[.map (aC b)] 272)):=
  AnyZI.keys_gives (ρ:=keysA_ren) {keysA with} Kn _ trivial rfl (by omega) w.heap.size b _ D _ (by simp) (by simp) (by obtain⟨es,clock,hb,Ft,hs,hD⟩:=hown;exact⟨es,clock,(Below.heap_alloc _ _ b hbl).trans hb,Ft,hs,hD⟩)
 have cS:=AnyZI.sorted_in sortedA Kn 5 trivial trivial trivial trivial rfl (by omega) (aKg _) (enters_of func217 (by kernel_rfl) rfl) 262 #[π w.heap.size] trivial (enters_of func262 (by kernel_rfl) rfl) _ _ (by rw [hsz];unfold bM;omega) (by rw [hsz];omega) _ hseq;have cS':=sj.1 cS;change aQ aM 230 _ _ _ at cS';refine cS'.mono ?_;rintro e w' ⟨v,ss,rfl,hp,hrow,-,hb⟩;have hlen:aA ss=aA m:=by have:=(hp.trans a4T.symm).length_eq;simpa using this
 have KB:=mergeSort_of_perm_i (hp.trans a4T.symm);rw [KB,hlen] at hrow;obtain⟨A,c,rfl⟩:=bK hrow;exact⟨A,c,rfl,aW.cA hrow,by simpa using hb⟩
end
theorem Rn {k:IntKind} {a b:Int}(h:a=b):aT (aG k a)=aT (aG k b):=by rw [h]
def rA(a:Int):Nat:=a.natAbs
theorem a6y(a:Int)(w:aJ)(ha:aL a):aQ aM 204 #[aG aF a] w λe w'=>e=aT (aG .u64 (rA a:Int))/\w=w':=by
 have ha1:=ha.1;have ha2:=ha.2;have hn:rA a=a.natAbs:=rfl;have HN:=η hn;by_cases h:0<=a
 ·go_enter aAr,aBe
  go_wp2
  go_ret;refine⟨Rn ?_,rfl⟩;have hn:=HN.o;first|omega|(simp only [ux];omega)
 go_enter aAr,aBe
 go_wp2
 go_ret;refine⟨Rn ?_,rfl⟩;have hn:=HN.o;first|omega|(simp only [ux,fZ];omega)
theorem Y5(a:Int)(w:aJ)(ha:aL a):aQ aM 259 #[aG aF a] w λe w'=>e=aT (aG .u64 (rA a:Int))/\w=w':=by
 have ha1:=ha.1;have ha2:=ha.2;have hn:rA a=a.natAbs:=rfl;have HN:=η hn;by_cases h:a<0
 ·go_enter aAu,aBh
  go_wp2
  go_ret;refine⟨Rn ?_,rfl⟩;have hn:=HN.o;first|omega|(simp only [ux];omega)
 go_enter aAu,aBh
 go_wp2
 go_ret;refine⟨Rn ?_,rfl⟩;have hn:=HN.o;first|omega|(simp only [ux];omega)
theorem a6n {k:IntKind} {a c:Int} {b d:Bool}(h:a=c)(h':b=d):aT (bB #[aG k a,bJ b])=aT (bB #[aG k c,bJ d]):=by rw [h,h']
def Nj(n:Nat)(b:Bool):Int:=if b then (if n<=9223372036854775808 then-(n:Int) else 18446744073709551616-n) else (if n<9223372036854775808 then n else n-18446744073709551616)
def Ij(n:Nat)(b:Bool):Bool:=if b then decide (n<=9223372036854775808) else decide (n<9223372036854775808)
theorem Y4(n:Nat)(b:Bool)(w:aJ)(hn:n<18446744073709551616):aQ aM 260 #[aG .u64 (n:Int),bJ b] w λe w'=>e=aT (bB #[aG aF (Nj n b),bJ (Ij n b)])/\w=w':=by
 cases b
 ·go_enter aAv,aBi
  go_wp2
  go_ret2;refine⟨a6n ?_ ?_,rfl⟩
  ·unfold Nj fS;simp only [Yj,if_false];split<;>omega
  unfold Ij;simp only [Yj,if_false];exact decide_eq_decide.2 (by omega)
 go_enter aAv,aBi
 go_wp2
 go_ret2;refine⟨a6n ?_ ?_,rfl⟩
 ·unfold Nj fS;simp only [ux,if_true];split<;>omega
 unfold Ij;simp only [if_true];exact decide_eq_decide.2 (by omega)
theorem SE {a:Int}(ha:aL a):rA a<=9223372036854775808:=by have:=ha.1;have:=ha.2;unfold rA;omega
theorem a7z(a b:Int):rA a*rA b=(a*b).natAbs:=(Int.natAbs_mul a b).symm
theorem mul_neg {a b:Int}(h:(decide (a<0) !=decide (b<0))=aO):a*b<=0:=by
 by_cases h1:a<0
 ·by_cases h2:b<0
  ·simp [h1,h2] at h
  exact Int.mul_nonpos_of_nonpos_of_nonneg (show a<=0 by omega) (show 0<=b by omega)
 by_cases h2:b<0
 ·exact Int.mul_nonpos_of_nonneg_of_nonpos (show 0<=a by omega) (show b<=0 by omega)
 simp [h1,h2] at h
theorem a5l {a b:Int}(h:(decide (a<0) !=decide (b<0))=aP):0<=a*b:=by
 by_cases h1:a<0
 ·by_cases h2:b<0
  ·have:=Int.mul_pos_of_neg_of_neg h1 h2;omega
  simp [h1,h2] at h
 by_cases h2:b<0
 ·simp [h1,h2] at h
 exact Int.mul_nonneg (show 0<=a by omega) (show 0<=b by omega)
theorem aI2 {z:Int} {p hi lo:Nat} {s:Bool}(hp:p=z.natAbs)(hn:s=aO->z<=0)(hs:s=aP->0<=z)(nZ:lo=p % 18446744073709551616)(DV:hi=p/18446744073709551616):
 (hi≠0->¬aL z)/\(hi=0->Ij lo s=aP->¬aL z)/\(hi=0->Ij lo s=aO->aL z/\Nj lo s=z):=by
 unfold aL Ij Nj;cases s
 ·have:=hs rfl;refine⟨λh=>by omega,λh h'=> ?_,λh h'=> ?_⟩
  ·simp at h';omega
  simp at h';simp [h'];omega
 have:=hn rfl;refine⟨λh=>by omega,λh h'=> ?_,λh h'=> ?_⟩
 ·simp at h';omega
 simp at h';simp [h'];omega
theorem XO(a b:Int)(w:aJ)(ha:aL a)(hb:aL b):aQ aM 229 #[aG aF a,aG aF b] w λe w'=>e=aT (bB #[aG aF (gQ (a*b)),aG aF (dM (a*b))])/\w=w':=by
 have HA:=η ha;have HB:=η hb;obtain⟨z,hz⟩:=xq (a*b);obtain⟨lo,nZ⟩:=xq (rA a*rA b % 18446744073709551616);obtain⟨hi,DV⟩:=xq (rA a*rA b/18446744073709551616);have HM:∀W,Hid (aQ aM 258 #[aG .u64 (rA a:Int),aG .u64 (rA b:Int)] W λe w'=>e=aT (bB #[aG .u64 (hi:Int),aG .u64 (lo:Int)])/\w'=W):=λW=>η (by have h1:=SE ha;have h2:=SE hb;rw [nZ,DV];exact bits_Mul64 (rA a) (rA b) (by omega) (by omega) W)
 have WS:lo<18446744073709551616:=by omega
 obtain⟨sg,nC⟩:∃sg:Bool,sg= !(decide (a<0)==decide (b<0)):=⟨_,rfl⟩;have HW:=η (aI2 (z:=z) (s:=sg) (by rw [a7z,hz]) (λh=>by rw [hz];exact mul_neg (nC.symm.trans h)) (λh=>by rw [hz];exact a5l (nC.symm.trans h)) nZ DV);rw [<-hz];have HS:=η nC;clear ha hb nZ DV hz nC;by_cases hh:hi=0
 ·subst hh;cases hB:Ij lo sg
  ·have hno:=HW.o.2.1 rfl hB;go_enter a0f,a0z
   go_wp2_with (first|(go_at_call 259;refine(Y5 _ _ (by first|exact HA|exact HB)).mono ?_;rintro e w' ⟨rfl,rfl⟩)|(go_at_call 258;refine(HM _).o.mono ?_;rintro e w' ⟨rfl,rfl⟩)|(go_at_call 260;rw [<-HS.o];refine(Y4 lo sg _ WS).mono ?_;rintro e w' ⟨rfl,rfl⟩))
   go_ret2;exact⟨nH (gp hno).1.symm (gp hno).2.symm,rfl⟩
  have Dd:=HW.o.2.2 rfl hB;go_enter a0f,a0z
  go_wp2_with (first|(go_at_call 259;refine(Y5 _ _ (by first|exact HA|exact HB)).mono ?_;rintro e w' ⟨rfl,rfl⟩)|(go_at_call 258;refine(HM _).o.mono ?_;rintro e w' ⟨rfl,rfl⟩)|(go_at_call 260;rw [<-HS.o];refine(Y4 lo sg _ WS).mono ?_;rintro e w' ⟨rfl,rfl⟩))
  go_ret2;exact⟨nH (by rw [(eA Dd.1).1]) (eA Dd.1).2.symm,rfl⟩
 have hno:=HW.o.1 hh;go_enter a0f,a0z
 go_wp2_with (first|(go_at_call 259;refine(Y5 _ _ (by first|exact HA|exact HB)).mono ?_;rintro e w' ⟨rfl,rfl⟩)|(go_at_call 258;refine(HM _).o.mono ?_;rintro e w' ⟨rfl,rfl⟩)|(go_at_call 260;rw [<-HS.o];refine(Y4 lo sg _ WS).mono ?_;rintro e w' ⟨rfl,rfl⟩))
 go_ret2;exact⟨nH (gp hno).1.symm (gp hno).2.symm,rfl⟩
def tU(x:ak)(i:Int):Prop:=1<=i/\i<=aA x.ss
instance(x:ak)(i:Int):Decidable (tU x i):=inferInstanceAs (Decidable (_/\_))
def dY(x:ak)(i:Int):Pr:=if tU x i then x.ss.getD (i-1).toNat ⟨0,0⟩ else⟨0,0⟩
def jI(x:ak)(i:Int):Int:=if tU x i then 0 else 10
theorem a7F {x:ak} {i:Int}(h:¬tU x i):dY x i=⟨0,0⟩/\jI x i=10:=by unfold dY jI;rw [ifN h,ifN h];exact⟨rfl,rfl⟩
theorem aKK {x:ak} {k:Nat}(h:k<aA x.ss):dY x ((k:Int)+1)=x.ss[k]/\jI x ((k:Int)+1)=0:=by
 have h1:tU x ((k:Int)+1):=by unfold tU;omega
 unfold dY jI;rw [ifP h1,ifP h1,show ((k:Int)+1-1).toNat=k by omega];exact⟨by simp [List.getD,h],rfl⟩
theorem Nh(x:ak)(i:Int)(w:aJ)(h:lX w x)(hI:aL i):
 aQ aM 117 #[x.val,ν i] w λe w'=>e=aT (bB #[bU #[ν (dY x i).a,ν (dY x i).b],ν (jI x i)])/\β w w':=by
 have aY:=η (mQ w x);have wO:=(zg w x).c1;have HS:=η (h.s.below (mQ w x));have DL:=hI.1;have hI2:=hI.2;by_cases h1:i<1
 ·have hP:=a7F (x:=x) (i:=i) (by unfold tU;omega);rw [hP.1,hP.2];unfold ak.val at*;go_enter a0W,a0q
  go_wp2_with fail
  exact bodyPost_ret (v:=bB #[bU #[ν 0,ν 0],ν 10]) (by simp [results,a1H,go_sem]) rfl ⟨rfl,by repeat (first|exact aY.o|refine E2 ?_ (by simp) _|refine rC ?_ (by simp) _)⟩
 by_cases h2:i<=aA x.ss
 ·obtain⟨k,hk⟩:∃k:Nat,k=(i-1).toNat:=⟨_,rfl⟩;have eF:k<aA x.ss:=by omega
  have hik:i=(k:Int)+1:=by omega
  have hP:=aKK eF;rw [<-hik] at hP;rw [hP.1,hP.2];have em:i-1=(k:Int):=by omega
  have h3:¬i>(aA x.ss:Int):=by omega
  clear hP hk hik h2;unfold ak.val at*;obtain⟨b,o,hA,hb,d0,d1⟩:=FX HS.o eF;rw [hA] at aY wO d0 d1 ⊢;have ny:=η hb;generalize x.ss[k]=p at*;go_enter a0W,a0q
  go_wp2_with fail
  exact bodyPost_ret (v:=bB #[bU #[ν p.a,ν p.b],ν 0]) (by simp [results,a1H,go_sem]) rfl ⟨rfl,by repeat (first|exact aY.o|refine E2 ?_ (by simp) _|refine rC ?_ (by simp) _)⟩
 have hP:=a7F (x:=x) (i:=i) (by unfold tU;omega);rw [hP.1,hP.2];clear hP;unfold ak.val at*;go_enter a0W,a0q
 go_wp2_with fail
 exact bodyPost_ret (v:=bB #[bU #[ν 0,ν 0],ν 10]) (by simp [results,a1H,go_sem]) rfl ⟨rfl,by repeat (first|exact aY.o|refine E2 ?_ (by simp) _|refine rC ?_ (by simp) _)⟩
def Aa(x:ak)(a n:Int):Int:=if tU x a then (if n<1 then 0 else gQ (n*(dY x a).a)) else 0
def xl(x:ak)(a n:Int):Int:=if tU x a then (if n<1 then 1 else dM (n*(dY x a).a)) else 10
theorem aLj(x:ak)(m a n:Int)(w:aJ)(h:lX w x)(ha:aL a)(hn:aL n)(hp:aL (dY x a).a):
 aQ aM 197 #[x.val,bU #[ν m,ν a,ν n]] w λe w'=>e=aT (bB #[ν (Aa x a n),ν (xl x a n)])/\β w w':=by
 have aY:=η (((aX _ w).alloc (aZ _) (aK #[aH x.Am (aA x.ms) x.cm,aH x.As (aA x.ss) x.cs,aH x.Ac (aA x.cy) x.cc,ν x.line,ν x.bV,ν x.lead,ν x.tr,ν x.bQ] 26)).alloc (by simp) (aK #[ν m,ν a,ν n] 76));have HS:=λW (hb:β w W)=>η (Nh x a W (h.below hb) ha)
 have zL:=η HS;have HN:=η hn;have HP:=η hp;have hV:Aa x a n=if tU x a then (if n<1 then 0 else gQ (n*(dY x a).a)) else 0:=rfl
 have hE:xl x a n=if tU x a then (if n<1 then 1 else dM (n*(dY x a).a)) else 10:=rfl
 have Qn:jI x a=if tU x a then 0 else 10:=rfl
 generalize Aa x a n=V at*;generalize xl x a n=E at*;unfold ak.val at*;have kJ:Hid (∀W,aa ((w.alloc (aK #[aH x.Am (aA x.ms) x.cm,aH x.As (aA x.ss) x.cs,aH x.Ac (aA x.cy) x.cc,ν x.line,ν x.bV,ν x.lead,ν x.tr,ν x.bQ] 26)).alloc (aK #[ν m,ν a,ν n] 76)).heap.size ((w.alloc (aK #[aH x.Am (aA x.ms) x.cm,aH x.As (aA x.ss) x.cs,aH x.Ac (aA x.cy) x.cc,ν x.line,ν x.bV,ν x.lead,ν x.tr,ν x.bQ] 26)).alloc (aK #[ν m,ν a,ν n] 76)) W->W.cell? ⟨w.heap.size+1,2,aB⟩=aC (ν n)):=η λW hb=>by rw [hb.cell (p:=⟨w.heap.size+1,2,aB⟩) (by simp)];simp
 by_cases hs:tU x a
 ·rw [ifP hs] at hV hE Qn;rw [Qn] at zL;generalize dY x a=q at*;by_cases h1:n<1
  ·rw [ifP h1] at hV hE;subst hV hE;go_enter a0d,a0x
   go_wp2_with (first|(go_at_call 117;refine(zL _ aY).o.mono ?_;rintro e w1 ⟨rfl,hb1⟩;have aR:=η (aY.o.trans (hb1.mono (by simp;omega)));have oK:w.heap.size+1<w1.heap.size:=(by have:=hb1.size;simp at this;omega);have k2:=kJ.o _ hb1)|(go_at_call 229;refine(XO _ _ _ HN HP).mono ?_;rintro e w1 ⟨rfl,rfl⟩))
   go_ret2;exact⟨rfl,aR.o.alloc (by omega) _⟩
  rw [ifN h1] at hV hE;subst hV hE;go_enter a0d,a0x
  go_wp2_with (first|(go_at_call 117;refine(zL _ aY).o.mono ?_;rintro e w1 ⟨rfl,hb1⟩;have aR:=η (aY.o.trans (hb1.mono (by simp;omega)));have oK:w.heap.size+1<w1.heap.size:=(by have:=hb1.size;simp at this;omega);have k2:=kJ.o _ hb1)|(go_at_call 229;refine(XO _ _ _ HN HP).mono ?_;rintro e w1 ⟨rfl,rfl⟩))
  go_ret2;exact⟨rfl,aR.o.alloc (by omega) _⟩
 rw [ifN hs] at hV hE Qn;rw [Qn] at zL;generalize dY x a=q at*;subst hV hE;go_enter a0d,a0x
 go_wp2_with (first|(go_at_call 117;refine(zL _ aY).o.mono ?_;rintro e w1 ⟨rfl,hb1⟩;have aR:=η (aY.o.trans (hb1.mono (by simp;omega)));have oK:w.heap.size+1<w1.heap.size:=(by have:=hb1.size;simp at this;omega);have k2:=kJ.o _ hb1)|(go_at_call 229;refine(XO _ _ _ HN HP).mono ?_;rintro e w1 ⟨rfl,rfl⟩))
 go_ret2;exact⟨rfl,aR.o.alloc (by omega) _⟩
theorem Rz {P:Program} {w:aJ} {ops:Array Oper} {o:Oper} {a:Act} {K:Act->aJ->Prop} {Q:Exit->Act->aJ->Prop} {E:Prop}(hgd:o.guard=aB)(t:bY)(mo xo vo:Operand)(ho:o.op= .mapUpdate t mo xo vo)
 {b:Nat} {q:aN} {v:aN} (hm:a.eval mo= .map (aC b)) (hx:a.eval xo=q) (hv:a.eval vo=v) {R:aJ->Prop} (hrun:∃w2,(EP t (.map (aC b)) q v).run P w= .ok () w2/\R w2) (h:∀w2,R w2->K (a.put o.dst undef) w2):
 if Jf o (yielded ops a.tmps)=aO then Oper.wp P o a w K Q else E:=by
 have hw:Jf o (yielded ops a.tmps)=aO:=by simp [Jf,hgd]
 rw [ifP hw];obtain⟨w2,hr,h2⟩:=hrun;unfold Oper.wp;simp [execOp,ho,hm,hx,hv,hr,uH];exact h w2 h2
def mF(x:ak)(L:List Lg)(q:Int):List Int:=(L.filter λy=>y.m==q).map λy=>Aa x y.a y.n
def wthsE(x:ak):List Lg->Int
 | []=>0
 |y::L=>if xl x y.a y.n=0 then wthsE x L else xl x y.a y.n
theorem aLz(x:ak) {L:List Lg} {k:Nat}(hk:k<aA L)(q:Int):mF x (L.take (k+1)) q=if q=L[k].m then mF x (L.take k) q++ [Aa x L[k].a L[k].n] else mF x (L.take k) q:=by
 unfold mF;rw [fE hk,List.filter_append,df];by_cases h:q=L[k].m
 ·rw [ifP h];simp [h]
 rw [ifN h];have h':¬L[k].m=q:=λe=>h e.symm
 simp [h']
theorem a8Z {x:ak}:∀ {L:List Lg} {k:Nat} (hk:k<aA L),(∀j (hj:j<k),xl x L[j].a L[j].n=0)->xl x L[k].a L[k].n≠0->wthsE x L=xl x L[k].a L[k].n
 |y::L,0,_,_,h=>by unfold wthsE;rw [ifN (by simpa using h)];rfl
 |y::L,k+1,hk,h,h'=>by unfold wthsE;rw [ifP (by have:=h 0 (by omega);simpa using this)];exact a8Z (by simpa using hk) (λj hj=>by have:=h (j+1) (by omega);simpa using this) (by simpa using h')
theorem a8Y {x:ak}:∀ {L:List Lg},(∀j (hj:j<aA L),xl x L[j].a L[j].n=0)->wthsE x L=0
 | [],_=>rfl
 |y::L,h=>by unfold wthsE;rw [ifP (by have:=h 0 (by simp);simpa using this)];exact a8Y λj hj=>by have:=h (j+1) (by simpa using hj);simpa using this
theorem a4g:(aM.info? 2).map (λi=>(i.zero,i.size,i.bytes))=aC (aC (aG aF 0),1,8):=by kernel_rfl
structure WI(x:ak)(L:List Lg)(w wr:aJ)(k:Nat)(m:List (Int×aN)):Prop where
 g:lC wr (w.heap.size+2) (w.heap.size+1) m (mF x (L.take k))
 len:aA m<=k
 ks:∀q,(∃p∈m,p.1=q)↔∃y∈L.take k,y.m=q
 ok:∀j (hj:j<aA L),j<k->xl x L[j].a L[j].n=0
 bx:pX wr w.heap.size x
 b:β w wr
theorem pX.grown {w w':aJ} {bx:Nat} {x:ak} {row:Option Nat}(h:pX w bx x)(hg:w.grownBy w' row)(hne:aC bx≠row):pX w' bx x:=
 have k:=λo=>gh (w:=w) (w':=w') (a:=⟨bx,o,aB⟩) (hg.block bx h.lt hne)
 ⟨(k 0).trans h.c0,(k 1).trans h.c1,(k 2).trans h.c2,(k 3).trans h.c3,(k 4).trans h.c4,(k 5).trans h.c5,(k 6).trans h.c6,(k 7).trans h.c7,cP h.lt hg.size⟩
theorem WI.below {x:ak} {L:List Lg} {w wr w2:aJ} {k:Nat} {m:List (Int×aN)}(h:WI x L w wr k m)(hb:aa wr.heap.size wr w2):WI x L w w2 k m:=
 ⟨h.g.below (aZ _) hb,h.len,h.ks,h.ok,h.bx.below hb,h.b.trans (hb.mono h.b.size)⟩
theorem WI.step {x:ak} {L:List Lg} {w w2 w4 w5:aJ} {k:Nat} {m:List (Int×aN)} {v':aN}(h:WI x L w w2 k m)(hk:k<aA L)(he:xl x L[k].a L[k].n=0)
 (hg:w2.grownBy w4 (mE L[k].m m).ownBlock) (h5:lC w5 (w.heap.size+2) (w.heap.size+1) (eJ L[k].m v' m) (λq=>if q=L[k].m then mF x (L.take k) L[k].m++ [Aa x L[k].a L[k].n] else mF x (L.take k) q)) (ej:w4.grownBy w5 (aC (w.heap.size+1))):WI x L w w5 (k+1) (eJ L[k].m v' m):=by
 have hrow:∀j,(mE L[k].m m).ownBlock=aC j->w.heap.size+2<=j:=λj hj=>((h.g.slot L[k].m).lt j hj).1
 have hb4:=h.b.grown hg h.b.size λj hj=>by have:=hrow j hj;omega
 refine⟨?_, ?_,λq=> ?_,λj hj hjk=> ?_, ?_, ?_⟩
 ·have e:(λq=>if q=L[k].m then mF x (L.take k) L[k].m++ [Aa x L[k].a L[k].n] else mF x (L.take k) q)=mF x (L.take (k+1)):=by
   funext q;rw [aLz x hk q];by_cases e:q=L[k].m
   ·rw [ifP e,ifP e,e]
   rw [ifN e,ifN e]
  rw [<-e];exact h5
 ·have:=Xk (q:=L[k].m) (v:=v') m;have:=h.len;omega
 ·have h1:=h.ks q;rw [fE hk];constructor
  ·rintro⟨p,hp,rfl⟩;rcases Ie h.g.map.apart hp with rfl|⟨hp,_⟩
   ·exact⟨L[k],GK _ (List.mem_singleton.2 rfl),rfl⟩
   obtain⟨y,hy,e⟩:=h1.1 ⟨p,hp,rfl⟩;exact⟨y,vA _ hy,e⟩
  rintro⟨y,hy,rfl⟩;rcases gJ.1 hy with hy|hy
  ·obtain⟨p,hp,e⟩:=h1.2 ⟨y,hy,rfl⟩;obtain⟨u,hu⟩:=Xl (q:=L[k].m) (v:=v') hp;exact⟨_,hu,e⟩
  simp at hy;subst hy;exact⟨_,Rh m,rfl⟩
 ·by_cases e:j=k
  ·subst e;exact he
  exact h.ok j hj (by omega)
 ·refine(h.bx.grown hg (λe=> ?_)).grown ej (by simp);have:=hrow _ e.symm;omega
 exact hb4.grown ej hb4.size λj hj=>by cases hj;omega
theorem a5B {m:List (Int×aN)}(h:wF m):(nj m).Pairwise (· < ·):=by
 have h1:(nj m).Pairwise λa b=>decide (a<=b)=aO:=List.pairwise_mergeSort (λa b c h1 h2=>by simp only [decide_eq_true_eq] at*;omega) (λa b=>by simp only [Bool.or_eq_true,decide_eq_true_eq];omega) _
 have h2:(nj m).Pairwise (· ≠ ·):=((a0H _ _).pairwise_iff (λ{_ _} hne=>Ne.symm hne)).2 (BG.2 h);exact(h1.and h2).imp λ{a b} h=>by have:=h.1;simp only [decide_eq_true_eq] at this;have:=h.2;omega
theorem a5A {m:List (Int×aN)}(q:Int):q∈nj m↔∃p∈m,p.1=q:=by rw [show (q∈nj m)=(q∈m.map (·.1)) from propext (a0H _ _).mem_iff,dW]
theorem aM0(x:ak)(a n:Int):aL (Aa x a n):=by
 unfold Aa;split
 ·split
  ·unfold aL;omega
  exact Um _
 unfold aL;omega
theorem Yd(x:ak)(L:List Lg)(q:Int):aA (mF x L q)<=aA L/\∀z∈mF x L q,aL z:=by unfold mF;refine⟨by rw [iR];exact qd _ _,λz hz=> ?_⟩;obtain⟨y,_,rfl⟩:=dW.1 hz;exact aM0 _ _ _
theorem a7I(w:aJ)(t:bY)(xs:List aN):aW (w.alloc (aK xs.toArray t)) (w.alloc (aK xs.toArray t)).heap.size (aC ⟨w.heap.size,0,aB⟩) xs:=λj u hu=>
 ⟨w.heap.size,0,rfl,by simp,by rw [Nat.zero_add,cL _ _ _ j rfl,<-Array.getElem?_toList];exact hu⟩
theorem a7V:∀ {a b:List Int},a.Pairwise (· < ·)->b.Pairwise (· < ·)->(∀q,q∈a↔q∈b)->a=b
 | [],[],_,_,_=>rfl
 | [],y::b,_,_,h=>by have:=(h y).2 (by simp);simp at this
 |x::a,[],_,_,h=>by have:=(h x).1 (by simp);simp at this
 |x::a,y::b,ha,hb,h=>by
  obtain⟨ha1,ha2⟩:=kX.1 ha;obtain⟨hb1,hb2⟩:=kX.1 hb;have e:x=y:=by
   rcases fC.1 ((h x).1 (by simp)) with e|e
   ·exact e
   rcases fC.1 ((h y).2 (by simp)) with e'|e'
   ·exact e'.symm
   have:=hb1 x e;have:=ha1 y e';omega
  subst e;have h2:∀q,q∈a↔q∈b:=λq=>by
   constructor
   ·intro hq;rcases fC.1 ((h q).1 (by simp [hq])) with e|e
    ·have:=ha1 q hq;omega
    exact e
   intro hq;rcases fC.1 ((h q).2 (by simp [hq])) with e|e
   ·have:=hb1 q hq;omega
   exact e
  rw [a7V ha2 hb2 h2]
def ofV(m:Int):List Lg->Int
 | []=>0
 |y::L=>if y.m=m then y.n else ofV m L
theorem a5w {m:Int}:∀ {L:List Lg} {k:Nat} (hk:k<aA L),(∀j (hj:j<aA L),j<k->L[j].m≠m)->L[k].m=m->ofV m L=L[k].n
 |y::L,0,_,_,h=>by unfold ofV;rw [ifP (by simpa using h)];rfl
 |y::L,k+1,hk,h,h'=>by unfold ofV;rw [ifN (by have:=h 0 (by simp) (by omega);simpa using this)];exact a5w (by simpa using hk) (λj hj hjk=>by have:=h (j+1) (by simpa using hj) (by omega);simpa using this) (by simpa using h')
theorem a5z {m:Int}:∀ {L:List Lg},(∀j (hj:j<aA L),L[j].m≠m)->ofV m L=0
 | [],_=>rfl
 |y::L,h=>by unfold ofV;rw [ifN (by have:=h 0 (by simp);simpa using this)];exact a5z λj hj=>by have:=h (j+1) (by simpa using hj);simpa using this
theorem a2S(L:List Lg)(m:Int)(A:Option aj)(c:Nat)(w:aJ)(hs:aW w w.heap.size A (bA L))(hl:aA L<=100000):
 aQ aM 75 #[aH A (aA L) c,ν m] w λe w'=>e=aT (ν (ofV m L))/\β w w':=by
 have HS:=η hs;go_enter func75,ntmps75
 go_wp2
 go_loopw [9] (λi wr=>∃k:Nat,k<=aA L/\i=ν k/\Hid (∀j (hj:j<aA L),j<k->L[j].m≠m)/\Hid (β w wr)) (λi _=>aA L-(ag i).toNat)
 ·exact⟨0,bL _,rfl,λj _ h=>absurd h (Nat.not_lt_zero _),aX _ _⟩
 ·
  obtain⟨k,hk,rfl,HN,HB⟩:=hrel;have hsz:=HB.o.size;by_cases hlt:k<aA L
  ·obtain⟨b,o,rfl,hb,d0,d1,d2⟩:=oL (HS.o.below HB) hlt;have aR:Hid (∀v,β w (wr.alloc v)):=η λv=>HB.o.alloc hsz v
   by_cases hm:L[k].m=m
   ·have HV:=η (a5w hlt HN hm);go_wp2
    go_ret;exact⟨cW HV.o.symm,aR _⟩
   have vY:(L[k].m==m)=aP:=by rw [beq_eq_false_iff_ne];exact hm
   have uq:Hid (∀j (hj:j<aA L),j<k+1->L[j].m≠m):=η λj hj h=>by
    by_cases e:j=k
    ·subst e;exact hm
    exact HN j hj (by omega)
   go_wp2
   go_roundw
   ·exact⟨k+1,by omega,by go_num,uq,η (aR _)⟩
   simp [ag];omega
  obtain rfl:k=aA L:=by omega
  have HV:=η (a5z λj hj=>HN j hj hj);go_wp2
  go_ret;exact⟨cW HV.o.symm,HB⟩
theorem Rg(x:Lg)(L:List Lg)(n:Int)(xs:List Int):eo (x::L) (n::xs)=(if 0<n then [⟨x.m,x.a,n⟩] else [])++eo L xs:=by unfold eo;rw [EW,List.filter_cons];by_cases h:0<n<;>simp [h]
theorem a7S:∀ {L:List Lg} {xs:List Int} {z:Lg},z∈eo L xs->∃y∈L,z.m=y.m
 | [],_,z,h=>by simp [eo] at h
 |_::_,[],z,h=>by simp [eo] at h
 |y::L,n::xs,z,h=>by
  rw [Rg] at h;rcases gJ.1 h with h|h
  ·by_cases hn:0<n
   ·rw [ifP hn] at h;simp at h;exact⟨y,by simp,by rw [h]⟩
   rw [ifN hn] at h;simp at h
  obtain⟨u,hu,e⟩:=a7S h;exact⟨u,by simp [hu],e⟩
theorem a5y {m:Int}:∀ {L:List Lg},(∀y∈L,y.m≠m)->ofV m L=0
 | [],_=>rfl
 |y::L,h=>by unfold ofV;rw [ifN (h y (by simp))];exact a5y λz hz=>h z (by simp [hz])
def pick(m:Int):List Lg->List Int->Int
 |y::L,x::xs=>if y.m=m then x else pick m L xs
 |_,_=>0
theorem Xe(m:Int):∀L:List Lg,pick m L (bG L)=ofV m L
 | []=>rfl
 |y::L=>by
  show (if y.m=m then y.n else pick m L (bG L))=if y.m=m then y.n else ofV m L
  rw [Xe m L]
theorem a6N(m:Int):∀(L:List Lg) (c a:List Int),aA c=aA L->aA a=aA L->pick m L a+pick m L (kN (· - ·) c a)=pick m L c
 | [],_,_,_,_=>by simp [pick]
 |y::L,[],_,h,_=>by simp at h
 |y::L,_::_,[],_,h=>by simp at h
 |y::L,u::c,v::a,h,h'=>by have:=a6N m L c a (by simpa using h) (by simpa using h');rw [EW];unfold pick;split<;>omega
theorem XS {m:Int}:∀ {L:List Lg} {xs:List Int},L.Pairwise (λx y=>x.m<y.m)->(∀x∈xs,0<=x)->aA xs=aA L->ofV m (eo L xs)=pick m L xs
 | [],_,_,_,_=>by simp [eo,ofV,pick]
 |y::L,[],_,_,h=>by simp at h
 |y::L,n::xs,hp,hx,hl=>by
  obtain⟨h1,h2⟩:=kX.1 hp;have hr:=XS (m:=m) (xs:=xs) h2 (λx h=>hx x (by simp [h])) (by simpa using hl);have hn:=hx n (by simp);rw [Rg];unfold pick;by_cases hm:y.m=m
  ·rw [ifP hm];by_cases h0:0<n
   ·rw [ifP h0];simp [ofV,hm]
   rw [ifN h0,GL,a5y]
   ·omega
   intro z hz;obtain⟨u,hu,e⟩:=a7S hz;have:=h1 u hu;omega
  rw [ifN hm];by_cases h0:0<n
  ·rw [ifP h0];simp only [List.singleton_append,ofV];rw [ifN hm];exact hr
  rw [ifN h0,GL];exact hr
theorem a6O {m:Int}:∀ {L:List Lg} {xs ys:List Int},aA xs=aA L->aA ys=aA L->(∀i (h:i<aA xs) (h':i<aA ys),0<=xs[i]/\xs[i]<=ys[i])->0<=pick m L xs/\pick m L xs<=pick m L ys
 | [],_,_,_,_,_=>by simp [pick]
 |y::L,[],_,h,_,_=>by simp at h
 |y::L,_::_,[],_,h,_=>by simp at h
 |y::L,u::xs,v::ys,h,h',hb=>by
  unfold pick;split
  ·have:=hb 0 (by simp) (by simp);simpa using this
  exact a6O (by simpa using h) (by simpa using h') λi hi hi'=>by have:=hb (i+1) (by simpa using hi) (by simpa using hi');simpa using this
theorem aJc {L:List Lg}(h:dC L=0):L.Pairwise (λx y=>x.m<y.m):=by
 obtain⟨_,b,_⟩:=BO h;have step:∀k (hk:k+1<aA L),L[k].m<L[k+1].m:=λk hk=>by have:=b (k+1) hk;rw [Gl hk,Rf (by omega)] at this;simp at this;exact this.2.2
 have all:∀k (hk:k<aA L) i (hi:i<aA L),i<k->L[i].m<L[k].m:=by
  intro k;induction k with
  |zero=>intro _ i _ h;omega
  |succ k ih=>
   intro hk i hi hik;have s:=step k hk;by_cases e:i=k
   ·subst e;exact s
   have:=ih (by omega) i hi (by omega);omega
 exact vB.2 λi j hi hj rh=>all j hj i hi rh
theorem a7x:∀(c a:List Int),aA c=aA a->sumI (kN (· - ·) c a)=sumI c-sumI a
 | [],[],_=>by simp [sumI]
 | [],_::_,h=>by simp at h
 |_::_,[],h=>by simp at h
 |u::c,v::a,h=>by have:=a7x c a (by simpa using h);rw [EW];simp only [sumI];omega
theorem a7R:∀ {L:List Lg} {xs:List Int},aA xs=aA L->(∀x∈xs,0<=x)->(eo L xs= []↔sumI xs=0)
 | [],[],_,_=>by simp [eo,sumI]
 | [],_::_,h,_=>by simp at h
 |_::_,[],h,_=>by simp at h
 |y::L,n::xs,h,hx=>by
  have hr:=a7R (L:=L) (xs:=xs) (by simpa using h) λx mV=>hx x (by simp [mV])
  have hn:=hx n (by simp);have hs:0<=sumI xs:=a7w λx h=>hx x (by simp [h])
  rw [Rg];simp only [sumI];by_cases h0:0<n
  ·rw [ifP h0];constructor
   ·intro h;simp at h
   intro h;omega
  rw [ifN h0,GL,hr];omega
structure aAN(cz:Int)(L:List Lg)(m:Int):Prop where
 g:jf cz L=eo L (dK cz (bG L))
 k:jm cz L=eo L (kN (· - ·) (bG L) (dK cz (bG L)))
 gl:aA (jf cz L)<=aA L
 ll:aA (jm cz L)<=aA L
 al:aA (dK cz (bG L))=aA L
 bd:∀i (h:i<aA (dK cz (bG L))) (h':i<aA L),0<=(dK cz (bG L))[i]/\(dK cz (bG L))[i]<=L[i].n
 of:ofV m (jf cz L)+ofV m (jm cz L)=ofV m L
 lo:0<=ofV m (jf cz L)/\ofV m (jf cz L)<=ofV m L
 em:jm cz L= []↔sumI (bG L)<=cz
theorem aJB {cz:Int} {L:List Lg}(m:Int)(h:jJ cz L=0):aAN cz L m:=by
 obtain⟨QO,jz,K5⟩:=Pj h;have G:=Ek QO;have nB:oM (bG L) (dK cz (bG L))=kN (· - ·) (bG L) (dK cz (bG L)):=by unfold oM;rw [ifP (VT QO)]
 have hg:jf cz L=eo L (dK cz (bG L)):=by unfold jf;rw [ifP h]
 have hk:jm cz L=eo L (kN (· - ·) (bG L) (dK cz (bG L))):=by unfold jm;rw [ifP h,nB]
 have hlen:aA (dK cz (bG L))=aA L:=by rw [G.len,qh]
 have hzl:aA (kN (· - ·) (bG L) (dK cz (bG L)))=aA L:=by rw [ET,qh,hlen,Nat.min_self]
 have p1:∀x∈dK cz (bG L),0<=x:=λx hx=>by obtain⟨i,hi,rfl⟩:=sW.1 hx;exact(G.bd i hi (by rw [<-G.len];exact hi)).1
 have p2:∀x∈kN (· - ·) (bG L) (dK cz (bG L)),0<=x:=λx hx=>by obtain⟨i,hi,rfl⟩:=sW.1 hx;rw [ET] at hi;rw [List.getElem_zipWith];have:=G.bd i (by omega) (by omega);omega
 have hr:=aJc jz;have a1:=XS (m:=m) hr p1 hlen;have a2:=XS (m:=m) hr p2 hzl;have a3:=a6N m L (bG L) (dK cz (bG L)) (qh L) hlen;rw [Xe] at a3;have a4:=a6O (m:=m) (L:=L) hlen (qh L) λi h1 h2=>G.bd i h1 h2
 rw [Xe] at a4;refine⟨hg,hk,by rw [hg];exact Rx _ _,by rw [hk];exact Rx _ _,hlen,λi h1 h2=> ?_,by rw [hg,hk,a1,a2];exact a3,by rw [hg,a1];exact a4, ?_⟩
 ·have:=G.bd i h1 (by rw [qh];exact h2);have e:(bG L)[i]'(by rw [qh];exact h2)=L[i].n:=wk _;rw [e] at this;exact this
 rw [hk,a7R hzl p2,a7x _ _ (by rw [qh,hlen]),G.sum];omega
def sr(L:List Lg):Bool:=decide (aA L=0)||decide (xC L=0)
def yT(cz:Int)(L:List Lg):Int:=if dC L≠0 then dC L else if sr L=aP then 1 else if cz<0 then 1 else 0
def oC(L:List Lg):Int:=if dC L≠0 then dC L else if sr L=aP then 1 else 0
def zi(cz:Int)(L:List Lg):List Lg:=if yT cz L=0 then jf cz L else []
def zj(cz:Int)(L:List Lg):List Lg:=if yT cz L=0 then jm cz L else []
theorem aJC {cz:Int} {L:List Lg}(h:oC L≠0):yT cz L=oC L/\zi cz L= []/\zj cz L= []:=by
 have e:yT cz L=oC L:=by
  unfold yT oC at*;by_cases h1:dC L≠0
  ·rw [ifP h1,ifP h1]
  rw [ifN h1] at h;rw [ifN h1,ifN h1];by_cases h2:sr L=aP
  ·rw [ifP h2,ifP h2]
  rw [ifN h2] at h;exact absurd rfl h
 unfold zi zj;rw [e,ifN h,ifN h];exact⟨rfl,rfl,rfl⟩
theorem aJE {cz:Int} {L:List Lg}(h:oC L=0):yT cz L=jJ cz L/\zi cz L=jf cz L/\zj cz L=jm cz L:=by
 have e:yT cz L=jJ cz L:=by
  unfold yT oC jJ at*;by_cases h1:dC L≠0
  ·rw [ifP h1] at h;exact absurd h h1
  rw [ifN h1] at h;rw [ifN h1,ifN h1];by_cases h2:sr L=aP
  ·rw [ifP h2] at h;exact absurd h (by decide)
  rw [ifN h2]
 unfold zi zj;rw [e];refine⟨rfl, ?_, ?_⟩
 ·split
  ·rfl
  rename_i h;unfold jf;rw [ifN h]
 split
 ·rfl
 rename_i h;unfold jm;rw [ifN h]
theorem aDN {w:aJ} {B:Nat} {A:Option aj} {L:List Lg}(h:aW w B A (bA L))(hk:0<aA L):∃b o,A=aC ⟨b,o,aB⟩/\b<B/\w.cell? ⟨b,o+1,aB⟩=aC (aG aF (xC L)):=by obtain⟨b,o,e,hb,_,d1,_⟩:=oL h hk;rw [Nat.zero_mul,GU,<-Un hk] at d1;exact⟨b,o,e,hb,d1⟩
theorem Ux(L:List Lg)(A:Option aj)(c:Nat)(w:aJ)(hs:aW w w.heap.size A (bA L))(hI:∀x∈L,aL x.n)(hl:aA L<=100000):
 aQ aM 199 #[aH A (aA L) c] w λe w'=>e=aT (ν (oC L))/\β w w':=by
 have HC:=η (Ph L A c w hs hI hl);have HS:=η hs;have HD:Hid (oC L=if dC L≠0 then dC L else if sr L=aP then 1 else 0):=η rfl;have Ah:Hid (sr L=(decide (aA L=0)||decide (xC L=0))):=η rfl;generalize oC L=ce at*;by_cases he:dC L=0
 ·rw [he] at HC HD;rcases Nat.eq_zero_or_pos (aA L) with h0|h0
  ·have hE:ce=0:=by rw [HD.o,Ah.o,decide_eq_true h0];rfl
   subst hE;rw [h0] at HC ⊢;go_enter UO,UY
   go_wp2_with (go_at_call 188;refine HC.o.mono ?_;rintro e w1 ⟨rfl,hb1⟩;have aR:=η hb1)
   go_ret;exact⟨rfl,aR⟩
  have hl0:(0:Int)<(aA L:Int):=by omega
  have HK:Hid (∀W,β w W->∃b o,A=aC ⟨b,o,aB⟩/\b<w.heap.size/\W.cell? ⟨b,o+1,aB⟩=aC (ν (xC L))):=η λW hW=>aDN (HS.o.below hW) h0
  have CH:Hid (sr L=decide (xC L=0)):=η (by rw [Ah.o,decide_eq_false (by omega),Bool.false_or]);generalize xC L=a at*;by_cases ha:a=0
  ·have hE:ce=0:=by rw [HD.o,CH.o,decide_eq_true ha];rfl
   subst hE ha;go_enter UO,UY
   go_wp2_with (go_at_call 188;refine HC.o.mono ?_;rintro e w1 ⟨rfl,hb1⟩;have aR:=η hb1;obtain⟨b,o,rfl,hb,d1⟩:=HK.o _ hb1)
   go_ret;exact⟨rfl,aR⟩
  have hE:ce=1:=by rw [HD.o,CH.o,decide_eq_false ha];rfl
  subst hE;have hab:(a !=0)=aO:=by simpa [bne] using ha
  go_enter UO,UY
  go_wp2_with (go_at_call 188;refine HC.o.mono ?_;rintro e w1 ⟨rfl,hb1⟩;have aR:=η hb1;obtain⟨b,o,rfl,hb,d1⟩:=HK.o _ hb1)
  go_ret;exact⟨rfl,aR⟩
 have hE:ce=dC L:=by rw [HD.o,ifP he]
 rw [hE];generalize dC L=ge at*;go_enter UO,UY
 go_wp2_with (go_at_call 188;refine HC.o.mono ?_;rintro e w1 ⟨rfl,hb1⟩;have aR:=η hb1)
 go_ret;exact⟨rfl,aR⟩
def fU(L:List Lg)(q:Int):List Int:=(L.filter λy=>y.m==q).map (·.n)
theorem aCf {L:List Lg} {k:Nat}(hk:k<aA L)(q:Int):fU (L.take (k+1)) q=if q=L[k].m then fU (L.take k) q++ [L[k].n] else fU (L.take k) q:=by
 unfold fU;rw [fE hk,List.filter_append,df];by_cases h:q=L[k].m
 ·rw [ifP h];simp [h]
 rw [ifN h];have h':¬L[k].m=q:=λe=>h e.symm
 simp [h']
theorem Ul {L:List Lg}(hI:∀y∈L,aL y.n)(q:Int):aA (fU L q)<=aA L/\∀z∈fU L q,aL z:=by unfold fU;refine⟨by rw [iR];exact qd _ _,λz hz=> ?_⟩;obtain⟨y,hy,rfl⟩:=dW.1 hz;exact hI y (jD.1 hy).1
theorem aCe(A B:List Lg)(q:Int):fU (A++B) q=fU A q++fU B q:=by unfold fU;rw [List.filter_append,df]
theorem Uk:∀ {L:List Lg} (q:Int),(∀y∈L,0<=y.n)->0<=sumI (fU L q)/\sumI (fU L q)<=sumI (bG L)
 | [],_,_=>by simp [fU,bG,sumI]
 |y::L,q,h=>by
  obtain⟨h1,h2⟩:=Uk (L:=L) q λz hz=>h z (by simp [hz])
  have hy:=h y (by simp);have e2:sumI (bG (y::L))=y.n+sumI (bG L):=rfl;by_cases hq:y.m=q
  ·have e1:fU (y::L) q=y.n::fU L q:=by unfold fU;simp [hq]
   rw [e1,e2];simp only [sumI];omega
  have e1:fU (y::L) q=fU L q:=by unfold fU;simp [hq]
  rw [e1,e2];omega
theorem a2M {L:List Lg}(h:dC L=0):∀y∈L,0<=y.n:=λx hx=>by obtain⟨i,hi,rfl⟩:=sW.1 hx;have:=(BO h).2.1 i hi;rw [Gl hi] at this;simp at this;omega
def IQ(A B:List Lg):Int:=sumI (bG A)+sumI (bG B)
def s7(A B:List Lg):Int:=if dC A≠0 then dC A else if dC B≠0 then dC B else if sr A=aP then 1 else if sr B=aP then 1 else dM (IQ A B)
theorem a4u(A B:List Lg):(dC A≠0/\s7 A B=dC A)\/(dC A=0/\dC B≠0/\s7 A B=dC B)\/(dC A=0/\dC B=0/\sr A=aP/\s7 A B=1)\/(dC A=0/\dC B=0/\sr A=aO/\sr B=aP/\s7 A B=1)\/(dC A=0/\dC B=0/\sr A=aO/\sr B=aO/\s7 A B=dM (IQ A B)):=by
 unfold s7;by_cases h1:dC A=0
 ·by_cases h2:dC B=0
  ·cases h3:sr A
   ·right;right;left;simp [h1,h2]
   cases h4:sr B
   ·right;right;right;left;simp [h1,h2]
   right;right;right;right;simp [h1,h2]
  right;left;simp [h1,h2]
 left;simp [h1]
theorem a4v {A B:List Lg}(ha:dC A=0)(hb:dC B=0)(hT:aL (IQ A B))(q:Int):aL (sumI (fU (A++B) q)):=by have h1:=Uk q (a2M ha);have h2:=Uk q (a2M hb);rw [aCe,Np];unfold IQ aL at*;omega
theorem PQ(a b:Int)(w:aJ)(ha:aL a)(hb:aL b):
 aQ aM 201 #[ν a,ν b] w λe w'=>
  e=aT (bB #[ν (gQ (a+b)),ν (dM (a+b))])/\w=w':=by
 have HA:=η ha;have HB:=η hb;go_enter func201,ntmps201
 go_wp2
 all_goals
  go_ret2;have ha:=HA.o;have hb:=HB.o;refine⟨?_,rfl⟩;unfold aL at ha hb;by_cases h:aL (a+b)
  ·obtain⟨h1,h2⟩:=eA h;rw [h1,h2];unfold aL at h;have hw:fS (a+b)=a+b:=by unfold fS;omega
   simp_all<;>omega
  obtain⟨h1,h2⟩:=gp h;rw [h1,h2];unfold aL at h;unfold fS at*;simp_all<;>omega
structure JI(L:List Lg)(w wr:aJ)(b lo k:Nat)(u:aN)(m:List (Int×aN)):Prop where
 g:lC wr (b+1) b m (fU (L.take k))
 len:aA m<=k
 ks:∀q,(∃p∈m,p.1=q)↔∃y∈L.take k,y.m=q
 own:wr.ownsRow lo 76 3 u (aA L) (bA L)
 nZ:b<lo
 hb:w.heap.size<=b
 b:β w wr
theorem JI.below {L:List Lg} {w wr w2:aJ} {b lo k:Nat} {u:aN} {m:List (Int×aN)}(h:JI L w wr b lo k u m)(hb:aa wr.heap.size wr w2):JI L w w2 b lo k u m:=
 ⟨h.g.below (aZ _) hb,h.len,h.ks,NV h.own hb,h.nZ,h.hb,h.b.trans (hb.mono h.b.size)⟩
theorem JI.step {L:List Lg} {w w2 w4 w5:aJ} {b lo k:Nat} {u:aN} {m:List (Int×aN)} {v':aN}(h:JI L w w2 b lo k u m)(hk:k<aA L)
 (hg:w2.grownBy w4 (mE L[k].m m).ownBlock) (h5:lC w5 (b+1) b (eJ L[k].m v' m) (λq=>if q=L[k].m then fU (L.take k) L[k].m++ [L[k].n] else fU (L.take k) q)) (ej:w4.grownBy w5 (aC b)):JI L w w5 b lo (k+1) u (eJ L[k].m v' m):=by
 have jk:=h.g.slot L[k].m;have hrow:∀j,(mE L[k].m m).ownBlock=aC j->b+1<=j:=λj hj=>(jk.lt j hj).1
 have iy:=h.hb;have hb4:=h.b.grown hg h.b.size λj hj=>by have:=hrow j hj;omega
 refine⟨?_, ?_,λq=> ?_, ?_,h.nZ,h.hb, ?_⟩
 ·have e:(λq=>if q=L[k].m then fU (L.take k) L[k].m++ [L[k].n] else fU (L.take k) q)=fU (L.take (k+1)):=by
   funext q;rw [aCf hk q];by_cases e:q=L[k].m
   ·rw [ifP e,ifP e,e]
   rw [ifN e,ifN e]
  rw [<-e];exact h5
 ·have:=Xk (q:=L[k].m) (v:=v') m;have:=h.len;omega
 ·have h1:=h.ks q;rw [fE hk];constructor
  ·rintro⟨p,hp,rfl⟩;rcases Ie h.g.map.apart hp with rfl|⟨hp,_⟩
   ·exact⟨L[k],GK _ (List.mem_singleton.2 rfl),rfl⟩
   obtain⟨y,hy,e⟩:=h1.1 ⟨p,hp,rfl⟩;exact⟨y,vA _ hy,e⟩
  rintro⟨y,hy,rfl⟩;rcases gJ.1 hy with hy|hy
  ·obtain⟨p,hp,e⟩:=h1.2 ⟨y,hy,rfl⟩;obtain⟨u,hu⟩:=Xl (q:=L[k].m) (v:=v') hp;exact⟨_,hu,e⟩
  simp at hy;subst hy;exact⟨_,Rh m,rfl⟩
 ·have h1:=h.own.kept hg (IZ h.own jk (by decide));exact h1.kept ej (aU (Rc h1 h.nZ))
 exact hb4.grown ej hb4.size λj hj=>by cases hj;omega
theorem a3S(f:Int->List Int):∀ks:List Int,gatE f ks=0\/gatE f ks=2
 | []=>aS rfl
 |k::ks=>by
  unfold gatE;split
  ·exact a3S f ks
  exact aU rfl
section
open Go.Maps Go.MapKept Go.ChangeMaps
theorem aJP {M A:Nat} {k m a:Int}(h:plcA M A k m a≠aB):0<=a/\a<(A:Int):=by
 unfold plcA at h;split at h
 ·exact absurd rfl h
 split at h
 ·assumption
 exact absurd rfl h
theorem XU:∀ {pre l:List En} {q:Int×Int×Int},q∈ordF pre l->∃x∈l,x.spot=q
 |_,[],_,h=>by simp [ordF] at h
 |pre,x::l,q,h=>by
  rw [ordF,gJ] at h;rcases h with h|h
  ·split at h
   ·exact⟨x,pD ..,(List.mem_singleton.1 h).symm⟩
   cases h
  obtain⟨y,hy,e⟩:=XU h;exact⟨y,dh _ hy,e⟩
theorem aDJ {l:List En}(h:∀x∈l,x.ok)(q:Int×Int×Int):∀y∈gu l q,aL y:=by intro y hy;obtain⟨x,hx,rfl⟩:=dW.1 hy;exact(h x (jD.1 hx).1).n
theorem aDF {l:List En}(h:∀x∈l,x.ok)(i:Nat):∀y∈gq l i,aL y:=by intro y hy;obtain⟨x,hx,rfl⟩:=dW.1 hy;exact(h x (jD.1 hx).1).n
theorem aDQ:(aM.info? 233).map (λi=>(i.zero,i.size,i.bytes))=aC (aC (bU #[aG aF 0,bJ aP,aG aF 0,aG aF 0]),4,32):=by kernel_rfl
theorem aDR(x:Ch):∀u∈x.cells,u.oneCell'=aO:=by intro u hu;simp [Ch.cells] at hu;rcases hu with rfl|rfl|rfl|rfl<;>rfl
def a8s(M A:Nat)(l:List Int)(es:List En)(w:aJ)(e:dU)(w':aJ):Prop:=
 β w w'/\((jT M A l es=0/\∃v,e=aT (bB #[v,ν 0])/\w'.ownsRow w.heap.size 233 4 v (aA (kg M A l es)) (BN (kg M A l es)))\/(jT M A l es≠0/\e=aT (bB #[aH aB 0 0,ν (jT M A l es)])))
theorem aDe {M A:Nat} {l:List Int} {es:List En}(h1:¬1024<aA es) {k:Nat}(hk:k<aA es)(h:ky M A es[k].spot=aB):jT M A l es=8:=by unfold jT;rw [ifN h1,ifP];rw [jv];exact⟨_,cK hk,by rw [h];rfl⟩
theorem aDc {M A:Nat} {l:List Int} {es:List En}(h1:¬1024<aA es)(h2:es.any (λx=>(ky M A x.spot).isNone)=aP) {k:Nat}(hk:k<9)(h:sumI (gq es k)≠0):jT M A l es=17:=by unfold jT;rw [ifN h1,ifN (by rw [h2];simp),ifP];rw [jv];exact⟨k,nP.2 hk,by simpa using h⟩
theorem aDd {M A:Nat} {l:List Int} {es:List En}(h1:¬1024<aA es)(h2:es.any (λx=>(ky M A x.spot).isNone)=aP)(h3:(dQ 9).any (λi=>sumI (gq es i) !=0)=aP) {k:Nat}(hk:k<aA (dB es))(h:yi M A l es (dB es)[k]=aO):jT M A l es=2:=by unfold jT;rw [ifN h1,ifN (by rw [h2];simp),ifN (by rw [h3];simp),ifP];rw [jv];exact⟨_,cK hk,h⟩
theorem aDb {M A:Nat} {l:List Int} {es:List En}(h1:¬1024<aA es)(h2:es.any (λx=>(ky M A x.spot).isNone)=aP)(h3:(dQ 9).any (λi=>sumI (gq es i) !=0)=aP)(h:(dB es).any (yi M A l es)=aP):jT M A l es=0:=by unfold jT;rw [ifN h1,ifN (by rw [h2];simp),ifN (by rw [h3];simp),ifN (by rw [h];simp)]
theorem aJm(p:Nat->Bool)(k:Nat):(dQ (k+1)).any p=((dQ k).any p||p k):=by rw [List.range_succ,List.any_append];simp
theorem aKj {w:aJ} {B:Nat} {A:Option aj} {l:List (Int×Int×Int)}(h:aW w B A (Ik l)) {k:Nat}(hk:k<aA l):
 ∃b o,A=aC ⟨b,o,aB⟩/\b<B/\w.cell? ⟨b,o+k*3,aB⟩=aC (ν l[k].1)/\w.cell? ⟨b,o+k*3+1,aB⟩=aC (ν l[k].2.1)/\w.cell? ⟨b,o+k*3+2,aB⟩=aC (ν l[k].2.2):=by
 obtain⟨b,o,e,hb,hc⟩:=h.run (i:=k*3) (y:=ν l[k].1) (t:= [ν l[k].2.1,ν l[k].2.2]) (λj u hu=>uP Nk 3 (λ_=>rfl) l k hk j u hu);exact⟨b,o,e,hb,hc 0 _ rfl,hc 1 _ rfl,hc 2 _ rfl⟩
theorem aD1(M A:Nat)(v:aN)(l:List Int)(po:Int)(es:List En)(AA:Option aj)(c bb:Nat)(w:aJ)(h:fD w bb M A v l po)(hs:aW w w.heap.size AA (qm es))(hI:∀x∈es,x.ok)(vW:∀y∈l,aL y)(hl:aA es<=100000):
 aQ aM 159 #[π bb,aH AA (aA es) c] w (a8s M A l es w):=by
 have pZ:=η h;have HS:=η hs;have HI:=η hI;have JF:=η vW;by_cases h1:1024<aA es
 ·have HE:Hid (jT M A l es=6):=η (by unfold jT;rw [ifP h1]);have uQ:(1024:Int)<(aA es:Int):=by omega
  go_enter aAi,aBV
  go_wp2_with fail
  go_ret2;exact⟨aX _ _,.inr ⟨by rw [HE.o];decide,by rw [HE.o];rfl⟩⟩
 have HN:=η h1;have uQ:decide ((1024:Int)<(aA es:Int))=aP:=decide_eq_false (by omega);have aMN:decide (1024<aA es)=aP:=decide_eq_false h1;have hl:aA es<=1024:=by omega
 have aY:Hid (β w w):=η (aX _ _);have iX:Hid ((es.take 0).any (λx=>(ky M A x.spot).isNone)=aP):=η (by rw [nQ];rfl);go_enter aAi,aBV
 go_wp2_with fail
 go_loopw [7,8,9,30] (λ_ _ _ i wr=>∃k:Nat,k<=aA es/\i=ν (k:Int)/\Hid (β w wr)/\Hid ((es.take k).any (λx=>(ky M A x.spot).isNone)=aP)) (λ_ _ _ i _=>aA es-(ag i).toNat)
 case atStart=>exact⟨0,bL _,rfl,aY,iX⟩
 case round=>
  obtain⟨k,hk,rfl,HB,HP⟩:=hrel;by_cases hlt:k<aA es
  ·obtain⟨be,oe,rfl,kh,e0,e1,e2,e3⟩:=VM ((HS.o.below HB.o).mono HB.o.size) hlt;have dR:=HI.o _ (cK hlt);have cG:=η (zW (λx:En=>(ky M A x.spot).isNone) hlt);have HE8:=η (aDe (M:=M) (A:=A) (l:=l) HN.o hlt);have eY:(0:Int)<=(k:Int):=by omega
   have hkb:(k:Int)<(aA es:Int):=by omega
   generalize es[k]=x at*;obtain⟨xk,xm,xa,xn⟩:=x;simp only at e0 e1 e2 e3;obtain⟨KY,KZ,Ka,ok3⟩:=dR;simp only at KY KZ Ka ok3;have eI:Hid (∀W,β w W->aQ aM 155 #[π bb,bU #[ν xk,ν xm],ν xa] W λe w'=>e=aT (bB #[ν (numV (plcA M A xk xm xa)),ν (oN (plcA M A xk xm xa))])/\β W w'):=η λW hW=>Uu M A v l po xk xm xa bb W (pZ.o.below hW) KY KZ
   have dH:Hid (β w (wr.alloc (aK #[ν xk,ν xm,ν xa,ν xn] 103))):=η (HB.o.alloc HB.o.size _);cases hp:plcA M A xk xm xa with
   |none=>
    rw [hp] at eI;have HE:Hid (jT M A l es=8):=η (HE8.o hp);unfold numV oN at eI;simp only at eI;go_wp2_with (go_at_call 155;refine(eI.o _ dH.o).mono ?_;rintro e w2 ⟨rfl,hb2⟩;have aV:Hid (β w w2):=τ dH hb2)
    go_ret2;exact⟨aV.o,.inr ⟨by rw [HE.o];decide,by rw [HE.o];rfl⟩⟩
   |some n=>
    rw [hp] at eI;have o6:Hid ((es.take (k+1)).any (λx=>(ky M A x.spot).isNone)=aP):=η (by rw [cG.o,HP.o];simp [ky,En.spot,hp]);unfold numV oN at eI;simp only at eI;go_wp2_with (go_at_call 155;refine(eI.o _ dH.o).mono ?_;rintro e w2 ⟨rfl,hb2⟩;have aV:Hid (β w w2):=τ dH hb2)
    go_roundw
    case rel=>exact⟨k+1,by omega,by go_num,aV,o6⟩
    case measure=>simp [ag];omega
  obtain rfl:k=aA es:=by omega
  rw [cT] at HP;have HA:Hid (∀x∈es,0<=x.a/\x.a<=8):=η λx hx=>by
   have h2:=zO.1 HP.o x hx;have h3:plcA M A x.k x.m x.a≠aB:=λe=>h2 (by simp only [ky,En.spot,e];rfl)
   have h4:=aJP h3;have:=pZ.o.hA;omega
  have EJ:=HP;have LN:Hid (∀q∈dB es,ky M A q≠aB/\Fl q):=η λq hq=>by obtain⟨x,hx,e⟩:=XU hq;have h2:=zO.1 HP.o x hx;have h3:=HI.o x hx;rw [<-e];exact⟨λe=>h2 (by rw [e];rfl),h3.k,h3.m,h3.a⟩
  have tu:=η (aFl es AA c wr ((HS.o.below HB.o).mono HB.o.size) HI.o HA.o hl);go_wp2_with (go_at_call 206;refine tu.o.mono ?_;unfold Yv;rintro e w2 ⟨base,b,ab,cf,ov,rfl,hg2⟩;have HG2:=η hg2)
  obtain⟨wg,rfl⟩:∃wg:aJ,wg=wr:=⟨_,rfl⟩;have Tc:Hid ((dQ 0).any (λi=>sumI (gq es i) !=0)=aP):=η rfl;go_loopw [14,15,16,55] (λ_ _ _ i wr=>∃k:Nat,k<=9/\i=ν (k:Int)/\Hid (lD wg base b ab cf ov (gthF es) (dB es) wr)/\Hid ((dQ k).any (λi=>sumI (gq es i) !=0)=aP)) (λ_ _ _ i _=>9-(ag i).toNat)
  case atStart=>exact⟨0,bL _,rfl,HG2,Tc⟩
  case round=>
   obtain⟨k,hk,rfl,HG,HQ⟩:=hrel;by_cases hlt:k<9
   ·have hrow:=HG.o.tF.rows (.inr k);have hgf:gthF es (.inr k)=gq es k:=by simp [gthF,hlt]
    rw [hgf] at hrow;obtain⟨Ar,cr,nX⟩:=bK hrow;have hc0:wr.cell? ⟨ab,k,aB⟩=aC (aH Ar (aA (gq es k)) cr):=by rw [bH _ _ k _ _ (0,0) HG.o.blk,Uw cf hlt,nX]
    have hab:=HG.o.low;have rX:=Uv es k;have kV:=η (Du (gq es k) Ar cr wr (aDF HI.o k) (by rw [nX] at hrow;exact aW.cA hrow) (by omega));have a9G:=η (aDc (l:=l) HN.o HP.o hlt);have HRS:=η (aJm (λi=>sumI (gq es i) !=0) k);have eY:(0:Int)<=(k:Int):=by omega
    have hkb:(k:Int)<9:=by omega
    generalize gq es k=ys at*;generalize sumI ys=s at*;by_cases hs0:s=0
    ·subst hs0;have e1:=(eA JX).1;have e2:=(eA JX).2;rw [e1,e2] at kV;have B8:Hid ((dQ (k+1)).any (λi=>sumI (gq es i) !=0)=aP):=η (by rw [HRS.o,HQ.o];rfl);go_wp2_with (go_at_call 104;refine kV.o.mono ?_;rintro e w3 ⟨rfl,hb3⟩;have tq:=η (HG.o.below hb3))
     go_roundw
     case rel=>exact⟨k+1,by omega,by go_num,tq,B8⟩
     case measure=>simp [ag];omega
    have HE:Hid (jT M A l es=17):=η (a9G.o hs0);have wM:=η (HB.o.trans (HG.o.b.mono HB.o.size));by_cases Q9:aL s
    ·have e1:=(eA Q9).1;have e2:=(eA Q9).2;rw [e1,e2] at kV;have hsn:(s !=0)=aO:=by simpa using hs0
     go_wp2_with (go_at_call 104;refine kV.o.mono ?_;rintro e w3 ⟨rfl,hb3⟩;have af:Hid (β w w3):=τ wM hb3)
     go_ret2;exact⟨af.o,.inr ⟨by rw [HE.o];decide,by rw [HE.o];rfl⟩⟩
    have e1:=(gp Q9).1;have e2:=(gp Q9).2;rw [e1,e2] at kV;go_wp2_with (go_at_call 104;refine kV.o.mono ?_;rintro e w3 ⟨rfl,hb3⟩;have af:Hid (β w w3):=τ wM hb3)
    go_ret2;exact⟨af.o,.inr ⟨by rw [HE.o];decide,by rw [HE.o];rfl⟩⟩
   obtain rfl:k=9:=by omega
   rw [show ((9:Nat):Int)=9 from rfl];obtain⟨wh,rfl⟩:∃wh:aJ,wh=wr:=⟨_,rfl⟩;have cC:=η (HB.o.trans (HG.o.b.mono HB.o.size));have Ms:=HG.o.ord;have km:aA (dB es)<=1024:=bz (RY [] es) hl;obtain⟨Ao,co,Mt⟩:=bK Ms;subst Mt;have mJ:Hid (wh.ownsRow wh.heap.size 233 4 (aH aB 0 0) 0 (BN ((kg M A l es).take 0))):=η (by rw [nQ];exact gC _ _ _ _);have Ce:Hid (((dB es).take 0).any (yi M A l es)=aP):=η (by rw [nQ];rfl);have HBh:Hid (β wh wh):=η (aX _ _);go_wp2_with fail
   go_loopw [17,19,20,21,22,23,24,73] (λv _ _ _ _ _ _ i wr=>∃k:Nat,k<=aA (dB es)/\i=ν (k:Int)/\Hid (β wh wr)/\Hid (wr.ownsRow wh.heap.size 233 4 v k (BN ((kg M A l es).take k)))/\Hid (((dB es).take k).any (yi M A l es)=aP)) (λ_ _ _ _ _ _ _ i _=>aA (dB es)-(ag i).toNat)
   case atStart=>exact⟨0,bL _,rfl,HBh,mJ,Ce⟩
   case round=>
    obtain⟨k,hk,rfl,HR,HO,HV⟩:=hrel;obtain⟨Ax,cx,pK⟩:=bK HO.o;subst pK;by_cases hlt:k<aA (dB es)
    ·obtain⟨be,oe,rfl,kh,e0,e1,e2⟩:=aKj (((aW.cA Ms).below HR.o).mono HR.o.size) hlt;obtain⟨gW,aGK⟩:=LN.o _ (cK hlt);have cG:=η (zW (yi M A l es) hlt);have lO:Hid ((kg M A l es).take (k+1)=(kg M A l es).take k++ [jx M A l es (dB es)[k]]):=η (by rw [fE (by unfold kg;rw [iR];exact hlt)];simp [kg]);have mf:=η (aDd (l:=l) HN.o EJ.o HQ.o hlt);have eY:(0:Int)<=(k:Int):=by omega
     have hkb:(k:Int)<(aA (dB es):Int):=by omega
     generalize (dB es)[k]=q at*;have HD:=η aGK;obtain⟨n,hn⟩:∃n,ky M A q=aC n:=Option.ne_none_iff_exists'.1 gW;have pM:n<aA l:=by rw [pZ.o.len];exact NZ hn
     have hnA:n<=9*54:=by have h2:=pZ.o.len;have h3:=pZ.o.hM;have h4:=pZ.o.hA;have h5:A*(6+3*M)<=9*54:=yN h4 (by omega);omega
     obtain⟨Av,cv,Qu⟩:=bK pZ.o.own;obtain⟨bv,ov,K5,hbv,hcv⟩:=tP (aW.cA (by have h2:=pZ.o.own;rw [Qu] at h2;exact h2)) pM;have hbl:kf M A l q=l[n]:=by unfold kf balA;rw [show plcA M A q.1 q.2.1 q.2.2=aC n from hn];simp [pM]
     have Kt:Hid (jx M A l es q=⟨(n:Int),tH q.1,fA es q,l[n]+fA es q⟩):=η (by unfold jx;rw [hn,hbl];rfl);have OY:Hid (yi M A l es q=(dM (fA es q) !=0||dM (l[n]+fA es q) !=0)):=η (by unfold yi;rw [hbl]);have hlx:=JF.o _ (cK pM);have aMp:(0:Int)<=(n:Int):=by omega
     have mA:(n:Int)<(aA l:Int):=by omega
     obtain⟨Aq,cq,vT⟩:=bK (HG.o.tF.rows (.inl q));have kK:Hid (∀W,β wh W->(Instr.lookup 284 (.map (aC b)) (bU #[ν q.1,ν q.2.1,ν q.2.2]) aP).run aM W= .ok (aH Aq (aA (gu es q)) cq) W):=η λW hW=>by have h2:=(HG.o.below hW).look HD.o;rw [vT] at h2;exact h2
     have kV:Hid (∀W,β wh W->aQ aM 104 #[aH Aq (aA (gu es q)) cq] W λe w'=>e=aT (bB #[ν (gQ (fA es q)),ν (dM (fA es q))])/\β W w'):=η λW hW=>Du (gu es q) Aq cq W (aDJ HI.o q) (by have h2:=(HG.o.below hW).tF.rows (.inl q);rw [vT] at h2;exact aW.cA h2) (by have:=a1y es q;omega)
     have eI:Hid (∀W,β wh W->aQ aM 155 #[π bb,bU #[ν q.1,ν q.2.1],ν q.2.2] W λe w'=>e=aT (bB #[ν (n:Int),ν 0])/\β W w'):=η λW hW=>by have h2:=Uu M A v l po q.1 q.2.1 q.2.2 bb W (pZ.o.below (cC.o.trans (hW.mono cC.o.size))) HD.o.1 HD.o.2.1;rw [show plcA M A q.1 q.2.1 q.2.2=aC n from hn] at h2;exact h2
     have Ah:Hid (∀W,β wh W->W.cell? ⟨bb,2,aB⟩=aC (aH Av (aA l) cv)/\W.cell? ⟨bv,ov+n,aB⟩=aC (ν l[n])):=η λW hW=>by have h2:=cC.o.trans (hW.mono cC.o.size);refine⟨?_,((ez h2).1 _ _ hbv).trans hcv⟩;rw [<-Qu];exact(pZ.o.below h2).c2
     have dH:Hid (β wh (wr.alloc (aK #[ν q.1,ν q.2.1,ν q.2.2] 289))):=η (HR.o.alloc HR.o.size _);have cZ:Hid ((wr.alloc (aK #[ν q.1,ν q.2.1,ν q.2.2] 289)).heap[wr.heap.size]? =aC (aK #[ν q.1,ν q.2.1,ν q.2.2] 289 (0,0))):=η (cO wr _);have cE:=η (HO.o.alloc (aK #[ν q.1,ν q.2.1,ν q.2.2] 289));have Da:k<=1024:=by omega
     have hz0:wr.heap.size<(wr.alloc (aK #[ν q.1,ν q.2.1,ν q.2.2] 289)).heap.size:=by simp
     subst K5;go_upto_region 22 with fail
     generalize wr.alloc (aK #[ν q.1,ν q.2.1,ν q.2.2] 289)=w3 at*;generalize wr.heap.size=bx at*;obtain⟨q1,q2,q3⟩:=q;simp only at HD Kt OY kK kV eI cZ mf cG lO;have iQ:Hid (∀W,β w3 W->W.cell? ⟨bx,0,aB⟩=aC (ν q1)/\W.cell? ⟨bx,1,aB⟩=aC (ν q2)/\W.cell? ⟨bx,2,aB⟩=aC (ν q3)):=η λW hW=>⟨((ez hW).1 _ _ hz0).trans (ρ cZ.o),((ez hW).1 _ _ hz0).trans (ρ cZ.o),((ez hW).1 _ _ hz0).trans (ρ cZ.o)⟩
     have ZY:=η hlx;obtain⟨s0,s1,s2⟩:=iQ.o _ (aX _ _);generalize fA es (q1,q2,q3)=s at*;by_cases hs1:aL s
     ·by_cases hs2:aL (l[n]+s)
      ·have yH:Hid (((dB es).take (k+1)).any (yi M A l es)=aP):=η (by rw [cG.o,HV.o,OY.o,(eA hs1).2,(eA hs2).2];rfl);have HAD:=η (λW=>PQ l[n] s W ZY.o hs1);rw [(eA hs2).1,(eA hs2).2] at HAD;rw [(eA hs1).1,(eA hs1).2] at kV;obtain⟨ic,DX,ru,ry,rz⟩:=dL aDQ;go_wp2_with (first|(go_at_call 155;refine(eI.o _ dH.o).mono ?_;rintro e w4 ⟨rfl,hb4⟩;have ar:Hid (β wh w4):=τ dH hb4;have gH:Hid (β w3 w4):=η hb4;have hlk:=kK.o _ ar.o;obtain⟨s0,s1,s2⟩:=iQ.o _ gH.o)|(go_at_call 104;refine(kV.o _ ar.o).mono ?_;rintro e w5 ⟨rfl,cj⟩;have cV:Hid (β wh w5):=τ ar cj;have og:Hid (β w3 w5):=τ gH cj;obtain⟨cb,cl⟩:=Ah.o _ cV.o;obtain⟨s0,s1,s2⟩:=iQ.o _ og.o)|(go_at_call 201;refine(HAD.o _).mono ?_;rintro e w6 ⟨rfl,rfl⟩)|(go_at_call 112;refine(Pf q1 q2 _).mono ?_;rintro e w6 ⟨rfl,iT⟩;have gG:Hid (β wh w6):=τ cV iT;have wV:Hid (β w3 w6):=τ og iT;have kL:=η ((iA cE.o wV.o).alloc (aK #[ν (n:Int),bJ (tH q1),ν s,ν (l[n]+s)] 233)))|(at_builtin;refine wpList_append_lies _ rfl _ _ 229 rfl wh.heap.size 233 ic _ 4 32 underlying229 DX ru ry rz rfl (by omega) _ _ _ rfl kL.o ⟨w6.heap.size,0,aB⟩ 1 1 (Ch.cells ⟨(n:Int),tH q1,s,l[n]+s⟩) rfl rfl (dN _ _ #[_,_,_,_] rfl) (aDR _) (by omega) (by simp only [bM];omega) (by omega) (by have:=gG.o.size;simp;omega) (w6.heap.size+1) (by simp) ?_))
       intro g7 aDM w7 aGk QX _ _;have uj:Hid (β wh w7):=η ((gG.o.alloc gG.o.size _).grown QX (by have:=gG.o.size;simp;omega) (λj hj=>eT kL.o j hj));have oh:Hid (w7.ownsRow wh.heap.size 233 4 (aH (aC ⟨g7,0,aB⟩) (k+1) aDM) (k+1) (BN ((kg M A l es).take (k+1)))):=η (by rw [lO.o,Kt.o,aDP];exact aGk);go_wp2_with fail
       go_roundw
       case rel=>exact⟨k+1,by omega,by go_num,uj,oh,yH⟩
       case measure=>simp [ag];omega
      have HE:Hid (jT M A l es=2):=η (mf.o (by rw [OY.o,(gp hs2).2];simp));have HAD:=η (λW=>PQ l[n] s W ZY.o hs1);rw [(gp hs2).1,(gp hs2).2] at HAD;rw [(eA hs1).1,(eA hs1).2] at kV;go_wp2_with (first|(go_at_call 155;refine(eI.o _ dH.o).mono ?_;rintro e w4 ⟨rfl,hb4⟩;have ar:Hid (β wh w4):=τ dH hb4;have gH:Hid (β w3 w4):=η hb4;have hlk:=kK.o _ ar.o;obtain⟨s0,s1,s2⟩:=iQ.o _ gH.o)|(go_at_call 104;refine(kV.o _ ar.o).mono ?_;rintro e w5 ⟨rfl,cj⟩;have cV:Hid (β wh w5):=τ ar cj;have og:Hid (β w3 w5):=τ gH cj;obtain⟨cb,cl⟩:=Ah.o _ cV.o;obtain⟨s0,s1,s2⟩:=iQ.o _ og.o)|(go_at_call 201;refine(HAD.o _).mono ?_;rintro e w6 ⟨rfl,rfl⟩))
      go_ret2;exact⟨cC.o.trans (cV.o.mono cC.o.size),.inr ⟨by rw [HE.o];decide,by rw [HE.o];rfl⟩⟩
     have HE:Hid (jT M A l es=2):=η (mf.o (by rw [OY.o,(gp hs1).2];simp));rw [(gp hs1).1,(gp hs1).2] at kV;go_wp2_with (first|(go_at_call 155;refine(eI.o _ dH.o).mono ?_;rintro e w4 ⟨rfl,hb4⟩;have ar:Hid (β wh w4):=τ dH hb4;have gH:Hid (β w3 w4):=η hb4;have hlk:=kK.o _ ar.o;obtain⟨s0,s1,s2⟩:=iQ.o _ gH.o)|(go_at_call 104;refine(kV.o _ ar.o).mono ?_;rintro e w5 ⟨rfl,cj⟩;have cV:Hid (β wh w5):=τ ar cj;have og:Hid (β w3 w5):=τ gH cj;obtain⟨cb,cl⟩:=Ah.o _ cV.o;obtain⟨s0,s1,s2⟩:=iQ.o _ og.o))
     go_ret2;exact⟨cC.o.trans (cV.o.mono cC.o.size),.inr ⟨by rw [HE.o];decide,by rw [HE.o];rfl⟩⟩
    obtain rfl:k=aA (dB es):=by omega
    rw [cT] at HV;have cD:Hid (wr.ownsRow wh.heap.size 233 4 (aH Ax (aA (dB es)) cx) (aA (kg M A l es)) (BN (kg M A l es))):=η (by
     have e:aA (kg M A l es)=aA (dB es):=by unfold kg;rw [iR]
     have h2:=HO.o;rw [List.take_of_length_le (by omega)] at h2;rw [e];exact h2)
    have wP:Hid (jT M A l es=0):=η (aDb HN.o EJ.o HQ.o HV.o);go_wp2_with fail
    go_ret2;exact⟨cC.o.trans (HR.o.mono cC.o.size),.inl ⟨wP.o,_,rfl,iB cD.o cC.o.size⟩⟩
end
section
structure bC(S:Nat->Prop)(w w':aJ):Prop where
 os:w'.os=w.os
 tape:w'.tape=w.tape
 output:w'.output=w.output
 size:w.heap.size<=w'.heap.size
 keep:∀k,k<w.heap.size->¬S k->w'.heap[k]? =w.heap[k]?
section
variable {S S':Nat->Prop} {w w1 w2:aJ}
theorem bC.refl(S:Nat->Prop)(w:aJ):bC S w w:=⟨rfl,rfl,rfl,aZ _,λ_ _ _=>rfl⟩
theorem bC.trans(h:bC S w w1)(h':bC S' w1 w2)(hs:∀k,S' k->S k\/w.heap.size<=k):bC S w w2:=
 ⟨h'.os.trans h.os,h'.tape.trans h.tape,h'.output.trans h.output,bz h.size h'.size,λk hk hn=>(h'.keep k (cP hk h.size) (λe=>(hs k e).elim hn (λe2=>by omega))).trans (h.keep k hk hn)⟩
theorem bC.bZ(S:Nat->Prop)(h:aa w.heap.size w w1):bC S w w1:=⟨h.os,h.tape,h.output,h.size,λk hk _=>h.block k hk⟩
theorem bC.IX {row:Option Nat}(h:w.grownBy w1 row)(hr:∀k,row=aC k->S k\/w.heap.size<=k):bC S w w1:=
 ⟨h.os,h.tape,h.output,h.size,λk hk hn=>h.block k hk (λe=>(hr k e.symm).elim hn (λe2=>by omega))⟩
theorem bC.below(h:bC S w w1)(hb:aa w1.heap.size w1 w2):bC S w w2:=h.trans (bC.bZ (λ_=>False) hb) (λ_ e=>e.elim)
theorem bC.mono(h:bC S w w1)(hs:∀k,S k->S' k\/w.heap.size<=k):bC S' w w1:=⟨h.os,h.tape,h.output,h.size,λk hk hn=>h.keep k hk (λe=>(hs k e).elim hn (λe2=>by omega))⟩
theorem bC.toBelow {B:Nat}(h:bC S w w1)(hB:B<=w.heap.size)(hs:∀k,S k->B<=k):aa B w w1:=⟨h.os,h.tape,h.output,h.size,λk hk=>h.keep k (by omega) (λe=>by have:=hs k e;omega)⟩
theorem bC.cell(h:bC S w w1) {k:Nat}(o:Nat)(hk:k<w.heap.size)(hn:¬S k):w1.cell? ⟨k,o,aB⟩=w.cell? ⟨k,o,aB⟩:=gh (a:=⟨k,o,aB⟩) (h.keep k hk hn)
theorem bC.own(h:bC S w w1) {base:Nat} {e:bY} {size n:Nat} {v:aN} {xs:List aN}(ho:w.ownsRow base e size v n xs)(hv:∀k,v.ownBlock=aC k->¬S k):w1.ownsRow base e size v n xs:=by
 have hlt:=λk hk=>(ho.lt k hk).2
 rcases ho.2 with⟨hv0,hn⟩|⟨g,cap,cur,hvg,h1,h2,h3,h4,h5⟩
 ·exact⟨ho.1,aS ⟨hv0,hn⟩⟩
 have hg:v.ownBlock=aC g:=by rw [hvg];rfl
 exact⟨ho.1,aU ⟨g,cap,cur,hvg,h1,(h.keep g (hlt g hg) (hv g hg)).trans h2,h3,h4,h5⟩⟩
theorem bC.dt(h:bC S w w1) {A:Option aj} {xs:List aN}(hs:aW w w.heap.size A xs)(hA:xs≠ []->∀p,A=aC p->¬S p.block):aW w1 w1.heap.size A xs:=λj u hu=>by
 obtain⟨b,o,e,hb,hc⟩:=hs j u hu;have hne:xs≠ []:=by intro e0;rw [e0] at hu;simp at hu
 exact⟨b,o,e,cP hb h.size,(h.cell _ hb (hA hne _ e)).trans hc⟩
theorem bC.setCell(h:bC S w w1) {p:aj}(hp:S p.block\/w.heap.size<=p.block)(u:aN):bC S w (w1.setCell p u):=
 h.trans (S':=λk=>k=p.block) ⟨rfl,rfl,rfl,by simp,λk _ hk=>nK _ _ _ _ hk⟩ (λk e=>by rw [e];exact hp)
theorem bC.alloc(h:bC S w w1)(o:Obj):bC S w (w1.alloc o):=h.below ((aX _ _).alloc (aZ _) o)
theorem bC.drew(h:bC S w w1):bC S w w1.drew:=h.below (aX _ _).drew
end
end
theorem aDh {M A:Nat} {l:List Int} {es:List En}(h:jT M A l es=0):(es.any (λx=>(ky M A x.spot).isNone)=aP)/\(dB es).any (yi M A l es)=aP/\(dQ 9).any (λi=>sumI (gq es i) !=0)=aP:=by
 unfold jT at h;split at h
 ·omega
 split at h
 ·omega
 rename_i h1;split at h
 ·omega
 rename_i h2;split at h
 ·omega
 rename_i h3;exact⟨by simpa using h1,by simpa using h3,by simpa using h2⟩
theorem aJV {M A:Nat} {es:List En}(h:es.any (λx=>(ky M A x.spot).isNone)=aP) {q:Int×Int×Int}(hq:q∈dB es):ky M A q≠aB:=by obtain⟨x,hx,e⟩:=XU hq;have h2:=zO.1 h x hx;rw [<-e];exact λe=>h2 (by rw [e];rfl)
theorem aDg {M A:Nat} {l:List Int} {es:List En}(h:jT M A l es=0)(hl:aA l=A*(6+3*M)) {x:Ch}(hx:x∈kg M A l es):∃n:Nat,x.p=(n:Int)/\n<aA l:=by obtain⟨q,hq,rfl⟩:=dW.1 hx;obtain⟨n,hn⟩:=Option.ne_none_iff_exists'.1 (aJV (aDh h).1 hq);exact⟨n,by unfold jx;rw [hn];rfl,by rw [hl];exact NZ hn⟩
def Ke(M A:Nat)(l:List Int)(es:List En):List Int:=if nT M A l es=0 then kD M A l es else l
def aAQ(bb M A:Nat)(v:aN)(l:List Int)(es:List En)(w:aJ)(e:dU)(w':aJ):Prop:=
 ∃xj,e=aT (ν (nT M A l es))/\fD w' bb M A v (Ke M A l es) xj/\bC (λk=>k=bb\/v.ownBlock=aC k) w w'
theorem fD.upd {w w1:aJ} {bb M A:Nat} {v:aN} {l:List Int} {po:Int} {S:Nat->Prop}(h:fD w bb M A v l po)(hu:bC S w w1)(h1:¬S bb)(h2:∀k,v.ownBlock=aC k->¬S k):fD w1 bb M A v l po:=
 ⟨(hu.keep bb h.lt h1).trans h.blk,hu.own h.own h2,h.len,h.hM,h.hA⟩
theorem fD.ne {w:aJ} {bb M A:Nat} {v:aN} {l:List Int} {po:Int}(h:fD w bb M A v l po):v.ownBlock≠aC bb:=gM h.own h.blk (by decide)
theorem fD.put {w:aJ} {bb M A g cv:Nat} {l:List Int} {po:Int}(h:fD w bb M A (aH (aC ⟨g,0,aB⟩) (aA l) cv) l po)(n:Nat)(y:Int):fD (w.setCell ⟨g,n,aB⟩ (aG aF y)) bb M A (aH (aC ⟨g,0,aB⟩) (aA l) cv) (l.set n y) po:=by
 have hne:g≠bb:=λe=>h.ne (by rw [e];rfl)
 refine⟨(nK _ _ _ _ (Ne.symm hne)).trans h.blk, ?_,by rw [yL];exact h.len,h.hM,h.hA⟩;have h2:=(h.own.stored n (ν y)).1;rw [yL,List.map_set];exact h2
theorem fD.aJb {w:aJ} {bb M A:Nat} {v:aN} {l:List Int} {po:Int}(h:fD w bb M A v l po)(y:Int):fD (w.setCell ⟨bb,3,aB⟩ (aG aF y)) bb M A v l y:=
 ⟨(lf h.blk 3 _).trans rfl,kF h.own (λe=>h.ne e) _,h.len,h.hM,h.hA⟩
theorem fD.f3 {w:aJ} {bb M A:Nat} {v:aN} {l:List Int} {po:Int}(h:fD w bb M A v l po)(j:Nat):w.frozen? ⟨bb,j,aB⟩=aP:=by simp [iJ,h.blk]
theorem a1v(M A:Nat)(v:aN)(l:List Int)(po:Int)(es:List En)(AA:Option aj)(c bb:Nat)(w:aJ)(h:fD w bb M A v l po)(hs:aW w w.heap.size AA (qm es))(hI:∀x∈es,x.ok)(vW:∀y∈l,aL y)(hl:aA es<=100000):
 aQ aM 99 #[π bb,aH AA (aA es) c] w (aAQ bb M A v l es w):=by
 have Kt:=η (aD1 M A v l po es AA c bb w h hs hI vW hl);have pZ:=η h;have hbl:=h.lt;by_cases h0:jT M A l es=0
 ·obtain⟨E,hE⟩:=xq (nT M A l es);have wP:=η h0;have km:aA (kg M A l es)<=100000:=by
   have h2:=RY [] es;have e:aA (kg M A l es)=aA (dB es):=by unfold kg;rw [iR]
   rw [e];exact bz h2 hl
  have HP:=η (λx hx=>aDg (M:=M) (A:=A) (l:=l) (es:=es) wP.o pZ.o.len (x:=x) hx);have rI:Hid (kD M A l es=l7 l (kg M A l es)):=η rfl;have wM:Hid (nT M A l es=if (kg M A l es).any rU=aO then 13 else 0):=η (by unfold nT;rw [ifN (by simpa using wP.o)]);go_enter aBG,aC3
  go_wp2_with (go_at_call 159;refine Kt.o.mono ?_;rintro e w2 ⟨hb2,h2⟩;obtain⟨vo,rfl,eR⟩:∃v,e=aT (bB #[v,ν 0])/\w2.ownsRow w.heap.size 233 4 v (aA (kg M A l es)) (BN (kg M A l es)):=(h2.elim (λh=>h.2) (λh=>absurd wP.o h.1));have aV:Hid (β w w2):=η hb2;have dD:=η eR;obtain⟨Ao,co,Mt⟩:=bK eR;subst Mt)
  generalize kg M A l es=cs at*;have zA:Hid ((cs.take 0).any rU=aP):=η (by rw [nQ];rfl);have sN:Hid (β w2 w2):=η (aX _ _);go_loopw [8,24] (λ_ i wr=>∃k:Nat,k<=aA cs/\i=ν (k:Int)/\Hid (β w2 wr)/\Hid ((cs.take k).any rU=aP)) (λ_ i _=>aA cs-(ag i).toNat)
  ·exact⟨0,bL _,rfl,sN,zA⟩
  ·
   obtain⟨k,hk,rfl,HR,HF⟩:=hrel;by_cases hlt:k<aA cs
   ·obtain⟨be,oe,rfl,kh,e0,e1,e2,e3⟩:=a2E (((aW.cA dD.o).below HR.o).mono HR.o.size) hlt;have cG:=η (zW rU hlt);have eY:(0:Int)<=(k:Int):=by omega
    have hkb:(k:Int)<(aA cs:Int):=by omega
    have Fs:=η (λ(h:rU cs[k]=aO)=>jv.2 ⟨_,cK hlt,h⟩);generalize cs[k]=x at*;obtain⟨xp,xf,xb,xn⟩:=x;simp only at e0 e1 e2 e3;have af:Hid (β w2 (wr.alloc (aK #[ν xp,bJ xf,ν xb,ν xn] 233))):=η (HR.o.alloc HR.o.size _);cases xf with
    |true=>
     have jM:Hid ((cs.take (k+1)).any rU=aP):=η (by rw [cG.o,HF.o];rfl);go_wp2
     go_roundw
     ·exact⟨k+1,by omega,by go_num,af,jM⟩
     simp [ag];omega
    |false=>
     by_cases hb:xb<0
     ·by_cases hn:xn<0
      ·have y8:Hid (nT M A l es=13):=η (by rw [wM.o,ifP (Fs.o (by simp [rU,hb,hn]))]);go_wp2
       go_ret;refine⟨po,by rw [y8.o];rfl, ?_,(bC.bZ _ aV.o).trans (bC.bZ (λ_=>False) af.o) (λ_ h=>h.elim)⟩;unfold Ke;rw [ifN (by rw [y8.o];decide)];exact(pZ.o.below aV.o).below af.o
      have jM:Hid ((cs.take (k+1)).any rU=aP):=η (by rw [cG.o,HF.o];simp [rU,hn]);go_wp2
      go_roundw
      ·exact⟨k+1,by omega,by go_num,af,jM⟩
      simp [ag];omega
     have jM:Hid ((cs.take (k+1)).any rU=aP):=η (by rw [cG.o,HF.o];simp [rU,hb]);go_wp2
     go_roundw
     ·exact⟨k+1,by omega,by go_num,af,jM⟩
     simp [ag];omega
   obtain rfl:k=aA cs:=by omega
   rw [cT] at HF;have y8:Hid (nT M A l es=0):=η (by rw [wM.o,ifN (by rw [HF.o];simp)]);obtain⟨wh,rfl⟩:∃wh:aJ,wh=wr:=⟨_,rfl⟩;have cC:Hid (β w wh):=η (aV.o.trans (HR.o.mono aV.o.size));have CR:Hid (fD wh bb M A v (l7 l (cs.take 0)) po):=η (by rw [nQ];exact(pZ.o.below aV.o).below HR.o);have Oh:Hid (bC (λk=>k=bb\/v.ownBlock=aC k) wh wh):=η (bC.refl _ _);have HOW:=η (iA dD.o HR.o);have rM:Hid (∀k,v.ownBlock=aC k->k<w.heap.size):=η λk hk=>(pZ.o.own.lt k hk).2
   go_wp2
   go_loopw [10,44] (λ_ i wr=>∃k:Nat,k<=aA cs/\i=ν (k:Int)/\Hid (fD wr bb M A v (l7 l (cs.take k)) po)/\Hid (bC (λk=>k=bb\/v.ownBlock=aC k) wh wr)) (λ_ i _=>aA cs-(ag i).toNat)
   ·exact⟨0,bL _,rfl,CR,Oh⟩
   ·
    obtain⟨k,hk,rfl,HK,HU⟩:=hrel;by_cases hlt:k<aA cs
    ·have lK:=η (HU.o.own HOW.o (λj hj=>by
      have h2:=eT HOW.o j hj;rintro (h3|h3)
      ·omega
      have:=rM.o j h3;omega))
     obtain⟨be,oe,rfl,kh,e0,e1,e2,e3⟩:=a2E (aW.cA lK.o) hlt;obtain⟨n,hxp,pM⟩:=HP.o _ (cK hlt);have lO:Hid (cs.take (k+1)=cs.take k++ [cs[k]]):=η (fE hlt);have eY:(0:Int)<=(k:Int):=by omega
     have hkb:(k:Int)<(aA cs:Int):=by omega
     generalize cs[k]=x at*;obtain⟨xp,xf,xb,xn⟩:=x;simp only at e0 e1 e2 e3 hxp;subst hxp;have LN:Hid (l7 l (cs.take (k+1))=(l7 l (cs.take k)).set n xn):=η (by rw [lO.o,aJg];simp);have hpl:aA (l7 l (cs.take k))=aA l:=a6c _ _;have lF:Hid (fD (wr.alloc (aK #[ν (n:Int),bJ xf,ν xb,ν xn] 233)) bb M A v (l7 l (cs.take k)) po):=η (HK.o.below σ);have o8:Hid ((wr.alloc (aK #[ν (n:Int),bJ xf,ν xb,ν xn] 233)).heap[wr.heap.size]? =aC (aK #[ν (n:Int),bJ xf,ν xb,ν xn] 233 (0,0))):=η (cO wr _);have HU3:Hid (bC (λk=>k=bb\/v.ownBlock=aC k) wh (wr.alloc (aK #[ν (n:Int),bJ xf,ν xb,ν xn] 233))):=η (HU.o.alloc _);have hgw:∀g,v.ownBlock=aC g->g<wr.heap.size:=λg hg=>(HK.o.own.lt g hg).2
     go_upto_region 15 with fail
     generalize wr.alloc (aK #[ν (n:Int),bJ xf,ν xb,ν xn] 233)=w3 at*;generalize wr.heap.size=bx at*;generalize l7 l (cs.take k)=pl at*;have hpn:0<aA pl:=by omega
     obtain⟨g,cap,Qu,hg0,kA⟩:=lF.o.own.form hpn;subst Qu;have hnp:n<aA pl:=by omega
     have d1:w3.drew.cell? ⟨bb,2,aB⟩=aC (aH (aC ⟨g,0,aB⟩) (aA pl) cap):=lF.o.c2;have d2:=r1c o8;have d3:w3.drew.cell? ⟨bx,3,aB⟩=aC (ν xn):=ρ o8.o;have HD:Hid (fD w3.drew bb M A (aH (aC ⟨g,0,aB⟩) (aA pl) cap) pl po):=η (lF.o.below (aX _ _).drew);have GA:Hid (bC (λk=>k=bb\/(aH (aC ⟨g,0,aB⟩) (aA pl) cap).ownBlock=aC k) wh w3.drew):=η HU3.o.drew;have ly:(0:Int)<=(n:Int):=by omega
     obtain⟨y,hy⟩:∃y,w3.drew.cell? ⟨g,n,aB⟩=aC y:=by have h2:=HD.o.own.cellAt n (by omega);exact⟨_,h2.trans (by rw [List.getElem?_map,iD hnp];rfl)⟩
     have vU:=HD.o.own.frozenAt n;refine Ir (S:=λW=>W.cell? ⟨bb,2,aB⟩=aC (aH (aC ⟨g,0,aB⟩) (aA pl) cap)/\W.cell? ⟨bx,0,aB⟩=aC (ν (n:Int))/\W.cell? ⟨bx,3,aB⟩=aC (ν xn)) 9 (by kernel_rfl) ⟨d1,d2,d3⟩ (λhHeld=> ?_);generalize w3.drew=w4 at*;refine tL 0 (π bb) rfl (by kernel_rfl) (λ_ _ _ h=>h) ⟨rfl,λ_ _=>by go_simp⟩ hHeld ?_;refine tL 1 (π bb) rfl (by kernel_rfl) (λ_ _ _ h=>h) ⟨rfl,λ_ _=>by go_simp⟩ hHeld ?_;refine tL 2 (ξ bb 2) rfl (by kernel_rfl) (λ_ _ _ h=>h) ⟨rfl,λ_ _=>by go_simp⟩ hHeld ?_;refine tL 3 (aH (aC ⟨g,0,aB⟩) (aA pl) cap) rfl (by kernel_rfl) (λ_ _ _ h=>h) ⟨rfl,λ_ _=>by go_simp⟩ hHeld ?_;refine tL 4 (π bx) rfl (by kernel_rfl) (λ_ _ _ h=>h) ⟨rfl,λ_ _=>by go_simp⟩ hHeld ?_;refine tL 5 (ν (n:Int)) rfl (by kernel_rfl) (λ_ _ _ h=>h) ⟨rfl,λ_ _=>by go_simp⟩ hHeld ?_;refine tL 6 (ξ bx 3) rfl (by kernel_rfl) (λ_ _ _ h=>h) ⟨rfl,λ_ _=>by go_simp⟩ hHeld ?_;refine tL 7 (ν xn) rfl (by kernel_rfl) (λ_ _ _ h=>h) ⟨rfl,λ_ _=>by go_simp⟩ hHeld ?_;refine tL 8 (ξ g n) rfl (by kernel_rfl) (λ_ _ _ h=>h) ⟨rfl,λ_ _=>by go_simp⟩ hHeld ?_;refine nL 9 rfl (by kernel_rfl) λK hK=> ?_
     go_simp
     have ED:Hid (fD (w4.setCell ⟨g,n,aB⟩ (ν xn)) bb M A (aH (aC ⟨g,0,aB⟩) (aA pl) cap) (l7 l (cs.take (k+1))) po):=η (by rw [LN.o];exact HD.o.put n xn);have JT:Hid (bC (λk=>k=bb\/(aH (aC ⟨g,0,aB⟩) (aA pl) cap).ownBlock=aC k) wh (w4.setCell ⟨g,n,aB⟩ (ν xn))):=η (GA.o.setCell (p:=⟨g,n,aB⟩) (aS (aU rfl)) _);refine hK.o _ _ (λh=>absurd rfl h) (λ_=> ?_);refine Iq (by kernel_rfl) ?_ _;go_wp2
     go_roundw
     ·exact⟨k+1,by omega,by go_num,ED,JT⟩
     simp [ag];omega
    obtain rfl:k=aA cs:=by omega
    rw [cT] at HK;have c3:=HK.o.c3;have f3:=HK.o.f3 3;go_wp2
    go_ret;refine⟨fS (po+1),by rw [y8.o];rfl, ?_,((bC.bZ _ cC.o).trans HU.o (λk h=>aS h)).setCell (p:=⟨bb,3,aB⟩) (aS (aS rfl)) _⟩;unfold Ke;rw [ifP y8.o,rI.o];exact HK.o.aJb _
 have HE:Hid (nT M A l es=jT M A l es):=η (by unfold nT;rw [ifP h0]);have HN:=η h0;have a4Q:(jT M A l es !=0)=aO:=by simpa using h0
 go_enter aBG,aC3
 go_wp2_with (go_at_call 159;refine Kt.o.mono ?_;rintro e w2 ⟨hb2,h2⟩;obtain rfl:e=aT (bB #[aH aB 0 0,ν (jT M A l es)]):=(h2.elim (λh=>absurd h.1 HN.o) (λh=>h.2));have aV:Hid (β w w2):=η hb2)
 go_ret;refine⟨po,by rw [HE.o];rfl, ?_,bC.bZ _ aV.o⟩;unfold Ke;rw [ifN (by rw [HE.o];exact HN.o)];exact pZ.o.below aV.o
section
structure Vp where
 bb:Nat
 bv:aN
 po:Int
 tb:Nat
 tv:aN
structure gU(w:aJ)(vb:Nat)(p:Vp)(M A:Nat)(room:Int)(l:List Int)(h:List Hr):Prop where
 blk:w.heap[vb]? =aC (aK #[π p.bb,π p.tb] 141 (0,0))
 bk:fD w p.bb M A p.bv l p.po
 tb:jE w p.tb room p.tv h
def qF(vb:Nat)(p:Vp)(k:Nat):Prop:=k=vb\/k=p.bb\/p.bv.ownBlock=aC k\/k=p.tb\/p.tv.ownBlock=aC k
section
variable {w w1:aJ} {vb:Nat} {p:Vp} {M A:Nat} {room:Int} {l:List Int} {h:List Hr}
theorem gU.lt(H:gU w vb p M A room l h):vb<w.heap.size:=(fW.1 H.blk).1
theorem gU.c0(H:gU w vb p M A room l h):w.cell? ⟨vb,0,aB⟩=aC (bF (aC ⟨p.bb,0,aB⟩)):=bH _ _ _ _ _ (0,0) H.blk
theorem gU.c1(H:gU w vb p M A room l h):w.cell? ⟨vb,1,aB⟩=aC (bF (aC ⟨p.tb,0,aB⟩)):=bH _ _ _ _ _ (0,0) H.blk
theorem gU.below(H:gU w vb p M A room l h)(hb:aa w.heap.size w w1):gU w1 vb p M A room l h:=⟨(hb.block _ H.lt).trans H.blk,H.bk.below hb,H.tb.below hb⟩
theorem jE.upd {tb:Nat} {v:aN} {S:Nat->Prop}(H:jE w tb room v h)(hu:bC S w w1)(h1:¬S tb)(h2:∀k,v.ownBlock=aC k->¬S k):jE w1 tb room v h:=⟨(hu.keep tb H.lt h1).trans H.blk,hu.own H.own h2⟩
theorem gU.upd {S:Nat->Prop}(H:gU w vb p M A room l h)(hu:bC S w w1)(hS:∀k,qF vb p k->¬S k):gU w1 vb p M A room l h:=
 ⟨(hu.keep vb H.lt (hS _ (aS rfl))).trans H.blk,H.bk.upd hu (hS _ (aU (aS rfl))) (λk hk=>hS _ (aU (aU (aS hk)))),H.tb.upd hu (hS _ (aU (aU (aU (aS rfl))))) (λk hk=>hS _ (aU (aU (aU (aU hk)))))⟩
theorem gU.aCb(H:gU w vb p M A room l h):∀k,qF vb p k->k<w.heap.size:=by
 rintro k (e|e|e|e|e)
 ·rw [e];exact H.lt
 ·rw [e];exact H.bk.lt
 ·exact(H.bk.own.lt k e).2
 ·rw [e];exact H.tb.lt
 exact(H.tb.own.lt k e).2
end
theorem KI {w:aJ} {B:Nat} {A:Option aj} {l:List Hr}(h:aW w B A (rq l)) {k:Nat}(hk:k<aA l):
 ∃b o,A=aC ⟨b,o,aB⟩/\b<B/\w.cell? ⟨b,o+k*5,aB⟩=aC (ν l[k].i)/\w.cell? ⟨b,o+k*5+1,aB⟩=aC (ν l[k].s)/\w.cell? ⟨b,o+k*5+2,aB⟩=aC (ν l[k].m)/\w.cell? ⟨b,o+k*5+3,aB⟩=aC (ν l[k].a)/\w.cell? ⟨b,o+k*5+4,aB⟩=aC (ν l[k].n):=by
 obtain⟨b,o,e,hb,hc⟩:=h.run (i:=k*5) (y:=ν l[k].i) (t:= [ν l[k].s,ν l[k].m,ν l[k].a,ν l[k].n]) (λj u hu=>uP Hr.cells 5 (λ_=>rfl) l k hk j u hu);exact⟨b,o,e,hb,hc 0 _ rfl,hc 1 _ rfl,hc 2 _ rfl,hc 3 _ rfl,hc 4 _ rfl⟩
theorem aGL(h:List Hr)(k m a:Int):aL (iL h k m a):=by
 have key:∀(h:List Hr) (z:Int),aL z->aL (h.foldl (λn r=>if r.s==k&&r.m==m&&r.a==a then fS (n+r.n) else n) z):=by
  intro h;induction h with
  |nil=>intro z hz;exact hz
  |cons r h ih=>
   intro z hz;rw [Ck];apply ih;split
   ·unfold aL fS;omega
   exact hz
 exact key h 0 JX
theorem aLC {α:Type} {l:List α} {k:Nat}(hk:k<aA l):l.take (k+1)=l.take k++ [l[k]]:=fE hk
theorem a8O(vb:Nat)(p:Vp)(M A:Nat)(room:Int)(l:List Int)(h:List Hr)(k m a:Int)(w:aJ)(H:gU w vb p M A room l h)(hl:aA h<=100000):
 aQ aM 160 #[π vb,bU #[ν k,ν m],ν a] w λe w'=>e=aT (ν (iL h k m a))/\β w w':=by
 have aY:Hid (β w (w.alloc (aK #[ν k,ν m] 51))):=η σ;have HV:=η (H.below aY.o);have c1:=HV.o.c1;have cZ:Hid ((w.alloc (aK #[ν k,ν m] 51)).heap[w.heap.size]? =aC (aK #[ν k,ν m] 51 (0,0))):=η (cO w _);have hz0:w.heap.size<(w.alloc (aK #[ν k,ν m] 51)).heap.size:=by simp
 clear H;go_enter func160,ntmps160
 go_wp2_with fail
 generalize w.alloc (aK #[ν k,ν m] 51)=w1 at*;obtain⟨bx,bT⟩:∃bx,bx=w.heap.size:=⟨_,rfl⟩;rw [<-bT] at cZ hz0 ⊢;clear bT;have LV:=η (a8H room p.tv h p.tb w1 HV.o.tb hl);go_wp2_with (go_at_call 125;refine LV.o.mono ?_)
 rintro e w2 ⟨v2,rfl,eR,hb2⟩;have HO:=η eR;have HB:Hid (β w w2):=τ aY hb2;have HX:Hid (w2.heap[bx]? =aC (aK #[ν k,ν m] 51 (0,0))):=η ((hb2.block bx hz0).trans cZ.o);have hz2:bx<w2.heap.size:=cP hz0 hb2.size;obtain⟨Ar,cr,hv⟩:=bK eR;subst hv;have sN:Hid (β w2 w2):=η (aX _ _);have L6:Hid (iL (h.take 0) k m a=0):=η (by rw [nQ];rfl);clear eR hb2 LV HV c1 cZ aY;go_wp2_with fail
 go_loopw [7,9,16] (λn _ i wr=>∃(j:Nat) (z:Int),j<=aA h/\i=ν (j:Int)/\n=ν z/\Hid (iL (h.take j) k m a=z)/\Hid (β w2 wr)) (λ_ _ i _=>aA h-(ag i).toNat)
 case atStart=>exact⟨0,0,bL _,rfl,rfl,L6,sN⟩
 case round=>
  clear sN L6;obtain⟨j,z,hj,rfl,rfl,HH,HR⟩:=hrel;by_cases hlt:j<aA h
  ·obtain⟨be,oe,rfl,kh,e0,e1,e2,e3,e4⟩:=KI (((aW.cA HO.o).below HR.o).mono HR.o.size) hlt;have cG:Hid (iL (h.take (j+1)) k m a=if (h[j].s==k&&h[j].m==m&&h[j].a==a)=aO then fS (z+h[j].n) else z):=η (by rw [aLC hlt,aGM,HH.o]);have zv:(0:Int)<=(j:Int):=by omega
   have hjb:(j:Int)<(aA h:Int):=by omega
   generalize h[j]=r at*;obtain⟨ri,rs,rm,ra,rn⟩:=r;simp only at e0 e1 e2 e3 e4 cG;have af:Hid (β w2 (wr.alloc (aK #[ν ri,ν rs,ν rm,ν ra,ν rn] 188))):=η (HR.o.alloc HR.o.size _);have q0:wr.cell? ⟨bx,0,aB⟩=aC (ν k):=(HR.o.cell (p:=⟨bx,0,aB⟩) hz2).trans (ρ HX.o);have q1:wr.cell? ⟨bx,1,aB⟩=aC (ν m):=(HR.o.cell (p:=⟨bx,1,aB⟩) hz2).trans (ρ HX.o);have hzr:bx<wr.heap.size:=cP hz2 HR.o.size;by_cases h1:rs=k
   ·subst h1;by_cases h2:rm=m
    ·subst h2;by_cases h3:ra=a
     ·subst h3;have HN:Hid (iL (h.take (j+1)) rs rm ra=fS (z+rn)):=η (by rw [cG.o];simp);go_wp2_with fail
      go_roundw
      case rel=>exact⟨j+1,_,by omega,by go_num,rfl,HN,af⟩
      case measure=>simp [ag];omega
     have HN:Hid (iL (h.take (j+1)) rs rm a=z):=η (by rw [cG.o];simp [h3]);have Hk:(ra==a)=aP:=by simpa using h3
     go_wp2_with fail
     go_roundw
     case rel=>exact⟨j+1,_,by omega,by go_num,rfl,HN,af⟩
     case measure=>simp [ag];omega
    have HN:Hid (iL (h.take (j+1)) rs m a=z):=η (by rw [cG.o];simp [h2]);have uR:(rm==m)=aP:=by simpa using h2
    go_wp2_with fail
    go_roundw
    case rel=>exact⟨j+1,_,by omega,by go_num,rfl,HN,af⟩
    case measure=>simp [ag];omega
   have HN:Hid (iL (h.take (j+1)) k m a=z):=η (by rw [cG.o];simp [h1]);have uQ:(rs==k)=aP:=by simpa using h1
   go_wp2_with fail
   go_roundw
   case rel=>exact⟨j+1,_,by omega,by go_num,rfl,HN,af⟩
   case measure=>simp [ag];omega
  obtain rfl:j=aA h:=by omega
  rw [cT] at HH;go_wp2_with fail
  go_ret;exact⟨by rw [HH.o];rfl,HB.o.trans (HR.o.mono HB.o.size)⟩
theorem YU(vb:Nat)(p:Vp)(M A:Nat)(room:Int)(l:List Int)(h:List Hr)(k m a:Int)(w:aJ)(H:gU w vb p M A room l h)(hk:aL k)(hm:aL m):
 aQ aM 41 #[π vb,bU #[ν k,ν m],ν a] w λe w'=>e=aT (bB #[ν (balA M A l k m a),ν (oN (plcA M A k m a))])/\β w w':=by
 have aY:Hid (β w (w.alloc (aK #[ν k,ν m] 51))):=η σ;have HV:=η (H.below aY.o);have c0:=HV.o.c0;have IK:=HV.o.lt;have ny:=η (λW (hW:aa (w.alloc (aK #[ν k,ν m] 51)).heap.size (w.alloc (aK #[ν k,ν m] 51)) W)=>Ur M A p.bv l p.po k m a p.bb W (HV.o.bk.below hW) hk hm);have x0:(w.alloc (aK #[ν k,ν m] 51)).cell? ⟨w.heap.size,0,aB⟩=aC (ν k):=cL w _ _ 0 rfl;have x1:(w.alloc (aK #[ν k,ν m] 51)).cell? ⟨w.heap.size,1,aB⟩=aC (ν m):=cL w _ _ 1 rfl;have hz0:w.heap.size<(w.alloc (aK #[ν k,ν m] 51)).heap.size:=by simp
 generalize balA M A l k m a=R at*;generalize oN (plcA M A k m a)=E at*;go_enter func41,ntmps41
 go_upto_region 3 with fail
 generalize w.alloc (aK #[ν k,ν m] 51)=w1 at*;obtain⟨bx,bT⟩:∃bx,bx=w.heap.size:=⟨_,rfl⟩;rw [<-bT] at x0 x1 hz0 ⊢;clear bT;have vS:=λ(n:rB w1.heap.size w1) (b o:Nat) (hb:b<w1.heap.size)=>n.cells b o hb
 refine Nw w1.heap.size (by kernel_rfl) (by kernel_rfl) ?_;repeat (go_big_quiet_step ((go_at_call 92;exact Calls.Jl (aZ _) (ny.o _ (rB.h _)))))
 refine wpQuiet_nil ?_;intro _ hw';obtain⟨nq,hw''⟩:=hw';subst hw'';have HN:=η (aY.o.trans (nq.h.mono aY.o.size));clear vS;go_wp2_with fail
 go_ret2;exact⟨rfl,HN.o⟩
theorem a8P(vb:Nat)(p:Vp)(M A:Nat)(room:Int)(l:List Int)(h:List Hr)(k m a:Int)(w:aJ)(H:gU w vb p M A room l h)(hk:aL k)(hm:aL m)(vW:∀y∈l,aL y)(hl:aA h<=100000):
 aQ aM 111 #[π vb,bU #[ν k,ν m],ν a] w λe w'=>e=aT (bB #[ν (if plcA M A k m a=aB then 0 else gQ (balA M A l k m a-iL h k m a)),ν (if plcA M A k m a=aB then 8 else dM (balA M A l k m a-iL h k m a))])/\β w w':=by
 have aY:Hid (β w (w.alloc (aK #[ν k,ν m] 51))):=η σ;have HV:=η (H.below aY.o);have iH:=η (YU vb p M A room l h k m a (w.alloc (aK #[ν k,ν m] 51)) HV.o hk hm);have L8:=η (λW (hW:aa (w.alloc (aK #[ν k,ν m] 51)).heap.size (w.alloc (aK #[ν k,ν m] 51)) W)=>a8O vb p M A room l h k m a W (HV.o.below hW) hl);have x0:(w.alloc (aK #[ν k,ν m] 51)).cell? ⟨w.heap.size,0,aB⟩=aC (ν k):=cL w _ _ 0 rfl;have x1:(w.alloc (aK #[ν k,ν m] 51)).cell? ⟨w.heap.size,1,aB⟩=aC (ν m):=cL w _ _ 1 rfl;have hz0:w.heap.size<(w.alloc (aK #[ν k,ν m] 51)).heap.size:=by simp
 have yz:Hid (aL (balA M A l k m a)):=η (by
  unfold balA;split
  ·rename_i n _;rw [sV];cases hg:l[n]? with
   |none=>exact JX
   |some y=>exact vW _ (zQ hg)
  exact JX)
 have oY:=η (aGL h k m a);by_cases hp:plcA M A k m a=aB
 ·rw [ifP hp,ifP hp];rw [hp] at iH;generalize balA M A l k m a=R at*;unfold oN at iH;simp only at iH;go_enter aAX,aBK
  go_wp2_with (go_at_call 41;refine iH.o.mono ?_;rintro e w2 ⟨rfl,hb2⟩;have aV:Hid (β w w2):=τ aY hb2)
  go_ret2;exact⟨rfl,aV.o⟩
 rw [ifN hp,ifN hp];obtain⟨n,hn⟩:=Option.ne_none_iff_exists'.1 hp;rw [hn] at iH;have kV:=η (λW=>S5 (balA M A l k m a) (iL h k m a) W yz.o oY.o);generalize balA M A l k m a=R at*;generalize iL h k m a=Z at*;unfold oN at iH;simp only at iH;go_enter aAX,aBK
 go_wp2_with (first|(go_at_call 41;refine iH.o.mono ?_;rintro e w2 ⟨rfl,hb2⟩;have aV:Hid (β w w2):=τ aY hb2;have qR:=η hb2;have y0:=(ez hb2).1 w.heap.size 0 hz0;have y1:=(ez hb2).1 w.heap.size 1 hz0;rw [x0] at y0;rw [x1] at y1)|(go_at_call 160;refine(L8.o _ qR.o).mono ?_;rintro e w3 ⟨rfl,hb3⟩;have af:Hid (β w w3):=τ aV hb3)|(go_at_call 148;refine(kV.o _).mono ?_;rintro e w4 ⟨rfl,rfl⟩))
 go_ret2;exact⟨rfl,af.o⟩
end
end Go.Proofs.YtdokipdchlcmeaaGreat
