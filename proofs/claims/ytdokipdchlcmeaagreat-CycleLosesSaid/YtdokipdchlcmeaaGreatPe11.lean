/-
  PROVED: complinelaw30.CycleLoses returns true for every input, its arguments read afterwards as before. No conditions.
  Several texts in one (printed by pack.py).
-/
import Derived.Test.YtdokipdchlcmeaaGreatPe10
import Derived.Deep.DeepCutAuto
set_option linter.all false
set_option maxRecDepth 100000
set_option maxHeartbeats 12800000
open And renaming intro→kT
open Array renaming getElem?_eq_some_iff→fY
open Bool renaming true→aO,false→aP,and_eq_true→jX
open Classical renaming skolem→YN
open Go renaming World→aJ,Value→aN,Calls→aQ,Addr→ai,maxLen→bK,TypeId→bX,heap_alloc_new→cT,info_parts→dK,Ending→di,wpList_append_own→iw
open Go.Calls renaming mono→tT
open Go.DataW renaming trod_struct→YQ,trod→a8C
open Go.Ending renaming returned→aU
open Go.IntKind renaming i64→aF,bits→Zj
open Go.Obj renaming cells→aK
open Go.Proofs renaming intOf→ag
open Go.Proofs.Tryz renaming prog→aM,underlying39→sU,underlying4→BA,f3→EI,func3→Ou,checked→a0B,ntmps3→a0k,underlying69→aBg
open Go.RowKit renaming Below→aa
open Go.RowKit.Below renaming refl→aX
open Go.Value renaming int→aG,slice→aH,tuple→bB,pointer→bH,bool→bM,agg→bO
open Go.World renaming ownsRow_nil→gC,cells?_some→aBm
open Int renaming le_refl→dH
open List renaming length→aA,getElem_mem→cK,length_append→cL,take_length→cU,range→dQ,mem_map→dV,mem_cons_of_mem→df,mem_cons→fC,take_succ_eq_append_getElem→fF,mem_append→gJ,replicate→gN,getElem?_eq_getElem→iA,mem_range→nH,flatMap_cons→wP,getElem?_eq_some_iff→zF,length_replicate→Cb,drop_eq_getElem_cons→JF,map_congr_left→JG,getElem_append_right→OZ,flatMap_def→Tm,flatMap_map→a9O,mem_replicate→a9W
open List.Pairwise renaming nil→Ti
open Nat renaming le_refl→aZ,zero_le→bL,le_trans→cC,lt_of_lt_of_le→cR
open Option renaming none→aB,some→aC
namespace Go.Proofs.YtdokipdchlcmeaaGreat
open Go.Proofs.Tryz Go.RowKit
structure Td where
 i:Int
 b:Int
 s:Int
 c:Int
 q:Int
 p:Int
def Td.cells(x:Td):List aN:= [aG aF x.i,aG aF x.b,aG aF x.s,aG aF x.c,aG aF x.q,aG aF x.p]
def Td.val(x:Td):aN:=bO #[aG aF x.i,aG aF x.b,aG aF x.s,aG aF x.c,aG aF x.q,aG aF x.p]
def Y2(l:List Td):List aN:=l.flatMap Td.cells
def Td.ok(x:Td):Prop:=aL x.b/\aL x.s/\aL x.c/\aL x.q/\aL x.p
theorem aKi {w:aJ} {B:Nat} {A:Option ai} {l:List Td}(h:aW w B A (Y2 l)) {k:Nat}(hk:k<aA l):
 ∃b o,A=aC ⟨b,o,aB⟩/\b<B/\w.cell? ⟨b,o+k*6,aB⟩=aC (ν l[k].i)/\w.cell? ⟨b,o+k*6+1,aB⟩=aC (ν l[k].b)/\w.cell? ⟨b,o+k*6+2,aB⟩=aC (ν l[k].s)/\w.cell? ⟨b,o+k*6+3,aB⟩=aC (ν l[k].c)/\w.cell? ⟨b,o+k*6+4,aB⟩=aC (ν l[k].q)/\w.cell? ⟨b,o+k*6+5,aB⟩=aC (ν l[k].p):=by
 obtain⟨b,o,e,hb,hc⟩:=h.run (i:=k*6) (y:=ν l[k].i) (t:= [ν l[k].b,ν l[k].s,ν l[k].c,ν l[k].q,ν l[k].p]) (λj u hu=>tC Td.cells 6 (λ_=>rfl) l k hk j u hu);exact⟨b,o,e,hb,hc 0 _ rfl,hc 1 _ rfl,hc 2 _ rfl,hc 3 _ rfl,hc 4 _ rfl,hc 5 _ rfl⟩
def U1(n:Nat)(w:aJ)(e:di)(w':aJ):Prop:=∃A c L er,e=aU (bB #[aH A (aA (L:List Lg)) c,aG aF er])/\sN w' A c L/\(∀y∈L,y.ok)/\aA L<=n/\aa w.heap.size w w'
theorem aJQ(t:Td)(w:aJ)(hI:t.ok):
 aQ aM 91 #[t.val] w (U1 4 w):=by
 obtain⟨t0,t1,t2,t3,t4,t5⟩:=t;obtain⟨i1,i2,i3,i4,i5⟩:=hI;simp only at i1 i2 i3 i4 i5;have HI:=η (kT i1 (kT i2 (kT i3 i4)));have HM:=η (λW=>aJS t4 t5 W i4 i5);have E8:Hid (aL (gP (t4*t5))):=η (UQ _);have aY:Hid (β w (w.alloc (aK #[ν t0,ν t1,ν t2,ν t3,ν t4,ν t5] 153))):=η σ;have dC:Hid ((w.alloc (aK #[ν t0,ν t1,ν t2,ν t3,ν t4,ν t5] 153)).heap[w.heap.size]? =aC (aK #[ν t0,ν t1,ν t2,ν t3,ν t4,ν t5] 153 (0,0))):=η (cT w _);have hz0:w.heap.size<(w.alloc (aK #[ν t0,ν t1,ν t2,ν t3,ν t4,ν t5] 153)).heap.size:=by simp
 obtain⟨i0,bj,rU,rV,rW⟩:=dK N3;clear i1 i2 i3 i4 i5;unfold Td.val;generalize gP (t4*t5)=v at*;generalize dL (t4*t5)=er at*;go_enter func91,ntmps91
 go_upto_region 1 with (fail)
 generalize w.alloc (aK #[ν t0,ν t1,ν t2,ν t3,ν t4,ν t5] 153)=w0 at*;obtain⟨bx,bQ⟩:∃bx,bx=w.heap.size:=⟨_,rfl⟩;rw [<-bQ] at dC hz0 ⊢;clear bQ;have fL:Hid (∀W,β w0 W->W.cell? ⟨bx,1,aB⟩=aC (ν t1)/\W.cell? ⟨bx,2,aB⟩=aC (ν t2)/\W.cell? ⟨bx,3,aB⟩=aC (ν t3)/\W.cell? ⟨bx,4,aB⟩=aC (ν t4)/\W.cell? ⟨bx,5,aB⟩=aC (ν t5)):=η (λW hW=>by have hd:=(hW.block bx hz0).trans dC.o;exact⟨ρ hd,ρ hd,ρ hd,ρ hd,ρ hd⟩);have eJ:Hid (∀W,β w0 W->β w W):=η (λW hW=>aY.o.trans (hW.mono aY.o.size));obtain⟨_,_,_,d4,d5⟩:=fL.o w0 (aX _ _);go_upto_region 3 with (go_at_call 154;refine(HM.o _).mono ?_;rintro e w1 ⟨rfl,hb1⟩;have aR:Hid (β w0 w1):=η hb1;clear hb1)
 clear HM d4 d5 dC;obtain⟨d1,d2,d3,d4,_⟩:=fL.o w1 aR.o;by_cases Ec:er=0/\v≠-9223372036854775808/\t4≠-9223372036854775808
 case neg=>
  have QB:∀W,β w0 W->U1 4 w (aU (bB #[aH aB 0 0,ν 2])) W:=λW hW=>⟨aB,0,[],2,rfl,⟨aW.nil,λ_=>⟨rfl,rfl⟩⟩,by simp,by simp,eJ.o W hW⟩
  have qu:=η (QB w1 aR.o);clear QB;by_cases h1:er=0
  ·by_cases h2:v= -9223372036854775808
   ·subst h1 h2;clear Ec;go_wp2_with fail
    go_ret2;exact qu.o
   have h3:t4= -9223372036854775808:=Classical.not_not.1 (λh=>Ec ⟨h1,h2,h⟩);have hb2:(v== -9223372036854775808)=aP:=by simpa using h2
   subst h1 h3;clear Ec;go_wp2_with fail
   go_ret2;exact qu.o
  have hb:(er==0)=aP:=by simpa using h1
  clear Ec;go_wp2_with fail
  go_ret2;exact qu.o
 obtain⟨rfl,h2,h3⟩:=Ec;have hb2:(v== -9223372036854775808)=aP:=by simpa using h2
 have hb3:(t4== -9223372036854775808)=aP:=by simpa using h3
 have oF:aL (-v):=by have h:=E8.o;unfold aL at*;omega
 have pn:aL (-t4):=by have h:=HI.o.2.2.2;unfold aL at*;omega
 have hw2:aF.wrap (-v)= -v:=vq oF;have hw3:aF.wrap (-t4)= -t4:=vq pn;have qF:=η oF;have iZ:=η pn;clear oF pn;have cF:Hid (w1.ownsRow w0.heap.size 76 3 (aH aB 0 0) 0 (bA [])):=η (gC _ _ _ _);have vx:Hid (β w1 (w1.alloc (aK #[ν t1,ν 0,ν v] 76))):=η σ;have nr:=η (iI cF.o vx.o);go_wp2_with (at_builtin;refine iw _ rfl _ _ 39 rfl w0.heap.size 76 i0 _ 3 24 sU bj rU rV rW rfl (by decide) _ 0 (bA []) rfl nr.o ⟨w1.heap.size,0,aB⟩ 1 1 [ν t1,ν 0,ν v] rfl rfl (dM w1 76 #[ν t1,ν 0,ν v] rfl) (K7 ⟨t1,0,v⟩) (by decide) (by decide) (cC aR.o.size vx.o.size) ?_)
 intro v2 w2 fN hg2 _;have aV:Hid (β w0 w2):=η (EL (aR.o.trans (vx.o.mono aR.o.size)) hg2 (λk hk=>(nr.o.lt k hk).1) (cC aR.o.size vx.o.size));have dB:Hid (w2.ownsRow w0.heap.size 76 3 v2 1 (bA [⟨t1,0,v⟩])):=η fN;clear fN hg2 vx nr d1 d2 d3 d4;obtain⟨d1,d2,d3,d4,_⟩:=fL.o w2 aV.o;have vy:Hid (β w2 (w2.alloc (aK #[ν t1,ν t3,ν (-t4)] 76))):=η σ;have mX:=η (iI dB.o vy.o);go_wp2_with (at_builtin;refine iw _ rfl _ _ 39 rfl w0.heap.size 76 i0 _ 3 24 sU bj rU rV rW rfl (by decide) _ 1 (bA [⟨t1,0,v⟩]) rfl mX.o ⟨w2.heap.size,0,aB⟩ 1 1 [ν t1,ν t3,ν (-t4)] rfl rfl (dM w2 76 #[ν t1,ν t3,ν (-t4)] rfl) (K7 ⟨t1,t3,(-t4)⟩) (by decide) (by decide) (cC aV.o.size vy.o.size) ?_)
 intro v3 w3 ik hg3 _;have af:Hid (β w0 w3):=η (EL (aV.o.trans (vy.o.mono aV.o.size)) hg3 (λk hk=>(mX.o.lt k hk).1) (cC aV.o.size vy.o.size));have cB:Hid (w3.ownsRow w0.heap.size 76 3 v3 2 (bA [⟨t1,0,v⟩,⟨t1,t3,-t4⟩])):=η ik;clear ik hg3 vy mX d1 d2 d3 d4;obtain⟨d1,d2,d3,d4,_⟩:=fL.o w3 af.o;have lC:Hid (β w3 (w3.alloc (aK #[ν t2,ν 0,ν (-v)] 76))):=η σ;have oT:=η (iI cB.o lC.o);go_wp2_with (at_builtin;refine iw _ rfl _ _ 39 rfl w0.heap.size 76 i0 _ 3 24 sU bj rU rV rW rfl (by decide) _ 2 (bA [⟨t1,0,v⟩,⟨t1,t3,-t4⟩]) rfl oT.o ⟨w3.heap.size,0,aB⟩ 1 1 [ν t2,ν 0,ν (-v)] rfl rfl (dM w3 76 #[ν t2,ν 0,ν (-v)] rfl) (K7 ⟨t2,0,(-v)⟩) (by decide) (by decide) (cC af.o.size lC.o.size) ?_)
 intro v4 w4 gL hg4 _;have ar:Hid (β w0 w4):=η (EL (af.o.trans (lC.o.mono af.o.size)) hg4 (λk hk=>(oT.o.lt k hk).1) (cC af.o.size lC.o.size));have dU:Hid (w4.ownsRow w0.heap.size 76 3 v4 3 (bA [⟨t1,0,v⟩,⟨t1,t3,-t4⟩,⟨t2,0,-v⟩])):=η gL;clear gL hg4 lC oT d1 d2 d3 d4;obtain⟨d1,d2,d3,d4,_⟩:=fL.o w4 ar.o;have qm:Hid (β w4 (w4.alloc (aK #[ν t2,ν t3,ν t4] 76))):=η σ;have TD:=η (iI dU.o qm.o);go_wp2_with (at_builtin;refine iw _ rfl _ _ 39 rfl w0.heap.size 76 i0 _ 3 24 sU bj rU rV rW rfl (by decide) _ 3 (bA [⟨t1,0,v⟩,⟨t1,t3,-t4⟩,⟨t2,0,-v⟩]) rfl TD.o ⟨w4.heap.size,0,aB⟩ 1 1 [ν t2,ν t3,ν t4] rfl rfl (dM w4 76 #[ν t2,ν t3,ν t4] rfl) (K7 ⟨t2,t3,t4⟩) (by decide) (by decide) (cC ar.o.size qm.o.size) ?_)
 intro v5 w5 jA eZ _;have cz:Hid (β w0 w5):=η (EL (ar.o.trans (qm.o.mono ar.o.size)) eZ (λk hk=>(TD.o.lt k hk).1) (cC ar.o.size qm.o.size));have fK:Hid (w5.ownsRow w0.heap.size 76 3 v5 4 (bA [⟨t1,0,v⟩,⟨t1,t3,-t4⟩,⟨t2,0,-v⟩,⟨t2,t3,t4⟩])):=η jA;clear jA eZ qm TD d1 d2 d3 d4;obtain⟨d1,d2,d3,d4,_⟩:=fL.o w5 cz.o;go_wp2_with fail
 go_ret2;obtain⟨A5,c5,rfl⟩:=bJ fK.o;exact⟨A5,c5,[⟨t1,0,v⟩,⟨t1,t3,-t4⟩,⟨t2,0,-v⟩,⟨t2,t3,t4⟩],0,rfl,⟨aW.cA fK.o,λe=>by have:=I7 fK.o e;exact this⟩,by
  intro y hy;have h:=HI.o;simp only [fC,List.not_mem_nil,or_false] at hy;rcases hy with rfl|rfl|rfl|rfl
  ·exact⟨h.1,(by decide:aL 0),E8.o⟩
  ·exact⟨h.1,h.2.2.1,iZ.o⟩
  ·exact⟨h.2.1,(by decide:aL 0),qF.o⟩
  exact⟨h.2.1,h.2.2.1,h.2.2.2⟩,by simp,eJ.o _ cz.o⟩
structure Ac where
 k:Int
 ts:List Td
 At:Option ai
 ct:Nat
 ls:List Lg
 Al:Option ai
 cl:Nat
 m:Int
 a:Int
 n:Int
 b:Bd
def Ac.val(x:Ac):aN:=bO #[aG aF x.k,aH x.At (aA x.ts) x.ct,aH x.Al (aA x.ls) x.cl,aG aF x.m,aG aF x.a,aG aF x.n,aG aF x.b.s,aG aF x.b.m,aG aF x.b.c,aG aF x.b.q,aG aF x.b.p]
def Ac.cells(x:Ac):List aN:= [aG aF x.k,aH x.At (aA x.ts) x.ct,aH x.Al (aA x.ls) x.cl,aG aF x.m,aG aF x.a,aG aF x.n,aG aF x.b.s,aG aF x.b.m,aG aF x.b.c,aG aF x.b.q,aG aF x.b.p]
structure Ac.ok(x:Ac):Prop where
 m:aL x.m
 a:aL x.a
 n:aL x.n
 b:x.b.ok
 t:∀y∈x.ts,y.ok
 l:∀y∈x.ls,y.ok
structure Ac.at(x:Ac)(w:aJ):Prop where
 t:aW w w.heap.size x.At (Y2 x.ts)
 l:aW w w.heap.size x.Al (bA x.ls)
theorem Ac.at.below {x:Ac} {w w':aJ}(h:x.at w)(hb:aa w.heap.size w w'):x.at w':=⟨(h.t.below hb).mono hb.size,(h.l.below hb).mono hb.size⟩
def U0(n:Nat)(w:aJ)(e:di)(w':aJ):Prop:=∃A c L,e=aU (aH A (aA (L:List Lg)) c)/\aW w' w'.heap.size A (bA L)/\(∀y∈L,y.ok)/\aA L<=n/\aa w.heap.size w w'
theorem aH9(x:Ac)(w:aJ)(hx:x.ok)(ha:x.at w)(hn:aA x.ts<=30)(hl:aA x.ls<=60):
 aQ aM 39 #[x.val] w (U0 120 w):=by
 obtain⟨xk,ts,At,ct,ls,Al,cl,xm,xa,xn,⟨bs,bm,bc,bq,bp⟩⟩:=x;have HT:Hid (∀y∈ts,y.ok):=η hx.t;have HL:Hid (∀y∈ls,y.ok):=η hx.l;have Nj:=η ha;simp only at hn hl;have aY:Hid (β w (w.alloc (aK #[ν xk,aH At (aA ts) ct,aH Al (aA ls) cl,ν xm,ν xa,ν xn,ν bs,ν bm,ν bc,ν bq,ν bp] 43))):=η σ;have dC:Hid ((w.alloc (aK #[ν xk,aH At (aA ts) ct,aH Al (aA ls) cl,ν xm,ν xa,ν xn,ν bs,ν bm,ν bc,ν bq,ν bp] 43)).heap[w.heap.size]? =aC (aK #[ν xk,aH At (aA ts) ct,aH Al (aA ls) cl,ν xm,ν xa,ν xn,ν bs,ν bm,ν bc,ν bq,ν bp] 43 (0,0))):=η (cT w _);have hz0:w.heap.size<(w.alloc (aK #[ν xk,aH At (aA ts) ct,aH Al (aA ls) cl,ν xm,ν xa,ν xn,ν bs,ν bm,ν bc,ν bq,ν bp] 43)).heap.size:=by simp
 clear hx ha;unfold Ac.val;go_enter func39,ntmps39
 go_upto_region 1 with (fail)
 generalize w.alloc (aK #[ν xk,aH At (aA ts) ct,aH Al (aA ls) cl,ν xm,ν xa,ν xn,ν bs,ν bm,ν bc,ν bq,ν bp] 43)=w0 at*;obtain⟨bx,bQ⟩:∃bx,bx=w.heap.size:=⟨_,rfl⟩;rw [<-bQ] at dC hz0 ⊢;clear bQ;have fL:Hid (∀W,β w0 W->W.cell? ⟨bx,0,aB⟩=aC (ν xk)/\W.cell? ⟨bx,1,aB⟩=aC (aH At (aA ts) ct)/\W.cell? ⟨bx,2,aB⟩=aC (aH Al (aA ls) cl)):=η (λW hW=>by have hd:=(hW.block bx hz0).trans dC.o;exact⟨ρ hd,ρ hd,ρ hd⟩);have eJ:Hid (∀W,β w0 W->β w W):=η (λW hW=>aY.o.trans (hW.mono aY.o.size));obtain⟨d0,d1,d2⟩:=fL.o w0 (aX _ _);by_cases h1:xk=0
 case neg=>
  have hb:(xk==0)=aP:=by simpa using h1
  have qu:Hid (U0 120 w (aU (aH Al (aA ls) cl)) w0):=η ⟨Al,cl,ls,rfl,(Nj.o.below aY.o).l,HL.o,by omega,aY.o⟩;go_wp2_with fail
  go_ret;exact qu.o
 subst h1;clear d2 HL;have ly:Hid (∃L:List Lg,w0.ownsRow w0.heap.size 76 3 (aH aB 0 0) (aA L) (bA L)/\(∀y∈L,y.ok)/\aA L<=0/\β w0 w0):=η ⟨[],gC _ _ _ _,by simp,by simp,aX _ _⟩;go_upto_region 5 with (fail)
 clear d0 d1;go_loopw [3,4,5,6] (λv i _ _ wr=>∃k:Nat,k<=aA ts/\i=ν (k:Int)/\Hid (∃L:List Lg,wr.ownsRow w0.heap.size 76 3 v (aA L) (bA L)/\(∀y∈L,y.ok)/\aA L<=4*k/\β w0 wr)) (λ_ i _ _ _=>aA ts-(ag i).toNat)
 case atStart=>exact⟨0,bL _,rfl,ly⟩
 case round=>
  clear ly;obtain⟨k,hk,rfl,uf⟩:=hrel;obtain⟨L,ho,dR,mi,hb⟩:=uf.o;obtain⟨v,hv⟩:∃v,v=u3:=⟨_,rfl⟩;have HO:=η ho;have HK:=η dR;have lx:=η mi;have HB:=η hb;clear uf ho dR mi;obtain⟨_,d1,_⟩:=fL.o wr hb;clear hb;by_cases hlt:k<aA ts
  ·obtain⟨bl,ol,kN,hbl,l0,l1,l2,l3,l4,l5⟩:=aKi ((Nj.o.below aY.o).below HB.o).t hlt;have eV:(0:Int)<=(k:Int):=by omega
   have hkb:(k:Int)<(aA ts:Int):=by omega
   have lM:=η (HT.o _ (cK hlt));have hAt:At=aC ⟨bl,ol,aB⟩:=kN;clear kN;subst hAt;generalize ts[k]=t at*;obtain⟨t0,t1,t2,t3,t4,t5⟩:=t;simp only at l0 l1 l2 l3 l4 l5;have J3:Hid (aQ aM 91 #[bO #[ν t0,ν t1,ν t2,ν t3,ν t4,ν t5]] wr (U1 4 wr)):=η (aJQ ⟨t0,t1,t2,t3,t4,t5⟩ wr lM.o);go_upto_region 8 with (go_at_call 91;refine J3.o.mono ?_;rintro e w2 ⟨A2,c2,L2,er,rfl,hs2,hk2,hl2,hb2⟩;have aV:Hid (β w0 w2):=τ HB hb2;have dB:=η (iI HO.o hb2);have cP:=η hs2;have lT:=η hk2;have CN:=η hl2;clear hs2 hk2 hl2 hb2)
   clear J3 HO l0 l1 l2 l3 l4 l5 d1;go_wp2_with (at_builtin;refine a7s rfl _ _ rfl w0.heap.size _ (aA L) (bA L) rfl dB.o A2 c2 L2 rfl cP.o (by have:=lx.o;have:=CN.o;omega) aV.o.size ?_)
   intro v3 w3 ik hg3 _;have wF:Hid (∃L:List Lg,w3.ownsRow w0.heap.size 76 3 v3 (aA L) (bA L)/\(∀y∈L,y.ok)/\aA L<=4*(k+1)/\β w0 w3):=η ⟨L++L2,by rw [cL,show bA (L++L2)=bA L++bA L2 from by simp [bA]];exact ik,λy hy=>(gJ.1 hy).elim (HK.o y) (lT.o y),by rw [cL];have:=lx.o;have:=CN.o;omega,EL aV.o hg3 (λk hk=>(dB.o.lt k hk).1) aV.o.size⟩;clear ik hg3 dB cP HK lT lx CN aV HB;go_wp2_with fail
   go_roundw
   case rel=>exact⟨k+1,by omega,by go_num,wF⟩
   case measure=>simp [ag];omega
  obtain rfl:k=aA ts:=by omega
  have qu:Hid (∀A c,u3=aH A (aA L) c->U0 120 w (aU (aH A (aA L) c)) wr):=η (λA c e=>by have ho:=HO.o;rw [e] at ho;exact⟨A,c,L,rfl,aW.cA ho,HK.o,by have:=lx.o;omega,eJ.o _ HB.o⟩);obtain⟨A9,c9,h9⟩:=bJ HO.o;have cJ:=η (qu.o A9 c9 h9);subst hv;subst h9;go_wp2_with fail
  go_ret;exact cJ.o
structure Zy(D:Dk)(x:Ac):Prop where
 ok:fZ D
 top:aL (1099511627776-balA (aA D.x.ms) (aA D.x.ss+1) D.l 8 x.m 0)
 due:D.st=1->SI D
 ml:aA D.x.ms<=100000
 sl:aA D.x.ss<=100000
 bd:aL D.x.bY
 sh:D.st=2->nK D.x x.b=0->aL (balA (aA D.x.ms) (aA D.x.ss+1) D.l 1 0 x.b.c)
 set:D.st=2->Tx D
 en:IZ D
 nt:∀L:List Lg,aA L<=120->(∀y∈L,y.ok)->Tu D L
inductive uw(D:Dk)(x:Ac):Dk->Prop
 |pay:x.k=1->uw D x (zZ D (pF D x.m x.a x.n 7 x.m 1 0 5 (ir x.m x.a x.n D.ob) (kR x.m x.a x.n D.ob)))
 |back:x.k=2->uw D x (zZ D (pF D x.m x.a x.n 1 0 7 x.m 6 (l8 x.m x.a x.n D.ob) (ni x.m x.a x.n D.ob)))
 |top:x.k=3->uw D x (AP D x.m x.n)
 |take:x.k=4->uw D x (AO D x.m x.n)
 |due:x.k=5->uw D x (D6 D)
 |Ll:x.k=6->uw D x (pW D x.b)
 |set {D':Dk}:x.k=7->JM D D'->uw D x D'
 |Jb:x.k=8->uw D x (vD D)
 |az {L:List Lg}:(x.k<1\/8<x.k)->aA L<=120->(∀y∈L,y.ok)->uw D x (yV D L)
def Zu(db:Nat)(p:Dp)(D:Dk)(x:Ac)(w:aJ)(e:di)(w':aJ):Prop:=e=aU (bB #[])/\∃D',uw D x D'/\aq db p D' w w'
theorem aJh(db:Nat)(p:Dp)(D:Dk)(x:Ac)(w:aJ)(H:bT w db p D)(hx:x.ok)(ha:x.at w)(hn:aA x.ts<=30)(hl:aA x.ls<=60)(P:Zy D x):
 aQ aM 12 #[π db,x.val] w (Zu db p D x w):=by
 obtain⟨xk,ts,At,ct,ls,Al,cl,xm,xa,xn,⟨bs,bm,bc,bq,bp⟩⟩:=x;obtain⟨im,ia,pD,ib,it,il⟩:=hx;obtain⟨K4,a4P,a4F,iml,isl,ibd,ish,a4N,ien,int⟩:=P;have aY:Hid (β w (w.alloc (aK #[ν xk,aH At (aA ts) ct,aH Al (aA ls) cl,ν xm,ν xa,ν xn,ν bs,ν bm,ν bc,ν bq,ν bp] 43))):=η σ;have dC:Hid ((w.alloc (aK #[ν xk,aH At (aA ts) ct,aH Al (aA ls) cl,ν xm,ν xa,ν xn,ν bs,ν bm,ν bc,ν bq,ν bp] 43)).heap[w.heap.size]? =aC (aK #[ν xk,aH At (aA ts) ct,aH Al (aA ls) cl,ν xm,ν xa,ν xn,ν bs,ν bm,ν bc,ν bq,ν bp] 43 (0,0))):=η (cT w _);have hz0:w.heap.size<(w.alloc (aK #[ν xk,aH At (aA ts) ct,aH Al (aA ls) cl,ν xm,ν xa,ν xn,ν bs,ν bm,ν bc,ν bq,ν bp] 43)).heap.size:=by simp
 have HP:Hid (∀W D',β w W->∀W',aq db p D' W W'->aq db p D' w W'):=η (λW D' hW W' h=>aq.trans (bC.bV _ hW) (λ_ h=> .inl h) ⟨rfl,rfl,rfl,rfl⟩ h);have qu:Hid (∀W D',uw D ⟨xk,ts,At,ct,ls,Al,cl,xm,xa,xn,⟨bs,bm,bc,bq,bp⟩⟩ D'->aq db p D' w W->Zu db p D ⟨xk,ts,At,ct,ls,Al,cl,xm,xa,xn,⟨bs,bm,bc,bq,bp⟩⟩ w (aU (bB #[])) W):=η (λW D' h1 h2=>⟨rfl,D',h1,h2⟩);have C1:=η (λW (hW:β w W)=>a2A db p D xm xa xn W (H.below hW) K4 im ia pD);have C2:=η (λW (hW:β w W)=>aEG db p D xm xa xn W (H.below hW) K4 im ia pD);have C3:=η (λW (hW:β w W)=>aEI db p D xm xn W (H.below hW) K4 im pD a4P);have C4:=η (λW (hW:β w W)=>aEH db p D xm xn W (H.below hW) K4 im pD);have C5:=η (λW (hW:β w W)=>a1x db p D W (H.below hW) a4F);have C6:=η (λW (hW:β w W)=>aED db p D ⟨bs,bm,bc,bq,bp⟩ W (H.below hW) K4 ib iml isl ibd ish);have C7:=η (λW (hW:β w W)=>a2B db p D W (H.below hW) a4N);have C8:=η (λW (hW:β w W)=>a1y db p D W (H.below hW) ien);have C9:=η (λW (hW:β w W) L A c (hs:aW W W.heap.size A (bA L)) (hI:∀y∈L,y.ok) (hl:aA L<=120)=>a1z db p D L A c W (H.below hW) hs hI (by omega) (int L hl hI));have C0:=η (λW (hW:β w W)=>aH9 ⟨xk,ts,At,ct,ls,Al,cl,xm,xa,xn,⟨bs,bm,bc,bq,bp⟩⟩ W ⟨im,ia,pD,ib,it,il⟩ (ha.below hW) hn hl);clear H im ia pD ib it il K4 a4P a4F iml isl ibd ish a4N ien int ha hn hl;unfold Ac.val at C0 ⊢;unfold Bd.val at C6;go_enter func12,ntmps12
 go_upto_region 1 with (fail)
 generalize w.alloc (aK #[ν xk,aH At (aA ts) ct,aH Al (aA ls) cl,ν xm,ν xa,ν xn,ν bs,ν bm,ν bc,ν bq,ν bp] 43)=w0 at*;obtain⟨bx,bQ⟩:∃bx,bx=w.heap.size:=⟨_,rfl⟩;rw [<-bQ] at dC hz0 ⊢;clear bQ;have fL:Hid (w0.cell? ⟨bx,0,aB⟩=aC (ν xk)/\w0.cell? ⟨bx,1,aB⟩=aC (aH At (aA ts) ct)/\w0.cell? ⟨bx,2,aB⟩=aC (aH Al (aA ls) cl)/\w0.cell? ⟨bx,3,aB⟩=aC (ν xm)/\w0.cell? ⟨bx,4,aB⟩=aC (ν xa)/\w0.cell? ⟨bx,5,aB⟩=aC (ν xn)/\w0.cell? ⟨bx,6,aB⟩=aC (ν bs)/\w0.cell? ⟨bx,7,aB⟩=aC (ν bm)/\w0.cell? ⟨bx,8,aB⟩=aC (ν bc)/\w0.cell? ⟨bx,9,aB⟩=aC (ν bq)/\w0.cell? ⟨bx,10,aB⟩=aC (ν bp)):=η (by have hd:=dC.o;exact⟨ρ hd,ρ hd,ρ hd,ρ hd,ρ hd,ρ hd,ρ hd,ρ hd,ρ hd,ρ hd,ρ hd⟩);obtain⟨d0,d1,d2,d3,d4,d5,d6,d7,d8,d9,d10⟩:=fL.o;clear dC fL hz0;go_upto_region 3 with (fail)
 by_cases h1:xk=1
 ·subst h1;clear C0 C9;go_wp2_with fail
  go_at_call 27
  refine(C1.o _ aY.o).mono ?_;rintro e w1 ⟨rfl,hp⟩;have HQ:=η (qu.o w1 _ (.pay rfl) (HP.o _ _ aY.o _ hp));clear hp;go_wp2_with fail
  go_end0
  exact HQ.o
 have b1:(xk==1)=aP:=by simpa using h1
 clear C1;by_cases h2:xk=2
 ·subst h2;clear C0 C9;go_wp2_with fail
  go_at_call 35
  refine(C2.o _ aY.o).mono ?_;rintro e w1 ⟨rfl,hp⟩;have HQ:=η (qu.o w1 _ (.back rfl) (HP.o _ _ aY.o _ hp));clear hp;go_wp2_with fail
  go_end0
  exact HQ.o
 have b2:(xk==2)=aP:=by simpa using h2
 clear C2;by_cases h3:xk=3
 ·subst h3;clear C0 C9;go_wp2_with fail
  go_at_call 36
  refine(C3.o _ aY.o).mono ?_;rintro e w1 ⟨rfl,hp⟩;have HQ:=η (qu.o w1 _ (.top rfl) (HP.o _ _ aY.o _ hp));clear hp;go_wp2_with fail
  go_end0
  exact HQ.o
 have b3:(xk==3)=aP:=by simpa using h3
 clear C3;by_cases h4:xk=4
 ·subst h4;clear C0 C9;go_wp2_with fail
  go_at_call 37
  refine(C4.o _ aY.o).mono ?_;rintro e w1 ⟨rfl,hp⟩;have HQ:=η (qu.o w1 _ (.take rfl) (HP.o _ _ aY.o _ hp));clear hp;go_wp2_with fail
  go_end0
  exact HQ.o
 have b4:(xk==4)=aP:=by simpa using h4
 clear C4;by_cases h5:xk=5
 ·subst h5;clear C0 C9;go_wp2_with fail
  go_at_call 28
  refine(C5.o _ aY.o).mono ?_;rintro e w1 ⟨rfl,hp⟩;have HQ:=η (qu.o w1 _ (.due rfl) (HP.o _ _ aY.o _ hp));clear hp;go_wp2_with fail
  go_end0
  exact HQ.o
 have b5:(xk==5)=aP:=by simpa using h5
 clear C5;by_cases h6:xk=6
 ·subst h6;clear C0 C9;go_wp2_with fail
  go_at_call 38
  refine(C6.o _ aY.o).mono ?_;rintro e w1 ⟨rfl,hp⟩;have HQ:=η (qu.o w1 _ (.Ll rfl) (HP.o _ _ aY.o _ hp));clear hp;go_wp2_with fail
  go_end0
  exact HQ.o
 have b6:(xk==6)=aP:=by simpa using h6
 clear C6;by_cases h7:xk=7
 ·subst h7;clear C0 C9;go_wp2_with fail
  go_at_call 29
  refine(C7.o _ aY.o).mono ?_;rintro e w1 ⟨rfl,D2,hr,hp⟩;have HQ:=η (qu.o w1 _ (.set rfl hr) (HP.o _ _ aY.o _ hp));clear hp;go_wp2_with fail
  go_end0
  exact HQ.o
 have b7:(xk==7)=aP:=by simpa using h7
 clear C7;by_cases h8:xk=8
 ·subst h8;clear C0 C9;go_wp2_with fail
  go_at_call 25
  refine(C8.o _ aY.o).mono ?_;rintro e w1 ⟨rfl,hp⟩;have HQ:=η (qu.o w1 _ (.Jb rfl) (HP.o _ _ aY.o _ hp));clear hp;go_wp2_with fail
  go_end0
  exact HQ.o
 have b8:(xk==8)=aP:=by simpa using h8
 clear C8;go_wp2_with fail
 go_at_call 39
 refine(C0.o _ aY.o).mono ?_;rintro e w1 ⟨A1,c1,L1,rfl,hs1,zl,oD,hb1⟩;have sH:=η (C9.o w1 (aY.o.trans (hb1.mono aY.o.size)) L1 A1 c1 hs1 zl oD);have Ku:=η zl;have ug:=η oD;have aR:=τ aY hb1;clear hs1 zl oD hb1;go_wp2_with fail
 go_at_call 26
 refine sH.o.mono ?_;rintro e w2 ⟨rfl,nV⟩;have HQ:=η (qu.o w2 _ (.az (by simp only;omega) ug.o Ku.o) (HP.o _ _ aR.o _ nV));clear nV;go_wp2_with fail
 go_end0
 exact HQ.o
def kC(n:Int)(e:Bool):Int:=n*580000000000000000+(if e=aO then 1099511627776 else 0)
theorem zw {n:Int}(e:Bool)(h0:0<=n)(h1:n<=4):0<=kC n e/\kC n e<=2320001099511627776:=by grind [kC]
theorem aGr(n:Int)(e:Bool):kC n e=kC (n-1) e+580000000000000000:=by unfold kC;omega
structure Inv(g:Nat)(D:Dk):Prop where
 st:D.st=0\/D.st=1\/D.st=2
 IG:D.st=0->aw (kC D.aj D.en+576460752303423488) g D/\nk (kC D.aj D.en) D/\D.h= []/\∀x∈D.ob,eW x=aO->False
 yb:D.st=1->aw (kC (D.aj-1) D.en+576460752303423488) g D/\nk (kC (D.aj-1) D.en) D/\pU D.h/\1<=D.aj
 II:D.st=2->aw (kC (D.aj-1) D.en+576460752303423488+140737488355328) g D/\D.h= []/\(∀x∈D.ob,eW x=aO->x.az<0)/\1<=D.aj
theorem Inv.ie {g:Nat} {D:Dk}(H:Inv g D):∃C,aw C g D/\C<=2896602589303406592:=by
 rcases H.st with h|h|h
 ·have K:=H.IG h;have:=zw D.en K.1.aj.1 K.1.aj.2;grind
 ·have K:=H.yb h;have:=zw (n:=D.aj-1) D.en (by omega) (by have:=K.1.aj;omega);grind
 have K:=H.II h;have:=zw (n:=D.aj-1) D.en (by omega) (by have:=K.1.aj;omega);grind
theorem Inv.wide {g g':Nat} {D:Dk}(H:Inv g D)(hg:g<=g'):Inv g' D:=
 ⟨H.st,λh=>by have K:=H.IG h;exact⟨K.1.wide (dH _) K.1.bE.big hg,K.2⟩,λh=>by have K:=H.yb h;exact⟨K.1.wide (dH _) K.1.bE.big hg,K.2⟩,λh=>by have K:=H.II h;exact⟨K.1.wide (dH _) K.1.bE.big hg,K.2⟩⟩
theorem Inv.KO {g:Nat} {D:Dk}(H:Inv g D)(hg:g+1700<=90000)(x:Ac):Zy D x:=by
 obtain⟨C,K,hC⟩:=H.ie;have iW:=K.hs.ml;have jf:=K.hs.sl;have a3f:=K.aj;refine⟨K.ok (by omega), ?_,λh=> ?_,by omega,by omega, ?_,λ_ _=> ?_,λh=> ?_, ?_,λL hl hI=> ?_⟩
 ·have h8:=K.bE.sr x.m 0;have h8n:=K.bE.ok.nn (k:=8) rfl x.m 0;unfold aL;omega
 ·obtain⟨G,_,hu,h1⟩:=H.yb h;have:=zw (n:=D.aj-1) D.en (by omega) (by omega);exact(G.due hu (by omega) (by omega)).1
 ·have:=K.hs.bd;unfold aL;omega
 ·have:=K.house x.b.c;unfold aL;omega
 ·obtain⟨G,hh,ho,h1⟩:=H.II h;have:=zw (n:=D.aj-1) D.en (by omega) (by omega);exact(G.settled hh ho (by unfold jV;omega) (by omega)).1
 ·exact(K.Jb (by omega) (by omega)).1
 by_cases h:D.st=0
 ·obtain⟨G,F,hh,_⟩:=H.IG h;exact(G.az F (λ_=>hh) hl hI (by omega)).1
 have pA:=a5L L;refine⟨K.ok (by omega),by omega,by omega,⟨by unfold aL;omega,by omega⟩,by omega,λh0=> ?_⟩;grind [qZ]
theorem aCS {M A:Nat} {l:List Int} {k m a:Int}(h:(A:Int)<=a):balA M A l k m a=0:=by grind [JR,plcA]
structure Ck(D:Dk)(y:Ac)(D':Dk):Prop where
 cf:D'.x=D.x
 lg:∃t,D'.log=D.log++t/\((∃e∈t,e.k=15)->y.k=7/\kA D'=0)
theorem Ck.same(D:Dk)(x:Ac):Ck D x D:=⟨rfl,[],by simp,by simp⟩
theorem IK {D D':Dk} {x:Ac}(hx:D'.x=D.x)(h:∃t,D'.log=D.log++t/\∀e∈t,e.k≠15):Ck D x D':=by obtain⟨t,e,h⟩:=h;exact⟨hx,t,e,λ⟨y,hy,hk⟩=>absurd hk (h y hy)⟩
theorem Inv.swp {g:Nat} {D D':Dk}(H:Inv g D)(hc:∀C,aw C g D->aw C (g+1) D')(S:Cj D D'):Inv (g+1) D':=by
 refine⟨by rw [S.st];exact H.st,λh=> ?_,λh=> ?_,λh=> ?_⟩
 ·rw [S.st] at h;have K:=H.IG h;rw [S.aj,S.en,S.h,S.ob];exact⟨hc _ K.1,K.2.1.swp S,K.2.2⟩
 ·rw [S.st] at h;have K:=H.yb h;rw [S.aj,S.en,S.h];exact⟨hc _ K.1,K.2.1.swp S,K.2.2⟩
 rw [S.st] at h;have K:=H.II h;rw [S.aj,S.en,S.h,S.ob];grind
theorem nk.a2e {K C:Int} {g:Nat} {D D':Dk}(F:nk K D)(E:Ni C g D D'):nk (K+1099511627776) D':=
 ⟨λa=>by rw [E.k1,E.ob];exact F.hd a,λm a=>by have:=E.lo m a;have:=F.lo m a;rw [E.ob];omega,λm a=>by have:=E.hi m a;have:=F.hi m a;rw [E.ob];omega,λa=>by have:=F.es a;rw [E.k2];omega⟩
theorem Wq(n:Int):kC n aO=kC n aP+1099511627776:=by unfold kC;simp
theorem Inv.step {g:Nat} {D D':Dk} {x:Ac}(H:Inv g D)(hg:g+1700<=90000)(h:uw D x D'):Inv (g+1700) D'/\Ck D x D':=by
 have same:∀E,E=D->Inv (g+1700) E/\Ck D x E:=λE e=>by subst e;exact⟨H.wide (by omega),Ck.same _ _⟩
 have Pj:∀E,(D.st=1->aw (kC (D.aj-1) D.en+576460752303423488) (g+1) E/\nk (kC (D.aj-1) D.en) E/\Cg D E)->Inv (g+1700) (zZ D E)/\Ck D x (zZ D E):=λE hE=>by
  unfold zZ;by_cases hs:D.st=1
  ·rw [ifP hs];obtain⟨G,F,P⟩:=hE hs;have K:=H.yb hs;have est:=P.st.trans hs;refine⟨⟨.inr (.inl est),λh=>by omega,λ_=> ?_,λh=>by omega⟩,IK P.x P.lg⟩;rw [P.aj,P.en,P.h];exact⟨G.wide (dH _) G.bE.big (by omega),F,K.2.2⟩
  grind
 cases h with
 |pay hk=>exact Pj _ (λhs=>(H.yb hs).1.pay (H.yb hs).2.1 _ _ _)
 |back hk=>exact Pj _ (λhs=>(H.yb hs).1.aJL (H.yb hs).2.1 _ _ _)
 |top hk=>
  obtain⟨C,K,_⟩:=H.ie;have S:=(K.top x.m x.n).2;exact⟨(H.swp (λC K=>(K.top x.m x.n).1) S).wide (by omega),IK S.x S.lg⟩
 |take hk=>
  obtain⟨C,K,_⟩:=H.ie;have S:=(K.take x.m x.n).2;exact⟨(H.swp (λC K=>(K.take x.m x.n).1) S).wide (by omega),IK S.x S.lg⟩
 |due hk=>
  unfold D6;by_cases hs:D.st=1
  ·rw [ifP hs];obtain⟨G,_,hu,h1⟩:=H.yb hs;have a3f:=G.aj;have:=zw (n:=D.aj-1) D.en (by omega) (by omega);have W:=(G.due hu (by omega) (by omega)).2;refine⟨⟨.inr (.inr W.st),λh=>by have:=W.st;omega,λh=>by have:=W.st;omega,λ_=> ?_⟩,IK W.x W.lg⟩;rw [W.aj,W.en];exact⟨W.ie.wide (dH _) W.ie.bE.big (by omega),W.h,W.op,h1⟩
  grind
 |Ll hk=>
  obtain⟨C,K,_⟩:=H.ie;have S:=(K.Ll x.b).2;refine⟨⟨by rw [S.st];exact H.st,λh=> ?_,λh=> ?_,λh=> ?_⟩,IK S.x S.lg⟩
  ·rw [S.st] at h;have K:=H.IG h;have e:pW D x.b=D:=by
    grind [pW,wV]
   rw [e];exact⟨K.1.wide (dH _) K.1.bE.big (by omega),K.2⟩
  ·rw [S.st] at h;have K:=H.yb h;have e:pW D x.b=D:=by
    grind [pW,wV]
   rw [e];exact⟨K.1.wide (dH _) K.1.bE.big (by omega),K.2⟩
  rw [S.st] at h;have K:=H.II h;rw [S.aj,S.en,S.h,S.ob];exact⟨(K.1.Ll x.b).1.wide (dH _) K.1.bE.big (by omega),K.2⟩
 |set hk hR=>
  rcases hR with⟨_,rfl⟩|⟨hs,E,hB,rfl⟩
  ·exact same _ rfl
  obtain⟨G,hh,ho,h1⟩:=H.II hs;have a3f:=G.aj;have hkb:=zw (n:=D.aj-1) D.en (by omega) (by omega);have W:=(G.settled hh ho (by unfold jV;omega) (by omega)).2 E hB;have hz:∀a,B (pI E) 1 0 a=0:=λa=>by
   by_cases ha:a<=(aA D.x.ss:Int)
   ·exact W.hz a ha
   exact aCS (by rw [W.x];push_cast;omega)
  have vT:=aGr D.aj D.en;have hw:kC (D.aj-1) D.en+576460752303423488+140737488355328+8*jV+140737488355328<=kC D.aj D.en:=by unfold jV;omega
  have hk4:=zw (n:=D.aj) D.en (by omega) (by omega);have hd0:∀m a,dT (o7 m a) (pI E).ob=0:=λm a=>F9 λy hy=>by unfold o7;rw [ifN (λe=>W.op y hy (xR.2 e.1))]
  have DF:∀a,dT (ou a) (pI E).ob=0:=λa=>F9 λy hy=>by unfold ou;rw [ifN (λe=>W.op y hy (xR.2 e.1))]
  refine⟨⟨.inl W.st,λ_=> ?_,λh=>by have:=W.st;omega,λh=>by have:=W.st;omega⟩,W.x, ?_⟩
  ·rw [W.aj,W.en];refine⟨W.ie.wide (by omega) (by omega) (aZ _),⟨λa=> ?_,λm a=> ?_,λm a=> ?_,λa=> ?_⟩,W.h,W.op⟩
   ·rw [hz,DF]
   ·have h2:=W.ie.bE.lo m a;grind
   ·have h2:=W.ie.bE.hi m a;grind
   have h2:=W.ie.bE.es a;grind
  obtain⟨t,e,ht⟩:=W.lg;grind
 |Jb hk=>
  obtain⟨C,K,hC⟩:=H.ie;have key:∀C,aw C g D->C<=2896602589303406592->vD D=D\/Ni C g D (vD D):=λC K hC=>(K.Jb (by omega) (by omega)).2
  rcases key C K hC with e|W
  ·exact same _ e
  have lg:∃t,(vD D).log=D.log++t/\∀e∈t,e.k≠15:=⟨[],by rw [W.log];simp,by simp⟩;have ne:vD D≠D:=λe=>by have h1:=W.en;rw [e] at h1;rw [h1.1] at h1;exact absurd h1.2 (by simp)
  have Ws:∀C,aw C g D->C<=2896602589303406592->Ni C g D (vD D):=λC K hC=>(key C K hC).resolve_left ne
  refine⟨⟨by rw [W.st];exact H.st,λh=> ?_,λh=> ?_,λh=> ?_⟩,IK W.x lg⟩
  ·rw [W.st] at h;obtain⟨G,F,hh,ho⟩:=H.IG h;rw [W.en.1] at G F;have hk:=zw (n:=D.aj) aP G.aj.1 G.aj.2;have V:=Ws _ G (by omega);rw [W.aj,W.en.2,Wq,W.h,W.ob];exact⟨V.ie.wide (by omega) (by omega) (by omega),F.a2e V,hh,ho⟩
  ·rw [W.st] at h;obtain⟨G,F,hh,ho⟩:=H.yb h;rw [W.en.1] at G F;have hk:=zw (n:=D.aj-1) aP (by omega) (by have:=G.aj;omega);have V:=Ws _ G (by omega);rw [W.aj,W.en.2,Wq,W.h];exact⟨V.ie.wide (by omega) (by omega) (by omega),F.a2e V,hh,ho⟩
  rw [W.st] at h;obtain⟨G,hh,ho,h1⟩:=H.II h;rw [W.en.1] at G;have hk:=zw (n:=D.aj-1) aP (by omega) (by have:=G.aj;omega);have V:=Ws _ G (by omega);rw [W.aj,W.en.2,Wq,W.h,W.ob];exact⟨V.ie.wide (by omega) (by omega) (by omega),hh,ho,h1⟩
 |az hk hl hI=>
  rename_i L;unfold yV;by_cases h0:qZ D L=0
  ·rw [ifP h0];have hs:D.st=0:=by
    grind [qZ]
   obtain⟨G,F,hh,_⟩:=H.IG hs;have W:=(G.az F (λ_=>hh) hl hI (by omega)).2 h0;refine⟨⟨.inr (.inl W.st),λh=>by have:=W.st;omega,λ_=> ?_,λh=>by have:=W.st;omega⟩,IK W.x W.lg⟩;rw [W.aj,W.en,show D.aj+1-1=D.aj by omega];exact⟨W.ie.wide (dH _) W.ie.bE.big (by omega),W.Pj,W.up,by have:=G.aj;omega⟩
  grind
theorem Bc {n a b:Int}(h:bZ n a b=aO):a<=n/\n<=b:=by grind [bZ]
theorem QV {x:ak}(h:okB x=aO):Fo x:=by
 unfold okB at h;simp only [jX] at h;obtain⟨⟨⟨⟨⟨⟨⟨h1,h2⟩,h3⟩,h4⟩,h5⟩,h6⟩,h7⟩,h8⟩:=h;unfold kP at h1;unfold l7 at h2;unfold lN at h3;simp only [jX] at h1 h2 h3;have a1:=Bc h1.2;have a2:=Bc h2.2;have a3:=Bc h3.2.1;refine⟨by omega,by omega,by omega,λy hy=> ?_,λy hy=> ?_,Bc h4,Bc h5,Bc h8⟩
 ·have:=List.all_eq_true.1 h1.1 y hy;unfold uT at this;simp only [jX] at this;exact⟨Bc this.1,Bc this.2⟩
 have:=List.all_eq_true.1 h2.1 y hy;unfold uW at this;simp only [jX] at this;exact⟨Bc this.1,Bc this.2⟩
theorem a7J:∀ {l:List Int},(∀y∈l,y=0)->sumI l=0
 | [],_=>rfl
 |x::l,h=>by rw [a7F,h x (by simp),a7J (λy hy=>h y (df _ hy))];rfl
theorem aCU(M A n:Nat)(k m a:Int):balA M A (gN n 0) k m a=0:=by grind [balA]
theorem a4L {x:ak}(hx:Fo x):Inv 0 (Bk x):=by
 have hz:∀k m a,balA (aA x.ms) (aA x.ss+1) (Bk x).l k m a=0:=λk m a=>aCU _ _ _ k m a
 have hL:nE (aA x.ms) (aA x.ss+1) (Bk x).l:=by
  refine⟨Cb,λa _=>a7J λy hy=> ?_,λk m a n _ _=>by rw [hz];omega,λy hy=> ?_⟩
  ·unfold Dc at hy;exact(a9W.1 (List.mem_of_mem_drop (List.mem_of_mem_take hy))).2
  obtain⟨_,rfl⟩:=a9W.1 hy;decide
 have hk:kC 0 aP=0:=rfl;have hB:∀k m a,B (Bk x) k m a=0:=hz;refine⟨.inl rfl,λ_=>⟨?_,⟨λa=> ?_,λm a=> ?_,λm a=> ?_,λa=> ?_⟩,rfl,λy hy=>(by cases hy)⟩,λh=>(by cases h),λh=>(by cases h)⟩
 ·show aw (kC 0 aP+576460752303423488) 0 (Bk x);rw [hk];refine⟨hx,⟨hL,λm a=> ?_,λm a=> ?_,λa=> ?_,λa=> ?_,λm a=> ?_,λm a=> ?_,λa=> ?_,by omega,by omega⟩,λr hr=>(by cases hr),by show (0:Nat)<=16;omega,λa=>(hz 1 0 a).symm,⟨λe he=>(by cases he),λk a=> ?_⟩,aZ 0,⟨Ti,λm hm=>(by cases hm)⟩,⟨λy hy=>(by cases hy),λy hy=>(by cases hy),Ti,λa=> ?_,λa=> ?_,by show ((0:Nat):Int)<=120*0;omega⟩,λd hd=>(by cases hd),by show (0:Nat)<=32;omega,by omega,by show (0:Int)<=0/\(0:Int)<=4;omega⟩
  ·grind
  ·grind
  ·grind
  ·grind
  ·grind
  ·grind
  ·grind
  ·have e:((Bk x).log.take k)= []:=List.take_nil;rw [e];show (0:Int)<=0/\(0:Int)<=_;omega
  ·have:=yU a;show (0:Int)<=_;omega
  have:=yU a;show (0:Int)<=_;omega
 ·rw [hB];rfl
 ·grind [dT,Bk]
 ·grind [dT,Bk]
 show _<=kC 0 aP;rw [hB,hk];omega
def JO(l:List Ac):List aN:=l.flatMap Ac.cells
theorem UI {w:aJ} {B:Nat} {A:Option ai} {l:List Ac}(h:aW w B A (JO l)) {k:Nat}(hk:k<aA l):
 ∃b o,A=aC ⟨b,o,aB⟩/\b<B/\w.cell? ⟨b,o+k*11,aB⟩=aC (ν l[k].k)/\w.cell? ⟨b,o+k*11+1,aB⟩=aC (aH l[k].At l[k].ts.length l[k].ct)/\w.cell? ⟨b,o+k*11+2,aB⟩=aC (aH l[k].Al l[k].ls.length l[k].cl)/\w.cell? ⟨b,o+k*11+3,aB⟩=aC (ν l[k].m)/\w.cell? ⟨b,o+k*11+4,aB⟩=aC (ν l[k].a)/\w.cell? ⟨b,o+k*11+5,aB⟩=aC (ν l[k].n)/\w.cell? ⟨b,o+k*11+6,aB⟩=aC (ν l[k].b.s)/\w.cell? ⟨b,o+k*11+7,aB⟩=aC (ν l[k].b.m)/\w.cell? ⟨b,o+k*11+8,aB⟩=aC (ν l[k].b.c)/\w.cell? ⟨b,o+k*11+9,aB⟩=aC (ν l[k].b.q)/\w.cell? ⟨b,o+k*11+10,aB⟩=aC (ν l[k].b.p):=by
 obtain⟨b,o,e,hb,hc⟩:=h.run (i:=k*11) (y:=ν l[k].k) (t:= [aH l[k].At l[k].ts.length l[k].ct,aH l[k].Al l[k].ls.length l[k].cl,ν l[k].m,ν l[k].a,ν l[k].n,ν l[k].b.s,ν l[k].b.m,ν l[k].b.c,ν l[k].b.q,ν l[k].b.p]) (λj u hu=>tC Ac.cells 11 (λ_=>rfl) l k hk j u hu);exact⟨b,o,e,hb,hc 0 _ rfl,hc 1 _ rfl,hc 2 _ rfl,hc 3 _ rfl,hc 4 _ rfl,hc 5 _ rfl,hc 6 _ rfl,hc 7 _ rfl,hc 8 _ rfl,hc 9 _ rfl,hc 10 _ rfl⟩
def zK(x:Ac):Bool:=decide (aA x.ts<=30)&&decide (aA x.ls<=60)
def Gj(x:ak)(l:List Ac):Bool:=EP x&&(decide (aA l<=40)&&l.all zK)
theorem aEy(x:ak)(l:List Ac)(A:Option ai)(c:Nat)(w:aJ)(hm:aA x.ms<=bK)(hs:aA x.ss<=bK)(hc:aA x.cy<=bK)(hl:aA l<=bK)(hL:∀y∈l,aA y.ts<=bK/\aA y.ls<=bK)(mn:aW w w.heap.size A (JO l)):
 aQ aM 7 #[x.val,aH A (aA l) c] w λe w'=>e=aU (bM (Gj x l))/\β w w':=by
 have aY:=η (mE w x);have jG:=η (zS w x);have yq:Hid (∀W,aQ aM 22 #[x.val] W λe w'=>e=aU (bM (EP x))/\β W w'):=η λW=>aF0 x W hm hs hc
 have HL:=η hL;have HS:=η ((mn.below aY.o).mono aY.o.size);have HF:=η (show Gj x l=(EP x&&(decide (aA l<=40)&&l.all zK)) from rfl);unfold bK at hl;clear hm hs hc hL mn;generalize Gj x l=fb at*;generalize EP x=fx at*;have c0:=jG.o.c0;have c1:=jG.o.c1;have c2:=jG.o.c2;have c3:=jG.o.c3;have c4:=jG.o.c4;have c5:=jG.o.c5;have c6:=jG.o.c6;have c7:=jG.o.c7;unfold ak.val at*;have cE:Hid (∀W,aa (w.alloc (aK #[aH x.Am (aA x.ms) x.cm,aH x.As (aA x.ss) x.cs,aH x.Ac (aA x.cy) x.cc,ν x.line,ν x.bu,ν x.lead,ν x.tr,ν x.bY] 26)).heap.size (w.alloc (aK #[aH x.Am (aA x.ms) x.cm,aH x.As (aA x.ss) x.cs,aH x.Ac (aA x.cy) x.cc,ν x.line,ν x.bu,ν x.lead,ν x.tr,ν x.bY] 26)) W->β w W/\aW W W.heap.size A (JO l)):=η λW hW=>⟨aY.o.trans (hW.mono aY.o.size),(HS.o.below hW).mono hW.size⟩
 have Ii:=η (yq.o (w.alloc (aK #[aH x.Am (aA x.ms) x.cm,aH x.As (aA x.ss) x.cs,aH x.Ac (aA x.cy) x.cc,ν x.line,ν x.bu,ν x.lead,ν x.tr,ν x.bY] 26)));clear yq aY HS jG;go_enter func7,ntmps7
 cases fx
 ·have HG:Hid (aP=fb):=by grind
  clear HF;go_wp2_with (go_at_call 22;refine Ii.o.mono ?_;rintro e w1 ⟨rfl,hb1⟩;have aR:=η (cE.o _ hb1).1;clear hb1)
  go_ret;exact⟨fP HG.o,aR.o⟩
 by_cases h40:aA l<=40
 ·have aFh:¬(40:Int)<(aA l:Int):=by omega
  have cJ:Hid (fb=l.all zK):=by grind
  clear HF;go_wp2_with (go_at_call 22;refine Ii.o.mono ?_;rintro e w1 ⟨rfl,hb1⟩;have aR:=η (cE.o _ hb1).1;have cW:=η (cE.o _ hb1).2;clear hb1 c0 c1 c2 c3 c4 c5 c6 c7)
  go_loop [5] (λi=>∃k:Nat,k<=aA l/\i=ν k/\Hid ((l.take k).all zK=aO)) (λi=>aA l-(ag i).toNat)
  case atStart=>exact⟨0,bL _,rfl,rfl⟩
  case round=>
   obtain⟨k,hk,rfl,HK⟩:=hrel;by_cases hlt:k<aA l
   ·obtain⟨b,o,rfl,hb,d0,d1,d2,d3,d4,d5,d6,d7,d8,d9,d10⟩:=UI cW.o hlt;have pA:=HL.o l[k] (cK hlt);unfold bK at pA;clear d0 d3 d4 d5 d6 d7 d8 d9 d10;by_cases h30:l[k].ts.length<=30
    ·by_cases h60:l[k].ls.length<=60
     ·have HA:Hid ((l.take (k+1)).all zK=aO):=by
       grind [fF,zK]
      go_wp2_with fail
      go_round
      case rel=>grind
      case measure=>simp [ag];omega
     have hA:aP=l.all zK:=by symm;grind [cK,zK]
     have HA:=η hA;clear hA;go_wp2_with fail
     go_ret;exact⟨fP (HA.o.trans cJ.o.symm),aR.o⟩
    have hA:aP=l.all zK:=by symm;grind [cK,zK]
    have HA:=η hA;clear hA;go_wp2_with fail
    go_ret;exact⟨fP (HA.o.trans cJ.o.symm),aR.o⟩
   obtain rfl:k=aA l:=by omega
   have hA:=HK.o;rw [cU] at hA;have HA:=η hA;clear hA;go_wp2_with fail
   go_ret;exact⟨fP (HA.o.symm.trans cJ.o.symm),aR.o⟩
 have aFh:(40:Int)<(aA l:Int):=by omega
 have HG:Hid (aP=fb):=by grind
 clear HF;go_wp2_with (go_at_call 22;refine Ii.o.mono ?_;rintro e w1 ⟨rfl,hb1⟩;have aR:=η (cE.o _ hb1).1;clear hb1)
 go_ret;exact⟨fP HG.o,aR.o⟩
structure uq(w:aJ)(db hb:Nat)(x:ak)(g:Nat)(D:Dk)(W:aJ):Prop where
 pl:∃p,bT W db p D/\∀k,eY db p k->w.heap.size<=k/\k≠hb
 bl:β w W
 inv:Inv g D
 ms:D.x.ms=x.ms
 ss:D.x.ss=x.ss
 hb:hb<W.heap.size
theorem uq.below {w W W':aJ} {db hb g:Nat} {x:ak} {D:Dk}(h:uq w db hb x g D W)(hW:aa W.heap.size W W'):uq w db hb x g D W':=by obtain⟨p,H,hs⟩:=h.pl;exact⟨⟨p,H.below hW,hs⟩,h.bl.trans (hW.mono h.bl.size),h.inv,h.ms,h.ss,cR h.hb hW.size⟩
theorem uq.step {w W W':aJ} {db hb g:Nat} {x:ak} {D D':Dk} {y:Ac} {p:Dp}(h:uq w db hb x g D W)(hs:∀k,eY db p k->w.heap.size<=k/\k≠hb)(hg:g+1700<=90000)(hR:uw D y D')(hP:aq db p D' W W'):uq w db hb x (g+1700) D' W'/\Ck D y D'/\W'.heap[hb]? =W.heap[hb]? :=by obtain⟨I,T⟩:=h.inv.step hg hR;obtain⟨p',H',_,_,_,_,hu,hs'⟩:=hP;have hz:=h.bl.size;have hh:=h.hb;refine⟨⟨⟨p',H',λk hk=> ?_⟩,h.bl.trans (hu.toBelow hz (λk hk=>(hs k hk).1)),I,by rw [T.cf];exact h.ms,by rw [T.cf];exact h.ss,cR hh hu.size⟩,T,hu.keep hb hh (λe=>(hs hb e).2 rfl)⟩;grind
def a9v(w:aJ)(db hb:Nat)(x:ak)(g:Nat)(D:Dk)(y:Ac)(W:aJ)(e:di)(W':aJ):Prop:=e=aU (bB #[])/\∃D',uq w db hb x (g+1700) D' W'/\Ck D y D'/\W'.heap[hb]? =W.heap[hb]?
theorem aH2 {w W:aJ} {db hb g:Nat} {x:ak} {D:Dk} {y:Ac}(h:uq w db hb x g D W)(hg:g+1700<=90000)(hy:y.ok)(ha:y.at w)(hn:aA y.ts<=30)(hl:aA y.ls<=60):
 aQ aM 12 #[π db,y.val] W (a9v w db hb x g D y W):=by
 obtain⟨p,H,hs⟩:=h.pl;refine(aJh db p D y W H hy (ha.below h.bl) hn hl (h.inv.KO hg y)).mono ?_;rintro e W' ⟨rfl,D',hR,hP⟩;exact⟨rfl,D',h.step hs hg hR hP⟩
theorem a4f {w W:aJ} {db hb g:Nat} {x:ak} {D:Dk}(h:uq w db hb x g D W)(hg:g<=90000):
 aQ aM 11 #[π db] W (nC 45 5 (aA D.log) (rK D.log) W):=by
 obtain⟨p,H,_⟩:=h.pl;obtain⟨C,K,_⟩:=h.inv.ie;exact aEE db p D W H (by have:=K.gl;omega)
theorem aH0 {w W:aJ} {db hb g:Nat} {x:ak} {D:Dk}(h:uq w db hb x g D W):
 aQ aM 13 #[π db] W (nC 3 1 (aA D.who) (D.who.map (aG aF)) W):=by
 obtain⟨p,H,_⟩:=h.pl;obtain⟨C,K,_⟩:=h.inv.ie;exact aEF db p D W H (by have:=K.who.len;have:=K.hs.ml;omega)
theorem Qr {w W:aJ} {db hb g:Nat} {x:ak} {D:Dk}(h:uq w db hb x g D W)(k m a:Int)(hk:aL k)(hm:aL m):
 aQ aM 14 #[π db,bO #[ν k,ν m],ν a] W λe W'=>e=aU (bB #[ν (B D k m a),ν (nZ (plcA (aA D.x.ms) (aA D.x.ss+1) k m a))])/\β W W':=by
 obtain⟨p,H,_⟩:=h.pl;grind [a1w]
def a8S(w:aJ)(hb:Nat)(x:ak)(W:aJ)(e:di)(W':aJ):Prop:=∃db D,e=aU (bB #[bH (aC ⟨db,0,aB⟩),aG aF 0])/\uq w db hb x 0 D W'/\aa W.heap.size W W'/\D.log= []/\W.heap.size<=db
theorem aGz {w W:aJ} {hb:Nat} {x:ak}(hB:aa w.heap.size w W)(hh:hb<W.heap.size)(h:uZ W x)(dR:okB x=aO):
 aQ aM 10 #[x.val] W (a8S w hb x W):=by
 have hx:=QV dR;have hm:=hx.ml;have hs:=hx.sl;have hc:=hx.cl;refine(a1o x W h (by grind [zT]) (by omega) (by omega) (by omega)).mono ?_;rintro e W' ⟨db,p,Am,cm,As,cs,Ac,cc,rfl,H,hS,hb'⟩;have hx2:Fo {x with Am:=Am,cm:=cm,As:=As,cs:=cs,Ac:=Ac,cc:=cc}:=⟨hx.ml,hx.sl,hx.cl,hx.mI,hx.sI,hx.li,hx.ca,hx.bd⟩;have hz:=hB.size;exact⟨db,_,rfl,⟨⟨p,H,λk hk=>by grind⟩,hB.trans (hb'.mono hz),a4L hx2,rfl,rfl,cR hh hb'.size⟩,hb',rfl,hS db (.inl rfl)⟩
section
theorem aEt {w:aJ} {B:Nat} {A:Option ai} {l:List Ev}(h:aW w B A (rK l)) {k:Nat}(hk:k<aA l):
 ∃b o,A=aC ⟨b,o,aB⟩/\b<B/\w.cell? ⟨b,o+k*5,aB⟩=aC (ν l[k].k)/\w.cell? ⟨b,o+k*5+1,aB⟩=aC (ν l[k].m)/\w.cell? ⟨b,o+k*5+2,aB⟩=aC (ν l[k].a)/\w.cell? ⟨b,o+k*5+3,aB⟩=aC (ν l[k].n)/\w.cell? ⟨b,o+k*5+4,aB⟩=aC (ν l[k].o):=by
 obtain⟨b,o,e,hb,hc⟩:=h.run (i:=k*5) (y:=ν l[k].k) (t:= [ν l[k].m,ν l[k].a,ν l[k].n,ν l[k].o]) (λj u hu=>tC Ev.cells 5 (λ_=>rfl) l k hk j u hu);exact⟨b,o,e,hb,hc 0 _ rfl,hc 1 _ rfl,hc 2 _ rfl,hc 3 _ rfl,hc 4 _ rfl⟩
theorem aEz {x:ak} {l:List Ac}(h:Gj x l=aO):(aA x.ms<=20/\aA x.ss<=20/\aA x.cy<=20)/\aA l<=40/\∀y∈l,aA y.ts<=30/\aA y.ls<=60:=by grind [Gj,EP,zK]
def Cu(Am:Option ai)(cm:Nat)(As:Option ai)(cs:Nat)(Ac:Option ai)(cc:Nat):ak:=⟨[⟨1000,100⟩,⟨1000,100⟩,⟨1000,100⟩],Am,cm,[⟨10,12⟩],As,cs,[⟨4,7,9,10⟩],Ac,cc,500,200,1,64,32⟩
def JQ:List Lg:= [⟨1,0,30⟩,⟨1,1,-10⟩,⟨3,0,-30⟩,⟨3,1,10⟩]
section
variable (x:ak)
def UX:Dk:=Bk x
def Li:Dk:=vD (UX x)
def vA:Dk:=yV (Li x) JQ
def Lj:Dk:=zZ (vA x) (pF (vA x) 3 1 10 7 3 1 0 5 (ir 3 1 10 (vA x).ob) (kR 3 1 10 (vA x).ob))
def zN:Dk:=D6 (Lj x)
def yE:Dk:=pI (zN x)
end
def awB(x:ak):Bool:=decide (Lx (UX x)=0)&&decide (qZ (Li x) JQ=0)&&decide (Je (vA x) (Bj (vA x) 3 1 (ir 3 1 10 (vA x).ob) (kR 3 1 10 (vA x).ob))=0)&&decide (Jd (vA x) (Bi (vA x) 3 1 (ir 3 1 10 (vA x).ob) (kR 3 1 10 (vA x).ob))=0)&&(Gg (Lj x)==aP)&&decide (Gf (Lj x)=0)&&decide (IC (zN x)=0)&&decide ((zN x).st=2)&&decide (jE (zN x) 1=0)&&decide (B (yE x) 2 0 1=10)&&decide (B (yE x) 8 1 0=970)
theorem aCI(Am:Option ai)(cm:Nat)(As:Option ai)(cs:Nat)(Ac:Option ai)(cc:Nat):awB (Cu Am cm As cs Ac cc)=aO:=by kernel_rfl
end
section
structure kD(w:aJ)(db:Nat)(g:Nat)(D:Dk)(W:aJ):Prop where
 pl:∃p,bT W db p D/\∀k,eY db p k->w.heap.size<=k
 bl:β w W
 inv:Inv g D
theorem kD.below {w W W':aJ} {db g:Nat} {D:Dk}(h:kD w db g D W)(hW:aa W.heap.size W W'):kD w db g D W':=by obtain⟨p,H,hs⟩:=h.pl;exact⟨⟨p,H.below hW,hs⟩,h.bl.trans (hW.mono h.bl.size),h.inv⟩
theorem kD.step {w W W':aJ} {db g:Nat} {D D':Dk} {p:Dp}(y:Ac)(h:kD w db g D W)(hs:∀k,eY db p k->w.heap.size<=k)(hg:g+1700<=90000)(hR:uw D y D')(hP:aq db p D' W W'):kD w db (g+1700) D' W':=by obtain⟨I,_⟩:=h.inv.step hg hR;obtain⟨p',H',_,_,_,_,hu,hs'⟩:=hP;have hz:=h.bl.size;refine⟨⟨p',H',λk hk=> ?_⟩,h.bl.trans (hu.toBelow hz (λk hk=>hs k hk)),I⟩;grind
def BB(k m a n:Int):Ac:=⟨k,[],aB,0,[],aB,0,m,a,n,⟨0,0,0,0,0⟩⟩
section
variable {w W:aJ} {db g:Nat} {D:Dk} (h:kD w db g D W) (hg:g+1700<=90000)
include h hg
theorem aCK:aQ aM 25 #[bH (aC ⟨db,0,aB⟩)] W λe W'=>e=aU (aG aF (Lx D))/\kD w db (g+1700) (vD D) W':=by obtain⟨p,H,hs⟩:=h.pl;refine(a1y db p D W H (h.inv.KO hg (BB 8 0 0 0)).en).mono ?_;rintro e W' ⟨rfl,hP⟩;exact⟨rfl,h.step (BB 8 0 0 0) hs hg (.Jb rfl) hP⟩
theorem aCL(L:List Lg)(A:Option ai)(c:Nat)(hS:aW W W.heap.size A (bA L))(hI:∀y∈L,y.ok)(hl:aA L<=120):aQ aM 26 #[bH (aC ⟨db,0,aB⟩),aH A (aA L) c] W λe W'=>e=aU (aG aF (qZ D L))/\kD w db (g+1700) (yV D L) W':=by obtain⟨p,H,hs⟩:=h.pl;refine(a1z db p D L A c W H hS hI (by omega) ((h.inv.KO hg (BB 0 0 0 0)).nt L hl hI)).mono ?_;rintro e W' ⟨rfl,hP⟩;exact⟨rfl,h.step (BB 0 0 0 0) hs hg (.az (.inl (by decide)) hl hI) hP⟩
theorem aCM(m a n:Int)(hm:aL m)(ha:aL a)(hn:aL n):aQ aM 27 #[bH (aC ⟨db,0,aB⟩),aG aF m,aG aF a,aG aF n] W λe W'=>e=aU (bB #[aG aF (Je D (Bj D m a (ir m a n D.ob) (kR m a n D.ob))),aG aF (Jd D (Bi D m a (ir m a n D.ob) (kR m a n D.ob)))])/\kD w db (g+1700) (zZ D (pF D m a n 7 m 1 0 5 (ir m a n D.ob) (kR m a n D.ob))) W':=by obtain⟨p,H,hs⟩:=h.pl;refine(a2A db p D m a n W H (h.inv.KO hg (BB 1 m a n)).ok hm ha hn).mono ?_;rintro e W' ⟨rfl,hP⟩;exact⟨rfl,h.step (BB 1 m a n) hs hg (.pay rfl) hP⟩
theorem aCJ:aQ aM 28 #[bH (aC ⟨db,0,aB⟩)] W λe W'=>e=aU (bB #[bM (Gg D),aG aF (Gf D)])/\kD w db (g+1700) (D6 D) W':=by obtain⟨p,H,hs⟩:=h.pl;refine(a1x db p D W H (h.inv.KO hg (BB 5 0 0 0)).due).mono ?_;rintro e W' ⟨rfl,hP⟩;exact⟨rfl,h.step (BB 5 0 0 0) hs hg (.due rfl) hP⟩
theorem aCO:aQ aM 29 #[bH (aC ⟨db,0,aB⟩)] W λe W'=>e=aU (aG aF (IC D))/\∃D',JM D D'/\kD w db (g+1700) D' W':=by obtain⟨p,H,hs⟩:=h.pl;refine(a2B db p D W H (h.inv.KO hg (BB 7 0 0 0)).set).mono ?_;rintro e W' ⟨rfl,D',hR,hP⟩;exact⟨rfl,D',hR,h.step (BB 7 0 0 0) hs hg (.set rfl hR) hP⟩
omit hg in
theorem a1P(k m a:Int)(hk:aL k)(hm:aL m):
 aQ aM 14 #[π db,bO #[ν k,ν m],ν a] W λe W'=>e=aU (bB #[ν (B D k m a),ν (nZ (plcA (aA D.x.ms) (aA D.x.ss+1) k m a))])/\kD w db g D W':=by
 obtain⟨p,H,_⟩:=h.pl;refine(a1w db p D k m a W H hk hm).mono ?_;rintro e W' ⟨rfl,hb⟩;exact⟨rfl,h.below hb⟩
end
theorem aCN {x:ak} {D':Dk}(h1:(zN x).st=2)(h2:jE (zN x) 1=0)(hs:(zN x).x.ss.length=1)(h:JM (zN x) D'):D'=yE x:=by
 rcases h with⟨hn,_⟩|⟨_,E,hB,rfl⟩
 ·exact absurd h1 hn
 rw [hs] at hB;cases hB with
 |succ hB hR=>
  cases hB with
  |zero=>
   rcases hR with⟨_,rfl⟩|⟨hn,_⟩
   ·rfl
   exact absurd h2 hn
theorem aJr(W:aJ):aW (W.alloc (aK #[aG aF 1,aG aF 0,aG aF 30,aG aF 1,aG aF 1,aG aF (-10),aG aF 3,aG aF 0,aG aF (-30),aG aF 3,aG aF 1,aG aF 10] 76)) (W.alloc (aK #[aG aF 1,aG aF 0,aG aF 30,aG aF 1,aG aF 1,aG aF (-10),aG aF 3,aG aF 0,aG aF (-30),aG aF 3,aG aF 1,aG aF 10] 76)).heap.size (aC ⟨W.heap.size,0,aB⟩) (bA JQ):=λj u hu=>
 ⟨W.heap.size,0,rfl,by simp,by have:=dM W 76 #[ν 1,ν 0,ν 30,ν 1,ν 1,ν (-10),ν 3,ν 0,ν (-30),ν 3,ν 1,ν 10] rfl j u hu;grind [Cs]⟩
def a9x(w:aJ)(db:Nat)(x:ak)(e:di)(W':aJ):Prop:=e=aU (aG aF 0)/\kD w db 8500 (yE x) W'
theorem UY(w:aJ):aQ aM 9 #[] w λe w'=>e=aU (bM aO)/\aa w.heap.size w w':=by
 have eF:=η (aIq w);have OB:=η (λW x (h:uZ W x) (hk:zT x=0) (hm:aA x.ms<=16) (hs:aA x.ss<=8) (hc:aA x.cy<=100)=>a1o x W h hk hm hs hc);go_enter func9,ntmps9
 go_wp2_with fail
 refine eF.o.mono ?_;rintro e w1 ⟨Am,cm,As,cs,Ac,cc,rfl,Ho,hb1⟩;have aR:=η hb1;have ui:=η (OB.o w1 _ Ho (by kernel_rfl) (by show 3<=16;omega) (by show 1<=8;omega) (by show 1<=100;omega));unfold ak.val at ui ⊢;go_wp2_with fail
 refine ui.o.mono ?_;rintro e w2 ⟨db,p,Bx,Cv,Bz,Cz,Bw,Ct,rfl,H2,hS2,hb2⟩;have hx:Fo (Cu Bx Cv Bz Cz Bw Ct):=QV (by kernel_rfl);have hz1:=aR.o.size;have gT:Hid (kD w db 0 (UX (Cu Bx Cv Bz Cz Bw Ct)) w2):=η ⟨⟨p,H2,λk hk=>by grind⟩,aR.o.trans (hb2.mono hz1),a4L hx⟩;have hall:=aCI Bx Cv Bz Cz Bw Ct;have QY:(zN (Cu Bx Cv Bz Cz Bw Ct)).x.ss.length=1:=by kernel_rfl
 have ju:nZ (plcA (yE (Cu Bx Cv Bz Cz Bw Ct)).x.ms.length ((yE (Cu Bx Cv Bz Cz Bw Ct)).x.ss.length+1) 2 0 1)=0:=by kernel_rfl
 have oF:nZ (plcA (yE (Cu Bx Cv Bz Cz Bw Ct)).x.ms.length ((yE (Cu Bx Cv Bz Cz Bw Ct)).x.ss.length+1) 8 1 0)=0:=by kernel_rfl
 generalize Cu Bx Cv Bz Cz Bw Ct=x at*;unfold awB at hall;simp only [jX,decide_eq_true_eq,beq_iff_eq] at hall;obtain⟨⟨⟨⟨⟨⟨⟨⟨⟨⟨f1,f2⟩,f3⟩,f4⟩,f5⟩,f6⟩,f7⟩,f8⟩,f9⟩,f10⟩,f11⟩:=hall;have T1:Hid (aQ aM 25 #[π db] w2 λe W'=>e=aU (ν 0)/\kD w db 1700 (Li x) W'):=η (by have:=aCK gT.o (by omega);rw [f1] at this;exact this);have T2:=η (λW (h:kD w db 1700 (Li x) W) A c (hS:aW W W.heap.size A (bA JQ))=>(show aQ aM 26 #[π db,aH A 4 c] W λe W'=>e=aU (ν 0)/\kD w db 3400 (vA x) W' from by have:=aCL h (by omega) JQ A c hS (by intro y hy;simp [JQ] at hy;rcases hy with rfl|rfl|rfl|rfl<;>exact⟨by decide,by decide,by decide⟩) (by decide);rw [f2] at this;exact this));have T3:=η (λW (h:kD w db 3400 (vA x) W)=>(show aQ aM 27 #[π db,ν 3,ν 1,ν 10] W λe W'=>e=aU (bB #[ν 0,ν 0])/\kD w db 5100 (Lj x) W' from by have:=aCM h (by omega) 3 1 10 (by decide) (by decide) (by decide);rw [f3,f4] at this;exact this));have T4:=η (λW (h:kD w db 5100 (Lj x) W)=>(show aQ aM 28 #[π db] W λe W'=>e=aU (bB #[bM aP,ν 0])/\kD w db 6800 (zN x) W' from by have:=aCJ h (by omega);rw [f5,f6] at this;exact this));have T5:=η (λW (h:kD w db 6800 (zN x) W)=>(show aQ aM 29 #[π db] W (a9x w db x) from by refine(aCO h (by omega)).mono ?_;rintro e W' ⟨rfl,D',hR,hI⟩;obtain rfl:=aCN f8 f9 QY hR;exact⟨by rw [f7],hI⟩));have T6:=η (λW (h:kD w db 8500 (yE x) W)=>(show aQ aM 14 #[π db,bO #[ν 2,ν 0],ν 1] W λe W'=>e=aU (bB #[ν 10,ν 0])/\kD w db 8500 (yE x) W' from by have:=a1P h 2 0 1 (by decide) (by decide);rw [f10,ju] at this;exact this));have T7:=η (λW (h:kD w db 8500 (yE x) W)=>(show aQ aM 14 #[π db,bO #[ν 8,ν 1],ν 0] W λe W'=>e=aU (bB #[ν 970,ν 0])/\kD w db 8500 (yE x) W' from by have:=a1P h 8 1 0 (by decide) (by decide);rw [f11,oF] at this;exact this));go_wp2_with fail
 refine T1.o.mono ?_;rintro e w3 ⟨rfl,h3⟩;have H3:=η h3;go_upto_region 3 with (fail)
 have H4:Hid (kD w db 1700 (Li x) (w3.alloc (aK #[ν 1,ν 0,ν 30,ν 1,ν 1,ν (-10),ν 3,ν 0,ν (-30),ν 3,ν 1,ν 10] 76))):=η (H3.o.below σ);have T2':=η (T2.o _ H4.o _ 4 (aJr w3));go_wp2_with fail
 refine T2'.o.mono ?_;rintro e w4 ⟨rfl,h4⟩;have H5:=η h4;go_wp2_with fail
 refine(T3.o _ H5.o).mono ?_;rintro e w5 ⟨rfl,h5⟩;have H6:=η h5;go_wp2_with fail
 refine(T4.o _ H6.o).mono ?_;rintro e w6 ⟨rfl,h6⟩;have H7:=η h6;go_wp2_with fail
 refine(T5.o _ H7.o).mono ?_;rintro e w7 ⟨rfl,h7⟩;have H8:=η h7;go_wp2_with fail
 refine(T6.o _ H8.o).mono ?_;rintro e w8 ⟨rfl,h8⟩;have H9:=η h8;go_wp2_with fail
 refine(T7.o _ H9.o).mono ?_;rintro e w9 ⟨rfl,h9⟩;have H10:=η h9.bl;go_wp2_with fail
 go_ret;exact⟨rfl,H10.o⟩
end
section
open Go.ChangeShapes Go.WideShapes Go.ChangeAt Go.Joins Go.Deep
theorem V7 {α:Type}(f:α->List aN)(n:Nat)(hf:∀a,aA (f a)=n):∀(l:List α) (J:Nat) (u:aN),(l.flatMap f)[J]? =aC u->∃(k:Nat) (hk:k<aA l) (j:Nat),J=k*n+j/\(f l[k])[j]? =aC u
 | [],J,u,h=>by simp at h
 |a::l,J,u,h=>by
  rw [wP] at h;by_cases hJ:J<n
  ·rw [List.getElem?_append_left (by rw [hf];exact hJ)] at h;exact⟨0,by simp,J,by simp,h⟩
  rw [List.getElem?_append_right (by rw [hf];omega),hf] at h;obtain⟨k,hk,j,e,hj⟩:=V7 f n hf l _ u h;refine⟨k+1,by simpa using hk,j, ?_,hj⟩;rw [Nat.succ_mul];omega
theorem a1F {w:aJ} {a:ai} {v:aN}(h:w.cell? a=aC v):a=⟨a.block,a.off,aB⟩/\a.block<w.heap.size:=by
 obtain⟨b,o,s⟩:=a;unfold World.cell? at h;cases hb:w.heap[b]? with
 |none=>simp [hb] at h
 |some ob=>
  refine⟨?_,(fY.1 hb).1⟩;cases ob<;>simp [hb] at h;cases s with
  |none=>rfl
  |some x=>simp at h
theorem a1D(b o n:Nat):(⟨b,o,aB⟩:ai).add n=⟨b,o+n,aB⟩:=by unfold Addr.add;split<;>simp_all
theorem a9B {n:Int}(h:(Lit.int aF n).wf=aO):aL n:=by simp only [Lit.wf,IntKind.min,IntKind.max,IntKind.signed,Zj,jX,decide_eq_true_eq,if_true] at h;unfold aL;omega
section
variable {H:Type} {enc:bX×aN->H} {P:Program} {w:aJ}
def Reads(enc:bX×aN->H)(P:Program)(w:aJ)(t:bX)(v:aN):Prop:=∃n x,a8C enc P w 0 (λ_=>aO) aO n t [v]=aC x
theorem Reads.int {t:bX} {v:aN}(ht:P.underlying t=aC (.int aF))(h:Reads enc P w t v):∃n,v= .int aF n/\aL n:=by obtain⟨n,x,h⟩:=h;obtain⟨y,e1,_,wy⟩:=DataW.trod_int ht h;simp only [List.cons.injEq,and_true] at e1;exact⟨y,e1,a9B wy⟩
theorem aJK {t:bX} {v:aN} {d:DataW H} {p:List MemPlace}(hc:v.cells.toList= [v])(h:DataW.Trod enc P w 0 (λ_=>aO) aO t v d p):Reads enc P w t v:=by obtain⟨n,h⟩:=h;rw [hc] at h;exact⟨n,_,h⟩
structure Tw(enc:bX×aN->H)(P:Program)(w:aJ)(fs:Array Field)(x:List aN):Prop where
 len:aA x=fs.size
 cell:∀(j:Nat) (f:Field) (v:aN),fs[j]? =aC f->x[j]? =aC v->Reads enc P w f.type v
theorem KH {t e:bX} {fs:Array Field} {v:aN}(ht:P.underlying t=aC (.slice e))(he:P.underlying e=aC (.struct fs))(Jt:oneCellFields P fs=aO)(hC:P.cellsOf e=fs.size)(h0:0<fs.size)
 (h:Reads enc P w t v):
 ∃(A:Option ai) (c:Nat) (rows:List (List aN)),v= .slice A (aA rows) c/\aA rows<=c/\c<=bK/\(∀x∈rows,Tw enc P w fs x)/\aW w w.heap.size A (rows.flatMap id):=by
 obtain⟨fuel,x,hf⟩:=h;rcases open_slice ht hf with⟨hcs,_⟩|⟨a,len,cap,m,n,D,Pl,hcs,hb,hl,hm,mG,hx,hi⟩
 ·simp at hcs;subst hcs;exact⟨aB,0,[],rfl,by simp,by simp,by simp,aW.nil⟩
 simp at hcs;subst hcs;simp only [if_true] at mG;subst mG;have hrow:∀i,∃x:List aN,i<len->Tw enc P w fs x/\∀j y,x[j]? =aC y->w.cell? (a.add (i*fs.size+j))=aC y:=by
  intro i;by_cases nR:i<len
  ·obtain⟨cs',hc,zu⟩:=hi i (by omega);rw [hC] at hc;obtain⟨ys,n',Jq,hy,hlen,Ba,gV⟩:=YQ he zu;obtain⟨_,jt,hat⟩:=aBm hc;refine⟨cs',λ_=>⟨⟨jt, ?_⟩, ?_⟩⟩
   ·intro j f v MU hv;obtain⟨ho,hk⟩:=hone_of Jt j _ MU;have h1:=gV j _ MU;have qY:=(zF.1 hv).1;rw [ho,hk] at h1;have WH:(cs'.drop j).take 1= [v]:=by
     rw [JF qY,(zF.1 hv).2];rfl
    rw [WH] at h1;have Hf:j<aA ys:=by omega
    rw [iA Hf] at h1;exact⟨_,_,h1⟩
   intro j y hy;have qY:=(zF.1 hy).1;rw [<-a1E,hat j (by omega)];exact hy
  exact⟨[],λh=>absurd h nR⟩
 obtain⟨g,hg⟩:=YN.1 hrow;have Ml:aA ((dQ len).map g)=len:=by simp
 refine⟨aC a,_,(dQ len).map g,by rw [Ml],by rw [Ml];exact hl,hm, ?_, ?_⟩
 ·intro x hx;obtain⟨i,hi',rfl⟩:=dV.1 hx;exact(hg i (nH.1 hi')).1
 intro J u hu;have WW:((dQ len).flatMap g)[J]? =aC u:=by rw [a9O] at hu;exact hu
 have WM:∀i,aA (if i<len then g i else gN fs.size (aG aF 0))=fs.size:=by
  intro i;split
  ·rename_i nR;exact(hg i nR).1.len
  simp
 have vS:((dQ len).flatMap (λi=>if i<len then g i else gN fs.size (aG aF 0)))[J]? =aC u:=by
  have e:(dQ len).flatMap (λi=>if i<len then g i else gN fs.size (aG aF 0))=(dQ len).flatMap g:=by rw [Tm,Tm];congr 1;exact JG λi hi=>by rw [ifP (nH.1 hi)]
  rw [e];exact WW
 obtain⟨k,hk,j,rfl,hj⟩:=V7 _ fs.size WM _ J u vS;have eC:k<len:=by simpa using hk
 have ek:(dQ len)[k]=k:=by simp
 rw [ek,ifP eC] at hj;have hc:=(hg k eC).2 j u hj;obtain⟨x,hx0⟩:∃x,(g 0)[0]? =aC x:=by have hl0:=(hg 0 (by omega)).1.len;exact⟨_,iA (by rw [hl0];exact h0)⟩
 have hc0:=(hg 0 (by omega)).2 0 x hx0;have ea:a.add (0*fs.size+0)=a:=by simp [Addr.add]
 rw [ea] at hc0;obtain⟨e1,e2⟩:=a1F hc0;refine⟨a.block,a.off,by rw [<-e1],e2, ?_⟩;rw [<-a1D,<-e1];exact hc
end
theorem FE {α:Type}(f:α->List aN)(R:α->Prop):∀(rows:List (List aN)),(∀x∈rows,∃a,x=f a/\R a)->∃l:List α,aA l=aA rows/\rows.flatMap id=l.flatMap f/\∀a∈l,R a
 | [],_=>⟨[],rfl,rfl,by simp⟩
 |x::rows,h=>by
  obtain⟨a,rfl,ha⟩:=h x (by simp);obtain⟨l,h1,h2,h3⟩:=FE f R rows λy hy=>h y (by simp [hy])
  refine⟨a::l,by simp [h1],by simp [h2], ?_⟩;intro b hb;rcases fC.1 hb with rfl|hb
  ·exact ha
  exact h3 b hb
end
section
open Go.ChangeShapes Go.WideShapes Go.ChangeAt Go.Joins Go.Deep
section
variable {H:Type} {enc:bX×aN->H} {w:aJ}
theorem X8 {P:Program} {t e:bX} {A:Option ai} {n c:Nat}(ht:P.underlying t=aC (.slice e))(h:Reads enc P w t (.slice A n c)):A=aB->n=0/\c=0:=by
 obtain⟨fuel,x,hf⟩:=h;rcases open_slice ht hf with⟨hcs,_⟩|⟨a,len,cap,m,n',D,Pl,hcs,_⟩
 ·simp at hcs;exact λ_=>hcs.2
 simp at hcs;intro h;rw [hcs.1] at h;cases h
end
end
section
open Go.ChangeShapes Go.WideShapes Go.ChangeAt Go.Joins Go.Deep
section
variable {H:Type} {enc:bX×aN->H} {P:Program} {w:aJ}
def pV(enc:bX×aN->H)(P:Program)(w:aJ)(t:bX)(cs:List aN):Prop:=∃n x,a8C enc P w 0 (λ_=>aO) aO n t cs=aC x
theorem pV.fields {t:bX} {fs:Array Field} {cs:List aN}(ht:P.underlying t=aC (.struct fs))(h:pV enc P w t cs):
 ∀(i:Nat) (f:Field),fs[i]? =aC f->pV enc P w f.type ((cs.drop f.offset).take (P.cellsOf f.type)):=by
 obtain⟨fuel,x,h⟩:=h;obtain⟨xs,n,rfl,rfl,hl,mq,gV⟩:=YQ ht h;intro i f hf;have hi:=(fY.1 hf).1;have h1:=gV i f hf;rw [iA (show i<(aA xs) by omega)] at h1;exact⟨n,_,h1⟩
theorem aIB {t e:bX} {N:Nat} {v:aN}(ht:P.underlying t=aC (.slice e))(hC:P.cellsOf e=N)(h0:0<N)
 (h:Reads enc P w t v):
 ∃(A:Option ai) (c:Nat) (rows:List (List aN)),v= .slice A (aA rows) c/\aA rows<=c/\c<=bK/\(∀x∈rows,aA x=N/\pV enc P w e x)/\aW w w.heap.size A (rows.flatMap id):=by
 obtain⟨fuel,x,hf⟩:=h;rcases open_slice ht hf with⟨hcs,_⟩|⟨a,len,cap,m,n,D,Pl,hcs,hb,hl,hm,mG,hx,hi⟩
 ·simp at hcs;subst hcs;exact⟨aB,0,[],rfl,by simp,by simp,by simp,aW.nil⟩
 simp at hcs;subst hcs;simp only [if_true] at mG;subst mG;have hrow:∀i,∃x:List aN,i<len->(aA x=N/\pV enc P w e x)/\∀j y,x[j]? =aC y->w.cell? (a.add (i*N+j))=aC y:=by
  intro i;by_cases nR:i<len
  ·obtain⟨cs',hc,zu⟩:=hi i (by omega);rw [hC] at hc;obtain⟨_,jt,hat⟩:=aBm hc;refine⟨cs',λ_=>⟨⟨jt,⟨_,_,zu⟩⟩, ?_⟩⟩;intro j y hy;have qY:=(zF.1 hy).1;rw [<-a1E,hat j (by omega)];exact hy
  exact⟨[],λh=>absurd h nR⟩
 obtain⟨g,hg⟩:=YN.1 hrow;have Ml:aA ((dQ len).map g)=len:=by simp
 refine⟨aC a,_,(dQ len).map g,by rw [Ml],by rw [Ml];exact hl,hm, ?_, ?_⟩
 ·intro x hx;obtain⟨i,hi',rfl⟩:=dV.1 hx;exact(hg i (nH.1 hi')).1
 intro J u hu;have WW:((dQ len).flatMap g)[J]? =aC u:=by rw [a9O] at hu;exact hu
 have WM:∀i,aA (if i<len then g i else gN N (aG aF 0))=N:=by
  intro i;split
  ·rename_i nR;exact(hg i nR).1.1
  simp
 have vS:((dQ len).flatMap (λi=>if i<len then g i else gN N (aG aF 0)))[J]? =aC u:=by
  have e:(dQ len).flatMap (λi=>if i<len then g i else gN N (aG aF 0))=(dQ len).flatMap g:=by rw [Tm,Tm];congr 1;exact JG λi hi=>by rw [ifP (nH.1 hi)]
  rw [e];exact WW
 obtain⟨k,hk,j,rfl,hj⟩:=V7 _ N WM _ J u vS;have eC:k<len:=by simpa using hk
 have ek:(dQ len)[k]=k:=by simp
 rw [ek,ifP eC] at hj;have hc:=(hg k eC).2 j u hj;obtain⟨x,hx0⟩:∃x,(g 0)[0]? =aC x:=by have hl0:=(hg 0 (by omega)).1.1;exact⟨_,iA (by rw [hl0];exact h0)⟩
 have hc0:=(hg 0 (by omega)).2 0 x hx0;have ea:a.add (0*N+0)=a:=by simp [Addr.add]
 rw [ea] at hc0;obtain⟨e1,e2⟩:=a1F hc0;refine⟨a.block,a.off,by rw [<-e1],e2, ?_⟩;rw [<-a1D,<-e1];exact hc
end
end
section
open Go.ChangeShapes Go.WideShapes Go.ChangeAt Go.Joins Go.Deep
section
variable {H:Type} {enc:bX×aN->H} {w:aJ}
theorem aIE {P:Program} {r:Reach} {b0:Nat} {t:bX} {fs:Array Field} {v:aN} {d:DataW H} {p:List MemPlace}(hs:P.underlying t=aC (.struct fs))(Jt:oneCellFields P fs=aO)(hC:P.cellsOf t=fs.size)
 (hv:Value.okWide P w r b0 t v) (h:DataW.Trod enc P w 0 (λ_=>aO) aO t v d p):∃l:List aN,v= .agg l.toArray/\Tw enc P w fs l:=by
 obtain⟨⟨l⟩,rfl,hsz⟩:=okWide_struct hs hv;obtain⟨fuel,hf⟩:=h;obtain⟨ys,n,_,_,_,Ba,gV⟩:=YQ hs hf;have hl:aA l=fs.size:=hsz.trans hC;refine⟨l,rfl,⟨hl, ?_⟩⟩;intro j f v MU hv;obtain⟨ho,hk⟩:=hone_of Jt j _ MU;have h1:=gV j _ MU;have qY:j<aA l:=(zF.1 hv).1;rw [ho,hk] at h1;have WH:((Value.agg ⟨l⟩).cells.toList.drop j).take 1= [v]:=by show (l.drop j).take 1= [v];rw [JF qY,(zF.1 hv).2];rfl
 rw [WH] at h1;have Hf:j<aA ys:=by omega
 rw [iA Hf] at h1;exact⟨_,_,h1⟩
theorem aID {v:aN}(h:Reads enc aM w 22 v):∃(A:Option ai) (c:Nat) (l:List Pr),v=aH A (aA l) c/\aA l<=bK/\aW w w.heap.size A (jU l):=by
 obtain⟨A,c,rows,rfl,hl,hc,hr,hs⟩:=KH underlying22 underlying67 (by kernel_rfl) (by kernel_rfl) (by decide) h;obtain⟨l,e1,e2,_⟩:=FE Pr.cells (λ_=>True) rows λx hx=>by
  have hx:=hr x hx
  match x,hx.len with
  | [x0,x1],_=>
   obtain⟨x0,rfl,_⟩:=(hx.cell 0 _ _ rfl rfl).int (by kernel_rfl);obtain⟨x1,rfl,_⟩:=(hx.cell 1 _ _ rfl rfl).int (by kernel_rfl);exact⟨⟨x0,x1⟩,rfl,trivial⟩
 rw [e2] at hs;rw [<-e1] at hl ⊢;exact⟨A,c,l,rfl,cC hl hc,hs⟩
theorem aMY {v:aN}(h:Reads enc aM w 23 v):∃(A:Option ai) (c:Nat) (l:List Pr),v=aH A (aA l) c/\aA l<=bK/\aW w w.heap.size A (jU l):=by
 obtain⟨A,c,rows,rfl,hl,hc,hr,hs⟩:=KH underlying23 aBg (by kernel_rfl) (by kernel_rfl) (by decide) h;obtain⟨l,e1,e2,_⟩:=FE Pr.cells (λ_=>True) rows λx hx=>by
  have hx:=hr x hx
  match x,hx.len with
  | [x0,x1],_=>
   obtain⟨x0,rfl,_⟩:=(hx.cell 0 _ _ rfl rfl).int (by kernel_rfl);obtain⟨x1,rfl,_⟩:=(hx.cell 1 _ _ rfl rfl).int (by kernel_rfl);exact⟨⟨x0,x1⟩,rfl,trivial⟩
 rw [e2] at hs;rw [<-e1] at hl ⊢;exact⟨A,c,l,rfl,cC hl hc,hs⟩
theorem aIA {v:aN}(h:Reads enc aM w 24 v):∃(A:Option ai) (c:Nat) (l:List Cy),v=aH A (aA l) c/\aA l<=bK/\aW w w.heap.size A (uI l):=by
 obtain⟨A,c,rows,rfl,hl,hc,hr,hs⟩:=KH underlying24 underlying71 (by kernel_rfl) (by kernel_rfl) (by decide) h;obtain⟨l,e1,e2,_⟩:=FE Cy.cells (λ_=>True) rows λx hx=>by
  have hx:=hr x hx
  match x,hx.len with
  | [x0,x1,x2,x3],_=>
   obtain⟨x0,rfl,_⟩:=(hx.cell 0 _ _ rfl rfl).int (by kernel_rfl);obtain⟨x1,rfl,_⟩:=(hx.cell 1 _ _ rfl rfl).int (by kernel_rfl);obtain⟨x2,rfl,_⟩:=(hx.cell 2 _ _ rfl rfl).int (by kernel_rfl);obtain⟨x3,rfl,_⟩:=(hx.cell 3 _ _ rfl rfl).int (by kernel_rfl);exact⟨⟨x0,x1,x2,x3⟩,rfl,trivial⟩
 rw [e2] at hs;rw [<-e1] at hl ⊢;exact⟨A,c,l,rfl,cC hl hc,hs⟩
end
end
section
open Go.ChangeShapes Go.WideShapes Go.ChangeAt Go.Joins Go.Deep
section
variable {H:Type} {enc:bX×aN->H} {w:aJ}
theorem aIF {v:aN}(h:Reads enc aM w 23 v):∃(A:Option ai) (c:Nat) (l:List Pr),v=aH A (aA l) c/\aA l<=bK/\(∀y∈l,aL y.a/\aL y.b)/\aW w w.heap.size A (jU l):=by
 obtain⟨A,c,rows,rfl,hl,hc,hr,hs⟩:=KH underlying23 aBg (by kernel_rfl) (by kernel_rfl) (by decide) h;obtain⟨l,e1,e2,e3⟩:=FE Pr.cells (λy=>aL y.a/\aL y.b) rows λx hx=>by
  have hx:=hr x hx
  match x,hx.len with
  | [x0,x1],_=>
   obtain⟨x0,rfl,h0⟩:=(hx.cell 0 _ _ rfl rfl).int (by kernel_rfl);obtain⟨x1,rfl,h1⟩:=(hx.cell 1 _ _ rfl rfl).int (by kernel_rfl);exact⟨⟨x0,x1⟩,rfl,h0,h1⟩
 rw [e2] at hs;rw [<-e1] at hl ⊢;exact⟨A,c,l,rfl,cC hl hc,e3,hs⟩
end
end
section
open Go.ChangeShapes Go.WideShapes Go.ChangeAt Go.Joins Go.Deep
section
variable {H:Type} {enc:bX×aN->H} {w:aJ}
theorem aIC {v:aN}(h:Reads enc aM w 39 v):
 ∃(A:Option ai) (c:Nat) (l:List Lg),v=aH A (aA l) c/\aA l<=c/\c<=bK/\(∀y∈l,aL y.m/\aL y.a/\aL y.n)/\aW w w.heap.size A (bA l):=by
 obtain⟨A,c,rows,rfl,hl,hc,hr,hs⟩:=KH sU underlying76 (by kernel_rfl) (by kernel_rfl) (by decide) h;obtain⟨l,e1,e2,e3⟩:=FE Lg.cells (λy=>aL y.m/\aL y.a/\aL y.n) rows λx hx=>by
  have hx:=hr x hx
  match x,hx.len with
  | [a,b,d],_=>
   obtain⟨a,rfl,ha⟩:=(hx.cell 0 _ _ rfl rfl).int (by kernel_rfl);obtain⟨b,rfl,hb⟩:=(hx.cell 1 _ _ rfl rfl).int (by kernel_rfl);obtain⟨d,rfl,hd⟩:=(hx.cell 2 _ _ rfl rfl).int (by kernel_rfl);exact⟨⟨a,b,d⟩,rfl,ha,hb,hd⟩
 rw [e2] at hs;rw [<-e1] at hl ⊢;exact⟨A,c,l,rfl,hl,hc,e3,hs⟩
end
end
section
open Go.ChangeShapes Go.WideShapes Go.ChangeAt Go.Joins Go.Deep
section
variable {H:Type} {enc:bX×aN->H} {w:aJ}
theorem aI9 {r:Reach} {b0:Nat} {v:aN} {d:DataW H} {p:List MemPlace}(hv:Value.okWide aM w r b0 26 v)
 (h:DataW.Trod enc aM w 0 (λ_=>aO) aO 26 v d p):∃x:ak,v=x.val/\uZ w x/\aA x.ms<=bK/\aA x.ss<=bK/\aA x.cy<=bK:=by
 obtain⟨l,rfl,hx⟩:=aIE underlying26 (by kernel_rfl) (by kernel_rfl) hv h
 match l,hx.len with
 | [x0,x1,x2,x3,x4,x5,x6,x7],_=>
  have g0:=hx.cell 0 _ _ rfl rfl;have g1:=hx.cell 1 _ _ rfl rfl;have g2:=hx.cell 2 _ _ rfl rfl;obtain⟨Am,cm,ms,rfl,hm,sm⟩:=aID g0;obtain⟨As,cs,ss,rfl,hs,hI,sss⟩:=aIF g1;obtain⟨Ac,cc,cy,rfl,hc,sc⟩:=aIA g2;obtain⟨x3,rfl,_⟩:=(hx.cell 3 _ _ rfl rfl).int (by kernel_rfl);obtain⟨x4,rfl,_⟩:=(hx.cell 4 _ _ rfl rfl).int (by kernel_rfl);obtain⟨x5,rfl,_⟩:=(hx.cell 5 _ _ rfl rfl).int (by kernel_rfl);obtain⟨x6,rfl,_⟩:=(hx.cell 6 _ _ rfl rfl).int (by kernel_rfl);obtain⟨x7,rfl,_⟩:=(hx.cell 7 _ _ rfl rfl).int (by kernel_rfl);have n0:=X8 underlying22 g0;have n1:=X8 underlying23 g1;have n2:=X8 underlying24 g2;exact⟨⟨ms,Am,cm,ss,As,cs,cy,Ac,cc,x3,x4,x5,x6,x7⟩,rfl,⟨⟨sm,sss,sc⟩,λe=>(n0 e).1,λe=>(n1 e).1,λe=>(n2 e).1⟩,hm,hs,hc⟩
theorem aIG {v:aN}(h:Reads enc aM w 38 v):
 ∃(A:Option ai) (c:Nat) (l:List Td),v=aH A (aA l) c/\aA l<=c/\c<=bK/\(∀y∈l,y.ok)/\aW w w.heap.size A (Y2 l):=by
 obtain⟨A,c,rows,rfl,hl,hc,hr,hs⟩:=KH underlying38 underlying153 (by kernel_rfl) (by kernel_rfl) (by decide) h;obtain⟨l,e1,e2,e3⟩:=FE Td.cells (λy=>y.ok) rows λx hx=>by
  have hx:=hr x hx
  match x,hx.len with
  | [a,b,c,d,e,f],_=>
   obtain⟨a,rfl,ha⟩:=(hx.cell 0 _ _ rfl rfl).int (by kernel_rfl);obtain⟨b,rfl,hb⟩:=(hx.cell 1 _ _ rfl rfl).int (by kernel_rfl);obtain⟨c,rfl,hc⟩:=(hx.cell 2 _ _ rfl rfl).int (by kernel_rfl);obtain⟨d,rfl,hd⟩:=(hx.cell 3 _ _ rfl rfl).int (by kernel_rfl);obtain⟨e,rfl,he⟩:=(hx.cell 4 _ _ rfl rfl).int (by kernel_rfl);obtain⟨f,rfl,hf⟩:=(hx.cell 5 _ _ rfl rfl).int (by kernel_rfl);exact⟨⟨a,b,c,d,e,f⟩,rfl,hb,hc,hd,he,hf⟩
 rw [e2] at hs;rw [<-e1] at hl ⊢;exact⟨A,c,l,rfl,hl,hc,e3,hs⟩
def SB(w:aJ)(y:Ac):Prop:=y.ok/\y.at w/\aA y.ts<=bK/\aA y.ls<=bK
theorem aBr {x:List aN}(mq:aA x=11)(hx:pV enc aM w 43 x):∃y:Ac,x=y.cells/\SB w y:=by
 have k0:aM.cellsOf 3=1:=by kernel_rfl
 have k1:aM.cellsOf 38=1:=by kernel_rfl
 have k2:aM.cellsOf 39=1:=by kernel_rfl
 have k3:aM.cellsOf 2=1:=by kernel_rfl
 have k4:aM.cellsOf 41=5:=by kernel_rfl
 match x,mq with
 | [a,b,c,d,e,f,g,h,i,j,k],_=>
  have hf:=hx.fields underlying43;have h0:pV enc aM w 3 (([a,b,c,d,e,f,g,h,i,j,k].drop 0).take (aM.cellsOf 3)):=hf 0 _ rfl;have h1:pV enc aM w 38 (([a,b,c,d,e,f,g,h,i,j,k].drop 1).take (aM.cellsOf 38)):=hf 1 _ rfl;have h2:pV enc aM w 39 (([a,b,c,d,e,f,g,h,i,j,k].drop 2).take (aM.cellsOf 39)):=hf 2 _ rfl;have h3:pV enc aM w 3 (([a,b,c,d,e,f,g,h,i,j,k].drop 3).take (aM.cellsOf 3)):=hf 3 _ rfl;have h4:pV enc aM w 3 (([a,b,c,d,e,f,g,h,i,j,k].drop 4).take (aM.cellsOf 3)):=hf 4 _ rfl;have h5:pV enc aM w 2 (([a,b,c,d,e,f,g,h,i,j,k].drop 5).take (aM.cellsOf 2)):=hf 5 _ rfl;have h6:pV enc aM w 41 (([a,b,c,d,e,f,g,h,i,j,k].drop 6).take (aM.cellsOf 41)):=hf 6 _ rfl;rw [k0] at h0 h3 h4;rw [k1] at h1;rw [k2] at h2;rw [k3] at h5;rw [k4] at h6;have hg:=pV.fields underlying41 h6;have g0:pV enc aM w 3 (([g,h,i,j,k].drop 0).take (aM.cellsOf 3)):=hg 0 _ rfl;have g1:pV enc aM w 3 (([g,h,i,j,k].drop 1).take (aM.cellsOf 3)):=hg 1 _ rfl;have g2:pV enc aM w 3 (([g,h,i,j,k].drop 2).take (aM.cellsOf 3)):=hg 2 _ rfl;have g3:pV enc aM w 2 (([g,h,i,j,k].drop 3).take (aM.cellsOf 2)):=hg 3 _ rfl;have g4:pV enc aM w 2 (([g,h,i,j,k].drop 4).take (aM.cellsOf 2)):=hg 4 _ rfl;rw [k0] at g0 g1 g2;rw [k3] at g3 g4;have r0:Reads enc aM w 3 a:=h0;have r1:Reads enc aM w 38 b:=h1;have r2:Reads enc aM w 39 c:=h2;have r3:Reads enc aM w 3 d:=h3;have r4:Reads enc aM w 3 e:=h4;have r5:Reads enc aM w 2 f:=h5;have q0:Reads enc aM w 3 g:=g0;have q1:Reads enc aM w 3 h:=g1;have q2:Reads enc aM w 3 i:=g2;have q3:Reads enc aM w 2 j:=g3;have q4:Reads enc aM w 2 k:=g4;obtain⟨a,rfl,_⟩:=r0.int (by kernel_rfl);obtain⟨At,ct,ts,rfl,t1,t2,t3,t4⟩:=aIG r1;obtain⟨Al,cl,ls,rfl,l1,l2,l3,l4⟩:=aIC r2;obtain⟨d,rfl,w3⟩:=r3.int (by kernel_rfl);obtain⟨e,rfl,w4⟩:=r4.int (by kernel_rfl);obtain⟨f,rfl,w5⟩:=r5.int (by kernel_rfl);obtain⟨g,rfl,u0⟩:=q0.int (by kernel_rfl);obtain⟨h,rfl,u1⟩:=q1.int (by kernel_rfl);obtain⟨i,rfl,u2⟩:=q2.int (by kernel_rfl);obtain⟨j,rfl,u3⟩:=q3.int (by kernel_rfl);obtain⟨k,rfl,u4⟩:=q4.int (by kernel_rfl);exact⟨⟨a,ts,At,ct,ls,Al,cl,d,e,f,⟨g,h,i,j,k⟩⟩,rfl,⟨w3,w4,w5,⟨u0,u1,u2,u3,u4⟩,t3,λy hy=>⟨(l3 y hy).1,(l3 y hy).2.1,(l3 y hy).2.2⟩⟩,⟨t4,l4⟩,cC t1 t2,cC l1 l2⟩
theorem aI8 {v:aN}(h:Reads enc aM w 27 v):
 ∃(A:Option ai) (c:Nat) (l:List Ac),v=aH A (aA l) c/\aA l<=c/\c<=bK/\(∀y∈l,SB w y)/\aW w w.heap.size A (JO l):=by
 obtain⟨A,c,rows,rfl,hl,hc,hr,hs⟩:=aIB (N:=11) underlying27 (by kernel_rfl) (by decide) h;obtain⟨l,e1,e2,e3⟩:=FE Ac.cells (λy=>SB w y) rows λx hx=>aBr (hr x hx).1 (hr x hx).2
 rw [e2] at hs;rw [<-e1] at hl ⊢;exact⟨A,c,l,rfl,hl,hc,e3,hs⟩
end
end
theorem aHA(x:ak)(l:List Ac)(A:Option ai)(c:Nat)(w:aJ)(h:uZ w x)(hm:aA x.ms<=bK)(hs:aA x.ss<=bK)(hc:aA x.cy<=bK)(hl:aA l<=bK)(hL:∀y∈l,aA y.ts<=bK/\aA y.ls<=bK)(mn:aW w w.heap.size A (JO l))(dR:∀y∈l,y.ok/\y.at w):
 aQ aM 3 #[x.val,aH A (aA l) c] w λe w'=>e=aU (bM aO)/\β w w':=by
 have aY:=η (mE w x);have jG:=η (zS w x);have ly:=η (h.below aY.o);have CU:=η ((mn.below aY.o).mono aY.o.size);have wO:=η (λy (hy:y∈l)=>kT (dR y hy).1 ((dR y hy).2.below aY.o));have yq:=η (λW (hW:aW W W.heap.size A (JO l))=>aEy x l A c W hm hs hc hl hL hW);have HLEN:Hid (Gj x l=aO->(aA x.ms<=20/\aA x.ss<=20/\aA x.cy<=20)/\aA l<=40/\∀y∈l,aA y.ts<=30/\aA y.ls<=60):=η aEz;clear h hm hs hc hL mn dR;unfold bK at hl;cases QA:Gj x l
 ·rw [QA] at yq;clear HLEN wO ly;unfold ak.val at*;go_enter Ou,a0k
  obtain⟨c0,c1,c2,c3,c4,c5,c6,c7,kM⟩:=jG.o;go_wp2_with fail
  refine(yq.o _ CU.o).mono ?_;rintro e w2 ⟨rfl,hb⟩;have aV:Hid (β w w2):=τ aY hb;clear hb yq aY jG CU c0 c1 c2 c3 c4 c5 c6 c7 kM;go_wp2_with fail
  refine(UY _).mono ?_;rintro e w3 ⟨rfl,hb⟩;have af:Hid (β w w3):=τ aV hb;clear hb;go_wp2_with fail
  go_ret;exact⟨rfl,af.o⟩
 obtain⟨⟨l1,l2,l3⟩,l40,hL⟩:=HLEN.o QA;have lx:=η hL;rw [QA] at yq;have rC:=η (λW (hW:uZ W x)=>aJj x W hW.ok (by omega) (by omega) (by omega));clear QA HLEN hL;cases Em:okB x
 ·have HX:=η (a7t Em);generalize iJ x=ws at*;clear Em wO lx;unfold ak.val at*;go_enter Ou,a0k
  obtain⟨c0,c1,c2,c3,c4,c5,c6,c7,kM⟩:=jG.o;go_wp2_with fail
  refine(yq.o _ CU.o).mono ?_;rintro e w2 ⟨rfl,hb⟩;have aV:Hid (β w w2):=τ aY hb;have kE:=η (jG.o.below hb);have dB:=η (ly.o.below hb);clear hb yq aY jG CU ly c0 c1 c2 c3 c4 c5 c6 c7 kM;obtain⟨c0,c1,c2,c3,c4,c5,c6,c7,kM⟩:=kE.o;go_wp2_with fail
  refine(rC.o _ dB.o).mono ?_;rintro e w3 ⟨rfl,hb⟩;have af:Hid (β w w3):=τ aV hb;clear hb rC aV kE dB c0 c1 c2 c3 c4 c5 c6 c7 kM;rcases HX.o with rfl|rfl|rfl|rfl|rfl|rfl|rfl|rfl
  all_goals
   clear HX;go_wp2_with fail
   refine(UY _).mono ?_;rintro e w4 ⟨rfl,hb⟩;have ar:Hid (β w w4):=τ af hb;clear hb;go_wp2_with fail
   go_ret;exact⟨rfl,ar.o⟩
 have HE:=η (a7u Em);have aLn:=η Em;have OB:=η (λ(w0 W:aJ) (hb:Nat) (h1:β w0 W) (h2:hb<W.heap.size) (h3:uZ W x)=>aGz (hb:=hb) h1 h2 h3 Em);have aMQ:aA x.ss<=8:=(QV Em).sl.2;have aMJ:aA x.ms<=16:=(QV Em).ml.2;clear Em;rw [HE.o] at rC;clear HE;unfold ak.val at*;go_enter Ou,a0k
 go_upto_region 1 with (fail)
 generalize w.alloc (aK #[aH x.Am (aA x.ms) x.cm,aH x.As (aA x.ss) x.cs,aH x.Ac (aA x.cy) x.cc,ν x.line,ν x.bu,ν x.lead,ν x.tr,ν x.bY] 26)=w0 at*;obtain⟨bx,bQ⟩:∃bx,bx=w.heap.size:=⟨_,rfl⟩;rw [<-bQ] at jG ⊢;clear bQ;have bQ:=jG.o.lt;have cE:=η (λW (hW:β w0 W)=>aY.o.trans (hW.mono aY.o.size));have eJ:=η (λW (hW:β w0 W)=>jG.o.below hW);have ZU:=η (λW (hW:β w0 W)=>(CU.o.below hW).mono hW.size);obtain⟨c0,c1,c2,c3,c4,c5,c6,c7,kM⟩:=jG.o;go_wp2_with fail
 refine(yq.o _ CU.o).mono ?_;rintro e w1 ⟨rfl,hb⟩;have aR:=η hb;have cF:=η (ly.o.below hb);clear hb yq c0 c1 c2 c3 c4 c5 c6 c7 kM CU jG aY ly;obtain⟨c0,c1,c2,c3,c4,c5,c6,c7,kM⟩:=eJ.o _ aR.o;go_wp2_with fail
 refine(rC.o _ cF.o).mono ?_;rintro e w2 ⟨rfl,hb⟩;have aV:=τ aR hb;have dB:=η (cF.o.below hb);have hz2:=aV.o.size;clear hb rC c0 c1 c2 c3 c4 c5 c6 c7 kM aR cF;obtain⟨c0,c1,c2,c3,c4,c5,c6,c7,kM⟩:=eJ.o _ aV.o;go_wp2_with fail
 refine(OB.o w0 _ bx aV.o kM dB.o).mono ?_;rintro e w3 ⟨db,D0,rfl,hi,hb,aGB,-⟩;have Kq:=η hi;clear hi hb aGB OB aV dB c0 c1 c2 c3 c4 c5 c6 c7 kM;go_wp2_with fail
 go_loopw [7,8,9,10,11,12,13,14,15,16,17,18,19,20,21,22] (λi _ _ _ _ _ _ _ _ _ _ _ _ _ _ _ wr=>∃(k:Nat) (D:Dk),k<=aA l/\i=ν (k:Int)/\Hid (uq w0 db bx x (1700*k) D wr)) (λi _ _ _ _ _ _ _ _ _ _ _ _ _ _ _ _=>aA l-(ag i).toNat)
 case atStart=>exact⟨0,D0,bL _,rfl,Kq⟩
 case round=>
  clear Kq;obtain⟨k,D,hk,rfl,HI⟩:=hrel;by_cases hlt:k<aA l
  ·have hg:1700*k+1700<=90000:=by omega
   have eV:(0:Int)<=(k:Int):=by omega
   have hkb:(k:Int)<(aA l:Int):=by omega
   obtain⟨C,K,-⟩:=HI.o.inv.ie;have jQ:=K.gl;clear K;go_wp2_with fail
   refine(a4f HI.o (by omega)).mono ?_;rintro e w4 ⟨v4,rfl,gL,hb4⟩;obtain⟨A4,k4,rfl⟩:=bJ gL;have qw:=η (HI.o.below hb4);clear gL hb4 HI;obtain⟨ba,oa,rfl,mF,d0,d1,d2,d3,d4,d5,d6,d7,d8,d9,d10⟩:=UI (ZU.o w4 qw.o.bl) hlt;have Zf:=η (wO.o l[k] (cK hlt));have kF:=η (lx.o l[k] (cK hlt));have TK:=η (aH2 qw.o hg Zf.o.1 Zf.o.2 kF.o.1 kF.o.2);unfold Ac.val at TK;go_wp2_with fail
   refine TK.o.mono ?_;rintro e w5 ⟨rfl,D5,h5,t5,-⟩;have Kr:=η h5;have CW:=η t5;clear h5 t5 TK qw d0 d1 d2 d3 d4 d5 d6 d7 d8 d9 d10;go_wp2_with fail
   refine(a4f Kr.o (by omega)).mono ?_;rintro e w6 ⟨v6,rfl,tH,iL⟩;obtain⟨A6,k6,rfl⟩:=bJ tH;have qx:=η (Kr.o.below iL);have OH:=η (aW.cA tH);clear tH iL Kr;obtain⟨C5,K5,-⟩:=qx.o.inv.ie;have aMA:=K5.gl;clear K5;obtain⟨n,hn⟩:∃n,n=aA D.log:=⟨_,rfl⟩;rw [<-hn] at jQ ⊢;have HF:Hid (∀j (hj:j<aA D5.log),n<=j->D5.log[j].k=15->l[k].k=7/\kA D5=0):=η (λj hj hnj BP=>by
    obtain⟨t,et,ht⟩:=CW.o.lg;refine ht ⟨D5.log[j], ?_,BP⟩;have hj2:j<aA (D.log++t):=by rw [<-et];exact hj
    have e2:D5.log[j]=(D.log++t)[j]:=by simp only [et]
    rw [e2,OZ (by omega)];exact cK _)
   have hnN:n<=aA D5.log:=by obtain⟨t,et,_⟩:=CW.o.lg;rw [et,cL];omega
   clear hn CW;have LH:=η (show aA D5.who<=100 from by have:=qx.o.inv.ie;obtain⟨C,K,_⟩:=this;have:=K.who.len;have:=K.hs.ml;omega);go_wp2_with fail
   go_loop [10,11] (λb i=>∃(j:Nat) (q:Bool),n<=j/\j<=aA D5.log/\i=ν (j:Int)/\b=bM q/\Hid (q=aO->l[k].k=7/\kA D5=0)) (λ_ i=>aA D5.log-(ag i).toNat)
   case atStart=>exact⟨n,aP,aZ _,hnN,rfl,rfl,η (λe=>by cases e)⟩
   case round=>
    obtain⟨j,q,hnj,fD,rfl,rfl,HQ⟩:=hrel;by_cases hlj:j<aA D5.log
    ·obtain⟨be,oe,kN,lO,e0,e1,e2,e3,e4⟩:=aEt OH.o hlj;subst kN;have zk:(0:Int)<=(j:Int):=by omega
     have hjb:(j:Int)<(aA D5.log:Int):=by omega
     have Kk:=η (HF.o j hlj hnj);generalize D5.log[j]=ev at*;obtain⟨ek,em,ea,en,eo⟩:=ev;simp only at e0 e1 e2 e3 e4 Kk;cases q
     ·by_cases BP:ek=15
      ·have kG:=η (λ(_:aO=aO)=>Kk.o BP);subst BP;clear Kk HQ;go_wp2_with fail
       go_round
       case rel=>exact⟨j+1,aO,by omega,by omega,by go_num,rfl,kG⟩
       case measure=>simp [ag];omega
      have aLs:(ek==15)=aP:=by simpa using BP
      clear Kk;go_wp2_with fail
      go_round
      case rel=>exact⟨j+1,aP,by omega,by omega,by go_num,rfl,HQ⟩
      case measure=>simp [ag];omega
     clear Kk;go_wp2_with fail
     go_round
     case rel=>exact⟨j+1,aO,by omega,by omega,by go_num,rfl,HQ⟩
     case measure=>simp [ag];omega
    obtain rfl:j=aA D5.log:=by omega
    clear HF OH;have Ah:Hid (uq w0 db bx x (1700*(k+1)) D5 w6):=η (by have:=qx.o;rwa [show 1700*(k+1)=1700*k+1700 by omega]);cases q
    ·clear HQ qx;go_wp2_with fail
     go_round
     case rel=>exact⟨k+1,D5,by omega,by go_num,Ah⟩
     case measure=>simp [ag];omega
    obtain⟨BS,hr⟩:=HQ.o rfl;have SR:=η (show B D5 3 0 0=0/\B D5 4 0 0=0/\∀m:Int,1<=m->m<=(aA x.ms:Int)->B D5 9 m 0=0/\(hasB D5.who m=aO->B D5 8 m 0=0) from by
     obtain⟨C,K,_⟩:=qx.o.inv.ie;have:=K.bare hr
     rwa [qx.o.ms] at this)
    clear HQ qx hr;go_wp2_with fail
    refine(aH0 Ah.o).mono ?_;rintro e w7 ⟨v7,rfl,QJ,gD⟩;obtain⟨A7,k7,rfl⟩:=bJ QJ;have pQ:=η QJ;have Nx:=η (Ah.o.below gD);have QH:aA x.ms<=20:=l1;clear QJ gD Ah;go_wp2_with fail
    go_loopw [13,14,15,16,17,18] (λs i _ _ _ _ wr=>∃m:Nat,m<=aA x.ms/\s=ν 0/\i=ν ((m:Int)+1)/\Hid (β w7 wr)) (λ_ i _ _ _ _ _=>aA x.ms+1-(ag i).toNat)
    case atStart=>exact⟨0,bL _,rfl,rfl,η (aX _ _)⟩
    case round=>
     obtain⟨m,hm,rfl,rfl,HB⟩:=hrel;have FX:=η (Nx.o.below HB.o);obtain⟨c0,c1,c2,c3,c4,c5,c6,c7,kM⟩:=eJ.o _ FX.o.bl;by_cases hlm:m<aA x.ms
     ·have aGA:(m:Int)+1<=(aA x.ms:Int):=by omega
      have aG9:(1:Int)<=(m:Int)+1:=by omega
      obtain⟨b9,b8⟩:=SR.o.2.2 ((m:Int)+1) aG9 aGA;have qE:=η b8;have C9:=η (Qr FX.o 9 ((m:Int)+1) 0 (by decide) (by unfold aL;omega));rw [b9] at C9;clear b9 b8;go_wp2_with fail
      refine C9.o.mono ?_;rintro e w8 ⟨rfl,jr⟩;have aV:=τ HB jr;have yt:=η (FX.o.below jr);have C8:=η (Qr yt.o 8 ((m:Int)+1) 0 (by decide) (by unfold aL;omega));clear jr C9 FX HB c0 c1 c2 c3 c4 c5 c6 c7 kM;go_wp2_with fail
      refine C8.o.mono ?_;rintro e w9 ⟨rfl,gF⟩;have af:=τ aV gF;have YM:=η (aGY D5.who A7 k7 ((m:Int)+1) w9 ((aW.cA pQ.o).below af.o|>.mono af.o.size) (by have:=LH.o;omega));clear gF C8 aV yt;go_wp2_with fail
      refine YM.o.mono ?_;rintro e s8 ⟨rfl,rfl⟩;clear YM;cases zj:hasB D5.who ((m:Int)+1)
      ·clear qE;go_wp2_with fail
       go_round
       case rel=>exact⟨m+1,by omega,rfl,by go_num,af⟩
       case measure=>simp [ag];omega
      have b8:=qE.o zj;rw [b8];clear b8 qE;go_wp2_with fail
      go_round
      case rel=>exact⟨m+1,by omega,rfl,by go_num,af⟩
      case measure=>simp [ag];omega
     obtain rfl:m=aA x.ms:=by omega
     obtain⟨b3,b4,-⟩:=SR.o;have C3:=η (Qr FX.o 3 0 0 (by decide) (by decide));rw [b3] at C3;clear b3 SR HB;go_wp2_with fail
     refine C3.o.mono ?_;rintro e w8 ⟨rfl,jr⟩;have yt:=η (FX.o.below jr);have C4:=η (Qr yt.o 4 0 0 (by decide) (by decide));rw [b4] at C4;clear jr C3 FX b4 c0 c1 c2 c3 c4 c5 c6 c7 kM;go_wp2_with fail
     refine C4.o.mono ?_;rintro e w9 ⟨rfl,gF⟩;have Yx:=η (yt.o.below gF);clear gF C4 yt;obtain⟨bq,oq,e1,mF,d0,d1,d2,d3,d4,d5,d6,d7,d8,d9,d10⟩:=UI (ZU.o w9 Yx.o.bl) hlt;cases e1;rw [BS] at d0;clear d1 d2 d3 d4 d5 d6 d7 d8 d9 d10;go_wp2_with fail
     go_round
     case rel=>exact⟨k+1,D5,by omega,by go_num,Yx⟩
     case measure=>simp [ag];omega
  obtain rfl:k=aA l:=by omega
  have vz:=η (cE.o _ HI.o.bl);go_wp2_with fail
  refine(UY _).mono ?_;rintro e w9 ⟨rfl,hb⟩;have sG:Hid (β w w9):=τ vz hb;clear hb;go_wp2_with fail
  go_ret;exact⟨rfl,sG.o⟩
end Go.Proofs.YtdokipdchlcmeaaGreat
namespace Go.Proofs.YtdokipdchlcmeaaGreat.loses
open Go.Proofs.Tryz
open Go.ChangeShapes Go.WideShapes Go.ChangeAt Go.RowKit
theorem contract(H:Type)(enc:bX×aN->H)(W:aJ)(base:Nat)(args:Array aN)(ds gs:List (DataW H))(before:List MemPlace)
 (hval:∀(j:Nat) t v,EI.params[j]? =aC t->args[j]? =aC v->Value.okWide aM W .any base t v)
 (hW:DataW.Whole enc aM EI.params.toList Rows.cycleLosesSpec.vars aP W args.toList ds gs before):
 aQ aM 3 args W λe W'=>∃v,e=aU v/\Rows.cycleLosesSpec.post enc aM EI aP aO aP aP W args v W':=by
 have EY:=hW;obtain⟨p,q,hA,hV,rfl,vK,vQ⟩:=hW;rw [params3] at hA hval;obtain⟨v0,vs0,d0,ds0,p0,q0,aLx,rfl,rfl,h0,r0⟩:=trodAll_cons hA;obtain⟨v1,vs1,d1,ds1,p1,q1,rfl,rfl,rfl,h1,r1⟩:=trodAll_cons r0;obtain⟨rfl,rfl,rfl⟩:=trodAll_nil r1;obtain rfl:args= #[v0,v1]:=by cases args;simp_all
 obtain⟨x0,rfl,hC0,QG,hs0,K3⟩:=aI9 (hval 0 _ v0 rfl rfl) h0;obtain⟨a1,n1,k1,rfl⟩:=okWide_slice underlying27 (hval 1 _ v1 rfl rfl);obtain⟨A1,c1,z1,e1,oD,hc1,DC,hz1⟩:=aI8 (aJK rfl h1);rw [e1] at EY ⊢;refine tT (aHA x0 z1 A1 c1 W hC0 QG hs0 K3 (cC oD hc1) (λy hy=>⟨(DC y hy).2.2.1,(DC y hy).2.2.2⟩) hz1 (λy hy=>⟨(DC y hy).1,(DC y hy).2.1⟩)) λe W' ⟨he,wW⟩=> ?_
 exact⟨_,he,aH1 Wt (by kernel_rfl) BA (by kernel_rfl) rfl EY (λGe hd=>by
  have DF:=hd
  match Ge,DF with
  | [_,_],_=>rfl) wW⟩
theorem lifted(os:Os)(started:os.Started)(H:Type)(enc:bX×aN->H):
 ReturnsInHanded {} a0B os 3 .any (Rows.cycleLosesSpec.pre6 enc aM EI Rows.cycleLosesRow.domain aP) (Rows.cycleLosesSpec.post enc aM EI aP aO aP aP):=by
 refine returnsInHanded_of_change (C:=a0B) aIb started (by kernel_rfl) Ou
  (ChangeSpec.witness6 (enc:=enc) (C:=a0B) aP ⟨#[], #[(bO #[aH aB 0 0,aH aB 0 0,aH aB 0 0,ν 0,ν 0,ν 0,ν 0,ν 0]:aN),aH aB 0 0],[]⟩ 8 (by kernel_rfl) (by kernel_rfl) (by kernel_rfl) (by kernel_rfl)) ?_
 intro W base args ds gs before hval hW _ _;exact contract H enc W base args ds gs before hval hW
theorem aCB {a b:Bool}(ha:a=aO)(hb:b=aO):(a&&b)=aO:=by rw [ha,hb];rfl
theorem facts:joinedFacts aM 3 EI Rows.cycleLosesSpec Rows.cycleLosesRow=aO:=by
 unfold joinedFacts;repeat' with_reducible refine aCB ?_ ?_
 all_goals (as_aux_lemma=>kernel_rfl)
theorem named:aM.funcNamed Rows.cycleLosesRow.func=aC 3:=by kernel_rfl
theorem inst:EI.isInstance aM Rows.cycleLosesRow.origin Rows.cycleLosesRow.targs:=of_decide_eq_true (by kernel_rfl)
theorem wrap:EI.isWrapper aM Rows.cycleLosesRow.wrapper Rows.cycleLosesRow.mainSum:=by unfold Func.isWrapper;first|(rw [ifP (by decide+kernel)];kernel_rfl)|(rw [ifN (by decide+kernel)];exact⟨rfl,rfl⟩)
theorem said:Rows.CycleLosesSaid:=
 OpenClaim.holds_of_wide 3 EI rfl rfl rfl rfl rfl rfl rfl ⟨rfl,rfl,rfl,rfl,rfl⟩ rfl rfl rfl rfl rfl named Ou facts
  inst wrap (λos started H enc _=>lifted os started H enc)
end Go.Proofs.YtdokipdchlcmeaaGreat.loses
