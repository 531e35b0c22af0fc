/-
  Several texts in one, for one claim (printed by pack.py).
-/
import Derived.WalkKit
import Derived.WalkSpells
import Derived.WalkLawsBesides
import Derived.Lib.Hide
import Derived.Deep.AppendLies
import Derived.Deep.Draws
import Derived.Deep.RegionHeld
import Derived.Deep.LoopGhost
import Derived.Test.YtdokipdchlcmeaaGreatProg
import Derived.Lib.SlicesCompact
import Derived.Sort.OwnSortedInts
import Derived.Deep.QuietTactic
import Derived.BigQuiet
import Derived.Deep.RegionHeld3
import Derived.Deep.Cut
import Derived.Shelf.Small.Bits
import Derived.Shelf.Small.Wraps
import Derived.Shelf.Strconv.Itoa0
import Derived.Shelf.Sort.Plain
import Derived.Shelf.Bits.Mul64
import Derived.Shelf.Slices.Turned
import Derived.Ground.Names2Prog
import Derived.Shelf.Slices.Clone
import Derived.Shelf.Slices.CompactI
import Derived.Shelf.Slices.SearchI
import Derived.Shelf.Slices.Cells
import Derived.Shelf.Slices.In.SortNone
import Derived.Ground.SlgnProg
import Derived.Shelf.SlicesE.Clone
import Derived.Ground.SlsfProg
import Derived.Shelf.SlSortCmp.Insertion
import Derived.Ground.GgzProg
import Derived.Shelf.SlIterI.Nil
import Derived.Laws.Bits64b
import Derived.Lib.BitFns
import Derived.Shelf.SlSortCmp.Kit1
import Derived.Sort.WalkB2
import Derived.BigRegion
set_option linter.all false
set_option maxRecDepth 100000
set_option maxHeartbeats 12800000
open Array renaming getElem?_eq_some_iff→fW
open Bool renaming true→aO,false→aP
open Go renaming World→aJ,Value→aN,Calls→aQ,Addr→aj,cell_of_row→bH,TypeId→bY,heap_alloc_new→cO,Ending→dU
open Go.Calls renaming grown_of→Fk
open Go.Ending renaming returned→aT
open Go.IntKind renaming i64→aF,wrap_i64→fZ,u64→mN,wrap_u64→ux
open Go.Lib renaming bitLen→sT,compact→sU,keeps→U4,compactUpTo→a0E
open Go.Obj renaming cells→aK
open Go.Proofs renaming intOf→ag
open Go.Proofs.Lays renaming n107→aM8,n134→aM9,n189→aMA,n264→aMB
open Go.Proofs.Lays2 renaming n15→aMC,n20→aMD
open Go.Proofs.Mul64 renaming wrapN→GQ,mulN→Oz,divN→aA5,maskN→aA6
open Go.Proofs.SlLaysE0 renaming n41→aME
open Go.Proofs.SlLaysZI renaming n6→aMF,n7→aMG
open Go.Proofs.Tryz renaming prog→aM,underlying53→mP,underlying3→xA,underlying46→yO,underlying4→BI,isAgg3→Cs,isAgg4→Ct,sizeOf3→Cu,sizeOf4→Cv,zeroValue3→Cw,zeroValue4→Cx,func205→Gb,isAgg0→Gc,ntmps205→Gd,sizeOf0→Ge,underlying0→Gf,underlying272→Gg,zeroValue0→Gi,isAgg46→Lp,sizeOf46→Lr,zeroValue46→Ls,isAgg9→PE,sizeOf9→PG,underlying9→PJ,zeroValue9→PK,func246→UW,ntmps246→Ud,isAgg237→a0n,isAgg240→a0o,sizeOf237→a1K,sizeOf240→a1L,underlying237→a1P,underlying240→a1Q,zeroValue237→a1S,zeroValue240→a1T,func277→aAx,func295→aB1,isAgg310→aBH,isAgg5→aBI,ntmps295→aBm,sizeOf310→aC6,sizeOf5→aC7,underlying310→aCA,underlying5→aCB,zeroValue310→aCD,zeroValue5→aCE
open Go.RowKit renaming Below→aa,wrap64→fS
open Go.RowKit.Below renaming refl→aX
open Go.Shelf renaming Ren→yw
open Go.Value renaming int→aG,slice→aH,tuple→bB,pointer→bF,bool→bJ,agg→bU
open Go.World renaming cell?_alloc_lt→qg
open Int renaming le_refl→dJ,le_trans→ju,natCast_ediv→ER,mul_le_mul_of_nonneg_right→La,le_of_mul_le_mul_left→a9m,lt_of_mul_lt_mul_left→a9n,mul_le_mul_of_nonneg_left→a9o
open List renaming length→aA,take_length→cT,range→dQ,mem_map→dW,take_succ_eq_append_getElem→fE,replicate→gP,getElem?_eq_getElem→iD,mem_filter→jD,mem_range→nP,mem_iff_getElem→sW,pairwise_iff_getElem→vB,flatMap_cons→wZ,pairwise_map→BG
open List.Pairwise renaming imp_of_mem→Ow,filter→aML
open Nat renaming le_refl→aZ,zero_le→bL,le_trans→bz,lt_of_lt_of_le→cP,lt_or_ge→rQ,mul_le_mul→yN,add_mul→GR,div_lt_iff_lt_mul→GV,mul_le_mul_right→GX,mod_lt→Jc,div_add_mod→Lh,lt_trans→Li,le_div_iff_mul_le→a0K,le_antisymm→aA9,le_of_lt→aAA,mul_comm→aAC
open Option renaming none→aB,some→aC
open Or renaming inl→aS,inr→aU
open True renaming intro→zT
namespace Go.Proofs.YtdokipdchlcmeaaGreat
open Go.Proofs.Tryz Go.RowKit
section
theorem aCT(a:aj)(n:Nat):(a.add n).block=a.block:=by grind [Addr.add]
theorem a1a(a:aj)(i j:Nat):(a.add i).add j=a.add (i+j):=by grind [Addr.add]
def aW(w:aJ)(B:Nat)(A:Option aj)(xs:List aN):Prop:=
 ∀j u,xs[j]? =aC u->∃b o,A=aC ⟨b,o,aB⟩/\b<B/\w.cell? ⟨b,o+j,aB⟩=aC u
section
variable {w w':aJ} {B B':Nat} {A:Option aj} {xs:List aN}
theorem aW.nil:aW w B A []:=λj u h=>by simp at h
theorem aW.keep(h:aW w B A xs)(hk:∀p:aj,p.block<B->w'.cell? p=w.cell? p):aW w' B A xs:=λj u hu=>by obtain⟨b,o,e,hb,hc⟩:=h j u hu;grind
theorem aW.below(h:aW w B A xs)(hb:aa B w w'):aW w' B A xs:=h.keep λ_ hp=>hb.cell hp
theorem aW.mono(h:aW w B A xs)(hB:B<=B'):aW w B' A xs:=λj u hu=>by obtain⟨b,o,e,hb,hc⟩:=h j u hu;grind
theorem aW.at(h:aW w B A xs) {k:Nat}(hk:k<aA xs):∃b o,A=aC ⟨b,o,aB⟩/\b<B/\w.cell? ⟨b,o+k,aB⟩=aC xs[k]:=
 h k _ (iD hk)
theorem aW.run(h:aW w B A xs) {i:Nat} {y:aN} {t:List aN}(hs:∀j u,(y::t)[j]? =aC u->xs[i+j]? =aC u):
 ∃b o,A=aC ⟨b,o,aB⟩/\b<B/\∀j u,(y::t)[j]? =aC u->w.cell? ⟨b,o+i+j,aB⟩=aC u:=by
 obtain⟨b,o,e,hb,_⟩:=h (i+0) y (hs 0 y (by simp));refine⟨b,o,e,hb,λj u hu=> ?_⟩;obtain⟨b',o',e',_,hc⟩:=h (i+j) u (hs j u hu);grind
theorem aW.cA {base:Nat} {e:bY} {size n c:Nat}(h:w.ownsRow base e size (aH A n c) n xs):aW w w.heap.size A xs:=by
 intro j u hu;have hn:0<n:=by
  rcases Nat.eq_zero_or_pos n with h0|h0
  ·have h1:=h.1;grind
  exact h0
 obtain⟨g,cap,hv,_,hlt⟩:=h.form hn;have hA:A=aC ⟨g,0,aB⟩:=by injection hv
 subst hA;refine⟨g,0,rfl,hlt, ?_⟩;have hc:=h.cells (g:=g) rfl j u hu;grind [Addr.add]
end
theorem uP {α:Type}(f:α->List aN)(n:Nat)(hf:∀a,aA (f a)=n):∀(l:List α) (k:Nat) (hk:k<aA l) (j:Nat) (u:aN),(f l[k])[j]? =aC u->(l.flatMap f)[k*n+j]? =aC u
 | [],_,hk,_,_,_=>absurd hk (by simp)
 |a::l,0,_,j,u,h=>by grind
 |a::l,k+1,hk,j,u,h=>by
  have e:(k+1)*n+j=n+(k*n+j):=by grind
  rw [wZ,e,List.getElem?_append_right (by rw [hf];omega),hf,Nat.add_sub_cancel_left];exact uP f n hf l k (by simpa using hk) j u h
theorem below_drewN {B:Nat} {a w:aJ}(h:aa B a w)(n:Nat):aa B a (w.drewN n):=⟨h.os,h.tape,h.output,h.size,h.block⟩
theorem ez {W w1:aJ}(hb:aa W.heap.size W w1):(∀b o,b<W.heap.size->w1.cell? ⟨b,o,aB⟩=W.cell? ⟨b,o,aB⟩)/\(∀b o,b<W.heap.size->w1.frozen? ⟨b,o,aB⟩=W.frozen? ⟨b,o,aB⟩):=
 ⟨λb o h=>hb.cell (p:=⟨b,o,aB⟩) h,λb o h=>hb.frozen (p:=⟨b,o,aB⟩) h⟩
theorem cL(w:aJ)(cs:Array aN)(t:bY) {b:Nat}(j:Nat)(hb:b=w.heap.size):(w.alloc (aK cs t)).cell? ⟨b,j,aB⟩=cs[j]? :=by subst hb;exact bH _ _ _ cs t (0,0) (cO w _)
theorem BM(w:aJ)(o:Obj) {b:Nat}(j:Nat)(hb:b<w.heap.size):(w.alloc o).cell? ⟨b,j,aB⟩=w.cell? ⟨b,j,aB⟩:=qg _ _ _ hb
section
variable {w:aJ} {base:Nat} {e:bY} {size n:Nat} {v:aN} {xs:List aN}
theorem bK(h:w.ownsRow base e size v n xs):∃A c,v=aH A n c:=by
 rcases h.2 with⟨rfl,rfl⟩|⟨g,cap,cur,rfl,_⟩
 ·grind
 exact⟨_,_,rfl⟩
theorem eT(h:w.ownsRow base e size v n xs):∀k,v.ownBlock=aC k->base<=k:=λk hk=>(h.lt k hk).1
end
theorem Mg(w:aJ)(o:Obj) {b:Nat}(hb:b=w.heap.size):(w.alloc o).heap[b]? =aC o:=by subst hb;exact cO w o
theorem fF(w:aJ)(o:Obj) {b:Nat}(hb:b<w.heap.size):(w.alloc o).heap[b]? =w.heap[b]? :=Below.heap_alloc w o b hb
theorem dN(w:aJ)(t:bY)(cs:Array aN) {b:Nat}(hb:b=w.heap.size):∀j u,cs.toList[j]? =aC u->(w.alloc (aK cs t)).cell? ((⟨b,0,aB⟩:aj).add j)=aC u:=by grind [Addr.add,cL]
theorem xh {k:IntKind} {a:Int}:∀u∈ [aG k a],u.oneCell'=aO:=by intro u hu;simp at hu;subst hu;rfl
theorem Dm(w:aJ)(e:bY)(size:Nat):(w.alloc (aK #[] e)).ownsRow w.heap.size e size (aH (aC ⟨w.heap.size,0,aB⟩) 0 0) 0 []:=
 ⟨by simp,Or.inr ⟨w.heap.size,0, #[],rfl,aZ _,cO w _,aZ _,bL _,by simp,by simp⟩⟩
theorem Ds {P:Program} {t e:bY}(h:P.underlying t=aC (.slice e))(w:aJ)(a:Option aj)(n c:Nat):(binOp .eql t (.slice a n c) (.slice aB 0 0)).run P w= .ok (.bool a.isNone) w:=by
 have hd:∀d:Nat,(Op.equalIn (d+1) t (.slice a n c) (.slice aB 0 0)).run P w= .ok a.isNone w:=λd=>by cases a<;>simp [Op.equalIn,run_underlying h]
 simp only [binOp];simp [Op.equal,Op.maxDepth,hd 9999]
end
section
universe u
theorem _root_.Go.RowKit.Hid.o {p:Prop}(h:Hid p):p:=h
theorem _root_.Go.Shut.o {p:Prop}(h:Shut p):p:=h
theorem _root_.Go.Aside.o {p:Prop}(h:Aside p):p:=h
abbrev ν(n:Int):aN:=aG aF n
abbrev π(b:Nat):aN:=bF (aC ⟨b,0,aB⟩)
abbrev β(w w':aJ):Prop:=aa w.heap.size w w'
theorem η {p:Prop}(h:p):Hid p:=h
theorem τ {w w1 w2:aJ}(h:Hid (aa w.heap.size w w1))(g:aa w1.heap.size w1 w2):Hid (aa w.heap.size w w2):=h.o.trans (g.mono h.o.size)
theorem σ {w:aJ} {o:Obj}:aa w.heap.size w (w.alloc o):=(aX _ _).alloc (aZ _) o
theorem ρ {w:aJ} {k i:Nat} {cs:Array aN} {t:bY}(h:w.heap[k]? =aC (aK cs t (0,0))):w.cell? ⟨k,i,aB⟩=cs[i]? :=bH _ _ _ _ _ _ h
theorem r1c {w:aJ} {b:Nat} {t:bY} {x0:aN} {l:List aN}(h:Hid (w.heap[b]? =aC (aK ⟨x0::l⟩ t (0,0)))):w.cell? ⟨b,0,aB⟩=aC x0:=bH _ _ _ _ _ (0,0) h
theorem Nd {w:aJ} {b:Nat} {t:bY} {x0 x1 x2:aN} {l:List aN}(h:Hid (w.heap[b]? =aC (aK ⟨x0::x1::x2::l⟩ t (0,0)))):w.cell? ⟨b,0,aB⟩=aC x0/\w.cell? ⟨b,1,aB⟩=aC x1/\w.cell? ⟨b,2,aB⟩=aC x2:=⟨bH _ _ _ _ _ (0,0) h,bH _ _ _ _ _ (0,0) h,bH _ _ _ _ _ (0,0) h⟩
theorem Rk {w:aJ} {b:Nat} {t:bY} {x0 x1 x2 x3:aN} {l:List aN}(h:Hid (w.heap[b]? =aC (aK ⟨x0::x1::x2::x3::l⟩ t (0,0)))):w.cell? ⟨b,0,aB⟩=aC x0/\w.cell? ⟨b,1,aB⟩=aC x1/\w.cell? ⟨b,2,aB⟩=aC x2/\w.cell? ⟨b,3,aB⟩=aC x3:=⟨bH _ _ _ _ _ (0,0) h,bH _ _ _ _ _ (0,0) h,bH _ _ _ _ _ (0,0) h,bH _ _ _ _ _ (0,0) h⟩
theorem r5c {w:aJ} {b:Nat} {t:bY} {x0 x1 x2 x3 x4:aN} {l:List aN}(h:Hid (w.heap[b]? =aC (aK ⟨x0::x1::x2::x3::x4::l⟩ t (0,0)))):w.cell? ⟨b,0,aB⟩=aC x0/\w.cell? ⟨b,1,aB⟩=aC x1/\w.cell? ⟨b,2,aB⟩=aC x2/\w.cell? ⟨b,3,aB⟩=aC x3/\w.cell? ⟨b,4,aB⟩=aC x4:=⟨bH _ _ _ _ _ (0,0) h,bH _ _ _ _ _ (0,0) h,bH _ _ _ _ _ (0,0) h,bH _ _ _ _ _ (0,0) h,bH _ _ _ _ _ (0,0) h⟩
theorem ifN {c:Prop} {h:Decidable c}(xS:¬c) {α:Sort u} {t e:α}:ite c t e=e:=by simp [xS]
theorem ifP {c:Prop} {h:Decidable c}(hc:c) {α:Sort u} {t e:α}:ite c t e=t:=by simp [hc]
theorem κ {P:Program} {f:FuncId} {vs:Array aN} {w0 w:aJ} {v:dU} {Q:dU->aJ->Prop}(c:aQ P f vs w λe w'=>e=v/\aa w.heap.size w w')(h:Hid (aa w0.heap.size w0 w))(k:∀w',Hid (aa w0.heap.size w0 w')->Q v w'):aQ P f vs w Q:=
 c.mono λ_ w' ⟨he,hb⟩=>by subst he;exact k w' (h.o.trans (hb.mono h.o.size))
theorem mG {P:Program} {f:FuncId} {vs:Array aN} {w:aJ} {v:dU} {Q:dU->aJ->Prop}(c:aQ P f vs w λe w'=>e=v/\aa w.heap.size w w')(k:∀w',Hid (aa w.heap.size w w')->Q v w'):aQ P f vs w Q:=
 c.mono λ_ w' ⟨he,hb⟩=>by subst he;exact k w' hb
theorem xq {α:Sort u}(a:α):∃b,b=a:=⟨_,rfl⟩
theorem xr {α:Sort u}(a:α):∃b,Hid (a=b):=⟨_,rfl⟩
abbrev ξ(b i:Nat):aN:=bF (aC ⟨b,i,aB⟩)
end
def aL(x:Int):Prop:= -9223372036854775808<=x/\x<=9223372036854775807
instance(x:Int):Decidable (aL x):=inferInstanceAs (Decidable (_/\_))
def gQ(x:Int):Int:=if aL x then x else 0
def dM(x:Int):Int:=if aL x then 0 else 2
theorem eA {x:Int}(h:aL x):gQ x=x/\dM x=0:=by simp [gQ,dM,h]
theorem gp {x:Int}(h:¬aL x):gQ x=0/\dM x=2:=by simp [gQ,dM,h]
theorem Um(x:Int):aL (gQ x):=by grind [gQ,aL]
theorem nH {k:IntKind} {a b c d:Int}(h:a=c)(h':b=d):
 aT (bB #[aG k a,aG k b])=aT (bB #[aG k c,aG k d]):=by rw [h,h']
structure Pr where
 a:Int
 b:Int
def Pr.cells(x:Pr):List aN:= [aG aF x.a,aG aF x.b]
def jY(l:List Pr):List aN:=l.flatMap Pr.cells
structure Cy where
 a:Int
 b:Int
 c:Int
 d:Int
def Cy.cells(x:Cy):List aN:= [aG aF x.a,aG aF x.b,aG aF x.c,aG aF x.d]
def uM(l:List Cy):List aN:=l.flatMap Cy.cells
theorem FX {w:aJ} {B:Nat} {A:Option aj} {l:List Pr}(h:aW w B A (jY l)) {k:Nat}(hk:k<aA l):
 ∃b o,A=aC ⟨b,o,aB⟩/\b<B/\w.cell? ⟨b,o+k*2,aB⟩=aC (ν l[k].a)/\w.cell? ⟨b,o+k*2+1,aB⟩=aC (ν l[k].b):=by
 obtain⟨b,o,e,hb,hc⟩:=h.run (i:=k*2) (y:=ν l[k].a) (t:= [ν l[k].b]) (λj u hu=>uP Pr.cells 2 (λ_=>rfl) l k hk j u hu);exact⟨b,o,e,hb,hc 0 _ rfl,hc 1 _ rfl⟩
theorem a2W {w:aJ} {B:Nat} {A:Option aj} {l:List Cy}(h:aW w B A (uM l)) {k:Nat}(hk:k<aA l):
 ∃b o,A=aC ⟨b,o,aB⟩/\b<B/\w.cell? ⟨b,o+k*4,aB⟩=aC (ν l[k].a)/\w.cell? ⟨b,o+k*4+1,aB⟩=aC (ν l[k].b)/\w.cell? ⟨b,o+k*4+2,aB⟩=aC (ν l[k].c)/\w.cell? ⟨b,o+k*4+3,aB⟩=aC (ν l[k].d):=by
 obtain⟨b,o,e,hb,hc⟩:=h.run (i:=k*4) (y:=ν l[k].a) (t:= [ν l[k].b,ν l[k].c,ν l[k].d]) (λj u hu=>uP Cy.cells 4 (λ_=>rfl) l k hk j u hu);exact⟨b,o,e,hb,hc 0 _ rfl,hc 1 _ rfl,hc 2 _ rfl,hc 3 _ rfl⟩
structure ak where
 ms:List Pr
 Am:Option aj
 cm:Nat
 ss:List Pr
 As:Option aj
 cs:Nat
 cy:List Cy
 Ac:Option aj
 cc:Nat
 line:Int
 bV:Int
 lead:Int
 tr:Int
 bQ:Int
def ak.vals(x:ak):Array aN:= #[aH x.Am (aA x.ms) x.cm,aH x.As (aA x.ss) x.cs,aH x.Ac (aA x.cy) x.cc,aG aF x.line,aG aF x.bV,aG aF x.lead,aG aF x.tr,aG aF x.bQ]
def ak.val(x:ak):aN:=bU #[aH x.Am (aA x.ms) x.cm,aH x.As (aA x.ss) x.cs,aH x.Ac (aA x.cy) x.cc,aG aF x.line,aG aF x.bV,aG aF x.lead,aG aF x.tr,aG aF x.bQ]
structure lX(w:aJ)(x:ak):Prop where
 m:aW w w.heap.size x.Am (jY x.ms)
 s:aW w w.heap.size x.As (jY x.ss)
 c:aW w w.heap.size x.Ac (uM x.cy)
theorem lX.below {w w':aJ} {x:ak}(h:lX w x)(hb:aa w.heap.size w w'):lX w' x:=⟨(h.m.below hb).mono hb.size,(h.s.below hb).mono hb.size,(h.c.below hb).mono hb.size⟩
structure pX(w:aJ)(bx:Nat)(x:ak):Prop where
 c0:w.cell? ⟨bx,0,aB⟩=aC (aH x.Am (aA x.ms) x.cm)
 c1:w.cell? ⟨bx,1,aB⟩=aC (aH x.As (aA x.ss) x.cs)
 c2:w.cell? ⟨bx,2,aB⟩=aC (aH x.Ac (aA x.cy) x.cc)
 c3:w.cell? ⟨bx,3,aB⟩=aC (ν x.line)
 c4:w.cell? ⟨bx,4,aB⟩=aC (ν x.bV)
 c5:w.cell? ⟨bx,5,aB⟩=aC (ν x.lead)
 c6:w.cell? ⟨bx,6,aB⟩=aC (ν x.tr)
 c7:w.cell? ⟨bx,7,aB⟩=aC (ν x.bQ)
 lt:bx<w.heap.size
theorem zg(w:aJ)(x:ak):pX (w.alloc (aK #[aH x.Am (aA x.ms) x.cm,aH x.As (aA x.ss) x.cs,aH x.Ac (aA x.cy) x.cc,aG aF x.line,aG aF x.bV,aG aF x.lead,aG aF x.tr,aG aF x.bQ] 26)) w.heap.size x:=
 ⟨cL _ _ _ 0 rfl,cL _ _ _ 1 rfl,cL _ _ _ 2 rfl,cL _ _ _ 3 rfl,cL _ _ _ 4 rfl,cL _ _ _ 5 rfl,cL _ _ _ 6 rfl,cL _ _ _ 7 rfl,by simp⟩
theorem pX.below {w w':aJ} {bx:Nat} {x:ak}(h:pX w bx x)(hb:aa w.heap.size w w'):pX w' bx x:=
 have k:=λo=>hb.cell (p:=⟨bx,o,aB⟩) h.lt
 ⟨(k 0).trans h.c0,(k 1).trans h.c1,(k 2).trans h.c2,(k 3).trans h.c3,(k 4).trans h.c4,(k 5).trans h.c5,(k 6).trans h.c6,(k 7).trans h.c7,cP h.lt hb.size⟩
theorem mQ(w:aJ)(x:ak):aa w.heap.size w (w.alloc (aK #[aH x.Am (aA x.ms) x.cm,aH x.As (aA x.ss) x.cs,aH x.Ac (aA x.cy) x.cc,aG aF x.line,aG aF x.bV,aG aF x.lead,aG aF x.tr,aG aF x.bQ] 26)):=(aX _ _).alloc (aZ _) _
structure En where
 k:Int
 m:Int
 a:Int
 n:Int
def En.cells(x:En):List aN:= [aG aF x.k,aG aF x.m,aG aF x.a,aG aF x.n]
def qm(l:List En):List aN:=l.flatMap En.cells
def En.spot(x:En):Int×Int×Int:=(x.k,x.m,x.a)
structure En.ok(x:En):Prop where
 k:aL x.k
 m:aL x.m
 a:aL x.a
 n:aL x.n
theorem VM {w:aJ} {B:Nat} {A:Option aj} {l:List En}(h:aW w B A (qm l)) {k:Nat}(hk:k<aA l):
 ∃b o,A=aC ⟨b,o,aB⟩/\b<B/\w.cell? ⟨b,o+k*4,aB⟩=aC (ν l[k].k)/\w.cell? ⟨b,o+k*4+1,aB⟩=aC (ν l[k].m)/\w.cell? ⟨b,o+k*4+2,aB⟩=aC (ν l[k].a)/\w.cell? ⟨b,o+k*4+3,aB⟩=aC (ν l[k].n):=by
 obtain⟨b,o,e,hb,hc⟩:=h.run (i:=k*4) (y:=ν l[k].k) (t:= [ν l[k].m,ν l[k].a,ν l[k].n]) (λj u hu=>uP En.cells 4 (λ_=>rfl) l k hk j u hu);exact⟨b,o,e,hb,hc 0 _ rfl,hc 1 _ rfl,hc 2 _ rfl,hc 3 _ rfl⟩
def gu(l:List En)(q:Int×Int×Int):List Int:=(l.filter λx=>x.spot==q).map En.n
def gq(l:List En)(i:Nat):List Int:=(l.filter λx=>x.a==(i:Int)).map En.n
theorem a1z(l:List En)(x:En)(q:Int×Int×Int):gu (l++ [x]) q=if q=x.spot then gu l q++ [x.n] else gu l q:=by grind [gu]
theorem a1w(l:List En)(x:En)(i:Nat):gq (l++ [x]) i=if x.a=(i:Int) then gq l i++ [x.n] else gq l i:=by grind [gq]
theorem a1y(l:List En)(q:Int×Int×Int):aA (gu l q)<=aA l:=by grind [gu]
theorem Uv(l:List En)(i:Nat):aA (gq l i)<=aA l:=by grind [gq]
def ordF:List En->List En->List (Int×Int×Int)
 |_,[]=> []
 |pre,x::l=>(if (gu pre x.spot).isEmpty then [x.spot] else [])++ordF (pre++ [x]) l
def dB(l:List En):List (Int×Int×Int):=ordF [] l
theorem a6D:∀(pre l:List En) (x:En),ordF pre (l++ [x])=ordF pre l++(if (gu (pre++l) x.spot).isEmpty then [x.spot] else [])
 |pre,[],x=>by simp [ordF]
 |pre,y::l,x=>by rw [List.cons_append,ordF,ordF,a6D (pre++ [y]) l x,List.append_assoc,List.append_assoc];rfl
theorem RZ(l:List En)(x:En):dB (l++ [x])=dB l++(if (gu l x.spot).isEmpty then [x.spot] else []):=by grind [dB,a6D]
theorem RY:∀(pre l:List En),aA (ordF pre l)<=aA l
 |_,[]=>by simp [ordF]
 |pre,x::l=>by have:=RY (pre++ [x]) l;grind [ordF]
def Nk(q:Int×Int×Int):List aN:= [aG aF q.1,aG aF q.2.1,aG aF q.2.2]
def Ik(l:List (Int×Int×Int)):List aN:=l.flatMap Nk
theorem aKi(l:List (Int×Int×Int))(q:Int×Int×Int):Ik (l++ [q])=Ik l++Nk q:=by simp [Ik]
theorem ML(zs:List Int) {j:Nat}(hj:j<aA zs):zs.toArray[j]! =zs[j]:=by simp [hj]
theorem aHt(zs:List Int)(x:Int):x∈sU zs↔x∈zs:=by
 unfold sU a0E;rw [dW];constructor
 ·grind
 intro hx;obtain⟨j,hj,rfl⟩:=sW.1 hx;clear hx;induction j using Nat.strongRecOn with
 |_ j ih=>
  by_cases hk:U4 zs.toArray j=aO
  ·exact⟨j,jD.2 ⟨nP.2 hj,hk⟩,ML zs hj⟩
  grind [U4]
theorem aEB(zs:List Int)(h:zs.Pairwise (· <= ·)):(sU zs).Pairwise (· < ·):=by
 unfold sU a0E;rw [BG];have hr:((dQ (aA zs)).filter (U4 zs.toArray)).Pairwise (· < ·):=aML _ List.pairwise_lt_range;refine Ow (λ{a b} ha hb hab=> ?_) hr;have hb1:=nP.1 (jD.1 hb).1;have hk:=(jD.1 hb).2;simp only [U4,decide_eq_true_eq] at hk;have ha1:a<aA zs:=by omega
 have hb2:b-1<aA zs:=by omega
 rcases hk with hk|hk
 ·omega
 rw [ML zs hb1,ML zs hb2] at hk;rw [ML zs ha1,ML zs hb1];have h1:zs[a]<=zs[b-1]:=by
  rcases rQ a (b-1) with h2|h2
  ·grind [vB]
  grind
 have h2:zs[b-1]<=zs[b]:=vB.1 h (b-1) b hb2 hb1 (by omega);omega
theorem aEA(zs:List Int):aA (sU zs)<=aA zs:=by grind [sU,a0E]
def qx(zs:List Int):List Int:=sU (zs.mergeSort λx y=>decide (x<=y))
theorem RV(zs:List Int)(x:Int):x∈qx zs↔x∈zs:=by grind [qx,aHt,List.mem_mergeSort]
theorem a6B(zs:List Int):(qx zs).Pairwise (· < ·):=by refine aEB _ ?_;grind [List.pairwise_mergeSort]
theorem RX:qx []= []:=by unfold qx;rw [List.mergeSort_nil];rfl
section
open Go.Sort
theorem cW {k:IntKind} {a b:Int}(h:a=b):aT (aG k a)=aT (aG k b):=by rw [h]
theorem fQ {a b:Bool}(h:a=b):aT (bJ a)=aT (bJ b):=by rw [h]
theorem tP {w:aJ} {B:Nat} {A:Option aj} {zs:List Int}(h:aW w B A (zs.map (aG aF))) {k:Nat}(hk:k<aA zs):∃b o,A=aC ⟨b,o,aB⟩/\b<B/\w.cell? ⟨b,o+k,aB⟩=aC (aG aF zs[k]):=by obtain⟨b,o,e,hb,hc⟩:=h.at (k:=k) (by simpa using hk);grind
theorem Y1 {w:aJ} {B b o:Nat} {zs:List Int}(h:aW w B (aC ⟨b,o,aB⟩) (zs.map (aG aF))):∀j,j<aA zs->w.cell? ⟨b,o+j,aB⟩=aC (aG aF (zs.getD j 0)):=λj hj=>by grind [tP]
theorem RF:(aM.info? 3).map (λi=>(i.zero,i.size,i.bytes))=aC (aC (aG aF 0),1,8):=by kernel_rfl
theorem aEM(m:Int) {l:List Int} {k:Nat}(hk:k<aA l):(l.take (k+1)).contains m=((l.take k).contains m||l[k]==m):=by grind [fE]
theorem zW {α:Type}(p:α->Bool) {l:List α} {k:Nat}(hk:k<aA l):(l.take (k+1)).any p=((l.take k).any p||p l[k]):=by grind [fE]
theorem Py {α:Type}(p:α->Bool) {l:List α} {k:Nat}(hk:k<aA l):(l.take (k+1)).filter p=(l.take k).filter p++(if p l[k] then [l[k]] else []):=by grind [fE]
theorem Px {α:Type}(p:α->Bool)(l:List α)(k:Nat):aA ((l.take k).filter p)<=k:=by grind
def hasB(zs:List Int)(m:Int):Bool:=zs.contains m
def Yx(w:aJ)(zs:List Int)(e:dU)(w':aJ):Prop:=∃A c,e=aT (aH A (aA zs) c)/\aW w' w'.heap.size A (zs.map (aG aF))/\aa w.heap.size w w'
theorem iB {w:aJ} {base base':Nat} {e:bY} {size n:Nat} {v:aN} {xs:List aN}(h:w.ownsRow base e size v n xs)(hb:base'<=base):w.ownsRow base' e size v n xs:=by
 rcases h.2 with⟨rfl,rfl⟩|⟨g,cap,cur,rfl,hg,hh,xS,hcm,hcs,II⟩
 ·exact⟨h.1,aS ⟨rfl,rfl⟩⟩
 exact⟨h.1,Or.inr ⟨g,cap,cur,rfl,bz hb hg,hh,xS,hcm,hcs,II⟩⟩
theorem aJ7 {w:aJ} {base g cap n k:Nat} {e:bY} {xs:List aN}(h:w.ownsRow base e 1 (aH (aC ⟨g,0,aB⟩) n cap) n xs)(hk:k<=n):w.ownsRow base e 1 (aH (aC ⟨g,0,aB⟩) k cap) k (xs.take k):=by
 have hl:aA xs=n:=by simpa using h.1
 rcases h.2 with⟨h0,_⟩|⟨g',cap',cur,hv,hg,hh,xS,hcm,hcs,II⟩
 ·cases h0
 injection hv with e1 e2 e3;injection e1 with e1;injection e1 with e1 _;subst e1 e3;refine⟨by simp;omega,Or.inr ⟨g,cap,cur,rfl,hg,hh,by omega,hcm,hcs, ?_⟩⟩;grind
theorem a7W {w w':aJ} {base g cap n:Nat} {os:Array Obj} {zs:List Int}(h:w.ownsRow base 3 1 (aH (aC ⟨g,0,aB⟩) (aA zs) cap) (aA zs) (zs.map (aG aF))) {ts:List Int}(hl:aA ts=aA zs)(hw:w'=grow (putRow (aG aF) (Sort.ahead w n) g 0 ts.toArray) os):
 w'.ownsRow base 3 1 (aH (aC ⟨g,0,aB⟩) (aA zs) cap) (aA zs) (ts.map (aG aF))/\w.grownBy w' (aC g):=by
 rcases h.2 with⟨h0,_⟩|⟨g',cap',cur,hv,hg,hh,xS,hcm,hcs,II⟩
 ·cases h0
 injection hv with e1 e2 e3;injection e1 with e1;injection e1 with e1 _;subst e1 e3 hw;exact⟨ownsRow_sortedI hl hg hh xS hcm hcs,grownBy_sortedI _⟩
theorem a6K {w:aJ} {base g cap:Nat} {zs:List Int}(h:w.ownsRow base 3 1 (aH (aC ⟨g,0,aB⟩) (aA zs) cap) (aA zs) (zs.map (aG aF))):Holds (aG aF) w g 0 zs.toArray/\g<w.heap.size/\aA zs<=cap:=by
 rcases h.2 with⟨h0,_⟩|⟨g',cap',cur,hv,hg,hh,xS,hcm,hcs,II⟩
 ·cases h0
 injection hv with e1 e2 e3;injection e1 with e1;injection e1 with e1 _;subst e1 e3;exact⟨holds_of_blockI hh (by simpa using II),(fW.1 hh).1,xS⟩
theorem Y2 {w:aJ} {base n:Nat} {v:aN} {zs:List Int}(h:w.ownsRow base 3 1 v (aA zs) (zs.map (aG aF)))(hn:aA zs=n):∃A c,v=aH A n c/\aW w w.heap.size A (zs.map (aG aF)):=by grind [bK,aW.cA]
end
def Bq(k:Int):Int:=if k=7 then 0 else if k=8 then 1 else if k=9 then 2 else-1
def jn(M:Nat)(k m:Int):Option Nat:=
 if 1<=k/\k<=6/\m=0 then aC (k-1).toNat else if 7<=k/\k<=9/\1<=m/\m<=(M:Int) then aC (6+3*(m-1)+(k-7)).toNat else aB
def numV(o:Option Nat):Int:=match o with|some n=>n|none=>0
def oN(o:Option Nat):Int:=match o with|some _=>0|none=>8
def tH(k:Int):Bool:=k==5||k==6||k==7
theorem a5q {M:Nat} {k m:Int} {n:Nat}(h:jn M k m=aC n):n<6+3*M:=by grind [jn]
theorem DA(M:Nat)(hM:M<=16)(w:aJ):aQ aM 203 #[aG aF (M:Int)] w λe w'=>e=aT (bJ aO)/\w=w':=by
 have hb:(M:Int)<=16:=by omega
 go_enter func203,ntmps203
 go_wp2
 go_ret;exact⟨fQ (by simpa using hb),rfl⟩
theorem a2B(M:Nat)(hM:M<=16)(w:aJ):aQ aM 146 #[aG aF (M:Int)] w λe w'=>e=aT (aG aF (((6+3*M:Nat)):Int))/\w=w':=by
 go_enter func146,ntmps146
 go_wp2_with (go_at_call 203;refine(DA M hM _).mono ?_;rintro e w1 ⟨rfl,rfl⟩)
 go_ret;exact⟨cW (by simp),rfl⟩
theorem Jq(k:Int)(w:aJ):aQ aM 246 #[aG aF k] w λe w'=>e=aT (aG aF (Bq k))/\w=w':=by
 by_cases h7:k=7
 ·subst h7;go_enter UW,Ud
  go_wp2
  go_ret;exact⟨rfl,rfl⟩
 by_cases h8:k=8
 ·subst h8;go_enter UW,Ud
  go_wp2
  go_ret;exact⟨rfl,rfl⟩
 by_cases h9:k=9
 ·subst h9;go_enter UW,Ud
  go_wp2
  go_ret;exact⟨rfl,rfl⟩
 have e:Bq k= -1:=by grind [Bq]
 rw [e];have b7:(k==7)=aP:=by simpa using h7
 have b8:(k==8)=aP:=by simpa using h8
 have b9:(k==9)=aP:=by simpa using h9
 go_enter UW,Ud
 go_wp2
 go_ret;exact⟨rfl,rfl⟩
theorem Pf(k m:Int)(w:aJ):aQ aM 112 #[bU #[aG aF k,aG aF m]] w λe w'=>e=aT (bJ (tH k))/\aa w.heap.size w w':=by
 go_enter func112,ntmps112
 go_wp2
 all_goals
  go_ret;refine⟨fQ ?_,(aX _ _).alloc (aZ _) _⟩;simp_all [tH]
theorem aE8(M:Nat)(hM:M<=16)(k m:Int)(hk:aL k)(hm:aL m)(w:aJ):aQ aM 205 #[aG aF (M:Int),bU #[aG aF k,aG aF m]] w λe w'=>e=aT (bB #[aG aF (numV (jn M k m)),aG aF (oN (jn M k m))])/\aa w.heap.size w w':=by
 unfold aL at hk hm;by_cases h1:1<=k/\k<=6
 ·have hp:Bq k= -1:=by grind [Bq]
  by_cases h0:m=0
  ·subst h0;have e:jn M k 0=aC (k-1).toNat:=by grind [jn]
   rw [e];obtain⟨h1,h2⟩:=h1;go_enter Gb,Gd
   go_wp2_with (first|(go_at_call 203;refine(DA M hM _).mono ?_;rintro e w1 ⟨rfl,rfl⟩)|(go_at_call 246;refine(Jq _ _).mono ?_;rw [hp];rintro e w1 ⟨rfl,rfl⟩))
   go_ret2;exact⟨nH (by simp [numV];omega) rfl,(aX _ _).alloc (aZ _) _⟩
  have e:jn M k m=aB:=by grind [jn]
  rw [e];obtain⟨h1,h2⟩:=h1;have b0:(m==0)=aP:=by simpa using h0
  go_enter Gb,Gd
  go_wp2_with (first|(go_at_call 203;refine(DA M hM _).mono ?_;rintro e w1 ⟨rfl,rfl⟩)|(go_at_call 246;refine(Jq _ _).mono ?_;rw [hp];rintro e w1 ⟨rfl,rfl⟩))
  go_ret2;exact⟨rfl,(aX _ _).alloc (aZ _) _⟩
 by_cases h7:7<=k/\k<=9
 ·have hp:Bq k=k-7:=by
   grind [Bq]
  obtain⟨p,FB⟩:∃p,p=Bq k:=⟨_,rfl⟩;have HP:=η (λW=>Jq k W);rw [<-FB] at HP;have gW:0<=p:=by omega
  have jV:p<=2:=by omega
  have hpn:(p== -1)=aP:=by grind
  by_cases mR:1<=m/\m<=(M:Int)
  ·have e:jn M k m=aC (6+3*(m-1)+(k-7)).toNat:=by grind [jn]
   rw [e];have HQ:Hid (numV (aC (6+3*(m-1)+(k-7)).toNat)=6+3*(m-1)+p):=η (by simp [numV];omega);obtain⟨tK,xR⟩:=mR;clear hp FB h1 h7 e;go_enter Gb,Gd
   go_wp2_with (first|(go_at_call 203;refine(DA M hM _).mono ?_;rintro e w1 ⟨rfl,rfl⟩)|(go_at_call 246;refine(HP.o _).mono ?_;rintro e w1 ⟨rfl,rfl⟩))
   go_ret2;exact⟨nH (by rw [HQ.o]) rfl,(aX _ _).alloc (aZ _) _⟩
  have e:jn M k m=aB:=by grind [jn]
  rw [e];clear hp FB h1 h7 e;by_cases tK:1<=m
  ·have xR:¬m<=(M:Int):=by omega
   clear mR;go_enter Gb,Gd
   go_wp2_with (first|(go_at_call 203;refine(DA M hM _).mono ?_;rintro e w1 ⟨rfl,rfl⟩)|(go_at_call 246;refine(HP.o _).mono ?_;rintro e w1 ⟨rfl,rfl⟩))
   go_ret2;exact⟨rfl,(aX _ _).alloc (aZ _) _⟩
  clear mR;go_enter Gb,Gd
  go_wp2_with (first|(go_at_call 203;refine(DA M hM _).mono ?_;rintro e w1 ⟨rfl,rfl⟩)|(go_at_call 246;refine(HP.o _).mono ?_;rintro e w1 ⟨rfl,rfl⟩))
  go_ret2;exact⟨rfl,(aX _ _).alloc (aZ _) _⟩
 have hp:Bq k= -1:=by grind [Bq]
 have e:jn M k m=aB:=by grind [jn]
 rw [e];by_cases h0:m=0
 ·subst h0;by_cases zw:1<=k
  ·have hk6:¬k<=6:=by omega
   clear h1 h7 e;go_enter Gb,Gd
   go_wp2_with (first|(go_at_call 203;refine(DA M hM _).mono ?_;rintro e w1 ⟨rfl,rfl⟩)|(go_at_call 246;refine(Jq _ _).mono ?_;rw [hp];rintro e w1 ⟨rfl,rfl⟩))
   go_ret2;exact⟨rfl,(aX _ _).alloc (aZ _) _⟩
  clear h1 h7 e;go_enter Gb,Gd
  go_wp2_with (first|(go_at_call 203;refine(DA M hM _).mono ?_;rintro e w1 ⟨rfl,rfl⟩)|(go_at_call 246;refine(Jq _ _).mono ?_;rw [hp];rintro e w1 ⟨rfl,rfl⟩))
  go_ret2;exact⟨rfl,(aX _ _).alloc (aZ _) _⟩
 have b0:(m==0)=aP:=by simpa using h0
 clear h1 h7 e;go_enter Gb,Gd
 go_wp2_with (first|(go_at_call 203;refine(DA M hM _).mono ?_;rintro e w1 ⟨rfl,rfl⟩)|(go_at_call 246;refine(Jq _ _).mono ?_;rw [hp];rintro e w1 ⟨rfl,rfl⟩))
 go_ret2;exact⟨rfl,(aX _ _).alloc (aZ _) _⟩
structure rB(B:Nat)(w:aJ) where
 wd:aJ
 h:aa B w wd
instance(B:Nat)(w:aJ):Nonempty (rB B w):=⟨⟨w,aX _ _⟩⟩
theorem Nw {P:Program} {id:Nat} {Q:Exit->Act->aJ->Prop} {a:Act} {w:aJ} {l:List Oper}(B:Nat)(hm:P.follows .mixedOrders=aO)(hB:Region.lexB .any l.toArray=aO)
 (h:wpQuiet P l.toArray (λw'=>∃n:rB B w,w'=n.wd) (λa'=>∀w',(∃n:rB B w,w'=n.wd)->Q .normal a' w') l a):(Code.region id l.toArray aO).wp P Q a w:=
 wp_region_quiet (C:=λw'=>∃n:rB B w,w'=n.wd) hm hB ⟨⟨_,(aX _ _).drew⟩,rfl⟩ h
theorem Calls.Jl {P:Program} {f:FuncId} {args:Array aN} {B:Nat} {w:aJ} {n:rB B w} {v:aN}(hB:B<=w.heap.size)
 (h:aQ P f args n.wd λe w'=>e=aT v/\aa n.wd.heap.size n.wd w'):aQ P f args n.wd λe w''=>e=aT v/\∃m:rB B w,w''=m.wd:=
 h.mono λ_ w' ⟨he,hb⟩=>⟨he,⟨w',n.h.trans (hb.mono (bz hB n.h.size))⟩,rfl⟩
theorem rB.cells {B:Nat} {w:aJ}(n:rB B w)(b o:Nat)(hb:b<B):n.wd.cell? ⟨b,o,aB⟩=w.cell? ⟨b,o,aB⟩:=n.h.cell (p:=⟨b,o,aB⟩) hb
theorem S5(a b:Int)(w:aJ)(ha:aL a)(hb:aL b):
 aQ aM 148 #[ν a,ν b] w λe w'=>
  e=aT (bB #[ν (gQ (a-b)),ν (dM (a-b))])/\w=w':=by
 have HA:=η ha;have HB:=η hb;go_enter func148,ntmps148
 go_wp2
 all_goals
  go_ret2;have ha:=HA.o;have hb:=HB.o;refine⟨?_,rfl⟩;unfold aL at ha hb;by_cases h:aL (a-b)
  ·obtain⟨h1,h2⟩:=eA h;rw [h1,h2];unfold aL at h;have hw:fS (a-b)=a-b:=by unfold fS;omega
   simp_all<;>omega
  obtain⟨h1,h2⟩:=gp h;rw [h1,h2];unfold aL at h;unfold fS at*;simp_all<;>omega
theorem JX:aL 0:=by unfold aL;omega
def m64(x:Int):Int:=x % 18446744073709551616
def d64(x:Int):Int:=x/18446744073709551616
theorem aCR(x y c:Int)(hx:0<=x)(hy:0<=y)(hc0:0<=c)(hc:c<=1)(w:aJ):
 (callFunc 164 #[aG .u64 x,aG .u64 y,aG .u64 c]).run aM w= .ok (.value (bB #[aG .u64 (m64 (x+y+c)),aG .u64 (d64 (x+y+c))])) w:=by
 rw [run_callFunc_extern func164 (by kernel_rfl) (by kernel_rfl) (by kernel_rfl) (e:=add64Entry) (by kernel_rfl),run_add64 x y c hx hy hc0 hc];rfl
theorem aHh(t a:Int):m64 (m64 t+mN.wrap a)=m64 (t+a):=by grind [ux,m64]
theorem aEc(t a:Int)(ha:aL a):m64 (m64 (d64 t)+mN.wrap (a/9223372036854775808)+d64 (m64 t+mN.wrap a))=m64 (d64 (t+a)):=by
 rw [ux,ux];unfold m64 d64;unfold aL at ha;rcases Int.lt_or_le a 0 with h|h
 ·omega
 omega
theorem a5S(t:Int):0<=m64 t/\m64 t<=18446744073709551615:=by unfold m64;omega
theorem aJh(a t:Int)(W:aJ)(ha:aL a):
 aQ aM 163 #[ν a,π (W.heap.size+1),π W.heap.size] ((W.alloc (aK #[aG .u64 (m64 (d64 t))] 237)).alloc (aK #[aG .u64 (m64 t)] 237)) λe w'=>e=aT (bB #[])/\
  ((W.alloc (aK #[aG .u64 (m64 (d64 (t+a)))] 237)).alloc (aK #[aG .u64 (m64 (t+a))] 237))=w':=by
 have k:=aCR;obtain⟨hl0,oK⟩:=a5S t;obtain⟨zu,hh1⟩:=a5S (d64 t);have h1:=aHh t a;have h2:=aEc t a ha;have QP:0<=d64 (m64 t+mN.wrap a):=by grind [ux,d64]
 have DN:d64 (m64 t+mN.wrap a)<=1:=by grind [ux,d64]
 have H1:=η h1;have H2:=η h2;go_enter func163,ntmps163
 go_wp2
 go_end0
 rw [<-H1.o,<-H2.o];exact⟨rfl,rfl⟩
def sumI:List Int->Int
 | []=>0
 |a::l=>a+sumI l
theorem Np(l m:List Int):sumI (l++m)=sumI l+sumI m:=by
 induction l with
 |nil=>simp [sumI]
 |cons a l ih=>grind [sumI]
theorem YG {l:List Int} {k:Nat}(hk:k<aA l):sumI (l.take (k+1))=sumI (l.take k)+l[k]:=by rw [fE hk,Np];simp [sumI]
theorem aKv(l:List Int)(h:∀x∈l,aL x): -(9223372036854775808*(aA l:Int))<=sumI l/\sumI l<=9223372036854775808*(aA l:Int):=by
 induction l with
 |nil=>simp [sumI]
 |cons a l ih=>
  have h1:=h a (by simp);grind [aL,sumI]
theorem aL1(t:Int)(n:Nat)(hn:n<=4611686018427387904)(hb: -(9223372036854775808*(n:Int))<=t/\t<=9223372036854775808*(n:Int)):
 ((m64 (d64 t) !=mN.wrap (fS (m64 t)/9223372036854775808))=aP↔aL t)/\(aL t->fS (m64 t)=t):=by
 rw [ux];unfold m64 d64 aL fS;grind
theorem Du(l:List Int)(A:Option aj)(c:Nat)(w:aJ)(hl:∀x∈l,aL x)(hs:aW w w.heap.size A (l.map (aG aF)))(hn:aA l<=4611686018427387904):
 aQ aM 104 #[aH A (aA l) c] w λe w'=>
  e=aT (bB #[ν (gQ (sumI l)),ν (dM (sumI l))])/\β w w':=by
 have HL:=η hl;have HS:=η hs;go_enter func104,ntmps104
 go_wp2
 go_loopw [8,12] (λ_ i wr=>∃k:Nat,k<=aA l/\i=ν k/\
  wr=((w.alloc (aK #[aG .u64 (m64 (d64 (sumI (l.take k))))] 237)).alloc (aK #[aG .u64 (m64 (sumI (l.take k)))] 237))) (λ_ i _=>aA l-(ag i).toNat)
 ·exact⟨0,bL _,rfl,rfl⟩
 ·
  obtain⟨k,hk,rfl,rfl⟩:=hrel;by_cases hlt:k<aA l
  ·obtain⟨b,o,rfl,hb,hc⟩:=HS.o.at (k:=k) (by simpa using hlt);have hc':((w.alloc (aK #[aG .u64 (m64 (d64 (sumI (l.take k))))] 237)).alloc (aK #[aG .u64 (m64 (sumI (l.take k)))] 237)).cell? ⟨b,o+k,aB⟩=aC (ν l[k]):=by
    rw [BM _ _ _ (by simp;omega),BM _ _ _ hb,hc];simp
   have HK:=η (YG hlt);have hI:=HL.o l[k] (by simp);have HI:=η hI;go_wp2_with (go_at_call 163;refine(aJh _ _ _ HI).mono ?_;rintro e w' ⟨rfl,rfl⟩)
   go_roundw
   ·exact⟨k+1,by omega,by go_num,by rw [HK.o]⟩
   simp [ag];omega
  obtain rfl:k=aA l:=by omega
  have bP:=aKv l HL;obtain⟨he,hv⟩:=aL1 (sumI l) (aA l) hn bP;have HE:=η he;have HV:=η hv;rw [cT];have vS:∀a b:Obj,β w ((w.alloc a).alloc b):=λa b=>σ.alloc (by simp) _
  go_wp2
  ·have hne:(m64 (d64 (sumI l)) !=mN.wrap (fS (m64 (sumI l))/9223372036854775808))=aO:=by assumption
   go_ret2;have hno:¬aL (sumI l):=λh=>by rw [HE.o.2 h] at hne;cases hne
   refine⟨?_,vS _ _⟩;rw [(gp hno).1,(gp hno).2];rfl
  have hne:(m64 (d64 (sumI l)) !=mN.wrap (fS (m64 (sumI l))/9223372036854775808))=aP:=by assumption
  go_ret2;have Dd:=HE.o.1 hne;refine⟨?_,vS _ _⟩;rw [(eA Dd).1,(eA Dd).2];exact nH (HV Dd) rfl
section
structure fD(w:aJ)(bb:Nat)(M A:Nat)(v:aN)(l:List Int)(po:Int):Prop where
 blk:w.heap[bb]? =aC (aK #[ν (M:Int),ν (A:Int),v,ν po] 216 (0,0))
 own:w.ownsRow 0 2 1 v (aA l) (l.map (aG aF))
 len:aA l=A*(6+3*M)
 hM:M<=16
 hA:A<=9
section
variable {w w':aJ} {bb M A:Nat} {v:aN} {l:List Int} {po:Int}
theorem fD.lt(h:fD w bb M A v l po):bb<w.heap.size:=(fW.1 h.blk).1
theorem fD.c0(h:fD w bb M A v l po):w.cell? ⟨bb,0,aB⟩=aC (aG aF (M:Int)):=bH _ _ _ _ _ (0,0) h.blk
theorem fD.c1(h:fD w bb M A v l po):w.cell? ⟨bb,1,aB⟩=aC (aG aF (A:Int)):=bH _ _ _ _ _ (0,0) h.blk
theorem fD.c2(h:fD w bb M A v l po):w.cell? ⟨bb,2,aB⟩=aC v:=bH _ _ _ _ _ (0,0) h.blk
theorem fD.c3(h:fD w bb M A v l po):w.cell? ⟨bb,3,aB⟩=aC (aG aF po):=bH _ _ _ _ _ (0,0) h.blk
theorem fD.below(h:fD w bb M A v l po)(hb:aa w.heap.size w w'):fD w' bb M A v l po:=by have hg:w.grownBy w' aB:=⟨hb.os,hb.tape,hb.output,hb.size,λi hi _=>hb.block i hi⟩;exact⟨(hb.block _ h.lt).trans h.blk,h.own.kept hg (by grind),h.len,h.hM,h.hA⟩
end
def plcA(M A:Nat)(k m a:Int):Option Nat:=match jn M k m with
 |none=>aB
 |some n=>if 0<=a/\a<(A:Int) then aC (a.toNat*(6+3*M)+n) else aB
theorem NZ {M A:Nat} {k m a:Int} {n:Nat}(h:plcA M A k m a=aC n):n<A*(6+3*M):=by
 unfold plcA at h;cases hn:jn M k m with
 |none=>rw [hn] at h;cases h
 |some z=>
  rw [hn] at h;simp only at h;split at h
  ·rename_i ha;injection h with h;have hz:=a5q hn;have h1:a.toNat+1<=A:=by omega
   have h2:=GX (6+3*M) h1;grind
  cases h
theorem Uu(M A:Nat)(v:aN)(l:List Int)(po k m a:Int)(bb:Nat)(w:aJ)(h:fD w bb M A v l po)(hk:aL k)(hm:aL m):
 aQ aM 155 #[π bb,bU #[ν k,ν m],ν a] w λe w'=>e=aT (bB #[ν (numV (plcA M A k m a)),ν (oN (plcA M A k m a))])/\β w w':=by
 have HNU:=η (λW=>aE8 M h.hM k m hk hm W);have CI:=η (λW=>a2B M h.hM W);have iH:Hid (β w (w.alloc (aK #[ν k,ν m] 51))):=η σ;have h2:=h.below iH.o;have c0:=h2.c0;have c1:=h2.c1;have hlt:=h2.lt;have a0:(w.alloc (aK #[ν k,ν m] 51)).cell? ⟨w.heap.size,0,aB⟩=aC (ν k):=cL _ _ _ 0 rfl;have a1:(w.alloc (aK #[ν k,ν m] 51)).cell? ⟨w.heap.size,1,aB⟩=aC (ν m):=cL _ _ _ 1 rfl;have alt:w.heap.size<(w.alloc (aK #[ν k,ν m] 51)).heap.size:=by simp
 have hM:=h.hM;have hA:=h.hA;have EJ:Hid (∀n,jn M k m=aC n->n<6+3*M):=η λn hn=>a5q hn
 have eI:Hid (plcA M A k m a=match jn M k m with|none=>aB|some n=>if 0<=a/\a<(A:Int) then aC (a.toNat*(6+3*M)+n) else aB):=η rfl;obtain⟨Q,HQ⟩:∃Q,Hid (plcA M A k m a=Q):=⟨_,η rfl⟩;rw [HQ.o] at eI ⊢;generalize jn M k m=z at*;go_enter func155,ntmps155
 go_upto_region 1 with fail
 generalize w.alloc (aK #[ν k,ν m] 51)=w1 at*;refine Nw w1.heap.size (by kernel_rfl) (by kernel_rfl) ?_;have vS:=λ(n:rB w1.heap.size w1) b o hb=>rB.cells n b o hb
 repeat (go_big_quiet_step ((go_at_call 205;exact Calls.Jl (aZ _) (HNU.o _))))
 refine wpQuiet_nil ?_;intro _ hw';obtain⟨n,hw''⟩:=hw';subst hw'';have HN:Hid (β w n.wd):=η (iH.o.trans (n.h.mono iH.o.size));have c0:n.wd.cell? ⟨bb,0,aB⟩=aC (ν (M:Int)):=(vS n bb 0 hlt).trans c0;have c1:n.wd.cell? ⟨bb,1,aB⟩=aC (ν (A:Int)):=(vS n bb 1 hlt).trans c1;generalize n.wd=w2 at*;cases z with
 |none=>
  have HE:Hid (Q=aB):=η eI.o;unfold numV oN;simp only;go_wp2_with fail
  go_ret2;rw [HE.o];exact⟨rfl,HN.o⟩
 |some z=>
  have hz:=EJ.o z rfl;simp only at eI;unfold numV oN;simp only;by_cases h0:0<=a
  case neg=>
   have HE:Hid (Q=aB):=η (by rw [eI.o,ifN (λh=>h0 h.1)]);have hb0:a<0:=by omega
   clear eI h0;go_wp2_with fail
   go_ret2;rw [HE.o];exact⟨rfl,HN.o⟩
  obtain⟨x,rfl⟩:∃x:Nat,a=(x:Int):=⟨a.toNat,by omega⟩;by_cases h1:(x:Int)<(A:Int)
  case neg=>
   have HE:Hid (Q=aB):=η (by rw [eI.o,ifN (λh=>h1 h.2)]);have hb1:(A:Int)<=(x:Int):=by omega
   clear eI;go_wp2_with fail
   go_ret2;rw [HE.o];exact⟨rfl,HN.o⟩
  have HE:Hid (Q=aC (x*(6+3*M)+z)):=η (by rw [eI.o,ifP ⟨h0,h1⟩,Int.toNat_natCast]);obtain⟨q,hq⟩:∃q:Nat,q=x*(6+3*M):=⟨_,rfl⟩;obtain⟨u,hu⟩:∃u:Nat,u=6+3*M:=⟨_,rfl⟩;have vg:u<=54:=by omega
  have hx9:x<=9:=by omega
  have KH:q<=9*54:=by rw [hq];exact yN hx9 (by omega)
  have hmul:(x:Int)*(u:Int)=(q:Int):=by grind
  rw [<-hu] at CI hz;rw [<-hq] at HE;clear eI hq hu;go_wp2_with (go_at_call 146;refine(CI.o _).mono ?_;rintro e w3 ⟨rfl,rfl⟩)
  go_ret2;rw [HE.o];exact⟨nH (by show (q:Int)+(z:Int)=((q+z:Nat):Int);omega) rfl,HN.o⟩
def balA(M A:Nat)(l:List Int)(k m a:Int):Int:=match plcA M A k m a with|some n=>l.getD n 0|none=>0
theorem Ur(M A:Nat)(v:aN)(l:List Int)(po k m a:Int)(bb:Nat)(w:aJ)(h:fD w bb M A v l po)(hk:aL k)(hm:aL m):
 aQ aM 92 #[π bb,bU #[ν k,ν m],ν a] w λe w'=>e=aT (bB #[ν (balA M A l k m a),ν (oN (plcA M A k m a))])/\β w w':=by
 have iH:Hid (β w (w.alloc (aK #[ν k,ν m] 51))):=η σ;have H:=η (h.below iH.o);have CX:=η (Uu M A v l po k m a bb _ H.o hk hm);have eI:Hid (∀n,plcA M A k m a=aC n->n<aA l):=η λn hn=>by rw [h.len];exact NZ hn
 have ew:Hid (balA M A l k m a=match plcA M A k m a with|some n=>l.getD n 0|none=>0):=η rfl;obtain⟨R,HR⟩:=xr (balA M A l k m a);rw [HR.o] at ew ⊢;generalize plcA M A k m a=z at*;go_enter func92,ntmps92
 go_wp2_with (go_at_call 155;refine CX.o.mono ?_)
 rintro e w2 ⟨rfl,hb2⟩;have aV:Hid (β w w2):=τ iH hb2;have H2:=η (H.o.below hb2);cases z with
 |none=>
  have HE:Hid (R=0):=η ew.o;unfold numV oN;simp only;go_wp2
  go_ret2;rw [HE.o];exact⟨rfl,aV.o⟩
 |some n=>
  have hn:=eI.o n rfl;have HE:Hid (R=l[n]):=η (by rw [ew.o];simp [hn]);have c2:=H2.o.c2;obtain⟨Av,cv,hv⟩:=bK H2.o.own;subst hv;obtain⟨b,o,rfl,hb,hc⟩:=tP (aW.cA H2.o.own) hn;have mA:(n:Int)<(aA l:Int):=by omega
  unfold numV oN;simp only;go_wp2
  go_ret2;rw [HE.o];exact⟨rfl,aV.o⟩
end
end Go.Proofs.YtdokipdchlcmeaaGreat
namespace Go.Proofs
open Go.Proofs.Tryz
open Go.Shelf
def lays134_ren:yw:=⟨fun|134=>296|129=>277|n=>n,fun|53=>237|3=>3|4=>4|46=>240|5=>5|9=>9|n=>n,fun|n=>n⟩
theorem lays134:aM9 aM lays134_ren:= {
 mixed:=by kernel_rfl
 f129:=aAx.trans (congrArg aC (by kernel_rfl))
 f134:=func296.trans (congrArg aC (by kernel_rfl))
 t3:=xA
 a3:=Cs
 z3:=Cu
 v3:=Cw
 t4:=BI
 a4:=Ct
 z4:=Cv
 v4:=Cx
 t5:=aCB
 a5:=aBI
 z5:=aC7
 v5:=aCE
 t9:=PJ
 a9:=PE
 z9:=PG
 v9:=PK
 t46:=a1Q
 a46:=a0o
 z46:=a1L
 v46:=a1T
 t53:=a1P
 a53:=a0n
 z53:=a1K
 v53:=a1S}
theorem bits_LeadingZeros64(x:Int)(w:aJ)(h0:0<=x)(h1:x<=18446744073709551615):
 aQ aM 296 #[aG .u64 x] w λe w'=>e=aT (aG aF (64-(sT x.toNat:Int)))/\w'=w:=Any.bits_LeadingZeros64 lays134 x w h0 h1
open Go.RowKit in
def lays189_ren:yw:=⟨fun|189=>217|125=>252|257=>251|128=>276|129=>277|294=>267|295=>268|296=>269|297=>270|298=>271|299=>272|216=>273|300=>274|301=>275|328=>284|329=>285|330=>286|331=>287|332=>288|215=>289|343=>292|n=>n,fun|28=>46|3=>3|46=>240|0=>0|51=>340|53=>237|4=>4|183=>333|182=>332|131=>248|5=>5|9=>9|218=>346|222=>350|228=>354|229=>355|n=>n,fun|n=>n⟩
theorem lays189:aMA aM lays189_ren:= {
 mixed:=by kernel_rfl
 f125:=func252.trans (congrArg aC (by kernel_rfl))
 f128:=func276.trans (congrArg aC (by kernel_rfl))
 f129:=aAx.trans (congrArg aC (by kernel_rfl))
 f189:=func217.trans (congrArg aC (by kernel_rfl))
 f215:=func289.trans (congrArg aC (by kernel_rfl))
 f216:=func273.trans (congrArg aC (by kernel_rfl))
 f257:=func251.trans (congrArg aC (by kernel_rfl))
 f294:=func267.trans (congrArg aC (by kernel_rfl))
 f295:=func268.trans (congrArg aC (by kernel_rfl))
 f296:=func269.trans (congrArg aC (by kernel_rfl))
 f297:=func270.trans (congrArg aC (by kernel_rfl))
 f298:=func271.trans (congrArg aC (by kernel_rfl))
 f299:=func272.trans (congrArg aC (by kernel_rfl))
 f300:=func274.trans (congrArg aC (by kernel_rfl))
 f301:=func275.trans (congrArg aC (by kernel_rfl))
 f328:=func284.trans (congrArg aC (by kernel_rfl))
 f329:=func285.trans (congrArg aC (by kernel_rfl))
 f330:=func286.trans (congrArg aC (by kernel_rfl))
 f331:=func287.trans (congrArg aC (by kernel_rfl))
 f332:=func288.trans (congrArg aC (by kernel_rfl))
 f343:=func292.trans (congrArg aC (by kernel_rfl))
 t0:=Gf
 a0:=Gc
 z0:=Ge
 v0:=Gi
 t3:=xA
 a3:=Cs
 z3:=Cu
 v3:=Cw
 t4:=BI
 a4:=Ct
 z4:=Cv
 v4:=Cx
 t5:=aCB
 a5:=aBI
 z5:=aC7
 v5:=aCE
 t9:=PJ
 a9:=PE
 z9:=PG
 v9:=PK
 t28:=yO
 a28:=Lp
 z28:=Lr
 v28:=Ls
 t46:=a1Q
 a46:=a0o
 z46:=a1L
 v46:=a1T
 t51:=underlying340
 a51:=isAgg340
 z51:=sizeOf340
 v51:=zeroValue340
 t53:=a1P
 a53:=a0n
 z53:=a1K
 v53:=a1S
 t131:=underlying248
 a131:=isAgg248
 z131:=sizeOf248
 v131:=zeroValue248
 t182:=underlying332
 a182:=isAgg332
 z182:=sizeOf332
 v182:=zeroValue332
 t183:=underlying333
 a183:=isAgg333
 z183:=sizeOf333
 v183:=zeroValue333
 t218:=underlying346
 a218:=isAgg346
 z218:=sizeOf346
 v218:=zeroValue346
 t222:=underlying350
 a222:=isAgg350
 z222:=sizeOf350
 v222:=zeroValue350
 t228:=underlying354
 a228:=isAgg354
 z228:=sizeOf354
 v228:=zeroValue354
 t229:=underlying355
 a229:=isAgg355
 z229:=sizeOf355
 v229:=zeroValue355}
open Go.Sort Go.RowKit in
theorem slices_Sort_int(blk off cap:Nat)(zs:List Int)(w:aJ)(hH:Holds (aG aF) w blk off zs.toArray)(hblk:blk<w.heap.size)(hsz:aA zs<4611686018427387904):
 aQ aM 217 #[aH (aC ⟨blk,off,aB⟩) (aA zs) cap] w λe w'=>
  e=aT (bB #[])/\∃n os,w'=grow (putRow (aG aF) (Sort.ahead w n) blk off (zs.mergeSort λx y=>decide (x<=y)).toArray) os:=Any.slices_Sort_int lays189 blk off cap zs w hH hblk hsz
def lays264_ren:yw:=⟨fun|264=>258|n=>n,fun|53=>237|46=>240|n=>n,fun|n=>n⟩
theorem lays264:aMB aM lays264_ren:= {
 mixed:=by kernel_rfl
 f264:=func258.trans (congrArg aC (by kernel_rfl))
 t46:=a1Q
 a46:=a0o
 z46:=a1L
 v46:=a1T
 t53:=a1P
 a53:=a0n
 z53:=a1K
 v53:=a1S}
open Go.RowKit Go.Lib in
theorem bits_Mul64(x y:Nat)(hx:x<18446744073709551616)(hy:y<18446744073709551616)(w:aJ):
 aQ aM 258 #[aG .u64 x,aG .u64 y] w λe w'=>e=aT (bB #[aG .u64 ((x*y/18446744073709551616:Nat):Int),aG .u64 ((x*y % 18446744073709551616:Nat):Int)])/\w'=w:=Any.bits_Mul64 lays264 x y hx hy w
open Go.Lib in
open Go.Lib in
def lays107_ren:yw:=⟨fun|107=>101|108=>161|n=>n,fun|28=>46|3=>3|4=>4|0=>0|n=>n,fun|n=>n⟩
theorem lays107:aM8 aM lays107_ren:= {
 mixed:=by kernel_rfl
 f107:=func101.trans (congrArg aC (by kernel_rfl))
 f108:=func161.trans (congrArg aC (by kernel_rfl))
 t0:=Gf
 a0:=Gc
 z0:=Ge
 v0:=Gi
 t3:=xA
 a3:=Cs
 z3:=Cu
 v3:=Cw
 t4:=BI
 a4:=Ct
 z4:=Cv
 v4:=Cx
 t28:=yO
 a28:=Lp
 z28:=Lr
 v28:=Ls}
open Go.Lib in
theorem slices_Contains_int(b off n c:Nat)(zs:List Int)(x:Int)(w:aJ)(hz:n<=aA zs)(ki:n<=9223372036854775807)(hc:∀j,j<aA zs->w.cell? ⟨b,off+j,aB⟩=aC (aG aF (zs.getD j 0))):
 aQ aM 101 #[aH (aC ⟨b,off,aB⟩) n c,aG aF x] w λe w'=>e=aT (bJ ((zs.take n).contains x))/\w'=w:=Any.slices_Contains_int lays107 b off n c zs x w hz ki hc
open Go.Lib in
theorem slices_Contains_int_empty(a:Option aj)(c:Nat)(x:Int)(w:aJ):
 aQ aM 101 #[aH a 0 c,aG aF x] w λe w'=>e=aT (bJ aP)/\w'=w:=Any.slices_Contains_int_empty lays107 a c x w
def laysNm215_ren:yw:=⟨fun|15=>40|n=>n,fun|22=>46|3=>3|4=>4|n=>n,fun|n=>n⟩
theorem laysNm215:aMC aM laysNm215_ren:= {
 mixed:=by kernel_rfl
 f15:=func40.trans (congrArg aC (by kernel_rfl))
 t3:=xA
 a3:=Cs
 z3:=Cu
 v3:=Cw
 t4:=BI
 a4:=Ct
 z4:=Cv
 v4:=Cx
 t22:=yO
 a22:=Lp
 z22:=Lr
 v22:=Ls
 i3:=by kernel_rfl}
open Go.RowKit Go.Lib in
theorem slices_Clone_int(b off n c:Nat)(zs:List Int)(w:aJ)(hz:n<=aA zs)(ki:n*8<=140737488355328)(hc:∀j,j<aA zs->w.cell? ⟨b,off+j,aB⟩=aC (aG aF (zs.getD j 0))):
 aQ aM 40 #[aH (aC ⟨b,off,aB⟩) n c] w λe w'=>∃v',e=aT v'/\w'.ownsRow w.heap.size 3 1 v' n ((zs.take n).map (aG aF))/\v'≠ aH aB 0 0/\aa w.heap.size w w':=Any.slices_Clone_int laysNm215 b off n c zs w hz ki hc
open Go.RowKit Go.Lib in
theorem slices_Clone_int_nil(n c:Nat)(w:aJ):
 aQ aM 40 #[aH aB n c] w λe w'=>e=aT (aH aB 0 0)/\w'=w:=Any.slices_Clone_int_nil laysNm215 n c w
open Go.RowKit Go.Lib in
theorem slices_Clone_int_zero(a:aj)(c:Nat)(w:aJ):
 aQ aM 40 #[aH (aC a) 0 c] w λe w'=>∃v',e=aT v'/\w'.ownsRow w.heap.size 3 1 v' 0 []/\v'≠ aH aB 0 0/\aa w.heap.size w w':=Any.slices_Clone_int_zero laysNm215 a c w
def laysNm220_ren:yw:=⟨fun|20=>218|n=>n,fun|22=>46|3=>3|4=>4|0=>0|n=>n,fun|n=>n⟩
theorem laysNm220:aMD aM laysNm220_ren:= {
 mixed:=by kernel_rfl
 f20:=func218.trans (congrArg aC (by kernel_rfl))
 t0:=Gf
 a0:=Gc
 z0:=Ge
 v0:=Gi
 t3:=xA
 a3:=Cs
 z3:=Cu
 v3:=Cw
 t4:=BI
 a4:=Ct
 z4:=Cv
 v4:=Cx
 t22:=yO
 a22:=Lp
 z22:=Lr
 v22:=Ls
 i3:=by kernel_rfl}
open Go.RowKit Go.Lib Go.Sort in
open Go.RowKit Go.Lib Go.Sort in
theorem slices_Compact_int(blk off cap:Nat)(zs:List Int)(w:aJ)(hH:Holds (aG aF) w blk off zs.toArray)(hsz:aA zs<=9223372036854775807)(Ex:aA zs<=cap):
 aQ aM 218 #[aH (aC ⟨blk,off,aB⟩) (aA zs) cap] w λe w'=>e=aT (aH (aC ⟨blk,off,aB⟩) (aA (sU zs)) cap)/\∃q,w'=putRow (aG aF) (Sort.ahead w q) blk off (sU zs++gP (aA zs-aA (sU zs)) 0).toArray:=Any.slices_Compact_int laysNm220 blk off cap zs w hH hsz Ex
open Go.RowKit Go.Lib Go.Sort in
theorem slices_Compact_int_empty(a:Option aj)(cap:Nat)(w:aJ):
 aQ aM 218 #[aH a 0 cap] w λe w'=>e=aT (aH a 0 cap)/\w'=w:=Any.slices_Compact_int_empty laysNm220 a cap w
open Go.RowKit Go.Lib in
open Go.RowKit Go.Lib in
open Go.RowKit Go.Lib Go.Sort in
open Go.RowKit Go.Sort in
theorem slices_Sort_int_none(p:Option aj)(cap:Nat)(w:aJ):
 aQ aM 217 #[aH p 0 cap] w λe w'=>e=aT (bB #[])/\w'=w:=Any.slices_Sort_int_none lays189 p cap w
open Go.RowKit Go.Lib in
def laysSlE041_f158_ren:yw:=⟨fun|41=>158|n=>n,fun|22=>53|23=>2|4=>4|n=>n,fun|n=>n⟩
theorem laysSlE041_f158:aME aM laysSlE041_f158_ren:= {
 mixed:=by kernel_rfl
 f41:=⟨f158.name,by decide,func158.trans (congrArg aC (by kernel_rfl))⟩
 t4:=BI
 a4:=Ct
 z4:=Cv
 v4:=Cx
 t22:=mP
 a22:=isAgg53
 z22:=sizeOf53
 v22:=zeroValue53}
open Go.RowKit Go.Lib in
open Go.RowKit Go.Lib in
open Go.RowKit Go.Lib in
theorem slices_Clone_nil_f158(n c:Nat)(w:aJ):
 aQ aM 158 #[aH aB n c] w λe w'=>e=aT (aH aB 0 0)/\w'=w:=AnyE.slices_Clone_nil laysSlE041_f158 n c w
open Go.RowKit Go.Lib Go.Sort in
def keysA_ren:yw:=⟨fun|7=>231|10=>262|n=>n,fun|23=>272|26=>3|3=>53|28=>310|0=>0|27=>309|33=>280|4=>4|n=>n,fun|n=>n⟩
theorem keysA:aMG aM keysA_ren:= {
 mixed:=by kernel_rfl
 f7:=⟨f231.name,by decide,func231.trans (congrArg aC (by kernel_rfl))⟩
 f10:=⟨f262.name,by decide,func262.trans (congrArg aC (by kernel_rfl))⟩
 t0:=Gf
 a0:=Gc
 z0:=Ge
 v0:=Gi
 t4:=BI
 a4:=Ct
 z4:=Cv
 v4:=Cx
 t23:=Gg
 a23:=isAgg272
 z23:=sizeOf272
 v23:=zeroValue272
 t26:=xA
 a26:=Cs
 z26:=Cu
 v26:=Cw
 t27:=underlying309
 a27:=isAgg309
 z27:=sizeOf309
 v27:=zeroValue309
 t28:=aCA
 a28:=aBH
 z28:=aC6
 v28:=aCD
 t33:=underlying280
 a33:=isAgg280
 z33:=sizeOf280
 v33:=zeroValue280}
def sortedA_ren:yw:=⟨fun|6=>230|8=>261|9=>217|11=>282|13=>252|12=>251|23=>276|24=>277|14=>267|15=>268|16=>269|17=>270|18=>271|19=>272|20=>273|21=>274|22=>275|25=>284|26=>285|27=>286|28=>287|29=>288|30=>289|31=>292|n=>n,fun|26=>3|28=>310|24=>46|0=>0|3=>3|37=>240|48=>340|50=>237|4=>4|40=>333|39=>332|45=>248|5=>5|9=>9|51=>346|55=>350|57=>354|58=>355|33=>280|n=>n,fun|n=>n⟩
theorem sortedA:aMF aM sortedA_ren:= {
 mixed:=by kernel_rfl
 f6:=⟨f230.name,by decide,func230.trans (congrArg aC (by kernel_rfl))⟩
 f8:=⟨f261.name,by decide,func261.trans (congrArg aC (by kernel_rfl))⟩
 f11:=⟨f282.name,by decide,func282.trans (congrArg aC (by kernel_rfl))⟩
 t0:=Gf
 a0:=Gc
 z0:=Ge
 v0:=Gi
 t24:=yO
 a24:=Lp
 z24:=Lr
 v24:=Ls
 t26:=xA
 a26:=Cs
 z26:=Cu
 v26:=Cw
 t28:=aCA
 a28:=aBH
 z28:=aC6
 v28:=aCD
 i26:=by kernel_rfl}
end Go.Proofs
namespace Go.Proofs.YtdokipdchlcmeaaGreat.DivLaw
open Go.Proofs.Tryz
theorem aMz(q v1 v0:Nat):q*(v1*4294967296+v0)=q*v1*4294967296+q*v0:=by grind
theorem aHX {u u1 v1 v0 q r:Nat}(e:q*v1+r=u)(h:q*v0<=4294967296*r+u1):q*(v1*4294967296+v0)<=u*4294967296+u1:=by grind
theorem aFz {u u1 v1 v0 q r:Nat}(e:q*v1+r=u)(h:4294967296*r+u1<q*v0):u*4294967296+u1<q*(v1*4294967296+v0):=by grind
theorem Nc {u u1 v:Nat}(hu:u<v)(h1:u1<4294967296):(u*4294967296+u1)/v<4294967296:=by rw [GV (by omega)];omega
theorem aFd {u v1 v0:Nat}(hu:u<v1*4294967296+v0)(h0:v0<4294967296)(h1:2147483648<=v1):u/v1<=4294967297:=by
 have:u/v1<4294967298:=by rw [GV (by omega)];omega
 omega
theorem aFc {u u1 v1 v0:Nat}(h1:2147483648<=v1)(hu:u1<4294967296):(u*4294967296+u1)/(v1*4294967296+v0)<=u/v1:=by have h:(u*4294967296+u1)/(v1*4294967296+v0)<=(u*4294967296+u1)/(v1*4294967296):=Nat.div_le_div_left (by omega) (by omega);refine bz h ?_;rw [aAC v1,<-Nat.div_div_eq_div_mul];grind
structure Inv(u u1 v1 v0 q r:Nat):Prop where
 eq:q*v1+r=u
 ge:(u*4294967296+u1)/(v1*4294967296+v0)<=q
 lt:r<4294967296
 le:q<=4294967297
theorem Inv.first {u u1 v1 v0:Nat}(hu:u<v1*4294967296+v0)(h0:v0<4294967296)(h1:2147483648<=v1)(h2:v1<4294967296)(dA:u1<4294967296):Inv u u1 v1 v0 (u/v1) (u % v1):=
 ⟨by grind [Lh],aFc h1 dA,Li (Jc _ (by omega)) h2,aFd hu h0 h1⟩
theorem Inv.found {u u1 v1 v0 q r:Nat}(h:Inv u u1 v1 v0 q r)(h1:0<v1)(ht:q*v0<=4294967296*r+u1):q=(u*4294967296+u1)/(v1*4294967296+v0):=by
 have h3:=aHX h.eq ht;have h4:q<=(u*4294967296+u1)/(v1*4294967296+v0):=by rw [a0K (by omega)];exact h3
 exact aA9 h4 h.ge
theorem Inv.more {u u1 v1 v0 q r:Nat}(h:Inv u u1 v1 v0 q r)(hu:u<v1*4294967296+v0)(_:2147483648<=v1)(dA:u1<4294967296)(ht:4294967296<=q\/4294967296*r+u1<q*v0):
 1<=q/\(q-1)*v1+(r+v1)=u/\(u*4294967296+u1)/(v1*4294967296+v0)<=q-1:=by
 have hlt:(u*4294967296+u1)/(v1*4294967296+v0)<q:=by
  rcases ht with ht|ht
  ·exact cP (Nc hu dA) ht
  rw [GV (by omega)];exact aFz h.eq ht
 have e:=h.eq;have hq:1<=q:=Nat.lt_of_le_of_lt (bL _) hlt;obtain⟨p,rfl⟩:∃p,q=p+1:=⟨q-1,by omega⟩;grind
theorem Inv.next {u u1 v1 v0 q r:Nat}(h:Inv u u1 v1 v0 q r)(hu:u<v1*4294967296+v0)(h1:2147483648<=v1)(dA:u1<4294967296)(ht:4294967296<=q\/4294967296*r+u1<q*v0)(hr:r+v1<4294967296):
 Inv u u1 v1 v0 (q-1) (r+v1):=by
 obtain⟨_,a,b⟩:=h.more hu h1 dA ht;exact⟨a,b,hr,bz (Nat.sub_le _ _) h.le⟩
theorem Inv.broke {u u1 v1 v0 q r:Nat}(h:Inv u u1 v1 v0 q r)(hu:u<v1*4294967296+v0)(h0:v0<4294967296)(h1:2147483648<=v1)(dA:u1<4294967296)(ht:4294967296<=q\/4294967296*r+u1<q*v0)(hr:4294967296<=r+v1):
 q-1=(u*4294967296+u1)/(v1*4294967296+v0):=by
 obtain⟨_,a,b⟩:=h.more hu h1 dA ht;have hle:(q-1)*v0<=4294967296*(r+v1)+u1:=by have h2:(q-1)*v0<=4294967296*v0:=GX _ (by have:=h.le;omega);omega
 grind [a0K,aA9]
theorem both(n u0:Nat) {v B:Nat}(hv:0<v):
 n/v*B+(n % v*B+u0)/v=(n*B+u0)/v/\(n % v*B+u0) % v=(n*B+u0) % v:=by
 have e:n*B+u0=v*(n/v*B)+(n % v*B+u0):=by grind [Lh]
 constructor
 ·rw [e,Nat.mul_add_div hv]
 rw [e,Nat.mul_add_mod]
theorem aKW(n v k:Nat)(hk:0<k):n*k/(v*k)=n/v/\n*k % (v*k)/k=n % v:=by grind [Nat.mul_div_mul_right,Nat.mul_mod_mul_right,Nat.mul_div_cancel]
end Go.Proofs.YtdokipdchlcmeaaGreat.DivLaw
namespace Go.Proofs.YtdokipdchlcmeaaGreat.DivLaw
open Go.Proofs.Tryz
open Go.RowKit Go.Lib
theorem a1s(x:Nat)(h0:x≠0)(h:x<2^64):1<=sT x:=by rw [bitLen_half x h0 h];omega
theorem a1r:∀(k x:Nat),k<=64->x<2^k->x≠0->2^(sT x-1)<=x/\x<2^sT x
 |0,x,_,h,h0=>by simp at h;omega
 |k+1,x,hk,h,h0=>by
  have h64:x<2^64:=cP h (Nat.pow_le_pow_right (by omega) hk);rw [bitLen_half x h0 h64];by_cases c:x/2=0
  ·rw [c];have e:sT 0=0:=by decide
   grind
  have hh:x/2<2^k:=by omega
  obtain⟨a,b⟩:=a1r k (x/2) (by omega) hh c;have p:=a1s (x/2) c (by omega);obtain⟨m,hm⟩:∃m,sT (x/2)=m+1:=⟨sT (x/2)-1,by omega⟩;grind
structure UK(y s P Q:Nat):Prop where
 lt:s<64
 pos:0<P
 pq:P*Q=18446744073709551616
 lo:9223372036854775808<=y*P
 hi:y*P<18446744073709551616
 eP:P=2^s
 eQ:Q=2^(64-s)
theorem shf(y:Nat)(h0:y≠0)(h:y<18446744073709551616):UK y (64-sT y) (2^(64-sT y)) (2^(64-(64-sT y))):=by
 obtain⟨a,b⟩:=a1r 64 y (aZ _) (by simpa using h) h0;have p:=a1s y h0 (by simpa using h);have l:sT y<=64:=bitLen_le y 64 (aZ _) (by simpa using h);generalize sT y=t at*;have e64:2^(64-t)*2^(64-(64-t))=18446744073709551616:=by rw [<-Nat.pow_add,show 64-t+(64-(64-t))=64 by omega]
 have pp:0<2^(64-t):=Nat.pow_pos (by omega);refine⟨by omega,pp,e64, ?_, ?_,rfl,rfl⟩
 ·have h1:2^(t-1)*2^(64-t)=9223372036854775808:=by rw [<-Nat.pow_add,show t-1+(64-t)=63 by omega]
  rw [<-h1];exact GX _ a
 have h1:2^t*2^(64-t)=18446744073709551616:=by grind
 rw [<-h1];exact Nat.mul_lt_mul_of_pos_right b pp
theorem aIp(a b s:Nat)(hb:b<2^s)(h:a*2^s+b<18446744073709551616):bits .or .u64 ((a*2^s:Nat):Int) (b:Int)=((a*2^s+b:Nat):Int):=by have h1:=bits_or_u64_nat (a*2^s) b (by omega) (by omega);rw [h1];congr 1;have h2:=Nat.shiftLeft_add_eq_or_of_lt hb a;grind [Nat.shiftLeft_eq]
structure P3(hi lo y P Q v v1 v0 U N u1 u0:Nat):Prop where
 ev_:v=y*P
 vlo:9223372036854775808<=v
 Nt:v<18446744073709551616
 vv:v1*4294967296+v0=v
 aLS:2147483648<=v1
 aLR:v1<4294967296
 aLQ:v0<4294967296
 Pv:U<v
 aFI:u1<4294967296
 VN:u0<4294967296
 all:(U*4294967296+u1)*4294967296+u0=(hi*18446744073709551616+lo)*P
theorem aIO {hi lo y s P Q:Nat}(S:UK y s P Q)(hy:hi<y)(hl:lo<18446744073709551616):
 P3 hi lo y P Q (y*P) (y*P/4294967296) (y*P % 4294967296) (hi*P+lo/Q) (lo*P % 18446744073709551616) (lo*P % 18446744073709551616/4294967296) (lo*P % 18446744073709551616 % 4294967296):=by
 have h1:=S.lo;have h2:=S.hi;have hQ:0<Q:=by
  rcases Nat.eq_zero_or_pos Q with h|h
  ·have:=S.pq;rw [h] at this;simp at this
  exact h
 have hd:lo/Q<P:=(GV hQ).2 (by rw [S.pq];exact hl);have hm:(hi+1)*P<=y*P:=GX _ hy;rw [GR] at hm;have nZ:lo*P=lo/Q*18446744073709551616+lo*P % 18446744073709551616:=by
  have e:lo*P/18446744073709551616=lo/Q:=by rw [<-S.pq,aAC lo P];grind [Nat.mul_div_mul_left]
  omega
 refine⟨rfl,h1,h2,by omega,by omega,by omega,by omega,by omega,by omega,by omega, ?_⟩;grind
theorem P3.ends {hi lo y P Q v v1 v0 U N u1 u0:Nat}(h:P3 hi lo y P Q v v1 v0 U N u1 u0)(hP:0<P):
 (U*4294967296+u1)/v*4294967296+((U*4294967296+u1) % v*4294967296+u0)/v=(hi*18446744073709551616+lo)/y/\
 ((U*4294967296+u1) % v*4294967296+u0) % v/P=(hi*18446744073709551616+lo) % y:=by
 have hv:=h.vlo;obtain⟨a,b⟩:=both (U*4294967296+u1) u0 (v:=v) (B:=4294967296) (by omega);rw [a,b,h.all,h.ev_];grind [aKW]
theorem ye(U u1 q v:Nat)(hq:q=(U*4294967296+u1)/v)(hv:0<v)(hv':v<18446744073709551616):
 mN.wrap (mN.wrap (mN.wrap ((U:Int)*4294967296)+(u1:Int))-mN.wrap ((q:Int)*(v:Int)))=(((U*4294967296+u1) % v:Nat):Int):=by
 have e:=Lh (U*4294967296+u1) v;rw [<-hq] at e;have hlt:=Jc (U*4294967296+u1) hv;grind [ux]
end Go.Proofs.YtdokipdchlcmeaaGreat.DivLaw
namespace Go.Proofs.YtdokipdchlcmeaaGreat
open Go.Proofs.Tryz Go.RowKit
section
open Go.Lib Go.Proofs.YtdokipdchlcmeaaGreat.DivLaw
theorem Pz {U u1 v v1 v0:Nat}(h:U<v)(hv:v<18446744073709551616)(hU:U<v1*4294967296+v0)(vP:v0<4294967296)(jg:2147483648<=v1)(K0:v1<4294967296)(dA:u1<4294967296):
 ∃qa ra:Nat,Hid (Inv U u1 v1 v0 qa ra)/\mN.wrap ((U:Int)/(v1:Int))=(qa:Int)/\mN.wrap ((U:Int)-mN.wrap ((qa:Int)*(v1:Int)))=(ra:Int):=by
 have I0:=Inv.first hU vP jg K0 dA;have hle:=I0.le;refine⟨U/v1,U % v1,I0, ?_, ?_⟩
 ·grind [GQ]
 grind [Lh,ux]
theorem aEv(hi lo y s P Q v v1 v0 U N u1 u0 D M:Nat)(w:aJ)(hD:(hi*18446744073709551616+lo)/y=D)(hM:(hi*18446744073709551616+lo) % y=M)(h1:0<hi)(h2:hi<y)(S:UK y s P Q)(hn:P3 hi lo y P Q v v1 v0 U N u1 u0)
 (hL:aQ aM 296 #[aG .u64 y] w λe w'=>e=aT (ν s)/\w'=w)
 (e1:mN.wrap ((y:Int)*(P:Int))=(v:Int)) (e2:(v:Int)/4294967296=(v1:Int)) (e3:bits .and .u64 (v:Int) 4294967295=(v0:Int))
 (e4:bits .or .u64 (mN.wrap ((hi:Int)*(P:Int))) ((lo:Int)/2^(64-s))=(U:Int)) (e5:mN.wrap ((lo:Int)*(P:Int))=(N:Int)) (e6:(N:Int)/4294967296=(u1:Int)) (e7:bits .and .u64 (N:Int) 4294967295=(u0:Int)):
 aQ aM 295 #[aG .u64 hi,aG .u64 lo,aG .u64 y] w λe w'=>e=aT (bB #[aG .u64 (D:Int),aG .u64 (M:Int)])/\w'=w:=by
 have hs:=S.lt;have hP:(2:Int)^s=(P:Int):=by rw [S.eP];exact(Int.natCast_pow 2 s).symm
 have HL:=η hL;have HN:=η hn;have uE:=η hn.vv;have jg:=hn.aLS;have K0:=hn.aLR;have vP:=hn.aLQ;have dA:=hn.aFI;have HU:Hid (U<v1*4294967296+v0):=by have:=hn.Pv;rw [<-hn.vv] at this;exact this
 have HS:=η S;have HD:=η hD;have zD:=η hM;have f0:¬v1=0:=by omega
 obtain⟨qa,ra,I0,f1,f2⟩:=Pz hn.Pv hn.Nt HU.o vP jg K0 dA;have gV:=I0.o.le;clear hL hn S hD hM;have z1:((y:Int)==0)=aP:=by grind
 have z2:((hi:Int)==0)=aP:=by grind
 have z3:¬(y:Int)<=(hi:Int):=by omega
 go_enter aB1,aBm
 go_wp2_with fail
 refine HL.o.mono ?_;rintro e w' ⟨rfl,hw'⟩;subst w';clear HL;have g0:=zT;have g1:=zT;have g2:=zT;go_wp2_with fail
 go_loopg [15,16] 4294967298 (λkx s9 t9 wr=>∃q r:Nat,s9=aG .u64 q/\t9=aG .u64 r/\q<=kx/\Hid (Inv U u1 v1 v0 q r)/\wr=w)
 case atStart=>grind
 case round=>
  clear I0 f0 f1 f2 g0 g1 g2;obtain⟨q,r,rfl,rfl,lx,HI,rfl⟩:=hrel;have hq:=HI.o.le;have hr:=HI.o.lt;obtain⟨m,hm⟩:∃m,m=q*v0:=⟨_,rfl⟩;have WZ:m<=4294967297*4294967295:=by rw [hm];exact yN hq (by omega)
  have kw:mN.wrap ((q:Int)*(v0:Int))=(m:Int):=by rw [Oz,<-hm];exact GQ _ (by omega)
  have HM:=η hm;clear hm;by_cases c1:4294967296<=q
  ·have Gp:(4294967296:Int)<=(q:Int):=by omega
   have HT:Hid (4294967296<=q\/4294967296*r+u1<q*v0):=aS c1;have tO:1<=q:=(HI.o.more HU.o jg dA HT.o).1;have kz:(q:Int)-1=((q-1:Nat):Int):=by omega
   by_cases hb:r+v1<4294967296
   ·have gy:¬(4294967296:Int)<=(r:Int)+(v1:Int):=by omega
    have I2:Hid (Inv U u1 v1 v0 (q-1) (r+v1)):=HI.o.next HU.o jg dA HT.o hb;clear HI HT;go_wp2_with fail
    go_roundg (q-1)
    case measure=>omega
    case rel=>grind
   have gy:(4294967296:Int)<=(r:Int)+(v1:Int):=by omega
   have HQ:Hid (q-1=(U*4294967296+u1)/v):=by have h9:=HI.o.broke HU.o vP jg dA HT.o (by omega);rw [uE.o] at h9;exact h9
   clear HI HT lx hb;obtain⟨qq,kp⟩:∃z,z=q-1:=⟨_,rfl⟩;rw [<-kp] at HQ;have IU:(q:Int)-1=(qq:Int):=by omega
   have IV:((q-1:Nat):Int)=(qq:Int):=by omega
   clear kp kz;obtain⟨qA,rfl⟩:∃z,z=qq:=⟨_,rfl⟩;obtain⟨wo,rfl⟩:∃wo:aJ,wo=wr:=⟨_,rfl⟩;have hvp:0<v:=by omega
   have vk:=HN.o.Nt;have hqA:qA<4294967296:=by rw [HQ.o];exact Nc HN.o.Pv dA
   have t1:=ye U u1 qA v HQ.o hvp vk;obtain⟨R,hR⟩:∃z,z=(U*4294967296+u1) % v:=⟨_,rfl⟩;rw [<-hR] at t1;have zJ:Hid (R<v):=by show R<v;rw [hR];exact Jc _ hvp
   have BC:Hid (R<v1*4294967296+v0):=by have:=zJ.o;rw [<-uE.o] at this;exact this
   have zI:=η hR;have lM:=η HQ.o;have a4a:=dA;clear hR HQ dA HU;have HU:=BC;have dA:=HN.o.VN;have f0:¬v1=0:=by omega
   obtain⟨qb,rb,I0,f1,f2⟩:=Pz zJ.o vk HU.o vP jg K0 dA;have a4L:=I0.o.le;have nM:Hid (0<v/\v<18446744073709551616):=⟨hvp,vk⟩;clear hvp vk;have g0:=zT;have g1:=zT;have g2:=zT;go_wp2_with fail
   go_loopg [18,16] 4294967298 (λkx s9 t9 wr=>∃q r:Nat,s9=aG .u64 q/\t9=aG .u64 r/\q<=kx/\Hid (Inv R u0 v1 v0 q r)/\wr=wo)
   case atStart=>grind
   case round=>
    clear I0 f0 f1 f2 g0 g1 g2 t1;obtain⟨q,r,rfl,rfl,lx,HI,rfl⟩:=hrel;have hq:=HI.o.le;have hr:=HI.o.lt;obtain⟨m,hm⟩:∃m,m=q*v0:=⟨_,rfl⟩;have WZ:m<=4294967297*4294967295:=by rw [hm];exact yN hq (by omega)
    have kw:mN.wrap ((q:Int)*(v0:Int))=(m:Int):=by rw [Oz,<-hm];exact GQ _ (by omega)
    have HM:=η hm;clear hm;by_cases c1:4294967296<=q
    ·have Gp:(4294967296:Int)<=(q:Int):=by omega
     have HT:Hid (4294967296<=q\/4294967296*r+u0<q*v0):=aS c1;have tO:1<=q:=(HI.o.more HU.o jg dA HT.o).1;have kz:(q:Int)-1=((q-1:Nat):Int):=by omega
     by_cases hb:r+v1<4294967296
     ·have gy:¬(4294967296:Int)<=(r:Int)+(v1:Int):=by omega
      have I2:Hid (Inv R u0 v1 v0 (q-1) (r+v1)):=HI.o.next HU.o jg dA HT.o hb;clear HI HT;go_wp2_with fail
      go_roundg (q-1)
      case measure=>omega
      case rel=>grind
     have gy:(4294967296:Int)<=(r:Int)+(v1:Int):=by omega
     have HQ:Hid (q-1=(R*4294967296+u0)/v):=by have h9:=HI.o.broke HU.o vP jg dA HT.o (by omega);rw [uE.o] at h9;exact h9
     clear HI HT lx hb;obtain⟨qq,kp⟩:∃z,z=q-1:=⟨_,rfl⟩;rw [<-kp] at HQ;have IU:(q:Int)-1=(qq:Int):=by omega
     have IV:((q-1:Nat):Int)=(qq:Int):=by omega
     clear kp kz;obtain⟨qB,rfl⟩:∃z,z=qq:=⟨_,rfl⟩;have FD:qB<4294967296:=by rw [HQ.o];exact Nc zJ.o dA
     have t3:=ye R u0 qB v HQ.o nM.o.1 nM.o.2;have HE:=η (HN.o.ends HS.o.pos);rw [<-lM.o,<-zI.o,<-HQ.o,HD.o,zD.o] at HE;obtain⟨C,hC⟩:∃z,z=(R*4294967296+u0) % v:=⟨_,rfl⟩;rw [<-hC] at t3 HE;clear hC HQ;go_wp2_with fail
     go_ret2;exact⟨nH (by have:=HE.o.1;omega) (by rw [<-HE.o.2];exact(ER C P).symm),rfl⟩
    have Gp:¬(4294967296:Int)<=(q:Int):=by omega
    by_cases c2:4294967296*r+u0<m
    ·have Gq:4294967296*(r:Int)+(u0:Int)<(m:Int):=by omega
     have HT:Hid (4294967296<=q\/4294967296*r+u0<q*v0):=aU (HM.o▸c2);have tO:1<=q:=(HI.o.more HU.o jg dA HT.o).1;have kz:(q:Int)-1=((q-1:Nat):Int):=by omega
     by_cases hb:r+v1<4294967296
     ·have gy:¬(4294967296:Int)<=(r:Int)+(v1:Int):=by omega
      have I2:Hid (Inv R u0 v1 v0 (q-1) (r+v1)):=HI.o.next HU.o jg dA HT.o hb;clear HI HT;go_wp2_with fail
      go_roundg (q-1)
      case measure=>omega
      case rel=>grind
     have gy:(4294967296:Int)<=(r:Int)+(v1:Int):=by omega
     have HQ:Hid (q-1=(R*4294967296+u0)/v):=by have h9:=HI.o.broke HU.o vP jg dA HT.o (by omega);rw [uE.o] at h9;exact h9
     clear HI HT lx hb;obtain⟨qq,kp⟩:∃z,z=q-1:=⟨_,rfl⟩;rw [<-kp] at HQ;have IU:(q:Int)-1=(qq:Int):=by omega
     have IV:((q-1:Nat):Int)=(qq:Int):=by omega
     clear kp kz;obtain⟨qB,rfl⟩:∃z,z=qq:=⟨_,rfl⟩;have FD:qB<4294967296:=by omega
     have t3:=ye R u0 qB v HQ.o nM.o.1 nM.o.2;have HE:=η (HN.o.ends HS.o.pos);rw [<-lM.o,<-zI.o,<-HQ.o,HD.o,zD.o] at HE;obtain⟨C,hC⟩:∃z,z=(R*4294967296+u0) % v:=⟨_,rfl⟩;rw [<-hC] at t3 HE;clear hC HQ;go_wp2_with fail
     go_ret2;exact⟨nH (by have:=HE.o.1;omega) (by rw [<-HE.o.2];exact(ER C P).symm),rfl⟩
    have Gq:¬4294967296*(r:Int)+(u0:Int)<(m:Int):=by omega
    have HQ:Hid (q=(R*4294967296+u0)/v):=by have h9:=HI.o.found (by omega) (by rw [<-HM.o];omega);rw [uE.o] at h9;exact h9
    clear HI lx;obtain⟨qB,rfl⟩:∃z,z=q:=⟨_,rfl⟩;have FD:qB<4294967296:=by omega
    have t3:=ye R u0 qB v HQ.o nM.o.1 nM.o.2;have HE:=η (HN.o.ends HS.o.pos);rw [<-lM.o,<-zI.o,<-HQ.o,HD.o,zD.o] at HE;obtain⟨C,hC⟩:∃z,z=(R*4294967296+u0) % v:=⟨_,rfl⟩;rw [<-hC] at t3 HE;clear hC HQ;go_wp2_with fail
    go_ret2;exact⟨nH (by have:=HE.o.1;omega) (by rw [<-HE.o.2];exact(ER C P).symm),rfl⟩
  have Gp:¬(4294967296:Int)<=(q:Int):=by omega
  by_cases c2:4294967296*r+u1<m
  ·have Gq:4294967296*(r:Int)+(u1:Int)<(m:Int):=by omega
   have HT:Hid (4294967296<=q\/4294967296*r+u1<q*v0):=aU (HM.o▸c2);have tO:1<=q:=(HI.o.more HU.o jg dA HT.o).1;have kz:(q:Int)-1=((q-1:Nat):Int):=by omega
   by_cases hb:r+v1<4294967296
   ·have gy:¬(4294967296:Int)<=(r:Int)+(v1:Int):=by omega
    have I2:Hid (Inv U u1 v1 v0 (q-1) (r+v1)):=HI.o.next HU.o jg dA HT.o hb;clear HI HT;go_wp2_with fail
    go_roundg (q-1)
    case measure=>omega
    case rel=>grind
   have gy:(4294967296:Int)<=(r:Int)+(v1:Int):=by omega
   have HQ:Hid (q-1=(U*4294967296+u1)/v):=by have h9:=HI.o.broke HU.o vP jg dA HT.o (by omega);rw [uE.o] at h9;exact h9
   clear HI HT lx hb;obtain⟨qq,kp⟩:∃z,z=q-1:=⟨_,rfl⟩;rw [<-kp] at HQ;have IU:(q:Int)-1=(qq:Int):=by omega
   have IV:((q-1:Nat):Int)=(qq:Int):=by omega
   clear kp kz;obtain⟨qA,rfl⟩:∃z,z=qq:=⟨_,rfl⟩;obtain⟨wo,rfl⟩:∃wo:aJ,wo=wr:=⟨_,rfl⟩;have hvp:0<v:=by omega
   have vk:=HN.o.Nt;have hqA:qA<4294967296:=by omega
   have t1:=ye U u1 qA v HQ.o hvp vk;obtain⟨R,hR⟩:∃z,z=(U*4294967296+u1) % v:=⟨_,rfl⟩;rw [<-hR] at t1;have zJ:Hid (R<v):=by show R<v;rw [hR];exact Jc _ hvp
   have BC:Hid (R<v1*4294967296+v0):=by have:=zJ.o;rw [<-uE.o] at this;exact this
   have zI:=η hR;have lM:=η HQ.o;have a4a:=dA;clear hR HQ dA HU;have HU:=BC;have dA:=HN.o.VN;have f0:¬v1=0:=by omega
   obtain⟨qb,rb,I0,f1,f2⟩:=Pz zJ.o vk HU.o vP jg K0 dA;have a4L:=I0.o.le;have nM:Hid (0<v/\v<18446744073709551616):=⟨hvp,vk⟩;clear hvp vk;have g0:=zT;have g1:=zT;have g2:=zT;go_wp2_with fail
   go_loopg [18,16] 4294967298 (λkx s9 t9 wr=>∃q r:Nat,s9=aG .u64 q/\t9=aG .u64 r/\q<=kx/\Hid (Inv R u0 v1 v0 q r)/\wr=wo)
   case atStart=>grind
   case round=>
    clear I0 f0 f1 f2 g0 g1 g2 t1;obtain⟨q,r,rfl,rfl,lx,HI,rfl⟩:=hrel;have hq:=HI.o.le;have hr:=HI.o.lt;obtain⟨m,hm⟩:∃m,m=q*v0:=⟨_,rfl⟩;have WZ:m<=4294967297*4294967295:=by rw [hm];exact yN hq (by omega)
    have kw:mN.wrap ((q:Int)*(v0:Int))=(m:Int):=by rw [Oz,<-hm];exact GQ _ (by omega)
    have HM:=η hm;clear hm;by_cases c1:4294967296<=q
    ·have Gp:(4294967296:Int)<=(q:Int):=by omega
     have HT:Hid (4294967296<=q\/4294967296*r+u0<q*v0):=aS c1;have tO:1<=q:=(HI.o.more HU.o jg dA HT.o).1;have kz:(q:Int)-1=((q-1:Nat):Int):=by omega
     by_cases hb:r+v1<4294967296
     ·have gy:¬(4294967296:Int)<=(r:Int)+(v1:Int):=by omega
      have I2:Hid (Inv R u0 v1 v0 (q-1) (r+v1)):=HI.o.next HU.o jg dA HT.o hb;clear HI HT;go_wp2_with fail
      go_roundg (q-1)
      case measure=>omega
      case rel=>grind
     have gy:(4294967296:Int)<=(r:Int)+(v1:Int):=by omega
     have HQ:Hid (q-1=(R*4294967296+u0)/v):=by have h9:=HI.o.broke HU.o vP jg dA HT.o (by omega);rw [uE.o] at h9;exact h9
     clear HI HT lx hb;obtain⟨qq,kp⟩:∃z,z=q-1:=⟨_,rfl⟩;rw [<-kp] at HQ;have IU:(q:Int)-1=(qq:Int):=by omega
     have IV:((q-1:Nat):Int)=(qq:Int):=by omega
     clear kp kz;obtain⟨qB,rfl⟩:∃z,z=qq:=⟨_,rfl⟩;have FD:qB<4294967296:=by rw [HQ.o];exact Nc zJ.o dA
     have t3:=ye R u0 qB v HQ.o nM.o.1 nM.o.2;have HE:=η (HN.o.ends HS.o.pos);rw [<-lM.o,<-zI.o,<-HQ.o,HD.o,zD.o] at HE;obtain⟨C,hC⟩:∃z,z=(R*4294967296+u0) % v:=⟨_,rfl⟩;rw [<-hC] at t3 HE;clear hC HQ;go_wp2_with fail
     go_ret2;exact⟨nH (by have:=HE.o.1;omega) (by rw [<-HE.o.2];exact(ER C P).symm),rfl⟩
    have Gp:¬(4294967296:Int)<=(q:Int):=by omega
    by_cases c2:4294967296*r+u0<m
    ·have Gq:4294967296*(r:Int)+(u0:Int)<(m:Int):=by omega
     have HT:Hid (4294967296<=q\/4294967296*r+u0<q*v0):=aU (HM.o▸c2);have tO:1<=q:=(HI.o.more HU.o jg dA HT.o).1;have kz:(q:Int)-1=((q-1:Nat):Int):=by omega
     by_cases hb:r+v1<4294967296
     ·have gy:¬(4294967296:Int)<=(r:Int)+(v1:Int):=by omega
      have I2:Hid (Inv R u0 v1 v0 (q-1) (r+v1)):=HI.o.next HU.o jg dA HT.o hb;clear HI HT;go_wp2_with fail
      go_roundg (q-1)
      case measure=>omega
      case rel=>grind
     have gy:(4294967296:Int)<=(r:Int)+(v1:Int):=by omega
     have HQ:Hid (q-1=(R*4294967296+u0)/v):=by have h9:=HI.o.broke HU.o vP jg dA HT.o (by omega);rw [uE.o] at h9;exact h9
     clear HI HT lx hb;obtain⟨qq,kp⟩:∃z,z=q-1:=⟨_,rfl⟩;rw [<-kp] at HQ;have IU:(q:Int)-1=(qq:Int):=by omega
     have IV:((q-1:Nat):Int)=(qq:Int):=by omega
     clear kp kz;obtain⟨qB,rfl⟩:∃z,z=qq:=⟨_,rfl⟩;have FD:qB<4294967296:=by omega
     have t3:=ye R u0 qB v HQ.o nM.o.1 nM.o.2;have HE:=η (HN.o.ends HS.o.pos);rw [<-lM.o,<-zI.o,<-HQ.o,HD.o,zD.o] at HE;obtain⟨C,hC⟩:∃z,z=(R*4294967296+u0) % v:=⟨_,rfl⟩;rw [<-hC] at t3 HE;clear hC HQ;go_wp2_with fail
     go_ret2;exact⟨nH (by have:=HE.o.1;omega) (by rw [<-HE.o.2];exact(ER C P).symm),rfl⟩
    have Gq:¬4294967296*(r:Int)+(u0:Int)<(m:Int):=by omega
    have HQ:Hid (q=(R*4294967296+u0)/v):=by have h9:=HI.o.found (by omega) (by rw [<-HM.o];omega);rw [uE.o] at h9;exact h9
    clear HI lx;obtain⟨qB,rfl⟩:∃z,z=q:=⟨_,rfl⟩;have FD:qB<4294967296:=by omega
    have t3:=ye R u0 qB v HQ.o nM.o.1 nM.o.2;have HE:=η (HN.o.ends HS.o.pos);rw [<-lM.o,<-zI.o,<-HQ.o,HD.o,zD.o] at HE;obtain⟨C,hC⟩:∃z,z=(R*4294967296+u0) % v:=⟨_,rfl⟩;rw [<-hC] at t3 HE;clear hC HQ;go_wp2_with fail
    go_ret2;exact⟨nH (by have:=HE.o.1;omega) (by rw [<-HE.o.2];exact(ER C P).symm),rfl⟩
  have Gq:¬4294967296*(r:Int)+(u1:Int)<(m:Int):=by omega
  have HQ:Hid (q=(U*4294967296+u1)/v):=by have h9:=HI.o.found (by omega) (by rw [<-HM.o];omega);rw [uE.o] at h9;exact h9
  clear HI lx;obtain⟨qA,rfl⟩:∃z,z=q:=⟨_,rfl⟩;obtain⟨wo,rfl⟩:∃wo:aJ,wo=wr:=⟨_,rfl⟩;have hvp:0<v:=by omega
  have vk:=HN.o.Nt;have hqA:qA<4294967296:=by omega
  have t1:=ye U u1 qA v HQ.o hvp vk;obtain⟨R,hR⟩:∃z,z=(U*4294967296+u1) % v:=⟨_,rfl⟩;rw [<-hR] at t1;have zJ:Hid (R<v):=by show R<v;rw [hR];exact Jc _ hvp
  have BC:Hid (R<v1*4294967296+v0):=by have:=zJ.o;rw [<-uE.o] at this;exact this
  have zI:=η hR;have lM:=η HQ.o;have a4a:=dA;clear hR HQ dA HU;have HU:=BC;have dA:=HN.o.VN;have f0:¬v1=0:=by omega
  obtain⟨qb,rb,I0,f1,f2⟩:=Pz zJ.o vk HU.o vP jg K0 dA;have a4L:=I0.o.le;have nM:Hid (0<v/\v<18446744073709551616):=⟨hvp,vk⟩;clear hvp vk;have g0:=zT;have g1:=zT;have g2:=zT;go_wp2_with fail
  go_loopg [18,16] 4294967298 (λkx s9 t9 wr=>∃q r:Nat,s9=aG .u64 q/\t9=aG .u64 r/\q<=kx/\Hid (Inv R u0 v1 v0 q r)/\wr=wo)
  case atStart=>grind
  case round=>
   clear I0 f0 f1 f2 g0 g1 g2 t1;obtain⟨q,r,rfl,rfl,lx,HI,rfl⟩:=hrel;have hq:=HI.o.le;have hr:=HI.o.lt;obtain⟨m,hm⟩:∃m,m=q*v0:=⟨_,rfl⟩;have WZ:m<=4294967297*4294967295:=by rw [hm];exact yN hq (by omega)
   have kw:mN.wrap ((q:Int)*(v0:Int))=(m:Int):=by rw [Oz,<-hm];exact GQ _ (by omega)
   have HM:=η hm;clear hm;by_cases c1:4294967296<=q
   ·have Gp:(4294967296:Int)<=(q:Int):=by omega
    have HT:Hid (4294967296<=q\/4294967296*r+u0<q*v0):=aS c1;have tO:1<=q:=(HI.o.more HU.o jg dA HT.o).1;have kz:(q:Int)-1=((q-1:Nat):Int):=by omega
    by_cases hb:r+v1<4294967296
    ·have gy:¬(4294967296:Int)<=(r:Int)+(v1:Int):=by omega
     have I2:Hid (Inv R u0 v1 v0 (q-1) (r+v1)):=HI.o.next HU.o jg dA HT.o hb;clear HI HT;go_wp2_with fail
     go_roundg (q-1)
     case measure=>omega
     case rel=>grind
    have gy:(4294967296:Int)<=(r:Int)+(v1:Int):=by omega
    have HQ:Hid (q-1=(R*4294967296+u0)/v):=by have h9:=HI.o.broke HU.o vP jg dA HT.o (by omega);rw [uE.o] at h9;exact h9
    clear HI HT lx hb;obtain⟨qq,kp⟩:∃z,z=q-1:=⟨_,rfl⟩;rw [<-kp] at HQ;have IU:(q:Int)-1=(qq:Int):=by omega
    have IV:((q-1:Nat):Int)=(qq:Int):=by omega
    clear kp kz;obtain⟨qB,rfl⟩:∃z,z=qq:=⟨_,rfl⟩;have FD:qB<4294967296:=by rw [HQ.o];exact Nc zJ.o dA
    have t3:=ye R u0 qB v HQ.o nM.o.1 nM.o.2;have HE:=η (HN.o.ends HS.o.pos);rw [<-lM.o,<-zI.o,<-HQ.o,HD.o,zD.o] at HE;obtain⟨C,hC⟩:∃z,z=(R*4294967296+u0) % v:=⟨_,rfl⟩;rw [<-hC] at t3 HE;clear hC HQ;go_wp2_with fail
    go_ret2;exact⟨nH (by have:=HE.o.1;omega) (by rw [<-HE.o.2];exact(ER C P).symm),rfl⟩
   have Gp:¬(4294967296:Int)<=(q:Int):=by omega
   by_cases c2:4294967296*r+u0<m
   ·have Gq:4294967296*(r:Int)+(u0:Int)<(m:Int):=by omega
    have HT:Hid (4294967296<=q\/4294967296*r+u0<q*v0):=aU (HM.o▸c2);have tO:1<=q:=(HI.o.more HU.o jg dA HT.o).1;have kz:(q:Int)-1=((q-1:Nat):Int):=by omega
    by_cases hb:r+v1<4294967296
    ·have gy:¬(4294967296:Int)<=(r:Int)+(v1:Int):=by omega
     have I2:Hid (Inv R u0 v1 v0 (q-1) (r+v1)):=HI.o.next HU.o jg dA HT.o hb;clear HI HT;go_wp2_with fail
     go_roundg (q-1)
     case measure=>omega
     case rel=>grind
    have gy:(4294967296:Int)<=(r:Int)+(v1:Int):=by omega
    have HQ:Hid (q-1=(R*4294967296+u0)/v):=by have h9:=HI.o.broke HU.o vP jg dA HT.o (by omega);rw [uE.o] at h9;exact h9
    clear HI HT lx hb;obtain⟨qq,kp⟩:∃z,z=q-1:=⟨_,rfl⟩;rw [<-kp] at HQ;have IU:(q:Int)-1=(qq:Int):=by omega
    have IV:((q-1:Nat):Int)=(qq:Int):=by omega
    clear kp kz;obtain⟨qB,rfl⟩:∃z,z=qq:=⟨_,rfl⟩;have FD:qB<4294967296:=by omega
    have t3:=ye R u0 qB v HQ.o nM.o.1 nM.o.2;have HE:=η (HN.o.ends HS.o.pos);rw [<-lM.o,<-zI.o,<-HQ.o,HD.o,zD.o] at HE;obtain⟨C,hC⟩:∃z,z=(R*4294967296+u0) % v:=⟨_,rfl⟩;rw [<-hC] at t3 HE;clear hC HQ;go_wp2_with fail
    go_ret2;exact⟨nH (by have:=HE.o.1;omega) (by rw [<-HE.o.2];exact(ER C P).symm),rfl⟩
   have Gq:¬4294967296*(r:Int)+(u0:Int)<(m:Int):=by omega
   have HQ:Hid (q=(R*4294967296+u0)/v):=by have h9:=HI.o.found (by omega) (by rw [<-HM.o];omega);rw [uE.o] at h9;exact h9
   clear HI lx;obtain⟨qB,rfl⟩:∃z,z=q:=⟨_,rfl⟩;have FD:qB<4294967296:=by omega
   have t3:=ye R u0 qB v HQ.o nM.o.1 nM.o.2;have HE:=η (HN.o.ends HS.o.pos);rw [<-lM.o,<-zI.o,<-HQ.o,HD.o,zD.o] at HE;obtain⟨C,hC⟩:∃z,z=(R*4294967296+u0) % v:=⟨_,rfl⟩;rw [<-hC] at t3 HE;clear hC HQ;go_wp2_with fail
   go_ret2;exact⟨nH (by have:=HE.o.1;omega) (by rw [<-HE.o.2];exact(ER C P).symm),rfl⟩
end
section
open Go.Lib Go.Proofs.YtdokipdchlcmeaaGreat.DivLaw
theorem aHg(y:Nat)(w:aJ)(h:y<18446744073709551616):aQ aM 296 #[aG .u64 y] w λe w'=>e=aT (aG aF (64-sT y:Nat))/\w'=w:=by refine(bits_LeadingZeros64 (y:Int) w (by omega) (by omega)).mono ?_;grind [Lib.bitLen_le,Int.toNat_natCast,Int.ofNat_sub]
theorem aEu(hi lo y:Nat)(w:aJ)(h2:hi<y)(h3:y<18446744073709551616)(nZ:lo<18446744073709551616):
 aQ aM 295 #[aG .u64 hi,aG .u64 lo,aG .u64 y] w λe w'=>e=aT (bB #[aG .u64 (((hi*18446744073709551616+lo)/y:Nat):Int),aG .u64 (((hi*18446744073709551616+lo) % y:Nat):Int)])/\∃n,w'=w.drewN n:=by
 by_cases h1:hi=0
 ·subst h1;have e1:(0*18446744073709551616+lo)/y=lo/y:=by grind
  have e2:(0*18446744073709551616+lo) % y=lo % y:=by grind
  rw [e1,e2];obtain⟨D,hD⟩:=xq (lo/y);obtain⟨M,hM⟩:=xq (lo % y);rw [<-hD,<-hM];have hDl:D<=lo:=by rw [hD];exact Nat.div_le_self _ _
  have f0:¬y=0:=by omega
  have f1:mN.wrap ((lo:Int)/(y:Int))=(D:Int):=by grind [GQ]
  have f2:(lo:Int) % (y:Int)=(M:Int):=by omega
  have f3:((y:Int)==0)=aP:=by grind
  have f6:(lo:Int).tmod (y:Int)=(M:Int):=by grind
  clear e1 e2 hD hM;go_enter aB1,aBm
  go_wp2
  go_quiet (fail)
  go_wp2
  go_ret2;exact⟨rfl,_,rfl⟩
 have S:=shf y (by omega) h3;have hn:=aIO (lo:=lo) S h2 nZ;have hM:=hn.Pv;have DV:=hn.Nt;have hb:lo/2^(64-(64-sT y))<2^(64-sT y):=(GV (Nat.pow_pos (by omega))).2 (by rw [S.pq];exact nZ);have hor:=aIp hi (lo/2^(64-(64-sT y))) (64-sT y) hb (by omega);refine(aEv hi lo y _ _ _ _ _ _ _ _ _ _ _ _ w rfl rfl (by omega) h2 S hn (aHg y w h3) ?_ ?_ ?_ ?_ ?_ ?_ ?_).mono ?_
 ·grind [GQ]
 ·exact aA5 _
 ·grind [aA6]
 ·rw [Oz,GQ _ (Nat.lt_of_le_of_lt (Nat.le_add_right _ _) (Li hM DV))];grind
 ·grind [Mul64.wrapM]
 ·exact aA5 _
 ·grind [aA6]
 rintro e w' ⟨rfl,rfl⟩;exact⟨rfl,0,rfl⟩
end
end Go.Proofs.YtdokipdchlcmeaaGreat
namespace Go.Proofs.YtdokipdchlcmeaaGreat.pG
open Go.Proofs.Tryz
section
variable {k:Int->Int}
def L(k:Int->Int)(x y:Int):Prop:=k x<k y\/(k x=k y/\x<y)
theorem L.trans {x y z:Int}(h:L k x y)(g:L k y z):L k x z:=by unfold L at*;omega
theorem L.of_le {x y:Int}(h:¬k y<k x)(g:x<y):L k x y:=by unfold L;omega
def cH(k:Int->Int)(f:Nat->Int)(a b:Nat):Prop:=∀i j,a<=i->i<j->j<b->L k (f i) (f j)
structure cd(f g:Nat->Int)(a b:Nat):Prop where
 to:∀i,a<=i->i<b->∃j,a<=j/\j<b/\g i=f j
 of:∀j,a<=j->j<b->∃i,a<=i/\i<b/\f j=g i
 o:∀i,i<a\/b<=i->g i=f i
theorem cd.refl(f:Nat->Int)(a b:Nat):cd f f a b:=⟨λi h1 h2=>⟨i,h1,h2,rfl⟩,λi h1 h2=>⟨i,h1,h2,rfl⟩,λ_ _=>rfl⟩
theorem cd.trans {f g h:Nat->Int} {a b:Nat}(x:cd f g a b)(y:cd g h a b):cd f h a b:=by
 refine⟨λi h1 h2=> ?_,λi h1 h2=> ?_,λi hi=>(y.o i hi).trans (x.o i hi)⟩
 ·obtain⟨j,h3,h4,e⟩:=y.to i h1 h2;obtain⟨q,h5,h6,e2⟩:=x.to j h3 h4;grind
 obtain⟨j,h3,h4,e⟩:=x.of i h1 h2;obtain⟨q,h5,h6,e2⟩:=y.of j h3 h4;grind
theorem cd.mono {f g:Nat->Int} {a b a' b':Nat}(x:cd f g a b)(ha:a'<=a)(hb:b<=b'):cd f g a' b':=by
 refine⟨λi h1 h2=> ?_,λi h1 h2=> ?_,λi hi=>x.o i (by omega)⟩
 ·by_cases h:a<=i/\i<b
  ·obtain⟨j,h3,h4,e⟩:=x.to i h.1 h.2;grind
  exact⟨i,h1,h2,x.o i (by omega)⟩
 by_cases h:a<=i/\i<b
 ·obtain⟨j,h3,h4,e⟩:=x.of i h.1 h.2;grind
 exact⟨i,h1,h2,(x.o i (by omega)).symm⟩
def nJ(f:Nat->Int)(x y:Nat):Nat->Int:=λp=>if p=x then f y else if p=y then f x else f p
theorem cd.swap(f:Nat->Int) {a b x y:Nat}(hx:a<=x)(mV:x<b)(hy:a<=y)(hy':y<b):cd f (nJ f x y) a b:=by
 refine⟨λi h1 h2=> ?_,λi h1 h2=> ?_,λi hi=> ?_⟩
 ·unfold nJ;split
  ·exact⟨y,hy,hy',rfl⟩
  split
  ·exact⟨x,hx,mV,rfl⟩
  exact⟨i,h1,h2,rfl⟩
 ·by_cases e1:i=x
  ·refine⟨y,hy,hy', ?_⟩;grind [nJ]
  by_cases e2:i=y
  ·refine⟨x,hx,mV, ?_⟩;grind [nJ]
  refine⟨i,h1,h2, ?_⟩;grind [nJ]
 grind [nJ]
def sL(f:Nat->Int)(a m b:Nat):Prop:=∀i j,a<=i->i<m->m<=j->j<b->f i<f j
structure Ins(k:Int->Int)(f0 g:Nat->Int)(a i j:Nat):Prop where
 mv:cd f0 g a (i+1)
 le:a<=j
 ge:j<=i
 wC:∀p q,a<=p->p<q->q<=i->p≠j->q≠j->L k (g p) (g q)
 up:∀q,j<q->q<=i->L k (g j) (g q)
 top:∀p,a<=p->p<=i->p≠j->g p<g j
theorem Ins.start {f0 g:Nat->Int} {a b i:Nat}(h0:∀p q,a<=p->p<q->q<b->f0 p<f0 q)(hm:cd f0 g a i)(hs:cH k g a i)(ha:a<i)(hb:i<b):Ins k f0 g a i i:=by refine⟨hm.mono (aZ _) (by omega),by omega,aZ _,λp q h1 h2 h3 _ h4=>hs p q h1 h2 (by omega),λq h1 h2=>by omega,λp h1 h2 h3=> ?_⟩;obtain⟨j,h4,h5,e⟩:=hm.to p h1 (by omega);rw [e,hm.o i (by omega)];exact h0 j i h4 h5 hb
theorem Ins.step {f0 g:Nat->Int} {a i j:Nat}(h:Ins k f0 g a i j)(hj:a<j)(hl:k (g j)<k (g (j-1))):Ins k f0 (nJ g j (j-1)) a i (j-1):=by
 have h1:=h.ge;have e1:nJ g j (j-1) (j-1)=g j:=by grind [nJ]
 have e2:nJ g j (j-1) j=g (j-1):=by grind [nJ]
 have e3:∀p,p≠j->p≠j-1->nJ g j (j-1) p=g p:=λp q r=>by grind [nJ]
 refine⟨h.mv.trans (cd.swap g (by omega) (by omega) (by omega) (by omega)),by omega,by omega, ?_, ?_, ?_⟩
 ·intro p q ha Qh hq ni hq';by_cases c1:p=j
  ·subst c1;rw [e2,e3 q (by omega) (by omega)];exact h.wC (p-1) q (by omega) (by omega) hq (by omega) (by omega)
  by_cases c2:q=j
  ·subst c2;rw [e2,e3 p (by omega) (by omega)];exact h.wC p (q-1) ha (by omega) (by omega) (by omega) (by omega)
  rw [e3 p c1 ni,e3 q c2 hq'];exact h.wC p q ha Qh hq c1 c2
 ·intro q hq hqi;rw [e1];by_cases c:q=j
  ·subst c;rw [e2];exact aS hl
  rw [e3 q c (by omega)];exact h.up q (by omega) hqi
 intro p ha hp hpj;rw [e1];by_cases c:p=j
 ·subst c;rw [e2];exact h.top (p-1) (by omega) (by omega) (by omega)
 rw [e3 p c hpj];exact h.top p ha hp c
theorem Ins.stop {f0 g:Nat->Int} {a i j:Nat}(h:Ins k f0 g a i j)(hl:j<=a\/¬k (g j)<k (g (j-1))):cH k g a (i+1):=by
 have hle:=h.le;have zt:=h.ge;intro p q ha Qh hq;by_cases c1:p=j
 ·subst c1;exact h.up q Qh (by omega)
 by_cases c2:q=j
 ·subst c2;have vX:=L.of_le (hl.resolve_left (by omega)) (h.top (q-1) (by omega) (by omega) (by omega));by_cases c3:p=q-1
  ·rw [c3];exact vX
  exact(h.wC p (q-1) ha (by omega) (by omega) c1 (by omega)).trans vX
 exact h.wC p q ha Qh (by omega) c1 c2
def sH(f:Nat->Int)(a b n:Nat):Nat->Int:=λp=>if a<=p/\p<a+n then f (p-a+b) else if b<=p/\p<b+n then f (p-b+a) else f p
theorem aL6(f:Nat->Int)(a b:Nat):sH f a b 0=f:=by funext p;unfold sH;rw [ifN (by omega),ifN (by omega)]
theorem aL5(f:Nat->Int) {a b n:Nat}(h:a+n<b):nJ (sH f a b n) (a+n) (b+n)=sH f a b (n+1):=by funext p;grind [nJ,sH]
def dG(f:Nat->Int)(a m b:Nat):Nat->Int:=λp=>if a<=p/\p<a+(b-m) then f (p+(m-a)) else if a+(b-m)<=p/\p<b then f (p-(b-m)) else f p
theorem aK6(g:Nat->Int) {m i j:Nat}(hj:0<j)(rh:j<i)(DY:i<=m):dG (sH g (m-i) m j) (m-(i-j)) m (m+j)=dG g (m-i) m (m+j):=by funext p;grind [dG,sH]
theorem aK5(g:Nat->Int) {m i j:Nat}(hi:0<i)(rh:i<j)(DY:i<=m):dG (sH g (m-i) (m+j-i) i) (m-i) m (m+(j-i))=dG g (m-i) m (m+j):=by
 funext p;unfold dG;by_cases c1:m-i<=p/\p<m-i+(j-i)
 ·grind [sH]
 by_cases c2:p<m+(j-i)/\m-i+(j-i)<=p
 ·grind [sH]
 by_cases c3:m+j-i<=p/\p<m+j
 ·grind [sH]
 rw [ifN (by omega),ifN (by omega),ifN (by omega),ifN (by omega)];grind [sH]
theorem aK7(g:Nat->Int) {m i:Nat}(DY:i<=m):sH g (m-i) m i=dG g (m-i) m (m+i):=by funext p;grind [dG,sH]
theorem Ro(f:Nat->Int) {a m b:Nat}(ha:a<=m)(hb:m<=b):cd f (dG f a m b) a b:=by
 refine⟨λi h1 h2=> ?_,λi h1 h2=> ?_,λi hi=> ?_⟩
 ·unfold dG;by_cases c:i<a+(b-m)
  ·exact⟨i+(m-a),by omega,by omega,by omega⟩
  exact⟨i-(b-m),by omega,by omega,by omega⟩
 ·by_cases c:i<m
  ·refine⟨i+(b-m),by omega,by omega, ?_⟩;grind [dG]
  refine⟨i-(m-a),by omega,by omega, ?_⟩;grind [dG]
 grind [dG]
theorem wA(f:Nat->Int) {a m b:Nat}(h:a=m\/m=b):dG f a m b=f:=by funext p;grind [dG]
structure Cut(k:Int->Int)(f:Nat->Int)(a m b mid s:Nat):Prop where
 ge:a<=s
 le:s<=m
 XG:s<=mid
 eb:mid+m-s<=b
 hi:m<=mid+m-s
 lo:a<s->mid+m-s<b->L k (f (s-1)) (f (mid+m-s))
 up:s<m->m<mid+m-s->L k (f (mid+m-s-1)) (f s)
theorem Cut.law {f g h e:Nat->Int} {a m b mid s:Nat}(c:Cut k f a m b mid s)(K8:cH k f a m)(hf2:cH k f m b)
 (hg:g=dG f s m (mid+m-s)) (hh:cd g h a mid) (sh:cH k h a mid) (he:cd h e mid b) (se:cH k e mid b) (hm:a<=mid) (Qa:mid<=b):cH k e a b/\cd f e a b:=by
 have c1:=c.ge;have c2:=c.le;have c3:=c.XG;have c4:=c.eb;have c5:=c.hi;have mg:=hg▸Ro f c2 c5;refine⟨?_,(((mg.mono c1 c4).trans (hh.mono (aZ _) Qa)).trans (he.mono hm (aZ _)))⟩;have key:∀i j,a<=i->i<mid->mid<=j->j<b->L k (g i) (g j):=by
  intro i j h1 h2 h3 h4;have gi:g i=if i<s then f i else f (i+(m-s)):=by rw [hg];unfold dG;omega
  have gj:g j=if j<mid+m-s then f (j-(mid-s)) else f j:=by rw [hg];unfold dG;grind
  rw [gi,gj];by_cases q1:i<s
  ·rw [ifP q1];by_cases q2:j<mid+m-s
   ·rw [ifP q2];exact K8 _ _ h1 (by omega) (by omega)
   rw [ifN q2];have h5:=c.lo (by omega) (by omega);have h6:L k (f i) (f (mid+m-s)):=by
    by_cases q3:i=s-1
    ·rw [q3];exact h5
    exact(K8 i (s-1) h1 (by omega) (by omega)).trans h5
   by_cases q4:j=mid+m-s
   ·rw [q4];exact h6
   exact h6.trans (hf2 _ j (by omega) (by omega) h4)
  rw [ifN q1];by_cases q2:j<mid+m-s
  ·rw [ifP q2];have h5:=c.up (by omega) (by omega);have h6:L k (f (i+(m-s))) (f s):=by
    by_cases q3:i+(m-s)=mid+m-s-1
    ·rw [q3];exact h5
    exact(hf2 _ _ (by omega) (by omega) (by omega)).trans h5
   by_cases q4:j-(mid-s)=s
   ·rw [q4];exact h6
   exact h6.trans (K8 _ _ (by omega) (by omega) (by omega))
  rw [ifN q2];exact hf2 _ _ (by omega) (by omega) (by omega)
 have VL:∀i,i<mid->e i=h i:=λi hi=>he.o i (aS hi)
 intro i j h1 h2 h3;by_cases q1:j<mid
 ·rw [VL i (by omega),VL j q1];exact sh i j h1 h2 q1
 by_cases q2:mid<=i
 ·exact se i j q2 h2 h3
 rw [VL i (by omega)];obtain⟨x,x1,x2,ex⟩:=hh.to i h1 (by omega);obtain⟨y,y1,y2,ey⟩:=he.to j (by omega) h3;rw [ex,ey,hh.o y (aU y1)];grind
theorem Cut.halves {f:Nat->Int} {a m b mid s:Nat}(c:Cut k f a m b mid s)(K8:cH k f a m)(hf2:cH k f m b)(hx:sL f a m b):
 cH k (dG f s m (mid+m-s)) a s/\cH k (dG f s m (mid+m-s)) s mid/\sL (dG f s m (mid+m-s)) a s mid/\
 cH k (dG f s m (mid+m-s)) mid (mid+m-s)/\cH k (dG f s m (mid+m-s)) (mid+m-s) b/\sL (dG f s m (mid+m-s)) mid (mid+m-s) b:=by
 have c1:=c.ge;have c2:=c.le;have c3:=c.XG;have c4:=c.eb;have c5:=c.hi;have r1:∀i,i<s->dG f s m (mid+m-s) i=f i:=λi hi=>by grind [dG]
 have r2:∀i,s<=i->i<mid->dG f s m (mid+m-s) i=f (i+(m-s)):=λi h1 h2=>by grind [dG]
 have r3:∀i,mid<=i->i<mid+m-s->dG f s m (mid+m-s) i=f (i-(mid-s)):=λi h1 h2=>by unfold dG;rw [ifN (by omega),ifP (by omega)];congr 1;omega
 have r4:∀i,mid+m-s<=i->dG f s m (mid+m-s) i=f i:=λi hi=>by unfold dG;rw [ifN (by omega),ifN (by omega)]
 refine⟨λi j h1 h2 h3=> ?_,λi j h1 h2 h3=> ?_,λi j h1 h2 h3 h4=> ?_,λi j h1 h2 h3=> ?_,λi j h1 h2 h3=> ?_,λi j h1 h2 h3 h4=> ?_⟩
 ·rw [r1 i (by omega),r1 j h3];exact K8 i j h1 h2 (by omega)
 ·rw [r2 i h1 (by omega),r2 j (by omega) h3];exact hf2 _ _ (by omega) (by omega) (by omega)
 ·rw [r1 i h2,r2 j h3 h4];exact hx _ _ h1 (by omega) (by omega) (by omega)
 ·rw [r3 i h1 (by omega),r3 j (by omega) h3];exact K8 _ _ (by omega) (by omega) (by omega)
 ·rw [r4 i h1,r4 j (by omega)];exact hf2 _ _ (by omega) h2 h3
 rw [r3 i h1 h2,r4 j h3];exact hx _ _ (by omega) (by omega) (by omega) h4
structure vF(k:Int->Int)(f:Nat->Int)(n s0 r0 s r:Nat):Prop where
 le:s<=r
 ge:s0<=s
 hi:r<=r0
 lo:s0<s->L k (f (s-1)) (f (n-s))
 up:r<r0->L k (f (n-1-r)) (f r)
theorem vF.start(f:Nat->Int)(n:Nat) {s0 r0:Nat}(h:s0<=r0):vF k f n s0 r0 s0 r0:=⟨h,aZ _,aZ _,λh=>absurd h (Nat.lt_irrefl _),λh=>absurd h (Nat.lt_irrefl _)⟩
theorem vF.right {f:Nat->Int} {n s0 r0 s r c:Nat}(h:vF k f n s0 r0 s r)(h1:s<=c)(h2:c<r)(hc:L k (f c) (f (n-1-c))):vF k f n s0 r0 (c+1) r:=
 ⟨h2,by have:=h.ge;omega,h.hi,λ_=>by grind,h.up⟩
theorem vF.left {f:Nat->Int} {n s0 r0 s r c:Nat}(h:vF k f n s0 r0 s r)(h1:s<=c)(h2:c<r)(hc:L k (f (n-1-c)) (f c)):vF k f n s0 r0 s c:=
 ⟨h1,h.ge,by have:=h.hi;omega,h.lo,λ_=>hc⟩
theorem vF.aET {f:Nat->Int} {a m b mid s r:Nat}(h:vF k f (mid+m) (mid+m-b) mid s r)(hs:¬s<r)(hm:mid<m)(hab:a<=mid+m-b)(hb:b<=mid+m):Cut k f a m b mid s:=by
 have h1:=h.le;have h2:=h.ge;have h3:=h.hi;have e:s=r:=by omega
 subst e;refine⟨by omega,by omega,by omega,by omega,by omega,λ_ h5=>h.lo (by omega),λ_ h5=> ?_⟩;have:=h.up (by omega);grind
theorem vF.aEU {f:Nat->Int} {a m b mid s r:Nat}(h:vF k f (mid+m) a m s r)(hs:¬s<r)(hm:m<=mid)(hb:mid+m-a<=b):Cut k f a m b mid s:=by
 have h1:=h.le;have h2:=h.ge;have h3:=h.hi;have e:s=r:=by omega
 subst e;refine⟨by omega,by omega,by omega,by omega,by omega,λh4 _=>h.lo (by omega),λh4 h5=> ?_⟩;have:=h.up (by omega);grind
theorem aIb {f:Nat->Int} {a b i:Nat}(hs:cH k f (a+1) b)(hi:a+1<=i)(hib:i<=b)(h1:∀p,a+1<=p->p<i->L k (f p) (f a))(h2:∀p,i<=p->p<b->L k (f a) (f p)):
 cH k (dG f a (a+1) i) a b/\cd f (dG f a (a+1) i) a b:=by
 refine⟨λp q h3 h4 h5=> ?_,(Ro f (by omega) hi).mono (aZ _) hib⟩;have r:∀p,a<=p->p<b->dG f a (a+1) i p=if p<i-1 then f (p+1) else if p=i-1 then f a else f p:=λp h1 h2=>by grind [dG]
 rw [r p h3 (by omega),r q (by omega) h5];by_cases c1:p<i-1
 ·rw [ifP c1];by_cases c2:q<i-1
  ·rw [ifP c2];exact hs _ _ (by omega) (by omega) (by omega)
  rw [ifN c2];by_cases c3:q=i-1
  ·grind
  rw [ifN c3];exact hs _ _ (by omega) (by omega) (by omega)
 rw [ifN c1];by_cases c2:p=i-1
 ·grind
 rw [ifN c2,ifN (by omega),ifN (by omega)];exact hs _ _ (by omega) h4 h5
theorem aIa {f:Nat->Int} {a m i:Nat}(hs:cH k f a m)(hi:a<=i)(DY:i<=m)(h1:∀p,a<=p->p<i->L k (f p) (f m))(h2:∀p,i<=p->p<m->L k (f m) (f p)):
 cH k (dG f i m (m+1)) a (m+1)/\cd f (dG f i m (m+1)) a (m+1):=by
 refine⟨λp q h3 h4 h5=> ?_,(Ro f DY (by omega)).mono hi (aZ _)⟩;have r:∀p,a<=p->p<m+1->dG f i m (m+1) p=if p<i then f p else if p=i then f m else f (p-1):=λp h1 h2=>by grind [dG]
 rw [r p h3 (by omega),r q (by omega) h5];by_cases c1:p<i
 ·rw [ifP c1];by_cases c2:q<i
  ·rw [ifP c2];exact hs _ _ (by omega) (by omega) (by omega)
  rw [ifN c2];by_cases c3:q=i
  ·grind
  rw [ifN c3];exact hs _ _ (by omega) (by omega) (by omega)
 rw [ifN c1];by_cases c2:p=i
 ·grind
 rw [ifN c2,ifN (by omega),ifN (by omega)];exact hs _ _ (by omega) (by omega) (by omega)
theorem aK8(f:Nat->Int) {a i:Nat}(h:a+1<=i):nJ (dG f a (a+1) i) (i-1) i=dG f a (a+1) (i+1):=by funext p;grind [nJ,dG]
theorem aK4(f:Nat->Int) {i m:Nat}(h:i<m):nJ (dG f (i+1) m (m+1)) (i+1) i=dG f i m (m+1):=by funext p;grind [nJ,dG]
end
end Go.Proofs.YtdokipdchlcmeaaGreat.pG
namespace Go.Proofs.YtdokipdchlcmeaaGreat.pG
open Go.Proofs.Tryz
section
variable {k:Int->Int} {n z:Nat} {f g:Nat->Int}
theorem M4 {y i c:Nat}(hy:0<y):i/y=c↔c*y<=i/\i<c*y+y:=by
 constructor
 ·intro h;subst h;refine⟨Nat.div_mul_le_self i y, ?_⟩;have h1:=Lh i y;have h2:=Jc i hy;grind
 intro⟨h1,h2⟩;have a:c<=i/y:=(a0K hy).2 h1;have b:i/y<c+1:=(GV hy).2 (by grind);omega
theorem a3v(z i:Nat):i/(2*z)=i/z/2:=by grind [Nat.div_div_eq_div_mul]
structure uw(k:Int->Int)(n:Nat)(f:Nat->Int)(a:Nat):Prop where
 at_:a % 20=0
 lo:∀i j,i<j->j<a->i/20=j/20->L k (f i) (f j)
 own:∀i,i<n->∃v:Nat,f i=v/\v/20=i/20/\v<n
 RA:∀i,a<=i->i<n->f i=i
structure yv(k:Int->Int)(n z:Nat)(f:Nat->Int):Prop where
 wC:∀i j,i<j->j<n->i/z=j/z->L k (f i) (f j)
 own:∀i,i<n->∃v:Nat,f i=v/\v/z=i/z/\v<n
structure rP(k:Int->Int)(n z:Nat)(f:Nat->Int)(a:Nat):Prop where
 at_:∃c,a=c*(2*z)
 lo:∀i j,i<j->j<a->i/(2*z)=j/(2*z)->L k (f i) (f j)
 hi:∀i j,a<=i->i<j->j<n->i/z=j/z->L k (f i) (f j)
 own:∀i,i<n->∃v:Nat,f i=v/\v/(2*z)=i/(2*z)/\v<n
 Xc:∀i,a<=i->i<n->∃v:Nat,f i=v/\v/z=i/z/\v<n
theorem uw.start(h:∀p,p<n->f p=p):uw k n f 0:=⟨rfl,λ_ _ _ h=>by omega,λi hi=>⟨i,h i hi,rfl,hi⟩,λi _ hi=>h i hi⟩
theorem uw.rising {a b:Nat}(h:uw k n f a)(hb:b<=n):∀p q,a<=p->p<q->q<b->f p<f q:=λp q h1 h2 h3=>by rw [h.RA p h1 (by omega),h.RA q (by omega) (by omega)];omega
theorem uw.NW {a b:Nat}(h:uw k n f a)(hb:b<=n)(hb':b<=a+20)(mv:cd f g a b):∀i,i<n->∃v:Nat,g i=v/\v/20=i/20/\v<n:=λi hi=>by
 have ha:=h.at_;by_cases c:a<=i/\i<b
 ·obtain⟨j,h1,h2,e⟩:=mv.to i c.1 c.2;exact⟨j,by rw [e,h.RA j h1 (by omega)],by omega,by omega⟩
 rw [mv.o i (by omega)];exact h.own i hi
theorem uw.next {a:Nat}(h:uw k n f a)(hb:a+20<=n)(mv:cd f g a (a+20))(hs:cH k g a (a+20)):uw k n g (a+20):=by
 have ha:=h.at_;refine⟨by omega,λi j h1 h2 h3=> ?_,h.NW hb (aZ _) mv,λi h1 h2=>by rw [mv.o i (by omega),h.RA i (by omega) h2]⟩;by_cases c:j<a
 ·rw [mv.o i (by omega),mv.o j (by omega)];exact h.lo i j h1 c h3
 exact hs i j (by omega) h1 h2
theorem uw.last {a:Nat}(h:uw k n f a)(hb:n<a+20)(mv:cd f g a n)(hs:cH k g a n):yv k n 20 g:=by
 have ha:=h.at_;refine⟨λi j h1 h2 h3=> ?_,h.NW (aZ _) (by omega) mv⟩;by_cases c:j<a
 ·rw [mv.o i (by omega),mv.o j (by omega)];exact h.lo i j h1 c h3
 exact hs i j (by omega) h1 h2
theorem yv.start(h:yv k n z f):rP k n z f 0:=
 ⟨⟨0,by omega⟩,λ_ _ _ h=>by omega,λi j _ h1 h2 h3=>h.wC i j h1 h2 h3,λi hi=>by obtain⟨v,e,h1,h2⟩:=h.own i hi;exact⟨v,e,by rw [a3v,a3v,h1],h2⟩,λi _ hi=>h.own i hi⟩
theorem yv.done(h:yv k n z f)(hz:n<=z):cH k f 0 n:=λi j _ h1 h2=>h.wC i j h1 h2 (by rw [Nat.div_eq_of_lt (by omega),Nat.div_eq_of_lt (by omega)])
theorem rP.pair {a:Nat}(h:rP k n z f a)(hz:0<z):∃c,∀i,(a<=i->i<a+z->i/z=2*c)/\(a+z<=i->i<a+2*z->i/z=2*c+1)/\(a<=i->i<a+2*z->i/(2*z)=c)/\(i<a->i/(2*z)<c):=by
 obtain⟨c,e⟩:=h.at_;have e2:a=2*c*z:=by grind
 refine⟨c,λi=>⟨λh1 h2=>(M4 hz).2 (by omega),λh1 h2=>(M4 hz).2 ?_,λh1 h2=>(M4 (by omega)).2 (by omega),λh1=>(GV (by omega)).2 (by omega)⟩⟩;grind
theorem rP.runs {a b:Nat}(h:rP k n z f a)(hz:0<z)(hb:b<=n)(hb':b<=a+2*z)(hm:a+z<=b):cH k f a (a+z)/\cH k f (a+z) b/\sL f a (a+z) b:=by
 obtain⟨c,hc⟩:=h.pair hz;refine⟨λi j h1 h2 h3=>h.hi i j h1 h2 (by omega) ?_,λi j h1 h2 h3=>h.hi i j (by omega) h2 (by omega) ?_,λi j h1 h2 h3 h4=> ?_⟩
 ·grind
 ·rw [(hc i).2.1 h1 (by omega),(hc j).2.1 (by omega) (by omega)]
 obtain⟨v,ev,hv,_⟩:=h.Xc i h1 (by omega);obtain⟨u,eu,hu,_⟩:=h.Xc j (by omega) (by omega);rw [(hc i).1 h1 h2] at hv;rw [(hc j).2.1 h3 (by omega)] at hu;rw [ev,eu];have h5:=(M4 hz).1 hv;have h6:=(M4 hz).1 hu;grind
theorem rP.NW {a b:Nat}(h:rP k n z f a)(hz:0<z)(hb:b<=n)(hb':b<=a+2*z)(mv:cd f g a b):∀i,i<n->∃v:Nat,g i=v/\v/(2*z)=i/(2*z)/\v<n:=λi hi=>by
 obtain⟨c,hc⟩:=h.pair hz;by_cases q:a<=i/\i<b
 ·obtain⟨j,h1,h2,e⟩:=mv.to i q.1 q.2;obtain⟨v,ev,hv,hn⟩:=h.own j (by omega);grind
 rw [mv.o i (by omega)];exact h.own i hi
theorem rP.next {a:Nat}(h:rP k n z f a)(hz:0<z)(hb:a+2*z<=n)(mv:cd f g a (a+2*z))(hs:cH k g a (a+2*z)):rP k n z g (a+2*z):=by
 obtain⟨c,hc⟩:=h.pair hz;refine⟨?_,λi j h1 h2 h3=> ?_,λi j h1 h2 h3 h4=> ?_,h.NW hz hb (aZ _) mv,λi h1 h2=> ?_⟩
 ·obtain⟨c,e⟩:=h.at_;exact⟨c+1,by grind⟩
 ·by_cases q:j<a
  ·rw [mv.o i (by omega),mv.o j (by omega)];exact h.lo i j h1 q h3
  by_cases q2:i<a
  ·grind
  exact hs i j (by omega) h1 h2
 ·rw [mv.o i (by omega),mv.o j (by omega)];exact h.hi i j (by omega) h2 h3 h4
 rw [mv.o i (by omega)];exact h.Xc i (by omega) h2
theorem rP.last {a:Nat}(h:rP k n z f a)(hz:0<z)(hb:n<a+2*z)(mv:cd f g a n)(hs:cH k g a n):yv k n (2*z) g:=by
 obtain⟨c,hc⟩:=h.pair hz;refine⟨λi j h1 h2 h3=> ?_,h.NW hz (aZ _) (by omega) mv⟩;by_cases q:j<a
 ·rw [mv.o i (by omega),mv.o j (by omega)];exact h.lo i j h1 q h3
 by_cases q2:i<a
 ·grind
 exact hs i j (by omega) h1 h2
theorem rP.none {a:Nat}(h:rP k n z f a)(hz:0<z)(hb:n<=a+z):yv k n (2*z) f:=by obtain⟨c,hc⟩:=h.pair hz;exact h.last hz (by omega) (cd.refl _ _ _) λi j h1 h2 h3=>h.hi i j h1 h2 h3 (by rw [(hc i).1 h1 (by omega),(hc j).1 (by omega) (by omega)])
end
end Go.Proofs.YtdokipdchlcmeaaGreat.pG
namespace Go.Proofs.YtdokipdchlcmeaaGreat.ShareLaw
open Go.Proofs.Tryz
open Go.Proofs.YtdokipdchlcmeaaGreat.pG
def cnt(p:Nat->Bool):Nat->Nat
 |0=>0
 |n+1=>cnt p n+if p n then 1 else 0
theorem Pm {p q:Nat->Bool}:∀ {n:Nat},(∀j,j<n->p j=aO->q j=aO)->cnt p n<=cnt q n
 |0,_=>aZ _
 |n+1,h=>by
  have ih:=Pm (p:=p) (q:=q) (n:=n) λj hj=>h j (by omega)
  grind [cnt]
theorem V5 {p q:Nat->Bool} {j0:Nat}:∀ {n:Nat},(∀j,j<n->p j=aO->q j=aO)->j0<n->p j0=aP->q j0=aO->cnt p n<cnt q n
 |0,_,h0,_,_=>by omega
 |n+1,h,h0,hp,hq=>by
  by_cases e:j0=n
  ·subst e;have ih:=Pm (p:=p) (q:=q) (n:=j0) λj hj=>h j (by omega)
   grind [cnt]
  have ih:=V5 (p:=p) (q:=q) (n:=n) (λj hj=>h j (by omega)) (by omega) hp hq;grind [cnt]
theorem V0:∀n,cnt (λ_=>aO) n=n
 |0=>rfl
 |n+1=>by unfold cnt;rw [V0 n];simp
def ah(r:Nat->Int)(j i:Nat):Bool:=decide (r i<r j)||(decide (r i=r j)&&decide (j<i))
theorem PR {r:Nat->Int} {j i:Nat}:ah r j i=aO↔r i<r j\/(r i=r j/\j<i):=by unfold ah;simp
theorem aCV {r:Nat->Int} {a b c:Nat}(h:ah r a b=aO)(g:ah r b c=aO):ah r a c=aO:=by grind [PR]
theorem a1c(r:Nat->Int)(a:Nat):ah r a a=aP:=by unfold ah;simp
theorem aCU(r:Nat->Int) {a b:Nat}(h:a≠b):ah r a b=aO\/ah r b a=aO:=by grind [PR]
def rk(r:Nat->Int)(n i:Nat):Nat:=cnt (λj=>ah r j i) n
section
variable {r:Nat->Int} {n:Nat}
theorem Xv {i j:Nat}(hj:j<n)(h:ah r j i=aO):rk r n j<rk r n i:=
 V5 (j0:=j) (λ_ _ h1=>aCV h1 h) hj (a1c r j) h
theorem a6s {i:Nat}(hi:i<n):rk r n i<n:=by have h:=V5 (p:=λj=>ah r j i) (q:=λ_=>aO) (j0:=i) (n:=n) (λ_ _ _=>rfl) hi (a1c r i) rfl;rw [V0] at h;exact h
theorem Xu {i j:Nat}(hi:i<n)(hj:j<n)(h:rk r n i=rk r n j):i=j:=by
 by_cases e:i=j
 ·exact e
 rcases aCU r e with g|g
 ·have:=Xv hi g;omega
 have:=Xv hj g;omega
end
theorem Uh:∀(n:Nat) (f:Nat->Nat),(∀i,i<n->f i<n)->(∀i j,i<n->j<n->f i=f j->i=j)->∀t,t<n->∃i,i<n/\f i=t
 |0,_,_,_,t,ht=>by omega
 |n+1,f,hf,hi,t,ht=>by
  by_cases hn:∃i0,i0<n/\f i0=n
  ·obtain⟨i0,h0,e0⟩:=hn;have hfn:f n<n:=by
    grind
   by_cases c:t=n
   ·grind
   have ih:=Uh n (λi=>if i=i0 then f n else f i) (λi h=>by
    split
    ·exact hfn
    ·grind) (λi j h1 h2 e=>by
    split at e<;>split at e
    ·omega
    ·grind
    ·grind
    grind) t (by omega)
   obtain⟨i,h1,h2⟩:=ih;split at h2
   ·grind
   grind
  have hlt:∀i,i<n->f i<n:=λi h=>by grind
  have ih:=Uh n f hlt (λi j h1 h2=>hi i j (by omega) (by omega));by_cases c:t<n
  ·obtain⟨i,h1,h2⟩:=ih t c;grind
  by_cases c2:f n=n
  ·grind
  obtain⟨i,h1,h2⟩:=ih (f n) (by grind);grind
theorem aJv {r:Nat->Int} {n t:Nat}(ht:t<n):∃i,i<n/\rk r n i=t:=
 Uh n (rk r n) (λ_ h=>a6s h) (λ_ _ h1 h2 h=>Xu h1 h2 h) t ht
theorem aFx {n:Nat} {f:Nat->Nat}(hf:∀i,i<n->f i<n)(hg:∀i j,i<j->j<n->f i<f j):∀k,k<n->f k=k:=by
 have lo:∀k,k<n->k<=f k:=by
  intro k;induction k with
  |zero=>intro _;omega
  |succ k ih=>intro h;have h1:=ih (by omega);have h2:=hg k (k+1) (by omega) h;omega
 have hi:∀m k,k+m+1=n->f k<=k:=by
  intro m;induction m with
  |zero=>grind
  |succ m ih=>intro k h;have h1:=ih (k+1) (by omega);have h2:=hg k (k+1) (by omega) (by omega);omega
 intro k hk;have h1:=lo k hk;have h2:=hi (n-1-k) k (by omega);omega
def dZ(f:Nat->Int):Nat->Int
 |0=>0
 |n+1=>dZ f n+f n
theorem a7o {f g:Nat->Int}:∀ {n:Nat},(∀i,i<n->f i=g i)->dZ f n=dZ g n
 |0,_=>rfl
 |n+1,h=>by unfold dZ;rw [a7o λi hi=>h i (by omega),h n (by omega)]
theorem S7(f g:Nat->Int):∀n,dZ (λi=>f i+g i) n=dZ f n+dZ g n
 |0=>rfl
 |n+1=>by unfold dZ;rw [S7 f g n];omega
theorem YI(c:Int)(f:Nat->Int):∀n,dZ (λi=>c*f i) n=c*dZ f n
 |0=>by unfold dZ;omega
 |n+1=>by unfold dZ;rw [YI c f n,Int.mul_add]
theorem a7p {f g:Nat->Int}:∀ {n:Nat},(∀i,i<n->f i<=g i)->dZ f n<=dZ g n
 |0,_=>dJ _
 |n+1,h=>by have:=a7p (f:=f) (g:=g) (n:=n) λi hi=>h i (by omega);have:=h n (by omega);unfold dZ;omega
theorem YJ:∀n,dZ (λ_=>0) n=0
 |0=>rfl
 |n+1=>by unfold dZ;rw [YJ n];rfl
theorem S8 {f:Nat->Int} {n:Nat}(h:∀i,i<n->0<=f i):0<=dZ f n:=by have:=a7p (f:=λ_=>0) (g:=f) (n:=n) h;grind [YJ]
theorem a7q {i0:Nat}:∀ {n:Nat},dZ (λi=>if i=i0 then 1 else 0) n=if i0<n then 1 else 0
 |0=>by simp [dZ]
 |n+1=>by unfold dZ;rw [a7q (n:=n)];omega
theorem a7u(r:Nat->Int)(n:Nat):∀t,t<=n->dZ (λi=>if rk r n i<t then 1 else 0) n=t
 |0,_=>by grind [YJ]
 |t+1,ht=>by
  obtain⟨i0,h0,e0⟩:=aJv (r:=r) (n:=n) (t:=t) (by omega);have h:∀i,i<n->(if rk r n i<t+1 then (1:Int) else 0)=(if rk r n i<t then 1 else 0)+(if i=i0 then 1 else 0):=by grind [Xu]
  rw [a7o h,S7,a7u r n t (by omega),a7q,ifP h0];omega
section
variable (T S:Int) (W:Nat->Int) (n:Nat)
def quo(i:Nat):Int:=T*W i/S
def l8(i:Nat):Int:=T*W i % S
def left:Int:=T-dZ (quo T S W) n
def partT(t:Nat)(i:Nat):Int:=quo T S W i+if rk (l8 T S W) n i<t then 1 else 0
def part(i:Nat):Int:=partT T S W n (left T S W n).toNat i
end
section
variable {T S:Int} {W:Nat->Int} {n:Nat}
theorem Xp(i:Nat):S*quo T S W i+l8 T S W i=T*W i:=Int.mul_ediv_add_emod _ _
theorem Xz(hS:0<S)(i:Nat):0<=l8 T S W i/\l8 T S W i<S:=⟨Int.emod_nonneg _ (by omega),Int.emod_lt_of_pos _ hS⟩
theorem Xo(hS:0<S)(hT:0<=T) {i:Nat}(hW:0<=W i):0<=quo T S W i:=Int.ediv_nonneg (Int.mul_nonneg hT hW) (by omega)
theorem a6i(hS:0<S)(hT:0<=T) {i:Nat}(hW:W i<=S):quo T S W i<=T:=by have h:=a9o hW hT;have h2:=Int.ediv_le_ediv hS h;rw [Int.mul_ediv_cancel _ (by omega)] at h2;exact h2
theorem aL4(jl:dZ W n=S):dZ (l8 T S W) n=S*left T S W n:=by
 have h:dZ (λi=>S*quo T S W i+l8 T S W i) n=T*S:=by grind [Xp,YI]
 rw [S7,YI] at h;unfold left;grind
def Dt(r:Nat->Int)(n:Nat):Nat:=cnt (λj=>decide (0<r j)) n
theorem a7v {r:Nat->Int} {S:Int}(hS:0<S):∀ {n:Nat},(∀i,i<n->0<=r i/\r i<S)->dZ r n<=(S-1)*(Dt r n:Int)
 |0,_=>by grind [dZ,Dt,cnt]
 |n+1,h=>by
  have ih:=a7v (r:=r) hS (n:=n) λi hi=>h i (by omega)
  have hn:=h n (by omega);unfold Dt at*;unfold dZ cnt;grind
theorem aKd(r:Nat->Int)(n:Nat):Dt r n<=n:=by
 have:=Pm (p:=λj=>decide (0<r j)) (q:=λ_=>aO) (n:=n) λ_ _ _=>rfl
 rw [V0] at this;exact this
theorem NI(hS:0<S)(jl:dZ W n=S):0<=left T S W n/\left T S W n<=(Dt (l8 T S W) n:Int):=by
 have h1:=aL4 (T:=T) jl;have h2:=a7v (r:=l8 T S W) hS (n:=n) λi _=>Xz hS i
 have h3:=S8 (f:=l8 T S W) (n:=n) λi _=>(Xz hS i).1
 rw [h1] at h2 h3;refine⟨Int.nonneg_of_mul_nonneg_right h3 hS, ?_⟩;have h4:(S-1)*(Dt (l8 T S W) n:Int)<=S*(Dt (l8 T S W) n:Int):=La (by omega) (by omega);exact a9m (ju h2 h4) hS
theorem a5K(hS:0<S)(jl:dZ W n=S):left T S W n<=n:=by have h1:=(NI (T:=T) hS jl).2;grind [aKd]
theorem aJi(hS:0<S)(hT:0<=T)(hW:∀i,i<n->0<=W i)(jl:dZ W n=S):0<=dZ (quo T S W) n/\dZ (quo T S W) n<=T:=by have h1:=(NI (T:=T) hS jl).1;unfold left at h1;exact⟨S8 λi hi=>Xo hS hT (hW i hi),by omega⟩
theorem aKC(hS:0<S)(jl:dZ W n=S) {i:Nat}(h:rk (l8 T S W) n i<(left T S W n).toNat):0<l8 T S W i:=by
 have h1:=NI (T:=T) hS jl;have h2:rk (l8 T S W) n i<Dt (l8 T S W) n:=by omega
 by_cases c:0<l8 T S W i
 ·exact c
 exfalso;have h3:Dt (l8 T S W) n<=rk (l8 T S W) n i:=Pm λj _ hj=>by grind [PR]
 omega
theorem aL3(hS:0<S)(jl:dZ W n=S):dZ (part T S W n) n=T:=by have h1:=NI (T:=T) hS jl;have h2:=a5K (T:=T) hS jl;unfold part partT;rw [S7,a7u _ _ _ (by omega)];unfold left at*;omega
theorem Xd(hS:0<S)(jl:dZ W n=S)(i:Nat):part T S W n i=quo T S W i\/(part T S W n i=quo T S W i+1/\0<l8 T S W i):=by
 unfold part partT;by_cases c:rk (l8 T S W) n i<(left T S W n).toNat
 ·rw [ifP c];exact aU ⟨rfl,aKC hS jl c⟩
 omega
theorem aJA(hS:0<S)(hT:0<=T)(jl:dZ W n=S) {i:Nat}(hW:0<=W i):0<=part T S W n i:=by have:=Xo hS hT hW;grind [Xd]
theorem aJ8(hS:0<S)(hT:0<=T)(jl:dZ W n=S) {i:Nat}(hW:W i<=S):part T S W n i<=T:=by
 rcases Xd (T:=T) hS jl i with h|⟨h,hr⟩
 ·have:=a6i hS hT hW;omega
 have e:=Xp (T:=T) (S:=S) (W:=W) i;have h1:=a9o hW hT;have h2:S*quo T S W i<S*T:=by grind
 have h3:=a9n h2 (by omega);omega
theorem aJ9(hS:0<S)(hTS:T<=S)(jl:dZ W n=S) {i:Nat}(hW:0<=W i):part T S W n i<=W i:=by
 have h1:=La hTS hW;have e:=Xp (T:=T) (S:=S) (W:=W) i;have hb:=Xz (T:=T) (W:=W) hS i;rcases Xd (T:=T) hS jl i with h|⟨h,hr⟩
 ·have h2:S*quo T S W i<=S*W i:=by omega
  have:=a9m h2 hS;omega
 have h2:S*quo T S W i<S*W i:=by omega
 have:=a9n h2 (by omega);omega
end
end Go.Proofs.YtdokipdchlcmeaaGreat.ShareLaw
namespace Go.Proofs.YtdokipdchlcmeaaGreat
open Go.Proofs.Tryz Go.RowKit
section
open Go.Lib Go.Sort Go.Shelf Go.Proofs.YtdokipdchlcmeaaGreat.pG
def fn(d:Array Int):Nat->Int:=λp=>d[p]!
theorem MK(d:Array Int) {i j:Nat}(hi:i<d.size)(hj:j<d.size):fn (swp d i j)=nJ (fn d) i j:=by
 funext p;unfold fn nJ;by_cases c1:p=i
 ·subst c1;rw [ifP rfl];by_cases c2:p=j
  ·subst c2;rw [swp_right d p p hj]
  rw [swp_left d p j hi c2]
 rw [ifN c1];by_cases c2:p=j
 ·subst c2;rw [ifP rfl,swp_right d i p hj]
 rw [ifN c2,swp_other d i j p c1 c2]
theorem a3E:OneCell (aG aF):=λ_=>rfl
theorem YO(f:aN)(blk off cap a b n:Nat)(d0 d:Array Int)(w0 w:aJ)
 (R:Row1 (aG aF) w0 blk off d0) (hs:d0.size=d.size) (S:SW (aG aF) w0 blk off d w) (h1:a+n<=b) (h2:b+n<=d.size) (hsz:d.size<4611686018427387904):
 aQ aM 291 #[aH (aC ⟨blk,off,aB⟩) d.size cap,ν a,ν b,ν n,f] w λe w'=>e=aT (bB #[])/\∃d':Array Int,d'.size=d.size/\fn d'=sH (fn d) a b n/\SW (aG aF) w0 blk off d' w':=by
 have S0:Hid (SW (aG aF) w0 blk off d w):=S;clear S;go_enter func291,ntmps291
 go_wp2
 go_loopg [10] n (λkx s wr=>∃(i:Nat) (dk:Array Int),s=ν i/\i<=n/\n-i<=kx/\dk.size=d.size/\Hid (SW (aG aF) w0 blk off dk wr)/\Hid (fn dk=sH (fn d) a b i))
 case atStart=>exact⟨0,d,rfl,bL _,by omega,rfl,S0,(aL6 _ _ _).symm⟩
 case round=>
  clear S0;obtain⟨i,dk,rfl,DZ,lx,K7,S1,HF⟩:=hrel;by_cases hlt:i<n
  ·have ng:(i:Int)<(n:Int):=by omega
   go_wp2_with fail
   obtain⟨iN,fG⟩:∃q,q=a+i:=⟨_,rfl⟩;obtain⟨jN,fH⟩:∃q,q=b+i:=⟨_,rfl⟩;have ea:((a:Int)+(i:Int)).toNat=iN:=by omega
   have pa:(0:Int)<=(a:Int)+(i:Int):=by omega
   have ba:(a:Int)+(i:Int)<(d.size:Int):=by omega
   have ra:aF.wrap ((a:Int)+(i:Int))=(a:Int)+(i:Int):=by grind [fZ]
   have ec:((b:Int)+(i:Int)).toNat=jN:=by omega
   have pc:(0:Int)<=(b:Int)+(i:Int):=by omega
   have bc:(b:Int)+(i:Int)<(d.size:Int):=by omega
   have rc:aF.wrap ((b:Int)+(i:Int))=(b:Int)+(i:Int):=by grind [fZ]
   obtain⟨x,hx⟩:∃x,x=dk[a+i]! :=⟨_,rfl⟩;obtain⟨y,hy⟩:∃x,x=dk[b+i]! :=⟨_,rfl⟩;have S2:Hid (SW (aG aF) w0 blk off (swp dk (a+i) (b+i)) ((wr.setCell ⟨blk,off+iN,aB⟩ (ν y)).setCell ⟨blk,off+jN,aB⟩ (ν x)).drew):=by rw [fG,fH,hx,hy];exact S1.o.swapped R (a+i) (b+i) (by omega) (by omega)
   have ca:=S1.o.c1 R (by omega) (a+i) (by omega);have cb:=S1.o.c1 R (by omega) (b+i) (by omega);have fa:=S1.o.f1 R (by omega) (a+i) (by omega);have fb:=S1.o.f1 R (by omega) (b+i) (by omega);obtain⟨u,cc⟩:=S1.o.c2 R (by omega) (a+i) (b+i) (by omega) (by omega) (ν y);rw [<-fH,<-fG] at cc;rw [<-hx,<-fG] at ca;rw [<-hy,<-fH] at cb;rw [<-fG] at fa;rw [<-fH] at fb;have cJ:Hid (fn (swp dk (a+i) (b+i))=sH (fn d) a b (i+1)):=by show _=_;rw [MK dk (by omega) (by omega),HF.o,aL5 _ (by omega)]
   clear S1 hx hy fG fH HF;go_wp2_with fail
   go_big_region
   clear ca cb cc fa fb;generalize ((wr.setCell ⟨blk,off+iN,aB⟩ (ν y)).setCell ⟨blk,off+jN,aB⟩ (ν x)).drew=w2 at S2 ⊢;clear ea ec;go_wp2
   go_roundg (n-(i+1))
   case measure=>omega
   case rel=>exact⟨i+1,swp dk (a+i) (b+i),by simp,by omega,aZ _,by rw [size_swp];exact K7,S2,cJ⟩
  have e:i=n:=by omega
  subst e;go_wp2
  go_end0
  exact⟨rfl,dk,K7,HF.o,S1.o⟩
end
section
open Go.Lib Go.Sort Go.Shelf Go.Proofs.YtdokipdchlcmeaaGreat.pG
theorem aK9(f:aN)(blk off cap a m b:Nat)(d0 d:Array Int)(w0 w:aJ)
 (R:Row1 (aG aF) w0 blk off d0) (hs:d0.size=d.size) (S:SW (aG aF) w0 blk off d w) (h1:a<m) (h2:m<b) (h3:b<=d.size) (hsz:d.size<4611686018427387904):
 aQ aM 283 #[aH (aC ⟨blk,off,aB⟩) d.size cap,ν a,ν m,ν b,f] w λe w'=>e=aT (bB #[])/\∃d':Array Int,d'.size=d.size/\fn d'=dG (fn d) a m b/\SW (aG aF) w0 blk off d' w':=by
 have S0:Hid (SW (aG aF) w0 blk off d w):=S;have RR:Hid (Row1 (aG aF) w0 blk off d0):=R;have wi:aF.wrap ((m:Int)-(a:Int))=(m:Int)-(a:Int):=by grind [fZ]
 have wj:aF.wrap ((b:Int)-(m:Int))=(b:Int)-(m:Int):=by grind [fZ]
 go_enter func283,ntmps283
 go_wp2_with fail
 go_loopg [10,11] (b-a) (λkx s t wr=>∃(i j:Nat) (dk:Array Int),s=ν i/\t=ν j/\0<i/\0<j/\i<=m/\m+j<=d.size/\i+j<=kx/\dk.size=d.size/\Hid (SW (aG aF) w0 blk off dk wr)/\Hid (dG (fn dk) (m-i) m (m+j)=dG (fn d) a m b))
 case atStart=>
  refine⟨m-a,b-m,d,by grind,by grind,by omega,by omega,by omega,by omega,by omega,rfl,S0, ?_⟩;show _=_;grind
 case round=>
  obtain⟨i,j,dk,rfl,rfl,bu,zv,DY,hjd,lx,K7,S1,HF⟩:=hrel;have wmi:aF.wrap ((m:Int)-(i:Int))=((m-i:Nat):Int):=by grind [fZ]
  by_cases rh:i=j
  ·subst rh;have hne:(i:Int)=(i:Int):=rfl;have HC:=η (YO f blk off cap (m-i) m i d0 dk w0 wr RR.o (by omega) S1.o (by omega) (by omega) (by omega));rw [K7] at HC;go_wp2_with fail
   refine HC.o.mono ?_;rintro e w2 ⟨rfl,d2,pL,hf2,hs2⟩;have wQ:=η hf2;have sP:=η hs2;go_wp2_with fail
   go_end0
   refine⟨rfl,d2,pL, ?_,sP.o⟩;rw [wQ.o,aK7 _ DY,HF.o]
  have hne:¬((i:Int)=(j:Int)):=by omega
  by_cases hlt:j<i
  ·have ng:(j:Int)<(i:Int):=by omega
   have HC:=η (YO f blk off cap (m-i) m j d0 dk w0 wr RR.o (by omega) S1.o (by omega) (by omega) (by omega));rw [K7] at HC;have cJ:=η (aK6 (fn dk) zv hlt DY);have wij:aF.wrap ((i:Int)-(j:Int))=((i-j:Nat):Int):=by grind [fZ]
   go_wp2_with fail
   refine HC.o.mono ?_;rintro e w2 ⟨rfl,d2,pL,hf2,hs2⟩;have wQ:=η hf2;have sP:=η hs2;go_wp2_with fail
   go_roundg (i-j+j)
   case measure=>omega
   case rel=>
    refine⟨i-j,j,d2,rfl,rfl,by omega,zv,by omega,hjd,aZ _,pL,sP.o, ?_⟩;show _=_;rw [wQ.o,cJ.o,HF.o]
  have ng:¬(j:Int)<(i:Int):=by omega
  have HC:=η (YO f blk off cap (m-i) (m+j-i) i d0 dk w0 wr RR.o (by omega) S1.o (by omega) (by omega) (by omega));rw [K7] at HC;have cJ:=η (aK5 (fn dk) bu (by omega:i<j) DY);have wij:aF.wrap ((j:Int)-(i:Int))=((j-i:Nat):Int):=by grind [fZ]
  have wmj:aF.wrap ((m:Int)+(j:Int))=(m:Int)+(j:Int):=by grind [fZ]
  have aN5:aF.wrap ((m:Int)+(j:Int)-(i:Int))=((m+j-i:Nat):Int):=by grind [fZ]
  go_wp2_with fail
  refine HC.o.mono ?_;rintro e w2 ⟨rfl,d2,pL,hf2,hs2⟩;have wQ:=η hf2;have sP:=η hs2;go_wp2_with fail
  go_roundg (i+(j-i))
  case measure=>omega
  case rel=>
   refine⟨i,j-i,d2,rfl,rfl,bu,by omega,DY,by omega,aZ _,pL,sP.o, ?_⟩;show _=_;rw [wQ.o,cJ.o,HF.o]
end
section
open Go.Lib Go.Sort Go.Shelf Go.Proofs.YtdokipdchlcmeaaGreat.pG
structure sY(w0:aJ)(blk off n:Nat)(g:Nat)(cb:Array aN)(cf:Int->Int->Int)(k:Int->Int)(ok:Int->Prop)(d0:Array Int):Prop where
 row:Row1 (aG aF) w0 blk off d0
 size:d0.size=n
 lt:n<4611686018427387904
 enters:∀args w,(callFunc g args).run aM w= .ok (.enter g args) w
 cmp:∀(m:Nat) (os:Array Obj) (dk:Array Int),dk.size=n->∀x y,ok x->ok y->aQ aM g (#[ν x,ν y]++cb) (sortWorld (aG aF) w0 blk off m dk os) λe w'=>e=aT (ν (cf x y))/\∃q os',w'=grow ((sortWorld (aG aF) w0 blk off m dk os).drewN q) os'
 neg:∀x y,ok x->ok y->(cf x y<0↔k x<k y)
structure Rw(w0:aJ)(blk off n:Nat)(ok:Int->Prop)(d:Array Int)(w:aJ):Prop where
 size:d.size=n
 sw:SW (aG aF) w0 blk off d w
 ok:∀p,p<n->ok (fn d p)
section
variable {w0:aJ} {blk off n:Nat} {g:Nat} {cb:Array aN} {cf:Int->Int->Int} {k:Int->Int} {ok:Int->Prop} {d0:Array Int} {d:Array Int} {W:aJ}
theorem Rw.c(h:Rw w0 blk off n ok d W)(T:sY w0 blk off n g cb cf k ok d0)(i:Nat)(hi:i<n):W.cell? ⟨blk,off+i,aB⟩=aC (aG aF (fn d i)):=h.sw.c1 T.row (h.size.trans T.size.symm) i (by rw [h.size];exact hi)
theorem Rw.f(h:Rw w0 blk off n ok d W)(T:sY w0 blk off n g cb cf k ok d0)(i:Nat)(hi:i<n):W.frozen? ⟨blk,off+i,aB⟩=aP:=h.sw.f1 T.row (h.size.trans T.size.symm) i (by rw [h.size];exact hi)
theorem Rw.cl(h:Rw w0 blk off n ok d W)(T:sY w0 blk off n g cb cf k ok d0)(i:Nat)(hi:i<n)(m:Nat)(os:Array Obj):(grow (W.drewN m) os).cell? ⟨blk,off+i,aB⟩=aC (aG aF (fn d i)):=h.sw.cl T.row (h.size.trans T.size.symm) i (by rw [h.size];exact hi) m os
theorem Rw.c2(h:Rw w0 blk off n ok d W)(T:sY w0 blk off n g cb cf k ok d0)(i j:Nat)(hi:i<n)(hj:j<n)(v:aN):∃u,(W.setCell ⟨blk,off+i,aB⟩ v).cell? ⟨blk,off+j,aB⟩=aC u:=h.sw.c2 T.row (h.size.trans T.size.symm) i j (by rw [h.size];exact hi) (by rw [h.size];exact hj) v
theorem Rw.swapped(h:Rw w0 blk off n ok d W)(T:sY w0 blk off n g cb cf k ok d0)(i j:Nat)(hi:i<n)(hj:j<n):
 Rw w0 blk off n ok (swp d i j) ((W.setCell ⟨blk,off+i,aB⟩ (ν (fn d j))).setCell ⟨blk,off+j,aB⟩ (ν (fn d i))).drew:=by
 have h1:i<d.size:=by rw [h.size];exact hi
 have h2:j<d.size:=by rw [h.size];exact hj
 refine⟨by rw [size_swp];exact h.size,h.sw.swapped T.row i j h1 h2,λp hp=> ?_⟩;rw [MK d h1 h2];unfold nJ;split
 ·exact h.ok j hj
 split
 ·exact h.ok i hi
 exact h.ok p hp
theorem Rw.grown(h:Rw w0 blk off n ok d W)(m:Nat)(os:Array Obj):Rw w0 blk off n ok d (grow (W.drewN m) os):=⟨h.size,h.sw.grown m os,h.ok⟩
theorem Rw.drew(h:Rw w0 blk off n ok d W):Rw w0 blk off n ok d W.drew:=⟨h.size,h.sw.drew,h.ok⟩
theorem Rw.cmp(h:Rw w0 blk off n ok d W)(T:sY w0 blk off n g cb cf k ok d0)(i j:Nat)(hi:i<n)(hj:j<n)(m:Nat)(os:Array Obj):
 aQ aM g (#[ν (fn d i),ν (fn d j)]++cb) (grow (W.drewN m) os) λe w'=>e=aT (ν (cf (fn d i) (fn d j)))/\∃q os',w'=grow ((grow (W.drewN m) os).drewN q) os':=by
 obtain⟨m',os',hw⟩:=h.sw.grown m os;rw [hw];exact T.cmp m' os' d h.size _ _ (h.ok i hi) (h.ok j hj)
theorem Rp(h:Rw w0 blk off n ok d W)(T:sY w0 blk off n g cb cf k ok d0)(v:aN)(cap a m b:Nat)(h1:a<m)(h2:m<b)(h3:b<=n):
 aQ aM 283 #[aH (aC ⟨blk,off,aB⟩) n cap,ν a,ν m,ν b,v] W λe w'=>e=aT (bB #[])/\∃d':Array Int,fn d'=dG (fn d) a m b/\Rw w0 blk off n ok d' w':=by
 have e:=h.size;subst e;refine(aK9 v blk off cap a m b d0 d w0 W T.row T.size h.sw h1 h2 h3 T.lt).mono ?_;rintro e w' ⟨rfl,d',hd,hf,hs⟩;refine⟨rfl,d',hf,hd,hs,λp hp=> ?_⟩;rw [hf];have mv:=Ro (fn d) (aAA h1) (aAA h2);by_cases c:a<=p/\p<b
 ·obtain⟨j,h4,h5,e⟩:=mv.to p c.1 c.2;rw [e];exact h.ok j (by omega)
 rw [mv.o p (by omega)];exact h.ok p hp
end
theorem a4n {w0:aJ} {blk off n:Nat} {g:Nat} {cb:Array aN} {cf:Int->Int->Int} {k:Int->Int} {ok:Int->Prop} {d0:Array Int}(T0:sY w0 blk off n g cb cf k ok d0)(cap a b:Nat)(d:Array Int)(w:aJ)(h:Rw w0 blk off n ok d w)(hab:a<=b)(hb:b<=n)
 (h0:∀p q,a<=p->p<q->q<b->fn d p<fn d q):
 aQ aM 264 #[aH (aC ⟨blk,off,aB⟩) n cap,ν a,ν b,.func (.func g) #[] cb] w λe w'=>e=aT (bB #[])/\∃d':Array Int,cd (fn d) (fn d') a b/\cH k (fn d') a b/\Rw w0 blk off n ok d' w':=by
 have eg:=T0.enters;have hn:=T0.lt;have mixed:aM.follows .mixedOrders=aO:=by kernel_rfl
 have T:=η T0;have HH:=η h;have H0:=η h0;clear T0 h h0;have wa:aF.wrap ((a:Int)+1)=(a:Int)+1:=by grind [fZ]
 go_enter func264,ntmps264
 go_wp2
 go_loopg [8] (b-a) (λg1 vi wr=>∃(i:Nat) (dk:Array Int),vi=ν i/\a<i/\i<=b+1/\b+1-i<=g1+1/\Hid (Rw w0 blk off n ok dk wr)/\Hid (cd (fn d) (fn dk) a i/\cH k (fn dk) a i/\(i<=b\/dk=d)))
 case atStart=>exact⟨a+1,d,by go_num,by omega,by omega,by omega,HH,cd.refl _ _ _,λ_ _ _ _ _=>by omega,aU rfl⟩
 case round=>
  clear HH wa;obtain⟨i,dk,rfl,hai,hib,hg1,S1,HO⟩:=hrel;by_cases hlt:i<b
  ·have ng:(i:Int)<(b:Int):=by omega
   have L9:Hid (Ins k (fn d) (fn dk) a i i):=Ins.start H0.o HO.o.1 HO.o.2.1 hai hlt;clear HO;go_wp2
   go_loopg [9] i (λg2 vj wr2=>∃(j:Nat) (dj:Array Int),vj=ν j/\a<=j/\j<=i/\j<=g2/\Hid (Rw w0 blk off n ok dj wr2)/\Hid (Ins k (fn d) (fn dj) a i j))
   case atStart=>exact⟨i,dk,rfl,by omega,aZ _,aZ _,S1,L9⟩
   case round=>
    clear S1 L9;obtain⟨j,dj,rfl,haj,ji,hg2,SJ,HI⟩:=hrel;by_cases hja:a<j
    ·have aGT:(a:Int)<(j:Int):=by omega
     obtain⟨jp,hjp⟩:∃q,q+1=j:=⟨j-1,by omega⟩;have zjp:(j:Int)=(jp:Int)+1:=by omega
     have aMg:decide ((jp:Int)+1>(a:Int))=aO:=decide_eq_true (by omega);have aGU:(a:Int)<(jp:Int)+1:=by omega
     by_cases hlv:k (fn dj j)<k (fn dj (j-1))
     ·have fY:Hid (Ins k (fn d) (nJ (fn dj) j (j-1)) a i (j-1)):=HI.o.step hja hlv;rw [<-MK dj (by rw [SJ.o.size];omega) (by rw [SJ.o.size];omega)] at fY;clear HI;obtain⟨iN,fG⟩:∃z9,z9=j:=⟨_,rfl⟩;obtain⟨jN,fH⟩:∃z9,z9=j-1:=⟨_,rfl⟩;have ea:((jp:Int)+1).toNat=iN:=by omega
      have pa:(0:Int)<=(jp:Int)+1:=by omega
      have ba:(jp:Int)+1<(n:Int):=by omega
      have ra:aF.wrap ((jp:Int)+1)=(jp:Int)+1:=by rw [fZ];omega
      have ec:((jp:Int)).toNat=jN:=by omega
      have pc:(0:Int)<=(jp:Int):=by omega
      have bc:(jp:Int)<(n:Int):=by omega
      have rc:aF.wrap ((jp:Int))=(jp:Int):=by rw [fZ];omega
      obtain⟨x,hx⟩:∃x,x=fn dj (j):=⟨_,rfl⟩;obtain⟨y,hy⟩:∃x,x=fn dj (j-1):=⟨_,rfl⟩;have la:=SJ.o.cl T.o (j) (by omega);have lb:=SJ.o.cl T.o (j-1) (by omega);rw [<-hx,<-fG] at la;rw [<-hy,<-fH] at lb;have hc:=SJ.o.cmp T.o (j) (j-1) (by omega) (by omega);rw [<-hx,<-hy] at hc;have hv:cf x y<0:=by rw [hx,hy];exact(T.o.neg _ _ (SJ.o.ok _ (by omega)) (SJ.o.ok _ (by omega))).2 hlv
      have hd:decide (cf x y<0)=aO:=decide_eq_true hv;clear hx hy fG fH;go_wp2_with fail
      go_quiet_grown (first|(go_at_fn g;refine Fk (hc _ _)))
      have S2:=η (SJ.o.grown nq osq);clear la lb hc SJ;generalize grow (wr.drewN nq) osq=w2 at S2 ⊢;clear nq osq ea ec pa pc ba bc ra rc hv hd;clear hlv;go_wp2_with fail
      obtain⟨iN,fG⟩:∃z9,z9=j:=⟨_,rfl⟩;obtain⟨jN,fH⟩:∃z9,z9=j-1:=⟨_,rfl⟩;have ea:((jp:Int)+1).toNat=iN:=by omega
      have pa:(0:Int)<=(jp:Int)+1:=by omega
      have ba:(jp:Int)+1<(n:Int):=by omega
      have ra:aF.wrap ((jp:Int)+1)=(jp:Int)+1:=by rw [fZ];omega
      have ec:((jp:Int)).toNat=jN:=by omega
      have pc:(0:Int)<=(jp:Int):=by omega
      have bc:(jp:Int)<(n:Int):=by omega
      have rc:aF.wrap ((jp:Int))=(jp:Int):=by rw [fZ];omega
      obtain⟨x,hx⟩:∃x,x=fn dj (j):=⟨_,rfl⟩;obtain⟨y,hy⟩:∃x,x=fn dj (j-1):=⟨_,rfl⟩;have S3:Hid (Rw w0 blk off n ok (swp dj (j) (j-1)) ((w2.setCell ⟨blk,off+iN,aB⟩ (ν y)).setCell ⟨blk,off+jN,aB⟩ (ν x)).drew):=by rw [fG,fH,hx,hy];exact S2.o.swapped T.o (j) (j-1) (by omega) (by omega)
      have ca:=S2.o.c T.o (j) (by omega);have cb:=S2.o.c T.o (j-1) (by omega);have fa:=S2.o.f T.o (j) (by omega);have fb:=S2.o.f T.o (j-1) (by omega);obtain⟨u,cc⟩:=S2.o.c2 T.o (j) (j-1) (by omega) (by omega) (ν y);rw [<-fH,<-fG] at cc;rw [<-hx,<-fG] at ca;rw [<-hy,<-fH] at cb;rw [<-fG] at fa;rw [<-fH] at fb;clear S2 hx hy fG fH;go_wp2_with fail
      go_big_region
      clear ca cb cc fa fb;generalize ((w2.setCell ⟨blk,off+iN,aB⟩ (ν y)).setCell ⟨blk,off+jN,aB⟩ (ν x)).drew=w3 at S3 ⊢;clear ea ec pa pc ba bc ra rc;go_wp2
      go_roundg (j-1)
      case measure=>omega
      case rel=>exact⟨j-1,swp dj j (j-1),by first|rfl|go_num|(congr 1;omega),by omega,by omega,aZ _,S3,fY⟩
     have fY:Hid (cH k (fn dj) a (i+1)):=HI.o.stop (aU hlv);obtain⟨iN,fG⟩:∃z9,z9=j:=⟨_,rfl⟩;obtain⟨jN,fH⟩:∃z9,z9=j-1:=⟨_,rfl⟩;have ea:((jp:Int)+1).toNat=iN:=by omega
     have pa:(0:Int)<=(jp:Int)+1:=by omega
     have ba:(jp:Int)+1<(n:Int):=by omega
     have ra:aF.wrap ((jp:Int)+1)=(jp:Int)+1:=by rw [fZ];omega
     have ec:((jp:Int)).toNat=jN:=by omega
     have pc:(0:Int)<=(jp:Int):=by omega
     have bc:(jp:Int)<(n:Int):=by omega
     have rc:aF.wrap ((jp:Int))=(jp:Int):=by rw [fZ];omega
     obtain⟨x,hx⟩:∃x,x=fn dj (j):=⟨_,rfl⟩;obtain⟨y,hy⟩:∃x,x=fn dj (j-1):=⟨_,rfl⟩;have la:=SJ.o.cl T.o (j) (by omega);have lb:=SJ.o.cl T.o (j-1) (by omega);rw [<-hx,<-fG] at la;rw [<-hy,<-fH] at lb;have hc:=SJ.o.cmp T.o (j) (j-1) (by omega) (by omega);rw [<-hx,<-hy] at hc;have hv:¬cf x y<0:=by intro h9;rw [hx,hy] at h9;have h8:=(T.o.neg _ _ (SJ.o.ok _ (by omega)) (SJ.o.ok _ (by omega))).1 h9;have h7:=hlv;omega
     have hd:decide (cf x y<0)=aP:=decide_eq_false hv;clear hx hy fG fH;go_wp2_with fail
     go_quiet_grown (first|(go_at_fn g;refine Fk (hc _ _)))
     have S2:=η (SJ.o.grown nq osq);clear la lb hc SJ;generalize grow (wr.drewN nq) osq=w2 at S2 ⊢;clear nq osq ea ec pa pc ba bc ra rc hv hd;clear hlv;go_wp2
     go_roundg (b-(i+1))
     case measure=>omega
     case rel=>exact⟨i+1,dj,by go_num,by omega,by omega,by omega,S2,HI.o.mv,fY.o,aS (by omega)⟩
    have aGT:decide ((j:Int)>(a:Int))=aP:=decide_eq_false (by omega);have aGU:¬(a:Int)<(j:Int):=by omega
    have fY:Hid (cH k (fn dj) a (i+1)):=HI.o.stop (aS (by omega));go_wp2_with fail
    go_big_region
    have S2:Hid (Rw w0 blk off n ok dj wr.drew):=SJ.o.drew;clear SJ;generalize wr.drew=w2 at S2 ⊢;go_wp2
    go_roundg (b-(i+1))
    case measure=>omega
    case rel=>exact⟨i+1,dj,by go_num,by omega,by omega,by omega,S2,HI.o.mv,fY.o,aS (by omega)⟩
  have ng:¬(i:Int)<(b:Int):=by omega
  go_wp2
  go_end0
  refine⟨rfl,dk, ?_,λp q h1 h2 h3=>HO.o.2.1 p q h1 h2 (by omega),S1.o⟩;rcases HO.o.2.2 with e|e
  ·have e:i=b:=by omega
   exact e▸HO.o.1
  grind [cd.refl]
end
end Go.Proofs.YtdokipdchlcmeaaGreat
