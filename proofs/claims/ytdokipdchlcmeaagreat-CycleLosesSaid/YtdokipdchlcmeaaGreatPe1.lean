/-
  Several texts in one, for one claim (printed by pack.py).
-/
import Derived.WalkKit
import Derived.WalkSpells
import Derived.WalkLawsBesides
import Derived.Lib.Hide
import Derived.Deep.AppendLies
import Derived.Deep.Draws
import Derived.Deep.RegionHeld
import Derived.Deep.LoopGhost
import Derived.Test.YtdokipdchlcmeaaGreatProg
import Derived.Lib.SlicesCompact
import Derived.Sort.OwnSortedInts
import Derived.Deep.QuietTactic
import Derived.BigQuiet
import Derived.Deep.RegionHeld3
import Derived.Deep.Cut
import Derived.Shelf.Small.Bits
import Derived.Shelf.Small.Wraps
import Derived.Shelf.Strconv.Itoa0
import Derived.Shelf.Sort.Plain
import Derived.Shelf.Bits.Mul64
import Derived.Shelf.Slices.Turned
import Derived.Ground.Names2Prog
import Derived.Shelf.Slices.Clone
import Derived.Shelf.Slices.CompactI
import Derived.Shelf.Slices.SearchI
import Derived.Shelf.Slices.Cells
import Derived.Shelf.Slices.In.SortNone
import Derived.Ground.SlgnProg
import Derived.Shelf.SlicesE.Clone
import Derived.Ground.SlsfProg
import Derived.Shelf.SlSortCmp.Insertion
import Derived.Ground.GgzProg
import Derived.Shelf.SlIterI.Nil
import Derived.Laws.Bits64b
import Derived.Lib.BitFns
import Derived.Shelf.SlSortCmp.Kit1
import Derived.Sort.WalkB2
import Derived.BigRegion
set_option linter.all false
set_option maxRecDepth 100000
set_option maxHeartbeats 12800000
open Array renaming getElem?_eq_some_iff→fY
open Bool renaming true→aO,false→aP
open Go renaming World→aJ,Value→aN,Calls→aQ,Addr→ai,cell_of_row→bG,TypeId→bX,heap_alloc_new→cT,Ending→di
open Go.Calls renaming grown_of→FO
open Go.Ending renaming returned→aU
open Go.IntKind renaming i64→aF,wrap_i64→fW,u64→mC,wrap_u64→uo
open Go.Lib renaming bitLen→sO,compact→sP,keeps→Th,compactUpTo→Zl
open Go.Obj renaming cells→aK
open Go.Proofs renaming intOf→ag
open Go.Proofs.Lays renaming n107→aLc,n134→aLd,n189→aLe,n264→aLf
open Go.Proofs.Lays2 renaming n15→aLg,n20→aLh
open Go.Proofs.Mul64 renaming wrapN→Fv,mulN→Oa,divN→a9a,maskN→a9b
open Go.Proofs.SlLaysE0 renaming n41→aLi
open Go.Proofs.SlLaysZI renaming n6→aLj,n7→aLk
open Go.Proofs.Tryz renaming prog→aM,underlying53→mD,underlying3→wS,underlying46→yD,underlying4→BA,isAgg3→Cl,isAgg4→Cm,sizeOf3→Cn,sizeOf4→Co,zeroValue3→Cp,zeroValue4→Cq,func205→GC,isAgg0→GD,ntmps205→GF,sizeOf0→GG,underlying0→GH,underlying272→GI,zeroValue0→GK,isAgg46→LZ,sizeOf46→Lb,zeroValue46→Lc,isAgg9→Ov,sizeOf9→Ox,underlying9→P0,zeroValue9→P1,func246→U8,ntmps246→UF,isAgg237→a0T,isAgg240→a0U,sizeOf237→a0p,sizeOf240→a0q,underlying237→a0u,underlying240→a0v,zeroValue237→a0x,zeroValue240→a0y,func277→aAR,func295→aAV,isAgg310→aAl,isAgg5→aAm,ntmps295→aBG,sizeOf310→aBa,sizeOf5→aBb,underlying310→aBe,underlying5→aBf,zeroValue310→aBh,zeroValue5→aBi
open Go.RowKit renaming Below→aa,wrap64→fV
open Go.RowKit.Below renaming refl→aX
open Go.Shelf renaming Ren→yh
open Go.Value renaming int→aG,slice→aH,tuple→bB,pointer→bH,bool→bM,agg→bO
open Go.World renaming cell?_alloc_lt→qO
open Int renaming le_refl→dH,le_trans→jm,natCast_ediv→EB,mul_le_mul_of_nonneg_right→LL,le_of_mul_le_mul_left→a9H,lt_of_mul_lt_mul_left→a9I,mul_le_mul_of_nonneg_left→a9J
open List renaming length→aA,take_length→cU,range→dQ,mem_map→dV,take_succ_eq_append_getElem→fF,replicate→gN,getElem?_eq_getElem→iA,mem_filter→j6,mem_range→nH,mem_iff_getElem→sR,pairwise_iff_getElem→uu,flatMap_cons→wP,pairwise_map→B8
open List.Pairwise renaming imp_of_mem→OW,filter→aLp
open Nat renaming le_refl→aZ,zero_le→bL,le_trans→cC,lt_of_lt_of_le→cR,lt_or_ge→rF,mul_le_mul→yC,add_mul→Fw,div_lt_iff_lt_mul→Fy,mul_le_mul_right→Fz,mod_lt→JH,div_add_mod→LR,lt_trans→LS,le_div_iff_mul_le→Zr,le_antisymm→a9e,le_of_lt→a9f,mul_comm→a9h
open Option renaming none→aB,some→aC
open Or renaming inl→aS,inr→aT
open True renaming intro→zJ
namespace Go.Proofs.YtdokipdchlcmeaaGreat
open Go.Proofs.Tryz Go.RowKit
section
theorem aBx(a:ai)(n:Nat):(a.add n).block=a.block:=by grind [Addr.add]
theorem a1E(a:ai)(i j:Nat):(a.add i).add j=a.add (i+j):=by grind [Addr.add]
def aW(w:aJ)(B:Nat)(A:Option ai)(xs:List aN):Prop:=
 ∀j u,xs[j]? =aC u->∃b o,A=aC ⟨b,o,aB⟩/\b<B/\w.cell? ⟨b,o+j,aB⟩=aC u
section
variable {w w':aJ} {B B':Nat} {A:Option ai} {xs:List aN}
theorem aW.nil:aW w B A []:=λj u h=>by simp at h
theorem aW.keep(h:aW w B A xs)(hk:∀p:ai,p.block<B->w'.cell? p=w.cell? p):aW w' B A xs:=λj u hu=>by obtain⟨b,o,e,hb,hc⟩:=h j u hu;grind
theorem aW.below(h:aW w B A xs)(hb:aa B w w'):aW w' B A xs:=h.keep λ_ hp=>hb.cell hp
theorem aW.mono(h:aW w B A xs)(hB:B<=B'):aW w B' A xs:=λj u hu=>by obtain⟨b,o,e,hb,hc⟩:=h j u hu;grind
theorem aW.at(h:aW w B A xs) {k:Nat}(hk:k<aA xs):∃b o,A=aC ⟨b,o,aB⟩/\b<B/\w.cell? ⟨b,o+k,aB⟩=aC xs[k]:=
 h k _ (iA hk)
theorem aW.run(h:aW w B A xs) {i:Nat} {y:aN} {t:List aN}(hs:∀j u,(y::t)[j]? =aC u->xs[i+j]? =aC u):
 ∃b o,A=aC ⟨b,o,aB⟩/\b<B/\∀j u,(y::t)[j]? =aC u->w.cell? ⟨b,o+i+j,aB⟩=aC u:=by
 obtain⟨b,o,e,hb,_⟩:=h (i+0) y (hs 0 y (by simp));refine⟨b,o,e,hb,λj u hu=> ?_⟩;obtain⟨b',o',e',_,hc⟩:=h (i+j) u (hs j u hu);grind
theorem aW.cA {base:Nat} {e:bX} {size n c:Nat}(h:w.ownsRow base e size (aH A n c) n xs):aW w w.heap.size A xs:=by
 intro j u hu;have hn:0<n:=by
  rcases Nat.eq_zero_or_pos n with h0|h0
  ·have h1:=h.1;grind
  exact h0
 obtain⟨g,cap,hv,_,hlt⟩:=h.form hn;have hA:A=aC ⟨g,0,aB⟩:=by injection hv
 subst hA;refine⟨g,0,rfl,hlt, ?_⟩;have hc:=h.cells (g:=g) rfl j u hu;grind [Addr.add]
end
theorem tC {α:Type}(f:α->List aN)(n:Nat)(hf:∀a,aA (f a)=n):∀(l:List α) (k:Nat) (hk:k<aA l) (j:Nat) (u:aN),(f l[k])[j]? =aC u->(l.flatMap f)[k*n+j]? =aC u
 | [],_,hk,_,_,_=>absurd hk (by simp)
 |a::l,0,_,j,u,h=>by grind
 |a::l,k+1,hk,j,u,h=>by
  have e:(k+1)*n+j=n+(k*n+j):=by grind
  rw [wP,e,List.getElem?_append_right (by rw [hf];omega),hf,Nat.add_sub_cancel_left];exact tC f n hf l k (by simpa using hk) j u h
theorem below_drewN {B:Nat} {a w:aJ}(h:aa B a w)(n:Nat):aa B a (w.drewN n):=⟨h.os,h.tape,h.output,h.size,h.block⟩
theorem ez {W w1:aJ}(hb:aa W.heap.size W w1):(∀b o,b<W.heap.size->w1.cell? ⟨b,o,aB⟩=W.cell? ⟨b,o,aB⟩)/\(∀b o,b<W.heap.size->w1.frozen? ⟨b,o,aB⟩=W.frozen? ⟨b,o,aB⟩):=
 ⟨λb o h=>hb.cell (p:=⟨b,o,aB⟩) h,λb o h=>hb.frozen (p:=⟨b,o,aB⟩) h⟩
theorem cM(w:aJ)(cs:Array aN)(t:bX) {b:Nat}(j:Nat)(hb:b=w.heap.size):(w.alloc (aK cs t)).cell? ⟨b,j,aB⟩=cs[j]? :=by subst hb;exact bG _ _ _ cs t (0,0) (cT w _)
theorem BH(w:aJ)(o:Obj) {b:Nat}(j:Nat)(hb:b<w.heap.size):(w.alloc o).cell? ⟨b,j,aB⟩=w.cell? ⟨b,j,aB⟩:=qO _ _ _ hb
section
variable {w:aJ} {base:Nat} {e:bX} {size n:Nat} {v:aN} {xs:List aN}
theorem bJ(h:w.ownsRow base e size v n xs):∃A c,v=aH A n c:=by
 rcases h.2 with⟨rfl,rfl⟩|⟨g,cap,cur,rfl,_⟩
 ·grind
 exact⟨_,_,rfl⟩
theorem ei(h:w.ownsRow base e size v n xs):∀k,v.ownBlock=aC k->base<=k:=λk hk=>(h.lt k hk).1
end
theorem MS(w:aJ)(o:Obj) {b:Nat}(hb:b=w.heap.size):(w.alloc o).heap[b]? =aC o:=by subst hb;exact cT w o
theorem fG(w:aJ)(o:Obj) {b:Nat}(hb:b<w.heap.size):(w.alloc o).heap[b]? =w.heap[b]? :=Below.heap_alloc w o b hb
theorem dM(w:aJ)(t:bX)(cs:Array aN) {b:Nat}(hb:b=w.heap.size):∀j u,cs.toList[j]? =aC u->(w.alloc (aK cs t)).cell? ((⟨b,0,aB⟩:ai).add j)=aC u:=by grind [Addr.add,cM]
theorem xQ {k:IntKind} {a:Int}:∀u∈ [aG k a],u.oneCell'=aO:=by intro u hu;simp at hu;subst hu;rfl
theorem Da(w:aJ)(e:bX)(size:Nat):(w.alloc (aK #[] e)).ownsRow w.heap.size e size (aH (aC ⟨w.heap.size,0,aB⟩) 0 0) 0 []:=
 ⟨by simp,Or.inr ⟨w.heap.size,0, #[],rfl,aZ _,cT w _,aZ _,bL _,by simp,by simp⟩⟩
theorem De {P:Program} {t e:bX}(h:P.underlying t=aC (.slice e))(w:aJ)(a:Option ai)(n c:Nat):(binOp .eql t (.slice a n c) (.slice aB 0 0)).run P w= .ok (.bool a.isNone) w:=by
 have hd:∀d:Nat,(Op.equalIn (d+1) t (.slice a n c) (.slice aB 0 0)).run P w= .ok a.isNone w:=λd=>by cases a<;>simp [Op.equalIn,run_underlying h]
 simp only [binOp];simp [Op.equal,Op.maxDepth,hd 9999]
end
section
universe u
theorem _root_.Go.RowKit.Hid.o {p:Prop}(h:Hid p):p:=h
theorem _root_.Go.Shut.o {p:Prop}(h:Shut p):p:=h
theorem _root_.Go.Aside.o {p:Prop}(h:Aside p):p:=h
abbrev ν(n:Int):aN:=aG aF n
abbrev π(b:Nat):aN:=bH (aC ⟨b,0,aB⟩)
abbrev β(w w':aJ):Prop:=aa w.heap.size w w'
theorem η {p:Prop}(h:p):Hid p:=h
theorem τ {w w1 w2:aJ}(h:Hid (aa w.heap.size w w1))(g:aa w1.heap.size w1 w2):Hid (aa w.heap.size w w2):=h.o.trans (g.mono h.o.size)
theorem σ {w:aJ} {o:Obj}:aa w.heap.size w (w.alloc o):=(aX _ _).alloc (aZ _) o
theorem ρ {w:aJ} {k i:Nat} {cs:Array aN} {t:bX}(h:w.heap[k]? =aC (aK cs t (0,0))):w.cell? ⟨k,i,aB⟩=cs[i]? :=bG _ _ _ _ _ _ h
theorem r1c {w:aJ} {b:Nat} {t:bX} {x0:aN} {l:List aN}(h:Hid (w.heap[b]? =aC (aK ⟨x0::l⟩ t (0,0)))):w.cell? ⟨b,0,aB⟩=aC x0:=bG _ _ _ _ _ (0,0) h
theorem NP {w:aJ} {b:Nat} {t:bX} {x0 x1 x2:aN} {l:List aN}(h:Hid (w.heap[b]? =aC (aK ⟨x0::x1::x2::l⟩ t (0,0)))):w.cell? ⟨b,0,aB⟩=aC x0/\w.cell? ⟨b,1,aB⟩=aC x1/\w.cell? ⟨b,2,aB⟩=aC x2:=⟨bG _ _ _ _ _ (0,0) h,bG _ _ _ _ _ (0,0) h,bG _ _ _ _ _ (0,0) h⟩
theorem RO {w:aJ} {b:Nat} {t:bX} {x0 x1 x2 x3:aN} {l:List aN}(h:Hid (w.heap[b]? =aC (aK ⟨x0::x1::x2::x3::l⟩ t (0,0)))):w.cell? ⟨b,0,aB⟩=aC x0/\w.cell? ⟨b,1,aB⟩=aC x1/\w.cell? ⟨b,2,aB⟩=aC x2/\w.cell? ⟨b,3,aB⟩=aC x3:=⟨bG _ _ _ _ _ (0,0) h,bG _ _ _ _ _ (0,0) h,bG _ _ _ _ _ (0,0) h,bG _ _ _ _ _ (0,0) h⟩
theorem r5c {w:aJ} {b:Nat} {t:bX} {x0 x1 x2 x3 x4:aN} {l:List aN}(h:Hid (w.heap[b]? =aC (aK ⟨x0::x1::x2::x3::x4::l⟩ t (0,0)))):w.cell? ⟨b,0,aB⟩=aC x0/\w.cell? ⟨b,1,aB⟩=aC x1/\w.cell? ⟨b,2,aB⟩=aC x2/\w.cell? ⟨b,3,aB⟩=aC x3/\w.cell? ⟨b,4,aB⟩=aC x4:=⟨bG _ _ _ _ _ (0,0) h,bG _ _ _ _ _ (0,0) h,bG _ _ _ _ _ (0,0) h,bG _ _ _ _ _ (0,0) h,bG _ _ _ _ _ (0,0) h⟩
theorem ifN {c:Prop} {h:Decidable c}(xG:¬c) {α:Sort u} {t e:α}:ite c t e=e:=by simp [xG]
theorem ifP {c:Prop} {h:Decidable c}(hc:c) {α:Sort u} {t e:α}:ite c t e=t:=by simp [hc]
theorem κ {P:Program} {f:FuncId} {vs:Array aN} {w0 w:aJ} {v:di} {Q:di->aJ->Prop}(c:aQ P f vs w λe w'=>e=v/\aa w.heap.size w w')(h:Hid (aa w0.heap.size w0 w))(k:∀w',Hid (aa w0.heap.size w0 w')->Q v w'):aQ P f vs w Q:=
 c.mono λ_ w' ⟨he,hb⟩=>by subst he;exact k w' (h.o.trans (hb.mono h.o.size))
theorem lu {P:Program} {f:FuncId} {vs:Array aN} {w:aJ} {v:di} {Q:di->aJ->Prop}(c:aQ P f vs w λe w'=>e=v/\aa w.heap.size w w')(k:∀w',Hid (aa w.heap.size w w')->Q v w'):aQ P f vs w Q:=
 c.mono λ_ w' ⟨he,hb⟩=>by subst he;exact k w' hb
theorem xq {α:Sort u}(a:α):∃b,b=a:=⟨_,rfl⟩
theorem xr {α:Sort u}(a:α):∃b,Hid (a=b):=⟨_,rfl⟩
abbrev ξ(b i:Nat):aN:=bH (aC ⟨b,i,aB⟩)
end
def aL(x:Int):Prop:= -9223372036854775808<=x/\x<=9223372036854775807
instance(x:Int):Decidable (aL x):=inferInstanceAs (Decidable (_/\_))
def gP(x:Int):Int:=if aL x then x else 0
def dL(x:Int):Int:=if aL x then 0 else 2
theorem dy {x:Int}(h:aL x):gP x=x/\dL x=0:=by simp [gP,dL,h]
theorem gh {x:Int}(h:¬aL x):gP x=0/\dL x=2:=by simp [gP,dL,h]
theorem UQ(x:Int):aL (gP x):=by grind [gP,aL]
theorem my {k:IntKind} {a b c d:Int}(h:a=c)(h':b=d):
 aU (bB #[aG k a,aG k b])=aU (bB #[aG k c,aG k d]):=by rw [h,h']
structure Pr where
 a:Int
 b:Int
def Pr.cells(x:Pr):List aN:= [aG aF x.a,aG aF x.b]
def jU(l:List Pr):List aN:=l.flatMap Pr.cells
structure Cy where
 a:Int
 b:Int
 c:Int
 d:Int
def Cy.cells(x:Cy):List aN:= [aG aF x.a,aG aF x.b,aG aF x.c,aG aF x.d]
def uI(l:List Cy):List aN:=l.flatMap Cy.cells
theorem FB {w:aJ} {B:Nat} {A:Option ai} {l:List Pr}(h:aW w B A (jU l)) {k:Nat}(hk:k<aA l):
 ∃b o,A=aC ⟨b,o,aB⟩/\b<B/\w.cell? ⟨b,o+k*2,aB⟩=aC (ν l[k].a)/\w.cell? ⟨b,o+k*2+1,aB⟩=aC (ν l[k].b):=by
 obtain⟨b,o,e,hb,hc⟩:=h.run (i:=k*2) (y:=ν l[k].a) (t:= [ν l[k].b]) (λj u hu=>tC Pr.cells 2 (λ_=>rfl) l k hk j u hu);exact⟨b,o,e,hb,hc 0 _ rfl,hc 1 _ rfl⟩
theorem a1t {w:aJ} {B:Nat} {A:Option ai} {l:List Cy}(h:aW w B A (uI l)) {k:Nat}(hk:k<aA l):
 ∃b o,A=aC ⟨b,o,aB⟩/\b<B/\w.cell? ⟨b,o+k*4,aB⟩=aC (ν l[k].a)/\w.cell? ⟨b,o+k*4+1,aB⟩=aC (ν l[k].b)/\w.cell? ⟨b,o+k*4+2,aB⟩=aC (ν l[k].c)/\w.cell? ⟨b,o+k*4+3,aB⟩=aC (ν l[k].d):=by
 obtain⟨b,o,e,hb,hc⟩:=h.run (i:=k*4) (y:=ν l[k].a) (t:= [ν l[k].b,ν l[k].c,ν l[k].d]) (λj u hu=>tC Cy.cells 4 (λ_=>rfl) l k hk j u hu);exact⟨b,o,e,hb,hc 0 _ rfl,hc 1 _ rfl,hc 2 _ rfl,hc 3 _ rfl⟩
structure ak where
 ms:List Pr
 Am:Option ai
 cm:Nat
 ss:List Pr
 As:Option ai
 cs:Nat
 cy:List Cy
 Ac:Option ai
 cc:Nat
 line:Int
 bu:Int
 lead:Int
 tr:Int
 bY:Int
def ak.vals(x:ak):Array aN:= #[aH x.Am (aA x.ms) x.cm,aH x.As (aA x.ss) x.cs,aH x.Ac (aA x.cy) x.cc,aG aF x.line,aG aF x.bu,aG aF x.lead,aG aF x.tr,aG aF x.bY]
def ak.val(x:ak):aN:=bO #[aH x.Am (aA x.ms) x.cm,aH x.As (aA x.ss) x.cs,aH x.Ac (aA x.cy) x.cc,aG aF x.line,aG aF x.bu,aG aF x.lead,aG aF x.tr,aG aF x.bY]
structure lS(w:aJ)(x:ak):Prop where
 m:aW w w.heap.size x.Am (jU x.ms)
 s:aW w w.heap.size x.As (jU x.ss)
 c:aW w w.heap.size x.Ac (uI x.cy)
theorem lS.below {w w':aJ} {x:ak}(h:lS w x)(hb:aa w.heap.size w w'):lS w' x:=⟨(h.m.below hb).mono hb.size,(h.s.below hb).mono hb.size,(h.c.below hb).mono hb.size⟩
structure pL(w:aJ)(bx:Nat)(x:ak):Prop where
 c0:w.cell? ⟨bx,0,aB⟩=aC (aH x.Am (aA x.ms) x.cm)
 c1:w.cell? ⟨bx,1,aB⟩=aC (aH x.As (aA x.ss) x.cs)
 c2:w.cell? ⟨bx,2,aB⟩=aC (aH x.Ac (aA x.cy) x.cc)
 c3:w.cell? ⟨bx,3,aB⟩=aC (ν x.line)
 c4:w.cell? ⟨bx,4,aB⟩=aC (ν x.bu)
 c5:w.cell? ⟨bx,5,aB⟩=aC (ν x.lead)
 c6:w.cell? ⟨bx,6,aB⟩=aC (ν x.tr)
 c7:w.cell? ⟨bx,7,aB⟩=aC (ν x.bY)
 lt:bx<w.heap.size
theorem zS(w:aJ)(x:ak):pL (w.alloc (aK #[aH x.Am (aA x.ms) x.cm,aH x.As (aA x.ss) x.cs,aH x.Ac (aA x.cy) x.cc,aG aF x.line,aG aF x.bu,aG aF x.lead,aG aF x.tr,aG aF x.bY] 26)) w.heap.size x:=
 ⟨cM _ _ _ 0 rfl,cM _ _ _ 1 rfl,cM _ _ _ 2 rfl,cM _ _ _ 3 rfl,cM _ _ _ 4 rfl,cM _ _ _ 5 rfl,cM _ _ _ 6 rfl,cM _ _ _ 7 rfl,by simp⟩
theorem pL.below {w w':aJ} {bx:Nat} {x:ak}(h:pL w bx x)(hb:aa w.heap.size w w'):pL w' bx x:=
 have k:=λo=>hb.cell (p:=⟨bx,o,aB⟩) h.lt
 ⟨(k 0).trans h.c0,(k 1).trans h.c1,(k 2).trans h.c2,(k 3).trans h.c3,(k 4).trans h.c4,(k 5).trans h.c5,(k 6).trans h.c6,(k 7).trans h.c7,cR h.lt hb.size⟩
theorem mE(w:aJ)(x:ak):aa w.heap.size w (w.alloc (aK #[aH x.Am (aA x.ms) x.cm,aH x.As (aA x.ss) x.cs,aH x.Ac (aA x.cy) x.cc,aG aF x.line,aG aF x.bu,aG aF x.lead,aG aF x.tr,aG aF x.bY] 26)):=(aX _ _).alloc (aZ _) _
structure En where
 k:Int
 m:Int
 a:Int
 n:Int
def En.cells(x:En):List aN:= [aG aF x.k,aG aF x.m,aG aF x.a,aG aF x.n]
def qT(l:List En):List aN:=l.flatMap En.cells
def En.spot(x:En):Int×Int×Int:=(x.k,x.m,x.a)
structure En.ok(x:En):Prop where
 k:aL x.k
 m:aL x.m
 a:aL x.a
 n:aL x.n
theorem Uz {w:aJ} {B:Nat} {A:Option ai} {l:List En}(h:aW w B A (qT l)) {k:Nat}(hk:k<aA l):
 ∃b o,A=aC ⟨b,o,aB⟩/\b<B/\w.cell? ⟨b,o+k*4,aB⟩=aC (ν l[k].k)/\w.cell? ⟨b,o+k*4+1,aB⟩=aC (ν l[k].m)/\w.cell? ⟨b,o+k*4+2,aB⟩=aC (ν l[k].a)/\w.cell? ⟨b,o+k*4+3,aB⟩=aC (ν l[k].n):=by
 obtain⟨b,o,e,hb,hc⟩:=h.run (i:=k*4) (y:=ν l[k].k) (t:= [ν l[k].m,ν l[k].a,ν l[k].n]) (λj u hu=>tC En.cells 4 (λ_=>rfl) l k hk j u hu);exact⟨b,o,e,hb,hc 0 _ rfl,hc 1 _ rfl,hc 2 _ rfl,hc 3 _ rfl⟩
def gq(l:List En)(q:Int×Int×Int):List Int:=(l.filter λx=>x.spot==q).map En.n
def gp(l:List En)(i:Nat):List Int:=(l.filter λx=>x.a==(i:Int)).map En.n
theorem a1Z(l:List En)(x:En)(q:Int×Int×Int):gq (l++ [x]) q=if q=x.spot then gq l q++ [x.n] else gq l q:=by grind [gq]
theorem a1W(l:List En)(x:En)(i:Nat):gp (l++ [x]) i=if x.a=(i:Int) then gp l i++ [x.n] else gp l i:=by grind [gp]
theorem a1Y(l:List En)(q:Int×Int×Int):aA (gq l q)<=aA l:=by grind [gq]
theorem Ud(l:List En)(i:Nat):aA (gp l i)<=aA l:=by grind [gp]
def ordF:List En->List En->List (Int×Int×Int)
 |_,[]=> []
 |pre,x::l=>(if (gq pre x.spot).isEmpty then [x.spot] else [])++ordF (pre++ [x]) l
def cu(l:List En):List (Int×Int×Int):=ordF [] l
theorem a5Z:∀(pre l:List En) (x:En),ordF pre (l++ [x])=ordF pre l++(if (gq (pre++l) x.spot).isEmpty then [x.spot] else [])
 |pre,[],x=>by simp [ordF]
 |pre,y::l,x=>by rw [List.cons_append,ordF,ordF,a5Z (pre++ [y]) l x,List.append_assoc,List.append_assoc];rfl
theorem RB(l:List En)(x:En):cu (l++ [x])=cu l++(if (gq l x.spot).isEmpty then [x.spot] else []):=by grind [cu,a5Z]
theorem RA:∀(pre l:List En),aA (ordF pre l)<=aA l
 |_,[]=>by simp [ordF]
 |pre,x::l=>by have:=RA (pre++ [x]) l;grind [ordF]
def NV(q:Int×Int×Int):List aN:= [aG aF q.1,aG aF q.2.1,aG aF q.2.2]
def IE(l:List (Int×Int×Int)):List aN:=l.flatMap NV
theorem aKD(l:List (Int×Int×Int))(q:Int×Int×Int):IE (l++ [q])=IE l++NV q:=by simp [IE]
theorem M7(zs:List Int) {j:Nat}(hj:j<aA zs):zs.toArray[j]! =zs[j]:=by simp [hj]
theorem aHQ(zs:List Int)(x:Int):x∈sP zs↔x∈zs:=by
 unfold sP Zl;rw [dV];constructor
 ·grind
 intro hx;obtain⟨j,hj,rfl⟩:=sR.1 hx;clear hx;induction j using Nat.strongRecOn with
 |_ j ih=>
  by_cases hk:Th zs.toArray j=aO
  ·exact⟨j,j6.2 ⟨nH.2 hj,hk⟩,M7 zs hj⟩
  grind [Th]
theorem aDl(zs:List Int)(h:zs.Pairwise (· <= ·)):(sP zs).Pairwise (· < ·):=by
 unfold sP Zl;rw [B8];have hr:((dQ (aA zs)).filter (Th zs.toArray)).Pairwise (· < ·):=aLp _ List.pairwise_lt_range;refine OW (λ{a b} ha hb hab=> ?_) hr;have hb1:=nH.1 (j6.1 hb).1;have hk:=(j6.1 hb).2;simp only [Th,decide_eq_true_eq] at hk;have ha1:a<aA zs:=by omega
 have hb2:b-1<aA zs:=by omega
 rcases hk with hk|hk
 ·omega
 rw [M7 zs hb1,M7 zs hb2] at hk;rw [M7 zs ha1,M7 zs hb1];have h1:zs[a]<=zs[b-1]:=by
  rcases rF a (b-1) with h2|h2
  ·grind [uu]
  grind
 have h2:zs[b-1]<=zs[b]:=uu.1 h (b-1) b hb2 hb1 (by omega);omega
theorem aDk(zs:List Int):aA (sP zs)<=aA zs:=by grind [sP,Zl]
def qc(zs:List Int):List Int:=sP (zs.mergeSort λx y=>decide (x<=y))
theorem R8(zs:List Int)(x:Int):x∈qc zs↔x∈zs:=by grind [qc,aHQ,List.mem_mergeSort]
theorem a5X(zs:List Int):(qc zs).Pairwise (· < ·):=by refine aDl _ ?_;grind [List.pairwise_mergeSort]
theorem R9:qc []= []:=by unfold qc;rw [List.mergeSort_nil];rfl
section
open Go.Sort
theorem cY {k:IntKind} {a b:Int}(h:a=b):aU (aG k a)=aU (aG k b):=by rw [h]
theorem fP {a b:Bool}(h:a=b):aU (bM a)=aU (bM b):=by rw [h]
theorem tK {w:aJ} {B:Nat} {A:Option ai} {zs:List Int}(h:aW w B A (zs.map (aG aF))) {k:Nat}(hk:k<aA zs):∃b o,A=aC ⟨b,o,aB⟩/\b<B/\w.cell? ⟨b,o+k,aB⟩=aC (aG aF zs[k]):=by obtain⟨b,o,e,hb,hc⟩:=h.at (k:=k) (by simpa using hk);grind
theorem Xe {w:aJ} {B b o:Nat} {zs:List Int}(h:aW w B (aC ⟨b,o,aB⟩) (zs.map (aG aF))):∀j,j<aA zs->w.cell? ⟨b,o+j,aB⟩=aC (aG aF (zs.getD j 0)):=λj hj=>by grind [tK]
theorem Qp:(aM.info? 3).map (λi=>(i.zero,i.size,i.bytes))=aC (aC (aG aF 0),1,8):=by kernel_rfl
theorem aDw(m:Int) {l:List Int} {k:Nat}(hk:k<aA l):(l.take (k+1)).contains m=((l.take k).contains m||l[k]==m):=by grind [fF]
theorem zM {α:Type}(p:α->Bool) {l:List α} {k:Nat}(hk:k<aA l):(l.take (k+1)).any p=((l.take k).any p||p l[k]):=by grind [fF]
theorem Pc {α:Type}(p:α->Bool) {l:List α} {k:Nat}(hk:k<aA l):(l.take (k+1)).filter p=(l.take k).filter p++(if p l[k] then [l[k]] else []):=by grind [fF]
theorem Pb {α:Type}(p:α->Bool)(l:List α)(k:Nat):aA ((l.take k).filter p)<=k:=by grind
def hasB(zs:List Int)(m:Int):Bool:=zs.contains m
def YX(w:aJ)(zs:List Int)(e:di)(w':aJ):Prop:=∃A c,e=aU (aH A (aA zs) c)/\aW w' w'.heap.size A (zs.map (aG aF))/\aa w.heap.size w w'
theorem jT {w:aJ} {base base':Nat} {e:bX} {size n:Nat} {v:aN} {xs:List aN}(h:w.ownsRow base e size v n xs)(hb:base'<=base):w.ownsRow base' e size v n xs:=by
 rcases h.2 with⟨rfl,rfl⟩|⟨g,cap,cur,rfl,hg,hh,xG,hcm,hcs,Hq⟩
 ·exact⟨h.1,aS ⟨rfl,rfl⟩⟩
 exact⟨h.1,Or.inr ⟨g,cap,cur,rfl,cC hb hg,hh,xG,hcm,hcs,Hq⟩⟩
theorem aId {w:aJ} {base g cap n k:Nat} {e:bX} {xs:List aN}(h:w.ownsRow base e 1 (aH (aC ⟨g,0,aB⟩) n cap) n xs)(hk:k<=n):w.ownsRow base e 1 (aH (aC ⟨g,0,aB⟩) k cap) k (xs.take k):=by
 have hl:aA xs=n:=by simpa using h.1
 rcases h.2 with⟨h0,_⟩|⟨g',cap',cur,hv,hg,hh,xG,hcm,hcs,Hq⟩
 ·cases h0
 injection hv with e1 e2 e3;injection e1 with e1;injection e1 with e1 _;subst e1 e3;refine⟨by simp;omega,Or.inr ⟨g,cap,cur,rfl,hg,hh,by omega,hcm,hcs, ?_⟩⟩;grind
theorem a6t {w w':aJ} {base g cap n:Nat} {os:Array Obj} {zs:List Int}(h:w.ownsRow base 3 1 (aH (aC ⟨g,0,aB⟩) (aA zs) cap) (aA zs) (zs.map (aG aF))) {ts:List Int}(hl:aA ts=aA zs)(hw:w'=grow (putRow (aG aF) (Sort.ahead w n) g 0 ts.toArray) os):
 w'.ownsRow base 3 1 (aH (aC ⟨g,0,aB⟩) (aA zs) cap) (aA zs) (ts.map (aG aF))/\w.grownBy w' (aC g):=by
 rcases h.2 with⟨h0,_⟩|⟨g',cap',cur,hv,hg,hh,xG,hcm,hcs,Hq⟩
 ·cases h0
 injection hv with e1 e2 e3;injection e1 with e1;injection e1 with e1 _;subst e1 e3 hw;exact⟨ownsRow_sortedI hl hg hh xG hcm hcs,grownBy_sortedI _⟩
theorem a5g {w:aJ} {base g cap:Nat} {zs:List Int}(h:w.ownsRow base 3 1 (aH (aC ⟨g,0,aB⟩) (aA zs) cap) (aA zs) (zs.map (aG aF))):Holds (aG aF) w g 0 zs.toArray/\g<w.heap.size/\aA zs<=cap:=by
 rcases h.2 with⟨h0,_⟩|⟨g',cap',cur,hv,hg,hh,xG,hcm,hcs,Hq⟩
 ·cases h0
 injection hv with e1 e2 e3;injection e1 with e1;injection e1 with e1 _;subst e1 e3;exact⟨holds_of_blockI hh (by simpa using Hq),(fY.1 hh).1,xG⟩
theorem Xf {w:aJ} {base n:Nat} {v:aN} {zs:List Int}(h:w.ownsRow base 3 1 v (aA zs) (zs.map (aG aF)))(hn:aA zs=n):∃A c,v=aH A n c/\aW w w.heap.size A (zs.map (aG aF)):=by grind [bJ,aW.cA]
end
def Bo(k:Int):Int:=if k=7 then 0 else if k=8 then 1 else if k=9 then 2 else-1
def jx(M:Nat)(k m:Int):Option Nat:=
 if 1<=k/\k<=6/\m=0 then aC (k-1).toNat else if 7<=k/\k<=9/\1<=m/\m<=(M:Int) then aC (6+3*(m-1)+(k-7)).toNat else aB
def numV(o:Option Nat):Int:=match o with|some n=>n|none=>0
def nZ(o:Option Nat):Int:=match o with|some _=>0|none=>8
def uK(k:Int):Bool:=k==5||k==6||k==7
theorem a5N {M:Nat} {k m:Int} {n:Nat}(h:jx M k m=aC n):n<6+3*M:=by grind [jx]
theorem Cx(M:Nat)(hM:M<=16)(w:aJ):aQ aM 203 #[aG aF (M:Int)] w λe w'=>e=aU (bM aO)/\w=w':=by
 have hb:(M:Int)<=16:=by omega
 go_enter func203,ntmps203
 go_wp2
 go_ret;exact⟨fP (by simpa using hb),rfl⟩
theorem a1b(M:Nat)(hM:M<=16)(w:aJ):aQ aM 146 #[aG aF (M:Int)] w λe w'=>e=aU (aG aF (((6+3*M:Nat)):Int))/\w=w':=by
 go_enter func146,ntmps146
 go_wp2_with (go_at_call 203;refine(Cx M hM _).mono ?_;rintro e w1 ⟨rfl,rfl⟩)
 go_ret;exact⟨cY (by simp),rfl⟩
theorem JW(k:Int)(w:aJ):aQ aM 246 #[aG aF k] w λe w'=>e=aU (aG aF (Bo k))/\w=w':=by
 by_cases h7:k=7
 ·subst h7;go_enter U8,UF
  go_wp2
  go_ret;exact⟨rfl,rfl⟩
 by_cases h8:k=8
 ·subst h8;go_enter U8,UF
  go_wp2
  go_ret;exact⟨rfl,rfl⟩
 by_cases h9:k=9
 ·subst h9;go_enter U8,UF
  go_wp2
  go_ret;exact⟨rfl,rfl⟩
 have e:Bo k= -1:=by grind [Bo]
 rw [e];have b7:(k==7)=aP:=by simpa using h7
 have b8:(k==8)=aP:=by simpa using h8
 have b9:(k==9)=aP:=by simpa using h9
 go_enter U8,UF
 go_wp2
 go_ret;exact⟨rfl,rfl⟩
theorem PK(k m:Int)(w:aJ):aQ aM 112 #[bO #[aG aF k,aG aF m]] w λe w'=>e=aU (bM (uK k))/\aa w.heap.size w w':=by
 go_enter func112,ntmps112
 go_wp2
 all_goals
  go_ret;refine⟨fP ?_,(aX _ _).alloc (aZ _) _⟩;simp_all [uK]
theorem aDi(M:Nat)(hM:M<=16)(k m:Int)(hk:aL k)(hm:aL m)(w:aJ):aQ aM 205 #[aG aF (M:Int),bO #[aG aF k,aG aF m]] w λe w'=>e=aU (bB #[aG aF (numV (jx M k m)),aG aF (nZ (jx M k m))])/\aa w.heap.size w w':=by
 unfold aL at hk hm;by_cases h1:1<=k/\k<=6
 ·have hp:Bo k= -1:=by grind [Bo]
  by_cases h0:m=0
  ·subst h0;have e:jx M k 0=aC (k-1).toNat:=by grind [jx]
   rw [e];obtain⟨h1,h2⟩:=h1;go_enter GC,GF
   go_wp2_with (first|(go_at_call 203;refine(Cx M hM _).mono ?_;rintro e w1 ⟨rfl,rfl⟩)|(go_at_call 246;refine(JW _ _).mono ?_;rw [hp];rintro e w1 ⟨rfl,rfl⟩))
   go_ret2;exact⟨my (by simp [numV];omega) rfl,(aX _ _).alloc (aZ _) _⟩
  have e:jx M k m=aB:=by grind [jx]
  rw [e];obtain⟨h1,h2⟩:=h1;have b0:(m==0)=aP:=by simpa using h0
  go_enter GC,GF
  go_wp2_with (first|(go_at_call 203;refine(Cx M hM _).mono ?_;rintro e w1 ⟨rfl,rfl⟩)|(go_at_call 246;refine(JW _ _).mono ?_;rw [hp];rintro e w1 ⟨rfl,rfl⟩))
  go_ret2;exact⟨rfl,(aX _ _).alloc (aZ _) _⟩
 by_cases h7:7<=k/\k<=9
 ·have hp:Bo k=k-7:=by
   grind [Bo]
  obtain⟨p,Er⟩:∃p,p=Bo k:=⟨_,rfl⟩;have HP:=η (λW=>JW k W);rw [<-Er] at HP;have gW:0<=p:=by omega
  have nV:p<=2:=by omega
  have hpn:(p== -1)=aP:=by grind
  by_cases mG:1<=m/\m<=(M:Int)
  ·have e:jx M k m=aC (6+3*(m-1)+(k-7)).toNat:=by grind [jx]
   rw [e];have HQ:Hid (numV (aC (6+3*(m-1)+(k-7)).toNat)=6+3*(m-1)+p):=η (by simp [numV];omega);obtain⟨tF,xF⟩:=mG;clear hp Er h1 h7 e;go_enter GC,GF
   go_wp2_with (first|(go_at_call 203;refine(Cx M hM _).mono ?_;rintro e w1 ⟨rfl,rfl⟩)|(go_at_call 246;refine(HP.o _).mono ?_;rintro e w1 ⟨rfl,rfl⟩))
   go_ret2;exact⟨my (by rw [HQ.o]) rfl,(aX _ _).alloc (aZ _) _⟩
  have e:jx M k m=aB:=by grind [jx]
  rw [e];clear hp Er h1 h7 e;by_cases tF:1<=m
  ·have xF:¬m<=(M:Int):=by omega
   clear mG;go_enter GC,GF
   go_wp2_with (first|(go_at_call 203;refine(Cx M hM _).mono ?_;rintro e w1 ⟨rfl,rfl⟩)|(go_at_call 246;refine(HP.o _).mono ?_;rintro e w1 ⟨rfl,rfl⟩))
   go_ret2;exact⟨rfl,(aX _ _).alloc (aZ _) _⟩
  clear mG;go_enter GC,GF
  go_wp2_with (first|(go_at_call 203;refine(Cx M hM _).mono ?_;rintro e w1 ⟨rfl,rfl⟩)|(go_at_call 246;refine(HP.o _).mono ?_;rintro e w1 ⟨rfl,rfl⟩))
  go_ret2;exact⟨rfl,(aX _ _).alloc (aZ _) _⟩
 have hp:Bo k= -1:=by grind [Bo]
 have e:jx M k m=aB:=by grind [jx]
 rw [e];by_cases h0:m=0
 ·subst h0;by_cases zl:1<=k
  ·have hk6:¬k<=6:=by omega
   clear h1 h7 e;go_enter GC,GF
   go_wp2_with (first|(go_at_call 203;refine(Cx M hM _).mono ?_;rintro e w1 ⟨rfl,rfl⟩)|(go_at_call 246;refine(JW _ _).mono ?_;rw [hp];rintro e w1 ⟨rfl,rfl⟩))
   go_ret2;exact⟨rfl,(aX _ _).alloc (aZ _) _⟩
  clear h1 h7 e;go_enter GC,GF
  go_wp2_with (first|(go_at_call 203;refine(Cx M hM _).mono ?_;rintro e w1 ⟨rfl,rfl⟩)|(go_at_call 246;refine(JW _ _).mono ?_;rw [hp];rintro e w1 ⟨rfl,rfl⟩))
  go_ret2;exact⟨rfl,(aX _ _).alloc (aZ _) _⟩
 have b0:(m==0)=aP:=by simpa using h0
 clear h1 h7 e;go_enter GC,GF
 go_wp2_with (first|(go_at_call 203;refine(Cx M hM _).mono ?_;rintro e w1 ⟨rfl,rfl⟩)|(go_at_call 246;refine(JW _ _).mono ?_;rw [hp];rintro e w1 ⟨rfl,rfl⟩))
 go_ret2;exact⟨rfl,(aX _ _).alloc (aZ _) _⟩
structure sA(B:Nat)(w:aJ) where
 wd:aJ
 h:aa B w wd
instance(B:Nat)(w:aJ):Nonempty (sA B w):=⟨⟨w,aX _ _⟩⟩
theorem S9 {P:Program} {id:Nat} {Q:Exit->Act->aJ->Prop} {a:Act} {w:aJ} {l:List Oper}(B:Nat)(hm:P.follows .mixedOrders=aO)(hB:Region.lexB .any l.toArray=aO)
 (h:wpQuiet P l.toArray (λw'=>∃n:sA B w,w'=n.wd) (λa'=>∀w',(∃n:sA B w,w'=n.wd)->Q .normal a' w') l a):(Code.region id l.toArray aO).wp P Q a w:=
 wp_region_quiet (C:=λw'=>∃n:sA B w,w'=n.wd) hm hB ⟨⟨_,(aX _ _).drew⟩,rfl⟩ h
theorem Calls.Lk {P:Program} {f:FuncId} {args:Array aN} {B:Nat} {w:aJ} {n:sA B w} {v:aN}(hB:B<=w.heap.size)
 (h:aQ P f args n.wd λe w'=>e=aU v/\aa n.wd.heap.size n.wd w'):aQ P f args n.wd λe w''=>e=aU v/\∃m:sA B w,w''=m.wd:=
 h.mono λ_ w' ⟨he,hb⟩=>⟨he,⟨w',n.h.trans (hb.mono (cC hB n.h.size))⟩,rfl⟩
theorem sA.cells {B:Nat} {w:aJ}(n:sA B w)(b o:Nat)(hb:b<B):n.wd.cell? ⟨b,o,aB⟩=w.cell? ⟨b,o,aB⟩:=n.h.cell (p:=⟨b,o,aB⟩) hb
theorem Rh(a b:Int)(w:aJ)(ha:aL a)(hb:aL b):
 aQ aM 148 #[ν a,ν b] w λe w'=>
  e=aU (bB #[ν (gP (a-b)),ν (dL (a-b))])/\w=w':=by
 have HA:=η ha;have HB:=η hb;go_enter func148,ntmps148
 go_wp2
 all_goals
  go_ret2;have ha:=HA.o;have hb:=HB.o;refine⟨?_,rfl⟩;unfold aL at ha hb;by_cases h:aL (a-b)
  ·obtain⟨h1,h2⟩:=dy h;rw [h1,h2];unfold aL at h;have hw:fV (a-b)=a-b:=by unfold fV;omega
   simp_all<;>omega
  obtain⟨h1,h2⟩:=gh h;rw [h1,h2];unfold aL at h;unfold fV at*;simp_all<;>omega
theorem JC:aL 0:=by unfold aL;omega
def m64(x:Int):Int:=x % 18446744073709551616
def d64(x:Int):Int:=x/18446744073709551616
theorem aBv(x y c:Int)(hx:0<=x)(hy:0<=y)(hc0:0<=c)(hc:c<=1)(w:aJ):
 (callFunc 164 #[aG .u64 x,aG .u64 y,aG .u64 c]).run aM w= .ok (.value (bB #[aG .u64 (m64 (x+y+c)),aG .u64 (d64 (x+y+c))])) w:=by
 rw [run_callFunc_extern func164 (by kernel_rfl) (by kernel_rfl) (by kernel_rfl) (e:=add64Entry) (by kernel_rfl),run_add64 x y c hx hy hc0 hc];rfl
theorem aHE(t a:Int):m64 (m64 t+mC.wrap a)=m64 (t+a):=by grind [uo,m64]
theorem aEC(t a:Int)(ha:aL a):m64 (m64 (d64 t)+mC.wrap (a/9223372036854775808)+d64 (m64 t+mC.wrap a))=m64 (d64 (t+a)):=by
 rw [uo,uo];unfold m64 d64;unfold aL at ha;rcases Int.lt_or_le a 0 with h|h
 ·omega
 omega
theorem a4p(t:Int):0<=m64 t/\m64 t<=18446744073709551615:=by unfold m64;omega
theorem aJC(a t:Int)(W:aJ)(ha:aL a):
 aQ aM 163 #[ν a,π (W.heap.size+1),π W.heap.size] ((W.alloc (aK #[aG .u64 (m64 (d64 t))] 237)).alloc (aK #[aG .u64 (m64 t)] 237)) λe w'=>e=aU (bB #[])/\
  ((W.alloc (aK #[aG .u64 (m64 (d64 (t+a)))] 237)).alloc (aK #[aG .u64 (m64 (t+a))] 237))=w':=by
 have k:=aBv;obtain⟨hl0,oD⟩:=a4p t;obtain⟨zi,hh1⟩:=a4p (d64 t);have h1:=aHE t a;have h2:=aEC t a ha;have hd0:0<=d64 (m64 t+mC.wrap a):=by grind [uo,d64]
 have DF:d64 (m64 t+mC.wrap a)<=1:=by grind [uo,d64]
 have H1:=η h1;have H2:=η h2;go_enter func163,ntmps163
 go_wp2
 go_end0
 rw [<-H1.o,<-H2.o];exact⟨rfl,rfl⟩
def sumI:List Int->Int
 | []=>0
 |a::l=>a+sumI l
theorem NY(l m:List Int):sumI (l++m)=sumI l+sumI m:=by
 induction l with
 |nil=>simp [sumI]
 |cons a l ih=>grind [sumI]
theorem Xs {l:List Int} {k:Nat}(hk:k<aA l):sumI (l.take (k+1))=sumI (l.take k)+l[k]:=by rw [fF hk,NY];simp [sumI]
theorem aKQ(l:List Int)(h:∀x∈l,aL x): -(9223372036854775808*(aA l:Int))<=sumI l/\sumI l<=9223372036854775808*(aA l:Int):=by
 induction l with
 |nil=>simp [sumI]
 |cons a l ih=>
  have h1:=h a (by simp);grind [aL,sumI]
theorem aKW(t:Int)(n:Nat)(hn:n<=4611686018427387904)(hb: -(9223372036854775808*(n:Int))<=t/\t<=9223372036854775808*(n:Int)):
 ((m64 (d64 t) !=mC.wrap (fV (m64 t)/9223372036854775808))=aP↔aL t)/\(aL t->fV (m64 t)=t):=by
 rw [uo];unfold m64 d64 aL fV;grind
theorem Dg(l:List Int)(A:Option ai)(c:Nat)(w:aJ)(hl:∀x∈l,aL x)(hs:aW w w.heap.size A (l.map (aG aF)))(hn:aA l<=4611686018427387904):
 aQ aM 104 #[aH A (aA l) c] w λe w'=>
  e=aU (bB #[ν (gP (sumI l)),ν (dL (sumI l))])/\β w w':=by
 have HL:=η hl;have HS:=η hs;go_enter func104,ntmps104
 go_wp2
 go_loopw [8,12] (λ_ i wr=>∃k:Nat,k<=aA l/\i=ν k/\
  wr=((w.alloc (aK #[aG .u64 (m64 (d64 (sumI (l.take k))))] 237)).alloc (aK #[aG .u64 (m64 (sumI (l.take k)))] 237))) (λ_ i _=>aA l-(ag i).toNat)
 ·exact⟨0,bL _,rfl,rfl⟩
 ·
  obtain⟨k,hk,rfl,rfl⟩:=hrel;by_cases hlt:k<aA l
  ·obtain⟨b,o,rfl,hb,hc⟩:=HS.o.at (k:=k) (by simpa using hlt);have hc':((w.alloc (aK #[aG .u64 (m64 (d64 (sumI (l.take k))))] 237)).alloc (aK #[aG .u64 (m64 (sumI (l.take k)))] 237)).cell? ⟨b,o+k,aB⟩=aC (ν l[k]):=by
    rw [BH _ _ _ (by simp;omega),BH _ _ _ hb,hc];simp
   have HK:=η (Xs hlt);have hI:=HL.o l[k] (by simp);have HI:=η hI;go_wp2_with (go_at_call 163;refine(aJC _ _ _ HI).mono ?_;rintro e w' ⟨rfl,rfl⟩)
   go_roundw
   ·exact⟨k+1,by omega,by go_num,by rw [HK.o]⟩
   simp [ag];omega
  obtain rfl:k=aA l:=by omega
  have bU:=aKQ l HL;obtain⟨he,hv⟩:=aKW (sumI l) (aA l) hn bU;have HE:=η he;have HV:=η hv;rw [cU];have yM:∀a b:Obj,β w ((w.alloc a).alloc b):=λa b=>σ.alloc (by simp) _
  go_wp2
  ·have hne:(m64 (d64 (sumI l)) !=mC.wrap (fV (m64 (sumI l))/9223372036854775808))=aO:=by assumption
   go_ret2;have hno:¬aL (sumI l):=λh=>by rw [HE.o.2 h] at hne;cases hne
   refine⟨?_,yM _ _⟩;rw [(gh hno).1,(gh hno).2];rfl
  have hne:(m64 (d64 (sumI l)) !=mC.wrap (fV (m64 (sumI l))/9223372036854775808))=aP:=by assumption
  go_ret2;have DU:=HE.o.1 hne;refine⟨?_,yM _ _⟩;rw [(dy DU).1,(dy DU).2];exact my (HV DU) rfl
section
structure fE(w:aJ)(bb:Nat)(M A:Nat)(v:aN)(l:List Int)(po:Int):Prop where
 blk:w.heap[bb]? =aC (aK #[ν (M:Int),ν (A:Int),v,ν po] 216 (0,0))
 own:w.ownsRow 0 2 1 v (aA l) (l.map (aG aF))
 len:aA l=A*(6+3*M)
 hM:M<=16
 hA:A<=9
section
variable {w w':aJ} {bb M A:Nat} {v:aN} {l:List Int} {po:Int}
theorem fE.lt(h:fE w bb M A v l po):bb<w.heap.size:=(fY.1 h.blk).1
theorem fE.c0(h:fE w bb M A v l po):w.cell? ⟨bb,0,aB⟩=aC (aG aF (M:Int)):=bG _ _ _ _ _ (0,0) h.blk
theorem fE.c1(h:fE w bb M A v l po):w.cell? ⟨bb,1,aB⟩=aC (aG aF (A:Int)):=bG _ _ _ _ _ (0,0) h.blk
theorem fE.c2(h:fE w bb M A v l po):w.cell? ⟨bb,2,aB⟩=aC v:=bG _ _ _ _ _ (0,0) h.blk
theorem fE.c3(h:fE w bb M A v l po):w.cell? ⟨bb,3,aB⟩=aC (aG aF po):=bG _ _ _ _ _ (0,0) h.blk
theorem fE.below(h:fE w bb M A v l po)(hb:aa w.heap.size w w'):fE w' bb M A v l po:=by have hg:w.grownBy w' aB:=⟨hb.os,hb.tape,hb.output,hb.size,λi hi _=>hb.block i hi⟩;exact⟨(hb.block _ h.lt).trans h.blk,h.own.kept hg (by grind),h.len,h.hM,h.hA⟩
end
def plcA(M A:Nat)(k m a:Int):Option Nat:=match jx M k m with
 |none=>aB
 |some n=>if 0<=a/\a<(A:Int) then aC (a.toNat*(6+3*M)+n) else aB
theorem NK {M A:Nat} {k m a:Int} {n:Nat}(h:plcA M A k m a=aC n):n<A*(6+3*M):=by
 unfold plcA at h;cases hn:jx M k m with
 |none=>rw [hn] at h;cases h
 |some z=>
  rw [hn] at h;simp only at h;split at h
  ·rename_i ha;injection h with h;have hz:=a5N hn;have h1:a.toNat+1<=A:=by omega
   have h2:=Fz (6+3*M) h1;grind
  cases h
theorem Uc(M A:Nat)(v:aN)(l:List Int)(po k m a:Int)(bb:Nat)(w:aJ)(h:fE w bb M A v l po)(hk:aL k)(hm:aL m):
 aQ aM 155 #[π bb,bO #[ν k,ν m],ν a] w λe w'=>e=aU (bB #[ν (numV (plcA M A k m a)),ν (nZ (plcA M A k m a))])/\β w w':=by
 have HNU:=η (λW=>aDi M h.hM k m hk hm W);have CF:=η (λW=>a1b M h.hM W);have jF:Hid (β w (w.alloc (aK #[ν k,ν m] 51))):=η σ;have h2:=h.below jF.o;have c0:=h2.c0;have c1:=h2.c1;have hlt:=h2.lt;have a0:(w.alloc (aK #[ν k,ν m] 51)).cell? ⟨w.heap.size,0,aB⟩=aC (ν k):=cM _ _ _ 0 rfl;have a1:(w.alloc (aK #[ν k,ν m] 51)).cell? ⟨w.heap.size,1,aB⟩=aC (ν m):=cM _ _ _ 1 rfl;have alt:w.heap.size<(w.alloc (aK #[ν k,ν m] 51)).heap.size:=by simp
 have hM:=h.hM;have hA:=h.hA;have E4:Hid (∀n,jx M k m=aC n->n<6+3*M):=η λn hn=>a5N hn
 have eF:Hid (plcA M A k m a=match jx M k m with|none=>aB|some n=>if 0<=a/\a<(A:Int) then aC (a.toNat*(6+3*M)+n) else aB):=η rfl;obtain⟨Q,HQ⟩:∃Q,Hid (plcA M A k m a=Q):=⟨_,η rfl⟩;rw [HQ.o] at eF ⊢;generalize jx M k m=z at*;go_enter func155,ntmps155
 go_upto_region 1 with fail
 generalize w.alloc (aK #[ν k,ν m] 51)=w1 at*;refine S9 w1.heap.size (by kernel_rfl) (by kernel_rfl) ?_;have yM:=λ(n:sA w1.heap.size w1) b o hb=>sA.cells n b o hb
 repeat (go_big_quiet_step ((go_at_call 205;exact Calls.Lk (aZ _) (HNU.o _))))
 refine wpQuiet_nil ?_;intro _ hw';obtain⟨n,hw''⟩:=hw';subst hw'';have HN:Hid (β w n.wd):=η (jF.o.trans (n.h.mono jF.o.size));have c0:n.wd.cell? ⟨bb,0,aB⟩=aC (ν (M:Int)):=(yM n bb 0 hlt).trans c0;have c1:n.wd.cell? ⟨bb,1,aB⟩=aC (ν (A:Int)):=(yM n bb 1 hlt).trans c1;generalize n.wd=w2 at*;cases z with
 |none=>
  have HE:Hid (Q=aB):=η eF.o;unfold numV nZ;simp only;go_wp2_with fail
  go_ret2;rw [HE.o];exact⟨rfl,HN.o⟩
 |some z=>
  have hz:=E4.o z rfl;simp only at eF;unfold numV nZ;simp only;by_cases h0:0<=a
  case neg=>
   have HE:Hid (Q=aB):=η (by rw [eF.o,ifN (λh=>h0 h.1)]);have hb0:a<0:=by omega
   clear eF h0;go_wp2_with fail
   go_ret2;rw [HE.o];exact⟨rfl,HN.o⟩
  obtain⟨x,rfl⟩:∃x:Nat,a=(x:Int):=⟨a.toNat,by omega⟩;by_cases h1:(x:Int)<(A:Int)
  case neg=>
   have HE:Hid (Q=aB):=η (by rw [eF.o,ifN (λh=>h1 h.2)]);have hb1:(A:Int)<=(x:Int):=by omega
   clear eF;go_wp2_with fail
   go_ret2;rw [HE.o];exact⟨rfl,HN.o⟩
  have HE:Hid (Q=aC (x*(6+3*M)+z)):=η (by rw [eF.o,ifP ⟨h0,h1⟩,Int.toNat_natCast]);obtain⟨q,hq⟩:∃q:Nat,q=x*(6+3*M):=⟨_,rfl⟩;obtain⟨u,hu⟩:∃u:Nat,u=6+3*M:=⟨_,rfl⟩;have vS:u<=54:=by omega
  have hx9:x<=9:=by omega
  have Jv:q<=9*54:=by rw [hq];exact yC hx9 (by omega)
  have hmul:(x:Int)*(u:Int)=(q:Int):=by grind
  rw [<-hu] at CF hz;rw [<-hq] at HE;clear eF hq hu;go_wp2_with (go_at_call 146;refine(CF.o _).mono ?_;rintro e w3 ⟨rfl,rfl⟩)
  go_ret2;rw [HE.o];exact⟨my (by show (q:Int)+(z:Int)=((q+z:Nat):Int);omega) rfl,HN.o⟩
def balA(M A:Nat)(l:List Int)(k m a:Int):Int:=match plcA M A k m a with|some n=>l.getD n 0|none=>0
theorem UZ(M A:Nat)(v:aN)(l:List Int)(po k m a:Int)(bb:Nat)(w:aJ)(h:fE w bb M A v l po)(hk:aL k)(hm:aL m):
 aQ aM 92 #[π bb,bO #[ν k,ν m],ν a] w λe w'=>e=aU (bB #[ν (balA M A l k m a),ν (nZ (plcA M A k m a))])/\β w w':=by
 have jF:Hid (β w (w.alloc (aK #[ν k,ν m] 51))):=η σ;have H:=η (h.below jF.o);have CR:=η (Uc M A v l po k m a bb _ H.o hk hm);have eF:Hid (∀n,plcA M A k m a=aC n->n<aA l):=η λn hn=>by rw [h.len];exact NK hn
 have ew:Hid (balA M A l k m a=match plcA M A k m a with|some n=>l.getD n 0|none=>0):=η rfl;obtain⟨R,HR⟩:=xr (balA M A l k m a);rw [HR.o] at ew ⊢;generalize plcA M A k m a=z at*;go_enter func92,ntmps92
 go_wp2_with (go_at_call 155;refine CR.o.mono ?_)
 rintro e w2 ⟨rfl,hb2⟩;have aV:Hid (β w w2):=τ jF hb2;have H2:=η (H.o.below hb2);cases z with
 |none=>
  have HE:Hid (R=0):=η ew.o;unfold numV nZ;simp only;go_wp2
  go_ret2;rw [HE.o];exact⟨rfl,aV.o⟩
 |some n=>
  have hn:=eF.o n rfl;have HE:Hid (R=l[n]):=η (by rw [ew.o];simp [hn]);have c2:=H2.o.c2;obtain⟨Av,cv,hv⟩:=bJ H2.o.own;subst hv;obtain⟨b,o,rfl,hb,hc⟩:=tK (aW.cA H2.o.own) hn;have mj:(n:Int)<(aA l:Int):=by omega
  unfold numV nZ;simp only;go_wp2
  go_ret2;rw [HE.o];exact⟨rfl,aV.o⟩
end
end Go.Proofs.YtdokipdchlcmeaaGreat
namespace Go.Proofs
open Go.Proofs.Tryz
open Go.Shelf
def lays134_ren:yh:=⟨fun|134=>296|129=>277|n=>n,fun|53=>237|3=>3|4=>4|46=>240|5=>5|9=>9|n=>n,fun|n=>n⟩
theorem lays134:aLd aM lays134_ren:= {
 mixed:=by kernel_rfl
 f129:=aAR.trans (congrArg aC (by kernel_rfl))
 f134:=func296.trans (congrArg aC (by kernel_rfl))
 t3:=wS
 a3:=Cl
 z3:=Cn
 v3:=Cp
 t4:=BA
 a4:=Cm
 z4:=Co
 v4:=Cq
 t5:=aBf
 a5:=aAm
 z5:=aBb
 v5:=aBi
 t9:=P0
 a9:=Ov
 z9:=Ox
 v9:=P1
 t46:=a0v
 a46:=a0U
 z46:=a0q
 v46:=a0y
 t53:=a0u
 a53:=a0T
 z53:=a0p
 v53:=a0x}
theorem bits_LeadingZeros64(x:Int)(w:aJ)(h0:0<=x)(h1:x<=18446744073709551615):
 aQ aM 296 #[aG .u64 x] w λe w'=>e=aU (aG aF (64-(sO x.toNat:Int)))/\w'=w:=Any.bits_LeadingZeros64 lays134 x w h0 h1
open Go.RowKit in
def lays189_ren:yh:=⟨fun|189=>217|125=>252|257=>251|128=>276|129=>277|294=>267|295=>268|296=>269|297=>270|298=>271|299=>272|216=>273|300=>274|301=>275|328=>284|329=>285|330=>286|331=>287|332=>288|215=>289|343=>292|n=>n,fun|28=>46|3=>3|46=>240|0=>0|51=>340|53=>237|4=>4|183=>333|182=>332|131=>248|5=>5|9=>9|218=>346|222=>350|228=>354|229=>355|n=>n,fun|n=>n⟩
theorem lays189:aLe aM lays189_ren:= {
 mixed:=by kernel_rfl
 f125:=func252.trans (congrArg aC (by kernel_rfl))
 f128:=func276.trans (congrArg aC (by kernel_rfl))
 f129:=aAR.trans (congrArg aC (by kernel_rfl))
 f189:=func217.trans (congrArg aC (by kernel_rfl))
 f215:=func289.trans (congrArg aC (by kernel_rfl))
 f216:=func273.trans (congrArg aC (by kernel_rfl))
 f257:=func251.trans (congrArg aC (by kernel_rfl))
 f294:=func267.trans (congrArg aC (by kernel_rfl))
 f295:=func268.trans (congrArg aC (by kernel_rfl))
 f296:=func269.trans (congrArg aC (by kernel_rfl))
 f297:=func270.trans (congrArg aC (by kernel_rfl))
 f298:=func271.trans (congrArg aC (by kernel_rfl))
 f299:=func272.trans (congrArg aC (by kernel_rfl))
 f300:=func274.trans (congrArg aC (by kernel_rfl))
 f301:=func275.trans (congrArg aC (by kernel_rfl))
 f328:=func284.trans (congrArg aC (by kernel_rfl))
 f329:=func285.trans (congrArg aC (by kernel_rfl))
 f330:=func286.trans (congrArg aC (by kernel_rfl))
 f331:=func287.trans (congrArg aC (by kernel_rfl))
 f332:=func288.trans (congrArg aC (by kernel_rfl))
 f343:=func292.trans (congrArg aC (by kernel_rfl))
 t0:=GH
 a0:=GD
 z0:=GG
 v0:=GK
 t3:=wS
 a3:=Cl
 z3:=Cn
 v3:=Cp
 t4:=BA
 a4:=Cm
 z4:=Co
 v4:=Cq
 t5:=aBf
 a5:=aAm
 z5:=aBb
 v5:=aBi
 t9:=P0
 a9:=Ov
 z9:=Ox
 v9:=P1
 t28:=yD
 a28:=LZ
 z28:=Lb
 v28:=Lc
 t46:=a0v
 a46:=a0U
 z46:=a0q
 v46:=a0y
 t51:=underlying340
 a51:=isAgg340
 z51:=sizeOf340
 v51:=zeroValue340
 t53:=a0u
 a53:=a0T
 z53:=a0p
 v53:=a0x
 t131:=underlying248
 a131:=isAgg248
 z131:=sizeOf248
 v131:=zeroValue248
 t182:=underlying332
 a182:=isAgg332
 z182:=sizeOf332
 v182:=zeroValue332
 t183:=underlying333
 a183:=isAgg333
 z183:=sizeOf333
 v183:=zeroValue333
 t218:=underlying346
 a218:=isAgg346
 z218:=sizeOf346
 v218:=zeroValue346
 t222:=underlying350
 a222:=isAgg350
 z222:=sizeOf350
 v222:=zeroValue350
 t228:=underlying354
 a228:=isAgg354
 z228:=sizeOf354
 v228:=zeroValue354
 t229:=underlying355
 a229:=isAgg355
 z229:=sizeOf355
 v229:=zeroValue355}
open Go.Sort Go.RowKit in
theorem slices_Sort_int(blk off cap:Nat)(zs:List Int)(w:aJ)(hH:Holds (aG aF) w blk off zs.toArray)(hblk:blk<w.heap.size)(hsz:aA zs<4611686018427387904):
 aQ aM 217 #[aH (aC ⟨blk,off,aB⟩) (aA zs) cap] w λe w'=>
  e=aU (bB #[])/\∃n os,w'=grow (putRow (aG aF) (Sort.ahead w n) blk off (zs.mergeSort λx y=>decide (x<=y)).toArray) os:=Any.slices_Sort_int lays189 blk off cap zs w hH hblk hsz
def lays264_ren:yh:=⟨fun|264=>258|n=>n,fun|53=>237|46=>240|n=>n,fun|n=>n⟩
theorem lays264:aLf aM lays264_ren:= {
 mixed:=by kernel_rfl
 f264:=func258.trans (congrArg aC (by kernel_rfl))
 t46:=a0v
 a46:=a0U
 z46:=a0q
 v46:=a0y
 t53:=a0u
 a53:=a0T
 z53:=a0p
 v53:=a0x}
open Go.RowKit Go.Lib in
theorem bits_Mul64(x y:Nat)(hx:x<18446744073709551616)(hy:y<18446744073709551616)(w:aJ):
 aQ aM 258 #[aG .u64 x,aG .u64 y] w λe w'=>e=aU (bB #[aG .u64 ((x*y/18446744073709551616:Nat):Int),aG .u64 ((x*y % 18446744073709551616:Nat):Int)])/\w'=w:=Any.bits_Mul64 lays264 x y hx hy w
open Go.Lib in
open Go.Lib in
def lays107_ren:yh:=⟨fun|107=>101|108=>161|n=>n,fun|28=>46|3=>3|4=>4|0=>0|n=>n,fun|n=>n⟩
theorem lays107:aLc aM lays107_ren:= {
 mixed:=by kernel_rfl
 f107:=func101.trans (congrArg aC (by kernel_rfl))
 f108:=func161.trans (congrArg aC (by kernel_rfl))
 t0:=GH
 a0:=GD
 z0:=GG
 v0:=GK
 t3:=wS
 a3:=Cl
 z3:=Cn
 v3:=Cp
 t4:=BA
 a4:=Cm
 z4:=Co
 v4:=Cq
 t28:=yD
 a28:=LZ
 z28:=Lb
 v28:=Lc}
open Go.Lib in
theorem slices_Contains_int(b off n c:Nat)(zs:List Int)(x:Int)(w:aJ)(hz:n<=aA zs)(kh:n<=9223372036854775807)(hc:∀j,j<aA zs->w.cell? ⟨b,off+j,aB⟩=aC (aG aF (zs.getD j 0))):
 aQ aM 101 #[aH (aC ⟨b,off,aB⟩) n c,aG aF x] w λe w'=>e=aU (bM ((zs.take n).contains x))/\w'=w:=Any.slices_Contains_int lays107 b off n c zs x w hz kh hc
open Go.Lib in
theorem slices_Contains_int_empty(a:Option ai)(c:Nat)(x:Int)(w:aJ):
 aQ aM 101 #[aH a 0 c,aG aF x] w λe w'=>e=aU (bM aP)/\w'=w:=Any.slices_Contains_int_empty lays107 a c x w
def laysNm215_ren:yh:=⟨fun|15=>40|n=>n,fun|22=>46|3=>3|4=>4|n=>n,fun|n=>n⟩
theorem laysNm215:aLg aM laysNm215_ren:= {
 mixed:=by kernel_rfl
 f15:=func40.trans (congrArg aC (by kernel_rfl))
 t3:=wS
 a3:=Cl
 z3:=Cn
 v3:=Cp
 t4:=BA
 a4:=Cm
 z4:=Co
 v4:=Cq
 t22:=yD
 a22:=LZ
 z22:=Lb
 v22:=Lc
 i3:=by kernel_rfl}
open Go.RowKit Go.Lib in
theorem slices_Clone_int(b off n c:Nat)(zs:List Int)(w:aJ)(hz:n<=aA zs)(kh:n*8<=140737488355328)(hc:∀j,j<aA zs->w.cell? ⟨b,off+j,aB⟩=aC (aG aF (zs.getD j 0))):
 aQ aM 40 #[aH (aC ⟨b,off,aB⟩) n c] w λe w'=>∃v',e=aU v'/\w'.ownsRow w.heap.size 3 1 v' n ((zs.take n).map (aG aF))/\v'≠ aH aB 0 0/\aa w.heap.size w w':=Any.slices_Clone_int laysNm215 b off n c zs w hz kh hc
open Go.RowKit Go.Lib in
theorem slices_Clone_int_nil(n c:Nat)(w:aJ):
 aQ aM 40 #[aH aB n c] w λe w'=>e=aU (aH aB 0 0)/\w'=w:=Any.slices_Clone_int_nil laysNm215 n c w
open Go.RowKit Go.Lib in
theorem slices_Clone_int_zero(a:ai)(c:Nat)(w:aJ):
 aQ aM 40 #[aH (aC a) 0 c] w λe w'=>∃v',e=aU v'/\w'.ownsRow w.heap.size 3 1 v' 0 []/\v'≠ aH aB 0 0/\aa w.heap.size w w':=Any.slices_Clone_int_zero laysNm215 a c w
def laysNm220_ren:yh:=⟨fun|20=>218|n=>n,fun|22=>46|3=>3|4=>4|0=>0|n=>n,fun|n=>n⟩
theorem laysNm220:aLh aM laysNm220_ren:= {
 mixed:=by kernel_rfl
 f20:=func218.trans (congrArg aC (by kernel_rfl))
 t0:=GH
 a0:=GD
 z0:=GG
 v0:=GK
 t3:=wS
 a3:=Cl
 z3:=Cn
 v3:=Cp
 t4:=BA
 a4:=Cm
 z4:=Co
 v4:=Cq
 t22:=yD
 a22:=LZ
 z22:=Lb
 v22:=Lc
 i3:=by kernel_rfl}
open Go.RowKit Go.Lib Go.Sort in
open Go.RowKit Go.Lib Go.Sort in
theorem slices_Compact_int(blk off cap:Nat)(zs:List Int)(w:aJ)(hH:Holds (aG aF) w blk off zs.toArray)(hsz:aA zs<=9223372036854775807)(Ee:aA zs<=cap):
 aQ aM 218 #[aH (aC ⟨blk,off,aB⟩) (aA zs) cap] w λe w'=>e=aU (aH (aC ⟨blk,off,aB⟩) (aA (sP zs)) cap)/\∃q,w'=putRow (aG aF) (Sort.ahead w q) blk off (sP zs++gN (aA zs-aA (sP zs)) 0).toArray:=Any.slices_Compact_int laysNm220 blk off cap zs w hH hsz Ee
open Go.RowKit Go.Lib Go.Sort in
theorem slices_Compact_int_empty(a:Option ai)(cap:Nat)(w:aJ):
 aQ aM 218 #[aH a 0 cap] w λe w'=>e=aU (aH a 0 cap)/\w'=w:=Any.slices_Compact_int_empty laysNm220 a cap w
open Go.RowKit Go.Lib in
open Go.RowKit Go.Lib in
open Go.RowKit Go.Lib Go.Sort in
open Go.RowKit Go.Sort in
theorem slices_Sort_int_none(p:Option ai)(cap:Nat)(w:aJ):
 aQ aM 217 #[aH p 0 cap] w λe w'=>e=aU (bB #[])/\w'=w:=Any.slices_Sort_int_none lays189 p cap w
open Go.RowKit Go.Lib in
def laysSlE041_f158_ren:yh:=⟨fun|41=>158|n=>n,fun|22=>53|23=>2|4=>4|n=>n,fun|n=>n⟩
theorem laysSlE041_f158:aLi aM laysSlE041_f158_ren:= {
 mixed:=by kernel_rfl
 f41:=⟨f158.name,by decide,func158.trans (congrArg aC (by kernel_rfl))⟩
 t4:=BA
 a4:=Cm
 z4:=Co
 v4:=Cq
 t22:=mD
 a22:=isAgg53
 z22:=sizeOf53
 v22:=zeroValue53}
open Go.RowKit Go.Lib in
open Go.RowKit Go.Lib in
open Go.RowKit Go.Lib in
theorem slices_Clone_nil_f158(n c:Nat)(w:aJ):
 aQ aM 158 #[aH aB n c] w λe w'=>e=aU (aH aB 0 0)/\w'=w:=AnyE.slices_Clone_nil laysSlE041_f158 n c w
open Go.RowKit Go.Lib Go.Sort in
def keysA_ren:yh:=⟨fun|7=>231|10=>262|n=>n,fun|23=>272|26=>3|3=>53|28=>310|0=>0|27=>309|33=>280|4=>4|n=>n,fun|n=>n⟩
theorem keysA:aLk aM keysA_ren:= {
 mixed:=by kernel_rfl
 f7:=⟨f231.name,by decide,func231.trans (congrArg aC (by kernel_rfl))⟩
 f10:=⟨f262.name,by decide,func262.trans (congrArg aC (by kernel_rfl))⟩
 t0:=GH
 a0:=GD
 z0:=GG
 v0:=GK
 t4:=BA
 a4:=Cm
 z4:=Co
 v4:=Cq
 t23:=GI
 a23:=isAgg272
 z23:=sizeOf272
 v23:=zeroValue272
 t26:=wS
 a26:=Cl
 z26:=Cn
 v26:=Cp
 t27:=underlying309
 a27:=isAgg309
 z27:=sizeOf309
 v27:=zeroValue309
 t28:=aBe
 a28:=aAl
 z28:=aBa
 v28:=aBh
 t33:=underlying280
 a33:=isAgg280
 z33:=sizeOf280
 v33:=zeroValue280}
def sortedA_ren:yh:=⟨fun|6=>230|8=>261|9=>217|11=>282|13=>252|12=>251|23=>276|24=>277|14=>267|15=>268|16=>269|17=>270|18=>271|19=>272|20=>273|21=>274|22=>275|25=>284|26=>285|27=>286|28=>287|29=>288|30=>289|31=>292|n=>n,fun|26=>3|28=>310|24=>46|0=>0|3=>3|37=>240|48=>340|50=>237|4=>4|40=>333|39=>332|45=>248|5=>5|9=>9|51=>346|55=>350|57=>354|58=>355|33=>280|n=>n,fun|n=>n⟩
theorem sortedA:aLj aM sortedA_ren:= {
 mixed:=by kernel_rfl
 f6:=⟨f230.name,by decide,func230.trans (congrArg aC (by kernel_rfl))⟩
 f8:=⟨f261.name,by decide,func261.trans (congrArg aC (by kernel_rfl))⟩
 f11:=⟨f282.name,by decide,func282.trans (congrArg aC (by kernel_rfl))⟩
 t0:=GH
 a0:=GD
 z0:=GG
 v0:=GK
 t24:=yD
 a24:=LZ
 z24:=Lb
 v24:=Lc
 t26:=wS
 a26:=Cl
 z26:=Cn
 v26:=Cp
 t28:=aBe
 a28:=aAl
 z28:=aBa
 v28:=aBh
 i26:=by kernel_rfl}
end Go.Proofs
namespace Go.Proofs.YtdokipdchlcmeaaGreat.DivLaw
open Go.Proofs.Tryz
theorem aMV(q v1 v0:Nat):q*(v1*4294967296+v0)=q*v1*4294967296+q*v0:=by grind
theorem aH3 {u u1 v1 v0 q r:Nat}(e:q*v1+r=u)(h:q*v0<=4294967296*r+u1):q*(v1*4294967296+v0)<=u*4294967296+u1:=by grind
theorem aFX {u u1 v1 v0 q r:Nat}(e:q*v1+r=u)(h:4294967296*r+u1<q*v0):u*4294967296+u1<q*(v1*4294967296+v0):=by grind
theorem NN {u u1 v:Nat}(hu:u<v)(h1:u1<4294967296):(u*4294967296+u1)/v<4294967296:=by rw [Fy (by omega)];omega
theorem aFB {u v1 v0:Nat}(hu:u<v1*4294967296+v0)(h0:v0<4294967296)(h1:2147483648<=v1):u/v1<=4294967297:=by
 have:u/v1<4294967298:=by rw [Fy (by omega)];omega
 omega
theorem aFA {u u1 v1 v0:Nat}(h1:2147483648<=v1)(hu:u1<4294967296):(u*4294967296+u1)/(v1*4294967296+v0)<=u/v1:=by have h:(u*4294967296+u1)/(v1*4294967296+v0)<=(u*4294967296+u1)/(v1*4294967296):=Nat.div_le_div_left (by omega) (by omega);refine cC h ?_;rw [a9h v1,<-Nat.div_div_eq_div_mul];grind
structure Inv(u u1 v1 v0 q r:Nat):Prop where
 eq:q*v1+r=u
 ge:(u*4294967296+u1)/(v1*4294967296+v0)<=q
 lt:r<4294967296
 le:q<=4294967297
theorem Inv.first {u u1 v1 v0:Nat}(hu:u<v1*4294967296+v0)(h0:v0<4294967296)(h1:2147483648<=v1)(h2:v1<4294967296)(cj:u1<4294967296):Inv u u1 v1 v0 (u/v1) (u % v1):=
 ⟨by grind [LR],aFA h1 cj,LS (JH _ (by omega)) h2,aFB hu h0 h1⟩
theorem Inv.found {u u1 v1 v0 q r:Nat}(h:Inv u u1 v1 v0 q r)(h1:0<v1)(ht:q*v0<=4294967296*r+u1):q=(u*4294967296+u1)/(v1*4294967296+v0):=by
 have h3:=aH3 h.eq ht;have h4:q<=(u*4294967296+u1)/(v1*4294967296+v0):=by rw [Zr (by omega)];exact h3
 exact a9e h4 h.ge
theorem Inv.more {u u1 v1 v0 q r:Nat}(h:Inv u u1 v1 v0 q r)(hu:u<v1*4294967296+v0)(_:2147483648<=v1)(cj:u1<4294967296)(ht:4294967296<=q\/4294967296*r+u1<q*v0):
 1<=q/\(q-1)*v1+(r+v1)=u/\(u*4294967296+u1)/(v1*4294967296+v0)<=q-1:=by
 have hlt:(u*4294967296+u1)/(v1*4294967296+v0)<q:=by
  rcases ht with ht|ht
  ·exact cR (NN hu cj) ht
  rw [Fy (by omega)];exact aFX h.eq ht
 have e:=h.eq;have hq:1<=q:=Nat.lt_of_le_of_lt (bL _) hlt;obtain⟨p,rfl⟩:∃p,q=p+1:=⟨q-1,by omega⟩;grind
theorem Inv.next {u u1 v1 v0 q r:Nat}(h:Inv u u1 v1 v0 q r)(hu:u<v1*4294967296+v0)(h1:2147483648<=v1)(cj:u1<4294967296)(ht:4294967296<=q\/4294967296*r+u1<q*v0)(hr:r+v1<4294967296):
 Inv u u1 v1 v0 (q-1) (r+v1):=by
 obtain⟨_,a,b⟩:=h.more hu h1 cj ht;exact⟨a,b,hr,cC (Nat.sub_le _ _) h.le⟩
theorem Inv.broke {u u1 v1 v0 q r:Nat}(h:Inv u u1 v1 v0 q r)(hu:u<v1*4294967296+v0)(h0:v0<4294967296)(h1:2147483648<=v1)(cj:u1<4294967296)(ht:4294967296<=q\/4294967296*r+u1<q*v0)(hr:4294967296<=r+v1):
 q-1=(u*4294967296+u1)/(v1*4294967296+v0):=by
 obtain⟨_,a,b⟩:=h.more hu h1 cj ht;have hle:(q-1)*v0<=4294967296*(r+v1)+u1:=by have h2:(q-1)*v0<=4294967296*v0:=Fz _ (by have:=h.le;omega);omega
 grind [Zr,a9e]
theorem both(n u0:Nat) {v B:Nat}(hv:0<v):
 n/v*B+(n % v*B+u0)/v=(n*B+u0)/v/\(n % v*B+u0) % v=(n*B+u0) % v:=by
 have e:n*B+u0=v*(n/v*B)+(n % v*B+u0):=by grind [LR]
 constructor
 ·rw [e,Nat.mul_add_div hv]
 rw [e,Nat.mul_add_mod]
theorem aK0(n v k:Nat)(hk:0<k):n*k/(v*k)=n/v/\n*k % (v*k)/k=n % v:=by grind [Nat.mul_div_mul_right,Nat.mul_mod_mul_right,Nat.mul_div_cancel]
end Go.Proofs.YtdokipdchlcmeaaGreat.DivLaw
namespace Go.Proofs.YtdokipdchlcmeaaGreat.DivLaw
open Go.Proofs.Tryz
open Go.RowKit Go.Lib
theorem a1S(x:Nat)(h0:x≠0)(h:x<2^64):1<=sO x:=by rw [bitLen_half x h0 h];omega
theorem a1R:∀(k x:Nat),k<=64->x<2^k->x≠0->2^(sO x-1)<=x/\x<2^sO x
 |0,x,_,h,h0=>by simp at h;omega
 |k+1,x,hk,h,h0=>by
  have h64:x<2^64:=cR h (Nat.pow_le_pow_right (by omega) hk);rw [bitLen_half x h0 h64];by_cases c:x/2=0
  ·rw [c];have e:sO 0=0:=by decide
   grind
  have hh:x/2<2^k:=by omega
  obtain⟨a,b⟩:=a1R k (x/2) (by omega) hh c;have p:=a1S (x/2) c (by omega);obtain⟨m,hm⟩:∃m,sO (x/2)=m+1:=⟨sO (x/2)-1,by omega⟩;grind
structure Tz(y s P Q:Nat):Prop where
 lt:s<64
 pos:0<P
 pq:P*Q=18446744073709551616
 lo:9223372036854775808<=y*P
 hi:y*P<18446744073709551616
 eP:P=2^s
 eQ:Q=2^(64-s)
theorem shf(y:Nat)(h0:y≠0)(h:y<18446744073709551616):Tz y (64-sO y) (2^(64-sO y)) (2^(64-(64-sO y))):=by
 obtain⟨a,b⟩:=a1R 64 y (aZ _) (by simpa using h) h0;have p:=a1S y h0 (by simpa using h);have l:sO y<=64:=bitLen_le y 64 (aZ _) (by simpa using h);generalize sO y=t at*;have e64:2^(64-t)*2^(64-(64-t))=18446744073709551616:=by rw [<-Nat.pow_add,show 64-t+(64-(64-t))=64 by omega]
 have pp:0<2^(64-t):=Nat.pow_pos (by omega);refine⟨by omega,pp,e64, ?_, ?_,rfl,rfl⟩
 ·have h1:2^(t-1)*2^(64-t)=9223372036854775808:=by rw [<-Nat.pow_add,show t-1+(64-t)=63 by omega]
  rw [<-h1];exact Fz _ a
 have h1:2^t*2^(64-t)=18446744073709551616:=by grind
 rw [<-h1];exact Nat.mul_lt_mul_of_pos_right b pp
theorem aIL(a b s:Nat)(hb:b<2^s)(h:a*2^s+b<18446744073709551616):bits .or .u64 ((a*2^s:Nat):Int) (b:Int)=((a*2^s+b:Nat):Int):=by have h1:=bits_or_u64_nat (a*2^s) b (by omega) (by omega);rw [h1];congr 1;have h2:=Nat.shiftLeft_add_eq_or_of_lt hb a;grind [Nat.shiftLeft_eq]
structure Oe(hi lo y P Q v v1 v0 U N u1 u0:Nat):Prop where
 ev_:v=y*P
 vlo:9223372036854775808<=v
 Nc:v<18446744073709551616
 vv:v1*4294967296+v0=v
 aKw:2147483648<=v1
 aKv:v1<4294967296
 aKu:v0<4294967296
 PZ:U<v
 aEq:u1<4294967296
 V0:u0<4294967296
 all:(U*4294967296+u1)*4294967296+u0=(hi*18446744073709551616+lo)*P
theorem aHu {hi lo y s P Q:Nat}(S:Tz y s P Q)(hy:hi<y)(hl:lo<18446744073709551616):
 Oe hi lo y P Q (y*P) (y*P/4294967296) (y*P % 4294967296) (hi*P+lo/Q) (lo*P % 18446744073709551616) (lo*P % 18446744073709551616/4294967296) (lo*P % 18446744073709551616 % 4294967296):=by
 have h1:=S.lo;have h2:=S.hi;have hQ:0<Q:=by
  rcases Nat.eq_zero_or_pos Q with h|h
  ·have:=S.pq;rw [h] at this;simp at this
  exact h
 have hd:lo/Q<P:=(Fy hQ).2 (by rw [S.pq];exact hl);have hm:(hi+1)*P<=y*P:=Fz _ hy;rw [Fw] at hm;have nS:lo*P=lo/Q*18446744073709551616+lo*P % 18446744073709551616:=by
  have e:lo*P/18446744073709551616=lo/Q:=by rw [<-S.pq,a9h lo P];grind [Nat.mul_div_mul_left]
  omega
 refine⟨rfl,h1,h2,by omega,by omega,by omega,by omega,by omega,by omega,by omega, ?_⟩;grind
theorem Oe.ends {hi lo y P Q v v1 v0 U N u1 u0:Nat}(h:Oe hi lo y P Q v v1 v0 U N u1 u0)(hP:0<P):
 (U*4294967296+u1)/v*4294967296+((U*4294967296+u1) % v*4294967296+u0)/v=(hi*18446744073709551616+lo)/y/\
 ((U*4294967296+u1) % v*4294967296+u0) % v/P=(hi*18446744073709551616+lo) % y:=by
 have hv:=h.vlo;obtain⟨a,b⟩:=both (U*4294967296+u1) u0 (v:=v) (B:=4294967296) (by omega);rw [a,b,h.all,h.ev_];grind [aK0]
theorem yQ(U u1 q v:Nat)(hq:q=(U*4294967296+u1)/v)(hv:0<v)(hv':v<18446744073709551616):
 mC.wrap (mC.wrap (mC.wrap ((U:Int)*4294967296)+(u1:Int))-mC.wrap ((q:Int)*(v:Int)))=(((U*4294967296+u1) % v:Nat):Int):=by
 have e:=LR (U*4294967296+u1) v;rw [<-hq] at e;have hlt:=JH (U*4294967296+u1) hv;grind [uo]
end Go.Proofs.YtdokipdchlcmeaaGreat.DivLaw
namespace Go.Proofs.YtdokipdchlcmeaaGreat
open Go.Proofs.Tryz Go.RowKit
section
open Go.Lib Go.Proofs.YtdokipdchlcmeaaGreat.DivLaw
theorem Pf {U u1 v v1 v0:Nat}(h:U<v)(hv:v<18446744073709551616)(hU:U<v1*4294967296+v0)(vH:v0<4294967296)(jc:2147483648<=v1)(Jg:v1<4294967296)(cj:u1<4294967296):
 ∃qa ra:Nat,Hid (Inv U u1 v1 v0 qa ra)/\mC.wrap ((U:Int)/(v1:Int))=(qa:Int)/\mC.wrap ((U:Int)-mC.wrap ((qa:Int)*(v1:Int)))=(ra:Int):=by
 have I0:=Inv.first hU vH jc Jg cj;have hle:=I0.le;refine⟨U/v1,U % v1,I0, ?_, ?_⟩
 ·grind [Fv]
 grind [LR,uo]
theorem aET(hi lo y s P Q v v1 v0 U N u1 u0 D M:Nat)(w:aJ)(hD:(hi*18446744073709551616+lo)/y=D)(hM:(hi*18446744073709551616+lo) % y=M)(h1:0<hi)(h2:hi<y)(S:Tz y s P Q)(hn:Oe hi lo y P Q v v1 v0 U N u1 u0)
 (hL:aQ aM 296 #[aG .u64 y] w λe w'=>e=aU (ν s)/\w'=w)
 (e1:mC.wrap ((y:Int)*(P:Int))=(v:Int)) (e2:(v:Int)/4294967296=(v1:Int)) (e3:bits .and .u64 (v:Int) 4294967295=(v0:Int))
 (e4:bits .or .u64 (mC.wrap ((hi:Int)*(P:Int))) ((lo:Int)/2^(64-s))=(U:Int)) (e5:mC.wrap ((lo:Int)*(P:Int))=(N:Int)) (e6:(N:Int)/4294967296=(u1:Int)) (e7:bits .and .u64 (N:Int) 4294967295=(u0:Int)):
 aQ aM 295 #[aG .u64 hi,aG .u64 lo,aG .u64 y] w λe w'=>e=aU (bB #[aG .u64 (D:Int),aG .u64 (M:Int)])/\w'=w:=by
 have hs:=S.lt;have hP:(2:Int)^s=(P:Int):=by rw [S.eP];exact(Int.natCast_pow 2 s).symm
 have HL:=η hL;have HN:=η hn;have tz:=η hn.vv;have jc:=hn.aKw;have Jg:=hn.aKv;have vH:=hn.aKu;have cj:=hn.aEq;have HU:Hid (U<v1*4294967296+v0):=by have:=hn.PZ;rw [<-hn.vv] at this;exact this
 have HS:=η S;have HD:=η hD;have yu:=η hM;have f0:¬v1=0:=by omega
 obtain⟨qa,ra,I0,f1,f2⟩:=Pf hn.PZ hn.Nc HU.o vH jc Jg cj;have gV:=I0.o.le;clear hL hn S hD hM;have z1:((y:Int)==0)=aP:=by grind
 have z2:((hi:Int)==0)=aP:=by grind
 have z3:¬(y:Int)<=(hi:Int):=by omega
 go_enter aAV,aBG
 go_wp2_with fail
 refine HL.o.mono ?_;rintro e w' ⟨rfl,hw'⟩;subst w';clear HL;have g0:=zJ;have g1:=zJ;have g2:=zJ;go_wp2_with fail
 go_loopg [15,16] 4294967298 (λkx s9 t9 wr=>∃q r:Nat,s9=aG .u64 q/\t9=aG .u64 r/\q<=kx/\Hid (Inv U u1 v1 v0 q r)/\wr=w)
 case atStart=>grind
 case round=>
  clear I0 f0 f1 f2 g0 g1 g2;obtain⟨q,r,rfl,rfl,ld,HI,rfl⟩:=hrel;have hq:=HI.o.le;have hr:=HI.o.lt;obtain⟨m,hm⟩:∃m,m=q*v0:=⟨_,rfl⟩;have WD:m<=4294967297*4294967295:=by rw [hm];exact yC hq (by omega)
  have kw:mC.wrap ((q:Int)*(v0:Int))=(m:Int):=by rw [Oa,<-hm];exact Fv _ (by omega)
  have HM:=η hm;clear hm;by_cases c1:4294967296<=q
  ·have GR:(4294967296:Int)<=(q:Int):=by omega
   have HT:Hid (4294967296<=q\/4294967296*r+u1<q*v0):=aS c1;have tI:1<=q:=(HI.o.more HU.o jc cj HT.o).1;have kz:(q:Int)-1=((q-1:Nat):Int):=by omega
   by_cases hb:r+v1<4294967296
   ·have iV:¬(4294967296:Int)<=(r:Int)+(v1:Int):=by omega
    have I2:Hid (Inv U u1 v1 v0 (q-1) (r+v1)):=HI.o.next HU.o jc cj HT.o hb;clear HI HT;go_wp2_with fail
    go_roundg (q-1)
    case measure=>omega
    case rel=>grind
   have iV:(4294967296:Int)<=(r:Int)+(v1:Int):=by omega
   have HQ:Hid (q-1=(U*4294967296+u1)/v):=by have h9:=HI.o.broke HU.o vH jc cj HT.o (by omega);rw [tz.o] at h9;exact h9
   clear HI HT ld hb;obtain⟨qq,kj⟩:∃z,z=q-1:=⟨_,rfl⟩;rw [<-kj] at HQ;have Hx:(q:Int)-1=(qq:Int):=by omega
   have Hy:((q-1:Nat):Int)=(qq:Int):=by omega
   clear kj kz;obtain⟨qA,rfl⟩:∃z,z=qq:=⟨_,rfl⟩;obtain⟨wo,rfl⟩:∃wo:aJ,wo=wr:=⟨_,rfl⟩;have hvp:0<v:=by omega
   have vU:=HN.o.Nc;have hqA:qA<4294967296:=by rw [HQ.o];exact NN HN.o.PZ cj
   have t1:=yQ U u1 qA v HQ.o hvp vU;obtain⟨R,hR⟩:∃z,z=(U*4294967296+u1) % v:=⟨_,rfl⟩;rw [<-hR] at t1;have z8:Hid (R<v):=by show R<v;rw [hR];exact JH _ hvp
   have B4:Hid (R<v1*4294967296+v0):=by have:=z8.o;rw [<-tz.o] at this;exact this
   have yz:=η hR;have lK:=η HQ.o;have a3x:=cj;clear hR HQ cj HU;have HU:=B4;have cj:=HN.o.V0;have f0:¬v1=0:=by omega
   obtain⟨qb,rb,I0,f1,f2⟩:=Pf z8.o vU HU.o vH jc Jg cj;have a3h:=I0.o.le;have nD:Hid (0<v/\v<18446744073709551616):=⟨hvp,vU⟩;clear hvp vU;have g0:=zJ;have g1:=zJ;have g2:=zJ;go_wp2_with fail
   go_loopg [18,16] 4294967298 (λkx s9 t9 wr=>∃q r:Nat,s9=aG .u64 q/\t9=aG .u64 r/\q<=kx/\Hid (Inv R u0 v1 v0 q r)/\wr=wo)
   case atStart=>grind
   case round=>
    clear I0 f0 f1 f2 g0 g1 g2 t1;obtain⟨q,r,rfl,rfl,ld,HI,rfl⟩:=hrel;have hq:=HI.o.le;have hr:=HI.o.lt;obtain⟨m,hm⟩:∃m,m=q*v0:=⟨_,rfl⟩;have WD:m<=4294967297*4294967295:=by rw [hm];exact yC hq (by omega)
    have kw:mC.wrap ((q:Int)*(v0:Int))=(m:Int):=by rw [Oa,<-hm];exact Fv _ (by omega)
    have HM:=η hm;clear hm;by_cases c1:4294967296<=q
    ·have GR:(4294967296:Int)<=(q:Int):=by omega
     have HT:Hid (4294967296<=q\/4294967296*r+u0<q*v0):=aS c1;have tI:1<=q:=(HI.o.more HU.o jc cj HT.o).1;have kz:(q:Int)-1=((q-1:Nat):Int):=by omega
     by_cases hb:r+v1<4294967296
     ·have iV:¬(4294967296:Int)<=(r:Int)+(v1:Int):=by omega
      have I2:Hid (Inv R u0 v1 v0 (q-1) (r+v1)):=HI.o.next HU.o jc cj HT.o hb;clear HI HT;go_wp2_with fail
      go_roundg (q-1)
      case measure=>omega
      case rel=>grind
     have iV:(4294967296:Int)<=(r:Int)+(v1:Int):=by omega
     have HQ:Hid (q-1=(R*4294967296+u0)/v):=by have h9:=HI.o.broke HU.o vH jc cj HT.o (by omega);rw [tz.o] at h9;exact h9
     clear HI HT ld hb;obtain⟨qq,kj⟩:∃z,z=q-1:=⟨_,rfl⟩;rw [<-kj] at HQ;have Hx:(q:Int)-1=(qq:Int):=by omega
     have Hy:((q-1:Nat):Int)=(qq:Int):=by omega
     clear kj kz;obtain⟨qB,rfl⟩:∃z,z=qq:=⟨_,rfl⟩;have Et:qB<4294967296:=by rw [HQ.o];exact NN z8.o cj
     have t3:=yQ R u0 qB v HQ.o nD.o.1 nD.o.2;have HE:=η (HN.o.ends HS.o.pos);rw [<-lK.o,<-yz.o,<-HQ.o,HD.o,yu.o] at HE;obtain⟨C,hC⟩:∃z,z=(R*4294967296+u0) % v:=⟨_,rfl⟩;rw [<-hC] at t3 HE;clear hC HQ;go_wp2_with fail
     go_ret2;exact⟨my (by have:=HE.o.1;omega) (by rw [<-HE.o.2];exact(EB C P).symm),rfl⟩
    have GR:¬(4294967296:Int)<=(q:Int):=by omega
    by_cases c2:4294967296*r+u0<m
    ·have GU:4294967296*(r:Int)+(u0:Int)<(m:Int):=by omega
     have HT:Hid (4294967296<=q\/4294967296*r+u0<q*v0):=aT (HM.o▸c2);have tI:1<=q:=(HI.o.more HU.o jc cj HT.o).1;have kz:(q:Int)-1=((q-1:Nat):Int):=by omega
     by_cases hb:r+v1<4294967296
     ·have iV:¬(4294967296:Int)<=(r:Int)+(v1:Int):=by omega
      have I2:Hid (Inv R u0 v1 v0 (q-1) (r+v1)):=HI.o.next HU.o jc cj HT.o hb;clear HI HT;go_wp2_with fail
      go_roundg (q-1)
      case measure=>omega
      case rel=>grind
     have iV:(4294967296:Int)<=(r:Int)+(v1:Int):=by omega
     have HQ:Hid (q-1=(R*4294967296+u0)/v):=by have h9:=HI.o.broke HU.o vH jc cj HT.o (by omega);rw [tz.o] at h9;exact h9
     clear HI HT ld hb;obtain⟨qq,kj⟩:∃z,z=q-1:=⟨_,rfl⟩;rw [<-kj] at HQ;have Hx:(q:Int)-1=(qq:Int):=by omega
     have Hy:((q-1:Nat):Int)=(qq:Int):=by omega
     clear kj kz;obtain⟨qB,rfl⟩:∃z,z=qq:=⟨_,rfl⟩;have Et:qB<4294967296:=by omega
     have t3:=yQ R u0 qB v HQ.o nD.o.1 nD.o.2;have HE:=η (HN.o.ends HS.o.pos);rw [<-lK.o,<-yz.o,<-HQ.o,HD.o,yu.o] at HE;obtain⟨C,hC⟩:∃z,z=(R*4294967296+u0) % v:=⟨_,rfl⟩;rw [<-hC] at t3 HE;clear hC HQ;go_wp2_with fail
     go_ret2;exact⟨my (by have:=HE.o.1;omega) (by rw [<-HE.o.2];exact(EB C P).symm),rfl⟩
    have GU:¬4294967296*(r:Int)+(u0:Int)<(m:Int):=by omega
    have HQ:Hid (q=(R*4294967296+u0)/v):=by have h9:=HI.o.found (by omega) (by rw [<-HM.o];omega);rw [tz.o] at h9;exact h9
    clear HI ld;obtain⟨qB,rfl⟩:∃z,z=q:=⟨_,rfl⟩;have Et:qB<4294967296:=by omega
    have t3:=yQ R u0 qB v HQ.o nD.o.1 nD.o.2;have HE:=η (HN.o.ends HS.o.pos);rw [<-lK.o,<-yz.o,<-HQ.o,HD.o,yu.o] at HE;obtain⟨C,hC⟩:∃z,z=(R*4294967296+u0) % v:=⟨_,rfl⟩;rw [<-hC] at t3 HE;clear hC HQ;go_wp2_with fail
    go_ret2;exact⟨my (by have:=HE.o.1;omega) (by rw [<-HE.o.2];exact(EB C P).symm),rfl⟩
  have GR:¬(4294967296:Int)<=(q:Int):=by omega
  by_cases c2:4294967296*r+u1<m
  ·have GU:4294967296*(r:Int)+(u1:Int)<(m:Int):=by omega
   have HT:Hid (4294967296<=q\/4294967296*r+u1<q*v0):=aT (HM.o▸c2);have tI:1<=q:=(HI.o.more HU.o jc cj HT.o).1;have kz:(q:Int)-1=((q-1:Nat):Int):=by omega
   by_cases hb:r+v1<4294967296
   ·have iV:¬(4294967296:Int)<=(r:Int)+(v1:Int):=by omega
    have I2:Hid (Inv U u1 v1 v0 (q-1) (r+v1)):=HI.o.next HU.o jc cj HT.o hb;clear HI HT;go_wp2_with fail
    go_roundg (q-1)
    case measure=>omega
    case rel=>grind
   have iV:(4294967296:Int)<=(r:Int)+(v1:Int):=by omega
   have HQ:Hid (q-1=(U*4294967296+u1)/v):=by have h9:=HI.o.broke HU.o vH jc cj HT.o (by omega);rw [tz.o] at h9;exact h9
   clear HI HT ld hb;obtain⟨qq,kj⟩:∃z,z=q-1:=⟨_,rfl⟩;rw [<-kj] at HQ;have Hx:(q:Int)-1=(qq:Int):=by omega
   have Hy:((q-1:Nat):Int)=(qq:Int):=by omega
   clear kj kz;obtain⟨qA,rfl⟩:∃z,z=qq:=⟨_,rfl⟩;obtain⟨wo,rfl⟩:∃wo:aJ,wo=wr:=⟨_,rfl⟩;have hvp:0<v:=by omega
   have vU:=HN.o.Nc;have hqA:qA<4294967296:=by omega
   have t1:=yQ U u1 qA v HQ.o hvp vU;obtain⟨R,hR⟩:∃z,z=(U*4294967296+u1) % v:=⟨_,rfl⟩;rw [<-hR] at t1;have z8:Hid (R<v):=by show R<v;rw [hR];exact JH _ hvp
   have B4:Hid (R<v1*4294967296+v0):=by have:=z8.o;rw [<-tz.o] at this;exact this
   have yz:=η hR;have lK:=η HQ.o;have a3x:=cj;clear hR HQ cj HU;have HU:=B4;have cj:=HN.o.V0;have f0:¬v1=0:=by omega
   obtain⟨qb,rb,I0,f1,f2⟩:=Pf z8.o vU HU.o vH jc Jg cj;have a3h:=I0.o.le;have nD:Hid (0<v/\v<18446744073709551616):=⟨hvp,vU⟩;clear hvp vU;have g0:=zJ;have g1:=zJ;have g2:=zJ;go_wp2_with fail
   go_loopg [18,16] 4294967298 (λkx s9 t9 wr=>∃q r:Nat,s9=aG .u64 q/\t9=aG .u64 r/\q<=kx/\Hid (Inv R u0 v1 v0 q r)/\wr=wo)
   case atStart=>grind
   case round=>
    clear I0 f0 f1 f2 g0 g1 g2 t1;obtain⟨q,r,rfl,rfl,ld,HI,rfl⟩:=hrel;have hq:=HI.o.le;have hr:=HI.o.lt;obtain⟨m,hm⟩:∃m,m=q*v0:=⟨_,rfl⟩;have WD:m<=4294967297*4294967295:=by rw [hm];exact yC hq (by omega)
    have kw:mC.wrap ((q:Int)*(v0:Int))=(m:Int):=by rw [Oa,<-hm];exact Fv _ (by omega)
    have HM:=η hm;clear hm;by_cases c1:4294967296<=q
    ·have GR:(4294967296:Int)<=(q:Int):=by omega
     have HT:Hid (4294967296<=q\/4294967296*r+u0<q*v0):=aS c1;have tI:1<=q:=(HI.o.more HU.o jc cj HT.o).1;have kz:(q:Int)-1=((q-1:Nat):Int):=by omega
     by_cases hb:r+v1<4294967296
     ·have iV:¬(4294967296:Int)<=(r:Int)+(v1:Int):=by omega
      have I2:Hid (Inv R u0 v1 v0 (q-1) (r+v1)):=HI.o.next HU.o jc cj HT.o hb;clear HI HT;go_wp2_with fail
      go_roundg (q-1)
      case measure=>omega
      case rel=>grind
     have iV:(4294967296:Int)<=(r:Int)+(v1:Int):=by omega
     have HQ:Hid (q-1=(R*4294967296+u0)/v):=by have h9:=HI.o.broke HU.o vH jc cj HT.o (by omega);rw [tz.o] at h9;exact h9
     clear HI HT ld hb;obtain⟨qq,kj⟩:∃z,z=q-1:=⟨_,rfl⟩;rw [<-kj] at HQ;have Hx:(q:Int)-1=(qq:Int):=by omega
     have Hy:((q-1:Nat):Int)=(qq:Int):=by omega
     clear kj kz;obtain⟨qB,rfl⟩:∃z,z=qq:=⟨_,rfl⟩;have Et:qB<4294967296:=by rw [HQ.o];exact NN z8.o cj
     have t3:=yQ R u0 qB v HQ.o nD.o.1 nD.o.2;have HE:=η (HN.o.ends HS.o.pos);rw [<-lK.o,<-yz.o,<-HQ.o,HD.o,yu.o] at HE;obtain⟨C,hC⟩:∃z,z=(R*4294967296+u0) % v:=⟨_,rfl⟩;rw [<-hC] at t3 HE;clear hC HQ;go_wp2_with fail
     go_ret2;exact⟨my (by have:=HE.o.1;omega) (by rw [<-HE.o.2];exact(EB C P).symm),rfl⟩
    have GR:¬(4294967296:Int)<=(q:Int):=by omega
    by_cases c2:4294967296*r+u0<m
    ·have GU:4294967296*(r:Int)+(u0:Int)<(m:Int):=by omega
     have HT:Hid (4294967296<=q\/4294967296*r+u0<q*v0):=aT (HM.o▸c2);have tI:1<=q:=(HI.o.more HU.o jc cj HT.o).1;have kz:(q:Int)-1=((q-1:Nat):Int):=by omega
     by_cases hb:r+v1<4294967296
     ·have iV:¬(4294967296:Int)<=(r:Int)+(v1:Int):=by omega
      have I2:Hid (Inv R u0 v1 v0 (q-1) (r+v1)):=HI.o.next HU.o jc cj HT.o hb;clear HI HT;go_wp2_with fail
      go_roundg (q-1)
      case measure=>omega
      case rel=>grind
     have iV:(4294967296:Int)<=(r:Int)+(v1:Int):=by omega
     have HQ:Hid (q-1=(R*4294967296+u0)/v):=by have h9:=HI.o.broke HU.o vH jc cj HT.o (by omega);rw [tz.o] at h9;exact h9
     clear HI HT ld hb;obtain⟨qq,kj⟩:∃z,z=q-1:=⟨_,rfl⟩;rw [<-kj] at HQ;have Hx:(q:Int)-1=(qq:Int):=by omega
     have Hy:((q-1:Nat):Int)=(qq:Int):=by omega
     clear kj kz;obtain⟨qB,rfl⟩:∃z,z=qq:=⟨_,rfl⟩;have Et:qB<4294967296:=by omega
     have t3:=yQ R u0 qB v HQ.o nD.o.1 nD.o.2;have HE:=η (HN.o.ends HS.o.pos);rw [<-lK.o,<-yz.o,<-HQ.o,HD.o,yu.o] at HE;obtain⟨C,hC⟩:∃z,z=(R*4294967296+u0) % v:=⟨_,rfl⟩;rw [<-hC] at t3 HE;clear hC HQ;go_wp2_with fail
     go_ret2;exact⟨my (by have:=HE.o.1;omega) (by rw [<-HE.o.2];exact(EB C P).symm),rfl⟩
    have GU:¬4294967296*(r:Int)+(u0:Int)<(m:Int):=by omega
    have HQ:Hid (q=(R*4294967296+u0)/v):=by have h9:=HI.o.found (by omega) (by rw [<-HM.o];omega);rw [tz.o] at h9;exact h9
    clear HI ld;obtain⟨qB,rfl⟩:∃z,z=q:=⟨_,rfl⟩;have Et:qB<4294967296:=by omega
    have t3:=yQ R u0 qB v HQ.o nD.o.1 nD.o.2;have HE:=η (HN.o.ends HS.o.pos);rw [<-lK.o,<-yz.o,<-HQ.o,HD.o,yu.o] at HE;obtain⟨C,hC⟩:∃z,z=(R*4294967296+u0) % v:=⟨_,rfl⟩;rw [<-hC] at t3 HE;clear hC HQ;go_wp2_with fail
    go_ret2;exact⟨my (by have:=HE.o.1;omega) (by rw [<-HE.o.2];exact(EB C P).symm),rfl⟩
  have GU:¬4294967296*(r:Int)+(u1:Int)<(m:Int):=by omega
  have HQ:Hid (q=(U*4294967296+u1)/v):=by have h9:=HI.o.found (by omega) (by rw [<-HM.o];omega);rw [tz.o] at h9;exact h9
  clear HI ld;obtain⟨qA,rfl⟩:∃z,z=q:=⟨_,rfl⟩;obtain⟨wo,rfl⟩:∃wo:aJ,wo=wr:=⟨_,rfl⟩;have hvp:0<v:=by omega
  have vU:=HN.o.Nc;have hqA:qA<4294967296:=by omega
  have t1:=yQ U u1 qA v HQ.o hvp vU;obtain⟨R,hR⟩:∃z,z=(U*4294967296+u1) % v:=⟨_,rfl⟩;rw [<-hR] at t1;have z8:Hid (R<v):=by show R<v;rw [hR];exact JH _ hvp
  have B4:Hid (R<v1*4294967296+v0):=by have:=z8.o;rw [<-tz.o] at this;exact this
  have yz:=η hR;have lK:=η HQ.o;have a3x:=cj;clear hR HQ cj HU;have HU:=B4;have cj:=HN.o.V0;have f0:¬v1=0:=by omega
  obtain⟨qb,rb,I0,f1,f2⟩:=Pf z8.o vU HU.o vH jc Jg cj;have a3h:=I0.o.le;have nD:Hid (0<v/\v<18446744073709551616):=⟨hvp,vU⟩;clear hvp vU;have g0:=zJ;have g1:=zJ;have g2:=zJ;go_wp2_with fail
  go_loopg [18,16] 4294967298 (λkx s9 t9 wr=>∃q r:Nat,s9=aG .u64 q/\t9=aG .u64 r/\q<=kx/\Hid (Inv R u0 v1 v0 q r)/\wr=wo)
  case atStart=>grind
  case round=>
   clear I0 f0 f1 f2 g0 g1 g2 t1;obtain⟨q,r,rfl,rfl,ld,HI,rfl⟩:=hrel;have hq:=HI.o.le;have hr:=HI.o.lt;obtain⟨m,hm⟩:∃m,m=q*v0:=⟨_,rfl⟩;have WD:m<=4294967297*4294967295:=by rw [hm];exact yC hq (by omega)
   have kw:mC.wrap ((q:Int)*(v0:Int))=(m:Int):=by rw [Oa,<-hm];exact Fv _ (by omega)
   have HM:=η hm;clear hm;by_cases c1:4294967296<=q
   ·have GR:(4294967296:Int)<=(q:Int):=by omega
    have HT:Hid (4294967296<=q\/4294967296*r+u0<q*v0):=aS c1;have tI:1<=q:=(HI.o.more HU.o jc cj HT.o).1;have kz:(q:Int)-1=((q-1:Nat):Int):=by omega
    by_cases hb:r+v1<4294967296
    ·have iV:¬(4294967296:Int)<=(r:Int)+(v1:Int):=by omega
     have I2:Hid (Inv R u0 v1 v0 (q-1) (r+v1)):=HI.o.next HU.o jc cj HT.o hb;clear HI HT;go_wp2_with fail
     go_roundg (q-1)
     case measure=>omega
     case rel=>grind
    have iV:(4294967296:Int)<=(r:Int)+(v1:Int):=by omega
    have HQ:Hid (q-1=(R*4294967296+u0)/v):=by have h9:=HI.o.broke HU.o vH jc cj HT.o (by omega);rw [tz.o] at h9;exact h9
    clear HI HT ld hb;obtain⟨qq,kj⟩:∃z,z=q-1:=⟨_,rfl⟩;rw [<-kj] at HQ;have Hx:(q:Int)-1=(qq:Int):=by omega
    have Hy:((q-1:Nat):Int)=(qq:Int):=by omega
    clear kj kz;obtain⟨qB,rfl⟩:∃z,z=qq:=⟨_,rfl⟩;have Et:qB<4294967296:=by rw [HQ.o];exact NN z8.o cj
    have t3:=yQ R u0 qB v HQ.o nD.o.1 nD.o.2;have HE:=η (HN.o.ends HS.o.pos);rw [<-lK.o,<-yz.o,<-HQ.o,HD.o,yu.o] at HE;obtain⟨C,hC⟩:∃z,z=(R*4294967296+u0) % v:=⟨_,rfl⟩;rw [<-hC] at t3 HE;clear hC HQ;go_wp2_with fail
    go_ret2;exact⟨my (by have:=HE.o.1;omega) (by rw [<-HE.o.2];exact(EB C P).symm),rfl⟩
   have GR:¬(4294967296:Int)<=(q:Int):=by omega
   by_cases c2:4294967296*r+u0<m
   ·have GU:4294967296*(r:Int)+(u0:Int)<(m:Int):=by omega
    have HT:Hid (4294967296<=q\/4294967296*r+u0<q*v0):=aT (HM.o▸c2);have tI:1<=q:=(HI.o.more HU.o jc cj HT.o).1;have kz:(q:Int)-1=((q-1:Nat):Int):=by omega
    by_cases hb:r+v1<4294967296
    ·have iV:¬(4294967296:Int)<=(r:Int)+(v1:Int):=by omega
     have I2:Hid (Inv R u0 v1 v0 (q-1) (r+v1)):=HI.o.next HU.o jc cj HT.o hb;clear HI HT;go_wp2_with fail
     go_roundg (q-1)
     case measure=>omega
     case rel=>grind
    have iV:(4294967296:Int)<=(r:Int)+(v1:Int):=by omega
    have HQ:Hid (q-1=(R*4294967296+u0)/v):=by have h9:=HI.o.broke HU.o vH jc cj HT.o (by omega);rw [tz.o] at h9;exact h9
    clear HI HT ld hb;obtain⟨qq,kj⟩:∃z,z=q-1:=⟨_,rfl⟩;rw [<-kj] at HQ;have Hx:(q:Int)-1=(qq:Int):=by omega
    have Hy:((q-1:Nat):Int)=(qq:Int):=by omega
    clear kj kz;obtain⟨qB,rfl⟩:∃z,z=qq:=⟨_,rfl⟩;have Et:qB<4294967296:=by omega
    have t3:=yQ R u0 qB v HQ.o nD.o.1 nD.o.2;have HE:=η (HN.o.ends HS.o.pos);rw [<-lK.o,<-yz.o,<-HQ.o,HD.o,yu.o] at HE;obtain⟨C,hC⟩:∃z,z=(R*4294967296+u0) % v:=⟨_,rfl⟩;rw [<-hC] at t3 HE;clear hC HQ;go_wp2_with fail
    go_ret2;exact⟨my (by have:=HE.o.1;omega) (by rw [<-HE.o.2];exact(EB C P).symm),rfl⟩
   have GU:¬4294967296*(r:Int)+(u0:Int)<(m:Int):=by omega
   have HQ:Hid (q=(R*4294967296+u0)/v):=by have h9:=HI.o.found (by omega) (by rw [<-HM.o];omega);rw [tz.o] at h9;exact h9
   clear HI ld;obtain⟨qB,rfl⟩:∃z,z=q:=⟨_,rfl⟩;have Et:qB<4294967296:=by omega
   have t3:=yQ R u0 qB v HQ.o nD.o.1 nD.o.2;have HE:=η (HN.o.ends HS.o.pos);rw [<-lK.o,<-yz.o,<-HQ.o,HD.o,yu.o] at HE;obtain⟨C,hC⟩:∃z,z=(R*4294967296+u0) % v:=⟨_,rfl⟩;rw [<-hC] at t3 HE;clear hC HQ;go_wp2_with fail
   go_ret2;exact⟨my (by have:=HE.o.1;omega) (by rw [<-HE.o.2];exact(EB C P).symm),rfl⟩
end
section
open Go.Lib Go.Proofs.YtdokipdchlcmeaaGreat.DivLaw
theorem aHD(y:Nat)(w:aJ)(h:y<18446744073709551616):aQ aM 296 #[aG .u64 y] w λe w'=>e=aU (aG aF (64-sO y:Nat))/\w'=w:=by refine(bits_LeadingZeros64 (y:Int) w (by omega) (by omega)).mono ?_;grind [Lib.bitLen_le,Int.toNat_natCast,Int.ofNat_sub]
theorem aES(hi lo y:Nat)(w:aJ)(h2:hi<y)(h3:y<18446744073709551616)(nS:lo<18446744073709551616):
 aQ aM 295 #[aG .u64 hi,aG .u64 lo,aG .u64 y] w λe w'=>e=aU (bB #[aG .u64 (((hi*18446744073709551616+lo)/y:Nat):Int),aG .u64 (((hi*18446744073709551616+lo) % y:Nat):Int)])/\∃n,w'=w.drewN n:=by
 by_cases h1:hi=0
 ·subst h1;have e1:(0*18446744073709551616+lo)/y=lo/y:=by grind
  have e2:(0*18446744073709551616+lo) % y=lo % y:=by grind
  rw [e1,e2];obtain⟨D,hD⟩:=xq (lo/y);obtain⟨M,hM⟩:=xq (lo % y);rw [<-hD,<-hM];have hDl:D<=lo:=by rw [hD];exact Nat.div_le_self _ _
  have f0:¬y=0:=by omega
  have f1:mC.wrap ((lo:Int)/(y:Int))=(D:Int):=by grind [Fv]
  have f2:(lo:Int) % (y:Int)=(M:Int):=by omega
  have f3:((y:Int)==0)=aP:=by grind
  have f6:(lo:Int).tmod (y:Int)=(M:Int):=by grind
  clear e1 e2 hD hM;go_enter aAV,aBG
  go_wp2
  go_quiet (fail)
  go_wp2
  go_ret2;exact⟨rfl,_,rfl⟩
 have S:=shf y (by omega) h3;have hn:=aHu (lo:=lo) S h2 nS;have hM:=hn.PZ;have DL:=hn.Nc;have hb:lo/2^(64-(64-sO y))<2^(64-sO y):=(Fy (Nat.pow_pos (by omega))).2 (by rw [S.pq];exact nS);have hor:=aIL hi (lo/2^(64-(64-sO y))) (64-sO y) hb (by omega);refine(aET hi lo y _ _ _ _ _ _ _ _ _ _ _ _ w rfl rfl (by omega) h2 S hn (aHD y w h3) ?_ ?_ ?_ ?_ ?_ ?_ ?_).mono ?_
 ·grind [Fv]
 ·exact a9a _
 ·grind [a9b]
 ·rw [Oa,Fv _ (Nat.lt_of_le_of_lt (Nat.le_add_right _ _) (LS hM DL))];grind
 ·grind [Mul64.wrapM]
 ·exact a9a _
 ·grind [a9b]
 rintro e w' ⟨rfl,rfl⟩;exact⟨rfl,0,rfl⟩
end
end Go.Proofs.YtdokipdchlcmeaaGreat
namespace Go.Proofs.YtdokipdchlcmeaaGreat.oh
open Go.Proofs.Tryz
section
variable {k:Int->Int}
def L(k:Int->Int)(x y:Int):Prop:=k x<k y\/(k x=k y/\x<y)
theorem L.trans {x y z:Int}(h:L k x y)(g:L k y z):L k x z:=by unfold L at*;omega
theorem L.of_le {x y:Int}(h:¬k y<k x)(g:x<y):L k x y:=by unfold L;omega
def cH(k:Int->Int)(f:Nat->Int)(a b:Nat):Prop:=∀i j,a<=i->i<j->j<b->L k (f i) (f j)
structure cX(f g:Nat->Int)(a b:Nat):Prop where
 to:∀i,a<=i->i<b->∃j,a<=j/\j<b/\g i=f j
 of:∀j,a<=j->j<b->∃i,a<=i/\i<b/\f j=g i
 o:∀i,i<a\/b<=i->g i=f i
theorem cX.refl(f:Nat->Int)(a b:Nat):cX f f a b:=⟨λi h1 h2=>⟨i,h1,h2,rfl⟩,λi h1 h2=>⟨i,h1,h2,rfl⟩,λ_ _=>rfl⟩
theorem cX.trans {f g h:Nat->Int} {a b:Nat}(x:cX f g a b)(y:cX g h a b):cX f h a b:=by
 refine⟨λi h1 h2=> ?_,λi h1 h2=> ?_,λi hi=>(y.o i hi).trans (x.o i hi)⟩
 ·obtain⟨j,h3,h4,e⟩:=y.to i h1 h2;obtain⟨q,h5,h6,e2⟩:=x.to j h3 h4;grind
 obtain⟨j,h3,h4,e⟩:=x.of i h1 h2;obtain⟨q,h5,h6,e2⟩:=y.of j h3 h4;grind
theorem cX.mono {f g:Nat->Int} {a b a' b':Nat}(x:cX f g a b)(ha:a'<=a)(hb:b<=b'):cX f g a' b':=by
 refine⟨λi h1 h2=> ?_,λi h1 h2=> ?_,λi hi=>x.o i (by omega)⟩
 ·by_cases h:a<=i/\i<b
  ·obtain⟨j,h3,h4,e⟩:=x.to i h.1 h.2;grind
  exact⟨i,h1,h2,x.o i (by omega)⟩
 by_cases h:a<=i/\i<b
 ·obtain⟨j,h3,h4,e⟩:=x.of i h.1 h.2;grind
 exact⟨i,h1,h2,(x.o i (by omega)).symm⟩
def nA(f:Nat->Int)(x y:Nat):Nat->Int:=λp=>if p=x then f y else if p=y then f x else f p
theorem cX.swap(f:Nat->Int) {a b x y:Nat}(hx:a<=x)(mL:x<b)(hy:a<=y)(hy':y<b):cX f (nA f x y) a b:=by
 refine⟨λi h1 h2=> ?_,λi h1 h2=> ?_,λi hi=> ?_⟩
 ·unfold nA;split
  ·exact⟨y,hy,hy',rfl⟩
  split
  ·exact⟨x,hx,mL,rfl⟩
  exact⟨i,h1,h2,rfl⟩
 ·by_cases e1:i=x
  ·refine⟨y,hy,hy', ?_⟩;grind [nA]
  by_cases e2:i=y
  ·refine⟨x,hx,mL, ?_⟩;grind [nA]
  refine⟨i,h1,h2, ?_⟩;grind [nA]
 grind [nA]
def sB(f:Nat->Int)(a m b:Nat):Prop:=∀i j,a<=i->i<m->m<=j->j<b->f i<f j
structure Ins(k:Int->Int)(f0 g:Nat->Int)(a i j:Nat):Prop where
 mv:cX f0 g a (i+1)
 le:a<=j
 ge:j<=i
 vk:∀p q,a<=p->p<q->q<=i->p≠j->q≠j->L k (g p) (g q)
 up:∀q,j<q->q<=i->L k (g j) (g q)
 top:∀p,a<=p->p<=i->p≠j->g p<g j
theorem Ins.start {f0 g:Nat->Int} {a b i:Nat}(h0:∀p q,a<=p->p<q->q<b->f0 p<f0 q)(hm:cX f0 g a i)(hs:cH k g a i)(ha:a<i)(hb:i<b):Ins k f0 g a i i:=by refine⟨hm.mono (aZ _) (by omega),by omega,aZ _,λp q h1 h2 h3 _ h4=>hs p q h1 h2 (by omega),λq h1 h2=>by omega,λp h1 h2 h3=> ?_⟩;obtain⟨j,h4,h5,e⟩:=hm.to p h1 (by omega);rw [e,hm.o i (by omega)];exact h0 j i h4 h5 hb
theorem Ins.step {f0 g:Nat->Int} {a i j:Nat}(h:Ins k f0 g a i j)(hj:a<j)(hl:k (g j)<k (g (j-1))):Ins k f0 (nA g j (j-1)) a i (j-1):=by
 have h1:=h.ge;have e1:nA g j (j-1) (j-1)=g j:=by grind [nA]
 have e2:nA g j (j-1) j=g (j-1):=by grind [nA]
 have e3:∀p,p≠j->p≠j-1->nA g j (j-1) p=g p:=λp q r=>by grind [nA]
 refine⟨h.mv.trans (cX.swap g (by omega) (by omega) (by omega) (by omega)),by omega,by omega, ?_, ?_, ?_⟩
 ·intro p q ha QO hq nU hq';by_cases c1:p=j
  ·subst c1;rw [e2,e3 q (by omega) (by omega)];exact h.vk (p-1) q (by omega) (by omega) hq (by omega) (by omega)
  by_cases c2:q=j
  ·subst c2;rw [e2,e3 p (by omega) (by omega)];exact h.vk p (q-1) ha (by omega) (by omega) (by omega) (by omega)
  rw [e3 p c1 nU,e3 q c2 hq'];exact h.vk p q ha QO hq c1 c2
 ·intro q hq hqi;rw [e1];by_cases c:q=j
  ·subst c;rw [e2];exact aS hl
  rw [e3 q c (by omega)];exact h.up q (by omega) hqi
 intro p ha hp hpj;rw [e1];by_cases c:p=j
 ·subst c;rw [e2];exact h.top (p-1) (by omega) (by omega) (by omega)
 rw [e3 p c hpj];exact h.top p ha hp c
theorem Ins.stop {f0 g:Nat->Int} {a i j:Nat}(h:Ins k f0 g a i j)(hl:j<=a\/¬k (g j)<k (g (j-1))):cH k g a (i+1):=by
 have hle:=h.le;have zh:=h.ge;intro p q ha QO hq;by_cases c1:p=j
 ·subst c1;exact h.up q QO (by omega)
 by_cases c2:q=j
 ·subst c2;have vN:=L.of_le (hl.resolve_left (by omega)) (h.top (q-1) (by omega) (by omega) (by omega));by_cases c3:p=q-1
  ·rw [c3];exact vN
  exact(h.vk p (q-1) ha (by omega) (by omega) c1 (by omega)).trans vN
 exact h.vk p q ha QO (by omega) c1 c2
def s6(f:Nat->Int)(a b n:Nat):Nat->Int:=λp=>if a<=p/\p<a+n then f (p-a+b) else if b<=p/\p<b+n then f (p-b+a) else f p
theorem aKb(f:Nat->Int)(a b:Nat):s6 f a b 0=f:=by funext p;unfold s6;rw [ifN (by omega),ifN (by omega)]
theorem aKa(f:Nat->Int) {a b n:Nat}(h:a+n<b):nA (s6 f a b n) (a+n) (b+n)=s6 f a b (n+1):=by funext p;grind [nA,s6]
def dF(f:Nat->Int)(a m b:Nat):Nat->Int:=λp=>if a<=p/\p<a+(b-m) then f (p+(m-a)) else if a+(b-m)<=p/\p<b then f (p-(b-m)) else f p
theorem aJa(g:Nat->Int) {m i j:Nat}(hj:0<j)(rR:j<i)(DN:i<=m):dF (s6 g (m-i) m j) (m-(i-j)) m (m+j)=dF g (m-i) m (m+j):=by funext p;grind [dF,s6]
theorem aJZ(g:Nat->Int) {m i j:Nat}(hi:0<i)(rR:i<j)(DN:i<=m):dF (s6 g (m-i) (m+j-i) i) (m-i) m (m+(j-i))=dF g (m-i) m (m+j):=by
 funext p;unfold dF;by_cases c1:m-i<=p/\p<m-i+(j-i)
 ·grind [s6]
 by_cases c2:p<m+(j-i)/\m-i+(j-i)<=p
 ·grind [s6]
 by_cases c3:m+j-i<=p/\p<m+j
 ·grind [s6]
 rw [ifN (by omega),ifN (by omega),ifN (by omega),ifN (by omega)];grind [s6]
theorem aJb(g:Nat->Int) {m i:Nat}(DN:i<=m):s6 g (m-i) m i=dF g (m-i) m (m+i):=by funext p;grind [dF,s6]
theorem RU(f:Nat->Int) {a m b:Nat}(ha:a<=m)(hb:m<=b):cX f (dF f a m b) a b:=by
 refine⟨λi h1 h2=> ?_,λi h1 h2=> ?_,λi hi=> ?_⟩
 ·unfold dF;by_cases c:i<a+(b-m)
  ·exact⟨i+(m-a),by omega,by omega,by omega⟩
  exact⟨i-(b-m),by omega,by omega,by omega⟩
 ·by_cases c:i<m
  ·refine⟨i+(b-m),by omega,by omega, ?_⟩;grind [dF]
  refine⟨i-(m-a),by omega,by omega, ?_⟩;grind [dF]
 grind [dF]
theorem vh(f:Nat->Int) {a m b:Nat}(h:a=m\/m=b):dF f a m b=f:=by funext p;grind [dF]
structure Cut(k:Int->Int)(f:Nat->Int)(a m b mid s:Nat):Prop where
 ge:a<=s
 le:s<=m
 Wv:s<=mid
 eb:mid+m-s<=b
 hi:m<=mid+m-s
 lo:a<s->mid+m-s<b->L k (f (s-1)) (f (mid+m-s))
 up:s<m->m<mid+m-s->L k (f (mid+m-s-1)) (f s)
theorem Cut.law {f g h e:Nat->Int} {a m b mid s:Nat}(c:Cut k f a m b mid s)(Jm:cH k f a m)(hf2:cH k f m b)
 (hg:g=dF f s m (mid+m-s)) (hh:cX g h a mid) (sh:cH k h a mid) (he:cX h e mid b) (se:cH k e mid b) (hm:a<=mid) (QF:mid<=b):cH k e a b/\cX f e a b:=by
 have c1:=c.ge;have c2:=c.le;have c3:=c.Wv;have c4:=c.eb;have c5:=c.hi;have mg:=hg▸RU f c2 c5;refine⟨?_,(((mg.mono c1 c4).trans (hh.mono (aZ _) QF)).trans (he.mono hm (aZ _)))⟩;have key:∀i j,a<=i->i<mid->mid<=j->j<b->L k (g i) (g j):=by
  intro i j h1 h2 h3 h4;have gi:g i=if i<s then f i else f (i+(m-s)):=by rw [hg];unfold dF;omega
  have gj:g j=if j<mid+m-s then f (j-(mid-s)) else f j:=by rw [hg];unfold dF;grind
  rw [gi,gj];by_cases q1:i<s
  ·rw [ifP q1];by_cases q2:j<mid+m-s
   ·rw [ifP q2];exact Jm _ _ h1 (by omega) (by omega)
   rw [ifN q2];have h5:=c.lo (by omega) (by omega);have h6:L k (f i) (f (mid+m-s)):=by
    by_cases q3:i=s-1
    ·rw [q3];exact h5
    exact(Jm i (s-1) h1 (by omega) (by omega)).trans h5
   by_cases q4:j=mid+m-s
   ·rw [q4];exact h6
   exact h6.trans (hf2 _ j (by omega) (by omega) h4)
  rw [ifN q1];by_cases q2:j<mid+m-s
  ·rw [ifP q2];have h5:=c.up (by omega) (by omega);have h6:L k (f (i+(m-s))) (f s):=by
    by_cases q3:i+(m-s)=mid+m-s-1
    ·rw [q3];exact h5
    exact(hf2 _ _ (by omega) (by omega) (by omega)).trans h5
   by_cases q4:j-(mid-s)=s
   ·rw [q4];exact h6
   exact h6.trans (Jm _ _ (by omega) (by omega) (by omega))
  rw [ifN q2];exact hf2 _ _ (by omega) (by omega) (by omega)
 have Uy:∀i,i<mid->e i=h i:=λi hi=>he.o i (aS hi)
 intro i j h1 h2 h3;by_cases q1:j<mid
 ·rw [Uy i (by omega),Uy j q1];exact sh i j h1 h2 q1
 by_cases q2:mid<=i
 ·exact se i j q2 h2 h3
 rw [Uy i (by omega)];obtain⟨x,x1,x2,ex⟩:=hh.to i h1 (by omega);obtain⟨y,y1,y2,ey⟩:=he.to j (by omega) h3;rw [ex,ey,hh.o y (aT y1)];grind
theorem Cut.halves {f:Nat->Int} {a m b mid s:Nat}(c:Cut k f a m b mid s)(Jm:cH k f a m)(hf2:cH k f m b)(hx:sB f a m b):
 cH k (dF f s m (mid+m-s)) a s/\cH k (dF f s m (mid+m-s)) s mid/\sB (dF f s m (mid+m-s)) a s mid/\
 cH k (dF f s m (mid+m-s)) mid (mid+m-s)/\cH k (dF f s m (mid+m-s)) (mid+m-s) b/\sB (dF f s m (mid+m-s)) mid (mid+m-s) b:=by
 have c1:=c.ge;have c2:=c.le;have c3:=c.Wv;have c4:=c.eb;have c5:=c.hi;have r1:∀i,i<s->dF f s m (mid+m-s) i=f i:=λi hi=>by grind [dF]
 have r2:∀i,s<=i->i<mid->dF f s m (mid+m-s) i=f (i+(m-s)):=λi h1 h2=>by grind [dF]
 have r3:∀i,mid<=i->i<mid+m-s->dF f s m (mid+m-s) i=f (i-(mid-s)):=λi h1 h2=>by unfold dF;rw [ifN (by omega),ifP (by omega)];congr 1;omega
 have r4:∀i,mid+m-s<=i->dF f s m (mid+m-s) i=f i:=λi hi=>by unfold dF;rw [ifN (by omega),ifN (by omega)]
 refine⟨λi j h1 h2 h3=> ?_,λi j h1 h2 h3=> ?_,λi j h1 h2 h3 h4=> ?_,λi j h1 h2 h3=> ?_,λi j h1 h2 h3=> ?_,λi j h1 h2 h3 h4=> ?_⟩
 ·rw [r1 i (by omega),r1 j h3];exact Jm i j h1 h2 (by omega)
 ·rw [r2 i h1 (by omega),r2 j (by omega) h3];exact hf2 _ _ (by omega) (by omega) (by omega)
 ·rw [r1 i h2,r2 j h3 h4];exact hx _ _ h1 (by omega) (by omega) (by omega)
 ·rw [r3 i h1 (by omega),r3 j (by omega) h3];exact Jm _ _ (by omega) (by omega) (by omega)
 ·rw [r4 i h1,r4 j (by omega)];exact hf2 _ _ (by omega) h2 h3
 rw [r3 i h1 h2,r4 j h3];exact hx _ _ (by omega) (by omega) (by omega) h4
structure uy(k:Int->Int)(f:Nat->Int)(n s0 r0 s r:Nat):Prop where
 le:s<=r
 ge:s0<=s
 hi:r<=r0
 lo:s0<s->L k (f (s-1)) (f (n-s))
 up:r<r0->L k (f (n-1-r)) (f r)
theorem uy.start(f:Nat->Int)(n:Nat) {s0 r0:Nat}(h:s0<=r0):uy k f n s0 r0 s0 r0:=⟨h,aZ _,aZ _,λh=>absurd h (Nat.lt_irrefl _),λh=>absurd h (Nat.lt_irrefl _)⟩
theorem uy.right {f:Nat->Int} {n s0 r0 s r c:Nat}(h:uy k f n s0 r0 s r)(h1:s<=c)(h2:c<r)(hc:L k (f c) (f (n-1-c))):uy k f n s0 r0 (c+1) r:=
 ⟨h2,by have:=h.ge;omega,h.hi,λ_=>by grind,h.up⟩
theorem uy.left {f:Nat->Int} {n s0 r0 s r c:Nat}(h:uy k f n s0 r0 s r)(h1:s<=c)(h2:c<r)(hc:L k (f (n-1-c)) (f c)):uy k f n s0 r0 s c:=
 ⟨h1,h.ge,by have:=h.hi;omega,h.lo,λ_=>hc⟩
theorem uy.aE3 {f:Nat->Int} {a m b mid s r:Nat}(h:uy k f (mid+m) (mid+m-b) mid s r)(hs:¬s<r)(hm:mid<m)(hab:a<=mid+m-b)(hb:b<=mid+m):Cut k f a m b mid s:=by
 have h1:=h.le;have h2:=h.ge;have h3:=h.hi;have e:s=r:=by omega
 subst e;refine⟨by omega,by omega,by omega,by omega,by omega,λ_ h5=>h.lo (by omega),λ_ h5=> ?_⟩;have:=h.up (by omega);grind
theorem uy.aE4 {f:Nat->Int} {a m b mid s r:Nat}(h:uy k f (mid+m) a m s r)(hs:¬s<r)(hm:m<=mid)(hb:mid+m-a<=b):Cut k f a m b mid s:=by
 have h1:=h.le;have h2:=h.ge;have h3:=h.hi;have e:s=r:=by omega
 subst e;refine⟨by omega,by omega,by omega,by omega,by omega,λh4 _=>h.lo (by omega),λh4 h5=> ?_⟩;have:=h.up (by omega);grind
theorem aI7 {f:Nat->Int} {a b i:Nat}(hs:cH k f (a+1) b)(hi:a+1<=i)(hib:i<=b)(h1:∀p,a+1<=p->p<i->L k (f p) (f a))(h2:∀p,i<=p->p<b->L k (f a) (f p)):
 cH k (dF f a (a+1) i) a b/\cX f (dF f a (a+1) i) a b:=by
 refine⟨λp q h3 h4 h5=> ?_,(RU f (by omega) hi).mono (aZ _) hib⟩;have r:∀p,a<=p->p<b->dF f a (a+1) i p=if p<i-1 then f (p+1) else if p=i-1 then f a else f p:=λp h1 h2=>by grind [dF]
 rw [r p h3 (by omega),r q (by omega) h5];by_cases c1:p<i-1
 ·rw [ifP c1];by_cases c2:q<i-1
  ·rw [ifP c2];exact hs _ _ (by omega) (by omega) (by omega)
  rw [ifN c2];by_cases c3:q=i-1
  ·grind
  rw [ifN c3];exact hs _ _ (by omega) (by omega) (by omega)
 rw [ifN c1];by_cases c2:p=i-1
 ·grind
 rw [ifN c2,ifN (by omega),ifN (by omega)];exact hs _ _ (by omega) h4 h5
theorem aI6 {f:Nat->Int} {a m i:Nat}(hs:cH k f a m)(hi:a<=i)(DN:i<=m)(h1:∀p,a<=p->p<i->L k (f p) (f m))(h2:∀p,i<=p->p<m->L k (f m) (f p)):
 cH k (dF f i m (m+1)) a (m+1)/\cX f (dF f i m (m+1)) a (m+1):=by
 refine⟨λp q h3 h4 h5=> ?_,(RU f DN (by omega)).mono hi (aZ _)⟩;have r:∀p,a<=p->p<m+1->dF f i m (m+1) p=if p<i then f p else if p=i then f m else f (p-1):=λp h1 h2=>by grind [dF]
 rw [r p h3 (by omega),r q (by omega) h5];by_cases c1:p<i
 ·rw [ifP c1];by_cases c2:q<i
  ·rw [ifP c2];exact hs _ _ (by omega) (by omega) (by omega)
  rw [ifN c2];by_cases c3:q=i
  ·grind
  rw [ifN c3];exact hs _ _ (by omega) (by omega) (by omega)
 rw [ifN c1];by_cases c2:p=i
 ·grind
 rw [ifN c2,ifN (by omega),ifN (by omega)];exact hs _ _ (by omega) (by omega) (by omega)
theorem aJc(f:Nat->Int) {a i:Nat}(h:a+1<=i):nA (dF f a (a+1) i) (i-1) i=dF f a (a+1) (i+1):=by funext p;grind [nA,dF]
theorem aJY(f:Nat->Int) {i m:Nat}(h:i<m):nA (dF f (i+1) m (m+1)) (i+1) i=dF f i m (m+1):=by funext p;grind [nA,dF]
end
end Go.Proofs.YtdokipdchlcmeaaGreat.oh
namespace Go.Proofs.YtdokipdchlcmeaaGreat.oh
open Go.Proofs.Tryz
section
variable {k:Int->Int} {n z:Nat} {f g:Nat->Int}
theorem Lm {y i c:Nat}(hy:0<y):i/y=c↔c*y<=i/\i<c*y+y:=by
 constructor
 ·intro h;subst h;refine⟨Nat.div_mul_le_self i y, ?_⟩;have h1:=LR i y;have h2:=JH i hy;grind
 intro⟨h1,h2⟩;have a:c<=i/y:=(Zr hy).2 h1;have b:i/y<c+1:=(Fy hy).2 (by grind);omega
theorem a3T(z i:Nat):i/(2*z)=i/z/2:=by grind [Nat.div_div_eq_div_mul]
structure um(k:Int->Int)(n:Nat)(f:Nat->Int)(a:Nat):Prop where
 at_:a % 20=0
 lo:∀i j,i<j->j<a->i/20=j/20->L k (f i) (f j)
 own:∀i,i<n->∃v:Nat,f i=v/\v/20=i/20/\v<n
 Qm:∀i,a<=i->i<n->f i=i
structure yg(k:Int->Int)(n z:Nat)(f:Nat->Int):Prop where
 vk:∀i j,i<j->j<n->i/z=j/z->L k (f i) (f j)
 own:∀i,i<n->∃v:Nat,f i=v/\v/z=i/z/\v<n
structure rE(k:Int->Int)(n z:Nat)(f:Nat->Int)(a:Nat):Prop where
 at_:∃c,a=c*(2*z)
 lo:∀i j,i<j->j<a->i/(2*z)=j/(2*z)->L k (f i) (f j)
 hi:∀i j,a<=i->i<j->j<n->i/z=j/z->L k (f i) (f j)
 own:∀i,i<n->∃v:Nat,f i=v/\v/(2*z)=i/(2*z)/\v<n
 XH:∀i,a<=i->i<n->∃v:Nat,f i=v/\v/z=i/z/\v<n
theorem um.start(h:∀p,p<n->f p=p):um k n f 0:=⟨rfl,λ_ _ _ h=>by omega,λi hi=>⟨i,h i hi,rfl,hi⟩,λi _ hi=>h i hi⟩
theorem um.rising {a b:Nat}(h:um k n f a)(hb:b<=n):∀p q,a<=p->p<q->q<b->f p<f q:=λp q h1 h2 h3=>by rw [h.Qm p h1 (by omega),h.Qm q (by omega) (by omega)];omega
theorem um.NI {a b:Nat}(h:um k n f a)(hb:b<=n)(hb':b<=a+20)(mv:cX f g a b):∀i,i<n->∃v:Nat,g i=v/\v/20=i/20/\v<n:=λi hi=>by
 have ha:=h.at_;by_cases c:a<=i/\i<b
 ·obtain⟨j,h1,h2,e⟩:=mv.to i c.1 c.2;exact⟨j,by rw [e,h.Qm j h1 (by omega)],by omega,by omega⟩
 rw [mv.o i (by omega)];exact h.own i hi
theorem um.next {a:Nat}(h:um k n f a)(hb:a+20<=n)(mv:cX f g a (a+20))(hs:cH k g a (a+20)):um k n g (a+20):=by
 have ha:=h.at_;refine⟨by omega,λi j h1 h2 h3=> ?_,h.NI hb (aZ _) mv,λi h1 h2=>by rw [mv.o i (by omega),h.Qm i (by omega) h2]⟩;by_cases c:j<a
 ·rw [mv.o i (by omega),mv.o j (by omega)];exact h.lo i j h1 c h3
 exact hs i j (by omega) h1 h2
theorem um.last {a:Nat}(h:um k n f a)(hb:n<a+20)(mv:cX f g a n)(hs:cH k g a n):yg k n 20 g:=by
 have ha:=h.at_;refine⟨λi j h1 h2 h3=> ?_,h.NI (aZ _) (by omega) mv⟩;by_cases c:j<a
 ·rw [mv.o i (by omega),mv.o j (by omega)];exact h.lo i j h1 c h3
 exact hs i j (by omega) h1 h2
theorem yg.start(h:yg k n z f):rE k n z f 0:=
 ⟨⟨0,by omega⟩,λ_ _ _ h=>by omega,λi j _ h1 h2 h3=>h.vk i j h1 h2 h3,λi hi=>by obtain⟨v,e,h1,h2⟩:=h.own i hi;exact⟨v,e,by rw [a3T,a3T,h1],h2⟩,λi _ hi=>h.own i hi⟩
theorem yg.done(h:yg k n z f)(hz:n<=z):cH k f 0 n:=λi j _ h1 h2=>h.vk i j h1 h2 (by rw [Nat.div_eq_of_lt (by omega),Nat.div_eq_of_lt (by omega)])
theorem rE.pair {a:Nat}(h:rE k n z f a)(hz:0<z):∃c,∀i,(a<=i->i<a+z->i/z=2*c)/\(a+z<=i->i<a+2*z->i/z=2*c+1)/\(a<=i->i<a+2*z->i/(2*z)=c)/\(i<a->i/(2*z)<c):=by
 obtain⟨c,e⟩:=h.at_;have e2:a=2*c*z:=by grind
 refine⟨c,λi=>⟨λh1 h2=>(Lm hz).2 (by omega),λh1 h2=>(Lm hz).2 ?_,λh1 h2=>(Lm (by omega)).2 (by omega),λh1=>(Fy (by omega)).2 (by omega)⟩⟩;grind
theorem rE.runs {a b:Nat}(h:rE k n z f a)(hz:0<z)(hb:b<=n)(hb':b<=a+2*z)(hm:a+z<=b):cH k f a (a+z)/\cH k f (a+z) b/\sB f a (a+z) b:=by
 obtain⟨c,hc⟩:=h.pair hz;refine⟨λi j h1 h2 h3=>h.hi i j h1 h2 (by omega) ?_,λi j h1 h2 h3=>h.hi i j (by omega) h2 (by omega) ?_,λi j h1 h2 h3 h4=> ?_⟩
 ·grind
 ·rw [(hc i).2.1 h1 (by omega),(hc j).2.1 (by omega) (by omega)]
 obtain⟨v,ev,hv,_⟩:=h.XH i h1 (by omega);obtain⟨u,eu,hu,_⟩:=h.XH j (by omega) (by omega);rw [(hc i).1 h1 h2] at hv;rw [(hc j).2.1 h3 (by omega)] at hu;rw [ev,eu];have h5:=(Lm hz).1 hv;have h6:=(Lm hz).1 hu;grind
theorem rE.NI {a b:Nat}(h:rE k n z f a)(hz:0<z)(hb:b<=n)(hb':b<=a+2*z)(mv:cX f g a b):∀i,i<n->∃v:Nat,g i=v/\v/(2*z)=i/(2*z)/\v<n:=λi hi=>by
 obtain⟨c,hc⟩:=h.pair hz;by_cases q:a<=i/\i<b
 ·obtain⟨j,h1,h2,e⟩:=mv.to i q.1 q.2;obtain⟨v,ev,hv,hn⟩:=h.own j (by omega);grind
 rw [mv.o i (by omega)];exact h.own i hi
theorem rE.next {a:Nat}(h:rE k n z f a)(hz:0<z)(hb:a+2*z<=n)(mv:cX f g a (a+2*z))(hs:cH k g a (a+2*z)):rE k n z g (a+2*z):=by
 obtain⟨c,hc⟩:=h.pair hz;refine⟨?_,λi j h1 h2 h3=> ?_,λi j h1 h2 h3 h4=> ?_,h.NI hz hb (aZ _) mv,λi h1 h2=> ?_⟩
 ·obtain⟨c,e⟩:=h.at_;exact⟨c+1,by grind⟩
 ·by_cases q:j<a
  ·rw [mv.o i (by omega),mv.o j (by omega)];exact h.lo i j h1 q h3
  by_cases q2:i<a
  ·grind
  exact hs i j (by omega) h1 h2
 ·rw [mv.o i (by omega),mv.o j (by omega)];exact h.hi i j (by omega) h2 h3 h4
 rw [mv.o i (by omega)];exact h.XH i (by omega) h2
theorem rE.last {a:Nat}(h:rE k n z f a)(hz:0<z)(hb:n<a+2*z)(mv:cX f g a n)(hs:cH k g a n):yg k n (2*z) g:=by
 obtain⟨c,hc⟩:=h.pair hz;refine⟨λi j h1 h2 h3=> ?_,h.NI hz (aZ _) (by omega) mv⟩;by_cases q:j<a
 ·rw [mv.o i (by omega),mv.o j (by omega)];exact h.lo i j h1 q h3
 by_cases q2:i<a
 ·grind
 exact hs i j (by omega) h1 h2
theorem rE.none {a:Nat}(h:rE k n z f a)(hz:0<z)(hb:n<=a+z):yg k n (2*z) f:=by obtain⟨c,hc⟩:=h.pair hz;exact h.last hz (by omega) (cX.refl _ _ _) λi j h1 h2 h3=>h.hi i j h1 h2 h3 (by rw [(hc i).1 h1 (by omega),(hc j).1 (by omega) (by omega)])
end
end Go.Proofs.YtdokipdchlcmeaaGreat.oh
namespace Go.Proofs.YtdokipdchlcmeaaGreat.ShareLaw
open Go.Proofs.Tryz
open Go.Proofs.YtdokipdchlcmeaaGreat.oh
def cnt(p:Nat->Bool):Nat->Nat
 |0=>0
 |n+1=>cnt p n+if p n then 1 else 0
theorem PQ {p q:Nat->Bool}:∀ {n:Nat},(∀j,j<n->p j=aO->q j=aO)->cnt p n<=cnt q n
 |0,_=>aZ _
 |n+1,h=>by
  have ih:=PQ (p:=p) (q:=q) (n:=n) λj hj=>h j (by omega)
  grind [cnt]
theorem Uj {p q:Nat->Bool} {j0:Nat}:∀ {n:Nat},(∀j,j<n->p j=aO->q j=aO)->j0<n->p j0=aP->q j0=aO->cnt p n<cnt q n
 |0,_,h0,_,_=>by omega
 |n+1,h,h0,hp,hq=>by
  by_cases e:j0=n
  ·subst e;have ih:=PQ (p:=p) (q:=q) (n:=j0) λj hj=>h j (by omega)
   grind [cnt]
  have ih:=Uj (p:=p) (q:=q) (n:=n) (λj hj=>h j (by omega)) (by omega) hp hq;grind [cnt]
theorem Ui:∀n,cnt (λ_=>aO) n=n
 |0=>rfl
 |n+1=>by unfold cnt;rw [Ui n];simp
def ah(r:Nat->Int)(j i:Nat):Bool:=decide (r i<r j)||(decide (r i=r j)&&decide (j<i))
theorem P8 {r:Nat->Int} {j i:Nat}:ah r j i=aO↔r i<r j\/(r i=r j/\j<i):=by unfold ah;simp
theorem aBz {r:Nat->Int} {a b c:Nat}(h:ah r a b=aO)(g:ah r b c=aO):ah r a c=aO:=by grind [P8]
theorem a1G(r:Nat->Int)(a:Nat):ah r a a=aP:=by unfold ah;simp
theorem aBy(r:Nat->Int) {a b:Nat}(h:a≠b):ah r a b=aO\/ah r b a=aO:=by grind [P8]
def rk(r:Nat->Int)(n i:Nat):Nat:=cnt (λj=>ah r j i) n
section
variable {r:Nat->Int} {n:Nat}
theorem Xa {i j:Nat}(hj:j<n)(h:ah r j i=aO):rk r n j<rk r n i:=
 Uj (j0:=j) (λ_ _ h1=>aBz h1 h) hj (a1G r j) h
theorem a6O {i:Nat}(hi:i<n):rk r n i<n:=by have h:=Uj (p:=λj=>ah r j i) (q:=λ_=>aO) (j0:=i) (n:=n) (λ_ _ _=>rfl) hi (a1G r i) rfl;rw [Ui] at h;exact h
theorem XZ {i j:Nat}(hi:i<n)(hj:j<n)(h:rk r n i=rk r n j):i=j:=by
 by_cases e:i=j
 ·exact e
 rcases aBy r e with g|g
 ·have:=Xa hi g;omega
 have:=Xa hj g;omega
end
theorem UK:∀(n:Nat) (f:Nat->Nat),(∀i,i<n->f i<n)->(∀i j,i<n->j<n->f i=f j->i=j)->∀t,t<n->∃i,i<n/\f i=t
 |0,_,_,_,t,ht=>by omega
 |n+1,f,hf,hi,t,ht=>by
  by_cases hn:∃i0,i0<n/\f i0=n
  ·obtain⟨i0,h0,e0⟩:=hn;have hfn:f n<n:=by
    grind
   by_cases c:t=n
   ·grind
   have ih:=UK n (λi=>if i=i0 then f n else f i) (λi h=>by
    split
    ·exact hfn
    ·grind) (λi j h1 h2 e=>by
    split at e<;>split at e
    ·omega
    ·grind
    ·grind
    grind) t (by omega)
   obtain⟨i,h1,h2⟩:=ih;split at h2
   ·grind
   grind
  have hlt:∀i,i<n->f i<n:=λi h=>by grind
  have ih:=UK n f hlt (λi j h1 h2=>hi i j (by omega) (by omega));by_cases c:t<n
  ·obtain⟨i,h1,h2⟩:=ih t c;grind
  by_cases c2:f n=n
  ·grind
  obtain⟨i,h1,h2⟩:=ih (f n) (by grind);grind
theorem aJP {r:Nat->Int} {n t:Nat}(ht:t<n):∃i,i<n/\rk r n i=t:=
 UK n (rk r n) (λ_ h=>a6O h) (λ_ _ h1 h2 h=>XZ h1 h2 h) t ht
theorem aFV {n:Nat} {f:Nat->Nat}(hf:∀i,i<n->f i<n)(hg:∀i j,i<j->j<n->f i<f j):∀k,k<n->f k=k:=by
 have lo:∀k,k<n->k<=f k:=by
  intro k;induction k with
  |zero=>intro _;omega
  |succ k ih=>intro h;have h1:=ih (by omega);have h2:=hg k (k+1) (by omega) h;omega
 have hi:∀m k,k+m+1=n->f k<=k:=by
  intro m;induction m with
  |zero=>grind
  |succ m ih=>intro k h;have h1:=ih (k+1) (by omega);have h2:=hg k (k+1) (by omega) (by omega);omega
 intro k hk;have h1:=lo k hk;have h2:=hi (n-1-k) k (by omega);omega
def dX(f:Nat->Int):Nat->Int
 |0=>0
 |n+1=>dX f n+f n
theorem a7L {f g:Nat->Int}:∀ {n:Nat},(∀i,i<n->f i=g i)->dX f n=dX g n
 |0,_=>rfl
 |n+1,h=>by unfold dX;rw [a7L λi hi=>h i (by omega),h n (by omega)]
theorem Rj(f g:Nat->Int):∀n,dX (λi=>f i+g i) n=dX f n+dX g n
 |0=>rfl
 |n+1=>by unfold dX;rw [Rj f g n];omega
theorem Xu(c:Int)(f:Nat->Int):∀n,dX (λi=>c*f i) n=c*dX f n
 |0=>by unfold dX;omega
 |n+1=>by unfold dX;rw [Xu c f n,Int.mul_add]
theorem a7M {f g:Nat->Int}:∀ {n:Nat},(∀i,i<n->f i<=g i)->dX f n<=dX g n
 |0,_=>dH _
 |n+1,h=>by have:=a7M (f:=f) (g:=g) (n:=n) λi hi=>h i (by omega);have:=h n (by omega);unfold dX;omega
theorem Xv:∀n,dX (λ_=>0) n=0
 |0=>rfl
 |n+1=>by unfold dX;rw [Xv n];rfl
theorem Rk {f:Nat->Int} {n:Nat}(h:∀i,i<n->0<=f i):0<=dX f n:=by have:=a7M (f:=λ_=>0) (g:=f) (n:=n) h;grind [Xv]
theorem a7N {i0:Nat}:∀ {n:Nat},dX (λi=>if i=i0 then 1 else 0) n=if i0<n then 1 else 0
 |0=>by simp [dX]
 |n+1=>by unfold dX;rw [a7N (n:=n)];omega
theorem a7R(r:Nat->Int)(n:Nat):∀t,t<=n->dX (λi=>if rk r n i<t then 1 else 0) n=t
 |0,_=>by grind [Xv]
 |t+1,ht=>by
  obtain⟨i0,h0,e0⟩:=aJP (r:=r) (n:=n) (t:=t) (by omega);have h:∀i,i<n->(if rk r n i<t+1 then (1:Int) else 0)=(if rk r n i<t then 1 else 0)+(if i=i0 then 1 else 0):=by grind [XZ]
  rw [a7L h,Rj,a7R r n t (by omega),a7N,ifP h0];omega
section
variable (T S:Int) (W:Nat->Int) (n:Nat)
def quo(i:Nat):Int:=T*W i/S
def ky(i:Nat):Int:=T*W i % S
def left:Int:=T-dX (quo T S W) n
def partT(t:Nat)(i:Nat):Int:=quo T S W i+if rk (ky T S W) n i<t then 1 else 0
def part(i:Nat):Int:=partT T S W n (left T S W n).toNat i
end
section
variable {T S:Int} {W:Nat->Int} {n:Nat}
theorem XU(i:Nat):S*quo T S W i+ky T S W i=T*W i:=Int.mul_ediv_add_emod _ _
theorem Xc(hS:0<S)(i:Nat):0<=ky T S W i/\ky T S W i<S:=⟨Int.emod_nonneg _ (by omega),Int.emod_lt_of_pos _ hS⟩
theorem XT(hS:0<S)(hT:0<=T) {i:Nat}(hW:0<=W i):0<=quo T S W i:=Int.ediv_nonneg (Int.mul_nonneg hT hW) (by omega)
theorem a6E(hS:0<S)(hT:0<=T) {i:Nat}(hW:W i<=S):quo T S W i<=T:=by have h:=a9J hW hT;have h2:=Int.ediv_le_ediv hS h;rw [Int.mul_ediv_cancel _ (by omega)] at h2;exact h2
theorem aKZ(jg:dX W n=S):dX (ky T S W) n=S*left T S W n:=by
 have h:dX (λi=>S*quo T S W i+ky T S W i) n=T*S:=by grind [XU,Xu]
 rw [Rj,Xu] at h;unfold left;grind
def Df(r:Nat->Int)(n:Nat):Nat:=cnt (λj=>decide (0<r j)) n
theorem a7S {r:Nat->Int} {S:Int}(hS:0<S):∀ {n:Nat},(∀i,i<n->0<=r i/\r i<S)->dX r n<=(S-1)*(Df r n:Int)
 |0,_=>by grind [dX,Df,cnt]
 |n+1,h=>by
  have ih:=a7S (r:=r) hS (n:=n) λi hi=>h i (by omega)
  have hn:=h n (by omega);unfold Df at*;unfold dX cnt;grind
theorem aK8(r:Nat->Int)(n:Nat):Df r n<=n:=by
 have:=PQ (p:=λj=>decide (0<r j)) (q:=λ_=>aO) (n:=n) λ_ _ _=>rfl
 rw [Ui] at this;exact this
theorem N2(hS:0<S)(jg:dX W n=S):0<=left T S W n/\left T S W n<=(Df (ky T S W) n:Int):=by
 have h1:=aKZ (T:=T) jg;have h2:=a7S (r:=ky T S W) hS (n:=n) λi _=>Xc hS i
 have h3:=Rk (f:=ky T S W) (n:=n) λi _=>(Xc hS i).1
 rw [h1] at h2 h3;refine⟨Int.nonneg_of_mul_nonneg_right h3 hS, ?_⟩;have h4:(S-1)*(Df (ky T S W) n:Int)<=S*(Df (ky T S W) n:Int):=LL (by omega) (by omega);exact a9H (jm h2 h4) hS
theorem a4h(hS:0<S)(jg:dX W n=S):left T S W n<=n:=by have h1:=(N2 (T:=T) hS jg).2;grind [aK8]
theorem aJD(hS:0<S)(hT:0<=T)(hW:∀i,i<n->0<=W i)(jg:dX W n=S):0<=dX (quo T S W) n/\dX (quo T S W) n<=T:=by have h1:=(N2 (T:=T) hS jg).1;unfold left at h1;exact⟨Rk λi hi=>XT hS hT (hW i hi),by omega⟩
theorem aJg(hS:0<S)(jg:dX W n=S) {i:Nat}(h:rk (ky T S W) n i<(left T S W n).toNat):0<ky T S W i:=by
 have h1:=N2 (T:=T) hS jg;have h2:rk (ky T S W) n i<Df (ky T S W) n:=by omega
 by_cases c:0<ky T S W i
 ·exact c
 exfalso;have h3:Df (ky T S W) n<=rk (ky T S W) n i:=PQ λj _ hj=>by grind [P8]
 omega
theorem aKY(hS:0<S)(jg:dX W n=S):dX (part T S W n) n=T:=by have h1:=N2 (T:=T) hS jg;have h2:=a4h (T:=T) hS jg;unfold part partT;rw [Rj,a7R _ _ _ (by omega)];unfold left at*;omega
theorem XI(hS:0<S)(jg:dX W n=S)(i:Nat):part T S W n i=quo T S W i\/(part T S W n i=quo T S W i+1/\0<ky T S W i):=by
 unfold part partT;by_cases c:rk (ky T S W) n i<(left T S W n).toNat
 ·rw [ifP c];exact aT ⟨rfl,aJg hS jg c⟩
 omega
theorem aIg(hS:0<S)(hT:0<=T)(jg:dX W n=S) {i:Nat}(hW:0<=W i):0<=part T S W n i:=by have:=XT hS hT hW;grind [XI]
theorem aIe(hS:0<S)(hT:0<=T)(jg:dX W n=S) {i:Nat}(hW:W i<=S):part T S W n i<=T:=by
 rcases XI (T:=T) hS jg i with h|⟨h,hr⟩
 ·have:=a6E hS hT hW;omega
 have e:=XU (T:=T) (S:=S) (W:=W) i;have h1:=a9J hW hT;have h2:S*quo T S W i<S*T:=by grind
 have h3:=a9I h2 (by omega);omega
theorem aIf(hS:0<S)(hTS:T<=S)(jg:dX W n=S) {i:Nat}(hW:0<=W i):part T S W n i<=W i:=by
 have h1:=LL hTS hW;have e:=XU (T:=T) (S:=S) (W:=W) i;have hb:=Xc (T:=T) (W:=W) hS i;rcases XI (T:=T) hS jg i with h|⟨h,hr⟩
 ·have h2:S*quo T S W i<=S*W i:=by omega
  have:=a9H h2 hS;omega
 have h2:S*quo T S W i<S*W i:=by omega
 have:=a9I h2 (by omega);omega
end
end Go.Proofs.YtdokipdchlcmeaaGreat.ShareLaw
namespace Go.Proofs.YtdokipdchlcmeaaGreat
open Go.Proofs.Tryz Go.RowKit
section
open Go.Lib Go.Sort Go.Shelf Go.Proofs.YtdokipdchlcmeaaGreat.oh
def fn(d:Array Int):Nat->Int:=λp=>d[p]!
theorem M6(d:Array Int) {i j:Nat}(hi:i<d.size)(hj:j<d.size):fn (swp d i j)=nA (fn d) i j:=by
 funext p;unfold fn nA;by_cases c1:p=i
 ·subst c1;rw [ifP rfl];by_cases c2:p=j
  ·subst c2;rw [swp_right d p p hj]
  rw [swp_left d p j hi c2]
 rw [ifN c1];by_cases c2:p=j
 ·subst c2;rw [ifP rfl,swp_right d i p hj]
 rw [ifN c2,swp_other d i j p c1 c2]
theorem a2d:OneCell (aG aF):=λ_=>rfl
theorem Y0(f:aN)(blk off cap a b n:Nat)(d0 d:Array Int)(w0 w:aJ)
 (R:Row1 (aG aF) w0 blk off d0) (hs:d0.size=d.size) (S:SW (aG aF) w0 blk off d w) (h1:a+n<=b) (h2:b+n<=d.size) (hsz:d.size<4611686018427387904):
 aQ aM 291 #[aH (aC ⟨blk,off,aB⟩) d.size cap,ν a,ν b,ν n,f] w λe w'=>e=aU (bB #[])/\∃d':Array Int,d'.size=d.size/\fn d'=s6 (fn d) a b n/\SW (aG aF) w0 blk off d' w':=by
 have S0:Hid (SW (aG aF) w0 blk off d w):=S;clear S;go_enter func291,ntmps291
 go_wp2
 go_loopg [10] n (λkx s wr=>∃(i:Nat) (dk:Array Int),s=ν i/\i<=n/\n-i<=kx/\dk.size=d.size/\Hid (SW (aG aF) w0 blk off dk wr)/\Hid (fn dk=s6 (fn d) a b i))
 case atStart=>exact⟨0,d,rfl,bL _,by omega,rfl,S0,(aKb _ _ _).symm⟩
 case round=>
  clear S0;obtain⟨i,dk,rfl,zj,ld,Jl,S1,HF⟩:=hrel;by_cases hlt:i<n
  ·have nT:(i:Int)<(n:Int):=by omega
   go_wp2_with fail
   obtain⟨iN,fH⟩:∃q,q=a+i:=⟨_,rfl⟩;obtain⟨jN,fD⟩:∃q,q=b+i:=⟨_,rfl⟩;have ea:((a:Int)+(i:Int)).toNat=iN:=by omega
   have pa:(0:Int)<=(a:Int)+(i:Int):=by omega
   have ba:(a:Int)+(i:Int)<(d.size:Int):=by omega
   have ra:aF.wrap ((a:Int)+(i:Int))=(a:Int)+(i:Int):=by grind [fW]
   have ec:((b:Int)+(i:Int)).toNat=jN:=by omega
   have pc:(0:Int)<=(b:Int)+(i:Int):=by omega
   have bc:(b:Int)+(i:Int)<(d.size:Int):=by omega
   have rc:aF.wrap ((b:Int)+(i:Int))=(b:Int)+(i:Int):=by grind [fW]
   obtain⟨x,hx⟩:∃x,x=dk[a+i]! :=⟨_,rfl⟩;obtain⟨y,hy⟩:∃x,x=dk[b+i]! :=⟨_,rfl⟩;have S2:Hid (SW (aG aF) w0 blk off (swp dk (a+i) (b+i)) ((wr.setCell ⟨blk,off+iN,aB⟩ (ν y)).setCell ⟨blk,off+jN,aB⟩ (ν x)).drew):=by rw [fH,fD,hx,hy];exact S1.o.swapped R (a+i) (b+i) (by omega) (by omega)
   have ca:=S1.o.c1 R (by omega) (a+i) (by omega);have cb:=S1.o.c1 R (by omega) (b+i) (by omega);have fa:=S1.o.f1 R (by omega) (a+i) (by omega);have fb:=S1.o.f1 R (by omega) (b+i) (by omega);obtain⟨u,cc⟩:=S1.o.c2 R (by omega) (a+i) (b+i) (by omega) (by omega) (ν y);rw [<-fD,<-fH] at cc;rw [<-hx,<-fH] at ca;rw [<-hy,<-fD] at cb;rw [<-fH] at fa;rw [<-fD] at fb;have cJ:Hid (fn (swp dk (a+i) (b+i))=s6 (fn d) a b (i+1)):=by show _=_;rw [M6 dk (by omega) (by omega),HF.o,aKa _ (by omega)]
   clear S1 hx hy fH fD HF;go_wp2_with fail
   go_big_region
   clear ca cb cc fa fb;generalize ((wr.setCell ⟨blk,off+iN,aB⟩ (ν y)).setCell ⟨blk,off+jN,aB⟩ (ν x)).drew=w2 at S2 ⊢;clear ea ec;go_wp2
   go_roundg (n-(i+1))
   case measure=>omega
   case rel=>exact⟨i+1,swp dk (a+i) (b+i),by simp,by omega,aZ _,by rw [size_swp];exact Jl,S2,cJ⟩
  have e:i=n:=by omega
  subst e;go_wp2
  go_end0
  exact⟨rfl,dk,Jl,HF.o,S1.o⟩
end
section
open Go.Lib Go.Sort Go.Shelf Go.Proofs.YtdokipdchlcmeaaGreat.oh
theorem aJd(f:aN)(blk off cap a m b:Nat)(d0 d:Array Int)(w0 w:aJ)
 (R:Row1 (aG aF) w0 blk off d0) (hs:d0.size=d.size) (S:SW (aG aF) w0 blk off d w) (h1:a<m) (h2:m<b) (h3:b<=d.size) (hsz:d.size<4611686018427387904):
 aQ aM 283 #[aH (aC ⟨blk,off,aB⟩) d.size cap,ν a,ν m,ν b,f] w λe w'=>e=aU (bB #[])/\∃d':Array Int,d'.size=d.size/\fn d'=dF (fn d) a m b/\SW (aG aF) w0 blk off d' w':=by
 have S0:Hid (SW (aG aF) w0 blk off d w):=S;have RR:Hid (Row1 (aG aF) w0 blk off d0):=R;have wi:aF.wrap ((m:Int)-(a:Int))=(m:Int)-(a:Int):=by grind [fW]
 have wj:aF.wrap ((b:Int)-(m:Int))=(b:Int)-(m:Int):=by grind [fW]
 go_enter func283,ntmps283
 go_wp2_with fail
 go_loopg [10,11] (b-a) (λkx s t wr=>∃(i j:Nat) (dk:Array Int),s=ν i/\t=ν j/\0<i/\0<j/\i<=m/\m+j<=d.size/\i+j<=kx/\dk.size=d.size/\Hid (SW (aG aF) w0 blk off dk wr)/\Hid (dF (fn dk) (m-i) m (m+j)=dF (fn d) a m b))
 case atStart=>
  refine⟨m-a,b-m,d,by grind,by grind,by omega,by omega,by omega,by omega,by omega,rfl,S0, ?_⟩;show _=_;grind
 case round=>
  obtain⟨i,j,dk,rfl,rfl,bj,zk,DN,hjd,ld,Jl,S1,HF⟩:=hrel;have wmi:aF.wrap ((m:Int)-(i:Int))=((m-i:Nat):Int):=by grind [fW]
  by_cases rR:i=j
  ·subst rR;have hne:(i:Int)=(i:Int):=rfl;have HC:=η (Y0 f blk off cap (m-i) m i d0 dk w0 wr RR.o (by omega) S1.o (by omega) (by omega) (by omega));rw [Jl] at HC;go_wp2_with fail
   refine HC.o.mono ?_;rintro e w2 ⟨rfl,d2,qX,hf2,hs2⟩;have wD:=η hf2;have sJ:=η hs2;go_wp2_with fail
   go_end0
   refine⟨rfl,d2,qX, ?_,sJ.o⟩;rw [wD.o,aJb _ DN,HF.o]
  have hne:¬((i:Int)=(j:Int)):=by omega
  by_cases hlt:j<i
  ·have nT:(j:Int)<(i:Int):=by omega
   have HC:=η (Y0 f blk off cap (m-i) m j d0 dk w0 wr RR.o (by omega) S1.o (by omega) (by omega) (by omega));rw [Jl] at HC;have cJ:=η (aJa (fn dk) zk hlt DN);have wij:aF.wrap ((i:Int)-(j:Int))=((i-j:Nat):Int):=by grind [fW]
   go_wp2_with fail
   refine HC.o.mono ?_;rintro e w2 ⟨rfl,d2,qX,hf2,hs2⟩;have wD:=η hf2;have sJ:=η hs2;go_wp2_with fail
   go_roundg (i-j+j)
   case measure=>omega
   case rel=>
    refine⟨i-j,j,d2,rfl,rfl,by omega,zk,by omega,hjd,aZ _,qX,sJ.o, ?_⟩;show _=_;rw [wD.o,cJ.o,HF.o]
  have nT:¬(j:Int)<(i:Int):=by omega
  have HC:=η (Y0 f blk off cap (m-i) (m+j-i) i d0 dk w0 wr RR.o (by omega) S1.o (by omega) (by omega) (by omega));rw [Jl] at HC;have cJ:=η (aJZ (fn dk) bj (by omega:i<j) DN);have wij:aF.wrap ((j:Int)-(i:Int))=((j-i:Nat):Int):=by grind [fW]
  have wmj:aF.wrap ((m:Int)+(j:Int))=(m:Int)+(j:Int):=by grind [fW]
  have aMb:aF.wrap ((m:Int)+(j:Int)-(i:Int))=((m+j-i:Nat):Int):=by grind [fW]
  go_wp2_with fail
  refine HC.o.mono ?_;rintro e w2 ⟨rfl,d2,qX,hf2,hs2⟩;have wD:=η hf2;have sJ:=η hs2;go_wp2_with fail
  go_roundg (i+(j-i))
  case measure=>omega
  case rel=>
   refine⟨i,j-i,d2,rfl,rfl,bj,by omega,DN,by omega,aZ _,qX,sJ.o, ?_⟩;show _=_;rw [wD.o,cJ.o,HF.o]
end
section
open Go.Lib Go.Sort Go.Shelf Go.Proofs.YtdokipdchlcmeaaGreat.oh
structure sT(w0:aJ)(blk off n:Nat)(g:Nat)(cb:Array aN)(cf:Int->Int->Int)(k:Int->Int)(ok:Int->Prop)(d0:Array Int):Prop where
 row:Row1 (aG aF) w0 blk off d0
 size:d0.size=n
 lt:n<4611686018427387904
 enters:∀args w,(callFunc g args).run aM w= .ok (.enter g args) w
 cmp:∀(m:Nat) (os:Array Obj) (dk:Array Int),dk.size=n->∀x y,ok x->ok y->aQ aM g (#[ν x,ν y]++cb) (sortWorld (aG aF) w0 blk off m dk os) λe w'=>e=aU (ν (cf x y))/\∃q os',w'=grow ((sortWorld (aG aF) w0 blk off m dk os).drewN q) os'
 neg:∀x y,ok x->ok y->(cf x y<0↔k x<k y)
structure Rw(w0:aJ)(blk off n:Nat)(ok:Int->Prop)(d:Array Int)(w:aJ):Prop where
 size:d.size=n
 sw:SW (aG aF) w0 blk off d w
 ok:∀p,p<n->ok (fn d p)
section
variable {w0:aJ} {blk off n:Nat} {g:Nat} {cb:Array aN} {cf:Int->Int->Int} {k:Int->Int} {ok:Int->Prop} {d0:Array Int} {d:Array Int} {W:aJ}
theorem Rw.c(h:Rw w0 blk off n ok d W)(T:sT w0 blk off n g cb cf k ok d0)(i:Nat)(hi:i<n):W.cell? ⟨blk,off+i,aB⟩=aC (aG aF (fn d i)):=h.sw.c1 T.row (h.size.trans T.size.symm) i (by rw [h.size];exact hi)
theorem Rw.f(h:Rw w0 blk off n ok d W)(T:sT w0 blk off n g cb cf k ok d0)(i:Nat)(hi:i<n):W.frozen? ⟨blk,off+i,aB⟩=aP:=h.sw.f1 T.row (h.size.trans T.size.symm) i (by rw [h.size];exact hi)
theorem Rw.cl(h:Rw w0 blk off n ok d W)(T:sT w0 blk off n g cb cf k ok d0)(i:Nat)(hi:i<n)(m:Nat)(os:Array Obj):(grow (W.drewN m) os).cell? ⟨blk,off+i,aB⟩=aC (aG aF (fn d i)):=h.sw.cl T.row (h.size.trans T.size.symm) i (by rw [h.size];exact hi) m os
theorem Rw.c2(h:Rw w0 blk off n ok d W)(T:sT w0 blk off n g cb cf k ok d0)(i j:Nat)(hi:i<n)(hj:j<n)(v:aN):∃u,(W.setCell ⟨blk,off+i,aB⟩ v).cell? ⟨blk,off+j,aB⟩=aC u:=h.sw.c2 T.row (h.size.trans T.size.symm) i j (by rw [h.size];exact hi) (by rw [h.size];exact hj) v
theorem Rw.swapped(h:Rw w0 blk off n ok d W)(T:sT w0 blk off n g cb cf k ok d0)(i j:Nat)(hi:i<n)(hj:j<n):
 Rw w0 blk off n ok (swp d i j) ((W.setCell ⟨blk,off+i,aB⟩ (ν (fn d j))).setCell ⟨blk,off+j,aB⟩ (ν (fn d i))).drew:=by
 have h1:i<d.size:=by rw [h.size];exact hi
 have h2:j<d.size:=by rw [h.size];exact hj
 refine⟨by rw [size_swp];exact h.size,h.sw.swapped T.row i j h1 h2,λp hp=> ?_⟩;rw [M6 d h1 h2];unfold nA;split
 ·exact h.ok j hj
 split
 ·exact h.ok i hi
 exact h.ok p hp
theorem Rw.grown(h:Rw w0 blk off n ok d W)(m:Nat)(os:Array Obj):Rw w0 blk off n ok d (grow (W.drewN m) os):=⟨h.size,h.sw.grown m os,h.ok⟩
theorem Rw.drew(h:Rw w0 blk off n ok d W):Rw w0 blk off n ok d W.drew:=⟨h.size,h.sw.drew,h.ok⟩
theorem Rw.cmp(h:Rw w0 blk off n ok d W)(T:sT w0 blk off n g cb cf k ok d0)(i j:Nat)(hi:i<n)(hj:j<n)(m:Nat)(os:Array Obj):
 aQ aM g (#[ν (fn d i),ν (fn d j)]++cb) (grow (W.drewN m) os) λe w'=>e=aU (ν (cf (fn d i) (fn d j)))/\∃q os',w'=grow ((grow (W.drewN m) os).drewN q) os':=by
 obtain⟨m',os',hw⟩:=h.sw.grown m os;rw [hw];exact T.cmp m' os' d h.size _ _ (h.ok i hi) (h.ok j hj)
theorem RV(h:Rw w0 blk off n ok d W)(T:sT w0 blk off n g cb cf k ok d0)(v:aN)(cap a m b:Nat)(h1:a<m)(h2:m<b)(h3:b<=n):
 aQ aM 283 #[aH (aC ⟨blk,off,aB⟩) n cap,ν a,ν m,ν b,v] W λe w'=>e=aU (bB #[])/\∃d':Array Int,fn d'=dF (fn d) a m b/\Rw w0 blk off n ok d' w':=by
 have e:=h.size;subst e;refine(aJd v blk off cap a m b d0 d w0 W T.row T.size h.sw h1 h2 h3 T.lt).mono ?_;rintro e w' ⟨rfl,d',hd,hf,hs⟩;refine⟨rfl,d',hf,hd,hs,λp hp=> ?_⟩;rw [hf];have mv:=RU (fn d) (a9f h1) (a9f h2);by_cases c:a<=p/\p<b
 ·obtain⟨j,h4,h5,e⟩:=mv.to p c.1 c.2;rw [e];exact h.ok j (by omega)
 rw [mv.o p (by omega)];exact h.ok p hp
end
theorem a4K {w0:aJ} {blk off n:Nat} {g:Nat} {cb:Array aN} {cf:Int->Int->Int} {k:Int->Int} {ok:Int->Prop} {d0:Array Int}(T0:sT w0 blk off n g cb cf k ok d0)(cap a b:Nat)(d:Array Int)(w:aJ)(h:Rw w0 blk off n ok d w)(hab:a<=b)(hb:b<=n)
 (h0:∀p q,a<=p->p<q->q<b->fn d p<fn d q):
 aQ aM 264 #[aH (aC ⟨blk,off,aB⟩) n cap,ν a,ν b,.func (.func g) #[] cb] w λe w'=>e=aU (bB #[])/\∃d':Array Int,cX (fn d) (fn d') a b/\cH k (fn d') a b/\Rw w0 blk off n ok d' w':=by
 have eg:=T0.enters;have hn:=T0.lt;have mixed:aM.follows .mixedOrders=aO:=by kernel_rfl
 have T:=η T0;have HH:=η h;have H0:=η h0;clear T0 h h0;have wa:aF.wrap ((a:Int)+1)=(a:Int)+1:=by grind [fW]
 go_enter func264,ntmps264
 go_wp2
 go_loopg [8] (b-a) (λg1 vi wr=>∃(i:Nat) (dk:Array Int),vi=ν i/\a<i/\i<=b+1/\b+1-i<=g1+1/\Hid (Rw w0 blk off n ok dk wr)/\Hid (cX (fn d) (fn dk) a i/\cH k (fn dk) a i/\(i<=b\/dk=d)))
 case atStart=>exact⟨a+1,d,by go_num,by omega,by omega,by omega,HH,cX.refl _ _ _,λ_ _ _ _ _=>by omega,aT rfl⟩
 case round=>
  clear HH wa;obtain⟨i,dk,rfl,hai,hib,hg1,S1,HO⟩:=hrel;by_cases hlt:i<b
  ·have nT:(i:Int)<(b:Int):=by omega
   have Kq:Hid (Ins k (fn d) (fn dk) a i i):=Ins.start H0.o HO.o.1 HO.o.2.1 hai hlt;clear HO;go_wp2
   go_loopg [9] i (λg2 vj wr2=>∃(j:Nat) (dj:Array Int),vj=ν j/\a<=j/\j<=i/\j<=g2/\Hid (Rw w0 blk off n ok dj wr2)/\Hid (Ins k (fn d) (fn dj) a i j))
   case atStart=>exact⟨i,dk,rfl,by omega,aZ _,aZ _,S1,Kq⟩
   case round=>
    clear S1 Kq;obtain⟨j,dj,rfl,haj,je,hg2,SJ,HI⟩:=hrel;by_cases hja:a<j
    ·have aG1:(a:Int)<(j:Int):=by omega
     obtain⟨jp,hjp⟩:∃q,q+1=j:=⟨j-1,by omega⟩;have zjp:(j:Int)=(jp:Int)+1:=by omega
     have aMB:decide ((jp:Int)+1>(a:Int))=aO:=decide_eq_true (by omega);have aG2:(a:Int)<(jp:Int)+1:=by omega
     by_cases hlv:k (fn dj j)<k (fn dj (j-1))
     ·have gT:Hid (Ins k (fn d) (nA (fn dj) j (j-1)) a i (j-1)):=HI.o.step hja hlv;rw [<-M6 dj (by rw [SJ.o.size];omega) (by rw [SJ.o.size];omega)] at gT;clear HI;obtain⟨iN,fH⟩:∃z9,z9=j:=⟨_,rfl⟩;obtain⟨jN,fD⟩:∃z9,z9=j-1:=⟨_,rfl⟩;have ea:((jp:Int)+1).toNat=iN:=by omega
      have pa:(0:Int)<=(jp:Int)+1:=by omega
      have ba:(jp:Int)+1<(n:Int):=by omega
      have ra:aF.wrap ((jp:Int)+1)=(jp:Int)+1:=by rw [fW];omega
      have ec:((jp:Int)).toNat=jN:=by omega
      have pc:(0:Int)<=(jp:Int):=by omega
      have bc:(jp:Int)<(n:Int):=by omega
      have rc:aF.wrap ((jp:Int))=(jp:Int):=by rw [fW];omega
      obtain⟨x,hx⟩:∃x,x=fn dj (j):=⟨_,rfl⟩;obtain⟨y,hy⟩:∃x,x=fn dj (j-1):=⟨_,rfl⟩;have la:=SJ.o.cl T.o (j) (by omega);have lb:=SJ.o.cl T.o (j-1) (by omega);rw [<-hx,<-fH] at la;rw [<-hy,<-fD] at lb;have hc:=SJ.o.cmp T.o (j) (j-1) (by omega) (by omega);rw [<-hx,<-hy] at hc;have hv:cf x y<0:=by rw [hx,hy];exact(T.o.neg _ _ (SJ.o.ok _ (by omega)) (SJ.o.ok _ (by omega))).2 hlv
      have hd:decide (cf x y<0)=aO:=decide_eq_true hv;clear hx hy fH fD;go_wp2_with fail
      go_quiet_grown (first|(go_at_fn g;refine FO (hc _ _)))
      have S2:=η (SJ.o.grown nq osq);clear la lb hc SJ;generalize grow (wr.drewN nq) osq=w2 at S2 ⊢;clear nq osq ea ec pa pc ba bc ra rc hv hd;clear hlv;go_wp2_with fail
      obtain⟨iN,fH⟩:∃z9,z9=j:=⟨_,rfl⟩;obtain⟨jN,fD⟩:∃z9,z9=j-1:=⟨_,rfl⟩;have ea:((jp:Int)+1).toNat=iN:=by omega
      have pa:(0:Int)<=(jp:Int)+1:=by omega
      have ba:(jp:Int)+1<(n:Int):=by omega
      have ra:aF.wrap ((jp:Int)+1)=(jp:Int)+1:=by rw [fW];omega
      have ec:((jp:Int)).toNat=jN:=by omega
      have pc:(0:Int)<=(jp:Int):=by omega
      have bc:(jp:Int)<(n:Int):=by omega
      have rc:aF.wrap ((jp:Int))=(jp:Int):=by rw [fW];omega
      obtain⟨x,hx⟩:∃x,x=fn dj (j):=⟨_,rfl⟩;obtain⟨y,hy⟩:∃x,x=fn dj (j-1):=⟨_,rfl⟩;have S3:Hid (Rw w0 blk off n ok (swp dj (j) (j-1)) ((w2.setCell ⟨blk,off+iN,aB⟩ (ν y)).setCell ⟨blk,off+jN,aB⟩ (ν x)).drew):=by rw [fH,fD,hx,hy];exact S2.o.swapped T.o (j) (j-1) (by omega) (by omega)
      have ca:=S2.o.c T.o (j) (by omega);have cb:=S2.o.c T.o (j-1) (by omega);have fa:=S2.o.f T.o (j) (by omega);have fb:=S2.o.f T.o (j-1) (by omega);obtain⟨u,cc⟩:=S2.o.c2 T.o (j) (j-1) (by omega) (by omega) (ν y);rw [<-fD,<-fH] at cc;rw [<-hx,<-fH] at ca;rw [<-hy,<-fD] at cb;rw [<-fH] at fa;rw [<-fD] at fb;clear S2 hx hy fH fD;go_wp2_with fail
      go_big_region
      clear ca cb cc fa fb;generalize ((w2.setCell ⟨blk,off+iN,aB⟩ (ν y)).setCell ⟨blk,off+jN,aB⟩ (ν x)).drew=w3 at S3 ⊢;clear ea ec pa pc ba bc ra rc;go_wp2
      go_roundg (j-1)
      case measure=>omega
      case rel=>exact⟨j-1,swp dj j (j-1),by first|rfl|go_num|(congr 1;omega),by omega,by omega,aZ _,S3,gT⟩
     have gT:Hid (cH k (fn dj) a (i+1)):=HI.o.stop (aT hlv);obtain⟨iN,fH⟩:∃z9,z9=j:=⟨_,rfl⟩;obtain⟨jN,fD⟩:∃z9,z9=j-1:=⟨_,rfl⟩;have ea:((jp:Int)+1).toNat=iN:=by omega
     have pa:(0:Int)<=(jp:Int)+1:=by omega
     have ba:(jp:Int)+1<(n:Int):=by omega
     have ra:aF.wrap ((jp:Int)+1)=(jp:Int)+1:=by rw [fW];omega
     have ec:((jp:Int)).toNat=jN:=by omega
     have pc:(0:Int)<=(jp:Int):=by omega
     have bc:(jp:Int)<(n:Int):=by omega
     have rc:aF.wrap ((jp:Int))=(jp:Int):=by rw [fW];omega
     obtain⟨x,hx⟩:∃x,x=fn dj (j):=⟨_,rfl⟩;obtain⟨y,hy⟩:∃x,x=fn dj (j-1):=⟨_,rfl⟩;have la:=SJ.o.cl T.o (j) (by omega);have lb:=SJ.o.cl T.o (j-1) (by omega);rw [<-hx,<-fH] at la;rw [<-hy,<-fD] at lb;have hc:=SJ.o.cmp T.o (j) (j-1) (by omega) (by omega);rw [<-hx,<-hy] at hc;have hv:¬cf x y<0:=by intro h9;rw [hx,hy] at h9;have h8:=(T.o.neg _ _ (SJ.o.ok _ (by omega)) (SJ.o.ok _ (by omega))).1 h9;have h7:=hlv;omega
     have hd:decide (cf x y<0)=aP:=decide_eq_false hv;clear hx hy fH fD;go_wp2_with fail
     go_quiet_grown (first|(go_at_fn g;refine FO (hc _ _)))
     have S2:=η (SJ.o.grown nq osq);clear la lb hc SJ;generalize grow (wr.drewN nq) osq=w2 at S2 ⊢;clear nq osq ea ec pa pc ba bc ra rc hv hd;clear hlv;go_wp2
     go_roundg (b-(i+1))
     case measure=>omega
     case rel=>exact⟨i+1,dj,by go_num,by omega,by omega,by omega,S2,HI.o.mv,gT.o,aS (by omega)⟩
    have aG1:decide ((j:Int)>(a:Int))=aP:=decide_eq_false (by omega);have aG2:¬(a:Int)<(j:Int):=by omega
    have gT:Hid (cH k (fn dj) a (i+1)):=HI.o.stop (aS (by omega));go_wp2_with fail
    go_big_region
    have S2:Hid (Rw w0 blk off n ok dj wr.drew):=SJ.o.drew;clear SJ;generalize wr.drew=w2 at S2 ⊢;go_wp2
    go_roundg (b-(i+1))
    case measure=>omega
    case rel=>exact⟨i+1,dj,by go_num,by omega,by omega,by omega,S2,HI.o.mv,gT.o,aS (by omega)⟩
  have nT:¬(i:Int)<(b:Int):=by omega
  go_wp2
  go_end0
  refine⟨rfl,dk, ?_,λp q h1 h2 h3=>HO.o.2.1 p q h1 h2 (by omega),S1.o⟩;rcases HO.o.2.2 with e|e
  ·have e:i=b:=by omega
   exact e▸HO.o.1
  grind [cX.refl]
end
end Go.Proofs.YtdokipdchlcmeaaGreat
