/-
  Part 4 of the texts under the law ColumnSorts: the layer of abstract values, walks and plain laws. Conditions: those that each theorem names.
-/
import Derived.WalkKit
import Derived.Lib.Hide
import Derived.Deep.OwnRows
import Derived.Deep.Draws
import Derived.Test.YtaodhkbppgenbaaChecked
import Derived.ProofKit
import Derived.OpenShut
import Derived.ShutString
import Derived.ChangeOld
import Derived.Below
import Derived.SizedLaws
import Derived.Deep.Slices
import Derived.Deep.Fields
import Derived.ChangeSame
import Derived.Test.YtaodhkbppgenbaaProg
import Derived.Sort.AssemblyPlain
import Derived.Test.YtaodhkbppgenbaaColumnSortsP3
namespace Go.Proofs.Ytaodhkbppgenbaa
set_option linter.unusedVariables false
set_option linter.unusedSimpArgs false
set_option linter.defProp false
set_option maxRecDepth 10000
set_option maxHeartbeats 4000000
structure Field where
 name:List UInt8
 bits:Int
 low:Int
structure Ref where
 kind:Int
 field:Int
structure Arg where
 has:Bool
 n:Int
 ref:Ref
structure Op where
 act:Int
 to:Ref
 a:Arg
 b:Arg
def I64(x:Int):Prop:=-9223372036854775808<=x/\x<=9223372036854775807
section
open Go.RowKit
abbrev Reg:=Nat->Prop
def Lt(w:World):Reg:=λb=>b<w.heap.size
section
variable {w w' w'':World}{S T:Reg}
theorem bel{n m:Nat}{a b c:World}(h:Below n a b)(k:Below m b c)(hm:n<=m):Below n a c:=h.trans (k.mono hm)
def Row(w:World)(S:Reg)(sz:Nat)(v:Value)(n:Nat)(xs:List Value):Prop:=
 xs.length=n*sz/\∃A cap,v= .slice A n cap/\n<=cap/\(0<n->∃b off,A=some ⟨b,off,none⟩/\S b/\∀j u,xs[j]?=some u->w.cell? ⟨b,off+j,none⟩=some u)
variable {sz n:Nat}{v:Value}{xs:List Value}
theorem Row.nil(w:World)(S:Reg)(sz:Nat):Row w S sz (.slice none 0 0) 0 []:=⟨by simp,none,0,rfl,Nat.le_refl _,λh=>absurd h (by omega)⟩
end
def Cells{α:Type}(C:List Value->α->Prop)(sz:Nat):List Value->List α->Prop
 |xs,[]=>xs=[]
 |xs,x::l=>∃c ys,xs=c++ys/\c.length=sz/\C c x/\Cells C sz ys l
section
variable {α:Type}{C C':List Value->α->Prop}{sz:Nat}{xs ys:List Value}{l m:List α}
theorem Cells.nil:Cells C sz [] []:=rfl
theorem Cells.length(h:Cells C sz xs l):xs.length=l.length*sz:=by
 induction l generalizing xs with
 |nil=>have:xs=[]:=h;simp[this]
 |cons x l ih=>
  obtain⟨c,ys,rfl,h1,_,h3⟩:=h;simp[ih h3,h1,Nat.add_mul,Nat.add_comm]
end
def Sl{α:Type}(w:World)(S:Reg)(sz:Nat)(C:World->Reg->List Value->α->Prop)(v:Value)(l:List α):Prop:=
 ∃xs,Row w S sz v l.length xs/\Cells (C w S) sz xs l
section
variable {α:Type}{w w':World}{S T:Reg}{sz:Nat}{C:World->Reg->List Value->α->Prop}{v:Value}{l:List α}
theorem Sl.nil(w:World)(S:Reg)(sz:Nat)(C:World->Reg->List Value->α->Prop):Sl w S sz C (.slice none 0 0) []:=⟨[],Row.nil w S sz,.nil⟩
end
def IM(_:World)(_:Reg)(c:List Value)(x:Int):Prop:=c=[.int .i64 x]
abbrev Ho(w:World)(S:Reg)(v:Value)(l:List Int):Prop:=Sl w S 1 IM v l
section
variable {w w':World}{S T:Reg}{v:Value}
variable {A:Option Addr}{n cap i:Nat}
end
section
variable {α:Type}{w w':World}{base:Nat}{e:TypeId}{S T:Reg}{sz:Nat}{C:World->Reg->List Value->α->Prop}{v:Value}{l:List α}
end
section
variable {w w':World}{b:Nat}{e:TypeId}{l:List Int}
end
section
variable {w w':World}{g:Nat}{t:TypeId}{cs:Array Value}
end
end
section
open Go.ChangeShapes Go.WideShapes Go.ChangeAt Go.RowKit Go.Deep
theorem GJ{x:Int}(h:(Lit.int .i64 x).wf=true):I64 x:=by
 have:=h;simp[Lit.wf,IntKind.min,IntKind.max,IntKind.signed,IntKind.bits]at this;unfold I64;omega
theorem Hi{α:Type}{sz:Nat}{cs:α->List Value}{f:Nat->Option Value}(hcs:∀x,(cs x).length=sz):∀(l:List α) (off:Nat),(∀i (hi:i<l.length) j u,(cs l[i])[j]?=some u->f (off+(i*sz+j))=some u)->
  ∀j u,(l.flatMap cs)[j]?=some u->f (off+j)=some u:=by
 intro l
 induction l with
 |nil=>intro off _ j u h;simp at h
 |cons x l ih=>
  intro off h j u hj;rw[List.flatMap_cons]at hj;rcases Nat.lt_or_ge j sz with hlt|hge
  ·rw[List.getElem?_append_left (by rw[hcs];exact hlt)]at hj
   have:=h 0 (by simp) j u hj;simpa using this
  ·rw[List.getElem?_append_right (by rw[hcs];exact hge),hcs]at hj
   have:=ih (off+sz) (λi hi j u hu=>by
    have:=h (i+1) (by simp;omega) j u hu;rwa[Nat.add_mul,Nat.one_mul,show off+(i*sz+sz+j)=off+sz+(i*sz+j) by omega]at this) (j-sz) u hj
   rwa[show off+sz+(j-sz)=off+j by omega]at this
theorem Dh{α:Type}{sz:Nat}{cs:α->List Value}{C:List Value->α->Prop}(hcs:∀x,(cs x).length=sz)(hC:∀x,C (cs x) x)(l:List α):Cells C sz (l.flatMap cs) l:=by
 induction l with
 |nil=>rfl
 |cons x l ih=>exact⟨cs x,l.flatMap cs,by rw[List.flatMap_cons],hcs x,hC x,ih⟩
theorem Eg{α:Type}{w:World}{sz:Nat}{C:World->Reg->List Value->α->Prop}{a:Addr}{n cap:Nat}{l:List α}{cs:α->List Value}(hn:n<=cap)(hl:l.length=n)(hsz:0<sz)(hcs:∀x,(cs x).length=sz)(hC:∀x,C w (Lt w) (cs x) x)
  (hcell:∀i (hi:i<l.length) j u,(cs l[i])[j]?=some u->w.cell? (a.add (i*sz+j))=some u):Sl w (Lt w) sz C (.slice (some a) n cap) l:=by
 subst hl;refine⟨l.flatMap cs,⟨?_,some a,cap,rfl,hn,λh0=>?_⟩,Dh hcs hC l⟩
 ·have:=(Dh (C:=λ_ _=>True) hcs (λ_=>trivial) l).length
  exact this
 ·obtain⟨b,off,spot⟩:=a
  have h1:∃u,(cs l[0])[0]?=some u:=⟨_,List.getElem?_eq_getElem (by rw[hcs];exact hsz)⟩;obtain⟨u,hu⟩:=h1;have h2:=hcell 0 h0 0 u hu;have hspot:spot=none:=by simpa[Addr.add]using World.cell?_spot h2
  subst hspot;refine⟨b,off,rfl,?_,?_⟩
  ·rw[Go.WideShapes.add_plain]at h2
   unfold World.cell? at h2;simp only at h2;show b<w.heap.size
   rcases Nat.lt_or_ge b w.heap.size with h|h
   ·exact h
   ·rw[Array.getElem?_eq_none h]at h2
    cases h2
  ·refine Hi (f:=λk=>w.cell? ⟨b,k,none⟩) hcs l off λi hi j u hu=>?_
   have:=hcell i hi j u hu;rwa[Go.WideShapes.add_plain]at this
section
variable {H:Type}{enc:TypeId×Value->H}{w:World}{a:Option Addr}{len cap:Nat}{d:DataW H}{p:List MemPlace}
end
end
section
open Go.ChangeShapes Go.WideShapes Go.ChangeAt Go.RowKit Go.Deep
section
variable {H:Type}{enc:TypeId×Value->H}{w:World}{a:Option Addr}{len cap:Nat}{d:DataW H}{p:List MemPlace}
theorem H9(h:DataW.Trod enc Try.prog w 0 (λ_=>true) true 22 (.slice a len cap) d p):
  ∃z:List Int,Ho w (Lt w) (.slice a len cap) z/\(∀x∈z,I64 x)/\(z=[]\/∃elems spare,d= .slice elems spare/\z.length<=elems.length+spare.length):=by
 obtain⟨fuel,hf⟩:=h;rcases open_slice Try.underlying22 hf with⟨hcs,_⟩|⟨x,l,c,m,n,D,Pl,hcs,hb,hl,hm,hmm,hx,hi⟩
 ·simp[Value.cells]at hcs
  obtain⟨rfl,rfl,rfl⟩:=hcs;exact⟨[],Sl.nil _ _ _ _,(λx h=>nomatch h),.inl rfl⟩
 ·simp[Value.cells]at hcs
  obtain⟨rfl,rfl,rfl⟩:=hcs;have hlm:len<=m:=by rw[hmm];split<;>omega
  have hex:∀i,∃e:Int,i<len->I64 e/\∀j u,([Value.int .i64 e])[j]?=some u->w.cell? (x.add (i*1+j))=some u:=by
   intro i;by_cases hil:i<len
   ·obtain⟨cs',hc,ht⟩:=hi i (by omega)
    rw[show Try.prog.cellsOf 3=1 from by kernel_rfl]at hc;obtain⟨_,hcl,hat⟩:=World.cells?_some hc;obtain⟨k,rfl,_,hwf⟩:=DataW.trod_int Try.underlying3 ht;refine⟨k,λ_=>⟨GJ hwf,λj u hu=>?_⟩⟩
    have hj:j=0:=by
     have:=(List.getElem?_eq_some_iff.1 hu).1;simp at this;omega
    subst hj;have:=hat 0 (by omega);rw[Go.Deep.add_add]at this;rw[this,hu]
   ·exact⟨0,λh=>absurd h hil⟩
  obtain⟨f,hf'⟩:=Classical.axiomOfChoice hex;refine⟨(List.range len).map f,Eg (cs:=λe=>[Value.int .i64 e]) hl (by simp) (by omega) (λ_=>rfl) (λ_=>rfl) (λi hi' j u hu=>?_),λx hx=>?_,.inr ⟨_,_,(Prod.mk.inj hx).1,by simp⟩⟩
  ·simp only[List.length_map,List.length_range]at hi'
   exact(hf' i hi').2 j u (by simpa using hu)
  ·obtain⟨i,hi2,rfl⟩:=List.mem_map.1 hx
   exact(hf' i (List.mem_range.1 hi2)).1
end
end
instance tAg3:TAg Try.prog 3 false:=⟨by kernel_rfl⟩
instance tSize3:TSize Try.prog 3 1:=⟨by kernel_rfl⟩
instance tZe3:TZe Try.prog 3 [.int .i64 0]:=⟨by kernel_rfl⟩
instance tBy3:TBy Try.prog 3 8:=⟨by kernel_rfl⟩
instance tSg9:TSg Try.prog 9:=⟨by kernel_rfl⟩
instance tAg22:TAg Try.prog 22 false:=⟨by kernel_rfl⟩
instance tSize22:TSize Try.prog 22 1:=⟨by kernel_rfl⟩
instance tEl22:TEl Try.prog 22 3:=⟨by kernel_rfl⟩
instance tRo22:TRo Try.prog 22 3 1 8:=⟨by kernel_rfl⟩
instance tAg29:TAg Try.prog 29 false:=⟨by kernel_rfl⟩
instance tSize29:TSize Try.prog 29 1:=⟨by kernel_rfl⟩
instance tFl73_0:TFl Try.prog 73 0 0 22:=⟨by kernel_rfl⟩
instance tFl73_1:TFl Try.prog 73 1 1 22:=⟨by kernel_rfl⟩
instance tFl73_2:TFl Try.prog 73 2 2 29:=⟨by kernel_rfl⟩
instance tSt73:TSt Try.prog 73 [.slice none 0 0,.slice none 0 0,.map none] [(0,1),(1,1),(2,1)]:=⟨by kernel_rfl⟩
instance tAg152:TAg Try.prog 152 false:=⟨by kernel_rfl⟩
instance tSize152:TSize Try.prog 152 1:=⟨by kernel_rfl⟩
instance tZe152:TZe Try.prog 152 [.int .u64 0]:=⟨by kernel_rfl⟩
abbrev iA(n:Int):AV:=.prim (.int .i64 n)
abbrev bA(b:Bool):AV:=.prim (.bool b)
abbrev sA(l:List UInt8):AV:=.prim (A8 l)
def fieldA(f:Field):AV:=.agg [sA f.name,iA f.bits,iA f.low]
abbrev Ak(o:Bool)(l:List Int):AV:=.lst o 3 1 (l.map iA)
section
open Go.Sort
theorem AJ{α:Type}[Inhabited α](f:α->AV){d:Array α}{i:Nat}(h:i<d.size):(d.toList.map f)[i]?=some (f d[i]!):=by
 rw[List.getElem?_map,List.getElem?_eq_getElem (by simpa using h)];simp[getElem!_pos d i h]
theorem Ao{α:Type}[Inhabited α](f:α->AV){d:Array α}{i j:Nat}(hi:i<d.size)(hj:j<d.size):((d.toList.map f).set i (f d[j]!)).set j (f d[i]!)=(swp d i j).toList.map f:=by
 unfold swp;simp[Array.toList_setIfInBounds,List.map_set]
theorem Ag{α:Type}[Inhabited α](f:α->AV){d:Array α}{i j:Nat}(hj:j<d.size)(x:α):∃y,((d.toList.map f).set i (f x))[j]?=some (f y):=by
 by_cases e:i=j
 ·subst e;exact⟨x,List.getElem?_set_self (by simpa using hj)⟩
 ·exact⟨d[j]!,by rw[List.getElem?_set_ne e];exact AJ f hj⟩
def BD{α:Type}(cf:α->α->Int)(x y:α):Bool:=decide (cf x y<0)
theorem Bm{α:Type}[Inhabited α](lt:α->α->Bool)(d:Array α)(a b s:Nat):(order2 lt d a b s).2.2<=s+1:=by
 unfold order2;split<;>simp
theorem Cy{α:Type}[Inhabited α](lt:α->α->Bool)(d:Array α)(a b s m:Nat)(ha:a<m)(hb:b<m):(order2 lt d a b s).1<m/\(order2 lt d a b s).2.1<m:=by
 unfold order2;split<;>exact⟨by assumption,by assumption⟩
theorem Cz{α:Type}[Inhabited α](lt:α->α->Bool)(d:Array α)(a b c s:Nat):(median lt d a b c s).2<=s+3:=by
 have e1:=Bm lt d a b s;have e2:=Bm lt d (order2 lt d a b s).2.1 c (order2 lt d a b s).2.2;have e3:=Bm lt d (order2 lt d a b s).1 (order2 lt d (order2 lt d a b s).2.1 c (order2 lt d a b s).2.2).1 (order2 lt d (order2 lt d a b s).2.1 c (order2 lt d a b s).2.2).2.2;unfold median;dsimp only;omega
theorem C0{α:Type}[Inhabited α](lt:α->α->Bool)(d:Array α)(a s m:Nat)(h:a+1<m):(medianAdjacent lt d a s).1<m:=by
 rcases medianAdjacent_mem lt d a s with e|e|e<;>omega
def Hw:Hint->Int
 |.unknown=>0
 |.increasing=>1
 |.decreasing=>2
end
theorem Eu(a:Int):PS Try.prog 56 [iA a] (bA false):=by
 refine Spec.of (nt:=6) (res:=[.tmp 2]) Try.func56 rfl (by kernel_rfl) rfl rfl rfl λSf=>?_
 (repeat first|refine WK ?_|refine Ai λX=>?_|refine Ay λY=>?_);refine RT ?_;refine BC ?_;have:decide (a≠a)=false:=decide_eq_false (by simp);rw[this]
section
open Go.Sort
theorem An(a b:Int):PS Try.prog 33 [iA a,iA b] (bA (ltInt a b)):=by
 refine Spec.of (nt:=17) (res:=[.tmp 4]) Try.func33 rfl (by kernel_rfl) rfl rfl rfl λSf=>?_
 (repeat first|(refine AOps.gN ?_;first|(refine AOps.g_callf ?_;first|refine Bi (h:=(Eu a)) (k:=?_)|refine Bi (h:=(Eu b)) (k:=?_)))|refine WK ?_|refine Ai λX=>?_|refine Ay λY=>?_);refine RT ?_;refine BC ?_;rfl
end
section
open Go.Sort
set_option maxHeartbeats 1000000 in
theorem Hg(X n:Nat)(d:Array Int)(a b:Nat)(hn:n=d.size)(hab:a<=b)(hb:b<=d.size)(hz:d.size<=1099511627776):PO Try.prog 84 [.sl X 0 n,iA a,iA b] X (.row 3 1 (d.toList.map iA)) (.tup []) (.row 3 1 ((insertionSort ltInt d a b).toList.map iA)):=by
 obtain⟨r,hr⟩:∃r,insertionSort ltInt d a b=r:=⟨_,rfl⟩;rw[hr];unfold insertionSort at hr;refine Spec.of (nt:=49) (res:=[]) Try.func84 rfl (by kernel_rfl) rfl rfl rfl λSf=>?_
 (repeat first|refine WK ?_|refine Ai λX=>?_|refine Ay λY=>?_);refine BP (λ(i:Nat) (e:Array Int)=>⟨[(0,.sl X 0 n),(1,iA a),(2,iA b),(6,iA i)],(X,.row 3 1 (e.toList.map iA))::Sf⟩) (λi e=>i<=max b (a+1)/\a<i/\e.size=d.size/\insOuter ltInt a b i e=r) (λi _=>b-i) (a+1) d ⟨by omega,by omega,rfl,hr⟩ ?_;rintro i e ⟨hi,hai,he,hfold⟩;rw[insOuter]at hfold;(repeat first|refine WK ?_|refine Ai λX=>?_|refine Ay λY=>?_);refine AWP.cond rfl (λhc=>?_) (λhc=>?_)
 ·have h:i<b:=by have:=of_decide_eq_true hc;omega
  rw[if_pos h]at hfold;(repeat first|refine WK ?_|refine Ai λX=>?_|refine Ay λY=>?_);refine BP (λ(j:Nat) (u:Array Int)=>⟨[(0,.sl X 0 n),(1,iA a),(2,iA b),(6,iA i),(7,iA j)],(X,.row 3 1 (u.toList.map iA))::Sf⟩) (λj u=>j<=i/\u.size=d.size/\insInner ltInt a j u=insInner ltInt a i e) (λj _=>j) i e ⟨Nat.le_refl _,he,rfl⟩ ?_;rintro j u ⟨hj,hu,hin⟩;rcases Bool.eq_false_or_eq_true (decide ((a:Int)<(j:Int)))with g|g
  ·have hja:a<j:=by have:=of_decide_eq_true g;omega
   obtain⟨q,rfl⟩:∃q,j=q+1:=⟨j-1,by omega⟩;have h1:=AJ iA (d:=u) (i:=q+1) (by omega);have h2:=AJ iA (d:=u) (i:=q) (by omega);have hl:=An (u[q+1]!) (u[q]!);rw[insInner]at hin;(repeat refine WF ?_);refine RU ?_;(repeat first|(refine RGo.gN ?_;first|(refine RGo.g_callf ?_;first|refine RGo.c2 (h:=(hl ..)) (k:=?_))|refine RGo.go (h:=AG (q:Int) (by omega) (by omega) rfl rfl) (k:=?_))|(refine AL ?_;first|(refine RGo.g_callf ?_;first|refine RGo.c2 (h:=(hl ..)) (k:=?_))|refine RGo.go (h:=AG (q:Int) (by omega) (by omega) rfl rfl) (k:=?_))|refine RK ?_|refine RGo.nil (by kernel_rfl) ?_);(repeat refine WF ?_);refine AWP.cond rfl (λhd=>?_) (λhd=>?_)
   ·have hd:ltInt u[q+1]! u[q]! =true:=by simpa[g,BD]using hd
    rw[hd,if_pos (by simp;omega)]at hin;obtain⟨y,hy⟩:=Ag iA (d:=u) (i:=q+1) (j:=q) (by omega) u[q]!;(repeat refine WF ?_);refine RU ?_;(repeat first|(refine RGo.gN ?_;first|refine RGo.go (h:=AG (q:Int) (by omega) (by omega) rfl rfl) (k:=?_)|refine RGo.s (W.store rfl rfl (by exact At.f) hy (by exact rfl)) rfl ?_)|(refine AL ?_;first|refine RGo.go (h:=AG (q:Int) (by omega) (by omega) rfl rfl) (k:=?_)|refine RGo.s (W.store rfl rfl (by exact At.f) hy (by exact rfl)) rfl ?_)|refine RK ?_|refine RGo.nil (by kernel_rfl) ?_);(repeat first|(refine AOps.gN ?_;first|refine AOps.p (AG (q:Int) (by omega) (by omega) rfl rfl) rfl ?_)|refine WK ?_|refine Ai λX=>?_|refine Ay λY=>?_);refine Aw q (swp u (q+1) q) ⟨by omega,by rw[size_swp];exact hu,hin⟩ (h0:=by rw[<-Ao iA (by omega) (by omega)];exact⟨by exact Lk.f,by exact Sub.f⟩)
   ·have hd:ltInt u[q+1]! u[q]! =false:=by simpa[g,BD]using hd
    rw[hd,if_neg (by simp)]at hin;(repeat first|refine WK ?_|refine Ai λX=>?_|refine Ay λY=>?_);refine Aw (i+1) u ⟨by omega,by omega,hu,by rw[hin];exact hfold⟩
  ·have hja:j<=a:=by have:=of_decide_eq_false g;omega
   have hin2:insInner ltInt a j u=u:=by
    cases j with
    |zero=>rfl
    |succ q=>rw[insInner,if_neg (by simp;omega)]
   rw[hin2]at hin;(repeat refine WF ?_);refine RU ?_;(repeat first|refine RK ?_|refine RGo.nil (by kernel_rfl) ?_);(repeat refine WF ?_);refine AH rfl (by simp[g]) ?_;(repeat first|refine WK ?_|refine Ai λX=>?_|refine Ay λY=>?_);refine Aw (i+1) u ⟨by omega,by omega,hu,by rw[hin];exact hfold⟩
 ·have h:¬i<b:=by have:=of_decide_eq_false hc;omega
  rw[if_neg h]at hfold;subst hfold;(repeat first|refine WK ?_|refine Ai λX=>?_|refine Ay λY=>?_);refine Bs ?_;exact Aa [(X,.row 3 1 (e.toList.map iA))] ⟨rfl,rfl⟩
end
section
open Go.Sort
set_option maxHeartbeats 1000000 in
theorem Eh(X n:Nat)(d:Array Int)(lo hi first:Nat)(hn:n=d.size)(hb:first+hi<=d.size)(hlo:lo<=1099511627776)(hz:d.size<=1099511627776):PO Try.prog 101 [.sl X 0 n,iA lo,iA hi,iA first] X (.row 3 1 (d.toList.map iA)) (.tup []) (.row 3 1 ((siftDown ltInt hi first lo d).toList.map iA)):=by
 obtain⟨r,hr⟩:∃r,siftDown ltInt hi first lo d=r:=⟨_,rfl⟩
 rw[hr];refine Spec.of (nt:=76) (res:=[]) Try.func101 rfl (by kernel_rfl) rfl rfl rfl λSf=>?_
 (repeat first|refine WK ?_|refine Ai λX=>?_|refine Ay λY=>?_);refine BP (λ(root:Nat) (u:Array Int)=>⟨[(0,.sl X 0 n),(2,iA hi),(3,iA first),(8,iA root)],(X,.row 3 1 (u.toList.map iA))::Sf⟩) (λroot u=>root<=max hi lo/\u.size=d.size/\siftDown ltInt hi first root u=r) (λroot _=>hi-root) lo d ⟨by omega,rfl,hr⟩ ?_;rintro root u ⟨hro,hu,hfold⟩;rw[siftDown]at hfold;(repeat first|(refine AOps.gN ?_;first|refine AOps.p (C8 ((2*root:Nat):Int) (by omega) (by omega) rfl rfl) rfl ?_|refine AOps.p (AR (((2*root+1:Nat):Int)) (by omega) (by omega) rfl rfl) rfl ?_)|refine WK ?_|refine Ai λX=>?_|refine Ay λY=>?_);refine AWP.cond rfl (λhc=>?_) (λhc=>?_)
 ·have h:2*root+1>=hi:=by have:=of_decide_eq_true hc;omega
  rw[dif_pos h]at hfold;subst hfold;(repeat first|refine WK ?_|refine Ai λX=>?_|refine Ay λY=>?_);refine Bs ?_;exact Aa [(X,.row 3 1 (u.toList.map iA))] ⟨rfl,rfl⟩
 have h:¬2*root+1>=hi:=by have:=of_decide_eq_false hc;omega
 rw[dif_neg h]at hfold;refine AWP.skip ?_;refine Ae ?_;refine AWP.seq ?_;refine AY (λc:Nat=>c<hi/\root<c/\(if !ltInt u[first+root]! u[first+c]! then u else siftDown ltInt hi first c (swp u (first+root) (first+c)))=r) (λc=>⟨[(0,.sl X 0 n),(2,iA hi),(3,iA first),(8,iA root),(9,iA c)],(X,.row 3 1 (u.toList.map iA))::Sf⟩) ?_ ?_
 ·rcases Bool.eq_false_or_eq_true (decide (((2*root+1+1:Nat):Int)<(hi:Int)))with g|g
  ·have hg:2*root+1+1<hi:=by have:=of_decide_eq_true g;omega
   have h1:=AJ iA (d:=u) (i:=first+(2*root+1)) (by omega);have h2:=AJ iA (d:=u) (i:=first+(2*root+1)+1) (by omega);have hl:=An (u[first+(2*root+1)]!) (u[first+(2*root+1)+1]!);refine RU ?_;(repeat first|(refine RGo.gN ?_;first|(refine RGo.g_callf ?_;first|refine RGo.c2 (h:=(hl ..)) (k:=?_))|refine RGo.go (h:=AR (((2*root+1+1:Nat):Int)) (by omega) (by omega) rfl rfl) (k:=?_)|refine RGo.go (h:=AR (((first+(2*root+1):Nat):Int)) (by omega) (by omega) rfl rfl) (k:=?_)|refine RGo.go (h:=AR (((first+(2*root+1)+1:Nat):Int)) (by omega) (by omega) rfl rfl) (k:=?_))|(refine AL ?_;first|(refine RGo.g_callf ?_;first|refine RGo.c2 (h:=(hl ..)) (k:=?_))|refine RGo.go (h:=AR (((2*root+1+1:Nat):Int)) (by omega) (by omega) rfl rfl) (k:=?_)|refine RGo.go (h:=AR (((first+(2*root+1):Nat):Int)) (by omega) (by omega) rfl rfl) (k:=?_)|refine RGo.go (h:=AR (((first+(2*root+1)+1:Nat):Int)) (by omega) (by omega) rfl rfl) (k:=?_))|refine RK ?_|refine RGo.nil (by kernel_rfl) ?_);(repeat refine WF ?_);refine AWP.cond rfl (λhd=>?_) (λhd=>?_)
   ·have hd:ltInt u[first+(2*root+1)]! u[first+(2*root+1)+1]! =true:=by simpa[g,BD]using hd
    rw[hd,if_pos (by simp;omega)]at hfold;(repeat first|(refine AOps.gN ?_;first|refine AOps.p (AR (((2*root+2:Nat):Int)) (by omega) (by omega) rfl rfl) rfl ?_)|refine WK ?_|refine Ai λX=>?_|refine Ay λY=>?_);refine jn (2*root+2) ⟨by omega,by omega,?_⟩;split at hfold
    ·rename_i hx;rw[if_pos hx];exact hfold
    ·rename_i hx;rw[if_neg hx];first|exact hfold|(rw[dif_pos (by omega)]at hfold;exact hfold)
   ·have hd:ltInt u[first+(2*root+1)]! u[first+(2*root+1)+1]! =false:=by simpa[g,BD]using hd
    rw[hd,if_neg (by simp)]at hfold;(repeat first|refine WK ?_|refine Ai λX=>?_|refine Ay λY=>?_);exact jn (2*root+1) ⟨by omega,by omega,hfold⟩
  ·have hg:¬2*root+1+1<hi:=by have:=of_decide_eq_false g;omega
   rw[if_neg (by simp[hg])]at hfold;refine RU ?_;(repeat first|(refine RGo.gN ?_;first|refine RGo.go (h:=AR (((2*root+1+1:Nat):Int)) (by omega) (by omega) rfl rfl) (k:=?_))|(refine AL ?_;first|refine RGo.go (h:=AR (((2*root+1+1:Nat):Int)) (by omega) (by omega) rfl rfl) (k:=?_))|refine RK ?_|refine RGo.nil (by kernel_rfl) ?_);(repeat refine WF ?_);refine AH rfl (by simp[g]) ?_;(repeat first|refine WK ?_|refine Ai λX=>?_|refine Ay λY=>?_);exact jn (2*root+1) ⟨by omega,by omega,hfold⟩
 ·rintro c ⟨hch,hrc,hfold⟩
  have h1:=AJ iA (d:=u) (i:=first+root) (by omega);have h2:=AJ iA (d:=u) (i:=first+c) (by omega);have hl:=An (u[first+root]!) (u[first+c]!);(repeat refine WF ?_);refine RU ?_;(repeat first|(refine RGo.gN ?_;first|(refine RGo.g_callf ?_;first|refine RGo.c2 (h:=(hl ..)) (k:=?_))|refine RGo.go (h:=AR (((first+root:Nat):Int)) (by omega) (by omega) rfl rfl) (k:=?_)|refine RGo.go (h:=AR (((first+c:Nat):Int)) (by omega) (by omega) rfl rfl) (k:=?_))|(refine AL ?_;first|(refine RGo.g_callf ?_;first|refine RGo.c2 (h:=(hl ..)) (k:=?_))|refine RGo.go (h:=AR (((first+root:Nat):Int)) (by omega) (by omega) rfl rfl) (k:=?_)|refine RGo.go (h:=AR (((first+c:Nat):Int)) (by omega) (by omega) rfl rfl) (k:=?_))|refine RK ?_|refine RGo.nil (by kernel_rfl) ?_);(repeat refine WF ?_);refine AWP.cond rfl (λhd=>?_) (λhd=>?_)
  ·have hd:(!ltInt u[first+root]! u[first+c]!)=true:=by simpa[BD]using hd
   rw[if_pos hd]at hfold;subst hfold;refine RT ?_;exact Aa [(X,.row 3 1 (u.toList.map iA))] ⟨rfl,rfl⟩
  ·have hd:(!ltInt u[first+root]! u[first+c]!)=false:=by simpa[BD]using hd
   rw[if_neg (by rw[hd];simp)]at hfold;obtain⟨y,hy⟩:=Ag iA (d:=u) (i:=first+root) (j:=first+c) (by omega) u[first+c]!;(repeat refine WF ?_);refine RU ?_;(repeat first|(refine RGo.gN ?_;first|refine RGo.go (h:=AR (((first+root:Nat):Int)) (by omega) (by omega) rfl rfl) (k:=?_)|refine RGo.go (h:=AR (((first+c:Nat):Int)) (by omega) (by omega) rfl rfl) (k:=?_)|refine RGo.s (W.store rfl rfl (by exact At.f) hy (by exact rfl)) rfl ?_)|(refine AL ?_;first|refine RGo.go (h:=AR (((first+root:Nat):Int)) (by omega) (by omega) rfl rfl) (k:=?_)|refine RGo.go (h:=AR (((first+c:Nat):Int)) (by omega) (by omega) rfl rfl) (k:=?_)|refine RGo.s (W.store rfl rfl (by exact At.f) hy (by exact rfl)) rfl ?_)|refine RK ?_|refine RGo.nil (by kernel_rfl) ?_);(repeat first|refine WK ?_|refine Ai λX=>?_|refine Ay λY=>?_);refine Aw c (swp u (first+root) (first+c)) ⟨by omega,by rw[size_swp];exact hu,hfold⟩ (h0:=by rw[<-Ao iA (by omega) (by omega)];exact⟨by exact Lk.f,by exact Sub.f⟩)
set_option maxHeartbeats 1000000 in
theorem A9(lt:Int->Int->Bool)(hi first:Nat):∀(k root:Nat) (d:Array Int),hi-root<=k->(siftDown lt hi first root d).size=d.size
 |0,root,d,h=>by rw[siftDown,dif_pos (by omega)]
 |k+1,root,d,h=>by
  rw[siftDown];split
  ·rfl
  ·split
   ·split
    ·rfl
    ·split
     ·rw[A9 lt hi first k _ _ (by omega),size_swp]
     ·rfl
   ·split
    ·rfl
    ·rw[A9 lt hi first k _ _ (by omega),size_swp]
theorem G8(X n:Nat)(d:Array Int)(a b:Nat)(hn:n=d.size)(hab:a<b)(hb:b<=d.size)(hz:d.size<=1099511627776):PO Try.prog 85 [.sl X 0 n,iA a,iA b] X (.row 3 1 (d.toList.map iA)) (.tup []) (.row 3 1 ((heapSort ltInt d a b).toList.map iA)):=by
 obtain⟨r,hr⟩:∃r,heapSort ltInt d a b=r:=⟨_,rfl⟩;rw[hr];unfold heapSort at hr;obtain⟨m,hm⟩:∃m,b-a=m:=⟨_,rfl⟩;rw[hm]at hr;refine Spec.of (nt:=56) (res:=[]) Try.func85 rfl (by kernel_rfl) rfl rfl rfl λSf=>?_
 (repeat first|(refine AOps.gN ?_;first|refine AOps.p (AG ((m:Int)) (by omega) (by omega) rfl rfl) rfl ?_|refine AOps.p (AG (((m-1:Nat):Int)) (by omega) (by omega) rfl rfl) rfl ?_|refine AOps.p (Dm (m-1) 2 ((m-1)/2) rfl rfl (by omega) rfl (by omega) rfl rfl) rfl ?_)|refine WK ?_|refine Ai λX=>?_|refine Ay λY=>?_);refine BP (λ(k:Nat) (u:Array Int)=>⟨[(0,.sl X 0 n),(6,iA a),(7,iA 0),(8,iA m),(9,iA ((k:Int)-1))],(X,.row 3 1 (u.toList.map iA))::Sf⟩) (λk u=>k<=m/\u.size=d.size/\heapPop ltInt a m (heapBuild ltInt m a k u)=r) (λk _=>k) ((m-1)/2+1) d ⟨by omega,rfl,hr⟩ ?_ (h0:=by rw[show((((m-1)/2+1:Nat):Int)-1)=(((m-1)/2:Nat):Int) by omega];exact⟨by exact Lk.f,by exact Sub.f⟩);rintro k u ⟨hk,hu,hfold⟩;(repeat first|refine WK ?_|refine Ai λX=>?_|refine Ay λY=>?_);refine AWP.cond rfl (λhc=>?_) (λhc=>?_)
 ·obtain⟨q,rfl⟩:∃q,k=q+1:=⟨k-1,by have:=of_decide_eq_true hc;omega⟩
  rw[heapBuild]at hfold;have hs:=Eh X n u q m a (by omega) (by omega) (by omega) (by omega);have hsz:=A9 ltInt m a _ q u (Nat.le_refl _);rw[show(((q+1:Nat):Int)-1)=(q:Int) by omega];(repeat first|(refine AOps.gN ?_;first|(refine AOps.g_callf ?_;first|refine DN (h:=(hs ..)) (k:=?_))|refine AOps.p (AG ((q:Int)-1) (by omega) (by omega) rfl rfl) rfl ?_)|refine WK ?_|refine Ai λX=>?_|refine Ay λY=>?_);exact Aw q (siftDown ltInt m a q u) ⟨by omega,by omega,hfold⟩
 ·obtain rfl:k=0:=by have:=of_decide_eq_false hc;omega
  rw[heapBuild]at hfold;(repeat first|(refine AOps.gN ?_;first|refine AOps.p (AG ((m:Int)-1) (by omega) (by omega) rfl rfl) rfl ?_)|refine WK ?_|refine Ai λX=>?_|refine Ay λY=>?_);clear hc hk;refine BP (λ(k:Nat) (u:Array Int)=>⟨[(0,.sl X 0 n),(6,iA a),(7,iA 0),(8,iA m),(10,iA ((k:Int)-1))],(X,.row 3 1 (u.toList.map iA))::Sf⟩) (λk u=>k<=m/\u.size=d.size/\heapPop ltInt a k u=r) (λk _=>k) m u ⟨by omega,hu,hfold⟩ ?_;clear hfold hu;rintro k u ⟨hk,hu,hfold⟩;(repeat first|refine WK ?_|refine Ai λX=>?_|refine Ay λY=>?_);refine AWP.cond rfl (λhc=>?_) (λhc=>?_)
  ·obtain⟨q,rfl⟩:∃q,k=q+1:=⟨k-1,by have:=of_decide_eq_true hc;omega⟩
   rw[heapPop]at hfold;have h1:=AJ iA (d:=u) (i:=a) (by omega);have h2:=AJ iA (d:=u) (i:=a+q) (by omega);have hs:=Eh X n (swp u a (a+q)) 0 q a (by rw[size_swp];omega) (by rw[size_swp];omega) (by omega) (by rw[size_swp];omega);have hsz:=A9 ltInt q a _ 0 (swp u a (a+q)) (Nat.le_refl _);rw[size_swp]at hsz;rw[show(((q+1:Nat):Int)-1)=(q:Int) by omega];obtain⟨y,hy⟩:=Ag iA (d:=u) (i:=a) (j:=a+q) (by omega) u[a+q]!;have hrow:=Ao iA (d:=u) (i:=a) (j:=a+q) (by omega) (by omega);(repeat refine WF ?_);refine RU ?_;(repeat first|(refine RGo.gN ?_;first|refine RGo.go (h:=AR (((a+q:Nat):Int)) (by omega) (by omega) rfl rfl) (k:=?_)|refine RGo.s (W.store rfl rfl (by exact At.f) hy (by exact rfl)) rfl ?_)|(refine AL ?_;first|refine RGo.go (h:=AR (((a+q:Nat):Int)) (by omega) (by omega) rfl rfl) (k:=?_)|refine RGo.s (W.store rfl rfl (by exact At.f) hy (by exact rfl)) rfl ?_)|refine RK ?_|refine RGo.nil (by kernel_rfl) ?_);refine ET [(0,.sl X 0 n),(6,iA a),(7,iA 0),(8,iA m),(10,iA q)] ((X,.row 3 1 ((swp u a (a+q)).toList.map iA))::Sf) ?_ (h:=by rw[<-hrow];exact⟨by exact Lk.f,by exact Sub.f⟩);(repeat first|(refine AOps.gN ?_;first|(refine AOps.g_callf ?_;first|refine DN (h:=(hs ..)) (k:=?_))|refine AOps.p (AG ((q:Int)-1) (by omega) (by omega) rfl rfl) rfl ?_)|refine WK ?_|refine Ai λX=>?_|refine Ay λY=>?_);exact Aw q (siftDown ltInt q a 0 (swp u a (a+q))) ⟨by omega,by omega,hfold⟩
  ·obtain rfl:k=0:=by have:=of_decide_eq_false hc;omega
   rw[heapPop]at hfold;subst hfold;(repeat first|refine WK ?_|refine Ai λX=>?_|refine Ay λY=>?_);refine Bs ?_;exact Aa [(X,.row 3 1 (u.toList.map iA))] ⟨rfl,rfl⟩
set_option maxHeartbeats 1000000 in
theorem Ha(X n:Nat)(d:Array Int)(a b:Nat)(hn:n=d.size)(hab:a<b)(hb:b<=d.size)(hz:d.size<=1099511627776):PO Try.prog 88 [.sl X 0 n,iA a,iA b] X (.row 3 1 (d.toList.map iA)) (.tup []) (.row 3 1 ((reverseRange d a b).toList.map iA)):=by
 obtain⟨r,hr⟩:∃r,reverseRange d a b=r:=⟨_,rfl⟩;rw[hr];unfold reverseRange at hr;refine Spec.of (nt:=32) (res:=[]) Try.func88 rfl (by kernel_rfl) rfl rfl rfl λSf=>?_
 (repeat first|(refine AOps.gN ?_;first|refine AOps.p (AG (((b-1:Nat):Int)) (by omega) (by omega) rfl rfl) rfl ?_)|refine WK ?_|refine Ai λX=>?_|refine Ay λY=>?_);refine Bw (λ(i j:Nat) (u:Array Int)=>⟨[(0,.sl X 0 n),(6,iA i),(7,iA j)],(X,.row 3 1 (u.toList.map iA))::Sf⟩) (λi j u=>i<=d.size/\j<d.size/\u.size=d.size/\reverseLoop i j u=r) (λi j _=>j-i) a (b-1) d ⟨by omega,by omega,rfl,hr⟩ ?_;rintro i j u ⟨hi,hj,hu,hfold⟩;rw[reverseLoop]at hfold;(repeat first|refine WK ?_|refine Ai λX=>?_|refine Ay λY=>?_);refine AWP.cond rfl (λhc=>?_) (λhc=>?_)
 ·have h:i<j:=by have:=of_decide_eq_true hc;omega
  rw[if_pos h]at hfold;have h1:=AJ iA (d:=u) (i:=i) (by omega);have h2:=AJ iA (d:=u) (i:=j) (by omega);obtain⟨y,hy⟩:=Ag iA (d:=u) (i:=i) (j:=j) (by omega) u[j]!;(repeat refine WF ?_);refine RU ?_;(repeat first|(refine RGo.gN ?_;first|refine RGo.s (W.store rfl rfl (by exact At.f) hy (by exact rfl)) rfl ?_)|(refine AL ?_;first|refine RGo.s (W.store rfl rfl (by exact At.f) hy (by exact rfl)) rfl ?_)|refine RK ?_|refine RGo.nil (by kernel_rfl) ?_);(repeat first|(refine AOps.gN ?_;first|refine AOps.p (AG (((j-1:Nat):Int)) (by omega) (by omega) rfl rfl) rfl ?_)|refine WK ?_|refine Ai λX=>?_|refine Ay λY=>?_);refine BM (i+1) (j-1) (swp u i j) ⟨by omega,by omega,by rw[size_swp];exact hu,hfold⟩ (h0:=by rw[<-Ao iA (by omega) (by omega)];exact⟨by exact Lk.f,by exact Sub.f⟩)
 ·have h:¬i<j:=by have:=of_decide_eq_false hc;omega
  rw[if_neg h]at hfold;subst hfold;(repeat first|refine WK ?_|refine Ai λX=>?_|refine Ay λY=>?_);refine Bs ?_;exact Aa [(X,.row 3 1 (u.toList.map iA))] ⟨rfl,rfl⟩
end
section
open Go.Sort
set_option maxHeartbeats 1000000 in
theorem Cc(p:Int->Bool)(d:Array Int)(j i:Nat):scanUp p d j i<=max i (j+1):=by
 obtain⟨m,hm⟩:∃m,j+1-i=m:=⟨_,rfl⟩
 induction m generalizing i with
 |zero=>rw[scanUp,if_neg (λe=>by rw[Bool.and_eq_true]at e;have:=of_decide_eq_true e.1;omega)];omega
 |succ m ih=>
  rw[scanUp];split
  ·have:=ih (i+1) (by omega)
   omega
  ·omega
theorem Hb(X n:Nat)(d:Array Int)(a b pivot:Nat)(hn:n=d.size)(ha:a<=pivot)(hp:pivot<b)(hb:b<=d.size)(hz:d.size<=1099511627776):PO Try.prog 90 [.sl X 0 n,iA a,iA b,iA pivot] X (.row 3 1 (d.toList.map iA)) (iA (partitionEqual ltInt d a b pivot).1) (.row 3 1 ((partitionEqual ltInt d a b pivot).2.toList.map iA)):=by
 obtain⟨r,hr⟩:∃r,partitionEqual ltInt d a b pivot=r:=⟨_,rfl⟩;rw[hr];unfold partitionEqual at hr;refine Spec.of (nt:=84) (res:=[.tmp 8]) Try.func90 rfl (by kernel_rfl) rfl rfl rfl λSf=>?_
 have h1:=AJ iA (d:=d) (i:=a) (by omega);have h2:=AJ iA (d:=d) (i:=pivot) (by omega);obtain⟨y,hy⟩:=Ag iA (d:=d) (i:=a) (j:=pivot) (by omega) d[pivot]!;refine RG ?_;(repeat first|refine WO ?_|refine Ai λX=>?_|refine Ay λY=>?_);refine NL ?_;refine RU ?_;(repeat first|(refine RGo.gN ?_;first|refine RGo.s (W.store rfl rfl (by exact At.f) hy (by exact rfl)) rfl ?_)|(refine AL ?_;first|refine RGo.s (W.store rfl rfl (by exact At.f) hy (by exact rfl)) rfl ?_)|refine RK ?_|refine RGo.nil (by kernel_rfl) ?_);(repeat first|(refine AOps.gN ?_;first|refine AOps.p (AG (((b-1:Nat):Int)) (by omega) (by omega) rfl rfl) rfl ?_)|refine WK ?_|refine Ai λX=>?_|refine Ay λY=>?_);refine Bw (λ(i j:Nat) (u:Array Int)=>⟨[(0,.sl X 0 n),(1,iA a),(9,iA i),(10,iA j)],(X,.row 3 1 (u.toList.map iA))::Sf⟩) (λi j u=>a<i/\i<=j+2/\j<b/\u.size=d.size/\partEqLoop ltInt a i j u=r) (λi j _=>j+1-i) (a+1) (b-1) (swp d a pivot) ⟨by omega,by omega,by omega,by rw[size_swp],hr⟩ ?_ (h0:=by rw[<-Ao iA (by omega) (by omega)];exact⟨by exact Lk.f,by exact Sub.f⟩);rintro i j u ⟨hai,hij,hjb,hu,hfold⟩;rw[partEqLoop_eq]at hfold;obtain⟨i2,hi2⟩:∃i2,scanUp (λx=>!ltInt u[a]! x) u j i=i2:=⟨_,rfl⟩;rw[hi2]at hfold;obtain⟨j2,hj2⟩:∃j2,scanDown (λx=>ltInt u[a]! x) u i2 j=j2:=⟨_,rfl⟩;rw[hj2]at hfold;have hge:=scanUp_ge (λx=>!ltInt u[a]! x) u j i;have hle:=scanDown_le (λx=>ltInt u[a]! x) u i2 j;rw[hi2]at hge;rw[hj2]at hle;have hge2:i2<=max i (j+1):=by rw[<-hi2];exact Cc _ _ _ _
 refine AWP.block ?_
 (repeat (first|refine AWP.skip ?_|refine Ae ?_|refine AWP.seq ?_))
 refine AY (λk:Nat=>k=i2) (λk=>⟨[(0,.sl X 0 n),(1,iA a),(9,iA k),(10,iA j)],(X,.row 3 1 (u.toList.map iA))::Sf⟩) ?_ ?_
 ·refine AWP.block ?_
  refine BY (λ(k:Nat)=>⟨[(0,.sl X 0 n),(1,iA a),(9,iA k),(10,iA j)],(X,.row 3 1 (u.toList.map iA))::Sf⟩) (λk=>i<=k/\k<=max i (j+1)/\scanUp (λx=>!ltInt u[a]! x) u j k=i2) (λk=>j+1-k) i ⟨Nat.le_refl _,by omega,hi2⟩ ?_;rintro k ⟨hk1,hk2,hk⟩;rw[scanUp]at hk;rcases Bool.eq_false_or_eq_true (decide ((k:Int)<=(j:Int)))with g|g
  ·have hg:k<=j:=by have:=of_decide_eq_true g;omega
   have h1:=AJ iA (d:=u) (i:=k) (by omega);have h2:=AJ iA (d:=u) (i:=a) (by omega);have hl:=An (u[a]!) (u[k]!);(repeat refine WF ?_);refine RU ?_;(repeat first|(refine RGo.gN ?_;first|(refine RGo.g_callf ?_;first|refine RGo.c2 (h:=(hl ..)) (k:=?_)))|(refine AL ?_;first|(refine RGo.g_callf ?_;first|refine RGo.c2 (h:=(hl ..)) (k:=?_)))|refine RK ?_|refine RGo.nil (by kernel_rfl) ?_);(repeat refine WF ?_);refine AWP.cond rfl (λhd=>?_) (λhd=>?_)
   ·have hd:(!ltInt u[a]! u[k]!)=true:=by simpa[g,BD]using hd
    rw[if_pos (by rw[Bool.and_eq_true];exact⟨decide_eq_true (by omega),hd⟩)]at hk;(repeat first|refine WK ?_|refine Ai λX=>?_|refine Ay λY=>?_);exact BA (k+1) ⟨by omega,by omega,hk⟩
   ·have hd:(!ltInt u[a]! u[k]!)=false:=by simpa[g,BD]using hd
    rw[if_neg (λe=>by rw[Bool.and_eq_true]at e;have e2:=e.2;rw[hd]at e2;cases e2)]at hk;(repeat first|refine WK ?_|refine Ai λX=>?_|refine Ay λY=>?_);exact jn k hk
  ·have hg:¬k<=j:=by have:=of_decide_eq_false g;omega
   rw[if_neg (λe=>by rw[Bool.and_eq_true]at e;have:=of_decide_eq_true e.1;omega)]at hk;(repeat refine WF ?_);refine RU ?_;(repeat first|refine RK ?_|refine RGo.nil (by kernel_rfl) ?_);(repeat refine WF ?_);refine AH rfl (by simp[g]) ?_;(repeat first|refine WK ?_|refine Ai λX=>?_|refine Ay λY=>?_);exact jn k hk
 rintro k hk0;rw[hk0];clear hk0 k
 (repeat (first|refine AWP.skip ?_|refine Ae ?_|refine AWP.seq ?_))
 refine AY (λk:Nat=>k=j2) (λk=>⟨[(0,.sl X 0 n),(1,iA a),(9,iA i2),(10,iA k)],(X,.row 3 1 (u.toList.map iA))::Sf⟩) ?_ ?_
 ·refine AWP.block ?_
  refine BY (λ(k:Nat)=>⟨[(0,.sl X 0 n),(1,iA a),(9,iA i2),(10,iA k)],(X,.row 3 1 (u.toList.map iA))::Sf⟩) (λk=>k<=j/\scanDown (λx=>ltInt u[a]! x) u i2 k=j2) (λk=>k) j ⟨Nat.le_refl _,hj2⟩ ?_;rintro k ⟨hk1,hk⟩;rcases Bool.eq_false_or_eq_true (decide ((i2:Int)<=(k:Int)))with g|g
  ·have hg:i2<=k:=by have:=of_decide_eq_true g;omega
   obtain⟨q,rfl⟩:∃q,k=q+1:=⟨k-1,by omega⟩;rw[scanDown]at hk;have h1:=AJ iA (d:=u) (i:=q+1) (by omega);have h2:=AJ iA (d:=u) (i:=a) (by omega);have hl:=An (u[a]!) (u[q+1]!);(repeat refine WF ?_);refine RU ?_;(repeat first|(refine RGo.gN ?_;first|(refine RGo.g_callf ?_;first|refine RGo.c2 (h:=(hl ..)) (k:=?_)))|(refine AL ?_;first|(refine RGo.g_callf ?_;first|refine RGo.c2 (h:=(hl ..)) (k:=?_)))|refine RK ?_|refine RGo.nil (by kernel_rfl) ?_);(repeat refine WF ?_);refine AWP.cond rfl (λhd=>?_) (λhd=>?_)
   ·have hd:(ltInt u[a]! u[q+1]!)=true:=by simpa[g,BD]using hd
    rw[if_pos (by rw[Bool.and_eq_true];exact⟨decide_eq_true (by omega),hd⟩)]at hk;(repeat first|(refine AOps.gN ?_;first|refine AOps.p (AG ((q:Int)) (by omega) (by omega) rfl rfl) rfl ?_)|refine WK ?_|refine Ai λX=>?_|refine Ay λY=>?_);exact BA q ⟨by omega,hk⟩
   ·have hd:(ltInt u[a]! u[q+1]!)=false:=by simpa[g,BD]using hd
    rw[if_neg (λe=>by rw[Bool.and_eq_true]at e;have e2:=e.2;rw[hd]at e2;cases e2)]at hk;(repeat first|refine WK ?_|refine Ai λX=>?_|refine Ay λY=>?_);exact jn (q+1) hk
  ·have hg:¬i2<=k:=by have:=of_decide_eq_false g;omega
   have hk3:scanDown (λx=>ltInt u[a]! x) u i2 k=k:=by
    cases k with
    |zero=>rfl
    |succ q=>rw[scanDown,if_neg (λe=>by rw[Bool.and_eq_true]at e;have:=of_decide_eq_true e.1;omega)]
   rw[hk3]at hk;(repeat refine WF ?_);refine RU ?_;(repeat first|refine RK ?_|refine RGo.nil (by kernel_rfl) ?_);(repeat refine WF ?_);refine AH rfl (by simp[g]) ?_;(repeat first|refine WK ?_|refine Ai λX=>?_|refine Ay λY=>?_);exact jn k hk
 rintro k hk0;rw[hk0];clear hk0 k;(repeat first|refine WK ?_|refine Ai λX=>?_|refine Ay λY=>?_);refine AWP.cond rfl (λhc=>?_) (λhc=>?_)
 ·have h:i2>j2:=by have:=of_decide_eq_true hc;omega
  rw[if_pos h]at hfold;subst hfold;(repeat first|refine WK ?_|refine Ai λX=>?_|refine Ay λY=>?_);refine RT ?_;exact AW [iA i2] [(X,_)] ⟨rfl,rfl⟩
 ·have h:¬i2>j2:=by have:=of_decide_eq_false hc;omega
  rw[if_neg h]at hfold;have h1:=AJ iA (d:=u) (i:=i2) (by omega);have h2:=AJ iA (d:=u) (i:=j2) (by omega);obtain⟨y,hy⟩:=Ag iA (d:=u) (i:=i2) (j:=j2) (by omega) u[j2]!;(repeat refine WF ?_);refine RU ?_;(repeat first|(refine RGo.gN ?_;first|refine RGo.s (W.store rfl rfl (by exact At.f) hy (by exact rfl)) rfl ?_)|(refine AL ?_;first|refine RGo.s (W.store rfl rfl (by exact At.f) hy (by exact rfl)) rfl ?_)|refine RK ?_|refine RGo.nil (by kernel_rfl) ?_);(repeat first|(refine AOps.gN ?_;first|refine AOps.p (AG (((j2-1:Nat):Int)) (by omega) (by omega) rfl rfl) rfl ?_)|refine WK ?_|refine Ai λX=>?_|refine Ay λY=>?_);refine BM (i2+1) (j2-1) (swp u i2 j2) ⟨by omega,by omega,by omega,by rw[size_swp];exact hu,hfold⟩ (h0:=by rw[<-Ao iA (by omega) (by omega)];exact⟨by exact Lk.f,by exact Sub.f⟩)
set_option maxHeartbeats 1000000 in
theorem Gq(X n:Nat)(d:Array Int)(a b pivot:Nat)(hn:n=d.size)(ha:a<=pivot)(hp:pivot<b)(hb:b<=d.size)(hz:d.size<=1099511627776):PO Try.prog 91 [.sl X 0 n,iA a,iA b,iA pivot] X (.row 3 1 (d.toList.map iA)) (.tup [iA (partition ltInt d a b pivot).1,bA (partition ltInt d a b pivot).2.1]) (.row 3 1 ((partition ltInt d a b pivot).2.2.toList.map iA)):=by
 obtain⟨r,hr⟩:∃r,partition ltInt d a b pivot=r:=⟨_,rfl⟩;rw[hr];dsimp only[partition]at hr;refine Spec.of (nt:=168) (res:=[.tmp 8,.tmp 9]) Try.func91 rfl (by kernel_rfl) rfl rfl rfl λSf=>?_
 have h1:=AJ iA (d:=d) (i:=a) (by omega);have h2:=AJ iA (d:=d) (i:=pivot) (by omega);have hrow:=Ao iA (d:=d) (i:=a) (j:=pivot) (by omega) (by omega);obtain⟨y,hy⟩:=Ag iA (d:=d) (i:=a) (j:=pivot) (by omega) d[pivot]!;refine RG ?_;(repeat first|refine WO ?_|refine Ai λX=>?_|refine Ay λY=>?_);refine NL ?_;refine RU ?_;(repeat first|(refine RGo.gN ?_;first|refine RGo.s (W.store rfl rfl (by exact At.f) hy (by exact rfl)) rfl ?_)|(refine AL ?_;first|refine RGo.s (W.store rfl rfl (by exact At.f) hy (by exact rfl)) rfl ?_)|refine RK ?_|refine RGo.nil (by kernel_rfl) ?_);have hsz:(swp d a pivot).size=d.size:=size_swp _ _ _;obtain⟨u,hu0⟩:∃u,swp d a pivot=u:=⟨_,rfl⟩;rw[hu0]at hr hrow hsz;obtain⟨j,hj⟩:∃j,b-1=j:=⟨_,rfl⟩;obtain⟨i,hi⟩:∃i,a+1=i:=⟨_,rfl⟩;rw[hj,hi]at hr;refine RG ?_;(repeat first|(refine AOps.gN ?_;first|refine AOps.p (AG ((j:Int)) (by omega) (by omega) rfl rfl) rfl ?_|refine AOps.p (AR (((i:Nat):Int)) (by omega) (by omega) rfl rfl) rfl ?_)|refine WO ?_|refine Ai λX=>?_|refine Ay λY=>?_);refine NL ?_
 (repeat (first|refine AWP.skip ?_|refine Ae ?_|refine AWP.seq ?_))
 refine ET [(0,.sl X 0 n),(1,iA a),(10,iA i),(11,iA j)] ((X,.row 3 1 (u.toList.map iA))::Sf) ?_ (h:=by rw[<-hrow];exact⟨by exact Lk.f,by exact Sub.f⟩);have hu:u.size=d.size:=hsz;have hfold:=hr;obtain⟨i2,hi2⟩:∃i2,scanUp (λx=>ltInt x u[a]!) u j i=i2:=⟨_,rfl⟩;rw[hi2]at hfold;obtain⟨j2,hj2⟩:∃j2,scanDown (λx=>!ltInt x u[a]!) u i2 j=j2:=⟨_,rfl⟩;rw[hj2]at hfold;have hge:=scanUp_ge (λx=>ltInt x u[a]!) u j i;have hle:=scanDown_le (λx=>!ltInt x u[a]!) u i2 j;rw[hi2]at hge;rw[hj2]at hle;have hge2:i2<=max i (j+1):=by rw[<-hi2];exact Cc _ _ _ _
 refine AY (λk:Nat=>k=i2) (λk=>⟨[(0,.sl X 0 n),(1,iA a),(10,iA k),(11,iA j)],(X,.row 3 1 (u.toList.map iA))::Sf⟩) ?_ ?_
 ·refine AWP.block ?_
  refine BY (λ(k:Nat)=>⟨[(0,.sl X 0 n),(1,iA a),(10,iA k),(11,iA j)],(X,.row 3 1 (u.toList.map iA))::Sf⟩) (λk=>i<=k/\k<=max i (j+1)/\scanUp (λx=>ltInt x u[a]!) u j k=i2) (λk=>j+1-k) i ⟨Nat.le_refl _,by omega,hi2⟩ ?_;rintro k ⟨hk1,hk2,hk⟩;rw[scanUp]at hk;rcases Bool.eq_false_or_eq_true (decide ((k:Int)<=(j:Int)))with g|g
  ·have hg:k<=j:=by have:=of_decide_eq_true g;omega
   have h1:=AJ iA (d:=u) (i:=k) (by omega);have h2:=AJ iA (d:=u) (i:=a) (by omega);have hl:=An (u[k]!) (u[a]!);(repeat refine WF ?_);refine RU ?_;(repeat first|(refine RGo.gN ?_;first|(refine RGo.g_callf ?_;first|refine RGo.c2 (h:=(hl ..)) (k:=?_)))|(refine AL ?_;first|(refine RGo.g_callf ?_;first|refine RGo.c2 (h:=(hl ..)) (k:=?_)))|refine RK ?_|refine RGo.nil (by kernel_rfl) ?_);(repeat refine WF ?_);refine AWP.cond rfl (λhd=>?_) (λhd=>?_)
   ·have hd:(ltInt u[k]! u[a]!)=true:=by simpa[g,BD]using hd
    rw[if_pos (by rw[Bool.and_eq_true];exact⟨decide_eq_true (by omega),hd⟩)]at hk;(repeat first|refine WK ?_|refine Ai λX=>?_|refine Ay λY=>?_);exact BA (k+1) ⟨by omega,by omega,hk⟩
   ·have hd:(ltInt u[k]! u[a]!)=false:=by simpa[g,BD]using hd
    rw[if_neg (λe=>by rw[Bool.and_eq_true]at e;have e2:=e.2;rw[hd]at e2;cases e2)]at hk;(repeat first|refine WK ?_|refine Ai λX=>?_|refine Ay λY=>?_);exact jn k hk
  ·have hg:¬k<=j:=by have:=of_decide_eq_false g;omega
   rw[if_neg (λe=>by rw[Bool.and_eq_true]at e;have:=of_decide_eq_true e.1;omega)]at hk;(repeat refine WF ?_);refine RU ?_;(repeat first|refine RK ?_|refine RGo.nil (by kernel_rfl) ?_);(repeat refine WF ?_);refine AH rfl (by simp[g]) ?_;(repeat first|refine WK ?_|refine Ai λX=>?_|refine Ay λY=>?_);exact jn k hk
 rintro k hk0;rw[hk0];clear hk0 k
 (repeat (first|refine AWP.skip ?_|refine Ae ?_|refine AWP.seq ?_))
 refine AY (λk:Nat=>k=j2) (λk=>⟨[(0,.sl X 0 n),(1,iA a),(10,iA i2),(11,iA k)],(X,.row 3 1 (u.toList.map iA))::Sf⟩) ?_ ?_
 ·refine AWP.block ?_
  refine BY (λ(k:Nat)=>⟨[(0,.sl X 0 n),(1,iA a),(10,iA i2),(11,iA k)],(X,.row 3 1 (u.toList.map iA))::Sf⟩) (λk=>k<=j/\scanDown (λx=>!ltInt x u[a]!) u i2 k=j2) (λk=>k) j ⟨Nat.le_refl _,hj2⟩ ?_;rintro k ⟨hk1,hk⟩;rcases Bool.eq_false_or_eq_true (decide ((i2:Int)<=(k:Int)))with g|g
  ·have hg:i2<=k:=by have:=of_decide_eq_true g;omega
   obtain⟨q,rfl⟩:∃q,k=q+1:=⟨k-1,by omega⟩;rw[scanDown]at hk;have h1:=AJ iA (d:=u) (i:=q+1) (by omega);have h2:=AJ iA (d:=u) (i:=a) (by omega);have hl:=An (u[q+1]!) (u[a]!);(repeat refine WF ?_);refine RU ?_;(repeat first|(refine RGo.gN ?_;first|(refine RGo.g_callf ?_;first|refine RGo.c2 (h:=(hl ..)) (k:=?_)))|(refine AL ?_;first|(refine RGo.g_callf ?_;first|refine RGo.c2 (h:=(hl ..)) (k:=?_)))|refine RK ?_|refine RGo.nil (by kernel_rfl) ?_);(repeat refine WF ?_);refine AWP.cond rfl (λhd=>?_) (λhd=>?_)
   ·have hd:(!ltInt u[q+1]! u[a]!)=true:=by simpa[g,BD]using hd
    rw[if_pos (by rw[Bool.and_eq_true];exact⟨decide_eq_true (by omega),hd⟩)]at hk;(repeat first|(refine AOps.gN ?_;first|refine AOps.p (AG ((q:Int)) (by omega) (by omega) rfl rfl) rfl ?_)|refine WK ?_|refine Ai λX=>?_|refine Ay λY=>?_);exact BA q ⟨by omega,hk⟩
   ·have hd:(!ltInt u[q+1]! u[a]!)=false:=by simpa[g,BD]using hd
    rw[if_neg (λe=>by rw[Bool.and_eq_true]at e;have e2:=e.2;rw[hd]at e2;cases e2)]at hk;(repeat first|refine WK ?_|refine Ai λX=>?_|refine Ay λY=>?_);exact jn (q+1) hk
  ·have hg:¬i2<=k:=by have:=of_decide_eq_false g;omega
   have hk3:scanDown (λx=>!ltInt x u[a]!) u i2 k=k:=by
    cases k with
    |zero=>rfl
    |succ q=>rw[scanDown,if_neg (λe=>by rw[Bool.and_eq_true]at e;have:=of_decide_eq_true e.1;omega)]
   rw[hk3]at hk;(repeat refine WF ?_);refine RU ?_;(repeat first|refine RK ?_|refine RGo.nil (by kernel_rfl) ?_);(repeat refine WF ?_);refine AH rfl (by simp[g]) ?_;(repeat first|refine WK ?_|refine Ai λX=>?_|refine Ay λY=>?_);exact jn k hk
 rintro k hk0;rw[hk0];clear hk0 k;(repeat first|refine WK ?_|refine Ai λX=>?_|refine Ay λY=>?_);refine AWP.cond rfl (λhc=>?_) (λhc=>?_)
 ·have h:i2>j2:=by have:=of_decide_eq_true hc;omega
  rw[if_pos h]at hfold;subst hfold;have h1:=AJ iA (d:=u) (i:=j2) (by omega);have h2:=AJ iA (d:=u) (i:=a) (by omega);have hrow2:=Ao iA (d:=u) (i:=j2) (j:=a) (by omega) (by omega);obtain⟨y,hy⟩:=Ag iA (d:=u) (i:=j2) (j:=a) (by omega) u[a]!;(repeat refine WF ?_);refine RU ?_;(repeat first|(refine RGo.gN ?_;first|refine RGo.s (W.store rfl rfl (by exact At.f) hy (by exact rfl)) rfl ?_)|(refine AL ?_;first|refine RGo.s (W.store rfl rfl (by exact At.f) hy (by exact rfl)) rfl ?_)|refine RK ?_|refine RGo.nil (by kernel_rfl) ?_);(repeat first|refine WK ?_|refine Ai λX=>?_|refine Ay λY=>?_);refine RT ?_;exact AW [iA j2,bA true] [(X,_)] ⟨rfl,by rw[<-hrow2]⟩
 have h:¬i2>j2:=by have:=of_decide_eq_false hc;omega
 rw[if_neg h]at hfold;obtain⟨pr,hpr⟩:∃pr,partLoop ltInt a (i2+1) (j2-1) (swp u i2 j2)=pr:=⟨_,rfl⟩;rw[hpr]at hfold;have h1:=AJ iA (d:=u) (i:=i2) (by omega);have h2:=AJ iA (d:=u) (i:=j2) (by omega);clear y hy;obtain⟨y,hy⟩:=Ag iA (d:=u) (i:=i2) (j:=j2) (by omega) u[j2]!;(repeat refine WF ?_);refine RU ?_;(repeat first|(refine RGo.gN ?_;first|refine RGo.s (W.store rfl rfl (by exact At.f) hy (by exact rfl)) rfl ?_)|(refine AL ?_;first|refine RGo.s (W.store rfl rfl (by exact At.f) hy (by exact rfl)) rfl ?_)|refine RK ?_|refine RGo.nil (by kernel_rfl) ?_);(repeat first|(refine AOps.gN ?_;first|refine AOps.p (AG (((j2-1:Nat):Int)) (by omega) (by omega) rfl rfl) rfl ?_)|refine WK ?_|refine Ai λX=>?_|refine Ay λY=>?_);refine Bw (λ(i j:Nat) (u:Array Int)=>⟨[(0,.sl X 0 n),(1,iA a),(10,iA i),(11,iA j)],(X,.row 3 1 (u.toList.map iA))::Sf⟩) (λi j u=>a<i/\i<=j+2/\j<b/\u.size=d.size/\partLoop ltInt a i j u=pr) (λi j _=>j+1-i) (i2+1) (j2-1) (swp u i2 j2) ⟨by omega,by omega,by omega,by rw[size_swp];exact hu,hpr⟩ ?_ (h0:=by rw[<-Ao iA (by omega) (by omega)];exact⟨by exact Lk.f,by exact Sub.f⟩);subst hfold;clear hc h h1 h2 hpr hi2 hj2 hge hle hge2 hr hrow hu0 hu hsz hi hj hy y i2 j2 i j u;rintro i j u ⟨hai,hij,hjb,hu,hfold⟩;rw[partLoop_eq]at hfold;obtain⟨i2,hi2⟩:∃i2,scanUp (λx=>ltInt x u[a]!) u j i=i2:=⟨_,rfl⟩;rw[hi2]at hfold;obtain⟨j2,hj2⟩:∃j2,scanDown (λx=>!ltInt x u[a]!) u i2 j=j2:=⟨_,rfl⟩;rw[hj2]at hfold;have hge:=scanUp_ge (λx=>ltInt x u[a]!) u j i;have hle:=scanDown_le (λx=>!ltInt x u[a]!) u i2 j;rw[hi2]at hge;rw[hj2]at hle;have hge2:i2<=max i (j+1):=by rw[<-hi2];exact Cc _ _ _ _
 refine AWP.block ?_
 (repeat (first|refine AWP.skip ?_|refine Ae ?_|refine AWP.seq ?_))
 refine AY (λk:Nat=>k=i2) (λk=>⟨[(0,.sl X 0 n),(1,iA a),(10,iA k),(11,iA j)],(X,.row 3 1 (u.toList.map iA))::Sf⟩) ?_ ?_
 ·refine AWP.block ?_
  refine BY (λ(k:Nat)=>⟨[(0,.sl X 0 n),(1,iA a),(10,iA k),(11,iA j)],(X,.row 3 1 (u.toList.map iA))::Sf⟩) (λk=>i<=k/\k<=max i (j+1)/\scanUp (λx=>ltInt x u[a]!) u j k=i2) (λk=>j+1-k) i ⟨Nat.le_refl _,by omega,hi2⟩ ?_;rintro k ⟨hk1,hk2,hk⟩;rw[scanUp]at hk;rcases Bool.eq_false_or_eq_true (decide ((k:Int)<=(j:Int)))with g|g
  ·have hg:k<=j:=by have:=of_decide_eq_true g;omega
   have h1:=AJ iA (d:=u) (i:=k) (by omega);have h2:=AJ iA (d:=u) (i:=a) (by omega);have hl:=An (u[k]!) (u[a]!);(repeat refine WF ?_);refine RU ?_;(repeat first|(refine RGo.gN ?_;first|(refine RGo.g_callf ?_;first|refine RGo.c2 (h:=(hl ..)) (k:=?_)))|(refine AL ?_;first|(refine RGo.g_callf ?_;first|refine RGo.c2 (h:=(hl ..)) (k:=?_)))|refine RK ?_|refine RGo.nil (by kernel_rfl) ?_);(repeat refine WF ?_);refine AWP.cond rfl (λhd=>?_) (λhd=>?_)
   ·have hd:(ltInt u[k]! u[a]!)=true:=by simpa[g,BD]using hd
    rw[if_pos (by rw[Bool.and_eq_true];exact⟨decide_eq_true (by omega),hd⟩)]at hk;(repeat first|refine WK ?_|refine Ai λX=>?_|refine Ay λY=>?_);exact BA (k+1) ⟨by omega,by omega,hk⟩
   ·have hd:(ltInt u[k]! u[a]!)=false:=by simpa[g,BD]using hd
    rw[if_neg (λe=>by rw[Bool.and_eq_true]at e;have e2:=e.2;rw[hd]at e2;cases e2)]at hk;(repeat first|refine WK ?_|refine Ai λX=>?_|refine Ay λY=>?_);exact jn k hk
  ·have hg:¬k<=j:=by have:=of_decide_eq_false g;omega
   rw[if_neg (λe=>by rw[Bool.and_eq_true]at e;have:=of_decide_eq_true e.1;omega)]at hk;(repeat refine WF ?_);refine RU ?_;(repeat first|refine RK ?_|refine RGo.nil (by kernel_rfl) ?_);(repeat refine WF ?_);refine AH rfl (by simp[g]) ?_;(repeat first|refine WK ?_|refine Ai λX=>?_|refine Ay λY=>?_);exact jn k hk
 rintro k hk0;rw[hk0];clear hk0 k
 (repeat (first|refine AWP.skip ?_|refine Ae ?_|refine AWP.seq ?_))
 refine AY (λk:Nat=>k=j2) (λk=>⟨[(0,.sl X 0 n),(1,iA a),(10,iA i2),(11,iA k)],(X,.row 3 1 (u.toList.map iA))::Sf⟩) ?_ ?_
 ·refine AWP.block ?_
  refine BY (λ(k:Nat)=>⟨[(0,.sl X 0 n),(1,iA a),(10,iA i2),(11,iA k)],(X,.row 3 1 (u.toList.map iA))::Sf⟩) (λk=>k<=j/\scanDown (λx=>!ltInt x u[a]!) u i2 k=j2) (λk=>k) j ⟨Nat.le_refl _,hj2⟩ ?_;rintro k ⟨hk1,hk⟩;rcases Bool.eq_false_or_eq_true (decide ((i2:Int)<=(k:Int)))with g|g
  ·have hg:i2<=k:=by have:=of_decide_eq_true g;omega
   obtain⟨q,rfl⟩:∃q,k=q+1:=⟨k-1,by omega⟩;rw[scanDown]at hk;have h1:=AJ iA (d:=u) (i:=q+1) (by omega);have h2:=AJ iA (d:=u) (i:=a) (by omega);have hl:=An (u[q+1]!) (u[a]!);(repeat refine WF ?_);refine RU ?_;(repeat first|(refine RGo.gN ?_;first|(refine RGo.g_callf ?_;first|refine RGo.c2 (h:=(hl ..)) (k:=?_)))|(refine AL ?_;first|(refine RGo.g_callf ?_;first|refine RGo.c2 (h:=(hl ..)) (k:=?_)))|refine RK ?_|refine RGo.nil (by kernel_rfl) ?_);(repeat refine WF ?_);refine AWP.cond rfl (λhd=>?_) (λhd=>?_)
   ·have hd:(!ltInt u[q+1]! u[a]!)=true:=by simpa[g,BD]using hd
    rw[if_pos (by rw[Bool.and_eq_true];exact⟨decide_eq_true (by omega),hd⟩)]at hk;(repeat first|(refine AOps.gN ?_;first|refine AOps.p (AG ((q:Int)) (by omega) (by omega) rfl rfl) rfl ?_)|refine WK ?_|refine Ai λX=>?_|refine Ay λY=>?_);exact BA q ⟨by omega,hk⟩
   ·have hd:(!ltInt u[q+1]! u[a]!)=false:=by simpa[g,BD]using hd
    rw[if_neg (λe=>by rw[Bool.and_eq_true]at e;have e2:=e.2;rw[hd]at e2;cases e2)]at hk;(repeat first|refine WK ?_|refine Ai λX=>?_|refine Ay λY=>?_);exact jn (q+1) hk
  ·have hg:¬i2<=k:=by have:=of_decide_eq_false g;omega
   have hk3:scanDown (λx=>!ltInt x u[a]!) u i2 k=k:=by
    cases k with
    |zero=>rfl
    |succ q=>rw[scanDown,if_neg (λe=>by rw[Bool.and_eq_true]at e;have:=of_decide_eq_true e.1;omega)]
   rw[hk3]at hk;(repeat refine WF ?_);refine RU ?_;(repeat first|refine RK ?_|refine RGo.nil (by kernel_rfl) ?_);(repeat refine WF ?_);refine AH rfl (by simp[g]) ?_;(repeat first|refine WK ?_|refine Ai λX=>?_|refine Ay λY=>?_);exact jn k hk
 rintro k hk0;rw[hk0];clear hk0 k;(repeat first|refine WK ?_|refine Ai λX=>?_|refine Ay λY=>?_);refine AWP.cond rfl (λhc=>?_) (λhc=>?_)
 ·have h:i2>j2:=by have:=of_decide_eq_true hc;omega
  rw[if_pos h]at hfold;subst hfold;have h1:=AJ iA (d:=u) (i:=j2) (by omega);have h2:=AJ iA (d:=u) (i:=a) (by omega);have hrow2:=Ao iA (d:=u) (i:=j2) (j:=a) (by omega) (by omega);obtain⟨y,hy⟩:=Ag iA (d:=u) (i:=j2) (j:=a) (by omega) u[a]!;(repeat refine WF ?_);refine RU ?_;(repeat first|(refine RGo.gN ?_;first|refine RGo.s (W.store rfl rfl (by exact At.f) hy (by exact rfl)) rfl ?_)|(refine AL ?_;first|refine RGo.s (W.store rfl rfl (by exact At.f) hy (by exact rfl)) rfl ?_)|refine RK ?_|refine RGo.nil (by kernel_rfl) ?_);(repeat first|refine WK ?_|refine Ai λX=>?_|refine Ay λY=>?_);refine RT ?_;exact AW [iA j2,bA false] [(X,_)] ⟨rfl,by rw[<-hrow2]⟩
 ·have h:¬i2>j2:=by have:=of_decide_eq_false hc;omega
  rw[if_neg h]at hfold;have h1:=AJ iA (d:=u) (i:=i2) (by omega);have h2:=AJ iA (d:=u) (i:=j2) (by omega);obtain⟨y,hy⟩:=Ag iA (d:=u) (i:=i2) (j:=j2) (by omega) u[j2]!;(repeat refine WF ?_);refine RU ?_;(repeat first|(refine RGo.gN ?_;first|refine RGo.s (W.store rfl rfl (by exact At.f) hy (by exact rfl)) rfl ?_)|(refine AL ?_;first|refine RGo.s (W.store rfl rfl (by exact At.f) hy (by exact rfl)) rfl ?_)|refine RK ?_|refine RGo.nil (by kernel_rfl) ?_);(repeat first|(refine AOps.gN ?_;first|refine AOps.p (AG (((j2-1:Nat):Int)) (by omega) (by omega) rfl rfl) rfl ?_)|refine WK ?_|refine Ai λX=>?_|refine Ay λY=>?_);refine BM (i2+1) (j2-1) (swp u i2 j2) ⟨by omega,by omega,by omega,by rw[size_swp];exact hu,hfold⟩ (h0:=by rw[<-Ao iA (by omega) (by omega)];exact⟨by exact Lk.f,by exact Sub.f⟩)
end
section
open Go.Sort
set_option maxHeartbeats 1000000 in
theorem DH(lt:Int->Int->Bool)(d:Array Int)(b i:Nat):i<=scanSorted lt d b i/\scanSorted lt d b i<=max i b:=by
 obtain⟨m,hm⟩:∃m,b-i=m:=⟨_,rfl⟩
 induction m generalizing i with
 |zero=>rw[scanSorted,if_neg (λe=>by rw[Bool.and_eq_true]at e;have:=of_decide_eq_true e.1;omega)];omega
 |succ m ih=>
  rw[scanSorted];split
  ·have:=ih (i+1) (by omega)
   omega
  ·omega
theorem Gp(X n:Nat)(d:Array Int)(a b:Nat)(hn:n=d.size)(hab:a<b)(hb:b<=d.size)(hz:d.size<=1099511627776):PO Try.prog 89 [.sl X 0 n,iA a,iA b] X (.row 3 1 (d.toList.map iA)) (bA (partialInsertionSort ltInt d a b).2) (.row 3 1 ((partialInsertionSort ltInt d a b).1.toList.map iA)):=by
 obtain⟨r,hr⟩:∃r,partialInsertionSort ltInt d a b=r:=⟨_,rfl⟩;rw[hr];unfold partialInsertionSort at hr;refine Spec.of (nt:=133) (res:=[.tmp 6]) Try.func89 rfl (by kernel_rfl) rfl rfl rfl λSf=>?_
 (repeat first|(refine AOps.gN ?_;first|refine AOps.p (AR (((a+1:Nat):Int)) (by omega) (by omega) rfl rfl) rfl ?_)|refine WK ?_|refine Ai λX=>?_|refine Ay λY=>?_);refine Bw (λ(c i:Nat) (u:Array Int)=>⟨[(0,.sl X 0 n),(1,iA a),(2,iA b),(7,iA i),(8,iA c)],(X,.row 3 1 (u.toList.map iA))::Sf⟩) (λc i u=>c<=5/\a<i/\i<=b/\u.size=d.size/\partialIns ltInt a b (5-c) i u=r) (λc _ _=>5-c) 0 (a+1) d ⟨by omega,by omega,by omega,rfl,hr⟩ ?_;rintro c i u ⟨hc5,hai,hib,hu,hfold⟩;(repeat first|refine WK ?_|refine Ai λX=>?_|refine Ay λY=>?_);refine AWP.cond rfl (λhc=>?_) (λhc=>?_)
 ·have h:c<5:=by have:=of_decide_eq_true hc;omega
  obtain⟨s,hs⟩:∃s,5-c=s+1:=⟨4-c,by omega⟩;rw[hs,partialIns_succ]at hfold;obtain⟨i2,hi2⟩:∃i2,scanSorted ltInt u b i=i2:=⟨_,rfl⟩;rw[hi2]at hfold;have hrg:=DH ltInt u b i;rw[hi2]at hrg
  (repeat (first|refine AWP.skip ?_|refine Ae ?_|refine AWP.seq ?_))
  refine AWP.block ?_
  (repeat (first|refine AWP.skip ?_|refine Ae ?_|refine AWP.seq ?_))
  refine AY (λk:Nat=>k=i2) (λk=>⟨[(0,.sl X 0 n),(1,iA a),(2,iA b),(7,iA k),(8,iA c)],(X,.row 3 1 (u.toList.map iA))::Sf⟩) ?_ ?_
  ·refine AWP.block ?_
   refine BY (λ(k:Nat)=>⟨[(0,.sl X 0 n),(1,iA a),(2,iA b),(7,iA k),(8,iA c)],(X,.row 3 1 (u.toList.map iA))::Sf⟩) (λk=>i<=k/\k<=b/\scanSorted ltInt u b k=i2) (λk=>b-k) i ⟨Nat.le_refl _,hib,hi2⟩ ?_;rintro k ⟨hk1,hk2,hk⟩;rw[scanSorted]at hk;rcases Bool.eq_false_or_eq_true (decide ((k:Int)<(b:Int)))with g|g
   ·have hg:k<b:=by have:=of_decide_eq_true g;omega
    have h1:=AJ iA (d:=u) (i:=k) (by omega);have h2:=AJ iA (d:=u) (i:=k-1) (by omega);have hl:=An (u[k]!) (u[k-1]!);(repeat refine WF ?_);refine RU ?_;(repeat first|(refine RGo.gN ?_;first|(refine RGo.g_callf ?_;first|refine RGo.c2 (h:=(hl ..)) (k:=?_))|refine RGo.go (h:=AG (((k-1:Nat):Int)) (by omega) (by omega) rfl rfl) (k:=?_))|(refine AL ?_;first|(refine RGo.g_callf ?_;first|refine RGo.c2 (h:=(hl ..)) (k:=?_))|refine RGo.go (h:=AG (((k-1:Nat):Int)) (by omega) (by omega) rfl rfl) (k:=?_))|refine RK ?_|refine RGo.nil (by kernel_rfl) ?_);(repeat refine WF ?_);refine AWP.cond rfl (λhd=>?_) (λhd=>?_)
    ·have hd:(!ltInt u[k]! u[k-1]!)=true:=by simpa[g,BD]using hd
     rw[if_pos (by rw[Bool.and_eq_true];exact⟨decide_eq_true (by omega),hd⟩)]at hk;(repeat first|refine WK ?_|refine Ai λX=>?_|refine Ay λY=>?_);exact BA (k+1) ⟨by omega,by omega,hk⟩
    ·have hd:(!ltInt u[k]! u[k-1]!)=false:=by simpa[g,BD]using hd
     rw[if_neg (λe=>by rw[Bool.and_eq_true]at e;have e2:=e.2;rw[hd]at e2;cases e2)]at hk;(repeat first|refine WK ?_|refine Ai λX=>?_|refine Ay λY=>?_);exact jn k hk
   ·have hg:¬k<b:=by have:=of_decide_eq_false g;omega
    rw[if_neg (λe=>by rw[Bool.and_eq_true]at e;have:=of_decide_eq_true e.1;omega)]at hk;(repeat refine WF ?_);refine RU ?_;(repeat first|refine RK ?_|refine RGo.nil (by kernel_rfl) ?_);(repeat refine WF ?_);refine AH rfl (by simp[g]) ?_;(repeat first|refine WK ?_|refine Ai λX=>?_|refine Ay λY=>?_);exact jn k hk
  rintro k hk0;rw[hk0];clear hk0 k;(repeat first|refine WK ?_|refine Ai λX=>?_|refine Ay λY=>?_);refine AWP.cond rfl (λhd=>?_) (λhd=>?_)
  ·have hd:i2=b:=by have:=of_decide_eq_true hd;omega
   rw[if_pos hd]at hfold;subst hfold;(repeat first|refine WK ?_|refine Ai λX=>?_|refine Ay λY=>?_);refine RT ?_;exact AW [bA true] [(X,_)] ⟨rfl,rfl⟩
  have hd:¬i2=b:=by have:=of_decide_eq_false hd;omega
  rw[if_neg hd]at hfold;(repeat first|(refine AOps.gN ?_;first|refine AOps.p (AG (((b-a:Nat):Int)) (by omega) (by omega) rfl rfl) rfl ?_)|refine WK ?_|refine Ai λX=>?_|refine Ay λY=>?_);refine AWP.cond rfl (λhe=>?_) (λhe=>?_)
  ·have he:b-a<50:=by have:=of_decide_eq_true he;omega
   rw[if_pos he]at hfold;subst hfold;(repeat first|refine WK ?_|refine Ai λX=>?_|refine Ay λY=>?_);refine RT ?_;exact AW [bA false] [(X,_)] ⟨rfl,rfl⟩
  have he:¬b-a<50:=by have:=of_decide_eq_false he;omega
  rw[if_neg he]at hfold;have h1:=AJ iA (d:=u) (i:=i2) (by omega);have h2:=AJ iA (d:=u) (i:=i2-1) (by omega);have hrow:=Ao iA (d:=u) (i:=i2) (j:=i2-1) (by omega) (by omega);obtain⟨y,hy⟩:=Ag iA (d:=u) (i:=i2) (j:=i2-1) (by omega) u[i2-1]!;have hvs:(swp u i2 (i2-1)).size=d.size:=by rw[size_swp];exact hu
  (repeat refine WF ?_);refine RU ?_;(repeat first|(refine RGo.gN ?_;first|refine RGo.go (h:=AG (((i2-1:Nat):Int)) (by omega) (by omega) rfl rfl) (k:=?_)|refine RGo.s (W.store rfl rfl (by exact At.f) hy (by exact rfl)) rfl ?_)|(refine AL ?_;first|refine RGo.go (h:=AG (((i2-1:Nat):Int)) (by omega) (by omega) rfl rfl) (k:=?_)|refine RGo.s (W.store rfl rfl (by exact At.f) hy (by exact rfl)) rfl ?_)|refine RK ?_|refine RGo.nil (by kernel_rfl) ?_);obtain⟨v,hv⟩:∃v,swp u i2 (i2-1)=v:=⟨_,rfl⟩;rw[hv]at hrow hvs hfold;refine ET [(0,.sl X 0 n),(1,iA a),(2,iA b),(7,iA i2),(8,iA c)] ((X,.row 3 1 (v.toList.map iA))::Sf) ?_ (h:=by rw[<-hrow];exact⟨by exact Lk.f,by exact Sub.f⟩);(repeat first|(refine AOps.gN ?_;first|refine AOps.p (AG (((i2-a:Nat):Int)) (by omega) (by omega) rfl rfl) rfl ?_)|refine WK ?_|refine Ai λX=>?_|refine Ay λY=>?_);refine AY (λw:Array Int=>w.size=d.size/\w=fixDown ltInt a i2 v) (λw=>⟨[(0,.sl X 0 n),(1,iA a),(2,iA b),(7,iA i2),(8,iA c)],(X,.row 3 1 (w.toList.map iA))::Sf⟩) ?_ ?_
  ·unfold fixDown
   refine AWP.cond rfl (λhf=>?_) (λhf=>?_)
   ·have hf:i2-a>=2:=by have:=of_decide_eq_true hf;omega
    rw[if_pos hf];(repeat first|(refine AOps.gN ?_;first|refine AOps.p (AG (((i2-1:Nat):Int)) (by omega) (by omega) rfl rfl) rfl ?_)|refine WK ?_|refine Ai λX=>?_|refine Ay λY=>?_);refine BP (λ(k:Nat) (w:Array Int)=>⟨[(0,.sl X 0 n),(1,iA a),(2,iA b),(7,iA i2),(8,iA c),(9,iA k)],(X,.row 3 1 (w.toList.map iA))::Sf⟩) (λk w=>k<b/\w.size=d.size/\shiftDown ltInt k w=shiftDown ltInt (i2-1) v) (λk _=>k) (i2-1) v ⟨by omega,hvs,rfl⟩ ?_;rintro k w ⟨hkb,hw,hk⟩;(repeat first|refine WK ?_|refine Ai λX=>?_|refine Ay λY=>?_);refine AWP.cond rfl (λhg=>?_) (λhg=>?_)
    ·obtain⟨q,rfl⟩:∃q,k=q+1:=⟨k-1,by have:=of_decide_eq_true hg;omega⟩
     rw[shiftDown]at hk;have h1:=AJ iA (d:=w) (i:=q+1) (by omega);have h2:=AJ iA (d:=w) (i:=q) (by omega);have hl:=An (w[q+1]!) (w[q]!);(repeat refine WF ?_);refine RU ?_;(repeat first|(refine RGo.gN ?_;first|(refine RGo.g_callf ?_;first|refine RGo.c2 (h:=(hl ..)) (k:=?_))|refine RGo.go (h:=AG ((q:Int)) (by omega) (by omega) rfl rfl) (k:=?_))|(refine AL ?_;first|(refine RGo.g_callf ?_;first|refine RGo.c2 (h:=(hl ..)) (k:=?_))|refine RGo.go (h:=AG ((q:Int)) (by omega) (by omega) rfl rfl) (k:=?_))|refine RK ?_|refine RGo.nil (by kernel_rfl) ?_);(repeat refine WF ?_);refine AWP.cond rfl (λhd=>?_) (λhd=>?_)
     ·have hd:(!ltInt w[q+1]! w[q]!)=true:=by simpa[BD]using hd
      rw[if_pos hd]at hk;(repeat first|refine WK ?_|refine Ai λX=>?_|refine Ay λY=>?_);exact jn w ⟨hw,hk⟩
     ·have hd:(!ltInt w[q+1]! w[q]!)=false:=by simpa[BD]using hd
      rw[if_neg (by rw[hd];simp)]at hk;clear y hy;obtain⟨y,hy⟩:=Ag iA (d:=w) (i:=q+1) (j:=q) (by omega) w[q]!;(repeat refine WF ?_);refine RU ?_;(repeat first|(refine RGo.gN ?_;first|refine RGo.go (h:=AG ((q:Int)) (by omega) (by omega) rfl rfl) (k:=?_)|refine RGo.s (W.store rfl rfl (by exact At.f) hy (by exact rfl)) rfl ?_)|(refine AL ?_;first|refine RGo.go (h:=AG ((q:Int)) (by omega) (by omega) rfl rfl) (k:=?_)|refine RGo.s (W.store rfl rfl (by exact At.f) hy (by exact rfl)) rfl ?_)|refine RK ?_|refine RGo.nil (by kernel_rfl) ?_);(repeat first|(refine AOps.gN ?_;first|refine AOps.p (AG ((q:Int)) (by omega) (by omega) rfl rfl) rfl ?_)|refine WK ?_|refine Ai λX=>?_|refine Ay λY=>?_);refine Aw q (swp w (q+1) q) ⟨by omega,by rw[size_swp];exact hw,hk⟩ (h0:=by rw[<-Ao iA (by omega) (by omega)];exact⟨by exact Lk.f,by exact Sub.f⟩)
    ·obtain rfl:k=0:=by have:=of_decide_eq_false hg;omega
     rw[shiftDown]at hk;(repeat first|refine WK ?_|refine Ai λX=>?_|refine Ay λY=>?_);exact jn w ⟨hw,hk⟩
   ·have hf:¬i2-a>=2:=by have:=of_decide_eq_false hf;omega
    rw[if_neg hf];(repeat first|refine WK ?_|refine Ai λX=>?_|refine Ay λY=>?_);exact jn v ⟨hvs,rfl⟩
  rintro w ⟨hws,hw0⟩;rw[<-hw0]at hfold;clear hw0 hrow y hy h1 h2;(repeat first|(refine AOps.gN ?_;first|refine AOps.p (AG (((b-i2:Nat):Int)) (by omega) (by omega) rfl rfl) rfl ?_)|refine WK ?_|refine Ai λX=>?_|refine Ay λY=>?_);refine GX (λz:Array Int=>z.size=d.size/\z=fixUp ltInt b i2 w) (λz=>⟨[(0,.sl X 0 n),(1,iA a),(2,iA b),(7,iA i2),(8,iA c)],(X,.row 3 1 (z.toList.map iA))::Sf⟩) ?_ ?_
  ·unfold fixUp
   refine AWP.cond rfl (λhf=>?_) (λhf=>?_)
   ·have hf:b-i2>=2:=by have:=of_decide_eq_true hf;omega
    rw[if_pos hf];(repeat first|(refine AOps.gN ?_;first|refine AOps.p (AR (((i2+1:Nat):Int)) (by omega) (by omega) rfl rfl) rfl ?_)|refine WK ?_|refine Ai λX=>?_|refine Ay λY=>?_);refine BP (λ(k:Nat) (z:Array Int)=>⟨[(0,.sl X 0 n),(1,iA a),(2,iA b),(7,iA i2),(8,iA c),(10,iA k)],(X,.row 3 1 (z.toList.map iA))::Sf⟩) (λk z=>i2<k/\k<=b/\z.size=d.size/\shiftUp ltInt b k z=shiftUp ltInt b (i2+1) w) (λk _=>b-k) (i2+1) w ⟨by omega,by omega,hws,rfl⟩ ?_;rintro k z ⟨hik,hkb,hz1,hk⟩;rw[shiftUp]at hk;(repeat first|refine WK ?_|refine Ai λX=>?_|refine Ay λY=>?_);refine AWP.cond rfl (λhg=>?_) (λhg=>?_)
    ·have hg:k<b:=by have:=of_decide_eq_true hg;omega
     rw[if_pos hg]at hk;have h1:=AJ iA (d:=z) (i:=k) (by omega);have h2:=AJ iA (d:=z) (i:=k-1) (by omega);have hl:=An (z[k]!) (z[k-1]!);(repeat refine WF ?_);refine RU ?_;(repeat first|(refine RGo.gN ?_;first|(refine RGo.g_callf ?_;first|refine RGo.c2 (h:=(hl ..)) (k:=?_))|refine RGo.go (h:=AG (((k-1:Nat):Int)) (by omega) (by omega) rfl rfl) (k:=?_))|(refine AL ?_;first|(refine RGo.g_callf ?_;first|refine RGo.c2 (h:=(hl ..)) (k:=?_))|refine RGo.go (h:=AG (((k-1:Nat):Int)) (by omega) (by omega) rfl rfl) (k:=?_))|refine RK ?_|refine RGo.nil (by kernel_rfl) ?_);(repeat refine WF ?_);refine AWP.cond rfl (λhd=>?_) (λhd=>?_)
     ·have hd:(!ltInt z[k]! z[k-1]!)=true:=by simpa[BD]using hd
      rw[if_pos hd]at hk;(repeat first|refine WK ?_|refine Ai λX=>?_|refine Ay λY=>?_);exact jn z ⟨hz1,hk⟩
     ·have hd:(!ltInt z[k]! z[k-1]!)=false:=by simpa[BD]using hd
      rw[if_neg (by rw[hd];simp)]at hk;obtain⟨y,hy⟩:=Ag iA (d:=z) (i:=k) (j:=k-1) (by omega) z[k-1]!;(repeat refine WF ?_);refine RU ?_;(repeat first|(refine RGo.gN ?_;first|refine RGo.go (h:=AG (((k-1:Nat):Int)) (by omega) (by omega) rfl rfl) (k:=?_)|refine RGo.s (W.store rfl rfl (by exact At.f) hy (by exact rfl)) rfl ?_)|(refine AL ?_;first|refine RGo.go (h:=AG (((k-1:Nat):Int)) (by omega) (by omega) rfl rfl) (k:=?_)|refine RGo.s (W.store rfl rfl (by exact At.f) hy (by exact rfl)) rfl ?_)|refine RK ?_|refine RGo.nil (by kernel_rfl) ?_);(repeat first|refine WK ?_|refine Ai λX=>?_|refine Ay λY=>?_);refine Aw (k+1) (swp z k (k-1)) ⟨by omega,by omega,by rw[size_swp];exact hz1,hk⟩ (h0:=by rw[<-Ao iA (by omega) (by omega)];exact⟨by exact Lk.f,by exact Sub.f⟩)
    ·have hg:¬k<b:=by have:=of_decide_eq_false hg;omega
     rw[if_neg hg]at hk;(repeat first|refine WK ?_|refine Ai λX=>?_|refine Ay λY=>?_);exact jn z ⟨hz1,hk⟩
   ·have hf:¬b-i2>=2:=by have:=of_decide_eq_false hf;omega
    rw[if_neg hf];(repeat first|refine WK ?_|refine Ai λX=>?_|refine Ay λY=>?_);exact jn w ⟨hws,rfl⟩
  rintro z ⟨hzs,hz0⟩;rw[<-hz0]at hfold;(repeat first|refine WK ?_|refine Ai λX=>?_|refine Ay λY=>?_);refine BM (c+1) i2 z ⟨by omega,by omega,by omega,hzs,by rw[show 5-(c+1)=s by omega];exact hfold⟩
 ·have h:c=5:=by have:=of_decide_eq_false hc;omega
  subst h;rw[show 5-5=0 from rfl,partialIns]at hfold;subst hfold;(repeat first|refine WK ?_|refine Ai λX=>?_|refine Ay λY=>?_);refine RT ?_;exact AW [bA false] [(X,_)] ⟨rfl,rfl⟩
end
section
open Go.Sort
def lenTab:List UInt8:=(List.range 256).map λn=>UInt8.ofNat (if n=0 then 0 else Nat.log2 n+1)
theorem GE{n:Nat}(h:n<256):((lenTab.getD n 0).toNat:Int)=bitsLen n:=by
 have h1:lenTab.getD n 0=UInt8.ofNat (bitsLen n):=by
  unfold lenTab;rw[List.getD_eq_getElem?_getD,List.getElem?_map,List.getElem?_range h];rfl
 have h2:bitsLen n<=8:=(bitsLen_le_iff n 8).2 (by omega);rw[h1,UInt8.toNat_ofNat'];omega
theorem FP:lenTab.length=256:=by simp[lenTab]
theorem Dk{x:Nat}(h:256<=x):bitsLen (x/256)+8=bitsLen x:=by
 have a:=(bitsLen_le_iff (x/256) (bitsLen x-8)).2 (by
  have h1:=lt_two_pow_bitsLen x
  have h2:8<bitsLen x:=by
   have:=(bitsLen_le_iff x 8);omega
  have h3:2^bitsLen x=2^(bitsLen x-8)*256:=by rw[show(256:Nat)=2^8 from rfl,<-Nat.pow_add];congr 1;omega
  omega)
 have b:=(bitsLen_le_iff x (bitsLen (x/256)+8)).2 (by
  have h1:=lt_two_pow_bitsLen (x/256);rw[Nat.pow_add];omega)
 have h2:8<bitsLen x:=by
  have:=(bitsLen_le_iff x 8);omega
 omega
set_option maxRecDepth 100000 in
theorem Gz(x:UInt64)(hx:x.toNat<65536):PS Try.prog 93 [uA x] (iA (bitsLen x.toNat)):=by
 refine Spec.of (nt:=25) (res:=[.tmp 2]) Try.func93 rfl (by kernel_rfl) rfl rfl rfl λSf=>?_
 (repeat first|refine WK ?_|refine Ai λX=>?_|refine Ay λY=>?_);refine AH rfl (decide_eq_false (by omega)) ?_;(repeat first|refine WK ?_|refine Ai λX=>?_|refine Ay λY=>?_);refine AH rfl (decide_eq_false (by omega)) ?_;(repeat first|refine WK ?_|refine Ai λX=>?_|refine Ay λY=>?_);refine AY (λb:UInt64×Nat=>b.1.toNat<256/\bitsLen b.1.toNat+b.2=bitsLen x.toNat/\b.2<=8) (λb=>⟨[(0,uA b.1),(2,iA b.2)],Sf⟩) ?_ ?_
 ·refine AWP.cond rfl (λh=>?_) (λh=>?_)
  ·have h:256<=x.toNat:=by have:=of_decide_eq_true h;omega
   have hs:(x>>>UInt64.ofNat 8).toNat=x.toNat/256:=by
    rw[UInt64.toNat_shiftRight,UInt64.toNat_ofNat',show 8%2^64%64=8 from rfl,Nat.shiftRight_eq_div_pow]
   (repeat first|(refine AOps.gN ?_;first|refine AOps.p (Fa 8 (by omega) rfl rfl rfl) rfl ?_)|refine WK ?_|refine Ai λX=>?_|refine Ay λY=>?_);refine jn (x>>>UInt64.ofNat 8,8) ⟨by dsimp only;omega,?_,by(try dsimp only);omega⟩;dsimp only;rw[hs];exact Dk h
  ·have h:¬256<=x.toNat:=by have:=of_decide_eq_false h;omega
   (repeat first|refine WK ?_|refine Ai λX=>?_|refine Ay λY=>?_);exact jn (x,0) ⟨by dsimp only;omega,rfl,by(try dsimp only);omega⟩
 ·rintro⟨u,m⟩ ⟨h1,h2,h3⟩
  dsimp only at h1 h2 h3⊢;have hw:IntKind.u8.wrap ((u.toNat:Nat):Int)=((u.toNat:Nat):Int):=by rw[IntKind.wrap_u8'];omega
  have hat:=GE h1;have hb8:bitsLen u.toNat<=8:=(bitsLen_le_iff _ 8).2 (by omega);have hw2:IntKind.i64.wrap ((lenTab.getD u.toNat 0).toNat:Int)=((bitsLen u.toNat:Nat):Int):=by rw[hat];exact CH (by omega) (by omega)
  (repeat first|(refine AOps.gN ?_;first|refine AOps.p (W.convW .u64 .u8 _ (by kernel_rfl) (by kernel_rfl) hw rfl) rfl ?_|refine AOps.p (W.idxStr (s:=lenTab) (a:=u.toNat) (by kernel_rfl) rfl rfl (by rw[FP];exact h1)) rfl ?_|refine AOps.p (W.convW .u8 .i64 _ (by kernel_rfl) (by kernel_rfl) hw2 rfl) rfl ?_|refine AOps.p (AR ((bitsLen x.toNat:Nat):Int) (by omega) (by omega) rfl rfl) rfl ?_)|refine WK ?_|refine Ai λX=>?_|refine Ay λY=>?_);refine RT ?_;refine BC ?_;rfl
theorem Gy(x:UInt64)(hx:x.toNat<65536):PS Try.prog 72 [uA x] (iA (bitsLen x.toNat)):=by
 have h:=Gz x hx;refine Spec.of (nt:=8) (res:=[.tmp 2]) Try.func72 rfl (by kernel_rfl) rfl rfl rfl λSf=>?_
 (repeat first|refine WK ?_|refine Ai λX=>?_|refine Ay λY=>?_);refine AH rfl rfl ?_;(repeat first|(refine AOps.gN ?_;first|(refine AOps.g_callf ?_;first|refine Bi (h:=(h ..)) (k:=?_)))|refine WK ?_|refine Ai λX=>?_|refine Ay λY=>?_);refine RT ?_;refine BC ?_;rfl
theorem FN(n:Nat)(hn:n<65536):PS Try.prog 102 [iA n] (uA ((1:UInt64)<<<UInt64.ofNat (bitsLen n))):=by
 have e:(UInt64.ofNat n).toNat=n:=by rw[UInt64.toNat_ofNat'];omega
 have h:=Gy (UInt64.ofNat n) (by rw[e];exact hn);rw[e]at h;have hb:bitsLen n<=16:=(bitsLen_le_iff n 16).2 (by omega);refine Spec.of (nt:=7) (res:=[.tmp 2]) Try.func102 rfl (by kernel_rfl) rfl rfl rfl λSf=>?_
 (repeat first|(refine AOps.gN ?_;first|(refine AOps.g_callf ?_;first|refine Bi (h:=(h ..)) (k:=?_))|refine AOps.p (FZ .i64 n rfl (by omega) (by kernel_rfl) (by kernel_rfl) rfl) rfl ?_|refine AOps.p (Dl (a:=1) (bitsLen n) (by omega) rfl rfl rfl) rfl ?_)|refine WK ?_|refine Ai λX=>?_|refine Ay λY=>?_);refine RT ?_;refine BC ?_;rfl
theorem FF(Y:Nat)(s:UInt64):Spec Try.prog 103 [.ptr Y 0 0] [(Y,.row 152 1 [uA s])] λr S'=>∃v:UInt64,True/\r=uA v/\S'=[(Y,.row 152 1 [uA v])]:=by
 refine Spec.of (nt:=33) (res:=[.tmp 2]) Try.func103 rfl (by kernel_rfl) rfl rfl rfl λSf=>?_
 refine RG ?_;(repeat first|refine WO ?_|refine Ai λX=>?_|refine Ay λY=>?_);refine NL ?_;refine RU ?_;(repeat first|(refine RGo.gN ?_;first|refine RGo.p (Dl 13 (by omega) rfl rfl rfl) rfl ?_|refine RGo.p (C7 rfl rfl) rfl ?_)|(refine AL ?_;first|refine RGo.p (Dl 13 (by omega) rfl rfl rfl) rfl ?_|refine RGo.p (C7 rfl rfl) rfl ?_)|refine RK ?_|refine RGo.nil (by kernel_rfl) ?_);(repeat refine WF ?_);refine RU ?_;(repeat first|(refine RGo.gN ?_;first|refine RGo.p (Fa 7 (by omega) rfl rfl rfl) rfl ?_|refine RGo.p (C7 rfl rfl) rfl ?_)|(refine AL ?_;first|refine RGo.p (Fa 7 (by omega) rfl rfl rfl) rfl ?_|refine RGo.p (C7 rfl rfl) rfl ?_)|refine RK ?_|refine RGo.nil (by kernel_rfl) ?_);(repeat refine WF ?_);refine RU ?_;(repeat first|(refine RGo.gN ?_;first|refine RGo.p (Dl 17 (by omega) rfl rfl rfl) rfl ?_|refine RGo.p (C7 rfl rfl) rfl ?_)|(refine AL ?_;first|refine RGo.p (Dl 17 (by omega) rfl rfl rfl) rfl ?_|refine RGo.p (C7 rfl rfl) rfl ?_)|refine RK ?_|refine RGo.nil (by kernel_rfl) ?_);(repeat first|refine WK ?_|refine Ai λX=>?_|refine Ay λY=>?_);refine RT ?_;exact AW [uA _] [(Y,_)] ⟨_,trivial,rfl,rfl⟩
end
section
open Go.Sort
set_option maxHeartbeats 1000000 in
theorem Hj(X n:Nat)(d:Array Int)(a b:Nat)(hn:n=d.size)(hab:a<=b)(hb:b<=d.size)(hz:d.size<65536):Spec Try.prog 86 [.sl X 0 n,iA a,iA b] [(X,.row 3 1 (d.toList.map iA))] λr S'=>∃u:Array Int,PermIn a b d u/\r= .tup []/\S'=[(X,.row 3 1 (u.toList.map iA))]:=by
 obtain⟨l,hl⟩:∃l,b-a=l:=⟨_,rfl⟩;refine Spec.of (nt:=65) (res:=[]) Try.func86 rfl (by kernel_rfl) rfl rfl rfl λSf=>?_
 (repeat first|(refine AOps.gN ?_;first|refine AOps.p (AG ((l:Int)) (by omega) (by omega) rfl rfl) rfl ?_)|refine WK ?_|refine Ai λX=>?_|refine Ay λY=>?_);refine AWP.cond rfl (λh8=>?_) (λh8=>?_)
 ·have h8:8<=l:=by have:=of_decide_eq_true h8;omega
  have hnp:=FN l (by omega);have hbl:bitsLen l<=16:=(bitsLen_le_iff l 16).2 (by omega);have hm2:=two_pow_bitsLen_le (n:=l) (by omega);obtain⟨m,hm⟩:∃m,(1:UInt64)<<<UInt64.ofNat (bitsLen l)=m:=⟨_,rfl⟩
  have hmn:m.toNat=2^bitsLen l:=by
   have:2^bitsLen l<=2^16:=Nat.pow_le_pow_right (by decide) hbl;rw[<-hm,UInt64.toNat_shiftLeft,UInt64.toNat_ofNat',show bitsLen l%2^64%64=bitsLen l by omega,Nat.shiftLeft_eq,show(1:UInt64).toNat=1 from rfl];omega
  rw[hm]at hnp;have hp1:1<=2^bitsLen l:=Nat.one_le_two_pow;(repeat first|(refine AOps.gN ?_;first|(refine AOps.g_callf ?_;first|refine Bi (h:=(hnp ..)) (k:=?_))|refine AOps.p (FZ .i64 l rfl (by omega) (by kernel_rfl) (by kernel_rfl) rfl) rfl ?_|refine AOps.p (Dm l 4 (l/4) rfl rfl (by omega) rfl (by omega) rfl rfl) rfl ?_|refine AOps.p (C8 ((l/4*2:Nat):Int) (by omega) (by omega) rfl rfl) rfl ?_|refine AOps.p (AR (((a+l/4*2:Nat):Int)) (by omega) (by omega) rfl rfl) rfl ?_|refine AOps.p (AG (((a+l/4*2-1:Nat):Int)) (by omega) (by omega) rfl rfl) rfl ?_)|refine WK ?_|refine Ai λV=>?_|refine Ay λY=>?_);refine Bw (λ(k:Nat) (s:UInt64) (u:Array Int)=>⟨[(0,.sl X 0 n),(1,iA a),(6,iA l),(7,.ptr V 0 0),(8,uA m),(9,iA k)],(V,.row 152 1 [uA s])::(X,.row 3 1 (u.toList.map iA))::Sf⟩) (λk s u=>a<=k/\k<=a+l/4*2+2/\PermIn a b d u) (λk _ _=>a+l/4*2+2-k) (a+l/4*2-1) (UInt64.ofNat l) d ⟨by omega,by omega,permIn_refl _ _ _⟩ ?_;rintro k s u ⟨hak,hkl,hP⟩;have hu:u.size=d.size:=hP.1;(repeat first|(refine AOps.gN ?_;first|refine AOps.p (Dm l 4 (l/4) rfl rfl (by omega) rfl (by omega) rfl rfl) rfl ?_|refine AOps.p (C8 ((l/4*2:Nat):Int) (by omega) (by omega) rfl rfl) rfl ?_|refine AOps.p (AR (((a+l/4*2:Nat):Int)) (by omega) (by omega) rfl rfl) rfl ?_|refine AOps.p (AR (((a+l/4*2+1:Nat):Int)) (by omega) (by omega) rfl rfl) rfl ?_)|refine WK ?_|refine Ai λX=>?_|refine Ay λY=>?_);refine AWP.cond rfl (λhc=>?_) (λhc=>?_)
  ·have hk1:k<=a+l/4*2+1:=by have:=of_decide_eq_true hc;omega
   have hkb:k<b:=by omega
   refine AWP.skip ?_;refine Ae ?_;refine AWP.seq ?_;refine AWP.block ?_;refine AWP.seq ?_;refine RG ?_;(repeat first|(refine AOps.gN ?_;first|(refine AOps.g_callf ?_;first|refine HT (h:=FF V s) (k:=λv _=>?_)))|refine WO ?_|refine Ai λX=>?_|refine Ay λY=>?_)
   have hvb:(v&&&(m-1)).toNat<2*l:=by
    rw[UInt64.toNat_and,UInt64.toNat_sub_of_le _ _ (by rw[UInt64.le_iff_toNat_le,hmn];exact hp1),hmn];have:=Nat.and_le_right (n:=v.toNat) (m:=2^bitsLen l-(1:UInt64).toNat);have e:(1:UInt64).toNat=1:=rfl;omega
   (repeat first|(refine AOps.gN ?_;first|refine AOps.p (H5 (b:=1) rfl rfl) rfl ?_|refine AOps.p (H7 rfl rfl) rfl ?_|refine AOps.p (H6 .u64 (by omega) (by kernel_rfl) (by kernel_rfl) rfl) rfl ?_)|refine WO ?_|refine Ai λX=>?_|refine Ay λY=>?_);refine AOps.nil ?_
   (repeat (first|refine AWP.skip ?_|refine Ae ?_|refine AWP.seq ?_))
   obtain⟨o,ho⟩:∃o,(v&&&(m-1)).toNat=o:=⟨_,rfl⟩;refine ET [(0,.sl X 0 n),(1,iA a),(6,iA l),(7,.ptr V 0 0),(8,uA m),(9,iA k),(10,iA o)] ((V,.row 152 1 [uA v])::(X,.row 3 1 (u.toList.map iA))::Sf) ?_ (h:=by rw[<-ho];exact⟨by exact Lk.f,by exact Sub.f⟩);rw[ho]at hvb;(repeat first|refine WK ?_|refine Ai λX=>?_|refine Ay λY=>?_);refine AY (λo:Nat=>o<l) (λo=>⟨[(0,.sl X 0 n),(1,iA a),(6,iA l),(7,.ptr V 0 0),(8,uA m),(9,iA k),(10,iA o)],(V,.row 152 1 [uA v])::(X,.row 3 1 (u.toList.map iA))::Sf⟩) ?_ ?_
   ·refine AWP.cond rfl (λhd=>?_) (λhd=>?_)
    ·have hd:l<=o:=by have:=of_decide_eq_true hd;omega
     (repeat first|(refine AOps.gN ?_;first|refine AOps.p (AG (((o-l:Nat):Int)) (by omega) (by omega) rfl rfl) rfl ?_)|refine WK ?_|refine Ai λX=>?_|refine Ay λY=>?_);exact jn (o-l) (by omega)
    ·have hd:¬l<=o:=by have:=of_decide_eq_false hd;omega
     (repeat first|refine WK ?_|refine Ai λX=>?_|refine Ay λY=>?_);exact jn o (by omega)
   rintro o hol;have h1:=AJ iA (d:=u) (i:=k) (by omega);have h2:=AJ iA (d:=u) (i:=a+o) (by omega);obtain⟨y,hy⟩:=Ag iA (d:=u) (i:=k) (j:=a+o) (by omega) u[a+o]!;(repeat refine WF ?_);refine RU ?_;(repeat first|(refine RGo.gN ?_;first|refine RGo.go (h:=AR (((a+o:Nat):Int)) (by omega) (by omega) rfl rfl) (k:=?_)|refine RGo.s (W.store rfl rfl (by exact At.f) hy (by exact rfl)) rfl ?_)|(refine AL ?_;first|refine RGo.go (h:=AR (((a+o:Nat):Int)) (by omega) (by omega) rfl rfl) (k:=?_)|refine RGo.s (W.store rfl rfl (by exact At.f) hy (by exact rfl)) rfl ?_)|refine RK ?_|refine RGo.nil (by kernel_rfl) ?_);(repeat first|refine WK ?_|refine Ai λX=>?_|refine Ay λY=>?_);refine BM (k+1) v (swp u k (a+o)) ⟨by omega,by omega,permIn_trans _ _ _ _ _ hP (swp_permIn _ _ _ _ _ (by omega) (by omega) (by omega) (by omega) (by omega))⟩ (h0:=by rw[<-Ao iA (by omega) (by omega)];exact⟨by exact Lk.f,by exact Sub.f⟩)
  ·(repeat first|refine WK ?_|refine Ai λX=>?_|refine Ay λY=>?_)
   refine Bs ?_;exact Aa [(X,.row 3 1 (u.toList.map iA))] ⟨u,hP,rfl,rfl⟩
 ·(repeat first|refine WK ?_|refine Ai λX=>?_|refine Ay λY=>?_)
  refine Bs ?_;exact Aa [(X,.row 3 1 (d.toList.map iA))] ⟨d,permIn_refl _ _ _,rfl,rfl⟩
end
section
open Go.Sort
set_option maxHeartbeats 1000000 in
theorem Cd(X Y n:Nat)(d:Array Int)(a b s:Nat)(hn:n=d.size)(ha:a<d.size)(hb:b<d.size)(hs:s<=1099511627776):Spec Try.prog 116 [.sl X 0 n,iA a,iA b,.ptr Y 0 0] [(X,.row 3 1 (d.toList.map iA)),(Y,.row 3 1 [iA s])] λr S'=>r= .tup [iA (order2 ltInt d a b s).1,iA (order2 ltInt d a b s).2.1]/\S'=[(X,.row 3 1 (d.toList.map iA)),(Y,.row 3 1 [iA (order2 ltInt d a b s).2.2])]:=by
 subst hn;have h1:=AJ iA ha;have h2:=AJ iA hb;have hl:=An (d[b]!) (d[a]!);refine Spec.of (nt:=28) (res:=[.tmp 8,.tmp 9]) Try.func116 rfl (by kernel_rfl) rfl rfl rfl λSf=>?_
 unfold order2;refine RG ?_;(repeat first|refine WO ?_|refine Ai λX=>?_|refine Ay λY=>?_);refine NL ?_;refine RU ?_;(repeat first|(refine RGo.gN ?_;first|(refine RGo.g_callf ?_;first|refine RGo.c2 (h:=(hl ..)) (k:=?_)))|(refine AL ?_;first|(refine RGo.g_callf ?_;first|refine RGo.c2 (h:=(hl ..)) (k:=?_)))|refine RK ?_|refine RGo.nil (by kernel_rfl) ?_);(repeat refine WF ?_);refine AWP.cond rfl (λhc=>?_) (λhc=>?_)
 ·have hc:ltInt d[b]! d[a]! =true:=by simpa[BD]using hc
  rw[if_pos hc];(repeat first|refine WK ?_|refine Ai λX=>?_|refine Ay λY=>?_);refine RT ?_;exact AW [iA b,iA a] [(X,_),(Y,_)] ⟨rfl,rfl⟩
 ·have hc:ltInt d[b]! d[a]! =false:=by simpa[BD]using hc
  rw[if_neg (by simp[hc])];(repeat first|refine WK ?_|refine Ai λX=>?_|refine Ay λY=>?_);refine RT ?_;exact AW [iA a,iA b] [(X,_),(Y,_)] ⟨rfl,rfl⟩
set_option maxHeartbeats 1000000 in
theorem Da(X Y n:Nat)(d:Array Int)(a b c s:Nat)(hn:n=d.size)(ha:a<d.size)(hb:b<d.size)(hc:c<d.size)(hs:s<=1099511627000):Spec Try.prog 105 [.sl X 0 n,iA a,iA b,iA c,.ptr Y 0 0] [(X,.row 3 1 (d.toList.map iA)),(Y,.row 3 1 [iA s])] λr S'=>r=iA (median ltInt d a b c s).1/\S'=[(X,.row 3 1 (d.toList.map iA)),(Y,.row 3 1 [iA (median ltInt d a b c s).2])]:=by
 obtain⟨m,hm⟩:∃m,median ltInt d a b c s=m:=⟨_,rfl⟩;rw[hm];unfold median at hm;have l1:=Cy ltInt d a b s _ ha hb;have e1:=Bm ltInt d a b s;have h1:=Cd X Y n d a b s hn ha hb (by omega);obtain⟨⟨a1,b1,s1⟩,hr1⟩:∃r,order2 ltInt d a b s=r:=⟨_,rfl⟩;rw[hr1]at h1 hm l1 e1;dsimp only at h1 hm l1 e1;have l2:=Cy ltInt d b1 c s1 _ l1.2 hc;have e2:=Bm ltInt d b1 c s1;have h2:=Cd X Y n d b1 c s1 hn l1.2 hc (by omega);obtain⟨⟨b2,c2,s2⟩,hr2⟩:∃r,order2 ltInt d b1 c s1=r:=⟨_,rfl⟩;rw[hr2]at h2 hm l2 e2;dsimp only at h2 hm l2 e2;have l3:=Cy ltInt d a1 b2 s2 _ l1.1 l2.1;have h3:=Cd X Y n d a1 b2 s2 hn l1.1 l2.1 (by omega);obtain⟨⟨a3,b3,s3⟩,hr3⟩:∃r,order2 ltInt d a1 b2 s2=r:=⟨_,rfl⟩;rw[hr3]at h3 hm l3;dsimp only at h3 hm l3;subst hm;refine Spec.of (nt:=36) (res:=[.tmp 10]) Try.func105 rfl (by kernel_rfl) rfl rfl rfl λSf=>?_
 (repeat first|(refine AOps.gN ?_;first|(refine AOps.g_callf ?_;first|refine EU (h:=h1) (hT:=.fz) (k:=?_)|refine EU (h:=h2) (hT:=.fz) (k:=?_)|refine EU (h:=h3) (hT:=.fz) (k:=?_)))|refine WK ?_|refine Ai λX=>?_|refine Ay λY=>?_);refine RT ?_;exact AW [iA b3] [(X,_),(Y,_)] ⟨rfl,rfl⟩
set_option maxHeartbeats 1000000 in
theorem Ce(X Y n:Nat)(d:Array Int)(a s:Nat)(hn:n=d.size)(ha:a+1<d.size)(h0:0<a)(hz:d.size<=1099511627776)(hs:s<=1099511627000):Spec Try.prog 104 [.sl X 0 n,iA a,.ptr Y 0 0] [(X,.row 3 1 (d.toList.map iA)),(Y,.row 3 1 [iA s])] λr S'=>r=iA (medianAdjacent ltInt d a s).1/\S'=[(X,.row 3 1 (d.toList.map iA)),(Y,.row 3 1 [iA (medianAdjacent ltInt d a s).2])]:=by
 have h1:=Da X Y n d (a-1) a (a+1) s hn (by omega) (by omega) ha hs;unfold medianAdjacent;refine Spec.of (nt:=15) (res:=[.tmp 6]) Try.func104 rfl (by kernel_rfl) rfl rfl rfl λSf=>?_
 (repeat first|(refine AOps.gN ?_;first|(refine AOps.g_callf ?_;first|refine Fs (h:=h1) (hT:=.fz) (k:=?_))|refine AOps.p (AG ((a-1:Nat):Int) (by omega) (by omega) rfl rfl) rfl ?_|refine AOps.p (AR ((a+1:Nat):Int) (by omega) (by omega) rfl rfl) rfl ?_)|refine WK ?_|refine Ai λX=>?_|refine Ay λY=>?_);refine RT ?_;exact AW [iA _] [(X,_),(Y,_)] ⟨rfl,rfl⟩
set_option maxHeartbeats 1000000 in
theorem DI(X n:Nat)(d:Array Int)(a b:Nat)(hn:n=d.size)(hab:a<b)(hb:b<=d.size)(hz:d.size<=1099511627776):PO Try.prog 87 [.sl X 0 n,iA a,iA b] X (.row 3 1 (d.toList.map iA)) (.tup [iA (choosePivot ltInt d a b).1,iA (Hw (choosePivot ltInt d a b).2)]) (.row 3 1 (d.toList.map iA)):=by
 obtain⟨c,hc⟩:∃c,choosePivot ltInt d a b=c:=⟨_,rfl⟩;rw[hc];unfold choosePivot at hc;obtain⟨l,hl⟩:∃l,b-a=l:=⟨_,rfl⟩;obtain⟨i,hi⟩:∃i,a+l/4*1=i:=⟨_,rfl⟩;obtain⟨j,hj⟩:∃i,a+l/4*2=i:=⟨_,rfl⟩;obtain⟨k,hk⟩:∃i,a+l/4*3=i:=⟨_,rfl⟩;rw[hl]at hc;dsimp only at hc;rw[hi,hj,hk]at hc;refine Spec.of (nt:=57) (res:=[.tmp 6,.tmp 7]) Try.func87 rfl (by kernel_rfl) rfl rfl rfl λSf=>?_
 have hlb:l<=1099511627776:=by omega
 (repeat first|(refine AOps.gN ?_;first|refine AOps.p (AG (l:Int) (by omega) (by omega) rfl rfl) rfl ?_|refine AOps.p (Dm l 4 (l/4) rfl rfl (by omega) rfl (by omega) rfl rfl) rfl ?_|refine AOps.p (C8 ((l/4*1:Nat):Int) (by omega) (by omega) rfl rfl) rfl ?_|refine AOps.p (C8 ((l/4*2:Nat):Int) (by omega) (by omega) rfl rfl) rfl ?_|refine AOps.p (C8 ((l/4*3:Nat):Int) (by omega) (by omega) rfl rfl) rfl ?_|refine AOps.p (AR (i:Int) (by omega) (by omega) rfl rfl) rfl ?_|refine AOps.p (AR (j:Int) (by omega) (by omega) rfl rfl) rfl ?_|refine AOps.p (AR (k:Int) (by omega) (by omega) rfl rfl) rfl ?_)|refine WK ?_|refine Ai λV=>?_|refine Ay λY=>?_);refine AY (λb:Nat×Nat=>c=(b.1,if b.2=0 then Hint.increasing else if b.2=12 then Hint.decreasing else Hint.unknown)) (λb=>⟨[(0,.sl X 0 n),(9,.ptr V 0 0),(11,iA b.1)],(V,.row 3 1 [iA b.2])::(X,.row 3 1 (d.toList.map iA))::Sf⟩) ?_ ?_
 ·refine AWP.cond rfl (λh8=>?_) (λh8=>?_)
  ·have h8:l>=8:=by have:=of_decide_eq_true h8;omega
   rw[if_pos h8]at hc;(repeat first|refine WK ?_|refine Ai λX=>?_|refine Ay λY=>?_);refine AY (λb:Nat×Nat×Nat×Nat=>b.1<d.size/\b.2.1<d.size/\b.2.2.1<d.size/\b.2.2.2<=100/\(if l>=50 then median ltInt d (medianAdjacent ltInt d i 0).1 (medianAdjacent ltInt d j (medianAdjacent ltInt d i 0).2).1 (medianAdjacent ltInt d k (medianAdjacent ltInt d j (medianAdjacent ltInt d i 0).2).2).1 (medianAdjacent ltInt d k (medianAdjacent ltInt d j (medianAdjacent ltInt d i 0).2).2).2 else median ltInt d i j k 0)=median ltInt d b.1 b.2.1 b.2.2.1 b.2.2.2) (λb=>⟨[(0,.sl X 0 n),(9,.ptr V 0 0),(10,iA b.1),(11,iA b.2.1),(12,iA b.2.2.1)],(V,.row 3 1 [iA b.2.2.2])::(X,.row 3 1 (d.toList.map iA))::Sf⟩) ?_ ?_
   ·refine AWP.cond rfl (λh50=>?_) (λh50=>?_)
    ·have h50:l>=50:=by have:=of_decide_eq_true h50;omega
     have a1:=C0 ltInt d i 0 _ (show i+1<d.size by omega);have b1:=Cz ltInt d (i-1) i (i+1) 0;have s1:=Ce X V n d i 0 hn (by omega) (by omega) hz (by omega);rw[if_pos h50];have e1:(median ltInt d (i-1) i (i+1) 0).2=(medianAdjacent ltInt d i 0).2:=rfl;rw[e1]at b1;obtain⟨⟨p1,q1⟩,r1⟩:∃r,medianAdjacent ltInt d i 0=r:=⟨_,rfl⟩;rw[r1]at a1 b1 s1⊢;dsimp only at a1 b1 s1⊢;have a2:=C0 ltInt d j q1 _ (show j+1<d.size by omega);have b2:=Cz ltInt d (j-1) j (j+1) q1;have s2:=Ce X V n d j q1 hn (by omega) (by omega) hz (by omega);have e2:(median ltInt d (j-1) j (j+1) q1).2=(medianAdjacent ltInt d j q1).2:=rfl;rw[e2]at b2;obtain⟨⟨p2,q2⟩,r2⟩:∃r,medianAdjacent ltInt d j q1=r:=⟨_,rfl⟩;rw[r2]at a2 b2 s2⊢;dsimp only at a2 b2 s2⊢;have a3:=C0 ltInt d k q2 _ (show k+1<d.size by omega);have b3:=Cz ltInt d (k-1) k (k+1) q2;have s3:=Ce X V n d k q2 hn (by omega) (by omega) hz (by omega);have e3:(median ltInt d (k-1) k (k+1) q2).2=(medianAdjacent ltInt d k q2).2:=rfl;rw[e3]at b3;obtain⟨⟨p3,q3⟩,r3⟩:∃r,medianAdjacent ltInt d k q2=r:=⟨_,rfl⟩;rw[r3]at a3 b3 s3⊢;dsimp only at a3 b3 s3⊢;(repeat first|(refine AOps.gN ?_;first|(refine AOps.g_callf ?_;first|refine EV (h:=s1) (hT:=.fz) (k:=?_)|refine EV (h:=s2) (hT:=.fz) (k:=?_)|refine EV (h:=s3) (hT:=.fz) (k:=?_)))|refine WK ?_|refine Ai λX=>?_|refine Ay λY=>?_);refine jn (p1,p2,p3,q3) ⟨a1,a2,a3,by dsimp only;omega,rfl⟩
    ·have h50:¬l>=50:=by have:=of_decide_eq_false h50;omega
     rw[if_neg h50];(repeat first|refine WK ?_|refine Ai λX=>?_|refine Ay λY=>?_);refine jn (i,j,k,0) ⟨by dsimp only;omega,by dsimp only;omega,by dsimp only;omega,by dsimp only;omega,rfl⟩
   ·rintro⟨p1,p2,p3,q⟩ ⟨l1,l2,l3,lq,e⟩
    dsimp only at l1 l2 l3 lq e⊢;rw[e]at hc;have h1:=Da X V n d p1 p2 p3 q hn l1 l2 l3 (by omega);obtain⟨⟨r1,r2⟩,hr⟩:∃r,median ltInt d p1 p2 p3 q=r:=⟨_,rfl⟩;rw[hr]at hc h1;dsimp only at h1;(repeat first|(refine AOps.gN ?_;first|(refine AOps.g_callf ?_;first|refine Fs (h:=h1) (hT:=.fz) (k:=?_)))|refine WK ?_|refine Ai λX=>?_|refine Ay λY=>?_);refine jn (r1,r2) hc.symm
  ·have h8:¬l>=8:=by have:=of_decide_eq_false h8;omega
   rw[if_neg h8]at hc;(repeat first|refine WK ?_|refine Ai λX=>?_|refine Ay λY=>?_);refine jn (j,0) hc.symm
 ·rintro⟨p,s⟩ hc
  dsimp only at hc⊢;subst hc;(repeat first|refine WK ?_|refine Ai λX=>?_|refine Ay λY=>?_);refine AWP.cond rfl (λh0=>?_) (λh0=>?_)
  ·have h0:s=0:=by have:=of_decide_eq_true h0;omega
   rw[if_pos h0];(repeat first|refine WK ?_|refine Ai λX=>?_|refine Ay λY=>?_);refine RT ?_;exact AW [iA p,iA 1] [(X,_)] ⟨rfl,rfl⟩
  ·have h0:¬s=0:=by have:=of_decide_eq_false h0;omega
   rw[if_neg h0];(repeat first|refine WK ?_|refine Ai λX=>?_|refine Ay λY=>?_);refine AWP.cond rfl (λh1=>?_) (λh1=>?_)
   ·have h1:s=12:=by have:=of_decide_eq_true h1;omega
    rw[if_pos h1];(repeat first|refine WK ?_|refine Ai λX=>?_|refine Ay λY=>?_);refine RT ?_;exact AW [iA p,iA 2] [(X,_)] ⟨rfl,rfl⟩
   ·have h1:¬s=12:=by have:=of_decide_eq_false h1;omega
    rw[if_neg h1];(repeat first|refine WK ?_|refine Ai λX=>?_|refine Ay λY=>?_);refine RT ?_;exact AW [iA p,iA 0] [(X,_)] ⟨rfl,rfl⟩
end
section
open Go.Sort
set_option maxHeartbeats 1000000 in
theorem Hc:∀(m X n:Nat) (d:Array Int) (a b limit:Nat),b-a<=m->n=d.size->a<=b->b<=d.size->d.size<65536->limit<=1000->Below ltInt a b d->Spec Try.prog 71 [.sl X 0 n,iA a,iA b,iA limit] [(X,.row 3 1 (d.toList.map iA))] λr S'=>∃u:Array Int,(PermIn a b d u/\SortedIn ltInt a b u)/\r= .tup []/\S'=[(X,.row 3 1 (u.toList.map iA))]:=by
 intro m
 induction m using Nat.strongRecOn with
 |_ m ih=>
 intro X n d a b limit hm hn hab hb hz hlim hB;refine Spec.of (nt:=134) (res:=[]) Try.func71 rfl (by kernel_rfl) rfl rfl rfl λSf=>?_
 (repeat first|refine WK ?_|refine Ai λX=>?_|refine Ay λY=>?_);refine Hp (λ(a b limit:Nat) (wb wp:Bool) (u:Array Int)=>⟨[(0,.sl X 0 n),(1,iA a),(2,iA b),(3,iA limit),(8,bA wb),(9,bA wp)],(X,.row 3 1 (u.toList.map iA))::Sf⟩) (λa' b' limit wb wp u=>a' <=b' /\b' <=d.size/\b'-a' <=b-a/\limit<=1000/\u.size=d.size/\Below ltInt a' b' u/\∀R,PermIn a' b' u R->SortedIn ltInt a' b' R->PermIn a b d R/\SortedIn ltInt a b R) (λa b _ _ _ _=>b-a) a b limit true true d ⟨hab,hb,Nat.le_refl _,hlim,rfl,hB,λR h1 h2=>⟨h1,h2⟩⟩ ?_;rintro a' b' limit wb wp u ⟨hab',hb',hmm,hlim,hu,hB',hG⟩;obtain⟨l,hl⟩:∃l,b'-a'=l:=⟨_,rfl⟩;refine AWP.block ?_;(repeat first|(refine AOps.gN ?_;first|refine AOps.p (AG ((l:Int)) (by omega) (by omega) rfl rfl) rfl ?_)|refine WK ?_|refine Ai λX=>?_|refine Ay λY=>?_);refine AWP.cond rfl (λhc=>?_) (λhc=>?_)
 ·have hs:=Hg X n u a' b' (by omega) hab' (by omega) (by omega)
  obtain⟨p1,p2⟩:=insertionSort_holds (lt:=ltInt) swo_ltInt u a' b' hab' (by omega);(repeat first|(refine AOps.gN ?_;first|(refine AOps.g_callf ?_;first|refine Cv (h:=(hs ..)) (k:=?_)))|refine WK ?_|refine Ai λX=>?_|refine Ay λY=>?_);refine RT ?_;exact Aa [(X,_)] ⟨_,hG _ p1 p2,rfl,rfl⟩
 have hl12:12<l:=by have:=of_decide_eq_false hc;omega
 (repeat first|refine WK ?_|refine Ai λX=>?_|refine Ay λY=>?_);refine AWP.cond rfl (λhc=>?_) (λhc=>?_)
 ·have hs:=G8 X n u a' b' (by omega) (by omega) (by omega) (by omega)
  obtain⟨p1,p2⟩:=heapSort_holds (lt:=ltInt) swo_ltInt u a' b' hab' (by omega);(repeat first|(refine AOps.gN ?_;first|(refine AOps.g_callf ?_;first|refine Cv (h:=(hs ..)) (k:=?_)))|refine WK ?_|refine Ai λX=>?_|refine Ay λY=>?_);refine RT ?_;exact Aa [(X,_)] ⟨_,hG _ p1 p2,rfl,rfl⟩
 have hl0:0<limit:=by have:=of_decide_eq_false hc;omega
 (repeat first|refine WK ?_|refine Ai λX=>?_|refine Ay λY=>?_);refine AY (λb:Nat×Array Int=>b.1<=1000/\PermIn a' b' u b.2) (λb=>⟨[(0,.sl X 0 n),(1,iA a'),(2,iA b'),(3,iA b.1),(8,bA wb),(9,bA wp),(10,iA l)],(X,.row 3 1 (b.2.toList.map iA))::Sf⟩) ?_ ?_
 ·refine AWP.cond rfl (λhd=>?_) (λhd=>?_)
  ·have hs:=Hj X n u a' b' (by omega) hab' (by omega) (by omega)
   (repeat first|(refine AOps.gN ?_;first|(refine AOps.g_callf ?_;first|refine HS (h:=hs) (k:=λv hv=>?_))|refine AOps.p (AG (((limit-1:Nat):Int)) (by omega) (by omega) rfl rfl) rfl ?_)|refine WK ?_|refine Ai λX=>?_|refine Ay λY=>?_);exact jn (limit-1,v) ⟨by dsimp only;omega,hv⟩
  ·(repeat first|refine WK ?_|refine Ai λX=>?_|refine Ay λY=>?_)
   exact jn (limit,u) ⟨hlim,permIn_refl _ _ _⟩
 rintro⟨lim1,u1⟩ ⟨hlim1,hP1⟩;dsimp only at hlim1 hP1⊢;have hu1:u1.size=d.size:=hP1.1.trans hu;have hpv:=DI X n u1 a' b' (by omega) (by omega) (by omega) (by omega);obtain⟨c1,c2⟩:=choosePivot_holds ltInt u1 a' b' (by omega);obtain⟨⟨p,h⟩,hp⟩:∃c,choosePivot ltInt u1 a' b'=c:=⟨_,rfl⟩;rw[hp]at hpv c1 c2;dsimp only at hpv c1 c2;obtain⟨hnum,hhn⟩:∃hnum,Hw h=hnum:=⟨_,rfl⟩;rw[hhn]at hpv;(repeat first|(refine AOps.gN ?_;first|(refine AOps.g_callf ?_;first|refine Cv (h:=(hpv ..)) (k:=?_)))|refine WK ?_|refine Ai λX=>?_|refine Ay λY=>?_);refine AY (λb:Nat×Int×Array Int=>a' <=b.1/\b.1<b' /\PermIn a' b' u b.2.2) (λb=>⟨[(0,.sl X 0 n),(1,iA a'),(2,iA b'),(3,iA lim1),(8,bA wb),(9,bA wp),(10,iA l),(11,iA b.1),(12,iA b.2.1)],(X,.row 3 1 (b.2.2.toList.map iA))::Sf⟩) ?_ ?_
 ·refine AWP.cond rfl (λhd=>?_) (λhd=>?_)
  ·have hs:=Ha X n u1 a' b' (by omega) (by omega) (by omega) (by omega)
   have hrp:=reverseRange_holds u1 a' b' hab' (by omega);(repeat first|(refine AOps.gN ?_;first|(refine AOps.g_callf ?_;first|refine Cv (h:=(hs ..)) (k:=?_))|refine AOps.p (AG (((b'-1:Nat):Int)) (by omega) (by omega) rfl rfl) rfl ?_|refine AOps.p (AG (((p-a':Nat):Int)) (by omega) (by omega) rfl rfl) rfl ?_|refine AOps.p (AG (((b'-1-(p-a'):Nat):Int)) (by omega) (by omega) rfl rfl) rfl ?_)|refine WK ?_|refine Ai λX=>?_|refine Ay λY=>?_);exact jn (b'-1-(p-a'),1,_) ⟨by dsimp only;omega,by dsimp only;omega,permIn_trans _ _ _ _ _ hP1 hrp⟩
  ·(repeat first|refine WK ?_|refine Ai λX=>?_|refine Ay λY=>?_)
   exact jn (p,hnum,u1) ⟨c1,c2,hP1⟩
 rintro⟨pv,hn2,u2⟩ ⟨c3,c4,hP2⟩;dsimp only at c3 c4 hP2⊢;have hu2:u2.size=d.size:=hP2.1.trans hu;have hB2:=hB'.perm (by omega) hP2;clear hpv hp hhn c1 c2 p h hnum;refine AWP.seq ?_;refine EE (λv:Array Int=>PermIn a' b' u v) (λv=>⟨[(0,.sl X 0 n),(1,iA a'),(2,iA b'),(3,iA lim1),(8,bA wb),(9,bA wp),(10,iA l),(11,iA pv)],(X,.row 3 1 (v.toList.map iA))::Sf⟩) ?_ ?_
 ·(repeat first|refine WK ?_|refine Ai λX=>?_|refine Ay λY=>?_)
  refine AWP.cond rfl (λ_=>?_) (λ_=>?_)
  ·have hs:=Gp X n u2 a' b' (by omega) (by omega) (by omega) (by omega)
   have hpi:=partialInsertionSort_holds (lt:=ltInt) swo_ltInt u2 a' b' (by omega) (by omega) hB2;obtain⟨⟨v,fl⟩,hv⟩:∃v,partialInsertionSort ltInt u2 a' b'=v:=⟨_,rfl⟩;rw[hv]at hs hpi;dsimp only at hs hpi;(repeat first|(refine AOps.gN ?_;first|(refine AOps.g_callf ?_;first|refine Cv (h:=(hs ..)) (k:=?_)))|refine WK ?_|refine Ai λX=>?_|refine Ay λY=>?_);refine AWP.cond rfl (λhe=>?_) (λhe=>?_)
   ·refine RT ?_
    exact Aa [(X,_)] ⟨v,hG v (permIn_trans _ _ _ _ _ hP2 hpi.1) (hpi.2 he),rfl,rfl⟩
   ·(repeat first|refine WK ?_|refine Ai λX=>?_|refine Ay λY=>?_)
    exact jnR v (permIn_trans _ _ _ _ _ hP2 hpi.1)
  ·(repeat first|refine WK ?_|refine Ai λX=>?_|refine Ay λY=>?_)
   exact jnR u2 hP2
 rintro u3 hP3;have hu3:u3.size=d.size:=hP3.1.trans hu;have hB3:=hB'.perm (by omega) hP3;have hg3:∀R,PermIn a' b' u3 R->SortedIn ltInt a' b' R->PermIn a b d R/\SortedIn ltInt a b R:=λR h1 h2=>hG R (permIn_trans _ _ _ _ _ hP3 h1) h2
 clear hB2 hP2 hu2 u2 hP1 hu1 u1 hG hB' hn2;refine AWP.seq ?_;refine EE (λ_:Unit=>True) (λ_=>⟨[(0,.sl X 0 n),(1,iA a'),(2,iA b'),(3,iA lim1),(8,bA wb),(9,bA wp),(10,iA l),(11,iA pv)],(X,.row 3 1 (u3.toList.map iA))::Sf⟩) ?_ ?_
 ·rcases Bool.eq_false_or_eq_true (decide ((0:Int)<(a':Int)))with g|g
  ·have hg:0<a':=by have:=of_decide_eq_true g;omega
   have h1:=AJ iA (d:=u3) (i:=a'-1) (by omega);have h2:=AJ iA (d:=u3) (i:=pv) (by omega);have hl2:=An (u3[a'-1]!) (u3[pv]!);(repeat refine WF ?_);refine RU ?_;(repeat first|(refine RGo.gN ?_;first|(refine RGo.g_callf ?_;first|refine RGo.c2 (h:=(hl2 ..)) (k:=?_))|refine RGo.go (h:=AG (((a'-1:Nat):Int)) (by omega) (by omega) rfl rfl) (k:=?_))|(refine AL ?_;first|(refine RGo.g_callf ?_;first|refine RGo.c2 (h:=(hl2 ..)) (k:=?_))|refine RGo.go (h:=AG (((a'-1:Nat):Int)) (by omega) (by omega) rfl rfl) (k:=?_))|refine RK ?_|refine RGo.nil (by kernel_rfl) ?_);(repeat refine WF ?_);refine AWP.cond rfl (λhd=>?_) (λhd=>?_)
   ·have hd:(!ltInt u3[a'-1]! u3[pv]!)=true:=by simpa[g,BD]using hd
    have hd:ltInt u3[a'-1]! u3[pv]! =false:=by simpa[BD]using hd
    have hs:=Hb X n u3 a' b' pv (by omega) c3 c4 (by omega) (by omega);obtain⟨⟨mid,d4⟩,hx⟩:∃x,partitionEqual ltInt u3 a' b' pv=x:=⟨_,rfl⟩;rw[hx]at hs;dsimp only at hs;obtain⟨q1,q2,q3,q4,q5⟩:=round_eq (lt:=ltInt) swo_ltInt (partitionEqual_holds ltInt) hg c3 c4 (by omega) hB3 hd hx;(repeat first|(refine AOps.gN ?_;first|(refine AOps.g_callf ?_;first|refine DN (h:=(hs ..)) (k:=?_)))|refine WK ?_|refine Ai λX=>?_|refine Ay λY=>?_);refine Dc mid b' lim1 wb wp d4 ⟨q2,hb',by omega,hlim1,q3.trans hu3,q4,λR k1 k2=>?_⟩;obtain⟨k3,k4⟩:=q5 R k1 k2;exact hg3 R k3 k4
   ·(repeat first|refine WK ?_|refine Ai λX=>?_|refine Ay λY=>?_)
    exact jnR () trivial
  ·(repeat refine WF ?_)
   refine RU ?_;(repeat first|refine RK ?_|refine RGo.nil (by kernel_rfl) ?_);(repeat refine WF ?_);refine AH rfl (by simp[g]) ?_;(repeat first|refine WK ?_|refine Ai λX=>?_|refine Ay λY=>?_);exact jnR () trivial
 rintro _ _;have hs:=Gq X n u3 a' b' pv (by omega) c3 c4 (by omega) (by omega);obtain⟨⟨mid,ap,d4⟩,hx⟩:∃x,partition ltInt u3 a' b' pv=x:=⟨_,rfl⟩;rw[hx]at hs;dsimp only at hs;obtain⟨r1,r2,r3,r4,r5,r6,r7⟩:=round_part (lt:=ltInt) swo_ltInt (partition_holds ltInt) c3 c4 (by omega) hB3 hx;(repeat first|(refine AOps.gN ?_;first|(refine AOps.g_callf ?_;first|refine DN (h:=(hs ..)) (k:=?_))|refine AOps.p (AG (((mid-a':Nat):Int)) (by omega) (by omega) rfl rfl) rfl ?_|refine AOps.p (AG (((b'-mid:Nat):Int)) (by omega) (by omega) rfl rfl) rfl ?_|refine AOps.p (Dm l 8 (l/8) rfl rfl (by omega) rfl (by omega) rfl rfl) rfl ?_)|refine WK ?_|refine Ai λX=>?_|refine Ay λY=>?_);refine AWP.cond rfl (λhd=>?_) (λhd=>?_)
 ·have hrec:=ih (mid-a') (by omega) X n d4 a' mid lim1 (Nat.le_refl _) (by omega) r1 (by omega) (by omega) hlim1 r4
  (repeat first|(refine AOps.gN ?_;first|(refine AOps.g_callf ?_;first|refine FD (h:=hrec) (k:=λv hv=>?_))|refine AOps.p (AR (((mid+1:Nat):Int)) (by omega) (by omega) rfl rfl) rfl ?_)|refine WK ?_|refine Ai λX=>?_|refine Ay λY=>?_);obtain⟨v1,v2⟩:=hv;obtain⟨s1,s2⟩:=r6 v v1 v2;refine Dc (mid+1) b' lim1 _ ap v ⟨by omega,hb',by omega,hlim1,v1.1.trans (r3.trans hu3),s1,λR k1 k2=>?_⟩;obtain⟨k3,k4⟩:=s2 R k1 k2;exact hg3 R k3 k4
 ·have hrec:=ih (b'-(mid+1)) (by omega) X n d4 (mid+1) b' lim1 (Nat.le_refl _) (by omega) (by omega) (by omega) (by omega) hlim1 r5
  (repeat first|(refine AOps.gN ?_;first|(refine AOps.g_callf ?_;first|refine FD (h:=hrec) (k:=λv hv=>?_))|refine AOps.p (AR (((mid+1:Nat):Int)) (by omega) (by omega) rfl rfl) rfl ?_)|refine WK ?_|refine Ai λX=>?_|refine Ay λY=>?_);obtain⟨v1,v2⟩:=hv;obtain⟨s1,s2⟩:=r7 v v1 v2;refine Dc a' mid lim1 _ ap v ⟨by omega,by omega,by omega,hlim1,v1.1.trans (r3.trans hu3),s1,λR k1 k2=>?_⟩;obtain⟨k3,k4⟩:=s2 R k1 k2;exact hg3 R k3 k4
end
section
def ixG(ks:List Int):Int->Option Value:=λn=>if n∈ks then some (.int .i64 (ks.idxOf n:Nat))else none
variable {α:Type}
abbrev AC(l:List (Int×α)):List Int:=l.map (·.1)
def BS(l:List (Int×α))(n:Int)(v:α):List (Int×α):=if n∈AC l then l.set ((AC l).idxOf n) (n,v)else l++[(n,v)]
def Ad(l:List (Int×α))(n:Int):Option α:=(l[(AC l).idxOf n]?).map (·.2)
def Ca(l:List (Int×α))(n:Int):List (Int×α):=if n∈AC l then(match l[l.length-1]? with|some e=>(l.set ((AC l).idxOf n) e).take (l.length-1)|none=>l)else l
structure ColOK(l:List (Int×α)):Prop where
 nd:(AC l).Nodup
 lt:∀n∈AC l,0<=n/\n<256
theorem Gs{ks:List Int}(h:ks.Nodup)(hl:∀n∈ks,0<=n/\n<256):ks.length<=256:=by
 have h1:(ks.map Int.toNat).Nodup:=by
  refine List.pairwise_map.2 (h.imp_of_mem λha hb hne e=>hne ?_);have:=hl _ ha;have:=hl _ hb;omega
 have h2:(ks.map Int.toNat)⊆List.range 256:=λx hx=>by
  obtain⟨n,hn,rfl⟩:=List.mem_map.1 hx;have:=hl n hn;rw[List.mem_range];omega
 have:=List.Nodup.length_le_of_subset h1 h2;simpa using this
theorem ColOK.len{l:List (Int×α)}(h:ColOK l):l.length<=256:=by
 have:=Gs h.nd h.lt;simpa using this
theorem CA{l:List (Int×α)}{n:Int}(h:n∈AC l):(AC l).idxOf n<l.length:=by
 have:=List.idxOf_lt_length_of_mem h;simpa using this
theorem CB{l:List (Int×α)}{n:Int}(h:n∈AC l):∃v,l[(AC l).idxOf n]?=some (n,v):=by
 have h1:=CA h;have h2:=List.getElem_idxOf (xs:=AC l) (x:=n) (by simpa using h1);rw[List.getElem_map]at h2;refine⟨(l[(AC l).idxOf n]).2,?_⟩;rw[List.getElem?_eq_getElem h1]
 congr 1
 exact Prod.ext h2 rfl
theorem As{l:List (Int×α)}{n:Int}(h:n∉AC l):Ad l n=none:=by
 unfold Ad;rw[List.getElem?_eq_none]
 ·rfl
 ·rw[List.idxOf_eq_length h];simp
theorem Bl{l:List (Int×α)}(h:ColOK l){n:Int}{v:α}:Ad l n=some v↔(n,v)∈l:=by
 constructor
 ·intro e
  have hn:n∈AC l:=Classical.byContradiction λhn=>by rw[As hn]at e;cases e
  obtain⟨u,hu⟩:=CB hn;unfold Ad at e;rw[hu]at e;injection e with e
  simp only at e;subst e;exact List.mem_of_getElem? hu
 ·intro hm
  have hn:n∈AC l:=List.mem_map.2 ⟨_,hm,rfl⟩;obtain⟨i,hi,e⟩:=List.getElem_of_mem hm
  have h1:(AC l).idxOf n=i:=by
   have h2:(AC l)[i]'(by simpa using hi)=n:=by rw[List.getElem_map,e]
   rw[<-h2];exact h.nd.idxOf_getElem i _
  unfold Ad;rw[h1,List.getElem?_eq_getElem hi,e];rfl
theorem DR{l:List (Int×α)}{n:Int}(h:n∈AC l):∃v,Ad l n=some v:=by
 obtain⟨u,hu⟩:=CB h;exact⟨u,by unfold Ad;rw[hu];rfl⟩
theorem CK{l:List (Int×α)}{n:Int}{v:α}(h:n∉AC l):BS l n v=l++[(n,v)]:=if_neg h
theorem Bk{l:List (Int×α)}{n:Int}{v:α}(h:n∈AC l):BS l n v=l.set ((AC l).idxOf n) (n,v):=if_pos h
theorem CZ{l:List (Int×α)}{n:Int}{v:α}(h:n∈AC l):AC (BS l n v)=AC l:=by
 rw[Bk h,AC,List.map_set];obtain⟨u,hu⟩:=CB h;have h1:=CA h;refine List.ext_getElem (by simp) λi h2 h3=>?_
 rw[List.getElem_set];split
 ·rename_i e
  subst e;have:=List.getElem_idxOf (xs:=AC l) (x:=n) (by simpa using h1);exact this.symm
 ·rfl
theorem ColOK.put{l:List (Int×α)}(h:ColOK l){n:Int}(hn:0<=n/\n<256)(v:α):ColOK (BS l n v):=by
 by_cases hk:n∈AC l
 ·refine⟨by rw[CZ hk];exact h.nd,λm hm=>h.lt m (by rwa[CZ hk]at hm)⟩
 ·rw[CK hk]
  refine⟨?_,λm hm=>?_⟩
  ·rw[AC,List.map_append]
   refine List.nodup_append.2 ⟨h.nd,by simp,λa ha b hb e=>?_⟩;simp only[List.map_cons,List.map_nil,List.mem_singleton]at hb;subst hb e;exact hk ha
  ·rw[AC,List.map_append]at hm
   rcases List.mem_append.1 hm with hm|hm
   ·exact h.lt m hm
   ·simp only[List.map_cons,List.map_nil,List.mem_singleton]at hm
    subst hm;exact hn
theorem Cx{l:List (Int×α)}(h:ColOK l){n:Int}{v:α}{m:Int}{u:α}:(m,u)∈BS l n v↔(m=n/\u=v)\/(m≠n/\(m,u)∈l):=by
 by_cases hk:n∈AC l
 ·obtain⟨w,hw⟩:=CB hk
  have h1:=CA hk;rw[Bk hk];constructor
  ·intro hm
   obtain⟨i,hi,e⟩:=List.getElem_of_mem hm;rw[List.getElem_set]at e;split at e
   ·injection e with e1 e2
    exact .inl ⟨e1.symm,e2.symm⟩
   ·rename_i hne
    refine .inr ⟨λe2=>hne ?_,e▸List.getElem_mem _⟩;have hi':i<l.length:=by simpa using hi
    have h2:(AC l)[i]'(by simpa using hi')=n:=by rw[List.getElem_map,e,e2]
    rw[<-h2];exact h.nd.idxOf_getElem i _
  ·rintro(⟨rfl,rfl⟩|⟨hne,hm⟩)
   ·exact List.mem_of_getElem? (i:=(AC l).idxOf m) (by rw[List.getElem?_set_self h1])
   ·obtain⟨i,hi,e⟩:=List.getElem_of_mem hm
    refine List.mem_of_getElem? (i:=i) ?_;rw[List.getElem?_set_ne,List.getElem?_eq_getElem hi,e];intro e2;have h3:l[i]?=some (m,u):=by rw[List.getElem?_eq_getElem hi,e]
    rw[<-e2,hw]at h3;injection h3 with h3
    injection h3 with h3 _
    exact hne h3.symm
 ·rw[CK hk,List.mem_append,List.mem_singleton]
  constructor
  ·rintro(hm|e)
   ·exact .inr ⟨λe=>hk (by subst e;exact List.mem_map.2 ⟨_,hm,rfl⟩),hm⟩
   ·injection e with e1 e2
    exact .inl ⟨e1,e2⟩
  ·rintro(⟨rfl,rfl⟩|⟨_,hm⟩)
   ·exact .inr rfl
   ·exact .inl hm
theorem F6{l:List (Int×α)}{n:Int}(h:n∉AC l):Ca l n=l:=if_neg h
theorem F4{β:Type}{l:List β}{i:Nat}{x e:β}(hx:l[i]?=some x)(he:l[l.length-1]?=some e):l.Perm (x::(l.set i e).take (l.length-1)):=by
 have hi:=(List.getElem?_eq_some_iff.1 hx).1
 obtain⟨l',e',rfl⟩:∃l' e',l=l'++[e']:=by
  rcases List.eq_nil_or_concat l with rfl|⟨l',e',rfl⟩
  ·cases hi
  ·exact⟨l',e',by simp⟩
 have hl:(l'++[e']).length-1=l'.length:=by simp
 rw[hl]at he⊢;rw[List.getElem?_append_right (Nat.le_refl _),Nat.sub_self]at he;injection he with he
 subst he;by_cases h:i<l'.length
 ·rw[List.getElem?_append_left h]at hx
  rw[List.set_append_left _ _ h,List.take_left' (by simp)];obtain⟨R,h1,h2⟩:=Ab hx;refine List.perm_append_comm.trans ?_;refine((h1.cons e').trans (.swap ..)).trans ?_;exact(h2 e').symm.cons x
 ·have hi':i=l'.length:=by simp at hi;omega
  subst hi';rw[List.getElem?_append_right (Nat.le_refl _),Nat.sub_self]at hx;injection hx with hx
  subst hx;rw[List.set_append_right _ _ (Nat.le_refl _),Nat.sub_self,List.set_cons_zero,List.take_left' rfl];exact List.perm_append_comm
theorem Fp{β:Type}{l:List β}(h:0<l.length):∃e,l[l.length-1]?=some e:=⟨l[l.length-1],List.getElem?_eq_getElem (by omega)⟩
theorem FH{l:List (Int×α)}{n:Int}(hk:n∈AC l):(Ca l n).length=l.length-1:=by
 have h1:=CA hk;obtain⟨e,he⟩:=Fp (l:=l) (by omega);unfold Ca;rw[if_pos hk,he];simp
theorem D0{l:List (Int×α)}(h:ColOK l){n:Int}(hn:0<=n/\n<256){v:α}{m:Int}:Ad (BS l n v) m=if m=n then some v else Ad l m:=by
 split
 ·rename_i e
  subst e;exact(Bl (h.put hn v)).2 ((Cx h).2 (.inl ⟨rfl,rfl⟩))
 ·rename_i hne
  cases hg:Ad l m with
  |some w=>exact(Bl (h.put hn v)).2 ((Cx h).2 (.inr ⟨hne,(Bl h).1 hg⟩))
  |none=>
   refine As λhm=>?_
   obtain⟨⟨m',w⟩,hw,rfl⟩:=List.mem_map.1 hm;rcases(Cx h).1 hw with⟨e,_⟩|⟨_,hw⟩
   ·exact hne e
   ·rw[(Bl h).2 hw]at hg
    cases hg
theorem Av{ks:List Int}{n:Int}(h:n∈ks):ixG ks n=some (.int .i64 (ks.idxOf n:Nat)):=if_pos h
theorem Bv{ks:List Int}{n:Int}(h:n∉ks):ixG ks n=none:=if_neg h
theorem He{ks:List Int}{n:Int}(h:n∉ks):B1 (ixG ks) n (.int .i64 (ks.length:Nat))=ixG (ks++[n]):=by
 funext m
 unfold B1;split
 ·rename_i e
  subst e;rw[Av (by simp),List.idxOf_append,if_neg h];simp
 ·rename_i hne
  by_cases hm:m∈ks
  ·rw[Av hm,Av (by simp[hm]),List.idxOf_append,if_pos hm]
  ·rw[Bv hm,Bv (by simp[hm,hne])]
theorem CO{ks:List Int}(hd:ks.Nodup){i:Nat}{n:Int}(h:ks[i]?=some n):n∈ks/\ks.idxOf n=i:=by
 obtain⟨hi,e⟩:=List.getElem?_eq_some_iff.1 h;subst e;exact⟨List.getElem_mem _,hd.idxOf_getElem i _⟩
theorem G6{ks:List Int}(hd:ks.Nodup){i:Nat}{n e:Int}(hn:ks[i]?=some n)(he:ks[ks.length-1]?=some e):EO (B1 (ixG ks) e (.int .i64 (i:Nat))) n=ixG ((ks.set i e).take (ks.length-1)):=by
 have hp:=F4 hn he;have hd2:(n::(ks.set i e).take (ks.length-1)).Nodup:=hp.nodup_iff.1 hd;obtain⟨hn1,hd3⟩:=List.nodup_cons.1 hd2;obtain⟨hi,_⟩:=List.getElem?_eq_some_iff.1 hn;have hmem:∀m,m∈ks↔m=n\/m∈(ks.set i e).take (ks.length-1):=λm=>by rw[hp.mem_iff];simp
 funext m
 unfold EO;split
 ·rename_i h
  subst h;rw[Bv hn1]
 ·rename_i hmn
  unfold B1;split
  ·rename_i hme
   subst hme
   have hi2:i<ks.length-1:=by
    refine Classical.byContradiction λh=>hmn ?_
    have:i=ks.length-1:=by omega
    rw[this,he]at hn;injection hn
   obtain⟨h1,h2⟩:=CO hd3 (i:=i) (n:=m) (by rw[List.getElem?_take_of_lt hi2,List.getElem?_set_self hi]);rw[Av h1,h2]
  ·rename_i hme
   by_cases hm:m∈ks
   ·obtain⟨j,hj,ej⟩:=List.getElem_of_mem hm
    have hj1:ks[j]?=some m:=by rw[List.getElem?_eq_getElem hj,ej]
    have hj2:j<ks.length-1:=by
     refine Classical.byContradiction λh=>hme ?_
     have:j=ks.length-1:=by omega
     rw[this,he]at hj1;injection hj1 with hj1
     exact hj1.symm
    have hij:i≠j:=λh=>by
     subst h;rw[hn]at hj1;injection hj1 with hj1
     exact hmn hj1.symm
    obtain⟨h1,h2⟩:=CO hd hj1;obtain⟨h3,h4⟩:=CO hd3 (i:=j) (n:=m) (by rw[List.getElem?_take_of_lt hj2,List.getElem?_set_ne hij,hj1]);rw[Av h1,h2,Av h3,h4]
   ·rw[Bv hm,Bv λh=>hm ((hmem m).2 (.inr h))]
structure StK where
 X:Nat
 V:Nat
 R:Nat
 M:Nat
end
def BZ(l:List (Int×Int))(u:List Int):List (Int×Int):=u.map λn=>(n,(Ad l n).getD 0)
theorem BQ(l:List (Int×Int))(u:List Int):AC (BZ l u)=u:=by
 rw[AC,BZ,List.map_map];exact List.map_id u
theorem DQ(l:List (Int×Int))(u:List Int):(BZ l u).length=u.length:=List.length_map _
theorem EJ{l:List (Int×Int)}{u:List Int}(h:ColOK l)(p:u.Perm (AC l)):ColOK (BZ l u):=
 ⟨by rw[BQ];exact p.nodup_iff.2 h.nd,λn hn=>by rw[BQ]at hn;exact h.lt n (p.mem_iff.1 hn)⟩
theorem Ee{l:List (Int×Int)}{u:List Int}(h:ColOK l)(p:u.Perm (AC l))(n:Int):Ad (BZ l u) n=Ad l n:=by
 by_cases hn:n∈AC l
 ·obtain⟨v,hv⟩:=DR hn
  rw[hv];refine(Bl (EJ h p)).2 (List.mem_map.2 ⟨n,p.mem_iff.2 hn,?_⟩);rw[hv];rfl
 ·rw[As hn,As]
  rw[BQ];exact λk=>hn (p.mem_iff.1 k)
theorem Ef{u v:List Int}(p:u.Perm v)(hu:u.Pairwise (· <= ·))(hv:v.Pairwise (· <= ·)):u=v:=
 p.eq_of_pairwise (λa b _ _ h1 h2=>Int.le_antisymm h1 h2) hu hv
theorem keys_get{l:List (Int×Int)}{n:Int}:n∈AC l↔(Ad l n).isSome=true:=by
 by_cases h:n∈AC l
 ·obtain⟨v,hv⟩:=DR h
  simp[h,hv]
 ·simp[h,As h]
theorem GF{a b:List (Int×Int)}(ha:ColOK a)(hb:ColOK b)(h:∀n,Ad a n=Ad b n):(AC a).Perm (AC b):=
 (List.perm_ext_iff_of_nodup ha.nd hb.nd).2 λn=>by rw[keys_get,keys_get,h]
def A7(l:List (Int×Int)):Int->Option Value:=λn=>(Ad l n).map (.int .i64)
theorem Fv{l:List (Int×Int)}{n:Int}:(A7 l n).isSome=(Ad l n).isSome:=by unfold A7;cases Ad l n<;>rfl
theorem Ge{l:List (Int×Int)}(h:ColOK l){n:Int}(hn:0<=n/\n<256)(v:Int):(λm=>if m=n then some (.int .i64 v)else A7 l m)=A7 (BS l n v):=by
 funext m
 unfold A7;rw[D0 h hn];split<;>rfl
theorem Gg{l:List (Int×Int)}{n:Int}(v:Int):(if(A7 l n).isSome then l.length else l.length+1)=(BS l n v).length:=by
 rw[Fv];by_cases h:n∈AC l
 ·rw[if_pos (keys_get.1 h),Bk h,List.length_set]
 ·rw[if_neg (λk=>h (keys_get.2 k)),CK h,List.length_append];rfl
def C4(ks u:List Int)(i:Nat):Int->Option Value:=λn=>if n∈u.take i then some (.int .i64 (u.idxOf n:Nat))else ixG ks n
theorem GG(ks u:List Int):C4 ks u 0=ixG ks:=by funext n;unfold C4;simp
theorem G5{ks u:List Int}(p:u.Perm ks):C4 ks u u.length=ixG u:=by
 funext n
 unfold C4;rw[List.take_length];by_cases h:n∈u
 ·rw[if_pos h,Av h]
 ·rw[if_neg h,Bv h,Bv λk=>h (p.mem_iff.2 k)]
theorem GH{ks u:List Int}(p:u.Perm ks){i:Nat}{n:Int}(h:n∈u):(C4 ks u i n).isSome=true:=by
 unfold C4;split
 ·rfl
 ·rw[Av (p.mem_iff.1 h)];rfl
theorem GI{ks u:List Int}(hd:u.Nodup){i:Nat}{n:Int}(h:u[i]?=some n):B1 (C4 ks u i) n (.int .i64 (i:Nat))=C4 ks u (i+1):=by
 obtain⟨hm,hx⟩:=CO hd h;obtain⟨hi,e⟩:=List.getElem?_eq_some_iff.1 h;have ht:u.take (i+1)=u.take i++[n]:=by rw[List.take_add_one,h];rfl
 funext m
 unfold B1;split
 ·rename_i hmn
  subst hmn;unfold C4;rw[if_pos (by rw[ht];simp),hx]
 ·rename_i hmn
  unfold C4;rw[ht];simp only[List.mem_append,List.mem_singleton,hmn,or_false]
def BX(l:List (Int×Int))(u:List Int)(i:Nat):List Int:=u.mapIdx λj n=>if j<i then(Ad l n).getD 0 else 0
theorem BI(l:List (Int×Int))(u:List Int)(i:Nat):(BX l u i).length=u.length:=List.length_mapIdx
theorem FT(l:List (Int×Int))(u:List Int):BX l u 0=List.replicate u.length 0:=by
 refine List.ext_getElem (by rw[BI];simp) λj h1 h2=>?_
 simp[BX]
theorem GN(l:List (Int×Int))(u:List Int):BX l u u.length=(BZ l u).map (·.2):=by
 refine List.ext_getElem (by rw[BI,List.length_map,DQ]) λj h1 h2=>?_
 have h:j<u.length:=by rw[BI]at h1;exact h1
 simp[BX,BZ,h]
theorem FU(l:List (Int×Int)){u:List Int}{i:Nat}{n:Int}(h:u[i]?=some n):(BX l u i).set i ((Ad l n).getD 0)=BX l u (i+1):=by
 obtain⟨hi,e⟩:=List.getElem?_eq_some_iff.1 h;refine List.ext_getElem (by rw[List.length_set,BI,BI]) λj h1 h2=>?_
 rw[List.getElem_set];simp only[BX,List.getElem_mapIdx];split
 ·rename_i hij
  subst hij;rw[if_pos (Nat.lt_succ_self _),e]
 ·rename_i hij
  by_cases h3:j<i
  ·rw[if_pos h3,if_pos (by omega)]
  ·rw[if_neg h3,if_neg (by omega)]
theorem GQ(l:List Int)(hl:l.length*8<=140737488355328):PS Try.prog 32 [.lst false 3 1 (l.map iA)] (.lst true 3 1 (l.map iA)):=by
 refine Spec.of (nt:=8) (res:=[.tmp 2]) Try.func32 rfl (by kernel_rfl) rfl rfl rfl λSf=>?_
 (repeat first|(refine AOps.gN ?_;first|refine AOps.isNil λb hb=>?_)|refine WK ?_|refine Ai λX=>?_|refine Ay λY=>?_);refine AWP.cond rfl (λhc=>?_) (λhc=>?_)
 ·rw[hb hc]
  (repeat first|refine WK ?_|refine Ai λX=>?_|refine Ay λY=>?_);refine RT ?_;exact⟨[.prim (.slice none 0 0)],[.lst true 3 1 []],_,[],.cons (.tmp rfl) rfl .nil,.cons (.cell .nil) .nil,by exact Sub.f,rfl,rfl⟩
 ·have hl':(0+(l.map iA).length)*8<=140737488355328:=by simpa using hl
  clear hl;(repeat first|(refine AOps.gN ?_;first|(refine AOps.g_lit ?_;refine GZ λK=>?_))|refine WK ?_|refine Ai λX=>?_|refine Ay λY=>?_);refine RT ?_;exact⟨[.sl Y 0 (0+(l.map iA).length)],[.lst true 3 1 (l.map iA)],_,[],.cons (.tmp rfl) rfl .nil,.cons (.cell (.sl (p:=0) .here (by simp))) .nil,by exact Sub.f,rfl,rfl⟩
section
open Go.Sort
theorem Fu(l:List Int):PS Try.prog 31 [Ak false l] (.fn 55 [.fp [Ak false l]]):=by
 refine Spec.of (nt:=4) (res:=[.tmp 2]) Try.func31 rfl (by kernel_rfl) rfl rfl rfl λSf=>?_
 refine RG ?_;(repeat first|(refine AOps.gN ?_;first|(refine AOps.g_box ?_;refine HQ ?_))|refine WO ?_|refine Ai λX=>?_|refine Ay λY=>?_);refine NL ?_;refine FL ?_;refine RG ?_;(repeat first|refine WO ?_|refine Ai λX=>?_|refine Ay λY=>?_);refine NL ?_;refine RT ?_;refine BC ?_;rfl
theorem Ea(l:List Int)(h0:l.length<=1099511627776):Itr Try.prog 55 [.fp [Ak false l]] (l.map λx=>[iA x]):=by
 have hlm:(l.map iA).length=l.length:=List.length_map _;refine⟨by kernel_rfl,λy J Jx hY Sl hJ0=>?_⟩;refine Spec.of (nt:=16) (res:=[]) Try.func55 rfl (by kernel_rfl) rfl rfl rfl λSf=>?_
 refine RG ?_;(repeat first|refine WO ?_|refine Ai λX=>?_|refine Ay λY=>?_);refine NL ?_;rw[hlm];refine FL ?_;refine BP (λ(i:Nat) (Sl:List AA)=>⟨[(0,.prim y),(1,.fp [Ak false l]),(5,Ak false l),(6,iA (l.length:Nat)),(7,iA (i:Nat))],Sl++Sf⟩) (λi Sl=>i<=l.length/\J i Sl) (λi _=>l.length-i) 0 Sl ⟨Nat.zero_le _,hJ0⟩ ?_;rintro i Sl ⟨hi,hJ⟩;refine RG ?_;(repeat first|refine WO ?_|refine Ai λX=>?_|refine Ay λY=>?_);refine NL ?_;refine FL ?_;refine AWP.cond rfl (λhc=>?_) (λhc=>?_)
 ·have h:i<l.length:=by have:=of_decide_eq_true hc;omega
  have hat:(l.map iA)[i]?=some (iA l[i]):=Aq _ h;have hil:i<(l.map iA).length:=by omega
  have hyi:(l.map λx=>[iA x])[i]?=some [iA l[i]]:=by rw[List.getElem?_map,List.getElem?_eq_getElem h];rfl
  obtain⟨e,hee⟩:∃e,l[i]=e:=⟨_,rfl⟩;rw[hee]at hat hyi;refine FL ?_;refine RG ?_;(repeat first|refine WO ?_|refine Ai λX=>?_|refine Ay λY=>?_);refine NL ?_;refine FL ?_;refine RG ?_;(repeat first|refine WO ?_|refine Ai λX=>?_|refine Ay λY=>?_);refine FA (Si:=[]) hY hJ hyi (λSl' hk=>?_) (λSl' hk=>?_)
  ·(repeat first|refine WO ?_|refine Ai λX=>?_|refine Ay λY=>?_)
   refine AOps.nil ?_;refine FL ?_;refine AH rfl rfl ?_;refine FL ?_;refine RG ?_;(repeat first|refine WO ?_|refine Ai λX=>?_|refine Ay λY=>?_);refine NL ?_;refine Aw (i+1) Sl' ⟨by omega,hk⟩
  ·(repeat first|refine WO ?_|refine Ai λX=>?_|refine Ay λY=>?_)
   refine AOps.nil ?_;refine FL ?_;refine BL rfl rfl ?_;(repeat first|refine WK ?_|refine Ai λX=>?_|refine Ay λY=>?_);refine RT ?_;exact Aa Sl' (.inr hk)
 ·have h:i=l.length:=by have:=of_decide_eq_false hc;omega
  subst h;(repeat first|refine WK ?_|refine Ai λX=>?_|refine Ay λY=>?_);refine Bs ?_;exact Aa Sl (.inl (by rw[List.length_map];exact hJ))
theorem EP(f:FuncId)(cap:List AV)(hst:B5 cap=true)(l:List Int)(hI:Itr Try.prog f cap (l.map λx=>[iA x]))(hl:l.length<=1099511627776):
  PS Try.prog 70 [.prim (.slice none 0 0),.fn f cap] (Ak true l):=by
 refine Spec.of (nt:=13) (res:=[.tmp 4]) Try.func70 rfl (by kernel_rfl) rfl rfl rfl λSf=>?_
 refine RG ?_;(repeat first|refine WO ?_|refine Ai λX=>?_|refine Ay λY=>?_);refine NL ?_;refine AWP.adoptIn (Y:=X) 3 1 .here (λV=>.cons (.base .nil) .nil) λV=>?_
 refine FL ?_;refine RG ?_;(repeat first|refine WO ?_|refine Ai λX=>?_|refine Ay λY=>?_);refine NL ?_;refine FL ?_;refine Ff (Sf:=Sf) hI (λb:Nat×Nat=>[(b.1,.row 3 1 ((l.take b.2).map iA)),(X,.row 22 1 [.sl b.1 0 (l.take b.2).length])]) (λi b=>b.2=i) (V,0) rfl ?_ ?_ rfl hst rfl ?_ ?_
 ·rintro i vs ⟨V,n⟩ L F1 F2 hi hn
  dsimp only at hn;subst hn
  have hil:n<l.length:=by
   have:=(List.getElem?_eq_some_iff.1 hi).1;simpa using this
  rw[List.getElem?_map,List.getElem?_eq_getElem hil]at hi;obtain rfl:_=vs:=Option.some.inj hi;have hnx:(l.take n).map iA++[iA l[n]]=(l.take (n+1)).map iA:=by rw[List.take_add_one,List.getElem?_eq_getElem hil,List.map_append];rfl
  have hnl:(l.take n).length+[iA l[n]].length=(l.take (n+1)).length:=by simp only[List.length_take,List.length_cons,List.length_nil];omega
  have htl:((l.take n).map iA).length=(l.take n).length:=List.length_map _;have htn:(l.take n).length=n:=by rw[List.length_take];omega
  obtain⟨e,hee⟩:∃e,l[n]=e:=⟨_,rfl⟩;rw[hee]at hnx hnl⊢;(repeat first|refine WK ?_|refine Ai λX=>?_|refine Ay λY=>?_);refine⟨[(V,.row 3 1 ((l.take n).map iA)),(X,.row 22 1 [.sl V 0 (l.take n).length])],.refl _,?_⟩;refine FL ?_;refine RG ?_;(repeat first|(refine AOps.gN ?_;first|(refine AOps.g_lit ?_;refine AOps.goL (iA e) ?_))|refine WO ?_|refine Ai λX=>?_|refine Ay λY=>?_);refine NL ?_;dsimp only[AF,List.set_cons_zero,List.set_cons_succ,List.cons_append,List.nil_append];rw[hnx,hnl];exact⟨[_,_],.refl _,(_,n+1),rfl,rfl⟩
 ·rintro⟨V,n⟩ hn
  dsimp only at hn;have hn2:l.take n=l:=by rw[hn,List.length_map,List.take_length]
  rw[hn2];(repeat first|refine WK ?_|refine Ai λX=>?_|refine Ay λY=>?_);refine RT ?_;exact⟨[.sl V 0 l.length],[Ak true l],_,[],.cons (.tmp rfl) rfl .nil,.cons (.cell (.sl (p:=0) .here (by simp))) .nil,by exact Sub.f,rfl,rfl⟩
 ·intro vs hvs
  obtain⟨q,_,rfl⟩:=List.mem_map.1 hvs;rfl
 ·exact .refl _
theorem FX(f:FuncId)(cap:List AV)(hst:B5 cap=true)(l:List Int)(hI:Itr Try.prog f cap (l.map λx=>[iA x]))(hl:l.length<=1099511627776):
  PS Try.prog 53 [.fn f cap] (Ak true l):=by
 have h:=EP f cap hst l hI hl;refine Spec.of (nt:=5) (res:=[.tmp 2]) Try.func53 rfl (by kernel_rfl) rfl rfl rfl λSf=>?_
 refine RG ?_;(repeat first|refine WO ?_|refine Ai λX=>?_|refine Ay λY=>?_);refine NL ?_;refine FL ?_;refine RG ?_;(repeat first|(refine AOps.gN ?_;first|(refine AOps.g_callf ?_;first|refine Hr (h:=h) (k:=λY=>?_)))|refine WO ?_|refine Ai λX=>?_|refine Ay λY=>?_);refine NL ?_;refine RT ?_;exact⟨[.sl _ 0 (l.map iA).length],[Ak true l],_,[],.cons (.tmp rfl) rfl .nil,.cons (.cell (.sl (p:=0) .here rfl)) .nil,by exact Sub.f,rfl,rfl⟩
theorem EL{α:Type}[Inhabited α]{d u:Array α}(h:PermIn 0 d.size d u):u.toList.Perm d.toList:=by
 obtain⟨h1,_,h3⟩:=h;have e1:u.extract 0 d.size=u:=by rw[<-h1];exact Array.extract_size
 rwa[e1,Array.extract_size]at h3
theorem DS{α:Type}[Inhabited α]{lt:α->α->Bool}{u:Array α}{n:Nat}(hn:n=u.size)(h:SortedIn lt 0 n u):u.toList.Pairwise λa b=>lt b a=false:=by
 rw[List.pairwise_iff_getElem];intro i j hi hj hij;have hi':i<u.size:=by simpa using hi
 have hj':j<u.size:=by simpa using hj
 have:=h i j (Nat.zero_le _) hij (by omega);rw[getElem!_pos u j hj',getElem!_pos u i hi']at this;simpa using this
set_option maxRecDepth 8000 in
theorem Gl(X n:Nat)(l:List Int)(hn:n=l.length)(hlt:l.length<65536):
  Spec Try.prog 54 [.sl X 0 n] [(X,.row 3 1 (l.map iA))] λr S'=>∃u:List Int,(u.Perm l/\u.Pairwise λa b=>a<=b)/\r= .tup []/\S'=[(X,.row 3 1 (u.map iA))]:=by
 have e1:(UInt64.ofNat n).toNat=n:=by rw[UInt64.toNat_ofNat'];omega
 have hlen:=Gy (UInt64.ofNat n) (by rw[e1];omega);rw[e1]at hlen;have hsz:l.toArray.size=l.length:=by simp
 have hb:bitsLen n<=1000:=Nat.le_trans ((bitsLen_le_iff n 16).2 (by show n<65536;omega)) (by decide);have hs:=Hc n X n l.toArray 0 n (bitsLen n) (by omega) (by omega) (Nat.zero_le _) (by omega) (by omega) hb (.inl rfl);simp only[List.toList_toArray]at hs;refine Spec.of (nt:=11) (res:=[]) Try.func54 rfl (by kernel_rfl) rfl rfl rfl λSf=>?_
 (repeat first|(refine AOps.gN ?_;first|(refine AOps.g_callf ?_;first|refine Bi (h:=(hlen ..)) (k:=?_))|refine Ht [] (h:=hs) (λu hu=>?_)|refine AOps.p (FZ .i64 n rfl (by omega) (by kernel_rfl) (by kernel_rfl) rfl) rfl ?_)|refine WK ?_|refine Ai λX=>?_|refine Ay λY=>?_);refine Bs ?_;obtain⟨h1,h2⟩:=hu;have h1':PermIn 0 l.toArray.size l.toArray u:=by rw[hsz,<-hn];exact h1
 have hus:n=u.size:=by rw[h1'.1,hsz];exact hn
 exact Aa [(X,_)] ⟨u.toList,⟨by simpa using EL h1',(DS hus h2).imp λh=>by simp only[ltInt,decide_eq_false_iff_not]at h;omega⟩,rfl,rfl⟩
set_option maxRecDepth 8000 in
theorem FI(f:FuncId)(cap:List AV)(hst:B5 cap=true)(l:List Int)(hI:Itr Try.prog f cap (l.map λx=>[iA x]))(hl:l.length<65536):
  Spec Try.prog 30 [.fn f cap] [] λr S'=>∃u:List Int,(u.Perm l/\u.Pairwise λa b=>a<=b)/\r=Ak true u/\S'=[]:=by
 have h:=FX f cap hst l hI (by omega);have hs:=λX=>Gl X (l.map iA).length l (List.length_map _) hl
 refine Spec.of (nt:=9) (res:=[.tmp 2]) Try.func30 rfl (by kernel_rfl) rfl rfl rfl λSf=>?_
 refine RG ?_;(repeat first|refine WO ?_|refine Ai λX=>?_|refine Ay λY=>?_);refine NL ?_;refine FL ?_;refine RG ?_;(repeat first|(refine AOps.gN ?_;first|(refine AOps.g_callf ?_;first|refine Hs (h:=h) (k:=λY=>?_)))|refine WO ?_|refine Ai λX=>?_|refine Ay λY=>?_);refine NL ?_;refine FL ?_;refine RG ?_;(repeat first|(refine AOps.gN ?_;first|refine EY [] (h:=hs _) (k:=λu hu=>?_))|refine WO ?_|refine Ai λX=>?_|refine Ay λY=>?_);refine NL ?_;have hul:(l.map iA).length=(u.map iA).length:=by rw[List.length_map,List.length_map];exact hu.1.length_eq.symm
 rw[hul];refine FL ?_;refine RG ?_;(repeat first|refine WO ?_|refine Ai λX=>?_|refine Ay λY=>?_);refine NL ?_;refine RT ?_;exact⟨[.sl _ 0 (u.map iA).length],[Ak true u],_,[],.cons (.tmp rfl) rfl .nil,.cons (.cell (.sl (p:=0) .here rfl)) .nil,by exact Sub.f,u,hu,rfl,rfl⟩
theorem Et(l:List Int)(hl:l.length<=1099511627776)(h:l.Pairwise λa b=>a<=b):PS Try.prog 13 [Ak false l] (bA true):=by
 have hlm:(l.map iA).length=l.length:=List.length_map _;refine Spec.of (nt:=21) (res:=[.tmp 2]) Try.func13 rfl (by kernel_rfl) rfl rfl rfl λSf=>?_
 refine RG ?_;(repeat first|refine WO ?_|refine Ai λX=>?_|refine Ay λY=>?_);refine NL ?_;refine FL ?_;refine RG ?_;(repeat first|(refine AOps.gN ?_;first|refine AOps.go (h:=AG ((l.length:Int)-1) (by rw[hlm]) (by omega) rfl rfl) (k:=?_))|refine WO ?_|refine Ai λX=>?_|refine Ay λY=>?_);refine NL ?_;refine FL ?_;refine BY (λi:Int=>⟨[(0,Ak false l),(2,bA false),(3,iA i)],Sf⟩) (λi=>-1<=i/\i<=(l.length:Int)-1) (λi=>(i+1).toNat) ((l.length:Int)-1) ⟨by omega,by omega⟩ ?_;rintro i ⟨h1,h2⟩;refine RG ?_;(repeat first|refine WO ?_|refine Ai λX=>?_|refine Ay λY=>?_);refine NL ?_;refine FL ?_;refine AWP.cond rfl (λhc=>?_) (λhc=>?_)
 ·have hi:0<i:=of_decide_eq_true hc
  obtain⟨j,rfl⟩:∃j:Nat,i=j:=⟨i.toNat,by omega⟩;have hj:j<l.length:=by omega
  have hj0:j-1<l.length:=by omega
  have hle:l[j-1]<=l[j]:=List.pairwise_iff_getElem.1 h (j-1) j hj0 hj (by omega);have hat:(l.map iA)[j]?=some (iA l[j]):=Aq _ hj;have hat0:(l.map iA)[j-1]?=some (iA l[j-1]):=Aq _ hj0;have hlt:=An l[j] l[j-1];rw[show ltInt l[j] l[j-1]=false by simp only[ltInt,decide_eq_false_iff_not];omega]at hlt;obtain⟨e,hee⟩:∃e,l[j]=e:=⟨_,rfl⟩;obtain⟨e0,hee0⟩:∃e,l[j-1]=e:=⟨_,rfl⟩;rw[hee]at hat hlt;rw[hee0]at hat0 hlt;refine FL ?_;refine RU ?_;(repeat first|(refine RGo.gN ?_;first|(refine RGo.g_callf ?_;first|refine RGo.c2 (h:=(hlt ..)) (k:=?_))|refine RGo.go (h:=AG ((j-1:Nat):Int) (by omega) (by omega) rfl rfl) (k:=?_))|(refine AL ?_;first|(refine RGo.g_callf ?_;first|refine RGo.c2 (h:=(hlt ..)) (k:=?_))|refine RGo.go (h:=AG ((j-1:Nat):Int) (by omega) (by omega) rfl rfl) (k:=?_))|refine RK ?_|refine RGo.nil (by kernel_rfl) ?_);refine FL ?_;refine AH rfl rfl ?_;refine FL ?_;refine RG ?_;(repeat first|(refine AOps.gN ?_;first|refine AOps.go (h:=AG ((j:Int)-1) (by omega) (by omega) rfl rfl) (k:=?_))|refine WO ?_|refine Ai λX=>?_|refine Ay λY=>?_);refine NL ?_;refine BA ((j:Int)-1) ⟨by omega,by omega⟩ (by omega)
 ·(repeat first|refine WK ?_|refine Ai λX=>?_|refine Ay λY=>?_)
  refine RT ?_;refine BC ?_;rfl
end
instance mapII:TMap Try.prog 29 3 3 (.int .i64 0):=⟨by kernel_rfl,by kernel_rfl,λw=>by kernel_rfl,PlainV.int (by kernel_rfl) rfl⟩
abbrev stI(k:StK)(l:List (Int×Int)):List AA:=[(k.X,.row 73 3 [.agg [.sl k.V 0 l.length,.sl k.R 0 l.length,.mp k.M]]),(k.V,.row 3 1 (l.map λe=>iA e.2)),(k.R,.row 3 1 (l.map λe=>iA e.1)),(k.M,.ob (MapF Try.prog 3 3 (ixG (AC l)) l.length))]
theorem EK{X V R M n m c:Nat}{l:List (Int×Int)}{vs rs:List AV}{g:Int->Option Value}(h1:n=l.length)(h2:m=l.length)(h3:vs=l.map λe=>iA e.2)(h4:rs=l.map λe=>iA e.1)(h5:g=ixG (AC l))(h6:c=l.length):
  [(X,AO.row 73 3 [.agg [.sl V 0 n,.sl R 0 m,.mp M]]),(V,.row 3 1 vs),(R,.row 3 1 rs),(M,.ob (MapF Try.prog 3 3 g c))]=stI ⟨X,V,R,M⟩ l:=by
 subst h1 h2 h3 h4 h5 h6;rfl
theorem newI_sp:Spec Try.prog 5 [] [] λr S'=>∃k:StK,r= .ptr k.X 0 0/\S'=stI k []:=by
 refine Spec.of (nt:=4) (res:=[.tmp 0]) Try.func5 rfl (by kernel_rfl) rfl rfl rfl λSf=>?_
 refine RG ?_;(repeat first|refine WO ?_|refine Ai λX=>?_|refine Ay λY=>?_);refine NL ?_;refine FL ?_;refine RG ?_;(repeat first|(refine AOps.gN ?_;first|(refine CG ?_;refine Fg λM=>?_))|refine WO ?_|refine Ai λX=>?_|refine Ay λY=>?_);refine NL ?_;refine AWP.adoptIn (Y:=X) 3 1 .here (λV=>.cons (.agg (.cons (.base .nil) (.cons .same (.cons .same .nil)))) .nil) λV=>?_
 refine AWP.adoptIn (Y:=X) 3 1 (.next .here) (λV=>.cons (.agg (.cons .same (.cons (.base .nil) (.cons .same .nil)))) .nil) λR=>?_
 refine AWP.front M ?_;refine AWP.front R ?_;refine AWP.front V ?_;refine AWP.front X ?_;refine RT ?_;exact AW [.ptr X 0 0] (stI ⟨X,V,R,M⟩ []) ⟨⟨X,V,R,M⟩,rfl,rfl⟩
theorem E2(k:StK)(l:List (Int×Int)):Spec Try.prog 7 [.ptr k.X 0 0] (stI k l) λr S'=>r=iA (l.length:Nat)/\S'=stI k l:=by
 refine Spec.of (nt:=8) (res:=[.tmp 2]) Try.func7 rfl (by kernel_rfl) rfl rfl rfl λSf=>?_
 refine RG ?_;(repeat first|refine WO ?_|refine Ai λX=>?_|refine Ay λY=>?_);refine NL ?_;refine FL ?_;refine RG ?_;(repeat first|refine WO ?_|refine Ai λX=>?_|refine Ay λY=>?_);refine NL ?_;refine RT ?_;exact AW [iA (l.length:Nat)] (stI k l) ⟨rfl,rfl⟩
theorem Ew(k:StK)(l:List (Int×Int))(hl:ColOK l)(n:Int)(hn:I64 n)(v:Int)(hg:Ad l n=some v):Spec Try.prog 14 [.ptr k.X 0 0,iA n] (stI k l) λr S'=>r= .tup [iA v,bA true]/\S'=stI k l:=by
 have hlen:=hl.len;have hk:n∈AC l:=Classical.byContradiction λh=>by rw[As h]at hg;cases hg
 obtain⟨u,hv⟩:=CB hk;have hi:=CA hk;have hg2:Ad l n=some u:=by unfold Ad;rw[hv];rfl
 rw[hg]at hg2;injection hg2 with hg2
 subst hg2;have hat:(l.map λe=>iA e.2)[(AC l).idxOf n]?=some (iA v):=by rw[List.getElem?_map,hv];rfl
 have hix:=Av hk;obtain⟨i,hi2⟩:∃i,(AC l).idxOf n=i:=⟨_,rfl⟩;rw[hi2]at hi hat hix;have h1:(ixG (AC l) n).getD (.int .i64 0)= .int .i64 (i:Nat):=by rw[hix];rfl
 have h2:(ixG (AC l) n).isSome=true:=by rw[hix];rfl
 refine Spec.of (nt:=28) (res:=[.tmp 4,.tmp 5]) Try.func14 rfl (by kernel_rfl) rfl rfl rfl λSf=>?_
 refine RG ?_;(repeat first|refine WO ?_|refine Ai λX=>?_|refine Ay λY=>?_);refine NL ?_;refine FL ?_;refine RG ?_;(repeat first|(refine AOps.gN ?_;first|refine AOps.go (h:=Co _ _ h1 h2 hn rfl rfl (by exact At.f)) (k:=?_))|refine WO ?_|refine Ai λX=>?_|refine Ay λY=>?_);refine NL ?_;refine FL ?_;refine RG ?_;(repeat first|refine WO ?_|refine Ai λX=>?_|refine Ay λY=>?_);refine NL ?_;refine FL ?_;refine AH rfl rfl ?_;refine FL ?_;refine RG ?_;(repeat first|(refine AOps.gN ?_;first|refine AOps.go (h:=W.idx rfl rfl (by exact At.f) rfl (by omega) (Nat.zero_add _)) (k:=?_))|refine WO ?_|refine Ai λX=>?_|refine Ay λY=>?_);refine NL ?_;refine RT ?_;exact AW [iA v,bA true] (stI k l) ⟨rfl,rfl⟩
theorem De(k:StK)(l:List (Int×Int))(hl:ColOK l)(n:Int)(v:Int)(hn:0<=n/\n<256):Spec Try.prog 6 [.ptr k.X 0 0,iA n,iA v] (stI k l) λr S'=>∃q:Nat×Nat,r=iA 0/\S'=stI ⟨k.X,q.1,q.2,k.M⟩ (BS l n v):=by
 have hlen:=hl.len;have hn1:decide (n<0)=false:=decide_eq_false (by omega);have hn2:decide (n>=256)=false:=decide_eq_false (by omega);have hI: -9223372036854775808<=n/\n<=9223372036854775807:=by omega
 by_cases hk:n∈AC l
 ·obtain⟨u,hu⟩:=CB hk
  have hi:=CA hk;rw[Bk hk];have hix:=Av hk;have hke:=CZ (v:=v) hk;rw[Bk hk]at hke;obtain⟨i,hi2⟩:∃i,(AC l).idxOf n=i:=⟨_,rfl⟩;rw[hi2]at hi hu hix hke⊢;have h1:(ixG (AC l) n).getD (.int .i64 0)= .int .i64 (i:Nat):=by rw[hix];rfl
  have h2:(ixG (AC l) n).isSome=true:=by rw[hix];rfl
  have hat:(l.map λe=>iA e.2)[i]?=some (iA u):=by rw[List.getElem?_map,hu];rfl
  have hset:(l.map λe=>iA e.2).set i (iA v)=(l.set i (n,v)).map λe=>iA e.2:=by rw[List.map_set]
  have hrow:(l.map λe=>iA e.1)=(l.set i (n,v)).map λe=>iA e.1:=by
   have:=congrArg (List.map iA) hke;rw[AC,AC,List.map_map,List.map_map]at this;exact this.symm
  refine Spec.of (nt:=62) (res:=[.tmp 6]) Try.func6 rfl (by kernel_rfl) rfl rfl rfl λSf=>?_
  refine RG ?_;(repeat first|refine WO ?_|refine Ai λX=>?_|refine Ay λY=>?_);refine NL ?_;refine FL ?_;refine RG ?_;(repeat first|refine WO ?_|refine Ai λX=>?_|refine Ay λY=>?_);refine NL ?_;refine FL ?_;refine AH rfl hn2 ?_;refine FL ?_;refine RG ?_;(repeat first|(refine AOps.gN ?_;first|refine AOps.go (h:=Co _ _ h1 h2 hI rfl rfl (by exact At.f)) (k:=?_))|refine WO ?_|refine Ai λX=>?_|refine Ay λY=>?_);refine NL ?_;refine FL ?_;refine RG ?_;(repeat first|refine WO ?_|refine Ai λX=>?_|refine Ay λY=>?_);refine NL ?_;refine FL ?_;refine BL rfl rfl ?_;refine FL ?_;refine RG ?_;(repeat first|(refine AOps.gN ?_;first|refine AOps.go (h:=W.idx rfl rfl (by exact At.f) rfl (by omega) (Nat.zero_add _)) (k:=?_))|refine WO ?_|refine Ai λX=>?_|refine Ay λY=>?_);refine NL ?_;refine FL ?_;refine RG ?_;(repeat first|refine WO ?_|refine Ai λX=>?_|refine Ay λY=>?_);refine NL ?_;refine RT ?_;exact AW [iA 0] _ ⟨(k.V,k.R),rfl,EK (n:=l.length) (m:=l.length) (c:=l.length) (by simp) (by simp) hset hrow (by rw[hke]) (by simp)⟩
 ·rw[CK hk]
  have hix:=Bv hk;have h1:(ixG (AC l) n).getD (.int .i64 0)= .int .i64 0:=by rw[hix];rfl
  have h2:(ixG (AC l) n).isSome=false:=by rw[hix];rfl
  have hkl:(AC l).length=l.length:=List.length_map _
  have hkf:B1 (ixG (AC l)) n (.int .i64 (l.length:Nat))=ixG (AC (l++[(n,v)])):=by
   rw[<-hkl,He hk,AC,AC,List.map_append];rfl
  have hsz:(if(ixG (AC l) n).isSome then l.length else l.length+1)=l.length+1:=by rw[h2];rfl
  have hmx:l.length<maxLen:=by unfold maxLen;omega
  refine Spec.of (nt:=62) (res:=[.tmp 6]) Try.func6 rfl (by kernel_rfl) rfl rfl rfl λSf=>?_
  refine RG ?_;(repeat first|refine WO ?_|refine Ai λX=>?_|refine Ay λY=>?_);refine NL ?_;refine FL ?_;refine RG ?_;(repeat first|refine WO ?_|refine Ai λX=>?_|refine Ay λY=>?_);refine NL ?_;refine FL ?_;refine AH rfl hn2 ?_;refine FL ?_;refine RG ?_;(repeat first|(refine AOps.gN ?_;first|refine AOps.go (h:=Co _ _ h1 h2 hI rfl rfl (by exact At.f)) (k:=?_))|refine WO ?_|refine Ai λX=>?_|refine Ay λY=>?_);refine NL ?_;refine FL ?_;refine RG ?_;(repeat first|refine WO ?_|refine Ai λX=>?_|refine Ay λY=>?_);refine NL ?_;refine FL ?_;refine AH rfl rfl ?_;refine FL ?_;refine RU ?_;(repeat first|(refine RGo.gN ?_;first|refine RGo.goS (h:=W.mapUpd (PlainV.int (by kernel_rfl) (BV (by omega))) hI hmx rfl rfl rfl (by exact At.f)) (k:=?_))|(refine AL ?_;first|refine RGo.goS (h:=W.mapUpd (PlainV.int (by kernel_rfl) (BV (by omega))) hI hmx rfl rfl rfl (by exact At.f)) (k:=?_))|refine RK ?_|refine RGo.nil (by kernel_rfl) ?_);rw[hkf,hsz];refine FL ?_;refine AWP.rs λA=>AWP.rs λB=>?_
  refine RU ?_;(repeat first|(refine RGo.gN ?_;first|(refine RGo.g_lit ?_;refine RGo.goL (iA n) ?_)|(refine RGo.g_lit ?_;refine RGo.goL (iA v) ?_))|(refine AL ?_;first|(refine RGo.g_lit ?_;refine RGo.goL (iA n) ?_)|(refine RGo.g_lit ?_;refine RGo.goL (iA v) ?_))|refine RK ?_|refine RGo.nil (by kernel_rfl) ?_);refine FL ?_;refine RG ?_;(repeat first|refine WO ?_|refine Ai λX=>?_|refine Ay λY=>?_);refine NL ?_;refine AWP.front k.M ?_;refine AWP.front B ?_;refine AWP.front A ?_;refine AWP.front k.X ?_;refine RT ?_;exact AW [iA 0] _ ⟨(A,B),rfl,EK (n:=l.length+1) (m:=l.length+1) (c:=l.length+1) (by simp) (by simp) (by rw[List.map_append]) (by rw[List.map_append]) rfl (by simp)⟩
theorem HB(k:StK)(l:List (Int×Int))(hl:ColOK l)(n:Int)(hn:I64 n):Spec Try.prog 8 [.ptr k.X 0 0,iA n] (stI k l) λr S'=>r=iA (if n∈AC l then 0 else 4)/\S'=stI k (Ca l n):=by
 have hlen:=hl.len;by_cases hk:n∈AC l
 ·rw[if_pos hk]
  obtain⟨u,hu⟩:=CB hk;have hi:=CA hk;obtain⟨⟨en,ev⟩,he⟩:=Fp (l:=l) (by omega);have hdl:=FH hk;have hdr:Ca l n=(l.set ((AC l).idxOf n) (en,ev)).take (l.length-1):=by unfold Ca;rw[if_pos hk,he]
  rw[hdr]at hdl⊢;have hix:=Av hk;obtain⟨i,hi2⟩:∃i,(AC l).idxOf n=i:=⟨_,rfl⟩;rw[hi2]at hi hu hix hdl⊢;have hkl:(AC l).length=l.length:=List.length_map _;have hki:(AC l)[i]?=some n:=by rw[AC,List.getElem?_map,hu];rfl
  have hke:(AC l)[(AC l).length-1]?=some en:=by rw[hkl,AC,List.getElem?_map,he];rfl
  have hgd:=G6 hl.nd hki hke;have h1:(ixG (AC l) n).getD (.int .i64 0)= .int .i64 (i:Nat):=by rw[hix];rfl
  have h2:(ixG (AC l) n).isSome=true:=by rw[hix];rfl
  have hem:en∈AC l:=List.mem_of_getElem? hke;have hen:=hl.lt en hem;have h3:(ixG (AC l) en).isSome=true:=by rw[Av hem];rfl
  have hsz:(if(ixG (AC l) en).isSome then l.length else l.length+1)=l.length:=by rw[h3];rfl
  have h4:(B1 (ixG (AC l)) en (.int .i64 (i:Nat)) n).isSome=true:=by
   unfold B1;split
   ·rfl
   ·exact h2
  have hsz2:(if(B1 (ixG (AC l)) en (.int .i64 (i:Nat)) n).isSome then l.length else l.length)=l.length:=by split<;>rfl
  have hsz3:(if(B1 (ixG (AC l)) en (.int .i64 (i:Nat)) n).isSome then l.length-1 else l.length)=l.length-1:=by rw[h4];rfl
  have hmx:l.length<maxLen:=by unfold maxLen;omega
  have hmi:i<maxLen:=by unfold maxLen;omega
  have hr1:(l.map λe=>iA e.1)[l.length-1]?=some (iA en):=by rw[List.getElem?_map,he];rfl
  have hv1:(l.map λe=>iA e.2)[l.length-1]?=some (iA ev):=by rw[List.getElem?_map,he];rfl
  have hrs:(l.map λe=>iA e.1).set i (iA en)=(l.set i (en,ev)).map λe=>iA e.1:=by rw[List.map_set]
  have hvs:(l.map λe=>iA e.2).set i (iA ev)=(l.set i (en,ev)).map λe=>iA e.2:=by rw[List.map_set]
  have hri:((l.set i (en,ev)).map λe=>iA e.1)[i]?=some (iA en):=by rw[List.getElem?_map,List.getElem?_set_self hi];rfl
  have hrl:(l.map λe=>iA e.1).length=l.length:=List.length_map _;have hvl:(l.map λe=>iA e.2).length=l.length:=List.length_map _
  have hvz:((l.set i (en,ev)).map λe=>iA e.2)[l.length-1]?=some (iA ev):=by
   rw[List.getElem?_map];by_cases h:i=l.length-1
   ·rw[<-h,List.getElem?_set_self hi];rfl
   ·rw[List.getElem?_set_ne h,he];rfl
  have hvt:(((l.set i (en,ev)).map λe=>iA e.2).set (l.length-1) (iA 0)).take (l.length-1)=((l.set i (en,ev)).take (l.length-1)).map λe=>iA e.2:=by
   rw[List.take_set_of_le (Nat.le_refl _),List.map_take]
  have hrt:((l.set i (en,ev)).map λe=>iA e.1).take (l.length-1)=((l.set i (en,ev)).take (l.length-1)).map λe=>iA e.1:=by rw[List.map_take]
  have hkt:ixG (((AC l).set i en).take ((AC l).length-1))=ixG (AC ((l.set i (en,ev)).take (l.length-1))):=by
   rw[hkl,AC,AC,List.map_take,List.map_set]
  refine Spec.of (nt:=94) (res:=[.tmp 4]) Try.func8 rfl (by kernel_rfl) rfl rfl rfl λSf=>?_
  refine RG ?_;(repeat first|refine WO ?_|refine Ai λX=>?_|refine Ay λY=>?_);refine NL ?_;refine FL ?_;refine RG ?_;(repeat first|(refine AOps.gN ?_;first|refine AOps.go (h:=Co _ _ h1 h2 hn rfl rfl (by exact At.f)) (k:=?_))|refine WO ?_|refine Ai λX=>?_|refine Ay λY=>?_);refine NL ?_;refine FL ?_;refine RG ?_;(repeat first|refine WO ?_|refine Ai λX=>?_|refine Ay λY=>?_);refine NL ?_;refine FL ?_;refine AH rfl rfl ?_;refine FL ?_;refine RG ?_;(repeat first|(refine AOps.gN ?_;first|refine AOps.go (h:=AG ((l.length-1:Nat):Int) (by omega) (by omega) rfl rfl) (k:=?_))|refine WO ?_|refine Ai λX=>?_|refine Ay λY=>?_);refine NL ?_;refine FL ?_;refine RU ?_;(repeat first|(refine RGo.gN ?_;first|refine RGo.go (h:=W.idx (a:=l.length-1) rfl rfl (by exact At.f) rfl (by omega) (Nat.zero_add _)) (k:=?_)|refine RGo.go (h:=W.idx (a:=i) rfl rfl (by exact At.f) rfl (by omega) (Nat.zero_add _)) (k:=?_))|(refine AL ?_;first|refine RGo.go (h:=W.idx (a:=l.length-1) rfl rfl (by exact At.f) rfl (by omega) (Nat.zero_add _)) (k:=?_)|refine RGo.go (h:=W.idx (a:=i) rfl rfl (by exact At.f) rfl (by omega) (Nat.zero_add _)) (k:=?_))|refine RK ?_|refine RGo.nil (by kernel_rfl) ?_);rw[hrs,hvs];refine FL ?_;refine RU ?_;(repeat first|(refine RGo.gN ?_;first|refine RGo.go (h:=W.idx (a:=i) rfl rfl (by exact At.f) rfl (by omega) (Nat.zero_add _)) (k:=?_)|refine RGo.goS (h:=W.mapUpd (PlainV.int (by kernel_rfl) (BV (by omega))) (by omega) hmx rfl rfl rfl (by exact At.f)) (k:=?_))|(refine AL ?_;first|refine RGo.go (h:=W.idx (a:=i) rfl rfl (by exact At.f) rfl (by omega) (Nat.zero_add _)) (k:=?_)|refine RGo.goS (h:=W.mapUpd (PlainV.int (by kernel_rfl) (BV (by omega))) (by omega) hmx rfl rfl rfl (by exact At.f)) (k:=?_))|refine RK ?_|refine RGo.nil (by kernel_rfl) ?_);rw[hsz];refine FL ?_;refine RG ?_;(repeat first|(refine AOps.gN ?_;first|refine AOps.goS (h:=W.mapDel hn rfl rfl (by exact At.f)) (k:=?_))|refine WO ?_|refine Ai λX=>?_|refine Ay λY=>?_);refine NL ?_;rw[hsz3,hgd];refine FL ?_;refine RG ?_;(repeat first|refine WO ?_|refine Ai λX=>?_|refine Ay λY=>?_);refine NL ?_;refine FL ?_;refine RG ?_;(repeat first|(refine AOps.gN ?_;first|refine AOps.go (h:=W.idx (a:=l.length-1) rfl rfl (by exact At.f) rfl (by omega) (Nat.zero_add _)) (k:=?_))|refine WO ?_|refine Ai λX=>?_|refine Ay λY=>?_);refine NL ?_;refine FL ?_;refine RU ?_;(repeat first|(refine RGo.gN ?_;first|refine RGo.go (h:=W.hi (a:=l.length-1) rfl rfl (by exact At.f) rfl (by omega)) (k:=?_))|(refine AL ?_;first|refine RGo.go (h:=W.hi (a:=l.length-1) rfl rfl (by exact At.f) rfl (by omega)) (k:=?_))|refine RK ?_|refine RGo.nil (by kernel_rfl) ?_);refine FL ?_;refine RG ?_;(repeat first|refine WO ?_|refine Ai λX=>?_|refine Ay λY=>?_);refine NL ?_;refine AWP.shrink (X:=k.V) (l.length-1) ?_;refine AWP.shrink (X:=k.R) (l.length-1) ?_;refine AWP.front k.M ?_;refine AWP.front k.R ?_;refine AWP.front k.V ?_;refine AWP.front k.X ?_;refine RT ?_;exact AW [iA 0] _ ⟨rfl,EK (n:=l.length-1) (m:=l.length-1) (c:=l.length-1) hdl.symm hdl.symm hvt hrt hkt hdl.symm⟩
 ·rw[if_neg hk,F6 hk]
  have hix:=Bv hk;have h1:(ixG (AC l) n).getD (.int .i64 0)= .int .i64 0:=by rw[hix];rfl
  have h2:(ixG (AC l) n).isSome=false:=by rw[hix];rfl
  refine Spec.of (nt:=94) (res:=[.tmp 4]) Try.func8 rfl (by kernel_rfl) rfl rfl rfl λSf=>?_
  refine RG ?_;(repeat first|refine WO ?_|refine Ai λX=>?_|refine Ay λY=>?_);refine NL ?_;refine FL ?_;refine RG ?_;(repeat first|(refine AOps.gN ?_;first|refine AOps.go (h:=Co _ _ h1 h2 hn rfl rfl (by exact At.f)) (k:=?_))|refine WO ?_|refine Ai λX=>?_|refine Ay λY=>?_);refine NL ?_;refine FL ?_;refine RG ?_;(repeat first|refine WO ?_|refine Ai λX=>?_|refine Ay λY=>?_);refine NL ?_;refine FL ?_;refine BL rfl rfl ?_;(repeat first|refine WK ?_|refine Ai λX=>?_|refine Ay λY=>?_);refine RT ?_;exact AW [iA 4] (stI k l) ⟨rfl,rfl⟩
theorem Spec.ttI{P:Program}{f:FuncId}{args:List AV}{S:List AA}{β:Type}{r:β->AV}{So:β->List AA}(h:Spec P f args S λr' S'=>∃q,r'=r q/\S'=So q):Spec P f args S λr' S'=>∃q,(λ_:β=>True) q/\r'=r q/\S'=So q:=
 h.mono λr' S' ⟨q,e1,e2⟩=>⟨q,trivial,e1,e2⟩
theorem HC(k:StK)(l:List (Int×Int))(n v:Int)(hn:256<=n):Spec Try.prog 6 [.ptr k.X 0 0,iA n,iA v] (stI k l) λr S'=>r=iA 1/\S'=stI k l:=by
 have hn1:decide (n<0)=false:=decide_eq_false (by omega);have hn2:decide (n>=256)=true:=decide_eq_true (by omega);refine Spec.of (nt:=62) (res:=[.tmp 6]) Try.func6 rfl (by kernel_rfl) rfl rfl rfl λSf=>?_
 refine RG ?_;(repeat first|refine WO ?_|refine Ai λX=>?_|refine Ay λY=>?_);refine NL ?_;refine FL ?_;refine RG ?_;(repeat first|refine WO ?_|refine Ai λX=>?_|refine Ay λY=>?_);refine NL ?_;refine FL ?_;refine BL rfl hn2 ?_;(repeat first|refine WK ?_|refine Ai λX=>?_|refine Ay λY=>?_);refine RT ?_;exact AW [iA 1] (stI k l) ⟨rfl,rfl⟩
theorem E1(k:StK)(l:List (Int×Int))(hl:ColOK l):Spec Try.prog 12 [.ptr k.X 0 0] (stI k l) λr S'=>r=Ak true (AC l)/\S'=stI k l:=by
 have hlen:=hl.len;have hc:=GQ (AC l) (by rw[List.length_map];omega);have hrk:(l.map λe=>iA e.1)=(AC l).map iA:=by rw[AC,List.map_map];rfl
 have hkl:((AC l).map iA).length=l.length:=by simp
 refine Spec.of (nt:=8) (res:=[.tmp 2]) Try.func12 rfl (by kernel_rfl) rfl rfl rfl λSf=>?_
 refine RG ?_;(repeat first|refine WO ?_|refine Ai λX=>?_|refine Ay λY=>?_);refine NL ?_;unfold stI;rw[hrk];obtain⟨ks,hks⟩:∃x,AC l=x:=⟨_,rfl⟩;rw[hks]at hc hkl⊢;refine FL ?_;refine RG ?_;(repeat first|refine WO ?_|refine Ai λX=>?_|refine Ay λY=>?_);refine HU (h:=hc) (l0:=Ld.row (l:=ks.map iA) (h:=.next (.next .here)) (hn:=hkl.symm)) (hr:=FO (λ_=>rfl) _) (k:=λY=>?_);(repeat first|refine WO ?_|refine Ai λX=>?_|refine Ay λY=>?_);refine AOps.nil ?_;refine RT ?_;exact⟨[.sl Y 0 (ks.map iA).length],[Ak true ks],_,_,.cons (.tmp rfl) rfl .nil,.cons (.cell (.sl (p:=0) .here rfl)) .nil,by exact Sub.f,rfl,rfl⟩
theorem E0(k:StK)(l:List (Int×Int))(hl:ColOK l):Spec Try.prog 10 [.ptr k.X 0 0] (stI k l) λr S'=>∃q:Nat×Nat×List Int,(q.2.2.Perm (AC l)/\q.2.2.Pairwise λa b=>a<=b)/\r= .tup []/\S'=stI ⟨k.X,q.1,q.2.1,k.M⟩ (BZ l q.2.2):=by
 have hlen:=hl.len;have hkl:(AC l).length=l.length:=List.length_map _
 have hfz:AV.frzs (((l.map λe=>iA e.1).drop 0).take l.length)=(AC l).map iA:=by
  rw[List.drop_zero,List.take_of_length_le (by simp),Bp,List.map_map,AC,List.map_map];rfl
 have hv:=Fu (AC l);have hs:=FI 55 [.fp [Ak false (AC l)]] rfl (AC l) (Ea (AC l) (by omega)) (by omega);refine Spec.of (nt:=62) (res:=[]) Try.func10 rfl (by kernel_rfl) rfl rfl rfl λSf=>?_
 refine AWP.iceIn (X:=k.R) (Y:=k.X) (.next (.next .here)) .here rfl (.cons (.agg (.cons .same (.cons (.base (.sl (by simp))) (.cons .same .nil)))) .nil) ?_;rw[hfz];refine RG ?_;(repeat first|(refine AOps.gN ?_;first|(refine AOps.g_callf ?_;first|refine Bi (h:=(hv ..)) (k:=?_))|refine HR (h:=hs) (k:=λu hu Y=>?_))|refine WO ?_|refine Ai λX=>?_|refine Ay λY=>?_);refine NL ?_;obtain⟨hup,hus⟩:=hu;have hul:u.length=l.length:=by rw[hup.length_eq,hkl]
 have hum:(u.map iA).length=u.length:=List.length_map _;rw[hum];refine FL ?_;refine RG ?_;(repeat first|(refine AOps.gN ?_;first|(refine FC ?_;refine HO (iA 0) λK=>?_))|refine WO ?_|refine Ai λX=>?_|refine Ay λY=>?_);refine NL ?_;have hud:u.Nodup:=hup.nodup_iff.2 hl.nd;have hmx:l.length<maxLen:=by unfold maxLen;omega
 refine FL ?_;refine RG ?_;(repeat first|refine WO ?_|refine Ai λX=>?_|refine Ay λY=>?_);refine NL ?_;refine FL ?_;have hf0:List.replicate u.length (iA 0)=(BX l u 0).map iA:=by rw[FT,List.map_replicate]
 rw[hf0];refine BY (λi:Nat=>⟨[(0,.ptr k.X 0 0),(2,.sl Y 0 u.length),(3,.sl K 0 u.length),(17,.sl Y 0 u.length),(18,iA (u.length:Nat)),(19,iA (i:Nat))],(K,.row 3 1 ((BX l u i).map iA))::(Y,.row 3 1 (u.map iA))::(k.X,.row 73 3 [.agg [.sl k.V 0 l.length,Ak false (AC l),.mp k.M]])::(k.V,.row 3 1 (l.map λe=>iA e.2))::(k.M,.ob (MapF Try.prog 3 3 (ixG (AC l)) l.length))::Sf⟩) (λi=>i<=u.length) (λi=>u.length-i) 0 (Nat.zero_le _) ?_ ?_
 ·intro i hi
  have hfl:((BX l u i).map iA).length=u.length:=by rw[List.length_map,BI]
  refine RG ?_;(repeat first|refine WO ?_|refine Ai λX=>?_|refine Ay λY=>?_);refine NL ?_;refine FL ?_;refine AWP.cond rfl (λhc=>?_) (λhc=>?_)
  ·have h:i<u.length:=by have:=of_decide_eq_true hc;omega
   obtain⟨n,hn⟩:∃n,u[i]=n:=⟨_,rfl⟩;have hni:u[i]?=some n:=by rw[List.getElem?_eq_getElem h,hn]
   have hnk:n∈AC l:=hup.mem_iff.1 (List.mem_of_getElem? hni);have hnl:=hl.lt n hnk;obtain⟨v,hv⟩:=CB hnk;have hx:=CA hnk;have hfn:=FU l hni;rw[show(Ad l n).getD 0=v by unfold Ad;rw[hv];rfl]at hfn;have hat:(l.map λe=>iA e.2)[(AC l).idxOf n]?=some (iA v):=by rw[List.getElem?_map,hv];rfl
   have h1:(ixG (AC l) n).getD (.int .i64 0)= .int .i64 ((AC l).idxOf n:Nat):=by rw[Av hnk];rfl
   obtain⟨j,hj⟩:∃j,(AC l).idxOf n=j:=⟨_,rfl⟩;rw[hj]at hx hat h1;have hua:(u.map iA)[i]?=some (iA n):=by rw[List.getElem?_map,hni];rfl
   have hst:((BX l u i).map iA).set i (iA v)=(BX l u (i+1)).map iA:=by rw[<-hfn,List.map_set]
   refine FL ?_;refine RG ?_;(repeat first|refine WO ?_|refine Ai λX=>?_|refine Ay λY=>?_);refine NL ?_;refine FL ?_;have hfl0:=BI l u i;have hfa:((BX l u i).map iA)[i]?=some (iA ((BX l u i)[i]'(by omega))):=Aq _ (by omega);refine RU ?_;(repeat first|(refine RGo.gN ?_;first|refine RGo.go (h:=Fr _ h1 (by omega) rfl rfl (by exact At.f)) (k:=?_)|refine RGo.go (h:=W.idx (a:=j) rfl rfl (by exact At.f) rfl (by omega) (Nat.zero_add _)) (k:=?_))|(refine AL ?_;first|refine RGo.go (h:=Fr _ h1 (by omega) rfl rfl (by exact At.f)) (k:=?_)|refine RGo.go (h:=W.idx (a:=j) rfl rfl (by exact At.f) rfl (by omega) (Nat.zero_add _)) (k:=?_))|refine RK ?_|refine RGo.nil (by kernel_rfl) ?_);dsimp only[AF,List.set_cons_zero,List.set_cons_succ];rw[hst];refine FL ?_;refine RG ?_;(repeat first|refine WO ?_|refine Ai λX=>?_|refine Ay λY=>?_);refine NL ?_;refine BA (i+1) (by omega)
  ·have h:i=u.length:=by have:=of_decide_eq_false hc;omega
   subst h;rw[GN];clear hfl;have hkk:(AC l).Perm u:=hup.symm;rw[show ixG (AC l)=C4 (AC l) u 0 from(GG _ _).symm];refine FL ?_;refine RG ?_;(repeat first|refine WO ?_|refine Ai λX=>?_|refine Ay λY=>?_);refine NL ?_;refine FL ?_;refine BY (λi:Nat=>⟨[(0,.ptr k.X 0 0),(2,.sl Y 0 u.length),(3,.sl K 0 u.length),(40,.sl Y 0 u.length),(41,iA (u.length:Nat)),(42,iA (i:Nat))],(K,.row 3 1 (((BZ l u).map λx=>x.2).map iA))::(Y,.row 3 1 (u.map iA))::(k.X,.row 73 3 [.agg [.sl k.V 0 l.length,Ak false (AC l),.mp k.M]])::(k.M,.ob (MapF Try.prog 3 3 (C4 (AC l) u i) l.length))::Sf⟩) (λi=>i<=u.length) (λi=>u.length-i) 0 (Nat.zero_le _) ?_;intro i hi;refine RG ?_;(repeat first|refine WO ?_|refine Ai λX=>?_|refine Ay λY=>?_);refine NL ?_;refine FL ?_;refine AWP.cond rfl (λhc=>?_) (λhc=>?_)
   ·have h:i<u.length:=by have:=of_decide_eq_true hc;omega
    obtain⟨n,hn⟩:∃n,u[i]=n:=⟨_,rfl⟩;have hni:u[i]?=some n:=by rw[List.getElem?_eq_getElem h,hn]
    have hnu:=List.mem_of_getElem? hni;have hnl:=hl.lt n (hup.mem_iff.1 hnu);have hua:(u.map iA)[i]?=some (iA n):=by rw[List.getElem?_map,hni];rfl
    have hnx:=GI (ks:=AC l) hud hni;have hsz:(if(C4 (AC l) u i n).isSome then l.length else l.length+1)=l.length:=if_pos (GH hup hnu);refine FL ?_;refine RG ?_;(repeat first|refine WO ?_|refine Ai λX=>?_|refine Ay λY=>?_);refine NL ?_;refine FL ?_;refine RG ?_;(repeat first|(refine AOps.gN ?_;first|refine AOps.goS (h:=W.mapUpd (PlainV.int (by kernel_rfl) (BV (by omega))) (by omega) hmx rfl rfl rfl (by exact At.f)) (k:=?_))|refine WO ?_|refine Ai λX=>?_|refine Ay λY=>?_);refine NL ?_;rw[hnx,hsz];refine FL ?_;refine RG ?_;(repeat first|refine WO ?_|refine Ai λX=>?_|refine Ay λY=>?_);refine NL ?_;refine BA (i+1) (by omega)
   ·have h:i=u.length:=by have:=of_decide_eq_false hc;omega
    subst h;rw[G5 hup];have hsl:=DQ l u
    have hrk:u.map iA=(BZ l u).map λe=>iA e.1:=by
     have:=congrArg (List.map iA) (BQ l u);rw[AC,List.map_map]at this;exact this.symm
    refine FL ?_;refine RG ?_;(repeat first|refine WO ?_|refine Ai λX=>?_|refine Ay λY=>?_);dsimp only[AF,List.set_cons_zero,List.set_cons_succ];refine AOps.front k.M ?_;refine AOps.front Y ?_;refine AOps.front K ?_;refine AOps.front k.X ?_;refine AOps.nil ?_;refine Bs ?_;exact Aa _ ⟨(K,Y,u),⟨hup,hus⟩,rfl,EK (n:=u.length) (m:=u.length) (c:=l.length) hsl.symm hsl.symm (vs:=((BZ l u).map λx=>x.2).map iA) (by rw[List.map_map];rfl) hrk (by rw[BQ]) (by dsimp only;omega)⟩
 ·exact⟨by exact Lk.f,by exact Sub.f⟩
theorem HD(x n:Int)(hn:1<=n)(h2:n<=4611686018427387904):PS Try.prog 9 [iA x,iA n] (iA (x%n)):=by
 refine Spec.of (nt:=14) (res:=[.tmp 4]) Try.func9 rfl (by kernel_rfl) rfl rfl rfl λSf=>?_
 have h3:x.tmod n<n:=Int.tmod_lt_of_pos _ (by omega)
 have h4: -n<x.tmod n:=by
  have:=Int.lt_tmod_of_pos x (b:=n) (by omega);exact this
 have h5:x.tmod n=x%n\/x.tmod n+n=x%n/\x.tmod n<0:=by
  rw[Int.tmod_eq_emod];split
  ·exact .inl (by simp)
  ·have:=Int.emod_nonneg x (b:=n) (by omega)
   have:=Int.emod_lt_of_pos x (b:=n) (by omega);refine .inr ?_;have:((n.natAbs:Nat):Int)=n:=by omega
   omega
 have h6:=Int.emod_nonneg x (b:=n) (by omega);(repeat first|(refine AOps.gN ?_;first|refine AOps.p (W.rem rfl rfl (by omega)) rfl ?_)|refine WK ?_|refine Ai λX=>?_|refine Ay λY=>?_);refine AWP.cond rfl (λhb=>?_) (λhb=>?_)
 ·have hb:x.tmod n<0:=by simpa using hb
  (repeat first|refine WK ?_|refine Ai λX=>?_|refine Ay λY=>?_);refine RT ?_;exact Cj rfl rfl (by exact Sub.f) ⟨by rw[show x.tmod n+n=x%n from by omega],rfl⟩
 ·have hb:¬x.tmod n<0:=by simpa using hb
  (repeat first|refine WK ?_|refine Ai λX=>?_|refine Ay λY=>?_);refine RT ?_;exact Cj rfl rfl (by exact Sub.f) ⟨by rw[show x.tmod n=x%n from by omega],rfl⟩
theorem GO(a b:List Int)(hl:a.length<=1099511627776):PS Try.prog 11 [Ak false a,Ak false b] (bA (decide (a=b))):=by
 refine Spec.of (nt:=26) (res:=[.tmp 4]) Try.func11 rfl (by kernel_rfl) rfl rfl rfl λSf=>?_
 (repeat first|refine WK ?_|refine Ai λX=>?_|refine Ay λY=>?_);refine AWP.cond rfl (λhb=>?_) (λhb=>?_)
 ·have hb:a.length≠b.length:=by simp at hb;omega
  (repeat first|refine WK ?_|refine Ai λX=>?_|refine Ay λY=>?_);refine RT ?_;refine BC ?_;rw[decide_eq_false λe=>hb (by rw[e])]
 ·have hb:a.length=b.length:=by simp at hb;omega
  (repeat first|refine WK ?_|refine Ai λX=>?_|refine Ay λY=>?_);refine BY (λi:Nat=>⟨[(0,Ak false a),(1,Ak false b),(12,iA (a.map iA).length),(13,iA i)],Sf⟩) (λi=>i<=a.length/\∀j (h:j<a.length),j<i->a[j]=b[j]'(by omega)) (λi=>a.length-i) 0 ⟨Nat.zero_le _,λj h hj=>absurd hj (by omega)⟩ ?_;rintro i ⟨hi,he⟩;(repeat first|refine WK ?_|refine Ai λX=>?_|refine Ay λY=>?_);refine AWP.cond rfl (λhc=>?_) (λhc=>?_)
  ·have h:i<a.length:=by simpa using hc
   have h':i<b.length:=by omega
   (repeat first|refine WK ?_|refine Ai λX=>?_|refine Ay λY=>?_);refine RU ?_;(repeat first|refine RK ?_|refine RGo.nil (by kernel_rfl) ?_);(repeat first|refine WK ?_|refine Ai λX=>?_|refine Ay λY=>?_);refine AWP.cond rfl (λhd=>?_) (λhd=>?_)
   ·have hd:a[i]≠b[i]:=by simpa using hd
    (repeat first|refine WK ?_|refine Ai λX=>?_|refine Ay λY=>?_);refine RT ?_;refine BC ?_;rw[decide_eq_false λe=>hd (by subst e;rfl)]
   ·have hd:a[i]=b[i]:=by simpa using hd
    (repeat first|refine WK ?_|refine Ai λX=>?_|refine Ay λY=>?_);refine BA (i+1) ⟨h,λj h1 h2=>?_⟩;by_cases e:j=i
    ·subst e;exact hd
    ·exact he j h1 (by omega)
  ·have h:¬i<a.length:=by simpa using hc
   (repeat first|refine WK ?_|refine Ai λX=>?_|refine Ay λY=>?_);refine RT ?_;refine BC ?_;rw[decide_eq_true (List.ext_getElem hb λj h1 h2=>he j h1 (by omega))]
section
open Go.RowKit
def CW(w:World):Mem:=⟨λ_=>none,λ_=>False,w,λb=>b<w.heap.size⟩
theorem FY(w:World):Good (CW w) (CW w) 0 [] []:=
 ⟨λz hz=>(by cases hz),.nil,λb hb=>(by cases hb),λb h=>h,.nil,λx hx=>(by cases hx),λx h=>h.elim,.refl _,rfl,rfl,rfl,Nat.le_refl _⟩
theorem Good.bel{w:World}{m':Mem}{N:Nat}{Z:Zs}{br:List Nat}(G:Good (CW w) m' N Z br):Below w.heap.size w m'.w:=
 ⟨G.os,G.tape,G.output,G.size,λk hk=>(G.le.F k hk).2⟩
theorem PS.calls_bool{P:Program}{f:FuncId}{args:List AV}{b:Bool}(h:PS P f args (bA b)){w:World}{vals:Array Value}(hv:VTs (CW w) args vals.toList []):
  Calls P f vals w λe w'=>e= .returned (.bool b)/\Below w.heap.size w w':=
 (h.run [] (CW w) 0 [] vals rfl (FY w) hv).mono λe w' ⟨v,r,S',m',N',Z',br,h1,h2,h3,G,h4,h5,h6⟩=>by
  subst h1 h2 h5;refine⟨?_,G.bel⟩;obtain⟨⟨h7,_⟩,_⟩:=h4;injection h7 with h7
  rw[h7]
theorem D8{α:Type}{m:Mem}{C:List Value->α->Prop}{sz:Nat}{f:α->AV}(hC:∀c x,C c x->VC m (f x) c []):∀{l:List α} {xs:List Value},Cells C sz xs l->VCs m (l.map f) xs []
 |[],_,h=>⟨h,rfl⟩
 |x::l,_,⟨c,ys,h1,h2,h3,h4⟩=>⟨c,ys,[],[],h1,rfl,hC c x h3,D8 hC h4⟩
theorem Di{w:World}{b o:Nat}{u:Value}(h:w.cell? ⟨b,o,none⟩=some u):∃arr t r,w.heap[b]?=some (.cells arr t r)/\arr[o]?=some u:=by
 unfold World.cell? at h;cases hb:w.heap[b]? with
 |none=>simp only[hb]at h;cases h
 |some blk=>
  cases blk with
  |cells c t r=>simp only[hb]at h;exact⟨c,t,r,rfl,by simpa using h⟩
  |_=>simp only[hb]at h;cases h
theorem IA{α:Type}{w:World}{C:World->Reg->List Value->α->Prop}{sz:Nat}{f:α->AV}{t:TypeId}{v:Value}{l:List α}(hsz:0<sz)(hC:∀c x,C w (Lt w) c x->VC (CW w) (f x) c [])(hw:∀x,(f x).width=sz)(h:Sl w (Lt w) sz C v l):VC (CW w) (.lst false t sz (l.map f)) [v] []:=by
 obtain⟨xs,⟨h1,A,cap,rfl,hn,hr⟩,hc⟩:=h;refine⟨rfl,A,cap,by simp,by simpa using hn,λe he=>by obtain⟨x,_,rfl⟩:=List.mem_map.1 he;exact hw x,λh0=>?_⟩;have h0:0<l.length:=by simpa using h0
 obtain⟨b,off,rfl,hb,hcell⟩:=hr h0;have hx:0<xs.length:=by rw[h1];exact Nat.mul_pos h0 hsz
 obtain⟨arr,t',r,h2,h3⟩:=Di (hcell 0 xs[0] (by simp));refine⟨b,off,arr,t',r,rfl,hb,h2,?_⟩
 have e:(arr.toList.drop off).take ((l.map f).length*sz)=xs:=by
  apply List.ext_getElem?;intro j;rw[List.getElem?_take];split
  ·rename_i hj
   have hj:j<xs.length:=by rw[h1];simpa using hj
   obtain⟨arr2,t2,r2,h4,h5⟩:=Di (hcell j xs[j] (by simp));rw[h2]at h4;injection h4 with h4
   injection h4 with h4
   subst h4;rw[List.getElem?_drop,List.getElem?_eq_getElem hj];simpa using h5
  ·rename_i hj
   rw[List.getElem?_eq_none];rw[h1];simpa using hj
 rw[e];exact D8 hC hc
theorem Hf{w:World}{v:Value}{l:List Int}(h:Ho w (Lt w) v l):VC (CW w) (Ak false l) [v] []:=
 IA (f:=iA) (by decide) (λc x hc=>⟨⟨hc,rfl⟩,rfl⟩) (λ_=>rfl) h
theorem HV{m:Mem}:VTs m [] [] []:=⟨rfl,rfl⟩
theorem Gd{w:World}{v:Value}{z:List Int}{l:List AV}{us:List Value}(h:Ho w (Lt w) v z)(k:VTs (CW w) l us []):VTs (CW w) (Ak false z::l) (v::us) []:=(AK rfl).2 ⟨_,_,[],[],rfl,rfl,Hf h,k⟩
end
section
open Go.RowKit
instance tPtrCI:TPtr Try.prog 23:=⟨73,by kernel_rfl,by kernel_rfl⟩
instance mapIK:TMapK Try.prog 29 3 3 (.int .i64 0):=⟨by kernel_rfl,λw=>by kernel_rfl,PlainV.int (by kernel_rfl) rfl⟩
noncomputable def keyN:KeyC Try.prog 3 Int:=IE Try.prog 3 (by kernel_rfl)
theorem Gf{l:List (Int×Int)}(x:Int)(v:Value)(h:A7 l x=some v):v.oneCell'=true:=by
 obtain⟨m,_,rfl⟩:=Option.map_eq_some_iff.1 h;rfl
theorem EN{n:Int}(h:0<=n/\n<256):keyN.ok n:=by constructor<;>omega
set_option maxRecDepth 8000 in
theorem Dg(z:List Int)(hz8:z.length*8<=140737488351232)(hz:∀x∈z,I64 x):PS Try.prog 3 [Ak false z] (bA true):=by
 have hzl:(z.map iA).length=z.length:=List.length_map _;refine Spec.of (nt:=134) (res:=[.tmp 2]) Try.func3 rfl (by kernel_rfl) rfl rfl rfl λSf=>?_
 refine RG ?_;(repeat first|refine WO ?_|refine Ai λX=>?_|refine Ay λY=>?_);refine NL ?_;refine FL ?_;have hnew:=newI_sp.ttI;refine RG ?_;(repeat first|refine WO ?_|refine Ai λX=>?_|refine Ay λY=>?_);refine Ft [] (h:=hnew) (k:=λk _=>?_);(repeat first|refine WO ?_|refine Ai λX=>?_|refine Ay λY=>?_);refine Ft [] (h:=hnew) (k:=λj _=>?_);(repeat first|refine WO ?_|refine Ai λX=>?_|refine Ay λY=>?_);refine AOps.nil ?_;have c0:ColOK ([]:List (Int×Int)):=⟨.nil,λn h=>by cases h⟩;have c1:ColOK [((9:Int),(1:Int))]:=⟨List.pairwise_singleton ..,λn h=>by simp at h;omega⟩;have h1:=HC k [] 300 0 (by decide);have h2:=(De k [] c0 9 1 (by decide)).ttI;rw[show BS ([]:List (Int×Int)) 9 1=[(9,1)]from rfl]at h2;have h3:=λq:Nat×Nat=>E2 ⟨k.X,q.1,q.2,k.M⟩ [(9,1)]
 have h4:=λq:Nat×Nat=>HB ⟨k.X,q.1,q.2,k.M⟩ [(9,1)] c1 9 ⟨by decide,by decide⟩
 rw[show Ca [((9:Int),(1:Int))] 9=[]from rfl,show(if(9:Int)∈AC [((9:Int),(1:Int))]then(0:Int)else 4)=0 from rfl]at h4;refine FL ?_;refine RG ?_;(repeat first|refine WO ?_|refine Ai λX=>?_|refine Ay λY=>?_);refine AOps.go (h:=W.eqPtrN rfl rfl (by exact At.f) (by exact Nat.succ_pos _)) (k:=?_);(repeat first|(refine AOps.gN ?_;first|refine AOps.go (h:=W.eqPtrN rfl rfl (by exact At.f) (by exact Nat.succ_pos _)) (k:=?_))|refine WO ?_|refine Ai λX=>?_|refine Ay λY=>?_);refine Hq (stI j []) (h:=h1) (k:=?_);(repeat first|refine WO ?_|refine Ai λX=>?_|refine Ay λY=>?_);refine EX (stI j []) (h:=h2) (k:=λq _=>?_);obtain⟨A,B⟩:=q;dsimp only;(repeat first|refine WO ?_|refine Ai λX=>?_|refine Ay λY=>?_);refine Cu (stI j []) (h:=h3 (A,B)) (k:=?_);(repeat first|refine WO ?_|refine Ai λX=>?_|refine Ay λY=>?_);refine EW (stI j []) (h:=h4 (A,B)) (k:=?_);(repeat first|refine WO ?_|refine Ai λX=>?_|refine Ay λY=>?_);refine AOps.nil ?_;refine FL ?_;refine AH rfl rfl ?_;refine FL ?_;refine RG ?_;(repeat first|(refine AOps.gN ?_;first|(refine CG ?_;refine FB keyN λM=>?_))|refine WO ?_|refine Ai λX=>?_|refine Ay λY=>?_);refine NL ?_;refine FL ?_;refine RG ?_;(repeat first|refine WO ?_|refine Ai λX=>?_|refine Ay λY=>?_);refine NL ?_;rw[hzl];have g0:(λ_:Int=>(none:Option Value))=A7 []:=rfl;rw[g0];refine FL ?_;refine Bw (λ(i:Nat) (q:Nat×Nat) (l:List (Int×Int))=>⟨[(0,Ak false z),(3,.ptr k.X 0 0),(4,.ptr j.X 0 0),(5,.mp M),(47,Ak false z),(48,iA (z.length:Nat)),(49,iA (i:Nat))],(M,.ob (MapKF keyN 3 (A7 l) l.length))::(stI j []++(stI ⟨k.X,q.1,q.2,k.M⟩ l++Sf))⟩) (λi q l=>i<=z.length/\ColOK l) (λi q l=>z.length-i) 0 (A,B) [] ⟨Nat.zero_le _,c0⟩ ?_;rintro i ⟨A,B⟩ l ⟨hi,hl⟩;dsimp only;have hlen:=hl.len;have hmx:l.length<maxLen:=by unfold maxLen;omega
 refine RG ?_;(repeat first|refine WO ?_|refine Ai λX=>?_|refine Ay λY=>?_);refine NL ?_;refine FL ?_;refine AWP.cond rfl (λhc=>?_) (λhc=>?_)
 ·have h:i<z.length:=by have:=of_decide_eq_true hc;omega
  obtain⟨x,hx⟩:∃n,z[i]=n:=⟨_,rfl⟩;have hzi:z[i]?=some x:=by rw[List.getElem?_eq_getElem h,hx]
  have hxi:=hz x (List.mem_of_getElem? hzi);have hat:(z.map iA)[i]?=some (iA x):=by rw[List.getElem?_map,hzi];rfl
  have hb:=HD x 256 (by decide) (by decide);have hn:0<=x%256/\x%256<256:=⟨Int.emod_nonneg _ (by decide),Int.emod_lt_of_pos _ (by decide)⟩;have hp:=Ge hl hn x;have hsz:=Gg (l:=l) (n:=x%256) x;have hpt:=(De ⟨k.X,A,B,k.M⟩ l hl (x%256) x hn).ttI;have hok:=hl.put hn x;obtain⟨n,hnn⟩:∃n,x%256=n:=⟨_,rfl⟩;rw[hnn]at hb hn hp hsz hpt hok;refine FL ?_;refine RG ?_;(repeat first|refine WO ?_|refine Ai λX=>?_|refine Ay λY=>?_);refine NL ?_;refine FL ?_;refine RG ?_;(repeat first|(refine AOps.gN ?_;first|(refine AOps.g_callf ?_;first|refine AOps.c2 (h:=(hb ..)) (k:=?_)))|refine WO ?_|refine Ai λX=>?_|refine Ay λY=>?_);refine NL ?_;refine FL ?_;refine RG ?_;(repeat first|refine WO ?_|refine Ai λX=>?_|refine Ay λY=>?_);refine AOps.goS (h:=W.mapUpdK n (PlainV.int (by kernel_rfl) (BV hxi)) (by exact EN hn) hmx rfl rfl rfl (by exact At.f)) (k:=?_);dsimp only[List.set_cons_zero,AF];rw[show Eb (A7 l) n (.int .i64 x)=A7 (BS l n x)from hp,hsz];refine AOps.nil ?_;refine FL ?_;refine RG ?_;(repeat first|refine WO ?_|refine Ai λX=>?_|refine Ay λY=>?_);refine EX ((M,.ob (MapKF keyN 3 (A7 (BS l n x)) (BS l n x).length))::stI j []) (h:=hpt) (k:=λq _=>?_);obtain⟨A2,B2⟩:=q;dsimp only;refine AOps.nil ?_;refine FL ?_;refine RG ?_;(repeat first|refine WO ?_|refine Ai λX=>?_|refine Ay λY=>?_);refine NL ?_;refine BM (i+1) (A2,B2) (BS l n x) ⟨by omega,hok⟩
 ·clear hi
  refine FL ?_;refine RG ?_;(repeat first|refine WO ?_|refine Ai λX=>?_|refine Ay λY=>?_);refine NL ?_;refine FL ?_;refine Bw (λ(n:Int) (q:Nat×Nat) (m:List (Int×Int))=>⟨[(0,Ak false z),(3,.ptr k.X 0 0),(4,.ptr j.X 0 0),(5,.mp M),(9,iA n)],(M,.ob (MapKF keyN 3 (A7 l) l.length))::(stI ⟨j.X,q.1,q.2,j.M⟩ m++(stI ⟨k.X,A,B,k.M⟩ l++Sf))⟩) (λn q m=>-1<=n/\n<=255/\ColOK m/\∀x,Ad m x=if n<x then Ad l x else none) (λn q m=>(n+1).toNat) 255 (j.V,j.R) [] ⟨by decide,by decide,c0,λx=>?_⟩ ?_
  ·rw[show Ad ([]:List (Int×Int)) x=none from rfl]
   split
   ·rename_i hx
    refine(As λhk=>?_).symm;have:=hl.lt x hk;omega
   ·rfl
  rintro n ⟨A2,B2⟩ m ⟨h1,h2,hm,hg⟩;dsimp only;refine RG ?_;(repeat first|refine WO ?_|refine Ai λX=>?_|refine Ay λY=>?_);refine NL ?_;refine FL ?_;refine AWP.cond rfl (λhc=>?_) (λhc=>?_)
  ·have hn:0<=n/\n<256:=by have:=of_decide_eq_true hc;omega
   have hn2: -9223372036854775808<=n/\n<=9223372036854775807:=by omega
   refine FL ?_;cases hgl:Ad l n with
   |none=>
    have e1:(A7 l n).getD (.int .i64 0)= .int .i64 0:=by unfold A7;rw[hgl];rfl
    have e2:(A7 l n).isSome=false:=by unfold A7;rw[hgl];rfl
    refine RG ?_;(repeat first|(refine AOps.gN ?_;first|refine AOps.go (h:=E4 n _ false e1 e2 (by exact EN hn) rfl rfl (by exact At.f)) (k:=?_))|refine WO ?_|refine Ai λX=>?_|refine Ay λY=>?_);refine NL ?_;refine FL ?_;refine RG ?_;(repeat first|refine WO ?_|refine Ai λX=>?_|refine Ay λY=>?_);refine NL ?_;refine AH rfl rfl ?_;refine FL ?_;refine RG ?_;(repeat first|(refine AOps.gN ?_;first|refine AOps.go (h:=AG (n-1) (by omega) (by omega) rfl rfl) (k:=?_))|refine WO ?_|refine Ai λX=>?_|refine Ay λY=>?_);refine NL ?_;refine BM (n-1) (A2,B2) m ⟨by omega,by omega,hm,λx=>?_⟩;rw[hg];by_cases hx:n<x
    ·rw[if_pos hx,if_pos (by omega)]
    ·rw[if_neg hx]
     by_cases hx2:n-1<x
     ·rw[if_pos hx2,show x=n by omega,hgl]
     ·rw[if_neg hx2]
   |some v=>
    have e1:(A7 l n).getD (.int .i64 0)= .int .i64 v:=by unfold A7;rw[hgl];rfl
    have e2:(A7 l n).isSome=true:=by unfold A7;rw[hgl];rfl
    have hpt:=(De ⟨j.X,A2,B2,j.M⟩ m hm n v hn).ttI;refine RG ?_;(repeat first|(refine AOps.gN ?_;first|refine AOps.go (h:=E4 n _ true e1 e2 (by exact EN hn) rfl rfl (by exact At.f)) (k:=?_))|refine WO ?_|refine Ai λX=>?_|refine Ay λY=>?_);refine NL ?_;refine FL ?_;refine RG ?_;(repeat first|refine WO ?_|refine Ai λX=>?_|refine Ay λY=>?_);refine NL ?_;refine BL rfl rfl ?_;refine FL ?_;refine RG ?_;(repeat first|refine WO ?_|refine Ai λX=>?_|refine Ay λY=>?_);refine EX [(M,.ob (MapKF keyN 3 (A7 l) l.length))] (h:=hpt) (k:=λq _=>?_);obtain⟨A3,B3⟩:=q;dsimp only;refine AOps.nil ?_;refine FL ?_;refine RG ?_;(repeat first|(refine AOps.gN ?_;first|refine AOps.go (h:=AG (n-1) (by omega) (by omega) rfl rfl) (k:=?_))|refine WO ?_|refine Ai λX=>?_|refine Ay λY=>?_);refine NL ?_;refine BM (n-1) (A3,B3) (BS m n v) ⟨by omega,by omega,hm.put hn v,λx=>?_⟩;rw[D0 hm hn,hg];by_cases hx:x=n
    ·rw[if_pos hx,if_pos (by omega),hx,hgl]
    ·rw[if_neg hx]
     by_cases hx2:n<x
     ·rw[if_pos hx2,if_pos (by omega)]
     ·rw[if_neg hx2,if_neg (by omega)]
  ·have hn:n= -1:=by have:=of_decide_eq_false hc;omega
   subst hn
   have hgm:∀x,Ad m x=Ad l x:=λx=>by
    rw[hg];split
    ·rfl
    ·refine(As λhk=>?_).symm
     have:=hl.lt x hk;omega
   have hs1:=E0 ⟨k.X,A,B,k.M⟩ l hl;have hs2:=E0 ⟨j.X,A2,B2,j.M⟩ m hm;refine FL ?_;refine RG ?_;(repeat first|refine WO ?_|refine Ai λX=>?_|refine Ay λY=>?_);refine EY ((M,.ob (MapKF keyN 3 (A7 l) l.length))::stI ⟨j.X,A2,B2,j.M⟩ m) (h:=hs1) (k:=λq hq=>?_);obtain⟨A3,B3,u⟩:=q;obtain⟨hu1,hu2⟩:=hq;dsimp only at hu1 hu2⊢;refine AOps.nil ?_;refine FL ?_;refine RG ?_;(repeat first|refine WO ?_|refine Ai λX=>?_|refine Ay λY=>?_);refine EY [(M,.ob (MapKF keyN 3 (A7 l) l.length))] (h:=hs2) (k:=λq hq=>?_);obtain⟨A4,B4,v⟩:=q;obtain⟨hv1,hv2⟩:=hq;dsimp only at hv1 hv2⊢;obtain rfl:v=u:=Ef (hv1.trans ((GF hm hl hgm).trans hu1.symm)) hv2 hu2;refine AOps.nil ?_;have hvn:v.length=l.length:=by rw[hu1.length_eq,List.length_map]
   have hok1:=EJ hl hu1;have hok2:=EJ hm hv1;have r1:=E2 ⟨k.X,A3,B3,k.M⟩ (BZ l v);have r2:=E1 ⟨k.X,A3,B3,k.M⟩ (BZ l v) hok1;have r3:=E1 ⟨j.X,A4,B4,j.M⟩ (BZ m v) hok2;rw[DQ,hvn]at r1;rw[BQ]at r2 r3;have r4:=GO v v (by omega);rw[decide_eq_true rfl]at r4;have r5:=Et v (by omega) hu2;have hq:decide (((l.length:Nat):Int)≠(l.length:Nat))=false:=decide_eq_false λh=>h rfl
   refine FL ?_;refine RG ?_;(repeat first|refine WO ?_|refine Ai λX=>?_|refine Ay λY=>?_);refine Cu ((M,.ob (MapKF keyN 3 (A7 l) l.length))::stI ⟨j.X,A4,B4,j.M⟩ (BZ m v)) (h:=r1) (k:=?_);(repeat first|(refine AOps.gN ?_;first|refine AOps.go (h:=W.mapLenK rfl (by exact At.f)) (k:=?_))|refine WO ?_|refine Ai λX=>?_|refine Ay λY=>?_);rw[hq];(repeat first|refine WO ?_|refine Ai λX=>?_|refine Ay λY=>?_);refine Cu ((M,.ob (MapKF keyN 3 (A7 l) l.length))::stI ⟨j.X,A4,B4,j.M⟩ (BZ m v)) (h:=r2) (k:=?_);(repeat first|refine WO ?_|refine Ai λX=>?_|refine Ay λY=>?_);refine Cu [(M,.ob (MapKF keyN 3 (A7 l) l.length))] (h:=r3) (k:=?_);(repeat first|(refine AOps.gN ?_;first|(refine AOps.g_callf ?_;first|refine AOps.c2 (h:=(r4 ..)) (k:=?_)))|refine WO ?_|refine Ai λX=>?_|refine Ay λY=>?_);refine Cu ((M,.ob (MapKF keyN 3 (A7 l) l.length))::stI ⟨j.X,A4,B4,j.M⟩ (BZ m v)) (h:=r2) (k:=?_);(repeat first|(refine AOps.gN ?_;first|(refine AOps.g_callf ?_;first|refine Bi (h:=(r5 ..)) (k:=?_)))|refine WO ?_|refine Ai λX=>?_|refine Ay λY=>?_);refine AOps.nil ?_;refine FL ?_;refine AH rfl rfl ?_;refine FL ?_;refine RG ?_;(repeat first|refine WO ?_|refine Ai λX=>?_|refine Ay λY=>?_);refine AOps.range keyN rfl (by exact At.f) rfl λb r Mo It Y Z cnt hR=>?_
   refine AOps.nil ?_;dsimp only[List.cons_append,List.nil_append,List.set_cons_zero];refine FL ?_;refine BP (λ(cnt:Nat) (q:Obj×(Int->Bool))=>⟨[(0,Ak false z),(3,.ptr k.X 0 0),(4,.ptr j.X 0 0),(5,.mp M),(102,.prim (.pointer (some ⟨r,0,none⟩)))],(Y,lkA M b)::(Z,.raw r q.1)::(M,exA Mo)::(stI ⟨j.X,A4,B4,j.M⟩ (BZ m v)++(stI ⟨k.X,A3,B3,k.M⟩ (BZ l v)++Sf))⟩) (λcnt q=>Rng keyN 3 (A7 l) l.length b q.2 cnt Mo q.1) (λcnt q=>cnt) cnt (It,λx=>(A7 l x).isSome) hR ?_;rintro cnt ⟨It,left⟩ hR;dsimp only at hR⊢;refine RG ?_;refine AOps.next hR rfl (by exact At.f) (by exact At.f) (by exact At.f) rfl Gf (λhdone=>?_) (λx u I' cnt' c1 c2 c3 c4 c5 c6 c7=>?_)
   ·(repeat first|refine WO ?_|refine Ai λX=>?_|refine Ay λY=>?_)
    refine AOps.nil ?_;refine FL ?_;refine AH rfl rfl ?_;(repeat first|refine WK ?_|refine Ai λX=>?_|refine Ay λY=>?_);refine RT ?_;refine BC ?_;rfl
   ·obtain⟨y,hy,rfl⟩:=Option.map_eq_some_iff.1 c3
    have hx64:I64 x:=c1;have hav:keyN.av x=iA x:=rfl;have s1:=Ew ⟨k.X,A3,B3,k.M⟩ (BZ l v) hok1 x hx64 y (by rw[Ee hl hu1,hy]);have s2:=Ew ⟨j.X,A4,B4,j.M⟩ (BZ m v) hok2 x hx64 y (by rw[Ee hm hv1,hgm,hy]);have hyy:decide (y≠y)=false:=decide_eq_false λh=>h rfl
    rw[hav];(repeat first|refine WO ?_|refine Ai λX=>?_|refine Ay λY=>?_);refine AOps.nil ?_;refine FL ?_;refine BL rfl rfl ?_;refine FL ?_;refine RG ?_;(repeat first|(refine AOps.gN ?_;first|refine AOps.go (h:=W.entry (iA x) c7 rfl rfl (by exact At.f) (by exact At.f) (by exact At.f)) (k:=?_))|refine WO ?_|refine Ai λX=>?_|refine Ay λY=>?_);refine AOps.nil ?_;refine FL ?_;refine RG ?_;(repeat first|refine WO ?_|refine Ai λX=>?_|refine Ay λY=>?_);refine EW ((Y,lkA M b)::(Z,.raw r I')::(M,exA Mo)::stI ⟨j.X,A4,B4,j.M⟩ (BZ m v)) (h:=s1) (k:=?_);(repeat first|refine WO ?_|refine Ai λX=>?_|refine Ay λY=>?_);refine AOps.nil ?_;refine FL ?_;refine RG ?_;(repeat first|refine WO ?_|refine Ai λX=>?_|refine Ay λY=>?_);rw[hyy];(repeat first|refine WO ?_|refine Ai λX=>?_|refine Ay λY=>?_);refine AOps.nil ?_;refine AH rfl rfl ?_;refine FL ?_;refine RG ?_;(repeat first|refine WO ?_|refine Ai λX=>?_|refine Ay λY=>?_);refine EW [(Y,lkA M b),(Z,.raw r I'),(M,exA Mo)] (h:=s2) (k:=?_);(repeat first|refine WO ?_|refine Ai λX=>?_|refine Ay λY=>?_);refine AOps.nil ?_;refine FL ?_;refine RG ?_;(repeat first|refine WO ?_|refine Ai λX=>?_|refine Ay λY=>?_);rw[hyy];(repeat first|refine WO ?_|refine Ai λX=>?_|refine Ay λY=>?_);refine AOps.nil ?_;refine AH rfl rfl ?_;refine FL ?_;refine Aw cnt' (I',λy=>left y&& !decide (y=x)) c6 c5
theorem Fq(z0:List Int)(A0:Option Addr)(n0 cap0:Nat)(w:World)(h0:Ho w (Lt w) (.slice A0 n0 cap0) z0)(hlen0:z0.length*8<=140737488351232)(hz0:∀x∈z0,I64 x):
  Calls Try.prog 3 #[.slice A0 n0 cap0] w λe w'=>e= .returned (.bool true)/\Below w.heap.size w w':=
 (Dg z0 hlen0 hz0).calls_bool (Gd h0 (HV))
end
end Go.Proofs.Ytaodhkbppgenbaa
