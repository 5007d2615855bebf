/-
  Part 5 of the texts under the law TopMarks: the layer of abstract values, walks and plain laws. Conditions: those that each theorem names.
-/
import Derived.WalkKit
import Derived.Lib.Hide
import Derived.Deep.OwnRows
import Derived.Deep.Draws
import Derived.Test.YtmkahplhnbbgmaaGreatChecked
import Derived.ProofKit
import Derived.OpenShut
import Derived.ShutString
import Derived.ChangeOld
import Derived.Below
import Derived.SizedLaws
import Derived.Deep.Slices
import Derived.Deep.Fields
import Derived.ChangeSame
import Derived.Test.YtmkahplhnbbgmaaGreatProg
import Derived.Sort.AssemblyPlain
import Derived.Test.YtmkahplhnbbgmaaGreatTopMarksP4
namespace Go.Proofs.YtmkahplhnbbgmaaGreat
open Tryz
set_option linter.unusedVariables false
set_option linter.unusedSimpArgs false
set_option linter.defProp false
set_option maxRecDepth 10000
set_option maxHeartbeats 4000000
variable {α:Type}
variable {n:Int}
variable {i:Nat}
variable {vals:List Int}
variable {gens:List Int}
variable {k:Int}
variable {l:List Int}
structure Field where
 name:List UInt8
 bits:Int
 low:Int
structure Kind where
 name:List UInt8
 fields:List Field
structure Ent where
 n:Int
 gen:Int
structure Comp where
 kind:Int
 vals:List Int
structure Item where
 ent:Ent
 comps:List Comp
structure Wd where
 kinds:List Kind
 gens:List Int
 items:List Item
structure Evt where
 sys:Int
 ent:Ent
 val:Int
structure Ref where
 kind:Int
 field:Int
structure Arg where
 has:Bool
 n:Int
 ref:Ref
structure Op where
 act:Int
 to:Ref
 a:Arg
 b:Arg
structure Sys where
 name:List UInt8
 wth:List Int
 wout:List Int
 reads:List Int
 writes:List Int
 ops:List Op
 spawn:List Comp
instance:DecidableEq Field:=λa b=>decidable_of_iff (a.name=b.name/\a.bits=b.bits/\a.low=b.low) (by cases a;cases b;simp)
instance:DecidableEq Kind:=λa b=>decidable_of_iff (a.name=b.name/\a.fields=b.fields) (by cases a;cases b;simp)
instance:DecidableEq Ent:=λa b=>decidable_of_iff (a.n=b.n/\a.gen=b.gen) (by cases a;cases b;simp)
instance:Inhabited Ent:=⟨⟨default,default⟩⟩
instance:DecidableEq Comp:=λa b=>decidable_of_iff (a.kind=b.kind/\a.vals=b.vals) (by cases a;cases b;simp)
instance:Inhabited Comp:=⟨⟨default,default⟩⟩
instance:DecidableEq Item:=λa b=>decidable_of_iff (a.ent=b.ent/\a.comps=b.comps) (by cases a;cases b;simp)
instance:Inhabited Item:=⟨⟨default,default⟩⟩
instance:DecidableEq Wd:=λa b=>decidable_of_iff (a.kinds=b.kinds/\a.gens=b.gens/\a.items=b.items) (by cases a;cases b;simp)
instance:DecidableEq Ref:=λa b=>decidable_of_iff (a.kind=b.kind/\a.field=b.field) (by cases a;cases b;simp)
def I64(x:Int):Prop:=-9223372036854775808<=x/\x<=9223372036854775807
section
open Go.RowKit
abbrev Reg:=Nat->Prop
def Lt(w:World):Reg:=λb=>b<w.heap.size
def gK(S:Reg)(w w':World):Prop:=∀b,S b->w'.heap[b]?=w.heap[b]?
section
variable {w w' w'':World}{S T:Reg}
theorem bel{n m:Nat}{a b c:World}(h:Below n a b)(k:Below m b c)(hm:n<=m):Below n a c:=h.trans (k.mono hm)
def Row(w:World)(S:Reg)(sz:Nat)(v:Value)(n:Nat)(xs:List Value):Prop:=
 xs.length=n*sz/\∃A cap,v= .slice A n cap/\n<=cap/\(0<n->∃b off,A=some ⟨b,off,none⟩/\S b/\∀j u,xs[j]?=some u->w.cell? ⟨b,off+j,none⟩=some u)
variable {sz n:Nat}{v:Value}{xs:List Value}
theorem Row.nil(w:World)(S:Reg)(sz:Nat):Row w S sz (.slice none 0 0) 0 []:=⟨by simp,none,0,rfl,AP _,λh=>absurd h (by omega)⟩
end
def Cells{α:Type}(C:List Value->α->Prop)(sz:Nat):List Value->List α->Prop
 |xs,[]=>xs=[]
 |xs,x::l=>∃c ys,xs=c++ys/\c.length=sz/\C c x/\Cells C sz ys l
section
variable {α:Type}{C C':List Value->α->Prop}{sz:Nat}{xs ys:List Value}{l m:List α}
theorem Cells.nil:Cells C sz [] []:=rfl
theorem Cells.length(h:Cells C sz xs l):xs.length=l.length*sz:=by
 induction l generalizing xs with
 |nil=>have:xs=[]:=h;simp[this]
 |cons x l ih=>
  obtain⟨c,ys,rfl,h1,_,h3⟩:=h;simp[ih h3,h1,C3,Nat.add_comm]
end
def Sl{α:Type}(w:World)(S:Reg)(sz:Nat)(C:World->Reg->List Value->α->Prop)(v:Value)(l:List α):Prop:=
 ∃xs,Row w S sz v l.length xs/\Cells (C w S) sz xs l
section
variable {α:Type}{w w':World}{S T:Reg}{sz:Nat}{C:World->Reg->List Value->α->Prop}{v:Value}{l:List α}
theorem Sl.nil(w:World)(S:Reg)(sz:Nat)(C:World->Reg->List Value->α->Prop):Sl w S sz C (.slice none 0 0) []:=⟨[],Row.nil w S sz,.nil⟩
end
abbrev fO(l:List UInt8):Value:=.string ⟨l.toArray⟩
def gH(_:World)(_:Reg)(c:List Value)(x:Int):Prop:=c=[.int .i64 x]
def ep(_:World)(_:Reg)(c:List Value)(f:Field):Prop:=c=[fO f.name,.int .i64 f.bits,.int .i64 f.low]
abbrev Yp(w:World)(S:Reg)(v:Value)(l:List Int):Prop:=Sl w S 1 gH v l
abbrev Fields(w:World)(S:Reg)(v:Value)(l:List Field):Prop:=Sl w S 3 ep v l
def fg(w:World)(S:Reg)(c:List Value)(k:Kind):Prop:=∃vf,c=[fO k.name,vf]/\Fields w S vf k.fields
abbrev gI(w:World)(S:Reg)(v:Value)(l:List Kind):Prop:=Sl w S 2 fg v l
def fv(w:World)(S:Reg)(c:List Value)(x:Comp):Prop:=∃v,c=[.int .i64 x.kind,v]/\Yp w S v x.vals
abbrev gD(w:World)(S:Reg)(v:Value)(l:List Comp):Prop:=Sl w S 2 fv v l
def fh(w:World)(S:Reg)(c:List Value)(x:Item):Prop:=∃v,c=[.int .i64 x.ent.n,.int .i64 x.ent.gen,v]/\gD w S v x.comps
abbrev gJ(w:World)(S:Reg)(v:Value)(l:List Item):Prop:=Sl w S 3 fh v l
section
variable {w w':World}{S T:Reg}{v:Value}
variable {A:Option Addr}{n cap i:Nat}
end
section
variable {α:Type}{w w':World}{base:Nat}{e:TypeId}{S T:Reg}{sz:Nat}{C:World->Reg->List Value->α->Prop}{v:Value}{l:List α}
end
section
variable {w w':World}{b:Nat}{e:TypeId}{l:List Int}
end
section
variable {w w':World}{g:Nat}{t:TypeId}{cs:Array Value}
end
end
section
open Go.ChangeShapes Go.WideShapes Go.ChangeAt Go.RowKit Go.Deep
theorem fL{x:Int}(h:(Lit.int .i64 x).wf=true):I64 x:=by
 have:=h;simp[Lit.wf,IntKind.min,IntKind.max,IntKind.signed,IntKind.bits]at this;unfold I64;omega
theorem dD{sz:Nat}{cs:α->List Value}{f:Nat->Option Value}(hcs:∀x,(cs x).length=sz):∀(l:List α) (off:Nat),(∀i (hi:i<l.length) j u,(cs l[i])[j]?=some u->f (off+(i*sz+j))=some u)->
  ∀j u,(l.flatMap cs)[j]?=some u->f (off+j)=some u:=by
 intro l
 induction l with
 |nil=>intro off _ j u h;simp at h
 |cons x l ih=>
  intro off h j u hj;rw[CP]at hj;rcases Gz j sz with hlt|hge
  ·rw[CR (by rw[hcs];exact hlt)]at hj
   have:=h 0 (by simp) j u hj;simpa using this
  ·rw[Bd (by rw[hcs];exact hge),hcs]at hj
   have:=ih (off+sz) (λi hi j u hu=>by
    have:=h (i+1) (by simp;omega) j u hu;rwa[C3,Nat.one_mul,show off+(i*sz+sz+j)=off+sz+(i*sz+j) by omega]at this) (j-sz) u hj
   rwa[show off+sz+(j-sz)=off+j by omega]at this
theorem P7{sz:Nat}{cs:α->List Value}{C:List Value->α->Prop}(hcs:∀x,(cs x).length=sz)(hC:∀x,C (cs x) x)(l:List α):Cells C sz (l.flatMap cs) l:=by
 induction l with
 |nil=>rfl
 |cons x l ih=>exact⟨cs x,l.flatMap cs,by rw[CP],hcs x,hC x,ih⟩
theorem TT{w:World}{sz:Nat}{C:World->Reg->List Value->α->Prop}{a:Addr}{n cap:Nat}{l:List α}{cs:α->List Value}(hn:n<=cap)(hl:l.length=n)(hsz:0<sz)(hcs:∀x,(cs x).length=sz)(hC:∀x,C w (Lt w) (cs x) x)
  (hcell:∀i (hi:i<l.length) j u,(cs l[i])[j]?=some u->w.cell? (a.add (i*sz+j))=some u):Sl w (Lt w) sz C (.slice (some a) n cap) l:=by
 subst hl;refine⟨l.flatMap cs,⟨?_,some a,cap,rfl,hn,λh0=>?_⟩,P7 hcs hC l⟩
 ·have:=(P7 (C:=λ_ _=>True) hcs (λ_=>CZ) l).length
  exact this
 ·obtain⟨b,off,spot⟩:=a
  have h1:∃u,(cs l[0])[0]?=some u:=⟨_,Af (by rw[hcs];exact hsz)⟩;obtain⟨u,hu⟩:=h1;have h2:=hcell 0 h0 0 u hu;have hspot:spot=none:=by simpa[Addr.add]using World.cell?_spot h2
  subst hspot;refine⟨b,off,rfl,?_,?_⟩
  ·rw[Go.WideShapes.add_plain]at h2
   unfold World.cell? at h2;simp only at h2;show b<w.heap.size
   rcases Gz b w.heap.size with h|h
   ·exact h
   ·rw[Array.getElem?_eq_none h]at h2
    cases h2
  ·refine dD (f:=λk=>w.cell? ⟨b,k,none⟩) hcs l off λi hi j u hu=>?_
   have:=hcell i hi j u hu;rwa[Go.WideShapes.add_plain]at this
section
variable {H:Type}{enc:TypeId×Value->H}{w:World}{a:Option Addr}{len cap:Nat}{d:DataW H}{p:List MemPlace}
theorem fj(h:DataW.Trod enc prog w 0 (λ_=>true) true 22 (.slice a len cap) d p):
  ∃z:List Int,Yp w (Lt w) (.slice a len cap) z/\(z=[]\/∃elems spare,d= .slice elems spare/\z.length<=elems.length+spare.length):=by
 obtain⟨fuel,hf⟩:=h;rcases open_slice underlying22 hf with⟨hcs,_⟩|⟨x,l,c,m,n,D,Pl,hcs,hb,hl,hm,hmm,hx,hi⟩
 ·simp[Value.cells]at hcs
  obtain⟨rfl,rfl,rfl⟩:=hcs;exact⟨[],Sl.nil _ _ _ _,.inl rfl⟩
 ·simp[Value.cells]at hcs
  obtain⟨rfl,rfl,rfl⟩:=hcs;have hlm:len<=m:=by rw[hmm];split<;>omega
  have hex:∀i,∃e:Int,i<len->∀j u,([Value.int .i64 e])[j]?=some u->w.cell? (x.add (i*1+j))=some u:=by
   intro i;by_cases hil:i<len
   ·obtain⟨cs',hc,ht⟩:=hi i (by omega)
    rw[show prog.cellsOf 3=1 from by kernel_rfl]at hc;obtain⟨_,hcl,hat⟩:=World.cells?_some hc;obtain⟨k,rfl,_⟩:=DataW.trod_int underlying3 ht;refine⟨k,λ_ j u hu=>?_⟩
    have hj:j=0:=by
     have:=(AE.1 hu).1;simp at this;omega
    subst hj;have:=hat 0 (by omega);rw[Go.Deep.add_add]at this;rw[this,hu]
   ·exact⟨0,λh=>absurd h hil⟩
  obtain⟨f,hf'⟩:=Classical.axiomOfChoice hex;refine⟨(List.range len).map f,TT (cs:=λe=>[Value.int .i64 e]) hl (by simp) (by omega) (λ_=>rfl) (λ_=>rfl) (λi hi' j u hu=>?_),.inr ⟨_,_,(Prod.mk.inj hx).1,by simp⟩⟩;simp only[AH,XA]at hi';exact hf' i hi' j u (by simpa using hu)
end
end
instance:TAg prog 3 false:={}
instance:TSize prog 3 1:={}
instance:TZe prog 3 [.int .i64 0]:={}
instance:TBy prog 3 8:={}
instance:TAg prog 4 false:={}
instance:TSize prog 4 1:={}
instance:TZe prog 4 [.bool false]:={}
instance:TBy prog 4 1:={}
instance:TAg prog 9 false:={}
instance:TSize prog 9 1:={}
instance:TZe prog 9 [.string ByteArray.empty]:={}
instance:TSg prog 9:={}
instance:TAg prog 22 false:={}
instance:TSize prog 22 1:={}
instance:TZe prog 22 [.slice none 0 0]:={}
instance:TEl prog 22 3:={}
instance:TRo prog 22 3 1 8:={}
instance:TAg prog 23 false:={}
instance:TSize prog 23 1:={}
instance:TEl prog 23 90:={}
instance:TRo prog 23 90 2 40:={}
instance:TAg prog 24 false:={}
instance:TSize prog 24 1:={}
instance:TEl prog 24 83:={}
instance:TRo prog 24 83 3 40:={}
instance:TAg prog 26 true:={}
instance:TSize prog 26 3:={}
instance:TZe prog 26 [.slice none 0 0,.slice none 0 0,.slice none 0 0]:={}
instance:TFl prog 26 0 0 23:={}
instance:TFl prog 26 1 1 22:={}
instance:TFl prog 26 2 2 24:={}
instance:TSt prog 26 [.slice none 0 0,.slice none 0 0,.slice none 0 0] [(0,1),(1,1),(2,1)]:={}
instance:TAg prog 32 true:={}
instance:TSize prog 32 2:={}
instance:TZe prog 32 [.int .i64 0,.int .i64 0]:={}
instance:TFl prog 32 0 0 3:={}
instance:TFl prog 32 1 1 3:={}
instance:TSt prog 32 [.int .i64 0,.int .i64 0] [(0,1),(1,1)]:={}
instance:TAg prog 42 true:={}
instance:TSize prog 42 2:={}
instance:TZe prog 42 [.int .i64 0,.slice none 0 0]:={}
instance:TBy prog 42 32:={}
instance:TFl prog 42 0 0 3:={}
instance:TFl prog 42 1 1 22:={}
instance:TSt prog 42 [.int .i64 0,.slice none 0 0] [(0,1),(1,1)]:={}
instance:TAg prog 51 false:={}
instance:TSize prog 51 1:={}
instance:TEl prog 51 136:={}
instance:TRo prog 51 136 4 32:={}
instance:TEl prog 54 132:={}
instance:TRo prog 54 132 7 160:={}
instance:TEl prog 60 150:={}
instance:TRo prog 60 150 3 24:={}
instance:TAg prog 72 false:={}
instance:TSize prog 72 1:={}
instance:TAg prog 75 false:={}
instance:TSize prog 75 1:={}
instance:TFl prog 77 0 0 22:={}
instance:TSt prog 77 [.slice none 0 0] [(0,1)]:={}
instance:TAg prog 80 false:={}
instance:TSize prog 80 1:={}
instance:TEl prog 80 42:={}
instance:TRo prog 80 42 2 32:={}
instance:TAg prog 83 true:={}
instance:TSize prog 83 3:={}
instance:TZe prog 83 [.int .i64 0,.int .i64 0,.slice none 0 0]:={}
instance:TBy prog 83 40:={}
instance:TFl prog 83 0 0 32:={}
instance:TFl prog 83 1 2 80:={}
instance:TSt prog 83 [.int .i64 0,.int .i64 0,.slice none 0 0] [(0,2),(2,1)]:={}
instance:TAg prog 88 false:={}
instance:TSize prog 88 1:={}
instance:TEl prog 88 92:={}
instance:TRo prog 88 92 3 32:={}
instance:TAg prog 90 true:={}
instance:TSize prog 90 2:={}
instance:TZe prog 90 [.string ByteArray.empty,.slice none 0 0]:={}
instance:TBy prog 90 40:={}
instance:TFl prog 90 0 0 9:={}
instance:TFl prog 90 1 1 88:={}
instance:TSt prog 90 [.string ByteArray.empty,.slice none 0 0] [(0,1),(1,1)]:={}
instance:TAg prog 92 true:={}
instance:TSize prog 92 3:={}
instance:TZe prog 92 [.string ByteArray.empty,.int .i64 0,.int .i64 0]:={}
instance:TFl prog 92 0 0 9:={}
instance:TFl prog 92 1 1 3:={}
instance:TFl prog 92 2 2 3:={}
instance:TSt prog 92 [.string ByteArray.empty,.int .i64 0,.int .i64 0] [(0,1),(1,1),(2,1)]:={}
instance:TAg prog 112 false:={}
instance:TSize prog 112 1:={}
instance:TAg prog 113 false:={}
instance:TSize prog 113 1:={}
instance:TEl prog 113 117:={}
instance:TRo prog 113 117 1 8:={}
instance:TFl prog 115 0 0 23:={}
instance:TFl prog 115 1 1 22:={}
instance:TFl prog 115 2 2 113:={}
instance:TFl prog 115 3 3 112:={}
instance:TSt prog 115 [.slice none 0 0,.slice none 0 0,.slice none 0 0,.map none] [(0,1),(1,1),(2,1),(3,1)]:={}
instance:TAg prog 117 false:={}
instance:TSize prog 117 1:={}
instance:TZe prog 117 [.pointer none]:={}
instance:TAg prog 120 false:={}
instance:TSize prog 120 1:={}
instance:TAg prog 121 false:={}
instance:TSize prog 121 1:={}
instance:TEl prog 121 209:={}
instance:TRo prog 121 209 1 8:={}
instance:TFl prog 123 0 0 22:={}
instance:TFl prog 123 1 1 120:={}
instance:TFl prog 123 2 2 121:={}
instance:TSt prog 123 [.slice none 0 0,.pointer none,.slice none 0 0] [(0,1),(1,1),(2,1)]:={}
instance:TAg prog 130 false:={}
instance:TSize prog 130 1:={}
instance:TEl prog 130 229:={}
instance:TRo prog 130 229 11 88:={}
instance:TAg prog 132 true:={}
instance:TSize prog 132 7:={}
instance:TZe prog 132 [.string ByteArray.empty,.slice none 0 0,.slice none 0 0,.slice none 0 0,.slice none 0 0,.slice none 0 0,.slice none 0 0]:={}
instance:TFl prog 132 0 0 9:={}
instance:TFl prog 132 1 1 22:={}
instance:TFl prog 132 2 2 22:={}
instance:TFl prog 132 3 3 22:={}
instance:TFl prog 132 4 4 22:={}
instance:TFl prog 132 5 5 130:={}
instance:TFl prog 132 6 6 80:={}
instance:TSt prog 132 [.string ByteArray.empty,.slice none 0 0,.slice none 0 0,.slice none 0 0,.slice none 0 0,.slice none 0 0,.slice none 0 0] [(0,1),(1,1),(2,1),(3,1),(4,1),(5,1),(6,1)]:={}
instance:TAg prog 136 true:={}
instance:TSize prog 136 4:={}
instance:TZe prog 136 [.int .i64 0,.int .i64 0,.int .i64 0,.int .i64 0]:={}
instance:TSt prog 136 [.int .i64 0,.int .i64 0,.int .i64 0,.int .i64 0] [(0,1),(1,2),(3,1)]:={}
instance:TEl prog 138 139:={}
instance:TRo prog 138 139 1 24:={}
instance:TAg prog 139 false:={}
instance:TSize prog 139 1:={}
instance:TZe prog 139 [.slice none 0 0]:={}
instance:TEl prog 139 303:={}
instance:TRo prog 139 303 5 56:={}
instance:TAg prog 144 false:={}
instance:TSize prog 144 1:={}
instance:TFl prog 146 0 0 144:={}
instance:TFl prog 146 1 1 3:={}
instance:TSt prog 146 [.map none,.int .i64 0] [(0,1),(1,1)]:={}
instance:TAg prog 150 true:={}
instance:TSize prog 150 3:={}
instance:TZe prog 150 [.int .i64 0,.int .i64 0,.int .i64 0]:={}
instance:TFl prog 150 0 0 3:={}
instance:TFl prog 150 1 1 3:={}
instance:TSt prog 150 [.int .i64 0,.int .i64 0,.int .i64 0] [(0,1),(1,1),(2,1)]:={}
instance:TAg prog 151 true:={}
instance:TSize prog 151 2:={}
instance:TZe prog 151 [.int .i64 0,.int .i64 0]:={}
instance:TAg prog 159 false:={}
instance:TSize prog 159 1:={}
instance:TZe prog 159 [.nilFunc]:={}
instance:TEl prog 186 9:={}
instance:TEl prog 197 4:={}
instance:TAg prog 199 false:={}
instance:TSize prog 199 1:={}
instance:TZe prog 199 [.nilFunc]:={}
instance:TAg prog 209 false:={}
instance:TSize prog 209 1:={}
instance:TZe prog 209 [.pointer none]:={}
instance:TAg prog 214 false:={}
instance:TSize prog 214 1:={}
instance:TZe prog 214 [.slice none 0 0]:={}
instance:TEl prog 214 32:={}
instance:TRo prog 214 32 2 16:={}
instance:TAg prog 215 false:={}
instance:TSize prog 215 1:={}
instance:TFl prog 217 0 0 214:={}
instance:TFl prog 217 1 1 22:={}
instance:TFl prog 217 2 2 215:={}
instance:TSt prog 217 [.slice none 0 0,.slice none 0 0,.map none] [(0,1),(1,1),(2,1)]:={}
instance:TAg prog 225 true:={}
instance:TSize prog 225 2:={}
instance:TZe prog 225 [.int .i64 0,.int .i64 0]:={}
instance:TFl prog 225 0 0 3:={}
instance:TFl prog 225 1 1 3:={}
instance:TSt prog 225 [.int .i64 0,.int .i64 0] [(0,1),(1,1)]:={}
instance:TAg prog 227 true:={}
instance:TSize prog 227 4:={}
instance:TZe prog 227 [.bool false,.int .i64 0,.int .i64 0,.int .i64 0]:={}
instance:TFl prog 227 0 0 4:={}
instance:TFl prog 227 1 1 3:={}
instance:TFl prog 227 2 2 225:={}
instance:TSt prog 227 [.bool false,.int .i64 0,.int .i64 0,.int .i64 0] [(0,1),(1,1),(2,2)]:={}
instance:TAg prog 229 true:={}
instance:TSize prog 229 11:={}
instance:TZe prog 229 [.int .i64 0,.int .i64 0,.int .i64 0,.bool false,.int .i64 0,.int .i64 0,.int .i64 0,.bool false,.int .i64 0,.int .i64 0,.int .i64 0]:={}
instance:TFl prog 229 0 0 3:={}
instance:TFl prog 229 1 1 225:={}
instance:TFl prog 229 2 3 227:={}
instance:TFl prog 229 3 7 227:={}
instance:TSt prog 229 [.int .i64 0,.int .i64 0,.int .i64 0,.bool false,.int .i64 0,.int .i64 0,.int .i64 0,.bool false,.int .i64 0,.int .i64 0,.int .i64 0] [(0,1),(1,2),(3,4),(7,4)]:={}
instance:TAg prog 231 false:={}
instance:TSize prog 231 1:={}
instance:TZe prog 231 [.pointer none]:={}
instance:TAg prog 233 true:={}
instance:TSize prog 233 2:={}
instance:TZe prog 233 [.int .u64 0,.int .u64 0]:={}
instance:TFl prog 233 0 0 72:={}
instance:TFl prog 233 1 1 72:={}
instance:TSt prog 233 [.int .u64 0,.int .u64 0] [(0,1),(1,1)]:={}
instance:TFl prog 235 0 0 23:={}
instance:TFl prog 235 1 1 132:={}
instance:TFl prog 235 2 8 83:={}
instance:TFl prog 235 3 11 233:={}
instance:TFl prog 235 4 13 139:={}
instance:TFl prog 235 5 14 51:={}
instance:TFl prog 235 6 15 3:={}
instance:TSt prog 235 [.slice none 0 0,.string ByteArray.empty,.slice none 0 0,.slice none 0 0,.slice none 0 0,.slice none 0 0,.slice none 0 0,.slice none 0 0,.int .i64 0,.int .i64 0,.slice none 0 0,.int .u64 0,.int .u64 0,.slice none 0 0,.slice none 0 0,.int .i64 0] [(0,1),(1,7),(8,3),(11,2),(13,1),(14,1),(15,1)]:={}
instance:TEl prog 248 26:={}
instance:TAg prog 274 false:={}
instance:TSize prog 274 1:={}
instance:TEl prog 274 22:={}
instance:TRo prog 274 22 1 24:={}
instance:TFl prog 276 0 0 274:={}
instance:TFl prog 276 1 1 22:={}
instance:TFl prog 276 2 2 215:={}
instance:TSt prog 276 [.slice none 0 0,.slice none 0 0,.map none] [(0,1),(1,1),(2,1)]:={}
instance:TAg prog 293 false:={}
instance:TSize prog 293 1:={}
instance:TZe prog 293 [.slice none 0 0]:={}
instance:TEl prog 293 296:={}
instance:TRo prog 293 296 4 48:={}
instance:TAg prog 296 true:={}
instance:TSize prog 296 4:={}
instance:TZe prog 296 [.int .i64 0,.int .i64 0,.int .i64 0,.slice none 0 0]:={}
instance:TFl prog 296 0 0 3:={}
instance:TFl prog 296 1 1 83:={}
instance:TSt prog 296 [.int .i64 0,.int .i64 0,.int .i64 0,.slice none 0 0] [(0,1),(1,3)]:={}
instance:TAg prog 303 true:={}
instance:TSize prog 303 5:={}
instance:TZe prog 303 [.int .i64 0,.int .i64 0,.int .i64 0,.int .i64 0,.slice none 0 0]:={}
instance:TFl prog 303 0 0 3:={}
instance:TFl prog 303 1 1 32:={}
instance:TFl prog 303 2 3 3:={}
instance:TFl prog 303 3 4 80:={}
instance:TSt prog 303 [.int .i64 0,.int .i64 0,.int .i64 0,.int .i64 0,.slice none 0 0] [(0,1),(1,2),(3,1),(4,1)]:={}
instance:TAg prog 331 false:={}
instance:TSize prog 331 1:={}
instance:TZe prog 331 [.int .u64 0]:={}
instance:TEl prog 338 227:={}
abbrev iA(n:Int):AV:=.prim (.int .i64 n)
abbrev bA(b:Bool):AV:=.prim (.bool b)
abbrev sA(l:List UInt8):AV:=.prim (Fx l)
def fieldA(f:Field):AV:=.agg [sA f.name,iA f.bits,iA f.low]
abbrev IA(o:Bool)(l:List Field):AV:=.lst o 92 3 (l.map fieldA)
def CF(o:Bool)(k:Kind):AV:=.agg [sA k.name,IA o k.fields]
abbrev Ba(o o':Bool)(l:List Kind):AV:=.lst o 90 2 (l.map (CF o'))
abbrev Av(o:Bool)(l:List Int):AV:=.lst o 3 1 (l.map iA)
instance {f:Field}:Frz (fieldA f) (fieldA f):=⟨rfl⟩
instance {o:Bool}{k:Kind}:Frz (CF o k) (CF false k):=⟨by unfold CF;exact Frz.h⟩
def AZ(o:Bool)(c:Comp):AV:=.agg [iA c.kind,Av o c.vals]
abbrev B3(o o':Bool)(l:List Comp):AV:=.lst o 42 2 (l.map (AZ o'))
def AN(o:Bool)(x:Item):AV:=.agg [iA x.ent.n,iA x.ent.gen,B3 o o x.comps]
abbrev J9(o o':Bool)(l:List Item):AV:=.lst o 83 3 (l.map (AN o'))
def wdA(o:Bool)(w:Wd):AV:=.agg [Ba o o w.kinds,Av o w.gens,J9 o o w.items]
def CG(e:Ent):AV:=.agg [iA e.n,iA e.gen]
def FT(e:Evt):AV:=.agg [iA e.sys,iA e.ent.n,iA e.ent.gen,iA e.val]
instance {e:Ent}:Frz (CG e) (CG e):=⟨rfl⟩
instance {e:Evt}:Frz (FT e) (FT e):=⟨rfl⟩
instance {o:Bool}{k:Comp}:Frz (AZ o k) (AZ false k):=⟨by unfold AZ;exact Frz.h⟩
instance {o:Bool}{k:Item}:Frz (AN o k) (AN false k):=⟨by unfold AN;exact Frz.h⟩
instance {o:Bool}{k:Wd}:Frz (wdA o k) (wdA false k):=⟨by unfold wdA;exact Frz.h⟩
theorem Jo(f:α->AV)(h:∀a,(f a).frz=f a)(l:List α):AV.frzs (l.map f)=l.map f:=by
 rw[Hj,Dh];exact D4 λa _=>h a
theorem YC(o:Bool)(l:List Int):(Av o l).frz=Av false l:=by
 show AV.lst false _ _ (AV.frzs (l.map iA))=_
 rw[Jo _ λ_=>rfl]
theorem Vw(a b c d:Int)(w:World):(binOp .eql 32 (.agg #[.int .i64 a,.int .i64 b]) (.agg #[.int .i64 c,.int .i64 d])).run prog w= .ok (.bool (decide (a=c)&&decide (b=d))) w:=
 dN (by kernel_rfl) (by kernel_rfl) (by kernel_rfl) a b c d w
def RD(a b:Ent):Bool:=decide (a.n=b.n)&&decide (a.gen=b.gen)
theorem RC(a b:Ent):RD a b=decide (a=b):=by
 obtain⟨n,g⟩:=a;obtain⟨n',g'⟩:=b;rw[Ej];simp[RD]
def Bh(l:List Int)(n:Int):Int:=if n<1 then 0 else match l with|[]=>0|x::_=>x%n
def BW(l:List Int)(n:Int):List Int:=if n<1 then l else l.tail
theorem BX(l:List Int)(h:1<=n):0<=Bh l n/\Bh l n<n:=by
 unfold Bh;rw[AM (by omega)];split
 ·omega
 ·rename_i x _
  exact⟨Int.emod_nonneg x (by omega),Int.emod_lt_of_pos x (by omega)⟩
def Gs(k:Nat):List UInt8:=match k with
 |0=>[115,112,111,116]
 |1=>[108,105,102,101]
 |2=>[116,101,97,109]
 |_=>[103,111,97,108]
def Ep(k:Nat):List UInt8:=match k with
 |0=>[120]
 |1=>[121]
 |_=>[122]
def Ed(i:Nat)(l:List Int):Field×List Int:=
 if Bh (BW (BW l 9) 40) 8=7 then(⟨Ep i,32,-2147483648⟩,BW (BW (BW l 9) 40) 8)
 else(⟨Ep i,1+Bh l 9,Bh (BW l 9) 40-30⟩,BW (BW (BW l 9) 40) 8)
def DB:Nat->Nat->List Int->List Field×List Int
 |_,0,l=>([],l)
 |i,c+1,l=>((Ed i l).1::(DB (i+1) c (Ed i l).2).1,(DB (i+1) c (Ed i l).2).2)
def F5(k:Nat)(l:List Int):Kind×List Int:=
 (⟨Gs k,(DB 0 (1+Bh l 3).toNat (BW l 3)).1⟩,(DB 0 (1+Bh l 3).toNat (BW l 3)).2)
def CW:Nat->Nat->List Int->List Kind×List Int
 |_,0,l=>([],l)
 |k,c+1,l=>((F5 k l).1::(CW (k+1) c (F5 k l).2).1,(CW (k+1) c (F5 k l).2).2)
def Bu(l:List Int):List Kind×List Int:=CW 0 (1+Bh l 4).toNat (BW l 4)
theorem az(x n:Int)(hn:1<=n)(h2:n<=4611686018427387904):PS prog 50 [iA x,iA n] (iA (x%n)):=by
 refine Sp (nt:=14) (res:=[.tmp 4]) func50 λSf=>?_
 have h3:x.tmod n<n:=Int.tmod_lt_of_pos _ (by omega)
 have h4: -n<x.tmod n:=by
  have:=Int.lt_tmod_of_pos x (b:=n) (by omega);exact this
 have h5:x.tmod n=x%n\/x.tmod n+n=x%n/\x.tmod n<0:=by
  rw[Int.tmod_eq_emod];split
  ·exact .inl (by simp)
  ·have:=Int.emod_nonneg x (b:=n) (by omega)
   have:=Int.emod_lt_of_pos x (b:=n) (by omega);refine .inr ?_;have:((n.natAbs:Nat):Int)=n:=by omega
   omega
 have h6:=Int.emod_nonneg x (b:=n) (by omega)
 (iterate 8 refine WK ?_);refine AI (W.rem rfl rfl (by omega)) rfl ?_;refine KK ?_
 refine AC rfl (λhb=>?_) (λhb=>?_)
 ·have hb:x.tmod n<0:=by simpa using hb
  refine JA ?_;exact CL rfl rfl (by exact BH) ⟨by rw[show x.tmod n+n=x%n from by omega],rfl⟩
 ·have hb:¬x.tmod n<0:=by simpa using hb
  refine JA ?_;exact CL rfl rfl (by exact BH) ⟨by rw[show x.tmod n=x%n from by omega],rfl⟩
abbrev DD(l:List Int):AO:=.row 77 1 [.agg [Av false l]]
theorem EL(X:Nat)(l:List Int)(n:Int)(h2:n<=4611686018427387904):PO prog 33 [.ptr X 0 0,iA n] X (DD l) (iA (Bh l n)) (DD (BW l n)):=by
 refine Sp (nt:=33) (res:=[.tmp 4]) func33 λSf=>?_
 refine KK ?_;refine AC rfl (λhb=>?_) (λhb=>?_)
 ·refine KK ?_
  refine RT ?_;have hb:l.length=0\/n<1:=by simp only[Cf,Aj,AH]at hb;omega
  have e1:Bh l n=0:=by
   unfold Bh;split
   ·rfl
   ·rcases hb with hb|hb
    ·rw[GJ.1 hb]
    ·omega
  have e2:BW l n=l:=by
   unfold BW;split
   ·rfl
   ·rcases hb with hb|hb
    ·rw[GJ.1 hb];rfl
    ·omega
  rw[e1,e2];exact K1 rfl rfl (by exact BH) ⟨rfl,rfl⟩
 ·have hb:l.length≠0/\1<=n:=by simp only[Dq,Ao,AH]at hb;omega
  obtain⟨hb,hn⟩:=hb;cases l with
  |nil=>exact absurd rfl hb
  |cons x l=>
  (repeat first|(refine Bk ?_;first|refine AI (W.idxL rfl rfl (a:=0) rfl rfl) rfl ?_|refine AI (W.loL rfl rfl (a:=1) rfl (by simp)) rfl ?_|refine AI (W.call2 rfl rfl (az _ _ hn h2) rfl) rfl ?_)|refine WK ?_|refine Ai λX=>?_|refine Ay λY=>?_);refine RT ?_;rw[show Bh (x::l) n=x%n from by unfold Bh;rw[AM (by omega)],show BW (x::l) n=l from by unfold BW;rw[AM (by omega)];rfl];exact K1 (S':=[(X,DD l)]) rfl rfl (by exact BH) ⟨rfl,rfl⟩
def fAt:Nat->List Int->List Field×List Int
 |0,l=>([],l)
 |i+1,l=>((fAt i l).1++[(Ed i (fAt i l).2).1],(Ed i (fAt i l).2).2)
def kAt:Nat->List Int->List Kind×List Int
 |0,l=>([],l)
 |i+1,l=>((kAt i l).1++[(F5 i (kAt i l).2).1],(F5 i (kAt i l).2).2)
theorem Wy(i:Nat)(l:List Int):(fAt i l).1.length=i:=by
 induction i with
 |zero=>rfl
 |succ i ih=>simp[fAt,ih]
theorem Wt(i:Nat)(l:List Int):(kAt i l).1.length=i:=by
 induction i with
 |zero=>rfl
 |succ i ih=>simp[kAt,ih]
theorem dJ(c i:Nat)(l:List Int):((fAt i l).1++(DB i c (fAt i l).2).1,(DB i c (fAt i l).2).2)=fAt (i+c) l:=by
 induction c generalizing i with
 |zero=>simp[DB]
 |succ c ih=>
  rw[show i+(c+1)=(i+1)+c from by omega,<-ih (i+1)];simp[DB,fAt]
theorem ct(c i:Nat)(l:List Int):((kAt i l).1++(CW i c (kAt i l).2).1,(CW i c (kAt i l).2).2)=kAt (i+c) l:=by
 induction c generalizing i with
 |zero=>simp[CW]
 |succ c ih=>
  rw[show i+(c+1)=(i+1)+c from by omega,<-ih (i+1)];simp[CW,kAt]
theorem KE(c:Nat)(l:List Int):DB 0 c l=fAt c l:=by
 have:=dJ c 0 l;simpa[fAt]using this
theorem Hi(l:List Int):Bu l=kAt (1+Bh l 4).toNat (BW l 4):=by
 have:=ct (1+Bh l 4).toNat 0 (BW l 4);simpa[kAt,Bu]using this
theorem X6(h:i<4):[sA [115,112,111,116],sA [108,105,102,101],sA [116,101,97,109],sA [103,111,97,108]][i]?=some (sA (Gs i)):=by
 have:i=0\/i=1\/i=2\/i=3:=by omega
 rcases this with rfl|rfl|rfl|rfl<;>rfl
theorem YM(h:i<3):[sA [120],sA [121],sA [122]][i]?=some (sA (Ep i)):=by
 have:i=0\/i=1\/i=2:=by omega
 rcases this with rfl|rfl|rfl<;>rfl
theorem aB(G:Nat)(l:List Int):PO prog 32 [.ptr G 0 0] G (DD l) (Ba true false (Bu l).1) (DD (Bu l).2):=by
 refine Sp (nt:=55) (res:=[.tmp 2]) func32 λSf=>?_
 have h0:=BX l (n:=4) (by decide);refine KK ?_;refine AOps.o2 (h:=(EL G _ _ (by decide))) (k:=?_);refine KK ?_;refine AWP.adopt (d:=3) 90 2 rfl λK=>?_
 obtain⟨c,hc⟩:∃c:Nat,1+Bh l 4=c:=⟨(1+Bh l 4).toNat,by omega⟩;obtain⟨l0,hl0⟩:=nm (BW l 4);have hg:Bu l=kAt c l0:=by rw[Hi,hl0,show(1+Bh l 4).toNat=c from by omega]
 rw[hg,hl0,hc];have hc4:1<=c/\c<=4:=by omega
 clear hg hl0 hc h0;refine LP (λ(i K:Nat) (M:List AV) (q:List Int)=>⟨[(0,.ptr G 0 0),(3,.sl K 0 i),(10,iA c),(11,iA i)],(K,.row 90 2 M)::(G,DD q)::Sf⟩) (λi _ M q=>i<=c/\M=(kAt i l0).1.map (CF false)/\M.length=i/\q=(kAt i l0).2) (λi _ _ _=>c-i) 0 K [] l0 ⟨Ap _,rfl,rfl,rfl⟩ ?_;rintro i K M q ⟨hi,hM,hMl,hq⟩;refine KK ?_;refine AC rfl (λhb=>?_) (λhb=>?_)
 ·have h:i<c:=by rw[Aj]at hb;omega
  have h4:i<4:=by omega
  have h3:=BX q (n:=3) (by decide);have hkn:=X6 h4;refine KK ?_;refine Ai λY=>?_;refine KK ?_;refine AOps.o2 (h:=(EL G _ _ (by decide))) (k:=?_);refine KK ?_
  refine CY (Y:=Y) 92 3 .here (λF=>.cons (.agg (.s (.cons (.base .nil) .nil))) .nil) λF=>?_
  obtain⟨l1,hl1⟩:=nm (BW q 3);obtain⟨c1,hc1⟩:∃c1:Nat,1+Bh q 3=c1:=⟨(1+Bh q 3).toNat,by omega⟩
  have hgk:kAt (i+1) l0=((kAt i l0).1++[⟨Gs i,(fAt c1 l1).1⟩],(fAt c1 l1).2):=by
   rw[kAt,<-hq,F5,KE,show(1+Bh q 3).toNat=c1 from by omega,hl1]
  rw[hl1,hc1];have hc13:c1<=3:=by omega
  refine LP (λ(j F:Nat) (L:List AV) (r:List Int)=>⟨[(0,.ptr G 0 0),(3,.sl K 0 i),(5,.ptr Y 0 0),(10,iA c),(11,iA i),(21,iA c1),(22,iA j)],(F,.row 92 3 L)::(Y,.row 90 2 [.agg [sA (Gs i),.sl F 0 j]])::(K,.row 90 2 M)::(G,DD r)::Sf⟩) (λj _ L r=>j<=c1/\L=(fAt j l1).1.map fieldA/\L.length=j/\r=(fAt j l1).2) (λj _ _ _=>c1-j) 0 F [] l1 ⟨Ap _,rfl,rfl,rfl⟩ ?_;rintro j F L r ⟨hj,hL,hLl,hr⟩;refine KK ?_;refine AC rfl (λhd=>?_) (λhd=>?_)
  ·have hj':j<c1:=by rw[Aj]at hd;omega
   have h9:=BX r (n:=9) (by decide);have h40:=BX (BW r 9) (n:=40) (by decide);have hfn:=YM (i:=j) (by omega);refine KK ?_;refine CN λX7=>?_
   refine JM ?_;refine RGo.o2 (h:=(EL G _ _ (by decide))) (k:=?_);(iterate 4 refine RK ?_);refine RGo.nil (by kernel_rfl) ?_;(repeat first|(refine Bk ?_;first|(refine Bc ?_;first|refine AOps.o2 (h:=(EL G _ _ (by decide))) (k:=?_)))|refine WK ?_|refine Ai λX=>?_|refine Ay λY=>?_);refine AC rfl (λhe=>?_) (λhe=>?_)
   ·have he:Bh (BW (BW r 9) 40) 8=7:=by simpa using he
    have hg:Ed j r=(⟨Ep j,32,-2147483648⟩,BW (BW (BW r 9) 40) 8):=by rw[Ed,AY he]
    (iterate 11 refine WK ?_);refine Eg (fieldA ⟨Ep j,32,-2147483648⟩) ?_;refine WK ?_;refine Ay λY=>?_;refine KK ?_
    refine Hh (j+1) Y _ _ ⟨hj',?_,?_,?_⟩
    ·rw[fAt,<-hr,hg,hL,AT];rfl
    ·rw[Ak,hLl];rfl
    ·rw[fAt,<-hr,hg]
   ·have he:Bh (BW (BW r 9) 40) 8≠7:=by simpa using he
    have hg:Ed j r=(⟨Ep j,1+Bh r 9,Bh (BW r 9) 40-30⟩,BW (BW (BW r 9) 40) 8):=by rw[Ed,AM he]
    (iterate 6 refine WK ?_);refine Eg (fieldA ⟨Ep j,1+Bh r 9,Bh (BW r 9) 40-30⟩) ?_;refine WK ?_;refine Ay λY=>?_;refine KK ?_
    refine Hh (j+1) Y _ _ ⟨hj',?_,?_,?_⟩
    ·rw[fAt,<-hr,hg,hL,AT];rfl
    ·rw[Ak,hLl];rfl
    ·rw[fAt,<-hr,hg]
  ·have hj':j=c1:=by rw[Ao]at hd;omega
   subst hj';refine FL ?_;refine E9 (X:=F) (Y:=Y) .here (.next .here) rfl (.cons (.agg (.s (.cons (.base (.sl (by omega))) .nil))) .nil) ?_
   have hF:AV.frzs ((L.drop 0).take j)=(fAt j l1).1.map fieldA:=by
    rw[Cp,BB (by omega),hL];exact Frzs.h
   rw[hF]
   (iterate 3 refine WK ?_);refine Eg (CF false ⟨Gs i,(fAt j l1).1⟩) ?_;refine WK ?_;refine Ay λY=>?_;refine KK ?_
   refine Hh (i+1) Y _ _ ⟨h,?_,?_,?_⟩
   ·rw[hgk,hM,AT];rfl
   ·rw[Ak,hMl];rfl
   ·rw[hgk,hr]
 ·have h:i=c:=by rw[Ao]at hb;omega
  subst h;refine JA ?_;subst hM hq;refine⟨[.sl K 0 i],[.lst true 90 2 ((kAt i l0).1.map (CF false))],_,[(G,DD (kAt i l0).2)],.cons (.tmp rfl) rfl .nil,.cons (.cell (.sl (p:=0) .here (by rw[AH,Wt]))) .nil,by exact BH,rfl,rfl⟩
def fc(c:UInt8):Bool:=decide (97<=c)&&decide (c<=122)
def fo(c:UInt8):Bool:=decide (48<=c)&&decide (c<=57)
def Ua(l:List UInt8)(j:Nat):Bool:=fc (l.getD j 0)||(decide (0<j)&&fo (l.getD j 0))
def FN(l:List UInt8):Bool:=decide (0<l.length)&&decide (l.length<=16)&&(List.range l.length).all (Ua l)
def Bv(f:Field):Int:=if FN f.name&&decide (1<=f.bits)&&decide (f.bits<=32)&&decide (-4294967296<=f.low)&&decide (f.low<=4294967296)then 0 else 3
def DV:List Field->List Field->Int
 |_,[]=>0
 |pre,f::fs=>if Bv f≠0 then Bv f else if pre.any (λo=>o.name==f.name)then 5 else DV (pre++[f]) fs
def C9(k:Kind):Int:=if FN k.name then(if 8<k.fields.length then 2 else DV [] k.fields)else 3
def Fp(l:List Kind)(name:List UInt8):Int:=
 match l.findIdx? (λk=>k.name==name)with
 |some i=>i
 |none=>-1
def Ds:List Kind->List Kind->Int
 |_,[]=>0
 |pre,k::ks=>if C9 k≠0 then C9 k else if pre.any (λo=>o.name==k.name)then 5 else Ds (pre++[k]) ks
def CB(l:List Kind):Int:=if 16<l.length then 2 else Ds [] l
def HN(f:Field):Int:=if Bv f=0 then f.low+(2^f.bits.toNat-1)else 0
def Cx(f:Field)(v:Int):Int:=if Bv f=0 then max f.low (min v (HN f))else 0
def C8(k:Kind)(vals:List Int):List Int×Int:=
 if C9 k≠0 then([],C9 k)else if vals.length≠k.fields.length then([],1)else(List.zipWith Cx k.fields vals,0)
def Do(k:Kind)(vals:List Int):Bool:=decide ((C8 k vals).2=0)&&decide ((C8 k vals).1=vals)
theorem Lf{l:List Kind}{name:List UInt8}(h:∀j (hj:j<l.length),l[j].name≠name):Fp l name= -1:=by
 have:l.findIdx? (λk=>k.name==name)=none:=by
  rw[Dz];intro x hx;obtain⟨j,hj,rfl⟩:=Br hx;simpa using h j hj
 simp[Fp,this]
theorem Qq{l:List Kind}{name:List UInt8}(hi:i<l.length)(e:l[i].name=name)(h:∀j (hj:j<i),(l[j]'(by omega)).name≠name):Fp l name=i:=by
 have:l.findIdx? (λk=>k.name==name)=some i:=by
  rw[Cz];refine⟨hi,by simpa using e,λj hj=>?_⟩;simpa using h j hj
 simp[Fp,this]
theorem Sh{pre:List Kind}{k:Kind}{ks:List Kind}(h:C9 k≠0):Ds pre (k::ks)=C9 k:=by
 simp[Ds,h]
theorem PJ{pre:List Kind}{k:Kind}{ks:List Kind}(h:C9 k=0)(hf:0<=Fp pre k.name):Ds pre (k::ks)=5:=by
 have:pre.any (λo=>o.name==k.name)=true:=by
  rcases hc:pre.any (λo=>o.name==k.name)with _|_
  ·exfalso
   rw[CQ]at hc;rw[Lf (λj hj=>by simpa using hc _ (Ax hj))]at hf;omega
  ·rfl
 simp[Ds,h,this]
theorem Qh{pre:List Kind}{k:Kind}{ks:List Kind}(h:C9 k=0)(hf:Fp pre k.name<0):Ds pre (k::ks)=Ds (pre++[k]) ks:=by
 have:pre.any (λo=>o.name==k.name)=false:=by
  rcases hc:pre.any (λo=>o.name==k.name)with _|_
  ·rfl
  ·exfalso
   rw[Es]at hc;obtain⟨x,hx,e⟩:=hc;unfold Fp at hf;split at hf
   ·omega
   ·rename_i hn
    rw[Dz]at hn;exact absurd e (by simpa using hn x hx)
 simp[Ds,h,this]
theorem Kp{l:List Kind}(hi:i<l.length):Ds (l.take i) (l.drop i)=Ds (l.take i) (l[i]::l.drop (i+1)):=by
 rw[D9 hi]
theorem Sg{l:List Kind}(hi:l.length<=i):Ds (l.take i) (l.drop i)=0:=by
 rw[Cm hi];rfl
theorem Np(f:Field)(h:FN f.name=true)(hb:1<=f.bits/\f.bits<=32/\ -4294967296<=f.low/\f.low<=4294967296):Bv f=0:=by
 simp[Bv,h,hb]
theorem UN(f:Field)(h:FN f.name=true->¬(1<=f.bits/\f.bits<=32/\ -4294967296<=f.low/\f.low<=4294967296)):Bv f=3:=by
 unfold Bv;rw[AM];simp only[AF,Aj];intro hc;exact h hc.1.1.1.1 ⟨hc.1.1.1.2,hc.1.1.2,hc.1.2,hc.2⟩
theorem HQ(f:Field):Bv f=0↔FN f.name=true/\1<=f.bits/\f.bits<=32/\ -4294967296<=f.low/\f.low<=4294967296:=by
 constructor
 ·intro h
  unfold Bv at h;split at h
  ·rename_i hc
   simpa[and_assoc]using hc
  ·simp at h
 ·rintro⟨h,hb⟩
  exact Np f h hb
theorem Pp(f:Field):Bv f=0\/Bv f=3:=by
 unfold Bv;split<;>simp
theorem Qs{pre:List Field}{f:Field}{fs:List Field}(h:Bv f≠0):DV pre (f::fs)=Bv f:=by
 simp[DV,h]
theorem OD{pre:List Field}{f:Field}{fs:List Field}(h:Bv f=0){j:Nat}(hj:j<pre.length)(e:pre[j].name=f.name):DV pre (f::fs)=5:=by
 have:pre.any (λo=>o.name==f.name)=true:=by
  rw[Es];exact⟨pre[j],Ax hj,by simp[e]⟩
 simp[DV,h,this]
theorem Pn{pre:List Field}{f:Field}{fs:List Field}(h:Bv f=0)(e:∀j (hj:j<pre.length),pre[j].name≠f.name):DV pre (f::fs)=DV (pre++[f]) fs:=by
 have:pre.any (λo=>o.name==f.name)=false:=by
  rw[CQ];intro x hx;obtain⟨j,hj,rfl⟩:=Br hx;simpa using e j hj
 simp[DV,h,this]
theorem KG{l:List Field}(hi:i<l.length):DV (l.take i) (l.drop i)=DV (l.take i) (l[i]::l.drop (i+1)):=by
 rw[D9 hi]
theorem Qr{l:List Field}(hi:l.length<=i):DV (l.take i) (l.drop i)=0:=by
 rw[Cm hi];rfl
theorem Xw(l:List UInt8)(j:Nat)(hj:j<l.length)(h:Ua l j=false):FN l=false:=by
 have:(List.range l.length).all (Ua l)=false:=by
  rw[List.all_eq_false];exact⟨j,CK.2 hj,by simp[h]⟩
 simp[FN,this]
theorem VX(l:List UInt8)(h0:0<l.length)(h1:l.length<=16)(h:∀j,j<l.length->Ua l j=true):FN l=true:=by
 have:(List.range l.length).all (Ua l)=true:=by
  rw[Cu];intro x hx;exact h x (CK.1 hx)
 simp[FN,this,h0,h1]
theorem Tr(l:List UInt8)(h:l.length=0\/16<l.length):FN l=false:=by
 rcases h with h|h
 ·simp[FN,h]
 ·simp[FN,show¬l.length<=16 from by omega]
theorem ZV{b:Int}(h1:1<=b)(h2:b<=32):(2:Int)<=2^b.toNat/\(2:Int)^b.toNat<=4294967296:=by
 obtain⟨n,rfl⟩:∃n:Nat,b=n:=⟨b.toNat,by omega⟩;rw[By];have h:n=1\/n=2\/n=3\/n=4\/n=5\/n=6\/n=7\/n=8\/n=9\/n=10\/n=11\/n=12\/n=13\/n=14\/n=15\/n=16\/n=17\/n=18\/n=19\/n=20\/n=21\/n=22\/n=23\/n=24\/n=25\/n=26\/n=27\/n=28\/n=29\/n=30\/n=31\/n=32:=by omega
 rcases h with rfl|rfl|rfl|rfl|rfl|rfl|rfl|rfl|rfl|rfl|rfl|rfl|rfl|rfl|rfl|rfl|rfl|rfl|rfl|rfl|rfl|rfl|rfl|rfl|rfl|rfl|rfl|rfl|rfl|rfl|rfl|rfl<;>decide
theorem YG{f:Field}(h:Bv f=0):HN f=f.low+(2^f.bits.toNat-1):=by simp[HN,h]
theorem RY{f:Field}(h:Bv f=0):f.low<HN f/\HN f<=8589934592:=by
 have hb:=(HQ f).1 h;have:=ZV hb.2.1 hb.2.2.1;rw[YG h];omega
theorem SV(f:Field)(v:Int): -4294967296<=Cx f v/\Cx f v<=8589934592:=by
 rcases Pp f with h|h
 ·have:=RY h
  have hb:=(HQ f).1 h;simp only[Cx,h,Ga];omega
 ·simp[Cx,h]
theorem Pk{pre l:List Field}(h:DV pre l=0):∀f∈l,Bv f=0:=by
 induction l generalizing pre with
 |nil=>intro f hf;cases hf
 |cons x l ih=>
  intro f hf;simp only[DV]at h;split at h
  ·rename_i hx;exact absurd h hx
  ·rename_i hx
   split at h
   ·simp at h
   ·rcases AQ.1 hf with rfl|hf
    ·simpa using hx
    ·exact ih h f hf
theorem GY{k:Kind}(h:C9 k=0):FN k.name=true/\k.fields.length<=8/\∀f∈k.fields,Bv f=0:=by
 unfold C9 at h;split at h
 ·rename_i h1
  split at h
  ·simp at h
  ·rename_i h2
   exact⟨h1,by omega,Pk h⟩
 ·simp at h
def a6:Kind:=⟨[108,105,102,101],[⟨[120],8,0⟩]⟩
def baseWd:Wd:=⟨[a6],[0],[⟨⟨0,0⟩,[⟨0,[9]⟩]⟩]⟩
theorem LG(a b:List Int)(hl:a.length<=1099511627776):PS prog 37 [Av false a,Av false b] (bA (decide (a=b))):=by
 refine Sp (nt:=26) (res:=[.tmp 4]) func37 λSf=>?_
 refine KK ?_;refine AC rfl (λhb=>?_) (λhb=>?_)
 ·have hb:a.length≠b.length:=by simp at hb;omega
  refine JA ?_;refine Ag ?_;rw[Az λe=>hb (by rw[e])]
 ·have hb:a.length=b.length:=by simp at hb;omega
  refine KK ?_;refine B8 (λi:Nat=>⟨[(0,Av false a),(1,Av false b),(12,iA (a.map iA).length),(13,iA i)],Sf⟩) (λi=>i<=a.length/\∀j (h:j<a.length),j<i->a[j]=b[j]'(by omega)) (λi=>a.length-i) 0 ⟨Ap _,λj h hj=>absurd hj (by omega)⟩ ?_;rintro i ⟨hi,he⟩;refine KK ?_;refine AC rfl (λhc=>?_) (λhc=>?_)
  ·have h:i<a.length:=by simpa using hc
   have h':i<b.length:=by omega
   refine KK ?_;refine RU ?_;(iterate 9 refine RK ?_);refine RGo.nil (by kernel_rfl) ?_;refine WK ?_;refine AC rfl (λhd=>?_) (λhd=>?_)
   ·have hd:a[i]≠b[i]:=by simpa using hd
    refine JA ?_;refine Ag ?_;rw[Az λe=>hd (by subst e;rfl)]
   ·have hd:a[i]=b[i]:=by simpa using hd
    refine KK ?_;refine BM (i+1) ⟨h,λj h1 h2=>?_⟩;by_cases e:j=i
    ·subst e;exact hd
    ·exact he j h1 (by omega)
  ·have h:¬i<a.length:=by simpa using hc
   refine JA ?_;refine Ag ?_;rw[BG (Dj hb λj h1 h2=>he j h1 (by omega))]
def eqF{α:Type}(p:α->α->Bool):List α->List α->Bool
 |[],[]=>true
 |x::xs,y::ys=>p x y&&eqF p xs ys
 |_,_=>false
theorem OT{p:α->α->Bool}:{a b:List α}->a.length≠b.length->eqF p a b=false
 |[],[],h=>absurd rfl h
 |[],_::_,_=>rfl
 |_::_,[],_=>rfl
 |x::xs,y::ys,h=>by rw[eqF,OT (by simpa using h),Bool.and_false]
theorem Sv{p:α->α->Bool}:{a b:List α}->(hl:a.length=b.length)->{i:Nat}->(h:i<a.length)->p a[i] (b[i]'(by omega))=false->eqF p a b=false
 |[],_,_,_,h,_=>absurd h (by simp)
 |x::xs,[],hl,_,_,_=>by simp at hl
 |x::xs,y::ys,hl,0,h,hp=>by rw[eqF,show p x y=false from hp,Bool.false_and]
 |x::xs,y::ys,hl,i+1,h,hp=>by
  rw[eqF,Sv (a:=xs) (b:=ys) (by simpa using hl) (i:=i) (by simpa using h) hp,Bool.and_false]
theorem OS{p:α->α->Bool}:{a b:List α}->(hl:a.length=b.length)->(∀i (h:i<a.length),p a[i] (b[i]'(by omega))=true)->eqF p a b=true
 |[],[],_,_=>rfl
 |[],_::_,hl,_=>by simp at hl
 |x::xs,[],hl,_=>by simp at hl
 |x::xs,y::ys,hl,h=>by
  rw[eqF,show p x y=true from h 0 (by simp),OS (a:=xs) (b:=ys) (by simpa using hl) λi hi=>h (i+1) (by simpa using hi)];rfl
theorem Pr{p:α->α->Bool}[DecidableEq α]:{a b:List α}->(∀x∈a,∀y∈b,p x y=decide (x=y))->eqF p a b=decide (a=b)
 |[],[],_=>rfl
 |[],_::_,_=>rfl
 |_::_,[],_=>rfl
 |x::xs,y::ys,h=>by
  rw[eqF,h x (by simp) y (by simp),Pr λu hu v hv=>h u (by simp[hu]) v (by simp[hv])];by_cases e:x=y<;>by_cases e2:xs=ys<;>simp[e,e2]
theorem Lg(a b:List Comp)(f:FuncId)(cap:List AV)(p:Comp->Comp->Bool)(hs:DH cap=true)(hl:a.length<=4611686018427387904)(hf:∀x∈a,∀y∈b,PS prog f ((AZ false) x::(AZ false) y::cap) (bA (p x y))):
  PS prog 85 [.lst false 42 2 (a.map (AZ false)),.lst false 42 2 (b.map (AZ false)),.fn f cap] (bA (eqF p a b)):=by
 refine Sp (nt:=32) (res:=[.tmp 6]) func85 λSf=>?_
 refine KK ?_;refine AC rfl (λhb=>?_) (λhb=>?_)
 ·have hb:a.length≠b.length:=by simp at hb;omega
  refine JA ?_;refine Ag ?_;rw[OT hb]
 ·have hb:a.length=b.length:=by simp at hb;omega
  refine KK ?_;refine B8 (λi:Nat=>⟨[(0,.lst false 42 2 (a.map (AZ false))),(1,.lst false 42 2 (b.map (AZ false))),(2,.fn f cap),(15,.lst false 42 2 (a.map (AZ false))),(16,iA (a.map (AZ false)).length),(17,iA i)],Sf⟩) (λi=>i<=a.length/\∀j (h:j<a.length),j<i->p a[j] (b[j]'(by omega))=true) (λi=>a.length-i) 0 ⟨Ap _,λj h hj=>absurd hj (by omega)⟩ ?_;rintro i ⟨hi,he⟩;refine KK ?_;refine AC rfl (λhc=>?_) (λhc=>?_)
  ·have h:i<a.length:=by simpa using hc
   have h':i<b.length:=by omega
   refine KK ?_;refine Ai λX=>?_;refine KK ?_;refine Ai λX=>?_;refine KK ?_;refine KN (h:=(hf _ (Ax h) _ (Ax h'))) (k:=?_);refine KK ?_
   refine AC rfl (λhd=>?_) (λhd=>?_)
   ·have hd:p a[i] b[i]=false:=by simpa using hd
    refine JA ?_;refine Ag ?_;rw[Sv hb h hd]
   ·have hd:p a[i] b[i]=true:=by simpa using hd
    refine KK ?_;refine BM (i+1) ⟨h,λj h1 h2=>?_⟩;by_cases e:j=i
    ·subst e;exact hd
    ·exact he j h1 (by omega)
  ·have h:¬i<a.length:=by simpa using hc
   refine JA ?_;refine Ag ?_;rw[OS hb λj hj=>he j hj (by omega)]
theorem Qt(a b:List Item)(f:FuncId)(cap:List AV)(p:Item->Item->Bool)(hs:DH cap=true)(hl:a.length<=4611686018427387904)(hf:∀x∈a,∀y∈b,PS prog f ((AN false) x::(AN false) y::cap) (bA (p x y))):
  PS prog 83 [.lst false 83 3 (a.map (AN false)),.lst false 83 3 (b.map (AN false)),.fn f cap] (bA (eqF p a b)):=by
 refine Sp (nt:=32) (res:=[.tmp 6]) func83 λSf=>?_
 refine KK ?_;refine AC rfl (λhb=>?_) (λhb=>?_)
 ·have hb:a.length≠b.length:=by simp at hb;omega
  refine JA ?_;refine Ag ?_;rw[OT hb]
 ·have hb:a.length=b.length:=by simp at hb;omega
  refine KK ?_;refine B8 (λi:Nat=>⟨[(0,.lst false 83 3 (a.map (AN false))),(1,.lst false 83 3 (b.map (AN false))),(2,.fn f cap),(15,.lst false 83 3 (a.map (AN false))),(16,iA (a.map (AN false)).length),(17,iA i)],Sf⟩) (λi=>i<=a.length/\∀j (h:j<a.length),j<i->p a[j] (b[j]'(by omega))=true) (λi=>a.length-i) 0 ⟨Ap _,λj h hj=>absurd hj (by omega)⟩ ?_;rintro i ⟨hi,he⟩;refine KK ?_;refine AC rfl (λhc=>?_) (λhc=>?_)
  ·have h:i<a.length:=by simpa using hc
   have h':i<b.length:=by omega
   refine KK ?_;refine Ai λX=>?_;refine KK ?_;refine Ai λX=>?_;refine KK ?_;refine KN (h:=(hf _ (Ax h) _ (Ax h'))) (k:=?_);refine KK ?_
   refine AC rfl (λhd=>?_) (λhd=>?_)
   ·have hd:p a[i] b[i]=false:=by simpa using hd
    refine JA ?_;refine Ag ?_;rw[Sv hb h hd]
   ·have hd:p a[i] b[i]=true:=by simpa using hd
    refine KK ?_;refine BM (i+1) ⟨h,λj h1 h2=>?_⟩;by_cases e:j=i
    ·subst e;exact hd
    ·exact he j h1 (by omega)
  ·have h:¬i<a.length:=by simpa using hc
   refine JA ?_;refine Ag ?_;rw[OS hb λj hj=>he j hj (by omega)]
theorem UM(f g:Field)(w:World):(binOp .neq 92 (.agg [Fx f.name,.int .i64 f.bits,.int .i64 f.low].toArray) (.agg [Fx g.name,.int .i64 g.bits,.int .i64 g.low].toArray)).run prog w= .ok (.bool (decide (f≠g))) w:=by
 have h:=aa (P:=prog) (t:=92) (by kernel_rfl) (by kernel_rfl) (by kernel_rfl) ⟨f.name.toArray⟩ ⟨g.name.toArray⟩ f.bits f.low g.bits g.low w;rw[run_neq_struct];have e:(Op.equalIn 10000 92 (.agg [Fx f.name,.int .i64 f.bits,.int .i64 f.low].toArray) (.agg [Fx g.name,.int .i64 g.bits,.int .i64 g.low].toArray)).run prog w=_:=h;rw[e,AA,K7,K7]
 have hd:(!(decide (f.name=g.name)&&decide (f.bits=g.bits)&&decide (f.low=g.low)))=decide (f≠g):=by
  obtain⟨n,b,l⟩:=f;obtain⟨n',b',l'⟩:=g;rw[Ej];simp[or_assoc]
 rw[hd]
def KsL(ks:List Kind):Prop:=ks.length<=1099511627776/\∀k∈ks,k.fields.length<=1099511627776
def CsL(cs:List Comp):Prop:=cs.length<=1099511627776/\∀c∈cs,c.vals.length<=1099511627776
def ItL(l:List Item):Prop:=l.length<=1099511627776/\∀it∈l,CsL it.comps
structure WdL(w:Wd):Prop where
 ks:KsL w.kinds
 gens:w.gens.length<=1099511627776
 items:ItL w.items
theorem T6(a b:List Kind)(hl:KsL a):PS prog 100 [Ba false false a,Ba false false b] (bA (decide (a=b))):=by
 refine Sp (nt:=71) (res:=[.tmp 4]) func100 λSf=>?_
 obtain⟨hl0,hl1⟩:=hl;refine KK ?_;refine AC rfl (λhb=>?_) (λhb=>?_)
 ·have hb:a.length≠b.length:=by simp at hb;omega
  refine JA ?_;refine Ag ?_;rw[Az λe=>hb (by rw[e])]
 ·have hb:a.length=b.length:=by simp at hb;omega
  refine KK ?_;refine B8 (λi:Nat=>⟨[(0,Ba false false a),(1,Ba false false b),(13,iA (a.map (CF false)).length),(14,iA i)],Sf⟩) (λi=>i<=a.length/\∀j (h:j<a.length),j<i->a[j]=b[j]'(by omega)) (λi=>a.length-i) 0 ⟨Ap _,λj h hj=>absurd hj (by omega)⟩ ?_;rintro i ⟨hi,he⟩;refine KK ?_;refine AC rfl (λhc=>?_) (λhc=>?_)
  ·have h:i<a.length:=by simpa using hc
   have h':i<b.length:=by omega
   obtain⟨x,hx⟩:=nm (a[i]);obtain⟨y,hy⟩:=nm (b[i]);have hax:(a.map (CF false))[i]?=some (CF false x):=by rw[Ae,Af h,hx];rfl
   have hay:(b.map (CF false))[i]?=some (CF false y):=by rw[Ae,Af h',hy];rfl
   have hxl:=hl1 x (hx▸Ax h);have hno:¬x=y->¬a=b:=λhn e=>hn (by subst e;rw[<-hx,<-hy])
   refine KK ?_;refine RU ?_;(iterate 26 refine RK ?_);refine RGo.nil (by kernel_rfl) ?_;refine AC rfl (λhd=>?_) (λhd=>?_)
   ·refine KK ?_
    refine RT ?_;refine Ag ?_;rw[Az (hno λe=>by subst e;simp at hd)]
   ·have hd:x.name=y.name/\x.fields.length=y.fields.length:=by simp at hd;exact⟨hd.1,by omega⟩
    obtain⟨hd1,hd2⟩:=hd;refine KK ?_;refine B8 (λq:Nat=>⟨[(0,Ba false false a),(1,Ba false false b),(5,iA i),(13,iA (a.map (CF false)).length),(14,iA i),(48,iA (x.fields.map fieldA).length),(49,iA q)],Sf⟩) (λq=>q<=x.fields.length/\∀j (h:j<x.fields.length),j<q->x.fields[j]=y.fields[j]'(by omega)) (λq=>x.fields.length-q) 0 ⟨Ap _,λj h hj=>absurd hj (by omega)⟩ ?_;rintro q ⟨hq,hqe⟩;refine KK ?_;refine AC rfl (λhg=>?_) (λhg=>?_)
    ·have hqx:q<x.fields.length:=by simpa using hg
     have hqy:q<y.fields.length:=by omega
     obtain⟨f,hf⟩:=nm (x.fields[q]);obtain⟨g,hgf⟩:=nm (y.fields[q]);have haf:(x.fields.map fieldA)[q]?=some (fieldA f):=by rw[Ae,Af hqx,hf];rfl
     have hag:(y.fields.map fieldA)[q]?=some (fieldA g):=by rw[Ae,Af hqy,hgf];rfl
     refine KK ?_;refine RU ?_;(iterate 16 refine RK ?_);refine RGo.p (W.neP _ _ (by kernel_rfl) (UM f g) rfl rfl) rfl ?_;refine RGo.nil (by kernel_rfl) ?_;refine AC rfl (λhn=>?_) (λhn=>?_)
     ·have hn:f≠g:=by simpa using hn
      refine JA ?_;refine Ag ?_;rw[Az (hno λe=>hn (by subst e;rw[<-hf,<-hgf]))]
     ·have hn:f=g:=by simpa using hn
      refine KK ?_;refine BM (q+1) ⟨hqx,λj h1 h2=>?_⟩;by_cases e:j=q
      ·subst e;rw[hf,hgf,hn]
      ·exact hqe j h1 (by omega)
    ·have hqx:¬q<x.fields.length:=by simpa using hg
     refine KK ?_;refine BM (i+1) ⟨h,λj h1 h2=>?_⟩;by_cases e:j=i
     ·subst e
      rw[hx,hy];have hfe:x.fields=y.fields:=Dj hd2 λj h1 h2=>hqe j h1 (by omega)
      obtain⟨xn,xf⟩:=x;obtain⟨yn,yf⟩:=y;simp at hd1 hfe;rw[hd1,hfe]
     ·exact he j h1 (by omega)
  ·have h:¬i<a.length:=by simpa using hc
   refine JA ?_;refine Ag ?_;rw[BG (Dj hb λj h1 h2=>he j h1 (by omega))]
theorem au(x y:Comp):(decide (x.kind=y.kind)&&decide (x.vals=y.vals))=decide (x=y):=by
 obtain⟨k,v⟩:=x;obtain⟨k',v'⟩:=y;rw[Ej];simp
theorem eY(x y:Item):(RD x.ent y.ent&&decide (x.comps=y.comps))=decide (x=y):=by
 rw[RC];obtain⟨k,v⟩:=x;obtain⟨k',v'⟩:=y;rw[Ej];simp
theorem Qd(x y:Comp)(hl:x.vals.length<=1099511627776):PS prog 162 [AZ false x,AZ false y] (bA (decide (x=y))):=by
 have heq:=LG x.vals y.vals hl;rw[<-au];refine Sp (nt:=17) (res:=[.tmp 4]) func162 λSf=>?_
 refine RG ?_;refine BS ?_;refine BS ?_;refine JC ?_;rcases Ah (decide (x.kind=y.kind))with g|g
 ·rw[g]
  refine KK ?_;refine BP (h:=(heq ..)) (k:=?_);refine JA ?_;refine Ag ?_;rfl
 ·rw[g]
  refine JA ?_;refine Ag ?_;rfl
theorem SM(a b:List Comp)(hl:CsL a):PS prog 102 [B3 false false a,B3 false false b] (bA (decide (a=b))):=by
 have h:=Lg a b 162 [] (λx y=>decide (x=y)) rfl (by have:=hl.1;omega) (λx hx y _=>Qd x y (hl.2 x hx));rw[Pr λ_ _ _ _=>rfl]at h;refine Sp (nt:=8) (res:=[.tmp 4]) func102 λSf=>?_
 refine KK ?_;refine Fi (h:=(h ..)) (k:=?_);refine JA ?_;refine Ag ?_;rfl
theorem gF(x y:Wd):(decide (x.kinds=y.kinds)&&decide (x.gens=y.gens)&&decide (x.items=y.items))=decide (x=y):=by
 obtain⟨k,v,u⟩:=x;obtain⟨k',v',u'⟩:=y;rw[Ej];simp[and_assoc]
def Kc(l:List Item)(n:Int):Bool:=l.any λit=>decide (it.ent.n=n)
def Ra(w:Wd):Option Nat:=(List.range w.gens.length).find? λn=>!Kc w.items n&&decide (w.gens.getD n 0<1073741824)
def DI(w:Wd):Nat×Bool:=match Ra w with
 |some n=>(n,true)
 |none=>(w.gens.length,decide ((w.gens.length:Int)<256))
theorem UZ(s:List UInt8)(i:Nat):Ua s i=(decide ((97:Int)<=(s.getD i 0).toNat)&&decide (((s.getD i 0).toNat:Int)<=122)||decide ((0:Int)<i)&&decide ((48:Int)<=(s.getD i 0).toNat)&&decide (((s.getD i 0).toNat:Int)<=57)):=by
 have h:∀a b:UInt8,decide (a<=b)=decide ((a.toNat:Int)<=b.toNat):=λa b=>by simp[UInt8.le_iff_toNat_le]
 have h0:decide (0<i)=decide ((0:Int)<i):=by simp
 simp only[Ua,fc,fo,h,h0,Bool.and_assoc];rfl
theorem SW(s:List UInt8):PS prog 184 [sA s] (bA (FN s)):=by
 refine Sp (nt:=41) (res:=[.tmp 2]) func184 λSf=>?_
 refine KK ?_;refine AC rfl (λhb=>?_) (λhb=>?_)
 ·refine KK ?_
  refine RT ?_;refine CL rfl rfl (by exact BH) ⟨?_,rfl⟩;rw[Tr s (by simp only[Cf,Aj]at hb;omega)]
 have hb1:s.length≠0/\s.length<=16:=by simp only[Dq,Ao]at hb;omega
 (iterate 9 refine WK ?_);refine EM (λi:Nat=>⟨[(0,sA s),(14,iA s.length),(15,iA i)],Sf⟩) (λi=>i<=s.length/\∀j,j<i->Ua s j=true) (λi=>s.length-i) 0 ⟨by omega,by omega⟩ ⟨.cons rfl (.cons rfl (.cons rfl .nil)),DT _⟩ ?_
 rintro i ⟨hi,hn⟩;refine KK ?_;refine AC rfl (λhb=>?_) (λhb=>?_)
 ·have h:i<s.length:=by simpa using hb
  (iterate 12 refine WK ?_);refine AI (W.idxStr rfl rfl rfl h) rfl ?_;refine KK ?_
  refine AC rfl (λhc=>?_) (λhc=>?_)
  ·refine KK ?_
   refine RT ?_;refine CL rfl rfl (by exact BH) ⟨?_,rfl⟩;rw[<-UZ]at hc;rw[Xw s i h (by simpa using hc)]
  ·refine KK ?_
   refine⟨i+1,⟨by omega,λj hj=>?_⟩,by omega,.cons rfl (.cons rfl (.cons rfl .nil)),by exact BH⟩;rw[<-UZ]at hc;by_cases e:j=i
   ·subst e;simpa using hc
   ·exact hn j (by omega)
 ·have h:¬i<s.length:=by simpa using hb
  refine JA ?_;refine CL rfl rfl (by exact BH) ⟨?_,rfl⟩;rw[VX s (by omega) hb1.2 λj hj=>hn j (by omega)]
theorem Po(f:Field):PS prog 219 [fieldA f] (iA (Bv f)):=by
 refine Sp (nt:=27) (res:=[.tmp 2]) func219 λSf=>?_
 refine KK ?_;refine Ai λX=>?_;(iterate 7 refine WK ?_);refine AI (W.call1 rfl (SW _) rfl) rfl ?_;refine KK ?_
 refine AC rfl (λhb=>?_) (λhb=>?_)
 ·refine KK ?_
  refine RT ?_;refine CL rfl rfl (by exact BH) ⟨?_,rfl⟩;rw[UN f λhn hk=>?_];simp only[hn,Io,Bool.false_or,Cf,Aj]at hb;omega
 ·refine KK ?_
  refine RT ?_;refine CL rfl rfl (by exact BH) ⟨?_,rfl⟩;simp only[Dq,Bool.not_eq_false',Ao]at hb;rw[Np f hb.1.1.1.1 (by omega)]
theorem cz(f:Field):PS prog 220 [fieldA f] (iA (HN f)):=by
 refine Sp (nt:=13) (res:=[.tmp 2]) func220 λSf=>?_
 refine KK ?_;refine Ai λX=>?_;(iterate 6 refine WK ?_);refine AI (W.call1 rfl (Po _) rfl) rfl ?_;refine KK ?_
 refine AC rfl (λhb=>?_) (λhb=>?_)
 ·have hb:Bv f≠0:=by simpa using hb
  refine JA ?_;refine CL rfl rfl (by exact BH) ⟨?_,rfl⟩;simp[HN,hb]
 have hb:Bv f=0:=by simpa using hb
 have h1:=(HQ f).1 hb;obtain⟨n,hn⟩:∃n:Nat,f.bits=n:=⟨f.bits.toNat,by omega⟩
 have hp:(2:Int)^n<=4294967296/\1<=(2:Int)^n:=by
  have hn2:n<=32:=by omega
  clear hn;have:∀n,n<=32->(2:Int)^n<=4294967296/\1<=(2:Int)^n:=by decide
  exact this n hn2
 have hw:IntKind.i64.wrap (1*2^n)=2^n:=by rw[Int.one_mul];exact Gl (by omega) (by omega)
 refine KK ?_;refine RU ?_;(iterate 4 refine RK ?_);refine RGo.p (W.shl rfl rfl hn (by show n<=64;omega)) rfl ?_;refine RGo.p (W.sub rfl rfl (by rw[hw];omega)) rfl ?_;refine RGo.p (W.add rfl rfl (by rw[hw];omega)) rfl ?_;refine RK ?_;refine RGo.nil (by kernel_rfl) ?_;refine WK ?_;refine RT ?_;refine CL rfl rfl (by exact BH) ⟨?_,rfl⟩;simp only[hw];simp[HN,hb,hn]
theorem Wm(f:Field)(v:Int):PS prog 167 [fieldA f,iA v] (iA (Cx f v)):=by
 refine Sp (nt:=15) (res:=[.tmp 4]) func167 λSf=>?_
 refine KK ?_;refine Ai λX=>?_;(iterate 6 refine WK ?_);refine AI (W.call1 rfl (Po _) rfl) rfl ?_;refine KK ?_
 refine AC rfl (λhb=>?_) (λhb=>?_)
 ·have hb:Bv f≠0:=by simpa using hb
  refine JA ?_;refine CL rfl rfl (by exact BH) ⟨?_,rfl⟩;simp[Cx,hb]
 have hb:Bv f=0:=by simpa using hb
 refine KK ?_;refine RU ?_;(iterate 4 refine RK ?_);refine RGo.p (W.call1 rfl (cz _) rfl) rfl ?_;(iterate 3 refine RK ?_);refine RGo.nil (by kernel_rfl) ?_;refine WK ?_;refine RT ?_;refine CL rfl rfl (by exact BH) ⟨?_,rfl⟩;rw[show Cx f v=max f.low (min v (HN f))from by simp[Cx,hb]];simp only[Int.max_def,Int.min_def]
 congr 2
 (repeat' split)<;>omega
theorem Zu(k:Kind):PS prog 163 [CF false k] (iA (C9 k)):=by
 refine Sp (nt:=45) (res:=[.tmp 2]) func163 λSf=>?_
 refine WK ?_;refine WK ?_;refine FQ λX1=>?_;refine Dl (W.box rfl .here rfl) rfl ?_;(iterate 7 refine WK ?_);refine AI (W.call1 rfl (SW _) rfl) rfl ?_;refine KK ?_
 refine AC rfl (λhb=>?_) (λhb=>?_)
 ·refine KK ?_
  refine RT ?_;refine CL rfl rfl (by exact BH) ⟨?_,rfl⟩;have hb:FN k.name=false:=by simpa using hb
  rw[show C9 k=3 from by simp[C9,hb]]
 have hn:FN k.name=true:=by simpa using hb
 refine KK ?_;refine AC rfl (λhb=>?_) (λhb=>?_)
 ·refine KK ?_
  refine RT ?_;refine CL rfl rfl (by exact BH) ⟨?_,rfl⟩;have hb:8<k.fields.length:=by rw[Aj,AH]at hb;omega
  rw[show C9 k=2 from by simp[C9,hn,hb]]
 have hl:k.fields.length<=8:=by rw[Ao,AH]at hb;omega
 have e1:C9 k=DV [] k.fields:=by simp[C9,hn];omega
 (iterate 10 refine WK ?_);refine EM (λi:Nat=>⟨[(1,.ptr X1 0 0),(17,IA false k.fields),(18,iA (k.fields.map fieldA).length),(19,iA i)],(X1,.row 90 2 [CF false k])::Sf⟩) (λi=>i<=k.fields.length/\DV [] k.fields=DV (k.fields.take i) (k.fields.drop i)) (λi=>k.fields.length-i) 0 ⟨by omega,rfl⟩ ⟨.cons rfl (.cons rfl (.cons rfl (.cons rfl .nil))),by exact BH⟩ ?_
 rintro i ⟨hi,he⟩;refine KK ?_;refine AC rfl (λhb=>?_) (λhb=>?_)
 ·have h:i<k.fields.length:=by simpa using hb
  (repeat first|(refine Bk ?_;first|refine AI (W.idxL rfl rfl rfl (DC _ h)) rfl ?_|refine AI (W.call1 rfl (Po _) rfl) rfl ?_)|refine WK ?_|refine Ai λX=>?_|refine Ay λY=>?_);refine AC rfl (λhc=>?_) (λhc=>?_)
  ·have hc:Bv k.fields[i]≠0:=by simpa using hc
   refine JA ?_;refine CL rfl rfl (by exact BH) ⟨?_,rfl⟩;rw[e1,he,KG h,Qs hc];rfl
  have hc:Bv k.fields[i]=0:=by simpa using hc
  have hmt:((k.fields.map fieldA).take i).length=i:=by simp;omega
  (iterate 6 refine WK ?_);refine AI (W.hiL rfl rfl rfl (by simp;omega)) rfl ?_;(iterate 4 refine WK ?_);refine EM (λj:Nat=>⟨[(1,.ptr X1 0 0),(17,IA false k.fields),(18,iA (k.fields.map fieldA).length),(19,iA i),(3,iA i),(4,.ptr X 0 0),(32,.lst false 92 3 ((k.fields.map fieldA).take i)),(33,iA ((k.fields.map fieldA).take i).length),(34,iA j)],(X,.row 92 3 [fieldA k.fields[i]])::(X1,.row 90 2 [CF false k])::Sf⟩) (λj=>j<=i/\∀q (hq:q<k.fields.length),q<j->k.fields[q].name≠k.fields[i].name) (λj=>i-j) 0 ⟨by omega,by omega⟩ ⟨.cons rfl (.cons rfl (.cons rfl (.cons rfl (.cons rfl (.cons rfl (.cons rfl (.cons rfl (.cons rfl .nil)))))))),by exact BH⟩ ?_
  rintro j ⟨hj,hne⟩;refine KK ?_;refine AC rfl (λhd=>?_) (λhd=>?_)
  ·have hd:j<i:=by rw[hmt]at hd;simpa using hd
   have hat:((k.fields.map fieldA).take i)[j]?=some (fieldA (k.fields[j]'(by omega))):=by rw[NC hd];exact DC _ _
   (iterate 5 refine WK ?_);refine AI (W.idxL rfl rfl rfl hat) rfl ?_;refine KK ?_;refine Ai λX=>?_;refine KK ?_
   refine AC rfl (λhq=>?_) (λhq=>?_)
   ·have hq:(k.fields[j]'(by omega)).name=k.fields[i].name:=by simpa using hq
    refine JA ?_;refine CL rfl rfl (by exact BH) ⟨?_,rfl⟩;rw[e1,he,KG h,OD hc (j:=j) (by simp;omega) (by simpa using hq)]
   ·have hq:(k.fields[j]'(by omega)).name≠k.fields[i].name:=by simpa using hq
    refine KK ?_;refine⟨j+1,⟨by omega,λq hq1 hq2=>?_⟩,by omega,.cons rfl (.cons rfl (.cons rfl (.cons rfl (.cons rfl (.cons rfl (.cons rfl (.cons rfl (.cons rfl .nil)))))))),by exact BH⟩;by_cases e:q=j
    ·subst e;exact hq
    ·exact hne q hq1 (by omega)
  ·have hd:¬j<i:=by rw[hmt]at hd;simpa using hd
   refine KK ?_;refine⟨i+1,⟨by omega,?_⟩,by omega,.cons rfl (.cons rfl (.cons rfl (.cons rfl .nil))),by exact BH⟩;rw[he,KG h,Pn hc λq hq=>?_,E5,Af h]
   ·rfl
   ·simp only[List.getElem_take]
    exact hne q (by simp at hq;omega) (by simp at hq;omega)
 ·have h:¬i<k.fields.length:=by simpa using hb
  refine JA ?_;refine CL rfl rfl (by exact BH) ⟨?_,rfl⟩;rw[e1,he,Qr (by omega)]
theorem Lz{k:Kind}(h:C9 k=0):k.fields.length<=8:=by
 unfold C9 at h;split at h
 ·split at h
  ·cases h
  ·omega
 ·cases h
def NV(k:Kind)(vals:List Int)(i:Nat):List Int:=(List.zipWith Cx k.fields vals).take i++List.replicate (vals.length-i) 0
theorem dE{k:Kind}(hl:vals.length=k.fields.length)(h:i<vals.length):((NV k vals i).map iA)[i]?=some (iA 0):=by
 have hz:(List.zipWith Cx k.fields vals).length=vals.length:=by simp;omega
 rw[Ae,NV,Bd (by simp;omega)];rw[BZ,B6 (by omega),DY,Im,AY (by omega)];rfl
theorem aV{k:Kind}(hl:vals.length=k.fields.length)(h:i<vals.length):((NV k vals i).map iA).set i (iA (Cx (k.fields[i]'(by omega)) vals[i]))=(NV k vals (i+1)).map iA:=by
 have hz:(List.zipWith Cx k.fields vals).length=vals.length:=by simp;omega
 rw[<-BC]
 congr 1
 unfold NV;rw[Fa _ _ (by simp;omega),BZ,B6 (by omega),DY];rw[show vals.length-i=(vals.length-(i+1))+1 from by omega,H5,Gj];rw[E5,Af (by omega),Bg];simp
theorem Vn(k:Kind)(vals:List Int):PS prog 107 [CF false k,Av false vals] (.tup [Av true (C8 k vals).1,iA (C8 k vals).2]):=by
 refine Sp (nt:=43) (res:=[.tmp 4,.tmp 5]) func107 λSf=>?_
 refine WK ?_;refine WK ?_;refine FQ λB=>?_;refine Dl (W.box rfl .here rfl) rfl ?_;(iterate 7 refine WK ?_);refine AI (W.call1 rfl (Zu _) rfl) rfl ?_;refine KK ?_
 refine AC rfl (λhb=>?_) (λhb=>?_)
 ·have hb:C9 k≠0:=by simpa using hb
  refine JA ?_;rw[show C8 k vals=([],C9 k)from by simp[C8,hb]];exact⟨[.prim (.slice none 0 0),iA (C9 k)],[Av true [],iA (C9 k)],_,[],.cons (.tmp rfl) rfl (.cons (.tmp rfl) rfl .nil),.cons (.cell .nil) (.cons (.cell .same) .nil),by exact BH,rfl,rfl⟩
 have hk:C9 k=0:=by simpa using hb
 have h8:=Lz hk;refine KK ?_;refine AC rfl (λhb=>?_) (λhb=>?_)
 ·have hb:vals.length≠k.fields.length:=by rw[Aj,AH,AH]at hb;omega
  refine JA ?_;rw[show C8 k vals=([],1)from by simp[C8,hk,hb]];exact⟨[.prim (.slice none 0 0),iA 1],[Av true [],iA 1],_,[],.cons (.tmp rfl) rfl (.cons (.tmp rfl) rfl .nil),.cons (.cell .nil) (.cons (.cell .same) .nil),by exact BH,rfl,rfl⟩
 have hl:vals.length=k.fields.length:=by rw[Ao,AH,AH]at hb;omega
 have hv:(vals.map iA).length<=8:=by simp;omega
 have hz:List.replicate (vals.map iA).length (zAV [.int .i64 0] false)=(NV k vals 0).map iA:=by simp[NV];exact .inr rfl
 (iterate 5 refine WK ?_);refine FQ λXL=>?_;refine Dl (W.make rfl rfl .here rfl (.inr rfl) rfl rfl (AP _) (by omega) (B7 hv (by decide))) rfl ?_;(iterate 11 refine WK ?_);refine EM (λi:Nat=>⟨[(1,Av false vals),(7,.sl XL 0 (vals.map iA).length),(25,IA false k.fields),(26,iA (k.fields.map fieldA).length),(27,iA i)],(XL,.row 3 1 ((NV k vals i).map iA))::(B,.row 90 2 [CF false k])::Sf⟩) (λi=>i<=vals.length) (λi=>vals.length-i) 0 (Ap _) ⟨.cons rfl (.cons rfl (.cons rfl (.cons rfl (.cons rfl .nil)))),(by show List.Sublist ((XL,.row 3 1 ((NV k vals 0).map iA))::(B,.row 90 2 [CF false k])::Sf) _;rw[<-hz];exact BH)⟩ ?_
 rintro i hi;refine KK ?_;refine AC rfl (λhb=>?_) (λhb=>?_)
 ·have h:i<vals.length:=by rw[Aj,AH]at hb;omega
  have h':i<k.fields.length:=by omega
  (iterate 6 refine WK ?_);refine AI (W.idxL rfl rfl rfl (DC _ h')) rfl ?_;refine KK ?_;refine Ai λX=>?_;refine KK ?_
  refine RU ?_;(iterate 5 refine RK ?_);refine RGo.p (W.idxL rfl rfl rfl (DC _ h)) rfl ?_;refine RK ?_;refine RGo.p (W.call2 rfl rfl (Wm _ _) rfl) rfl ?_;refine RGo.p (W.idx rfl rfl (by exact As) rfl (by simpa using h) (An _)) rfl ?_;refine RGo.s (W.store rfl rfl (by exact As) (dE hl h) (by exact rfl)) rfl ?_;refine RGo.nil (by kernel_rfl) ?_;refine KK ?_;refine⟨i+1,by omega,by omega,.cons rfl (.cons rfl (.cons rfl (.cons rfl (.cons rfl .nil)))),?_⟩;show List.Sublist ((XL,.row 3 1 ((NV k vals (i+1)).map iA))::(B,.row 90 2 [CF false k])::Sf) _
  rw[<-aV hl h];exact BH
 ·have h:¬i<vals.length:=by rw[Ao,AH]at hb;omega
  refine JA ?_;rw[show C8 k vals=(List.zipWith Cx k.fields vals,0)from by simp[C8,hk,hl]]
  have he:(NV k vals i).map iA=(List.zipWith Cx k.fields vals).map iA:=by
   congr 1
   rw[NV,show vals.length-i=0 from by omega,BB (by simp;omega)];simp
  refine⟨[.sl XL 0 (vals.map iA).length,iA 0],[.lst true 3 1 ((NV k vals i).map iA),iA 0],_,[],.cons (.tmp rfl) rfl (.cons (.tmp rfl) rfl .nil),.cons (.cell (.sl (p:=0) .here (by rw[he];simp;omega))) (.cons (.cell .same) .nil),by exact BH,?_,rfl⟩;rw[he];rfl
theorem Vo{k:Kind}(h:(C8 k vals).2=0):(C8 k vals).1.length=vals.length/\vals.length<=8:=by
 unfold C8 at h⊢;split
 ·rename_i h1;rw[AY h1]at h;exact absurd h h1
 ·rename_i h1
  rw[AM h1]at h;split
  ·rename_i h2;rw[AY h2]at h;cases h
  ·rename_i h2;have:=Lz (DU.1 h1);simp;omega
theorem aK(k:Kind)(vals:List Int):PS prog 165 [CF false k,Av false vals] (bA (Do k vals)):=by
 refine Sp (nt:=31) (res:=[.tmp 4]) func165 λSf=>?_
 have hfr:(AV.tup [Av true (C8 k vals).1,iA (C8 k vals).2]).frz= .tup [Av false (C8 k vals).1,iA (C8 k vals).2]:=by
  show AV.tup [(Av true (C8 k vals).1).frz,_]=_
  rw[YC];rfl
 refine KK ?_;refine Ai λX=>?_;(iterate 6 refine WK ?_);refine AI (W.callF2 rfl rfl (Vn _ _) rfl hfr) rfl ?_;refine KK ?_
 refine AC rfl (λhb=>?_) (λhb=>?_)
 ·have hb:(C8 k vals).2≠0:=by simpa using hb
  refine JA ?_;refine CL rfl rfl (by exact BH) ⟨?_,rfl⟩;simp[Do,hb]
 have hb:(C8 k vals).2=0:=by simpa using hb
 obtain⟨hlen,h8⟩:=Vo hb;obtain⟨fl,hfl⟩:∃fl,fl=(C8 k vals).1:=⟨_,rfl⟩;rw[<-hfl]at hlen;rw[show Do k vals=decide (fl=vals)from by simp[Do,hb,hfl]];rw[<-hfl];clear hfr
 (iterate 9 refine WK ?_);refine EM (λi:Nat=>⟨[(1,Av false vals),(5,Av false fl),(17,iA (fl.map iA).length),(18,iA i)],Sf⟩) (λi=>i<=vals.length/\∀j (h:j<vals.length),j<i->fl[j]'(by omega)=vals[j]) (λi=>vals.length-i) 0 ⟨Ap _,λj h hj=>absurd hj (by omega)⟩ ⟨.cons rfl (.cons rfl (.cons rfl (.cons rfl .nil))),by exact BH⟩ ?_
 rintro i ⟨hi,he⟩;refine KK ?_;refine AC rfl (λhc=>?_) (λhc=>?_)
 ·have h:i<fl.length:=by rw[Aj,AH]at hc;omega
  have h':i<vals.length:=by omega
  refine KK ?_;refine RU ?_;refine JG ?_;refine RGo.p (W.idxL rfl rfl rfl (DC _ h)) rfl ?_;(iterate 3 refine RK ?_);refine RGo.p (W.idxL rfl rfl rfl (DC _ h')) rfl ?_;refine JG ?_;refine RGo.nil (by kernel_rfl) ?_;refine WK ?_;refine AC rfl (λhd=>?_) (λhd=>?_)
  ·have hd:fl[i]≠vals[i]:=by simpa using hd
   refine JA ?_;refine CL rfl rfl (by exact BH) ⟨?_,rfl⟩;rw[Az (λe=>hd (by subst e;rfl))]
  ·have hd:fl[i]=vals[i]:=by simpa using hd
   refine KK ?_;refine⟨i+1,⟨by omega,λj h1 h2=>?_⟩,by omega,.cons rfl (.cons rfl (.cons rfl (.cons rfl .nil))),by exact BH⟩;by_cases e:j=i
   ·subst e;exact hd
   ·exact he j h1 (by omega)
 ·have h:¬i<fl.length:=by rw[Ao,AH]at hc;omega
  refine JA ?_;refine CL rfl rfl (by exact BH) ⟨?_,rfl⟩;rw[BG (Dj hlen λj h1 h2=>he j h2 (by omega))]
theorem dH(l:List Kind)(name:List UInt8)(hl:l.length<=1099511627776):PS prog 164 [Ba false false l,sA name] (iA (Fp l name)):=by
 refine Sp (nt:=20) (res:=[.tmp 4]) func164 λSf=>?_
 (iterate 12 refine WK ?_);refine EM (λi:Nat=>⟨[(1,sA name),(7,Ba false false l),(8,iA (l.map (CF false)).length),(9,iA i)],Sf⟩) (λi=>i<=l.length/\∀j (h:j<l.length),j<i->l[j].name≠name) (λi=>l.length-i) 0 ⟨by omega,by omega⟩ ⟨.cons rfl (.cons rfl (.cons rfl (.cons rfl .nil))),DT _⟩ ?_
 rintro i ⟨hi,hn⟩;refine KK ?_;refine AC rfl (λhb=>?_) (λhb=>?_)
 ·have h:i<l.length:=by simpa using hb
  (iterate 6 refine WK ?_);refine AI (W.idxL rfl rfl rfl (DC _ h)) rfl ?_;refine KK ?_;refine Ai λX=>?_;refine KK ?_
  refine AC rfl (λhc=>?_) (λhc=>?_)
  ·have hc:l[i].name=name:=by simpa using hc
   refine JA ?_;refine CL rfl rfl (by exact BH) ⟨?_,rfl⟩;rw[Qq h hc λj hj=>hn j (by omega) hj]
  ·have hc:l[i].name≠name:=by simpa using hc
   refine KK ?_;refine⟨i+1,⟨by omega,λj hj hji=>?_⟩,by omega,.cons rfl (.cons rfl (.cons rfl (.cons rfl .nil))),by exact BH⟩;by_cases e:j=i
   ·subst e;exact hc
   ·exact hn j hj (by omega)
 ·have h:¬i<l.length:=by simpa using hb
  refine JA ?_;refine CL rfl rfl (by exact BH) ⟨?_,rfl⟩;rw[Lf λj hj=>hn j hj (by omega)]
theorem P3(l:List Kind):PS prog 103 [Ba false false l] (iA (CB l)):=by
 refine Sp (nt:=29) (res:=[.tmp 2]) func103 λSf=>?_
 refine KK ?_;refine AC rfl (λhb=>?_) (λhb=>?_)
 ·refine KK ?_
  refine RT ?_;refine CL rfl rfl (by exact BH) ⟨?_,rfl⟩;have hb:16<l.length:=by rw[Aj,AH]at hb;omega
  rw[show CB l=2 from by simp[CB,hb]]
 have hl:l.length<=16:=by rw[Ao,AH]at hb;omega
 have e1:CB l=Ds [] l:=by simp[CB];omega
 (iterate 9 refine WK ?_);refine EM (λi:Nat=>⟨[(0,Ba false false l),(9,Ba false false l),(10,iA (l.map (CF false)).length),(11,iA i)],Sf⟩) (λi=>i<=l.length/\Ds [] l=Ds (l.take i) (l.drop i)) (λi=>l.length-i) 0 ⟨by omega,rfl⟩ ⟨.cons rfl (.cons rfl (.cons rfl (.cons rfl .nil))),by exact BH⟩ ?_
 rintro i ⟨hi,he⟩;refine KK ?_;refine AC rfl (λhb=>?_) (λhb=>?_)
 ·have h:i<l.length:=by simpa using hb
  (repeat first|(refine Bk ?_;first|refine AI (W.idxL rfl rfl rfl (DC _ h)) rfl ?_|refine AI (W.call1 rfl (Zu _) rfl) rfl ?_)|refine WK ?_|refine Ai λX=>?_|refine Ay λY=>?_);refine AC rfl (λhc=>?_) (λhc=>?_)
  ·have hc:C9 l[i]≠0:=by simpa using hc
   refine JA ?_;refine CL rfl rfl (by exact BH) ⟨?_,rfl⟩;rw[e1,he,Kp h,Sh hc];rfl
  have hc:C9 l[i]=0:=by simpa using hc
  have hf:PS prog 164 [.lst false 90 2 ((l.map (CF false)).take i),sA l[i].name] (iA (Fp (l.take i) l[i].name)):=by
   have:=dH (l.take i) l[i].name (by simp;omega);simpa only[Ba,EK]using this
  refine KK ?_;refine RU ?_;refine JG ?_;refine RGo.p (W.hiL rfl rfl rfl (by simp;omega)) rfl ?_;refine JG ?_;refine RGo.p (W.call2 rfl rfl hf rfl) rfl ?_;refine RK ?_;refine RGo.nil (by kernel_rfl) ?_;refine WK ?_;refine AC rfl (λhd=>?_) (λhd=>?_)
  ·have hd:0<=Fp (l.take i) l[i].name:=by simpa using hd
   refine JA ?_;refine CL rfl rfl (by exact BH) ⟨?_,rfl⟩;rw[e1,he,Kp h,PJ hc hd]
  ·have hd:Fp (l.take i) l[i].name<0:=by simpa using hd
   refine KK ?_;refine⟨i+1,⟨by omega,?_⟩,by omega,.cons rfl (.cons rfl (.cons rfl (.cons rfl .nil))),by exact BH⟩;rw[he,Kp h,Qh hc hd,E5,Af h];rfl
 ·have h:¬i<l.length:=by simpa using hb
  refine JA ?_;refine CL rfl rfl (by exact BH) ⟨?_,rfl⟩;rw[e1,he,Sg (by omega)]
def E6(ks:List Kind):Int->List Comp->Bool
 |_,[]=>true
 |last,c::l=>match ks[c.kind.toNat]? with
  |some k=>decide (last<c.kind)&&decide (c.kind<ks.length)&&Do k c.vals&&E6 ks c.kind l
  |none=>false
def Cb(ks:List Kind)(l:List Comp):Bool:=E6 ks (-1) l
theorem UD{ks:List Kind}{l:List Comp}{last:Int}{k:Kind}{c:Comp}(h:i<l.length)(hc:l[i]=c)(hk:ks[c.kind.toNat]?=some k):E6 ks last (l.drop i)=(decide (last<c.kind)&&decide (c.kind<ks.length)&&Do k c.vals&&E6 ks c.kind (l.drop (i+1))):=by
 rw[D9 h,E6,hc,hk]
theorem Nn{ks:List Kind}{l:List Comp}{last:Int}{c:Comp}(h:i<l.length)(hc:l[i]=c)(hn:c.kind<=last\/(ks.length:Int)<=c.kind):E6 ks last (l.drop i)=false:=by
 rw[D9 h,E6,hc];split
 ·rcases hn with hn|hn
  ·rw[Az (by omega)];rfl
  ·rw[Az (p:=c.kind<_) (by omega)];simp
 ·rfl
def EC(ks:List Kind)(gens:List Int):Int->List Item->Bool
 |_,[]=>true
 |last,it::l=>match gens[it.ent.n.toNat]? with
  |some g=>decide (last<it.ent.n)&&decide (it.ent.n<gens.length)&&decide (it.ent.gen=g)&& !decide (it.ent.gen=1073741824)&&Cb ks it.comps&&EC ks gens it.ent.n l
  |none=>false
theorem Sk{ks:List Kind}{l:List Item}{last:Int}{g:Int}{it:Item}(h:i<l.length)(hc:l[i]=it)(hk:gens[it.ent.n.toNat]?=some g):EC ks gens last (l.drop i)=(decide (last<it.ent.n)&&decide (it.ent.n<gens.length)&&decide (it.ent.gen=g)&& !decide (it.ent.gen=1073741824)&&Cb ks it.comps&&EC ks gens it.ent.n (l.drop (i+1))):=by
 rw[D9 h,EC,hc,hk]
theorem Mf{ks:List Kind}{l:List Item}{last:Int}{it:Item}(h:i<l.length)(hc:l[i]=it)(hn:it.ent.n<=last\/(gens.length:Int)<=it.ent.n):EC ks gens last (l.drop i)=false:=by
 rw[D9 h,EC,hc];split
 ·rcases hn with hn|hn
  ·rw[Az (by omega)];rfl
  ·rw[Az (p:=it.ent.n<_) (by omega)];simp
 ·rfl
def L9(l:List Int):Bool:=l.all λg=>decide (0<=g)&&decide (g<=1073741824)
def FD(w:Wd):Int:=
 if CB w.kinds≠0 then CB w.kinds
 else if 256<w.gens.length\/w.gens.length<w.items.length then 2
 else if L9 w.gens=false then 3
 else if EC w.kinds w.gens (-1) w.items=false then 3 else 0
theorem dA(ks:List Kind)(l:List Comp)(hl:l.length<=1099511627776):PS prog 104 [Ba false false ks,B3 false false l] (bA (Cb ks l)):=by
 refine Sp (nt:=39) (res:=[.tmp 4]) func104 λSf=>?_
 have hlm:(l.map (AZ false)).length=l.length:=AH _;refine KK ?_;refine Ca (λ(i:Nat) (last:Int)=>⟨[(0,Ba false false ks),(5,iA last),(8,B3 false false l),(9,iA (l.map (AZ false)).length),(10,iA i)],Sf⟩) (λi last=>i<=l.length/\ -1<=last/\E6 ks last (l.drop i)=Cb ks l) (λi _=>l.length-i) 0 (-1) ⟨Ap _,by omega,rfl⟩ ?_;rintro i last ⟨hi,hla,he⟩;refine KK ?_;refine AC rfl (λhc=>?_) (λhc=>?_)
 ·have h:i<l.length:=by rw[Aj,hlm]at hc;omega
  obtain⟨⟨ck,cv⟩,hcc⟩:=nm (l[i]);have hat:(l.map (AZ false))[i]?=some (AZ false ⟨ck,cv⟩):=by rw[Ae,Af h,hcc];rfl
  refine KK ?_;refine Ai λX=>?_;refine KK ?_
  rcases Ah (decide (ck<=last))with g1|g1
  ·refine RU ?_;(repeat first|(refine HU ?_;first|refine Jz ?_|refine Jy ?_)|refine RK ?_|refine RGo.nil (by kernel_rfl) ?_)
   refine Aq rfl (by first|rfl|assumption) ?_;refine JA ?_;refine Ag ?_;rw[<-he,Nn h hcc (.inl (by simpa using g1))]
  ·obtain⟨n,rfl⟩:∃n:Nat,ck=n:=⟨ck.toNat,by rw[Ao]at g1;omega⟩
   rcases Ah (decide (((ks.map (CF false)).length:Int)<=n))with g2|g2
   ·refine RU ?_;(repeat first|(refine HU ?_;first|refine Jz ?_|refine Jy ?_)|refine RK ?_|refine RGo.nil (by kernel_rfl) ?_)
    refine Aq rfl (by first|rfl|assumption) ?_;refine JA ?_;refine Ag ?_;rw[<-he,Nn h hcc (.inr (by rw[Aj,AH]at g2;exact g2))]
   ·have hkl:n<ks.length:=by rw[Ao,AH]at g2;omega
    obtain⟨k,hk⟩:=nm (ks[n]);have hka:ks[n]?=some k:=by rw[Af hkl,hk]
    have hat2:(ks.map (CF false))[n]?=some (CF false k):=by rw[Ae,hka];rfl
    have hst:=UD (last:=last) (k:=k) h hcc hka;dsimp only at hst;rw[BG (by rw[Ao]at g1;omega),BG (p:=(n:Int)<_) (by omega),GK,GK,he]at hst;have hh:=aK k cv;obtain⟨b,hb⟩:=nm (Do k cv);rw[hb]at hst hh;cases b
    ·refine JM ?_;refine FO (h:=(hh ..)) (k:=?_);refine JG ?_;refine RGo.nil (by kernel_rfl) ?_
     refine Aq rfl (by first|rfl|assumption) ?_;refine JA ?_;refine Ag ?_;rw[hst];rfl
    ·refine JM ?_;refine FO (h:=(hh ..)) (k:=?_);refine JG ?_;refine RGo.nil (by kernel_rfl) ?_
     refine AB rfl (by first|rfl|assumption) ?_;refine KK ?_;refine Bn (i+1) n ⟨h,by omega,hst.symm⟩
 ·have h:i=l.length:=by rw[Ao,hlm]at hc;omega
  subst h;refine JA ?_;refine Ag ?_;rw[<-he,Dk];rfl
theorem F9(w:Wd)(hg:w.gens.length<=1099511627776)(hi:w.items.length<=1099511627776)(hc:∀it∈w.items,it.comps.length<=1099511627776):PS prog 43 [wdA false w] (iA (FD w)):=by
 have hck:=P3 w.kinds;obtain⟨ke,hke⟩:=nm (CB w.kinds);obtain⟨we,hwe⟩:=nm (FD w);rw[hwe];unfold FD at hwe;rw[hke]at hck hwe;obtain⟨ks,gens,items⟩:=w;dsimp only at hwe hg hi hc hck hke;refine Sp (nt:=94) (res:=[.tmp 2]) func43 λSf=>?_
 have hgm:(gens.map iA).length=gens.length:=AH _;have him:(items.map (AN false)).length=items.length:=AH _;refine RG ?_;refine BS ?_;refine JC ?_;refine JI ?_;refine BU (h:=(hck ..)) (k:=?_);refine JC ?_;refine KK ?_;refine AC rfl (λhd=>?_) (λhd=>?_)
 ·have hd:ke≠0:=by simpa using hd
  refine JA ?_;refine Ag ?_;rw[<-hwe,AY hd]
 have hd:ke=0:=by simpa using hd
 rw[AM (by simp[hd])]at hwe;rcases Ah (decide (256<((gens.map iA).length:Int)))with g1|g1
 ·refine KK ?_
  refine Aq rfl (by first|rfl|assumption) ?_;refine JA ?_;refine Ag ?_;rw[<-hwe,AY (.inl (by rw[Aj,hgm]at g1;omega))]
 rcases Ah (decide (((gens.map iA).length:Int)<(items.map (AN false)).length))with g2|g2
 ·refine KK ?_
  refine Aq rfl (by first|rfl|assumption) ?_;refine JA ?_;refine Ag ?_;rw[<-hwe,AY (.inr (by rw[Aj,hgm,him]at g2;omega))]
 refine KK ?_;refine AB rfl (by first|rfl|assumption) ?_;rw[AM (by rw[Ao,hgm]at g1;rw[Ao,hgm,him]at g2;omega)]at hwe;refine KK ?_;refine B8 (λi:Nat=>⟨[(1,.fp (wdA false ⟨ks,gens,items⟩).cells),(29,Av false gens),(30,iA (gens.map iA).length),(31,iA i)],Sf⟩) (λi=>i<=gens.length/\∀j (h:j<gens.length),j<i->0<=gens[j]/\gens[j]<=1073741824) (λi=>gens.length-i) 0 ⟨Ap _,λj h hj=>absurd hj (by omega)⟩ ?_;rintro i ⟨hil,hgo⟩;refine KK ?_;refine AC rfl (λhe=>?_) (λhe=>?_)
 ·have h:i<gens.length:=by rw[Aj,hgm]at he;omega
  obtain⟨x,hx⟩:=nm (gens[i]);have hat:(gens.map iA)[i]?=some (iA x):=by rw[Ae,Af h,hx];rfl
  have hbad:¬(0<=x/\x<=1073741824)->L9 gens=false:=λhn=>by
   unfold L9;rw[List.all_eq_false];refine⟨x,hx▸Ax h,?_⟩;simp only[AF,Aj];exact hn
  refine KK ?_;refine AC rfl (λhf=>?_) (λhf=>?_)
  ·have hf:¬(0<=x/\x<=1073741824):=by simp at hf;omega
   refine JA ?_;refine Ag ?_;rw[<-hwe,AY (hbad hf)]
  ·have hf:0<=x/\x<=1073741824:=by simp at hf;omega
   refine KK ?_;refine BM (i+1) ⟨h,λj h1 h2=>?_⟩;by_cases e:j=i
   ·subst e;rw[hx];exact hf
   ·exact hgo j h1 (by omega)
 have hgok:L9 gens=true:=by
  have h:i=gens.length:=by rw[Ao,hgm]at he;omega
  unfold L9;rw[Cu];intro x hx;obtain⟨j,hj,rfl⟩:=Br hx;simp only[AF,Aj];exact hgo j hj (by omega)
 rw[AM (by simp[hgok])]at hwe;refine KK ?_;refine Ca (λ(i:Nat) (last:Int)=>⟨[(1,.fp (wdA false ⟨ks,gens,items⟩).cells),(6,iA last),(43,J9 false false items),(44,iA (items.map (AN false)).length),(45,iA i)],Sf⟩) (λi last=>i<=items.length/\ -1<=last/\EC ks gens last (items.drop i)=EC ks gens (-1) items) (λi _=>items.length-i) 0 (-1) ⟨Ap _,by omega,rfl⟩ ?_;clear hil hgo he i;rintro i last ⟨hil,hla,he⟩;refine KK ?_;refine AC rfl (λhd'=>?_) (λhd'=>?_)
 ·have h:i<items.length:=by rw[Aj,him]at hd';omega
  obtain⟨⟨⟨en,eg⟩,cs⟩,hit⟩:=nm (items[i]);have hat:(items.map (AN false))[i]?=some (AN false ⟨⟨en,eg⟩,cs⟩):=by rw[Ae,Af h,hit];rfl
  have hcl:=hc _ (hit▸Ax h);dsimp only at hcl;refine KK ?_;refine Ai λX=>?_;refine KK ?_
  rcases Ah (decide (en<=last))with q1|q1
  ·refine RU ?_;(repeat first|(refine HU ?_;first|refine Jz ?_|refine Jy ?_)|refine RK ?_|refine RGo.nil (by kernel_rfl) ?_)
   refine Aq rfl (by first|rfl|assumption) ?_;refine JA ?_;refine Ag ?_;rw[<-hwe,AY (by rw[<-he,Mf h hit (.inl (by simpa using q1))])]
  obtain⟨n,rfl⟩:∃n:Nat,en=n:=⟨en.toNat,by rw[Ao]at q1;omega⟩;rcases Ah (decide (((gens.map iA).length:Int)<=n))with q2|q2
  ·refine RU ?_;(repeat first|(refine HU ?_;first|refine Jz ?_|refine Jy ?_)|refine RK ?_|refine RGo.nil (by kernel_rfl) ?_)
   refine Aq rfl (by first|rfl|assumption) ?_;refine JA ?_;refine Ag ?_;rw[<-hwe,AY (by rw[<-he,Mf h hit (.inr (by rw[Aj,hgm]at q2;exact q2))])]
  have hkl:n<gens.length:=by rw[Ao,hgm]at q2;omega
  obtain⟨g,hg'⟩:=nm (gens[n]);have hga:gens[n]?=some g:=by rw[Af hkl,hg']
  have hat2:(gens.map iA)[n]?=some (iA g):=by rw[Ae,hga];rfl
  have hst:=Sk (ks:=ks) (last:=last) (g:=g) h hit hga;dsimp only at hst;rw[BG (by rw[Ao]at q1;omega),BG (p:=(n:Int)<_) (by omega),GK,GK,he]at hst;rcases Ah (decide (eg≠g))with q3|q3
  ·refine RU ?_;(repeat first|(refine HU ?_;first|refine Jz ?_|refine Jy ?_)|refine RK ?_|refine RGo.nil (by kernel_rfl) ?_)
   refine Aq rfl (by first|rfl|assumption) ?_;refine JA ?_;refine Ag ?_;rw[<-hwe,AY (by rw[hst,Az (by simpa using q3)];rfl)]
  rcases Ah (decide (eg=1073741824))with q4|q4
  ·refine RU ?_;(repeat first|(refine HU ?_;first|refine Jz ?_|refine Jy ?_)|refine RK ?_|refine RGo.nil (by kernel_rfl) ?_)
   refine Aq rfl (by first|rfl|assumption) ?_;refine JA ?_;refine Ag ?_;rw[<-hwe,AY (by rw[hst,q4];simp)]
  have hh:=dA ks cs hcl;obtain⟨b,hb⟩:=nm (Cb ks cs);rw[BG (p:=eg=g) (by simpa using q3),q4,hb,GK,E4,GK]at hst;rw[hb]at hh;cases b
  ·refine JM ?_;refine FO (h:=(hh ..)) (k:=?_);refine JG ?_;refine RGo.nil (by kernel_rfl) ?_
   refine Aq rfl (by first|rfl|assumption) ?_;refine JA ?_;refine Ag ?_;rw[<-hwe,AY (by rw[hst];rfl)]
  ·refine JM ?_;refine FO (h:=(hh ..)) (k:=?_);refine JG ?_;refine RGo.nil (by kernel_rfl) ?_
   refine AB rfl (by first|rfl|assumption) ?_;refine KK ?_;refine Bn (i+1) n ⟨h,by omega,hst.symm⟩
 ·have h:i=items.length:=by rw[Ao,him]at hd';omega
  refine JA ?_;refine Ag ?_;rw[<-hwe,AM (by rw[<-he,h,Dk];simp[EC])]
theorem PP(a:Int):PS prog 110 [iA a] (bA false):=by
 refine Sp (nt:=6) (res:=[.tmp 2]) func110 λSf=>?_
 refine JA ?_;refine Ag ?_;have:decide (a≠a)=false:=Az (by simp);rw[this]
def EN(a b:Int):Int:=if a<b then-1 else if b<a then 1 else 0
theorem Fq(a b:Int):PS prog 48 [iA a,iA b] (iA (EN a b)):=by
 refine Sp (nt:=20) (res:=[.tmp 4]) func48 λSf=>?_
 refine KK ?_;refine BU (h:=(PP a)) (k:=?_);refine KK ?_;refine BU (h:=(PP b)) (k:=?_);refine KK ?_;refine AB rfl rfl ?_;refine KK ?_;refine AB rfl rfl ?_;refine KK ?_;refine AC rfl (λh=>?_) (λh=>?_)
 ·have h:a<b:=by simpa using h
  refine JA ?_;refine Ag ?_;rw[EN,AY h]
 ·have h:¬a<b:=by simpa using h
  refine KK ?_;refine AC rfl (λh2=>?_) (λh2=>?_)
  ·have h2:b<a:=by simpa using h2
   refine JA ?_;refine Ag ?_;rw[EN,AM h,AY h2]
  ·have h2:¬b<a:=by simpa using h2
   refine JA ?_;refine Ag ?_;rw[EN,AM h,AM h2]
def HM{α:Type}(l:List α)(p:α->Bool):Int:=match l.findIdx? p with
 |some i=>i
 |none=>-1
theorem HL{l:List α}{p:α->Bool}(h:∀j (hj:j<l.length),p l[j]=false):HM l p= -1:=by
 have:l.findIdx? p=none:=by
  rw[Dz];intro x hx;obtain⟨j,hj,rfl⟩:=Br hx;exact h j hj
 simp[HM,this]
theorem HK{l:List α}{p:α->Bool}(hi:i<l.length)(e:p l[i]=true)(h:∀j (hj:j<i),p (l[j]'(by omega))=false):HM l p=i:=by
 have:l.findIdx? p=some i:=by
  rw[Cz];exact⟨hi,e,λj hj=>by simpa using h j hj⟩
 simp[HM,this]
theorem Mh(l:List α)(p:α->Bool):decide ((0:Int)<=HM l p)=l.any p:=by
 unfold HM;cases h:l.findIdx? p with
 |none=>
  rw[Dz]at h;have:l.any p=false:=CQ.2 λx hx=>by rw[h x hx];simp
  rw[this];rfl
 |some i=>
  obtain⟨hi,e,_⟩:=Cz.1 h;have:l.any p=true:=Es.2 ⟨_,Ax hi,e⟩;rw[this];simp
theorem PV(l:List α)(p:α->Bool): -1<=HM l p/\HM l p<l.length/\HM l p<=l.length:=by
 unfold HM;cases h:l.findIdx? p with
 |none=>simp;omega
 |some i=>
  obtain⟨hi,_⟩:=Cz.1 h;simp;omega
theorem Qj(l:List Item)(f:FuncId)(cap:List AV)(p:Item->Bool)(hs:DH cap=true)(hl:l.length<=4611686018427387904)(hf:∀x∈l,PS prog f ((AN false) x::cap) (bA (p x))):PS prog 160 [.lst false 83 3 (l.map (AN false)),.fn f cap] (iA (HM l p)):=by
 refine Sp (nt:=19) (res:=[.tmp 4]) func160 λSf=>?_
 refine KK ?_;refine B8 (λi:Nat=>⟨[(0,.lst false 83 3 (l.map (AN false))),(1,.fn f cap),(7,iA (l.map (AN false)).length),(8,iA i)],Sf⟩) (λi=>i<=l.length/\∀j (h:j<l.length),j<i->p l[j]=false) (λi=>l.length-i) 0 ⟨Ap _,λj h hj=>absurd hj (by omega)⟩ ?_;rintro i ⟨hi,he⟩;refine KK ?_;refine AC rfl (λhc=>?_) (λhc=>?_)
 ·have h:i<l.length:=by simpa using hc
  refine KK ?_;refine KP (h:=(hf _ (Ax h))) (k:=?_);refine KK ?_;refine AC rfl (λhd=>?_) (λhd=>?_)
  ·refine KK ?_
   refine RT ?_;refine Ag ?_;rw[HK h hd λj hj=>he j (by omega) hj]
  ·refine KK ?_
   refine BM (i+1) ⟨h,λj h1 h2=>?_⟩;by_cases e:j=i
   ·subst e;exact hd
   ·exact he j h1 (by omega)
 ·have h:¬i<l.length:=by simpa using hc
  refine JA ?_;refine Ag ?_;rw[HL λj hj=>he j hj (by omega)]
def Lm{α:Type}(g:α->Int)(l:List α):Prop:=∀(a b:Nat) (x y:α),a<=b->l[a]?=some x->l[b]?=some y->g y<0->g x<0
def Spl{α:Type}(g:α->Int)(l:List α)(i j:Nat):Prop:=(∀(k:Nat) (x:α),k<i->l[k]?=some x->g x<0)/\∀(k:Nat) (x:α),j<=k->l[k]?=some x->¬g x<0
structure Found{α:Type}(g:α->Int)(l:List α)(r:Nat×Bool):Prop where
 le:r.1<=l.length
 eq:r.2=true↔∃x,l[r.1]?=some x/\g x=0
 mono:Lm g l->Spl g l r.1 r.1
theorem Spl.lo{g:α->Int}{l:List α}{i j m:Nat}{y:α}(hM:Lm g l)(h:Spl g l i j)(hy:l[m]?=some y)(hg:g y<0):Spl g l (m+1) j:=
 ⟨λk x hk hx=>hM k m x y (by omega) hx hy hg,h.2⟩
theorem Spl.hi{g:α->Int}{l:List α}{i j m:Nat}{y:α}(hM:Lm g l)(h:Spl g l i j)(hy:l[m]?=some y)(hg:¬g y<0):Spl g l i m:=
 ⟨h.1,λk x hk hx hx0=>hg (hM m k y x hk hy hx hx0)⟩
theorem aY(x:Item)(e:Ent):PS prog 161 [AN false x,.fp (CG e).cells] (bA (decide (x.ent=e))):=by
 have hE:=Vw x.ent.n x.ent.gen e.n e.gen;rw[show(decide (x.ent.n=e.n)&&decide (x.ent.gen=e.gen))=RD x.ent e from rfl,RC]at hE;refine Sp (nt:=8) (res:=[.tmp 3]) func161 λSf=>?_
 refine WK ?_;refine WK ?_;refine BS ?_;(iterate 7 refine WK ?_);refine AI (W.eqP _ _ (by kernel_rfl) hE rfl rfl) rfl ?_;refine JA ?_;refine Ag ?_;rfl
def Em(l:List Item)(e:Ent):Int:=HM l λx=>decide (x.ent=e)
theorem aW(w:Wd)(e:Ent)(hl:w.items.length<=4611686018427387904):PS prog 98 [wdA false w,CG e] (iA (Em w.items e)):=by
 have h:=Qj w.items 161 [.fp (CG e).cells] (λx=>decide (x.ent=e)) rfl hl (λx _=>aY x e);refine Sp (nt:=9) (res:=[.tmp 4]) func98 λSf=>?_
 refine RG ?_;refine BS ?_;refine BS ?_;refine JC ?_;refine KK ?_;refine BP (h:=(h ..)) (k:=?_);refine JA ?_;refine Ag ?_;rfl
theorem eu(c:Comp)(k:Int):PS prog 114 [AZ false c,iA k] (iA (EN c.kind k)):=by
 refine Sp (nt:=9) (res:=[.tmp 4]) func114 λSf=>?_
 refine WK ?_;refine WK ?_;refine BS ?_;refine KK ?_;refine BP (h:=(Fq c.kind k)) (k:=?_);refine JA ?_;refine Ag ?_;rfl
theorem VB(l:List Comp)(t:AV)(f:FuncId)(cap:List AV)(g:Comp->Int)(t0:Int)(ht:t=iA t0)(hs:DH cap=true)(hl:l.length<=4611686018427387904)(hf:∀x∈l,PS prog f (AZ false x::t::cap) (iA (g x))):
  Spec prog 113 [B3 false false l,t,.fn f cap] [] λr S'=>∃b,Found g l b/\r= .tup [iA b.1,bA b.2]/\S'=[]:=by
 subst ht;refine Sp (nt:=49) (res:=[.tmp 6,.tmp 7]) func113 λSf=>?_
 have hlm:(l.map (AZ false)).length=l.length:=AH _;refine KK ?_;refine Ca (λ(i j:Nat)=>⟨[(0,B3 false false l),(1,iA t0),(2,.fn f cap),(8,iA (l.map (AZ false)).length),(9,iA i),(10,iA j)],Sf⟩) (λi j=>i<=j/\j<=l.length/\(Lm g l->Spl g l i j)) (λi j=>j-i) 0 (l.map (AZ false)).length ⟨Ap _,by omega,λ_=>⟨λk x h=>absurd h (by omega),λk x h hx=>by have:=(AE.1 hx).1;omega⟩⟩ ?_;rintro i j ⟨hij,hjn,hmono⟩;refine KK ?_;refine AC rfl (λhc=>?_) (λhc=>?_)
 ·have h:i<j:=by rw[Aj]at hc;omega
  have hmid:((i:Int)+j).fdiv (2^1)=(((i+j)/2:Nat):Int):=by
   rw[FR _ (by decide)];omega
  have hw1:IntKind.u64.wrap ((i:Int)+j)=i+j:=by rw[K0];omega
  have hw2:IntKind.i64.wrap (((i:Int)+j).fdiv (2^1))=((i:Int)+j).fdiv (2^1):=by
   rw[QZ,hmid];omega
  refine RG ?_;(iterate 3 refine WO ?_);refine AI (W.conv .i64 .u64 (by kernel_rfl) (by kernel_rfl) rfl hw1) rfl ?_;refine AI (W.shr 1 rfl rfl rfl (by decide)) rfl ?_;refine AI (W.conv .u64 .i64 (by kernel_rfl) (by kernel_rfl) rfl hw2) rfl ?_;refine JC ?_;rw[hmid];obtain⟨m,hm⟩:=nm ((i+j)/2);rw[hm];have hml:m<l.length:=by omega
  obtain⟨y,hy⟩:=nm (l[m]);have hya:l[m]?=some y:=by rw[Af hml,hy]
  have hat:(l.map (AZ false))[m]?=some (AZ false y):=by rw[Ae,hya];rfl
  have hfy:=hf y (by rw[<-hy];exact Ax hml);refine JI ?_;refine KN (h:=(hfy ..)) (k:=?_);refine JC ?_;refine AC rfl (λhe=>?_) (λhe=>?_)
  ·have he:g y<0:=by simpa using he
   refine KK ?_;refine Bn (m+1) j ⟨by omega,hjn,λhM=>(hmono hM).lo hM hya he⟩
  ·have he:¬g y<0:=by simpa using he
   refine KK ?_;refine Bn i m ⟨by omega,by omega,λhM=>(hmono hM).hi hM hya he⟩
 ·have h:i=j:=by rw[Ao]at hc;omega
  subst h;by_cases hin:i<l.length
  ·have hil:i<l.length:=by omega
   have g1:decide ((i:Int)<(l.map (AZ false)).length)=true:=BG (by omega);obtain⟨y,hy⟩:=nm (l[i]);have hya:l[i]?=some y:=by rw[Af hil,hy]
   have hat:(l.map (AZ false))[i]?=some (AZ false y):=by rw[Ae,hya];rfl
   have hfy:=hf y (by rw[<-hy];exact Ax hil);refine KK ?_;refine KN (h:=(hfy ..)) (k:=?_);refine JA ?_;exact⟨[iA i,bA (decide (g y=0))],[iA i,bA (decide (g y=0))],_,[],.cons (.tmp rfl) rfl (.cons (.tmp rfl) rfl .nil),.cons (.cell .same) (.cons (.cell .same) .nil),by exact BH,(i,decide (g y=0)),⟨by simp;omega,by simp[hya],hmono⟩,rfl,rfl⟩
  ·have g1:decide ((i:Int)<(l.map (AZ false)).length)=false:=Az (by omega)
   refine JA ?_;exact⟨[iA i,bA false],[iA i,bA false],_,[],.cons (.tmp rfl) rfl (.cons (.tmp rfl) rfl .nil),.cons (.cell .same) (.cons (.cell .same) .nil),by exact BH,(i,false),⟨by simp;omega,by simp[CT (show l.length<=i by omega)],hmono⟩,rfl,rfl⟩
theorem f7(l:List Comp)(k:Int)(hl:l.length<=4611686018427387904):Spec prog 53 [B3 false false l,iA k] [] λr S'=>∃b,Found (λc:Comp=>EN c.kind k) l b/\r= .tup [iA b.1,bA b.2]/\S'=[]:=by
 have h:=VB l (iA k) 114 [] (λc=>EN c.kind k) k rfl rfl hl (λx _=>eu x k);refine Sp (nt:=11) (res:=[.tmp 4,.tmp 5]) func53 λSf=>?_
 refine R1 ?_;refine JI ?_;refine XN (h:=h) λb hb=>?_
 refine KO ?_;refine FL ?_;refine RT ?_;exact⟨[iA b.1,bA b.2],[iA b.1,bA b.2],_,[],.cons (.tmp rfl) rfl (.cons (.tmp rfl) rfl .nil),.cons (.cell .same) (.cons (.cell .same) .nil),by exact BH,b,hb,rfl,rfl⟩
theorem HR(l:List Int)(hl:l.length*8<=140737488355328):PS prog 41 [.lst false 3 1 (l.map iA)] (.lst true 3 1 (l.map iA)):=by
 refine Sp (nt:=8) (res:=[.tmp 2]) func41 λSf=>?_
 (iterate 8 refine WK ?_);refine AOps.isNil λb hb=>?_;refine KK ?_
 refine AC rfl (λhc=>?_) (λhc=>?_)
 ·rw[hb hc]
  refine JA ?_;exact⟨[.prim (.slice none 0 0)],[.lst true 3 1 []],_,[],.cons (.tmp rfl) rfl .nil,.cons (.cell .nil) .nil,by exact BH,rfl,rfl⟩
 ·have hl':(0+(l.map iA).length)*8<=140737488355328:=by simpa using hl
  clear hl
  (iterate 3 refine WK ?_);refine SB λK=>?_;refine KK ?_;refine Ay λY=>?_;refine KK ?_
  refine RT ?_;exact⟨[.sl Y 0 (0+(l.map iA).length)],[.lst true 3 1 (l.map iA)],_,[],.cons (.tmp rfl) rfl .nil,.cons (.cell (.sl (p:=0) .here (by simp))) .nil,by exact BH,rfl,rfl⟩
def Ee(l:List Comp):Prop:=l.Pairwise λa b=>a.kind<b.kind
theorem LY{ks:List Kind}:∀{l:List Comp} {last:Int},E6 ks last l=true->Ee l/\∀c∈l,last<c.kind/\c.kind<ks.length
 |[],_,_=>⟨.nil,λc hc=>by cases hc⟩
 |c::l,last,h=>by
  rw[E6]at h;split at h
  ·simp only[AF,Aj]at h
   obtain⟨h1,h2⟩:=LY h.2;refine⟨Al.2 ⟨λd hd=>(h2 d hd).1,h1⟩,λd hd=>?_⟩;rcases AQ.1 hd with rfl|hd
   ·exact⟨h.1.1.1,h.1.1.2⟩
   ·exact⟨by have:=(h2 d hd).1;have:=h.1.1.1;omega,(h2 d hd).2⟩
  ·cases h
theorem LH{a b:Int}:EN a b<0↔a<b:=by
 unfold EN;split
 ·simp;assumption
 ·split<;>simp<;>omega
theorem cmpI_eq{a b:Int}:EN a b=0↔a=b:=by
 unfold EN;split
 ·simp;omega
 ·split<;>simp<;>omega
theorem U7{l:List Comp}(h:Ee l)(k:Int):Lm (λc:Comp=>EN c.kind k) l:=by
 intro a b x y hab hx hy hy0;rw[LH]at hy0⊢;by_cases e:a=b
 ·subst e;rw[hx]at hy;cases hy;exact hy0
 ·obtain⟨ha,rfl⟩:=AE.1 hx
  obtain⟨hb,rfl⟩:=AE.1 hy;have:=Bt.1 h a b ha hb (by omega);omega
theorem YK{l:List Comp}{b:Nat×Bool}(h:Found (λc:Comp=>EN c.kind k) l b)(hb:b.2=true):∃c,l[b.1]?=some c/\c.kind=k:=by
 obtain⟨c,hc,h0⟩:=h.eq.1 hb;exact⟨c,hc,cmpI_eq.1 h0⟩
theorem aT{l:List Comp}{b:Nat×Bool}(h:Found (λc:Comp=>EN c.kind k) l b)(hs:Ee l)(hb:b.2=false):∀c∈l,c.kind≠k:=by
 intro c hc e;obtain⟨j,hj,rfl⟩:=Br hc;obtain⟨h1,h2⟩:=h.mono (U7 hs k);have hne:¬∃x,l[b.1]?=some x/\EN x.kind k=0:=λhx=>by rw[h.eq.2 hx]at hb;cases hb
 have hjb:b.1<=j:=by
  rcases Gz j b.1 with hlt|hge
  ·have:=h1 j _ hlt (Af hj)
   rw[LH]at this;omega
  ·exact hge
 have hbl:b.1<l.length:=by omega
 have h3:=h2 b.1 _ (AP _) (Af hbl);rw[LH]at h3;by_cases e2:j=b.1
 ·subst e2
  exact hne ⟨_,Af hj,cmpI_eq.2 e⟩
 ·have:=Bt.1 hs b.1 j hbl hj (by omega)
  omega
def DW(l:List Comp)(k:Int):Option Comp:=l.find? λc=>decide (c.kind=k)
theorem V3{l:List Comp}{c:Comp}(hs:Ee l)(hc:c∈l)(hk:c.kind=k):DW l k=some c:=by
 induction l with
 |nil=>cases hc
 |cons a l ih=>
  obtain⟨h1,h2⟩:=Al.1 hs;unfold DW;rw[QY];rcases AQ.1 hc with rfl|hc
  ·simp[hk]
  ·have:¬a.kind=k:=by have:=h1 c hc;omega
   simp only[this,decide_false];exact ih h2 hc
theorem Na{l:List Comp}(h:∀c∈l,c.kind≠k):DW l k=none:=by
 unfold DW;rw[Eo];intro c hc;simpa using h c hc
def UF(w:Wd)(e:Ent)(k:Int):List Int×Int:=
 if FD w≠0 then([],FD w)else match w.items.find? (λit=>decide (it.ent=e))with
  |none=>([],4)
  |some it=>match DW it.comps k with
   |none=>([],4)
   |some c=>(c.vals,0)
theorem Ph{l:List Item}{e:Ent}(h:Em l e<0):l.find? (λit=>decide (it.ent=e))=none:=by
 unfold Em HM at h;split at h
 ·omega
 ·rename_i h2
  rw[Dz]at h2;rw[Eo];intro x hx;rw[h2 x hx];simp
theorem KF{l:List Item}{e:Ent}{n:Nat}(h:Em l e=n):∃it,l[n]?=some it/\l.find? (λit=>decide (it.ent=e))=some it/\it.ent=e:=by
 unfold Em HM at h;split at h
 ·rename_i i h2
  have:i=n:=by omega
  subst this;obtain⟨hi,h3,h4⟩:=Cz.1 h2;refine⟨l[i],Af hi,?_,by simpa using h3⟩;rw[GH];exact⟨h3,i,hi,rfl,λj hj=>by simpa using h4 j hj⟩
 ·omega
theorem PM{ks:List Kind}:∀{l:List Item} {last:Int},EC ks gens last l=true->∀it∈l,Cb ks it.comps=true
 |[],_,_,it,hit=>by cases hit
 |x::l,last,h,it,hit=>by
  rw[EC]at h;split at h
  ·simp only[AF]at h
   rcases AQ.1 hit with rfl|hit
   ·exact h.1.2
   ·exact PM h.2 it hit
  ·cases h
theorem cC{w:Wd}(h:FD w=0):∀it∈w.items,Cb w.kinds it.comps=true:=by
 unfold FD at h;split at h
 ·exact absurd h ‹_›
 ·split at h
  ·cases h
  ·split at h
   ·cases h
   ·split at h
    ·cases h
    ·rename_i hi
     exact PM (by simpa using hi)
theorem cB{w:Wd}(h:FD w=0):∀it∈w.items,Ee it.comps:=λit hit=>(LY (cC h it hit)).1
theorem eh(w:Wd)(e:Ent)(k:Int)(hw:WdL w):PS prog 35 [wdA false w,CG e,iA k] (.tup [Av true (UF w e k).1,iA (UF w e k).2]):=by
 have hck:=F9 w hw.gens hw.items.1 (λit hit=>(hw.items.2 it hit).1);have hfd:=aW w e (by have:=hw.items.1;omega);obtain⟨r,hr⟩:=nm (UF w e k);rw[hr];unfold UF at hr;obtain⟨we,hwe⟩:=nm (FD w);rw[hwe]at hck hr;refine Sp (nt:=46) (res:=[.tmp 6,.tmp 7]) func35 λSf=>?_
 refine RG ?_;refine BS ?_;refine BS ?_;refine JE ?_;refine JF ?_;refine BU (h:=(hck ..)) (k:=?_);refine JC ?_;refine KK ?_;refine AC rfl (λhd=>?_) (λhd=>?_)
 ·have hd:we≠0:=by simpa using hd
  rw[AY hd]at hr;subst hr;refine JA ?_;exact⟨[.prim (.slice none 0 0),iA we],[Av true [],iA we],_,[],.cons (.tmp rfl) rfl (.cons (.tmp rfl) rfl .nil),.cons (.cell .nil) (.cons (.cell .same) .nil),by exact BH,rfl,rfl⟩
 have hd:we=0:=by simpa using hd
 rw[AM (by simp[hd])]at hr;have hsort:=cB (hwe.trans hd);refine JI ?_;refine BP (h:=(hfd ..)) (k:=?_);refine JC ?_;refine KK ?_;refine AC rfl (λhg=>?_) (λhg=>?_)
 ·have hg:Em w.items e<0:=by simpa using hg
  rw[Ph hg]at hr;subst hr;refine JA ?_;exact⟨[.prim (.slice none 0 0),iA 4],[Av true [],iA 4],_,[],.cons (.tmp rfl) rfl (.cons (.tmp rfl) rfl .nil),.cons (.cell .nil) (.cons (.cell .same) .nil),by exact BH,rfl,rfl⟩
 obtain⟨n,hn⟩:∃n:Nat,Em w.items e=n:=⟨(Em w.items e).toNat,by(have:¬Em w.items e<0:=by simpa using hg);(omega)⟩;rw[hn];obtain⟨⟨en,cs⟩,hit,hfi,hen⟩:=KF hn;rw[hfi]at hr;dsimp only at hr;have hmem:=Bb hit;have hcl:=hw.items.2 _ hmem;have hsc:=hsort _ hmem;dsimp only at hcl hsc;have hat:(w.items.map (AN false))[n]?=some (AN false ⟨en,cs⟩):=by rw[Ae,hit];rfl
 have hap:=f7 cs k (by have:=hcl.1;omega);refine JH ?_;refine dz (h:=hap) λb hb=>?_
 obtain⟨bi,bb⟩:=b;cases bb
 ·have hno:=aT hb hsc rfl
  rw[Na hno]at hr;subst hr;dsimp only;refine KO ?_;refine FL ?_;refine KK ?_;refine Aq rfl rfl ?_;refine JA ?_;exact⟨[.prim (.slice none 0 0),iA 4],[Av true [],iA 4],_,[],.cons (.tmp rfl) rfl (.cons (.tmp rfl) rfl .nil),.cons (.cell .nil) (.cons (.cell .same) .nil),by exact BH,rfl,rfl⟩
 ·obtain⟨c,hc,hck'⟩:=YK hb rfl
  dsimp only at hc;have hcm:=Bb hc;rw[V3 hsc hcm hck']at hr;subst hr;obtain⟨ckd,cv⟩:=c;have hvl:=hcl.2 _ hcm;dsimp only at hvl;have hat2:(cs.map (AZ false))[bi]?=some (AZ false ⟨ckd,cv⟩):=by rw[Ae,hc];rfl
  have hcn:=HR cv (by omega);dsimp only;refine KO ?_;refine FL ?_;refine KK ?_;refine AB rfl rfl ?_;refine KK ?_;refine du (h:=hcn) λY=>?_;refine KK ?_
  refine RT ?_;exact⟨[.sl Y 0 (cv.map iA).length,iA 0],[Av true cv,iA 0],_,[],.cons (.tmp rfl) rfl (.cons (.tmp rfl) rfl .nil),.cons (.cell (.sl (p:=0) .here rfl)) (.cons (.cell .same) .nil),by exact BH,rfl,rfl⟩
def KQ(l:List Comp):List Comp:=l.mergeSort λa b=>decide (a.kind<=b.kind)
def E8(ks:List Kind):List Comp->List Comp->List Comp->List Comp×Int
 |_,out,[]=>(out,0)
 |pre,out,c::l=>
  if c.kind<0\/(ks.length:Int)<=c.kind then([],1)else if pre.any (λo=>decide (o.kind=c.kind))then([],5)else
  match ks[c.kind.toNat]? with
  |none=>([],1)
  |some k=>if(C8 k c.vals).2≠0 then([],(C8 k c.vals).2)else E8 ks (pre++[c]) (out++[⟨c.kind,(C8 k c.vals).1⟩]) l
def EO(ks:List Kind)(l:List Comp):List Comp×Int:=
 if CB ks≠0 then([],CB ks)else if(E8 ks [] [] l).2≠0 then([],(E8 ks [] [] l).2)else(KQ (E8 ks [] [] l).1,0)
theorem Pe{ks:List Kind}:∀{l pre out:List Comp},(E8 ks pre out l).2=0->(∀a∈out,∃b∈pre,b.kind=a.kind)->out.Pairwise (λa b=>a.kind≠b.kind)->(∀a∈out,0<=a.kind/\a.kind<ks.length)->
  (E8 ks pre out l).1.Pairwise (λa b=>a.kind≠b.kind)/\∀a∈(E8 ks pre out l).1,0<=a.kind/\a.kind<ks.length
 |[],pre,out,h,h1,h2,h3=>⟨h2,h3⟩
 |c::l,pre,out,h,h1,h2,h3=>by
  rw[E8]at h⊢;split at h
  ·cases h
  ·rename_i g1
   rw[AM g1];split at h
   ·cases h
   ·rename_i g2
    rw[AM g2];split at h
    ·cases h
    ·rename_i k hk
     split at h
     ·rename_i g3;exact absurd h g3
     ·rename_i g3
      (try simp only[hk])
      rw[AM g3];refine Pe h (λa ha=>?_) ?_ (λa ha=>?_)
      ·rcases AL.1 ha with ha|ha
       ·obtain⟨b,hb,e⟩:=h1 a ha
        exact⟨b,by simp[hb],e⟩
       ·rw[AW.1 ha]
        exact⟨c,by simp,rfl⟩
      ·rw[Bi]
       refine⟨h2,by simp,λa ha b hb e=>?_⟩;rw[AW.1 hb]at e;obtain⟨b2,hb2,e2⟩:=h1 a ha;exact g2 (Es.2 ⟨b2,hb2,by simpa using e2.trans e⟩)
      ·rcases AL.1 ha with ha|ha
       ·exact h3 a ha
       ·rw[AW.1 ha];exact⟨by dsimp only;omega,by dsimp only;omega⟩
theorem Km(g:α->Int):∀(n:Nat) (l:List α),l.Pairwise (λa b=>g a≠g b)->(∀a∈l,0<=g a/\g a<n)->l.length<=n:=by
 intro n l h1 h2
 have h3:(l.map λa=>(g a).toNat).Nodup:=by
  rw[List.Nodup,HE];refine h1.imp_of_mem λ{a b} ha hb e=>?_
  have:=h2 a ha;have:=h2 b hb;omega
 have h4:=Yo h3 (l₂:=List.range n) (λx hx=>by
  obtain⟨a,ha,rfl⟩:=Ad.1 hx;have:=h2 a ha;exact CK.2 (by omega))
 simpa using h4
theorem J7(l:List Comp):(KQ l).Perm l:=List.mergeSort_perm _ _
theorem PK{l u:List Comp}(hd:l.Pairwise (λa b=>a.kind≠b.kind))(hp:u.Perm l)(hs:u.Pairwise (λa b=>a.kind<=b.kind)):u=KQ l:=by
 refine ND (le:=λa b=>a.kind<=b.kind) (λa b ha hb h1 h2=>?_) hs ?_ (hp.trans (J7 l).symm)
 ·have hb':b∈l:=(J7 l).mem_iff.1 hb
  have ha':a∈l:=hp.mem_iff.1 ha;obtain⟨i,hi,rfl⟩:=Br ha';obtain⟨j,hj,rfl⟩:=Br hb';have:=Bt.1 hd;rcases HD i j with x|x|x
  ·exact absurd (by omega) (this i j hi hj x)
  ·subst x;rfl
  ·exact absurd (by omega) (this j i hj hi x)
 ·have:=List.pairwise_mergeSort (le:=λa b:Comp=>decide (a.kind<=b.kind)) (λa b c h1 h2=>by simp at*;omega) (λa b=>by simp;omega) l
  exact this.imp λh=>by simpa using h
theorem Sj{l:List Comp}(hd:l.Pairwise (λa b=>a.kind≠b.kind)):Ee (KQ l):=by
 have h1:(KQ l).Pairwise (λa b=>a.kind<=b.kind):=by
  have:=List.pairwise_mergeSort (le:=λa b:Comp=>decide (a.kind<=b.kind)) (λa b c h1 h2=>by simp at*;omega) (λa b=>by simp;omega) l;exact this.imp λh=>by simpa using h
 have h2:(KQ l).Pairwise (λa b=>a.kind≠b.kind):=(J7 l).symm.pairwise hd (λh=>Ne.symm h);exact(h1.and h2).imp λh=>by obtain⟨a,b⟩:=h;omega
def Ey(l:List Comp)(k:Int):Nat:=(l.takeWhile λc=>decide (c.kind<k)).length
def Jn:List Comp->Comp->List Comp
 |[],c=>[c]
 |x::l,c=>if x.kind<c.kind then x::Jn l c else if x.kind=c.kind then c::l else c::x::l
def Jp(l:List Comp)(k:Int):List Comp:=l.filter λc=>!decide (c.kind=k)
def GO(w:Wd)(i:Nat)(cs:List Comp):Wd:=⟨w.kinds,w.gens,match w.items[i]? with|some it=>w.items.set i ⟨it.ent,cs⟩|none=>w.items⟩
def GC(w:Wd)(e:Ent)(c:Comp):Wd×Int:=
 if FD w≠0 then(⟨[],[],[]⟩,FD w)else if Em w.items e<0 then(⟨[],[],[]⟩,4)else
 if(EO w.kinds [c]).2≠0 then(⟨[],[],[]⟩,(EO w.kinds [c]).2)else
 match w.items[(Em w.items e).toNat]?,(EO w.kinds [c]).1 with
 |some it,[d]=>(GO w (Em w.items e).toNat (Jn it.comps d),0)
 |_,_=>(⟨[],[],[]⟩,0)
def Ie(w:Wd)(e:Ent)(k:Int):Wd×Int:=
 if FD w≠0 then(⟨[],[],[]⟩,FD w)else if Em w.items e<0 then(⟨[],[],[]⟩,4)else
 match w.items[(Em w.items e).toNat]? with
 |some it=>if(DW it.comps k).isSome then(GO w (Em w.items e).toNat (Jp it.comps k),0)else(⟨[],[],[]⟩,4)
 |none=>(⟨[],[],[]⟩,4)
def HJ(w:Wd)(e:Ent):Wd×Int:=
 if FD w≠0 then(⟨[],[],[]⟩,FD w)else if Em w.items e<0 then(⟨[],[],[]⟩,4)else
 (⟨w.kinds,w.gens.set e.n.toNat (w.gens.getD e.n.toNat 0+1),w.items.eraseIdx (Em w.items e).toNat⟩,0)
def E1(gens:List Int)(n:Nat):List Int:=if n=gens.length then gens++[0]else gens
def NP:List Item->Item->List Item
 |[],it=>[it]
 |x::l,it=>if x.ent.n<it.ent.n then x::NP l it else it::x::l
def Fy(w:Wd)(l:List Comp):Wd×Ent×Int:=
 if FD w≠0 then(⟨[],[],[]⟩,⟨0,0⟩,FD w)else if(EO w.kinds l).2≠0 then(⟨[],[],[]⟩,⟨0,0⟩,(EO w.kinds l).2)else
 if(DI w).2=false then(⟨[],[],[]⟩,⟨0,0⟩,6)else
 (⟨w.kinds,E1 w.gens (DI w).1,NP w.items ⟨⟨(DI w).1,(E1 w.gens (DI w).1).getD (DI w).1 0⟩,(EO w.kinds l).1⟩⟩,⟨(DI w).1,(E1 w.gens (DI w).1).getD (DI w).1 0⟩,0)
theorem La(i c:Nat)(l:List Int):(DB i c l).1.length=c:=by
 induction c generalizing i l with
 |zero=>rfl
 |succ c ih=>simp[DB,ih]
theorem OC(i c:Nat)(l:List Int):(DB i c l).1.map (·.name)=(List.range' i c).map Ep:=by
 induction c generalizing i l with
 |zero=>rfl
 |succ c ih=>
  have:(Ed i l).1.name=Ep i:=by unfold Ed;split<;>rfl
  simp[DB,ih,Y0,this]
theorem NU(k c:Nat)(l:List Int):(CW k c l).1.length=c:=by
 induction c generalizing k l with
 |zero=>rfl
 |succ c ih=>simp[CW,ih]
theorem MA(k c:Nat)(l:List Int):(CW k c l).1.map (·.name)=(List.range' k c).map Gs:=by
 induction c generalizing k l with
 |zero=>rfl
 |succ c ih=>simp[CW,ih,Y0,F5]
theorem Mo(i:Nat):FN (Ep i)=true:=by
 unfold Ep;split<;>decide
theorem T7(i:Nat):FN (Gs i)=true:=by
 unfold Gs;split<;>decide
theorem UJ(i:Nat)(l:List Int):Bv (Ed i l).1=0:=by
 have h1:=BX l (n:=9) (by omega);have h2:=BX (BW l 9) (n:=40) (by omega);unfold Ed;split
 ·simp[Bv,Mo]
 ·simp[Bv,Mo]
  omega
theorem Mk(i c:Nat)(l:List Int):∀f∈(DB i c l).1,Bv f=0:=by
 induction c generalizing i l with
 |zero=>intro f h;simp[DB]at h
 |succ c ih=>
  intro f h;simp only[DB,Cl]at h;rcases h with rfl|h
  ·exact UJ i l
  ·exact ih _ _ f h
theorem Pm:∀(fs pre:List Field),(∀f∈fs,Bv f=0)->((pre++fs).map (·.name)).Nodup->DV pre fs=0:=by
 intro fs
 induction fs with
 |nil=>intro pre _ _;rfl
 |cons f fs ih=>
  intro pre h hn;have h1:=h f (by simp)
  have h2:pre.any (λo=>o.name==f.name)=false:=by
   rw[CQ];intro o ho;simp only[Qw];intro e;rw[AT,AX]at hn;exact hn.2.2 o.name (TD ho) f.name (by simp) e
  simp only[DV,h1,h2];simp;exact ih _ (λx hx=>h x (by simp[hx])) (by simpa using hn)
theorem Qg:∀(ks pre:List Kind),(∀k∈ks,C9 k=0)->((pre++ks).map (·.name)).Nodup->Ds pre ks=0:=by
 intro fs
 induction fs with
 |nil=>intro pre _ _;rfl
 |cons f fs ih=>
  intro pre h hn;have h1:=h f (by simp)
  have h2:pre.any (λo=>o.name==f.name)=false:=by
   rw[CQ];intro o ho;simp only[Qw];intro e;rw[AT,AX]at hn;exact hn.2.2 o.name (TD ho) f.name (by simp) e
  simp only[Ds,h1,h2];simp;exact ih _ (λx hx=>h x (by simp[hx])) (by simpa using hn)
theorem NY{c:Nat}(h:c<=3):((List.range' 0 c).map Ep).Nodup:=by
 have:c=0\/c=1\/c=2\/c=3:=by omega
 rcases this with rfl|rfl|rfl|rfl<;>decide
theorem N7{c:Nat}(h:c<=4):((List.range' 0 c).map Gs).Nodup:=by
 have:c=0\/c=1\/c=2\/c=3\/c=4:=by omega
 rcases this with rfl|rfl|rfl|rfl|rfl<;>decide
theorem Vm(k:Nat)(l:List Int):C9 (F5 k l).1=0:=by
 have h1:=BX l (n:=3) (by omega);have h2:(1+Bh l 3).toNat<=3:=by omega
 have h3:=Pm (DB 0 (1+Bh l 3).toNat (BW l 3)).1 [] (Mk _ _ _) (by
  rw[CD,OC];exact NY h2)
 have h4:=La 0 (1+Bh l 3).toNat (BW l 3);unfold C9 F5;simp only[T7,h3,h4,Ga];rw[AM (by omega)]
theorem OB(i c:Nat)(l:List Int):∀f∈(CW i c l).1,C9 f=0:=by
 induction c generalizing i l with
 |zero=>intro f h;simp[CW]at h
 |succ c ih=>
  intro f h;simp only[CW,Cl]at h;rcases h with rfl|h
  ·exact Vm i l
  ·exact ih _ _ f h
theorem Sn(l:List Int):1<=(Bu l).1.length/\(Bu l).1.length<=4:=by
 have h:=BX l (n:=4) (by omega);unfold Bu;rw[NU];omega
theorem Pa(l:List Int):((Bu l).1.map (·.name)).Nodup:=by
 have h:=BX l (n:=4) (by omega);unfold Bu;rw[MA];exact N7 (by omega)
theorem No(l:List Int):∀k∈(Bu l).1,C9 k=0:=OB _ _ _
theorem Pb(l:List Int):CB (Bu l).1=0:=by
 unfold CB;have:=Sn l;rw[AM (by omega)];exact Qg _ [] (No l) (Pa l)
theorem Tq{f:Field}(h:Bv f=0)(v:Int):f.low<=Cx f v/\Cx f v<=HN f:=by
 have:=RY h;unfold Cx;rw[AY h];omega
theorem Wn{f:Field}(h:Bv f=0){v:Int}(h1:f.low<=v)(h2:v<=HN f):Cx f v=v:=by
 unfold Cx;rw[AY h];omega
theorem RN{f:Field}(h:Bv f=0)(v:Int):Cx f (Cx f v)=Cx f v:=Wn h (Tq h v).1 (Tq h v).2
theorem Xv{fs:List Field}(h:∀f∈fs,Bv f=0)(vals:List Int):List.zipWith Cx fs (List.zipWith Cx fs vals)=List.zipWith Cx fs vals:=by
 induction fs generalizing vals with
 |nil=>rfl
 |cons f fs ih=>
  cases vals with
  |nil=>rfl
  |cons v vals=>simp[RN (h f (by simp)),ih (λx hx=>h x (by simp[hx]))]
theorem Mm{k:Kind}(h:C9 k=0)(hl:vals.length=k.fields.length):C8 k vals=(List.zipWith Cx k.fields vals,0):=by
 unfold C8;rw[AM (by simp[h]),AM (by simp[hl])]
theorem Pc(k:Nat)(l:List Int):(∀f∈(F5 k l).1.fields,Bv f=0)/\(F5 k l).1.fields.length<=3:=by
 have h1:=BX l (n:=3) (by omega);refine⟨Mk _ _ _,?_⟩;show(DB _ _ _).1.length<=3
 rw[La];omega
theorem LT(i c:Nat)(l:List Int):∀k∈(CW i c l).1,(∀f∈k.fields,Bv f=0)/\k.fields.length<=3:=by
 induction c generalizing i l with
 |zero=>intro f h;simp[CW]at h
 |succ c ih=>
  intro f h;simp only[CW,Cl]at h;rcases h with rfl|h
  ·exact Pc i l
  ·exact ih _ _ f h
theorem OA(l:List Int):∀k∈(Bu l).1,(∀f∈k.fields,Bv f=0)/\k.fields.length<=3:=LT _ _ _
def vAt(fs:List Field)(l:List Int):Nat->List Int×List Int
 |0=>([],l)
 |i+1=>match fs[i]? with
  |some f=>((vAt fs l i).1++[f.low+Bh (vAt fs l i).2 (2^f.bits.toNat)],BW (vAt fs l i).2 (2^f.bits.toNat))
  |none=>vAt fs l i
def cAt(ks:List Kind)(l:List Int):Nat->List Comp×List Int
 |0=>([],l)
 |i+1=>match ks[i]? with
  |some k=>if Bh (cAt ks l i).2 3=2 then((cAt ks l i).1,BW (cAt ks l i).2 3)
   else((cAt ks l i).1++[⟨i,(vAt k.fields (BW (cAt ks l i).2 3) k.fields.length).1⟩],(vAt k.fields (BW (cAt ks l i).2 3) k.fields.length).2)
  |none=>cAt ks l i
def Eu(ks:List Kind)(l:List Int):List Comp×List Int:=cAt ks l ks.length
def wAt(ks:List Kind)(l:List Int):Nat->List Int×List Item×List Int
 |0=>([],[],l)
 |i+1=>
  if Bh (BW (wAt ks l i).2.2 3) 4=3\/(wAt ks l i).2.1.length=8 then((wAt ks l i).1++[Bh (wAt ks l i).2.2 3],(wAt ks l i).2.1,BW (BW (wAt ks l i).2.2 3) 4)
  else((wAt ks l i).1++[Bh (wAt ks l i).2.2 3],(wAt ks l i).2.1++[⟨⟨i,Bh (wAt ks l i).2.2 3⟩,(Eu ks (BW (BW (wAt ks l i).2.2 3) 4)).1⟩],(Eu ks (BW (BW (wAt ks l i).2.2 3) 4)).2)
def Fo(l:List Int):Wd:=
 ⟨(Bu l).1,(wAt (Bu l).1 (BW (Bu l).2 12) (Bh (Bu l).2 12).toNat).1,(wAt (Bu l).1 (BW (Bu l).2 12) (Bh (Bu l).2 12).toNat).2.1⟩
def IH(f:Field):Prop:=0<=f.bits/\f.bits<=32/\ -2147483648<=f.low/\f.low<=2147483648
def KI(ks:List Kind):Prop:=ks.length<=1099511627776/\∀k∈ks,k.fields.length<=1099511627776/\∀f∈k.fields,IH f
theorem cG(fs:List Field)(l:List Int)(i:Nat):(vAt fs l i).1.length<=i:=by
 induction i with
 |zero=>simp[vAt]
 |succ i ih=>rw[vAt];split<;>(try simp only[Ak,Bj])<;>omega
theorem dP(ks:List Kind)(l:List Int)(i:Nat):(cAt ks l i).1.length<=i:=by
 induction i with
 |zero=>simp[cAt]
 |succ i ih=>rw[cAt];split<;>(try split)<;>(try simp only[Ak,Bj])<;>omega
theorem TI{fs:List Field}(h:i<fs.length):vAt fs l (i+1)=((vAt fs l i).1++[fs[i].low+Bh (vAt fs l i).2 (2^fs[i].bits.toNat)],BW (vAt fs l i).2 (2^fs[i].bits.toNat)):=by
 rw[vAt,Af h]
theorem Sz{ks:List Kind}(h:i<ks.length)(h2:Bh (cAt ks l i).2 3=2):cAt ks l (i+1)=((cAt ks l i).1,BW (cAt ks l i).2 3):=by
 rw[cAt,Af h];simp only;rw[AY h2]
theorem Sy{ks:List Kind}(h:i<ks.length)(h2:Bh (cAt ks l i).2 3≠2):cAt ks l (i+1)=((cAt ks l i).1++[⟨i,(vAt ks[i].fields (BW (cAt ks l i).2 3) ks[i].fields.length).1⟩],(vAt ks[i].fields (BW (cAt ks l i).2 3) ks[i].fields.length).2):=by
 rw[cAt,Af h];simp only;rw[AM h2]
theorem RI{b:Nat}(h:b<=32):(1:Int)<=2^b/\(2:Int)^b<=4294967296:=by
 have h1:(2:Nat)^b<=2^32:=R3 (by decide) h;have h2:0<(2:Nat)^b:=Nat.pow_pos (by decide);have h3:((2:Int)^b)=(((2:Nat)^b:Nat):Int):=by simp
 rw[h3];have:(2:Nat)^32=4294967296:=by decide
 omega
theorem UT(G:Nat)(ks:List Kind)(l:List Int)(hk:KI ks):PO prog 34 [Ba false false ks,.ptr G 0 0] G (DD l) (B3 true false (Eu ks l).1) (DD (Eu ks l).2):=by
 refine Sp (nt:=50) (res:=[.tmp 4]) func34 λSf=>?_
 obtain⟨hk0,hk1⟩:=hk;refine R1 ?_;refine R1 ?_;refine JN ?_;refine AWP.adopt (d:=5) 42 2 rfl λK=>?_
 refine S7 (λ(i K:Nat) (M:List AV) (n:Nat) (q:List Int)=>⟨[(1,.ptr G 0 0),(5,.sl K 0 n),(11,Ba false false ks),(12,iA (ks.map (CF false)).length),(13,iA i)],(K,.row 42 2 M)::(G,DD q)::Sf⟩) (λi _ M n q=>i<=ks.length/\M=(cAt ks l i).1.map (AZ false)/\n=M.length/\q=(cAt ks l i).2) (λi _ _ _ _=>ks.length-i) 0 K [] 0 l ⟨Ap _,rfl,rfl,rfl⟩ ?_;rintro i K M n q ⟨hi,hM,hn,hq⟩;refine KK ?_;refine AC rfl (λhc=>?_) (λhc=>?_)
 ·have h:i<ks.length:=by simpa using hc
  obtain⟨hf0,hf1⟩:=hk1 _ (Ax h);have h3:=BX q (n:=3) (by decide);have hn1:n+1<=1099511627776:=by have:=dP ks l i;rw[hn,hM,AH];omega
  refine KK ?_;refine Ai λX=>?_;refine KK ?_;refine AOps.o2 (h:=(EL G _ _ (by decide))) (k:=?_);refine KK ?_
  refine AC rfl (λhe=>?_) (λhe=>?_)
  ·have he:Bh q 3=2:=by simpa using he
   refine KK ?_;refine Md (i+1) K M n _ ⟨h,?_,hn,?_⟩
   ·rw[Sz h (hq▸he),hM]
   ·rw[Sz h (hq▸he),hq]
  ·have he:Bh q 3≠2:=by simpa using he
   refine JI ?_;refine Ai λY=>?_;refine JC ?_
   refine CY (Y:=Y) 3 1 .here (λF=>.cons (.agg (.s (.cons (.base .nil) .nil))) .nil) λF=>?_
   refine KK ?_;obtain⟨fs,hfs⟩:=nm (ks[i].fields);obtain⟨q1,hq1⟩:=nm (BW q 3);rw[hq1,hfs];have hck:cAt ks l (i+1)=((cAt ks l i).1++[⟨i,(vAt fs q1 fs.length).1⟩],(vAt fs q1 fs.length).2):=by rw[Sy h (hq▸he),<-hq,hq1,hfs]
   rw[hfs]at hf0 hf1;refine S7 (λ(j F:Nat) (L:List AV) (m:Nat) (r:List Int)=>⟨[(1,.ptr G 0 0),(5,.sl K 0 n),(6,iA i),(8,.ptr Y 0 0),(11,Ba false false ks),(12,iA (ks.map (CF false)).length),(13,iA i),(24,IA false fs),(25,iA (fs.map fieldA).length),(26,iA j)],(F,.row 3 1 L)::(Y,.row 42 2 [.agg [iA i,.sl F 0 m]])::(K,.row 42 2 M)::(G,DD r)::Sf⟩) (λj _ L m r=>j<=fs.length/\L=(vAt fs q1 j).1.map iA/\m=L.length/\r=(vAt fs q1 j).2) (λj _ _ _ _=>fs.length-j) 0 F [] 0 q1 ⟨Ap _,rfl,rfl,rfl⟩ ?_;rintro j F L m r ⟨hj,hL,hm,hr⟩;refine KK ?_;refine AC rfl (λhd=>?_) (λhd=>?_)
   ·have hj':j<fs.length:=by simpa using hd
    obtain⟨hb0,hb1,hl0,hl1⟩:=hf1 _ (Ax hj');obtain⟨b,hb⟩:∃b:Nat,fs[j].bits=b:=⟨fs[j].bits.toNat,by omega⟩;have hp:=RI (b:=b) (by omega);have hw:IntKind.i64.wrap (1*2^b)=2^b:=by rw[Int.one_mul];exact Gl (by omega) (by omega)
    have hv:=BX r (n:=IntKind.i64.wrap (1*2^b)) (by omega);have hm1:m+1<=1099511627776:=by have:=cG fs q1 j;rw[hm,hL,AH];omega
    refine KK ?_;refine Ai λZ=>?_;refine KK ?_
    refine CN λX7=>?_
    refine RU ?_;(iterate 7 refine RK ?_);refine RGo.p (W.shl rfl rfl hb (by show b<=64;omega)) rfl ?_;refine RGo.o2 (h:=(EL G _ _ (by rw[hw];omega))) (k:=?_);refine RGo.p (W.add rfl rfl (by omega)) rfl ?_;(iterate 4 refine RK ?_);refine RGo.nil (by kernel_rfl) ?_;refine KK ?_;have hva:vAt fs q1 (j+1)=((vAt fs q1 j).1++[fs[j].low+Bh r (IntKind.i64.wrap (1*2^b))],BW r (IntKind.i64.wrap (1*2^b))):=by rw[TI hj',<-hr,hw,hb];rfl
    refine Md (j+1) X7 _ _ _ ⟨hj',?_,?_,?_⟩
    ·rw[hva,hL,AT];rfl
    ·rw[Ak,hm]
    ·rw[hva]
   ·have hj':j=fs.length:=by rw[Ao,AH]at hd;omega
    subst hj';refine FL ?_;refine E9 (X:=F) (Y:=Y) .here (.next .here) rfl (.cons (.agg (.s (.cons (.base (.sl (by omega))) .nil))) .nil) ?_
    have hF:AV.frzs ((L.drop 0).take m)=(vAt fs q1 fs.length).1.map iA:=by
     rw[Cp,BB (by omega),hL];exact Frzs.h
    rw[hF]
    (iterate 3 refine WK ?_);refine Eg (AZ false ⟨i,(vAt fs q1 fs.length).1⟩) ?_;refine WK ?_;refine Ay λY=>?_;refine KK ?_
    refine Md (i+1) Y _ _ _ ⟨h,?_,?_,?_⟩
    ·rw[hck,hM,AT];rfl
    ·rw[Ak,hn]
    ·rw[hck,hr]
 ·have h:i=ks.length:=by rw[Ao,AH]at hc;omega
  subst h;refine JA ?_;subst hM hq;exact⟨[.sl K 0 n],[.lst true 42 2 ((cAt ks l ks.length).1.map (AZ false))],_,[(G,DD (cAt ks l ks.length).2)],.cons (.tmp rfl) rfl .nil,.cons (.cell (.sl (p:=0) .here hn)) .nil,by exact BH,rfl,rfl⟩
theorem Oe(ks:List Kind)(l:List Int)(i:Nat):(wAt ks l i).1.length=i:=by
 induction i with
 |zero=>rfl
 |succ i ih=>rw[wAt];split<;>simp[ih]
theorem TG(ks:List Kind)(l:List Int)(i:Nat):(wAt ks l i).2.1.length<=i:=by
 induction i with
 |zero=>simp[wAt]
 |succ i ih=>rw[wAt];split<;>(try simp only[Ak,Bj])<;>omega
def wdO(w:Wd):AV:=.agg [Ba false false w.kinds,Av true w.gens,J9 true false w.items]
instance {w:Wd}:Frz (wdO w) (wdA false w):=⟨by unfold wdO wdA;exact Frz.h⟩
theorem Sq(i:Nat)(l:List Int):IH (Ed i l).1:=by
 have h9:=BX l (n:=9) (by decide);have h40:=BX (BW l 9) (n:=40) (by decide);unfold Ed;split<;>refine⟨?_,?_,?_,?_⟩<;>simp<;>omega
theorem dI(i:Nat)(l:List Int):∀f∈(fAt i l).1,IH f:=by
 induction i with
 |zero=>intro f hf;cases hf
 |succ i ih=>
  intro f hf;rcases AL.1 hf with hf|hf
  ·exact ih f hf
  ·rw[AW.1 hf];exact Sq _ _
theorem UI(k:Nat)(l:List Int):(F5 k l).1.fields.length<=3/\∀f∈(F5 k l).1.fields,IH f:=by
 have h:=BX l (n:=3) (by decide);show(DB 0 (1+Bh l 3).toNat (BW l 3)).1.length<=3/\∀f∈(DB 0 (1+Bh l 3).toNat (BW l 3)).1,IH f
 rw[KE];exact⟨by rw[Wy];omega,dI _ _⟩
theorem Ws(i:Nat)(l:List Int):∀k∈(kAt i l).1,k.fields.length<=3/\∀f∈k.fields,IH f:=by
 induction i with
 |zero=>intro f hf;cases hf
 |succ i ih=>
  intro f hf;rcases AL.1 hf with hf|hf
  ·exact ih f hf
  ·rw[AW.1 hf];exact UI _ _
theorem Mj(l:List Int):(Bu l).1.length=(1+Bh l 4).toNat:=by rw[Hi,Wt]
theorem KD(l:List Int):KI (Bu l).1:=by
 have h:=BX l (n:=4) (by decide);refine⟨by rw[Mj];omega,?_⟩;rw[Hi];intro k hk;have:=Ws _ _ k hk;exact⟨by omega,this.2⟩
theorem Y7(l:List Int):PS prog 6 [Av false l] (wdO (Fo l)):=by
 refine Sp (nt:=52) (res:=[.cell 2 26]) func6 λSf=>?_
 have hko:=KD l;obtain⟨ks,hks⟩:=nm ((Bu l).1);obtain⟨l1,hl1⟩:=nm ((Bu l).2);have h12:=BX l1 (n:=12) (by decide);obtain⟨c,hc⟩:∃c:Nat,Bh l1 12=c:=⟨(Bh l1 12).toNat,by omega⟩;obtain⟨l2,hl2⟩:=nm (BW l1 12);have hg:Fo l=⟨ks,(wAt ks l2 c).1,(wAt ks l2 c).2.1⟩:=by unfold Fo;rw[hks,hl1,hl2,hc];rfl
 have hkp:=λG=>aB G l
 rw[hks,hl1]at hkp;rw[hks]at hko;rw[hg];clear hg hks hl1;refine JF ?_;refine Ai λR=>?_;refine NL ?_
 refine JI ?_;refine Ai λG=>?_;refine JC ?_
 refine JF ?_;refine AOps.o1 (h:=(hkp G)) (k:=?_);refine KO ?_;refine Ai λV=>?_;refine JC ?_
 refine JF ?_;refine AOps.o2 (h:=(EL G _ _ (by decide))) (k:=?_);refine JC ?_;rw[hl2,hc];refine CY (Y:=V) 83 3 (by exact As) (λF=>.cons (.agg (.s (.s (.cons (.base .nil) .nil)))) .nil) λB=>?_
 refine CY (Y:=V) 3 1 (by exact As) (λF=>.cons (.agg (.s (.cons (.base .nil) .r))) .nil) λA=>?_
 refine FL ?_;refine dl (λ(i A B:Nat) (L M:List AV) (n:Nat) (q:List Int)=>⟨[(2,.ptr R 0 0),(3,.ptr G 0 0),(4,.ptr V 0 0),(13,iA c),(14,iA i)],(A,.row 3 1 L)::(B,.row 83 3 M)::(V,.row 26 3 [.agg [Ba false false ks,.sl A 0 i,.sl B 0 n]])::(G,DD q)::(R,.row 26 3 [.agg [.prim (.slice none 0 0),.prim (.slice none 0 0),.prim (.slice none 0 0)]])::Sf⟩) (λi _ _ L M n q=>i<=c/\L=(wAt ks l2 i).1.map iA/\M=(wAt ks l2 i).2.1.map (AN false)/\n=M.length/\q=(wAt ks l2 i).2.2) (λi _ _ _ _ _ _=>c-i) 0 A B [] [] 0 l2 ⟨Ap _,rfl,rfl,rfl,rfl⟩ ?_;rintro i A B L M n q ⟨hi,hL,hM,hn,hq⟩;have hA:=Oe ks l2 i;have hB:=TG ks l2 i;refine KK ?_;refine AC rfl (λhd=>?_) (λhd=>?_)
 ·have h:i<c:=by rw[Aj]at hd;omega
  have h3:=BX q (n:=3) (by decide);have h4:=BX (BW q 3) (n:=4) (by decide);refine R1 ?_;refine CN λX7=>?_
  refine JM ?_;refine RGo.o2 (h:=(EL G _ _ (by decide))) (k:=?_);(iterate 4 refine RK ?_);refine RGo.nil (by kernel_rfl) ?_;refine KK ?_;refine AOps.o2 (h:=(EL G _ _ (by decide))) (k:=?_);refine KK ?_;have hLl:L.length=i:=by rw[hL,AH,hA]
  obtain⟨IT,hIT⟩:=nm ((wAt ks l2 i).2.1);rw[hIT]at hM hB;have hnl:n=IT.length:=by rw[hn,hM,AH]
  have hat:(L++[.prim (.int .i64 (Bh q 3))])[i]?=some (.prim (.int .i64 (Bh q 3))):=by rw[<-hLl];simp
  refine AC rfl (λhe=>?_) (λhe=>?_)
  ·have he:Bh (BW q 3) 4=3\/n=8:=by rw[Cf,Aj,Aj]at he;omega
   have hw:wAt ks l2 (i+1)=((wAt ks l2 i).1++[Bh q 3],IT,BW (BW q 3) 4):=by rw[wAt,<-hq,hIT,<-hnl,AY he]
   refine KK ?_;refine Tz (i+1) X7 B _ M n _ ⟨h,?_,?_,hn,?_⟩
   ·rw[hw,hL,AT];rfl
   ·rw[hw,hM]
   ·rw[hw]
  ·have he:¬(Bh (BW q 3) 4=3\/n=8):=by rw[Dq,Ao,Ao]at he;omega
   have hw:wAt ks l2 (i+1)=((wAt ks l2 i).1++[Bh q 3],IT++[⟨⟨i,Bh q 3⟩,(Eu ks (BW (BW q 3) 4)).1⟩],(Eu ks (BW (BW q 3) 4)).2):=by rw[wAt,<-hq,hIT,<-hnl,AM he]
   have hin:i<i+[AV.prim (.int .i64 (Bh q 3))].length:=Nat.lt_succ_self i;refine CN λX8=>?_
   refine JM ?_;refine RGo.o2 (h:=(UT G ks _ hko)) (k:=?_);refine RK ?_;refine I0 (AN false ⟨⟨i,Bh q 3⟩,(Eu ks (BW (BW q 3) 4)).1⟩) ?_;(iterate 3 refine RK ?_);refine RGo.nil (by kernel_rfl) ?_;refine KK ?_;refine Tz (i+1) X7 X8 _ _ _ _ ⟨h,?_,?_,?_,?_⟩
   ·rw[hw,hL,AT];rfl
   ·rw[hw,hM,AT];rfl
   ·rw[Ak,hn]
   ·rw[hw]
 ·have h:i=c:=by rw[Ao]at hd;omega
  subst h;refine JA ?_;subst hL hM;have hA:i=((wAt ks l2 i).1.map iA).length:=by rw[AH,hA]
  exact⟨[.agg [Ba false false ks,.sl A 0 i,.sl B 0 n]],[wdO ⟨ks,(wAt ks l2 i).1,(wAt ks l2 i).2.1⟩],_,[],.cons (.cell (p:=4) rfl (by exact As) TAg.h TSize.h rfl rfl) rfl .nil,.cons (.agg (.s (.cons (.sl (p:=0) .here hA) (.cons (.sl (p:=0) .here hn) .nil)))) .nil,by exact BH,rfl,rfl⟩
theorem W4{ks:List Kind}{c:Comp}(h:c∈(cAt ks l i).1):∃(j:Nat) (hj:j<ks.length) (q:List Int),j<i/\c=⟨j,(vAt ks[j].fields q ks[j].fields.length).1⟩:=by
 induction i with
 |zero=>cases h
 |succ i ih=>
  by_cases hi:i<ks.length
  ·by_cases h2:Bh (cAt ks l i).2 3=2
   ·rw[Sz hi h2]at h
    obtain⟨j,hj,q,h3,h4⟩:=ih h;exact⟨j,hj,q,by omega,h4⟩
   ·rw[Sy hi h2]at h
    rcases AL.1 h with h|h
    ·obtain⟨j,hj,q,h3,h4⟩:=ih h
     exact⟨j,hj,q,by omega,h4⟩
    ·rw[AW.1 h]
     exact⟨i,hi,_,by omega,rfl⟩
  ·rw[cAt,CT (by omega)]at h
   obtain⟨j,hj,q,h3,h4⟩:=ih h;exact⟨j,hj,q,by omega,h4⟩
theorem WZ{ks:List Kind}{it:Item}(h:it∈(wAt ks l i).2.1):∃(j:Nat) (q:List Int),j<i/\(wAt ks l i).1[j]?=some it.ent.gen/\it.ent.n=j/\it.comps=(Eu ks q).1:=by
 induction i with
 |zero=>cases h
 |succ i ih=>
  have hl:=Oe ks l i
  have hup:∀(x:Int) (g:Int) (j:Nat),(wAt ks l i).1[j]?=some g->((wAt ks l i).1++[x])[j]?=some g:=λx g j hg=>by
   rw[CR (AE.1 hg).1,hg]
  rw[wAt]at h⊢;split
  ·rename_i hs
   rw[AY hs]at h;obtain⟨j,q,h1,h2,h3,h4⟩:=ih h;exact⟨j,q,by omega,hup _ _ _ h2,h3,h4⟩
  ·rename_i hs
   rw[AM hs]at h;rcases AL.1 h with h|h
   ·obtain⟨j,q,h1,h2,h3,h4⟩:=ih h
    exact⟨j,q,by omega,hup _ _ _ h2,h3,h4⟩
   ·rw[AW.1 h]
    exact⟨i,_,by omega,by rw[Bd (by omega),hl];simp,rfl,rfl⟩
theorem PZ(l:List Int):(Bu l).1.length<=4/\∀k∈(Bu l).1,k.fields.length<=3:=by
 have h:=BX l (n:=4) (by decide);refine⟨by rw[Mj];omega,?_⟩;rw[Hi];intro k hk;exact(Ws _ _ k hk).1
theorem H9{ks:List Kind}:∀{l:List Comp} {last:Int},-1<=last->(E6 ks last l=true↔l.Pairwise (λa b=>a.kind<b.kind)/\∀c∈l,last<c.kind/\c.kind<ks.length/\∃k,ks[c.kind.toNat]?=some k/\Do k c.vals=true)
 |[],_,_=>by simp[E6]
 |c::l,last,hl=>by
  rw[E6];constructor
  ·intro h
   split at h
   ·rename_i k hk
    simp only[AF,Aj]at h;obtain⟨⟨⟨h1,h2⟩,h3⟩,h4⟩:=h;obtain⟨h5,h6⟩:=(H9 (by omega)).1 h4;refine⟨Al.2 ⟨λd hd=>(h6 d hd).1,h5⟩,λd hd=>?_⟩;rcases AQ.1 hd with rfl|hd
    ·exact⟨h1,h2,k,hk,h3⟩
    ·obtain⟨q1,q2⟩:=h6 d hd
     exact⟨by omega,q2⟩
   ·cases h
  ·rintro⟨h1,h2⟩
   obtain⟨h3,h4⟩:=Al.1 h1;obtain⟨h5,h6,k,hk,h7⟩:=h2 c (by simp);rw[hk];simp only[AF,Aj];exact⟨⟨⟨h5,h6⟩,h7⟩,(H9 (by omega)).2 ⟨h4,λd hd=>⟨h3 d hd,(h2 d (by simp[hd])).2⟩⟩⟩
theorem I8{ks:List Kind}:∀{l:List Item} {last:Int},-1<=last->(EC ks gens last l=true↔l.Pairwise (λa b=>a.ent.n<b.ent.n)/\∀it∈l,last<it.ent.n/\it.ent.n<gens.length/\gens[it.ent.n.toNat]?=some it.ent.gen/\it.ent.gen≠1073741824/\Cb ks it.comps=true)
 |[],_,_=>by simp[EC]
 |c::l,last,hl=>by
  rw[EC];constructor
  ·intro h
   split at h
   ·rename_i k hk
    simp only[AF,Aj,ET,Ao]at h;obtain⟨⟨⟨⟨⟨h1,h2⟩,h3⟩,h4⟩,h7⟩,h8⟩:=h;obtain⟨h5,h6⟩:=(I8 (by omega)).1 h8;refine⟨Al.2 ⟨λd hd=>(h6 d hd).1,h5⟩,λd hd=>?_⟩;rcases AQ.1 hd with rfl|hd
    ·exact⟨h1,h2,by rw[hk,h3],h4,h7⟩
    ·obtain⟨q1,q2⟩:=h6 d hd
     exact⟨by omega,q2⟩
   ·cases h
  ·rintro⟨h1,h2⟩
   obtain⟨h3,h4⟩:=Al.1 h1;obtain⟨h5,h6,hk,h7,h8⟩:=h2 c (by simp);rw[hk];simp only[AF,Aj,ET,Ao];exact⟨⟨⟨⟨⟨h5,h6⟩,CZ⟩,h7⟩,h8⟩,(I8 (by omega)).2 ⟨h4,λd hd=>⟨h3 d hd,(h2 d (by simp[hd])).2⟩⟩⟩
structure WdOK(w:Wd):Prop where
 ks:CB w.kinds=0
 gl:w.gens.length<=256
 il:w.items.length<=w.gens.length
 gs:∀g∈w.gens,0<=g/\g<=1073741824
 so:w.items.Pairwise λa b=>a.ent.n<b.ent.n
 it:∀it∈w.items,0<=it.ent.n/\it.ent.n<w.gens.length/\w.gens[it.ent.n.toNat]?=some it.ent.gen/\it.ent.gen≠1073741824/\Cb w.kinds it.comps=true
theorem Cg(w:Wd):FD w=0↔WdOK w:=by
 have hg:L9 w.gens=true↔∀g∈w.gens,0<=g/\g<=1073741824:=by
  unfold L9;rw[Cu];simp only[AF,Aj]
 have hi:=I8 (ks:=w.kinds) (gens:=w.gens) (l:=w.items) (last:=-1) (by omega);unfold FD;constructor
 ·intro h
  split at h
  ·exact absurd h ‹_›
  rename_i h1;split at h
  ·cases h
  rename_i h2;split at h
  ·cases h
  rename_i h3;split at h
  ·cases h
  rename_i h4;obtain⟨h5,h6⟩:=hi.1 (by simpa using h4);exact⟨by simpa using h1,by omega,by omega,hg.1 (by simpa using h3),h5,λit hit=>by obtain⟨a,b⟩:=h6 it hit;exact⟨by omega,b⟩⟩
 ·intro h
  rw[AM (by simp[h.ks]),AM (by have:=h.gl;have:=h.il;omega),AM (by rw[hg.2 h.gs];simp),AM (by rw[hi.2 ⟨h.so,λit hit=>by obtain⟨a,b⟩:=h.it it hit;exact⟨by omega,b⟩⟩];simp)]
theorem ax(ks:List Kind)(l:List Int)(i:Nat):(cAt ks l i).1.Pairwise λa b=>a.kind<b.kind:=by
 induction i with
 |zero=>exact .nil
 |succ i ih=>
  by_cases hi:i<ks.length
  ·by_cases h2:Bh (cAt ks l i).2 3=2
   ·rw[Sz hi h2];exact ih
   ·rw[Sy hi h2]
    refine Bi.2 ⟨ih,Bx ..,λa ha b hb=>?_⟩;rw[AW.1 hb];obtain⟨j,hj,q,hji,rfl⟩:=W4 ha;show(j:Int)<i
    omega
  ·rw[cAt,CT (by omega)];exact ih
theorem Wb{fs:List Field}(hf:∀f∈fs,Bv f=0)(hr:∀f∈fs,IH f)(l:List Int):∀i,i<=fs.length->List.zipWith Cx (fs.take i) (vAt fs l i).1=(vAt fs l i).1/\(vAt fs l i).1.length=i
 |0,_=>⟨rfl,rfl⟩
 |i+1,h=>by
  obtain⟨h1,h2⟩:=Wb hf hr l i (by omega);rw[TI (by omega)];have hm:=Ax (l:=fs) (n:=i) (by omega);obtain⟨hb0,hb1,_,_⟩:=hr _ hm;have hp:=RI (b:=fs[i].bits.toNat) (by omega);have hv:=BX (vAt fs l i).2 (n:=2^fs[i].bits.toNat) (by omega);have hh:HN fs[i]=fs[i].low+(2^fs[i].bits.toNat-1):=by unfold HN;rw[AY (hf _ hm)]
  refine⟨?_,by rw[Ak,h2];rfl⟩;rw[A6 (by omega),List.zipWith_append (by rw[h2,BZ];omega),h1];simp only[JT,List.zipWith_nil_left];rw[Wn (hf _ hm) (by omega) (by rw[hh];omega)]
theorem XQ{k:Kind}(h1:C9 k=0)(hf:∀f∈k.fields,Bv f=0)(hr:∀f∈k.fields,IH f)(l:List Int):Do k (vAt k.fields l k.fields.length).1=true:=by
 obtain⟨h2,h3⟩:=Wb hf hr l k.fields.length (AP _);rw[B9]at h2;unfold Do;rw[Mm h1 h3,h2];simp
structure KsGood(ks:List Kind):Prop where
 one:∀k∈ks,C9 k=0
 fld:∀k∈ks,∀f∈k.fields,Bv f=0
 rng:∀k∈ks,∀f∈k.fields,IH f
theorem LZ(l:List Int):KsGood (Bu l).1:=
 ⟨No l,λk hk=>(OA l k hk).1,λk hk=>((KD l).2 k hk).2⟩
theorem Lb{ks:List Kind}(h:KsGood ks)(l:List Int):Cb ks (Eu ks l).1=true:=by
 unfold Cb;rw[H9 (by omega)];refine⟨ax _ _ _,λc hc=>?_⟩;obtain⟨j,hj,q,_,rfl⟩:=W4 hc;have hm:=Ax hj;exact⟨by show(-1:Int)<(j:Int);omega,by show(j:Int)<_;omega,ks[j],Af hj,XQ (h.one _ hm) (h.fld _ hm) (h.rng _ hm) q⟩
theorem Y9(ks:List Kind)(l:List Int)(i:Nat):(wAt ks l i).2.1.Pairwise λa b=>a.ent.n<b.ent.n:=by
 induction i with
 |zero=>exact .nil
 |succ i ih=>
  rw[wAt];split
  ·exact ih
  ·refine Bi.2 ⟨ih,Bx ..,λa ha b hb=>?_⟩
   rw[AW.1 hb];obtain⟨j,q,hji,_,e,_⟩:=WZ ha;show a.ent.n<(i:Int)
   omega
theorem ZC(ks:List Kind)(l:List Int)(i:Nat):∀g∈(wAt ks l i).1,0<=g/\g<3:=by
 induction i with
 |zero=>intro g hg;cases hg
 |succ i ih=>
  intro g hg;rw[wAt]at hg;have h3:=BX (wAt ks l i).2.2 (n:=3) (by decide);split at hg<;>
  ·rcases AL.1 hg with hg|hg
   ·exact ih g hg
   ·rw[AW.1 hg];exact h3
theorem UG(l:List Int):WdOK (Fo l):=by
 have h:=BX (Bu l).2 (n:=12) (by decide);have h1:=TG (Bu l).1 (BW (Bu l).2 12) (Bh (Bu l).2 12).toNat;have h2:=Oe (Bu l).1 (BW (Bu l).2 12) (Bh (Bu l).2 12).toNat;have h3:=ZC (Bu l).1 (BW (Bu l).2 12) (Bh (Bu l).2 12).toNat;refine⟨Pb l,?_,?_,λg hg=>?_,Y9 _ _ _,λit hit=>?_⟩
 ·exact B7 (Nat.le_of_eq h2) (by omega)
 ·exact B7 h1 (Nat.le_of_eq h2.symm)
 ·have:=h3 g hg;omega
 ·obtain⟨j,q,hji,hg,hn,hc⟩:=WZ hit
  have hjl:j<(wAt (Bu l).1 (BW (Bu l).2 12) (Bh (Bu l).2 12).toNat).1.length:=(AE.1 hg).1;have hgm:=h3 _ (Bb hg);refine⟨by omega,?_,?_,by omega,by rw[hc];exact Lb (LZ l) q⟩
  ·rw[hn];show(j:Int)<((wAt _ _ _).1.length:Int);omega
  ·rw[hn];exact hg
section
section
variable {α:Type}{key:α->Int}{l a b:List α}
def KS(key:α->Int)(l:List α):Prop:=l.Pairwise λa b=>key a<key b
theorem Me(h:KS key l){x y:α}(hx:x∈l)(hy:y∈l)(e:key x=key y):x=y:=by
 induction l with
 |nil=>cases hx
 |cons z l ih=>
  obtain⟨h1,h2⟩:=Al.1 h;rcases AQ.1 hx with q|q<;>rcases AQ.1 hy with r|r
  ·rw[q,r]
  ·subst q;have:=h1 y r;omega
  ·subst r;have:=h1 x q;omega
  ·exact ih h2 q r
theorem Vd:∀{a b:List α},KS key a->KS key b->(∀x,x∈a↔x∈b)->a=b
 |[],[],_,_,_=>rfl
 |[],y::b,_,_,h=>absurd ((h y).2 (by simp)) (by simp)
 |x::a,[],_,_,h=>absurd ((h x).1 (by simp)) (by simp)
 |x::a,y::b,ha,hb,h=>by
  obtain⟨a1,a2⟩:=Al.1 ha;obtain⟨b1,b2⟩:=Al.1 hb
  have e:x=y:=by
   rcases AQ.1 ((h x).1 (by simp))with e|h1
   ·exact e
   ·rcases AQ.1 ((h y).2 (by simp))with e|h2
    ·exact e.symm
    ·have:=b1 x h1;have:=a1 y h2;omega
  subst e;rw[Vd a2 b2 λz=>?_];constructor
  ·intro hz
   rcases AQ.1 ((h z).1 (by simp[hz]))with e|h1
   ·have:=a1 z hz;rw[e]at this;omega
   ·exact h1
  ·intro hz
   rcases AQ.1 ((h z).2 (by simp[hz]))with e|h1
   ·have:=b1 z hz;rw[e]at this;omega
   ·exact h1
theorem Om{y:α}(hi:l[i]?=some y):l=l.take i++y::l.drop (i+1):=by
 obtain⟨h,rfl⟩:=AE.1 hi;rw[<-D9 h,CJ]
theorem PI{y:α}(h:KS key l)(hi:l[i]?=some y):KS key (l.take i)/\KS key (l.drop (i+1))/\(∀x∈l.take i,key x<key y)/\(∀x∈l.drop (i+1),key y<key x)/\∀x,x∈l↔x∈l.take i\/x=y\/x∈l.drop (i+1):=by
 have e:=Om hi;have h':=h;rw[e]at h';obtain⟨h1,h2,h3⟩:=Bi.1 h';obtain⟨h4,h5⟩:=Al.1 h2;refine⟨h1,h5,λx hx=>h3 x hx y (by simp),h4,λx=>?_⟩
 conv=>lhs;rw[e]
 simp
theorem aA{y:α}(h:KS key l)(hi:l[i]?=some y):KS key (l.eraseIdx i)/\∀x,x∈l.eraseIdx i↔x∈l/\key x≠key y:=by
 obtain⟨h1,h2,h3,h4,h5⟩:=PI h hi;refine⟨h.sublist (List.eraseIdx_sublist _ _),λx=>?_⟩;rw[Fv,Du,h5];constructor
 ·rintro(hx|hx)
  ·exact⟨.inl hx,by have:=h3 x hx;omega⟩
  ·exact⟨.inr (.inr hx),by have:=h4 x hx;omega⟩
 ·rintro⟨hx|rfl|hx,hn⟩
  ·exact .inl hx
  ·exact absurd rfl hn
  ·exact .inr hx
theorem Z9{y z:α}(h:KS key l)(hi:l[i]?=some y)(hk:key z=key y):KS key (l.set i z)/\∀x,x∈l.set i z↔x=z\/(x∈l/\key x≠key z):=by
 obtain⟨h1,h2,h3,h4,h5⟩:=PI h hi;obtain⟨hl,_⟩:=AE.1 hi;have e:l.set i z=l.take i++z::l.drop (i+1):=List.set_eq_take_append_cons_drop.trans (AY hl);rw[e];refine⟨Bi.2 ⟨h1,Al.2 ⟨λx hx=>by have:=h4 x hx;omega,h2⟩,λx hx w hw=>?_⟩,λx=>?_⟩
 ·rcases AQ.1 hw with rfl|hw
  ·have:=h3 x hx;omega
  ·have:=h3 x hx;have:=h4 w hw;omega
 ·rw[h5,Du,Cl]
  constructor
  ·rintro(hx|rfl|hx)
   ·exact .inr ⟨.inl hx,by have:=h3 x hx;omega⟩
   ·exact .inl rfl
   ·exact .inr ⟨.inr (.inr hx),by have:=h4 x hx;omega⟩
  ·rintro(rfl|⟨hx|rfl|hx,hn⟩)
   ·exact .inr (.inl rfl)
   ·exact .inl hx
   ·exact absurd hk.symm hn
   ·exact .inr (.inr hx)
theorem co(h:KS key l){x:α}:(l.find? λy=>decide (key y=n))=some x↔x∈l/\key x=n:=by
 constructor
 ·intro e
  exact⟨EY e,by simpa using LN e⟩
 ·rintro⟨hx,e⟩
  cases hf:l.find? λy=>decide (key y=n)with
  |none=>rw[Eo]at hf;exact absurd (by simpa using e) (hf x hx)
  |some z=>rw[Me h hx (EY hf) (by have:=LN hf;simp at this;omega)]
end
theorem held_iff{ks:List Kind}{l:List Comp}:Cb ks l=true↔Ee l/\∀c∈l,0<=c.kind/\c.kind<ks.length/\∃k,ks[c.kind.toNat]?=some k/\Do k c.vals=true:=by
 unfold Cb;rw[H9 (by omega)];constructor
 ·rintro⟨h1,h2⟩
  exact⟨h1,λc hc=>⟨by have:=(h2 c hc).1;omega,(h2 c hc).2⟩⟩
 ·rintro⟨h1,h2⟩
  exact⟨h1,λc hc=>⟨by have:=(h2 c hc).1;omega,(h2 c hc).2⟩⟩
theorem Mg{c:Comp}:∀{l:List Comp},Ee l->∀d,d∈Jn l c↔d=c\/(d∈l/\d.kind≠c.kind)
 |[],_,d=>by simp[Jn]
 |x::l,h,d=>by
  obtain⟨h1,h2⟩:=Al.1 h;rw[Jn];split
  ·rename_i hx
   rw[Cl,Mg h2,Cl];constructor
   ·rintro(rfl|rfl|⟨hd,hn⟩)
    ·exact .inr ⟨.inl rfl,by omega⟩
    ·exact .inl rfl
    ·exact .inr ⟨.inr hd,hn⟩
   ·rintro(rfl|⟨rfl|hd,hn⟩)
    ·exact .inr (.inl rfl)
    ·exact .inl rfl
    ·exact .inr (.inr ⟨hd,hn⟩)
  ·split
   ·rename_i hx
    rw[Cl,Cl];constructor
    ·rintro(rfl|hd)
     ·exact .inl rfl
     ·exact .inr ⟨.inr hd,by have:=h1 d hd;omega⟩
    ·rintro(rfl|⟨rfl|hd,hn⟩)
     ·exact .inl rfl
     ·exact absurd hx hn
     ·exact .inr hd
   ·rw[Cl,Cl]
    constructor
    ·rintro(rfl|rfl|hd)
     ·exact .inl rfl
     ·exact .inr ⟨.inl rfl,by omega⟩
     ·exact .inr ⟨.inr hd,by have:=h1 d hd;omega⟩
    ·rintro(rfl|⟨hd,hn⟩)
     ·exact .inl rfl
     ·exact .inr hd
theorem NQ{c:Comp}:∀{l:List Comp},Ee l->Ee (Jn l c)
 |[],_=>Bx ..
 |x::l,h=>by
  obtain⟨h1,h2⟩:=Al.1 h;rw[Jn];split
  ·rename_i hx
   refine Al.2 ⟨λd hd=>?_,NQ h2⟩;rcases(Mg h2 d).1 hd with rfl|⟨hd,_⟩
   ·exact hx
   ·exact h1 d hd
  ·split
   ·rename_i hx
    exact Al.2 ⟨λd hd=>by have:=h1 d hd;omega,h2⟩
   ·refine Al.2 ⟨λd hd=>?_,h⟩
    rcases AQ.1 hd with rfl|hd
    ·omega
    ·have:=h1 d hd;omega
theorem YQ{l:List Comp}(d:Comp):d∈Jp l k↔d∈l/\d.kind≠k:=by
 unfold Jp;rw[Cy];simp
theorem Vx{l:List Comp}(h:Ee l):Ee (Jp l k):=List.Pairwise.filter _ h
theorem Q9{a b:List Comp}(ha:Ee a)(hb:Ee b)(h:∀x,x∈a↔x∈b):a=b:=Vd (key:=Comp.kind) ha hb h
theorem GU{l:List Comp}(h:Ee l){c:Comp}:DW l k=some c↔c∈l/\c.kind=k:=co (key:=Comp.kind) h
theorem aL{ks:List Kind}{l:List Comp}{c:Comp}(h:Cb ks l=true)(h1:0<=c.kind)(h2:c.kind<ks.length){k:Kind}(h3:ks[c.kind.toNat]?=some k)(h4:Do k c.vals=true):Cb ks (Jn l c)=true:=by
 obtain⟨hs,hm⟩:=held_iff.1 h;refine held_iff.2 ⟨NQ hs,λd hd=>?_⟩;rcases(Mg hs d).1 hd with rfl|⟨hd,_⟩
 ·exact⟨h1,h2,k,h3,h4⟩
 ·exact hm d hd
theorem RZ{ks:List Kind}{l:List Comp}(h:Cb ks l=true):Cb ks (Jp l k)=true:=by
 obtain⟨hs,hm⟩:=held_iff.1 h;exact held_iff.2 ⟨Vx hs,λd hd=>hm d ((YQ d).1 hd).1⟩
theorem Se{pre ks:List Kind}(h:Ds pre ks=0):∀k∈ks,C9 k=0:=by
 induction ks generalizing pre with
 |nil=>intro k hk;cases hk
 |cons x l ih=>
  intro k hk;simp only[Ds]at h;split at h
  ·exact absurd h ‹_›
  ·rename_i hx
   split at h
   ·cases h
   ·rcases AQ.1 hk with rfl|hk
    ·simpa using hx
    ·exact ih h k hk
theorem DX{ks:List Kind}(h:CB ks=0):ks.length<=16/\∀k∈ks,C9 k=0:=by
 unfold CB at h;split at h
 ·cases h
 ·exact⟨by omega,Se h⟩
def MD(ks:List Kind)(c:Comp):Comp:=match ks[c.kind.toNat]? with
 |some k=>⟨c.kind,(C8 k c.vals).1⟩
 |none=>c
theorem NW(ks:List Kind)(c:Comp):(MD ks c).kind=c.kind:=by unfold MD;split<;>rfl
def M6(ks:List Kind)(c:Comp):Prop:=0<=c.kind/\c.kind<ks.length/\∃k,ks[c.kind.toNat]?=some k/\(C8 k c.vals).2=0
theorem Su{ks:List Kind}{c:Comp}{k:Kind}(h:ks[c.kind.toNat]?=some k):MD ks c=⟨c.kind,(C8 k c.vals).1⟩:=by
 unfold MD;rw[h]
theorem Pg{ks:List Kind}:∀{l pre out:List Comp},(∀c∈l,M6 ks c)->l.Pairwise (λa b=>a.kind≠b.kind)->(∀a∈pre,∀b∈l,a.kind≠b.kind)->E8 ks pre out l=(out++l.map (MD ks),0)
 |[],pre,out,_,_,_=>by simp[E8]
 |c::l,pre,out,h1,h2,h3=>by
  obtain⟨a,b,k,hk,hf⟩:=h1 c (by simp);obtain⟨h4,h5⟩:=Al.1 h2
  have hany:pre.any (λo=>decide (o.kind=c.kind))=false:=by
   rw[CQ];intro x hx;simpa using h3 x hx c (by simp)
  rw[E8,AM (by omega),hany,AM (by simp),hk];dsimp only;rw[AM (by simp[hf]),Pg (λd hd=>h1 d (by simp[hd])) h5 (λx hx d hd=>?_),Aa,Su hk]
  ·simp
  ·rcases AL.1 hx with hx|hx
   ·exact h3 x hx d (by simp[hd])
   ·rw[AW.1 hx];exact h4 d hd
theorem Q0{ks:List Kind}(hk:CB ks=0){l:List Comp}(h1:∀c∈l,M6 ks c)(h2:l.Pairwise (λa b=>a.kind≠b.kind)):EO ks l=(KQ (l.map (MD ks)),0):=by
 unfold EO;rw[AM (by simp[hk]),Pg h1 h2 (λ_ h=>by cases h),AM (by simp)];rfl
theorem PL{l:List Comp}(h:Ee l):KQ l=l:=
 (PK (h.imp λh=>by omega) (List.Perm.refl _) (h.imp λh=>by omega)).symm
theorem Gb{k:Kind}{v:List Int}(h:Do k v=true):C8 k v=(v,0):=by
 unfold Do at h;simp only[AF,Aj]at h;exact Prod.ext h.2 h.1
theorem Gc{k:Kind}{v:List Int}(h:(C8 k v).2=0):Do k (C8 k v).1=true/\(C8 k v).1=List.zipWith Cx k.fields v/\v.length=k.fields.length:=by
 unfold C8 at h⊢;split at h
 ·exact absurd h ‹_›
 ·rename_i h1
  have h1:C9 k=0:=by simpa using h1
  split at h
  ·cases h
  ·rename_i h2
   have h2:v.length=k.fields.length:=by simpa using h2
   rw[AM (by simp[h1]),AM (by simp[h2])];refine⟨?_,rfl,h2⟩;unfold Do;rw[Mm h1 (by simp[h2]),Xv (GY h1).2.2];simp
theorem aU{ks:List Kind}{l:List Comp}(h:Cb ks l=true):(∀c∈l,M6 ks c)/\l.Pairwise (λa b=>a.kind≠b.kind)/\l.map (MD ks)=l:=by
 obtain⟨hs,hm⟩:=held_iff.1 h;refine⟨λc hc=>?_,hs.imp λh=>by omega,?_⟩
 ·obtain⟨a,b,k,hk,hh⟩:=hm c hc
  exact⟨a,b,k,hk,by rw[Gb hh]⟩
 ·conv=>rhs;rw[<-List.map_id l]
  refine D4 λc hc=>?_
  obtain⟨a,b,k,hk,hh⟩:=hm c hc;rw[Su hk,Gb hh];rfl
theorem NF{ks:List Kind}(hk:CB ks=0){l:List Comp}(h:Cb ks l=true):EO ks l=(l,0):=by
 obtain⟨h1,h2,h3⟩:=aU h;rw[Q0 hk h1 h2,h3,PL (held_iff.1 h).1]
theorem Od{ks:List Kind}(hk:CB ks=0){c:Comp}(h:M6 ks c):EO ks [c]=([MD ks c],0):=by
 rw[Q0 hk (λd hd=>by rw[AW.1 hd];exact h) (Bx ..)];show(KQ [MD ks c],(0:Int))=_
 rw[PL (Bx ..)]
theorem Vp{ks:List Kind}{c:Comp}(h:M6 ks c):∃k,ks[(MD ks c).kind.toNat]?=some k/\Do k (MD ks c).vals=true:=by
 obtain⟨_,_,k,hk,hf⟩:=h;refine⟨k,by rw[NW];exact hk,?_⟩;rw[Su hk];exact(Gc hf).1
def Kz(l:List Item):Prop:=KS (λit=>it.ent.n) l
theorem Mn{l:List Item}(h:Kz l){it:Item}(hi:l[i]?=some it):Em l it.ent=i:=by
 by_cases hn:Em l it.ent<0
 ·have:=Ph hn
  rw[Eo]at this;exact absurd (by simp) (this it (Bb hi))
 ·obtain⟨n,hn⟩:∃n:Nat,Em l it.ent=n:=⟨(Em l it.ent).toNat,by omega⟩
  obtain⟨x,hx,_,e⟩:=KF hn;rw[hn];have e2:=Me h (Bb hx) (Bb hi) (by rw[e]);subst e2;obtain⟨a,ha⟩:=AE.1 hx;obtain⟨b,hb⟩:=AE.1 hi;have hp:=Bt.1 h;rcases HD n i with q|q|q
  ·have:=hp n i a b q;rw[ha,hb]at this;omega
  ·rw[q]
  ·have:=hp i n b a q;rw[ha,hb]at this;omega
theorem Lr{w:Wd}{it:Item}(hi:w.items[i]?=some it)(cs:List Comp):GO w i cs=⟨w.kinds,w.gens,w.items.set i ⟨it.ent,cs⟩⟩:=by
 unfold GO;rw[hi]
theorem Lq{w:Wd}(h:WdOK w){it:Item}(hi:w.items[i]?=some it){cs:List Comp}(hc:Cb w.kinds cs=true):WdOK (GO w i cs):=by
 rw[Lr hi];obtain⟨h1,h2⟩:=Z9 (key:=λit:Item=>it.ent.n) h.so hi (z:=⟨it.ent,cs⟩) rfl;refine⟨h.ks,h.gl,by simpa using h.il,h.gs,h1,λx hx=>?_⟩;rcases(h2 x).1 hx with rfl|⟨hx,_⟩
 ·obtain⟨a,b,c,d,e⟩:=h.it it (Bb hi)
  exact⟨a,b,c,d,hc⟩
 ·exact h.it x hx
theorem ZU{w:Wd}(h:WdOK w){it:Item}(hi:w.items[i]?=some it){c:Comp}(hc:M6 w.kinds c):GC w it.ent c=(GO w i (Jn it.comps (MD w.kinds c)),0):=by
 unfold GC;have hf:=Mn h.so hi;rw[AM (by simp[(Cg w).2 h]),hf,AM (by omega),Od h.ks hc,AM (by simp),By,hi]
theorem ZT{w:Wd}(h:WdOK w){it:Item}(hi:w.items[i]?=some it){c:Comp}(hc:M6 w.kinds c):WdOK (GO w i (Jn it.comps (MD w.kinds c))):=by
 obtain⟨k,hk,hh⟩:=Vp hc;have hit:=h.it it (Bb hi);have hcc:=hc;obtain⟨a,b,_⟩:=hcc;exact Lq h hi (aL hit.2.2.2.2 (by rw[NW];exact a) (by rw[NW];exact b) hk hh)
theorem Rh{w:Wd}(h:WdOK w){it:Item}(hi:w.items[i]?=some it)(k:Int):Ie w it.ent k=if(DW it.comps k).isSome then(GO w i (Jp it.comps k),0)else(⟨[],[],[]⟩,4):=by
 unfold Ie;have hf:=Mn h.so hi;rw[AM (by simp[(Cg w).2 h]),hf,AM (by omega),By,hi]
theorem ZF{l:List Item}(h:Kc l n=false):∀x∈l,x.ent.n≠n:=by
 unfold Kc at h;rw[CQ]at h;intro x hx;simpa using h x hx
theorem MC{w:Wd}(hw:WdOK w)(h:(DI w).2=true):(DI w).1<=w.gens.length/\(∀x∈w.items,x.ent.n≠((DI w).1:Nat))/\(DI w).1<256/\∀g,w.gens[(DI w).1]?=some g->g<1073741824:=by
 have hg:=hw.gl;unfold DI at h⊢;split at h
 ·rename_i n hn
  unfold Ra at hn;rw[GH]at hn;obtain⟨h1,i,h2,h3,h4⟩:=hn;simp only[List.getElem_range]at h3;subst h3;rw[XA]at h2;simp only[AF,ET,Aj]at h1;refine⟨by dsimp only;omega,ZF h1.1,by dsimp only;omega,λg hgg=>?_⟩;dsimp only at hgg;have:=h1.2;rw[EH,hgg]at this;exact this
 ·have h:w.gens.length<256:=by dsimp only at h;rw[Aj]at h;omega
  refine⟨AP _,λx hx=>?_,h,λg hgg=>?_⟩
  ·have:=(hw.it x hx).2.1
   dsimp only;omega
  ·rw[CT (AP _)]at hgg;cases hgg
theorem PR{it:Item}:∀{l:List Item} (x:Item),x∈NP l it↔x=it\/x∈l
 |[],x=>by simp[NP]
 |y::l,x=>by
  rw[NP];split
  ·rw[Cl,PR,Cl]
   constructor
   ·rintro(h|h|h)
    ·exact .inr (.inl h)
    ·exact .inl h
    ·exact .inr (.inr h)
   ·rintro(h|h|h)
    ·exact .inr (.inl h)
    ·exact .inl h
    ·exact .inr (.inr h)
  ·rw[Cl]
theorem RW{it:Item}:∀{l:List Item},Kz l->(∀x∈l,x.ent.n≠it.ent.n)->Kz (NP l it)
 |[],_,_=>Bx ..
 |y::l,h,hn=>by
  obtain⟨h1,h2⟩:=Al.1 h;rw[NP];split
  ·rename_i hy
   refine Al.2 ⟨λx hx=>?_,RW h2 λx hx=>hn x (by simp[hx])⟩;rcases(PR x).1 hx with rfl|hx
   ·exact hy
   ·exact h1 x hx
  ·rename_i hy
   have:=hn y (by simp);refine Al.2 ⟨λx hx=>?_,h⟩;show it.ent.n<x.ent.n
   rcases AQ.1 hx with rfl|hx
   ·omega
   ·have:y.ent.n<x.ent.n:=h1 x hx
    omega
theorem aQ{n:Nat}(h:n<=gens.length):n<(E1 gens n).length/\(E1 gens n)[n]?=some ((E1 gens n).getD n 0)/\gens.length<=(E1 gens n).length/\(∀j,j<gens.length->(E1 gens n)[j]?=gens[j]?)/\(∀g∈E1 gens n,g∈gens\/g=0)/\(E1 gens n).length<=max gens.length (n+1):=by
 unfold E1;split
 ·rename_i e
  subst e;refine⟨by simp,by simp[EH],by simp,λj hj=>CR hj,λg hg=>?_,by simp⟩;rcases AL.1 hg with h|h
  ·exact .inl h
  ·exact .inr (AW.1 h)
 ·refine⟨by omega,?_,AP _,λ_ _=>rfl,λg hg=>.inl hg,by omega⟩
  rw[EH,Af (by omega)];rfl
theorem U6{w:Wd}(h:WdOK w)(hf:(DI w).2=true){l:List Comp}{cs:List Comp}(hl:EO w.kinds l=(cs,0)):
  Fy w l=(⟨w.kinds,E1 w.gens (DI w).1,NP w.items ⟨⟨(DI w).1,(E1 w.gens (DI w).1).getD (DI w).1 0⟩,cs⟩⟩,⟨(DI w).1,(E1 w.gens (DI w).1).getD (DI w).1 0⟩,0):=by
 unfold Fy;rw[AM (by simp[(Cg w).2 h]),hl,AM (by simp),AM (by simp[hf])]
theorem On{w:Wd}(h:WdOK w)(hf:(DI w).2=true){cs:List Comp}(hc:Cb w.kinds cs=true):
  WdOK ⟨w.kinds,E1 w.gens (DI w).1,NP w.items ⟨⟨(DI w).1,(E1 w.gens (DI w).1).getD (DI w).1 0⟩,cs⟩⟩:=by
 obtain⟨f1,f2,f3,f4⟩:=MC h hf;obtain⟨n,hn⟩:=nm ((DI w).1);rw[hn]at f1 f2 f3 f4⊢;obtain⟨g1,g2,g3,g4,g5,g6⟩:=aQ f1
 have hgs:∀g∈E1 w.gens n,0<=g/\g<=1073741824:=λg hg=>by
  rcases g5 g hg with hg|rfl
  ·exact h.gs g hg
  ·omega
 have hso:Kz (NP w.items ⟨⟨n,(E1 w.gens n).getD n 0⟩,cs⟩):=RW h.so f2
 have hit:∀x∈NP w.items ⟨⟨n,(E1 w.gens n).getD n 0⟩,cs⟩,0<=x.ent.n/\x.ent.n<(E1 w.gens n).length/\(E1 w.gens n)[x.ent.n.toNat]?=some x.ent.gen/\x.ent.gen≠1073741824/\Cb w.kinds x.comps=true:=λx hx=>by
  rcases(PR x).1 hx with rfl|hx
  ·refine⟨by dsimp only;omega,by dsimp only;omega,by dsimp only;rw[By];exact g2,?_,hc⟩
   dsimp only;intro e;rw[e]at g2;by_cases hnl:n<w.gens.length
   ·rw[g4 n hnl]at g2
    have:=f4 _ g2;omega
   ·unfold E1 at e
    rw[AY (by omega),EH,show n=w.gens.length by omega]at e;simp at e
  ·obtain⟨a,b,c,d,e⟩:=h.it x hx
   exact⟨a,by omega,by rw[g4 _ (by omega)];exact c,d,e⟩
 refine⟨h.ks,?_,?_,hgs,hso,hit⟩
 ·have:=h.gl
  dsimp only;omega
 ·exact Km (λx:Item=>x.ent.n) _ _ (hso.imp λ{a b} h=>by have h:a.ent.n<b.ent.n:=h;show a.ent.n≠b.ent.n;omega) λx hx=>⟨(hit x hx).1,(hit x hx).2.1⟩
theorem RV{w:Wd}(h:WdOK w){it:Item}(hi:w.items[i]?=some it):HJ w it.ent=(⟨w.kinds,w.gens.set it.ent.n.toNat (w.gens.getD it.ent.n.toNat 0+1),w.items.eraseIdx i⟩,0):=by
 unfold HJ;have hf:=Mn h.so hi;rw[AM (by simp[(Cg w).2 h]),hf,AM (by omega),By]
theorem Wr{w:Wd}(h:WdOK w){it:Item}(hi:w.items[i]?=some it):WdOK ⟨w.kinds,w.gens.set it.ent.n.toNat (w.gens.getD it.ent.n.toNat 0+1),w.items.eraseIdx i⟩:=by
 obtain⟨h1,h2⟩:=aA (key:=λx:Item=>x.ent.n) h.so hi;obtain⟨a,b,c,d,e⟩:=h.it it (Bb hi);have hg:=h.gs it.ent.gen (Bb c);have hgd:w.gens.getD it.ent.n.toNat 0=it.ent.gen:=by rw[EH,c];rfl
 refine⟨h.ks,by simpa using h.gl,?_,λg hgm=>?_,h1,λx hx=>?_⟩
 ·have:=h.il
  have:=List.length_eraseIdx_le w.items i;simp only[Ft];omega
 ·rcases MQ hgm with hgm|rfl
  ·exact h.gs g hgm
  ·rw[hgd];omega
 ·obtain⟨hx,hn⟩:=(h2 x).1 hx
  obtain⟨a',b',c',d',e'⟩:=h.it x hx;exact⟨a',by simpa using b',by rw[Ce (by omega)];exact c',d',e'⟩
theorem Qz{ks:List Kind}{c:Comp}(h:(EO ks [c]).2=0):∃d,(EO ks [c]).1=[d]/\d.kind=c.kind/\0<=c.kind/\c.kind<ks.length:=by
 unfold EO at h⊢;split at h
 ·exact absurd h ‹_›
 ·rename_i h1
  rw[AM h1];split at h
  ·exact absurd h ‹_›
  ·rename_i h2
   rw[AM h2];have h2:(E8 ks [] [] [c]).2=0:=by simpa using h2
   rw[E8]at h2⊢;split at h2
   ·cases h2
   ·rename_i g1
    rw[AM g1];rw[AM (by simp)]at h2⊢;split at h2
    ·cases h2
    ·rename_i k hk
     split at h2
     ·exact absurd h2 ‹_›
     ·rename_i g3
      (try simp only[hk])
      rw[AM g3,E8];refine⟨⟨c.kind,(C8 k c.vals).1⟩,?_,rfl,by omega,by omega⟩;show KQ [_]=_
      exact PL (Bx ..)
theorem HO{ks:List Kind}(hk:CB ks=0){l:List Comp}(h:Cb ks l=true):l.length<=16/\∀c∈l,c.vals.length<=8:=by
 obtain⟨hs,hm⟩:=held_iff.1 h;obtain⟨h16,ho⟩:=DX hk;refine⟨B7 (Km Comp.kind _ _ (hs.imp λh=>by omega) λc hc=>⟨(hm c hc).1,(hm c hc).2.1⟩) h16,λc hc=>?_⟩;obtain⟨_,_,k,hk2,hh⟩:=hm c hc;have h8:=(GY (ho k (Bb hk2))).2.1;have:=Gc (k:=k) (v:=c.vals) (by rw[Gb hh]);omega
theorem WdOK.wl{w:Wd}(h:WdOK w):WdL w:=by
 obtain⟨h16,ho⟩:=DX h.ks;refine⟨⟨by omega,λk hk=>by have:=(GY (ho k hk)).2.1;omega⟩,by have:=h.gl;omega,by have:=h.gl;have:=h.il;omega,λit hit=>?_⟩;obtain⟨h1,h2⟩:=HO h.ks (h.it it hit).2.2.2.2;exact⟨by omega,λc hc=>by have:=h2 c hc;omega⟩
theorem Mi(l:List Int):0<(Bu l).1.length:=by
 have h:=BX l (n:=4) (by decide)
 have:∀i c q,(CW i c q).1.length=c:=by
  intro i c
  induction c generalizing i with
  |zero=>intro q;rfl
  |succ c ih=>intro q;simp only[CW,DM,ih]
 unfold Bu;rw[this];omega
theorem ZH{p:α->Bool}:∀{l:List α} {i:Nat},i<=l.length->(∀(j:Nat) (x:α),j<i->l[j]?=some x->p x=true)->(∀x,l[i]?=some x->p x=false)->(l.takeWhile p).length=i
 |[],i,h,_,_=>by(have:i=0:=by simpa using h);(subst this;rfl)
 |x::l,0,_,_,h2=>by rw[H4,h2 x rfl];rfl
 |x::l,i+1,h,h1,h2=>by
  rw[H4,h1 0 x (by omega) rfl];show(l.takeWhile p).length+1=i+1
  rw[ZH (i:=i) (by simpa using h) (λj y hj hy=>h1 (j+1) y (by omega) hy) (λy hy=>h2 y hy)]
theorem Ww{d:Comp}:∀{l:List Comp},Ee l->Jn l d=if(DW l d.kind).isSome then l.set (Ey l d.kind) d else l.take (Ey l d.kind)++d::l.drop (Ey l d.kind)
 |[],_=>rfl
 |x::l,h=>by
  obtain⟨h1,h2⟩:=Al.1 h;have ih:=Ww (d:=d) h2
  have ec:DW (x::l) d.kind=if x.kind=d.kind then some x else DW l d.kind:=by
   unfold DW;rw[QY];by_cases e:x.kind=d.kind<;>simp[e]
  have ea:Ey (x::l) d.kind=if x.kind<d.kind then Ey l d.kind+1 else 0:=by
   unfold Ey;rw[H4];by_cases e:x.kind<d.kind<;>simp[e]
  rw[Jn,ec,ea];by_cases e1:x.kind<d.kind
  ·have e3:¬x.kind=d.kind:=by omega
   rw[AY e1,AY e1,AM e3,ih];split<;>simp
  ·rw[AM e1,AM e1]
   by_cases e2:x.kind=d.kind
   ·rw[AY e2,AY e2];rfl
   ·rw[AM e2,AM e2,Na (λc hc=>by have:=h1 c hc;omega)];rfl
theorem UQ:∀{l:List Comp},Ee l->(DW l k).isSome=true->Jp l k=l.eraseIdx (Ey l k)
 |[],_,hn=>by cases hn
 |x::l,h,hn=>by
  obtain⟨h1,h2⟩:=Al.1 h
  have ec:DW (x::l) k=if x.kind=k then some x else DW l k:=by
   unfold DW;rw[QY];by_cases e:x.kind=k<;>simp[e]
  have ea:Ey (x::l) k=if x.kind<k then Ey l k+1 else 0:=by
   unfold Ey;rw[H4];by_cases e:x.kind<k<;>simp[e]
  have ed:Jp (x::l) k=if x.kind=k then Jp l k else x::Jp l k:=by
   unfold Jp;rw[FU];by_cases e:x.kind=k<;>simp[e]
  rw[ec]at hn;rw[ea,ed];by_cases e2:x.kind=k
  ·have e3:¬x.kind<k:=by omega
   rw[AY e2,AM e3];show Jp l k=l
   unfold Jp;rw[ES];intro c hc;have:=h1 c hc;simp;omega
  ·rw[AM e2]at hn
   by_cases e1:x.kind<k
   ·rw[AM e2,AY e1,UQ h2 hn];rfl
   ·rw[Na (λc hc=>by have:=h1 c hc;omega)]at hn;cases hn
end
def HW(n:Nat):List UInt8:=match n with
 |0=>[111,110,101]
 |1=>[116,119,111]
 |2=>[116,104,114,101,101]
 |3=>[102,111,117,114]
 |4=>[102,105,118,101]
 |_=>[115,105,120]
def Qo(ks:List Kind)(i:Int):Int:=match ks[i.toNat]? with
 |some k=>k.fields.length
 |none=>0
def Iz(ks:List Kind)(seen:List Int)(l:List Int):Arg×List Int:=
 if Bh l 2=0 then(⟨false,Bh (BW l 2) 20-6,⟨0,0⟩⟩,BW (BW l 2) 20)
 else(⟨true,0,⟨seen.getD (Bh (BW l 2) seen.length).toNat 0,Bh (BW (BW l 2) seen.length) (Qo ks (seen.getD (Bh (BW l 2) seen.length).toNat 0))⟩⟩,
  BW (BW (BW l 2) seen.length) (Qo ks (seen.getD (Bh (BW l 2) seen.length).toNat 0)))
def Mv(ks:List Kind)(r:Ref):Prop:=0<=r.kind/\r.kind<ks.length/\0<=r.field/\r.field<Qo ks r.kind
def R7(ks:List Kind)(seen:List Int)(a:Arg):Prop:=(a.has=true->a.n=0/\Mv ks a.ref/\a.ref.kind∈seen)/\(a.has=false-> -6<=a.n/\a.n<=13/\a.ref=⟨0,0⟩)
def Ju:Arg:=⟨false,0,⟨0,0⟩⟩
def LU(d:Int):Bool:=(decide (1<=d)&&decide (d<=6))||decide (d=12)
structure OpOK(ks:List Kind)(reads writes:List Int)(o:Op):Prop where
 lo:0<=o.act
 hi:o.act<=12
 a:R7 ks (reads++writes) o.a
 b:if LU o.act then R7 ks (reads++writes) o.b else o.b=Ju
 sets:o.act<=7->Mv ks o.to/\o.to.kind∈writes
 puts:o.act=8\/o.act=9->0<=o.to.kind/\o.to.kind<ks.length/\o.to.field=0
 none:10<=o.act->o.to=⟨0,0⟩
structure SysL(w1 w2 w3 w4:List Int)(n:Int):Prop where
 o1:w1.Pairwise (· < ·)
 o2:w2.Pairwise (· < ·)
 o3:w3.Pairwise (· < ·)
 o4:w4.Pairwise (· < ·)
 r1:∀x∈w1,0<=x/\x<n
 r2:∀x∈w2,0<=x/\x<n
 d:∀x∈w1,x∉w2
 s3:∀x∈w3,x∈w1
 s4:∀x∈w4,x∈w1
 all:∀x∈w1,x∈w3\/x∈w4
structure SysOK(ks:List Kind)(n:Nat)(s:Sys):Prop where
 name:s.name=HW n
 lists:SysL s.wth s.wout s.reads s.writes ks.length
 some:s.wth≠[]
 len:s.ops.length<=5
 ops:∀o∈s.ops,OpOK ks s.reads s.writes o
 spawn:s.spawn=[]\/∃q,s.spawn=(Eu ks q).1
theorem SysL.nil(n:Int):SysL [] [] [] [] n:=⟨.nil,.nil,.nil,.nil,by simp,by simp,by simp,by simp,by simp,by simp⟩
theorem SysL.weaken{w1 w2 w3 w4:List Int}{n m:Int}(h:SysL w1 w2 w3 w4 n)(hm:n<=m):SysL w1 w2 w3 w4 m:=
 ⟨h.o1,h.o2,h.o3,h.o4,λx hx=>⟨(h.r1 x hx).1,by have:=(h.r1 x hx).2;omega⟩,λx hx=>⟨(h.r2 x hx).1,by have:=(h.r2 x hx).2;omega⟩,h.d,h.s3,h.s4,h.all⟩
theorem MY(h:l.Pairwise (· < ·))(hn:∀x∈l,x<n):(l++[n]).Pairwise (· < ·):=
 Bi.2 ⟨h,Bx _ _,λx hx y hy=>by rw[AW.1 hy];exact hn x hx⟩
theorem SysL.read{w1 w2 w3 w4:List Int}(h:SysL w1 w2 w3 w4 n)(h0:0<=n):SysL (w1++[n]) w2 (w3++[n]) w4 (n+1):=by
 refine⟨MY h.o1 λx hx=>(h.r1 x hx).2,h.o2,MY h.o3 λx hx=>(h.r1 x (h.s3 x hx)).2,h.o4,?_,λx hx=>⟨(h.r2 x hx).1,by have:=(h.r2 x hx).2;omega⟩,?_,?_,?_,?_⟩
 ·intro x hx
  rcases AL.1 hx with hx|hx
  ·have:=h.r1 x hx;omega
  ·rw[AW.1 hx];omega
 ·intro x hx hx2
  rcases AL.1 hx with hx|hx
  ·exact h.d x hx hx2
  ·have:=h.r2 x hx2;rw[AW.1 hx]at this;omega
 ·intro x hx
  rcases AL.1 hx with hx|hx
  ·simp[h.s3 x hx]
  ·simp[AW.1 hx]
 ·intro x hx;simp[h.s4 x hx]
 ·intro x hx
  rcases AL.1 hx with hx|hx
  ·rcases h.all x hx with h|h<;>simp[h]
  ·simp[AW.1 hx]
theorem SysL.write{w1 w2 w3 w4:List Int}(h:SysL w1 w2 w3 w4 n)(h0:0<=n):SysL (w1++[n]) w2 w3 (w4++[n]) (n+1):=by
 refine⟨MY h.o1 λx hx=>(h.r1 x hx).2,h.o2,h.o3,MY h.o4 λx hx=>(h.r1 x (h.s4 x hx)).2,?_,λx hx=>⟨(h.r2 x hx).1,by have:=(h.r2 x hx).2;omega⟩,?_,?_,?_,?_⟩
 ·intro x hx
  rcases AL.1 hx with hx|hx
  ·have:=h.r1 x hx;omega
  ·rw[AW.1 hx];omega
 ·intro x hx hx2
  rcases AL.1 hx with hx|hx
  ·exact h.d x hx hx2
  ·have:=h.r2 x hx2;rw[AW.1 hx]at this;omega
 ·intro x hx;simp[h.s3 x hx]
 ·intro x hx
  rcases AL.1 hx with hx|hx
  ·simp[h.s4 x hx]
  ·simp[AW.1 hx]
 ·intro x hx
  rcases AL.1 hx with hx|hx
  ·rcases h.all x hx with h|h<;>simp[h]
  ·simp[AW.1 hx]
theorem SysL.without{w1 w2 w3 w4:List Int}(h:SysL w1 w2 w3 w4 n)(h0:0<=n):SysL w1 (w2++[n]) w3 w4 (n+1):=by
 refine⟨h.o1,MY h.o2 λx hx=>(h.r2 x hx).2,h.o3,h.o4,λx hx=>⟨(h.r1 x hx).1,by have:=(h.r1 x hx).2;omega⟩,?_,?_,h.s3,h.s4,h.all⟩
 ·intro x hx
  rcases AL.1 hx with hx|hx
  ·have:=h.r2 x hx;omega
  ·rw[AW.1 hx];omega
 ·intro x hx hx2
  rcases AL.1 hx2 with hx2|hx2
  ·exact h.d x hx hx2
  ·have:=h.r1 x hx;rw[AW.1 hx2]at this;omega
theorem SysL.zero{w2 w3 w4:List Int}(h:SysL [] w2 w3 w4 n)(h0:1<=n):SysL [0] (w2.filter λx=>!decide (x=0)) w3 [0] n:=by
 refine⟨Bx _ _,h.o2.sublist List.filter_sublist,h.o3,Bx _ _,by simp;omega,λx hx=>h.r2 x (Cy.1 hx).1,by simp,?_,by simp,by simp⟩;intro x hx;exact absurd (h.s3 x hx) (by simp)
def GF{α:Type}(f:α->AV)(z:AV)(l:List α)(i:Nat):List AV:=(l.take i).map f++List.replicate (l.length-i) z
theorem Ks(f:α->AV)(z:AV)(l:List α):GF f z l 0=List.replicate l.length z:=by simp[GF]
theorem Pi(f:α->AV)(z:AV)(l:List α)(i:Nat)(h:i<=l.length):(GF f z l i).length=l.length:=by simp[GF];omega
theorem NX(f:α->AV)(z:AV)(l:List α)(h:i<l.length):(GF f z l i)[i]?=some z:=by
 unfold GF;rw[Bd (by simp;omega)];simp only[AH,BZ,B6 (Nat.le_of_lt h),DY];rw[Im,AY (by omega)]
theorem ME(f:α->AV)(z:AV)(l:List α)(h:i<l.length):(GF f z l i).set i (f l[i])=GF f z l (i+1):=by
 unfold GF;rw[Fa _ _ (by simp;omega),E5,Af h];simp only[AH,BZ,B6 (Nat.le_of_lt h),DY,gL,AT,Aa,CM,Bg]
 congr 1
 rw[show l.length-i=(l.length-(i+1))+1 from by omega,H5];rfl
theorem MF(f:α->AV)(z:AV)(l:List α)(h:l.length<=i):GF f z l i=l.map f:=by
 unfold GF;rw[BB h,show l.length-i=0 from by omega];simp
theorem F6(l:List Comp)(hl:l.length<=1099511627776)(hv:∀c∈l,c.vals.length<=1099511627776):PS prog 42 [B3 false false l] (B3 true false l):=by
 refine Sp (nt:=27) (res:=[.tmp 2]) func42 λSf=>?_
 have hl':(l.map (AZ false)).length<=1099511627776:=by simpa using hl
 (iterate 8 refine WK ?_);refine J1 (.agg [iA 0,.prim (.slice none 0 0)]) λK=>?_;refine KK ?_
 refine B8 (λi:Nat=>⟨[(3,.sl K 0 (l.map (AZ false)).length),(9,B3 false false l),(10,iA (l.map (AZ false)).length),(11,iA i)],(K,.row 42 2 (GF (AZ false) (.agg [iA 0,.prim (.slice none 0 0)]) l i))::Sf⟩) (λi=>i<=l.length) (λi=>l.length-i) 0 (Ap _) ?_ ⟨by(repeat (first|exact .nil|refine .cons (by first|rfl|assumption) ?_)),by rw[Ks,<-AH (f:=AZ false)];exact BH⟩;rintro i hi;refine KK ?_;refine AC rfl (λhc=>?_) (λhc=>?_)
 ·have h:i<l.length:=by simpa using hc
  have hm:i<(l.map (AZ false)).length:=by simpa using h
  have hat:=NX (AZ false) (.agg [iA 0,.prim (.slice none 0 0)]) l h;refine KK ?_;refine Ai λX=>?_;refine KK ?_
  refine JM ?_;refine JS (h:=(HR _ (by have:=hv _ (Ax h);omega))) (k:=?_);(iterate 3 refine RK ?_);refine RGo.nil (by kernel_rfl) ?_;refine KK ?_;have hs:=ME (AZ false) (.agg [iA 0,.prim (.slice none 0 0)]) l h;refine Z6 (i+1) h ?_;dsimp only;rw[<-hs];exact BH
 ·have h:l.length<=i:=by rw[Ao,AH]at hc;omega
  rw[MF _ _ _ h];refine JA ?_;exact⟨[.sl K 0 (l.map (AZ false)).length],[.lst true 42 2 (l.map (AZ false))],_,[],.cons (.tmp rfl) rfl .nil,.cons (.cell (.sl (p:=0) .here rfl)) .nil,by exact BH,rfl,rfl⟩
def X0(x:UInt64):UInt64:=(x^^^(x>>>UInt64.ofNat 31))*7640891576956012809
def eT(x:UInt64):UInt64:=(x^^^(x>>>UInt64.ofNat 27))*13503953896175478587
def Hg(x:UInt64):UInt64:=eT (X0 x)^^^(eT (X0 x)>>>UInt64.ofNat 30)
theorem SX(x:UInt64):PS prog 193 [uA x] (uA (Hg x)):=by
 refine Sp (nt:=17) (res:=[.tmp 2]) func193 λSf=>?_
 refine R1 ?_;refine JF ?_;refine WO ?_;refine AI (GV 31 (by omega) rfl rfl rfl) rfl ?_;refine AI (MH rfl rfl) rfl ?_;refine AI (Fs (b:=7640891576956012809) rfl rfl) rfl ?_;refine JC ?_;rw[show(x^^^(x>>>UInt64.ofNat 31))*7640891576956012809=X0 x from rfl];refine JF ?_;refine WO ?_;refine AI (GV 27 (by omega) rfl rfl rfl) rfl ?_;refine AI (MH rfl rfl) rfl ?_;refine AI (Fs (b:=13503953896175478587) rfl rfl) rfl ?_;refine JC ?_;rw[show(X0 x^^^(X0 x>>>UInt64.ofNat 27))*13503953896175478587=eT (X0 x)from rfl];refine JF ?_;refine WO ?_;refine AI (GV 30 (by omega) rfl rfl rfl) rfl ?_;refine AI (MH rfl rfl) rfl ?_;refine JC ?_;refine RT ?_;refine Ag ?_;rfl
def KB:UInt64:=11400714819323198485
def Q6(s:UInt64)(n:Int):UInt64:=Hg (s+KB)^^^UInt64.ofInt n
def Lw(r:UInt64×UInt64):AV:=.agg [uA r.1,uA r.2]
instance {r:UInt64×UInt64}:Frz (Lw r) (Lw r):=⟨rfl⟩
def Je(l:List Int):UInt64×UInt64:=(Hg (l.foldl Q6 (UInt64.ofNat l.length)+KB),Hg (Hg (l.foldl Q6 (UInt64.ofNat l.length)+KB)+KB)|||1)
theorem ZS(l:List Int)(hl:l.length<=1099511627776):PS prog 136 [Av false l] (Lw (Je l)):=by
 have hlm:(l.map iA).length=l.length:=AH _;refine Sp (nt:=31) (res:=[.cell 2 233]) func136 λSf=>?_
 refine JF ?_;refine Ai λR=>?_;refine NL ?_
 (iterate 4 refine WK ?_);refine AI (Ig .i64 (l.map iA).length rfl (by omega) (by kernel_rfl) (by kernel_rfl) rfl) rfl ?_;refine KK ?_
 obtain⟨e,he⟩:=nm (l.foldl Q6 (UInt64.ofNat l.length));refine Ca (λ(i:Nat) (s:UInt64)=>⟨[(2,.ptr R 0 0),(3,uA s),(9,Av false l),(10,iA (l.map iA).length),(11,iA i)],(R,.row 233 2 [.agg [uA 0,uA 0]])::Sf⟩) (λi s=>i<=l.length/\(l.drop i).foldl Q6 s=e) (λi _=>l.length-i) 0 (UInt64.ofNat (l.map iA).length) ⟨Ap _,by rw[hlm];exact he⟩ ?_;rintro i s ⟨hi,hs⟩;refine KK ?_;refine AC rfl (λhc=>?_) (λhc=>?_)
 ·have h:i<l.length:=by rw[Aj,hlm]at hc;omega
  have hat:(l.map iA)[i]?=some (iA l[i]):=by rw[Ae,Af h];rfl
  have h1:=SX (s+KB);refine R1 ?_;refine WK ?_;refine WK ?_;refine AI (Hx (b:=KB) rfl rfl) rfl ?_;refine BU (h:=(h1 ..)) (k:=?_);refine WK ?_;refine AI (gC .i64 (by kernel_rfl) (by kernel_rfl) rfl) rfl ?_;refine AI (MH rfl rfl) rfl ?_;refine KK ?_;refine Bn (i+1) (Q6 s l[i]) ⟨h,?_⟩;rw[<-hs,D9 h];rfl
 ·have h:i=l.length:=by rw[Ao,hlm]at hc;omega
  rw[h,Dk]at hs;have hs:s=e:=hs;subst hs;have h1:=SX (s+KB);refine JF ?_;refine AI (Hx (b:=KB) rfl rfl) rfl ?_;refine BU (h:=(h1 ..)) (k:=?_);refine JC ?_;have h2:=SX (Hg (s+KB)+KB);refine JF ?_;refine WO ?_;refine AI (Hx (b:=KB) rfl rfl) rfl ?_;refine BU (h:=(h2 ..)) (k:=?_);refine AI (d9 (b:=1) rfl rfl) rfl ?_;refine JE ?_;refine RT ?_;unfold Je;rw[he];exact DA [Lw (Hg (s+KB),Hg (Hg (s+KB)+KB)|||1)] [Lw (Hg (s+KB),Hg (Hg (s+KB)+KB)|||1)] (.cons (.agg .r) .nil)
def FE(r:UInt64×UInt64):UInt64×UInt64:=(r.1+r.2,r.2)
theorem VM(r:UInt64×UInt64):PS prog 259 [Lw r] (.tup [uA (Hg (FE r).1),Lw (FE r)]):=by
 have h1:=SX (r.1+r.2);refine Sp (nt:=14) (res:=[.tmp 2,.cell 3 233]) func259 λSf=>?_
 refine JF ?_;refine Ai λR=>?_;refine KO ?_;refine Ai λR=>?_;refine NL ?_
 refine RG ?_;(iterate 4 refine WO ?_);refine AI (Hx rfl rfl) rfl ?_;refine JE ?_;refine RU ?_;refine JG ?_;refine JS (h:=h1) (k:=?_);(iterate 3 refine RK ?_);refine RGo.nil (by kernel_rfl) ?_;refine RT ?_;exact DA [uA (Hg (r.1+r.2)),Lw (FE r)] [uA (Hg (r.1+r.2)),Lw (FE r)] (.cons (.cell .same) (.cons (.agg .r) .nil))
section
open Go.Sort
theorem BI[Inhabited α](f:α->AV){d:Array α}(h:i<d.size):(d.toList.map f)[i]?=some (f d[i]!):=by
 rw[Ae,Af (by simpa using h)];simp[QV d i h]
theorem C6[Inhabited α](f:α->AV){d:Array α}{i j:Nat}(hi:i<d.size)(hj:j<d.size):((d.toList.map f).set i (f d[j]!)).set j (f d[i]!)=(swp d i j).toList.map f:=by
 unfold swp;simp[Array.toList_setIfInBounds,BC]
theorem Cc[Inhabited α](f:α->AV){d:Array α}{i j:Nat}(hj:j<d.size)(x:α):∃y,((d.toList.map f).set i (f x))[j]?=some (f y):=by
 by_cases e:i=j
 ·subst e;exact⟨x,BY (by simpa using hj)⟩
 ·exact⟨d[j]!,by rw[Ce e];exact BI f hj⟩
def AU{α:Type}(cf:α->α->Int)(x y:α):Bool:=decide (cf x y<0)
instance:Inhabited Comp:=⟨⟨0,[]⟩⟩
instance:Inhabited Item:=⟨⟨⟨0,0⟩,[]⟩⟩
theorem HH[Inhabited α](lt:α->α->Bool)(d:Array α)(a b s:Nat):(order2 lt d a b s).2.2<=s+1:=by
 unfold order2;split<;>simp
theorem IN[Inhabited α](lt:α->α->Bool)(d:Array α)(a b s m:Nat)(ha:a<m)(hb:b<m):(order2 lt d a b s).1<m/\(order2 lt d a b s).2.1<m:=by
 unfold order2;split<;>exact⟨by assumption,by assumption⟩
theorem IP[Inhabited α](lt:α->α->Bool)(d:Array α)(a b c s:Nat):(median lt d a b c s).2<=s+3:=by
 have e1:=HH lt d a b s;have e2:=HH lt d (order2 lt d a b s).2.1 c (order2 lt d a b s).2.2;have e3:=HH lt d (order2 lt d a b s).1 (order2 lt d (order2 lt d a b s).2.1 c (order2 lt d a b s).2.2).1 (order2 lt d (order2 lt d a b s).2.1 c (order2 lt d a b s).2.2).2.2;unfold median;dsimp only;omega
theorem IQ[Inhabited α](lt:α->α->Bool)(d:Array α)(a s m:Nat)(h:a+1<m):(medianAdjacent lt d a s).1<m:=by
 rcases medianAdjacent_mem lt d a s with e|e|e<;>omega
def Wx:Hint->Int
 |.unknown=>0
 |.increasing=>1
 |.decreasing=>2
end
section
open Go.Sort
def lenTab:List UInt8:=(List.range 256).map λn=>UInt8.ofNat (if n=0 then 0 else Nat.log2 n+1)
theorem RR{n:Nat}(h:n<256):((lenTab.getD n 0).toNat:Int)=bitsLen n:=by
 have h1:lenTab.getD n 0=UInt8.ofNat (bitsLen n):=by
  unfold lenTab;rw[EH,Ae,List.getElem?_range h];rfl
 have h2:bitsLen n<=8:=(bitsLen_le_iff n 8).2 (by omega);rw[h1,UInt8.toNat_ofNat'];omega
theorem Vb:lenTab.length=256:=by simp[lenTab]
theorem QA{x:Nat}(h:256<=x):bitsLen (x/256)+8=bitsLen x:=by
 have a:=(bitsLen_le_iff (x/256) (bitsLen x-8)).2 (by
  have h1:=lt_two_pow_bitsLen x
  have h2:8<bitsLen x:=by
   have:=(bitsLen_le_iff x 8);omega
  have h3:2^bitsLen x=2^(bitsLen x-8)*256:=by rw[show(256:Nat)=2^8 from rfl,<-Nat.pow_add];congr 1;omega
  omega)
 have b:=(bitsLen_le_iff x (bitsLen (x/256)+8)).2 (by
  have h1:=lt_two_pow_bitsLen (x/256);rw[Nat.pow_add];omega)
 have h2:8<bitsLen x:=by
  have:=(bitsLen_le_iff x 8);omega
 omega
set_option maxRecDepth 100000 in
theorem Z8(x:UInt64)(hx:x.toNat<65536):PS prog 182 [uA x] (iA (bitsLen x.toNat)):=by
 refine Sp (nt:=25) (res:=[.tmp 2]) func182 λSf=>?_
 refine KK ?_;refine AB rfl (Az (by omega)) ?_;refine KK ?_;refine AB rfl (Az (by omega)) ?_;refine KK ?_;refine Bz (λb:UInt64×Nat=>b.1.toNat<256/\bitsLen b.1.toNat+b.2=bitsLen x.toNat/\b.2<=8) (λb=>⟨[(0,uA b.1),(2,iA b.2)],Sf⟩) ?_ ?_
 ·refine AC rfl (λh=>?_) (λh=>?_)
  ·have h:256<=x.toNat:=by have:=AD h;omega
   have hs:(x>>>UInt64.ofNat 8).toNat=x.toNat/256:=by
    rw[Ii,CO,show 8%2^64%64=8 from rfl,Hp]
   (iterate 3 refine WK ?_);refine AI (GV 8 (by omega) rfl rfl rfl) rfl ?_;refine KK ?_
   refine jn (x>>>UInt64.ofNat 8,8) ⟨by dsimp only;omega,?_,by(try dsimp only);omega⟩;dsimp only;rw[hs];exact QA h
  ·have h:¬256<=x.toNat:=by have:=AG h;omega
   refine WK ?_;exact jn (x,0) ⟨by dsimp only;omega,rfl,by(try dsimp only);omega⟩
 ·rintro⟨u,m⟩ ⟨h1,h2,h3⟩
  dsimp only at h1 h2 h3⊢;have hw:IntKind.u8.wrap ((u.toNat:Nat):Int)=((u.toNat:Nat):Int):=by rw[IntKind.wrap_u8'];omega
  have hat:=RR h1;have hb8:bitsLen u.toNat<=8:=(bitsLen_le_iff _ 8).2 (by omega);have hw2:IntKind.i64.wrap ((lenTab.getD u.toNat 0).toNat:Int)=((bitsLen u.toNat:Nat):Int):=by rw[hat];exact Gl (by omega) (by omega)
  (iterate 4 refine WK ?_);refine AI (W.convW .u64 .u8 _ (by kernel_rfl) (by kernel_rfl) hw rfl) rfl ?_;refine WK ?_;refine AI (W.convW .u8 .i64 _ (by kernel_rfl) (by kernel_rfl) hw2 rfl) rfl ?_;refine AI (Bw ((bitsLen x.toNat:Nat):Int) (by omega) (by omega) rfl rfl) rfl ?_;refine KK ?_
  refine RT ?_;refine Ag ?_;rfl
theorem Sb(x:UInt64)(hx:x.toNat<65536):PS prog 130 [uA x] (iA (bitsLen x.toNat)):=by
 have h:=Z8 x hx;refine Sp (nt:=8) (res:=[.tmp 2]) func130 λSf=>?_
 refine KK ?_;refine AB rfl rfl ?_;refine KK ?_;refine BU (h:=(h ..)) (k:=?_);refine JA ?_;refine Ag ?_;rfl
theorem O8(n:Nat)(hn:n<65536):PS prog 233 [iA n] (uA ((1:UInt64)<<<UInt64.ofNat (bitsLen n))):=by
 have e:(UInt64.ofNat n).toNat=n:=by rw[CO];omega
 have h:=Sb (UInt64.ofNat n) (by rw[e];exact hn);rw[e]at h;have hb:bitsLen n<=16:=(bitsLen_le_iff n 16).2 (by omega);refine Sp (nt:=7) (res:=[.tmp 2]) func233 λSf=>?_
 (iterate 7 refine WK ?_);refine AI (Ig .i64 n rfl (by omega) (by kernel_rfl) (by kernel_rfl) rfl) rfl ?_;refine BU (h:=(h ..)) (k:=?_);refine AI (Nb (a:=1) (bitsLen n) (by omega) rfl rfl rfl) rfl ?_;refine KK ?_
 refine RT ?_;refine Ag ?_;rfl
theorem OZ(Y:Nat)(s:UInt64):Spec prog 234 [.ptr Y 0 0] [(Y,.row 331 1 [uA s])] λr S'=>∃v:UInt64,True/\r=uA v/\S'=[(Y,.row 331 1 [uA v])]:=by
 refine Sp (nt:=33) (res:=[.tmp 2]) func234 λSf=>?_
 refine R1 ?_;refine RU ?_;(iterate 6 refine RK ?_);refine RGo.p (Nb 13 (by omega) rfl rfl rfl) rfl ?_;refine RGo.p (MH rfl rfl) rfl ?_;refine JG ?_;refine RGo.nil (by kernel_rfl) ?_;(repeat refine WF ?_);refine RU ?_;(iterate 6 refine RK ?_);refine RGo.p (GV 7 (by omega) rfl rfl rfl) rfl ?_;refine RGo.p (MH rfl rfl) rfl ?_;refine JG ?_;refine RGo.nil (by kernel_rfl) ?_;(repeat refine WF ?_);refine RU ?_;(iterate 6 refine RK ?_);refine RGo.p (Nb 17 (by omega) rfl rfl rfl) rfl ?_;refine RGo.p (MH rfl rfl) rfl ?_;refine JG ?_;refine RGo.nil (by kernel_rfl) ?_;refine JA ?_;exact Ends.sp [uA _] [(Y,_)] ⟨_,CZ,rfl,rfl⟩
end
section
open Go.Sort
def GG(a:Int):Int:=if 1099511627776<(if a< -1099511627776 then-1099511627776 else a)then 1099511627776 else if a< -1099511627776 then-1099511627776 else a
theorem Mp(a:Int): -1099511627776<=GG a/\GG a<=1099511627776:=by unfold GG;split<;>split<;>omega
theorem If(a:Int):PS prog 265 [iA a] (iA (GG a)):=by
 refine Sp (nt:=6) (res:=[.tmp 2]) func265 λSf=>?_
 refine JA ?_;refine Ag ?_;rfl
def SZ(a:Int):UInt64:=UInt64.ofNat a.natAbs
theorem VZ(a:Int)(h: -1099511627776<=a/\a<=1099511627776):PS prog 267 [iA a] (uA (SZ a)):=by
 refine Sp (nt:=10) (res:=[.tmp 2]) func267 λSf=>?_
 unfold SZ;by_cases hn:a<0
 ·refine KK ?_
  refine Aq rfl (BG hn) ?_;refine JF ?_;refine AI (WD (-a) rfl (by omega) rfl) rfl ?_;refine AI (Ig .i64 a.natAbs (by omega) (by omega) (by kernel_rfl) (by kernel_rfl) rfl) rfl ?_;refine JC ?_;refine RT ?_;refine Ag ?_;rfl
 ·refine KK ?_
  refine AB rfl (Az hn) ?_
  (iterate 4 refine WK ?_);refine AI (Ig .i64 a.natAbs (by omega) (by omega) (by kernel_rfl) (by kernel_rfl) rfl) rfl ?_;refine KK ?_
  refine RT ?_;refine Ag ?_;rfl
def Ts(x y:UInt64):UInt64:=
 (x>>>UInt64.ofNat 32)*(y>>>UInt64.ofNat 32)+(((x>>>UInt64.ofNat 32)*(y&&&4294967295)+((x&&&4294967295)*(y&&&4294967295))>>>UInt64.ofNat 32)>>>UInt64.ofNat 32)+
  ((((x>>>UInt64.ofNat 32)*(y&&&4294967295)+((x&&&4294967295)*(y&&&4294967295))>>>UInt64.ofNat 32)&&&4294967295)+(x&&&4294967295)*(y>>>UInt64.ofNat 32))>>>UInt64.ofNat 32
theorem Zw(x y:UInt64):PS prog 268 [uA x,uA y] (.tup [uA (Ts x y),uA (x*y)]):=by
 refine Sp (nt:=51) (res:=[.tmp 4,.tmp 5]) func268 λSf=>?_
 refine R1 ?_;refine JF ?_;refine AI (MI (b:=4294967295) rfl rfl) rfl ?_;refine JC ?_;refine JF ?_;refine AI (GV 32 (by omega) rfl rfl rfl) rfl ?_;refine JC ?_;refine JF ?_;refine AI (MI (b:=4294967295) rfl rfl) rfl ?_;refine JC ?_;refine JF ?_;refine AI (GV 32 (by omega) rfl rfl rfl) rfl ?_;refine JC ?_;refine JF ?_;refine WO ?_;refine AI (Fs rfl rfl) rfl ?_;refine JC ?_;refine RG ?_;(repeat first|(refine Bk ?_;first|refine AI (Fs rfl rfl) rfl ?_|refine AI (GV 32 (by omega) rfl rfl rfl) rfl ?_|refine AI (Hx rfl rfl) rfl ?_)|refine WO ?_|refine Ai λX=>?_|refine Ay λY=>?_);refine NL ?_;refine JF ?_;refine AI (MI (b:=4294967295) rfl rfl) rfl ?_;refine JC ?_;refine JF ?_;refine AI (GV 32 (by omega) rfl rfl rfl) rfl ?_;refine JC ?_;refine RG ?_;(iterate 3 refine WO ?_);refine AI (Fs rfl rfl) rfl ?_;refine AI (Hx rfl rfl) rfl ?_;refine JC ?_;refine RG ?_;(repeat first|(refine Bk ?_;first|refine AI (Fs rfl rfl) rfl ?_|refine AI (Hx rfl rfl) rfl ?_|refine AI (GV 32 (by omega) rfl rfl rfl) rfl ?_)|refine WO ?_|refine Ai λX=>?_|refine Ay λY=>?_);refine NL ?_;refine JF ?_;refine WO ?_;refine AI (Fs rfl rfl) rfl ?_;refine JC ?_;refine RT ?_;exact DA [uA (Ts x y),uA (x*y)] [uA (Ts x y),uA (x*y)] (.cons (.cell .same) (.cons (.cell .same) .nil))
set_option maxRecDepth 100000 in
theorem fb:PS prog 274 [uA 65536] (iA 47):=by
 have hl:PS prog 182 [uA 65536] (iA 17):=by
  refine Sp (nt:=25) (res:=[.tmp 2]) func182 λSf=>?_
  refine KK ?_;refine AB rfl rfl ?_;refine KK ?_;refine Aq rfl rfl ?_;refine JF ?_;refine AI (GV 16 (by omega) rfl rfl rfl) rfl ?_;refine JC ?_;obtain⟨u,hu⟩:∃u:UInt64,(65536:UInt64)>>>UInt64.ofNat 16=u:=⟨_,rfl⟩;rw[hu];have h1:u.toNat=1:=by rw[<-hu];decide
  clear hu;refine KK ?_;refine AB rfl (Az (by omega)) ?_;have hw:IntKind.u8.wrap ((u.toNat:Nat):Int)=((u.toNat:Nat):Int):=by rw[IntKind.wrap_u8'];omega
  have hat:=RR (n:=u.toNat) (by omega);have hb1:bitsLen u.toNat=1:=by rw[h1];decide
  rw[hb1]at hat;have hw2:IntKind.i64.wrap ((lenTab.getD u.toNat 0).toNat:Int)=((1:Nat):Int):=by rw[hat];exact Gl (by omega) (by omega)
  (repeat first|(refine Bk ?_;first|refine AI (W.convW .u64 .u8 _ (by kernel_rfl) (by kernel_rfl) hw rfl) rfl ?_|refine AI (W.idxStr (s:=lenTab) (a:=u.toNat) (show ev _ _=_ by kernel_rfl) rfl rfl (by rw[Vb];omega)) rfl ?_|refine AI (W.convW .u8 .i64 _ (by kernel_rfl) (by kernel_rfl) hw2 rfl) rfl ?_|refine AI (Bw 17 rfl (by omega) rfl rfl) rfl ?_)|refine WK ?_|refine Ai λX=>?_|refine Ay λY=>?_);refine RT ?_;refine Ag ?_;rfl
 refine Sp (nt:=6) (res:=[.tmp 2]) func274 λSf=>?_
 refine KK ?_;refine BU (h:=(hl ..)) (k:=?_);refine AI (BJ 47 rfl (by omega) rfl rfl) rfl ?_;refine JA ?_;refine Ag ?_;rfl
def dU(hi lo:UInt64):UInt64:=(hi<<<UInt64.ofNat 47)|||(lo>>>UInt64.ofNat 17)
def dL(lo:UInt64):UInt64:=lo<<<UInt64.ofNat 47
def dR(hi lo:UInt64):UInt64:=dU hi lo*4294967296+(dL lo>>>UInt64.ofNat 32)-dU hi lo/2147483648*9223372036854775808
def Lh(hi lo:UInt64):UInt64×UInt64:=
 (dU hi lo/2147483648*4294967296+dR hi lo/2147483648,(dR hi lo*4294967296+(dL lo&&&4294967295)-dR hi lo/2147483648*9223372036854775808)>>>UInt64.ofNat 47)
theorem fq{hi lo:UInt64}(h:hi.toNat<65536):(dU hi lo).toNat<9223372036854775808:=by
 unfold dU
 have h1:(hi<<<UInt64.ofNat 47).toNat<2^63:=by
  rw[JR,CO,show 47%2^64%64=47 from rfl,OG];omega
 have h2:(lo>>>UInt64.ofNat 17).toNat<2^63:=by
  rw[Ii,CO,show 17%2^64%64=17 from rfl,Hp];have:=lo.toNat_lt;omega
 rw[b8];exact Nat.or_lt_two_pow h1 h2
theorem fr{hi lo:UInt64}:(dR hi lo).toNat<9223372036854775808:=by
 have h2:(dL lo>>>UInt64.ofNat 32).toNat<4294967296:=by
  rw[Ii,CO,show 32%2^64%64=32 from rfl,Hp];have:=(dL lo).toNat_lt;omega
 have h0:=(dU hi lo).toNat_lt;unfold dR;generalize dL lo>>>UInt64.ofNat 32=v at h2⊢;generalize dU hi lo=u at h0⊢;rw[UInt64.toNat_sub,UInt64.toNat_add,UInt64.toNat_mul,UInt64.toNat_mul,UInt64.toNat_div];rw[show(4294967296:UInt64).toNat=4294967296 from rfl,show(2147483648:UInt64).toNat=2147483648 from rfl,show(9223372036854775808:UInt64).toNat=9223372036854775808 from rfl];omega
theorem ao(hi lo:UInt64)(h:hi.toNat<65536):PS prog 269 [uA hi,uA lo,uA 65536] (.tup [uA (if hi=0 then lo/65536 else(Lh hi lo).1),uA (if hi=0 then lo%65536 else(Lh hi lo).2)]):=by
 have hu:=fq (lo:=lo) h;have hr:=fr (hi:=hi) (lo:=lo);refine Sp (nt:=135) (res:=[.tmp 6,.tmp 7]) func269 λSf=>?_
 refine KK ?_;refine AB rfl rfl ?_;refine KK ?_;have hd1:decide (((65536:UInt64).toNat:Int)<=hi.toNat)=false:=Az (by rw[show(65536:UInt64).toNat=65536 from rfl];omega);refine AB rfl hd1 ?_;by_cases h0:hi=0
 ·rw[AY h0,AY h0]
  subst h0;refine KK ?_;refine Aq rfl rfl ?_;refine RU ?_;refine JG ?_;refine BO ?_ (WC (b:=65536) (by decide) rfl rfl);refine JG ?_;refine BO ?_ (QD (b:=65536) (by decide) rfl rfl);refine JG ?_;refine RGo.nil (by kernel_rfl) ?_;refine RT ?_;exact DA [uA (lo/65536),uA (lo%65536)] [uA (lo/65536),uA (lo%65536)] (.cons (.cell .same) (.cons (.cell .same) .nil))
 rw[AM h0,AM h0];refine KK ?_;refine AB rfl (Az (λe=>h0 (UInt64.toNat_inj.1 (Int.ofNat_inj.1 e)))) ?_;refine JF ?_;refine BU (h:=(fb ..)) (k:=?_);refine AI (Ig .i64 47 rfl (by omega) (by kernel_rfl) (by kernel_rfl) rfl) rfl ?_;refine JC ?_;refine JF ?_;refine WO ?_;refine AI (Nb 47 (by omega) rfl rfl (by decide)) rfl ?_;refine JC ?_;rw[show(65536:UInt64)<<<UInt64.ofNat 47=9223372036854775808 from by decide];refine JF ?_;refine AI (GV 32 (by omega) rfl rfl rfl) rfl ?_;refine JC ?_;rw[show(9223372036854775808:UInt64)>>>UInt64.ofNat 32=2147483648 from by decide];refine JF ?_;refine AI (MI (b:=4294967295) rfl rfl) rfl ?_;refine JC ?_;rw[show(9223372036854775808:UInt64)&&&4294967295=0 from by decide];refine RG ?_;(repeat first|(refine Bk ?_;first|refine AI (Nb 47 (by omega) rfl rfl (by decide)) rfl ?_|refine AI (JO (a:=64) rfl rfl) rfl ?_|refine AI (GV 17 (by omega) rfl rfl (by decide)) rfl ?_|refine AI (d9 rfl rfl) rfl ?_)|refine WO ?_|refine Ai λX=>?_|refine Ay λY=>?_);refine NL ?_;rw[show(hi<<<UInt64.ofNat 47)|||(lo>>>UInt64.ofNat 17)=dU hi lo from rfl];refine JF ?_;refine WO ?_;refine AI (Nb 47 (by omega) rfl rfl (by decide)) rfl ?_;refine JC ?_;rw[show lo<<<UInt64.ofNat 47=dL lo from rfl];refine JF ?_;refine AI (GV 32 (by omega) rfl rfl rfl) rfl ?_;refine JC ?_;refine JF ?_;refine AI (MI (b:=4294967295) rfl rfl) rfl ?_;refine JC ?_;refine JF ?_;refine WO ?_;refine AI (WC (b:=2147483648) (by decide) rfl rfl) rfl ?_;refine JC ?_;refine RG ?_;(iterate 3 refine WO ?_);refine AI (Fs (b:=2147483648) rfl rfl) rfl ?_;refine AI (JO rfl rfl) rfl ?_;refine JC ?_
 have c1:∀u:UInt64,u.toNat<9223372036854775808->decide (((u/2147483648).toNat:Int)>=4294967296)=false:=λu hu=>Az (by
  rw[UInt64.toNat_div,show(2147483648:UInt64).toNat=2147483648 from rfl];omega)
 have c2:∀(a b:UInt64),decide (((a*0:UInt64).toNat:Int)>b.toNat)=false:=λa b=>Az (by
  rw[show a*0=0 from UInt64.mul_zero];show¬((0:Nat):Int)>b.toNat
  omega)
 have c1u:=c1 _ hu;have c1r:=c1 _ hr;refine FL ?_;refine B8 (λ_:Unit=>⟨[(2,uA 9223372036854775808),(8,uA (UInt64.ofNat 47)),(9,uA 2147483648),(10,uA 0),(11,uA (dU hi lo)),(13,uA (dL lo>>>UInt64.ofNat 32)),(14,uA (dL lo&&&4294967295)),(15,uA (dU hi lo/2147483648)),(16,uA (dU hi lo-dU hi lo/2147483648*2147483648))],Sf⟩) (λ_=>True) (λ_=>0) () CZ ?_;rintro _ _;(repeat first|(refine Bk ?_;first|refine BT ?_ (Fs (b:=0) rfl rfl)|refine BT ?_ (Fs (a:=4294967296) rfl rfl)|refine BT ?_ (Hx rfl rfl))|refine WK ?_|refine Ai λX=>?_|refine Ay λY=>?_);refine AB rfl (c2 _ _) ?_;refine JD ?_;(repeat first|(refine Bk ?_;first|refine AI (Fs (b:=4294967296) rfl rfl) rfl ?_|refine AI (Hx rfl rfl) rfl ?_|refine AI (Fs (b:=9223372036854775808) rfl rfl) rfl ?_|refine AI (JO rfl rfl) rfl ?_)|refine WO ?_|refine Ai λX=>?_|refine Ay λY=>?_);refine NL ?_;rw[show dU hi lo*4294967296+(dL lo>>>UInt64.ofNat 32)-dU hi lo/2147483648*9223372036854775808=dR hi lo from rfl];refine JF ?_;refine WO ?_;refine AI (WC (b:=2147483648) (by decide) rfl rfl) rfl ?_;refine JC ?_;refine RG ?_;(iterate 3 refine WO ?_);refine AI (Fs (b:=2147483648) rfl rfl) rfl ?_;refine AI (JO rfl rfl) rfl ?_;refine JC ?_;refine FL ?_;refine B8 (λ_:Unit=>⟨[(2,uA 9223372036854775808),(8,uA (UInt64.ofNat 47)),(9,uA 2147483648),(10,uA 0),(14,uA (dL lo&&&4294967295)),(15,uA (dU hi lo/2147483648)),(16,uA (dR hi lo-dR hi lo/2147483648*2147483648)),(17,uA (dR hi lo)),(18,uA (dR hi lo/2147483648))],Sf⟩) (λ_=>True) (λ_=>0) () CZ ?_;rintro _ _;(repeat first|(refine Bk ?_;first|refine BT ?_ (Fs (b:=0) rfl rfl)|refine BT ?_ (Fs (a:=4294967296) rfl rfl)|refine BT ?_ (Hx rfl rfl))|refine WK ?_|refine Ai λX=>?_|refine Ay λY=>?_);refine AB rfl (c2 _ _) ?_;refine JD ?_;(repeat first|(refine Bk ?_;first|refine AI (Fs (b:=4294967296) rfl rfl) rfl ?_|refine AI (Hx rfl rfl) rfl ?_|refine AI (Fs (b:=9223372036854775808) rfl rfl) rfl ?_|refine AI (JO rfl rfl) rfl ?_|refine AI (GV 47 (by omega) rfl rfl (by decide)) rfl ?_)|refine WO ?_|refine Ai λX=>?_|refine Ay λY=>?_);refine NL ?_;refine RT ?_;exact DA [uA (Lh hi lo).1,uA (Lh hi lo).2] [uA (Lh hi lo).1,uA (Lh hi lo).2] (.cons (.cell .same) (.cons (.cell .same) .nil))
end
def cQ(hi lo:UInt64):UInt64:=if hi=0 then lo/65536 else(Lh hi lo).1
def eJ(hi lo:UInt64):UInt64:=if hi=0 then lo%65536 else(Lh hi lo).2
def ST(neg:Bool)(q:Int)(r:UInt64):Int:=
 if neg=false then GG (if(r.toNat:Int)>=(65536-r).toNat then q+1 else q)else GG (-(if(r.toNat:Int)>(65536-r).toNat then q+1 else q))
def eS(neg:Bool)(hi lo:UInt64):Int:=
 if(hi.toNat:Int)>=65536 then(if neg then-1099511627776 else 1099511627776)else
 if((cQ hi lo).toNat:Int)>1099511627776 then ST neg 1099511627777 0 else ST neg (cQ hi lo).toNat (eJ hi lo)
def Xx(a b:Int):Int:=
 eS (if GG b<0 then !(decide (GG a<0))else decide (GG a<0)) (Ts (SZ (GG a)) (SZ (GG b))) (SZ (GG a)*SZ (GG b))
theorem Xy(a b:Int):PS prog 258 [iA a,iA b,iA 65536] (iA (Xx a b)):=by
 have h1:=If a;have h2:=If b;have h3:=If 65536;rw[show GG 65536=65536 from by decide]at h3;have ra:=Mp a;have rb:=Mp b;obtain⟨res,hres⟩:=nm (Xx a b);rw[hres];unfold Xx at hres;obtain⟨a1,ha1⟩:=nm (GG a);obtain⟨b1,hb1⟩:=nm (GG b);rw[ha1]at h1 ra hres;rw[hb1]at h2 rb hres;have h4:=VZ a1 ra;have h5:=VZ b1 rb;have h6:=VZ 65536 (by omega);rw[show SZ 65536=65536 from by decide]at h6;obtain⟨ma,hma⟩:=nm (SZ a1);obtain⟨mb,hmb⟩:=nm (SZ b1);rw[hma]at h4 hres;rw[hmb]at h5 hres;have h7:=Zw ma mb;obtain⟨hi,hhi⟩:=nm (Ts ma mb);obtain⟨lo,hlo⟩:=nm (ma*mb);rw[hhi,hlo]at h7 hres;refine Sp (nt:=78) (res:=[.tmp 6]) func258 λSf=>?_
 refine R1 ?_;refine KK ?_;refine BU (h:=(h1 ..)) (k:=?_);refine WK ?_;refine BU (h:=(h2 ..)) (k:=?_);refine WK ?_;refine BU (h:=(h3 ..)) (k:=?_);refine KK ?_;refine AB rfl rfl ?_;refine KK ?_;refine Bz (λn:Bool=>eS n hi lo=res) (λn=>⟨[(0,iA a1),(1,iA b1),(2,iA 65536),(7,bA n)],Sf⟩) ?_ ?_
 ·by_cases hb:b1<0
  ·rw[AY hb]at hres
   refine Aq rfl (BG hb) ?_;refine KK ?_;exact jn (!decide (a1<0)) hres
  ·rw[AM hb]at hres
   refine AB rfl (Az hb) ?_;refine WK ?_;exact jn (decide (a1<0)) hres
 clear hres;intro neg hres;refine KK ?_;refine AB rfl rfl ?_;refine JF ?_;refine BU (h:=(h6 ..)) (k:=?_);refine JC ?_;refine JF ?_;refine BU (h:=(h4 ..)) (k:=?_);refine WO ?_;refine BU (h:=(h5 ..)) (k:=?_);refine BP (h:=(h7 ..)) (k:=?_);refine JE ?_;refine KK ?_;unfold eS at hres;by_cases hh:(hi.toNat:Int)>=65536
 ·rw[AY hh]at hres
  refine Aq rfl (BG hh) ?_;refine KK ?_;cases neg
  ·refine AB rfl rfl ?_
   refine JA ?_;refine Ag ?_;rw[<-hres];rfl
  ·refine Aq rfl rfl ?_
   refine JA ?_;refine Ag ?_;rw[<-hres];rfl
 rw[AM hh]at hres;refine AB rfl (Az hh) ?_;have h8:=ao hi lo (by omega);rw[show(if hi=0 then lo/65536 else(Lh hi lo).1)=cQ hi lo from rfl,show(if hi=0 then lo%65536 else(Lh hi lo).2)=eJ hi lo from rfl]at h8;obtain⟨q,hq⟩:=nm (cQ hi lo);obtain⟨r,hr⟩:=nm (eJ hi lo);rw[hq,hr]at h8 hres;refine JI ?_;refine Fi (h:=(h8 ..)) (k:=?_);refine JE ?_;refine KK ?_;refine Bz (λb:UInt64×UInt64=>b.1.toNat<=1099511627777/\ST neg b.1.toNat b.2=res) (λb=>⟨[(7,bA neg),(8,uA 65536),(11,uA b.1),(12,uA b.2)],Sf⟩) ?_ ?_
 ·by_cases hb:(q.toNat:Int)>1099511627776
  ·rw[AY hb]at hres
   refine Aq rfl (BG hb) ?_;refine KK ?_;exact jn (1099511627777,0) ⟨by decide,hres⟩
  ·rw[AM hb]at hres
   refine AB rfl (Az hb) ?_;refine WK ?_;exact jn (q,r) ⟨by dsimp only;omega,hres⟩
 clear hres hq hr h8;rintro⟨q,r⟩ ⟨hq,hres⟩;dsimp only at hq hres⊢
 (iterate 3 refine WK ?_);refine AI (S3 .u64 (by omega) (by kernel_rfl) (by kernel_rfl) rfl) rfl ?_;refine KK ?_
 unfold ST at hres;cases neg
 ·rw[AY rfl]at hres
  refine Aq rfl rfl ?_
  (iterate 6 refine WK ?_);refine AI (JO rfl rfl) rfl ?_;refine KK ?_
  by_cases hc:(r.toNat:Int)>=(65536-r).toNat
  ·rw[AY hc]at hres
   have hc1:=If ((q.toNat:Int)+1);rw[hres]at hc1;refine Aq rfl (BG hc) ?_;refine KK ?_;refine BU (h:=(hc1 ..)) (k:=?_);refine JA ?_;refine Ag ?_;rfl
  ·rw[AM hc]at hres
   have hc1:=If (q.toNat:Int);rw[hres]at hc1;refine AB rfl (Az hc) ?_;refine KK ?_;refine BU (h:=(hc1 ..)) (k:=?_);refine JA ?_;refine Ag ?_;rfl
 ·rw[AM (by decide)]at hres
  refine AB rfl rfl ?_
  (iterate 7 refine WK ?_);refine AI (JO rfl rfl) rfl ?_;refine KK ?_
  by_cases hc:(r.toNat:Int)>(65536-r).toNat
  ·rw[AY hc]at hres
   have hc1:=If (-((q.toNat:Int)+1));rw[hres]at hc1;refine Aq rfl (BG hc) ?_
   (iterate 8 refine WK ?_);refine AI (WD (-((q.toNat:Int)+1)) rfl (by omega) rfl) rfl ?_;refine BU (h:=(hc1 ..)) (k:=?_);refine KK ?_
   refine RT ?_;refine Ag ?_;rfl
  ·rw[AM hc]at hres
   have hc1:=If (-(q.toNat:Int));rw[hres]at hc1;refine AB rfl (Az hc) ?_
   (iterate 4 refine WK ?_);refine AI (WD (-(q.toNat:Int)) rfl (by omega) rfl) rfl ?_;refine BU (h:=(hc1 ..)) (k:=?_);refine KK ?_
   refine RT ?_;refine Ag ?_;rfl
theorem eR(a b:Int):PS prog 243 [iA a,iA b] (iA (Xx a b)):=by
 have h:=Xy a b;refine Sp (nt:=8) (res:=[.tmp 4]) func243 λSf=>?_
 refine KK ?_;refine Fi (h:=(h ..)) (k:=?_);refine JA ?_;refine Ag ?_;rfl
def eV(n:UInt64):UInt64:=18446744073709551615-(18446744073709551615%n+1)%n
def ID(n:UInt64):Nat->UInt64×UInt64->UInt64×(UInt64×UInt64)
 |0,r=>(0,r)
 |k+1,r=>if Hg (FE r).1<=eV n then(Hg (FE r).1%n,FE r)else ID n k (FE r)
def HT(r:UInt64×UInt64)(n:Nat):UInt64×(UInt64×UInt64):=ID (UInt64.ofNat n) 18446744073709551616 r
theorem Xz:Hg 0=0:=by decide
theorem Li(n:UInt64):∀(k:Nat) (r:UInt64×UInt64),(ID n k r).2.2=r.2
 |0,r=>rfl
 |k+1,r=>by
  rw[ID];split
  ·rfl
  ·exact Li n k (FE r)
theorem QB(n:UInt64)(hn:0<n.toNat):∀(k:Nat) (r:UInt64×UInt64),(ID n k r).1.toNat<n.toNat
 |0,r=>by simpa[ID]using hn
 |k+1,r=>by
  rw[ID];split
  ·rw[UInt64.toNat_mod];exact Nat.mod_lt _ hn
  ·exact QB n hn k (FE r)
theorem Yb(r:UInt64×UInt64)(n:Nat)(h1:1<=n)(h2:n<=4611686018427387904)(hg:r.2.toNat%2=1):PS prog 244 [Lw r,iA n] (.tup [iA (HT r n).1.toNat,Lw (HT r n).2,iA 0]):=by
 obtain⟨m,hm⟩:=nm (UInt64.ofNat n);have hmn:m.toNat=n:=by rw[<-hm,CO];omega
 obtain⟨k0,hk1,hk2,hk3⟩:=Zv r.1 r.2 hg
 have hodd:decide (((r.2%2).toNat:Int)=0)=false:=Az (by
  rw[UInt64.toNat_mod];show¬((r.2.toNat%2:Nat):Int)=0
  omega)
 obtain⟨res,hres⟩:=nm (HT r n);rw[hres];have hlt:res.1.toNat<m.toNat:=by rw[<-hres];unfold HT;rw[hm];exact QB m (by omega) _ _
 unfold HT at hres;rw[hm]at hres;refine Sp (nt:=40) (res:=[.tmp 4,.cell 5 233,.tmp 6]) func244 λSf=>?_
 (repeat refine WF ?_);refine KL ?_;refine M9 λB=>?_
 refine KO ?_;refine Ai λR=>?_;refine WO ?_
 refine FL ?_;have g1:decide ((n:Int)<1)=false:=Az (by omega)
 (iterate 9 refine WK ?_);refine BT ?_ (QD (b:=2) (by decide) rfl rfl);refine KK ?_
 refine AB rfl hodd ?_;refine JF ?_;refine AI (Ig .i64 n rfl (by omega) (by kernel_rfl) (by kernel_rfl) rfl) rfl ?_;refine JC ?_;rw[hm];refine JF ?_;refine BT ?_ (QD (a:=18446744073709551615) (b:=m) (by omega) rfl rfl);refine AI (Hx (b:=1) rfl rfl) rfl ?_;refine WO ?_;refine BT ?_ (QD (b:=m) (by omega) rfl rfl);refine JC ?_;refine FL ?_;refine Ev (λ(r':UInt64×UInt64) (k K:Nat)=>⟨[(2,.ptr B 0 0),(5,.ptr R 0 0),(7,uA m),(8,uA ((18446744073709551615%m+1)%m))],(R,.row 233 2 [Lw (0,0)])::(B,.row 233 2 [Lw r'])::Sf⟩) (λr' k K=>1<=k/\k<=K/\r'.2=r.2/\(r'.1.toNat+k*r'.2.toNat)%18446744073709551616=0/\ID m K r'=res) (λ_ _ K=>K) r k0 18446744073709551616 ⟨hk1,hk2,rfl,hk3,hres⟩ ?_;rintro r' k K ⟨hk1,hk2,hr2,hk3,hres⟩;have hnx:=VM r';obtain⟨K',rfl⟩:∃K',K=K'+1:=⟨K-1,by omega⟩;rw[ID]at hres;(repeat refine WF ?_);refine R1 ?_;refine JF ?_;refine BU (h:=(hnx ..)) (k:=?_);refine JE ?_;refine JF ?_;refine WO ?_;refine AI (JO (a:=18446744073709551615) rfl rfl) rfl ?_;refine JC ?_
 have hst:((FE r').1.toNat+(k-1)*(FE r').2.toNat)%18446744073709551616=0:=by
  have e:(FE r').1.toNat=(r'.1.toNat+r'.2.toNat)%18446744073709551616:=UInt64.toNat_add ..;rw[e,show(FE r').2=r'.2 from rfl];obtain⟨j,rfl⟩:∃j,k=j+1:=⟨k-1,by omega⟩;rw[C3,Nat.one_mul]at hk3;rw[Nat.add_sub_cancel];generalize j*r'.2.toNat=u at hk3⊢;omega
 refine AC rfl (λhc=>?_) (λhc=>?_)
 ·have hc:Hg (FE r').1<=eV m:=by
   rw[Gf];have:=AD hc;exact Int.ofNat_le.1 this
  rw[AY hc]at hres;have hx:(Hg (FE r').1%m).toNat<9223372036854775808:=by rw[show Hg (FE r').1%m=res.1 from by rw[<-hres]];omega
  refine RU ?_;refine JG ?_;refine BO ?_ (QD (b:=m) (by omega) rfl rfl);refine BO ?_ (S3 .u64 hx (by kernel_rfl) (by kernel_rfl) rfl);(iterate 4 refine RK ?_);refine RGo.nil (by kernel_rfl) ?_;refine RT ?_;subst hres;exact DA [iA (Hg (FE r').1%m).toNat,Lw (FE r'),iA 0] [iA (Hg (FE r').1%m).toNat,Lw (FE r'),iA 0] (.cons (.cell .same) (.cons (.agg .r) (.cons (.cell .same) .nil)))
 ·have hc:¬Hg (FE r').1<=eV m:=by
   rw[Gf];have:=AG hc;exact λh=>this (Int.ofNat_le.2 h)
  rw[AM hc]at hres
  have hk:k≠1:=by
   intro e;subst e;apply hc
   have h0:(FE r').1=0:=by
    apply UInt64.toNat_inj.1;have:=(FE r').1.toNat_lt;simp at hst;show(FE r').1.toNat=0
    omega
   rw[h0,Xz,Gf];exact Ap _
  refine KK ?_;refine Dc (FE r') (k-1) K' ⟨by omega,by omega,hr2,hst,hres⟩
def Dt(a:Arg):AV:=.agg [bA a.has,iA a.n,iA a.ref.kind,iA a.ref.field]
def opA(o:Op):AV:=.agg [iA o.act,iA o.to.kind,iA o.to.field,bA o.a.has,iA o.a.n,iA o.a.ref.kind,iA o.a.ref.field,bA o.b.has,iA o.b.n,iA o.b.ref.kind,iA o.b.ref.field]
abbrev cb(o:Bool)(l:List Op):AV:=.lst o 229 11 (l.map opA)
def FJ(o:Bool)(s:Sys):AV:=.agg [sA s.name,Av o s.wth,Av o s.wout,Av o s.reads,Av o s.writes,cb o s.ops,B3 o false s.spawn]
abbrev Oi(o:Bool)(l:List Sys):AV:=.lst o 132 7 (l.map (FJ false))
instance {a:Arg}:Frz (Dt a) (Dt a):=⟨rfl⟩
instance {o:Op}:Frz (opA o) (opA o):=⟨rfl⟩
instance {o:Bool}{s:Sys}:Frz (FJ o s) (FJ false s):=⟨by unfold FJ;exact Frz.h⟩
theorem YE(l:List Int)(x:Int)(hl:l.length<=4611686018427387904):PS prog 237 [Av false l,iA x] (iA (HM l λy=>decide (x=y))):=by
 refine Sp (nt:=19) (res:=[.tmp 4]) func237 λSf=>?_
 refine KK ?_;refine B8 (λi:Nat=>⟨[(0,Av false l),(1,iA x),(7,iA (l.map iA).length),(8,iA i)],Sf⟩) (λi=>i<=l.length/\∀j (h:j<l.length),j<i->(decide (x=l[j]))=false) (λi=>l.length-i) 0 ⟨Ap _,λj h hj=>absurd hj (by omega)⟩ ?_;rintro i ⟨hi,he⟩;refine KK ?_;refine AC rfl (λhc=>?_) (λhc=>?_)
 ·have h:i<l.length:=by simpa using hc
  refine KK ?_;refine AC rfl (λhd=>?_) (λhd=>?_)
  ·refine KK ?_
   refine RT ?_;refine Ag ?_;rw[HK h hd λj hj=>he j (by omega) hj]
  ·refine KK ?_
   refine BM (i+1) ⟨h,λj h1 h2=>?_⟩;by_cases e:j=i
   ·subst e;exact hd
   ·exact he j h1 (by omega)
 ·have h:¬i<l.length:=by simpa using hc
  refine JA ?_;refine Ag ?_;rw[HL λj hj=>he j hj (by omega)]
theorem IC(l:List Int)(x:Int)(hl:l.length<=4611686018427387904):PS prog 188 [Av false l,iA x] (bA (l.contains x)):=by
 refine Sp (nt:=9) (res:=[.tmp 4]) func188 λSf=>?_
 refine KK ?_;refine BP (h:=(YE l x hl)) (k:=?_);refine JA ?_;refine Ag ?_
 have h2:decide ((0:Int)<=HM l λy=>decide (x=y))=l.contains x:=by
  rw[Mh,List.contains_eq_any_beq]
  congr 1
 rw[<-h2]
def Ki(d:Int):Bool:=decide (d>=0)&&decide (d<=7)
theorem Wf(d:Int):PS prog 195 [iA d] (bA (Ki d)):=by
 refine Sp (nt:=9) (res:=[.tmp 2]) func195 λSf=>?_
 refine JA ?_;refine Ag ?_;rfl
theorem eD(d:Int):PS prog 239 [iA d] (bA (LU d)):=by
 refine Sp (nt:=13) (res:=[.tmp 2]) func239 λSf=>?_
 refine JA ?_;refine Ag ?_;rfl
def fT(r:Ref):AV:=.agg [iA r.kind,iA r.field]
theorem L7(ks:List Kind)(r:Ref)(h:Mv ks r):PS prog 238 [Ba false false ks,fT r] (bA true):=by
 obtain⟨h1,h2,h3,h4⟩:=h;obtain⟨rk,rf⟩:=r;dsimp only at h1 h2 h3 h4;obtain⟨i,hi⟩:∃i:Nat,rk=i:=⟨rk.toNat,by omega⟩;subst hi;have hil:i<ks.length:=by omega
 unfold Qo at h4;rw[By,Af hil]at h4;dsimp only at h4;obtain⟨⟨kn,fs⟩,hk⟩:=nm (ks[i]);rw[hk]at h4;have hkm:(ks.map (CF false)).length=ks.length:=AH _;have hat:(ks.map (CF false))[i]?=some (CF false ⟨kn,fs⟩):=by rw[Ae,Af hil,hk];rfl
 have g1:decide (((i:Nat):Int)>=0)=true:=BG (by omega);have g2:decide (((i:Nat):Int)<(ks.map (CF false)).length)=true:=BG (by omega);have g3:decide (rf>=0)=true:=BG (by omega);have g4:decide (rf<(fs.map fieldA).length)=true:=BG (by rw[AH];exact h4);refine Sp (nt:=32) (res:=[.tmp 4]) func238 λSf=>?_
 refine JF ?_;refine Ai λX=>?_;refine JC ?_
 refine RU ?_;(iterate 28 refine RK ?_);refine RGo.nil (by kernel_rfl) ?_;refine FL ?_;refine RT ?_;refine Ag ?_;rw[g4]
theorem eE(ks:List Kind)(l:List Int)(ho:l.Pairwise (· < ·))(hr:∀x∈l,0<=x/\x<ks.length)(hl:l.length<=1099511627776):PS prog 185 [Ba false false ks,Av false l] (iA 0):=by
 have hlm:(l.map iA).length=l.length:=AH _;have hkm:(ks.map (CF false)).length=ks.length:=AH _;refine Sp (nt:=34) (res:=[.tmp 4]) func185 λSf=>?_
 refine KK ?_;refine B8 (λi:Nat=>⟨[(0,Ba false false ks),(1,Av false l),(7,Av false l),(8,iA (l.map iA).length),(9,iA i)],Sf⟩) (λi=>i<=l.length) (λi=>l.length-i) 0 (Ap _) ?_;rintro i hi;refine KK ?_;refine AC rfl (λhc=>?_) (λhc=>?_)
 ·have h:i<l.length:=by rw[Aj,hlm]at hc;omega
  have hx:=hr _ (Ax h);obtain⟨x,hxe⟩:=nm (l[i]);rw[hxe]at hx;have hat:(l.map iA)[i]?=some (iA x):=by rw[Ae,Af h,hxe];rfl
  have g1:decide (x<0)=false:=Az (by omega);have g2:decide (x>=(ks.map (CF false)).length)=false:=Az (by omega);refine KK ?_;refine AB rfl g2 ?_;by_cases h0:i=0
  ·subst h0
   have g3:decide (((0:Nat):Int)>0)=false:=by decide
   refine KK ?_;refine AB rfl rfl ?_;refine KK ?_;refine BM 1 h
  ·have g3:decide (((i:Nat):Int)>0)=true:=BG (by omega)
   have hlt:l[i-1]<x:=by rw[<-hxe];exact Bt.1 ho (i-1) i (by omega) h (by omega)
   have hat2:(l.map iA)[i-1]?=some (iA l[i-1]):=by rw[Ae,Af (by omega)];rfl
   have g4:decide (l[i-1]>=x)=false:=Az (by omega)
   (iterate 11 refine WK ?_);refine BT ?_ (BJ ((i-1:Nat):Int) (by omega) (by omega) rfl rfl);refine KK ?_
   refine AB rfl g4 ?_;refine KK ?_;refine BM (i+1) h
 ·refine KK ?_
  refine RT ?_;refine Ag ?_;rfl
theorem SI(s:Sys)(x:Int)(hl:s.wout.length<=4611686018427387904):PS prog 187 [iA x,.fp (FJ false s).cells] (bA (s.wout.contains x)):=by
 have h:=IC s.wout x hl;refine Sp (nt:=8) (res:=[.tmp 3]) func187 λSf=>?_
 refine KK ?_;refine BP (h:=(h ..)) (k:=?_);refine JA ?_;refine Ag ?_;rfl
theorem SH(s:Sys)(x:Int)(hl:s.wth.length<=4611686018427387904):PS prog 189 [iA x,.fp (FJ false s).cells] (bA (!s.wth.contains x)):=by
 have h:=IC s.wth x hl;refine Sp (nt:=9) (res:=[.tmp 3]) func189 λSf=>?_
 refine KK ?_;refine BP (h:=(h ..)) (k:=?_);refine JA ?_;refine Ag ?_;rfl
structure Cmd where
 act:Int
 ent:Ent
 kind:Int
 comps:List Comp
def D3(c:Cmd):AV:=.agg [iA c.act,iA c.ent.n,iA c.ent.gen,iA c.kind,B3 false false c.comps]
instance {c:Cmd}:Frz (D3 c) (D3 c):=⟨by unfold D3;exact Frz.h⟩
def Ln(cs:List Comp)(k:Int):List Int:=match DW cs k with
 |some c=>c.vals
 |none=>[]
def Mq(cs:List Comp)(a:Arg):Int:=if a.has then(Ln cs a.ref.kind).getD a.ref.field.toNat 0 else a.n
def Gm(act a b:Int)(r:UInt64×UInt64):Int×(UInt64×UInt64):=
 if act=1 then(a+b,r)else if act=2 then(a-b,r)else if act=3 then(Xx a b,r)else
 if act=4 then(if b<a then b else a,r)else if act=5 then(if a<b then b else a,r)else if act=6 then(if a<b then 1 else 0,r)else
 if act=7 then(if a<1 then(0,r)else(((HT r a.toNat).1.toNat:Int),(HT r a.toNat).2))else(a,r)
def TY(cs:List Comp)(k:Int)(f:Nat)(v:Int):List Comp:=match DW cs k with
 |some c=>cs.set (Ey cs k) ⟨c.kind,c.vals.set f v⟩
 |none=>cs
structure Rn where
 comps:List Comp
 r:UInt64×UInt64
 cmds:List Cmd
 evs:List Evt
def IB(ks:List Kind)(r:Ref):Field:=match ks[r.kind.toNat]? with
 |some k=>k.fields.getD r.field.toNat ⟨[],0,0⟩
 |none=>⟨[],0,0⟩
def Pu(ks:List Kind)(k:Int):List Int:=match ks[k.toNat]? with
 |some x=>(C8 x (List.replicate x.fields.length 0)).1
 |none=>[]
def doM(ks:List Kind)(s:Sys)(index:Int)(e:Ent)(o:Op)(st:Rn):Rn:=
 if Ki o.act=true then
  ⟨TY st.comps o.to.kind o.to.field.toNat (Cx (IB ks o.to) (Gm o.act (Mq st.comps o.a) (Mq st.comps o.b) st.r).1),(Gm o.act (Mq st.comps o.a) (Mq st.comps o.b) st.r).2,st.cmds,st.evs⟩
 else if Mq st.comps o.a=0 then st
 else if o.act=12 then⟨st.comps,st.r,st.cmds,st.evs++[⟨index,e,Mq st.comps o.b⟩]⟩
 else⟨st.comps,st.r,st.cmds++[if o.act=8 then⟨0,e,0,[⟨o.to.kind,Pu ks o.to.kind⟩]⟩else if o.act=9 then⟨1,e,o.to.kind,[]⟩else if o.act=10 then⟨2,e,0,[]⟩else⟨3,⟨0,0⟩,0,(EO ks s.spawn).1⟩],st.evs⟩
def Qe(ks:List Kind)(s:Sys)(e:Ent)(cv:AV)(r:UInt64×UInt64)(kv ev:AV)(index:Int):AV:=
 .agg [Ba false false ks,sA s.name,Av false s.wth,Av false s.wout,Av false s.reads,Av false s.writes,cb false s.ops,B3 false false s.spawn,iA e.n,iA e.gen,cv,uA r.1,uA r.2,kv,ev,iA index]
end Go.Proofs.YtmkahplhnbbgmaaGreat
