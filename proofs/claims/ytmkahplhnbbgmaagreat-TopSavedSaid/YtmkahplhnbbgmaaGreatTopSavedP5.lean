/-
  Part 5 of the texts under the law TopSaved: the layer of abstract values, walks and plain laws. Conditions: those that each theorem names.
-/
import Derived.WalkKit
import Derived.Lib.Hide
import Derived.Deep.OwnRows
import Derived.Deep.Draws
import Derived.Test.YtmkahplhnbbgmaaGreatChecked
import Derived.ProofKit
import Derived.OpenShut
import Derived.ShutString
import Derived.ChangeOld
import Derived.Below
import Derived.SizedLaws
import Derived.Deep.Slices
import Derived.Deep.Fields
import Derived.ChangeSame
import Derived.Test.YtmkahplhnbbgmaaGreatProg
import Derived.Sort.AssemblyPlain
import Derived.Test.YtmkahplhnbbgmaaGreatTopSavedP4
namespace Go.Proofs.YtmkahplhnbbgmaaGreat
open Tryz
set_option linter.unusedVariables false
set_option linter.unusedSimpArgs false
set_option linter.defProp false
set_option maxRecDepth 10000
set_option maxHeartbeats 4000000
variable {α:Type}
variable {n:Int}
variable {i:Nat}
variable {vals:List Int}
variable {gens:List Int}
variable {k:Int}
variable {l:List Int}
structure Field where
 name:List UInt8
 bits:Int
 low:Int
structure Kind where
 name:List UInt8
 fields:List Field
structure Ent where
 n:Int
 gen:Int
structure Comp where
 kind:Int
 vals:List Int
structure Item where
 ent:Ent
 comps:List Comp
structure Wd where
 kinds:List Kind
 gens:List Int
 items:List Item
structure Evt where
 sys:Int
 ent:Ent
 val:Int
structure Ref where
 kind:Int
 field:Int
structure Arg where
 has:Bool
 n:Int
 ref:Ref
structure Op where
 act:Int
 to:Ref
 a:Arg
 b:Arg
structure Sys where
 name:List UInt8
 wth:List Int
 wout:List Int
 reads:List Int
 writes:List Int
 ops:List Op
 spawn:List Comp
instance:DecidableEq Field:=λa b=>decidable_of_iff (a.name=b.name/\a.bits=b.bits/\a.low=b.low) (by cases a;cases b;simp)
instance:DecidableEq Kind:=λa b=>decidable_of_iff (a.name=b.name/\a.fields=b.fields) (by cases a;cases b;simp)
instance:DecidableEq Ent:=λa b=>decidable_of_iff (a.n=b.n/\a.gen=b.gen) (by cases a;cases b;simp)
instance:DecidableEq Comp:=λa b=>decidable_of_iff (a.kind=b.kind/\a.vals=b.vals) (by cases a;cases b;simp)
instance:Inhabited Comp:=⟨⟨default,default⟩⟩
instance:DecidableEq Item:=λa b=>decidable_of_iff (a.ent=b.ent/\a.comps=b.comps) (by cases a;cases b;simp)
instance:DecidableEq Wd:=λa b=>decidable_of_iff (a.kinds=b.kinds/\a.gens=b.gens/\a.items=b.items) (by cases a;cases b;simp)
instance:DecidableEq Ref:=λa b=>decidable_of_iff (a.kind=b.kind/\a.field=b.field) (by cases a;cases b;simp)
def I64(x:Int):Prop:=-9223372036854775808<=x/\x<=9223372036854775807
section
open Go.RowKit
abbrev Reg:=Nat->Prop
def Lt(w:World):Reg:=λb=>b<w.heap.size
def kj(S:Reg)(w w':World):Prop:=∀b,S b->w'.heap[b]?=w.heap[b]?
section
variable {w w' w'':World}{S T:Reg}
theorem bel{n m:Nat}{a b c:World}(h:Below n a b)(k:Below m b c)(hm:n<=m):Below n a c:=h.trans (k.mono hm)
def Row(w:World)(S:Reg)(sz:Nat)(v:Value)(n:Nat)(xs:List Value):Prop:=
 xs.length=n*sz/\∃A cap,v= .slice A n cap/\n<=cap/\(0<n->∃b off,A=some ⟨b,off,none⟩/\S b/\∀j u,xs[j]?=some u->w.cell? ⟨b,off+j,none⟩=some u)
variable {sz n:Nat}{v:Value}{xs:List Value}
theorem Row.nil(w:World)(S:Reg)(sz:Nat):Row w S sz (.slice none 0 0) 0 []:=⟨by simp,none,0,rfl,AT _,λh=>absurd h (by omega)⟩
end
def Cells{α:Type}(C:List Value->α->Prop)(sz:Nat):List Value->List α->Prop
 |xs,[]=>xs=[]
 |xs,x::l=>∃c ys,xs=c++ys/\c.length=sz/\C c x/\Cells C sz ys l
section
variable {α:Type}{C C':List Value->α->Prop}{sz:Nat}{xs ys:List Value}{l m:List α}
theorem Cells.nil:Cells C sz [] []:=rfl
theorem Cells.length(h:Cells C sz xs l):xs.length=l.length*sz:=by
 induction l generalizing xs with
 |nil=>have:xs=[]:=h;simp[this]
 |cons x l ih=>
  obtain⟨c,ys,rfl,h1,_,h3⟩:=h;simp[ih h3,h1,C2,Nat.add_comm]
end
def Sl{α:Type}(w:World)(S:Reg)(sz:Nat)(C:World->Reg->List Value->α->Prop)(v:Value)(l:List α):Prop:=
 ∃xs,Row w S sz v l.length xs/\Cells (C w S) sz xs l
section
variable {α:Type}{w w':World}{S T:Reg}{sz:Nat}{C:World->Reg->List Value->α->Prop}{v:Value}{l:List α}
theorem Sl.nil(w:World)(S:Reg)(sz:Nat)(C:World->Reg->List Value->α->Prop):Sl w S sz C (.slice none 0 0) []:=⟨[],Row.nil w S sz,.nil⟩
end
abbrev js(l:List UInt8):Value:=.string ⟨l.toArray⟩
def kg(_:World)(_:Reg)(c:List Value)(x:Int):Prop:=c=[.int .i64 x]
def jK(_:World)(_:Reg)(c:List Value)(f:Field):Prop:=c=[js f.name,.int .i64 f.bits,.int .i64 f.low]
abbrev bg(w:World)(S:Reg)(v:Value)(l:List Int):Prop:=Sl w S 1 kg v l
abbrev Fields(w:World)(S:Reg)(v:Value)(l:List Field):Prop:=Sl w S 3 jK v l
def kB(w:World)(S:Reg)(c:List Value)(k:Kind):Prop:=∃vf,c=[js k.name,vf]/\Fields w S vf k.fields
abbrev kh(w:World)(S:Reg)(v:Value)(l:List Kind):Prop:=Sl w S 2 kB v l
def kM(w:World)(S:Reg)(c:List Value)(x:Comp):Prop:=∃v,c=[.int .i64 x.kind,v]/\bg w S v x.vals
abbrev kb(w:World)(S:Reg)(v:Value)(l:List Comp):Prop:=Sl w S 2 kM v l
def kC(w:World)(S:Reg)(c:List Value)(x:Item):Prop:=∃v,c=[.int .i64 x.ent.n,.int .i64 x.ent.gen,v]/\kb w S v x.comps
abbrev ki(w:World)(S:Reg)(v:Value)(l:List Item):Prop:=Sl w S 3 kC v l
section
variable {w w':World}{S T:Reg}{v:Value}
variable {A:Option Addr}{n cap i:Nat}
end
section
variable {α:Type}{w w':World}{base:Nat}{e:TypeId}{S T:Reg}{sz:Nat}{C:World->Reg->List Value->α->Prop}{v:Value}{l:List α}
end
section
variable {w w':World}{b:Nat}{e:TypeId}{l:List Int}
end
section
variable {w w':World}{g:Nat}{t:TypeId}{cs:Array Value}
end
end
section
open Go.ChangeShapes Go.WideShapes Go.ChangeAt Go.RowKit Go.Deep
theorem jq{x:Int}(h:(Lit.int .i64 x).wf=true):I64 x:=by
 have:=h;simp[Lit.wf,IntKind.min,IntKind.max,IntKind.signed,IntKind.bits]at this;unfold I64;omega
theorem gW{sz:Nat}{cs:α->List Value}{f:Nat->Option Value}(hcs:∀x,(cs x).length=sz):∀(l:List α) (off:Nat),(∀i (hi:i<l.length) j u,(cs l[i])[j]?=some u->f (off+(i*sz+j))=some u)->
  ∀j u,(l.flatMap cs)[j]?=some u->f (off+j)=some u:=by
 intro l
 induction l with
 |nil=>intro off _ j u h;simp at h
 |cons x l ih=>
  intro off h j u hj;rw[Bj]at hj;rcases Ib j sz with hlt|hge
  ·rw[Bw (by rw[hcs];exact hlt)]at hj
   have:=h 0 (by simp) j u hj;simpa using this
  ·rw[BX (by rw[hcs];exact hge),hcs]at hj
   have:=ih (off+sz) (λi hi j u hu=>by
    have:=h (i+1) (by simp;omega) j u hu;rwa[C2,Nat.one_mul,show off+(i*sz+sz+j)=off+sz+(i*sz+j) by omega]at this) (j-sz) u hj
   rwa[show off+sz+(j-sz)=off+j by omega]at this
theorem Qx{sz:Nat}{cs:α->List Value}{C:List Value->α->Prop}(hcs:∀x,(cs x).length=sz)(hC:∀x,C (cs x) x)(l:List α):Cells C sz (l.flatMap cs) l:=by
 induction l with
 |nil=>rfl
 |cons x l ih=>exact⟨cs x,l.flatMap cs,by rw[Bj],hcs x,hC x,ih⟩
theorem Uv{w:World}{sz:Nat}{C:World->Reg->List Value->α->Prop}{a:Addr}{n cap:Nat}{l:List α}{cs:α->List Value}(hn:n<=cap)(hl:l.length=n)(hsz:0<sz)(hcs:∀x,(cs x).length=sz)(hC:∀x,C w (Lt w) (cs x) x)
  (hcell:∀i (hi:i<l.length) j u,(cs l[i])[j]?=some u->w.cell? (a.add (i*sz+j))=some u):Sl w (Lt w) sz C (.slice (some a) n cap) l:=by
 subst hl;refine⟨l.flatMap cs,⟨?_,some a,cap,rfl,hn,λh0=>?_⟩,Qx hcs hC l⟩
 ·have:=(Qx (C:=λ_ _=>True) hcs (λ_=>CZ) l).length
  exact this
 ·obtain⟨b,off,spot⟩:=a
  have h1:∃u,(cs l[0])[0]?=some u:=⟨_,AX (by rw[hcs];exact hsz)⟩;obtain⟨u,hu⟩:=h1;have h2:=hcell 0 h0 0 u hu;have hspot:spot=none:=by simpa[Addr.add]using World.cell?_spot h2
  subst hspot;refine⟨b,off,rfl,?_,?_⟩
  ·rw[Go.WideShapes.add_plain]at h2
   unfold World.cell? at h2;simp only at h2;show b<w.heap.size
   rcases Ib b w.heap.size with h|h
   ·exact h
   ·rw[Array.getElem?_eq_none h]at h2
    cases h2
  ·refine gW (f:=λk=>w.cell? ⟨b,k,none⟩) hcs l off λi hi j u hu=>?_
   have:=hcell i hi j u hu;rwa[Go.WideShapes.add_plain]at this
section
variable {H:Type}{enc:TypeId×Value->H}{w:World}{a:Option Addr}{len cap:Nat}{d:DataW H}{p:List MemPlace}
theorem kE(h:DataW.Trod enc prog w 0 (λ_=>true) true 22 (.slice a len cap) d p):
  ∃z:List Int,bg w (Lt w) (.slice a len cap) z/\(z=[]\/∃elems spare,d= .slice elems spare/\z.length<=elems.length+spare.length):=by
 obtain⟨fuel,hf⟩:=h;rcases open_slice underlying22 hf with⟨hcs,_⟩|⟨x,l,c,m,n,D,Pl,hcs,hb,hl,hm,hmm,hx,hi⟩
 ·simp[Value.cells]at hcs
  obtain⟨rfl,rfl,rfl⟩:=hcs;exact⟨[],Sl.nil _ _ _ _,.inl rfl⟩
 ·simp[Value.cells]at hcs
  obtain⟨rfl,rfl,rfl⟩:=hcs;have hlm:len<=m:=by rw[hmm];split<;>omega
  have hex:∀i,∃e:Int,i<len->∀j u,([Value.int .i64 e])[j]?=some u->w.cell? (x.add (i*1+j))=some u:=by
   intro i;by_cases hil:i<len
   ·obtain⟨cs',hc,ht⟩:=hi i (by omega)
    rw[show prog.cellsOf 3=1 from by kernel_rfl]at hc;obtain⟨_,hcl,hat⟩:=World.cells?_some hc;obtain⟨k,rfl,_⟩:=DataW.trod_int underlying3 ht;refine⟨k,λ_ j u hu=>?_⟩
    have hj:j=0:=by
     have:=(AE.1 hu).1;simp at this;omega
    subst hj;have:=hat 0 (by omega);rw[Go.Deep.add_add]at this;rw[this,hu]
   ·exact⟨0,λh=>absurd h hil⟩
  obtain⟨f,hf'⟩:=Classical.axiomOfChoice hex;refine⟨(List.range len).map f,Uv (cs:=λe=>[Value.int .i64 e]) hl (by simp) (by omega) (λ_=>rfl) (λ_=>rfl) (λi hi' j u hu=>?_),.inr ⟨_,_,(Prod.mk.inj hx).1,by simp⟩⟩;simp only[AD,Y6]at hi';exact hf' i hi' j u (by simpa using hu)
end
end
instance:TAg prog 3 false:={}
instance:TSize prog 3 1:={}
instance:TZe prog 3 [.int .i64 0]:={}
instance:TBy prog 3 8:={}
instance:TAg prog 4 false:={}
instance:TSize prog 4 1:={}
instance:TZe prog 4 [.bool false]:={}
instance:TBy prog 4 1:={}
instance:TAg prog 5 false:={}
instance:TSize prog 5 1:={}
instance:TZe prog 5 [.int .u8 0]:={}
instance:TAg prog 9 false:={}
instance:TSize prog 9 1:={}
instance:TZe prog 9 [.string ByteArray.empty]:={}
instance:TSg prog 9:={}
instance:TAg prog 22 false:={}
instance:TSize prog 22 1:={}
instance:TZe prog 22 [.slice none 0 0]:={}
instance:TEl prog 22 3:={}
instance:TRo prog 22 3 1 8:={}
instance:TAg prog 23 false:={}
instance:TSize prog 23 1:={}
instance:TEl prog 23 90:={}
instance:TRo prog 23 90 2 40:={}
instance:TAg prog 24 false:={}
instance:TSize prog 24 1:={}
instance:TEl prog 24 83:={}
instance:TRo prog 24 83 3 40:={}
instance:TAg prog 26 true:={}
instance:TSize prog 26 3:={}
instance:TZe prog 26 [.slice none 0 0,.slice none 0 0,.slice none 0 0]:={}
instance:TFl prog 26 0 0 23:={}
instance:TFl prog 26 1 1 22:={}
instance:TFl prog 26 2 2 24:={}
instance:TSt prog 26 [.slice none 0 0,.slice none 0 0,.slice none 0 0] [(0,1),(1,1),(2,1)]:={}
instance:TAg prog 32 true:={}
instance:TSize prog 32 2:={}
instance:TZe prog 32 [.int .i64 0,.int .i64 0]:={}
instance:TFl prog 32 0 0 3:={}
instance:TFl prog 32 1 1 3:={}
instance:TSt prog 32 [.int .i64 0,.int .i64 0] [(0,1),(1,1)]:={}
instance:TAg prog 33 false:={}
instance:TSize prog 33 1:={}
instance:TAg prog 42 true:={}
instance:TSize prog 42 2:={}
instance:TZe prog 42 [.int .i64 0,.slice none 0 0]:={}
instance:TBy prog 42 32:={}
instance:TFl prog 42 0 0 3:={}
instance:TFl prog 42 1 1 22:={}
instance:TSt prog 42 [.int .i64 0,.slice none 0 0] [(0,1),(1,1)]:={}
instance:TAg prog 51 false:={}
instance:TSize prog 51 1:={}
instance:TEl prog 51 136:={}
instance:TRo prog 51 136 4 32:={}
instance:TEl prog 54 132:={}
instance:TRo prog 54 132 7 160:={}
instance:TAg prog 64 false:={}
instance:TSize prog 64 1:={}
instance:TZe prog 64 [.slice none 0 0]:={}
instance:TEl prog 64 72:={}
instance:TRo prog 64 72 1 8:={}
instance:TAg prog 67 false:={}
instance:TSize prog 67 1:={}
instance:TEl prog 67 5:={}
instance:TRo prog 67 5 1 1:={}
instance:TAg prog 72 false:={}
instance:TSize prog 72 1:={}
instance:TZe prog 72 [.int .u64 0]:={}
instance:TBy prog 72 8:={}
instance:TAg prog 75 false:={}
instance:TSize prog 75 1:={}
instance:TFl prog 77 0 0 22:={}
instance:TSt prog 77 [.slice none 0 0] [(0,1)]:={}
instance:TAg prog 80 false:={}
instance:TSize prog 80 1:={}
instance:TEl prog 80 42:={}
instance:TRo prog 80 42 2 32:={}
instance:TAg prog 83 true:={}
instance:TSize prog 83 3:={}
instance:TZe prog 83 [.int .i64 0,.int .i64 0,.slice none 0 0]:={}
instance:TBy prog 83 40:={}
instance:TFl prog 83 0 0 32:={}
instance:TFl prog 83 1 2 80:={}
instance:TSt prog 83 [.int .i64 0,.int .i64 0,.slice none 0 0] [(0,2),(2,1)]:={}
instance:TAg prog 88 false:={}
instance:TSize prog 88 1:={}
instance:TEl prog 88 92:={}
instance:TRo prog 88 92 3 32:={}
instance:TAg prog 90 true:={}
instance:TSize prog 90 2:={}
instance:TZe prog 90 [.string ByteArray.empty,.slice none 0 0]:={}
instance:TBy prog 90 40:={}
instance:TFl prog 90 0 0 9:={}
instance:TFl prog 90 1 1 88:={}
instance:TSt prog 90 [.string ByteArray.empty,.slice none 0 0] [(0,1),(1,1)]:={}
instance:TAg prog 92 true:={}
instance:TSize prog 92 3:={}
instance:TZe prog 92 [.string ByteArray.empty,.int .i64 0,.int .i64 0]:={}
instance:TFl prog 92 0 0 9:={}
instance:TFl prog 92 1 1 3:={}
instance:TFl prog 92 2 2 3:={}
instance:TSt prog 92 [.string ByteArray.empty,.int .i64 0,.int .i64 0] [(0,1),(1,1),(2,1)]:={}
instance:TAg prog 112 false:={}
instance:TSize prog 112 1:={}
instance:TAg prog 113 false:={}
instance:TSize prog 113 1:={}
instance:TEl prog 113 117:={}
instance:TRo prog 113 117 1 8:={}
instance:TFl prog 115 0 0 23:={}
instance:TFl prog 115 1 1 22:={}
instance:TFl prog 115 2 2 113:={}
instance:TFl prog 115 3 3 112:={}
instance:TSt prog 115 [.slice none 0 0,.slice none 0 0,.slice none 0 0,.map none] [(0,1),(1,1),(2,1),(3,1)]:={}
instance:TAg prog 117 false:={}
instance:TSize prog 117 1:={}
instance:TZe prog 117 [.pointer none]:={}
instance:TAg prog 120 false:={}
instance:TSize prog 120 1:={}
instance:TAg prog 121 false:={}
instance:TSize prog 121 1:={}
instance:TEl prog 121 209:={}
instance:TRo prog 121 209 1 8:={}
instance:TFl prog 123 0 0 22:={}
instance:TFl prog 123 1 1 120:={}
instance:TFl prog 123 2 2 121:={}
instance:TSt prog 123 [.slice none 0 0,.pointer none,.slice none 0 0] [(0,1),(1,1),(2,1)]:={}
instance:TAg prog 130 false:={}
instance:TSize prog 130 1:={}
instance:TEl prog 130 229:={}
instance:TRo prog 130 229 11 88:={}
instance:TAg prog 132 true:={}
instance:TSize prog 132 7:={}
instance:TZe prog 132 [.string ByteArray.empty,.slice none 0 0,.slice none 0 0,.slice none 0 0,.slice none 0 0,.slice none 0 0,.slice none 0 0]:={}
instance:TFl prog 132 0 0 9:={}
instance:TFl prog 132 1 1 22:={}
instance:TFl prog 132 2 2 22:={}
instance:TFl prog 132 3 3 22:={}
instance:TFl prog 132 4 4 22:={}
instance:TFl prog 132 5 5 130:={}
instance:TFl prog 132 6 6 80:={}
instance:TSt prog 132 [.string ByteArray.empty,.slice none 0 0,.slice none 0 0,.slice none 0 0,.slice none 0 0,.slice none 0 0,.slice none 0 0] [(0,1),(1,1),(2,1),(3,1),(4,1),(5,1),(6,1)]:={}
instance:TAg prog 136 true:={}
instance:TSize prog 136 4:={}
instance:TZe prog 136 [.int .i64 0,.int .i64 0,.int .i64 0,.int .i64 0]:={}
instance:TSt prog 136 [.int .i64 0,.int .i64 0,.int .i64 0,.int .i64 0] [(0,1),(1,2),(3,1)]:={}
instance:TEl prog 138 139:={}
instance:TRo prog 138 139 1 24:={}
instance:TAg prog 139 false:={}
instance:TSize prog 139 1:={}
instance:TZe prog 139 [.slice none 0 0]:={}
instance:TEl prog 139 303:={}
instance:TRo prog 139 303 5 56:={}
instance:TAg prog 159 false:={}
instance:TSize prog 159 1:={}
instance:TZe prog 159 [.nilFunc]:={}
instance:TSize prog 169 2:={}
instance:TFl prog 169 0 0 67:={}
instance:TFl prog 169 1 1 3:={}
instance:TFl prog 171 0 0 169:={}
instance:TFl prog 171 1 2 33:={}
instance:TSt prog 171 [.slice none 0 0,.int .i64 0,.int .i64 0] [(0,2),(2,1)]:={}
instance:TAg prog 178 false:={}
instance:TSize prog 178 1:={}
instance:TFl prog 181 0 0 178:={}
instance:TFl prog 181 1 1 4:={}
instance:TSt prog 181 [.pointer none,.bool false] [(0,1),(1,1)]:={}
instance:TEl prog 184 64:={}
instance:TEl prog 186 9:={}
instance:TEl prog 197 4:={}
instance:TAg prog 199 false:={}
instance:TSize prog 199 1:={}
instance:TZe prog 199 [.nilFunc]:={}
instance:TAg prog 209 false:={}
instance:TSize prog 209 1:={}
instance:TZe prog 209 [.pointer none]:={}
instance:TAg prog 214 false:={}
instance:TSize prog 214 1:={}
instance:TZe prog 214 [.slice none 0 0]:={}
instance:TEl prog 214 32:={}
instance:TRo prog 214 32 2 16:={}
instance:TAg prog 215 false:={}
instance:TSize prog 215 1:={}
instance:TFl prog 217 0 0 214:={}
instance:TFl prog 217 1 1 22:={}
instance:TFl prog 217 2 2 215:={}
instance:TSt prog 217 [.slice none 0 0,.slice none 0 0,.map none] [(0,1),(1,1),(2,1)]:={}
instance:TAg prog 225 true:={}
instance:TSize prog 225 2:={}
instance:TZe prog 225 [.int .i64 0,.int .i64 0]:={}
instance:TFl prog 225 0 0 3:={}
instance:TFl prog 225 1 1 3:={}
instance:TSt prog 225 [.int .i64 0,.int .i64 0] [(0,1),(1,1)]:={}
instance:TAg prog 227 true:={}
instance:TSize prog 227 4:={}
instance:TZe prog 227 [.bool false,.int .i64 0,.int .i64 0,.int .i64 0]:={}
instance:TFl prog 227 0 0 4:={}
instance:TFl prog 227 1 1 3:={}
instance:TFl prog 227 2 2 225:={}
instance:TSt prog 227 [.bool false,.int .i64 0,.int .i64 0,.int .i64 0] [(0,1),(1,1),(2,2)]:={}
instance:TAg prog 229 true:={}
instance:TSize prog 229 11:={}
instance:TZe prog 229 [.int .i64 0,.int .i64 0,.int .i64 0,.bool false,.int .i64 0,.int .i64 0,.int .i64 0,.bool false,.int .i64 0,.int .i64 0,.int .i64 0]:={}
instance:TFl prog 229 0 0 3:={}
instance:TFl prog 229 1 1 225:={}
instance:TFl prog 229 2 3 227:={}
instance:TFl prog 229 3 7 227:={}
instance:TSt prog 229 [.int .i64 0,.int .i64 0,.int .i64 0,.bool false,.int .i64 0,.int .i64 0,.int .i64 0,.bool false,.int .i64 0,.int .i64 0,.int .i64 0] [(0,1),(1,2),(3,4),(7,4)]:={}
instance:TAg prog 231 false:={}
instance:TSize prog 231 1:={}
instance:TZe prog 231 [.pointer none]:={}
instance:TAg prog 233 true:={}
instance:TSize prog 233 2:={}
instance:TZe prog 233 [.int .u64 0,.int .u64 0]:={}
instance:TFl prog 233 0 0 72:={}
instance:TFl prog 233 1 1 72:={}
instance:TSt prog 233 [.int .u64 0,.int .u64 0] [(0,1),(1,1)]:={}
instance:TFl prog 235 0 0 23:={}
instance:TFl prog 235 1 1 132:={}
instance:TFl prog 235 2 8 83:={}
instance:TFl prog 235 3 11 233:={}
instance:TFl prog 235 4 13 139:={}
instance:TFl prog 235 5 14 51:={}
instance:TFl prog 235 6 15 3:={}
instance:TSt prog 235 [.slice none 0 0,.string ByteArray.empty,.slice none 0 0,.slice none 0 0,.slice none 0 0,.slice none 0 0,.slice none 0 0,.slice none 0 0,.int .i64 0,.int .i64 0,.slice none 0 0,.int .u64 0,.int .u64 0,.slice none 0 0,.slice none 0 0,.int .i64 0] [(0,1),(1,7),(8,3),(11,2),(13,1),(14,1),(15,1)]:={}
instance:TFl prog 259 0 0 67:={}
instance:TFl prog 259 1 1 3:={}
instance:TSt prog 259 [.slice none 0 0,.int .i64 0] [(0,1),(1,1)]:={}
instance:TAg prog 274 false:={}
instance:TSize prog 274 1:={}
instance:TEl prog 274 22:={}
instance:TRo prog 274 22 1 24:={}
instance:TFl prog 276 0 0 274:={}
instance:TFl prog 276 1 1 22:={}
instance:TFl prog 276 2 2 215:={}
instance:TSt prog 276 [.slice none 0 0,.slice none 0 0,.map none] [(0,1),(1,1),(2,1)]:={}
instance:TAg prog 293 false:={}
instance:TSize prog 293 1:={}
instance:TZe prog 293 [.slice none 0 0]:={}
instance:TEl prog 293 296:={}
instance:TRo prog 293 296 4 48:={}
instance:TAg prog 296 true:={}
instance:TSize prog 296 4:={}
instance:TZe prog 296 [.int .i64 0,.int .i64 0,.int .i64 0,.slice none 0 0]:={}
instance:TFl prog 296 0 0 3:={}
instance:TFl prog 296 1 1 83:={}
instance:TSt prog 296 [.int .i64 0,.int .i64 0,.int .i64 0,.slice none 0 0] [(0,1),(1,3)]:={}
instance:TAg prog 303 true:={}
instance:TSize prog 303 5:={}
instance:TZe prog 303 [.int .i64 0,.int .i64 0,.int .i64 0,.int .i64 0,.slice none 0 0]:={}
instance:TFl prog 303 0 0 3:={}
instance:TFl prog 303 1 1 32:={}
instance:TFl prog 303 2 3 3:={}
instance:TFl prog 303 3 4 80:={}
instance:TSt prog 303 [.int .i64 0,.int .i64 0,.int .i64 0,.int .i64 0,.slice none 0 0] [(0,1),(1,2),(3,1),(4,1)]:={}
instance:TAg prog 331 false:={}
instance:TSize prog 331 1:={}
instance:TZe prog 331 [.int .u64 0]:={}
instance:TEl prog 338 227:={}
abbrev iA(n:Int):AV:=.prim (.int .i64 n)
abbrev bA(b:Bool):AV:=.prim (.bool b)
abbrev sA(l:List UInt8):AV:=.prim (Fx l)
def fieldA(f:Field):AV:=.agg [sA f.name,iA f.bits,iA f.low]
abbrev GT(o:Bool)(l:List Field):AV:=.lst o 92 3 (l.map fieldA)
def Bd(o:Bool)(k:Kind):AV:=.agg [sA k.name,GT o k.fields]
abbrev BZ(o o':Bool)(l:List Kind):AV:=.lst o 90 2 (l.map (Bd o'))
abbrev Av(o:Bool)(l:List Int):AV:=.lst o 3 1 (l.map iA)
instance {f:Field}:Frz (fieldA f) (fieldA f):=⟨rfl⟩
instance {o:Bool}{k:Kind}:Frz (Bd o k) (Bd false k):=⟨by unfold Bd;exact Frz.h⟩
def Ae(o:Bool)(c:Comp):AV:=.agg [iA c.kind,Av o c.vals]
abbrev B3(o o':Bool)(l:List Comp):AV:=.lst o 42 2 (l.map (Ae o'))
def AQ(o:Bool)(x:Item):AV:=.agg [iA x.ent.n,iA x.ent.gen,B3 o o x.comps]
abbrev Km(o o':Bool)(l:List Item):AV:=.lst o 83 3 (l.map (AQ o'))
def wdA(o:Bool)(w:Wd):AV:=.agg [BZ o o w.kinds,Av o w.gens,Km o o w.items]
def CI(e:Ent):AV:=.agg [iA e.n,iA e.gen]
def Fm(e:Evt):AV:=.agg [iA e.sys,iA e.ent.n,iA e.ent.gen,iA e.val]
instance {e:Ent}:Frz (CI e) (CI e):=⟨rfl⟩
instance {e:Evt}:Frz (Fm e) (Fm e):=⟨rfl⟩
instance {o:Bool}{k:Comp}:Frz (Ae o k) (Ae false k):=⟨by unfold Ae;exact Frz.h⟩
instance {o:Bool}{k:Item}:Frz (AQ o k) (AQ false k):=⟨by unfold AQ;exact Frz.h⟩
instance {o:Bool}{k:Wd}:Frz (wdA o k) (wdA false k):=⟨by unfold wdA;exact Frz.h⟩
theorem Hm(f:α->AV)(h:∀a,(f a).frz=f a)(l:List α):AV.frzs (l.map f)=l.map f:=by
 rw[H9,Ch];exact EF λa _=>h a
theorem aa(o:Bool)(l:List Int):(Av o l).frz=Av false l:=by
 show AV.lst false _ _ (AV.frzs (l.map iA))=_
 rw[Hm _ λ_=>rfl]
theorem Xd(a b c d:Int)(w:World):(binOp .eql 32 (.agg #[.int .i64 a,.int .i64 b]) (.agg #[.int .i64 c,.int .i64 d])).run prog w= .ok (.bool (decide (a=c)&&decide (b=d))) w:=
 gi (by kernel_rfl) (by kernel_rfl) (by kernel_rfl) a b c d w
def SI(a b:Ent):Bool:=decide (a.n=b.n)&&decide (a.gen=b.gen)
theorem SH(a b:Ent):SI a b=decide (a=b):=by
 obtain⟨n,g⟩:=a;obtain⟨n',g'⟩:=b;rw[HY];simp[SI]
def Bn(l:List Int)(n:Int):Int:=if n<1 then 0 else match l with|[]=>0|x::_=>x%n
def BS(l:List Int)(n:Int):List Int:=if n<1 then l else l.tail
theorem BY(l:List Int)(h:1<=n):0<=Bn l n/\Bn l n<n:=by
 unfold Bn;rw[AI (by omega)];split
 ·omega
 ·rename_i x _
  exact⟨Int.emod_nonneg x (by omega),Int.emod_lt_of_pos x (by omega)⟩
def HL(k:Nat):List UInt8:=match k with
 |0=>[115,112,111,116]
 |1=>[108,105,102,101]
 |2=>[116,101,97,109]
 |_=>[103,111,97,108]
def E4(k:Nat):List UInt8:=match k with
 |0=>[120]
 |1=>[121]
 |_=>[122]
def Ep(i:Nat)(l:List Int):Field×List Int:=
 if Bn (BS (BS l 9) 40) 8=7 then(⟨E4 i,32,-2147483648⟩,BS (BS (BS l 9) 40) 8)
 else(⟨E4 i,1+Bn l 9,Bn (BS l 9) 40-30⟩,BS (BS (BS l 9) 40) 8)
def DI:Nat->Nat->List Int->List Field×List Int
 |_,0,l=>([],l)
 |i,c+1,l=>((Ep i l).1::(DI (i+1) c (Ep i l).2).1,(DI (i+1) c (Ep i l).2).2)
def GR(k:Nat)(l:List Int):Kind×List Int:=
 (⟨HL k,(DI 0 (1+Bn l 3).toNat (BS l 3)).1⟩,(DI 0 (1+Bn l 3).toNat (BS l 3)).2)
def Cb:Nat->Nat->List Int->List Kind×List Int
 |_,0,l=>([],l)
 |k,c+1,l=>((GR k l).1::(Cb (k+1) c (GR k l).2).1,(Cb (k+1) c (GR k l).2).2)
def By(l:List Int):List Kind×List Int:=Cb 0 (1+Bn l 4).toNat (BS l 4)
theorem d5(x n:Int)(hn:1<=n)(h2:n<=4611686018427387904):PS prog 50 [iA x,iA n] (iA (x%n)):=by
 refine Sp (nt:=14) (res:=[.tmp 4]) func50 λSf=>?_
 have h3:x.tmod n<n:=Int.tmod_lt_of_pos _ (by omega)
 have h4: -n<x.tmod n:=by
  have:=Int.lt_tmod_of_pos x (b:=n) (by omega);exact this
 have h5:x.tmod n=x%n\/x.tmod n+n=x%n/\x.tmod n<0:=by
  rw[Int.tmod_eq_emod];split
  ·exact .inl (by simp)
  ·have:=Int.emod_nonneg x (b:=n) (by omega)
   have:=Int.emod_lt_of_pos x (b:=n) (by omega);refine .inr ?_;have:((n.natAbs:Nat):Int)=n:=by omega
   omega
 have h6:=Int.emod_nonneg x (b:=n) (by omega)
 (iterate 8 refine WK ?_);refine AOps.p (W.rem rfl rfl (by omega)) rfl ?_;refine KK ?_
 refine AC rfl (λhb=>?_) (λhb=>?_)
 ·have hb:x.tmod n<0:=by simpa using hb
  refine JC ?_;exact CU rfl rfl (by exact BL) ⟨by rw[show x.tmod n+n=x%n from by omega],rfl⟩
 ·have hb:¬x.tmod n<0:=by simpa using hb
  refine JC ?_;exact CU rfl rfl (by exact BL) ⟨by rw[show x.tmod n=x%n from by omega],rfl⟩
abbrev DM(l:List Int):AO:=.row 77 1 [.agg [Av false l]]
theorem ES(X:Nat)(l:List Int)(n:Int)(h2:n<=4611686018427387904):PO prog 33 [.ptr X 0 0,iA n] X (DM l) (iA (Bn l n)) (DM (BS l n)):=by
 refine Sp (nt:=33) (res:=[.tmp 4]) func33 λSf=>?_
 refine KK ?_;refine AC rfl (λhb=>?_) (λhb=>?_)
 ·refine KK ?_
  refine RT ?_;have hb:l.length=0\/n<1:=by simp only[CE,AS,AD]at hb;omega
  have e1:Bn l n=0:=by
   unfold Bn;split
   ·rfl
   ·rcases hb with hb|hb
    ·rw[Oz.1 hb]
    ·omega
  have e2:BS l n=l:=by
   unfold BS;split
   ·rfl
   ·rcases hb with hb|hb
    ·rw[Oz.1 hb];rfl
    ·omega
  rw[e1,e2];exact Lm rfl rfl (by exact BL) ⟨rfl,rfl⟩
 ·have hb:l.length≠0/\1<=n:=by simp only[DG,AZ,AD]at hb;omega
  obtain⟨hb,hn⟩:=hb;cases l with
  |nil=>exact absurd rfl hb
  |cons x l=>
  (repeat first|(refine Bm ?_;first|refine AOps.p (W.idxL rfl rfl (a:=0) rfl rfl) rfl ?_|refine AOps.p (W.loL rfl rfl (a:=1) rfl (by simp)) rfl ?_|refine AOps.p (W.call2 rfl rfl (d5 _ _ hn h2) rfl) rfl ?_)|refine WK ?_|refine Ai λX=>?_|refine Ay λY=>?_);refine RT ?_;rw[show Bn (x::l) n=x%n from by unfold Bn;rw[AI (by omega)],show BS (x::l) n=l from by unfold BS;rw[AI (by omega)];rfl];exact Lm (S':=[(X,DM l)]) rfl rfl (by exact BL) ⟨rfl,rfl⟩
def fAt:Nat->List Int->List Field×List Int
 |0,l=>([],l)
 |i+1,l=>((fAt i l).1++[(Ep i (fAt i l).2).1],(Ep i (fAt i l).2).2)
def kAt:Nat->List Int->List Kind×List Int
 |0,l=>([],l)
 |i+1,l=>((kAt i l).1++[(GR i (kAt i l).2).1],(GR i (kAt i l).2).2)
theorem Ym(i:Nat)(l:List Int):(fAt i l).1.length=i:=by
 induction i with
 |zero=>rfl
 |succ i ih=>simp[fAt,ih]
theorem Ye(i:Nat)(l:List Int):(kAt i l).1.length=i:=by
 induction i with
 |zero=>rfl
 |succ i ih=>simp[kAt,ih]
theorem ge(c i:Nat)(l:List Int):((fAt i l).1++(DI i c (fAt i l).2).1,(DI i c (fAt i l).2).2)=fAt (i+c) l:=by
 induction c generalizing i with
 |zero=>simp[DI]
 |succ c ih=>
  rw[show i+(c+1)=(i+1)+c from by omega,<-ih (i+1)];simp[DI,fAt]
theorem gH(c i:Nat)(l:List Int):((kAt i l).1++(Cb i c (kAt i l).2).1,(Cb i c (kAt i l).2).2)=kAt (i+c) l:=by
 induction c generalizing i with
 |zero=>simp[Cb]
 |succ c ih=>
  rw[show i+(c+1)=(i+1)+c from by omega,<-ih (i+1)];simp[Cb,kAt]
theorem Ks(c:Nat)(l:List Int):DI 0 c l=fAt c l:=by
 have:=ge c 0 l;simpa[fAt]using this
theorem H8(l:List Int):By l=kAt (1+Bn l 4).toNat (BS l 4):=by
 have:=gH (1+Bn l 4).toNat 0 (BS l 4);simpa[kAt,By]using this
theorem aV(h:i<4):[sA [115,112,111,116],sA [108,105,102,101],sA [116,101,97,109],sA [103,111,97,108]][i]?=some (sA (HL i)):=by
 have:i=0\/i=1\/i=2\/i=3:=by omega
 rcases this with rfl|rfl|rfl|rfl<;>rfl
theorem ax(h:i<3):[sA [120],sA [121],sA [122]][i]?=some (sA (E4 i)):=by
 have:i=0\/i=1\/i=2:=by omega
 rcases this with rfl|rfl|rfl<;>rfl
theorem dE(G:Nat)(l:List Int):PO prog 32 [.ptr G 0 0] G (DM l) (BZ true false (By l).1) (DM (By l).2):=by
 refine Sp (nt:=55) (res:=[.tmp 2]) func32 λSf=>?_
 have h0:=BY l (n:=4) (by decide);refine KK ?_;refine AOps.o2 (h:=(ES G _ _ (by decide))) (k:=?_);refine KK ?_;refine AWP.adopt (d:=3) 90 2 rfl λK=>?_
 obtain⟨c,hc⟩:∃c:Nat,1+Bn l 4=c:=⟨(1+Bn l 4).toNat,by omega⟩;obtain⟨l0,hl0⟩:=nm (BS l 4);have hg:By l=kAt c l0:=by rw[H8,hl0,show(1+Bn l 4).toNat=c from by omega]
 rw[hg,hl0,hc];have hc4:1<=c/\c<=4:=by omega
 clear hg hl0 hc h0;refine FP (λ(i K:Nat) (M:List AV) (q:List Int)=>⟨[(0,.ptr G 0 0),(3,.sl K 0 i),(10,iA c),(11,iA i)],(K,.row 90 2 M)::(G,DM q)::Sf⟩) (λi _ M q=>i<=c/\M=(kAt i l0).1.map (Bd false)/\M.length=i/\q=(kAt i l0).2) (λi _ _ _=>c-i) 0 K [] l0 ⟨Ap _,rfl,rfl,rfl⟩ ?_;rintro i K M q ⟨hi,hM,hMl,hq⟩;refine KK ?_;refine AC rfl (λhb=>?_) (λhb=>?_)
 ·have h:i<c:=by rw[AS]at hb;omega
  have h4:i<4:=by omega
  have h3:=BY q (n:=3) (by decide);have hkn:=aV h4;refine KK ?_;refine Ai λY=>?_;refine KK ?_;refine AOps.o2 (h:=(ES G _ _ (by decide))) (k:=?_);refine KK ?_
  refine CM (Y:=Y) 92 3 .here (λF=>.cons (.agg (.s (.cons (.base .nil) .nil))) .nil) λF=>?_
  obtain⟨l1,hl1⟩:=nm (BS q 3);obtain⟨c1,hc1⟩:∃c1:Nat,1+Bn q 3=c1:=⟨(1+Bn q 3).toNat,by omega⟩
  have hgk:kAt (i+1) l0=((kAt i l0).1++[⟨HL i,(fAt c1 l1).1⟩],(fAt c1 l1).2):=by
   rw[kAt,<-hq,GR,Ks,show(1+Bn q 3).toNat=c1 from by omega,hl1]
  rw[hl1,hc1];have hc13:c1<=3:=by omega
  refine FP (λ(j F:Nat) (L:List AV) (r:List Int)=>⟨[(0,.ptr G 0 0),(3,.sl K 0 i),(5,.ptr Y 0 0),(10,iA c),(11,iA i),(21,iA c1),(22,iA j)],(F,.row 92 3 L)::(Y,.row 90 2 [.agg [sA (HL i),.sl F 0 j]])::(K,.row 90 2 M)::(G,DM r)::Sf⟩) (λj _ L r=>j<=c1/\L=(fAt j l1).1.map fieldA/\L.length=j/\r=(fAt j l1).2) (λj _ _ _=>c1-j) 0 F [] l1 ⟨Ap _,rfl,rfl,rfl⟩ ?_;rintro j F L r ⟨hj,hL,hLl,hr⟩;refine KK ?_;refine AC rfl (λhd=>?_) (λhd=>?_)
  ·have hj':j<c1:=by rw[AS]at hd;omega
   have h9:=BY r (n:=9) (by decide);have h40:=BY (BS r 9) (n:=40) (by decide);have hfn:=ax (i:=j) (by omega);refine KK ?_;refine CN λX7=>?_
   refine JN ?_;refine RGo.o2 (h:=(ES G _ _ (by decide))) (k:=?_);(iterate 4 refine RK ?_);refine RGo.nil (by kernel_rfl) ?_;(repeat first|(refine Bm ?_;first|(refine Bq ?_;first|refine AOps.o2 (h:=(ES G _ _ (by decide))) (k:=?_)))|refine WK ?_|refine Ai λX=>?_|refine Ay λY=>?_);refine AC rfl (λhe=>?_) (λhe=>?_)
   ·have he:Bn (BS (BS r 9) 40) 8=7:=by simpa using he
    have hg:Ep j r=(⟨E4 j,32,-2147483648⟩,BS (BS (BS r 9) 40) 8):=by rw[Ep,Ab he]
    (iterate 11 refine WK ?_);refine Dq (fieldA ⟨E4 j,32,-2147483648⟩) ?_;refine WK ?_;refine Ay λY=>?_;refine KK ?_
    refine DH (j+1) Y _ _ ⟨hj',?_,?_,?_⟩
    ·rw[fAt,<-hr,hg,hL,AK];rfl
    ·rw[AJ,hLl];rfl
    ·rw[fAt,<-hr,hg]
   ·have he:Bn (BS (BS r 9) 40) 8≠7:=by simpa using he
    have hg:Ep j r=(⟨E4 j,1+Bn r 9,Bn (BS r 9) 40-30⟩,BS (BS (BS r 9) 40) 8):=by rw[Ep,AI he]
    (iterate 6 refine WK ?_);refine Dq (fieldA ⟨E4 j,1+Bn r 9,Bn (BS r 9) 40-30⟩) ?_;refine WK ?_;refine Ay λY=>?_;refine KK ?_
    refine DH (j+1) Y _ _ ⟨hj',?_,?_,?_⟩
    ·rw[fAt,<-hr,hg,hL,AK];rfl
    ·rw[AJ,hLl];rfl
    ·rw[fAt,<-hr,hg]
  ·have hj':j=c1:=by rw[AZ]at hd;omega
   subst hj';refine FL ?_;refine D7 (X:=F) (Y:=Y) .here (.next .here) rfl (.cons (.agg (.s (.cons (.base (.sl (by omega))) .nil))) .nil) ?_
   have hF:AV.frzs ((L.drop 0).take j)=(fAt j l1).1.map fieldA:=by
    rw[B7,Aj (by omega),hL];exact Frzs.h
   rw[hF]
   (iterate 3 refine WK ?_);refine Dq (Bd false ⟨HL i,(fAt j l1).1⟩) ?_;refine WK ?_;refine Ay λY=>?_;refine KK ?_
   refine DH (i+1) Y _ _ ⟨h,?_,?_,?_⟩
   ·rw[hgk,hM,AK];rfl
   ·rw[AJ,hMl];rfl
   ·rw[hgk,hr]
 ·have h:i=c:=by rw[AZ]at hb;omega
  subst h;refine JC ?_;subst hM hq;refine⟨[.sl K 0 i],[.lst true 90 2 ((kAt i l0).1.map (Bd false))],_,[(G,DM (kAt i l0).2)],.cons (.tmp rfl) rfl .nil,.cons (.cell (.sl (p:=0) .here (by rw[AD,Ye]))) .nil,by exact BL,rfl,rfl⟩
def jC(c:UInt8):Bool:=decide (97<=c)&&decide (c<=122)
def jM(c:UInt8):Bool:=decide (48<=c)&&decide (c<=57)
def UH(l:List UInt8)(j:Nat):Bool:=jC (l.getD j 0)||(decide (0<j)&&jM (l.getD j 0))
def Dx(l:List UInt8):Bool:=decide (0<l.length)&&decide (l.length<=16)&&(List.range l.length).all (UH l)
def Bf(f:Field):Int:=if Dx f.name&&decide (1<=f.bits)&&decide (f.bits<=32)&&decide (-4294967296<=f.low)&&decide (f.low<=4294967296)then 0 else 3
def DJ:List Field->List Field->Int
 |_,[]=>0
 |pre,f::fs=>if Bf f≠0 then Bf f else if pre.any (λo=>o.name==f.name)then 5 else DJ (pre++[f]) fs
def C9(k:Kind):Int:=if Dx k.name then(if 8<k.fields.length then 2 else DJ [] k.fields)else 3
def GG(l:List Kind)(name:List UInt8):Int:=
 match l.findIdx? (λk=>k.name==name)with
 |some i=>i
 |none=>-1
def Dy:List Kind->List Kind->Int
 |_,[]=>0
 |pre,k::ks=>if C9 k≠0 then C9 k else if pre.any (λo=>o.name==k.name)then 5 else Dy (pre++[k]) ks
def Bs(l:List Kind):Int:=if 16<l.length then 2 else Dy [] l
def HM(f:Field):Int:=if Bf f=0 then f.low+(2^f.bits.toNat-1)else 0
def Cu(f:Field)(v:Int):Int:=if Bf f=0 then max f.low (min v (HM f))else 0
def DB(k:Kind)(vals:List Int):List Int×Int:=
 if C9 k≠0 then([],C9 k)else if vals.length≠k.fields.length then([],1)else(List.zipWith Cu k.fields vals,0)
def Dl(k:Kind)(vals:List Int):Bool:=decide ((DB k vals).2=0)&&decide ((DB k vals).1=vals)
theorem MS{l:List Kind}{name:List UInt8}(h:∀j (hj:j<l.length),l[j].name≠name):GG l name= -1:=by
 have:l.findIdx? (λk=>k.name==name)=none:=by
  rw[D6];intro x hx;obtain⟨j,hj,rfl⟩:=Bv hx;simpa using h j hj
 simp[GG,this]
theorem Rs{l:List Kind}{name:List UInt8}(hi:i<l.length)(e:l[i].name=name)(h:∀j (hj:j<i),(l[j]'(by omega)).name≠name):GG l name=i:=by
 have:l.findIdx? (λk=>k.name==name)=some i:=by
  rw[C7];refine⟨hi,by simpa using e,λj hj=>?_⟩;simpa using h j hj
 simp[GG,this]
theorem Tw{pre:List Kind}{k:Kind}{ks:List Kind}(h:C9 k≠0):Dy pre (k::ks)=C9 k:=by
 simp[Dy,h]
theorem QH{pre:List Kind}{k:Kind}{ks:List Kind}(h:C9 k=0)(hf:0<=GG pre k.name):Dy pre (k::ks)=5:=by
 have:pre.any (λo=>o.name==k.name)=true:=by
  rcases hc:pre.any (λo=>o.name==k.name)with _|_
  ·exfalso
   rw[CW]at hc;rw[MS (λj hj=>by simpa using hc _ (As hj))]at hf;omega
  ·rfl
 simp[Dy,h,this]
theorem Rj{pre:List Kind}{k:Kind}{ks:List Kind}(h:C9 k=0)(hf:GG pre k.name<0):Dy pre (k::ks)=Dy (pre++[k]) ks:=by
 have:pre.any (λo=>o.name==k.name)=false:=by
  rcases hc:pre.any (λo=>o.name==k.name)with _|_
  ·rfl
  ·exfalso
   rw[Gq]at hc;obtain⟨x,hx,e⟩:=hc;unfold GG at hf;split at hf
   ·omega
   ·rename_i hn
    rw[D6]at hn;exact absurd e (by simpa using hn x hx)
 simp[Dy,h,this]
theorem LV{l:List Kind}(hi:i<l.length):Dy (l.take i) (l.drop i)=Dy (l.take i) (l[i]::l.drop (i+1)):=by
 rw[Dp hi]
theorem Tu{l:List Kind}(hi:l.length<=i):Dy (l.take i) (l.drop i)=0:=by
 rw[DF hi];rfl
theorem Oj(f:Field)(h:Dx f.name=true)(hb:1<=f.bits/\f.bits<=32/\ -4294967296<=f.low/\f.low<=4294967296):Bf f=0:=by
 simp[Bf,h,hb]
theorem Vn(f:Field)(h:Dx f.name=true->¬(1<=f.bits/\f.bits<=32/\ -4294967296<=f.low/\f.low<=4294967296)):Bf f=3:=by
 unfold Bf;rw[AI];simp only[AH,AS];intro hc;exact h hc.1.1.1.1 ⟨hc.1.1.1.2,hc.1.1.2,hc.1.2,hc.2⟩
theorem GU(f:Field):Bf f=0↔Dx f.name=true/\1<=f.bits/\f.bits<=32/\ -4294967296<=f.low/\f.low<=4294967296:=by
 constructor
 ·intro h
  unfold Bf at h;split at h
  ·rename_i hc
   simpa[and_assoc]using hc
  ·simp at h
 ·rintro⟨h,hb⟩
  exact Oj f h hb
theorem Qm(f:Field):Bf f=0\/Bf f=3:=by
 unfold Bf;split<;>simp
theorem Ru{pre:List Field}{f:Field}{fs:List Field}(h:Bf f≠0):DJ pre (f::fs)=Bf f:=by
 simp[DJ,h]
theorem PD{pre:List Field}{f:Field}{fs:List Field}(h:Bf f=0){j:Nat}(hj:j<pre.length)(e:pre[j].name=f.name):DJ pre (f::fs)=5:=by
 have:pre.any (λo=>o.name==f.name)=true:=by
  rw[Gq];exact⟨pre[j],As hj,by simp[e]⟩
 simp[DJ,h,this]
theorem Qk{pre:List Field}{f:Field}{fs:List Field}(h:Bf f=0)(e:∀j (hj:j<pre.length),pre[j].name≠f.name):DJ pre (f::fs)=DJ (pre++[f]) fs:=by
 have:pre.any (λo=>o.name==f.name)=false:=by
  rw[CW];intro x hx;obtain⟨j,hj,rfl⟩:=Bv hx;simpa using e j hj
 simp[DJ,h,this]
theorem Kw{l:List Field}(hi:i<l.length):DJ (l.take i) (l.drop i)=DJ (l.take i) (l[i]::l.drop (i+1)):=by
 rw[Dp hi]
theorem Rt{l:List Field}(hi:l.length<=i):DJ (l.take i) (l.drop i)=0:=by
 rw[DF hi];rfl
theorem aL(l:List UInt8)(j:Nat)(hj:j<l.length)(h:UH l j=false):Dx l=false:=by
 have:(List.range l.length).all (UH l)=false:=by
  rw[List.all_eq_false];exact⟨j,DL.2 hj,by simp[h]⟩
 simp[Dx,this]
theorem XE(l:List UInt8)(h0:0<l.length)(h1:l.length<=16)(h:∀j,j<l.length->UH l j=true):Dx l=true:=by
 have:(List.range l.length).all (UH l)=true:=by
  rw[Cr];intro x hx;exact h x (DL.1 hx)
 simp[Dx,this,h0,h1]
theorem VJ(l:List UInt8)(h:l.length=0\/16<l.length):Dx l=false:=by
 rcases h with h|h
 ·simp[Dx,h]
 ·simp[Dx,show¬l.length<=16 from by omega]
theorem cW{b:Int}(h1:1<=b)(h2:b<=32):(2:Int)<=2^b.toNat/\(2:Int)^b.toNat<=4294967296:=by
 obtain⟨n,rfl⟩:∃n:Nat,b=n:=⟨b.toNat,by omega⟩;rw[B4];have h:n=1\/n=2\/n=3\/n=4\/n=5\/n=6\/n=7\/n=8\/n=9\/n=10\/n=11\/n=12\/n=13\/n=14\/n=15\/n=16\/n=17\/n=18\/n=19\/n=20\/n=21\/n=22\/n=23\/n=24\/n=25\/n=26\/n=27\/n=28\/n=29\/n=30\/n=31\/n=32:=by omega
 rcases h with rfl|rfl|rfl|rfl|rfl|rfl|rfl|rfl|rfl|rfl|rfl|rfl|rfl|rfl|rfl|rfl|rfl|rfl|rfl|rfl|rfl|rfl|rfl|rfl|rfl|rfl|rfl|rfl|rfl|rfl|rfl|rfl<;>decide
theorem ai{f:Field}(h:Bf f=0):HM f=f.low+(2^f.bits.toNat-1):=by simp[HM,h]
theorem Se{f:Field}(h:Bf f=0):f.low<HM f/\HM f<=8589934592:=by
 have hb:=(GU f).1 h;have:=cW hb.2.1 hb.2.2.1;rw[ai h];omega
theorem Tl(f:Field)(v:Int): -4294967296<=Cu f v/\Cu f v<=8589934592:=by
 rcases Qm f with h|h
 ·have:=Se h
  have hb:=(GU f).1 h;simp only[Cu,h,Hx];omega
 ·simp[Cu,h]
theorem Qi{pre l:List Field}(h:DJ pre l=0):∀f∈l,Bf f=0:=by
 induction l generalizing pre with
 |nil=>intro f hf;cases hf
 |cons x l ih=>
  intro f hf;simp only[DJ]at h;split at h
  ·rename_i hx;exact absurd h hx
  ·rename_i hx
   split at h
   ·simp at h
   ·rcases AP.1 hf with rfl|hf
    ·simpa using hx
    ·exact ih h f hf
theorem GB{k:Kind}(h:C9 k=0):Dx k.name=true/\k.fields.length<=8/\∀f∈k.fields,Bf f=0:=by
 unfold C9 at h;split at h
 ·rename_i h1
  split at h
  ·simp at h
  ·rename_i h2
   exact⟨h1,by omega,Qi h⟩
 ·simp at h
def d6:Kind:=⟨[108,105,102,101],[⟨[120],8,0⟩]⟩
def baseWd:Wd:=⟨[d6],[0],[⟨⟨0,0⟩,[⟨0,[9]⟩]⟩]⟩
theorem OO(a b:List Int)(hl:a.length<=1099511627776):PS prog 37 [Av false a,Av false b] (bA (decide (a=b))):=by
 refine Sp (nt:=26) (res:=[.tmp 4]) func37 λSf=>?_
 refine KK ?_;refine AC rfl (λhb=>?_) (λhb=>?_)
 ·have hb:a.length≠b.length:=by simp at hb;omega
  refine JC ?_;refine Ah ?_;rw[Au λe=>hb (by rw[e])]
 ·have hb:a.length=b.length:=by simp at hb;omega
  refine KK ?_;refine Cd (λi:Nat=>⟨[(0,Av false a),(1,Av false b),(12,iA (a.map iA).length),(13,iA i)],Sf⟩) (λi=>i<=a.length/\∀j (h:j<a.length),j<i->a[j]=b[j]'(by omega)) (λi=>a.length-i) 0 ⟨Ap _,λj h hj=>absurd hj (by omega)⟩ ?_;rintro i ⟨hi,he⟩;refine KK ?_;refine AC rfl (λhc=>?_) (λhc=>?_)
  ·have h:i<a.length:=by simpa using hc
   have h':i<b.length:=by omega
   refine KK ?_;refine RU ?_;(iterate 9 refine RK ?_);refine RGo.nil (by kernel_rfl) ?_;refine WK ?_;refine AC rfl (λhd=>?_) (λhd=>?_)
   ·have hd:a[i]≠b[i]:=by simpa using hd
    refine JC ?_;refine Ah ?_;rw[Au λe=>hd (by subst e;rfl)]
   ·have hd:a[i]=b[i]:=by simpa using hd
    refine KK ?_;refine Bb (i+1) ⟨h,λj h1 h2=>?_⟩;by_cases e:j=i
    ·subst e;exact hd
    ·exact he j h1 (by omega)
  ·have h:¬i<a.length:=by simpa using hc
   refine JC ?_;refine Ah ?_;rw[BP (EA hb λj h1 h2=>he j h1 (by omega))]
def eqF{α:Type}(p:α->α->Bool):List α->List α->Bool
 |[],[]=>true
 |x::xs,y::ys=>p x y&&eqF p xs ys
 |_,_=>false
theorem PN{p:α->α->Bool}:{a b:List α}->a.length≠b.length->eqF p a b=false
 |[],[],h=>absurd rfl h
 |[],_::_,_=>rfl
 |_::_,[],_=>rfl
 |x::xs,y::ys,h=>by rw[eqF,PN (by simpa using h),Bool.and_false]
theorem UD{p:α->α->Bool}:{a b:List α}->(hl:a.length=b.length)->{i:Nat}->(h:i<a.length)->p a[i] (b[i]'(by omega))=false->eqF p a b=false
 |[],_,_,_,h,_=>absurd h (by simp)
 |x::xs,[],hl,_,_,_=>by simp at hl
 |x::xs,y::ys,hl,0,h,hp=>by rw[eqF,show p x y=false from hp,Bool.false_and]
 |x::xs,y::ys,hl,i+1,h,hp=>by
  rw[eqF,UD (a:=xs) (b:=ys) (by simpa using hl) (i:=i) (by simpa using h) hp,Bool.and_false]
theorem PM{p:α->α->Bool}:{a b:List α}->(hl:a.length=b.length)->(∀i (h:i<a.length),p a[i] (b[i]'(by omega))=true)->eqF p a b=true
 |[],[],_,_=>rfl
 |[],_::_,hl,_=>by simp at hl
 |x::xs,[],hl,_=>by simp at hl
 |x::xs,y::ys,hl,h=>by
  rw[eqF,show p x y=true from h 0 (by simp),PM (a:=xs) (b:=ys) (by simpa using hl) λi hi=>h (i+1) (by simpa using hi)];rfl
theorem UE{p:α->α->Bool}[DecidableEq α]:{a b:List α}->(∀x∈a,∀y∈b,p x y=decide (x=y))->eqF p a b=decide (a=b)
 |[],[],_=>rfl
 |[],_::_,_=>rfl
 |_::_,[],_=>rfl
 |x::xs,y::ys,h=>by
  rw[eqF,h x (by simp) y (by simp),UE λu hu v hv=>h u (by simp[hu]) v (by simp[hv])];by_cases e:x=y<;>by_cases e2:xs=ys<;>simp[e,e2]
theorem Rx(a b:List Comp)(f:FuncId)(cap:List AV)(p:Comp->Comp->Bool)(hs:Dw cap=true)(hl:a.length<=4611686018427387904)(hf:∀x∈a,∀y∈b,PS prog f ((Ae false) x::(Ae false) y::cap) (bA (p x y))):
  PS prog 85 [.lst false 42 2 (a.map (Ae false)),.lst false 42 2 (b.map (Ae false)),.fn f cap] (bA (eqF p a b)):=by
 refine Sp (nt:=32) (res:=[.tmp 6]) func85 λSf=>?_
 refine KK ?_;refine AC rfl (λhb=>?_) (λhb=>?_)
 ·have hb:a.length≠b.length:=by simp at hb;omega
  refine JC ?_;refine Ah ?_;rw[PN hb]
 ·have hb:a.length=b.length:=by simp at hb;omega
  refine KK ?_;refine Cd (λi:Nat=>⟨[(0,.lst false 42 2 (a.map (Ae false))),(1,.lst false 42 2 (b.map (Ae false))),(2,.fn f cap),(15,.lst false 42 2 (a.map (Ae false))),(16,iA (a.map (Ae false)).length),(17,iA i)],Sf⟩) (λi=>i<=a.length/\∀j (h:j<a.length),j<i->p a[j] (b[j]'(by omega))=true) (λi=>a.length-i) 0 ⟨Ap _,λj h hj=>absurd hj (by omega)⟩ ?_;rintro i ⟨hi,he⟩;refine KK ?_;refine AC rfl (λhc=>?_) (λhc=>?_)
  ·have h:i<a.length:=by simpa using hc
   have h':i<b.length:=by omega
   refine KK ?_;refine Ai λX=>?_;refine KK ?_;refine Ai λX=>?_;refine KK ?_;refine Nu (h:=(hf _ (As h) _ (As h'))) (k:=?_);refine KK ?_
   refine AC rfl (λhd=>?_) (λhd=>?_)
   ·have hd:p a[i] b[i]=false:=by simpa using hd
    refine JC ?_;refine Ah ?_;rw[UD hb h hd]
   ·have hd:p a[i] b[i]=true:=by simpa using hd
    refine KK ?_;refine Bb (i+1) ⟨h,λj h1 h2=>?_⟩;by_cases e:j=i
    ·subst e;exact hd
    ·exact he j h1 (by omega)
  ·have h:¬i<a.length:=by simpa using hc
   refine JC ?_;refine Ah ?_;rw[PM hb λj hj=>he j hj (by omega)]
theorem Rv(a b:List Item)(f:FuncId)(cap:List AV)(p:Item->Item->Bool)(hs:Dw cap=true)(hl:a.length<=4611686018427387904)(hf:∀x∈a,∀y∈b,PS prog f ((AQ false) x::(AQ false) y::cap) (bA (p x y))):
  PS prog 83 [.lst false 83 3 (a.map (AQ false)),.lst false 83 3 (b.map (AQ false)),.fn f cap] (bA (eqF p a b)):=by
 refine Sp (nt:=32) (res:=[.tmp 6]) func83 λSf=>?_
 refine KK ?_;refine AC rfl (λhb=>?_) (λhb=>?_)
 ·have hb:a.length≠b.length:=by simp at hb;omega
  refine JC ?_;refine Ah ?_;rw[PN hb]
 ·have hb:a.length=b.length:=by simp at hb;omega
  refine KK ?_;refine Cd (λi:Nat=>⟨[(0,.lst false 83 3 (a.map (AQ false))),(1,.lst false 83 3 (b.map (AQ false))),(2,.fn f cap),(15,.lst false 83 3 (a.map (AQ false))),(16,iA (a.map (AQ false)).length),(17,iA i)],Sf⟩) (λi=>i<=a.length/\∀j (h:j<a.length),j<i->p a[j] (b[j]'(by omega))=true) (λi=>a.length-i) 0 ⟨Ap _,λj h hj=>absurd hj (by omega)⟩ ?_;rintro i ⟨hi,he⟩;refine KK ?_;refine AC rfl (λhc=>?_) (λhc=>?_)
  ·have h:i<a.length:=by simpa using hc
   have h':i<b.length:=by omega
   refine KK ?_;refine Ai λX=>?_;refine KK ?_;refine Ai λX=>?_;refine KK ?_;refine Nu (h:=(hf _ (As h) _ (As h'))) (k:=?_);refine KK ?_
   refine AC rfl (λhd=>?_) (λhd=>?_)
   ·have hd:p a[i] b[i]=false:=by simpa using hd
    refine JC ?_;refine Ah ?_;rw[UD hb h hd]
   ·have hd:p a[i] b[i]=true:=by simpa using hd
    refine KK ?_;refine Bb (i+1) ⟨h,λj h1 h2=>?_⟩;by_cases e:j=i
    ·subst e;exact hd
    ·exact he j h1 (by omega)
  ·have h:¬i<a.length:=by simpa using hc
   refine JC ?_;refine Ah ?_;rw[PM hb λj hj=>he j hj (by omega)]
theorem dg(f g:Field)(w:World):(binOp .neq 92 (.agg [Fx f.name,.int .i64 f.bits,.int .i64 f.low].toArray) (.agg [Fx g.name,.int .i64 g.bits,.int .i64 g.low].toArray)).run prog w= .ok (.bool (decide (f≠g))) w:=by
 have h:=di (P:=prog) (t:=92) (by kernel_rfl) (by kernel_rfl) (by kernel_rfl) ⟨f.name.toArray⟩ ⟨g.name.toArray⟩ f.bits f.low g.bits g.low w;rw[run_neq_struct];have e:(Op.equalIn 10000 92 (.agg [Fx f.name,.int .i64 f.bits,.int .i64 f.low].toArray) (.agg [Fx g.name,.int .i64 g.bits,.int .i64 g.low].toArray)).run prog w=_:=h;rw[e,AA,Lr,Lr]
 have hd:(!(decide (f.name=g.name)&&decide (f.bits=g.bits)&&decide (f.low=g.low)))=decide (f≠g):=by
  obtain⟨n,b,l⟩:=f;obtain⟨n',b',l'⟩:=g;rw[HY];simp[or_assoc]
 rw[hd]
def KsL(ks:List Kind):Prop:=ks.length<=1099511627776/\∀k∈ks,k.fields.length<=1099511627776
def CsL(cs:List Comp):Prop:=cs.length<=1099511627776/\∀c∈cs,c.vals.length<=1099511627776
def ItL(l:List Item):Prop:=l.length<=1099511627776/\∀it∈l,CsL it.comps
structure WdL(w:Wd):Prop where
 ks:KsL w.kinds
 gens:w.gens.length<=1099511627776
 items:ItL w.items
theorem jO(x y:Comp):(decide (x.kind=y.kind)&&decide (x.vals=y.vals))=decide (x=y):=by
 obtain⟨k,v⟩:=x;obtain⟨k',v'⟩:=y;rw[HY];simp
theorem jG(x y:Item):(SI x.ent y.ent&&decide (x.comps=y.comps))=decide (x=y):=by
 rw[SH];obtain⟨k,v⟩:=x;obtain⟨k',v'⟩:=y;rw[HY];simp
theorem kc(x y:Wd):(decide (x.kinds=y.kinds)&&decide (x.gens=y.gens)&&decide (x.items=y.items))=decide (x=y):=by
 obtain⟨k,v,u⟩:=x;obtain⟨k',v',u'⟩:=y;rw[HY];simp[and_assoc]
def LK(l:List Item)(n:Int):Bool:=l.any λit=>decide (it.ent.n=n)
def Sh(w:Wd):Option Nat:=(List.range w.gens.length).find? λn=>!LK w.items n&&decide (w.gens.getD n 0<1073741824)
def DS(w:Wd):Nat×Bool:=match Sh w with
 |some n=>(n,true)
 |none=>(w.gens.length,decide ((w.gens.length:Int)<256))
theorem Vz(s:List UInt8)(i:Nat):UH s i=(decide ((97:Int)<=(s.getD i 0).toNat)&&decide (((s.getD i 0).toNat:Int)<=122)||decide ((0:Int)<i)&&decide ((48:Int)<=(s.getD i 0).toNat)&&decide (((s.getD i 0).toNat:Int)<=57)):=by
 have h:∀a b:UInt8,decide (a<=b)=decide ((a.toNat:Int)<=b.toNat):=λa b=>by simp[UInt8.le_iff_toNat_le]
 have h0:decide (0<i)=decide ((0:Int)<i):=by simp
 simp only[UH,jC,jM,h,h0,Bool.and_assoc];rfl
theorem Tp(s:List UInt8):PS prog 184 [sA s] (bA (Dx s)):=by
 refine Sp (nt:=41) (res:=[.tmp 2]) func184 λSf=>?_
 refine KK ?_;refine AC rfl (λhb=>?_) (λhb=>?_)
 ·refine KK ?_
  refine RT ?_;refine CU rfl rfl (by exact BL) ⟨?_,rfl⟩;rw[VJ s (by simp only[CE,AS]at hb;omega)]
 have hb1:s.length≠0/\s.length<=16:=by simp only[DG,AZ]at hb;omega
 (iterate 9 refine WK ?_);refine EU (λi:Nat=>⟨[(0,sA s),(14,iA s.length),(15,iA i)],Sf⟩) (λi=>i<=s.length/\∀j,j<i->UH s j=true) (λi=>s.length-i) 0 ⟨by omega,by omega⟩ ⟨.cons rfl (.cons rfl (.cons rfl .nil)),DY _⟩ ?_
 rintro i ⟨hi,hn⟩;refine KK ?_;refine AC rfl (λhb=>?_) (λhb=>?_)
 ·have h:i<s.length:=by simpa using hb
  (iterate 12 refine WK ?_);refine AOps.p (W.idxStr rfl rfl rfl h) rfl ?_;refine KK ?_
  refine AC rfl (λhc=>?_) (λhc=>?_)
  ·refine KK ?_
   refine RT ?_;refine CU rfl rfl (by exact BL) ⟨?_,rfl⟩;rw[<-Vz]at hc;rw[aL s i h (by simpa using hc)]
  ·refine KK ?_
   refine⟨i+1,⟨by omega,λj hj=>?_⟩,by omega,.cons rfl (.cons rfl (.cons rfl .nil)),by exact BL⟩;rw[<-Vz]at hc;by_cases e:j=i
   ·subst e;simpa using hc
   ·exact hn j (by omega)
 ·have h:¬i<s.length:=by simpa using hb
  refine JC ?_;refine CU rfl rfl (by exact BL) ⟨?_,rfl⟩;rw[XE s (by omega) hb1.2 λj hj=>hn j (by omega)]
theorem Ql(f:Field):PS prog 219 [fieldA f] (iA (Bf f)):=by
 refine Sp (nt:=27) (res:=[.tmp 2]) func219 λSf=>?_
 refine KK ?_;refine Ai λX=>?_;(iterate 7 refine WK ?_);refine AOps.p (W.call1 rfl (Tp _) rfl) rfl ?_;refine KK ?_
 refine AC rfl (λhb=>?_) (λhb=>?_)
 ·refine KK ?_
  refine RT ?_;refine CU rfl rfl (by exact BL) ⟨?_,rfl⟩;rw[Vn f λhn hk=>?_];simp only[hn,JX,Bool.false_or,CE,AS]at hb;omega
 ·refine KK ?_
  refine RT ?_;refine CU rfl rfl (by exact BL) ⟨?_,rfl⟩;simp only[DG,Bool.not_eq_false',AZ]at hb;rw[Oj f hb.1.1.1.1 (by omega)]
theorem gP(f:Field):PS prog 220 [fieldA f] (iA (HM f)):=by
 refine Sp (nt:=13) (res:=[.tmp 2]) func220 λSf=>?_
 refine KK ?_;refine Ai λX=>?_;(iterate 6 refine WK ?_);refine AOps.p (W.call1 rfl (Ql _) rfl) rfl ?_;refine KK ?_
 refine AC rfl (λhb=>?_) (λhb=>?_)
 ·have hb:Bf f≠0:=by simpa using hb
  refine JC ?_;refine CU rfl rfl (by exact BL) ⟨?_,rfl⟩;simp[HM,hb]
 have hb:Bf f=0:=by simpa using hb
 have h1:=(GU f).1 hb;obtain⟨n,hn⟩:∃n:Nat,f.bits=n:=⟨f.bits.toNat,by omega⟩
 have hp:(2:Int)^n<=4294967296/\1<=(2:Int)^n:=by
  have hn2:n<=32:=by omega
  clear hn;have:∀n,n<=32->(2:Int)^n<=4294967296/\1<=(2:Int)^n:=by decide
  exact this n hn2
 have hw:IntKind.i64.wrap (1*2^n)=2^n:=by rw[Int.one_mul];exact GN (by omega) (by omega)
 refine KK ?_;refine RU ?_;(iterate 4 refine RK ?_);refine RGo.p (W.shl rfl rfl hn (by show n<=64;omega)) rfl ?_;refine RGo.p (W.sub rfl rfl (by rw[hw];omega)) rfl ?_;refine RGo.p (W.add rfl rfl (by rw[hw];omega)) rfl ?_;refine RK ?_;refine RGo.nil (by kernel_rfl) ?_;refine WK ?_;refine RT ?_;refine CU rfl rfl (by exact BL) ⟨?_,rfl⟩;simp only[hw];simp[HM,hb,hn]
theorem YV(f:Field)(v:Int):PS prog 167 [fieldA f,iA v] (iA (Cu f v)):=by
 refine Sp (nt:=15) (res:=[.tmp 4]) func167 λSf=>?_
 refine KK ?_;refine Ai λX=>?_;(iterate 6 refine WK ?_);refine AOps.p (W.call1 rfl (Ql _) rfl) rfl ?_;refine KK ?_
 refine AC rfl (λhb=>?_) (λhb=>?_)
 ·have hb:Bf f≠0:=by simpa using hb
  refine JC ?_;refine CU rfl rfl (by exact BL) ⟨?_,rfl⟩;simp[Cu,hb]
 have hb:Bf f=0:=by simpa using hb
 refine KK ?_;refine RU ?_;(iterate 4 refine RK ?_);refine RGo.p (W.call1 rfl (gP _) rfl) rfl ?_;(iterate 3 refine RK ?_);refine RGo.nil (by kernel_rfl) ?_;refine WK ?_;refine RT ?_;refine CU rfl rfl (by exact BL) ⟨?_,rfl⟩;rw[show Cu f v=max f.low (min v (HM f))from by simp[Cu,hb]];simp only[Int.max_def,Int.min_def]
 congr 2
 (repeat' split)<;>omega
theorem cg(k:Kind):PS prog 163 [Bd false k] (iA (C9 k)):=by
 refine Sp (nt:=45) (res:=[.tmp 2]) func163 λSf=>?_
 refine WK ?_;refine WK ?_;refine Fk λX1=>?_;refine DO (W.box rfl .here rfl) rfl ?_;(iterate 7 refine WK ?_);refine AOps.p (W.call1 rfl (Tp _) rfl) rfl ?_;refine KK ?_
 refine AC rfl (λhb=>?_) (λhb=>?_)
 ·refine KK ?_
  refine RT ?_;refine CU rfl rfl (by exact BL) ⟨?_,rfl⟩;have hb:Dx k.name=false:=by simpa using hb
  rw[show C9 k=3 from by simp[C9,hb]]
 have hn:Dx k.name=true:=by simpa using hb
 refine KK ?_;refine AC rfl (λhb=>?_) (λhb=>?_)
 ·refine KK ?_
  refine RT ?_;refine CU rfl rfl (by exact BL) ⟨?_,rfl⟩;have hb:8<k.fields.length:=by rw[AS,AD]at hb;omega
  rw[show C9 k=2 from by simp[C9,hn,hb]]
 have hl:k.fields.length<=8:=by rw[AZ,AD]at hb;omega
 have e1:C9 k=DJ [] k.fields:=by simp[C9,hn];omega
 (iterate 10 refine WK ?_);refine EU (λi:Nat=>⟨[(1,.ptr X1 0 0),(17,GT false k.fields),(18,iA (k.fields.map fieldA).length),(19,iA i)],(X1,.row 90 2 [Bd false k])::Sf⟩) (λi=>i<=k.fields.length/\DJ [] k.fields=DJ (k.fields.take i) (k.fields.drop i)) (λi=>k.fields.length-i) 0 ⟨by omega,rfl⟩ ⟨.cons rfl (.cons rfl (.cons rfl (.cons rfl .nil))),by exact BL⟩ ?_
 rintro i ⟨hi,he⟩;refine KK ?_;refine AC rfl (λhb=>?_) (λhb=>?_)
 ·have h:i<k.fields.length:=by simpa using hb
  (repeat first|(refine Bm ?_;first|refine AOps.p (W.idxL rfl rfl rfl (DK _ h)) rfl ?_|refine AOps.p (W.call1 rfl (Ql _) rfl) rfl ?_)|refine WK ?_|refine Ai λX=>?_|refine Ay λY=>?_);refine AC rfl (λhc=>?_) (λhc=>?_)
  ·have hc:Bf k.fields[i]≠0:=by simpa using hc
   refine JC ?_;refine CU rfl rfl (by exact BL) ⟨?_,rfl⟩;rw[e1,he,Kw h,Ru hc];rfl
  have hc:Bf k.fields[i]=0:=by simpa using hc
  have hmt:((k.fields.map fieldA).take i).length=i:=by simp;omega
  (iterate 6 refine WK ?_);refine AOps.p (W.hiL rfl rfl rfl (by simp;omega)) rfl ?_;(iterate 4 refine WK ?_);refine EU (λj:Nat=>⟨[(1,.ptr X1 0 0),(17,GT false k.fields),(18,iA (k.fields.map fieldA).length),(19,iA i),(3,iA i),(4,.ptr X 0 0),(32,.lst false 92 3 ((k.fields.map fieldA).take i)),(33,iA ((k.fields.map fieldA).take i).length),(34,iA j)],(X,.row 92 3 [fieldA k.fields[i]])::(X1,.row 90 2 [Bd false k])::Sf⟩) (λj=>j<=i/\∀q (hq:q<k.fields.length),q<j->k.fields[q].name≠k.fields[i].name) (λj=>i-j) 0 ⟨by omega,by omega⟩ ⟨.cons rfl (.cons rfl (.cons rfl (.cons rfl (.cons rfl (.cons rfl (.cons rfl (.cons rfl (.cons rfl .nil)))))))),by exact BL⟩ ?_
  rintro j ⟨hj,hne⟩;refine KK ?_;refine AC rfl (λhd=>?_) (λhd=>?_)
  ·have hd:j<i:=by rw[hmt]at hd;simpa using hd
   have hat:((k.fields.map fieldA).take i)[j]?=some (fieldA (k.fields[j]'(by omega))):=by rw[Nw hd];exact DK _ _
   (iterate 5 refine WK ?_);refine AOps.p (W.idxL rfl rfl rfl hat) rfl ?_;refine KK ?_;refine Ai λX=>?_;refine KK ?_
   refine AC rfl (λhq=>?_) (λhq=>?_)
   ·have hq:(k.fields[j]'(by omega)).name=k.fields[i].name:=by simpa using hq
    refine JC ?_;refine CU rfl rfl (by exact BL) ⟨?_,rfl⟩;rw[e1,he,Kw h,PD hc (j:=j) (by simp;omega) (by simpa using hq)]
   ·have hq:(k.fields[j]'(by omega)).name≠k.fields[i].name:=by simpa using hq
    refine KK ?_;refine⟨j+1,⟨by omega,λq hq1 hq2=>?_⟩,by omega,.cons rfl (.cons rfl (.cons rfl (.cons rfl (.cons rfl (.cons rfl (.cons rfl (.cons rfl (.cons rfl .nil)))))))),by exact BL⟩;by_cases e:q=j
    ·subst e;exact hq
    ·exact hne q hq1 (by omega)
  ·have hd:¬j<i:=by rw[hmt]at hd;simpa using hd
   refine KK ?_;refine⟨i+1,⟨by omega,?_⟩,by omega,.cons rfl (.cons rfl (.cons rfl (.cons rfl .nil))),by exact BL⟩;rw[he,Kw h,Qk hc λq hq=>?_,EJ,AX h]
   ·rfl
   ·simp only[List.getElem_take]
    exact hne q (by simp at hq;omega) (by simp at hq;omega)
 ·have h:¬i<k.fields.length:=by simpa using hb
  refine JC ?_;refine CU rfl rfl (by exact BL) ⟨?_,rfl⟩;rw[e1,he,Rt (by omega)]
theorem Mi{k:Kind}(h:C9 k=0):k.fields.length<=8:=by
 unfold C9 at h;split at h
 ·split at h
  ·cases h
  ·omega
 ·cases h
def OJ(k:Kind)(vals:List Int)(i:Nat):List Int:=(List.zipWith Cu k.fields vals).take i++List.replicate (vals.length-i) 0
theorem gX{k:Kind}(hl:vals.length=k.fields.length)(h:i<vals.length):((OJ k vals i).map iA)[i]?=some (iA 0):=by
 have hz:(List.zipWith Cu k.fields vals).length=vals.length:=by simp;omega
 rw[Ac,OJ,BX (by simp;omega)];rw[Ba,B6 (by omega),Co,JS,Ab (by omega)];rfl
theorem dc{k:Kind}(hl:vals.length=k.fields.length)(h:i<vals.length):((OJ k vals i).map iA).set i (iA (Cu (k.fields[i]'(by omega)) vals[i]))=(OJ k vals (i+1)).map iA:=by
 have hz:(List.zipWith Cu k.fields vals).length=vals.length:=by simp;omega
 rw[<-BK]
 congr 1
 unfold OJ;rw[Fv _ _ (by simp;omega),Ba,B6 (by omega),Co];rw[show vals.length-i=(vals.length-(i+1))+1 from by omega,IN,HE];rw[EJ,AX (by omega),Aq];simp
theorem XW(k:Kind)(vals:List Int):PS prog 107 [Bd false k,Av false vals] (.tup [Av true (DB k vals).1,iA (DB k vals).2]):=by
 refine Sp (nt:=43) (res:=[.tmp 4,.tmp 5]) func107 λSf=>?_
 refine WK ?_;refine WK ?_;refine Fk λB=>?_;refine DO (W.box rfl .here rfl) rfl ?_;(iterate 7 refine WK ?_);refine AOps.p (W.call1 rfl (cg _) rfl) rfl ?_;refine KK ?_
 refine AC rfl (λhb=>?_) (λhb=>?_)
 ·have hb:C9 k≠0:=by simpa using hb
  refine JC ?_;rw[show DB k vals=([],C9 k)from by simp[DB,hb]];exact⟨[.prim (.slice none 0 0),iA (C9 k)],[Av true [],iA (C9 k)],_,[],.cons (.tmp rfl) rfl (.cons (.tmp rfl) rfl .nil),.cons (.cell .nil) (.cons (.cell .same) .nil),by exact BL,rfl,rfl⟩
 have hk:C9 k=0:=by simpa using hb
 have h8:=Mi hk;refine KK ?_;refine AC rfl (λhb=>?_) (λhb=>?_)
 ·have hb:vals.length≠k.fields.length:=by rw[AS,AD,AD]at hb;omega
  refine JC ?_;rw[show DB k vals=([],1)from by simp[DB,hk,hb]];exact⟨[.prim (.slice none 0 0),iA 1],[Av true [],iA 1],_,[],.cons (.tmp rfl) rfl (.cons (.tmp rfl) rfl .nil),.cons (.cell .nil) (.cons (.cell .same) .nil),by exact BL,rfl,rfl⟩
 have hl:vals.length=k.fields.length:=by rw[AZ,AD,AD]at hb;omega
 have hv:(vals.map iA).length<=8:=by simp;omega
 have hz:List.replicate (vals.map iA).length (zAV [.int .i64 0] false)=(OJ k vals 0).map iA:=by simp[OJ];exact .inr rfl
 (iterate 5 refine WK ?_);refine Fk λXL=>?_;refine DO (W.make rfl rfl .here rfl (.inr rfl) rfl rfl (AT _) (by omega) (Bh hv (by decide))) rfl ?_;(iterate 11 refine WK ?_);refine EU (λi:Nat=>⟨[(1,Av false vals),(7,.sl XL 0 (vals.map iA).length),(25,GT false k.fields),(26,iA (k.fields.map fieldA).length),(27,iA i)],(XL,.row 3 1 ((OJ k vals i).map iA))::(B,.row 90 2 [Bd false k])::Sf⟩) (λi=>i<=vals.length) (λi=>vals.length-i) 0 (Ap _) ⟨.cons rfl (.cons rfl (.cons rfl (.cons rfl (.cons rfl .nil)))),(by show List.Sublist ((XL,.row 3 1 ((OJ k vals 0).map iA))::(B,.row 90 2 [Bd false k])::Sf) _;rw[<-hz];exact BL)⟩ ?_
 rintro i hi;refine KK ?_;refine AC rfl (λhb=>?_) (λhb=>?_)
 ·have h:i<vals.length:=by rw[AS,AD]at hb;omega
  have h':i<k.fields.length:=by omega
  (iterate 6 refine WK ?_);refine AOps.p (W.idxL rfl rfl rfl (DK _ h')) rfl ?_;refine KK ?_;refine Ai λX=>?_;refine KK ?_
  refine RU ?_;(iterate 5 refine RK ?_);refine RGo.p (W.idxL rfl rfl rfl (DK _ h)) rfl ?_;refine RK ?_;refine RGo.p (W.call2 rfl rfl (YV _ _) rfl) rfl ?_;refine RGo.p (W.idx rfl rfl (by exact Az) rfl (by simpa using h) (Ao _)) rfl ?_;refine RGo.s (W.store rfl rfl (by exact Az) (gX hl h) (by exact rfl)) rfl ?_;refine RGo.nil (by kernel_rfl) ?_;refine KK ?_;refine⟨i+1,by omega,by omega,.cons rfl (.cons rfl (.cons rfl (.cons rfl (.cons rfl .nil)))),?_⟩;show List.Sublist ((XL,.row 3 1 ((OJ k vals (i+1)).map iA))::(B,.row 90 2 [Bd false k])::Sf) _
  rw[<-dc hl h];exact BL
 ·have h:¬i<vals.length:=by rw[AZ,AD]at hb;omega
  refine JC ?_;rw[show DB k vals=(List.zipWith Cu k.fields vals,0)from by simp[DB,hk,hl]]
  have he:(OJ k vals i).map iA=(List.zipWith Cu k.fields vals).map iA:=by
   congr 1
   rw[OJ,show vals.length-i=0 from by omega,Aj (by simp;omega)];simp
  refine⟨[.sl XL 0 (vals.map iA).length,iA 0],[.lst true 3 1 ((OJ k vals i).map iA),iA 0],_,[],.cons (.tmp rfl) rfl (.cons (.tmp rfl) rfl .nil),.cons (.cell (.sl (p:=0) .here (by rw[he];simp;omega))) (.cons (.cell .same) .nil),by exact BL,?_,rfl⟩;rw[he];rfl
theorem XX{k:Kind}(h:(DB k vals).2=0):(DB k vals).1.length=vals.length/\vals.length<=8:=by
 unfold DB at h⊢;split
 ·rename_i h1;rw[Ab h1]at h;exact absurd h h1
 ·rename_i h1
  rw[AI h1]at h;split
  ·rename_i h2;rw[Ab h2]at h;cases h
  ·rename_i h2;have:=Mi (Da.1 h1);simp;omega
theorem dP(k:Kind)(vals:List Int):PS prog 165 [Bd false k,Av false vals] (bA (Dl k vals)):=by
 refine Sp (nt:=31) (res:=[.tmp 4]) func165 λSf=>?_
 have hfr:(AV.tup [Av true (DB k vals).1,iA (DB k vals).2]).frz= .tup [Av false (DB k vals).1,iA (DB k vals).2]:=by
  show AV.tup [(Av true (DB k vals).1).frz,_]=_
  rw[aa];rfl
 refine KK ?_;refine Ai λX=>?_;(iterate 6 refine WK ?_);refine AOps.p (W.callF2 rfl rfl (XW _ _) rfl hfr) rfl ?_;refine KK ?_
 refine AC rfl (λhb=>?_) (λhb=>?_)
 ·have hb:(DB k vals).2≠0:=by simpa using hb
  refine JC ?_;refine CU rfl rfl (by exact BL) ⟨?_,rfl⟩;simp[Dl,hb]
 have hb:(DB k vals).2=0:=by simpa using hb
 obtain⟨hlen,h8⟩:=XX hb;obtain⟨fl,hfl⟩:∃fl,fl=(DB k vals).1:=⟨_,rfl⟩;rw[<-hfl]at hlen;rw[show Dl k vals=decide (fl=vals)from by simp[Dl,hb,hfl]];rw[<-hfl];clear hfr
 (iterate 9 refine WK ?_);refine EU (λi:Nat=>⟨[(1,Av false vals),(5,Av false fl),(17,iA (fl.map iA).length),(18,iA i)],Sf⟩) (λi=>i<=vals.length/\∀j (h:j<vals.length),j<i->fl[j]'(by omega)=vals[j]) (λi=>vals.length-i) 0 ⟨Ap _,λj h hj=>absurd hj (by omega)⟩ ⟨.cons rfl (.cons rfl (.cons rfl (.cons rfl .nil))),by exact BL⟩ ?_
 rintro i ⟨hi,he⟩;refine KK ?_;refine AC rfl (λhc=>?_) (λhc=>?_)
 ·have h:i<fl.length:=by rw[AS,AD]at hc;omega
  have h':i<vals.length:=by omega
  refine KK ?_;refine RU ?_;refine JK ?_;refine RGo.p (W.idxL rfl rfl rfl (DK _ h)) rfl ?_;(iterate 3 refine RK ?_);refine RGo.p (W.idxL rfl rfl rfl (DK _ h')) rfl ?_;refine JK ?_;refine RGo.nil (by kernel_rfl) ?_;refine WK ?_;refine AC rfl (λhd=>?_) (λhd=>?_)
  ·have hd:fl[i]≠vals[i]:=by simpa using hd
   refine JC ?_;refine CU rfl rfl (by exact BL) ⟨?_,rfl⟩;rw[Au (λe=>hd (by subst e;rfl))]
  ·have hd:fl[i]=vals[i]:=by simpa using hd
   refine KK ?_;refine⟨i+1,⟨by omega,λj h1 h2=>?_⟩,by omega,.cons rfl (.cons rfl (.cons rfl (.cons rfl .nil))),by exact BL⟩;by_cases e:j=i
   ·subst e;exact hd
   ·exact he j h1 (by omega)
 ·have h:¬i<fl.length:=by rw[AZ,AD]at hc;omega
  refine JC ?_;refine CU rfl rfl (by exact BL) ⟨?_,rfl⟩;rw[BP (EA hlen λj h1 h2=>he j h2 (by omega))]
theorem ga(l:List Kind)(name:List UInt8)(hl:l.length<=1099511627776):PS prog 164 [BZ false false l,sA name] (iA (GG l name)):=by
 refine Sp (nt:=20) (res:=[.tmp 4]) func164 λSf=>?_
 (iterate 12 refine WK ?_);refine EU (λi:Nat=>⟨[(1,sA name),(7,BZ false false l),(8,iA (l.map (Bd false)).length),(9,iA i)],Sf⟩) (λi=>i<=l.length/\∀j (h:j<l.length),j<i->l[j].name≠name) (λi=>l.length-i) 0 ⟨by omega,by omega⟩ ⟨.cons rfl (.cons rfl (.cons rfl (.cons rfl .nil))),DY _⟩ ?_
 rintro i ⟨hi,hn⟩;refine KK ?_;refine AC rfl (λhb=>?_) (λhb=>?_)
 ·have h:i<l.length:=by simpa using hb
  (iterate 6 refine WK ?_);refine AOps.p (W.idxL rfl rfl rfl (DK _ h)) rfl ?_;refine KK ?_;refine Ai λX=>?_;refine KK ?_
  refine AC rfl (λhc=>?_) (λhc=>?_)
  ·have hc:l[i].name=name:=by simpa using hc
   refine JC ?_;refine CU rfl rfl (by exact BL) ⟨?_,rfl⟩;rw[Rs h hc λj hj=>hn j (by omega) hj]
  ·have hc:l[i].name≠name:=by simpa using hc
   refine KK ?_;refine⟨i+1,⟨by omega,λj hj hji=>?_⟩,by omega,.cons rfl (.cons rfl (.cons rfl (.cons rfl .nil))),by exact BL⟩;by_cases e:j=i
   ·subst e;exact hc
   ·exact hn j hj (by omega)
 ·have h:¬i<l.length:=by simpa using hb
  refine JC ?_;refine CU rfl rfl (by exact BL) ⟨?_,rfl⟩;rw[MS λj hj=>hn j hj (by omega)]
theorem Nh(l:List Kind):PS prog 103 [BZ false false l] (iA (Bs l)):=by
 refine Sp (nt:=29) (res:=[.tmp 2]) func103 λSf=>?_
 refine KK ?_;refine AC rfl (λhb=>?_) (λhb=>?_)
 ·refine KK ?_
  refine RT ?_;refine CU rfl rfl (by exact BL) ⟨?_,rfl⟩;have hb:16<l.length:=by rw[AS,AD]at hb;omega
  rw[show Bs l=2 from by simp[Bs,hb]]
 have hl:l.length<=16:=by rw[AZ,AD]at hb;omega
 have e1:Bs l=Dy [] l:=by simp[Bs];omega
 (iterate 9 refine WK ?_);refine EU (λi:Nat=>⟨[(0,BZ false false l),(9,BZ false false l),(10,iA (l.map (Bd false)).length),(11,iA i)],Sf⟩) (λi=>i<=l.length/\Dy [] l=Dy (l.take i) (l.drop i)) (λi=>l.length-i) 0 ⟨by omega,rfl⟩ ⟨.cons rfl (.cons rfl (.cons rfl (.cons rfl .nil))),by exact BL⟩ ?_
 rintro i ⟨hi,he⟩;refine KK ?_;refine AC rfl (λhb=>?_) (λhb=>?_)
 ·have h:i<l.length:=by simpa using hb
  (repeat first|(refine Bm ?_;first|refine AOps.p (W.idxL rfl rfl rfl (DK _ h)) rfl ?_|refine AOps.p (W.call1 rfl (cg _) rfl) rfl ?_)|refine WK ?_|refine Ai λX=>?_|refine Ay λY=>?_);refine AC rfl (λhc=>?_) (λhc=>?_)
  ·have hc:C9 l[i]≠0:=by simpa using hc
   refine JC ?_;refine CU rfl rfl (by exact BL) ⟨?_,rfl⟩;rw[e1,he,LV h,Tw hc];rfl
  have hc:C9 l[i]=0:=by simpa using hc
  have hf:PS prog 164 [.lst false 90 2 ((l.map (Bd false)).take i),sA l[i].name] (iA (GG (l.take i) l[i].name)):=by
   have:=ga (l.take i) l[i].name (by simp;omega);simpa only[BZ,D9]using this
  refine KK ?_;refine RU ?_;refine JK ?_;refine RGo.p (W.hiL rfl rfl rfl (by simp;omega)) rfl ?_;refine JK ?_;refine RGo.p (W.call2 rfl rfl hf rfl) rfl ?_;refine RK ?_;refine RGo.nil (by kernel_rfl) ?_;refine WK ?_;refine AC rfl (λhd=>?_) (λhd=>?_)
  ·have hd:0<=GG (l.take i) l[i].name:=by simpa using hd
   refine JC ?_;refine CU rfl rfl (by exact BL) ⟨?_,rfl⟩;rw[e1,he,LV h,QH hc hd]
  ·have hd:GG (l.take i) l[i].name<0:=by simpa using hd
   refine KK ?_;refine⟨i+1,⟨by omega,?_⟩,by omega,.cons rfl (.cons rfl (.cons rfl (.cons rfl .nil))),by exact BL⟩;rw[he,LV h,Rj hc hd,EJ,AX h];rfl
 ·have h:¬i<l.length:=by simpa using hb
  refine JC ?_;refine CU rfl rfl (by exact BL) ⟨?_,rfl⟩;rw[e1,he,Tu (by omega)]
def FQ(ks:List Kind):Int->List Comp->Bool
 |_,[]=>true
 |last,c::l=>match ks[c.kind.toNat]? with
  |some k=>decide (last<c.kind)&&decide (c.kind<ks.length)&&Dl k c.vals&&FQ ks c.kind l
  |none=>false
def Ce(ks:List Kind)(l:List Comp):Bool:=FQ ks (-1) l
theorem Vc{ks:List Kind}{l:List Comp}{last:Int}{k:Kind}{c:Comp}(h:i<l.length)(hc:l[i]=c)(hk:ks[c.kind.toNat]?=some k):FQ ks last (l.drop i)=(decide (last<c.kind)&&decide (c.kind<ks.length)&&Dl k c.vals&&FQ ks c.kind (l.drop (i+1))):=by
 rw[Dp h,FQ,hc,hk]
theorem Og{ks:List Kind}{l:List Comp}{last:Int}{c:Comp}(h:i<l.length)(hc:l[i]=c)(hn:c.kind<=last\/(ks.length:Int)<=c.kind):FQ ks last (l.drop i)=false:=by
 rw[Dp h,FQ,hc];split
 ·rcases hn with hn|hn
  ·rw[Au (by omega)];rfl
  ·rw[Au (p:=c.kind<_) (by omega)];simp
 ·rfl
def EM(ks:List Kind)(gens:List Int):Int->List Item->Bool
 |_,[]=>true
 |last,it::l=>match gens[it.ent.n.toNat]? with
  |some g=>decide (last<it.ent.n)&&decide (it.ent.n<gens.length)&&decide (it.ent.gen=g)&& !decide (it.ent.gen=1073741824)&&Ce ks it.comps&&EM ks gens it.ent.n l
  |none=>false
theorem Ty{ks:List Kind}{l:List Item}{last:Int}{g:Int}{it:Item}(h:i<l.length)(hc:l[i]=it)(hk:gens[it.ent.n.toNat]?=some g):EM ks gens last (l.drop i)=(decide (last<it.ent.n)&&decide (it.ent.n<gens.length)&&decide (it.ent.gen=g)&& !decide (it.ent.gen=1073741824)&&Ce ks it.comps&&EM ks gens it.ent.n (l.drop (i+1))):=by
 rw[Dp h,EM,hc,hk]
theorem NW{ks:List Kind}{l:List Item}{last:Int}{it:Item}(h:i<l.length)(hc:l[i]=it)(hn:it.ent.n<=last\/(gens.length:Int)<=it.ent.n):EM ks gens last (l.drop i)=false:=by
 rw[Dp h,EM,hc];split
 ·rcases hn with hn|hn
  ·rw[Au (by omega)];rfl
  ·rw[Au (p:=it.ent.n<_) (by omega)];simp
 ·rfl
def Mp(l:List Int):Bool:=l.all λg=>decide (0<=g)&&decide (g<=1073741824)
def E6(w:Wd):Int:=
 if Bs w.kinds≠0 then Bs w.kinds
 else if 256<w.gens.length\/w.gens.length<w.items.length then 2
 else if Mp w.gens=false then 3
 else if EM w.kinds w.gens (-1) w.items=false then 3 else 0
theorem gR(ks:List Kind)(l:List Comp)(hl:l.length<=1099511627776):PS prog 104 [BZ false false ks,B3 false false l] (bA (Ce ks l)):=by
 refine Sp (nt:=39) (res:=[.tmp 4]) func104 λSf=>?_
 have hlm:(l.map (Ae false)).length=l.length:=AD _;refine KK ?_;refine Cq (λ(i:Nat) (last:Int)=>⟨[(0,BZ false false ks),(5,iA last),(8,B3 false false l),(9,iA (l.map (Ae false)).length),(10,iA i)],Sf⟩) (λi last=>i<=l.length/\ -1<=last/\FQ ks last (l.drop i)=Ce ks l) (λi _=>l.length-i) 0 (-1) ⟨Ap _,by omega,rfl⟩ ?_;rintro i last ⟨hi,hla,he⟩;refine KK ?_;refine AC rfl (λhc=>?_) (λhc=>?_)
 ·have h:i<l.length:=by rw[AS,hlm]at hc;omega
  obtain⟨⟨ck,cv⟩,hcc⟩:=nm (l[i]);have hat:(l.map (Ae false))[i]?=some (Ae false ⟨ck,cv⟩):=by rw[Ac,AX h,hcc];rfl
  refine KK ?_;refine Ai λX=>?_;refine KK ?_
  rcases BI (decide (ck<=last))with g1|g1
  ·refine RU ?_;(repeat first|(refine IH ?_;first|refine KU ?_|refine KT ?_)|refine RK ?_|refine RGo.nil (by kernel_rfl) ?_)
   refine An rfl (by first|rfl|assumption) ?_;refine JC ?_;refine Ah ?_;rw[<-he,Og h hcc (.inl (by simpa using g1))]
  ·obtain⟨n,rfl⟩:∃n:Nat,ck=n:=⟨ck.toNat,by rw[AZ]at g1;omega⟩
   rcases BI (decide (((ks.map (Bd false)).length:Int)<=n))with g2|g2
   ·refine RU ?_;(repeat first|(refine IH ?_;first|refine KU ?_|refine KT ?_)|refine RK ?_|refine RGo.nil (by kernel_rfl) ?_)
    refine An rfl (by first|rfl|assumption) ?_;refine JC ?_;refine Ah ?_;rw[<-he,Og h hcc (.inr (by rw[AS,AD]at g2;exact g2))]
   ·have hkl:n<ks.length:=by rw[AZ,AD]at g2;omega
    obtain⟨k,hk⟩:=nm (ks[n]);have hka:ks[n]?=some k:=by rw[AX hkl,hk]
    have hat2:(ks.map (Bd false))[n]?=some (Bd false k):=by rw[Ac,hka];rfl
    have hst:=Vc (last:=last) (k:=k) h hcc hka;dsimp only at hst;rw[BP (by rw[AZ]at g1;omega),BP (p:=(n:Int)<_) (by omega),JW,JW,he]at hst;have hh:=dP k cv;obtain⟨b,hb⟩:=nm (Dl k cv);rw[hb]at hst hh;cases b
    ·refine JN ?_;refine I6 (h:=(hh ..)) (k:=?_);refine JK ?_;refine RGo.nil (by kernel_rfl) ?_
     refine An rfl (by first|rfl|assumption) ?_;refine JC ?_;refine Ah ?_;rw[hst];rfl
    ·refine JN ?_;refine I6 (h:=(hh ..)) (k:=?_);refine JK ?_;refine RGo.nil (by kernel_rfl) ?_
     refine AB rfl (by first|rfl|assumption) ?_;refine KK ?_;refine CA (i+1) n ⟨h,by omega,hst.symm⟩
 ·have h:i=l.length:=by rw[AZ,hlm]at hc;omega
  subst h;refine JC ?_;refine Ah ?_;rw[<-he,CY];rfl
theorem Hr(w:Wd)(hg:w.gens.length<=1099511627776)(hi:w.items.length<=1099511627776)(hc:∀it∈w.items,it.comps.length<=1099511627776):PS prog 43 [wdA false w] (iA (E6 w)):=by
 have hck:=Nh w.kinds;obtain⟨ke,hke⟩:=nm (Bs w.kinds);obtain⟨we,hwe⟩:=nm (E6 w);rw[hwe];unfold E6 at hwe;rw[hke]at hck hwe;obtain⟨ks,gens,items⟩:=w;dsimp only at hwe hg hi hc hck hke;refine Sp (nt:=94) (res:=[.tmp 2]) func43 λSf=>?_
 have hgm:(gens.map iA).length=gens.length:=AD _;have him:(items.map (AQ false)).length=items.length:=AD _;refine RG ?_;refine Bt ?_;refine JB ?_;refine JJ ?_;refine BE (h:=(hck ..)) (k:=?_);refine JB ?_;refine KK ?_;refine AC rfl (λhd=>?_) (λhd=>?_)
 ·have hd:ke≠0:=by simpa using hd
  refine JC ?_;refine Ah ?_;rw[<-hwe,Ab hd]
 have hd:ke=0:=by simpa using hd
 rw[AI (by simp[hd])]at hwe;rcases BI (decide (256<((gens.map iA).length:Int)))with g1|g1
 ·refine KK ?_
  refine An rfl (by first|rfl|assumption) ?_;refine JC ?_;refine Ah ?_;rw[<-hwe,Ab (.inl (by rw[AS,hgm]at g1;omega))]
 rcases BI (decide (((gens.map iA).length:Int)<(items.map (AQ false)).length))with g2|g2
 ·refine KK ?_
  refine An rfl (by first|rfl|assumption) ?_;refine JC ?_;refine Ah ?_;rw[<-hwe,Ab (.inr (by rw[AS,hgm,him]at g2;omega))]
 refine KK ?_;refine AB rfl (by first|rfl|assumption) ?_;rw[AI (by rw[AZ,hgm]at g1;rw[AZ,hgm,him]at g2;omega)]at hwe;refine KK ?_;refine Cd (λi:Nat=>⟨[(1,.fp (wdA false ⟨ks,gens,items⟩).cells),(29,Av false gens),(30,iA (gens.map iA).length),(31,iA i)],Sf⟩) (λi=>i<=gens.length/\∀j (h:j<gens.length),j<i->0<=gens[j]/\gens[j]<=1073741824) (λi=>gens.length-i) 0 ⟨Ap _,λj h hj=>absurd hj (by omega)⟩ ?_;rintro i ⟨hil,hgo⟩;refine KK ?_;refine AC rfl (λhe=>?_) (λhe=>?_)
 ·have h:i<gens.length:=by rw[AS,hgm]at he;omega
  obtain⟨x,hx⟩:=nm (gens[i]);have hat:(gens.map iA)[i]?=some (iA x):=by rw[Ac,AX h,hx];rfl
  have hbad:¬(0<=x/\x<=1073741824)->Mp gens=false:=λhn=>by
   unfold Mp;rw[List.all_eq_false];refine⟨x,hx▸As h,?_⟩;simp only[AH,AS];exact hn
  refine KK ?_;refine AC rfl (λhf=>?_) (λhf=>?_)
  ·have hf:¬(0<=x/\x<=1073741824):=by simp at hf;omega
   refine JC ?_;refine Ah ?_;rw[<-hwe,Ab (hbad hf)]
  ·have hf:0<=x/\x<=1073741824:=by simp at hf;omega
   refine KK ?_;refine Bb (i+1) ⟨h,λj h1 h2=>?_⟩;by_cases e:j=i
   ·subst e;rw[hx];exact hf
   ·exact hgo j h1 (by omega)
 have hgok:Mp gens=true:=by
  have h:i=gens.length:=by rw[AZ,hgm]at he;omega
  unfold Mp;rw[Cr];intro x hx;obtain⟨j,hj,rfl⟩:=Bv hx;simp only[AH,AS];exact hgo j hj (by omega)
 rw[AI (by simp[hgok])]at hwe;refine KK ?_;refine Cq (λ(i:Nat) (last:Int)=>⟨[(1,.fp (wdA false ⟨ks,gens,items⟩).cells),(6,iA last),(43,Km false false items),(44,iA (items.map (AQ false)).length),(45,iA i)],Sf⟩) (λi last=>i<=items.length/\ -1<=last/\EM ks gens last (items.drop i)=EM ks gens (-1) items) (λi _=>items.length-i) 0 (-1) ⟨Ap _,by omega,rfl⟩ ?_;clear hil hgo he i;rintro i last ⟨hil,hla,he⟩;refine KK ?_;refine AC rfl (λhd'=>?_) (λhd'=>?_)
 ·have h:i<items.length:=by rw[AS,him]at hd';omega
  obtain⟨⟨⟨en,eg⟩,cs⟩,hit⟩:=nm (items[i]);have hat:(items.map (AQ false))[i]?=some (AQ false ⟨⟨en,eg⟩,cs⟩):=by rw[Ac,AX h,hit];rfl
  have hcl:=hc _ (hit▸As h);dsimp only at hcl;refine KK ?_;refine Ai λX=>?_;refine KK ?_
  rcases BI (decide (en<=last))with q1|q1
  ·refine RU ?_;(repeat first|(refine IH ?_;first|refine KU ?_|refine KT ?_)|refine RK ?_|refine RGo.nil (by kernel_rfl) ?_)
   refine An rfl (by first|rfl|assumption) ?_;refine JC ?_;refine Ah ?_;rw[<-hwe,Ab (by rw[<-he,NW h hit (.inl (by simpa using q1))])]
  obtain⟨n,rfl⟩:∃n:Nat,en=n:=⟨en.toNat,by rw[AZ]at q1;omega⟩;rcases BI (decide (((gens.map iA).length:Int)<=n))with q2|q2
  ·refine RU ?_;(repeat first|(refine IH ?_;first|refine KU ?_|refine KT ?_)|refine RK ?_|refine RGo.nil (by kernel_rfl) ?_)
   refine An rfl (by first|rfl|assumption) ?_;refine JC ?_;refine Ah ?_;rw[<-hwe,Ab (by rw[<-he,NW h hit (.inr (by rw[AS,hgm]at q2;exact q2))])]
  have hkl:n<gens.length:=by rw[AZ,hgm]at q2;omega
  obtain⟨g,hg'⟩:=nm (gens[n]);have hga:gens[n]?=some g:=by rw[AX hkl,hg']
  have hat2:(gens.map iA)[n]?=some (iA g):=by rw[Ac,hga];rfl
  have hst:=Ty (ks:=ks) (last:=last) (g:=g) h hit hga;dsimp only at hst;rw[BP (by rw[AZ]at q1;omega),BP (p:=(n:Int)<_) (by omega),JW,JW,he]at hst;rcases BI (decide (eg≠g))with q3|q3
  ·refine RU ?_;(repeat first|(refine IH ?_;first|refine KU ?_|refine KT ?_)|refine RK ?_|refine RGo.nil (by kernel_rfl) ?_)
   refine An rfl (by first|rfl|assumption) ?_;refine JC ?_;refine Ah ?_;rw[<-hwe,Ab (by rw[hst,Au (by simpa using q3)];rfl)]
  rcases BI (decide (eg=1073741824))with q4|q4
  ·refine RU ?_;(repeat first|(refine IH ?_;first|refine KU ?_|refine KT ?_)|refine RK ?_|refine RGo.nil (by kernel_rfl) ?_)
   refine An rfl (by first|rfl|assumption) ?_;refine JC ?_;refine Ah ?_;rw[<-hwe,Ab (by rw[hst,q4];simp)]
  have hh:=gR ks cs hcl;obtain⟨b,hb⟩:=nm (Ce ks cs);rw[BP (p:=eg=g) (by simpa using q3),q4,hb,JW,FJ,JW]at hst;rw[hb]at hh;cases b
  ·refine JN ?_;refine I6 (h:=(hh ..)) (k:=?_);refine JK ?_;refine RGo.nil (by kernel_rfl) ?_
   refine An rfl (by first|rfl|assumption) ?_;refine JC ?_;refine Ah ?_;rw[<-hwe,Ab (by rw[hst];rfl)]
  ·refine JN ?_;refine I6 (h:=(hh ..)) (k:=?_);refine JK ?_;refine RGo.nil (by kernel_rfl) ?_
   refine AB rfl (by first|rfl|assumption) ?_;refine KK ?_;refine CA (i+1) n ⟨h,by omega,hst.symm⟩
 ·have h:i=items.length:=by rw[AZ,him]at hd';omega
  refine JC ?_;refine Ah ?_;rw[<-hwe,AI (by rw[<-he,h,CY];simp[EM])]
theorem QM(a:Int):PS prog 110 [iA a] (bA false):=by
 refine Sp (nt:=6) (res:=[.tmp 2]) func110 λSf=>?_
 refine JC ?_;refine Ah ?_;have:decide (a≠a)=false:=Au (by simp);rw[this]
def FU(a b:Int):Int:=if a<b then-1 else if b<a then 1 else 0
theorem I3(a b:Int):PS prog 48 [iA a,iA b] (iA (FU a b)):=by
 refine Sp (nt:=20) (res:=[.tmp 4]) func48 λSf=>?_
 refine KK ?_;refine BE (h:=(QM a)) (k:=?_);refine KK ?_;refine BE (h:=(QM b)) (k:=?_);refine KK ?_;refine AB rfl rfl ?_;refine KK ?_;refine AB rfl rfl ?_;refine KK ?_;refine AC rfl (λh=>?_) (λh=>?_)
 ·have h:a<b:=by simpa using h
  refine JC ?_;refine Ah ?_;rw[FU,Ab h]
 ·have h:¬a<b:=by simpa using h
  refine KK ?_;refine AC rfl (λh2=>?_) (λh2=>?_)
  ·have h2:b<a:=by simpa using h2
   refine JC ?_;refine Ah ?_;rw[FU,AI h,Ab h2]
  ·have h2:¬b<a:=by simpa using h2
   refine JC ?_;refine Ah ?_;rw[FU,AI h,AI h2]
def H6{α:Type}(l:List α)(p:α->Bool):Int:=match l.findIdx? p with
 |some i=>i
 |none=>-1
theorem Il{l:List α}{p:α->Bool}(h:∀j (hj:j<l.length),p l[j]=false):H6 l p= -1:=by
 have:l.findIdx? p=none:=by
  rw[D6];intro x hx;obtain⟨j,hj,rfl⟩:=Bv hx;exact h j hj
 simp[H6,this]
theorem Ik{l:List α}{p:α->Bool}(hi:i<l.length)(e:p l[i]=true)(h:∀j (hj:j<i),p (l[j]'(by omega))=false):H6 l p=i:=by
 have:l.findIdx? p=some i:=by
  rw[C7];exact⟨hi,e,λj hj=>by simpa using h j hj⟩
 simp[H6,this]
theorem QR(l:List α)(p:α->Bool):decide ((0:Int)<=H6 l p)=l.any p:=by
 unfold H6;cases h:l.findIdx? p with
 |none=>
  rw[D6]at h;have:l.any p=false:=CW.2 λx hx=>by rw[h x hx];simp
  rw[this];rfl
 |some i=>
  obtain⟨hi,e,_⟩:=C7.1 h;have:l.any p=true:=Gq.2 ⟨_,As hi,e⟩;rw[this];simp
theorem QQ(l:List α)(p:α->Bool): -1<=H6 l p/\H6 l p<l.length/\H6 l p<=l.length:=by
 unfold H6;cases h:l.findIdx? p with
 |none=>simp;omega
 |some i=>
  obtain⟨hi,_⟩:=C7.1 h;simp;omega
theorem Rl(l:List Item)(f:FuncId)(cap:List AV)(p:Item->Bool)(hs:Dw cap=true)(hl:l.length<=4611686018427387904)(hf:∀x∈l,PS prog f ((AQ false) x::cap) (bA (p x))):PS prog 160 [.lst false 83 3 (l.map (AQ false)),.fn f cap] (iA (H6 l p)):=by
 refine Sp (nt:=19) (res:=[.tmp 4]) func160 λSf=>?_
 refine KK ?_;refine Cd (λi:Nat=>⟨[(0,.lst false 83 3 (l.map (AQ false))),(1,.fn f cap),(7,iA (l.map (AQ false)).length),(8,iA i)],Sf⟩) (λi=>i<=l.length/\∀j (h:j<l.length),j<i->p l[j]=false) (λi=>l.length-i) 0 ⟨Ap _,λj h hj=>absurd hj (by omega)⟩ ?_;rintro i ⟨hi,he⟩;refine KK ?_;refine AC rfl (λhc=>?_) (λhc=>?_)
 ·have h:i<l.length:=by simpa using hc
  refine KK ?_;refine MF (h:=(hf _ (As h))) (k:=?_);refine KK ?_;refine AC rfl (λhd=>?_) (λhd=>?_)
  ·refine KK ?_
   refine RT ?_;refine Ah ?_;rw[Ik h hd λj hj=>he j (by omega) hj]
  ·refine KK ?_
   refine Bb (i+1) ⟨h,λj h1 h2=>?_⟩;by_cases e:j=i
   ·subst e;exact hd
   ·exact he j h1 (by omega)
 ·have h:¬i<l.length:=by simpa using hc
  refine JC ?_;refine Ah ?_;rw[Il λj hj=>he j hj (by omega)]
def Oy{α:Type}(g:α->Int)(l:List α):Prop:=∀(a b:Nat) (x y:α),a<=b->l[a]?=some x->l[b]?=some y->g y<0->g x<0
def Spl{α:Type}(g:α->Int)(l:List α)(i j:Nat):Prop:=(∀(k:Nat) (x:α),k<i->l[k]?=some x->g x<0)/\∀(k:Nat) (x:α),j<=k->l[k]?=some x->¬g x<0
structure Found{α:Type}(g:α->Int)(l:List α)(r:Nat×Bool):Prop where
 le:r.1<=l.length
 eq:r.2=true↔∃x,l[r.1]?=some x/\g x=0
 mono:Oy g l->Spl g l r.1 r.1
theorem Spl.lo{g:α->Int}{l:List α}{i j m:Nat}{y:α}(hM:Oy g l)(h:Spl g l i j)(hy:l[m]?=some y)(hg:g y<0):Spl g l (m+1) j:=
 ⟨λk x hk hx=>hM k m x y (by omega) hx hy hg,h.2⟩
theorem Spl.hi{g:α->Int}{l:List α}{i j m:Nat}{y:α}(hM:Oy g l)(h:Spl g l i j)(hy:l[m]?=some y)(hg:¬g y<0):Spl g l i m:=
 ⟨h.1,λk x hk hx hx0=>hg (hM m k y x hk hy hx hx0)⟩
theorem df(x:Item)(e:Ent):PS prog 161 [AQ false x,.fp (CI e).cells] (bA (decide (x.ent=e))):=by
 have hE:=Xd x.ent.n x.ent.gen e.n e.gen;rw[show(decide (x.ent.n=e.n)&&decide (x.ent.gen=e.gen))=SI x.ent e from rfl,SH]at hE;refine Sp (nt:=8) (res:=[.tmp 3]) func161 λSf=>?_
 refine WK ?_;refine WK ?_;refine Bt ?_;(iterate 7 refine WK ?_);refine AOps.p (W.eqP _ _ (by kernel_rfl) hE rfl rfl) rfl ?_;refine JC ?_;refine Ah ?_;rfl
def Ez(l:List Item)(e:Ent):Int:=H6 l λx=>decide (x.ent=e)
theorem dd(w:Wd)(e:Ent)(hl:w.items.length<=4611686018427387904):PS prog 98 [wdA false w,CI e] (iA (Ez w.items e)):=by
 have h:=Rl w.items 161 [.fp (CI e).cells] (λx=>decide (x.ent=e)) rfl hl (λx _=>df x e);refine Sp (nt:=9) (res:=[.tmp 4]) func98 λSf=>?_
 refine RG ?_;refine Bt ?_;refine Bt ?_;refine JB ?_;refine KK ?_;refine BO (h:=(h ..)) (k:=?_);refine JC ?_;refine Ah ?_;rfl
theorem jU(c:Comp)(k:Int):PS prog 114 [Ae false c,iA k] (iA (FU c.kind k)):=by
 refine Sp (nt:=9) (res:=[.tmp 4]) func114 λSf=>?_
 refine WK ?_;refine WK ?_;refine Bt ?_;refine KK ?_;refine BO (h:=(I3 c.kind k)) (k:=?_);refine JC ?_;refine Ah ?_;rfl
theorem Wn(l:List Comp)(t:AV)(f:FuncId)(cap:List AV)(g:Comp->Int)(t0:Int)(ht:t=iA t0)(hs:Dw cap=true)(hl:l.length<=4611686018427387904)(hf:∀x∈l,PS prog f (Ae false x::t::cap) (iA (g x))):
  Spec prog 113 [B3 false false l,t,.fn f cap] [] λr S'=>∃b,Found g l b/\r= .tup [iA b.1,bA b.2]/\S'=[]:=by
 subst ht;refine Sp (nt:=49) (res:=[.tmp 6,.tmp 7]) func113 λSf=>?_
 have hlm:(l.map (Ae false)).length=l.length:=AD _;refine KK ?_;refine Cq (λ(i j:Nat)=>⟨[(0,B3 false false l),(1,iA t0),(2,.fn f cap),(8,iA (l.map (Ae false)).length),(9,iA i),(10,iA j)],Sf⟩) (λi j=>i<=j/\j<=l.length/\(Oy g l->Spl g l i j)) (λi j=>j-i) 0 (l.map (Ae false)).length ⟨Ap _,by omega,λ_=>⟨λk x h=>absurd h (by omega),λk x h hx=>by have:=(AE.1 hx).1;omega⟩⟩ ?_;rintro i j ⟨hij,hjn,hmono⟩;refine KK ?_;refine AC rfl (λhc=>?_) (λhc=>?_)
 ·have h:i<j:=by rw[AS]at hc;omega
  have hmid:((i:Int)+j).fdiv (2^1)=(((i+j)/2:Nat):Int):=by
   rw[Ef _ (by decide)];omega
  have hw1:IntKind.u64.wrap ((i:Int)+j)=i+j:=by rw[Rb];omega
  have hw2:IntKind.i64.wrap (((i:Int)+j).fdiv (2^1))=((i:Int)+j).fdiv (2^1):=by
   rw[Rc,hmid];omega
  refine RG ?_;(iterate 3 refine WO ?_);refine AOps.p (W.conv .i64 .u64 (by kernel_rfl) (by kernel_rfl) rfl hw1) rfl ?_;refine AOps.p (W.shr 1 rfl rfl rfl (by decide)) rfl ?_;refine AOps.p (W.conv .u64 .i64 (by kernel_rfl) (by kernel_rfl) rfl hw2) rfl ?_;refine JB ?_;rw[hmid];obtain⟨m,hm⟩:=nm ((i+j)/2);rw[hm];have hml:m<l.length:=by omega
  obtain⟨y,hy⟩:=nm (l[m]);have hya:l[m]?=some y:=by rw[AX hml,hy]
  have hat:(l.map (Ae false))[m]?=some (Ae false y):=by rw[Ac,hya];rfl
  have hfy:=hf y (by rw[<-hy];exact As hml);refine JJ ?_;refine Nu (h:=(hfy ..)) (k:=?_);refine JB ?_;refine AC rfl (λhe=>?_) (λhe=>?_)
  ·have he:g y<0:=by simpa using he
   refine KK ?_;refine CA (m+1) j ⟨by omega,hjn,λhM=>(hmono hM).lo hM hya he⟩
  ·have he:¬g y<0:=by simpa using he
   refine KK ?_;refine CA i m ⟨by omega,by omega,λhM=>(hmono hM).hi hM hya he⟩
 ·have h:i=j:=by rw[AZ]at hc;omega
  subst h;by_cases hin:i<l.length
  ·have hil:i<l.length:=by omega
   have g1:decide ((i:Int)<(l.map (Ae false)).length)=true:=BP (by omega);obtain⟨y,hy⟩:=nm (l[i]);have hya:l[i]?=some y:=by rw[AX hil,hy]
   have hat:(l.map (Ae false))[i]?=some (Ae false y):=by rw[Ac,hya];rfl
   have hfy:=hf y (by rw[<-hy];exact As hil);refine KK ?_;refine Nu (h:=(hfy ..)) (k:=?_);refine JC ?_;exact⟨[iA i,bA (decide (g y=0))],[iA i,bA (decide (g y=0))],_,[],.cons (.tmp rfl) rfl (.cons (.tmp rfl) rfl .nil),.cons (.cell .same) (.cons (.cell .same) .nil),by exact BL,(i,decide (g y=0)),⟨by simp;omega,by simp[hya],hmono⟩,rfl,rfl⟩
  ·have g1:decide ((i:Int)<(l.map (Ae false)).length)=false:=Au (by omega)
   refine JC ?_;exact⟨[iA i,bA false],[iA i,bA false],_,[],.cons (.tmp rfl) rfl (.cons (.tmp rfl) rfl .nil),.cons (.cell .same) (.cons (.cell .same) .nil),by exact BL,(i,false),⟨by simp;omega,by simp[CD (show l.length<=i by omega)],hmono⟩,rfl,rfl⟩
theorem kV(l:List Comp)(k:Int)(hl:l.length<=4611686018427387904):Spec prog 53 [B3 false false l,iA k] [] λr S'=>∃b,Found (λc:Comp=>FU c.kind k) l b/\r= .tup [iA b.1,bA b.2]/\S'=[]:=by
 have h:=Wn l (iA k) 114 [] (λc=>FU c.kind k) k rfl rfl hl (λx _=>jU x k);refine Sp (nt:=11) (res:=[.tmp 4,.tmp 5]) func53 λSf=>?_
 refine R1 ?_;refine JJ ?_;refine iX (h:=h) λb hb=>?_
 refine KO ?_;refine FL ?_;refine RT ?_;exact⟨[iA b.1,bA b.2],[iA b.1,bA b.2],_,[],.cons (.tmp rfl) rfl (.cons (.tmp rfl) rfl .nil),.cons (.cell .same) (.cons (.cell .same) .nil),by exact BL,b,hb,rfl,rfl⟩
theorem In(l:List Int)(hl:l.length*8<=140737488355328):PS prog 41 [.lst false 3 1 (l.map iA)] (.lst true 3 1 (l.map iA)):=by
 refine Sp (nt:=8) (res:=[.tmp 2]) func41 λSf=>?_
 (iterate 8 refine WK ?_);refine AOps.isNil λb hb=>?_;refine KK ?_
 refine AC rfl (λhc=>?_) (λhc=>?_)
 ·rw[hb hc]
  refine JC ?_;exact⟨[.prim (.slice none 0 0)],[.lst true 3 1 []],_,[],.cons (.tmp rfl) rfl .nil,.cons (.cell .nil) .nil,by exact BL,rfl,rfl⟩
 ·have hl':(0+(l.map iA).length)*8<=140737488355328:=by simpa using hl
  clear hl
  (iterate 3 refine WK ?_);refine TP λK=>?_;refine KK ?_;refine Ay λY=>?_;refine KK ?_
  refine RT ?_;exact⟨[.sl Y 0 (0+(l.map iA).length)],[.lst true 3 1 (l.map iA)],_,[],.cons (.tmp rfl) rfl .nil,.cons (.cell (.sl (p:=0) .here (by simp))) .nil,by exact BL,rfl,rfl⟩
def FI(l:List Comp):Prop:=l.Pairwise λa b=>a.kind<b.kind
theorem MN{ks:List Kind}:∀{l:List Comp} {last:Int},FQ ks last l=true->FI l/\∀c∈l,last<c.kind/\c.kind<ks.length
 |[],_,_=>⟨.nil,λc hc=>by cases hc⟩
 |c::l,last,h=>by
  rw[FQ]at h;split at h
  ·simp only[AH,AS]at h
   obtain⟨h1,h2⟩:=MN h.2;refine⟨Al.2 ⟨λd hd=>(h2 d hd).1,h1⟩,λd hd=>?_⟩;rcases AP.1 hd with rfl|hd
   ·exact⟨h.1.1.1,h.1.1.2⟩
   ·exact⟨by have:=(h2 d hd).1;have:=h.1.1.1;omega,(h2 d hd).2⟩
  ·cases h
theorem UG{a b:Int}:FU a b<0↔a<b:=by
 unfold FU;split
 ·simp;assumption
 ·split<;>simp<;>omega
theorem cmpI_eq{a b:Int}:FU a b=0↔a=b:=by
 unfold FU;split
 ·simp;omega
 ·split<;>simp<;>omega
theorem Wj{l:List Comp}(h:FI l)(k:Int):Oy (λc:Comp=>FU c.kind k) l:=by
 intro a b x y hab hx hy hy0;rw[UG]at hy0⊢;by_cases e:a=b
 ·subst e;rw[hx]at hy;cases hy;exact hy0
 ·obtain⟨ha,rfl⟩:=AE.1 hx
  obtain⟨hb,rfl⟩:=AE.1 hy;have:=CJ.1 h a b ha hb (by omega);omega
theorem au{l:List Comp}{b:Nat×Bool}(h:Found (λc:Comp=>FU c.kind k) l b)(hb:b.2=true):∃c,l[b.1]?=some c/\c.kind=k:=by
 obtain⟨c,hc,h0⟩:=h.eq.1 hb;exact⟨c,hc,cmpI_eq.1 h0⟩
theorem da{l:List Comp}{b:Nat×Bool}(h:Found (λc:Comp=>FU c.kind k) l b)(hs:FI l)(hb:b.2=false):∀c∈l,c.kind≠k:=by
 intro c hc e;obtain⟨j,hj,rfl⟩:=Bv hc;obtain⟨h1,h2⟩:=h.mono (Wj hs k);have hne:¬∃x,l[b.1]?=some x/\FU x.kind k=0:=λhx=>by rw[h.eq.2 hx]at hb;cases hb
 have hjb:b.1<=j:=by
  rcases Ib j b.1 with hlt|hge
  ·have:=h1 j _ hlt (AX hj)
   rw[UG]at this;omega
  ·exact hge
 have hbl:b.1<l.length:=by omega
 have h3:=h2 b.1 _ (AT _) (AX hbl);rw[UG]at h3;by_cases e2:j=b.1
 ·subst e2
  exact hne ⟨_,AX hj,cmpI_eq.2 e⟩
 ·have:=CJ.1 hs b.1 j hbl hj (by omega)
  omega
def Dj(l:List Comp)(k:Int):Option Comp:=l.find? λc=>decide (c.kind=k)
theorem Xk{l:List Comp}{c:Comp}(hs:FI l)(hc:c∈l)(hk:c.kind=k):Dj l k=some c:=by
 induction l with
 |nil=>cases hc
 |cons a l ih=>
  obtain⟨h1,h2⟩:=Al.1 hs;unfold Dj;rw[RZ];rcases AP.1 hc with rfl|hc
  ·simp[hk]
  ·have:¬a.kind=k:=by have:=h1 c hc;omega
   simp only[this,decide_false];exact ih h2 hc
theorem OQ{l:List Comp}(h:∀c∈l,c.kind≠k):Dj l k=none:=by
 unfold Dj;rw[JT];intro c hc;simpa using h c hc
def Vg(w:Wd)(e:Ent)(k:Int):List Int×Int:=
 if E6 w≠0 then([],E6 w)else match w.items.find? (λit=>decide (it.ent=e))with
  |none=>([],4)
  |some it=>match Dj it.comps k with
   |none=>([],4)
   |some c=>(c.vals,0)
theorem Qe{l:List Item}{e:Ent}(h:Ez l e<0):l.find? (λit=>decide (it.ent=e))=none:=by
 unfold Ez H6 at h;split at h
 ·omega
 ·rename_i h2
  rw[D6]at h2;rw[JT];intro x hx;rw[h2 x hx];simp
theorem Kt{l:List Item}{e:Ent}{n:Nat}(h:Ez l e=n):∃it,l[n]?=some it/\l.find? (λit=>decide (it.ent=e))=some it/\it.ent=e:=by
 unfold Ez H6 at h;split at h
 ·rename_i i h2
  have:i=n:=by omega
  subst this;obtain⟨hi,h3,h4⟩:=C7.1 h2;refine⟨l[i],AX hi,?_,by simpa using h3⟩;rw[Ka];exact⟨h3,i,hi,rfl,λj hj=>by simpa using h4 j hj⟩
 ·omega
theorem QK{ks:List Kind}:∀{l:List Item} {last:Int},EM ks gens last l=true->∀it∈l,Ce ks it.comps=true
 |[],_,_,it,hit=>by cases hit
 |x::l,last,h,it,hit=>by
  rw[EM]at h;split at h
  ·simp only[AH]at h
   rcases AP.1 hit with rfl|hit
   ·exact h.1.2
   ·exact QK h.2 it hit
  ·cases h
theorem fL{w:Wd}(h:E6 w=0):∀it∈w.items,Ce w.kinds it.comps=true:=by
 unfold E6 at h;split at h
 ·exact absurd h ‹_›
 ·split at h
  ·cases h
  ·split at h
   ·cases h
   ·split at h
    ·cases h
    ·rename_i hi
     exact QK (by simpa using hi)
theorem fK{w:Wd}(h:E6 w=0):∀it∈w.items,FI it.comps:=λit hit=>(MN (fL h it hit)).1
theorem jJ(w:Wd)(e:Ent)(k:Int)(hw:WdL w):PS prog 35 [wdA false w,CI e,iA k] (.tup [Av true (Vg w e k).1,iA (Vg w e k).2]):=by
 have hck:=Hr w hw.gens hw.items.1 (λit hit=>(hw.items.2 it hit).1);have hfd:=dd w e (by have:=hw.items.1;omega);obtain⟨r,hr⟩:=nm (Vg w e k);rw[hr];unfold Vg at hr;obtain⟨we,hwe⟩:=nm (E6 w);rw[hwe]at hck hr;refine Sp (nt:=46) (res:=[.tmp 6,.tmp 7]) func35 λSf=>?_
 refine RG ?_;refine Bt ?_;refine Bt ?_;refine JE ?_;refine JG ?_;refine BE (h:=(hck ..)) (k:=?_);refine JB ?_;refine KK ?_;refine AC rfl (λhd=>?_) (λhd=>?_)
 ·have hd:we≠0:=by simpa using hd
  rw[Ab hd]at hr;subst hr;refine JC ?_;exact⟨[.prim (.slice none 0 0),iA we],[Av true [],iA we],_,[],.cons (.tmp rfl) rfl (.cons (.tmp rfl) rfl .nil),.cons (.cell .nil) (.cons (.cell .same) .nil),by exact BL,rfl,rfl⟩
 have hd:we=0:=by simpa using hd
 rw[AI (by simp[hd])]at hr;have hsort:=fK (hwe.trans hd);refine JJ ?_;refine BO (h:=(hfd ..)) (k:=?_);refine JB ?_;refine KK ?_;refine AC rfl (λhg=>?_) (λhg=>?_)
 ·have hg:Ez w.items e<0:=by simpa using hg
  rw[Qe hg]at hr;subst hr;refine JC ?_;exact⟨[.prim (.slice none 0 0),iA 4],[Av true [],iA 4],_,[],.cons (.tmp rfl) rfl (.cons (.tmp rfl) rfl .nil),.cons (.cell .nil) (.cons (.cell .same) .nil),by exact BL,rfl,rfl⟩
 obtain⟨n,hn⟩:∃n:Nat,Ez w.items e=n:=⟨(Ez w.items e).toNat,by(have:¬Ez w.items e<0:=by simpa using hg);(omega)⟩;rw[hn];obtain⟨⟨en,cs⟩,hit,hfi,hen⟩:=Kt hn;rw[hfi]at hr;dsimp only at hr;have hmem:=B0 hit;have hcl:=hw.items.2 _ hmem;have hsc:=hsort _ hmem;dsimp only at hcl hsc;have hat:(w.items.map (AQ false))[n]?=some (AQ false ⟨en,cs⟩):=by rw[Ac,hit];rfl
 have hap:=kV cs k (by have:=hcl.1;omega);refine JL ?_;refine iY (h:=hap) λb hb=>?_
 obtain⟨bi,bb⟩:=b;cases bb
 ·have hno:=da hb hsc rfl
  rw[OQ hno]at hr;subst hr;dsimp only;refine KO ?_;refine FL ?_;refine KK ?_;refine An rfl rfl ?_;refine JC ?_;exact⟨[.prim (.slice none 0 0),iA 4],[Av true [],iA 4],_,[],.cons (.tmp rfl) rfl (.cons (.tmp rfl) rfl .nil),.cons (.cell .nil) (.cons (.cell .same) .nil),by exact BL,rfl,rfl⟩
 ·obtain⟨c,hc,hck'⟩:=au hb rfl
  dsimp only at hc;have hcm:=B0 hc;rw[Xk hsc hcm hck']at hr;subst hr;obtain⟨ckd,cv⟩:=c;have hvl:=hcl.2 _ hcm;dsimp only at hvl;have hat2:(cs.map (Ae false))[bi]?=some (Ae false ⟨ckd,cv⟩):=by rw[Ac,hc];rfl
  have hcn:=In cv (by omega);dsimp only;refine KO ?_;refine FL ?_;refine KK ?_;refine AB rfl rfl ?_;refine KK ?_;refine iQ (h:=hcn) λY=>?_;refine KK ?_
  refine RT ?_;exact⟨[.sl Y 0 (cv.map iA).length,iA 0],[Av true cv,iA 0],_,[],.cons (.tmp rfl) rfl (.cons (.tmp rfl) rfl .nil),.cons (.cell (.sl (p:=0) .here rfl)) (.cons (.cell .same) .nil),by exact BL,rfl,rfl⟩
def LB(l:List Comp):List Comp:=l.mergeSort λa b=>decide (a.kind<=b.kind)
def FR(ks:List Kind):List Comp->List Comp->List Comp->List Comp×Int
 |_,out,[]=>(out,0)
 |pre,out,c::l=>
  if c.kind<0\/(ks.length:Int)<=c.kind then([],1)else if pre.any (λo=>decide (o.kind=c.kind))then([],5)else
  match ks[c.kind.toNat]? with
  |none=>([],1)
  |some k=>if(DB k c.vals).2≠0 then([],(DB k c.vals).2)else FR ks (pre++[c]) (out++[⟨c.kind,(DB k c.vals).1⟩]) l
def Eb(ks:List Kind)(l:List Comp):List Comp×Int:=
 if Bs ks≠0 then([],Bs ks)else if(FR ks [] [] l).2≠0 then([],(FR ks [] [] l).2)else(LB (FR ks [] [] l).1,0)
theorem Qb{ks:List Kind}:∀{l pre out:List Comp},(FR ks pre out l).2=0->(∀a∈out,∃b∈pre,b.kind=a.kind)->out.Pairwise (λa b=>a.kind≠b.kind)->(∀a∈out,0<=a.kind/\a.kind<ks.length)->
  (FR ks pre out l).1.Pairwise (λa b=>a.kind≠b.kind)/\∀a∈(FR ks pre out l).1,0<=a.kind/\a.kind<ks.length
 |[],pre,out,h,h1,h2,h3=>⟨h2,h3⟩
 |c::l,pre,out,h,h1,h2,h3=>by
  rw[FR]at h⊢;split at h
  ·cases h
  ·rename_i g1
   rw[AI g1];split at h
   ·cases h
   ·rename_i g2
    rw[AI g2];split at h
    ·cases h
    ·rename_i k hk
     split at h
     ·rename_i g3;exact absurd h g3
     ·rename_i g3
      (try simp only[hk])
      rw[AI g3];refine Qb h (λa ha=>?_) ?_ (λa ha=>?_)
      ·rcases AL.1 ha with ha|ha
       ·obtain⟨b,hb,e⟩:=h1 a ha
        exact⟨b,by simp[hb],e⟩
       ·rw[AY.1 ha]
        exact⟨c,by simp,rfl⟩
      ·rw[CL]
       refine⟨h2,by simp,λa ha b hb e=>?_⟩;rw[AY.1 hb]at e;obtain⟨b2,hb2,e2⟩:=h1 a ha;exact g2 (Gq.2 ⟨b2,hb2,by simpa using e2.trans e⟩)
      ·rcases AL.1 ha with ha|ha
       ·exact h3 a ha
       ·rw[AY.1 ha];exact⟨by dsimp only;omega,by dsimp only;omega⟩
theorem LT(g:α->Int):∀(n:Nat) (l:List α),l.Pairwise (λa b=>g a≠g b)->(∀a∈l,0<=g a/\g a<n)->l.length<=n:=by
 intro n l h1 h2
 have h3:(l.map λa=>(g a).toNat).Nodup:=by
  rw[List.Nodup,He];refine h1.imp_of_mem λ{a b} ha hb e=>?_
  have:=h2 a ha;have:=h2 b hb;omega
 have h4:=bf h3 (l₂:=List.range n) (λx hx=>by
  obtain⟨a,ha,rfl⟩:=Ag.1 hx;have:=h2 a ha;exact DL.2 (by omega))
 simpa using h4
theorem Kk(l:List Comp):(LB l).Perm l:=List.mergeSort_perm _ _
theorem QI{l u:List Comp}(hd:l.Pairwise (λa b=>a.kind≠b.kind))(hp:u.Perm l)(hs:u.Pairwise (λa b=>a.kind<=b.kind)):u=LB l:=by
 refine jm (le:=λa b=>a.kind<=b.kind) (λa b ha hb h1 h2=>?_) hs ?_ (hp.trans (Kk l).symm)
 ·have hb':b∈l:=(Kk l).mem_iff.1 hb
  have ha':a∈l:=hp.mem_iff.1 ha;obtain⟨i,hi,rfl⟩:=Bv ha';obtain⟨j,hj,rfl⟩:=Bv hb';have:=CJ.1 hd;rcases FN i j with x|x|x
  ·exact absurd (by omega) (this i j hi hj x)
  ·subst x;rfl
  ·exact absurd (by omega) (this j i hj hi x)
 ·have:=List.pairwise_mergeSort (le:=λa b:Comp=>decide (a.kind<=b.kind)) (λa b c h1 h2=>by simp at*;omega) (λa b=>by simp;omega) l
  exact this.imp λh=>by simpa using h
theorem Tx{l:List Comp}(hd:l.Pairwise (λa b=>a.kind≠b.kind)):FI (LB l):=by
 have h1:(LB l).Pairwise (λa b=>a.kind<=b.kind):=by
  have:=List.pairwise_mergeSort (le:=λa b:Comp=>decide (a.kind<=b.kind)) (λa b c h1 h2=>by simp at*;omega) (λa b=>by simp;omega) l;exact this.imp λh=>by simpa using h
 have h2:(LB l).Pairwise (λa b=>a.kind≠b.kind):=(Kk l).symm.pairwise hd (λh=>Ne.symm h);exact(h1.and h2).imp λh=>by obtain⟨a,b⟩:=h;omega
def FD(l:List Comp)(k:Int):Nat:=(l.takeWhile λc=>decide (c.kind<k)).length
def KI:List Comp->Comp->List Comp
 |[],c=>[c]
 |x::l,c=>if x.kind<c.kind then x::KI l c else if x.kind=c.kind then c::l else c::x::l
def KJ(l:List Comp)(k:Int):List Comp:=l.filter λc=>!decide (c.kind=k)
def Gl(w:Wd)(i:Nat)(cs:List Comp):Wd:=⟨w.kinds,w.gens,match w.items[i]? with|some it=>w.items.set i ⟨it.ent,cs⟩|none=>w.items⟩
def Ga(w:Wd)(e:Ent)(c:Comp):Wd×Int:=
 if E6 w≠0 then(⟨[],[],[]⟩,E6 w)else if Ez w.items e<0 then(⟨[],[],[]⟩,4)else
 if(Eb w.kinds [c]).2≠0 then(⟨[],[],[]⟩,(Eb w.kinds [c]).2)else
 match w.items[(Ez w.items e).toNat]?,(Eb w.kinds [c]).1 with
 |some it,[d]=>(Gl w (Ez w.items e).toNat (KI it.comps d),0)
 |_,_=>(⟨[],[],[]⟩,0)
def I2(w:Wd)(e:Ent)(k:Int):Wd×Int:=
 if E6 w≠0 then(⟨[],[],[]⟩,E6 w)else if Ez w.items e<0 then(⟨[],[],[]⟩,4)else
 match w.items[(Ez w.items e).toNat]? with
 |some it=>if(Dj it.comps k).isSome then(Gl w (Ez w.items e).toNat (KJ it.comps k),0)else(⟨[],[],[]⟩,4)
 |none=>(⟨[],[],[]⟩,4)
def Hk(w:Wd)(e:Ent):Wd×Int:=
 if E6 w≠0 then(⟨[],[],[]⟩,E6 w)else if Ez w.items e<0 then(⟨[],[],[]⟩,4)else
 (⟨w.kinds,w.gens.set e.n.toNat (w.gens.getD e.n.toNat 0+1),w.items.eraseIdx (Ez w.items e).toNat⟩,0)
def FH(gens:List Int)(n:Nat):List Int:=if n=gens.length then gens++[0]else gens
def OE:List Item->Item->List Item
 |[],it=>[it]
 |x::l,it=>if x.ent.n<it.ent.n then x::OE l it else it::x::l
def GP(w:Wd)(l:List Comp):Wd×Ent×Int:=
 if E6 w≠0 then(⟨[],[],[]⟩,⟨0,0⟩,E6 w)else if(Eb w.kinds l).2≠0 then(⟨[],[],[]⟩,⟨0,0⟩,(Eb w.kinds l).2)else
 if(DS w).2=false then(⟨[],[],[]⟩,⟨0,0⟩,6)else
 (⟨w.kinds,FH w.gens (DS w).1,OE w.items ⟨⟨(DS w).1,(FH w.gens (DS w).1).getD (DS w).1 0⟩,(Eb w.kinds l).1⟩⟩,⟨(DS w).1,(FH w.gens (DS w).1).getD (DS w).1 0⟩,0)
theorem MP(i c:Nat)(l:List Int):(DI i c l).1.length=c:=by
 induction c generalizing i l with
 |zero=>rfl
 |succ c ih=>simp[DI,ih]
theorem PC(i c:Nat)(l:List Int):(DI i c l).1.map (·.name)=(List.range' i c).map E4:=by
 induction c generalizing i l with
 |zero=>rfl
 |succ c ih=>
  have:(Ep i l).1.name=E4 i:=by unfold Ep;split<;>rfl
  simp[DI,ih,LG,this]
theorem OI(k c:Nat)(l:List Int):(Cb k c l).1.length=c:=by
 induction c generalizing k l with
 |zero=>rfl
 |succ c ih=>simp[Cb,ih]
theorem Mq(k c:Nat)(l:List Int):(Cb k c l).1.map (·.name)=(List.range' k c).map HL:=by
 induction c generalizing k l with
 |zero=>rfl
 |succ c ih=>simp[Cb,ih,LG,GR]
theorem Nf(i:Nat):Dx (E4 i)=true:=by
 unfold E4;split<;>decide
theorem VW(i:Nat):Dx (HL i)=true:=by
 unfold HL;split<;>decide
theorem Vk(i:Nat)(l:List Int):Bf (Ep i l).1=0:=by
 have h1:=BY l (n:=9) (by omega);have h2:=BY (BS l 9) (n:=40) (by omega);unfold Ep;split
 ·simp[Bf,Nf]
 ·simp[Bf,Nf]
  omega
theorem Na(i c:Nat)(l:List Int):∀f∈(DI i c l).1,Bf f=0:=by
 induction c generalizing i l with
 |zero=>intro f h;simp[DI]at h
 |succ c ih=>
  intro f h;simp only[DI,Df]at h;rcases h with rfl|h
  ·exact Vk i l
  ·exact ih _ _ f h
theorem Qj:∀(fs pre:List Field),(∀f∈fs,Bf f=0)->((pre++fs).map (·.name)).Nodup->DJ pre fs=0:=by
 intro fs
 induction fs with
 |nil=>intro pre _ _;rfl
 |cons f fs ih=>
  intro pre h hn;have h1:=h f (by simp)
  have h2:pre.any (λo=>o.name==f.name)=false:=by
   rw[CW];intro o ho;simp only[R2];intro e;rw[AK,AW]at hn;exact hn.2.2 o.name (Ub ho) f.name (by simp) e
  simp only[DJ,h1,h2];simp;exact ih _ (λx hx=>h x (by simp[hx])) (by simpa using hn)
theorem Ri:∀(ks pre:List Kind),(∀k∈ks,C9 k=0)->((pre++ks).map (·.name)).Nodup->Dy pre ks=0:=by
 intro fs
 induction fs with
 |nil=>intro pre _ _;rfl
 |cons f fs ih=>
  intro pre h hn;have h1:=h f (by simp)
  have h2:pre.any (λo=>o.name==f.name)=false:=by
   rw[CW];intro o ho;simp only[R2];intro e;rw[AK,AW]at hn;exact hn.2.2 o.name (Ub ho) f.name (by simp) e
  simp only[Dy,h1,h2];simp;exact ih _ (λx hx=>h x (by simp[hx])) (by simpa using hn)
theorem ON{c:Nat}(h:c<=3):((List.range' 0 c).map E4).Nodup:=by
 have:c=0\/c=1\/c=2\/c=3:=by omega
 rcases this with rfl|rfl|rfl|rfl<;>decide
theorem O6{c:Nat}(h:c<=4):((List.range' 0 c).map HL).Nodup:=by
 have:c=0\/c=1\/c=2\/c=3\/c=4:=by omega
 rcases this with rfl|rfl|rfl|rfl|rfl<;>decide
theorem XU(k:Nat)(l:List Int):C9 (GR k l).1=0:=by
 have h1:=BY l (n:=3) (by omega);have h2:(1+Bn l 3).toNat<=3:=by omega
 have h3:=Qj (DI 0 (1+Bn l 3).toNat (BS l 3)).1 [] (Na _ _ _) (by
  rw[Bz,PC];exact ON h2)
 have h4:=MP 0 (1+Bn l 3).toNat (BS l 3);unfold C9 GR;simp only[VW,h3,h4,Hx];rw[AI (by omega)]
theorem PB(i c:Nat)(l:List Int):∀f∈(Cb i c l).1,C9 f=0:=by
 induction c generalizing i l with
 |zero=>intro f h;simp[Cb]at h
 |succ c ih=>
  intro f h;simp only[Cb,Df]at h;rcases h with rfl|h
  ·exact XU i l
  ·exact ih _ _ f h
theorem T9(l:List Int):1<=(By l).1.length/\(By l).1.length<=4:=by
 have h:=BY l (n:=4) (by omega);unfold By;rw[OI];omega
theorem QX(l:List Int):((By l).1.map (·.name)).Nodup:=by
 have h:=BY l (n:=4) (by omega);unfold By;rw[Mq];exact O6 (by omega)
theorem Oh(l:List Int):∀k∈(By l).1,C9 k=0:=PB _ _ _
theorem QY(l:List Int):Bs (By l).1=0:=by
 unfold Bs;have:=T9 l;rw[AI (by omega)];exact Ri _ [] (Oh l) (QX l)
theorem VG{f:Field}(h:Bf f=0)(v:Int):f.low<=Cu f v/\Cu f v<=HM f:=by
 have:=Se h;unfold Cu;rw[Ab h];omega
theorem YW{f:Field}(h:Bf f=0){v:Int}(h1:f.low<=v)(h2:v<=HM f):Cu f v=v:=by
 unfold Cu;rw[Ab h];omega
theorem ST{f:Field}(h:Bf f=0)(v:Int):Cu f (Cu f v)=Cu f v:=YW h (VG h v).1 (VG h v).2
theorem aK{fs:List Field}(h:∀f∈fs,Bf f=0)(vals:List Int):List.zipWith Cu fs (List.zipWith Cu fs vals)=List.zipWith Cu fs vals:=by
 induction fs generalizing vals with
 |nil=>rfl
 |cons f fs ih=>
  cases vals with
  |nil=>rfl
  |cons v vals=>simp[ST (h f (by simp)),ih (λx hx=>h x (by simp[hx]))]
theorem Nc{k:Kind}(h:C9 k=0)(hl:vals.length=k.fields.length):DB k vals=(List.zipWith Cu k.fields vals,0):=by
 unfold DB;rw[AI (by simp[h]),AI (by simp[hl])]
theorem QZ(k:Nat)(l:List Int):(∀f∈(GR k l).1.fields,Bf f=0)/\(GR k l).1.fields.length<=3:=by
 have h1:=BY l (n:=3) (by omega);refine⟨Na _ _ _,?_⟩;show(DI _ _ _).1.length<=3
 rw[MP];omega
theorem MJ(i c:Nat)(l:List Int):∀k∈(Cb i c l).1,(∀f∈k.fields,Bf f=0)/\k.fields.length<=3:=by
 induction c generalizing i l with
 |zero=>intro f h;simp[Cb]at h
 |succ c ih=>
  intro f h;simp only[Cb,Df]at h;rcases h with rfl|h
  ·exact QZ i l
  ·exact ih _ _ f h
theorem PA(l:List Int):∀k∈(By l).1,(∀f∈k.fields,Bf f=0)/\k.fields.length<=3:=MJ _ _ _
def vAt(fs:List Field)(l:List Int):Nat->List Int×List Int
 |0=>([],l)
 |i+1=>match fs[i]? with
  |some f=>((vAt fs l i).1++[f.low+Bn (vAt fs l i).2 (2^f.bits.toNat)],BS (vAt fs l i).2 (2^f.bits.toNat))
  |none=>vAt fs l i
def cAt(ks:List Kind)(l:List Int):Nat->List Comp×List Int
 |0=>([],l)
 |i+1=>match ks[i]? with
  |some k=>if Bn (cAt ks l i).2 3=2 then((cAt ks l i).1,BS (cAt ks l i).2 3)
   else((cAt ks l i).1++[⟨i,(vAt k.fields (BS (cAt ks l i).2 3) k.fields.length).1⟩],(vAt k.fields (BS (cAt ks l i).2 3) k.fields.length).2)
  |none=>cAt ks l i
def E9(ks:List Kind)(l:List Int):List Comp×List Int:=cAt ks l ks.length
def wAt(ks:List Kind)(l:List Int):Nat->List Int×List Item×List Int
 |0=>([],[],l)
 |i+1=>
  if Bn (BS (wAt ks l i).2.2 3) 4=3\/(wAt ks l i).2.1.length=8 then((wAt ks l i).1++[Bn (wAt ks l i).2.2 3],(wAt ks l i).2.1,BS (BS (wAt ks l i).2.2 3) 4)
  else((wAt ks l i).1++[Bn (wAt ks l i).2.2 3],(wAt ks l i).2.1++[⟨⟨i,Bn (wAt ks l i).2.2 3⟩,(E9 ks (BS (BS (wAt ks l i).2.2 3) 4)).1⟩],(E9 ks (BS (BS (wAt ks l i).2.2 3) 4)).2)
def GF(l:List Int):Wd:=
 ⟨(By l).1,(wAt (By l).1 (BS (By l).2 12) (Bn (By l).2 12).toNat).1,(wAt (By l).1 (BS (By l).2 12) (Bn (By l).2 12).toNat).2.1⟩
def Ie(f:Field):Prop:=0<=f.bits/\f.bits<=32/\ -2147483648<=f.low/\f.low<=2147483648
def K8(ks:List Kind):Prop:=ks.length<=1099511627776/\∀k∈ks,k.fields.length<=1099511627776/\∀f∈k.fields,Ie f
theorem fR(fs:List Field)(l:List Int)(i:Nat):(vAt fs l i).1.length<=i:=by
 induction i with
 |zero=>simp[vAt]
 |succ i ih=>rw[vAt];split<;>(try simp only[AJ,BM])<;>omega
theorem gp(ks:List Kind)(l:List Int)(i:Nat):(cAt ks l i).1.length<=i:=by
 induction i with
 |zero=>simp[cAt]
 |succ i ih=>rw[cAt];split<;>(try split)<;>(try simp only[AJ,BM])<;>omega
theorem Uj{fs:List Field}(h:i<fs.length):vAt fs l (i+1)=((vAt fs l i).1++[fs[i].low+Bn (vAt fs l i).2 (2^fs[i].bits.toNat)],BS (vAt fs l i).2 (2^fs[i].bits.toNat)):=by
 rw[vAt,AX h]
theorem UK{ks:List Kind}(h:i<ks.length)(h2:Bn (cAt ks l i).2 3=2):cAt ks l (i+1)=((cAt ks l i).1,BS (cAt ks l i).2 3):=by
 rw[cAt,AX h];simp only;rw[Ab h2]
theorem UJ{ks:List Kind}(h:i<ks.length)(h2:Bn (cAt ks l i).2 3≠2):cAt ks l (i+1)=((cAt ks l i).1++[⟨i,(vAt ks[i].fields (BS (cAt ks l i).2 3) ks[i].fields.length).1⟩],(vAt ks[i].fields (BS (cAt ks l i).2 3) ks[i].fields.length).2):=by
 rw[cAt,AX h];simp only;rw[AI h2]
theorem SN{b:Nat}(h:b<=32):(1:Int)<=2^b/\(2:Int)^b<=4294967296:=by
 have h1:(2:Nat)^b<=2^32:=FA (by decide) h;have h2:0<(2:Nat)^b:=Nat.pow_pos (by decide);have h3:((2:Int)^b)=(((2:Nat)^b:Nat):Int):=by simp
 rw[h3];have:(2:Nat)^32=4294967296:=by decide
 omega
theorem Vt(G:Nat)(ks:List Kind)(l:List Int)(hk:K8 ks):PO prog 34 [BZ false false ks,.ptr G 0 0] G (DM l) (B3 true false (E9 ks l).1) (DM (E9 ks l).2):=by
 refine Sp (nt:=50) (res:=[.tmp 4]) func34 λSf=>?_
 obtain⟨hk0,hk1⟩:=hk;refine R1 ?_;refine R1 ?_;refine JH ?_;refine AWP.adopt (d:=5) 42 2 rfl λK=>?_
 refine UR (λ(i K:Nat) (M:List AV) (n:Nat) (q:List Int)=>⟨[(1,.ptr G 0 0),(5,.sl K 0 n),(11,BZ false false ks),(12,iA (ks.map (Bd false)).length),(13,iA i)],(K,.row 42 2 M)::(G,DM q)::Sf⟩) (λi _ M n q=>i<=ks.length/\M=(cAt ks l i).1.map (Ae false)/\n=M.length/\q=(cAt ks l i).2) (λi _ _ _ _=>ks.length-i) 0 K [] 0 l ⟨Ap _,rfl,rfl,rfl⟩ ?_;rintro i K M n q ⟨hi,hM,hn,hq⟩;refine KK ?_;refine AC rfl (λhc=>?_) (λhc=>?_)
 ·have h:i<ks.length:=by simpa using hc
  obtain⟨hf0,hf1⟩:=hk1 _ (As h);have h3:=BY q (n:=3) (by decide);have hn1:n+1<=1099511627776:=by have:=gp ks l i;rw[hn,hM,AD];omega
  refine KK ?_;refine Ai λX=>?_;refine KK ?_;refine AOps.o2 (h:=(ES G _ _ (by decide))) (k:=?_);refine KK ?_
  refine AC rfl (λhe=>?_) (λhe=>?_)
  ·have he:Bn q 3=2:=by simpa using he
   refine KK ?_;refine NU (i+1) K M n _ ⟨h,?_,hn,?_⟩
   ·rw[UK h (hq▸he),hM]
   ·rw[UK h (hq▸he),hq]
  ·have he:Bn q 3≠2:=by simpa using he
   refine JJ ?_;refine Ai λY=>?_;refine JB ?_
   refine CM (Y:=Y) 3 1 .here (λF=>.cons (.agg (.s (.cons (.base .nil) .nil))) .nil) λF=>?_
   refine KK ?_;obtain⟨fs,hfs⟩:=nm (ks[i].fields);obtain⟨q1,hq1⟩:=nm (BS q 3);rw[hq1,hfs];have hck:cAt ks l (i+1)=((cAt ks l i).1++[⟨i,(vAt fs q1 fs.length).1⟩],(vAt fs q1 fs.length).2):=by rw[UJ h (hq▸he),<-hq,hq1,hfs]
   rw[hfs]at hf0 hf1;refine UR (λ(j F:Nat) (L:List AV) (m:Nat) (r:List Int)=>⟨[(1,.ptr G 0 0),(5,.sl K 0 n),(6,iA i),(8,.ptr Y 0 0),(11,BZ false false ks),(12,iA (ks.map (Bd false)).length),(13,iA i),(24,GT false fs),(25,iA (fs.map fieldA).length),(26,iA j)],(F,.row 3 1 L)::(Y,.row 42 2 [.agg [iA i,.sl F 0 m]])::(K,.row 42 2 M)::(G,DM r)::Sf⟩) (λj _ L m r=>j<=fs.length/\L=(vAt fs q1 j).1.map iA/\m=L.length/\r=(vAt fs q1 j).2) (λj _ _ _ _=>fs.length-j) 0 F [] 0 q1 ⟨Ap _,rfl,rfl,rfl⟩ ?_;rintro j F L m r ⟨hj,hL,hm,hr⟩;refine KK ?_;refine AC rfl (λhd=>?_) (λhd=>?_)
   ·have hj':j<fs.length:=by simpa using hd
    obtain⟨hb0,hb1,hl0,hl1⟩:=hf1 _ (As hj');obtain⟨b,hb⟩:∃b:Nat,fs[j].bits=b:=⟨fs[j].bits.toNat,by omega⟩;have hp:=SN (b:=b) (by omega);have hw:IntKind.i64.wrap (1*2^b)=2^b:=by rw[Int.one_mul];exact GN (by omega) (by omega)
    have hv:=BY r (n:=IntKind.i64.wrap (1*2^b)) (by omega);have hm1:m+1<=1099511627776:=by have:=fR fs q1 j;rw[hm,hL,AD];omega
    refine KK ?_;refine Ai λZ=>?_;refine KK ?_
    refine CN λX7=>?_
    refine RU ?_;(iterate 7 refine RK ?_);refine RGo.p (W.shl rfl rfl hb (by show b<=64;omega)) rfl ?_;refine RGo.o2 (h:=(ES G _ _ (by rw[hw];omega))) (k:=?_);refine RGo.p (W.add rfl rfl (by omega)) rfl ?_;(iterate 4 refine RK ?_);refine RGo.nil (by kernel_rfl) ?_;refine KK ?_;have hva:vAt fs q1 (j+1)=((vAt fs q1 j).1++[fs[j].low+Bn r (IntKind.i64.wrap (1*2^b))],BS r (IntKind.i64.wrap (1*2^b))):=by rw[Uj hj',<-hr,hw,hb];rfl
    refine NU (j+1) X7 _ _ _ ⟨hj',?_,?_,?_⟩
    ·rw[hva,hL,AK];rfl
    ·rw[AJ,hm]
    ·rw[hva]
   ·have hj':j=fs.length:=by rw[AZ,AD]at hd;omega
    subst hj';refine FL ?_;refine D7 (X:=F) (Y:=Y) .here (.next .here) rfl (.cons (.agg (.s (.cons (.base (.sl (by omega))) .nil))) .nil) ?_
    have hF:AV.frzs ((L.drop 0).take m)=(vAt fs q1 fs.length).1.map iA:=by
     rw[B7,Aj (by omega),hL];exact Frzs.h
    rw[hF]
    (iterate 3 refine WK ?_);refine Dq (Ae false ⟨i,(vAt fs q1 fs.length).1⟩) ?_;refine WK ?_;refine Ay λY=>?_;refine KK ?_
    refine NU (i+1) Y _ _ _ ⟨h,?_,?_,?_⟩
    ·rw[hck,hM,AK];rfl
    ·rw[AJ,hn]
    ·rw[hck,hr]
 ·have h:i=ks.length:=by rw[AZ,AD]at hc;omega
  subst h;refine JC ?_;subst hM hq;exact⟨[.sl K 0 n],[.lst true 42 2 ((cAt ks l ks.length).1.map (Ae false))],_,[(G,DM (cAt ks l ks.length).2)],.cons (.tmp rfl) rfl .nil,.cons (.cell (.sl (p:=0) .here hn)) .nil,by exact BL,rfl,rfl⟩
theorem Pb(ks:List Kind)(l:List Int)(i:Nat):(wAt ks l i).1.length=i:=by
 induction i with
 |zero=>rfl
 |succ i ih=>rw[wAt];split<;>simp[ih]
theorem Uh(ks:List Kind)(l:List Int)(i:Nat):(wAt ks l i).2.1.length<=i:=by
 induction i with
 |zero=>simp[wAt]
 |succ i ih=>rw[wAt];split<;>(try simp only[AJ,BM])<;>omega
def wdO(w:Wd):AV:=.agg [BZ false false w.kinds,Av true w.gens,Km true false w.items]
instance {w:Wd}:Frz (wdO w) (wdA false w):=⟨by unfold wdO wdA;exact Frz.h⟩
theorem UA(i:Nat)(l:List Int):Ie (Ep i l).1:=by
 have h9:=BY l (n:=9) (by decide);have h40:=BY (BS l 9) (n:=40) (by decide);unfold Ep;split<;>refine⟨?_,?_,?_,?_⟩<;>simp<;>omega
theorem gc(i:Nat)(l:List Int):∀f∈(fAt i l).1,Ie f:=by
 induction i with
 |zero=>intro f hf;cases hf
 |succ i ih=>
  intro f hf;rcases AL.1 hf with hf|hf
  ·exact ih f hf
  ·rw[AY.1 hf];exact UA _ _
theorem Vj(k:Nat)(l:List Int):(GR k l).1.fields.length<=3/\∀f∈(GR k l).1.fields,Ie f:=by
 have h:=BY l (n:=3) (by decide);show(DI 0 (1+Bn l 3).toNat (BS l 3)).1.length<=3/\∀f∈(DI 0 (1+Bn l 3).toNat (BS l 3)).1,Ie f
 rw[Ks];exact⟨by rw[Ym];omega,gc _ _⟩
theorem Yd(i:Nat)(l:List Int):∀k∈(kAt i l).1,k.fields.length<=3/\∀f∈k.fields,Ie f:=by
 induction i with
 |zero=>intro f hf;cases hf
 |succ i ih=>
  intro f hf;rcases AL.1 hf with hf|hf
  ·exact ih f hf
  ·rw[AY.1 hf];exact Vj _ _
theorem NZ(l:List Int):(By l).1.length=(1+Bn l 4).toNat:=by rw[H8,Ye]
theorem Kr(l:List Int):K8 (By l).1:=by
 have h:=BY l (n:=4) (by decide);refine⟨by rw[NZ];omega,?_⟩;rw[H8];intro k hk;have:=Yd _ _ k hk;exact⟨by omega,this.2⟩
theorem b8(l:List Int):PS prog 6 [Av false l] (wdO (GF l)):=by
 refine Sp (nt:=52) (res:=[.cell 2 26]) func6 λSf=>?_
 have hko:=Kr l;obtain⟨ks,hks⟩:=nm ((By l).1);obtain⟨l1,hl1⟩:=nm ((By l).2);have h12:=BY l1 (n:=12) (by decide);obtain⟨c,hc⟩:∃c:Nat,Bn l1 12=c:=⟨(Bn l1 12).toNat,by omega⟩;obtain⟨l2,hl2⟩:=nm (BS l1 12);have hg:GF l=⟨ks,(wAt ks l2 c).1,(wAt ks l2 c).2.1⟩:=by unfold GF;rw[hks,hl1,hl2,hc];rfl
 have hkp:=λG=>dE G l
 rw[hks,hl1]at hkp;rw[hks]at hko;rw[hg];clear hg hks hl1;refine JG ?_;refine Ai λR=>?_;refine NL ?_
 refine JJ ?_;refine Ai λG=>?_;refine JB ?_
 refine JG ?_;refine AOps.o1 (h:=(hkp G)) (k:=?_);refine KO ?_;refine Ai λV=>?_;refine JB ?_
 refine JG ?_;refine AOps.o2 (h:=(ES G _ _ (by decide))) (k:=?_);refine JB ?_;rw[hl2,hc];refine CM (Y:=V) 83 3 (by exact Az) (λF=>.cons (.agg (.s (.s (.cons (.base .nil) .nil)))) .nil) λB=>?_
 refine CM (Y:=V) 3 1 (by exact Az) (λF=>.cons (.agg (.s (.cons (.base .nil) .r))) .nil) λA=>?_
 refine FL ?_;refine iM (λ(i A B:Nat) (L M:List AV) (n:Nat) (q:List Int)=>⟨[(2,.ptr R 0 0),(3,.ptr G 0 0),(4,.ptr V 0 0),(13,iA c),(14,iA i)],(A,.row 3 1 L)::(B,.row 83 3 M)::(V,.row 26 3 [.agg [BZ false false ks,.sl A 0 i,.sl B 0 n]])::(G,DM q)::(R,.row 26 3 [.agg [.prim (.slice none 0 0),.prim (.slice none 0 0),.prim (.slice none 0 0)]])::Sf⟩) (λi _ _ L M n q=>i<=c/\L=(wAt ks l2 i).1.map iA/\M=(wAt ks l2 i).2.1.map (AQ false)/\n=M.length/\q=(wAt ks l2 i).2.2) (λi _ _ _ _ _ _=>c-i) 0 A B [] [] 0 l2 ⟨Ap _,rfl,rfl,rfl,rfl⟩ ?_;rintro i A B L M n q ⟨hi,hL,hM,hn,hq⟩;have hA:=Pb ks l2 i;have hB:=Uh ks l2 i;refine KK ?_;refine AC rfl (λhd=>?_) (λhd=>?_)
 ·have h:i<c:=by rw[AS]at hd;omega
  have h3:=BY q (n:=3) (by decide);have h4:=BY (BS q 3) (n:=4) (by decide);refine R1 ?_;refine CN λX7=>?_
  refine JN ?_;refine RGo.o2 (h:=(ES G _ _ (by decide))) (k:=?_);(iterate 4 refine RK ?_);refine RGo.nil (by kernel_rfl) ?_;refine KK ?_;refine AOps.o2 (h:=(ES G _ _ (by decide))) (k:=?_);refine KK ?_;have hLl:L.length=i:=by rw[hL,AD,hA]
  obtain⟨IT,hIT⟩:=nm ((wAt ks l2 i).2.1);rw[hIT]at hM hB;have hnl:n=IT.length:=by rw[hn,hM,AD]
  have hat:(L++[.prim (.int .i64 (Bn q 3))])[i]?=some (.prim (.int .i64 (Bn q 3))):=by rw[<-hLl];simp
  refine AC rfl (λhe=>?_) (λhe=>?_)
  ·have he:Bn (BS q 3) 4=3\/n=8:=by rw[CE,AS,AS]at he;omega
   have hw:wAt ks l2 (i+1)=((wAt ks l2 i).1++[Bn q 3],IT,BS (BS q 3) 4):=by rw[wAt,<-hq,hIT,<-hnl,Ab he]
   refine KK ?_;refine VP (i+1) X7 B _ M n _ ⟨h,?_,?_,hn,?_⟩
   ·rw[hw,hL,AK];rfl
   ·rw[hw,hM]
   ·rw[hw]
  ·have he:¬(Bn (BS q 3) 4=3\/n=8):=by rw[DG,AZ,AZ]at he;omega
   have hw:wAt ks l2 (i+1)=((wAt ks l2 i).1++[Bn q 3],IT++[⟨⟨i,Bn q 3⟩,(E9 ks (BS (BS q 3) 4)).1⟩],(E9 ks (BS (BS q 3) 4)).2):=by rw[wAt,<-hq,hIT,<-hnl,AI he]
   have hin:i<i+[AV.prim (.int .i64 (Bn q 3))].length:=Nat.lt_succ_self i;refine CN λX8=>?_
   refine JN ?_;refine RGo.o2 (h:=(Vt G ks _ hko)) (k:=?_);refine RK ?_;refine H1 (AQ false ⟨⟨i,Bn q 3⟩,(E9 ks (BS (BS q 3) 4)).1⟩) ?_;(iterate 3 refine RK ?_);refine RGo.nil (by kernel_rfl) ?_;refine KK ?_;refine VP (i+1) X7 X8 _ _ _ _ ⟨h,?_,?_,?_,?_⟩
   ·rw[hw,hL,AK];rfl
   ·rw[hw,hM,AK];rfl
   ·rw[AJ,hn]
   ·rw[hw]
 ·have h:i=c:=by rw[AZ]at hd;omega
  subst h;refine JC ?_;subst hL hM;have hA:i=((wAt ks l2 i).1.map iA).length:=by rw[AD,hA]
  exact⟨[.agg [BZ false false ks,.sl A 0 i,.sl B 0 n]],[wdO ⟨ks,(wAt ks l2 i).1,(wAt ks l2 i).2.1⟩],_,[],.cons (.cell (p:=4) rfl (by exact Az) TAg.h TSize.h rfl rfl) rfl .nil,.cons (.agg (.s (.cons (.sl (p:=0) .here hA) (.cons (.sl (p:=0) .here hn) .nil)))) .nil,by exact BL,rfl,rfl⟩
theorem Yr{ks:List Kind}{c:Comp}(h:c∈(cAt ks l i).1):∃(j:Nat) (hj:j<ks.length) (q:List Int),j<i/\c=⟨j,(vAt ks[j].fields q ks[j].fields.length).1⟩:=by
 induction i with
 |zero=>cases h
 |succ i ih=>
  by_cases hi:i<ks.length
  ·by_cases h2:Bn (cAt ks l i).2 3=2
   ·rw[UK hi h2]at h
    obtain⟨j,hj,q,h3,h4⟩:=ih h;exact⟨j,hj,q,by omega,h4⟩
   ·rw[UJ hi h2]at h
    rcases AL.1 h with h|h
    ·obtain⟨j,hj,q,h3,h4⟩:=ih h
     exact⟨j,hj,q,by omega,h4⟩
    ·rw[AY.1 h]
     exact⟨i,hi,_,by omega,rfl⟩
  ·rw[cAt,CD (by omega)]at h
   obtain⟨j,hj,q,h3,h4⟩:=ih h;exact⟨j,hj,q,by omega,h4⟩
theorem YG{ks:List Kind}{it:Item}(h:it∈(wAt ks l i).2.1):∃(j:Nat) (q:List Int),j<i/\(wAt ks l i).1[j]?=some it.ent.gen/\it.ent.n=j/\it.comps=(E9 ks q).1:=by
 induction i with
 |zero=>cases h
 |succ i ih=>
  have hl:=Pb ks l i
  have hup:∀(x:Int) (g:Int) (j:Nat),(wAt ks l i).1[j]?=some g->((wAt ks l i).1++[x])[j]?=some g:=λx g j hg=>by
   rw[Bw (AE.1 hg).1,hg]
  rw[wAt]at h⊢;split
  ·rename_i hs
   rw[Ab hs]at h;obtain⟨j,q,h1,h2,h3,h4⟩:=ih h;exact⟨j,q,by omega,hup _ _ _ h2,h3,h4⟩
  ·rename_i hs
   rw[AI hs]at h;rcases AL.1 h with h|h
   ·obtain⟨j,q,h1,h2,h3,h4⟩:=ih h
    exact⟨j,q,by omega,hup _ _ _ h2,h3,h4⟩
   ·rw[AY.1 h]
    exact⟨i,_,by omega,by rw[BX (by omega),hl];simp,rfl,rfl⟩
theorem QW(l:List Int):(By l).1.length<=4/\∀k∈(By l).1,k.fields.length<=3:=by
 have h:=BY l (n:=4) (by decide);refine⟨by rw[NZ];omega,?_⟩;rw[H8];intro k hk;exact(Yd _ _ k hk).1
theorem IV{ks:List Kind}:∀{l:List Comp} {last:Int},-1<=last->(FQ ks last l=true↔l.Pairwise (λa b=>a.kind<b.kind)/\∀c∈l,last<c.kind/\c.kind<ks.length/\∃k,ks[c.kind.toNat]?=some k/\Dl k c.vals=true)
 |[],_,_=>by simp[FQ]
 |c::l,last,hl=>by
  rw[FQ];constructor
  ·intro h
   split at h
   ·rename_i k hk
    simp only[AH,AS]at h;obtain⟨⟨⟨h1,h2⟩,h3⟩,h4⟩:=h;obtain⟨h5,h6⟩:=(IV (by omega)).1 h4;refine⟨Al.2 ⟨λd hd=>(h6 d hd).1,h5⟩,λd hd=>?_⟩;rcases AP.1 hd with rfl|hd
    ·exact⟨h1,h2,k,hk,h3⟩
    ·obtain⟨q1,q2⟩:=h6 d hd
     exact⟨by omega,q2⟩
   ·cases h
  ·rintro⟨h1,h2⟩
   obtain⟨h3,h4⟩:=Al.1 h1;obtain⟨h5,h6,k,hk,h7⟩:=h2 c (by simp);rw[hk];simp only[AH,AS];exact⟨⟨⟨h5,h6⟩,h7⟩,(IV (by omega)).2 ⟨h4,λd hd=>⟨h3 d hd,(h2 d (by simp[hd])).2⟩⟩⟩
theorem Jt{ks:List Kind}:∀{l:List Item} {last:Int},-1<=last->(EM ks gens last l=true↔l.Pairwise (λa b=>a.ent.n<b.ent.n)/\∀it∈l,last<it.ent.n/\it.ent.n<gens.length/\gens[it.ent.n.toNat]?=some it.ent.gen/\it.ent.gen≠1073741824/\Ce ks it.comps=true)
 |[],_,_=>by simp[EM]
 |c::l,last,hl=>by
  rw[EM];constructor
  ·intro h
   split at h
   ·rename_i k hk
    simp only[AH,AS,EK,AZ]at h;obtain⟨⟨⟨⟨⟨h1,h2⟩,h3⟩,h4⟩,h7⟩,h8⟩:=h;obtain⟨h5,h6⟩:=(Jt (by omega)).1 h8;refine⟨Al.2 ⟨λd hd=>(h6 d hd).1,h5⟩,λd hd=>?_⟩;rcases AP.1 hd with rfl|hd
    ·exact⟨h1,h2,by rw[hk,h3],h4,h7⟩
    ·obtain⟨q1,q2⟩:=h6 d hd
     exact⟨by omega,q2⟩
   ·cases h
  ·rintro⟨h1,h2⟩
   obtain⟨h3,h4⟩:=Al.1 h1;obtain⟨h5,h6,hk,h7,h8⟩:=h2 c (by simp);rw[hk];simp only[AH,AS,EK,AZ];exact⟨⟨⟨⟨⟨h5,h6⟩,CZ⟩,h7⟩,h8⟩,(Jt (by omega)).2 ⟨h4,λd hd=>⟨h3 d hd,(h2 d (by simp[hd])).2⟩⟩⟩
structure WdOK(w:Wd):Prop where
 ks:Bs w.kinds=0
 gl:w.gens.length<=256
 il:w.items.length<=w.gens.length
 gs:∀g∈w.gens,0<=g/\g<=1073741824
 so:w.items.Pairwise λa b=>a.ent.n<b.ent.n
 it:∀it∈w.items,0<=it.ent.n/\it.ent.n<w.gens.length/\w.gens[it.ent.n.toNat]?=some it.ent.gen/\it.ent.gen≠1073741824/\Ce w.kinds it.comps=true
theorem Ck(w:Wd):E6 w=0↔WdOK w:=by
 have hg:Mp w.gens=true↔∀g∈w.gens,0<=g/\g<=1073741824:=by
  unfold Mp;rw[Cr];simp only[AH,AS]
 have hi:=Jt (ks:=w.kinds) (gens:=w.gens) (l:=w.items) (last:=-1) (by omega);unfold E6;constructor
 ·intro h
  split at h
  ·exact absurd h ‹_›
  rename_i h1;split at h
  ·cases h
  rename_i h2;split at h
  ·cases h
  rename_i h3;split at h
  ·cases h
  rename_i h4;obtain⟨h5,h6⟩:=hi.1 (by simpa using h4);exact⟨by simpa using h1,by omega,by omega,hg.1 (by simpa using h3),h5,λit hit=>by obtain⟨a,b⟩:=h6 it hit;exact⟨by omega,b⟩⟩
 ·intro h
  rw[AI (by simp[h.ks]),AI (by have:=h.gl;have:=h.il;omega),AI (by rw[hg.2 h.gs];simp),AI (by rw[hi.2 ⟨h.so,λit hit=>by obtain⟨a,b⟩:=h.it it hit;exact⟨by omega,b⟩⟩];simp)]
theorem dw(ks:List Kind)(l:List Int)(i:Nat):(cAt ks l i).1.Pairwise λa b=>a.kind<b.kind:=by
 induction i with
 |zero=>exact .nil
 |succ i ih=>
  by_cases hi:i<ks.length
  ·by_cases h2:Bn (cAt ks l i).2 3=2
   ·rw[UK hi h2];exact ih
   ·rw[UJ hi h2]
    refine CL.2 ⟨ih,Cm ..,λa ha b hb=>?_⟩;rw[AY.1 hb];obtain⟨j,hj,q,hji,rfl⟩:=Yr ha;show(j:Int)<i
    omega
  ·rw[cAt,CD (by omega)];exact ih
theorem YH{fs:List Field}(hf:∀f∈fs,Bf f=0)(hr:∀f∈fs,Ie f)(l:List Int):∀i,i<=fs.length->List.zipWith Cu (fs.take i) (vAt fs l i).1=(vAt fs l i).1/\(vAt fs l i).1.length=i
 |0,_=>⟨rfl,rfl⟩
 |i+1,h=>by
  obtain⟨h1,h2⟩:=YH hf hr l i (by omega);rw[Uj (by omega)];have hm:=As (l:=fs) (n:=i) (by omega);obtain⟨hb0,hb1,_,_⟩:=hr _ hm;have hp:=SN (b:=fs[i].bits.toNat) (by omega);have hv:=BY (vAt fs l i).2 (n:=2^fs[i].bits.toNat) (by omega);have hh:HM fs[i]=fs[i].low+(2^fs[i].bits.toNat-1):=by unfold HM;rw[Ab (hf _ hm)]
  refine⟨?_,by rw[AJ,h2];rfl⟩;rw[Aw (by omega),List.zipWith_append (by rw[h2,Ba];omega),h1];simp only[J0,List.zipWith_nil_left];rw[YW (hf _ hm) (by omega) (by rw[hh];omega)]
theorem ZO{k:Kind}(h1:C9 k=0)(hf:∀f∈k.fields,Bf f=0)(hr:∀f∈k.fields,Ie f)(l:List Int):Dl k (vAt k.fields l k.fields.length).1=true:=by
 obtain⟨h2,h3⟩:=YH hf hr l k.fields.length (AT _);rw[Bg]at h2;unfold Dl;rw[Nc h1 h3,h2];simp
structure KsGood(ks:List Kind):Prop where
 one:∀k∈ks,C9 k=0
 fld:∀k∈ks,∀f∈k.fields,Bf f=0
 rng:∀k∈ks,∀f∈k.fields,Ie f
theorem MO(l:List Int):KsGood (By l).1:=
 ⟨Oh l,λk hk=>(PA l k hk).1,λk hk=>((Kr l).2 k hk).2⟩
theorem MQ{ks:List Kind}(h:KsGood ks)(l:List Int):Ce ks (E9 ks l).1=true:=by
 unfold Ce;rw[IV (by omega)];refine⟨dw _ _ _,λc hc=>?_⟩;obtain⟨j,hj,q,_,rfl⟩:=Yr hc;have hm:=As hj;exact⟨by show(-1:Int)<(j:Int);omega,by show(j:Int)<_;omega,ks[j],AX hj,ZO (h.one _ hm) (h.fld _ hm) (h.rng _ hm) q⟩
theorem cB(ks:List Kind)(l:List Int)(i:Nat):(wAt ks l i).2.1.Pairwise λa b=>a.ent.n<b.ent.n:=by
 induction i with
 |zero=>exact .nil
 |succ i ih=>
  rw[wAt];split
  ·exact ih
  ·refine CL.2 ⟨ih,Cm ..,λa ha b hb=>?_⟩
   rw[AY.1 hb];obtain⟨j,q,hji,_,e,_⟩:=YG ha;show a.ent.n<(i:Int)
   omega
theorem cC(ks:List Kind)(l:List Int)(i:Nat):∀g∈(wAt ks l i).1,0<=g/\g<3:=by
 induction i with
 |zero=>intro g hg;cases hg
 |succ i ih=>
  intro g hg;rw[wAt]at hg;have h3:=BY (wAt ks l i).2.2 (n:=3) (by decide);split at hg<;>
  ·rcases AL.1 hg with hg|hg
   ·exact ih g hg
   ·rw[AY.1 hg];exact h3
theorem Vh(l:List Int):WdOK (GF l):=by
 have h:=BY (By l).2 (n:=12) (by decide);have h1:=Uh (By l).1 (BS (By l).2 12) (Bn (By l).2 12).toNat;have h2:=Pb (By l).1 (BS (By l).2 12) (Bn (By l).2 12).toNat;have h3:=cC (By l).1 (BS (By l).2 12) (Bn (By l).2 12).toNat;refine⟨QY l,?_,?_,λg hg=>?_,cB _ _ _,λit hit=>?_⟩
 ·exact Bh (Nat.le_of_eq h2) (by omega)
 ·exact Bh h1 (Nat.le_of_eq h2.symm)
 ·have:=h3 g hg;omega
 ·obtain⟨j,q,hji,hg,hn,hc⟩:=YG hit
  have hjl:j<(wAt (By l).1 (BS (By l).2 12) (Bn (By l).2 12).toNat).1.length:=(AE.1 hg).1;have hgm:=h3 _ (B0 hg);refine⟨by omega,?_,?_,by omega,by rw[hc];exact MQ (MO l) q⟩
  ·rw[hn];show(j:Int)<((wAt _ _ _).1.length:Int);omega
  ·rw[hn];exact hg
section
section
variable {α:Type}{key:α->Int}{l a b:List α}
def KS(key:α->Int)(l:List α):Prop:=l.Pairwise λa b=>key a<key b
theorem Ts(h:KS key l){x y:α}(hx:x∈l)(hy:y∈l)(e:key x=key y):x=y:=by
 induction l with
 |nil=>cases hx
 |cons z l ih=>
  obtain⟨h1,h2⟩:=Al.1 h;rcases AP.1 hx with q|q<;>rcases AP.1 hy with r|r
  ·rw[q,r]
  ·subst q;have:=h1 y r;omega
  ·subst r;have:=h1 x q;omega
  ·exact ih h2 q r
theorem dC:∀{a b:List α},KS key a->KS key b->(∀x,x∈a↔x∈b)->a=b
 |[],[],_,_,_=>rfl
 |[],y::b,_,_,h=>absurd ((h y).2 (by simp)) (by simp)
 |x::a,[],_,_,h=>absurd ((h x).1 (by simp)) (by simp)
 |x::a,y::b,ha,hb,h=>by
  obtain⟨a1,a2⟩:=Al.1 ha;obtain⟨b1,b2⟩:=Al.1 hb
  have e:x=y:=by
   rcases AP.1 ((h x).1 (by simp))with e|h1
   ·exact e
   ·rcases AP.1 ((h y).2 (by simp))with e|h2
    ·exact e.symm
    ·have:=b1 x h1;have:=a1 y h2;omega
  subst e;rw[dC a2 b2 λz=>?_];constructor
  ·intro hz
   rcases AP.1 ((h z).1 (by simp[hz]))with e|h1
   ·have:=a1 z hz;rw[e]at this;omega
   ·exact h1
  ·intro hz
   rcases AP.1 ((h z).2 (by simp[hz]))with e|h1
   ·have:=b1 z hz;rw[e]at this;omega
   ·exact h1
theorem Pi{y:α}(hi:l[i]?=some y):l=l.take i++y::l.drop (i+1):=by
 obtain⟨h,rfl⟩:=AE.1 hi;rw[<-Dp h,B8]
theorem QD{y:α}(h:KS key l)(hi:l[i]?=some y):KS key (l.take i)/\KS key (l.drop (i+1))/\(∀x∈l.take i,key x<key y)/\(∀x∈l.drop (i+1),key y<key x)/\∀x,x∈l↔x∈l.take i\/x=y\/x∈l.drop (i+1):=by
 have e:=Pi hi;have h':=h;rw[e]at h';obtain⟨h1,h2,h3⟩:=CL.1 h';obtain⟨h4,h5⟩:=Al.1 h2;refine⟨h1,h5,λx hx=>h3 x hx y (by simp),h4,λx=>?_⟩
 conv=>lhs;rw[e]
 simp
theorem dD{y:α}(h:KS key l)(hi:l[i]?=some y):KS key (l.eraseIdx i)/\∀x,x∈l.eraseIdx i↔x∈l/\key x≠key y:=by
 obtain⟨h1,h2,h3,h4,h5⟩:=QD h hi;refine⟨h.sublist (List.eraseIdx_sublist _ _),λx=>?_⟩;rw[GM,Eq,h5];constructor
 ·rintro(hx|hx)
  ·exact⟨.inl hx,by have:=h3 x hx;omega⟩
  ·exact⟨.inr (.inr hx),by have:=h4 x hx;omega⟩
 ·rintro⟨hx|rfl|hx,hn⟩
  ·exact .inl hx
  ·exact absurd rfl hn
  ·exact .inr hx
theorem dB{y z:α}(h:KS key l)(hi:l[i]?=some y)(hk:key z=key y):KS key (l.set i z)/\∀x,x∈l.set i z↔x=z\/(x∈l/\key x≠key z):=by
 obtain⟨h1,h2,h3,h4,h5⟩:=QD h hi;obtain⟨hl,_⟩:=AE.1 hi;have e:l.set i z=l.take i++z::l.drop (i+1):=List.set_eq_take_append_cons_drop.trans (Ab hl);rw[e];refine⟨CL.2 ⟨h1,Al.2 ⟨λx hx=>by have:=h4 x hx;omega,h2⟩,λx hx w hw=>?_⟩,λx=>?_⟩
 ·rcases AP.1 hw with rfl|hw
  ·have:=h3 x hx;omega
  ·have:=h3 x hx;have:=h4 w hw;omega
 ·rw[h5,Eq,Df]
  constructor
  ·rintro(hx|rfl|hx)
   ·exact .inr ⟨.inl hx,by have:=h3 x hx;omega⟩
   ·exact .inl rfl
   ·exact .inr ⟨.inr (.inr hx),by have:=h4 x hx;omega⟩
  ·rintro(rfl|⟨hx|rfl|hx,hn⟩)
   ·exact .inr (.inl rfl)
   ·exact .inl hx
   ·exact absurd hk.symm hn
   ·exact .inr (.inr hx)
theorem gE(h:KS key l){x:α}:(l.find? λy=>decide (key y=n))=some x↔x∈l/\key x=n:=by
 constructor
 ·intro e
  exact⟨im e,by simpa using List.find?_some e⟩
 ·rintro⟨hx,e⟩
  cases hf:l.find? λy=>decide (key y=n)with
  |none=>rw[JT]at hf;exact absurd (by simpa using e) (hf x hx)
  |some z=>rw[Ts h hx (im hf) (by have:=List.find?_some hf;simp at this;omega)]
end
theorem held_iff{ks:List Kind}{l:List Comp}:Ce ks l=true↔FI l/\∀c∈l,0<=c.kind/\c.kind<ks.length/\∃k,ks[c.kind.toNat]?=some k/\Dl k c.vals=true:=by
 unfold Ce;rw[IV (by omega)];constructor
 ·rintro⟨h1,h2⟩
  exact⟨h1,λc hc=>⟨by have:=(h2 c hc).1;omega,(h2 c hc).2⟩⟩
 ·rintro⟨h1,h2⟩
  exact⟨h1,λc hc=>⟨by have:=(h2 c hc).1;omega,(h2 c hc).2⟩⟩
theorem NX{c:Comp}:∀{l:List Comp},FI l->∀d,d∈KI l c↔d=c\/(d∈l/\d.kind≠c.kind)
 |[],_,d=>by simp[KI]
 |x::l,h,d=>by
  obtain⟨h1,h2⟩:=Al.1 h;rw[KI];split
  ·rename_i hx
   rw[Df,NX h2,Df];constructor
   ·rintro(rfl|rfl|⟨hd,hn⟩)
    ·exact .inr ⟨.inl rfl,by omega⟩
    ·exact .inl rfl
    ·exact .inr ⟨.inr hd,hn⟩
   ·rintro(rfl|⟨rfl|hd,hn⟩)
    ·exact .inr (.inl rfl)
    ·exact .inl rfl
    ·exact .inr (.inr ⟨hd,hn⟩)
  ·split
   ·rename_i hx
    rw[Df,Df];constructor
    ·rintro(rfl|hd)
     ·exact .inl rfl
     ·exact .inr ⟨.inr hd,by have:=h1 d hd;omega⟩
    ·rintro(rfl|⟨rfl|hd,hn⟩)
     ·exact .inl rfl
     ·exact absurd hx hn
     ·exact .inr hd
   ·rw[Df,Df]
    constructor
    ·rintro(rfl|rfl|hd)
     ·exact .inl rfl
     ·exact .inr ⟨.inl rfl,by omega⟩
     ·exact .inr ⟨.inr hd,by have:=h1 d hd;omega⟩
    ·rintro(rfl|⟨hd,hn⟩)
     ·exact .inl rfl
     ·exact .inr hd
theorem OF{c:Comp}:∀{l:List Comp},FI l->FI (KI l c)
 |[],_=>Cm ..
 |x::l,h=>by
  obtain⟨h1,h2⟩:=Al.1 h;rw[KI];split
  ·rename_i hx
   refine Al.2 ⟨λd hd=>?_,OF h2⟩;rcases(NX h2 d).1 hd with rfl|⟨hd,_⟩
   ·exact hx
   ·exact h1 d hd
  ·split
   ·rename_i hx
    exact Al.2 ⟨λd hd=>by have:=h1 d hd;omega,h2⟩
   ·refine Al.2 ⟨λd hd=>?_,h⟩
    rcases AP.1 hd with rfl|hd
    ·omega
    ·have:=h1 d hd;omega
theorem bB{l:List Comp}(d:Comp):d∈KJ l k↔d∈l/\d.kind≠k:=by
 unfold KJ;rw[Eu];simp
theorem Xe{l:List Comp}(h:FI l):FI (KJ l k):=List.Pairwise.filter _ h
theorem Zt{a b:List Comp}(ha:FI a)(hb:FI b)(h:∀x,x∈a↔x∈b):a=b:=dC (key:=Comp.kind) ha hb h
theorem Hp{l:List Comp}(h:FI l){c:Comp}:Dj l k=some c↔c∈l/\c.kind=k:=gE (key:=Comp.kind) h
theorem dQ{ks:List Kind}{l:List Comp}{c:Comp}(h:Ce ks l=true)(h1:0<=c.kind)(h2:c.kind<ks.length){k:Kind}(h3:ks[c.kind.toNat]?=some k)(h4:Dl k c.vals=true):Ce ks (KI l c)=true:=by
 obtain⟨hs,hm⟩:=held_iff.1 h;refine held_iff.2 ⟨OF hs,λd hd=>?_⟩;rcases(NX hs d).1 hd with rfl|⟨hd,_⟩
 ·exact⟨h1,h2,k,h3,h4⟩
 ·exact hm d hd
theorem Sg{ks:List Kind}{l:List Comp}(h:Ce ks l=true):Ce ks (KJ l k)=true:=by
 obtain⟨hs,hm⟩:=held_iff.1 h;exact held_iff.2 ⟨Xe hs,λd hd=>hm d ((bB d).1 hd).1⟩
theorem Tt{pre ks:List Kind}(h:Dy pre ks=0):∀k∈ks,C9 k=0:=by
 induction ks generalizing pre with
 |nil=>intro k hk;cases hk
 |cons x l ih=>
  intro k hk;simp only[Dy]at h;split at h
  ·exact absurd h ‹_›
  ·rename_i hx
   split at h
   ·cases h
   ·rcases AP.1 hk with rfl|hk
    ·simpa using hx
    ·exact ih h k hk
theorem CQ{ks:List Kind}(h:Bs ks=0):ks.length<=16/\∀k∈ks,C9 k=0:=by
 unfold Bs at h;split at h
 ·cases h
 ·exact⟨by omega,Tt h⟩
def Mu(ks:List Kind)(c:Comp):Comp:=match ks[c.kind.toNat]? with
 |some k=>⟨c.kind,(DB k c.vals).1⟩
 |none=>c
theorem OL(ks:List Kind)(c:Comp):(Mu ks c).kind=c.kind:=by unfold Mu;split<;>rfl
def Ns(ks:List Kind)(c:Comp):Prop:=0<=c.kind/\c.kind<ks.length/\∃k,ks[c.kind.toNat]?=some k/\(DB k c.vals).2=0
theorem UC{ks:List Kind}{c:Comp}{k:Kind}(h:ks[c.kind.toNat]?=some k):Mu ks c=⟨c.kind,(DB k c.vals).1⟩:=by
 unfold Mu;rw[h]
theorem Qd{ks:List Kind}:∀{l pre out:List Comp},(∀c∈l,Ns ks c)->l.Pairwise (λa b=>a.kind≠b.kind)->(∀a∈pre,∀b∈l,a.kind≠b.kind)->FR ks pre out l=(out++l.map (Mu ks),0)
 |[],pre,out,_,_,_=>by simp[FR]
 |c::l,pre,out,h1,h2,h3=>by
  obtain⟨a,b,k,hk,hf⟩:=h1 c (by simp);obtain⟨h4,h5⟩:=Al.1 h2
  have hany:pre.any (λo=>decide (o.kind=c.kind))=false:=by
   rw[CW];intro x hx;simpa using h3 x hx c (by simp)
  rw[FR,AI (by omega),hany,AI (by simp),hk];dsimp only;rw[AI (by simp[hf]),Qd (λd hd=>h1 d (by simp[hd])) h5 (λx hx d hd=>?_),Aa,UC hk]
  ·simp
  ·rcases AL.1 hx with hx|hx
   ·exact h3 x hx d (by simp[hd])
   ·rw[AY.1 hx];exact h4 d hd
theorem R6{ks:List Kind}(hk:Bs ks=0){l:List Comp}(h1:∀c∈l,Ns ks c)(h2:l.Pairwise (λa b=>a.kind≠b.kind)):Eb ks l=(LB (l.map (Mu ks)),0):=by
 unfold Eb;rw[AI (by simp[hk]),Qd h1 h2 (λ_ h=>by cases h),AI (by simp)];rfl
theorem QJ{l:List Comp}(h:FI l):LB l=l:=
 (QI (h.imp λh=>by omega) (List.Perm.refl _) (h.imp λh=>by omega)).symm
theorem G8{k:Kind}{v:List Int}(h:Dl k v=true):DB k v=(v,0):=by
 unfold Dl at h;simp only[AH,AS]at h;exact Prod.ext h.2 h.1
theorem G9{k:Kind}{v:List Int}(h:(DB k v).2=0):Dl k (DB k v).1=true/\(DB k v).1=List.zipWith Cu k.fields v/\v.length=k.fields.length:=by
 unfold DB at h⊢;split at h
 ·exact absurd h ‹_›
 ·rename_i h1
  have h1:C9 k=0:=by simpa using h1
  split at h
  ·cases h
  ·rename_i h2
   have h2:v.length=k.fields.length:=by simpa using h2
   rw[AI (by simp[h1]),AI (by simp[h2])];refine⟨?_,rfl,h2⟩;unfold Dl;rw[Nc h1 (by simp[h2]),aK (GB h1).2.2];simp
theorem db{ks:List Kind}{l:List Comp}(h:Ce ks l=true):(∀c∈l,Ns ks c)/\l.Pairwise (λa b=>a.kind≠b.kind)/\l.map (Mu ks)=l:=by
 obtain⟨hs,hm⟩:=held_iff.1 h;refine⟨λc hc=>?_,hs.imp λh=>by omega,?_⟩
 ·obtain⟨a,b,k,hk,hh⟩:=hm c hc
  exact⟨a,b,k,hk,by rw[G8 hh]⟩
 ·conv=>rhs;rw[<-List.map_id l]
  refine EF λc hc=>?_
  obtain⟨a,b,k,hk,hh⟩:=hm c hc;rw[UC hk,G8 hh];rfl
theorem Nz{ks:List Kind}(hk:Bs ks=0){l:List Comp}(h:Ce ks l=true):Eb ks l=(l,0):=by
 obtain⟨h1,h2,h3⟩:=db h;rw[R6 hk h1 h2,h3,QJ (held_iff.1 h).1]
theorem Pa{ks:List Kind}(hk:Bs ks=0){c:Comp}(h:Ns ks c):Eb ks [c]=([Mu ks c],0):=by
 rw[R6 hk (λd hd=>by rw[AY.1 hd];exact h) (Cm ..)];show(LB [Mu ks c],(0:Int))=_
 rw[QJ (Cm ..)]
theorem XY{ks:List Kind}{c:Comp}(h:Ns ks c):∃k,ks[(Mu ks c).kind.toNat]?=some k/\Dl k (Mu ks c).vals=true:=by
 obtain⟨_,_,k,hk,hf⟩:=h;refine⟨k,by rw[OL];exact hk,?_⟩;rw[UC hk];exact(G9 hf).1
def Yz(l:List Item):Prop:=KS (λit=>it.ent.n) l
theorem Nd{l:List Item}(h:Yz l){it:Item}(hi:l[i]?=some it):Ez l it.ent=i:=by
 by_cases hn:Ez l it.ent<0
 ·have:=Qe hn
  rw[JT]at this;exact absurd (by simp) (this it (B0 hi))
 ·obtain⟨n,hn⟩:∃n:Nat,Ez l it.ent=n:=⟨(Ez l it.ent).toNat,by omega⟩
  obtain⟨x,hx,_,e⟩:=Kt hn;rw[hn];have e2:=Ts h (B0 hx) (B0 hi) (by rw[e]);subst e2;obtain⟨a,ha⟩:=AE.1 hx;obtain⟨b,hb⟩:=AE.1 hi;have hp:=CJ.1 h;rcases FN n i with q|q|q
  ·have:=hp n i a b q;rw[ha,hb]at this;omega
  ·rw[q]
  ·have:=hp i n b a q;rw[ha,hb]at this;omega
theorem Mc{w:Wd}{it:Item}(hi:w.items[i]?=some it)(cs:List Comp):Gl w i cs=⟨w.kinds,w.gens,w.items.set i ⟨it.ent,cs⟩⟩:=by
 unfold Gl;rw[hi]
theorem Mb{w:Wd}(h:WdOK w){it:Item}(hi:w.items[i]?=some it){cs:List Comp}(hc:Ce w.kinds cs=true):WdOK (Gl w i cs):=by
 rw[Mc hi];obtain⟨h1,h2⟩:=dB (key:=λit:Item=>it.ent.n) h.so hi (z:=⟨it.ent,cs⟩) rfl;refine⟨h.ks,h.gl,by simpa using h.il,h.gs,h1,λx hx=>?_⟩;rcases(h2 x).1 hx with rfl|⟨hx,_⟩
 ·obtain⟨a,b,c,d,e⟩:=h.it it (B0 hi)
  exact⟨a,b,c,d,hc⟩
 ·exact h.it x hx
theorem cV{w:Wd}(h:WdOK w){it:Item}(hi:w.items[i]?=some it){c:Comp}(hc:Ns w.kinds c):Ga w it.ent c=(Gl w i (KI it.comps (Mu w.kinds c)),0):=by
 unfold Ga;have hf:=Nd h.so hi;rw[AI (by simp[(Ck w).2 h]),hf,AI (by omega),Pa h.ks hc,AI (by simp),B4,hi]
theorem cU{w:Wd}(h:WdOK w){it:Item}(hi:w.items[i]?=some it){c:Comp}(hc:Ns w.kinds c):WdOK (Gl w i (KI it.comps (Mu w.kinds c))):=by
 obtain⟨k,hk,hh⟩:=XY hc;have hit:=h.it it (B0 hi);have hcc:=hc;obtain⟨a,b,_⟩:=hcc;exact Mb h hi (dQ hit.2.2.2.2 (by rw[OL];exact a) (by rw[OL];exact b) hk hh)
theorem Su{w:Wd}(h:WdOK w){it:Item}(hi:w.items[i]?=some it)(k:Int):I2 w it.ent k=if(Dj it.comps k).isSome then(Gl w i (KJ it.comps k),0)else(⟨[],[],[]⟩,4):=by
 unfold I2;have hf:=Nd h.so hi;rw[AI (by simp[(Ck w).2 h]),hf,AI (by omega),B4,hi]
theorem cG{l:List Item}(h:LK l n=false):∀x∈l,x.ent.n≠n:=by
 unfold LK at h;rw[CW]at h;intro x hx;simpa using h x hx
theorem Ms{w:Wd}(hw:WdOK w)(h:(DS w).2=true):(DS w).1<=w.gens.length/\(∀x∈w.items,x.ent.n≠((DS w).1:Nat))/\(DS w).1<256/\∀g,w.gens[(DS w).1]?=some g->g<1073741824:=by
 have hg:=hw.gl;unfold DS at h⊢;split at h
 ·rename_i n hn
  unfold Sh at hn;rw[Ka]at hn;obtain⟨h1,i,h2,h3,h4⟩:=hn;simp only[List.getElem_range]at h3;subst h3;rw[Y6]at h2;simp only[AH,EK,AS]at h1;refine⟨by dsimp only;omega,cG h1.1,by dsimp only;omega,λg hgg=>?_⟩;dsimp only at hgg;have:=h1.2;rw[Ct,hgg]at this;exact this
 ·have h:w.gens.length<256:=by dsimp only at h;rw[AS]at h;omega
  refine⟨AT _,λx hx=>?_,h,λg hgg=>?_⟩
  ·have:=(hw.it x hx).2.1
   dsimp only;omega
  ·rw[CD (AT _)]at hgg;cases hgg
theorem QN{it:Item}:∀{l:List Item} (x:Item),x∈OE l it↔x=it\/x∈l
 |[],x=>by simp[OE]
 |y::l,x=>by
  rw[OE];split
  ·rw[Df,QN,Df]
   constructor
   ·rintro(h|h|h)
    ·exact .inr (.inl h)
    ·exact .inl h
    ·exact .inr (.inr h)
   ·rintro(h|h|h)
    ·exact .inr (.inl h)
    ·exact .inl h
    ·exact .inr (.inr h)
  ·rw[Df]
theorem Sc{it:Item}:∀{l:List Item},Yz l->(∀x∈l,x.ent.n≠it.ent.n)->Yz (OE l it)
 |[],_,_=>Cm ..
 |y::l,h,hn=>by
  obtain⟨h1,h2⟩:=Al.1 h;rw[OE];split
  ·rename_i hy
   refine Al.2 ⟨λx hx=>?_,Sc h2 λx hx=>hn x (by simp[hx])⟩;rcases(QN x).1 hx with rfl|hx
   ·exact hy
   ·exact h1 x hx
  ·rename_i hy
   have:=hn y (by simp);refine Al.2 ⟨λx hx=>?_,h⟩;show it.ent.n<x.ent.n
   rcases AP.1 hx with rfl|hx
   ·omega
   ·have:y.ent.n<x.ent.n:=h1 x hx
    omega
theorem dW{n:Nat}(h:n<=gens.length):n<(FH gens n).length/\(FH gens n)[n]?=some ((FH gens n).getD n 0)/\gens.length<=(FH gens n).length/\(∀j,j<gens.length->(FH gens n)[j]?=gens[j]?)/\(∀g∈FH gens n,g∈gens\/g=0)/\(FH gens n).length<=max gens.length (n+1):=by
 unfold FH;split
 ·rename_i e
  subst e;refine⟨by simp,by simp[Ct],by simp,λj hj=>Bw hj,λg hg=>?_,by simp⟩;rcases AL.1 hg with h|h
  ·exact .inl h
  ·exact .inr (AY.1 h)
 ·refine⟨by omega,?_,AT _,λ_ _=>rfl,λg hg=>.inl hg,by omega⟩
  rw[Ct,AX (by omega)];rfl
theorem Wi{w:Wd}(h:WdOK w)(hf:(DS w).2=true){l:List Comp}{cs:List Comp}(hl:Eb w.kinds l=(cs,0)):
  GP w l=(⟨w.kinds,FH w.gens (DS w).1,OE w.items ⟨⟨(DS w).1,(FH w.gens (DS w).1).getD (DS w).1 0⟩,cs⟩⟩,⟨(DS w).1,(FH w.gens (DS w).1).getD (DS w).1 0⟩,0):=by
 unfold GP;rw[AI (by simp[(Ck w).2 h]),hl,AI (by simp),AI (by simp[hf])]
theorem Pj{w:Wd}(h:WdOK w)(hf:(DS w).2=true){cs:List Comp}(hc:Ce w.kinds cs=true):
  WdOK ⟨w.kinds,FH w.gens (DS w).1,OE w.items ⟨⟨(DS w).1,(FH w.gens (DS w).1).getD (DS w).1 0⟩,cs⟩⟩:=by
 obtain⟨f1,f2,f3,f4⟩:=Ms h hf;obtain⟨n,hn⟩:=nm ((DS w).1);rw[hn]at f1 f2 f3 f4⊢;obtain⟨g1,g2,g3,g4,g5,g6⟩:=dW f1
 have hgs:∀g∈FH w.gens n,0<=g/\g<=1073741824:=λg hg=>by
  rcases g5 g hg with hg|rfl
  ·exact h.gs g hg
  ·omega
 have hso:Yz (OE w.items ⟨⟨n,(FH w.gens n).getD n 0⟩,cs⟩):=Sc h.so f2
 have hit:∀x∈OE w.items ⟨⟨n,(FH w.gens n).getD n 0⟩,cs⟩,0<=x.ent.n/\x.ent.n<(FH w.gens n).length/\(FH w.gens n)[x.ent.n.toNat]?=some x.ent.gen/\x.ent.gen≠1073741824/\Ce w.kinds x.comps=true:=λx hx=>by
  rcases(QN x).1 hx with rfl|hx
  ·refine⟨by dsimp only;omega,by dsimp only;omega,by dsimp only;rw[B4];exact g2,?_,hc⟩
   dsimp only;intro e;rw[e]at g2;by_cases hnl:n<w.gens.length
   ·rw[g4 n hnl]at g2
    have:=f4 _ g2;omega
   ·unfold FH at e
    rw[Ab (by omega),Ct,show n=w.gens.length by omega]at e;simp at e
  ·obtain⟨a,b,c,d,e⟩:=h.it x hx
   exact⟨a,by omega,by rw[g4 _ (by omega)];exact c,d,e⟩
 refine⟨h.ks,?_,?_,hgs,hso,hit⟩
 ·have:=h.gl
  dsimp only;omega
 ·exact LT (λx:Item=>x.ent.n) _ _ (hso.imp λ{a b} h=>by have h:a.ent.n<b.ent.n:=h;show a.ent.n≠b.ent.n;omega) λx hx=>⟨(hit x hx).1,(hit x hx).2.1⟩
theorem Sb{w:Wd}(h:WdOK w){it:Item}(hi:w.items[i]?=some it):Hk w it.ent=(⟨w.kinds,w.gens.set it.ent.n.toNat (w.gens.getD it.ent.n.toNat 0+1),w.items.eraseIdx i⟩,0):=by
 unfold Hk;have hf:=Nd h.so hi;rw[AI (by simp[(Ck w).2 h]),hf,AI (by omega),B4]
theorem Yc{w:Wd}(h:WdOK w){it:Item}(hi:w.items[i]?=some it):WdOK ⟨w.kinds,w.gens.set it.ent.n.toNat (w.gens.getD it.ent.n.toNat 0+1),w.items.eraseIdx i⟩:=by
 obtain⟨h1,h2⟩:=dD (key:=λx:Item=>x.ent.n) h.so hi;obtain⟨a,b,c,d,e⟩:=h.it it (B0 hi);have hg:=h.gs it.ent.gen (B0 c);have hgd:w.gens.getD it.ent.n.toNat 0=it.ent.gen:=by rw[Ct,c];rfl
 refine⟨h.ks,by simpa using h.gl,?_,λg hgm=>?_,h1,λx hx=>?_⟩
 ·have:=h.il
  have:=List.length_eraseIdx_le w.items i;simp only[Ev];omega
 ·rcases M9 hgm with hgm|rfl
  ·exact h.gs g hgm
  ·rw[hgd];omega
 ·obtain⟨hx,hn⟩:=(h2 x).1 hx
  obtain⟨a',b',c',d',e'⟩:=h.it x hx;exact⟨a',by simpa using b',by rw[CX (by omega)];exact c',d',e'⟩
theorem R5{ks:List Kind}{c:Comp}(h:(Eb ks [c]).2=0):∃d,(Eb ks [c]).1=[d]/\d.kind=c.kind/\0<=c.kind/\c.kind<ks.length:=by
 unfold Eb at h⊢;split at h
 ·exact absurd h ‹_›
 ·rename_i h1
  rw[AI h1];split at h
  ·exact absurd h ‹_›
  ·rename_i h2
   rw[AI h2];have h2:(FR ks [] [] [c]).2=0:=by simpa using h2
   rw[FR]at h2⊢;split at h2
   ·cases h2
   ·rename_i g1
    rw[AI g1];rw[AI (by simp)]at h2⊢;split at h2
    ·cases h2
    ·rename_i k hk
     split at h2
     ·exact absurd h2 ‹_›
     ·rename_i g3
      (try simp only[hk])
      rw[AI g3,FR];refine⟨⟨c.kind,(DB k c.vals).1⟩,?_,rfl,by omega,by omega⟩;show LB [_]=_
      exact QJ (Cm ..)
theorem Gx{ks:List Kind}(hk:Bs ks=0){l:List Comp}(h:Ce ks l=true):l.length<=16/\∀c∈l,c.vals.length<=8:=by
 obtain⟨hs,hm⟩:=held_iff.1 h;obtain⟨h16,ho⟩:=CQ hk;refine⟨Bh (LT Comp.kind _ _ (hs.imp λh=>by omega) λc hc=>⟨(hm c hc).1,(hm c hc).2.1⟩) h16,λc hc=>?_⟩;obtain⟨_,_,k,hk2,hh⟩:=hm c hc;have h8:=(GB (ho k (B0 hk2))).2.1;have:=G9 (k:=k) (v:=c.vals) (by rw[G8 hh]);omega
theorem WdOK.wl{w:Wd}(h:WdOK w):WdL w:=by
 obtain⟨h16,ho⟩:=CQ h.ks;refine⟨⟨by omega,λk hk=>by have:=(GB (ho k hk)).2.1;omega⟩,by have:=h.gl;omega,by have:=h.gl;have:=h.il;omega,λit hit=>?_⟩;obtain⟨h1,h2⟩:=Gx h.ks (h.it it hit).2.2.2.2;exact⟨by omega,λc hc=>by have:=h2 c hc;omega⟩
theorem NY(l:List Int):0<(By l).1.length:=by
 have h:=BY l (n:=4) (by decide)
 have:∀i c q,(Cb i c q).1.length=c:=by
  intro i c
  induction c generalizing i with
  |zero=>intro q;rfl
  |succ c ih=>intro q;simp only[Cb,Bl,ih]
 unfold By;rw[this];omega
theorem cI{p:α->Bool}:∀{l:List α} {i:Nat},i<=l.length->(∀(j:Nat) (x:α),j<i->l[j]?=some x->p x=true)->(∀x,l[i]?=some x->p x=false)->(l.takeWhile p).length=i
 |[],i,h,_,_=>by(have:i=0:=by simpa using h);(subst this;rfl)
 |x::l,0,_,_,h2=>by rw[IM,h2 x rfl];rfl
 |x::l,i+1,h,h1,h2=>by
  rw[IM,h1 0 x (by omega) rfl];show(l.takeWhile p).length+1=i+1
  rw[cI (i:=i) (by simpa using h) (λj y hj hy=>h1 (j+1) y (by omega) hy) (λy hy=>h2 y hy)]
theorem Yi{d:Comp}:∀{l:List Comp},FI l->KI l d=if(Dj l d.kind).isSome then l.set (FD l d.kind) d else l.take (FD l d.kind)++d::l.drop (FD l d.kind)
 |[],_=>rfl
 |x::l,h=>by
  obtain⟨h1,h2⟩:=Al.1 h;have ih:=Yi (d:=d) h2
  have ec:Dj (x::l) d.kind=if x.kind=d.kind then some x else Dj l d.kind:=by
   unfold Dj;rw[RZ];by_cases e:x.kind=d.kind<;>simp[e]
  have ea:FD (x::l) d.kind=if x.kind<d.kind then FD l d.kind+1 else 0:=by
   unfold FD;rw[IM];by_cases e:x.kind<d.kind<;>simp[e]
  rw[KI,ec,ea];by_cases e1:x.kind<d.kind
  ·have e3:¬x.kind=d.kind:=by omega
   rw[Ab e1,Ab e1,AI e3,ih];split<;>simp
  ·rw[AI e1,AI e1]
   by_cases e2:x.kind=d.kind
   ·rw[Ab e2,Ab e2];rfl
   ·rw[AI e2,AI e2,OQ (λc hc=>by have:=h1 c hc;omega)];rfl
theorem Vq:∀{l:List Comp},FI l->(Dj l k).isSome=true->KJ l k=l.eraseIdx (FD l k)
 |[],_,hn=>by cases hn
 |x::l,h,hn=>by
  obtain⟨h1,h2⟩:=Al.1 h
  have ec:Dj (x::l) k=if x.kind=k then some x else Dj l k:=by
   unfold Dj;rw[RZ];by_cases e:x.kind=k<;>simp[e]
  have ea:FD (x::l) k=if x.kind<k then FD l k+1 else 0:=by
   unfold FD;rw[IM];by_cases e:x.kind<k<;>simp[e]
  have ed:KJ (x::l) k=if x.kind=k then KJ l k else x::KJ l k:=by
   unfold KJ;rw[List.filter_cons];by_cases e:x.kind=k<;>simp[e]
  rw[ec]at hn;rw[ea,ed];by_cases e2:x.kind=k
  ·have e3:¬x.kind<k:=by omega
   rw[Ab e2,AI e3];show KJ l k=l
   unfold KJ;rw[FX];intro c hc;have:=h1 c hc;simp;omega
  ·rw[AI e2]at hn
   by_cases e1:x.kind<k
   ·rw[AI e2,Ab e1,Vq h2 hn];rfl
   ·rw[OQ (λc hc=>by have:=h1 c hc;omega)]at hn;cases hn
end
def Hw(n:Nat):List UInt8:=match n with
 |0=>[111,110,101]
 |1=>[116,119,111]
 |2=>[116,104,114,101,101]
 |3=>[102,111,117,114]
 |4=>[102,105,118,101]
 |_=>[115,105,120]
def Rq(ks:List Kind)(i:Int):Int:=match ks[i.toNat]? with
 |some k=>k.fields.length
 |none=>0
def Jk(ks:List Kind)(seen:List Int)(l:List Int):Arg×List Int:=
 if Bn l 2=0 then(⟨false,Bn (BS l 2) 20-6,⟨0,0⟩⟩,BS (BS l 2) 20)
 else(⟨true,0,⟨seen.getD (Bn (BS l 2) seen.length).toNat 0,Bn (BS (BS l 2) seen.length) (Rq ks (seen.getD (Bn (BS l 2) seen.length).toNat 0))⟩⟩,
  BS (BS (BS l 2) seen.length) (Rq ks (seen.getD (Bn (BS l 2) seen.length).toNat 0)))
def Nn(ks:List Kind)(r:Ref):Prop:=0<=r.kind/\r.kind<ks.length/\0<=r.field/\r.field<Rq ks r.kind
def TL(ks:List Kind)(seen:List Int)(a:Arg):Prop:=(a.has=true->a.n=0/\Nn ks a.ref/\a.ref.kind∈seen)/\(a.has=false-> -6<=a.n/\a.n<=13/\a.ref=⟨0,0⟩)
def KN:Arg:=⟨false,0,⟨0,0⟩⟩
def MK(d:Int):Bool:=(decide (1<=d)&&decide (d<=6))||decide (d=12)
structure OpOK(ks:List Kind)(reads writes:List Int)(o:Op):Prop where
 lo:0<=o.act
 hi:o.act<=12
 a:TL ks (reads++writes) o.a
 b:if MK o.act then TL ks (reads++writes) o.b else o.b=KN
 sets:o.act<=7->Nn ks o.to/\o.to.kind∈writes
 puts:o.act=8\/o.act=9->0<=o.to.kind/\o.to.kind<ks.length/\o.to.field=0
 none:10<=o.act->o.to=⟨0,0⟩
structure SysL(w1 w2 w3 w4:List Int)(n:Int):Prop where
 o1:w1.Pairwise (· < ·)
 o2:w2.Pairwise (· < ·)
 o3:w3.Pairwise (· < ·)
 o4:w4.Pairwise (· < ·)
 r1:∀x∈w1,0<=x/\x<n
 r2:∀x∈w2,0<=x/\x<n
 d:∀x∈w1,x∉w2
 s3:∀x∈w3,x∈w1
 s4:∀x∈w4,x∈w1
 all:∀x∈w1,x∈w3\/x∈w4
structure SysOK(ks:List Kind)(n:Nat)(s:Sys):Prop where
 name:s.name=Hw n
 lists:SysL s.wth s.wout s.reads s.writes ks.length
 some:s.wth≠[]
 len:s.ops.length<=5
 ops:∀o∈s.ops,OpOK ks s.reads s.writes o
 spawn:s.spawn=[]\/∃q,s.spawn=(E9 ks q).1
theorem SysL.nil(n:Int):SysL [] [] [] [] n:=⟨.nil,.nil,.nil,.nil,by simp,by simp,by simp,by simp,by simp,by simp⟩
theorem SysL.weaken{w1 w2 w3 w4:List Int}{n m:Int}(h:SysL w1 w2 w3 w4 n)(hm:n<=m):SysL w1 w2 w3 w4 m:=
 ⟨h.o1,h.o2,h.o3,h.o4,λx hx=>⟨(h.r1 x hx).1,by have:=(h.r1 x hx).2;omega⟩,λx hx=>⟨(h.r2 x hx).1,by have:=(h.r2 x hx).2;omega⟩,h.d,h.s3,h.s4,h.all⟩
theorem NN(h:l.Pairwise (· < ·))(hn:∀x∈l,x<n):(l++[n]).Pairwise (· < ·):=
 CL.2 ⟨h,Cm _ _,λx hx y hy=>by rw[AY.1 hy];exact hn x hx⟩
theorem SysL.read{w1 w2 w3 w4:List Int}(h:SysL w1 w2 w3 w4 n)(h0:0<=n):SysL (w1++[n]) w2 (w3++[n]) w4 (n+1):=by
 refine⟨NN h.o1 λx hx=>(h.r1 x hx).2,h.o2,NN h.o3 λx hx=>(h.r1 x (h.s3 x hx)).2,h.o4,?_,λx hx=>⟨(h.r2 x hx).1,by have:=(h.r2 x hx).2;omega⟩,?_,?_,?_,?_⟩
 ·intro x hx
  rcases AL.1 hx with hx|hx
  ·have:=h.r1 x hx;omega
  ·rw[AY.1 hx];omega
 ·intro x hx hx2
  rcases AL.1 hx with hx|hx
  ·exact h.d x hx hx2
  ·have:=h.r2 x hx2;rw[AY.1 hx]at this;omega
 ·intro x hx
  rcases AL.1 hx with hx|hx
  ·simp[h.s3 x hx]
  ·simp[AY.1 hx]
 ·intro x hx;simp[h.s4 x hx]
 ·intro x hx
  rcases AL.1 hx with hx|hx
  ·rcases h.all x hx with h|h<;>simp[h]
  ·simp[AY.1 hx]
theorem SysL.write{w1 w2 w3 w4:List Int}(h:SysL w1 w2 w3 w4 n)(h0:0<=n):SysL (w1++[n]) w2 w3 (w4++[n]) (n+1):=by
 refine⟨NN h.o1 λx hx=>(h.r1 x hx).2,h.o2,h.o3,NN h.o4 λx hx=>(h.r1 x (h.s4 x hx)).2,?_,λx hx=>⟨(h.r2 x hx).1,by have:=(h.r2 x hx).2;omega⟩,?_,?_,?_,?_⟩
 ·intro x hx
  rcases AL.1 hx with hx|hx
  ·have:=h.r1 x hx;omega
  ·rw[AY.1 hx];omega
 ·intro x hx hx2
  rcases AL.1 hx with hx|hx
  ·exact h.d x hx hx2
  ·have:=h.r2 x hx2;rw[AY.1 hx]at this;omega
 ·intro x hx;simp[h.s3 x hx]
 ·intro x hx
  rcases AL.1 hx with hx|hx
  ·simp[h.s4 x hx]
  ·simp[AY.1 hx]
 ·intro x hx
  rcases AL.1 hx with hx|hx
  ·rcases h.all x hx with h|h<;>simp[h]
  ·simp[AY.1 hx]
theorem SysL.without{w1 w2 w3 w4:List Int}(h:SysL w1 w2 w3 w4 n)(h0:0<=n):SysL w1 (w2++[n]) w3 w4 (n+1):=by
 refine⟨h.o1,NN h.o2 λx hx=>(h.r2 x hx).2,h.o3,h.o4,λx hx=>⟨(h.r1 x hx).1,by have:=(h.r1 x hx).2;omega⟩,?_,?_,h.s3,h.s4,h.all⟩
 ·intro x hx
  rcases AL.1 hx with hx|hx
  ·have:=h.r2 x hx;omega
  ·rw[AY.1 hx];omega
 ·intro x hx hx2
  rcases AL.1 hx2 with hx2|hx2
  ·exact h.d x hx hx2
  ·have:=h.r1 x hx;rw[AY.1 hx2]at this;omega
theorem SysL.zero{w2 w3 w4:List Int}(h:SysL [] w2 w3 w4 n)(h0:1<=n):SysL [0] (w2.filter λx=>!decide (x=0)) w3 [0] n:=by
 refine⟨Cm _ _,h.o2.sublist List.filter_sublist,h.o3,Cm _ _,by simp;omega,λx hx=>h.r2 x (Eu.1 hx).1,by simp,?_,by simp,by simp⟩;intro x hx;exact absurd (h.s3 x hx) (by simp)
def Fz{α:Type}(f:α->AV)(z:AV)(l:List α)(i:Nat):List AV:=(l.take i).map f++List.replicate (l.length-i) z
theorem Jh(f:α->AV)(z:AV)(l:List α):Fz f z l 0=List.replicate l.length z:=by simp[Fz]
theorem Qf(f:α->AV)(z:AV)(l:List α)(i:Nat)(h:i<=l.length):(Fz f z l i).length=l.length:=by simp[Fz];omega
theorem L5(f:α->AV)(z:AV)(l:List α)(h:i<l.length):(Fz f z l i)[i]?=some z:=by
 unfold Fz;rw[BX (by simp;omega)];simp only[AD,Ba,B6 (Nat.le_of_lt h),Co];rw[JS,Ab (by omega)]
theorem Ku(f:α->AV)(z:AV)(l:List α)(h:i<l.length):(Fz f z l i).set i (f l[i])=Fz f z l (i+1):=by
 unfold Fz;rw[Fv _ _ (by simp;omega),EJ,AX h];simp only[AD,Ba,B6 (Nat.le_of_lt h),Co,M5,AK,Aa,CO,Aq]
 congr 1
 rw[show l.length-i=(l.length-(i+1))+1 from by omega,IN];rfl
theorem Kv(f:α->AV)(z:AV)(l:List α)(h:l.length<=i):Fz f z l i=l.map f:=by
 unfold Fz;rw[Aj h,show l.length-i=0 from by omega];simp
theorem HO(l:List Comp)(hl:l.length<=1099511627776)(hv:∀c∈l,c.vals.length<=1099511627776):PS prog 42 [B3 false false l] (B3 true false l):=by
 refine Sp (nt:=27) (res:=[.tmp 2]) func42 λSf=>?_
 have hl':(l.map (Ae false)).length<=1099511627776:=by simpa using hl
 (iterate 8 refine WK ?_);refine I9 (.agg [iA 0,.prim (.slice none 0 0)]) λK=>?_;refine KK ?_
 refine Cd (λi:Nat=>⟨[(3,.sl K 0 (l.map (Ae false)).length),(9,B3 false false l),(10,iA (l.map (Ae false)).length),(11,iA i)],(K,.row 42 2 (Fz (Ae false) (.agg [iA 0,.prim (.slice none 0 0)]) l i))::Sf⟩) (λi=>i<=l.length) (λi=>l.length-i) 0 (Ap _) ?_ ⟨by(repeat (first|exact .nil|refine .cons (by first|rfl|assumption) ?_)),by rw[Jh,<-AD (f:=Ae false)];exact BL⟩;rintro i hi;refine KK ?_;refine AC rfl (λhc=>?_) (λhc=>?_)
 ·have h:i<l.length:=by simpa using hc
  have hm:i<(l.map (Ae false)).length:=by simpa using h
  have hat:=L5 (Ae false) (.agg [iA 0,.prim (.slice none 0 0)]) l h;refine KK ?_;refine Ai λX=>?_;refine KK ?_
  refine JN ?_;refine K7 (h:=(In _ (by have:=hv _ (As h);omega))) (k:=?_);(iterate 3 refine RK ?_);refine RGo.nil (by kernel_rfl) ?_;refine KK ?_;have hs:=Ku (Ae false) (.agg [iA 0,.prim (.slice none 0 0)]) l h;refine cz (i+1) h ?_;dsimp only;rw[<-hs];exact BL
 ·have h:l.length<=i:=by rw[AZ,AD]at hc;omega
  rw[Kv _ _ _ h];refine JC ?_;exact⟨[.sl K 0 (l.map (Ae false)).length],[.lst true 42 2 (l.map (Ae false))],_,[],.cons (.tmp rfl) rfl .nil,.cons (.cell (.sl (p:=0) .here rfl)) .nil,by exact BL,rfl,rfl⟩
def aP(x:UInt64):UInt64:=(x^^^(x>>>UInt64.ofNat 31))*7640891576956012809
def jA(x:UInt64):UInt64:=(x^^^(x>>>UInt64.ofNat 27))*13503953896175478587
def HK(x:UInt64):UInt64:=jA (aP x)^^^(jA (aP x)>>>UInt64.ofNat 30)
theorem N9(x:UInt64):PS prog 193 [uA x] (uA (HK x)):=by
 refine Sp (nt:=17) (res:=[.tmp 2]) func193 λSf=>?_
 refine R1 ?_;refine JG ?_;refine WO ?_;refine AOps.p (Eg 31 (by omega) rfl rfl rfl) rfl ?_;refine AOps.p (Kz rfl rfl) rfl ?_;refine AOps.p (F5 (b:=7640891576956012809) rfl rfl) rfl ?_;refine JB ?_;rw[show(x^^^(x>>>UInt64.ofNat 31))*7640891576956012809=aP x from rfl];refine JG ?_;refine WO ?_;refine AOps.p (Eg 27 (by omega) rfl rfl rfl) rfl ?_;refine AOps.p (Kz rfl rfl) rfl ?_;refine AOps.p (F5 (b:=13503953896175478587) rfl rfl) rfl ?_;refine JB ?_;rw[show(aP x^^^(aP x>>>UInt64.ofNat 27))*13503953896175478587=jA (aP x)from rfl];refine JG ?_;refine WO ?_;refine AOps.p (Eg 30 (by omega) rfl rfl rfl) rfl ?_;refine AOps.p (Kz rfl rfl) rfl ?_;refine JB ?_;refine RT ?_;refine Ah ?_;rfl
def NV(a b:UInt64):UInt64:=HK (HK (a+5840696475078001361)*11170449401992604703+b)
theorem PK(a b:UInt64):PS prog 216 [uA a,uA b] (uA (NV a b)):=by
 have h1:=N9 (a+5840696475078001361);have h2:=N9 (HK (a+5840696475078001361)*11170449401992604703+b);refine Sp (nt:=12) (res:=[.tmp 4]) func216 λSf=>?_
 refine R1 ?_;refine JG ?_;refine AOps.p (HQ (b:=5840696475078001361) rfl rfl) rfl ?_;refine BE (h:=h1) (k:=?_);refine AOps.p (F5 (b:=11170449401992604703) rfl rfl) rfl ?_;refine WO ?_;refine AOps.p (HQ rfl rfl) rfl ?_;refine BE (h:=h2) (k:=?_);refine WO ?_;refine FL ?_;refine RT ?_;refine Ah ?_;rfl
def WU(l:List UInt64):UInt64:=l.foldl NV (NV 5840696475078001361 (UInt64.ofNat l.length))
theorem b9(l:List UInt64)(hl:l.length<=1099511627776):PS prog 212 [.lst false 72 1 (l.map uA)] (uA (WU l)):=by
 have hlm:(l.map uA).length=l.length:=AD _;have h1:=PK 5840696475078001361 (UInt64.ofNat (l.map uA).length);refine Sp (nt:=21) (res:=[.tmp 2]) func212 λSf=>?_
 refine R1 ?_
 (iterate 4 refine WK ?_);refine AOps.p (Ge .i64 (l.map uA).length rfl (by omega) (by kernel_rfl) (by kernel_rfl) rfl) rfl ?_;refine BO (h:=(h1 ..)) (k:=?_);refine KK ?_
 refine Cq (λ(i:Nat) (s:UInt64)=>⟨[(3,uA s),(10,.lst false 72 1 (l.map uA)),(11,iA (l.map uA).length),(12,iA i)],Sf⟩) (λi s=>i<=l.length/\(l.drop i).foldl NV s=WU l) (λi _=>l.length-i) 0 (NV 5840696475078001361 (UInt64.ofNat (l.map uA).length)) ⟨Ap _,by rw[hlm];rfl⟩ ?_;rintro i s ⟨hi,hs⟩;refine KK ?_;refine AC rfl (λhc=>?_) (λhc=>?_)
 ·have h:i<l.length:=by rw[AS,hlm]at hc;omega
  have hat:(l.map uA)[i]?=some (uA l[i]):=by rw[Ac,AX h];rfl
  have h2:=PK s l[i];refine KK ?_;refine BO (h:=(h2 ..)) (k:=?_);refine KK ?_;refine CA (i+1) _ ⟨h,?_⟩;rw[<-hs,Dp h];rfl
 ·have h:i=l.length:=by rw[AZ,hlm]at hc;omega
  rw[h,CY]at hs;refine JC ?_;refine Ah ?_;rw[<-hs];rfl
def fU(l:List Int):UInt64:=WU (l.map UInt64.ofInt)
theorem fT(l:List Int)(hl:l.length<=1099511627776):PS prog 148 [Av false l] (uA (fU l)):=by
 have hlm:(l.map iA).length=l.length:=AD _;have hw:=b9 (l.map UInt64.ofInt) (by rw[AD];omega);have hz0:List.replicate (l.map iA).length (uA 0)=Fz (λx=>uA (UInt64.ofInt x)) (uA 0) l 0:=by rw[Jh,hlm]
 refine Sp (nt:=24) (res:=[.tmp 2]) func148 λSf=>?_
 (iterate 8 refine WK ?_);refine I9 ((uA 0)) λK=>?_;refine KK ?_
 rw[hz0];refine Cq (λ(i:Nat) (M:List AV)=>⟨[(3,.sl K 0 (l.map iA).length),(9,Av false l),(10,iA (l.map iA).length),(11,iA i)],(K,.row 72 1 M)::Sf⟩) (λi M=>i<=l.length/\M=Fz (λx=>uA (UInt64.ofInt x)) (uA 0) l i) (λi _=>l.length-i) 0 _ ⟨Ap _,rfl⟩ ?_;rintro i M ⟨hi,hM⟩;refine KK ?_;refine AC rfl (λhc=>?_) (λhc=>?_)
 ·have h:i<l.length:=by rw[AS,hlm]at hc;omega
  have hat:(l.map iA)[i]?=some (iA l[i]):=by rw[Ac,AX h];rfl
  have hset:=Ku (λx=>uA (UInt64.ofInt x)) (uA 0) l h;have hMat:M[i]?=some (uA 0):=by rw[hM];exact L5 _ _ _ h
  have hil:i<(l.map iA).length:=by omega
  (iterate 16 refine WK ?_);refine AOps.p (TB .i64 (by kernel_rfl) (by kernel_rfl) rfl) rfl ?_;refine KK ?_
  refine CA (i+1) _ ⟨h,?_⟩;rw[hM];exact hset
 ·have h:i=l.length:=by rw[AZ,hlm]at hc;omega
  subst h;rw[Kv _ _ _ (AT _)]at hM;have hM2:M=(l.map UInt64.ofInt).map uA:=by rw[hM,Ch];rfl
  subst hM2;have hlen:(l.map iA).length=((l.map UInt64.ofInt).map uA).length:=by simp
  refine FL ?_;refine KW 3 ((l.map UInt64.ofInt).map uA) Frzs.h ?_;refine KK ?_;refine BE (h:=(hw ..)) (k:=?_);refine JC ?_;refine Ah ?_;rfl
def Ko:UInt64:=11400714819323198485
def SE(s:UInt64)(n:Int):UInt64:=HK (s+Ko)^^^UInt64.ofInt n
def Mf(r:UInt64×UInt64):AV:=.agg [uA r.1,uA r.2]
instance {r:UInt64×UInt64}:Frz (Mf r) (Mf r):=⟨rfl⟩
def KC(l:List Int):UInt64×UInt64:=(HK (l.foldl SE (UInt64.ofNat l.length)+Ko),HK (HK (l.foldl SE (UInt64.ofNat l.length)+Ko)+Ko)|||1)
theorem cS(l:List Int)(hl:l.length<=1099511627776):PS prog 136 [Av false l] (Mf (KC l)):=by
 have hlm:(l.map iA).length=l.length:=AD _;refine Sp (nt:=31) (res:=[.cell 2 233]) func136 λSf=>?_
 refine JG ?_;refine Ai λR=>?_;refine NL ?_
 (iterate 4 refine WK ?_);refine AOps.p (Ge .i64 (l.map iA).length rfl (by omega) (by kernel_rfl) (by kernel_rfl) rfl) rfl ?_;refine KK ?_
 obtain⟨e,he⟩:=nm (l.foldl SE (UInt64.ofNat l.length));refine Cq (λ(i:Nat) (s:UInt64)=>⟨[(2,.ptr R 0 0),(3,uA s),(9,Av false l),(10,iA (l.map iA).length),(11,iA i)],(R,.row 233 2 [.agg [uA 0,uA 0]])::Sf⟩) (λi s=>i<=l.length/\(l.drop i).foldl SE s=e) (λi _=>l.length-i) 0 (UInt64.ofNat (l.map iA).length) ⟨Ap _,by rw[hlm];exact he⟩ ?_;rintro i s ⟨hi,hs⟩;refine KK ?_;refine AC rfl (λhc=>?_) (λhc=>?_)
 ·have h:i<l.length:=by rw[AS,hlm]at hc;omega
  have hat:(l.map iA)[i]?=some (iA l[i]):=by rw[Ac,AX h];rfl
  have h1:=N9 (s+Ko);refine R1 ?_;refine WK ?_;refine WK ?_;refine AOps.p (HQ (b:=Ko) rfl rfl) rfl ?_;refine BE (h:=(h1 ..)) (k:=?_);refine WK ?_;refine AOps.p (TB .i64 (by kernel_rfl) (by kernel_rfl) rfl) rfl ?_;refine AOps.p (Kz rfl rfl) rfl ?_;refine KK ?_;refine CA (i+1) (SE s l[i]) ⟨h,?_⟩;rw[<-hs,Dp h];rfl
 ·have h:i=l.length:=by rw[AZ,hlm]at hc;omega
  rw[h,CY]at hs;have hs:s=e:=hs;subst hs;have h1:=N9 (s+Ko);refine JG ?_;refine AOps.p (HQ (b:=Ko) rfl rfl) rfl ?_;refine BE (h:=(h1 ..)) (k:=?_);refine JB ?_;have h2:=N9 (HK (s+Ko)+Ko);refine JG ?_;refine WO ?_;refine AOps.p (HQ (b:=Ko) rfl rfl) rfl ?_;refine BE (h:=(h2 ..)) (k:=?_);refine AOps.p (Oq (b:=1) rfl rfl) rfl ?_;refine JE ?_;refine RT ?_;unfold KC;rw[he];exact Cp [Mf (HK (s+Ko),HK (HK (s+Ko)+Ko)|||1)] [Mf (HK (s+Ko),HK (HK (s+Ko)+Ko)|||1)] (.cons (.agg .r) .nil)
def Fd(r:UInt64×UInt64):UInt64×UInt64:=(r.1+r.2,r.2)
theorem Wz(r:UInt64×UInt64):PS prog 259 [Mf r] (.tup [uA (HK (Fd r).1),Mf (Fd r)]):=by
 have h1:=N9 (r.1+r.2);refine Sp (nt:=14) (res:=[.tmp 2,.cell 3 233]) func259 λSf=>?_
 refine JG ?_;refine Ai λR=>?_;refine KO ?_;refine Ai λR=>?_;refine NL ?_
 refine RG ?_;(iterate 4 refine WO ?_);refine AOps.p (HQ rfl rfl) rfl ?_;refine JE ?_;refine RU ?_;refine JK ?_;refine K7 (h:=h1) (k:=?_);(iterate 3 refine RK ?_);refine RGo.nil (by kernel_rfl) ?_;refine RT ?_;exact Cp [uA (HK (r.1+r.2)),Mf (Fd r)] [uA (HK (r.1+r.2)),Mf (Fd r)] (.cons (.cell .same) (.cons (.agg .r) .nil))
section
open Go.Sort
theorem CR[Inhabited α](f:α->AV){d:Array α}(h:i<d.size):(d.toList.map f)[i]?=some (f d[i]!):=by
 rw[Ac,AX (by simpa using h)];simp[RV d i h]
theorem FM[Inhabited α](f:α->AV){d:Array α}{i j:Nat}(hi:i<d.size)(hj:j<d.size):((d.toList.map f).set i (f d[j]!)).set j (f d[i]!)=(swp d i j).toList.map f:=by
 unfold swp;simp[Array.toList_setIfInBounds,BK]
theorem Ed[Inhabited α](f:α->AV){d:Array α}{i j:Nat}(hj:j<d.size)(x:α):∃y,((d.toList.map f).set i (f x))[j]?=some (f y):=by
 by_cases e:i=j
 ·subst e;exact⟨x,BU (by simpa using hj)⟩
 ·exact⟨d[j]!,by rw[CX e];exact CR f hj⟩
def BF{α:Type}(cf:α->α->Int)(x y:α):Bool:=decide (cf x y<0)
instance:Inhabited Comp:=⟨⟨0,[]⟩⟩
instance:Inhabited Item:=⟨⟨⟨0,0⟩,[]⟩⟩
theorem KE[Inhabited α](lt:α->α->Bool)(d:Array α)(a b s:Nat):(order2 lt d a b s).2.2<=s+1:=by
 unfold order2;split<;>simp
theorem N7[Inhabited α](lt:α->α->Bool)(d:Array α)(a b s m:Nat)(ha:a<m)(hb:b<m):(order2 lt d a b s).1<m/\(order2 lt d a b s).2.1<m:=by
 unfold order2;split<;>exact⟨by assumption,by assumption⟩
theorem OA[Inhabited α](lt:α->α->Bool)(d:Array α)(a b c s:Nat):(median lt d a b c s).2<=s+3:=by
 have e1:=KE lt d a b s;have e2:=KE lt d (order2 lt d a b s).2.1 c (order2 lt d a b s).2.2;have e3:=KE lt d (order2 lt d a b s).1 (order2 lt d (order2 lt d a b s).2.1 c (order2 lt d a b s).2.2).1 (order2 lt d (order2 lt d a b s).2.1 c (order2 lt d a b s).2.2).2.2;unfold median;dsimp only;omega
theorem OB[Inhabited α](lt:α->α->Bool)(d:Array α)(a s m:Nat)(h:a+1<m):(medianAdjacent lt d a s).1<m:=by
 rcases medianAdjacent_mem lt d a s with e|e|e<;>omega
def ig:Hint->Int
 |.unknown=>0
 |.increasing=>1
 |.decreasing=>2
end
section
open Go.Sort
def lenTab:List UInt8:=(List.range 256).map λn=>UInt8.ofNat (if n=0 then 0 else Nat.log2 n+1)
theorem SZ{n:Nat}(h:n<256):((lenTab.getD n 0).toNat:Int)=bitsLen n:=by
 have h1:lenTab.getD n 0=UInt8.ofNat (bitsLen n):=by
  unfold lenTab;rw[Ct,Ac,List.getElem?_range h];rfl
 have h2:bitsLen n<=8:=(bitsLen_le_iff n 8).2 (by omega);rw[h1,UInt8.toNat_ofNat'];omega
theorem XM:lenTab.length=256:=by simp[lenTab]
theorem Q1{x:Nat}(h:256<=x):bitsLen (x/256)+8=bitsLen x:=by
 have a:=(bitsLen_le_iff (x/256) (bitsLen x-8)).2 (by
  have h1:=lt_two_pow_bitsLen x
  have h2:8<bitsLen x:=by
   have:=(bitsLen_le_iff x 8);omega
  have h3:2^bitsLen x=2^(bitsLen x-8)*256:=by rw[show(256:Nat)=2^8 from rfl,<-Nat.pow_add];congr 1;omega
  omega)
 have b:=(bitsLen_le_iff x (bitsLen (x/256)+8)).2 (by
  have h1:=lt_two_pow_bitsLen (x/256);rw[Nat.pow_add];omega)
 have h2:8<bitsLen x:=by
  have:=(bitsLen_le_iff x 8);omega
 omega
set_option maxRecDepth 100000 in
theorem dA(x:UInt64)(hx:x.toNat<65536):PS prog 182 [uA x] (iA (bitsLen x.toNat)):=by
 refine Sp (nt:=25) (res:=[.tmp 2]) func182 λSf=>?_
 refine KK ?_;refine AB rfl (Au (by omega)) ?_;refine KK ?_;refine AB rfl (Au (by omega)) ?_;refine KK ?_;refine DR (λb:UInt64×Nat=>b.1.toNat<256/\bitsLen b.1.toNat+b.2=bitsLen x.toNat/\b.2<=8) (λb=>⟨[(0,uA b.1),(2,iA b.2)],Sf⟩) ?_ ?_
 ·refine AC rfl (λh=>?_) (λh=>?_)
  ·have h:256<=x.toNat:=by have:=AM h;omega
   have hs:(x>>>UInt64.ofNat 8).toNat=x.toNat/256:=by
    rw[DP,Ax,show 8%2^64%64=8 from rfl,DA]
   (iterate 3 refine WK ?_);refine AOps.p (Eg 8 (by omega) rfl rfl rfl) rfl ?_;refine KK ?_
   refine jn (x>>>UInt64.ofNat 8,8) ⟨by dsimp only;omega,?_,by(try dsimp only);omega⟩;dsimp only;rw[hs];exact Q1 h
  ·have h:¬256<=x.toNat:=by have:=AU h;omega
   refine WK ?_;exact jn (x,0) ⟨by dsimp only;omega,rfl,by(try dsimp only);omega⟩
 ·rintro⟨u,m⟩ ⟨h1,h2,h3⟩
  dsimp only at h1 h2 h3⊢;have hw:IntKind.u8.wrap ((u.toNat:Nat):Int)=((u.toNat:Nat):Int):=by rw[IntKind.wrap_u8'];omega
  have hat:=SZ h1;have hb8:bitsLen u.toNat<=8:=(bitsLen_le_iff _ 8).2 (by omega);have hw2:IntKind.i64.wrap ((lenTab.getD u.toNat 0).toNat:Int)=((bitsLen u.toNat:Nat):Int):=by rw[hat];exact GN (by omega) (by omega)
  (iterate 4 refine WK ?_);refine AOps.p (W.convW .u64 .u8 _ (by kernel_rfl) (by kernel_rfl) hw rfl) rfl ?_;refine WK ?_;refine AOps.p (W.convW .u8 .i64 _ (by kernel_rfl) (by kernel_rfl) hw2 rfl) rfl ?_;refine AOps.p (Cc ((bitsLen x.toNat:Nat):Int) (by omega) (by omega) rfl rfl) rfl ?_;refine KK ?_
  refine RT ?_;refine Ah ?_;rfl
theorem XK(x:UInt64)(hx:x.toNat<65536):PS prog 130 [uA x] (iA (bitsLen x.toNat)):=by
 have h:=dA x hx;refine Sp (nt:=8) (res:=[.tmp 2]) func130 λSf=>?_
 refine KK ?_;refine AB rfl rfl ?_;refine KK ?_;refine BE (h:=(h ..)) (k:=?_);refine JC ?_;refine Ah ?_;rfl
theorem XD(n:Nat)(hn:n<65536):PS prog 233 [iA n] (uA ((1:UInt64)<<<UInt64.ofNat (bitsLen n))):=by
 have e:(UInt64.ofNat n).toNat=n:=by rw[Ax];omega
 have h:=XK (UInt64.ofNat n) (by rw[e];exact hn);rw[e]at h;have hb:bitsLen n<=16:=(bitsLen_le_iff n 16).2 (by omega);refine Sp (nt:=7) (res:=[.tmp 2]) func233 λSf=>?_
 (iterate 7 refine WK ?_);refine AOps.p (Ge .i64 n rfl (by omega) (by kernel_rfl) (by kernel_rfl) rfl) rfl ?_;refine BE (h:=(h ..)) (k:=?_);refine AOps.p (I5 (a:=1) (bitsLen n) (by omega) rfl rfl rfl) rfl ?_;refine KK ?_
 refine RT ?_;refine Ah ?_;rfl
theorem WT(Y:Nat)(s:UInt64):Spec prog 234 [.ptr Y 0 0] [(Y,.row 331 1 [uA s])] λr S'=>∃v:UInt64,True/\r=uA v/\S'=[(Y,.row 331 1 [uA v])]:=by
 refine Sp (nt:=33) (res:=[.tmp 2]) func234 λSf=>?_
 refine R1 ?_;refine RU ?_;(iterate 6 refine RK ?_);refine RGo.p (I5 13 (by omega) rfl rfl rfl) rfl ?_;refine RGo.p (Kz rfl rfl) rfl ?_;refine JK ?_;refine RGo.nil (by kernel_rfl) ?_;(repeat refine WF ?_);refine RU ?_;(iterate 6 refine RK ?_);refine RGo.p (Eg 7 (by omega) rfl rfl rfl) rfl ?_;refine RGo.p (Kz rfl rfl) rfl ?_;refine JK ?_;refine RGo.nil (by kernel_rfl) ?_;(repeat refine WF ?_);refine RU ?_;(iterate 6 refine RK ?_);refine RGo.p (I5 17 (by omega) rfl rfl rfl) rfl ?_;refine RGo.p (Kz rfl rfl) rfl ?_;refine JK ?_;refine RGo.nil (by kernel_rfl) ?_;refine JC ?_;exact Ends.sp [uA _] [(Y,_)] ⟨_,CZ,rfl,rfl⟩
end
section
open Go.Sort
def Gd(a:Int):Int:=if 1099511627776<(if a< -1099511627776 then-1099511627776 else a)then 1099511627776 else if a< -1099511627776 then-1099511627776 else a
theorem Ng(a:Int): -1099511627776<=Gd a/\Gd a<=1099511627776:=by unfold Gd;split<;>split<;>omega
theorem I4(a:Int):PS prog 265 [iA a] (iA (Gd a)):=by
 refine Sp (nt:=6) (res:=[.tmp 2]) func265 λSf=>?_
 refine JC ?_;refine Ah ?_;rfl
def Tq(a:Int):UInt64:=UInt64.ofNat a.natAbs
theorem XH(a:Int)(h: -1099511627776<=a/\a<=1099511627776):PS prog 267 [iA a] (uA (Tq a)):=by
 refine Sp (nt:=10) (res:=[.tmp 2]) func267 λSf=>?_
 unfold Tq;by_cases hn:a<0
 ·refine KK ?_
  refine An rfl (BP hn) ?_;refine JG ?_;refine AOps.p (Xx (-a) rfl (by omega) rfl) rfl ?_;refine AOps.p (Ge .i64 a.natAbs (by omega) (by omega) (by kernel_rfl) (by kernel_rfl) rfl) rfl ?_;refine JB ?_;refine RT ?_;refine Ah ?_;rfl
 ·refine KK ?_
  refine AB rfl (Au hn) ?_
  (iterate 4 refine WK ?_);refine AOps.p (Ge .i64 a.natAbs (by omega) (by omega) (by kernel_rfl) (by kernel_rfl) rfl) rfl ?_;refine KK ?_
  refine RT ?_;refine Ah ?_;rfl
def VL(x y:UInt64):UInt64:=
 (x>>>UInt64.ofNat 32)*(y>>>UInt64.ofNat 32)+(((x>>>UInt64.ofNat 32)*(y&&&4294967295)+((x&&&4294967295)*(y&&&4294967295))>>>UInt64.ofNat 32)>>>UInt64.ofNat 32)+
  ((((x>>>UInt64.ofNat 32)*(y&&&4294967295)+((x&&&4294967295)*(y&&&4294967295))>>>UInt64.ofNat 32)&&&4294967295)+(x&&&4294967295)*(y>>>UInt64.ofNat 32))>>>UInt64.ofNat 32
theorem ct(x y:UInt64):PS prog 268 [uA x,uA y] (.tup [uA (VL x y),uA (x*y)]):=by
 refine Sp (nt:=51) (res:=[.tmp 4,.tmp 5]) func268 λSf=>?_
 refine R1 ?_;refine JG ?_;refine AOps.p (Ht (b:=4294967295) rfl rfl) rfl ?_;refine JB ?_;refine JG ?_;refine AOps.p (Eg 32 (by omega) rfl rfl rfl) rfl ?_;refine JB ?_;refine JG ?_;refine AOps.p (Ht (b:=4294967295) rfl rfl) rfl ?_;refine JB ?_;refine JG ?_;refine AOps.p (Eg 32 (by omega) rfl rfl rfl) rfl ?_;refine JB ?_;refine JG ?_;refine WO ?_;refine AOps.p (F5 rfl rfl) rfl ?_;refine JB ?_;refine RG ?_;(repeat first|(refine Bm ?_;first|refine AOps.p (F5 rfl rfl) rfl ?_|refine AOps.p (Eg 32 (by omega) rfl rfl rfl) rfl ?_|refine AOps.p (HQ rfl rfl) rfl ?_)|refine WO ?_|refine Ai λX=>?_|refine Ay λY=>?_);refine NL ?_;refine JG ?_;refine AOps.p (Ht (b:=4294967295) rfl rfl) rfl ?_;refine JB ?_;refine JG ?_;refine AOps.p (Eg 32 (by omega) rfl rfl rfl) rfl ?_;refine JB ?_;refine RG ?_;(iterate 3 refine WO ?_);refine AOps.p (F5 rfl rfl) rfl ?_;refine AOps.p (HQ rfl rfl) rfl ?_;refine JB ?_;refine RG ?_;(repeat first|(refine Bm ?_;first|refine AOps.p (F5 rfl rfl) rfl ?_|refine AOps.p (HQ rfl rfl) rfl ?_|refine AOps.p (Eg 32 (by omega) rfl rfl rfl) rfl ?_)|refine WO ?_|refine Ai λX=>?_|refine Ay λY=>?_);refine NL ?_;refine JG ?_;refine WO ?_;refine AOps.p (F5 rfl rfl) rfl ?_;refine JB ?_;refine RT ?_;exact Cp [uA (VL x y),uA (x*y)] [uA (VL x y),uA (x*y)] (.cons (.cell .same) (.cons (.cell .same) .nil))
set_option maxRecDepth 100000 in
theorem kA:PS prog 274 [uA 65536] (iA 47):=by
 have hl:PS prog 182 [uA 65536] (iA 17):=by
  refine Sp (nt:=25) (res:=[.tmp 2]) func182 λSf=>?_
  refine KK ?_;refine AB rfl rfl ?_;refine KK ?_;refine An rfl rfl ?_;refine JG ?_;refine AOps.p (Eg 16 (by omega) rfl rfl rfl) rfl ?_;refine JB ?_;obtain⟨u,hu⟩:∃u:UInt64,(65536:UInt64)>>>UInt64.ofNat 16=u:=⟨_,rfl⟩;rw[hu];have h1:u.toNat=1:=by rw[<-hu];decide
  clear hu;refine KK ?_;refine AB rfl (Au (by omega)) ?_;have hw:IntKind.u8.wrap ((u.toNat:Nat):Int)=((u.toNat:Nat):Int):=by rw[IntKind.wrap_u8'];omega
  have hat:=SZ (n:=u.toNat) (by omega);have hb1:bitsLen u.toNat=1:=by rw[h1];decide
  rw[hb1]at hat;have hw2:IntKind.i64.wrap ((lenTab.getD u.toNat 0).toNat:Int)=((1:Nat):Int):=by rw[hat];exact GN (by omega) (by omega)
  (repeat first|(refine Bm ?_;first|refine AOps.p (W.convW .u64 .u8 _ (by kernel_rfl) (by kernel_rfl) hw rfl) rfl ?_|refine AOps.p (W.idxStr (s:=lenTab) (a:=u.toNat) (show ev _ _=_ by kernel_rfl) rfl rfl (by rw[XM];omega)) rfl ?_|refine AOps.p (W.convW .u8 .i64 _ (by kernel_rfl) (by kernel_rfl) hw2 rfl) rfl ?_|refine AOps.p (Cc 17 rfl (by omega) rfl rfl) rfl ?_)|refine WK ?_|refine Ai λX=>?_|refine Ay λY=>?_);refine RT ?_;refine Ah ?_;rfl
 refine Sp (nt:=6) (res:=[.tmp 2]) func274 λSf=>?_
 refine KK ?_;refine BE (h:=(hl ..)) (k:=?_);refine AOps.p (CB 47 rfl (by omega) rfl rfl) rfl ?_;refine JC ?_;refine Ah ?_;rfl
def dU(hi lo:UInt64):UInt64:=(hi<<<UInt64.ofNat 47)|||(lo>>>UInt64.ofNat 17)
def dL(lo:UInt64):UInt64:=lo<<<UInt64.ofNat 47
def dR(hi lo:UInt64):UInt64:=dU hi lo*4294967296+(dL lo>>>UInt64.ofNat 32)-dU hi lo/2147483648*9223372036854775808
def MT(hi lo:UInt64):UInt64×UInt64:=
 (dU hi lo/2147483648*4294967296+dR hi lo/2147483648,(dR hi lo*4294967296+(dL lo&&&4294967295)-dR hi lo/2147483648*9223372036854775808)>>>UInt64.ofNat 47)
theorem kK{hi lo:UInt64}(h:hi.toNat<65536):(dU hi lo).toNat<9223372036854775808:=by
 unfold dU
 have h1:(hi<<<UInt64.ofNat 47).toNat<2^63:=by
  rw[FZ,Ax,show 47%2^64%64=47 from rfl,Gn];omega
 have h2:(lo>>>UInt64.ofNat 17).toNat<2^63:=by
  rw[DP,Ax,show 17%2^64%64=17 from rfl,DA];have:=lo.toNat_lt;omega
 rw[HV];exact Nat.or_lt_two_pow h1 h2
theorem kL{hi lo:UInt64}:(dR hi lo).toNat<9223372036854775808:=by
 have h2:(dL lo>>>UInt64.ofNat 32).toNat<4294967296:=by
  rw[DP,Ax,show 32%2^64%64=32 from rfl,DA];have:=(dL lo).toNat_lt;omega
 have h0:=(dU hi lo).toNat_lt;unfold dR;generalize dL lo>>>UInt64.ofNat 32=v at h2⊢;generalize dU hi lo=u at h0⊢;rw[UInt64.toNat_sub,UInt64.toNat_add,UInt64.toNat_mul,UInt64.toNat_mul,UInt64.toNat_div];rw[show(4294967296:UInt64).toNat=4294967296 from rfl,show(2147483648:UInt64).toNat=2147483648 from rfl,show(9223372036854775808:UInt64).toNat=9223372036854775808 from rfl];omega
theorem dt(hi lo:UInt64)(h:hi.toNat<65536):PS prog 269 [uA hi,uA lo,uA 65536] (.tup [uA (if hi=0 then lo/65536 else(MT hi lo).1),uA (if hi=0 then lo%65536 else(MT hi lo).2)]):=by
 have hu:=kK (lo:=lo) h;have hr:=kL (hi:=hi) (lo:=lo);refine Sp (nt:=135) (res:=[.tmp 6,.tmp 7]) func269 λSf=>?_
 refine KK ?_;refine AB rfl rfl ?_;refine KK ?_;have hd1:decide (((65536:UInt64).toNat:Int)<=hi.toNat)=false:=Au (by rw[show(65536:UInt64).toNat=65536 from rfl];omega);refine AB rfl hd1 ?_;by_cases h0:hi=0
 ·rw[Ab h0,Ab h0]
  subst h0;refine KK ?_;refine An rfl rfl ?_;refine RU ?_;refine JK ?_;refine BT ?_ (Xw (b:=65536) (by decide) rfl rfl);refine JK ?_;refine BT ?_ (Q5 (b:=65536) (by decide) rfl rfl);refine JK ?_;refine RGo.nil (by kernel_rfl) ?_;refine RT ?_;exact Cp [uA (lo/65536),uA (lo%65536)] [uA (lo/65536),uA (lo%65536)] (.cons (.cell .same) (.cons (.cell .same) .nil))
 rw[AI h0,AI h0];refine KK ?_;refine AB rfl (Au (λe=>h0 (Ds.1 (Int.ofNat_inj.1 e)))) ?_;refine JG ?_;refine BE (h:=(kA ..)) (k:=?_);refine AOps.p (Ge .i64 47 rfl (by omega) (by kernel_rfl) (by kernel_rfl) rfl) rfl ?_;refine JB ?_;refine JG ?_;refine WO ?_;refine AOps.p (I5 47 (by omega) rfl rfl (by decide)) rfl ?_;refine JB ?_;rw[show(65536:UInt64)<<<UInt64.ofNat 47=9223372036854775808 from by decide];refine JG ?_;refine AOps.p (Eg 32 (by omega) rfl rfl rfl) rfl ?_;refine JB ?_;rw[show(9223372036854775808:UInt64)>>>UInt64.ofNat 32=2147483648 from by decide];refine JG ?_;refine AOps.p (Ht (b:=4294967295) rfl rfl) rfl ?_;refine JB ?_;rw[show(9223372036854775808:UInt64)&&&4294967295=0 from by decide];refine RG ?_;(repeat first|(refine Bm ?_;first|refine AOps.p (I5 47 (by omega) rfl rfl (by decide)) rfl ?_|refine AOps.p (K4 (a:=64) rfl rfl) rfl ?_|refine AOps.p (Eg 17 (by omega) rfl rfl (by decide)) rfl ?_|refine AOps.p (Oq rfl rfl) rfl ?_)|refine WO ?_|refine Ai λX=>?_|refine Ay λY=>?_);refine NL ?_;rw[show(hi<<<UInt64.ofNat 47)|||(lo>>>UInt64.ofNat 17)=dU hi lo from rfl];refine JG ?_;refine WO ?_;refine AOps.p (I5 47 (by omega) rfl rfl (by decide)) rfl ?_;refine JB ?_;rw[show lo<<<UInt64.ofNat 47=dL lo from rfl];refine JG ?_;refine AOps.p (Eg 32 (by omega) rfl rfl rfl) rfl ?_;refine JB ?_;refine JG ?_;refine AOps.p (Ht (b:=4294967295) rfl rfl) rfl ?_;refine JB ?_;refine JG ?_;refine WO ?_;refine AOps.p (Xw (b:=2147483648) (by decide) rfl rfl) rfl ?_;refine JB ?_;refine RG ?_;(iterate 3 refine WO ?_);refine AOps.p (F5 (b:=2147483648) rfl rfl) rfl ?_;refine AOps.p (K4 rfl rfl) rfl ?_;refine JB ?_
 have c1:∀u:UInt64,u.toNat<9223372036854775808->decide (((u/2147483648).toNat:Int)>=4294967296)=false:=λu hu=>Au (by
  rw[UInt64.toNat_div,show(2147483648:UInt64).toNat=2147483648 from rfl];omega)
 have c2:∀(a b:UInt64),decide (((a*0:UInt64).toNat:Int)>b.toNat)=false:=λa b=>Au (by
  rw[show a*0=0 from UInt64.mul_zero];show¬((0:Nat):Int)>b.toNat
  omega)
 have c1u:=c1 _ hu;have c1r:=c1 _ hr;refine FL ?_;refine Cd (λ_:Unit=>⟨[(2,uA 9223372036854775808),(8,uA (UInt64.ofNat 47)),(9,uA 2147483648),(10,uA 0),(11,uA (dU hi lo)),(13,uA (dL lo>>>UInt64.ofNat 32)),(14,uA (dL lo&&&4294967295)),(15,uA (dU hi lo/2147483648)),(16,uA (dU hi lo-dU hi lo/2147483648*2147483648))],Sf⟩) (λ_=>True) (λ_=>0) () CZ ?_;rintro _ _;(repeat first|(refine Bm ?_;first|refine Ad ?_ (F5 (b:=0) rfl rfl)|refine Ad ?_ (F5 (a:=4294967296) rfl rfl)|refine Ad ?_ (HQ rfl rfl))|refine WK ?_|refine Ai λX=>?_|refine Ay λY=>?_);refine AB rfl (c2 _ _) ?_;refine JD ?_;(repeat first|(refine Bm ?_;first|refine AOps.p (F5 (b:=4294967296) rfl rfl) rfl ?_|refine AOps.p (HQ rfl rfl) rfl ?_|refine AOps.p (F5 (b:=9223372036854775808) rfl rfl) rfl ?_|refine AOps.p (K4 rfl rfl) rfl ?_)|refine WO ?_|refine Ai λX=>?_|refine Ay λY=>?_);refine NL ?_;rw[show dU hi lo*4294967296+(dL lo>>>UInt64.ofNat 32)-dU hi lo/2147483648*9223372036854775808=dR hi lo from rfl];refine JG ?_;refine WO ?_;refine AOps.p (Xw (b:=2147483648) (by decide) rfl rfl) rfl ?_;refine JB ?_;refine RG ?_;(iterate 3 refine WO ?_);refine AOps.p (F5 (b:=2147483648) rfl rfl) rfl ?_;refine AOps.p (K4 rfl rfl) rfl ?_;refine JB ?_;refine FL ?_;refine Cd (λ_:Unit=>⟨[(2,uA 9223372036854775808),(8,uA (UInt64.ofNat 47)),(9,uA 2147483648),(10,uA 0),(14,uA (dL lo&&&4294967295)),(15,uA (dU hi lo/2147483648)),(16,uA (dR hi lo-dR hi lo/2147483648*2147483648)),(17,uA (dR hi lo)),(18,uA (dR hi lo/2147483648))],Sf⟩) (λ_=>True) (λ_=>0) () CZ ?_;rintro _ _;(repeat first|(refine Bm ?_;first|refine Ad ?_ (F5 (b:=0) rfl rfl)|refine Ad ?_ (F5 (a:=4294967296) rfl rfl)|refine Ad ?_ (HQ rfl rfl))|refine WK ?_|refine Ai λX=>?_|refine Ay λY=>?_);refine AB rfl (c2 _ _) ?_;refine JD ?_;(repeat first|(refine Bm ?_;first|refine AOps.p (F5 (b:=4294967296) rfl rfl) rfl ?_|refine AOps.p (HQ rfl rfl) rfl ?_|refine AOps.p (F5 (b:=9223372036854775808) rfl rfl) rfl ?_|refine AOps.p (K4 rfl rfl) rfl ?_|refine AOps.p (Eg 47 (by omega) rfl rfl (by decide)) rfl ?_)|refine WO ?_|refine Ai λX=>?_|refine Ay λY=>?_);refine NL ?_;refine RT ?_;exact Cp [uA (MT hi lo).1,uA (MT hi lo).2] [uA (MT hi lo).1,uA (MT hi lo).2] (.cons (.cell .same) (.cons (.cell .same) .nil))
end
def fh(hi lo:UInt64):UInt64:=if hi=0 then lo/65536 else(MT hi lo).1
def iz(hi lo:UInt64):UInt64:=if hi=0 then lo%65536 else(MT hi lo).2
def Tj(neg:Bool)(q:Int)(r:UInt64):Int:=
 if neg=false then Gd (if(r.toNat:Int)>=(65536-r).toNat then q+1 else q)else Gd (-(if(r.toNat:Int)>(65536-r).toNat then q+1 else q))
def i9(neg:Bool)(hi lo:UInt64):Int:=
 if(hi.toNat:Int)>=65536 then(if neg then-1099511627776 else 1099511627776)else
 if((fh hi lo).toNat:Int)>1099511627776 then Tj neg 1099511627777 0 else Tj neg (fh hi lo).toNat (iz hi lo)
def aM(a b:Int):Int:=
 i9 (if Gd b<0 then !(decide (Gd a<0))else decide (Gd a<0)) (VL (Tq (Gd a)) (Tq (Gd b))) (Tq (Gd a)*Tq (Gd b))
theorem aN(a b:Int):PS prog 258 [iA a,iA b,iA 65536] (iA (aM a b)):=by
 have h1:=I4 a;have h2:=I4 b;have h3:=I4 65536;rw[show Gd 65536=65536 from by decide]at h3;have ra:=Ng a;have rb:=Ng b;obtain⟨res,hres⟩:=nm (aM a b);rw[hres];unfold aM at hres;obtain⟨a1,ha1⟩:=nm (Gd a);obtain⟨b1,hb1⟩:=nm (Gd b);rw[ha1]at h1 ra hres;rw[hb1]at h2 rb hres;have h4:=XH a1 ra;have h5:=XH b1 rb;have h6:=XH 65536 (by omega);rw[show Tq 65536=65536 from by decide]at h6;obtain⟨ma,hma⟩:=nm (Tq a1);obtain⟨mb,hmb⟩:=nm (Tq b1);rw[hma]at h4 hres;rw[hmb]at h5 hres;have h7:=ct ma mb;obtain⟨hi,hhi⟩:=nm (VL ma mb);obtain⟨lo,hlo⟩:=nm (ma*mb);rw[hhi,hlo]at h7 hres;refine Sp (nt:=78) (res:=[.tmp 6]) func258 λSf=>?_
 refine R1 ?_;refine KK ?_;refine BE (h:=(h1 ..)) (k:=?_);refine WK ?_;refine BE (h:=(h2 ..)) (k:=?_);refine WK ?_;refine BE (h:=(h3 ..)) (k:=?_);refine KK ?_;refine AB rfl rfl ?_;refine KK ?_;refine DR (λn:Bool=>i9 n hi lo=res) (λn=>⟨[(0,iA a1),(1,iA b1),(2,iA 65536),(7,bA n)],Sf⟩) ?_ ?_
 ·by_cases hb:b1<0
  ·rw[Ab hb]at hres
   refine An rfl (BP hb) ?_;refine KK ?_;exact jn (!decide (a1<0)) hres
  ·rw[AI hb]at hres
   refine AB rfl (Au hb) ?_;refine WK ?_;exact jn (decide (a1<0)) hres
 clear hres;intro neg hres;refine KK ?_;refine AB rfl rfl ?_;refine JG ?_;refine BE (h:=(h6 ..)) (k:=?_);refine JB ?_;refine JG ?_;refine BE (h:=(h4 ..)) (k:=?_);refine WO ?_;refine BE (h:=(h5 ..)) (k:=?_);refine BO (h:=(h7 ..)) (k:=?_);refine JE ?_;refine KK ?_;unfold i9 at hres;by_cases hh:(hi.toNat:Int)>=65536
 ·rw[Ab hh]at hres
  refine An rfl (BP hh) ?_;refine KK ?_;cases neg
  ·refine AB rfl rfl ?_
   refine JC ?_;refine Ah ?_;rw[<-hres];rfl
  ·refine An rfl rfl ?_
   refine JC ?_;refine Ah ?_;rw[<-hres];rfl
 rw[AI hh]at hres;refine AB rfl (Au hh) ?_;have h8:=dt hi lo (by omega);rw[show(if hi=0 then lo/65536 else(MT hi lo).1)=fh hi lo from rfl,show(if hi=0 then lo%65536 else(MT hi lo).2)=iz hi lo from rfl]at h8;obtain⟨q,hq⟩:=nm (fh hi lo);obtain⟨r,hr⟩:=nm (iz hi lo);rw[hq,hr]at h8 hres;refine JJ ?_;refine Gt (h:=(h8 ..)) (k:=?_);refine JE ?_;refine KK ?_;refine DR (λb:UInt64×UInt64=>b.1.toNat<=1099511627777/\Tj neg b.1.toNat b.2=res) (λb=>⟨[(7,bA neg),(8,uA 65536),(11,uA b.1),(12,uA b.2)],Sf⟩) ?_ ?_
 ·by_cases hb:(q.toNat:Int)>1099511627776
  ·rw[Ab hb]at hres
   refine An rfl (BP hb) ?_;refine KK ?_;exact jn (1099511627777,0) ⟨by decide,hres⟩
  ·rw[AI hb]at hres
   refine AB rfl (Au hb) ?_;refine WK ?_;exact jn (q,r) ⟨by dsimp only;omega,hres⟩
 clear hres hq hr h8;rintro⟨q,r⟩ ⟨hq,hres⟩;dsimp only at hq hres⊢
 (iterate 3 refine WK ?_);refine AOps.p (Mx .u64 (by omega) (by kernel_rfl) (by kernel_rfl) rfl) rfl ?_;refine KK ?_
 unfold Tj at hres;cases neg
 ·rw[Ab rfl]at hres
  refine An rfl rfl ?_
  (iterate 6 refine WK ?_);refine AOps.p (K4 rfl rfl) rfl ?_;refine KK ?_
  by_cases hc:(r.toNat:Int)>=(65536-r).toNat
  ·rw[Ab hc]at hres
   have hc1:=I4 ((q.toNat:Int)+1);rw[hres]at hc1;refine An rfl (BP hc) ?_;refine KK ?_;refine BE (h:=(hc1 ..)) (k:=?_);refine JC ?_;refine Ah ?_;rfl
  ·rw[AI hc]at hres
   have hc1:=I4 (q.toNat:Int);rw[hres]at hc1;refine AB rfl (Au hc) ?_;refine KK ?_;refine BE (h:=(hc1 ..)) (k:=?_);refine JC ?_;refine Ah ?_;rfl
 ·rw[AI (by decide)]at hres
  refine AB rfl rfl ?_
  (iterate 7 refine WK ?_);refine AOps.p (K4 rfl rfl) rfl ?_;refine KK ?_
  by_cases hc:(r.toNat:Int)>(65536-r).toNat
  ·rw[Ab hc]at hres
   have hc1:=I4 (-((q.toNat:Int)+1));rw[hres]at hc1;refine An rfl (BP hc) ?_
   (iterate 8 refine WK ?_);refine AOps.p (Xx (-((q.toNat:Int)+1)) rfl (by omega) rfl) rfl ?_;refine BE (h:=(hc1 ..)) (k:=?_);refine KK ?_
   refine RT ?_;refine Ah ?_;rfl
  ·rw[AI hc]at hres
   have hc1:=I4 (-(q.toNat:Int));rw[hres]at hc1;refine AB rfl (Au hc) ?_
   (iterate 4 refine WK ?_);refine AOps.p (Xx (-(q.toNat:Int)) rfl (by omega) rfl) rfl ?_;refine BE (h:=(hc1 ..)) (k:=?_);refine KK ?_
   refine RT ?_;refine Ah ?_;rfl
theorem i8(a b:Int):PS prog 243 [iA a,iA b] (iA (aM a b)):=by
 have h:=aN a b;refine Sp (nt:=8) (res:=[.tmp 4]) func243 λSf=>?_
 refine KK ?_;refine Gt (h:=(h ..)) (k:=?_);refine JC ?_;refine Ah ?_;rfl
def jD(n:UInt64):UInt64:=18446744073709551615-(18446744073709551615%n+1)%n
def IY(n:UInt64):Nat->UInt64×UInt64->UInt64×(UInt64×UInt64)
 |0,r=>(0,r)
 |k+1,r=>if HK (Fd r).1<=jD n then(HK (Fd r).1%n,Fd r)else IY n k (Fd r)
def Hs(r:UInt64×UInt64)(n:Nat):UInt64×(UInt64×UInt64):=IY (UInt64.ofNat n) 18446744073709551616 r
theorem aO:HK 0=0:=by decide
theorem MU(n:UInt64):∀(k:Nat) (r:UInt64×UInt64),(IY n k r).2.2=r.2
 |0,r=>rfl
 |k+1,r=>by
  rw[IY];split
  ·rfl
  ·exact MU n k (Fd r)
theorem Q3(n:UInt64)(hn:0<n.toNat):∀(k:Nat) (r:UInt64×UInt64),(IY n k r).1.toNat<n.toNat
 |0,r=>by simpa[IY]using hn
 |k+1,r=>by
  rw[IY];split
  ·rw[UInt64.toNat_mod];exact Nat.mod_lt _ hn
  ·exact Q3 n hn k (Fd r)
theorem bO(r:UInt64×UInt64)(n:Nat)(h1:1<=n)(h2:n<=4611686018427387904)(hg:r.2.toNat%2=1):PS prog 244 [Mf r,iA n] (.tup [iA (Hs r n).1.toNat,Mf (Hs r n).2,iA 0]):=by
 obtain⟨m,hm⟩:=nm (UInt64.ofNat n);have hmn:m.toNat=n:=by rw[<-hm,Ax];omega
 obtain⟨k0,hk1,hk2,hk3⟩:=cn r.1 r.2 hg
 have hodd:decide (((r.2%2).toNat:Int)=0)=false:=Au (by
  rw[UInt64.toNat_mod];show¬((r.2.toNat%2:Nat):Int)=0
  omega)
 obtain⟨res,hres⟩:=nm (Hs r n);rw[hres];have hlt:res.1.toNat<m.toNat:=by rw[<-hres];unfold Hs;rw[hm];exact Q3 m (by omega) _ _
 unfold Hs at hres;rw[hm]at hres;refine Sp (nt:=40) (res:=[.tmp 4,.cell 5 233,.tmp 6]) func244 λSf=>?_
 (repeat refine WF ?_);refine LA ?_;refine KX λB=>?_
 refine KO ?_;refine Ai λR=>?_;refine WO ?_
 refine FL ?_;have g1:decide ((n:Int)<1)=false:=Au (by omega)
 (iterate 9 refine WK ?_);refine Ad ?_ (Q5 (b:=2) (by decide) rfl rfl);refine KK ?_
 refine AB rfl hodd ?_;refine JG ?_;refine AOps.p (Ge .i64 n rfl (by omega) (by kernel_rfl) (by kernel_rfl) rfl) rfl ?_;refine JB ?_;rw[hm];refine JG ?_;refine Ad ?_ (Q5 (a:=18446744073709551615) (b:=m) (by omega) rfl rfl);refine AOps.p (HQ (b:=1) rfl rfl) rfl ?_;refine WO ?_;refine Ad ?_ (Q5 (b:=m) (by omega) rfl rfl);refine JB ?_;refine FL ?_;refine ET (λ(r':UInt64×UInt64) (k K:Nat)=>⟨[(2,.ptr B 0 0),(5,.ptr R 0 0),(7,uA m),(8,uA ((18446744073709551615%m+1)%m))],(R,.row 233 2 [Mf (0,0)])::(B,.row 233 2 [Mf r'])::Sf⟩) (λr' k K=>1<=k/\k<=K/\r'.2=r.2/\(r'.1.toNat+k*r'.2.toNat)%18446744073709551616=0/\IY m K r'=res) (λ_ _ K=>K) r k0 18446744073709551616 ⟨hk1,hk2,rfl,hk3,hres⟩ ?_;rintro r' k K ⟨hk1,hk2,hr2,hk3,hres⟩;have hnx:=Wz r';obtain⟨K',rfl⟩:∃K',K=K'+1:=⟨K-1,by omega⟩;rw[IY]at hres;(repeat refine WF ?_);refine R1 ?_;refine JG ?_;refine BE (h:=(hnx ..)) (k:=?_);refine JE ?_;refine JG ?_;refine WO ?_;refine AOps.p (K4 (a:=18446744073709551615) rfl rfl) rfl ?_;refine JB ?_
 have hst:((Fd r').1.toNat+(k-1)*(Fd r').2.toNat)%18446744073709551616=0:=by
  have e:(Fd r').1.toNat=(r'.1.toNat+r'.2.toNat)%18446744073709551616:=UInt64.toNat_add ..;rw[e,show(Fd r').2=r'.2 from rfl];obtain⟨j,rfl⟩:∃j,k=j+1:=⟨k-1,by omega⟩;rw[C2,Nat.one_mul]at hk3;rw[Nat.add_sub_cancel];generalize j*r'.2.toNat=u at hk3⊢;omega
 refine AC rfl (λhc=>?_) (λhc=>?_)
 ·have hc:HK (Fd r').1<=jD m:=by
   rw[Jz];have:=AM hc;exact Int.ofNat_le.1 this
  rw[Ab hc]at hres;have hx:(HK (Fd r').1%m).toNat<9223372036854775808:=by rw[show HK (Fd r').1%m=res.1 from by rw[<-hres]];omega
  refine RU ?_;refine JK ?_;refine BT ?_ (Q5 (b:=m) (by omega) rfl rfl);refine BT ?_ (Mx .u64 hx (by kernel_rfl) (by kernel_rfl) rfl);(iterate 4 refine RK ?_);refine RGo.nil (by kernel_rfl) ?_;refine RT ?_;subst hres;exact Cp [iA (HK (Fd r').1%m).toNat,Mf (Fd r'),iA 0] [iA (HK (Fd r').1%m).toNat,Mf (Fd r'),iA 0] (.cons (.cell .same) (.cons (.agg .r) (.cons (.cell .same) .nil)))
 ·have hc:¬HK (Fd r').1<=jD m:=by
   rw[Jz];have:=AU hc;exact λh=>this (Int.ofNat_le.2 h)
  rw[AI hc]at hres
  have hk:k≠1:=by
   intro e;subst e;apply hc
   have h0:(Fd r').1=0:=by
    apply Ds.1;have:=(Fd r').1.toNat_lt;simp at hst;show(Fd r').1.toNat=0
    omega
   rw[h0,aO,Jz];exact Ap _
  refine KK ?_;refine Cs (Fd r') (k-1) K' ⟨by omega,by omega,hr2,hst,hres⟩
def Dz(a:Arg):AV:=.agg [bA a.has,iA a.n,iA a.ref.kind,iA a.ref.field]
def opA(o:Op):AV:=.agg [iA o.act,iA o.to.kind,iA o.to.field,bA o.a.has,iA o.a.n,iA o.a.ref.kind,iA o.a.ref.field,bA o.b.has,iA o.b.n,iA o.b.ref.kind,iA o.b.ref.field]
abbrev f8(o:Bool)(l:List Op):AV:=.lst o 229 11 (l.map opA)
def FY(o:Bool)(s:Sys):AV:=.agg [sA s.name,Av o s.wth,Av o s.wout,Av o s.reads,Av o s.writes,f8 o s.ops,B3 o false s.spawn]
abbrev NG(o:Bool)(l:List Sys):AV:=.lst o 132 7 (l.map (FY false))
instance {a:Arg}:Frz (Dz a) (Dz a):=⟨rfl⟩
instance {o:Op}:Frz (opA o) (opA o):=⟨rfl⟩
instance {o:Bool}{s:Sys}:Frz (FY o s) (FY false s):=⟨by unfold FY;exact Frz.h⟩
theorem ae(l:List Int)(x:Int)(hl:l.length<=4611686018427387904):PS prog 237 [Av false l,iA x] (iA (H6 l λy=>decide (x=y))):=by
 refine Sp (nt:=19) (res:=[.tmp 4]) func237 λSf=>?_
 refine KK ?_;refine Cd (λi:Nat=>⟨[(0,Av false l),(1,iA x),(7,iA (l.map iA).length),(8,iA i)],Sf⟩) (λi=>i<=l.length/\∀j (h:j<l.length),j<i->(decide (x=l[j]))=false) (λi=>l.length-i) 0 ⟨Ap _,λj h hj=>absurd hj (by omega)⟩ ?_;rintro i ⟨hi,he⟩;refine KK ?_;refine AC rfl (λhc=>?_) (λhc=>?_)
 ·have h:i<l.length:=by simpa using hc
  refine KK ?_;refine AC rfl (λhd=>?_) (λhd=>?_)
  ·refine KK ?_
   refine RT ?_;refine Ah ?_;rw[Ik h hd λj hj=>he j (by omega) hj]
  ·refine KK ?_
   refine Bb (i+1) ⟨h,λj h1 h2=>?_⟩;by_cases e:j=i
   ·subst e;exact hd
   ·exact he j h1 (by omega)
 ·have h:¬i<l.length:=by simpa using hc
  refine JC ?_;refine Ah ?_;rw[Il λj hj=>he j hj (by omega)]
theorem IX(l:List Int)(x:Int)(hl:l.length<=4611686018427387904):PS prog 188 [Av false l,iA x] (bA (l.contains x)):=by
 refine Sp (nt:=9) (res:=[.tmp 4]) func188 λSf=>?_
 refine KK ?_;refine BO (h:=(ae l x hl)) (k:=?_);refine JC ?_;refine Ah ?_
 have h2:decide ((0:Int)<=H6 l λy=>decide (x=y))=l.contains x:=by
  rw[QR,List.contains_eq_any_beq]
  congr 1
 rw[<-h2]
def LR(d:Int):Bool:=decide (d>=0)&&decide (d<=7)
theorem YL(d:Int):PS prog 195 [iA d] (bA (LR d)):=by
 refine Sp (nt:=9) (res:=[.tmp 2]) func195 λSf=>?_
 refine JC ?_;refine Ah ?_;rfl
theorem ir(d:Int):PS prog 239 [iA d] (bA (MK d)):=by
 refine Sp (nt:=13) (res:=[.tmp 2]) func239 λSf=>?_
 refine JC ?_;refine Ah ?_;rfl
def jx(r:Ref):AV:=.agg [iA r.kind,iA r.field]
theorem Mo(ks:List Kind)(r:Ref)(h:Nn ks r):PS prog 238 [BZ false false ks,jx r] (bA true):=by
 obtain⟨h1,h2,h3,h4⟩:=h;obtain⟨rk,rf⟩:=r;dsimp only at h1 h2 h3 h4;obtain⟨i,hi⟩:∃i:Nat,rk=i:=⟨rk.toNat,by omega⟩;subst hi;have hil:i<ks.length:=by omega
 unfold Rq at h4;rw[B4,AX hil]at h4;dsimp only at h4;obtain⟨⟨kn,fs⟩,hk⟩:=nm (ks[i]);rw[hk]at h4;have hkm:(ks.map (Bd false)).length=ks.length:=AD _;have hat:(ks.map (Bd false))[i]?=some (Bd false ⟨kn,fs⟩):=by rw[Ac,AX hil,hk];rfl
 have g1:decide (((i:Nat):Int)>=0)=true:=BP (by omega);have g2:decide (((i:Nat):Int)<(ks.map (Bd false)).length)=true:=BP (by omega);have g3:decide (rf>=0)=true:=BP (by omega);have g4:decide (rf<(fs.map fieldA).length)=true:=BP (by rw[AD];exact h4);refine Sp (nt:=32) (res:=[.tmp 4]) func238 λSf=>?_
 refine JG ?_;refine Ai λX=>?_;refine JB ?_
 refine RU ?_;(iterate 28 refine RK ?_);refine RGo.nil (by kernel_rfl) ?_;refine FL ?_;refine RT ?_;refine Ah ?_;rw[g4]
theorem iu(ks:List Kind)(l:List Int)(ho:l.Pairwise (· < ·))(hr:∀x∈l,0<=x/\x<ks.length)(hl:l.length<=1099511627776):PS prog 185 [BZ false false ks,Av false l] (iA 0):=by
 have hlm:(l.map iA).length=l.length:=AD _;have hkm:(ks.map (Bd false)).length=ks.length:=AD _;refine Sp (nt:=34) (res:=[.tmp 4]) func185 λSf=>?_
 refine KK ?_;refine Cd (λi:Nat=>⟨[(0,BZ false false ks),(1,Av false l),(7,Av false l),(8,iA (l.map iA).length),(9,iA i)],Sf⟩) (λi=>i<=l.length) (λi=>l.length-i) 0 (Ap _) ?_;rintro i hi;refine KK ?_;refine AC rfl (λhc=>?_) (λhc=>?_)
 ·have h:i<l.length:=by rw[AS,hlm]at hc;omega
  have hx:=hr _ (As h);obtain⟨x,hxe⟩:=nm (l[i]);rw[hxe]at hx;have hat:(l.map iA)[i]?=some (iA x):=by rw[Ac,AX h,hxe];rfl
  have g1:decide (x<0)=false:=Au (by omega);have g2:decide (x>=(ks.map (Bd false)).length)=false:=Au (by omega);refine KK ?_;refine AB rfl g2 ?_;by_cases h0:i=0
  ·subst h0
   have g3:decide (((0:Nat):Int)>0)=false:=by decide
   refine KK ?_;refine AB rfl rfl ?_;refine KK ?_;refine Bb 1 h
  ·have g3:decide (((i:Nat):Int)>0)=true:=BP (by omega)
   have hlt:l[i-1]<x:=by rw[<-hxe];exact CJ.1 ho (i-1) i (by omega) h (by omega)
   have hat2:(l.map iA)[i-1]?=some (iA l[i-1]):=by rw[Ac,AX (by omega)];rfl
   have g4:decide (l[i-1]>=x)=false:=Au (by omega)
   (iterate 11 refine WK ?_);refine Ad ?_ (CB ((i-1:Nat):Int) (by omega) (by omega) rfl rfl);refine KK ?_
   refine AB rfl g4 ?_;refine KK ?_;refine Bb (i+1) h
 ·refine KK ?_
  refine RT ?_;refine Ah ?_;rfl
theorem TY(s:Sys)(x:Int)(hl:s.wout.length<=4611686018427387904):PS prog 187 [iA x,.fp (FY false s).cells] (bA (s.wout.contains x)):=by
 have h:=IX s.wout x hl;refine Sp (nt:=8) (res:=[.tmp 3]) func187 λSf=>?_
 refine KK ?_;refine BO (h:=(h ..)) (k:=?_);refine JC ?_;refine Ah ?_;rfl
theorem TX(s:Sys)(x:Int)(hl:s.wth.length<=4611686018427387904):PS prog 189 [iA x,.fp (FY false s).cells] (bA (!s.wth.contains x)):=by
 have h:=IX s.wth x hl;refine Sp (nt:=9) (res:=[.tmp 3]) func189 λSf=>?_
 refine KK ?_;refine BO (h:=(h ..)) (k:=?_);refine JC ?_;refine Ah ?_;rfl
structure Cmd where
 act:Int
 ent:Ent
 kind:Int
 comps:List Comp
def ED(c:Cmd):AV:=.agg [iA c.act,iA c.ent.n,iA c.ent.gen,iA c.kind,B3 false false c.comps]
instance {c:Cmd}:Frz (ED c) (ED c):=⟨by unfold ED;exact Frz.h⟩
def MZ(cs:List Comp)(k:Int):List Int:=match Dj cs k with
 |some c=>c.vals
 |none=>[]
def Ni(cs:List Comp)(a:Arg):Int:=if a.has then(MZ cs a.ref.kind).getD a.ref.field.toNat 0 else a.n
def HG(act a b:Int)(r:UInt64×UInt64):Int×(UInt64×UInt64):=
 if act=1 then(a+b,r)else if act=2 then(a-b,r)else if act=3 then(aM a b,r)else
 if act=4 then(if b<a then b else a,r)else if act=5 then(if a<b then b else a,r)else if act=6 then(if a<b then 1 else 0,r)else
 if act=7 then(if a<1 then(0,r)else(((Hs r a.toNat).1.toNat:Int),(Hs r a.toNat).2))else(a,r)
def Ux(cs:List Comp)(k:Int)(f:Nat)(v:Int):List Comp:=match Dj cs k with
 |some c=>cs.set (FD cs k) ⟨c.kind,c.vals.set f v⟩
 |none=>cs
structure Rn where
 comps:List Comp
 r:UInt64×UInt64
 cmds:List Cmd
 evs:List Evt
def IW(ks:List Kind)(r:Ref):Field:=match ks[r.kind.toNat]? with
 |some k=>k.fields.getD r.field.toNat ⟨[],0,0⟩
 |none=>⟨[],0,0⟩
def Qq(ks:List Kind)(k:Int):List Int:=match ks[k.toNat]? with
 |some x=>(DB x (List.replicate x.fields.length 0)).1
 |none=>[]
def doM(ks:List Kind)(s:Sys)(index:Int)(e:Ent)(o:Op)(st:Rn):Rn:=
 if LR o.act=true then
  ⟨Ux st.comps o.to.kind o.to.field.toNat (Cu (IW ks o.to) (HG o.act (Ni st.comps o.a) (Ni st.comps o.b) st.r).1),(HG o.act (Ni st.comps o.a) (Ni st.comps o.b) st.r).2,st.cmds,st.evs⟩
 else if Ni st.comps o.a=0 then st
 else if o.act=12 then⟨st.comps,st.r,st.cmds,st.evs++[⟨index,e,Ni st.comps o.b⟩]⟩
 else⟨st.comps,st.r,st.cmds++[if o.act=8 then⟨0,e,0,[⟨o.to.kind,Qq ks o.to.kind⟩]⟩else if o.act=9 then⟨1,e,o.to.kind,[]⟩else if o.act=10 then⟨2,e,0,[]⟩else⟨3,⟨0,0⟩,0,(Eb ks s.spawn).1⟩],st.evs⟩
def Rf(ks:List Kind)(s:Sys)(e:Ent)(cv:AV)(r:UInt64×UInt64)(kv ev:AV)(index:Int):AV:=
 .agg [BZ false false ks,sA s.name,Av false s.wth,Av false s.wout,Av false s.reads,Av false s.writes,f8 false s.ops,B3 false false s.spawn,iA e.n,iA e.gen,cv,uA r.1,uA r.2,kv,ev,iA index]
end Go.Proofs.YtmkahplhnbbgmaaGreat
