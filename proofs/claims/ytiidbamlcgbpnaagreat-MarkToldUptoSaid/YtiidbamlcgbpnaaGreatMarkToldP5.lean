/-
  Part 5 of the texts under the law MarkTold: the layer of abstract values, walks and plain laws. Conditions: those that each theorem names.
-/
import Derived.WalkKit
import Derived.Lib.Hide
import Derived.Deep.OwnRows
import Derived.Deep.Draws
import Derived.Test.YtiidbamlcgbpnaaGreatChecked
import Derived.ProofKit
import Derived.OpenShut
import Derived.ShutString
import Derived.ChangeOld
import Derived.Below
import Derived.SizedLaws
import Derived.Deep.Slices
import Derived.Deep.Fields
import Derived.ChangeSame
import Derived.Test.YtiidbamlcgbpnaaGreatProg
import Derived.Sort.AssemblyPlain
import Derived.Test.YtiidbamlcgbpnaaGreatMarkToldP4
namespace Go.Proofs.YtiidbamlcgbpnaaGreat
set_option linter.unusedVariables false
set_option linter.unusedSimpArgs false
set_option linter.defProp false
set_option maxRecDepth 10000
set_option maxHeartbeats 4000000
structure Field where
 name:List UInt8
 bits:Int
 low:Int
structure Kind where
 name:List UInt8
 fields:List Field
structure Ent where
 n:Int
 gen:Int
structure Comp where
 kind:Int
 vals:List Int
structure Item where
 ent:Ent
 comps:List Comp
structure Wd where
 kinds:List Kind
 gens:List Int
 items:List Item
structure Ref where
 kind:Int
 field:Int
structure Arg where
 has:Bool
 n:Int
 ref:Ref
structure Op where
 act:Int
 to:Ref
 a:Arg
 b:Arg
instance:DecidableEq Field:=λa b=>decidable_of_iff (a.name=b.name/\a.bits=b.bits/\a.low=b.low) (by cases a;cases b;simp)
instance:DecidableEq Kind:=λa b=>decidable_of_iff (a.name=b.name/\a.fields=b.fields) (by cases a;cases b;simp)
instance:DecidableEq Ent:=λa b=>decidable_of_iff (a.n=b.n/\a.gen=b.gen) (by cases a;cases b;simp)
instance:Inhabited Ent:=⟨⟨default,default⟩⟩
instance:DecidableEq Comp:=λa b=>decidable_of_iff (a.kind=b.kind/\a.vals=b.vals) (by cases a;cases b;simp)
instance:Inhabited Comp:=⟨⟨default,default⟩⟩
instance:DecidableEq Item:=λa b=>decidable_of_iff (a.ent=b.ent/\a.comps=b.comps) (by cases a;cases b;simp)
instance:Inhabited Item:=⟨⟨default,default⟩⟩
instance:DecidableEq Wd:=λa b=>decidable_of_iff (a.kinds=b.kinds/\a.gens=b.gens/\a.items=b.items) (by cases a;cases b;simp)
def I64(x:Int):Prop:=-9223372036854775808<=x/\x<=9223372036854775807
section
open Go.RowKit
abbrev Reg:=Nat->Prop
def Lt(w:World):Reg:=λb=>b<w.heap.size
def S9(S:Reg)(w w':World):Prop:=∀b,S b->w'.heap[b]?=w.heap[b]?
section
variable {w w' w'':World}{S T:Reg}
theorem bel{n m:Nat}{a b c:World}(h:Below n a b)(k:Below m b c)(hm:n<=m):Below n a c:=h.trans (k.mono hm)
def Row(w:World)(S:Reg)(sz:Nat)(v:Value)(n:Nat)(xs:List Value):Prop:=
 xs.length=n*sz/\∃A cap,v= .slice A n cap/\n<=cap/\(0<n->∃b off,A=some ⟨b,off,none⟩/\S b/\∀j u,xs[j]?=some u->w.cell? ⟨b,off+j,none⟩=some u)
variable {sz n:Nat}{v:Value}{xs:List Value}
theorem Row.nil(w:World)(S:Reg)(sz:Nat):Row w S sz (.slice none 0 0) 0 []:=⟨by simp,none,0,rfl,Nat.le_refl _,λh=>absurd h (by omega)⟩
end
def Cells{α:Type}(C:List Value->α->Prop)(sz:Nat):List Value->List α->Prop
 |xs,[]=>xs=[]
 |xs,x::l=>∃c ys,xs=c++ys/\c.length=sz/\C c x/\Cells C sz ys l
section
variable {α:Type}{C C':List Value->α->Prop}{sz:Nat}{xs ys:List Value}{l m:List α}
theorem Cells.nil:Cells C sz [] []:=rfl
theorem Cells.length(h:Cells C sz xs l):xs.length=l.length*sz:=by
 induction l generalizing xs with
 |nil=>have:xs=[]:=h;simp[this]
 |cons x l ih=>
  obtain⟨c,ys,rfl,h1,_,h3⟩:=h;simp[ih h3,h1,Nat.add_mul,Nat.add_comm]
end
def Sl{α:Type}(w:World)(S:Reg)(sz:Nat)(C:World->Reg->List Value->α->Prop)(v:Value)(l:List α):Prop:=
 ∃xs,Row w S sz v l.length xs/\Cells (C w S) sz xs l
section
variable {α:Type}{w w':World}{S T:Reg}{sz:Nat}{C:World->Reg->List Value->α->Prop}{v:Value}{l:List α}
theorem Sl.nil(w:World)(S:Reg)(sz:Nat)(C:World->Reg->List Value->α->Prop):Sl w S sz C (.slice none 0 0) []:=⟨[],Row.nil w S sz,.nil⟩
end
abbrev SX(l:List UInt8):Value:=.string ⟨l.toArray⟩
def S4(_:World)(_:Reg)(c:List Value)(x:Int):Prop:=c=[.int .i64 x]
def SM(_:World)(_:Reg)(c:List Value)(f:Field):Prop:=c=[SX f.name,.int .i64 f.bits,.int .i64 f.low]
abbrev O6(w:World)(S:Reg)(v:Value)(l:List Int):Prop:=Sl w S 1 S4 v l
abbrev Fields(w:World)(S:Reg)(v:Value)(l:List Field):Prop:=Sl w S 3 SM v l
def Sj(w:World)(S:Reg)(c:List Value)(k:Kind):Prop:=∃vf,c=[SX k.name,vf]/\Fields w S vf k.fields
abbrev S7(w:World)(S:Reg)(v:Value)(l:List Kind):Prop:=Sl w S 2 Sj v l
def Sr(w:World)(S:Reg)(c:List Value)(x:Comp):Prop:=∃v,c=[.int .i64 x.kind,v]/\O6 w S v x.vals
abbrev Sy(w:World)(S:Reg)(v:Value)(l:List Comp):Prop:=Sl w S 2 Sr v l
def Sk(w:World)(S:Reg)(c:List Value)(x:Item):Prop:=∃v,c=[.int .i64 x.ent.n,.int .i64 x.ent.gen,v]/\Sy w S v x.comps
abbrev S8(w:World)(S:Reg)(v:Value)(l:List Item):Prop:=Sl w S 3 Sk v l
section
variable {w w':World}{S T:Reg}{v:Value}
variable {A:Option Addr}{n cap i:Nat}
end
section
variable {α:Type}{w w':World}{base:Nat}{e:TypeId}{S T:Reg}{sz:Nat}{C:World->Reg->List Value->α->Prop}{v:Value}{l:List α}
end
section
variable {w w':World}{b:Nat}{e:TypeId}{l:List Int}
end
section
variable {w w':World}{g:Nat}{t:TypeId}{cs:Array Value}
end
end
section
open Go.ChangeShapes Go.WideShapes Go.ChangeAt Go.RowKit Go.Deep
theorem RR{α:Type}{sz:Nat}{cs:α->List Value}{f:Nat->Option Value}(hcs:∀x,(cs x).length=sz):∀(l:List α) (off:Nat),(∀i (hi:i<l.length) j u,(cs l[i])[j]?=some u->f (off+(i*sz+j))=some u)->
  ∀j u,(l.flatMap cs)[j]?=some u->f (off+j)=some u:=by
 intro l
 induction l with
 |nil=>intro off _ j u h;simp at h
 |cons x l ih=>
  intro off h j u hj;rw[List.flatMap_cons]at hj;rcases Nat.lt_or_ge j sz with hlt|hge
  ·rw[List.getElem?_append_left (by rw[hcs];exact hlt)]at hj
   have:=h 0 (by simp) j u hj;simpa using this
  ·rw[List.getElem?_append_right (by rw[hcs];exact hge),hcs]at hj
   have:=ih (off+sz) (λi hi j u hu=>by
    have:=h (i+1) (by simp;omega) j u hu;rwa[Nat.add_mul,Nat.one_mul,show off+(i*sz+sz+j)=off+sz+(i*sz+j) by omega]at this) (j-sz) u hj
   rwa[show off+sz+(j-sz)=off+j by omega]at this
theorem Iy{α:Type}{sz:Nat}{cs:α->List Value}{C:List Value->α->Prop}(hcs:∀x,(cs x).length=sz)(hC:∀x,C (cs x) x)(l:List α):Cells C sz (l.flatMap cs) l:=by
 induction l with
 |nil=>rfl
 |cons x l ih=>exact⟨cs x,l.flatMap cs,by rw[List.flatMap_cons],hcs x,hC x,ih⟩
theorem K5{α:Type}{w:World}{sz:Nat}{C:World->Reg->List Value->α->Prop}{a:Addr}{n cap:Nat}{l:List α}{cs:α->List Value}(hn:n<=cap)(hl:l.length=n)(hsz:0<sz)(hcs:∀x,(cs x).length=sz)(hC:∀x,C w (Lt w) (cs x) x)
  (hcell:∀i (hi:i<l.length) j u,(cs l[i])[j]?=some u->w.cell? (a.add (i*sz+j))=some u):Sl w (Lt w) sz C (.slice (some a) n cap) l:=by
 subst hl;refine⟨l.flatMap cs,⟨?_,some a,cap,rfl,hn,λh0=>?_⟩,Iy hcs hC l⟩
 ·have:=(Iy (C:=λ_ _=>True) hcs (λ_=>trivial) l).length
  exact this
 ·obtain⟨b,off,spot⟩:=a
  have h1:∃u,(cs l[0])[0]?=some u:=⟨_,List.getElem?_eq_getElem (by rw[hcs];exact hsz)⟩;obtain⟨u,hu⟩:=h1;have h2:=hcell 0 h0 0 u hu;have hspot:spot=none:=by simpa[Addr.add]using World.cell?_spot h2
  subst hspot;refine⟨b,off,rfl,?_,?_⟩
  ·rw[Go.WideShapes.add_plain]at h2
   unfold World.cell? at h2;simp only at h2;show b<w.heap.size
   rcases Nat.lt_or_ge b w.heap.size with h|h
   ·exact h
   ·rw[Array.getElem?_eq_none h]at h2
    cases h2
  ·refine RR (f:=λk=>w.cell? ⟨b,k,none⟩) hcs l off λi hi j u hu=>?_
   have:=hcell i hi j u hu;rwa[Go.WideShapes.add_plain]at this
section
variable {H:Type}{enc:TypeId×Value->H}{w:World}{a:Option Addr}{len cap:Nat}{d:DataW H}{p:List MemPlace}
theorem Sm(h:DataW.Trod enc Tryz.prog w 0 (λ_=>true) true 22 (.slice a len cap) d p):
  ∃z:List Int,O6 w (Lt w) (.slice a len cap) z/\(z=[]\/∃elems spare,d= .slice elems spare/\z.length<=elems.length+spare.length):=by
 obtain⟨fuel,hf⟩:=h;rcases open_slice Tryz.underlying22 hf with⟨hcs,_⟩|⟨x,l,c,m,n,D,Pl,hcs,hb,hl,hm,hmm,hx,hi⟩
 ·simp[Value.cells]at hcs
  obtain⟨rfl,rfl,rfl⟩:=hcs;exact⟨[],Sl.nil _ _ _ _,.inl rfl⟩
 ·simp[Value.cells]at hcs
  obtain⟨rfl,rfl,rfl⟩:=hcs;have hlm:len<=m:=by rw[hmm];split<;>omega
  have hex:∀i,∃e:Int,i<len->∀j u,([Value.int .i64 e])[j]?=some u->w.cell? (x.add (i*1+j))=some u:=by
   intro i;by_cases hil:i<len
   ·obtain⟨cs',hc,ht⟩:=hi i (by omega)
    rw[show Tryz.prog.cellsOf 3=1 from by kernel_rfl]at hc;obtain⟨_,hcl,hat⟩:=World.cells?_some hc;obtain⟨k,rfl,_⟩:=DataW.trod_int Tryz.underlying3 ht;refine⟨k,λ_ j u hu=>?_⟩
    have hj:j=0:=by
     have:=(List.getElem?_eq_some_iff.1 hu).1;simp at this;omega
    subst hj;have:=hat 0 (by omega);rw[Go.Deep.add_add]at this;rw[this,hu]
   ·exact⟨0,λh=>absurd h hil⟩
  obtain⟨f,hf'⟩:=Classical.axiomOfChoice hex;refine⟨(List.range len).map f,K5 (cs:=λe=>[Value.int .i64 e]) hl (by simp) (by omega) (λ_=>rfl) (λ_=>rfl) (λi hi' j u hu=>?_),.inr ⟨_,_,(Prod.mk.inj hx).1,by simp⟩⟩;simp only[List.length_map,List.length_range]at hi';exact hf' i hi' j u (by simpa using hu)
end
end
instance tAg3:TAg Tryz.prog 3 false:=⟨by kernel_rfl⟩
instance tSize3:TSize Tryz.prog 3 1:=⟨by kernel_rfl⟩
instance tZe3:TZe Tryz.prog 3 [.int .i64 0]:=⟨by kernel_rfl⟩
instance tBy3:TBy Tryz.prog 3 8:=⟨by kernel_rfl⟩
instance tAg4:TAg Tryz.prog 4 false:=⟨by kernel_rfl⟩
instance tSize4:TSize Tryz.prog 4 1:=⟨by kernel_rfl⟩
instance tZe4:TZe Tryz.prog 4 [.bool false]:=⟨by kernel_rfl⟩
instance tBy4:TBy Tryz.prog 4 1:=⟨by kernel_rfl⟩
instance tAg9:TAg Tryz.prog 9 false:=⟨by kernel_rfl⟩
instance tSize9:TSize Tryz.prog 9 1:=⟨by kernel_rfl⟩
instance tZe9:TZe Tryz.prog 9 [.string ByteArray.empty]:=⟨by kernel_rfl⟩
instance tSg9:TSg Tryz.prog 9:=⟨by kernel_rfl⟩
instance tAg22:TAg Tryz.prog 22 false:=⟨by kernel_rfl⟩
instance tSize22:TSize Tryz.prog 22 1:=⟨by kernel_rfl⟩
instance tZe22:TZe Tryz.prog 22 [.slice none 0 0]:=⟨by kernel_rfl⟩
instance tEl22:TEl Tryz.prog 22 3:=⟨by kernel_rfl⟩
instance tRo22:TRo Tryz.prog 22 3 1 8:=⟨by kernel_rfl⟩
instance tAg23:TAg Tryz.prog 23 false:=⟨by kernel_rfl⟩
instance tSize23:TSize Tryz.prog 23 1:=⟨by kernel_rfl⟩
instance tEl23:TEl Tryz.prog 23 118:=⟨by kernel_rfl⟩
instance tRo23:TRo Tryz.prog 23 118 2 40:=⟨by kernel_rfl⟩
instance tAg24:TAg Tryz.prog 24 false:=⟨by kernel_rfl⟩
instance tSize24:TSize Tryz.prog 24 1:=⟨by kernel_rfl⟩
instance tEl24:TEl Tryz.prog 24 71:=⟨by kernel_rfl⟩
instance tRo24:TRo Tryz.prog 24 71 3 40:=⟨by kernel_rfl⟩
instance tAg26:TAg Tryz.prog 26 true:=⟨by kernel_rfl⟩
instance tSize26:TSize Tryz.prog 26 3:=⟨by kernel_rfl⟩
instance tZe26:TZe Tryz.prog 26 [.slice none 0 0,.slice none 0 0,.slice none 0 0]:=⟨by kernel_rfl⟩
instance tFl26_0:TFl Tryz.prog 26 0 0 23:=⟨by kernel_rfl⟩
instance tFl26_1:TFl Tryz.prog 26 1 1 22:=⟨by kernel_rfl⟩
instance tFl26_2:TFl Tryz.prog 26 2 2 24:=⟨by kernel_rfl⟩
instance tSt26:TSt Tryz.prog 26 [.slice none 0 0,.slice none 0 0,.slice none 0 0] [(0,1),(1,1),(2,1)]:=⟨by kernel_rfl⟩
instance tAg32:TAg Tryz.prog 32 true:=⟨by kernel_rfl⟩
instance tSize32:TSize Tryz.prog 32 2:=⟨by kernel_rfl⟩
instance tZe32:TZe Tryz.prog 32 [.int .i64 0,.int .i64 0]:=⟨by kernel_rfl⟩
instance tFl32_0:TFl Tryz.prog 32 0 0 3:=⟨by kernel_rfl⟩
instance tFl32_1:TFl Tryz.prog 32 1 1 3:=⟨by kernel_rfl⟩
instance tSt32:TSt Tryz.prog 32 [.int .i64 0,.int .i64 0] [(0,1),(1,1)]:=⟨by kernel_rfl⟩
instance tAg42:TAg Tryz.prog 42 true:=⟨by kernel_rfl⟩
instance tSize42:TSize Tryz.prog 42 2:=⟨by kernel_rfl⟩
instance tZe42:TZe Tryz.prog 42 [.int .i64 0,.slice none 0 0]:=⟨by kernel_rfl⟩
instance tBy42:TBy Tryz.prog 42 32:=⟨by kernel_rfl⟩
instance tFl42_0:TFl Tryz.prog 42 0 0 3:=⟨by kernel_rfl⟩
instance tFl42_1:TFl Tryz.prog 42 1 1 22:=⟨by kernel_rfl⟩
instance tSt42:TSt Tryz.prog 42 [.int .i64 0,.slice none 0 0] [(0,1),(1,1)]:=⟨by kernel_rfl⟩
instance tEl52:TEl Tryz.prog 52 58:=⟨by kernel_rfl⟩
instance tRo52:TRo Tryz.prog 52 58 3 24:=⟨by kernel_rfl⟩
instance tAg58:TAg Tryz.prog 58 true:=⟨by kernel_rfl⟩
instance tSize58:TSize Tryz.prog 58 3:=⟨by kernel_rfl⟩
instance tZe58:TZe Tryz.prog 58 [.int .i64 0,.int .i64 0,.int .i64 0]:=⟨by kernel_rfl⟩
instance tFl58_0:TFl Tryz.prog 58 0 0 3:=⟨by kernel_rfl⟩
instance tFl58_1:TFl Tryz.prog 58 1 1 3:=⟨by kernel_rfl⟩
instance tSt58:TSt Tryz.prog 58 [.int .i64 0,.int .i64 0,.int .i64 0] [(0,1),(1,1),(2,1)]:=⟨by kernel_rfl⟩
instance tAg69:TAg Tryz.prog 69 false:=⟨by kernel_rfl⟩
instance tSize69:TSize Tryz.prog 69 1:=⟨by kernel_rfl⟩
instance tEl69:TEl Tryz.prog 69 42:=⟨by kernel_rfl⟩
instance tRo69:TRo Tryz.prog 69 42 2 32:=⟨by kernel_rfl⟩
instance tAg71:TAg Tryz.prog 71 true:=⟨by kernel_rfl⟩
instance tSize71:TSize Tryz.prog 71 3:=⟨by kernel_rfl⟩
instance tZe71:TZe Tryz.prog 71 [.int .i64 0,.int .i64 0,.slice none 0 0]:=⟨by kernel_rfl⟩
instance tFl71_0:TFl Tryz.prog 71 0 0 32:=⟨by kernel_rfl⟩
instance tFl71_1:TFl Tryz.prog 71 1 2 69:=⟨by kernel_rfl⟩
instance tSt71:TSt Tryz.prog 71 [.int .i64 0,.int .i64 0,.slice none 0 0] [(0,2),(2,1)]:=⟨by kernel_rfl⟩
instance tEl79:TEl Tryz.prog 79 159:=⟨by kernel_rfl⟩
instance tRo79:TRo Tryz.prog 79 159 5 56:=⟨by kernel_rfl⟩
instance tAg90:TAg Tryz.prog 90 false:=⟨by kernel_rfl⟩
instance tSize90:TSize Tryz.prog 90 1:=⟨by kernel_rfl⟩
instance tEl90:TEl Tryz.prog 90 22:=⟨by kernel_rfl⟩
instance tRo90:TRo Tryz.prog 90 22 1 24:=⟨by kernel_rfl⟩
instance tFl112_0:TFl Tryz.prog 112 0 0 22:=⟨by kernel_rfl⟩
instance tSt112:TSt Tryz.prog 112 [.slice none 0 0] [(0,1)]:=⟨by kernel_rfl⟩
instance tAg116:TAg Tryz.prog 116 false:=⟨by kernel_rfl⟩
instance tSize116:TSize Tryz.prog 116 1:=⟨by kernel_rfl⟩
instance tEl116:TEl Tryz.prog 116 120:=⟨by kernel_rfl⟩
instance tRo116:TRo Tryz.prog 116 120 3 32:=⟨by kernel_rfl⟩
instance tAg118:TAg Tryz.prog 118 true:=⟨by kernel_rfl⟩
instance tSize118:TSize Tryz.prog 118 2:=⟨by kernel_rfl⟩
instance tZe118:TZe Tryz.prog 118 [.string ByteArray.empty,.slice none 0 0]:=⟨by kernel_rfl⟩
instance tBy118:TBy Tryz.prog 118 40:=⟨by kernel_rfl⟩
instance tFl118_0:TFl Tryz.prog 118 0 0 9:=⟨by kernel_rfl⟩
instance tFl118_1:TFl Tryz.prog 118 1 1 116:=⟨by kernel_rfl⟩
instance tSt118:TSt Tryz.prog 118 [.string ByteArray.empty,.slice none 0 0] [(0,1),(1,1)]:=⟨by kernel_rfl⟩
instance tAg120:TAg Tryz.prog 120 true:=⟨by kernel_rfl⟩
instance tSize120:TSize Tryz.prog 120 3:=⟨by kernel_rfl⟩
instance tZe120:TZe Tryz.prog 120 [.string ByteArray.empty,.int .i64 0,.int .i64 0]:=⟨by kernel_rfl⟩
instance tFl120_0:TFl Tryz.prog 120 0 0 9:=⟨by kernel_rfl⟩
instance tFl120_1:TFl Tryz.prog 120 1 1 3:=⟨by kernel_rfl⟩
instance tFl120_2:TFl Tryz.prog 120 2 2 3:=⟨by kernel_rfl⟩
instance tSt120:TSt Tryz.prog 120 [.string ByteArray.empty,.int .i64 0,.int .i64 0] [(0,1),(1,1),(2,1)]:=⟨by kernel_rfl⟩
instance tAg140:TAg Tryz.prog 140 false:=⟨by kernel_rfl⟩
instance tSize140:TSize Tryz.prog 140 1:=⟨by kernel_rfl⟩
instance tAg141:TAg Tryz.prog 141 false:=⟨by kernel_rfl⟩
instance tSize141:TSize Tryz.prog 141 1:=⟨by kernel_rfl⟩
instance tEl141:TEl Tryz.prog 141 145:=⟨by kernel_rfl⟩
instance tRo141:TRo Tryz.prog 141 145 1 8:=⟨by kernel_rfl⟩
instance tFl143_0:TFl Tryz.prog 143 0 0 23:=⟨by kernel_rfl⟩
instance tFl143_1:TFl Tryz.prog 143 1 1 22:=⟨by kernel_rfl⟩
instance tFl143_2:TFl Tryz.prog 143 2 2 141:=⟨by kernel_rfl⟩
instance tFl143_3:TFl Tryz.prog 143 3 3 140:=⟨by kernel_rfl⟩
instance tSt143:TSt Tryz.prog 143 [.slice none 0 0,.slice none 0 0,.slice none 0 0,.map none] [(0,1),(1,1),(2,1),(3,1)]:=⟨by kernel_rfl⟩
instance tAg145:TAg Tryz.prog 145 false:=⟨by kernel_rfl⟩
instance tSize145:TSize Tryz.prog 145 1:=⟨by kernel_rfl⟩
instance tZe145:TZe Tryz.prog 145 [.pointer none]:=⟨by kernel_rfl⟩
instance tAg148:TAg Tryz.prog 148 false:=⟨by kernel_rfl⟩
instance tSize148:TSize Tryz.prog 148 1:=⟨by kernel_rfl⟩
instance tAg149:TAg Tryz.prog 149 false:=⟨by kernel_rfl⟩
instance tSize149:TSize Tryz.prog 149 1:=⟨by kernel_rfl⟩
instance tEl149:TEl Tryz.prog 149 252:=⟨by kernel_rfl⟩
instance tRo149:TRo Tryz.prog 149 252 1 8:=⟨by kernel_rfl⟩
instance tFl151_0:TFl Tryz.prog 151 0 0 22:=⟨by kernel_rfl⟩
instance tFl151_1:TFl Tryz.prog 151 1 1 148:=⟨by kernel_rfl⟩
instance tFl151_2:TFl Tryz.prog 151 2 2 149:=⟨by kernel_rfl⟩
instance tSt151:TSt Tryz.prog 151 [.slice none 0 0,.pointer none,.slice none 0 0] [(0,1),(1,1),(2,1)]:=⟨by kernel_rfl⟩
instance tAg159:TAg Tryz.prog 159 true:=⟨by kernel_rfl⟩
instance tSize159:TSize Tryz.prog 159 5:=⟨by kernel_rfl⟩
instance tZe159:TZe Tryz.prog 159 [.int .i64 0,.int .i64 0,.int .i64 0,.int .i64 0,.slice none 0 0]:=⟨by kernel_rfl⟩
instance tFl159_0:TFl Tryz.prog 159 0 0 3:=⟨by kernel_rfl⟩
instance tFl159_1:TFl Tryz.prog 159 1 1 32:=⟨by kernel_rfl⟩
instance tFl159_2:TFl Tryz.prog 159 2 3 3:=⟨by kernel_rfl⟩
instance tFl159_3:TFl Tryz.prog 159 3 4 69:=⟨by kernel_rfl⟩
instance tSt159:TSt Tryz.prog 159 [.int .i64 0,.int .i64 0,.int .i64 0,.int .i64 0,.slice none 0 0] [(0,1),(1,2),(3,1),(4,1)]:=⟨by kernel_rfl⟩
instance tAg160:TAg Tryz.prog 160 false:=⟨by kernel_rfl⟩
instance tSize160:TSize Tryz.prog 160 1:=⟨by kernel_rfl⟩
instance tZe160:TZe Tryz.prog 160 [.slice none 0 0]:=⟨by kernel_rfl⟩
instance tEl160:TEl Tryz.prog 160 32:=⟨by kernel_rfl⟩
instance tRo160:TRo Tryz.prog 160 32 2 16:=⟨by kernel_rfl⟩
instance tEl163:TEl Tryz.prog 163 26:=⟨by kernel_rfl⟩
instance tEl232:TEl Tryz.prog 232 9:=⟨by kernel_rfl⟩
instance tEl241:TEl Tryz.prog 241 4:=⟨by kernel_rfl⟩
instance tAg252:TAg Tryz.prog 252 false:=⟨by kernel_rfl⟩
instance tSize252:TSize Tryz.prog 252 1:=⟨by kernel_rfl⟩
instance tZe252:TZe Tryz.prog 252 [.pointer none]:=⟨by kernel_rfl⟩
instance tAg257:TAg Tryz.prog 257 false:=⟨by kernel_rfl⟩
instance tSize257:TSize Tryz.prog 257 1:=⟨by kernel_rfl⟩
instance tFl259_0:TFl Tryz.prog 259 0 0 160:=⟨by kernel_rfl⟩
instance tFl259_1:TFl Tryz.prog 259 1 1 22:=⟨by kernel_rfl⟩
instance tFl259_2:TFl Tryz.prog 259 2 2 257:=⟨by kernel_rfl⟩
instance tSt259:TSt Tryz.prog 259 [.slice none 0 0,.slice none 0 0,.map none] [(0,1),(1,1),(2,1)]:=⟨by kernel_rfl⟩
instance tFl314_0:TFl Tryz.prog 314 0 0 90:=⟨by kernel_rfl⟩
instance tFl314_1:TFl Tryz.prog 314 1 1 22:=⟨by kernel_rfl⟩
instance tFl314_2:TFl Tryz.prog 314 2 2 257:=⟨by kernel_rfl⟩
instance tSt314:TSt Tryz.prog 314 [.slice none 0 0,.slice none 0 0,.map none] [(0,1),(1,1),(2,1)]:=⟨by kernel_rfl⟩
instance tAg355:TAg Tryz.prog 355 false:=⟨by kernel_rfl⟩
instance tSize355:TSize Tryz.prog 355 1:=⟨by kernel_rfl⟩
instance tZe355:TZe Tryz.prog 355 [.int .u64 0]:=⟨by kernel_rfl⟩
abbrev iA(n:Int):AV:=.prim (.int .i64 n)
abbrev bA(b:Bool):AV:=.prim (.bool b)
abbrev sA(l:List UInt8):AV:=.prim (Cj l)
def fieldA(f:Field):AV:=.agg [sA f.name,iA f.bits,iA f.low]
abbrev FI(o:Bool)(l:List Field):AV:=.lst o 120 3 (l.map fieldA)
def Au(o:Bool)(k:Kind):AV:=.agg [sA k.name,FI o k.fields]
abbrev As(o o':Bool)(l:List Kind):AV:=.lst o 118 2 (l.map (Au o'))
abbrev AQ(o:Bool)(l:List Int):AV:=.lst o 3 1 (l.map iA)
instance {f:Field}:Frz (fieldA f) (fieldA f):=⟨rfl⟩
instance {o:Bool}{k:Kind}:Frz (Au o k) (Au false k):=⟨by unfold Au;exact Frz.h⟩
def AD(o:Bool)(c:Comp):AV:=.agg [iA c.kind,AQ o c.vals]
abbrev Aj(o o':Bool)(l:List Comp):AV:=.lst o 42 2 (l.map (AD o'))
def AA(o:Bool)(x:Item):AV:=.agg [iA x.ent.n,iA x.ent.gen,Aj o o x.comps]
abbrev Du(o o':Bool)(l:List Item):AV:=.lst o 71 3 (l.map (AA o'))
def wdA(o:Bool)(w:Wd):AV:=.agg [As o o w.kinds,AQ o w.gens,Du o o w.items]
def AX(e:Ent):AV:=.agg [iA e.n,iA e.gen]
instance {e:Ent}:Frz (AX e) (AX e):=⟨rfl⟩
instance {o:Bool}{k:Comp}:Frz (AD o k) (AD false k):=⟨by unfold AD;exact Frz.h⟩
instance {o:Bool}{k:Item}:Frz (AA o k) (AA false k):=⟨by unfold AA;exact Frz.h⟩
instance {o:Bool}{k:Wd}:Frz (wdA o k) (wdA false k):=⟨by unfold wdA;exact Frz.h⟩
theorem Oi{α:Type}(f:α->AV)(h:∀a,(f a).frz=f a)(l:List α):Al (l.map f)=l.map f:=by
 rw[Dy,List.map_map];exact List.map_congr_left λa _=>h a
theorem Od(o:Bool)(l:List Int):(AQ o l).frz=AQ false l:=by
 show AV.lst false _ _ (Al (l.map iA))=_
 rw[Oi _ λ_=>rfl]
theorem NB(a b c d:Int)(w:World):(binOp .eql 32 (.agg #[.int .i64 a,.int .i64 b]) (.agg #[.int .i64 c,.int .i64 d])).run Tryz.prog w= .ok (.bool (decide (a=c)&&decide (b=d))) w:=
 Rb (by kernel_rfl) (by kernel_rfl) (by kernel_rfl) a b c d w
def Ji(a b:Ent):Bool:=decide (a.n=b.n)&&decide (a.gen=b.gen)
theorem Jh(a b:Ent):Ji a b=decide (a=b):=by
 obtain⟨n,g⟩:=a;obtain⟨n',g'⟩:=b;rw[Bool.eq_iff_iff];simp[Ji]
theorem EO(a:Int):PS Tryz.prog 138 [iA a] (bA false):=by
 refine Spec.of (nt:=6) (res:=[.tmp 2]) Tryz.func138 rfl (by kernel_rfl) rfl rfl rfl λSf=>?_
 (repeat first|refine WK ?_|refine Ai λX=>?_|refine Ay λY=>?_);refine RT ?_;refine AN ?_;have:decide (a≠a)=false:=decide_eq_false (by simp);rw[this]
def By(a b:Int):Int:=if a<b then-1 else if b<a then 1 else 0
theorem DK(a b:Int):PS Tryz.prog 65 [iA a,iA b] (iA (By a b)):=by
 refine Spec.of (nt:=20) (res:=[.tmp 4]) Tryz.func65 rfl (by kernel_rfl) rfl rfl rfl λSf=>?_
 (repeat first|(refine AOps.gN ?_;first|(refine AOps.g_callf ?_;first|refine AOps.c1 (h:=(EO a)) (k:=?_)|refine AOps.c1 (h:=(EO b)) (k:=?_)))|refine WK ?_|refine Ai λX=>?_|refine Ay λY=>?_);refine AE rfl rfl ?_;(repeat first|refine WK ?_|refine Ai λX=>?_|refine Ay λY=>?_);refine AE rfl rfl ?_;(repeat first|refine WK ?_|refine Ai λX=>?_|refine Ay λY=>?_);refine AWP.cond rfl (λh=>?_) (λh=>?_)
 ·have h:a<b:=by simpa using h
  (repeat first|refine WK ?_|refine Ai λX=>?_|refine Ay λY=>?_);refine RT ?_;refine AN ?_;rw[By,if_pos h]
 ·have h:¬a<b:=by simpa using h
  (repeat first|refine WK ?_|refine Ai λX=>?_|refine Ay λY=>?_);refine AWP.cond rfl (λh2=>?_) (λh2=>?_)
  ·have h2:b<a:=by simpa using h2
   (repeat first|refine WK ?_|refine Ai λX=>?_|refine Ay λY=>?_);refine RT ?_;refine AN ?_;rw[By,if_neg h,if_pos h2]
  ·have h2:¬b<a:=by simpa using h2
   (repeat first|refine WK ?_|refine Ai λX=>?_|refine Ay λY=>?_);refine RT ?_;refine AN ?_;rw[By,if_neg h,if_neg h2]
def Ea{α:Type}(l:List α)(p:α->Bool):Int:=match l.findIdx? p with
 |some i=>i
 |none=>-1
theorem Gn{α:Type}{l:List α}{p:α->Bool}(h:∀j (hj:j<l.length),p l[j]=false):Ea l p= -1:=by
 have:l.findIdx? p=none:=by
  rw[List.findIdx?_eq_none_iff];intro x hx;obtain⟨j,hj,rfl⟩:=List.getElem_of_mem hx;exact h j hj
 simp[Ea,this]
theorem Gm{α:Type}{l:List α}{p:α->Bool}{i:Nat}(hi:i<l.length)(e:p l[i]=true)(h:∀j (hj:j<i),p (l[j]'(by omega))=false):Ea l p=i:=by
 have:l.findIdx? p=some i:=by
  rw[List.findIdx?_eq_some_iff_getElem];exact⟨hi,e,λj hj=>by simpa using h j hj⟩
 simp[Ea,this]
theorem Pt{α:Type}(l:List α)(p:α->Bool):decide ((0:Int)<=Ea l p)=l.any p:=by
 unfold Ea;cases h:l.findIdx? p with
 |none=>
  rw[List.findIdx?_eq_none_iff]at h;have:l.any p=false:=List.any_eq_false.2 λx hx=>by rw[h x hx];simp
  rw[this];rfl
 |some i=>
  obtain⟨hi,e,_⟩:=List.findIdx?_eq_some_iff_getElem.1 h;have:l.any p=true:=List.any_eq_true.2 ⟨_,List.getElem_mem hi,e⟩;rw[this];simp
theorem Mx{α:Type}(l:List α)(p:α->Bool): -1<=Ea l p/\Ea l p<l.length/\Ea l p<=l.length:=by
 unfold Ea;cases h:l.findIdx? p with
 |none=>simp;omega
 |some i=>
  obtain⟨hi,_⟩:=List.findIdx?_eq_some_iff_getElem.1 h;simp;omega
theorem JK(l:List Item)(f:FuncId)(cap:List AV)(p:Item->Bool)(hs:Bm cap=true)(hl:l.length<=4611686018427387904)(hf:∀x∈l,PS Tryz.prog f ((AA false) x::cap) (bA (p x))):PS Tryz.prog 167 [.lst false 71 3 (l.map (AA false)),.fn f cap] (iA (Ea l p)):=by
 refine Spec.of (nt:=19) (res:=[.tmp 4]) Tryz.func167 rfl (by kernel_rfl) rfl rfl rfl λSf=>?_
 (repeat first|refine WK ?_|refine Ai λX=>?_|refine Ay λY=>?_);refine BP (λi:Nat=>⟨[(0,.lst false 71 3 (l.map (AA false))),(1,.fn f cap),(7,iA (l.map (AA false)).length),(8,iA i)],Sf⟩) (λi=>i<=l.length/\∀j (h:j<l.length),j<i->p l[j]=false) (λi=>l.length-i) 0 ⟨Nat.zero_le _,λj h hj=>absurd hj (by omega)⟩ ?_;rintro i ⟨hi,he⟩;(repeat first|refine WK ?_|refine Ai λX=>?_|refine Ay λY=>?_);refine AWP.cond rfl (λhc=>?_) (λhc=>?_)
 ·have h:i<l.length:=by simpa using hc
  (repeat first|(refine AOps.gN ?_;first|(refine AOps.g_callv ?_;first|refine N6 (h:=(hf _ (List.getElem_mem h))) (k:=?_)))|refine WK ?_|refine Ai λX=>?_|refine Ay λY=>?_);refine AWP.cond rfl (λhd=>?_) (λhd=>?_)
  ·(repeat first|refine WK ?_|refine Ai λX=>?_|refine Ay λY=>?_)
   refine RT ?_;refine AN ?_;rw[Gm h hd λj hj=>he j (by omega) hj]
  ·(repeat first|refine WK ?_|refine Ai λX=>?_|refine Ay λY=>?_)
   refine A7 (i+1) ⟨h,λj h1 h2=>?_⟩;by_cases e:j=i
   ·subst e;exact hd
   ·exact he j h1 (by omega)
 ·have h:¬i<l.length:=by simpa using hc
  (repeat first|refine WK ?_|refine Ai λX=>?_|refine Ay λY=>?_);refine RT ?_;refine AN ?_;rw[Gn λj hj=>he j hj (by omega)]
def Fa{α:Type}(g:α->Int)(l:List α):Prop:=∀(a b:Nat) (x y:α),a<=b->l[a]?=some x->l[b]?=some y->g y<0->g x<0
def Spl{α:Type}(g:α->Int)(l:List α)(i j:Nat):Prop:=(∀(k:Nat) (x:α),k<i->l[k]?=some x->g x<0)/\∀(k:Nat) (x:α),j<=k->l[k]?=some x->¬g x<0
structure Found{α:Type}(g:α->Int)(l:List α)(r:Nat×Bool):Prop where
 le:r.1<=l.length
 eq:r.2=true↔∃x,l[r.1]?=some x/\g x=0
 mono:Fa g l->Spl g l r.1 r.1
theorem Spl.lo{α:Type}{g:α->Int}{l:List α}{i j m:Nat}{y:α}(hM:Fa g l)(h:Spl g l i j)(hy:l[m]?=some y)(hg:g y<0):Spl g l (m+1) j:=
 ⟨λk x hk hx=>hM k m x y (by omega) hx hy hg,h.2⟩
theorem Spl.hi{α:Type}{g:α->Int}{l:List α}{i j m:Nat}{y:α}(hM:Fa g l)(h:Spl g l i j)(hy:l[m]?=some y)(hg:¬g y<0):Spl g l i m:=
 ⟨h.1,λk x hk hx hx0=>hg (hM m k y x hk hy hx hx0)⟩
theorem QA(x:Item)(e:Ent):PS Tryz.prog 168 [AA false x,.fp (AX e).cells] (bA (decide (x.ent=e))):=by
 have hE:=NB x.ent.n x.ent.gen e.n e.gen;rw[show(decide (x.ent.n=e.n)&&decide (x.ent.gen=e.gen))=Ji x.ent e from rfl,Jh]at hE;refine Spec.of (nt:=8) (res:=[.tmp 3]) Tryz.func168 rfl (by kernel_rfl) rfl rfl rfl λSf=>?_
 (repeat first|(refine AOps.gN ?_;first|(refine AOps.g_box ?_;refine Az ?_)|refine AOps.p (W.eqP _ _ (by kernel_rfl) hE rfl rfl) rfl ?_)|refine WK ?_|refine Ai λX=>?_|refine Ay λY=>?_);refine RT ?_;refine AN ?_;rfl
def B0(l:List Item)(e:Ent):Int:=Ea l λx=>decide (x.ent=e)
theorem P8(w:Wd)(e:Ent)(hl:w.items.length<=4611686018427387904):PS Tryz.prog 91 [wdA false w,AX e] (iA (B0 w.items e)):=by
 have h:=JK w.items 168 [.fp (AX e).cells] (λx=>decide (x.ent=e)) rfl hl (λx _=>QA x e);refine Spec.of (nt:=9) (res:=[.tmp 4]) Tryz.func91 rfl (by kernel_rfl) rfl rfl rfl λSf=>?_
 refine RG ?_;(repeat first|(refine AOps.gN ?_;first|(refine AOps.g_box ?_;refine Az ?_))|refine WO ?_|refine Ai λX=>?_|refine Ay λY=>?_);refine NL ?_;(repeat first|(refine AOps.gN ?_;first|(refine AOps.g_callf ?_;first|refine AOps.c2 (h:=(h ..)) (k:=?_)))|refine WK ?_|refine Ai λX=>?_|refine Ay λY=>?_);refine RT ?_;refine AN ?_;rfl
theorem SO(c:Comp)(k:Int):PS Tryz.prog 142 [AD false c,iA k] (iA (By c.kind k)):=by
 refine Spec.of (nt:=9) (res:=[.tmp 4]) Tryz.func142 rfl (by kernel_rfl) rfl rfl rfl λSf=>?_
 (repeat first|(refine AOps.gN ?_;first|(refine AOps.g_callf ?_;first|refine AOps.c2 (h:=(DK c.kind k)) (k:=?_))|(refine AOps.g_box ?_;refine Az ?_))|refine WK ?_|refine Ai λX=>?_|refine Ay λY=>?_);refine RT ?_;refine AN ?_;rfl
set_option maxHeartbeats 1000000 in
theorem Me(l:List Comp)(t:AV)(f:FuncId)(cap:List AV)(g:Comp->Int)(t0:Int)(ht:t=iA t0)(hs:Bm cap=true)(hl:l.length<=4611686018427387904)(hf:∀x∈l,PS Tryz.prog f (AD false x::t::cap) (iA (g x))):
  Spec Tryz.prog 141 [Aj false false l,t,.fn f cap] [] λr S'=>∃b,Found g l b/\r= .tup [iA b.1,bA b.2]/\S'=[]:=by
 subst ht;refine Spec.of (nt:=49) (res:=[.tmp 6,.tmp 7]) Tryz.func141 rfl (by kernel_rfl) rfl rfl rfl λSf=>?_
 have hlm:(l.map (AD false)).length=l.length:=List.length_map _;(repeat first|refine WK ?_|refine Ai λX=>?_|refine Ay λY=>?_);refine BI (λ(i j:Nat)=>⟨[(0,Aj false false l),(1,iA t0),(2,.fn f cap),(8,iA (l.map (AD false)).length),(9,iA i),(10,iA j)],Sf⟩) (λi j=>i<=j/\j<=l.length/\(Fa g l->Spl g l i j)) (λi j=>j-i) 0 (l.map (AD false)).length ⟨Nat.zero_le _,by omega,λ_=>⟨λk x h=>absurd h (by omega),λk x h hx=>by have:=(List.getElem?_eq_some_iff.1 hx).1;omega⟩⟩ ?_;rintro i j ⟨hij,hjn,hmono⟩;(repeat first|refine WK ?_|refine Ai λX=>?_|refine Ay λY=>?_);refine AWP.cond rfl (λhc=>?_) (λhc=>?_)
 ·have h:i<j:=by rw[decide_eq_true_eq]at hc;omega
  have hmid:((i:Int)+j).fdiv (2^1)=(((i+j)/2:Nat):Int):=by
   rw[Int.fdiv_eq_ediv_of_nonneg _ (by decide)];omega
  have hw1:IntKind.u64.wrap ((i:Int)+j)=i+j:=by rw[IntKind.wrap_u64];omega
  have hw2:IntKind.i64.wrap (((i:Int)+j).fdiv (2^1))=((i:Int)+j).fdiv (2^1):=by
   rw[IntKind.wrap_i64,hmid];omega
  refine RG ?_;(repeat first|(refine AOps.gN ?_;first|refine AOps.p (W.conv .i64 .u64 (by kernel_rfl) (by kernel_rfl) rfl hw1) rfl ?_|refine AOps.p (W.shr 1 rfl rfl rfl (by decide)) rfl ?_|refine AOps.p (W.conv .u64 .i64 (by kernel_rfl) (by kernel_rfl) rfl hw2) rfl ?_)|refine WO ?_|refine Ai λX=>?_|refine Ay λY=>?_);refine NL ?_;rw[hmid];obtain⟨m,hm⟩:∃m,(i+j)/2=m:=⟨_,rfl⟩;rw[hm];have hml:m<l.length:=by omega
  obtain⟨y,hy⟩:∃y,l[m]=y:=⟨_,rfl⟩;have hya:l[m]?=some y:=by rw[List.getElem?_eq_getElem hml,hy]
  have hat:(l.map (AD false))[m]?=some (AD false y):=by rw[List.getElem?_map,hya];rfl
  have hfy:=hf y (by rw[<-hy];exact List.getElem_mem hml);refine RG ?_;(repeat first|(refine AOps.gN ?_;first|(refine AOps.g_callv ?_;first|refine AOps.k2 (h:=(hfy ..)) (k:=?_)))|refine WO ?_|refine Ai λX=>?_|refine Ay λY=>?_);refine NL ?_;refine AWP.cond rfl (λhe=>?_) (λhe=>?_)
  ·have he:g y<0:=by simpa using he
   (repeat first|refine WK ?_|refine Ai λX=>?_|refine Ay λY=>?_);refine Ak (m+1) j ⟨by omega,hjn,λhM=>(hmono hM).lo hM hya he⟩
  ·have he:¬g y<0:=by simpa using he
   (repeat first|refine WK ?_|refine Ai λX=>?_|refine Ay λY=>?_);refine Ak i m ⟨by omega,by omega,λhM=>(hmono hM).hi hM hya he⟩
 ·have h:i=j:=by rw[decide_eq_false_iff_not]at hc;omega
  subst h;by_cases hin:i<l.length
  ·have hil:i<l.length:=by omega
   have g1:decide ((i:Int)<(l.map (AD false)).length)=true:=decide_eq_true (by omega);obtain⟨y,hy⟩:∃y,l[i]=y:=⟨_,rfl⟩;have hya:l[i]?=some y:=by rw[List.getElem?_eq_getElem hil,hy]
   have hat:(l.map (AD false))[i]?=some (AD false y):=by rw[List.getElem?_map,hya];rfl
   have hfy:=hf y (by rw[<-hy];exact List.getElem_mem hil);(repeat first|(refine AOps.gN ?_;first|(refine AOps.g_callv ?_;first|refine AOps.k2 (h:=(hfy ..)) (k:=?_)))|refine WK ?_|refine Ai λX=>?_|refine Ay λY=>?_);refine RT ?_;exact⟨[iA i,bA (decide (g y=0))],[iA i,bA (decide (g y=0))],_,[],.cons (.tmp rfl) rfl (.cons (.tmp rfl) rfl .nil),.cons (.cell .same) (.cons (.cell .same) .nil),by exact Sub.f,(i,decide (g y=0)),⟨by simp;omega,by simp[hya],hmono⟩,rfl,rfl⟩
  ·have g1:decide ((i:Int)<(l.map (AD false)).length)=false:=decide_eq_false (by omega)
   (repeat first|refine WK ?_|refine Ai λX=>?_|refine Ay λY=>?_);refine RT ?_;exact⟨[iA i,bA false],[iA i,bA false],_,[],.cons (.tmp rfl) rfl (.cons (.tmp rfl) rfl .nil),.cons (.cell .same) (.cons (.cell .same) .nil),by exact Sub.f,(i,false),⟨by simp;omega,by simp[List.getElem?_eq_none (show l.length<=i by omega)],hmono⟩,rfl,rfl⟩
theorem Sw(l:List Comp)(k:Int)(hl:l.length<=4611686018427387904):Spec Tryz.prog 70 [Aj false false l,iA k] [] λr S'=>∃b,Found (λc:Comp=>By c.kind k) l b/\r= .tup [iA b.1,bA b.2]/\S'=[]:=by
 have h:=Me l (iA k) 142 [] (λc=>By c.kind k) k rfl rfl hl (λx _=>SO x k);refine Spec.of (nt:=11) (res:=[.tmp 4,.tmp 5]) Tryz.func70 rfl (by kernel_rfl) rfl rfl rfl λSf=>?_
 refine RG ?_;(repeat first|refine WO ?_|refine Ai λX=>?_|refine Ay λY=>?_);refine NL ?_;refine RG ?_;(repeat first|refine WO ?_|refine Ai λX=>?_|refine Ay λY=>?_);refine N7 (h:=h) λb hb=>?_
 (repeat first|refine WO ?_|refine Ai λX=>?_|refine Ay λY=>?_);refine FL ?_;refine RT ?_;exact⟨[iA b.1,bA b.2],[iA b.1,bA b.2],_,[],.cons (.tmp rfl) rfl (.cons (.tmp rfl) rfl .nil),.cons (.cell .same) (.cons (.cell .same) .nil),by exact Sub.f,b,hb,rfl,rfl⟩
theorem LA(l:List Item)(t:AV)(f:FuncId)(cap:List AV)(g:Item->Int)(t0:Int)(ht:t=iA t0)(hs:Bm cap=true)(hl:l.length<=4611686018427387904)(hf:∀x∈l,PS Tryz.prog f (AA false x::t::cap) (iA (g x))):
  Spec Tryz.prog 63 [Du false false l,t,.fn f cap] [] λr S'=>∃b,Found g l b/\r= .tup [iA b.1,bA b.2]/\S'=[]:=by
 subst ht;refine Spec.of (nt:=49) (res:=[.tmp 6,.tmp 7]) Tryz.func63 rfl (by kernel_rfl) rfl rfl rfl λSf=>?_
 have hlm:(l.map (AA false)).length=l.length:=List.length_map _;(repeat first|refine WK ?_|refine Ai λX=>?_|refine Ay λY=>?_);refine BI (λ(i j:Nat)=>⟨[(0,Du false false l),(1,iA t0),(2,.fn f cap),(8,iA (l.map (AA false)).length),(9,iA i),(10,iA j)],Sf⟩) (λi j=>i<=j/\j<=l.length/\(Fa g l->Spl g l i j)) (λi j=>j-i) 0 (l.map (AA false)).length ⟨Nat.zero_le _,by omega,λ_=>⟨λk x h=>absurd h (by omega),λk x h hx=>by have:=(List.getElem?_eq_some_iff.1 hx).1;omega⟩⟩ ?_;rintro i j ⟨hij,hjn,hmono⟩;(repeat first|refine WK ?_|refine Ai λX=>?_|refine Ay λY=>?_);refine AWP.cond rfl (λhc=>?_) (λhc=>?_)
 ·have h:i<j:=by rw[decide_eq_true_eq]at hc;omega
  have hmid:((i:Int)+j).fdiv (2^1)=(((i+j)/2:Nat):Int):=by
   rw[Int.fdiv_eq_ediv_of_nonneg _ (by decide)];omega
  have hw1:IntKind.u64.wrap ((i:Int)+j)=i+j:=by rw[IntKind.wrap_u64];omega
  have hw2:IntKind.i64.wrap (((i:Int)+j).fdiv (2^1))=((i:Int)+j).fdiv (2^1):=by
   rw[IntKind.wrap_i64,hmid];omega
  refine RG ?_;(repeat first|(refine AOps.gN ?_;first|refine AOps.p (W.conv .i64 .u64 (by kernel_rfl) (by kernel_rfl) rfl hw1) rfl ?_|refine AOps.p (W.shr 1 rfl rfl rfl (by decide)) rfl ?_|refine AOps.p (W.conv .u64 .i64 (by kernel_rfl) (by kernel_rfl) rfl hw2) rfl ?_)|refine WO ?_|refine Ai λX=>?_|refine Ay λY=>?_);refine NL ?_;rw[hmid];obtain⟨m,hm⟩:∃m,(i+j)/2=m:=⟨_,rfl⟩;rw[hm];have hml:m<l.length:=by omega
  obtain⟨y,hy⟩:∃y,l[m]=y:=⟨_,rfl⟩;have hya:l[m]?=some y:=by rw[List.getElem?_eq_getElem hml,hy]
  have hat:(l.map (AA false))[m]?=some (AA false y):=by rw[List.getElem?_map,hya];rfl
  have hfy:=hf y (by rw[<-hy];exact List.getElem_mem hml);refine RG ?_;(repeat first|(refine AOps.gN ?_;first|(refine AOps.g_callv ?_;first|refine AOps.k2 (h:=(hfy ..)) (k:=?_)))|refine WO ?_|refine Ai λX=>?_|refine Ay λY=>?_);refine NL ?_;refine AWP.cond rfl (λhe=>?_) (λhe=>?_)
  ·have he:g y<0:=by simpa using he
   (repeat first|refine WK ?_|refine Ai λX=>?_|refine Ay λY=>?_);refine Ak (m+1) j ⟨by omega,hjn,λhM=>(hmono hM).lo hM hya he⟩
  ·have he:¬g y<0:=by simpa using he
   (repeat first|refine WK ?_|refine Ai λX=>?_|refine Ay λY=>?_);refine Ak i m ⟨by omega,by omega,λhM=>(hmono hM).hi hM hya he⟩
 ·have h:i=j:=by rw[decide_eq_false_iff_not]at hc;omega
  subst h;by_cases hin:i<l.length
  ·have hil:i<l.length:=by omega
   have g1:decide ((i:Int)<(l.map (AA false)).length)=true:=decide_eq_true (by omega);obtain⟨y,hy⟩:∃y,l[i]=y:=⟨_,rfl⟩;have hya:l[i]?=some y:=by rw[List.getElem?_eq_getElem hil,hy]
   have hat:(l.map (AA false))[i]?=some (AA false y):=by rw[List.getElem?_map,hya];rfl
   have hfy:=hf y (by rw[<-hy];exact List.getElem_mem hil);(repeat first|(refine AOps.gN ?_;first|(refine AOps.g_callv ?_;first|refine AOps.k2 (h:=(hfy ..)) (k:=?_)))|refine WK ?_|refine Ai λX=>?_|refine Ay λY=>?_);refine RT ?_;exact⟨[iA i,bA (decide (g y=0))],[iA i,bA (decide (g y=0))],_,[],.cons (.tmp rfl) rfl (.cons (.tmp rfl) rfl .nil),.cons (.cell .same) (.cons (.cell .same) .nil),by exact Sub.f,(i,decide (g y=0)),⟨by simp;omega,by simp[hya],hmono⟩,rfl,rfl⟩
  ·have g1:decide ((i:Int)<(l.map (AA false)).length)=false:=decide_eq_false (by omega)
   (repeat first|refine WK ?_|refine Ai λX=>?_|refine Ay λY=>?_);refine RT ?_;exact⟨[iA i,bA false],[iA i,bA false],_,[],.cons (.tmp rfl) rfl (.cons (.tmp rfl) rfl .nil),.cons (.cell .same) (.cons (.cell .same) .nil),by exact Sub.f,(i,false),⟨by simp;omega,by simp[List.getElem?_eq_none (show l.length<=i by omega)],hmono⟩,rfl,rfl⟩
def Am(l:List Int)(n:Int):Int:=if n<1 then 0 else match l with|[]=>0|x::_=>x%n
def Ab(l:List Int)(n:Int):List Int:=if n<1 then l else l.tail
theorem Ac(l:List Int){n:Int}(h:1<=n):0<=Am l n/\Am l n<n:=by
 unfold Am;rw[if_neg (by omega)];split
 ·omega
 ·rename_i x _
  exact⟨Int.emod_nonneg x (by omega),Int.emod_lt_of_pos x (by omega)⟩
def C5(k:Nat):List UInt8:=match k with
 |0=>[115,112,111,116]
 |1=>[108,105,102,101]
 |2=>[116,101,97,109]
 |_=>[103,111,97,108]
def B3(k:Nat):List UInt8:=match k with
 |0=>[120]
 |1=>[121]
 |_=>[122]
def Bw(i:Nat)(l:List Int):Field×List Int:=
 if Am (Ab (Ab l 9) 40) 8=7 then(⟨B3 i,32,-2147483648⟩,Ab (Ab (Ab l 9) 40) 8)
 else(⟨B3 i,1+Am l 9,Am (Ab l 9) 40-30⟩,Ab (Ab (Ab l 9) 40) 8)
def BB:Nat->Nat->List Int->List Field×List Int
 |_,0,l=>([],l)
 |i,c+1,l=>((Bw i l).1::(BB (i+1) c (Bw i l).2).1,(BB (i+1) c (Bw i l).2).2)
def Cm(k:Nat)(l:List Int):Kind×List Int:=
 (⟨C5 k,(BB 0 (1+Am l 3).toNat (Ab l 3)).1⟩,(BB 0 (1+Am l 3).toNat (Ab l 3)).2)
def An:Nat->Nat->List Int->List Kind×List Int
 |_,0,l=>([],l)
 |k,c+1,l=>((Cm k l).1::(An (k+1) c (Cm k l).2).1,(An (k+1) c (Cm k l).2).2)
def AW(l:List Int):List Kind×List Int:=An 0 (1+Am l 4).toNat (Ab l 4)
theorem E0(x n:Int)(hn:1<=n)(h2:n<=4611686018427387904):PS Tryz.prog 67 [iA x,iA n] (iA (x%n)):=by
 refine Spec.of (nt:=14) (res:=[.tmp 4]) Tryz.func67 rfl (by kernel_rfl) rfl rfl rfl λSf=>?_
 have h3:x.tmod n<n:=Int.tmod_lt_of_pos _ (by omega)
 have h4: -n<x.tmod n:=by
  have:=Int.lt_tmod_of_pos x (b:=n) (by omega);exact this
 have h5:x.tmod n=x%n\/x.tmod n+n=x%n/\x.tmod n<0:=by
  rw[Int.tmod_eq_emod];split
  ·exact .inl (by simp)
  ·have:=Int.emod_nonneg x (b:=n) (by omega)
   have:=Int.emod_lt_of_pos x (b:=n) (by omega);refine .inr ?_;have:((n.natAbs:Nat):Int)=n:=by omega
   omega
 have h6:=Int.emod_nonneg x (b:=n) (by omega);(repeat first|(refine AOps.gN ?_;first|refine AOps.p (W.rem rfl rfl (by omega)) rfl ?_)|refine WK ?_|refine Ai λX=>?_|refine Ay λY=>?_);refine AWP.cond rfl (λhb=>?_) (λhb=>?_)
 ·have hb:x.tmod n<0:=by simpa using hb
  (repeat first|refine WK ?_|refine Ai λX=>?_|refine Ay λY=>?_);refine RT ?_;exact Ag rfl rfl (by exact Sub.f) ⟨by rw[show x.tmod n+n=x%n from by omega],rfl⟩
 ·have hb:¬x.tmod n<0:=by simpa using hb
  (repeat first|refine WK ?_|refine Ai λX=>?_|refine Ay λY=>?_);refine RT ?_;exact Ag rfl rfl (by exact Sub.f) ⟨by rw[show x.tmod n=x%n from by omega],rfl⟩
abbrev CT(l:List Int):AO:=.row 112 1 [.agg [AQ false l]]
theorem Ct(X:Nat)(l:List Int)(n:Int)(h2:n<=4611686018427387904):PO Tryz.prog 52 [.ptr X 0 0,iA n] X (CT l) (iA (Am l n)) (CT (Ab l n)):=by
 refine Spec.of (nt:=33) (res:=[.tmp 4]) Tryz.func52 rfl (by kernel_rfl) rfl rfl rfl λSf=>?_
 (repeat first|refine WK ?_|refine Ai λX=>?_|refine Ay λY=>?_);refine AWP.cond rfl (λhb=>?_) (λhb=>?_)
 ·(repeat first|refine WK ?_|refine Ai λX=>?_|refine Ay λY=>?_)
  refine RT ?_;have hb:l.length=0\/n<1:=by simp only[Bool.or_eq_true,decide_eq_true_eq,List.length_map]at hb;omega
  have e1:Am l n=0:=by
   unfold Am;split
   ·rfl
   ·rcases hb with hb|hb
    ·rw[List.length_eq_zero_iff.1 hb]
    ·omega
  have e2:Ab l n=l:=by
   unfold Ab;split
   ·rfl
   ·rcases hb with hb|hb
    ·rw[List.length_eq_zero_iff.1 hb];rfl
    ·omega
  rw[e1,e2];exact HV rfl rfl (by exact Sub.f) ⟨rfl,rfl⟩
 ·have hb:l.length≠0/\1<=n:=by simp only[Bool.or_eq_false_iff,decide_eq_false_iff_not,List.length_map]at hb;omega
  obtain⟨hb,hn⟩:=hb;cases l with
  |nil=>exact absurd rfl hb
  |cons x l=>
  (repeat first|(refine AOps.gN ?_;first|refine AOps.p (W.idxL rfl rfl (a:=0) rfl rfl) rfl ?_|refine AOps.p (W.loL rfl rfl (a:=1) rfl (by simp)) rfl ?_|refine AOps.p (W.call2 rfl rfl (E0 _ _ hn h2) rfl) rfl ?_)|refine WK ?_|refine Ai λX=>?_|refine Ay λY=>?_);refine RT ?_;rw[show Am (x::l) n=x%n from by unfold Am;rw[if_neg (by omega)],show Ab (x::l) n=l from by unfold Ab;rw[if_neg (by omega)];rfl];exact HV (S':=[(X,CT l)]) rfl rfl (by exact Sub.f) ⟨rfl,rfl⟩
def fAt:Nat->List Int->List Field×List Int
 |0,l=>([],l)
 |i+1,l=>((fAt i l).1++[(Bw i (fAt i l).2).1],(Bw i (fAt i l).2).2)
def kAt:Nat->List Int->List Kind×List Int
 |0,l=>([],l)
 |i+1,l=>((kAt i l).1++[(Cm i (kAt i l).2).1],(Cm i (kAt i l).2).2)
theorem RZ(i:Nat)(l:List Int):(fAt i l).1.length=i:=by
 induction i with
 |zero=>rfl
 |succ i ih=>simp[fAt,ih]
theorem Np(i:Nat)(l:List Int):(kAt i l).1.length=i:=by
 induction i with
 |zero=>rfl
 |succ i ih=>simp[kAt,ih]
theorem Ra(c i:Nat)(l:List Int):((fAt i l).1++(BB i c (fAt i l).2).1,(BB i c (fAt i l).2).2)=fAt (i+c) l:=by
 induction c generalizing i with
 |zero=>simp[BB]
 |succ c ih=>
  rw[show i+(c+1)=(i+1)+c from by omega,<-ih (i+1)];simp[BB,fAt]
theorem RH(c i:Nat)(l:List Int):((kAt i l).1++(An i c (kAt i l).2).1,(An i c (kAt i l).2).2)=kAt (i+c) l:=by
 induction c generalizing i with
 |zero=>simp[An]
 |succ c ih=>
  rw[show i+(c+1)=(i+1)+c from by omega,<-ih (i+1)];simp[An,kAt]
theorem GO(c:Nat)(l:List Int):BB 0 c l=fAt c l:=by
 have:=Ra c 0 l;simpa[fAt]using this
theorem D8(l:List Int):AW l=kAt (1+Am l 4).toNat (Ab l 4):=by
 have:=RH (1+Am l 4).toNat 0 (Ab l 4);simpa[kAt,AW]using this
theorem Oa{i:Nat}(h:i<4):[sA [115,112,111,116],sA [108,105,102,101],sA [116,101,97,109],sA [103,111,97,108]][i]?=some (sA (C5 i)):=by
 have:i=0\/i=1\/i=2\/i=3:=by omega
 rcases this with rfl|rfl|rfl|rfl<;>rfl
theorem On{i:Nat}(h:i<3):[sA [120],sA [121],sA [122]][i]?=some (sA (B3 i)):=by
 have:i=0\/i=1\/i=2:=by omega
 rcases this with rfl|rfl|rfl<;>rfl
theorem Pj(G:Nat)(l:List Int):PO Tryz.prog 51 [.ptr G 0 0] G (CT l) (As true false (AW l).1) (CT (AW l).2):=by
 refine Spec.of (nt:=55) (res:=[.tmp 2]) Tryz.func51 rfl (by kernel_rfl) rfl rfl rfl λSf=>?_
 have h0:=Ac l (n:=4) (by decide);(repeat first|(refine AOps.gN ?_;first|(refine AOps.g_callf ?_;first|refine AOps.o2 (h:=(Ct G _ _ (by decide))) (k:=?_)))|refine WK ?_|refine Ai λX=>?_|refine Ay λY=>?_);refine AWP.adopt (d:=3) 118 2 rfl λK=>?_
 obtain⟨c,hc⟩:∃c:Nat,1+Am l 4=c:=⟨(1+Am l 4).toNat,by omega⟩;obtain⟨l0,hl0⟩:∃l0,Ab l 4=l0:=⟨_,rfl⟩;have hg:AW l=kAt c l0:=by rw[D8,hl0,show(1+Am l 4).toNat=c from by omega]
 rw[hg,hl0,hc];have hc4:1<=c/\c<=4:=by omega
 clear hg hl0 hc h0;refine Hq (λ(i K:Nat) (M:List AV) (q:List Int)=>⟨[(0,.ptr G 0 0),(3,.sl K 0 i),(10,iA c),(11,iA i)],(K,.row 118 2 M)::(G,CT q)::Sf⟩) (λi _ M q=>i<=c/\M=(kAt i l0).1.map (Au false)/\M.length=i/\q=(kAt i l0).2) (λi _ _ _=>c-i) 0 K [] l0 ⟨Nat.zero_le _,rfl,rfl,rfl⟩ ?_;rintro i K M q ⟨hi,hM,hMl,hq⟩;(repeat first|refine WK ?_|refine Ai λX=>?_|refine Ay λY=>?_);refine AWP.cond rfl (λhb=>?_) (λhb=>?_)
 ·have h:i<c:=by rw[decide_eq_true_eq]at hb;omega
  have h4:i<4:=by omega
  have h3:=Ac q (n:=3) (by decide);have hkn:=Oa h4;(repeat first|(refine AOps.gN ?_;first|(refine AOps.g_callf ?_;first|refine AOps.o2 (h:=(Ct G _ _ (by decide))) (k:=?_)))|refine WK ?_|refine Ai λY=>?_|refine Ay λY=>?_);refine AWP.adoptIn (Y:=Y) 120 3 .here (λF=>.cons (.agg (.cons .same (.cons (.base .nil) .nil))) .nil) λF=>?_
  obtain⟨l1,hl1⟩:∃l1,Ab q 3=l1:=⟨_,rfl⟩;obtain⟨c1,hc1⟩:∃c1:Nat,1+Am q 3=c1:=⟨(1+Am q 3).toNat,by omega⟩
  have hgk:kAt (i+1) l0=((kAt i l0).1++[⟨C5 i,(fAt c1 l1).1⟩],(fAt c1 l1).2):=by
   rw[kAt,<-hq,Cm,GO,show(1+Am q 3).toNat=c1 from by omega,hl1]
  rw[hl1,hc1];have hc13:c1<=3:=by omega
  refine Hq (λ(j F:Nat) (L:List AV) (r:List Int)=>⟨[(0,.ptr G 0 0),(3,.sl K 0 i),(5,.ptr Y 0 0),(10,iA c),(11,iA i),(21,iA c1),(22,iA j)],(F,.row 120 3 L)::(Y,.row 118 2 [.agg [sA (C5 i),.sl F 0 j]])::(K,.row 118 2 M)::(G,CT r)::Sf⟩) (λj _ L r=>j<=c1/\L=(fAt j l1).1.map fieldA/\L.length=j/\r=(fAt j l1).2) (λj _ _ _=>c1-j) 0 F [] l1 ⟨Nat.zero_le _,rfl,rfl,rfl⟩ ?_;rintro j F L r ⟨hj,hL,hLl,hr⟩;(repeat first|refine WK ?_|refine Ai λX=>?_|refine Ay λY=>?_);refine AWP.cond rfl (λhd=>?_) (λhd=>?_)
  ·have hj':j<c1:=by rw[decide_eq_true_eq]at hd;omega
   have h9:=Ac r (n:=9) (by decide);have h40:=Ac (Ab r 9) (n:=40) (by decide);have hfn:=On (i:=j) (by omega);(repeat first|refine WK ?_|refine Ai λX=>?_|refine Ay λY=>?_);refine AWP.rs λX7=>?_
   refine RU ?_;(repeat first|(refine RGo.gN ?_;first|(refine RGo.g_callf ?_;first|refine RGo.o2 (h:=(Ct G _ _ (by decide))) (k:=?_)))|(refine RGo.gQ ?_;first|(refine RGo.g_callf ?_;first|refine RGo.o2 (h:=(Ct G _ _ (by decide))) (k:=?_)))|refine RK ?_|refine RGo.nil (by kernel_rfl) ?_);(repeat first|(refine AOps.gN ?_;first|(refine AOps.g_callf ?_;first|refine AOps.o2 (h:=(Ct G _ _ (by decide))) (k:=?_)))|refine WK ?_|refine Ai λX=>?_|refine Ay λY=>?_);refine AWP.cond rfl (λhe=>?_) (λhe=>?_)
   ·have he:Am (Ab (Ab r 9) 40) 8=7:=by simpa using he
    have hg:Bw j r=(⟨B3 j,32,-2147483648⟩,Ab (Ab (Ab r 9) 40) 8):=by rw[Bw,if_pos he]
    (repeat first|(refine AOps.gN ?_;first|(refine AOps.g_lit ?_;refine AOps.goL (fieldA ⟨B3 j,32,-2147483648⟩) ?_))|refine WK ?_|refine Ai λX=>?_|refine Ay λY=>?_);refine Et (j+1) Y _ _ ⟨hj',?_,?_,?_⟩
    ·rw[fAt,<-hr,hg,hL,List.map_append];rfl
    ·rw[List.length_append,hLl];rfl
    ·rw[fAt,<-hr,hg]
   ·have he:Am (Ab (Ab r 9) 40) 8≠7:=by simpa using he
    have hg:Bw j r=(⟨B3 j,1+Am r 9,Am (Ab r 9) 40-30⟩,Ab (Ab (Ab r 9) 40) 8):=by rw[Bw,if_neg he]
    (repeat first|(refine AOps.gN ?_;first|(refine AOps.g_lit ?_;refine AOps.goL (fieldA ⟨B3 j,1+Am r 9,Am (Ab r 9) 40-30⟩) ?_))|refine WK ?_|refine Ai λX=>?_|refine Ay λY=>?_);refine Et (j+1) Y _ _ ⟨hj',?_,?_,?_⟩
    ·rw[fAt,<-hr,hg,hL,List.map_append];rfl
    ·rw[List.length_append,hLl];rfl
    ·rw[fAt,<-hr,hg]
  ·have hj':j=c1:=by rw[decide_eq_false_iff_not]at hd;omega
   subst hj';refine FL ?_;refine AWP.iceIn (X:=F) (Y:=Y) .here (.next .here) rfl (.cons (.agg (.cons .same (.cons (.base (.sl (by omega))) .nil))) .nil) ?_
   have hF:Al ((L.drop 0).take j)=(fAt j l1).1.map fieldA:=by
    rw[List.drop_zero,List.take_of_length_le (by omega),hL];exact Frzs.h
   rw[hF];(repeat first|(refine AOps.gN ?_;first|(refine AOps.g_lit ?_;refine AOps.goL (Au false ⟨C5 i,(fAt j l1).1⟩) ?_))|refine WK ?_|refine Ai λX=>?_|refine Ay λY=>?_);refine Et (i+1) Y _ _ ⟨h,?_,?_,?_⟩
   ·rw[hgk,hM,List.map_append];rfl
   ·rw[List.length_append,hMl];rfl
   ·rw[hgk,hr]
 ·have h:i=c:=by rw[decide_eq_false_iff_not]at hb;omega
  subst h;(repeat first|refine WK ?_|refine Ai λX=>?_|refine Ay λY=>?_);refine RT ?_;subst hM hq;refine⟨[.sl K 0 i],[.lst true 118 2 ((kAt i l0).1.map (Au false))],_,[(G,CT (kAt i l0).2)],.cons (.tmp rfl) rfl .nil,.cons (.cell (.sl (p:=0) .here (by rw[List.length_map,Np]))) .nil,by exact Sub.f,rfl,rfl⟩
def Sg(c:UInt8):Bool:=decide (97<=c)&&decide (c<=122)
def Sq(c:UInt8):Bool:=decide (48<=c)&&decide (c<=57)
def MA(l:List UInt8)(j:Nat):Bool:=Sg (l.getD j 0)||(decide (0<j)&&Sq (l.getD j 0))
def CP(l:List UInt8):Bool:=decide (0<l.length)&&decide (l.length<=16)&&(List.range l.length).all (MA l)
def AY(f:Field):Int:=if CP f.name&&decide (1<=f.bits)&&decide (f.bits<=32)&&decide (-4294967296<=f.low)&&decide (f.low<=4294967296)then 0 else 3
def BF:List Field->List Field->Int
 |_,[]=>0
 |pre,f::fs=>if AY f≠0 then AY f else if pre.any (λo=>o.name==f.name)then 5 else BF (pre++[f]) fs
def BA(k:Kind):Int:=if CP k.name then(if 8<k.fields.length then 2 else BF [] k.fields)else 3
def Cg(l:List Kind)(name:List UInt8):Int:=
 match l.findIdx? (λk=>k.name==name)with
 |some i=>i
 |none=>-1
def BR:List Kind->List Kind->Int
 |_,[]=>0
 |pre,k::ks=>if BA k≠0 then BA k else if pre.any (λo=>o.name==k.name)then 5 else BR (pre++[k]) ks
def A6(l:List Kind):Int:=if 16<l.length then 2 else BR [] l
def DJ(f:Field):Int:=if AY f=0 then f.low+(2^f.bits.toNat-1)else 0
def Bj(f:Field)(v:Int):Int:=if AY f=0 then max f.low (min v (DJ f))else 0
def BQ(k:Kind)(vals:List Int):List Int×Int:=
 if BA k≠0 then([],BA k)else if vals.length≠k.fields.length then([],1)else(List.zipWith Bj k.fields vals,0)
def Br(k:Kind)(vals:List Int):Bool:=decide ((BQ k vals).2=0)&&decide ((BQ k vals).1=vals)
theorem FX{l:List Kind}{name:List UInt8}(h:∀j (hj:j<l.length),l[j].name≠name):Cg l name= -1:=by
 have:l.findIdx? (λk=>k.name==name)=none:=by
  rw[List.findIdx?_eq_none_iff];intro x hx;obtain⟨j,hj,rfl⟩:=List.getElem_of_mem hx;simpa using h j hj
 simp[Cg,this]
theorem JQ{l:List Kind}{name:List UInt8}{i:Nat}(hi:i<l.length)(e:l[i].name=name)(h:∀j (hj:j<i),(l[j]'(by omega)).name≠name):Cg l name=i:=by
 have:l.findIdx? (λk=>k.name==name)=some i:=by
  rw[List.findIdx?_eq_some_iff_getElem];refine⟨hi,by simpa using e,λj hj=>?_⟩;simpa using h j hj
 simp[Cg,this]
theorem KW{pre:List Kind}{k:Kind}{ks:List Kind}(h:BA k≠0):BR pre (k::ks)=BA k:=by
 simp[BR,h]
theorem IO{pre:List Kind}{k:Kind}{ks:List Kind}(h:BA k=0)(hf:0<=Cg pre k.name):BR pre (k::ks)=5:=by
 have:pre.any (λo=>o.name==k.name)=true:=by
  rcases hc:pre.any (λo=>o.name==k.name)with _|_
  ·exfalso
   rw[List.any_eq_false]at hc;rw[FX (λj hj=>by simpa using hc _ (List.getElem_mem hj))]at hf;omega
  ·rfl
 simp[BR,h,this]
theorem JJ{pre:List Kind}{k:Kind}{ks:List Kind}(h:BA k=0)(hf:Cg pre k.name<0):BR pre (k::ks)=BR (pre++[k]) ks:=by
 have:pre.any (λo=>o.name==k.name)=false:=by
  rcases hc:pre.any (λo=>o.name==k.name)with _|_
  ·rfl
  ·exfalso
   rw[List.any_eq_true]at hc;obtain⟨x,hx,e⟩:=hc;unfold Cg at hf;split at hf
   ·omega
   ·rename_i hn
    rw[List.findIdx?_eq_none_iff]at hn;exact absurd e (by simpa using hn x hx)
 simp[BR,h,this]
theorem Eu{l:List Kind}{i:Nat}(hi:i<l.length):BR (l.take i) (l.drop i)=BR (l.take i) (l[i]::l.drop (i+1)):=by
 rw[List.drop_eq_getElem_cons hi]
theorem KV{l:List Kind}{i:Nat}(hi:l.length<=i):BR (l.take i) (l.drop i)=0:=by
 rw[List.drop_of_length_le hi];rfl
theorem HP(f:Field)(h:CP f.name=true)(hb:1<=f.bits/\f.bits<=32/\ -4294967296<=f.low/\f.low<=4294967296):AY f=0:=by
 simp[AY,h,hb]
theorem Ls(f:Field)(h:CP f.name=true->¬(1<=f.bits/\f.bits<=32/\ -4294967296<=f.low/\f.low<=4294967296)):AY f=3:=by
 unfold AY;rw[if_neg];simp only[Bool.and_eq_true,decide_eq_true_eq];intro hc;exact h hc.1.1.1.1 ⟨hc.1.1.1.2,hc.1.1.2,hc.1.2,hc.2⟩
theorem EQ(f:Field):AY f=0↔CP f.name=true/\1<=f.bits/\f.bits<=32/\ -4294967296<=f.low/\f.low<=4294967296:=by
 constructor
 ·intro h
  unfold AY at h;split at h
  ·rename_i hc
   simpa[and_assoc]using hc
  ·simp at h
 ·rintro⟨h,hb⟩
  exact HP f h hb
theorem JS{pre:List Field}{f:Field}{fs:List Field}(h:AY f≠0):BF pre (f::fs)=AY f:=by
 simp[BF,h]
theorem He{pre:List Field}{f:Field}{fs:List Field}(h:AY f=0){j:Nat}(hj:j<pre.length)(e:pre[j].name=f.name):BF pre (f::fs)=5:=by
 have:pre.any (λo=>o.name==f.name)=true:=by
  rw[List.any_eq_true];exact⟨pre[j],List.getElem_mem hj,by simp[e]⟩
 simp[BF,h,this]
theorem In{pre:List Field}{f:Field}{fs:List Field}(h:AY f=0)(e:∀j (hj:j<pre.length),pre[j].name≠f.name):BF pre (f::fs)=BF (pre++[f]) fs:=by
 have:pre.any (λo=>o.name==f.name)=false:=by
  rw[List.any_eq_false];intro x hx;obtain⟨j,hj,rfl⟩:=List.getElem_of_mem hx;simpa using e j hj
 simp[BF,h,this]
theorem Ed{l:List Field}{i:Nat}(hi:i<l.length):BF (l.take i) (l.drop i)=BF (l.take i) (l[i]::l.drop (i+1)):=by
 rw[List.drop_eq_getElem_cons hi]
theorem JR{l:List Field}{i:Nat}(hi:l.length<=i):BF (l.take i) (l.drop i)=0:=by
 rw[List.drop_of_length_le hi];rfl
theorem OV(l:List UInt8)(j:Nat)(hj:j<l.length)(h:MA l j=false):CP l=false:=by
 have:(List.range l.length).all (MA l)=false:=by
  rw[List.all_eq_false];exact⟨j,List.mem_range.2 hj,by simp[h]⟩
 simp[CP,this]
theorem Mn(l:List UInt8)(h0:0<l.length)(h1:l.length<=16)(h:∀j,j<l.length->MA l j=true):CP l=true:=by
 have:(List.range l.length).all (MA l)=true:=by
  rw[List.all_eq_true];intro x hx;exact h x (List.mem_range.1 hx)
 simp[CP,this,h0,h1]
theorem LO(l:List UInt8)(h:l.length=0\/16<l.length):CP l=false:=by
 rcases h with h|h
 ·simp[CP,h]
 ·simp[CP,show¬l.length<=16 from by omega]
theorem PP{b:Int}(h1:1<=b)(h2:b<=32):(2:Int)<=2^b.toNat/\(2:Int)^b.toNat<=4294967296:=by
 obtain⟨n,rfl⟩:∃n:Nat,b=n:=⟨b.toNat,by omega⟩;rw[Int.toNat_natCast];have h:n=1\/n=2\/n=3\/n=4\/n=5\/n=6\/n=7\/n=8\/n=9\/n=10\/n=11\/n=12\/n=13\/n=14\/n=15\/n=16\/n=17\/n=18\/n=19\/n=20\/n=21\/n=22\/n=23\/n=24\/n=25\/n=26\/n=27\/n=28\/n=29\/n=30\/n=31\/n=32:=by omega
 rcases h with rfl|rfl|rfl|rfl|rfl|rfl|rfl|rfl|rfl|rfl|rfl|rfl|rfl|rfl|rfl|rfl|rfl|rfl|rfl|rfl|rfl|rfl|rfl|rfl|rfl|rfl|rfl|rfl|rfl|rfl|rfl|rfl<;>decide
theorem Of{f:Field}(h:AY f=0):DJ f=f.low+(2^f.bits.toNat-1):=by simp[DJ,h]
theorem Og{f:Field}(h:AY f=0):f.low<DJ f/\DJ f<=8589934592:=by
 have hb:=(EQ f).1 h;have:=PP hb.2.1 hb.2.2.1;rw[Of h];omega
theorem Il{pre l:List Field}(h:BF pre l=0):∀f∈l,AY f=0:=by
 induction l generalizing pre with
 |nil=>intro f hf;cases hf
 |cons x l ih=>
  intro f hf;simp only[BF]at h;split at h
  ·rename_i hx;exact absurd h hx
  ·rename_i hx
   split at h
   ·simp at h
   ·rcases List.mem_cons.1 hf with rfl|hf
    ·simpa using hx
    ·exact ih h f hf
theorem Ce{k:Kind}(h:BA k=0):CP k.name=true/\k.fields.length<=8/\∀f∈k.fields,AY f=0:=by
 unfold BA at h;split at h
 ·rename_i h1
  split at h
  ·simp at h
  ·rename_i h2
   exact⟨h1,by omega,Il h⟩
 ·simp at h
def E1:Kind:=⟨[108,105,102,101],[⟨[120],8,0⟩]⟩
def baseWd:Wd:=⟨[E1],[0],[⟨⟨0,0⟩,[⟨0,[9]⟩]⟩]⟩
theorem Hp:PS Tryz.prog 54 [] (wdA false baseWd):=by
 refine Spec.of (nt:=14) (res:=[.cell 0 26]) Tryz.func54 rfl (by kernel_rfl) rfl rfl rfl λSf=>?_
 (repeat first|refine WK ?_|refine Ai λX=>?_|refine Ay λY=>?_);refine RT ?_;refine GZ (rs:=[wdA false baseWd]) rfl (.cons (.cell (p:=0) rfl .here TAg.h TSize.h rfl rfl) rfl .nil)
theorem FJ(a b:List Int)(hl:a.length<=1099511627776):PS Tryz.prog 34 [AQ false a,AQ false b] (bA (decide (a=b))):=by
 refine Spec.of (nt:=26) (res:=[.tmp 4]) Tryz.func34 rfl (by kernel_rfl) rfl rfl rfl λSf=>?_
 (repeat first|refine WK ?_|refine Ai λX=>?_|refine Ay λY=>?_);refine AWP.cond rfl (λhb=>?_) (λhb=>?_)
 ·have hb:a.length≠b.length:=by simp at hb;omega
  (repeat first|refine WK ?_|refine Ai λX=>?_|refine Ay λY=>?_);refine RT ?_;refine AN ?_;rw[decide_eq_false λe=>hb (by rw[e])]
 ·have hb:a.length=b.length:=by simp at hb;omega
  (repeat first|refine WK ?_|refine Ai λX=>?_|refine Ay λY=>?_);refine BP (λi:Nat=>⟨[(0,AQ false a),(1,AQ false b),(12,iA (a.map iA).length),(13,iA i)],Sf⟩) (λi=>i<=a.length/\∀j (h:j<a.length),j<i->a[j]=b[j]'(by omega)) (λi=>a.length-i) 0 ⟨Nat.zero_le _,λj h hj=>absurd hj (by omega)⟩ ?_;rintro i ⟨hi,he⟩;(repeat first|refine WK ?_|refine Ai λX=>?_|refine Ay λY=>?_);refine AWP.cond rfl (λhc=>?_) (λhc=>?_)
  ·have h:i<a.length:=by simpa using hc
   have h':i<b.length:=by omega
   (repeat first|refine WK ?_|refine Ai λX=>?_|refine Ay λY=>?_);refine RU ?_;(repeat first|refine RK ?_|refine RGo.nil (by kernel_rfl) ?_);(repeat first|refine WK ?_|refine Ai λX=>?_|refine Ay λY=>?_);refine AWP.cond rfl (λhd=>?_) (λhd=>?_)
   ·have hd:a[i]≠b[i]:=by simpa using hd
    (repeat first|refine WK ?_|refine Ai λX=>?_|refine Ay λY=>?_);refine RT ?_;refine AN ?_;rw[decide_eq_false λe=>hd (by subst e;rfl)]
   ·have hd:a[i]=b[i]:=by simpa using hd
    (repeat first|refine WK ?_|refine Ai λX=>?_|refine Ay λY=>?_);refine A7 (i+1) ⟨h,λj h1 h2=>?_⟩;by_cases e:j=i
    ·subst e;exact hd
    ·exact he j h1 (by omega)
  ·have h:¬i<a.length:=by simpa using hc
   (repeat first|refine WK ?_|refine Ai λX=>?_|refine Ay λY=>?_);refine RT ?_;refine AN ?_;rw[decide_eq_true (List.ext_getElem hb λj h1 h2=>he j h1 (by omega))]
def eqF{α:Type}(p:α->α->Bool):List α->List α->Bool
 |[],[]=>true
 |x::xs,y::ys=>p x y&&eqF p xs ys
 |_,_=>false
theorem Kf{α:Type}{p:α->α->Bool}:{a b:List α}->a.length≠b.length->eqF p a b=false
 |[],[],h=>absurd rfl h
 |[],_::_,_=>rfl
 |_::_,[],_=>rfl
 |x::xs,y::ys,h=>by rw[eqF,Kf (by simpa using h),Bool.and_false]
theorem M7{α:Type}{p:α->α->Bool}:{a b:List α}->(hl:a.length=b.length)->{i:Nat}->(h:i<a.length)->p a[i] (b[i]'(by omega))=false->eqF p a b=false
 |[],_,_,_,h,_=>absurd h (by simp)
 |x::xs,[],hl,_,_,_=>by simp at hl
 |x::xs,y::ys,hl,0,h,hp=>by rw[eqF,show p x y=false from hp,Bool.false_and]
 |x::xs,y::ys,hl,i+1,h,hp=>by
  rw[eqF,M7 (a:=xs) (b:=ys) (by simpa using hl) (i:=i) (by simpa using h) hp,Bool.and_false]
theorem Ke{α:Type}{p:α->α->Bool}:{a b:List α}->(hl:a.length=b.length)->(∀i (h:i<a.length),p a[i] (b[i]'(by omega))=true)->eqF p a b=true
 |[],[],_,_=>rfl
 |[],_::_,hl,_=>by simp at hl
 |x::xs,[],hl,_=>by simp at hl
 |x::xs,y::ys,hl,h=>by
  rw[eqF,show p x y=true from h 0 (by simp),Ke (a:=xs) (b:=ys) (by simpa using hl) λi hi=>h (i+1) (by simpa using hi)];rfl
theorem M8{α:Type}{p:α->α->Bool}[DecidableEq α]:{a b:List α}->(∀x∈a,∀y∈b,p x y=decide (x=y))->eqF p a b=decide (a=b)
 |[],[],_=>rfl
 |[],_::_,_=>rfl
 |_::_,[],_=>rfl
 |x::xs,y::ys,h=>by
  rw[eqF,h x (by simp) y (by simp),M8 λu hu v hv=>h u (by simp[hu]) v (by simp[hv])];by_cases e:x=y<;>by_cases e2:xs=ys<;>simp[e,e2]
theorem JU(a b:List Comp)(f:FuncId)(cap:List AV)(p:Comp->Comp->Bool)(hs:Bm cap=true)(hl:a.length<=4611686018427387904)(hf:∀x∈a,∀y∈b,PS Tryz.prog f ((AD false) x::(AD false) y::cap) (bA (p x y))):
  PS Tryz.prog 109 [.lst false 42 2 (a.map (AD false)),.lst false 42 2 (b.map (AD false)),.fn f cap] (bA (eqF p a b)):=by
 refine Spec.of (nt:=32) (res:=[.tmp 6]) Tryz.func109 rfl (by kernel_rfl) rfl rfl rfl λSf=>?_
 (repeat first|refine WK ?_|refine Ai λX=>?_|refine Ay λY=>?_);refine AWP.cond rfl (λhb=>?_) (λhb=>?_)
 ·have hb:a.length≠b.length:=by simp at hb;omega
  (repeat first|refine WK ?_|refine Ai λX=>?_|refine Ay λY=>?_);refine RT ?_;refine AN ?_;rw[Kf hb]
 ·have hb:a.length=b.length:=by simp at hb;omega
  (repeat first|refine WK ?_|refine Ai λX=>?_|refine Ay λY=>?_);refine BP (λi:Nat=>⟨[(0,.lst false 42 2 (a.map (AD false))),(1,.lst false 42 2 (b.map (AD false))),(2,.fn f cap),(15,.lst false 42 2 (a.map (AD false))),(16,iA (a.map (AD false)).length),(17,iA i)],Sf⟩) (λi=>i<=a.length/\∀j (h:j<a.length),j<i->p a[j] (b[j]'(by omega))=true) (λi=>a.length-i) 0 ⟨Nat.zero_le _,λj h hj=>absurd hj (by omega)⟩ ?_;rintro i ⟨hi,he⟩;(repeat first|refine WK ?_|refine Ai λX=>?_|refine Ay λY=>?_);refine AWP.cond rfl (λhc=>?_) (λhc=>?_)
  ·have h:i<a.length:=by simpa using hc
   have h':i<b.length:=by omega
   (repeat first|(refine AOps.gN ?_;first|(refine AOps.g_callv ?_;first|refine AOps.k2 (h:=(hf _ (List.getElem_mem h) _ (List.getElem_mem h'))) (k:=?_)))|refine WK ?_|refine Ai λX=>?_|refine Ay λY=>?_);refine AWP.cond rfl (λhd=>?_) (λhd=>?_)
   ·have hd:p a[i] b[i]=false:=by simpa using hd
    (repeat first|refine WK ?_|refine Ai λX=>?_|refine Ay λY=>?_);refine RT ?_;refine AN ?_;rw[M7 hb h hd]
   ·have hd:p a[i] b[i]=true:=by simpa using hd
    (repeat first|refine WK ?_|refine Ai λX=>?_|refine Ay λY=>?_);refine A7 (i+1) ⟨h,λj h1 h2=>?_⟩;by_cases e:j=i
    ·subst e;exact hd
    ·exact he j h1 (by omega)
  ·have h:¬i<a.length:=by simpa using hc
   (repeat first|refine WK ?_|refine Ai λX=>?_|refine Ay λY=>?_);refine RT ?_;refine AN ?_;rw[Ke hb λj hj=>he j hj (by omega)]
theorem JT(a b:List Item)(f:FuncId)(cap:List AV)(p:Item->Item->Bool)(hs:Bm cap=true)(hl:a.length<=4611686018427387904)(hf:∀x∈a,∀y∈b,PS Tryz.prog f ((AA false) x::(AA false) y::cap) (bA (p x y))):
  PS Tryz.prog 107 [.lst false 71 3 (a.map (AA false)),.lst false 71 3 (b.map (AA false)),.fn f cap] (bA (eqF p a b)):=by
 refine Spec.of (nt:=32) (res:=[.tmp 6]) Tryz.func107 rfl (by kernel_rfl) rfl rfl rfl λSf=>?_
 (repeat first|refine WK ?_|refine Ai λX=>?_|refine Ay λY=>?_);refine AWP.cond rfl (λhb=>?_) (λhb=>?_)
 ·have hb:a.length≠b.length:=by simp at hb;omega
  (repeat first|refine WK ?_|refine Ai λX=>?_|refine Ay λY=>?_);refine RT ?_;refine AN ?_;rw[Kf hb]
 ·have hb:a.length=b.length:=by simp at hb;omega
  (repeat first|refine WK ?_|refine Ai λX=>?_|refine Ay λY=>?_);refine BP (λi:Nat=>⟨[(0,.lst false 71 3 (a.map (AA false))),(1,.lst false 71 3 (b.map (AA false))),(2,.fn f cap),(15,.lst false 71 3 (a.map (AA false))),(16,iA (a.map (AA false)).length),(17,iA i)],Sf⟩) (λi=>i<=a.length/\∀j (h:j<a.length),j<i->p a[j] (b[j]'(by omega))=true) (λi=>a.length-i) 0 ⟨Nat.zero_le _,λj h hj=>absurd hj (by omega)⟩ ?_;rintro i ⟨hi,he⟩;(repeat first|refine WK ?_|refine Ai λX=>?_|refine Ay λY=>?_);refine AWP.cond rfl (λhc=>?_) (λhc=>?_)
  ·have h:i<a.length:=by simpa using hc
   have h':i<b.length:=by omega
   (repeat first|(refine AOps.gN ?_;first|(refine AOps.g_callv ?_;first|refine AOps.k2 (h:=(hf _ (List.getElem_mem h) _ (List.getElem_mem h'))) (k:=?_)))|refine WK ?_|refine Ai λX=>?_|refine Ay λY=>?_);refine AWP.cond rfl (λhd=>?_) (λhd=>?_)
   ·have hd:p a[i] b[i]=false:=by simpa using hd
    (repeat first|refine WK ?_|refine Ai λX=>?_|refine Ay λY=>?_);refine RT ?_;refine AN ?_;rw[M7 hb h hd]
   ·have hd:p a[i] b[i]=true:=by simpa using hd
    (repeat first|refine WK ?_|refine Ai λX=>?_|refine Ay λY=>?_);refine A7 (i+1) ⟨h,λj h1 h2=>?_⟩;by_cases e:j=i
    ·subst e;exact hd
    ·exact he j h1 (by omega)
  ·have h:¬i<a.length:=by simpa using hc
   (repeat first|refine WK ?_|refine Ai λX=>?_|refine Ay λY=>?_);refine RT ?_;refine AN ?_;rw[Ke hb λj hj=>he j hj (by omega)]
theorem Lr(f g:Field)(w:World):(binOp .neq 120 (.agg [Cj f.name,.int .i64 f.bits,.int .i64 f.low].toArray) (.agg [Cj g.name,.int .i64 g.bits,.int .i64 g.low].toArray)).run Tryz.prog w= .ok (.bool (decide (f≠g))) w:=by
 have h:=QC (P:=Tryz.prog) (t:=120) (by kernel_rfl) (by kernel_rfl) (by kernel_rfl) ⟨f.name.toArray⟩ ⟨g.name.toArray⟩ f.bits f.low g.bits g.low w;rw[run_neq_struct];have e:(Op.equalIn 10000 120 (.agg [Cj f.name,.int .i64 f.bits,.int .i64 f.low].toArray) (.agg [Cj g.name,.int .i64 g.bits,.int .i64 g.low].toArray)).run Tryz.prog w=_:=h;rw[e,Result.andThen_ok,E8,E8]
 have hd:(!(decide (f.name=g.name)&&decide (f.bits=g.bits)&&decide (f.low=g.low)))=decide (f≠g):=by
  obtain⟨n,b,l⟩:=f;obtain⟨n',b',l'⟩:=g;rw[Bool.eq_iff_iff];simp[or_assoc]
 rw[hd]
def KsL(ks:List Kind):Prop:=ks.length<=1099511627776/\∀k∈ks,k.fields.length<=1099511627776
def CsL(cs:List Comp):Prop:=cs.length<=1099511627776/\∀c∈cs,c.vals.length<=1099511627776
def ItL(l:List Item):Prop:=l.length<=1099511627776/\∀it∈l,CsL it.comps
structure WdL(w:Wd):Prop where
 ks:KsL w.kinds
 gens:w.gens.length<=1099511627776
 items:ItL w.items
theorem HK(a b:List Kind)(hl:KsL a):PS Tryz.prog 81 [As false false a,As false false b] (bA (decide (a=b))):=by
 refine Spec.of (nt:=71) (res:=[.tmp 4]) Tryz.func81 rfl (by kernel_rfl) rfl rfl rfl λSf=>?_
 obtain⟨hl0,hl1⟩:=hl;(repeat first|refine WK ?_|refine Ai λX=>?_|refine Ay λY=>?_);refine AWP.cond rfl (λhb=>?_) (λhb=>?_)
 ·have hb:a.length≠b.length:=by simp at hb;omega
  (repeat first|refine WK ?_|refine Ai λX=>?_|refine Ay λY=>?_);refine RT ?_;refine AN ?_;rw[decide_eq_false λe=>hb (by rw[e])]
 ·have hb:a.length=b.length:=by simp at hb;omega
  (repeat first|refine WK ?_|refine Ai λX=>?_|refine Ay λY=>?_);refine BP (λi:Nat=>⟨[(0,As false false a),(1,As false false b),(13,iA (a.map (Au false)).length),(14,iA i)],Sf⟩) (λi=>i<=a.length/\∀j (h:j<a.length),j<i->a[j]=b[j]'(by omega)) (λi=>a.length-i) 0 ⟨Nat.zero_le _,λj h hj=>absurd hj (by omega)⟩ ?_;rintro i ⟨hi,he⟩;(repeat first|refine WK ?_|refine Ai λX=>?_|refine Ay λY=>?_);refine AWP.cond rfl (λhc=>?_) (λhc=>?_)
  ·have h:i<a.length:=by simpa using hc
   have h':i<b.length:=by omega
   obtain⟨x,hx⟩:∃x,a[i]=x:=⟨_,rfl⟩;obtain⟨y,hy⟩:∃y,b[i]=y:=⟨_,rfl⟩;have hax:(a.map (Au false))[i]?=some (Au false x):=by rw[List.getElem?_map,List.getElem?_eq_getElem h,hx];rfl
   have hay:(b.map (Au false))[i]?=some (Au false y):=by rw[List.getElem?_map,List.getElem?_eq_getElem h',hy];rfl
   have hxl:=hl1 x (hx▸List.getElem_mem h);have hno:¬x=y->¬a=b:=λhn e=>hn (by subst e;rw[<-hx,<-hy])
   (repeat first|refine WK ?_|refine Ai λX=>?_|refine Ay λY=>?_);refine RU ?_;(repeat first|refine RK ?_|refine RGo.nil (by kernel_rfl) ?_);refine AWP.cond rfl (λhd=>?_) (λhd=>?_)
   ·(repeat first|refine WK ?_|refine Ai λX=>?_|refine Ay λY=>?_)
    refine RT ?_;refine AN ?_;rw[decide_eq_false (hno λe=>by subst e;simp at hd)]
   ·have hd:x.name=y.name/\x.fields.length=y.fields.length:=by simp at hd;exact⟨hd.1,by omega⟩
    obtain⟨hd1,hd2⟩:=hd;(repeat first|refine WK ?_|refine Ai λX=>?_|refine Ay λY=>?_);refine BP (λq:Nat=>⟨[(0,As false false a),(1,As false false b),(5,iA i),(13,iA (a.map (Au false)).length),(14,iA i),(48,iA (x.fields.map fieldA).length),(49,iA q)],Sf⟩) (λq=>q<=x.fields.length/\∀j (h:j<x.fields.length),j<q->x.fields[j]=y.fields[j]'(by omega)) (λq=>x.fields.length-q) 0 ⟨Nat.zero_le _,λj h hj=>absurd hj (by omega)⟩ ?_;rintro q ⟨hq,hqe⟩;(repeat first|refine WK ?_|refine Ai λX=>?_|refine Ay λY=>?_);refine AWP.cond rfl (λhg=>?_) (λhg=>?_)
    ·have hqx:q<x.fields.length:=by simpa using hg
     have hqy:q<y.fields.length:=by omega
     obtain⟨f,hf⟩:∃f,x.fields[q]=f:=⟨_,rfl⟩;obtain⟨g,hgf⟩:∃g,y.fields[q]=g:=⟨_,rfl⟩;have haf:(x.fields.map fieldA)[q]?=some (fieldA f):=by rw[List.getElem?_map,List.getElem?_eq_getElem hqx,hf];rfl
     have hag:(y.fields.map fieldA)[q]?=some (fieldA g):=by rw[List.getElem?_map,List.getElem?_eq_getElem hqy,hgf];rfl
     (repeat first|refine WK ?_|refine Ai λX=>?_|refine Ay λY=>?_);refine RU ?_;(repeat first|(refine RGo.gN ?_;first|refine RGo.p (W.neP _ _ (by kernel_rfl) (Lr f g) rfl rfl) rfl ?_)|(refine RGo.gQ ?_;first|refine RGo.p (W.neP _ _ (by kernel_rfl) (Lr f g) rfl rfl) rfl ?_)|refine RK ?_|refine RGo.nil (by kernel_rfl) ?_);refine AWP.cond rfl (λhn=>?_) (λhn=>?_)
     ·have hn:f≠g:=by simpa using hn
      (repeat first|refine WK ?_|refine Ai λX=>?_|refine Ay λY=>?_);refine RT ?_;refine AN ?_;rw[decide_eq_false (hno λe=>hn (by subst e;rw[<-hf,<-hgf]))]
     ·have hn:f=g:=by simpa using hn
      (repeat first|refine WK ?_|refine Ai λX=>?_|refine Ay λY=>?_);refine A7 (q+1) ⟨hqx,λj h1 h2=>?_⟩;by_cases e:j=q
      ·subst e;rw[hf,hgf,hn]
      ·exact hqe j h1 (by omega)
    ·have hqx:¬q<x.fields.length:=by simpa using hg
     (repeat first|refine WK ?_|refine Ai λX=>?_|refine Ay λY=>?_);refine A7 (i+1) ⟨h,λj h1 h2=>?_⟩;by_cases e:j=i
     ·subst e
      rw[hx,hy];have hfe:x.fields=y.fields:=List.ext_getElem hd2 λj h1 h2=>hqe j h1 (by omega)
      obtain⟨xn,xf⟩:=x;obtain⟨yn,yf⟩:=y;simp at hd1 hfe;rw[hd1,hfe]
     ·exact he j h1 (by omega)
  ·have h:¬i<a.length:=by simpa using hc
   (repeat first|refine WK ?_|refine Ai λX=>?_|refine Ay λY=>?_);refine RT ?_;refine AN ?_;rw[decide_eq_true (List.ext_getElem hb λj h1 h2=>he j h1 (by omega))]
theorem SN(x y:Comp):(decide (x.kind=y.kind)&&decide (x.vals=y.vals))=decide (x=y):=by
 obtain⟨k,v⟩:=x;obtain⟨k',v'⟩:=y;rw[Bool.eq_iff_iff];simp
theorem SK(x y:Item):(Ji x.ent y.ent&&decide (x.comps=y.comps))=decide (x=y):=by
 rw[Jh];obtain⟨k,v⟩:=x;obtain⟨k',v'⟩:=y;rw[Bool.eq_iff_iff];simp
theorem JE(x y:Comp)(hl:x.vals.length<=1099511627776):PS Tryz.prog 189 [AD false x,AD false y] (bA (decide (x=y))):=by
 have heq:=FJ x.vals y.vals hl;rw[<-SN];refine Spec.of (nt:=17) (res:=[.tmp 4]) Tryz.func189 rfl (by kernel_rfl) rfl rfl rfl λSf=>?_
 refine RG ?_;(repeat first|(refine AOps.gN ?_;first|(refine AOps.g_box ?_;refine Az ?_))|refine WO ?_|refine Ai λX=>?_|refine Ay λY=>?_);refine NL ?_;rcases Bool.eq_false_or_eq_true (decide (x.kind=y.kind))with g|g
 ·rw[g]
  (repeat first|(refine AOps.gN ?_;first|(refine AOps.g_callf ?_;first|refine AOps.c2 (h:=(heq ..)) (k:=?_)))|refine WK ?_|refine Ai λX=>?_|refine Ay λY=>?_);refine RT ?_;refine AN ?_;rfl
 ·rw[g]
  (repeat first|refine WK ?_|refine Ai λX=>?_|refine Ay λY=>?_);refine RT ?_;refine AN ?_;rfl
theorem GC(a b:List Comp)(hl:CsL a):PS Tryz.prog 112 [Aj false false a,Aj false false b] (bA (decide (a=b))):=by
 have h:=JU a b 189 [] (λx y=>decide (x=y)) rfl (by have:=hl.1;omega) (λx hx y _=>JE x y (hl.2 x hx));rw[M8 λ_ _ _ _=>rfl]at h;refine Spec.of (nt:=8) (res:=[.tmp 4]) Tryz.func112 rfl (by kernel_rfl) rfl rfl rfl λSf=>?_
 (repeat first|(refine AOps.gN ?_;first|(refine AOps.g_callf ?_;first|refine AOps.c3 (h:=(h ..)) (k:=?_)))|refine WK ?_|refine Ai λX=>?_|refine Ay λY=>?_);refine RT ?_;refine AN ?_;rfl
theorem PL(x y:Item)(hl:CsL x.comps):PS Tryz.prog 130 [AA false x,AA false y] (bA (decide (x=y))):=by
 have heq:=GC x.comps y.comps hl;rw[<-SK];refine Spec.of (nt:=17) (res:=[.tmp 4]) Tryz.func130 rfl (by kernel_rfl) rfl rfl rfl λSf=>?_
 refine RG ?_;(repeat first|(refine AOps.gN ?_;first|(refine AOps.g_box ?_;refine Az ?_))|refine WO ?_|refine Ai λX=>?_|refine Ay λY=>?_);refine NL ?_;have hE:=NB x.ent.n x.ent.gen y.ent.n y.ent.gen;rw[show(decide (x.ent.n=y.ent.n)&&decide (x.ent.gen=y.ent.gen))=Ji x.ent y.ent from rfl]at hE;cases hb:Ji x.ent y.ent
 ·rw[hb]at hE
  (repeat first|(refine AOps.gN ?_;first|refine AOps.p (W.eqP _ _ (by kernel_rfl) hE rfl rfl) rfl ?_)|refine WK ?_|refine Ai λX=>?_|refine Ay λY=>?_);refine RT ?_;refine AN ?_;rfl
 ·rw[hb]at hE
  (repeat first|(refine AOps.gN ?_;first|(refine AOps.g_callf ?_;first|refine AOps.c2 (h:=(heq ..)) (k:=?_))|refine AOps.p (W.eqP _ _ (by kernel_rfl) hE rfl rfl) rfl ?_)|refine WK ?_|refine Ai λX=>?_|refine Ay λY=>?_);refine RT ?_;refine AN ?_;rfl
theorem Sz(x y:Wd):(decide (x.kinds=y.kinds)&&decide (x.gens=y.gens)&&decide (x.items=y.items))=decide (x=y):=by
 obtain⟨k,v,u⟩:=x;obtain⟨k',v',u'⟩:=y;rw[Bool.eq_iff_iff];simp[and_assoc]
set_option maxRecDepth 4000 in
theorem Qu(a b:Wd)(hl:WdL a):PS Tryz.prog 56 [wdA false a,wdA false b] (bA (decide (a=b))):=by
 have h1:=HK a.kinds b.kinds hl.ks;have h2:=FJ a.gens b.gens hl.gens;have h3:=JT a.items b.items 130 [] (λx y=>decide (x=y)) rfl (by have:=hl.items.1;omega) (λx hx y _=>PL x y (hl.items.2 x hx));rw[M8 λ_ _ _ _=>rfl]at h3;rw[<-Sz];refine Spec.of (nt:=24) (res:=[.tmp 4]) Tryz.func56 rfl (by kernel_rfl) rfl rfl rfl λSf=>?_
 refine RG ?_;(repeat first|(refine AOps.gN ?_;first|(refine AOps.g_box ?_;refine Az ?_))|refine WO ?_|refine Ai λX=>?_|refine Ay λY=>?_);refine NL ?_;obtain⟨b1,e1⟩:∃b1,decide (a.kinds=b.kinds)=b1:=⟨_,rfl⟩;obtain⟨b2,e2⟩:∃b2,decide (a.gens=b.gens)=b2:=⟨_,rfl⟩;rw[e1]at h1⊢;rw[e2]at h2⊢;cases b1
 ·(repeat first|(refine AOps.gN ?_;first|(refine AOps.g_callf ?_;first|refine AOps.c2 (h:=(h1 ..)) (k:=?_)))|refine WK ?_|refine Ai λX=>?_|refine Ay λY=>?_)
  refine RT ?_;refine AN ?_;rfl
 ·cases b2
  ·(repeat first|(refine AOps.gN ?_;first|(refine AOps.g_callf ?_;first|refine AOps.c2 (h:=(h1 ..)) (k:=?_)|refine AOps.c2 (h:=(h2 ..)) (k:=?_)))|refine WK ?_|refine Ai λX=>?_|refine Ay λY=>?_)
   refine RT ?_;refine AN ?_;rfl
  ·(repeat first|(refine AOps.gN ?_;first|(refine AOps.g_callf ?_;first|refine AOps.c2 (h:=(h1 ..)) (k:=?_)|refine AOps.c2 (h:=(h2 ..)) (k:=?_)|refine AOps.c3 (h:=(h3 ..)) (k:=?_)))|refine WK ?_|refine Ai λX=>?_|refine Ay λY=>?_)
   refine RT ?_;refine AN ?_;rfl
def Eo(l:List Item)(n:Int):Bool:=l.any λit=>decide (it.ent.n=n)
def Ju(w:Wd):Option Nat:=(List.range w.gens.length).find? λn=>!Eo w.items n&&decide (w.gens.getD n 0<1073741824)
def BD(w:Wd):Nat×Bool:=match Ju w with
 |some n=>(n,true)
 |none=>(w.gens.length,decide ((w.gens.length:Int)<256))
theorem L9(s:List UInt8)(i:Nat):MA s i=(decide ((97:Int)<=(s.getD i 0).toNat)&&decide (((s.getD i 0).toNat:Int)<=122)||decide ((0:Int)<i)&&decide ((48:Int)<=(s.getD i 0).toNat)&&decide (((s.getD i 0).toNat:Int)<=57)):=by
 have h:∀a b:UInt8,decide (a<=b)=decide ((a.toNat:Int)<=b.toNat):=λa b=>by simp[UInt8.le_iff_toNat_le]
 have h0:decide (0<i)=decide ((0:Int)<i):=by simp
 simp only[MA,Sg,Sq,h,h0,Bool.and_assoc];rfl
theorem Ni(s:List UInt8):PS Tryz.prog 175 [sA s] (bA (CP s)):=by
 refine Spec.of (nt:=41) (res:=[.tmp 2]) Tryz.func175 rfl (by kernel_rfl) rfl rfl rfl λSf=>?_
 (repeat first|refine WK ?_|refine Ai λX=>?_|refine Ay λY=>?_);refine AWP.cond rfl (λhb=>?_) (λhb=>?_)
 ·(repeat first|refine WK ?_|refine Ai λX=>?_|refine Ay λY=>?_)
  refine RT ?_;refine Ag rfl rfl (by exact Sub.f) ⟨?_,rfl⟩;rw[LO s (by simp only[Bool.or_eq_true,decide_eq_true_eq]at hb;omega)]
 have hb1:s.length≠0/\s.length<=16:=by simp only[Bool.or_eq_false_iff,decide_eq_false_iff_not]at hb;omega
 (repeat first|refine Bh (λi:Nat=>⟨[(0,sA s),(14,iA s.length),(15,iA i)],Sf⟩) (λi=>i<=s.length/\∀j,j<i->MA s j=true) (λi=>s.length-i) 0 ⟨by omega,by omega⟩ ⟨.cons rfl (.cons rfl (.cons rfl .nil)),List.Sublist.refl _⟩ ?_|refine WK ?_|refine Ai λX=>?_|refine Ay λY=>?_);rintro i ⟨hi,hn⟩;(repeat first|refine WK ?_|refine Ai λX=>?_|refine Ay λY=>?_);refine AWP.cond rfl (λhb=>?_) (λhb=>?_)
 ·have h:i<s.length:=by simpa using hb
  (repeat first|(refine AOps.gN ?_;first|refine AOps.p (W.idxStr rfl rfl rfl h) rfl ?_)|refine WK ?_|refine Ai λX=>?_|refine Ay λY=>?_);refine AWP.cond rfl (λhc=>?_) (λhc=>?_)
  ·(repeat first|refine WK ?_|refine Ai λX=>?_|refine Ay λY=>?_)
   refine RT ?_;refine Ag rfl rfl (by exact Sub.f) ⟨?_,rfl⟩;rw[<-L9]at hc;rw[OV s i h (by simpa using hc)]
  ·(repeat first|refine WK ?_|refine Ai λX=>?_|refine Ay λY=>?_)
   refine⟨i+1,⟨by omega,λj hj=>?_⟩,by omega,.cons rfl (.cons rfl (.cons rfl .nil)),by exact Sub.f⟩;rw[<-L9]at hc;by_cases e:j=i
   ·subst e;simpa using hc
   ·exact hn j (by omega)
 ·have h:¬i<s.length:=by simpa using hb
  (repeat first|refine WK ?_|refine Ai λX=>?_|refine Ay λY=>?_);refine RT ?_;refine Ag rfl rfl (by exact Sub.f) ⟨?_,rfl⟩;rw[Mn s (by omega) hb1.2 λj hj=>hn j (by omega)]
theorem Io(f:Field):PS Tryz.prog 239 [fieldA f] (iA (AY f)):=by
 refine Spec.of (nt:=27) (res:=[.tmp 2]) Tryz.func239 rfl (by kernel_rfl) rfl rfl rfl λSf=>?_
 (repeat first|(refine AOps.gN ?_;first|refine AOps.p (W.call1 rfl (Ni _) rfl) rfl ?_)|refine WK ?_|refine Ai λX=>?_|refine Ay λY=>?_);refine AWP.cond rfl (λhb=>?_) (λhb=>?_)
 ·(repeat first|refine WK ?_|refine Ai λX=>?_|refine Ay λY=>?_)
  refine RT ?_;refine Ag rfl rfl (by exact Sub.f) ⟨?_,rfl⟩;rw[Ls f λhn hk=>?_];simp only[hn,Bool.not_true,Bool.false_or,Bool.or_eq_true,decide_eq_true_eq]at hb;omega
 ·(repeat first|refine WK ?_|refine Ai λX=>?_|refine Ay λY=>?_)
  refine RT ?_;refine Ag rfl rfl (by exact Sub.f) ⟨?_,rfl⟩;simp only[Bool.or_eq_false_iff,Bool.not_eq_false',decide_eq_false_iff_not]at hb;rw[HP f hb.1.1.1.1 (by omega)]
theorem Nt(f:Field):PS Tryz.prog 240 [fieldA f] (iA (DJ f)):=by
 refine Spec.of (nt:=13) (res:=[.tmp 2]) Tryz.func240 rfl (by kernel_rfl) rfl rfl rfl λSf=>?_
 (repeat first|(refine AOps.gN ?_;first|refine AOps.p (W.call1 rfl (Io _) rfl) rfl ?_)|refine WK ?_|refine Ai λX=>?_|refine Ay λY=>?_);refine AWP.cond rfl (λhb=>?_) (λhb=>?_)
 ·have hb:AY f≠0:=by simpa using hb
  (repeat first|refine WK ?_|refine Ai λX=>?_|refine Ay λY=>?_);refine RT ?_;refine Ag rfl rfl (by exact Sub.f) ⟨?_,rfl⟩;simp[DJ,hb]
 have hb:AY f=0:=by simpa using hb
 have h1:=(EQ f).1 hb;obtain⟨n,hn⟩:∃n:Nat,f.bits=n:=⟨f.bits.toNat,by omega⟩
 have hp:(2:Int)^n<=4294967296/\1<=(2:Int)^n:=by
  have hn2:n<=32:=by omega
  clear hn;have:∀n,n<=32->(2:Int)^n<=4294967296/\1<=(2:Int)^n:=by decide
  exact this n hn2
 have hw:IntKind.i64.wrap (1*2^n)=2^n:=by rw[Int.one_mul];exact DM (by omega) (by omega)
 (repeat first|refine WK ?_|refine Ai λX=>?_|refine Ay λY=>?_);refine RU ?_;(repeat first|(refine RGo.gN ?_;first|refine RGo.p (W.shl rfl rfl hn (by show n<=64;omega)) rfl ?_|refine RGo.p (W.sub rfl rfl (by rw[hw];omega)) rfl ?_|refine RGo.p (W.add rfl rfl (by rw[hw];omega)) rfl ?_)|(refine RGo.gQ ?_;first|refine RGo.p (W.shl rfl rfl hn (by show n<=64;omega)) rfl ?_|refine RGo.p (W.sub rfl rfl (by rw[hw];omega)) rfl ?_|refine RGo.p (W.add rfl rfl (by rw[hw];omega)) rfl ?_)|refine RK ?_|refine RGo.nil (by kernel_rfl) ?_);(repeat first|refine WK ?_|refine Ai λX=>?_|refine Ay λY=>?_);refine RT ?_;refine Ag rfl rfl (by exact Sub.f) ⟨?_,rfl⟩;simp only[hw];simp[DJ,hb,hn]
theorem Nf(f:Field)(v:Int):PS Tryz.prog 185 [fieldA f,iA v] (iA (Bj f v)):=by
 refine Spec.of (nt:=15) (res:=[.tmp 4]) Tryz.func185 rfl (by kernel_rfl) rfl rfl rfl λSf=>?_
 (repeat first|(refine AOps.gN ?_;first|refine AOps.p (W.call1 rfl (Io _) rfl) rfl ?_)|refine WK ?_|refine Ai λX=>?_|refine Ay λY=>?_);refine AWP.cond rfl (λhb=>?_) (λhb=>?_)
 ·have hb:AY f≠0:=by simpa using hb
  (repeat first|refine WK ?_|refine Ai λX=>?_|refine Ay λY=>?_);refine RT ?_;refine Ag rfl rfl (by exact Sub.f) ⟨?_,rfl⟩;simp[Bj,hb]
 have hb:AY f=0:=by simpa using hb
 (repeat first|refine WK ?_|refine Ai λX=>?_|refine Ay λY=>?_);refine RU ?_;(repeat first|(refine RGo.gN ?_;first|refine RGo.p (W.call1 rfl (Nt _) rfl) rfl ?_)|(refine RGo.gQ ?_;first|refine RGo.p (W.call1 rfl (Nt _) rfl) rfl ?_)|refine RK ?_|refine RGo.nil (by kernel_rfl) ?_);(repeat first|refine WK ?_|refine Ai λX=>?_|refine Ay λY=>?_);refine RT ?_;refine Ag rfl rfl (by exact Sub.f) ⟨?_,rfl⟩;rw[show Bj f v=max f.low (min v (DJ f))from by simp[Bj,hb]];simp only[Int.max_def,Int.min_def]
 congr 2
 (repeat' split)<;>omega
theorem PY(k:Kind):PS Tryz.prog 203 [Au false k] (iA (BA k)):=by
 refine Spec.of (nt:=45) (res:=[.tmp 2]) Tryz.func203 rfl (by kernel_rfl) rfl rfl rfl λSf=>?_
 (repeat first|(refine AOps.gN ?_;first|refine AOps.p (W.call1 rfl (Ni _) rfl) rfl ?_|(refine AOps.rs λX1=>?_;refine AOps.s (W.box rfl .here rfl) rfl ?_))|refine WK ?_|refine Ai λX=>?_|refine Ay λY=>?_);refine AWP.cond rfl (λhb=>?_) (λhb=>?_)
 ·(repeat first|refine WK ?_|refine Ai λX=>?_|refine Ay λY=>?_)
  refine RT ?_;refine Ag rfl rfl (by exact Sub.f) ⟨?_,rfl⟩;have hb:CP k.name=false:=by simpa using hb
  rw[show BA k=3 from by simp[BA,hb]]
 have hn:CP k.name=true:=by simpa using hb
 (repeat first|refine WK ?_|refine Ai λX=>?_|refine Ay λY=>?_);refine AWP.cond rfl (λhb=>?_) (λhb=>?_)
 ·(repeat first|refine WK ?_|refine Ai λX=>?_|refine Ay λY=>?_)
  refine RT ?_;refine Ag rfl rfl (by exact Sub.f) ⟨?_,rfl⟩;have hb:8<k.fields.length:=by rw[decide_eq_true_eq,List.length_map]at hb;omega
  rw[show BA k=2 from by simp[BA,hn,hb]]
 have hl:k.fields.length<=8:=by rw[decide_eq_false_iff_not,List.length_map]at hb;omega
 have e1:BA k=BF [] k.fields:=by simp[BA,hn];omega
 (repeat first|refine Bh (λi:Nat=>⟨[(1,.ptr X1 0 0),(17,FI false k.fields),(18,iA (k.fields.map fieldA).length),(19,iA i)],(X1,.row 118 2 [Au false k])::Sf⟩) (λi=>i<=k.fields.length/\BF [] k.fields=BF (k.fields.take i) (k.fields.drop i)) (λi=>k.fields.length-i) 0 ⟨by omega,rfl⟩ ⟨.cons rfl (.cons rfl (.cons rfl (.cons rfl .nil))),by exact Sub.f⟩ ?_|refine WK ?_|refine Ai λX=>?_|refine Ay λY=>?_);rintro i ⟨hi,he⟩;(repeat first|refine WK ?_|refine Ai λX=>?_|refine Ay λY=>?_);refine AWP.cond rfl (λhb=>?_) (λhb=>?_)
 ·have h:i<k.fields.length:=by simpa using hb
  (repeat first|(refine AOps.gN ?_;first|refine AOps.p (W.idxL rfl rfl rfl (Ah _ h)) rfl ?_|refine AOps.p (W.call1 rfl (Io _) rfl) rfl ?_)|refine WK ?_|refine Ai λX=>?_|refine Ay λY=>?_);refine AWP.cond rfl (λhc=>?_) (λhc=>?_)
  ·have hc:AY k.fields[i]≠0:=by simpa using hc
   (repeat first|refine WK ?_|refine Ai λX=>?_|refine Ay λY=>?_);refine RT ?_;refine Ag rfl rfl (by exact Sub.f) ⟨?_,rfl⟩;rw[e1,he,Ed h,JS hc];rfl
  have hc:AY k.fields[i]=0:=by simpa using hc
  have hmt:((k.fields.map fieldA).take i).length=i:=by simp;omega
  (repeat first|(refine AOps.gN ?_;first|refine AOps.p (W.hiL rfl rfl rfl (by simp;omega)) rfl ?_)|refine Bh (λj:Nat=>⟨[(1,.ptr X1 0 0),(17,FI false k.fields),(18,iA (k.fields.map fieldA).length),(19,iA i),(3,iA i),(4,.ptr X 0 0),(32,.lst false 120 3 ((k.fields.map fieldA).take i)),(33,iA ((k.fields.map fieldA).take i).length),(34,iA j)],(X,.row 120 3 [fieldA k.fields[i]])::(X1,.row 118 2 [Au false k])::Sf⟩) (λj=>j<=i/\∀q (hq:q<k.fields.length),q<j->k.fields[q].name≠k.fields[i].name) (λj=>i-j) 0 ⟨by omega,by omega⟩ ⟨.cons rfl (.cons rfl (.cons rfl (.cons rfl (.cons rfl (.cons rfl (.cons rfl (.cons rfl (.cons rfl .nil)))))))),by exact Sub.f⟩ ?_|refine WK ?_|refine Ai λX=>?_|refine Ay λY=>?_);rintro j ⟨hj,hne⟩;(repeat first|refine WK ?_|refine Ai λX=>?_|refine Ay λY=>?_);refine AWP.cond rfl (λhd=>?_) (λhd=>?_)
  ·have hd:j<i:=by rw[hmt]at hd;simpa using hd
   have hat:((k.fields.map fieldA).take i)[j]?=some (fieldA (k.fields[j]'(by omega))):=by rw[List.getElem?_take_of_lt hd];exact Ah _ _
   (repeat first|(refine AOps.gN ?_;first|refine AOps.p (W.idxL rfl rfl rfl hat) rfl ?_)|refine WK ?_|refine Ai λX=>?_|refine Ay λY=>?_);refine AWP.cond rfl (λhq=>?_) (λhq=>?_)
   ·have hq:(k.fields[j]'(by omega)).name=k.fields[i].name:=by simpa using hq
    (repeat first|refine WK ?_|refine Ai λX=>?_|refine Ay λY=>?_);refine RT ?_;refine Ag rfl rfl (by exact Sub.f) ⟨?_,rfl⟩;rw[e1,he,Ed h,He hc (j:=j) (by simp;omega) (by simpa using hq)]
   ·have hq:(k.fields[j]'(by omega)).name≠k.fields[i].name:=by simpa using hq
    (repeat first|refine WK ?_|refine Ai λX=>?_|refine Ay λY=>?_);refine⟨j+1,⟨by omega,λq hq1 hq2=>?_⟩,by omega,.cons rfl (.cons rfl (.cons rfl (.cons rfl (.cons rfl (.cons rfl (.cons rfl (.cons rfl (.cons rfl .nil)))))))),by exact Sub.f⟩;by_cases e:q=j
    ·subst e;exact hq
    ·exact hne q hq1 (by omega)
  ·have hd:¬j<i:=by rw[hmt]at hd;simpa using hd
   (repeat first|refine WK ?_|refine Ai λX=>?_|refine Ay λY=>?_);refine⟨i+1,⟨by omega,?_⟩,by omega,.cons rfl (.cons rfl (.cons rfl (.cons rfl .nil))),by exact Sub.f⟩;rw[he,Ed h,In hc λq hq=>?_,List.take_add_one,List.getElem?_eq_getElem h]
   ·rfl
   ·simp only[List.getElem_take]
    exact hne q (by simp at hq;omega) (by simp at hq;omega)
 ·have h:¬i<k.fields.length:=by simpa using hb
  (repeat first|refine WK ?_|refine Ai λX=>?_|refine Ay λY=>?_);refine RT ?_;refine Ag rfl rfl (by exact Sub.f) ⟨?_,rfl⟩;rw[e1,he,JR (by omega)]
theorem IC{k:Kind}(h:BA k=0):k.fields.length<=8:=by
 unfold BA at h;split at h
 ·split at h
  ·cases h
  ·omega
 ·cases h
def Gt(k:Kind)(vals:List Int)(i:Nat):List Int:=(List.zipWith Bj k.fields vals).take i++List.replicate (vals.length-i) 0
theorem Nu{k:Kind}{vals:List Int}{i:Nat}(hl:vals.length=k.fields.length)(h:i<vals.length):((Gt k vals i).map iA)[i]?=some (iA 0):=by
 have hz:(List.zipWith Bj k.fields vals).length=vals.length:=by simp;omega
 rw[List.getElem?_map,Gt,List.getElem?_append_right (by simp;omega)];rw[List.length_take,Nat.min_eq_left (by omega),Nat.sub_self,List.getElem?_replicate,if_pos (by omega)];rfl
theorem P7{k:Kind}{vals:List Int}{i:Nat}(hl:vals.length=k.fields.length)(h:i<vals.length):((Gt k vals i).map iA).set i (iA (Bj (k.fields[i]'(by omega)) vals[i]))=(Gt k vals (i+1)).map iA:=by
 have hz:(List.zipWith Bj k.fields vals).length=vals.length:=by simp;omega
 rw[<-List.map_set]
 congr 1
 unfold Gt;rw[List.set_append_right _ _ (by simp;omega),List.length_take,Nat.min_eq_left (by omega),Nat.sub_self];rw[show vals.length-i=(vals.length-(i+1))+1 from by omega,List.replicate_succ,List.set_cons_zero];rw[List.take_add_one,List.getElem?_eq_getElem (by omega),List.append_assoc];simp
theorem P4(k:Kind)(vals:List Int):PS Tryz.prog 135 [Au false k,AQ false vals] (.tup [AQ true (BQ k vals).1,iA (BQ k vals).2]):=by
 refine Spec.of (nt:=43) (res:=[.tmp 4,.tmp 5]) Tryz.func135 rfl (by kernel_rfl) rfl rfl rfl λSf=>?_
 (repeat first|(refine AOps.gN ?_;first|refine AOps.p (W.call1 rfl (PY _) rfl) rfl ?_|(refine AOps.rs λB=>?_;refine AOps.s (W.box rfl .here rfl) rfl ?_))|refine WK ?_|refine Ai λX=>?_|refine Ay λY=>?_);refine AWP.cond rfl (λhb=>?_) (λhb=>?_)
 ·have hb:BA k≠0:=by simpa using hb
  (repeat first|refine WK ?_|refine Ai λX=>?_|refine Ay λY=>?_);refine RT ?_;rw[show BQ k vals=([],BA k)from by simp[BQ,hb]];exact⟨[.prim (.slice none 0 0),iA (BA k)],[AQ true [],iA (BA k)],_,[],.cons (.tmp rfl) rfl (.cons (.tmp rfl) rfl .nil),.cons (.cell .nil) (.cons (.cell .same) .nil),by exact Sub.f,rfl,rfl⟩
 have hk:BA k=0:=by simpa using hb
 have h8:=IC hk;(repeat first|refine WK ?_|refine Ai λX=>?_|refine Ay λY=>?_);refine AWP.cond rfl (λhb=>?_) (λhb=>?_)
 ·have hb:vals.length≠k.fields.length:=by rw[decide_eq_true_eq,List.length_map,List.length_map]at hb;omega
  (repeat first|refine WK ?_|refine Ai λX=>?_|refine Ay λY=>?_);refine RT ?_;rw[show BQ k vals=([],1)from by simp[BQ,hk,hb]];exact⟨[.prim (.slice none 0 0),iA 1],[AQ true [],iA 1],_,[],.cons (.tmp rfl) rfl (.cons (.tmp rfl) rfl .nil),.cons (.cell .nil) (.cons (.cell .same) .nil),by exact Sub.f,rfl,rfl⟩
 have hl:vals.length=k.fields.length:=by rw[decide_eq_false_iff_not,List.length_map,List.length_map]at hb;omega
 have hv:(vals.map iA).length<=8:=by simp;omega
 have hz:List.replicate (vals.map iA).length (zAV [.int .i64 0] false)=(Gt k vals 0).map iA:=by simp[Gt];exact .inr rfl
 (repeat first|(refine AOps.gN ?_;first|(refine AOps.rs λXL=>?_;refine AOps.s (W.make rfl rfl .here rfl (.inr rfl) rfl rfl (Nat.le_refl _) (by omega) (Nat.le_trans hv (by decide))) rfl ?_))|refine Bh (λi:Nat=>⟨[(1,AQ false vals),(7,.sl XL 0 (vals.map iA).length),(25,FI false k.fields),(26,iA (k.fields.map fieldA).length),(27,iA i)],(XL,.row 3 1 ((Gt k vals i).map iA))::(B,.row 118 2 [Au false k])::Sf⟩) (λi=>i<=vals.length) (λi=>vals.length-i) 0 (Nat.zero_le _) ⟨.cons rfl (.cons rfl (.cons rfl (.cons rfl (.cons rfl .nil)))),(by show List.Sublist ((XL,.row 3 1 ((Gt k vals 0).map iA))::(B,.row 118 2 [Au false k])::Sf) _;rw[<-hz];exact Sub.f)⟩ ?_|refine WK ?_|refine Ai λX=>?_|refine Ay λY=>?_);rintro i hi;(repeat first|refine WK ?_|refine Ai λX=>?_|refine Ay λY=>?_);refine AWP.cond rfl (λhb=>?_) (λhb=>?_)
 ·have h:i<vals.length:=by rw[decide_eq_true_eq,List.length_map]at hb;omega
  have h':i<k.fields.length:=by omega
  (repeat first|(refine AOps.gN ?_;first|refine AOps.p (W.idxL rfl rfl rfl (Ah _ h')) rfl ?_)|refine WK ?_|refine Ai λX=>?_|refine Ay λY=>?_);refine RU ?_;(repeat first|(refine RGo.gN ?_;first|refine RGo.p (W.idxL rfl rfl rfl (Ah _ h)) rfl ?_|refine RGo.p (W.call2 rfl rfl (Nf _ _) rfl) rfl ?_|refine RGo.p (W.idx rfl rfl (by exact At.f) rfl (by simpa using h) (Nat.zero_add _)) rfl ?_|refine RGo.s (W.store rfl rfl (by exact At.f) (Nu hl h) (by exact rfl)) rfl ?_)|(refine RGo.gQ ?_;first|refine RGo.p (W.idxL rfl rfl rfl (Ah _ h)) rfl ?_|refine RGo.p (W.call2 rfl rfl (Nf _ _) rfl) rfl ?_|refine RGo.p (W.idx rfl rfl (by exact At.f) rfl (by simpa using h) (Nat.zero_add _)) rfl ?_|refine RGo.s (W.store rfl rfl (by exact At.f) (Nu hl h) (by exact rfl)) rfl ?_)|refine RK ?_|refine RGo.nil (by kernel_rfl) ?_);(repeat first|refine WK ?_|refine Ai λX=>?_|refine Ay λY=>?_);refine⟨i+1,by omega,by omega,.cons rfl (.cons rfl (.cons rfl (.cons rfl (.cons rfl .nil)))),?_⟩;show List.Sublist ((XL,.row 3 1 ((Gt k vals (i+1)).map iA))::(B,.row 118 2 [Au false k])::Sf) _
  rw[<-P7 hl h];exact Sub.f
 ·have h:¬i<vals.length:=by rw[decide_eq_false_iff_not,List.length_map]at hb;omega
  (repeat first|refine WK ?_|refine Ai λX=>?_|refine Ay λY=>?_);refine RT ?_;rw[show BQ k vals=(List.zipWith Bj k.fields vals,0)from by simp[BQ,hk,hl]]
  have he:(Gt k vals i).map iA=(List.zipWith Bj k.fields vals).map iA:=by
   congr 1
   rw[Gt,show vals.length-i=0 from by omega,List.take_of_length_le (by simp;omega)];simp
  refine⟨[.sl XL 0 (vals.map iA).length,iA 0],[.lst true 3 1 ((Gt k vals i).map iA),iA 0],_,[],.cons (.tmp rfl) rfl (.cons (.tmp rfl) rfl .nil),.cons (.cell (.sl (p:=0) .here (by rw[he];simp;omega))) (.cons (.cell .same) .nil),by exact Sub.f,?_,rfl⟩;rw[he];rfl
theorem M0{k:Kind}{vals:List Int}(h:(BQ k vals).2=0):(BQ k vals).1.length=vals.length/\vals.length<=8:=by
 unfold BQ at h⊢;split
 ·rename_i h1;rw[if_pos h1]at h;exact absurd h h1
 ·rename_i h1
  rw[if_neg h1]at h;split
  ·rename_i h2;rw[if_pos h2]at h;cases h
  ·rename_i h2;have:=IC (Decidable.not_not.1 h1);simp;omega
theorem Pu(k:Kind)(vals:List Int):PS Tryz.prog 205 [Au false k,AQ false vals] (bA (Br k vals)):=by
 refine Spec.of (nt:=31) (res:=[.tmp 4]) Tryz.func205 rfl (by kernel_rfl) rfl rfl rfl λSf=>?_
 have hfr:(AV.tup [AQ true (BQ k vals).1,iA (BQ k vals).2]).frz= .tup [AQ false (BQ k vals).1,iA (BQ k vals).2]:=by
  show AV.tup [(AQ true (BQ k vals).1).frz,_]=_
  rw[Od];rfl
 (repeat first|(refine AOps.gN ?_;first|refine AOps.p (W.callF2 rfl rfl (P4 _ _) rfl hfr) rfl ?_)|refine WK ?_|refine Ai λX=>?_|refine Ay λY=>?_);refine AWP.cond rfl (λhb=>?_) (λhb=>?_)
 ·have hb:(BQ k vals).2≠0:=by simpa using hb
  (repeat first|refine WK ?_|refine Ai λX=>?_|refine Ay λY=>?_);refine RT ?_;refine Ag rfl rfl (by exact Sub.f) ⟨?_,rfl⟩;simp[Br,hb]
 have hb:(BQ k vals).2=0:=by simpa using hb
 obtain⟨hlen,h8⟩:=M0 hb;obtain⟨fl,hfl⟩:∃fl,fl=(BQ k vals).1:=⟨_,rfl⟩;rw[<-hfl]at hlen;rw[show Br k vals=decide (fl=vals)from by simp[Br,hb,hfl]];rw[<-hfl];clear hfr;(repeat first|refine Bh (λi:Nat=>⟨[(1,AQ false vals),(5,AQ false fl),(17,iA (fl.map iA).length),(18,iA i)],Sf⟩) (λi=>i<=vals.length/\∀j (h:j<vals.length),j<i->fl[j]'(by omega)=vals[j]) (λi=>vals.length-i) 0 ⟨Nat.zero_le _,λj h hj=>absurd hj (by omega)⟩ ⟨.cons rfl (.cons rfl (.cons rfl (.cons rfl .nil))),by exact Sub.f⟩ ?_|refine WK ?_|refine Ai λX=>?_|refine Ay λY=>?_);rintro i ⟨hi,he⟩;(repeat first|refine WK ?_|refine Ai λX=>?_|refine Ay λY=>?_);refine AWP.cond rfl (λhc=>?_) (λhc=>?_)
 ·have h:i<fl.length:=by rw[decide_eq_true_eq,List.length_map]at hc;omega
  have h':i<vals.length:=by omega
  (repeat first|refine WK ?_|refine Ai λX=>?_|refine Ay λY=>?_);refine RU ?_;(repeat first|(refine RGo.gN ?_;first|refine RGo.p (W.idxL rfl rfl rfl (Ah _ h)) rfl ?_|refine RGo.p (W.idxL rfl rfl rfl (Ah _ h')) rfl ?_)|(refine RGo.gQ ?_;first|refine RGo.p (W.idxL rfl rfl rfl (Ah _ h)) rfl ?_|refine RGo.p (W.idxL rfl rfl rfl (Ah _ h')) rfl ?_)|refine RK ?_|refine RGo.nil (by kernel_rfl) ?_);(repeat first|refine WK ?_|refine Ai λX=>?_|refine Ay λY=>?_);refine AWP.cond rfl (λhd=>?_) (λhd=>?_)
  ·have hd:fl[i]≠vals[i]:=by simpa using hd
   (repeat first|refine WK ?_|refine Ai λX=>?_|refine Ay λY=>?_);refine RT ?_;refine Ag rfl rfl (by exact Sub.f) ⟨?_,rfl⟩;rw[decide_eq_false (λe=>hd (by subst e;rfl))]
  ·have hd:fl[i]=vals[i]:=by simpa using hd
   (repeat first|refine WK ?_|refine Ai λX=>?_|refine Ay λY=>?_);refine⟨i+1,⟨by omega,λj h1 h2=>?_⟩,by omega,.cons rfl (.cons rfl (.cons rfl (.cons rfl .nil))),by exact Sub.f⟩;by_cases e:j=i
   ·subst e;exact hd
   ·exact he j h1 (by omega)
 ·have h:¬i<fl.length:=by rw[decide_eq_false_iff_not,List.length_map]at hc;omega
  (repeat first|refine WK ?_|refine Ai λX=>?_|refine Ay λY=>?_);refine RT ?_;refine Ag rfl rfl (by exact Sub.f) ⟨?_,rfl⟩;rw[decide_eq_true (List.ext_getElem hlen λj h1 h2=>he j h2 (by omega))]
theorem RX(l:List Kind)(name:List UInt8)(hl:l.length<=1099511627776):PS Tryz.prog 204 [As false false l,sA name] (iA (Cg l name)):=by
 refine Spec.of (nt:=20) (res:=[.tmp 4]) Tryz.func204 rfl (by kernel_rfl) rfl rfl rfl λSf=>?_
 (repeat first|refine Bh (λi:Nat=>⟨[(1,sA name),(7,As false false l),(8,iA (l.map (Au false)).length),(9,iA i)],Sf⟩) (λi=>i<=l.length/\∀j (h:j<l.length),j<i->l[j].name≠name) (λi=>l.length-i) 0 ⟨by omega,by omega⟩ ⟨.cons rfl (.cons rfl (.cons rfl (.cons rfl .nil))),List.Sublist.refl _⟩ ?_|refine WK ?_|refine Ai λX=>?_|refine Ay λY=>?_);rintro i ⟨hi,hn⟩;(repeat first|refine WK ?_|refine Ai λX=>?_|refine Ay λY=>?_);refine AWP.cond rfl (λhb=>?_) (λhb=>?_)
 ·have h:i<l.length:=by simpa using hb
  (repeat first|(refine AOps.gN ?_;first|refine AOps.p (W.idxL rfl rfl rfl (Ah _ h)) rfl ?_)|refine WK ?_|refine Ai λX=>?_|refine Ay λY=>?_);refine AWP.cond rfl (λhc=>?_) (λhc=>?_)
  ·have hc:l[i].name=name:=by simpa using hc
   (repeat first|refine WK ?_|refine Ai λX=>?_|refine Ay λY=>?_);refine RT ?_;refine Ag rfl rfl (by exact Sub.f) ⟨?_,rfl⟩;rw[JQ h hc λj hj=>hn j (by omega) hj]
  ·have hc:l[i].name≠name:=by simpa using hc
   (repeat first|refine WK ?_|refine Ai λX=>?_|refine Ay λY=>?_);refine⟨i+1,⟨by omega,λj hj hji=>?_⟩,by omega,.cons rfl (.cons rfl (.cons rfl (.cons rfl .nil))),by exact Sub.f⟩;by_cases e:j=i
   ·subst e;exact hc
   ·exact hn j hj (by omega)
 ·have h:¬i<l.length:=by simpa using hb
  (repeat first|refine WK ?_|refine Ai λX=>?_|refine Ay λY=>?_);refine RT ?_;refine Ag rfl rfl (by exact Sub.f) ⟨?_,rfl⟩;rw[FX λj hj=>hn j hj (by omega)]
theorem L8(l:List Kind):PS Tryz.prog 131 [As false false l] (iA (A6 l)):=by
 refine Spec.of (nt:=29) (res:=[.tmp 2]) Tryz.func131 rfl (by kernel_rfl) rfl rfl rfl λSf=>?_
 (repeat first|refine WK ?_|refine Ai λX=>?_|refine Ay λY=>?_);refine AWP.cond rfl (λhb=>?_) (λhb=>?_)
 ·(repeat first|refine WK ?_|refine Ai λX=>?_|refine Ay λY=>?_)
  refine RT ?_;refine Ag rfl rfl (by exact Sub.f) ⟨?_,rfl⟩;have hb:16<l.length:=by rw[decide_eq_true_eq,List.length_map]at hb;omega
  rw[show A6 l=2 from by simp[A6,hb]]
 have hl:l.length<=16:=by rw[decide_eq_false_iff_not,List.length_map]at hb;omega
 have e1:A6 l=BR [] l:=by simp[A6];omega
 (repeat first|refine Bh (λi:Nat=>⟨[(0,As false false l),(9,As false false l),(10,iA (l.map (Au false)).length),(11,iA i)],Sf⟩) (λi=>i<=l.length/\BR [] l=BR (l.take i) (l.drop i)) (λi=>l.length-i) 0 ⟨by omega,rfl⟩ ⟨.cons rfl (.cons rfl (.cons rfl (.cons rfl .nil))),by exact Sub.f⟩ ?_|refine WK ?_|refine Ai λX=>?_|refine Ay λY=>?_);rintro i ⟨hi,he⟩;(repeat first|refine WK ?_|refine Ai λX=>?_|refine Ay λY=>?_);refine AWP.cond rfl (λhb=>?_) (λhb=>?_)
 ·have h:i<l.length:=by simpa using hb
  (repeat first|(refine AOps.gN ?_;first|refine AOps.p (W.idxL rfl rfl rfl (Ah _ h)) rfl ?_|refine AOps.p (W.call1 rfl (PY _) rfl) rfl ?_)|refine WK ?_|refine Ai λX=>?_|refine Ay λY=>?_);refine AWP.cond rfl (λhc=>?_) (λhc=>?_)
  ·have hc:BA l[i]≠0:=by simpa using hc
   (repeat first|refine WK ?_|refine Ai λX=>?_|refine Ay λY=>?_);refine RT ?_;refine Ag rfl rfl (by exact Sub.f) ⟨?_,rfl⟩;rw[e1,he,Eu h,KW hc];rfl
  have hc:BA l[i]=0:=by simpa using hc
  have hf:PS Tryz.prog 204 [.lst false 118 2 ((l.map (Au false)).take i),sA l[i].name] (iA (Cg (l.take i) l[i].name)):=by
   have:=RX (l.take i) l[i].name (by simp;omega);simpa only[As,List.map_take]using this
  (repeat first|refine WK ?_|refine Ai λX=>?_|refine Ay λY=>?_);refine RU ?_;(repeat first|(refine RGo.gN ?_;first|refine RGo.p (W.hiL rfl rfl rfl (by simp;omega)) rfl ?_|refine RGo.p (W.call2 rfl rfl hf rfl) rfl ?_)|(refine RGo.gQ ?_;first|refine RGo.p (W.hiL rfl rfl rfl (by simp;omega)) rfl ?_|refine RGo.p (W.call2 rfl rfl hf rfl) rfl ?_)|refine RK ?_|refine RGo.nil (by kernel_rfl) ?_);(repeat first|refine WK ?_|refine Ai λX=>?_|refine Ay λY=>?_);refine AWP.cond rfl (λhd=>?_) (λhd=>?_)
  ·have hd:0<=Cg (l.take i) l[i].name:=by simpa using hd
   (repeat first|refine WK ?_|refine Ai λX=>?_|refine Ay λY=>?_);refine RT ?_;refine Ag rfl rfl (by exact Sub.f) ⟨?_,rfl⟩;rw[e1,he,Eu h,IO hc hd]
  ·have hd:Cg (l.take i) l[i].name<0:=by simpa using hd
   (repeat first|refine WK ?_|refine Ai λX=>?_|refine Ay λY=>?_);refine⟨i+1,⟨by omega,?_⟩,by omega,.cons rfl (.cons rfl (.cons rfl (.cons rfl .nil))),by exact Sub.f⟩;rw[he,Eu h,JJ hc hd,List.take_add_one,List.getElem?_eq_getElem h];rfl
 ·have h:¬i<l.length:=by simpa using hb
  (repeat first|refine WK ?_|refine Ai λX=>?_|refine Ay λY=>?_);refine RT ?_;refine Ag rfl rfl (by exact Sub.f) ⟨?_,rfl⟩;rw[e1,he,KV (by omega)]
def CG(ks:List Kind):Int->List Comp->Bool
 |_,[]=>true
 |last,c::l=>match ks[c.kind.toNat]? with
  |some k=>decide (last<c.kind)&&decide (c.kind<ks.length)&&Br k c.vals&&CG ks c.kind l
  |none=>false
def BY(ks:List Kind)(l:List Comp):Bool:=CG ks (-1) l
theorem Lh{ks:List Kind}{l:List Comp}{i:Nat}{last:Int}{k:Kind}{c:Comp}(h:i<l.length)(hc:l[i]=c)(hk:ks[c.kind.toNat]?=some k):CG ks last (l.drop i)=(decide (last<c.kind)&&decide (c.kind<ks.length)&&Br k c.vals&&CG ks c.kind (l.drop (i+1))):=by
 rw[List.drop_eq_getElem_cons h,CG,hc,hk]
theorem HN{ks:List Kind}{l:List Comp}{i:Nat}{last:Int}{c:Comp}(h:i<l.length)(hc:l[i]=c)(hn:c.kind<=last\/(ks.length:Int)<=c.kind):CG ks last (l.drop i)=false:=by
 rw[List.drop_eq_getElem_cons h,CG,hc];split
 ·rcases hn with hn|hn
  ·rw[decide_eq_false (by omega)];rfl
  ·rw[decide_eq_false (p:=c.kind<_) (by omega)];simp
 ·rfl
def Bb(ks:List Kind)(gens:List Int):Int->List Item->Bool
 |_,[]=>true
 |last,it::l=>match gens[it.ent.n.toNat]? with
  |some g=>decide (last<it.ent.n)&&decide (it.ent.n<gens.length)&&decide (it.ent.gen=g)&& !decide (it.ent.gen=1073741824)&&BY ks it.comps&&Bb ks gens it.ent.n l
  |none=>false
theorem KY{ks:List Kind}{gens:List Int}{l:List Item}{i:Nat}{last:Int}{g:Int}{it:Item}(h:i<l.length)(hc:l[i]=it)(hk:gens[it.ent.n.toNat]?=some g):Bb ks gens last (l.drop i)=(decide (last<it.ent.n)&&decide (it.ent.n<gens.length)&&decide (it.ent.gen=g)&& !decide (it.ent.gen=1073741824)&&BY ks it.comps&&Bb ks gens it.ent.n (l.drop (i+1))):=by
 rw[List.drop_eq_getElem_cons h,Bb,hc,hk]
theorem GI{ks:List Kind}{gens:List Int}{l:List Item}{i:Nat}{last:Int}{it:Item}(h:i<l.length)(hc:l[i]=it)(hn:it.ent.n<=last\/(gens.length:Int)<=it.ent.n):Bb ks gens last (l.drop i)=false:=by
 rw[List.drop_eq_getElem_cons h,Bb,hc];split
 ·rcases hn with hn|hn
  ·rw[decide_eq_false (by omega)];rfl
  ·rw[decide_eq_false (p:=it.ent.n<_) (by omega)];simp
 ·rfl
def Fp(l:List Int):Bool:=l.all λg=>decide (0<=g)&&decide (g<=1073741824)
def Cb(w:Wd):Int:=
 if A6 w.kinds≠0 then A6 w.kinds
 else if 256<w.gens.length\/w.gens.length<w.items.length then 2
 else if Fp w.gens=false then 3
 else if Bb w.kinds w.gens (-1) w.items=false then 3 else 0
theorem RN(ks:List Kind)(l:List Comp)(hl:l.length<=1099511627776):PS Tryz.prog 132 [As false false ks,Aj false false l] (bA (BY ks l)):=by
 refine Spec.of (nt:=39) (res:=[.tmp 4]) Tryz.func132 rfl (by kernel_rfl) rfl rfl rfl λSf=>?_
 have hlm:(l.map (AD false)).length=l.length:=List.length_map _;(repeat first|refine WK ?_|refine Ai λX=>?_|refine Ay λY=>?_);refine BI (λ(i:Nat) (last:Int)=>⟨[(0,As false false ks),(5,iA last),(8,Aj false false l),(9,iA (l.map (AD false)).length),(10,iA i)],Sf⟩) (λi last=>i<=l.length/\ -1<=last/\CG ks last (l.drop i)=BY ks l) (λi _=>l.length-i) 0 (-1) ⟨Nat.zero_le _,by omega,rfl⟩ ?_;rintro i last ⟨hi,hla,he⟩;(repeat first|refine WK ?_|refine Ai λX=>?_|refine Ay λY=>?_);refine AWP.cond rfl (λhc=>?_) (λhc=>?_)
 ·have h:i<l.length:=by rw[decide_eq_true_eq,hlm]at hc;omega
  obtain⟨⟨ck,cv⟩,hcc⟩:∃c,l[i]=c:=⟨_,rfl⟩;have hat:(l.map (AD false))[i]?=some (AD false ⟨ck,cv⟩):=by rw[List.getElem?_map,List.getElem?_eq_getElem h,hcc];rfl
  (repeat first|refine WK ?_|refine Ai λX=>?_|refine Ay λY=>?_);rcases Bool.eq_false_or_eq_true (decide (ck<=last))with g1|g1
  ·refine RU ?_;(repeat first|(refine RGo.gQ ?_;first|refine RGo.goNU ?_|refine RGo.goNV ?_)|refine RK ?_|refine RGo.nil (by kernel_rfl) ?_)
   refine AR rfl (by first|rfl|assumption) ?_;(repeat first|refine WK ?_|refine Ai λX=>?_|refine Ay λY=>?_);refine RT ?_;refine AN ?_;rw[<-he,HN h hcc (.inl (by simpa using g1))]
  ·obtain⟨n,rfl⟩:∃n:Nat,ck=n:=⟨ck.toNat,by rw[decide_eq_false_iff_not]at g1;omega⟩
   rcases Bool.eq_false_or_eq_true (decide (((ks.map (Au false)).length:Int)<=n))with g2|g2
   ·refine RU ?_;(repeat first|(refine RGo.gQ ?_;first|refine RGo.goNU ?_|refine RGo.goNV ?_)|refine RK ?_|refine RGo.nil (by kernel_rfl) ?_)
    refine AR rfl (by first|rfl|assumption) ?_;(repeat first|refine WK ?_|refine Ai λX=>?_|refine Ay λY=>?_);refine RT ?_;refine AN ?_;rw[<-he,HN h hcc (.inr (by rw[decide_eq_true_eq,List.length_map]at g2;exact g2))]
   ·have hkl:n<ks.length:=by rw[decide_eq_false_iff_not,List.length_map]at g2;omega
    obtain⟨k,hk⟩:∃k,ks[n]=k:=⟨_,rfl⟩;have hka:ks[n]?=some k:=by rw[List.getElem?_eq_getElem hkl,hk]
    have hat2:(ks.map (Au false))[n]?=some (Au false k):=by rw[List.getElem?_map,hka];rfl
    have hst:=Lh (last:=last) (k:=k) h hcc hka;dsimp only at hst;rw[decide_eq_true (by rw[decide_eq_false_iff_not]at g1;omega),decide_eq_true (p:=(n:Int)<_) (by omega),Bool.true_and,Bool.true_and,he]at hst;have hh:=Pu k cv;obtain⟨b,hb⟩:∃b,Br k cv=b:=⟨_,rfl⟩;rw[hb]at hst hh;cases b
    ·refine RU ?_;(repeat first|(refine RGo.gN ?_;first|(refine RGo.g_callf ?_;first|refine RGo.c2 (h:=(hh ..)) (k:=?_)))|(refine RGo.gQ ?_;first|(refine RGo.g_callf ?_;first|refine RGo.c2 (h:=(hh ..)) (k:=?_)))|refine RK ?_|refine RGo.nil (by kernel_rfl) ?_)
     refine AR rfl (by first|rfl|assumption) ?_;(repeat first|refine WK ?_|refine Ai λX=>?_|refine Ay λY=>?_);refine RT ?_;refine AN ?_;rw[hst];rfl
    ·refine RU ?_;(repeat first|(refine RGo.gN ?_;first|(refine RGo.g_callf ?_;first|refine RGo.c2 (h:=(hh ..)) (k:=?_)))|(refine RGo.gQ ?_;first|(refine RGo.g_callf ?_;first|refine RGo.c2 (h:=(hh ..)) (k:=?_)))|refine RK ?_|refine RGo.nil (by kernel_rfl) ?_)
     refine AE rfl (by first|rfl|assumption) ?_;(repeat first|refine WK ?_|refine Ai λX=>?_|refine Ay λY=>?_);refine Ak (i+1) n ⟨h,by omega,hst.symm⟩
 ·have h:i=l.length:=by rw[decide_eq_false_iff_not,hlm]at hc;omega
  subst h;(repeat first|refine WK ?_|refine Ai λX=>?_|refine Ay λY=>?_);refine RT ?_;refine AN ?_;rw[<-he,List.drop_length];rfl
set_option maxHeartbeats 2000000 in
theorem EU(w:Wd)(hg:w.gens.length<=1099511627776)(hi:w.items.length<=1099511627776)(hc:∀it∈w.items,it.comps.length<=1099511627776):PS Tryz.prog 60 [wdA false w] (iA (Cb w)):=by
 have hck:=L8 w.kinds;obtain⟨ke,hke⟩:∃ke,A6 w.kinds=ke:=⟨_,rfl⟩;obtain⟨we,hwe⟩:∃we,Cb w=we:=⟨_,rfl⟩;rw[hwe];unfold Cb at hwe;rw[hke]at hck hwe;obtain⟨ks,gens,items⟩:=w;dsimp only at hwe hg hi hc hck hke;refine Spec.of (nt:=94) (res:=[.tmp 2]) Tryz.func60 rfl (by kernel_rfl) rfl rfl rfl λSf=>?_
 have hgm:(gens.map iA).length=gens.length:=List.length_map _;have him:(items.map (AA false)).length=items.length:=List.length_map _;refine RG ?_;(repeat first|(refine AOps.gN ?_;first|(refine AOps.g_box ?_;refine Az ?_))|refine WO ?_|refine Ai λX=>?_|refine Ay λY=>?_);refine NL ?_;refine RG ?_;(repeat first|(refine AOps.gN ?_;first|(refine AOps.g_callf ?_;first|refine AOps.c1 (h:=(hck ..)) (k:=?_)))|refine WO ?_|refine Ai λX=>?_|refine Ay λY=>?_);refine NL ?_;(repeat first|refine WK ?_|refine Ai λX=>?_|refine Ay λY=>?_);refine AWP.cond rfl (λhd=>?_) (λhd=>?_)
 ·have hd:ke≠0:=by simpa using hd
  (repeat first|refine WK ?_|refine Ai λX=>?_|refine Ay λY=>?_);refine RT ?_;refine AN ?_;rw[<-hwe,if_pos hd]
 have hd:ke=0:=by simpa using hd
 rw[if_neg (by simp[hd])]at hwe;rcases Bool.eq_false_or_eq_true (decide (256<((gens.map iA).length:Int)))with g1|g1
 ·(repeat first|refine WK ?_|refine Ai λX=>?_|refine Ay λY=>?_)
  refine AR rfl (by first|rfl|assumption) ?_;(repeat first|refine WK ?_|refine Ai λX=>?_|refine Ay λY=>?_);refine RT ?_;refine AN ?_;rw[<-hwe,if_pos (.inl (by rw[decide_eq_true_eq,hgm]at g1;omega))]
 rcases Bool.eq_false_or_eq_true (decide (((gens.map iA).length:Int)<(items.map (AA false)).length))with g2|g2
 ·(repeat first|refine WK ?_|refine Ai λX=>?_|refine Ay λY=>?_)
  refine AR rfl (by first|rfl|assumption) ?_;(repeat first|refine WK ?_|refine Ai λX=>?_|refine Ay λY=>?_);refine RT ?_;refine AN ?_;rw[<-hwe,if_pos (.inr (by rw[decide_eq_true_eq,hgm,him]at g2;omega))]
 (repeat first|refine WK ?_|refine Ai λX=>?_|refine Ay λY=>?_);refine AE rfl (by first|rfl|assumption) ?_;rw[if_neg (by rw[decide_eq_false_iff_not,hgm]at g1;rw[decide_eq_false_iff_not,hgm,him]at g2;omega)]at hwe;(repeat first|refine WK ?_|refine Ai λX=>?_|refine Ay λY=>?_);refine BP (λi:Nat=>⟨[(1,.fp (wdA false ⟨ks,gens,items⟩).cells),(29,AQ false gens),(30,iA (gens.map iA).length),(31,iA i)],Sf⟩) (λi=>i<=gens.length/\∀j (h:j<gens.length),j<i->0<=gens[j]/\gens[j]<=1073741824) (λi=>gens.length-i) 0 ⟨Nat.zero_le _,λj h hj=>absurd hj (by omega)⟩ ?_;rintro i ⟨hil,hgo⟩;(repeat first|refine WK ?_|refine Ai λX=>?_|refine Ay λY=>?_);refine AWP.cond rfl (λhe=>?_) (λhe=>?_)
 ·have h:i<gens.length:=by rw[decide_eq_true_eq,hgm]at he;omega
  obtain⟨x,hx⟩:∃x,gens[i]=x:=⟨_,rfl⟩;have hat:(gens.map iA)[i]?=some (iA x):=by rw[List.getElem?_map,List.getElem?_eq_getElem h,hx];rfl
  have hbad:¬(0<=x/\x<=1073741824)->Fp gens=false:=λhn=>by
   unfold Fp;rw[List.all_eq_false];refine⟨x,hx▸List.getElem_mem h,?_⟩;simp only[Bool.and_eq_true,decide_eq_true_eq];exact hn
  (repeat first|refine WK ?_|refine Ai λX=>?_|refine Ay λY=>?_);refine AWP.cond rfl (λhf=>?_) (λhf=>?_)
  ·have hf:¬(0<=x/\x<=1073741824):=by simp at hf;omega
   (repeat first|refine WK ?_|refine Ai λX=>?_|refine Ay λY=>?_);refine RT ?_;refine AN ?_;rw[<-hwe,if_pos (hbad hf)]
  ·have hf:0<=x/\x<=1073741824:=by simp at hf;omega
   (repeat first|refine WK ?_|refine Ai λX=>?_|refine Ay λY=>?_);refine A7 (i+1) ⟨h,λj h1 h2=>?_⟩;by_cases e:j=i
   ·subst e;rw[hx];exact hf
   ·exact hgo j h1 (by omega)
 have hgok:Fp gens=true:=by
  have h:i=gens.length:=by rw[decide_eq_false_iff_not,hgm]at he;omega
  unfold Fp;rw[List.all_eq_true];intro x hx;obtain⟨j,hj,rfl⟩:=List.getElem_of_mem hx;simp only[Bool.and_eq_true,decide_eq_true_eq];exact hgo j hj (by omega)
 rw[if_neg (by simp[hgok])]at hwe;(repeat first|refine WK ?_|refine Ai λX=>?_|refine Ay λY=>?_);refine BI (λ(i:Nat) (last:Int)=>⟨[(1,.fp (wdA false ⟨ks,gens,items⟩).cells),(6,iA last),(43,Du false false items),(44,iA (items.map (AA false)).length),(45,iA i)],Sf⟩) (λi last=>i<=items.length/\ -1<=last/\Bb ks gens last (items.drop i)=Bb ks gens (-1) items) (λi _=>items.length-i) 0 (-1) ⟨Nat.zero_le _,by omega,rfl⟩ ?_;clear hil hgo he i;rintro i last ⟨hil,hla,he⟩;(repeat first|refine WK ?_|refine Ai λX=>?_|refine Ay λY=>?_);refine AWP.cond rfl (λhd'=>?_) (λhd'=>?_)
 ·have h:i<items.length:=by rw[decide_eq_true_eq,him]at hd';omega
  obtain⟨⟨⟨en,eg⟩,cs⟩,hit⟩:∃it,items[i]=it:=⟨_,rfl⟩;have hat:(items.map (AA false))[i]?=some (AA false ⟨⟨en,eg⟩,cs⟩):=by rw[List.getElem?_map,List.getElem?_eq_getElem h,hit];rfl
  have hcl:=hc _ (hit▸List.getElem_mem h);dsimp only at hcl;(repeat first|refine WK ?_|refine Ai λX=>?_|refine Ay λY=>?_);rcases Bool.eq_false_or_eq_true (decide (en<=last))with q1|q1
  ·refine RU ?_;(repeat first|(refine RGo.gQ ?_;first|refine RGo.goNU ?_|refine RGo.goNV ?_)|refine RK ?_|refine RGo.nil (by kernel_rfl) ?_)
   refine AR rfl (by first|rfl|assumption) ?_;(repeat first|refine WK ?_|refine Ai λX=>?_|refine Ay λY=>?_);refine RT ?_;refine AN ?_;rw[<-hwe,if_pos (by rw[<-he,GI h hit (.inl (by simpa using q1))])]
  obtain⟨n,rfl⟩:∃n:Nat,en=n:=⟨en.toNat,by rw[decide_eq_false_iff_not]at q1;omega⟩;rcases Bool.eq_false_or_eq_true (decide (((gens.map iA).length:Int)<=n))with q2|q2
  ·refine RU ?_;(repeat first|(refine RGo.gQ ?_;first|refine RGo.goNU ?_|refine RGo.goNV ?_)|refine RK ?_|refine RGo.nil (by kernel_rfl) ?_)
   refine AR rfl (by first|rfl|assumption) ?_;(repeat first|refine WK ?_|refine Ai λX=>?_|refine Ay λY=>?_);refine RT ?_;refine AN ?_;rw[<-hwe,if_pos (by rw[<-he,GI h hit (.inr (by rw[decide_eq_true_eq,hgm]at q2;exact q2))])]
  have hkl:n<gens.length:=by rw[decide_eq_false_iff_not,hgm]at q2;omega
  obtain⟨g,hg'⟩:∃g,gens[n]=g:=⟨_,rfl⟩;have hga:gens[n]?=some g:=by rw[List.getElem?_eq_getElem hkl,hg']
  have hat2:(gens.map iA)[n]?=some (iA g):=by rw[List.getElem?_map,hga];rfl
  have hst:=KY (ks:=ks) (last:=last) (g:=g) h hit hga;dsimp only at hst;rw[decide_eq_true (by rw[decide_eq_false_iff_not]at q1;omega),decide_eq_true (p:=(n:Int)<_) (by omega),Bool.true_and,Bool.true_and,he]at hst;rcases Bool.eq_false_or_eq_true (decide (eg≠g))with q3|q3
  ·refine RU ?_;(repeat first|(refine RGo.gQ ?_;first|refine RGo.goNU ?_|refine RGo.goNV ?_)|refine RK ?_|refine RGo.nil (by kernel_rfl) ?_)
   refine AR rfl (by first|rfl|assumption) ?_;(repeat first|refine WK ?_|refine Ai λX=>?_|refine Ay λY=>?_);refine RT ?_;refine AN ?_;rw[<-hwe,if_pos (by rw[hst,decide_eq_false (by simpa using q3)];rfl)]
  rcases Bool.eq_false_or_eq_true (decide (eg=1073741824))with q4|q4
  ·refine RU ?_;(repeat first|(refine RGo.gQ ?_;first|refine RGo.goNU ?_|refine RGo.goNV ?_)|refine RK ?_|refine RGo.nil (by kernel_rfl) ?_)
   refine AR rfl (by first|rfl|assumption) ?_;(repeat first|refine WK ?_|refine Ai λX=>?_|refine Ay λY=>?_);refine RT ?_;refine AN ?_;rw[<-hwe,if_pos (by rw[hst,q4];simp)]
  have hh:=RN ks cs hcl;obtain⟨b,hb⟩:∃b,BY ks cs=b:=⟨_,rfl⟩;rw[decide_eq_true (p:=eg=g) (by simpa using q3),q4,hb,Bool.true_and,Bool.not_false,Bool.true_and]at hst;rw[hb]at hh;cases b
  ·refine RU ?_;(repeat first|(refine RGo.gN ?_;first|(refine RGo.g_callf ?_;first|refine RGo.c2 (h:=(hh ..)) (k:=?_)))|(refine RGo.gQ ?_;first|(refine RGo.g_callf ?_;first|refine RGo.c2 (h:=(hh ..)) (k:=?_)))|refine RK ?_|refine RGo.nil (by kernel_rfl) ?_)
   refine AR rfl (by first|rfl|assumption) ?_;(repeat first|refine WK ?_|refine Ai λX=>?_|refine Ay λY=>?_);refine RT ?_;refine AN ?_;rw[<-hwe,if_pos (by rw[hst];rfl)]
  ·refine RU ?_;(repeat first|(refine RGo.gN ?_;first|(refine RGo.g_callf ?_;first|refine RGo.c2 (h:=(hh ..)) (k:=?_)))|(refine RGo.gQ ?_;first|(refine RGo.g_callf ?_;first|refine RGo.c2 (h:=(hh ..)) (k:=?_)))|refine RK ?_|refine RGo.nil (by kernel_rfl) ?_)
   refine AE rfl (by first|rfl|assumption) ?_;(repeat first|refine WK ?_|refine Ai λX=>?_|refine Ay λY=>?_);refine Ak (i+1) n ⟨h,by omega,hst.symm⟩
 ·have h:i=items.length:=by rw[decide_eq_false_iff_not,him]at hd';omega
  (repeat first|refine WK ?_|refine Ai λX=>?_|refine Ay λY=>?_);refine RT ?_;refine AN ?_;rw[<-hwe,if_neg (by rw[<-he,h,List.drop_length];simp[Bb])]
theorem ET(l:List Int)(hl:l.length*8<=140737488355328):PS Tryz.prog 58 [.lst false 3 1 (l.map iA)] (.lst true 3 1 (l.map iA)):=by
 refine Spec.of (nt:=8) (res:=[.tmp 2]) Tryz.func58 rfl (by kernel_rfl) rfl rfl rfl λSf=>?_
 (repeat first|(refine AOps.gN ?_;first|refine AOps.isNil λb hb=>?_)|refine WK ?_|refine Ai λX=>?_|refine Ay λY=>?_);refine AWP.cond rfl (λhc=>?_) (λhc=>?_)
 ·rw[hb hc]
  (repeat first|refine WK ?_|refine Ai λX=>?_|refine Ay λY=>?_);refine RT ?_;exact⟨[.prim (.slice none 0 0)],[.lst true 3 1 []],_,[],.cons (.tmp rfl) rfl .nil,.cons (.cell .nil) .nil,by exact Sub.f,rfl,rfl⟩
 ·have hl':(0+(l.map iA).length)*8<=140737488355328:=by simpa using hl
  clear hl;(repeat first|(refine AOps.gN ?_;first|(refine AOps.g_lit ?_;refine KG λK=>?_))|refine WK ?_|refine Ai λX=>?_|refine Ay λY=>?_);refine RT ?_;exact⟨[.sl Y 0 (0+(l.map iA).length)],[.lst true 3 1 (l.map iA)],_,[],.cons (.tmp rfl) rfl .nil,.cons (.cell (.sl (p:=0) .here (by simp))) .nil,by exact Sub.f,rfl,rfl⟩
def CZ(l:List Comp):Prop:=l.Pairwise λa b=>a.kind<b.kind
theorem FU{ks:List Kind}:∀{l:List Comp} {last:Int},CG ks last l=true->CZ l/\∀c∈l,last<c.kind/\c.kind<ks.length
 |[],_,_=>⟨.nil,λc hc=>by cases hc⟩
 |c::l,last,h=>by
  rw[CG]at h;split at h
  ·simp only[Bool.and_eq_true,decide_eq_true_eq]at h
   obtain⟨h1,h2⟩:=FU h.2;refine⟨List.pairwise_cons.2 ⟨λd hd=>(h2 d hd).1,h1⟩,λd hd=>?_⟩;rcases List.mem_cons.1 hd with rfl|hd
   ·exact⟨h.1.1.1,h.1.1.2⟩
   ·exact⟨by have:=(h2 d hd).1;have:=h.1.1.1;omega,(h2 d hd).2⟩
  ·cases h
theorem FK{a b:Int}:By a b<0↔a<b:=by
 unfold By;split
 ·simp;assumption
 ·split<;>simp<;>omega
theorem cmpI_eq{a b:Int}:By a b=0↔a=b:=by
 unfold By;split
 ·simp;omega
 ·split<;>simp<;>omega
theorem Ma{l:List Comp}(h:CZ l)(k:Int):Fa (λc:Comp=>By c.kind k) l:=by
 intro a b x y hab hx hy hy0;rw[FK]at hy0⊢;by_cases e:a=b
 ·subst e;rw[hx]at hy;cases hy;exact hy0
 ·obtain⟨ha,rfl⟩:=List.getElem?_eq_some_iff.1 hx
  obtain⟨hb,rfl⟩:=List.getElem?_eq_some_iff.1 hy;have:=List.pairwise_iff_getElem.1 h a b ha hb (by omega);omega
theorem Ol{l:List Comp}{k:Int}{b:Nat×Bool}(h:Found (λc:Comp=>By c.kind k) l b)(hb:b.2=true):∃c,l[b.1]?=some c/\c.kind=k:=by
 obtain⟨c,hc,h0⟩:=h.eq.1 hb;exact⟨c,hc,cmpI_eq.1 h0⟩
theorem P3{l:List Comp}{k:Int}{b:Nat×Bool}(h:Found (λc:Comp=>By c.kind k) l b)(hs:CZ l)(hb:b.2=false):∀c∈l,c.kind≠k:=by
 intro c hc e;obtain⟨j,hj,rfl⟩:=List.getElem_of_mem hc;obtain⟨h1,h2⟩:=h.mono (Ma hs k);have hne:¬∃x,l[b.1]?=some x/\By x.kind k=0:=λhx=>by rw[h.eq.2 hx]at hb;cases hb
 have hjb:b.1<=j:=by
  rcases Nat.lt_or_ge j b.1 with hlt|hge
  ·have:=h1 j _ hlt (List.getElem?_eq_getElem hj)
   rw[FK]at this;omega
  ·exact hge
 have hbl:b.1<l.length:=by omega
 have h3:=h2 b.1 _ (Nat.le_refl _) (List.getElem?_eq_getElem hbl);rw[FK]at h3;by_cases e2:j=b.1
 ·subst e2
  exact hne ⟨_,List.getElem?_eq_getElem hj,cmpI_eq.2 e⟩
 ·have:=List.pairwise_iff_getElem.1 hs b.1 j hbl hj (by omega)
  omega
def Bl(l:List Comp)(k:Int):Option Comp:=l.find? λc=>decide (c.kind=k)
theorem NG{l:List Comp}{k:Int}{c:Comp}(hs:CZ l)(hc:c∈l)(hk:c.kind=k):Bl l k=some c:=by
 induction l with
 |nil=>cases hc
 |cons a l ih=>
  obtain⟨h1,h2⟩:=List.pairwise_cons.1 hs;unfold Bl;rw[List.find?_cons];rcases List.mem_cons.1 hc with rfl|hc
  ·simp[hk]
  ·have:¬a.kind=k:=by have:=h1 c hc;omega
   simp only[this,decide_false];exact ih h2 hc
theorem Gz{l:List Comp}{k:Int}(h:∀c∈l,c.kind≠k):Bl l k=none:=by
 unfold Bl;rw[List.find?_eq_none];intro c hc;simpa using h c hc
def C0(w:Wd)(e:Ent)(k:Int):List Int×Int:=
 if Cb w≠0 then([],Cb w)else match w.items.find? (λit=>decide (it.ent=e))with
  |none=>([],4)
  |some it=>match Bl it.comps k with
   |none=>([],4)
   |some c=>(c.vals,0)
theorem Ij{l:List Item}{e:Ent}(h:B0 l e<0):l.find? (λit=>decide (it.ent=e))=none:=by
 unfold B0 Ea at h;split at h
 ·omega
 ·rename_i h2
  rw[List.findIdx?_eq_none_iff]at h2;rw[List.find?_eq_none];intro x hx;rw[h2 x hx];simp
theorem Ec{l:List Item}{e:Ent}{n:Nat}(h:B0 l e=n):∃it,l[n]?=some it/\l.find? (λit=>decide (it.ent=e))=some it/\it.ent=e:=by
 unfold B0 Ea at h;split at h
 ·rename_i i h2
  have:i=n:=by omega
  subst this;obtain⟨hi,h3,h4⟩:=List.findIdx?_eq_some_iff_getElem.1 h2;refine⟨l[i],List.getElem?_eq_getElem hi,?_,by simpa using h3⟩;rw[List.find?_eq_some_iff_getElem];exact⟨h3,i,hi,rfl,λj hj=>by simpa using h4 j hj⟩
 ·omega
theorem IR{ks:List Kind}{gens:List Int}:∀{l:List Item} {last:Int},Bb ks gens last l=true->∀it∈l,BY ks it.comps=true
 |[],_,_,it,hit=>by cases hit
 |x::l,last,h,it,hit=>by
  rw[Bb]at h;split at h
  ·simp only[Bool.and_eq_true]at h
   rcases List.mem_cons.1 hit with rfl|hit
   ·exact h.1.2
   ·exact IR h.2 it hit
  ·cases h
theorem Qn{w:Wd}(h:Cb w=0):∀it∈w.items,BY w.kinds it.comps=true:=by
 unfold Cb at h;split at h
 ·exact absurd h ‹_›
 ·split at h
  ·cases h
  ·split at h
   ·cases h
   ·split at h
    ·cases h
    ·rename_i hi
     exact IR (by simpa using hi)
theorem Qm{w:Wd}(h:Cb w=0):∀it∈w.items,CZ it.comps:=λit hit=>(FU (Qn h it hit)).1
theorem My(w:Wd)(e:Ent)(k:Int)(hw:WdL w):PS Tryz.prog 33 [wdA false w,AX e,iA k] (.tup [AQ true (C0 w e k).1,iA (C0 w e k).2]):=by
 have hck:=EU w hw.gens hw.items.1 (λit hit=>(hw.items.2 it hit).1);have hfd:=P8 w e (by have:=hw.items.1;omega);obtain⟨r,hr⟩:∃r,C0 w e k=r:=⟨_,rfl⟩;rw[hr];unfold C0 at hr;obtain⟨we,hwe⟩:∃we,Cb w=we:=⟨_,rfl⟩;rw[hwe]at hck hr;refine Spec.of (nt:=46) (res:=[.tmp 6,.tmp 7]) Tryz.func33 rfl (by kernel_rfl) rfl rfl rfl λSf=>?_
 refine RG ?_;(repeat first|(refine AOps.gN ?_;first|(refine AOps.g_box ?_;refine Az ?_))|refine WO ?_|refine Ai λX=>?_|refine Ay λY=>?_);refine NL ?_;refine RG ?_;(repeat first|(refine AOps.gN ?_;first|(refine AOps.g_callf ?_;first|refine AOps.c1 (h:=(hck ..)) (k:=?_)))|refine WO ?_|refine Ai λX=>?_|refine Ay λY=>?_);refine NL ?_;(repeat first|refine WK ?_|refine Ai λX=>?_|refine Ay λY=>?_);refine AWP.cond rfl (λhd=>?_) (λhd=>?_)
 ·have hd:we≠0:=by simpa using hd
  rw[if_pos hd]at hr;subst hr;(repeat first|refine WK ?_|refine Ai λX=>?_|refine Ay λY=>?_);refine RT ?_;exact⟨[.prim (.slice none 0 0),iA we],[AQ true [],iA we],_,[],.cons (.tmp rfl) rfl (.cons (.tmp rfl) rfl .nil),.cons (.cell .nil) (.cons (.cell .same) .nil),by exact Sub.f,rfl,rfl⟩
 have hd:we=0:=by simpa using hd
 rw[if_neg (by simp[hd])]at hr;have hsort:=Qm (hwe.trans hd);refine RG ?_;(repeat first|(refine AOps.gN ?_;first|(refine AOps.g_callf ?_;first|refine AOps.c2 (h:=(hfd ..)) (k:=?_)))|refine WO ?_|refine Ai λX=>?_|refine Ay λY=>?_);refine NL ?_;(repeat first|refine WK ?_|refine Ai λX=>?_|refine Ay λY=>?_);refine AWP.cond rfl (λhg=>?_) (λhg=>?_)
 ·have hg:B0 w.items e<0:=by simpa using hg
  rw[Ij hg]at hr;subst hr;(repeat first|refine WK ?_|refine Ai λX=>?_|refine Ay λY=>?_);refine RT ?_;exact⟨[.prim (.slice none 0 0),iA 4],[AQ true [],iA 4],_,[],.cons (.tmp rfl) rfl (.cons (.tmp rfl) rfl .nil),.cons (.cell .nil) (.cons (.cell .same) .nil),by exact Sub.f,rfl,rfl⟩
 obtain⟨n,hn⟩:∃n:Nat,B0 w.items e=n:=⟨(B0 w.items e).toNat,by(have:¬B0 w.items e<0:=by simpa using hg);(omega)⟩;rw[hn];obtain⟨⟨en,cs⟩,hit,hfi,hen⟩:=Ec hn;rw[hfi]at hr;dsimp only at hr;have hmem:=List.mem_of_getElem? hit;have hcl:=hw.items.2 _ hmem;have hsc:=hsort _ hmem;dsimp only at hcl hsc;have hat:(w.items.map (AA false))[n]?=some (AA false ⟨en,cs⟩):=by rw[List.getElem?_map,hit];rfl
 have hap:=Sw cs k (by have:=hcl.1;omega);refine FL ?_;refine RG ?_;(repeat first|refine WO ?_|refine Ai λX=>?_|refine Ay λY=>?_);refine R1 (h:=hap) λb hb=>?_
 obtain⟨bi,bb⟩:=b;cases bb
 ·have hno:=P3 hb hsc rfl
  rw[Gz hno]at hr;subst hr;dsimp only;(repeat first|refine WO ?_|refine Ai λX=>?_|refine Ay λY=>?_);refine FL ?_;(repeat first|refine WK ?_|refine Ai λX=>?_|refine Ay λY=>?_);refine AR rfl rfl ?_;(repeat first|refine WK ?_|refine Ai λX=>?_|refine Ay λY=>?_);refine RT ?_;exact⟨[.prim (.slice none 0 0),iA 4],[AQ true [],iA 4],_,[],.cons (.tmp rfl) rfl (.cons (.tmp rfl) rfl .nil),.cons (.cell .nil) (.cons (.cell .same) .nil),by exact Sub.f,rfl,rfl⟩
 ·obtain⟨c,hc,hck'⟩:=Ol hb rfl
  dsimp only at hc;have hcm:=List.mem_of_getElem? hc;rw[NG hsc hcm hck']at hr;subst hr;obtain⟨ckd,cv⟩:=c;have hvl:=hcl.2 _ hcm;dsimp only at hvl;have hat2:(cs.map (AD false))[bi]?=some (AD false ⟨ckd,cv⟩):=by rw[List.getElem?_map,hc];rfl
  have hcn:=ET cv (by omega);dsimp only;(repeat first|refine WO ?_|refine Ai λX=>?_|refine Ay λY=>?_);refine FL ?_;(repeat first|refine WK ?_|refine Ai λX=>?_|refine Ay λY=>?_);refine AE rfl rfl ?_;(repeat first|(refine AOps.gN ?_;first|(refine AOps.g_callf ?_;first|refine Rw (h:=hcn) λY=>?_))|refine WK ?_|refine Ai λX=>?_|refine Ay λY=>?_);refine RT ?_;exact⟨[.sl Y 0 (cv.map iA).length,iA 0],[AQ true cv,iA 0],_,[],.cons (.tmp rfl) rfl (.cons (.tmp rfl) rfl .nil),.cons (.cell (.sl (p:=0) .here rfl)) (.cons (.cell .same) .nil),by exact Sub.f,rfl,rfl⟩
def Ek(l:List Comp):List Comp:=l.mergeSort λa b=>decide (a.kind<=b.kind)
def CH(ks:List Kind):List Comp->List Comp->List Comp->List Comp×Int
 |_,out,[]=>(out,0)
 |pre,out,c::l=>
  if c.kind<0\/(ks.length:Int)<=c.kind then([],1)else if pre.any (λo=>decide (o.kind=c.kind))then([],5)else
  match ks[c.kind.toNat]? with
  |none=>([],1)
  |some k=>if(BQ k c.vals).2≠0 then([],(BQ k c.vals).2)else CH ks (pre++[c]) (out++[⟨c.kind,(BQ k c.vals).1⟩]) l
def CD(ks:List Kind)(l:List Comp):List Comp×Int:=
 if A6 ks≠0 then([],A6 ks)else if(CH ks [] [] l).2≠0 then([],(CH ks [] [] l).2)else(Ek (CH ks [] [] l).1,0)
theorem Ig{ks:List Kind}:∀{l pre out:List Comp},(CH ks pre out l).2=0->(∀a∈out,∃b∈pre,b.kind=a.kind)->out.Pairwise (λa b=>a.kind≠b.kind)->(∀a∈out,0<=a.kind/\a.kind<ks.length)->
  (CH ks pre out l).1.Pairwise (λa b=>a.kind≠b.kind)/\∀a∈(CH ks pre out l).1,0<=a.kind/\a.kind<ks.length
 |[],pre,out,h,h1,h2,h3=>⟨h2,h3⟩
 |c::l,pre,out,h,h1,h2,h3=>by
  rw[CH]at h⊢;split at h
  ·cases h
  ·rename_i g1
   rw[if_neg g1];split at h
   ·cases h
   ·rename_i g2
    rw[if_neg g2];split at h
    ·cases h
    ·rename_i k hk
     split at h
     ·rename_i g3;exact absurd h g3
     ·rename_i g3
      (try simp only[hk])
      rw[if_neg g3];refine Ig h (λa ha=>?_) ?_ (λa ha=>?_)
      ·rcases List.mem_append.1 ha with ha|ha
       ·obtain⟨b,hb,e⟩:=h1 a ha
        exact⟨b,by simp[hb],e⟩
       ·rw[List.mem_singleton.1 ha]
        exact⟨c,by simp,rfl⟩
      ·rw[List.pairwise_append]
       refine⟨h2,by simp,λa ha b hb e=>?_⟩;rw[List.mem_singleton.1 hb]at e;obtain⟨b2,hb2,e2⟩:=h1 a ha;exact g2 (List.any_eq_true.2 ⟨b2,hb2,by simpa using e2.trans e⟩)
      ·rcases List.mem_append.1 ha with ha|ha
       ·exact h3 a ha
       ·rw[List.mem_singleton.1 ha];exact⟨by dsimp only;omega,by dsimp only;omega⟩
theorem Er{α:Type}(g:α->Int):∀(n:Nat) (l:List α),l.Pairwise (λa b=>g a≠g b)->(∀a∈l,0<=g a/\g a<n)->l.length<=n:=by
 intro n l h1 h2
 have h3:(l.map λa=>(g a).toNat).Nodup:=by
  rw[List.Nodup,List.pairwise_map];refine h1.imp_of_mem λ{a b} ha hb e=>?_
  have:=h2 a ha;have:=h2 b hb;omega
 have h4:=List.Nodup.length_le_of_subset h3 (l₂:=List.range n) (λx hx=>by
  obtain⟨a,ha,rfl⟩:=List.mem_map.1 hx;have:=h2 a ha;exact List.mem_range.2 (by omega))
 simpa using h4
theorem EY(l:List Comp):(Ek l).Perm l:=List.mergeSort_perm _ _
theorem IP{l u:List Comp}(hd:l.Pairwise (λa b=>a.kind≠b.kind))(hp:u.Perm l)(hs:u.Pairwise (λa b=>a.kind<=b.kind)):u=Ek l:=by
 refine List.Perm.eq_of_pairwise (le:=λa b=>a.kind<=b.kind) (λa b ha hb h1 h2=>?_) hs ?_ (hp.trans (EY l).symm)
 ·have hb':b∈l:=(EY l).mem_iff.1 hb
  have ha':a∈l:=hp.mem_iff.1 ha;obtain⟨i,hi,rfl⟩:=List.getElem_of_mem ha';obtain⟨j,hj,rfl⟩:=List.getElem_of_mem hb';have:=List.pairwise_iff_getElem.1 hd;rcases Nat.lt_trichotomy i j with x|x|x
  ·exact absurd (by omega) (this i j hi hj x)
  ·subst x;rfl
  ·exact absurd (by omega) (this j i hj hi x)
 ·have:=List.pairwise_mergeSort (le:=λa b:Comp=>decide (a.kind<=b.kind)) (λa b c h1 h2=>by simp at*;omega) (λa b=>by simp;omega) l
  exact this.imp λh=>by simpa using h
theorem KX{l:List Comp}(hd:l.Pairwise (λa b=>a.kind≠b.kind)):CZ (Ek l):=by
 have h1:(Ek l).Pairwise (λa b=>a.kind<=b.kind):=by
  have:=List.pairwise_mergeSort (le:=λa b:Comp=>decide (a.kind<=b.kind)) (λa b c h1 h2=>by simp at*;omega) (λa b=>by simp;omega) l;exact this.imp λh=>by simpa using h
 have h2:(Ek l).Pairwise (λa b=>a.kind≠b.kind):=(EY l).symm.pairwise hd (λh=>Ne.symm h);exact(h1.and h2).imp λh=>by obtain⟨a,b⟩:=h;omega
def C7(l:List Comp)(k:Int):Nat:=(l.takeWhile λc=>decide (c.kind<k)).length
def EP:List Comp->Comp->List Comp
 |[],c=>[c]
 |x::l,c=>if x.kind<c.kind then x::EP l c else if x.kind=c.kind then c::l else c::x::l
def ER(l:List Comp)(k:Int):List Comp:=l.filter λc=>!decide (c.kind=k)
def Cs(w:Wd)(i:Nat)(cs:List Comp):Wd:=⟨w.kinds,w.gens,match w.items[i]? with|some it=>w.items.set i ⟨it.ent,cs⟩|none=>w.items⟩
def Cp(w:Wd)(e:Ent)(c:Comp):Wd×Int:=
 if Cb w≠0 then(⟨[],[],[]⟩,Cb w)else if B0 w.items e<0 then(⟨[],[],[]⟩,4)else
 if(CD w.kinds [c]).2≠0 then(⟨[],[],[]⟩,(CD w.kinds [c]).2)else
 match w.items[(B0 w.items e).toNat]?,(CD w.kinds [c]).1 with
 |some it,[d]=>(Cs w (B0 w.items e).toNat (EP it.comps d),0)
 |_,_=>(⟨[],[],[]⟩,0)
def D0(w:Wd)(e:Ent)(k:Int):Wd×Int:=
 if Cb w≠0 then(⟨[],[],[]⟩,Cb w)else if B0 w.items e<0 then(⟨[],[],[]⟩,4)else
 match w.items[(B0 w.items e).toNat]? with
 |some it=>if(Bl it.comps k).isSome then(Cs w (B0 w.items e).toNat (ER it.comps k),0)else(⟨[],[],[]⟩,4)
 |none=>(⟨[],[],[]⟩,4)
def DI(w:Wd)(e:Ent):Wd×Int:=
 if Cb w≠0 then(⟨[],[],[]⟩,Cb w)else if B0 w.items e<0 then(⟨[],[],[]⟩,4)else
 (⟨w.kinds,w.gens.set e.n.toNat (w.gens.getD e.n.toNat 0+1),w.items.eraseIdx (B0 w.items e).toNat⟩,0)
def CB(gens:List Int)(n:Nat):List Int:=if n=gens.length then gens++[0]else gens
def Gj:List Item->Item->List Item
 |[],it=>[it]
 |x::l,it=>if x.ent.n<it.ent.n then x::Gj l it else it::x::l
def Cl(w:Wd)(l:List Comp):Wd×Ent×Int:=
 if Cb w≠0 then(⟨[],[],[]⟩,⟨0,0⟩,Cb w)else if(CD w.kinds l).2≠0 then(⟨[],[],[]⟩,⟨0,0⟩,(CD w.kinds l).2)else
 if(BD w).2=false then(⟨[],[],[]⟩,⟨0,0⟩,6)else
 (⟨w.kinds,CB w.gens (BD w).1,Gj w.items ⟨⟨(BD w).1,(CB w.gens (BD w).1).getD (BD w).1 0⟩,(CD w.kinds l).1⟩⟩,⟨(BD w).1,(CB w.gens (BD w).1).getD (BD w).1 0⟩,0)
theorem FV(i c:Nat)(l:List Int):(BB i c l).1.length=c:=by
 induction c generalizing i l with
 |zero=>rfl
 |succ c ih=>simp[BB,ih]
theorem Hd(i c:Nat)(l:List Int):(BB i c l).1.map (·.name)=(List.range' i c).map B3:=by
 induction c generalizing i l with
 |zero=>rfl
 |succ c ih=>
  have:(Bw i l).1.name=B3 i:=by unfold Bw;split<;>rfl
  simp[BB,ih,List.range'_succ,this]
theorem Gs(k c:Nat)(l:List Int):(An k c l).1.length=c:=by
 induction c generalizing k l with
 |zero=>rfl
 |succ c ih=>simp[An,ih]
theorem Fq(k c:Nat)(l:List Int):(An k c l).1.map (·.name)=(List.range' k c).map C5:=by
 induction c generalizing k l with
 |zero=>rfl
 |succ c ih=>simp[An,ih,List.range'_succ,Cm]
theorem GQ(i:Nat):CP (B3 i)=true:=by
 unfold B3;split<;>decide
theorem La(i:Nat):CP (C5 i)=true:=by
 unfold C5;split<;>decide
theorem Lm(i:Nat)(l:List Int):AY (Bw i l).1=0:=by
 have h1:=Ac l (n:=9) (by omega);have h2:=Ac (Ab l 9) (n:=40) (by omega);unfold Bw;split
 ·simp[AY,GQ]
 ·simp[AY,GQ]
  omega
theorem GN(i c:Nat)(l:List Int):∀f∈(BB i c l).1,AY f=0:=by
 induction c generalizing i l with
 |zero=>intro f h;simp[BB]at h
 |succ c ih=>
  intro f h;simp only[BB,List.mem_cons]at h;rcases h with rfl|h
  ·exact Lm i l
  ·exact ih _ _ f h
theorem Im:∀(fs pre:List Field),(∀f∈fs,AY f=0)->((pre++fs).map (·.name)).Nodup->BF pre fs=0:=by
 intro fs
 induction fs with
 |nil=>intro pre _ _;rfl
 |cons f fs ih=>
  intro pre h hn;have h1:=h f (by simp)
  have h2:pre.any (λo=>o.name==f.name)=false:=by
   rw[List.any_eq_false];intro o ho;simp only[beq_iff_eq];intro e;rw[List.map_append,List.nodup_append]at hn;exact hn.2.2 o.name (List.mem_map_of_mem ho) f.name (by simp) e
  simp only[BF,h1,h2];simp;exact ih _ (λx hx=>h x (by simp[hx])) (by simpa using hn)
theorem JI:∀(ks pre:List Kind),(∀k∈ks,BA k=0)->((pre++ks).map (·.name)).Nodup->BR pre ks=0:=by
 intro fs
 induction fs with
 |nil=>intro pre _ _;rfl
 |cons f fs ih=>
  intro pre h hn;have h1:=h f (by simp)
  have h2:pre.any (λo=>o.name==f.name)=false:=by
   rw[List.any_eq_false];intro o ho;simp only[beq_iff_eq];intro e;rw[List.map_append,List.nodup_append]at hn;exact hn.2.2 o.name (List.mem_map_of_mem ho) f.name (by simp) e
  simp only[BR,h1,h2];simp;exact ih _ (λx hx=>h x (by simp[hx])) (by simpa using hn)
theorem Gv{c:Nat}(h:c<=3):((List.range' 0 c).map B3).Nodup:=by
 have:c=0\/c=1\/c=2\/c=3:=by omega
 rcases this with rfl|rfl|rfl|rfl<;>decide
theorem HZ{c:Nat}(h:c<=4):((List.range' 0 c).map C5).Nodup:=by
 have:c=0\/c=1\/c=2\/c=3\/c=4:=by omega
 rcases this with rfl|rfl|rfl|rfl|rfl<;>decide
theorem Mz(k:Nat)(l:List Int):BA (Cm k l).1=0:=by
 have h1:=Ac l (n:=3) (by omega);have h2:(1+Am l 3).toNat<=3:=by omega
 have h3:=Im (BB 0 (1+Am l 3).toNat (Ab l 3)).1 [] (GN _ _ _) (by
  rw[List.nil_append,Hd];exact Gv h2)
 have h4:=FV 0 (1+Am l 3).toNat (Ab l 3);unfold BA Cm;simp only[La,h3,h4,if_true];rw[if_neg (by omega)]
theorem Hc(i c:Nat)(l:List Int):∀f∈(An i c l).1,BA f=0:=by
 induction c generalizing i l with
 |zero=>intro f h;simp[An]at h
 |succ c ih=>
  intro f h;simp only[An,List.mem_cons]at h;rcases h with rfl|h
  ·exact Mz i l
  ·exact ih _ _ f h
theorem Kb(l:List Int):1<=(AW l).1.length/\(AW l).1.length<=4:=by
 have h:=Ac l (n:=4) (by omega);unfold AW;rw[Gs];omega
theorem Ia(l:List Int):((AW l).1.map (·.name)).Nodup:=by
 have h:=Ac l (n:=4) (by omega);unfold AW;rw[Fq];exact HZ (by omega)
theorem HO(l:List Int):∀k∈(AW l).1,BA k=0:=Hc _ _ _
theorem Ib(l:List Int):A6 (AW l).1=0:=by
 unfold A6;have:=Kb l;rw[if_neg (by omega)];exact JI _ [] (HO l) (Ia l)
theorem LN{f:Field}(h:AY f=0)(v:Int):f.low<=Bj f v/\Bj f v<=DJ f:=by
 have:=Og h;unfold Bj;rw[if_pos h];omega
theorem Ng{f:Field}(h:AY f=0){v:Int}(h1:f.low<=v)(h2:v<=DJ f):Bj f v=v:=by
 unfold Bj;rw[if_pos h];omega
theorem OT{f:Field}(h:AY f=0)(v:Int):Bj f (Bj f v)=Bj f v:=Ng h (LN h v).1 (LN h v).2
theorem OU{fs:List Field}(h:∀f∈fs,AY f=0)(vals:List Int):List.zipWith Bj fs (List.zipWith Bj fs vals)=List.zipWith Bj fs vals:=by
 induction fs generalizing vals with
 |nil=>rfl
 |cons f fs ih=>
  cases vals with
  |nil=>rfl
  |cons v vals=>simp[OT (h f (by simp)),ih (λx hx=>h x (by simp[hx]))]
theorem If{k:Kind}(h:BA k=0){vals:List Int}(hl:vals.length=k.fields.length):BQ k vals=(List.zipWith Bj k.fields vals,0):=by
 unfold BQ;rw[if_neg (by simp[h]),if_neg (by simp[hl])]
theorem Id(k:Nat)(l:List Int):(∀f∈(Cm k l).1.fields,AY f=0)/\(Cm k l).1.fields.length<=3:=by
 have h1:=Ac l (n:=3) (by omega);refine⟨GN _ _ _,?_⟩;show(BB _ _ _).1.length<=3
 rw[FV];omega
theorem FR(i c:Nat)(l:List Int):∀k∈(An i c l).1,(∀f∈k.fields,AY f=0)/\k.fields.length<=3:=by
 induction c generalizing i l with
 |zero=>intro f h;simp[An]at h
 |succ c ih=>
  intro f h;simp only[An,List.mem_cons]at h;rcases h with rfl|h
  ·exact Id i l
  ·exact ih _ _ f h
theorem Hb(l:List Int):∀k∈(AW l).1,(∀f∈k.fields,AY f=0)/\k.fields.length<=3:=FR _ _ _
def vAt(fs:List Field)(l:List Int):Nat->List Int×List Int
 |0=>([],l)
 |i+1=>match fs[i]? with
  |some f=>((vAt fs l i).1++[f.low+Am (vAt fs l i).2 (2^f.bits.toNat)],Ab (vAt fs l i).2 (2^f.bits.toNat))
  |none=>vAt fs l i
def cAt(ks:List Kind)(l:List Int):Nat->List Comp×List Int
 |0=>([],l)
 |i+1=>match ks[i]? with
  |some k=>if Am (cAt ks l i).2 3=2 then((cAt ks l i).1,Ab (cAt ks l i).2 3)
   else((cAt ks l i).1++[⟨i,(vAt k.fields (Ab (cAt ks l i).2 3) k.fields.length).1⟩],(vAt k.fields (Ab (cAt ks l i).2 3) k.fields.length).2)
  |none=>cAt ks l i
def Cr(ks:List Kind)(l:List Int):List Comp×List Int:=cAt ks l ks.length
def wAt(ks:List Kind)(l:List Int):Nat->List Int×List Item×List Int
 |0=>([],[],l)
 |i+1=>
  if Am (Ab (wAt ks l i).2.2 3) 4=3\/(wAt ks l i).2.1.length=8 then((wAt ks l i).1++[Am (wAt ks l i).2.2 3],(wAt ks l i).2.1,Ab (Ab (wAt ks l i).2.2 3) 4)
  else((wAt ks l i).1++[Am (wAt ks l i).2.2 3],(wAt ks l i).2.1++[⟨⟨i,Am (wAt ks l i).2.2 3⟩,(Cr ks (Ab (Ab (wAt ks l i).2.2 3) 4)).1⟩],(Cr ks (Ab (Ab (wAt ks l i).2.2 3) 4)).2)
def Dx(l:List Int):Wd:=
 ⟨(AW l).1,(wAt (AW l).1 (Ab (AW l).2 12) (Am (AW l).2 12).toNat).1,(wAt (AW l).1 (Ab (AW l).2 12) (Am (AW l).2 12).toNat).2.1⟩
def Df(f:Field):Prop:=0<=f.bits/\f.bits<=32/\ -2147483648<=f.low/\f.low<=2147483648
def N0(ks:List Kind):Prop:=ks.length<=1099511627776/\∀k∈ks,k.fields.length<=1099511627776/\∀f∈k.fields,Df f
theorem Qp(fs:List Field)(l:List Int)(i:Nat):(vAt fs l i).1.length<=i:=by
 induction i with
 |zero=>simp[vAt]
 |succ i ih=>rw[vAt];split<;>(try simp only[List.length_append,List.length_singleton])<;>omega
theorem Rh(ks:List Kind)(l:List Int)(i:Nat):(cAt ks l i).1.length<=i:=by
 induction i with
 |zero=>simp[cAt]
 |succ i ih=>rw[cAt];split<;>(try split)<;>(try simp only[List.length_append,List.length_singleton])<;>omega
theorem Kw{fs:List Field}{l:List Int}{i:Nat}(h:i<fs.length):vAt fs l (i+1)=((vAt fs l i).1++[fs[i].low+Am (vAt fs l i).2 (2^fs[i].bits.toNat)],Ab (vAt fs l i).2 (2^fs[i].bits.toNat)):=by
 rw[vAt,List.getElem?_eq_getElem h]
theorem Kj{ks:List Kind}{l:List Int}{i:Nat}(h:i<ks.length)(h2:Am (cAt ks l i).2 3=2):cAt ks l (i+1)=((cAt ks l i).1,Ab (cAt ks l i).2 3):=by
 rw[cAt,List.getElem?_eq_getElem h];simp only;rw[if_pos h2]
theorem Ki{ks:List Kind}{l:List Int}{i:Nat}(h:i<ks.length)(h2:Am (cAt ks l i).2 3≠2):cAt ks l (i+1)=((cAt ks l i).1++[⟨i,(vAt ks[i].fields (Ab (cAt ks l i).2 3) ks[i].fields.length).1⟩],(vAt ks[i].fields (Ab (cAt ks l i).2 3) ks[i].fields.length).2):=by
 rw[cAt,List.getElem?_eq_getElem h];simp only;rw[if_neg h2]
theorem Jk{b:Nat}(h:b<=32):(1:Int)<=2^b/\(2:Int)^b<=4294967296:=by
 have h1:(2:Nat)^b<=2^32:=Nat.pow_le_pow_right (by decide) h;have h2:0<(2:Nat)^b:=Nat.pow_pos (by decide);have h3:((2:Int)^b)=(((2:Nat)^b:Nat):Int):=by simp
 rw[h3];have:(2:Nat)^32=4294967296:=by decide
 omega
theorem Lz(G:Nat)(ks:List Kind)(l:List Int)(hk:N0 ks):PO Tryz.prog 53 [As false false ks,.ptr G 0 0] G (CT l) (Aj true false (Cr ks l).1) (CT (Cr ks l).2):=by
 refine Spec.of (nt:=50) (res:=[.tmp 4]) Tryz.func53 rfl (by kernel_rfl) rfl rfl rfl λSf=>?_
 obtain⟨hk0,hk1⟩:=hk;refine RG ?_;(repeat first|refine WO ?_|refine Ai λX=>?_|refine Ay λY=>?_);refine NL ?_;refine RG ?_;(repeat first|refine WO ?_|refine Ai λX=>?_|refine Ay λY=>?_);refine NL ?_;refine RG ?_;(repeat first|refine WO ?_|refine Ai λX=>?_|refine Ay λY=>?_);refine NL ?_;refine FL ?_;refine AWP.adopt (d:=5) 42 2 rfl λK=>?_
 refine N2 (λ(i K:Nat) (M:List AV) (n:Nat) (q:List Int)=>⟨[(1,.ptr G 0 0),(5,.sl K 0 n),(11,As false false ks),(12,iA (ks.map (Au false)).length),(13,iA i)],(K,.row 42 2 M)::(G,CT q)::Sf⟩) (λi _ M n q=>i<=ks.length/\M=(cAt ks l i).1.map (AD false)/\n=M.length/\q=(cAt ks l i).2) (λi _ _ _ _=>ks.length-i) 0 K [] 0 l ⟨Nat.zero_le _,rfl,rfl,rfl⟩ ?_;rintro i K M n q ⟨hi,hM,hn,hq⟩;(repeat first|refine WK ?_|refine Ai λX=>?_|refine Ay λY=>?_);refine AWP.cond rfl (λhc=>?_) (λhc=>?_)
 ·have h:i<ks.length:=by simpa using hc
  obtain⟨hf0,hf1⟩:=hk1 _ (List.getElem_mem h);have h3:=Ac q (n:=3) (by decide);have hn1:n+1<=1099511627776:=by have:=Rh ks l i;rw[hn,hM,List.length_map];omega
  (repeat first|(refine AOps.gN ?_;first|(refine AOps.g_callf ?_;first|refine AOps.o2 (h:=(Ct G _ _ (by decide))) (k:=?_)))|refine WK ?_|refine Ai λX=>?_|refine Ay λY=>?_);refine AWP.cond rfl (λhe=>?_) (λhe=>?_)
  ·have he:Am q 3=2:=by simpa using he
   (repeat first|refine WK ?_|refine Ai λX=>?_|refine Ay λY=>?_);refine II (i+1) K M n _ ⟨h,?_,hn,?_⟩
   ·rw[Kj h (hq▸he),hM]
   ·rw[Kj h (hq▸he),hq]
  ·have he:Am q 3≠2:=by simpa using he
   refine RG ?_;(repeat first|refine WO ?_|refine Ai λY=>?_|refine Ay λY=>?_);refine NL ?_;refine AWP.adoptIn (Y:=Y) 3 1 .here (λF=>.cons (.agg (.cons .same (.cons (.base .nil) .nil))) .nil) λF=>?_
   (repeat first|refine WK ?_|refine Ai λX=>?_|refine Ay λY=>?_);obtain⟨fs,hfs⟩:∃fs,ks[i].fields=fs:=⟨_,rfl⟩;obtain⟨q1,hq1⟩:∃q1,Ab q 3=q1:=⟨_,rfl⟩;rw[hq1,hfs];have hck:cAt ks l (i+1)=((cAt ks l i).1++[⟨i,(vAt fs q1 fs.length).1⟩],(vAt fs q1 fs.length).2):=by rw[Ki h (hq▸he),<-hq,hq1,hfs]
   rw[hfs]at hf0 hf1;refine N2 (λ(j F:Nat) (L:List AV) (m:Nat) (r:List Int)=>⟨[(1,.ptr G 0 0),(5,.sl K 0 n),(6,iA i),(8,.ptr Y 0 0),(11,As false false ks),(12,iA (ks.map (Au false)).length),(13,iA i),(24,FI false fs),(25,iA (fs.map fieldA).length),(26,iA j)],(F,.row 3 1 L)::(Y,.row 42 2 [.agg [iA i,.sl F 0 m]])::(K,.row 42 2 M)::(G,CT r)::Sf⟩) (λj _ L m r=>j<=fs.length/\L=(vAt fs q1 j).1.map iA/\m=L.length/\r=(vAt fs q1 j).2) (λj _ _ _ _=>fs.length-j) 0 F [] 0 q1 ⟨Nat.zero_le _,rfl,rfl,rfl⟩ ?_;rintro j F L m r ⟨hj,hL,hm,hr⟩;(repeat first|refine WK ?_|refine Ai λX=>?_|refine Ay λY=>?_);refine AWP.cond rfl (λhd=>?_) (λhd=>?_)
   ·have hj':j<fs.length:=by simpa using hd
    obtain⟨hb0,hb1,hl0,hl1⟩:=hf1 _ (List.getElem_mem hj');obtain⟨b,hb⟩:∃b:Nat,fs[j].bits=b:=⟨fs[j].bits.toNat,by omega⟩;have hp:=Jk (b:=b) (by omega);have hw:IntKind.i64.wrap (1*2^b)=2^b:=by rw[Int.one_mul];exact DM (by omega) (by omega)
    have hv:=Ac r (n:=IntKind.i64.wrap (1*2^b)) (by omega);have hm1:m+1<=1099511627776:=by have:=Qp fs q1 j;rw[hm,hL,List.length_map];omega
    (repeat first|refine WK ?_|refine Ai λZ=>?_|refine Ay λY=>?_);refine AWP.rs λX7=>?_
    refine RU ?_;(repeat first|(refine RGo.gN ?_;first|(refine RGo.g_callf ?_;first|refine RGo.o2 (h:=(Ct G _ _ (by rw[hw];omega))) (k:=?_))|refine RGo.p (W.shl rfl rfl hb (by show b<=64;omega)) rfl ?_|refine RGo.p (W.add rfl rfl (by omega)) rfl ?_)|(refine RGo.gQ ?_;first|(refine RGo.g_callf ?_;first|refine RGo.o2 (h:=(Ct G _ _ (by rw[hw];omega))) (k:=?_))|refine RGo.p (W.shl rfl rfl hb (by show b<=64;omega)) rfl ?_|refine RGo.p (W.add rfl rfl (by omega)) rfl ?_)|refine RK ?_|refine RGo.nil (by kernel_rfl) ?_);(repeat first|refine WK ?_|refine Ai λX=>?_|refine Ay λY=>?_);have hva:vAt fs q1 (j+1)=((vAt fs q1 j).1++[fs[j].low+Am r (IntKind.i64.wrap (1*2^b))],Ab r (IntKind.i64.wrap (1*2^b))):=by rw[Kw hj',<-hr,hw,hb];rfl
    refine II (j+1) X7 _ _ _ ⟨hj',?_,?_,?_⟩
    ·rw[hva,hL,List.map_append];rfl
    ·rw[List.length_append,hm]
    ·rw[hva]
   ·have hj':j=fs.length:=by rw[decide_eq_false_iff_not,List.length_map]at hd;omega
    subst hj';refine FL ?_;refine AWP.iceIn (X:=F) (Y:=Y) .here (.next .here) rfl (.cons (.agg (.cons .same (.cons (.base (.sl (by omega))) .nil))) .nil) ?_
    have hF:Al ((L.drop 0).take m)=(vAt fs q1 fs.length).1.map iA:=by
     rw[List.drop_zero,List.take_of_length_le (by omega),hL];exact Frzs.h
    rw[hF];(repeat first|(refine AOps.gN ?_;first|(refine AOps.g_lit ?_;refine AOps.goL (AD false ⟨i,(vAt fs q1 fs.length).1⟩) ?_))|refine WK ?_|refine Ai λX=>?_|refine Ay λY=>?_);refine II (i+1) Y _ _ _ ⟨h,?_,?_,?_⟩
    ·rw[hck,hM,List.map_append];rfl
    ·rw[List.length_append,hn]
    ·rw[hck,hr]
 ·have h:i=ks.length:=by rw[decide_eq_false_iff_not,List.length_map]at hc;omega
  subst h;(repeat first|refine WK ?_|refine Ai λX=>?_|refine Ay λY=>?_);refine RT ?_;subst hM hq;exact⟨[.sl K 0 n],[.lst true 42 2 ((cAt ks l ks.length).1.map (AD false))],_,[(G,CT (cAt ks l ks.length).2)],.cons (.tmp rfl) rfl .nil,.cons (.cell (.sl (p:=0) .here hn)) .nil,by exact Sub.f,rfl,rfl⟩
theorem Hw(ks:List Kind)(l:List Int)(i:Nat):(wAt ks l i).1.length=i:=by
 induction i with
 |zero=>rfl
 |succ i ih=>rw[wAt];split<;>simp[ih]
theorem Ku(ks:List Kind)(l:List Int)(i:Nat):(wAt ks l i).2.1.length<=i:=by
 induction i with
 |zero=>simp[wAt]
 |succ i ih=>rw[wAt];split<;>(try simp only[List.length_append,List.length_singleton])<;>omega
def wdO(w:Wd):AV:=.agg [As false false w.kinds,AQ true w.gens,Du true false w.items]
instance {w:Wd}:Frz (wdO w) (wdA false w):=⟨by unfold wdO wdA;exact Frz.h⟩
theorem Kc(i:Nat)(l:List Int):Df (Bw i l).1:=by
 have h9:=Ac l (n:=9) (by decide);have h40:=Ac (Ab l 9) (n:=40) (by decide);unfold Bw;split<;>refine⟨?_,?_,?_,?_⟩<;>simp<;>omega
theorem RY(i:Nat)(l:List Int):∀f∈(fAt i l).1,Df f:=by
 induction i with
 |zero=>intro f hf;cases hf
 |succ i ih=>
  intro f hf;rcases List.mem_append.1 hf with hf|hf
  ·exact ih f hf
  ·rw[List.mem_singleton.1 hf];exact Kc _ _
theorem Ll(k:Nat)(l:List Int):(Cm k l).1.fields.length<=3/\∀f∈(Cm k l).1.fields,Df f:=by
 have h:=Ac l (n:=3) (by decide);show(BB 0 (1+Am l 3).toNat (Ab l 3)).1.length<=3/\∀f∈(BB 0 (1+Am l 3).toNat (Ab l 3)).1,Df f
 rw[GO];exact⟨by rw[RZ];omega,RY _ _⟩
theorem No(i:Nat)(l:List Int):∀k∈(kAt i l).1,k.fields.length<=3/\∀f∈k.fields,Df f:=by
 induction i with
 |zero=>intro f hf;cases hf
 |succ i ih=>
  intro f hf;rcases List.mem_append.1 hf with hf|hf
  ·exact ih f hf
  ·rw[List.mem_singleton.1 hf];exact Ll _ _
theorem GM(l:List Int):(AW l).1.length=(1+Am l 4).toNat:=by rw[D8,Np]
theorem GL(l:List Int):N0 (AW l).1:=by
 have h:=Ac l (n:=4) (by decide);refine⟨by rw[GM];omega,?_⟩;rw[D8];intro k hk;have:=No _ _ k hk;exact⟨by omega,this.2⟩
theorem PC(l:List Int):PS Tryz.prog 11 [AQ false l] (wdO (Dx l)):=by
 refine Spec.of (nt:=52) (res:=[.cell 2 26]) Tryz.func11 rfl (by kernel_rfl) rfl rfl rfl λSf=>?_
 have hko:=GL l;obtain⟨ks,hks⟩:∃ks,(AW l).1=ks:=⟨_,rfl⟩;obtain⟨l1,hl1⟩:∃l1,(AW l).2=l1:=⟨_,rfl⟩;have h12:=Ac l1 (n:=12) (by decide);obtain⟨c,hc⟩:∃c:Nat,Am l1 12=c:=⟨(Am l1 12).toNat,by omega⟩;obtain⟨l2,hl2⟩:∃l2,Ab l1 12=l2:=⟨_,rfl⟩;have hg:Dx l=⟨ks,(wAt ks l2 c).1,(wAt ks l2 c).2.1⟩:=by unfold Dx;rw[hks,hl1,hl2,hc];rfl
 have hkp:=λG=>Pj G l
 rw[hks,hl1]at hkp;rw[hks]at hko;rw[hg];clear hg hks hl1;refine RG ?_;(repeat first|refine WO ?_|refine Ai λR=>?_|refine Ay λY=>?_);refine NL ?_;refine RG ?_;(repeat first|refine WO ?_|refine Ai λG=>?_|refine Ay λY=>?_);refine NL ?_;refine RG ?_;(repeat first|(refine AOps.gN ?_;first|(refine AOps.g_callf ?_;first|refine Rz (h:=(hkp G)) (k:=?_)))|refine WO ?_|refine Ai λV=>?_|refine Ay λY=>?_);refine NL ?_;refine RG ?_;(repeat first|(refine AOps.gN ?_;first|(refine AOps.g_callf ?_;first|refine AOps.o2 (h:=(Ct G _ _ (by decide))) (k:=?_)))|refine WO ?_|refine Ai λX=>?_|refine Ay λY=>?_);refine NL ?_;rw[hl2,hc];refine AWP.adoptIn (Y:=V) 71 3 (by exact At.f) (λF=>.cons (.agg (.cons .same (.cons .same (.cons (.base .nil) .nil)))) .nil) λB=>?_
 refine AWP.adoptIn (Y:=V) 3 1 (by exact At.f) (λF=>.cons (.agg (.cons .same (.cons (.base .nil) (.cons .same .nil)))) .nil) λA=>?_
 refine FL ?_;refine Rr (λ(i A B:Nat) (L M:List AV) (n:Nat) (q:List Int)=>⟨[(2,.ptr R 0 0),(3,.ptr G 0 0),(4,.ptr V 0 0),(13,iA c),(14,iA i)],(A,.row 3 1 L)::(B,.row 71 3 M)::(V,.row 26 3 [.agg [As false false ks,.sl A 0 i,.sl B 0 n]])::(G,CT q)::(R,.row 26 3 [.agg [.prim (.slice none 0 0),.prim (.slice none 0 0),.prim (.slice none 0 0)]])::Sf⟩) (λi _ _ L M n q=>i<=c/\L=(wAt ks l2 i).1.map iA/\M=(wAt ks l2 i).2.1.map (AA false)/\n=M.length/\q=(wAt ks l2 i).2.2) (λi _ _ _ _ _ _=>c-i) 0 A B [] [] 0 l2 ⟨Nat.zero_le _,rfl,rfl,rfl,rfl⟩ ?_;rintro i A B L M n q ⟨hi,hL,hM,hn,hq⟩;have hA:=Hw ks l2 i;have hB:=Ku ks l2 i;(repeat first|refine WK ?_|refine Ai λX=>?_|refine Ay λY=>?_);refine AWP.cond rfl (λhd=>?_) (λhd=>?_)
 ·have h:i<c:=by rw[decide_eq_true_eq]at hd;omega
  have h3:=Ac q (n:=3) (by decide);have h4:=Ac (Ab q 3) (n:=4) (by decide);refine RG ?_;(repeat first|refine WO ?_|refine Ai λX=>?_|refine Ay λY=>?_);refine NL ?_;refine AWP.rs λX7=>?_
  refine RU ?_;(repeat first|(refine RGo.gN ?_;first|(refine RGo.g_callf ?_;first|refine RGo.o2 (h:=(Ct G _ _ (by decide))) (k:=?_)))|(refine RGo.gQ ?_;first|(refine RGo.g_callf ?_;first|refine RGo.o2 (h:=(Ct G _ _ (by decide))) (k:=?_)))|refine RK ?_|refine RGo.nil (by kernel_rfl) ?_);(repeat first|(refine AOps.gN ?_;first|(refine AOps.g_callf ?_;first|refine AOps.o2 (h:=(Ct G _ _ (by decide))) (k:=?_)))|refine WK ?_|refine Ai λX=>?_|refine Ay λY=>?_);have hLl:L.length=i:=by rw[hL,List.length_map,hA]
  obtain⟨IT,hIT⟩:∃IT,(wAt ks l2 i).2.1=IT:=⟨_,rfl⟩;rw[hIT]at hM hB;have hnl:n=IT.length:=by rw[hn,hM,List.length_map]
  have hat:(L++[.prim (.int .i64 (Am q 3))])[i]?=some (.prim (.int .i64 (Am q 3))):=by rw[<-hLl];simp
  refine AWP.cond rfl (λhe=>?_) (λhe=>?_)
  ·have he:Am (Ab q 3) 4=3\/n=8:=by rw[Bool.or_eq_true,decide_eq_true_eq,decide_eq_true_eq]at he;omega
   have hw:wAt ks l2 (i+1)=((wAt ks l2 i).1++[Am q 3],IT,Ab (Ab q 3) 4):=by rw[wAt,<-hq,hIT,<-hnl,if_pos he]
   (repeat first|refine WK ?_|refine Ai λX=>?_|refine Ay λY=>?_);refine LU (i+1) X7 B _ M n _ ⟨h,?_,?_,hn,?_⟩
   ·rw[hw,hL,List.map_append];rfl
   ·rw[hw,hM]
   ·rw[hw]
  ·have he:¬(Am (Ab q 3) 4=3\/n=8):=by rw[Bool.or_eq_false_iff,decide_eq_false_iff_not,decide_eq_false_iff_not]at he;omega
   have hw:wAt ks l2 (i+1)=((wAt ks l2 i).1++[Am q 3],IT++[⟨⟨i,Am q 3⟩,(Cr ks (Ab (Ab q 3) 4)).1⟩],(Cr ks (Ab (Ab q 3) 4)).2):=by rw[wAt,<-hq,hIT,<-hnl,if_neg he]
   have hin:i<i+[AV.prim (.int .i64 (Am q 3))].length:=Nat.lt_succ_self i;refine AWP.rs λX8=>?_
   refine RU ?_;(repeat first|(refine RGo.gN ?_;first|(refine RGo.g_callf ?_;first|refine RGo.o2 (h:=(Lz G ks _ hko)) (k:=?_))|(refine RGo.g_lit ?_;refine RGo.goL (AA false ⟨⟨i,Am q 3⟩,(Cr ks (Ab (Ab q 3) 4)).1⟩) ?_))|(refine RGo.gQ ?_;first|(refine RGo.g_callf ?_;first|refine RGo.o2 (h:=(Lz G ks _ hko)) (k:=?_))|(refine RGo.g_lit ?_;refine RGo.goL (AA false ⟨⟨i,Am q 3⟩,(Cr ks (Ab (Ab q 3) 4)).1⟩) ?_))|refine RK ?_|refine RGo.nil (by kernel_rfl) ?_);(repeat first|refine WK ?_|refine Ai λX=>?_|refine Ay λY=>?_);refine LU (i+1) X7 X8 _ _ _ _ ⟨h,?_,?_,?_,?_⟩
   ·rw[hw,hL,List.map_append];rfl
   ·rw[hw,hM,List.map_append];rfl
   ·rw[List.length_append,hn]
   ·rw[hw]
 ·have h:i=c:=by rw[decide_eq_false_iff_not]at hd;omega
  subst h;(repeat first|refine WK ?_|refine Ai λX=>?_|refine Ay λY=>?_);refine RT ?_;subst hL hM;have hA:i=((wAt ks l2 i).1.map iA).length:=by rw[List.length_map,hA]
  exact⟨[.agg [As false false ks,.sl A 0 i,.sl B 0 n]],[wdO ⟨ks,(wAt ks l2 i).1,(wAt ks l2 i).2.1⟩],_,[],.cons (.cell (p:=4) rfl (by exact At.f) TAg.h TSize.h rfl rfl) rfl .nil,.cons (.agg (.cons .same (.cons (.sl (p:=0) .here hA) (.cons (.sl (p:=0) .here hn) .nil)))) .nil,by exact Sub.f,rfl,rfl⟩
theorem Nw{ks:List Kind}{l:List Int}{i:Nat}{c:Comp}(h:c∈(cAt ks l i).1):∃(j:Nat) (hj:j<ks.length) (q:List Int),j<i/\c=⟨j,(vAt ks[j].fields q ks[j].fields.length).1⟩:=by
 induction i with
 |zero=>cases h
 |succ i ih=>
  by_cases hi:i<ks.length
  ·by_cases h2:Am (cAt ks l i).2 3=2
   ·rw[Kj hi h2]at h
    obtain⟨j,hj,q,h3,h4⟩:=ih h;exact⟨j,hj,q,by omega,h4⟩
   ·rw[Ki hi h2]at h
    rcases List.mem_append.1 h with h|h
    ·obtain⟨j,hj,q,h3,h4⟩:=ih h
     exact⟨j,hj,q,by omega,h4⟩
    ·rw[List.mem_singleton.1 h]
     exact⟨i,hi,_,by omega,rfl⟩
  ·rw[cAt,List.getElem?_eq_none (by omega)]at h
   obtain⟨j,hj,q,h3,h4⟩:=ih h;exact⟨j,hj,q,by omega,h4⟩
theorem NW{ks:List Kind}{l:List Int}{i:Nat}{it:Item}(h:it∈(wAt ks l i).2.1):∃(j:Nat) (q:List Int),j<i/\(wAt ks l i).1[j]?=some it.ent.gen/\it.ent.n=j/\it.comps=(Cr ks q).1:=by
 induction i with
 |zero=>cases h
 |succ i ih=>
  have hl:=Hw ks l i
  have hup:∀(x:Int) (g:Int) (j:Nat),(wAt ks l i).1[j]?=some g->((wAt ks l i).1++[x])[j]?=some g:=λx g j hg=>by
   rw[List.getElem?_append_left (List.getElem?_eq_some_iff.1 hg).1,hg]
  rw[wAt]at h⊢;split
  ·rename_i hs
   rw[if_pos hs]at h;obtain⟨j,q,h1,h2,h3,h4⟩:=ih h;exact⟨j,q,by omega,hup _ _ _ h2,h3,h4⟩
  ·rename_i hs
   rw[if_neg hs]at h;rcases List.mem_append.1 h with h|h
   ·obtain⟨j,q,h1,h2,h3,h4⟩:=ih h
    exact⟨j,q,by omega,hup _ _ _ h2,h3,h4⟩
   ·rw[List.mem_singleton.1 h]
    exact⟨i,_,by omega,by rw[List.getElem?_append_right (by omega),hl];simp,rfl,rfl⟩
theorem IZ(l:List Int):(AW l).1.length<=4/\∀k∈(AW l).1,k.fields.length<=3:=by
 have h:=Ac l (n:=4) (by decide);refine⟨by rw[GM];omega,?_⟩;rw[D8];intro k hk;exact(No _ _ k hk).1
theorem Dd{ks:List Kind}:∀{l:List Comp} {last:Int},-1<=last->(CG ks last l=true↔l.Pairwise (λa b=>a.kind<b.kind)/\∀c∈l,last<c.kind/\c.kind<ks.length/\∃k,ks[c.kind.toNat]?=some k/\Br k c.vals=true)
 |[],_,_=>by simp[CG]
 |c::l,last,hl=>by
  rw[CG];constructor
  ·intro h
   split at h
   ·rename_i k hk
    simp only[Bool.and_eq_true,decide_eq_true_eq]at h;obtain⟨⟨⟨h1,h2⟩,h3⟩,h4⟩:=h;obtain⟨h5,h6⟩:=(Dd (by omega)).1 h4;refine⟨List.pairwise_cons.2 ⟨λd hd=>(h6 d hd).1,h5⟩,λd hd=>?_⟩;rcases List.mem_cons.1 hd with rfl|hd
    ·exact⟨h1,h2,k,hk,h3⟩
    ·obtain⟨q1,q2⟩:=h6 d hd
     exact⟨by omega,q2⟩
   ·cases h
  ·rintro⟨h1,h2⟩
   obtain⟨h3,h4⟩:=List.pairwise_cons.1 h1;obtain⟨h5,h6,k,hk,h7⟩:=h2 c (by simp);rw[hk];simp only[Bool.and_eq_true,decide_eq_true_eq];exact⟨⟨⟨h5,h6⟩,h7⟩,(Dd (by omega)).2 ⟨h4,λd hd=>⟨h3 d hd,(h2 d (by simp[hd])).2⟩⟩⟩
theorem EG{ks:List Kind}{gens:List Int}:∀{l:List Item} {last:Int},-1<=last->(Bb ks gens last l=true↔l.Pairwise (λa b=>a.ent.n<b.ent.n)/\∀it∈l,last<it.ent.n/\it.ent.n<gens.length/\gens[it.ent.n.toNat]?=some it.ent.gen/\it.ent.gen≠1073741824/\BY ks it.comps=true)
 |[],_,_=>by simp[Bb]
 |c::l,last,hl=>by
  rw[Bb];constructor
  ·intro h
   split at h
   ·rename_i k hk
    simp only[Bool.and_eq_true,decide_eq_true_eq,Bool.not_eq_true',decide_eq_false_iff_not]at h;obtain⟨⟨⟨⟨⟨h1,h2⟩,h3⟩,h4⟩,h7⟩,h8⟩:=h;obtain⟨h5,h6⟩:=(EG (by omega)).1 h8;refine⟨List.pairwise_cons.2 ⟨λd hd=>(h6 d hd).1,h5⟩,λd hd=>?_⟩;rcases List.mem_cons.1 hd with rfl|hd
    ·exact⟨h1,h2,by rw[hk,h3],h4,h7⟩
    ·obtain⟨q1,q2⟩:=h6 d hd
     exact⟨by omega,q2⟩
   ·cases h
  ·rintro⟨h1,h2⟩
   obtain⟨h3,h4⟩:=List.pairwise_cons.1 h1;obtain⟨h5,h6,hk,h7,h8⟩:=h2 c (by simp);rw[hk];simp only[Bool.and_eq_true,decide_eq_true_eq,Bool.not_eq_true',decide_eq_false_iff_not];exact⟨⟨⟨⟨⟨h5,h6⟩,trivial⟩,h7⟩,h8⟩,(EG (by omega)).2 ⟨h4,λd hd=>⟨h3 d hd,(h2 d (by simp[hd])).2⟩⟩⟩
structure WdOK(w:Wd):Prop where
 ks:A6 w.kinds=0
 gl:w.gens.length<=256
 il:w.items.length<=w.gens.length
 gs:∀g∈w.gens,0<=g/\g<=1073741824
 so:w.items.Pairwise λa b=>a.ent.n<b.ent.n
 it:∀it∈w.items,0<=it.ent.n/\it.ent.n<w.gens.length/\w.gens[it.ent.n.toNat]?=some it.ent.gen/\it.ent.gen≠1073741824/\BY w.kinds it.comps=true
theorem Ax(w:Wd):Cb w=0↔WdOK w:=by
 have hg:Fp w.gens=true↔∀g∈w.gens,0<=g/\g<=1073741824:=by
  unfold Fp;rw[List.all_eq_true];simp only[Bool.and_eq_true,decide_eq_true_eq]
 have hi:=EG (ks:=w.kinds) (gens:=w.gens) (l:=w.items) (last:=-1) (by omega);unfold Cb;constructor
 ·intro h
  split at h
  ·exact absurd h ‹_›
  rename_i h1;split at h
  ·cases h
  rename_i h2;split at h
  ·cases h
  rename_i h3;split at h
  ·cases h
  rename_i h4;obtain⟨h5,h6⟩:=hi.1 (by simpa using h4);exact⟨by simpa using h1,by omega,by omega,hg.1 (by simpa using h3),h5,λit hit=>by obtain⟨a,b⟩:=h6 it hit;exact⟨by omega,b⟩⟩
 ·intro h
  rw[if_neg (by simp[h.ks]),if_neg (by have:=h.gl;have:=h.il;omega),if_neg (by rw[hg.2 h.gs];simp),if_neg (by rw[hi.2 ⟨h.so,λit hit=>by obtain⟨a,b⟩:=h.it it hit;exact⟨by omega,b⟩⟩];simp)]
theorem QJ(ks:List Kind)(l:List Int)(i:Nat):(cAt ks l i).1.Pairwise λa b=>a.kind<b.kind:=by
 induction i with
 |zero=>exact .nil
 |succ i ih=>
  by_cases hi:i<ks.length
  ·by_cases h2:Am (cAt ks l i).2 3=2
   ·rw[Kj hi h2];exact ih
   ·rw[Ki hi h2]
    refine List.pairwise_append.2 ⟨ih,List.pairwise_singleton ..,λa ha b hb=>?_⟩;rw[List.mem_singleton.1 hb];obtain⟨j,hj,q,hji,rfl⟩:=Nw ha;show(j:Int)<i
    omega
  ·rw[cAt,List.getElem?_eq_none (by omega)];exact ih
theorem NX{fs:List Field}(hf:∀f∈fs,AY f=0)(hr:∀f∈fs,Df f)(l:List Int):∀i,i<=fs.length->List.zipWith Bj (fs.take i) (vAt fs l i).1=(vAt fs l i).1/\(vAt fs l i).1.length=i
 |0,_=>⟨rfl,rfl⟩
 |i+1,h=>by
  obtain⟨h1,h2⟩:=NX hf hr l i (by omega);rw[Kw (by omega)];have hm:=List.getElem_mem (l:=fs) (n:=i) (by omega);obtain⟨hb0,hb1,_,_⟩:=hr _ hm;have hp:=Jk (b:=fs[i].bits.toNat) (by omega);have hv:=Ac (vAt fs l i).2 (n:=2^fs[i].bits.toNat) (by omega);have hh:DJ fs[i]=fs[i].low+(2^fs[i].bits.toNat-1):=by unfold DJ;rw[if_pos (hf _ hm)]
  refine⟨?_,by rw[List.length_append,h2];rfl⟩;rw[List.take_succ_eq_append_getElem (by omega),List.zipWith_append (by rw[h2,List.length_take];omega),h1];simp only[List.zipWith_cons_cons,List.zipWith_nil_left];rw[Ng (hf _ hm) (by omega) (by rw[hh];omega)]
theorem OA{k:Kind}(h1:BA k=0)(hf:∀f∈k.fields,AY f=0)(hr:∀f∈k.fields,Df f)(l:List Int):Br k (vAt k.fields l k.fields.length).1=true:=by
 obtain⟨h2,h3⟩:=NX hf hr l k.fields.length (Nat.le_refl _);rw[List.take_length]at h2;unfold Br;rw[If h1 h3,h2];simp
structure KsGood(ks:List Kind):Prop where
 one:∀k∈ks,BA k=0
 fld:∀k∈ks,∀f∈k.fields,AY f=0
 rng:∀k∈ks,∀f∈k.fields,Df f
theorem JN(l:List Int):KsGood (AW l).1:=
 ⟨HO l,λk hk=>(Hb l k hk).1,λk hk=>((GL l).2 k hk).2⟩
theorem JO{ks:List Kind}(h:KsGood ks)(l:List Int):BY ks (Cr ks l).1=true:=by
 unfold BY;rw[Dd (by omega)];refine⟨QJ _ _ _,λc hc=>?_⟩;obtain⟨j,hj,q,_,rfl⟩:=Nw hc;have hm:=List.getElem_mem hj;exact⟨by show(-1:Int)<(j:Int);omega,by show(j:Int)<_;omega,ks[j],List.getElem?_eq_getElem hj,OA (h.one _ hm) (h.fld _ hm) (h.rng _ hm) q⟩
theorem PE(ks:List Kind)(l:List Int)(i:Nat):(wAt ks l i).2.1.Pairwise λa b=>a.ent.n<b.ent.n:=by
 induction i with
 |zero=>exact .nil
 |succ i ih=>
  rw[wAt];split
  ·exact ih
  ·refine List.pairwise_append.2 ⟨ih,List.pairwise_singleton ..,λa ha b hb=>?_⟩
   rw[List.mem_singleton.1 hb];obtain⟨j,q,hji,_,e,_⟩:=NW ha;show a.ent.n<(i:Int)
   omega
theorem PF(ks:List Kind)(l:List Int)(i:Nat):∀g∈(wAt ks l i).1,0<=g/\g<3:=by
 induction i with
 |zero=>intro g hg;cases hg
 |succ i ih=>
  intro g hg;rw[wAt]at hg;have h3:=Ac (wAt ks l i).2.2 (n:=3) (by decide);split at hg<;>
  ·rcases List.mem_append.1 hg with hg|hg
   ·exact ih g hg
   ·rw[List.mem_singleton.1 hg];exact h3
theorem Li(l:List Int):WdOK (Dx l):=by
 have h:=Ac (AW l).2 (n:=12) (by decide);have h1:=Ku (AW l).1 (Ab (AW l).2 12) (Am (AW l).2 12).toNat;have h2:=Hw (AW l).1 (Ab (AW l).2 12) (Am (AW l).2 12).toNat;have h3:=PF (AW l).1 (Ab (AW l).2 12) (Am (AW l).2 12).toNat;refine⟨Ib l,?_,?_,λg hg=>?_,PE _ _ _,λit hit=>?_⟩
 ·exact Nat.le_trans (Nat.le_of_eq h2) (by omega)
 ·exact Nat.le_trans h1 (Nat.le_of_eq h2.symm)
 ·have:=h3 g hg;omega
 ·obtain⟨j,q,hji,hg,hn,hc⟩:=NW hit
  have hjl:j<(wAt (AW l).1 (Ab (AW l).2 12) (Am (AW l).2 12).toNat).1.length:=(List.getElem?_eq_some_iff.1 hg).1;have hgm:=h3 _ (List.mem_of_getElem? hg);refine⟨by omega,?_,?_,by omega,by rw[hc];exact JO (JN l) q⟩
  ·rw[hn];show(j:Int)<((wAt _ _ _).1.length:Int);omega
  ·rw[hn];exact hg
section
section
variable {α:Type}{key:α->Int}{l a b:List α}
def KS(key:α->Int)(l:List α):Prop:=l.Pairwise λa b=>key a<key b
theorem GH(h:KS key l){x y:α}(hx:x∈l)(hy:y∈l)(e:key x=key y):x=y:=by
 induction l with
 |nil=>cases hx
 |cons z l ih=>
  obtain⟨h1,h2⟩:=List.pairwise_cons.1 h;rcases List.mem_cons.1 hx with q|q<;>rcases List.mem_cons.1 hy with r|r
  ·rw[q,r]
  ·subst q;have:=h1 y r;omega
  ·subst r;have:=h1 x q;omega
  ·exact ih h2 q r
theorem Ph:∀{a b:List α},KS key a->KS key b->(∀x,x∈a↔x∈b)->a=b
 |[],[],_,_,_=>rfl
 |[],y::b,_,_,h=>absurd ((h y).2 (by simp)) (by simp)
 |x::a,[],_,_,h=>absurd ((h x).1 (by simp)) (by simp)
 |x::a,y::b,ha,hb,h=>by
  obtain⟨a1,a2⟩:=List.pairwise_cons.1 ha;obtain⟨b1,b2⟩:=List.pairwise_cons.1 hb
  have e:x=y:=by
   rcases List.mem_cons.1 ((h x).1 (by simp))with e|h1
   ·exact e
   ·rcases List.mem_cons.1 ((h y).2 (by simp))with e|h2
    ·exact e.symm
    ·have:=b1 x h1;have:=a1 y h2;omega
  subst e;rw[Ph a2 b2 λz=>?_];constructor
  ·intro hz
   rcases List.mem_cons.1 ((h z).1 (by simp[hz]))with e|h1
   ·have:=a1 z hz;rw[e]at this;omega
   ·exact h1
  ·intro hz
   rcases List.mem_cons.1 ((h z).2 (by simp[hz]))with e|h1
   ·have:=b1 z hz;rw[e]at this;omega
   ·exact h1
theorem H2{i:Nat}{y:α}(hi:l[i]?=some y):l=l.take i++y::l.drop (i+1):=by
 obtain⟨h,rfl⟩:=List.getElem?_eq_some_iff.1 hi;rw[<-List.drop_eq_getElem_cons h,List.take_append_drop]
theorem LZ{i:Nat}{y:α}(h:KS key l)(hi:l[i]?=some y):KS key (l.take i)/\KS key (l.drop (i+1))/\(∀x∈l.take i,key x<key y)/\(∀x∈l.drop (i+1),key y<key x)/\∀x,x∈l↔x∈l.take i\/x=y\/x∈l.drop (i+1):=by
 have e:=H2 hi;have h':=h;rw[e]at h';obtain⟨h1,h2,h3⟩:=List.pairwise_append.1 h';obtain⟨h4,h5⟩:=List.pairwise_cons.1 h2;refine⟨h1,h5,λx hx=>h3 x hx y (by simp),h4,λx=>?_⟩
 conv=>lhs;rw[e]
 simp
theorem Pi{i:Nat}{y:α}(h:KS key l)(hi:l[i]?=some y):KS key (l.eraseIdx i)/\∀x,x∈l.eraseIdx i↔x∈l/\key x≠key y:=by
 obtain⟨h1,h2,h3,h4,h5⟩:=LZ h hi;refine⟨h.sublist (List.eraseIdx_sublist _ _),λx=>?_⟩;rw[List.eraseIdx_eq_take_drop_succ,List.mem_append,h5];constructor
 ·rintro(hx|hx)
  ·exact⟨.inl hx,by have:=h3 x hx;omega⟩
  ·exact⟨.inr (.inr hx),by have:=h4 x hx;omega⟩
 ·rintro⟨hx|rfl|hx,hn⟩
  ·exact .inl hx
  ·exact absurd rfl hn
  ·exact .inr hx
theorem SI{i:Nat}{y z:α}(h:KS key l)(hi:l[i]?=some y)(hk:key z=key y):KS key (l.set i z)/\∀x,x∈l.set i z↔x=z\/(x∈l/\key x≠key z):=by
 obtain⟨h1,h2,h3,h4,h5⟩:=LZ h hi;obtain⟨hl,_⟩:=List.getElem?_eq_some_iff.1 hi;have e:l.set i z=l.take i++z::l.drop (i+1):=List.set_eq_take_append_cons_drop.trans (if_pos hl);rw[e];refine⟨List.pairwise_append.2 ⟨h1,List.pairwise_cons.2 ⟨λx hx=>by have:=h4 x hx;omega,h2⟩,λx hx w hw=>?_⟩,λx=>?_⟩
 ·rcases List.mem_cons.1 hw with rfl|hw
  ·have:=h3 x hx;omega
  ·have:=h3 x hx;have:=h4 w hw;omega
 ·rw[h5,List.mem_append,List.mem_cons]
  constructor
  ·rintro(hx|rfl|hx)
   ·exact .inr ⟨.inl hx,by have:=h3 x hx;omega⟩
   ·exact .inl rfl
   ·exact .inr ⟨.inr (.inr hx),by have:=h4 x hx;omega⟩
  ·rintro(rfl|⟨hx|rfl|hx,hn⟩)
   ·exact .inr (.inl rfl)
   ·exact .inl hx
   ·exact absurd hk.symm hn
   ·exact .inr (.inr hx)
theorem RD(h:KS key l){n:Int}{x:α}:(l.find? λy=>decide (key y=n))=some x↔x∈l/\key x=n:=by
 constructor
 ·intro e
  exact⟨List.mem_of_find?_eq_some e,by simpa using List.find?_some e⟩
 ·rintro⟨hx,e⟩
  cases hf:l.find? λy=>decide (key y=n)with
  |none=>rw[List.find?_eq_none]at hf;exact absurd (by simpa using e) (hf x hx)
  |some z=>rw[GH h hx (List.mem_of_find?_eq_some hf) (by have:=List.find?_some hf;simp at this;omega)]
end
theorem held_iff{ks:List Kind}{l:List Comp}:BY ks l=true↔CZ l/\∀c∈l,0<=c.kind/\c.kind<ks.length/\∃k,ks[c.kind.toNat]?=some k/\Br k c.vals=true:=by
 unfold BY;rw[Dd (by omega)];constructor
 ·rintro⟨h1,h2⟩
  exact⟨h1,λc hc=>⟨by have:=(h2 c hc).1;omega,(h2 c hc).2⟩⟩
 ·rintro⟨h1,h2⟩
  exact⟨h1,λc hc=>⟨by have:=(h2 c hc).1;omega,(h2 c hc).2⟩⟩
theorem GK{c:Comp}:∀{l:List Comp},CZ l->∀d,d∈EP l c↔d=c\/(d∈l/\d.kind≠c.kind)
 |[],_,d=>by simp[EP]
 |x::l,h,d=>by
  obtain⟨h1,h2⟩:=List.pairwise_cons.1 h;rw[EP];split
  ·rename_i hx
   rw[List.mem_cons,GK h2,List.mem_cons];constructor
   ·rintro(rfl|rfl|⟨hd,hn⟩)
    ·exact .inr ⟨.inl rfl,by omega⟩
    ·exact .inl rfl
    ·exact .inr ⟨.inr hd,hn⟩
   ·rintro(rfl|⟨rfl|hd,hn⟩)
    ·exact .inr (.inl rfl)
    ·exact .inl rfl
    ·exact .inr (.inr ⟨hd,hn⟩)
  ·split
   ·rename_i hx
    rw[List.mem_cons,List.mem_cons];constructor
    ·rintro(rfl|hd)
     ·exact .inl rfl
     ·exact .inr ⟨.inr hd,by have:=h1 d hd;omega⟩
    ·rintro(rfl|⟨rfl|hd,hn⟩)
     ·exact .inl rfl
     ·exact absurd hx hn
     ·exact .inr hd
   ·rw[List.mem_cons,List.mem_cons]
    constructor
    ·rintro(rfl|rfl|hd)
     ·exact .inl rfl
     ·exact .inr ⟨.inl rfl,by omega⟩
     ·exact .inr ⟨.inr hd,by have:=h1 d hd;omega⟩
    ·rintro(rfl|⟨hd,hn⟩)
     ·exact .inl rfl
     ·exact .inr hd
theorem Gk{c:Comp}:∀{l:List Comp},CZ l->CZ (EP l c)
 |[],_=>List.pairwise_singleton ..
 |x::l,h=>by
  obtain⟨h1,h2⟩:=List.pairwise_cons.1 h;rw[EP];split
  ·rename_i hx
   refine List.pairwise_cons.2 ⟨λd hd=>?_,Gk h2⟩;rcases(GK h2 d).1 hd with rfl|⟨hd,_⟩
   ·exact hx
   ·exact h1 d hd
  ·split
   ·rename_i hx
    exact List.pairwise_cons.2 ⟨λd hd=>by have:=h1 d hd;omega,h2⟩
   ·refine List.pairwise_cons.2 ⟨λd hd=>?_,h⟩
    rcases List.mem_cons.1 hd with rfl|hd
    ·omega
    ·have:=h1 d hd;omega
theorem Os{l:List Comp}{k:Int}(d:Comp):d∈ER l k↔d∈l/\d.kind≠k:=by
 unfold ER;rw[List.mem_filter];simp
theorem NC{l:List Comp}{k:Int}(h:CZ l):CZ (ER l k):=List.Pairwise.filter _ h
theorem OO{a b:List Comp}(ha:CZ a)(hb:CZ b)(h:∀x,x∈a↔x∈b):a=b:=Ph (key:=Comp.kind) ha hb h
theorem It{l:List Comp}(h:CZ l){k:Int}{c:Comp}:Bl l k=some c↔c∈l/\c.kind=k:=RD (key:=Comp.kind) h
theorem Pv{ks:List Kind}{l:List Comp}{c:Comp}(h:BY ks l=true)(h1:0<=c.kind)(h2:c.kind<ks.length){k:Kind}(h3:ks[c.kind.toNat]?=some k)(h4:Br k c.vals=true):BY ks (EP l c)=true:=by
 obtain⟨hs,hm⟩:=held_iff.1 h;refine held_iff.2 ⟨Gk hs,λd hd=>?_⟩;rcases(GK hs d).1 hd with rfl|⟨hd,_⟩
 ·exact⟨h1,h2,k,h3,h4⟩
 ·exact hm d hd
theorem Jt{ks:List Kind}{l:List Comp}{k:Int}(h:BY ks l=true):BY ks (ER l k)=true:=by
 obtain⟨hs,hm⟩:=held_iff.1 h;exact held_iff.2 ⟨NC hs,λd hd=>hm d ((Os d).1 hd).1⟩
theorem KU{pre ks:List Kind}(h:BR pre ks=0):∀k∈ks,BA k=0:=by
 induction ks generalizing pre with
 |nil=>intro k hk;cases hk
 |cons x l ih=>
  intro k hk;simp only[BR]at h;split at h
  ·exact absurd h ‹_›
  ·rename_i hx
   split at h
   ·cases h
   ·rcases List.mem_cons.1 hk with rfl|hk
    ·simpa using hx
    ·exact ih h k hk
theorem BL{ks:List Kind}(h:A6 ks=0):ks.length<=16/\∀k∈ks,BA k=0:=by
 unfold A6 at h;split at h
 ·cases h
 ·exact⟨by omega,KU h⟩
def Ft(ks:List Kind)(c:Comp):Comp:=match ks[c.kind.toNat]? with
 |some k=>⟨c.kind,(BQ k c.vals).1⟩
 |none=>c
theorem Gu(ks:List Kind)(c:Comp):(Ft ks c).kind=c.kind:=by unfold Ft;split<;>rfl
def Fb(ks:List Kind)(c:Comp):Prop:=0<=c.kind/\c.kind<ks.length/\∃k,ks[c.kind.toNat]?=some k/\(BQ k c.vals).2=0
theorem Kd{ks:List Kind}{c:Comp}{k:Kind}(h:ks[c.kind.toNat]?=some k):Ft ks c=⟨c.kind,(BQ k c.vals).1⟩:=by
 unfold Ft;rw[h]
theorem Ii{ks:List Kind}:∀{l pre out:List Comp},(∀c∈l,Fb ks c)->l.Pairwise (λa b=>a.kind≠b.kind)->(∀a∈pre,∀b∈l,a.kind≠b.kind)->CH ks pre out l=(out++l.map (Ft ks),0)
 |[],pre,out,_,_,_=>by simp[CH]
 |c::l,pre,out,h1,h2,h3=>by
  obtain⟨a,b,k,hk,hf⟩:=h1 c (by simp);obtain⟨h4,h5⟩:=List.pairwise_cons.1 h2
  have hany:pre.any (λo=>decide (o.kind=c.kind))=false:=by
   rw[List.any_eq_false];intro x hx;simpa using h3 x hx c (by simp)
  rw[CH,if_neg (by omega),hany,if_neg (by simp),hk];dsimp only;rw[if_neg (by simp[hf]),Ii (λd hd=>h1 d (by simp[hd])) h5 (λx hx d hd=>?_),List.map_cons,Kd hk]
  ·simp
  ·rcases List.mem_append.1 hx with hx|hx
   ·exact h3 x hx d (by simp[hd])
   ·rw[List.mem_singleton.1 hx];exact h4 d hd
theorem JY{ks:List Kind}(hk:A6 ks=0){l:List Comp}(h1:∀c∈l,Fb ks c)(h2:l.Pairwise (λa b=>a.kind≠b.kind)):CD ks l=(Ek (l.map (Ft ks)),0):=by
 unfold CD;rw[if_neg (by simp[hk]),Ii h1 h2 (λ_ h=>by cases h),if_neg (by simp)];rfl
theorem IQ{l:List Comp}(h:CZ l):Ek l=l:=
 (IP (h.imp λh=>by omega) (List.Perm.refl _) (h.imp λh=>by omega)).symm
theorem Gp{k:Kind}{v:List Int}(h:Br k v=true):BQ k v=(v,0):=by
 unfold Br at h;simp only[Bool.and_eq_true,decide_eq_true_eq]at h;exact Prod.ext h.2 h.1
theorem Ew{k:Kind}{v:List Int}(h:(BQ k v).2=0):Br k (BQ k v).1=true/\(BQ k v).1=List.zipWith Bj k.fields v/\v.length=k.fields.length:=by
 unfold BQ at h⊢;split at h
 ·exact absurd h ‹_›
 ·rename_i h1
  have h1:BA k=0:=by simpa using h1
  split at h
  ·cases h
  ·rename_i h2
   have h2:v.length=k.fields.length:=by simpa using h2
   rw[if_neg (by simp[h1]),if_neg (by simp[h2])];refine⟨?_,rfl,h2⟩;unfold Br;rw[If h1 (by simp[h2]),OU (Ce h1).2.2];simp
theorem P6{ks:List Kind}{l:List Comp}(h:BY ks l=true):(∀c∈l,Fb ks c)/\l.Pairwise (λa b=>a.kind≠b.kind)/\l.map (Ft ks)=l:=by
 obtain⟨hs,hm⟩:=held_iff.1 h;refine⟨λc hc=>?_,hs.imp λh=>by omega,?_⟩
 ·obtain⟨a,b,k,hk,hh⟩:=hm c hc
  exact⟨a,b,k,hk,by rw[Gp hh]⟩
 ·conv=>rhs;rw[<-List.map_id l]
  refine List.map_congr_left λc hc=>?_
  obtain⟨a,b,k,hk,hh⟩:=hm c hc;rw[Kd hk,Gp hh];rfl
theorem N9{ks:List Kind}(hk:A6 ks=0){l:List Comp}(h:BY ks l=true):CD ks l=(l,0):=by
 obtain⟨h1,h2,h3⟩:=P6 h;rw[JY hk h1 h2,h3,IQ (held_iff.1 h).1]
theorem Hu{ks:List Kind}(hk:A6 ks=0){c:Comp}(h:Fb ks c):CD ks [c]=([Ft ks c],0):=by
 rw[JY hk (λd hd=>by rw[List.mem_singleton.1 hd];exact h) (List.pairwise_singleton ..)];show(Ek [Ft ks c],(0:Int))=_
 rw[IQ (List.pairwise_singleton ..)]
theorem M1{ks:List Kind}{c:Comp}(h:Fb ks c):∃k,ks[(Ft ks c).kind.toNat]?=some k/\Br k (Ft ks c).vals=true:=by
 obtain⟨_,_,k,hk,hf⟩:=h;refine⟨k,by rw[Gu];exact hk,?_⟩;rw[Kd hk];exact(Ew hf).1
def GU(l:List Item):Prop:=KS (λit=>it.ent.n) l
theorem GP{l:List Item}(h:GU l){i:Nat}{it:Item}(hi:l[i]?=some it):B0 l it.ent=i:=by
 by_cases hn:B0 l it.ent<0
 ·have:=Ij hn
  rw[List.find?_eq_none]at this;exact absurd (by simp) (this it (List.mem_of_getElem? hi))
 ·obtain⟨n,hn⟩:∃n:Nat,B0 l it.ent=n:=⟨(B0 l it.ent).toNat,by omega⟩
  obtain⟨x,hx,_,e⟩:=Ec hn;rw[hn];have e2:=GH h (List.mem_of_getElem? hx) (List.mem_of_getElem? hi) (by rw[e]);subst e2;obtain⟨a,ha⟩:=List.getElem?_eq_some_iff.1 hx;obtain⟨b,hb⟩:=List.getElem?_eq_some_iff.1 hi;have hp:=List.pairwise_iff_getElem.1 h;rcases Nat.lt_trichotomy n i with q|q|q
  ·have:=hp n i a b q;rw[ha,hb]at this;omega
  ·rw[q]
  ·have:=hp i n b a q;rw[ha,hb]at this;omega
theorem Fg{w:Wd}{i:Nat}{it:Item}(hi:w.items[i]?=some it)(cs:List Comp):Cs w i cs=⟨w.kinds,w.gens,w.items.set i ⟨it.ent,cs⟩⟩:=by
 unfold Cs;rw[hi]
theorem Fe{w:Wd}(h:WdOK w){i:Nat}{it:Item}(hi:w.items[i]?=some it){cs:List Comp}(hc:BY w.kinds cs=true):WdOK (Cs w i cs):=by
 rw[Fg hi];obtain⟨h1,h2⟩:=SI (key:=λit:Item=>it.ent.n) h.so hi (z:=⟨it.ent,cs⟩) rfl;refine⟨h.ks,h.gl,by simpa using h.il,h.gs,h1,λx hx=>?_⟩;rcases(h2 x).1 hx with rfl|⟨hx,_⟩
 ·obtain⟨a,b,c,d,e⟩:=h.it it (List.mem_of_getElem? hi)
  exact⟨a,b,c,d,hc⟩
 ·exact h.it x hx
theorem PN{w:Wd}(h:WdOK w){i:Nat}{it:Item}(hi:w.items[i]?=some it){c:Comp}(hc:Fb w.kinds c):Cp w it.ent c=(Cs w i (EP it.comps (Ft w.kinds c)),0):=by
 unfold Cp;have hf:=GP h.so hi;rw[if_neg (by simp[(Ax w).2 h]),hf,if_neg (by omega),Hu h.ks hc,if_neg (by simp),Int.toNat_natCast,hi]
theorem PM{w:Wd}(h:WdOK w){i:Nat}{it:Item}(hi:w.items[i]?=some it){c:Comp}(hc:Fb w.kinds c):WdOK (Cs w i (EP it.comps (Ft w.kinds c))):=by
 obtain⟨k,hk,hh⟩:=M1 hc;have hit:=h.it it (List.mem_of_getElem? hi);have hcc:=hc;obtain⟨a,b,_⟩:=hcc;exact Fe h hi (Pv hit.2.2.2.2 (by rw[Gu];exact a) (by rw[Gu];exact b) hk hh)
theorem J0{w:Wd}(h:WdOK w){i:Nat}{it:Item}(hi:w.items[i]?=some it)(k:Int):D0 w it.ent k=if(Bl it.comps k).isSome then(Cs w i (ER it.comps k),0)else(⟨[],[],[]⟩,4):=by
 unfold D0;have hf:=GP h.so hi;rw[if_neg (by simp[(Ax w).2 h]),hf,if_neg (by omega),Int.toNat_natCast,hi]
theorem PG{l:List Item}{n:Int}(h:Eo l n=false):∀x∈l,x.ent.n≠n:=by
 unfold Eo at h;rw[List.any_eq_false]at h;intro x hx;simpa using h x hx
theorem Fs{w:Wd}(hw:WdOK w)(h:(BD w).2=true):(BD w).1<=w.gens.length/\(∀x∈w.items,x.ent.n≠((BD w).1:Nat))/\(BD w).1<256/\∀g,w.gens[(BD w).1]?=some g->g<1073741824:=by
 have hg:=hw.gl;unfold BD at h⊢;split at h
 ·rename_i n hn
  unfold Ju at hn;rw[List.find?_eq_some_iff_getElem]at hn;obtain⟨h1,i,h2,h3,h4⟩:=hn;simp only[List.getElem_range]at h3;subst h3;rw[List.length_range]at h2;simp only[Bool.and_eq_true,Bool.not_eq_true',decide_eq_true_eq]at h1;refine⟨by dsimp only;omega,PG h1.1,by dsimp only;omega,λg hgg=>?_⟩;dsimp only at hgg;have:=h1.2;rw[List.getD_eq_getElem?_getD,hgg]at this;exact this
 ·have h:w.gens.length<256:=by dsimp only at h;rw[decide_eq_true_eq]at h;omega
  refine⟨Nat.le_refl _,λx hx=>?_,h,λg hgg=>?_⟩
  ·have:=(hw.it x hx).2.1
   dsimp only;omega
  ·rw[List.getElem?_eq_none (Nat.le_refl _)]at hgg;cases hgg
theorem IV{it:Item}:∀{l:List Item} (x:Item),x∈Gj l it↔x=it\/x∈l
 |[],x=>by simp[Gj]
 |y::l,x=>by
  rw[Gj];split
  ·rw[List.mem_cons,IV,List.mem_cons]
   constructor
   ·rintro(h|h|h)
    ·exact .inr (.inl h)
    ·exact .inl h
    ·exact .inr (.inr h)
   ·rintro(h|h|h)
    ·exact .inr (.inl h)
    ·exact .inl h
    ·exact .inr (.inr h)
  ·rw[List.mem_cons]
theorem Jr{it:Item}:∀{l:List Item},GU l->(∀x∈l,x.ent.n≠it.ent.n)->GU (Gj l it)
 |[],_,_=>List.pairwise_singleton ..
 |y::l,h,hn=>by
  obtain⟨h1,h2⟩:=List.pairwise_cons.1 h;rw[Gj];split
  ·rename_i hy
   refine List.pairwise_cons.2 ⟨λx hx=>?_,Jr h2 λx hx=>hn x (by simp[hx])⟩;rcases(IV x).1 hx with rfl|hx
   ·exact hy
   ·exact h1 x hx
  ·rename_i hy
   have:=hn y (by simp);refine List.pairwise_cons.2 ⟨λx hx=>?_,h⟩;show it.ent.n<x.ent.n
   rcases List.mem_cons.1 hx with rfl|hx
   ·omega
   ·have:y.ent.n<x.ent.n:=h1 x hx
    omega
theorem Pz{gens:List Int}{n:Nat}(h:n<=gens.length):n<(CB gens n).length/\(CB gens n)[n]?=some ((CB gens n).getD n 0)/\gens.length<=(CB gens n).length/\(∀j,j<gens.length->(CB gens n)[j]?=gens[j]?)/\(∀g∈CB gens n,g∈gens\/g=0)/\(CB gens n).length<=max gens.length (n+1):=by
 unfold CB;split
 ·rename_i e
  subst e;refine⟨by simp,by simp[List.getD_eq_getElem?_getD],by simp,λj hj=>List.getElem?_append_left hj,λg hg=>?_,by simp⟩;rcases List.mem_append.1 hg with h|h
  ·exact .inl h
  ·exact .inr (List.mem_singleton.1 h)
 ·refine⟨by omega,?_,Nat.le_refl _,λ_ _=>rfl,λg hg=>.inl hg,by omega⟩
  rw[List.getD_eq_getElem?_getD,List.getElem?_eq_getElem (by omega)];rfl
theorem MZ{w:Wd}(h:WdOK w)(hf:(BD w).2=true){l:List Comp}{cs:List Comp}(hl:CD w.kinds l=(cs,0)):
  Cl w l=(⟨w.kinds,CB w.gens (BD w).1,Gj w.items ⟨⟨(BD w).1,(CB w.gens (BD w).1).getD (BD w).1 0⟩,cs⟩⟩,⟨(BD w).1,(CB w.gens (BD w).1).getD (BD w).1 0⟩,0):=by
 unfold Cl;rw[if_neg (by simp[(Ax w).2 h]),hl,if_neg (by simp),if_neg (by simp[hf])]
theorem H3{w:Wd}(h:WdOK w)(hf:(BD w).2=true){cs:List Comp}(hc:BY w.kinds cs=true):
  WdOK ⟨w.kinds,CB w.gens (BD w).1,Gj w.items ⟨⟨(BD w).1,(CB w.gens (BD w).1).getD (BD w).1 0⟩,cs⟩⟩:=by
 obtain⟨f1,f2,f3,f4⟩:=Fs h hf;obtain⟨n,hn⟩:∃n,(BD w).1=n:=⟨_,rfl⟩;rw[hn]at f1 f2 f3 f4⊢;obtain⟨g1,g2,g3,g4,g5,g6⟩:=Pz f1
 have hgs:∀g∈CB w.gens n,0<=g/\g<=1073741824:=λg hg=>by
  rcases g5 g hg with hg|rfl
  ·exact h.gs g hg
  ·omega
 have hso:GU (Gj w.items ⟨⟨n,(CB w.gens n).getD n 0⟩,cs⟩):=Jr h.so f2
 have hit:∀x∈Gj w.items ⟨⟨n,(CB w.gens n).getD n 0⟩,cs⟩,0<=x.ent.n/\x.ent.n<(CB w.gens n).length/\(CB w.gens n)[x.ent.n.toNat]?=some x.ent.gen/\x.ent.gen≠1073741824/\BY w.kinds x.comps=true:=λx hx=>by
  rcases(IV x).1 hx with rfl|hx
  ·refine⟨by dsimp only;omega,by dsimp only;omega,by dsimp only;rw[Int.toNat_natCast];exact g2,?_,hc⟩
   dsimp only;intro e;rw[e]at g2;by_cases hnl:n<w.gens.length
   ·rw[g4 n hnl]at g2
    have:=f4 _ g2;omega
   ·unfold CB at e
    rw[if_pos (by omega),List.getD_eq_getElem?_getD,show n=w.gens.length by omega]at e;simp at e
  ·obtain⟨a,b,c,d,e⟩:=h.it x hx
   exact⟨a,by omega,by rw[g4 _ (by omega)];exact c,d,e⟩
 refine⟨h.ks,?_,?_,hgs,hso,hit⟩
 ·have:=h.gl
  dsimp only;omega
 ·exact Er (λx:Item=>x.ent.n) _ _ (hso.imp λ{a b} h=>by have h:a.ent.n<b.ent.n:=h;show a.ent.n≠b.ent.n;omega) λx hx=>⟨(hit x hx).1,(hit x hx).2.1⟩
theorem Jq{w:Wd}(h:WdOK w){i:Nat}{it:Item}(hi:w.items[i]?=some it):DI w it.ent=(⟨w.kinds,w.gens.set it.ent.n.toNat (w.gens.getD it.ent.n.toNat 0+1),w.items.eraseIdx i⟩,0):=by
 unfold DI;have hf:=GP h.so hi;rw[if_neg (by simp[(Ax w).2 h]),hf,if_neg (by omega),Int.toNat_natCast]
theorem Nm{w:Wd}(h:WdOK w){i:Nat}{it:Item}(hi:w.items[i]?=some it):WdOK ⟨w.kinds,w.gens.set it.ent.n.toNat (w.gens.getD it.ent.n.toNat 0+1),w.items.eraseIdx i⟩:=by
 obtain⟨h1,h2⟩:=Pi (key:=λx:Item=>x.ent.n) h.so hi;obtain⟨a,b,c,d,e⟩:=h.it it (List.mem_of_getElem? hi);have hg:=h.gs it.ent.gen (List.mem_of_getElem? c);have hgd:w.gens.getD it.ent.n.toNat 0=it.ent.gen:=by rw[List.getD_eq_getElem?_getD,c];rfl
 refine⟨h.ks,by simpa using h.gl,?_,λg hgm=>?_,h1,λx hx=>?_⟩
 ·have:=h.il
  have:=List.length_eraseIdx_le w.items i;simp only[List.length_set];omega
 ·rcases List.mem_or_eq_of_mem_set hgm with hgm|rfl
  ·exact h.gs g hgm
  ·rw[hgd];omega
 ·obtain⟨hx,hn⟩:=(h2 x).1 hx
  obtain⟨a',b',c',d',e'⟩:=h.it x hx;exact⟨a',by simpa using b',by rw[List.getElem?_set_ne (by omega)];exact c',d',e'⟩
theorem JX{ks:List Kind}{c:Comp}(h:(CD ks [c]).2=0):∃d,(CD ks [c]).1=[d]/\d.kind=c.kind/\0<=c.kind/\c.kind<ks.length:=by
 unfold CD at h⊢;split at h
 ·exact absurd h ‹_›
 ·rename_i h1
  rw[if_neg h1];split at h
  ·exact absurd h ‹_›
  ·rename_i h2
   rw[if_neg h2];have h2:(CH ks [] [] [c]).2=0:=by simpa using h2
   rw[CH]at h2⊢;split at h2
   ·cases h2
   ·rename_i g1
    rw[if_neg g1];rw[if_neg (by simp)]at h2⊢;split at h2
    ·cases h2
    ·rename_i k hk
     split at h2
     ·exact absurd h2 ‹_›
     ·rename_i g3
      (try simp only[hk])
      rw[if_neg g3,CH];refine⟨⟨c.kind,(BQ k c.vals).1⟩,?_,rfl,by omega,by omega⟩;show Ek [_]=_
      exact IQ (List.pairwise_singleton ..)
theorem Fm{ks:List Kind}(hk:A6 ks=0){l:List Comp}(h:BY ks l=true):l.length<=16/\∀c∈l,c.vals.length<=8:=by
 obtain⟨hs,hm⟩:=held_iff.1 h;obtain⟨h16,ho⟩:=BL hk;refine⟨Nat.le_trans (Er Comp.kind _ _ (hs.imp λh=>by omega) λc hc=>⟨(hm c hc).1,(hm c hc).2.1⟩) h16,λc hc=>?_⟩;obtain⟨_,_,k,hk2,hh⟩:=hm c hc;have h8:=(Ce (ho k (List.mem_of_getElem? hk2))).2.1;have:=Ew (k:=k) (v:=c.vals) (by rw[Gp hh]);omega
theorem WdOK.wl{w:Wd}(h:WdOK w):WdL w:=by
 obtain⟨h16,ho⟩:=BL h.ks;refine⟨⟨by omega,λk hk=>by have:=(Ce (ho k hk)).2.1;omega⟩,by have:=h.gl;omega,by have:=h.gl;have:=h.il;omega,λit hit=>?_⟩;obtain⟨h1,h2⟩:=Fm h.ks (h.it it hit).2.2.2.2;exact⟨by omega,λc hc=>by have:=h2 c hc;omega⟩
theorem Ka(l:List Int):0<(AW l).1.length:=by
 have h:=Ac l (n:=4) (by decide)
 have:∀i c q,(An i c q).1.length=c:=by
  intro i c
  induction c generalizing i with
  |zero=>intro q;rfl
  |succ c ih=>intro q;simp only[An,List.length_cons,ih]
 unfold AW;rw[this];omega
theorem Ns{d:Comp}:∀{l:List Comp},CZ l->EP l d=if(Bl l d.kind).isSome then l.set (C7 l d.kind) d else l.take (C7 l d.kind)++d::l.drop (C7 l d.kind)
 |[],_=>rfl
 |x::l,h=>by
  obtain⟨h1,h2⟩:=List.pairwise_cons.1 h;have ih:=Ns (d:=d) h2
  have ec:Bl (x::l) d.kind=if x.kind=d.kind then some x else Bl l d.kind:=by
   unfold Bl;rw[List.find?_cons];by_cases e:x.kind=d.kind<;>simp[e]
  have ea:C7 (x::l) d.kind=if x.kind<d.kind then C7 l d.kind+1 else 0:=by
   unfold C7;rw[List.takeWhile_cons];by_cases e:x.kind<d.kind<;>simp[e]
  rw[EP,ec,ea];by_cases e1:x.kind<d.kind
  ·have e3:¬x.kind=d.kind:=by omega
   rw[if_pos e1,if_pos e1,if_neg e3,ih];split<;>simp
  ·rw[if_neg e1,if_neg e1]
   by_cases e2:x.kind=d.kind
   ·rw[if_pos e2,if_pos e2];rfl
   ·rw[if_neg e2,if_neg e2,Gz (λc hc=>by have:=h1 c hc;omega)];rfl
theorem Lw{k:Int}:∀{l:List Comp},CZ l->(Bl l k).isSome=true->ER l k=l.eraseIdx (C7 l k)
 |[],_,hn=>by cases hn
 |x::l,h,hn=>by
  obtain⟨h1,h2⟩:=List.pairwise_cons.1 h
  have ec:Bl (x::l) k=if x.kind=k then some x else Bl l k:=by
   unfold Bl;rw[List.find?_cons];by_cases e:x.kind=k<;>simp[e]
  have ea:C7 (x::l) k=if x.kind<k then C7 l k+1 else 0:=by
   unfold C7;rw[List.takeWhile_cons];by_cases e:x.kind<k<;>simp[e]
  have ed:ER (x::l) k=if x.kind=k then ER l k else x::ER l k:=by
   unfold ER;rw[List.filter_cons];by_cases e:x.kind=k<;>simp[e]
  rw[ec]at hn;rw[ea,ed];by_cases e2:x.kind=k
  ·have e3:¬x.kind<k:=by omega
   rw[if_pos e2,if_neg e3];show ER l k=l
   unfold ER;rw[List.filter_eq_self];intro c hc;have:=h1 c hc;simp;omega
  ·rw[if_neg e2]at hn
   by_cases e1:x.kind<k
   ·rw[if_neg e2,if_pos e1,Lw h2 hn];rfl
   ·rw[Gz (λc hc=>by have:=h1 c hc;omega)]at hn;cases hn
end
def EH{α:Type}(f:α->AV)(z:AV)(l:List α)(i:Nat):List AV:=(l.take i).map f++List.replicate (l.length-i) z
theorem Lp{α:Type}(f:α->AV)(z:AV)(l:List α):EH f z l 0=List.replicate l.length z:=by simp[EH]
theorem Oo{α:Type}(f:α->AV)(z:AV)(l:List α){i:Nat}(h:i<l.length):(EH f z l i)[i]?=some z:=by
 unfold EH;rw[List.getElem?_append_right (by simp;omega)];simp only[List.length_map,List.length_take,Nat.min_eq_left (Nat.le_of_lt h),Nat.sub_self];rw[List.getElem?_replicate,if_pos (by omega)]
theorem M2{α:Type}(f:α->AV)(z:AV)(l:List α){i:Nat}(h:i<l.length):(EH f z l i).set i (f l[i])=EH f z l (i+1):=by
 unfold EH;rw[List.set_append_right _ _ (by simp;omega),List.take_add_one,List.getElem?_eq_getElem h];simp only[List.length_map,List.length_take,Nat.min_eq_left (Nat.le_of_lt h),Nat.sub_self,Option.toList_some,List.map_append,List.map_cons,List.map_nil,List.append_assoc]
 congr 1
 rw[show l.length-i=(l.length-(i+1))+1 from by omega,List.replicate_succ];rfl
theorem M3{α:Type}(f:α->AV)(z:AV)(l:List α){i:Nat}(h:l.length<=i):EH f z l i=l.map f:=by
 unfold EH;rw[List.take_of_length_le h,show l.length-i=0 from by omega];simp
theorem GS(l:List Comp)(hl:l.length<=1099511627776)(hv:∀c∈l,c.vals.length<=1099511627776):PS Tryz.prog 59 [Aj false false l] (Aj true false l):=by
 refine Spec.of (nt:=27) (res:=[.tmp 2]) Tryz.func59 rfl (by kernel_rfl) rfl rfl rfl λSf=>?_
 have hl':(l.map (AD false)).length<=1099511627776:=by simpa using hl
 (repeat first|(refine AOps.gN ?_;first|(refine DW ?_;refine E3 (.agg [iA 0,.prim (.slice none 0 0)]) λK=>?_))|refine WK ?_|refine Ai λX=>?_|refine Ay λY=>?_);refine BP (λi:Nat=>⟨[(3,.sl K 0 (l.map (AD false)).length),(9,Aj false false l),(10,iA (l.map (AD false)).length),(11,iA i)],(K,.row 42 2 (EH (AD false) (.agg [iA 0,.prim (.slice none 0 0)]) l i))::Sf⟩) (λi=>i<=l.length) (λi=>l.length-i) 0 (Nat.zero_le _) ?_ ⟨by(repeat (first|exact .nil|refine .cons (by first|rfl|assumption) ?_)),by rw[Lp,<-List.length_map (f:=AD false)];exact Sub.f⟩;rintro i hi;(repeat first|refine WK ?_|refine Ai λX=>?_|refine Ay λY=>?_);refine AWP.cond rfl (λhc=>?_) (λhc=>?_)
 ·have h:i<l.length:=by simpa using hc
  have hm:i<(l.map (AD false)).length:=by simpa using h
  have hat:=Oo (AD false) (.agg [iA 0,.prim (.slice none 0 0)]) l h;(repeat first|refine WK ?_|refine Ai λX=>?_|refine Ay λY=>?_);refine RU ?_;(repeat first|(refine RGo.gN ?_;first|(refine RGo.g_callf ?_;first|refine RGo.c1 (h:=(ET _ (by have:=hv _ (List.getElem_mem h);omega))) (k:=?_)))|(refine RGo.gQ ?_;first|(refine RGo.g_callf ?_;first|refine RGo.c1 (h:=(ET _ (by have:=hv _ (List.getElem_mem h);omega))) (k:=?_)))|refine RK ?_|refine RGo.nil (by kernel_rfl) ?_);(repeat first|refine WK ?_|refine Ai λX=>?_|refine Ay λY=>?_);have hs:=M2 (AD false) (.agg [iA 0,.prim (.slice none 0 0)]) l h;refine Pf (i+1) h ?_;dsimp only;rw[<-hs];exact Sub.f
 ·have h:l.length<=i:=by rw[decide_eq_false_iff_not,List.length_map]at hc;omega
  rw[M3 _ _ _ h];(repeat first|refine WK ?_|refine Ai λX=>?_|refine Ay λY=>?_);refine RT ?_;exact⟨[.sl K 0 (l.map (AD false)).length],[.lst true 42 2 (l.map (AD false))],_,[],.cons (.tmp rfl) rfl .nil,.cons (.cell (.sl (p:=0) .here rfl)) .nil,by exact Sub.f,rfl,rfl⟩
section
open Go.Sort
theorem Af{α:Type}[Inhabited α](f:α->AV){d:Array α}{i:Nat}(h:i<d.size):(d.toList.map f)[i]?=some (f d[i]!):=by
 rw[List.getElem?_map,List.getElem?_eq_getElem (by simpa using h)];simp[getElem!_pos d i h]
theorem CE{α:Type}[Inhabited α](f:α->AV){d:Array α}{i j:Nat}(hi:i<d.size)(hj:j<d.size):((d.toList.map f).set i (f d[j]!)).set j (f d[i]!)=(swp d i j).toList.map f:=by
 unfold swp;simp[Array.toList_setIfInBounds,List.map_set]
theorem Bp{α:Type}[Inhabited α](f:α->AV){d:Array α}{i j:Nat}(hj:j<d.size)(x:α):∃y,((d.toList.map f).set i (f x))[j]?=some (f y):=by
 by_cases e:i=j
 ·subst e;exact⟨x,List.getElem?_set_self (by simpa using hj)⟩
 ·exact⟨d[j]!,by rw[List.getElem?_set_ne e];exact Af f hj⟩
def AI{α:Type}(cf:α->α->Int)(x y:α):Bool:=decide (cf x y<0)
instance:Inhabited Comp:=⟨⟨0,[]⟩⟩
instance:Inhabited Item:=⟨⟨⟨0,0⟩,[]⟩⟩
theorem EN{α:Type}[Inhabited α](lt:α->α->Bool)(d:Array α)(a b s:Nat):(order2 lt d a b s).2.2<=s+1:=by
 unfold order2;split<;>simp
theorem Gd{α:Type}[Inhabited α](lt:α->α->Bool)(d:Array α)(a b s m:Nat)(ha:a<m)(hb:b<m):(order2 lt d a b s).1<m/\(order2 lt d a b s).2.1<m:=by
 unfold order2;split<;>exact⟨by assumption,by assumption⟩
theorem Ge{α:Type}[Inhabited α](lt:α->α->Bool)(d:Array α)(a b c s:Nat):(median lt d a b c s).2<=s+3:=by
 have e1:=EN lt d a b s;have e2:=EN lt d (order2 lt d a b s).2.1 c (order2 lt d a b s).2.2;have e3:=EN lt d (order2 lt d a b s).1 (order2 lt d (order2 lt d a b s).2.1 c (order2 lt d a b s).2.2).1 (order2 lt d (order2 lt d a b s).2.1 c (order2 lt d a b s).2.2).2.2;unfold median;dsimp only;omega
theorem Gf{α:Type}[Inhabited α](lt:α->α->Bool)(d:Array α)(a s m:Nat)(h:a+1<m):(medianAdjacent lt d a s).1<m:=by
 rcases medianAdjacent_mem lt d a s with e|e|e<;>omega
def R5:Hint->Int
 |.unknown=>0
 |.increasing=>1
 |.decreasing=>2
end
section
open Go.Sort
def lenTab:List UInt8:=(List.range 256).map λn=>UInt8.ofNat (if n=0 then 0 else Nat.log2 n+1)
theorem OZ{n:Nat}(h:n<256):((lenTab.getD n 0).toNat:Int)=bitsLen n:=by
 have h1:lenTab.getD n 0=UInt8.ofNat (bitsLen n):=by
  unfold lenTab;rw[List.getD_eq_getElem?_getD,List.getElem?_map,List.getElem?_range h];rfl
 have h2:bitsLen n<=8:=(bitsLen_le_iff n 8).2 (by omega);rw[h1,UInt8.toNat_ofNat'];omega
theorem Mq:lenTab.length=256:=by simp[lenTab]
theorem I1{x:Nat}(h:256<=x):bitsLen (x/256)+8=bitsLen x:=by
 have a:=(bitsLen_le_iff (x/256) (bitsLen x-8)).2 (by
  have h1:=lt_two_pow_bitsLen x
  have h2:8<bitsLen x:=by
   have:=(bitsLen_le_iff x 8);omega
  have h3:2^bitsLen x=2^(bitsLen x-8)*256:=by rw[show(256:Nat)=2^8 from rfl,<-Nat.pow_add];congr 1;omega
  omega)
 have b:=(bitsLen_le_iff x (bitsLen (x/256)+8)).2 (by
  have h1:=lt_two_pow_bitsLen (x/256);rw[Nat.pow_add];omega)
 have h2:8<bitsLen x:=by
  have:=(bitsLen_le_iff x 8);omega
 omega
set_option maxRecDepth 100000 in
theorem Pg(x:UInt64)(hx:x.toNat<65536):PS Tryz.prog 221 [uA x] (iA (bitsLen x.toNat)):=by
 refine Spec.of (nt:=25) (res:=[.tmp 2]) Tryz.func221 rfl (by kernel_rfl) rfl rfl rfl λSf=>?_
 (repeat first|refine WK ?_|refine Ai λX=>?_|refine Ay λY=>?_);refine AE rfl (decide_eq_false (by omega)) ?_;(repeat first|refine WK ?_|refine Ai λX=>?_|refine Ay λY=>?_);refine AE rfl (decide_eq_false (by omega)) ?_;(repeat first|refine WK ?_|refine Ai λX=>?_|refine Ay λY=>?_);refine BG (λb:UInt64×Nat=>b.1.toNat<256/\bitsLen b.1.toNat+b.2=bitsLen x.toNat/\b.2<=8) (λb=>⟨[(0,uA b.1),(2,iA b.2)],Sf⟩) ?_ ?_
 ·refine AWP.cond rfl (λh=>?_) (λh=>?_)
  ·have h:256<=x.toNat:=by have:=of_decide_eq_true h;omega
   have hs:(x>>>UInt64.ofNat 8).toNat=x.toNat/256:=by
    rw[UInt64.toNat_shiftRight,UInt64.toNat_ofNat',show 8%2^64%64=8 from rfl,Nat.shiftRight_eq_div_pow]
   (repeat first|(refine AOps.gN ?_;first|refine AOps.p (NQ 8 (by omega) rfl rfl rfl) rfl ?_)|refine WK ?_|refine Ai λX=>?_|refine Ay λY=>?_);refine jn (x>>>UInt64.ofNat 8,8) ⟨by dsimp only;omega,?_,by(try dsimp only);omega⟩;dsimp only;rw[hs];exact I1 h
  ·have h:¬256<=x.toNat:=by have:=of_decide_eq_false h;omega
   (repeat first|refine WK ?_|refine Ai λX=>?_|refine Ay λY=>?_);exact jn (x,0) ⟨by dsimp only;omega,rfl,by(try dsimp only);omega⟩
 ·rintro⟨u,m⟩ ⟨h1,h2,h3⟩
  dsimp only at h1 h2 h3⊢;have hw:IntKind.u8.wrap ((u.toNat:Nat):Int)=((u.toNat:Nat):Int):=by rw[IntKind.wrap_u8'];omega
  have hat:=OZ h1;have hb8:bitsLen u.toNat<=8:=(bitsLen_le_iff _ 8).2 (by omega);have hw2:IntKind.i64.wrap ((lenTab.getD u.toNat 0).toNat:Int)=((bitsLen u.toNat:Nat):Int):=by rw[hat];exact DM (by omega) (by omega)
  (repeat first|(refine AOps.gN ?_;first|refine AOps.p (W.convW .u64 .u8 _ (by kernel_rfl) (by kernel_rfl) hw rfl) rfl ?_|refine AOps.p (W.idxStr (s:=lenTab) (a:=u.toNat) (by kernel_rfl) rfl rfl (by rw[Mq];exact h1)) rfl ?_|refine AOps.p (W.convW .u8 .i64 _ (by kernel_rfl) (by kernel_rfl) hw2 rfl) rfl ?_|refine AOps.p (Ap ((bitsLen x.toNat:Nat):Int) (by omega) (by omega) rfl rfl) rfl ?_)|refine WK ?_|refine Ai λX=>?_|refine Ay λY=>?_);refine RT ?_;refine AN ?_;rfl
theorem Mp(x:UInt64)(hx:x.toNat<65536):PS Tryz.prog 158 [uA x] (iA (bitsLen x.toNat)):=by
 have h:=Pg x hx;refine Spec.of (nt:=8) (res:=[.tmp 2]) Tryz.func158 rfl (by kernel_rfl) rfl rfl rfl λSf=>?_
 (repeat first|refine WK ?_|refine Ai λX=>?_|refine Ay λY=>?_);refine AE rfl rfl ?_;(repeat first|(refine AOps.gN ?_;first|(refine AOps.g_callf ?_;first|refine AOps.c1 (h:=(h ..)) (k:=?_)))|refine WK ?_|refine Ai λX=>?_|refine Ay λY=>?_);refine RT ?_;refine AN ?_;rfl
theorem Mm(n:Nat)(hn:n<65536):PS Tryz.prog 263 [iA n] (uA ((1:UInt64)<<<UInt64.ofNat (bitsLen n))):=by
 have e:(UInt64.ofNat n).toNat=n:=by rw[UInt64.toNat_ofNat'];omega
 have h:=Mp (UInt64.ofNat n) (by rw[e];exact hn);rw[e]at h;have hb:bitsLen n<=16:=(bitsLen_le_iff n 16).2 (by omega);refine Spec.of (nt:=7) (res:=[.tmp 2]) Tryz.func263 rfl (by kernel_rfl) rfl rfl rfl λSf=>?_
 (repeat first|(refine AOps.gN ?_;first|(refine AOps.g_callf ?_;first|refine AOps.c1 (h:=(h ..)) (k:=?_))|refine AOps.p (Kl .i64 n rfl (by omega) (by kernel_rfl) (by kernel_rfl) rfl) rfl ?_|refine AOps.p (I4 (a:=1) (bitsLen n) (by omega) rfl rfl rfl) rfl ?_)|refine WK ?_|refine Ai λX=>?_|refine Ay λY=>?_);refine RT ?_;refine AN ?_;rfl
theorem MO(Y:Nat)(s:UInt64):Spec Tryz.prog 264 [.ptr Y 0 0] [(Y,.row 355 1 [uA s])] λr S'=>∃v:UInt64,True/\r=uA v/\S'=[(Y,.row 355 1 [uA v])]:=by
 refine Spec.of (nt:=33) (res:=[.tmp 2]) Tryz.func264 rfl (by kernel_rfl) rfl rfl rfl λSf=>?_
 refine RG ?_;(repeat first|refine WO ?_|refine Ai λX=>?_|refine Ay λY=>?_);refine NL ?_;refine RU ?_;(repeat first|(refine RGo.gN ?_;first|refine RGo.p (I4 13 (by omega) rfl rfl rfl) rfl ?_|refine RGo.p (G6 rfl rfl) rfl ?_)|(refine RGo.gQ ?_;first|refine RGo.p (I4 13 (by omega) rfl rfl rfl) rfl ?_|refine RGo.p (G6 rfl rfl) rfl ?_)|refine RK ?_|refine RGo.nil (by kernel_rfl) ?_);(repeat refine WF ?_);refine RU ?_;(repeat first|(refine RGo.gN ?_;first|refine RGo.p (NQ 7 (by omega) rfl rfl rfl) rfl ?_|refine RGo.p (G6 rfl rfl) rfl ?_)|(refine RGo.gQ ?_;first|refine RGo.p (NQ 7 (by omega) rfl rfl rfl) rfl ?_|refine RGo.p (G6 rfl rfl) rfl ?_)|refine RK ?_|refine RGo.nil (by kernel_rfl) ?_);(repeat refine WF ?_);refine RU ?_;(repeat first|(refine RGo.gN ?_;first|refine RGo.p (I4 17 (by omega) rfl rfl rfl) rfl ?_|refine RGo.p (G6 rfl rfl) rfl ?_)|(refine RGo.gQ ?_;first|refine RGo.p (I4 17 (by omega) rfl rfl rfl) rfl ?_|refine RGo.p (G6 rfl rfl) rfl ?_)|refine RK ?_|refine RGo.nil (by kernel_rfl) ?_);(repeat first|refine WK ?_|refine Ai λX=>?_|refine Ay λY=>?_);refine RT ?_;exact AS [uA _] [(Y,_)] ⟨_,trivial,rfl,rfl⟩
end
section
open Go.Sort
def dU(hi lo:UInt64):UInt64:=(hi<<<UInt64.ofNat 47)|||(lo>>>UInt64.ofNat 17)
def dL(lo:UInt64):UInt64:=lo<<<UInt64.ofNat 47
def dR(hi lo:UInt64):UInt64:=dU hi lo*4294967296+(dL lo>>>UInt64.ofNat 32)-dU hi lo/2147483648*9223372036854775808
end
structure Cmd where
 act:Int
 ent:Ent
 kind:Int
 comps:List Comp
def Ca(c:Cmd):AV:=.agg [iA c.act,iA c.ent.n,iA c.ent.gen,iA c.kind,Aj false false c.comps]
instance {c:Cmd}:Frz (Ca c) (Ca c):=⟨by unfold Ca;exact Frz.h⟩
def CS(ks:List Kind)(c:Cmd):List Comp×Int:=
 if c.act=0 then(if c.comps.length=1 then CD ks c.comps else([],3))else
 if c.act=1 then(if c.kind<0\/(ks.length:Int)<=c.kind then([],1)else([],0))else
 if c.act=2 then([],0)else if c.act=3 then CD ks c.comps else([],1)
def DO(ks:List Kind):List Cmd->Int
 |[]=>0
 |c::l=>if(CS ks c).2=0 then DO ks l else(CS ks c).2
def Fw(w:Wd)(l:List Cmd):Int:=if Cb w≠0 then Cb w else if 131072<l.length then 2 else DO w.kinds l
theorem HQ{ks:List Kind}:∀{l:List Cmd},DO ks l=0↔∀c∈l,(CS ks c).2=0
 |[]=>by simp[DO]
 |c::l=>by
  rw[DO];split
  ·rename_i h
   rw[HQ,List.forall_mem_cons];exact⟨λg=>⟨h,g⟩,λg=>g.2⟩
  ·rename_i h
   rw[List.forall_mem_cons];exact⟨λg=>absurd g h,λg=>absurd g.1 h⟩
theorem cmdErr_iff{w:Wd}{l:List Cmd}:Fw w l=0↔WdOK w/\l.length<=131072/\∀c∈l,(CS w.kinds c).2=0:=by
 unfold Fw;split
 ·rename_i h
  exact⟨λe=>absurd e h,λe=>absurd ((Ax w).2 e.1) h⟩
 ·rename_i h
  have h:Cb w=0:=Decidable.not_not.1 h;split
  ·rename_i h2
   exact⟨λe=>(by cases e),λe=>(by omega)⟩
  ·rename_i h2
   rw[HQ];exact⟨λe=>⟨(Ax w).1 h,by omega,e⟩,λe=>e.2.2⟩
def D4(w v:Wd)(e:Int):Wd:=if e=0 then v else w
def D3(w:Wd)(c:Cmd):Wd×Ent×Bool:=
 if c.act=0 then(D4 w (Cp w c.ent (c.comps.getD 0 ⟨0,[]⟩)).1 (Cp w c.ent (c.comps.getD 0 ⟨0,[]⟩)).2,⟨0,0⟩,decide ((Cp w c.ent (c.comps.getD 0 ⟨0,[]⟩)).2=0))else
 if c.act=1 then(D4 w (D0 w c.ent c.kind).1 (D0 w c.ent c.kind).2,⟨0,0⟩,decide ((D0 w c.ent c.kind).2=0))else
 if c.act=2 then(D4 w (DI w c.ent).1 (DI w c.ent).2,⟨0,0⟩,decide ((DI w c.ent).2=0))else
 (D4 w (Cl w c.comps).1 (Cl w c.comps).2.2,(Cl w c.comps).2.1,decide ((Cl w c.comps).2.2=0))
def C2:Wd->List Cmd->Wd×List Ent×List Bool
 |w,[]=>(w,[],[])
 |w,c::l=>((C2 (D3 w c).1 l).1,(if(D3 w c).2.2=true/\c.act=3 then(D3 w c).2.1::(C2 (D3 w c).1 l).2.1 else(C2 (D3 w c).1 l).2.1),(D3 w c).2.2::(C2 (D3 w c).1 l).2.2)
theorem JZ{ks:List Kind}{c:Comp}(hk:A6 ks=0)(h:(CD ks [c]).2=0):Fb ks c:=by
 unfold CD at h;rw[if_neg (by simp[hk])]at h;split at h
 ·rename_i h1;exact absurd h h1
 ·rename_i h1
  have h1:(CH ks [] [] [c]).2=0:=Decidable.not_not.1 h1;rw[CH]at h1;split at h1
  ·cases h1
  ·rename_i g1
   rw[if_neg (by simp)]at h1;split at h1
   ·cases h1
   ·rename_i k hk2
    split at h1
    ·rename_i g2;exact absurd h1 g2
    ·rename_i g2
     exact⟨by omega,by omega,k,hk2,Decidable.not_not.1 g2⟩
theorem Ih{ks:List Kind}:∀{l pre out:List Comp},(CH ks pre out l).2=0->(∀a∈out,∃k,ks[a.kind.toNat]?=some k/\Br k a.vals=true)->∀a∈(CH ks pre out l).1,∃k,ks[a.kind.toNat]?=some k/\Br k a.vals=true
 |[],pre,out,h,h1=>h1
 |c::l,pre,out,h,h1=>by
  rw[CH]at h⊢;split at h
  ·cases h
  ·rename_i g1
   rw[if_neg g1];split at h
   ·cases h
   ·rename_i g2
    rw[if_neg g2];split at h
    ·cases h
    ·rename_i k hk
     split at h
     ·rename_i g3;exact absurd h g3
     ·rename_i g3
      (try simp only[hk])
      rw[if_neg g3];refine Ih h λa ha=>?_
      rcases List.mem_append.1 ha with ha|ha
      ·exact h1 a ha
      ·rw[List.mem_singleton.1 ha]
       exact⟨k,hk,(Ew (Decidable.not_not.1 g3)).1⟩
theorem HD{ks:List Kind}{l:List Comp}(h:(CD ks l).2=0):BY ks (CD ks l).1=true:=by
 unfold CD at h⊢;split at h
 ·rename_i h1;exact absurd h h1
 ·rename_i h1
  rw[if_neg h1];split at h
  ·rename_i h2;exact absurd h h2
  ·rename_i h2
   rw[if_neg h2];have h2:(CH ks [] [] l).2=0:=Decidable.not_not.1 h2;obtain⟨p1,p2⟩:=Ig h2 (λ_ h=>by cases h) .nil (λ_ h=>by cases h);have p3:=Ih h2 (λ_ h=>by cases h);refine held_iff.2 ⟨KX p1,λc hc=>?_⟩;have hc:=(EY _).mem_iff.1 hc;exact⟨(p2 c hc).1,(p2 c hc).2,p3 c hc⟩
theorem Ny{w:Wd}(hw:WdOK w){c:Cmd}(hc:(CS w.kinds c).2=0):WdOK (D3 w c).1/\(D3 w c).1.kinds=w.kinds:=by
 have hs:∀v e,(e=0->WdOK v/\v.kinds=w.kinds)->WdOK (D4 w v e)/\(D4 w v e).kinds=w.kinds:=λv e h=>by
  unfold D4;split
  ·rename_i h1;exact h h1
  ·exact⟨hw,rfl⟩
 have hf:∀e,(B0 w.items e<0)\/∃(i:Nat) (it:Item),w.items[i]?=some it/\it.ent=e:=λe=>by
  by_cases hlt:B0 w.items e<0
  ·exact .inl hlt
  ·obtain⟨m,hm⟩:∃m:Nat,B0 w.items e=m:=⟨(B0 w.items e).toNat,by omega⟩
   obtain⟨x,hx,_,rfl⟩:=Ec hm;exact .inr ⟨m,x,hx,rfl⟩
 unfold D3;unfold CS at hc;split
 ·rename_i h1
  rw[if_pos h1]at hc;split at hc
  ·rename_i h2
   obtain⟨d,hd⟩:=List.length_eq_one_iff.1 h2;rw[hd]at hc⊢;refine hs _ _ λhe=>?_
   rcases hf c.ent with h|⟨i,it,hi,rfl'⟩
   ·exfalso
    replace he:(Cp w c.ent d).2=0:=he;unfold Cp at he;rw[if_neg (by simp[(Ax w).2 hw]),if_pos h]at he;cases he
   ·rw[<-rfl']
    have hfo:=JZ hw.ks hc;show WdOK (Cp w it.ent d).1/\(Cp w it.ent d).1.kinds=_
    rw[PN hw hi hfo];exact⟨PM hw hi hfo,rfl⟩
  ·cases hc
 ·rename_i h1
  rw[if_neg h1]at hc;split
  ·rename_i h2
   refine hs _ _ λhe=>?_
   rcases hf c.ent with h|⟨i,it,hi,rfl'⟩
   ·exfalso
    unfold D0 at he;rw[if_neg (by simp[(Ax w).2 hw]),if_pos h]at he;cases he
   ·rw[<-rfl']at he⊢
    rw[J0 hw hi]at he⊢;split at he
    ·rename_i h3
     rw[if_pos h3];exact⟨Fe hw hi (Jt (hw.it it (List.mem_of_getElem? hi)).2.2.2.2),rfl⟩
    ·cases he
  ·rename_i h2
   rw[if_neg h2]at hc;split
   ·rename_i h3
    refine hs _ _ λhe=>?_
    rcases hf c.ent with h|⟨i,it,hi,rfl'⟩
    ·exfalso
     unfold DI at he;rw[if_neg (by simp[(Ax w).2 hw]),if_pos h]at he;cases he
    ·rw[<-rfl']at he⊢
     rw[Jq hw hi];exact⟨Nm hw hi,rfl⟩
   ·rename_i h3
    rw[if_neg h3]at hc;split at hc
    ·refine hs _ _ λhe=>?_
     obtain⟨cs,hcs⟩:∃cs,CD w.kinds c.comps=(cs,0):=⟨(CD w.kinds c.comps).1,Prod.ext rfl hc⟩;have hh:=HD hc;rw[hcs]at hh;cases hfr:(BD w).2 with
     |true=>
      rw[MZ hw hfr hcs];exact⟨H3 hw hfr hh,rfl⟩
     |false=>
      exfalso;unfold Cl at he;rw[if_neg (by simp[(Ax w).2 hw]),if_neg (by simp[hc]),if_pos hfr]at he;cases he
    ·cases hc
theorem Na:∀{l:List Cmd} {w:Wd},WdOK w->(∀c∈l,(CS w.kinds c).2=0)->WdOK (C2 w l).1/\(C2 w l).1.kinds=w.kinds
 |[],w,hw,_=>⟨hw,rfl⟩
 |c::l,w,hw,hc=>by
  obtain⟨h1,h2⟩:=Ny hw (hc c (by simp));obtain⟨h3,h4⟩:=Na (l:=l) h1 λd hd=>by rw[h2];exact hc d (by simp[hd])
  exact⟨h3,h4.trans h2⟩
structure Mark where
 n:Int
 kind:Int
 tick:Int
deriving DecidableEq,Inhabited
def BM(l:List Item)(n:Int):Item:=(l.find? λit=>decide (it.ent.n=n)).getD ⟨⟨-1,0⟩,[]⟩
def Bo(it:Item)(k:Int):List Comp:=match it.comps.find? λc=>decide (c.kind=k)with
 |some c=>[c]
 |none=>[]
def Em(a b:Item)(k:Int):Bool:=decide ((Bo a k).length≠(Bo b k).length)||(decide ((Bo a k).length=1)&&(decide (a.ent≠b.ent)||decide (Bo a k≠Bo b k)))
def FT(a b:Item)(n:Int)(i:Nat):List Mark:=((List.range i).filter λ(k:Nat)=>Em a b k).map λ(k:Nat)=>⟨n,k,0⟩
def DD(a b:Item)(n:Int):List Mark:=(if a.ent≠b.ent then[(⟨n,-1,0⟩:Mark)]else[])++FT a b n 16
def CY(a b:List Item)(i:Nat):List Mark:=(List.range i).flatMap λ(n:Nat)=>DD (BM a n) (BM b n) n
def Cq(a b:Wd):Nat:=max a.gens.length b.gens.length
def Ey(a b:Wd):List Mark:=CY a.items b.items (Cq a b)
theorem chg_mem{a b:List Item}{i:Nat}{m:Mark}:m∈CY a b i↔∃n:Nat,n<i/\m∈DD (BM a n) (BM b n) n:=by
 unfold CY;rw[List.mem_flatMap];constructor
 ·rintro⟨n,hn,hm⟩
  exact⟨n,List.mem_range.1 hn,hm⟩
 ·rintro⟨n,hn,hm⟩
  exact⟨n,List.mem_range.2 hn,hm⟩
theorem slotM_mem{a b:Item}{n:Int}{m:Mark}:m∈DD a b n↔m.n=n/\m.tick=0/\((m.kind= -1/\a.ent≠b.ent)\/∃k:Nat,k<16/\m.kind=k/\Em a b k=true):=by
 obtain⟨mn,mk,mt⟩:=m;unfold DD FT;rw[List.mem_append,List.mem_map];constructor
 ·rintro(h|⟨k,hk,h⟩)
  ·split at h
   ·rename_i hne
    rw[List.mem_singleton]at h;injection h with h1 h2 h3
    exact⟨h1,h3,.inl ⟨h2,hne⟩⟩
   ·cases h
  ·obtain⟨h1,h2⟩:=List.mem_filter.1 hk
   injection h with h3 h4 h5
   exact⟨h3.symm,h5.symm,.inr ⟨k,List.mem_range.1 h1,h4.symm,h2⟩⟩
 ·rintro⟨h1,h2,⟨h3,h4⟩|⟨k,h3,h4,h5⟩⟩
  ·dsimp only at h1 h2 h3
   subst h1 h2 h3;exact .inl (by rw[if_pos h4];simp)
  ·dsimp only at h1 h2 h4
   subst h1 h2 h4;exact .inr ⟨k,List.mem_filter.2 ⟨List.mem_range.2 h3,h5⟩,rfl⟩
theorem O2{a b:List Item}{i n:Nat}(hn:n<i):(CY a b i).any (λm=>decide (m.n=(n:Nat))&&decide (m.kind= -1))=decide ((BM a n).ent≠(BM b n).ent):=by
 rw[Bool.eq_iff_iff,List.any_eq_true,decide_eq_true_eq];constructor
 ·rintro⟨m,hm,h⟩
  simp only[Bool.and_eq_true,decide_eq_true_eq]at h;obtain⟨n2,_,hs⟩:=chg_mem.1 hm;obtain⟨h1,_,⟨_,h3⟩|⟨k,_,h4,_⟩⟩:=slotM_mem.1 hs
  ·have:n2=n:=by omega
   subst this;exact h3
  ·omega
 ·intro h
  exact⟨⟨(n:Nat),-1,0⟩,chg_mem.2 ⟨n,hn,slotM_mem.2 ⟨rfl,rfl,.inl ⟨rfl,h⟩⟩⟩,by simp⟩
theorem QT{a b:List Item}{i n k:Nat}(hn:n<i)(hk:k<16):(CY a b i).any (λm=>decide (m.n=(n:Nat))&&decide (m.kind=(k:Nat)))=Em (BM a n) (BM b n) k:=by
 rw[Bool.eq_iff_iff,List.any_eq_true];constructor
 ·rintro⟨m,hm,h⟩
  simp only[Bool.and_eq_true,decide_eq_true_eq]at h;obtain⟨n2,_,hs⟩:=chg_mem.1 hm;obtain⟨h1,_,⟨h2,_⟩|⟨k2,_,h4,h5⟩⟩:=slotM_mem.1 hs
  ·omega
  ·have:n2=n:=by omega
   subst this;have:k2=k:=by omega
   subst this;exact h5
 ·intro h
  exact⟨⟨(n:Nat),k,0⟩,chg_mem.2 ⟨n,hn,slotM_mem.2 ⟨rfl,rfl,.inr ⟨k,hk,rfl,h⟩⟩⟩,by simp⟩
theorem J2(it:Item)(k:Int):(Bo it k).length<=1:=by unfold Bo;split<;>simp
theorem NH{a b:Item}{k:Int}(h:Em a b k=false):Bo a k=Bo b k:=by
 unfold Em at h;rw[Bool.or_eq_false_iff,Bool.and_eq_false_iff,decide_eq_false_iff_not,decide_eq_false_iff_not,Bool.or_eq_false_iff,decide_eq_false_iff_not,decide_eq_false_iff_not]at h;obtain⟨h1,h2⟩:=h;rcases h2 with h2|⟨_,h2⟩
 ·have h3:=J2 a k
  have h4:Bo a k=[]:=List.length_eq_zero_iff.1 (by omega);have h5:Bo b k=[]:=List.length_eq_zero_iff.1 (by omega);rw[h4,h5]
 ·exact Decidable.not_not.1 h2
theorem D5{l:List Item}(hs:GU l)(n:Int):(BM l n∈l/\(BM l n).ent.n=n)\/(BM l n=⟨⟨-1,0⟩,[]⟩/\∀it∈l,it.ent.n≠n):=by
 unfold BM;cases h:l.find? λit=>decide (it.ent.n=n)with
 |some it=>exact .inl ⟨List.mem_of_find?_eq_some h,by simpa using List.find?_some h⟩
 |none=>
  rw[List.find?_eq_none]at h;exact .inr ⟨rfl,λit hit=>by simpa using h it hit⟩
theorem H6{l:List Item}(hs:GU l){it:Item}(h:it∈l):BM l it.ent.n=it:=by
 rcases D5 hs it.ent.n with⟨h1,h2⟩|⟨_,h2⟩
 ·exact GH (key:=λx:Item=>x.ent.n) hs h1 h h2
 ·exact absurd rfl (h2 it h)
def Bv(m:Mark):AV:=.agg [iA m.n,iA m.kind,iA m.tick]
abbrev EX(b:Bool)(l:List Mark):AV:=.lst b 58 3 (l.map Bv)
abbrev SE:AV:=.agg [.prim (.slice none 0 0),.prim (.slice none 0 0),.prim (.slice none 0 0)]
instance {m:Mark}:Frz (Bv m) (Bv m):=⟨rfl⟩
theorem Ox{it:Item}{k:Int}{c:Comp}(h:c∈Bo it k):c∈it.comps:=by
 unfold Bo at h;split at h
 ·rename_i d hd
  rw[List.mem_singleton]at h;subst h;exact List.mem_of_find?_eq_some hd
 ·cases h
theorem K4{l:List Item}(hs:GU l){n:Int}{b:Nat×Bool}(h:Found (λx:Item=>By x.ent.n n) l b):(b.2=true->l[b.1]?=some (BM l n))/\(b.2=false->BM l n=⟨⟨-1,0⟩,[]⟩):=by
 have hm:Fa (λx:Item=>By x.ent.n n) l:=by
  intro a b x y hab hx hy hy0;rw[FK]at hy0⊢;by_cases e:a=b
  ·subst e;rw[hx]at hy;cases hy;exact hy0
  ·obtain⟨ha,rfl⟩:=List.getElem?_eq_some_iff.1 hx
   obtain⟨hb,rfl⟩:=List.getElem?_eq_some_iff.1 hy;have:(l[a]).ent.n<(l[b]).ent.n:=List.pairwise_iff_getElem.1 hs a b ha hb (by omega);omega
 obtain⟨h1,h2⟩:=h.mono hm;refine⟨λhb=>?_,λhb=>?_⟩
 ·obtain⟨x,hx,h0⟩:=h.eq.1 hb
  have he:=cmpI_eq.1 h0;rw[hx,<-he,H6 hs (List.mem_of_getElem? hx)]
 ·rcases D5 hs n with⟨g1,g2⟩|⟨g1,_⟩
  ·exfalso
   obtain⟨j,hj,hje⟩:=List.getElem_of_mem g1;have hne:¬∃x,l[b.1]?=some x/\By x.ent.n n=0:=λhx=>by rw[h.eq.2 hx]at hb;cases hb
   have hj2:=List.getElem?_eq_getElem hj;rw[hje]at hj2
   have hjb:b.1<=j:=by
    rcases Nat.lt_or_ge j b.1 with hlt|hge
    ·have:=h1 j _ hlt hj2
     rw[FK]at this;omega
    ·exact hge
   by_cases e2:j=b.1
   ·subst e2
    exact hne ⟨_,hj2,cmpI_eq.2 g2⟩
   ·have hbl:b.1<l.length:=by omega
    have h3:=h2 b.1 _ (Nat.le_refl _) (List.getElem?_eq_getElem hbl);rw[FK]at h3;have:(l[b.1]).ent.n<(l[j]).ent.n:=List.pairwise_iff_getElem.1 hs b.1 j hbl hj (by omega);rw[hje]at this;omega
  ·exact g1
theorem Pr(x:Item)(n:Int):PS Tryz.prog 164 [AA false x,iA n] (iA (By x.ent.n n)):=by
 refine Spec.of (nt:=10) (res:=[.tmp 4]) Tryz.func164 rfl (by kernel_rfl) rfl rfl rfl λSf=>?_
 (repeat first|(refine AOps.gN ?_;first|(refine AOps.g_callf ?_;first|refine AOps.c2 (h:=(DK x.ent.n n)) (k:=?_))|(refine AOps.g_box ?_;refine Az ?_))|refine WK ?_|refine Ai λX=>?_|refine Ay λY=>?_);refine RT ?_;refine AN ?_;rfl
theorem HI(w:Wd)(n:Int)(hs:GU w.items)(hl:w.items.length<=4611686018427387904):PS Tryz.prog 83 [wdA false w,iA n] (AA false (BM w.items n)):=by
 have h:=LA w.items (iA n) 164 [] (λx=>By x.ent.n n) n rfl rfl hl (λx _=>Pr x n);refine Spec.of (nt:=23) (res:=[.cell 4 71]) Tryz.func83 rfl (by kernel_rfl) rfl rfl rfl λSf=>?_
 refine RG ?_;(repeat first|(refine AOps.gN ?_;first|(refine AOps.g_box ?_;refine Az ?_))|refine WO ?_|refine Ai λP=>?_|refine Ay λY=>?_);refine NL ?_;refine FL ?_;refine RG ?_;(repeat first|refine WO ?_|refine Ai λX=>?_|refine Ay λY=>?_);refine N7 (h:=h) λb hb=>?_
 obtain⟨hy,hn⟩:=K4 hs hb;obtain⟨i,q⟩:=b;dsimp only at hy hn;(repeat first|refine WO ?_|refine Ai λX=>?_|refine Ay λY=>?_);refine FL ?_;cases q with
 |false=>
  rw[hn rfl];refine RG ?_;(repeat first|refine WO ?_|refine Ai λX=>?_|refine Ay λY=>?_);refine NL ?_;refine AR rfl rfl ?_;refine RG ?_;(repeat first|refine WO ?_|refine Ai λX=>?_|refine Ay λY=>?_);refine NL ?_;refine RT ?_;exact BT [.agg [iA (-1),iA 0,.prim (.slice none 0 0)]] [AA false ⟨⟨-1,0⟩,[]⟩] (.cons (.agg (.cons .same (.cons .same (.cons .nil .nil)))) .nil)
 |true=>
  have hat:(w.items.map (AA false))[i]?=some (AA false (BM w.items n)):=by rw[List.getElem?_map,hy rfl];rfl
  obtain⟨it,hit⟩:∃it,BM w.items n=it:=⟨_,rfl⟩;rw[hit]at hat⊢;refine RG ?_;(repeat first|refine WO ?_|refine Ai λX=>?_|refine Ay λY=>?_);refine NL ?_;refine AE rfl rfl ?_;refine FL ?_;refine RG ?_;(repeat first|(refine AOps.gN ?_;first|refine AOps.go (h:=W.idxL rfl rfl rfl hat) (k:=?_))|refine WO ?_|refine Ai λX=>?_|refine Ay λY=>?_);refine NL ?_;refine RT ?_;exact BT [AA false it] [AA false it] (.cons (.cell .same) .nil)
theorem HJ(it:Item)(k:Int)(hl:it.comps.length<=1099511627776):PS Tryz.prog 87 [AA false it,iA k] (Aj false false (Bo it k)):=by
 have hcm:(it.comps.map (AD false)).length=it.comps.length:=List.length_map _;refine Spec.of (nt:=26) (res:=[.tmp 4]) Tryz.func87 rfl (by kernel_rfl) rfl rfl rfl λSf=>?_
 refine RG ?_;(repeat first|(refine AOps.gN ?_;first|(refine AOps.g_box ?_;refine Az ?_))|refine WO ?_|refine Ai λX=>?_|refine Ay λY=>?_);refine NL ?_;refine FL ?_;refine RG ?_;(repeat first|refine WO ?_|refine Ai λX=>?_|refine Ay λY=>?_);refine NL ?_;refine FL ?_;refine BP (λ(i:Nat)=>⟨[(1,iA k),(2,.fp (AA false it).cells),(8,Aj false false it.comps),(9,iA (it.comps.map (AD false)).length),(10,iA i)],Sf⟩) (λi=>i<=it.comps.length/\∀j (h:j<it.comps.length),j<i->decide (it.comps[j].kind=k)=false) (λi=>it.comps.length-i) 0 ⟨Nat.zero_le _,λj h hj=>absurd hj (by omega)⟩ ?_;rintro i ⟨hi,he⟩;refine RG ?_;(repeat first|refine WO ?_|refine Ai λX=>?_|refine Ay λY=>?_);refine NL ?_;refine FL ?_;refine AWP.cond rfl (λhb=>?_) (λhb=>?_)
 ·have h:i<it.comps.length:=by rw[decide_eq_true_eq,hcm]at hb;omega
  obtain⟨c,hcc⟩:∃c,it.comps[i]=c:=⟨_,rfl⟩;have hat:(it.comps.map (AD false))[i]?=some (AD false c):=by rw[List.getElem?_map,List.getElem?_eq_getElem h,hcc];rfl
  refine FL ?_;refine RG ?_;(repeat first|refine WO ?_|refine Ai λC=>?_|refine Ay λY=>?_);refine NL ?_;refine FL ?_;refine RG ?_;(repeat first|refine WO ?_|refine Ai λX=>?_|refine Ay λY=>?_);refine NL ?_;refine AWP.cond rfl (λhd=>?_) (λhd=>?_)
  ·have hf:Bo it k=[c]:=by
    unfold Bo;rw[List.find?_eq_some_iff_getElem.2 ⟨by rw[hcc]at*;exact hd,i,h,hcc,λj hj=>by simpa using he j (by omega) hj⟩]
   have hst:((it.comps.map (AD false)).take (i+1)).drop i=(Bo it k).map (AD false):=by
    rw[hf,<-List.map_take,<-List.map_drop,List.take_succ_eq_append_getElem h,List.drop_append_of_le_length (by rw[List.length_take];omega),List.drop_of_length_le (by rw[List.length_take];omega),hcc];rfl
   refine FL ?_;refine RG ?_;(repeat first|(refine AOps.gN ?_;first|refine AOps.go (h:=Ap ((i:Int)+1) (by omega) (by omega) rfl rfl) (k:=?_)|refine AOps.go (h:=ST i (i+1) rfl rfl rfl rfl (by omega) (by omega) (by omega)) (k:=?_))|refine WO ?_|refine Ai λX=>?_|refine Ay λY=>?_);refine NL ?_;rw[hst];refine RT ?_;refine AN ?_;rfl
  ·refine FL ?_
   refine RG ?_;(repeat first|refine WO ?_|refine Ai λX=>?_|refine Ay λY=>?_);refine NL ?_;refine A7 (i+1) ⟨h,λj h1 h2=>?_⟩ (by omega);by_cases e:j=i
   ·subst e;rw[hcc];exact hd
   ·exact he j h1 (by omega)
 ·have h:i=it.comps.length:=by rw[decide_eq_false_iff_not,hcm]at hb;omega
  subst h
  have hf:Bo it k=[]:=by
   unfold Bo
   rw[List.find?_eq_none.2 λc hc=>by
    obtain⟨j,hj,rfl⟩:=List.getElem_of_mem hc;simpa using he j hj hj]
  rw[hf];refine FL ?_;refine RG ?_;(repeat first|refine WO ?_|refine Ai λX=>?_|refine Ay λY=>?_);refine NL ?_;refine RT ?_;exact BT [.prim (.slice none 0 0)] [Aj false false []] (.cons (.cell .nil) .nil)
section
def ixG(ks:List Int):Int->Option Value:=λn=>if n∈ks then some (.int .i64 (ks.idxOf n:Nat))else none
variable {α:Type}
abbrev AC(l:List (Int×α)):List Int:=l.map (·.1)
def BH(l:List (Int×α))(n:Int)(v:α):List (Int×α):=if n∈AC l then l.set ((AC l).idxOf n) (n,v)else l++[(n,v)]
def CK(l:List (Int×α))(n:Int):Option α:=(l[(AC l).idxOf n]?).map (·.2)
def A4(l:List (Int×α))(n:Int):List (Int×α):=if n∈AC l then(match l[l.length-1]? with|some e=>(l.set ((AC l).idxOf n) e).take (l.length-1)|none=>l)else l
structure ColOK(l:List (Int×α)):Prop where
 nd:(AC l).Nodup
 lt:∀n∈AC l,0<=n/\n<256
theorem LM{ks:List Int}(h:ks.Nodup)(hl:∀n∈ks,0<=n/\n<256):ks.length<=256:=by
 have h1:(ks.map Int.toNat).Nodup:=by
  refine List.pairwise_map.2 (h.imp_of_mem λha hb hne e=>hne ?_);have:=hl _ ha;have:=hl _ hb;omega
 have h2:(ks.map Int.toNat)⊆List.range 256:=λx hx=>by
  obtain⟨n,hn,rfl⟩:=List.mem_map.1 hx;have:=hl n hn;rw[List.mem_range];omega
 have:=List.Nodup.length_le_of_subset h1 h2;simpa using this
theorem ColOK.len{l:List (Int×α)}(h:ColOK l):l.length<=256:=by
 have:=LM h.nd h.lt;simpa using this
theorem Dv{l:List (Int×α)}{n:Int}(h:n∈AC l):(AC l).idxOf n<l.length:=by
 have:=List.idxOf_lt_length_of_mem h;simpa using this
theorem Dw{l:List (Int×α)}{n:Int}(h:n∈AC l):∃v,l[(AC l).idxOf n]?=some (n,v):=by
 have h1:=Dv h;have h2:=List.getElem_idxOf (xs:=AC l) (x:=n) (by simpa using h1);rw[List.getElem_map]at h2;refine⟨(l[(AC l).idxOf n]).2,?_⟩;rw[List.getElem?_eq_getElem h1]
 congr 1
 exact Prod.ext h2 rfl
theorem DF{l:List (Int×α)}{n:Int}(h:n∉AC l):CK l n=none:=by
 unfold CK;rw[List.getElem?_eq_none]
 ·rfl
 ·rw[List.idxOf_eq_length h];simp
theorem Bt{l:List (Int×α)}(h:ColOK l){n:Int}{v:α}:CK l n=some v↔(n,v)∈l:=by
 constructor
 ·intro e
  have hn:n∈AC l:=Classical.byContradiction λhn=>by rw[DF hn]at e;cases e
  obtain⟨u,hu⟩:=Dw hn;unfold CK at e;rw[hu]at e;injection e with e
  simp only at e;subst e;exact List.mem_of_getElem? hu
 ·intro hm
  have hn:n∈AC l:=List.mem_map.2 ⟨_,hm,rfl⟩;obtain⟨i,hi,e⟩:=List.getElem_of_mem hm
  have h1:(AC l).idxOf n=i:=by
   have h2:(AC l)[i]'(by simpa using hi)=n:=by rw[List.getElem_map,e]
   rw[<-h2];exact h.nd.idxOf_getElem i _
  unfold CK;rw[h1,List.getElem?_eq_getElem hi,e];rfl
theorem Dq{l:List (Int×α)}{n:Int}(h:n∈AC l):∃v,CK l n=some v:=by
 obtain⟨u,hu⟩:=Dw h;exact⟨u,by unfold CK;rw[hu];rfl⟩
theorem ColOK.perm{l l':List (Int×α)}(h:ColOK l)(p:l.Perm l'):ColOK l':=
 ⟨(p.map _).nodup_iff.1 h.nd,λn hn=>h.lt n ((p.map _).mem_iff.2 hn)⟩
theorem CM{l:List (Int×α)}{n:Int}{v:α}(h:n∉AC l):BH l n v=l++[(n,v)]:=if_neg h
theorem Dh{l:List (Int×α)}{n:Int}{v:α}(h:n∈AC l):BH l n v=l.set ((AC l).idxOf n) (n,v):=if_pos h
theorem Dp{l:List (Int×α)}{n:Int}{v:α}(h:n∈AC l):AC (BH l n v)=AC l:=by
 rw[Dh h,AC,List.map_set];obtain⟨u,hu⟩:=Dw h;have h1:=Dv h;refine List.ext_getElem (by simp) λi h2 h3=>?_
 rw[List.getElem_set];split
 ·rename_i e
  subst e;have:=List.getElem_idxOf (xs:=AC l) (x:=n) (by simpa using h1);exact this.symm
 ·rfl
theorem ColOK.put{l:List (Int×α)}(h:ColOK l){n:Int}(hn:0<=n/\n<256)(v:α):ColOK (BH l n v):=by
 by_cases hk:n∈AC l
 ·refine⟨by rw[Dp hk];exact h.nd,λm hm=>h.lt m (by rwa[Dp hk]at hm)⟩
 ·rw[CM hk]
  refine⟨?_,λm hm=>?_⟩
  ·rw[AC,List.map_append]
   refine List.nodup_append.2 ⟨h.nd,by simp,λa ha b hb e=>?_⟩;simp only[List.map_cons,List.map_nil,List.mem_singleton]at hb;subst hb e;exact hk ha
  ·rw[AC,List.map_append]at hm
   rcases List.mem_append.1 hm with hm|hm
   ·exact h.lt m hm
   ·simp only[List.map_cons,List.map_nil,List.mem_singleton]at hm
    subst hm;exact hn
theorem Gc{l:List (Int×α)}(h:ColOK l){n:Int}{v:α}{m:Int}{u:α}:(m,u)∈BH l n v↔(m=n/\u=v)\/(m≠n/\(m,u)∈l):=by
 by_cases hk:n∈AC l
 ·obtain⟨w,hw⟩:=Dw hk
  have h1:=Dv hk;rw[Dh hk];constructor
  ·intro hm
   obtain⟨i,hi,e⟩:=List.getElem_of_mem hm;rw[List.getElem_set]at e;split at e
   ·injection e with e1 e2
    exact .inl ⟨e1.symm,e2.symm⟩
   ·rename_i hne
    refine .inr ⟨λe2=>hne ?_,e▸List.getElem_mem _⟩;have hi':i<l.length:=by simpa using hi
    have h2:(AC l)[i]'(by simpa using hi')=n:=by rw[List.getElem_map,e,e2]
    rw[<-h2];exact h.nd.idxOf_getElem i _
  ·rintro(⟨rfl,rfl⟩|⟨hne,hm⟩)
   ·exact List.mem_of_getElem? (i:=(AC l).idxOf m) (by rw[List.getElem?_set_self h1])
   ·obtain⟨i,hi,e⟩:=List.getElem_of_mem hm
    refine List.mem_of_getElem? (i:=i) ?_;rw[List.getElem?_set_ne,List.getElem?_eq_getElem hi,e];intro e2;have h3:l[i]?=some (m,u):=by rw[List.getElem?_eq_getElem hi,e]
    rw[<-e2,hw]at h3;injection h3 with h3
    injection h3 with h3 _
    exact hne h3.symm
 ·rw[CM hk,List.mem_append,List.mem_singleton]
  constructor
  ·rintro(hm|e)
   ·exact .inr ⟨λe=>hk (by subst e;exact List.mem_map.2 ⟨_,hm,rfl⟩),hm⟩
   ·injection e with e1 e2
    exact .inl ⟨e1,e2⟩
  ·rintro(⟨rfl,rfl⟩|⟨_,hm⟩)
   ·exact .inr rfl
   ·exact .inl hm
theorem EJ{l:List (Int×α)}{n:Int}(h:n∉AC l):A4 l n=l:=if_neg h
theorem Jc{β:Type}{l:List β}{i:Nat}{x e:β}(hx:l[i]?=some x)(he:l[l.length-1]?=some e):l.Perm (x::(l.set i e).take (l.length-1)):=by
 have hi:=(List.getElem?_eq_some_iff.1 hx).1
 obtain⟨l',e',rfl⟩:∃l' e',l=l'++[e']:=by
  rcases List.eq_nil_or_concat l with rfl|⟨l',e',rfl⟩
  ·cases hi
  ·exact⟨l',e',by simp⟩
 have hl:(l'++[e']).length-1=l'.length:=by simp
 rw[hl]at he⊢;rw[List.getElem?_append_right (Nat.le_refl _),Nat.sub_self]at he;injection he with he
 subst he;by_cases h:i<l'.length
 ·rw[List.getElem?_append_left h]at hx
  rw[List.set_append_left _ _ h,List.take_left' (by simp)];obtain⟨R,h1,h2⟩:=BJ hx;refine List.perm_append_comm.trans ?_;refine((h1.cons e').trans (.swap ..)).trans ?_;exact(h2 e').symm.cons x
 ·have hi':i=l'.length:=by simp at hi;omega
  subst hi';rw[List.getElem?_append_right (Nat.le_refl _),Nat.sub_self]at hx;injection hx with hx
  subst hx;rw[List.set_append_right _ _ (Nat.le_refl _),Nat.sub_self,List.set_cons_zero,List.take_left' rfl];exact List.perm_append_comm
theorem Hk{β:Type}{l:List β}(h:0<l.length):∃e,l[l.length-1]?=some e:=⟨l[l.length-1],List.getElem?_eq_getElem (by omega)⟩
theorem Cc{l:List (Int×α)}(h:ColOK l){n:Int}{v:α}(hm:(n,v)∈l):l.Perm ((n,v)::A4 l n):=by
 have hk:n∈AC l:=List.mem_map.2 ⟨_,hm,rfl⟩;obtain⟨w,hw⟩:=Dw hk;have h1:=Dv hk
 have hwv:w=v:=by
  have:=(Bt h).2 hm;unfold CK at this;rw[hw]at this;injection this
 subst hwv;obtain⟨e,he⟩:=Hk (l:=l) (by omega);unfold A4;rw[if_pos hk,he];exact Jc hw he
theorem H0{l:List (Int×α)}{n:Int}(hk:n∈AC l):(A4 l n).length=l.length-1:=by
 have h1:=Dv hk;obtain⟨e,he⟩:=Hk (l:=l) (by omega);unfold A4;rw[if_pos hk,he];simp
theorem ColOK.drop{l:List (Int×α)}(h:ColOK l)(n:Int):ColOK (A4 l n):=by
 by_cases hk:n∈AC l
 ·obtain⟨v,hv⟩:=Dq hk
  have:=h.perm (Cc h ((Bt h).1 hv));exact⟨(List.nodup_cons.1 this.nd).2,λm hm=>this.lt m (List.mem_cons_of_mem _ hm)⟩
 ·rw[EJ hk];exact h
theorem Cy{l:List (Int×α)}(h:ColOK l){n m:Int}:m∈AC (A4 l n)↔m∈AC l/\m≠n:=by
 by_cases hk:n∈AC l
 ·obtain⟨v,hv⟩:=Dq hk
  have hp:=Cc h ((Bt h).1 hv);have hd:=h.perm hp;have hn:n∉AC (A4 l n):=(List.nodup_cons.1 hd.nd).1;rw[(hp.map (·.1)).mem_iff (a:=m)];simp only[List.map_cons,List.mem_cons];constructor
  ·intro hm
   exact⟨.inr hm,λe=>hn (by subst e;exact hm)⟩
  ·rintro⟨e|hm,hne⟩
   ·exact absurd e hne
   ·exact hm
 ·rw[EJ hk]
  exact⟨λhm=>⟨hm,λe=>hk (e▸hm)⟩,λhm=>hm.1⟩
theorem MY{l:List (Int×α)}(h:ColOK l){n m:Int}(hne:m≠n):CK (A4 l n) m=CK l m:=by
 by_cases hm:m∈AC l
 ·obtain⟨v,hv⟩:=Dq hm
  rw[hv,Bt (h.drop n)];have h1:=(Bt h).1 hv;by_cases hk:n∈AC l
  ·obtain⟨w,hw⟩:=Dq hk
   have:=(Cc h ((Bt h).1 hw)).mem_iff.1 h1;rcases List.mem_cons.1 this with e|e
   ·injection e with e _
    exact absurd e hne
   ·exact e
  ·rw[EJ hk];exact h1
 ·rw[DF hm,DF (λhm'=>hm ((Cy h).1 hm').1)]
theorem FD{l:List (Int×α)}(h:ColOK l){n:Int}(hn:0<=n/\n<256){v:α}{m:Int}:CK (BH l n v) m=if m=n then some v else CK l m:=by
 split
 ·rename_i e
  subst e;exact(Bt (h.put hn v)).2 ((Gc h).2 (.inl ⟨rfl,rfl⟩))
 ·rename_i hne
  cases hg:CK l m with
  |some w=>exact(Bt (h.put hn v)).2 ((Gc h).2 (.inr ⟨hne,(Bt h).1 hg⟩))
  |none=>
   refine DF λhm=>?_
   obtain⟨⟨m',w⟩,hw,rfl⟩:=List.mem_map.1 hm;rcases(Gc h).1 hw with⟨e,_⟩|⟨_,hw⟩
   ·exact hne e
   ·rw[(Bt h).2 hw]at hg
    cases hg
theorem CW{ks:List Int}{n:Int}(h:n∈ks):ixG ks n=some (.int .i64 (ks.idxOf n:Nat)):=if_pos h
theorem EZ{ks:List Int}{n:Int}(h:n∉ks):ixG ks n=none:=if_neg h
theorem Nq{ks:List Int}{n:Int}(h:n∉ks):DT (ixG ks) n (.int .i64 (ks.length:Nat))=ixG (ks++[n]):=by
 funext m
 unfold DT;split
 ·rename_i e
  subst e;rw[CW (by simp),List.idxOf_append,if_neg h];simp
 ·rename_i hne
  by_cases hm:m∈ks
  ·rw[CW hm,CW (by simp[hm]),List.idxOf_append,if_pos hm]
  ·rw[EZ hm,EZ (by simp[hm,hne])]
theorem Gl{ks:List Int}(hd:ks.Nodup){i:Nat}{n:Int}(h:ks[i]?=some n):n∈ks/\ks.idxOf n=i:=by
 obtain⟨hi,e⟩:=List.getElem?_eq_some_iff.1 h;subst e;exact⟨List.getElem_mem _,hd.idxOf_getElem i _⟩
theorem Lb{ks:List Int}(hd:ks.Nodup){i:Nat}{n e:Int}(hn:ks[i]?=some n)(he:ks[ks.length-1]?=some e):ES (DT (ixG ks) e (.int .i64 (i:Nat))) n=ixG ((ks.set i e).take (ks.length-1)):=by
 have hp:=Jc hn he;have hd2:(n::(ks.set i e).take (ks.length-1)).Nodup:=hp.nodup_iff.1 hd;obtain⟨hn1,hd3⟩:=List.nodup_cons.1 hd2;obtain⟨hi,_⟩:=List.getElem?_eq_some_iff.1 hn;have hmem:∀m,m∈ks↔m=n\/m∈(ks.set i e).take (ks.length-1):=λm=>by rw[hp.mem_iff];simp
 funext m
 unfold ES;split
 ·rename_i h
  subst h;rw[EZ hn1]
 ·rename_i hmn
  unfold DT;split
  ·rename_i hme
   subst hme
   have hi2:i<ks.length-1:=by
    refine Classical.byContradiction λh=>hmn ?_
    have:i=ks.length-1:=by omega
    rw[this,he]at hn;injection hn
   obtain⟨h1,h2⟩:=Gl hd3 (i:=i) (n:=m) (by rw[List.getElem?_take_of_lt hi2,List.getElem?_set_self hi]);rw[CW h1,h2]
  ·rename_i hme
   by_cases hm:m∈ks
   ·obtain⟨j,hj,ej⟩:=List.getElem_of_mem hm
    have hj1:ks[j]?=some m:=by rw[List.getElem?_eq_getElem hj,ej]
    have hj2:j<ks.length-1:=by
     refine Classical.byContradiction λh=>hme ?_
     have:j=ks.length-1:=by omega
     rw[this,he]at hj1;injection hj1 with hj1
     exact hj1.symm
    have hij:i≠j:=λh=>by
     subst h;rw[hn]at hj1;injection hj1 with hj1
     exact hmn hj1.symm
    obtain⟨h1,h2⟩:=Gl hd hj1;obtain⟨h3,h4⟩:=Gl hd3 (i:=j) (n:=m) (by rw[List.getElem?_take_of_lt hj2,List.getElem?_set_ne hij,hj1]);rw[CW h1,h2,CW h3,h4]
   ·rw[EZ hm,EZ λh=>hm ((hmem m).2 (.inr h))]
structure StK where
 X:Nat
 V:Nat
 R:Nat
 M:Nat
end
instance mapII:TMap Tryz.prog 257 3 3 (.int .i64 0):=⟨by kernel_rfl,by kernel_rfl,λw=>by kernel_rfl,PlainV.int (by kernel_rfl) rfl⟩
end Go.Proofs.YtiidbamlcgbpnaaGreat
