/-
  Part 5 of the texts under the law MarkLast: the layer of abstract values, walks and plain laws. Conditions: those that each theorem names.
-/
import Derived.WalkKit
import Derived.Lib.Hide
import Derived.Deep.OwnRows
import Derived.Deep.Draws
import Derived.Test.YtiidbamlcgbpnaaGreatChecked
import Derived.ProofKit
import Derived.OpenShut
import Derived.ShutString
import Derived.ChangeOld
import Derived.Below
import Derived.SizedLaws
import Derived.Deep.Slices
import Derived.Deep.Fields
import Derived.ChangeSame
import Derived.Test.YtiidbamlcgbpnaaGreatProg
import Derived.Sort.AssemblyPlain
import Derived.Test.YtiidbamlcgbpnaaGreatMarkLastP4
namespace Go.Proofs.YtiidbamlcgbpnaaGreat
set_option linter.unusedVariables false
set_option linter.unusedSimpArgs false
set_option linter.defProp false
set_option maxRecDepth 10000
set_option maxHeartbeats 4000000
structure Field where
 name:List UInt8
 bits:Int
 low:Int
structure Kind where
 name:List UInt8
 fields:List Field
structure Ent where
 n:Int
 gen:Int
structure Comp where
 kind:Int
 vals:List Int
structure Item where
 ent:Ent
 comps:List Comp
structure Wd where
 kinds:List Kind
 gens:List Int
 items:List Item
structure Ref where
 kind:Int
 field:Int
structure Arg where
 has:Bool
 n:Int
 ref:Ref
structure Op where
 act:Int
 to:Ref
 a:Arg
 b:Arg
instance:DecidableEq Field:=λa b=>decidable_of_iff (a.name=b.name/\a.bits=b.bits/\a.low=b.low) (by cases a;cases b;simp)
instance:DecidableEq Kind:=λa b=>decidable_of_iff (a.name=b.name/\a.fields=b.fields) (by cases a;cases b;simp)
instance:DecidableEq Ent:=λa b=>decidable_of_iff (a.n=b.n/\a.gen=b.gen) (by cases a;cases b;simp)
instance:Inhabited Ent:=⟨⟨default,default⟩⟩
instance:DecidableEq Comp:=λa b=>decidable_of_iff (a.kind=b.kind/\a.vals=b.vals) (by cases a;cases b;simp)
instance:DecidableEq Item:=λa b=>decidable_of_iff (a.ent=b.ent/\a.comps=b.comps) (by cases a;cases b;simp)
instance:Inhabited Item:=⟨⟨default,default⟩⟩
def I64(x:Int):Prop:=-9223372036854775808<=x/\x<=9223372036854775807
section
open Go.RowKit
abbrev Reg:=Nat->Prop
def Lt(w:World):Reg:=λb=>b<w.heap.size
def TC(S:Reg)(w w':World):Prop:=∀b,S b->w'.heap[b]?=w.heap[b]?
section
variable {w w' w'':World}{S T:Reg}
theorem bel{n m:Nat}{a b c:World}(h:Below n a b)(k:Below m b c)(hm:n<=m):Below n a c:=h.trans (k.mono hm)
def Row(w:World)(S:Reg)(sz:Nat)(v:Value)(n:Nat)(xs:List Value):Prop:=
 xs.length=n*sz/\∃A cap,v= .slice A n cap/\n<=cap/\(0<n->∃b off,A=some ⟨b,off,none⟩/\S b/\∀j u,xs[j]?=some u->w.cell? ⟨b,off+j,none⟩=some u)
variable {sz n:Nat}{v:Value}{xs:List Value}
theorem Row.nil(w:World)(S:Reg)(sz:Nat):Row w S sz (.slice none 0 0) 0 []:=⟨by simp,none,0,rfl,Nat.le_refl _,λh=>absurd h (by omega)⟩
end
def Cells{α:Type}(C:List Value->α->Prop)(sz:Nat):List Value->List α->Prop
 |xs,[]=>xs=[]
 |xs,x::l=>∃c ys,xs=c++ys/\c.length=sz/\C c x/\Cells C sz ys l
section
variable {α:Type}{C C':List Value->α->Prop}{sz:Nat}{xs ys:List Value}{l m:List α}
theorem Cells.nil:Cells C sz [] []:=rfl
theorem Cells.length(h:Cells C sz xs l):xs.length=l.length*sz:=by
 induction l generalizing xs with
 |nil=>have:xs=[]:=h;simp[this]
 |cons x l ih=>
  obtain⟨c,ys,rfl,h1,_,h3⟩:=h;simp[ih h3,h1,Nat.add_mul,Nat.add_comm]
end
def Sl{α:Type}(w:World)(S:Reg)(sz:Nat)(C:World->Reg->List Value->α->Prop)(v:Value)(l:List α):Prop:=
 ∃xs,Row w S sz v l.length xs/\Cells (C w S) sz xs l
section
variable {α:Type}{w w':World}{S T:Reg}{sz:Nat}{C:World->Reg->List Value->α->Prop}{v:Value}{l:List α}
theorem Sl.nil(w:World)(S:Reg)(sz:Nat)(C:World->Reg->List Value->α->Prop):Sl w S sz C (.slice none 0 0) []:=⟨[],Row.nil w S sz,.nil⟩
end
abbrev Sb(l:List UInt8):Value:=.string ⟨l.toArray⟩
def S7(_:World)(_:Reg)(c:List Value)(x:Int):Prop:=c=[.int .i64 x]
def ST(_:World)(_:Reg)(c:List Value)(f:Field):Prop:=c=[Sb f.name,.int .i64 f.bits,.int .i64 f.low]
abbrev NV(w:World)(S:Reg)(v:Value)(l:List Int):Prop:=Sl w S 1 S7 v l
abbrev Fields(w:World)(S:Reg)(v:Value)(l:List Field):Prop:=Sl w S 3 ST v l
def Sq(w:World)(S:Reg)(c:List Value)(k:Kind):Prop:=∃vf,c=[Sb k.name,vf]/\Fields w S vf k.fields
abbrev TA(w:World)(S:Reg)(v:Value)(l:List Kind):Prop:=Sl w S 2 Sq v l
def Sx(w:World)(S:Reg)(c:List Value)(x:Comp):Prop:=∃v,c=[.int .i64 x.kind,v]/\NV w S v x.vals
abbrev S4(w:World)(S:Reg)(v:Value)(l:List Comp):Prop:=Sl w S 2 Sx v l
def Sr(w:World)(S:Reg)(c:List Value)(x:Item):Prop:=∃v,c=[.int .i64 x.ent.n,.int .i64 x.ent.gen,v]/\S4 w S v x.comps
abbrev TB(w:World)(S:Reg)(v:Value)(l:List Item):Prop:=Sl w S 3 Sr v l
section
variable {w w':World}{S T:Reg}{v:Value}
variable {A:Option Addr}{n cap i:Nat}
end
section
variable {α:Type}{w w':World}{base:Nat}{e:TypeId}{S T:Reg}{sz:Nat}{C:World->Reg->List Value->α->Prop}{v:Value}{l:List α}
end
section
variable {w w':World}{b:Nat}{e:TypeId}{l:List Int}
end
section
variable {w w':World}{g:Nat}{t:TypeId}{cs:Array Value}
end
end
section
open Go.ChangeShapes Go.WideShapes Go.ChangeAt Go.RowKit Go.Deep
theorem Rg{α:Type}{sz:Nat}{cs:α->List Value}{f:Nat->Option Value}(hcs:∀x,(cs x).length=sz):∀(l:List α) (off:Nat),(∀i (hi:i<l.length) j u,(cs l[i])[j]?=some u->f (off+(i*sz+j))=some u)->
  ∀j u,(l.flatMap cs)[j]?=some u->f (off+j)=some u:=by
 intro l
 induction l with
 |nil=>intro off _ j u h;simp at h
 |cons x l ih=>
  intro off h j u hj;rw[List.flatMap_cons]at hj;rcases Nat.lt_or_ge j sz with hlt|hge
  ·rw[List.getElem?_append_left (by rw[hcs];exact hlt)]at hj
   have:=h 0 (by simp) j u hj;simpa using this
  ·rw[List.getElem?_append_right (by rw[hcs];exact hge),hcs]at hj
   have:=ih (off+sz) (λi hi j u hu=>by
    have:=h (i+1) (by simp;omega) j u hu;rwa[Nat.add_mul,Nat.one_mul,show off+(i*sz+sz+j)=off+sz+(i*sz+j) by omega]at this) (j-sz) u hj
   rwa[show off+sz+(j-sz)=off+j by omega]at this
theorem JG{α:Type}{sz:Nat}{cs:α->List Value}{C:List Value->α->Prop}(hcs:∀x,(cs x).length=sz)(hC:∀x,C (cs x) x)(l:List α):Cells C sz (l.flatMap cs) l:=by
 induction l with
 |nil=>rfl
 |cons x l ih=>exact⟨cs x,l.flatMap cs,by rw[List.flatMap_cons],hcs x,hC x,ih⟩
theorem LL{α:Type}{w:World}{sz:Nat}{C:World->Reg->List Value->α->Prop}{a:Addr}{n cap:Nat}{l:List α}{cs:α->List Value}(hn:n<=cap)(hl:l.length=n)(hsz:0<sz)(hcs:∀x,(cs x).length=sz)(hC:∀x,C w (Lt w) (cs x) x)
  (hcell:∀i (hi:i<l.length) j u,(cs l[i])[j]?=some u->w.cell? (a.add (i*sz+j))=some u):Sl w (Lt w) sz C (.slice (some a) n cap) l:=by
 subst hl;refine⟨l.flatMap cs,⟨?_,some a,cap,rfl,hn,λh0=>?_⟩,JG hcs hC l⟩
 ·have:=(JG (C:=λ_ _=>True) hcs (λ_=>trivial) l).length
  exact this
 ·obtain⟨b,off,spot⟩:=a
  have h1:∃u,(cs l[0])[0]?=some u:=⟨_,List.getElem?_eq_getElem (by rw[hcs];exact hsz)⟩;obtain⟨u,hu⟩:=h1;have h2:=hcell 0 h0 0 u hu;have hspot:spot=none:=by simpa[Addr.add]using World.cell?_spot h2
  subst hspot;refine⟨b,off,rfl,?_,?_⟩
  ·rw[Go.WideShapes.add_plain]at h2
   unfold World.cell? at h2;simp only at h2;show b<w.heap.size
   rcases Nat.lt_or_ge b w.heap.size with h|h
   ·exact h
   ·rw[Array.getElem?_eq_none h]at h2
    cases h2
  ·refine Rg (f:=λk=>w.cell? ⟨b,k,none⟩) hcs l off λi hi j u hu=>?_
   have:=hcell i hi j u hu;rwa[Go.WideShapes.add_plain]at this
section
variable {H:Type}{enc:TypeId×Value->H}{w:World}{a:Option Addr}{len cap:Nat}{d:DataW H}{p:List MemPlace}
theorem Ss(h:DataW.Trod enc Tryz.prog w 0 (λ_=>true) true 22 (.slice a len cap) d p):
  ∃z:List Int,NV w (Lt w) (.slice a len cap) z/\(z=[]\/∃elems spare,d= .slice elems spare/\z.length<=elems.length+spare.length):=by
 obtain⟨fuel,hf⟩:=h;rcases open_slice Tryz.underlying22 hf with⟨hcs,_⟩|⟨x,l,c,m,n,D,Pl,hcs,hb,hl,hm,hmm,hx,hi⟩
 ·simp[Value.cells]at hcs
  obtain⟨rfl,rfl,rfl⟩:=hcs;exact⟨[],Sl.nil _ _ _ _,.inl rfl⟩
 ·simp[Value.cells]at hcs
  obtain⟨rfl,rfl,rfl⟩:=hcs;have hlm:len<=m:=by rw[hmm];split<;>omega
  have hex:∀i,∃e:Int,i<len->∀j u,([Value.int .i64 e])[j]?=some u->w.cell? (x.add (i*1+j))=some u:=by
   intro i;by_cases hil:i<len
   ·obtain⟨cs',hc,ht⟩:=hi i (by omega)
    rw[show Tryz.prog.cellsOf 3=1 from by kernel_rfl]at hc;obtain⟨_,hcl,hat⟩:=World.cells?_some hc;obtain⟨k,rfl,_⟩:=DataW.trod_int Tryz.underlying3 ht;refine⟨k,λ_ j u hu=>?_⟩
    have hj:j=0:=by
     have:=(List.getElem?_eq_some_iff.1 hu).1;simp at this;omega
    subst hj;have:=hat 0 (by omega);rw[Go.Deep.add_add]at this;rw[this,hu]
   ·exact⟨0,λh=>absurd h hil⟩
  obtain⟨f,hf'⟩:=Classical.axiomOfChoice hex;refine⟨(List.range len).map f,LL (cs:=λe=>[Value.int .i64 e]) hl (by simp) (by omega) (λ_=>rfl) (λ_=>rfl) (λi hi' j u hu=>?_),.inr ⟨_,_,(Prod.mk.inj hx).1,by simp⟩⟩;simp only[List.length_map,List.length_range]at hi';exact hf' i hi' j u (by simpa using hu)
end
end
instance tAg3:TAg Tryz.prog 3 false:=⟨by kernel_rfl⟩
instance tSize3:TSize Tryz.prog 3 1:=⟨by kernel_rfl⟩
instance tZe3:TZe Tryz.prog 3 [.int .i64 0]:=⟨by kernel_rfl⟩
instance tBy3:TBy Tryz.prog 3 8:=⟨by kernel_rfl⟩
instance tAg4:TAg Tryz.prog 4 false:=⟨by kernel_rfl⟩
instance tSize4:TSize Tryz.prog 4 1:=⟨by kernel_rfl⟩
instance tZe4:TZe Tryz.prog 4 [.bool false]:=⟨by kernel_rfl⟩
instance tBy4:TBy Tryz.prog 4 1:=⟨by kernel_rfl⟩
instance tAg9:TAg Tryz.prog 9 false:=⟨by kernel_rfl⟩
instance tSize9:TSize Tryz.prog 9 1:=⟨by kernel_rfl⟩
instance tZe9:TZe Tryz.prog 9 [.string ByteArray.empty]:=⟨by kernel_rfl⟩
instance tSg9:TSg Tryz.prog 9:=⟨by kernel_rfl⟩
instance tAg22:TAg Tryz.prog 22 false:=⟨by kernel_rfl⟩
instance tSize22:TSize Tryz.prog 22 1:=⟨by kernel_rfl⟩
instance tZe22:TZe Tryz.prog 22 [.slice none 0 0]:=⟨by kernel_rfl⟩
instance tEl22:TEl Tryz.prog 22 3:=⟨by kernel_rfl⟩
instance tRo22:TRo Tryz.prog 22 3 1 8:=⟨by kernel_rfl⟩
instance tAg23:TAg Tryz.prog 23 false:=⟨by kernel_rfl⟩
instance tSize23:TSize Tryz.prog 23 1:=⟨by kernel_rfl⟩
instance tEl23:TEl Tryz.prog 23 118:=⟨by kernel_rfl⟩
instance tRo23:TRo Tryz.prog 23 118 2 40:=⟨by kernel_rfl⟩
instance tAg24:TAg Tryz.prog 24 false:=⟨by kernel_rfl⟩
instance tSize24:TSize Tryz.prog 24 1:=⟨by kernel_rfl⟩
instance tEl24:TEl Tryz.prog 24 71:=⟨by kernel_rfl⟩
instance tRo24:TRo Tryz.prog 24 71 3 40:=⟨by kernel_rfl⟩
instance tAg26:TAg Tryz.prog 26 true:=⟨by kernel_rfl⟩
instance tSize26:TSize Tryz.prog 26 3:=⟨by kernel_rfl⟩
instance tZe26:TZe Tryz.prog 26 [.slice none 0 0,.slice none 0 0,.slice none 0 0]:=⟨by kernel_rfl⟩
instance tFl26_0:TFl Tryz.prog 26 0 0 23:=⟨by kernel_rfl⟩
instance tFl26_1:TFl Tryz.prog 26 1 1 22:=⟨by kernel_rfl⟩
instance tFl26_2:TFl Tryz.prog 26 2 2 24:=⟨by kernel_rfl⟩
instance tSt26:TSt Tryz.prog 26 [.slice none 0 0,.slice none 0 0,.slice none 0 0] [(0,1),(1,1),(2,1)]:=⟨by kernel_rfl⟩
instance tAg32:TAg Tryz.prog 32 true:=⟨by kernel_rfl⟩
instance tSize32:TSize Tryz.prog 32 2:=⟨by kernel_rfl⟩
instance tZe32:TZe Tryz.prog 32 [.int .i64 0,.int .i64 0]:=⟨by kernel_rfl⟩
instance tFl32_0:TFl Tryz.prog 32 0 0 3:=⟨by kernel_rfl⟩
instance tFl32_1:TFl Tryz.prog 32 1 1 3:=⟨by kernel_rfl⟩
instance tSt32:TSt Tryz.prog 32 [.int .i64 0,.int .i64 0] [(0,1),(1,1)]:=⟨by kernel_rfl⟩
instance tAg42:TAg Tryz.prog 42 true:=⟨by kernel_rfl⟩
instance tSize42:TSize Tryz.prog 42 2:=⟨by kernel_rfl⟩
instance tZe42:TZe Tryz.prog 42 [.int .i64 0,.slice none 0 0]:=⟨by kernel_rfl⟩
instance tBy42:TBy Tryz.prog 42 32:=⟨by kernel_rfl⟩
instance tFl42_0:TFl Tryz.prog 42 0 0 3:=⟨by kernel_rfl⟩
instance tFl42_1:TFl Tryz.prog 42 1 1 22:=⟨by kernel_rfl⟩
instance tSt42:TSt Tryz.prog 42 [.int .i64 0,.slice none 0 0] [(0,1),(1,1)]:=⟨by kernel_rfl⟩
instance tEl52:TEl Tryz.prog 52 58:=⟨by kernel_rfl⟩
instance tRo52:TRo Tryz.prog 52 58 3 24:=⟨by kernel_rfl⟩
instance tAg58:TAg Tryz.prog 58 true:=⟨by kernel_rfl⟩
instance tSize58:TSize Tryz.prog 58 3:=⟨by kernel_rfl⟩
instance tZe58:TZe Tryz.prog 58 [.int .i64 0,.int .i64 0,.int .i64 0]:=⟨by kernel_rfl⟩
instance tFl58_0:TFl Tryz.prog 58 0 0 3:=⟨by kernel_rfl⟩
instance tFl58_1:TFl Tryz.prog 58 1 1 3:=⟨by kernel_rfl⟩
instance tFl58_2:TFl Tryz.prog 58 2 2 3:=⟨by kernel_rfl⟩
instance tSt58:TSt Tryz.prog 58 [.int .i64 0,.int .i64 0,.int .i64 0] [(0,1),(1,1),(2,1)]:=⟨by kernel_rfl⟩
instance tAg68:TAg Tryz.prog 68 true:=⟨by kernel_rfl⟩
instance tSize68:TSize Tryz.prog 68 2:=⟨by kernel_rfl⟩
instance tZe68:TZe Tryz.prog 68 [.int .i64 0,.int .i64 0]:=⟨by kernel_rfl⟩
instance tAg69:TAg Tryz.prog 69 false:=⟨by kernel_rfl⟩
instance tSize69:TSize Tryz.prog 69 1:=⟨by kernel_rfl⟩
instance tEl69:TEl Tryz.prog 69 42:=⟨by kernel_rfl⟩
instance tRo69:TRo Tryz.prog 69 42 2 32:=⟨by kernel_rfl⟩
instance tAg71:TAg Tryz.prog 71 true:=⟨by kernel_rfl⟩
instance tSize71:TSize Tryz.prog 71 3:=⟨by kernel_rfl⟩
instance tZe71:TZe Tryz.prog 71 [.int .i64 0,.int .i64 0,.slice none 0 0]:=⟨by kernel_rfl⟩
instance tFl71_0:TFl Tryz.prog 71 0 0 32:=⟨by kernel_rfl⟩
instance tFl71_1:TFl Tryz.prog 71 1 2 69:=⟨by kernel_rfl⟩
instance tSt71:TSt Tryz.prog 71 [.int .i64 0,.int .i64 0,.slice none 0 0] [(0,2),(2,1)]:=⟨by kernel_rfl⟩
instance tEl79:TEl Tryz.prog 79 159:=⟨by kernel_rfl⟩
instance tRo79:TRo Tryz.prog 79 159 5 56:=⟨by kernel_rfl⟩
instance tAg90:TAg Tryz.prog 90 false:=⟨by kernel_rfl⟩
instance tSize90:TSize Tryz.prog 90 1:=⟨by kernel_rfl⟩
instance tEl90:TEl Tryz.prog 90 22:=⟨by kernel_rfl⟩
instance tRo90:TRo Tryz.prog 90 22 1 24:=⟨by kernel_rfl⟩
instance tFl112_0:TFl Tryz.prog 112 0 0 22:=⟨by kernel_rfl⟩
instance tSt112:TSt Tryz.prog 112 [.slice none 0 0] [(0,1)]:=⟨by kernel_rfl⟩
instance tAg116:TAg Tryz.prog 116 false:=⟨by kernel_rfl⟩
instance tSize116:TSize Tryz.prog 116 1:=⟨by kernel_rfl⟩
instance tEl116:TEl Tryz.prog 116 120:=⟨by kernel_rfl⟩
instance tRo116:TRo Tryz.prog 116 120 3 32:=⟨by kernel_rfl⟩
instance tAg118:TAg Tryz.prog 118 true:=⟨by kernel_rfl⟩
instance tSize118:TSize Tryz.prog 118 2:=⟨by kernel_rfl⟩
instance tZe118:TZe Tryz.prog 118 [.string ByteArray.empty,.slice none 0 0]:=⟨by kernel_rfl⟩
instance tBy118:TBy Tryz.prog 118 40:=⟨by kernel_rfl⟩
instance tFl118_0:TFl Tryz.prog 118 0 0 9:=⟨by kernel_rfl⟩
instance tFl118_1:TFl Tryz.prog 118 1 1 116:=⟨by kernel_rfl⟩
instance tSt118:TSt Tryz.prog 118 [.string ByteArray.empty,.slice none 0 0] [(0,1),(1,1)]:=⟨by kernel_rfl⟩
instance tAg120:TAg Tryz.prog 120 true:=⟨by kernel_rfl⟩
instance tSize120:TSize Tryz.prog 120 3:=⟨by kernel_rfl⟩
instance tZe120:TZe Tryz.prog 120 [.string ByteArray.empty,.int .i64 0,.int .i64 0]:=⟨by kernel_rfl⟩
instance tFl120_0:TFl Tryz.prog 120 0 0 9:=⟨by kernel_rfl⟩
instance tFl120_1:TFl Tryz.prog 120 1 1 3:=⟨by kernel_rfl⟩
instance tFl120_2:TFl Tryz.prog 120 2 2 3:=⟨by kernel_rfl⟩
instance tSt120:TSt Tryz.prog 120 [.string ByteArray.empty,.int .i64 0,.int .i64 0] [(0,1),(1,1),(2,1)]:=⟨by kernel_rfl⟩
instance tAg140:TAg Tryz.prog 140 false:=⟨by kernel_rfl⟩
instance tSize140:TSize Tryz.prog 140 1:=⟨by kernel_rfl⟩
instance tAg141:TAg Tryz.prog 141 false:=⟨by kernel_rfl⟩
instance tSize141:TSize Tryz.prog 141 1:=⟨by kernel_rfl⟩
instance tEl141:TEl Tryz.prog 141 145:=⟨by kernel_rfl⟩
instance tRo141:TRo Tryz.prog 141 145 1 8:=⟨by kernel_rfl⟩
instance tFl143_0:TFl Tryz.prog 143 0 0 23:=⟨by kernel_rfl⟩
instance tFl143_1:TFl Tryz.prog 143 1 1 22:=⟨by kernel_rfl⟩
instance tFl143_2:TFl Tryz.prog 143 2 2 141:=⟨by kernel_rfl⟩
instance tFl143_3:TFl Tryz.prog 143 3 3 140:=⟨by kernel_rfl⟩
instance tSt143:TSt Tryz.prog 143 [.slice none 0 0,.slice none 0 0,.slice none 0 0,.map none] [(0,1),(1,1),(2,1),(3,1)]:=⟨by kernel_rfl⟩
instance tAg145:TAg Tryz.prog 145 false:=⟨by kernel_rfl⟩
instance tSize145:TSize Tryz.prog 145 1:=⟨by kernel_rfl⟩
instance tZe145:TZe Tryz.prog 145 [.pointer none]:=⟨by kernel_rfl⟩
instance tAg148:TAg Tryz.prog 148 false:=⟨by kernel_rfl⟩
instance tSize148:TSize Tryz.prog 148 1:=⟨by kernel_rfl⟩
instance tAg149:TAg Tryz.prog 149 false:=⟨by kernel_rfl⟩
instance tSize149:TSize Tryz.prog 149 1:=⟨by kernel_rfl⟩
instance tEl149:TEl Tryz.prog 149 252:=⟨by kernel_rfl⟩
instance tRo149:TRo Tryz.prog 149 252 1 8:=⟨by kernel_rfl⟩
instance tFl151_0:TFl Tryz.prog 151 0 0 22:=⟨by kernel_rfl⟩
instance tFl151_1:TFl Tryz.prog 151 1 1 148:=⟨by kernel_rfl⟩
instance tFl151_2:TFl Tryz.prog 151 2 2 149:=⟨by kernel_rfl⟩
instance tSt151:TSt Tryz.prog 151 [.slice none 0 0,.pointer none,.slice none 0 0] [(0,1),(1,1),(2,1)]:=⟨by kernel_rfl⟩
instance tAg159:TAg Tryz.prog 159 true:=⟨by kernel_rfl⟩
instance tSize159:TSize Tryz.prog 159 5:=⟨by kernel_rfl⟩
instance tZe159:TZe Tryz.prog 159 [.int .i64 0,.int .i64 0,.int .i64 0,.int .i64 0,.slice none 0 0]:=⟨by kernel_rfl⟩
instance tFl159_0:TFl Tryz.prog 159 0 0 3:=⟨by kernel_rfl⟩
instance tFl159_1:TFl Tryz.prog 159 1 1 32:=⟨by kernel_rfl⟩
instance tFl159_2:TFl Tryz.prog 159 2 3 3:=⟨by kernel_rfl⟩
instance tFl159_3:TFl Tryz.prog 159 3 4 69:=⟨by kernel_rfl⟩
instance tSt159:TSt Tryz.prog 159 [.int .i64 0,.int .i64 0,.int .i64 0,.int .i64 0,.slice none 0 0] [(0,1),(1,2),(3,1),(4,1)]:=⟨by kernel_rfl⟩
instance tAg160:TAg Tryz.prog 160 false:=⟨by kernel_rfl⟩
instance tSize160:TSize Tryz.prog 160 1:=⟨by kernel_rfl⟩
instance tZe160:TZe Tryz.prog 160 [.slice none 0 0]:=⟨by kernel_rfl⟩
instance tEl160:TEl Tryz.prog 160 32:=⟨by kernel_rfl⟩
instance tRo160:TRo Tryz.prog 160 32 2 16:=⟨by kernel_rfl⟩
instance tEl163:TEl Tryz.prog 163 26:=⟨by kernel_rfl⟩
instance tAg169:TAg Tryz.prog 169 false:=⟨by kernel_rfl⟩
instance tSize169:TSize Tryz.prog 169 1:=⟨by kernel_rfl⟩
instance tFl171_0:TFl Tryz.prog 171 0 0 169:=⟨by kernel_rfl⟩
instance tFl171_1:TFl Tryz.prog 171 1 1 3:=⟨by kernel_rfl⟩
instance tSt171:TSt Tryz.prog 171 [.map none,.int .i64 0] [(0,1),(1,1)]:=⟨by kernel_rfl⟩
instance tEl232:TEl Tryz.prog 232 9:=⟨by kernel_rfl⟩
instance tEl241:TEl Tryz.prog 241 4:=⟨by kernel_rfl⟩
instance tAg252:TAg Tryz.prog 252 false:=⟨by kernel_rfl⟩
instance tSize252:TSize Tryz.prog 252 1:=⟨by kernel_rfl⟩
instance tZe252:TZe Tryz.prog 252 [.pointer none]:=⟨by kernel_rfl⟩
instance tAg257:TAg Tryz.prog 257 false:=⟨by kernel_rfl⟩
instance tSize257:TSize Tryz.prog 257 1:=⟨by kernel_rfl⟩
instance tFl259_0:TFl Tryz.prog 259 0 0 160:=⟨by kernel_rfl⟩
instance tFl259_1:TFl Tryz.prog 259 1 1 22:=⟨by kernel_rfl⟩
instance tFl259_2:TFl Tryz.prog 259 2 2 257:=⟨by kernel_rfl⟩
instance tSt259:TSt Tryz.prog 259 [.slice none 0 0,.slice none 0 0,.map none] [(0,1),(1,1),(2,1)]:=⟨by kernel_rfl⟩
instance tFl314_0:TFl Tryz.prog 314 0 0 90:=⟨by kernel_rfl⟩
instance tFl314_1:TFl Tryz.prog 314 1 1 22:=⟨by kernel_rfl⟩
instance tFl314_2:TFl Tryz.prog 314 2 2 257:=⟨by kernel_rfl⟩
instance tSt314:TSt Tryz.prog 314 [.slice none 0 0,.slice none 0 0,.map none] [(0,1),(1,1),(2,1)]:=⟨by kernel_rfl⟩
instance tAg355:TAg Tryz.prog 355 false:=⟨by kernel_rfl⟩
instance tSize355:TSize Tryz.prog 355 1:=⟨by kernel_rfl⟩
instance tZe355:TZe Tryz.prog 355 [.int .u64 0]:=⟨by kernel_rfl⟩
abbrev iA(n:Int):AV:=.prim (.int .i64 n)
abbrev bA(b:Bool):AV:=.prim (.bool b)
abbrev sA(l:List UInt8):AV:=.prim (Cm l)
def fieldA(f:Field):AV:=.agg [sA f.name,iA f.bits,iA f.low]
abbrev Gg(o:Bool)(l:List Field):AV:=.lst o 120 3 (l.map fieldA)
def BD(o:Bool)(k:Kind):AV:=.agg [sA k.name,Gg o k.fields]
abbrev A3(o o':Bool)(l:List Kind):AV:=.lst o 118 2 (l.map (BD o'))
abbrev AW(o:Bool)(l:List Int):AV:=.lst o 3 1 (l.map iA)
instance {f:Field}:Frz (fieldA f) (fieldA f):=⟨rfl⟩
instance {o:Bool}{k:Kind}:Frz (BD o k) (BD false k):=⟨by unfold BD;exact Frz.h⟩
def AG(o:Bool)(c:Comp):AV:=.agg [iA c.kind,AW o c.vals]
abbrev As(o o':Bool)(l:List Comp):AV:=.lst o 42 2 (l.map (AG o'))
def AD(o:Bool)(x:Item):AV:=.agg [iA x.ent.n,iA x.ent.gen,As o o x.comps]
abbrev G6(o o':Bool)(l:List Item):AV:=.lst o 71 3 (l.map (AD o'))
def wdA(o:Bool)(w:Wd):AV:=.agg [A3 o o w.kinds,AW o w.gens,G6 o o w.items]
def Ac(e:Ent):AV:=.agg [iA e.n,iA e.gen]
instance {e:Ent}:Frz (Ac e) (Ac e):=⟨rfl⟩
instance {o:Bool}{k:Comp}:Frz (AG o k) (AG false k):=⟨by unfold AG;exact Frz.h⟩
instance {o:Bool}{k:Item}:Frz (AD o k) (AD false k):=⟨by unfold AD;exact Frz.h⟩
instance {o:Bool}{k:Wd}:Frz (wdA o k) (wdA false k):=⟨by unfold wdA;exact Frz.h⟩
theorem Ou{α:Type}(f:α->AV)(h:∀a,(f a).frz=f a)(l:List α):An (l.map f)=l.map f:=by
 rw[D9,List.map_map];exact List.map_congr_left λa _=>h a
theorem Oo(o:Bool)(l:List Int):(AW o l).frz=AW false l:=by
 show AV.lst false _ _ (An (l.map iA))=_
 rw[Ou _ λ_=>rfl]
theorem SU(a b c d:Int)(w:World):(binOp .eql 32 (.agg #[.int .i64 a,.int .i64 b]) (.agg #[.int .i64 c,.int .i64 d])).run Tryz.prog w= .ok (.bool (decide (a=c)&&decide (b=d))) w:=
 Rn (by kernel_rfl) (by kernel_rfl) (by kernel_rfl) a b c d w
theorem Ed(a:Int):PS Tryz.prog 138 [iA a] (bA false):=by
 refine Spec.of (nt:=6) (res:=[.tmp 2]) Tryz.func138 rfl (by kernel_rfl) rfl rfl rfl λSf=>?_
 (repeat first|refine WK ?_|refine Ai λX=>?_|refine Ay λY=>?_);refine RT ?_;refine AX ?_;have:decide (a≠a)=false:=decide_eq_false (by simp);rw[this]
def B6(a b:Int):Int:=if a<b then-1 else if b<a then 1 else 0
theorem C1(a b:Int):PS Tryz.prog 65 [iA a,iA b] (iA (B6 a b)):=by
 refine Spec.of (nt:=20) (res:=[.tmp 4]) Tryz.func65 rfl (by kernel_rfl) rfl rfl rfl λSf=>?_
 (repeat first|(refine AOps.gN ?_;first|(refine AOps.g_callf ?_;first|refine AOps.c1 (h:=(Ed a)) (k:=?_)|refine AOps.c1 (h:=(Ed b)) (k:=?_)))|refine WK ?_|refine Ai λX=>?_|refine Ay λY=>?_);refine AE rfl rfl ?_;(repeat first|refine WK ?_|refine Ai λX=>?_|refine Ay λY=>?_);refine AE rfl rfl ?_;(repeat first|refine WK ?_|refine Ai λX=>?_|refine Ay λY=>?_);refine AWP.cond rfl (λh=>?_) (λh=>?_)
 ·have h:a<b:=by simpa using h
  (repeat first|refine WK ?_|refine Ai λX=>?_|refine Ay λY=>?_);refine RT ?_;refine AX ?_;rw[B6,if_pos h]
 ·have h:¬a<b:=by simpa using h
  (repeat first|refine WK ?_|refine Ai λX=>?_|refine Ay λY=>?_);refine AWP.cond rfl (λh2=>?_) (λh2=>?_)
  ·have h2:b<a:=by simpa using h2
   (repeat first|refine WK ?_|refine Ai λX=>?_|refine Ay λY=>?_);refine RT ?_;refine AX ?_;rw[B6,if_neg h,if_pos h2]
  ·have h2:¬b<a:=by simpa using h2
   (repeat first|refine WK ?_|refine Ai λX=>?_|refine Ay λY=>?_);refine RT ?_;refine AX ?_;rw[B6,if_neg h,if_neg h2]
def E6{α:Type}(l:List α)(p:α->Bool):Int:=match l.findIdx? p with
 |some i=>i
 |none=>-1
theorem J7{α:Type}{l:List α}{p:α->Bool}(h:∀j (hj:j<l.length),p l[j]=false):E6 l p= -1:=by
 have:l.findIdx? p=none:=by
  rw[List.findIdx?_eq_none_iff];intro x hx;obtain⟨j,hj,rfl⟩:=List.getElem_of_mem hx;exact h j hj
 simp[E6,this]
theorem J6{α:Type}{l:List α}{p:α->Bool}{i:Nat}(hi:i<l.length)(e:p l[i]=true)(h:∀j (hj:j<i),p (l[j]'(by omega))=false):E6 l p=i:=by
 have:l.findIdx? p=some i:=by
  rw[List.findIdx?_eq_some_iff_getElem];exact⟨hi,e,λj hj=>by simpa using h j hj⟩
 simp[E6,this]
theorem P7{α:Type}(l:List α)(p:α->Bool):decide ((0:Int)<=E6 l p)=l.any p:=by
 unfold E6;cases h:l.findIdx? p with
 |none=>
  rw[List.findIdx?_eq_none_iff]at h;have:l.any p=false:=List.any_eq_false.2 λx hx=>by rw[h x hx];simp
  rw[this];rfl
 |some i=>
  obtain⟨hi,e,_⟩:=List.findIdx?_eq_some_iff_getElem.1 h;have:l.any p=true:=List.any_eq_true.2 ⟨_,List.getElem_mem hi,e⟩;rw[this];simp
theorem M5{α:Type}(l:List α)(p:α->Bool): -1<=E6 l p/\E6 l p<l.length/\E6 l p<=l.length:=by
 unfold E6;cases h:l.findIdx? p with
 |none=>simp;omega
 |some i=>
  obtain⟨hi,_⟩:=List.findIdx?_eq_some_iff_getElem.1 h;simp;omega
def Hh{α:Type}(g:α->Int)(l:List α):Prop:=∀(a b:Nat) (x y:α),a<=b->l[a]?=some x->l[b]?=some y->g y<0->g x<0
def Spl{α:Type}(g:α->Int)(l:List α)(i j:Nat):Prop:=(∀(k:Nat) (x:α),k<i->l[k]?=some x->g x<0)/\∀(k:Nat) (x:α),j<=k->l[k]?=some x->¬g x<0
structure Found{α:Type}(g:α->Int)(l:List α)(r:Nat×Bool):Prop where
 le:r.1<=l.length
 eq:r.2=true↔∃x,l[r.1]?=some x/\g x=0
 mono:Hh g l->Spl g l r.1 r.1
theorem Spl.lo{α:Type}{g:α->Int}{l:List α}{i j m:Nat}{y:α}(hM:Hh g l)(h:Spl g l i j)(hy:l[m]?=some y)(hg:g y<0):Spl g l (m+1) j:=
 ⟨λk x hk hx=>hM k m x y (by omega) hx hy hg,h.2⟩
theorem Spl.hi{α:Type}{g:α->Int}{l:List α}{i j m:Nat}{y:α}(hM:Hh g l)(h:Spl g l i j)(hy:l[m]?=some y)(hg:¬g y<0):Spl g l i m:=
 ⟨h.1,λk x hk hx hx0=>hg (hM m k y x hk hy hx hx0)⟩
def CP(l:List Item)(e:Ent):Int:=E6 l λx=>decide (x.ent=e)
theorem LR(l:List Item)(t:AV)(f:FuncId)(cap:List AV)(g:Item->Int)(t0:Int)(ht:t=iA t0)(hs:Bd cap=true)(hl:l.length<=4611686018427387904)(hf:∀x∈l,PS Tryz.prog f (AD false x::t::cap) (iA (g x))):
  Spec Tryz.prog 63 [G6 false false l,t,.fn f cap] [] λr S'=>∃b,Found g l b/\r= .tup [iA b.1,bA b.2]/\S'=[]:=by
 subst ht;refine Spec.of (nt:=49) (res:=[.tmp 6,.tmp 7]) Tryz.func63 rfl (by kernel_rfl) rfl rfl rfl λSf=>?_
 have hlm:(l.map (AD false)).length=l.length:=List.length_map _;(repeat first|refine WK ?_|refine Ai λX=>?_|refine Ay λY=>?_);refine BH (λ(i j:Nat)=>⟨[(0,G6 false false l),(1,iA t0),(2,.fn f cap),(8,iA (l.map (AD false)).length),(9,iA i),(10,iA j)],Sf⟩) (λi j=>i<=j/\j<=l.length/\(Hh g l->Spl g l i j)) (λi j=>j-i) 0 (l.map (AD false)).length ⟨Nat.zero_le _,by omega,λ_=>⟨λk x h=>absurd h (by omega),λk x h hx=>by have:=(List.getElem?_eq_some_iff.1 hx).1;omega⟩⟩ ?_;rintro i j ⟨hij,hjn,hmono⟩;(repeat first|refine WK ?_|refine Ai λX=>?_|refine Ay λY=>?_);refine AWP.cond rfl (λhc=>?_) (λhc=>?_)
 ·have h:i<j:=by rw[decide_eq_true_eq]at hc;omega
  have hmid:((i:Int)+j).fdiv (2^1)=(((i+j)/2:Nat):Int):=by
   rw[Int.fdiv_eq_ediv_of_nonneg _ (by decide)];omega
  have hw1:IntKind.u64.wrap ((i:Int)+j)=i+j:=by rw[IntKind.wrap_u64];omega
  have hw2:IntKind.i64.wrap (((i:Int)+j).fdiv (2^1))=((i:Int)+j).fdiv (2^1):=by
   rw[IntKind.wrap_i64,hmid];omega
  refine RG ?_;(repeat first|(refine AOps.gN ?_;first|refine AOps.p (W.conv .i64 .u64 (by kernel_rfl) (by kernel_rfl) rfl hw1) rfl ?_|refine AOps.p (W.shr 1 rfl rfl rfl (by decide)) rfl ?_|refine AOps.p (W.conv .u64 .i64 (by kernel_rfl) (by kernel_rfl) rfl hw2) rfl ?_)|refine WO ?_|refine Ai λX=>?_|refine Ay λY=>?_);refine NL ?_;rw[hmid];obtain⟨m,hm⟩:∃m,(i+j)/2=m:=⟨_,rfl⟩;rw[hm];have hml:m<l.length:=by omega
  obtain⟨y,hy⟩:∃y,l[m]=y:=⟨_,rfl⟩;have hya:l[m]?=some y:=by rw[List.getElem?_eq_getElem hml,hy]
  have hat:(l.map (AD false))[m]?=some (AD false y):=by rw[List.getElem?_map,hya];rfl
  have hfy:=hf y (by rw[<-hy];exact List.getElem_mem hml);refine RG ?_;(repeat first|(refine AOps.gN ?_;first|(refine AOps.g_callv ?_;first|refine AOps.k2 (h:=(hfy ..)) (k:=?_)))|refine WO ?_|refine Ai λX=>?_|refine Ay λY=>?_);refine NL ?_;refine AWP.cond rfl (λhe=>?_) (λhe=>?_)
  ·have he:g y<0:=by simpa using he
   (repeat first|refine WK ?_|refine Ai λX=>?_|refine Ay λY=>?_);refine Ae (m+1) j ⟨by omega,hjn,λhM=>(hmono hM).lo hM hya he⟩
  ·have he:¬g y<0:=by simpa using he
   (repeat first|refine WK ?_|refine Ai λX=>?_|refine Ay λY=>?_);refine Ae i m ⟨by omega,by omega,λhM=>(hmono hM).hi hM hya he⟩
 ·have h:i=j:=by rw[decide_eq_false_iff_not]at hc;omega
  subst h;by_cases hin:i<l.length
  ·have hil:i<l.length:=by omega
   have g1:decide ((i:Int)<(l.map (AD false)).length)=true:=decide_eq_true (by omega);obtain⟨y,hy⟩:∃y,l[i]=y:=⟨_,rfl⟩;have hya:l[i]?=some y:=by rw[List.getElem?_eq_getElem hil,hy]
   have hat:(l.map (AD false))[i]?=some (AD false y):=by rw[List.getElem?_map,hya];rfl
   have hfy:=hf y (by rw[<-hy];exact List.getElem_mem hil);(repeat first|(refine AOps.gN ?_;first|(refine AOps.g_callv ?_;first|refine AOps.k2 (h:=(hfy ..)) (k:=?_)))|refine WK ?_|refine Ai λX=>?_|refine Ay λY=>?_);refine RT ?_;exact⟨[iA i,bA (decide (g y=0))],[iA i,bA (decide (g y=0))],_,[],.cons (.tmp rfl) rfl (.cons (.tmp rfl) rfl .nil),.cons (.cell .same) (.cons (.cell .same) .nil),by exact Sub.f,(i,decide (g y=0)),⟨by simp;omega,by simp[hya],hmono⟩,rfl,rfl⟩
  ·have g1:decide ((i:Int)<(l.map (AD false)).length)=false:=decide_eq_false (by omega)
   (repeat first|refine WK ?_|refine Ai λX=>?_|refine Ay λY=>?_);refine RT ?_;exact⟨[iA i,bA false],[iA i,bA false],_,[],.cons (.tmp rfl) rfl (.cons (.tmp rfl) rfl .nil),.cons (.cell .same) (.cons (.cell .same) .nil),by exact Sub.f,(i,false),⟨by simp;omega,by simp[List.getElem?_eq_none (show l.length<=i by omega)],hmono⟩,rfl,rfl⟩
def Ao(l:List Int)(n:Int):Int:=if n<1 then 0 else match l with|[]=>0|x::_=>x%n
def Ad(l:List Int)(n:Int):List Int:=if n<1 then l else l.tail
theorem Ah(l:List Int){n:Int}(h:1<=n):0<=Ao l n/\Ao l n<n:=by
 unfold Ao;rw[if_neg (by omega)];split
 ·omega
 ·rename_i x _
  exact⟨Int.emod_nonneg x (by omega),Int.emod_lt_of_pos x (by omega)⟩
def DD(k:Nat):List UInt8:=match k with
 |0=>[115,112,111,116]
 |1=>[108,105,102,101]
 |2=>[116,101,97,109]
 |_=>[103,111,97,108]
def B0(k:Nat):List UInt8:=match k with
 |0=>[120]
 |1=>[121]
 |_=>[122]
def Bx(i:Nat)(l:List Int):Field×List Int:=
 if Ao (Ad (Ad l 9) 40) 8=7 then(⟨B0 i,32,-2147483648⟩,Ad (Ad (Ad l 9) 40) 8)
 else(⟨B0 i,1+Ao l 9,Ao (Ad l 9) 40-30⟩,Ad (Ad (Ad l 9) 40) 8)
def BJ:Nat->Nat->List Int->List Field×List Int
 |_,0,l=>([],l)
 |i,c+1,l=>((Bx i l).1::(BJ (i+1) c (Bx i l).2).1,(BJ (i+1) c (Bx i l).2).2)
def Cp(k:Nat)(l:List Int):Kind×List Int:=
 (⟨DD k,(BJ 0 (1+Ao l 3).toNat (Ad l 3)).1⟩,(BJ 0 (1+Ao l 3).toNat (Ad l 3)).2)
def Ap:Nat->Nat->List Int->List Kind×List Int
 |_,0,l=>([],l)
 |k,c+1,l=>((Cp k l).1::(Ap (k+1) c (Cp k l).2).1,(Ap (k+1) c (Cp k l).2).2)
def Aa(l:List Int):List Kind×List Int:=Ap 0 (1+Ao l 4).toNat (Ad l 4)
theorem FJ(x n:Int)(hn:1<=n)(h2:n<=4611686018427387904):PS Tryz.prog 67 [iA x,iA n] (iA (x%n)):=by
 refine Spec.of (nt:=14) (res:=[.tmp 4]) Tryz.func67 rfl (by kernel_rfl) rfl rfl rfl λSf=>?_
 have h3:x.tmod n<n:=Int.tmod_lt_of_pos _ (by omega)
 have h4: -n<x.tmod n:=by
  have:=Int.lt_tmod_of_pos x (b:=n) (by omega);exact this
 have h5:x.tmod n=x%n\/x.tmod n+n=x%n/\x.tmod n<0:=by
  rw[Int.tmod_eq_emod];split
  ·exact .inl (by simp)
  ·have:=Int.emod_nonneg x (b:=n) (by omega)
   have:=Int.emod_lt_of_pos x (b:=n) (by omega);refine .inr ?_;have:((n.natAbs:Nat):Int)=n:=by omega
   omega
 have h6:=Int.emod_nonneg x (b:=n) (by omega);(repeat first|(refine AOps.gN ?_;first|refine AOps.p (W.rem rfl rfl (by omega)) rfl ?_)|refine WK ?_|refine Ai λX=>?_|refine Ay λY=>?_);refine AWP.cond rfl (λhb=>?_) (λhb=>?_)
 ·have hb:x.tmod n<0:=by simpa using hb
  (repeat first|refine WK ?_|refine Ai λX=>?_|refine Ay λY=>?_);refine RT ?_;exact Al rfl rfl (by exact Sub.f) ⟨by rw[show x.tmod n+n=x%n from by omega],rfl⟩
 ·have hb:¬x.tmod n<0:=by simpa using hb
  (repeat first|refine WK ?_|refine Ai λX=>?_|refine Ay λY=>?_);refine RT ?_;exact Al rfl rfl (by exact Sub.f) ⟨by rw[show x.tmod n=x%n from by omega],rfl⟩
abbrev CZ(l:List Int):AO:=.row 112 1 [.agg [AW false l]]
theorem Cw(X:Nat)(l:List Int)(n:Int)(h2:n<=4611686018427387904):PO Tryz.prog 52 [.ptr X 0 0,iA n] X (CZ l) (iA (Ao l n)) (CZ (Ad l n)):=by
 refine Spec.of (nt:=33) (res:=[.tmp 4]) Tryz.func52 rfl (by kernel_rfl) rfl rfl rfl λSf=>?_
 (repeat first|refine WK ?_|refine Ai λX=>?_|refine Ay λY=>?_);refine AWP.cond rfl (λhb=>?_) (λhb=>?_)
 ·(repeat first|refine WK ?_|refine Ai λX=>?_|refine Ay λY=>?_)
  refine RT ?_;have hb:l.length=0\/n<1:=by simp only[Bool.or_eq_true,decide_eq_true_eq,List.length_map]at hb;omega
  have e1:Ao l n=0:=by
   unfold Ao;split
   ·rfl
   ·rcases hb with hb|hb
    ·rw[List.length_eq_zero_iff.1 hb]
    ·omega
  have e2:Ad l n=l:=by
   unfold Ad;split
   ·rfl
   ·rcases hb with hb|hb
    ·rw[List.length_eq_zero_iff.1 hb];rfl
    ·omega
  rw[e1,e2];exact Hj rfl rfl (by exact Sub.f) ⟨rfl,rfl⟩
 ·have hb:l.length≠0/\1<=n:=by simp only[Bool.or_eq_false_iff,decide_eq_false_iff_not,List.length_map]at hb;omega
  obtain⟨hb,hn⟩:=hb;cases l with
  |nil=>exact absurd rfl hb
  |cons x l=>
  (repeat first|(refine AOps.gN ?_;first|refine AOps.p (W.idxL rfl rfl (a:=0) rfl rfl) rfl ?_|refine AOps.p (W.loL rfl rfl (a:=1) rfl (by simp)) rfl ?_|refine AOps.p (W.call2 rfl rfl (FJ _ _ hn h2) rfl) rfl ?_)|refine WK ?_|refine Ai λX=>?_|refine Ay λY=>?_);refine RT ?_;rw[show Ao (x::l) n=x%n from by unfold Ao;rw[if_neg (by omega)],show Ad (x::l) n=l from by unfold Ad;rw[if_neg (by omega)];rfl];exact Hj (S':=[(X,CZ l)]) rfl rfl (by exact Sub.f) ⟨rfl,rfl⟩
def fAt:Nat->List Int->List Field×List Int
 |0,l=>([],l)
 |i+1,l=>((fAt i l).1++[(Bx i (fAt i l).2).1],(Bx i (fAt i l).2).2)
def kAt:Nat->List Int->List Kind×List Int
 |0,l=>([],l)
 |i+1,l=>((kAt i l).1++[(Cp i (kAt i l).2).1],(Cp i (kAt i l).2).2)
theorem Rl(i:Nat)(l:List Int):(fAt i l).1.length=i:=by
 induction i with
 |zero=>rfl
 |succ i ih=>simp[fAt,ih]
theorem Nu(i:Nat)(l:List Int):(kAt i l).1.length=i:=by
 induction i with
 |zero=>rfl
 |succ i ih=>simp[kAt,ih]
theorem Rm(c i:Nat)(l:List Int):((fAt i l).1++(BJ i c (fAt i l).2).1,(BJ i c (fAt i l).2).2)=fAt (i+c) l:=by
 induction c generalizing i with
 |zero=>simp[BJ]
 |succ c ih=>
  rw[show i+(c+1)=(i+1)+c from by omega,<-ih (i+1)];simp[BJ,fAt]
theorem RX(c i:Nat)(l:List Int):((kAt i l).1++(Ap i c (kAt i l).2).1,(Ap i c (kAt i l).2).2)=kAt (i+c) l:=by
 induction c generalizing i with
 |zero=>simp[Ap]
 |succ c ih=>
  rw[show i+(c+1)=(i+1)+c from by omega,<-ih (i+1)];simp[Ap,kAt]
theorem Ge(c:Nat)(l:List Int):BJ 0 c l=fAt c l:=by
 have:=Rm c 0 l;simpa[fAt]using this
theorem EI(l:List Int):Aa l=kAt (1+Ao l 4).toNat (Ad l 4):=by
 have:=RX (1+Ao l 4).toNat 0 (Ad l 4);simpa[kAt,Aa]using this
theorem Ol{i:Nat}(h:i<4):[sA [115,112,111,116],sA [108,105,102,101],sA [116,101,97,109],sA [103,111,97,108]][i]?=some (sA (DD i)):=by
 have:i=0\/i=1\/i=2\/i=3:=by omega
 rcases this with rfl|rfl|rfl|rfl<;>rfl
theorem Oy{i:Nat}(h:i<3):[sA [120],sA [121],sA [122]][i]?=some (sA (B0 i)):=by
 have:i=0\/i=1\/i=2:=by omega
 rcases this with rfl|rfl|rfl<;>rfl
theorem Px(G:Nat)(l:List Int):PO Tryz.prog 51 [.ptr G 0 0] G (CZ l) (A3 true false (Aa l).1) (CZ (Aa l).2):=by
 refine Spec.of (nt:=55) (res:=[.tmp 2]) Tryz.func51 rfl (by kernel_rfl) rfl rfl rfl λSf=>?_
 have h0:=Ah l (n:=4) (by decide);(repeat first|(refine AOps.gN ?_;first|(refine AOps.g_callf ?_;first|refine AOps.o2 (h:=(Cw G _ _ (by decide))) (k:=?_)))|refine WK ?_|refine Ai λX=>?_|refine Ay λY=>?_);refine AWP.adopt (d:=3) 118 2 rfl λK=>?_
 obtain⟨c,hc⟩:∃c:Nat,1+Ao l 4=c:=⟨(1+Ao l 4).toNat,by omega⟩;obtain⟨l0,hl0⟩:∃l0,Ad l 4=l0:=⟨_,rfl⟩;have hg:Aa l=kAt c l0:=by rw[EI,hl0,show(1+Ao l 4).toNat=c from by omega]
 rw[hg,hl0,hc];have hc4:1<=c/\c<=4:=by omega
 clear hg hl0 hc h0;refine K9 (λ(i K:Nat) (M:List AV) (q:List Int)=>⟨[(0,.ptr G 0 0),(3,.sl K 0 i),(10,iA c),(11,iA i)],(K,.row 118 2 M)::(G,CZ q)::Sf⟩) (λi _ M q=>i<=c/\M=(kAt i l0).1.map (BD false)/\M.length=i/\q=(kAt i l0).2) (λi _ _ _=>c-i) 0 K [] l0 ⟨Nat.zero_le _,rfl,rfl,rfl⟩ ?_;rintro i K M q ⟨hi,hM,hMl,hq⟩;(repeat first|refine WK ?_|refine Ai λX=>?_|refine Ay λY=>?_);refine AWP.cond rfl (λhb=>?_) (λhb=>?_)
 ·have h:i<c:=by rw[decide_eq_true_eq]at hb;omega
  have h4:i<4:=by omega
  have h3:=Ah q (n:=3) (by decide);have hkn:=Ol h4;(repeat first|(refine AOps.gN ?_;first|(refine AOps.g_callf ?_;first|refine AOps.o2 (h:=(Cw G _ _ (by decide))) (k:=?_)))|refine WK ?_|refine Ai λY=>?_|refine Ay λY=>?_);refine AWP.adoptIn (Y:=Y) 120 3 .here (λF=>.cons (.agg (.cons .same (.cons (.base .nil) .nil))) .nil) λF=>?_
  obtain⟨l1,hl1⟩:∃l1,Ad q 3=l1:=⟨_,rfl⟩;obtain⟨c1,hc1⟩:∃c1:Nat,1+Ao q 3=c1:=⟨(1+Ao q 3).toNat,by omega⟩
  have hgk:kAt (i+1) l0=((kAt i l0).1++[⟨DD i,(fAt c1 l1).1⟩],(fAt c1 l1).2):=by
   rw[kAt,<-hq,Cp,Ge,show(1+Ao q 3).toNat=c1 from by omega,hl1]
  rw[hl1,hc1];have hc13:c1<=3:=by omega
  refine K9 (λ(j F:Nat) (L:List AV) (r:List Int)=>⟨[(0,.ptr G 0 0),(3,.sl K 0 i),(5,.ptr Y 0 0),(10,iA c),(11,iA i),(21,iA c1),(22,iA j)],(F,.row 120 3 L)::(Y,.row 118 2 [.agg [sA (DD i),.sl F 0 j]])::(K,.row 118 2 M)::(G,CZ r)::Sf⟩) (λj _ L r=>j<=c1/\L=(fAt j l1).1.map fieldA/\L.length=j/\r=(fAt j l1).2) (λj _ _ _=>c1-j) 0 F [] l1 ⟨Nat.zero_le _,rfl,rfl,rfl⟩ ?_;rintro j F L r ⟨hj,hL,hLl,hr⟩;(repeat first|refine WK ?_|refine Ai λX=>?_|refine Ay λY=>?_);refine AWP.cond rfl (λhd=>?_) (λhd=>?_)
  ·have hj':j<c1:=by rw[decide_eq_true_eq]at hd;omega
   have h9:=Ah r (n:=9) (by decide);have h40:=Ah (Ad r 9) (n:=40) (by decide);have hfn:=Oy (i:=j) (by omega);(repeat first|refine WK ?_|refine Ai λX=>?_|refine Ay λY=>?_);refine AWP.rs λX7=>?_
   refine RU ?_;(repeat first|(refine RGo.gN ?_;first|(refine RGo.g_callf ?_;first|refine RGo.o2 (h:=(Cw G _ _ (by decide))) (k:=?_)))|(refine RGo.gQ ?_;first|(refine RGo.g_callf ?_;first|refine RGo.o2 (h:=(Cw G _ _ (by decide))) (k:=?_)))|refine RK ?_|refine RGo.nil (by kernel_rfl) ?_);(repeat first|(refine AOps.gN ?_;first|(refine AOps.g_callf ?_;first|refine AOps.o2 (h:=(Cw G _ _ (by decide))) (k:=?_)))|refine WK ?_|refine Ai λX=>?_|refine Ay λY=>?_);refine AWP.cond rfl (λhe=>?_) (λhe=>?_)
   ·have he:Ao (Ad (Ad r 9) 40) 8=7:=by simpa using he
    have hg:Bx j r=(⟨B0 j,32,-2147483648⟩,Ad (Ad (Ad r 9) 40) 8):=by rw[Bx,if_pos he]
    (repeat first|(refine AOps.gN ?_;first|(refine AOps.g_lit ?_;refine AOps.goL (fieldA ⟨B0 j,32,-2147483648⟩) ?_))|refine WK ?_|refine Ai λX=>?_|refine Ay λY=>?_);refine GX (j+1) Y _ _ ⟨hj',?_,?_,?_⟩
    ·rw[fAt,<-hr,hg,hL,List.map_append];rfl
    ·rw[List.length_append,hLl];rfl
    ·rw[fAt,<-hr,hg]
   ·have he:Ao (Ad (Ad r 9) 40) 8≠7:=by simpa using he
    have hg:Bx j r=(⟨B0 j,1+Ao r 9,Ao (Ad r 9) 40-30⟩,Ad (Ad (Ad r 9) 40) 8):=by rw[Bx,if_neg he]
    (repeat first|(refine AOps.gN ?_;first|(refine AOps.g_lit ?_;refine AOps.goL (fieldA ⟨B0 j,1+Ao r 9,Ao (Ad r 9) 40-30⟩) ?_))|refine WK ?_|refine Ai λX=>?_|refine Ay λY=>?_);refine GX (j+1) Y _ _ ⟨hj',?_,?_,?_⟩
    ·rw[fAt,<-hr,hg,hL,List.map_append];rfl
    ·rw[List.length_append,hLl];rfl
    ·rw[fAt,<-hr,hg]
  ·have hj':j=c1:=by rw[decide_eq_false_iff_not]at hd;omega
   subst hj';refine FL ?_;refine AWP.iceIn (X:=F) (Y:=Y) .here (.next .here) rfl (.cons (.agg (.cons .same (.cons (.base (.sl (by omega))) .nil))) .nil) ?_
   have hF:An ((L.drop 0).take j)=(fAt j l1).1.map fieldA:=by
    rw[List.drop_zero,List.take_of_length_le (by omega),hL];exact Frzs.h
   rw[hF];(repeat first|(refine AOps.gN ?_;first|(refine AOps.g_lit ?_;refine AOps.goL (BD false ⟨DD i,(fAt j l1).1⟩) ?_))|refine WK ?_|refine Ai λX=>?_|refine Ay λY=>?_);refine GX (i+1) Y _ _ ⟨h,?_,?_,?_⟩
   ·rw[hgk,hM,List.map_append];rfl
   ·rw[List.length_append,hMl];rfl
   ·rw[hgk,hr]
 ·have h:i=c:=by rw[decide_eq_false_iff_not]at hb;omega
  subst h;(repeat first|refine WK ?_|refine Ai λX=>?_|refine Ay λY=>?_);refine RT ?_;subst hM hq;refine⟨[.sl K 0 i],[.lst true 118 2 ((kAt i l0).1.map (BD false))],_,[(G,CZ (kAt i l0).2)],.cons (.tmp rfl) rfl .nil,.cons (.cell (.sl (p:=0) .here (by rw[List.length_map,Nu]))) .nil,by exact Sub.f,rfl,rfl⟩
def Sn(c:UInt8):Bool:=decide (97<=c)&&decide (c<=122)
def Sw(c:UInt8):Bool:=decide (48<=c)&&decide (c<=57)
def MQ(l:List UInt8)(j:Nat):Bool:=Sn (l.getD j 0)||(decide (0<j)&&Sw (l.getD j 0))
def CW(l:List UInt8):Bool:=decide (0<l.length)&&decide (l.length<=16)&&(List.range l.length).all (MQ l)
def Ab(f:Field):Int:=if CW f.name&&decide (1<=f.bits)&&decide (f.bits<=32)&&decide (-4294967296<=f.low)&&decide (f.low<=4294967296)then 0 else 3
def BO:List Field->List Field->Int
 |_,[]=>0
 |pre,f::fs=>if Ab f≠0 then Ab f else if pre.any (λo=>o.name==f.name)then 5 else BO (pre++[f]) fs
def BG(k:Kind):Int:=if CW k.name then(if 8<k.fields.length then 2 else BO [] k.fields)else 3
def Cj(l:List Kind)(name:List UInt8):Int:=
 match l.findIdx? (λk=>k.name==name)with
 |some i=>i
 |none=>-1
def BX:List Kind->List Kind->Int
 |_,[]=>0
 |pre,k::ks=>if BG k≠0 then BG k else if pre.any (λo=>o.name==k.name)then 5 else BX (pre++[k]) ks
def BE(l:List Kind):Int:=if 16<l.length then 2 else BX [] l
def DU(f:Field):Int:=if Ab f=0 then f.low+(2^f.bits.toNat-1)else 0
def Bo(f:Field)(v:Int):Int:=if Ab f=0 then max f.low (min v (DU f))else 0
def BW(k:Kind)(vals:List Int):List Int×Int:=
 if BG k≠0 then([],BG k)else if vals.length≠k.fields.length then([],1)else(List.zipWith Bo k.fields vals,0)
def Bs(k:Kind)(vals:List Int):Bool:=decide ((BW k vals).2=0)&&decide ((BW k vals).1=vals)
theorem Fm{l:List Kind}{name:List UInt8}(h:∀j (hj:j<l.length),l[j].name≠name):Cj l name= -1:=by
 have:l.findIdx? (λk=>k.name==name)=none:=by
  rw[List.findIdx?_eq_none_iff];intro x hx;obtain⟨j,hj,rfl⟩:=List.getElem_of_mem hx;simpa using h j hj
 simp[Cj,this]
theorem Jg{l:List Kind}{name:List UInt8}{i:Nat}(hi:i<l.length)(e:l[i].name=name)(h:∀j (hj:j<i),(l[j]'(by omega)).name≠name):Cj l name=i:=by
 have:l.findIdx? (λk=>k.name==name)=some i:=by
  rw[List.findIdx?_eq_some_iff_getElem];refine⟨hi,by simpa using e,λj hj=>?_⟩;simpa using h j hj
 simp[Cj,this]
theorem Kq{pre:List Kind}{k:Kind}{ks:List Kind}(h:BG k≠0):BX pre (k::ks)=BG k:=by
 simp[BX,h]
theorem Il{pre:List Kind}{k:Kind}{ks:List Kind}(h:BG k=0)(hf:0<=Cj pre k.name):BX pre (k::ks)=5:=by
 have:pre.any (λo=>o.name==k.name)=true:=by
  rcases hc:pre.any (λo=>o.name==k.name)with _|_
  ·exfalso
   rw[List.any_eq_false]at hc;rw[Fm (λj hj=>by simpa using hc _ (List.getElem_mem hj))]at hf;omega
  ·rfl
 simp[BX,h,this]
theorem Ja{pre:List Kind}{k:Kind}{ks:List Kind}(h:BG k=0)(hf:Cj pre k.name<0):BX pre (k::ks)=BX (pre++[k]) ks:=by
 have:pre.any (λo=>o.name==k.name)=false:=by
  rcases hc:pre.any (λo=>o.name==k.name)with _|_
  ·rfl
  ·exfalso
   rw[List.any_eq_true]at hc;obtain⟨x,hx,e⟩:=hc;unfold Cj at hf;split at hf
   ·omega
   ·rename_i hn
    rw[List.findIdx?_eq_none_iff]at hn;exact absurd e (by simpa using hn x hx)
 simp[BX,h,this]
theorem FF{l:List Kind}{i:Nat}(hi:i<l.length):BX (l.take i) (l.drop i)=BX (l.take i) (l[i]::l.drop (i+1)):=by
 rw[List.drop_eq_getElem_cons hi]
theorem Kp{l:List Kind}{i:Nat}(hi:l.length<=i):BX (l.take i) (l.drop i)=0:=by
 rw[List.drop_of_length_le hi];rfl
theorem Hc(f:Field)(h:CW f.name=true)(hb:1<=f.bits/\f.bits<=32/\ -4294967296<=f.low/\f.low<=4294967296):Ab f=0:=by
 simp[Ab,h,hb]
theorem ME(f:Field)(h:CW f.name=true->¬(1<=f.bits/\f.bits<=32/\ -4294967296<=f.low/\f.low<=4294967296)):Ab f=3:=by
 unfold Ab;rw[if_neg];simp only[Bool.and_eq_true,decide_eq_true_eq];intro hc;exact h hc.1.1.1.1 ⟨hc.1.1.1.2,hc.1.1.2,hc.1.2,hc.2⟩
theorem Eg(f:Field):Ab f=0↔CW f.name=true/\1<=f.bits/\f.bits<=32/\ -4294967296<=f.low/\f.low<=4294967296:=by
 constructor
 ·intro h
  unfold Ab at h;split at h
  ·rename_i hc
   simpa[and_assoc]using hc
  ·simp at h
 ·rintro⟨h,hb⟩
  exact Hc f h hb
theorem Ji{pre:List Field}{f:Field}{fs:List Field}(h:Ab f≠0):BO pre (f::fs)=Ab f:=by
 simp[BO,h]
theorem Hw{pre:List Field}{f:Field}{fs:List Field}(h:Ab f=0){j:Nat}(hj:j<pre.length)(e:pre[j].name=f.name):BO pre (f::fs)=5:=by
 have:pre.any (λo=>o.name==f.name)=true:=by
  rw[List.any_eq_true];exact⟨pre[j],List.getElem_mem hj,by simp[e]⟩
 simp[BO,h,this]
theorem I7{pre:List Field}{f:Field}{fs:List Field}(h:Ab f=0)(e:∀j (hj:j<pre.length),pre[j].name≠f.name):BO pre (f::fs)=BO (pre++[f]) fs:=by
 have:pre.any (λo=>o.name==f.name)=false:=by
  rw[List.any_eq_false];intro x hx;obtain⟨j,hj,rfl⟩:=List.getElem_of_mem hx;simpa using e j hj
 simp[BO,h,this]
theorem Et{l:List Field}{i:Nat}(hi:i<l.length):BO (l.take i) (l.drop i)=BO (l.take i) (l[i]::l.drop (i+1)):=by
 rw[List.drop_eq_getElem_cons hi]
theorem Jh{l:List Field}{i:Nat}(hi:l.length<=i):BO (l.take i) (l.drop i)=0:=by
 rw[List.drop_of_length_le hi];rfl
theorem Og(l:List UInt8)(j:Nat)(hj:j<l.length)(h:MQ l j=false):CW l=false:=by
 have:(List.range l.length).all (MQ l)=false:=by
  rw[List.all_eq_false];exact⟨j,List.mem_range.2 hj,by simp[h]⟩
 simp[CW,this]
theorem Mv(l:List UInt8)(h0:0<l.length)(h1:l.length<=16)(h:∀j,j<l.length->MQ l j=true):CW l=true:=by
 have:(List.range l.length).all (MQ l)=true:=by
  rw[List.all_eq_true];intro x hx;exact h x (List.mem_range.1 hx)
 simp[CW,this,h0,h1]
theorem Li(l:List UInt8)(h:l.length=0\/16<l.length):CW l=false:=by
 rcases h with h|h
 ·simp[CW,h]
 ·simp[CW,show¬l.length<=16 from by omega]
theorem PZ{b:Int}(h1:1<=b)(h2:b<=32):(2:Int)<=2^b.toNat/\(2:Int)^b.toNat<=4294967296:=by
 obtain⟨n,rfl⟩:∃n:Nat,b=n:=⟨b.toNat,by omega⟩;rw[Int.toNat_natCast];have h:n=1\/n=2\/n=3\/n=4\/n=5\/n=6\/n=7\/n=8\/n=9\/n=10\/n=11\/n=12\/n=13\/n=14\/n=15\/n=16\/n=17\/n=18\/n=19\/n=20\/n=21\/n=22\/n=23\/n=24\/n=25\/n=26\/n=27\/n=28\/n=29\/n=30\/n=31\/n=32:=by omega
 rcases h with rfl|rfl|rfl|rfl|rfl|rfl|rfl|rfl|rfl|rfl|rfl|rfl|rfl|rfl|rfl|rfl|rfl|rfl|rfl|rfl|rfl|rfl|rfl|rfl|rfl|rfl|rfl|rfl|rfl|rfl|rfl|rfl<;>decide
theorem Or{f:Field}(h:Ab f=0):DU f=f.low+(2^f.bits.toNat-1):=by simp[DU,h]
theorem Os{f:Field}(h:Ab f=0):f.low<DU f/\DU f<=8589934592:=by
 have hb:=(Eg f).1 h;have:=PZ hb.2.1 hb.2.2.1;rw[Or h];omega
theorem I5{pre l:List Field}(h:BO pre l=0):∀f∈l,Ab f=0:=by
 induction l generalizing pre with
 |nil=>intro f hf;cases hf
 |cons x l ih=>
  intro f hf;simp only[BO]at h;split at h
  ·rename_i hx;exact absurd h hx
  ·rename_i hx
   split at h
   ·simp at h
   ·rcases List.mem_cons.1 hf with rfl|hf
    ·simpa using hx
    ·exact ih h f hf
theorem Cg{k:Kind}(h:BG k=0):CW k.name=true/\k.fields.length<=8/\∀f∈k.fields,Ab f=0:=by
 unfold BG at h;split at h
 ·rename_i h1
  split at h
  ·simp at h
  ·rename_i h2
   exact⟨h1,by omega,I5 h⟩
 ·simp at h
def FK:Kind:=⟨[108,105,102,101],[⟨[120],8,0⟩]⟩
def baseWd:Wd:=⟨[FK],[0],[⟨⟨0,0⟩,[⟨0,[9]⟩]⟩]⟩
theorem N5:PS Tryz.prog 54 [] (wdA false baseWd):=by
 refine Spec.of (nt:=14) (res:=[.cell 0 26]) Tryz.func54 rfl (by kernel_rfl) rfl rfl rfl λSf=>?_
 (repeat first|refine WK ?_|refine Ai λX=>?_|refine Ay λY=>?_);refine RT ?_;refine Gt (rs:=[wdA false baseWd]) rfl (.cons (.cell (p:=0) rfl .here TAg.h TSize.h rfl rfl) rfl .nil)
theorem O0(a b:List Int)(hl:a.length<=1099511627776):PS Tryz.prog 34 [AW false a,AW false b] (bA (decide (a=b))):=by
 refine Spec.of (nt:=26) (res:=[.tmp 4]) Tryz.func34 rfl (by kernel_rfl) rfl rfl rfl λSf=>?_
 (repeat first|refine WK ?_|refine Ai λX=>?_|refine Ay λY=>?_);refine AWP.cond rfl (λhb=>?_) (λhb=>?_)
 ·have hb:a.length≠b.length:=by simp at hb;omega
  (repeat first|refine WK ?_|refine Ai λX=>?_|refine Ay λY=>?_);refine RT ?_;refine AX ?_;rw[decide_eq_false λe=>hb (by rw[e])]
 ·have hb:a.length=b.length:=by simp at hb;omega
  (repeat first|refine WK ?_|refine Ai λX=>?_|refine Ay λY=>?_);refine BN (λi:Nat=>⟨[(0,AW false a),(1,AW false b),(12,iA (a.map iA).length),(13,iA i)],Sf⟩) (λi=>i<=a.length/\∀j (h:j<a.length),j<i->a[j]=b[j]'(by omega)) (λi=>a.length-i) 0 ⟨Nat.zero_le _,λj h hj=>absurd hj (by omega)⟩ ?_;rintro i ⟨hi,he⟩;(repeat first|refine WK ?_|refine Ai λX=>?_|refine Ay λY=>?_);refine AWP.cond rfl (λhc=>?_) (λhc=>?_)
  ·have h:i<a.length:=by simpa using hc
   have h':i<b.length:=by omega
   (repeat first|refine WK ?_|refine Ai λX=>?_|refine Ay λY=>?_);refine RU ?_;(repeat first|refine RK ?_|refine RGo.nil (by kernel_rfl) ?_);(repeat first|refine WK ?_|refine Ai λX=>?_|refine Ay λY=>?_);refine AWP.cond rfl (λhd=>?_) (λhd=>?_)
   ·have hd:a[i]≠b[i]:=by simpa using hd
    (repeat first|refine WK ?_|refine Ai λX=>?_|refine Ay λY=>?_);refine RT ?_;refine AX ?_;rw[decide_eq_false λe=>hd (by subst e;rfl)]
   ·have hd:a[i]=b[i]:=by simpa using hd
    (repeat first|refine WK ?_|refine Ai λX=>?_|refine Ay λY=>?_);refine A4 (i+1) ⟨h,λj h1 h2=>?_⟩;by_cases e:j=i
    ·subst e;exact hd
    ·exact he j h1 (by omega)
  ·have h:¬i<a.length:=by simpa using hc
   (repeat first|refine WK ?_|refine Ai λX=>?_|refine Ay λY=>?_);refine RT ?_;refine AX ?_;rw[decide_eq_true (List.ext_getElem hb λj h1 h2=>he j h1 (by omega))]
def eqF{α:Type}(p:α->α->Bool):List α->List α->Bool
 |[],[]=>true
 |x::xs,y::ys=>p x y&&eqF p xs ys
 |_,_=>false
theorem N2{α:Type}{p:α->α->Bool}:{a b:List α}->a.length≠b.length->eqF p a b=false
 |[],[],h=>absurd rfl h
 |[],_::_,_=>rfl
 |_::_,[],_=>rfl
 |x::xs,y::ys,h=>by rw[eqF,N2 (by simpa using h),Bool.and_false]
theorem QP{α:Type}{p:α->α->Bool}:{a b:List α}->(hl:a.length=b.length)->{i:Nat}->(h:i<a.length)->p a[i] (b[i]'(by omega))=false->eqF p a b=false
 |[],_,_,_,h,_=>absurd h (by simp)
 |x::xs,[],hl,_,_,_=>by simp at hl
 |x::xs,y::ys,hl,0,h,hp=>by rw[eqF,show p x y=false from hp,Bool.false_and]
 |x::xs,y::ys,hl,i+1,h,hp=>by
  rw[eqF,QP (a:=xs) (b:=ys) (by simpa using hl) (i:=i) (by simpa using h) hp,Bool.and_false]
theorem N0{α:Type}{p:α->α->Bool}:{a b:List α}->(hl:a.length=b.length)->(∀i (h:i<a.length),p a[i] (b[i]'(by omega))=true)->eqF p a b=true
 |[],[],_,_=>rfl
 |[],_::_,hl,_=>by simp at hl
 |x::xs,[],hl,_=>by simp at hl
 |x::xs,y::ys,hl,h=>by
  rw[eqF,show p x y=true from h 0 (by simp),N0 (a:=xs) (b:=ys) (by simpa using hl) λi hi=>h (i+1) (by simpa using hi)];rfl
theorem QQ{α:Type}{p:α->α->Bool}[DecidableEq α]:{a b:List α}->(∀x∈a,∀y∈b,p x y=decide (x=y))->eqF p a b=decide (a=b)
 |[],[],_=>rfl
 |[],_::_,_=>rfl
 |_::_,[],_=>rfl
 |x::xs,y::ys,h=>by
  rw[eqF,h x (by simp) y (by simp),QQ λu hu v hv=>h u (by simp[hu]) v (by simp[hv])];by_cases e:x=y<;>by_cases e2:xs=ys<;>simp[e,e2]
theorem Jj(a b:List Comp)(f:FuncId)(cap:List AV)(p:Comp->Comp->Bool)(hs:Bd cap=true)(hl:a.length<=4611686018427387904)(hf:∀x∈a,∀y∈b,PS Tryz.prog f ((AG false) x::(AG false) y::cap) (bA (p x y))):
  PS Tryz.prog 109 [.lst false 42 2 (a.map (AG false)),.lst false 42 2 (b.map (AG false)),.fn f cap] (bA (eqF p a b)):=by
 refine Spec.of (nt:=32) (res:=[.tmp 6]) Tryz.func109 rfl (by kernel_rfl) rfl rfl rfl λSf=>?_
 (repeat first|refine WK ?_|refine Ai λX=>?_|refine Ay λY=>?_);refine AWP.cond rfl (λhb=>?_) (λhb=>?_)
 ·have hb:a.length≠b.length:=by simp at hb;omega
  (repeat first|refine WK ?_|refine Ai λX=>?_|refine Ay λY=>?_);refine RT ?_;refine AX ?_;rw[N2 hb]
 ·have hb:a.length=b.length:=by simp at hb;omega
  (repeat first|refine WK ?_|refine Ai λX=>?_|refine Ay λY=>?_);refine BN (λi:Nat=>⟨[(0,.lst false 42 2 (a.map (AG false))),(1,.lst false 42 2 (b.map (AG false))),(2,.fn f cap),(15,.lst false 42 2 (a.map (AG false))),(16,iA (a.map (AG false)).length),(17,iA i)],Sf⟩) (λi=>i<=a.length/\∀j (h:j<a.length),j<i->p a[j] (b[j]'(by omega))=true) (λi=>a.length-i) 0 ⟨Nat.zero_le _,λj h hj=>absurd hj (by omega)⟩ ?_;rintro i ⟨hi,he⟩;(repeat first|refine WK ?_|refine Ai λX=>?_|refine Ay λY=>?_);refine AWP.cond rfl (λhc=>?_) (λhc=>?_)
  ·have h:i<a.length:=by simpa using hc
   have h':i<b.length:=by omega
   (repeat first|(refine AOps.gN ?_;first|(refine AOps.g_callv ?_;first|refine AOps.k2 (h:=(hf _ (List.getElem_mem h) _ (List.getElem_mem h'))) (k:=?_)))|refine WK ?_|refine Ai λX=>?_|refine Ay λY=>?_);refine AWP.cond rfl (λhd=>?_) (λhd=>?_)
   ·have hd:p a[i] b[i]=false:=by simpa using hd
    (repeat first|refine WK ?_|refine Ai λX=>?_|refine Ay λY=>?_);refine RT ?_;refine AX ?_;rw[QP hb h hd]
   ·have hd:p a[i] b[i]=true:=by simpa using hd
    (repeat first|refine WK ?_|refine Ai λX=>?_|refine Ay λY=>?_);refine A4 (i+1) ⟨h,λj h1 h2=>?_⟩;by_cases e:j=i
    ·subst e;exact hd
    ·exact he j h1 (by omega)
  ·have h:¬i<a.length:=by simpa using hc
   (repeat first|refine WK ?_|refine Ai λX=>?_|refine Ay λY=>?_);refine RT ?_;refine AX ?_;rw[N0 hb λj hj=>he j hj (by omega)]
theorem MD(f g:Field)(w:World):(binOp .neq 120 (.agg [Cm f.name,.int .i64 f.bits,.int .i64 f.low].toArray) (.agg [Cm g.name,.int .i64 g.bits,.int .i64 g.low].toArray)).run Tryz.prog w= .ok (.bool (decide (f≠g))) w:=by
 have h:=QO (P:=Tryz.prog) (t:=120) (by kernel_rfl) (by kernel_rfl) (by kernel_rfl) ⟨f.name.toArray⟩ ⟨g.name.toArray⟩ f.bits f.low g.bits g.low w;rw[run_neq_struct];have e:(Op.equalIn 10000 120 (.agg [Cm f.name,.int .i64 f.bits,.int .i64 f.low].toArray) (.agg [Cm g.name,.int .i64 g.bits,.int .i64 g.low].toArray)).run Tryz.prog w=_:=h;rw[e,Result.andThen_ok,FS,FS]
 have hd:(!(decide (f.name=g.name)&&decide (f.bits=g.bits)&&decide (f.low=g.low)))=decide (f≠g):=by
  obtain⟨n,b,l⟩:=f;obtain⟨n',b',l'⟩:=g;rw[Bool.eq_iff_iff];simp[or_assoc]
 rw[hd]
def KsL(ks:List Kind):Prop:=ks.length<=1099511627776/\∀k∈ks,k.fields.length<=1099511627776
def CsL(cs:List Comp):Prop:=cs.length<=1099511627776/\∀c∈cs,c.vals.length<=1099511627776
def ItL(l:List Item):Prop:=l.length<=1099511627776/\∀it∈l,CsL it.comps
structure WdL(w:Wd):Prop where
 ks:KsL w.kinds
 gens:w.gens.length<=1099511627776
 items:ItL w.items
theorem Lx(a b:List Kind)(hl:KsL a):PS Tryz.prog 81 [A3 false false a,A3 false false b] (bA (decide (a=b))):=by
 refine Spec.of (nt:=71) (res:=[.tmp 4]) Tryz.func81 rfl (by kernel_rfl) rfl rfl rfl λSf=>?_
 obtain⟨hl0,hl1⟩:=hl;(repeat first|refine WK ?_|refine Ai λX=>?_|refine Ay λY=>?_);refine AWP.cond rfl (λhb=>?_) (λhb=>?_)
 ·have hb:a.length≠b.length:=by simp at hb;omega
  (repeat first|refine WK ?_|refine Ai λX=>?_|refine Ay λY=>?_);refine RT ?_;refine AX ?_;rw[decide_eq_false λe=>hb (by rw[e])]
 ·have hb:a.length=b.length:=by simp at hb;omega
  (repeat first|refine WK ?_|refine Ai λX=>?_|refine Ay λY=>?_);refine BN (λi:Nat=>⟨[(0,A3 false false a),(1,A3 false false b),(13,iA (a.map (BD false)).length),(14,iA i)],Sf⟩) (λi=>i<=a.length/\∀j (h:j<a.length),j<i->a[j]=b[j]'(by omega)) (λi=>a.length-i) 0 ⟨Nat.zero_le _,λj h hj=>absurd hj (by omega)⟩ ?_;rintro i ⟨hi,he⟩;(repeat first|refine WK ?_|refine Ai λX=>?_|refine Ay λY=>?_);refine AWP.cond rfl (λhc=>?_) (λhc=>?_)
  ·have h:i<a.length:=by simpa using hc
   have h':i<b.length:=by omega
   obtain⟨x,hx⟩:∃x,a[i]=x:=⟨_,rfl⟩;obtain⟨y,hy⟩:∃y,b[i]=y:=⟨_,rfl⟩;have hax:(a.map (BD false))[i]?=some (BD false x):=by rw[List.getElem?_map,List.getElem?_eq_getElem h,hx];rfl
   have hay:(b.map (BD false))[i]?=some (BD false y):=by rw[List.getElem?_map,List.getElem?_eq_getElem h',hy];rfl
   have hxl:=hl1 x (hx▸List.getElem_mem h);have hno:¬x=y->¬a=b:=λhn e=>hn (by subst e;rw[<-hx,<-hy])
   (repeat first|refine WK ?_|refine Ai λX=>?_|refine Ay λY=>?_);refine RU ?_;(repeat first|refine RK ?_|refine RGo.nil (by kernel_rfl) ?_);refine AWP.cond rfl (λhd=>?_) (λhd=>?_)
   ·(repeat first|refine WK ?_|refine Ai λX=>?_|refine Ay λY=>?_)
    refine RT ?_;refine AX ?_;rw[decide_eq_false (hno λe=>by subst e;simp at hd)]
   ·have hd:x.name=y.name/\x.fields.length=y.fields.length:=by simp at hd;exact⟨hd.1,by omega⟩
    obtain⟨hd1,hd2⟩:=hd;(repeat first|refine WK ?_|refine Ai λX=>?_|refine Ay λY=>?_);refine BN (λq:Nat=>⟨[(0,A3 false false a),(1,A3 false false b),(5,iA i),(13,iA (a.map (BD false)).length),(14,iA i),(48,iA (x.fields.map fieldA).length),(49,iA q)],Sf⟩) (λq=>q<=x.fields.length/\∀j (h:j<x.fields.length),j<q->x.fields[j]=y.fields[j]'(by omega)) (λq=>x.fields.length-q) 0 ⟨Nat.zero_le _,λj h hj=>absurd hj (by omega)⟩ ?_;rintro q ⟨hq,hqe⟩;(repeat first|refine WK ?_|refine Ai λX=>?_|refine Ay λY=>?_);refine AWP.cond rfl (λhg=>?_) (λhg=>?_)
    ·have hqx:q<x.fields.length:=by simpa using hg
     have hqy:q<y.fields.length:=by omega
     obtain⟨f,hf⟩:∃f,x.fields[q]=f:=⟨_,rfl⟩;obtain⟨g,hgf⟩:∃g,y.fields[q]=g:=⟨_,rfl⟩;have haf:(x.fields.map fieldA)[q]?=some (fieldA f):=by rw[List.getElem?_map,List.getElem?_eq_getElem hqx,hf];rfl
     have hag:(y.fields.map fieldA)[q]?=some (fieldA g):=by rw[List.getElem?_map,List.getElem?_eq_getElem hqy,hgf];rfl
     (repeat first|refine WK ?_|refine Ai λX=>?_|refine Ay λY=>?_);refine RU ?_;(repeat first|(refine RGo.gN ?_;first|refine RGo.p (W.neP _ _ (by kernel_rfl) (MD f g) rfl rfl) rfl ?_)|(refine RGo.gQ ?_;first|refine RGo.p (W.neP _ _ (by kernel_rfl) (MD f g) rfl rfl) rfl ?_)|refine RK ?_|refine RGo.nil (by kernel_rfl) ?_);refine AWP.cond rfl (λhn=>?_) (λhn=>?_)
     ·have hn:f≠g:=by simpa using hn
      (repeat first|refine WK ?_|refine Ai λX=>?_|refine Ay λY=>?_);refine RT ?_;refine AX ?_;rw[decide_eq_false (hno λe=>hn (by subst e;rw[<-hf,<-hgf]))]
     ·have hn:f=g:=by simpa using hn
      (repeat first|refine WK ?_|refine Ai λX=>?_|refine Ay λY=>?_);refine A4 (q+1) ⟨hqx,λj h1 h2=>?_⟩;by_cases e:j=q
      ·subst e;rw[hf,hgf,hn]
      ·exact hqe j h1 (by omega)
    ·have hqx:¬q<x.fields.length:=by simpa using hg
     (repeat first|refine WK ?_|refine Ai λX=>?_|refine Ay λY=>?_);refine A4 (i+1) ⟨h,λj h1 h2=>?_⟩;by_cases e:j=i
     ·subst e
      rw[hx,hy];have hfe:x.fields=y.fields:=List.ext_getElem hd2 λj h1 h2=>hqe j h1 (by omega)
      obtain⟨xn,xf⟩:=x;obtain⟨yn,yf⟩:=y;simp at hd1 hfe;rw[hd1,hfe]
     ·exact he j h1 (by omega)
  ·have h:¬i<a.length:=by simpa using hc
   (repeat first|refine WK ?_|refine Ai λX=>?_|refine Ay λY=>?_);refine RT ?_;refine AX ?_;rw[decide_eq_true (List.ext_getElem hb λj h1 h2=>he j h1 (by omega))]
theorem SV(x y:Comp):(decide (x.kind=y.kind)&&decide (x.vals=y.vals))=decide (x=y):=by
 obtain⟨k,v⟩:=x;obtain⟨k',v'⟩:=y;rw[Bool.eq_iff_iff];simp
theorem JU(x y:Comp)(hl:x.vals.length<=1099511627776):PS Tryz.prog 189 [AG false x,AG false y] (bA (decide (x=y))):=by
 have heq:=O0 x.vals y.vals hl;rw[<-SV];refine Spec.of (nt:=17) (res:=[.tmp 4]) Tryz.func189 rfl (by kernel_rfl) rfl rfl rfl λSf=>?_
 refine RG ?_;(repeat first|(refine AOps.gN ?_;first|(refine AOps.g_box ?_;refine BT ?_))|refine WO ?_|refine Ai λX=>?_|refine Ay λY=>?_);refine NL ?_;rcases Bool.eq_false_or_eq_true (decide (x.kind=y.kind))with g|g
 ·rw[g]
  (repeat first|(refine AOps.gN ?_;first|(refine AOps.g_callf ?_;first|refine AOps.c2 (h:=(heq ..)) (k:=?_)))|refine WK ?_|refine Ai λX=>?_|refine Ay λY=>?_);refine RT ?_;refine AX ?_;rfl
 ·rw[g]
  (repeat first|refine WK ?_|refine Ai λX=>?_|refine Ay λY=>?_);refine RT ?_;refine AX ?_;rfl
theorem Ke(a b:List Comp)(hl:CsL a):PS Tryz.prog 112 [As false false a,As false false b] (bA (decide (a=b))):=by
 have h:=Jj a b 189 [] (λx y=>decide (x=y)) rfl (by have:=hl.1;omega) (λx hx y _=>JU x y (hl.2 x hx));rw[QQ λ_ _ _ _=>rfl]at h;refine Spec.of (nt:=8) (res:=[.tmp 4]) Tryz.func112 rfl (by kernel_rfl) rfl rfl rfl λSf=>?_
 (repeat first|(refine AOps.gN ?_;first|(refine AOps.g_callf ?_;first|refine AOps.c3 (h:=(h ..)) (k:=?_)))|refine WK ?_|refine Ai λX=>?_|refine Ay λY=>?_);refine RT ?_;refine AX ?_;rfl
def E8(l:List Item)(n:Int):Bool:=l.any λit=>decide (it.ent.n=n)
def J9(w:Wd):Option Nat:=(List.range w.gens.length).find? λn=>!E8 w.items n&&decide (w.gens.getD n 0<1073741824)
def BL(w:Wd):Nat×Bool:=match J9 w with
 |some n=>(n,true)
 |none=>(w.gens.length,decide ((w.gens.length:Int)<256))
theorem MP(s:List UInt8)(i:Nat):MQ s i=(decide ((97:Int)<=(s.getD i 0).toNat)&&decide (((s.getD i 0).toNat:Int)<=122)||decide ((0:Int)<i)&&decide ((48:Int)<=(s.getD i 0).toNat)&&decide (((s.getD i 0).toNat:Int)<=57)):=by
 have h:∀a b:UInt8,decide (a<=b)=decide ((a.toNat:Int)<=b.toNat):=λa b=>by simp[UInt8.le_iff_toNat_le]
 have h0:decide (0<i)=decide ((0:Int)<i):=by simp
 simp only[MQ,Sn,Sw,h,h0,Bool.and_assoc];rfl
theorem Nm(s:List UInt8):PS Tryz.prog 175 [sA s] (bA (CW s)):=by
 refine Spec.of (nt:=41) (res:=[.tmp 2]) Tryz.func175 rfl (by kernel_rfl) rfl rfl rfl λSf=>?_
 (repeat first|refine WK ?_|refine Ai λX=>?_|refine Ay λY=>?_);refine AWP.cond rfl (λhb=>?_) (λhb=>?_)
 ·(repeat first|refine WK ?_|refine Ai λX=>?_|refine Ay λY=>?_)
  refine RT ?_;refine Al rfl rfl (by exact Sub.f) ⟨?_,rfl⟩;rw[Li s (by simp only[Bool.or_eq_true,decide_eq_true_eq]at hb;omega)]
 have hb1:s.length≠0/\s.length<=16:=by simp only[Bool.or_eq_false_iff,decide_eq_false_iff_not]at hb;omega
 (repeat first|refine Bm (λi:Nat=>⟨[(0,sA s),(14,iA s.length),(15,iA i)],Sf⟩) (λi=>i<=s.length/\∀j,j<i->MQ s j=true) (λi=>s.length-i) 0 ⟨by omega,by omega⟩ ⟨.cons rfl (.cons rfl (.cons rfl .nil)),List.Sublist.refl _⟩ ?_|refine WK ?_|refine Ai λX=>?_|refine Ay λY=>?_);rintro i ⟨hi,hn⟩;(repeat first|refine WK ?_|refine Ai λX=>?_|refine Ay λY=>?_);refine AWP.cond rfl (λhb=>?_) (λhb=>?_)
 ·have h:i<s.length:=by simpa using hb
  (repeat first|(refine AOps.gN ?_;first|refine AOps.p (W.idxStr rfl rfl rfl h) rfl ?_)|refine WK ?_|refine Ai λX=>?_|refine Ay λY=>?_);refine AWP.cond rfl (λhc=>?_) (λhc=>?_)
  ·(repeat first|refine WK ?_|refine Ai λX=>?_|refine Ay λY=>?_)
   refine RT ?_;refine Al rfl rfl (by exact Sub.f) ⟨?_,rfl⟩;rw[<-MP]at hc;rw[Og s i h (by simpa using hc)]
  ·(repeat first|refine WK ?_|refine Ai λX=>?_|refine Ay λY=>?_)
   refine⟨i+1,⟨by omega,λj hj=>?_⟩,by omega,.cons rfl (.cons rfl (.cons rfl .nil)),by exact Sub.f⟩;rw[<-MP]at hc;by_cases e:j=i
   ·subst e;simpa using hc
   ·exact hn j (by omega)
 ·have h:¬i<s.length:=by simpa using hb
  (repeat first|refine WK ?_|refine Ai λX=>?_|refine Ay λY=>?_);refine RT ?_;refine Al rfl rfl (by exact Sub.f) ⟨?_,rfl⟩;rw[Mv s (by omega) hb1.2 λj hj=>hn j (by omega)]
theorem I8(f:Field):PS Tryz.prog 239 [fieldA f] (iA (Ab f)):=by
 refine Spec.of (nt:=27) (res:=[.tmp 2]) Tryz.func239 rfl (by kernel_rfl) rfl rfl rfl λSf=>?_
 (repeat first|(refine AOps.gN ?_;first|refine AOps.p (W.call1 rfl (Nm _) rfl) rfl ?_)|refine WK ?_|refine Ai λX=>?_|refine Ay λY=>?_);refine AWP.cond rfl (λhb=>?_) (λhb=>?_)
 ·(repeat first|refine WK ?_|refine Ai λX=>?_|refine Ay λY=>?_)
  refine RT ?_;refine Al rfl rfl (by exact Sub.f) ⟨?_,rfl⟩;rw[ME f λhn hk=>?_];simp only[hn,Bool.not_true,Bool.false_or,Bool.or_eq_true,decide_eq_true_eq]at hb;omega
 ·(repeat first|refine WK ?_|refine Ai λX=>?_|refine Ay λY=>?_)
  refine RT ?_;refine Al rfl rfl (by exact Sub.f) ⟨?_,rfl⟩;simp only[Bool.or_eq_false_iff,Bool.not_eq_false',decide_eq_false_iff_not]at hb;rw[Hc f hb.1.1.1.1 (by omega)]
theorem Ny(f:Field):PS Tryz.prog 240 [fieldA f] (iA (DU f)):=by
 refine Spec.of (nt:=13) (res:=[.tmp 2]) Tryz.func240 rfl (by kernel_rfl) rfl rfl rfl λSf=>?_
 (repeat first|(refine AOps.gN ?_;first|refine AOps.p (W.call1 rfl (I8 _) rfl) rfl ?_)|refine WK ?_|refine Ai λX=>?_|refine Ay λY=>?_);refine AWP.cond rfl (λhb=>?_) (λhb=>?_)
 ·have hb:Ab f≠0:=by simpa using hb
  (repeat first|refine WK ?_|refine Ai λX=>?_|refine Ay λY=>?_);refine RT ?_;refine Al rfl rfl (by exact Sub.f) ⟨?_,rfl⟩;simp[DU,hb]
 have hb:Ab f=0:=by simpa using hb
 have h1:=(Eg f).1 hb;obtain⟨n,hn⟩:∃n:Nat,f.bits=n:=⟨f.bits.toNat,by omega⟩
 have hp:(2:Int)^n<=4294967296/\1<=(2:Int)^n:=by
  have hn2:n<=32:=by omega
  clear hn;have:∀n,n<=32->(2:Int)^n<=4294967296/\1<=(2:Int)^n:=by decide
  exact this n hn2
 have hw:IntKind.i64.wrap (1*2^n)=2^n:=by rw[Int.one_mul];exact Dh (by omega) (by omega)
 (repeat first|refine WK ?_|refine Ai λX=>?_|refine Ay λY=>?_);refine RU ?_;(repeat first|(refine RGo.gN ?_;first|refine RGo.p (W.shl rfl rfl hn (by show n<=64;omega)) rfl ?_|refine RGo.p (W.sub rfl rfl (by rw[hw];omega)) rfl ?_|refine RGo.p (W.add rfl rfl (by rw[hw];omega)) rfl ?_)|(refine RGo.gQ ?_;first|refine RGo.p (W.shl rfl rfl hn (by show n<=64;omega)) rfl ?_|refine RGo.p (W.sub rfl rfl (by rw[hw];omega)) rfl ?_|refine RGo.p (W.add rfl rfl (by rw[hw];omega)) rfl ?_)|refine RK ?_|refine RGo.nil (by kernel_rfl) ?_);(repeat first|refine WK ?_|refine Ai λX=>?_|refine Ay λY=>?_);refine RT ?_;refine Al rfl rfl (by exact Sub.f) ⟨?_,rfl⟩;simp only[hw];simp[DU,hb,hn]
theorem Nj(f:Field)(v:Int):PS Tryz.prog 185 [fieldA f,iA v] (iA (Bo f v)):=by
 refine Spec.of (nt:=15) (res:=[.tmp 4]) Tryz.func185 rfl (by kernel_rfl) rfl rfl rfl λSf=>?_
 (repeat first|(refine AOps.gN ?_;first|refine AOps.p (W.call1 rfl (I8 _) rfl) rfl ?_)|refine WK ?_|refine Ai λX=>?_|refine Ay λY=>?_);refine AWP.cond rfl (λhb=>?_) (λhb=>?_)
 ·have hb:Ab f≠0:=by simpa using hb
  (repeat first|refine WK ?_|refine Ai λX=>?_|refine Ay λY=>?_);refine RT ?_;refine Al rfl rfl (by exact Sub.f) ⟨?_,rfl⟩;simp[Bo,hb]
 have hb:Ab f=0:=by simpa using hb
 (repeat first|refine WK ?_|refine Ai λX=>?_|refine Ay λY=>?_);refine RU ?_;(repeat first|(refine RGo.gN ?_;first|refine RGo.p (W.call1 rfl (Ny _) rfl) rfl ?_)|(refine RGo.gQ ?_;first|refine RGo.p (W.call1 rfl (Ny _) rfl) rfl ?_)|refine RK ?_|refine RGo.nil (by kernel_rfl) ?_);(repeat first|refine WK ?_|refine Ai λX=>?_|refine Ay λY=>?_);refine RT ?_;refine Al rfl rfl (by exact Sub.f) ⟨?_,rfl⟩;rw[show Bo f v=max f.low (min v (DU f))from by simp[Bo,hb]];simp only[Int.max_def,Int.min_def]
 congr 2
 (repeat' split)<;>omega
theorem Pm(k:Kind):PS Tryz.prog 203 [BD false k] (iA (BG k)):=by
 refine Spec.of (nt:=45) (res:=[.tmp 2]) Tryz.func203 rfl (by kernel_rfl) rfl rfl rfl λSf=>?_
 (repeat first|(refine AOps.gN ?_;first|refine AOps.p (W.call1 rfl (Nm _) rfl) rfl ?_|(refine AOps.rs λX1=>?_;refine AOps.s (W.box rfl .here rfl) rfl ?_))|refine WK ?_|refine Ai λX=>?_|refine Ay λY=>?_);refine AWP.cond rfl (λhb=>?_) (λhb=>?_)
 ·(repeat first|refine WK ?_|refine Ai λX=>?_|refine Ay λY=>?_)
  refine RT ?_;refine Al rfl rfl (by exact Sub.f) ⟨?_,rfl⟩;have hb:CW k.name=false:=by simpa using hb
  rw[show BG k=3 from by simp[BG,hb]]
 have hn:CW k.name=true:=by simpa using hb
 (repeat first|refine WK ?_|refine Ai λX=>?_|refine Ay λY=>?_);refine AWP.cond rfl (λhb=>?_) (λhb=>?_)
 ·(repeat first|refine WK ?_|refine Ai λX=>?_|refine Ay λY=>?_)
  refine RT ?_;refine Al rfl rfl (by exact Sub.f) ⟨?_,rfl⟩;have hb:8<k.fields.length:=by rw[decide_eq_true_eq,List.length_map]at hb;omega
  rw[show BG k=2 from by simp[BG,hn,hb]]
 have hl:k.fields.length<=8:=by rw[decide_eq_false_iff_not,List.length_map]at hb;omega
 have e1:BG k=BO [] k.fields:=by simp[BG,hn];omega
 (repeat first|refine Bm (λi:Nat=>⟨[(1,.ptr X1 0 0),(17,Gg false k.fields),(18,iA (k.fields.map fieldA).length),(19,iA i)],(X1,.row 118 2 [BD false k])::Sf⟩) (λi=>i<=k.fields.length/\BO [] k.fields=BO (k.fields.take i) (k.fields.drop i)) (λi=>k.fields.length-i) 0 ⟨by omega,rfl⟩ ⟨.cons rfl (.cons rfl (.cons rfl (.cons rfl .nil))),by exact Sub.f⟩ ?_|refine WK ?_|refine Ai λX=>?_|refine Ay λY=>?_);rintro i ⟨hi,he⟩;(repeat first|refine WK ?_|refine Ai λX=>?_|refine Ay λY=>?_);refine AWP.cond rfl (λhb=>?_) (λhb=>?_)
 ·have h:i<k.fields.length:=by simpa using hb
  (repeat first|(refine AOps.gN ?_;first|refine AOps.p (W.idxL rfl rfl rfl (Am _ h)) rfl ?_|refine AOps.p (W.call1 rfl (I8 _) rfl) rfl ?_)|refine WK ?_|refine Ai λX=>?_|refine Ay λY=>?_);refine AWP.cond rfl (λhc=>?_) (λhc=>?_)
  ·have hc:Ab k.fields[i]≠0:=by simpa using hc
   (repeat first|refine WK ?_|refine Ai λX=>?_|refine Ay λY=>?_);refine RT ?_;refine Al rfl rfl (by exact Sub.f) ⟨?_,rfl⟩;rw[e1,he,Et h,Ji hc];rfl
  have hc:Ab k.fields[i]=0:=by simpa using hc
  have hmt:((k.fields.map fieldA).take i).length=i:=by simp;omega
  (repeat first|(refine AOps.gN ?_;first|refine AOps.p (W.hiL rfl rfl rfl (by simp;omega)) rfl ?_)|refine Bm (λj:Nat=>⟨[(1,.ptr X1 0 0),(17,Gg false k.fields),(18,iA (k.fields.map fieldA).length),(19,iA i),(3,iA i),(4,.ptr X 0 0),(32,.lst false 120 3 ((k.fields.map fieldA).take i)),(33,iA ((k.fields.map fieldA).take i).length),(34,iA j)],(X,.row 120 3 [fieldA k.fields[i]])::(X1,.row 118 2 [BD false k])::Sf⟩) (λj=>j<=i/\∀q (hq:q<k.fields.length),q<j->k.fields[q].name≠k.fields[i].name) (λj=>i-j) 0 ⟨by omega,by omega⟩ ⟨.cons rfl (.cons rfl (.cons rfl (.cons rfl (.cons rfl (.cons rfl (.cons rfl (.cons rfl (.cons rfl .nil)))))))),by exact Sub.f⟩ ?_|refine WK ?_|refine Ai λX=>?_|refine Ay λY=>?_);rintro j ⟨hj,hne⟩;(repeat first|refine WK ?_|refine Ai λX=>?_|refine Ay λY=>?_);refine AWP.cond rfl (λhd=>?_) (λhd=>?_)
  ·have hd:j<i:=by rw[hmt]at hd;simpa using hd
   have hat:((k.fields.map fieldA).take i)[j]?=some (fieldA (k.fields[j]'(by omega))):=by rw[List.getElem?_take_of_lt hd];exact Am _ _
   (repeat first|(refine AOps.gN ?_;first|refine AOps.p (W.idxL rfl rfl rfl hat) rfl ?_)|refine WK ?_|refine Ai λX=>?_|refine Ay λY=>?_);refine AWP.cond rfl (λhq=>?_) (λhq=>?_)
   ·have hq:(k.fields[j]'(by omega)).name=k.fields[i].name:=by simpa using hq
    (repeat first|refine WK ?_|refine Ai λX=>?_|refine Ay λY=>?_);refine RT ?_;refine Al rfl rfl (by exact Sub.f) ⟨?_,rfl⟩;rw[e1,he,Et h,Hw hc (j:=j) (by simp;omega) (by simpa using hq)]
   ·have hq:(k.fields[j]'(by omega)).name≠k.fields[i].name:=by simpa using hq
    (repeat first|refine WK ?_|refine Ai λX=>?_|refine Ay λY=>?_);refine⟨j+1,⟨by omega,λq hq1 hq2=>?_⟩,by omega,.cons rfl (.cons rfl (.cons rfl (.cons rfl (.cons rfl (.cons rfl (.cons rfl (.cons rfl (.cons rfl .nil)))))))),by exact Sub.f⟩;by_cases e:q=j
    ·subst e;exact hq
    ·exact hne q hq1 (by omega)
  ·have hd:¬j<i:=by rw[hmt]at hd;simpa using hd
   (repeat first|refine WK ?_|refine Ai λX=>?_|refine Ay λY=>?_);refine⟨i+1,⟨by omega,?_⟩,by omega,.cons rfl (.cons rfl (.cons rfl (.cons rfl .nil))),by exact Sub.f⟩;rw[he,Et h,I7 hc λq hq=>?_,List.take_add_one,List.getElem?_eq_getElem h]
   ·rfl
   ·simp only[List.getElem_take]
    exact hne q (by simp at hq;omega) (by simp at hq;omega)
 ·have h:¬i<k.fields.length:=by simpa using hb
  (repeat first|refine WK ?_|refine Ai λX=>?_|refine Ay λY=>?_);refine RT ?_;refine Al rfl rfl (by exact Sub.f) ⟨?_,rfl⟩;rw[e1,he,Jh (by omega)]
theorem IW{k:Kind}(h:BG k=0):k.fields.length<=8:=by
 unfold BG at h;split at h
 ·split at h
  ·cases h
  ·omega
 ·cases h
def HG(k:Kind)(vals:List Int)(i:Nat):List Int:=(List.zipWith Bo k.fields vals).take i++List.replicate (vals.length-i) 0
theorem Nz{k:Kind}{vals:List Int}{i:Nat}(hl:vals.length=k.fields.length)(h:i<vals.length):((HG k vals i).map iA)[i]?=some (iA 0):=by
 have hz:(List.zipWith Bo k.fields vals).length=vals.length:=by simp;omega
 rw[List.getElem?_map,HG,List.getElem?_append_right (by simp;omega)];rw[List.length_take,Nat.min_eq_left (by omega),Nat.sub_self,List.getElem?_replicate,if_pos (by omega)];rfl
theorem QL{k:Kind}{vals:List Int}{i:Nat}(hl:vals.length=k.fields.length)(h:i<vals.length):((HG k vals i).map iA).set i (iA (Bo (k.fields[i]'(by omega)) vals[i]))=(HG k vals (i+1)).map iA:=by
 have hz:(List.zipWith Bo k.fields vals).length=vals.length:=by simp;omega
 rw[<-List.map_set]
 congr 1
 unfold HG;rw[List.set_append_right _ _ (by simp;omega),List.length_take,Nat.min_eq_left (by omega),Nat.sub_self];rw[show vals.length-i=(vals.length-(i+1))+1 from by omega,List.replicate_succ,List.set_cons_zero];rw[List.take_add_one,List.getElem?_eq_getElem (by omega),List.append_assoc];simp
theorem QJ(k:Kind)(vals:List Int):PS Tryz.prog 135 [BD false k,AW false vals] (.tup [AW true (BW k vals).1,iA (BW k vals).2]):=by
 refine Spec.of (nt:=43) (res:=[.tmp 4,.tmp 5]) Tryz.func135 rfl (by kernel_rfl) rfl rfl rfl λSf=>?_
 (repeat first|(refine AOps.gN ?_;first|refine AOps.p (W.call1 rfl (Pm _) rfl) rfl ?_|(refine AOps.rs λB=>?_;refine AOps.s (W.box rfl .here rfl) rfl ?_))|refine WK ?_|refine Ai λX=>?_|refine Ay λY=>?_);refine AWP.cond rfl (λhb=>?_) (λhb=>?_)
 ·have hb:BG k≠0:=by simpa using hb
  (repeat first|refine WK ?_|refine Ai λX=>?_|refine Ay λY=>?_);refine RT ?_;rw[show BW k vals=([],BG k)from by simp[BW,hb]];exact⟨[.prim (.slice none 0 0),iA (BG k)],[AW true [],iA (BG k)],_,[],.cons (.tmp rfl) rfl (.cons (.tmp rfl) rfl .nil),.cons (.cell .nil) (.cons (.cell .same) .nil),by exact Sub.f,rfl,rfl⟩
 have hk:BG k=0:=by simpa using hb
 have h8:=IW hk;(repeat first|refine WK ?_|refine Ai λX=>?_|refine Ay λY=>?_);refine AWP.cond rfl (λhb=>?_) (λhb=>?_)
 ·have hb:vals.length≠k.fields.length:=by rw[decide_eq_true_eq,List.length_map,List.length_map]at hb;omega
  (repeat first|refine WK ?_|refine Ai λX=>?_|refine Ay λY=>?_);refine RT ?_;rw[show BW k vals=([],1)from by simp[BW,hk,hb]];exact⟨[.prim (.slice none 0 0),iA 1],[AW true [],iA 1],_,[],.cons (.tmp rfl) rfl (.cons (.tmp rfl) rfl .nil),.cons (.cell .nil) (.cons (.cell .same) .nil),by exact Sub.f,rfl,rfl⟩
 have hl:vals.length=k.fields.length:=by rw[decide_eq_false_iff_not,List.length_map,List.length_map]at hb;omega
 have hv:(vals.map iA).length<=8:=by simp;omega
 have hz:List.replicate (vals.map iA).length (zAV [.int .i64 0] false)=(HG k vals 0).map iA:=by simp[HG];exact .inr rfl
 (repeat first|(refine AOps.gN ?_;first|(refine AOps.rs λXL=>?_;refine AOps.s (W.make rfl rfl .here rfl (.inr rfl) rfl rfl (Nat.le_refl _) (by omega) (Nat.le_trans hv (by decide))) rfl ?_))|refine Bm (λi:Nat=>⟨[(1,AW false vals),(7,.sl XL 0 (vals.map iA).length),(25,Gg false k.fields),(26,iA (k.fields.map fieldA).length),(27,iA i)],(XL,.row 3 1 ((HG k vals i).map iA))::(B,.row 118 2 [BD false k])::Sf⟩) (λi=>i<=vals.length) (λi=>vals.length-i) 0 (Nat.zero_le _) ⟨.cons rfl (.cons rfl (.cons rfl (.cons rfl (.cons rfl .nil)))),(by show List.Sublist ((XL,.row 3 1 ((HG k vals 0).map iA))::(B,.row 118 2 [BD false k])::Sf) _;rw[<-hz];exact Sub.f)⟩ ?_|refine WK ?_|refine Ai λX=>?_|refine Ay λY=>?_);rintro i hi;(repeat first|refine WK ?_|refine Ai λX=>?_|refine Ay λY=>?_);refine AWP.cond rfl (λhb=>?_) (λhb=>?_)
 ·have h:i<vals.length:=by rw[decide_eq_true_eq,List.length_map]at hb;omega
  have h':i<k.fields.length:=by omega
  (repeat first|(refine AOps.gN ?_;first|refine AOps.p (W.idxL rfl rfl rfl (Am _ h')) rfl ?_)|refine WK ?_|refine Ai λX=>?_|refine Ay λY=>?_);refine RU ?_;(repeat first|(refine RGo.gN ?_;first|refine RGo.p (W.idxL rfl rfl rfl (Am _ h)) rfl ?_|refine RGo.p (W.call2 rfl rfl (Nj _ _) rfl) rfl ?_|refine RGo.p (W.idx rfl rfl (by exact At.f) rfl (by simpa using h) (Nat.zero_add _)) rfl ?_|refine RGo.s (W.store rfl rfl (by exact At.f) (Nz hl h) (by exact rfl)) rfl ?_)|(refine RGo.gQ ?_;first|refine RGo.p (W.idxL rfl rfl rfl (Am _ h)) rfl ?_|refine RGo.p (W.call2 rfl rfl (Nj _ _) rfl) rfl ?_|refine RGo.p (W.idx rfl rfl (by exact At.f) rfl (by simpa using h) (Nat.zero_add _)) rfl ?_|refine RGo.s (W.store rfl rfl (by exact At.f) (Nz hl h) (by exact rfl)) rfl ?_)|refine RK ?_|refine RGo.nil (by kernel_rfl) ?_);(repeat first|refine WK ?_|refine Ai λX=>?_|refine Ay λY=>?_);refine⟨i+1,by omega,by omega,.cons rfl (.cons rfl (.cons rfl (.cons rfl (.cons rfl .nil)))),?_⟩;show List.Sublist ((XL,.row 3 1 ((HG k vals (i+1)).map iA))::(B,.row 118 2 [BD false k])::Sf) _
  rw[<-QL hl h];exact Sub.f
 ·have h:¬i<vals.length:=by rw[decide_eq_false_iff_not,List.length_map]at hb;omega
  (repeat first|refine WK ?_|refine Ai λX=>?_|refine Ay λY=>?_);refine RT ?_;rw[show BW k vals=(List.zipWith Bo k.fields vals,0)from by simp[BW,hk,hl]]
  have he:(HG k vals i).map iA=(List.zipWith Bo k.fields vals).map iA:=by
   congr 1
   rw[HG,show vals.length-i=0 from by omega,List.take_of_length_le (by simp;omega)];simp
  refine⟨[.sl XL 0 (vals.map iA).length,iA 0],[.lst true 3 1 ((HG k vals i).map iA),iA 0],_,[],.cons (.tmp rfl) rfl (.cons (.tmp rfl) rfl .nil),.cons (.cell (.sl (p:=0) .here (by rw[he];simp;omega))) (.cons (.cell .same) .nil),by exact Sub.f,?_,rfl⟩;rw[he];rfl
theorem M7{k:Kind}{vals:List Int}(h:(BW k vals).2=0):(BW k vals).1.length=vals.length/\vals.length<=8:=by
 unfold BW at h⊢;split
 ·rename_i h1;rw[if_pos h1]at h;exact absurd h h1
 ·rename_i h1
  rw[if_neg h1]at h;split
  ·rename_i h2;rw[if_pos h2]at h;cases h
  ·rename_i h2;have:=IW (Decidable.not_not.1 h1);simp;omega
theorem P8(k:Kind)(vals:List Int):PS Tryz.prog 205 [BD false k,AW false vals] (bA (Bs k vals)):=by
 refine Spec.of (nt:=31) (res:=[.tmp 4]) Tryz.func205 rfl (by kernel_rfl) rfl rfl rfl λSf=>?_
 have hfr:(AV.tup [AW true (BW k vals).1,iA (BW k vals).2]).frz= .tup [AW false (BW k vals).1,iA (BW k vals).2]:=by
  show AV.tup [(AW true (BW k vals).1).frz,_]=_
  rw[Oo];rfl
 (repeat first|(refine AOps.gN ?_;first|refine AOps.p (W.callF2 rfl rfl (QJ _ _) rfl hfr) rfl ?_)|refine WK ?_|refine Ai λX=>?_|refine Ay λY=>?_);refine AWP.cond rfl (λhb=>?_) (λhb=>?_)
 ·have hb:(BW k vals).2≠0:=by simpa using hb
  (repeat first|refine WK ?_|refine Ai λX=>?_|refine Ay λY=>?_);refine RT ?_;refine Al rfl rfl (by exact Sub.f) ⟨?_,rfl⟩;simp[Bs,hb]
 have hb:(BW k vals).2=0:=by simpa using hb
 obtain⟨hlen,h8⟩:=M7 hb;obtain⟨fl,hfl⟩:∃fl,fl=(BW k vals).1:=⟨_,rfl⟩;rw[<-hfl]at hlen;rw[show Bs k vals=decide (fl=vals)from by simp[Bs,hb,hfl]];rw[<-hfl];clear hfr;(repeat first|refine Bm (λi:Nat=>⟨[(1,AW false vals),(5,AW false fl),(17,iA (fl.map iA).length),(18,iA i)],Sf⟩) (λi=>i<=vals.length/\∀j (h:j<vals.length),j<i->fl[j]'(by omega)=vals[j]) (λi=>vals.length-i) 0 ⟨Nat.zero_le _,λj h hj=>absurd hj (by omega)⟩ ⟨.cons rfl (.cons rfl (.cons rfl (.cons rfl .nil))),by exact Sub.f⟩ ?_|refine WK ?_|refine Ai λX=>?_|refine Ay λY=>?_);rintro i ⟨hi,he⟩;(repeat first|refine WK ?_|refine Ai λX=>?_|refine Ay λY=>?_);refine AWP.cond rfl (λhc=>?_) (λhc=>?_)
 ·have h:i<fl.length:=by rw[decide_eq_true_eq,List.length_map]at hc;omega
  have h':i<vals.length:=by omega
  (repeat first|refine WK ?_|refine Ai λX=>?_|refine Ay λY=>?_);refine RU ?_;(repeat first|(refine RGo.gN ?_;first|refine RGo.p (W.idxL rfl rfl rfl (Am _ h)) rfl ?_|refine RGo.p (W.idxL rfl rfl rfl (Am _ h')) rfl ?_)|(refine RGo.gQ ?_;first|refine RGo.p (W.idxL rfl rfl rfl (Am _ h)) rfl ?_|refine RGo.p (W.idxL rfl rfl rfl (Am _ h')) rfl ?_)|refine RK ?_|refine RGo.nil (by kernel_rfl) ?_);(repeat first|refine WK ?_|refine Ai λX=>?_|refine Ay λY=>?_);refine AWP.cond rfl (λhd=>?_) (λhd=>?_)
  ·have hd:fl[i]≠vals[i]:=by simpa using hd
   (repeat first|refine WK ?_|refine Ai λX=>?_|refine Ay λY=>?_);refine RT ?_;refine Al rfl rfl (by exact Sub.f) ⟨?_,rfl⟩;rw[decide_eq_false (λe=>hd (by subst e;rfl))]
  ·have hd:fl[i]=vals[i]:=by simpa using hd
   (repeat first|refine WK ?_|refine Ai λX=>?_|refine Ay λY=>?_);refine⟨i+1,⟨by omega,λj h1 h2=>?_⟩,by omega,.cons rfl (.cons rfl (.cons rfl (.cons rfl .nil))),by exact Sub.f⟩;by_cases e:j=i
   ·subst e;exact hd
   ·exact he j h1 (by omega)
 ·have h:¬i<fl.length:=by rw[decide_eq_false_iff_not,List.length_map]at hc;omega
  (repeat first|refine WK ?_|refine Ai λX=>?_|refine Ay λY=>?_);refine RT ?_;refine Al rfl rfl (by exact Sub.f) ⟨?_,rfl⟩;rw[decide_eq_true (List.ext_getElem hlen λj h1 h2=>he j h2 (by omega))]
theorem Rj(l:List Kind)(name:List UInt8)(hl:l.length<=1099511627776):PS Tryz.prog 204 [A3 false false l,sA name] (iA (Cj l name)):=by
 refine Spec.of (nt:=20) (res:=[.tmp 4]) Tryz.func204 rfl (by kernel_rfl) rfl rfl rfl λSf=>?_
 (repeat first|refine Bm (λi:Nat=>⟨[(1,sA name),(7,A3 false false l),(8,iA (l.map (BD false)).length),(9,iA i)],Sf⟩) (λi=>i<=l.length/\∀j (h:j<l.length),j<i->l[j].name≠name) (λi=>l.length-i) 0 ⟨by omega,by omega⟩ ⟨.cons rfl (.cons rfl (.cons rfl (.cons rfl .nil))),List.Sublist.refl _⟩ ?_|refine WK ?_|refine Ai λX=>?_|refine Ay λY=>?_);rintro i ⟨hi,hn⟩;(repeat first|refine WK ?_|refine Ai λX=>?_|refine Ay λY=>?_);refine AWP.cond rfl (λhb=>?_) (λhb=>?_)
 ·have h:i<l.length:=by simpa using hb
  (repeat first|(refine AOps.gN ?_;first|refine AOps.p (W.idxL rfl rfl rfl (Am _ h)) rfl ?_)|refine WK ?_|refine Ai λX=>?_|refine Ay λY=>?_);refine AWP.cond rfl (λhc=>?_) (λhc=>?_)
  ·have hc:l[i].name=name:=by simpa using hc
   (repeat first|refine WK ?_|refine Ai λX=>?_|refine Ay λY=>?_);refine RT ?_;refine Al rfl rfl (by exact Sub.f) ⟨?_,rfl⟩;rw[Jg h hc λj hj=>hn j (by omega) hj]
  ·have hc:l[i].name≠name:=by simpa using hc
   (repeat first|refine WK ?_|refine Ai λX=>?_|refine Ay λY=>?_);refine⟨i+1,⟨by omega,λj hj hji=>?_⟩,by omega,.cons rfl (.cons rfl (.cons rfl (.cons rfl .nil))),by exact Sub.f⟩;by_cases e:j=i
   ·subst e;exact hc
   ·exact hn j hj (by omega)
 ·have h:¬i<l.length:=by simpa using hb
  (repeat first|refine WK ?_|refine Ai λX=>?_|refine Ay λY=>?_);refine RT ?_;refine Al rfl rfl (by exact Sub.f) ⟨?_,rfl⟩;rw[Fm λj hj=>hn j hj (by omega)]
theorem MO(l:List Kind):PS Tryz.prog 131 [A3 false false l] (iA (BE l)):=by
 refine Spec.of (nt:=29) (res:=[.tmp 2]) Tryz.func131 rfl (by kernel_rfl) rfl rfl rfl λSf=>?_
 (repeat first|refine WK ?_|refine Ai λX=>?_|refine Ay λY=>?_);refine AWP.cond rfl (λhb=>?_) (λhb=>?_)
 ·(repeat first|refine WK ?_|refine Ai λX=>?_|refine Ay λY=>?_)
  refine RT ?_;refine Al rfl rfl (by exact Sub.f) ⟨?_,rfl⟩;have hb:16<l.length:=by rw[decide_eq_true_eq,List.length_map]at hb;omega
  rw[show BE l=2 from by simp[BE,hb]]
 have hl:l.length<=16:=by rw[decide_eq_false_iff_not,List.length_map]at hb;omega
 have e1:BE l=BX [] l:=by simp[BE];omega
 (repeat first|refine Bm (λi:Nat=>⟨[(0,A3 false false l),(9,A3 false false l),(10,iA (l.map (BD false)).length),(11,iA i)],Sf⟩) (λi=>i<=l.length/\BX [] l=BX (l.take i) (l.drop i)) (λi=>l.length-i) 0 ⟨by omega,rfl⟩ ⟨.cons rfl (.cons rfl (.cons rfl (.cons rfl .nil))),by exact Sub.f⟩ ?_|refine WK ?_|refine Ai λX=>?_|refine Ay λY=>?_);rintro i ⟨hi,he⟩;(repeat first|refine WK ?_|refine Ai λX=>?_|refine Ay λY=>?_);refine AWP.cond rfl (λhb=>?_) (λhb=>?_)
 ·have h:i<l.length:=by simpa using hb
  (repeat first|(refine AOps.gN ?_;first|refine AOps.p (W.idxL rfl rfl rfl (Am _ h)) rfl ?_|refine AOps.p (W.call1 rfl (Pm _) rfl) rfl ?_)|refine WK ?_|refine Ai λX=>?_|refine Ay λY=>?_);refine AWP.cond rfl (λhc=>?_) (λhc=>?_)
  ·have hc:BG l[i]≠0:=by simpa using hc
   (repeat first|refine WK ?_|refine Ai λX=>?_|refine Ay λY=>?_);refine RT ?_;refine Al rfl rfl (by exact Sub.f) ⟨?_,rfl⟩;rw[e1,he,FF h,Kq hc];rfl
  have hc:BG l[i]=0:=by simpa using hc
  have hf:PS Tryz.prog 204 [.lst false 118 2 ((l.map (BD false)).take i),sA l[i].name] (iA (Cj (l.take i) l[i].name)):=by
   have:=Rj (l.take i) l[i].name (by simp;omega);simpa only[A3,List.map_take]using this
  (repeat first|refine WK ?_|refine Ai λX=>?_|refine Ay λY=>?_);refine RU ?_;(repeat first|(refine RGo.gN ?_;first|refine RGo.p (W.hiL rfl rfl rfl (by simp;omega)) rfl ?_|refine RGo.p (W.call2 rfl rfl hf rfl) rfl ?_)|(refine RGo.gQ ?_;first|refine RGo.p (W.hiL rfl rfl rfl (by simp;omega)) rfl ?_|refine RGo.p (W.call2 rfl rfl hf rfl) rfl ?_)|refine RK ?_|refine RGo.nil (by kernel_rfl) ?_);(repeat first|refine WK ?_|refine Ai λX=>?_|refine Ay λY=>?_);refine AWP.cond rfl (λhd=>?_) (λhd=>?_)
  ·have hd:0<=Cj (l.take i) l[i].name:=by simpa using hd
   (repeat first|refine WK ?_|refine Ai λX=>?_|refine Ay λY=>?_);refine RT ?_;refine Al rfl rfl (by exact Sub.f) ⟨?_,rfl⟩;rw[e1,he,FF h,Il hc hd]
  ·have hd:Cj (l.take i) l[i].name<0:=by simpa using hd
   (repeat first|refine WK ?_|refine Ai λX=>?_|refine Ay λY=>?_);refine⟨i+1,⟨by omega,?_⟩,by omega,.cons rfl (.cons rfl (.cons rfl (.cons rfl .nil))),by exact Sub.f⟩;rw[he,FF h,Ja hc hd,List.take_add_one,List.getElem?_eq_getElem h];rfl
 ·have h:¬i<l.length:=by simpa using hb
  (repeat first|refine WK ?_|refine Ai λX=>?_|refine Ay λY=>?_);refine RT ?_;refine Al rfl rfl (by exact Sub.f) ⟨?_,rfl⟩;rw[e1,he,Kp (by omega)]
def Ci(ks:List Kind):Int->List Comp->Bool
 |_,[]=>true
 |last,c::l=>match ks[c.kind.toNat]? with
  |some k=>decide (last<c.kind)&&decide (c.kind<ks.length)&&Bs k c.vals&&Ci ks c.kind l
  |none=>false
def Bj(ks:List Kind)(l:List Comp):Bool:=Ci ks (-1) l
theorem L5{ks:List Kind}{l:List Comp}{i:Nat}{last:Int}{k:Kind}{c:Comp}(h:i<l.length)(hc:l[i]=c)(hk:ks[c.kind.toNat]?=some k):Ci ks last (l.drop i)=(decide (last<c.kind)&&decide (c.kind<ks.length)&&Bs k c.vals&&Ci ks c.kind (l.drop (i+1))):=by
 rw[List.drop_eq_getElem_cons h,Ci,hc,hk]
theorem Ha{ks:List Kind}{l:List Comp}{i:Nat}{last:Int}{c:Comp}(h:i<l.length)(hc:l[i]=c)(hn:c.kind<=last\/(ks.length:Int)<=c.kind):Ci ks last (l.drop i)=false:=by
 rw[List.drop_eq_getElem_cons h,Ci,hc];split
 ·rcases hn with hn|hn
  ·rw[decide_eq_false (by omega)];rfl
  ·rw[decide_eq_false (p:=c.kind<_) (by omega)];simp
 ·rfl
def Bv(ks:List Kind)(gens:List Int):Int->List Item->Bool
 |_,[]=>true
 |last,it::l=>match gens[it.ent.n.toNat]? with
  |some g=>decide (last<it.ent.n)&&decide (it.ent.n<gens.length)&&decide (it.ent.gen=g)&& !decide (it.ent.gen=1073741824)&&Bj ks it.comps&&Bv ks gens it.ent.n l
  |none=>false
theorem Ks{ks:List Kind}{gens:List Int}{l:List Item}{i:Nat}{last:Int}{g:Int}{it:Item}(h:i<l.length)(hc:l[i]=it)(hk:gens[it.ent.n.toNat]?=some g):Bv ks gens last (l.drop i)=(decide (last<it.ent.n)&&decide (it.ent.n<gens.length)&&decide (it.ent.gen=g)&& !decide (it.ent.gen=1073741824)&&Bj ks it.comps&&Bv ks gens it.ent.n (l.drop (i+1))):=by
 rw[List.drop_eq_getElem_cons h,Bv,hc,hk]
theorem GZ{ks:List Kind}{gens:List Int}{l:List Item}{i:Nat}{last:Int}{it:Item}(h:i<l.length)(hc:l[i]=it)(hn:it.ent.n<=last\/(gens.length:Int)<=it.ent.n):Bv ks gens last (l.drop i)=false:=by
 rw[List.drop_eq_getElem_cons h,Bv,hc];split
 ·rcases hn with hn|hn
  ·rw[decide_eq_false (by omega)];rfl
  ·rw[decide_eq_false (p:=it.ent.n<_) (by omega)];simp
 ·rfl
def GB(l:List Int):Bool:=l.all λg=>decide (0<=g)&&decide (g<=1073741824)
def Da(w:Wd):Int:=
 if BE w.kinds≠0 then BE w.kinds
 else if 256<w.gens.length\/w.gens.length<w.items.length then 2
 else if GB w.gens=false then 3
 else if Bv w.kinds w.gens (-1) w.items=false then 3 else 0
theorem Rc(ks:List Kind)(l:List Comp)(hl:l.length<=1099511627776):PS Tryz.prog 132 [A3 false false ks,As false false l] (bA (Bj ks l)):=by
 refine Spec.of (nt:=39) (res:=[.tmp 4]) Tryz.func132 rfl (by kernel_rfl) rfl rfl rfl λSf=>?_
 have hlm:(l.map (AG false)).length=l.length:=List.length_map _;(repeat first|refine WK ?_|refine Ai λX=>?_|refine Ay λY=>?_);refine BH (λ(i:Nat) (last:Int)=>⟨[(0,A3 false false ks),(5,iA last),(8,As false false l),(9,iA (l.map (AG false)).length),(10,iA i)],Sf⟩) (λi last=>i<=l.length/\ -1<=last/\Ci ks last (l.drop i)=Bj ks l) (λi _=>l.length-i) 0 (-1) ⟨Nat.zero_le _,by omega,rfl⟩ ?_;rintro i last ⟨hi,hla,he⟩;(repeat first|refine WK ?_|refine Ai λX=>?_|refine Ay λY=>?_);refine AWP.cond rfl (λhc=>?_) (λhc=>?_)
 ·have h:i<l.length:=by rw[decide_eq_true_eq,hlm]at hc;omega
  obtain⟨⟨ck,cv⟩,hcc⟩:∃c,l[i]=c:=⟨_,rfl⟩;have hat:(l.map (AG false))[i]?=some (AG false ⟨ck,cv⟩):=by rw[List.getElem?_map,List.getElem?_eq_getElem h,hcc];rfl
  (repeat first|refine WK ?_|refine Ai λX=>?_|refine Ay λY=>?_);rcases Bool.eq_false_or_eq_true (decide (ck<=last))with g1|g1
  ·refine RU ?_;(repeat first|(refine RGo.gQ ?_;first|refine RGo.goNU ?_|refine RGo.goNV ?_)|refine RK ?_|refine RGo.nil (by kernel_rfl) ?_)
   refine AU rfl (by first|rfl|assumption) ?_;(repeat first|refine WK ?_|refine Ai λX=>?_|refine Ay λY=>?_);refine RT ?_;refine AX ?_;rw[<-he,Ha h hcc (.inl (by simpa using g1))]
  ·obtain⟨n,rfl⟩:∃n:Nat,ck=n:=⟨ck.toNat,by rw[decide_eq_false_iff_not]at g1;omega⟩
   rcases Bool.eq_false_or_eq_true (decide (((ks.map (BD false)).length:Int)<=n))with g2|g2
   ·refine RU ?_;(repeat first|(refine RGo.gQ ?_;first|refine RGo.goNU ?_|refine RGo.goNV ?_)|refine RK ?_|refine RGo.nil (by kernel_rfl) ?_)
    refine AU rfl (by first|rfl|assumption) ?_;(repeat first|refine WK ?_|refine Ai λX=>?_|refine Ay λY=>?_);refine RT ?_;refine AX ?_;rw[<-he,Ha h hcc (.inr (by rw[decide_eq_true_eq,List.length_map]at g2;exact g2))]
   ·have hkl:n<ks.length:=by rw[decide_eq_false_iff_not,List.length_map]at g2;omega
    obtain⟨k,hk⟩:∃k,ks[n]=k:=⟨_,rfl⟩;have hka:ks[n]?=some k:=by rw[List.getElem?_eq_getElem hkl,hk]
    have hat2:(ks.map (BD false))[n]?=some (BD false k):=by rw[List.getElem?_map,hka];rfl
    have hst:=L5 (last:=last) (k:=k) h hcc hka;dsimp only at hst;rw[decide_eq_true (by rw[decide_eq_false_iff_not]at g1;omega),decide_eq_true (p:=(n:Int)<_) (by omega),Bool.true_and,Bool.true_and,he]at hst;have hh:=P8 k cv;obtain⟨b,hb⟩:∃b,Bs k cv=b:=⟨_,rfl⟩;rw[hb]at hst hh;cases b
    ·refine RU ?_;(repeat first|(refine RGo.gN ?_;first|(refine RGo.g_callf ?_;first|refine RGo.c2 (h:=(hh ..)) (k:=?_)))|(refine RGo.gQ ?_;first|(refine RGo.g_callf ?_;first|refine RGo.c2 (h:=(hh ..)) (k:=?_)))|refine RK ?_|refine RGo.nil (by kernel_rfl) ?_)
     refine AU rfl (by first|rfl|assumption) ?_;(repeat first|refine WK ?_|refine Ai λX=>?_|refine Ay λY=>?_);refine RT ?_;refine AX ?_;rw[hst];rfl
    ·refine RU ?_;(repeat first|(refine RGo.gN ?_;first|(refine RGo.g_callf ?_;first|refine RGo.c2 (h:=(hh ..)) (k:=?_)))|(refine RGo.gQ ?_;first|(refine RGo.g_callf ?_;first|refine RGo.c2 (h:=(hh ..)) (k:=?_)))|refine RK ?_|refine RGo.nil (by kernel_rfl) ?_)
     refine AE rfl (by first|rfl|assumption) ?_;(repeat first|refine WK ?_|refine Ai λX=>?_|refine Ay λY=>?_);refine Ae (i+1) n ⟨h,by omega,hst.symm⟩
 ·have h:i=l.length:=by rw[decide_eq_false_iff_not,hlm]at hc;omega
  subst h;(repeat first|refine WK ?_|refine Ai λX=>?_|refine Ay λY=>?_);refine RT ?_;refine AX ?_;rw[<-he,List.drop_length];rfl
set_option maxHeartbeats 2000000 in
theorem Fd(w:Wd)(hg:w.gens.length<=1099511627776)(hi:w.items.length<=1099511627776)(hc:∀it∈w.items,it.comps.length<=1099511627776):PS Tryz.prog 60 [wdA false w] (iA (Da w)):=by
 have hck:=MO w.kinds;obtain⟨ke,hke⟩:∃ke,BE w.kinds=ke:=⟨_,rfl⟩;obtain⟨we,hwe⟩:∃we,Da w=we:=⟨_,rfl⟩;rw[hwe];unfold Da at hwe;rw[hke]at hck hwe;obtain⟨ks,gens,items⟩:=w;dsimp only at hwe hg hi hc hck hke;refine Spec.of (nt:=94) (res:=[.tmp 2]) Tryz.func60 rfl (by kernel_rfl) rfl rfl rfl λSf=>?_
 have hgm:(gens.map iA).length=gens.length:=List.length_map _;have him:(items.map (AD false)).length=items.length:=List.length_map _;refine RG ?_;(repeat first|(refine AOps.gN ?_;first|(refine AOps.g_box ?_;refine BT ?_))|refine WO ?_|refine Ai λX=>?_|refine Ay λY=>?_);refine NL ?_;refine RG ?_;(repeat first|(refine AOps.gN ?_;first|(refine AOps.g_callf ?_;first|refine AOps.c1 (h:=(hck ..)) (k:=?_)))|refine WO ?_|refine Ai λX=>?_|refine Ay λY=>?_);refine NL ?_;(repeat first|refine WK ?_|refine Ai λX=>?_|refine Ay λY=>?_);refine AWP.cond rfl (λhd=>?_) (λhd=>?_)
 ·have hd:ke≠0:=by simpa using hd
  (repeat first|refine WK ?_|refine Ai λX=>?_|refine Ay λY=>?_);refine RT ?_;refine AX ?_;rw[<-hwe,if_pos hd]
 have hd:ke=0:=by simpa using hd
 rw[if_neg (by simp[hd])]at hwe;rcases Bool.eq_false_or_eq_true (decide (256<((gens.map iA).length:Int)))with g1|g1
 ·(repeat first|refine WK ?_|refine Ai λX=>?_|refine Ay λY=>?_)
  refine AU rfl (by first|rfl|assumption) ?_;(repeat first|refine WK ?_|refine Ai λX=>?_|refine Ay λY=>?_);refine RT ?_;refine AX ?_;rw[<-hwe,if_pos (.inl (by rw[decide_eq_true_eq,hgm]at g1;omega))]
 rcases Bool.eq_false_or_eq_true (decide (((gens.map iA).length:Int)<(items.map (AD false)).length))with g2|g2
 ·(repeat first|refine WK ?_|refine Ai λX=>?_|refine Ay λY=>?_)
  refine AU rfl (by first|rfl|assumption) ?_;(repeat first|refine WK ?_|refine Ai λX=>?_|refine Ay λY=>?_);refine RT ?_;refine AX ?_;rw[<-hwe,if_pos (.inr (by rw[decide_eq_true_eq,hgm,him]at g2;omega))]
 (repeat first|refine WK ?_|refine Ai λX=>?_|refine Ay λY=>?_);refine AE rfl (by first|rfl|assumption) ?_;rw[if_neg (by rw[decide_eq_false_iff_not,hgm]at g1;rw[decide_eq_false_iff_not,hgm,him]at g2;omega)]at hwe;(repeat first|refine WK ?_|refine Ai λX=>?_|refine Ay λY=>?_);refine BN (λi:Nat=>⟨[(1,.fp (wdA false ⟨ks,gens,items⟩).cells),(29,AW false gens),(30,iA (gens.map iA).length),(31,iA i)],Sf⟩) (λi=>i<=gens.length/\∀j (h:j<gens.length),j<i->0<=gens[j]/\gens[j]<=1073741824) (λi=>gens.length-i) 0 ⟨Nat.zero_le _,λj h hj=>absurd hj (by omega)⟩ ?_;rintro i ⟨hil,hgo⟩;(repeat first|refine WK ?_|refine Ai λX=>?_|refine Ay λY=>?_);refine AWP.cond rfl (λhe=>?_) (λhe=>?_)
 ·have h:i<gens.length:=by rw[decide_eq_true_eq,hgm]at he;omega
  obtain⟨x,hx⟩:∃x,gens[i]=x:=⟨_,rfl⟩;have hat:(gens.map iA)[i]?=some (iA x):=by rw[List.getElem?_map,List.getElem?_eq_getElem h,hx];rfl
  have hbad:¬(0<=x/\x<=1073741824)->GB gens=false:=λhn=>by
   unfold GB;rw[List.all_eq_false];refine⟨x,hx▸List.getElem_mem h,?_⟩;simp only[Bool.and_eq_true,decide_eq_true_eq];exact hn
  (repeat first|refine WK ?_|refine Ai λX=>?_|refine Ay λY=>?_);refine AWP.cond rfl (λhf=>?_) (λhf=>?_)
  ·have hf:¬(0<=x/\x<=1073741824):=by simp at hf;omega
   (repeat first|refine WK ?_|refine Ai λX=>?_|refine Ay λY=>?_);refine RT ?_;refine AX ?_;rw[<-hwe,if_pos (hbad hf)]
  ·have hf:0<=x/\x<=1073741824:=by simp at hf;omega
   (repeat first|refine WK ?_|refine Ai λX=>?_|refine Ay λY=>?_);refine A4 (i+1) ⟨h,λj h1 h2=>?_⟩;by_cases e:j=i
   ·subst e;rw[hx];exact hf
   ·exact hgo j h1 (by omega)
 have hgok:GB gens=true:=by
  have h:i=gens.length:=by rw[decide_eq_false_iff_not,hgm]at he;omega
  unfold GB;rw[List.all_eq_true];intro x hx;obtain⟨j,hj,rfl⟩:=List.getElem_of_mem hx;simp only[Bool.and_eq_true,decide_eq_true_eq];exact hgo j hj (by omega)
 rw[if_neg (by simp[hgok])]at hwe;(repeat first|refine WK ?_|refine Ai λX=>?_|refine Ay λY=>?_);refine BH (λ(i:Nat) (last:Int)=>⟨[(1,.fp (wdA false ⟨ks,gens,items⟩).cells),(6,iA last),(43,G6 false false items),(44,iA (items.map (AD false)).length),(45,iA i)],Sf⟩) (λi last=>i<=items.length/\ -1<=last/\Bv ks gens last (items.drop i)=Bv ks gens (-1) items) (λi _=>items.length-i) 0 (-1) ⟨Nat.zero_le _,by omega,rfl⟩ ?_;clear hil hgo he i;rintro i last ⟨hil,hla,he⟩;(repeat first|refine WK ?_|refine Ai λX=>?_|refine Ay λY=>?_);refine AWP.cond rfl (λhd'=>?_) (λhd'=>?_)
 ·have h:i<items.length:=by rw[decide_eq_true_eq,him]at hd';omega
  obtain⟨⟨⟨en,eg⟩,cs⟩,hit⟩:∃it,items[i]=it:=⟨_,rfl⟩;have hat:(items.map (AD false))[i]?=some (AD false ⟨⟨en,eg⟩,cs⟩):=by rw[List.getElem?_map,List.getElem?_eq_getElem h,hit];rfl
  have hcl:=hc _ (hit▸List.getElem_mem h);dsimp only at hcl;(repeat first|refine WK ?_|refine Ai λX=>?_|refine Ay λY=>?_);rcases Bool.eq_false_or_eq_true (decide (en<=last))with q1|q1
  ·refine RU ?_;(repeat first|(refine RGo.gQ ?_;first|refine RGo.goNU ?_|refine RGo.goNV ?_)|refine RK ?_|refine RGo.nil (by kernel_rfl) ?_)
   refine AU rfl (by first|rfl|assumption) ?_;(repeat first|refine WK ?_|refine Ai λX=>?_|refine Ay λY=>?_);refine RT ?_;refine AX ?_;rw[<-hwe,if_pos (by rw[<-he,GZ h hit (.inl (by simpa using q1))])]
  obtain⟨n,rfl⟩:∃n:Nat,en=n:=⟨en.toNat,by rw[decide_eq_false_iff_not]at q1;omega⟩;rcases Bool.eq_false_or_eq_true (decide (((gens.map iA).length:Int)<=n))with q2|q2
  ·refine RU ?_;(repeat first|(refine RGo.gQ ?_;first|refine RGo.goNU ?_|refine RGo.goNV ?_)|refine RK ?_|refine RGo.nil (by kernel_rfl) ?_)
   refine AU rfl (by first|rfl|assumption) ?_;(repeat first|refine WK ?_|refine Ai λX=>?_|refine Ay λY=>?_);refine RT ?_;refine AX ?_;rw[<-hwe,if_pos (by rw[<-he,GZ h hit (.inr (by rw[decide_eq_true_eq,hgm]at q2;exact q2))])]
  have hkl:n<gens.length:=by rw[decide_eq_false_iff_not,hgm]at q2;omega
  obtain⟨g,hg'⟩:∃g,gens[n]=g:=⟨_,rfl⟩;have hga:gens[n]?=some g:=by rw[List.getElem?_eq_getElem hkl,hg']
  have hat2:(gens.map iA)[n]?=some (iA g):=by rw[List.getElem?_map,hga];rfl
  have hst:=Ks (ks:=ks) (last:=last) (g:=g) h hit hga;dsimp only at hst;rw[decide_eq_true (by rw[decide_eq_false_iff_not]at q1;omega),decide_eq_true (p:=(n:Int)<_) (by omega),Bool.true_and,Bool.true_and,he]at hst;rcases Bool.eq_false_or_eq_true (decide (eg≠g))with q3|q3
  ·refine RU ?_;(repeat first|(refine RGo.gQ ?_;first|refine RGo.goNU ?_|refine RGo.goNV ?_)|refine RK ?_|refine RGo.nil (by kernel_rfl) ?_)
   refine AU rfl (by first|rfl|assumption) ?_;(repeat first|refine WK ?_|refine Ai λX=>?_|refine Ay λY=>?_);refine RT ?_;refine AX ?_;rw[<-hwe,if_pos (by rw[hst,decide_eq_false (by simpa using q3)];rfl)]
  rcases Bool.eq_false_or_eq_true (decide (eg=1073741824))with q4|q4
  ·refine RU ?_;(repeat first|(refine RGo.gQ ?_;first|refine RGo.goNU ?_|refine RGo.goNV ?_)|refine RK ?_|refine RGo.nil (by kernel_rfl) ?_)
   refine AU rfl (by first|rfl|assumption) ?_;(repeat first|refine WK ?_|refine Ai λX=>?_|refine Ay λY=>?_);refine RT ?_;refine AX ?_;rw[<-hwe,if_pos (by rw[hst,q4];simp)]
  have hh:=Rc ks cs hcl;obtain⟨b,hb⟩:∃b,Bj ks cs=b:=⟨_,rfl⟩;rw[decide_eq_true (p:=eg=g) (by simpa using q3),q4,hb,Bool.true_and,Bool.not_false,Bool.true_and]at hst;rw[hb]at hh;cases b
  ·refine RU ?_;(repeat first|(refine RGo.gN ?_;first|(refine RGo.g_callf ?_;first|refine RGo.c2 (h:=(hh ..)) (k:=?_)))|(refine RGo.gQ ?_;first|(refine RGo.g_callf ?_;first|refine RGo.c2 (h:=(hh ..)) (k:=?_)))|refine RK ?_|refine RGo.nil (by kernel_rfl) ?_)
   refine AU rfl (by first|rfl|assumption) ?_;(repeat first|refine WK ?_|refine Ai λX=>?_|refine Ay λY=>?_);refine RT ?_;refine AX ?_;rw[<-hwe,if_pos (by rw[hst];rfl)]
  ·refine RU ?_;(repeat first|(refine RGo.gN ?_;first|(refine RGo.g_callf ?_;first|refine RGo.c2 (h:=(hh ..)) (k:=?_)))|(refine RGo.gQ ?_;first|(refine RGo.g_callf ?_;first|refine RGo.c2 (h:=(hh ..)) (k:=?_)))|refine RK ?_|refine RGo.nil (by kernel_rfl) ?_)
   refine AE rfl (by first|rfl|assumption) ?_;(repeat first|refine WK ?_|refine Ai λX=>?_|refine Ay λY=>?_);refine Ae (i+1) n ⟨h,by omega,hst.symm⟩
 ·have h:i=items.length:=by rw[decide_eq_false_iff_not,him]at hd';omega
  (repeat first|refine WK ?_|refine Ai λX=>?_|refine Ay λY=>?_);refine RT ?_;refine AX ?_;rw[<-hwe,if_neg (by rw[<-he,h,List.drop_length];simp[Bv])]
theorem Fc(l:List Int)(hl:l.length*8<=140737488355328):PS Tryz.prog 58 [.lst false 3 1 (l.map iA)] (.lst true 3 1 (l.map iA)):=by
 refine Spec.of (nt:=8) (res:=[.tmp 2]) Tryz.func58 rfl (by kernel_rfl) rfl rfl rfl λSf=>?_
 (repeat first|(refine AOps.gN ?_;first|refine AOps.isNil λb hb=>?_)|refine WK ?_|refine Ai λX=>?_|refine Ay λY=>?_);refine AWP.cond rfl (λhc=>?_) (λhc=>?_)
 ·rw[hb hc]
  (repeat first|refine WK ?_|refine Ai λX=>?_|refine Ay λY=>?_);refine RT ?_;exact⟨[.prim (.slice none 0 0)],[.lst true 3 1 []],_,[],.cons (.tmp rfl) rfl .nil,.cons (.cell .nil) .nil,by exact Sub.f,rfl,rfl⟩
 ·have hl':(0+(l.map iA).length)*8<=140737488355328:=by simpa using hl
  clear hl;(repeat first|(refine AOps.gN ?_;first|(refine AOps.g_lit ?_;refine KV λK=>?_))|refine WK ?_|refine Ai λX=>?_|refine Ay λY=>?_);refine RT ?_;exact⟨[.sl Y 0 (0+(l.map iA).length)],[.lst true 3 1 (l.map iA)],_,[],.cons (.tmp rfl) rfl .nil,.cons (.cell (.sl (p:=0) .here (by simp))) .nil,by exact Sub.f,rfl,rfl⟩
def DI(l:List Comp):Prop:=l.Pairwise λa b=>a.kind<b.kind
theorem Kz{a b:Int}:B6 a b<0↔a<b:=by
 unfold B6;split
 ·simp;assumption
 ·split<;>simp<;>omega
theorem cmpI_eq{a b:Int}:B6 a b=0↔a=b:=by
 unfold B6;split
 ·simp;omega
 ·split<;>simp<;>omega
def C2(l:List Comp)(k:Int):Option Comp:=l.find? λc=>decide (c.kind=k)
theorem KI{l:List Comp}{k:Int}(h:∀c∈l,c.kind≠k):C2 l k=none:=by
 unfold C2;rw[List.find?_eq_none];intro c hc;simpa using h c hc
theorem M9{l:List Item}{e:Ent}(h:CP l e<0):l.find? (λit=>decide (it.ent=e))=none:=by
 unfold CP E6 at h;split at h
 ·omega
 ·rename_i h2
  rw[List.findIdx?_eq_none_iff]at h2;rw[List.find?_eq_none];intro x hx;rw[h2 x hx];simp
theorem GH{l:List Item}{e:Ent}{n:Nat}(h:CP l e=n):∃it,l[n]?=some it/\l.find? (λit=>decide (it.ent=e))=some it/\it.ent=e:=by
 unfold CP E6 at h;split at h
 ·rename_i i h2
  have:i=n:=by omega
  subst this;obtain⟨hi,h3,h4⟩:=List.findIdx?_eq_some_iff_getElem.1 h2;refine⟨l[i],List.getElem?_eq_getElem hi,?_,by simpa using h3⟩;rw[List.find?_eq_some_iff_getElem];exact⟨h3,i,hi,rfl,λj hj=>by simpa using h4 j hj⟩
 ·omega
def E3(l:List Comp):List Comp:=l.mergeSort λa b=>decide (a.kind<=b.kind)
def CG(ks:List Kind):List Comp->List Comp->List Comp->List Comp×Int
 |_,out,[]=>(out,0)
 |pre,out,c::l=>
  if c.kind<0\/(ks.length:Int)<=c.kind then([],1)else if pre.any (λo=>decide (o.kind=c.kind))then([],5)else
  match ks[c.kind.toNat]? with
  |none=>([],1)
  |some k=>if(BW k c.vals).2≠0 then([],(BW k c.vals).2)else CG ks (pre++[c]) (out++[⟨c.kind,(BW k c.vals).1⟩]) l
def CA(ks:List Kind)(l:List Comp):List Comp×Int:=
 if BE ks≠0 then([],BE ks)else if(CG ks [] [] l).2≠0 then([],(CG ks [] [] l).2)else(E3 (CG ks [] [] l).1,0)
theorem I0{ks:List Kind}:∀{l pre out:List Comp},(CG ks pre out l).2=0->(∀a∈out,∃b∈pre,b.kind=a.kind)->out.Pairwise (λa b=>a.kind≠b.kind)->(∀a∈out,0<=a.kind/\a.kind<ks.length)->
  (CG ks pre out l).1.Pairwise (λa b=>a.kind≠b.kind)/\∀a∈(CG ks pre out l).1,0<=a.kind/\a.kind<ks.length
 |[],pre,out,h,h1,h2,h3=>⟨h2,h3⟩
 |c::l,pre,out,h,h1,h2,h3=>by
  rw[CG]at h⊢;split at h
  ·cases h
  ·rename_i g1
   rw[if_neg g1];split at h
   ·cases h
   ·rename_i g2
    rw[if_neg g2];split at h
    ·cases h
    ·rename_i k hk
     split at h
     ·rename_i g3;exact absurd h g3
     ·rename_i g3
      (try simp only[hk])
      rw[if_neg g3];refine I0 h (λa ha=>?_) ?_ (λa ha=>?_)
      ·rcases List.mem_append.1 ha with ha|ha
       ·obtain⟨b,hb,e⟩:=h1 a ha
        exact⟨b,by simp[hb],e⟩
       ·rw[List.mem_singleton.1 ha]
        exact⟨c,by simp,rfl⟩
      ·rw[List.pairwise_append]
       refine⟨h2,by simp,λa ha b hb e=>?_⟩;rw[List.mem_singleton.1 hb]at e;obtain⟨b2,hb2,e2⟩:=h1 a ha;exact g2 (List.any_eq_true.2 ⟨b2,hb2,by simpa using e2.trans e⟩)
      ·rcases List.mem_append.1 ha with ha|ha
       ·exact h3 a ha
       ·rw[List.mem_singleton.1 ha];exact⟨by dsimp only;omega,by dsimp only;omega⟩
theorem FD{α:Type}(g:α->Int):∀(n:Nat) (l:List α),l.Pairwise (λa b=>g a≠g b)->(∀a∈l,0<=g a/\g a<n)->l.length<=n:=by
 intro n l h1 h2
 have h3:(l.map λa=>(g a).toNat).Nodup:=by
  rw[List.Nodup,List.pairwise_map];refine h1.imp_of_mem λ{a b} ha hb e=>?_
  have:=h2 a ha;have:=h2 b hb;omega
 have h4:=List.Nodup.length_le_of_subset h3 (l₂:=List.range n) (λx hx=>by
  obtain⟨a,ha,rfl⟩:=List.mem_map.1 hx;have:=h2 a ha;exact List.mem_range.2 (by omega))
 simpa using h4
theorem Eq(l:List Comp):(E3 l).Perm l:=List.mergeSort_perm _ _
theorem Im{l u:List Comp}(hd:l.Pairwise (λa b=>a.kind≠b.kind))(hp:u.Perm l)(hs:u.Pairwise (λa b=>a.kind<=b.kind)):u=E3 l:=by
 refine List.Perm.eq_of_pairwise (le:=λa b=>a.kind<=b.kind) (λa b ha hb h1 h2=>?_) hs ?_ (hp.trans (Eq l).symm)
 ·have hb':b∈l:=(Eq l).mem_iff.1 hb
  have ha':a∈l:=hp.mem_iff.1 ha;obtain⟨i,hi,rfl⟩:=List.getElem_of_mem ha';obtain⟨j,hj,rfl⟩:=List.getElem_of_mem hb';have:=List.pairwise_iff_getElem.1 hd;rcases Nat.lt_trichotomy i j with x|x|x
  ·exact absurd (by omega) (this i j hi hj x)
  ·subst x;rfl
  ·exact absurd (by omega) (this j i hj hi x)
 ·have:=List.pairwise_mergeSort (le:=λa b:Comp=>decide (a.kind<=b.kind)) (λa b c h1 h2=>by simp at*;omega) (λa b=>by simp;omega) l
  exact this.imp λh=>by simpa using h
theorem Kr{l:List Comp}(hd:l.Pairwise (λa b=>a.kind≠b.kind)):DI (E3 l):=by
 have h1:(E3 l).Pairwise (λa b=>a.kind<=b.kind):=by
  have:=List.pairwise_mergeSort (le:=λa b:Comp=>decide (a.kind<=b.kind)) (λa b c h1 h2=>by simp at*;omega) (λa b=>by simp;omega) l;exact this.imp λh=>by simpa using h
 have h2:(E3 l).Pairwise (λa b=>a.kind≠b.kind):=(Eq l).symm.pairwise hd (λh=>Ne.symm h);exact(h1.and h2).imp λh=>by obtain⟨a,b⟩:=h;omega
def DF(l:List Comp)(k:Int):Nat:=(l.takeWhile λc=>decide (c.kind<k)).length
def Ef:List Comp->Comp->List Comp
 |[],c=>[c]
 |x::l,c=>if x.kind<c.kind then x::Ef l c else if x.kind=c.kind then c::l else c::x::l
def Eh(l:List Comp)(k:Int):List Comp:=l.filter λc=>!decide (c.kind=k)
def Cv(w:Wd)(i:Nat)(cs:List Comp):Wd:=⟨w.kinds,w.gens,match w.items[i]? with|some it=>w.items.set i ⟨it.ent,cs⟩|none=>w.items⟩
def Cs(w:Wd)(e:Ent)(c:Comp):Wd×Int:=
 if Da w≠0 then(⟨[],[],[]⟩,Da w)else if CP w.items e<0 then(⟨[],[],[]⟩,4)else
 if(CA w.kinds [c]).2≠0 then(⟨[],[],[]⟩,(CA w.kinds [c]).2)else
 match w.items[(CP w.items e).toNat]?,(CA w.kinds [c]).1 with
 |some it,[d]=>(Cv w (CP w.items e).toNat (Ef it.comps d),0)
 |_,_=>(⟨[],[],[]⟩,0)
def EB(w:Wd)(e:Ent)(k:Int):Wd×Int:=
 if Da w≠0 then(⟨[],[],[]⟩,Da w)else if CP w.items e<0 then(⟨[],[],[]⟩,4)else
 match w.items[(CP w.items e).toNat]? with
 |some it=>if(C2 it.comps k).isSome then(Cv w (CP w.items e).toNat (Eh it.comps k),0)else(⟨[],[],[]⟩,4)
 |none=>(⟨[],[],[]⟩,4)
def DT(w:Wd)(e:Ent):Wd×Int:=
 if Da w≠0 then(⟨[],[],[]⟩,Da w)else if CP w.items e<0 then(⟨[],[],[]⟩,4)else
 (⟨w.kinds,w.gens.set e.n.toNat (w.gens.getD e.n.toNat 0+1),w.items.eraseIdx (CP w.items e).toNat⟩,0)
def B9(gens:List Int)(n:Nat):List Int:=if n=gens.length then gens++[0]else gens
def G9:List Item->Item->List Item
 |[],it=>[it]
 |x::l,it=>if x.ent.n<it.ent.n then x::G9 l it else it::x::l
def Co(w:Wd)(l:List Comp):Wd×Ent×Int:=
 if Da w≠0 then(⟨[],[],[]⟩,⟨0,0⟩,Da w)else if(CA w.kinds l).2≠0 then(⟨[],[],[]⟩,⟨0,0⟩,(CA w.kinds l).2)else
 if(BL w).2=false then(⟨[],[],[]⟩,⟨0,0⟩,6)else
 (⟨w.kinds,B9 w.gens (BL w).1,G9 w.items ⟨⟨(BL w).1,(B9 w.gens (BL w).1).getD (BL w).1 0⟩,(CA w.kinds l).1⟩⟩,⟨(BL w).1,(B9 w.gens (BL w).1).getD (BL w).1 0⟩,0)
theorem Fl(i c:Nat)(l:List Int):(BJ i c l).1.length=c:=by
 induction c generalizing i l with
 |zero=>rfl
 |succ c ih=>simp[BJ,ih]
theorem Hu(i c:Nat)(l:List Int):(BJ i c l).1.map (·.name)=(List.range' i c).map B0:=by
 induction c generalizing i l with
 |zero=>rfl
 |succ c ih=>
  have:(Bx i l).1.name=B0 i:=by unfold Bx;split<;>rfl
  simp[BJ,ih,List.range'_succ,this]
theorem HF(k c:Nat)(l:List Int):(Ap k c l).1.length=c:=by
 induction c generalizing k l with
 |zero=>rfl
 |succ c ih=>simp[Ap,ih]
theorem GC(k c:Nat)(l:List Int):(Ap k c l).1.map (·.name)=(List.range' k c).map DD:=by
 induction c generalizing k l with
 |zero=>rfl
 |succ c ih=>simp[Ap,ih,List.range'_succ,Cp]
theorem Gh(i:Nat):CW (B0 i)=true:=by
 unfold B0;split<;>decide
theorem Ly(i:Nat):CW (DD i)=true:=by
 unfold DD;split<;>decide
theorem L9(i:Nat)(l:List Int):Ab (Bx i l).1=0:=by
 have h1:=Ah l (n:=9) (by omega);have h2:=Ah (Ad l 9) (n:=40) (by omega);unfold Bx;split
 ·simp[Ab,Gh]
 ·simp[Ab,Gh]
  omega
theorem Gd(i c:Nat)(l:List Int):∀f∈(BJ i c l).1,Ab f=0:=by
 induction c generalizing i l with
 |zero=>intro f h;simp[BJ]at h
 |succ c ih=>
  intro f h;simp only[BJ,List.mem_cons]at h;rcases h with rfl|h
  ·exact L9 i l
  ·exact ih _ _ f h
theorem I6:∀(fs pre:List Field),(∀f∈fs,Ab f=0)->((pre++fs).map (·.name)).Nodup->BO pre fs=0:=by
 intro fs
 induction fs with
 |nil=>intro pre _ _;rfl
 |cons f fs ih=>
  intro pre h hn;have h1:=h f (by simp)
  have h2:pre.any (λo=>o.name==f.name)=false:=by
   rw[List.any_eq_false];intro o ho;simp only[beq_iff_eq];intro e;rw[List.map_append,List.nodup_append]at hn;exact hn.2.2 o.name (List.mem_map_of_mem ho) f.name (by simp) e
  simp only[BO,h1,h2];simp;exact ih _ (λx hx=>h x (by simp[hx])) (by simpa using hn)
theorem JZ:∀(ks pre:List Kind),(∀k∈ks,BG k=0)->((pre++ks).map (·.name)).Nodup->BX pre ks=0:=by
 intro fs
 induction fs with
 |nil=>intro pre _ _;rfl
 |cons f fs ih=>
  intro pre h hn;have h1:=h f (by simp)
  have h2:pre.any (λo=>o.name==f.name)=false:=by
   rw[List.any_eq_false];intro o ho;simp only[beq_iff_eq];intro e;rw[List.map_append,List.nodup_append]at hn;exact hn.2.2 o.name (List.mem_map_of_mem ho) f.name (by simp) e
  simp only[BX,h1,h2];simp;exact ih _ (λx hx=>h x (by simp[hx])) (by simpa using hn)
theorem HI{c:Nat}(h:c<=3):((List.range' 0 c).map B0).Nodup:=by
 have:c=0\/c=1\/c=2\/c=3:=by omega
 rcases this with rfl|rfl|rfl|rfl<;>decide
theorem Hq{c:Nat}(h:c<=4):((List.range' 0 c).map DD).Nodup:=by
 have:c=0\/c=1\/c=2\/c=3\/c=4:=by omega
 rcases this with rfl|rfl|rfl|rfl|rfl<;>decide
theorem M6(k:Nat)(l:List Int):BG (Cp k l).1=0:=by
 have h1:=Ah l (n:=3) (by omega);have h2:(1+Ao l 3).toNat<=3:=by omega
 have h3:=I6 (BJ 0 (1+Ao l 3).toNat (Ad l 3)).1 [] (Gd _ _ _) (by
  rw[List.nil_append,Hu];exact HI h2)
 have h4:=Fl 0 (1+Ao l 3).toNat (Ad l 3);unfold BG Cp;simp only[Ly,h3,h4,if_true];rw[if_neg (by omega)]
theorem Ht(i c:Nat)(l:List Int):∀f∈(Ap i c l).1,BG f=0:=by
 induction c generalizing i l with
 |zero=>intro f h;simp[Ap]at h
 |succ c ih=>
  intro f h;simp only[Ap,List.mem_cons]at h;rcases h with rfl|h
  ·exact M6 i l
  ·exact ih _ _ f h
theorem Kv(l:List Int):1<=(Aa l).1.length/\(Aa l).1.length<=4:=by
 have h:=Ah l (n:=4) (by omega);unfold Aa;rw[HF];omega
theorem Iv(l:List Int):((Aa l).1.map (·.name)).Nodup:=by
 have h:=Ah l (n:=4) (by omega);unfold Aa;rw[GC];exact Hq (by omega)
theorem Hb(l:List Int):∀k∈(Aa l).1,BG k=0:=Ht _ _ _
theorem Iw(l:List Int):BE (Aa l).1=0:=by
 unfold BE;have:=Kv l;rw[if_neg (by omega)];exact JZ _ [] (Hb l) (Iv l)
theorem Lh{f:Field}(h:Ab f=0)(v:Int):f.low<=Bo f v/\Bo f v<=DU f:=by
 have:=Os h;unfold Bo;rw[if_pos h];omega
theorem Nk{f:Field}(h:Ab f=0){v:Int}(h1:f.low<=v)(h2:v<=DU f):Bo f v=v:=by
 unfold Bo;rw[if_pos h];omega
theorem Oe{f:Field}(h:Ab f=0)(v:Int):Bo f (Bo f v)=Bo f v:=Nk h (Lh h v).1 (Lh h v).2
theorem Of{fs:List Field}(h:∀f∈fs,Ab f=0)(vals:List Int):List.zipWith Bo fs (List.zipWith Bo fs vals)=List.zipWith Bo fs vals:=by
 induction fs generalizing vals with
 |nil=>rfl
 |cons f fs ih=>
  cases vals with
  |nil=>rfl
  |cons v vals=>simp[Oe (h f (by simp)),ih (λx hx=>h x (by simp[hx]))]
theorem Iz{k:Kind}(h:BG k=0){vals:List Int}(hl:vals.length=k.fields.length):BW k vals=(List.zipWith Bo k.fields vals,0):=by
 unfold BW;rw[if_neg (by simp[h]),if_neg (by simp[hl])]
theorem Ix(k:Nat)(l:List Int):(∀f∈(Cp k l).1.fields,Ab f=0)/\(Cp k l).1.fields.length<=3:=by
 have h1:=Ah l (n:=3) (by omega);refine⟨Gd _ _ _,?_⟩;show(BJ _ _ _).1.length<=3
 rw[Fl];omega
theorem Fk(i c:Nat)(l:List Int):∀k∈(Ap i c l).1,(∀f∈k.fields,Ab f=0)/\k.fields.length<=3:=by
 induction c generalizing i l with
 |zero=>intro f h;simp[Ap]at h
 |succ c ih=>
  intro f h;simp only[Ap,List.mem_cons]at h;rcases h with rfl|h
  ·exact Ix i l
  ·exact ih _ _ f h
theorem Hs(l:List Int):∀k∈(Aa l).1,(∀f∈k.fields,Ab f=0)/\k.fields.length<=3:=Fk _ _ _
def vAt(fs:List Field)(l:List Int):Nat->List Int×List Int
 |0=>([],l)
 |i+1=>match fs[i]? with
  |some f=>((vAt fs l i).1++[f.low+Ao (vAt fs l i).2 (2^f.bits.toNat)],Ad (vAt fs l i).2 (2^f.bits.toNat))
  |none=>vAt fs l i
def cAt(ks:List Kind)(l:List Int):Nat->List Comp×List Int
 |0=>([],l)
 |i+1=>match ks[i]? with
  |some k=>if Ao (cAt ks l i).2 3=2 then((cAt ks l i).1,Ad (cAt ks l i).2 3)
   else((cAt ks l i).1++[⟨i,(vAt k.fields (Ad (cAt ks l i).2 3) k.fields.length).1⟩],(vAt k.fields (Ad (cAt ks l i).2 3) k.fields.length).2)
  |none=>cAt ks l i
def Cu(ks:List Kind)(l:List Int):List Comp×List Int:=cAt ks l ks.length
def wAt(ks:List Kind)(l:List Int):Nat->List Int×List Item×List Int
 |0=>([],[],l)
 |i+1=>
  if Ao (Ad (wAt ks l i).2.2 3) 4=3\/(wAt ks l i).2.1.length=8 then((wAt ks l i).1++[Ao (wAt ks l i).2.2 3],(wAt ks l i).2.1,Ad (Ad (wAt ks l i).2.2 3) 4)
  else((wAt ks l i).1++[Ao (wAt ks l i).2.2 3],(wAt ks l i).2.1++[⟨⟨i,Ao (wAt ks l i).2.2 3⟩,(Cu ks (Ad (Ad (wAt ks l i).2.2 3) 4)).1⟩],(Cu ks (Ad (Ad (wAt ks l i).2.2 3) 4)).2)
def D8(l:List Int):Wd:=
 ⟨(Aa l).1,(wAt (Aa l).1 (Ad (Aa l).2 12) (Ao (Aa l).2 12).toNat).1,(wAt (Aa l).1 (Ad (Aa l).2 12) (Ao (Aa l).2 12).toNat).2.1⟩
def Dm(f:Field):Prop:=0<=f.bits/\f.bits<=32/\ -2147483648<=f.low/\f.low<=2147483648
def N7(ks:List Kind):Prop:=ks.length<=1099511627776/\∀k∈ks,k.fields.length<=1099511627776/\∀f∈k.fields,Dm f
theorem Q0(fs:List Field)(l:List Int)(i:Nat):(vAt fs l i).1.length<=i:=by
 induction i with
 |zero=>simp[vAt]
 |succ i ih=>rw[vAt];split<;>(try simp only[List.length_append,List.length_singleton])<;>omega
theorem Rs(ks:List Kind)(l:List Int)(i:Nat):(cAt ks l i).1.length<=i:=by
 induction i with
 |zero=>simp[cAt]
 |succ i ih=>rw[cAt];split<;>(try split)<;>(try simp only[List.length_append,List.length_singleton])<;>omega
theorem LD{fs:List Field}{l:List Int}{i:Nat}(h:i<fs.length):vAt fs l (i+1)=((vAt fs l i).1++[fs[i].low+Ao (vAt fs l i).2 (2^fs[i].bits.toNat)],Ad (vAt fs l i).2 (2^fs[i].bits.toNat)):=by
 rw[vAt,List.getElem?_eq_getElem h]
theorem K3{ks:List Kind}{l:List Int}{i:Nat}(h:i<ks.length)(h2:Ao (cAt ks l i).2 3=2):cAt ks l (i+1)=((cAt ks l i).1,Ad (cAt ks l i).2 3):=by
 rw[cAt,List.getElem?_eq_getElem h];simp only;rw[if_pos h2]
theorem K1{ks:List Kind}{l:List Int}{i:Nat}(h:i<ks.length)(h2:Ao (cAt ks l i).2 3≠2):cAt ks l (i+1)=((cAt ks l i).1++[⟨i,(vAt ks[i].fields (Ad (cAt ks l i).2 3) ks[i].fields.length).1⟩],(vAt ks[i].fields (Ad (cAt ks l i).2 3) ks[i].fields.length).2):=by
 rw[cAt,List.getElem?_eq_getElem h];simp only;rw[if_neg h2]
theorem Jy{b:Nat}(h:b<=32):(1:Int)<=2^b/\(2:Int)^b<=4294967296:=by
 have h1:(2:Nat)^b<=2^32:=Nat.pow_le_pow_right (by decide) h;have h2:0<(2:Nat)^b:=Nat.pow_pos (by decide);have h3:((2:Int)^b)=(((2:Nat)^b:Nat):Int):=by simp
 rw[h3];have:(2:Nat)^32=4294967296:=by decide
 omega
theorem MK(G:Nat)(ks:List Kind)(l:List Int)(hk:N7 ks):PO Tryz.prog 53 [A3 false false ks,.ptr G 0 0] G (CZ l) (As true false (Cu ks l).1) (CZ (Cu ks l).2):=by
 refine Spec.of (nt:=50) (res:=[.tmp 4]) Tryz.func53 rfl (by kernel_rfl) rfl rfl rfl λSf=>?_
 obtain⟨hk0,hk1⟩:=hk;refine RG ?_;(repeat first|refine WO ?_|refine Ai λX=>?_|refine Ay λY=>?_);refine NL ?_;refine RG ?_;(repeat first|refine WO ?_|refine Ai λX=>?_|refine Ay λY=>?_);refine NL ?_;refine RG ?_;(repeat first|refine WO ?_|refine Ai λX=>?_|refine Ay λY=>?_);refine NL ?_;refine FL ?_;refine AWP.adopt (d:=5) 42 2 rfl λK=>?_
 refine OA (λ(i K:Nat) (M:List AV) (n:Nat) (q:List Int)=>⟨[(1,.ptr G 0 0),(5,.sl K 0 n),(11,A3 false false ks),(12,iA (ks.map (BD false)).length),(13,iA i)],(K,.row 42 2 M)::(G,CZ q)::Sf⟩) (λi _ M n q=>i<=ks.length/\M=(cAt ks l i).1.map (AG false)/\n=M.length/\q=(cAt ks l i).2) (λi _ _ _ _=>ks.length-i) 0 K [] 0 l ⟨Nat.zero_le _,rfl,rfl,rfl⟩ ?_;rintro i K M n q ⟨hi,hM,hn,hq⟩;(repeat first|refine WK ?_|refine Ai λX=>?_|refine Ay λY=>?_);refine AWP.cond rfl (λhc=>?_) (λhc=>?_)
 ·have h:i<ks.length:=by simpa using hc
  obtain⟨hf0,hf1⟩:=hk1 _ (List.getElem_mem h);have h3:=Ah q (n:=3) (by decide);have hn1:n+1<=1099511627776:=by have:=Rs ks l i;rw[hn,hM,List.length_map];omega
  (repeat first|(refine AOps.gN ?_;first|(refine AOps.g_callf ?_;first|refine AOps.o2 (h:=(Cw G _ _ (by decide))) (k:=?_)))|refine WK ?_|refine Ai λX=>?_|refine Ay λY=>?_);refine AWP.cond rfl (λhe=>?_) (λhe=>?_)
  ·have he:Ao q 3=2:=by simpa using he
   (repeat first|refine WK ?_|refine Ai λX=>?_|refine Ay λY=>?_);refine If (i+1) K M n _ ⟨h,?_,hn,?_⟩
   ·rw[K3 h (hq▸he),hM]
   ·rw[K3 h (hq▸he),hq]
  ·have he:Ao q 3≠2:=by simpa using he
   refine RG ?_;(repeat first|refine WO ?_|refine Ai λY=>?_|refine Ay λY=>?_);refine NL ?_;refine AWP.adoptIn (Y:=Y) 3 1 .here (λF=>.cons (.agg (.cons .same (.cons (.base .nil) .nil))) .nil) λF=>?_
   (repeat first|refine WK ?_|refine Ai λX=>?_|refine Ay λY=>?_);obtain⟨fs,hfs⟩:∃fs,ks[i].fields=fs:=⟨_,rfl⟩;obtain⟨q1,hq1⟩:∃q1,Ad q 3=q1:=⟨_,rfl⟩;rw[hq1,hfs];have hck:cAt ks l (i+1)=((cAt ks l i).1++[⟨i,(vAt fs q1 fs.length).1⟩],(vAt fs q1 fs.length).2):=by rw[K1 h (hq▸he),<-hq,hq1,hfs]
   rw[hfs]at hf0 hf1;refine OA (λ(j F:Nat) (L:List AV) (m:Nat) (r:List Int)=>⟨[(1,.ptr G 0 0),(5,.sl K 0 n),(6,iA i),(8,.ptr Y 0 0),(11,A3 false false ks),(12,iA (ks.map (BD false)).length),(13,iA i),(24,Gg false fs),(25,iA (fs.map fieldA).length),(26,iA j)],(F,.row 3 1 L)::(Y,.row 42 2 [.agg [iA i,.sl F 0 m]])::(K,.row 42 2 M)::(G,CZ r)::Sf⟩) (λj _ L m r=>j<=fs.length/\L=(vAt fs q1 j).1.map iA/\m=L.length/\r=(vAt fs q1 j).2) (λj _ _ _ _=>fs.length-j) 0 F [] 0 q1 ⟨Nat.zero_le _,rfl,rfl,rfl⟩ ?_;rintro j F L m r ⟨hj,hL,hm,hr⟩;(repeat first|refine WK ?_|refine Ai λX=>?_|refine Ay λY=>?_);refine AWP.cond rfl (λhd=>?_) (λhd=>?_)
   ·have hj':j<fs.length:=by simpa using hd
    obtain⟨hb0,hb1,hl0,hl1⟩:=hf1 _ (List.getElem_mem hj');obtain⟨b,hb⟩:∃b:Nat,fs[j].bits=b:=⟨fs[j].bits.toNat,by omega⟩;have hp:=Jy (b:=b) (by omega);have hw:IntKind.i64.wrap (1*2^b)=2^b:=by rw[Int.one_mul];exact Dh (by omega) (by omega)
    have hv:=Ah r (n:=IntKind.i64.wrap (1*2^b)) (by omega);have hm1:m+1<=1099511627776:=by have:=Q0 fs q1 j;rw[hm,hL,List.length_map];omega
    (repeat first|refine WK ?_|refine Ai λZ=>?_|refine Ay λY=>?_);refine AWP.rs λX7=>?_
    refine RU ?_;(repeat first|(refine RGo.gN ?_;first|(refine RGo.g_callf ?_;first|refine RGo.o2 (h:=(Cw G _ _ (by rw[hw];omega))) (k:=?_))|refine RGo.p (W.shl rfl rfl hb (by show b<=64;omega)) rfl ?_|refine RGo.p (W.add rfl rfl (by omega)) rfl ?_)|(refine RGo.gQ ?_;first|(refine RGo.g_callf ?_;first|refine RGo.o2 (h:=(Cw G _ _ (by rw[hw];omega))) (k:=?_))|refine RGo.p (W.shl rfl rfl hb (by show b<=64;omega)) rfl ?_|refine RGo.p (W.add rfl rfl (by omega)) rfl ?_)|refine RK ?_|refine RGo.nil (by kernel_rfl) ?_);(repeat first|refine WK ?_|refine Ai λX=>?_|refine Ay λY=>?_);have hva:vAt fs q1 (j+1)=((vAt fs q1 j).1++[fs[j].low+Ao r (IntKind.i64.wrap (1*2^b))],Ad r (IntKind.i64.wrap (1*2^b))):=by rw[LD hj',<-hr,hw,hb];rfl
    refine If (j+1) X7 _ _ _ ⟨hj',?_,?_,?_⟩
    ·rw[hva,hL,List.map_append];rfl
    ·rw[List.length_append,hm]
    ·rw[hva]
   ·have hj':j=fs.length:=by rw[decide_eq_false_iff_not,List.length_map]at hd;omega
    subst hj';refine FL ?_;refine AWP.iceIn (X:=F) (Y:=Y) .here (.next .here) rfl (.cons (.agg (.cons .same (.cons (.base (.sl (by omega))) .nil))) .nil) ?_
    have hF:An ((L.drop 0).take m)=(vAt fs q1 fs.length).1.map iA:=by
     rw[List.drop_zero,List.take_of_length_le (by omega),hL];exact Frzs.h
    rw[hF];(repeat first|(refine AOps.gN ?_;first|(refine AOps.g_lit ?_;refine AOps.goL (AG false ⟨i,(vAt fs q1 fs.length).1⟩) ?_))|refine WK ?_|refine Ai λX=>?_|refine Ay λY=>?_);refine If (i+1) Y _ _ _ ⟨h,?_,?_,?_⟩
    ·rw[hck,hM,List.map_append];rfl
    ·rw[List.length_append,hn]
    ·rw[hck,hr]
 ·have h:i=ks.length:=by rw[decide_eq_false_iff_not,List.length_map]at hc;omega
  subst h;(repeat first|refine WK ?_|refine Ai λX=>?_|refine Ay λY=>?_);refine RT ?_;subst hM hq;exact⟨[.sl K 0 n],[.lst true 42 2 ((cAt ks l ks.length).1.map (AG false))],_,[(G,CZ (cAt ks l ks.length).2)],.cons (.tmp rfl) rfl .nil,.cons (.cell (.sl (p:=0) .here hn)) .nil,by exact Sub.f,rfl,rfl⟩
theorem ID(ks:List Kind)(l:List Int)(i:Nat):(wAt ks l i).1.length=i:=by
 induction i with
 |zero=>rfl
 |succ i ih=>rw[wAt];split<;>simp[ih]
theorem LC(ks:List Kind)(l:List Int)(i:Nat):(wAt ks l i).2.1.length<=i:=by
 induction i with
 |zero=>simp[wAt]
 |succ i ih=>rw[wAt];split<;>(try simp only[List.length_append,List.length_singleton])<;>omega
def wdO(w:Wd):AV:=.agg [A3 false false w.kinds,AW true w.gens,G6 true false w.items]
instance {w:Wd}:Frz (wdO w) (wdA false w):=⟨by unfold wdO wdA;exact Frz.h⟩
theorem Kw(i:Nat)(l:List Int):Dm (Bx i l).1:=by
 have h9:=Ah l (n:=9) (by decide);have h40:=Ah (Ad l 9) (n:=40) (by decide);unfold Bx;split<;>refine⟨?_,?_,?_,?_⟩<;>simp<;>omega
theorem Rk(i:Nat)(l:List Int):∀f∈(fAt i l).1,Dm f:=by
 induction i with
 |zero=>intro f hf;cases hf
 |succ i ih=>
  intro f hf;rcases List.mem_append.1 hf with hf|hf
  ·exact ih f hf
  ·rw[List.mem_singleton.1 hf];exact Kw _ _
theorem L8(k:Nat)(l:List Int):(Cp k l).1.fields.length<=3/\∀f∈(Cp k l).1.fields,Dm f:=by
 have h:=Ah l (n:=3) (by decide);show(BJ 0 (1+Ao l 3).toNat (Ad l 3)).1.length<=3/\∀f∈(BJ 0 (1+Ao l 3).toNat (Ad l 3)).1,Dm f
 rw[Ge];exact⟨by rw[Rl];omega,Rk _ _⟩
theorem Nt(i:Nat)(l:List Int):∀k∈(kAt i l).1,k.fields.length<=3/\∀f∈k.fields,Dm f:=by
 induction i with
 |zero=>intro f hf;cases hf
 |succ i ih=>
  intro f hf;rcases List.mem_append.1 hf with hf|hf
  ·exact ih f hf
  ·rw[List.mem_singleton.1 hf];exact L8 _ _
theorem Gc(l:List Int):(Aa l).1.length=(1+Ao l 4).toNat:=by rw[EI,Nu]
theorem Gb(l:List Int):N7 (Aa l).1:=by
 have h:=Ah l (n:=4) (by decide);refine⟨by rw[Gc];omega,?_⟩;rw[EI];intro k hk;have:=Nt _ _ k hk;exact⟨by omega,this.2⟩
theorem PL(l:List Int):PS Tryz.prog 11 [AW false l] (wdO (D8 l)):=by
 refine Spec.of (nt:=52) (res:=[.cell 2 26]) Tryz.func11 rfl (by kernel_rfl) rfl rfl rfl λSf=>?_
 have hko:=Gb l;obtain⟨ks,hks⟩:∃ks,(Aa l).1=ks:=⟨_,rfl⟩;obtain⟨l1,hl1⟩:∃l1,(Aa l).2=l1:=⟨_,rfl⟩;have h12:=Ah l1 (n:=12) (by decide);obtain⟨c,hc⟩:∃c:Nat,Ao l1 12=c:=⟨(Ao l1 12).toNat,by omega⟩;obtain⟨l2,hl2⟩:∃l2,Ad l1 12=l2:=⟨_,rfl⟩;have hg:D8 l=⟨ks,(wAt ks l2 c).1,(wAt ks l2 c).2.1⟩:=by unfold D8;rw[hks,hl1,hl2,hc];rfl
 have hkp:=λG=>Px G l
 rw[hks,hl1]at hkp;rw[hks]at hko;rw[hg];clear hg hks hl1;refine RG ?_;(repeat first|refine WO ?_|refine Ai λR=>?_|refine Ay λY=>?_);refine NL ?_;refine RG ?_;(repeat first|refine WO ?_|refine Ai λG=>?_|refine Ay λY=>?_);refine NL ?_;refine RG ?_;(repeat first|(refine AOps.gN ?_;first|(refine AOps.g_callf ?_;first|refine R8 (h:=(hkp G)) (k:=?_)))|refine WO ?_|refine Ai λV=>?_|refine Ay λY=>?_);refine NL ?_;refine RG ?_;(repeat first|(refine AOps.gN ?_;first|(refine AOps.g_callf ?_;first|refine AOps.o2 (h:=(Cw G _ _ (by decide))) (k:=?_)))|refine WO ?_|refine Ai λX=>?_|refine Ay λY=>?_);refine NL ?_;rw[hl2,hc];refine AWP.adoptIn (Y:=V) 71 3 (by exact At.f) (λF=>.cons (.agg (.cons .same (.cons .same (.cons (.base .nil) .nil)))) .nil) λB=>?_
 refine AWP.adoptIn (Y:=V) 3 1 (by exact At.f) (λF=>.cons (.agg (.cons .same (.cons (.base .nil) (.cons .same .nil)))) .nil) λA=>?_
 refine FL ?_;refine R4 (λ(i A B:Nat) (L M:List AV) (n:Nat) (q:List Int)=>⟨[(2,.ptr R 0 0),(3,.ptr G 0 0),(4,.ptr V 0 0),(13,iA c),(14,iA i)],(A,.row 3 1 L)::(B,.row 71 3 M)::(V,.row 26 3 [.agg [A3 false false ks,.sl A 0 i,.sl B 0 n]])::(G,CZ q)::(R,.row 26 3 [.agg [.prim (.slice none 0 0),.prim (.slice none 0 0),.prim (.slice none 0 0)]])::Sf⟩) (λi _ _ L M n q=>i<=c/\L=(wAt ks l2 i).1.map iA/\M=(wAt ks l2 i).2.1.map (AD false)/\n=M.length/\q=(wAt ks l2 i).2.2) (λi _ _ _ _ _ _=>c-i) 0 A B [] [] 0 l2 ⟨Nat.zero_le _,rfl,rfl,rfl,rfl⟩ ?_;rintro i A B L M n q ⟨hi,hL,hM,hn,hq⟩;have hA:=ID ks l2 i;have hB:=LC ks l2 i;(repeat first|refine WK ?_|refine Ai λX=>?_|refine Ay λY=>?_);refine AWP.cond rfl (λhd=>?_) (λhd=>?_)
 ·have h:i<c:=by rw[decide_eq_true_eq]at hd;omega
  have h3:=Ah q (n:=3) (by decide);have h4:=Ah (Ad q 3) (n:=4) (by decide);refine RG ?_;(repeat first|refine WO ?_|refine Ai λX=>?_|refine Ay λY=>?_);refine NL ?_;refine AWP.rs λX7=>?_
  refine RU ?_;(repeat first|(refine RGo.gN ?_;first|(refine RGo.g_callf ?_;first|refine RGo.o2 (h:=(Cw G _ _ (by decide))) (k:=?_)))|(refine RGo.gQ ?_;first|(refine RGo.g_callf ?_;first|refine RGo.o2 (h:=(Cw G _ _ (by decide))) (k:=?_)))|refine RK ?_|refine RGo.nil (by kernel_rfl) ?_);(repeat first|(refine AOps.gN ?_;first|(refine AOps.g_callf ?_;first|refine AOps.o2 (h:=(Cw G _ _ (by decide))) (k:=?_)))|refine WK ?_|refine Ai λX=>?_|refine Ay λY=>?_);have hLl:L.length=i:=by rw[hL,List.length_map,hA]
  obtain⟨IT,hIT⟩:∃IT,(wAt ks l2 i).2.1=IT:=⟨_,rfl⟩;rw[hIT]at hM hB;have hnl:n=IT.length:=by rw[hn,hM,List.length_map]
  have hat:(L++[.prim (.int .i64 (Ao q 3))])[i]?=some (.prim (.int .i64 (Ao q 3))):=by rw[<-hLl];simp
  refine AWP.cond rfl (λhe=>?_) (λhe=>?_)
  ·have he:Ao (Ad q 3) 4=3\/n=8:=by rw[Bool.or_eq_true,decide_eq_true_eq,decide_eq_true_eq]at he;omega
   have hw:wAt ks l2 (i+1)=((wAt ks l2 i).1++[Ao q 3],IT,Ad (Ad q 3) 4):=by rw[wAt,<-hq,hIT,<-hnl,if_pos he]
   (repeat first|refine WK ?_|refine Ai λX=>?_|refine Ay λY=>?_);refine Lp (i+1) X7 B _ M n _ ⟨h,?_,?_,hn,?_⟩
   ·rw[hw,hL,List.map_append];rfl
   ·rw[hw,hM]
   ·rw[hw]
  ·have he:¬(Ao (Ad q 3) 4=3\/n=8):=by rw[Bool.or_eq_false_iff,decide_eq_false_iff_not,decide_eq_false_iff_not]at he;omega
   have hw:wAt ks l2 (i+1)=((wAt ks l2 i).1++[Ao q 3],IT++[⟨⟨i,Ao q 3⟩,(Cu ks (Ad (Ad q 3) 4)).1⟩],(Cu ks (Ad (Ad q 3) 4)).2):=by rw[wAt,<-hq,hIT,<-hnl,if_neg he]
   have hin:i<i+[AV.prim (.int .i64 (Ao q 3))].length:=Nat.lt_succ_self i;refine AWP.rs λX8=>?_
   refine RU ?_;(repeat first|(refine RGo.gN ?_;first|(refine RGo.g_callf ?_;first|refine RGo.o2 (h:=(MK G ks _ hko)) (k:=?_))|(refine RGo.g_lit ?_;refine RGo.goL (AD false ⟨⟨i,Ao q 3⟩,(Cu ks (Ad (Ad q 3) 4)).1⟩) ?_))|(refine RGo.gQ ?_;first|(refine RGo.g_callf ?_;first|refine RGo.o2 (h:=(MK G ks _ hko)) (k:=?_))|(refine RGo.g_lit ?_;refine RGo.goL (AD false ⟨⟨i,Ao q 3⟩,(Cu ks (Ad (Ad q 3) 4)).1⟩) ?_))|refine RK ?_|refine RGo.nil (by kernel_rfl) ?_);(repeat first|refine WK ?_|refine Ai λX=>?_|refine Ay λY=>?_);refine Lp (i+1) X7 X8 _ _ _ _ ⟨h,?_,?_,?_,?_⟩
   ·rw[hw,hL,List.map_append];rfl
   ·rw[hw,hM,List.map_append];rfl
   ·rw[List.length_append,hn]
   ·rw[hw]
 ·have h:i=c:=by rw[decide_eq_false_iff_not]at hd;omega
  subst h;(repeat first|refine WK ?_|refine Ai λX=>?_|refine Ay λY=>?_);refine RT ?_;subst hL hM;have hA:i=((wAt ks l2 i).1.map iA).length:=by rw[List.length_map,hA]
  exact⟨[.agg [A3 false false ks,.sl A 0 i,.sl B 0 n]],[wdO ⟨ks,(wAt ks l2 i).1,(wAt ks l2 i).2.1⟩],_,[],.cons (.cell (p:=4) rfl (by exact At.f) TAg.h TSize.h rfl rfl) rfl .nil,.cons (.agg (.cons .same (.cons (.sl (p:=0) .here hA) (.cons (.sl (p:=0) .here hn) .nil)))) .nil,by exact Sub.f,rfl,rfl⟩
theorem N3{ks:List Kind}{l:List Int}{i:Nat}{c:Comp}(h:c∈(cAt ks l i).1):∃(j:Nat) (hj:j<ks.length) (q:List Int),j<i/\c=⟨j,(vAt ks[j].fields q ks[j].fields.length).1⟩:=by
 induction i with
 |zero=>cases h
 |succ i ih=>
  by_cases hi:i<ks.length
  ·by_cases h2:Ao (cAt ks l i).2 3=2
   ·rw[K3 hi h2]at h
    obtain⟨j,hj,q,h3,h4⟩:=ih h;exact⟨j,hj,q,by omega,h4⟩
   ·rw[K1 hi h2]at h
    rcases List.mem_append.1 h with h|h
    ·obtain⟨j,hj,q,h3,h4⟩:=ih h
     exact⟨j,hj,q,by omega,h4⟩
    ·rw[List.mem_singleton.1 h]
     exact⟨i,hi,_,by omega,rfl⟩
  ·rw[cAt,List.getElem?_eq_none (by omega)]at h
   obtain⟨j,hj,q,h3,h4⟩:=ih h;exact⟨j,hj,q,by omega,h4⟩
theorem NZ{ks:List Kind}{l:List Int}{i:Nat}{it:Item}(h:it∈(wAt ks l i).2.1):∃(j:Nat) (q:List Int),j<i/\(wAt ks l i).1[j]?=some it.ent.gen/\it.ent.n=j/\it.comps=(Cu ks q).1:=by
 induction i with
 |zero=>cases h
 |succ i ih=>
  have hl:=ID ks l i
  have hup:∀(x:Int) (g:Int) (j:Nat),(wAt ks l i).1[j]?=some g->((wAt ks l i).1++[x])[j]?=some g:=λx g j hg=>by
   rw[List.getElem?_append_left (List.getElem?_eq_some_iff.1 hg).1,hg]
  rw[wAt]at h⊢;split
  ·rename_i hs
   rw[if_pos hs]at h;obtain⟨j,q,h1,h2,h3,h4⟩:=ih h;exact⟨j,q,by omega,hup _ _ _ h2,h3,h4⟩
  ·rename_i hs
   rw[if_neg hs]at h;rcases List.mem_append.1 h with h|h
   ·obtain⟨j,q,h1,h2,h3,h4⟩:=ih h
    exact⟨j,q,by omega,hup _ _ _ h2,h3,h4⟩
   ·rw[List.mem_singleton.1 h]
    exact⟨i,_,by omega,by rw[List.getElem?_append_right (by omega),hl];simp,rfl,rfl⟩
theorem Iu(l:List Int):(Aa l).1.length<=4/\∀k∈(Aa l).1,k.fields.length<=3:=by
 have h:=Ah l (n:=4) (by decide);refine⟨by rw[Gc];omega,?_⟩;rw[EI];intro k hk;exact(Nt _ _ k hk).1
theorem Dk{ks:List Kind}:∀{l:List Comp} {last:Int},-1<=last->(Ci ks last l=true↔l.Pairwise (λa b=>a.kind<b.kind)/\∀c∈l,last<c.kind/\c.kind<ks.length/\∃k,ks[c.kind.toNat]?=some k/\Bs k c.vals=true)
 |[],_,_=>by simp[Ci]
 |c::l,last,hl=>by
  rw[Ci];constructor
  ·intro h
   split at h
   ·rename_i k hk
    simp only[Bool.and_eq_true,decide_eq_true_eq]at h;obtain⟨⟨⟨h1,h2⟩,h3⟩,h4⟩:=h;obtain⟨h5,h6⟩:=(Dk (by omega)).1 h4;refine⟨List.pairwise_cons.2 ⟨λd hd=>(h6 d hd).1,h5⟩,λd hd=>?_⟩;rcases List.mem_cons.1 hd with rfl|hd
    ·exact⟨h1,h2,k,hk,h3⟩
    ·obtain⟨q1,q2⟩:=h6 d hd
     exact⟨by omega,q2⟩
   ·cases h
  ·rintro⟨h1,h2⟩
   obtain⟨h3,h4⟩:=List.pairwise_cons.1 h1;obtain⟨h5,h6,k,hk,h7⟩:=h2 c (by simp);rw[hk];simp only[Bool.and_eq_true,decide_eq_true_eq];exact⟨⟨⟨h5,h6⟩,h7⟩,(Dk (by omega)).2 ⟨h4,λd hd=>⟨h3 d hd,(h2 d (by simp[hd])).2⟩⟩⟩
theorem ET{ks:List Kind}{gens:List Int}:∀{l:List Item} {last:Int},-1<=last->(Bv ks gens last l=true↔l.Pairwise (λa b=>a.ent.n<b.ent.n)/\∀it∈l,last<it.ent.n/\it.ent.n<gens.length/\gens[it.ent.n.toNat]?=some it.ent.gen/\it.ent.gen≠1073741824/\Bj ks it.comps=true)
 |[],_,_=>by simp[Bv]
 |c::l,last,hl=>by
  rw[Bv];constructor
  ·intro h
   split at h
   ·rename_i k hk
    simp only[Bool.and_eq_true,decide_eq_true_eq,Bool.not_eq_true',decide_eq_false_iff_not]at h;obtain⟨⟨⟨⟨⟨h1,h2⟩,h3⟩,h4⟩,h7⟩,h8⟩:=h;obtain⟨h5,h6⟩:=(ET (by omega)).1 h8;refine⟨List.pairwise_cons.2 ⟨λd hd=>(h6 d hd).1,h5⟩,λd hd=>?_⟩;rcases List.mem_cons.1 hd with rfl|hd
    ·exact⟨h1,h2,by rw[hk,h3],h4,h7⟩
    ·obtain⟨q1,q2⟩:=h6 d hd
     exact⟨by omega,q2⟩
   ·cases h
  ·rintro⟨h1,h2⟩
   obtain⟨h3,h4⟩:=List.pairwise_cons.1 h1;obtain⟨h5,h6,hk,h7,h8⟩:=h2 c (by simp);rw[hk];simp only[Bool.and_eq_true,decide_eq_true_eq,Bool.not_eq_true',decide_eq_false_iff_not];exact⟨⟨⟨⟨⟨h5,h6⟩,trivial⟩,h7⟩,h8⟩,(ET (by omega)).2 ⟨h4,λd hd=>⟨h3 d hd,(h2 d (by simp[hd])).2⟩⟩⟩
structure WdOK(w:Wd):Prop where
 ks:BE w.kinds=0
 gl:w.gens.length<=256
 il:w.items.length<=w.gens.length
 gs:∀g∈w.gens,0<=g/\g<=1073741824
 so:w.items.Pairwise λa b=>a.ent.n<b.ent.n
 it:∀it∈w.items,0<=it.ent.n/\it.ent.n<w.gens.length/\w.gens[it.ent.n.toNat]?=some it.ent.gen/\it.ent.gen≠1073741824/\Bj w.kinds it.comps=true
theorem BI(w:Wd):Da w=0↔WdOK w:=by
 have hg:GB w.gens=true↔∀g∈w.gens,0<=g/\g<=1073741824:=by
  unfold GB;rw[List.all_eq_true];simp only[Bool.and_eq_true,decide_eq_true_eq]
 have hi:=ET (ks:=w.kinds) (gens:=w.gens) (l:=w.items) (last:=-1) (by omega);unfold Da;constructor
 ·intro h
  split at h
  ·exact absurd h ‹_›
  rename_i h1;split at h
  ·cases h
  rename_i h2;split at h
  ·cases h
  rename_i h3;split at h
  ·cases h
  rename_i h4;obtain⟨h5,h6⟩:=hi.1 (by simpa using h4);exact⟨by simpa using h1,by omega,by omega,hg.1 (by simpa using h3),h5,λit hit=>by obtain⟨a,b⟩:=h6 it hit;exact⟨by omega,b⟩⟩
 ·intro h
  rw[if_neg (by simp[h.ks]),if_neg (by have:=h.gl;have:=h.il;omega),if_neg (by rw[hg.2 h.gs];simp),if_neg (by rw[hi.2 ⟨h.so,λit hit=>by obtain⟨a,b⟩:=h.it it hit;exact⟨by omega,b⟩⟩];simp)]
theorem QX(ks:List Kind)(l:List Int)(i:Nat):(cAt ks l i).1.Pairwise λa b=>a.kind<b.kind:=by
 induction i with
 |zero=>exact .nil
 |succ i ih=>
  by_cases hi:i<ks.length
  ·by_cases h2:Ao (cAt ks l i).2 3=2
   ·rw[K3 hi h2];exact ih
   ·rw[K1 hi h2]
    refine List.pairwise_append.2 ⟨ih,List.pairwise_singleton ..,λa ha b hb=>?_⟩;rw[List.mem_singleton.1 hb];obtain⟨j,hj,q,hji,rfl⟩:=N3 ha;show(j:Int)<i
    omega
  ·rw[cAt,List.getElem?_eq_none (by omega)];exact ih
theorem Na{fs:List Field}(hf:∀f∈fs,Ab f=0)(hr:∀f∈fs,Dm f)(l:List Int):∀i,i<=fs.length->List.zipWith Bo (fs.take i) (vAt fs l i).1=(vAt fs l i).1/\(vAt fs l i).1.length=i
 |0,_=>⟨rfl,rfl⟩
 |i+1,h=>by
  obtain⟨h1,h2⟩:=Na hf hr l i (by omega);rw[LD (by omega)];have hm:=List.getElem_mem (l:=fs) (n:=i) (by omega);obtain⟨hb0,hb1,_,_⟩:=hr _ hm;have hp:=Jy (b:=fs[i].bits.toNat) (by omega);have hv:=Ah (vAt fs l i).2 (n:=2^fs[i].bits.toNat) (by omega);have hh:DU fs[i]=fs[i].low+(2^fs[i].bits.toNat-1):=by unfold DU;rw[if_pos (hf _ hm)]
  refine⟨?_,by rw[List.length_append,h2];rfl⟩;rw[List.take_succ_eq_append_getElem (by omega),List.zipWith_append (by rw[h2,List.length_take];omega),h1];simp only[List.zipWith_cons_cons,List.zipWith_nil_left];rw[Nk (hf _ hm) (by omega) (by rw[hh];omega)]
theorem OH{k:Kind}(h1:BG k=0)(hf:∀f∈k.fields,Ab f=0)(hr:∀f∈k.fields,Dm f)(l:List Int):Bs k (vAt k.fields l k.fields.length).1=true:=by
 obtain⟨h2,h3⟩:=Na hf hr l k.fields.length (Nat.le_refl _);rw[List.take_length]at h2;unfold Bs;rw[Iz h1 h3,h2];simp
structure KsGood(ks:List Kind):Prop where
 one:∀k∈ks,BG k=0
 fld:∀k∈ks,∀f∈k.fields,Ab f=0
 rng:∀k∈ks,∀f∈k.fields,Dm f
theorem Jd(l:List Int):KsGood (Aa l).1:=
 ⟨Hb l,λk hk=>(Hs l k hk).1,λk hk=>((Gb l).2 k hk).2⟩
theorem Je{ks:List Kind}(h:KsGood ks)(l:List Int):Bj ks (Cu ks l).1=true:=by
 unfold Bj;rw[Dk (by omega)];refine⟨QX _ _ _,λc hc=>?_⟩;obtain⟨j,hj,q,_,rfl⟩:=N3 hc;have hm:=List.getElem_mem hj;exact⟨by show(-1:Int)<(j:Int);omega,by show(j:Int)<_;omega,ks[j],List.getElem?_eq_getElem hj,OH (h.one _ hm) (h.fld _ hm) (h.rng _ hm) q⟩
theorem PN(ks:List Kind)(l:List Int)(i:Nat):(wAt ks l i).2.1.Pairwise λa b=>a.ent.n<b.ent.n:=by
 induction i with
 |zero=>exact .nil
 |succ i ih=>
  rw[wAt];split
  ·exact ih
  ·refine List.pairwise_append.2 ⟨ih,List.pairwise_singleton ..,λa ha b hb=>?_⟩
   rw[List.mem_singleton.1 hb];obtain⟨j,q,hji,_,e,_⟩:=NZ ha;show a.ent.n<(i:Int)
   omega
theorem PP(ks:List Kind)(l:List Int)(i:Nat):∀g∈(wAt ks l i).1,0<=g/\g<3:=by
 induction i with
 |zero=>intro g hg;cases hg
 |succ i ih=>
  intro g hg;rw[wAt]at hg;have h3:=Ah (wAt ks l i).2.2 (n:=3) (by decide);split at hg<;>
  ·rcases List.mem_append.1 hg with hg|hg
   ·exact ih g hg
   ·rw[List.mem_singleton.1 hg];exact h3
theorem L6(l:List Int):WdOK (D8 l):=by
 have h:=Ah (Aa l).2 (n:=12) (by decide);have h1:=LC (Aa l).1 (Ad (Aa l).2 12) (Ao (Aa l).2 12).toNat;have h2:=ID (Aa l).1 (Ad (Aa l).2 12) (Ao (Aa l).2 12).toNat;have h3:=PP (Aa l).1 (Ad (Aa l).2 12) (Ao (Aa l).2 12).toNat;refine⟨Iw l,?_,?_,λg hg=>?_,PN _ _ _,λit hit=>?_⟩
 ·exact Nat.le_trans (Nat.le_of_eq h2) (by omega)
 ·exact Nat.le_trans h1 (Nat.le_of_eq h2.symm)
 ·have:=h3 g hg;omega
 ·obtain⟨j,q,hji,hg,hn,hc⟩:=NZ hit
  have hjl:j<(wAt (Aa l).1 (Ad (Aa l).2 12) (Ao (Aa l).2 12).toNat).1.length:=(List.getElem?_eq_some_iff.1 hg).1;have hgm:=h3 _ (List.mem_of_getElem? hg);refine⟨by omega,?_,?_,by omega,by rw[hc];exact Je (Jd l) q⟩
  ·rw[hn];show(j:Int)<((wAt _ _ _).1.length:Int);omega
  ·rw[hn];exact hg
section
section
variable {α:Type}{key:α->Int}{l a b:List α}
def KS(key:α->Int)(l:List α):Prop:=l.Pairwise λa b=>key a<key b
theorem H5(h:KS key l){x y:α}(hx:x∈l)(hy:y∈l)(e:key x=key y):x=y:=by
 induction l with
 |nil=>cases hx
 |cons z l ih=>
  obtain⟨h1,h2⟩:=List.pairwise_cons.1 h;rcases List.mem_cons.1 hx with q|q<;>rcases List.mem_cons.1 hy with r|r
  ·rw[q,r]
  ·subst q;have:=h1 y r;omega
  ·subst r;have:=h1 x q;omega
  ·exact ih h2 q r
theorem Pv:∀{a b:List α},KS key a->KS key b->(∀x,x∈a↔x∈b)->a=b
 |[],[],_,_,_=>rfl
 |[],y::b,_,_,h=>absurd ((h y).2 (by simp)) (by simp)
 |x::a,[],_,_,h=>absurd ((h x).1 (by simp)) (by simp)
 |x::a,y::b,ha,hb,h=>by
  obtain⟨a1,a2⟩:=List.pairwise_cons.1 ha;obtain⟨b1,b2⟩:=List.pairwise_cons.1 hb
  have e:x=y:=by
   rcases List.mem_cons.1 ((h x).1 (by simp))with e|h1
   ·exact e
   ·rcases List.mem_cons.1 ((h y).2 (by simp))with e|h2
    ·exact e.symm
    ·have:=b1 x h1;have:=a1 y h2;omega
  subst e;rw[Pv a2 b2 λz=>?_];constructor
  ·intro hz
   rcases List.mem_cons.1 ((h z).1 (by simp[hz]))with e|h1
   ·have:=a1 z hz;rw[e]at this;omega
   ·exact h1
  ·intro hz
   rcases List.mem_cons.1 ((h z).2 (by simp[hz]))with e|h1
   ·have:=b1 z hz;rw[e]at this;omega
   ·exact h1
theorem IK{i:Nat}{y:α}(hi:l[i]?=some y):l=l.take i++y::l.drop (i+1):=by
 obtain⟨h,rfl⟩:=List.getElem?_eq_some_iff.1 hi;rw[<-List.drop_eq_getElem_cons h,List.take_append_drop]
theorem Lw{i:Nat}{y:α}(h:KS key l)(hi:l[i]?=some y):KS key (l.take i)/\KS key (l.drop (i+1))/\(∀x∈l.take i,key x<key y)/\(∀x∈l.drop (i+1),key y<key x)/\∀x,x∈l↔x∈l.take i\/x=y\/x∈l.drop (i+1):=by
 have e:=IK hi;have h':=h;rw[e]at h';obtain⟨h1,h2,h3⟩:=List.pairwise_append.1 h';obtain⟨h4,h5⟩:=List.pairwise_cons.1 h2;refine⟨h1,h5,λx hx=>h3 x hx y (by simp),h4,λx=>?_⟩
 conv=>lhs;rw[e]
 simp
theorem Pw{i:Nat}{y:α}(h:KS key l)(hi:l[i]?=some y):KS key (l.eraseIdx i)/\∀x,x∈l.eraseIdx i↔x∈l/\key x≠key y:=by
 obtain⟨h1,h2,h3,h4,h5⟩:=Lw h hi;refine⟨h.sublist (List.eraseIdx_sublist _ _),λx=>?_⟩;rw[List.eraseIdx_eq_take_drop_succ,List.mem_append,h5];constructor
 ·rintro(hx|hx)
  ·exact⟨.inl hx,by have:=h3 x hx;omega⟩
  ·exact⟨.inr (.inr hx),by have:=h4 x hx;omega⟩
 ·rintro⟨hx|rfl|hx,hn⟩
  ·exact .inl hx
  ·exact absurd rfl hn
  ·exact .inr hx
theorem SP{i:Nat}{y z:α}(h:KS key l)(hi:l[i]?=some y)(hk:key z=key y):KS key (l.set i z)/\∀x,x∈l.set i z↔x=z\/(x∈l/\key x≠key z):=by
 obtain⟨h1,h2,h3,h4,h5⟩:=Lw h hi;obtain⟨hl,_⟩:=List.getElem?_eq_some_iff.1 hi;have e:l.set i z=l.take i++z::l.drop (i+1):=List.set_eq_take_append_cons_drop.trans (if_pos hl);rw[e];refine⟨List.pairwise_append.2 ⟨h1,List.pairwise_cons.2 ⟨λx hx=>by have:=h4 x hx;omega,h2⟩,λx hx w hw=>?_⟩,λx=>?_⟩
 ·rcases List.mem_cons.1 hw with rfl|hw
  ·have:=h3 x hx;omega
  ·have:=h3 x hx;have:=h4 w hw;omega
 ·rw[h5,List.mem_append,List.mem_cons]
  constructor
  ·rintro(hx|rfl|hx)
   ·exact .inr ⟨.inl hx,by have:=h3 x hx;omega⟩
   ·exact .inl rfl
   ·exact .inr ⟨.inr (.inr hx),by have:=h4 x hx;omega⟩
  ·rintro(rfl|⟨hx|rfl|hx,hn⟩)
   ·exact .inr (.inl rfl)
   ·exact .inl hx
   ·exact absurd hk.symm hn
   ·exact .inr (.inr hx)
theorem RR(h:KS key l){n:Int}{x:α}:(l.find? λy=>decide (key y=n))=some x↔x∈l/\key x=n:=by
 constructor
 ·intro e
  exact⟨List.mem_of_find?_eq_some e,by simpa using List.find?_some e⟩
 ·rintro⟨hx,e⟩
  cases hf:l.find? λy=>decide (key y=n)with
  |none=>rw[List.find?_eq_none]at hf;exact absurd (by simpa using e) (hf x hx)
  |some z=>rw[H5 h hx (List.mem_of_find?_eq_some hf) (by have:=List.find?_some hf;simp at this;omega)]
end
theorem held_iff{ks:List Kind}{l:List Comp}:Bj ks l=true↔DI l/\∀c∈l,0<=c.kind/\c.kind<ks.length/\∃k,ks[c.kind.toNat]?=some k/\Bs k c.vals=true:=by
 unfold Bj;rw[Dk (by omega)];constructor
 ·rintro⟨h1,h2⟩
  exact⟨h1,λc hc=>⟨by have:=(h2 c hc).1;omega,(h2 c hc).2⟩⟩
 ·rintro⟨h1,h2⟩
  exact⟨h1,λc hc=>⟨by have:=(h2 c hc).1;omega,(h2 c hc).2⟩⟩
theorem Ga{c:Comp}:∀{l:List Comp},DI l->∀d,d∈Ef l c↔d=c\/(d∈l/\d.kind≠c.kind)
 |[],_,d=>by simp[Ef]
 |x::l,h,d=>by
  obtain⟨h1,h2⟩:=List.pairwise_cons.1 h;rw[Ef];split
  ·rename_i hx
   rw[List.mem_cons,Ga h2,List.mem_cons];constructor
   ·rintro(rfl|rfl|⟨hd,hn⟩)
    ·exact .inr ⟨.inl rfl,by omega⟩
    ·exact .inl rfl
    ·exact .inr ⟨.inr hd,hn⟩
   ·rintro(rfl|⟨rfl|hd,hn⟩)
    ·exact .inr (.inl rfl)
    ·exact .inl rfl
    ·exact .inr (.inr ⟨hd,hn⟩)
  ·split
   ·rename_i hx
    rw[List.mem_cons,List.mem_cons];constructor
    ·rintro(rfl|hd)
     ·exact .inl rfl
     ·exact .inr ⟨.inr hd,by have:=h1 d hd;omega⟩
    ·rintro(rfl|⟨rfl|hd,hn⟩)
     ·exact .inl rfl
     ·exact absurd hx hn
     ·exact .inr hd
   ·rw[List.mem_cons,List.mem_cons]
    constructor
    ·rintro(rfl|rfl|hd)
     ·exact .inl rfl
     ·exact .inr ⟨.inl rfl,by omega⟩
     ·exact .inr ⟨.inr hd,by have:=h1 d hd;omega⟩
    ·rintro(rfl|⟨hd,hn⟩)
     ·exact .inl rfl
     ·exact .inr hd
theorem HA{c:Comp}:∀{l:List Comp},DI l->DI (Ef l c)
 |[],_=>List.pairwise_singleton ..
 |x::l,h=>by
  obtain⟨h1,h2⟩:=List.pairwise_cons.1 h;rw[Ef];split
  ·rename_i hx
   refine List.pairwise_cons.2 ⟨λd hd=>?_,HA h2⟩;rcases(Ga h2 d).1 hd with rfl|⟨hd,_⟩
   ·exact hx
   ·exact h1 d hd
  ·split
   ·rename_i hx
    exact List.pairwise_cons.2 ⟨λd hd=>by have:=h1 d hd;omega,h2⟩
   ·refine List.pairwise_cons.2 ⟨λd hd=>?_,h⟩
    rcases List.mem_cons.1 hd with rfl|hd
    ·omega
    ·have:=h1 d hd;omega
theorem O2{l:List Comp}{k:Int}(d:Comp):d∈Eh l k↔d∈l/\d.kind≠k:=by
 unfold Eh;rw[List.mem_filter];simp
theorem NH{l:List Comp}{k:Int}(h:DI l):DI (Eh l k):=List.Pairwise.filter _ h
theorem OV{a b:List Comp}(ha:DI a)(hb:DI b)(h:∀x,x∈a↔x∈b):a=b:=Pv (key:=Comp.kind) ha hb h
theorem JC{l:List Comp}(h:DI l){k:Int}{c:Comp}:C2 l k=some c↔c∈l/\c.kind=k:=RR (key:=Comp.kind) h
theorem P9{ks:List Kind}{l:List Comp}{c:Comp}(h:Bj ks l=true)(h1:0<=c.kind)(h2:c.kind<ks.length){k:Kind}(h3:ks[c.kind.toNat]?=some k)(h4:Bs k c.vals=true):Bj ks (Ef l c)=true:=by
 obtain⟨hs,hm⟩:=held_iff.1 h;refine held_iff.2 ⟨HA hs,λd hd=>?_⟩;rcases(Ga hs d).1 hd with rfl|⟨hd,_⟩
 ·exact⟨h1,h2,k,h3,h4⟩
 ·exact hm d hd
theorem J8{ks:List Kind}{l:List Comp}{k:Int}(h:Bj ks l=true):Bj ks (Eh l k)=true:=by
 obtain⟨hs,hm⟩:=held_iff.1 h;exact held_iff.2 ⟨NH hs,λd hd=>hm d ((O2 d).1 hd).1⟩
theorem Ko{pre ks:List Kind}(h:BX pre ks=0):∀k∈ks,BG k=0:=by
 induction ks generalizing pre with
 |nil=>intro k hk;cases hk
 |cons x l ih=>
  intro k hk;simp only[BX]at h;split at h
  ·exact absurd h ‹_›
  ·rename_i hx
   split at h
   ·cases h
   ·rcases List.mem_cons.1 hk with rfl|hk
    ·simpa using hx
    ·exact ih h k hk
theorem BU{ks:List Kind}(h:BE ks=0):ks.length<=16/\∀k∈ks,BG k=0:=by
 unfold BE at h;split at h
 ·cases h
 ·exact⟨by omega,Ko h⟩
def GG(ks:List Kind)(c:Comp):Comp:=match ks[c.kind.toNat]? with
 |some k=>⟨c.kind,(BW k c.vals).1⟩
 |none=>c
theorem HH(ks:List Kind)(c:Comp):(GG ks c).kind=c.kind:=by unfold GG;split<;>rfl
def Fq(ks:List Kind)(c:Comp):Prop:=0<=c.kind/\c.kind<ks.length/\∃k,ks[c.kind.toNat]?=some k/\(BW k c.vals).2=0
theorem Kx{ks:List Kind}{c:Comp}{k:Kind}(h:ks[c.kind.toNat]?=some k):GG ks c=⟨c.kind,(BW k c.vals).1⟩:=by
 unfold GG;rw[h]
theorem I3{ks:List Kind}:∀{l pre out:List Comp},(∀c∈l,Fq ks c)->l.Pairwise (λa b=>a.kind≠b.kind)->(∀a∈pre,∀b∈l,a.kind≠b.kind)->CG ks pre out l=(out++l.map (GG ks),0)
 |[],pre,out,_,_,_=>by simp[CG]
 |c::l,pre,out,h1,h2,h3=>by
  obtain⟨a,b,k,hk,hf⟩:=h1 c (by simp);obtain⟨h4,h5⟩:=List.pairwise_cons.1 h2
  have hany:pre.any (λo=>decide (o.kind=c.kind))=false:=by
   rw[List.any_eq_false];intro x hx;simpa using h3 x hx c (by simp)
  rw[CG,if_neg (by omega),hany,if_neg (by simp),hk];dsimp only;rw[if_neg (by simp[hf]),I3 (λd hd=>h1 d (by simp[hd])) h5 (λx hx d hd=>?_),List.map_cons,Kx hk]
  ·simp
  ·rcases List.mem_append.1 hx with hx|hx
   ·exact h3 x hx d (by simp[hd])
   ·rw[List.mem_singleton.1 hx];exact h4 d hd
theorem Jn{ks:List Kind}(hk:BE ks=0){l:List Comp}(h1:∀c∈l,Fq ks c)(h2:l.Pairwise (λa b=>a.kind≠b.kind)):CA ks l=(E3 (l.map (GG ks)),0):=by
 unfold CA;rw[if_neg (by simp[hk]),I3 h1 h2 (λ_ h=>by cases h),if_neg (by simp)];rfl
theorem In{l:List Comp}(h:DI l):E3 l=l:=
 (Im (h.imp λh=>by omega) (List.Perm.refl _) (h.imp λh=>by omega)).symm
theorem HD{k:Kind}{v:List Int}(h:Bs k v=true):BW k v=(v,0):=by
 unfold Bs at h;simp only[Bool.and_eq_true,decide_eq_true_eq]at h;exact Prod.ext h.2 h.1
theorem FG{k:Kind}{v:List Int}(h:(BW k v).2=0):Bs k (BW k v).1=true/\(BW k v).1=List.zipWith Bo k.fields v/\v.length=k.fields.length:=by
 unfold BW at h⊢;split at h
 ·exact absurd h ‹_›
 ·rename_i h1
  have h1:BG k=0:=by simpa using h1
  split at h
  ·cases h
  ·rename_i h2
   have h2:v.length=k.fields.length:=by simpa using h2
   rw[if_neg (by simp[h1]),if_neg (by simp[h2])];refine⟨?_,rfl,h2⟩;unfold Bs;rw[Iz h1 (by simp[h2]),Of (Cg h1).2.2];simp
theorem QK{ks:List Kind}{l:List Comp}(h:Bj ks l=true):(∀c∈l,Fq ks c)/\l.Pairwise (λa b=>a.kind≠b.kind)/\l.map (GG ks)=l:=by
 obtain⟨hs,hm⟩:=held_iff.1 h;refine⟨λc hc=>?_,hs.imp λh=>by omega,?_⟩
 ·obtain⟨a,b,k,hk,hh⟩:=hm c hc
  exact⟨a,b,k,hk,by rw[HD hh]⟩
 ·conv=>rhs;rw[<-List.map_id l]
  refine List.map_congr_left λc hc=>?_
  obtain⟨a,b,k,hk,hh⟩:=hm c hc;rw[Kx hk,HD hh];rfl
theorem OG{ks:List Kind}(hk:BE ks=0){l:List Comp}(h:Bj ks l=true):CA ks l=(l,0):=by
 obtain⟨h1,h2,h3⟩:=QK h;rw[Jn hk h1 h2,h3,In (held_iff.1 h).1]
theorem IC{ks:List Kind}(hk:BE ks=0){c:Comp}(h:Fq ks c):CA ks [c]=([GG ks c],0):=by
 rw[Jn hk (λd hd=>by rw[List.mem_singleton.1 hd];exact h) (List.pairwise_singleton ..)];show(E3 [GG ks c],(0:Int))=_
 rw[In (List.pairwise_singleton ..)]
theorem M8{ks:List Kind}{c:Comp}(h:Fq ks c):∃k,ks[(GG ks c).kind.toNat]?=some k/\Bs k (GG ks c).vals=true:=by
 obtain⟨_,_,k,hk,hf⟩:=h;refine⟨k,by rw[HH];exact hk,?_⟩;rw[Kx hk];exact(FG hf).1
def Gm(l:List Item):Prop:=KS (λit=>it.ent.n) l
theorem Gf{l:List Item}(h:Gm l){i:Nat}{it:Item}(hi:l[i]?=some it):CP l it.ent=i:=by
 by_cases hn:CP l it.ent<0
 ·have:=M9 hn
  rw[List.find?_eq_none]at this;exact absurd (by simp) (this it (List.mem_of_getElem? hi))
 ·obtain⟨n,hn⟩:∃n:Nat,CP l it.ent=n:=⟨(CP l it.ent).toNat,by omega⟩
  obtain⟨x,hx,_,e⟩:=GH hn;rw[hn];have e2:=H5 h (List.mem_of_getElem? hx) (List.mem_of_getElem? hi) (by rw[e]);subst e2;obtain⟨a,ha⟩:=List.getElem?_eq_some_iff.1 hx;obtain⟨b,hb⟩:=List.getElem?_eq_some_iff.1 hi;have hp:=List.pairwise_iff_getElem.1 h;rcases Nat.lt_trichotomy n i with q|q|q
  ·have:=hp n i a b q;rw[ha,hb]at this;omega
  ·rw[q]
  ·have:=hp i n b a q;rw[ha,hb]at this;omega
theorem Fu{w:Wd}{i:Nat}{it:Item}(hi:w.items[i]?=some it)(cs:List Comp):Cv w i cs=⟨w.kinds,w.gens,w.items.set i ⟨it.ent,cs⟩⟩:=by
 unfold Cv;rw[hi]
theorem Ft{w:Wd}(h:WdOK w){i:Nat}{it:Item}(hi:w.items[i]?=some it){cs:List Comp}(hc:Bj w.kinds cs=true):WdOK (Cv w i cs):=by
 rw[Fu hi];obtain⟨h1,h2⟩:=SP (key:=λit:Item=>it.ent.n) h.so hi (z:=⟨it.ent,cs⟩) rfl;refine⟨h.ks,h.gl,by simpa using h.il,h.gs,h1,λx hx=>?_⟩;rcases(h2 x).1 hx with rfl|⟨hx,_⟩
 ·obtain⟨a,b,c,d,e⟩:=h.it it (List.mem_of_getElem? hi)
  exact⟨a,b,c,d,hc⟩
 ·exact h.it x hx
theorem PY{w:Wd}(h:WdOK w){i:Nat}{it:Item}(hi:w.items[i]?=some it){c:Comp}(hc:Fq w.kinds c):Cs w it.ent c=(Cv w i (Ef it.comps (GG w.kinds c)),0):=by
 unfold Cs;have hf:=Gf h.so hi;rw[if_neg (by simp[(BI w).2 h]),hf,if_neg (by omega),IC h.ks hc,if_neg (by simp),Int.toNat_natCast,hi]
theorem PX{w:Wd}(h:WdOK w){i:Nat}{it:Item}(hi:w.items[i]?=some it){c:Comp}(hc:Fq w.kinds c):WdOK (Cv w i (Ef it.comps (GG w.kinds c))):=by
 obtain⟨k,hk,hh⟩:=M8 hc;have hit:=h.it it (List.mem_of_getElem? hi);have hcc:=hc;obtain⟨a,b,_⟩:=hcc;exact Ft h hi (P9 hit.2.2.2.2 (by rw[HH];exact a) (by rw[HH];exact b) hk hh)
theorem KF{w:Wd}(h:WdOK w){i:Nat}{it:Item}(hi:w.items[i]?=some it)(k:Int):EB w it.ent k=if(C2 it.comps k).isSome then(Cv w i (Eh it.comps k),0)else(⟨[],[],[]⟩,4):=by
 unfold EB;have hf:=Gf h.so hi;rw[if_neg (by simp[(BI w).2 h]),hf,if_neg (by omega),Int.toNat_natCast,hi]
theorem PQ{l:List Item}{n:Int}(h:E8 l n=false):∀x∈l,x.ent.n≠n:=by
 unfold E8 at h;rw[List.any_eq_false]at h;intro x hx;simpa using h x hx
theorem GF{w:Wd}(hw:WdOK w)(h:(BL w).2=true):(BL w).1<=w.gens.length/\(∀x∈w.items,x.ent.n≠((BL w).1:Nat))/\(BL w).1<256/\∀g,w.gens[(BL w).1]?=some g->g<1073741824:=by
 have hg:=hw.gl;unfold BL at h⊢;split at h
 ·rename_i n hn
  unfold J9 at hn;rw[List.find?_eq_some_iff_getElem]at hn;obtain⟨h1,i,h2,h3,h4⟩:=hn;simp only[List.getElem_range]at h3;subst h3;rw[List.length_range]at h2;simp only[Bool.and_eq_true,Bool.not_eq_true',decide_eq_true_eq]at h1;refine⟨by dsimp only;omega,PQ h1.1,by dsimp only;omega,λg hgg=>?_⟩;dsimp only at hgg;have:=h1.2;rw[List.getD_eq_getElem?_getD,hgg]at this;exact this
 ·have h:w.gens.length<256:=by dsimp only at h;rw[decide_eq_true_eq]at h;omega
  refine⟨Nat.le_refl _,λx hx=>?_,h,λg hgg=>?_⟩
  ·have:=(hw.it x hx).2.1
   dsimp only;omega
  ·rw[List.getElem?_eq_none (Nat.le_refl _)]at hgg;cases hgg
theorem Iq{it:Item}:∀{l:List Item} (x:Item),x∈G9 l it↔x=it\/x∈l
 |[],x=>by simp[G9]
 |y::l,x=>by
  rw[G9];split
  ·rw[List.mem_cons,Iq,List.mem_cons]
   constructor
   ·rintro(h|h|h)
    ·exact .inr (.inl h)
    ·exact .inl h
    ·exact .inr (.inr h)
   ·rintro(h|h|h)
    ·exact .inr (.inl h)
    ·exact .inl h
    ·exact .inr (.inr h)
  ·rw[List.mem_cons]
theorem J4{it:Item}:∀{l:List Item},Gm l->(∀x∈l,x.ent.n≠it.ent.n)->Gm (G9 l it)
 |[],_,_=>List.pairwise_singleton ..
 |y::l,h,hn=>by
  obtain⟨h1,h2⟩:=List.pairwise_cons.1 h;rw[G9];split
  ·rename_i hy
   refine List.pairwise_cons.2 ⟨λx hx=>?_,J4 h2 λx hx=>hn x (by simp[hx])⟩;rcases(Iq x).1 hx with rfl|hx
   ·exact hy
   ·exact h1 x hx
  ·rename_i hy
   have:=hn y (by simp);refine List.pairwise_cons.2 ⟨λx hx=>?_,h⟩;show it.ent.n<x.ent.n
   rcases List.mem_cons.1 hx with rfl|hx
   ·omega
   ·have:y.ent.n<x.ent.n:=h1 x hx
    omega
theorem QE{gens:List Int}{n:Nat}(h:n<=gens.length):n<(B9 gens n).length/\(B9 gens n)[n]?=some ((B9 gens n).getD n 0)/\gens.length<=(B9 gens n).length/\(∀j,j<gens.length->(B9 gens n)[j]?=gens[j]?)/\(∀g∈B9 gens n,g∈gens\/g=0)/\(B9 gens n).length<=max gens.length (n+1):=by
 unfold B9;split
 ·rename_i e
  subst e;refine⟨by simp,by simp[List.getD_eq_getElem?_getD],by simp,λj hj=>List.getElem?_append_left hj,λg hg=>?_,by simp⟩;rcases List.mem_append.1 hg with h|h
  ·exact .inl h
  ·exact .inr (List.mem_singleton.1 h)
 ·refine⟨by omega,?_,Nat.le_refl _,λ_ _=>rfl,λg hg=>.inl hg,by omega⟩
  rw[List.getD_eq_getElem?_getD,List.getElem?_eq_getElem (by omega)];rfl
theorem Mn{w:Wd}(h:WdOK w)(hf:(BL w).2=true){l:List Comp}{cs:List Comp}(hl:CA w.kinds l=(cs,0)):
  Co w l=(⟨w.kinds,B9 w.gens (BL w).1,G9 w.items ⟨⟨(BL w).1,(B9 w.gens (BL w).1).getD (BL w).1 0⟩,cs⟩⟩,⟨(BL w).1,(B9 w.gens (BL w).1).getD (BL w).1 0⟩,0):=by
 unfold Co;rw[if_neg (by simp[(BI w).2 h]),hl,if_neg (by simp),if_neg (by simp[hf])]
theorem IL{w:Wd}(h:WdOK w)(hf:(BL w).2=true){cs:List Comp}(hc:Bj w.kinds cs=true):
  WdOK ⟨w.kinds,B9 w.gens (BL w).1,G9 w.items ⟨⟨(BL w).1,(B9 w.gens (BL w).1).getD (BL w).1 0⟩,cs⟩⟩:=by
 obtain⟨f1,f2,f3,f4⟩:=GF h hf;obtain⟨n,hn⟩:∃n,(BL w).1=n:=⟨_,rfl⟩;rw[hn]at f1 f2 f3 f4⊢;obtain⟨g1,g2,g3,g4,g5,g6⟩:=QE f1
 have hgs:∀g∈B9 w.gens n,0<=g/\g<=1073741824:=λg hg=>by
  rcases g5 g hg with hg|rfl
  ·exact h.gs g hg
  ·omega
 have hso:Gm (G9 w.items ⟨⟨n,(B9 w.gens n).getD n 0⟩,cs⟩):=J4 h.so f2
 have hit:∀x∈G9 w.items ⟨⟨n,(B9 w.gens n).getD n 0⟩,cs⟩,0<=x.ent.n/\x.ent.n<(B9 w.gens n).length/\(B9 w.gens n)[x.ent.n.toNat]?=some x.ent.gen/\x.ent.gen≠1073741824/\Bj w.kinds x.comps=true:=λx hx=>by
  rcases(Iq x).1 hx with rfl|hx
  ·refine⟨by dsimp only;omega,by dsimp only;omega,by dsimp only;rw[Int.toNat_natCast];exact g2,?_,hc⟩
   dsimp only;intro e;rw[e]at g2;by_cases hnl:n<w.gens.length
   ·rw[g4 n hnl]at g2
    have:=f4 _ g2;omega
   ·unfold B9 at e
    rw[if_pos (by omega),List.getD_eq_getElem?_getD,show n=w.gens.length by omega]at e;simp at e
  ·obtain⟨a,b,c,d,e⟩:=h.it x hx
   exact⟨a,by omega,by rw[g4 _ (by omega)];exact c,d,e⟩
 refine⟨h.ks,?_,?_,hgs,hso,hit⟩
 ·have:=h.gl
  dsimp only;omega
 ·exact FD (λx:Item=>x.ent.n) _ _ (hso.imp λ{a b} h=>by have h:a.ent.n<b.ent.n:=h;show a.ent.n≠b.ent.n;omega) λx hx=>⟨(hit x hx).1,(hit x hx).2.1⟩
theorem J3{w:Wd}(h:WdOK w){i:Nat}{it:Item}(hi:w.items[i]?=some it):DT w it.ent=(⟨w.kinds,w.gens.set it.ent.n.toNat (w.gens.getD it.ent.n.toNat 0+1),w.items.eraseIdx i⟩,0):=by
 unfold DT;have hf:=Gf h.so hi;rw[if_neg (by simp[(BI w).2 h]),hf,if_neg (by omega),Int.toNat_natCast]
theorem Nq{w:Wd}(h:WdOK w){i:Nat}{it:Item}(hi:w.items[i]?=some it):WdOK ⟨w.kinds,w.gens.set it.ent.n.toNat (w.gens.getD it.ent.n.toNat 0+1),w.items.eraseIdx i⟩:=by
 obtain⟨h1,h2⟩:=Pw (key:=λx:Item=>x.ent.n) h.so hi;obtain⟨a,b,c,d,e⟩:=h.it it (List.mem_of_getElem? hi);have hg:=h.gs it.ent.gen (List.mem_of_getElem? c);have hgd:w.gens.getD it.ent.n.toNat 0=it.ent.gen:=by rw[List.getD_eq_getElem?_getD,c];rfl
 refine⟨h.ks,by simpa using h.gl,?_,λg hgm=>?_,h1,λx hx=>?_⟩
 ·have:=h.il
  have:=List.length_eraseIdx_le w.items i;simp only[List.length_set];omega
 ·rcases List.mem_or_eq_of_mem_set hgm with hgm|rfl
  ·exact h.gs g hgm
  ·rw[hgd];omega
 ·obtain⟨hx,hn⟩:=(h2 x).1 hx
  obtain⟨a',b',c',d',e'⟩:=h.it x hx;exact⟨a',by simpa using b',by rw[List.getElem?_set_ne (by omega)];exact c',d',e'⟩
theorem Jm{ks:List Kind}{c:Comp}(h:(CA ks [c]).2=0):∃d,(CA ks [c]).1=[d]/\d.kind=c.kind/\0<=c.kind/\c.kind<ks.length:=by
 unfold CA at h⊢;split at h
 ·exact absurd h ‹_›
 ·rename_i h1
  rw[if_neg h1];split at h
  ·exact absurd h ‹_›
  ·rename_i h2
   rw[if_neg h2];have h2:(CG ks [] [] [c]).2=0:=by simpa using h2
   rw[CG]at h2⊢;split at h2
   ·cases h2
   ·rename_i g1
    rw[if_neg g1];rw[if_neg (by simp)]at h2⊢;split at h2
    ·cases h2
    ·rename_i k hk
     split at h2
     ·exact absurd h2 ‹_›
     ·rename_i g3
      (try simp only[hk])
      rw[if_neg g3,CG];refine⟨⟨c.kind,(BW k c.vals).1⟩,?_,rfl,by omega,by omega⟩;show E3 [_]=_
      exact In (List.pairwise_singleton ..)
theorem F9{ks:List Kind}(hk:BE ks=0){l:List Comp}(h:Bj ks l=true):l.length<=16/\∀c∈l,c.vals.length<=8:=by
 obtain⟨hs,hm⟩:=held_iff.1 h;obtain⟨h16,ho⟩:=BU hk;refine⟨Nat.le_trans (FD Comp.kind _ _ (hs.imp λh=>by omega) λc hc=>⟨(hm c hc).1,(hm c hc).2.1⟩) h16,λc hc=>?_⟩;obtain⟨_,_,k,hk2,hh⟩:=hm c hc;have h8:=(Cg (ho k (List.mem_of_getElem? hk2))).2.1;have:=FG (k:=k) (v:=c.vals) (by rw[HD hh]);omega
theorem WdOK.wl{w:Wd}(h:WdOK w):WdL w:=by
 obtain⟨h16,ho⟩:=BU h.ks;refine⟨⟨by omega,λk hk=>by have:=(Cg (ho k hk)).2.1;omega⟩,by have:=h.gl;omega,by have:=h.gl;have:=h.il;omega,λit hit=>?_⟩;obtain⟨h1,h2⟩:=F9 h.ks (h.it it hit).2.2.2.2;exact⟨by omega,λc hc=>by have:=h2 c hc;omega⟩
theorem Ku(l:List Int):0<(Aa l).1.length:=by
 have h:=Ah l (n:=4) (by decide)
 have:∀i c q,(Ap i c q).1.length=c:=by
  intro i c
  induction c generalizing i with
  |zero=>intro q;rfl
  |succ c ih=>intro q;simp only[Ap,List.length_cons,ih]
 unfold Aa;rw[this];omega
theorem Nw{d:Comp}:∀{l:List Comp},DI l->Ef l d=if(C2 l d.kind).isSome then l.set (DF l d.kind) d else l.take (DF l d.kind)++d::l.drop (DF l d.kind)
 |[],_=>rfl
 |x::l,h=>by
  obtain⟨h1,h2⟩:=List.pairwise_cons.1 h;have ih:=Nw (d:=d) h2
  have ec:C2 (x::l) d.kind=if x.kind=d.kind then some x else C2 l d.kind:=by
   unfold C2;rw[List.find?_cons];by_cases e:x.kind=d.kind<;>simp[e]
  have ea:DF (x::l) d.kind=if x.kind<d.kind then DF l d.kind+1 else 0:=by
   unfold DF;rw[List.takeWhile_cons];by_cases e:x.kind<d.kind<;>simp[e]
  rw[Ef,ec,ea];by_cases e1:x.kind<d.kind
  ·have e3:¬x.kind=d.kind:=by omega
   rw[if_pos e1,if_pos e1,if_neg e3,ih];split<;>simp
  ·rw[if_neg e1,if_neg e1]
   by_cases e2:x.kind=d.kind
   ·rw[if_pos e2,if_pos e2];rfl
   ·rw[if_neg e2,if_neg e2,KI (λc hc=>by have:=h1 c hc;omega)];rfl
theorem MH{k:Int}:∀{l:List Comp},DI l->(C2 l k).isSome=true->Eh l k=l.eraseIdx (DF l k)
 |[],_,hn=>by cases hn
 |x::l,h,hn=>by
  obtain⟨h1,h2⟩:=List.pairwise_cons.1 h
  have ec:C2 (x::l) k=if x.kind=k then some x else C2 l k:=by
   unfold C2;rw[List.find?_cons];by_cases e:x.kind=k<;>simp[e]
  have ea:DF (x::l) k=if x.kind<k then DF l k+1 else 0:=by
   unfold DF;rw[List.takeWhile_cons];by_cases e:x.kind<k<;>simp[e]
  have ed:Eh (x::l) k=if x.kind=k then Eh l k else x::Eh l k:=by
   unfold Eh;rw[List.filter_cons];by_cases e:x.kind=k<;>simp[e]
  rw[ec]at hn;rw[ea,ed];by_cases e2:x.kind=k
  ·have e3:¬x.kind<k:=by omega
   rw[if_pos e2,if_neg e3];show Eh l k=l
   unfold Eh;rw[List.filter_eq_self];intro c hc;have:=h1 c hc;simp;omega
  ·rw[if_neg e2]at hn
   by_cases e1:x.kind<k
   ·rw[if_neg e2,if_pos e1,MH h2 hn];rfl
   ·rw[KI (λc hc=>by have:=h1 c hc;omega)]at hn;cases hn
end
def EU{α:Type}(f:α->AV)(z:AV)(l:List α)(i:Nat):List AV:=(l.take i).map f++List.replicate (l.length-i) z
theorem MB{α:Type}(f:α->AV)(z:AV)(l:List α):EU f z l 0=List.replicate l.length z:=by simp[EU]
theorem Oz{α:Type}(f:α->AV)(z:AV)(l:List α){i:Nat}(h:i<l.length):(EU f z l i)[i]?=some z:=by
 unfold EU;rw[List.getElem?_append_right (by simp;omega)];simp only[List.length_map,List.length_take,Nat.min_eq_left (Nat.le_of_lt h),Nat.sub_self];rw[List.getElem?_replicate,if_pos (by omega)]
theorem NA{α:Type}(f:α->AV)(z:AV)(l:List α){i:Nat}(h:i<l.length):(EU f z l i).set i (f l[i])=EU f z l (i+1):=by
 unfold EU;rw[List.set_append_right _ _ (by simp;omega),List.take_add_one,List.getElem?_eq_getElem h];simp only[List.length_map,List.length_take,Nat.min_eq_left (Nat.le_of_lt h),Nat.sub_self,Option.toList_some,List.map_append,List.map_cons,List.map_nil,List.append_assoc]
 congr 1
 rw[show l.length-i=(l.length-(i+1))+1 from by omega,List.replicate_succ];rfl
theorem NB{α:Type}(f:α->AV)(z:AV)(l:List α){i:Nat}(h:l.length<=i):EU f z l i=l.map f:=by
 unfold EU;rw[List.take_of_length_le h,show l.length-i=0 from by omega];simp
theorem Gj(l:List Comp)(hl:l.length<=1099511627776)(hv:∀c∈l,c.vals.length<=1099511627776):PS Tryz.prog 59 [As false false l] (As true false l):=by
 refine Spec.of (nt:=27) (res:=[.tmp 2]) Tryz.func59 rfl (by kernel_rfl) rfl rfl rfl λSf=>?_
 have hl':(l.map (AG false)).length<=1099511627776:=by simpa using hl
 (repeat first|(refine AOps.gN ?_;first|(refine Dd ?_;refine FO (.agg [iA 0,.prim (.slice none 0 0)]) λK=>?_))|refine WK ?_|refine Ai λX=>?_|refine Ay λY=>?_);refine BN (λi:Nat=>⟨[(3,.sl K 0 (l.map (AG false)).length),(9,As false false l),(10,iA (l.map (AG false)).length),(11,iA i)],(K,.row 42 2 (EU (AG false) (.agg [iA 0,.prim (.slice none 0 0)]) l i))::Sf⟩) (λi=>i<=l.length) (λi=>l.length-i) 0 (Nat.zero_le _) ?_ ⟨by(repeat (first|exact .nil|refine .cons (by first|rfl|assumption) ?_)),by rw[MB,<-List.length_map (f:=AG false)];exact Sub.f⟩;rintro i hi;(repeat first|refine WK ?_|refine Ai λX=>?_|refine Ay λY=>?_);refine AWP.cond rfl (λhc=>?_) (λhc=>?_)
 ·have h:i<l.length:=by simpa using hc
  have hm:i<(l.map (AG false)).length:=by simpa using h
  have hat:=Oz (AG false) (.agg [iA 0,.prim (.slice none 0 0)]) l h;(repeat first|refine WK ?_|refine Ai λX=>?_|refine Ay λY=>?_);refine RU ?_;(repeat first|(refine RGo.gN ?_;first|(refine RGo.g_callf ?_;first|refine RGo.c1 (h:=(Fc _ (by have:=hv _ (List.getElem_mem h);omega))) (k:=?_)))|(refine RGo.gQ ?_;first|(refine RGo.g_callf ?_;first|refine RGo.c1 (h:=(Fc _ (by have:=hv _ (List.getElem_mem h);omega))) (k:=?_)))|refine RK ?_|refine RGo.nil (by kernel_rfl) ?_);(repeat first|refine WK ?_|refine Ai λX=>?_|refine Ay λY=>?_);have hs:=NA (AG false) (.agg [iA 0,.prim (.slice none 0 0)]) l h;refine Ps (i+1) h ?_;dsimp only;rw[<-hs];exact Sub.f
 ·have h:l.length<=i:=by rw[decide_eq_false_iff_not,List.length_map]at hc;omega
  rw[NB _ _ _ h];(repeat first|refine WK ?_|refine Ai λX=>?_|refine Ay λY=>?_);refine RT ?_;exact⟨[.sl K 0 (l.map (AG false)).length],[.lst true 42 2 (l.map (AG false))],_,[],.cons (.tmp rfl) rfl .nil,.cons (.cell (.sl (p:=0) .here rfl)) .nil,by exact Sub.f,rfl,rfl⟩
section
open Go.Sort
theorem AM{α:Type}[Inhabited α](f:α->AV){d:Array α}{i:Nat}(h:i<d.size):(d.toList.map f)[i]?=some (f d[i]!):=by
 rw[List.getElem?_map,List.getElem?_eq_getElem (by simpa using h)];simp[getElem!_pos d i h]
theorem BA{α:Type}[Inhabited α](f:α->AV){d:Array α}{i j:Nat}(hi:i<d.size)(hj:j<d.size):((d.toList.map f).set i (f d[j]!)).set j (f d[i]!)=(swp d i j).toList.map f:=by
 unfold swp;simp[Array.toList_setIfInBounds,List.map_set]
theorem Av{α:Type}[Inhabited α](f:α->AV){d:Array α}{i j:Nat}(hj:j<d.size)(x:α):∃y,((d.toList.map f).set i (f x))[j]?=some (f y):=by
 by_cases e:i=j
 ·subst e;exact⟨x,List.getElem?_set_self (by simpa using hj)⟩
 ·exact⟨d[j]!,by rw[List.getElem?_set_ne e];exact AM f hj⟩
def AB{α:Type}(cf:α->α->Int)(x y:α):Bool:=decide (cf x y<0)
instance:Inhabited Comp:=⟨⟨0,[]⟩⟩
instance:Inhabited Item:=⟨⟨⟨0,0⟩,[]⟩⟩
theorem DR{α:Type}[Inhabited α](lt:α->α->Bool)(d:Array α)(a b s:Nat):(order2 lt d a b s).2.2<=s+1:=by
 unfold order2;split<;>simp
theorem Dr{α:Type}[Inhabited α](lt:α->α->Bool)(d:Array α)(a b s m:Nat)(ha:a<m)(hb:b<m):(order2 lt d a b s).1<m/\(order2 lt d a b s).2.1<m:=by
 unfold order2;split<;>exact⟨by assumption,by assumption⟩
theorem Ds{α:Type}[Inhabited α](lt:α->α->Bool)(d:Array α)(a b c s:Nat):(median lt d a b c s).2<=s+3:=by
 have e1:=DR lt d a b s;have e2:=DR lt d (order2 lt d a b s).2.1 c (order2 lt d a b s).2.2;have e3:=DR lt d (order2 lt d a b s).1 (order2 lt d (order2 lt d a b s).2.1 c (order2 lt d a b s).2.2).1 (order2 lt d (order2 lt d a b s).2.1 c (order2 lt d a b s).2.2).2.2;unfold median;dsimp only;omega
theorem Dt{α:Type}[Inhabited α](lt:α->α->Bool)(d:Array α)(a s m:Nat)(h:a+1<m):(medianAdjacent lt d a s).1<m:=by
 rcases medianAdjacent_mem lt d a s with e|e|e<;>omega
def Nx:Hint->Int
 |.unknown=>0
 |.increasing=>1
 |.decreasing=>2
end
section
open Go.Sort
def lenTab:List UInt8:=(List.range 256).map λn=>UInt8.ofNat (if n=0 then 0 else Nat.log2 n+1)
theorem Ok{n:Nat}(h:n<256):((lenTab.getD n 0).toNat:Int)=bitsLen n:=by
 have h1:lenTab.getD n 0=UInt8.ofNat (bitsLen n):=by
  unfold lenTab;rw[List.getD_eq_getElem?_getD,List.getElem?_map,List.getElem?_range h];rfl
 have h2:bitsLen n<=8:=(bitsLen_le_iff n 8).2 (by omega);rw[h1,UInt8.toNat_ofNat'];omega
theorem Mx:lenTab.length=256:=by simp[lenTab]
theorem JJ{x:Nat}(h:256<=x):bitsLen (x/256)+8=bitsLen x:=by
 have a:=(bitsLen_le_iff (x/256) (bitsLen x-8)).2 (by
  have h1:=lt_two_pow_bitsLen x
  have h2:8<bitsLen x:=by
   have:=(bitsLen_le_iff x 8);omega
  have h3:2^bitsLen x=2^(bitsLen x-8)*256:=by rw[show(256:Nat)=2^8 from rfl,<-Nat.pow_add];congr 1;omega
  omega)
 have b:=(bitsLen_le_iff x (bitsLen (x/256)+8)).2 (by
  have h1:=lt_two_pow_bitsLen (x/256);rw[Nat.pow_add];omega)
 have h2:8<bitsLen x:=by
  have:=(bitsLen_le_iff x 8);omega
 omega
set_option maxRecDepth 100000 in
theorem Pt(x:UInt64)(hx:x.toNat<65536):PS Tryz.prog 221 [uA x] (iA (bitsLen x.toNat)):=by
 refine Spec.of (nt:=25) (res:=[.tmp 2]) Tryz.func221 rfl (by kernel_rfl) rfl rfl rfl λSf=>?_
 (repeat first|refine WK ?_|refine Ai λX=>?_|refine Ay λY=>?_);refine AE rfl (decide_eq_false (by omega)) ?_;(repeat first|refine WK ?_|refine Ai λX=>?_|refine Ay λY=>?_);refine AE rfl (decide_eq_false (by omega)) ?_;(repeat first|refine WK ?_|refine Ai λX=>?_|refine Ay λY=>?_);refine Ag (λb:UInt64×Nat=>b.1.toNat<256/\bitsLen b.1.toNat+b.2=bitsLen x.toNat/\b.2<=8) (λb=>⟨[(0,uA b.1),(2,iA b.2)],Sf⟩) ?_ ?_
 ·refine AWP.cond rfl (λh=>?_) (λh=>?_)
  ·have h:256<=x.toNat:=by have:=of_decide_eq_true h;omega
   have hs:(x>>>UInt64.ofNat 8).toNat=x.toNat/256:=by
    rw[UInt64.toNat_shiftRight,UInt64.toNat_ofNat',show 8%2^64%64=8 from rfl,Nat.shiftRight_eq_div_pow]
   (repeat first|(refine AOps.gN ?_;first|refine AOps.p (NT 8 (by omega) rfl rfl rfl) rfl ?_)|refine WK ?_|refine Ai λX=>?_|refine Ay λY=>?_);refine jn (x>>>UInt64.ofNat 8,8) ⟨by dsimp only;omega,?_,by(try dsimp only);omega⟩;dsimp only;rw[hs];exact JJ h
  ·have h:¬256<=x.toNat:=by have:=of_decide_eq_false h;omega
   (repeat first|refine WK ?_|refine Ai λX=>?_|refine Ay λY=>?_);exact jn (x,0) ⟨by dsimp only;omega,rfl,by(try dsimp only);omega⟩
 ·rintro⟨u,m⟩ ⟨h1,h2,h3⟩
  dsimp only at h1 h2 h3⊢;have hw:IntKind.u8.wrap ((u.toNat:Nat):Int)=((u.toNat:Nat):Int):=by rw[IntKind.wrap_u8'];omega
  have hat:=Ok h1;have hb8:bitsLen u.toNat<=8:=(bitsLen_le_iff _ 8).2 (by omega);have hw2:IntKind.i64.wrap ((lenTab.getD u.toNat 0).toNat:Int)=((bitsLen u.toNat:Nat):Int):=by rw[hat];exact Dh (by omega) (by omega)
  (repeat first|(refine AOps.gN ?_;first|refine AOps.p (W.convW .u64 .u8 _ (by kernel_rfl) (by kernel_rfl) hw rfl) rfl ?_|refine AOps.p (W.idxStr (s:=lenTab) (a:=u.toNat) (by kernel_rfl) rfl rfl (by rw[Mx];exact h1)) rfl ?_|refine AOps.p (W.convW .u8 .i64 _ (by kernel_rfl) (by kernel_rfl) hw2 rfl) rfl ?_|refine AOps.p (AT ((bitsLen x.toNat:Nat):Int) (by omega) (by omega) rfl rfl) rfl ?_)|refine WK ?_|refine Ai λX=>?_|refine Ay λY=>?_);refine RT ?_;refine AX ?_;rfl
theorem Kl(x:UInt64)(hx:x.toNat<65536):PS Tryz.prog 158 [uA x] (iA (bitsLen x.toNat)):=by
 have h:=Pt x hx;refine Spec.of (nt:=8) (res:=[.tmp 2]) Tryz.func158 rfl (by kernel_rfl) rfl rfl rfl λSf=>?_
 (repeat first|refine WK ?_|refine Ai λX=>?_|refine Ay λY=>?_);refine AE rfl rfl ?_;(repeat first|(refine AOps.gN ?_;first|(refine AOps.g_callf ?_;first|refine AOps.c1 (h:=(h ..)) (k:=?_)))|refine WK ?_|refine Ai λX=>?_|refine Ay λY=>?_);refine RT ?_;refine AX ?_;rfl
theorem IY(n:Nat)(hn:n<65536):PS Tryz.prog 263 [iA n] (uA ((1:UInt64)<<<UInt64.ofNat (bitsLen n))):=by
 have e:(UInt64.ofNat n).toNat=n:=by rw[UInt64.toNat_ofNat'];omega
 have h:=Kl (UInt64.ofNat n) (by rw[e];exact hn);rw[e]at h;have hb:bitsLen n<=16:=(bitsLen_le_iff n 16).2 (by omega);refine Spec.of (nt:=7) (res:=[.tmp 2]) Tryz.func263 rfl (by kernel_rfl) rfl rfl rfl λSf=>?_
 (repeat first|(refine AOps.gN ?_;first|(refine AOps.g_callf ?_;first|refine AOps.c1 (h:=(h ..)) (k:=?_))|refine AOps.p (HN .i64 n rfl (by omega) (by kernel_rfl) (by kernel_rfl) rfl) rfl ?_|refine AOps.p (JL (a:=1) (bitsLen n) (by omega) rfl rfl rfl) rfl ?_)|refine WK ?_|refine Ai λX=>?_|refine Ay λY=>?_);refine RT ?_;refine AX ?_;rfl
theorem IA(Y:Nat)(s:UInt64):Spec Tryz.prog 264 [.ptr Y 0 0] [(Y,.row 355 1 [uA s])] λr S'=>∃v:UInt64,True/\r=uA v/\S'=[(Y,.row 355 1 [uA v])]:=by
 refine Spec.of (nt:=33) (res:=[.tmp 2]) Tryz.func264 rfl (by kernel_rfl) rfl rfl rfl λSf=>?_
 refine RG ?_;(repeat first|refine WO ?_|refine Ai λX=>?_|refine Ay λY=>?_);refine NL ?_;refine RU ?_;(repeat first|(refine RGo.gN ?_;first|refine RGo.p (JL 13 (by omega) rfl rfl rfl) rfl ?_|refine RGo.p (HM rfl rfl) rfl ?_)|(refine RGo.gQ ?_;first|refine RGo.p (JL 13 (by omega) rfl rfl rfl) rfl ?_|refine RGo.p (HM rfl rfl) rfl ?_)|refine RK ?_|refine RGo.nil (by kernel_rfl) ?_);(repeat refine WF ?_);refine RU ?_;(repeat first|(refine RGo.gN ?_;first|refine RGo.p (NT 7 (by omega) rfl rfl rfl) rfl ?_|refine RGo.p (HM rfl rfl) rfl ?_)|(refine RGo.gQ ?_;first|refine RGo.p (NT 7 (by omega) rfl rfl rfl) rfl ?_|refine RGo.p (HM rfl rfl) rfl ?_)|refine RK ?_|refine RGo.nil (by kernel_rfl) ?_);(repeat refine WF ?_);refine RU ?_;(repeat first|(refine RGo.gN ?_;first|refine RGo.p (JL 17 (by omega) rfl rfl rfl) rfl ?_|refine RGo.p (HM rfl rfl) rfl ?_)|(refine RGo.gQ ?_;first|refine RGo.p (JL 17 (by omega) rfl rfl rfl) rfl ?_|refine RGo.p (HM rfl rfl) rfl ?_)|refine RK ?_|refine RGo.nil (by kernel_rfl) ?_);(repeat first|refine WK ?_|refine Ai λX=>?_|refine Ay λY=>?_);refine RT ?_;exact AQ [uA _] [(Y,_)] ⟨_,trivial,rfl,rfl⟩
end
section
open Go.Sort
def dU(hi lo:UInt64):UInt64:=(hi<<<UInt64.ofNat 47)|||(lo>>>UInt64.ofNat 17)
def dL(lo:UInt64):UInt64:=lo<<<UInt64.ofNat 47
def dR(hi lo:UInt64):UInt64:=dU hi lo*4294967296+(dL lo>>>UInt64.ofNat 32)-dU hi lo/2147483648*9223372036854775808
end
structure Cmd where
 act:Int
 ent:Ent
 kind:Int
 comps:List Comp
def Cc(c:Cmd):AV:=.agg [iA c.act,iA c.ent.n,iA c.ent.gen,iA c.kind,As false false c.comps]
instance {c:Cmd}:Frz (Cc c) (Cc c):=⟨by unfold Cc;exact Frz.h⟩
def CY(ks:List Kind)(c:Cmd):List Comp×Int:=
 if c.act=0 then(if c.comps.length=1 then CA ks c.comps else([],3))else
 if c.act=1 then(if c.kind<0\/(ks.length:Int)<=c.kind then([],1)else([],0))else
 if c.act=2 then([],0)else if c.act=3 then CA ks c.comps else([],1)
def DW(ks:List Kind):List Cmd->Int
 |[]=>0
 |c::l=>if(CY ks c).2=0 then DW ks l else(CY ks c).2
def GK(w:Wd)(l:List Cmd):Int:=if Da w≠0 then Da w else if 131072<l.length then 2 else DW w.kinds l
theorem Hd{ks:List Kind}:∀{l:List Cmd},DW ks l=0↔∀c∈l,(CY ks c).2=0
 |[]=>by simp[DW]
 |c::l=>by
  rw[DW];split
  ·rename_i h
   rw[Hd,List.forall_mem_cons];exact⟨λg=>⟨h,g⟩,λg=>g.2⟩
  ·rename_i h
   rw[List.forall_mem_cons];exact⟨λg=>absurd g h,λg=>absurd g.1 h⟩
theorem cmdErr_iff{w:Wd}{l:List Cmd}:GK w l=0↔WdOK w/\l.length<=131072/\∀c∈l,(CY w.kinds c).2=0:=by
 unfold GK;split
 ·rename_i h
  exact⟨λe=>absurd e h,λe=>absurd ((BI w).2 e.1) h⟩
 ·rename_i h
  have h:Da w=0:=Decidable.not_not.1 h;split
  ·rename_i h2
   exact⟨λe=>(by cases e),λe=>(by omega)⟩
  ·rename_i h2
   rw[Hd];exact⟨λe=>⟨(BI w).1 h,by omega,e⟩,λe=>e.2.2⟩
def EE(w v:Wd)(e:Int):Wd:=if e=0 then v else w
def ED(w:Wd)(c:Cmd):Wd×Ent×Bool:=
 if c.act=0 then(EE w (Cs w c.ent (c.comps.getD 0 ⟨0,[]⟩)).1 (Cs w c.ent (c.comps.getD 0 ⟨0,[]⟩)).2,⟨0,0⟩,decide ((Cs w c.ent (c.comps.getD 0 ⟨0,[]⟩)).2=0))else
 if c.act=1 then(EE w (EB w c.ent c.kind).1 (EB w c.ent c.kind).2,⟨0,0⟩,decide ((EB w c.ent c.kind).2=0))else
 if c.act=2 then(EE w (DT w c.ent).1 (DT w c.ent).2,⟨0,0⟩,decide ((DT w c.ent).2=0))else
 (EE w (Co w c.comps).1 (Co w c.comps).2.2,(Co w c.comps).2.1,decide ((Co w c.comps).2.2=0))
def C8:Wd->List Cmd->Wd×List Ent×List Bool
 |w,[]=>(w,[],[])
 |w,c::l=>((C8 (ED w c).1 l).1,(if(ED w c).2.2=true/\c.act=3 then(ED w c).2.1::(C8 (ED w c).1 l).2.1 else(C8 (ED w c).1 l).2.1),(ED w c).2.2::(C8 (ED w c).1 l).2.2)
theorem Jo{ks:List Kind}{c:Comp}(hk:BE ks=0)(h:(CA ks [c]).2=0):Fq ks c:=by
 unfold CA at h;rw[if_neg (by simp[hk])]at h;split at h
 ·rename_i h1;exact absurd h h1
 ·rename_i h1
  have h1:(CG ks [] [] [c]).2=0:=Decidable.not_not.1 h1;rw[CG]at h1;split at h1
  ·cases h1
  ·rename_i g1
   rw[if_neg (by simp)]at h1;split at h1
   ·cases h1
   ·rename_i k hk2
    split at h1
    ·rename_i g2;exact absurd h1 g2
    ·rename_i g2
     exact⟨by omega,by omega,k,hk2,Decidable.not_not.1 g2⟩
theorem I1{ks:List Kind}:∀{l pre out:List Comp},(CG ks pre out l).2=0->(∀a∈out,∃k,ks[a.kind.toNat]?=some k/\Bs k a.vals=true)->∀a∈(CG ks pre out l).1,∃k,ks[a.kind.toNat]?=some k/\Bs k a.vals=true
 |[],pre,out,h,h1=>h1
 |c::l,pre,out,h,h1=>by
  rw[CG]at h⊢;split at h
  ·cases h
  ·rename_i g1
   rw[if_neg g1];split at h
   ·cases h
   ·rename_i g2
    rw[if_neg g2];split at h
    ·cases h
    ·rename_i k hk
     split at h
     ·rename_i g3;exact absurd h g3
     ·rename_i g3
      (try simp only[hk])
      rw[if_neg g3];refine I1 h λa ha=>?_
      rcases List.mem_append.1 ha with ha|ha
      ·exact h1 a ha
      ·rw[List.mem_singleton.1 ha]
       exact⟨k,hk,(FG (Decidable.not_not.1 g3)).1⟩
theorem HR{ks:List Kind}{l:List Comp}(h:(CA ks l).2=0):Bj ks (CA ks l).1=true:=by
 unfold CA at h⊢;split at h
 ·rename_i h1;exact absurd h h1
 ·rename_i h1
  rw[if_neg h1];split at h
  ·rename_i h2;exact absurd h h2
  ·rename_i h2
   rw[if_neg h2];have h2:(CG ks [] [] l).2=0:=Decidable.not_not.1 h2;obtain⟨p1,p2⟩:=I0 h2 (λ_ h=>by cases h) .nil (λ_ h=>by cases h);have p3:=I1 h2 (λ_ h=>by cases h);refine held_iff.2 ⟨Kr p1,λc hc=>?_⟩;have hc:=(Eq _).mem_iff.1 hc;exact⟨(p2 c hc).1,(p2 c hc).2,p3 c hc⟩
theorem N6{w:Wd}(hw:WdOK w){c:Cmd}(hc:(CY w.kinds c).2=0):WdOK (ED w c).1/\(ED w c).1.kinds=w.kinds:=by
 have hs:∀v e,(e=0->WdOK v/\v.kinds=w.kinds)->WdOK (EE w v e)/\(EE w v e).kinds=w.kinds:=λv e h=>by
  unfold EE;split
  ·rename_i h1;exact h h1
  ·exact⟨hw,rfl⟩
 have hf:∀e,(CP w.items e<0)\/∃(i:Nat) (it:Item),w.items[i]?=some it/\it.ent=e:=λe=>by
  by_cases hlt:CP w.items e<0
  ·exact .inl hlt
  ·obtain⟨m,hm⟩:∃m:Nat,CP w.items e=m:=⟨(CP w.items e).toNat,by omega⟩
   obtain⟨x,hx,_,rfl⟩:=GH hm;exact .inr ⟨m,x,hx,rfl⟩
 unfold ED;unfold CY at hc;split
 ·rename_i h1
  rw[if_pos h1]at hc;split at hc
  ·rename_i h2
   obtain⟨d,hd⟩:=List.length_eq_one_iff.1 h2;rw[hd]at hc⊢;refine hs _ _ λhe=>?_
   rcases hf c.ent with h|⟨i,it,hi,rfl'⟩
   ·exfalso
    replace he:(Cs w c.ent d).2=0:=he;unfold Cs at he;rw[if_neg (by simp[(BI w).2 hw]),if_pos h]at he;cases he
   ·rw[<-rfl']
    have hfo:=Jo hw.ks hc;show WdOK (Cs w it.ent d).1/\(Cs w it.ent d).1.kinds=_
    rw[PY hw hi hfo];exact⟨PX hw hi hfo,rfl⟩
  ·cases hc
 ·rename_i h1
  rw[if_neg h1]at hc;split
  ·rename_i h2
   refine hs _ _ λhe=>?_
   rcases hf c.ent with h|⟨i,it,hi,rfl'⟩
   ·exfalso
    unfold EB at he;rw[if_neg (by simp[(BI w).2 hw]),if_pos h]at he;cases he
   ·rw[<-rfl']at he⊢
    rw[KF hw hi]at he⊢;split at he
    ·rename_i h3
     rw[if_pos h3];exact⟨Ft hw hi (J8 (hw.it it (List.mem_of_getElem? hi)).2.2.2.2),rfl⟩
    ·cases he
  ·rename_i h2
   rw[if_neg h2]at hc;split
   ·rename_i h3
    refine hs _ _ λhe=>?_
    rcases hf c.ent with h|⟨i,it,hi,rfl'⟩
    ·exfalso
     unfold DT at he;rw[if_neg (by simp[(BI w).2 hw]),if_pos h]at he;cases he
    ·rw[<-rfl']at he⊢
     rw[J3 hw hi];exact⟨Nq hw hi,rfl⟩
   ·rename_i h3
    rw[if_neg h3]at hc;split at hc
    ·refine hs _ _ λhe=>?_
     obtain⟨cs,hcs⟩:∃cs,CA w.kinds c.comps=(cs,0):=⟨(CA w.kinds c.comps).1,Prod.ext rfl hc⟩;have hh:=HR hc;rw[hcs]at hh;cases hfr:(BL w).2 with
     |true=>
      rw[Mn hw hfr hcs];exact⟨IL hw hfr hh,rfl⟩
     |false=>
      exfalso;unfold Co at he;rw[if_neg (by simp[(BI w).2 hw]),if_neg (by simp[hc]),if_pos hfr]at he;cases he
    ·cases hc
theorem Nd:∀{l:List Cmd} {w:Wd},WdOK w->(∀c∈l,(CY w.kinds c).2=0)->WdOK (C8 w l).1/\(C8 w l).1.kinds=w.kinds
 |[],w,hw,_=>⟨hw,rfl⟩
 |c::l,w,hw,hc=>by
  obtain⟨h1,h2⟩:=N6 hw (hc c (by simp));obtain⟨h3,h4⟩:=Nd (l:=l) h1 λd hd=>by rw[h2];exact hc d (by simp[hd])
  exact⟨h3,h4.trans h2⟩
structure Mark where
 n:Int
 kind:Int
 tick:Int
deriving DecidableEq,Inhabited
def CF(l:List Item)(n:Int):Item:=(l.find? λit=>decide (it.ent.n=n)).getD ⟨⟨-1,0⟩,[]⟩
def CJ(it:Item)(k:Int):List Comp:=match it.comps.find? λc=>decide (c.kind=k)with
 |some c=>[c]
 |none=>[]
def KG(a b:Item)(k:Int):Bool:=decide ((CJ a k).length≠(CJ b k).length)||(decide ((CJ a k).length=1)&&(decide (a.ent≠b.ent)||decide (CJ a k≠CJ b k)))
def GY(a b:Item)(n:Int)(i:Nat):List Mark:=((List.range i).filter λ(k:Nat)=>KG a b k).map λ(k:Nat)=>⟨n,k,0⟩
def D1(a b:Item)(n:Int):List Mark:=(if a.ent≠b.ent then[(⟨n,-1,0⟩:Mark)]else[])++GY a b n 16
def C6(a b:List Item)(i:Nat):List Mark:=(List.range i).flatMap λ(n:Nat)=>D1 (CF a n) (CF b n) n
def CE(a b:Wd):Nat:=max a.gens.length b.gens.length
def Ct(a b:Wd):List Mark:=C6 a.items b.items (CE a b)
theorem O8(it:Item)(k:Int):(CJ it k).length<=1:=by unfold CJ;split<;>simp
theorem FA{l:List Item}(hs:Gm l)(n:Int):(CF l n∈l/\(CF l n).ent.n=n)\/(CF l n=⟨⟨-1,0⟩,[]⟩/\∀it∈l,it.ent.n≠n):=by
 unfold CF;cases h:l.find? λit=>decide (it.ent.n=n)with
 |some it=>exact .inl ⟨List.mem_of_find?_eq_some h,by simpa using List.find?_some h⟩
 |none=>
  rw[List.find?_eq_none]at h;exact .inr ⟨rfl,λit hit=>by simpa using h it hit⟩
theorem PV{l:List Item}(hs:Gm l){it:Item}(h:it∈l):CF l it.ent.n=it:=by
 rcases FA hs it.ent.n with⟨h1,h2⟩|⟨_,h2⟩
 ·exact H5 (key:=λx:Item=>x.ent.n) hs h1 h h2
 ·exact absurd rfl (h2 it h)
def AC(m:Mark):AV:=.agg [iA m.n,iA m.kind,iA m.tick]
abbrev DS(b:Bool)(l:List Mark):AV:=.lst b 58 3 (l.map AC)
abbrev SM:AV:=.agg [.prim (.slice none 0 0),.prim (.slice none 0 0),.prim (.slice none 0 0)]
instance {m:Mark}:Frz (AC m) (AC m):=⟨rfl⟩
theorem O7{it:Item}{k:Int}{c:Comp}(h:c∈CJ it k):c∈it.comps:=by
 unfold CJ at h;split at h
 ·rename_i d hd
  rw[List.mem_singleton]at h;subst h;exact List.mem_of_find?_eq_some hd
 ·cases h
theorem LK{l:List Item}(hs:Gm l){n:Int}{b:Nat×Bool}(h:Found (λx:Item=>B6 x.ent.n n) l b):(b.2=true->l[b.1]?=some (CF l n))/\(b.2=false->CF l n=⟨⟨-1,0⟩,[]⟩):=by
 have hm:Hh (λx:Item=>B6 x.ent.n n) l:=by
  intro a b x y hab hx hy hy0;rw[Kz]at hy0⊢;by_cases e:a=b
  ·subst e;rw[hx]at hy;cases hy;exact hy0
  ·obtain⟨ha,rfl⟩:=List.getElem?_eq_some_iff.1 hx
   obtain⟨hb,rfl⟩:=List.getElem?_eq_some_iff.1 hy;have:(l[a]).ent.n<(l[b]).ent.n:=List.pairwise_iff_getElem.1 hs a b ha hb (by omega);omega
 obtain⟨h1,h2⟩:=h.mono hm;refine⟨λhb=>?_,λhb=>?_⟩
 ·obtain⟨x,hx,h0⟩:=h.eq.1 hb
  have he:=cmpI_eq.1 h0;rw[hx,<-he,PV hs (List.mem_of_getElem? hx)]
 ·rcases FA hs n with⟨g1,g2⟩|⟨g1,_⟩
  ·exfalso
   obtain⟨j,hj,hje⟩:=List.getElem_of_mem g1;have hne:¬∃x,l[b.1]?=some x/\B6 x.ent.n n=0:=λhx=>by rw[h.eq.2 hx]at hb;cases hb
   have hj2:=List.getElem?_eq_getElem hj;rw[hje]at hj2
   have hjb:b.1<=j:=by
    rcases Nat.lt_or_ge j b.1 with hlt|hge
    ·have:=h1 j _ hlt hj2
     rw[Kz]at this;omega
    ·exact hge
   by_cases e2:j=b.1
   ·subst e2
    exact hne ⟨_,hj2,cmpI_eq.2 g2⟩
   ·have hbl:b.1<l.length:=by omega
    have h3:=h2 b.1 _ (Nat.le_refl _) (List.getElem?_eq_getElem hbl);rw[Kz]at h3;have:(l[b.1]).ent.n<(l[j]).ent.n:=List.pairwise_iff_getElem.1 hs b.1 j hbl hj (by omega);rw[hje]at this;omega
  ·exact g1
theorem P4(x:Item)(n:Int):PS Tryz.prog 164 [AD false x,iA n] (iA (B6 x.ent.n n)):=by
 refine Spec.of (nt:=10) (res:=[.tmp 4]) Tryz.func164 rfl (by kernel_rfl) rfl rfl rfl λSf=>?_
 (repeat first|(refine AOps.gN ?_;first|(refine AOps.g_callf ?_;first|refine AOps.c2 (h:=(C1 x.ent.n n)) (k:=?_))|(refine AOps.g_box ?_;refine BT ?_))|refine WK ?_|refine Ai λX=>?_|refine Ay λY=>?_);refine RT ?_;refine AX ?_;rfl
theorem HX(w:Wd)(n:Int)(hs:Gm w.items)(hl:w.items.length<=4611686018427387904):PS Tryz.prog 83 [wdA false w,iA n] (AD false (CF w.items n)):=by
 have h:=LR w.items (iA n) 164 [] (λx=>B6 x.ent.n n) n rfl rfl hl (λx _=>P4 x n);refine Spec.of (nt:=23) (res:=[.cell 4 71]) Tryz.func83 rfl (by kernel_rfl) rfl rfl rfl λSf=>?_
 refine RG ?_;(repeat first|(refine AOps.gN ?_;first|(refine AOps.g_box ?_;refine BT ?_))|refine WO ?_|refine Ai λP=>?_|refine Ay λY=>?_);refine NL ?_;refine FL ?_;refine RG ?_;(repeat first|refine WO ?_|refine Ai λX=>?_|refine Ay λY=>?_);refine SA (h:=h) λb hb=>?_
 obtain⟨hy,hn⟩:=LK hs hb;obtain⟨i,q⟩:=b;dsimp only at hy hn;(repeat first|refine WO ?_|refine Ai λX=>?_|refine Ay λY=>?_);refine FL ?_;cases q with
 |false=>
  rw[hn rfl];refine RG ?_;(repeat first|refine WO ?_|refine Ai λX=>?_|refine Ay λY=>?_);refine NL ?_;refine AU rfl rfl ?_;refine RG ?_;(repeat first|refine WO ?_|refine Ai λX=>?_|refine Ay λY=>?_);refine NL ?_;refine RT ?_;exact BZ [.agg [iA (-1),iA 0,.prim (.slice none 0 0)]] [AD false ⟨⟨-1,0⟩,[]⟩] (.cons (.agg (.cons .same (.cons .same (.cons .nil .nil)))) .nil)
 |true=>
  have hat:(w.items.map (AD false))[i]?=some (AD false (CF w.items n)):=by rw[List.getElem?_map,hy rfl];rfl
  obtain⟨it,hit⟩:∃it,CF w.items n=it:=⟨_,rfl⟩;rw[hit]at hat⊢;refine RG ?_;(repeat first|refine WO ?_|refine Ai λX=>?_|refine Ay λY=>?_);refine NL ?_;refine AE rfl rfl ?_;refine FL ?_;refine RG ?_;(repeat first|(refine AOps.gN ?_;first|refine AOps.go (h:=W.idxL rfl rfl rfl hat) (k:=?_))|refine WO ?_|refine Ai λX=>?_|refine Ay λY=>?_);refine NL ?_;refine RT ?_;exact BZ [AD false it] [AD false it] (.cons (.cell .same) .nil)
theorem HY(it:Item)(k:Int)(hl:it.comps.length<=1099511627776):PS Tryz.prog 87 [AD false it,iA k] (As false false (CJ it k)):=by
 have hcm:(it.comps.map (AG false)).length=it.comps.length:=List.length_map _;refine Spec.of (nt:=26) (res:=[.tmp 4]) Tryz.func87 rfl (by kernel_rfl) rfl rfl rfl λSf=>?_
 refine RG ?_;(repeat first|(refine AOps.gN ?_;first|(refine AOps.g_box ?_;refine BT ?_))|refine WO ?_|refine Ai λX=>?_|refine Ay λY=>?_);refine NL ?_;refine FL ?_;refine RG ?_;(repeat first|refine WO ?_|refine Ai λX=>?_|refine Ay λY=>?_);refine NL ?_;refine FL ?_;refine BN (λ(i:Nat)=>⟨[(1,iA k),(2,.fp (AD false it).cells),(8,As false false it.comps),(9,iA (it.comps.map (AG false)).length),(10,iA i)],Sf⟩) (λi=>i<=it.comps.length/\∀j (h:j<it.comps.length),j<i->decide (it.comps[j].kind=k)=false) (λi=>it.comps.length-i) 0 ⟨Nat.zero_le _,λj h hj=>absurd hj (by omega)⟩ ?_;rintro i ⟨hi,he⟩;refine RG ?_;(repeat first|refine WO ?_|refine Ai λX=>?_|refine Ay λY=>?_);refine NL ?_;refine FL ?_;refine AWP.cond rfl (λhb=>?_) (λhb=>?_)
 ·have h:i<it.comps.length:=by rw[decide_eq_true_eq,hcm]at hb;omega
  obtain⟨c,hcc⟩:∃c,it.comps[i]=c:=⟨_,rfl⟩;have hat:(it.comps.map (AG false))[i]?=some (AG false c):=by rw[List.getElem?_map,List.getElem?_eq_getElem h,hcc];rfl
  refine FL ?_;refine RG ?_;(repeat first|refine WO ?_|refine Ai λC=>?_|refine Ay λY=>?_);refine NL ?_;refine FL ?_;refine RG ?_;(repeat first|refine WO ?_|refine Ai λX=>?_|refine Ay λY=>?_);refine NL ?_;refine AWP.cond rfl (λhd=>?_) (λhd=>?_)
  ·have hf:CJ it k=[c]:=by
    unfold CJ;rw[List.find?_eq_some_iff_getElem.2 ⟨by rw[hcc]at*;exact hd,i,h,hcc,λj hj=>by simpa using he j (by omega) hj⟩]
   have hst:((it.comps.map (AG false)).take (i+1)).drop i=(CJ it k).map (AG false):=by
    rw[hf,<-List.map_take,<-List.map_drop,List.take_succ_eq_append_getElem h,List.drop_append_of_le_length (by rw[List.length_take];omega),List.drop_of_length_le (by rw[List.length_take];omega),hcc];rfl
   refine FL ?_;refine RG ?_;(repeat first|(refine AOps.gN ?_;first|refine AOps.go (h:=AT ((i:Int)+1) (by omega) (by omega) rfl rfl) (k:=?_)|refine AOps.go (h:=SY i (i+1) rfl rfl rfl rfl (by omega) (by omega) (by omega)) (k:=?_))|refine WO ?_|refine Ai λX=>?_|refine Ay λY=>?_);refine NL ?_;rw[hst];refine RT ?_;refine AX ?_;rfl
  ·refine FL ?_
   refine RG ?_;(repeat first|refine WO ?_|refine Ai λX=>?_|refine Ay λY=>?_);refine NL ?_;refine A4 (i+1) ⟨h,λj h1 h2=>?_⟩ (by omega);by_cases e:j=i
   ·subst e;rw[hcc];exact hd
   ·exact he j h1 (by omega)
 ·have h:i=it.comps.length:=by rw[decide_eq_false_iff_not,hcm]at hb;omega
  subst h
  have hf:CJ it k=[]:=by
   unfold CJ
   rw[List.find?_eq_none.2 λc hc=>by
    obtain⟨j,hj,rfl⟩:=List.getElem_of_mem hc;simpa using he j hj hj]
  rw[hf];refine FL ?_;refine RG ?_;(repeat first|refine WO ?_|refine Ai λX=>?_|refine Ay λY=>?_);refine NL ?_;refine RT ?_;exact BZ [.prim (.slice none 0 0)] [As false false []] (.cons (.cell .nil) .nil)
section
def ixG(ks:List Int):Int->Option Value:=λn=>if n∈ks then some (.int .i64 (ks.idxOf n:Nat))else none
variable {α:Type}
abbrev AF(l:List (Int×α)):List Int:=l.map (·.1)
def BP(l:List (Int×α))(n:Int)(v:α):List (Int×α):=if n∈AF l then l.set ((AF l).idxOf n) (n,v)else l++[(n,v)]
def CN(l:List (Int×α))(n:Int):Option α:=(l[(AF l).idxOf n]?).map (·.2)
def A9(l:List (Int×α))(n:Int):List (Int×α):=if n∈AF l then(match l[l.length-1]? with|some e=>(l.set ((AF l).idxOf n) e).take (l.length-1)|none=>l)else l
structure ColOK(l:List (Int×α)):Prop where
 nd:(AF l).Nodup
 lt:∀n∈AF l,0<=n/\n<256
theorem Lg{ks:List Int}(h:ks.Nodup)(hl:∀n∈ks,0<=n/\n<256):ks.length<=256:=by
 have h1:(ks.map Int.toNat).Nodup:=by
  refine List.pairwise_map.2 (h.imp_of_mem λha hb hne e=>hne ?_);have:=hl _ ha;have:=hl _ hb;omega
 have h2:(ks.map Int.toNat)⊆List.range 256:=λx hx=>by
  obtain⟨n,hn,rfl⟩:=List.mem_map.1 hx;have:=hl n hn;rw[List.mem_range];omega
 have:=List.Nodup.length_le_of_subset h1 h2;simpa using this
theorem ColOK.len{l:List (Int×α)}(h:ColOK l):l.length<=256:=by
 have:=Lg h.nd h.lt;simpa using this
theorem D6{l:List (Int×α)}{n:Int}(h:n∈AF l):(AF l).idxOf n<l.length:=by
 have:=List.idxOf_lt_length_of_mem h;simpa using this
theorem D7{l:List (Int×α)}{n:Int}(h:n∈AF l):∃v,l[(AF l).idxOf n]?=some (n,v):=by
 have h1:=D6 h;have h2:=List.getElem_idxOf (xs:=AF l) (x:=n) (by simpa using h1);rw[List.getElem_map]at h2;refine⟨(l[(AF l).idxOf n]).2,?_⟩;rw[List.getElem?_eq_getElem h1]
 congr 1
 exact Prod.ext h2 rfl
theorem DP{l:List (Int×α)}{n:Int}(h:n∉AF l):CN l n=none:=by
 unfold CN;rw[List.getElem?_eq_none]
 ·rfl
 ·rw[List.idxOf_eq_length h];simp
theorem Bu{l:List (Int×α)}(h:ColOK l){n:Int}{v:α}:CN l n=some v↔(n,v)∈l:=by
 constructor
 ·intro e
  have hn:n∈AF l:=Classical.byContradiction λhn=>by rw[DP hn]at e;cases e
  obtain⟨u,hu⟩:=D7 hn;unfold CN at e;rw[hu]at e;injection e with e
  simp only at e;subst e;exact List.mem_of_getElem? hu
 ·intro hm
  have hn:n∈AF l:=List.mem_map.2 ⟨_,hm,rfl⟩;obtain⟨i,hi,e⟩:=List.getElem_of_mem hm
  have h1:(AF l).idxOf n=i:=by
   have h2:(AF l)[i]'(by simpa using hi)=n:=by rw[List.getElem_map,e]
   rw[<-h2];exact h.nd.idxOf_getElem i _
  unfold CN;rw[h1,List.getElem?_eq_getElem hi,e];rfl
theorem D0{l:List (Int×α)}{n:Int}(h:n∈AF l):∃v,CN l n=some v:=by
 obtain⟨u,hu⟩:=D7 h;exact⟨u,by unfold CN;rw[hu];rfl⟩
theorem ColOK.perm{l l':List (Int×α)}(h:ColOK l)(p:l.Perm l'):ColOK l':=
 ⟨(p.map _).nodup_iff.1 h.nd,λn hn=>h.lt n ((p.map _).mem_iff.2 hn)⟩
theorem CR{l:List (Int×α)}{n:Int}{v:α}(h:n∉AF l):BP l n v=l++[(n,v)]:=if_neg h
theorem Dp{l:List (Int×α)}{n:Int}{v:α}(h:n∈AF l):BP l n v=l.set ((AF l).idxOf n) (n,v):=if_pos h
theorem Dz{l:List (Int×α)}{n:Int}{v:α}(h:n∈AF l):AF (BP l n v)=AF l:=by
 rw[Dp h,AF,List.map_set];obtain⟨u,hu⟩:=D7 h;have h1:=D6 h;refine List.ext_getElem (by simp) λi h2 h3=>?_
 rw[List.getElem_set];split
 ·rename_i e
  subst e;have:=List.getElem_idxOf (xs:=AF l) (x:=n) (by simpa using h1);exact this.symm
 ·rfl
theorem ColOK.put{l:List (Int×α)}(h:ColOK l){n:Int}(hn:0<=n/\n<256)(v:α):ColOK (BP l n v):=by
 by_cases hk:n∈AF l
 ·refine⟨by rw[Dz hk];exact h.nd,λm hm=>h.lt m (by rwa[Dz hk]at hm)⟩
 ·rw[CR hk]
  refine⟨?_,λm hm=>?_⟩
  ·rw[AF,List.map_append]
   refine List.nodup_append.2 ⟨h.nd,by simp,λa ha b hb e=>?_⟩;simp only[List.map_cons,List.map_nil,List.mem_singleton]at hb;subst hb e;exact hk ha
  ·rw[AF,List.map_append]at hm
   rcases List.mem_append.1 hm with hm|hm
   ·exact h.lt m hm
   ·simp only[List.map_cons,List.map_nil,List.mem_singleton]at hm
    subst hm;exact hn
theorem Gy{l:List (Int×α)}(h:ColOK l){n:Int}{v:α}{m:Int}{u:α}:(m,u)∈BP l n v↔(m=n/\u=v)\/(m≠n/\(m,u)∈l):=by
 by_cases hk:n∈AF l
 ·obtain⟨w,hw⟩:=D7 hk
  have h1:=D6 hk;rw[Dp hk];constructor
  ·intro hm
   obtain⟨i,hi,e⟩:=List.getElem_of_mem hm;rw[List.getElem_set]at e;split at e
   ·injection e with e1 e2
    exact .inl ⟨e1.symm,e2.symm⟩
   ·rename_i hne
    refine .inr ⟨λe2=>hne ?_,e▸List.getElem_mem _⟩;have hi':i<l.length:=by simpa using hi
    have h2:(AF l)[i]'(by simpa using hi')=n:=by rw[List.getElem_map,e,e2]
    rw[<-h2];exact h.nd.idxOf_getElem i _
  ·rintro(⟨rfl,rfl⟩|⟨hne,hm⟩)
   ·exact List.mem_of_getElem? (i:=(AF l).idxOf m) (by rw[List.getElem?_set_self h1])
   ·obtain⟨i,hi,e⟩:=List.getElem_of_mem hm
    refine List.mem_of_getElem? (i:=i) ?_;rw[List.getElem?_set_ne,List.getElem?_eq_getElem hi,e];intro e2;have h3:l[i]?=some (m,u):=by rw[List.getElem?_eq_getElem hi,e]
    rw[<-e2,hw]at h3;injection h3 with h3
    injection h3 with h3 _
    exact hne h3.symm
 ·rw[CR hk,List.mem_append,List.mem_singleton]
  constructor
  ·rintro(hm|e)
   ·exact .inr ⟨λe=>hk (by subst e;exact List.mem_map.2 ⟨_,hm,rfl⟩),hm⟩
   ·injection e with e1 e2
    exact .inl ⟨e1,e2⟩
  ·rintro(⟨rfl,rfl⟩|⟨_,hm⟩)
   ·exact .inr rfl
   ·exact .inl hm
theorem EX{l:List (Int×α)}{n:Int}(h:n∉AF l):A9 l n=l:=if_neg h
theorem Jr{β:Type}{l:List β}{i:Nat}{x e:β}(hx:l[i]?=some x)(he:l[l.length-1]?=some e):l.Perm (x::(l.set i e).take (l.length-1)):=by
 have hi:=(List.getElem?_eq_some_iff.1 hx).1
 obtain⟨l',e',rfl⟩:∃l' e',l=l'++[e']:=by
  rcases List.eq_nil_or_concat l with rfl|⟨l',e',rfl⟩
  ·cases hi
  ·exact⟨l',e',by simp⟩
 have hl:(l'++[e']).length-1=l'.length:=by simp
 rw[hl]at he⊢;rw[List.getElem?_append_right (Nat.le_refl _),Nat.sub_self]at he;injection he with he
 subst he;by_cases h:i<l'.length
 ·rw[List.getElem?_append_left h]at hx
  rw[List.set_append_left _ _ h,List.take_left' (by simp)];obtain⟨R,h1,h2⟩:=BB hx;refine List.perm_append_comm.trans ?_;refine((h1.cons e').trans (.swap ..)).trans ?_;exact(h2 e').symm.cons x
 ·have hi':i=l'.length:=by simp at hi;omega
  subst hi';rw[List.getElem?_append_right (Nat.le_refl _),Nat.sub_self]at hx;injection hx with hx
  subst hx;rw[List.set_append_right _ _ (Nat.le_refl _),Nat.sub_self,List.set_cons_zero,List.take_left' rfl];exact List.perm_append_comm
theorem H4{β:Type}{l:List β}(h:0<l.length):∃e,l[l.length-1]?=some e:=⟨l[l.length-1],List.getElem?_eq_getElem (by omega)⟩
theorem Cd{l:List (Int×α)}(h:ColOK l){n:Int}{v:α}(hm:(n,v)∈l):l.Perm ((n,v)::A9 l n):=by
 have hk:n∈AF l:=List.mem_map.2 ⟨_,hm,rfl⟩;obtain⟨w,hw⟩:=D7 hk;have h1:=D6 hk
 have hwv:w=v:=by
  have:=(Bu h).2 hm;unfold CN at this;rw[hw]at this;injection this
 subst hwv;obtain⟨e,he⟩:=H4 (l:=l) (by omega);unfold A9;rw[if_pos hk,he];exact Jr hw he
theorem II{l:List (Int×α)}{n:Int}(hk:n∈AF l):(A9 l n).length=l.length-1:=by
 have h1:=D6 hk;obtain⟨e,he⟩:=H4 (l:=l) (by omega);unfold A9;rw[if_pos hk,he];simp
theorem ColOK.drop{l:List (Int×α)}(h:ColOK l)(n:Int):ColOK (A9 l n):=by
 by_cases hk:n∈AF l
 ·obtain⟨v,hv⟩:=D0 hk
  have:=h.perm (Cd h ((Bu h).1 hv));exact⟨(List.nodup_cons.1 this.nd).2,λm hm=>this.lt m (List.mem_cons_of_mem _ hm)⟩
 ·rw[EX hk];exact h
theorem C3{l:List (Int×α)}(h:ColOK l){n m:Int}:m∈AF (A9 l n)↔m∈AF l/\m≠n:=by
 by_cases hk:n∈AF l
 ·obtain⟨v,hv⟩:=D0 hk
  have hp:=Cd h ((Bu h).1 hv);have hd:=h.perm hp;have hn:n∉AF (A9 l n):=(List.nodup_cons.1 hd.nd).1;rw[(hp.map (·.1)).mem_iff (a:=m)];simp only[List.map_cons,List.mem_cons];constructor
  ·intro hm
   exact⟨.inr hm,λe=>hn (by subst e;exact hm)⟩
  ·rintro⟨e|hm,hne⟩
   ·exact absurd e hne
   ·exact hm
 ·rw[EX hk]
  exact⟨λhm=>⟨hm,λe=>hk (e▸hm)⟩,λhm=>hm.1⟩
theorem Mm{l:List (Int×α)}(h:ColOK l){n m:Int}(hne:m≠n):CN (A9 l n) m=CN l m:=by
 by_cases hm:m∈AF l
 ·obtain⟨v,hv⟩:=D0 hm
  rw[hv,Bu (h.drop n)];have h1:=(Bu h).1 hv;by_cases hk:n∈AF l
  ·obtain⟨w,hw⟩:=D0 hk
   have:=(Cd h ((Bu h).1 hw)).mem_iff.1 h1;rcases List.mem_cons.1 this with e|e
   ·injection e with e _
    exact absurd e hne
   ·exact e
  ·rw[EX hk];exact h1
 ·rw[DP hm,DP (λhm'=>hm ((C3 h).1 hm').1)]
theorem FY{l:List (Int×α)}(h:ColOK l){n:Int}(hn:0<=n/\n<256){v:α}{m:Int}:CN (BP l n v) m=if m=n then some v else CN l m:=by
 split
 ·rename_i e
  subst e;exact(Bu (h.put hn v)).2 ((Gy h).2 (.inl ⟨rfl,rfl⟩))
 ·rename_i hne
  cases hg:CN l m with
  |some w=>exact(Bu (h.put hn v)).2 ((Gy h).2 (.inr ⟨hne,(Bu h).1 hg⟩))
  |none=>
   refine DP λhm=>?_
   obtain⟨⟨m',w⟩,hw,rfl⟩:=List.mem_map.1 hm;rcases(Gy h).1 hw with⟨e,_⟩|⟨_,hw⟩
   ·exact hne e
   ·rw[(Bu h).2 hw]at hg
    cases hg
theorem Cb{ks:List Int}{n:Int}(h:n∈ks):ixG ks n=some (.int .i64 (ks.idxOf n:Nat)):=if_pos h
theorem Er{ks:List Int}{n:Int}(h:n∉ks):ixG ks n=none:=if_neg h
theorem Nv{ks:List Int}{n:Int}(h:n∉ks):Db (ixG ks) n (.int .i64 (ks.length:Nat))=ixG (ks++[n]):=by
 funext m
 unfold Db;split
 ·rename_i e
  subst e;rw[Cb (by simp),List.idxOf_append,if_neg h];simp
 ·rename_i hne
  by_cases hm:m∈ks
  ·rw[Cb hm,Cb (by simp[hm]),List.idxOf_append,if_pos hm]
  ·rw[Er hm,Er (by simp[hm,hne])]
theorem HB{ks:List Int}(hd:ks.Nodup){i:Nat}{n:Int}(h:ks[i]?=some n):n∈ks/\ks.idxOf n=i:=by
 obtain⟨hi,e⟩:=List.getElem?_eq_some_iff.1 h;subst e;exact⟨List.getElem_mem _,hd.idxOf_getElem i _⟩
theorem Lz{ks:List Int}(hd:ks.Nodup){i:Nat}{n e:Int}(hn:ks[i]?=some n)(he:ks[ks.length-1]?=some e):Ei (Db (ixG ks) e (.int .i64 (i:Nat))) n=ixG ((ks.set i e).take (ks.length-1)):=by
 have hp:=Jr hn he;have hd2:(n::(ks.set i e).take (ks.length-1)).Nodup:=hp.nodup_iff.1 hd;obtain⟨hn1,hd3⟩:=List.nodup_cons.1 hd2;obtain⟨hi,_⟩:=List.getElem?_eq_some_iff.1 hn;have hmem:∀m,m∈ks↔m=n\/m∈(ks.set i e).take (ks.length-1):=λm=>by rw[hp.mem_iff];simp
 funext m
 unfold Ei;split
 ·rename_i h
  subst h;rw[Er hn1]
 ·rename_i hmn
  unfold Db;split
  ·rename_i hme
   subst hme
   have hi2:i<ks.length-1:=by
    refine Classical.byContradiction λh=>hmn ?_
    have:i=ks.length-1:=by omega
    rw[this,he]at hn;injection hn
   obtain⟨h1,h2⟩:=HB hd3 (i:=i) (n:=m) (by rw[List.getElem?_take_of_lt hi2,List.getElem?_set_self hi]);rw[Cb h1,h2]
  ·rename_i hme
   by_cases hm:m∈ks
   ·obtain⟨j,hj,ej⟩:=List.getElem_of_mem hm
    have hj1:ks[j]?=some m:=by rw[List.getElem?_eq_getElem hj,ej]
    have hj2:j<ks.length-1:=by
     refine Classical.byContradiction λh=>hme ?_
     have:j=ks.length-1:=by omega
     rw[this,he]at hj1;injection hj1 with hj1
     exact hj1.symm
    have hij:i≠j:=λh=>by
     subst h;rw[hn]at hj1;injection hj1 with hj1
     exact hmn hj1.symm
    obtain⟨h1,h2⟩:=HB hd hj1;obtain⟨h3,h4⟩:=HB hd3 (i:=j) (n:=m) (by rw[List.getElem?_take_of_lt hj2,List.getElem?_set_ne hij,hj1]);rw[Cb h1,h2,Cb h3,h4]
   ·rw[Er hm,Er λh=>hm ((hmem m).2 (.inr h))]
structure StK where
 X:Nat
 V:Nat
 R:Nat
 M:Nat
end
instance mapII:TMap Tryz.prog 257 3 3 (.int .i64 0):=⟨by kernel_rfl,by kernel_rfl,λw=>by kernel_rfl,PlainV.int (by kernel_rfl) rfl⟩
abbrev stE(k:StK)(l:List (Int×Ent)):List AA:=[(k.X,.row 259 3 [.agg [.sl k.V 0 l.length,.sl k.R 0 l.length,.mp k.M]]),(k.V,.row 32 2 (l.map λe=>Ac e.2)),(k.R,.row 3 1 (l.map λe=>iA e.1)),(k.M,.ob (MapF Tryz.prog 3 3 (ixG (AF l)) l.length))]
theorem Ml{X V R M n m c:Nat}{l:List (Int×Ent)}{vs rs:List AV}{g:Int->Option Value}(h1:n=l.length)(h2:m=l.length)(h3:vs=l.map λe=>Ac e.2)(h4:rs=l.map λe=>iA e.1)(h5:g=ixG (AF l))(h6:c=l.length):
  [(X,AO.row 259 3 [.agg [.sl V 0 n,.sl R 0 m,.mp M]]),(V,.row 32 2 vs),(R,.row 3 1 rs),(M,.ob (MapF Tryz.prog 3 3 g c))]=stE ⟨X,V,R,M⟩ l:=by
 subst h1 h2 h3 h4 h5 h6;rfl
theorem newE_sp:Spec Tryz.prog 149 [] [] λr S'=>∃k:StK,r= .ptr k.X 0 0/\S'=stE k []:=by
 refine Spec.of (nt:=4) (res:=[.tmp 0]) Tryz.func149 rfl (by kernel_rfl) rfl rfl rfl λSf=>?_
 refine RG ?_;(repeat first|refine WO ?_|refine Ai λX=>?_|refine Ay λY=>?_);refine NL ?_;refine FL ?_;refine RG ?_;(repeat first|(refine AOps.gN ?_;first|(refine EC ?_;refine JS λM=>?_))|refine WO ?_|refine Ai λX=>?_|refine Ay λY=>?_);refine NL ?_;refine AWP.adoptIn (Y:=X) 32 2 .here (λV=>.cons (.agg (.cons (.base .nil) (.cons .same (.cons .same .nil)))) .nil) λV=>?_
 refine AWP.adoptIn (Y:=X) 3 1 (.next .here) (λV=>.cons (.agg (.cons .same (.cons (.base .nil) (.cons .same .nil)))) .nil) λR=>?_
 refine AWP.front M ?_;refine AWP.front R ?_;refine AWP.front V ?_;refine AWP.front X ?_;refine RT ?_;exact AQ [.ptr X 0 0] (stE ⟨X,V,R,M⟩ []) ⟨⟨X,V,R,M⟩,rfl,rfl⟩
theorem QV(k:StK)(l:List (Int×Ent))(hl:ColOK l)(n:Int)(v:Ent)(hn:0<=n/\n<256):Spec Tryz.prog 152 [.ptr k.X 0 0,iA n,Ac v] (stE k l) λr S'=>∃q:Nat×Nat,r=iA 0/\S'=stE ⟨k.X,q.1,q.2,k.M⟩ (BP l n v):=by
 have hlen:=hl.len;have hn1:decide (n<0)=false:=decide_eq_false (by omega);have hn2:decide (n>=256)=false:=decide_eq_false (by omega);have hI: -9223372036854775808<=n/\n<=9223372036854775807:=by omega
 by_cases hk:n∈AF l
 ·obtain⟨u,hu⟩:=D7 hk
  have hi:=D6 hk;rw[Dp hk];have hix:=Cb hk;have hke:=Dz (v:=v) hk;rw[Dp hk]at hke;obtain⟨i,hi2⟩:∃i,(AF l).idxOf n=i:=⟨_,rfl⟩;rw[hi2]at hi hu hix hke⊢;have h1:(ixG (AF l) n).getD (.int .i64 0)= .int .i64 (i:Nat):=by rw[hix];rfl
  have h2:(ixG (AF l) n).isSome=true:=by rw[hix];rfl
  have hat:(l.map λe=>Ac e.2)[i]?=some (Ac u):=by rw[List.getElem?_map,hu];rfl
  have hset:(l.map λe=>Ac e.2).set i (Ac v)=(l.set i (n,v)).map λe=>Ac e.2:=by rw[List.map_set]
  have hrow:(l.map λe=>iA e.1)=(l.set i (n,v)).map λe=>iA e.1:=by
   have:=congrArg (List.map iA) hke;rw[AF,AF,List.map_map,List.map_map]at this;exact this.symm
  refine Spec.of (nt:=62) (res:=[.tmp 6]) Tryz.func152 rfl (by kernel_rfl) rfl rfl rfl λSf=>?_
  refine RG ?_;(repeat first|refine WO ?_|refine Ai λB0=>?_|refine Ay λY=>?_);refine NL ?_;refine FL ?_;refine RG ?_;(repeat first|refine WO ?_|refine Ai λX=>?_|refine Ay λY=>?_);refine NL ?_;refine FL ?_;refine AE rfl hn2 ?_;refine FL ?_;refine RG ?_;(repeat first|(refine AOps.gN ?_;first|refine AOps.go (h:=DX _ _ h1 h2 hI rfl rfl (by exact At.f)) (k:=?_))|refine WO ?_|refine Ai λX=>?_|refine Ay λY=>?_);refine NL ?_;refine FL ?_;refine RG ?_;(repeat first|refine WO ?_|refine Ai λX=>?_|refine Ay λY=>?_);refine NL ?_;refine FL ?_;refine AU rfl rfl ?_;refine FL ?_;refine RU ?_;(repeat first|(refine RGo.gN ?_;first|refine RGo.go (h:=W.idx rfl rfl (by exact At.f) rfl (by omega) (Nat.zero_add _)) (k:=?_))|(refine RGo.gQ ?_;first|refine RGo.go (h:=W.idx rfl rfl (by exact At.f) rfl (by omega) (Nat.zero_add _)) (k:=?_))|refine RK ?_|refine RGo.nil (by kernel_rfl) ?_);refine FL ?_;refine RG ?_;(repeat first|refine WO ?_|refine Ai λX=>?_|refine Ay λY=>?_);refine NL ?_;refine RT ?_;exact AQ [iA 0] _ ⟨(k.V,k.R),rfl,Ml (n:=l.length) (m:=l.length) (c:=l.length) (by simp) (by simp) hset hrow (by rw[hke]) (by simp)⟩
 ·rw[CR hk]
  have hix:=Er hk;have h1:(ixG (AF l) n).getD (.int .i64 0)= .int .i64 0:=by rw[hix];rfl
  have h2:(ixG (AF l) n).isSome=false:=by rw[hix];rfl
  have hkl:(AF l).length=l.length:=List.length_map _
  have hkf:Db (ixG (AF l)) n (.int .i64 (l.length:Nat))=ixG (AF (l++[(n,v)])):=by
   rw[<-hkl,Nv hk,AF,AF,List.map_append];rfl
  have hsz:(if(ixG (AF l) n).isSome then l.length else l.length+1)=l.length+1:=by rw[h2];rfl
  have hmx:l.length<maxLen:=by unfold maxLen;omega
  refine Spec.of (nt:=62) (res:=[.tmp 6]) Tryz.func152 rfl (by kernel_rfl) rfl rfl rfl λSf=>?_
  refine RG ?_;(repeat first|refine WO ?_|refine Ai λB0=>?_|refine Ay λY=>?_);refine NL ?_;refine FL ?_;refine RG ?_;(repeat first|refine WO ?_|refine Ai λX=>?_|refine Ay λY=>?_);refine NL ?_;refine FL ?_;refine AE rfl hn2 ?_;refine FL ?_;refine RG ?_;(repeat first|(refine AOps.gN ?_;first|refine AOps.go (h:=DX _ _ h1 h2 hI rfl rfl (by exact At.f)) (k:=?_))|refine WO ?_|refine Ai λX=>?_|refine Ay λY=>?_);refine NL ?_;refine FL ?_;refine RG ?_;(repeat first|refine WO ?_|refine Ai λX=>?_|refine Ay λY=>?_);refine NL ?_;refine FL ?_;refine AE rfl rfl ?_;refine FL ?_;refine RU ?_;(repeat first|(refine RGo.gN ?_;first|refine RGo.goS (h:=W.mapUpd (PlainV.int (by kernel_rfl) (CM (by omega))) hI hmx rfl rfl rfl (by exact At.f)) (k:=?_))|(refine RGo.gQ ?_;first|refine RGo.goS (h:=W.mapUpd (PlainV.int (by kernel_rfl) (CM (by omega))) hI hmx rfl rfl rfl (by exact At.f)) (k:=?_))|refine RK ?_|refine RGo.nil (by kernel_rfl) ?_);rw[hkf,hsz];refine FL ?_;refine AWP.rs λA=>AWP.rs λB=>?_
  refine RU ?_;(repeat first|(refine RGo.gN ?_;first|(refine RGo.g_lit ?_;refine RGo.goL (iA n) ?_)|(refine RGo.g_lit ?_;refine RGo.goL (Ac v) ?_))|(refine RGo.gQ ?_;first|(refine RGo.g_lit ?_;refine RGo.goL (iA n) ?_)|(refine RGo.g_lit ?_;refine RGo.goL (Ac v) ?_))|refine RK ?_|refine RGo.nil (by kernel_rfl) ?_);refine FL ?_;refine RG ?_;(repeat first|refine WO ?_|refine Ai λX=>?_|refine Ay λY=>?_);refine NL ?_;refine AWP.front k.M ?_;refine AWP.front B ?_;refine AWP.front A ?_;refine AWP.front k.X ?_;refine RT ?_;exact AQ [iA 0] _ ⟨(A,B),rfl,Ml (n:=l.length+1) (m:=l.length+1) (c:=l.length+1) (by simp) (by simp) (by rw[List.map_append]) (by rw[List.map_append]) rfl (by simp)⟩
theorem PC(l:List Ent)(hl:l.length*16<=140737488355328):PS Tryz.prog 154 [.lst false 32 2 (l.map Ac)] (.lst true 32 2 (l.map Ac)):=by
 refine Spec.of (nt:=8) (res:=[.tmp 2]) Tryz.func154 rfl (by kernel_rfl) rfl rfl rfl λSf=>?_
 (repeat first|(refine AOps.gN ?_;first|refine AOps.isNil λb hb=>?_)|refine WK ?_|refine Ai λX=>?_|refine Ay λY=>?_);refine AWP.cond rfl (λhc=>?_) (λhc=>?_)
 ·rw[hb hc]
  (repeat first|refine WK ?_|refine Ai λX=>?_|refine Ay λY=>?_);refine RT ?_;exact⟨[.prim (.slice none 0 0)],[.lst true 32 2 []],_,[],.cons (.tmp rfl) rfl .nil,.cons (.cell .nil) .nil,by exact Sub.f,rfl,rfl⟩
 ·have hl':(0+(l.map Ac).length)*16<=140737488355328:=by simpa using hl
  clear hl;(repeat first|(refine AOps.gN ?_;first|(refine AOps.g_lit ?_;refine KV λK=>?_))|refine WK ?_|refine Ai λX=>?_|refine Ay λY=>?_);refine RT ?_;exact⟨[.sl Y 0 (0+(l.map Ac).length)],[.lst true 32 2 (l.map Ac)],_,[],.cons (.tmp rfl) rfl .nil,.cons (.cell (.sl (p:=0) .here (by simp))) .nil,by exact Sub.f,rfl,rfl⟩
theorem L3(S:List AA):∀b:List Int,Lds S (b.map iA) (b.map iA)
 |[]=>.nil
 |x::b=>.cons (show Ld S (iA x) (iA x)from .frz (a:=iA x)) (L3 S b)
theorem MF(S:List AA):∀b:List Ent,Lds S (b.map Ac) (b.map Ac)
 |[]=>.nil
 |x::b=>.cons (show Ld S (Ac x) (Ac x)from .frz (a:=Ac x)) (MF S b)
theorem JD(X:Nat)(l:List Int)(n:Nat)(hn:n=l.length)(hl:l.length*8<=140737488355328):Spec Tryz.prog 58 [.sl X 0 n] [(X,.row 3 1 (l.map iA))] λr S'=>r= .lst true 3 1 (l.map iA)/\S'=[(X,.row 3 1 (l.map iA))]:=by
 subst hn;refine PS.lend (Fc l hl) (by show Bn _=true;rw[Ii (λ_=>rfl)]) (.cons (.sl .here (by simp) ?_) .nil);rw[List.drop_zero,List.take_of_length_le (by simp)];exact L3 _ _
theorem NM(X:Nat)(l:List Ent)(n:Nat)(hn:n=l.length)(hl:l.length*16<=140737488355328):Spec Tryz.prog 154 [.sl X 0 n] [(X,.row 32 2 (l.map Ac))] λr S'=>r= .lst true 32 2 (l.map Ac)/\S'=[(X,.row 32 2 (l.map Ac))]:=by
 subst hn;refine PS.lend (PC l hl) (by show Bn _=true;rw[Ii (λ_=>rfl)]) (.cons (.sl .here (by simp) ?_) .nil);rw[List.drop_zero,List.take_of_length_le (by simp)];exact MF _ _
abbrev Gi(l:List Ent):AV:=.lst false 32 2 (l.map Ac)
theorem Rx(k:StK)(l:List (Int×Ent))(hl:ColOK l):Spec Tryz.prog 74 [.ptr k.X 0 0] (stE k l) λr S'=>r= .fn 155 [.fp [AW false (AF l)],.fp [Gi (l.map (·.2))]]/\S'=stE k l:=by
 have hlen:=hl.len;have h1:=JD k.R (AF l) l.length (by simp) (by rw[List.length_map];omega);have h2:=NM k.V (l.map (·.2)) l.length (by simp) (by rw[List.length_map];omega);have e1:(AF l).map iA=l.map λe=>iA e.1:=List.map_map
 have e2:(l.map (·.2)).map Ac=l.map λe=>Ac e.2:=List.map_map
 rw[e1]at h1;rw[e2]at h2;refine Spec.of (nt:=16) (res:=[.tmp 2]) Tryz.func74 rfl (by kernel_rfl) rfl rfl rfl λSf=>?_
 refine RG ?_;(repeat first|refine WO ?_|refine Ai λX=>?_|refine Ay λY=>?_);refine NL ?_;refine FL ?_;refine AWP.rs λA=>AWP.rs λB=>?_
 refine RU ?_;(repeat first|(refine RGo.gN ?_;first|(refine RGo.g_callf ?_;first|refine FM (h:=h1) (hT:=.fz) (k:=?_)|refine FM (h:=h2) (hT:=.fz) (k:=?_)))|(refine RGo.gQ ?_;first|(refine RGo.g_callf ?_;first|refine FM (h:=h1) (hT:=.fz) (k:=?_)|refine FM (h:=h2) (hT:=.fz) (k:=?_)))|refine RK ?_|refine RGo.nil (by kernel_rfl) ?_);refine FL ?_;refine AWP.iceP [3] .here ?_ (by intro d hd;simp only[List.mem_singleton]at hd;subst hd;rfl);refine AWP.iceP [4] (.next .here) ?_ (by intro d hd;simp only[List.mem_singleton]at hd;subst hd;rfl);refine RG ?_;(repeat first|refine WO ?_|refine Ai λX=>?_|refine Ay λY=>?_);refine NL ?_;have er:AV.fn 155 [.fp [AW false (AF l)],.fp [Gi (l.map (·.2))]]=AV.fn 155 [.fp [.lst false 3 1 (l.map λe=>iA e.1)],.fp [.lst false 32 2 (l.map λe=>Ac e.2)]]:=by rw[AW,Gi,e1,e2]
 rw[er];refine RT ?_;exact AQ [AV.fn 155 [.fp [.lst false 3 1 (l.map λe=>iA e.1)],.fp [.lst false 32 2 (l.map λe=>Ac e.2)]]] (stE k l) ⟨rfl,rfl⟩
theorem Qf(ks:List Int)(es:List Ent)(hl:ks.length=es.length)(h0:ks.length<=1099511627776):Itr Tryz.prog 155 [.fp [AW false ks],.fp [Gi es]] ((ks.zip es).map λq=>[iA q.1,Ac q.2]):=by
 have hkm:(ks.map iA).length=ks.length:=List.length_map _;have hem:(es.map Ac).length=es.length:=List.length_map _;refine⟨by kernel_rfl,λy J Jx hY Sl hJ0=>?_⟩;refine Spec.of (nt:=22) (res:=[]) Tryz.func155 rfl (by kernel_rfl) rfl rfl rfl λSf=>?_
 refine RG ?_;(repeat first|refine WO ?_|refine Ai λX=>?_|refine Ay λY=>?_);refine NL ?_;refine FL ?_;refine BH (λ(i:Nat) (Sl:List AA)=>⟨[(0,.prim y),(2,.fp [Gi es]),(6,AW false ks),(7,iA (ks.map iA).length),(8,iA i)],Sl++Sf⟩) (λi Sl=>i<=ks.length/\J i Sl) (λi _=>ks.length-i) 0 Sl ⟨Nat.zero_le _,hJ0⟩ ?_;rintro i Sl ⟨hi,hJ⟩;refine RG ?_;(repeat first|refine WO ?_|refine Ai λX=>?_|refine Ay λY=>?_);refine NL ?_;refine FL ?_;refine AWP.cond rfl (λhc=>?_) (λhc=>?_)
 ·have h:i<ks.length:=by rw[decide_eq_true_eq,hkm]at hc;omega
  have he:i<es.length:=by omega
  have hat:(ks.map iA)[i]?=some (iA ks[i]):=Am _ h;have hil:i<(ks.map iA).length:=by omega
  have hat2:(es.map Ac)[i]?=some (Ac es[i]):=Am _ he;have hil2:i<(es.map Ac).length:=by omega
  have hyi:((ks.zip es).map λq=>[iA q.1,Ac q.2])[i]?=some [iA ks[i],Ac es[i]]:=by
   rw[List.getElem?_map,List.getElem?_eq_getElem (by rw[List.length_zip];omega),List.getElem_zip];rfl
  obtain⟨k,hk⟩:∃k,ks[i]=k:=⟨_,rfl⟩;obtain⟨e,hee⟩:∃e,es[i]=e:=⟨_,rfl⟩;rw[hk]at hat hyi;rw[hee]at hat2 hyi;refine FL ?_;refine RG ?_;(repeat first|refine WO ?_|refine Ai λX=>?_|refine Ay λY=>?_);refine NL ?_;refine FL ?_;refine RG ?_;(repeat first|refine WO ?_|refine Ai λX=>?_|refine Ay λY=>?_);refine MW (Si:=[]) hY hJ hyi (λSl' hk=>?_) (λSl' hk=>?_)
  ·(repeat first|refine WO ?_|refine Ai λX=>?_|refine Ay λY=>?_)
   refine AOps.nil ?_;refine FL ?_;refine AE rfl rfl ?_;(repeat first|refine WK ?_|refine Ai λX=>?_|refine Ay λY=>?_);refine Ae (i+1) Sl' ⟨h,hk⟩
  ·(repeat first|refine WO ?_|refine Ai λX=>?_|refine Ay λY=>?_)
   refine AOps.nil ?_;refine FL ?_;refine AU rfl rfl ?_;(repeat first|refine WK ?_|refine Ai λX=>?_|refine Ay λY=>?_);refine RT ?_;exact Au Sl' (.inr hk)
 ·have h:i=ks.length:=by rw[decide_eq_false_iff_not,hkm]at hc;omega
  subst h;(repeat first|refine WK ?_|refine Ai λX=>?_|refine Ay λY=>?_);refine CT ?_;exact Au Sl (.inl (by rw[List.length_map,List.length_zip,<-hl,Nat.min_self];exact hJ))
theorem NG(a b c d:Int)(w:World):(binOp .neq 32 (.agg [Value.int .i64 a,Value.int .i64 b].toArray) (.agg [Value.int .i64 c,Value.int .i64 d].toArray)).run Tryz.prog w= .ok (.bool (!(decide (a=c)&&decide (b=d)))) w:=by
 have h:=Ro (P:=Tryz.prog) (t:=32) 9998 (by kernel_rfl) (by kernel_rfl) (by kernel_rfl) a b c d w;rw[run_neq_struct];have e:(Op.equalIn 10000 32 (.agg [Value.int .i64 a,Value.int .i64 b].toArray) (.agg [Value.int .i64 c,Value.int .i64 d].toArray)).run Tryz.prog w=_:=h;rw[e,Result.andThen_ok]
theorem NF(a b:Ent):(!(decide (a.n=b.n)&&decide (a.gen=b.gen)))=decide (a≠b):=by
 cases a;cases b;simp only[ne_eq,Ent.mk.injEq];rw[decide_not,Bool.decide_and]
def Br(a b:Item)(n:Int)(i:Nat):List Mark:=(if a.ent≠b.ent then[(⟨n,-1,0⟩:Mark)]else[])++GY a b n i
theorem IN(a b:Item)(n:Int)(i:Nat):(Br a b n i).length<=i+1:=by
 unfold Br GY;rw[List.length_append,List.length_map];have:=List.length_filter_le (λ(k:Nat)=>KG a b k) (List.range i);rw[List.length_range]at this;split<;>simp<;>omega
theorem LJ(a b:Item)(n:Int)(i:Nat):Br a b n (i+1)=if KG a b i then Br a b n i++[⟨n,i,0⟩]else Br a b n i:=by
 unfold Br GY;rw[List.range_succ,List.filter_append,List.map_append,<-List.append_assoc];by_cases h:KG a b i=true
 ·rw[if_pos h,List.filter_cons,if_pos h];rfl
 ·rw[if_neg h,List.filter_cons,if_neg h];simp
set_option maxRecDepth 8000 in
theorem Lm(a b:Item)(n:Int)(ha:CsL a.comps)(hb:CsL b.comps):PS Tryz.prog 82 [AD false a,AD false b,iA n] (DS true (D1 a b n)):=by
 refine Spec.of (nt:=61) (res:=[.tmp 6]) Tryz.func82 rfl (by kernel_rfl) rfl rfl rfl λSf=>?_
 refine RG ?_;(repeat first|(refine AOps.gN ?_;first|(refine AOps.g_box ?_;refine BT ?_))|refine WO ?_|refine Ai λX=>?_|refine Ay λY=>?_);refine NL ?_;refine FL ?_;refine RG ?_;(repeat first|refine WO ?_|refine Ai λX=>?_|refine Ay λY=>?_);refine NL ?_;refine FL ?_;refine AWP.adopt (d:=7) 58 3 rfl λO=>?_
 refine RG ?_;(repeat first|(refine AOps.gN ?_;first|refine AOps.go (h:=W.neP _ _ (by kernel_rfl) (NG a.ent.n a.ent.gen b.ent.n b.ent.gen) rfl rfl) (k:=?_))|refine WO ?_|refine Ai λX=>?_|refine Ay λY=>?_);refine NL ?_;rw[NF];refine Ag (λO:Nat=>True) (λO=>⟨[(2,iA n),(3,.fp (AD false a).cells),(4,.fp (AD false b).cells),(7,.sl O 0 (Br a b n 0).length)],(O,.row 58 3 ((Br a b n 0).map AC))::Sf⟩) ?_ ?_
 ·refine AWP.cond rfl (λhc=>?_) (λhc=>?_)
  ·have hc:=of_decide_eq_true hc
   have h0:Br a b n 0=[⟨n,-1,0⟩]:=by unfold Br GY;rw[if_pos hc];rfl
   rw[h0];refine FL ?_;have hb1:([]:List AV).length+1<=1099511627776:=by decide
   refine RG ?_;(repeat first|(refine AOps.gN ?_;first|(refine AOps.g_lit ?_;refine AOps.goL (AC ⟨n,-1,0⟩) ?_))|refine WO ?_|refine Ai λX=>?_|refine Ay λY=>?_);refine NL ?_;exact jn Y trivial
  ·have hc:=of_decide_eq_false hc
   have h0:Br a b n 0=[]:=by unfold Br GY;rw[if_neg hc];rfl
   rw[h0];refine FL ?_;exact jn O trivial
 rintro O _;refine FL ?_;refine RG ?_;(repeat first|refine WO ?_|refine Ai λX=>?_|refine Ay λY=>?_);refine NL ?_;refine FL ?_;refine BH (λ(i O:Nat)=>⟨[(2,iA n),(3,.fp (AD false a).cells),(4,.fp (AD false b).cells),(7,.sl O 0 (Br a b n i).length),(21,iA i)],(O,.row 58 3 ((Br a b n i).map AC))::Sf⟩) (λi _=>i<=16) (λi _=>16-i) 0 O (Nat.zero_le _) ?_;rintro i O hi;refine RG ?_;(repeat first|refine WO ?_|refine Ai λX=>?_|refine Ay λY=>?_);refine NL ?_;refine FL ?_;refine AWP.cond rfl (λhc=>?_) (λhc=>?_)
 ·have h:i<16:=by rw[decide_eq_true_eq]at hc;omega
  have hca:=HY a i ha.1;have hcb:=HY b i hb.1;have hnx:=LJ a b n i;have hln:=IN a b n i;have hsc:=Ke (CJ a i) (CJ b i) ⟨by have:=O8 a i;omega,λc hc=>ha.2 c (O7 hc)⟩
  have hd:KG a b i=(decide ((CJ a i).length≠(CJ b i).length)||(decide ((CJ a i).length=1)&&(decide (a.ent≠b.ent)|| !decide (CJ a i=CJ b i)))):=by
   unfold KG;rw[decide_not (p:=CJ a i=CJ b i)]
  rw[hd]at hnx;obtain⟨x,hx⟩:∃x,CJ a i=x:=⟨_,rfl⟩;obtain⟨y,hy⟩:∃y,CJ b i=y:=⟨_,rfl⟩;rw[hx]at hca hsc hnx;rw[hy]at hcb hsc hnx;refine FL ?_;refine RG ?_;(repeat first|refine WO ?_|refine Ai λX=>?_|refine Ay λY=>?_);refine NL ?_;refine FL ?_;refine RU ?_;(repeat first|(refine RGo.gN ?_;first|(refine RGo.g_callf ?_;first|refine RGo.c2 (h:=(hca ..)) (k:=?_)|refine RGo.c2 (h:=(hcb ..)) (k:=?_)))|(refine RGo.gQ ?_;first|(refine RGo.g_callf ?_;first|refine RGo.c2 (h:=(hca ..)) (k:=?_)|refine RGo.c2 (h:=(hcb ..)) (k:=?_)))|refine RK ?_|refine RGo.nil (by kernel_rfl) ?_);have hxm:(x.map (AG false)).length=x.length:=List.length_map _;have hym:(y.map (AG false)).length=y.length:=List.length_map _;have hcl:((Br a b n i).map AC).length=(Br a b n i).length:=List.length_map _;refine Az ?_;refine AWP.seq ?_;refine Ag (λq:Bool=>q=(decide (x.length≠y.length)||decide (x.length=1)&&(decide (a.ent≠b.ent)|| !decide (x=y)))) (λq=>⟨[(2,iA n),(3,.fp (AD false a).cells),(4,.fp (AD false b).cells),(7,.sl O 0 (Br a b n i).length),(8,iA i),(21,iA i),(52,bA q)],(O,.row 58 3 ((Br a b n i).map AC))::Sf⟩) ?_ ?_
  ·cases g1:decide (((x.map (AG false)).length:Int)≠((y.map (AG false)).length:Nat))with
   |true=>
    refine RG ?_;(repeat first|(refine AOps.gQ ?_;first|refine AOps.goNU ?_|refine AOps.goNV ?_)|refine WO ?_|refine Ai λX=>?_|refine Ay λY=>?_);refine NL ?_;have e1:x.length≠y.length:=by have:=of_decide_eq_true g1;omega
    exact jn true (by rw[decide_eq_true e1];rfl)
   |false=>
    have e1:¬x.length≠y.length:=by have:=of_decide_eq_false g1;omega
    cases g2:decide (((x.map (AG false)).length:Int)=1)with
    |false=>
     refine RG ?_;(repeat first|(refine AOps.gQ ?_;first|refine AOps.goNU ?_|refine AOps.goNV ?_)|refine WO ?_|refine Ai λX=>?_|refine Ay λY=>?_);refine NL ?_;have e2:¬x.length=1:=by have:=of_decide_eq_false g2;omega
     exact jn false (by rw[decide_eq_false e1,decide_eq_false e2];rfl)
    |true=>
     have e2:x.length=1:=by have:=of_decide_eq_true g2;omega
     cases g3:(!(decide (a.ent.n=b.ent.n)&&decide (a.ent.gen=b.ent.gen)))with
     |true=>
      refine RG ?_;(repeat first|(refine AOps.gN ?_;first|refine AOps.go (h:=W.neP _ _ (by kernel_rfl) (NG a.ent.n a.ent.gen b.ent.n b.ent.gen) rfl rfl) (k:=?_))|(refine AOps.gQ ?_;first|refine AOps.goNU ?_|refine AOps.goNV ?_)|refine WO ?_|refine Ai λX=>?_|refine Ay λY=>?_);refine NL ?_;rw[NF]at g3;exact jn true (by rw[decide_eq_false e1,decide_eq_true e2,g3];rfl)
     |false=>
      obtain⟨q,hq⟩:∃q,decide (x=y)=q:=⟨_,rfl⟩;rw[hq]at hsc⊢;refine RG ?_;(repeat first|(refine AOps.gN ?_;first|(refine AOps.g_callf ?_;first|refine AOps.c2 (h:=(hsc ..)) (k:=?_))|refine AOps.go (h:=W.neP _ _ (by kernel_rfl) (NG a.ent.n a.ent.gen b.ent.n b.ent.gen) rfl rfl) (k:=?_))|refine WO ?_|refine Ai λX=>?_|refine Ay λY=>?_);refine NL ?_;rw[NF]at g3;exact jn (!q) (by rw[decide_eq_false e1,decide_eq_true e2,g3];cases q<;>rfl)
  rintro q hq;rw[<-hq]at hnx;cases q with
  |true=>
   rw[if_pos rfl]at hnx;refine AU rfl rfl ?_;refine FL ?_;have hb1:((Br a b n i).map AC).length+1<=1099511627776:=by omega
   have hm1:(Br a b n i).map AC++[AC ⟨n,i,0⟩]=(Br a b n (i+1)).map AC:=by rw[hnx,List.map_append];rfl
   have hm2:(Br a b n i).length+[AC ⟨n,i,0⟩].length=(Br a b n (i+1)).length:=by rw[hnx,List.length_append];rfl
   refine RG ?_;(repeat first|(refine AOps.gN ?_;first|(refine AOps.g_lit ?_;refine AOps.goL (AC ⟨n,i,0⟩) ?_))|refine WO ?_|refine Ai λX=>?_|refine Ay λY=>?_);refine NL ?_;dsimp only[AR,List.set_cons_zero,List.set_cons_succ,List.cons_append,List.nil_append];rw[hm1,hm2];refine FL ?_;refine RG ?_;(repeat first|refine WO ?_|refine Ai λX=>?_|refine Ay λY=>?_);refine NL ?_;exact Ae (i+1) Y h (by omega)
  |false=>
   rw[if_neg (by simp)]at hnx;refine AE rfl rfl ?_;rw[<-hnx];refine FL ?_;refine RG ?_;(repeat first|refine WO ?_|refine Ai λX=>?_|refine Ay λY=>?_);refine NL ?_;exact Ae (i+1) O h (by omega)
 ·have h:i=16:=by rw[decide_eq_false_iff_not]at hc;omega
  subst h;have h0:Br a b n 16=D1 a b n:=rfl;rw[h0];refine FL ?_;refine RG ?_;(repeat first|refine WO ?_|refine Ai λX=>?_|refine Ay λY=>?_);refine NL ?_;refine RT ?_;exact BZ [.sl O 0 (D1 a b n).length] [DS true (D1 a b n)] (.cons (.cell (.sl (p:=0) .here (by rw[List.length_map]))) .nil)
end Go.Proofs.YtiidbamlcgbpnaaGreat
