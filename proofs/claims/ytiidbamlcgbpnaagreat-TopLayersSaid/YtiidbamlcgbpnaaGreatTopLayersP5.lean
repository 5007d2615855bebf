/-
  Part 5 of the texts under the law TopLayers: the layer of abstract values, walks and plain laws. Conditions: those that each theorem names.
-/
import Derived.WalkKit
import Derived.Lib.Hide
import Derived.Deep.OwnRows
import Derived.Deep.Draws
import Derived.Test.YtiidbamlcgbpnaaGreatChecked
import Derived.ProofKit
import Derived.OpenShut
import Derived.ShutString
import Derived.ChangeOld
import Derived.Below
import Derived.SizedLaws
import Derived.Deep.Slices
import Derived.Deep.Fields
import Derived.ChangeSame
import Derived.Test.YtiidbamlcgbpnaaGreatProg
import Derived.Sort.AssemblyPlain
import Derived.Test.YtiidbamlcgbpnaaGreatTopLayersP4
namespace Go.Proofs.YtiidbamlcgbpnaaGreat
set_option linter.unusedVariables false
set_option linter.unusedSimpArgs false
set_option linter.defProp false
set_option maxRecDepth 10000
set_option maxHeartbeats 4000000
structure Field where
 name:List UInt8
 bits:Int
 low:Int
structure Kind where
 name:List UInt8
 fields:List Field
structure Ent where
 n:Int
 gen:Int
structure Comp where
 kind:Int
 vals:List Int
structure Item where
 ent:Ent
 comps:List Comp
structure Wd where
 kinds:List Kind
 gens:List Int
 items:List Item
structure Evt where
 sys:Int
 ent:Ent
 val:Int
structure Ref where
 kind:Int
 field:Int
structure Arg where
 has:Bool
 n:Int
 ref:Ref
structure Op where
 act:Int
 to:Ref
 a:Arg
 b:Arg
structure Sys where
 name:List UInt8
 wth:List Int
 wout:List Int
 reads:List Int
 writes:List Int
 ops:List Op
 spawn:List Comp
instance:DecidableEq Field:=λa b=>decidable_of_iff (a.name=b.name/\a.bits=b.bits/\a.low=b.low) (by cases a;cases b;simp)
instance:DecidableEq Kind:=λa b=>decidable_of_iff (a.name=b.name/\a.fields=b.fields) (by cases a;cases b;simp)
instance:DecidableEq Ent:=λa b=>decidable_of_iff (a.n=b.n/\a.gen=b.gen) (by cases a;cases b;simp)
instance:DecidableEq Comp:=λa b=>decidable_of_iff (a.kind=b.kind/\a.vals=b.vals) (by cases a;cases b;simp)
instance:Inhabited Comp:=⟨⟨default,default⟩⟩
instance:DecidableEq Item:=λa b=>decidable_of_iff (a.ent=b.ent/\a.comps=b.comps) (by cases a;cases b;simp)
instance:DecidableEq Wd:=λa b=>decidable_of_iff (a.kinds=b.kinds/\a.gens=b.gens/\a.items=b.items) (by cases a;cases b;simp)
instance:DecidableEq Ref:=λa b=>decidable_of_iff (a.kind=b.kind/\a.field=b.field) (by cases a;cases b;simp)
def I64(x:Int):Prop:=-9223372036854775808<=x/\x<=9223372036854775807
section
open Go.RowKit
abbrev Reg:=Nat->Prop
def Lt(w:World):Reg:=λb=>b<w.heap.size
def Xf(S:Reg)(w w':World):Prop:=∀b,S b->w'.heap[b]?=w.heap[b]?
section
variable {w w' w'':World}{S T:Reg}
theorem bel{n m:Nat}{a b c:World}(h:Below n a b)(k:Below m b c)(hm:n<=m):Below n a c:=h.trans (k.mono hm)
def Row(w:World)(S:Reg)(sz:Nat)(v:Value)(n:Nat)(xs:List Value):Prop:=
 xs.length=n*sz/\∃A cap,v= .slice A n cap/\n<=cap/\(0<n->∃b off,A=some ⟨b,off,none⟩/\S b/\∀j u,xs[j]?=some u->w.cell? ⟨b,off+j,none⟩=some u)
variable {sz n:Nat}{v:Value}{xs:List Value}
theorem Row.nil(w:World)(S:Reg)(sz:Nat):Row w S sz (.slice none 0 0) 0 []:=⟨by simp,none,0,rfl,Nat.le_refl _,λh=>absurd h (by omega)⟩
end
def Cells{α:Type}(C:List Value->α->Prop)(sz:Nat):List Value->List α->Prop
 |xs,[]=>xs=[]
 |xs,x::l=>∃c ys,xs=c++ys/\c.length=sz/\C c x/\Cells C sz ys l
section
variable {α:Type}{C C':List Value->α->Prop}{sz:Nat}{xs ys:List Value}{l m:List α}
theorem Cells.nil:Cells C sz [] []:=rfl
theorem Cells.length(h:Cells C sz xs l):xs.length=l.length*sz:=by
 induction l generalizing xs with
 |nil=>have:xs=[]:=h;simp[this]
 |cons x l ih=>
  obtain⟨c,ys,rfl,h1,_,h3⟩:=h;simp[ih h3,h1,Nat.add_mul,Nat.add_comm]
end
def Sl{α:Type}(w:World)(S:Reg)(sz:Nat)(C:World->Reg->List Value->α->Prop)(v:Value)(l:List α):Prop:=
 ∃xs,Row w S sz v l.length xs/\Cells (C w S) sz xs l
section
variable {α:Type}{w w':World}{S T:Reg}{sz:Nat}{C:World->Reg->List Value->α->Prop}{v:Value}{l:List α}
theorem Sl.nil(w:World)(S:Reg)(sz:Nat)(C:World->Reg->List Value->α->Prop):Sl w S sz C (.slice none 0 0) []:=⟨[],Row.nil w S sz,.nil⟩
end
abbrev Wx(l:List UInt8):Value:=.string ⟨l.toArray⟩
def Xb(_:World)(_:Reg)(c:List Value)(x:Int):Prop:=c=[.int .i64 x]
def Wj(_:World)(_:Reg)(c:List Value)(f:Field):Prop:=c=[Wx f.name,.int .i64 f.bits,.int .i64 f.low]
abbrev Sx(w:World)(S:Reg)(v:Value)(l:List Int):Prop:=Sl w S 1 Xb v l
abbrev Fields(w:World)(S:Reg)(v:Value)(l:List Field):Prop:=Sl w S 3 Wj v l
def XC(w:World)(S:Reg)(c:List Value)(k:Kind):Prop:=∃vf,c=[Wx k.name,vf]/\Fields w S vf k.fields
abbrev Xd(w:World)(S:Reg)(v:Value)(l:List Kind):Prop:=Sl w S 2 XC v l
def XK(w:World)(S:Reg)(c:List Value)(x:Comp):Prop:=∃v,c=[.int .i64 x.kind,v]/\Sx w S v x.vals
abbrev XY(w:World)(S:Reg)(v:Value)(l:List Comp):Prop:=Sl w S 2 XK v l
def XD(w:World)(S:Reg)(c:List Value)(x:Item):Prop:=∃v,c=[.int .i64 x.ent.n,.int .i64 x.ent.gen,v]/\XY w S v x.comps
abbrev Xe(w:World)(S:Reg)(v:Value)(l:List Item):Prop:=Sl w S 3 XD v l
section
variable {w w':World}{S T:Reg}{v:Value}
variable {A:Option Addr}{n cap i:Nat}
end
section
variable {α:Type}{w w':World}{base:Nat}{e:TypeId}{S T:Reg}{sz:Nat}{C:World->Reg->List Value->α->Prop}{v:Value}{l:List α}
end
section
variable {w w':World}{b:Nat}{e:TypeId}{l:List Int}
end
section
variable {w w':World}{g:Nat}{t:TypeId}{cs:Array Value}
end
end
section
open Go.ChangeShapes Go.WideShapes Go.ChangeAt Go.RowKit Go.Deep
theorem Wv{x:Int}(h:(Lit.int .i64 x).wf=true):I64 x:=by
 have:=h;simp[Lit.wf,IntKind.min,IntKind.max,IntKind.signed,IntKind.bits]at this;unfold I64;omega
theorem Vf{α:Type}{sz:Nat}{cs:α->List Value}{f:Nat->Option Value}(hcs:∀x,(cs x).length=sz):∀(l:List α) (off:Nat),(∀i (hi:i<l.length) j u,(cs l[i])[j]?=some u->f (off+(i*sz+j))=some u)->
  ∀j u,(l.flatMap cs)[j]?=some u->f (off+j)=some u:=by
 intro l
 induction l with
 |nil=>intro off _ j u h;simp at h
 |cons x l ih=>
  intro off h j u hj;rw[List.flatMap_cons]at hj;rcases Nat.lt_or_ge j sz with hlt|hge
  ·rw[List.getElem?_append_left (by rw[hcs];exact hlt)]at hj
   have:=h 0 (by simp) j u hj;simpa using this
  ·rw[List.getElem?_append_right (by rw[hcs];exact hge),hcs]at hj
   have:=ih (off+sz) (λi hi j u hu=>by
    have:=h (i+1) (by simp;omega) j u hu;rwa[Nat.add_mul,Nat.one_mul,show off+(i*sz+sz+j)=off+sz+(i*sz+j) by omega]at this) (j-sz) u hj
   rwa[show off+sz+(j-sz)=off+j by omega]at this
theorem LK{α:Type}{sz:Nat}{cs:α->List Value}{C:List Value->α->Prop}(hcs:∀x,(cs x).length=sz)(hC:∀x,C (cs x) x)(l:List α):Cells C sz (l.flatMap cs) l:=by
 induction l with
 |nil=>rfl
 |cons x l ih=>exact⟨cs x,l.flatMap cs,by rw[List.flatMap_cons],hcs x,hC x,ih⟩
theorem N7{α:Type}{w:World}{sz:Nat}{C:World->Reg->List Value->α->Prop}{a:Addr}{n cap:Nat}{l:List α}{cs:α->List Value}(hn:n<=cap)(hl:l.length=n)(hsz:0<sz)(hcs:∀x,(cs x).length=sz)(hC:∀x,C w (Lt w) (cs x) x)
  (hcell:∀i (hi:i<l.length) j u,(cs l[i])[j]?=some u->w.cell? (a.add (i*sz+j))=some u):Sl w (Lt w) sz C (.slice (some a) n cap) l:=by
 subst hl;refine⟨l.flatMap cs,⟨?_,some a,cap,rfl,hn,λh0=>?_⟩,LK hcs hC l⟩
 ·have:=(LK (C:=λ_ _=>True) hcs (λ_=>trivial) l).length
  exact this
 ·obtain⟨b,off,spot⟩:=a
  have h1:∃u,(cs l[0])[0]?=some u:=⟨_,AE (by rw[hcs];exact hsz)⟩;obtain⟨u,hu⟩:=h1;have h2:=hcell 0 h0 0 u hu;have hspot:spot=none:=by simpa[Addr.add]using World.cell?_spot h2
  subst hspot;refine⟨b,off,rfl,?_,?_⟩
  ·rw[Go.WideShapes.add_plain]at h2
   unfold World.cell? at h2;simp only at h2;show b<w.heap.size
   rcases Nat.lt_or_ge b w.heap.size with h|h
   ·exact h
   ·rw[Array.getElem?_eq_none h]at h2
    cases h2
  ·refine Vf (f:=λk=>w.cell? ⟨b,k,none⟩) hcs l off λi hi j u hu=>?_
   have:=hcell i hi j u hu;rwa[Go.WideShapes.add_plain]at this
section
variable {H:Type}{enc:TypeId×Value->H}{w:World}{a:Option Addr}{len cap:Nat}{d:DataW H}{p:List MemPlace}
theorem XE(h:DataW.Trod enc Tryz.prog w 0 (λ_=>true) true 22 (.slice a len cap) d p):
  ∃z:List Int,Sx w (Lt w) (.slice a len cap) z/\(z=[]\/∃elems spare,d= .slice elems spare/\z.length<=elems.length+spare.length):=by
 obtain⟨fuel,hf⟩:=h;rcases open_slice Tryz.underlying22 hf with⟨hcs,_⟩|⟨x,l,c,m,n,D,Pl,hcs,hb,hl,hm,hmm,hx,hi⟩
 ·simp[Value.cells]at hcs
  obtain⟨rfl,rfl,rfl⟩:=hcs;exact⟨[],Sl.nil _ _ _ _,.inl rfl⟩
 ·simp[Value.cells]at hcs
  obtain⟨rfl,rfl,rfl⟩:=hcs;have hlm:len<=m:=by rw[hmm];split<;>omega
  have hex:∀i,∃e:Int,i<len->∀j u,([Value.int .i64 e])[j]?=some u->w.cell? (x.add (i*1+j))=some u:=by
   intro i;by_cases hil:i<len
   ·obtain⟨cs',hc,ht⟩:=hi i (by omega)
    rw[show Tryz.prog.cellsOf 3=1 from by kernel_rfl]at hc;obtain⟨_,hcl,hat⟩:=World.cells?_some hc;obtain⟨k,rfl,_⟩:=DataW.trod_int Tryz.underlying3 ht;refine⟨k,λ_ j u hu=>?_⟩
    have hj:j=0:=by
     have:=(List.getElem?_eq_some_iff.1 hu).1;simp at this;omega
    subst hj;have:=hat 0 (by omega);rw[Go.Deep.add_add]at this;rw[this,hu]
   ·exact⟨0,λh=>absurd h hil⟩
  obtain⟨f,hf'⟩:=Classical.axiomOfChoice hex;refine⟨(List.range len).map f,N7 (cs:=λe=>[Value.int .i64 e]) hl (by simp) (by omega) (λ_=>rfl) (λ_=>rfl) (λi hi' j u hu=>?_),.inr ⟨_,_,(Prod.mk.inj hx).1,by simp⟩⟩;simp only[AB,List.length_range]at hi';exact hf' i hi' j u (by simpa using hu)
end
end
instance tAg3:TAg Tryz.prog 3 false:=⟨by kernel_rfl⟩
instance tSize3:TSize Tryz.prog 3 1:=⟨by kernel_rfl⟩
instance tZe3:TZe Tryz.prog 3 [.int .i64 0]:=⟨by kernel_rfl⟩
instance tBy3:TBy Tryz.prog 3 8:=⟨by kernel_rfl⟩
instance tAg4:TAg Tryz.prog 4 false:=⟨by kernel_rfl⟩
instance tSize4:TSize Tryz.prog 4 1:=⟨by kernel_rfl⟩
instance tZe4:TZe Tryz.prog 4 [.bool false]:=⟨by kernel_rfl⟩
instance tBy4:TBy Tryz.prog 4 1:=⟨by kernel_rfl⟩
instance tAg9:TAg Tryz.prog 9 false:=⟨by kernel_rfl⟩
instance tSize9:TSize Tryz.prog 9 1:=⟨by kernel_rfl⟩
instance tZe9:TZe Tryz.prog 9 [.string ByteArray.empty]:=⟨by kernel_rfl⟩
instance tSg9:TSg Tryz.prog 9:=⟨by kernel_rfl⟩
instance tAg22:TAg Tryz.prog 22 false:=⟨by kernel_rfl⟩
instance tSize22:TSize Tryz.prog 22 1:=⟨by kernel_rfl⟩
instance tZe22:TZe Tryz.prog 22 [.slice none 0 0]:=⟨by kernel_rfl⟩
instance tEl22:TEl Tryz.prog 22 3:=⟨by kernel_rfl⟩
instance tRo22:TRo Tryz.prog 22 3 1 8:=⟨by kernel_rfl⟩
instance tAg23:TAg Tryz.prog 23 false:=⟨by kernel_rfl⟩
instance tSize23:TSize Tryz.prog 23 1:=⟨by kernel_rfl⟩
instance tEl23:TEl Tryz.prog 23 118:=⟨by kernel_rfl⟩
instance tRo23:TRo Tryz.prog 23 118 2 40:=⟨by kernel_rfl⟩
instance tAg24:TAg Tryz.prog 24 false:=⟨by kernel_rfl⟩
instance tSize24:TSize Tryz.prog 24 1:=⟨by kernel_rfl⟩
instance tEl24:TEl Tryz.prog 24 71:=⟨by kernel_rfl⟩
instance tRo24:TRo Tryz.prog 24 71 3 40:=⟨by kernel_rfl⟩
instance tAg26:TAg Tryz.prog 26 true:=⟨by kernel_rfl⟩
instance tSize26:TSize Tryz.prog 26 3:=⟨by kernel_rfl⟩
instance tZe26:TZe Tryz.prog 26 [.slice none 0 0,.slice none 0 0,.slice none 0 0]:=⟨by kernel_rfl⟩
instance tFl26_0:TFl Tryz.prog 26 0 0 23:=⟨by kernel_rfl⟩
instance tFl26_1:TFl Tryz.prog 26 1 1 22:=⟨by kernel_rfl⟩
instance tFl26_2:TFl Tryz.prog 26 2 2 24:=⟨by kernel_rfl⟩
instance tSt26:TSt Tryz.prog 26 [.slice none 0 0,.slice none 0 0,.slice none 0 0] [(0,1),(1,1),(2,1)]:=⟨by kernel_rfl⟩
instance tAg32:TAg Tryz.prog 32 true:=⟨by kernel_rfl⟩
instance tSize32:TSize Tryz.prog 32 2:=⟨by kernel_rfl⟩
instance tZe32:TZe Tryz.prog 32 [.int .i64 0,.int .i64 0]:=⟨by kernel_rfl⟩
instance tFl32_0:TFl Tryz.prog 32 0 0 3:=⟨by kernel_rfl⟩
instance tFl32_1:TFl Tryz.prog 32 1 1 3:=⟨by kernel_rfl⟩
instance tSt32:TSt Tryz.prog 32 [.int .i64 0,.int .i64 0] [(0,1),(1,1)]:=⟨by kernel_rfl⟩
instance tAg42:TAg Tryz.prog 42 true:=⟨by kernel_rfl⟩
instance tSize42:TSize Tryz.prog 42 2:=⟨by kernel_rfl⟩
instance tZe42:TZe Tryz.prog 42 [.int .i64 0,.slice none 0 0]:=⟨by kernel_rfl⟩
instance tBy42:TBy Tryz.prog 42 32:=⟨by kernel_rfl⟩
instance tFl42_0:TFl Tryz.prog 42 0 0 3:=⟨by kernel_rfl⟩
instance tFl42_1:TFl Tryz.prog 42 1 1 22:=⟨by kernel_rfl⟩
instance tSt42:TSt Tryz.prog 42 [.int .i64 0,.slice none 0 0] [(0,1),(1,1)]:=⟨by kernel_rfl⟩
instance tAg69:TAg Tryz.prog 69 false:=⟨by kernel_rfl⟩
instance tSize69:TSize Tryz.prog 69 1:=⟨by kernel_rfl⟩
instance tEl69:TEl Tryz.prog 69 42:=⟨by kernel_rfl⟩
instance tRo69:TRo Tryz.prog 69 42 2 32:=⟨by kernel_rfl⟩
instance tAg71:TAg Tryz.prog 71 true:=⟨by kernel_rfl⟩
instance tSize71:TSize Tryz.prog 71 3:=⟨by kernel_rfl⟩
instance tZe71:TZe Tryz.prog 71 [.int .i64 0,.int .i64 0,.slice none 0 0]:=⟨by kernel_rfl⟩
instance tBy71:TBy Tryz.prog 71 40:=⟨by kernel_rfl⟩
instance tFl71_0:TFl Tryz.prog 71 0 0 32:=⟨by kernel_rfl⟩
instance tFl71_1:TFl Tryz.prog 71 1 2 69:=⟨by kernel_rfl⟩
instance tSt71:TSt Tryz.prog 71 [.int .i64 0,.int .i64 0,.slice none 0 0] [(0,2),(2,1)]:=⟨by kernel_rfl⟩
instance tAg74:TAg Tryz.prog 74 false:=⟨by kernel_rfl⟩
instance tSize74:TSize Tryz.prog 74 1:=⟨by kernel_rfl⟩
instance tEl74:TEl Tryz.prog 74 195:=⟨by kernel_rfl⟩
instance tRo74:TRo Tryz.prog 74 195 11 88:=⟨by kernel_rfl⟩
instance tAg76:TAg Tryz.prog 76 true:=⟨by kernel_rfl⟩
instance tSize76:TSize Tryz.prog 76 7:=⟨by kernel_rfl⟩
instance tZe76:TZe Tryz.prog 76 [.string ByteArray.empty,.slice none 0 0,.slice none 0 0,.slice none 0 0,.slice none 0 0,.slice none 0 0,.slice none 0 0]:=⟨by kernel_rfl⟩
instance tFl76_0:TFl Tryz.prog 76 0 0 9:=⟨by kernel_rfl⟩
instance tFl76_1:TFl Tryz.prog 76 1 1 22:=⟨by kernel_rfl⟩
instance tFl76_2:TFl Tryz.prog 76 2 2 22:=⟨by kernel_rfl⟩
instance tFl76_3:TFl Tryz.prog 76 3 3 22:=⟨by kernel_rfl⟩
instance tFl76_4:TFl Tryz.prog 76 4 4 22:=⟨by kernel_rfl⟩
instance tFl76_5:TFl Tryz.prog 76 5 5 74:=⟨by kernel_rfl⟩
instance tFl76_6:TFl Tryz.prog 76 6 6 69:=⟨by kernel_rfl⟩
instance tSt76:TSt Tryz.prog 76 [.string ByteArray.empty,.slice none 0 0,.slice none 0 0,.slice none 0 0,.slice none 0 0,.slice none 0 0,.slice none 0 0] [(0,1),(1,1),(2,1),(3,1),(4,1),(5,1),(6,1)]:=⟨by kernel_rfl⟩
instance tAg79:TAg Tryz.prog 79 false:=⟨by kernel_rfl⟩
instance tSize79:TSize Tryz.prog 79 1:=⟨by kernel_rfl⟩
instance tZe79:TZe Tryz.prog 79 [.slice none 0 0]:=⟨by kernel_rfl⟩
instance tEl79:TEl Tryz.prog 79 159:=⟨by kernel_rfl⟩
instance tRo79:TRo Tryz.prog 79 159 5 56:=⟨by kernel_rfl⟩
instance tAg80:TAg Tryz.prog 80 false:=⟨by kernel_rfl⟩
instance tSize80:TSize Tryz.prog 80 1:=⟨by kernel_rfl⟩
instance tEl80:TEl Tryz.prog 80 86:=⟨by kernel_rfl⟩
instance tRo80:TRo Tryz.prog 80 86 4 32:=⟨by kernel_rfl⟩
instance tAg86:TAg Tryz.prog 86 true:=⟨by kernel_rfl⟩
instance tSize86:TSize Tryz.prog 86 4:=⟨by kernel_rfl⟩
instance tZe86:TZe Tryz.prog 86 [.int .i64 0,.int .i64 0,.int .i64 0,.int .i64 0]:=⟨by kernel_rfl⟩
instance tSt86:TSt Tryz.prog 86 [.int .i64 0,.int .i64 0,.int .i64 0,.int .i64 0] [(0,1),(1,2),(3,1)]:=⟨by kernel_rfl⟩
instance tAg88:TAg Tryz.prog 88 false:=⟨by kernel_rfl⟩
instance tSize88:TSize Tryz.prog 88 1:=⟨by kernel_rfl⟩
instance tZe88:TZe Tryz.prog 88 [.slice none 0 0]:=⟨by kernel_rfl⟩
instance tEl88:TEl Tryz.prog 88 76:=⟨by kernel_rfl⟩
instance tRo88:TRo Tryz.prog 88 76 7 160:=⟨by kernel_rfl⟩
instance tAg90:TAg Tryz.prog 90 false:=⟨by kernel_rfl⟩
instance tSize90:TSize Tryz.prog 90 1:=⟨by kernel_rfl⟩
instance tEl90:TEl Tryz.prog 90 22:=⟨by kernel_rfl⟩
instance tRo90:TRo Tryz.prog 90 22 1 24:=⟨by kernel_rfl⟩
instance tAg107:TAg Tryz.prog 107 false:=⟨by kernel_rfl⟩
instance tSize107:TSize Tryz.prog 107 1:=⟨by kernel_rfl⟩
instance tAg110:TAg Tryz.prog 110 false:=⟨by kernel_rfl⟩
instance tSize110:TSize Tryz.prog 110 1:=⟨by kernel_rfl⟩
instance tFl112_0:TFl Tryz.prog 112 0 0 22:=⟨by kernel_rfl⟩
instance tSt112:TSt Tryz.prog 112 [.slice none 0 0] [(0,1)]:=⟨by kernel_rfl⟩
instance tAg116:TAg Tryz.prog 116 false:=⟨by kernel_rfl⟩
instance tSize116:TSize Tryz.prog 116 1:=⟨by kernel_rfl⟩
instance tEl116:TEl Tryz.prog 116 120:=⟨by kernel_rfl⟩
instance tRo116:TRo Tryz.prog 116 120 3 32:=⟨by kernel_rfl⟩
instance tAg118:TAg Tryz.prog 118 true:=⟨by kernel_rfl⟩
instance tSize118:TSize Tryz.prog 118 2:=⟨by kernel_rfl⟩
instance tZe118:TZe Tryz.prog 118 [.string ByteArray.empty,.slice none 0 0]:=⟨by kernel_rfl⟩
instance tBy118:TBy Tryz.prog 118 40:=⟨by kernel_rfl⟩
instance tFl118_0:TFl Tryz.prog 118 0 0 9:=⟨by kernel_rfl⟩
instance tFl118_1:TFl Tryz.prog 118 1 1 116:=⟨by kernel_rfl⟩
instance tSt118:TSt Tryz.prog 118 [.string ByteArray.empty,.slice none 0 0] [(0,1),(1,1)]:=⟨by kernel_rfl⟩
instance tAg120:TAg Tryz.prog 120 true:=⟨by kernel_rfl⟩
instance tSize120:TSize Tryz.prog 120 3:=⟨by kernel_rfl⟩
instance tZe120:TZe Tryz.prog 120 [.string ByteArray.empty,.int .i64 0,.int .i64 0]:=⟨by kernel_rfl⟩
instance tFl120_0:TFl Tryz.prog 120 0 0 9:=⟨by kernel_rfl⟩
instance tFl120_1:TFl Tryz.prog 120 1 1 3:=⟨by kernel_rfl⟩
instance tFl120_2:TFl Tryz.prog 120 2 2 3:=⟨by kernel_rfl⟩
instance tSt120:TSt Tryz.prog 120 [.string ByteArray.empty,.int .i64 0,.int .i64 0] [(0,1),(1,1),(2,1)]:=⟨by kernel_rfl⟩
instance tAg140:TAg Tryz.prog 140 false:=⟨by kernel_rfl⟩
instance tSize140:TSize Tryz.prog 140 1:=⟨by kernel_rfl⟩
instance tAg141:TAg Tryz.prog 141 false:=⟨by kernel_rfl⟩
instance tSize141:TSize Tryz.prog 141 1:=⟨by kernel_rfl⟩
instance tEl141:TEl Tryz.prog 141 145:=⟨by kernel_rfl⟩
instance tRo141:TRo Tryz.prog 141 145 1 8:=⟨by kernel_rfl⟩
instance tFl143_0:TFl Tryz.prog 143 0 0 23:=⟨by kernel_rfl⟩
instance tFl143_1:TFl Tryz.prog 143 1 1 22:=⟨by kernel_rfl⟩
instance tFl143_2:TFl Tryz.prog 143 2 2 141:=⟨by kernel_rfl⟩
instance tFl143_3:TFl Tryz.prog 143 3 3 140:=⟨by kernel_rfl⟩
instance tSt143:TSt Tryz.prog 143 [.slice none 0 0,.slice none 0 0,.slice none 0 0,.map none] [(0,1),(1,1),(2,1),(3,1)]:=⟨by kernel_rfl⟩
instance tAg145:TAg Tryz.prog 145 false:=⟨by kernel_rfl⟩
instance tSize145:TSize Tryz.prog 145 1:=⟨by kernel_rfl⟩
instance tZe145:TZe Tryz.prog 145 [.pointer none]:=⟨by kernel_rfl⟩
instance tAg148:TAg Tryz.prog 148 false:=⟨by kernel_rfl⟩
instance tSize148:TSize Tryz.prog 148 1:=⟨by kernel_rfl⟩
instance tAg149:TAg Tryz.prog 149 false:=⟨by kernel_rfl⟩
instance tSize149:TSize Tryz.prog 149 1:=⟨by kernel_rfl⟩
instance tEl149:TEl Tryz.prog 149 252:=⟨by kernel_rfl⟩
instance tRo149:TRo Tryz.prog 149 252 1 8:=⟨by kernel_rfl⟩
instance tFl151_0:TFl Tryz.prog 151 0 0 22:=⟨by kernel_rfl⟩
instance tFl151_1:TFl Tryz.prog 151 1 1 148:=⟨by kernel_rfl⟩
instance tFl151_2:TFl Tryz.prog 151 2 2 149:=⟨by kernel_rfl⟩
instance tSt151:TSt Tryz.prog 151 [.slice none 0 0,.pointer none,.slice none 0 0] [(0,1),(1,1),(2,1)]:=⟨by kernel_rfl⟩
instance tAg159:TAg Tryz.prog 159 true:=⟨by kernel_rfl⟩
instance tSize159:TSize Tryz.prog 159 5:=⟨by kernel_rfl⟩
instance tZe159:TZe Tryz.prog 159 [.int .i64 0,.int .i64 0,.int .i64 0,.int .i64 0,.slice none 0 0]:=⟨by kernel_rfl⟩
instance tFl159_0:TFl Tryz.prog 159 0 0 3:=⟨by kernel_rfl⟩
instance tFl159_1:TFl Tryz.prog 159 1 1 32:=⟨by kernel_rfl⟩
instance tFl159_2:TFl Tryz.prog 159 2 3 3:=⟨by kernel_rfl⟩
instance tFl159_3:TFl Tryz.prog 159 3 4 69:=⟨by kernel_rfl⟩
instance tSt159:TSt Tryz.prog 159 [.int .i64 0,.int .i64 0,.int .i64 0,.int .i64 0,.slice none 0 0] [(0,1),(1,2),(3,1),(4,1)]:=⟨by kernel_rfl⟩
instance tAg160:TAg Tryz.prog 160 false:=⟨by kernel_rfl⟩
instance tSize160:TSize Tryz.prog 160 1:=⟨by kernel_rfl⟩
instance tZe160:TZe Tryz.prog 160 [.slice none 0 0]:=⟨by kernel_rfl⟩
instance tEl160:TEl Tryz.prog 160 32:=⟨by kernel_rfl⟩
instance tRo160:TRo Tryz.prog 160 32 2 16:=⟨by kernel_rfl⟩
instance tAg179:TAg Tryz.prog 179 false:=⟨by kernel_rfl⟩
instance tSize179:TSize Tryz.prog 179 1:=⟨by kernel_rfl⟩
instance tZe179:TZe Tryz.prog 179 [.nilFunc]:=⟨by kernel_rfl⟩
instance tAg181:TAg Tryz.prog 181 false:=⟨by kernel_rfl⟩
instance tSize181:TSize Tryz.prog 181 1:=⟨by kernel_rfl⟩
instance tZe181:TZe Tryz.prog 181 [.pointer none]:=⟨by kernel_rfl⟩
instance tAg183:TAg Tryz.prog 183 true:=⟨by kernel_rfl⟩
instance tSize183:TSize Tryz.prog 183 2:=⟨by kernel_rfl⟩
instance tZe183:TZe Tryz.prog 183 [.int .u64 0,.int .u64 0]:=⟨by kernel_rfl⟩
instance tFl183_0:TFl Tryz.prog 183 0 0 107:=⟨by kernel_rfl⟩
instance tFl183_1:TFl Tryz.prog 183 1 1 107:=⟨by kernel_rfl⟩
instance tSt183:TSt Tryz.prog 183 [.int .u64 0,.int .u64 0] [(0,1),(1,1)]:=⟨by kernel_rfl⟩
instance tFl185_0:TFl Tryz.prog 185 0 0 23:=⟨by kernel_rfl⟩
instance tFl185_1:TFl Tryz.prog 185 1 1 76:=⟨by kernel_rfl⟩
instance tFl185_2:TFl Tryz.prog 185 2 8 71:=⟨by kernel_rfl⟩
instance tFl185_3:TFl Tryz.prog 185 3 11 183:=⟨by kernel_rfl⟩
instance tFl185_4:TFl Tryz.prog 185 4 13 79:=⟨by kernel_rfl⟩
instance tFl185_5:TFl Tryz.prog 185 5 14 80:=⟨by kernel_rfl⟩
instance tFl185_6:TFl Tryz.prog 185 6 15 3:=⟨by kernel_rfl⟩
instance tSt185:TSt Tryz.prog 185 [.slice none 0 0,.string ByteArray.empty,.slice none 0 0,.slice none 0 0,.slice none 0 0,.slice none 0 0,.slice none 0 0,.slice none 0 0,.int .i64 0,.int .i64 0,.slice none 0 0,.int .u64 0,.int .u64 0,.slice none 0 0,.slice none 0 0,.int .i64 0] [(0,1),(1,7),(8,3),(11,2),(13,1),(14,1),(15,1)]:=⟨by kernel_rfl⟩
instance tAg191:TAg Tryz.prog 191 true:=⟨by kernel_rfl⟩
instance tSize191:TSize Tryz.prog 191 2:=⟨by kernel_rfl⟩
instance tZe191:TZe Tryz.prog 191 [.int .i64 0,.int .i64 0]:=⟨by kernel_rfl⟩
instance tFl191_0:TFl Tryz.prog 191 0 0 3:=⟨by kernel_rfl⟩
instance tFl191_1:TFl Tryz.prog 191 1 1 3:=⟨by kernel_rfl⟩
instance tSt191:TSt Tryz.prog 191 [.int .i64 0,.int .i64 0] [(0,1),(1,1)]:=⟨by kernel_rfl⟩
instance tAg193:TAg Tryz.prog 193 true:=⟨by kernel_rfl⟩
instance tSize193:TSize Tryz.prog 193 4:=⟨by kernel_rfl⟩
instance tZe193:TZe Tryz.prog 193 [.bool false,.int .i64 0,.int .i64 0,.int .i64 0]:=⟨by kernel_rfl⟩
instance tFl193_0:TFl Tryz.prog 193 0 0 4:=⟨by kernel_rfl⟩
instance tFl193_1:TFl Tryz.prog 193 1 1 3:=⟨by kernel_rfl⟩
instance tFl193_2:TFl Tryz.prog 193 2 2 191:=⟨by kernel_rfl⟩
instance tSt193:TSt Tryz.prog 193 [.bool false,.int .i64 0,.int .i64 0,.int .i64 0] [(0,1),(1,1),(2,2)]:=⟨by kernel_rfl⟩
instance tAg195:TAg Tryz.prog 195 true:=⟨by kernel_rfl⟩
instance tSize195:TSize Tryz.prog 195 11:=⟨by kernel_rfl⟩
instance tZe195:TZe Tryz.prog 195 [.int .i64 0,.int .i64 0,.int .i64 0,.bool false,.int .i64 0,.int .i64 0,.int .i64 0,.bool false,.int .i64 0,.int .i64 0,.int .i64 0]:=⟨by kernel_rfl⟩
instance tFl195_0:TFl Tryz.prog 195 0 0 3:=⟨by kernel_rfl⟩
instance tFl195_1:TFl Tryz.prog 195 1 1 191:=⟨by kernel_rfl⟩
instance tFl195_2:TFl Tryz.prog 195 2 3 193:=⟨by kernel_rfl⟩
instance tFl195_3:TFl Tryz.prog 195 3 7 193:=⟨by kernel_rfl⟩
instance tSt195:TSt Tryz.prog 195 [.int .i64 0,.int .i64 0,.int .i64 0,.bool false,.int .i64 0,.int .i64 0,.int .i64 0,.bool false,.int .i64 0,.int .i64 0,.int .i64 0] [(0,1),(1,2),(3,4),(7,4)]:=⟨by kernel_rfl⟩
instance tAg197:TAg Tryz.prog 197 false:=⟨by kernel_rfl⟩
instance tSize197:TSize Tryz.prog 197 1:=⟨by kernel_rfl⟩
instance tZe197:TZe Tryz.prog 197 [.nilFunc]:=⟨by kernel_rfl⟩
instance tEl210:TEl Tryz.prog 210 79:=⟨by kernel_rfl⟩
instance tRo210:TRo Tryz.prog 210 79 1 24:=⟨by kernel_rfl⟩
instance tEl232:TEl Tryz.prog 232 9:=⟨by kernel_rfl⟩
instance tEl241:TEl Tryz.prog 241 4:=⟨by kernel_rfl⟩
instance tAg252:TAg Tryz.prog 252 false:=⟨by kernel_rfl⟩
instance tSize252:TSize Tryz.prog 252 1:=⟨by kernel_rfl⟩
instance tZe252:TZe Tryz.prog 252 [.pointer none]:=⟨by kernel_rfl⟩
instance tAg257:TAg Tryz.prog 257 false:=⟨by kernel_rfl⟩
instance tSize257:TSize Tryz.prog 257 1:=⟨by kernel_rfl⟩
instance tFl259_0:TFl Tryz.prog 259 0 0 160:=⟨by kernel_rfl⟩
instance tFl259_1:TFl Tryz.prog 259 1 1 22:=⟨by kernel_rfl⟩
instance tFl259_2:TFl Tryz.prog 259 2 2 257:=⟨by kernel_rfl⟩
instance tSt259:TSt Tryz.prog 259 [.slice none 0 0,.slice none 0 0,.map none] [(0,1),(1,1),(2,1)]:=⟨by kernel_rfl⟩
instance tAg281:TAg Tryz.prog 281 false:=⟨by kernel_rfl⟩
instance tSize281:TSize Tryz.prog 281 1:=⟨by kernel_rfl⟩
instance tZe281:TZe Tryz.prog 281 [.slice none 0 0]:=⟨by kernel_rfl⟩
instance tEl281:TEl Tryz.prog 281 284:=⟨by kernel_rfl⟩
instance tRo281:TRo Tryz.prog 281 284 4 48:=⟨by kernel_rfl⟩
instance tAg284:TAg Tryz.prog 284 true:=⟨by kernel_rfl⟩
instance tSize284:TSize Tryz.prog 284 4:=⟨by kernel_rfl⟩
instance tZe284:TZe Tryz.prog 284 [.int .i64 0,.int .i64 0,.int .i64 0,.slice none 0 0]:=⟨by kernel_rfl⟩
instance tFl284_0:TFl Tryz.prog 284 0 0 3:=⟨by kernel_rfl⟩
instance tFl284_1:TFl Tryz.prog 284 1 1 71:=⟨by kernel_rfl⟩
instance tSt284:TSt Tryz.prog 284 [.int .i64 0,.int .i64 0,.int .i64 0,.slice none 0 0] [(0,1),(1,3)]:=⟨by kernel_rfl⟩
instance tFl314_0:TFl Tryz.prog 314 0 0 90:=⟨by kernel_rfl⟩
instance tFl314_1:TFl Tryz.prog 314 1 1 22:=⟨by kernel_rfl⟩
instance tFl314_2:TFl Tryz.prog 314 2 2 257:=⟨by kernel_rfl⟩
instance tSt314:TSt Tryz.prog 314 [.slice none 0 0,.slice none 0 0,.map none] [(0,1),(1,1),(2,1)]:=⟨by kernel_rfl⟩
instance tEl335:TEl Tryz.prog 335 193:=⟨by kernel_rfl⟩
instance tAg355:TAg Tryz.prog 355 false:=⟨by kernel_rfl⟩
instance tSize355:TSize Tryz.prog 355 1:=⟨by kernel_rfl⟩
instance tZe355:TZe Tryz.prog 355 [.int .u64 0]:=⟨by kernel_rfl⟩
abbrev iA(n:Int):AV:=.prim (.int .i64 n)
abbrev bA(b:Bool):AV:=.prim (.bool b)
abbrev sA(l:List UInt8):AV:=.prim (DI l)
def fieldA(f:Field):AV:=.agg [sA f.name,iA f.bits,iA f.low]
abbrev Ee(o:Bool)(l:List Field):AV:=.lst o 120 3 (l.map fieldA)
def BA(o:Bool)(k:Kind):AV:=.agg [sA k.name,Ee o k.fields]
abbrev An(o o':Bool)(l:List Kind):AV:=.lst o 118 2 (l.map (BA o'))
abbrev AN(o:Bool)(l:List Int):AV:=.lst o 3 1 (l.map iA)
instance {f:Field}:Frz (fieldA f) (fieldA f):=⟨rfl⟩
instance {o:Bool}{k:Kind}:Frz (BA o k) (BA false k):=⟨by unfold BA;exact Frz.h⟩
def AH(o:Bool)(c:Comp):AV:=.agg [iA c.kind,AN o c.vals]
abbrev Aw(o o':Bool)(l:List Comp):AV:=.lst o 42 2 (l.map (AH o'))
def AD(o:Bool)(x:Item):AV:=.agg [iA x.ent.n,iA x.ent.gen,Aw o o x.comps]
abbrev HX(o o':Bool)(l:List Item):AV:=.lst o 71 3 (l.map (AD o'))
def wdA(o:Bool)(w:Wd):AV:=.agg [An o o w.kinds,AN o w.gens,HX o o w.items]
def A6(e:Ent):AV:=.agg [iA e.n,iA e.gen]
def Cr(e:Evt):AV:=.agg [iA e.sys,iA e.ent.n,iA e.ent.gen,iA e.val]
instance {e:Ent}:Frz (A6 e) (A6 e):=⟨rfl⟩
instance {e:Evt}:Frz (Cr e) (Cr e):=⟨rfl⟩
instance {o:Bool}{k:Comp}:Frz (AH o k) (AH false k):=⟨by unfold AH;exact Frz.h⟩
instance {o:Bool}{k:Item}:Frz (AD o k) (AD false k):=⟨by unfold AD;exact Frz.h⟩
instance {o:Bool}{k:Wd}:Frz (wdA o k) (wdA false k):=⟨by unfold wdA;exact Frz.h⟩
theorem Fj{α:Type}(f:α->AV)(h:∀a,(f a).frz=f a)(l:List α):AV.frzs (l.map f)=l.map f:=by
 rw[ET,List.map_map];exact List.map_congr_left λa _=>h a
theorem SJ(o:Bool)(l:List Int):(AN o l).frz=AN false l:=by
 show AV.lst false _ _ (AV.frzs (l.map iA))=_
 rw[Fj _ λ_=>rfl]
theorem QQ(a b c d:Int)(w:World):(binOp .eql 32 (.agg #[.int .i64 a,.int .i64 b]) (.agg #[.int .i64 c,.int .i64 d])).run Tryz.prog w= .ok (.bool (decide (a=c)&&decide (b=d))) w:=
 Vo (by kernel_rfl) (by kernel_rfl) (by kernel_rfl) a b c d w
def MG(a b:Ent):Bool:=decide (a.n=b.n)&&decide (a.gen=b.gen)
theorem MF(a b:Ent):MG a b=decide (a=b):=by
 obtain⟨n,g⟩:=a;obtain⟨n',g'⟩:=b;rw[Bool.eq_iff_iff];simp[MG]
def Ak(l:List Int)(n:Int):Int:=if n<1 then 0 else match l with|[]=>0|x::_=>x%n
def Ac(l:List Int)(n:Int):List Int:=if n<1 then l else l.tail
theorem Ad(l:List Int){n:Int}(h:1<=n):0<=Ak l n/\Ak l n<n:=by
 unfold Ak;rw[if_neg (by omega)];split
 ·omega
 ·rename_i x _
  exact⟨Int.emod_nonneg x (by omega),Int.emod_lt_of_pos x (by omega)⟩
def Dy(k:Nat):List UInt8:=match k with
 |0=>[115,112,111,116]
 |1=>[108,105,102,101]
 |2=>[116,101,97,109]
 |_=>[103,111,97,108]
def Cb(k:Nat):List UInt8:=match k with
 |0=>[120]
 |1=>[121]
 |_=>[122]
def CR(i:Nat)(l:List Int):Field×List Int:=
 if Ak (Ac (Ac l 9) 40) 8=7 then(⟨Cb i,32,-2147483648⟩,Ac (Ac (Ac l 9) 40) 8)
 else(⟨Cb i,1+Ak l 9,Ak (Ac l 9) 40-30⟩,Ac (Ac (Ac l 9) 40) 8)
def Ba:Nat->Nat->List Int->List Field×List Int
 |_,0,l=>([],l)
 |i,c+1,l=>((CR i l).1::(Ba (i+1) c (CR i l).2).1,(Ba (i+1) c (CR i l).2).2)
def DL(k:Nat)(l:List Int):Kind×List Int:=
 (⟨Dy k,(Ba 0 (1+Ak l 3).toNat (Ac l 3)).1⟩,(Ba 0 (1+Ak l 3).toNat (Ac l 3)).2)
def BG:Nat->Nat->List Int->List Kind×List Int
 |_,0,l=>([],l)
 |k,c+1,l=>((DL k l).1::(BG (k+1) c (DL k l).2).1,(BG (k+1) c (DL k l).2).2)
def Ap(l:List Int):List Kind×List Int:=BG 0 (1+Ak l 4).toNat (Ac l 4)
theorem UV(x n:Int)(hn:1<=n)(h2:n<=4611686018427387904):PS Tryz.prog 67 [iA x,iA n] (iA (x%n)):=by
 refine Sp (nt:=14) (res:=[.tmp 4]) Tryz.func67 λSf=>?_
 have h3:x.tmod n<n:=Int.tmod_lt_of_pos _ (by omega)
 have h4: -n<x.tmod n:=by
  have:=Int.lt_tmod_of_pos x (b:=n) (by omega);exact this
 have h5:x.tmod n=x%n\/x.tmod n+n=x%n/\x.tmod n<0:=by
  rw[Int.tmod_eq_emod];split
  ·exact .inl (by simp)
  ·have:=Int.emod_nonneg x (b:=n) (by omega)
   have:=Int.emod_lt_of_pos x (b:=n) (by omega);refine .inr ?_;have:((n.natAbs:Nat):Int)=n:=by omega
   omega
 have h6:=Int.emod_nonneg x (b:=n) (by omega)
 (iterate 8 refine WK ?_);refine AOps.gN ?_;refine AOps.p (W.rem rfl rfl (by omega)) rfl ?_;refine KK ?_
 refine AWP.cond rfl (λhb=>?_) (λhb=>?_)
 ·have hb:x.tmod n<0:=by simpa using hb
  refine JA ?_;exact BE rfl rfl (by exact Sub.f) ⟨by rw[show x.tmod n+n=x%n from by omega],rfl⟩
 ·have hb:¬x.tmod n<0:=by simpa using hb
  refine JA ?_;exact BE rfl rfl (by exact Sub.f) ⟨by rw[show x.tmod n=x%n from by omega],rfl⟩
abbrev Bb(l:List Int):AO:=.row 112 1 [.agg [AN false l]]
theorem CE(X:Nat)(l:List Int)(n:Int)(h2:n<=4611686018427387904):PO Tryz.prog 52 [.ptr X 0 0,iA n] X (Bb l) (iA (Ak l n)) (Bb (Ac l n)):=by
 refine Sp (nt:=33) (res:=[.tmp 4]) Tryz.func52 λSf=>?_
 refine KK ?_;refine AWP.cond rfl (λhb=>?_) (λhb=>?_)
 ·refine KK ?_
  refine RT ?_;have hb:l.length=0\/n<1:=by simp only[Bool.or_eq_true,AF,AB]at hb;omega
  have e1:Ak l n=0:=by
   unfold Ak;split
   ·rfl
   ·rcases hb with hb|hb
    ·rw[List.length_eq_zero_iff.1 hb]
    ·omega
  have e2:Ac l n=l:=by
   unfold Ac;split
   ·rfl
   ·rcases hb with hb|hb
    ·rw[List.length_eq_zero_iff.1 hb];rfl
    ·omega
  rw[e1,e2];exact Gc rfl rfl (by exact Sub.f) ⟨rfl,rfl⟩
 ·have hb:l.length≠0/\1<=n:=by simp only[Bool.or_eq_false_iff,AQ,AB]at hb;omega
  obtain⟨hb,hn⟩:=hb;cases l with
  |nil=>exact absurd rfl hb
  |cons x l=>
  (repeat first|(refine AOps.gN ?_;first|refine AOps.p (W.idxL rfl rfl (a:=0) rfl rfl) rfl ?_|refine AOps.p (W.loL rfl rfl (a:=1) rfl (by simp)) rfl ?_|refine AOps.p (W.call2 rfl rfl (UV _ _ hn h2) rfl) rfl ?_)|refine WK ?_|refine Ai λX=>?_|refine Ay λY=>?_);refine RT ?_;rw[show Ak (x::l) n=x%n from by unfold Ak;rw[if_neg (by omega)],show Ac (x::l) n=l from by unfold Ac;rw[if_neg (by omega)];rfl];exact Gc (S':=[(X,Bb l)]) rfl rfl (by exact Sub.f) ⟨rfl,rfl⟩
def fAt:Nat->List Int->List Field×List Int
 |0,l=>([],l)
 |i+1,l=>((fAt i l).1++[(CR i (fAt i l).2).1],(CR i (fAt i l).2).2)
def kAt:Nat->List Int->List Kind×List Int
 |0,l=>([],l)
 |i+1,l=>((kAt i l).1++[(DL i (kAt i l).2).1],(DL i (kAt i l).2).2)
theorem RH(i:Nat)(l:List Int):(fAt i l).1.length=i:=by
 induction i with
 |zero=>rfl
 |succ i ih=>simp[fAt,ih]
theorem RC(i:Nat)(l:List Int):(kAt i l).1.length=i:=by
 induction i with
 |zero=>rfl
 |succ i ih=>simp[kAt,ih]
theorem Vl(c i:Nat)(l:List Int):((fAt i l).1++(Ba i c (fAt i l).2).1,(Ba i c (fAt i l).2).2)=fAt (i+c) l:=by
 induction c generalizing i with
 |zero=>simp[Ba]
 |succ c ih=>
  rw[show i+(c+1)=(i+1)+c from by omega,<-ih (i+1)];simp[Ba,fAt]
theorem VW(c i:Nat)(l:List Int):((kAt i l).1++(BG i c (kAt i l).2).1,(BG i c (kAt i l).2).2)=kAt (i+c) l:=by
 induction c generalizing i with
 |zero=>simp[BG]
 |succ c ih=>
  rw[show i+(c+1)=(i+1)+c from by omega,<-ih (i+1)];simp[BG,kAt]
theorem F5(c:Nat)(l:List Int):Ba 0 c l=fAt c l:=by
 have:=Vl c 0 l;simpa[fAt]using this
theorem ES(l:List Int):Ap l=kAt (1+Ak l 4).toNat (Ac l 4):=by
 have:=VW (1+Ak l 4).toNat 0 (Ac l 4);simpa[kAt,Ap]using this
theorem SF{i:Nat}(h:i<4):[sA [115,112,111,116],sA [108,105,102,101],sA [116,101,97,109],sA [103,111,97,108]][i]?=some (sA (Dy i)):=by
 have:i=0\/i=1\/i=2\/i=3:=by omega
 rcases this with rfl|rfl|rfl|rfl<;>rfl
theorem ST{i:Nat}(h:i<3):[sA [120],sA [121],sA [122]][i]?=some (sA (Cb i)):=by
 have:i=0\/i=1\/i=2:=by omega
 rcases this with rfl|rfl|rfl<;>rfl
theorem Tr(G:Nat)(l:List Int):PO Tryz.prog 51 [.ptr G 0 0] G (Bb l) (An true false (Ap l).1) (Bb (Ap l).2):=by
 refine Sp (nt:=55) (res:=[.tmp 2]) Tryz.func51 λSf=>?_
 have h0:=Ad l (n:=4) (by decide);refine KK ?_;refine AOps.g_callf ?_;refine AOps.o2 (h:=(CE G _ _ (by decide))) (k:=?_);refine KK ?_;refine AWP.adopt (d:=3) 118 2 rfl λK=>?_
 obtain⟨c,hc⟩:∃c:Nat,1+Ak l 4=c:=⟨(1+Ak l 4).toNat,by omega⟩;obtain⟨l0,hl0⟩:=nm (Ac l 4);have hg:Ap l=kAt c l0:=by rw[ES,hl0,show(1+Ak l 4).toNat=c from by omega]
 rw[hg,hl0,hc];have hc4:1<=c/\c<=4:=by omega
 clear hg hl0 hc h0;refine FU (λ(i K:Nat) (M:List AV) (q:List Int)=>⟨[(0,.ptr G 0 0),(3,.sl K 0 i),(10,iA c),(11,iA i)],(K,.row 118 2 M)::(G,Bb q)::Sf⟩) (λi _ M q=>i<=c/\M=(kAt i l0).1.map (BA false)/\M.length=i/\q=(kAt i l0).2) (λi _ _ _=>c-i) 0 K [] l0 ⟨Nat.zero_le _,rfl,rfl,rfl⟩ ?_;rintro i K M q ⟨hi,hM,hMl,hq⟩;refine KK ?_;refine AWP.cond rfl (λhb=>?_) (λhb=>?_)
 ·have h:i<c:=by rw[AF]at hb;omega
  have h4:i<4:=by omega
  have h3:=Ad q (n:=3) (by decide);have hkn:=SF h4;refine KK ?_;refine Ai λY=>?_;refine KK ?_;refine AOps.g_callf ?_;refine AOps.o2 (h:=(CE G _ _ (by decide))) (k:=?_);refine KK ?_
  refine AWP.adoptIn (Y:=Y) 120 3 .here (λF=>.cons (.agg (.cons .same (.cons (.base .nil) .nil))) .nil) λF=>?_
  obtain⟨l1,hl1⟩:=nm (Ac q 3);obtain⟨c1,hc1⟩:∃c1:Nat,1+Ak q 3=c1:=⟨(1+Ak q 3).toNat,by omega⟩
  have hgk:kAt (i+1) l0=((kAt i l0).1++[⟨Dy i,(fAt c1 l1).1⟩],(fAt c1 l1).2):=by
   rw[kAt,<-hq,DL,F5,show(1+Ak q 3).toNat=c1 from by omega,hl1]
  rw[hl1,hc1];have hc13:c1<=3:=by omega
  refine FU (λ(j F:Nat) (L:List AV) (r:List Int)=>⟨[(0,.ptr G 0 0),(3,.sl K 0 i),(5,.ptr Y 0 0),(10,iA c),(11,iA i),(21,iA c1),(22,iA j)],(F,.row 120 3 L)::(Y,.row 118 2 [.agg [sA (Dy i),.sl F 0 j]])::(K,.row 118 2 M)::(G,Bb r)::Sf⟩) (λj _ L r=>j<=c1/\L=(fAt j l1).1.map fieldA/\L.length=j/\r=(fAt j l1).2) (λj _ _ _=>c1-j) 0 F [] l1 ⟨Nat.zero_le _,rfl,rfl,rfl⟩ ?_;rintro j F L r ⟨hj,hL,hLl,hr⟩;refine KK ?_;refine AWP.cond rfl (λhd=>?_) (λhd=>?_)
  ·have hj':j<c1:=by rw[AF]at hd;omega
   have h9:=Ad r (n:=9) (by decide);have h40:=Ad (Ac r 9) (n:=40) (by decide);have hfn:=ST (i:=j) (by omega);refine KK ?_;refine AWP.rs λX7=>?_
   refine JL ?_;refine RGo.g_callf ?_;refine RGo.o2 (h:=(CE G _ _ (by decide))) (k:=?_);(iterate 4 refine RK ?_);refine RGo.nil (by kernel_rfl) ?_;(repeat first|(refine AOps.gN ?_;first|(refine AOps.g_callf ?_;first|refine AOps.o2 (h:=(CE G _ _ (by decide))) (k:=?_)))|refine WK ?_|refine Ai λX=>?_|refine Ay λY=>?_);refine AWP.cond rfl (λhe=>?_) (λhe=>?_)
   ·have he:Ak (Ac (Ac r 9) 40) 8=7:=by simpa using he
    have hg:CR j r=(⟨Cb j,32,-2147483648⟩,Ac (Ac (Ac r 9) 40) 8):=by rw[CR,if_pos he]
    (iterate 11 refine WK ?_);refine AOps.g_lit ?_;refine AOps.goL (fieldA ⟨Cb j,32,-2147483648⟩) ?_;refine WK ?_;refine Ay λY=>?_;refine KK ?_
    refine DU (j+1) Y _ _ ⟨hj',?_,?_,?_⟩
    ·rw[fAt,<-hr,hg,hL,List.map_append];rfl
    ·rw[AL,hLl];rfl
    ·rw[fAt,<-hr,hg]
   ·have he:Ak (Ac (Ac r 9) 40) 8≠7:=by simpa using he
    have hg:CR j r=(⟨Cb j,1+Ak r 9,Ak (Ac r 9) 40-30⟩,Ac (Ac (Ac r 9) 40) 8):=by rw[CR,if_neg he]
    (iterate 6 refine WK ?_);refine AOps.g_lit ?_;refine AOps.goL (fieldA ⟨Cb j,1+Ak r 9,Ak (Ac r 9) 40-30⟩) ?_;refine WK ?_;refine Ay λY=>?_;refine KK ?_
    refine DU (j+1) Y _ _ ⟨hj',?_,?_,?_⟩
    ·rw[fAt,<-hr,hg,hL,List.map_append];rfl
    ·rw[AL,hLl];rfl
    ·rw[fAt,<-hr,hg]
  ·have hj':j=c1:=by rw[AQ]at hd;omega
   subst hj';refine FL ?_;refine AWP.iceIn (X:=F) (Y:=Y) .here (.next .here) rfl (.cons (.agg (.cons .same (.cons (.base (.sl (by omega))) .nil))) .nil) ?_
   have hF:AV.frzs ((L.drop 0).take j)=(fAt j l1).1.map fieldA:=by
    rw[List.drop_zero,List.take_of_length_le (by omega),hL];exact Frzs.h
   rw[hF]
   (iterate 3 refine WK ?_);refine AOps.g_lit ?_;refine AOps.goL (BA false ⟨Dy i,(fAt j l1).1⟩) ?_;refine WK ?_;refine Ay λY=>?_;refine KK ?_
   refine DU (i+1) Y _ _ ⟨h,?_,?_,?_⟩
   ·rw[hgk,hM,List.map_append];rfl
   ·rw[AL,hMl];rfl
   ·rw[hgk,hr]
 ·have h:i=c:=by rw[AQ]at hb;omega
  subst h;refine JA ?_;subst hM hq;refine⟨[.sl K 0 i],[.lst true 118 2 ((kAt i l0).1.map (BA false))],_,[(G,Bb (kAt i l0).2)],.cons (.tmp rfl) rfl .nil,.cons (.cell (.sl (p:=0) .here (by rw[AB,RC]))) .nil,by exact Sub.f,rfl,rfl⟩
def XB(c:UInt8):Bool:=decide (97<=c)&&decide (c<=122)
def XH(c:UInt8):Bool:=decide (48<=c)&&decide (c<=57)
def O7(l:List UInt8)(j:Nat):Bool:=XB (l.getD j 0)||(decide (0<j)&&XH (l.getD j 0))
def Cx(l:List UInt8):Bool:=decide (0<l.length)&&decide (l.length<=16)&&(List.range l.length).all (O7 l)
def Aq(f:Field):Int:=if Cx f.name&&decide (1<=f.bits)&&decide (f.bits<=32)&&decide (-4294967296<=f.low)&&decide (f.low<=4294967296)then 0 else 3
def Bj:List Field->List Field->Int
 |_,[]=>0
 |pre,f::fs=>if Aq f≠0 then Aq f else if pre.any (λo=>o.name==f.name)then 5 else Bj (pre++[f]) fs
def BX(k:Kind):Int:=if Cx k.name then(if 8<k.fields.length then 2 else Bj [] k.fields)else 3
def DD(l:List Kind)(name:List UInt8):Int:=
 match l.findIdx? (λk=>k.name==name)with
 |some i=>i
 |none=>-1
def Bu:List Kind->List Kind->Int
 |_,[]=>0
 |pre,k::ks=>if BX k≠0 then BX k else if pre.any (λo=>o.name==k.name)then 5 else Bu (pre++[k]) ks
def Ag(l:List Kind):Int:=if 16<l.length then 2 else Bu [] l
def EC(f:Field):Int:=if Aq f=0 then f.low+(2^f.bits.toNat-1)else 0
def BS(f:Field)(v:Int):Int:=if Aq f=0 then max f.low (min v (EC f))else 0
def BW(k:Kind)(vals:List Int):List Int×Int:=
 if BX k≠0 then([],BX k)else if vals.length≠k.fields.length then([],1)else(List.zipWith BS k.fields vals,0)
def Bq(k:Kind)(vals:List Int):Bool:=decide ((BW k vals).2=0)&&decide ((BW k vals).1=vals)
theorem HI{l:List Kind}{name:List UInt8}(h:∀j (hj:j<l.length),l[j].name≠name):DD l name= -1:=by
 have:l.findIdx? (λk=>k.name==name)=none:=by
  rw[List.findIdx?_eq_none_iff];intro x hx;obtain⟨j,hj,rfl⟩:=List.getElem_of_mem hx;simpa using h j hj
 simp[DD,this]
theorem Lu{l:List Kind}{name:List UInt8}{i:Nat}(hi:i<l.length)(e:l[i].name=name)(h:∀j (hj:j<i),(l[j]'(by omega)).name≠name):DD l name=i:=by
 have:l.findIdx? (λk=>k.name==name)=some i:=by
  rw[List.findIdx?_eq_some_iff_getElem];refine⟨hi,by simpa using e,λj hj=>?_⟩;simpa using h j hj
 simp[DD,this]
theorem NU{pre:List Kind}{k:Kind}{ks:List Kind}(h:BX k≠0):Bu pre (k::ks)=BX k:=by
 simp[Bu,h]
theorem Kb{pre:List Kind}{k:Kind}{ks:List Kind}(h:BX k=0)(hf:0<=DD pre k.name):Bu pre (k::ks)=5:=by
 have:pre.any (λo=>o.name==k.name)=true:=by
  rcases hc:pre.any (λo=>o.name==k.name)with _|_
  ·exfalso
   rw[List.any_eq_false]at hc;rw[HI (λj hj=>by simpa using hc _ (AK hj))]at hf;omega
  ·rfl
 simp[Bu,h,this]
theorem Lm{pre:List Kind}{k:Kind}{ks:List Kind}(h:BX k=0)(hf:DD pre k.name<0):Bu pre (k::ks)=Bu (pre++[k]) ks:=by
 have:pre.any (λo=>o.name==k.name)=false:=by
  rcases hc:pre.any (λo=>o.name==k.name)with _|_
  ·rfl
  ·exfalso
   rw[List.any_eq_true]at hc;obtain⟨x,hx,e⟩:=hc;unfold DD at hf;split at hf
   ·omega
   ·rename_i hn
    rw[List.findIdx?_eq_none_iff]at hn;exact absurd e (by simpa using hn x hx)
 simp[Bu,h,this]
theorem GT{l:List Kind}{i:Nat}(hi:i<l.length):Bu (l.take i) (l.drop i)=Bu (l.take i) (l[i]::l.drop (i+1)):=by
 rw[CD hi]
theorem NT{l:List Kind}{i:Nat}(hi:l.length<=i):Bu (l.take i) (l.drop i)=0:=by
 rw[List.drop_of_length_le hi];rfl
theorem I5(f:Field)(h:Cx f.name=true)(hb:1<=f.bits/\f.bits<=32/\ -4294967296<=f.low/\f.low<=4294967296):Aq f=0:=by
 simp[Aq,h,hb]
theorem Or(f:Field)(h:Cx f.name=true->¬(1<=f.bits/\f.bits<=32/\ -4294967296<=f.low/\f.low<=4294967296)):Aq f=3:=by
 unfold Aq;rw[if_neg];simp only[Bool.and_eq_true,AF];intro hc;exact h hc.1.1.1.1 ⟨hc.1.1.1.2,hc.1.1.2,hc.1.2,hc.2⟩
theorem EF(f:Field):Aq f=0↔Cx f.name=true/\1<=f.bits/\f.bits<=32/\ -4294967296<=f.low/\f.low<=4294967296:=by
 constructor
 ·intro h
  unfold Aq at h;split at h
  ·rename_i hc
   simpa[and_assoc]using hc
  ·simp at h
 ·rintro⟨h,hb⟩
  exact I5 f h hb
theorem K5(f:Field):Aq f=0\/Aq f=3:=by
 unfold Aq;split<;>simp
theorem Lw{pre:List Field}{f:Field}{fs:List Field}(h:Aq f≠0):Bj pre (f::fs)=Aq f:=by
 simp[Bj,h]
theorem Jb{pre:List Field}{f:Field}{fs:List Field}(h:Aq f=0){j:Nat}(hj:j<pre.length)(e:pre[j].name=f.name):Bj pre (f::fs)=5:=by
 have:pre.any (λo=>o.name==f.name)=true:=by
  rw[List.any_eq_true];exact⟨pre[j],AK hj,by simp[e]⟩
 simp[Bj,h,this]
theorem K3{pre:List Field}{f:Field}{fs:List Field}(h:Aq f=0)(e:∀j (hj:j<pre.length),pre[j].name≠f.name):Bj pre (f::fs)=Bj (pre++[f]) fs:=by
 have:pre.any (λo=>o.name==f.name)=false:=by
  rw[List.any_eq_false];intro x hx;obtain⟨j,hj,rfl⟩:=List.getElem_of_mem hx;simpa using e j hj
 simp[Bj,h,this]
theorem F7{l:List Field}{i:Nat}(hi:i<l.length):Bj (l.take i) (l.drop i)=Bj (l.take i) (l[i]::l.drop (i+1)):=by
 rw[CD hi]
theorem Lv{l:List Field}{i:Nat}(hi:l.length<=i):Bj (l.take i) (l.drop i)=0:=by
 rw[List.drop_of_length_le hi];rfl
theorem R3(l:List UInt8)(j:Nat)(hj:j<l.length)(h:O7 l j=false):Cx l=false:=by
 have:(List.range l.length).all (O7 l)=false:=by
  rw[List.all_eq_false];exact⟨j,List.mem_range.2 hj,by simp[h]⟩
 simp[Cx,this]
theorem P2(l:List UInt8)(h0:0<l.length)(h1:l.length<=16)(h:∀j,j<l.length->O7 l j=true):Cx l=true:=by
 have:(List.range l.length).all (O7 l)=true:=by
  rw[List.all_eq_true];intro x hx;exact h x (List.mem_range.1 hx)
 simp[Cx,this,h0,h1]
theorem OP(l:List UInt8)(h:l.length=0\/16<l.length):Cx l=false:=by
 rcases h with h|h
 ·simp[Cx,h]
 ·simp[Cx,show¬l.length<=16 from by omega]
theorem TS{b:Int}(h1:1<=b)(h2:b<=32):(2:Int)<=2^b.toNat/\(2:Int)^b.toNat<=4294967296:=by
 obtain⟨n,rfl⟩:∃n:Nat,b=n:=⟨b.toNat,by omega⟩;rw[Int.toNat_natCast];have h:n=1\/n=2\/n=3\/n=4\/n=5\/n=6\/n=7\/n=8\/n=9\/n=10\/n=11\/n=12\/n=13\/n=14\/n=15\/n=16\/n=17\/n=18\/n=19\/n=20\/n=21\/n=22\/n=23\/n=24\/n=25\/n=26\/n=27\/n=28\/n=29\/n=30\/n=31\/n=32:=by omega
 rcases h with rfl|rfl|rfl|rfl|rfl|rfl|rfl|rfl|rfl|rfl|rfl|rfl|rfl|rfl|rfl|rfl|rfl|rfl|rfl|rfl|rfl|rfl|rfl|rfl|rfl|rfl|rfl|rfl|rfl|rfl|rfl|rfl<;>decide
theorem SN{f:Field}(h:Aq f=0):EC f=f.low+(2^f.bits.toNat-1):=by simp[EC,h]
theorem MV{f:Field}(h:Aq f=0):f.low<EC f/\EC f<=8589934592:=by
 have hb:=(EF f).1 h;have:=TS hb.2.1 hb.2.2.1;rw[SN h];omega
theorem NI(f:Field)(v:Int): -4294967296<=BS f v/\BS f v<=8589934592:=by
 rcases K5 f with h|h
 ·have:=MV h
  have hb:=(EF f).1 h;simp only[BS,h,if_true];omega
 ·simp[BS,h]
theorem K0{pre l:List Field}(h:Bj pre l=0):∀f∈l,Aq f=0:=by
 induction l generalizing pre with
 |nil=>intro f hf;cases hf
 |cons x l ih=>
  intro f hf;simp only[Bj]at h;split at h
  ·rename_i hx;exact absurd h hx
  ·rename_i hx
   split at h
   ·simp at h
   ·rcases List.mem_cons.1 hf with rfl|hf
    ·simpa using hx
    ·exact ih h f hf
theorem Do{k:Kind}(h:BX k=0):Cx k.name=true/\k.fields.length<=8/\∀f∈k.fields,Aq f=0:=by
 unfold BX at h;split at h
 ·rename_i h1
  split at h
  ·simp at h
  ·rename_i h2
   exact⟨h1,by omega,K0 h⟩
 ·simp at h
def UW:Kind:=⟨[108,105,102,101],[⟨[120],8,0⟩]⟩
def baseWd:Wd:=⟨[UW],[0],[⟨⟨0,0⟩,[⟨0,[9]⟩]⟩]⟩
theorem Ik(a b:List Int)(hl:a.length<=1099511627776):PS Tryz.prog 34 [AN false a,AN false b] (bA (decide (a=b))):=by
 refine Sp (nt:=26) (res:=[.tmp 4]) Tryz.func34 λSf=>?_
 refine KK ?_;refine AWP.cond rfl (λhb=>?_) (λhb=>?_)
 ·have hb:a.length≠b.length:=by simp at hb;omega
  refine JA ?_;refine AI ?_;rw[AY λe=>hb (by rw[e])]
 ·have hb:a.length=b.length:=by simp at hb;omega
  refine KK ?_;refine BJ (λi:Nat=>⟨[(0,AN false a),(1,AN false b),(12,iA (a.map iA).length),(13,iA i)],Sf⟩) (λi=>i<=a.length/\∀j (h:j<a.length),j<i->a[j]=b[j]'(by omega)) (λi=>a.length-i) 0 ⟨Nat.zero_le _,λj h hj=>absurd hj (by omega)⟩ ?_;rintro i ⟨hi,he⟩;refine KK ?_;refine AWP.cond rfl (λhc=>?_) (λhc=>?_)
  ·have h:i<a.length:=by simpa using hc
   have h':i<b.length:=by omega
   refine KK ?_;refine RU ?_;(iterate 9 refine RK ?_);refine RGo.nil (by kernel_rfl) ?_;refine WK ?_;refine AWP.cond rfl (λhd=>?_) (λhd=>?_)
   ·have hd:a[i]≠b[i]:=by simpa using hd
    refine JA ?_;refine AI ?_;rw[AY λe=>hd (by subst e;rfl)]
   ·have hd:a[i]=b[i]:=by simpa using hd
    refine KK ?_;refine Af (i+1) ⟨h,λj h1 h2=>?_⟩;by_cases e:j=i
    ·subst e;exact hd
    ·exact he j h1 (by omega)
  ·have h:¬i<a.length:=by simpa using hc
   refine JA ?_;refine AI ?_;rw[Ae (List.ext_getElem hb λj h1 h2=>he j h1 (by omega))]
def eqF{α:Type}(p:α->α->Bool):List α->List α->Bool
 |[],[]=>true
 |x::xs,y::ys=>p x y&&eqF p xs ys
 |_,_=>false
theorem Jm{α:Type}{p:α->α->Bool}:{a b:List α}->a.length≠b.length->eqF p a b=false
 |[],[],h=>absurd rfl h
 |[],_::_,_=>rfl
 |_::_,[],_=>rfl
 |x::xs,y::ys,h=>by rw[eqF,Jm (by simpa using h),Bool.and_false]
theorem Nb{α:Type}{p:α->α->Bool}:{a b:List α}->(hl:a.length=b.length)->{i:Nat}->(h:i<a.length)->p a[i] (b[i]'(by omega))=false->eqF p a b=false
 |[],_,_,_,h,_=>absurd h (by simp)
 |x::xs,[],hl,_,_,_=>by simp at hl
 |x::xs,y::ys,hl,0,h,hp=>by rw[eqF,show p x y=false from hp,Bool.false_and]
 |x::xs,y::ys,hl,i+1,h,hp=>by
  rw[eqF,Nb (a:=xs) (b:=ys) (by simpa using hl) (i:=i) (by simpa using h) hp,Bool.and_false]
theorem Jl{α:Type}{p:α->α->Bool}:{a b:List α}->(hl:a.length=b.length)->(∀i (h:i<a.length),p a[i] (b[i]'(by omega))=true)->eqF p a b=true
 |[],[],_,_=>rfl
 |[],_::_,hl,_=>by simp at hl
 |x::xs,[],hl,_=>by simp at hl
 |x::xs,y::ys,hl,h=>by
  rw[eqF,show p x y=true from h 0 (by simp),Jl (a:=xs) (b:=ys) (by simpa using hl) λi hi=>h (i+1) (by simpa using hi)];rfl
theorem Nc{α:Type}{p:α->α->Bool}[DecidableEq α]:{a b:List α}->(∀x∈a,∀y∈b,p x y=decide (x=y))->eqF p a b=decide (a=b)
 |[],[],_=>rfl
 |[],_::_,_=>rfl
 |_::_,[],_=>rfl
 |x::xs,y::ys,h=>by
  rw[eqF,h x (by simp) y (by simp),Nc λu hu v hv=>h u (by simp[hu]) v (by simp[hv])];by_cases e:x=y<;>by_cases e2:xs=ys<;>simp[e,e2]
theorem Lz(a b:List Comp)(f:FuncId)(cap:List AV)(p:Comp->Comp->Bool)(hs:B4 cap=true)(hl:a.length<=4611686018427387904)(hf:∀x∈a,∀y∈b,PS Tryz.prog f ((AH false) x::(AH false) y::cap) (bA (p x y))):
  PS Tryz.prog 109 [.lst false 42 2 (a.map (AH false)),.lst false 42 2 (b.map (AH false)),.fn f cap] (bA (eqF p a b)):=by
 refine Sp (nt:=32) (res:=[.tmp 6]) Tryz.func109 λSf=>?_
 refine KK ?_;refine AWP.cond rfl (λhb=>?_) (λhb=>?_)
 ·have hb:a.length≠b.length:=by simp at hb;omega
  refine JA ?_;refine AI ?_;rw[Jm hb]
 ·have hb:a.length=b.length:=by simp at hb;omega
  refine KK ?_;refine BJ (λi:Nat=>⟨[(0,.lst false 42 2 (a.map (AH false))),(1,.lst false 42 2 (b.map (AH false))),(2,.fn f cap),(15,.lst false 42 2 (a.map (AH false))),(16,iA (a.map (AH false)).length),(17,iA i)],Sf⟩) (λi=>i<=a.length/\∀j (h:j<a.length),j<i->p a[j] (b[j]'(by omega))=true) (λi=>a.length-i) 0 ⟨Nat.zero_le _,λj h hj=>absurd hj (by omega)⟩ ?_;rintro i ⟨hi,he⟩;refine KK ?_;refine AWP.cond rfl (λhc=>?_) (λhc=>?_)
  ·have h:i<a.length:=by simpa using hc
   have h':i<b.length:=by omega
   refine KK ?_;refine Ai λX=>?_;refine KK ?_;refine Ai λX=>?_;refine KK ?_;refine AOps.g_callv ?_;refine AOps.k2 (h:=(hf _ (AK h) _ (AK h'))) (k:=?_);refine KK ?_
   refine AWP.cond rfl (λhd=>?_) (λhd=>?_)
   ·have hd:p a[i] b[i]=false:=by simpa using hd
    refine JA ?_;refine AI ?_;rw[Nb hb h hd]
   ·have hd:p a[i] b[i]=true:=by simpa using hd
    refine KK ?_;refine Af (i+1) ⟨h,λj h1 h2=>?_⟩;by_cases e:j=i
    ·subst e;exact hd
    ·exact he j h1 (by omega)
  ·have h:¬i<a.length:=by simpa using hc
   refine JA ?_;refine AI ?_;rw[Jl hb λj hj=>he j hj (by omega)]
theorem Lx(a b:List Item)(f:FuncId)(cap:List AV)(p:Item->Item->Bool)(hs:B4 cap=true)(hl:a.length<=4611686018427387904)(hf:∀x∈a,∀y∈b,PS Tryz.prog f ((AD false) x::(AD false) y::cap) (bA (p x y))):
  PS Tryz.prog 107 [.lst false 71 3 (a.map (AD false)),.lst false 71 3 (b.map (AD false)),.fn f cap] (bA (eqF p a b)):=by
 refine Sp (nt:=32) (res:=[.tmp 6]) Tryz.func107 λSf=>?_
 refine KK ?_;refine AWP.cond rfl (λhb=>?_) (λhb=>?_)
 ·have hb:a.length≠b.length:=by simp at hb;omega
  refine JA ?_;refine AI ?_;rw[Jm hb]
 ·have hb:a.length=b.length:=by simp at hb;omega
  refine KK ?_;refine BJ (λi:Nat=>⟨[(0,.lst false 71 3 (a.map (AD false))),(1,.lst false 71 3 (b.map (AD false))),(2,.fn f cap),(15,.lst false 71 3 (a.map (AD false))),(16,iA (a.map (AD false)).length),(17,iA i)],Sf⟩) (λi=>i<=a.length/\∀j (h:j<a.length),j<i->p a[j] (b[j]'(by omega))=true) (λi=>a.length-i) 0 ⟨Nat.zero_le _,λj h hj=>absurd hj (by omega)⟩ ?_;rintro i ⟨hi,he⟩;refine KK ?_;refine AWP.cond rfl (λhc=>?_) (λhc=>?_)
  ·have h:i<a.length:=by simpa using hc
   have h':i<b.length:=by omega
   refine KK ?_;refine Ai λX=>?_;refine KK ?_;refine Ai λX=>?_;refine KK ?_;refine AOps.g_callv ?_;refine AOps.k2 (h:=(hf _ (AK h) _ (AK h'))) (k:=?_);refine KK ?_
   refine AWP.cond rfl (λhd=>?_) (λhd=>?_)
   ·have hd:p a[i] b[i]=false:=by simpa using hd
    refine JA ?_;refine AI ?_;rw[Nb hb h hd]
   ·have hd:p a[i] b[i]=true:=by simpa using hd
    refine KK ?_;refine Af (i+1) ⟨h,λj h1 h2=>?_⟩;by_cases e:j=i
    ·subst e;exact hd
    ·exact he j h1 (by omega)
  ·have h:¬i<a.length:=by simpa using hc
   refine JA ?_;refine AI ?_;rw[Jl hb λj hj=>he j hj (by omega)]
theorem UF(f g:Field)(w:World):(binOp .neq 120 (.agg [DI f.name,.int .i64 f.bits,.int .i64 f.low].toArray) (.agg [DI g.name,.int .i64 g.bits,.int .i64 g.low].toArray)).run Tryz.prog w= .ok (.bool (decide (f≠g))) w:=by
 have h:=UH (P:=Tryz.prog) (t:=120) (by kernel_rfl) (by kernel_rfl) (by kernel_rfl) ⟨f.name.toArray⟩ ⟨g.name.toArray⟩ f.bits f.low g.bits g.low w;rw[run_neq_struct];have e:(Op.equalIn 10000 120 (.agg [DI f.name,.int .i64 f.bits,.int .i64 f.low].toArray) (.agg [DI g.name,.int .i64 g.bits,.int .i64 g.low].toArray)).run Tryz.prog w=_:=h;rw[e,Result.andThen_ok,Gi,Gi]
 have hd:(!(decide (f.name=g.name)&&decide (f.bits=g.bits)&&decide (f.low=g.low)))=decide (f≠g):=by
  obtain⟨n,b,l⟩:=f;obtain⟨n',b',l'⟩:=g;rw[Bool.eq_iff_iff];simp[or_assoc]
 rw[hd]
def KsL(ks:List Kind):Prop:=ks.length<=1099511627776/\∀k∈ks,k.fields.length<=1099511627776
def CsL(cs:List Comp):Prop:=cs.length<=1099511627776/\∀c∈cs,c.vals.length<=1099511627776
def ItL(l:List Item):Prop:=l.length<=1099511627776/\∀it∈l,CsL it.comps
structure WdL(w:Wd):Prop where
 ks:KsL w.kinds
 gens:w.gens.length<=1099511627776
 items:ItL w.items
theorem Wm(x y:Comp):(decide (x.kind=y.kind)&&decide (x.vals=y.vals))=decide (x=y):=by
 obtain⟨k,v⟩:=x;obtain⟨k',v'⟩:=y;rw[Bool.eq_iff_iff];simp
theorem Wg(x y:Item):(MG x.ent y.ent&&decide (x.comps=y.comps))=decide (x=y):=by
 rw[MF];obtain⟨k,v⟩:=x;obtain⟨k',v'⟩:=y;rw[Bool.eq_iff_iff];simp
theorem XZ(x y:Wd):(decide (x.kinds=y.kinds)&&decide (x.gens=y.gens)&&decide (x.items=y.items))=decide (x=y):=by
 obtain⟨k,v,u⟩:=x;obtain⟨k',v',u'⟩:=y;rw[Bool.eq_iff_iff];simp[and_assoc]
def GK(l:List Item)(n:Int):Bool:=l.any λit=>decide (it.ent.n=n)
def MY(w:Wd):Option Nat:=(List.range w.gens.length).find? λn=>!GK w.items n&&decide (w.gens.getD n 0<1073741824)
def Bf(w:Wd):Nat×Bool:=match MY w with
 |some n=>(n,true)
 |none=>(w.gens.length,decide ((w.gens.length:Int)<256))
theorem O6(s:List UInt8)(i:Nat):O7 s i=(decide ((97:Int)<=(s.getD i 0).toNat)&&decide (((s.getD i 0).toNat:Int)<=122)||decide ((0:Int)<i)&&decide ((48:Int)<=(s.getD i 0).toNat)&&decide (((s.getD i 0).toNat:Int)<=57)):=by
 have h:∀a b:UInt8,decide (a<=b)=decide ((a.toNat:Int)<=b.toNat):=λa b=>by simp[UInt8.le_iff_toNat_le]
 have h0:decide (0<i)=decide ((0:Int)<i):=by simp
 simp only[O7,XB,XH,h,h0,Bool.and_assoc];rfl
theorem NJ(s:List UInt8):PS Tryz.prog 175 [sA s] (bA (Cx s)):=by
 refine Sp (nt:=41) (res:=[.tmp 2]) Tryz.func175 λSf=>?_
 refine KK ?_;refine AWP.cond rfl (λhb=>?_) (λhb=>?_)
 ·refine KK ?_
  refine RT ?_;refine BE rfl rfl (by exact Sub.f) ⟨?_,rfl⟩;rw[OP s (by simp only[Bool.or_eq_true,AF]at hb;omega)]
 have hb1:s.length≠0/\s.length<=16:=by simp only[Bool.or_eq_false_iff,AQ]at hb;omega
 (iterate 9 refine WK ?_);refine CG (λi:Nat=>⟨[(0,sA s),(14,iA s.length),(15,iA i)],Sf⟩) (λi=>i<=s.length/\∀j,j<i->O7 s j=true) (λi=>s.length-i) 0 ⟨by omega,by omega⟩ ⟨.cons rfl (.cons rfl (.cons rfl .nil)),List.Sublist.refl _⟩ ?_
 rintro i ⟨hi,hn⟩;refine KK ?_;refine AWP.cond rfl (λhb=>?_) (λhb=>?_)
 ·have h:i<s.length:=by simpa using hb
  (iterate 12 refine WK ?_);refine AOps.gN ?_;refine AOps.p (W.idxStr rfl rfl rfl h) rfl ?_;refine KK ?_
  refine AWP.cond rfl (λhc=>?_) (λhc=>?_)
  ·refine KK ?_
   refine RT ?_;refine BE rfl rfl (by exact Sub.f) ⟨?_,rfl⟩;rw[<-O6]at hc;rw[R3 s i h (by simpa using hc)]
  ·refine KK ?_
   refine⟨i+1,⟨by omega,λj hj=>?_⟩,by omega,.cons rfl (.cons rfl (.cons rfl .nil)),by exact Sub.f⟩;rw[<-O6]at hc;by_cases e:j=i
   ·subst e;simpa using hc
   ·exact hn j (by omega)
 ·have h:¬i<s.length:=by simpa using hb
  refine JA ?_;refine BE rfl rfl (by exact Sub.f) ⟨?_,rfl⟩;rw[P2 s (by omega) hb1.2 λj hj=>hn j (by omega)]
theorem K4(f:Field):PS Tryz.prog 239 [fieldA f] (iA (Aq f)):=by
 refine Sp (nt:=27) (res:=[.tmp 2]) Tryz.func239 λSf=>?_
 refine KK ?_;refine Ai λX=>?_;(iterate 7 refine WK ?_);refine AOps.gN ?_;refine AOps.p (W.call1 rfl (NJ _) rfl) rfl ?_;refine KK ?_
 refine AWP.cond rfl (λhb=>?_) (λhb=>?_)
 ·refine KK ?_
  refine RT ?_;refine BE rfl rfl (by exact Sub.f) ⟨?_,rfl⟩;rw[Or f λhn hk=>?_];simp only[hn,Bool.not_true,Bool.false_or,Bool.or_eq_true,AF]at hb;omega
 ·refine KK ?_
  refine RT ?_;refine BE rfl rfl (by exact Sub.f) ⟨?_,rfl⟩;simp only[Bool.or_eq_false_iff,Bool.not_eq_false',AQ]at hb;rw[I5 f hb.1.1.1.1 (by omega)]
theorem Va(f:Field):PS Tryz.prog 240 [fieldA f] (iA (EC f)):=by
 refine Sp (nt:=13) (res:=[.tmp 2]) Tryz.func240 λSf=>?_
 refine KK ?_;refine Ai λX=>?_;(iterate 6 refine WK ?_);refine AOps.gN ?_;refine AOps.p (W.call1 rfl (K4 _) rfl) rfl ?_;refine KK ?_
 refine AWP.cond rfl (λhb=>?_) (λhb=>?_)
 ·have hb:Aq f≠0:=by simpa using hb
  refine JA ?_;refine BE rfl rfl (by exact Sub.f) ⟨?_,rfl⟩;simp[EC,hb]
 have hb:Aq f=0:=by simpa using hb
 have h1:=(EF f).1 hb;obtain⟨n,hn⟩:∃n:Nat,f.bits=n:=⟨f.bits.toNat,by omega⟩
 have hp:(2:Int)^n<=4294967296/\1<=(2:Int)^n:=by
  have hn2:n<=32:=by omega
  clear hn;have:∀n,n<=32->(2:Int)^n<=4294967296/\1<=(2:Int)^n:=by decide
  exact this n hn2
 have hw:IntKind.i64.wrap (1*2^n)=2^n:=by rw[Int.one_mul];exact Du (by omega) (by omega)
 refine KK ?_;refine RU ?_;(iterate 4 refine RK ?_);refine RGo.gN ?_;refine RGo.p (W.shl rfl rfl hn (by show n<=64;omega)) rfl ?_;refine RGo.gN ?_;refine RGo.p (W.sub rfl rfl (by rw[hw];omega)) rfl ?_;refine RGo.gN ?_;refine RGo.p (W.add rfl rfl (by rw[hw];omega)) rfl ?_;refine RK ?_;refine RGo.nil (by kernel_rfl) ?_;refine WK ?_;refine RT ?_;refine BE rfl rfl (by exact Sub.f) ⟨?_,rfl⟩;simp only[hw];simp[EC,hb,hn]
theorem Q5(f:Field)(v:Int):PS Tryz.prog 185 [fieldA f,iA v] (iA (BS f v)):=by
 refine Sp (nt:=15) (res:=[.tmp 4]) Tryz.func185 λSf=>?_
 refine KK ?_;refine Ai λX=>?_;(iterate 6 refine WK ?_);refine AOps.gN ?_;refine AOps.p (W.call1 rfl (K4 _) rfl) rfl ?_;refine KK ?_
 refine AWP.cond rfl (λhb=>?_) (λhb=>?_)
 ·have hb:Aq f≠0:=by simpa using hb
  refine JA ?_;refine BE rfl rfl (by exact Sub.f) ⟨?_,rfl⟩;simp[BS,hb]
 have hb:Aq f=0:=by simpa using hb
 refine KK ?_;refine RU ?_;(iterate 4 refine RK ?_);refine RGo.gN ?_;refine RGo.p (W.call1 rfl (Va _) rfl) rfl ?_;(iterate 3 refine RK ?_);refine RGo.nil (by kernel_rfl) ?_;refine WK ?_;refine RT ?_;refine BE rfl rfl (by exact Sub.f) ⟨?_,rfl⟩;rw[show BS f v=max f.low (min v (EC f))from by simp[BS,hb]];simp only[Int.max_def,Int.min_def]
 congr 2
 (repeat' split)<;>omega
theorem Ta(k:Kind):PS Tryz.prog 203 [BA false k] (iA (BX k)):=by
 refine Sp (nt:=45) (res:=[.tmp 2]) Tryz.func203 λSf=>?_
 refine WK ?_;refine WK ?_;refine AOps.gN ?_;refine AOps.rs λX1=>?_;refine AOps.s (W.box rfl .here rfl) rfl ?_;(iterate 7 refine WK ?_);refine AOps.gN ?_;refine AOps.p (W.call1 rfl (NJ _) rfl) rfl ?_;refine KK ?_
 refine AWP.cond rfl (λhb=>?_) (λhb=>?_)
 ·refine KK ?_
  refine RT ?_;refine BE rfl rfl (by exact Sub.f) ⟨?_,rfl⟩;have hb:Cx k.name=false:=by simpa using hb
  rw[show BX k=3 from by simp[BX,hb]]
 have hn:Cx k.name=true:=by simpa using hb
 refine KK ?_;refine AWP.cond rfl (λhb=>?_) (λhb=>?_)
 ·refine KK ?_
  refine RT ?_;refine BE rfl rfl (by exact Sub.f) ⟨?_,rfl⟩;have hb:8<k.fields.length:=by rw[AF,AB]at hb;omega
  rw[show BX k=2 from by simp[BX,hn,hb]]
 have hl:k.fields.length<=8:=by rw[AQ,AB]at hb;omega
 have e1:BX k=Bj [] k.fields:=by simp[BX,hn];omega
 (iterate 10 refine WK ?_);refine CG (λi:Nat=>⟨[(1,.ptr X1 0 0),(17,Ee false k.fields),(18,iA (k.fields.map fieldA).length),(19,iA i)],(X1,.row 118 2 [BA false k])::Sf⟩) (λi=>i<=k.fields.length/\Bj [] k.fields=Bj (k.fields.take i) (k.fields.drop i)) (λi=>k.fields.length-i) 0 ⟨by omega,rfl⟩ ⟨.cons rfl (.cons rfl (.cons rfl (.cons rfl .nil))),by exact Sub.f⟩ ?_
 rintro i ⟨hi,he⟩;refine KK ?_;refine AWP.cond rfl (λhb=>?_) (λhb=>?_)
 ·have h:i<k.fields.length:=by simpa using hb
  (repeat first|(refine AOps.gN ?_;first|refine AOps.p (W.idxL rfl rfl rfl (BB _ h)) rfl ?_|refine AOps.p (W.call1 rfl (K4 _) rfl) rfl ?_)|refine WK ?_|refine Ai λX=>?_|refine Ay λY=>?_);refine AWP.cond rfl (λhc=>?_) (λhc=>?_)
  ·have hc:Aq k.fields[i]≠0:=by simpa using hc
   refine JA ?_;refine BE rfl rfl (by exact Sub.f) ⟨?_,rfl⟩;rw[e1,he,F7 h,Lw hc];rfl
  have hc:Aq k.fields[i]=0:=by simpa using hc
  have hmt:((k.fields.map fieldA).take i).length=i:=by simp;omega
  (iterate 6 refine WK ?_);refine AOps.gN ?_;refine AOps.p (W.hiL rfl rfl rfl (by simp;omega)) rfl ?_;(iterate 4 refine WK ?_);refine CG (λj:Nat=>⟨[(1,.ptr X1 0 0),(17,Ee false k.fields),(18,iA (k.fields.map fieldA).length),(19,iA i),(3,iA i),(4,.ptr X 0 0),(32,.lst false 120 3 ((k.fields.map fieldA).take i)),(33,iA ((k.fields.map fieldA).take i).length),(34,iA j)],(X,.row 120 3 [fieldA k.fields[i]])::(X1,.row 118 2 [BA false k])::Sf⟩) (λj=>j<=i/\∀q (hq:q<k.fields.length),q<j->k.fields[q].name≠k.fields[i].name) (λj=>i-j) 0 ⟨by omega,by omega⟩ ⟨.cons rfl (.cons rfl (.cons rfl (.cons rfl (.cons rfl (.cons rfl (.cons rfl (.cons rfl (.cons rfl .nil)))))))),by exact Sub.f⟩ ?_
  rintro j ⟨hj,hne⟩;refine KK ?_;refine AWP.cond rfl (λhd=>?_) (λhd=>?_)
  ·have hd:j<i:=by rw[hmt]at hd;simpa using hd
   have hat:((k.fields.map fieldA).take i)[j]?=some (fieldA (k.fields[j]'(by omega))):=by rw[List.getElem?_take_of_lt hd];exact BB _ _
   (iterate 5 refine WK ?_);refine AOps.gN ?_;refine AOps.p (W.idxL rfl rfl rfl hat) rfl ?_;refine KK ?_;refine Ai λX=>?_;refine KK ?_
   refine AWP.cond rfl (λhq=>?_) (λhq=>?_)
   ·have hq:(k.fields[j]'(by omega)).name=k.fields[i].name:=by simpa using hq
    refine JA ?_;refine BE rfl rfl (by exact Sub.f) ⟨?_,rfl⟩;rw[e1,he,F7 h,Jb hc (j:=j) (by simp;omega) (by simpa using hq)]
   ·have hq:(k.fields[j]'(by omega)).name≠k.fields[i].name:=by simpa using hq
    refine KK ?_;refine⟨j+1,⟨by omega,λq hq1 hq2=>?_⟩,by omega,.cons rfl (.cons rfl (.cons rfl (.cons rfl (.cons rfl (.cons rfl (.cons rfl (.cons rfl (.cons rfl .nil)))))))),by exact Sub.f⟩;by_cases e:q=j
    ·subst e;exact hq
    ·exact hne q hq1 (by omega)
  ·have hd:¬j<i:=by rw[hmt]at hd;simpa using hd
   refine KK ?_;refine⟨i+1,⟨by omega,?_⟩,by omega,.cons rfl (.cons rfl (.cons rfl (.cons rfl .nil))),by exact Sub.f⟩;rw[he,F7 h,K3 hc λq hq=>?_,List.take_add_one,AE h]
   ·rfl
   ·simp only[List.getElem_take]
    exact hne q (by simp at hq;omega) (by simp at hq;omega)
 ·have h:¬i<k.fields.length:=by simpa using hb
  refine JA ?_;refine BE rfl rfl (by exact Sub.f) ⟨?_,rfl⟩;rw[e1,he,Lv (by omega)]
theorem HU{k:Kind}(h:BX k=0):k.fields.length<=8:=by
 unfold BX at h;split at h
 ·split at h
  ·cases h
  ·omega
 ·cases h
def Ig(k:Kind)(vals:List Int)(i:Nat):List Int:=(List.zipWith BS k.fields vals).take i++List.replicate (vals.length-i) 0
theorem Vg{k:Kind}{vals:List Int}{i:Nat}(hl:vals.length=k.fields.length)(h:i<vals.length):((Ig k vals i).map iA)[i]?=some (iA 0):=by
 have hz:(List.zipWith BS k.fields vals).length=vals.length:=by simp;omega
 rw[AG,Ig,List.getElem?_append_right (by simp;omega)];rw[Ah,Nat.min_eq_left (by omega),Nat.sub_self,List.getElem?_replicate,if_pos (by omega)];rfl
theorem UB{k:Kind}{vals:List Int}{i:Nat}(hl:vals.length=k.fields.length)(h:i<vals.length):((Ig k vals i).map iA).set i (iA (BS (k.fields[i]'(by omega)) vals[i]))=(Ig k vals (i+1)).map iA:=by
 have hz:(List.zipWith BS k.fields vals).length=vals.length:=by simp;omega
 rw[<-List.map_set]
 congr 1
 unfold Ig;rw[List.set_append_right _ _ (by simp;omega),Ah,Nat.min_eq_left (by omega),Nat.sub_self];rw[show vals.length-i=(vals.length-(i+1))+1 from by omega,List.replicate_succ,List.set_cons_zero];rw[List.take_add_one,AE (by omega),AP];simp
theorem QJ(k:Kind)(vals:List Int):PS Tryz.prog 135 [BA false k,AN false vals] (.tup [AN true (BW k vals).1,iA (BW k vals).2]):=by
 refine Sp (nt:=43) (res:=[.tmp 4,.tmp 5]) Tryz.func135 λSf=>?_
 refine WK ?_;refine WK ?_;refine AOps.gN ?_;refine AOps.rs λB=>?_;refine AOps.s (W.box rfl .here rfl) rfl ?_;(iterate 7 refine WK ?_);refine AOps.gN ?_;refine AOps.p (W.call1 rfl (Ta _) rfl) rfl ?_;refine KK ?_
 refine AWP.cond rfl (λhb=>?_) (λhb=>?_)
 ·have hb:BX k≠0:=by simpa using hb
  refine JA ?_;rw[show BW k vals=([],BX k)from by simp[BW,hb]];exact⟨[.prim (.slice none 0 0),iA (BX k)],[AN true [],iA (BX k)],_,[],.cons (.tmp rfl) rfl (.cons (.tmp rfl) rfl .nil),.cons (.cell .nil) (.cons (.cell .same) .nil),by exact Sub.f,rfl,rfl⟩
 have hk:BX k=0:=by simpa using hb
 have h8:=HU hk;refine KK ?_;refine AWP.cond rfl (λhb=>?_) (λhb=>?_)
 ·have hb:vals.length≠k.fields.length:=by rw[AF,AB,AB]at hb;omega
  refine JA ?_;rw[show BW k vals=([],1)from by simp[BW,hk,hb]];exact⟨[.prim (.slice none 0 0),iA 1],[AN true [],iA 1],_,[],.cons (.tmp rfl) rfl (.cons (.tmp rfl) rfl .nil),.cons (.cell .nil) (.cons (.cell .same) .nil),by exact Sub.f,rfl,rfl⟩
 have hl:vals.length=k.fields.length:=by rw[AQ,AB,AB]at hb;omega
 have hv:(vals.map iA).length<=8:=by simp;omega
 have hz:List.replicate (vals.map iA).length (zAV [.int .i64 0] false)=(Ig k vals 0).map iA:=by simp[Ig];exact .inr rfl
 (iterate 5 refine WK ?_);refine AOps.gN ?_;refine AOps.rs λXL=>?_;refine AOps.s (W.make rfl rfl .here rfl (.inr rfl) rfl rfl (Nat.le_refl _) (by omega) (Nat.le_trans hv (by decide))) rfl ?_;(iterate 11 refine WK ?_);refine CG (λi:Nat=>⟨[(1,AN false vals),(7,.sl XL 0 (vals.map iA).length),(25,Ee false k.fields),(26,iA (k.fields.map fieldA).length),(27,iA i)],(XL,.row 3 1 ((Ig k vals i).map iA))::(B,.row 118 2 [BA false k])::Sf⟩) (λi=>i<=vals.length) (λi=>vals.length-i) 0 (Nat.zero_le _) ⟨.cons rfl (.cons rfl (.cons rfl (.cons rfl (.cons rfl .nil)))),(by show List.Sublist ((XL,.row 3 1 ((Ig k vals 0).map iA))::(B,.row 118 2 [BA false k])::Sf) _;rw[<-hz];exact Sub.f)⟩ ?_
 rintro i hi;refine KK ?_;refine AWP.cond rfl (λhb=>?_) (λhb=>?_)
 ·have h:i<vals.length:=by rw[AF,AB]at hb;omega
  have h':i<k.fields.length:=by omega
  (iterate 6 refine WK ?_);refine AOps.gN ?_;refine AOps.p (W.idxL rfl rfl rfl (BB _ h')) rfl ?_;refine KK ?_;refine Ai λX=>?_;refine KK ?_
  refine RU ?_;(iterate 5 refine RK ?_);refine RGo.gN ?_;refine RGo.p (W.idxL rfl rfl rfl (BB _ h)) rfl ?_;refine RK ?_;refine RGo.gN ?_;refine RGo.p (W.call2 rfl rfl (Q5 _ _) rfl) rfl ?_;refine RGo.gN ?_;refine RGo.p (W.idx rfl rfl (by exact At.f) rfl (by simpa using h) (Nat.zero_add _)) rfl ?_;refine RGo.gN ?_;refine RGo.s (W.store rfl rfl (by exact At.f) (Vg hl h) (by exact rfl)) rfl ?_;refine RGo.nil (by kernel_rfl) ?_;refine KK ?_;refine⟨i+1,by omega,by omega,.cons rfl (.cons rfl (.cons rfl (.cons rfl (.cons rfl .nil)))),?_⟩;show List.Sublist ((XL,.row 3 1 ((Ig k vals (i+1)).map iA))::(B,.row 118 2 [BA false k])::Sf) _
  rw[<-UB hl h];exact Sub.f
 ·have h:¬i<vals.length:=by rw[AQ,AB]at hb;omega
  refine JA ?_;rw[show BW k vals=(List.zipWith BS k.fields vals,0)from by simp[BW,hk,hl]]
  have he:(Ig k vals i).map iA=(List.zipWith BS k.fields vals).map iA:=by
   congr 1
   rw[Ig,show vals.length-i=0 from by omega,List.take_of_length_le (by simp;omega)];simp
  refine⟨[.sl XL 0 (vals.map iA).length,iA 0],[.lst true 3 1 ((Ig k vals i).map iA),iA 0],_,[],.cons (.tmp rfl) rfl (.cons (.tmp rfl) rfl .nil),.cons (.cell (.sl (p:=0) .here (by rw[he];simp;omega))) (.cons (.cell .same) .nil),by exact Sub.f,?_,rfl⟩;rw[he];rfl
theorem QK{k:Kind}{vals:List Int}(h:(BW k vals).2=0):(BW k vals).1.length=vals.length/\vals.length<=8:=by
 unfold BW at h⊢;split
 ·rename_i h1;rw[if_pos h1]at h;exact absurd h h1
 ·rename_i h1
  rw[if_neg h1]at h;split
  ·rename_i h2;rw[if_pos h2]at h;cases h
  ·rename_i h2;have:=HU (Decidable.not_not.1 h1);simp;omega
theorem T1(k:Kind)(vals:List Int):PS Tryz.prog 205 [BA false k,AN false vals] (bA (Bq k vals)):=by
 refine Sp (nt:=31) (res:=[.tmp 4]) Tryz.func205 λSf=>?_
 have hfr:(AV.tup [AN true (BW k vals).1,iA (BW k vals).2]).frz= .tup [AN false (BW k vals).1,iA (BW k vals).2]:=by
  show AV.tup [(AN true (BW k vals).1).frz,_]=_
  rw[SJ];rfl
 refine KK ?_;refine Ai λX=>?_;(iterate 6 refine WK ?_);refine AOps.gN ?_;refine AOps.p (W.callF2 rfl rfl (QJ _ _) rfl hfr) rfl ?_;refine KK ?_
 refine AWP.cond rfl (λhb=>?_) (λhb=>?_)
 ·have hb:(BW k vals).2≠0:=by simpa using hb
  refine JA ?_;refine BE rfl rfl (by exact Sub.f) ⟨?_,rfl⟩;simp[Bq,hb]
 have hb:(BW k vals).2=0:=by simpa using hb
 obtain⟨hlen,h8⟩:=QK hb;obtain⟨fl,hfl⟩:∃fl,fl=(BW k vals).1:=⟨_,rfl⟩;rw[<-hfl]at hlen;rw[show Bq k vals=decide (fl=vals)from by simp[Bq,hb,hfl]];rw[<-hfl];clear hfr
 (iterate 9 refine WK ?_);refine CG (λi:Nat=>⟨[(1,AN false vals),(5,AN false fl),(17,iA (fl.map iA).length),(18,iA i)],Sf⟩) (λi=>i<=vals.length/\∀j (h:j<vals.length),j<i->fl[j]'(by omega)=vals[j]) (λi=>vals.length-i) 0 ⟨Nat.zero_le _,λj h hj=>absurd hj (by omega)⟩ ⟨.cons rfl (.cons rfl (.cons rfl (.cons rfl .nil))),by exact Sub.f⟩ ?_
 rintro i ⟨hi,he⟩;refine KK ?_;refine AWP.cond rfl (λhc=>?_) (λhc=>?_)
 ·have h:i<fl.length:=by rw[AF,AB]at hc;omega
  have h':i<vals.length:=by omega
  refine KK ?_;refine RU ?_;refine JG ?_;refine RGo.gN ?_;refine RGo.p (W.idxL rfl rfl rfl (BB _ h)) rfl ?_;(iterate 3 refine RK ?_);refine RGo.gN ?_;refine RGo.p (W.idxL rfl rfl rfl (BB _ h')) rfl ?_;refine JG ?_;refine RGo.nil (by kernel_rfl) ?_;refine WK ?_;refine AWP.cond rfl (λhd=>?_) (λhd=>?_)
  ·have hd:fl[i]≠vals[i]:=by simpa using hd
   refine JA ?_;refine BE rfl rfl (by exact Sub.f) ⟨?_,rfl⟩;rw[AY (λe=>hd (by subst e;rfl))]
  ·have hd:fl[i]=vals[i]:=by simpa using hd
   refine KK ?_;refine⟨i+1,⟨by omega,λj h1 h2=>?_⟩,by omega,.cons rfl (.cons rfl (.cons rfl (.cons rfl .nil))),by exact Sub.f⟩;by_cases e:j=i
   ·subst e;exact hd
   ·exact he j h1 (by omega)
 ·have h:¬i<fl.length:=by rw[AQ,AB]at hc;omega
  refine JA ?_;refine BE rfl rfl (by exact Sub.f) ⟨?_,rfl⟩;rw[Ae (List.ext_getElem hlen λj h1 h2=>he j h2 (by omega))]
theorem Vj(l:List Kind)(name:List UInt8)(hl:l.length<=1099511627776):PS Tryz.prog 204 [An false false l,sA name] (iA (DD l name)):=by
 refine Sp (nt:=20) (res:=[.tmp 4]) Tryz.func204 λSf=>?_
 (iterate 12 refine WK ?_);refine CG (λi:Nat=>⟨[(1,sA name),(7,An false false l),(8,iA (l.map (BA false)).length),(9,iA i)],Sf⟩) (λi=>i<=l.length/\∀j (h:j<l.length),j<i->l[j].name≠name) (λi=>l.length-i) 0 ⟨by omega,by omega⟩ ⟨.cons rfl (.cons rfl (.cons rfl (.cons rfl .nil))),List.Sublist.refl _⟩ ?_
 rintro i ⟨hi,hn⟩;refine KK ?_;refine AWP.cond rfl (λhb=>?_) (λhb=>?_)
 ·have h:i<l.length:=by simpa using hb
  (iterate 6 refine WK ?_);refine AOps.gN ?_;refine AOps.p (W.idxL rfl rfl rfl (BB _ h)) rfl ?_;refine KK ?_;refine Ai λX=>?_;refine KK ?_
  refine AWP.cond rfl (λhc=>?_) (λhc=>?_)
  ·have hc:l[i].name=name:=by simpa using hc
   refine JA ?_;refine BE rfl rfl (by exact Sub.f) ⟨?_,rfl⟩;rw[Lu h hc λj hj=>hn j (by omega) hj]
  ·have hc:l[i].name≠name:=by simpa using hc
   refine KK ?_;refine⟨i+1,⟨by omega,λj hj hji=>?_⟩,by omega,.cons rfl (.cons rfl (.cons rfl (.cons rfl .nil))),by exact Sub.f⟩;by_cases e:j=i
   ·subst e;exact hc
   ·exact hn j hj (by omega)
 ·have h:¬i<l.length:=by simpa using hb
  refine JA ?_;refine BE rfl rfl (by exact Sub.f) ⟨?_,rfl⟩;rw[HI λj hj=>hn j hj (by omega)]
theorem LI(l:List Kind):PS Tryz.prog 131 [An false false l] (iA (Ag l)):=by
 refine Sp (nt:=29) (res:=[.tmp 2]) Tryz.func131 λSf=>?_
 refine KK ?_;refine AWP.cond rfl (λhb=>?_) (λhb=>?_)
 ·refine KK ?_
  refine RT ?_;refine BE rfl rfl (by exact Sub.f) ⟨?_,rfl⟩;have hb:16<l.length:=by rw[AF,AB]at hb;omega
  rw[show Ag l=2 from by simp[Ag,hb]]
 have hl:l.length<=16:=by rw[AQ,AB]at hb;omega
 have e1:Ag l=Bu [] l:=by simp[Ag];omega
 (iterate 9 refine WK ?_);refine CG (λi:Nat=>⟨[(0,An false false l),(9,An false false l),(10,iA (l.map (BA false)).length),(11,iA i)],Sf⟩) (λi=>i<=l.length/\Bu [] l=Bu (l.take i) (l.drop i)) (λi=>l.length-i) 0 ⟨by omega,rfl⟩ ⟨.cons rfl (.cons rfl (.cons rfl (.cons rfl .nil))),by exact Sub.f⟩ ?_
 rintro i ⟨hi,he⟩;refine KK ?_;refine AWP.cond rfl (λhb=>?_) (λhb=>?_)
 ·have h:i<l.length:=by simpa using hb
  (repeat first|(refine AOps.gN ?_;first|refine AOps.p (W.idxL rfl rfl rfl (BB _ h)) rfl ?_|refine AOps.p (W.call1 rfl (Ta _) rfl) rfl ?_)|refine WK ?_|refine Ai λX=>?_|refine Ay λY=>?_);refine AWP.cond rfl (λhc=>?_) (λhc=>?_)
  ·have hc:BX l[i]≠0:=by simpa using hc
   refine JA ?_;refine BE rfl rfl (by exact Sub.f) ⟨?_,rfl⟩;rw[e1,he,GT h,NU hc];rfl
  have hc:BX l[i]=0:=by simpa using hc
  have hf:PS Tryz.prog 204 [.lst false 118 2 ((l.map (BA false)).take i),sA l[i].name] (iA (DD (l.take i) l[i].name)):=by
   have:=Vj (l.take i) l[i].name (by simp;omega);simpa only[An,List.map_take]using this
  refine KK ?_;refine RU ?_;refine JG ?_;refine RGo.gN ?_;refine RGo.p (W.hiL rfl rfl rfl (by simp;omega)) rfl ?_;refine JG ?_;refine RGo.gN ?_;refine RGo.p (W.call2 rfl rfl hf rfl) rfl ?_;refine RK ?_;refine RGo.nil (by kernel_rfl) ?_;refine WK ?_;refine AWP.cond rfl (λhd=>?_) (λhd=>?_)
  ·have hd:0<=DD (l.take i) l[i].name:=by simpa using hd
   refine JA ?_;refine BE rfl rfl (by exact Sub.f) ⟨?_,rfl⟩;rw[e1,he,GT h,Kb hc hd]
  ·have hd:DD (l.take i) l[i].name<0:=by simpa using hd
   refine KK ?_;refine⟨i+1,⟨by omega,?_⟩,by omega,.cons rfl (.cons rfl (.cons rfl (.cons rfl .nil))),by exact Sub.f⟩;rw[he,GT h,Lm hc hd,List.take_add_one,AE h];rfl
 ·have h:¬i<l.length:=by simpa using hb
  refine JA ?_;refine BE rfl rfl (by exact Sub.f) ⟨?_,rfl⟩;rw[e1,he,NT (by omega)]
def Cm(ks:List Kind):Int->List Comp->Bool
 |_,[]=>true
 |last,c::l=>match ks[c.kind.toNat]? with
  |some k=>decide (last<c.kind)&&decide (c.kind<ks.length)&&Bq k c.vals&&Cm ks c.kind l
  |none=>false
def A7(ks:List Kind)(l:List Comp):Bool:=Cm ks (-1) l
theorem Og{ks:List Kind}{l:List Comp}{i:Nat}{last:Int}{k:Kind}{c:Comp}(h:i<l.length)(hc:l[i]=c)(hk:ks[c.kind.toNat]?=some k):Cm ks last (l.drop i)=(decide (last<c.kind)&&decide (c.kind<ks.length)&&Bq k c.vals&&Cm ks c.kind (l.drop (i+1))):=by
 rw[CD h,Cm,hc,hk]
theorem I2{ks:List Kind}{l:List Comp}{i:Nat}{last:Int}{c:Comp}(h:i<l.length)(hc:l[i]=c)(hn:c.kind<=last\/(ks.length:Int)<=c.kind):Cm ks last (l.drop i)=false:=by
 rw[CD h,Cm,hc];split
 ·rcases hn with hn|hn
  ·rw[AY (by omega)];rfl
  ·rw[AY (p:=c.kind<_) (by omega)];simp
 ·rfl
def B8(ks:List Kind)(gens:List Int):Int->List Item->Bool
 |_,[]=>true
 |last,it::l=>match gens[it.ent.n.toNat]? with
  |some g=>decide (last<it.ent.n)&&decide (it.ent.n<gens.length)&&decide (it.ent.gen=g)&& !decide (it.ent.gen=1073741824)&&A7 ks it.comps&&B8 ks gens it.ent.n l
  |none=>false
theorem NW{ks:List Kind}{gens:List Int}{l:List Item}{i:Nat}{last:Int}{g:Int}{it:Item}(h:i<l.length)(hc:l[i]=it)(hk:gens[it.ent.n.toNat]?=some g):B8 ks gens last (l.drop i)=(decide (last<it.ent.n)&&decide (it.ent.n<gens.length)&&decide (it.ent.gen=g)&& !decide (it.ent.gen=1073741824)&&A7 ks it.comps&&B8 ks gens it.ent.n (l.drop (i+1))):=by
 rw[CD h,B8,hc,hk]
theorem H1{ks:List Kind}{gens:List Int}{l:List Item}{i:Nat}{last:Int}{it:Item}(h:i<l.length)(hc:l[i]=it)(hn:it.ent.n<=last\/(gens.length:Int)<=it.ent.n):B8 ks gens last (l.drop i)=false:=by
 rw[CD h,B8,hc];split
 ·rcases hn with hn|hn
  ·rw[AY (by omega)];rfl
  ·rw[AY (p:=it.ent.n<_) (by omega)];simp
 ·rfl
def HZ(l:List Int):Bool:=l.all λg=>decide (0<=g)&&decide (g<=1073741824)
def Cs(w:Wd):Int:=
 if Ag w.kinds≠0 then Ag w.kinds
 else if 256<w.gens.length\/w.gens.length<w.items.length then 2
 else if HZ w.gens=false then 3
 else if B8 w.kinds w.gens (-1) w.items=false then 3 else 0
theorem Vb(ks:List Kind)(l:List Comp)(hl:l.length<=1099511627776):PS Tryz.prog 132 [An false false ks,Aw false false l] (bA (A7 ks l)):=by
 refine Sp (nt:=39) (res:=[.tmp 4]) Tryz.func132 λSf=>?_
 have hlm:(l.map (AH false)).length=l.length:=AB _;refine KK ?_;refine BZ (λ(i:Nat) (last:Int)=>⟨[(0,An false false ks),(5,iA last),(8,Aw false false l),(9,iA (l.map (AH false)).length),(10,iA i)],Sf⟩) (λi last=>i<=l.length/\ -1<=last/\Cm ks last (l.drop i)=A7 ks l) (λi _=>l.length-i) 0 (-1) ⟨Nat.zero_le _,by omega,rfl⟩ ?_;rintro i last ⟨hi,hla,he⟩;refine KK ?_;refine AWP.cond rfl (λhc=>?_) (λhc=>?_)
 ·have h:i<l.length:=by rw[AF,hlm]at hc;omega
  obtain⟨⟨ck,cv⟩,hcc⟩:=nm (l[i]);have hat:(l.map (AH false))[i]?=some (AH false ⟨ck,cv⟩):=by rw[AG,AE h,hcc];rfl
  refine KK ?_;refine Ai λX=>?_;refine KK ?_
  rcases Bool.eq_false_or_eq_true (decide (ck<=last))with g1|g1
  ·refine RU ?_;(repeat first|(refine RGo.gQ ?_;first|refine RGo.goNU ?_|refine RGo.goNV ?_)|refine RK ?_|refine RGo.nil (by kernel_rfl) ?_)
   refine AM rfl (by first|rfl|assumption) ?_;refine JA ?_;refine AI ?_;rw[<-he,I2 h hcc (.inl (by simpa using g1))]
  ·obtain⟨n,rfl⟩:∃n:Nat,ck=n:=⟨ck.toNat,by rw[AQ]at g1;omega⟩
   rcases Bool.eq_false_or_eq_true (decide (((ks.map (BA false)).length:Int)<=n))with g2|g2
   ·refine RU ?_;(repeat first|(refine RGo.gQ ?_;first|refine RGo.goNU ?_|refine RGo.goNV ?_)|refine RK ?_|refine RGo.nil (by kernel_rfl) ?_)
    refine AM rfl (by first|rfl|assumption) ?_;refine JA ?_;refine AI ?_;rw[<-he,I2 h hcc (.inr (by rw[AF,AB]at g2;exact g2))]
   ·have hkl:n<ks.length:=by rw[AQ,AB]at g2;omega
    obtain⟨k,hk⟩:=nm (ks[n]);have hka:ks[n]?=some k:=by rw[AE hkl,hk]
    have hat2:(ks.map (BA false))[n]?=some (BA false k):=by rw[AG,hka];rfl
    have hst:=Og (last:=last) (k:=k) h hcc hka;dsimp only at hst;rw[Ae (by rw[AQ]at g1;omega),Ae (p:=(n:Int)<_) (by omega),Bool.true_and,Bool.true_and,he]at hst;have hh:=T1 k cv;obtain⟨b,hb⟩:=nm (Bq k cv);rw[hb]at hst hh;cases b
    ·refine JL ?_;refine RGo.g_callf ?_;refine RGo.c2 (h:=(hh ..)) (k:=?_);refine JG ?_;refine RGo.nil (by kernel_rfl) ?_
     refine AM rfl (by first|rfl|assumption) ?_;refine JA ?_;refine AI ?_;rw[hst];rfl
    ·refine JL ?_;refine RGo.g_callf ?_;refine RGo.c2 (h:=(hh ..)) (k:=?_);refine JG ?_;refine RGo.nil (by kernel_rfl) ?_
     refine AA rfl (by first|rfl|assumption) ?_;refine KK ?_;refine A8 (i+1) n ⟨h,by omega,hst.symm⟩
 ·have h:i=l.length:=by rw[AQ,hlm]at hc;omega
  subst h;refine JA ?_;refine AI ?_;rw[<-he,List.drop_length];rfl
theorem Es(w:Wd)(hg:w.gens.length<=1099511627776)(hi:w.items.length<=1099511627776)(hc:∀it∈w.items,it.comps.length<=1099511627776):PS Tryz.prog 60 [wdA false w] (iA (Cs w)):=by
 have hck:=LI w.kinds;obtain⟨ke,hke⟩:=nm (Ag w.kinds);obtain⟨we,hwe⟩:=nm (Cs w);rw[hwe];unfold Cs at hwe;rw[hke]at hck hwe;obtain⟨ks,gens,items⟩:=w;dsimp only at hwe hg hi hc hck hke;refine Sp (nt:=94) (res:=[.tmp 2]) Tryz.func60 λSf=>?_
 have hgm:(gens.map iA).length=gens.length:=AB _;have him:(items.map (AD false)).length=items.length:=AB _;refine RG ?_;refine AOps.g_box ?_;refine Aj ?_;refine JD ?_;refine JN ?_;refine AOps.g_callf ?_;refine AOps.c1 (h:=(hck ..)) (k:=?_);refine JD ?_;refine KK ?_;refine AWP.cond rfl (λhd=>?_) (λhd=>?_)
 ·have hd:ke≠0:=by simpa using hd
  refine JA ?_;refine AI ?_;rw[<-hwe,if_pos hd]
 have hd:ke=0:=by simpa using hd
 rw[if_neg (by simp[hd])]at hwe;rcases Bool.eq_false_or_eq_true (decide (256<((gens.map iA).length:Int)))with g1|g1
 ·refine KK ?_
  refine AM rfl (by first|rfl|assumption) ?_;refine JA ?_;refine AI ?_;rw[<-hwe,if_pos (.inl (by rw[AF,hgm]at g1;omega))]
 rcases Bool.eq_false_or_eq_true (decide (((gens.map iA).length:Int)<(items.map (AD false)).length))with g2|g2
 ·refine KK ?_
  refine AM rfl (by first|rfl|assumption) ?_;refine JA ?_;refine AI ?_;rw[<-hwe,if_pos (.inr (by rw[AF,hgm,him]at g2;omega))]
 refine KK ?_;refine AA rfl (by first|rfl|assumption) ?_;rw[if_neg (by rw[AQ,hgm]at g1;rw[AQ,hgm,him]at g2;omega)]at hwe;refine KK ?_;refine BJ (λi:Nat=>⟨[(1,.fp (wdA false ⟨ks,gens,items⟩).cells),(29,AN false gens),(30,iA (gens.map iA).length),(31,iA i)],Sf⟩) (λi=>i<=gens.length/\∀j (h:j<gens.length),j<i->0<=gens[j]/\gens[j]<=1073741824) (λi=>gens.length-i) 0 ⟨Nat.zero_le _,λj h hj=>absurd hj (by omega)⟩ ?_;rintro i ⟨hil,hgo⟩;refine KK ?_;refine AWP.cond rfl (λhe=>?_) (λhe=>?_)
 ·have h:i<gens.length:=by rw[AF,hgm]at he;omega
  obtain⟨x,hx⟩:=nm (gens[i]);have hat:(gens.map iA)[i]?=some (iA x):=by rw[AG,AE h,hx];rfl
  have hbad:¬(0<=x/\x<=1073741824)->HZ gens=false:=λhn=>by
   unfold HZ;rw[List.all_eq_false];refine⟨x,hx▸AK h,?_⟩;simp only[Bool.and_eq_true,AF];exact hn
  refine KK ?_;refine AWP.cond rfl (λhf=>?_) (λhf=>?_)
  ·have hf:¬(0<=x/\x<=1073741824):=by simp at hf;omega
   refine JA ?_;refine AI ?_;rw[<-hwe,if_pos (hbad hf)]
  ·have hf:0<=x/\x<=1073741824:=by simp at hf;omega
   refine KK ?_;refine Af (i+1) ⟨h,λj h1 h2=>?_⟩;by_cases e:j=i
   ·subst e;rw[hx];exact hf
   ·exact hgo j h1 (by omega)
 have hgok:HZ gens=true:=by
  have h:i=gens.length:=by rw[AQ,hgm]at he;omega
  unfold HZ;rw[List.all_eq_true];intro x hx;obtain⟨j,hj,rfl⟩:=List.getElem_of_mem hx;simp only[Bool.and_eq_true,AF];exact hgo j hj (by omega)
 rw[if_neg (by simp[hgok])]at hwe;refine KK ?_;refine BZ (λ(i:Nat) (last:Int)=>⟨[(1,.fp (wdA false ⟨ks,gens,items⟩).cells),(6,iA last),(43,HX false false items),(44,iA (items.map (AD false)).length),(45,iA i)],Sf⟩) (λi last=>i<=items.length/\ -1<=last/\B8 ks gens last (items.drop i)=B8 ks gens (-1) items) (λi _=>items.length-i) 0 (-1) ⟨Nat.zero_le _,by omega,rfl⟩ ?_;clear hil hgo he i;rintro i last ⟨hil,hla,he⟩;refine KK ?_;refine AWP.cond rfl (λhd'=>?_) (λhd'=>?_)
 ·have h:i<items.length:=by rw[AF,him]at hd';omega
  obtain⟨⟨⟨en,eg⟩,cs⟩,hit⟩:=nm (items[i]);have hat:(items.map (AD false))[i]?=some (AD false ⟨⟨en,eg⟩,cs⟩):=by rw[AG,AE h,hit];rfl
  have hcl:=hc _ (hit▸AK h);dsimp only at hcl;refine KK ?_;refine Ai λX=>?_;refine KK ?_
  rcases Bool.eq_false_or_eq_true (decide (en<=last))with q1|q1
  ·refine RU ?_;(repeat first|(refine RGo.gQ ?_;first|refine RGo.goNU ?_|refine RGo.goNV ?_)|refine RK ?_|refine RGo.nil (by kernel_rfl) ?_)
   refine AM rfl (by first|rfl|assumption) ?_;refine JA ?_;refine AI ?_;rw[<-hwe,if_pos (by rw[<-he,H1 h hit (.inl (by simpa using q1))])]
  obtain⟨n,rfl⟩:∃n:Nat,en=n:=⟨en.toNat,by rw[AQ]at q1;omega⟩;rcases Bool.eq_false_or_eq_true (decide (((gens.map iA).length:Int)<=n))with q2|q2
  ·refine RU ?_;(repeat first|(refine RGo.gQ ?_;first|refine RGo.goNU ?_|refine RGo.goNV ?_)|refine RK ?_|refine RGo.nil (by kernel_rfl) ?_)
   refine AM rfl (by first|rfl|assumption) ?_;refine JA ?_;refine AI ?_;rw[<-hwe,if_pos (by rw[<-he,H1 h hit (.inr (by rw[AF,hgm]at q2;exact q2))])]
  have hkl:n<gens.length:=by rw[AQ,hgm]at q2;omega
  obtain⟨g,hg'⟩:=nm (gens[n]);have hga:gens[n]?=some g:=by rw[AE hkl,hg']
  have hat2:(gens.map iA)[n]?=some (iA g):=by rw[AG,hga];rfl
  have hst:=NW (ks:=ks) (last:=last) (g:=g) h hit hga;dsimp only at hst;rw[Ae (by rw[AQ]at q1;omega),Ae (p:=(n:Int)<_) (by omega),Bool.true_and,Bool.true_and,he]at hst;rcases Bool.eq_false_or_eq_true (decide (eg≠g))with q3|q3
  ·refine RU ?_;(repeat first|(refine RGo.gQ ?_;first|refine RGo.goNU ?_|refine RGo.goNV ?_)|refine RK ?_|refine RGo.nil (by kernel_rfl) ?_)
   refine AM rfl (by first|rfl|assumption) ?_;refine JA ?_;refine AI ?_;rw[<-hwe,if_pos (by rw[hst,AY (by simpa using q3)];rfl)]
  rcases Bool.eq_false_or_eq_true (decide (eg=1073741824))with q4|q4
  ·refine RU ?_;(repeat first|(refine RGo.gQ ?_;first|refine RGo.goNU ?_|refine RGo.goNV ?_)|refine RK ?_|refine RGo.nil (by kernel_rfl) ?_)
   refine AM rfl (by first|rfl|assumption) ?_;refine JA ?_;refine AI ?_;rw[<-hwe,if_pos (by rw[hst,q4];simp)]
  have hh:=Vb ks cs hcl;obtain⟨b,hb⟩:=nm (A7 ks cs);rw[Ae (p:=eg=g) (by simpa using q3),q4,hb,Bool.true_and,Bool.not_false,Bool.true_and]at hst;rw[hb]at hh;cases b
  ·refine JL ?_;refine RGo.g_callf ?_;refine RGo.c2 (h:=(hh ..)) (k:=?_);refine JG ?_;refine RGo.nil (by kernel_rfl) ?_
   refine AM rfl (by first|rfl|assumption) ?_;refine JA ?_;refine AI ?_;rw[<-hwe,if_pos (by rw[hst];rfl)]
  ·refine JL ?_;refine RGo.g_callf ?_;refine RGo.c2 (h:=(hh ..)) (k:=?_);refine JG ?_;refine RGo.nil (by kernel_rfl) ?_
   refine AA rfl (by first|rfl|assumption) ?_;refine KK ?_;refine A8 (i+1) n ⟨h,by omega,hst.symm⟩
 ·have h:i=items.length:=by rw[AQ,him]at hd';omega
  refine JA ?_;refine AI ?_;rw[<-hwe,if_neg (by rw[<-he,h,List.drop_length];simp[B8])]
theorem Kg(a:Int):PS Tryz.prog 138 [iA a] (bA false):=by
 refine Sp (nt:=6) (res:=[.tmp 2]) Tryz.func138 λSf=>?_
 refine JA ?_;refine AI ?_;have:decide (a≠a)=false:=AY (by simp);rw[this]
def Cp(a b:Int):Int:=if a<b then-1 else if b<a then 1 else 0
theorem E9(a b:Int):PS Tryz.prog 65 [iA a,iA b] (iA (Cp a b)):=by
 refine Sp (nt:=20) (res:=[.tmp 4]) Tryz.func65 λSf=>?_
 refine KK ?_;refine AOps.g_callf ?_;refine AOps.c1 (h:=(Kg a)) (k:=?_);refine KK ?_;refine AOps.g_callf ?_;refine AOps.c1 (h:=(Kg b)) (k:=?_);refine KK ?_;refine AA rfl rfl ?_;refine KK ?_;refine AA rfl rfl ?_;refine KK ?_;refine AWP.cond rfl (λh=>?_) (λh=>?_)
 ·have h:a<b:=by simpa using h
  refine JA ?_;refine AI ?_;rw[Cp,if_pos h]
 ·have h:¬a<b:=by simpa using h
  refine KK ?_;refine AWP.cond rfl (λh2=>?_) (λh2=>?_)
  ·have h2:b<a:=by simpa using h2
   refine JA ?_;refine AI ?_;rw[Cp,if_neg h,if_pos h2]
  ·have h2:¬b<a:=by simpa using h2
   refine JA ?_;refine AI ?_;rw[Cp,if_neg h,if_neg h2]
def ER{α:Type}(l:List α)(p:α->Bool):Int:=match l.findIdx? p with
 |some i=>i
 |none=>-1
theorem Ep{α:Type}{l:List α}{p:α->Bool}(h:∀j (hj:j<l.length),p l[j]=false):ER l p= -1:=by
 have:l.findIdx? p=none:=by
  rw[List.findIdx?_eq_none_iff];intro x hx;obtain⟨j,hj,rfl⟩:=List.getElem_of_mem hx;exact h j hj
 simp[ER,this]
theorem Eo{α:Type}{l:List α}{p:α->Bool}{i:Nat}(hi:i<l.length)(e:p l[i]=true)(h:∀j (hj:j<i),p (l[j]'(by omega))=false):ER l p=i:=by
 have:l.findIdx? p=some i:=by
  rw[List.findIdx?_eq_some_iff_getElem];exact⟨hi,e,λj hj=>by simpa using h j hj⟩
 simp[ER,this]
theorem Km{α:Type}(l:List α)(p:α->Bool):decide ((0:Int)<=ER l p)=l.any p:=by
 unfold ER;cases h:l.findIdx? p with
 |none=>
  rw[List.findIdx?_eq_none_iff]at h;have:l.any p=false:=List.any_eq_false.2 λx hx=>by rw[h x hx];simp
  rw[this];rfl
 |some i=>
  obtain⟨hi,e,_⟩:=List.findIdx?_eq_some_iff_getElem.1 h;have:l.any p=true:=List.any_eq_true.2 ⟨_,AK hi,e⟩;rw[this];simp
theorem Kl{α:Type}(l:List α)(p:α->Bool): -1<=ER l p/\ER l p<l.length/\ER l p<=l.length:=by
 unfold ER;cases h:l.findIdx? p with
 |none=>simp;omega
 |some i=>
  obtain⟨hi,_⟩:=List.findIdx?_eq_some_iff_getElem.1 h;simp;omega
theorem Ln(l:List Item)(f:FuncId)(cap:List AV)(p:Item->Bool)(hs:B4 cap=true)(hl:l.length<=4611686018427387904)(hf:∀x∈l,PS Tryz.prog f ((AD false) x::cap) (bA (p x))):PS Tryz.prog 167 [.lst false 71 3 (l.map (AD false)),.fn f cap] (iA (ER l p)):=by
 refine Sp (nt:=19) (res:=[.tmp 4]) Tryz.func167 λSf=>?_
 refine KK ?_;refine BJ (λi:Nat=>⟨[(0,.lst false 71 3 (l.map (AD false))),(1,.fn f cap),(7,iA (l.map (AD false)).length),(8,iA i)],Sf⟩) (λi=>i<=l.length/\∀j (h:j<l.length),j<i->p l[j]=false) (λi=>l.length-i) 0 ⟨Nat.zero_le _,λj h hj=>absurd hj (by omega)⟩ ?_;rintro i ⟨hi,he⟩;refine KK ?_;refine AWP.cond rfl (λhc=>?_) (λhc=>?_)
 ·have h:i<l.length:=by simpa using hc
  refine KK ?_;refine AOps.g_callv ?_;refine G6 (h:=(hf _ (AK h))) (k:=?_);refine KK ?_;refine AWP.cond rfl (λhd=>?_) (λhd=>?_)
  ·refine KK ?_
   refine RT ?_;refine AI ?_;rw[Eo h hd λj hj=>he j (by omega) hj]
  ·refine KK ?_
   refine Af (i+1) ⟨h,λj h1 h2=>?_⟩;by_cases e:j=i
   ·subst e;exact hd
   ·exact he j h1 (by omega)
 ·have h:¬i<l.length:=by simpa using hc
  refine JA ?_;refine AI ?_;rw[Ep λj hj=>he j hj (by omega)]
def JO{α:Type}(g:α->Int)(l:List α):Prop:=∀(a b:Nat) (x y:α),a<=b->l[a]?=some x->l[b]?=some y->g y<0->g x<0
def Spl{α:Type}(g:α->Int)(l:List α)(i j:Nat):Prop:=(∀(k:Nat) (x:α),k<i->l[k]?=some x->g x<0)/\∀(k:Nat) (x:α),j<=k->l[k]?=some x->¬g x<0
structure Found{α:Type}(g:α->Int)(l:List α)(r:Nat×Bool):Prop where
 le:r.1<=l.length
 eq:r.2=true↔∃x,l[r.1]?=some x/\g x=0
 mono:JO g l->Spl g l r.1 r.1
theorem Spl.lo{α:Type}{g:α->Int}{l:List α}{i j m:Nat}{y:α}(hM:JO g l)(h:Spl g l i j)(hy:l[m]?=some y)(hg:g y<0):Spl g l (m+1) j:=
 ⟨λk x hk hx=>hM k m x y (by omega) hx hy hg,h.2⟩
theorem Spl.hi{α:Type}{g:α->Int}{l:List α}{i j m:Nat}{y:α}(hM:JO g l)(h:Spl g l i j)(hy:l[m]?=some y)(hg:¬g y<0):Spl g l i m:=
 ⟨h.1,λk x hk hx hx0=>hg (hM m k y x hk hy hx hx0)⟩
theorem UE(x:Item)(e:Ent):PS Tryz.prog 168 [AD false x,.fp (A6 e).cells] (bA (decide (x.ent=e))):=by
 have hE:=QQ x.ent.n x.ent.gen e.n e.gen;rw[show(decide (x.ent.n=e.n)&&decide (x.ent.gen=e.gen))=MG x.ent e from rfl,MF]at hE;refine Sp (nt:=8) (res:=[.tmp 3]) Tryz.func168 λSf=>?_
 refine WK ?_;refine WK ?_;refine AOps.g_box ?_;refine Aj ?_;(iterate 7 refine WK ?_);refine AOps.gN ?_;refine AOps.p (W.eqP _ _ (by kernel_rfl) hE rfl rfl) rfl ?_;refine JA ?_;refine AI ?_;rfl
def CY(l:List Item)(e:Ent):Int:=ER l λx=>decide (x.ent=e)
theorem UC(w:Wd)(e:Ent)(hl:w.items.length<=4611686018427387904):PS Tryz.prog 91 [wdA false w,A6 e] (iA (CY w.items e)):=by
 have h:=Ln w.items 168 [.fp (A6 e).cells] (λx=>decide (x.ent=e)) rfl hl (λx _=>UE x e);refine Sp (nt:=9) (res:=[.tmp 4]) Tryz.func91 λSf=>?_
 refine RG ?_;refine AOps.g_box ?_;refine Aj ?_;refine AOps.g_box ?_;refine Aj ?_;refine JD ?_;refine KK ?_;refine AOps.g_callf ?_;refine AOps.c2 (h:=(h ..)) (k:=?_);refine JA ?_;refine AI ?_;rfl
theorem Wn(c:Comp)(k:Int):PS Tryz.prog 142 [AH false c,iA k] (iA (Cp c.kind k)):=by
 refine Sp (nt:=9) (res:=[.tmp 4]) Tryz.func142 λSf=>?_
 refine WK ?_;refine WK ?_;refine AOps.g_box ?_;refine Aj ?_;refine KK ?_;refine AOps.g_callf ?_;refine AOps.c2 (h:=(E9 c.kind k)) (k:=?_);refine JA ?_;refine AI ?_;rfl
theorem Pi(l:List Comp)(t:AV)(f:FuncId)(cap:List AV)(g:Comp->Int)(t0:Int)(ht:t=iA t0)(hs:B4 cap=true)(hl:l.length<=4611686018427387904)(hf:∀x∈l,PS Tryz.prog f (AH false x::t::cap) (iA (g x))):
  Spec Tryz.prog 141 [Aw false false l,t,.fn f cap] [] λr S'=>∃b,Found g l b/\r= .tup [iA b.1,bA b.2]/\S'=[]:=by
 subst ht;refine Sp (nt:=49) (res:=[.tmp 6,.tmp 7]) Tryz.func141 λSf=>?_
 have hlm:(l.map (AH false)).length=l.length:=AB _;refine KK ?_;refine BZ (λ(i j:Nat)=>⟨[(0,Aw false false l),(1,iA t0),(2,.fn f cap),(8,iA (l.map (AH false)).length),(9,iA i),(10,iA j)],Sf⟩) (λi j=>i<=j/\j<=l.length/\(JO g l->Spl g l i j)) (λi j=>j-i) 0 (l.map (AH false)).length ⟨Nat.zero_le _,by omega,λ_=>⟨λk x h=>absurd h (by omega),λk x h hx=>by have:=(List.getElem?_eq_some_iff.1 hx).1;omega⟩⟩ ?_;rintro i j ⟨hij,hjn,hmono⟩;refine KK ?_;refine AWP.cond rfl (λhc=>?_) (λhc=>?_)
 ·have h:i<j:=by rw[AF]at hc;omega
  have hmid:((i:Int)+j).fdiv (2^1)=(((i+j)/2:Nat):Int):=by
   rw[Int.fdiv_eq_ediv_of_nonneg _ (by decide)];omega
  have hw1:IntKind.u64.wrap ((i:Int)+j)=i+j:=by rw[IntKind.wrap_u64];omega
  have hw2:IntKind.i64.wrap (((i:Int)+j).fdiv (2^1))=((i:Int)+j).fdiv (2^1):=by
   rw[IntKind.wrap_i64,hmid];omega
  refine RG ?_;(iterate 3 refine WO ?_);refine AOps.gN ?_;refine AOps.p (W.conv .i64 .u64 (by kernel_rfl) (by kernel_rfl) rfl hw1) rfl ?_;refine AOps.gN ?_;refine AOps.p (W.shr 1 rfl rfl rfl (by decide)) rfl ?_;refine AOps.gN ?_;refine AOps.p (W.conv .u64 .i64 (by kernel_rfl) (by kernel_rfl) rfl hw2) rfl ?_;refine JD ?_;rw[hmid];obtain⟨m,hm⟩:=nm ((i+j)/2);rw[hm];have hml:m<l.length:=by omega
  obtain⟨y,hy⟩:=nm (l[m]);have hya:l[m]?=some y:=by rw[AE hml,hy]
  have hat:(l.map (AH false))[m]?=some (AH false y):=by rw[AG,hya];rfl
  have hfy:=hf y (by rw[<-hy];exact AK hml);refine JN ?_;refine AOps.g_callv ?_;refine AOps.k2 (h:=(hfy ..)) (k:=?_);refine JD ?_;refine AWP.cond rfl (λhe=>?_) (λhe=>?_)
  ·have he:g y<0:=by simpa using he
   refine KK ?_;refine A8 (m+1) j ⟨by omega,hjn,λhM=>(hmono hM).lo hM hya he⟩
  ·have he:¬g y<0:=by simpa using he
   refine KK ?_;refine A8 i m ⟨by omega,by omega,λhM=>(hmono hM).hi hM hya he⟩
 ·have h:i=j:=by rw[AQ]at hc;omega
  subst h;by_cases hin:i<l.length
  ·have hil:i<l.length:=by omega
   have g1:decide ((i:Int)<(l.map (AH false)).length)=true:=Ae (by omega);obtain⟨y,hy⟩:=nm (l[i]);have hya:l[i]?=some y:=by rw[AE hil,hy]
   have hat:(l.map (AH false))[i]?=some (AH false y):=by rw[AG,hya];rfl
   have hfy:=hf y (by rw[<-hy];exact AK hil);refine KK ?_;refine AOps.g_callv ?_;refine AOps.k2 (h:=(hfy ..)) (k:=?_);refine JA ?_;exact⟨[iA i,bA (decide (g y=0))],[iA i,bA (decide (g y=0))],_,[],.cons (.tmp rfl) rfl (.cons (.tmp rfl) rfl .nil),.cons (.cell .same) (.cons (.cell .same) .nil),by exact Sub.f,(i,decide (g y=0)),⟨by simp;omega,by simp[hya],hmono⟩,rfl,rfl⟩
  ·have g1:decide ((i:Int)<(l.map (AH false)).length)=false:=AY (by omega)
   refine JA ?_;exact⟨[iA i,bA false],[iA i,bA false],_,[],.cons (.tmp rfl) rfl (.cons (.tmp rfl) rfl .nil),.cons (.cell .same) (.cons (.cell .same) .nil),by exact Sub.f,(i,false),⟨by simp;omega,by simp[List.getElem?_eq_none (show l.length<=i by omega)],hmono⟩,rfl,rfl⟩
theorem XR(l:List Comp)(k:Int)(hl:l.length<=4611686018427387904):Spec Tryz.prog 70 [Aw false false l,iA k] [] λr S'=>∃b,Found (λc:Comp=>Cp c.kind k) l b/\r= .tup [iA b.1,bA b.2]/\S'=[]:=by
 have h:=Pi l (iA k) 142 [] (λc=>Cp c.kind k) k rfl rfl hl (λx _=>Wn x k);refine Sp (nt:=11) (res:=[.tmp 4,.tmp 5]) Tryz.func70 λSf=>?_
 refine R1 ?_;refine JN ?_;refine WC (h:=h) λb hb=>?_
 refine KO ?_;refine FL ?_;refine RT ?_;exact⟨[iA b.1,bA b.2],[iA b.1,bA b.2],_,[],.cons (.tmp rfl) rfl (.cons (.tmp rfl) rfl .nil),.cons (.cell .same) (.cons (.cell .same) .nil),by exact Sub.f,b,hb,rfl,rfl⟩
theorem Er(l:List Int)(hl:l.length*8<=140737488355328):PS Tryz.prog 58 [.lst false 3 1 (l.map iA)] (.lst true 3 1 (l.map iA)):=by
 refine Sp (nt:=8) (res:=[.tmp 2]) Tryz.func58 λSf=>?_
 (iterate 8 refine WK ?_);refine AOps.gN ?_;refine AOps.isNil λb hb=>?_;refine KK ?_
 refine AWP.cond rfl (λhc=>?_) (λhc=>?_)
 ·rw[hb hc]
  refine JA ?_;exact⟨[.prim (.slice none 0 0)],[.lst true 3 1 []],_,[],.cons (.tmp rfl) rfl .nil,.cons (.cell .nil) .nil,by exact Sub.f,rfl,rfl⟩
 ·have hl':(0+(l.map iA).length)*8<=140737488355328:=by simpa using hl
  clear hl
  (iterate 3 refine WK ?_);refine AOps.g_lit ?_;refine My λK=>?_;refine KK ?_;refine Ay λY=>?_;refine KK ?_
  refine RT ?_;exact⟨[.sl Y 0 (0+(l.map iA).length)],[.lst true 3 1 (l.map iA)],_,[],.cons (.tmp rfl) rfl .nil,.cons (.cell (.sl (p:=0) .here (by simp))) .nil,by exact Sub.f,rfl,rfl⟩
def CT(l:List Comp):Prop:=l.Pairwise λa b=>a.kind<b.kind
theorem HD{ks:List Kind}:∀{l:List Comp} {last:Int},Cm ks last l=true->CT l/\∀c∈l,last<c.kind/\c.kind<ks.length
 |[],_,_=>⟨.nil,λc hc=>by cases hc⟩
 |c::l,last,h=>by
  rw[Cm]at h;split at h
  ·simp only[Bool.and_eq_true,AF]at h
   obtain⟨h1,h2⟩:=HD h.2;refine⟨List.pairwise_cons.2 ⟨λd hd=>(h2 d hd).1,h1⟩,λd hd=>?_⟩;rcases List.mem_cons.1 hd with rfl|hd
   ·exact⟨h.1.1.1,h.1.1.2⟩
   ·exact⟨by have:=(h2 d hd).1;have:=h.1.1.1;omega,(h2 d hd).2⟩
  ·cases h
theorem Nf{a b:Int}:Cp a b<0↔a<b:=by
 unfold Cp;split
 ·simp;assumption
 ·split<;>simp<;>omega
theorem cmpI_eq{a b:Int}:Cp a b=0↔a=b:=by
 unfold Cp;split
 ·simp;omega
 ·split<;>simp<;>omega
theorem Pe{l:List Comp}(h:CT l)(k:Int):JO (λc:Comp=>Cp c.kind k) l:=by
 intro a b x y hab hx hy hy0;rw[Nf]at hy0⊢;by_cases e:a=b
 ·subst e;rw[hx]at hy;cases hy;exact hy0
 ·obtain⟨ha,rfl⟩:=List.getElem?_eq_some_iff.1 hx
  obtain⟨hb,rfl⟩:=List.getElem?_eq_some_iff.1 hy;have:=List.pairwise_iff_getElem.1 h a b ha hb (by omega);omega
theorem SR{l:List Comp}{k:Int}{b:Nat×Bool}(h:Found (λc:Comp=>Cp c.kind k) l b)(hb:b.2=true):∃c,l[b.1]?=some c/\c.kind=k:=by
 obtain⟨c,hc,h0⟩:=h.eq.1 hb;exact⟨c,hc,cmpI_eq.1 h0⟩
theorem T9{l:List Comp}{k:Int}{b:Nat×Bool}(h:Found (λc:Comp=>Cp c.kind k) l b)(hs:CT l)(hb:b.2=false):∀c∈l,c.kind≠k:=by
 intro c hc e;obtain⟨j,hj,rfl⟩:=List.getElem_of_mem hc;obtain⟨h1,h2⟩:=h.mono (Pe hs k);have hne:¬∃x,l[b.1]?=some x/\Cp x.kind k=0:=λhx=>by rw[h.eq.2 hx]at hb;cases hb
 have hjb:b.1<=j:=by
  rcases Nat.lt_or_ge j b.1 with hlt|hge
  ·have:=h1 j _ hlt (AE hj)
   rw[Nf]at this;omega
  ·exact hge
 have hbl:b.1<l.length:=by omega
 have h3:=h2 b.1 _ (Nat.le_refl _) (AE hbl);rw[Nf]at h3;by_cases e2:j=b.1
 ·subst e2
  exact hne ⟨_,AE hj,cmpI_eq.2 e⟩
 ·have:=List.pairwise_iff_getElem.1 hs b.1 j hbl hj (by omega)
  omega
def BH(l:List Comp)(k:Int):Option Comp:=l.find? λc=>decide (c.kind=k)
theorem QW{l:List Comp}{k:Int}{c:Comp}(hs:CT l)(hc:c∈l)(hk:c.kind=k):BH l k=some c:=by
 induction l with
 |nil=>cases hc
 |cons a l ih=>
  obtain⟨h1,h2⟩:=List.pairwise_cons.1 hs;unfold BH;rw[List.find?_cons];rcases List.mem_cons.1 hc with rfl|hc
  ·simp[hk]
  ·have:¬a.kind=k:=by have:=h1 c hc;omega
   simp only[this,decide_false];exact ih h2 hc
theorem Im{l:List Comp}{k:Int}(h:∀c∈l,c.kind≠k):BH l k=none:=by
 unfold BH;rw[List.find?_eq_none];intro c hc;simpa using h c hc
def Oi(w:Wd)(e:Ent)(k:Int):List Int×Int:=
 if Cs w≠0 then([],Cs w)else match w.items.find? (λit=>decide (it.ent=e))with
  |none=>([],4)
  |some it=>match BH it.comps k with
   |none=>([],4)
   |some c=>(c.vals,0)
theorem Kx{l:List Item}{e:Ent}(h:CY l e<0):l.find? (λit=>decide (it.ent=e))=none:=by
 unfold CY ER at h;split at h
 ·omega
 ·rename_i h2
  rw[List.findIdx?_eq_none_iff]at h2;rw[List.find?_eq_none];intro x hx;rw[h2 x hx];simp
theorem F6{l:List Item}{e:Ent}{n:Nat}(h:CY l e=n):∃it,l[n]?=some it/\l.find? (λit=>decide (it.ent=e))=some it/\it.ent=e:=by
 unfold CY ER at h;split at h
 ·rename_i i h2
  have:i=n:=by omega
  subst this;obtain⟨hi,h3,h4⟩:=List.findIdx?_eq_some_iff_getElem.1 h2;refine⟨l[i],AE hi,?_,by simpa using h3⟩;rw[List.find?_eq_some_iff_getElem];exact⟨h3,i,hi,rfl,λj hj=>by simpa using h4 j hj⟩
 ·omega
theorem Ke{ks:List Kind}{gens:List Int}:∀{l:List Item} {last:Int},B8 ks gens last l=true->∀it∈l,A7 ks it.comps=true
 |[],_,_,it,hit=>by cases hit
 |x::l,last,h,it,hit=>by
  rw[B8]at h;split at h
  ·simp only[Bool.and_eq_true]at h
   rcases List.mem_cons.1 hit with rfl|hit
   ·exact h.1.2
   ·exact Ke h.2 it hit
  ·cases h
theorem U2{w:Wd}(h:Cs w=0):∀it∈w.items,A7 w.kinds it.comps=true:=by
 unfold Cs at h;split at h
 ·exact absurd h ‹_›
 ·split at h
  ·cases h
  ·split at h
   ·cases h
   ·split at h
    ·cases h
    ·rename_i hi
     exact Ke (by simpa using hi)
theorem U1{w:Wd}(h:Cs w=0):∀it∈w.items,CT it.comps:=λit hit=>(HD (U2 h it hit)).1
theorem Wi(w:Wd)(e:Ent)(k:Int)(hw:WdL w):PS Tryz.prog 33 [wdA false w,A6 e,iA k] (.tup [AN true (Oi w e k).1,iA (Oi w e k).2]):=by
 have hck:=Es w hw.gens hw.items.1 (λit hit=>(hw.items.2 it hit).1);have hfd:=UC w e (by have:=hw.items.1;omega);obtain⟨r,hr⟩:=nm (Oi w e k);rw[hr];unfold Oi at hr;obtain⟨we,hwe⟩:=nm (Cs w);rw[hwe]at hck hr;refine Sp (nt:=46) (res:=[.tmp 6,.tmp 7]) Tryz.func33 λSf=>?_
 refine RG ?_;refine AOps.g_box ?_;refine Aj ?_;refine AOps.g_box ?_;refine Aj ?_;refine JF ?_;refine JE ?_;refine AOps.g_callf ?_;refine AOps.c1 (h:=(hck ..)) (k:=?_);refine JD ?_;refine KK ?_;refine AWP.cond rfl (λhd=>?_) (λhd=>?_)
 ·have hd:we≠0:=by simpa using hd
  rw[if_pos hd]at hr;subst hr;refine JA ?_;exact⟨[.prim (.slice none 0 0),iA we],[AN true [],iA we],_,[],.cons (.tmp rfl) rfl (.cons (.tmp rfl) rfl .nil),.cons (.cell .nil) (.cons (.cell .same) .nil),by exact Sub.f,rfl,rfl⟩
 have hd:we=0:=by simpa using hd
 rw[if_neg (by simp[hd])]at hr;have hsort:=U1 (hwe.trans hd);refine JN ?_;refine AOps.g_callf ?_;refine AOps.c2 (h:=(hfd ..)) (k:=?_);refine JD ?_;refine KK ?_;refine AWP.cond rfl (λhg=>?_) (λhg=>?_)
 ·have hg:CY w.items e<0:=by simpa using hg
  rw[Kx hg]at hr;subst hr;refine JA ?_;exact⟨[.prim (.slice none 0 0),iA 4],[AN true [],iA 4],_,[],.cons (.tmp rfl) rfl (.cons (.tmp rfl) rfl .nil),.cons (.cell .nil) (.cons (.cell .same) .nil),by exact Sub.f,rfl,rfl⟩
 obtain⟨n,hn⟩:∃n:Nat,CY w.items e=n:=⟨(CY w.items e).toNat,by(have:¬CY w.items e<0:=by simpa using hg);(omega)⟩;rw[hn];obtain⟨⟨en,cs⟩,hit,hfi,hen⟩:=F6 hn;rw[hfi]at hr;dsimp only at hr;have hmem:=Ao hit;have hcl:=hw.items.2 _ hmem;have hsc:=hsort _ hmem;dsimp only at hcl hsc;have hat:(w.items.map (AD false))[n]?=some (AD false ⟨en,cs⟩):=by rw[AG,hit];rfl
 have hap:=XR cs k (by have:=hcl.1;omega);refine JK ?_;refine RX (h:=hap) λb hb=>?_
 obtain⟨bi,bb⟩:=b;cases bb
 ·have hno:=T9 hb hsc rfl
  rw[Im hno]at hr;subst hr;dsimp only;refine KO ?_;refine FL ?_;refine KK ?_;refine AM rfl rfl ?_;refine JA ?_;exact⟨[.prim (.slice none 0 0),iA 4],[AN true [],iA 4],_,[],.cons (.tmp rfl) rfl (.cons (.tmp rfl) rfl .nil),.cons (.cell .nil) (.cons (.cell .same) .nil),by exact Sub.f,rfl,rfl⟩
 ·obtain⟨c,hc,hck'⟩:=SR hb rfl
  dsimp only at hc;have hcm:=Ao hc;rw[QW hsc hcm hck']at hr;subst hr;obtain⟨ckd,cv⟩:=c;have hvl:=hcl.2 _ hcm;dsimp only at hvl;have hat2:(cs.map (AH false))[bi]?=some (AH false ⟨ckd,cv⟩):=by rw[AG,hc];rfl
  have hcn:=Er cv (by omega);dsimp only;refine KO ?_;refine FL ?_;refine KK ?_;refine AA rfl rfl ?_;refine KK ?_;refine AOps.g_callf ?_;refine AOps.t1 (h:=hcn) λY=>?_;refine KK ?_
  refine RT ?_;exact⟨[.sl Y 0 (cv.map iA).length,iA 0],[AN true cv,iA 0],_,[],.cons (.tmp rfl) rfl (.cons (.tmp rfl) rfl .nil),.cons (.cell (.sl (p:=0) .here rfl)) (.cons (.cell .same) .nil),by exact Sub.f,rfl,rfl⟩
def GF(l:List Comp):List Comp:=l.mergeSort λa b=>decide (a.kind<=b.kind)
def Cn(ks:List Kind):List Comp->List Comp->List Comp->List Comp×Int
 |_,out,[]=>(out,0)
 |pre,out,c::l=>
  if c.kind<0\/(ks.length:Int)<=c.kind then([],1)else if pre.any (λo=>decide (o.kind=c.kind))then([],5)else
  match ks[c.kind.toNat]? with
  |none=>([],1)
  |some k=>if(BW k c.vals).2≠0 then([],(BW k c.vals).2)else Cn ks (pre++[c]) (out++[⟨c.kind,(BW k c.vals).1⟩]) l
def CH(ks:List Kind)(l:List Comp):List Comp×Int:=
 if Ag ks≠0 then([],Ag ks)else if(Cn ks [] [] l).2≠0 then([],(Cn ks [] [] l).2)else(GF (Cn ks [] [] l).1,0)
theorem Ku{ks:List Kind}:∀{l pre out:List Comp},(Cn ks pre out l).2=0->(∀a∈out,∃b∈pre,b.kind=a.kind)->out.Pairwise (λa b=>a.kind≠b.kind)->(∀a∈out,0<=a.kind/\a.kind<ks.length)->
  (Cn ks pre out l).1.Pairwise (λa b=>a.kind≠b.kind)/\∀a∈(Cn ks pre out l).1,0<=a.kind/\a.kind<ks.length
 |[],pre,out,h,h1,h2,h3=>⟨h2,h3⟩
 |c::l,pre,out,h,h1,h2,h3=>by
  rw[Cn]at h⊢;split at h
  ·cases h
  ·rename_i g1
   rw[if_neg g1];split at h
   ·cases h
   ·rename_i g2
    rw[if_neg g2];split at h
    ·cases h
    ·rename_i k hk
     split at h
     ·rename_i g3;exact absurd h g3
     ·rename_i g3
      (try simp only[hk])
      rw[if_neg g3];refine Ku h (λa ha=>?_) ?_ (λa ha=>?_)
      ·rcases List.mem_append.1 ha with ha|ha
       ·obtain⟨b,hb,e⟩:=h1 a ha
        exact⟨b,by simp[hb],e⟩
       ·rw[List.mem_singleton.1 ha]
        exact⟨c,by simp,rfl⟩
      ·rw[List.pairwise_append]
       refine⟨h2,by simp,λa ha b hb e=>?_⟩;rw[List.mem_singleton.1 hb]at e;obtain⟨b2,hb2,e2⟩:=h1 a ha;exact g2 (List.any_eq_true.2 ⟨b2,hb2,by simpa using e2.trans e⟩)
      ·rcases List.mem_append.1 ha with ha|ha
       ·exact h3 a ha
       ·rw[List.mem_singleton.1 ha];exact⟨by dsimp only;omega,by dsimp only;omega⟩
theorem GR{α:Type}(g:α->Int):∀(n:Nat) (l:List α),l.Pairwise (λa b=>g a≠g b)->(∀a∈l,0<=g a/\g a<n)->l.length<=n:=by
 intro n l h1 h2
 have h3:(l.map λa=>(g a).toNat).Nodup:=by
  rw[List.Nodup,List.pairwise_map];refine h1.imp_of_mem λ{a b} ha hb e=>?_
  have:=h2 a ha;have:=h2 b hb;omega
 have h4:=List.Nodup.length_le_of_subset h3 (l₂:=List.range n) (λx hx=>by
  obtain⟨a,ha,rfl⟩:=List.mem_map.1 hx;have:=h2 a ha;exact List.mem_range.2 (by omega))
 simpa using h4
theorem Fu(l:List Comp):(GF l).Perm l:=List.mergeSort_perm _ _
theorem Kc{l u:List Comp}(hd:l.Pairwise (λa b=>a.kind≠b.kind))(hp:u.Perm l)(hs:u.Pairwise (λa b=>a.kind<=b.kind)):u=GF l:=by
 refine List.Perm.eq_of_pairwise (le:=λa b=>a.kind<=b.kind) (λa b ha hb h1 h2=>?_) hs ?_ (hp.trans (Fu l).symm)
 ·have hb':b∈l:=(Fu l).mem_iff.1 hb
  have ha':a∈l:=hp.mem_iff.1 ha;obtain⟨i,hi,rfl⟩:=List.getElem_of_mem ha';obtain⟨j,hj,rfl⟩:=List.getElem_of_mem hb';have:=List.pairwise_iff_getElem.1 hd;rcases Nat.lt_trichotomy i j with x|x|x
  ·exact absurd (by omega) (this i j hi hj x)
  ·subst x;rfl
  ·exact absurd (by omega) (this j i hj hi x)
 ·have:=List.pairwise_mergeSort (le:=λa b:Comp=>decide (a.kind<=b.kind)) (λa b c h1 h2=>by simp at*;omega) (λa b=>by simp;omega) l
  exact this.imp λh=>by simpa using h
theorem NV{l:List Comp}(hd:l.Pairwise (λa b=>a.kind≠b.kind)):CT (GF l):=by
 have h1:(GF l).Pairwise (λa b=>a.kind<=b.kind):=by
  have:=List.pairwise_mergeSort (le:=λa b:Comp=>decide (a.kind<=b.kind)) (λa b c h1 h2=>by simp at*;omega) (λa b=>by simp;omega) l;exact this.imp λh=>by simpa using h
 have h2:(GF l).Pairwise (λa b=>a.kind≠b.kind):=(Fu l).symm.pairwise hd (λh=>Ne.symm h);exact(h1.and h2).imp λh=>by obtain⟨a,b⟩:=h;omega
def Cf(l:List Comp)(k:Int):Nat:=(l.takeWhile λc=>decide (c.kind<k)).length
def Fi:List Comp->Comp->List Comp
 |[],c=>[c]
 |x::l,c=>if x.kind<c.kind then x::Fi l c else if x.kind=c.kind then c::l else c::x::l
def Fl(l:List Comp)(k:Int):List Comp:=l.filter λc=>!decide (c.kind=k)
def DY(w:Wd)(i:Nat)(cs:List Comp):Wd:=⟨w.kinds,w.gens,match w.items[i]? with|some it=>w.items.set i ⟨it.ent,cs⟩|none=>w.items⟩
def DP(w:Wd)(e:Ent)(c:Comp):Wd×Int:=
 if Cs w≠0 then(⟨[],[],[]⟩,Cs w)else if CY w.items e<0 then(⟨[],[],[]⟩,4)else
 if(CH w.kinds [c]).2≠0 then(⟨[],[],[]⟩,(CH w.kinds [c]).2)else
 match w.items[(CY w.items e).toNat]?,(CH w.kinds [c]).1 with
 |some it,[d]=>(DY w (CY w.items e).toNat (Fi it.comps d),0)
 |_,_=>(⟨[],[],[]⟩,0)
def E8(w:Wd)(e:Ent)(k:Int):Wd×Int:=
 if Cs w≠0 then(⟨[],[],[]⟩,Cs w)else if CY w.items e<0 then(⟨[],[],[]⟩,4)else
 match w.items[(CY w.items e).toNat]? with
 |some it=>if(BH it.comps k).isSome then(DY w (CY w.items e).toNat (Fl it.comps k),0)else(⟨[],[],[]⟩,4)
 |none=>(⟨[],[],[]⟩,4)
def EB(w:Wd)(e:Ent):Wd×Int:=
 if Cs w≠0 then(⟨[],[],[]⟩,Cs w)else if CY w.items e<0 then(⟨[],[],[]⟩,4)else
 (⟨w.kinds,w.gens.set e.n.toNat (w.gens.getD e.n.toNat 0+1),w.items.eraseIdx (CY w.items e).toNat⟩,0)
def Ch(gens:List Int)(n:Nat):List Int:=if n=gens.length then gens++[0]else gens
def IZ:List Item->Item->List Item
 |[],it=>[it]
 |x::l,it=>if x.ent.n<it.ent.n then x::IZ l it else it::x::l
def DJ(w:Wd)(l:List Comp):Wd×Ent×Int:=
 if Cs w≠0 then(⟨[],[],[]⟩,⟨0,0⟩,Cs w)else if(CH w.kinds l).2≠0 then(⟨[],[],[]⟩,⟨0,0⟩,(CH w.kinds l).2)else
 if(Bf w).2=false then(⟨[],[],[]⟩,⟨0,0⟩,6)else
 (⟨w.kinds,Ch w.gens (Bf w).1,IZ w.items ⟨⟨(Bf w).1,(Ch w.gens (Bf w).1).getD (Bf w).1 0⟩,(CH w.kinds l).1⟩⟩,⟨(Bf w).1,(Ch w.gens (Bf w).1).getD (Bf w).1 0⟩,0)
theorem HF(i c:Nat)(l:List Int):(Ba i c l).1.length=c:=by
 induction c generalizing i l with
 |zero=>rfl
 |succ c ih=>simp[Ba,ih]
theorem Ja(i c:Nat)(l:List Int):(Ba i c l).1.map (·.name)=(List.range' i c).map Cb:=by
 induction c generalizing i l with
 |zero=>rfl
 |succ c ih=>
  have:(CR i l).1.name=Cb i:=by unfold CR;split<;>rfl
  simp[Ba,ih,List.range'_succ,this]
theorem If(k c:Nat)(l:List Int):(BG k c l).1.length=c:=by
 induction c generalizing k l with
 |zero=>rfl
 |succ c ih=>simp[BG,ih]
theorem Ha(k c:Nat)(l:List Int):(BG k c l).1.map (·.name)=(List.range' k c).map Dy:=by
 induction c generalizing k l with
 |zero=>rfl
 |succ c ih=>simp[BG,ih,List.range'_succ,DL]
theorem H8(i:Nat):Cx (Cb i)=true:=by
 unfold Cb;split<;>decide
theorem Oa(i:Nat):Cx (Dy i)=true:=by
 unfold Dy;split<;>decide
theorem Om(i:Nat)(l:List Int):Aq (CR i l).1=0:=by
 have h1:=Ad l (n:=9) (by omega);have h2:=Ad (Ac l 9) (n:=40) (by omega);unfold CR;split
 ·simp[Aq,H8]
 ·simp[Aq,H8]
  omega
theorem H5(i c:Nat)(l:List Int):∀f∈(Ba i c l).1,Aq f=0:=by
 induction c generalizing i l with
 |zero=>intro f h;simp[Ba]at h
 |succ c ih=>
  intro f h;simp only[Ba,BO]at h;rcases h with rfl|h
  ·exact Om i l
  ·exact ih _ _ f h
theorem K1:∀(fs pre:List Field),(∀f∈fs,Aq f=0)->((pre++fs).map (·.name)).Nodup->Bj pre fs=0:=by
 intro fs
 induction fs with
 |nil=>intro pre _ _;rfl
 |cons f fs ih=>
  intro pre h hn;have h1:=h f (by simp)
  have h2:pre.any (λo=>o.name==f.name)=false:=by
   rw[List.any_eq_false];intro o ho;simp only[beq_iff_eq];intro e;rw[List.map_append,List.nodup_append]at hn;exact hn.2.2 o.name (List.mem_map_of_mem ho) f.name (by simp) e
  simp only[Bj,h1,h2];simp;exact ih _ (λx hx=>h x (by simp[hx])) (by simpa using hn)
theorem Ll:∀(ks pre:List Kind),(∀k∈ks,BX k=0)->((pre++ks).map (·.name)).Nodup->Bu pre ks=0:=by
 intro fs
 induction fs with
 |nil=>intro pre _ _;rfl
 |cons f fs ih=>
  intro pre h hn;have h1:=h f (by simp)
  have h2:pre.any (λo=>o.name==f.name)=false:=by
   rw[List.any_eq_false];intro o ho;simp only[beq_iff_eq];intro e;rw[List.map_append,List.nodup_append]at hn;exact hn.2.2 o.name (List.mem_map_of_mem ho) f.name (by simp) e
  simp only[Bu,h1,h2];simp;exact ih _ (λx hx=>h x (by simp[hx])) (by simpa using hn)
theorem Ij{c:Nat}(h:c<=3):((List.range' 0 c).map Cb).Nodup:=by
 have:c=0\/c=1\/c=2\/c=3:=by omega
 rcases this with rfl|rfl|rfl|rfl<;>decide
theorem JV{c:Nat}(h:c<=4):((List.range' 0 c).map Dy).Nodup:=by
 have:c=0\/c=1\/c=2\/c=3\/c=4:=by omega
 rcases this with rfl|rfl|rfl|rfl|rfl<;>decide
theorem QI(k:Nat)(l:List Int):BX (DL k l).1=0:=by
 have h1:=Ad l (n:=3) (by omega);have h2:(1+Ak l 3).toNat<=3:=by omega
 have h3:=K1 (Ba 0 (1+Ak l 3).toNat (Ac l 3)).1 [] (H5 _ _ _) (by
  rw[BD,Ja];exact Ij h2)
 have h4:=HF 0 (1+Ak l 3).toNat (Ac l 3);unfold BX DL;simp only[Oa,h3,h4,if_true];rw[if_neg (by omega)]
theorem JZ(i c:Nat)(l:List Int):∀f∈(BG i c l).1,BX f=0:=by
 induction c generalizing i l with
 |zero=>intro f h;simp[BG]at h
 |succ c ih=>
  intro f h;simp only[BG,BO]at h;rcases h with rfl|h
  ·exact QI i l
  ·exact ih _ _ f h
theorem NX(l:List Int):1<=(Ap l).1.length/\(Ap l).1.length<=4:=by
 have h:=Ad l (n:=4) (by omega);unfold Ap;rw[If];omega
theorem Kq(l:List Int):((Ap l).1.map (·.name)).Nodup:=by
 have h:=Ad l (n:=4) (by omega);unfold Ap;rw[Ha];exact JV (by omega)
theorem I4(l:List Int):∀k∈(Ap l).1,BX k=0:=JZ _ _ _
theorem Kr(l:List Int):Ag (Ap l).1=0:=by
 unfold Ag;have:=NX l;rw[if_neg (by omega)];exact Ll _ [] (I4 l) (Kq l)
theorem OO{f:Field}(h:Aq f=0)(v:Int):f.low<=BS f v/\BS f v<=EC f:=by
 have:=MV h;unfold BS;rw[if_pos h];omega
theorem Q6{f:Field}(h:Aq f=0){v:Int}(h1:f.low<=v)(h2:v<=EC f):BS f v=v:=by
 unfold BS;rw[if_pos h];omega
theorem MN{f:Field}(h:Aq f=0)(v:Int):BS f (BS f v)=BS f v:=Q6 h (OO h v).1 (OO h v).2
theorem R2{fs:List Field}(h:∀f∈fs,Aq f=0)(vals:List Int):List.zipWith BS fs (List.zipWith BS fs vals)=List.zipWith BS fs vals:=by
 induction fs generalizing vals with
 |nil=>rfl
 |cons f fs ih=>
  cases vals with
  |nil=>rfl
  |cons v vals=>simp[MN (h f (by simp)),ih (λx hx=>h x (by simp[hx]))]
theorem H6{k:Kind}(h:BX k=0){vals:List Int}(hl:vals.length=k.fields.length):BW k vals=(List.zipWith BS k.fields vals,0):=by
 unfold BW;rw[if_neg (by simp[h]),if_neg (by simp[hl])]
theorem Ks(k:Nat)(l:List Int):(∀f∈(DL k l).1.fields,Aq f=0)/\(DL k l).1.fields.length<=3:=by
 have h1:=Ad l (n:=3) (by omega);refine⟨H5 _ _ _,?_⟩;show(Ba _ _ _).1.length<=3
 rw[HF];omega
theorem G8(i c:Nat)(l:List Int):∀k∈(BG i c l).1,(∀f∈k.fields,Aq f=0)/\k.fields.length<=3:=by
 induction c generalizing i l with
 |zero=>intro f h;simp[BG]at h
 |succ c ih=>
  intro f h;simp only[BG,BO]at h;rcases h with rfl|h
  ·exact Ks i l
  ·exact ih _ _ f h
theorem JY(l:List Int):∀k∈(Ap l).1,(∀f∈k.fields,Aq f=0)/\k.fields.length<=3:=G8 _ _ _
def vAt(fs:List Field)(l:List Int):Nat->List Int×List Int
 |0=>([],l)
 |i+1=>match fs[i]? with
  |some f=>((vAt fs l i).1++[f.low+Ak (vAt fs l i).2 (2^f.bits.toNat)],Ac (vAt fs l i).2 (2^f.bits.toNat))
  |none=>vAt fs l i
def cAt(ks:List Kind)(l:List Int):Nat->List Comp×List Int
 |0=>([],l)
 |i+1=>match ks[i]? with
  |some k=>if Ak (cAt ks l i).2 3=2 then((cAt ks l i).1,Ac (cAt ks l i).2 3)
   else((cAt ks l i).1++[⟨i,(vAt k.fields (Ac (cAt ks l i).2 3) k.fields.length).1⟩],(vAt k.fields (Ac (cAt ks l i).2 3) k.fields.length).2)
  |none=>cAt ks l i
def Cd(ks:List Kind)(l:List Int):List Comp×List Int:=cAt ks l ks.length
def wAt(ks:List Kind)(l:List Int):Nat->List Int×List Item×List Int
 |0=>([],[],l)
 |i+1=>
  if Ak (Ac (wAt ks l i).2.2 3) 4=3\/(wAt ks l i).2.1.length=8 then((wAt ks l i).1++[Ak (wAt ks l i).2.2 3],(wAt ks l i).2.1,Ac (Ac (wAt ks l i).2.2 3) 4)
  else((wAt ks l i).1++[Ak (wAt ks l i).2.2 3],(wAt ks l i).2.1++[⟨⟨i,Ak (wAt ks l i).2.2 3⟩,(Cd ks (Ac (Ac (wAt ks l i).2.2 3) 4)).1⟩],(Cd ks (Ac (Ac (wAt ks l i).2.2 3) 4)).2)
def DC(l:List Int):Wd:=
 ⟨(Ap l).1,(wAt (Ap l).1 (Ac (Ap l).2 12) (Ak (Ap l).2 12).toNat).1,(wAt (Ap l).1 (Ac (Ap l).2 12) (Ak (Ap l).2 12).toNat).2.1⟩
def Ei(f:Field):Prop:=0<=f.bits/\f.bits<=32/\ -2147483648<=f.low/\f.low<=2147483648
def FS(ks:List Kind):Prop:=ks.length<=1099511627776/\∀k∈ks,k.fields.length<=1099511627776/\∀f∈k.fields,Ei f
theorem U5(fs:List Field)(l:List Int)(i:Nat):(vAt fs l i).1.length<=i:=by
 induction i with
 |zero=>simp[vAt]
 |succ i ih=>rw[vAt];split<;>(try simp only[AL,List.length_singleton])<;>omega
theorem Vt(ks:List Kind)(l:List Int)(i:Nat):(cAt ks l i).1.length<=i:=by
 induction i with
 |zero=>simp[cAt]
 |succ i ih=>rw[cAt];split<;>(try split)<;>(try simp only[AL,List.length_singleton])<;>omega
theorem Nz{fs:List Field}{l:List Int}{i:Nat}(h:i<fs.length):vAt fs l (i+1)=((vAt fs l i).1++[fs[i].low+Ak (vAt fs l i).2 (2^fs[i].bits.toNat)],Ac (vAt fs l i).2 (2^fs[i].bits.toNat)):=by
 rw[vAt,AE h]
theorem Ni{ks:List Kind}{l:List Int}{i:Nat}(h:i<ks.length)(h2:Ak (cAt ks l i).2 3=2):cAt ks l (i+1)=((cAt ks l i).1,Ac (cAt ks l i).2 3):=by
 rw[cAt,AE h];simp only;rw[if_pos h2]
theorem Nh{ks:List Kind}{l:List Int}{i:Nat}(h:i<ks.length)(h2:Ak (cAt ks l i).2 3≠2):cAt ks l (i+1)=((cAt ks l i).1++[⟨i,(vAt ks[i].fields (Ac (cAt ks l i).2 3) ks[i].fields.length).1⟩],(vAt ks[i].fields (Ac (cAt ks l i).2 3) ks[i].fields.length).2):=by
 rw[cAt,AE h];simp only;rw[if_neg h2]
theorem MK{b:Nat}(h:b<=32):(1:Int)<=2^b/\(2:Int)^b<=4294967296:=by
 have h1:(2:Nat)^b<=2^32:=Nat.pow_le_pow_right (by decide) h;have h2:0<(2:Nat)^b:=Nat.pow_pos (by decide);have h3:((2:Int)^b)=(((2:Nat)^b:Nat):Int):=by simp
 rw[h3];have:(2:Nat)^32=4294967296:=by decide
 omega
theorem O0(G:Nat)(ks:List Kind)(l:List Int)(hk:FS ks):PO Tryz.prog 53 [An false false ks,.ptr G 0 0] G (Bb l) (Aw true false (Cd ks l).1) (Bb (Cd ks l).2):=by
 refine Sp (nt:=50) (res:=[.tmp 4]) Tryz.func53 λSf=>?_
 obtain⟨hk0,hk1⟩:=hk;refine R1 ?_;refine R1 ?_;refine JM ?_;refine AWP.adopt (d:=5) 42 2 rfl λK=>?_
 refine Nn (λ(i K:Nat) (M:List AV) (n:Nat) (q:List Int)=>⟨[(1,.ptr G 0 0),(5,.sl K 0 n),(11,An false false ks),(12,iA (ks.map (BA false)).length),(13,iA i)],(K,.row 42 2 M)::(G,Bb q)::Sf⟩) (λi _ M n q=>i<=ks.length/\M=(cAt ks l i).1.map (AH false)/\n=M.length/\q=(cAt ks l i).2) (λi _ _ _ _=>ks.length-i) 0 K [] 0 l ⟨Nat.zero_le _,rfl,rfl,rfl⟩ ?_;rintro i K M n q ⟨hi,hM,hn,hq⟩;refine KK ?_;refine AWP.cond rfl (λhc=>?_) (λhc=>?_)
 ·have h:i<ks.length:=by simpa using hc
  obtain⟨hf0,hf1⟩:=hk1 _ (AK h);have h3:=Ad q (n:=3) (by decide);have hn1:n+1<=1099511627776:=by have:=Vt ks l i;rw[hn,hM,AB];omega
  refine KK ?_;refine Ai λX=>?_;refine KK ?_;refine AOps.g_callf ?_;refine AOps.o2 (h:=(CE G _ _ (by decide))) (k:=?_);refine KK ?_
  refine AWP.cond rfl (λhe=>?_) (λhe=>?_)
  ·have he:Ak q 3=2:=by simpa using he
   refine KK ?_;refine H0 (i+1) K M n _ ⟨h,?_,hn,?_⟩
   ·rw[Ni h (hq▸he),hM]
   ·rw[Ni h (hq▸he),hq]
  ·have he:Ak q 3≠2:=by simpa using he
   refine JN ?_;refine Ai λY=>?_;refine JD ?_
   refine AWP.adoptIn (Y:=Y) 3 1 .here (λF=>.cons (.agg (.cons .same (.cons (.base .nil) .nil))) .nil) λF=>?_
   refine KK ?_;obtain⟨fs,hfs⟩:=nm (ks[i].fields);obtain⟨q1,hq1⟩:=nm (Ac q 3);rw[hq1,hfs];have hck:cAt ks l (i+1)=((cAt ks l i).1++[⟨i,(vAt fs q1 fs.length).1⟩],(vAt fs q1 fs.length).2):=by rw[Nh h (hq▸he),<-hq,hq1,hfs]
   rw[hfs]at hf0 hf1;refine Nn (λ(j F:Nat) (L:List AV) (m:Nat) (r:List Int)=>⟨[(1,.ptr G 0 0),(5,.sl K 0 n),(6,iA i),(8,.ptr Y 0 0),(11,An false false ks),(12,iA (ks.map (BA false)).length),(13,iA i),(24,Ee false fs),(25,iA (fs.map fieldA).length),(26,iA j)],(F,.row 3 1 L)::(Y,.row 42 2 [.agg [iA i,.sl F 0 m]])::(K,.row 42 2 M)::(G,Bb r)::Sf⟩) (λj _ L m r=>j<=fs.length/\L=(vAt fs q1 j).1.map iA/\m=L.length/\r=(vAt fs q1 j).2) (λj _ _ _ _=>fs.length-j) 0 F [] 0 q1 ⟨Nat.zero_le _,rfl,rfl,rfl⟩ ?_;rintro j F L m r ⟨hj,hL,hm,hr⟩;refine KK ?_;refine AWP.cond rfl (λhd=>?_) (λhd=>?_)
   ·have hj':j<fs.length:=by simpa using hd
    obtain⟨hb0,hb1,hl0,hl1⟩:=hf1 _ (AK hj');obtain⟨b,hb⟩:∃b:Nat,fs[j].bits=b:=⟨fs[j].bits.toNat,by omega⟩;have hp:=MK (b:=b) (by omega);have hw:IntKind.i64.wrap (1*2^b)=2^b:=by rw[Int.one_mul];exact Du (by omega) (by omega)
    have hv:=Ad r (n:=IntKind.i64.wrap (1*2^b)) (by omega);have hm1:m+1<=1099511627776:=by have:=U5 fs q1 j;rw[hm,hL,AB];omega
    refine KK ?_;refine Ai λZ=>?_;refine KK ?_
    refine AWP.rs λX7=>?_
    refine RU ?_;(iterate 7 refine RK ?_);refine RGo.gN ?_;refine RGo.p (W.shl rfl rfl hb (by show b<=64;omega)) rfl ?_;refine RGo.g_callf ?_;refine RGo.o2 (h:=(CE G _ _ (by rw[hw];omega))) (k:=?_);refine RGo.gN ?_;refine RGo.p (W.add rfl rfl (by omega)) rfl ?_;(iterate 4 refine RK ?_);refine RGo.nil (by kernel_rfl) ?_;refine KK ?_;have hva:vAt fs q1 (j+1)=((vAt fs q1 j).1++[fs[j].low+Ak r (IntKind.i64.wrap (1*2^b))],Ac r (IntKind.i64.wrap (1*2^b))):=by rw[Nz hj',<-hr,hw,hb];rfl
    refine H0 (j+1) X7 _ _ _ ⟨hj',?_,?_,?_⟩
    ·rw[hva,hL,List.map_append];rfl
    ·rw[AL,hm]
    ·rw[hva]
   ·have hj':j=fs.length:=by rw[AQ,AB]at hd;omega
    subst hj';refine FL ?_;refine AWP.iceIn (X:=F) (Y:=Y) .here (.next .here) rfl (.cons (.agg (.cons .same (.cons (.base (.sl (by omega))) .nil))) .nil) ?_
    have hF:AV.frzs ((L.drop 0).take m)=(vAt fs q1 fs.length).1.map iA:=by
     rw[List.drop_zero,List.take_of_length_le (by omega),hL];exact Frzs.h
    rw[hF]
    (iterate 3 refine WK ?_);refine AOps.g_lit ?_;refine AOps.goL (AH false ⟨i,(vAt fs q1 fs.length).1⟩) ?_;refine WK ?_;refine Ay λY=>?_;refine KK ?_
    refine H0 (i+1) Y _ _ _ ⟨h,?_,?_,?_⟩
    ·rw[hck,hM,List.map_append];rfl
    ·rw[AL,hn]
    ·rw[hck,hr]
 ·have h:i=ks.length:=by rw[AQ,AB]at hc;omega
  subst h;refine JA ?_;subst hM hq;exact⟨[.sl K 0 n],[.lst true 42 2 ((cAt ks l ks.length).1.map (AH false))],_,[(G,Bb (cAt ks l ks.length).2)],.cons (.tmp rfl) rfl .nil,.cons (.cell (.sl (p:=0) .here hn)) .nil,by exact Sub.f,rfl,rfl⟩
theorem Ju(ks:List Kind)(l:List Int)(i:Nat):(wAt ks l i).1.length=i:=by
 induction i with
 |zero=>rfl
 |succ i ih=>rw[wAt];split<;>simp[ih]
theorem Nx(ks:List Kind)(l:List Int)(i:Nat):(wAt ks l i).2.1.length<=i:=by
 induction i with
 |zero=>simp[wAt]
 |succ i ih=>rw[wAt];split<;>(try simp only[AL,List.length_singleton])<;>omega
def wdO(w:Wd):AV:=.agg [An false false w.kinds,AN true w.gens,HX true false w.items]
instance {w:Wd}:Frz (wdO w) (wdA false w):=⟨by unfold wdO wdA;exact Frz.h⟩
theorem NY(i:Nat)(l:List Int):Ei (CR i l).1:=by
 have h9:=Ad l (n:=9) (by decide);have h40:=Ad (Ac l 9) (n:=40) (by decide);unfold CR;split<;>refine⟨?_,?_,?_,?_⟩<;>simp<;>omega
theorem Vk(i:Nat)(l:List Int):∀f∈(fAt i l).1,Ei f:=by
 induction i with
 |zero=>intro f hf;cases hf
 |succ i ih=>
  intro f hf;rcases List.mem_append.1 hf with hf|hf
  ·exact ih f hf
  ·rw[List.mem_singleton.1 hf];exact NY _ _
theorem Ol(k:Nat)(l:List Int):(DL k l).1.fields.length<=3/\∀f∈(DL k l).1.fields,Ei f:=by
 have h:=Ad l (n:=3) (by decide);show(Ba 0 (1+Ak l 3).toNat (Ac l 3)).1.length<=3/\∀f∈(Ba 0 (1+Ak l 3).toNat (Ac l 3)).1,Ei f
 rw[F5];exact⟨by rw[RH];omega,Vk _ _⟩
theorem RB(i:Nat)(l:List Int):∀k∈(kAt i l).1,k.fields.length<=3/\∀f∈k.fields,Ei f:=by
 induction i with
 |zero=>intro f hf;cases hf
 |succ i ih=>
  intro f hf;rcases List.mem_append.1 hf with hf|hf
  ·exact ih f hf
  ·rw[List.mem_singleton.1 hf];exact Ol _ _
theorem H4(l:List Int):(Ap l).1.length=(1+Ak l 4).toNat:=by rw[ES,RC]
theorem F4(l:List Int):FS (Ap l).1:=by
 have h:=Ad l (n:=4) (by decide);refine⟨by rw[H4];omega,?_⟩;rw[ES];intro k hk;have:=RB _ _ k hk;exact⟨by omega,this.2⟩
theorem S6(l:List Int):PS Tryz.prog 11 [AN false l] (wdO (DC l)):=by
 refine Sp (nt:=52) (res:=[.cell 2 26]) Tryz.func11 λSf=>?_
 have hko:=F4 l;obtain⟨ks,hks⟩:=nm ((Ap l).1);obtain⟨l1,hl1⟩:=nm ((Ap l).2);have h12:=Ad l1 (n:=12) (by decide);obtain⟨c,hc⟩:∃c:Nat,Ak l1 12=c:=⟨(Ak l1 12).toNat,by omega⟩;obtain⟨l2,hl2⟩:=nm (Ac l1 12);have hg:DC l=⟨ks,(wAt ks l2 c).1,(wAt ks l2 c).2.1⟩:=by unfold DC;rw[hks,hl1,hl2,hc];rfl
 have hkp:=λG=>Tr G l
 rw[hks,hl1]at hkp;rw[hks]at hko;rw[hg];clear hg hks hl1;refine JE ?_;refine Ai λR=>?_;refine NL ?_
 refine JN ?_;refine Ai λG=>?_;refine JD ?_
 refine JE ?_;refine AOps.g_callf ?_;refine AOps.o1 (h:=(hkp G)) (k:=?_);refine KO ?_;refine Ai λV=>?_;refine JD ?_
 refine JE ?_;refine AOps.g_callf ?_;refine AOps.o2 (h:=(CE G _ _ (by decide))) (k:=?_);refine JD ?_;rw[hl2,hc];refine AWP.adoptIn (Y:=V) 71 3 (by exact At.f) (λF=>.cons (.agg (.cons .same (.cons .same (.cons (.base .nil) .nil)))) .nil) λB=>?_
 refine AWP.adoptIn (Y:=V) 3 1 (by exact At.f) (λF=>.cons (.agg (.cons .same (.cons (.base .nil) (.cons .same .nil)))) .nil) λA=>?_
 refine FL ?_;refine V5 (λ(i A B:Nat) (L M:List AV) (n:Nat) (q:List Int)=>⟨[(2,.ptr R 0 0),(3,.ptr G 0 0),(4,.ptr V 0 0),(13,iA c),(14,iA i)],(A,.row 3 1 L)::(B,.row 71 3 M)::(V,.row 26 3 [.agg [An false false ks,.sl A 0 i,.sl B 0 n]])::(G,Bb q)::(R,.row 26 3 [.agg [.prim (.slice none 0 0),.prim (.slice none 0 0),.prim (.slice none 0 0)]])::Sf⟩) (λi _ _ L M n q=>i<=c/\L=(wAt ks l2 i).1.map iA/\M=(wAt ks l2 i).2.1.map (AD false)/\n=M.length/\q=(wAt ks l2 i).2.2) (λi _ _ _ _ _ _=>c-i) 0 A B [] [] 0 l2 ⟨Nat.zero_le _,rfl,rfl,rfl,rfl⟩ ?_;rintro i A B L M n q ⟨hi,hL,hM,hn,hq⟩;have hA:=Ju ks l2 i;have hB:=Nx ks l2 i;refine KK ?_;refine AWP.cond rfl (λhd=>?_) (λhd=>?_)
 ·have h:i<c:=by rw[AF]at hd;omega
  have h3:=Ad q (n:=3) (by decide);have h4:=Ad (Ac q 3) (n:=4) (by decide);refine R1 ?_;refine AWP.rs λX7=>?_
  refine JL ?_;refine RGo.g_callf ?_;refine RGo.o2 (h:=(CE G _ _ (by decide))) (k:=?_);(iterate 4 refine RK ?_);refine RGo.nil (by kernel_rfl) ?_;refine KK ?_;refine AOps.g_callf ?_;refine AOps.o2 (h:=(CE G _ _ (by decide))) (k:=?_);refine KK ?_;have hLl:L.length=i:=by rw[hL,AB,hA]
  obtain⟨IT,hIT⟩:=nm ((wAt ks l2 i).2.1);rw[hIT]at hM hB;have hnl:n=IT.length:=by rw[hn,hM,AB]
  have hat:(L++[.prim (.int .i64 (Ak q 3))])[i]?=some (.prim (.int .i64 (Ak q 3))):=by rw[<-hLl];simp
  refine AWP.cond rfl (λhe=>?_) (λhe=>?_)
  ·have he:Ak (Ac q 3) 4=3\/n=8:=by rw[Bool.or_eq_true,AF,AF]at he;omega
   have hw:wAt ks l2 (i+1)=((wAt ks l2 i).1++[Ak q 3],IT,Ac (Ac q 3) 4):=by rw[wAt,<-hq,hIT,<-hnl,if_pos he]
   refine KK ?_;refine OU (i+1) X7 B _ M n _ ⟨h,?_,?_,hn,?_⟩
   ·rw[hw,hL,List.map_append];rfl
   ·rw[hw,hM]
   ·rw[hw]
  ·have he:¬(Ak (Ac q 3) 4=3\/n=8):=by rw[Bool.or_eq_false_iff,AQ,AQ]at he;omega
   have hw:wAt ks l2 (i+1)=((wAt ks l2 i).1++[Ak q 3],IT++[⟨⟨i,Ak q 3⟩,(Cd ks (Ac (Ac q 3) 4)).1⟩],(Cd ks (Ac (Ac q 3) 4)).2):=by rw[wAt,<-hq,hIT,<-hnl,if_neg he]
   have hin:i<i+[AV.prim (.int .i64 (Ak q 3))].length:=Nat.lt_succ_self i;refine AWP.rs λX8=>?_
   refine JL ?_;refine RGo.g_callf ?_;refine RGo.o2 (h:=(O0 G ks _ hko)) (k:=?_);refine RK ?_;refine RGo.g_lit ?_;refine RGo.goL (AD false ⟨⟨i,Ak q 3⟩,(Cd ks (Ac (Ac q 3) 4)).1⟩) ?_;(iterate 3 refine RK ?_);refine RGo.nil (by kernel_rfl) ?_;refine KK ?_;refine OU (i+1) X7 X8 _ _ _ _ ⟨h,?_,?_,?_,?_⟩
   ·rw[hw,hL,List.map_append];rfl
   ·rw[hw,hM,List.map_append];rfl
   ·rw[AL,hn]
   ·rw[hw]
 ·have h:i=c:=by rw[AQ]at hd;omega
  subst h;refine JA ?_;subst hL hM;have hA:i=((wAt ks l2 i).1.map iA).length:=by rw[AB,hA]
  exact⟨[.agg [An false false ks,.sl A 0 i,.sl B 0 n]],[wdO ⟨ks,(wAt ks l2 i).1,(wAt ks l2 i).2.1⟩],_,[],.cons (.cell (p:=4) rfl (by exact At.f) TAg.h TSize.h rfl rfl) rfl .nil,.cons (.agg (.cons .same (.cons (.sl (p:=0) .here hA) (.cons (.sl (p:=0) .here hn) .nil)))) .nil,by exact Sub.f,rfl,rfl⟩
theorem RJ{ks:List Kind}{l:List Int}{i:Nat}{c:Comp}(h:c∈(cAt ks l i).1):∃(j:Nat) (hj:j<ks.length) (q:List Int),j<i/\c=⟨j,(vAt ks[j].fields q ks[j].fields.length).1⟩:=by
 induction i with
 |zero=>cases h
 |succ i ih=>
  by_cases hi:i<ks.length
  ·by_cases h2:Ak (cAt ks l i).2 3=2
   ·rw[Ni hi h2]at h
    obtain⟨j,hj,q,h3,h4⟩:=ih h;exact⟨j,hj,q,by omega,h4⟩
   ·rw[Nh hi h2]at h
    rcases List.mem_append.1 h with h|h
    ·obtain⟨j,hj,q,h3,h4⟩:=ih h
     exact⟨j,hj,q,by omega,h4⟩
    ·rw[List.mem_singleton.1 h]
     exact⟨i,hi,_,by omega,rfl⟩
  ·rw[cAt,List.getElem?_eq_none (by omega)]at h
   obtain⟨j,hj,q,h3,h4⟩:=ih h;exact⟨j,hj,q,by omega,h4⟩
theorem Qs{ks:List Kind}{l:List Int}{i:Nat}{it:Item}(h:it∈(wAt ks l i).2.1):∃(j:Nat) (q:List Int),j<i/\(wAt ks l i).1[j]?=some it.ent.gen/\it.ent.n=j/\it.comps=(Cd ks q).1:=by
 induction i with
 |zero=>cases h
 |succ i ih=>
  have hl:=Ju ks l i
  have hup:∀(x:Int) (g:Int) (j:Nat),(wAt ks l i).1[j]?=some g->((wAt ks l i).1++[x])[j]?=some g:=λx g j hg=>by
   rw[List.getElem?_append_left (List.getElem?_eq_some_iff.1 hg).1,hg]
  rw[wAt]at h⊢;split
  ·rename_i hs
   rw[if_pos hs]at h;obtain⟨j,q,h1,h2,h3,h4⟩:=ih h;exact⟨j,q,by omega,hup _ _ _ h2,h3,h4⟩
  ·rename_i hs
   rw[if_neg hs]at h;rcases List.mem_append.1 h with h|h
   ·obtain⟨j,q,h1,h2,h3,h4⟩:=ih h
    exact⟨j,q,by omega,hup _ _ _ h2,h3,h4⟩
   ·rw[List.mem_singleton.1 h]
    exact⟨i,_,by omega,by rw[List.getElem?_append_right (by omega),hl];simp,rfl,rfl⟩
theorem Kp(l:List Int):(Ap l).1.length<=4/\∀k∈(Ap l).1,k.fields.length<=3:=by
 have h:=Ad l (n:=4) (by decide);refine⟨by rw[H4];omega,?_⟩;rw[ES];intro k hk;exact(RB _ _ k hk).1
theorem Ed{ks:List Kind}:∀{l:List Comp} {last:Int},-1<=last->(Cm ks last l=true↔l.Pairwise (λa b=>a.kind<b.kind)/\∀c∈l,last<c.kind/\c.kind<ks.length/\∃k,ks[c.kind.toNat]?=some k/\Bq k c.vals=true)
 |[],_,_=>by simp[Cm]
 |c::l,last,hl=>by
  rw[Cm];constructor
  ·intro h
   split at h
   ·rename_i k hk
    simp only[Bool.and_eq_true,AF]at h;obtain⟨⟨⟨h1,h2⟩,h3⟩,h4⟩:=h;obtain⟨h5,h6⟩:=(Ed (by omega)).1 h4;refine⟨List.pairwise_cons.2 ⟨λd hd=>(h6 d hd).1,h5⟩,λd hd=>?_⟩;rcases List.mem_cons.1 hd with rfl|hd
    ·exact⟨h1,h2,k,hk,h3⟩
    ·obtain⟨q1,q2⟩:=h6 d hd
     exact⟨by omega,q2⟩
   ·cases h
  ·rintro⟨h1,h2⟩
   obtain⟨h3,h4⟩:=List.pairwise_cons.1 h1;obtain⟨h5,h6,k,hk,h7⟩:=h2 c (by simp);rw[hk];simp only[Bool.and_eq_true,AF];exact⟨⟨⟨h5,h6⟩,h7⟩,(Ed (by omega)).2 ⟨h4,λd hd=>⟨h3 d hd,(h2 d (by simp[hd])).2⟩⟩⟩
theorem FX{ks:List Kind}{gens:List Int}:∀{l:List Item} {last:Int},-1<=last->(B8 ks gens last l=true↔l.Pairwise (λa b=>a.ent.n<b.ent.n)/\∀it∈l,last<it.ent.n/\it.ent.n<gens.length/\gens[it.ent.n.toNat]?=some it.ent.gen/\it.ent.gen≠1073741824/\A7 ks it.comps=true)
 |[],_,_=>by simp[B8]
 |c::l,last,hl=>by
  rw[B8];constructor
  ·intro h
   split at h
   ·rename_i k hk
    simp only[Bool.and_eq_true,AF,Bool.not_eq_true',AQ]at h;obtain⟨⟨⟨⟨⟨h1,h2⟩,h3⟩,h4⟩,h7⟩,h8⟩:=h;obtain⟨h5,h6⟩:=(FX (by omega)).1 h8;refine⟨List.pairwise_cons.2 ⟨λd hd=>(h6 d hd).1,h5⟩,λd hd=>?_⟩;rcases List.mem_cons.1 hd with rfl|hd
    ·exact⟨h1,h2,by rw[hk,h3],h4,h7⟩
    ·obtain⟨q1,q2⟩:=h6 d hd
     exact⟨by omega,q2⟩
   ·cases h
  ·rintro⟨h1,h2⟩
   obtain⟨h3,h4⟩:=List.pairwise_cons.1 h1;obtain⟨h5,h6,hk,h7,h8⟩:=h2 c (by simp);rw[hk];simp only[Bool.and_eq_true,AF,Bool.not_eq_true',AQ];exact⟨⟨⟨⟨⟨h5,h6⟩,trivial⟩,h7⟩,h8⟩,(FX (by omega)).2 ⟨h4,λd hd=>⟨h3 d hd,(h2 d (by simp[hd])).2⟩⟩⟩
structure WdOK(w:Wd):Prop where
 ks:Ag w.kinds=0
 gl:w.gens.length<=256
 il:w.items.length<=w.gens.length
 gs:∀g∈w.gens,0<=g/\g<=1073741824
 so:w.items.Pairwise λa b=>a.ent.n<b.ent.n
 it:∀it∈w.items,0<=it.ent.n/\it.ent.n<w.gens.length/\w.gens[it.ent.n.toNat]?=some it.ent.gen/\it.ent.gen≠1073741824/\A7 w.kinds it.comps=true
theorem BK(w:Wd):Cs w=0↔WdOK w:=by
 have hg:HZ w.gens=true↔∀g∈w.gens,0<=g/\g<=1073741824:=by
  unfold HZ;rw[List.all_eq_true];simp only[Bool.and_eq_true,AF]
 have hi:=FX (ks:=w.kinds) (gens:=w.gens) (l:=w.items) (last:=-1) (by omega);unfold Cs;constructor
 ·intro h
  split at h
  ·exact absurd h ‹_›
  rename_i h1;split at h
  ·cases h
  rename_i h2;split at h
  ·cases h
  rename_i h3;split at h
  ·cases h
  rename_i h4;obtain⟨h5,h6⟩:=hi.1 (by simpa using h4);exact⟨by simpa using h1,by omega,by omega,hg.1 (by simpa using h3),h5,λit hit=>by obtain⟨a,b⟩:=h6 it hit;exact⟨by omega,b⟩⟩
 ·intro h
  rw[if_neg (by simp[h.ks]),if_neg (by have:=h.gl;have:=h.il;omega),if_neg (by rw[hg.2 h.gs];simp),if_neg (by rw[hi.2 ⟨h.so,λit hit=>by obtain⟨a,b⟩:=h.it it hit;exact⟨by omega,b⟩⟩];simp)]
theorem UT(ks:List Kind)(l:List Int)(i:Nat):(cAt ks l i).1.Pairwise λa b=>a.kind<b.kind:=by
 induction i with
 |zero=>exact .nil
 |succ i ih=>
  by_cases hi:i<ks.length
  ·by_cases h2:Ak (cAt ks l i).2 3=2
   ·rw[Ni hi h2];exact ih
   ·rw[Nh hi h2]
    refine List.pairwise_append.2 ⟨ih,List.pairwise_singleton ..,λa ha b hb=>?_⟩;rw[List.mem_singleton.1 hb];obtain⟨j,hj,q,hji,rfl⟩:=RJ ha;show(j:Int)<i
    omega
  ·rw[cAt,List.getElem?_eq_none (by omega)];exact ih
theorem Qu{fs:List Field}(hf:∀f∈fs,Aq f=0)(hr:∀f∈fs,Ei f)(l:List Int):∀i,i<=fs.length->List.zipWith BS (fs.take i) (vAt fs l i).1=(vAt fs l i).1/\(vAt fs l i).1.length=i
 |0,_=>⟨rfl,rfl⟩
 |i+1,h=>by
  obtain⟨h1,h2⟩:=Qu hf hr l i (by omega);rw[Nz (by omega)];have hm:=AK (l:=fs) (n:=i) (by omega);obtain⟨hb0,hb1,_,_⟩:=hr _ hm;have hp:=MK (b:=fs[i].bits.toNat) (by omega);have hv:=Ad (vAt fs l i).2 (n:=2^fs[i].bits.toNat) (by omega);have hh:EC fs[i]=fs[i].low+(2^fs[i].bits.toNat-1):=by unfold EC;rw[if_pos (hf _ hm)]
  refine⟨?_,by rw[AL,h2];rfl⟩;rw[List.take_succ_eq_append_getElem (by omega),List.zipWith_append (by rw[h2,Ah];omega),h1];simp only[List.zipWith_cons_cons,List.zipWith_nil_left];rw[Q6 (hf _ hm) (by omega) (by rw[hh];omega)]
theorem Ra{k:Kind}(h1:BX k=0)(hf:∀f∈k.fields,Aq f=0)(hr:∀f∈k.fields,Ei f)(l:List Int):Bq k (vAt k.fields l k.fields.length).1=true:=by
 obtain⟨h2,h3⟩:=Qu hf hr l k.fields.length (Nat.le_refl _);rw[List.take_length]at h2;unfold Bq;rw[H6 h1 h3,h2];simp
structure KsGood(ks:List Kind):Prop where
 one:∀k∈ks,BX k=0
 fld:∀k∈ks,∀f∈k.fields,Aq f=0
 rng:∀k∈ks,∀f∈k.fields,Ei f
theorem HE(l:List Int):KsGood (Ap l).1:=
 ⟨I4 l,λk hk=>(JY l k hk).1,λk hk=>((F4 l).2 k hk).2⟩
theorem HG{ks:List Kind}(h:KsGood ks)(l:List Int):A7 ks (Cd ks l).1=true:=by
 unfold A7;rw[Ed (by omega)];refine⟨UT _ _ _,λc hc=>?_⟩;obtain⟨j,hj,q,_,rfl⟩:=RJ hc;have hm:=AK hj;exact⟨by show(-1:Int)<(j:Int);omega,by show(j:Int)<_;omega,ks[j],AE hj,Ra (h.one _ hm) (h.fld _ hm) (h.rng _ hm) q⟩
theorem S8(ks:List Kind)(l:List Int)(i:Nat):(wAt ks l i).2.1.Pairwise λa b=>a.ent.n<b.ent.n:=by
 induction i with
 |zero=>exact .nil
 |succ i ih=>
  rw[wAt];split
  ·exact ih
  ·refine List.pairwise_append.2 ⟨ih,List.pairwise_singleton ..,λa ha b hb=>?_⟩
   rw[List.mem_singleton.1 hb];obtain⟨j,q,hji,_,e,_⟩:=Qs ha;show a.ent.n<(i:Int)
   omega
theorem S9(ks:List Kind)(l:List Int)(i:Nat):∀g∈(wAt ks l i).1,0<=g/\g<3:=by
 induction i with
 |zero=>intro g hg;cases hg
 |succ i ih=>
  intro g hg;rw[wAt]at hg;have h3:=Ad (wAt ks l i).2.2 (n:=3) (by decide);split at hg<;>
  ·rcases List.mem_append.1 hg with hg|hg
   ·exact ih g hg
   ·rw[List.mem_singleton.1 hg];exact h3
theorem Oj(l:List Int):WdOK (DC l):=by
 have h:=Ad (Ap l).2 (n:=12) (by decide);have h1:=Nx (Ap l).1 (Ac (Ap l).2 12) (Ak (Ap l).2 12).toNat;have h2:=Ju (Ap l).1 (Ac (Ap l).2 12) (Ak (Ap l).2 12).toNat;have h3:=S9 (Ap l).1 (Ac (Ap l).2 12) (Ak (Ap l).2 12).toNat;refine⟨Kr l,?_,?_,λg hg=>?_,S8 _ _ _,λit hit=>?_⟩
 ·exact Nat.le_trans (Nat.le_of_eq h2) (by omega)
 ·exact Nat.le_trans h1 (Nat.le_of_eq h2.symm)
 ·have:=h3 g hg;omega
 ·obtain⟨j,q,hji,hg,hn,hc⟩:=Qs hit
  have hjl:j<(wAt (Ap l).1 (Ac (Ap l).2 12) (Ak (Ap l).2 12).toNat).1.length:=(List.getElem?_eq_some_iff.1 hg).1;have hgm:=h3 _ (Ao hg);refine⟨by omega,?_,?_,by omega,by rw[hc];exact HG (HE l) q⟩
  ·rw[hn];show(j:Int)<((wAt _ _ _).1.length:Int);omega
  ·rw[hn];exact hg
section
section
variable {α:Type}{key:α->Int}{l a b:List α}
def KS(key:α->Int)(l:List α):Prop:=l.Pairwise λa b=>key a<key b
theorem NR(h:KS key l){x y:α}(hx:x∈l)(hy:y∈l)(e:key x=key y):x=y:=by
 induction l with
 |nil=>cases hx
 |cons z l ih=>
  obtain⟨h1,h2⟩:=List.pairwise_cons.1 h;rcases List.mem_cons.1 hx with q|q<;>rcases List.mem_cons.1 hy with r|r
  ·rw[q,r]
  ·subst q;have:=h1 y r;omega
  ·subst r;have:=h1 x q;omega
  ·exact ih h2 q r
theorem Tp:∀{a b:List α},KS key a->KS key b->(∀x,x∈a↔x∈b)->a=b
 |[],[],_,_,_=>rfl
 |[],y::b,_,_,h=>absurd ((h y).2 (by simp)) (by simp)
 |x::a,[],_,_,h=>absurd ((h x).1 (by simp)) (by simp)
 |x::a,y::b,ha,hb,h=>by
  obtain⟨a1,a2⟩:=List.pairwise_cons.1 ha;obtain⟨b1,b2⟩:=List.pairwise_cons.1 hb
  have e:x=y:=by
   rcases List.mem_cons.1 ((h x).1 (by simp))with e|h1
   ·exact e
   ·rcases List.mem_cons.1 ((h y).2 (by simp))with e|h2
    ·exact e.symm
    ·have:=b1 x h1;have:=a1 y h2;omega
  subst e;rw[Tp a2 b2 λz=>?_];constructor
  ·intro hz
   rcases List.mem_cons.1 ((h z).1 (by simp[hz]))with e|h1
   ·have:=a1 z hz;rw[e]at this;omega
   ·exact h1
  ·intro hz
   rcases List.mem_cons.1 ((h z).2 (by simp[hz]))with e|h1
   ·have:=b1 z hz;rw[e]at this;omega
   ·exact h1
theorem J1{i:Nat}{y:α}(hi:l[i]?=some y):l=l.take i++y::l.drop (i+1):=by
 obtain⟨h,rfl⟩:=List.getElem?_eq_some_iff.1 hi;rw[<-CD h,List.take_append_drop]
theorem Ka{i:Nat}{y:α}(h:KS key l)(hi:l[i]?=some y):KS key (l.take i)/\KS key (l.drop (i+1))/\(∀x∈l.take i,key x<key y)/\(∀x∈l.drop (i+1),key y<key x)/\∀x,x∈l↔x∈l.take i\/x=y\/x∈l.drop (i+1):=by
 have e:=J1 hi;have h':=h;rw[e]at h';obtain⟨h1,h2,h3⟩:=List.pairwise_append.1 h';obtain⟨h4,h5⟩:=List.pairwise_cons.1 h2;refine⟨h1,h5,λx hx=>h3 x hx y (by simp),h4,λx=>?_⟩
 conv=>lhs;rw[e]
 simp
theorem Tq{i:Nat}{y:α}(h:KS key l)(hi:l[i]?=some y):KS key (l.eraseIdx i)/\∀x,x∈l.eraseIdx i↔x∈l/\key x≠key y:=by
 obtain⟨h1,h2,h3,h4,h5⟩:=Ka h hi;refine⟨h.sublist (List.eraseIdx_sublist _ _),λx=>?_⟩;rw[List.eraseIdx_eq_take_drop_succ,CS,h5];constructor
 ·rintro(hx|hx)
  ·exact⟨.inl hx,by have:=h3 x hx;omega⟩
  ·exact⟨.inr (.inr hx),by have:=h4 x hx;omega⟩
 ·rintro⟨hx|rfl|hx,hn⟩
  ·exact .inl hx
  ·exact absurd rfl hn
  ·exact .inr hx
theorem QB{i:Nat}{y z:α}(h:KS key l)(hi:l[i]?=some y)(hk:key z=key y):KS key (l.set i z)/\∀x,x∈l.set i z↔x=z\/(x∈l/\key x≠key z):=by
 obtain⟨h1,h2,h3,h4,h5⟩:=Ka h hi;obtain⟨hl,_⟩:=List.getElem?_eq_some_iff.1 hi;have e:l.set i z=l.take i++z::l.drop (i+1):=List.set_eq_take_append_cons_drop.trans (if_pos hl);rw[e];refine⟨List.pairwise_append.2 ⟨h1,List.pairwise_cons.2 ⟨λx hx=>by have:=h4 x hx;omega,h2⟩,λx hx w hw=>?_⟩,λx=>?_⟩
 ·rcases List.mem_cons.1 hw with rfl|hw
  ·have:=h3 x hx;omega
  ·have:=h3 x hx;have:=h4 w hw;omega
 ·rw[h5,CS,BO]
  constructor
  ·rintro(hx|rfl|hx)
   ·exact .inr ⟨.inl hx,by have:=h3 x hx;omega⟩
   ·exact .inl rfl
   ·exact .inr ⟨.inr (.inr hx),by have:=h4 x hx;omega⟩
  ·rintro(rfl|⟨hx|rfl|hx,hn⟩)
   ·exact .inr (.inl rfl)
   ·exact .inl hx
   ·exact absurd hk.symm hn
   ·exact .inr (.inr hx)
theorem VS(h:KS key l){n:Int}{x:α}:(l.find? λy=>decide (key y=n))=some x↔x∈l/\key x=n:=by
 constructor
 ·intro e
  exact⟨List.mem_of_find?_eq_some e,by simpa using List.find?_some e⟩
 ·rintro⟨hx,e⟩
  cases hf:l.find? λy=>decide (key y=n)with
  |none=>rw[List.find?_eq_none]at hf;exact absurd (by simpa using e) (hf x hx)
  |some z=>rw[NR h hx (List.mem_of_find?_eq_some hf) (by have:=List.find?_some hf;simp at this;omega)]
end
theorem held_iff{ks:List Kind}{l:List Comp}:A7 ks l=true↔CT l/\∀c∈l,0<=c.kind/\c.kind<ks.length/\∃k,ks[c.kind.toNat]?=some k/\Bq k c.vals=true:=by
 unfold A7;rw[Ed (by omega)];constructor
 ·rintro⟨h1,h2⟩
  exact⟨h1,λc hc=>⟨by have:=(h2 c hc).1;omega,(h2 c hc).2⟩⟩
 ·rintro⟨h1,h2⟩
  exact⟨h1,λc hc=>⟨by have:=(h2 c hc).1;omega,(h2 c hc).2⟩⟩
theorem H2{c:Comp}:∀{l:List Comp},CT l->∀d,d∈Fi l c↔d=c\/(d∈l/\d.kind≠c.kind)
 |[],_,d=>by simp[Fi]
 |x::l,h,d=>by
  obtain⟨h1,h2⟩:=List.pairwise_cons.1 h;rw[Fi];split
  ·rename_i hx
   rw[BO,H2 h2,BO];constructor
   ·rintro(rfl|rfl|⟨hd,hn⟩)
    ·exact .inr ⟨.inl rfl,by omega⟩
    ·exact .inl rfl
    ·exact .inr ⟨.inr hd,hn⟩
   ·rintro(rfl|⟨rfl|hd,hn⟩)
    ·exact .inr (.inl rfl)
    ·exact .inl rfl
    ·exact .inr (.inr ⟨hd,hn⟩)
  ·split
   ·rename_i hx
    rw[BO,BO];constructor
    ·rintro(rfl|hd)
     ·exact .inl rfl
     ·exact .inr ⟨.inr hd,by have:=h1 d hd;omega⟩
    ·rintro(rfl|⟨rfl|hd,hn⟩)
     ·exact .inl rfl
     ·exact absurd hx hn
     ·exact .inr hd
   ·rw[BO,BO]
    constructor
    ·rintro(rfl|rfl|hd)
     ·exact .inl rfl
     ·exact .inr ⟨.inl rfl,by omega⟩
     ·exact .inr ⟨.inr hd,by have:=h1 d hd;omega⟩
    ·rintro(rfl|⟨hd,hn⟩)
     ·exact .inl rfl
     ·exact .inr hd
theorem Ia{c:Comp}:∀{l:List Comp},CT l->CT (Fi l c)
 |[],_=>List.pairwise_singleton ..
 |x::l,h=>by
  obtain⟨h1,h2⟩:=List.pairwise_cons.1 h;rw[Fi];split
  ·rename_i hx
   refine List.pairwise_cons.2 ⟨λd hd=>?_,Ia h2⟩;rcases(H2 h2 d).1 hd with rfl|⟨hd,_⟩
   ·exact hx
   ·exact h1 d hd
  ·split
   ·rename_i hx
    exact List.pairwise_cons.2 ⟨λd hd=>by have:=h1 d hd;omega,h2⟩
   ·refine List.pairwise_cons.2 ⟨λd hd=>?_,h⟩
    rcases List.mem_cons.1 hd with rfl|hd
    ·omega
    ·have:=h1 d hd;omega
theorem SW{l:List Comp}{k:Int}(d:Comp):d∈Fl l k↔d∈l/\d.kind≠k:=by
 unfold Fl;rw[List.mem_filter];simp
theorem QR{l:List Comp}{k:Int}(h:CT l):CT (Fl l k):=List.Pairwise.filter _ h
theorem MD{a b:List Comp}(ha:CT a)(hb:CT b)(h:∀x,x∈a↔x∈b):a=b:=Tp (key:=Comp.kind) ha hb h
theorem Bw{l:List Comp}(h:CT l){k:Int}{c:Comp}:BH l k=some c↔c∈l/\c.kind=k:=VS (key:=Comp.kind) h
theorem T2{ks:List Kind}{l:List Comp}{c:Comp}(h:A7 ks l=true)(h1:0<=c.kind)(h2:c.kind<ks.length){k:Kind}(h3:ks[c.kind.toNat]?=some k)(h4:Bq k c.vals=true):A7 ks (Fi l c)=true:=by
 obtain⟨hs,hm⟩:=held_iff.1 h;refine held_iff.2 ⟨Ia hs,λd hd=>?_⟩;rcases(H2 hs d).1 hd with rfl|⟨hd,_⟩
 ·exact⟨h1,h2,k,h3,h4⟩
 ·exact hm d hd
theorem MX{ks:List Kind}{l:List Comp}{k:Int}(h:A7 ks l=true):A7 ks (Fl l k)=true:=by
 obtain⟨hs,hm⟩:=held_iff.1 h;exact held_iff.2 ⟨QR hs,λd hd=>hm d ((SW d).1 hd).1⟩
theorem NS{pre ks:List Kind}(h:Bu pre ks=0):∀k∈ks,BX k=0:=by
 induction ks generalizing pre with
 |nil=>intro k hk;cases hk
 |cons x l ih=>
  intro k hk;simp only[Bu]at h;split at h
  ·exact absurd h ‹_›
  ·rename_i hx
   split at h
   ·cases h
   ·rcases List.mem_cons.1 hk with rfl|hk
    ·simpa using hx
    ·exact ih h k hk
theorem Bn{ks:List Kind}(h:Ag ks=0):ks.length<=16/\∀k∈ks,BX k=0:=by
 unfold Ag at h;split at h
 ·cases h
 ·exact⟨by omega,NS h⟩
def He(ks:List Kind)(c:Comp):Comp:=match ks[c.kind.toNat]? with
 |some k=>⟨c.kind,(BW k c.vals).1⟩
 |none=>c
theorem Ih(ks:List Kind)(c:Comp):(He ks c).kind=c.kind:=by unfold He;split<;>rfl
def II(ks:List Kind)(c:Comp):Prop:=0<=c.kind/\c.kind<ks.length/\∃k,ks[c.kind.toNat]?=some k/\(BW k c.vals).2=0
theorem Na{ks:List Kind}{c:Comp}{k:Kind}(h:ks[c.kind.toNat]?=some k):He ks c=⟨c.kind,(BW k c.vals).1⟩:=by
 unfold He;rw[h]
theorem Kw{ks:List Kind}:∀{l pre out:List Comp},(∀c∈l,II ks c)->l.Pairwise (λa b=>a.kind≠b.kind)->(∀a∈pre,∀b∈l,a.kind≠b.kind)->Cn ks pre out l=(out++l.map (He ks),0)
 |[],pre,out,_,_,_=>by simp[Cn]
 |c::l,pre,out,h1,h2,h3=>by
  obtain⟨a,b,k,hk,hf⟩:=h1 c (by simp);obtain⟨h4,h5⟩:=List.pairwise_cons.1 h2
  have hany:pre.any (λo=>decide (o.kind=c.kind))=false:=by
   rw[List.any_eq_false];intro x hx;simpa using h3 x hx c (by simp)
  rw[Cn,if_neg (by omega),hany,if_neg (by simp),hk];dsimp only;rw[if_neg (by simp[hf]),Kw (λd hd=>h1 d (by simp[hd])) h5 (λx hx d hd=>?_),List.map_cons,Na hk]
  ·simp
  ·rcases List.mem_append.1 hx with hx|hx
   ·exact h3 x hx d (by simp[hd])
   ·rw[List.mem_singleton.1 hx];exact h4 d hd
theorem L6{ks:List Kind}(hk:Ag ks=0){l:List Comp}(h1:∀c∈l,II ks c)(h2:l.Pairwise (λa b=>a.kind≠b.kind)):CH ks l=(GF (l.map (He ks)),0):=by
 unfold CH;rw[if_neg (by simp[hk]),Kw h1 h2 (λ_ h=>by cases h),if_neg (by simp)];rfl
theorem Kd{l:List Comp}(h:CT l):GF l=l:=
 (Kc (h.imp λh=>by omega) (List.Perm.refl _) (h.imp λh=>by omega)).symm
theorem Dp{k:Kind}{v:List Int}(h:Bq k v=true):BW k v=(v,0):=by
 unfold Bq at h;simp only[Bool.and_eq_true,AF]at h;exact Prod.ext h.2 h.1
theorem Dq{k:Kind}{v:List Int}(h:(BW k v).2=0):Bq k (BW k v).1=true/\(BW k v).1=List.zipWith BS k.fields v/\v.length=k.fields.length:=by
 unfold BW at h⊢;split at h
 ·exact absurd h ‹_›
 ·rename_i h1
  have h1:BX k=0:=by simpa using h1
  split at h
  ·cases h
  ·rename_i h2
   have h2:v.length=k.fields.length:=by simpa using h2
   rw[if_neg (by simp[h1]),if_neg (by simp[h2])];refine⟨?_,rfl,h2⟩;unfold Bq;rw[H6 h1 (by simp[h2]),R2 (Do h1).2.2];simp
theorem UA{ks:List Kind}{l:List Comp}(h:A7 ks l=true):(∀c∈l,II ks c)/\l.Pairwise (λa b=>a.kind≠b.kind)/\l.map (He ks)=l:=by
 obtain⟨hs,hm⟩:=held_iff.1 h;refine⟨λc hc=>?_,hs.imp λh=>by omega,?_⟩
 ·obtain⟨a,b,k,hk,hh⟩:=hm c hc
  exact⟨a,b,k,hk,by rw[Dp hh]⟩
 ·conv=>rhs;rw[<-List.map_id l]
  refine List.map_congr_left λc hc=>?_
  obtain⟨a,b,k,hk,hh⟩:=hm c hc;rw[Na hk,Dp hh];rfl
theorem IM{ks:List Kind}(hk:Ag ks=0){l:List Comp}(h:A7 ks l=true):CH ks l=(l,0):=by
 obtain⟨h1,h2,h3⟩:=UA h;rw[L6 hk h1 h2,h3,Kd (held_iff.1 h).1]
theorem Jt{ks:List Kind}(hk:Ag ks=0){c:Comp}(h:II ks c):CH ks [c]=([He ks c],0):=by
 rw[L6 hk (λd hd=>by rw[List.mem_singleton.1 hd];exact h) (List.pairwise_singleton ..)];show(GF [He ks c],(0:Int))=_
 rw[Kd (List.pairwise_singleton ..)]
theorem QL{ks:List Kind}{c:Comp}(h:II ks c):∃k,ks[(He ks c).kind.toNat]?=some k/\Bq k (He ks c).vals=true:=by
 obtain⟨_,_,k,hk,hf⟩:=h;refine⟨k,by rw[Ih];exact hk,?_⟩;rw[Na hk];exact(Dq hf).1
def RO(l:List Item):Prop:=KS (λit=>it.ent.n) l
theorem H7{l:List Item}(h:RO l){i:Nat}{it:Item}(hi:l[i]?=some it):CY l it.ent=i:=by
 by_cases hn:CY l it.ent<0
 ·have:=Kx hn
  rw[List.find?_eq_none]at this;exact absurd (by simp) (this it (Ao hi))
 ·obtain⟨n,hn⟩:∃n:Nat,CY l it.ent=n:=⟨(CY l it.ent).toNat,by omega⟩
  obtain⟨x,hx,_,e⟩:=F6 hn;rw[hn];have e2:=NR h (Ao hx) (Ao hi) (by rw[e]);subst e2;obtain⟨a,ha⟩:=List.getElem?_eq_some_iff.1 hx;obtain⟨b,hb⟩:=List.getElem?_eq_some_iff.1 hi;have hp:=List.pairwise_iff_getElem.1 h;rcases Nat.lt_trichotomy n i with q|q|q
  ·have:=hp n i a b q;rw[ha,hb]at this;omega
  ·rw[q]
  ·have:=hp i n b a q;rw[ha,hb]at this;omega
theorem HO{w:Wd}{i:Nat}{it:Item}(hi:w.items[i]?=some it)(cs:List Comp):DY w i cs=⟨w.kinds,w.gens,w.items.set i ⟨it.ent,cs⟩⟩:=by
 unfold DY;rw[hi]
theorem HN{w:Wd}(h:WdOK w){i:Nat}{it:Item}(hi:w.items[i]?=some it){cs:List Comp}(hc:A7 w.kinds cs=true):WdOK (DY w i cs):=by
 rw[HO hi];obtain⟨h1,h2⟩:=QB (key:=λit:Item=>it.ent.n) h.so hi (z:=⟨it.ent,cs⟩) rfl;refine⟨h.ks,h.gl,by simpa using h.il,h.gs,h1,λx hx=>?_⟩;rcases(h2 x).1 hx with rfl|⟨hx,_⟩
 ·obtain⟨a,b,c,d,e⟩:=h.it it (Ao hi)
  exact⟨a,b,c,d,hc⟩
 ·exact h.it x hx
theorem TQ{w:Wd}(h:WdOK w){i:Nat}{it:Item}(hi:w.items[i]?=some it){c:Comp}(hc:II w.kinds c):DP w it.ent c=(DY w i (Fi it.comps (He w.kinds c)),0):=by
 unfold DP;have hf:=H7 h.so hi;rw[if_neg (by simp[(BK w).2 h]),hf,if_neg (by omega),Jt h.ks hc,if_neg (by simp),Int.toNat_natCast,hi]
theorem TP{w:Wd}(h:WdOK w){i:Nat}{it:Item}(hi:w.items[i]?=some it){c:Comp}(hc:II w.kinds c):WdOK (DY w i (Fi it.comps (He w.kinds c))):=by
 obtain⟨k,hk,hh⟩:=QL hc;have hit:=h.it it (Ao hi);have hcc:=hc;obtain⟨a,b,_⟩:=hcc;exact HN h hi (T2 hit.2.2.2.2 (by rw[Ih];exact a) (by rw[Ih];exact b) hk hh)
theorem Me{w:Wd}(h:WdOK w){i:Nat}{it:Item}(hi:w.items[i]?=some it)(k:Int):E8 w it.ent k=if(BH it.comps k).isSome then(DY w i (Fl it.comps k),0)else(⟨[],[],[]⟩,4):=by
 unfold E8;have hf:=H7 h.so hi;rw[if_neg (by simp[(BK w).2 h]),hf,if_neg (by omega),Int.toNat_natCast,hi]
theorem TC{l:List Item}{n:Int}(h:GK l n=false):∀x∈l,x.ent.n≠n:=by
 unfold GK at h;rw[List.any_eq_false]at h;intro x hx;simpa using h x hx
theorem Hc{w:Wd}(hw:WdOK w)(h:(Bf w).2=true):(Bf w).1<=w.gens.length/\(∀x∈w.items,x.ent.n≠((Bf w).1:Nat))/\(Bf w).1<256/\∀g,w.gens[(Bf w).1]?=some g->g<1073741824:=by
 have hg:=hw.gl;unfold Bf at h⊢;split at h
 ·rename_i n hn
  unfold MY at hn;rw[List.find?_eq_some_iff_getElem]at hn;obtain⟨h1,i,h2,h3,h4⟩:=hn;simp only[List.getElem_range]at h3;subst h3;rw[List.length_range]at h2;simp only[Bool.and_eq_true,Bool.not_eq_true',AF]at h1;refine⟨by dsimp only;omega,TC h1.1,by dsimp only;omega,λg hgg=>?_⟩;dsimp only at hgg;have:=h1.2;rw[Bp,hgg]at this;exact this
 ·have h:w.gens.length<256:=by dsimp only at h;rw[AF]at h;omega
  refine⟨Nat.le_refl _,λx hx=>?_,h,λg hgg=>?_⟩
  ·have:=(hw.it x hx).2.1
   dsimp only;omega
  ·rw[List.getElem?_eq_none (Nat.le_refl _)]at hgg;cases hgg
theorem Ki{it:Item}:∀{l:List Item} (x:Item),x∈IZ l it↔x=it\/x∈l
 |[],x=>by simp[IZ]
 |y::l,x=>by
  rw[IZ];split
  ·rw[BO,Ki,BO]
   constructor
   ·rintro(h|h|h)
    ·exact .inr (.inl h)
    ·exact .inl h
    ·exact .inr (.inr h)
   ·rintro(h|h|h)
    ·exact .inr (.inl h)
    ·exact .inl h
    ·exact .inr (.inr h)
  ·rw[BO]
theorem MT{it:Item}:∀{l:List Item},RO l->(∀x∈l,x.ent.n≠it.ent.n)->RO (IZ l it)
 |[],_,_=>List.pairwise_singleton ..
 |y::l,h,hn=>by
  obtain⟨h1,h2⟩:=List.pairwise_cons.1 h;rw[IZ];split
  ·rename_i hy
   refine List.pairwise_cons.2 ⟨λx hx=>?_,MT h2 λx hx=>hn x (by simp[hx])⟩;rcases(Ki x).1 hx with rfl|hx
   ·exact hy
   ·exact h1 x hx
  ·rename_i hy
   have:=hn y (by simp);refine List.pairwise_cons.2 ⟨λx hx=>?_,h⟩;show it.ent.n<x.ent.n
   rcases List.mem_cons.1 hx with rfl|hx
   ·omega
   ·have:y.ent.n<x.ent.n:=h1 x hx
    omega
theorem T6{gens:List Int}{n:Nat}(h:n<=gens.length):n<(Ch gens n).length/\(Ch gens n)[n]?=some ((Ch gens n).getD n 0)/\gens.length<=(Ch gens n).length/\(∀j,j<gens.length->(Ch gens n)[j]?=gens[j]?)/\(∀g∈Ch gens n,g∈gens\/g=0)/\(Ch gens n).length<=max gens.length (n+1):=by
 unfold Ch;split
 ·rename_i e
  subst e;refine⟨by simp,by simp[Bp],by simp,λj hj=>List.getElem?_append_left hj,λg hg=>?_,by simp⟩;rcases List.mem_append.1 hg with h|h
  ·exact .inl h
  ·exact .inr (List.mem_singleton.1 h)
 ·refine⟨by omega,?_,Nat.le_refl _,λ_ _=>rfl,λg hg=>.inl hg,by omega⟩
  rw[Bp,AE (by omega)];rfl
theorem Pd{w:Wd}(h:WdOK w)(hf:(Bf w).2=true){l:List Comp}{cs:List Comp}(hl:CH w.kinds l=(cs,0)):
  DJ w l=(⟨w.kinds,Ch w.gens (Bf w).1,IZ w.items ⟨⟨(Bf w).1,(Ch w.gens (Bf w).1).getD (Bf w).1 0⟩,cs⟩⟩,⟨(Bf w).1,(Ch w.gens (Bf w).1).getD (Bf w).1 0⟩,0):=by
 unfold DJ;rw[if_neg (by simp[(BK w).2 h]),hl,if_neg (by simp),if_neg (by simp[hf])]
theorem J2{w:Wd}(h:WdOK w)(hf:(Bf w).2=true){cs:List Comp}(hc:A7 w.kinds cs=true):
  WdOK ⟨w.kinds,Ch w.gens (Bf w).1,IZ w.items ⟨⟨(Bf w).1,(Ch w.gens (Bf w).1).getD (Bf w).1 0⟩,cs⟩⟩:=by
 obtain⟨f1,f2,f3,f4⟩:=Hc h hf;obtain⟨n,hn⟩:=nm ((Bf w).1);rw[hn]at f1 f2 f3 f4⊢;obtain⟨g1,g2,g3,g4,g5,g6⟩:=T6 f1
 have hgs:∀g∈Ch w.gens n,0<=g/\g<=1073741824:=λg hg=>by
  rcases g5 g hg with hg|rfl
  ·exact h.gs g hg
  ·omega
 have hso:RO (IZ w.items ⟨⟨n,(Ch w.gens n).getD n 0⟩,cs⟩):=MT h.so f2
 have hit:∀x∈IZ w.items ⟨⟨n,(Ch w.gens n).getD n 0⟩,cs⟩,0<=x.ent.n/\x.ent.n<(Ch w.gens n).length/\(Ch w.gens n)[x.ent.n.toNat]?=some x.ent.gen/\x.ent.gen≠1073741824/\A7 w.kinds x.comps=true:=λx hx=>by
  rcases(Ki x).1 hx with rfl|hx
  ·refine⟨by dsimp only;omega,by dsimp only;omega,by dsimp only;rw[Int.toNat_natCast];exact g2,?_,hc⟩
   dsimp only;intro e;rw[e]at g2;by_cases hnl:n<w.gens.length
   ·rw[g4 n hnl]at g2
    have:=f4 _ g2;omega
   ·unfold Ch at e
    rw[if_pos (by omega),Bp,show n=w.gens.length by omega]at e;simp at e
  ·obtain⟨a,b,c,d,e⟩:=h.it x hx
   exact⟨a,by omega,by rw[g4 _ (by omega)];exact c,d,e⟩
 refine⟨h.ks,?_,?_,hgs,hso,hit⟩
 ·have:=h.gl
  dsimp only;omega
 ·exact GR (λx:Item=>x.ent.n) _ _ (hso.imp λ{a b} h=>by have h:a.ent.n<b.ent.n:=h;show a.ent.n≠b.ent.n;omega) λx hx=>⟨(hit x hx).1,(hit x hx).2.1⟩
theorem MS{w:Wd}(h:WdOK w){i:Nat}{it:Item}(hi:w.items[i]?=some it):EB w it.ent=(⟨w.kinds,w.gens.set it.ent.n.toNat (w.gens.getD it.ent.n.toNat 0+1),w.items.eraseIdx i⟩,0):=by
 unfold EB;have hf:=H7 h.so hi;rw[if_neg (by simp[(BK w).2 h]),hf,if_neg (by omega),Int.toNat_natCast]
theorem RA{w:Wd}(h:WdOK w){i:Nat}{it:Item}(hi:w.items[i]?=some it):WdOK ⟨w.kinds,w.gens.set it.ent.n.toNat (w.gens.getD it.ent.n.toNat 0+1),w.items.eraseIdx i⟩:=by
 obtain⟨h1,h2⟩:=Tq (key:=λx:Item=>x.ent.n) h.so hi;obtain⟨a,b,c,d,e⟩:=h.it it (Ao hi);have hg:=h.gs it.ent.gen (Ao c);have hgd:w.gens.getD it.ent.n.toNat 0=it.ent.gen:=by rw[Bp,c];rfl
 refine⟨h.ks,by simpa using h.gl,?_,λg hgm=>?_,h1,λx hx=>?_⟩
 ·have:=h.il
  have:=List.length_eraseIdx_le w.items i;simp only[List.length_set];omega
 ·rcases List.mem_or_eq_of_mem_set hgm with hgm|rfl
  ·exact h.gs g hgm
  ·rw[hgd];omega
 ·obtain⟨hx,hn⟩:=(h2 x).1 hx
  obtain⟨a',b',c',d',e'⟩:=h.it x hx;exact⟨a',by simpa using b',by rw[List.getElem?_set_ne (by omega)];exact c',d',e'⟩
theorem L5{ks:List Kind}{c:Comp}(h:(CH ks [c]).2=0):∃d,(CH ks [c]).1=[d]/\d.kind=c.kind/\0<=c.kind/\c.kind<ks.length:=by
 unfold CH at h⊢;split at h
 ·exact absurd h ‹_›
 ·rename_i h1
  rw[if_neg h1];split at h
  ·exact absurd h ‹_›
  ·rename_i h2
   rw[if_neg h2];have h2:(Cn ks [] [] [c]).2=0:=by simpa using h2
   rw[Cn]at h2⊢;split at h2
   ·cases h2
   ·rename_i g1
    rw[if_neg g1];rw[if_neg (by simp)]at h2⊢;split at h2
    ·cases h2
    ·rename_i k hk
     split at h2
     ·exact absurd h2 ‹_›
     ·rename_i g3
      (try simp only[hk])
      rw[if_neg g3,Cn];refine⟨⟨c.kind,(BW k c.vals).1⟩,?_,rfl,by omega,by omega⟩;show GF [_]=_
      exact Kd (List.pairwise_singleton ..)
theorem ED{ks:List Kind}(hk:Ag ks=0){l:List Comp}(h:A7 ks l=true):l.length<=16/\∀c∈l,c.vals.length<=8:=by
 obtain⟨hs,hm⟩:=held_iff.1 h;obtain⟨h16,ho⟩:=Bn hk;refine⟨Nat.le_trans (GR Comp.kind _ _ (hs.imp λh=>by omega) λc hc=>⟨(hm c hc).1,(hm c hc).2.1⟩) h16,λc hc=>?_⟩;obtain⟨_,_,k,hk2,hh⟩:=hm c hc;have h8:=(Do (ho k (Ao hk2))).2.1;have:=Dq (k:=k) (v:=c.vals) (by rw[Dp hh]);omega
theorem WdOK.wl{w:Wd}(h:WdOK w):WdL w:=by
 obtain⟨h16,ho⟩:=Bn h.ks;refine⟨⟨by omega,λk hk=>by have:=(Do (ho k hk)).2.1;omega⟩,by have:=h.gl;omega,by have:=h.gl;have:=h.il;omega,λit hit=>?_⟩;obtain⟨h1,h2⟩:=ED h.ks (h.it it hit).2.2.2.2;exact⟨by omega,λc hc=>by have:=h2 c hc;omega⟩
theorem H3(l:List Int):0<(Ap l).1.length:=by
 have h:=Ad l (n:=4) (by decide)
 have:∀i c q,(BG i c q).1.length=c:=by
  intro i c
  induction c generalizing i with
  |zero=>intro q;rfl
  |succ c ih=>intro q;simp only[BG,Bm,ih]
 unfold Ap;rw[this];omega
theorem TE{α:Type}{p:α->Bool}:∀{l:List α} {i:Nat},i<=l.length->(∀(j:Nat) (x:α),j<i->l[j]?=some x->p x=true)->(∀x,l[i]?=some x->p x=false)->(l.takeWhile p).length=i
 |[],i,h,_,_=>by(have:i=0:=by simpa using h);(subst this;rfl)
 |x::l,0,_,_,h2=>by rw[List.takeWhile_cons,h2 x rfl];rfl
 |x::l,i+1,h,h1,h2=>by
  rw[List.takeWhile_cons,h1 0 x (by omega) rfl];show(l.takeWhile p).length+1=i+1
  rw[TE (i:=i) (by simpa using h) (λj y hj hy=>h1 (j+1) y (by omega) hy) (λy hy=>h2 y hy)]
theorem RF{d:Comp}:∀{l:List Comp},CT l->Fi l d=if(BH l d.kind).isSome then l.set (Cf l d.kind) d else l.take (Cf l d.kind)++d::l.drop (Cf l d.kind)
 |[],_=>rfl
 |x::l,h=>by
  obtain⟨h1,h2⟩:=List.pairwise_cons.1 h;have ih:=RF (d:=d) h2
  have ec:BH (x::l) d.kind=if x.kind=d.kind then some x else BH l d.kind:=by
   unfold BH;rw[List.find?_cons];by_cases e:x.kind=d.kind<;>simp[e]
  have ea:Cf (x::l) d.kind=if x.kind<d.kind then Cf l d.kind+1 else 0:=by
   unfold Cf;rw[List.takeWhile_cons];by_cases e:x.kind<d.kind<;>simp[e]
  rw[Fi,ec,ea];by_cases e1:x.kind<d.kind
  ·have e3:¬x.kind=d.kind:=by omega
   rw[if_pos e1,if_pos e1,if_neg e3,ih];split<;>simp
  ·rw[if_neg e1,if_neg e1]
   by_cases e2:x.kind=d.kind
   ·rw[if_pos e2,if_pos e2];rfl
   ·rw[if_neg e2,if_neg e2,Im (λc hc=>by have:=h1 c hc;omega)];rfl
theorem Ov{k:Int}:∀{l:List Comp},CT l->(BH l k).isSome=true->Fl l k=l.eraseIdx (Cf l k)
 |[],_,hn=>by cases hn
 |x::l,h,hn=>by
  obtain⟨h1,h2⟩:=List.pairwise_cons.1 h
  have ec:BH (x::l) k=if x.kind=k then some x else BH l k:=by
   unfold BH;rw[List.find?_cons];by_cases e:x.kind=k<;>simp[e]
  have ea:Cf (x::l) k=if x.kind<k then Cf l k+1 else 0:=by
   unfold Cf;rw[List.takeWhile_cons];by_cases e:x.kind<k<;>simp[e]
  have ed:Fl (x::l) k=if x.kind=k then Fl l k else x::Fl l k:=by
   unfold Fl;rw[List.filter_cons];by_cases e:x.kind=k<;>simp[e]
  rw[ec]at hn;rw[ea,ed];by_cases e2:x.kind=k
  ·have e3:¬x.kind<k:=by omega
   rw[if_pos e2,if_neg e3];show Fl l k=l
   unfold Fl;rw[List.filter_eq_self];intro c hc;have:=h1 c hc;simp;omega
  ·rw[if_neg e2]at hn
   by_cases e1:x.kind<k
   ·rw[if_neg e2,if_pos e1,Ov h2 hn];rfl
   ·rw[Im (λc hc=>by have:=h1 c hc;omega)]at hn;cases hn
end
def EJ(n:Nat):List UInt8:=match n with
 |0=>[111,110,101]
 |1=>[116,119,111]
 |2=>[116,104,114,101,101]
 |3=>[102,111,117,114]
 |4=>[102,105,118,101]
 |_=>[115,105,120]
def Lr(ks:List Kind)(i:Int):Int:=match ks[i.toNat]? with
 |some k=>k.fields.length
 |none=>0
def FJ(ks:List Kind)(seen:List Int)(l:List Int):Arg×List Int:=
 if Ak l 2=0 then(⟨false,Ak (Ac l 2) 20-6,⟨0,0⟩⟩,Ac (Ac l 2) 20)
 else(⟨true,0,⟨seen.getD (Ak (Ac l 2) seen.length).toNat 0,Ak (Ac (Ac l 2) seen.length) (Lr ks (seen.getD (Ak (Ac l 2) seen.length).toNat 0))⟩⟩,
  Ac (Ac (Ac l 2) seen.length) (Lr ks (seen.getD (Ak (Ac l 2) seen.length).toNat 0)))
def IG(ks:List Kind)(r:Ref):Prop:=0<=r.kind/\r.kind<ks.length/\0<=r.field/\r.field<Lr ks r.kind
def Mw(ks:List Kind)(seen:List Int)(a:Arg):Prop:=(a.has=true->a.n=0/\IG ks a.ref/\a.ref.kind∈seen)/\(a.has=false-> -6<=a.n/\a.n<=13/\a.ref=⟨0,0⟩)
def Fq:Arg:=⟨false,0,⟨0,0⟩⟩
def G9(d:Int):Bool:=(decide (1<=d)&&decide (d<=6))||decide (d=12)
structure OpOK(ks:List Kind)(reads writes:List Int)(o:Op):Prop where
 lo:0<=o.act
 hi:o.act<=12
 a:Mw ks (reads++writes) o.a
 b:if G9 o.act then Mw ks (reads++writes) o.b else o.b=Fq
 sets:o.act<=7->IG ks o.to/\o.to.kind∈writes
 puts:o.act=8\/o.act=9->0<=o.to.kind/\o.to.kind<ks.length/\o.to.field=0
 none:10<=o.act->o.to=⟨0,0⟩
structure SysL(w1 w2 w3 w4:List Int)(n:Int):Prop where
 o1:w1.Pairwise (· < ·)
 o2:w2.Pairwise (· < ·)
 o3:w3.Pairwise (· < ·)
 o4:w4.Pairwise (· < ·)
 r1:∀x∈w1,0<=x/\x<n
 r2:∀x∈w2,0<=x/\x<n
 d:∀x∈w1,x∉w2
 s3:∀x∈w3,x∈w1
 s4:∀x∈w4,x∈w1
 all:∀x∈w1,x∈w3\/x∈w4
structure SysOK(ks:List Kind)(n:Nat)(s:Sys):Prop where
 name:s.name=EJ n
 lists:SysL s.wth s.wout s.reads s.writes ks.length
 some:s.wth≠[]
 len:s.ops.length<=5
 ops:∀o∈s.ops,OpOK ks s.reads s.writes o
 spawn:s.spawn=[]\/∃q,s.spawn=(Cd ks q).1
theorem SysL.nil(n:Int):SysL [] [] [] [] n:=⟨.nil,.nil,.nil,.nil,by simp,by simp,by simp,by simp,by simp,by simp⟩
theorem SysL.weaken{w1 w2 w3 w4:List Int}{n m:Int}(h:SysL w1 w2 w3 w4 n)(hm:n<=m):SysL w1 w2 w3 w4 m:=
 ⟨h.o1,h.o2,h.o3,h.o4,λx hx=>⟨(h.r1 x hx).1,by have:=(h.r1 x hx).2;omega⟩,λx hx=>⟨(h.r2 x hx).1,by have:=(h.r2 x hx).2;omega⟩,h.d,h.s3,h.s4,h.all⟩
theorem Gs{l:List Int}{n:Int}(h:l.Pairwise (· < ·))(hn:∀x∈l,x<n):(l++[n]).Pairwise (· < ·):=
 List.pairwise_append.2 ⟨h,List.pairwise_singleton _ _,λx hx y hy=>by rw[List.mem_singleton.1 hy];exact hn x hx⟩
theorem SysL.read{w1 w2 w3 w4:List Int}{n:Int}(h:SysL w1 w2 w3 w4 n)(h0:0<=n):SysL (w1++[n]) w2 (w3++[n]) w4 (n+1):=by
 refine⟨Gs h.o1 λx hx=>(h.r1 x hx).2,h.o2,Gs h.o3 λx hx=>(h.r1 x (h.s3 x hx)).2,h.o4,?_,λx hx=>⟨(h.r2 x hx).1,by have:=(h.r2 x hx).2;omega⟩,?_,?_,?_,?_⟩
 ·intro x hx
  rcases List.mem_append.1 hx with hx|hx
  ·have:=h.r1 x hx;omega
  ·rw[List.mem_singleton.1 hx];omega
 ·intro x hx hx2
  rcases List.mem_append.1 hx with hx|hx
  ·exact h.d x hx hx2
  ·have:=h.r2 x hx2;rw[List.mem_singleton.1 hx]at this;omega
 ·intro x hx
  rcases List.mem_append.1 hx with hx|hx
  ·simp[h.s3 x hx]
  ·simp[List.mem_singleton.1 hx]
 ·intro x hx;simp[h.s4 x hx]
 ·intro x hx
  rcases List.mem_append.1 hx with hx|hx
  ·rcases h.all x hx with h|h<;>simp[h]
  ·simp[List.mem_singleton.1 hx]
theorem SysL.write{w1 w2 w3 w4:List Int}{n:Int}(h:SysL w1 w2 w3 w4 n)(h0:0<=n):SysL (w1++[n]) w2 w3 (w4++[n]) (n+1):=by
 refine⟨Gs h.o1 λx hx=>(h.r1 x hx).2,h.o2,h.o3,Gs h.o4 λx hx=>(h.r1 x (h.s4 x hx)).2,?_,λx hx=>⟨(h.r2 x hx).1,by have:=(h.r2 x hx).2;omega⟩,?_,?_,?_,?_⟩
 ·intro x hx
  rcases List.mem_append.1 hx with hx|hx
  ·have:=h.r1 x hx;omega
  ·rw[List.mem_singleton.1 hx];omega
 ·intro x hx hx2
  rcases List.mem_append.1 hx with hx|hx
  ·exact h.d x hx hx2
  ·have:=h.r2 x hx2;rw[List.mem_singleton.1 hx]at this;omega
 ·intro x hx;simp[h.s3 x hx]
 ·intro x hx
  rcases List.mem_append.1 hx with hx|hx
  ·simp[h.s4 x hx]
  ·simp[List.mem_singleton.1 hx]
 ·intro x hx
  rcases List.mem_append.1 hx with hx|hx
  ·rcases h.all x hx with h|h<;>simp[h]
  ·simp[List.mem_singleton.1 hx]
theorem SysL.without{w1 w2 w3 w4:List Int}{n:Int}(h:SysL w1 w2 w3 w4 n)(h0:0<=n):SysL w1 (w2++[n]) w3 w4 (n+1):=by
 refine⟨h.o1,Gs h.o2 λx hx=>(h.r2 x hx).2,h.o3,h.o4,λx hx=>⟨(h.r1 x hx).1,by have:=(h.r1 x hx).2;omega⟩,?_,?_,h.s3,h.s4,h.all⟩
 ·intro x hx
  rcases List.mem_append.1 hx with hx|hx
  ·have:=h.r2 x hx;omega
  ·rw[List.mem_singleton.1 hx];omega
 ·intro x hx hx2
  rcases List.mem_append.1 hx2 with hx2|hx2
  ·exact h.d x hx hx2
  ·have:=h.r1 x hx;rw[List.mem_singleton.1 hx2]at this;omega
theorem SysL.zero{w2 w3 w4:List Int}{n:Int}(h:SysL [] w2 w3 w4 n)(h0:1<=n):SysL [0] (w2.filter λx=>!decide (x=0)) w3 [0] n:=by
 refine⟨List.pairwise_singleton _ _,h.o2.sublist List.filter_sublist,h.o3,List.pairwise_singleton _ _,by simp;omega,λx hx=>h.r2 x (List.mem_filter.1 hx).1,by simp,?_,by simp,by simp⟩;intro x hx;exact absurd (h.s3 x hx) (by simp)
def DR{α:Type}(f:α->AV)(z:AV)(l:List α)(i:Nat):List AV:=(l.take i).map f++List.replicate (l.length-i) z
theorem GX{α:Type}(f:α->AV)(z:AV)(l:List α):DR f z l 0=List.replicate l.length z:=by simp[DR]
theorem Ky{α:Type}(f:α->AV)(z:AV)(l:List α)(i:Nat)(h:i<=l.length):(DR f z l i).length=l.length:=by simp[DR];omega
theorem Ii{α:Type}(f:α->AV)(z:AV)(l:List α){i:Nat}(h:i<l.length):(DR f z l i)[i]?=some z:=by
 unfold DR;rw[List.getElem?_append_right (by simp;omega)];simp only[AB,Ah,Nat.min_eq_left (Nat.le_of_lt h),Nat.sub_self];rw[List.getElem?_replicate,if_pos (by omega)]
theorem Hf{α:Type}(f:α->AV)(z:AV)(l:List α){i:Nat}(h:i<l.length):(DR f z l i).set i (f l[i])=DR f z l (i+1):=by
 unfold DR;rw[List.set_append_right _ _ (by simp;omega),List.take_add_one,AE h];simp only[AB,Ah,Nat.min_eq_left (Nat.le_of_lt h),Nat.sub_self,Option.toList_some,List.map_append,List.map_cons,List.map_nil,AP]
 congr 1
 rw[show l.length-i=(l.length-(i+1))+1 from by omega,List.replicate_succ];rfl
theorem Hg{α:Type}(f:α->AV)(z:AV)(l:List α){i:Nat}(h:l.length<=i):DR f z l i=l.map f:=by
 unfold DR;rw[List.take_of_length_le h,show l.length-i=0 from by omega];simp
theorem D0(l:List Comp)(hl:l.length<=1099511627776)(hv:∀c∈l,c.vals.length<=1099511627776):PS Tryz.prog 59 [Aw false false l] (Aw true false l):=by
 refine Sp (nt:=27) (res:=[.tmp 2]) Tryz.func59 λSf=>?_
 have hl':(l.map (AH false)).length<=1099511627776:=by simpa using hl
 (iterate 8 refine WK ?_);refine DG ?_;refine FB (.agg [iA 0,.prim (.slice none 0 0)]) λK=>?_;refine KK ?_
 refine BJ (λi:Nat=>⟨[(3,.sl K 0 (l.map (AH false)).length),(9,Aw false false l),(10,iA (l.map (AH false)).length),(11,iA i)],(K,.row 42 2 (DR (AH false) (.agg [iA 0,.prim (.slice none 0 0)]) l i))::Sf⟩) (λi=>i<=l.length) (λi=>l.length-i) 0 (Nat.zero_le _) ?_ ⟨by(repeat (first|exact .nil|refine .cons (by first|rfl|assumption) ?_)),by rw[GX,<-AB (f:=AH false)];exact Sub.f⟩;rintro i hi;refine KK ?_;refine AWP.cond rfl (λhc=>?_) (λhc=>?_)
 ·have h:i<l.length:=by simpa using hc
  have hm:i<(l.map (AH false)).length:=by simpa using h
  have hat:=Ii (AH false) (.agg [iA 0,.prim (.slice none 0 0)]) l h;refine KK ?_;refine Ai λX=>?_;refine KK ?_
  refine JL ?_;refine RGo.g_callf ?_;refine RGo.c1 (h:=(Er _ (by have:=hv _ (AK h);omega))) (k:=?_);(iterate 3 refine RK ?_);refine RGo.nil (by kernel_rfl) ?_;refine KK ?_;have hs:=Hf (AH false) (.agg [iA 0,.prim (.slice none 0 0)]) l h;refine Tk (i+1) h ?_;dsimp only;rw[<-hs];exact Sub.f
 ·have h:l.length<=i:=by rw[AQ,AB]at hc;omega
  rw[Hg _ _ _ h];refine JA ?_;exact⟨[.sl K 0 (l.map (AH false)).length],[.lst true 42 2 (l.map (AH false))],_,[],.cons (.tmp rfl) rfl .nil,.cons (.cell (.sl (p:=0) .here rfl)) .nil,by exact Sub.f,rfl,rfl⟩
def R7(x:UInt64):UInt64:=(x^^^(x>>>UInt64.ofNat 31))*7640891576956012809
def Wa(x:UInt64):UInt64:=(x^^^(x>>>UInt64.ofNat 27))*13503953896175478587
def EQ(x:UInt64):UInt64:=Wa (R7 x)^^^(Wa (R7 x)>>>UInt64.ofNat 30)
theorem NK(x:UInt64):PS Tryz.prog 182 [uA x] (uA (EQ x)):=by
 refine Sp (nt:=17) (res:=[.tmp 2]) Tryz.func182 λSf=>?_
 refine R1 ?_;refine JE ?_;refine WO ?_;refine AOps.gN ?_;refine AOps.p (Di 31 (by omega) rfl rfl rfl) rfl ?_;refine AOps.gN ?_;refine AOps.p (Hl rfl rfl) rfl ?_;refine AOps.gN ?_;refine AOps.p (DF (b:=7640891576956012809) rfl rfl) rfl ?_;refine JD ?_;rw[show(x^^^(x>>>UInt64.ofNat 31))*7640891576956012809=R7 x from rfl];refine JE ?_;refine WO ?_;refine AOps.gN ?_;refine AOps.p (Di 27 (by omega) rfl rfl rfl) rfl ?_;refine AOps.gN ?_;refine AOps.p (Hl rfl rfl) rfl ?_;refine AOps.gN ?_;refine AOps.p (DF (b:=13503953896175478587) rfl rfl) rfl ?_;refine JD ?_;rw[show(R7 x^^^(R7 x>>>UInt64.ofNat 27))*13503953896175478587=Wa (R7 x)from rfl];refine JE ?_;refine WO ?_;refine AOps.gN ?_;refine AOps.p (Di 30 (by omega) rfl rfl rfl) rfl ?_;refine AOps.gN ?_;refine AOps.p (Hl rfl rfl) rfl ?_;refine JD ?_;refine RT ?_;refine AI ?_;rfl
def Fy:UInt64:=11400714819323198485
def MB(s:UInt64)(n:Int):UInt64:=EQ (s+Fy)^^^UInt64.ofInt n
def HR(r:UInt64×UInt64):AV:=.agg [uA r.1,uA r.2]
instance {r:UInt64×UInt64}:Frz (HR r) (HR r):=⟨rfl⟩
def Ey(l:List Int):UInt64×UInt64:=(EQ (l.foldl MB (UInt64.ofNat l.length)+Fy),EQ (EQ (l.foldl MB (UInt64.ofNat l.length)+Fy)+Fy)|||1)
theorem TO(l:List Int)(hl:l.length<=1099511627776):PS Tryz.prog 101 [AN false l] (HR (Ey l)):=by
 have hlm:(l.map iA).length=l.length:=AB _;refine Sp (nt:=31) (res:=[.cell 2 183]) Tryz.func101 λSf=>?_
 refine JE ?_;refine Ai λR=>?_;refine NL ?_
 (iterate 4 refine WK ?_);refine AOps.gN ?_;refine AOps.p (F8 .i64 (l.map iA).length rfl (by omega) (by kernel_rfl) (by kernel_rfl) rfl) rfl ?_;refine KK ?_
 obtain⟨e,he⟩:=nm (l.foldl MB (UInt64.ofNat l.length));refine BZ (λ(i:Nat) (s:UInt64)=>⟨[(2,.ptr R 0 0),(3,uA s),(9,AN false l),(10,iA (l.map iA).length),(11,iA i)],(R,.row 183 2 [.agg [uA 0,uA 0]])::Sf⟩) (λi s=>i<=l.length/\(l.drop i).foldl MB s=e) (λi _=>l.length-i) 0 (UInt64.ofNat (l.map iA).length) ⟨Nat.zero_le _,by rw[hlm];exact he⟩ ?_;rintro i s ⟨hi,hs⟩;refine KK ?_;refine AWP.cond rfl (λhc=>?_) (λhc=>?_)
 ·have h:i<l.length:=by rw[AF,hlm]at hc;omega
  have hat:(l.map iA)[i]?=some (iA l[i]):=by rw[AG,AE h];rfl
  have h1:=NK (s+Fy);refine R1 ?_;refine WK ?_;refine WK ?_;refine AOps.gN ?_;refine AOps.p (EY (b:=Fy) rfl rfl) rfl ?_;refine AOps.g_callf ?_;refine AOps.c1 (h:=(h1 ..)) (k:=?_);refine WK ?_;refine AOps.gN ?_;refine AOps.p (XW .i64 (by kernel_rfl) (by kernel_rfl) rfl) rfl ?_;refine AOps.gN ?_;refine AOps.p (Hl rfl rfl) rfl ?_;refine KK ?_;refine A8 (i+1) (MB s l[i]) ⟨h,?_⟩;rw[<-hs,CD h];rfl
 ·have h:i=l.length:=by rw[AQ,hlm]at hc;omega
  rw[h,List.drop_length]at hs;have hs:s=e:=hs;subst hs;have h1:=NK (s+Fy);refine JE ?_;refine AOps.gN ?_;refine AOps.p (EY (b:=Fy) rfl rfl) rfl ?_;refine AOps.g_callf ?_;refine AOps.c1 (h:=(h1 ..)) (k:=?_);refine JD ?_;have h2:=NK (EQ (s+Fy)+Fy);refine JE ?_;refine WO ?_;refine AOps.gN ?_;refine AOps.p (EY (b:=Fy) rfl rfl) rfl ?_;refine AOps.g_callf ?_;refine AOps.c1 (h:=(h2 ..)) (k:=?_);refine AOps.gN ?_;refine AOps.p (WI (b:=1) rfl rfl) rfl ?_;refine JF ?_;refine RT ?_;unfold Ey;rw[he];exact Br [HR (EQ (s+Fy),EQ (EQ (s+Fy)+Fy)|||1)] [HR (EQ (s+Fy),EQ (EQ (s+Fy)+Fy)|||1)] (.cons (.agg (.cons .same (.cons .same .nil))) .nil)
def Ct(r:UInt64×UInt64):UInt64×UInt64:=(r.1+r.2,r.2)
theorem Pu(r:UInt64×UInt64):PS Tryz.prog 275 [HR r] (.tup [uA (EQ (Ct r).1),HR (Ct r)]):=by
 have h1:=NK (r.1+r.2);refine Sp (nt:=14) (res:=[.tmp 2,.cell 3 183]) Tryz.func275 λSf=>?_
 refine JE ?_;refine Ai λR=>?_;refine KO ?_;refine Ai λR=>?_;refine NL ?_
 refine RG ?_;(iterate 4 refine WO ?_);refine AOps.gN ?_;refine AOps.p (EY rfl rfl) rfl ?_;refine JF ?_;refine RU ?_;refine JG ?_;refine RGo.gN ?_;refine RGo.c1 (h:=h1) (k:=?_);(iterate 3 refine RK ?_);refine RGo.nil (by kernel_rfl) ?_;refine RT ?_;exact Br [uA (EQ (r.1+r.2)),HR (Ct r)] [uA (EQ (r.1+r.2)),HR (Ct r)] (.cons (.cell .same) (.cons (.agg (.cons .same (.cons .same .nil))) .nil))
section
open Go.Sort
theorem BC{α:Type}[Inhabited α](f:α->AV){d:Array α}{i:Nat}(h:i<d.size):(d.toList.map f)[i]?=some (f d[i]!):=by
 rw[AG,AE (by simpa using h)];simp[getElem!_pos d i h]
theorem Ck{α:Type}[Inhabited α](f:α->AV){d:Array α}{i j:Nat}(hi:i<d.size)(hj:j<d.size):((d.toList.map f).set i (f d[j]!)).set j (f d[i]!)=(swp d i j).toList.map f:=by
 unfold swp;simp[Array.toList_setIfInBounds,List.map_set]
theorem CM{α:Type}[Inhabited α](f:α->AV){d:Array α}{i j:Nat}(hj:j<d.size)(x:α):∃y,((d.toList.map f).set i (f x))[j]?=some (f y):=by
 by_cases e:i=j
 ·subst e;exact⟨x,List.getElem?_set_self (by simpa using hj)⟩
 ·exact⟨d[j]!,by rw[List.getElem?_set_ne e];exact BC f hj⟩
def AZ{α:Type}(cf:α->α->Int)(x y:α):Bool:=decide (cf x y<0)
instance:Inhabited Comp:=⟨⟨0,[]⟩⟩
instance:Inhabited Item:=⟨⟨⟨0,0⟩,[]⟩⟩
theorem Fd{α:Type}[Inhabited α](lt:α->α->Bool)(d:Array α)(a b s:Nat):(order2 lt d a b s).2.2<=s+1:=by
 unfold order2;split<;>simp
theorem IR{α:Type}[Inhabited α](lt:α->α->Bool)(d:Array α)(a b s m:Nat)(ha:a<m)(hb:b<m):(order2 lt d a b s).1<m/\(order2 lt d a b s).2.1<m:=by
 unfold order2;split<;>exact⟨by assumption,by assumption⟩
theorem IU{α:Type}[Inhabited α](lt:α->α->Bool)(d:Array α)(a b c s:Nat):(median lt d a b c s).2<=s+3:=by
 have e1:=Fd lt d a b s;have e2:=Fd lt d (order2 lt d a b s).2.1 c (order2 lt d a b s).2.2;have e3:=Fd lt d (order2 lt d a b s).1 (order2 lt d (order2 lt d a b s).2.1 c (order2 lt d a b s).2.2).1 (order2 lt d (order2 lt d a b s).2.1 c (order2 lt d a b s).2.2).2.2;unfold median;dsimp only;omega
theorem IV{α:Type}[Inhabited α](lt:α->α->Bool)(d:Array α)(a s m:Nat)(h:a+1<m):(medianAdjacent lt d a s).1<m:=by
 rcases medianAdjacent_mem lt d a s with e|e|e<;>omega
def WH:Hint->Int
 |.unknown=>0
 |.increasing=>1
 |.decreasing=>2
end
section
open Go.Sort
def lenTab:List UInt8:=(List.range 256).map λn=>UInt8.ofNat (if n=0 then 0 else Nat.log2 n+1)
theorem MR{n:Nat}(h:n<256):((lenTab.getD n 0).toNat:Int)=bitsLen n:=by
 have h1:lenTab.getD n 0=UInt8.ofNat (bitsLen n):=by
  unfold lenTab;rw[Bp,AG,List.getElem?_range h];rfl
 have h2:bitsLen n<=8:=(bitsLen_le_iff n 8).2 (by omega);rw[h1,UInt8.toNat_ofNat'];omega
theorem P9:lenTab.length=256:=by simp[lenTab]
theorem LN{x:Nat}(h:256<=x):bitsLen (x/256)+8=bitsLen x:=by
 have a:=(bitsLen_le_iff (x/256) (bitsLen x-8)).2 (by
  have h1:=lt_two_pow_bitsLen x
  have h2:8<bitsLen x:=by
   have:=(bitsLen_le_iff x 8);omega
  have h3:2^bitsLen x=2^(bitsLen x-8)*256:=by rw[show(256:Nat)=2^8 from rfl,<-Nat.pow_add];congr 1;omega
  omega)
 have b:=(bitsLen_le_iff x (bitsLen (x/256)+8)).2 (by
  have h1:=lt_two_pow_bitsLen (x/256);rw[Nat.pow_add];omega)
 have h2:8<bitsLen x:=by
  have:=(bitsLen_le_iff x 8);omega
 omega
set_option maxRecDepth 100000 in
theorem Tl(x:UInt64)(hx:x.toNat<65536):PS Tryz.prog 221 [uA x] (iA (bitsLen x.toNat)):=by
 refine Sp (nt:=25) (res:=[.tmp 2]) Tryz.func221 λSf=>?_
 refine KK ?_;refine AA rfl (AY (by omega)) ?_;refine KK ?_;refine AA rfl (AY (by omega)) ?_;refine KK ?_;refine Bk (λb:UInt64×Nat=>b.1.toNat<256/\bitsLen b.1.toNat+b.2=bitsLen x.toNat/\b.2<=8) (λb=>⟨[(0,uA b.1),(2,iA b.2)],Sf⟩) ?_ ?_
 ·refine AWP.cond rfl (λh=>?_) (λh=>?_)
  ·have h:256<=x.toNat:=by have:=of_decide_eq_true h;omega
   have hs:(x>>>UInt64.ofNat 8).toNat=x.toNat/256:=by
    rw[UInt64.toNat_shiftRight,UInt64.toNat_ofNat',show 8%2^64%64=8 from rfl,Nat.shiftRight_eq_div_pow]
   (iterate 3 refine WK ?_);refine AOps.gN ?_;refine AOps.p (Di 8 (by omega) rfl rfl rfl) rfl ?_;refine KK ?_
   refine jn (x>>>UInt64.ofNat 8,8) ⟨by dsimp only;omega,?_,by(try dsimp only);omega⟩;dsimp only;rw[hs];exact LN h
  ·have h:¬256<=x.toNat:=by have:=of_decide_eq_false h;omega
   refine WK ?_;exact jn (x,0) ⟨by dsimp only;omega,rfl,by(try dsimp only);omega⟩
 ·rintro⟨u,m⟩ ⟨h1,h2,h3⟩
  dsimp only at h1 h2 h3⊢;have hw:IntKind.u8.wrap ((u.toNat:Nat):Int)=((u.toNat:Nat):Int):=by rw[IntKind.wrap_u8'];omega
  have hat:=MR h1;have hb8:bitsLen u.toNat<=8:=(bitsLen_le_iff _ 8).2 (by omega);have hw2:IntKind.i64.wrap ((lenTab.getD u.toNat 0).toNat:Int)=((bitsLen u.toNat:Nat):Int):=by rw[hat];exact Du (by omega) (by omega)
  (iterate 4 refine WK ?_);refine AOps.gN ?_;refine AOps.p (W.convW .u64 .u8 _ (by kernel_rfl) (by kernel_rfl) hw rfl) rfl ?_;refine WK ?_;refine AOps.gN ?_;refine AOps.p (W.convW .u8 .i64 _ (by kernel_rfl) (by kernel_rfl) hw2 rfl) rfl ?_;refine AOps.gN ?_;refine AOps.p (Bc ((bitsLen x.toNat:Nat):Int) (by omega) (by omega) rfl rfl) rfl ?_;refine KK ?_
  refine RT ?_;refine AI ?_;rfl
theorem P8(x:UInt64)(hx:x.toNat<65536):PS Tryz.prog 158 [uA x] (iA (bitsLen x.toNat)):=by
 have h:=Tl x hx;refine Sp (nt:=8) (res:=[.tmp 2]) Tryz.func158 λSf=>?_
 refine KK ?_;refine AA rfl rfl ?_;refine KK ?_;refine AOps.g_callf ?_;refine AOps.c1 (h:=(h ..)) (k:=?_);refine JA ?_;refine AI ?_;rfl
theorem P1(n:Nat)(hn:n<65536):PS Tryz.prog 263 [iA n] (uA ((1:UInt64)<<<UInt64.ofNat (bitsLen n))):=by
 have e:(UInt64.ofNat n).toNat=n:=by rw[UInt64.toNat_ofNat'];omega
 have h:=P8 (UInt64.ofNat n) (by rw[e];exact hn);rw[e]at h;have hb:bitsLen n<=16:=(bitsLen_le_iff n 16).2 (by omega);refine Sp (nt:=7) (res:=[.tmp 2]) Tryz.func263 λSf=>?_
 (iterate 7 refine WK ?_);refine AOps.gN ?_;refine AOps.p (F8 .i64 n rfl (by omega) (by kernel_rfl) (by kernel_rfl) rfl) rfl ?_;refine AOps.g_callf ?_;refine AOps.c1 (h:=(h ..)) (k:=?_);refine AOps.gN ?_;refine AOps.p (Io (a:=1) (bitsLen n) (by omega) rfl rfl rfl) rfl ?_;refine KK ?_
 refine RT ?_;refine AI ?_;rfl
theorem PM(Y:Nat)(s:UInt64):Spec Tryz.prog 264 [.ptr Y 0 0] [(Y,.row 355 1 [uA s])] λr S'=>∃v:UInt64,True/\r=uA v/\S'=[(Y,.row 355 1 [uA v])]:=by
 refine Sp (nt:=33) (res:=[.tmp 2]) Tryz.func264 λSf=>?_
 refine R1 ?_;refine RU ?_;(iterate 6 refine RK ?_);refine RGo.gN ?_;refine RGo.p (Io 13 (by omega) rfl rfl rfl) rfl ?_;refine RGo.gN ?_;refine RGo.p (Hl rfl rfl) rfl ?_;refine JG ?_;refine RGo.nil (by kernel_rfl) ?_;(repeat refine WF ?_);refine RU ?_;(iterate 6 refine RK ?_);refine RGo.gN ?_;refine RGo.p (Di 7 (by omega) rfl rfl rfl) rfl ?_;refine RGo.gN ?_;refine RGo.p (Hl rfl rfl) rfl ?_;refine JG ?_;refine RGo.nil (by kernel_rfl) ?_;(repeat refine WF ?_);refine RU ?_;(iterate 6 refine RK ?_);refine RGo.gN ?_;refine RGo.p (Io 17 (by omega) rfl rfl rfl) rfl ?_;refine RGo.gN ?_;refine RGo.p (Hl rfl rfl) rfl ?_;refine JG ?_;refine RGo.nil (by kernel_rfl) ?_;refine JA ?_;exact Ends.sp [uA _] [(Y,_)] ⟨_,trivial,rfl,rfl⟩
end
section
open Go.Sort
def DS(a:Int):Int:=if 1099511627776<(if a< -1099511627776 then-1099511627776 else a)then 1099511627776 else if a< -1099511627776 then-1099511627776 else a
theorem H9(a:Int): -1099511627776<=DS a/\DS a<=1099511627776:=by unfold DS;split<;>split<;>omega
theorem FA(a:Int):PS Tryz.prog 289 [iA a] (iA (DS a)):=by
 refine Sp (nt:=6) (res:=[.tmp 2]) Tryz.func289 λSf=>?_
 refine JA ?_;refine AI ?_;rfl
def NN(a:Int):UInt64:=UInt64.ofNat a.natAbs
theorem P6(a:Int)(h: -1099511627776<=a/\a<=1099511627776):PS Tryz.prog 290 [iA a] (uA (NN a)):=by
 refine Sp (nt:=10) (res:=[.tmp 2]) Tryz.func290 λSf=>?_
 unfold NN;by_cases hn:a<0
 ·refine KK ?_
  refine AM rfl (Ae hn) ?_;refine JE ?_;refine AOps.gN ?_;refine AOps.p (Qk (-a) rfl (by omega) rfl) rfl ?_;refine AOps.gN ?_;refine AOps.p (F8 .i64 a.natAbs (by omega) (by omega) (by kernel_rfl) (by kernel_rfl) rfl) rfl ?_;refine JD ?_;refine RT ?_;refine AI ?_;rfl
 ·refine KK ?_
  refine AA rfl (AY hn) ?_
  (iterate 4 refine WK ?_);refine AOps.gN ?_;refine AOps.p (F8 .i64 a.natAbs (by omega) (by omega) (by kernel_rfl) (by kernel_rfl) rfl) rfl ?_;refine KK ?_
  refine RT ?_;refine AI ?_;rfl
def OQ(x y:UInt64):UInt64:=
 (x>>>UInt64.ofNat 32)*(y>>>UInt64.ofNat 32)+(((x>>>UInt64.ofNat 32)*(y&&&4294967295)+((x&&&4294967295)*(y&&&4294967295))>>>UInt64.ofNat 32)>>>UInt64.ofNat 32)+
  ((((x>>>UInt64.ofNat 32)*(y&&&4294967295)+((x&&&4294967295)*(y&&&4294967295))>>>UInt64.ofNat 32)&&&4294967295)+(x&&&4294967295)*(y>>>UInt64.ofNat 32))>>>UInt64.ofNat 32
theorem Td(x y:UInt64):PS Tryz.prog 291 [uA x,uA y] (.tup [uA (OQ x y),uA (x*y)]):=by
 refine Sp (nt:=51) (res:=[.tmp 4,.tmp 5]) Tryz.func291 λSf=>?_
 refine R1 ?_;refine JE ?_;refine AOps.gN ?_;refine AOps.p (Iq (b:=4294967295) rfl rfl) rfl ?_;refine JD ?_;refine JE ?_;refine AOps.gN ?_;refine AOps.p (Di 32 (by omega) rfl rfl rfl) rfl ?_;refine JD ?_;refine JE ?_;refine AOps.gN ?_;refine AOps.p (Iq (b:=4294967295) rfl rfl) rfl ?_;refine JD ?_;refine JE ?_;refine AOps.gN ?_;refine AOps.p (Di 32 (by omega) rfl rfl rfl) rfl ?_;refine JD ?_;refine JE ?_;refine WO ?_;refine AOps.gN ?_;refine AOps.p (DF rfl rfl) rfl ?_;refine JD ?_;refine RG ?_;(repeat first|(refine AOps.gN ?_;first|refine AOps.p (DF rfl rfl) rfl ?_|refine AOps.p (Di 32 (by omega) rfl rfl rfl) rfl ?_|refine AOps.p (EY rfl rfl) rfl ?_)|refine WO ?_|refine Ai λX=>?_|refine Ay λY=>?_);refine NL ?_;refine JE ?_;refine AOps.gN ?_;refine AOps.p (Iq (b:=4294967295) rfl rfl) rfl ?_;refine JD ?_;refine JE ?_;refine AOps.gN ?_;refine AOps.p (Di 32 (by omega) rfl rfl rfl) rfl ?_;refine JD ?_;refine RG ?_;(iterate 3 refine WO ?_);refine AOps.gN ?_;refine AOps.p (DF rfl rfl) rfl ?_;refine AOps.gN ?_;refine AOps.p (EY rfl rfl) rfl ?_;refine JD ?_;refine RG ?_;(repeat first|(refine AOps.gN ?_;first|refine AOps.p (DF rfl rfl) rfl ?_|refine AOps.p (EY rfl rfl) rfl ?_|refine AOps.p (Di 32 (by omega) rfl rfl rfl) rfl ?_)|refine WO ?_|refine Ai λX=>?_|refine Ay λY=>?_);refine NL ?_;refine JE ?_;refine WO ?_;refine AOps.gN ?_;refine AOps.p (DF rfl rfl) rfl ?_;refine JD ?_;refine RT ?_;exact Br [uA (OQ x y),uA (x*y)] [uA (OQ x y),uA (x*y)] (.cons (.cell .same) (.cons (.cell .same) .nil))
set_option maxRecDepth 100000 in
theorem XA:PS Tryz.prog 302 [uA 65536] (iA 47):=by
 have hl:PS Tryz.prog 221 [uA 65536] (iA 17):=by
  refine Sp (nt:=25) (res:=[.tmp 2]) Tryz.func221 λSf=>?_
  refine KK ?_;refine AA rfl rfl ?_;refine KK ?_;refine AM rfl rfl ?_;refine JE ?_;refine AOps.gN ?_;refine AOps.p (Di 16 (by omega) rfl rfl rfl) rfl ?_;refine JD ?_;obtain⟨u,hu⟩:∃u:UInt64,(65536:UInt64)>>>UInt64.ofNat 16=u:=⟨_,rfl⟩;rw[hu];have h1:u.toNat=1:=by rw[<-hu];decide
  clear hu;refine KK ?_;refine AA rfl (AY (by omega)) ?_;have hw:IntKind.u8.wrap ((u.toNat:Nat):Int)=((u.toNat:Nat):Int):=by rw[IntKind.wrap_u8'];omega
  have hat:=MR (n:=u.toNat) (by omega);have hb1:bitsLen u.toNat=1:=by rw[h1];decide
  rw[hb1]at hat;have hw2:IntKind.i64.wrap ((lenTab.getD u.toNat 0).toNat:Int)=((1:Nat):Int):=by rw[hat];exact Du (by omega) (by omega)
  (repeat first|(refine AOps.gN ?_;first|refine AOps.p (W.convW .u64 .u8 _ (by kernel_rfl) (by kernel_rfl) hw rfl) rfl ?_|refine AOps.p (W.idxStr (s:=lenTab) (a:=u.toNat) (show ev _ _=_ by kernel_rfl) rfl rfl (by rw[P9];omega)) rfl ?_|refine AOps.p (W.convW .u8 .i64 _ (by kernel_rfl) (by kernel_rfl) hw2 rfl) rfl ?_|refine AOps.p (Bc 17 rfl (by omega) rfl rfl) rfl ?_)|refine WK ?_|refine Ai λX=>?_|refine Ay λY=>?_);refine RT ?_;refine AI ?_;rfl
 refine Sp (nt:=6) (res:=[.tmp 2]) Tryz.func302 λSf=>?_
 refine KK ?_;refine AOps.g_callf ?_;refine AOps.c1 (h:=(hl ..)) (k:=?_);refine AOps.gN ?_;refine AOps.p (Ax 47 rfl (by omega) rfl rfl) rfl ?_;refine JA ?_;refine AI ?_;rfl
def dU(hi lo:UInt64):UInt64:=(hi<<<UInt64.ofNat 47)|||(lo>>>UInt64.ofNat 17)
def dL(lo:UInt64):UInt64:=lo<<<UInt64.ofNat 47
def dR(hi lo:UInt64):UInt64:=dU hi lo*4294967296+(dL lo>>>UInt64.ofNat 32)-dU hi lo/2147483648*9223372036854775808
def HJ(hi lo:UInt64):UInt64×UInt64:=
 (dU hi lo/2147483648*4294967296+dR hi lo/2147483648,(dR hi lo*4294967296+(dL lo&&&4294967295)-dR hi lo/2147483648*9223372036854775808)>>>UInt64.ofNat 47)
theorem XI{hi lo:UInt64}(h:hi.toNat<65536):(dU hi lo).toNat<9223372036854775808:=by
 unfold dU
 have h1:(hi<<<UInt64.ofNat 47).toNat<2^63:=by
  rw[UInt64.toNat_shiftLeft,UInt64.toNat_ofNat',show 47%2^64%64=47 from rfl,Nat.shiftLeft_eq];omega
 have h2:(lo>>>UInt64.ofNat 17).toNat<2^63:=by
  rw[UInt64.toNat_shiftRight,UInt64.toNat_ofNat',show 17%2^64%64=17 from rfl,Nat.shiftRight_eq_div_pow];have:=lo.toNat_lt;omega
 rw[UInt64.toNat_or];exact Nat.or_lt_two_pow h1 h2
theorem XJ{hi lo:UInt64}:(dR hi lo).toNat<9223372036854775808:=by
 have h2:(dL lo>>>UInt64.ofNat 32).toNat<4294967296:=by
  rw[UInt64.toNat_shiftRight,UInt64.toNat_ofNat',show 32%2^64%64=32 from rfl,Nat.shiftRight_eq_div_pow];have:=(dL lo).toNat_lt;omega
 have h0:=(dU hi lo).toNat_lt;unfold dR;generalize dL lo>>>UInt64.ofNat 32=v at h2⊢;generalize dU hi lo=u at h0⊢;rw[UInt64.toNat_sub,UInt64.toNat_add,UInt64.toNat_mul,UInt64.toNat_mul,UInt64.toNat_div];rw[show(4294967296:UInt64).toNat=4294967296 from rfl,show(2147483648:UInt64).toNat=2147483648 from rfl,show(9223372036854775808:UInt64).toNat=9223372036854775808 from rfl];omega
theorem UP(hi lo:UInt64)(h:hi.toNat<65536):PS Tryz.prog 292 [uA hi,uA lo,uA 65536] (.tup [uA (if hi=0 then lo/65536 else(HJ hi lo).1),uA (if hi=0 then lo%65536 else(HJ hi lo).2)]):=by
 have hu:=XI (lo:=lo) h;have hr:=XJ (hi:=hi) (lo:=lo);refine Sp (nt:=135) (res:=[.tmp 6,.tmp 7]) Tryz.func292 λSf=>?_
 refine KK ?_;refine AA rfl rfl ?_;refine KK ?_;have hd1:decide (((65536:UInt64).toNat:Int)<=hi.toNat)=false:=AY (by rw[show(65536:UInt64).toNat=65536 from rfl];omega);refine AA rfl hd1 ?_;by_cases h0:hi=0
 ·rw[if_pos h0,if_pos h0]
  subst h0;refine KK ?_;refine AM rfl rfl ?_;refine RU ?_;refine JG ?_;refine RGo.gN ?_;refine RGo.go (h:=Qi (b:=65536) (by decide) rfl rfl) (k:=?_);refine JG ?_;refine RGo.gN ?_;refine RGo.go (h:=LT (b:=65536) (by decide) rfl rfl) (k:=?_);refine JG ?_;refine RGo.nil (by kernel_rfl) ?_;refine RT ?_;exact Br [uA (lo/65536),uA (lo%65536)] [uA (lo/65536),uA (lo%65536)] (.cons (.cell .same) (.cons (.cell .same) .nil))
 rw[if_neg h0,if_neg h0];refine KK ?_;refine AA rfl (AY (λe=>h0 (UInt64.toNat_inj.1 (Int.ofNat_inj.1 e)))) ?_;refine JE ?_;refine AOps.g_callf ?_;refine AOps.c1 (h:=(XA ..)) (k:=?_);refine AOps.gN ?_;refine AOps.p (F8 .i64 47 rfl (by omega) (by kernel_rfl) (by kernel_rfl) rfl) rfl ?_;refine JD ?_;refine JE ?_;refine WO ?_;refine AOps.gN ?_;refine AOps.p (Io 47 (by omega) rfl rfl (by decide)) rfl ?_;refine JD ?_;rw[show(65536:UInt64)<<<UInt64.ofNat 47=9223372036854775808 from by decide];refine JE ?_;refine AOps.gN ?_;refine AOps.p (Di 32 (by omega) rfl rfl rfl) rfl ?_;refine JD ?_;rw[show(9223372036854775808:UInt64)>>>UInt64.ofNat 32=2147483648 from by decide];refine JE ?_;refine AOps.gN ?_;refine AOps.p (Iq (b:=4294967295) rfl rfl) rfl ?_;refine JD ?_;rw[show(9223372036854775808:UInt64)&&&4294967295=0 from by decide];refine RG ?_;(repeat first|(refine AOps.gN ?_;first|refine AOps.p (Io 47 (by omega) rfl rfl (by decide)) rfl ?_|refine AOps.p (F9 (a:=64) rfl rfl) rfl ?_|refine AOps.p (Di 17 (by omega) rfl rfl (by decide)) rfl ?_|refine AOps.p (WI rfl rfl) rfl ?_)|refine WO ?_|refine Ai λX=>?_|refine Ay λY=>?_);refine NL ?_;rw[show(hi<<<UInt64.ofNat 47)|||(lo>>>UInt64.ofNat 17)=dU hi lo from rfl];refine JE ?_;refine WO ?_;refine AOps.gN ?_;refine AOps.p (Io 47 (by omega) rfl rfl (by decide)) rfl ?_;refine JD ?_;rw[show lo<<<UInt64.ofNat 47=dL lo from rfl];refine JE ?_;refine AOps.gN ?_;refine AOps.p (Di 32 (by omega) rfl rfl rfl) rfl ?_;refine JD ?_;refine JE ?_;refine AOps.gN ?_;refine AOps.p (Iq (b:=4294967295) rfl rfl) rfl ?_;refine JD ?_;refine JE ?_;refine WO ?_;refine AOps.gN ?_;refine AOps.p (Qi (b:=2147483648) (by decide) rfl rfl) rfl ?_;refine JD ?_;refine RG ?_;(iterate 3 refine WO ?_);refine AOps.gN ?_;refine AOps.p (DF (b:=2147483648) rfl rfl) rfl ?_;refine AOps.gN ?_;refine AOps.p (F9 rfl rfl) rfl ?_;refine JD ?_
 have c1:∀u:UInt64,u.toNat<9223372036854775808->decide (((u/2147483648).toNat:Int)>=4294967296)=false:=λu hu=>AY (by
  rw[UInt64.toNat_div,show(2147483648:UInt64).toNat=2147483648 from rfl];omega)
 have c2:∀(a b:UInt64),decide (((a*0:UInt64).toNat:Int)>b.toNat)=false:=λa b=>AY (by
  rw[show a*0=0 from UInt64.mul_zero];show¬((0:Nat):Int)>b.toNat
  omega)
 have c1u:=c1 _ hu;have c1r:=c1 _ hr;refine FL ?_;refine BJ (λ_:Unit=>⟨[(2,uA 9223372036854775808),(8,uA (UInt64.ofNat 47)),(9,uA 2147483648),(10,uA 0),(11,uA (dU hi lo)),(13,uA (dL lo>>>UInt64.ofNat 32)),(14,uA (dL lo&&&4294967295)),(15,uA (dU hi lo/2147483648)),(16,uA (dU hi lo-dU hi lo/2147483648*2147483648))],Sf⟩) (λ_=>True) (λ_=>0) () trivial ?_;rintro _ _;(repeat first|(refine AOps.gN ?_;first|refine AOps.go (h:=DF (b:=0) rfl rfl) (k:=?_)|refine AOps.go (h:=DF (a:=4294967296) rfl rfl) (k:=?_)|refine AOps.go (h:=EY rfl rfl) (k:=?_))|refine WK ?_|refine Ai λX=>?_|refine Ay λY=>?_);refine AA rfl (c2 _ _) ?_;refine JB ?_;(repeat first|(refine AOps.gN ?_;first|refine AOps.p (DF (b:=4294967296) rfl rfl) rfl ?_|refine AOps.p (EY rfl rfl) rfl ?_|refine AOps.p (DF (b:=9223372036854775808) rfl rfl) rfl ?_|refine AOps.p (F9 rfl rfl) rfl ?_)|refine WO ?_|refine Ai λX=>?_|refine Ay λY=>?_);refine NL ?_;rw[show dU hi lo*4294967296+(dL lo>>>UInt64.ofNat 32)-dU hi lo/2147483648*9223372036854775808=dR hi lo from rfl];refine JE ?_;refine WO ?_;refine AOps.gN ?_;refine AOps.p (Qi (b:=2147483648) (by decide) rfl rfl) rfl ?_;refine JD ?_;refine RG ?_;(iterate 3 refine WO ?_);refine AOps.gN ?_;refine AOps.p (DF (b:=2147483648) rfl rfl) rfl ?_;refine AOps.gN ?_;refine AOps.p (F9 rfl rfl) rfl ?_;refine JD ?_;refine FL ?_;refine BJ (λ_:Unit=>⟨[(2,uA 9223372036854775808),(8,uA (UInt64.ofNat 47)),(9,uA 2147483648),(10,uA 0),(14,uA (dL lo&&&4294967295)),(15,uA (dU hi lo/2147483648)),(16,uA (dR hi lo-dR hi lo/2147483648*2147483648)),(17,uA (dR hi lo)),(18,uA (dR hi lo/2147483648))],Sf⟩) (λ_=>True) (λ_=>0) () trivial ?_;rintro _ _;(repeat first|(refine AOps.gN ?_;first|refine AOps.go (h:=DF (b:=0) rfl rfl) (k:=?_)|refine AOps.go (h:=DF (a:=4294967296) rfl rfl) (k:=?_)|refine AOps.go (h:=EY rfl rfl) (k:=?_))|refine WK ?_|refine Ai λX=>?_|refine Ay λY=>?_);refine AA rfl (c2 _ _) ?_;refine JB ?_;(repeat first|(refine AOps.gN ?_;first|refine AOps.p (DF (b:=4294967296) rfl rfl) rfl ?_|refine AOps.p (EY rfl rfl) rfl ?_|refine AOps.p (DF (b:=9223372036854775808) rfl rfl) rfl ?_|refine AOps.p (F9 rfl rfl) rfl ?_|refine AOps.p (Di 47 (by omega) rfl rfl (by decide)) rfl ?_)|refine WO ?_|refine Ai λX=>?_|refine Ay λY=>?_);refine NL ?_;refine RT ?_;exact Br [uA (HJ hi lo).1,uA (HJ hi lo).2] [uA (HJ hi lo).1,uA (HJ hi lo).2] (.cons (.cell .same) (.cons (.cell .same) .nil))
end
def VF(hi lo:UInt64):UInt64:=if hi=0 then lo/65536 else(HJ hi lo).1
def WR(hi lo:UInt64):UInt64:=if hi=0 then lo%65536 else(HJ hi lo).2
def NH(neg:Bool)(q:Int)(r:UInt64):Int:=
 if neg=false then DS (if(r.toNat:Int)>=(65536-r).toNat then q+1 else q)else DS (-(if(r.toNat:Int)>(65536-r).toNat then q+1 else q))
def WZ(neg:Bool)(hi lo:UInt64):Int:=
 if(hi.toNat:Int)>=65536 then(if neg then-1099511627776 else 1099511627776)else
 if((VF hi lo).toNat:Int)>1099511627776 then NH neg 1099511627777 0 else NH neg (VF hi lo).toNat (WR hi lo)
def R4(a b:Int):Int:=
 WZ (if DS b<0 then !(decide (DS a<0))else decide (DS a<0)) (OQ (NN (DS a)) (NN (DS b))) (NN (DS a)*NN (DS b))
theorem R5(a b:Int):PS Tryz.prog 274 [iA a,iA b,iA 65536] (iA (R4 a b)):=by
 have h1:=FA a;have h2:=FA b;have h3:=FA 65536;rw[show DS 65536=65536 from by decide]at h3;have ra:=H9 a;have rb:=H9 b;obtain⟨res,hres⟩:=nm (R4 a b);rw[hres];unfold R4 at hres;obtain⟨a1,ha1⟩:=nm (DS a);obtain⟨b1,hb1⟩:=nm (DS b);rw[ha1]at h1 ra hres;rw[hb1]at h2 rb hres;have h4:=P6 a1 ra;have h5:=P6 b1 rb;have h6:=P6 65536 (by omega);rw[show NN 65536=65536 from by decide]at h6;obtain⟨ma,hma⟩:=nm (NN a1);obtain⟨mb,hmb⟩:=nm (NN b1);rw[hma]at h4 hres;rw[hmb]at h5 hres;have h7:=Td ma mb;obtain⟨hi,hhi⟩:=nm (OQ ma mb);obtain⟨lo,hlo⟩:=nm (ma*mb);rw[hhi,hlo]at h7 hres;refine Sp (nt:=78) (res:=[.tmp 6]) Tryz.func274 λSf=>?_
 refine R1 ?_;refine KK ?_;refine AOps.g_callf ?_;refine AOps.c1 (h:=(h1 ..)) (k:=?_);refine WK ?_;refine AOps.g_callf ?_;refine AOps.c1 (h:=(h2 ..)) (k:=?_);refine WK ?_;refine AOps.g_callf ?_;refine AOps.c1 (h:=(h3 ..)) (k:=?_);refine KK ?_;refine AA rfl rfl ?_;refine KK ?_;refine Bk (λn:Bool=>WZ n hi lo=res) (λn=>⟨[(0,iA a1),(1,iA b1),(2,iA 65536),(7,bA n)],Sf⟩) ?_ ?_
 ·by_cases hb:b1<0
  ·rw[if_pos hb]at hres
   refine AM rfl (Ae hb) ?_;refine KK ?_;exact jn (!decide (a1<0)) hres
  ·rw[if_neg hb]at hres
   refine AA rfl (AY hb) ?_;refine WK ?_;exact jn (decide (a1<0)) hres
 clear hres;intro neg hres;refine KK ?_;refine AA rfl rfl ?_;refine JE ?_;refine AOps.g_callf ?_;refine AOps.c1 (h:=(h6 ..)) (k:=?_);refine JD ?_;refine JE ?_;refine AOps.g_callf ?_;refine AOps.c1 (h:=(h4 ..)) (k:=?_);refine WO ?_;refine AOps.g_callf ?_;refine AOps.c1 (h:=(h5 ..)) (k:=?_);refine AOps.g_callf ?_;refine AOps.c2 (h:=(h7 ..)) (k:=?_);refine JF ?_;refine KK ?_;unfold WZ at hres;by_cases hh:(hi.toNat:Int)>=65536
 ·rw[if_pos hh]at hres
  refine AM rfl (Ae hh) ?_;refine KK ?_;cases neg
  ·refine AA rfl rfl ?_
   refine JA ?_;refine AI ?_;rw[<-hres];rfl
  ·refine AM rfl rfl ?_
   refine JA ?_;refine AI ?_;rw[<-hres];rfl
 rw[if_neg hh]at hres;refine AA rfl (AY hh) ?_;have h8:=UP hi lo (by omega);rw[show(if hi=0 then lo/65536 else(HJ hi lo).1)=VF hi lo from rfl,show(if hi=0 then lo%65536 else(HJ hi lo).2)=WR hi lo from rfl]at h8;obtain⟨q,hq⟩:=nm (VF hi lo);obtain⟨r,hr⟩:=nm (WR hi lo);rw[hq,hr]at h8 hres;refine JN ?_;refine AOps.g_callf ?_;refine De (h:=(h8 ..)) (k:=?_);refine JF ?_;refine KK ?_;refine Bk (λb:UInt64×UInt64=>b.1.toNat<=1099511627777/\NH neg b.1.toNat b.2=res) (λb=>⟨[(7,bA neg),(8,uA 65536),(11,uA b.1),(12,uA b.2)],Sf⟩) ?_ ?_
 ·by_cases hb:(q.toNat:Int)>1099511627776
  ·rw[if_pos hb]at hres
   refine AM rfl (Ae hb) ?_;refine KK ?_;exact jn (1099511627777,0) ⟨by decide,hres⟩
  ·rw[if_neg hb]at hres
   refine AA rfl (AY hb) ?_;refine WK ?_;exact jn (q,r) ⟨by dsimp only;omega,hres⟩
 clear hres hq hr h8;rintro⟨q,r⟩ ⟨hq,hres⟩;dsimp only at hq hres⊢
 (iterate 3 refine WK ?_);refine AOps.gN ?_;refine AOps.p (Qj .u64 (by omega) (by kernel_rfl) (by kernel_rfl) rfl) rfl ?_;refine KK ?_
 unfold NH at hres;cases neg
 ·rw[if_pos rfl]at hres
  refine AM rfl rfl ?_
  (iterate 6 refine WK ?_);refine AOps.gN ?_;refine AOps.p (F9 rfl rfl) rfl ?_;refine KK ?_
  by_cases hc:(r.toNat:Int)>=(65536-r).toNat
  ·rw[if_pos hc]at hres
   have hc1:=FA ((q.toNat:Int)+1);rw[hres]at hc1;refine AM rfl (Ae hc) ?_;refine KK ?_;refine AOps.g_callf ?_;refine AOps.c1 (h:=(hc1 ..)) (k:=?_);refine JA ?_;refine AI ?_;rfl
  ·rw[if_neg hc]at hres
   have hc1:=FA (q.toNat:Int);rw[hres]at hc1;refine AA rfl (AY hc) ?_;refine KK ?_;refine AOps.g_callf ?_;refine AOps.c1 (h:=(hc1 ..)) (k:=?_);refine JA ?_;refine AI ?_;rfl
 ·rw[if_neg (by decide)]at hres
  refine AA rfl rfl ?_
  (iterate 7 refine WK ?_);refine AOps.gN ?_;refine AOps.p (F9 rfl rfl) rfl ?_;refine KK ?_
  by_cases hc:(r.toNat:Int)>(65536-r).toNat
  ·rw[if_pos hc]at hres
   have hc1:=FA (-((q.toNat:Int)+1));rw[hres]at hc1;refine AM rfl (Ae hc) ?_
   (iterate 8 refine WK ?_);refine AOps.gN ?_;refine AOps.p (Qk (-((q.toNat:Int)+1)) rfl (by omega) rfl) rfl ?_;refine AOps.g_callf ?_;refine AOps.c1 (h:=(hc1 ..)) (k:=?_);refine KK ?_
   refine RT ?_;refine AI ?_;rfl
  ·rw[if_neg hc]at hres
   have hc1:=FA (-(q.toNat:Int));rw[hres]at hc1;refine AA rfl (AY hc) ?_
   (iterate 4 refine WK ?_);refine AOps.gN ?_;refine AOps.p (Qk (-(q.toNat:Int)) rfl (by omega) rfl) rfl ?_;refine AOps.g_callf ?_;refine AOps.c1 (h:=(hc1 ..)) (k:=?_);refine KK ?_
   refine RT ?_;refine AI ?_;rfl
theorem WY(a b:Int):PS Tryz.prog 241 [iA a,iA b] (iA (R4 a b)):=by
 have h:=R5 a b;refine Sp (nt:=8) (res:=[.tmp 4]) Tryz.func241 λSf=>?_
 refine KK ?_;refine AOps.g_callf ?_;refine De (h:=(h ..)) (k:=?_);refine JA ?_;refine AI ?_;rfl
def Wc(n:UInt64):UInt64:=18446744073709551615-(18446744073709551615%n+1)%n
def Eg(n:UInt64):Nat->UInt64×UInt64->UInt64×(UInt64×UInt64)
 |0,r=>(0,r)
 |k+1,r=>if EQ (Ct r).1<=Wc n then(EQ (Ct r).1%n,Ct r)else Eg n k (Ct r)
def EH(r:UInt64×UInt64)(n:Nat):UInt64×(UInt64×UInt64):=Eg (UInt64.ofNat n) 18446744073709551616 r
theorem R6:EQ 0=0:=by decide
theorem HK(n:UInt64):∀(k:Nat) (r:UInt64×UInt64),(Eg n k r).2.2=r.2
 |0,r=>rfl
 |k+1,r=>by
  rw[Eg];split
  ·rfl
  ·exact HK n k (Ct r)
theorem LO(n:UInt64)(hn:0<n.toNat):∀(k:Nat) (r:UInt64×UInt64),(Eg n k r).1.toNat<n.toNat
 |0,r=>by simpa[Eg]using hn
 |k+1,r=>by
  rw[Eg];split
  ·rw[UInt64.toNat_mod];exact Nat.mod_lt _ hn
  ·exact LO n hn k (Ct r)
theorem Sr(r:UInt64×UInt64)(n:Nat)(h1:1<=n)(h2:n<=4611686018427387904)(hg:r.2.toNat%2=1):PS Tryz.prog 242 [HR r,iA n] (.tup [iA (EH r n).1.toNat,HR (EH r n).2,iA 0]):=by
 obtain⟨m,hm⟩:=nm (UInt64.ofNat n);have hmn:m.toNat=n:=by rw[<-hm,UInt64.toNat_ofNat'];omega
 obtain⟨k0,hk1,hk2,hk3⟩:=Tc r.1 r.2 hg
 have hodd:decide (((r.2%2).toNat:Int)=0)=false:=AY (by
  rw[UInt64.toNat_mod];show¬((r.2.toNat%2:Nat):Int)=0
  omega)
 obtain⟨res,hres⟩:=nm (EH r n);rw[hres];have hlt:res.1.toNat<m.toNat:=by rw[<-hres];unfold EH;rw[hm];exact LO m (by omega) _ _
 unfold EH at hres;rw[hm]at hres;refine Sp (nt:=40) (res:=[.tmp 4,.cell 5 183,.tmp 6]) Tryz.func242 λSf=>?_
 (repeat refine WF ?_);refine AWP.region ?_;refine IL λB=>?_
 refine KO ?_;refine Ai λR=>?_;refine WO ?_
 refine FL ?_;have g1:decide ((n:Int)<1)=false:=AY (by omega)
 (iterate 9 refine WK ?_);refine AOps.gN ?_;refine AOps.go (h:=LT (b:=2) (by decide) rfl rfl) (k:=?_);refine KK ?_
 refine AA rfl hodd ?_;refine JE ?_;refine AOps.gN ?_;refine AOps.p (F8 .i64 n rfl (by omega) (by kernel_rfl) (by kernel_rfl) rfl) rfl ?_;refine JD ?_;rw[hm];refine JE ?_;refine AOps.gN ?_;refine AOps.go (h:=LT (a:=18446744073709551615) (b:=m) (by omega) rfl rfl) (k:=?_);refine AOps.gN ?_;refine AOps.p (EY (b:=1) rfl rfl) rfl ?_;refine WO ?_;refine AOps.gN ?_;refine AOps.go (h:=LT (b:=m) (by omega) rfl rfl) (k:=?_);refine JD ?_;refine FL ?_;refine Dd (λ(r':UInt64×UInt64) (k K:Nat)=>⟨[(2,.ptr B 0 0),(5,.ptr R 0 0),(7,uA m),(8,uA ((18446744073709551615%m+1)%m))],(R,.row 183 2 [HR (0,0)])::(B,.row 183 2 [HR r'])::Sf⟩) (λr' k K=>1<=k/\k<=K/\r'.2=r.2/\(r'.1.toNat+k*r'.2.toNat)%18446744073709551616=0/\Eg m K r'=res) (λ_ _ K=>K) r k0 18446744073709551616 ⟨hk1,hk2,rfl,hk3,hres⟩ ?_;rintro r' k K ⟨hk1,hk2,hr2,hk3,hres⟩;have hnx:=Pu r';obtain⟨K',rfl⟩:∃K',K=K'+1:=⟨K-1,by omega⟩;rw[Eg]at hres;(repeat refine WF ?_);refine R1 ?_;refine JE ?_;refine AOps.g_callf ?_;refine AOps.c1 (h:=(hnx ..)) (k:=?_);refine JF ?_;refine JE ?_;refine WO ?_;refine AOps.gN ?_;refine AOps.p (F9 (a:=18446744073709551615) rfl rfl) rfl ?_;refine JD ?_
 have hst:((Ct r').1.toNat+(k-1)*(Ct r').2.toNat)%18446744073709551616=0:=by
  have e:(Ct r').1.toNat=(r'.1.toNat+r'.2.toNat)%18446744073709551616:=UInt64.toNat_add ..;rw[e,show(Ct r').2=r'.2 from rfl];obtain⟨j,rfl⟩:∃j,k=j+1:=⟨k-1,by omega⟩;rw[Nat.add_mul,Nat.one_mul]at hk3;rw[Nat.add_sub_cancel];generalize j*r'.2.toNat=u at hk3⊢;omega
 refine AWP.cond rfl (λhc=>?_) (λhc=>?_)
 ·have hc:EQ (Ct r').1<=Wc m:=by
   rw[UInt64.le_iff_toNat_le];have:=of_decide_eq_true hc;exact Int.ofNat_le.1 this
  rw[if_pos hc]at hres;have hx:(EQ (Ct r').1%m).toNat<9223372036854775808:=by rw[show EQ (Ct r').1%m=res.1 from by rw[<-hres]];omega
  refine RU ?_;refine JG ?_;refine RGo.gN ?_;refine RGo.go (h:=LT (b:=m) (by omega) rfl rfl) (k:=?_);refine RGo.gN ?_;refine RGo.go (h:=Qj .u64 hx (by kernel_rfl) (by kernel_rfl) rfl) (k:=?_);(iterate 4 refine RK ?_);refine RGo.nil (by kernel_rfl) ?_;refine RT ?_;subst hres;exact Br [iA (EQ (Ct r').1%m).toNat,HR (Ct r'),iA 0] [iA (EQ (Ct r').1%m).toNat,HR (Ct r'),iA 0] (.cons (.cell .same) (.cons (.agg (.cons .same (.cons .same .nil))) (.cons (.cell .same) .nil)))
 ·have hc:¬EQ (Ct r').1<=Wc m:=by
   rw[UInt64.le_iff_toNat_le];have:=of_decide_eq_false hc;exact λh=>this (Int.ofNat_le.2 h)
  rw[if_neg hc]at hres
  have hk:k≠1:=by
   intro e;subst e;apply hc
   have h0:(Ct r').1=0:=by
    apply UInt64.toNat_inj.1;have:=(Ct r').1.toNat_lt;simp at hst;show(Ct r').1.toNat=0
    omega
   rw[h0,R6,UInt64.le_iff_toNat_le];exact Nat.zero_le _
  refine KK ?_;refine CK (Ct r') (k-1) K' ⟨by omega,by omega,hr2,hst,hres⟩
def By(a:Arg):AV:=.agg [bA a.has,iA a.n,iA a.ref.kind,iA a.ref.field]
def opA(o:Op):AV:=.agg [iA o.act,iA o.to.kind,iA o.to.field,bA o.a.has,iA o.a.n,iA o.a.ref.kind,iA o.a.ref.field,bA o.b.has,iA o.b.n,iA o.b.ref.kind,iA o.b.ref.field]
abbrev VN(o:Bool)(l:List Op):AV:=.lst o 195 11 (l.map opA)
def Bs(o:Bool)(s:Sys):AV:=.agg [sA s.name,AN o s.wth,AN o s.wout,AN o s.reads,AN o s.writes,VN o s.ops,Aw o false s.spawn]
abbrev Ea(o:Bool)(l:List Sys):AV:=.lst o 76 7 (l.map (Bs false))
instance {a:Arg}:Frz (By a) (By a):=⟨rfl⟩
instance {o:Op}:Frz (opA o) (opA o):=⟨rfl⟩
instance {o:Bool}{s:Sys}:Frz (Bs o s) (Bs false s):=⟨by unfold Bs;exact Frz.h⟩
theorem SL(l:List Int)(x:Int)(hl:l.length<=4611686018427387904):PS Tryz.prog 174 [AN false l,iA x] (iA (ER l λy=>decide (x=y))):=by
 refine Sp (nt:=19) (res:=[.tmp 4]) Tryz.func174 λSf=>?_
 refine KK ?_;refine BJ (λi:Nat=>⟨[(0,AN false l),(1,iA x),(7,iA (l.map iA).length),(8,iA i)],Sf⟩) (λi=>i<=l.length/\∀j (h:j<l.length),j<i->(decide (x=l[j]))=false) (λi=>l.length-i) 0 ⟨Nat.zero_le _,λj h hj=>absurd hj (by omega)⟩ ?_;rintro i ⟨hi,he⟩;refine KK ?_;refine AWP.cond rfl (λhc=>?_) (λhc=>?_)
 ·have h:i<l.length:=by simpa using hc
  refine KK ?_;refine AWP.cond rfl (λhd=>?_) (λhd=>?_)
  ·refine KK ?_
   refine RT ?_;refine AI ?_;rw[Eo h hd λj hj=>he j (by omega) hj]
  ·refine KK ?_
   refine Af (i+1) ⟨h,λj h1 h2=>?_⟩;by_cases e:j=i
   ·subst e;exact hd
   ·exact he j h1 (by omega)
 ·have h:¬i<l.length:=by simpa using hc
  refine JA ?_;refine AI ?_;rw[Ep λj hj=>he j hj (by omega)]
theorem D1(l:List Int)(x:Int)(hl:l.length<=4611686018427387904):PS Tryz.prog 98 [AN false l,iA x] (bA (l.contains x)):=by
 refine Sp (nt:=9) (res:=[.tmp 4]) Tryz.func98 λSf=>?_
 refine KK ?_;refine AOps.g_callf ?_;refine AOps.c2 (h:=(SL l x hl)) (k:=?_);refine JA ?_;refine AI ?_
 have h2:decide ((0:Int)<=ER l λy=>decide (x=y))=l.contains x:=by
  rw[Km,List.contains_eq_any_beq]
  congr 1
 rw[<-h2]
def GO(d:Int):Bool:=decide (d>=0)&&decide (d<=7)
theorem Qw(d:Int):PS Tryz.prog 184 [iA d] (bA (GO d)):=by
 refine Sp (nt:=9) (res:=[.tmp 2]) Tryz.func184 λSf=>?_
 refine JA ?_;refine AI ?_;rfl
theorem WJ(d:Int):PS Tryz.prog 235 [iA d] (bA (G9 d)):=by
 refine Sp (nt:=13) (res:=[.tmp 2]) Tryz.func235 λSf=>?_
 refine JA ?_;refine AI ?_;rfl
def W4(r:Ref):AV:=.agg [iA r.kind,iA r.field]
theorem HY(ks:List Kind)(r:Ref)(h:IG ks r):PS Tryz.prog 234 [An false false ks,W4 r] (bA true):=by
 obtain⟨h1,h2,h3,h4⟩:=h;obtain⟨rk,rf⟩:=r;dsimp only at h1 h2 h3 h4;obtain⟨i,hi⟩:∃i:Nat,rk=i:=⟨rk.toNat,by omega⟩;subst hi;have hil:i<ks.length:=by omega
 unfold Lr at h4;rw[Int.toNat_natCast,AE hil]at h4;dsimp only at h4;obtain⟨⟨kn,fs⟩,hk⟩:=nm (ks[i]);rw[hk]at h4;have hkm:(ks.map (BA false)).length=ks.length:=AB _;have hat:(ks.map (BA false))[i]?=some (BA false ⟨kn,fs⟩):=by rw[AG,AE hil,hk];rfl
 have g1:decide (((i:Nat):Int)>=0)=true:=Ae (by omega);have g2:decide (((i:Nat):Int)<(ks.map (BA false)).length)=true:=Ae (by omega);have g3:decide (rf>=0)=true:=Ae (by omega);have g4:decide (rf<(fs.map fieldA).length)=true:=Ae (by rw[AB];exact h4);refine Sp (nt:=32) (res:=[.tmp 4]) Tryz.func234 λSf=>?_
 refine JE ?_;refine Ai λX=>?_;refine JD ?_
 refine RU ?_;(iterate 28 refine RK ?_);refine RGo.nil (by kernel_rfl) ?_;refine FL ?_;refine RT ?_;refine AI ?_;rw[g4]
theorem WL(ks:List Kind)(l:List Int)(ho:l.Pairwise (· < ·))(hr:∀x∈l,0<=x/\x<ks.length)(hl:l.length<=1099511627776):PS Tryz.prog 176 [An false false ks,AN false l] (iA 0):=by
 have hlm:(l.map iA).length=l.length:=AB _;have hkm:(ks.map (BA false)).length=ks.length:=AB _;refine Sp (nt:=34) (res:=[.tmp 4]) Tryz.func176 λSf=>?_
 refine KK ?_;refine BJ (λi:Nat=>⟨[(0,An false false ks),(1,AN false l),(7,AN false l),(8,iA (l.map iA).length),(9,iA i)],Sf⟩) (λi=>i<=l.length) (λi=>l.length-i) 0 (Nat.zero_le _) ?_;rintro i hi;refine KK ?_;refine AWP.cond rfl (λhc=>?_) (λhc=>?_)
 ·have h:i<l.length:=by rw[AF,hlm]at hc;omega
  have hx:=hr _ (AK h);obtain⟨x,hxe⟩:=nm (l[i]);rw[hxe]at hx;have hat:(l.map iA)[i]?=some (iA x):=by rw[AG,AE h,hxe];rfl
  have g1:decide (x<0)=false:=AY (by omega);have g2:decide (x>=(ks.map (BA false)).length)=false:=AY (by omega);refine KK ?_;refine AA rfl g2 ?_;by_cases h0:i=0
  ·subst h0
   have g3:decide (((0:Nat):Int)>0)=false:=by decide
   refine KK ?_;refine AA rfl rfl ?_;refine KK ?_;refine Af 1 h
  ·have g3:decide (((i:Nat):Int)>0)=true:=Ae (by omega)
   have hlt:l[i-1]<x:=by rw[<-hxe];exact List.pairwise_iff_getElem.1 ho (i-1) i (by omega) h (by omega)
   have hat2:(l.map iA)[i-1]?=some (iA l[i-1]):=by rw[AG,AE (by omega)];rfl
   have g4:decide (l[i-1]>=x)=false:=AY (by omega)
   (iterate 11 refine WK ?_);refine AOps.gN ?_;refine AOps.go (h:=Ax ((i-1:Nat):Int) (by omega) (by omega) rfl rfl) (k:=?_);refine KK ?_
   refine AA rfl g4 ?_;refine KK ?_;refine Af (i+1) h
 ·refine KK ?_
  refine RT ?_;refine AI ?_;rfl
theorem M9(s:Sys)(x:Int)(hl:s.wout.length<=4611686018427387904):PS Tryz.prog 177 [iA x,.fp (Bs false s).cells] (bA (s.wout.contains x)):=by
 have h:=D1 s.wout x hl;refine Sp (nt:=8) (res:=[.tmp 3]) Tryz.func177 λSf=>?_
 refine KK ?_;refine AOps.g_callf ?_;refine AOps.c2 (h:=(h ..)) (k:=?_);refine JA ?_;refine AI ?_;rfl
theorem M8(s:Sys)(x:Int)(hl:s.wth.length<=4611686018427387904):PS Tryz.prog 178 [iA x,.fp (Bs false s).cells] (bA (!s.wth.contains x)):=by
 have h:=D1 s.wth x hl;refine Sp (nt:=9) (res:=[.tmp 3]) Tryz.func178 λSf=>?_
 refine KK ?_;refine AOps.g_callf ?_;refine AOps.c2 (h:=(h ..)) (k:=?_);refine JA ?_;refine AI ?_;rfl
structure Cmd where
 act:Int
 ent:Ent
 kind:Int
 comps:List Comp
def Bx(c:Cmd):AV:=.agg [iA c.act,iA c.ent.n,iA c.ent.gen,iA c.kind,Aw false false c.comps]
instance {c:Cmd}:Frz (Bx c) (Bx c):=⟨by unfold Bx;exact Frz.h⟩
def GJ(cs:List Comp)(k:Int):List Int:=match BH cs k with
 |some c=>c.vals
 |none=>[]
def Gb(cs:List Comp)(a:Arg):Int:=if a.has then(GJ cs a.ref.kind).getD a.ref.field.toNat 0 else a.n
def Dv(act a b:Int)(r:UInt64×UInt64):Int×(UInt64×UInt64):=
 if act=1 then(a+b,r)else if act=2 then(a-b,r)else if act=3 then(R4 a b,r)else
 if act=4 then(if b<a then b else a,r)else if act=5 then(if a<b then b else a,r)else if act=6 then(if a<b then 1 else 0,r)else
 if act=7 then(if a<1 then(0,r)else(((EH r a.toNat).1.toNat:Int),(EH r a.toNat).2))else(a,r)
def J5(cs:List Comp)(k:Int)(f:Nat)(v:Int):List Comp:=match BH cs k with
 |some c=>cs.set (Cf cs k) ⟨c.kind,c.vals.set f v⟩
 |none=>cs
structure Rn where
 comps:List Comp
 r:UInt64×UInt64
 cmds:List Cmd
 evs:List Evt
def Ef(ks:List Kind)(r:Ref):Field:=match ks[r.kind.toNat]? with
 |some k=>k.fields.getD r.field.toNat ⟨[],0,0⟩
 |none=>⟨[],0,0⟩
def LB(ks:List Kind)(k:Int):List Int:=match ks[k.toNat]? with
 |some x=>(BW x (List.replicate x.fields.length 0)).1
 |none=>[]
def doM(ks:List Kind)(s:Sys)(index:Int)(e:Ent)(o:Op)(st:Rn):Rn:=
 if GO o.act=true then
  ⟨J5 st.comps o.to.kind o.to.field.toNat (BS (Ef ks o.to) (Dv o.act (Gb st.comps o.a) (Gb st.comps o.b) st.r).1),(Dv o.act (Gb st.comps o.a) (Gb st.comps o.b) st.r).2,st.cmds,st.evs⟩
 else if Gb st.comps o.a=0 then st
 else if o.act=12 then⟨st.comps,st.r,st.cmds,st.evs++[⟨index,e,Gb st.comps o.b⟩]⟩
 else⟨st.comps,st.r,st.cmds++[if o.act=8 then⟨0,e,0,[⟨o.to.kind,LB ks o.to.kind⟩]⟩else if o.act=9 then⟨1,e,o.to.kind,[]⟩else if o.act=10 then⟨2,e,0,[]⟩else⟨3,⟨0,0⟩,0,(CH ks s.spawn).1⟩],st.evs⟩
def Lf(ks:List Kind)(s:Sys)(e:Ent)(cv:AV)(r:UInt64×UInt64)(kv ev:AV)(index:Int):AV:=
 .agg [An false false ks,sA s.name,AN false s.wth,AN false s.wout,AN false s.reads,AN false s.writes,VN false s.ops,Aw false false s.spawn,iA e.n,iA e.gen,cv,uA r.1,uA r.2,kv,ev,iA index]
def C4(ks:List Kind)(c:Cmd):List Comp×Int:=
 if c.act=0 then(if c.comps.length=1 then CH ks c.comps else([],3))else
 if c.act=1 then(if c.kind<0\/(ks.length:Int)<=c.kind then([],1)else([],0))else
 if c.act=2 then([],0)else if c.act=3 then CH ks c.comps else([],1)
def EK(ks:List Kind):List Cmd->Int
 |[]=>0
 |c::l=>if(C4 ks c).2=0 then EK ks l else(C4 ks c).2
def LG(w:Wd)(l:List Cmd):Int:=if Cs w≠0 then Cs w else if 131072<l.length then 2 else EK w.kinds l
theorem I6{ks:List Kind}:∀{l:List Cmd},EK ks l=0↔∀c∈l,(C4 ks c).2=0
 |[]=>by simp[EK]
 |c::l=>by
  rw[EK];split
  ·rename_i h
   rw[I6,List.forall_mem_cons];exact⟨λg=>⟨h,g⟩,λg=>g.2⟩
  ·rename_i h
   rw[List.forall_mem_cons];exact⟨λg=>absurd g h,λg=>absurd g.1 h⟩
theorem cmdErr_iff{w:Wd}{l:List Cmd}:LG w l=0↔WdOK w/\l.length<=131072/\∀c∈l,(C4 w.kinds c).2=0:=by
 unfold LG;split
 ·rename_i h
  exact⟨λe=>absurd e h,λe=>absurd ((BK w).2 e.1) h⟩
 ·rename_i h
  have h:Cs w=0:=Decidable.not_not.1 h;split
  ·rename_i h2
   exact⟨λe=>(by cases e),λe=>(by omega)⟩
  ·rename_i h2
   rw[I6];exact⟨λe=>⟨(BK w).1 h,by omega,e⟩,λe=>e.2.2⟩
def FD(w v:Wd)(e:Int):Wd:=if e=0 then v else w
def FC(w:Wd)(c:Cmd):Wd×Ent×Bool:=
 if c.act=0 then(FD w (DP w c.ent (c.comps.getD 0 ⟨0,[]⟩)).1 (DP w c.ent (c.comps.getD 0 ⟨0,[]⟩)).2,⟨0,0⟩,decide ((DP w c.ent (c.comps.getD 0 ⟨0,[]⟩)).2=0))else
 if c.act=1 then(FD w (E8 w c.ent c.kind).1 (E8 w c.ent c.kind).2,⟨0,0⟩,decide ((E8 w c.ent c.kind).2=0))else
 if c.act=2 then(FD w (EB w c.ent).1 (EB w c.ent).2,⟨0,0⟩,decide ((EB w c.ent).2=0))else
 (FD w (DJ w c.comps).1 (DJ w c.comps).2.2,(DJ w c.comps).2.1,decide ((DJ w c.comps).2.2=0))
def DQ:Wd->List Cmd->Wd×List Ent×List Bool
 |w,[]=>(w,[],[])
 |w,c::l=>((DQ (FC w c).1 l).1,(if(FC w c).2.2=true/\c.act=3 then(FC w c).2.1::(DQ (FC w c).1 l).2.1 else(DQ (FC w c).1 l).2.1),(FC w c).2.2::(DQ (FC w c).1 l).2.2)
theorem L7{ks:List Kind}{c:Comp}(hk:Ag ks=0)(h:(CH ks [c]).2=0):II ks c:=by
 unfold CH at h;rw[if_neg (by simp[hk])]at h;split at h
 ·rename_i h1;exact absurd h h1
 ·rename_i h1
  have h1:(Cn ks [] [] [c]).2=0:=Decidable.not_not.1 h1;rw[Cn]at h1;split at h1
  ·cases h1
  ·rename_i g1
   rw[if_neg (by simp)]at h1;split at h1
   ·cases h1
   ·rename_i k hk2
    split at h1
    ·rename_i g2;exact absurd h1 g2
    ·rename_i g2
     exact⟨by omega,by omega,k,hk2,Decidable.not_not.1 g2⟩
theorem Kv{ks:List Kind}:∀{l pre out:List Comp},(Cn ks pre out l).2=0->(∀a∈out,∃k,ks[a.kind.toNat]?=some k/\Bq k a.vals=true)->∀a∈(Cn ks pre out l).1,∃k,ks[a.kind.toNat]?=some k/\Bq k a.vals=true
 |[],pre,out,h,h1=>h1
 |c::l,pre,out,h,h1=>by
  rw[Cn]at h⊢;split at h
  ·cases h
  ·rename_i g1
   rw[if_neg g1];split at h
   ·cases h
   ·rename_i g2
    rw[if_neg g2];split at h
    ·cases h
    ·rename_i k hk
     split at h
     ·rename_i g3;exact absurd h g3
     ·rename_i g3
      (try simp only[hk])
      rw[if_neg g3];refine Kv h λa ha=>?_
      rcases List.mem_append.1 ha with ha|ha
      ·exact h1 a ha
      ·rw[List.mem_singleton.1 ha]
       exact⟨k,hk,(Dq (Decidable.not_not.1 g3)).1⟩
theorem GI{ks:List Kind}{l:List Comp}(h:(CH ks l).2=0):A7 ks (CH ks l).1=true:=by
 unfold CH at h⊢;split at h
 ·rename_i h1;exact absurd h h1
 ·rename_i h1
  rw[if_neg h1];split at h
  ·rename_i h2;exact absurd h h2
  ·rename_i h2
   rw[if_neg h2];have h2:(Cn ks [] [] l).2=0:=Decidable.not_not.1 h2;obtain⟨p1,p2⟩:=Ku h2 (λ_ h=>by cases h) .nil (λ_ h=>by cases h);have p3:=Kv h2 (λ_ h=>by cases h);refine held_iff.2 ⟨NV p1,λc hc=>?_⟩;have hc:=(Fu _).mem_iff.1 hc;exact⟨(p2 c hc).1,(p2 c hc).2,p3 c hc⟩
theorem RN{w:Wd}(hw:WdOK w){c:Cmd}(hc:(C4 w.kinds c).2=0):WdOK (FC w c).1/\(FC w c).1.kinds=w.kinds:=by
 have hs:∀v e,(e=0->WdOK v/\v.kinds=w.kinds)->WdOK (FD w v e)/\(FD w v e).kinds=w.kinds:=λv e h=>by
  unfold FD;split
  ·rename_i h1;exact h h1
  ·exact⟨hw,rfl⟩
 have hf:∀e,(CY w.items e<0)\/∃(i:Nat) (it:Item),w.items[i]?=some it/\it.ent=e:=λe=>by
  by_cases hlt:CY w.items e<0
  ·exact .inl hlt
  ·obtain⟨m,hm⟩:∃m:Nat,CY w.items e=m:=⟨(CY w.items e).toNat,by omega⟩
   obtain⟨x,hx,_,rfl⟩:=F6 hm;exact .inr ⟨m,x,hx,rfl⟩
 unfold FC;unfold C4 at hc;split
 ·rename_i h1
  rw[if_pos h1]at hc;split at hc
  ·rename_i h2
   obtain⟨d,hd⟩:=List.length_eq_one_iff.1 h2;rw[hd]at hc⊢;refine hs _ _ λhe=>?_
   rcases hf c.ent with h|⟨i,it,hi,rfl'⟩
   ·exfalso
    replace he:(DP w c.ent d).2=0:=he;unfold DP at he;rw[if_neg (by simp[(BK w).2 hw]),if_pos h]at he;cases he
   ·rw[<-rfl']
    have hfo:=L7 hw.ks hc;show WdOK (DP w it.ent d).1/\(DP w it.ent d).1.kinds=_
    rw[TQ hw hi hfo];exact⟨TP hw hi hfo,rfl⟩
  ·cases hc
 ·rename_i h1
  rw[if_neg h1]at hc;split
  ·rename_i h2
   refine hs _ _ λhe=>?_
   rcases hf c.ent with h|⟨i,it,hi,rfl'⟩
   ·exfalso
    unfold E8 at he;rw[if_neg (by simp[(BK w).2 hw]),if_pos h]at he;cases he
   ·rw[<-rfl']at he⊢
    rw[Me hw hi]at he⊢;split at he
    ·rename_i h3
     rw[if_pos h3];exact⟨HN hw hi (MX (hw.it it (Ao hi)).2.2.2.2),rfl⟩
    ·cases he
  ·rename_i h2
   rw[if_neg h2]at hc;split
   ·rename_i h3
    refine hs _ _ λhe=>?_
    rcases hf c.ent with h|⟨i,it,hi,rfl'⟩
    ·exfalso
     unfold EB at he;rw[if_neg (by simp[(BK w).2 hw]),if_pos h]at he;cases he
    ·rw[<-rfl']at he⊢
     rw[MS hw hi];exact⟨RA hw hi,rfl⟩
   ·rename_i h3
    rw[if_neg h3]at hc;split at hc
    ·refine hs _ _ λhe=>?_
     obtain⟨cs,hcs⟩:∃cs,CH w.kinds c.comps=(cs,0):=⟨(CH w.kinds c.comps).1,Prod.ext rfl hc⟩;have hh:=GI hc;rw[hcs]at hh;cases hfr:(Bf w).2 with
     |true=>
      rw[Pd hw hfr hcs];exact⟨J2 hw hfr hh,rfl⟩
     |false=>
      exfalso;unfold DJ at he;rw[if_neg (by simp[(BK w).2 hw]),if_neg (by simp[hc]),if_pos hfr]at he;cases he
    ·cases hc
theorem Qy:∀{l:List Cmd} {w:Wd},WdOK w->(∀c∈l,(C4 w.kinds c).2=0)->WdOK (DQ w l).1/\(DQ w l).1.kinds=w.kinds
 |[],w,hw,_=>⟨hw,rfl⟩
 |c::l,w,hw,hc=>by
  obtain⟨h1,h2⟩:=RN hw (hc c (by simp));obtain⟨h3,h4⟩:=Qy (l:=l) h1 λd hd=>by rw[h2];exact hc d (by simp[hd])
  exact⟨h3,h4.trans h2⟩
end Go.Proofs.YtiidbamlcgbpnaaGreat
