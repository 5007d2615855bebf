/-
  Part 5 of the texts under the law TopExchange: the layer of abstract values, walks and plain laws. Conditions: those that each theorem names.
-/
import Derived.WalkKit
import Derived.Lib.Hide
import Derived.Deep.OwnRows
import Derived.Deep.Draws
import Derived.Test.YtiidbamlcgbpnaaGreatChecked
import Derived.ProofKit
import Derived.OpenShut
import Derived.ShutString
import Derived.ChangeOld
import Derived.Below
import Derived.SizedLaws
import Derived.Deep.Slices
import Derived.Deep.Fields
import Derived.ChangeSame
import Derived.Test.YtiidbamlcgbpnaaGreatProg
import Derived.Sort.AssemblyPlain
import Derived.Test.YtiidbamlcgbpnaaGreatTopExchangeP4
namespace Go.Proofs.YtiidbamlcgbpnaaGreat
set_option linter.unusedVariables false
set_option linter.unusedSimpArgs false
set_option linter.defProp false
set_option maxRecDepth 10000
set_option maxHeartbeats 4000000
structure Field where
 name:List UInt8
 bits:Int
 low:Int
structure Kind where
 name:List UInt8
 fields:List Field
structure Ent where
 n:Int
 gen:Int
structure Comp where
 kind:Int
 vals:List Int
structure Item where
 ent:Ent
 comps:List Comp
structure Wd where
 kinds:List Kind
 gens:List Int
 items:List Item
structure Evt where
 sys:Int
 ent:Ent
 val:Int
structure Ref where
 kind:Int
 field:Int
structure Arg where
 has:Bool
 n:Int
 ref:Ref
structure Op where
 act:Int
 to:Ref
 a:Arg
 b:Arg
structure Sys where
 name:List UInt8
 wth:List Int
 wout:List Int
 reads:List Int
 writes:List Int
 ops:List Op
 spawn:List Comp
instance:DecidableEq Field:=λa b=>decidable_of_iff (a.name=b.name/\a.bits=b.bits/\a.low=b.low) (by cases a;cases b;simp)
instance:DecidableEq Kind:=λa b=>decidable_of_iff (a.name=b.name/\a.fields=b.fields) (by cases a;cases b;simp)
instance:DecidableEq Ent:=λa b=>decidable_of_iff (a.n=b.n/\a.gen=b.gen) (by cases a;cases b;simp)
instance:DecidableEq Comp:=λa b=>decidable_of_iff (a.kind=b.kind/\a.vals=b.vals) (by cases a;cases b;simp)
instance:Inhabited Comp:=⟨⟨default,default⟩⟩
instance:DecidableEq Item:=λa b=>decidable_of_iff (a.ent=b.ent/\a.comps=b.comps) (by cases a;cases b;simp)
instance:DecidableEq Wd:=λa b=>decidable_of_iff (a.kinds=b.kinds/\a.gens=b.gens/\a.items=b.items) (by cases a;cases b;simp)
instance:DecidableEq Ref:=λa b=>decidable_of_iff (a.kind=b.kind/\a.field=b.field) (by cases a;cases b;simp)
def I64(x:Int):Prop:=-9223372036854775808<=x/\x<=9223372036854775807
section
open Go.RowKit
abbrev Reg:=Nat->Prop
def Lt(w:World):Reg:=λb=>b<w.heap.size
def XC(S:Reg)(w w':World):Prop:=∀b,S b->w'.heap[b]?=w.heap[b]?
section
variable {w w' w'':World}{S T:Reg}
theorem bel{n m:Nat}{a b c:World}(h:Below n a b)(k:Below m b c)(hm:n<=m):Below n a c:=h.trans (k.mono hm)
def Row(w:World)(S:Reg)(sz:Nat)(v:Value)(n:Nat)(xs:List Value):Prop:=
 xs.length=n*sz/\∃A cap,v= .slice A n cap/\n<=cap/\(0<n->∃b off,A=some ⟨b,off,none⟩/\S b/\∀j u,xs[j]?=some u->w.cell? ⟨b,off+j,none⟩=some u)
variable {sz n:Nat}{v:Value}{xs:List Value}
theorem Row.nil(w:World)(S:Reg)(sz:Nat):Row w S sz (.slice none 0 0) 0 []:=⟨by simp,none,0,rfl,Nat.le_refl _,λh=>absurd h (by omega)⟩
end
def Cells{α:Type}(C:List Value->α->Prop)(sz:Nat):List Value->List α->Prop
 |xs,[]=>xs=[]
 |xs,x::l=>∃c ys,xs=c++ys/\c.length=sz/\C c x/\Cells C sz ys l
section
variable {α:Type}{C C':List Value->α->Prop}{sz:Nat}{xs ys:List Value}{l m:List α}
theorem Cells.nil:Cells C sz [] []:=rfl
theorem Cells.length(h:Cells C sz xs l):xs.length=l.length*sz:=by
 induction l generalizing xs with
 |nil=>have:xs=[]:=h;simp[this]
 |cons x l ih=>
  obtain⟨c,ys,rfl,h1,_,h3⟩:=h;simp[ih h3,h1,Nat.add_mul,Nat.add_comm]
end
def Sl{α:Type}(w:World)(S:Reg)(sz:Nat)(C:World->Reg->List Value->α->Prop)(v:Value)(l:List α):Prop:=
 ∃xs,Row w S sz v l.length xs/\Cells (C w S) sz xs l
section
variable {α:Type}{w w':World}{S T:Reg}{sz:Nat}{C:World->Reg->List Value->α->Prop}{v:Value}{l:List α}
theorem Sl.nil(w:World)(S:Reg)(sz:Nat)(C:World->Reg->List Value->α->Prop):Sl w S sz C (.slice none 0 0) []:=⟨[],Row.nil w S sz,.nil⟩
end
abbrev WW(l:List UInt8):Value:=.string ⟨l.toArray⟩
def W9(_:World)(_:Reg)(c:List Value)(x:Int):Prop:=c=[.int .i64 x]
def WH(_:World)(_:Reg)(c:List Value)(f:Field):Prop:=c=[WW f.name,.int .i64 f.bits,.int .i64 f.low]
abbrev QZ(w:World)(S:Reg)(v:Value)(l:List Int):Prop:=Sl w S 1 W9 v l
abbrev Fields(w:World)(S:Reg)(v:Value)(l:List Field):Prop:=Sl w S 3 WH v l
def Wj(w:World)(S:Reg)(c:List Value)(k:Kind):Prop:=∃vf,c=[WW k.name,vf]/\Fields w S vf k.fields
abbrev XA(w:World)(S:Reg)(v:Value)(l:List Kind):Prop:=Sl w S 2 Wj v l
def Wr(w:World)(S:Reg)(c:List Value)(x:Comp):Prop:=∃v,c=[.int .i64 x.kind,v]/\QZ w S v x.vals
abbrev W6(w:World)(S:Reg)(v:Value)(l:List Comp):Prop:=Sl w S 2 Wr v l
def Wk(w:World)(S:Reg)(c:List Value)(x:Item):Prop:=∃v,c=[.int .i64 x.ent.n,.int .i64 x.ent.gen,v]/\W6 w S v x.comps
abbrev XB(w:World)(S:Reg)(v:Value)(l:List Item):Prop:=Sl w S 3 Wk v l
section
variable {w w':World}{S T:Reg}{v:Value}
variable {A:Option Addr}{n cap i:Nat}
end
section
variable {α:Type}{w w':World}{base:Nat}{e:TypeId}{S T:Reg}{sz:Nat}{C:World->Reg->List Value->α->Prop}{v:Value}{l:List α}
end
section
variable {w w':World}{b:Nat}{e:TypeId}{l:List Int}
end
section
variable {w w':World}{g:Nat}{t:TypeId}{cs:Array Value}
end
end
section
open Go.ChangeShapes Go.WideShapes Go.ChangeAt Go.RowKit Go.Deep
theorem WU{x:Int}(h:(Lit.int .i64 x).wf=true):I64 x:=by
 have:=h;simp[Lit.wf,IntKind.min,IntKind.max,IntKind.signed,IntKind.bits]at this;unfold I64;omega
theorem VA{α:Type}{sz:Nat}{cs:α->List Value}{f:Nat->Option Value}(hcs:∀x,(cs x).length=sz):∀(l:List α) (off:Nat),(∀i (hi:i<l.length) j u,(cs l[i])[j]?=some u->f (off+(i*sz+j))=some u)->
  ∀j u,(l.flatMap cs)[j]?=some u->f (off+j)=some u:=by
 intro l
 induction l with
 |nil=>intro off _ j u h;simp at h
 |cons x l ih=>
  intro off h j u hj;rw[List.flatMap_cons]at hj;rcases Nat.lt_or_ge j sz with hlt|hge
  ·rw[List.getElem?_append_left (by rw[hcs];exact hlt)]at hj
   have:=h 0 (by simp) j u hj;simpa using this
  ·rw[List.getElem?_append_right (by rw[hcs];exact hge),hcs]at hj
   have:=ih (off+sz) (λi hi j u hu=>by
    have:=h (i+1) (by simp;omega) j u hu;rwa[Nat.add_mul,Nat.one_mul,show off+(i*sz+sz+j)=off+sz+(i*sz+j) by omega]at this) (j-sz) u hj
   rwa[show off+sz+(j-sz)=off+j by omega]at this
theorem LT{α:Type}{sz:Nat}{cs:α->List Value}{C:List Value->α->Prop}(hcs:∀x,(cs x).length=sz)(hC:∀x,C (cs x) x)(l:List α):Cells C sz (l.flatMap cs) l:=by
 induction l with
 |nil=>rfl
 |cons x l ih=>exact⟨cs x,l.flatMap cs,by rw[List.flatMap_cons],hcs x,hC x,ih⟩
theorem Ny{α:Type}{w:World}{sz:Nat}{C:World->Reg->List Value->α->Prop}{a:Addr}{n cap:Nat}{l:List α}{cs:α->List Value}(hn:n<=cap)(hl:l.length=n)(hsz:0<sz)(hcs:∀x,(cs x).length=sz)(hC:∀x,C w (Lt w) (cs x) x)
  (hcell:∀i (hi:i<l.length) j u,(cs l[i])[j]?=some u->w.cell? (a.add (i*sz+j))=some u):Sl w (Lt w) sz C (.slice (some a) n cap) l:=by
 subst hl;refine⟨l.flatMap cs,⟨?_,some a,cap,rfl,hn,λh0=>?_⟩,LT hcs hC l⟩
 ·have:=(LT (C:=λ_ _=>True) hcs (λ_=>trivial) l).length
  exact this
 ·obtain⟨b,off,spot⟩:=a
  have h1:∃u,(cs l[0])[0]?=some u:=⟨_,AI (by rw[hcs];exact hsz)⟩;obtain⟨u,hu⟩:=h1;have h2:=hcell 0 h0 0 u hu;have hspot:spot=none:=by simpa[Addr.add]using World.cell?_spot h2
  subst hspot;refine⟨b,off,rfl,?_,?_⟩
  ·rw[Go.WideShapes.add_plain]at h2
   unfold World.cell? at h2;simp only at h2;show b<w.heap.size
   rcases Nat.lt_or_ge b w.heap.size with h|h
   ·exact h
   ·rw[Array.getElem?_eq_none h]at h2
    cases h2
  ·refine VA (f:=λk=>w.cell? ⟨b,k,none⟩) hcs l off λi hi j u hu=>?_
   have:=hcell i hi j u hu;rwa[Go.WideShapes.add_plain]at this
section
variable {H:Type}{enc:TypeId×Value->H}{w:World}{a:Option Addr}{len cap:Nat}{d:DataW H}{p:List MemPlace}
theorem Wl(h:DataW.Trod enc Tryz.prog w 0 (λ_=>true) true 22 (.slice a len cap) d p):
  ∃z:List Int,QZ w (Lt w) (.slice a len cap) z/\(z=[]\/∃elems spare,d= .slice elems spare/\z.length<=elems.length+spare.length):=by
 obtain⟨fuel,hf⟩:=h;rcases open_slice Tryz.underlying22 hf with⟨hcs,_⟩|⟨x,l,c,m,n,D,Pl,hcs,hb,hl,hm,hmm,hx,hi⟩
 ·simp[Value.cells]at hcs
  obtain⟨rfl,rfl,rfl⟩:=hcs;exact⟨[],Sl.nil _ _ _ _,.inl rfl⟩
 ·simp[Value.cells]at hcs
  obtain⟨rfl,rfl,rfl⟩:=hcs;have hlm:len<=m:=by rw[hmm];split<;>omega
  have hex:∀i,∃e:Int,i<len->∀j u,([Value.int .i64 e])[j]?=some u->w.cell? (x.add (i*1+j))=some u:=by
   intro i;by_cases hil:i<len
   ·obtain⟨cs',hc,ht⟩:=hi i (by omega)
    rw[show Tryz.prog.cellsOf 3=1 from by kernel_rfl]at hc;obtain⟨_,hcl,hat⟩:=World.cells?_some hc;obtain⟨k,rfl,_⟩:=DataW.trod_int Tryz.underlying3 ht;refine⟨k,λ_ j u hu=>?_⟩
    have hj:j=0:=by
     have:=(List.getElem?_eq_some_iff.1 hu).1;simp at this;omega
    subst hj;have:=hat 0 (by omega);rw[Go.Deep.add_add]at this;rw[this,hu]
   ·exact⟨0,λh=>absurd h hil⟩
  obtain⟨f,hf'⟩:=Classical.axiomOfChoice hex;refine⟨(List.range len).map f,Ny (cs:=λe=>[Value.int .i64 e]) hl (by simp) (by omega) (λ_=>rfl) (λ_=>rfl) (λi hi' j u hu=>?_),.inr ⟨_,_,(Prod.mk.inj hx).1,by simp⟩⟩;simp only[AB,List.length_range]at hi';exact hf' i hi' j u (by simpa using hu)
end
end
instance tAg3:TAg Tryz.prog 3 false:=⟨by kernel_rfl⟩
instance tSize3:TSize Tryz.prog 3 1:=⟨by kernel_rfl⟩
instance tZe3:TZe Tryz.prog 3 [.int .i64 0]:=⟨by kernel_rfl⟩
instance tBy3:TBy Tryz.prog 3 8:=⟨by kernel_rfl⟩
instance tAg4:TAg Tryz.prog 4 false:=⟨by kernel_rfl⟩
instance tSize4:TSize Tryz.prog 4 1:=⟨by kernel_rfl⟩
instance tZe4:TZe Tryz.prog 4 [.bool false]:=⟨by kernel_rfl⟩
instance tBy4:TBy Tryz.prog 4 1:=⟨by kernel_rfl⟩
instance tAg9:TAg Tryz.prog 9 false:=⟨by kernel_rfl⟩
instance tSize9:TSize Tryz.prog 9 1:=⟨by kernel_rfl⟩
instance tZe9:TZe Tryz.prog 9 [.string ByteArray.empty]:=⟨by kernel_rfl⟩
instance tSg9:TSg Tryz.prog 9:=⟨by kernel_rfl⟩
instance tAg22:TAg Tryz.prog 22 false:=⟨by kernel_rfl⟩
instance tSize22:TSize Tryz.prog 22 1:=⟨by kernel_rfl⟩
instance tZe22:TZe Tryz.prog 22 [.slice none 0 0]:=⟨by kernel_rfl⟩
instance tEl22:TEl Tryz.prog 22 3:=⟨by kernel_rfl⟩
instance tRo22:TRo Tryz.prog 22 3 1 8:=⟨by kernel_rfl⟩
instance tAg23:TAg Tryz.prog 23 false:=⟨by kernel_rfl⟩
instance tSize23:TSize Tryz.prog 23 1:=⟨by kernel_rfl⟩
instance tEl23:TEl Tryz.prog 23 118:=⟨by kernel_rfl⟩
instance tRo23:TRo Tryz.prog 23 118 2 40:=⟨by kernel_rfl⟩
instance tAg24:TAg Tryz.prog 24 false:=⟨by kernel_rfl⟩
instance tSize24:TSize Tryz.prog 24 1:=⟨by kernel_rfl⟩
instance tEl24:TEl Tryz.prog 24 71:=⟨by kernel_rfl⟩
instance tRo24:TRo Tryz.prog 24 71 3 40:=⟨by kernel_rfl⟩
instance tAg26:TAg Tryz.prog 26 true:=⟨by kernel_rfl⟩
instance tSize26:TSize Tryz.prog 26 3:=⟨by kernel_rfl⟩
instance tZe26:TZe Tryz.prog 26 [.slice none 0 0,.slice none 0 0,.slice none 0 0]:=⟨by kernel_rfl⟩
instance tFl26_0:TFl Tryz.prog 26 0 0 23:=⟨by kernel_rfl⟩
instance tFl26_1:TFl Tryz.prog 26 1 1 22:=⟨by kernel_rfl⟩
instance tFl26_2:TFl Tryz.prog 26 2 2 24:=⟨by kernel_rfl⟩
instance tSt26:TSt Tryz.prog 26 [.slice none 0 0,.slice none 0 0,.slice none 0 0] [(0,1),(1,1),(2,1)]:=⟨by kernel_rfl⟩
instance tAg32:TAg Tryz.prog 32 true:=⟨by kernel_rfl⟩
instance tSize32:TSize Tryz.prog 32 2:=⟨by kernel_rfl⟩
instance tZe32:TZe Tryz.prog 32 [.int .i64 0,.int .i64 0]:=⟨by kernel_rfl⟩
instance tFl32_0:TFl Tryz.prog 32 0 0 3:=⟨by kernel_rfl⟩
instance tFl32_1:TFl Tryz.prog 32 1 1 3:=⟨by kernel_rfl⟩
instance tSt32:TSt Tryz.prog 32 [.int .i64 0,.int .i64 0] [(0,1),(1,1)]:=⟨by kernel_rfl⟩
instance tAg42:TAg Tryz.prog 42 true:=⟨by kernel_rfl⟩
instance tSize42:TSize Tryz.prog 42 2:=⟨by kernel_rfl⟩
instance tZe42:TZe Tryz.prog 42 [.int .i64 0,.slice none 0 0]:=⟨by kernel_rfl⟩
instance tBy42:TBy Tryz.prog 42 32:=⟨by kernel_rfl⟩
instance tFl42_0:TFl Tryz.prog 42 0 0 3:=⟨by kernel_rfl⟩
instance tFl42_1:TFl Tryz.prog 42 1 1 22:=⟨by kernel_rfl⟩
instance tSt42:TSt Tryz.prog 42 [.int .i64 0,.slice none 0 0] [(0,1),(1,1)]:=⟨by kernel_rfl⟩
instance tAg69:TAg Tryz.prog 69 false:=⟨by kernel_rfl⟩
instance tSize69:TSize Tryz.prog 69 1:=⟨by kernel_rfl⟩
instance tEl69:TEl Tryz.prog 69 42:=⟨by kernel_rfl⟩
instance tRo69:TRo Tryz.prog 69 42 2 32:=⟨by kernel_rfl⟩
instance tAg71:TAg Tryz.prog 71 true:=⟨by kernel_rfl⟩
instance tSize71:TSize Tryz.prog 71 3:=⟨by kernel_rfl⟩
instance tZe71:TZe Tryz.prog 71 [.int .i64 0,.int .i64 0,.slice none 0 0]:=⟨by kernel_rfl⟩
instance tBy71:TBy Tryz.prog 71 40:=⟨by kernel_rfl⟩
instance tFl71_0:TFl Tryz.prog 71 0 0 32:=⟨by kernel_rfl⟩
instance tFl71_1:TFl Tryz.prog 71 1 2 69:=⟨by kernel_rfl⟩
instance tSt71:TSt Tryz.prog 71 [.int .i64 0,.int .i64 0,.slice none 0 0] [(0,2),(2,1)]:=⟨by kernel_rfl⟩
instance tAg74:TAg Tryz.prog 74 false:=⟨by kernel_rfl⟩
instance tSize74:TSize Tryz.prog 74 1:=⟨by kernel_rfl⟩
instance tEl74:TEl Tryz.prog 74 195:=⟨by kernel_rfl⟩
instance tRo74:TRo Tryz.prog 74 195 11 88:=⟨by kernel_rfl⟩
instance tAg76:TAg Tryz.prog 76 true:=⟨by kernel_rfl⟩
instance tSize76:TSize Tryz.prog 76 7:=⟨by kernel_rfl⟩
instance tZe76:TZe Tryz.prog 76 [.string ByteArray.empty,.slice none 0 0,.slice none 0 0,.slice none 0 0,.slice none 0 0,.slice none 0 0,.slice none 0 0]:=⟨by kernel_rfl⟩
instance tFl76_0:TFl Tryz.prog 76 0 0 9:=⟨by kernel_rfl⟩
instance tFl76_1:TFl Tryz.prog 76 1 1 22:=⟨by kernel_rfl⟩
instance tFl76_2:TFl Tryz.prog 76 2 2 22:=⟨by kernel_rfl⟩
instance tFl76_3:TFl Tryz.prog 76 3 3 22:=⟨by kernel_rfl⟩
instance tFl76_4:TFl Tryz.prog 76 4 4 22:=⟨by kernel_rfl⟩
instance tFl76_5:TFl Tryz.prog 76 5 5 74:=⟨by kernel_rfl⟩
instance tFl76_6:TFl Tryz.prog 76 6 6 69:=⟨by kernel_rfl⟩
instance tSt76:TSt Tryz.prog 76 [.string ByteArray.empty,.slice none 0 0,.slice none 0 0,.slice none 0 0,.slice none 0 0,.slice none 0 0,.slice none 0 0] [(0,1),(1,1),(2,1),(3,1),(4,1),(5,1),(6,1)]:=⟨by kernel_rfl⟩
instance tAg79:TAg Tryz.prog 79 false:=⟨by kernel_rfl⟩
instance tSize79:TSize Tryz.prog 79 1:=⟨by kernel_rfl⟩
instance tZe79:TZe Tryz.prog 79 [.slice none 0 0]:=⟨by kernel_rfl⟩
instance tEl79:TEl Tryz.prog 79 159:=⟨by kernel_rfl⟩
instance tRo79:TRo Tryz.prog 79 159 5 56:=⟨by kernel_rfl⟩
instance tAg80:TAg Tryz.prog 80 false:=⟨by kernel_rfl⟩
instance tSize80:TSize Tryz.prog 80 1:=⟨by kernel_rfl⟩
instance tEl80:TEl Tryz.prog 80 86:=⟨by kernel_rfl⟩
instance tRo80:TRo Tryz.prog 80 86 4 32:=⟨by kernel_rfl⟩
instance tAg86:TAg Tryz.prog 86 true:=⟨by kernel_rfl⟩
instance tSize86:TSize Tryz.prog 86 4:=⟨by kernel_rfl⟩
instance tZe86:TZe Tryz.prog 86 [.int .i64 0,.int .i64 0,.int .i64 0,.int .i64 0]:=⟨by kernel_rfl⟩
instance tSt86:TSt Tryz.prog 86 [.int .i64 0,.int .i64 0,.int .i64 0,.int .i64 0] [(0,1),(1,2),(3,1)]:=⟨by kernel_rfl⟩
instance tEl88:TEl Tryz.prog 88 76:=⟨by kernel_rfl⟩
instance tAg90:TAg Tryz.prog 90 false:=⟨by kernel_rfl⟩
instance tSize90:TSize Tryz.prog 90 1:=⟨by kernel_rfl⟩
instance tEl90:TEl Tryz.prog 90 22:=⟨by kernel_rfl⟩
instance tRo90:TRo Tryz.prog 90 22 1 24:=⟨by kernel_rfl⟩
instance tAg107:TAg Tryz.prog 107 false:=⟨by kernel_rfl⟩
instance tSize107:TSize Tryz.prog 107 1:=⟨by kernel_rfl⟩
instance tAg110:TAg Tryz.prog 110 false:=⟨by kernel_rfl⟩
instance tSize110:TSize Tryz.prog 110 1:=⟨by kernel_rfl⟩
instance tFl112_0:TFl Tryz.prog 112 0 0 22:=⟨by kernel_rfl⟩
instance tSt112:TSt Tryz.prog 112 [.slice none 0 0] [(0,1)]:=⟨by kernel_rfl⟩
instance tAg116:TAg Tryz.prog 116 false:=⟨by kernel_rfl⟩
instance tSize116:TSize Tryz.prog 116 1:=⟨by kernel_rfl⟩
instance tEl116:TEl Tryz.prog 116 120:=⟨by kernel_rfl⟩
instance tRo116:TRo Tryz.prog 116 120 3 32:=⟨by kernel_rfl⟩
instance tAg118:TAg Tryz.prog 118 true:=⟨by kernel_rfl⟩
instance tSize118:TSize Tryz.prog 118 2:=⟨by kernel_rfl⟩
instance tZe118:TZe Tryz.prog 118 [.string ByteArray.empty,.slice none 0 0]:=⟨by kernel_rfl⟩
instance tBy118:TBy Tryz.prog 118 40:=⟨by kernel_rfl⟩
instance tFl118_0:TFl Tryz.prog 118 0 0 9:=⟨by kernel_rfl⟩
instance tFl118_1:TFl Tryz.prog 118 1 1 116:=⟨by kernel_rfl⟩
instance tSt118:TSt Tryz.prog 118 [.string ByteArray.empty,.slice none 0 0] [(0,1),(1,1)]:=⟨by kernel_rfl⟩
instance tAg120:TAg Tryz.prog 120 true:=⟨by kernel_rfl⟩
instance tSize120:TSize Tryz.prog 120 3:=⟨by kernel_rfl⟩
instance tZe120:TZe Tryz.prog 120 [.string ByteArray.empty,.int .i64 0,.int .i64 0]:=⟨by kernel_rfl⟩
instance tFl120_0:TFl Tryz.prog 120 0 0 9:=⟨by kernel_rfl⟩
instance tFl120_1:TFl Tryz.prog 120 1 1 3:=⟨by kernel_rfl⟩
instance tFl120_2:TFl Tryz.prog 120 2 2 3:=⟨by kernel_rfl⟩
instance tSt120:TSt Tryz.prog 120 [.string ByteArray.empty,.int .i64 0,.int .i64 0] [(0,1),(1,1),(2,1)]:=⟨by kernel_rfl⟩
instance tAg140:TAg Tryz.prog 140 false:=⟨by kernel_rfl⟩
instance tSize140:TSize Tryz.prog 140 1:=⟨by kernel_rfl⟩
instance tAg141:TAg Tryz.prog 141 false:=⟨by kernel_rfl⟩
instance tSize141:TSize Tryz.prog 141 1:=⟨by kernel_rfl⟩
instance tEl141:TEl Tryz.prog 141 145:=⟨by kernel_rfl⟩
instance tRo141:TRo Tryz.prog 141 145 1 8:=⟨by kernel_rfl⟩
instance tFl143_0:TFl Tryz.prog 143 0 0 23:=⟨by kernel_rfl⟩
instance tFl143_1:TFl Tryz.prog 143 1 1 22:=⟨by kernel_rfl⟩
instance tFl143_2:TFl Tryz.prog 143 2 2 141:=⟨by kernel_rfl⟩
instance tFl143_3:TFl Tryz.prog 143 3 3 140:=⟨by kernel_rfl⟩
instance tSt143:TSt Tryz.prog 143 [.slice none 0 0,.slice none 0 0,.slice none 0 0,.map none] [(0,1),(1,1),(2,1),(3,1)]:=⟨by kernel_rfl⟩
instance tAg145:TAg Tryz.prog 145 false:=⟨by kernel_rfl⟩
instance tSize145:TSize Tryz.prog 145 1:=⟨by kernel_rfl⟩
instance tZe145:TZe Tryz.prog 145 [.pointer none]:=⟨by kernel_rfl⟩
instance tAg148:TAg Tryz.prog 148 false:=⟨by kernel_rfl⟩
instance tSize148:TSize Tryz.prog 148 1:=⟨by kernel_rfl⟩
instance tAg149:TAg Tryz.prog 149 false:=⟨by kernel_rfl⟩
instance tSize149:TSize Tryz.prog 149 1:=⟨by kernel_rfl⟩
instance tEl149:TEl Tryz.prog 149 252:=⟨by kernel_rfl⟩
instance tRo149:TRo Tryz.prog 149 252 1 8:=⟨by kernel_rfl⟩
instance tFl151_0:TFl Tryz.prog 151 0 0 22:=⟨by kernel_rfl⟩
instance tFl151_1:TFl Tryz.prog 151 1 1 148:=⟨by kernel_rfl⟩
instance tFl151_2:TFl Tryz.prog 151 2 2 149:=⟨by kernel_rfl⟩
instance tSt151:TSt Tryz.prog 151 [.slice none 0 0,.pointer none,.slice none 0 0] [(0,1),(1,1),(2,1)]:=⟨by kernel_rfl⟩
instance tAg159:TAg Tryz.prog 159 true:=⟨by kernel_rfl⟩
instance tSize159:TSize Tryz.prog 159 5:=⟨by kernel_rfl⟩
instance tZe159:TZe Tryz.prog 159 [.int .i64 0,.int .i64 0,.int .i64 0,.int .i64 0,.slice none 0 0]:=⟨by kernel_rfl⟩
instance tFl159_0:TFl Tryz.prog 159 0 0 3:=⟨by kernel_rfl⟩
instance tFl159_1:TFl Tryz.prog 159 1 1 32:=⟨by kernel_rfl⟩
instance tFl159_2:TFl Tryz.prog 159 2 3 3:=⟨by kernel_rfl⟩
instance tFl159_3:TFl Tryz.prog 159 3 4 69:=⟨by kernel_rfl⟩
instance tSt159:TSt Tryz.prog 159 [.int .i64 0,.int .i64 0,.int .i64 0,.int .i64 0,.slice none 0 0] [(0,1),(1,2),(3,1),(4,1)]:=⟨by kernel_rfl⟩
instance tAg160:TAg Tryz.prog 160 false:=⟨by kernel_rfl⟩
instance tSize160:TSize Tryz.prog 160 1:=⟨by kernel_rfl⟩
instance tZe160:TZe Tryz.prog 160 [.slice none 0 0]:=⟨by kernel_rfl⟩
instance tEl160:TEl Tryz.prog 160 32:=⟨by kernel_rfl⟩
instance tRo160:TRo Tryz.prog 160 32 2 16:=⟨by kernel_rfl⟩
instance tAg179:TAg Tryz.prog 179 false:=⟨by kernel_rfl⟩
instance tSize179:TSize Tryz.prog 179 1:=⟨by kernel_rfl⟩
instance tZe179:TZe Tryz.prog 179 [.nilFunc]:=⟨by kernel_rfl⟩
instance tAg181:TAg Tryz.prog 181 false:=⟨by kernel_rfl⟩
instance tSize181:TSize Tryz.prog 181 1:=⟨by kernel_rfl⟩
instance tZe181:TZe Tryz.prog 181 [.pointer none]:=⟨by kernel_rfl⟩
instance tAg183:TAg Tryz.prog 183 true:=⟨by kernel_rfl⟩
instance tSize183:TSize Tryz.prog 183 2:=⟨by kernel_rfl⟩
instance tZe183:TZe Tryz.prog 183 [.int .u64 0,.int .u64 0]:=⟨by kernel_rfl⟩
instance tFl183_0:TFl Tryz.prog 183 0 0 107:=⟨by kernel_rfl⟩
instance tFl183_1:TFl Tryz.prog 183 1 1 107:=⟨by kernel_rfl⟩
instance tSt183:TSt Tryz.prog 183 [.int .u64 0,.int .u64 0] [(0,1),(1,1)]:=⟨by kernel_rfl⟩
instance tFl185_0:TFl Tryz.prog 185 0 0 23:=⟨by kernel_rfl⟩
instance tFl185_1:TFl Tryz.prog 185 1 1 76:=⟨by kernel_rfl⟩
instance tFl185_2:TFl Tryz.prog 185 2 8 71:=⟨by kernel_rfl⟩
instance tFl185_3:TFl Tryz.prog 185 3 11 183:=⟨by kernel_rfl⟩
instance tFl185_4:TFl Tryz.prog 185 4 13 79:=⟨by kernel_rfl⟩
instance tFl185_5:TFl Tryz.prog 185 5 14 80:=⟨by kernel_rfl⟩
instance tFl185_6:TFl Tryz.prog 185 6 15 3:=⟨by kernel_rfl⟩
instance tSt185:TSt Tryz.prog 185 [.slice none 0 0,.string ByteArray.empty,.slice none 0 0,.slice none 0 0,.slice none 0 0,.slice none 0 0,.slice none 0 0,.slice none 0 0,.int .i64 0,.int .i64 0,.slice none 0 0,.int .u64 0,.int .u64 0,.slice none 0 0,.slice none 0 0,.int .i64 0] [(0,1),(1,7),(8,3),(11,2),(13,1),(14,1),(15,1)]:=⟨by kernel_rfl⟩
instance tAg191:TAg Tryz.prog 191 true:=⟨by kernel_rfl⟩
instance tSize191:TSize Tryz.prog 191 2:=⟨by kernel_rfl⟩
instance tZe191:TZe Tryz.prog 191 [.int .i64 0,.int .i64 0]:=⟨by kernel_rfl⟩
instance tFl191_0:TFl Tryz.prog 191 0 0 3:=⟨by kernel_rfl⟩
instance tFl191_1:TFl Tryz.prog 191 1 1 3:=⟨by kernel_rfl⟩
instance tSt191:TSt Tryz.prog 191 [.int .i64 0,.int .i64 0] [(0,1),(1,1)]:=⟨by kernel_rfl⟩
instance tAg193:TAg Tryz.prog 193 true:=⟨by kernel_rfl⟩
instance tSize193:TSize Tryz.prog 193 4:=⟨by kernel_rfl⟩
instance tZe193:TZe Tryz.prog 193 [.bool false,.int .i64 0,.int .i64 0,.int .i64 0]:=⟨by kernel_rfl⟩
instance tFl193_0:TFl Tryz.prog 193 0 0 4:=⟨by kernel_rfl⟩
instance tFl193_1:TFl Tryz.prog 193 1 1 3:=⟨by kernel_rfl⟩
instance tFl193_2:TFl Tryz.prog 193 2 2 191:=⟨by kernel_rfl⟩
instance tSt193:TSt Tryz.prog 193 [.bool false,.int .i64 0,.int .i64 0,.int .i64 0] [(0,1),(1,1),(2,2)]:=⟨by kernel_rfl⟩
instance tAg195:TAg Tryz.prog 195 true:=⟨by kernel_rfl⟩
instance tSize195:TSize Tryz.prog 195 11:=⟨by kernel_rfl⟩
instance tZe195:TZe Tryz.prog 195 [.int .i64 0,.int .i64 0,.int .i64 0,.bool false,.int .i64 0,.int .i64 0,.int .i64 0,.bool false,.int .i64 0,.int .i64 0,.int .i64 0]:=⟨by kernel_rfl⟩
instance tFl195_0:TFl Tryz.prog 195 0 0 3:=⟨by kernel_rfl⟩
instance tFl195_1:TFl Tryz.prog 195 1 1 191:=⟨by kernel_rfl⟩
instance tFl195_2:TFl Tryz.prog 195 2 3 193:=⟨by kernel_rfl⟩
instance tFl195_3:TFl Tryz.prog 195 3 7 193:=⟨by kernel_rfl⟩
instance tSt195:TSt Tryz.prog 195 [.int .i64 0,.int .i64 0,.int .i64 0,.bool false,.int .i64 0,.int .i64 0,.int .i64 0,.bool false,.int .i64 0,.int .i64 0,.int .i64 0] [(0,1),(1,2),(3,4),(7,4)]:=⟨by kernel_rfl⟩
instance tAg197:TAg Tryz.prog 197 false:=⟨by kernel_rfl⟩
instance tSize197:TSize Tryz.prog 197 1:=⟨by kernel_rfl⟩
instance tZe197:TZe Tryz.prog 197 [.nilFunc]:=⟨by kernel_rfl⟩
instance tEl210:TEl Tryz.prog 210 79:=⟨by kernel_rfl⟩
instance tRo210:TRo Tryz.prog 210 79 1 24:=⟨by kernel_rfl⟩
instance tEl232:TEl Tryz.prog 232 9:=⟨by kernel_rfl⟩
instance tEl241:TEl Tryz.prog 241 4:=⟨by kernel_rfl⟩
instance tAg252:TAg Tryz.prog 252 false:=⟨by kernel_rfl⟩
instance tSize252:TSize Tryz.prog 252 1:=⟨by kernel_rfl⟩
instance tZe252:TZe Tryz.prog 252 [.pointer none]:=⟨by kernel_rfl⟩
instance tAg257:TAg Tryz.prog 257 false:=⟨by kernel_rfl⟩
instance tSize257:TSize Tryz.prog 257 1:=⟨by kernel_rfl⟩
instance tFl259_0:TFl Tryz.prog 259 0 0 160:=⟨by kernel_rfl⟩
instance tFl259_1:TFl Tryz.prog 259 1 1 22:=⟨by kernel_rfl⟩
instance tFl259_2:TFl Tryz.prog 259 2 2 257:=⟨by kernel_rfl⟩
instance tSt259:TSt Tryz.prog 259 [.slice none 0 0,.slice none 0 0,.map none] [(0,1),(1,1),(2,1)]:=⟨by kernel_rfl⟩
instance tAg281:TAg Tryz.prog 281 false:=⟨by kernel_rfl⟩
instance tSize281:TSize Tryz.prog 281 1:=⟨by kernel_rfl⟩
instance tZe281:TZe Tryz.prog 281 [.slice none 0 0]:=⟨by kernel_rfl⟩
instance tEl281:TEl Tryz.prog 281 284:=⟨by kernel_rfl⟩
instance tRo281:TRo Tryz.prog 281 284 4 48:=⟨by kernel_rfl⟩
instance tAg284:TAg Tryz.prog 284 true:=⟨by kernel_rfl⟩
instance tSize284:TSize Tryz.prog 284 4:=⟨by kernel_rfl⟩
instance tZe284:TZe Tryz.prog 284 [.int .i64 0,.int .i64 0,.int .i64 0,.slice none 0 0]:=⟨by kernel_rfl⟩
instance tFl284_0:TFl Tryz.prog 284 0 0 3:=⟨by kernel_rfl⟩
instance tFl284_1:TFl Tryz.prog 284 1 1 71:=⟨by kernel_rfl⟩
instance tSt284:TSt Tryz.prog 284 [.int .i64 0,.int .i64 0,.int .i64 0,.slice none 0 0] [(0,1),(1,3)]:=⟨by kernel_rfl⟩
instance tFl314_0:TFl Tryz.prog 314 0 0 90:=⟨by kernel_rfl⟩
instance tFl314_1:TFl Tryz.prog 314 1 1 22:=⟨by kernel_rfl⟩
instance tFl314_2:TFl Tryz.prog 314 2 2 257:=⟨by kernel_rfl⟩
instance tSt314:TSt Tryz.prog 314 [.slice none 0 0,.slice none 0 0,.map none] [(0,1),(1,1),(2,1)]:=⟨by kernel_rfl⟩
instance tEl335:TEl Tryz.prog 335 193:=⟨by kernel_rfl⟩
instance tAg355:TAg Tryz.prog 355 false:=⟨by kernel_rfl⟩
instance tSize355:TSize Tryz.prog 355 1:=⟨by kernel_rfl⟩
instance tZe355:TZe Tryz.prog 355 [.int .u64 0]:=⟨by kernel_rfl⟩
abbrev iA(n:Int):AV:=.prim (.int .i64 n)
abbrev bA(b:Bool):AV:=.prim (.bool b)
abbrev sA(l:List UInt8):AV:=.prim (DK l)
def fieldA(f:Field):AV:=.agg [sA f.name,iA f.bits,iA f.low]
abbrev Ef(o:Bool)(l:List Field):AV:=.lst o 120 3 (l.map fieldA)
def A7(o:Bool)(k:Kind):AV:=.agg [sA k.name,Ef o k.fields]
abbrev Ag(o o':Bool)(l:List Kind):AV:=.lst o 118 2 (l.map (A7 o'))
abbrev AM(o:Bool)(l:List Int):AV:=.lst o 3 1 (l.map iA)
instance {f:Field}:Frz (fieldA f) (fieldA f):=⟨rfl⟩
instance {o:Bool}{k:Kind}:Frz (A7 o k) (A7 false k):=⟨by unfold A7;exact Frz.h⟩
def AG(o:Bool)(c:Comp):AV:=.agg [iA c.kind,AM o c.vals]
abbrev Ax(o o':Bool)(l:List Comp):AV:=.lst o 42 2 (l.map (AG o'))
def AD(o:Bool)(x:Item):AV:=.agg [iA x.ent.n,iA x.ent.gen,Ax o o x.comps]
abbrev HX(o o':Bool)(l:List Item):AV:=.lst o 71 3 (l.map (AD o'))
def wdA(o:Bool)(w:Wd):AV:=.agg [Ag o o w.kinds,AM o w.gens,HX o o w.items]
def BA(e:Ent):AV:=.agg [iA e.n,iA e.gen]
def Cw(e:Evt):AV:=.agg [iA e.sys,iA e.ent.n,iA e.ent.gen,iA e.val]
instance {e:Ent}:Frz (BA e) (BA e):=⟨rfl⟩
instance {e:Evt}:Frz (Cw e) (Cw e):=⟨rfl⟩
instance {o:Bool}{k:Comp}:Frz (AG o k) (AG false k):=⟨by unfold AG;exact Frz.h⟩
instance {o:Bool}{k:Item}:Frz (AD o k) (AD false k):=⟨by unfold AD;exact Frz.h⟩
instance {o:Bool}{k:Wd}:Frz (wdA o k) (wdA false k):=⟨by unfold wdA;exact Frz.h⟩
theorem Fh{α:Type}(f:α->AV)(h:∀a,(f a).frz=f a)(l:List α):AV.frzs (l.map f)=l.map f:=by
 rw[EU,List.map_map];exact List.map_congr_left λa _=>h a
theorem R3(o:Bool)(l:List Int):(AM o l).frz=AM false l:=by
 show AV.lst false _ _ (AV.frzs (l.map iA))=_
 rw[Fh _ λ_=>rfl]
theorem Ir(a b c d:Int)(w:World):(binOp .eql 32 (.agg #[.int .i64 a,.int .i64 b]) (.agg #[.int .i64 c,.int .i64 d])).run Tryz.prog w= .ok (.bool (decide (a=c)&&decide (b=d))) w:=
 VK (by kernel_rfl) (by kernel_rfl) (by kernel_rfl) a b c d w
def MI(a b:Ent):Bool:=decide (a.n=b.n)&&decide (a.gen=b.gen)
theorem MH(a b:Ent):MI a b=decide (a=b):=by
 obtain⟨n,g⟩:=a;obtain⟨n',g'⟩:=b;rw[Bool.eq_iff_iff];simp[MI]
def Ao(l:List Int)(n:Int):Int:=if n<1 then 0 else match l with|[]=>0|x::_=>x%n
def Ae(l:List Int)(n:Int):List Int:=if n<1 then l else l.tail
theorem Af(l:List Int){n:Int}(h:1<=n):0<=Ao l n/\Ao l n<n:=by
 unfold Ao;rw[if_neg (by omega)];split
 ·omega
 ·rename_i x _
  exact⟨Int.emod_nonneg x (by omega),Int.emod_lt_of_pos x (by omega)⟩
def Dy(k:Nat):List UInt8:=match k with
 |0=>[115,112,111,116]
 |1=>[108,105,102,101]
 |2=>[116,101,97,109]
 |_=>[103,111,97,108]
def Ce(k:Nat):List UInt8:=match k with
 |0=>[120]
 |1=>[121]
 |_=>[122]
def CX(i:Nat)(l:List Int):Field×List Int:=
 if Ao (Ae (Ae l 9) 40) 8=7 then(⟨Ce i,32,-2147483648⟩,Ae (Ae (Ae l 9) 40) 8)
 else(⟨Ce i,1+Ao l 9,Ao (Ae l 9) 40-30⟩,Ae (Ae (Ae l 9) 40) 8)
def Bb:Nat->Nat->List Int->List Field×List Int
 |_,0,l=>([],l)
 |i,c+1,l=>((CX i l).1::(Bb (i+1) c (CX i l).2).1,(Bb (i+1) c (CX i l).2).2)
def DO(k:Nat)(l:List Int):Kind×List Int:=
 (⟨Dy k,(Bb 0 (1+Ao l 3).toNat (Ae l 3)).1⟩,(Bb 0 (1+Ao l 3).toNat (Ae l 3)).2)
def BG:Nat->Nat->List Int->List Kind×List Int
 |_,0,l=>([],l)
 |k,c+1,l=>((DO k l).1::(BG (k+1) c (DO k l).2).1,(BG (k+1) c (DO k l).2).2)
def As(l:List Int):List Kind×List Int:=BG 0 (1+Ao l 4).toNat (Ae l 4)
theorem T8(x n:Int)(hn:1<=n)(h2:n<=4611686018427387904):PS Tryz.prog 67 [iA x,iA n] (iA (x%n)):=by
 refine Sp (nt:=14) (res:=[.tmp 4]) Tryz.func67 λSf=>?_
 have h3:x.tmod n<n:=Int.tmod_lt_of_pos _ (by omega)
 have h4: -n<x.tmod n:=by
  have:=Int.lt_tmod_of_pos x (b:=n) (by omega);exact this
 have h5:x.tmod n=x%n\/x.tmod n+n=x%n/\x.tmod n<0:=by
  rw[Int.tmod_eq_emod];split
  ·exact .inl (by simp)
  ·have:=Int.emod_nonneg x (b:=n) (by omega)
   have:=Int.emod_lt_of_pos x (b:=n) (by omega);refine .inr ?_;have:((n.natAbs:Nat):Int)=n:=by omega
   omega
 have h6:=Int.emod_nonneg x (b:=n) (by omega)
 (iterate 8 refine WK ?_);refine AOps.gN ?_;refine AOps.p (W.rem rfl rfl (by omega)) rfl ?_;refine KK ?_
 refine AWP.cond rfl (λhb=>?_) (λhb=>?_)
 ·have hb:x.tmod n<0:=by simpa using hb
  refine JA ?_;exact BE rfl rfl (by exact Sub.f) ⟨by rw[show x.tmod n+n=x%n from by omega],rfl⟩
 ·have hb:¬x.tmod n<0:=by simpa using hb
  refine JA ?_;exact BE rfl rfl (by exact Sub.f) ⟨by rw[show x.tmod n=x%n from by omega],rfl⟩
abbrev Bd(l:List Int):AO:=.row 112 1 [.agg [AM false l]]
theorem CP(X:Nat)(l:List Int)(n:Int)(h2:n<=4611686018427387904):PO Tryz.prog 52 [.ptr X 0 0,iA n] X (Bd l) (iA (Ao l n)) (Bd (Ae l n)):=by
 refine Sp (nt:=33) (res:=[.tmp 4]) Tryz.func52 λSf=>?_
 refine KK ?_;refine AWP.cond rfl (λhb=>?_) (λhb=>?_)
 ·refine KK ?_
  refine RT ?_;have hb:l.length=0\/n<1:=by simp only[Bool.or_eq_true,AE,AB]at hb;omega
  have e1:Ao l n=0:=by
   unfold Ao;split
   ·rfl
   ·rcases hb with hb|hb
    ·rw[List.length_eq_zero_iff.1 hb]
    ·omega
  have e2:Ae l n=l:=by
   unfold Ae;split
   ·rfl
   ·rcases hb with hb|hb
    ·rw[List.length_eq_zero_iff.1 hb];rfl
    ·omega
  rw[e1,e2];exact Gc rfl rfl (by exact Sub.f) ⟨rfl,rfl⟩
 ·have hb:l.length≠0/\1<=n:=by simp only[Bool.or_eq_false_iff,AN,AB]at hb;omega
  obtain⟨hb,hn⟩:=hb;cases l with
  |nil=>exact absurd rfl hb
  |cons x l=>
  (repeat first|(refine AOps.gN ?_;first|refine AOps.p (W.idxL rfl rfl (a:=0) rfl rfl) rfl ?_|refine AOps.p (W.loL rfl rfl (a:=1) rfl (by simp)) rfl ?_|refine AOps.p (W.call2 rfl rfl (T8 _ _ hn h2) rfl) rfl ?_)|refine WK ?_|refine Ai λX=>?_|refine Ay λY=>?_);refine RT ?_;rw[show Ao (x::l) n=x%n from by unfold Ao;rw[if_neg (by omega)],show Ae (x::l) n=l from by unfold Ae;rw[if_neg (by omega)];rfl];exact Gc (S':=[(X,Bd l)]) rfl rfl (by exact Sub.f) ⟨rfl,rfl⟩
def fAt:Nat->List Int->List Field×List Int
 |0,l=>([],l)
 |i+1,l=>((fAt i l).1++[(CX i (fAt i l).2).1],(CX i (fAt i l).2).2)
def kAt:Nat->List Int->List Kind×List Int
 |0,l=>([],l)
 |i+1,l=>((kAt i l).1++[(DO i (kAt i l).2).1],(DO i (kAt i l).2).2)
theorem Q3(i:Nat)(l:List Int):(fAt i l).1.length=i:=by
 induction i with
 |zero=>rfl
 |succ i ih=>simp[fAt,ih]
theorem Qy(i:Nat)(l:List Int):(kAt i l).1.length=i:=by
 induction i with
 |zero=>rfl
 |succ i ih=>simp[kAt,ih]
theorem VH(c i:Nat)(l:List Int):((fAt i l).1++(Bb i c (fAt i l).2).1,(Bb i c (fAt i l).2).2)=fAt (i+c) l:=by
 induction c generalizing i with
 |zero=>simp[Bb]
 |succ c ih=>
  rw[show i+(c+1)=(i+1)+c from by omega,<-ih (i+1)];simp[Bb,fAt]
theorem U2(c i:Nat)(l:List Int):((kAt i l).1++(BG i c (kAt i l).2).1,(BG i c (kAt i l).2).2)=kAt (i+c) l:=by
 induction c generalizing i with
 |zero=>simp[BG]
 |succ c ih=>
  rw[show i+(c+1)=(i+1)+c from by omega,<-ih (i+1)];simp[BG,kAt]
theorem Fz(c:Nat)(l:List Int):Bb 0 c l=fAt c l:=by
 have:=VH c 0 l;simpa[fAt]using this
theorem ET(l:List Int):As l=kAt (1+Ao l 4).toNat (Ae l 4):=by
 have:=U2 (1+Ao l 4).toNat 0 (Ae l 4);simpa[kAt,As]using this
theorem Rx{i:Nat}(h:i<4):[sA [115,112,111,116],sA [108,105,102,101],sA [116,101,97,109],sA [103,111,97,108]][i]?=some (sA (Dy i)):=by
 have:i=0\/i=1\/i=2\/i=3:=by omega
 rcases this with rfl|rfl|rfl|rfl<;>rfl
theorem SD{i:Nat}(h:i<3):[sA [120],sA [121],sA [122]][i]?=some (sA (Ce i)):=by
 have:i=0\/i=1\/i=2:=by omega
 rcases this with rfl|rfl|rfl<;>rfl
theorem TN(G:Nat)(l:List Int):PO Tryz.prog 51 [.ptr G 0 0] G (Bd l) (Ag true false (As l).1) (Bd (As l).2):=by
 refine Sp (nt:=55) (res:=[.tmp 2]) Tryz.func51 λSf=>?_
 have h0:=Af l (n:=4) (by decide);refine KK ?_;refine AOps.g_callf ?_;refine AOps.o2 (h:=(CP G _ _ (by decide))) (k:=?_);refine KK ?_;refine AWP.adopt (d:=3) 118 2 rfl λK=>?_
 obtain⟨c,hc⟩:∃c:Nat,1+Ao l 4=c:=⟨(1+Ao l 4).toNat,by omega⟩;obtain⟨l0,hl0⟩:=nm (Ae l 4);have hg:As l=kAt c l0:=by rw[ET,hl0,show(1+Ao l 4).toNat=c from by omega]
 rw[hg,hl0,hc];have hc4:1<=c/\c<=4:=by omega
 clear hg hl0 hc h0;refine Gy (λ(i K:Nat) (M:List AV) (q:List Int)=>⟨[(0,.ptr G 0 0),(3,.sl K 0 i),(10,iA c),(11,iA i)],(K,.row 118 2 M)::(G,Bd q)::Sf⟩) (λi _ M q=>i<=c/\M=(kAt i l0).1.map (A7 false)/\M.length=i/\q=(kAt i l0).2) (λi _ _ _=>c-i) 0 K [] l0 ⟨Nat.zero_le _,rfl,rfl,rfl⟩ ?_;rintro i K M q ⟨hi,hM,hMl,hq⟩;refine KK ?_;refine AWP.cond rfl (λhb=>?_) (λhb=>?_)
 ·have h:i<c:=by rw[AE]at hb;omega
  have h4:i<4:=by omega
  have h3:=Af q (n:=3) (by decide);have hkn:=Rx h4;refine KK ?_;refine Ai λY=>?_;refine KK ?_;refine AOps.g_callf ?_;refine AOps.o2 (h:=(CP G _ _ (by decide))) (k:=?_);refine KK ?_
  refine AWP.adoptIn (Y:=Y) 120 3 .here (λF=>.cons (.agg (.cons .same (.cons (.base .nil) .nil))) .nil) λF=>?_
  obtain⟨l1,hl1⟩:=nm (Ae q 3);obtain⟨c1,hc1⟩:∃c1:Nat,1+Ao q 3=c1:=⟨(1+Ao q 3).toNat,by omega⟩
  have hgk:kAt (i+1) l0=((kAt i l0).1++[⟨Dy i,(fAt c1 l1).1⟩],(fAt c1 l1).2):=by
   rw[kAt,<-hq,DO,Fz,show(1+Ao q 3).toNat=c1 from by omega,hl1]
  rw[hl1,hc1];have hc13:c1<=3:=by omega
  refine Gy (λ(j F:Nat) (L:List AV) (r:List Int)=>⟨[(0,.ptr G 0 0),(3,.sl K 0 i),(5,.ptr Y 0 0),(10,iA c),(11,iA i),(21,iA c1),(22,iA j)],(F,.row 120 3 L)::(Y,.row 118 2 [.agg [sA (Dy i),.sl F 0 j]])::(K,.row 118 2 M)::(G,Bd r)::Sf⟩) (λj _ L r=>j<=c1/\L=(fAt j l1).1.map fieldA/\L.length=j/\r=(fAt j l1).2) (λj _ _ _=>c1-j) 0 F [] l1 ⟨Nat.zero_le _,rfl,rfl,rfl⟩ ?_;rintro j F L r ⟨hj,hL,hLl,hr⟩;refine KK ?_;refine AWP.cond rfl (λhd=>?_) (λhd=>?_)
  ·have hj':j<c1:=by rw[AE]at hd;omega
   have h9:=Af r (n:=9) (by decide);have h40:=Af (Ae r 9) (n:=40) (by decide);have hfn:=SD (i:=j) (by omega);refine KK ?_;refine AWP.rs λX7=>?_
   refine JM ?_;refine RGo.g_callf ?_;refine RGo.o2 (h:=(CP G _ _ (by decide))) (k:=?_);(iterate 4 refine RK ?_);refine RGo.nil (by kernel_rfl) ?_;(repeat first|(refine AOps.gN ?_;first|(refine AOps.g_callf ?_;first|refine AOps.o2 (h:=(CP G _ _ (by decide))) (k:=?_)))|refine WK ?_|refine Ai λX=>?_|refine Ay λY=>?_);refine AWP.cond rfl (λhe=>?_) (λhe=>?_)
   ·have he:Ao (Ae (Ae r 9) 40) 8=7:=by simpa using he
    have hg:CX j r=(⟨Ce j,32,-2147483648⟩,Ae (Ae (Ae r 9) 40) 8):=by rw[CX,if_pos he]
    (iterate 11 refine WK ?_);refine AOps.g_lit ?_;refine AOps.goL (fieldA ⟨Ce j,32,-2147483648⟩) ?_;refine WK ?_;refine Ay λY=>?_;refine KK ?_
    refine ER (j+1) Y _ _ ⟨hj',?_,?_,?_⟩
    ·rw[fAt,<-hr,hg,hL,List.map_append];rfl
    ·rw[AP,hLl];rfl
    ·rw[fAt,<-hr,hg]
   ·have he:Ao (Ae (Ae r 9) 40) 8≠7:=by simpa using he
    have hg:CX j r=(⟨Ce j,1+Ao r 9,Ao (Ae r 9) 40-30⟩,Ae (Ae (Ae r 9) 40) 8):=by rw[CX,if_neg he]
    (iterate 6 refine WK ?_);refine AOps.g_lit ?_;refine AOps.goL (fieldA ⟨Ce j,1+Ao r 9,Ao (Ae r 9) 40-30⟩) ?_;refine WK ?_;refine Ay λY=>?_;refine KK ?_
    refine ER (j+1) Y _ _ ⟨hj',?_,?_,?_⟩
    ·rw[fAt,<-hr,hg,hL,List.map_append];rfl
    ·rw[AP,hLl];rfl
    ·rw[fAt,<-hr,hg]
  ·have hj':j=c1:=by rw[AN]at hd;omega
   subst hj';refine FL ?_;refine AWP.iceIn (X:=F) (Y:=Y) .here (.next .here) rfl (.cons (.agg (.cons .same (.cons (.base (.sl (by omega))) .nil))) .nil) ?_
   have hF:AV.frzs ((L.drop 0).take j)=(fAt j l1).1.map fieldA:=by
    rw[List.drop_zero,List.take_of_length_le (by omega),hL];exact Frzs.h
   rw[hF]
   (iterate 3 refine WK ?_);refine AOps.g_lit ?_;refine AOps.goL (A7 false ⟨Dy i,(fAt j l1).1⟩) ?_;refine WK ?_;refine Ay λY=>?_;refine KK ?_
   refine ER (i+1) Y _ _ ⟨h,?_,?_,?_⟩
   ·rw[hgk,hM,List.map_append];rfl
   ·rw[AP,hMl];rfl
   ·rw[hgk,hr]
 ·have h:i=c:=by rw[AN]at hb;omega
  subst h;refine JA ?_;subst hM hq;refine⟨[.sl K 0 i],[.lst true 118 2 ((kAt i l0).1.map (A7 false))],_,[(G,Bd (kAt i l0).2)],.cons (.tmp rfl) rfl .nil,.cons (.cell (.sl (p:=0) .here (by rw[AB,Qy]))) .nil,by exact Sub.f,rfl,rfl⟩
def Wi(c:UInt8):Bool:=decide (97<=c)&&decide (c<=122)
def Wo(c:UInt8):Bool:=decide (48<=c)&&decide (c<=57)
def Ox(l:List UInt8)(j:Nat):Bool:=Wi (l.getD j 0)||(decide (0<j)&&Wo (l.getD j 0))
def Cv(l:List UInt8):Bool:=decide (0<l.length)&&decide (l.length<=16)&&(List.range l.length).all (Ox l)
def Au(f:Field):Int:=if Cv f.name&&decide (1<=f.bits)&&decide (f.bits<=32)&&decide (-4294967296<=f.low)&&decide (f.low<=4294967296)then 0 else 3
def Bk:List Field->List Field->Int
 |_,[]=>0
 |pre,f::fs=>if Au f≠0 then Au f else if pre.any (λo=>o.name==f.name)then 5 else Bk (pre++[f]) fs
def BZ(k:Kind):Int:=if Cv k.name then(if 8<k.fields.length then 2 else Bk [] k.fields)else 3
def DF(l:List Kind)(name:List UInt8):Int:=
 match l.findIdx? (λk=>k.name==name)with
 |some i=>i
 |none=>-1
def By:List Kind->List Kind->Int
 |_,[]=>0
 |pre,k::ks=>if BZ k≠0 then BZ k else if pre.any (λo=>o.name==k.name)then 5 else By (pre++[k]) ks
def Al(l:List Kind):Int:=if 16<l.length then 2 else By [] l
def EC(f:Field):Int:=if Au f=0 then f.low+(2^f.bits.toNat-1)else 0
def BU(f:Field)(v:Int):Int:=if Au f=0 then max f.low (min v (EC f))else 0
def BY(k:Kind)(vals:List Int):List Int×Int:=
 if BZ k≠0 then([],BZ k)else if vals.length≠k.fields.length then([],1)else(List.zipWith BU k.fields vals,0)
def Bv(k:Kind)(vals:List Int):Bool:=decide ((BY k vals).2=0)&&decide ((BY k vals).1=vals)
theorem HH{l:List Kind}{name:List UInt8}(h:∀j (hj:j<l.length),l[j].name≠name):DF l name= -1:=by
 have:l.findIdx? (λk=>k.name==name)=none:=by
  rw[List.findIdx?_eq_none_iff];intro x hx;obtain⟨j,hj,rfl⟩:=List.getElem_of_mem hx;simpa using h j hj
 simp[DF,this]
theorem Ly{l:List Kind}{name:List UInt8}{i:Nat}(hi:i<l.length)(e:l[i].name=name)(h:∀j (hj:j<i),(l[j]'(by omega)).name≠name):DF l name=i:=by
 have:l.findIdx? (λk=>k.name==name)=some i:=by
  rw[List.findIdx?_eq_some_iff_getElem];refine⟨hi,by simpa using e,λj hj=>?_⟩;simpa using h j hj
 simp[DF,this]
theorem NP{pre:List Kind}{k:Kind}{ks:List Kind}(h:BZ k≠0):By pre (k::ks)=BZ k:=by
 simp[By,h]
theorem Kh{pre:List Kind}{k:Kind}{ks:List Kind}(h:BZ k=0)(hf:0<=DF pre k.name):By pre (k::ks)=5:=by
 have:pre.any (λo=>o.name==k.name)=true:=by
  rcases hc:pre.any (λo=>o.name==k.name)with _|_
  ·exfalso
   rw[List.any_eq_false]at hc;rw[HH (λj hj=>by simpa using hc _ (AU hj))]at hf;omega
  ·rfl
 simp[By,h,this]
theorem Lq{pre:List Kind}{k:Kind}{ks:List Kind}(h:BZ k=0)(hf:DF pre k.name<0):By pre (k::ks)=By (pre++[k]) ks:=by
 have:pre.any (λo=>o.name==k.name)=false:=by
  rcases hc:pre.any (λo=>o.name==k.name)with _|_
  ·rfl
  ·exfalso
   rw[List.any_eq_true]at hc;obtain⟨x,hx,e⟩:=hc;unfold DF at hf;split at hf
   ·omega
   ·rename_i hn
    rw[List.findIdx?_eq_none_iff]at hn;exact absurd e (by simpa using hn x hx)
 simp[By,h,this]
theorem GS{l:List Kind}{i:Nat}(hi:i<l.length):By (l.take i) (l.drop i)=By (l.take i) (l[i]::l.drop (i+1)):=by
 rw[CG hi]
theorem NO{l:List Kind}{i:Nat}(hi:l.length<=i):By (l.take i) (l.drop i)=0:=by
 rw[List.drop_of_length_le hi];rfl
theorem JQ(f:Field)(h:Cv f.name=true)(hb:1<=f.bits/\f.bits<=32/\ -4294967296<=f.low/\f.low<=4294967296):Au f=0:=by
 simp[Au,h,hb]
theorem Og(f:Field)(h:Cv f.name=true->¬(1<=f.bits/\f.bits<=32/\ -4294967296<=f.low/\f.low<=4294967296)):Au f=3:=by
 unfold Au;rw[if_neg];simp only[Bool.and_eq_true,AE];intro hc;exact h hc.1.1.1.1 ⟨hc.1.1.1.2,hc.1.1.2,hc.1.2,hc.2⟩
theorem EF(f:Field):Au f=0↔Cv f.name=true/\1<=f.bits/\f.bits<=32/\ -4294967296<=f.low/\f.low<=4294967296:=by
 constructor
 ·intro h
  unfold Au at h;split at h
  ·rename_i hc
   simpa[and_assoc]using hc
  ·simp at h
 ·rintro⟨h,hb⟩
  exact JQ f h hb
theorem LC(f:Field):Au f=0\/Au f=3:=by
 unfold Au;split<;>simp
theorem L0{pre:List Field}{f:Field}{fs:List Field}(h:Au f≠0):Bk pre (f::fs)=Au f:=by
 simp[Bk,h]
theorem Jg{pre:List Field}{f:Field}{fs:List Field}(h:Au f=0){j:Nat}(hj:j<pre.length)(e:pre[j].name=f.name):Bk pre (f::fs)=5:=by
 have:pre.any (λo=>o.name==f.name)=true:=by
  rw[List.any_eq_true];exact⟨pre[j],AU hj,by simp[e]⟩
 simp[Bk,h,this]
theorem LA{pre:List Field}{f:Field}{fs:List Field}(h:Au f=0)(e:∀j (hj:j<pre.length),pre[j].name≠f.name):Bk pre (f::fs)=Bk (pre++[f]) fs:=by
 have:pre.any (λo=>o.name==f.name)=false:=by
  rw[List.any_eq_false];intro x hx;obtain⟨j,hj,rfl⟩:=List.getElem_of_mem hx;simpa using e j hj
 simp[Bk,h,this]
theorem F5{l:List Field}{i:Nat}(hi:i<l.length):Bk (l.take i) (l.drop i)=Bk (l.take i) (l[i]::l.drop (i+1)):=by
 rw[CG hi]
theorem Lz{l:List Field}{i:Nat}(hi:l.length<=i):Bk (l.take i) (l.drop i)=0:=by
 rw[List.drop_of_length_le hi];rfl
theorem Ro(l:List UInt8)(j:Nat)(hj:j<l.length)(h:Ox l j=false):Cv l=false:=by
 have:(List.range l.length).all (Ox l)=false:=by
  rw[List.all_eq_false];exact⟨j,List.mem_range.2 hj,by simp[h]⟩
 simp[Cv,this]
theorem Pp(l:List UInt8)(h0:0<l.length)(h1:l.length<=16)(h:∀j,j<l.length->Ox l j=true):Cv l=true:=by
 have:(List.range l.length).all (Ox l)=true:=by
  rw[List.all_eq_true];intro x hx;exact h x (List.mem_range.1 hx)
 simp[Cv,this,h0,h1]
theorem OG(l:List UInt8)(h:l.length=0\/16<l.length):Cv l=false:=by
 rcases h with h|h
 ·simp[Cv,h]
 ·simp[Cv,show¬l.length<=16 from by omega]
theorem S6{b:Int}(h1:1<=b)(h2:b<=32):(2:Int)<=2^b.toNat/\(2:Int)^b.toNat<=4294967296:=by
 obtain⟨n,rfl⟩:∃n:Nat,b=n:=⟨b.toNat,by omega⟩;rw[Int.toNat_natCast];have h:n=1\/n=2\/n=3\/n=4\/n=5\/n=6\/n=7\/n=8\/n=9\/n=10\/n=11\/n=12\/n=13\/n=14\/n=15\/n=16\/n=17\/n=18\/n=19\/n=20\/n=21\/n=22\/n=23\/n=24\/n=25\/n=26\/n=27\/n=28\/n=29\/n=30\/n=31\/n=32:=by omega
 rcases h with rfl|rfl|rfl|rfl|rfl|rfl|rfl|rfl|rfl|rfl|rfl|rfl|rfl|rfl|rfl|rfl|rfl|rfl|rfl|rfl|rfl|rfl|rfl|rfl|rfl|rfl|rfl|rfl|rfl|rfl|rfl|rfl<;>decide
theorem R7{f:Field}(h:Au f=0):EC f=f.low+(2^f.bits.toNat-1):=by simp[EC,h]
theorem MW{f:Field}(h:Au f=0):f.low<EC f/\EC f<=8589934592:=by
 have hb:=(EF f).1 h;have:=S6 hb.2.1 hb.2.2.1;rw[R7 h];omega
theorem NF(f:Field)(v:Int): -4294967296<=BU f v/\BU f v<=8589934592:=by
 rcases LC f with h|h
 ·have:=MW h
  have hb:=(EF f).1 h;simp only[BU,h,if_true];omega
 ·simp[BU,h]
theorem K8{pre l:List Field}(h:Bk pre l=0):∀f∈l,Au f=0:=by
 induction l generalizing pre with
 |nil=>intro f hf;cases hf
 |cons x l ih=>
  intro f hf;simp only[Bk]at h;split at h
  ·rename_i hx;exact absurd h hx
  ·rename_i hx
   split at h
   ·simp at h
   ·rcases List.mem_cons.1 hf with rfl|hf
    ·simpa using hx
    ·exact ih h f hf
theorem Dn{k:Kind}(h:BZ k=0):Cv k.name=true/\k.fields.length<=8/\∀f∈k.fields,Au f=0:=by
 unfold BZ at h;split at h
 ·rename_i h1
  split at h
  ·simp at h
  ·rename_i h2
   exact⟨h1,by omega,K8 h⟩
 ·simp at h
def T9:Kind:=⟨[108,105,102,101],[⟨[120],8,0⟩]⟩
def baseWd:Wd:=⟨[T9],[0],[⟨⟨0,0⟩,[⟨0,[9]⟩]⟩]⟩
theorem Gu(a b:List Int)(hl:a.length<=1099511627776):PS Tryz.prog 34 [AM false a,AM false b] (bA (decide (a=b))):=by
 refine Sp (nt:=26) (res:=[.tmp 4]) Tryz.func34 λSf=>?_
 refine KK ?_;refine AWP.cond rfl (λhb=>?_) (λhb=>?_)
 ·have hb:a.length≠b.length:=by simp at hb;omega
  refine JA ?_;refine AF ?_;rw[AK λe=>hb (by rw[e])]
 ·have hb:a.length=b.length:=by simp at hb;omega
  refine KK ?_;refine Az (λi:Nat=>⟨[(0,AM false a),(1,AM false b),(12,iA (a.map iA).length),(13,iA i)],Sf⟩) (λi=>i<=a.length/\∀j (h:j<a.length),j<i->a[j]=b[j]'(by omega)) (λi=>a.length-i) 0 ⟨Nat.zero_le _,λj h hj=>absurd hj (by omega)⟩ ?_;rintro i ⟨hi,he⟩;refine KK ?_;refine AWP.cond rfl (λhc=>?_) (λhc=>?_)
  ·have h:i<a.length:=by simpa using hc
   have h':i<b.length:=by omega
   refine KK ?_;refine RU ?_;(iterate 9 refine RK ?_);refine RGo.nil (by kernel_rfl) ?_;refine WK ?_;refine AWP.cond rfl (λhd=>?_) (λhd=>?_)
   ·have hd:a[i]≠b[i]:=by simpa using hd
    refine JA ?_;refine AF ?_;rw[AK λe=>hd (by subst e;rfl)]
   ·have hd:a[i]=b[i]:=by simpa using hd
    refine KK ?_;refine Ab (i+1) ⟨h,λj h1 h2=>?_⟩;by_cases e:j=i
    ·subst e;exact hd
    ·exact he j h1 (by omega)
  ·have h:¬i<a.length:=by simpa using hc
   refine JA ?_;refine AF ?_;rw[Ah (List.ext_getElem hb λj h1 h2=>he j h1 (by omega))]
def eqF{α:Type}(p:α->α->Bool):List α->List α->Bool
 |[],[]=>true
 |x::xs,y::ys=>p x y&&eqF p xs ys
 |_,_=>false
theorem IC{α:Type}{p:α->α->Bool}:{a b:List α}->a.length≠b.length->eqF p a b=false
 |[],[],h=>absurd rfl h
 |[],_::_,_=>rfl
 |_::_,[],_=>rfl
 |x::xs,y::ys,h=>by rw[eqF,IC (by simpa using h),Bool.and_false]
theorem LE{α:Type}{p:α->α->Bool}:{a b:List α}->(hl:a.length=b.length)->{i:Nat}->(h:i<a.length)->p a[i] (b[i]'(by omega))=false->eqF p a b=false
 |[],_,_,_,h,_=>absurd h (by simp)
 |x::xs,[],hl,_,_,_=>by simp at hl
 |x::xs,y::ys,hl,0,h,hp=>by rw[eqF,show p x y=false from hp,Bool.false_and]
 |x::xs,y::ys,hl,i+1,h,hp=>by
  rw[eqF,LE (a:=xs) (b:=ys) (by simpa using hl) (i:=i) (by simpa using h) hp,Bool.and_false]
theorem IB{α:Type}{p:α->α->Bool}:{a b:List α}->(hl:a.length=b.length)->(∀i (h:i<a.length),p a[i] (b[i]'(by omega))=true)->eqF p a b=true
 |[],[],_,_=>rfl
 |[],_::_,hl,_=>by simp at hl
 |x::xs,[],hl,_=>by simp at hl
 |x::xs,y::ys,hl,h=>by
  rw[eqF,show p x y=true from h 0 (by simp),IB (a:=xs) (b:=ys) (by simpa using hl) λi hi=>h (i+1) (by simpa using hi)];rfl
theorem Hi{α:Type}{p:α->α->Bool}[DecidableEq α]:{a b:List α}->(∀x∈a,∀y∈b,p x y=decide (x=y))->eqF p a b=decide (a=b)
 |[],[],_=>rfl
 |[],_::_,_=>rfl
 |_::_,[],_=>rfl
 |x::xs,y::ys,h=>by
  rw[eqF,h x (by simp) y (by simp),Hi λu hu v hv=>h u (by simp[hu]) v (by simp[hv])];by_cases e:x=y<;>by_cases e2:xs=ys<;>simp[e,e2]
theorem HI(a b:List Comp)(f:FuncId)(cap:List AV)(p:Comp->Comp->Bool)(hs:B6 cap=true)(hl:a.length<=4611686018427387904)(hf:∀x∈a,∀y∈b,PS Tryz.prog f ((AG false) x::(AG false) y::cap) (bA (p x y))):
  PS Tryz.prog 109 [.lst false 42 2 (a.map (AG false)),.lst false 42 2 (b.map (AG false)),.fn f cap] (bA (eqF p a b)):=by
 refine Sp (nt:=32) (res:=[.tmp 6]) Tryz.func109 λSf=>?_
 refine KK ?_;refine AWP.cond rfl (λhb=>?_) (λhb=>?_)
 ·have hb:a.length≠b.length:=by simp at hb;omega
  refine JA ?_;refine AF ?_;rw[IC hb]
 ·have hb:a.length=b.length:=by simp at hb;omega
  refine KK ?_;refine Az (λi:Nat=>⟨[(0,.lst false 42 2 (a.map (AG false))),(1,.lst false 42 2 (b.map (AG false))),(2,.fn f cap),(15,.lst false 42 2 (a.map (AG false))),(16,iA (a.map (AG false)).length),(17,iA i)],Sf⟩) (λi=>i<=a.length/\∀j (h:j<a.length),j<i->p a[j] (b[j]'(by omega))=true) (λi=>a.length-i) 0 ⟨Nat.zero_le _,λj h hj=>absurd hj (by omega)⟩ ?_;rintro i ⟨hi,he⟩;refine KK ?_;refine AWP.cond rfl (λhc=>?_) (λhc=>?_)
  ·have h:i<a.length:=by simpa using hc
   have h':i<b.length:=by omega
   refine KK ?_;refine Ai λX=>?_;refine KK ?_;refine Ai λX=>?_;refine KK ?_;refine AOps.g_callv ?_;refine AOps.k2 (h:=(hf _ (AU h) _ (AU h'))) (k:=?_);refine KK ?_
   refine AWP.cond rfl (λhd=>?_) (λhd=>?_)
   ·have hd:p a[i] b[i]=false:=by simpa using hd
    refine JA ?_;refine AF ?_;rw[LE hb h hd]
   ·have hd:p a[i] b[i]=true:=by simpa using hd
    refine KK ?_;refine Ab (i+1) ⟨h,λj h1 h2=>?_⟩;by_cases e:j=i
    ·subst e;exact hd
    ·exact he j h1 (by omega)
  ·have h:¬i<a.length:=by simpa using hc
   refine JA ?_;refine AF ?_;rw[IB hb λj hj=>he j hj (by omega)]
theorem L3(a b:List Item)(f:FuncId)(cap:List AV)(p:Item->Item->Bool)(hs:B6 cap=true)(hl:a.length<=4611686018427387904)(hf:∀x∈a,∀y∈b,PS Tryz.prog f ((AD false) x::(AD false) y::cap) (bA (p x y))):
  PS Tryz.prog 107 [.lst false 71 3 (a.map (AD false)),.lst false 71 3 (b.map (AD false)),.fn f cap] (bA (eqF p a b)):=by
 refine Sp (nt:=32) (res:=[.tmp 6]) Tryz.func107 λSf=>?_
 refine KK ?_;refine AWP.cond rfl (λhb=>?_) (λhb=>?_)
 ·have hb:a.length≠b.length:=by simp at hb;omega
  refine JA ?_;refine AF ?_;rw[IC hb]
 ·have hb:a.length=b.length:=by simp at hb;omega
  refine KK ?_;refine Az (λi:Nat=>⟨[(0,.lst false 71 3 (a.map (AD false))),(1,.lst false 71 3 (b.map (AD false))),(2,.fn f cap),(15,.lst false 71 3 (a.map (AD false))),(16,iA (a.map (AD false)).length),(17,iA i)],Sf⟩) (λi=>i<=a.length/\∀j (h:j<a.length),j<i->p a[j] (b[j]'(by omega))=true) (λi=>a.length-i) 0 ⟨Nat.zero_le _,λj h hj=>absurd hj (by omega)⟩ ?_;rintro i ⟨hi,he⟩;refine KK ?_;refine AWP.cond rfl (λhc=>?_) (λhc=>?_)
  ·have h:i<a.length:=by simpa using hc
   have h':i<b.length:=by omega
   refine KK ?_;refine Ai λX=>?_;refine KK ?_;refine Ai λX=>?_;refine KK ?_;refine AOps.g_callv ?_;refine AOps.k2 (h:=(hf _ (AU h) _ (AU h'))) (k:=?_);refine KK ?_
   refine AWP.cond rfl (λhd=>?_) (λhd=>?_)
   ·have hd:p a[i] b[i]=false:=by simpa using hd
    refine JA ?_;refine AF ?_;rw[LE hb h hd]
   ·have hd:p a[i] b[i]=true:=by simpa using hd
    refine KK ?_;refine Ab (i+1) ⟨h,λj h1 h2=>?_⟩;by_cases e:j=i
    ·subst e;exact hd
    ·exact he j h1 (by omega)
  ·have h:¬i<a.length:=by simpa using hc
   refine JA ?_;refine AF ?_;rw[IB hb λj hj=>he j hj (by omega)]
theorem Tp(f g:Field)(w:World):(binOp .neq 120 (.agg [DK f.name,.int .i64 f.bits,.int .i64 f.low].toArray) (.agg [DK g.name,.int .i64 g.bits,.int .i64 g.low].toArray)).run Tryz.prog w= .ok (.bool (decide (f≠g))) w:=by
 have h:=Ts (P:=Tryz.prog) (t:=120) (by kernel_rfl) (by kernel_rfl) (by kernel_rfl) ⟨f.name.toArray⟩ ⟨g.name.toArray⟩ f.bits f.low g.bits g.low w;rw[run_neq_struct];have e:(Op.equalIn 10000 120 (.agg [DK f.name,.int .i64 f.bits,.int .i64 f.low].toArray) (.agg [DK g.name,.int .i64 g.bits,.int .i64 g.low].toArray)).run Tryz.prog w=_:=h;rw[e,Result.andThen_ok,Gh,Gh]
 have hd:(!(decide (f.name=g.name)&&decide (f.bits=g.bits)&&decide (f.low=g.low)))=decide (f≠g):=by
  obtain⟨n,b,l⟩:=f;obtain⟨n',b',l'⟩:=g;rw[Bool.eq_iff_iff];simp[or_assoc]
 rw[hd]
def KsL(ks:List Kind):Prop:=ks.length<=1099511627776/\∀k∈ks,k.fields.length<=1099511627776
def CsL(cs:List Comp):Prop:=cs.length<=1099511627776/\∀c∈cs,c.vals.length<=1099511627776
def ItL(l:List Item):Prop:=l.length<=1099511627776/\∀it∈l,CsL it.comps
structure WdL(w:Wd):Prop where
 ks:KsL w.kinds
 gens:w.gens.length<=1099511627776
 items:ItL w.items
theorem T4(x y:Comp):(decide (x.kind=y.kind)&&decide (x.vals=y.vals))=decide (x=y):=by
 obtain⟨k,v⟩:=x;obtain⟨k',v'⟩:=y;rw[Bool.eq_iff_iff];simp
theorem WD(x y:Item):(MI x.ent y.ent&&decide (x.comps=y.comps))=decide (x=y):=by
 rw[MH];obtain⟨k,v⟩:=x;obtain⟨k',v'⟩:=y;rw[Bool.eq_iff_iff];simp
theorem Ll(x y:Comp)(hl:x.vals.length<=1099511627776):PS Tryz.prog 189 [AG false x,AG false y] (bA (decide (x=y))):=by
 have heq:=Gu x.vals y.vals hl;rw[<-T4];refine Sp (nt:=17) (res:=[.tmp 4]) Tryz.func189 λSf=>?_
 refine RG ?_;refine AOps.g_box ?_;refine Ad ?_;refine AOps.g_box ?_;refine Ad ?_;refine JB ?_;rcases Bool.eq_false_or_eq_true (decide (x.kind=y.kind))with g|g
 ·rw[g]
  refine KK ?_;refine AOps.g_callf ?_;refine AOps.c2 (h:=(heq ..)) (k:=?_);refine JA ?_;refine AF ?_;rfl
 ·rw[g]
  refine JA ?_;refine AF ?_;rfl
theorem M9(a b:List Comp)(hl:CsL a):PS Tryz.prog 112 [Ax false false a,Ax false false b] (bA (decide (a=b))):=by
 have h:=HI a b 189 [] (λx y=>decide (x=y)) rfl (by have:=hl.1;omega) (λx hx y _=>Ll x y (hl.2 x hx));rw[Hi λ_ _ _ _=>rfl]at h;refine Sp (nt:=8) (res:=[.tmp 4]) Tryz.func112 λSf=>?_
 refine KK ?_;refine AOps.g_callf ?_;refine C5 (h:=(h ..)) (k:=?_);refine JA ?_;refine AF ?_;rfl
theorem W7(x y:Wd):(decide (x.kinds=y.kinds)&&decide (x.gens=y.gens)&&decide (x.items=y.items))=decide (x=y):=by
 obtain⟨k,v,u⟩:=x;obtain⟨k',v',u'⟩:=y;rw[Bool.eq_iff_iff];simp[and_assoc]
def GM(l:List Item)(n:Int):Bool:=l.any λit=>decide (it.ent.n=n)
def MY(w:Wd):Option Nat:=(List.range w.gens.length).find? λn=>!GM w.items n&&decide (w.gens.getD n 0<1073741824)
def Bg(w:Wd):Nat×Bool:=match MY w with
 |some n=>(n,true)
 |none=>(w.gens.length,decide ((w.gens.length:Int)<256))
theorem Ow(s:List UInt8)(i:Nat):Ox s i=(decide ((97:Int)<=(s.getD i 0).toNat)&&decide (((s.getD i 0).toNat:Int)<=122)||decide ((0:Int)<i)&&decide ((48:Int)<=(s.getD i 0).toNat)&&decide (((s.getD i 0).toNat:Int)<=57)):=by
 have h:∀a b:UInt8,decide (a<=b)=decide ((a.toNat:Int)<=b.toNat):=λa b=>by simp[UInt8.le_iff_toNat_le]
 have h0:decide (0<i)=decide ((0:Int)<i):=by simp
 simp only[Ox,Wi,Wo,h,h0,Bool.and_assoc];rfl
theorem NG(s:List UInt8):PS Tryz.prog 175 [sA s] (bA (Cv s)):=by
 refine Sp (nt:=41) (res:=[.tmp 2]) Tryz.func175 λSf=>?_
 refine KK ?_;refine AWP.cond rfl (λhb=>?_) (λhb=>?_)
 ·refine KK ?_
  refine RT ?_;refine BE rfl rfl (by exact Sub.f) ⟨?_,rfl⟩;rw[OG s (by simp only[Bool.or_eq_true,AE]at hb;omega)]
 have hb1:s.length≠0/\s.length<=16:=by simp only[Bool.or_eq_false_iff,AN]at hb;omega
 (iterate 9 refine WK ?_);refine CI (λi:Nat=>⟨[(0,sA s),(14,iA s.length),(15,iA i)],Sf⟩) (λi=>i<=s.length/\∀j,j<i->Ox s j=true) (λi=>s.length-i) 0 ⟨by omega,by omega⟩ ⟨.cons rfl (.cons rfl (.cons rfl .nil)),List.Sublist.refl _⟩ ?_
 rintro i ⟨hi,hn⟩;refine KK ?_;refine AWP.cond rfl (λhb=>?_) (λhb=>?_)
 ·have h:i<s.length:=by simpa using hb
  (iterate 12 refine WK ?_);refine AOps.gN ?_;refine AOps.p (W.idxStr rfl rfl rfl h) rfl ?_;refine KK ?_
  refine AWP.cond rfl (λhc=>?_) (λhc=>?_)
  ·refine KK ?_
   refine RT ?_;refine BE rfl rfl (by exact Sub.f) ⟨?_,rfl⟩;rw[<-Ow]at hc;rw[Ro s i h (by simpa using hc)]
  ·refine KK ?_
   refine⟨i+1,⟨by omega,λj hj=>?_⟩,by omega,.cons rfl (.cons rfl (.cons rfl .nil)),by exact Sub.f⟩;rw[<-Ow]at hc;by_cases e:j=i
   ·subst e;simpa using hc
   ·exact hn j (by omega)
 ·have h:¬i<s.length:=by simpa using hb
  refine JA ?_;refine BE rfl rfl (by exact Sub.f) ⟨?_,rfl⟩;rw[Pp s (by omega) hb1.2 λj hj=>hn j (by omega)]
theorem LB(f:Field):PS Tryz.prog 239 [fieldA f] (iA (Au f)):=by
 refine Sp (nt:=27) (res:=[.tmp 2]) Tryz.func239 λSf=>?_
 refine KK ?_;refine Ai λX=>?_;(iterate 7 refine WK ?_);refine AOps.gN ?_;refine AOps.p (W.call1 rfl (NG _) rfl) rfl ?_;refine KK ?_
 refine AWP.cond rfl (λhb=>?_) (λhb=>?_)
 ·refine KK ?_
  refine RT ?_;refine BE rfl rfl (by exact Sub.f) ⟨?_,rfl⟩;rw[Og f λhn hk=>?_];simp only[hn,Bool.not_true,Bool.false_or,Bool.or_eq_true,AE]at hb;omega
 ·refine KK ?_
  refine RT ?_;refine BE rfl rfl (by exact Sub.f) ⟨?_,rfl⟩;simp only[Bool.or_eq_false_iff,Bool.not_eq_false',AN]at hb;rw[JQ f hb.1.1.1.1 (by omega)]
theorem U6(f:Field):PS Tryz.prog 240 [fieldA f] (iA (EC f)):=by
 refine Sp (nt:=13) (res:=[.tmp 2]) Tryz.func240 λSf=>?_
 refine KK ?_;refine Ai λX=>?_;(iterate 6 refine WK ?_);refine AOps.gN ?_;refine AOps.p (W.call1 rfl (LB _) rfl) rfl ?_;refine KK ?_
 refine AWP.cond rfl (λhb=>?_) (λhb=>?_)
 ·have hb:Au f≠0:=by simpa using hb
  refine JA ?_;refine BE rfl rfl (by exact Sub.f) ⟨?_,rfl⟩;simp[EC,hb]
 have hb:Au f=0:=by simpa using hb
 have h1:=(EF f).1 hb;obtain⟨n,hn⟩:∃n:Nat,f.bits=n:=⟨f.bits.toNat,by omega⟩
 have hp:(2:Int)^n<=4294967296/\1<=(2:Int)^n:=by
  have hn2:n<=32:=by omega
  clear hn;have:∀n,n<=32->(2:Int)^n<=4294967296/\1<=(2:Int)^n:=by decide
  exact this n hn2
 have hw:IntKind.i64.wrap (1*2^n)=2^n:=by rw[Int.one_mul];exact Du (by omega) (by omega)
 refine KK ?_;refine RU ?_;(iterate 4 refine RK ?_);refine RGo.gN ?_;refine RGo.p (W.shl rfl rfl hn (by show n<=64;omega)) rfl ?_;refine RGo.gN ?_;refine RGo.p (W.sub rfl rfl (by rw[hw];omega)) rfl ?_;refine RGo.gN ?_;refine RGo.p (W.add rfl rfl (by rw[hw];omega)) rfl ?_;refine RK ?_;refine RGo.nil (by kernel_rfl) ?_;refine WK ?_;refine RT ?_;refine BE rfl rfl (by exact Sub.f) ⟨?_,rfl⟩;simp only[hw];simp[EC,hb,hn]
theorem Qs(f:Field)(v:Int):PS Tryz.prog 185 [fieldA f,iA v] (iA (BU f v)):=by
 refine Sp (nt:=15) (res:=[.tmp 4]) Tryz.func185 λSf=>?_
 refine KK ?_;refine Ai λX=>?_;(iterate 6 refine WK ?_);refine AOps.gN ?_;refine AOps.p (W.call1 rfl (LB _) rfl) rfl ?_;refine KK ?_
 refine AWP.cond rfl (λhb=>?_) (λhb=>?_)
 ·have hb:Au f≠0:=by simpa using hb
  refine JA ?_;refine BE rfl rfl (by exact Sub.f) ⟨?_,rfl⟩;simp[BU,hb]
 have hb:Au f=0:=by simpa using hb
 refine KK ?_;refine RU ?_;(iterate 4 refine RK ?_);refine RGo.gN ?_;refine RGo.p (W.call1 rfl (U6 _) rfl) rfl ?_;(iterate 3 refine RK ?_);refine RGo.nil (by kernel_rfl) ?_;refine WK ?_;refine RT ?_;refine BE rfl rfl (by exact Sub.f) ⟨?_,rfl⟩;rw[show BU f v=max f.low (min v (EC f))from by simp[BU,hb]];simp only[Int.max_def,Int.min_def]
 congr 2
 (repeat' split)<;>omega
theorem TC(k:Kind):PS Tryz.prog 203 [A7 false k] (iA (BZ k)):=by
 refine Sp (nt:=45) (res:=[.tmp 2]) Tryz.func203 λSf=>?_
 refine WK ?_;refine WK ?_;refine AOps.gN ?_;refine AOps.rs λX1=>?_;refine AOps.s (W.box rfl .here rfl) rfl ?_;(iterate 7 refine WK ?_);refine AOps.gN ?_;refine AOps.p (W.call1 rfl (NG _) rfl) rfl ?_;refine KK ?_
 refine AWP.cond rfl (λhb=>?_) (λhb=>?_)
 ·refine KK ?_
  refine RT ?_;refine BE rfl rfl (by exact Sub.f) ⟨?_,rfl⟩;have hb:Cv k.name=false:=by simpa using hb
  rw[show BZ k=3 from by simp[BZ,hb]]
 have hn:Cv k.name=true:=by simpa using hb
 refine KK ?_;refine AWP.cond rfl (λhb=>?_) (λhb=>?_)
 ·refine KK ?_
  refine RT ?_;refine BE rfl rfl (by exact Sub.f) ⟨?_,rfl⟩;have hb:8<k.fields.length:=by rw[AE,AB]at hb;omega
  rw[show BZ k=2 from by simp[BZ,hn,hb]]
 have hl:k.fields.length<=8:=by rw[AN,AB]at hb;omega
 have e1:BZ k=Bk [] k.fields:=by simp[BZ,hn];omega
 (iterate 10 refine WK ?_);refine CI (λi:Nat=>⟨[(1,.ptr X1 0 0),(17,Ef false k.fields),(18,iA (k.fields.map fieldA).length),(19,iA i)],(X1,.row 118 2 [A7 false k])::Sf⟩) (λi=>i<=k.fields.length/\Bk [] k.fields=Bk (k.fields.take i) (k.fields.drop i)) (λi=>k.fields.length-i) 0 ⟨by omega,rfl⟩ ⟨.cons rfl (.cons rfl (.cons rfl (.cons rfl .nil))),by exact Sub.f⟩ ?_
 rintro i ⟨hi,he⟩;refine KK ?_;refine AWP.cond rfl (λhb=>?_) (λhb=>?_)
 ·have h:i<k.fields.length:=by simpa using hb
  (repeat first|(refine AOps.gN ?_;first|refine AOps.p (W.idxL rfl rfl rfl (BF _ h)) rfl ?_|refine AOps.p (W.call1 rfl (LB _) rfl) rfl ?_)|refine WK ?_|refine Ai λX=>?_|refine Ay λY=>?_);refine AWP.cond rfl (λhc=>?_) (λhc=>?_)
  ·have hc:Au k.fields[i]≠0:=by simpa using hc
   refine JA ?_;refine BE rfl rfl (by exact Sub.f) ⟨?_,rfl⟩;rw[e1,he,F5 h,L0 hc];rfl
  have hc:Au k.fields[i]=0:=by simpa using hc
  have hmt:((k.fields.map fieldA).take i).length=i:=by simp;omega
  (iterate 6 refine WK ?_);refine AOps.gN ?_;refine AOps.p (W.hiL rfl rfl rfl (by simp;omega)) rfl ?_;(iterate 4 refine WK ?_);refine CI (λj:Nat=>⟨[(1,.ptr X1 0 0),(17,Ef false k.fields),(18,iA (k.fields.map fieldA).length),(19,iA i),(3,iA i),(4,.ptr X 0 0),(32,.lst false 120 3 ((k.fields.map fieldA).take i)),(33,iA ((k.fields.map fieldA).take i).length),(34,iA j)],(X,.row 120 3 [fieldA k.fields[i]])::(X1,.row 118 2 [A7 false k])::Sf⟩) (λj=>j<=i/\∀q (hq:q<k.fields.length),q<j->k.fields[q].name≠k.fields[i].name) (λj=>i-j) 0 ⟨by omega,by omega⟩ ⟨.cons rfl (.cons rfl (.cons rfl (.cons rfl (.cons rfl (.cons rfl (.cons rfl (.cons rfl (.cons rfl .nil)))))))),by exact Sub.f⟩ ?_
  rintro j ⟨hj,hne⟩;refine KK ?_;refine AWP.cond rfl (λhd=>?_) (λhd=>?_)
  ·have hd:j<i:=by rw[hmt]at hd;simpa using hd
   have hat:((k.fields.map fieldA).take i)[j]?=some (fieldA (k.fields[j]'(by omega))):=by rw[List.getElem?_take_of_lt hd];exact BF _ _
   (iterate 5 refine WK ?_);refine AOps.gN ?_;refine AOps.p (W.idxL rfl rfl rfl hat) rfl ?_;refine KK ?_;refine Ai λX=>?_;refine KK ?_
   refine AWP.cond rfl (λhq=>?_) (λhq=>?_)
   ·have hq:(k.fields[j]'(by omega)).name=k.fields[i].name:=by simpa using hq
    refine JA ?_;refine BE rfl rfl (by exact Sub.f) ⟨?_,rfl⟩;rw[e1,he,F5 h,Jg hc (j:=j) (by simp;omega) (by simpa using hq)]
   ·have hq:(k.fields[j]'(by omega)).name≠k.fields[i].name:=by simpa using hq
    refine KK ?_;refine⟨j+1,⟨by omega,λq hq1 hq2=>?_⟩,by omega,.cons rfl (.cons rfl (.cons rfl (.cons rfl (.cons rfl (.cons rfl (.cons rfl (.cons rfl (.cons rfl .nil)))))))),by exact Sub.f⟩;by_cases e:q=j
    ·subst e;exact hq
    ·exact hne q hq1 (by omega)
  ·have hd:¬j<i:=by rw[hmt]at hd;simpa using hd
   refine KK ?_;refine⟨i+1,⟨by omega,?_⟩,by omega,.cons rfl (.cons rfl (.cons rfl (.cons rfl .nil))),by exact Sub.f⟩;rw[he,F5 h,LA hc λq hq=>?_,List.take_add_one,AI h]
   ·rfl
   ·simp only[List.getElem_take]
    exact hne q (by simp at hq;omega) (by simp at hq;omega)
 ·have h:¬i<k.fields.length:=by simpa using hb
  refine JA ?_;refine BE rfl rfl (by exact Sub.f) ⟨?_,rfl⟩;rw[e1,he,Lz (by omega)]
theorem HU{k:Kind}(h:BZ k=0):k.fields.length<=8:=by
 unfold BZ at h;split at h
 ·split at h
  ·cases h
  ·omega
 ·cases h
def In(k:Kind)(vals:List Int)(i:Nat):List Int:=(List.zipWith BU k.fields vals).take i++List.replicate (vals.length-i) 0
theorem VB{k:Kind}{vals:List Int}{i:Nat}(hl:vals.length=k.fields.length)(h:i<vals.length):((In k vals i).map iA)[i]?=some (iA 0):=by
 have hz:(List.zipWith BU k.fields vals).length=vals.length:=by simp;omega
 rw[AH,In,List.getElem?_append_right (by simp;omega)];rw[Aj,Nat.min_eq_left (by omega),Nat.sub_self,List.getElem?_replicate,if_pos (by omega)];rfl
theorem Tk{k:Kind}{vals:List Int}{i:Nat}(hl:vals.length=k.fields.length)(h:i<vals.length):((In k vals i).map iA).set i (iA (BU (k.fields[i]'(by omega)) vals[i]))=(In k vals (i+1)).map iA:=by
 have hz:(List.zipWith BU k.fields vals).length=vals.length:=by simp;omega
 rw[<-List.map_set]
 congr 1
 unfold In;rw[List.set_append_right _ _ (by simp;omega),Aj,Nat.min_eq_left (by omega),Nat.sub_self];rw[show vals.length-i=(vals.length-(i+1))+1 from by omega,List.replicate_succ,List.set_cons_zero];rw[List.take_add_one,AI (by omega),AT];simp
theorem P6(k:Kind)(vals:List Int):PS Tryz.prog 135 [A7 false k,AM false vals] (.tup [AM true (BY k vals).1,iA (BY k vals).2]):=by
 refine Sp (nt:=43) (res:=[.tmp 4,.tmp 5]) Tryz.func135 λSf=>?_
 refine WK ?_;refine WK ?_;refine AOps.gN ?_;refine AOps.rs λB=>?_;refine AOps.s (W.box rfl .here rfl) rfl ?_;(iterate 7 refine WK ?_);refine AOps.gN ?_;refine AOps.p (W.call1 rfl (TC _) rfl) rfl ?_;refine KK ?_
 refine AWP.cond rfl (λhb=>?_) (λhb=>?_)
 ·have hb:BZ k≠0:=by simpa using hb
  refine JA ?_;rw[show BY k vals=([],BZ k)from by simp[BY,hb]];exact⟨[.prim (.slice none 0 0),iA (BZ k)],[AM true [],iA (BZ k)],_,[],.cons (.tmp rfl) rfl (.cons (.tmp rfl) rfl .nil),.cons (.cell .nil) (.cons (.cell .same) .nil),by exact Sub.f,rfl,rfl⟩
 have hk:BZ k=0:=by simpa using hb
 have h8:=HU hk;refine KK ?_;refine AWP.cond rfl (λhb=>?_) (λhb=>?_)
 ·have hb:vals.length≠k.fields.length:=by rw[AE,AB,AB]at hb;omega
  refine JA ?_;rw[show BY k vals=([],1)from by simp[BY,hk,hb]];exact⟨[.prim (.slice none 0 0),iA 1],[AM true [],iA 1],_,[],.cons (.tmp rfl) rfl (.cons (.tmp rfl) rfl .nil),.cons (.cell .nil) (.cons (.cell .same) .nil),by exact Sub.f,rfl,rfl⟩
 have hl:vals.length=k.fields.length:=by rw[AN,AB,AB]at hb;omega
 have hv:(vals.map iA).length<=8:=by simp;omega
 have hz:List.replicate (vals.map iA).length (zAV [.int .i64 0] false)=(In k vals 0).map iA:=by simp[In];exact .inr rfl
 (iterate 5 refine WK ?_);refine AOps.gN ?_;refine AOps.rs λXL=>?_;refine AOps.s (W.make rfl rfl .here rfl (.inr rfl) rfl rfl (Nat.le_refl _) (by omega) (Nat.le_trans hv (by decide))) rfl ?_;(iterate 11 refine WK ?_);refine CI (λi:Nat=>⟨[(1,AM false vals),(7,.sl XL 0 (vals.map iA).length),(25,Ef false k.fields),(26,iA (k.fields.map fieldA).length),(27,iA i)],(XL,.row 3 1 ((In k vals i).map iA))::(B,.row 118 2 [A7 false k])::Sf⟩) (λi=>i<=vals.length) (λi=>vals.length-i) 0 (Nat.zero_le _) ⟨.cons rfl (.cons rfl (.cons rfl (.cons rfl (.cons rfl .nil)))),(by show List.Sublist ((XL,.row 3 1 ((In k vals 0).map iA))::(B,.row 118 2 [A7 false k])::Sf) _;rw[<-hz];exact Sub.f)⟩ ?_
 rintro i hi;refine KK ?_;refine AWP.cond rfl (λhb=>?_) (λhb=>?_)
 ·have h:i<vals.length:=by rw[AE,AB]at hb;omega
  have h':i<k.fields.length:=by omega
  (iterate 6 refine WK ?_);refine AOps.gN ?_;refine AOps.p (W.idxL rfl rfl rfl (BF _ h')) rfl ?_;refine KK ?_;refine Ai λX=>?_;refine KK ?_
  refine RU ?_;(iterate 5 refine RK ?_);refine RGo.gN ?_;refine RGo.p (W.idxL rfl rfl rfl (BF _ h)) rfl ?_;refine RK ?_;refine RGo.gN ?_;refine RGo.p (W.call2 rfl rfl (Qs _ _) rfl) rfl ?_;refine RGo.gN ?_;refine RGo.p (W.idx rfl rfl (by exact At.f) rfl (by simpa using h) (Nat.zero_add _)) rfl ?_;refine RGo.gN ?_;refine RGo.s (W.store rfl rfl (by exact At.f) (VB hl h) (by exact rfl)) rfl ?_;refine RGo.nil (by kernel_rfl) ?_;refine KK ?_;refine⟨i+1,by omega,by omega,.cons rfl (.cons rfl (.cons rfl (.cons rfl (.cons rfl .nil)))),?_⟩;show List.Sublist ((XL,.row 3 1 ((In k vals (i+1)).map iA))::(B,.row 118 2 [A7 false k])::Sf) _
  rw[<-Tk hl h];exact Sub.f
 ·have h:¬i<vals.length:=by rw[AN,AB]at hb;omega
  refine JA ?_;rw[show BY k vals=(List.zipWith BU k.fields vals,0)from by simp[BY,hk,hl]]
  have he:(In k vals i).map iA=(List.zipWith BU k.fields vals).map iA:=by
   congr 1
   rw[In,show vals.length-i=0 from by omega,List.take_of_length_le (by simp;omega)];simp
  refine⟨[.sl XL 0 (vals.map iA).length,iA 0],[.lst true 3 1 ((In k vals i).map iA),iA 0],_,[],.cons (.tmp rfl) rfl (.cons (.tmp rfl) rfl .nil),.cons (.cell (.sl (p:=0) .here (by rw[he];simp;omega))) (.cons (.cell .same) .nil),by exact Sub.f,?_,rfl⟩;rw[he];rfl
theorem P7{k:Kind}{vals:List Int}(h:(BY k vals).2=0):(BY k vals).1.length=vals.length/\vals.length<=8:=by
 unfold BY at h⊢;split
 ·rename_i h1;rw[if_pos h1]at h;exact absurd h h1
 ·rename_i h1
  rw[if_neg h1]at h;split
  ·rename_i h2;rw[if_pos h2]at h;cases h
  ·rename_i h2;have:=HU (Decidable.not_not.1 h1);simp;omega
theorem TY(k:Kind)(vals:List Int):PS Tryz.prog 205 [A7 false k,AM false vals] (bA (Bv k vals)):=by
 refine Sp (nt:=31) (res:=[.tmp 4]) Tryz.func205 λSf=>?_
 have hfr:(AV.tup [AM true (BY k vals).1,iA (BY k vals).2]).frz= .tup [AM false (BY k vals).1,iA (BY k vals).2]:=by
  show AV.tup [(AM true (BY k vals).1).frz,_]=_
  rw[R3];rfl
 refine KK ?_;refine Ai λX=>?_;(iterate 6 refine WK ?_);refine AOps.gN ?_;refine AOps.p (W.callF2 rfl rfl (P6 _ _) rfl hfr) rfl ?_;refine KK ?_
 refine AWP.cond rfl (λhb=>?_) (λhb=>?_)
 ·have hb:(BY k vals).2≠0:=by simpa using hb
  refine JA ?_;refine BE rfl rfl (by exact Sub.f) ⟨?_,rfl⟩;simp[Bv,hb]
 have hb:(BY k vals).2=0:=by simpa using hb
 obtain⟨hlen,h8⟩:=P7 hb;obtain⟨fl,hfl⟩:∃fl,fl=(BY k vals).1:=⟨_,rfl⟩;rw[<-hfl]at hlen;rw[show Bv k vals=decide (fl=vals)from by simp[Bv,hb,hfl]];rw[<-hfl];clear hfr
 (iterate 9 refine WK ?_);refine CI (λi:Nat=>⟨[(1,AM false vals),(5,AM false fl),(17,iA (fl.map iA).length),(18,iA i)],Sf⟩) (λi=>i<=vals.length/\∀j (h:j<vals.length),j<i->fl[j]'(by omega)=vals[j]) (λi=>vals.length-i) 0 ⟨Nat.zero_le _,λj h hj=>absurd hj (by omega)⟩ ⟨.cons rfl (.cons rfl (.cons rfl (.cons rfl .nil))),by exact Sub.f⟩ ?_
 rintro i ⟨hi,he⟩;refine KK ?_;refine AWP.cond rfl (λhc=>?_) (λhc=>?_)
 ·have h:i<fl.length:=by rw[AE,AB]at hc;omega
  have h':i<vals.length:=by omega
  refine KK ?_;refine RU ?_;refine JH ?_;refine RGo.gN ?_;refine RGo.p (W.idxL rfl rfl rfl (BF _ h)) rfl ?_;(iterate 3 refine RK ?_);refine RGo.gN ?_;refine RGo.p (W.idxL rfl rfl rfl (BF _ h')) rfl ?_;refine JH ?_;refine RGo.nil (by kernel_rfl) ?_;refine WK ?_;refine AWP.cond rfl (λhd=>?_) (λhd=>?_)
  ·have hd:fl[i]≠vals[i]:=by simpa using hd
   refine JA ?_;refine BE rfl rfl (by exact Sub.f) ⟨?_,rfl⟩;rw[AK (λe=>hd (by subst e;rfl))]
  ·have hd:fl[i]=vals[i]:=by simpa using hd
   refine KK ?_;refine⟨i+1,⟨by omega,λj h1 h2=>?_⟩,by omega,.cons rfl (.cons rfl (.cons rfl (.cons rfl .nil))),by exact Sub.f⟩;by_cases e:j=i
   ·subst e;exact hd
   ·exact he j h1 (by omega)
 ·have h:¬i<fl.length:=by rw[AN,AB]at hc;omega
  refine JA ?_;refine BE rfl rfl (by exact Sub.f) ⟨?_,rfl⟩;rw[Ah (List.ext_getElem hlen λj h1 h2=>he j h2 (by omega))]
theorem VF(l:List Kind)(name:List UInt8)(hl:l.length<=1099511627776):PS Tryz.prog 204 [Ag false false l,sA name] (iA (DF l name)):=by
 refine Sp (nt:=20) (res:=[.tmp 4]) Tryz.func204 λSf=>?_
 (iterate 12 refine WK ?_);refine CI (λi:Nat=>⟨[(1,sA name),(7,Ag false false l),(8,iA (l.map (A7 false)).length),(9,iA i)],Sf⟩) (λi=>i<=l.length/\∀j (h:j<l.length),j<i->l[j].name≠name) (λi=>l.length-i) 0 ⟨by omega,by omega⟩ ⟨.cons rfl (.cons rfl (.cons rfl (.cons rfl .nil))),List.Sublist.refl _⟩ ?_
 rintro i ⟨hi,hn⟩;refine KK ?_;refine AWP.cond rfl (λhb=>?_) (λhb=>?_)
 ·have h:i<l.length:=by simpa using hb
  (iterate 6 refine WK ?_);refine AOps.gN ?_;refine AOps.p (W.idxL rfl rfl rfl (BF _ h)) rfl ?_;refine KK ?_;refine Ai λX=>?_;refine KK ?_
  refine AWP.cond rfl (λhc=>?_) (λhc=>?_)
  ·have hc:l[i].name=name:=by simpa using hc
   refine JA ?_;refine BE rfl rfl (by exact Sub.f) ⟨?_,rfl⟩;rw[Ly h hc λj hj=>hn j (by omega) hj]
  ·have hc:l[i].name≠name:=by simpa using hc
   refine KK ?_;refine⟨i+1,⟨by omega,λj hj hji=>?_⟩,by omega,.cons rfl (.cons rfl (.cons rfl (.cons rfl .nil))),by exact Sub.f⟩;by_cases e:j=i
   ·subst e;exact hc
   ·exact hn j hj (by omega)
 ·have h:¬i<l.length:=by simpa using hb
  refine JA ?_;refine BE rfl rfl (by exact Sub.f) ⟨?_,rfl⟩;rw[HH λj hj=>hn j hj (by omega)]
theorem LR(l:List Kind):PS Tryz.prog 131 [Ag false false l] (iA (Al l)):=by
 refine Sp (nt:=29) (res:=[.tmp 2]) Tryz.func131 λSf=>?_
 refine KK ?_;refine AWP.cond rfl (λhb=>?_) (λhb=>?_)
 ·refine KK ?_
  refine RT ?_;refine BE rfl rfl (by exact Sub.f) ⟨?_,rfl⟩;have hb:16<l.length:=by rw[AE,AB]at hb;omega
  rw[show Al l=2 from by simp[Al,hb]]
 have hl:l.length<=16:=by rw[AN,AB]at hb;omega
 have e1:Al l=By [] l:=by simp[Al];omega
 (iterate 9 refine WK ?_);refine CI (λi:Nat=>⟨[(0,Ag false false l),(9,Ag false false l),(10,iA (l.map (A7 false)).length),(11,iA i)],Sf⟩) (λi=>i<=l.length/\By [] l=By (l.take i) (l.drop i)) (λi=>l.length-i) 0 ⟨by omega,rfl⟩ ⟨.cons rfl (.cons rfl (.cons rfl (.cons rfl .nil))),by exact Sub.f⟩ ?_
 rintro i ⟨hi,he⟩;refine KK ?_;refine AWP.cond rfl (λhb=>?_) (λhb=>?_)
 ·have h:i<l.length:=by simpa using hb
  (repeat first|(refine AOps.gN ?_;first|refine AOps.p (W.idxL rfl rfl rfl (BF _ h)) rfl ?_|refine AOps.p (W.call1 rfl (TC _) rfl) rfl ?_)|refine WK ?_|refine Ai λX=>?_|refine Ay λY=>?_);refine AWP.cond rfl (λhc=>?_) (λhc=>?_)
  ·have hc:BZ l[i]≠0:=by simpa using hc
   refine JA ?_;refine BE rfl rfl (by exact Sub.f) ⟨?_,rfl⟩;rw[e1,he,GS h,NP hc];rfl
  have hc:BZ l[i]=0:=by simpa using hc
  have hf:PS Tryz.prog 204 [.lst false 118 2 ((l.map (A7 false)).take i),sA l[i].name] (iA (DF (l.take i) l[i].name)):=by
   have:=VF (l.take i) l[i].name (by simp;omega);simpa only[Ag,List.map_take]using this
  refine KK ?_;refine RU ?_;refine JH ?_;refine RGo.gN ?_;refine RGo.p (W.hiL rfl rfl rfl (by simp;omega)) rfl ?_;refine JH ?_;refine RGo.gN ?_;refine RGo.p (W.call2 rfl rfl hf rfl) rfl ?_;refine RK ?_;refine RGo.nil (by kernel_rfl) ?_;refine WK ?_;refine AWP.cond rfl (λhd=>?_) (λhd=>?_)
  ·have hd:0<=DF (l.take i) l[i].name:=by simpa using hd
   refine JA ?_;refine BE rfl rfl (by exact Sub.f) ⟨?_,rfl⟩;rw[e1,he,GS h,Kh hc hd]
  ·have hd:DF (l.take i) l[i].name<0:=by simpa using hd
   refine KK ?_;refine⟨i+1,⟨by omega,?_⟩,by omega,.cons rfl (.cons rfl (.cons rfl (.cons rfl .nil))),by exact Sub.f⟩;rw[he,GS h,Lq hc hd,List.take_add_one,AI h];rfl
 ·have h:¬i<l.length:=by simpa using hb
  refine JA ?_;refine BE rfl rfl (by exact Sub.f) ⟨?_,rfl⟩;rw[e1,he,NO (by omega)]
def Cm(ks:List Kind):Int->List Comp->Bool
 |_,[]=>true
 |last,c::l=>match ks[c.kind.toNat]? with
  |some k=>decide (last<c.kind)&&decide (c.kind<ks.length)&&Bv k c.vals&&Cm ks c.kind l
  |none=>false
def A8(ks:List Kind)(l:List Comp):Bool:=Cm ks (-1) l
theorem OW{ks:List Kind}{l:List Comp}{i:Nat}{last:Int}{k:Kind}{c:Comp}(h:i<l.length)(hc:l[i]=c)(hk:ks[c.kind.toNat]?=some k):Cm ks last (l.drop i)=(decide (last<c.kind)&&decide (c.kind<ks.length)&&Bv k c.vals&&Cm ks c.kind (l.drop (i+1))):=by
 rw[CG h,Cm,hc,hk]
theorem I8{ks:List Kind}{l:List Comp}{i:Nat}{last:Int}{c:Comp}(h:i<l.length)(hc:l[i]=c)(hn:c.kind<=last\/(ks.length:Int)<=c.kind):Cm ks last (l.drop i)=false:=by
 rw[CG h,Cm,hc];split
 ·rcases hn with hn|hn
  ·rw[AK (by omega)];rfl
  ·rw[AK (p:=c.kind<_) (by omega)];simp
 ·rfl
def CB(ks:List Kind)(gens:List Int):Int->List Item->Bool
 |_,[]=>true
 |last,it::l=>match gens[it.ent.n.toNat]? with
  |some g=>decide (last<it.ent.n)&&decide (it.ent.n<gens.length)&&decide (it.ent.gen=g)&& !decide (it.ent.gen=1073741824)&&A8 ks it.comps&&CB ks gens it.ent.n l
  |none=>false
theorem NR{ks:List Kind}{gens:List Int}{l:List Item}{i:Nat}{last:Int}{g:Int}{it:Item}(h:i<l.length)(hc:l[i]=it)(hk:gens[it.ent.n.toNat]?=some g):CB ks gens last (l.drop i)=(decide (last<it.ent.n)&&decide (it.ent.n<gens.length)&&decide (it.ent.gen=g)&& !decide (it.ent.gen=1073741824)&&A8 ks it.comps&&CB ks gens it.ent.n (l.drop (i+1))):=by
 rw[CG h,CB,hc,hk]
theorem H3{ks:List Kind}{gens:List Int}{l:List Item}{i:Nat}{last:Int}{it:Item}(h:i<l.length)(hc:l[i]=it)(hn:it.ent.n<=last\/(gens.length:Int)<=it.ent.n):CB ks gens last (l.drop i)=false:=by
 rw[CG h,CB,hc];split
 ·rcases hn with hn|hn
  ·rw[AK (by omega)];rfl
  ·rw[AK (p:=it.ent.n<_) (by omega)];simp
 ·rfl
def HZ(l:List Int):Bool:=l.all λg=>decide (0<=g)&&decide (g<=1073741824)
def Cr(w:Wd):Int:=
 if Al w.kinds≠0 then Al w.kinds
 else if 256<w.gens.length\/w.gens.length<w.items.length then 2
 else if HZ w.gens=false then 3
 else if CB w.kinds w.gens (-1) w.items=false then 3 else 0
theorem U7(ks:List Kind)(l:List Comp)(hl:l.length<=1099511627776):PS Tryz.prog 132 [Ag false false ks,Ax false false l] (bA (A8 ks l)):=by
 refine Sp (nt:=39) (res:=[.tmp 4]) Tryz.func132 λSf=>?_
 have hlm:(l.map (AG false)).length=l.length:=AB _;refine KK ?_;refine Bq (λ(i:Nat) (last:Int)=>⟨[(0,Ag false false ks),(5,iA last),(8,Ax false false l),(9,iA (l.map (AG false)).length),(10,iA i)],Sf⟩) (λi last=>i<=l.length/\ -1<=last/\Cm ks last (l.drop i)=A8 ks l) (λi _=>l.length-i) 0 (-1) ⟨Nat.zero_le _,by omega,rfl⟩ ?_;rintro i last ⟨hi,hla,he⟩;refine KK ?_;refine AWP.cond rfl (λhc=>?_) (λhc=>?_)
 ·have h:i<l.length:=by rw[AE,hlm]at hc;omega
  obtain⟨⟨ck,cv⟩,hcc⟩:=nm (l[i]);have hat:(l.map (AG false))[i]?=some (AG false ⟨ck,cv⟩):=by rw[AH,AI h,hcc];rfl
  refine KK ?_;refine Ai λX=>?_;refine KK ?_
  rcases Bool.eq_false_or_eq_true (decide (ck<=last))with g1|g1
  ·refine RU ?_;(repeat first|(refine RGo.gQ ?_;first|refine RGo.goNU ?_|refine RGo.goNV ?_)|refine RK ?_|refine RGo.nil (by kernel_rfl) ?_)
   refine AL rfl (by first|rfl|assumption) ?_;refine JA ?_;refine AF ?_;rw[<-he,I8 h hcc (.inl (by simpa using g1))]
  ·obtain⟨n,rfl⟩:∃n:Nat,ck=n:=⟨ck.toNat,by rw[AN]at g1;omega⟩
   rcases Bool.eq_false_or_eq_true (decide (((ks.map (A7 false)).length:Int)<=n))with g2|g2
   ·refine RU ?_;(repeat first|(refine RGo.gQ ?_;first|refine RGo.goNU ?_|refine RGo.goNV ?_)|refine RK ?_|refine RGo.nil (by kernel_rfl) ?_)
    refine AL rfl (by first|rfl|assumption) ?_;refine JA ?_;refine AF ?_;rw[<-he,I8 h hcc (.inr (by rw[AE,AB]at g2;exact g2))]
   ·have hkl:n<ks.length:=by rw[AN,AB]at g2;omega
    obtain⟨k,hk⟩:=nm (ks[n]);have hka:ks[n]?=some k:=by rw[AI hkl,hk]
    have hat2:(ks.map (A7 false))[n]?=some (A7 false k):=by rw[AH,hka];rfl
    have hst:=OW (last:=last) (k:=k) h hcc hka;dsimp only at hst;rw[Ah (by rw[AN]at g1;omega),Ah (p:=(n:Int)<_) (by omega),Bool.true_and,Bool.true_and,he]at hst;have hh:=TY k cv;obtain⟨b,hb⟩:=nm (Bv k cv);rw[hb]at hst hh;cases b
    ·refine JM ?_;refine RGo.g_callf ?_;refine RGo.c2 (h:=(hh ..)) (k:=?_);refine JH ?_;refine RGo.nil (by kernel_rfl) ?_
     refine AL rfl (by first|rfl|assumption) ?_;refine JA ?_;refine AF ?_;rw[hst];rfl
    ·refine JM ?_;refine RGo.g_callf ?_;refine RGo.c2 (h:=(hh ..)) (k:=?_);refine JH ?_;refine RGo.nil (by kernel_rfl) ?_
     refine AA rfl (by first|rfl|assumption) ?_;refine KK ?_;refine BK (i+1) n ⟨h,by omega,hst.symm⟩
 ·have h:i=l.length:=by rw[AN,hlm]at hc;omega
  subst h;refine JA ?_;refine AF ?_;rw[<-he,List.drop_length];rfl
theorem Et(w:Wd)(hg:w.gens.length<=1099511627776)(hi:w.items.length<=1099511627776)(hc:∀it∈w.items,it.comps.length<=1099511627776):PS Tryz.prog 60 [wdA false w] (iA (Cr w)):=by
 have hck:=LR w.kinds;obtain⟨ke,hke⟩:=nm (Al w.kinds);obtain⟨we,hwe⟩:=nm (Cr w);rw[hwe];unfold Cr at hwe;rw[hke]at hck hwe;obtain⟨ks,gens,items⟩:=w;dsimp only at hwe hg hi hc hck hke;refine Sp (nt:=94) (res:=[.tmp 2]) Tryz.func60 λSf=>?_
 have hgm:(gens.map iA).length=gens.length:=AB _;have him:(items.map (AD false)).length=items.length:=AB _;refine RG ?_;refine AOps.g_box ?_;refine Ad ?_;refine JB ?_;refine JG ?_;refine AOps.g_callf ?_;refine AOps.c1 (h:=(hck ..)) (k:=?_);refine JB ?_;refine KK ?_;refine AWP.cond rfl (λhd=>?_) (λhd=>?_)
 ·have hd:ke≠0:=by simpa using hd
  refine JA ?_;refine AF ?_;rw[<-hwe,if_pos hd]
 have hd:ke=0:=by simpa using hd
 rw[if_neg (by simp[hd])]at hwe;rcases Bool.eq_false_or_eq_true (decide (256<((gens.map iA).length:Int)))with g1|g1
 ·refine KK ?_
  refine AL rfl (by first|rfl|assumption) ?_;refine JA ?_;refine AF ?_;rw[<-hwe,if_pos (.inl (by rw[AE,hgm]at g1;omega))]
 rcases Bool.eq_false_or_eq_true (decide (((gens.map iA).length:Int)<(items.map (AD false)).length))with g2|g2
 ·refine KK ?_
  refine AL rfl (by first|rfl|assumption) ?_;refine JA ?_;refine AF ?_;rw[<-hwe,if_pos (.inr (by rw[AE,hgm,him]at g2;omega))]
 refine KK ?_;refine AA rfl (by first|rfl|assumption) ?_;rw[if_neg (by rw[AN,hgm]at g1;rw[AN,hgm,him]at g2;omega)]at hwe;refine KK ?_;refine Az (λi:Nat=>⟨[(1,.fp (wdA false ⟨ks,gens,items⟩).cells),(29,AM false gens),(30,iA (gens.map iA).length),(31,iA i)],Sf⟩) (λi=>i<=gens.length/\∀j (h:j<gens.length),j<i->0<=gens[j]/\gens[j]<=1073741824) (λi=>gens.length-i) 0 ⟨Nat.zero_le _,λj h hj=>absurd hj (by omega)⟩ ?_;rintro i ⟨hil,hgo⟩;refine KK ?_;refine AWP.cond rfl (λhe=>?_) (λhe=>?_)
 ·have h:i<gens.length:=by rw[AE,hgm]at he;omega
  obtain⟨x,hx⟩:=nm (gens[i]);have hat:(gens.map iA)[i]?=some (iA x):=by rw[AH,AI h,hx];rfl
  have hbad:¬(0<=x/\x<=1073741824)->HZ gens=false:=λhn=>by
   unfold HZ;rw[List.all_eq_false];refine⟨x,hx▸AU h,?_⟩;simp only[Bool.and_eq_true,AE];exact hn
  refine KK ?_;refine AWP.cond rfl (λhf=>?_) (λhf=>?_)
  ·have hf:¬(0<=x/\x<=1073741824):=by simp at hf;omega
   refine JA ?_;refine AF ?_;rw[<-hwe,if_pos (hbad hf)]
  ·have hf:0<=x/\x<=1073741824:=by simp at hf;omega
   refine KK ?_;refine Ab (i+1) ⟨h,λj h1 h2=>?_⟩;by_cases e:j=i
   ·subst e;rw[hx];exact hf
   ·exact hgo j h1 (by omega)
 have hgok:HZ gens=true:=by
  have h:i=gens.length:=by rw[AN,hgm]at he;omega
  unfold HZ;rw[List.all_eq_true];intro x hx;obtain⟨j,hj,rfl⟩:=List.getElem_of_mem hx;simp only[Bool.and_eq_true,AE];exact hgo j hj (by omega)
 rw[if_neg (by simp[hgok])]at hwe;refine KK ?_;refine Bq (λ(i:Nat) (last:Int)=>⟨[(1,.fp (wdA false ⟨ks,gens,items⟩).cells),(6,iA last),(43,HX false false items),(44,iA (items.map (AD false)).length),(45,iA i)],Sf⟩) (λi last=>i<=items.length/\ -1<=last/\CB ks gens last (items.drop i)=CB ks gens (-1) items) (λi _=>items.length-i) 0 (-1) ⟨Nat.zero_le _,by omega,rfl⟩ ?_;clear hil hgo he i;rintro i last ⟨hil,hla,he⟩;refine KK ?_;refine AWP.cond rfl (λhd'=>?_) (λhd'=>?_)
 ·have h:i<items.length:=by rw[AE,him]at hd';omega
  obtain⟨⟨⟨en,eg⟩,cs⟩,hit⟩:=nm (items[i]);have hat:(items.map (AD false))[i]?=some (AD false ⟨⟨en,eg⟩,cs⟩):=by rw[AH,AI h,hit];rfl
  have hcl:=hc _ (hit▸AU h);dsimp only at hcl;refine KK ?_;refine Ai λX=>?_;refine KK ?_
  rcases Bool.eq_false_or_eq_true (decide (en<=last))with q1|q1
  ·refine RU ?_;(repeat first|(refine RGo.gQ ?_;first|refine RGo.goNU ?_|refine RGo.goNV ?_)|refine RK ?_|refine RGo.nil (by kernel_rfl) ?_)
   refine AL rfl (by first|rfl|assumption) ?_;refine JA ?_;refine AF ?_;rw[<-hwe,if_pos (by rw[<-he,H3 h hit (.inl (by simpa using q1))])]
  obtain⟨n,rfl⟩:∃n:Nat,en=n:=⟨en.toNat,by rw[AN]at q1;omega⟩;rcases Bool.eq_false_or_eq_true (decide (((gens.map iA).length:Int)<=n))with q2|q2
  ·refine RU ?_;(repeat first|(refine RGo.gQ ?_;first|refine RGo.goNU ?_|refine RGo.goNV ?_)|refine RK ?_|refine RGo.nil (by kernel_rfl) ?_)
   refine AL rfl (by first|rfl|assumption) ?_;refine JA ?_;refine AF ?_;rw[<-hwe,if_pos (by rw[<-he,H3 h hit (.inr (by rw[AE,hgm]at q2;exact q2))])]
  have hkl:n<gens.length:=by rw[AN,hgm]at q2;omega
  obtain⟨g,hg'⟩:=nm (gens[n]);have hga:gens[n]?=some g:=by rw[AI hkl,hg']
  have hat2:(gens.map iA)[n]?=some (iA g):=by rw[AH,hga];rfl
  have hst:=NR (ks:=ks) (last:=last) (g:=g) h hit hga;dsimp only at hst;rw[Ah (by rw[AN]at q1;omega),Ah (p:=(n:Int)<_) (by omega),Bool.true_and,Bool.true_and,he]at hst;rcases Bool.eq_false_or_eq_true (decide (eg≠g))with q3|q3
  ·refine RU ?_;(repeat first|(refine RGo.gQ ?_;first|refine RGo.goNU ?_|refine RGo.goNV ?_)|refine RK ?_|refine RGo.nil (by kernel_rfl) ?_)
   refine AL rfl (by first|rfl|assumption) ?_;refine JA ?_;refine AF ?_;rw[<-hwe,if_pos (by rw[hst,AK (by simpa using q3)];rfl)]
  rcases Bool.eq_false_or_eq_true (decide (eg=1073741824))with q4|q4
  ·refine RU ?_;(repeat first|(refine RGo.gQ ?_;first|refine RGo.goNU ?_|refine RGo.goNV ?_)|refine RK ?_|refine RGo.nil (by kernel_rfl) ?_)
   refine AL rfl (by first|rfl|assumption) ?_;refine JA ?_;refine AF ?_;rw[<-hwe,if_pos (by rw[hst,q4];simp)]
  have hh:=U7 ks cs hcl;obtain⟨b,hb⟩:=nm (A8 ks cs);rw[Ah (p:=eg=g) (by simpa using q3),q4,hb,Bool.true_and,Bool.not_false,Bool.true_and]at hst;rw[hb]at hh;cases b
  ·refine JM ?_;refine RGo.g_callf ?_;refine RGo.c2 (h:=(hh ..)) (k:=?_);refine JH ?_;refine RGo.nil (by kernel_rfl) ?_
   refine AL rfl (by first|rfl|assumption) ?_;refine JA ?_;refine AF ?_;rw[<-hwe,if_pos (by rw[hst];rfl)]
  ·refine JM ?_;refine RGo.g_callf ?_;refine RGo.c2 (h:=(hh ..)) (k:=?_);refine JH ?_;refine RGo.nil (by kernel_rfl) ?_
   refine AA rfl (by first|rfl|assumption) ?_;refine KK ?_;refine BK (i+1) n ⟨h,by omega,hst.symm⟩
 ·have h:i=items.length:=by rw[AN,him]at hd';omega
  refine JA ?_;refine AF ?_;rw[<-hwe,if_neg (by rw[<-he,h,List.drop_length];simp[CB])]
theorem Km(a:Int):PS Tryz.prog 138 [iA a] (bA false):=by
 refine Sp (nt:=6) (res:=[.tmp 2]) Tryz.func138 λSf=>?_
 refine JA ?_;refine AF ?_;have:decide (a≠a)=false:=AK (by simp);rw[this]
def Cp(a b:Int):Int:=if a<b then-1 else if b<a then 1 else 0
theorem E8(a b:Int):PS Tryz.prog 65 [iA a,iA b] (iA (Cp a b)):=by
 refine Sp (nt:=20) (res:=[.tmp 4]) Tryz.func65 λSf=>?_
 refine KK ?_;refine AOps.g_callf ?_;refine AOps.c1 (h:=(Km a)) (k:=?_);refine KK ?_;refine AOps.g_callf ?_;refine AOps.c1 (h:=(Km b)) (k:=?_);refine KK ?_;refine AA rfl rfl ?_;refine KK ?_;refine AA rfl rfl ?_;refine KK ?_;refine AWP.cond rfl (λh=>?_) (λh=>?_)
 ·have h:a<b:=by simpa using h
  refine JA ?_;refine AF ?_;rw[Cp,if_pos h]
 ·have h:¬a<b:=by simpa using h
  refine KK ?_;refine AWP.cond rfl (λh2=>?_) (λh2=>?_)
  ·have h2:b<a:=by simpa using h2
   refine JA ?_;refine AF ?_;rw[Cp,if_neg h,if_pos h2]
  ·have h2:¬b<a:=by simpa using h2
   refine JA ?_;refine AF ?_;rw[Cp,if_neg h,if_neg h2]
def ES{α:Type}(l:List α)(p:α->Bool):Int:=match l.findIdx? p with
 |some i=>i
 |none=>-1
theorem Eq{α:Type}{l:List α}{p:α->Bool}(h:∀j (hj:j<l.length),p l[j]=false):ES l p= -1:=by
 have:l.findIdx? p=none:=by
  rw[List.findIdx?_eq_none_iff];intro x hx;obtain⟨j,hj,rfl⟩:=List.getElem_of_mem hx;exact h j hj
 simp[ES,this]
theorem Ep{α:Type}{l:List α}{p:α->Bool}{i:Nat}(hi:i<l.length)(e:p l[i]=true)(h:∀j (hj:j<i),p (l[j]'(by omega))=false):ES l p=i:=by
 have:l.findIdx? p=some i:=by
  rw[List.findIdx?_eq_some_iff_getElem];exact⟨hi,e,λj hj=>by simpa using h j hj⟩
 simp[ES,this]
theorem Ks{α:Type}(l:List α)(p:α->Bool):decide ((0:Int)<=ES l p)=l.any p:=by
 unfold ES;cases h:l.findIdx? p with
 |none=>
  rw[List.findIdx?_eq_none_iff]at h;have:l.any p=false:=List.any_eq_false.2 λx hx=>by rw[h x hx];simp
  rw[this];rfl
 |some i=>
  obtain⟨hi,e,_⟩:=List.findIdx?_eq_some_iff_getElem.1 h;have:l.any p=true:=List.any_eq_true.2 ⟨_,AU hi,e⟩;rw[this];simp
theorem Kr{α:Type}(l:List α)(p:α->Bool): -1<=ES l p/\ES l p<l.length/\ES l p<=l.length:=by
 unfold ES;cases h:l.findIdx? p with
 |none=>simp;omega
 |some i=>
  obtain⟨hi,_⟩:=List.findIdx?_eq_some_iff_getElem.1 h;simp;omega
theorem Lr(l:List Item)(f:FuncId)(cap:List AV)(p:Item->Bool)(hs:B6 cap=true)(hl:l.length<=4611686018427387904)(hf:∀x∈l,PS Tryz.prog f ((AD false) x::cap) (bA (p x))):PS Tryz.prog 167 [.lst false 71 3 (l.map (AD false)),.fn f cap] (iA (ES l p)):=by
 refine Sp (nt:=19) (res:=[.tmp 4]) Tryz.func167 λSf=>?_
 refine KK ?_;refine Az (λi:Nat=>⟨[(0,.lst false 71 3 (l.map (AD false))),(1,.fn f cap),(7,iA (l.map (AD false)).length),(8,iA i)],Sf⟩) (λi=>i<=l.length/\∀j (h:j<l.length),j<i->p l[j]=false) (λi=>l.length-i) 0 ⟨Nat.zero_le _,λj h hj=>absurd hj (by omega)⟩ ?_;rintro i ⟨hi,he⟩;refine KK ?_;refine AWP.cond rfl (λhc=>?_) (λhc=>?_)
 ·have h:i<l.length:=by simpa using hc
  refine KK ?_;refine AOps.g_callv ?_;refine Gz (h:=(hf _ (AU h))) (k:=?_);refine KK ?_;refine AWP.cond rfl (λhd=>?_) (λhd=>?_)
  ·refine KK ?_
   refine RT ?_;refine AF ?_;rw[Ep h hd λj hj=>he j (by omega) hj]
  ·refine KK ?_
   refine Ab (i+1) ⟨h,λj h1 h2=>?_⟩;by_cases e:j=i
   ·subst e;exact hd
   ·exact he j h1 (by omega)
 ·have h:¬i<l.length:=by simpa using hc
  refine JA ?_;refine AF ?_;rw[Eq λj hj=>he j hj (by omega)]
def JW{α:Type}(g:α->Int)(l:List α):Prop:=∀(a b:Nat) (x y:α),a<=b->l[a]?=some x->l[b]?=some y->g y<0->g x<0
def Spl{α:Type}(g:α->Int)(l:List α)(i j:Nat):Prop:=(∀(k:Nat) (x:α),k<i->l[k]?=some x->g x<0)/\∀(k:Nat) (x:α),j<=k->l[k]?=some x->¬g x<0
structure Found{α:Type}(g:α->Int)(l:List α)(r:Nat×Bool):Prop where
 le:r.1<=l.length
 eq:r.2=true↔∃x,l[r.1]?=some x/\g x=0
 mono:JW g l->Spl g l r.1 r.1
theorem Spl.lo{α:Type}{g:α->Int}{l:List α}{i j m:Nat}{y:α}(hM:JW g l)(h:Spl g l i j)(hy:l[m]?=some y)(hg:g y<0):Spl g l (m+1) j:=
 ⟨λk x hk hx=>hM k m x y (by omega) hx hy hg,h.2⟩
theorem Spl.hi{α:Type}{g:α->Int}{l:List α}{i j m:Nat}{y:α}(hM:JW g l)(h:Spl g l i j)(hy:l[m]?=some y)(hg:¬g y<0):Spl g l i m:=
 ⟨h.1,λk x hk hx hx0=>hg (hM m k y x hk hy hx hx0)⟩
theorem Tn(x:Item)(e:Ent):PS Tryz.prog 168 [AD false x,.fp (BA e).cells] (bA (decide (x.ent=e))):=by
 have hE:=Ir x.ent.n x.ent.gen e.n e.gen;rw[show(decide (x.ent.n=e.n)&&decide (x.ent.gen=e.gen))=MI x.ent e from rfl,MH]at hE;refine Sp (nt:=8) (res:=[.tmp 3]) Tryz.func168 λSf=>?_
 refine WK ?_;refine WK ?_;refine AOps.g_box ?_;refine Ad ?_;(iterate 7 refine WK ?_);refine AOps.gN ?_;refine AOps.p (W.eqP _ _ (by kernel_rfl) hE rfl rfl) rfl ?_;refine JA ?_;refine AF ?_;rfl
def Cd(l:List Item)(e:Ent):Int:=ES l λx=>decide (x.ent=e)
theorem Tl(w:Wd)(e:Ent)(hl:w.items.length<=4611686018427387904):PS Tryz.prog 91 [wdA false w,BA e] (iA (Cd w.items e)):=by
 have h:=Lr w.items 168 [.fp (BA e).cells] (λx=>decide (x.ent=e)) rfl hl (λx _=>Tn x e);refine Sp (nt:=9) (res:=[.tmp 4]) Tryz.func91 λSf=>?_
 refine RG ?_;refine AOps.g_box ?_;refine Ad ?_;refine AOps.g_box ?_;refine Ad ?_;refine JB ?_;refine KK ?_;refine AOps.g_callf ?_;refine AOps.c2 (h:=(h ..)) (k:=?_);refine JA ?_;refine AF ?_;rfl
theorem WJ(c:Comp)(k:Int):PS Tryz.prog 142 [AG false c,iA k] (iA (Cp c.kind k)):=by
 refine Sp (nt:=9) (res:=[.tmp 4]) Tryz.func142 λSf=>?_
 refine WK ?_;refine WK ?_;refine AOps.g_box ?_;refine Ad ?_;refine KK ?_;refine AOps.g_callf ?_;refine AOps.c2 (h:=(E8 c.kind k)) (k:=?_);refine JA ?_;refine AF ?_;rfl
theorem PU(l:List Comp)(t:AV)(f:FuncId)(cap:List AV)(g:Comp->Int)(t0:Int)(ht:t=iA t0)(hs:B6 cap=true)(hl:l.length<=4611686018427387904)(hf:∀x∈l,PS Tryz.prog f (AG false x::t::cap) (iA (g x))):
  Spec Tryz.prog 141 [Ax false false l,t,.fn f cap] [] λr S'=>∃b,Found g l b/\r= .tup [iA b.1,bA b.2]/\S'=[]:=by
 subst ht;refine Sp (nt:=49) (res:=[.tmp 6,.tmp 7]) Tryz.func141 λSf=>?_
 have hlm:(l.map (AG false)).length=l.length:=AB _;refine KK ?_;refine Bq (λ(i j:Nat)=>⟨[(0,Ax false false l),(1,iA t0),(2,.fn f cap),(8,iA (l.map (AG false)).length),(9,iA i),(10,iA j)],Sf⟩) (λi j=>i<=j/\j<=l.length/\(JW g l->Spl g l i j)) (λi j=>j-i) 0 (l.map (AG false)).length ⟨Nat.zero_le _,by omega,λ_=>⟨λk x h=>absurd h (by omega),λk x h hx=>by have:=(List.getElem?_eq_some_iff.1 hx).1;omega⟩⟩ ?_;rintro i j ⟨hij,hjn,hmono⟩;refine KK ?_;refine AWP.cond rfl (λhc=>?_) (λhc=>?_)
 ·have h:i<j:=by rw[AE]at hc;omega
  have hmid:((i:Int)+j).fdiv (2^1)=(((i+j)/2:Nat):Int):=by
   rw[Int.fdiv_eq_ediv_of_nonneg _ (by decide)];omega
  have hw1:IntKind.u64.wrap ((i:Int)+j)=i+j:=by rw[IntKind.wrap_u64];omega
  have hw2:IntKind.i64.wrap (((i:Int)+j).fdiv (2^1))=((i:Int)+j).fdiv (2^1):=by
   rw[IntKind.wrap_i64,hmid];omega
  refine RG ?_;(iterate 3 refine WO ?_);refine AOps.gN ?_;refine AOps.p (W.conv .i64 .u64 (by kernel_rfl) (by kernel_rfl) rfl hw1) rfl ?_;refine AOps.gN ?_;refine AOps.p (W.shr 1 rfl rfl rfl (by decide)) rfl ?_;refine AOps.gN ?_;refine AOps.p (W.conv .u64 .i64 (by kernel_rfl) (by kernel_rfl) rfl hw2) rfl ?_;refine JB ?_;rw[hmid];obtain⟨m,hm⟩:=nm ((i+j)/2);rw[hm];have hml:m<l.length:=by omega
  obtain⟨y,hy⟩:=nm (l[m]);have hya:l[m]?=some y:=by rw[AI hml,hy]
  have hat:(l.map (AG false))[m]?=some (AG false y):=by rw[AH,hya];rfl
  have hfy:=hf y (by rw[<-hy];exact AU hml);refine JG ?_;refine AOps.g_callv ?_;refine AOps.k2 (h:=(hfy ..)) (k:=?_);refine JB ?_;refine AWP.cond rfl (λhe=>?_) (λhe=>?_)
  ·have he:g y<0:=by simpa using he
   refine KK ?_;refine BK (m+1) j ⟨by omega,hjn,λhM=>(hmono hM).lo hM hya he⟩
  ·have he:¬g y<0:=by simpa using he
   refine KK ?_;refine BK i m ⟨by omega,by omega,λhM=>(hmono hM).hi hM hya he⟩
 ·have h:i=j:=by rw[AN]at hc;omega
  subst h;by_cases hin:i<l.length
  ·have hil:i<l.length:=by omega
   have g1:decide ((i:Int)<(l.map (AG false)).length)=true:=Ah (by omega);obtain⟨y,hy⟩:=nm (l[i]);have hya:l[i]?=some y:=by rw[AI hil,hy]
   have hat:(l.map (AG false))[i]?=some (AG false y):=by rw[AH,hya];rfl
   have hfy:=hf y (by rw[<-hy];exact AU hil);refine KK ?_;refine AOps.g_callv ?_;refine AOps.k2 (h:=(hfy ..)) (k:=?_);refine JA ?_;exact⟨[iA i,bA (decide (g y=0))],[iA i,bA (decide (g y=0))],_,[],.cons (.tmp rfl) rfl (.cons (.tmp rfl) rfl .nil),.cons (.cell .same) (.cons (.cell .same) .nil),by exact Sub.f,(i,decide (g y=0)),⟨by simp;omega,by simp[hya],hmono⟩,rfl,rfl⟩
  ·have g1:decide ((i:Int)<(l.map (AG false)).length)=false:=AK (by omega)
   refine JA ?_;exact⟨[iA i,bA false],[iA i,bA false],_,[],.cons (.tmp rfl) rfl (.cons (.tmp rfl) rfl .nil),.cons (.cell .same) (.cons (.cell .same) .nil),by exact Sub.f,(i,false),⟨by simp;omega,by simp[List.getElem?_eq_none (show l.length<=i by omega)],hmono⟩,rfl,rfl⟩
theorem Wx(l:List Comp)(k:Int)(hl:l.length<=4611686018427387904):Spec Tryz.prog 70 [Ax false false l,iA k] [] λr S'=>∃b,Found (λc:Comp=>Cp c.kind k) l b/\r= .tup [iA b.1,bA b.2]/\S'=[]:=by
 have h:=PU l (iA k) 142 [] (λc=>Cp c.kind k) k rfl rfl hl (λx _=>WJ x k);refine Sp (nt:=11) (res:=[.tmp 4,.tmp 5]) Tryz.func70 λSf=>?_
 refine R1 ?_;refine JG ?_;refine Vj (h:=h) λb hb=>?_
 refine KO ?_;refine FL ?_;refine RT ?_;exact⟨[iA b.1,bA b.2],[iA b.1,bA b.2],_,[],.cons (.tmp rfl) rfl (.cons (.tmp rfl) rfl .nil),.cons (.cell .same) (.cons (.cell .same) .nil),by exact Sub.f,b,hb,rfl,rfl⟩
theorem Es(l:List Int)(hl:l.length*8<=140737488355328):PS Tryz.prog 58 [.lst false 3 1 (l.map iA)] (.lst true 3 1 (l.map iA)):=by
 refine Sp (nt:=8) (res:=[.tmp 2]) Tryz.func58 λSf=>?_
 (iterate 8 refine WK ?_);refine AOps.gN ?_;refine AOps.isNil λb hb=>?_;refine KK ?_
 refine AWP.cond rfl (λhc=>?_) (λhc=>?_)
 ·rw[hb hc]
  refine JA ?_;exact⟨[.prim (.slice none 0 0)],[.lst true 3 1 []],_,[],.cons (.tmp rfl) rfl .nil,.cons (.cell .nil) .nil,by exact Sub.f,rfl,rfl⟩
 ·have hl':(0+(l.map iA).length)*8<=140737488355328:=by simpa using hl
  clear hl
  (iterate 3 refine WK ?_);refine AOps.g_lit ?_;refine Mv λK=>?_;refine KK ?_;refine Ay λY=>?_;refine KK ?_
  refine RT ?_;exact⟨[.sl Y 0 (0+(l.map iA).length)],[.lst true 3 1 (l.map iA)],_,[],.cons (.tmp rfl) rfl .nil,.cons (.cell (.sl (p:=0) .here (by simp))) .nil,by exact Sub.f,rfl,rfl⟩
def CZ(l:List Comp):Prop:=l.Pairwise λa b=>a.kind<b.kind
theorem HB{ks:List Kind}:∀{l:List Comp} {last:Int},Cm ks last l=true->CZ l/\∀c∈l,last<c.kind/\c.kind<ks.length
 |[],_,_=>⟨.nil,λc hc=>by cases hc⟩
 |c::l,last,h=>by
  rw[Cm]at h;split at h
  ·simp only[Bool.and_eq_true,AE]at h
   obtain⟨h1,h2⟩:=HB h.2;refine⟨List.pairwise_cons.2 ⟨λd hd=>(h2 d hd).1,h1⟩,λd hd=>?_⟩;rcases List.mem_cons.1 hd with rfl|hd
   ·exact⟨h.1.1.1,h.1.1.2⟩
   ·exact⟨by have:=(h2 d hd).1;have:=h.1.1.1;omega,(h2 d hd).2⟩
  ·cases h
theorem NX{a b:Int}:Cp a b<0↔a<b:=by
 unfold Cp;split
 ·simp;assumption
 ·split<;>simp<;>omega
theorem cmpI_eq{a b:Int}:Cp a b=0↔a=b:=by
 unfold Cp;split
 ·simp;omega
 ·split<;>simp<;>omega
theorem PQ{l:List Comp}(h:CZ l)(k:Int):JW (λc:Comp=>Cp c.kind k) l:=by
 intro a b x y hab hx hy hy0;rw[NX]at hy0⊢;by_cases e:a=b
 ·subst e;rw[hx]at hy;cases hy;exact hy0
 ·obtain⟨ha,rfl⟩:=List.getElem?_eq_some_iff.1 hx
  obtain⟨hb,rfl⟩:=List.getElem?_eq_some_iff.1 hy;have:=List.pairwise_iff_getElem.1 h a b ha hb (by omega);omega
theorem SB{l:List Comp}{k:Int}{b:Nat×Bool}(h:Found (λc:Comp=>Cp c.kind k) l b)(hb:b.2=true):∃c,l[b.1]?=some c/\c.kind=k:=by
 obtain⟨c,hc,h0⟩:=h.eq.1 hb;exact⟨c,hc,cmpI_eq.1 h0⟩
theorem Ti{l:List Comp}{k:Int}{b:Nat×Bool}(h:Found (λc:Comp=>Cp c.kind k) l b)(hs:CZ l)(hb:b.2=false):∀c∈l,c.kind≠k:=by
 intro c hc e;obtain⟨j,hj,rfl⟩:=List.getElem_of_mem hc;obtain⟨h1,h2⟩:=h.mono (PQ hs k);have hne:¬∃x,l[b.1]?=some x/\Cp x.kind k=0:=λhx=>by rw[h.eq.2 hx]at hb;cases hb
 have hjb:b.1<=j:=by
  rcases Nat.lt_or_ge j b.1 with hlt|hge
  ·have:=h1 j _ hlt (AI hj)
   rw[NX]at this;omega
  ·exact hge
 have hbl:b.1<l.length:=by omega
 have h3:=h2 b.1 _ (Nat.le_refl _) (AI hbl);rw[NX]at h3;by_cases e2:j=b.1
 ·subst e2
  exact hne ⟨_,AI hj,cmpI_eq.2 e⟩
 ·have:=List.pairwise_iff_getElem.1 hs b.1 j hbl hj (by omega)
  omega
def BH(l:List Comp)(k:Int):Option Comp:=l.find? λc=>decide (c.kind=k)
theorem QH{l:List Comp}{k:Int}{c:Comp}(hs:CZ l)(hc:c∈l)(hk:c.kind=k):BH l k=some c:=by
 induction l with
 |nil=>cases hc
 |cons a l ih=>
  obtain⟨h1,h2⟩:=List.pairwise_cons.1 hs;unfold BH;rw[List.find?_cons];rcases List.mem_cons.1 hc with rfl|hc
  ·simp[hk]
  ·have:¬a.kind=k:=by have:=h1 c hc;omega
   simp only[this,decide_false];exact ih h2 hc
theorem It{l:List Comp}{k:Int}(h:∀c∈l,c.kind≠k):BH l k=none:=by
 unfold BH;rw[List.find?_eq_none];intro c hc;simpa using h c hc
def OY(w:Wd)(e:Ent)(k:Int):List Int×Int:=
 if Cr w≠0 then([],Cr w)else match w.items.find? (λit=>decide (it.ent=e))with
  |none=>([],4)
  |some it=>match BH it.comps k with
   |none=>([],4)
   |some c=>(c.vals,0)
theorem K5{l:List Item}{e:Ent}(h:Cd l e<0):l.find? (λit=>decide (it.ent=e))=none:=by
 unfold Cd ES at h;split at h
 ·omega
 ·rename_i h2
  rw[List.findIdx?_eq_none_iff]at h2;rw[List.find?_eq_none];intro x hx;rw[h2 x hx];simp
theorem F4{l:List Item}{e:Ent}{n:Nat}(h:Cd l e=n):∃it,l[n]?=some it/\l.find? (λit=>decide (it.ent=e))=some it/\it.ent=e:=by
 unfold Cd ES at h;split at h
 ·rename_i i h2
  have:i=n:=by omega
  subst this;obtain⟨hi,h3,h4⟩:=List.findIdx?_eq_some_iff_getElem.1 h2;refine⟨l[i],AI hi,?_,by simpa using h3⟩;rw[List.find?_eq_some_iff_getElem];exact⟨h3,i,hi,rfl,λj hj=>by simpa using h4 j hj⟩
 ·omega
theorem Kk{ks:List Kind}{gens:List Int}:∀{l:List Item} {last:Int},CB ks gens last l=true->∀it∈l,A8 ks it.comps=true
 |[],_,_,it,hit=>by cases hit
 |x::l,last,h,it,hit=>by
  rw[CB]at h;split at h
  ·simp only[Bool.and_eq_true]at h
   rcases List.mem_cons.1 hit with rfl|hit
   ·exact h.1.2
   ·exact Kk h.2 it hit
  ·cases h
theorem Ud{w:Wd}(h:Cr w=0):∀it∈w.items,A8 w.kinds it.comps=true:=by
 unfold Cr at h;split at h
 ·exact absurd h ‹_›
 ·split at h
  ·cases h
  ·split at h
   ·cases h
   ·split at h
    ·cases h
    ·rename_i hi
     exact Kk (by simpa using hi)
theorem Uc{w:Wd}(h:Cr w=0):∀it∈w.items,CZ it.comps:=λit hit=>(HB (Ud h it hit)).1
theorem WG(w:Wd)(e:Ent)(k:Int)(hw:WdL w):PS Tryz.prog 33 [wdA false w,BA e,iA k] (.tup [AM true (OY w e k).1,iA (OY w e k).2]):=by
 have hck:=Et w hw.gens hw.items.1 (λit hit=>(hw.items.2 it hit).1);have hfd:=Tl w e (by have:=hw.items.1;omega);obtain⟨r,hr⟩:=nm (OY w e k);rw[hr];unfold OY at hr;obtain⟨we,hwe⟩:=nm (Cr w);rw[hwe]at hck hr;refine Sp (nt:=46) (res:=[.tmp 6,.tmp 7]) Tryz.func33 λSf=>?_
 refine RG ?_;refine AOps.g_box ?_;refine Ad ?_;refine AOps.g_box ?_;refine Ad ?_;refine JE ?_;refine JF ?_;refine AOps.g_callf ?_;refine AOps.c1 (h:=(hck ..)) (k:=?_);refine JB ?_;refine KK ?_;refine AWP.cond rfl (λhd=>?_) (λhd=>?_)
 ·have hd:we≠0:=by simpa using hd
  rw[if_pos hd]at hr;subst hr;refine JA ?_;exact⟨[.prim (.slice none 0 0),iA we],[AM true [],iA we],_,[],.cons (.tmp rfl) rfl (.cons (.tmp rfl) rfl .nil),.cons (.cell .nil) (.cons (.cell .same) .nil),by exact Sub.f,rfl,rfl⟩
 have hd:we=0:=by simpa using hd
 rw[if_neg (by simp[hd])]at hr;have hsort:=Uc (hwe.trans hd);refine JG ?_;refine AOps.g_callf ?_;refine AOps.c2 (h:=(hfd ..)) (k:=?_);refine JB ?_;refine KK ?_;refine AWP.cond rfl (λhg=>?_) (λhg=>?_)
 ·have hg:Cd w.items e<0:=by simpa using hg
  rw[K5 hg]at hr;subst hr;refine JA ?_;exact⟨[.prim (.slice none 0 0),iA 4],[AM true [],iA 4],_,[],.cons (.tmp rfl) rfl (.cons (.tmp rfl) rfl .nil),.cons (.cell .nil) (.cons (.cell .same) .nil),by exact Sub.f,rfl,rfl⟩
 obtain⟨n,hn⟩:∃n:Nat,Cd w.items e=n:=⟨(Cd w.items e).toNat,by(have:¬Cd w.items e<0:=by simpa using hg);(omega)⟩;rw[hn];obtain⟨⟨en,cs⟩,hit,hfi,hen⟩:=F4 hn;rw[hfi]at hr;dsimp only at hr;have hmem:=Aq hit;have hcl:=hw.items.2 _ hmem;have hsc:=hsort _ hmem;dsimp only at hcl hsc;have hat:(w.items.map (AD false))[n]?=some (AD false ⟨en,cs⟩):=by rw[AH,hit];rfl
 have hap:=Wx cs k (by have:=hcl.1;omega);refine JI ?_;refine Vk (h:=hap) λb hb=>?_
 obtain⟨bi,bb⟩:=b;cases bb
 ·have hno:=Ti hb hsc rfl
  rw[It hno]at hr;subst hr;dsimp only;refine KO ?_;refine FL ?_;refine KK ?_;refine AL rfl rfl ?_;refine JA ?_;exact⟨[.prim (.slice none 0 0),iA 4],[AM true [],iA 4],_,[],.cons (.tmp rfl) rfl (.cons (.tmp rfl) rfl .nil),.cons (.cell .nil) (.cons (.cell .same) .nil),by exact Sub.f,rfl,rfl⟩
 ·obtain⟨c,hc,hck'⟩:=SB hb rfl
  dsimp only at hc;have hcm:=Aq hc;rw[QH hsc hcm hck']at hr;subst hr;obtain⟨ckd,cv⟩:=c;have hvl:=hcl.2 _ hcm;dsimp only at hvl;have hat2:(cs.map (AG false))[bi]?=some (AG false ⟨ckd,cv⟩):=by rw[AH,hc];rfl
  have hcn:=Es cv (by omega);dsimp only;refine KO ?_;refine FL ?_;refine KK ?_;refine AA rfl rfl ?_;refine KK ?_;refine AOps.g_callf ?_;refine AOps.t1 (h:=hcn) λY=>?_;refine KK ?_
  refine RT ?_;exact⟨[.sl Y 0 (cv.map iA).length,iA 0],[AM true cv,iA 0],_,[],.cons (.tmp rfl) rfl (.cons (.tmp rfl) rfl .nil),.cons (.cell (.sl (p:=0) .here rfl)) (.cons (.cell .same) .nil),by exact Sub.f,rfl,rfl⟩
def GG(l:List Comp):List Comp:=l.mergeSort λa b=>decide (a.kind<=b.kind)
def Cn(ks:List Kind):List Comp->List Comp->List Comp->List Comp×Int
 |_,out,[]=>(out,0)
 |pre,out,c::l=>
  if c.kind<0\/(ks.length:Int)<=c.kind then([],1)else if pre.any (λo=>decide (o.kind=c.kind))then([],5)else
  match ks[c.kind.toNat]? with
  |none=>([],1)
  |some k=>if(BY k c.vals).2≠0 then([],(BY k c.vals).2)else Cn ks (pre++[c]) (out++[⟨c.kind,(BY k c.vals).1⟩]) l
def CL(ks:List Kind)(l:List Comp):List Comp×Int:=
 if Al ks≠0 then([],Al ks)else if(Cn ks [] [] l).2≠0 then([],(Cn ks [] [] l).2)else(GG (Cn ks [] [] l).1,0)
theorem K1{ks:List Kind}:∀{l pre out:List Comp},(Cn ks pre out l).2=0->(∀a∈out,∃b∈pre,b.kind=a.kind)->out.Pairwise (λa b=>a.kind≠b.kind)->(∀a∈out,0<=a.kind/\a.kind<ks.length)->
  (Cn ks pre out l).1.Pairwise (λa b=>a.kind≠b.kind)/\∀a∈(Cn ks pre out l).1,0<=a.kind/\a.kind<ks.length
 |[],pre,out,h,h1,h2,h3=>⟨h2,h3⟩
 |c::l,pre,out,h,h1,h2,h3=>by
  rw[Cn]at h⊢;split at h
  ·cases h
  ·rename_i g1
   rw[if_neg g1];split at h
   ·cases h
   ·rename_i g2
    rw[if_neg g2];split at h
    ·cases h
    ·rename_i k hk
     split at h
     ·rename_i g3;exact absurd h g3
     ·rename_i g3
      (try simp only[hk])
      rw[if_neg g3];refine K1 h (λa ha=>?_) ?_ (λa ha=>?_)
      ·rcases List.mem_append.1 ha with ha|ha
       ·obtain⟨b,hb,e⟩:=h1 a ha
        exact⟨b,by simp[hb],e⟩
       ·rw[List.mem_singleton.1 ha]
        exact⟨c,by simp,rfl⟩
      ·rw[List.pairwise_append]
       refine⟨h2,by simp,λa ha b hb e=>?_⟩;rw[List.mem_singleton.1 hb]at e;obtain⟨b2,hb2,e2⟩:=h1 a ha;exact g2 (List.any_eq_true.2 ⟨b2,hb2,by simpa using e2.trans e⟩)
      ·rcases List.mem_append.1 ha with ha|ha
       ·exact h3 a ha
       ·rw[List.mem_singleton.1 ha];exact⟨by dsimp only;omega,by dsimp only;omega⟩
theorem GQ{α:Type}(g:α->Int):∀(n:Nat) (l:List α),l.Pairwise (λa b=>g a≠g b)->(∀a∈l,0<=g a/\g a<n)->l.length<=n:=by
 intro n l h1 h2
 have h3:(l.map λa=>(g a).toNat).Nodup:=by
  rw[List.Nodup,List.pairwise_map];refine h1.imp_of_mem λ{a b} ha hb e=>?_
  have:=h2 a ha;have:=h2 b hb;omega
 have h4:=List.Nodup.length_le_of_subset h3 (l₂:=List.range n) (λx hx=>by
  obtain⟨a,ha,rfl⟩:=List.mem_map.1 hx;have:=h2 a ha;exact List.mem_range.2 (by omega))
 simpa using h4
theorem Ft(l:List Comp):(GG l).Perm l:=List.mergeSort_perm _ _
theorem Ki{l u:List Comp}(hd:l.Pairwise (λa b=>a.kind≠b.kind))(hp:u.Perm l)(hs:u.Pairwise (λa b=>a.kind<=b.kind)):u=GG l:=by
 refine List.Perm.eq_of_pairwise (le:=λa b=>a.kind<=b.kind) (λa b ha hb h1 h2=>?_) hs ?_ (hp.trans (Ft l).symm)
 ·have hb':b∈l:=(Ft l).mem_iff.1 hb
  have ha':a∈l:=hp.mem_iff.1 ha;obtain⟨i,hi,rfl⟩:=List.getElem_of_mem ha';obtain⟨j,hj,rfl⟩:=List.getElem_of_mem hb';have:=List.pairwise_iff_getElem.1 hd;rcases Nat.lt_trichotomy i j with x|x|x
  ·exact absurd (by omega) (this i j hi hj x)
  ·subst x;rfl
  ·exact absurd (by omega) (this j i hj hi x)
 ·have:=List.pairwise_mergeSort (le:=λa b:Comp=>decide (a.kind<=b.kind)) (λa b c h1 h2=>by simp at*;omega) (λa b=>by simp;omega) l
  exact this.imp λh=>by simpa using h
theorem NQ{l:List Comp}(hd:l.Pairwise (λa b=>a.kind≠b.kind)):CZ (GG l):=by
 have h1:(GG l).Pairwise (λa b=>a.kind<=b.kind):=by
  have:=List.pairwise_mergeSort (le:=λa b:Comp=>decide (a.kind<=b.kind)) (λa b c h1 h2=>by simp at*;omega) (λa b=>by simp;omega) l;exact this.imp λh=>by simpa using h
 have h2:(GG l).Pairwise (λa b=>a.kind≠b.kind):=(Ft l).symm.pairwise hd (λh=>Ne.symm h);exact(h1.and h2).imp λh=>by obtain⟨a,b⟩:=h;omega
def Ci(l:List Comp)(k:Int):Nat:=(l.takeWhile λc=>decide (c.kind<k)).length
def Fg:List Comp->Comp->List Comp
 |[],c=>[c]
 |x::l,c=>if x.kind<c.kind then x::Fg l c else if x.kind=c.kind then c::l else c::x::l
def Fi(l:List Comp)(k:Int):List Comp:=l.filter λc=>!decide (c.kind=k)
def Db(w:Wd)(i:Nat)(cs:List Comp):Wd:=⟨w.kinds,w.gens,match w.items[i]? with|some it=>w.items.set i ⟨it.ent,cs⟩|none=>w.items⟩
def DR(w:Wd)(e:Ent)(c:Comp):Wd×Int:=
 if Cr w≠0 then(⟨[],[],[]⟩,Cr w)else if Cd w.items e<0 then(⟨[],[],[]⟩,4)else
 if(CL w.kinds [c]).2≠0 then(⟨[],[],[]⟩,(CL w.kinds [c]).2)else
 match w.items[(Cd w.items e).toNat]?,(CL w.kinds [c]).1 with
 |some it,[d]=>(Db w (Cd w.items e).toNat (Fg it.comps d),0)
 |_,_=>(⟨[],[],[]⟩,0)
def E6(w:Wd)(e:Ent)(k:Int):Wd×Int:=
 if Cr w≠0 then(⟨[],[],[]⟩,Cr w)else if Cd w.items e<0 then(⟨[],[],[]⟩,4)else
 match w.items[(Cd w.items e).toNat]? with
 |some it=>if(BH it.comps k).isSome then(Db w (Cd w.items e).toNat (Fi it.comps k),0)else(⟨[],[],[]⟩,4)
 |none=>(⟨[],[],[]⟩,4)
def EB(w:Wd)(e:Ent):Wd×Int:=
 if Cr w≠0 then(⟨[],[],[]⟩,Cr w)else if Cd w.items e<0 then(⟨[],[],[]⟩,4)else
 (⟨w.kinds,w.gens.set e.n.toNat (w.gens.getD e.n.toNat 0+1),w.items.eraseIdx (Cd w.items e).toNat⟩,0)
def Ck(gens:List Int)(n:Nat):List Int:=if n=gens.length then gens++[0]else gens
def Ih:List Item->Item->List Item
 |[],it=>[it]
 |x::l,it=>if x.ent.n<it.ent.n then x::Ih l it else it::x::l
def DL(w:Wd)(l:List Comp):Wd×Ent×Int:=
 if Cr w≠0 then(⟨[],[],[]⟩,⟨0,0⟩,Cr w)else if(CL w.kinds l).2≠0 then(⟨[],[],[]⟩,⟨0,0⟩,(CL w.kinds l).2)else
 if(Bg w).2=false then(⟨[],[],[]⟩,⟨0,0⟩,6)else
 (⟨w.kinds,Ck w.gens (Bg w).1,Ih w.items ⟨⟨(Bg w).1,(Ck w.gens (Bg w).1).getD (Bg w).1 0⟩,(CL w.kinds l).1⟩⟩,⟨(Bg w).1,(Ck w.gens (Bg w).1).getD (Bg w).1 0⟩,0)
theorem HE(i c:Nat)(l:List Int):(Bb i c l).1.length=c:=by
 induction c generalizing i l with
 |zero=>rfl
 |succ c ih=>simp[Bb,ih]
theorem Jf(i c:Nat)(l:List Int):(Bb i c l).1.map (·.name)=(List.range' i c).map Ce:=by
 induction c generalizing i l with
 |zero=>rfl
 |succ c ih=>
  have:(CX i l).1.name=Ce i:=by unfold CX;split<;>rfl
  simp[Bb,ih,List.range'_succ,this]
theorem Im(k c:Nat)(l:List Int):(BG k c l).1.length=c:=by
 induction c generalizing k l with
 |zero=>rfl
 |succ c ih=>simp[BG,ih]
theorem Ha(k c:Nat)(l:List Int):(BG k c l).1.map (·.name)=(List.range' k c).map Dy:=by
 induction c generalizing k l with
 |zero=>rfl
 |succ c ih=>simp[BG,ih,List.range'_succ,DO]
theorem IA(i:Nat):Cv (Ce i)=true:=by
 unfold Ce;split<;>decide
theorem OQ(i:Nat):Cv (Dy i)=true:=by
 unfold Dy;split<;>decide
theorem Oc(i:Nat)(l:List Int):Au (CX i l).1=0:=by
 have h1:=Af l (n:=9) (by omega);have h2:=Af (Ae l 9) (n:=40) (by omega);unfold CX;split
 ·simp[Au,IA]
 ·simp[Au,IA]
  omega
theorem H7(i c:Nat)(l:List Int):∀f∈(Bb i c l).1,Au f=0:=by
 induction c generalizing i l with
 |zero=>intro f h;simp[Bb]at h
 |succ c ih=>
  intro f h;simp only[Bb,BR]at h;rcases h with rfl|h
  ·exact Oc i l
  ·exact ih _ _ f h
theorem K9:∀(fs pre:List Field),(∀f∈fs,Au f=0)->((pre++fs).map (·.name)).Nodup->Bk pre fs=0:=by
 intro fs
 induction fs with
 |nil=>intro pre _ _;rfl
 |cons f fs ih=>
  intro pre h hn;have h1:=h f (by simp)
  have h2:pre.any (λo=>o.name==f.name)=false:=by
   rw[List.any_eq_false];intro o ho;simp only[beq_iff_eq];intro e;rw[List.map_append,List.nodup_append]at hn;exact hn.2.2 o.name (List.mem_map_of_mem ho) f.name (by simp) e
  simp only[Bk,h1,h2];simp;exact ih _ (λx hx=>h x (by simp[hx])) (by simpa using hn)
theorem Lp:∀(ks pre:List Kind),(∀k∈ks,BZ k=0)->((pre++ks).map (·.name)).Nodup->By pre ks=0:=by
 intro fs
 induction fs with
 |nil=>intro pre _ _;rfl
 |cons f fs ih=>
  intro pre h hn;have h1:=h f (by simp)
  have h2:pre.any (λo=>o.name==f.name)=false:=by
   rw[List.any_eq_false];intro o ho;simp only[beq_iff_eq];intro e;rw[List.map_append,List.nodup_append]at hn;exact hn.2.2 o.name (List.mem_map_of_mem ho) f.name (by simp) e
  simp only[By,h1,h2];simp;exact ih _ (λx hx=>h x (by simp[hx])) (by simpa using hn)
theorem Iq{c:Nat}(h:c<=3):((List.range' 0 c).map Ce).Nodup:=by
 have:c=0\/c=1\/c=2\/c=3:=by omega
 rcases this with rfl|rfl|rfl|rfl<;>decide
theorem Ja{c:Nat}(h:c<=4):((List.range' 0 c).map Dy).Nodup:=by
 have:c=0\/c=1\/c=2\/c=3\/c=4:=by omega
 rcases this with rfl|rfl|rfl|rfl|rfl<;>decide
theorem P4(k:Nat)(l:List Int):BZ (DO k l).1=0:=by
 have h1:=Af l (n:=3) (by omega);have h2:(1+Ao l 3).toNat<=3:=by omega
 have h3:=K9 (Bb 0 (1+Ao l 3).toNat (Ae l 3)).1 [] (H7 _ _ _) (by
  rw[BD,Jf];exact Iq h2)
 have h4:=HE 0 (1+Ao l 3).toNat (Ae l 3);unfold BZ DO;simp only[OQ,h3,h4,if_true];rw[if_neg (by omega)]
theorem Je(i c:Nat)(l:List Int):∀f∈(BG i c l).1,BZ f=0:=by
 induction c generalizing i l with
 |zero=>intro f h;simp[BG]at h
 |succ c ih=>
  intro f h;simp only[BG,BR]at h;rcases h with rfl|h
  ·exact P4 i l
  ·exact ih _ _ f h
theorem NS(l:List Int):1<=(As l).1.length/\(As l).1.length<=4:=by
 have h:=Af l (n:=4) (by omega);unfold As;rw[Im];omega
theorem Kw(l:List Int):((As l).1.map (·.name)).Nodup:=by
 have h:=Af l (n:=4) (by omega);unfold As;rw[Ha];exact Ja (by omega)
theorem JO(l:List Int):∀k∈(As l).1,BZ k=0:=Je _ _ _
theorem Kx(l:List Int):Al (As l).1=0:=by
 unfold Al;have:=NS l;rw[if_neg (by omega)];exact Lp _ [] (JO l) (Kw l)
theorem OF{f:Field}(h:Au f=0)(v:Int):f.low<=BU f v/\BU f v<=EC f:=by
 have:=MW h;unfold BU;rw[if_pos h];omega
theorem Qt{f:Field}(h:Au f=0){v:Int}(h1:f.low<=v)(h2:v<=EC f):BU f v=v:=by
 unfold BU;rw[if_pos h];omega
theorem MP{f:Field}(h:Au f=0)(v:Int):BU f (BU f v)=BU f v:=Qt h (OF h v).1 (OF h v).2
theorem Rm{fs:List Field}(h:∀f∈fs,Au f=0)(vals:List Int):List.zipWith BU fs (List.zipWith BU fs vals)=List.zipWith BU fs vals:=by
 induction fs generalizing vals with
 |nil=>rfl
 |cons f fs ih=>
  cases vals with
  |nil=>rfl
  |cons v vals=>simp[MP (h f (by simp)),ih (λx hx=>h x (by simp[hx]))]
theorem H8{k:Kind}(h:BZ k=0){vals:List Int}(hl:vals.length=k.fields.length):BY k vals=(List.zipWith BU k.fields vals,0):=by
 unfold BY;rw[if_neg (by simp[h]),if_neg (by simp[hl])]
theorem Ky(k:Nat)(l:List Int):(∀f∈(DO k l).1.fields,Au f=0)/\(DO k l).1.fields.length<=3:=by
 have h1:=Af l (n:=3) (by omega);refine⟨H7 _ _ _,?_⟩;show(Bb _ _ _).1.length<=3
 rw[HE];omega
theorem G7(i c:Nat)(l:List Int):∀k∈(BG i c l).1,(∀f∈k.fields,Au f=0)/\k.fields.length<=3:=by
 induction c generalizing i l with
 |zero=>intro f h;simp[BG]at h
 |succ c ih=>
  intro f h;simp only[BG,BR]at h;rcases h with rfl|h
  ·exact Ky i l
  ·exact ih _ _ f h
theorem Jd(l:List Int):∀k∈(As l).1,(∀f∈k.fields,Au f=0)/\k.fields.length<=3:=G7 _ _ _
def vAt(fs:List Field)(l:List Int):Nat->List Int×List Int
 |0=>([],l)
 |i+1=>match fs[i]? with
  |some f=>((vAt fs l i).1++[f.low+Ao (vAt fs l i).2 (2^f.bits.toNat)],Ae (vAt fs l i).2 (2^f.bits.toNat))
  |none=>vAt fs l i
def cAt(ks:List Kind)(l:List Int):Nat->List Comp×List Int
 |0=>([],l)
 |i+1=>match ks[i]? with
  |some k=>if Ao (cAt ks l i).2 3=2 then((cAt ks l i).1,Ae (cAt ks l i).2 3)
   else((cAt ks l i).1++[⟨i,(vAt k.fields (Ae (cAt ks l i).2 3) k.fields.length).1⟩],(vAt k.fields (Ae (cAt ks l i).2 3) k.fields.length).2)
  |none=>cAt ks l i
def Cg(ks:List Kind)(l:List Int):List Comp×List Int:=cAt ks l ks.length
def wAt(ks:List Kind)(l:List Int):Nat->List Int×List Item×List Int
 |0=>([],[],l)
 |i+1=>
  if Ao (Ae (wAt ks l i).2.2 3) 4=3\/(wAt ks l i).2.1.length=8 then((wAt ks l i).1++[Ao (wAt ks l i).2.2 3],(wAt ks l i).2.1,Ae (Ae (wAt ks l i).2.2 3) 4)
  else((wAt ks l i).1++[Ao (wAt ks l i).2.2 3],(wAt ks l i).2.1++[⟨⟨i,Ao (wAt ks l i).2.2 3⟩,(Cg ks (Ae (Ae (wAt ks l i).2.2 3) 4)).1⟩],(Cg ks (Ae (Ae (wAt ks l i).2.2 3) 4)).2)
def DE(l:List Int):Wd:=
 ⟨(As l).1,(wAt (As l).1 (Ae (As l).2 12) (Ao (As l).2 12).toNat).1,(wAt (As l).1 (Ae (As l).2 12) (Ao (As l).2 12).toNat).2.1⟩
def Ej(f:Field):Prop:=0<=f.bits/\f.bits<=32/\ -2147483648<=f.low/\f.low<=2147483648
def FR(ks:List Kind):Prop:=ks.length<=1099511627776/\∀k∈ks,k.fields.length<=1099511627776/\∀f∈k.fields,Ej f
theorem Ug(fs:List Field)(l:List Int)(i:Nat):(vAt fs l i).1.length<=i:=by
 induction i with
 |zero=>simp[vAt]
 |succ i ih=>rw[vAt];split<;>(try simp only[AP,List.length_singleton])<;>omega
theorem VP(ks:List Kind)(l:List Int)(i:Nat):(cAt ks l i).1.length<=i:=by
 induction i with
 |zero=>simp[cAt]
 |succ i ih=>rw[cAt];split<;>(try split)<;>(try simp only[AP,List.length_singleton])<;>omega
theorem Np{fs:List Field}{l:List Int}{i:Nat}(h:i<fs.length):vAt fs l (i+1)=((vAt fs l i).1++[fs[i].low+Ao (vAt fs l i).2 (2^fs[i].bits.toNat)],Ae (vAt fs l i).2 (2^fs[i].bits.toNat)):=by
 rw[vAt,AI h]
theorem Na{ks:List Kind}{l:List Int}{i:Nat}(h:i<ks.length)(h2:Ao (cAt ks l i).2 3=2):cAt ks l (i+1)=((cAt ks l i).1,Ae (cAt ks l i).2 3):=by
 rw[cAt,AI h];simp only;rw[if_pos h2]
theorem NZ{ks:List Kind}{l:List Int}{i:Nat}(h:i<ks.length)(h2:Ao (cAt ks l i).2 3≠2):cAt ks l (i+1)=((cAt ks l i).1++[⟨i,(vAt ks[i].fields (Ae (cAt ks l i).2 3) ks[i].fields.length).1⟩],(vAt ks[i].fields (Ae (cAt ks l i).2 3) ks[i].fields.length).2):=by
 rw[cAt,AI h];simp only;rw[if_neg h2]
theorem MM{b:Nat}(h:b<=32):(1:Int)<=2^b/\(2:Int)^b<=4294967296:=by
 have h1:(2:Nat)^b<=2^32:=Nat.pow_le_pow_right (by decide) h;have h2:0<(2:Nat)^b:=Nat.pow_pos (by decide);have h3:((2:Int)^b)=(((2:Nat)^b:Nat):Int):=by simp
 rw[h3];have:(2:Nat)^32=4294967296:=by decide
 omega
theorem On(G:Nat)(ks:List Kind)(l:List Int)(hk:FR ks):PO Tryz.prog 53 [Ag false false ks,.ptr G 0 0] G (Bd l) (Ax true false (Cg ks l).1) (Bd (Cg ks l).2):=by
 refine Sp (nt:=50) (res:=[.tmp 4]) Tryz.func53 λSf=>?_
 obtain⟨hk0,hk1⟩:=hk;refine R1 ?_;refine R1 ?_;refine JN ?_;refine AWP.adopt (d:=5) 42 2 rfl λK=>?_
 refine RC (λ(i K:Nat) (M:List AV) (n:Nat) (q:List Int)=>⟨[(1,.ptr G 0 0),(5,.sl K 0 n),(11,Ag false false ks),(12,iA (ks.map (A7 false)).length),(13,iA i)],(K,.row 42 2 M)::(G,Bd q)::Sf⟩) (λi _ M n q=>i<=ks.length/\M=(cAt ks l i).1.map (AG false)/\n=M.length/\q=(cAt ks l i).2) (λi _ _ _ _=>ks.length-i) 0 K [] 0 l ⟨Nat.zero_le _,rfl,rfl,rfl⟩ ?_;rintro i K M n q ⟨hi,hM,hn,hq⟩;refine KK ?_;refine AWP.cond rfl (λhc=>?_) (λhc=>?_)
 ·have h:i<ks.length:=by simpa using hc
  obtain⟨hf0,hf1⟩:=hk1 _ (AU h);have h3:=Af q (n:=3) (by decide);have hn1:n+1<=1099511627776:=by have:=VP ks l i;rw[hn,hM,AB];omega
  refine KK ?_;refine Ai λX=>?_;refine KK ?_;refine AOps.g_callf ?_;refine AOps.o2 (h:=(CP G _ _ (by decide))) (k:=?_);refine KK ?_
  refine AWP.cond rfl (λhe=>?_) (λhe=>?_)
  ·have he:Ao q 3=2:=by simpa using he
   refine KK ?_;refine Kb (i+1) K M n _ ⟨h,?_,hn,?_⟩
   ·rw[Na h (hq▸he),hM]
   ·rw[Na h (hq▸he),hq]
  ·have he:Ao q 3≠2:=by simpa using he
   refine JG ?_;refine Ai λY=>?_;refine JB ?_
   refine AWP.adoptIn (Y:=Y) 3 1 .here (λF=>.cons (.agg (.cons .same (.cons (.base .nil) .nil))) .nil) λF=>?_
   refine KK ?_;obtain⟨fs,hfs⟩:=nm (ks[i].fields);obtain⟨q1,hq1⟩:=nm (Ae q 3);rw[hq1,hfs];have hck:cAt ks l (i+1)=((cAt ks l i).1++[⟨i,(vAt fs q1 fs.length).1⟩],(vAt fs q1 fs.length).2):=by rw[NZ h (hq▸he),<-hq,hq1,hfs]
   rw[hfs]at hf0 hf1;refine RC (λ(j F:Nat) (L:List AV) (m:Nat) (r:List Int)=>⟨[(1,.ptr G 0 0),(5,.sl K 0 n),(6,iA i),(8,.ptr Y 0 0),(11,Ag false false ks),(12,iA (ks.map (A7 false)).length),(13,iA i),(24,Ef false fs),(25,iA (fs.map fieldA).length),(26,iA j)],(F,.row 3 1 L)::(Y,.row 42 2 [.agg [iA i,.sl F 0 m]])::(K,.row 42 2 M)::(G,Bd r)::Sf⟩) (λj _ L m r=>j<=fs.length/\L=(vAt fs q1 j).1.map iA/\m=L.length/\r=(vAt fs q1 j).2) (λj _ _ _ _=>fs.length-j) 0 F [] 0 q1 ⟨Nat.zero_le _,rfl,rfl,rfl⟩ ?_;rintro j F L m r ⟨hj,hL,hm,hr⟩;refine KK ?_;refine AWP.cond rfl (λhd=>?_) (λhd=>?_)
   ·have hj':j<fs.length:=by simpa using hd
    obtain⟨hb0,hb1,hl0,hl1⟩:=hf1 _ (AU hj');obtain⟨b,hb⟩:∃b:Nat,fs[j].bits=b:=⟨fs[j].bits.toNat,by omega⟩;have hp:=MM (b:=b) (by omega);have hw:IntKind.i64.wrap (1*2^b)=2^b:=by rw[Int.one_mul];exact Du (by omega) (by omega)
    have hv:=Af r (n:=IntKind.i64.wrap (1*2^b)) (by omega);have hm1:m+1<=1099511627776:=by have:=Ug fs q1 j;rw[hm,hL,AB];omega
    refine KK ?_;refine Ai λZ=>?_;refine KK ?_
    refine AWP.rs λX7=>?_
    refine RU ?_;(iterate 7 refine RK ?_);refine RGo.gN ?_;refine RGo.p (W.shl rfl rfl hb (by show b<=64;omega)) rfl ?_;refine RGo.g_callf ?_;refine RGo.o2 (h:=(CP G _ _ (by rw[hw];omega))) (k:=?_);refine RGo.gN ?_;refine RGo.p (W.add rfl rfl (by omega)) rfl ?_;(iterate 4 refine RK ?_);refine RGo.nil (by kernel_rfl) ?_;refine KK ?_;have hva:vAt fs q1 (j+1)=((vAt fs q1 j).1++[fs[j].low+Ao r (IntKind.i64.wrap (1*2^b))],Ae r (IntKind.i64.wrap (1*2^b))):=by rw[Np hj',<-hr,hw,hb];rfl
    refine Kb (j+1) X7 _ _ _ ⟨hj',?_,?_,?_⟩
    ·rw[hva,hL,List.map_append];rfl
    ·rw[AP,hm]
    ·rw[hva]
   ·have hj':j=fs.length:=by rw[AN,AB]at hd;omega
    subst hj';refine FL ?_;refine AWP.iceIn (X:=F) (Y:=Y) .here (.next .here) rfl (.cons (.agg (.cons .same (.cons (.base (.sl (by omega))) .nil))) .nil) ?_
    have hF:AV.frzs ((L.drop 0).take m)=(vAt fs q1 fs.length).1.map iA:=by
     rw[List.drop_zero,List.take_of_length_le (by omega),hL];exact Frzs.h
    rw[hF]
    (iterate 3 refine WK ?_);refine AOps.g_lit ?_;refine AOps.goL (AG false ⟨i,(vAt fs q1 fs.length).1⟩) ?_;refine WK ?_;refine Ay λY=>?_;refine KK ?_
    refine Kb (i+1) Y _ _ _ ⟨h,?_,?_,?_⟩
    ·rw[hck,hM,List.map_append];rfl
    ·rw[AP,hn]
    ·rw[hck,hr]
 ·have h:i=ks.length:=by rw[AN,AB]at hc;omega
  subst h;refine JA ?_;subst hM hq;exact⟨[.sl K 0 n],[.lst true 42 2 ((cAt ks l ks.length).1.map (AG false))],_,[(G,Bd (cAt ks l ks.length).2)],.cons (.tmp rfl) rfl .nil,.cons (.cell (.sl (p:=0) .here hn)) .nil,by exact Sub.f,rfl,rfl⟩
theorem J0(ks:List Kind)(l:List Int)(i:Nat):(wAt ks l i).1.length=i:=by
 induction i with
 |zero=>rfl
 |succ i ih=>rw[wAt];split<;>simp[ih]
theorem No(ks:List Kind)(l:List Int)(i:Nat):(wAt ks l i).2.1.length<=i:=by
 induction i with
 |zero=>simp[wAt]
 |succ i ih=>rw[wAt];split<;>(try simp only[AP,List.length_singleton])<;>omega
def wdO(w:Wd):AV:=.agg [Ag false false w.kinds,AM true w.gens,HX true false w.items]
instance {w:Wd}:Frz (wdO w) (wdA false w):=⟨by unfold wdO wdA;exact Frz.h⟩
theorem NT(i:Nat)(l:List Int):Ej (CX i l).1:=by
 have h9:=Af l (n:=9) (by decide);have h40:=Af (Ae l 9) (n:=40) (by decide);unfold CX;split<;>refine⟨?_,?_,?_,?_⟩<;>simp<;>omega
theorem VG(i:Nat)(l:List Int):∀f∈(fAt i l).1,Ej f:=by
 induction i with
 |zero=>intro f hf;cases hf
 |succ i ih=>
  intro f hf;rcases List.mem_append.1 hf with hf|hf
  ·exact ih f hf
  ·rw[List.mem_singleton.1 hf];exact NT _ _
theorem Ob(k:Nat)(l:List Int):(DO k l).1.fields.length<=3/\∀f∈(DO k l).1.fields,Ej f:=by
 have h:=Af l (n:=3) (by decide);show(Bb 0 (1+Ao l 3).toNat (Ae l 3)).1.length<=3/\∀f∈(Bb 0 (1+Ao l 3).toNat (Ae l 3)).1,Ej f
 rw[Fz];exact⟨by rw[Q3];omega,VG _ _⟩
theorem Qx(i:Nat)(l:List Int):∀k∈(kAt i l).1,k.fields.length<=3/\∀f∈k.fields,Ej f:=by
 induction i with
 |zero=>intro f hf;cases hf
 |succ i ih=>
  intro f hf;rcases List.mem_append.1 hf with hf|hf
  ·exact ih f hf
  ·rw[List.mem_singleton.1 hf];exact Ob _ _
theorem H6(l:List Int):(As l).1.length=(1+Ao l 4).toNat:=by rw[ET,Qy]
theorem Fy(l:List Int):FR (As l).1:=by
 have h:=Af l (n:=4) (by decide);refine⟨by rw[H6];omega,?_⟩;rw[ET];intro k hk;have:=Qx _ _ k hk;exact⟨by omega,this.2⟩
theorem Sd(l:List Int):PS Tryz.prog 11 [AM false l] (wdO (DE l)):=by
 refine Sp (nt:=52) (res:=[.cell 2 26]) Tryz.func11 λSf=>?_
 have hko:=Fy l;obtain⟨ks,hks⟩:=nm ((As l).1);obtain⟨l1,hl1⟩:=nm ((As l).2);have h12:=Af l1 (n:=12) (by decide);obtain⟨c,hc⟩:∃c:Nat,Ao l1 12=c:=⟨(Ao l1 12).toNat,by omega⟩;obtain⟨l2,hl2⟩:=nm (Ae l1 12);have hg:DE l=⟨ks,(wAt ks l2 c).1,(wAt ks l2 c).2.1⟩:=by unfold DE;rw[hks,hl1,hl2,hc];rfl
 have hkp:=λG=>TN G l
 rw[hks,hl1]at hkp;rw[hks]at hko;rw[hg];clear hg hks hl1;refine JF ?_;refine Ai λR=>?_;refine NL ?_
 refine JG ?_;refine Ai λG=>?_;refine JB ?_
 refine JF ?_;refine AOps.g_callf ?_;refine AOps.o1 (h:=(hkp G)) (k:=?_);refine KO ?_;refine Ai λV=>?_;refine JB ?_
 refine JF ?_;refine AOps.g_callf ?_;refine AOps.o2 (h:=(CP G _ _ (by decide))) (k:=?_);refine JB ?_;rw[hl2,hc];refine AWP.adoptIn (Y:=V) 71 3 (by exact At.f) (λF=>.cons (.agg (.cons .same (.cons .same (.cons (.base .nil) .nil)))) .nil) λB=>?_
 refine AWP.adoptIn (Y:=V) 3 1 (by exact At.f) (λF=>.cons (.agg (.cons .same (.cons (.base .nil) (.cons .same .nil)))) .nil) λA=>?_
 refine FL ?_;refine Vc (λ(i A B:Nat) (L M:List AV) (n:Nat) (q:List Int)=>⟨[(2,.ptr R 0 0),(3,.ptr G 0 0),(4,.ptr V 0 0),(13,iA c),(14,iA i)],(A,.row 3 1 L)::(B,.row 71 3 M)::(V,.row 26 3 [.agg [Ag false false ks,.sl A 0 i,.sl B 0 n]])::(G,Bd q)::(R,.row 26 3 [.agg [.prim (.slice none 0 0),.prim (.slice none 0 0),.prim (.slice none 0 0)]])::Sf⟩) (λi _ _ L M n q=>i<=c/\L=(wAt ks l2 i).1.map iA/\M=(wAt ks l2 i).2.1.map (AD false)/\n=M.length/\q=(wAt ks l2 i).2.2) (λi _ _ _ _ _ _=>c-i) 0 A B [] [] 0 l2 ⟨Nat.zero_le _,rfl,rfl,rfl,rfl⟩ ?_;rintro i A B L M n q ⟨hi,hL,hM,hn,hq⟩;have hA:=J0 ks l2 i;have hB:=No ks l2 i;refine KK ?_;refine AWP.cond rfl (λhd=>?_) (λhd=>?_)
 ·have h:i<c:=by rw[AE]at hd;omega
  have h3:=Af q (n:=3) (by decide);have h4:=Af (Ae q 3) (n:=4) (by decide);refine R1 ?_;refine AWP.rs λX7=>?_
  refine JM ?_;refine RGo.g_callf ?_;refine RGo.o2 (h:=(CP G _ _ (by decide))) (k:=?_);(iterate 4 refine RK ?_);refine RGo.nil (by kernel_rfl) ?_;refine KK ?_;refine AOps.g_callf ?_;refine AOps.o2 (h:=(CP G _ _ (by decide))) (k:=?_);refine KK ?_;have hLl:L.length=i:=by rw[hL,AB,hA]
  obtain⟨IT,hIT⟩:=nm ((wAt ks l2 i).2.1);rw[hIT]at hM hB;have hnl:n=IT.length:=by rw[hn,hM,AB]
  have hat:(L++[.prim (.int .i64 (Ao q 3))])[i]?=some (.prim (.int .i64 (Ao q 3))):=by rw[<-hLl];simp
  refine AWP.cond rfl (λhe=>?_) (λhe=>?_)
  ·have he:Ao (Ae q 3) 4=3\/n=8:=by rw[Bool.or_eq_true,AE,AE]at he;omega
   have hw:wAt ks l2 (i+1)=((wAt ks l2 i).1++[Ao q 3],IT,Ae (Ae q 3) 4):=by rw[wAt,<-hq,hIT,<-hnl,if_pos he]
   refine KK ?_;refine OL (i+1) X7 B _ M n _ ⟨h,?_,?_,hn,?_⟩
   ·rw[hw,hL,List.map_append];rfl
   ·rw[hw,hM]
   ·rw[hw]
  ·have he:¬(Ao (Ae q 3) 4=3\/n=8):=by rw[Bool.or_eq_false_iff,AN,AN]at he;omega
   have hw:wAt ks l2 (i+1)=((wAt ks l2 i).1++[Ao q 3],IT++[⟨⟨i,Ao q 3⟩,(Cg ks (Ae (Ae q 3) 4)).1⟩],(Cg ks (Ae (Ae q 3) 4)).2):=by rw[wAt,<-hq,hIT,<-hnl,if_neg he]
   have hin:i<i+[AV.prim (.int .i64 (Ao q 3))].length:=Nat.lt_succ_self i;refine AWP.rs λX8=>?_
   refine JM ?_;refine RGo.g_callf ?_;refine RGo.o2 (h:=(On G ks _ hko)) (k:=?_);refine RK ?_;refine RGo.g_lit ?_;refine RGo.goL (AD false ⟨⟨i,Ao q 3⟩,(Cg ks (Ae (Ae q 3) 4)).1⟩) ?_;(iterate 3 refine RK ?_);refine RGo.nil (by kernel_rfl) ?_;refine KK ?_;refine OL (i+1) X7 X8 _ _ _ _ ⟨h,?_,?_,?_,?_⟩
   ·rw[hw,hL,List.map_append];rfl
   ·rw[hw,hM,List.map_append];rfl
   ·rw[AP,hn]
   ·rw[hw]
 ·have h:i=c:=by rw[AN]at hd;omega
  subst h;refine JA ?_;subst hL hM;have hA:i=((wAt ks l2 i).1.map iA).length:=by rw[AB,hA]
  exact⟨[.agg [Ag false false ks,.sl A 0 i,.sl B 0 n]],[wdO ⟨ks,(wAt ks l2 i).1,(wAt ks l2 i).2.1⟩],_,[],.cons (.cell (p:=4) rfl (by exact At.f) TAg.h TSize.h rfl rfl) rfl .nil,.cons (.agg (.cons .same (.cons (.sl (p:=0) .here hA) (.cons (.sl (p:=0) .here hn) .nil)))) .nil,by exact Sub.f,rfl,rfl⟩
theorem Q5{ks:List Kind}{l:List Int}{i:Nat}{c:Comp}(h:c∈(cAt ks l i).1):∃(j:Nat) (hj:j<ks.length) (q:List Int),j<i/\c=⟨j,(vAt ks[j].fields q ks[j].fields.length).1⟩:=by
 induction i with
 |zero=>cases h
 |succ i ih=>
  by_cases hi:i<ks.length
  ·by_cases h2:Ao (cAt ks l i).2 3=2
   ·rw[Na hi h2]at h
    obtain⟨j,hj,q,h3,h4⟩:=ih h;exact⟨j,hj,q,by omega,h4⟩
   ·rw[NZ hi h2]at h
    rcases List.mem_append.1 h with h|h
    ·obtain⟨j,hj,q,h3,h4⟩:=ih h
     exact⟨j,hj,q,by omega,h4⟩
    ·rw[List.mem_singleton.1 h]
     exact⟨i,hi,_,by omega,rfl⟩
  ·rw[cAt,List.getElem?_eq_none (by omega)]at h
   obtain⟨j,hj,q,h3,h4⟩:=ih h;exact⟨j,hj,q,by omega,h4⟩
theorem Qe{ks:List Kind}{l:List Int}{i:Nat}{it:Item}(h:it∈(wAt ks l i).2.1):∃(j:Nat) (q:List Int),j<i/\(wAt ks l i).1[j]?=some it.ent.gen/\it.ent.n=j/\it.comps=(Cg ks q).1:=by
 induction i with
 |zero=>cases h
 |succ i ih=>
  have hl:=J0 ks l i
  have hup:∀(x:Int) (g:Int) (j:Nat),(wAt ks l i).1[j]?=some g->((wAt ks l i).1++[x])[j]?=some g:=λx g j hg=>by
   rw[List.getElem?_append_left (List.getElem?_eq_some_iff.1 hg).1,hg]
  rw[wAt]at h⊢;split
  ·rename_i hs
   rw[if_pos hs]at h;obtain⟨j,q,h1,h2,h3,h4⟩:=ih h;exact⟨j,q,by omega,hup _ _ _ h2,h3,h4⟩
  ·rename_i hs
   rw[if_neg hs]at h;rcases List.mem_append.1 h with h|h
   ·obtain⟨j,q,h1,h2,h3,h4⟩:=ih h
    exact⟨j,q,by omega,hup _ _ _ h2,h3,h4⟩
   ·rw[List.mem_singleton.1 h]
    exact⟨i,_,by omega,by rw[List.getElem?_append_right (by omega),hl];simp,rfl,rfl⟩
theorem Kv(l:List Int):(As l).1.length<=4/\∀k∈(As l).1,k.fields.length<=3:=by
 have h:=Af l (n:=4) (by decide);refine⟨by rw[H6];omega,?_⟩;rw[ET];intro k hk;exact(Qx _ _ k hk).1
theorem Ee{ks:List Kind}:∀{l:List Comp} {last:Int},-1<=last->(Cm ks last l=true↔l.Pairwise (λa b=>a.kind<b.kind)/\∀c∈l,last<c.kind/\c.kind<ks.length/\∃k,ks[c.kind.toNat]?=some k/\Bv k c.vals=true)
 |[],_,_=>by simp[Cm]
 |c::l,last,hl=>by
  rw[Cm];constructor
  ·intro h
   split at h
   ·rename_i k hk
    simp only[Bool.and_eq_true,AE]at h;obtain⟨⟨⟨h1,h2⟩,h3⟩,h4⟩:=h;obtain⟨h5,h6⟩:=(Ee (by omega)).1 h4;refine⟨List.pairwise_cons.2 ⟨λd hd=>(h6 d hd).1,h5⟩,λd hd=>?_⟩;rcases List.mem_cons.1 hd with rfl|hd
    ·exact⟨h1,h2,k,hk,h3⟩
    ·obtain⟨q1,q2⟩:=h6 d hd
     exact⟨by omega,q2⟩
   ·cases h
  ·rintro⟨h1,h2⟩
   obtain⟨h3,h4⟩:=List.pairwise_cons.1 h1;obtain⟨h5,h6,k,hk,h7⟩:=h2 c (by simp);rw[hk];simp only[Bool.and_eq_true,AE];exact⟨⟨⟨h5,h6⟩,h7⟩,(Ee (by omega)).2 ⟨h4,λd hd=>⟨h3 d hd,(h2 d (by simp[hd])).2⟩⟩⟩
theorem FU{ks:List Kind}{gens:List Int}:∀{l:List Item} {last:Int},-1<=last->(CB ks gens last l=true↔l.Pairwise (λa b=>a.ent.n<b.ent.n)/\∀it∈l,last<it.ent.n/\it.ent.n<gens.length/\gens[it.ent.n.toNat]?=some it.ent.gen/\it.ent.gen≠1073741824/\A8 ks it.comps=true)
 |[],_,_=>by simp[CB]
 |c::l,last,hl=>by
  rw[CB];constructor
  ·intro h
   split at h
   ·rename_i k hk
    simp only[Bool.and_eq_true,AE,Bool.not_eq_true',AN]at h;obtain⟨⟨⟨⟨⟨h1,h2⟩,h3⟩,h4⟩,h7⟩,h8⟩:=h;obtain⟨h5,h6⟩:=(FU (by omega)).1 h8;refine⟨List.pairwise_cons.2 ⟨λd hd=>(h6 d hd).1,h5⟩,λd hd=>?_⟩;rcases List.mem_cons.1 hd with rfl|hd
    ·exact⟨h1,h2,by rw[hk,h3],h4,h7⟩
    ·obtain⟨q1,q2⟩:=h6 d hd
     exact⟨by omega,q2⟩
   ·cases h
  ·rintro⟨h1,h2⟩
   obtain⟨h3,h4⟩:=List.pairwise_cons.1 h1;obtain⟨h5,h6,hk,h7,h8⟩:=h2 c (by simp);rw[hk];simp only[Bool.and_eq_true,AE,Bool.not_eq_true',AN];exact⟨⟨⟨⟨⟨h5,h6⟩,trivial⟩,h7⟩,h8⟩,(FU (by omega)).2 ⟨h4,λd hd=>⟨h3 d hd,(h2 d (by simp[hd])).2⟩⟩⟩
structure WdOK(w:Wd):Prop where
 ks:Al w.kinds=0
 gl:w.gens.length<=256
 il:w.items.length<=w.gens.length
 gs:∀g∈w.gens,0<=g/\g<=1073741824
 so:w.items.Pairwise λa b=>a.ent.n<b.ent.n
 it:∀it∈w.items,0<=it.ent.n/\it.ent.n<w.gens.length/\w.gens[it.ent.n.toNat]?=some it.ent.gen/\it.ent.gen≠1073741824/\A8 w.kinds it.comps=true
theorem BL(w:Wd):Cr w=0↔WdOK w:=by
 have hg:HZ w.gens=true↔∀g∈w.gens,0<=g/\g<=1073741824:=by
  unfold HZ;rw[List.all_eq_true];simp only[Bool.and_eq_true,AE]
 have hi:=FU (ks:=w.kinds) (gens:=w.gens) (l:=w.items) (last:=-1) (by omega);unfold Cr;constructor
 ·intro h
  split at h
  ·exact absurd h ‹_›
  rename_i h1;split at h
  ·cases h
  rename_i h2;split at h
  ·cases h
  rename_i h3;split at h
  ·cases h
  rename_i h4;obtain⟨h5,h6⟩:=hi.1 (by simpa using h4);exact⟨by simpa using h1,by omega,by omega,hg.1 (by simpa using h3),h5,λit hit=>by obtain⟨a,b⟩:=h6 it hit;exact⟨by omega,b⟩⟩
 ·intro h
  rw[if_neg (by simp[h.ks]),if_neg (by have:=h.gl;have:=h.il;omega),if_neg (by rw[hg.2 h.gs];simp),if_neg (by rw[hi.2 ⟨h.so,λit hit=>by obtain⟨a,b⟩:=h.it it hit;exact⟨by omega,b⟩⟩];simp)]
theorem T6(ks:List Kind)(l:List Int)(i:Nat):(cAt ks l i).1.Pairwise λa b=>a.kind<b.kind:=by
 induction i with
 |zero=>exact .nil
 |succ i ih=>
  by_cases hi:i<ks.length
  ·by_cases h2:Ao (cAt ks l i).2 3=2
   ·rw[Na hi h2];exact ih
   ·rw[NZ hi h2]
    refine List.pairwise_append.2 ⟨ih,List.pairwise_singleton ..,λa ha b hb=>?_⟩;rw[List.mem_singleton.1 hb];obtain⟨j,hj,q,hji,rfl⟩:=Q5 ha;show(j:Int)<i
    omega
  ·rw[cAt,List.getElem?_eq_none (by omega)];exact ih
theorem Qg{fs:List Field}(hf:∀f∈fs,Au f=0)(hr:∀f∈fs,Ej f)(l:List Int):∀i,i<=fs.length->List.zipWith BU (fs.take i) (vAt fs l i).1=(vAt fs l i).1/\(vAt fs l i).1.length=i
 |0,_=>⟨rfl,rfl⟩
 |i+1,h=>by
  obtain⟨h1,h2⟩:=Qg hf hr l i (by omega);rw[Np (by omega)];have hm:=AU (l:=fs) (n:=i) (by omega);obtain⟨hb0,hb1,_,_⟩:=hr _ hm;have hp:=MM (b:=fs[i].bits.toNat) (by omega);have hv:=Af (vAt fs l i).2 (n:=2^fs[i].bits.toNat) (by omega);have hh:EC fs[i]=fs[i].low+(2^fs[i].bits.toNat-1):=by unfold EC;rw[if_pos (hf _ hm)]
  refine⟨?_,by rw[AP,h2];rfl⟩;rw[List.take_succ_eq_append_getElem (by omega),List.zipWith_append (by rw[h2,Aj];omega),h1];simp only[List.zipWith_cons_cons,List.zipWith_nil_left];rw[Qt (hf _ hm) (by omega) (by rw[hh];omega)]
theorem RJ{k:Kind}(h1:BZ k=0)(hf:∀f∈k.fields,Au f=0)(hr:∀f∈k.fields,Ej f)(l:List Int):Bv k (vAt k.fields l k.fields.length).1=true:=by
 obtain⟨h2,h3⟩:=Qg hf hr l k.fields.length (Nat.le_refl _);rw[List.take_length]at h2;unfold Bv;rw[H8 h1 h3,h2];simp
structure KsGood(ks:List Kind):Prop where
 one:∀k∈ks,BZ k=0
 fld:∀k∈ks,∀f∈k.fields,Au f=0
 rng:∀k∈ks,∀f∈k.fields,Ej f
theorem HD(l:List Int):KsGood (As l).1:=
 ⟨JO l,λk hk=>(Jd l k hk).1,λk hk=>((Fy l).2 k hk).2⟩
theorem HF{ks:List Kind}(h:KsGood ks)(l:List Int):A8 ks (Cg ks l).1=true:=by
 unfold A8;rw[Ee (by omega)];refine⟨T6 _ _ _,λc hc=>?_⟩;obtain⟨j,hj,q,_,rfl⟩:=Q5 hc;have hm:=AU hj;exact⟨by show(-1:Int)<(j:Int);omega,by show(j:Int)<_;omega,ks[j],AI hj,RJ (h.one _ hm) (h.fld _ hm) (h.rng _ hm) q⟩
theorem Sg(ks:List Kind)(l:List Int)(i:Nat):(wAt ks l i).2.1.Pairwise λa b=>a.ent.n<b.ent.n:=by
 induction i with
 |zero=>exact .nil
 |succ i ih=>
  rw[wAt];split
  ·exact ih
  ·refine List.pairwise_append.2 ⟨ih,List.pairwise_singleton ..,λa ha b hb=>?_⟩
   rw[List.mem_singleton.1 hb];obtain⟨j,q,hji,_,e,_⟩:=Qe ha;show a.ent.n<(i:Int)
   omega
theorem Sh(ks:List Kind)(l:List Int)(i:Nat):∀g∈(wAt ks l i).1,0<=g/\g<3:=by
 induction i with
 |zero=>intro g hg;cases hg
 |succ i ih=>
  intro g hg;rw[wAt]at hg;have h3:=Af (wAt ks l i).2.2 (n:=3) (by decide);split at hg<;>
  ·rcases List.mem_append.1 hg with hg|hg
   ·exact ih g hg
   ·rw[List.mem_singleton.1 hg];exact h3
theorem OZ(l:List Int):WdOK (DE l):=by
 have h:=Af (As l).2 (n:=12) (by decide);have h1:=No (As l).1 (Ae (As l).2 12) (Ao (As l).2 12).toNat;have h2:=J0 (As l).1 (Ae (As l).2 12) (Ao (As l).2 12).toNat;have h3:=Sh (As l).1 (Ae (As l).2 12) (Ao (As l).2 12).toNat;refine⟨Kx l,?_,?_,λg hg=>?_,Sg _ _ _,λit hit=>?_⟩
 ·exact Nat.le_trans (Nat.le_of_eq h2) (by omega)
 ·exact Nat.le_trans h1 (Nat.le_of_eq h2.symm)
 ·have:=h3 g hg;omega
 ·obtain⟨j,q,hji,hg,hn,hc⟩:=Qe hit
  have hjl:j<(wAt (As l).1 (Ae (As l).2 12) (Ao (As l).2 12).toNat).1.length:=(List.getElem?_eq_some_iff.1 hg).1;have hgm:=h3 _ (Aq hg);refine⟨by omega,?_,?_,by omega,by rw[hc];exact HF (HD l) q⟩
  ·rw[hn];show(j:Int)<((wAt _ _ _).1.length:Int);omega
  ·rw[hn];exact hg
section
section
variable {α:Type}{key:α->Int}{l a b:List α}
def KS(key:α->Int)(l:List α):Prop:=l.Pairwise λa b=>key a<key b
theorem NM(h:KS key l){x y:α}(hx:x∈l)(hy:y∈l)(e:key x=key y):x=y:=by
 induction l with
 |nil=>cases hx
 |cons z l ih=>
  obtain⟨h1,h2⟩:=List.pairwise_cons.1 h;rcases List.mem_cons.1 hx with q|q<;>rcases List.mem_cons.1 hy with r|r
  ·rw[q,r]
  ·subst q;have:=h1 y r;omega
  ·subst r;have:=h1 x q;omega
  ·exact ih h2 q r
theorem TL:∀{a b:List α},KS key a->KS key b->(∀x,x∈a↔x∈b)->a=b
 |[],[],_,_,_=>rfl
 |[],y::b,_,_,h=>absurd ((h y).2 (by simp)) (by simp)
 |x::a,[],_,_,h=>absurd ((h x).1 (by simp)) (by simp)
 |x::a,y::b,ha,hb,h=>by
  obtain⟨a1,a2⟩:=List.pairwise_cons.1 ha;obtain⟨b1,b2⟩:=List.pairwise_cons.1 hb
  have e:x=y:=by
   rcases List.mem_cons.1 ((h x).1 (by simp))with e|h1
   ·exact e
   ·rcases List.mem_cons.1 ((h y).2 (by simp))with e|h2
    ·exact e.symm
    ·have:=b1 x h1;have:=a1 y h2;omega
  subst e;rw[TL a2 b2 λz=>?_];constructor
  ·intro hz
   rcases List.mem_cons.1 ((h z).1 (by simp[hz]))with e|h1
   ·have:=a1 z hz;rw[e]at this;omega
   ·exact h1
  ·intro hz
   rcases List.mem_cons.1 ((h z).2 (by simp[hz]))with e|h1
   ·have:=b1 z hz;rw[e]at this;omega
   ·exact h1
theorem J8{i:Nat}{y:α}(hi:l[i]?=some y):l=l.take i++y::l.drop (i+1):=by
 obtain⟨h,rfl⟩:=List.getElem?_eq_some_iff.1 hi;rw[<-CG h,List.take_append_drop]
theorem Kg{i:Nat}{y:α}(h:KS key l)(hi:l[i]?=some y):KS key (l.take i)/\KS key (l.drop (i+1))/\(∀x∈l.take i,key x<key y)/\(∀x∈l.drop (i+1),key y<key x)/\∀x,x∈l↔x∈l.take i\/x=y\/x∈l.drop (i+1):=by
 have e:=J8 hi;have h':=h;rw[e]at h';obtain⟨h1,h2,h3⟩:=List.pairwise_append.1 h';obtain⟨h4,h5⟩:=List.pairwise_cons.1 h2;refine⟨h1,h5,λx hx=>h3 x hx y (by simp),h4,λx=>?_⟩
 conv=>lhs;rw[e]
 simp
theorem TM{i:Nat}{y:α}(h:KS key l)(hi:l[i]?=some y):KS key (l.eraseIdx i)/\∀x,x∈l.eraseIdx i↔x∈l/\key x≠key y:=by
 obtain⟨h1,h2,h3,h4,h5⟩:=Kg h hi;refine⟨h.sublist (List.eraseIdx_sublist _ _),λx=>?_⟩;rw[List.eraseIdx_eq_take_drop_succ,CY,h5];constructor
 ·rintro(hx|hx)
  ·exact⟨.inl hx,by have:=h3 x hx;omega⟩
  ·exact⟨.inr (.inr hx),by have:=h4 x hx;omega⟩
 ·rintro⟨hx|rfl|hx,hn⟩
  ·exact .inl hx
  ·exact absurd rfl hn
  ·exact .inr hx
theorem Pw{i:Nat}{y z:α}(h:KS key l)(hi:l[i]?=some y)(hk:key z=key y):KS key (l.set i z)/\∀x,x∈l.set i z↔x=z\/(x∈l/\key x≠key z):=by
 obtain⟨h1,h2,h3,h4,h5⟩:=Kg h hi;obtain⟨hl,_⟩:=List.getElem?_eq_some_iff.1 hi;have e:l.set i z=l.take i++z::l.drop (i+1):=List.set_eq_take_append_cons_drop.trans (if_pos hl);rw[e];refine⟨List.pairwise_append.2 ⟨h1,List.pairwise_cons.2 ⟨λx hx=>by have:=h4 x hx;omega,h2⟩,λx hx w hw=>?_⟩,λx=>?_⟩
 ·rcases List.mem_cons.1 hw with rfl|hw
  ·have:=h3 x hx;omega
  ·have:=h3 x hx;have:=h4 w hw;omega
 ·rw[h5,CY,BR]
  constructor
  ·rintro(hx|rfl|hx)
   ·exact .inr ⟨.inl hx,by have:=h3 x hx;omega⟩
   ·exact .inl rfl
   ·exact .inr ⟨.inr (.inr hx),by have:=h4 x hx;omega⟩
  ·rintro(rfl|⟨hx|rfl|hx,hn⟩)
   ·exact .inr (.inl rfl)
   ·exact .inl hx
   ·exact absurd hk.symm hn
   ·exact .inr (.inr hx)
theorem Uz(h:KS key l){n:Int}{x:α}:(l.find? λy=>decide (key y=n))=some x↔x∈l/\key x=n:=by
 constructor
 ·intro e
  exact⟨List.mem_of_find?_eq_some e,by simpa using List.find?_some e⟩
 ·rintro⟨hx,e⟩
  cases hf:l.find? λy=>decide (key y=n)with
  |none=>rw[List.find?_eq_none]at hf;exact absurd (by simpa using e) (hf x hx)
  |some z=>rw[NM h hx (List.mem_of_find?_eq_some hf) (by have:=List.find?_some hf;simp at this;omega)]
end
theorem held_iff{ks:List Kind}{l:List Comp}:A8 ks l=true↔CZ l/\∀c∈l,0<=c.kind/\c.kind<ks.length/\∃k,ks[c.kind.toNat]?=some k/\Bv k c.vals=true:=by
 unfold A8;rw[Ee (by omega)];constructor
 ·rintro⟨h1,h2⟩
  exact⟨h1,λc hc=>⟨by have:=(h2 c hc).1;omega,(h2 c hc).2⟩⟩
 ·rintro⟨h1,h2⟩
  exact⟨h1,λc hc=>⟨by have:=(h2 c hc).1;omega,(h2 c hc).2⟩⟩
theorem H4{c:Comp}:∀{l:List Comp},CZ l->∀d,d∈Fg l c↔d=c\/(d∈l/\d.kind≠c.kind)
 |[],_,d=>by simp[Fg]
 |x::l,h,d=>by
  obtain⟨h1,h2⟩:=List.pairwise_cons.1 h;rw[Fg];split
  ·rename_i hx
   rw[BR,H4 h2,BR];constructor
   ·rintro(rfl|rfl|⟨hd,hn⟩)
    ·exact .inr ⟨.inl rfl,by omega⟩
    ·exact .inl rfl
    ·exact .inr ⟨.inr hd,hn⟩
   ·rintro(rfl|⟨rfl|hd,hn⟩)
    ·exact .inr (.inl rfl)
    ·exact .inl rfl
    ·exact .inr (.inr ⟨hd,hn⟩)
  ·split
   ·rename_i hx
    rw[BR,BR];constructor
    ·rintro(rfl|hd)
     ·exact .inl rfl
     ·exact .inr ⟨.inr hd,by have:=h1 d hd;omega⟩
    ·rintro(rfl|⟨rfl|hd,hn⟩)
     ·exact .inl rfl
     ·exact absurd hx hn
     ·exact .inr hd
   ·rw[BR,BR]
    constructor
    ·rintro(rfl|rfl|hd)
     ·exact .inl rfl
     ·exact .inr ⟨.inl rfl,by omega⟩
     ·exact .inr ⟨.inr hd,by have:=h1 d hd;omega⟩
    ·rintro(rfl|⟨hd,hn⟩)
     ·exact .inl rfl
     ·exact .inr hd
theorem Ii{c:Comp}:∀{l:List Comp},CZ l->CZ (Fg l c)
 |[],_=>List.pairwise_singleton ..
 |x::l,h=>by
  obtain⟨h1,h2⟩:=List.pairwise_cons.1 h;rw[Fg];split
  ·rename_i hx
   refine List.pairwise_cons.2 ⟨λd hd=>?_,Ii h2⟩;rcases(H4 h2 d).1 hd with rfl|⟨hd,_⟩
   ·exact hx
   ·exact h1 d hd
  ·split
   ·rename_i hx
    exact List.pairwise_cons.2 ⟨λd hd=>by have:=h1 d hd;omega,h2⟩
   ·refine List.pairwise_cons.2 ⟨λd hd=>?_,h⟩
    rcases List.mem_cons.1 hd with rfl|hd
    ·omega
    ·have:=h1 d hd;omega
theorem SG{l:List Comp}{k:Int}(d:Comp):d∈Fi l k↔d∈l/\d.kind≠k:=by
 unfold Fi;rw[List.mem_filter];simp
theorem QC{l:List Comp}{k:Int}(h:CZ l):CZ (Fi l k):=List.Pairwise.filter _ h
theorem MF{a b:List Comp}(ha:CZ a)(hb:CZ b)(h:∀x,x∈a↔x∈b):a=b:=TL (key:=Comp.kind) ha hb h
theorem B0{l:List Comp}(h:CZ l){k:Int}{c:Comp}:BH l k=some c↔c∈l/\c.kind=k:=Uz (key:=Comp.kind) h
theorem TZ{ks:List Kind}{l:List Comp}{c:Comp}(h:A8 ks l=true)(h1:0<=c.kind)(h2:c.kind<ks.length){k:Kind}(h3:ks[c.kind.toNat]?=some k)(h4:Bv k c.vals=true):A8 ks (Fg l c)=true:=by
 obtain⟨hs,hm⟩:=held_iff.1 h;refine held_iff.2 ⟨Ii hs,λd hd=>?_⟩;rcases(H4 hs d).1 hd with rfl|⟨hd,_⟩
 ·exact⟨h1,h2,k,h3,h4⟩
 ·exact hm d hd
theorem MX{ks:List Kind}{l:List Comp}{k:Int}(h:A8 ks l=true):A8 ks (Fi l k)=true:=by
 obtain⟨hs,hm⟩:=held_iff.1 h;exact held_iff.2 ⟨QC hs,λd hd=>hm d ((SG d).1 hd).1⟩
theorem NN{pre ks:List Kind}(h:By pre ks=0):∀k∈ks,BZ k=0:=by
 induction ks generalizing pre with
 |nil=>intro k hk;cases hk
 |cons x l ih=>
  intro k hk;simp only[By]at h;split at h
  ·exact absurd h ‹_›
  ·rename_i hx
   split at h
   ·cases h
   ·rcases List.mem_cons.1 hk with rfl|hk
    ·simpa using hx
    ·exact ih h k hk
theorem Bt{ks:List Kind}(h:Al ks=0):ks.length<=16/\∀k∈ks,BZ k=0:=by
 unfold Al at h;split at h
 ·cases h
 ·exact⟨by omega,NN h⟩
def He(ks:List Kind)(c:Comp):Comp:=match ks[c.kind.toNat]? with
 |some k=>⟨c.kind,(BY k c.vals).1⟩
 |none=>c
theorem Io(ks:List Kind)(c:Comp):(He ks c).kind=c.kind:=by unfold He;split<;>rfl
def IM(ks:List Kind)(c:Comp):Prop:=0<=c.kind/\c.kind<ks.length/\∃k,ks[c.kind.toNat]?=some k/\(BY k c.vals).2=0
theorem NV{ks:List Kind}{c:Comp}{k:Kind}(h:ks[c.kind.toNat]?=some k):He ks c=⟨c.kind,(BY k c.vals).1⟩:=by
 unfold He;rw[h]
theorem K4{ks:List Kind}:∀{l pre out:List Comp},(∀c∈l,IM ks c)->l.Pairwise (λa b=>a.kind≠b.kind)->(∀a∈pre,∀b∈l,a.kind≠b.kind)->Cn ks pre out l=(out++l.map (He ks),0)
 |[],pre,out,_,_,_=>by simp[Cn]
 |c::l,pre,out,h1,h2,h3=>by
  obtain⟨a,b,k,hk,hf⟩:=h1 c (by simp);obtain⟨h4,h5⟩:=List.pairwise_cons.1 h2
  have hany:pre.any (λo=>decide (o.kind=c.kind))=false:=by
   rw[List.any_eq_false];intro x hx;simpa using h3 x hx c (by simp)
  rw[Cn,if_neg (by omega),hany,if_neg (by simp),hk];dsimp only;rw[if_neg (by simp[hf]),K4 (λd hd=>h1 d (by simp[hd])) h5 (λx hx d hd=>?_),List.map_cons,NV hk]
  ·simp
  ·rcases List.mem_append.1 hx with hx|hx
   ·exact h3 x hx d (by simp[hd])
   ·rw[List.mem_singleton.1 hx];exact h4 d hd
theorem L9{ks:List Kind}(hk:Al ks=0){l:List Comp}(h1:∀c∈l,IM ks c)(h2:l.Pairwise (λa b=>a.kind≠b.kind)):CL ks l=(GG (l.map (He ks)),0):=by
 unfold CL;rw[if_neg (by simp[hk]),K4 h1 h2 (λ_ h=>by cases h),if_neg (by simp)];rfl
theorem Kj{l:List Comp}(h:CZ l):GG l=l:=
 (Ki (h.imp λh=>by omega) (List.Perm.refl _) (h.imp λh=>by omega)).symm
theorem Do{k:Kind}{v:List Int}(h:Bv k v=true):BY k v=(v,0):=by
 unfold Bv at h;simp only[Bool.and_eq_true,AE]at h;exact Prod.ext h.2 h.1
theorem Dp{k:Kind}{v:List Int}(h:(BY k v).2=0):Bv k (BY k v).1=true/\(BY k v).1=List.zipWith BU k.fields v/\v.length=k.fields.length:=by
 unfold BY at h⊢;split at h
 ·exact absurd h ‹_›
 ·rename_i h1
  have h1:BZ k=0:=by simpa using h1
  split at h
  ·cases h
  ·rename_i h2
   have h2:v.length=k.fields.length:=by simpa using h2
   rw[if_neg (by simp[h1]),if_neg (by simp[h2])];refine⟨?_,rfl,h2⟩;unfold Bv;rw[H8 h1 (by simp[h2]),Rm (Dn h1).2.2];simp
theorem Tj{ks:List Kind}{l:List Comp}(h:A8 ks l=true):(∀c∈l,IM ks c)/\l.Pairwise (λa b=>a.kind≠b.kind)/\l.map (He ks)=l:=by
 obtain⟨hs,hm⟩:=held_iff.1 h;refine⟨λc hc=>?_,hs.imp λh=>by omega,?_⟩
 ·obtain⟨a,b,k,hk,hh⟩:=hm c hc
  exact⟨a,b,k,hk,by rw[Do hh]⟩
 ·conv=>rhs;rw[<-List.map_id l]
  refine List.map_congr_left λc hc=>?_
  obtain⟨a,b,k,hk,hh⟩:=hm c hc;rw[NV hk,Do hh];rfl
theorem IS{ks:List Kind}(hk:Al ks=0){l:List Comp}(h:A8 ks l=true):CL ks l=(l,0):=by
 obtain⟨h1,h2,h3⟩:=Tj h;rw[L9 hk h1 h2,h3,Kj (held_iff.1 h).1]
theorem Jz{ks:List Kind}(hk:Al ks=0){c:Comp}(h:IM ks c):CL ks [c]=([He ks c],0):=by
 rw[L9 hk (λd hd=>by rw[List.mem_singleton.1 hd];exact h) (List.pairwise_singleton ..)];show(GG [He ks c],(0:Int))=_
 rw[Kj (List.pairwise_singleton ..)]
theorem P8{ks:List Kind}{c:Comp}(h:IM ks c):∃k,ks[(He ks c).kind.toNat]?=some k/\Bv k (He ks c).vals=true:=by
 obtain⟨_,_,k,hk,hf⟩:=h;refine⟨k,by rw[Io];exact hk,?_⟩;rw[NV hk];exact(Dp hf).1
def Q9(l:List Item):Prop:=KS (λit=>it.ent.n) l
theorem H9{l:List Item}(h:Q9 l){i:Nat}{it:Item}(hi:l[i]?=some it):Cd l it.ent=i:=by
 by_cases hn:Cd l it.ent<0
 ·have:=K5 hn
  rw[List.find?_eq_none]at this;exact absurd (by simp) (this it (Aq hi))
 ·obtain⟨n,hn⟩:∃n:Nat,Cd l it.ent=n:=⟨(Cd l it.ent).toNat,by omega⟩
  obtain⟨x,hx,_,e⟩:=F4 hn;rw[hn];have e2:=NM h (Aq hx) (Aq hi) (by rw[e]);subst e2;obtain⟨a,ha⟩:=List.getElem?_eq_some_iff.1 hx;obtain⟨b,hb⟩:=List.getElem?_eq_some_iff.1 hi;have hp:=List.pairwise_iff_getElem.1 h;rcases Nat.lt_trichotomy n i with q|q|q
  ·have:=hp n i a b q;rw[ha,hb]at this;omega
  ·rw[q]
  ·have:=hp i n b a q;rw[ha,hb]at this;omega
theorem HP{w:Wd}{i:Nat}{it:Item}(hi:w.items[i]?=some it)(cs:List Comp):Db w i cs=⟨w.kinds,w.gens,w.items.set i ⟨it.ent,cs⟩⟩:=by
 unfold Db;rw[hi]
theorem HO{w:Wd}(h:WdOK w){i:Nat}{it:Item}(hi:w.items[i]?=some it){cs:List Comp}(hc:A8 w.kinds cs=true):WdOK (Db w i cs):=by
 rw[HP hi];obtain⟨h1,h2⟩:=Pw (key:=λit:Item=>it.ent.n) h.so hi (z:=⟨it.ent,cs⟩) rfl;refine⟨h.ks,h.gl,by simpa using h.il,h.gs,h1,λx hx=>?_⟩;rcases(h2 x).1 hx with rfl|⟨hx,_⟩
 ·obtain⟨a,b,c,d,e⟩:=h.it it (Aq hi)
  exact⟨a,b,c,d,hc⟩
 ·exact h.it x hx
theorem S5{w:Wd}(h:WdOK w){i:Nat}{it:Item}(hi:w.items[i]?=some it){c:Comp}(hc:IM w.kinds c):DR w it.ent c=(Db w i (Fg it.comps (He w.kinds c)),0):=by
 unfold DR;have hf:=H9 h.so hi;rw[if_neg (by simp[(BL w).2 h]),hf,if_neg (by omega),Jz h.ks hc,if_neg (by simp),Int.toNat_natCast,hi]
theorem S4{w:Wd}(h:WdOK w){i:Nat}{it:Item}(hi:w.items[i]?=some it){c:Comp}(hc:IM w.kinds c):WdOK (Db w i (Fg it.comps (He w.kinds c))):=by
 obtain⟨k,hk,hh⟩:=P8 hc;have hit:=h.it it (Aq hi);have hcc:=hc;obtain⟨a,b,_⟩:=hcc;exact HO h hi (TZ hit.2.2.2.2 (by rw[Io];exact a) (by rw[Io];exact b) hk hh)
theorem Me{w:Wd}(h:WdOK w){i:Nat}{it:Item}(hi:w.items[i]?=some it)(k:Int):E6 w it.ent k=if(BH it.comps k).isSome then(Db w i (Fi it.comps k),0)else(⟨[],[],[]⟩,4):=by
 unfold E6;have hf:=H9 h.so hi;rw[if_neg (by simp[(BL w).2 h]),hf,if_neg (by omega),Int.toNat_natCast,hi]
theorem Sm{l:List Item}{n:Int}(h:GM l n=false):∀x∈l,x.ent.n≠n:=by
 unfold GM at h;rw[List.any_eq_false]at h;intro x hx;simpa using h x hx
theorem Hc{w:Wd}(hw:WdOK w)(h:(Bg w).2=true):(Bg w).1<=w.gens.length/\(∀x∈w.items,x.ent.n≠((Bg w).1:Nat))/\(Bg w).1<256/\∀g,w.gens[(Bg w).1]?=some g->g<1073741824:=by
 have hg:=hw.gl;unfold Bg at h⊢;split at h
 ·rename_i n hn
  unfold MY at hn;rw[List.find?_eq_some_iff_getElem]at hn;obtain⟨h1,i,h2,h3,h4⟩:=hn;simp only[List.getElem_range]at h3;subst h3;rw[List.length_range]at h2;simp only[Bool.and_eq_true,Bool.not_eq_true',AE]at h1;refine⟨by dsimp only;omega,Sm h1.1,by dsimp only;omega,λg hgg=>?_⟩;dsimp only at hgg;have:=h1.2;rw[CF,hgg]at this;exact this
 ·have h:w.gens.length<256:=by dsimp only at h;rw[AE]at h;omega
  refine⟨Nat.le_refl _,λx hx=>?_,h,λg hgg=>?_⟩
  ·have:=(hw.it x hx).2.1
   dsimp only;omega
  ·rw[List.getElem?_eq_none (Nat.le_refl _)]at hgg;cases hgg
theorem Ko{it:Item}:∀{l:List Item} (x:Item),x∈Ih l it↔x=it\/x∈l
 |[],x=>by simp[Ih]
 |y::l,x=>by
  rw[Ih];split
  ·rw[BR,Ko,BR]
   constructor
   ·rintro(h|h|h)
    ·exact .inr (.inl h)
    ·exact .inl h
    ·exact .inr (.inr h)
   ·rintro(h|h|h)
    ·exact .inr (.inl h)
    ·exact .inl h
    ·exact .inr (.inr h)
  ·rw[BR]
theorem MU{it:Item}:∀{l:List Item},Q9 l->(∀x∈l,x.ent.n≠it.ent.n)->Q9 (Ih l it)
 |[],_,_=>List.pairwise_singleton ..
 |y::l,h,hn=>by
  obtain⟨h1,h2⟩:=List.pairwise_cons.1 h;rw[Ih];split
  ·rename_i hy
   refine List.pairwise_cons.2 ⟨λx hx=>?_,MU h2 λx hx=>hn x (by simp[hx])⟩;rcases(Ko x).1 hx with rfl|hx
   ·exact hy
   ·exact h1 x hx
  ·rename_i hy
   have:=hn y (by simp);refine List.pairwise_cons.2 ⟨λx hx=>?_,h⟩;show it.ent.n<x.ent.n
   rcases List.mem_cons.1 hx with rfl|hx
   ·omega
   ·have:y.ent.n<x.ent.n:=h1 x hx
    omega
theorem Te{gens:List Int}{n:Nat}(h:n<=gens.length):n<(Ck gens n).length/\(Ck gens n)[n]?=some ((Ck gens n).getD n 0)/\gens.length<=(Ck gens n).length/\(∀j,j<gens.length->(Ck gens n)[j]?=gens[j]?)/\(∀g∈Ck gens n,g∈gens\/g=0)/\(Ck gens n).length<=max gens.length (n+1):=by
 unfold Ck;split
 ·rename_i e
  subst e;refine⟨by simp,by simp[CF],by simp,λj hj=>List.getElem?_append_left hj,λg hg=>?_,by simp⟩;rcases List.mem_append.1 hg with h|h
  ·exact .inl h
  ·exact .inr (List.mem_singleton.1 h)
 ·refine⟨by omega,?_,Nat.le_refl _,λ_ _=>rfl,λg hg=>.inl hg,by omega⟩
  rw[CF,AI (by omega)];rfl
theorem PP{w:Wd}(h:WdOK w)(hf:(Bg w).2=true){l:List Comp}{cs:List Comp}(hl:CL w.kinds l=(cs,0)):
  DL w l=(⟨w.kinds,Ck w.gens (Bg w).1,Ih w.items ⟨⟨(Bg w).1,(Ck w.gens (Bg w).1).getD (Bg w).1 0⟩,cs⟩⟩,⟨(Bg w).1,(Ck w.gens (Bg w).1).getD (Bg w).1 0⟩,0):=by
 unfold DL;rw[if_neg (by simp[(BL w).2 h]),hl,if_neg (by simp),if_neg (by simp[hf])]
theorem J9{w:Wd}(h:WdOK w)(hf:(Bg w).2=true){cs:List Comp}(hc:A8 w.kinds cs=true):
  WdOK ⟨w.kinds,Ck w.gens (Bg w).1,Ih w.items ⟨⟨(Bg w).1,(Ck w.gens (Bg w).1).getD (Bg w).1 0⟩,cs⟩⟩:=by
 obtain⟨f1,f2,f3,f4⟩:=Hc h hf;obtain⟨n,hn⟩:=nm ((Bg w).1);rw[hn]at f1 f2 f3 f4⊢;obtain⟨g1,g2,g3,g4,g5,g6⟩:=Te f1
 have hgs:∀g∈Ck w.gens n,0<=g/\g<=1073741824:=λg hg=>by
  rcases g5 g hg with hg|rfl
  ·exact h.gs g hg
  ·omega
 have hso:Q9 (Ih w.items ⟨⟨n,(Ck w.gens n).getD n 0⟩,cs⟩):=MU h.so f2
 have hit:∀x∈Ih w.items ⟨⟨n,(Ck w.gens n).getD n 0⟩,cs⟩,0<=x.ent.n/\x.ent.n<(Ck w.gens n).length/\(Ck w.gens n)[x.ent.n.toNat]?=some x.ent.gen/\x.ent.gen≠1073741824/\A8 w.kinds x.comps=true:=λx hx=>by
  rcases(Ko x).1 hx with rfl|hx
  ·refine⟨by dsimp only;omega,by dsimp only;omega,by dsimp only;rw[Int.toNat_natCast];exact g2,?_,hc⟩
   dsimp only;intro e;rw[e]at g2;by_cases hnl:n<w.gens.length
   ·rw[g4 n hnl]at g2
    have:=f4 _ g2;omega
   ·unfold Ck at e
    rw[if_pos (by omega),CF,show n=w.gens.length by omega]at e;simp at e
  ·obtain⟨a,b,c,d,e⟩:=h.it x hx
   exact⟨a,by omega,by rw[g4 _ (by omega)];exact c,d,e⟩
 refine⟨h.ks,?_,?_,hgs,hso,hit⟩
 ·have:=h.gl
  dsimp only;omega
 ·exact GQ (λx:Item=>x.ent.n) _ _ (hso.imp λ{a b} h=>by have h:a.ent.n<b.ent.n:=h;show a.ent.n≠b.ent.n;omega) λx hx=>⟨(hit x hx).1,(hit x hx).2.1⟩
theorem MT{w:Wd}(h:WdOK w){i:Nat}{it:Item}(hi:w.items[i]?=some it):EB w it.ent=(⟨w.kinds,w.gens.set it.ent.n.toNat (w.gens.getD it.ent.n.toNat 0+1),w.items.eraseIdx i⟩,0):=by
 unfold EB;have hf:=H9 h.so hi;rw[if_neg (by simp[(BL w).2 h]),hf,if_neg (by omega),Int.toNat_natCast]
theorem Qw{w:Wd}(h:WdOK w){i:Nat}{it:Item}(hi:w.items[i]?=some it):WdOK ⟨w.kinds,w.gens.set it.ent.n.toNat (w.gens.getD it.ent.n.toNat 0+1),w.items.eraseIdx i⟩:=by
 obtain⟨h1,h2⟩:=TM (key:=λx:Item=>x.ent.n) h.so hi;obtain⟨a,b,c,d,e⟩:=h.it it (Aq hi);have hg:=h.gs it.ent.gen (Aq c);have hgd:w.gens.getD it.ent.n.toNat 0=it.ent.gen:=by rw[CF,c];rfl
 refine⟨h.ks,by simpa using h.gl,?_,λg hgm=>?_,h1,λx hx=>?_⟩
 ·have:=h.il
  have:=List.length_eraseIdx_le w.items i;simp only[List.length_set];omega
 ·rcases List.mem_or_eq_of_mem_set hgm with hgm|rfl
  ·exact h.gs g hgm
  ·rw[hgd];omega
 ·obtain⟨hx,hn⟩:=(h2 x).1 hx
  obtain⟨a',b',c',d',e'⟩:=h.it x hx;exact⟨a',by simpa using b',by rw[List.getElem?_set_ne (by omega)];exact c',d',e'⟩
theorem L8{ks:List Kind}{c:Comp}(h:(CL ks [c]).2=0):∃d,(CL ks [c]).1=[d]/\d.kind=c.kind/\0<=c.kind/\c.kind<ks.length:=by
 unfold CL at h⊢;split at h
 ·exact absurd h ‹_›
 ·rename_i h1
  rw[if_neg h1];split at h
  ·exact absurd h ‹_›
  ·rename_i h2
   rw[if_neg h2];have h2:(Cn ks [] [] [c]).2=0:=by simpa using h2
   rw[Cn]at h2⊢;split at h2
   ·cases h2
   ·rename_i g1
    rw[if_neg g1];rw[if_neg (by simp)]at h2⊢;split at h2
    ·cases h2
    ·rename_i k hk
     split at h2
     ·exact absurd h2 ‹_›
     ·rename_i g3
      (try simp only[hk])
      rw[if_neg g3,Cn];refine⟨⟨c.kind,(BY k c.vals).1⟩,?_,rfl,by omega,by omega⟩;show GG [_]=_
      exact Kj (List.pairwise_singleton ..)
theorem ED{ks:List Kind}(hk:Al ks=0){l:List Comp}(h:A8 ks l=true):l.length<=16/\∀c∈l,c.vals.length<=8:=by
 obtain⟨hs,hm⟩:=held_iff.1 h;obtain⟨h16,ho⟩:=Bt hk;refine⟨Nat.le_trans (GQ Comp.kind _ _ (hs.imp λh=>by omega) λc hc=>⟨(hm c hc).1,(hm c hc).2.1⟩) h16,λc hc=>?_⟩;obtain⟨_,_,k,hk2,hh⟩:=hm c hc;have h8:=(Dn (ho k (Aq hk2))).2.1;have:=Dp (k:=k) (v:=c.vals) (by rw[Do hh]);omega
theorem WdOK.wl{w:Wd}(h:WdOK w):WdL w:=by
 obtain⟨h16,ho⟩:=Bt h.ks;refine⟨⟨by omega,λk hk=>by have:=(Dn (ho k hk)).2.1;omega⟩,by have:=h.gl;omega,by have:=h.gl;have:=h.il;omega,λit hit=>?_⟩;obtain⟨h1,h2⟩:=ED h.ks (h.it it hit).2.2.2.2;exact⟨by omega,λc hc=>by have:=h2 c hc;omega⟩
theorem H5(l:List Int):0<(As l).1.length:=by
 have h:=Af l (n:=4) (by decide)
 have:∀i c q,(BG i c q).1.length=c:=by
  intro i c
  induction c generalizing i with
  |zero=>intro q;rfl
  |succ c ih=>intro q;simp only[BG,Bs,ih]
 unfold As;rw[this];omega
theorem Sq{α:Type}{p:α->Bool}:∀{l:List α} {i:Nat},i<=l.length->(∀(j:Nat) (x:α),j<i->l[j]?=some x->p x=true)->(∀x,l[i]?=some x->p x=false)->(l.takeWhile p).length=i
 |[],i,h,_,_=>by(have:i=0:=by simpa using h);(subst this;rfl)
 |x::l,0,_,_,h2=>by rw[List.takeWhile_cons,h2 x rfl];rfl
 |x::l,i+1,h,h1,h2=>by
  rw[List.takeWhile_cons,h1 0 x (by omega) rfl];show(l.takeWhile p).length+1=i+1
  rw[Sq (i:=i) (by simpa using h) (λj y hj hy=>h1 (j+1) y (by omega) hy) (λy hy=>h2 y hy)]
theorem Q1{d:Comp}:∀{l:List Comp},CZ l->Fg l d=if(BH l d.kind).isSome then l.set (Ci l d.kind) d else l.take (Ci l d.kind)++d::l.drop (Ci l d.kind)
 |[],_=>rfl
 |x::l,h=>by
  obtain⟨h1,h2⟩:=List.pairwise_cons.1 h;have ih:=Q1 (d:=d) h2
  have ec:BH (x::l) d.kind=if x.kind=d.kind then some x else BH l d.kind:=by
   unfold BH;rw[List.find?_cons];by_cases e:x.kind=d.kind<;>simp[e]
  have ea:Ci (x::l) d.kind=if x.kind<d.kind then Ci l d.kind+1 else 0:=by
   unfold Ci;rw[List.takeWhile_cons];by_cases e:x.kind<d.kind<;>simp[e]
  rw[Fg,ec,ea];by_cases e1:x.kind<d.kind
  ·have e3:¬x.kind=d.kind:=by omega
   rw[if_pos e1,if_pos e1,if_neg e3,ih];split<;>simp
  ·rw[if_neg e1,if_neg e1]
   by_cases e2:x.kind=d.kind
   ·rw[if_pos e2,if_pos e2];rfl
   ·rw[if_neg e2,if_neg e2,It (λc hc=>by have:=h1 c hc;omega)];rfl
theorem Oj{k:Int}:∀{l:List Comp},CZ l->(BH l k).isSome=true->Fi l k=l.eraseIdx (Ci l k)
 |[],_,hn=>by cases hn
 |x::l,h,hn=>by
  obtain⟨h1,h2⟩:=List.pairwise_cons.1 h
  have ec:BH (x::l) k=if x.kind=k then some x else BH l k:=by
   unfold BH;rw[List.find?_cons];by_cases e:x.kind=k<;>simp[e]
  have ea:Ci (x::l) k=if x.kind<k then Ci l k+1 else 0:=by
   unfold Ci;rw[List.takeWhile_cons];by_cases e:x.kind<k<;>simp[e]
  have ed:Fi (x::l) k=if x.kind=k then Fi l k else x::Fi l k:=by
   unfold Fi;rw[List.filter_cons];by_cases e:x.kind=k<;>simp[e]
  rw[ec]at hn;rw[ea,ed];by_cases e2:x.kind=k
  ·have e3:¬x.kind<k:=by omega
   rw[if_pos e2,if_neg e3];show Fi l k=l
   unfold Fi;rw[List.filter_eq_self];intro c hc;have:=h1 c hc;simp;omega
  ·rw[if_neg e2]at hn
   by_cases e1:x.kind<k
   ·rw[if_neg e2,if_pos e1,Oj h2 hn];rfl
   ·rw[It (λc hc=>by have:=h1 c hc;omega)]at hn;cases hn
end
def Dw(n:Nat):List UInt8:=match n with
 |0=>[111,110,101]
 |1=>[116,119,111]
 |2=>[116,104,114,101,101]
 |3=>[102,111,117,114]
 |4=>[102,105,118,101]
 |_=>[115,105,120]
def Lw(ks:List Kind)(i:Int):Int:=match ks[i.toNat]? with
 |some k=>k.fields.length
 |none=>0
def FJ(ks:List Kind)(seen:List Int)(l:List Int):Arg×List Int:=
 if Ao l 2=0 then(⟨false,Ao (Ae l 2) 20-6,⟨0,0⟩⟩,Ae (Ae l 2) 20)
 else(⟨true,0,⟨seen.getD (Ao (Ae l 2) seen.length).toNat 0,Ao (Ae (Ae l 2) seen.length) (Lw ks (seen.getD (Ao (Ae l 2) seen.length).toNat 0))⟩⟩,
  Ae (Ae (Ae l 2) seen.length) (Lw ks (seen.getD (Ao (Ae l 2) seen.length).toNat 0)))
def IK(ks:List Kind)(r:Ref):Prop:=0<=r.kind/\r.kind<ks.length/\0<=r.field/\r.field<Lw ks r.kind
def Mt(ks:List Kind)(seen:List Int)(a:Arg):Prop:=(a.has=true->a.n=0/\IK ks a.ref/\a.ref.kind∈seen)/\(a.has=false-> -6<=a.n/\a.n<=13/\a.ref=⟨0,0⟩)
def Fl:Arg:=⟨false,0,⟨0,0⟩⟩
def C7(d:Int):Bool:=(decide (1<=d)&&decide (d<=6))||decide (d=12)
structure OpOK(ks:List Kind)(reads writes:List Int)(o:Op):Prop where
 lo:0<=o.act
 hi:o.act<=12
 a:Mt ks (reads++writes) o.a
 b:if C7 o.act then Mt ks (reads++writes) o.b else o.b=Fl
 sets:o.act<=7->IK ks o.to/\o.to.kind∈writes
 puts:o.act=8\/o.act=9->0<=o.to.kind/\o.to.kind<ks.length/\o.to.field=0
 none:10<=o.act->o.to=⟨0,0⟩
structure SysL(w1 w2 w3 w4:List Int)(n:Int):Prop where
 o1:w1.Pairwise (· < ·)
 o2:w2.Pairwise (· < ·)
 o3:w3.Pairwise (· < ·)
 o4:w4.Pairwise (· < ·)
 r1:∀x∈w1,0<=x/\x<n
 r2:∀x∈w2,0<=x/\x<n
 d:∀x∈w1,x∉w2
 s3:∀x∈w3,x∈w1
 s4:∀x∈w4,x∈w1
 all:∀x∈w1,x∈w3\/x∈w4
structure SysOK(ks:List Kind)(n:Nat)(s:Sys):Prop where
 name:s.name=Dw n
 lists:SysL s.wth s.wout s.reads s.writes ks.length
 some:s.wth≠[]
 len:s.ops.length<=5
 ops:∀o∈s.ops,OpOK ks s.reads s.writes o
 spawn:s.spawn=[]\/∃q,s.spawn=(Cg ks q).1
theorem SysL.nil(n:Int):SysL [] [] [] [] n:=⟨.nil,.nil,.nil,.nil,by simp,by simp,by simp,by simp,by simp,by simp⟩
theorem SysL.weaken{w1 w2 w3 w4:List Int}{n m:Int}(h:SysL w1 w2 w3 w4 n)(hm:n<=m):SysL w1 w2 w3 w4 m:=
 ⟨h.o1,h.o2,h.o3,h.o4,λx hx=>⟨(h.r1 x hx).1,by have:=(h.r1 x hx).2;omega⟩,λx hx=>⟨(h.r2 x hx).1,by have:=(h.r2 x hx).2;omega⟩,h.d,h.s3,h.s4,h.all⟩
theorem Hz{l:List Int}{n:Int}(h:l.Pairwise (· < ·))(hn:∀x∈l,x<n):(l++[n]).Pairwise (· < ·):=
 List.pairwise_append.2 ⟨h,List.pairwise_singleton _ _,λx hx y hy=>by rw[List.mem_singleton.1 hy];exact hn x hx⟩
theorem SysL.read{w1 w2 w3 w4:List Int}{n:Int}(h:SysL w1 w2 w3 w4 n)(h0:0<=n):SysL (w1++[n]) w2 (w3++[n]) w4 (n+1):=by
 refine⟨Hz h.o1 λx hx=>(h.r1 x hx).2,h.o2,Hz h.o3 λx hx=>(h.r1 x (h.s3 x hx)).2,h.o4,?_,λx hx=>⟨(h.r2 x hx).1,by have:=(h.r2 x hx).2;omega⟩,?_,?_,?_,?_⟩
 ·intro x hx
  rcases List.mem_append.1 hx with hx|hx
  ·have:=h.r1 x hx;omega
  ·rw[List.mem_singleton.1 hx];omega
 ·intro x hx hx2
  rcases List.mem_append.1 hx with hx|hx
  ·exact h.d x hx hx2
  ·have:=h.r2 x hx2;rw[List.mem_singleton.1 hx]at this;omega
 ·intro x hx
  rcases List.mem_append.1 hx with hx|hx
  ·simp[h.s3 x hx]
  ·simp[List.mem_singleton.1 hx]
 ·intro x hx;simp[h.s4 x hx]
 ·intro x hx
  rcases List.mem_append.1 hx with hx|hx
  ·rcases h.all x hx with h|h<;>simp[h]
  ·simp[List.mem_singleton.1 hx]
theorem SysL.write{w1 w2 w3 w4:List Int}{n:Int}(h:SysL w1 w2 w3 w4 n)(h0:0<=n):SysL (w1++[n]) w2 w3 (w4++[n]) (n+1):=by
 refine⟨Hz h.o1 λx hx=>(h.r1 x hx).2,h.o2,h.o3,Hz h.o4 λx hx=>(h.r1 x (h.s4 x hx)).2,?_,λx hx=>⟨(h.r2 x hx).1,by have:=(h.r2 x hx).2;omega⟩,?_,?_,?_,?_⟩
 ·intro x hx
  rcases List.mem_append.1 hx with hx|hx
  ·have:=h.r1 x hx;omega
  ·rw[List.mem_singleton.1 hx];omega
 ·intro x hx hx2
  rcases List.mem_append.1 hx with hx|hx
  ·exact h.d x hx hx2
  ·have:=h.r2 x hx2;rw[List.mem_singleton.1 hx]at this;omega
 ·intro x hx;simp[h.s3 x hx]
 ·intro x hx
  rcases List.mem_append.1 hx with hx|hx
  ·simp[h.s4 x hx]
  ·simp[List.mem_singleton.1 hx]
 ·intro x hx
  rcases List.mem_append.1 hx with hx|hx
  ·rcases h.all x hx with h|h<;>simp[h]
  ·simp[List.mem_singleton.1 hx]
theorem SysL.without{w1 w2 w3 w4:List Int}{n:Int}(h:SysL w1 w2 w3 w4 n)(h0:0<=n):SysL w1 (w2++[n]) w3 w4 (n+1):=by
 refine⟨h.o1,Hz h.o2 λx hx=>(h.r2 x hx).2,h.o3,h.o4,λx hx=>⟨(h.r1 x hx).1,by have:=(h.r1 x hx).2;omega⟩,?_,?_,h.s3,h.s4,h.all⟩
 ·intro x hx
  rcases List.mem_append.1 hx with hx|hx
  ·have:=h.r2 x hx;omega
  ·rw[List.mem_singleton.1 hx];omega
 ·intro x hx hx2
  rcases List.mem_append.1 hx2 with hx2|hx2
  ·exact h.d x hx hx2
  ·have:=h.r1 x hx;rw[List.mem_singleton.1 hx2]at this;omega
theorem SysL.zero{w2 w3 w4:List Int}{n:Int}(h:SysL [] w2 w3 w4 n)(h0:1<=n):SysL [0] (w2.filter λx=>!decide (x=0)) w3 [0] n:=by
 refine⟨List.pairwise_singleton _ _,h.o2.sublist List.filter_sublist,h.o3,List.pairwise_singleton _ _,by simp;omega,λx hx=>h.r2 x (List.mem_filter.1 hx).1,by simp,?_,by simp,by simp⟩;intro x hx;exact absurd (h.s3 x hx) (by simp)
def DV{α:Type}(f:α->AV)(z:AV)(l:List α)(i:Nat):List AV:=(l.take i).map f++List.replicate (l.length-i) z
theorem GW{α:Type}(f:α->AV)(z:AV)(l:List α):DV f z l 0=List.replicate l.length z:=by simp[DV]
theorem K6{α:Type}(f:α->AV)(z:AV)(l:List α)(i:Nat)(h:i<=l.length):(DV f z l i).length=l.length:=by simp[DV];omega
theorem Ip{α:Type}(f:α->AV)(z:AV)(l:List α){i:Nat}(h:i<l.length):(DV f z l i)[i]?=some z:=by
 unfold DV;rw[List.getElem?_append_right (by simp;omega)];simp only[AB,Aj,Nat.min_eq_left (Nat.le_of_lt h),Nat.sub_self];rw[List.getElem?_replicate,if_pos (by omega)]
theorem Hf{α:Type}(f:α->AV)(z:AV)(l:List α){i:Nat}(h:i<l.length):(DV f z l i).set i (f l[i])=DV f z l (i+1):=by
 unfold DV;rw[List.set_append_right _ _ (by simp;omega),List.take_add_one,AI h];simp only[AB,Aj,Nat.min_eq_left (Nat.le_of_lt h),Nat.sub_self,Option.toList_some,List.map_append,List.map_cons,List.map_nil,AT]
 congr 1
 rw[show l.length-i=(l.length-(i+1))+1 from by omega,List.replicate_succ];rfl
theorem Hg{α:Type}(f:α->AV)(z:AV)(l:List α){i:Nat}(h:l.length<=i):DV f z l i=l.map f:=by
 unfold DV;rw[List.take_of_length_le h,show l.length-i=0 from by omega];simp
theorem D0(l:List Comp)(hl:l.length<=1099511627776)(hv:∀c∈l,c.vals.length<=1099511627776):PS Tryz.prog 59 [Ax false false l] (Ax true false l):=by
 refine Sp (nt:=27) (res:=[.tmp 2]) Tryz.func59 λSf=>?_
 have hl':(l.map (AG false)).length<=1099511627776:=by simpa using hl
 (iterate 8 refine WK ?_);refine Dt ?_;refine Fm (.agg [iA 0,.prim (.slice none 0 0)]) λK=>?_;refine KK ?_
 refine Az (λi:Nat=>⟨[(3,.sl K 0 (l.map (AG false)).length),(9,Ax false false l),(10,iA (l.map (AG false)).length),(11,iA i)],(K,.row 42 2 (DV (AG false) (.agg [iA 0,.prim (.slice none 0 0)]) l i))::Sf⟩) (λi=>i<=l.length) (λi=>l.length-i) 0 (Nat.zero_le _) ?_ ⟨by(repeat (first|exact .nil|refine .cons (by first|rfl|assumption) ?_)),by rw[GW,<-AB (f:=AG false)];exact Sub.f⟩;rintro i hi;refine KK ?_;refine AWP.cond rfl (λhc=>?_) (λhc=>?_)
 ·have h:i<l.length:=by simpa using hc
  have hm:i<(l.map (AG false)).length:=by simpa using h
  have hat:=Ip (AG false) (.agg [iA 0,.prim (.slice none 0 0)]) l h;refine KK ?_;refine Ai λX=>?_;refine KK ?_
  refine JM ?_;refine RGo.g_callf ?_;refine RGo.c1 (h:=(Es _ (by have:=hv _ (AU h);omega))) (k:=?_);(iterate 3 refine RK ?_);refine RGo.nil (by kernel_rfl) ?_;refine KK ?_;have hs:=Hf (AG false) (.agg [iA 0,.prim (.slice none 0 0)]) l h;refine TJ (i+1) h ?_;dsimp only;rw[<-hs];exact Sub.f
 ·have h:l.length<=i:=by rw[AN,AB]at hc;omega
  rw[Hg _ _ _ h];refine JA ?_;exact⟨[.sl K 0 (l.map (AG false)).length],[.lst true 42 2 (l.map (AG false))],_,[],.cons (.tmp rfl) rfl .nil,.cons (.cell (.sl (p:=0) .here rfl)) .nil,by exact Sub.f,rfl,rfl⟩
def Rs(x:UInt64):UInt64:=(x^^^(x>>>UInt64.ofNat 31))*7640891576956012809
def V8(x:UInt64):UInt64:=(x^^^(x>>>UInt64.ofNat 27))*13503953896175478587
def EQ(x:UInt64):UInt64:=V8 (Rs x)^^^(V8 (Rs x)>>>UInt64.ofNat 30)
theorem NH(x:UInt64):PS Tryz.prog 182 [uA x] (uA (EQ x)):=by
 refine Sp (nt:=17) (res:=[.tmp 2]) Tryz.func182 λSf=>?_
 refine R1 ?_;refine JF ?_;refine WO ?_;refine AOps.gN ?_;refine AOps.p (Di 31 (by omega) rfl rfl rfl) rfl ?_;refine AOps.gN ?_;refine AOps.p (Hm rfl rfl) rfl ?_;refine AOps.gN ?_;refine AOps.p (DI (b:=7640891576956012809) rfl rfl) rfl ?_;refine JB ?_;rw[show(x^^^(x>>>UInt64.ofNat 31))*7640891576956012809=Rs x from rfl];refine JF ?_;refine WO ?_;refine AOps.gN ?_;refine AOps.p (Di 27 (by omega) rfl rfl rfl) rfl ?_;refine AOps.gN ?_;refine AOps.p (Hm rfl rfl) rfl ?_;refine AOps.gN ?_;refine AOps.p (DI (b:=13503953896175478587) rfl rfl) rfl ?_;refine JB ?_;rw[show(Rs x^^^(Rs x>>>UInt64.ofNat 27))*13503953896175478587=V8 (Rs x)from rfl];refine JF ?_;refine WO ?_;refine AOps.gN ?_;refine AOps.p (Di 30 (by omega) rfl rfl rfl) rfl ?_;refine AOps.gN ?_;refine AOps.p (Hm rfl rfl) rfl ?_;refine JB ?_;refine RT ?_;refine AF ?_;rfl
def Fw:UInt64:=11400714819323198485
def ME(s:UInt64)(n:Int):UInt64:=EQ (s+Fw)^^^UInt64.ofInt n
def HS(r:UInt64×UInt64):AV:=.agg [uA r.1,uA r.2]
instance {r:UInt64×UInt64}:Frz (HS r) (HS r):=⟨rfl⟩
def Ex(l:List Int):UInt64×UInt64:=(EQ (l.foldl ME (UInt64.ofNat l.length)+Fw),EQ (EQ (l.foldl ME (UInt64.ofNat l.length)+Fw)+Fw)|||1)
theorem S3(l:List Int)(hl:l.length<=1099511627776):PS Tryz.prog 101 [AM false l] (HS (Ex l)):=by
 have hlm:(l.map iA).length=l.length:=AB _;refine Sp (nt:=31) (res:=[.cell 2 183]) Tryz.func101 λSf=>?_
 refine JF ?_;refine Ai λR=>?_;refine NL ?_
 (iterate 4 refine WK ?_);refine AOps.gN ?_;refine AOps.p (F7 .i64 (l.map iA).length rfl (by omega) (by kernel_rfl) (by kernel_rfl) rfl) rfl ?_;refine KK ?_
 obtain⟨e,he⟩:=nm (l.foldl ME (UInt64.ofNat l.length));refine Bq (λ(i:Nat) (s:UInt64)=>⟨[(2,.ptr R 0 0),(3,uA s),(9,AM false l),(10,iA (l.map iA).length),(11,iA i)],(R,.row 183 2 [.agg [uA 0,uA 0]])::Sf⟩) (λi s=>i<=l.length/\(l.drop i).foldl ME s=e) (λi _=>l.length-i) 0 (UInt64.ofNat (l.map iA).length) ⟨Nat.zero_le _,by rw[hlm];exact he⟩ ?_;rintro i s ⟨hi,hs⟩;refine KK ?_;refine AWP.cond rfl (λhc=>?_) (λhc=>?_)
 ·have h:i<l.length:=by rw[AE,hlm]at hc;omega
  have hat:(l.map iA)[i]?=some (iA l[i]):=by rw[AH,AI h];rfl
  have h1:=NH (s+Fw);refine R1 ?_;refine WK ?_;refine WK ?_;refine AOps.gN ?_;refine AOps.p (Ea (b:=Fw) rfl rfl) rfl ?_;refine AOps.g_callf ?_;refine AOps.c1 (h:=(h1 ..)) (k:=?_);refine WK ?_;refine AOps.gN ?_;refine AOps.p (W4 .i64 (by kernel_rfl) (by kernel_rfl) rfl) rfl ?_;refine AOps.gN ?_;refine AOps.p (Hm rfl rfl) rfl ?_;refine KK ?_;refine BK (i+1) (ME s l[i]) ⟨h,?_⟩;rw[<-hs,CG h];rfl
 ·have h:i=l.length:=by rw[AN,hlm]at hc;omega
  rw[h,List.drop_length]at hs;have hs:s=e:=hs;subst hs;have h1:=NH (s+Fw);refine JF ?_;refine AOps.gN ?_;refine AOps.p (Ea (b:=Fw) rfl rfl) rfl ?_;refine AOps.g_callf ?_;refine AOps.c1 (h:=(h1 ..)) (k:=?_);refine JB ?_;have h2:=NH (EQ (s+Fw)+Fw);refine JF ?_;refine WO ?_;refine AOps.gN ?_;refine AOps.p (Ea (b:=Fw) rfl rfl) rfl ?_;refine AOps.g_callf ?_;refine AOps.c1 (h:=(h2 ..)) (k:=?_);refine AOps.gN ?_;refine AOps.p (Vp (b:=1) rfl rfl) rfl ?_;refine JE ?_;refine RT ?_;unfold Ex;rw[he];exact Bw [HS (EQ (s+Fw),EQ (EQ (s+Fw)+Fw)|||1)] [HS (EQ (s+Fw),EQ (EQ (s+Fw)+Fw)|||1)] (.cons (.agg (.cons .same (.cons .same .nil))) .nil)
def Cs(r:UInt64×UInt64):UInt64×UInt64:=(r.1+r.2,r.2)
theorem Pg(r:UInt64×UInt64):PS Tryz.prog 275 [HS r] (.tup [uA (EQ (Cs r).1),HS (Cs r)]):=by
 have h1:=NH (r.1+r.2);refine Sp (nt:=14) (res:=[.tmp 2,.cell 3 183]) Tryz.func275 λSf=>?_
 refine JF ?_;refine Ai λR=>?_;refine KO ?_;refine Ai λR=>?_;refine NL ?_
 refine RG ?_;(iterate 4 refine WO ?_);refine AOps.gN ?_;refine AOps.p (Ea rfl rfl) rfl ?_;refine JE ?_;refine RU ?_;refine JH ?_;refine RGo.gN ?_;refine RGo.c1 (h:=h1) (k:=?_);(iterate 3 refine RK ?_);refine RGo.nil (by kernel_rfl) ?_;refine RT ?_;exact Bw [uA (EQ (r.1+r.2)),HS (Cs r)] [uA (EQ (r.1+r.2)),HS (Cs r)] (.cons (.cell .same) (.cons (.agg (.cons .same (.cons .same .nil))) .nil))
section
open Go.Sort
theorem BC{α:Type}[Inhabited α](f:α->AV){d:Array α}{i:Nat}(h:i<d.size):(d.toList.map f)[i]?=some (f d[i]!):=by
 rw[AH,AI (by simpa using h)];simp[getElem!_pos d i h]
theorem Cl{α:Type}[Inhabited α](f:α->AV){d:Array α}{i j:Nat}(hi:i<d.size)(hj:j<d.size):((d.toList.map f).set i (f d[j]!)).set j (f d[i]!)=(swp d i j).toList.map f:=by
 unfold swp;simp[Array.toList_setIfInBounds,List.map_set]
theorem CN{α:Type}[Inhabited α](f:α->AV){d:Array α}{i j:Nat}(hj:j<d.size)(x:α):∃y,((d.toList.map f).set i (f x))[j]?=some (f y):=by
 by_cases e:i=j
 ·subst e;exact⟨x,List.getElem?_set_self (by simpa using hj)⟩
 ·exact⟨d[j]!,by rw[List.getElem?_set_ne e];exact BC f hj⟩
def AZ{α:Type}(cf:α->α->Int)(x y:α):Bool:=decide (cf x y<0)
instance:Inhabited Comp:=⟨⟨0,[]⟩⟩
instance:Inhabited Item:=⟨⟨⟨0,0⟩,[]⟩⟩
theorem Fb{α:Type}[Inhabited α](lt:α->α->Bool)(d:Array α)(a b s:Nat):(order2 lt d a b s).2.2<=s+1:=by
 unfold order2;split<;>simp
theorem IZ{α:Type}[Inhabited α](lt:α->α->Bool)(d:Array α)(a b s m:Nat)(ha:a<m)(hb:b<m):(order2 lt d a b s).1<m/\(order2 lt d a b s).2.1<m:=by
 unfold order2;split<;>exact⟨by assumption,by assumption⟩
theorem Ib{α:Type}[Inhabited α](lt:α->α->Bool)(d:Array α)(a b c s:Nat):(median lt d a b c s).2<=s+3:=by
 have e1:=Fb lt d a b s;have e2:=Fb lt d (order2 lt d a b s).2.1 c (order2 lt d a b s).2.2;have e3:=Fb lt d (order2 lt d a b s).1 (order2 lt d (order2 lt d a b s).2.1 c (order2 lt d a b s).2.2).1 (order2 lt d (order2 lt d a b s).2.1 c (order2 lt d a b s).2.2).2.2;unfold median;dsimp only;omega
theorem Id{α:Type}[Inhabited α](lt:α->α->Bool)(d:Array α)(a s m:Nat)(h:a+1<m):(medianAdjacent lt d a s).1<m:=by
 rcases medianAdjacent_mem lt d a s with e|e|e<;>omega
def Vo:Hint->Int
 |.unknown=>0
 |.increasing=>1
 |.decreasing=>2
end
section
open Go.Sort
def lenTab:List UInt8:=(List.range 256).map λn=>UInt8.ofNat (if n=0 then 0 else Nat.log2 n+1)
theorem MS{n:Nat}(h:n<256):((lenTab.getD n 0).toNat:Int)=bitsLen n:=by
 have h1:lenTab.getD n 0=UInt8.ofNat (bitsLen n):=by
  unfold lenTab;rw[CF,AH,List.getElem?_range h];rfl
 have h2:bitsLen n<=8:=(bitsLen_le_iff n 8).2 (by omega);rw[h1,UInt8.toNat_ofNat'];omega
theorem Pu:lenTab.length=256:=by simp[lenTab]
theorem LV{x:Nat}(h:256<=x):bitsLen (x/256)+8=bitsLen x:=by
 have a:=(bitsLen_le_iff (x/256) (bitsLen x-8)).2 (by
  have h1:=lt_two_pow_bitsLen x
  have h2:8<bitsLen x:=by
   have:=(bitsLen_le_iff x 8);omega
  have h3:2^bitsLen x=2^(bitsLen x-8)*256:=by rw[show(256:Nat)=2^8 from rfl,<-Nat.pow_add];congr 1;omega
  omega)
 have b:=(bitsLen_le_iff x (bitsLen (x/256)+8)).2 (by
  have h1:=lt_two_pow_bitsLen (x/256);rw[Nat.pow_add];omega)
 have h2:8<bitsLen x:=by
  have:=(bitsLen_le_iff x 8);omega
 omega
set_option maxRecDepth 100000 in
theorem TK(x:UInt64)(hx:x.toNat<65536):PS Tryz.prog 221 [uA x] (iA (bitsLen x.toNat)):=by
 refine Sp (nt:=25) (res:=[.tmp 2]) Tryz.func221 λSf=>?_
 refine KK ?_;refine AA rfl (AK (by omega)) ?_;refine KK ?_;refine AA rfl (AK (by omega)) ?_;refine KK ?_;refine Bl (λb:UInt64×Nat=>b.1.toNat<256/\bitsLen b.1.toNat+b.2=bitsLen x.toNat/\b.2<=8) (λb=>⟨[(0,uA b.1),(2,iA b.2)],Sf⟩) ?_ ?_
 ·refine AWP.cond rfl (λh=>?_) (λh=>?_)
  ·have h:256<=x.toNat:=by have:=of_decide_eq_true h;omega
   have hs:(x>>>UInt64.ofNat 8).toNat=x.toNat/256:=by
    rw[UInt64.toNat_shiftRight,UInt64.toNat_ofNat',show 8%2^64%64=8 from rfl,Nat.shiftRight_eq_div_pow]
   (iterate 3 refine WK ?_);refine AOps.gN ?_;refine AOps.p (Di 8 (by omega) rfl rfl rfl) rfl ?_;refine KK ?_
   refine jn (x>>>UInt64.ofNat 8,8) ⟨by dsimp only;omega,?_,by(try dsimp only);omega⟩;dsimp only;rw[hs];exact LV h
  ·have h:¬256<=x.toNat:=by have:=of_decide_eq_false h;omega
   refine WK ?_;exact jn (x,0) ⟨by dsimp only;omega,rfl,by(try dsimp only);omega⟩
 ·rintro⟨u,m⟩ ⟨h1,h2,h3⟩
  dsimp only at h1 h2 h3⊢;have hw:IntKind.u8.wrap ((u.toNat:Nat):Int)=((u.toNat:Nat):Int):=by rw[IntKind.wrap_u8'];omega
  have hat:=MS h1;have hb8:bitsLen u.toNat<=8:=(bitsLen_le_iff _ 8).2 (by omega);have hw2:IntKind.i64.wrap ((lenTab.getD u.toNat 0).toNat:Int)=((bitsLen u.toNat:Nat):Int):=by rw[hat];exact Du (by omega) (by omega)
  (iterate 4 refine WK ?_);refine AOps.gN ?_;refine AOps.p (W.convW .u64 .u8 _ (by kernel_rfl) (by kernel_rfl) hw rfl) rfl ?_;refine WK ?_;refine AOps.gN ?_;refine AOps.p (W.convW .u8 .i64 _ (by kernel_rfl) (by kernel_rfl) hw2 rfl) rfl ?_;refine AOps.gN ?_;refine AOps.p (Bc ((bitsLen x.toNat:Nat):Int) (by omega) (by omega) rfl rfl) rfl ?_;refine KK ?_
  refine RT ?_;refine AF ?_;rfl
theorem Pt(x:UInt64)(hx:x.toNat<65536):PS Tryz.prog 158 [uA x] (iA (bitsLen x.toNat)):=by
 have h:=TK x hx;refine Sp (nt:=8) (res:=[.tmp 2]) Tryz.func158 λSf=>?_
 refine KK ?_;refine AA rfl rfl ?_;refine KK ?_;refine AOps.g_callf ?_;refine AOps.c1 (h:=(h ..)) (k:=?_);refine JA ?_;refine AF ?_;rfl
theorem Po(n:Nat)(hn:n<65536):PS Tryz.prog 263 [iA n] (uA ((1:UInt64)<<<UInt64.ofNat (bitsLen n))):=by
 have e:(UInt64.ofNat n).toNat=n:=by rw[UInt64.toNat_ofNat'];omega
 have h:=Pt (UInt64.ofNat n) (by rw[e];exact hn);rw[e]at h;have hb:bitsLen n<=16:=(bitsLen_le_iff n 16).2 (by omega);refine Sp (nt:=7) (res:=[.tmp 2]) Tryz.func263 λSf=>?_
 (iterate 7 refine WK ?_);refine AOps.gN ?_;refine AOps.p (F7 .i64 n rfl (by omega) (by kernel_rfl) (by kernel_rfl) rfl) rfl ?_;refine AOps.g_callf ?_;refine AOps.c1 (h:=(h ..)) (k:=?_);refine AOps.gN ?_;refine AOps.p (Iw (a:=1) (bitsLen n) (by omega) rfl rfl rfl) rfl ?_;refine KK ?_
 refine RT ?_;refine AF ?_;rfl
theorem PC(Y:Nat)(s:UInt64):Spec Tryz.prog 264 [.ptr Y 0 0] [(Y,.row 355 1 [uA s])] λr S'=>∃v:UInt64,True/\r=uA v/\S'=[(Y,.row 355 1 [uA v])]:=by
 refine Sp (nt:=33) (res:=[.tmp 2]) Tryz.func264 λSf=>?_
 refine R1 ?_;refine RU ?_;(iterate 6 refine RK ?_);refine RGo.gN ?_;refine RGo.p (Iw 13 (by omega) rfl rfl rfl) rfl ?_;refine RGo.gN ?_;refine RGo.p (Hm rfl rfl) rfl ?_;refine JH ?_;refine RGo.nil (by kernel_rfl) ?_;(repeat refine WF ?_);refine RU ?_;(iterate 6 refine RK ?_);refine RGo.gN ?_;refine RGo.p (Di 7 (by omega) rfl rfl rfl) rfl ?_;refine RGo.gN ?_;refine RGo.p (Hm rfl rfl) rfl ?_;refine JH ?_;refine RGo.nil (by kernel_rfl) ?_;(repeat refine WF ?_);refine RU ?_;(iterate 6 refine RK ?_);refine RGo.gN ?_;refine RGo.p (Iw 17 (by omega) rfl rfl rfl) rfl ?_;refine RGo.gN ?_;refine RGo.p (Hm rfl rfl) rfl ?_;refine JH ?_;refine RGo.nil (by kernel_rfl) ?_;refine JA ?_;exact Ends.sp [uA _] [(Y,_)] ⟨_,trivial,rfl,rfl⟩
end
section
open Go.Sort
def DW(a:Int):Int:=if 1099511627776<(if a< -1099511627776 then-1099511627776 else a)then 1099511627776 else if a< -1099511627776 then-1099511627776 else a
theorem IE(a:Int): -1099511627776<=DW a/\DW a<=1099511627776:=by unfold DW;split<;>split<;>omega
theorem E9(a:Int):PS Tryz.prog 289 [iA a] (iA (DW a)):=by
 refine Sp (nt:=6) (res:=[.tmp 2]) Tryz.func289 λSf=>?_
 refine JA ?_;refine AF ?_;rfl
def NI(a:Int):UInt64:=UInt64.ofNat a.natAbs
theorem Pr(a:Int)(h: -1099511627776<=a/\a<=1099511627776):PS Tryz.prog 290 [iA a] (uA (NI a)):=by
 refine Sp (nt:=10) (res:=[.tmp 2]) Tryz.func290 λSf=>?_
 unfold NI;by_cases hn:a<0
 ·refine KK ?_
  refine AL rfl (Ah hn) ?_;refine JF ?_;refine AOps.gN ?_;refine AOps.p (QV (-a) rfl (by omega) rfl) rfl ?_;refine AOps.gN ?_;refine AOps.p (F7 .i64 a.natAbs (by omega) (by omega) (by kernel_rfl) (by kernel_rfl) rfl) rfl ?_;refine JB ?_;refine RT ?_;refine AF ?_;rfl
 ·refine KK ?_
  refine AA rfl (AK hn) ?_
  (iterate 4 refine WK ?_);refine AOps.gN ?_;refine AOps.p (F7 .i64 a.natAbs (by omega) (by omega) (by kernel_rfl) (by kernel_rfl) rfl) rfl ?_;refine KK ?_
  refine RT ?_;refine AF ?_;rfl
def OH(x y:UInt64):UInt64:=
 (x>>>UInt64.ofNat 32)*(y>>>UInt64.ofNat 32)+(((x>>>UInt64.ofNat 32)*(y&&&4294967295)+((x&&&4294967295)*(y&&&4294967295))>>>UInt64.ofNat 32)>>>UInt64.ofNat 32)+
  ((((x>>>UInt64.ofNat 32)*(y&&&4294967295)+((x&&&4294967295)*(y&&&4294967295))>>>UInt64.ofNat 32)&&&4294967295)+(x&&&4294967295)*(y>>>UInt64.ofNat 32))>>>UInt64.ofNat 32
theorem TE(x y:UInt64):PS Tryz.prog 291 [uA x,uA y] (.tup [uA (OH x y),uA (x*y)]):=by
 refine Sp (nt:=51) (res:=[.tmp 4,.tmp 5]) Tryz.func291 λSf=>?_
 refine R1 ?_;refine JF ?_;refine AOps.gN ?_;refine AOps.p (Iy (b:=4294967295) rfl rfl) rfl ?_;refine JB ?_;refine JF ?_;refine AOps.gN ?_;refine AOps.p (Di 32 (by omega) rfl rfl rfl) rfl ?_;refine JB ?_;refine JF ?_;refine AOps.gN ?_;refine AOps.p (Iy (b:=4294967295) rfl rfl) rfl ?_;refine JB ?_;refine JF ?_;refine AOps.gN ?_;refine AOps.p (Di 32 (by omega) rfl rfl rfl) rfl ?_;refine JB ?_;refine JF ?_;refine WO ?_;refine AOps.gN ?_;refine AOps.p (DI rfl rfl) rfl ?_;refine JB ?_;refine RG ?_;(repeat first|(refine AOps.gN ?_;first|refine AOps.p (DI rfl rfl) rfl ?_|refine AOps.p (Di 32 (by omega) rfl rfl rfl) rfl ?_|refine AOps.p (Ea rfl rfl) rfl ?_)|refine WO ?_|refine Ai λX=>?_|refine Ay λY=>?_);refine NL ?_;refine JF ?_;refine AOps.gN ?_;refine AOps.p (Iy (b:=4294967295) rfl rfl) rfl ?_;refine JB ?_;refine JF ?_;refine AOps.gN ?_;refine AOps.p (Di 32 (by omega) rfl rfl rfl) rfl ?_;refine JB ?_;refine RG ?_;(iterate 3 refine WO ?_);refine AOps.gN ?_;refine AOps.p (DI rfl rfl) rfl ?_;refine AOps.gN ?_;refine AOps.p (Ea rfl rfl) rfl ?_;refine JB ?_;refine RG ?_;(repeat first|(refine AOps.gN ?_;first|refine AOps.p (DI rfl rfl) rfl ?_|refine AOps.p (Ea rfl rfl) rfl ?_|refine AOps.p (Di 32 (by omega) rfl rfl rfl) rfl ?_)|refine WO ?_|refine Ai λX=>?_|refine Ay λY=>?_);refine NL ?_;refine JF ?_;refine WO ?_;refine AOps.gN ?_;refine AOps.p (DI rfl rfl) rfl ?_;refine JB ?_;refine RT ?_;exact Bw [uA (OH x y),uA (x*y)] [uA (OH x y),uA (x*y)] (.cons (.cell .same) (.cons (.cell .same) .nil))
set_option maxRecDepth 100000 in
theorem Wh:PS Tryz.prog 302 [uA 65536] (iA 47):=by
 have hl:PS Tryz.prog 221 [uA 65536] (iA 17):=by
  refine Sp (nt:=25) (res:=[.tmp 2]) Tryz.func221 λSf=>?_
  refine KK ?_;refine AA rfl rfl ?_;refine KK ?_;refine AL rfl rfl ?_;refine JF ?_;refine AOps.gN ?_;refine AOps.p (Di 16 (by omega) rfl rfl rfl) rfl ?_;refine JB ?_;obtain⟨u,hu⟩:∃u:UInt64,(65536:UInt64)>>>UInt64.ofNat 16=u:=⟨_,rfl⟩;rw[hu];have h1:u.toNat=1:=by rw[<-hu];decide
  clear hu;refine KK ?_;refine AA rfl (AK (by omega)) ?_;have hw:IntKind.u8.wrap ((u.toNat:Nat):Int)=((u.toNat:Nat):Int):=by rw[IntKind.wrap_u8'];omega
  have hat:=MS (n:=u.toNat) (by omega);have hb1:bitsLen u.toNat=1:=by rw[h1];decide
  rw[hb1]at hat;have hw2:IntKind.i64.wrap ((lenTab.getD u.toNat 0).toNat:Int)=((1:Nat):Int):=by rw[hat];exact Du (by omega) (by omega)
  (repeat first|(refine AOps.gN ?_;first|refine AOps.p (W.convW .u64 .u8 _ (by kernel_rfl) (by kernel_rfl) hw rfl) rfl ?_|refine AOps.p (W.idxStr (s:=lenTab) (a:=u.toNat) (show ev _ _=_ by kernel_rfl) rfl rfl (by rw[Pu];omega)) rfl ?_|refine AOps.p (W.convW .u8 .i64 _ (by kernel_rfl) (by kernel_rfl) hw2 rfl) rfl ?_|refine AOps.p (Bc 17 rfl (by omega) rfl rfl) rfl ?_)|refine WK ?_|refine Ai λX=>?_|refine Ay λY=>?_);refine RT ?_;refine AF ?_;rfl
 refine Sp (nt:=6) (res:=[.tmp 2]) Tryz.func302 λSf=>?_
 refine KK ?_;refine AOps.g_callf ?_;refine AOps.c1 (h:=(hl ..)) (k:=?_);refine AOps.gN ?_;refine AOps.p (A9 47 rfl (by omega) rfl rfl) rfl ?_;refine JA ?_;refine AF ?_;rfl
def dU(hi lo:UInt64):UInt64:=(hi<<<UInt64.ofNat 47)|||(lo>>>UInt64.ofNat 17)
def dL(lo:UInt64):UInt64:=lo<<<UInt64.ofNat 47
def dR(hi lo:UInt64):UInt64:=dU hi lo*4294967296+(dL lo>>>UInt64.ofNat 32)-dU hi lo/2147483648*9223372036854775808
def HJ(hi lo:UInt64):UInt64×UInt64:=
 (dU hi lo/2147483648*4294967296+dR hi lo/2147483648,(dR hi lo*4294967296+(dL lo&&&4294967295)-dR hi lo/2147483648*9223372036854775808)>>>UInt64.ofNat 47)
theorem Wp{hi lo:UInt64}(h:hi.toNat<65536):(dU hi lo).toNat<9223372036854775808:=by
 unfold dU
 have h1:(hi<<<UInt64.ofNat 47).toNat<2^63:=by
  rw[UInt64.toNat_shiftLeft,UInt64.toNat_ofNat',show 47%2^64%64=47 from rfl,Nat.shiftLeft_eq];omega
 have h2:(lo>>>UInt64.ofNat 17).toNat<2^63:=by
  rw[UInt64.toNat_shiftRight,UInt64.toNat_ofNat',show 17%2^64%64=17 from rfl,Nat.shiftRight_eq_div_pow];have:=lo.toNat_lt;omega
 rw[UInt64.toNat_or];exact Nat.or_lt_two_pow h1 h2
theorem Wq{hi lo:UInt64}:(dR hi lo).toNat<9223372036854775808:=by
 have h2:(dL lo>>>UInt64.ofNat 32).toNat<4294967296:=by
  rw[UInt64.toNat_shiftRight,UInt64.toNat_ofNat',show 32%2^64%64=32 from rfl,Nat.shiftRight_eq_div_pow];have:=(dL lo).toNat_lt;omega
 have h0:=(dU hi lo).toNat_lt;unfold dR;generalize dL lo>>>UInt64.ofNat 32=v at h2⊢;generalize dU hi lo=u at h0⊢;rw[UInt64.toNat_sub,UInt64.toNat_add,UInt64.toNat_mul,UInt64.toNat_mul,UInt64.toNat_div];rw[show(4294967296:UInt64).toNat=4294967296 from rfl,show(2147483648:UInt64).toNat=2147483648 from rfl,show(9223372036854775808:UInt64).toNat=9223372036854775808 from rfl];omega
theorem T2(hi lo:UInt64)(h:hi.toNat<65536):PS Tryz.prog 292 [uA hi,uA lo,uA 65536] (.tup [uA (if hi=0 then lo/65536 else(HJ hi lo).1),uA (if hi=0 then lo%65536 else(HJ hi lo).2)]):=by
 have hu:=Wp (lo:=lo) h;have hr:=Wq (hi:=hi) (lo:=lo);refine Sp (nt:=135) (res:=[.tmp 6,.tmp 7]) Tryz.func292 λSf=>?_
 refine KK ?_;refine AA rfl rfl ?_;refine KK ?_;have hd1:decide (((65536:UInt64).toNat:Int)<=hi.toNat)=false:=AK (by rw[show(65536:UInt64).toNat=65536 from rfl];omega);refine AA rfl hd1 ?_;by_cases h0:hi=0
 ·rw[if_pos h0,if_pos h0]
  subst h0;refine KK ?_;refine AL rfl rfl ?_;refine RU ?_;refine JH ?_;refine RGo.gN ?_;refine RGo.go (h:=QT (b:=65536) (by decide) rfl rfl) (k:=?_);refine JH ?_;refine RGo.gN ?_;refine RGo.go (h:=LZ (b:=65536) (by decide) rfl rfl) (k:=?_);refine JH ?_;refine RGo.nil (by kernel_rfl) ?_;refine RT ?_;exact Bw [uA (lo/65536),uA (lo%65536)] [uA (lo/65536),uA (lo%65536)] (.cons (.cell .same) (.cons (.cell .same) .nil))
 rw[if_neg h0,if_neg h0];refine KK ?_;refine AA rfl (AK (λe=>h0 (UInt64.toNat_inj.1 (Int.ofNat_inj.1 e)))) ?_;refine JF ?_;refine AOps.g_callf ?_;refine AOps.c1 (h:=(Wh ..)) (k:=?_);refine AOps.gN ?_;refine AOps.p (F7 .i64 47 rfl (by omega) (by kernel_rfl) (by kernel_rfl) rfl) rfl ?_;refine JB ?_;refine JF ?_;refine WO ?_;refine AOps.gN ?_;refine AOps.p (Iw 47 (by omega) rfl rfl (by decide)) rfl ?_;refine JB ?_;rw[show(65536:UInt64)<<<UInt64.ofNat 47=9223372036854775808 from by decide];refine JF ?_;refine AOps.gN ?_;refine AOps.p (Di 32 (by omega) rfl rfl rfl) rfl ?_;refine JB ?_;rw[show(9223372036854775808:UInt64)>>>UInt64.ofNat 32=2147483648 from by decide];refine JF ?_;refine AOps.gN ?_;refine AOps.p (Iy (b:=4294967295) rfl rfl) rfl ?_;refine JB ?_;rw[show(9223372036854775808:UInt64)&&&4294967295=0 from by decide];refine RG ?_;(repeat first|(refine AOps.gN ?_;first|refine AOps.p (Iw 47 (by omega) rfl rfl (by decide)) rfl ?_|refine AOps.p (F8 (a:=64) rfl rfl) rfl ?_|refine AOps.p (Di 17 (by omega) rfl rfl (by decide)) rfl ?_|refine AOps.p (Vp rfl rfl) rfl ?_)|refine WO ?_|refine Ai λX=>?_|refine Ay λY=>?_);refine NL ?_;rw[show(hi<<<UInt64.ofNat 47)|||(lo>>>UInt64.ofNat 17)=dU hi lo from rfl];refine JF ?_;refine WO ?_;refine AOps.gN ?_;refine AOps.p (Iw 47 (by omega) rfl rfl (by decide)) rfl ?_;refine JB ?_;rw[show lo<<<UInt64.ofNat 47=dL lo from rfl];refine JF ?_;refine AOps.gN ?_;refine AOps.p (Di 32 (by omega) rfl rfl rfl) rfl ?_;refine JB ?_;refine JF ?_;refine AOps.gN ?_;refine AOps.p (Iy (b:=4294967295) rfl rfl) rfl ?_;refine JB ?_;refine JF ?_;refine WO ?_;refine AOps.gN ?_;refine AOps.p (QT (b:=2147483648) (by decide) rfl rfl) rfl ?_;refine JB ?_;refine RG ?_;(iterate 3 refine WO ?_);refine AOps.gN ?_;refine AOps.p (DI (b:=2147483648) rfl rfl) rfl ?_;refine AOps.gN ?_;refine AOps.p (F8 rfl rfl) rfl ?_;refine JB ?_
 have c1:∀u:UInt64,u.toNat<9223372036854775808->decide (((u/2147483648).toNat:Int)>=4294967296)=false:=λu hu=>AK (by
  rw[UInt64.toNat_div,show(2147483648:UInt64).toNat=2147483648 from rfl];omega)
 have c2:∀(a b:UInt64),decide (((a*0:UInt64).toNat:Int)>b.toNat)=false:=λa b=>AK (by
  rw[show a*0=0 from UInt64.mul_zero];show¬((0:Nat):Int)>b.toNat
  omega)
 have c1u:=c1 _ hu;have c1r:=c1 _ hr;refine FL ?_;refine Az (λ_:Unit=>⟨[(2,uA 9223372036854775808),(8,uA (UInt64.ofNat 47)),(9,uA 2147483648),(10,uA 0),(11,uA (dU hi lo)),(13,uA (dL lo>>>UInt64.ofNat 32)),(14,uA (dL lo&&&4294967295)),(15,uA (dU hi lo/2147483648)),(16,uA (dU hi lo-dU hi lo/2147483648*2147483648))],Sf⟩) (λ_=>True) (λ_=>0) () trivial ?_;rintro _ _;(repeat first|(refine AOps.gN ?_;first|refine AOps.go (h:=DI (b:=0) rfl rfl) (k:=?_)|refine AOps.go (h:=DI (a:=4294967296) rfl rfl) (k:=?_)|refine AOps.go (h:=Ea rfl rfl) (k:=?_))|refine WK ?_|refine Ai λX=>?_|refine Ay λY=>?_);refine AA rfl (c2 _ _) ?_;refine JD ?_;(repeat first|(refine AOps.gN ?_;first|refine AOps.p (DI (b:=4294967296) rfl rfl) rfl ?_|refine AOps.p (Ea rfl rfl) rfl ?_|refine AOps.p (DI (b:=9223372036854775808) rfl rfl) rfl ?_|refine AOps.p (F8 rfl rfl) rfl ?_)|refine WO ?_|refine Ai λX=>?_|refine Ay λY=>?_);refine NL ?_;rw[show dU hi lo*4294967296+(dL lo>>>UInt64.ofNat 32)-dU hi lo/2147483648*9223372036854775808=dR hi lo from rfl];refine JF ?_;refine WO ?_;refine AOps.gN ?_;refine AOps.p (QT (b:=2147483648) (by decide) rfl rfl) rfl ?_;refine JB ?_;refine RG ?_;(iterate 3 refine WO ?_);refine AOps.gN ?_;refine AOps.p (DI (b:=2147483648) rfl rfl) rfl ?_;refine AOps.gN ?_;refine AOps.p (F8 rfl rfl) rfl ?_;refine JB ?_;refine FL ?_;refine Az (λ_:Unit=>⟨[(2,uA 9223372036854775808),(8,uA (UInt64.ofNat 47)),(9,uA 2147483648),(10,uA 0),(14,uA (dL lo&&&4294967295)),(15,uA (dU hi lo/2147483648)),(16,uA (dR hi lo-dR hi lo/2147483648*2147483648)),(17,uA (dR hi lo)),(18,uA (dR hi lo/2147483648))],Sf⟩) (λ_=>True) (λ_=>0) () trivial ?_;rintro _ _;(repeat first|(refine AOps.gN ?_;first|refine AOps.go (h:=DI (b:=0) rfl rfl) (k:=?_)|refine AOps.go (h:=DI (a:=4294967296) rfl rfl) (k:=?_)|refine AOps.go (h:=Ea rfl rfl) (k:=?_))|refine WK ?_|refine Ai λX=>?_|refine Ay λY=>?_);refine AA rfl (c2 _ _) ?_;refine JD ?_;(repeat first|(refine AOps.gN ?_;first|refine AOps.p (DI (b:=4294967296) rfl rfl) rfl ?_|refine AOps.p (Ea rfl rfl) rfl ?_|refine AOps.p (DI (b:=9223372036854775808) rfl rfl) rfl ?_|refine AOps.p (F8 rfl rfl) rfl ?_|refine AOps.p (Di 47 (by omega) rfl rfl (by decide)) rfl ?_)|refine WO ?_|refine Ai λX=>?_|refine Ay λY=>?_);refine NL ?_;refine RT ?_;exact Bw [uA (HJ hi lo).1,uA (HJ hi lo).2] [uA (HJ hi lo).1,uA (HJ hi lo).2] (.cons (.cell .same) (.cons (.cell .same) .nil))
end
def Un(hi lo:UInt64):UInt64:=if hi=0 then lo/65536 else(HJ hi lo).1
def Vu(hi lo:UInt64):UInt64:=if hi=0 then lo%65536 else(HJ hi lo).2
def NE(neg:Bool)(q:Int)(r:UInt64):Int:=
 if neg=false then DW (if(r.toNat:Int)>=(65536-r).toNat then q+1 else q)else DW (-(if(r.toNat:Int)>(65536-r).toNat then q+1 else q))
def V7(neg:Bool)(hi lo:UInt64):Int:=
 if(hi.toNat:Int)>=65536 then(if neg then-1099511627776 else 1099511627776)else
 if((Un hi lo).toNat:Int)>1099511627776 then NE neg 1099511627777 0 else NE neg (Un hi lo).toNat (Vu hi lo)
def Rp(a b:Int):Int:=
 V7 (if DW b<0 then !(decide (DW a<0))else decide (DW a<0)) (OH (NI (DW a)) (NI (DW b))) (NI (DW a)*NI (DW b))
theorem Rq(a b:Int):PS Tryz.prog 274 [iA a,iA b,iA 65536] (iA (Rp a b)):=by
 have h1:=E9 a;have h2:=E9 b;have h3:=E9 65536;rw[show DW 65536=65536 from by decide]at h3;have ra:=IE a;have rb:=IE b;obtain⟨res,hres⟩:=nm (Rp a b);rw[hres];unfold Rp at hres;obtain⟨a1,ha1⟩:=nm (DW a);obtain⟨b1,hb1⟩:=nm (DW b);rw[ha1]at h1 ra hres;rw[hb1]at h2 rb hres;have h4:=Pr a1 ra;have h5:=Pr b1 rb;have h6:=Pr 65536 (by omega);rw[show NI 65536=65536 from by decide]at h6;obtain⟨ma,hma⟩:=nm (NI a1);obtain⟨mb,hmb⟩:=nm (NI b1);rw[hma]at h4 hres;rw[hmb]at h5 hres;have h7:=TE ma mb;obtain⟨hi,hhi⟩:=nm (OH ma mb);obtain⟨lo,hlo⟩:=nm (ma*mb);rw[hhi,hlo]at h7 hres;refine Sp (nt:=78) (res:=[.tmp 6]) Tryz.func274 λSf=>?_
 refine R1 ?_;refine KK ?_;refine AOps.g_callf ?_;refine AOps.c1 (h:=(h1 ..)) (k:=?_);refine WK ?_;refine AOps.g_callf ?_;refine AOps.c1 (h:=(h2 ..)) (k:=?_);refine WK ?_;refine AOps.g_callf ?_;refine AOps.c1 (h:=(h3 ..)) (k:=?_);refine KK ?_;refine AA rfl rfl ?_;refine KK ?_;refine Bl (λn:Bool=>V7 n hi lo=res) (λn=>⟨[(0,iA a1),(1,iA b1),(2,iA 65536),(7,bA n)],Sf⟩) ?_ ?_
 ·by_cases hb:b1<0
  ·rw[if_pos hb]at hres
   refine AL rfl (Ah hb) ?_;refine KK ?_;exact jn (!decide (a1<0)) hres
  ·rw[if_neg hb]at hres
   refine AA rfl (AK hb) ?_;refine WK ?_;exact jn (decide (a1<0)) hres
 clear hres;intro neg hres;refine KK ?_;refine AA rfl rfl ?_;refine JF ?_;refine AOps.g_callf ?_;refine AOps.c1 (h:=(h6 ..)) (k:=?_);refine JB ?_;refine JF ?_;refine AOps.g_callf ?_;refine AOps.c1 (h:=(h4 ..)) (k:=?_);refine WO ?_;refine AOps.g_callf ?_;refine AOps.c1 (h:=(h5 ..)) (k:=?_);refine AOps.g_callf ?_;refine AOps.c2 (h:=(h7 ..)) (k:=?_);refine JE ?_;refine KK ?_;unfold V7 at hres;by_cases hh:(hi.toNat:Int)>=65536
 ·rw[if_pos hh]at hres
  refine AL rfl (Ah hh) ?_;refine KK ?_;cases neg
  ·refine AA rfl rfl ?_
   refine JA ?_;refine AF ?_;rw[<-hres];rfl
  ·refine AL rfl rfl ?_
   refine JA ?_;refine AF ?_;rw[<-hres];rfl
 rw[if_neg hh]at hres;refine AA rfl (AK hh) ?_;have h8:=T2 hi lo (by omega);rw[show(if hi=0 then lo/65536 else(HJ hi lo).1)=Un hi lo from rfl,show(if hi=0 then lo%65536 else(HJ hi lo).2)=Vu hi lo from rfl]at h8;obtain⟨q,hq⟩:=nm (Un hi lo);obtain⟨r,hr⟩:=nm (Vu hi lo);rw[hq,hr]at h8 hres;refine JG ?_;refine AOps.g_callf ?_;refine C5 (h:=(h8 ..)) (k:=?_);refine JE ?_;refine KK ?_;refine Bl (λb:UInt64×UInt64=>b.1.toNat<=1099511627777/\NE neg b.1.toNat b.2=res) (λb=>⟨[(7,bA neg),(8,uA 65536),(11,uA b.1),(12,uA b.2)],Sf⟩) ?_ ?_
 ·by_cases hb:(q.toNat:Int)>1099511627776
  ·rw[if_pos hb]at hres
   refine AL rfl (Ah hb) ?_;refine KK ?_;exact jn (1099511627777,0) ⟨by decide,hres⟩
  ·rw[if_neg hb]at hres
   refine AA rfl (AK hb) ?_;refine WK ?_;exact jn (q,r) ⟨by dsimp only;omega,hres⟩
 clear hres hq hr h8;rintro⟨q,r⟩ ⟨hq,hres⟩;dsimp only at hq hres⊢
 (iterate 3 refine WK ?_);refine AOps.gN ?_;refine AOps.p (QU .u64 (by omega) (by kernel_rfl) (by kernel_rfl) rfl) rfl ?_;refine KK ?_
 unfold NE at hres;cases neg
 ·rw[if_pos rfl]at hres
  refine AL rfl rfl ?_
  (iterate 6 refine WK ?_);refine AOps.gN ?_;refine AOps.p (F8 rfl rfl) rfl ?_;refine KK ?_
  by_cases hc:(r.toNat:Int)>=(65536-r).toNat
  ·rw[if_pos hc]at hres
   have hc1:=E9 ((q.toNat:Int)+1);rw[hres]at hc1;refine AL rfl (Ah hc) ?_;refine KK ?_;refine AOps.g_callf ?_;refine AOps.c1 (h:=(hc1 ..)) (k:=?_);refine JA ?_;refine AF ?_;rfl
  ·rw[if_neg hc]at hres
   have hc1:=E9 (q.toNat:Int);rw[hres]at hc1;refine AA rfl (AK hc) ?_;refine KK ?_;refine AOps.g_callf ?_;refine AOps.c1 (h:=(hc1 ..)) (k:=?_);refine JA ?_;refine AF ?_;rfl
 ·rw[if_neg (by decide)]at hres
  refine AA rfl rfl ?_
  (iterate 7 refine WK ?_);refine AOps.gN ?_;refine AOps.p (F8 rfl rfl) rfl ?_;refine KK ?_
  by_cases hc:(r.toNat:Int)>(65536-r).toNat
  ·rw[if_pos hc]at hres
   have hc1:=E9 (-((q.toNat:Int)+1));rw[hres]at hc1;refine AL rfl (Ah hc) ?_
   (iterate 8 refine WK ?_);refine AOps.gN ?_;refine AOps.p (QV (-((q.toNat:Int)+1)) rfl (by omega) rfl) rfl ?_;refine AOps.g_callf ?_;refine AOps.c1 (h:=(hc1 ..)) (k:=?_);refine KK ?_
   refine RT ?_;refine AF ?_;rfl
  ·rw[if_neg hc]at hres
   have hc1:=E9 (-(q.toNat:Int));rw[hres]at hc1;refine AA rfl (AK hc) ?_
   (iterate 4 refine WK ?_);refine AOps.gN ?_;refine AOps.p (QV (-(q.toNat:Int)) rfl (by omega) rfl) rfl ?_;refine AOps.g_callf ?_;refine AOps.c1 (h:=(hc1 ..)) (k:=?_);refine KK ?_
   refine RT ?_;refine AF ?_;rfl
theorem V6(a b:Int):PS Tryz.prog 241 [iA a,iA b] (iA (Rp a b)):=by
 have h:=Rq a b;refine Sp (nt:=8) (res:=[.tmp 4]) Tryz.func241 λSf=>?_
 refine KK ?_;refine AOps.g_callf ?_;refine C5 (h:=(h ..)) (k:=?_);refine JA ?_;refine AF ?_;rfl
def WA(n:UInt64):UInt64:=18446744073709551615-(18446744073709551615%n+1)%n
def Eh(n:UInt64):Nat->UInt64×UInt64->UInt64×(UInt64×UInt64)
 |0,r=>(0,r)
 |k+1,r=>if EQ (Cs r).1<=WA n then(EQ (Cs r).1%n,Cs r)else Eh n k (Cs r)
def EG(r:UInt64×UInt64)(n:Nat):UInt64×(UInt64×UInt64):=Eh (UInt64.ofNat n) 18446744073709551616 r
theorem Rr:EQ 0=0:=by decide
theorem HK(n:UInt64):∀(k:Nat) (r:UInt64×UInt64),(Eh n k r).2.2=r.2
 |0,r=>rfl
 |k+1,r=>by
  rw[Eh];split
  ·rfl
  ·exact HK n k (Cs r)
theorem LW(n:UInt64)(hn:0<n.toNat):∀(k:Nat) (r:UInt64×UInt64),(Eh n k r).1.toNat<n.toNat
 |0,r=>by simpa[Eh]using hn
 |k+1,r=>by
  rw[Eh];split
  ·rw[UInt64.toNat_mod];exact Nat.mod_lt _ hn
  ·exact LW n hn k (Cs r)
theorem SU(r:UInt64×UInt64)(n:Nat)(h1:1<=n)(h2:n<=4611686018427387904)(hg:r.2.toNat%2=1):PS Tryz.prog 242 [HS r,iA n] (.tup [iA (EG r n).1.toNat,HS (EG r n).2,iA 0]):=by
 obtain⟨m,hm⟩:=nm (UInt64.ofNat n);have hmn:m.toNat=n:=by rw[<-hm,UInt64.toNat_ofNat'];omega
 obtain⟨k0,hk1,hk2,hk3⟩:=TD r.1 r.2 hg
 have hodd:decide (((r.2%2).toNat:Int)=0)=false:=AK (by
  rw[UInt64.toNat_mod];show¬((r.2.toNat%2:Nat):Int)=0
  omega)
 obtain⟨res,hres⟩:=nm (EG r n);rw[hres];have hlt:res.1.toNat<m.toNat:=by rw[<-hres];unfold EG;rw[hm];exact LW m (by omega) _ _
 unfold EG at hres;rw[hm]at hres;refine Sp (nt:=40) (res:=[.tmp 4,.cell 5 183,.tmp 6]) Tryz.func242 λSf=>?_
 (repeat refine WF ?_);refine AWP.region ?_;refine IQ λB=>?_
 refine KO ?_;refine Ai λR=>?_;refine WO ?_
 refine FL ?_;have g1:decide ((n:Int)<1)=false:=AK (by omega)
 (iterate 9 refine WK ?_);refine AOps.gN ?_;refine AOps.go (h:=LZ (b:=2) (by decide) rfl rfl) (k:=?_);refine KK ?_
 refine AA rfl hodd ?_;refine JF ?_;refine AOps.gN ?_;refine AOps.p (F7 .i64 n rfl (by omega) (by kernel_rfl) (by kernel_rfl) rfl) rfl ?_;refine JB ?_;rw[hm];refine JF ?_;refine AOps.gN ?_;refine AOps.go (h:=LZ (a:=18446744073709551615) (b:=m) (by omega) rfl rfl) (k:=?_);refine AOps.gN ?_;refine AOps.p (Ea (b:=1) rfl rfl) rfl ?_;refine WO ?_;refine AOps.gN ?_;refine AOps.go (h:=LZ (b:=m) (by omega) rfl rfl) (k:=?_);refine JB ?_;refine FL ?_;refine D4 (λ(r':UInt64×UInt64) (k K:Nat)=>⟨[(2,.ptr B 0 0),(5,.ptr R 0 0),(7,uA m),(8,uA ((18446744073709551615%m+1)%m))],(R,.row 183 2 [HS (0,0)])::(B,.row 183 2 [HS r'])::Sf⟩) (λr' k K=>1<=k/\k<=K/\r'.2=r.2/\(r'.1.toNat+k*r'.2.toNat)%18446744073709551616=0/\Eh m K r'=res) (λ_ _ K=>K) r k0 18446744073709551616 ⟨hk1,hk2,rfl,hk3,hres⟩ ?_;rintro r' k K ⟨hk1,hk2,hr2,hk3,hres⟩;have hnx:=Pg r';obtain⟨K',rfl⟩:∃K',K=K'+1:=⟨K-1,by omega⟩;rw[Eh]at hres;(repeat refine WF ?_);refine R1 ?_;refine JF ?_;refine AOps.g_callf ?_;refine AOps.c1 (h:=(hnx ..)) (k:=?_);refine JE ?_;refine JF ?_;refine WO ?_;refine AOps.gN ?_;refine AOps.p (F8 (a:=18446744073709551615) rfl rfl) rfl ?_;refine JB ?_
 have hst:((Cs r').1.toNat+(k-1)*(Cs r').2.toNat)%18446744073709551616=0:=by
  have e:(Cs r').1.toNat=(r'.1.toNat+r'.2.toNat)%18446744073709551616:=UInt64.toNat_add ..;rw[e,show(Cs r').2=r'.2 from rfl];obtain⟨j,rfl⟩:∃j,k=j+1:=⟨k-1,by omega⟩;rw[Nat.add_mul,Nat.one_mul]at hk3;rw[Nat.add_sub_cancel];generalize j*r'.2.toNat=u at hk3⊢;omega
 refine AWP.cond rfl (λhc=>?_) (λhc=>?_)
 ·have hc:EQ (Cs r').1<=WA m:=by
   rw[UInt64.le_iff_toNat_le];have:=of_decide_eq_true hc;exact Int.ofNat_le.1 this
  rw[if_pos hc]at hres;have hx:(EQ (Cs r').1%m).toNat<9223372036854775808:=by rw[show EQ (Cs r').1%m=res.1 from by rw[<-hres]];omega
  refine RU ?_;refine JH ?_;refine RGo.gN ?_;refine RGo.go (h:=LZ (b:=m) (by omega) rfl rfl) (k:=?_);refine RGo.gN ?_;refine RGo.go (h:=QU .u64 hx (by kernel_rfl) (by kernel_rfl) rfl) (k:=?_);(iterate 4 refine RK ?_);refine RGo.nil (by kernel_rfl) ?_;refine RT ?_;subst hres;exact Bw [iA (EQ (Cs r').1%m).toNat,HS (Cs r'),iA 0] [iA (EQ (Cs r').1%m).toNat,HS (Cs r'),iA 0] (.cons (.cell .same) (.cons (.agg (.cons .same (.cons .same .nil))) (.cons (.cell .same) .nil)))
 ·have hc:¬EQ (Cs r').1<=WA m:=by
   rw[UInt64.le_iff_toNat_le];have:=of_decide_eq_false hc;exact λh=>this (Int.ofNat_le.2 h)
  rw[if_neg hc]at hres
  have hk:k≠1:=by
   intro e;subst e;apply hc
   have h0:(Cs r').1=0:=by
    apply UInt64.toNat_inj.1;have:=(Cs r').1.toNat_lt;simp at hst;show(Cs r').1.toNat=0
    omega
   rw[h0,Rr,UInt64.le_iff_toNat_le];exact Nat.zero_le _
  refine KK ?_;refine CW (Cs r') (k-1) K' ⟨by omega,by omega,hr2,hst,hres⟩
def Av(a:Arg):AV:=.agg [bA a.has,iA a.n,iA a.ref.kind,iA a.ref.field]
def opA(o:Op):AV:=.agg [iA o.act,iA o.to.kind,iA o.to.field,bA o.a.has,iA o.a.n,iA o.a.ref.kind,iA o.a.ref.field,bA o.b.has,iA o.b.n,iA o.b.ref.kind,iA o.b.ref.field]
abbrev Uv(o:Bool)(l:List Op):AV:=.lst o 195 11 (l.map opA)
def CA(o:Bool)(s:Sys):AV:=.agg [sA s.name,AM o s.wth,AM o s.wout,AM o s.reads,AM o s.writes,Uv o s.ops,Ax o false s.spawn]
abbrev Nv(o:Bool)(l:List Sys):AV:=.lst o 76 7 (l.map (CA false))
instance {a:Arg}:Frz (Av a) (Av a):=⟨rfl⟩
instance {o:Op}:Frz (opA o) (opA o):=⟨rfl⟩
instance {o:Bool}{s:Sys}:Frz (CA o s) (CA false s):=⟨by unfold CA;exact Frz.h⟩
theorem R5(l:List Int)(x:Int)(hl:l.length<=4611686018427387904):PS Tryz.prog 174 [AM false l,iA x] (iA (ES l λy=>decide (x=y))):=by
 refine Sp (nt:=19) (res:=[.tmp 4]) Tryz.func174 λSf=>?_
 refine KK ?_;refine Az (λi:Nat=>⟨[(0,AM false l),(1,iA x),(7,iA (l.map iA).length),(8,iA i)],Sf⟩) (λi=>i<=l.length/\∀j (h:j<l.length),j<i->(decide (x=l[j]))=false) (λi=>l.length-i) 0 ⟨Nat.zero_le _,λj h hj=>absurd hj (by omega)⟩ ?_;rintro i ⟨hi,he⟩;refine KK ?_;refine AWP.cond rfl (λhc=>?_) (λhc=>?_)
 ·have h:i<l.length:=by simpa using hc
  refine KK ?_;refine AWP.cond rfl (λhd=>?_) (λhd=>?_)
  ·refine KK ?_
   refine RT ?_;refine AF ?_;rw[Ep h hd λj hj=>he j (by omega) hj]
  ·refine KK ?_
   refine Ab (i+1) ⟨h,λj h1 h2=>?_⟩;by_cases e:j=i
   ·subst e;exact hd
   ·exact he j h1 (by omega)
 ·have h:¬i<l.length:=by simpa using hc
  refine JA ?_;refine AF ?_;rw[Eq λj hj=>he j hj (by omega)]
theorem BX(l:List Int)(x:Int)(hl:l.length<=4611686018427387904):PS Tryz.prog 98 [AM false l,iA x] (bA (l.contains x)):=by
 refine Sp (nt:=9) (res:=[.tmp 4]) Tryz.func98 λSf=>?_
 refine KK ?_;refine AOps.g_callf ?_;refine AOps.c2 (h:=(R5 l x hl)) (k:=?_);refine JA ?_;refine AF ?_
 have h2:decide ((0:Int)<=ES l λy=>decide (x=y))=l.contains x:=by
  rw[Ks,List.contains_eq_any_beq]
  congr 1
 rw[<-h2]
def DZ(d:Int):Bool:=decide (d>=0)&&decide (d<=7)
theorem Fr(d:Int):PS Tryz.prog 184 [iA d] (bA (DZ d)):=by
 refine Sp (nt:=9) (res:=[.tmp 2]) Tryz.func184 λSf=>?_
 refine JA ?_;refine AF ?_;rfl
theorem IU(d:Int):PS Tryz.prog 235 [iA d] (bA (C7 d)):=by
 refine Sp (nt:=13) (res:=[.tmp 2]) Tryz.func235 λSf=>?_
 refine JA ?_;refine AF ?_;rfl
def Pi(r:Ref):AV:=.agg [iA r.kind,iA r.field]
theorem DD(ks:List Kind)(r:Ref)(h:IK ks r):PS Tryz.prog 234 [Ag false false ks,Pi r] (bA true):=by
 obtain⟨h1,h2,h3,h4⟩:=h;obtain⟨rk,rf⟩:=r;dsimp only at h1 h2 h3 h4;obtain⟨i,hi⟩:∃i:Nat,rk=i:=⟨rk.toNat,by omega⟩;subst hi;have hil:i<ks.length:=by omega
 unfold Lw at h4;rw[Int.toNat_natCast,AI hil]at h4;dsimp only at h4;obtain⟨⟨kn,fs⟩,hk⟩:=nm (ks[i]);rw[hk]at h4;have hkm:(ks.map (A7 false)).length=ks.length:=AB _;have hat:(ks.map (A7 false))[i]?=some (A7 false ⟨kn,fs⟩):=by rw[AH,AI hil,hk];rfl
 have g1:decide (((i:Nat):Int)>=0)=true:=Ah (by omega);have g2:decide (((i:Nat):Int)<(ks.map (A7 false)).length)=true:=Ah (by omega);have g3:decide (rf>=0)=true:=Ah (by omega);have g4:decide (rf<(fs.map fieldA).length)=true:=Ah (by rw[AB];exact h4);refine Sp (nt:=32) (res:=[.tmp 4]) Tryz.func234 λSf=>?_
 refine JF ?_;refine Ai λX=>?_;refine JB ?_
 refine RU ?_;(iterate 28 refine RK ?_);refine RGo.nil (by kernel_rfl) ?_;refine FL ?_;refine RT ?_;refine AF ?_;rw[g4]
theorem Vq(ks:List Kind)(l:List Int)(ho:l.Pairwise (· < ·))(hr:∀x∈l,0<=x/\x<ks.length)(hl:l.length<=1099511627776):PS Tryz.prog 176 [Ag false false ks,AM false l] (iA 0):=by
 have hlm:(l.map iA).length=l.length:=AB _;have hkm:(ks.map (A7 false)).length=ks.length:=AB _;refine Sp (nt:=34) (res:=[.tmp 4]) Tryz.func176 λSf=>?_
 refine KK ?_;refine Az (λi:Nat=>⟨[(0,Ag false false ks),(1,AM false l),(7,AM false l),(8,iA (l.map iA).length),(9,iA i)],Sf⟩) (λi=>i<=l.length) (λi=>l.length-i) 0 (Nat.zero_le _) ?_;rintro i hi;refine KK ?_;refine AWP.cond rfl (λhc=>?_) (λhc=>?_)
 ·have h:i<l.length:=by rw[AE,hlm]at hc;omega
  have hx:=hr _ (AU h);obtain⟨x,hxe⟩:=nm (l[i]);rw[hxe]at hx;have hat:(l.map iA)[i]?=some (iA x):=by rw[AH,AI h,hxe];rfl
  have g1:decide (x<0)=false:=AK (by omega);have g2:decide (x>=(ks.map (A7 false)).length)=false:=AK (by omega);refine KK ?_;refine AA rfl g2 ?_;by_cases h0:i=0
  ·subst h0
   have g3:decide (((0:Nat):Int)>0)=false:=by decide
   refine KK ?_;refine AA rfl rfl ?_;refine KK ?_;refine Ab 1 h
  ·have g3:decide (((i:Nat):Int)>0)=true:=Ah (by omega)
   have hlt:l[i-1]<x:=by rw[<-hxe];exact List.pairwise_iff_getElem.1 ho (i-1) i (by omega) h (by omega)
   have hat2:(l.map iA)[i-1]?=some (iA l[i-1]):=by rw[AH,AI (by omega)];rfl
   have g4:decide (l[i-1]>=x)=false:=AK (by omega)
   (iterate 11 refine WK ?_);refine AOps.gN ?_;refine AOps.go (h:=A9 ((i-1:Nat):Int) (by omega) (by omega) rfl rfl) (k:=?_);refine KK ?_
   refine AA rfl g4 ?_;refine KK ?_;refine Ab (i+1) h
 ·refine KK ?_
  refine RT ?_;refine AF ?_;rfl
theorem M5(s:Sys)(x:Int)(hl:s.wout.length<=4611686018427387904):PS Tryz.prog 177 [iA x,.fp (CA false s).cells] (bA (s.wout.contains x)):=by
 have h:=BX s.wout x hl;refine Sp (nt:=8) (res:=[.tmp 3]) Tryz.func177 λSf=>?_
 refine KK ?_;refine AOps.g_callf ?_;refine AOps.c2 (h:=(h ..)) (k:=?_);refine JA ?_;refine AF ?_;rfl
theorem M0(s:Sys)(x:Int)(hl:s.wth.length<=4611686018427387904):PS Tryz.prog 178 [iA x,.fp (CA false s).cells] (bA (!s.wth.contains x)):=by
 have h:=BX s.wth x hl;refine Sp (nt:=9) (res:=[.tmp 3]) Tryz.func178 λSf=>?_
 refine KK ?_;refine AOps.g_callf ?_;refine AOps.c2 (h:=(h ..)) (k:=?_);refine JA ?_;refine AF ?_;rfl
structure Cmd where
 act:Int
 ent:Ent
 kind:Int
 comps:List Comp
deriving DecidableEq
def Bp(c:Cmd):AV:=.agg [iA c.act,iA c.ent.n,iA c.ent.gen,iA c.kind,Ax false false c.comps]
instance {c:Cmd}:Frz (Bp c) (Bp c):=⟨by unfold Bp;exact Frz.h⟩
def GL(cs:List Comp)(k:Int):List Int:=match BH cs k with
 |some c=>c.vals
 |none=>[]
def Ga(cs:List Comp)(a:Arg):Int:=if a.has then(GL cs a.ref.kind).getD a.ref.field.toNat 0 else a.n
def Dv(act a b:Int)(r:UInt64×UInt64):Int×(UInt64×UInt64):=
 if act=1 then(a+b,r)else if act=2 then(a-b,r)else if act=3 then(Rp a b,r)else
 if act=4 then(if b<a then b else a,r)else if act=5 then(if a<b then b else a,r)else if act=6 then(if a<b then 1 else 0,r)else
 if act=7 then(if a<1 then(0,r)else(((EG r a.toNat).1.toNat:Int),(EG r a.toNat).2))else(a,r)
def KC(cs:List Comp)(k:Int)(f:Nat)(v:Int):List Comp:=match BH cs k with
 |some c=>cs.set (Ci cs k) ⟨c.kind,c.vals.set f v⟩
 |none=>cs
structure Rn where
 comps:List Comp
 r:UInt64×UInt64
 cmds:List Cmd
 evs:List Evt
def Eg(ks:List Kind)(r:Ref):Field:=match ks[r.kind.toNat]? with
 |some k=>k.fields.getD r.field.toNat ⟨[],0,0⟩
 |none=>⟨[],0,0⟩
def LI(ks:List Kind)(k:Int):List Int:=match ks[k.toNat]? with
 |some x=>(BY x (List.replicate x.fields.length 0)).1
 |none=>[]
def doM(ks:List Kind)(s:Sys)(index:Int)(e:Ent)(o:Op)(st:Rn):Rn:=
 if DZ o.act=true then
  ⟨KC st.comps o.to.kind o.to.field.toNat (BU (Eg ks o.to) (Dv o.act (Ga st.comps o.a) (Ga st.comps o.b) st.r).1),(Dv o.act (Ga st.comps o.a) (Ga st.comps o.b) st.r).2,st.cmds,st.evs⟩
 else if Ga st.comps o.a=0 then st
 else if o.act=12 then⟨st.comps,st.r,st.cmds,st.evs++[⟨index,e,Ga st.comps o.b⟩]⟩
 else⟨st.comps,st.r,st.cmds++[if o.act=8 then⟨0,e,0,[⟨o.to.kind,LI ks o.to.kind⟩]⟩else if o.act=9 then⟨1,e,o.to.kind,[]⟩else if o.act=10 then⟨2,e,0,[]⟩else⟨3,⟨0,0⟩,0,(CL ks s.spawn).1⟩],st.evs⟩
def Lm(ks:List Kind)(s:Sys)(e:Ent)(cv:AV)(r:UInt64×UInt64)(kv ev:AV)(index:Int):AV:=
 .agg [Ag false false ks,sA s.name,AM false s.wth,AM false s.wout,AM false s.reads,AM false s.writes,Uv false s.ops,Ax false false s.spawn,iA e.n,iA e.gen,cv,uA r.1,uA r.2,kv,ev,iA index]
def C2(ks:List Kind)(c:Cmd):List Comp×Int:=
 if c.act=0 then(if c.comps.length=1 then CL ks c.comps else([],3))else
 if c.act=1 then(if c.kind<0\/(ks.length:Int)<=c.kind then([],1)else([],0))else
 if c.act=2 then([],0)else if c.act=3 then CL ks c.comps else([],1)
def EJ(ks:List Kind):List Cmd->Int
 |[]=>0
 |c::l=>if(C2 ks c).2=0 then EJ ks l else(C2 ks c).2
def LP(w:Wd)(l:List Cmd):Int:=if Cr w≠0 then Cr w else if 131072<l.length then 2 else EJ w.kinds l
theorem JR{ks:List Kind}:∀{l:List Cmd},EJ ks l=0↔∀c∈l,(C2 ks c).2=0
 |[]=>by simp[EJ]
 |c::l=>by
  rw[EJ];split
  ·rename_i h
   rw[JR,List.forall_mem_cons];exact⟨λg=>⟨h,g⟩,λg=>g.2⟩
  ·rename_i h
   rw[List.forall_mem_cons];exact⟨λg=>absurd g h,λg=>absurd g.1 h⟩
theorem cmdErr_iff{w:Wd}{l:List Cmd}:LP w l=0↔WdOK w/\l.length<=131072/\∀c∈l,(C2 w.kinds c).2=0:=by
 unfold LP;split
 ·rename_i h
  exact⟨λe=>absurd e h,λe=>absurd ((BL w).2 e.1) h⟩
 ·rename_i h
  have h:Cr w=0:=Decidable.not_not.1 h;split
  ·rename_i h2
   exact⟨λe=>(by cases e),λe=>(by omega)⟩
  ·rename_i h2
   rw[JR];exact⟨λe=>⟨(BL w).1 h,by omega,e⟩,λe=>e.2.2⟩
def FC(w v:Wd)(e:Int):Wd:=if e=0 then v else w
def FA(w:Wd)(c:Cmd):Wd×Ent×Bool:=
 if c.act=0 then(FC w (DR w c.ent (c.comps.getD 0 ⟨0,[]⟩)).1 (DR w c.ent (c.comps.getD 0 ⟨0,[]⟩)).2,⟨0,0⟩,decide ((DR w c.ent (c.comps.getD 0 ⟨0,[]⟩)).2=0))else
 if c.act=1 then(FC w (E6 w c.ent c.kind).1 (E6 w c.ent c.kind).2,⟨0,0⟩,decide ((E6 w c.ent c.kind).2=0))else
 if c.act=2 then(FC w (EB w c.ent).1 (EB w c.ent).2,⟨0,0⟩,decide ((EB w c.ent).2=0))else
 (FC w (DL w c.comps).1 (DL w c.comps).2.2,(DL w c.comps).2.1,decide ((DL w c.comps).2.2=0))
def DT:Wd->List Cmd->Wd×List Ent×List Bool
 |w,[]=>(w,[],[])
 |w,c::l=>((DT (FA w c).1 l).1,(if(FA w c).2.2=true/\c.act=3 then(FA w c).2.1::(DT (FA w c).1 l).2.1 else(DT (FA w c).1 l).2.1),(FA w c).2.2::(DT (FA w c).1 l).2.2)
theorem MA{ks:List Kind}{c:Comp}(hk:Al ks=0)(h:(CL ks [c]).2=0):IM ks c:=by
 unfold CL at h;rw[if_neg (by simp[hk])]at h;split at h
 ·rename_i h1;exact absurd h h1
 ·rename_i h1
  have h1:(Cn ks [] [] [c]).2=0:=Decidable.not_not.1 h1;rw[Cn]at h1;split at h1
  ·cases h1
  ·rename_i g1
   rw[if_neg (by simp)]at h1;split at h1
   ·cases h1
   ·rename_i k hk2
    split at h1
    ·rename_i g2;exact absurd h1 g2
    ·rename_i g2
     exact⟨by omega,by omega,k,hk2,Decidable.not_not.1 g2⟩
theorem K3{ks:List Kind}:∀{l pre out:List Comp},(Cn ks pre out l).2=0->(∀a∈out,∃k,ks[a.kind.toNat]?=some k/\Bv k a.vals=true)->∀a∈(Cn ks pre out l).1,∃k,ks[a.kind.toNat]?=some k/\Bv k a.vals=true
 |[],pre,out,h,h1=>h1
 |c::l,pre,out,h,h1=>by
  rw[Cn]at h⊢;split at h
  ·cases h
  ·rename_i g1
   rw[if_neg g1];split at h
   ·cases h
   ·rename_i g2
    rw[if_neg g2];split at h
    ·cases h
    ·rename_i k hk
     split at h
     ·rename_i g3;exact absurd h g3
     ·rename_i g3
      (try simp only[hk])
      rw[if_neg g3];refine K3 h λa ha=>?_
      rcases List.mem_append.1 ha with ha|ha
      ·exact h1 a ha
      ·rw[List.mem_singleton.1 ha]
       exact⟨k,hk,(Dp (Decidable.not_not.1 g3)).1⟩
theorem GK{ks:List Kind}{l:List Comp}(h:(CL ks l).2=0):A8 ks (CL ks l).1=true:=by
 unfold CL at h⊢;split at h
 ·rename_i h1;exact absurd h h1
 ·rename_i h1
  rw[if_neg h1];split at h
  ·rename_i h2;exact absurd h h2
  ·rename_i h2
   rw[if_neg h2];have h2:(Cn ks [] [] l).2=0:=Decidable.not_not.1 h2;obtain⟨p1,p2⟩:=K1 h2 (λ_ h=>by cases h) .nil (λ_ h=>by cases h);have p3:=K3 h2 (λ_ h=>by cases h);refine held_iff.2 ⟨NQ p1,λc hc=>?_⟩;have hc:=(Ft _).mem_iff.1 hc;exact⟨(p2 c hc).1,(p2 c hc).2,p3 c hc⟩
theorem Q8{w:Wd}(hw:WdOK w){c:Cmd}(hc:(C2 w.kinds c).2=0):WdOK (FA w c).1/\(FA w c).1.kinds=w.kinds:=by
 have hs:∀v e,(e=0->WdOK v/\v.kinds=w.kinds)->WdOK (FC w v e)/\(FC w v e).kinds=w.kinds:=λv e h=>by
  unfold FC;split
  ·rename_i h1;exact h h1
  ·exact⟨hw,rfl⟩
 have hf:∀e,(Cd w.items e<0)\/∃(i:Nat) (it:Item),w.items[i]?=some it/\it.ent=e:=λe=>by
  by_cases hlt:Cd w.items e<0
  ·exact .inl hlt
  ·obtain⟨m,hm⟩:∃m:Nat,Cd w.items e=m:=⟨(Cd w.items e).toNat,by omega⟩
   obtain⟨x,hx,_,rfl⟩:=F4 hm;exact .inr ⟨m,x,hx,rfl⟩
 unfold FA;unfold C2 at hc;split
 ·rename_i h1
  rw[if_pos h1]at hc;split at hc
  ·rename_i h2
   obtain⟨d,hd⟩:=List.length_eq_one_iff.1 h2;rw[hd]at hc⊢;refine hs _ _ λhe=>?_
   rcases hf c.ent with h|⟨i,it,hi,rfl'⟩
   ·exfalso
    replace he:(DR w c.ent d).2=0:=he;unfold DR at he;rw[if_neg (by simp[(BL w).2 hw]),if_pos h]at he;cases he
   ·rw[<-rfl']
    have hfo:=MA hw.ks hc;show WdOK (DR w it.ent d).1/\(DR w it.ent d).1.kinds=_
    rw[S5 hw hi hfo];exact⟨S4 hw hi hfo,rfl⟩
  ·cases hc
 ·rename_i h1
  rw[if_neg h1]at hc;split
  ·rename_i h2
   refine hs _ _ λhe=>?_
   rcases hf c.ent with h|⟨i,it,hi,rfl'⟩
   ·exfalso
    unfold E6 at he;rw[if_neg (by simp[(BL w).2 hw]),if_pos h]at he;cases he
   ·rw[<-rfl']at he⊢
    rw[Me hw hi]at he⊢;split at he
    ·rename_i h3
     rw[if_pos h3];exact⟨HO hw hi (MX (hw.it it (Aq hi)).2.2.2.2),rfl⟩
    ·cases he
  ·rename_i h2
   rw[if_neg h2]at hc;split
   ·rename_i h3
    refine hs _ _ λhe=>?_
    rcases hf c.ent with h|⟨i,it,hi,rfl'⟩
    ·exfalso
     unfold EB at he;rw[if_neg (by simp[(BL w).2 hw]),if_pos h]at he;cases he
    ·rw[<-rfl']at he⊢
     rw[MT hw hi];exact⟨Qw hw hi,rfl⟩
   ·rename_i h3
    rw[if_neg h3]at hc;split at hc
    ·refine hs _ _ λhe=>?_
     obtain⟨cs,hcs⟩:∃cs,CL w.kinds c.comps=(cs,0):=⟨(CL w.kinds c.comps).1,Prod.ext rfl hc⟩;have hh:=GK hc;rw[hcs]at hh;cases hfr:(Bg w).2 with
     |true=>
      rw[PP hw hfr hcs];exact⟨J9 hw hfr hh,rfl⟩
     |false=>
      exfalso;unfold DL at he;rw[if_neg (by simp[(BL w).2 hw]),if_neg (by simp[hc]),if_pos hfr]at he;cases he
    ·cases hc
theorem Qm:∀{l:List Cmd} {w:Wd},WdOK w->(∀c∈l,(C2 w.kinds c).2=0)->WdOK (DT w l).1/\(DT w l).1.kinds=w.kinds
 |[],w,hw,_=>⟨hw,rfl⟩
 |c::l,w,hw,hc=>by
  obtain⟨h1,h2⟩:=Q8 hw (hc c (by simp));obtain⟨h3,h4⟩:=Qm (l:=l) h1 λd hd=>by rw[h2];exact hc d (by simp[hd])
  exact⟨h3,h4.trans h2⟩
end Go.Proofs.YtiidbamlcgbpnaaGreat
