/-
  Part 5 of the texts under the law TickParts: the layer of abstract values, walks and plain laws. Conditions: those that each theorem names.
-/
import Derived.WalkKit
import Derived.Lib.Hide
import Derived.Deep.OwnRows
import Derived.Deep.Draws
import Derived.Test.YtoohajbhpbjpcaaGreatChecked
import Derived.ProofKit
import Derived.OpenShut
import Derived.ShutString
import Derived.ChangeOld
import Derived.Below
import Derived.SizedLaws
import Derived.Deep.Slices
import Derived.Deep.Fields
import Derived.ChangeSame
import Derived.Test.YtoohajbhpbjpcaaGreatProg
import Derived.Sort.AssemblyPlain
import Derived.Test.YtoohajbhpbjpcaaGreatTickPartsP4
namespace Go.Proofs.YtoohajbhpbjpcaaGreat
set_option linter.unusedVariables false
set_option linter.unusedSimpArgs false
set_option linter.defProp false
set_option maxRecDepth 10000
set_option maxHeartbeats 4000000
structure Field where
 name:List UInt8
 bits:Int
 low:Int
structure Kind where
 name:List UInt8
 fields:List Field
structure Ent where
 n:Int
 gen:Int
structure Comp where
 kind:Int
 vals:List Int
structure Item where
 ent:Ent
 comps:List Comp
structure Wd where
 kinds:List Kind
 gens:List Int
 items:List Item
structure Evt where
 sys:Int
 ent:Ent
 val:Int
structure Ref where
 kind:Int
 field:Int
structure Arg where
 has:Bool
 n:Int
 ref:Ref
structure Op where
 act:Int
 to:Ref
 a:Arg
 b:Arg
structure Sys where
 name:List UInt8
 wth:List Int
 wout:List Int
 reads:List Int
 writes:List Int
 ops:List Op
 spawn:List Comp
instance:DecidableEq Field:=λa b=>decidable_of_iff (a.name=b.name/\a.bits=b.bits/\a.low=b.low) (by cases a;cases b;simp)
instance:DecidableEq Kind:=λa b=>decidable_of_iff (a.name=b.name/\a.fields=b.fields) (by cases a;cases b;simp)
instance:DecidableEq Ent:=λa b=>decidable_of_iff (a.n=b.n/\a.gen=b.gen) (by cases a;cases b;simp)
instance:DecidableEq Comp:=λa b=>decidable_of_iff (a.kind=b.kind/\a.vals=b.vals) (by cases a;cases b;simp)
instance:Inhabited Comp:=⟨⟨default,default⟩⟩
instance:DecidableEq Item:=λa b=>decidable_of_iff (a.ent=b.ent/\a.comps=b.comps) (by cases a;cases b;simp)
instance:DecidableEq Wd:=λa b=>decidable_of_iff (a.kinds=b.kinds/\a.gens=b.gens/\a.items=b.items) (by cases a;cases b;simp)
instance:DecidableEq Ref:=λa b=>decidable_of_iff (a.kind=b.kind/\a.field=b.field) (by cases a;cases b;simp)
def I64(x:Int):Prop:=-9223372036854775808<=x/\x<=9223372036854775807
section
open Go.RowKit
abbrev Reg:=Nat->Prop
def Lt(w:World):Reg:=λb=>b<w.heap.size
def Wf(S:Reg)(w w':World):Prop:=∀b,S b->w'.heap[b]?=w.heap[b]?
section
variable {w w' w'':World}{S T:Reg}
theorem bel{n m:Nat}{a b c:World}(h:Below n a b)(k:Below m b c)(hm:n<=m):Below n a c:=h.trans (k.mono hm)
def Row(w:World)(S:Reg)(sz:Nat)(v:Value)(n:Nat)(xs:List Value):Prop:=
 xs.length=n*sz/\∃A cap,v= .slice A n cap/\n<=cap/\(0<n->∃b off,A=some ⟨b,off,none⟩/\S b/\∀j u,xs[j]?=some u->w.cell? ⟨b,off+j,none⟩=some u)
variable {sz n:Nat}{v:Value}{xs:List Value}
theorem Row.nil(w:World)(S:Reg)(sz:Nat):Row w S sz (.slice none 0 0) 0 []:=⟨by simp,none,0,rfl,Nat.le_refl _,λh=>absurd h (by omega)⟩
end
def Cells{α:Type}(C:List Value->α->Prop)(sz:Nat):List Value->List α->Prop
 |xs,[]=>xs=[]
 |xs,x::l=>∃c ys,xs=c++ys/\c.length=sz/\C c x/\Cells C sz ys l
section
variable {α:Type}{C C':List Value->α->Prop}{sz:Nat}{xs ys:List Value}{l m:List α}
theorem Cells.nil:Cells C sz [] []:=rfl
theorem Cells.length(h:Cells C sz xs l):xs.length=l.length*sz:=by
 induction l generalizing xs with
 |nil=>have:xs=[]:=h;simp[this]
 |cons x l ih=>
  obtain⟨c,ys,rfl,h1,_,h3⟩:=h;simp[ih h3,h1,Nat.add_mul,Nat.add_comm]
end
def Sl{α:Type}(w:World)(S:Reg)(sz:Nat)(C:World->Reg->List Value->α->Prop)(v:Value)(l:List α):Prop:=
 ∃xs,Row w S sz v l.length xs/\Cells (C w S) sz xs l
section
variable {α:Type}{w w':World}{S T:Reg}{sz:Nat}{C:World->Reg->List Value->α->Prop}{v:Value}{l:List α}
theorem Sl.nil(w:World)(S:Reg)(sz:Nat)(C:World->Reg->List Value->α->Prop):Sl w S sz C (.slice none 0 0) []:=⟨[],Row.nil w S sz,.nil⟩
end
abbrev Vx(l:List UInt8):Value:=.string ⟨l.toArray⟩
def Wb(_:World)(_:Reg)(c:List Value)(x:Int):Prop:=c=[.int .i64 x]
def Vl(_:World)(_:Reg)(c:List Value)(f:Field):Prop:=c=[Vx f.name,.int .i64 f.bits,.int .i64 f.low]
abbrev Rz(w:World)(S:Reg)(v:Value)(l:List Int):Prop:=Sl w S 1 Wb v l
abbrev Fields(w:World)(S:Reg)(v:Value)(l:List Field):Prop:=Sl w S 3 Vl v l
def V9(w:World)(S:Reg)(c:List Value)(k:Kind):Prop:=∃vf,c=[Vx k.name,vf]/\Fields w S vf k.fields
abbrev Wc(w:World)(S:Reg)(v:Value)(l:List Kind):Prop:=Sl w S 2 V9 v l
def WJ(w:World)(S:Reg)(c:List Value)(x:Comp):Prop:=∃v,c=[.int .i64 x.kind,v]/\Rz w S v x.vals
abbrev WY(w:World)(S:Reg)(v:Value)(l:List Comp):Prop:=Sl w S 2 WJ v l
def WA(w:World)(S:Reg)(c:List Value)(x:Item):Prop:=∃v,c=[.int .i64 x.ent.n,.int .i64 x.ent.gen,v]/\WY w S v x.comps
abbrev We(w:World)(S:Reg)(v:Value)(l:List Item):Prop:=Sl w S 3 WA v l
section
variable {w w':World}{S T:Reg}{v:Value}
variable {A:Option Addr}{n cap i:Nat}
end
section
variable {α:Type}{w w':World}{base:Nat}{e:TypeId}{S T:Reg}{sz:Nat}{C:World->Reg->List Value->α->Prop}{v:Value}{l:List α}
end
section
variable {w w':World}{b:Nat}{e:TypeId}{l:List Int}
end
section
variable {w w':World}{g:Nat}{t:TypeId}{cs:Array Value}
end
end
section
open Go.ChangeShapes Go.WideShapes Go.ChangeAt Go.RowKit Go.Deep
theorem Vv{x:Int}(h:(Lit.int .i64 x).wf=true):I64 x:=by
 have:=h;simp[Lit.wf,IntKind.min,IntKind.max,IntKind.signed,IntKind.bits]at this;unfold I64;omega
theorem Ui{α:Type}{sz:Nat}{cs:α->List Value}{f:Nat->Option Value}(hcs:∀x,(cs x).length=sz):∀(l:List α) (off:Nat),(∀i (hi:i<l.length) j u,(cs l[i])[j]?=some u->f (off+(i*sz+j))=some u)->
  ∀j u,(l.flatMap cs)[j]?=some u->f (off+j)=some u:=by
 intro l
 induction l with
 |nil=>intro off _ j u h;simp at h
 |cons x l ih=>
  intro off h j u hj;rw[List.flatMap_cons]at hj;rcases Nat.lt_or_ge j sz with hlt|hge
  ·rw[List.getElem?_append_left (by rw[hcs];exact hlt)]at hj
   have:=h 0 (by simp) j u hj;simpa using this
  ·rw[List.getElem?_append_right (by rw[hcs];exact hge),hcs]at hj
   have:=ih (off+sz) (λi hi j u hu=>by
    have:=h (i+1) (by simp;omega) j u hu;rwa[Nat.add_mul,Nat.one_mul,show off+(i*sz+sz+j)=off+sz+(i*sz+j) by omega]at this) (j-sz) u hj
   rwa[show off+sz+(j-sz)=off+j by omega]at this
theorem Kk{α:Type}{sz:Nat}{cs:α->List Value}{C:List Value->α->Prop}(hcs:∀x,(cs x).length=sz)(hC:∀x,C (cs x) x)(l:List α):Cells C sz (l.flatMap cs) l:=by
 induction l with
 |nil=>rfl
 |cons x l ih=>exact⟨cs x,l.flatMap cs,by rw[List.flatMap_cons],hcs x,hC x,ih⟩
theorem NR{α:Type}{w:World}{sz:Nat}{C:World->Reg->List Value->α->Prop}{a:Addr}{n cap:Nat}{l:List α}{cs:α->List Value}(hn:n<=cap)(hl:l.length=n)(hsz:0<sz)(hcs:∀x,(cs x).length=sz)(hC:∀x,C w (Lt w) (cs x) x)
  (hcell:∀i (hi:i<l.length) j u,(cs l[i])[j]?=some u->w.cell? (a.add (i*sz+j))=some u):Sl w (Lt w) sz C (.slice (some a) n cap) l:=by
 subst hl;refine⟨l.flatMap cs,⟨?_,some a,cap,rfl,hn,λh0=>?_⟩,Kk hcs hC l⟩
 ·have:=(Kk (C:=λ_ _=>True) hcs (λ_=>trivial) l).length
  exact this
 ·obtain⟨b,off,spot⟩:=a
  have h1:∃u,(cs l[0])[0]?=some u:=⟨_,AH (by rw[hcs];exact hsz)⟩;obtain⟨u,hu⟩:=h1;have h2:=hcell 0 h0 0 u hu;have hspot:spot=none:=by simpa[Addr.add]using World.cell?_spot h2
  subst hspot;refine⟨b,off,rfl,?_,?_⟩
  ·rw[Go.WideShapes.add_plain]at h2
   unfold World.cell? at h2;simp only at h2;show b<w.heap.size
   rcases Nat.lt_or_ge b w.heap.size with h|h
   ·exact h
   ·rw[Array.getElem?_eq_none h]at h2
    cases h2
  ·refine Ui (f:=λk=>w.cell? ⟨b,k,none⟩) hcs l off λi hi j u hu=>?_
   have:=hcell i hi j u hu;rwa[Go.WideShapes.add_plain]at this
section
variable {H:Type}{enc:TypeId×Value->H}{w:World}{a:Option Addr}{len cap:Nat}{d:DataW H}{p:List MemPlace}
theorem WB(h:DataW.Trod enc Tryz.prog w 0 (λ_=>true) true 22 (.slice a len cap) d p):
  ∃z:List Int,Rz w (Lt w) (.slice a len cap) z/\(z=[]\/∃elems spare,d= .slice elems spare/\z.length<=elems.length+spare.length):=by
 obtain⟨fuel,hf⟩:=h;rcases open_slice Tryz.underlying22 hf with⟨hcs,_⟩|⟨x,l,c,m,n,D,Pl,hcs,hb,hl,hm,hmm,hx,hi⟩
 ·simp[Value.cells]at hcs
  obtain⟨rfl,rfl,rfl⟩:=hcs;exact⟨[],Sl.nil _ _ _ _,.inl rfl⟩
 ·simp[Value.cells]at hcs
  obtain⟨rfl,rfl,rfl⟩:=hcs;have hlm:len<=m:=by rw[hmm];split<;>omega
  have hex:∀i,∃e:Int,i<len->∀j u,([Value.int .i64 e])[j]?=some u->w.cell? (x.add (i*1+j))=some u:=by
   intro i;by_cases hil:i<len
   ·obtain⟨cs',hc,ht⟩:=hi i (by omega)
    rw[show Tryz.prog.cellsOf 3=1 from by kernel_rfl]at hc;obtain⟨_,hcl,hat⟩:=World.cells?_some hc;obtain⟨k,rfl,_⟩:=DataW.trod_int Tryz.underlying3 ht;refine⟨k,λ_ j u hu=>?_⟩
    have hj:j=0:=by
     have:=(List.getElem?_eq_some_iff.1 hu).1;simp at this;omega
    subst hj;have:=hat 0 (by omega);rw[Go.Deep.add_add]at this;rw[this,hu]
   ·exact⟨0,λh=>absurd h hil⟩
  obtain⟨f,hf'⟩:=Classical.axiomOfChoice hex;refine⟨(List.range len).map f,NR (cs:=λe=>[Value.int .i64 e]) hl (by simp) (by omega) (λ_=>rfl) (λ_=>rfl) (λi hi' j u hu=>?_),.inr ⟨_,_,(Prod.mk.inj hx).1,by simp⟩⟩;simp only[AB,List.length_range]at hi';exact hf' i hi' j u (by simpa using hu)
end
end
instance tAg3:TAg Tryz.prog 3 false:=⟨by kernel_rfl⟩
instance tSize3:TSize Tryz.prog 3 1:=⟨by kernel_rfl⟩
instance tZe3:TZe Tryz.prog 3 [.int .i64 0]:=⟨by kernel_rfl⟩
instance tBy3:TBy Tryz.prog 3 8:=⟨by kernel_rfl⟩
instance tAg4:TAg Tryz.prog 4 false:=⟨by kernel_rfl⟩
instance tSize4:TSize Tryz.prog 4 1:=⟨by kernel_rfl⟩
instance tZe4:TZe Tryz.prog 4 [.bool false]:=⟨by kernel_rfl⟩
instance tBy4:TBy Tryz.prog 4 1:=⟨by kernel_rfl⟩
instance tAg9:TAg Tryz.prog 9 false:=⟨by kernel_rfl⟩
instance tSize9:TSize Tryz.prog 9 1:=⟨by kernel_rfl⟩
instance tZe9:TZe Tryz.prog 9 [.string ByteArray.empty]:=⟨by kernel_rfl⟩
instance tSg9:TSg Tryz.prog 9:=⟨by kernel_rfl⟩
instance tAg22:TAg Tryz.prog 22 false:=⟨by kernel_rfl⟩
instance tSize22:TSize Tryz.prog 22 1:=⟨by kernel_rfl⟩
instance tZe22:TZe Tryz.prog 22 [.slice none 0 0]:=⟨by kernel_rfl⟩
instance tEl22:TEl Tryz.prog 22 3:=⟨by kernel_rfl⟩
instance tRo22:TRo Tryz.prog 22 3 1 8:=⟨by kernel_rfl⟩
instance tAg24:TAg Tryz.prog 24 false:=⟨by kernel_rfl⟩
instance tSize24:TSize Tryz.prog 24 1:=⟨by kernel_rfl⟩
instance tEl24:TEl Tryz.prog 24 133:=⟨by kernel_rfl⟩
instance tRo24:TRo Tryz.prog 24 133 2 40:=⟨by kernel_rfl⟩
instance tAg25:TAg Tryz.prog 25 false:=⟨by kernel_rfl⟩
instance tSize25:TSize Tryz.prog 25 1:=⟨by kernel_rfl⟩
instance tEl25:TEl Tryz.prog 25 54:=⟨by kernel_rfl⟩
instance tRo25:TRo Tryz.prog 25 54 3 40:=⟨by kernel_rfl⟩
instance tAg27:TAg Tryz.prog 27 true:=⟨by kernel_rfl⟩
instance tSize27:TSize Tryz.prog 27 3:=⟨by kernel_rfl⟩
instance tZe27:TZe Tryz.prog 27 [.slice none 0 0,.slice none 0 0,.slice none 0 0]:=⟨by kernel_rfl⟩
instance tFl27_0:TFl Tryz.prog 27 0 0 24:=⟨by kernel_rfl⟩
instance tFl27_1:TFl Tryz.prog 27 1 1 22:=⟨by kernel_rfl⟩
instance tFl27_2:TFl Tryz.prog 27 2 2 25:=⟨by kernel_rfl⟩
instance tSt27:TSt Tryz.prog 27 [.slice none 0 0,.slice none 0 0,.slice none 0 0] [(0,1),(1,1),(2,1)]:=⟨by kernel_rfl⟩
instance tAg51:TAg Tryz.prog 51 true:=⟨by kernel_rfl⟩
instance tSize51:TSize Tryz.prog 51 2:=⟨by kernel_rfl⟩
instance tZe51:TZe Tryz.prog 51 [.int .i64 0,.int .i64 0]:=⟨by kernel_rfl⟩
instance tFl51_0:TFl Tryz.prog 51 0 0 3:=⟨by kernel_rfl⟩
instance tFl51_1:TFl Tryz.prog 51 1 1 3:=⟨by kernel_rfl⟩
instance tSt51:TSt Tryz.prog 51 [.int .i64 0,.int .i64 0] [(0,1),(1,1)]:=⟨by kernel_rfl⟩
instance tAg52:TAg Tryz.prog 52 false:=⟨by kernel_rfl⟩
instance tSize52:TSize Tryz.prog 52 1:=⟨by kernel_rfl⟩
instance tEl52:TEl Tryz.prog 52 85:=⟨by kernel_rfl⟩
instance tRo52:TRo Tryz.prog 52 85 2 32:=⟨by kernel_rfl⟩
instance tAg54:TAg Tryz.prog 54 true:=⟨by kernel_rfl⟩
instance tSize54:TSize Tryz.prog 54 3:=⟨by kernel_rfl⟩
instance tZe54:TZe Tryz.prog 54 [.int .i64 0,.int .i64 0,.slice none 0 0]:=⟨by kernel_rfl⟩
instance tBy54:TBy Tryz.prog 54 40:=⟨by kernel_rfl⟩
instance tFl54_0:TFl Tryz.prog 54 0 0 51:=⟨by kernel_rfl⟩
instance tFl54_1:TFl Tryz.prog 54 1 2 52:=⟨by kernel_rfl⟩
instance tSt54:TSt Tryz.prog 54 [.int .i64 0,.int .i64 0,.slice none 0 0] [(0,2),(2,1)]:=⟨by kernel_rfl⟩
instance tEl57:TEl Tryz.prog 57 80:=⟨by kernel_rfl⟩
instance tRo57:TRo Tryz.prog 57 80 7 160:=⟨by kernel_rfl⟩
instance tAg60:TAg Tryz.prog 60 false:=⟨by kernel_rfl⟩
instance tSize60:TSize Tryz.prog 60 1:=⟨by kernel_rfl⟩
instance tZe60:TZe Tryz.prog 60 [.slice none 0 0]:=⟨by kernel_rfl⟩
instance tEl60:TEl Tryz.prog 60 64:=⟨by kernel_rfl⟩
instance tRo60:TRo Tryz.prog 60 64 1 8:=⟨by kernel_rfl⟩
instance tAg64:TAg Tryz.prog 64 false:=⟨by kernel_rfl⟩
instance tSize64:TSize Tryz.prog 64 1:=⟨by kernel_rfl⟩
instance tZe64:TZe Tryz.prog 64 [.int .u64 0]:=⟨by kernel_rfl⟩
instance tBy64:TBy Tryz.prog 64 8:=⟨by kernel_rfl⟩
instance tAg67:TAg Tryz.prog 67 false:=⟨by kernel_rfl⟩
instance tSize67:TSize Tryz.prog 67 1:=⟨by kernel_rfl⟩
instance tEl67:TEl Tryz.prog 67 73:=⟨by kernel_rfl⟩
instance tRo67:TRo Tryz.prog 67 73 4 32:=⟨by kernel_rfl⟩
instance tAg73:TAg Tryz.prog 73 true:=⟨by kernel_rfl⟩
instance tSize73:TSize Tryz.prog 73 4:=⟨by kernel_rfl⟩
instance tZe73:TZe Tryz.prog 73 [.int .i64 0,.int .i64 0,.int .i64 0,.int .i64 0]:=⟨by kernel_rfl⟩
instance tSt73:TSt Tryz.prog 73 [.int .i64 0,.int .i64 0,.int .i64 0,.int .i64 0] [(0,1),(1,2),(3,1)]:=⟨by kernel_rfl⟩
instance tAg78:TAg Tryz.prog 78 false:=⟨by kernel_rfl⟩
instance tSize78:TSize Tryz.prog 78 1:=⟨by kernel_rfl⟩
instance tEl78:TEl Tryz.prog 78 155:=⟨by kernel_rfl⟩
instance tRo78:TRo Tryz.prog 78 155 11 88:=⟨by kernel_rfl⟩
instance tAg80:TAg Tryz.prog 80 true:=⟨by kernel_rfl⟩
instance tSize80:TSize Tryz.prog 80 7:=⟨by kernel_rfl⟩
instance tZe80:TZe Tryz.prog 80 [.string ByteArray.empty,.slice none 0 0,.slice none 0 0,.slice none 0 0,.slice none 0 0,.slice none 0 0,.slice none 0 0]:=⟨by kernel_rfl⟩
instance tFl80_0:TFl Tryz.prog 80 0 0 9:=⟨by kernel_rfl⟩
instance tFl80_1:TFl Tryz.prog 80 1 1 22:=⟨by kernel_rfl⟩
instance tFl80_2:TFl Tryz.prog 80 2 2 22:=⟨by kernel_rfl⟩
instance tFl80_3:TFl Tryz.prog 80 3 3 22:=⟨by kernel_rfl⟩
instance tFl80_4:TFl Tryz.prog 80 4 4 22:=⟨by kernel_rfl⟩
instance tFl80_5:TFl Tryz.prog 80 5 5 78:=⟨by kernel_rfl⟩
instance tFl80_6:TFl Tryz.prog 80 6 6 52:=⟨by kernel_rfl⟩
instance tSt80:TSt Tryz.prog 80 [.string ByteArray.empty,.slice none 0 0,.slice none 0 0,.slice none 0 0,.slice none 0 0,.slice none 0 0,.slice none 0 0] [(0,1),(1,1),(2,1),(3,1),(4,1),(5,1),(6,1)]:=⟨by kernel_rfl⟩
instance tAg85:TAg Tryz.prog 85 true:=⟨by kernel_rfl⟩
instance tSize85:TSize Tryz.prog 85 2:=⟨by kernel_rfl⟩
instance tZe85:TZe Tryz.prog 85 [.int .i64 0,.slice none 0 0]:=⟨by kernel_rfl⟩
instance tBy85:TBy Tryz.prog 85 32:=⟨by kernel_rfl⟩
instance tFl85_0:TFl Tryz.prog 85 0 0 3:=⟨by kernel_rfl⟩
instance tFl85_1:TFl Tryz.prog 85 1 1 22:=⟨by kernel_rfl⟩
instance tSt85:TSt Tryz.prog 85 [.int .i64 0,.slice none 0 0] [(0,1),(1,1)]:=⟨by kernel_rfl⟩
instance tAg86:TAg Tryz.prog 86 false:=⟨by kernel_rfl⟩
instance tSize86:TSize Tryz.prog 86 1:=⟨by kernel_rfl⟩
instance tFl88_0:TFl Tryz.prog 88 0 0 22:=⟨by kernel_rfl⟩
instance tSt88:TSt Tryz.prog 88 [.slice none 0 0] [(0,1)]:=⟨by kernel_rfl⟩
instance tAg91:TAg Tryz.prog 91 false:=⟨by kernel_rfl⟩
instance tSize91:TSize Tryz.prog 91 1:=⟨by kernel_rfl⟩
instance tZe91:TZe Tryz.prog 91 [.slice none 0 0]:=⟨by kernel_rfl⟩
instance tEl91:TEl Tryz.prog 91 95:=⟨by kernel_rfl⟩
instance tRo91:TRo Tryz.prog 91 95 5 56:=⟨by kernel_rfl⟩
instance tAg95:TAg Tryz.prog 95 true:=⟨by kernel_rfl⟩
instance tSize95:TSize Tryz.prog 95 5:=⟨by kernel_rfl⟩
instance tZe95:TZe Tryz.prog 95 [.int .i64 0,.int .i64 0,.int .i64 0,.int .i64 0,.slice none 0 0]:=⟨by kernel_rfl⟩
instance tFl95_0:TFl Tryz.prog 95 0 0 3:=⟨by kernel_rfl⟩
instance tFl95_1:TFl Tryz.prog 95 1 1 51:=⟨by kernel_rfl⟩
instance tFl95_2:TFl Tryz.prog 95 2 3 3:=⟨by kernel_rfl⟩
instance tFl95_3:TFl Tryz.prog 95 3 4 52:=⟨by kernel_rfl⟩
instance tSt95:TSt Tryz.prog 95 [.int .i64 0,.int .i64 0,.int .i64 0,.int .i64 0,.slice none 0 0] [(0,1),(1,2),(3,1),(4,1)]:=⟨by kernel_rfl⟩
instance tAg97:TAg Tryz.prog 97 false:=⟨by kernel_rfl⟩
instance tSize97:TSize Tryz.prog 97 1:=⟨by kernel_rfl⟩
instance tZe97:TZe Tryz.prog 97 [.slice none 0 0]:=⟨by kernel_rfl⟩
instance tEl97:TEl Tryz.prog 97 51:=⟨by kernel_rfl⟩
instance tRo97:TRo Tryz.prog 97 51 2 16:=⟨by kernel_rfl⟩
instance tEl122:TEl Tryz.prog 122 60:=⟨by kernel_rfl⟩
instance tEl124:TEl Tryz.prog 124 91:=⟨by kernel_rfl⟩
instance tRo124:TRo Tryz.prog 124 91 1 24:=⟨by kernel_rfl⟩
instance tAg131:TAg Tryz.prog 131 false:=⟨by kernel_rfl⟩
instance tSize131:TSize Tryz.prog 131 1:=⟨by kernel_rfl⟩
instance tEl131:TEl Tryz.prog 131 136:=⟨by kernel_rfl⟩
instance tRo131:TRo Tryz.prog 131 136 3 32:=⟨by kernel_rfl⟩
instance tAg133:TAg Tryz.prog 133 true:=⟨by kernel_rfl⟩
instance tSize133:TSize Tryz.prog 133 2:=⟨by kernel_rfl⟩
instance tZe133:TZe Tryz.prog 133 [.string ByteArray.empty,.slice none 0 0]:=⟨by kernel_rfl⟩
instance tBy133:TBy Tryz.prog 133 40:=⟨by kernel_rfl⟩
instance tFl133_0:TFl Tryz.prog 133 0 0 9:=⟨by kernel_rfl⟩
instance tFl133_1:TFl Tryz.prog 133 1 1 131:=⟨by kernel_rfl⟩
instance tSt133:TSt Tryz.prog 133 [.string ByteArray.empty,.slice none 0 0] [(0,1),(1,1)]:=⟨by kernel_rfl⟩
instance tAg136:TAg Tryz.prog 136 true:=⟨by kernel_rfl⟩
instance tSize136:TSize Tryz.prog 136 3:=⟨by kernel_rfl⟩
instance tZe136:TZe Tryz.prog 136 [.string ByteArray.empty,.int .i64 0,.int .i64 0]:=⟨by kernel_rfl⟩
instance tFl136_0:TFl Tryz.prog 136 0 0 9:=⟨by kernel_rfl⟩
instance tFl136_1:TFl Tryz.prog 136 1 1 3:=⟨by kernel_rfl⟩
instance tFl136_2:TFl Tryz.prog 136 2 2 3:=⟨by kernel_rfl⟩
instance tSt136:TSt Tryz.prog 136 [.string ByteArray.empty,.int .i64 0,.int .i64 0] [(0,1),(1,1),(2,1)]:=⟨by kernel_rfl⟩
instance tAg140:TAg Tryz.prog 140 false:=⟨by kernel_rfl⟩
instance tSize140:TSize Tryz.prog 140 1:=⟨by kernel_rfl⟩
instance tEl140:TEl Tryz.prog 140 22:=⟨by kernel_rfl⟩
instance tRo140:TRo Tryz.prog 140 22 1 24:=⟨by kernel_rfl⟩
instance tAg151:TAg Tryz.prog 151 true:=⟨by kernel_rfl⟩
instance tSize151:TSize Tryz.prog 151 2:=⟨by kernel_rfl⟩
instance tZe151:TZe Tryz.prog 151 [.int .i64 0,.int .i64 0]:=⟨by kernel_rfl⟩
instance tFl151_0:TFl Tryz.prog 151 0 0 3:=⟨by kernel_rfl⟩
instance tFl151_1:TFl Tryz.prog 151 1 1 3:=⟨by kernel_rfl⟩
instance tSt151:TSt Tryz.prog 151 [.int .i64 0,.int .i64 0] [(0,1),(1,1)]:=⟨by kernel_rfl⟩
instance tAg153:TAg Tryz.prog 153 true:=⟨by kernel_rfl⟩
instance tSize153:TSize Tryz.prog 153 4:=⟨by kernel_rfl⟩
instance tZe153:TZe Tryz.prog 153 [.bool false,.int .i64 0,.int .i64 0,.int .i64 0]:=⟨by kernel_rfl⟩
instance tFl153_0:TFl Tryz.prog 153 0 0 4:=⟨by kernel_rfl⟩
instance tFl153_1:TFl Tryz.prog 153 1 1 3:=⟨by kernel_rfl⟩
instance tFl153_2:TFl Tryz.prog 153 2 2 151:=⟨by kernel_rfl⟩
instance tSt153:TSt Tryz.prog 153 [.bool false,.int .i64 0,.int .i64 0,.int .i64 0] [(0,1),(1,1),(2,2)]:=⟨by kernel_rfl⟩
instance tAg155:TAg Tryz.prog 155 true:=⟨by kernel_rfl⟩
instance tSize155:TSize Tryz.prog 155 11:=⟨by kernel_rfl⟩
instance tZe155:TZe Tryz.prog 155 [.int .i64 0,.int .i64 0,.int .i64 0,.bool false,.int .i64 0,.int .i64 0,.int .i64 0,.bool false,.int .i64 0,.int .i64 0,.int .i64 0]:=⟨by kernel_rfl⟩
instance tFl155_0:TFl Tryz.prog 155 0 0 3:=⟨by kernel_rfl⟩
instance tFl155_1:TFl Tryz.prog 155 1 1 151:=⟨by kernel_rfl⟩
instance tFl155_2:TFl Tryz.prog 155 2 3 153:=⟨by kernel_rfl⟩
instance tFl155_3:TFl Tryz.prog 155 3 7 153:=⟨by kernel_rfl⟩
instance tSt155:TSt Tryz.prog 155 [.int .i64 0,.int .i64 0,.int .i64 0,.bool false,.int .i64 0,.int .i64 0,.int .i64 0,.bool false,.int .i64 0,.int .i64 0,.int .i64 0] [(0,1),(1,2),(3,4),(7,4)]:=⟨by kernel_rfl⟩
instance tEl156:TEl Tryz.prog 156 9:=⟨by kernel_rfl⟩
instance tEl158:TEl Tryz.prog 158 4:=⟨by kernel_rfl⟩
instance tAg171:TAg Tryz.prog 171 false:=⟨by kernel_rfl⟩
instance tSize171:TSize Tryz.prog 171 1:=⟨by kernel_rfl⟩
instance tZe171:TZe Tryz.prog 171 [.nilFunc]:=⟨by kernel_rfl⟩
instance tAg180:TAg Tryz.prog 180 false:=⟨by kernel_rfl⟩
instance tSize180:TSize Tryz.prog 180 1:=⟨by kernel_rfl⟩
instance tZe180:TZe Tryz.prog 180 [.pointer none]:=⟨by kernel_rfl⟩
instance tAg182:TAg Tryz.prog 182 true:=⟨by kernel_rfl⟩
instance tSize182:TSize Tryz.prog 182 2:=⟨by kernel_rfl⟩
instance tZe182:TZe Tryz.prog 182 [.int .u64 0,.int .u64 0]:=⟨by kernel_rfl⟩
instance tFl182_0:TFl Tryz.prog 182 0 0 64:=⟨by kernel_rfl⟩
instance tFl182_1:TFl Tryz.prog 182 1 1 64:=⟨by kernel_rfl⟩
instance tSt182:TSt Tryz.prog 182 [.int .u64 0,.int .u64 0] [(0,1),(1,1)]:=⟨by kernel_rfl⟩
instance tFl184_0:TFl Tryz.prog 184 0 0 24:=⟨by kernel_rfl⟩
instance tFl184_1:TFl Tryz.prog 184 1 1 80:=⟨by kernel_rfl⟩
instance tFl184_2:TFl Tryz.prog 184 2 8 54:=⟨by kernel_rfl⟩
instance tFl184_3:TFl Tryz.prog 184 3 11 182:=⟨by kernel_rfl⟩
instance tFl184_4:TFl Tryz.prog 184 4 13 91:=⟨by kernel_rfl⟩
instance tFl184_5:TFl Tryz.prog 184 5 14 67:=⟨by kernel_rfl⟩
instance tFl184_6:TFl Tryz.prog 184 6 15 3:=⟨by kernel_rfl⟩
instance tSt184:TSt Tryz.prog 184 [.slice none 0 0,.string ByteArray.empty,.slice none 0 0,.slice none 0 0,.slice none 0 0,.slice none 0 0,.slice none 0 0,.slice none 0 0,.int .i64 0,.int .i64 0,.slice none 0 0,.int .u64 0,.int .u64 0,.slice none 0 0,.slice none 0 0,.int .i64 0] [(0,1),(1,7),(8,3),(11,2),(13,1),(14,1),(15,1)]:=⟨by kernel_rfl⟩
instance tAg233:TAg Tryz.prog 233 false:=⟨by kernel_rfl⟩
instance tSize233:TSize Tryz.prog 233 1:=⟨by kernel_rfl⟩
instance tZe233:TZe Tryz.prog 233 [.slice none 0 0]:=⟨by kernel_rfl⟩
instance tEl233:TEl Tryz.prog 233 236:=⟨by kernel_rfl⟩
instance tRo233:TRo Tryz.prog 233 236 4 48:=⟨by kernel_rfl⟩
instance tAg236:TAg Tryz.prog 236 true:=⟨by kernel_rfl⟩
instance tSize236:TSize Tryz.prog 236 4:=⟨by kernel_rfl⟩
instance tZe236:TZe Tryz.prog 236 [.int .i64 0,.int .i64 0,.int .i64 0,.slice none 0 0]:=⟨by kernel_rfl⟩
instance tFl236_0:TFl Tryz.prog 236 0 0 3:=⟨by kernel_rfl⟩
instance tFl236_1:TFl Tryz.prog 236 1 1 54:=⟨by kernel_rfl⟩
instance tSt236:TSt Tryz.prog 236 [.int .i64 0,.int .i64 0,.int .i64 0,.slice none 0 0] [(0,1),(1,3)]:=⟨by kernel_rfl⟩
instance tAg261:TAg Tryz.prog 261 false:=⟨by kernel_rfl⟩
instance tSize261:TSize Tryz.prog 261 1:=⟨by kernel_rfl⟩
instance tAg262:TAg Tryz.prog 262 false:=⟨by kernel_rfl⟩
instance tSize262:TSize Tryz.prog 262 1:=⟨by kernel_rfl⟩
instance tEl262:TEl Tryz.prog 262 271:=⟨by kernel_rfl⟩
instance tRo262:TRo Tryz.prog 262 271 1 8:=⟨by kernel_rfl⟩
instance tFl264_0:TFl Tryz.prog 264 0 0 24:=⟨by kernel_rfl⟩
instance tFl264_1:TFl Tryz.prog 264 1 1 22:=⟨by kernel_rfl⟩
instance tFl264_2:TFl Tryz.prog 264 2 2 262:=⟨by kernel_rfl⟩
instance tFl264_3:TFl Tryz.prog 264 3 3 261:=⟨by kernel_rfl⟩
instance tSt264:TSt Tryz.prog 264 [.slice none 0 0,.slice none 0 0,.slice none 0 0,.map none] [(0,1),(1,1),(2,1),(3,1)]:=⟨by kernel_rfl⟩
instance tAg271:TAg Tryz.prog 271 false:=⟨by kernel_rfl⟩
instance tSize271:TSize Tryz.prog 271 1:=⟨by kernel_rfl⟩
instance tZe271:TZe Tryz.prog 271 [.pointer none]:=⟨by kernel_rfl⟩
instance tAg274:TAg Tryz.prog 274 false:=⟨by kernel_rfl⟩
instance tSize274:TSize Tryz.prog 274 1:=⟨by kernel_rfl⟩
instance tAg275:TAg Tryz.prog 275 false:=⟨by kernel_rfl⟩
instance tSize275:TSize Tryz.prog 275 1:=⟨by kernel_rfl⟩
instance tEl275:TEl Tryz.prog 275 309:=⟨by kernel_rfl⟩
instance tRo275:TRo Tryz.prog 275 309 1 8:=⟨by kernel_rfl⟩
instance tFl277_0:TFl Tryz.prog 277 0 0 22:=⟨by kernel_rfl⟩
instance tFl277_1:TFl Tryz.prog 277 1 1 274:=⟨by kernel_rfl⟩
instance tFl277_2:TFl Tryz.prog 277 2 2 275:=⟨by kernel_rfl⟩
instance tSt277:TSt Tryz.prog 277 [.slice none 0 0,.pointer none,.slice none 0 0] [(0,1),(1,1),(2,1)]:=⟨by kernel_rfl⟩
instance tAg282:TAg Tryz.prog 282 false:=⟨by kernel_rfl⟩
instance tSize282:TSize Tryz.prog 282 1:=⟨by kernel_rfl⟩
instance tZe282:TZe Tryz.prog 282 [.int .u64 0]:=⟨by kernel_rfl⟩
instance tEl292:TEl Tryz.prog 292 153:=⟨by kernel_rfl⟩
instance tAg309:TAg Tryz.prog 309 false:=⟨by kernel_rfl⟩
instance tSize309:TSize Tryz.prog 309 1:=⟨by kernel_rfl⟩
instance tZe309:TZe Tryz.prog 309 [.pointer none]:=⟨by kernel_rfl⟩
instance tAg317:TAg Tryz.prog 317 false:=⟨by kernel_rfl⟩
instance tSize317:TSize Tryz.prog 317 1:=⟨by kernel_rfl⟩
instance tFl319_0:TFl Tryz.prog 319 0 0 97:=⟨by kernel_rfl⟩
instance tFl319_1:TFl Tryz.prog 319 1 1 22:=⟨by kernel_rfl⟩
instance tFl319_2:TFl Tryz.prog 319 2 2 317:=⟨by kernel_rfl⟩
instance tSt319:TSt Tryz.prog 319 [.slice none 0 0,.slice none 0 0,.map none] [(0,1),(1,1),(2,1)]:=⟨by kernel_rfl⟩
instance tFl333_0:TFl Tryz.prog 333 0 0 140:=⟨by kernel_rfl⟩
instance tFl333_1:TFl Tryz.prog 333 1 1 22:=⟨by kernel_rfl⟩
instance tFl333_2:TFl Tryz.prog 333 2 2 317:=⟨by kernel_rfl⟩
instance tSt333:TSt Tryz.prog 333 [.slice none 0 0,.slice none 0 0,.map none] [(0,1),(1,1),(2,1)]:=⟨by kernel_rfl⟩
abbrev iA(n:Int):AV:=.prim (.int .i64 n)
abbrev bA(b:Bool):AV:=.prim (.bool b)
abbrev sA(l:List UInt8):AV:=.prim (DF l)
def fieldA(f:Field):AV:=.agg [sA f.name,iA f.bits,iA f.low]
abbrev ED(o:Bool)(l:List Field):AV:=.lst o 136 3 (l.map fieldA)
def Aw(o:Bool)(k:Kind):AV:=.agg [sA k.name,ED o k.fields]
abbrev Ae(o o':Bool)(l:List Kind):AV:=.lst o 133 2 (l.map (Aw o'))
abbrev AQ(o:Bool)(l:List Int):AV:=.lst o 3 1 (l.map iA)
instance {f:Field}:Frz (fieldA f) (fieldA f):=⟨rfl⟩
instance {o:Bool}{k:Kind}:Frz (Aw o k) (Aw false k):=⟨by unfold Aw;exact Frz.h⟩
def AG(o:Bool)(c:Comp):AV:=.agg [iA c.kind,AQ o c.vals]
abbrev Au(o o':Bool)(l:List Comp):AV:=.lst o 85 2 (l.map (AG o'))
def AD(o:Bool)(x:Item):AV:=.agg [iA x.ent.n,iA x.ent.gen,Au o o x.comps]
abbrev En(o o':Bool)(l:List Item):AV:=.lst o 54 3 (l.map (AD o'))
def wdA(o:Bool)(w:Wd):AV:=.agg [Ae o o w.kinds,AQ o w.gens,En o o w.items]
def BA(e:Ent):AV:=.agg [iA e.n,iA e.gen]
def Dc(e:Evt):AV:=.agg [iA e.sys,iA e.ent.n,iA e.ent.gen,iA e.val]
instance {e:Ent}:Frz (BA e) (BA e):=⟨rfl⟩
instance {e:Evt}:Frz (Dc e) (Dc e):=⟨rfl⟩
instance {o:Bool}{k:Comp}:Frz (AG o k) (AG false k):=⟨by unfold AG;exact Frz.h⟩
instance {o:Bool}{k:Item}:Frz (AD o k) (AD false k):=⟨by unfold AD;exact Frz.h⟩
instance {o:Bool}{k:Wd}:Frz (wdA o k) (wdA false k):=⟨by unfold wdA;exact Frz.h⟩
theorem Fb{α:Type}(f:α->AV)(h:∀a,(f a).frz=f a)(l:List α):AV.frzs (l.map f)=l.map f:=by
 rw[EM,List.map_map];exact List.map_congr_left λa _=>h a
theorem RP(o:Bool)(l:List Int):(AQ o l).frz=AQ false l:=by
 show AV.lst false _ _ (AV.frzs (l.map iA))=_
 rw[Fb _ λ_=>rfl]
theorem Pc(a b c d:Int)(w:World):(binOp .eql 51 (.agg #[.int .i64 a,.int .i64 b]) (.agg #[.int .i64 c,.int .i64 d])).run Tryz.prog w= .ok (.bool (decide (a=c)&&decide (b=d))) w:=
 Uq (by kernel_rfl) (by kernel_rfl) (by kernel_rfl) a b c d w
def LY(a b:Ent):Bool:=decide (a.n=b.n)&&decide (a.gen=b.gen)
theorem LX(a b:Ent):LY a b=decide (a=b):=by
 obtain⟨n,g⟩:=a;obtain⟨n',g'⟩:=b;rw[Bool.eq_iff_iff];simp[LY]
def Ak(l:List Int)(n:Int):Int:=if n<1 then 0 else match l with|[]=>0|x::_=>x%n
def Ad(l:List Int)(n:Int):List Int:=if n<1 then l else l.tail
theorem Af(l:List Int){n:Int}(h:1<=n):0<=Ak l n/\Ak l n<n:=by
 unfold Ak;rw[if_neg (by omega)];split
 ·omega
 ·rename_i x _
  exact⟨Int.emod_nonneg x (by omega),Int.emod_lt_of_pos x (by omega)⟩
def Dq(k:Nat):List UInt8:=match k with
 |0=>[115,112,111,116]
 |1=>[108,105,102,101]
 |2=>[116,101,97,109]
 |_=>[103,111,97,108]
def Ca(k:Nat):List UInt8:=match k with
 |0=>[120]
 |1=>[121]
 |_=>[122]
def CQ(i:Nat)(l:List Int):Field×List Int:=
 if Ak (Ad (Ad l 9) 40) 8=7 then(⟨Ca i,32,-2147483648⟩,Ad (Ad (Ad l 9) 40) 8)
 else(⟨Ca i,1+Ak l 9,Ak (Ad l 9) 40-30⟩,Ad (Ad (Ad l 9) 40) 8)
def Bb:Nat->Nat->List Int->List Field×List Int
 |_,0,l=>([],l)
 |i,c+1,l=>((CQ i l).1::(Bb (i+1) c (CQ i l).2).1,(Bb (i+1) c (CQ i l).2).2)
def DH(k:Nat)(l:List Int):Kind×List Int:=
 (⟨Dq k,(Bb 0 (1+Ak l 3).toNat (Ad l 3)).1⟩,(Bb 0 (1+Ak l 3).toNat (Ad l 3)).2)
def BH:Nat->Nat->List Int->List Kind×List Int
 |_,0,l=>([],l)
 |k,c+1,l=>((DH k l).1::(BH (k+1) c (DH k l).2).1,(BH (k+1) c (DH k l).2).2)
def Ao(l:List Int):List Kind×List Int:=BH 0 (1+Ak l 4).toNat (Ad l 4)
theorem Kn(x n:Int)(hn:1<=n)(h2:n<=4611686018427387904):PS Tryz.prog 25 [iA x,iA n] (iA (x%n)):=by
 refine Sp (nt:=14) (res:=[.tmp 4]) Tryz.func25 λSf=>?_
 have h3:x.tmod n<n:=Int.tmod_lt_of_pos _ (by omega)
 have h4: -n<x.tmod n:=by
  have:=Int.lt_tmod_of_pos x (b:=n) (by omega);exact this
 have h5:x.tmod n=x%n\/x.tmod n+n=x%n/\x.tmod n<0:=by
  rw[Int.tmod_eq_emod];split
  ·exact .inl (by simp)
  ·have:=Int.emod_nonneg x (b:=n) (by omega)
   have:=Int.emod_lt_of_pos x (b:=n) (by omega);refine .inr ?_;have:((n.natAbs:Nat):Int)=n:=by omega
   omega
 have h6:=Int.emod_nonneg x (b:=n) (by omega)
 (iterate 8 refine WK ?_);refine AOps.gN ?_;refine AOps.p (W.rem rfl rfl (by omega)) rfl ?_;refine KK ?_
 refine AWP.cond rfl (λhb=>?_) (λhb=>?_)
 ·have hb:x.tmod n<0:=by simpa using hb
  refine KK ?_;refine RT ?_;exact BE rfl rfl (by exact Sub.f) ⟨by rw[show x.tmod n+n=x%n from by omega],rfl⟩
 ·have hb:¬x.tmod n<0:=by simpa using hb
  refine KK ?_;refine RT ?_;exact BE rfl rfl (by exact Sub.f) ⟨by rw[show x.tmod n=x%n from by omega],rfl⟩
abbrev Bc(l:List Int):AO:=.row 88 1 [.agg [AQ false l]]
theorem CE(X:Nat)(l:List Int)(n:Int)(h2:n<=4611686018427387904):PO Tryz.prog 38 [.ptr X 0 0,iA n] X (Bc l) (iA (Ak l n)) (Bc (Ad l n)):=by
 refine Sp (nt:=33) (res:=[.tmp 4]) Tryz.func38 λSf=>?_
 refine KK ?_;refine AWP.cond rfl (λhb=>?_) (λhb=>?_)
 ·refine KK ?_
  refine RT ?_;have hb:l.length=0\/n<1:=by simp only[Bool.or_eq_true,AE,AB]at hb;omega
  have e1:Ak l n=0:=by
   unfold Ak;split
   ·rfl
   ·rcases hb with hb|hb
    ·rw[List.length_eq_zero_iff.1 hb]
    ·omega
  have e2:Ad l n=l:=by
   unfold Ad;split
   ·rfl
   ·rcases hb with hb|hb
    ·rw[List.length_eq_zero_iff.1 hb];rfl
    ·omega
  rw[e1,e2];exact GY rfl rfl (by exact Sub.f) ⟨rfl,rfl⟩
 ·have hb:l.length≠0/\1<=n:=by simp only[Bool.or_eq_false_iff,AL,AB]at hb;omega
  obtain⟨hb,hn⟩:=hb;cases l with
  |nil=>exact absurd rfl hb
  |cons x l=>
  (repeat first|(refine AOps.gN ?_;first|refine AOps.p (W.idxL rfl rfl (a:=0) rfl rfl) rfl ?_|refine AOps.p (W.loL rfl rfl (a:=1) rfl (by simp)) rfl ?_|refine AOps.p (W.call2 rfl rfl (Kn _ _ hn h2) rfl) rfl ?_)|refine WK ?_|refine Ai λX=>?_|refine Ay λY=>?_);refine RT ?_;rw[show Ak (x::l) n=x%n from by unfold Ak;rw[if_neg (by omega)],show Ad (x::l) n=l from by unfold Ad;rw[if_neg (by omega)];rfl];exact GY (S':=[(X,Bc l)]) rfl rfl (by exact Sub.f) ⟨rfl,rfl⟩
def fAt:Nat->List Int->List Field×List Int
 |0,l=>([],l)
 |i+1,l=>((fAt i l).1++[(CQ i (fAt i l).2).1],(CQ i (fAt i l).2).2)
def kAt:Nat->List Int->List Kind×List Int
 |0,l=>([],l)
 |i+1,l=>((kAt i l).1++[(DH i (kAt i l).2).1],(DH i (kAt i l).2).2)
theorem QS(i:Nat)(l:List Int):(fAt i l).1.length=i:=by
 induction i with
 |zero=>rfl
 |succ i ih=>simp[fAt,ih]
theorem QN(i:Nat)(l:List Int):(kAt i l).1.length=i:=by
 induction i with
 |zero=>rfl
 |succ i ih=>simp[kAt,ih]
theorem Uo(c i:Nat)(l:List Int):((fAt i l).1++(Bb i c (fAt i l).2).1,(Bb i c (fAt i l).2).2)=fAt (i+c) l:=by
 induction c generalizing i with
 |zero=>simp[Bb]
 |succ c ih=>
  rw[show i+(c+1)=(i+1)+c from by omega,<-ih (i+1)];simp[Bb,fAt]
theorem UZ(c i:Nat)(l:List Int):((kAt i l).1++(BH i c (kAt i l).2).1,(BH i c (kAt i l).2).2)=kAt (i+c) l:=by
 induction c generalizing i with
 |zero=>simp[BH]
 |succ c ih=>
  rw[show i+(c+1)=(i+1)+c from by omega,<-ih (i+1)];simp[BH,kAt]
theorem Fx(c:Nat)(l:List Int):Bb 0 c l=fAt c l:=by
 have:=Uo c 0 l;simpa[fAt]using this
theorem EL(l:List Int):Ao l=kAt (1+Ak l 4).toNat (Ad l 4):=by
 have:=UZ (1+Ak l 4).toNat 0 (Ad l 4);simpa[kAt,Ao]using this
theorem RL{i:Nat}(h:i<4):[sA [115,112,111,116],sA [108,105,102,101],sA [116,101,97,109],sA [103,111,97,108]][i]?=some (sA (Dq i)):=by
 have:i=0\/i=1\/i=2\/i=3:=by omega
 rcases this with rfl|rfl|rfl|rfl<;>rfl
theorem Rc{i:Nat}(h:i<3):[sA [120],sA [121],sA [122]][i]?=some (sA (Ca i)):=by
 have:i=0\/i=1\/i=2:=by omega
 rcases this with rfl|rfl|rfl<;>rfl
theorem Sq(G:Nat)(l:List Int):PO Tryz.prog 37 [.ptr G 0 0] G (Bc l) (Ae true false (Ao l).1) (Bc (Ao l).2):=by
 refine Sp (nt:=55) (res:=[.tmp 2]) Tryz.func37 λSf=>?_
 have h0:=Af l (n:=4) (by decide);refine KK ?_;refine AOps.g_callf ?_;refine AOps.o2 (h:=(CE G _ _ (by decide))) (k:=?_);refine KK ?_;refine AWP.adopt (d:=3) 133 2 rfl λK=>?_
 obtain⟨c,hc⟩:∃c:Nat,1+Ak l 4=c:=⟨(1+Ak l 4).toNat,by omega⟩;obtain⟨l0,hl0⟩:∃l0,Ad l 4=l0:=⟨_,rfl⟩;have hg:Ao l=kAt c l0:=by rw[EL,hl0,show(1+Ak l 4).toNat=c from by omega]
 rw[hg,hl0,hc];have hc4:1<=c/\c<=4:=by omega
 clear hg hl0 hc h0;refine FH (λ(i K:Nat) (M:List AV) (q:List Int)=>⟨[(0,.ptr G 0 0),(3,.sl K 0 i),(10,iA c),(11,iA i)],(K,.row 133 2 M)::(G,Bc q)::Sf⟩) (λi _ M q=>i<=c/\M=(kAt i l0).1.map (Aw false)/\M.length=i/\q=(kAt i l0).2) (λi _ _ _=>c-i) 0 K [] l0 ⟨Nat.zero_le _,rfl,rfl,rfl⟩ ?_;rintro i K M q ⟨hi,hM,hMl,hq⟩;refine KK ?_;refine AWP.cond rfl (λhb=>?_) (λhb=>?_)
 ·have h:i<c:=by rw[AE]at hb;omega
  have h4:i<4:=by omega
  have h3:=Af q (n:=3) (by decide);have hkn:=RL h4;refine KK ?_;refine Ai λY=>?_;refine KK ?_;refine AOps.g_callf ?_;refine AOps.o2 (h:=(CE G _ _ (by decide))) (k:=?_);refine KK ?_
  refine AWP.adoptIn (Y:=Y) 136 3 .here (λF=>.cons (.agg (.cons .same (.cons (.base .nil) .nil))) .nil) λF=>?_
  obtain⟨l1,hl1⟩:∃l1,Ad q 3=l1:=⟨_,rfl⟩;obtain⟨c1,hc1⟩:∃c1:Nat,1+Ak q 3=c1:=⟨(1+Ak q 3).toNat,by omega⟩
  have hgk:kAt (i+1) l0=((kAt i l0).1++[⟨Dq i,(fAt c1 l1).1⟩],(fAt c1 l1).2):=by
   rw[kAt,<-hq,DH,Fx,show(1+Ak q 3).toNat=c1 from by omega,hl1]
  rw[hl1,hc1];have hc13:c1<=3:=by omega
  refine FH (λ(j F:Nat) (L:List AV) (r:List Int)=>⟨[(0,.ptr G 0 0),(3,.sl K 0 i),(5,.ptr Y 0 0),(10,iA c),(11,iA i),(21,iA c1),(22,iA j)],(F,.row 136 3 L)::(Y,.row 133 2 [.agg [sA (Dq i),.sl F 0 j]])::(K,.row 133 2 M)::(G,Bc r)::Sf⟩) (λj _ L r=>j<=c1/\L=(fAt j l1).1.map fieldA/\L.length=j/\r=(fAt j l1).2) (λj _ _ _=>c1-j) 0 F [] l1 ⟨Nat.zero_le _,rfl,rfl,rfl⟩ ?_;rintro j F L r ⟨hj,hL,hLl,hr⟩;refine KK ?_;refine AWP.cond rfl (λhd=>?_) (λhd=>?_)
  ·have hj':j<c1:=by rw[AE]at hd;omega
   have h9:=Af r (n:=9) (by decide);have h40:=Af (Ad r 9) (n:=40) (by decide);have hfn:=Rc (i:=j) (by omega);refine KK ?_;refine AWP.rs λX7=>?_
   refine RU ?_;refine KR ?_;refine RGo.g_callf ?_;refine RGo.o2 (h:=(CE G _ _ (by decide))) (k:=?_);(iterate 4 refine RK ?_);refine RGo.nil (by kernel_rfl) ?_;(repeat first|(refine AOps.gN ?_;first|(refine AOps.g_callf ?_;first|refine AOps.o2 (h:=(CE G _ _ (by decide))) (k:=?_)))|refine WK ?_|refine Ai λX=>?_|refine Ay λY=>?_);refine AWP.cond rfl (λhe=>?_) (λhe=>?_)
   ·have he:Ak (Ad (Ad r 9) 40) 8=7:=by simpa using he
    have hg:CQ j r=(⟨Ca j,32,-2147483648⟩,Ad (Ad (Ad r 9) 40) 8):=by rw[CQ,if_pos he]
    (iterate 11 refine WK ?_);refine AOps.g_lit ?_;refine AOps.goL (fieldA ⟨Ca j,32,-2147483648⟩) ?_;refine WK ?_;refine Ay λY=>?_;refine KK ?_
    refine DR (j+1) Y _ _ ⟨hj',?_,?_,?_⟩
    ·rw[fAt,<-hr,hg,hL,List.map_append];rfl
    ·rw[AK,hLl];rfl
    ·rw[fAt,<-hr,hg]
   ·have he:Ak (Ad (Ad r 9) 40) 8≠7:=by simpa using he
    have hg:CQ j r=(⟨Ca j,1+Ak r 9,Ak (Ad r 9) 40-30⟩,Ad (Ad (Ad r 9) 40) 8):=by rw[CQ,if_neg he]
    (iterate 6 refine WK ?_);refine AOps.g_lit ?_;refine AOps.goL (fieldA ⟨Ca j,1+Ak r 9,Ak (Ad r 9) 40-30⟩) ?_;refine WK ?_;refine Ay λY=>?_;refine KK ?_
    refine DR (j+1) Y _ _ ⟨hj',?_,?_,?_⟩
    ·rw[fAt,<-hr,hg,hL,List.map_append];rfl
    ·rw[AK,hLl];rfl
    ·rw[fAt,<-hr,hg]
  ·have hj':j=c1:=by rw[AL]at hd;omega
   subst hj';refine FL ?_;refine AWP.iceIn (X:=F) (Y:=Y) .here (.next .here) rfl (.cons (.agg (.cons .same (.cons (.base (.sl (by omega))) .nil))) .nil) ?_
   have hF:AV.frzs ((L.drop 0).take j)=(fAt j l1).1.map fieldA:=by
    rw[List.drop_zero,List.take_of_length_le (by omega),hL];exact Frzs.h
   rw[hF]
   (iterate 3 refine WK ?_);refine AOps.g_lit ?_;refine AOps.goL (Aw false ⟨Dq i,(fAt j l1).1⟩) ?_;refine WK ?_;refine Ay λY=>?_;refine KK ?_
   refine DR (i+1) Y _ _ ⟨h,?_,?_,?_⟩
   ·rw[hgk,hM,List.map_append];rfl
   ·rw[AK,hMl];rfl
   ·rw[hgk,hr]
 ·have h:i=c:=by rw[AL]at hb;omega
  subst h;refine KK ?_;refine RT ?_;subst hM hq;refine⟨[.sl K 0 i],[.lst true 133 2 ((kAt i l0).1.map (Aw false))],_,[(G,Bc (kAt i l0).2)],.cons (.tmp rfl) rfl .nil,.cons (.cell (.sl (p:=0) .here (by rw[AB,QN]))) .nil,by exact Sub.f,rfl,rfl⟩
def V8(c:UInt8):Bool:=decide (97<=c)&&decide (c<=122)
def WE(c:UInt8):Bool:=decide (48<=c)&&decide (c<=57)
def OQ(l:List UInt8)(j:Nat):Bool:=V8 (l.getD j 0)||(decide (0<j)&&WE (l.getD j 0))
def CY(l:List UInt8):Bool:=decide (0<l.length)&&decide (l.length<=16)&&(List.range l.length).all (OQ l)
def Ap(f:Field):Int:=if CY f.name&&decide (1<=f.bits)&&decide (f.bits<=32)&&decide (-4294967296<=f.low)&&decide (f.low<=4294967296)then 0 else 3
def Bj:List Field->List Field->Int
 |_,[]=>0
 |pre,f::fs=>if Ap f≠0 then Ap f else if pre.any (λo=>o.name==f.name)then 5 else Bj (pre++[f]) fs
def Ba(k:Kind):Int:=if CY k.name then(if 8<k.fields.length then 2 else Bj [] k.fields)else 3
def DA(l:List Kind)(name:List UInt8):Int:=
 match l.findIdx? (λk=>k.name==name)with
 |some i=>i
 |none=>-1
def Bw:List Kind->List Kind->Int
 |_,[]=>0
 |pre,k::ks=>if Ba k≠0 then Ba k else if pre.any (λo=>o.name==k.name)then 5 else Bw (pre++[k]) ks
def Az(l:List Kind):Int:=if 16<l.length then 2 else Bw [] l
def D6(f:Field):Int:=if Ap f=0 then f.low+(2^f.bits.toNat-1)else 0
def BT(f:Field)(v:Int):Int:=if Ap f=0 then max f.low (min v (D6 f))else 0
def BZ(k:Kind)(vals:List Int):List Int×Int:=
 if Ba k≠0 then([],Ba k)else if vals.length≠k.fields.length then([],1)else(List.zipWith BT k.fields vals,0)
def Bs(k:Kind)(vals:List Int):Bool:=decide ((BZ k vals).2=0)&&decide ((BZ k vals).1=vals)
theorem HA{l:List Kind}{name:List UInt8}(h:∀j (hj:j<l.length),l[j].name≠name):DA l name= -1:=by
 have:l.findIdx? (λk=>k.name==name)=none:=by
  rw[List.findIdx?_eq_none_iff];intro x hx;obtain⟨j,hj,rfl⟩:=List.getElem_of_mem hx;simpa using h j hj
 simp[DA,this]
theorem LF{l:List Kind}{name:List UInt8}{i:Nat}(hi:i<l.length)(e:l[i].name=name)(h:∀j (hj:j<i),(l[j]'(by omega)).name≠name):DA l name=i:=by
 have:l.findIdx? (λk=>k.name==name)=some i:=by
  rw[List.findIdx?_eq_some_iff_getElem];refine⟨hi,by simpa using e,λj hj=>?_⟩;simpa using h j hj
 simp[DA,this]
theorem Mk{pre:List Kind}{k:Kind}{ks:List Kind}(h:Ba k≠0):Bw pre (k::ks)=Ba k:=by
 simp[Bw,h]
theorem J1{pre:List Kind}{k:Kind}{ks:List Kind}(h:Ba k=0)(hf:0<=DA pre k.name):Bw pre (k::ks)=5:=by
 have:pre.any (λo=>o.name==k.name)=true:=by
  rcases hc:pre.any (λo=>o.name==k.name)with _|_
  ·exfalso
   rw[List.any_eq_false]at hc;rw[HA (λj hj=>by simpa using hc _ (AU hj))]at hf;omega
  ·rfl
 simp[Bw,h,this]
theorem K8{pre:List Kind}{k:Kind}{ks:List Kind}(h:Ba k=0)(hf:DA pre k.name<0):Bw pre (k::ks)=Bw (pre++[k]) ks:=by
 have:pre.any (λo=>o.name==k.name)=false:=by
  rcases hc:pre.any (λo=>o.name==k.name)with _|_
  ·rfl
  ·exfalso
   rw[List.any_eq_true]at hc;obtain⟨x,hx,e⟩:=hc;unfold DA at hf;split at hf
   ·omega
   ·rename_i hn
    rw[List.findIdx?_eq_none_iff]at hn;exact absurd e (by simpa using hn x hx)
 simp[Bw,h,this]
theorem GR{l:List Kind}{i:Nat}(hi:i<l.length):Bw (l.take i) (l.drop i)=Bw (l.take i) (l[i]::l.drop (i+1)):=by
 rw[By hi]
theorem Mj{l:List Kind}{i:Nat}(hi:l.length<=i):Bw (l.take i) (l.drop i)=0:=by
 rw[List.drop_of_length_le hi];rfl
theorem Iu(f:Field)(h:CY f.name=true)(hb:1<=f.bits/\f.bits<=32/\ -4294967296<=f.low/\f.low<=4294967296):Ap f=0:=by
 simp[Ap,h,hb]
theorem OC(f:Field)(h:CY f.name=true->¬(1<=f.bits/\f.bits<=32/\ -4294967296<=f.low/\f.low<=4294967296)):Ap f=3:=by
 unfold Ap;rw[if_neg];simp only[Bool.and_eq_true,AE];intro hc;exact h hc.1.1.1.1 ⟨hc.1.1.1.2,hc.1.1.2,hc.1.2,hc.2⟩
theorem DI(f:Field):Ap f=0↔CY f.name=true/\1<=f.bits/\f.bits<=32/\ -4294967296<=f.low/\f.low<=4294967296:=by
 constructor
 ·intro h
  unfold Ap at h;split at h
  ·rename_i hc
   simpa[and_assoc]using hc
  ·simp at h
 ·rintro⟨h,hb⟩
  exact Iu f h hb
theorem KY(f:Field):Ap f=0\/Ap f=3:=by
 unfold Ap;split<;>simp
theorem LH{pre:List Field}{f:Field}{fs:List Field}(h:Ap f≠0):Bj pre (f::fs)=Ap f:=by
 simp[Bj,h]
theorem JB{pre:List Field}{f:Field}{fs:List Field}(h:Ap f=0){j:Nat}(hj:j<pre.length)(e:pre[j].name=f.name):Bj pre (f::fs)=5:=by
 have:pre.any (λo=>o.name==f.name)=true:=by
  rw[List.any_eq_true];exact⟨pre[j],AU hj,by simp[e]⟩
 simp[Bj,h,this]
theorem KW{pre:List Field}{f:Field}{fs:List Field}(h:Ap f=0)(e:∀j (hj:j<pre.length),pre[j].name≠f.name):Bj pre (f::fs)=Bj (pre++[f]) fs:=by
 have:pre.any (λo=>o.name==f.name)=false:=by
  rw[List.any_eq_false];intro x hx;obtain⟨j,hj,rfl⟩:=List.getElem_of_mem hx;simpa using e j hj
 simp[Bj,h,this]
theorem F5{l:List Field}{i:Nat}(hi:i<l.length):Bj (l.take i) (l.drop i)=Bj (l.take i) (l[i]::l.drop (i+1)):=by
 rw[By hi]
theorem LG{l:List Field}{i:Nat}(hi:l.length<=i):Bj (l.take i) (l.drop i)=0:=by
 rw[List.drop_of_length_le hi];rfl
theorem Q9(l:List UInt8)(j:Nat)(hj:j<l.length)(h:OQ l j=false):CY l=false:=by
 have:(List.range l.length).all (OQ l)=false:=by
  rw[List.all_eq_false];exact⟨j,List.mem_range.2 hj,by simp[h]⟩
 simp[CY,this]
theorem PF(l:List UInt8)(h0:0<l.length)(h1:l.length<=16)(h:∀j,j<l.length->OQ l j=true):CY l=true:=by
 have:(List.range l.length).all (OQ l)=true:=by
  rw[List.all_eq_true];intro x hx;exact h x (List.mem_range.1 hx)
 simp[CY,this,h0,h1]
theorem Nk(l:List UInt8)(h:l.length=0\/16<l.length):CY l=false:=by
 rcases h with h|h
 ·simp[CY,h]
 ·simp[CY,show¬l.length<=16 from by omega]
theorem SQ{b:Int}(h1:1<=b)(h2:b<=32):(2:Int)<=2^b.toNat/\(2:Int)^b.toNat<=4294967296:=by
 obtain⟨n,rfl⟩:∃n:Nat,b=n:=⟨b.toNat,by omega⟩;rw[Int.toNat_natCast];have h:n=1\/n=2\/n=3\/n=4\/n=5\/n=6\/n=7\/n=8\/n=9\/n=10\/n=11\/n=12\/n=13\/n=14\/n=15\/n=16\/n=17\/n=18\/n=19\/n=20\/n=21\/n=22\/n=23\/n=24\/n=25\/n=26\/n=27\/n=28\/n=29\/n=30\/n=31\/n=32:=by omega
 rcases h with rfl|rfl|rfl|rfl|rfl|rfl|rfl|rfl|rfl|rfl|rfl|rfl|rfl|rfl|rfl|rfl|rfl|rfl|rfl|rfl|rfl|rfl|rfl|rfl|rfl|rfl|rfl|rfl|rfl|rfl|rfl|rfl<;>decide
theorem RW{f:Field}(h:Ap f=0):D6 f=f.low+(2^f.bits.toNat-1):=by simp[D6,h]
theorem Ls{f:Field}(h:Ap f=0):f.low<D6 f/\D6 f<=8589934592:=by
 have hb:=(DI f).1 h;have:=SQ hb.2.1 hb.2.2.1;rw[RW h];omega
theorem Mc(f:Field)(v:Int): -4294967296<=BT f v/\BT f v<=8589934592:=by
 rcases KY f with h|h
 ·have:=Ls h
  have hb:=(DI f).1 h;simp only[BT,h,if_true];omega
 ·simp[BT,h]
theorem KU{pre l:List Field}(h:Bj pre l=0):∀f∈l,Ap f=0:=by
 induction l generalizing pre with
 |nil=>intro f hf;cases hf
 |cons x l ih=>
  intro f hf;simp only[Bj]at h;split at h
  ·rename_i hx;exact absurd h hx
  ·rename_i hx
   split at h
   ·simp at h
   ·rcases List.mem_cons.1 hf with rfl|hf
    ·simpa using hx
    ·exact ih h f hf
theorem C6{k:Kind}(h:Ba k=0):CY k.name=true/\k.fields.length<=8/\∀f∈k.fields,Ap f=0:=by
 unfold Ba at h;split at h
 ·rename_i h1
  split at h
  ·simp at h
  ·rename_i h2
   exact⟨h1,by omega,KU h⟩
 ·simp at h
def TY:Kind:=⟨[108,105,102,101],[⟨[120],8,0⟩]⟩
def baseWd:Wd:=⟨[TY],[0],[⟨⟨0,0⟩,[⟨0,[9]⟩]⟩]⟩
theorem Uu:PS Tryz.prog 34 [] (wdA false baseWd):=by
 refine Sp (nt:=14) (res:=[.cell 0 27]) Tryz.func34 λSf=>?_
 refine KK ?_;refine Ai λX=>?_;refine KK ?_
 refine RT ?_;refine GD (rs:=[wdA false baseWd]) rfl (.cons (.cell (p:=0) rfl .here TAg.h TSize.h rfl rfl) rfl .nil)
theorem IZ(a b:List Int)(hl:a.length<=1099511627776):PS Tryz.prog 22 [AQ false a,AQ false b] (bA (decide (a=b))):=by
 refine Sp (nt:=26) (res:=[.tmp 4]) Tryz.func22 λSf=>?_
 refine KK ?_;refine AWP.cond rfl (λhb=>?_) (λhb=>?_)
 ·have hb:a.length≠b.length:=by simp at hb;omega
  refine KK ?_;refine RT ?_;refine AI ?_;rw[AM λe=>hb (by rw[e])]
 ·have hb:a.length=b.length:=by simp at hb;omega
  refine KK ?_;refine A9 (λi:Nat=>⟨[(0,AQ false a),(1,AQ false b),(12,iA (a.map iA).length),(13,iA i)],Sf⟩) (λi=>i<=a.length/\∀j (h:j<a.length),j<i->a[j]=b[j]'(by omega)) (λi=>a.length-i) 0 ⟨Nat.zero_le _,λj h hj=>absurd hj (by omega)⟩ ?_;rintro i ⟨hi,he⟩;refine KK ?_;refine AWP.cond rfl (λhc=>?_) (λhc=>?_)
  ·have h:i<a.length:=by simpa using hc
   have h':i<b.length:=by omega
   refine KK ?_;refine RU ?_;(iterate 9 refine RK ?_);refine RGo.nil (by kernel_rfl) ?_;refine WK ?_;refine AWP.cond rfl (λhd=>?_) (λhd=>?_)
   ·have hd:a[i]≠b[i]:=by simpa using hd
    refine KK ?_;refine RT ?_;refine AI ?_;rw[AM λe=>hd (by subst e;rfl)]
   ·have hd:a[i]=b[i]:=by simpa using hd
    refine KK ?_;refine Ab (i+1) ⟨h,λj h1 h2=>?_⟩;by_cases e:j=i
    ·subst e;exact hd
    ·exact he j h1 (by omega)
  ·have h:¬i<a.length:=by simpa using hc
   refine KK ?_;refine RT ?_;refine AI ?_;rw[Ah (List.ext_getElem hb λj h1 h2=>he j h1 (by omega))]
def eqF{α:Type}(p:α->α->Bool):List α->List α->Bool
 |[],[]=>true
 |x::xs,y::ys=>p x y&&eqF p xs ys
 |_,_=>false
theorem JK{α:Type}{p:α->α->Bool}:{a b:List α}->a.length≠b.length->eqF p a b=false
 |[],[],h=>absurd rfl h
 |[],_::_,_=>rfl
 |_::_,[],_=>rfl
 |x::xs,y::ys,h=>by rw[eqF,JK (by simpa using h),Bool.and_false]
theorem Mt{α:Type}{p:α->α->Bool}:{a b:List α}->(hl:a.length=b.length)->{i:Nat}->(h:i<a.length)->p a[i] (b[i]'(by omega))=false->eqF p a b=false
 |[],_,_,_,h,_=>absurd h (by simp)
 |x::xs,[],hl,_,_,_=>by simp at hl
 |x::xs,y::ys,hl,0,h,hp=>by rw[eqF,show p x y=false from hp,Bool.false_and]
 |x::xs,y::ys,hl,i+1,h,hp=>by
  rw[eqF,Mt (a:=xs) (b:=ys) (by simpa using hl) (i:=i) (by simpa using h) hp,Bool.and_false]
theorem JJ{α:Type}{p:α->α->Bool}:{a b:List α}->(hl:a.length=b.length)->(∀i (h:i<a.length),p a[i] (b[i]'(by omega))=true)->eqF p a b=true
 |[],[],_,_=>rfl
 |[],_::_,hl,_=>by simp at hl
 |x::xs,[],hl,_=>by simp at hl
 |x::xs,y::ys,hl,h=>by
  rw[eqF,show p x y=true from h 0 (by simp),JJ (a:=xs) (b:=ys) (by simpa using hl) λi hi=>h (i+1) (by simpa using hi)];rfl
theorem Mu{α:Type}{p:α->α->Bool}[DecidableEq α]:{a b:List α}->(∀x∈a,∀y∈b,p x y=decide (x=y))->eqF p a b=decide (a=b)
 |[],[],_=>rfl
 |[],_::_,_=>rfl
 |_::_,[],_=>rfl
 |x::xs,y::ys,h=>by
  rw[eqF,h x (by simp) y (by simp),Mu λu hu v hv=>h u (by simp[hu]) v (by simp[hv])];by_cases e:x=y<;>by_cases e2:xs=ys<;>simp[e,e2]
theorem LK(a b:List Comp)(f:FuncId)(cap:List AV)(p:Comp->Comp->Bool)(hs:Bu cap=true)(hl:a.length<=4611686018427387904)(hf:∀x∈a,∀y∈b,PS Tryz.prog f ((AG false) x::(AG false) y::cap) (bA (p x y))):
  PS Tryz.prog 116 [.lst false 85 2 (a.map (AG false)),.lst false 85 2 (b.map (AG false)),.fn f cap] (bA (eqF p a b)):=by
 refine Sp (nt:=32) (res:=[.tmp 6]) Tryz.func116 λSf=>?_
 refine KK ?_;refine AWP.cond rfl (λhb=>?_) (λhb=>?_)
 ·have hb:a.length≠b.length:=by simp at hb;omega
  refine KK ?_;refine RT ?_;refine AI ?_;rw[JK hb]
 ·have hb:a.length=b.length:=by simp at hb;omega
  refine KK ?_;refine A9 (λi:Nat=>⟨[(0,.lst false 85 2 (a.map (AG false))),(1,.lst false 85 2 (b.map (AG false))),(2,.fn f cap),(15,.lst false 85 2 (a.map (AG false))),(16,iA (a.map (AG false)).length),(17,iA i)],Sf⟩) (λi=>i<=a.length/\∀j (h:j<a.length),j<i->p a[j] (b[j]'(by omega))=true) (λi=>a.length-i) 0 ⟨Nat.zero_le _,λj h hj=>absurd hj (by omega)⟩ ?_;rintro i ⟨hi,he⟩;refine KK ?_;refine AWP.cond rfl (λhc=>?_) (λhc=>?_)
  ·have h:i<a.length:=by simpa using hc
   have h':i<b.length:=by omega
   refine KK ?_;refine Ai λX=>?_;refine KK ?_;refine Ai λX=>?_;refine KK ?_;refine AOps.g_callv ?_;refine AOps.k2 (h:=(hf _ (AU h) _ (AU h'))) (k:=?_);refine KK ?_
   refine AWP.cond rfl (λhd=>?_) (λhd=>?_)
   ·have hd:p a[i] b[i]=false:=by simpa using hd
    refine KK ?_;refine RT ?_;refine AI ?_;rw[Mt hb h hd]
   ·have hd:p a[i] b[i]=true:=by simpa using hd
    refine KK ?_;refine Ab (i+1) ⟨h,λj h1 h2=>?_⟩;by_cases e:j=i
    ·subst e;exact hd
    ·exact he j h1 (by omega)
  ·have h:¬i<a.length:=by simpa using hc
   refine KK ?_;refine RT ?_;refine AI ?_;rw[JJ hb λj hj=>he j hj (by omega)]
theorem LI(a b:List Item)(f:FuncId)(cap:List AV)(p:Item->Item->Bool)(hs:Bu cap=true)(hl:a.length<=4611686018427387904)(hf:∀x∈a,∀y∈b,PS Tryz.prog f ((AD false) x::(AD false) y::cap) (bA (p x y))):
  PS Tryz.prog 84 [.lst false 54 3 (a.map (AD false)),.lst false 54 3 (b.map (AD false)),.fn f cap] (bA (eqF p a b)):=by
 refine Sp (nt:=32) (res:=[.tmp 6]) Tryz.func84 λSf=>?_
 refine KK ?_;refine AWP.cond rfl (λhb=>?_) (λhb=>?_)
 ·have hb:a.length≠b.length:=by simp at hb;omega
  refine KK ?_;refine RT ?_;refine AI ?_;rw[JK hb]
 ·have hb:a.length=b.length:=by simp at hb;omega
  refine KK ?_;refine A9 (λi:Nat=>⟨[(0,.lst false 54 3 (a.map (AD false))),(1,.lst false 54 3 (b.map (AD false))),(2,.fn f cap),(15,.lst false 54 3 (a.map (AD false))),(16,iA (a.map (AD false)).length),(17,iA i)],Sf⟩) (λi=>i<=a.length/\∀j (h:j<a.length),j<i->p a[j] (b[j]'(by omega))=true) (λi=>a.length-i) 0 ⟨Nat.zero_le _,λj h hj=>absurd hj (by omega)⟩ ?_;rintro i ⟨hi,he⟩;refine KK ?_;refine AWP.cond rfl (λhc=>?_) (λhc=>?_)
  ·have h:i<a.length:=by simpa using hc
   have h':i<b.length:=by omega
   refine KK ?_;refine Ai λX=>?_;refine KK ?_;refine Ai λX=>?_;refine KK ?_;refine AOps.g_callv ?_;refine AOps.k2 (h:=(hf _ (AU h) _ (AU h'))) (k:=?_);refine KK ?_
   refine AWP.cond rfl (λhd=>?_) (λhd=>?_)
   ·have hd:p a[i] b[i]=false:=by simpa using hd
    refine KK ?_;refine RT ?_;refine AI ?_;rw[Mt hb h hd]
   ·have hd:p a[i] b[i]=true:=by simpa using hd
    refine KK ?_;refine Ab (i+1) ⟨h,λj h1 h2=>?_⟩;by_cases e:j=i
    ·subst e;exact hd
    ·exact he j h1 (by omega)
  ·have h:¬i<a.length:=by simpa using hc
   refine KK ?_;refine RT ?_;refine AI ?_;rw[JJ hb λj hj=>he j hj (by omega)]
theorem TG(f g:Field)(w:World):(binOp .neq 136 (.agg [DF f.name,.int .i64 f.bits,.int .i64 f.low].toArray) (.agg [DF g.name,.int .i64 g.bits,.int .i64 g.low].toArray)).run Tryz.prog w= .ok (.bool (decide (f≠g))) w:=by
 have h:=TI (P:=Tryz.prog) (t:=136) (by kernel_rfl) (by kernel_rfl) (by kernel_rfl) ⟨f.name.toArray⟩ ⟨g.name.toArray⟩ f.bits f.low g.bits g.low w;rw[run_neq_struct];have e:(Op.equalIn 10000 136 (.agg [DF f.name,.int .i64 f.bits,.int .i64 f.low].toArray) (.agg [DF g.name,.int .i64 g.bits,.int .i64 g.low].toArray)).run Tryz.prog w=_:=h;rw[e,Result.andThen_ok,Gc,Gc]
 have hd:(!(decide (f.name=g.name)&&decide (f.bits=g.bits)&&decide (f.low=g.low)))=decide (f≠g):=by
  obtain⟨n,b,l⟩:=f;obtain⟨n',b',l'⟩:=g;rw[Bool.eq_iff_iff];simp[or_assoc]
 rw[hd]
def KsL(ks:List Kind):Prop:=ks.length<=1099511627776/\∀k∈ks,k.fields.length<=1099511627776
def CsL(cs:List Comp):Prop:=cs.length<=1099511627776/\∀c∈cs,c.vals.length<=1099511627776
def ItL(l:List Item):Prop:=l.length<=1099511627776/\∀it∈l,CsL it.comps
structure WdL(w:Wd):Prop where
 ks:KsL w.kinds
 gens:w.gens.length<=1099511627776
 items:ItL w.items
theorem Vm(x y:Comp):(decide (x.kind=y.kind)&&decide (x.vals=y.vals))=decide (x=y):=by
 obtain⟨k,v⟩:=x;obtain⟨k',v'⟩:=y;rw[Bool.eq_iff_iff];simp
theorem Vi(x y:Item):(LY x.ent y.ent&&decide (x.comps=y.comps))=decide (x=y):=by
 rw[LX];obtain⟨k,v⟩:=x;obtain⟨k',v'⟩:=y;rw[Bool.eq_iff_iff];simp
theorem WZ(x y:Wd):(decide (x.kinds=y.kinds)&&decide (x.gens=y.gens)&&decide (x.items=y.items))=decide (x=y):=by
 obtain⟨k,v,u⟩:=x;obtain⟨k',v',u'⟩:=y;rw[Bool.eq_iff_iff];simp[and_assoc]
def GK(l:List Item)(n:Int):Bool:=l.any λit=>decide (it.ent.n=n)
def Lv(w:Wd):Option Nat:=(List.range w.gens.length).find? λn=>!GK w.items n&&decide (w.gens.getD n 0<1073741824)
def Bf(w:Wd):Nat×Bool:=match Lv w with
 |some n=>(n,true)
 |none=>(w.gens.length,decide ((w.gens.length:Int)<256))
theorem OP(s:List UInt8)(i:Nat):OQ s i=(decide ((97:Int)<=(s.getD i 0).toNat)&&decide (((s.getD i 0).toNat:Int)<=122)||decide ((0:Int)<i)&&decide ((48:Int)<=(s.getD i 0).toNat)&&decide (((s.getD i 0).toNat:Int)<=57)):=by
 have h:∀a b:UInt8,decide (a<=b)=decide ((a.toNat:Int)<=b.toNat):=λa b=>by simp[UInt8.le_iff_toNat_le]
 have h0:decide (0<i)=decide ((0:Int)<i):=by simp
 simp only[OQ,V8,WE,h,h0,Bool.and_assoc];rfl
theorem Md(s:List UInt8):PS Tryz.prog 131 [sA s] (bA (CY s)):=by
 refine Sp (nt:=41) (res:=[.tmp 2]) Tryz.func131 λSf=>?_
 refine KK ?_;refine AWP.cond rfl (λhb=>?_) (λhb=>?_)
 ·refine KK ?_
  refine RT ?_;refine BE rfl rfl (by exact Sub.f) ⟨?_,rfl⟩;rw[Nk s (by simp only[Bool.or_eq_true,AE]at hb;omega)]
 have hb1:s.length≠0/\s.length<=16:=by simp only[Bool.or_eq_false_iff,AL]at hb;omega
 (iterate 9 refine WK ?_);refine CF (λi:Nat=>⟨[(0,sA s),(14,iA s.length),(15,iA i)],Sf⟩) (λi=>i<=s.length/\∀j,j<i->OQ s j=true) (λi=>s.length-i) 0 ⟨by omega,by omega⟩ ⟨.cons rfl (.cons rfl (.cons rfl .nil)),List.Sublist.refl _⟩ ?_
 rintro i ⟨hi,hn⟩;refine KK ?_;refine AWP.cond rfl (λhb=>?_) (λhb=>?_)
 ·have h:i<s.length:=by simpa using hb
  (iterate 12 refine WK ?_);refine AOps.gN ?_;refine AOps.p (W.idxStr rfl rfl rfl h) rfl ?_;refine KK ?_
  refine AWP.cond rfl (λhc=>?_) (λhc=>?_)
  ·refine KK ?_
   refine RT ?_;refine BE rfl rfl (by exact Sub.f) ⟨?_,rfl⟩;rw[<-OP]at hc;rw[Q9 s i h (by simpa using hc)]
  ·refine KK ?_
   refine⟨i+1,⟨by omega,λj hj=>?_⟩,by omega,.cons rfl (.cons rfl (.cons rfl .nil)),by exact Sub.f⟩;rw[<-OP]at hc;by_cases e:j=i
   ·subst e;simpa using hc
   ·exact hn j (by omega)
 ·have h:¬i<s.length:=by simpa using hb
  refine KK ?_;refine RT ?_;refine BE rfl rfl (by exact Sub.f) ⟨?_,rfl⟩;rw[PF s (by omega) hb1.2 λj hj=>hn j (by omega)]
theorem KX(f:Field):PS Tryz.prog 150 [fieldA f] (iA (Ap f)):=by
 refine Sp (nt:=27) (res:=[.tmp 2]) Tryz.func150 λSf=>?_
 refine KK ?_;refine Ai λX=>?_;(iterate 7 refine WK ?_);refine AOps.gN ?_;refine AOps.p (W.call1 rfl (Md _) rfl) rfl ?_;refine KK ?_
 refine AWP.cond rfl (λhb=>?_) (λhb=>?_)
 ·refine KK ?_
  refine RT ?_;refine BE rfl rfl (by exact Sub.f) ⟨?_,rfl⟩;rw[OC f λhn hk=>?_];simp only[hn,Bool.not_true,Bool.false_or,Bool.or_eq_true,AE]at hb;omega
 ·refine KK ?_
  refine RT ?_;refine BE rfl rfl (by exact Sub.f) ⟨?_,rfl⟩;simp only[Bool.or_eq_false_iff,Bool.not_eq_false',AL]at hb;rw[Iu f hb.1.1.1.1 (by omega)]
theorem Ue(f:Field):PS Tryz.prog 196 [fieldA f] (iA (D6 f)):=by
 refine Sp (nt:=13) (res:=[.tmp 2]) Tryz.func196 λSf=>?_
 refine KK ?_;refine Ai λX=>?_;(iterate 6 refine WK ?_);refine AOps.gN ?_;refine AOps.p (W.call1 rfl (KX _) rfl) rfl ?_;refine KK ?_
 refine AWP.cond rfl (λhb=>?_) (λhb=>?_)
 ·have hb:Ap f≠0:=by simpa using hb
  refine KK ?_;refine RT ?_;refine BE rfl rfl (by exact Sub.f) ⟨?_,rfl⟩;simp[D6,hb]
 have hb:Ap f=0:=by simpa using hb
 have h1:=(DI f).1 hb;obtain⟨n,hn⟩:∃n:Nat,f.bits=n:=⟨f.bits.toNat,by omega⟩
 have hp:(2:Int)^n<=4294967296/\1<=(2:Int)^n:=by
  have hn2:n<=32:=by omega
  clear hn;have:∀n,n<=32->(2:Int)^n<=4294967296/\1<=(2:Int)^n:=by decide
  exact this n hn2
 have hw:IntKind.i64.wrap (1*2^n)=2^n:=by rw[Int.one_mul];exact DS (by omega) (by omega)
 refine KK ?_;refine RU ?_;(iterate 4 refine RK ?_);refine RGo.gN ?_;refine RGo.p (W.shl rfl rfl hn (by show n<=64;omega)) rfl ?_;refine RGo.gN ?_;refine RGo.p (W.sub rfl rfl (by rw[hw];omega)) rfl ?_;refine RGo.gN ?_;refine RGo.p (W.add rfl rfl (by rw[hw];omega)) rfl ?_;refine RK ?_;refine RGo.nil (by kernel_rfl) ?_;refine WK ?_;refine RT ?_;refine BE rfl rfl (by exact Sub.f) ⟨?_,rfl⟩;simp only[hw];simp[D6,hb,hn]
theorem QG(f:Field)(v:Int):PS Tryz.prog 145 [fieldA f,iA v] (iA (BT f v)):=by
 refine Sp (nt:=15) (res:=[.tmp 4]) Tryz.func145 λSf=>?_
 refine KK ?_;refine Ai λX=>?_;(iterate 6 refine WK ?_);refine AOps.gN ?_;refine AOps.p (W.call1 rfl (KX _) rfl) rfl ?_;refine KK ?_
 refine AWP.cond rfl (λhb=>?_) (λhb=>?_)
 ·have hb:Ap f≠0:=by simpa using hb
  refine KK ?_;refine RT ?_;refine BE rfl rfl (by exact Sub.f) ⟨?_,rfl⟩;simp[BT,hb]
 have hb:Ap f=0:=by simpa using hb
 refine KK ?_;refine RU ?_;(iterate 4 refine RK ?_);refine RGo.gN ?_;refine RGo.p (W.call1 rfl (Ue _) rfl) rfl ?_;(iterate 3 refine RK ?_);refine RGo.nil (by kernel_rfl) ?_;refine WK ?_;refine RT ?_;refine BE rfl rfl (by exact Sub.f) ⟨?_,rfl⟩;rw[show BT f v=max f.low (min v (D6 f))from by simp[BT,hb]];simp only[Int.max_def,Int.min_def]
 congr 2
 (repeat' split)<;>omega
theorem SW(k:Kind):PS Tryz.prog 104 [Aw false k] (iA (Ba k)):=by
 refine Sp (nt:=45) (res:=[.tmp 2]) Tryz.func104 λSf=>?_
 refine WK ?_;refine WK ?_;refine AOps.gN ?_;refine AOps.rs λX1=>?_;refine AOps.s (W.box rfl .here rfl) rfl ?_;(iterate 7 refine WK ?_);refine AOps.gN ?_;refine AOps.p (W.call1 rfl (Md _) rfl) rfl ?_;refine KK ?_
 refine AWP.cond rfl (λhb=>?_) (λhb=>?_)
 ·refine KK ?_
  refine RT ?_;refine BE rfl rfl (by exact Sub.f) ⟨?_,rfl⟩;have hb:CY k.name=false:=by simpa using hb
  rw[show Ba k=3 from by simp[Ba,hb]]
 have hn:CY k.name=true:=by simpa using hb
 refine KK ?_;refine AWP.cond rfl (λhb=>?_) (λhb=>?_)
 ·refine KK ?_
  refine RT ?_;refine BE rfl rfl (by exact Sub.f) ⟨?_,rfl⟩;have hb:8<k.fields.length:=by rw[AE,AB]at hb;omega
  rw[show Ba k=2 from by simp[Ba,hn,hb]]
 have hl:k.fields.length<=8:=by rw[AL,AB]at hb;omega
 have e1:Ba k=Bj [] k.fields:=by simp[Ba,hn];omega
 (iterate 10 refine WK ?_);refine CF (λi:Nat=>⟨[(1,.ptr X1 0 0),(17,ED false k.fields),(18,iA (k.fields.map fieldA).length),(19,iA i)],(X1,.row 133 2 [Aw false k])::Sf⟩) (λi=>i<=k.fields.length/\Bj [] k.fields=Bj (k.fields.take i) (k.fields.drop i)) (λi=>k.fields.length-i) 0 ⟨by omega,rfl⟩ ⟨.cons rfl (.cons rfl (.cons rfl (.cons rfl .nil))),by exact Sub.f⟩ ?_
 rintro i ⟨hi,he⟩;refine KK ?_;refine AWP.cond rfl (λhb=>?_) (λhb=>?_)
 ·have h:i<k.fields.length:=by simpa using hb
  (repeat first|(refine AOps.gN ?_;first|refine AOps.p (W.idxL rfl rfl rfl (BG _ h)) rfl ?_|refine AOps.p (W.call1 rfl (KX _) rfl) rfl ?_)|refine WK ?_|refine Ai λX=>?_|refine Ay λY=>?_);refine AWP.cond rfl (λhc=>?_) (λhc=>?_)
  ·have hc:Ap k.fields[i]≠0:=by simpa using hc
   refine KK ?_;refine RT ?_;refine BE rfl rfl (by exact Sub.f) ⟨?_,rfl⟩;rw[e1,he,F5 h,LH hc];rfl
  have hc:Ap k.fields[i]=0:=by simpa using hc
  have hmt:((k.fields.map fieldA).take i).length=i:=by simp;omega
  (iterate 6 refine WK ?_);refine AOps.gN ?_;refine AOps.p (W.hiL rfl rfl rfl (by simp;omega)) rfl ?_;(iterate 4 refine WK ?_);refine CF (λj:Nat=>⟨[(1,.ptr X1 0 0),(17,ED false k.fields),(18,iA (k.fields.map fieldA).length),(19,iA i),(3,iA i),(4,.ptr X 0 0),(32,.lst false 136 3 ((k.fields.map fieldA).take i)),(33,iA ((k.fields.map fieldA).take i).length),(34,iA j)],(X,.row 136 3 [fieldA k.fields[i]])::(X1,.row 133 2 [Aw false k])::Sf⟩) (λj=>j<=i/\∀q (hq:q<k.fields.length),q<j->k.fields[q].name≠k.fields[i].name) (λj=>i-j) 0 ⟨by omega,by omega⟩ ⟨.cons rfl (.cons rfl (.cons rfl (.cons rfl (.cons rfl (.cons rfl (.cons rfl (.cons rfl (.cons rfl .nil)))))))),by exact Sub.f⟩ ?_
  rintro j ⟨hj,hne⟩;refine KK ?_;refine AWP.cond rfl (λhd=>?_) (λhd=>?_)
  ·have hd:j<i:=by rw[hmt]at hd;simpa using hd
   have hat:((k.fields.map fieldA).take i)[j]?=some (fieldA (k.fields[j]'(by omega))):=by rw[List.getElem?_take_of_lt hd];exact BG _ _
   (iterate 5 refine WK ?_);refine AOps.gN ?_;refine AOps.p (W.idxL rfl rfl rfl hat) rfl ?_;refine KK ?_;refine Ai λX=>?_;refine KK ?_
   refine AWP.cond rfl (λhq=>?_) (λhq=>?_)
   ·have hq:(k.fields[j]'(by omega)).name=k.fields[i].name:=by simpa using hq
    refine KK ?_;refine RT ?_;refine BE rfl rfl (by exact Sub.f) ⟨?_,rfl⟩;rw[e1,he,F5 h,JB hc (j:=j) (by simp;omega) (by simpa using hq)]
   ·have hq:(k.fields[j]'(by omega)).name≠k.fields[i].name:=by simpa using hq
    refine KK ?_;refine⟨j+1,⟨by omega,λq hq1 hq2=>?_⟩,by omega,.cons rfl (.cons rfl (.cons rfl (.cons rfl (.cons rfl (.cons rfl (.cons rfl (.cons rfl (.cons rfl .nil)))))))),by exact Sub.f⟩;by_cases e:q=j
    ·subst e;exact hq
    ·exact hne q hq1 (by omega)
  ·have hd:¬j<i:=by rw[hmt]at hd;simpa using hd
   refine KK ?_;refine⟨i+1,⟨by omega,?_⟩,by omega,.cons rfl (.cons rfl (.cons rfl (.cons rfl .nil))),by exact Sub.f⟩;rw[he,F5 h,KW hc λq hq=>?_,List.take_add_one,AH h]
   ·rfl
   ·simp only[List.getElem_take]
    exact hne q (by simp at hq;omega) (by simp at hq;omega)
 ·have h:¬i<k.fields.length:=by simpa using hb
  refine KK ?_;refine RT ?_;refine BE rfl rfl (by exact Sub.f) ⟨?_,rfl⟩;rw[e1,he,LG (by omega)]
theorem HN{k:Kind}(h:Ba k=0):k.fields.length<=8:=by
 unfold Ba at h;split at h
 ·split at h
  ·cases h
  ·omega
 ·cases h
def IW(k:Kind)(vals:List Int)(i:Nat):List Int:=(List.zipWith BT k.fields vals).take i++List.replicate (vals.length-i) 0
theorem Uj{k:Kind}{vals:List Int}{i:Nat}(hl:vals.length=k.fields.length)(h:i<vals.length):((IW k vals i).map iA)[i]?=some (iA 0):=by
 have hz:(List.zipWith BT k.fields vals).length=vals.length:=by simp;omega
 rw[AF,IW,List.getElem?_append_right (by simp;omega)];rw[Aj,Nat.min_eq_left (by omega),Nat.sub_self,List.getElem?_replicate,if_pos (by omega)];rfl
theorem TC{k:Kind}{vals:List Int}{i:Nat}(hl:vals.length=k.fields.length)(h:i<vals.length):((IW k vals i).map iA).set i (iA (BT (k.fields[i]'(by omega)) vals[i]))=(IW k vals (i+1)).map iA:=by
 have hz:(List.zipWith BT k.fields vals).length=vals.length:=by simp;omega
 rw[<-List.map_set]
 congr 1
 unfold IW;rw[List.set_append_right _ _ (by simp;omega),Aj,Nat.min_eq_left (by omega),Nat.sub_self];rw[show vals.length-i=(vals.length-(i+1))+1 from by omega,List.replicate_succ,List.set_cons_zero];rw[List.take_add_one,AH (by omega),AN];simp
theorem PV(k:Kind)(vals:List Int):PS Tryz.prog 151 [Aw false k,AQ false vals] (.tup [AQ true (BZ k vals).1,iA (BZ k vals).2]):=by
 refine Sp (nt:=43) (res:=[.tmp 4,.tmp 5]) Tryz.func151 λSf=>?_
 refine WK ?_;refine WK ?_;refine AOps.gN ?_;refine AOps.rs λB=>?_;refine AOps.s (W.box rfl .here rfl) rfl ?_;(iterate 7 refine WK ?_);refine AOps.gN ?_;refine AOps.p (W.call1 rfl (SW _) rfl) rfl ?_;refine KK ?_
 refine AWP.cond rfl (λhb=>?_) (λhb=>?_)
 ·have hb:Ba k≠0:=by simpa using hb
  refine KK ?_;refine RT ?_;rw[show BZ k vals=([],Ba k)from by simp[BZ,hb]];exact⟨[.prim (.slice none 0 0),iA (Ba k)],[AQ true [],iA (Ba k)],_,[],.cons (.tmp rfl) rfl (.cons (.tmp rfl) rfl .nil),.cons (.cell .nil) (.cons (.cell .same) .nil),by exact Sub.f,rfl,rfl⟩
 have hk:Ba k=0:=by simpa using hb
 have h8:=HN hk;refine KK ?_;refine AWP.cond rfl (λhb=>?_) (λhb=>?_)
 ·have hb:vals.length≠k.fields.length:=by rw[AE,AB,AB]at hb;omega
  refine KK ?_;refine RT ?_;rw[show BZ k vals=([],1)from by simp[BZ,hk,hb]];exact⟨[.prim (.slice none 0 0),iA 1],[AQ true [],iA 1],_,[],.cons (.tmp rfl) rfl (.cons (.tmp rfl) rfl .nil),.cons (.cell .nil) (.cons (.cell .same) .nil),by exact Sub.f,rfl,rfl⟩
 have hl:vals.length=k.fields.length:=by rw[AL,AB,AB]at hb;omega
 have hv:(vals.map iA).length<=8:=by simp;omega
 have hz:List.replicate (vals.map iA).length (zAV [.int .i64 0] false)=(IW k vals 0).map iA:=by simp[IW];exact .inr rfl
 (iterate 5 refine WK ?_);refine AOps.gN ?_;refine AOps.rs λXL=>?_;refine AOps.s (W.make rfl rfl .here rfl (.inr rfl) rfl rfl (Nat.le_refl _) (by omega) (Nat.le_trans hv (by decide))) rfl ?_;(iterate 11 refine WK ?_);refine CF (λi:Nat=>⟨[(1,AQ false vals),(7,.sl XL 0 (vals.map iA).length),(25,ED false k.fields),(26,iA (k.fields.map fieldA).length),(27,iA i)],(XL,.row 3 1 ((IW k vals i).map iA))::(B,.row 133 2 [Aw false k])::Sf⟩) (λi=>i<=vals.length) (λi=>vals.length-i) 0 (Nat.zero_le _) ⟨.cons rfl (.cons rfl (.cons rfl (.cons rfl (.cons rfl .nil)))),(by show List.Sublist ((XL,.row 3 1 ((IW k vals 0).map iA))::(B,.row 133 2 [Aw false k])::Sf) _;rw[<-hz];exact Sub.f)⟩ ?_
 rintro i hi;refine KK ?_;refine AWP.cond rfl (λhb=>?_) (λhb=>?_)
 ·have h:i<vals.length:=by rw[AE,AB]at hb;omega
  have h':i<k.fields.length:=by omega
  (iterate 6 refine WK ?_);refine AOps.gN ?_;refine AOps.p (W.idxL rfl rfl rfl (BG _ h')) rfl ?_;refine KK ?_;refine Ai λX=>?_;refine KK ?_
  refine RU ?_;(iterate 5 refine RK ?_);refine RGo.gN ?_;refine RGo.p (W.idxL rfl rfl rfl (BG _ h)) rfl ?_;refine RK ?_;refine RGo.gN ?_;refine RGo.p (W.call2 rfl rfl (QG _ _) rfl) rfl ?_;refine RGo.gN ?_;refine RGo.p (W.idx rfl rfl (by exact At.f) rfl (by simpa using h) (Nat.zero_add _)) rfl ?_;refine RGo.gN ?_;refine RGo.s (W.store rfl rfl (by exact At.f) (Uj hl h) (by exact rfl)) rfl ?_;refine RGo.nil (by kernel_rfl) ?_;refine KK ?_;refine⟨i+1,by omega,by omega,.cons rfl (.cons rfl (.cons rfl (.cons rfl (.cons rfl .nil)))),?_⟩;show List.Sublist ((XL,.row 3 1 ((IW k vals (i+1)).map iA))::(B,.row 133 2 [Aw false k])::Sf) _
  rw[<-TC hl h];exact Sub.f
 ·have h:¬i<vals.length:=by rw[AL,AB]at hb;omega
  refine KK ?_;refine RT ?_;rw[show BZ k vals=(List.zipWith BT k.fields vals,0)from by simp[BZ,hk,hl]]
  have he:(IW k vals i).map iA=(List.zipWith BT k.fields vals).map iA:=by
   congr 1
   rw[IW,show vals.length-i=0 from by omega,List.take_of_length_le (by simp;omega)];simp
  refine⟨[.sl XL 0 (vals.map iA).length,iA 0],[.lst true 3 1 ((IW k vals i).map iA),iA 0],_,[],.cons (.tmp rfl) rfl (.cons (.tmp rfl) rfl .nil),.cons (.cell (.sl (p:=0) .here (by rw[he];simp;omega))) (.cons (.cell .same) .nil),by exact Sub.f,?_,rfl⟩;rw[he];rfl
theorem PW{k:Kind}{vals:List Int}(h:(BZ k vals).2=0):(BZ k vals).1.length=vals.length/\vals.length<=8:=by
 unfold BZ at h⊢;split
 ·rename_i h1;rw[if_pos h1]at h;exact absurd h h1
 ·rename_i h1
  rw[if_neg h1]at h;split
  ·rename_i h2;rw[if_pos h2]at h;cases h
  ·rename_i h2;have:=HN (Decidable.not_not.1 h1);simp;omega
theorem Sz(k:Kind)(vals:List Int):PS Tryz.prog 106 [Aw false k,AQ false vals] (bA (Bs k vals)):=by
 refine Sp (nt:=31) (res:=[.tmp 4]) Tryz.func106 λSf=>?_
 have hfr:(AV.tup [AQ true (BZ k vals).1,iA (BZ k vals).2]).frz= .tup [AQ false (BZ k vals).1,iA (BZ k vals).2]:=by
  show AV.tup [(AQ true (BZ k vals).1).frz,_]=_
  rw[RP];rfl
 refine KK ?_;refine Ai λX=>?_;(iterate 6 refine WK ?_);refine AOps.gN ?_;refine AOps.p (W.callF2 rfl rfl (PV _ _) rfl hfr) rfl ?_;refine KK ?_
 refine AWP.cond rfl (λhb=>?_) (λhb=>?_)
 ·have hb:(BZ k vals).2≠0:=by simpa using hb
  refine KK ?_;refine RT ?_;refine BE rfl rfl (by exact Sub.f) ⟨?_,rfl⟩;simp[Bs,hb]
 have hb:(BZ k vals).2=0:=by simpa using hb
 obtain⟨hlen,h8⟩:=PW hb;obtain⟨fl,hfl⟩:∃fl,fl=(BZ k vals).1:=⟨_,rfl⟩;rw[<-hfl]at hlen;rw[show Bs k vals=decide (fl=vals)from by simp[Bs,hb,hfl]];rw[<-hfl];clear hfr
 (iterate 9 refine WK ?_);refine CF (λi:Nat=>⟨[(1,AQ false vals),(5,AQ false fl),(17,iA (fl.map iA).length),(18,iA i)],Sf⟩) (λi=>i<=vals.length/\∀j (h:j<vals.length),j<i->fl[j]'(by omega)=vals[j]) (λi=>vals.length-i) 0 ⟨Nat.zero_le _,λj h hj=>absurd hj (by omega)⟩ ⟨.cons rfl (.cons rfl (.cons rfl (.cons rfl .nil))),by exact Sub.f⟩ ?_
 rintro i ⟨hi,he⟩;refine KK ?_;refine AWP.cond rfl (λhc=>?_) (λhc=>?_)
 ·have h:i<fl.length:=by rw[AE,AB]at hc;omega
  have h':i<vals.length:=by omega
  refine KK ?_;refine RU ?_;refine RK ?_;refine RK ?_;refine RGo.gN ?_;refine RGo.p (W.idxL rfl rfl rfl (BG _ h)) rfl ?_;(iterate 3 refine RK ?_);refine RGo.gN ?_;refine RGo.p (W.idxL rfl rfl rfl (BG _ h')) rfl ?_;refine RK ?_;refine RK ?_;refine RGo.nil (by kernel_rfl) ?_;refine WK ?_;refine AWP.cond rfl (λhd=>?_) (λhd=>?_)
  ·have hd:fl[i]≠vals[i]:=by simpa using hd
   refine KK ?_;refine RT ?_;refine BE rfl rfl (by exact Sub.f) ⟨?_,rfl⟩;rw[AM (λe=>hd (by subst e;rfl))]
  ·have hd:fl[i]=vals[i]:=by simpa using hd
   refine KK ?_;refine⟨i+1,⟨by omega,λj h1 h2=>?_⟩,by omega,.cons rfl (.cons rfl (.cons rfl (.cons rfl .nil))),by exact Sub.f⟩;by_cases e:j=i
   ·subst e;exact hd
   ·exact he j h1 (by omega)
 ·have h:¬i<fl.length:=by rw[AL,AB]at hc;omega
  refine KK ?_;refine RT ?_;refine BE rfl rfl (by exact Sub.f) ⟨?_,rfl⟩;rw[Ah (List.ext_getElem hlen λj h1 h2=>he j h2 (by omega))]
theorem Um(l:List Kind)(name:List UInt8)(hl:l.length<=1099511627776):PS Tryz.prog 105 [Ae false false l,sA name] (iA (DA l name)):=by
 refine Sp (nt:=20) (res:=[.tmp 4]) Tryz.func105 λSf=>?_
 (iterate 12 refine WK ?_);refine CF (λi:Nat=>⟨[(1,sA name),(7,Ae false false l),(8,iA (l.map (Aw false)).length),(9,iA i)],Sf⟩) (λi=>i<=l.length/\∀j (h:j<l.length),j<i->l[j].name≠name) (λi=>l.length-i) 0 ⟨by omega,by omega⟩ ⟨.cons rfl (.cons rfl (.cons rfl (.cons rfl .nil))),List.Sublist.refl _⟩ ?_
 rintro i ⟨hi,hn⟩;refine KK ?_;refine AWP.cond rfl (λhb=>?_) (λhb=>?_)
 ·have h:i<l.length:=by simpa using hb
  (iterate 6 refine WK ?_);refine AOps.gN ?_;refine AOps.p (W.idxL rfl rfl rfl (BG _ h)) rfl ?_;refine KK ?_;refine Ai λX=>?_;refine KK ?_
  refine AWP.cond rfl (λhc=>?_) (λhc=>?_)
  ·have hc:l[i].name=name:=by simpa using hc
   refine KK ?_;refine RT ?_;refine BE rfl rfl (by exact Sub.f) ⟨?_,rfl⟩;rw[LF h hc λj hj=>hn j (by omega) hj]
  ·have hc:l[i].name≠name:=by simpa using hc
   refine KK ?_;refine⟨i+1,⟨by omega,λj hj hji=>?_⟩,by omega,.cons rfl (.cons rfl (.cons rfl (.cons rfl .nil))),by exact Sub.f⟩;by_cases e:j=i
   ·subst e;exact hc
   ·exact hn j hj (by omega)
 ·have h:¬i<l.length:=by simpa using hb
  refine KK ?_;refine RT ?_;refine BE rfl rfl (by exact Sub.f) ⟨?_,rfl⟩;rw[HA λj hj=>hn j hj (by omega)]
theorem Ki(l:List Kind):PS Tryz.prog 67 [Ae false false l] (iA (Az l)):=by
 refine Sp (nt:=29) (res:=[.tmp 2]) Tryz.func67 λSf=>?_
 refine KK ?_;refine AWP.cond rfl (λhb=>?_) (λhb=>?_)
 ·refine KK ?_
  refine RT ?_;refine BE rfl rfl (by exact Sub.f) ⟨?_,rfl⟩;have hb:16<l.length:=by rw[AE,AB]at hb;omega
  rw[show Az l=2 from by simp[Az,hb]]
 have hl:l.length<=16:=by rw[AL,AB]at hb;omega
 have e1:Az l=Bw [] l:=by simp[Az];omega
 (iterate 9 refine WK ?_);refine CF (λi:Nat=>⟨[(0,Ae false false l),(9,Ae false false l),(10,iA (l.map (Aw false)).length),(11,iA i)],Sf⟩) (λi=>i<=l.length/\Bw [] l=Bw (l.take i) (l.drop i)) (λi=>l.length-i) 0 ⟨by omega,rfl⟩ ⟨.cons rfl (.cons rfl (.cons rfl (.cons rfl .nil))),by exact Sub.f⟩ ?_
 rintro i ⟨hi,he⟩;refine KK ?_;refine AWP.cond rfl (λhb=>?_) (λhb=>?_)
 ·have h:i<l.length:=by simpa using hb
  (repeat first|(refine AOps.gN ?_;first|refine AOps.p (W.idxL rfl rfl rfl (BG _ h)) rfl ?_|refine AOps.p (W.call1 rfl (SW _) rfl) rfl ?_)|refine WK ?_|refine Ai λX=>?_|refine Ay λY=>?_);refine AWP.cond rfl (λhc=>?_) (λhc=>?_)
  ·have hc:Ba l[i]≠0:=by simpa using hc
   refine KK ?_;refine RT ?_;refine BE rfl rfl (by exact Sub.f) ⟨?_,rfl⟩;rw[e1,he,GR h,Mk hc];rfl
  have hc:Ba l[i]=0:=by simpa using hc
  have hf:PS Tryz.prog 105 [.lst false 133 2 ((l.map (Aw false)).take i),sA l[i].name] (iA (DA (l.take i) l[i].name)):=by
   have:=Um (l.take i) l[i].name (by simp;omega);simpa only[Ae,List.map_take]using this
  refine KK ?_;refine RU ?_;refine RK ?_;refine RK ?_;refine RGo.gN ?_;refine RGo.p (W.hiL rfl rfl rfl (by simp;omega)) rfl ?_;refine RK ?_;refine RK ?_;refine RGo.gN ?_;refine RGo.p (W.call2 rfl rfl hf rfl) rfl ?_;refine RK ?_;refine RGo.nil (by kernel_rfl) ?_;refine WK ?_;refine AWP.cond rfl (λhd=>?_) (λhd=>?_)
  ·have hd:0<=DA (l.take i) l[i].name:=by simpa using hd
   refine KK ?_;refine RT ?_;refine BE rfl rfl (by exact Sub.f) ⟨?_,rfl⟩;rw[e1,he,GR h,J1 hc hd]
  ·have hd:DA (l.take i) l[i].name<0:=by simpa using hd
   refine KK ?_;refine⟨i+1,⟨by omega,?_⟩,by omega,.cons rfl (.cons rfl (.cons rfl (.cons rfl .nil))),by exact Sub.f⟩;rw[he,GR h,K8 hc hd,List.take_add_one,AH h];rfl
 ·have h:¬i<l.length:=by simpa using hb
  refine KK ?_;refine RT ?_;refine BE rfl rfl (by exact Sub.f) ⟨?_,rfl⟩;rw[e1,he,Mj (by omega)]
def Cl(ks:List Kind):Int->List Comp->Bool
 |_,[]=>true
 |last,c::l=>match ks[c.kind.toNat]? with
  |some k=>decide (last<c.kind)&&decide (c.kind<ks.length)&&Bs k c.vals&&Cl ks c.kind l
  |none=>false
def BI(ks:List Kind)(l:List Comp):Bool:=Cl ks (-1) l
theorem N2{ks:List Kind}{l:List Comp}{i:Nat}{last:Int}{k:Kind}{c:Comp}(h:i<l.length)(hc:l[i]=c)(hk:ks[c.kind.toNat]?=some k):Cl ks last (l.drop i)=(decide (last<c.kind)&&decide (c.kind<ks.length)&&Bs k c.vals&&Cl ks c.kind (l.drop (i+1))):=by
 rw[By h,Cl,hc,hk]
theorem Is{ks:List Kind}{l:List Comp}{i:Nat}{last:Int}{c:Comp}(h:i<l.length)(hc:l[i]=c)(hn:c.kind<=last\/(ks.length:Int)<=c.kind):Cl ks last (l.drop i)=false:=by
 rw[By h,Cl,hc];split
 ·rcases hn with hn|hn
  ·rw[AM (by omega)];rfl
  ·rw[AM (p:=c.kind<_) (by omega)];simp
 ·rfl
def B8(ks:List Kind)(gens:List Int):Int->List Item->Bool
 |_,[]=>true
 |last,it::l=>match gens[it.ent.n.toNat]? with
  |some g=>decide (last<it.ent.n)&&decide (it.ent.n<gens.length)&&decide (it.ent.gen=g)&& !decide (it.ent.gen=1073741824)&&BI ks it.comps&&B8 ks gens it.ent.n l
  |none=>false
theorem Mm{ks:List Kind}{gens:List Int}{l:List Item}{i:Nat}{last:Int}{g:Int}{it:Item}(h:i<l.length)(hc:l[i]=it)(hk:gens[it.ent.n.toNat]?=some g):B8 ks gens last (l.drop i)=(decide (last<it.ent.n)&&decide (it.ent.n<gens.length)&&decide (it.ent.gen=g)&& !decide (it.ent.gen=1073741824)&&BI ks it.comps&&B8 ks gens it.ent.n (l.drop (i+1))):=by
 rw[By h,B8,hc,hk]
theorem Hs{ks:List Kind}{gens:List Int}{l:List Item}{i:Nat}{last:Int}{it:Item}(h:i<l.length)(hc:l[i]=it)(hn:it.ent.n<=last\/(gens.length:Int)<=it.ent.n):B8 ks gens last (l.drop i)=false:=by
 rw[By h,B8,hc];split
 ·rcases hn with hn|hn
  ·rw[AM (by omega)];rfl
  ·rw[AM (p:=it.ent.n<_) (by omega)];simp
 ·rfl
def HQ(l:List Int):Bool:=l.all λg=>decide (0<=g)&&decide (g<=1073741824)
def Cp(w:Wd):Int:=
 if Az w.kinds≠0 then Az w.kinds
 else if 256<w.gens.length\/w.gens.length<w.items.length then 2
 else if HQ w.gens=false then 3
 else if B8 w.kinds w.gens (-1) w.items=false then 3 else 0
theorem Uf(ks:List Kind)(l:List Comp)(hl:l.length<=1099511627776):PS Tryz.prog 68 [Ae false false ks,Au false false l] (bA (BI ks l)):=by
 refine Sp (nt:=39) (res:=[.tmp 4]) Tryz.func68 λSf=>?_
 have hlm:(l.map (AG false)).length=l.length:=AB _;refine KK ?_;refine BQ (λ(i:Nat) (last:Int)=>⟨[(0,Ae false false ks),(5,iA last),(8,Au false false l),(9,iA (l.map (AG false)).length),(10,iA i)],Sf⟩) (λi last=>i<=l.length/\ -1<=last/\Cl ks last (l.drop i)=BI ks l) (λi _=>l.length-i) 0 (-1) ⟨Nat.zero_le _,by omega,rfl⟩ ?_;rintro i last ⟨hi,hla,he⟩;refine KK ?_;refine AWP.cond rfl (λhc=>?_) (λhc=>?_)
 ·have h:i<l.length:=by rw[AE,hlm]at hc;omega
  obtain⟨⟨ck,cv⟩,hcc⟩:∃c,l[i]=c:=⟨_,rfl⟩;have hat:(l.map (AG false))[i]?=some (AG false ⟨ck,cv⟩):=by rw[AF,AH h,hcc];rfl
  refine KK ?_;refine Ai λX=>?_;refine KK ?_
  rcases Bool.eq_false_or_eq_true (decide (ck<=last))with g1|g1
  ·refine RU ?_;(repeat first|(refine RGo.gQ ?_;first|refine RGo.goNU ?_|refine RGo.goNV ?_)|refine RK ?_|refine RGo.nil (by kernel_rfl) ?_)
   refine AP rfl (by first|rfl|assumption) ?_;refine KK ?_;refine RT ?_;refine AI ?_;rw[<-he,Is h hcc (.inl (by simpa using g1))]
  ·obtain⟨n,rfl⟩:∃n:Nat,ck=n:=⟨ck.toNat,by rw[AL]at g1;omega⟩
   rcases Bool.eq_false_or_eq_true (decide (((ks.map (Aw false)).length:Int)<=n))with g2|g2
   ·refine RU ?_;(repeat first|(refine RGo.gQ ?_;first|refine RGo.goNU ?_|refine RGo.goNV ?_)|refine RK ?_|refine RGo.nil (by kernel_rfl) ?_)
    refine AP rfl (by first|rfl|assumption) ?_;refine KK ?_;refine RT ?_;refine AI ?_;rw[<-he,Is h hcc (.inr (by rw[AE,AB]at g2;exact g2))]
   ·have hkl:n<ks.length:=by rw[AL,AB]at g2;omega
    obtain⟨k,hk⟩:∃k,ks[n]=k:=⟨_,rfl⟩;have hka:ks[n]?=some k:=by rw[AH hkl,hk]
    have hat2:(ks.map (Aw false))[n]?=some (Aw false k):=by rw[AF,hka];rfl
    have hst:=N2 (last:=last) (k:=k) h hcc hka;dsimp only at hst;rw[Ah (by rw[AL]at g1;omega),Ah (p:=(n:Int)<_) (by omega),Bool.true_and,Bool.true_and,he]at hst;have hh:=Sz k cv;obtain⟨b,hb⟩:∃b,Bs k cv=b:=⟨_,rfl⟩;rw[hb]at hst hh;cases b
    ·refine RU ?_;refine KR ?_;refine RGo.g_callf ?_;refine RGo.c2 (h:=(hh ..)) (k:=?_);refine RK ?_;refine RK ?_;refine RGo.nil (by kernel_rfl) ?_
     refine AP rfl (by first|rfl|assumption) ?_;refine KK ?_;refine RT ?_;refine AI ?_;rw[hst];rfl
    ·refine RU ?_;refine KR ?_;refine RGo.g_callf ?_;refine RGo.c2 (h:=(hh ..)) (k:=?_);refine RK ?_;refine RK ?_;refine RGo.nil (by kernel_rfl) ?_
     refine AA rfl (by first|rfl|assumption) ?_;refine KK ?_;refine A7 (i+1) n ⟨h,by omega,hst.symm⟩
 ·have h:i=l.length:=by rw[AL,hlm]at hc;omega
  subst h;refine KK ?_;refine RT ?_;refine AI ?_;rw[<-he,List.drop_length];rfl
theorem Eg(w:Wd)(hg:w.gens.length<=1099511627776)(hi:w.items.length<=1099511627776)(hc:∀it∈w.items,it.comps.length<=1099511627776):PS Tryz.prog 30 [wdA false w] (iA (Cp w)):=by
 have hck:=Ki w.kinds;obtain⟨ke,hke⟩:∃ke,Az w.kinds=ke:=⟨_,rfl⟩;obtain⟨we,hwe⟩:∃we,Cp w=we:=⟨_,rfl⟩;rw[hwe];unfold Cp at hwe;rw[hke]at hck hwe;obtain⟨ks,gens,items⟩:=w;dsimp only at hwe hg hi hc hck hke;refine Sp (nt:=94) (res:=[.tmp 2]) Tryz.func30 λSf=>?_
 have hgm:(gens.map iA).length=gens.length:=AB _;have him:(items.map (AD false)).length=items.length:=AB _;refine RG ?_;refine AOps.g_box ?_;refine Ag ?_;refine WO ?_;refine NL ?_;refine RG ?_;refine KO ?_;refine AOps.g_callf ?_;refine AOps.c1 (h:=(hck ..)) (k:=?_);refine WO ?_;refine NL ?_;refine KK ?_;refine AWP.cond rfl (λhd=>?_) (λhd=>?_)
 ·have hd:ke≠0:=by simpa using hd
  refine KK ?_;refine RT ?_;refine AI ?_;rw[<-hwe,if_pos hd]
 have hd:ke=0:=by simpa using hd
 rw[if_neg (by simp[hd])]at hwe;rcases Bool.eq_false_or_eq_true (decide (256<((gens.map iA).length:Int)))with g1|g1
 ·refine KK ?_
  refine AP rfl (by first|rfl|assumption) ?_;refine KK ?_;refine RT ?_;refine AI ?_;rw[<-hwe,if_pos (.inl (by rw[AE,hgm]at g1;omega))]
 rcases Bool.eq_false_or_eq_true (decide (((gens.map iA).length:Int)<(items.map (AD false)).length))with g2|g2
 ·refine KK ?_
  refine AP rfl (by first|rfl|assumption) ?_;refine KK ?_;refine RT ?_;refine AI ?_;rw[<-hwe,if_pos (.inr (by rw[AE,hgm,him]at g2;omega))]
 refine KK ?_;refine AA rfl (by first|rfl|assumption) ?_;rw[if_neg (by rw[AL,hgm]at g1;rw[AL,hgm,him]at g2;omega)]at hwe;refine KK ?_;refine A9 (λi:Nat=>⟨[(1,.fp (wdA false ⟨ks,gens,items⟩).cells),(29,AQ false gens),(30,iA (gens.map iA).length),(31,iA i)],Sf⟩) (λi=>i<=gens.length/\∀j (h:j<gens.length),j<i->0<=gens[j]/\gens[j]<=1073741824) (λi=>gens.length-i) 0 ⟨Nat.zero_le _,λj h hj=>absurd hj (by omega)⟩ ?_;rintro i ⟨hil,hgo⟩;refine KK ?_;refine AWP.cond rfl (λhe=>?_) (λhe=>?_)
 ·have h:i<gens.length:=by rw[AE,hgm]at he;omega
  obtain⟨x,hx⟩:∃x,gens[i]=x:=⟨_,rfl⟩;have hat:(gens.map iA)[i]?=some (iA x):=by rw[AF,AH h,hx];rfl
  have hbad:¬(0<=x/\x<=1073741824)->HQ gens=false:=λhn=>by
   unfold HQ;rw[List.all_eq_false];refine⟨x,hx▸AU h,?_⟩;simp only[Bool.and_eq_true,AE];exact hn
  refine KK ?_;refine AWP.cond rfl (λhf=>?_) (λhf=>?_)
  ·have hf:¬(0<=x/\x<=1073741824):=by simp at hf;omega
   refine KK ?_;refine RT ?_;refine AI ?_;rw[<-hwe,if_pos (hbad hf)]
  ·have hf:0<=x/\x<=1073741824:=by simp at hf;omega
   refine KK ?_;refine Ab (i+1) ⟨h,λj h1 h2=>?_⟩;by_cases e:j=i
   ·subst e;rw[hx];exact hf
   ·exact hgo j h1 (by omega)
 have hgok:HQ gens=true:=by
  have h:i=gens.length:=by rw[AL,hgm]at he;omega
  unfold HQ;rw[List.all_eq_true];intro x hx;obtain⟨j,hj,rfl⟩:=List.getElem_of_mem hx;simp only[Bool.and_eq_true,AE];exact hgo j hj (by omega)
 rw[if_neg (by simp[hgok])]at hwe;refine KK ?_;refine BQ (λ(i:Nat) (last:Int)=>⟨[(1,.fp (wdA false ⟨ks,gens,items⟩).cells),(6,iA last),(43,En false false items),(44,iA (items.map (AD false)).length),(45,iA i)],Sf⟩) (λi last=>i<=items.length/\ -1<=last/\B8 ks gens last (items.drop i)=B8 ks gens (-1) items) (λi _=>items.length-i) 0 (-1) ⟨Nat.zero_le _,by omega,rfl⟩ ?_;clear hil hgo he i;rintro i last ⟨hil,hla,he⟩;refine KK ?_;refine AWP.cond rfl (λhd'=>?_) (λhd'=>?_)
 ·have h:i<items.length:=by rw[AE,him]at hd';omega
  obtain⟨⟨⟨en,eg⟩,cs⟩,hit⟩:∃it,items[i]=it:=⟨_,rfl⟩;have hat:(items.map (AD false))[i]?=some (AD false ⟨⟨en,eg⟩,cs⟩):=by rw[AF,AH h,hit];rfl
  have hcl:=hc _ (hit▸AU h);dsimp only at hcl;refine KK ?_;refine Ai λX=>?_;refine KK ?_
  rcases Bool.eq_false_or_eq_true (decide (en<=last))with q1|q1
  ·refine RU ?_;(repeat first|(refine RGo.gQ ?_;first|refine RGo.goNU ?_|refine RGo.goNV ?_)|refine RK ?_|refine RGo.nil (by kernel_rfl) ?_)
   refine AP rfl (by first|rfl|assumption) ?_;refine KK ?_;refine RT ?_;refine AI ?_;rw[<-hwe,if_pos (by rw[<-he,Hs h hit (.inl (by simpa using q1))])]
  obtain⟨n,rfl⟩:∃n:Nat,en=n:=⟨en.toNat,by rw[AL]at q1;omega⟩;rcases Bool.eq_false_or_eq_true (decide (((gens.map iA).length:Int)<=n))with q2|q2
  ·refine RU ?_;(repeat first|(refine RGo.gQ ?_;first|refine RGo.goNU ?_|refine RGo.goNV ?_)|refine RK ?_|refine RGo.nil (by kernel_rfl) ?_)
   refine AP rfl (by first|rfl|assumption) ?_;refine KK ?_;refine RT ?_;refine AI ?_;rw[<-hwe,if_pos (by rw[<-he,Hs h hit (.inr (by rw[AE,hgm]at q2;exact q2))])]
  have hkl:n<gens.length:=by rw[AL,hgm]at q2;omega
  obtain⟨g,hg'⟩:∃g,gens[n]=g:=⟨_,rfl⟩;have hga:gens[n]?=some g:=by rw[AH hkl,hg']
  have hat2:(gens.map iA)[n]?=some (iA g):=by rw[AF,hga];rfl
  have hst:=Mm (ks:=ks) (last:=last) (g:=g) h hit hga;dsimp only at hst;rw[Ah (by rw[AL]at q1;omega),Ah (p:=(n:Int)<_) (by omega),Bool.true_and,Bool.true_and,he]at hst;rcases Bool.eq_false_or_eq_true (decide (eg≠g))with q3|q3
  ·refine RU ?_;(repeat first|(refine RGo.gQ ?_;first|refine RGo.goNU ?_|refine RGo.goNV ?_)|refine RK ?_|refine RGo.nil (by kernel_rfl) ?_)
   refine AP rfl (by first|rfl|assumption) ?_;refine KK ?_;refine RT ?_;refine AI ?_;rw[<-hwe,if_pos (by rw[hst,AM (by simpa using q3)];rfl)]
  rcases Bool.eq_false_or_eq_true (decide (eg=1073741824))with q4|q4
  ·refine RU ?_;(repeat first|(refine RGo.gQ ?_;first|refine RGo.goNU ?_|refine RGo.goNV ?_)|refine RK ?_|refine RGo.nil (by kernel_rfl) ?_)
   refine AP rfl (by first|rfl|assumption) ?_;refine KK ?_;refine RT ?_;refine AI ?_;rw[<-hwe,if_pos (by rw[hst,q4];simp)]
  have hh:=Uf ks cs hcl;obtain⟨b,hb⟩:∃b,BI ks cs=b:=⟨_,rfl⟩;rw[Ah (p:=eg=g) (by simpa using q3),q4,hb,Bool.true_and,Bool.not_false,Bool.true_and]at hst;rw[hb]at hh;cases b
  ·refine RU ?_;refine KR ?_;refine RGo.g_callf ?_;refine RGo.c2 (h:=(hh ..)) (k:=?_);refine RK ?_;refine RK ?_;refine RGo.nil (by kernel_rfl) ?_
   refine AP rfl (by first|rfl|assumption) ?_;refine KK ?_;refine RT ?_;refine AI ?_;rw[<-hwe,if_pos (by rw[hst];rfl)]
  ·refine RU ?_;refine KR ?_;refine RGo.g_callf ?_;refine RGo.c2 (h:=(hh ..)) (k:=?_);refine RK ?_;refine RK ?_;refine RGo.nil (by kernel_rfl) ?_
   refine AA rfl (by first|rfl|assumption) ?_;refine KK ?_;refine A7 (i+1) n ⟨h,by omega,hst.symm⟩
 ·have h:i=items.length:=by rw[AL,him]at hd';omega
  refine KK ?_;refine RT ?_;refine AI ?_;rw[<-hwe,if_neg (by rw[<-he,h,List.drop_length];simp[B8])]
theorem J6(a:Int):PS Tryz.prog 89 [iA a] (bA false):=by
 refine Sp (nt:=6) (res:=[.tmp 2]) Tryz.func89 λSf=>?_
 refine KK ?_;refine RT ?_;refine AI ?_;have:decide (a≠a)=false:=AM (by simp);rw[this]
def Cn(a b:Int):Int:=if a<b then-1 else if b<a then 1 else 0
theorem Et(a b:Int):PS Tryz.prog 57 [iA a,iA b] (iA (Cn a b)):=by
 refine Sp (nt:=20) (res:=[.tmp 4]) Tryz.func57 λSf=>?_
 refine KK ?_;refine AOps.g_callf ?_;refine AOps.c1 (h:=(J6 a)) (k:=?_);refine KK ?_;refine AOps.g_callf ?_;refine AOps.c1 (h:=(J6 b)) (k:=?_);refine KK ?_;refine AA rfl rfl ?_;refine KK ?_;refine AA rfl rfl ?_;refine KK ?_;refine AWP.cond rfl (λh=>?_) (λh=>?_)
 ·have h:a<b:=by simpa using h
  refine KK ?_;refine RT ?_;refine AI ?_;rw[Cn,if_pos h]
 ·have h:¬a<b:=by simpa using h
  refine KK ?_;refine AWP.cond rfl (λh2=>?_) (λh2=>?_)
  ·have h2:b<a:=by simpa using h2
   refine KK ?_;refine RT ?_;refine AI ?_;rw[Cn,if_neg h,if_pos h2]
  ·have h2:¬b<a:=by simpa using h2
   refine KK ?_;refine RT ?_;refine AI ?_;rw[Cn,if_neg h,if_neg h2]
def EK{α:Type}(l:List α)(p:α->Bool):Int:=match l.findIdx? p with
 |some i=>i
 |none=>-1
theorem Ee{α:Type}{l:List α}{p:α->Bool}(h:∀j (hj:j<l.length),p l[j]=false):EK l p= -1:=by
 have:l.findIdx? p=none:=by
  rw[List.findIdx?_eq_none_iff];intro x hx;obtain⟨j,hj,rfl⟩:=List.getElem_of_mem hx;exact h j hj
 simp[EK,this]
theorem Ed{α:Type}{l:List α}{p:α->Bool}{i:Nat}(hi:i<l.length)(e:p l[i]=true)(h:∀j (hj:j<i),p (l[j]'(by omega))=false):EK l p=i:=by
 have:l.findIdx? p=some i:=by
  rw[List.findIdx?_eq_some_iff_getElem];exact⟨hi,e,λj hj=>by simpa using h j hj⟩
 simp[EK,this]
theorem KC{α:Type}(l:List α)(p:α->Bool):decide ((0:Int)<=EK l p)=l.any p:=by
 unfold EK;cases h:l.findIdx? p with
 |none=>
  rw[List.findIdx?_eq_none_iff]at h;have:l.any p=false:=List.any_eq_false.2 λx hx=>by rw[h x hx];simp
  rw[this];rfl
 |some i=>
  obtain⟨hi,e,_⟩:=List.findIdx?_eq_some_iff_getElem.1 h;have:l.any p=true:=List.any_eq_true.2 ⟨_,AU hi,e⟩;rw[this];simp
theorem KB{α:Type}(l:List α)(p:α->Bool): -1<=EK l p/\EK l p<l.length/\EK l p<=l.length:=by
 unfold EK;cases h:l.findIdx? p with
 |none=>simp;omega
 |some i=>
  obtain⟨hi,_⟩:=List.findIdx?_eq_some_iff_getElem.1 h;simp;omega
theorem K9(l:List Item)(f:FuncId)(cap:List AV)(p:Item->Bool)(hs:Bu cap=true)(hl:l.length<=4611686018427387904)(hf:∀x∈l,PS Tryz.prog f ((AD false) x::cap) (bA (p x))):PS Tryz.prog 72 [.lst false 54 3 (l.map (AD false)),.fn f cap] (iA (EK l p)):=by
 refine Sp (nt:=19) (res:=[.tmp 4]) Tryz.func72 λSf=>?_
 refine KK ?_;refine A9 (λi:Nat=>⟨[(0,.lst false 54 3 (l.map (AD false))),(1,.fn f cap),(7,iA (l.map (AD false)).length),(8,iA i)],Sf⟩) (λi=>i<=l.length/\∀j (h:j<l.length),j<i->p l[j]=false) (λi=>l.length-i) 0 ⟨Nat.zero_le _,λj h hj=>absurd hj (by omega)⟩ ?_;rintro i ⟨hi,he⟩;refine KK ?_;refine AWP.cond rfl (λhc=>?_) (λhc=>?_)
 ·have h:i<l.length:=by simpa using hc
  refine KK ?_;refine AOps.g_callv ?_;refine Gt (h:=(hf _ (AU h))) (k:=?_);refine KK ?_;refine AWP.cond rfl (λhd=>?_) (λhd=>?_)
  ·refine KK ?_
   refine RT ?_;refine AI ?_;rw[Ed h hd λj hj=>he j (by omega) hj]
  ·refine KK ?_
   refine Ab (i+1) ⟨h,λj h1 h2=>?_⟩;by_cases e:j=i
   ·subst e;exact hd
   ·exact he j h1 (by omega)
 ·have h:¬i<l.length:=by simpa using hc
  refine KK ?_;refine RT ?_;refine AI ?_;rw[Ee λj hj=>he j hj (by omega)]
def Iz{α:Type}(g:α->Int)(l:List α):Prop:=∀(a b:Nat) (x y:α),a<=b->l[a]?=some x->l[b]?=some y->g y<0->g x<0
def Spl{α:Type}(g:α->Int)(l:List α)(i j:Nat):Prop:=(∀(k:Nat) (x:α),k<i->l[k]?=some x->g x<0)/\∀(k:Nat) (x:α),j<=k->l[k]?=some x->¬g x<0
structure Found{α:Type}(g:α->Int)(l:List α)(r:Nat×Bool):Prop where
 le:r.1<=l.length
 eq:r.2=true↔∃x,l[r.1]?=some x/\g x=0
 mono:Iz g l->Spl g l r.1 r.1
theorem Spl.lo{α:Type}{g:α->Int}{l:List α}{i j m:Nat}{y:α}(hM:Iz g l)(h:Spl g l i j)(hy:l[m]?=some y)(hg:g y<0):Spl g l (m+1) j:=
 ⟨λk x hk hx=>hM k m x y (by omega) hx hy hg,h.2⟩
theorem Spl.hi{α:Type}{g:α->Int}{l:List α}{i j m:Nat}{y:α}(hM:Iz g l)(h:Spl g l i j)(hy:l[m]?=some y)(hg:¬g y<0):Spl g l i m:=
 ⟨h.1,λk x hk hx hx0=>hg (hM m k y x hk hy hx hx0)⟩
theorem TF(x:Item)(e:Ent):PS Tryz.prog 73 [AD false x,.fp (BA e).cells] (bA (decide (x.ent=e))):=by
 have hE:=Pc x.ent.n x.ent.gen e.n e.gen;rw[show(decide (x.ent.n=e.n)&&decide (x.ent.gen=e.gen))=LY x.ent e from rfl,LX]at hE;refine Sp (nt:=8) (res:=[.tmp 3]) Tryz.func73 λSf=>?_
 refine WK ?_;refine WK ?_;refine AOps.g_box ?_;refine Ag ?_;(iterate 7 refine WK ?_);refine AOps.gN ?_;refine AOps.p (W.eqP _ _ (by kernel_rfl) hE rfl rfl) rfl ?_;refine KK ?_;refine RT ?_;refine AI ?_;rfl
def CW(l:List Item)(e:Ent):Int:=EK l λx=>decide (x.ent=e)
theorem TD(w:Wd)(e:Ent)(hl:w.items.length<=4611686018427387904):PS Tryz.prog 32 [wdA false w,BA e] (iA (CW w.items e)):=by
 have h:=K9 w.items 73 [.fp (BA e).cells] (λx=>decide (x.ent=e)) rfl hl (λx _=>TF x e);refine Sp (nt:=9) (res:=[.tmp 4]) Tryz.func32 λSf=>?_
 refine RG ?_;refine AOps.g_box ?_;refine Ag ?_;refine AOps.g_box ?_;refine Ag ?_;refine WO ?_;refine NL ?_;refine KK ?_;refine AOps.g_callf ?_;refine AOps.c2 (h:=(h ..)) (k:=?_);refine KK ?_;refine RT ?_;refine AI ?_;rfl
theorem Vn(c:Comp)(k:Int):PS Tryz.prog 93 [AG false c,iA k] (iA (Cn c.kind k)):=by
 refine Sp (nt:=9) (res:=[.tmp 4]) Tryz.func93 λSf=>?_
 refine WK ?_;refine WK ?_;refine AOps.g_box ?_;refine Ag ?_;refine KK ?_;refine AOps.g_callf ?_;refine AOps.c2 (h:=(Et c.kind k)) (k:=?_);refine KK ?_;refine RT ?_;refine AI ?_;rfl
theorem Oy(l:List Comp)(t:AV)(f:FuncId)(cap:List AV)(g:Comp->Int)(t0:Int)(ht:t=iA t0)(hs:Bu cap=true)(hl:l.length<=4611686018427387904)(hf:∀x∈l,PS Tryz.prog f (AG false x::t::cap) (iA (g x))):
  Spec Tryz.prog 92 [Au false false l,t,.fn f cap] [] λr S'=>∃b,Found g l b/\r= .tup [iA b.1,bA b.2]/\S'=[]:=by
 subst ht;refine Sp (nt:=49) (res:=[.tmp 6,.tmp 7]) Tryz.func92 λSf=>?_
 have hlm:(l.map (AG false)).length=l.length:=AB _;refine KK ?_;refine BQ (λ(i j:Nat)=>⟨[(0,Au false false l),(1,iA t0),(2,.fn f cap),(8,iA (l.map (AG false)).length),(9,iA i),(10,iA j)],Sf⟩) (λi j=>i<=j/\j<=l.length/\(Iz g l->Spl g l i j)) (λi j=>j-i) 0 (l.map (AG false)).length ⟨Nat.zero_le _,by omega,λ_=>⟨λk x h=>absurd h (by omega),λk x h hx=>by have:=(List.getElem?_eq_some_iff.1 hx).1;omega⟩⟩ ?_;rintro i j ⟨hij,hjn,hmono⟩;refine KK ?_;refine AWP.cond rfl (λhc=>?_) (λhc=>?_)
 ·have h:i<j:=by rw[AE]at hc;omega
  have hmid:((i:Int)+j).fdiv (2^1)=(((i+j)/2:Nat):Int):=by
   rw[Int.fdiv_eq_ediv_of_nonneg _ (by decide)];omega
  have hw1:IntKind.u64.wrap ((i:Int)+j)=i+j:=by rw[IntKind.wrap_u64];omega
  have hw2:IntKind.i64.wrap (((i:Int)+j).fdiv (2^1))=((i:Int)+j).fdiv (2^1):=by
   rw[IntKind.wrap_i64,hmid];omega
  refine RG ?_;(iterate 3 refine WO ?_);refine AOps.gN ?_;refine AOps.p (W.conv .i64 .u64 (by kernel_rfl) (by kernel_rfl) rfl hw1) rfl ?_;refine AOps.gN ?_;refine AOps.p (W.shr 1 rfl rfl rfl (by decide)) rfl ?_;refine AOps.gN ?_;refine AOps.p (W.conv .u64 .i64 (by kernel_rfl) (by kernel_rfl) rfl hw2) rfl ?_;refine WO ?_;refine NL ?_;rw[hmid];obtain⟨m,hm⟩:∃m,(i+j)/2=m:=⟨_,rfl⟩;rw[hm];have hml:m<l.length:=by omega
  obtain⟨y,hy⟩:∃y,l[m]=y:=⟨_,rfl⟩;have hya:l[m]?=some y:=by rw[AH hml,hy]
  have hat:(l.map (AG false))[m]?=some (AG false y):=by rw[AF,hya];rfl
  have hfy:=hf y (by rw[<-hy];exact AU hml);refine RG ?_;refine KO ?_;refine AOps.g_callv ?_;refine AOps.k2 (h:=(hfy ..)) (k:=?_);refine WO ?_;refine NL ?_;refine AWP.cond rfl (λhe=>?_) (λhe=>?_)
  ·have he:g y<0:=by simpa using he
   refine KK ?_;refine A7 (m+1) j ⟨by omega,hjn,λhM=>(hmono hM).lo hM hya he⟩
  ·have he:¬g y<0:=by simpa using he
   refine KK ?_;refine A7 i m ⟨by omega,by omega,λhM=>(hmono hM).hi hM hya he⟩
 ·have h:i=j:=by rw[AL]at hc;omega
  subst h;by_cases hin:i<l.length
  ·have hil:i<l.length:=by omega
   have g1:decide ((i:Int)<(l.map (AG false)).length)=true:=Ah (by omega);obtain⟨y,hy⟩:∃y,l[i]=y:=⟨_,rfl⟩;have hya:l[i]?=some y:=by rw[AH hil,hy]
   have hat:(l.map (AG false))[i]?=some (AG false y):=by rw[AF,hya];rfl
   have hfy:=hf y (by rw[<-hy];exact AU hil);refine KK ?_;refine AOps.g_callv ?_;refine AOps.k2 (h:=(hfy ..)) (k:=?_);refine KK ?_;refine RT ?_;exact⟨[iA i,bA (decide (g y=0))],[iA i,bA (decide (g y=0))],_,[],.cons (.tmp rfl) rfl (.cons (.tmp rfl) rfl .nil),.cons (.cell .same) (.cons (.cell .same) .nil),by exact Sub.f,(i,decide (g y=0)),⟨by simp;omega,by simp[hya],hmono⟩,rfl,rfl⟩
  ·have g1:decide ((i:Int)<(l.map (AG false)).length)=false:=AM (by omega)
   refine KK ?_;refine RT ?_;exact⟨[iA i,bA false],[iA i,bA false],_,[],.cons (.tmp rfl) rfl (.cons (.tmp rfl) rfl .nil),.cons (.cell .same) (.cons (.cell .same) .nil),by exact Sub.f,(i,false),⟨by simp;omega,by simp[List.getElem?_eq_none (show l.length<=i by omega)],hmono⟩,rfl,rfl⟩
theorem WS(l:List Comp)(k:Int)(hl:l.length<=4611686018427387904):Spec Tryz.prog 60 [Au false false l,iA k] [] λr S'=>∃b,Found (λc:Comp=>Cn c.kind k) l b/\r= .tup [iA b.1,bA b.2]/\S'=[]:=by
 have h:=Oy l (iA k) 93 [] (λc=>Cn c.kind k) k rfl rfl hl (λx _=>Vn x k);refine Sp (nt:=11) (res:=[.tmp 4,.tmp 5]) Tryz.func60 λSf=>?_
 refine R1 ?_;refine RG ?_;refine KO ?_;refine VB (h:=h) λb hb=>?_
 refine KO ?_;refine FL ?_;refine RT ?_;exact⟨[iA b.1,bA b.2],[iA b.1,bA b.2],_,[],.cons (.tmp rfl) rfl (.cons (.tmp rfl) rfl .nil),.cons (.cell .same) (.cons (.cell .same) .nil),by exact Sub.f,b,hb,rfl,rfl⟩
theorem Ef(l:List Int)(hl:l.length*8<=140737488355328):PS Tryz.prog 47 [.lst false 3 1 (l.map iA)] (.lst true 3 1 (l.map iA)):=by
 refine Sp (nt:=8) (res:=[.tmp 2]) Tryz.func47 λSf=>?_
 (iterate 8 refine WK ?_);refine AOps.gN ?_;refine AOps.isNil λb hb=>?_;refine KK ?_
 refine AWP.cond rfl (λhc=>?_) (λhc=>?_)
 ·rw[hb hc]
  refine KK ?_;refine RT ?_;exact⟨[.prim (.slice none 0 0)],[.lst true 3 1 []],_,[],.cons (.tmp rfl) rfl .nil,.cons (.cell .nil) .nil,by exact Sub.f,rfl,rfl⟩
 ·have hl':(0+(l.map iA).length)*8<=140737488355328:=by simpa using hl
  clear hl
  (iterate 3 refine WK ?_);refine AOps.g_lit ?_;refine ML λK=>?_;refine KK ?_;refine Ay λY=>?_;refine KK ?_
  refine RT ?_;exact⟨[.sl Y 0 (0+(l.map iA).length)],[.lst true 3 1 (l.map iA)],_,[],.cons (.tmp rfl) rfl .nil,.cons (.cell (.sl (p:=0) .here (by simp))) .nil,by exact Sub.f,rfl,rfl⟩
def Ci(l:List Comp):Prop:=l.Pairwise λa b=>a.kind<b.kind
theorem G5{ks:List Kind}:∀{l:List Comp} {last:Int},Cl ks last l=true->Ci l/\∀c∈l,last<c.kind/\c.kind<ks.length
 |[],_,_=>⟨.nil,λc hc=>by cases hc⟩
 |c::l,last,h=>by
  rw[Cl]at h;split at h
  ·simp only[Bool.and_eq_true,AE]at h
   obtain⟨h1,h2⟩:=G5 h.2;refine⟨List.pairwise_cons.2 ⟨λd hd=>(h2 d hd).1,h1⟩,λd hd=>?_⟩;rcases List.mem_cons.1 hd with rfl|hd
   ·exact⟨h.1.1.1,h.1.1.2⟩
   ·exact⟨by have:=(h2 d hd).1;have:=h.1.1.1;omega,(h2 d hd).2⟩
  ·cases h
theorem Mw{a b:Int}:Cn a b<0↔a<b:=by
 unfold Cn;split
 ·simp;assumption
 ·split<;>simp<;>omega
theorem cmpI_eq{a b:Int}:Cn a b=0↔a=b:=by
 unfold Cn;split
 ·simp;omega
 ·split<;>simp<;>omega
theorem Ov{l:List Comp}(h:Ci l)(k:Int):Iz (λc:Comp=>Cn c.kind k) l:=by
 intro a b x y hab hx hy hy0;rw[Mw]at hy0⊢;by_cases e:a=b
 ·subst e;rw[hx]at hy;cases hy;exact hy0
 ·obtain⟨ha,rfl⟩:=List.getElem?_eq_some_iff.1 hx
  obtain⟨hb,rfl⟩:=List.getElem?_eq_some_iff.1 hy;have:=List.pairwise_iff_getElem.1 h a b ha hb (by omega);omega
theorem Ra{l:List Comp}{k:Int}{b:Nat×Bool}(h:Found (λc:Comp=>Cn c.kind k) l b)(hb:b.2=true):∃c,l[b.1]?=some c/\c.kind=k:=by
 obtain⟨c,hc,h0⟩:=h.eq.1 hb;exact⟨c,hc,cmpI_eq.1 h0⟩
theorem TA{l:List Comp}{k:Int}{b:Nat×Bool}(h:Found (λc:Comp=>Cn c.kind k) l b)(hs:Ci l)(hb:b.2=false):∀c∈l,c.kind≠k:=by
 intro c hc e;obtain⟨j,hj,rfl⟩:=List.getElem_of_mem hc;obtain⟨h1,h2⟩:=h.mono (Ov hs k);have hne:¬∃x,l[b.1]?=some x/\Cn x.kind k=0:=λhx=>by rw[h.eq.2 hx]at hb;cases hb
 have hjb:b.1<=j:=by
  rcases Nat.lt_or_ge j b.1 with hlt|hge
  ·have:=h1 j _ hlt (AH hj)
   rw[Mw]at this;omega
  ·exact hge
 have hbl:b.1<l.length:=by omega
 have h3:=h2 b.1 _ (Nat.le_refl _) (AH hbl);rw[Mw]at h3;by_cases e2:j=b.1
 ·subst e2
  exact hne ⟨_,AH hj,cmpI_eq.2 e⟩
 ·have:=List.pairwise_iff_getElem.1 hs b.1 j hbl hj (by omega)
  omega
def Bp(l:List Comp)(k:Int):Option Comp:=l.find? λc=>decide (c.kind=k)
theorem Pj{l:List Comp}{k:Int}{c:Comp}(hs:Ci l)(hc:c∈l)(hk:c.kind=k):Bp l k=some c:=by
 induction l with
 |nil=>cases hc
 |cons a l ih=>
  obtain⟨h1,h2⟩:=List.pairwise_cons.1 hs;unfold Bp;rw[List.find?_cons];rcases List.mem_cons.1 hc with rfl|hc
  ·simp[hk]
  ·have:¬a.kind=k:=by have:=h1 c hc;omega
   simp only[this,decide_false];exact ih h2 hc
theorem Ib{l:List Comp}{k:Int}(h:∀c∈l,c.kind≠k):Bp l k=none:=by
 unfold Bp;rw[List.find?_eq_none];intro c hc;simpa using h c hc
def N5(w:Wd)(e:Ent)(k:Int):List Int×Int:=
 if Cp w≠0 then([],Cp w)else match w.items.find? (λit=>decide (it.ent=e))with
  |none=>([],4)
  |some it=>match Bp it.comps k with
   |none=>([],4)
   |some c=>(c.vals,0)
theorem KP{l:List Item}{e:Ent}(h:CW l e<0):l.find? (λit=>decide (it.ent=e))=none:=by
 unfold CW EK at h;split at h
 ·omega
 ·rename_i h2
  rw[List.findIdx?_eq_none_iff]at h2;rw[List.find?_eq_none];intro x hx;rw[h2 x hx];simp
theorem Fy{l:List Item}{e:Ent}{n:Nat}(h:CW l e=n):∃it,l[n]?=some it/\l.find? (λit=>decide (it.ent=e))=some it/\it.ent=e:=by
 unfold CW EK at h;split at h
 ·rename_i i h2
  have:i=n:=by omega
  subst this;obtain⟨hi,h3,h4⟩:=List.findIdx?_eq_some_iff_getElem.1 h2;refine⟨l[i],AH hi,?_,by simpa using h3⟩;rw[List.find?_eq_some_iff_getElem];exact⟨h3,i,hi,rfl,λj hj=>by simpa using h4 j hj⟩
 ·omega
theorem J4{ks:List Kind}{gens:List Int}:∀{l:List Item} {last:Int},B8 ks gens last l=true->∀it∈l,BI ks it.comps=true
 |[],_,_,it,hit=>by cases hit
 |x::l,last,h,it,hit=>by
  rw[B8]at h;split at h
  ·simp only[Bool.and_eq_true]at h
   rcases List.mem_cons.1 hit with rfl|hit
   ·exact h.1.2
   ·exact J4 h.2 it hit
  ·cases h
theorem T7{w:Wd}(h:Cp w=0):∀it∈w.items,BI w.kinds it.comps=true:=by
 unfold Cp at h;split at h
 ·exact absurd h ‹_›
 ·split at h
  ·cases h
  ·split at h
   ·cases h
   ·split at h
    ·cases h
    ·rename_i hi
     exact J4 (by simpa using hi)
theorem T6{w:Wd}(h:Cp w=0):∀it∈w.items,Ci it.comps:=λit hit=>(G5 (T7 h it hit)).1
theorem Vk(w:Wd)(e:Ent)(k:Int)(hw:WdL w):PS Tryz.prog 21 [wdA false w,BA e,iA k] (.tup [AQ true (N5 w e k).1,iA (N5 w e k).2]):=by
 have hck:=Eg w hw.gens hw.items.1 (λit hit=>(hw.items.2 it hit).1);have hfd:=TD w e (by have:=hw.items.1;omega);obtain⟨r,hr⟩:∃r,N5 w e k=r:=⟨_,rfl⟩;rw[hr];unfold N5 at hr;obtain⟨we,hwe⟩:∃we,Cp w=we:=⟨_,rfl⟩;rw[hwe]at hck hr;refine Sp (nt:=46) (res:=[.tmp 6,.tmp 7]) Tryz.func21 λSf=>?_
 refine RG ?_;refine AOps.g_box ?_;refine Ag ?_;refine AOps.g_box ?_;refine Ag ?_;refine KO ?_;refine NL ?_;refine RG ?_;refine WO ?_;refine AOps.g_callf ?_;refine AOps.c1 (h:=(hck ..)) (k:=?_);refine WO ?_;refine NL ?_;refine KK ?_;refine AWP.cond rfl (λhd=>?_) (λhd=>?_)
 ·have hd:we≠0:=by simpa using hd
  rw[if_pos hd]at hr;subst hr;refine KK ?_;refine RT ?_;exact⟨[.prim (.slice none 0 0),iA we],[AQ true [],iA we],_,[],.cons (.tmp rfl) rfl (.cons (.tmp rfl) rfl .nil),.cons (.cell .nil) (.cons (.cell .same) .nil),by exact Sub.f,rfl,rfl⟩
 have hd:we=0:=by simpa using hd
 rw[if_neg (by simp[hd])]at hr;have hsort:=T6 (hwe.trans hd);refine RG ?_;refine KO ?_;refine AOps.g_callf ?_;refine AOps.c2 (h:=(hfd ..)) (k:=?_);refine WO ?_;refine NL ?_;refine KK ?_;refine AWP.cond rfl (λhg=>?_) (λhg=>?_)
 ·have hg:CW w.items e<0:=by simpa using hg
  rw[KP hg]at hr;subst hr;refine KK ?_;refine RT ?_;exact⟨[.prim (.slice none 0 0),iA 4],[AQ true [],iA 4],_,[],.cons (.tmp rfl) rfl (.cons (.tmp rfl) rfl .nil),.cons (.cell .nil) (.cons (.cell .same) .nil),by exact Sub.f,rfl,rfl⟩
 obtain⟨n,hn⟩:∃n:Nat,CW w.items e=n:=⟨(CW w.items e).toNat,by(have:¬CW w.items e<0:=by simpa using hg);(omega)⟩;rw[hn];obtain⟨⟨en,cs⟩,hit,hfi,hen⟩:=Fy hn;rw[hfi]at hr;dsimp only at hr;have hmem:=An hit;have hcl:=hw.items.2 _ hmem;have hsc:=hsort _ hmem;dsimp only at hcl hsc;have hat:(w.items.map (AD false))[n]?=some (AD false ⟨en,cs⟩):=by rw[AF,hit];rfl
 have hap:=WS cs k (by have:=hcl.1;omega);refine FL ?_;refine RG ?_;refine KO ?_;refine VD (h:=hap) λb hb=>?_
 obtain⟨bi,bb⟩:=b;cases bb
 ·have hno:=TA hb hsc rfl
  rw[Ib hno]at hr;subst hr;dsimp only;refine KO ?_;refine FL ?_;refine KK ?_;refine AP rfl rfl ?_;refine KK ?_;refine RT ?_;exact⟨[.prim (.slice none 0 0),iA 4],[AQ true [],iA 4],_,[],.cons (.tmp rfl) rfl (.cons (.tmp rfl) rfl .nil),.cons (.cell .nil) (.cons (.cell .same) .nil),by exact Sub.f,rfl,rfl⟩
 ·obtain⟨c,hc,hck'⟩:=Ra hb rfl
  dsimp only at hc;have hcm:=An hc;rw[Pj hsc hcm hck']at hr;subst hr;obtain⟨ckd,cv⟩:=c;have hvl:=hcl.2 _ hcm;dsimp only at hvl;have hat2:(cs.map (AG false))[bi]?=some (AG false ⟨ckd,cv⟩):=by rw[AF,hc];rfl
  have hcn:=Ef cv (by omega);dsimp only;refine KO ?_;refine FL ?_;refine KK ?_;refine AA rfl rfl ?_;refine KK ?_;refine AOps.g_callf ?_;refine AOps.t1 (h:=hcn) λY=>?_;refine KK ?_
  refine RT ?_;exact⟨[.sl Y 0 (cv.map iA).length,iA 0],[AQ true cv,iA 0],_,[],.cons (.tmp rfl) rfl (.cons (.tmp rfl) rfl .nil),.cons (.cell (.sl (p:=0) .here rfl)) (.cons (.cell .same) .nil),by exact Sub.f,rfl,rfl⟩
def GF(l:List Comp):List Comp:=l.mergeSort λa b=>decide (a.kind<=b.kind)
def Cm(ks:List Kind):List Comp->List Comp->List Comp->List Comp×Int
 |_,out,[]=>(out,0)
 |pre,out,c::l=>
  if c.kind<0\/(ks.length:Int)<=c.kind then([],1)else if pre.any (λo=>decide (o.kind=c.kind))then([],5)else
  match ks[c.kind.toNat]? with
  |none=>([],1)
  |some k=>if(BZ k c.vals).2≠0 then([],(BZ k c.vals).2)else Cm ks (pre++[c]) (out++[⟨c.kind,(BZ k c.vals).1⟩]) l
def CH(ks:List Kind)(l:List Comp):List Comp×Int:=
 if Az ks≠0 then([],Az ks)else if(Cm ks [] [] l).2≠0 then([],(Cm ks [] [] l).2)else(GF (Cm ks [] [] l).1,0)
theorem KL{ks:List Kind}:∀{l pre out:List Comp},(Cm ks pre out l).2=0->(∀a∈out,∃b∈pre,b.kind=a.kind)->out.Pairwise (λa b=>a.kind≠b.kind)->(∀a∈out,0<=a.kind/\a.kind<ks.length)->
  (Cm ks pre out l).1.Pairwise (λa b=>a.kind≠b.kind)/\∀a∈(Cm ks pre out l).1,0<=a.kind/\a.kind<ks.length
 |[],pre,out,h,h1,h2,h3=>⟨h2,h3⟩
 |c::l,pre,out,h,h1,h2,h3=>by
  rw[Cm]at h⊢;split at h
  ·cases h
  ·rename_i g1
   rw[if_neg g1];split at h
   ·cases h
   ·rename_i g2
    rw[if_neg g2];split at h
    ·cases h
    ·rename_i k hk
     split at h
     ·rename_i g3;exact absurd h g3
     ·rename_i g3
      (try simp only[hk])
      rw[if_neg g3];refine KL h (λa ha=>?_) ?_ (λa ha=>?_)
      ·rcases List.mem_append.1 ha with ha|ha
       ·obtain⟨b,hb,e⟩:=h1 a ha
        exact⟨b,by simp[hb],e⟩
       ·rw[List.mem_singleton.1 ha]
        exact⟨c,by simp,rfl⟩
      ·rw[List.pairwise_append]
       refine⟨h2,by simp,λa ha b hb e=>?_⟩;rw[List.mem_singleton.1 hb]at e;obtain⟨b2,hb2,e2⟩:=h1 a ha;exact g2 (List.any_eq_true.2 ⟨b2,hb2,by simpa using e2.trans e⟩)
      ·rcases List.mem_append.1 ha with ha|ha
       ·exact h3 a ha
       ·rw[List.mem_singleton.1 ha];exact⟨by dsimp only;omega,by dsimp only;omega⟩
theorem GP{α:Type}(g:α->Int):∀(n:Nat) (l:List α),l.Pairwise (λa b=>g a≠g b)->(∀a∈l,0<=g a/\g a<n)->l.length<=n:=by
 intro n l h1 h2
 have h3:(l.map λa=>(g a).toNat).Nodup:=by
  rw[List.Nodup,List.pairwise_map];refine h1.imp_of_mem λ{a b} ha hb e=>?_
  have:=h2 a ha;have:=h2 b hb;omega
 have h4:=List.Nodup.length_le_of_subset h3 (l₂:=List.range n) (λx hx=>by
  obtain⟨a,ha,rfl⟩:=List.mem_map.1 hx;have:=h2 a ha;exact List.mem_range.2 (by omega))
 simpa using h4
theorem Fr(l:List Comp):(GF l).Perm l:=List.mergeSort_perm _ _
theorem J2{l u:List Comp}(hd:l.Pairwise (λa b=>a.kind≠b.kind))(hp:u.Perm l)(hs:u.Pairwise (λa b=>a.kind<=b.kind)):u=GF l:=by
 refine List.Perm.eq_of_pairwise (le:=λa b=>a.kind<=b.kind) (λa b ha hb h1 h2=>?_) hs ?_ (hp.trans (Fr l).symm)
 ·have hb':b∈l:=(Fr l).mem_iff.1 hb
  have ha':a∈l:=hp.mem_iff.1 ha;obtain⟨i,hi,rfl⟩:=List.getElem_of_mem ha';obtain⟨j,hj,rfl⟩:=List.getElem_of_mem hb';have:=List.pairwise_iff_getElem.1 hd;rcases Nat.lt_trichotomy i j with x|x|x
  ·exact absurd (by omega) (this i j hi hj x)
  ·subst x;rfl
  ·exact absurd (by omega) (this j i hj hi x)
 ·have:=List.pairwise_mergeSort (le:=λa b:Comp=>decide (a.kind<=b.kind)) (λa b c h1 h2=>by simp at*;omega) (λa b=>by simp;omega) l
  exact this.imp λh=>by simpa using h
theorem Ml{l:List Comp}(hd:l.Pairwise (λa b=>a.kind≠b.kind)):Ci (GF l):=by
 have h1:(GF l).Pairwise (λa b=>a.kind<=b.kind):=by
  have:=List.pairwise_mergeSort (le:=λa b:Comp=>decide (a.kind<=b.kind)) (λa b c h1 h2=>by simp at*;omega) (λa b=>by simp;omega) l;exact this.imp λh=>by simpa using h
 have h2:(GF l).Pairwise (λa b=>a.kind≠b.kind):=(Fr l).symm.pairwise hd (λh=>Ne.symm h);exact(h1.and h2).imp λh=>by obtain⟨a,b⟩:=h;omega
def Ce(l:List Comp)(k:Int):Nat:=(l.takeWhile λc=>decide (c.kind<k)).length
def Fa:List Comp->Comp->List Comp
 |[],c=>[c]
 |x::l,c=>if x.kind<c.kind then x::Fa l c else if x.kind=c.kind then c::l else c::x::l
def Fd(l:List Comp)(k:Int):List Comp:=l.filter λc=>!decide (c.kind=k)
def DT(w:Wd)(i:Nat)(cs:List Comp):Wd:=⟨w.kinds,w.gens,match w.items[i]? with|some it=>w.items.set i ⟨it.ent,cs⟩|none=>w.items⟩
def DM(w:Wd)(e:Ent)(c:Comp):Wd×Int:=
 if Cp w≠0 then(⟨[],[],[]⟩,Cp w)else if CW w.items e<0 then(⟨[],[],[]⟩,4)else
 if(CH w.kinds [c]).2≠0 then(⟨[],[],[]⟩,(CH w.kinds [c]).2)else
 match w.items[(CW w.items e).toNat]?,(CH w.kinds [c]).1 with
 |some it,[d]=>(DT w (CW w.items e).toNat (Fa it.comps d),0)
 |_,_=>(⟨[],[],[]⟩,0)
def Es(w:Wd)(e:Ent)(k:Int):Wd×Int:=
 if Cp w≠0 then(⟨[],[],[]⟩,Cp w)else if CW w.items e<0 then(⟨[],[],[]⟩,4)else
 match w.items[(CW w.items e).toNat]? with
 |some it=>if(Bp it.comps k).isSome then(DT w (CW w.items e).toNat (Fd it.comps k),0)else(⟨[],[],[]⟩,4)
 |none=>(⟨[],[],[]⟩,4)
def D5(w:Wd)(e:Ent):Wd×Int:=
 if Cp w≠0 then(⟨[],[],[]⟩,Cp w)else if CW w.items e<0 then(⟨[],[],[]⟩,4)else
 (⟨w.kinds,w.gens.set e.n.toNat (w.gens.getD e.n.toNat 0+1),w.items.eraseIdx (CW w.items e).toNat⟩,0)
def Ch(gens:List Int)(n:Nat):List Int:=if n=gens.length then gens++[0]else gens
def IQ:List Item->Item->List Item
 |[],it=>[it]
 |x::l,it=>if x.ent.n<it.ent.n then x::IQ l it else it::x::l
def DG(w:Wd)(l:List Comp):Wd×Ent×Int:=
 if Cp w≠0 then(⟨[],[],[]⟩,⟨0,0⟩,Cp w)else if(CH w.kinds l).2≠0 then(⟨[],[],[]⟩,⟨0,0⟩,(CH w.kinds l).2)else
 if(Bf w).2=false then(⟨[],[],[]⟩,⟨0,0⟩,6)else
 (⟨w.kinds,Ch w.gens (Bf w).1,IQ w.items ⟨⟨(Bf w).1,(Ch w.gens (Bf w).1).getD (Bf w).1 0⟩,(CH w.kinds l).1⟩⟩,⟨(Bf w).1,(Ch w.gens (Bf w).1).getD (Bf w).1 0⟩,0)
theorem G7(i c:Nat)(l:List Int):(Bb i c l).1.length=c:=by
 induction c generalizing i l with
 |zero=>rfl
 |succ c ih=>simp[Bb,ih]
theorem JA(i c:Nat)(l:List Int):(Bb i c l).1.map (·.name)=(List.range' i c).map Ca:=by
 induction c generalizing i l with
 |zero=>rfl
 |succ c ih=>
  have:(CQ i l).1.name=Ca i:=by unfold CQ;split<;>rfl
  simp[Bb,ih,List.range'_succ,this]
theorem IV(k c:Nat)(l:List Int):(BH k c l).1.length=c:=by
 induction c generalizing k l with
 |zero=>rfl
 |succ c ih=>simp[BH,ih]
theorem HR(k c:Nat)(l:List Int):(BH k c l).1.map (·.name)=(List.range' k c).map Dq:=by
 induction c generalizing k l with
 |zero=>rfl
 |succ c ih=>simp[BH,ih,List.range'_succ,DH]
theorem H1(i:Nat):CY (Ca i)=true:=by
 unfold Ca;split<;>decide
theorem Nu(i:Nat):CY (Dq i)=true:=by
 unfold Dq;split<;>decide
theorem N9(i:Nat)(l:List Int):Ap (CQ i l).1=0:=by
 have h1:=Af l (n:=9) (by omega);have h2:=Af (Ad l 9) (n:=40) (by omega);unfold CQ;split
 ·simp[Ap,H1]
 ·simp[Ap,H1]
  omega
theorem Hx(i c:Nat)(l:List Int):∀f∈(Bb i c l).1,Ap f=0:=by
 induction c generalizing i l with
 |zero=>intro f h;simp[Bb]at h
 |succ c ih=>
  intro f h;simp only[Bb,BN]at h;rcases h with rfl|h
  ·exact N9 i l
  ·exact ih _ _ f h
theorem KV:∀(fs pre:List Field),(∀f∈fs,Ap f=0)->((pre++fs).map (·.name)).Nodup->Bj pre fs=0:=by
 intro fs
 induction fs with
 |nil=>intro pre _ _;rfl
 |cons f fs ih=>
  intro pre h hn;have h1:=h f (by simp)
  have h2:pre.any (λo=>o.name==f.name)=false:=by
   rw[List.any_eq_false];intro o ho;simp only[beq_iff_eq];intro e;rw[List.map_append,List.nodup_append]at hn;exact hn.2.2 o.name (List.mem_map_of_mem ho) f.name (by simp) e
  simp only[Bj,h1,h2];simp;exact ih _ (λx hx=>h x (by simp[hx])) (by simpa using hn)
theorem K7:∀(ks pre:List Kind),(∀k∈ks,Ba k=0)->((pre++ks).map (·.name)).Nodup->Bw pre ks=0:=by
 intro fs
 induction fs with
 |nil=>intro pre _ _;rfl
 |cons f fs ih=>
  intro pre h hn;have h1:=h f (by simp)
  have h2:pre.any (λo=>o.name==f.name)=false:=by
   rw[List.any_eq_false];intro o ho;simp only[beq_iff_eq];intro e;rw[List.map_append,List.nodup_append]at hn;exact hn.2.2 o.name (List.mem_map_of_mem ho) f.name (by simp) e
  simp only[Bw,h1,h2];simp;exact ih _ (λx hx=>h x (by simp[hx])) (by simpa using hn)
theorem IY{c:Nat}(h:c<=3):((List.range' 0 c).map Ca).Nodup:=by
 have:c=0\/c=1\/c=2\/c=3:=by omega
 rcases this with rfl|rfl|rfl|rfl<;>decide
theorem I5{c:Nat}(h:c<=4):((List.range' 0 c).map Dq).Nodup:=by
 have:c=0\/c=1\/c=2\/c=3\/c=4:=by omega
 rcases this with rfl|rfl|rfl|rfl|rfl<;>decide
theorem PU(k:Nat)(l:List Int):Ba (DH k l).1=0:=by
 have h1:=Af l (n:=3) (by omega);have h2:(1+Ak l 3).toNat<=3:=by omega
 have h3:=KV (Bb 0 (1+Ak l 3).toNat (Ad l 3)).1 [] (Hx _ _ _) (by
  rw[BC,JA];exact IY h2)
 have h4:=G7 0 (1+Ak l 3).toNat (Ad l 3);unfold Ba DH;simp only[Nu,h3,h4,if_true];rw[if_neg (by omega)]
theorem I9(i c:Nat)(l:List Int):∀f∈(BH i c l).1,Ba f=0:=by
 induction c generalizing i l with
 |zero=>intro f h;simp[BH]at h
 |succ c ih=>
  intro f h;simp only[BH,BN]at h;rcases h with rfl|h
  ·exact PU i l
  ·exact ih _ _ f h
theorem Mp(l:List Int):1<=(Ao l).1.length/\(Ao l).1.length<=4:=by
 have h:=Af l (n:=4) (by omega);unfold Ao;rw[IV];omega
theorem KG(l:List Int):((Ao l).1.map (·.name)).Nodup:=by
 have h:=Af l (n:=4) (by omega);unfold Ao;rw[HR];exact I5 (by omega)
theorem It(l:List Int):∀k∈(Ao l).1,Ba k=0:=I9 _ _ _
theorem KH(l:List Int):Az (Ao l).1=0:=by
 unfold Az;have:=Mp l;rw[if_neg (by omega)];exact K7 _ [] (It l) (KG l)
theorem Nj{f:Field}(h:Ap f=0)(v:Int):f.low<=BT f v/\BT f v<=D6 f:=by
 have:=Ls h;unfold BT;rw[if_pos h];omega
theorem QH{f:Field}(h:Ap f=0){v:Int}(h1:f.low<=v)(h2:v<=D6 f):BT f v=v:=by
 unfold BT;rw[if_pos h];omega
theorem Lj{f:Field}(h:Ap f=0)(v:Int):BT f (BT f v)=BT f v:=QH h (Nj h v).1 (Nj h v).2
theorem Q8{fs:List Field}(h:∀f∈fs,Ap f=0)(vals:List Int):List.zipWith BT fs (List.zipWith BT fs vals)=List.zipWith BT fs vals:=by
 induction fs generalizing vals with
 |nil=>rfl
 |cons f fs ih=>
  cases vals with
  |nil=>rfl
  |cons v vals=>simp[Lj (h f (by simp)),ih (λx hx=>h x (by simp[hx]))]
theorem Hz{k:Kind}(h:Ba k=0){vals:List Int}(hl:vals.length=k.fields.length):BZ k vals=(List.zipWith BT k.fields vals,0):=by
 unfold BZ;rw[if_neg (by simp[h]),if_neg (by simp[hl])]
theorem KI(k:Nat)(l:List Int):(∀f∈(DH k l).1.fields,Ap f=0)/\(DH k l).1.fields.length<=3:=by
 have h1:=Af l (n:=3) (by omega);refine⟨Hx _ _ _,?_⟩;show(Bb _ _ _).1.length<=3
 rw[G7];omega
theorem Gw(i c:Nat)(l:List Int):∀k∈(BH i c l).1,(∀f∈k.fields,Ap f=0)/\k.fields.length<=3:=by
 induction c generalizing i l with
 |zero=>intro f h;simp[BH]at h
 |succ c ih=>
  intro f h;simp only[BH,BN]at h;rcases h with rfl|h
  ·exact KI i l
  ·exact ih _ _ f h
theorem I8(l:List Int):∀k∈(Ao l).1,(∀f∈k.fields,Ap f=0)/\k.fields.length<=3:=Gw _ _ _
def vAt(fs:List Field)(l:List Int):Nat->List Int×List Int
 |0=>([],l)
 |i+1=>match fs[i]? with
  |some f=>((vAt fs l i).1++[f.low+Ak (vAt fs l i).2 (2^f.bits.toNat)],Ad (vAt fs l i).2 (2^f.bits.toNat))
  |none=>vAt fs l i
def cAt(ks:List Kind)(l:List Int):Nat->List Comp×List Int
 |0=>([],l)
 |i+1=>match ks[i]? with
  |some k=>if Ak (cAt ks l i).2 3=2 then((cAt ks l i).1,Ad (cAt ks l i).2 3)
   else((cAt ks l i).1++[⟨i,(vAt k.fields (Ad (cAt ks l i).2 3) k.fields.length).1⟩],(vAt k.fields (Ad (cAt ks l i).2 3) k.fields.length).2)
  |none=>cAt ks l i
def Cb(ks:List Kind)(l:List Int):List Comp×List Int:=cAt ks l ks.length
def wAt(ks:List Kind)(l:List Int):Nat->List Int×List Item×List Int
 |0=>([],[],l)
 |i+1=>
  if Ak (Ad (wAt ks l i).2.2 3) 4=3\/(wAt ks l i).2.1.length=8 then((wAt ks l i).1++[Ak (wAt ks l i).2.2 3],(wAt ks l i).2.1,Ad (Ad (wAt ks l i).2.2 3) 4)
  else((wAt ks l i).1++[Ak (wAt ks l i).2.2 3],(wAt ks l i).2.1++[⟨⟨i,Ak (wAt ks l i).2.2 3⟩,(Cb ks (Ad (Ad (wAt ks l i).2.2 3) 4)).1⟩],(Cb ks (Ad (Ad (wAt ks l i).2.2 3) 4)).2)
def C9(l:List Int):Wd:=
 ⟨(Ao l).1,(wAt (Ao l).1 (Ad (Ao l).2 12) (Ak (Ao l).2 12).toNat).1,(wAt (Ao l).1 (Ad (Ao l).2 12) (Ak (Ao l).2 12).toNat).2.1⟩
def EY(f:Field):Prop:=0<=f.bits/\f.bits<=32/\ -2147483648<=f.low/\f.low<=2147483648
def GC(ks:List Kind):Prop:=ks.length<=1099511627776/\∀k∈ks,k.fields.length<=1099511627776/\∀f∈k.fields,EY f
theorem UB(fs:List Field)(l:List Int)(i:Nat):(vAt fs l i).1.length<=i:=by
 induction i with
 |zero=>simp[vAt]
 |succ i ih=>rw[vAt];split<;>(try simp only[AK,List.length_singleton])<;>omega
theorem Us(ks:List Kind)(l:List Int)(i:Nat):(cAt ks l i).1.length<=i:=by
 induction i with
 |zero=>simp[cAt]
 |succ i ih=>rw[cAt];split<;>(try split)<;>(try simp only[AK,List.length_singleton])<;>omega
theorem NJ{fs:List Field}{l:List Int}{i:Nat}(h:i<fs.length):vAt fs l (i+1)=((vAt fs l i).1++[fs[i].low+Ak (vAt fs l i).2 (2^fs[i].bits.toNat)],Ad (vAt fs l i).2 (2^fs[i].bits.toNat)):=by
 rw[vAt,AH h]
theorem Mz{ks:List Kind}{l:List Int}{i:Nat}(h:i<ks.length)(h2:Ak (cAt ks l i).2 3=2):cAt ks l (i+1)=((cAt ks l i).1,Ad (cAt ks l i).2 3):=by
 rw[cAt,AH h];simp only;rw[if_pos h2]
theorem My{ks:List Kind}{l:List Int}{i:Nat}(h:i<ks.length)(h2:Ak (cAt ks l i).2 3≠2):cAt ks l (i+1)=((cAt ks l i).1++[⟨i,(vAt ks[i].fields (Ad (cAt ks l i).2 3) ks[i].fields.length).1⟩],(vAt ks[i].fields (Ad (cAt ks l i).2 3) ks[i].fields.length).2):=by
 rw[cAt,AH h];simp only;rw[if_neg h2]
theorem Lc{b:Nat}(h:b<=32):(1:Int)<=2^b/\(2:Int)^b<=4294967296:=by
 have h1:(2:Nat)^b<=2^32:=Nat.pow_le_pow_right (by decide) h;have h2:0<(2:Nat)^b:=Nat.pow_pos (by decide);have h3:((2:Int)^b)=(((2:Nat)^b:Nat):Int):=by simp
 rw[h3];have:(2:Nat)^32=4294967296:=by decide
 omega
theorem OI(G:Nat)(ks:List Kind)(l:List Int)(hk:GC ks):PO Tryz.prog 39 [Ae false false ks,.ptr G 0 0] G (Bc l) (Au true false (Cb ks l).1) (Bc (Cb ks l).2):=by
 refine Sp (nt:=50) (res:=[.tmp 4]) Tryz.func39 λSf=>?_
 obtain⟨hk0,hk1⟩:=hk;refine R1 ?_;refine R1 ?_;refine R1 ?_;refine FL ?_;refine AWP.adopt (d:=5) 85 2 rfl λK=>?_
 refine M9 (λ(i K:Nat) (M:List AV) (n:Nat) (q:List Int)=>⟨[(1,.ptr G 0 0),(5,.sl K 0 n),(11,Ae false false ks),(12,iA (ks.map (Aw false)).length),(13,iA i)],(K,.row 85 2 M)::(G,Bc q)::Sf⟩) (λi _ M n q=>i<=ks.length/\M=(cAt ks l i).1.map (AG false)/\n=M.length/\q=(cAt ks l i).2) (λi _ _ _ _=>ks.length-i) 0 K [] 0 l ⟨Nat.zero_le _,rfl,rfl,rfl⟩ ?_;rintro i K M n q ⟨hi,hM,hn,hq⟩;refine KK ?_;refine AWP.cond rfl (λhc=>?_) (λhc=>?_)
 ·have h:i<ks.length:=by simpa using hc
  obtain⟨hf0,hf1⟩:=hk1 _ (AU h);have h3:=Af q (n:=3) (by decide);have hn1:n+1<=1099511627776:=by have:=Us ks l i;rw[hn,hM,AB];omega
  refine KK ?_;refine Ai λX=>?_;refine KK ?_;refine AOps.g_callf ?_;refine AOps.o2 (h:=(CE G _ _ (by decide))) (k:=?_);refine KK ?_
  refine AWP.cond rfl (λhe=>?_) (λhe=>?_)
  ·have he:Ak q 3=2:=by simpa using he
   refine KK ?_;refine Hr (i+1) K M n _ ⟨h,?_,hn,?_⟩
   ·rw[Mz h (hq▸he),hM]
   ·rw[Mz h (hq▸he),hq]
  ·have he:Ak q 3≠2:=by simpa using he
   refine RG ?_;refine KO ?_;refine Ai λY=>?_;refine WO ?_;refine NL ?_
   refine AWP.adoptIn (Y:=Y) 3 1 .here (λF=>.cons (.agg (.cons .same (.cons (.base .nil) .nil))) .nil) λF=>?_
   refine KK ?_;obtain⟨fs,hfs⟩:∃fs,ks[i].fields=fs:=⟨_,rfl⟩;obtain⟨q1,hq1⟩:∃q1,Ad q 3=q1:=⟨_,rfl⟩;rw[hq1,hfs];have hck:cAt ks l (i+1)=((cAt ks l i).1++[⟨i,(vAt fs q1 fs.length).1⟩],(vAt fs q1 fs.length).2):=by rw[My h (hq▸he),<-hq,hq1,hfs]
   rw[hfs]at hf0 hf1;refine M9 (λ(j F:Nat) (L:List AV) (m:Nat) (r:List Int)=>⟨[(1,.ptr G 0 0),(5,.sl K 0 n),(6,iA i),(8,.ptr Y 0 0),(11,Ae false false ks),(12,iA (ks.map (Aw false)).length),(13,iA i),(24,ED false fs),(25,iA (fs.map fieldA).length),(26,iA j)],(F,.row 3 1 L)::(Y,.row 85 2 [.agg [iA i,.sl F 0 m]])::(K,.row 85 2 M)::(G,Bc r)::Sf⟩) (λj _ L m r=>j<=fs.length/\L=(vAt fs q1 j).1.map iA/\m=L.length/\r=(vAt fs q1 j).2) (λj _ _ _ _=>fs.length-j) 0 F [] 0 q1 ⟨Nat.zero_le _,rfl,rfl,rfl⟩ ?_;rintro j F L m r ⟨hj,hL,hm,hr⟩;refine KK ?_;refine AWP.cond rfl (λhd=>?_) (λhd=>?_)
   ·have hj':j<fs.length:=by simpa using hd
    obtain⟨hb0,hb1,hl0,hl1⟩:=hf1 _ (AU hj');obtain⟨b,hb⟩:∃b:Nat,fs[j].bits=b:=⟨fs[j].bits.toNat,by omega⟩;have hp:=Lc (b:=b) (by omega);have hw:IntKind.i64.wrap (1*2^b)=2^b:=by rw[Int.one_mul];exact DS (by omega) (by omega)
    have hv:=Af r (n:=IntKind.i64.wrap (1*2^b)) (by omega);have hm1:m+1<=1099511627776:=by have:=UB fs q1 j;rw[hm,hL,AB];omega
    refine KK ?_;refine Ai λZ=>?_;refine KK ?_
    refine AWP.rs λX7=>?_
    refine RU ?_;(iterate 7 refine RK ?_);refine RGo.gN ?_;refine RGo.p (W.shl rfl rfl hb (by show b<=64;omega)) rfl ?_;refine RGo.g_callf ?_;refine RGo.o2 (h:=(CE G _ _ (by rw[hw];omega))) (k:=?_);refine RGo.gN ?_;refine RGo.p (W.add rfl rfl (by omega)) rfl ?_;(iterate 4 refine RK ?_);refine RGo.nil (by kernel_rfl) ?_;refine KK ?_;have hva:vAt fs q1 (j+1)=((vAt fs q1 j).1++[fs[j].low+Ak r (IntKind.i64.wrap (1*2^b))],Ad r (IntKind.i64.wrap (1*2^b))):=by rw[NJ hj',<-hr,hw,hb];rfl
    refine Hr (j+1) X7 _ _ _ ⟨hj',?_,?_,?_⟩
    ·rw[hva,hL,List.map_append];rfl
    ·rw[AK,hm]
    ·rw[hva]
   ·have hj':j=fs.length:=by rw[AL,AB]at hd;omega
    subst hj';refine FL ?_;refine AWP.iceIn (X:=F) (Y:=Y) .here (.next .here) rfl (.cons (.agg (.cons .same (.cons (.base (.sl (by omega))) .nil))) .nil) ?_
    have hF:AV.frzs ((L.drop 0).take m)=(vAt fs q1 fs.length).1.map iA:=by
     rw[List.drop_zero,List.take_of_length_le (by omega),hL];exact Frzs.h
    rw[hF]
    (iterate 3 refine WK ?_);refine AOps.g_lit ?_;refine AOps.goL (AG false ⟨i,(vAt fs q1 fs.length).1⟩) ?_;refine WK ?_;refine Ay λY=>?_;refine KK ?_
    refine Hr (i+1) Y _ _ _ ⟨h,?_,?_,?_⟩
    ·rw[hck,hM,List.map_append];rfl
    ·rw[AK,hn]
    ·rw[hck,hr]
 ·have h:i=ks.length:=by rw[AL,AB]at hc;omega
  subst h;refine KK ?_;refine RT ?_;subst hM hq;exact⟨[.sl K 0 n],[.lst true 85 2 ((cAt ks l ks.length).1.map (AG false))],_,[(G,Bc (cAt ks l ks.length).2)],.cons (.tmp rfl) rfl .nil,.cons (.cell (.sl (p:=0) .here hn)) .nil,by exact Sub.f,rfl,rfl⟩
theorem JS(ks:List Kind)(l:List Int)(i:Nat):(wAt ks l i).1.length=i:=by
 induction i with
 |zero=>rfl
 |succ i ih=>rw[wAt];split<;>simp[ih]
theorem NH(ks:List Kind)(l:List Int)(i:Nat):(wAt ks l i).2.1.length<=i:=by
 induction i with
 |zero=>simp[wAt]
 |succ i ih=>rw[wAt];split<;>(try simp only[AK,List.length_singleton])<;>omega
def wdO(w:Wd):AV:=.agg [Ae false false w.kinds,AQ true w.gens,En true false w.items]
instance {w:Wd}:Frz (wdO w) (wdA false w):=⟨by unfold wdO wdA;exact Frz.h⟩
theorem Mq(i:Nat)(l:List Int):EY (CQ i l).1:=by
 have h9:=Af l (n:=9) (by decide);have h40:=Af (Ad l 9) (n:=40) (by decide);unfold CQ;split<;>refine⟨?_,?_,?_,?_⟩<;>simp<;>omega
theorem Un(i:Nat)(l:List Int):∀f∈(fAt i l).1,EY f:=by
 induction i with
 |zero=>intro f hf;cases hf
 |succ i ih=>
  intro f hf;rcases List.mem_append.1 hf with hf|hf
  ·exact ih f hf
  ·rw[List.mem_singleton.1 hf];exact Mq _ _
theorem N8(k:Nat)(l:List Int):(DH k l).1.fields.length<=3/\∀f∈(DH k l).1.fields,EY f:=by
 have h:=Af l (n:=3) (by decide);show(Bb 0 (1+Ak l 3).toNat (Ad l 3)).1.length<=3/\∀f∈(Bb 0 (1+Ak l 3).toNat (Ad l 3)).1,EY f
 rw[Fx];exact⟨by rw[QS];omega,Un _ _⟩
theorem QM(i:Nat)(l:List Int):∀k∈(kAt i l).1,k.fields.length<=3/\∀f∈k.fields,EY f:=by
 induction i with
 |zero=>intro f hf;cases hf
 |succ i ih=>
  intro f hf;rcases List.mem_append.1 hf with hf|hf
  ·exact ih f hf
  ·rw[List.mem_singleton.1 hf];exact N8 _ _
theorem Hw(l:List Int):(Ao l).1.length=(1+Ak l 4).toNat:=by rw[EL,QN]
theorem Fw(l:List Int):GC (Ao l).1:=by
 have h:=Af l (n:=4) (by decide);refine⟨by rw[Hw];omega,?_⟩;rw[EL];intro k hk;have:=QM _ _ k hk;exact⟨by omega,this.2⟩
theorem R7(l:List Int):PS Tryz.prog 10 [AQ false l] (wdO (C9 l)):=by
 refine Sp (nt:=52) (res:=[.cell 2 27]) Tryz.func10 λSf=>?_
 have hko:=Fw l;obtain⟨ks,hks⟩:∃ks,(Ao l).1=ks:=⟨_,rfl⟩;obtain⟨l1,hl1⟩:∃l1,(Ao l).2=l1:=⟨_,rfl⟩;have h12:=Af l1 (n:=12) (by decide);obtain⟨c,hc⟩:∃c:Nat,Ak l1 12=c:=⟨(Ak l1 12).toNat,by omega⟩;obtain⟨l2,hl2⟩:∃l2,Ad l1 12=l2:=⟨_,rfl⟩;have hg:C9 l=⟨ks,(wAt ks l2 c).1,(wAt ks l2 c).2.1⟩:=by unfold C9;rw[hks,hl1,hl2,hc];rfl
 have hkp:=λG=>Sq G l
 rw[hks,hl1]at hkp;rw[hks]at hko;rw[hg];clear hg hks hl1;refine RG ?_;refine WO ?_;refine Ai λR=>?_;refine NL ?_
 refine RG ?_;refine KO ?_;refine Ai λG=>?_;refine WO ?_;refine NL ?_
 refine RG ?_;refine WO ?_;refine AOps.g_callf ?_;refine AOps.o1 (h:=(hkp G)) (k:=?_);refine KO ?_;refine Ai λV=>?_;refine WO ?_;refine NL ?_
 refine RG ?_;refine WO ?_;refine AOps.g_callf ?_;refine AOps.o2 (h:=(CE G _ _ (by decide))) (k:=?_);refine WO ?_;refine NL ?_;rw[hl2,hc];refine AWP.adoptIn (Y:=V) 54 3 (by exact At.f) (λF=>.cons (.agg (.cons .same (.cons .same (.cons (.base .nil) .nil)))) .nil) λB=>?_
 refine AWP.adoptIn (Y:=V) 3 1 (by exact At.f) (λF=>.cons (.agg (.cons .same (.cons (.base .nil) (.cons .same .nil)))) .nil) λA=>?_
 refine FL ?_;refine U5 (λ(i A B:Nat) (L M:List AV) (n:Nat) (q:List Int)=>⟨[(2,.ptr R 0 0),(3,.ptr G 0 0),(4,.ptr V 0 0),(13,iA c),(14,iA i)],(A,.row 3 1 L)::(B,.row 54 3 M)::(V,.row 27 3 [.agg [Ae false false ks,.sl A 0 i,.sl B 0 n]])::(G,Bc q)::(R,.row 27 3 [.agg [.prim (.slice none 0 0),.prim (.slice none 0 0),.prim (.slice none 0 0)]])::Sf⟩) (λi _ _ L M n q=>i<=c/\L=(wAt ks l2 i).1.map iA/\M=(wAt ks l2 i).2.1.map (AD false)/\n=M.length/\q=(wAt ks l2 i).2.2) (λi _ _ _ _ _ _=>c-i) 0 A B [] [] 0 l2 ⟨Nat.zero_le _,rfl,rfl,rfl,rfl⟩ ?_;rintro i A B L M n q ⟨hi,hL,hM,hn,hq⟩;have hA:=JS ks l2 i;have hB:=NH ks l2 i;refine KK ?_;refine AWP.cond rfl (λhd=>?_) (λhd=>?_)
 ·have h:i<c:=by rw[AE]at hd;omega
  have h3:=Af q (n:=3) (by decide);have h4:=Af (Ad q 3) (n:=4) (by decide);refine R1 ?_;refine AWP.rs λX7=>?_
  refine RU ?_;refine KR ?_;refine RGo.g_callf ?_;refine RGo.o2 (h:=(CE G _ _ (by decide))) (k:=?_);(iterate 4 refine RK ?_);refine RGo.nil (by kernel_rfl) ?_;refine KK ?_;refine AOps.g_callf ?_;refine AOps.o2 (h:=(CE G _ _ (by decide))) (k:=?_);refine KK ?_;have hLl:L.length=i:=by rw[hL,AB,hA]
  obtain⟨IT,hIT⟩:∃IT,(wAt ks l2 i).2.1=IT:=⟨_,rfl⟩;rw[hIT]at hM hB;have hnl:n=IT.length:=by rw[hn,hM,AB]
  have hat:(L++[.prim (.int .i64 (Ak q 3))])[i]?=some (.prim (.int .i64 (Ak q 3))):=by rw[<-hLl];simp
  refine AWP.cond rfl (λhe=>?_) (λhe=>?_)
  ·have he:Ak (Ad q 3) 4=3\/n=8:=by rw[Bool.or_eq_true,AE,AE]at he;omega
   have hw:wAt ks l2 (i+1)=((wAt ks l2 i).1++[Ak q 3],IT,Ad (Ad q 3) 4):=by rw[wAt,<-hq,hIT,<-hnl,if_pos he]
   refine KK ?_;refine No (i+1) X7 B _ M n _ ⟨h,?_,?_,hn,?_⟩
   ·rw[hw,hL,List.map_append];rfl
   ·rw[hw,hM]
   ·rw[hw]
  ·have he:¬(Ak (Ad q 3) 4=3\/n=8):=by rw[Bool.or_eq_false_iff,AL,AL]at he;omega
   have hw:wAt ks l2 (i+1)=((wAt ks l2 i).1++[Ak q 3],IT++[⟨⟨i,Ak q 3⟩,(Cb ks (Ad (Ad q 3) 4)).1⟩],(Cb ks (Ad (Ad q 3) 4)).2):=by rw[wAt,<-hq,hIT,<-hnl,if_neg he]
   have hin:i<i+[AV.prim (.int .i64 (Ak q 3))].length:=Nat.lt_succ_self i;refine AWP.rs λX8=>?_
   refine RU ?_;refine KR ?_;refine RGo.g_callf ?_;refine RGo.o2 (h:=(OI G ks _ hko)) (k:=?_);refine RK ?_;refine RGo.g_lit ?_;refine RGo.goL (AD false ⟨⟨i,Ak q 3⟩,(Cb ks (Ad (Ad q 3) 4)).1⟩) ?_;(iterate 3 refine RK ?_);refine RGo.nil (by kernel_rfl) ?_;refine KK ?_;refine No (i+1) X7 X8 _ _ _ _ ⟨h,?_,?_,?_,?_⟩
   ·rw[hw,hL,List.map_append];rfl
   ·rw[hw,hM,List.map_append];rfl
   ·rw[AK,hn]
   ·rw[hw]
 ·have h:i=c:=by rw[AL]at hd;omega
  subst h;refine KK ?_;refine RT ?_;subst hL hM;have hA:i=((wAt ks l2 i).1.map iA).length:=by rw[AB,hA]
  exact⟨[.agg [Ae false false ks,.sl A 0 i,.sl B 0 n]],[wdO ⟨ks,(wAt ks l2 i).1,(wAt ks l2 i).2.1⟩],_,[],.cons (.cell (p:=4) rfl (by exact At.f) TAg.h TSize.h rfl rfl) rfl .nil,.cons (.agg (.cons .same (.cons (.sl (p:=0) .here hA) (.cons (.sl (p:=0) .here hn) .nil)))) .nil,by exact Sub.f,rfl,rfl⟩
theorem QW{ks:List Kind}{l:List Int}{i:Nat}{c:Comp}(h:c∈(cAt ks l i).1):∃(j:Nat) (hj:j<ks.length) (q:List Int),j<i/\c=⟨j,(vAt ks[j].fields q ks[j].fields.length).1⟩:=by
 induction i with
 |zero=>cases h
 |succ i ih=>
  by_cases hi:i<ks.length
  ·by_cases h2:Ak (cAt ks l i).2 3=2
   ·rw[Mz hi h2]at h
    obtain⟨j,hj,q,h3,h4⟩:=ih h;exact⟨j,hj,q,by omega,h4⟩
   ·rw[My hi h2]at h
    rcases List.mem_append.1 h with h|h
    ·obtain⟨j,hj,q,h3,h4⟩:=ih h
     exact⟨j,hj,q,by omega,h4⟩
    ·rw[List.mem_singleton.1 h]
     exact⟨i,hi,_,by omega,rfl⟩
  ·rw[cAt,List.getElem?_eq_none (by omega)]at h
   obtain⟨j,hj,q,h3,h4⟩:=ih h;exact⟨j,hj,q,by omega,h4⟩
theorem P7{ks:List Kind}{l:List Int}{i:Nat}{it:Item}(h:it∈(wAt ks l i).2.1):∃(j:Nat) (q:List Int),j<i/\(wAt ks l i).1[j]?=some it.ent.gen/\it.ent.n=j/\it.comps=(Cb ks q).1:=by
 induction i with
 |zero=>cases h
 |succ i ih=>
  have hl:=JS ks l i
  have hup:∀(x:Int) (g:Int) (j:Nat),(wAt ks l i).1[j]?=some g->((wAt ks l i).1++[x])[j]?=some g:=λx g j hg=>by
   rw[List.getElem?_append_left (List.getElem?_eq_some_iff.1 hg).1,hg]
  rw[wAt]at h⊢;split
  ·rename_i hs
   rw[if_pos hs]at h;obtain⟨j,q,h1,h2,h3,h4⟩:=ih h;exact⟨j,q,by omega,hup _ _ _ h2,h3,h4⟩
  ·rename_i hs
   rw[if_neg hs]at h;rcases List.mem_append.1 h with h|h
   ·obtain⟨j,q,h1,h2,h3,h4⟩:=ih h
    exact⟨j,q,by omega,hup _ _ _ h2,h3,h4⟩
   ·rw[List.mem_singleton.1 h]
    exact⟨i,_,by omega,by rw[List.getElem?_append_right (by omega),hl];simp,rfl,rfl⟩
theorem KF(l:List Int):(Ao l).1.length<=4/\∀k∈(Ao l).1,k.fields.length<=3:=by
 have h:=Af l (n:=4) (by decide);refine⟨by rw[Hw];omega,?_⟩;rw[EL];intro k hk;exact(QM _ _ k hk).1
theorem EU{ks:List Kind}:∀{l:List Comp} {last:Int},-1<=last->(Cl ks last l=true↔l.Pairwise (λa b=>a.kind<b.kind)/\∀c∈l,last<c.kind/\c.kind<ks.length/\∃k,ks[c.kind.toNat]?=some k/\Bs k c.vals=true)
 |[],_,_=>by simp[Cl]
 |c::l,last,hl=>by
  rw[Cl];constructor
  ·intro h
   split at h
   ·rename_i k hk
    simp only[Bool.and_eq_true,AE]at h;obtain⟨⟨⟨h1,h2⟩,h3⟩,h4⟩:=h;obtain⟨h5,h6⟩:=(EU (by omega)).1 h4;refine⟨List.pairwise_cons.2 ⟨λd hd=>(h6 d hd).1,h5⟩,λd hd=>?_⟩;rcases List.mem_cons.1 hd with rfl|hd
    ·exact⟨h1,h2,k,hk,h3⟩
    ·obtain⟨q1,q2⟩:=h6 d hd
     exact⟨by omega,q2⟩
   ·cases h
  ·rintro⟨h1,h2⟩
   obtain⟨h3,h4⟩:=List.pairwise_cons.1 h1;obtain⟨h5,h6,k,hk,h7⟩:=h2 c (by simp);rw[hk];simp only[Bool.and_eq_true,AE];exact⟨⟨⟨h5,h6⟩,h7⟩,(EU (by omega)).2 ⟨h4,λd hd=>⟨h3 d hd,(h2 d (by simp[hd])).2⟩⟩⟩
theorem FK{ks:List Kind}{gens:List Int}:∀{l:List Item} {last:Int},-1<=last->(B8 ks gens last l=true↔l.Pairwise (λa b=>a.ent.n<b.ent.n)/\∀it∈l,last<it.ent.n/\it.ent.n<gens.length/\gens[it.ent.n.toNat]?=some it.ent.gen/\it.ent.gen≠1073741824/\BI ks it.comps=true)
 |[],_,_=>by simp[B8]
 |c::l,last,hl=>by
  rw[B8];constructor
  ·intro h
   split at h
   ·rename_i k hk
    simp only[Bool.and_eq_true,AE,Bool.not_eq_true',AL]at h;obtain⟨⟨⟨⟨⟨h1,h2⟩,h3⟩,h4⟩,h7⟩,h8⟩:=h;obtain⟨h5,h6⟩:=(FK (by omega)).1 h8;refine⟨List.pairwise_cons.2 ⟨λd hd=>(h6 d hd).1,h5⟩,λd hd=>?_⟩;rcases List.mem_cons.1 hd with rfl|hd
    ·exact⟨h1,h2,by rw[hk,h3],h4,h7⟩
    ·obtain⟨q1,q2⟩:=h6 d hd
     exact⟨by omega,q2⟩
   ·cases h
  ·rintro⟨h1,h2⟩
   obtain⟨h3,h4⟩:=List.pairwise_cons.1 h1;obtain⟨h5,h6,hk,h7,h8⟩:=h2 c (by simp);rw[hk];simp only[Bool.and_eq_true,AE,Bool.not_eq_true',AL];exact⟨⟨⟨⟨⟨h5,h6⟩,trivial⟩,h7⟩,h8⟩,(FK (by omega)).2 ⟨h4,λd hd=>⟨h3 d hd,(h2 d (by simp[hd])).2⟩⟩⟩
structure WdOK(w:Wd):Prop where
 ks:Az w.kinds=0
 gl:w.gens.length<=256
 il:w.items.length<=w.gens.length
 gs:∀g∈w.gens,0<=g/\g<=1073741824
 so:w.items.Pairwise λa b=>a.ent.n<b.ent.n
 it:∀it∈w.items,0<=it.ent.n/\it.ent.n<w.gens.length/\w.gens[it.ent.n.toNat]?=some it.ent.gen/\it.ent.gen≠1073741824/\BI w.kinds it.comps=true
theorem BR(w:Wd):Cp w=0↔WdOK w:=by
 have hg:HQ w.gens=true↔∀g∈w.gens,0<=g/\g<=1073741824:=by
  unfold HQ;rw[List.all_eq_true];simp only[Bool.and_eq_true,AE]
 have hi:=FK (ks:=w.kinds) (gens:=w.gens) (l:=w.items) (last:=-1) (by omega);unfold Cp;constructor
 ·intro h
  split at h
  ·exact absurd h ‹_›
  rename_i h1;split at h
  ·cases h
  rename_i h2;split at h
  ·cases h
  rename_i h3;split at h
  ·cases h
  rename_i h4;obtain⟨h5,h6⟩:=hi.1 (by simpa using h4);exact⟨by simpa using h1,by omega,by omega,hg.1 (by simpa using h3),h5,λit hit=>by obtain⟨a,b⟩:=h6 it hit;exact⟨by omega,b⟩⟩
 ·intro h
  rw[if_neg (by simp[h.ks]),if_neg (by have:=h.gl;have:=h.il;omega),if_neg (by rw[hg.2 h.gs];simp),if_neg (by rw[hi.2 ⟨h.so,λit hit=>by obtain⟨a,b⟩:=h.it it hit;exact⟨by omega,b⟩⟩];simp)]
theorem TU(ks:List Kind)(l:List Int)(i:Nat):(cAt ks l i).1.Pairwise λa b=>a.kind<b.kind:=by
 induction i with
 |zero=>exact .nil
 |succ i ih=>
  by_cases hi:i<ks.length
  ·by_cases h2:Ak (cAt ks l i).2 3=2
   ·rw[Mz hi h2];exact ih
   ·rw[My hi h2]
    refine List.pairwise_append.2 ⟨ih,List.pairwise_singleton ..,λa ha b hb=>?_⟩;rw[List.mem_singleton.1 hb];obtain⟨j,hj,q,hji,rfl⟩:=QW ha;show(j:Int)<i
    omega
  ·rw[cAt,List.getElem?_eq_none (by omega)];exact ih
theorem P8{fs:List Field}(hf:∀f∈fs,Ap f=0)(hr:∀f∈fs,EY f)(l:List Int):∀i,i<=fs.length->List.zipWith BT (fs.take i) (vAt fs l i).1=(vAt fs l i).1/\(vAt fs l i).1.length=i
 |0,_=>⟨rfl,rfl⟩
 |i+1,h=>by
  obtain⟨h1,h2⟩:=P8 hf hr l i (by omega);rw[NJ (by omega)];have hm:=AU (l:=fs) (n:=i) (by omega);obtain⟨hb0,hb1,_,_⟩:=hr _ hm;have hp:=Lc (b:=fs[i].bits.toNat) (by omega);have hv:=Af (vAt fs l i).2 (n:=2^fs[i].bits.toNat) (by omega);have hh:D6 fs[i]=fs[i].low+(2^fs[i].bits.toNat-1):=by unfold D6;rw[if_pos (hf _ hm)]
  refine⟨?_,by rw[AK,h2];rfl⟩;rw[List.take_succ_eq_append_getElem (by omega),List.zipWith_append (by rw[h2,Aj];omega),h1];simp only[List.zipWith_cons_cons,List.zipWith_nil_left];rw[QH (hf _ hm) (by omega) (by rw[hh];omega)]
theorem Qj{k:Kind}(h1:Ba k=0)(hf:∀f∈k.fields,Ap f=0)(hr:∀f∈k.fields,EY f)(l:List Int):Bs k (vAt k.fields l k.fields.length).1=true:=by
 obtain⟨h2,h3⟩:=P8 hf hr l k.fields.length (Nat.le_refl _);rw[List.take_length]at h2;unfold Bs;rw[Hz h1 h3,h2];simp
structure KsGood(ks:List Kind):Prop where
 one:∀k∈ks,Ba k=0
 fld:∀k∈ks,∀f∈k.fields,Ap f=0
 rng:∀k∈ks,∀f∈k.fields,EY f
theorem G6(l:List Int):KsGood (Ao l).1:=
 ⟨It l,λk hk=>(I8 l k hk).1,λk hk=>((Fw l).2 k hk).2⟩
theorem G8{ks:List Kind}(h:KsGood ks)(l:List Int):BI ks (Cb ks l).1=true:=by
 unfold BI;rw[EU (by omega)];refine⟨TU _ _ _,λc hc=>?_⟩;obtain⟨j,hj,q,_,rfl⟩:=QW hc;have hm:=AU hj;exact⟨by show(-1:Int)<(j:Int);omega,by show(j:Int)<_;omega,ks[j],AH hj,Qj (h.one _ hm) (h.fld _ hm) (h.rng _ hm) q⟩
theorem SA(ks:List Kind)(l:List Int)(i:Nat):(wAt ks l i).2.1.Pairwise λa b=>a.ent.n<b.ent.n:=by
 induction i with
 |zero=>exact .nil
 |succ i ih=>
  rw[wAt];split
  ·exact ih
  ·refine List.pairwise_append.2 ⟨ih,List.pairwise_singleton ..,λa ha b hb=>?_⟩
   rw[List.mem_singleton.1 hb];obtain⟨j,q,hji,_,e,_⟩:=P7 ha;show a.ent.n<(i:Int)
   omega
theorem SB(ks:List Kind)(l:List Int)(i:Nat):∀g∈(wAt ks l i).1,0<=g/\g<3:=by
 induction i with
 |zero=>intro g hg;cases hg
 |succ i ih=>
  intro g hg;rw[wAt]at hg;have h3:=Af (wAt ks l i).2.2 (n:=3) (by decide);split at hg<;>
  ·rcases List.mem_append.1 hg with hg|hg
   ·exact ih g hg
   ·rw[List.mem_singleton.1 hg];exact h3
theorem N6(l:List Int):WdOK (C9 l):=by
 have h:=Af (Ao l).2 (n:=12) (by decide);have h1:=NH (Ao l).1 (Ad (Ao l).2 12) (Ak (Ao l).2 12).toNat;have h2:=JS (Ao l).1 (Ad (Ao l).2 12) (Ak (Ao l).2 12).toNat;have h3:=SB (Ao l).1 (Ad (Ao l).2 12) (Ak (Ao l).2 12).toNat;refine⟨KH l,?_,?_,λg hg=>?_,SA _ _ _,λit hit=>?_⟩
 ·exact Nat.le_trans (Nat.le_of_eq h2) (by omega)
 ·exact Nat.le_trans h1 (Nat.le_of_eq h2.symm)
 ·have:=h3 g hg;omega
 ·obtain⟨j,q,hji,hg,hn,hc⟩:=P7 hit
  have hjl:j<(wAt (Ao l).1 (Ad (Ao l).2 12) (Ak (Ao l).2 12).toNat).1.length:=(List.getElem?_eq_some_iff.1 hg).1;have hgm:=h3 _ (An hg);refine⟨by omega,?_,?_,by omega,by rw[hc];exact G8 (G6 l) q⟩
  ·rw[hn];show(j:Int)<((wAt _ _ _).1.length:Int);omega
  ·rw[hn];exact hg
section
section
variable {α:Type}{key:α->Int}{l a b:List α}
def KS(key:α->Int)(l:List α):Prop:=l.Pairwise λa b=>key a<key b
theorem Mh(h:KS key l){x y:α}(hx:x∈l)(hy:y∈l)(e:key x=key y):x=y:=by
 induction l with
 |nil=>cases hx
 |cons z l ih=>
  obtain⟨h1,h2⟩:=List.pairwise_cons.1 h;rcases List.mem_cons.1 hx with q|q<;>rcases List.mem_cons.1 hy with r|r
  ·rw[q,r]
  ·subst q;have:=h1 y r;omega
  ·subst r;have:=h1 x q;omega
  ·exact ih h2 q r
theorem Sm:∀{a b:List α},KS key a->KS key b->(∀x,x∈a↔x∈b)->a=b
 |[],[],_,_,_=>rfl
 |[],y::b,_,_,h=>absurd ((h y).2 (by simp)) (by simp)
 |x::a,[],_,_,h=>absurd ((h x).1 (by simp)) (by simp)
 |x::a,y::b,ha,hb,h=>by
  obtain⟨a1,a2⟩:=List.pairwise_cons.1 ha;obtain⟨b1,b2⟩:=List.pairwise_cons.1 hb
  have e:x=y:=by
   rcases List.mem_cons.1 ((h x).1 (by simp))with e|h1
   ·exact e
   ·rcases List.mem_cons.1 ((h y).2 (by simp))with e|h2
    ·exact e.symm
    ·have:=b1 x h1;have:=a1 y h2;omega
  subst e;rw[Sm a2 b2 λz=>?_];constructor
  ·intro hz
   rcases List.mem_cons.1 ((h z).1 (by simp[hz]))with e|h1
   ·have:=a1 z hz;rw[e]at this;omega
   ·exact h1
  ·intro hz
   rcases List.mem_cons.1 ((h z).2 (by simp[hz]))with e|h1
   ·have:=b1 z hz;rw[e]at this;omega
   ·exact h1
theorem JY{i:Nat}{y:α}(hi:l[i]?=some y):l=l.take i++y::l.drop (i+1):=by
 obtain⟨h,rfl⟩:=List.getElem?_eq_some_iff.1 hi;rw[<-By h,List.take_append_drop]
theorem J0{i:Nat}{y:α}(h:KS key l)(hi:l[i]?=some y):KS key (l.take i)/\KS key (l.drop (i+1))/\(∀x∈l.take i,key x<key y)/\(∀x∈l.drop (i+1),key y<key x)/\∀x,x∈l↔x∈l.take i\/x=y\/x∈l.drop (i+1):=by
 have e:=JY hi;have h':=h;rw[e]at h';obtain⟨h1,h2,h3⟩:=List.pairwise_append.1 h';obtain⟨h4,h5⟩:=List.pairwise_cons.1 h2;refine⟨h1,h5,λx hx=>h3 x hx y (by simp),h4,λx=>?_⟩
 conv=>lhs;rw[e]
 simp
theorem Sn{i:Nat}{y:α}(h:KS key l)(hi:l[i]?=some y):KS key (l.eraseIdx i)/\∀x,x∈l.eraseIdx i↔x∈l/\key x≠key y:=by
 obtain⟨h1,h2,h3,h4,h5⟩:=J0 h hi;refine⟨h.sublist (List.eraseIdx_sublist _ _),λx=>?_⟩;rw[List.eraseIdx_eq_take_drop_succ,CR,h5];constructor
 ·rintro(hx|hx)
  ·exact⟨.inl hx,by have:=h3 x hx;omega⟩
  ·exact⟨.inr (.inr hx),by have:=h4 x hx;omega⟩
 ·rintro⟨hx|rfl|hx,hn⟩
  ·exact .inl hx
  ·exact absurd rfl hn
  ·exact .inr hx
theorem Sk{i:Nat}{y z:α}(h:KS key l)(hi:l[i]?=some y)(hk:key z=key y):KS key (l.set i z)/\∀x,x∈l.set i z↔x=z\/(x∈l/\key x≠key z):=by
 obtain⟨h1,h2,h3,h4,h5⟩:=J0 h hi;obtain⟨hl,_⟩:=List.getElem?_eq_some_iff.1 hi;have e:l.set i z=l.take i++z::l.drop (i+1):=List.set_eq_take_append_cons_drop.trans (if_pos hl);rw[e];refine⟨List.pairwise_append.2 ⟨h1,List.pairwise_cons.2 ⟨λx hx=>by have:=h4 x hx;omega,h2⟩,λx hx w hw=>?_⟩,λx=>?_⟩
 ·rcases List.mem_cons.1 hw with rfl|hw
  ·have:=h3 x hx;omega
  ·have:=h3 x hx;have:=h4 w hw;omega
 ·rw[h5,CR,BN]
  constructor
  ·rintro(hx|rfl|hx)
   ·exact .inr ⟨.inl hx,by have:=h3 x hx;omega⟩
   ·exact .inl rfl
   ·exact .inr ⟨.inr (.inr hx),by have:=h4 x hx;omega⟩
  ·rintro(rfl|⟨hx|rfl|hx,hn⟩)
   ·exact .inr (.inl rfl)
   ·exact .inl hx
   ·exact absurd hk.symm hn
   ·exact .inr (.inr hx)
theorem UW(h:KS key l){n:Int}{x:α}:(l.find? λy=>decide (key y=n))=some x↔x∈l/\key x=n:=by
 constructor
 ·intro e
  exact⟨List.mem_of_find?_eq_some e,by simpa using List.find?_some e⟩
 ·rintro⟨hx,e⟩
  cases hf:l.find? λy=>decide (key y=n)with
  |none=>rw[List.find?_eq_none]at hf;exact absurd (by simpa using e) (hf x hx)
  |some z=>rw[Mh h hx (List.mem_of_find?_eq_some hf) (by have:=List.find?_some hf;simp at this;omega)]
end
theorem held_iff{ks:List Kind}{l:List Comp}:BI ks l=true↔Ci l/\∀c∈l,0<=c.kind/\c.kind<ks.length/\∃k,ks[c.kind.toNat]?=some k/\Bs k c.vals=true:=by
 unfold BI;rw[EU (by omega)];constructor
 ·rintro⟨h1,h2⟩
  exact⟨h1,λc hc=>⟨by have:=(h2 c hc).1;omega,(h2 c hc).2⟩⟩
 ·rintro⟨h1,h2⟩
  exact⟨h1,λc hc=>⟨by have:=(h2 c hc).1;omega,(h2 c hc).2⟩⟩
theorem Ht{c:Comp}:∀{l:List Comp},Ci l->∀d,d∈Fa l c↔d=c\/(d∈l/\d.kind≠c.kind)
 |[],_,d=>by simp[Fa]
 |x::l,h,d=>by
  obtain⟨h1,h2⟩:=List.pairwise_cons.1 h;rw[Fa];split
  ·rename_i hx
   rw[BN,Ht h2,BN];constructor
   ·rintro(rfl|rfl|⟨hd,hn⟩)
    ·exact .inr ⟨.inl rfl,by omega⟩
    ·exact .inl rfl
    ·exact .inr ⟨.inr hd,hn⟩
   ·rintro(rfl|⟨rfl|hd,hn⟩)
    ·exact .inr (.inl rfl)
    ·exact .inl rfl
    ·exact .inr (.inr ⟨hd,hn⟩)
  ·split
   ·rename_i hx
    rw[BN,BN];constructor
    ·rintro(rfl|hd)
     ·exact .inl rfl
     ·exact .inr ⟨.inr hd,by have:=h1 d hd;omega⟩
    ·rintro(rfl|⟨rfl|hd,hn⟩)
     ·exact .inl rfl
     ·exact absurd hx hn
     ·exact .inr hd
   ·rw[BN,BN]
    constructor
    ·rintro(rfl|rfl|hd)
     ·exact .inl rfl
     ·exact .inr ⟨.inl rfl,by omega⟩
     ·exact .inr ⟨.inr hd,by have:=h1 d hd;omega⟩
    ·rintro(rfl|⟨hd,hn⟩)
     ·exact .inl rfl
     ·exact .inr hd
theorem IR{c:Comp}:∀{l:List Comp},Ci l->Ci (Fa l c)
 |[],_=>List.pairwise_singleton ..
 |x::l,h=>by
  obtain⟨h1,h2⟩:=List.pairwise_cons.1 h;rw[Fa];split
  ·rename_i hx
   refine List.pairwise_cons.2 ⟨λd hd=>?_,IR h2⟩;rcases(Ht h2 d).1 hd with rfl|⟨hd,_⟩
   ·exact hx
   ·exact h1 d hd
  ·split
   ·rename_i hx
    exact List.pairwise_cons.2 ⟨λd hd=>by have:=h1 d hd;omega,h2⟩
   ·refine List.pairwise_cons.2 ⟨λd hd=>?_,h⟩
    rcases List.mem_cons.1 hd with rfl|hd
    ·omega
    ·have:=h1 d hd;omega
theorem Rh{l:List Comp}{k:Int}(d:Comp):d∈Fd l k↔d∈l/\d.kind≠k:=by
 unfold Fd;rw[List.mem_filter];simp
theorem Pd{l:List Comp}{k:Int}(h:Ci l):Ci (Fd l k):=List.Pairwise.filter _ h
theorem Qx{a b:List Comp}(ha:Ci a)(hb:Ci b)(h:∀x,x∈a↔x∈b):a=b:=Sm (key:=Comp.kind) ha hb h
theorem D9{l:List Comp}(h:Ci l){k:Int}{c:Comp}:Bp l k=some c↔c∈l/\c.kind=k:=UW (key:=Comp.kind) h
theorem S3{ks:List Kind}{l:List Comp}{c:Comp}(h:BI ks l=true)(h1:0<=c.kind)(h2:c.kind<ks.length){k:Kind}(h3:ks[c.kind.toNat]?=some k)(h4:Bs k c.vals=true):BI ks (Fa l c)=true:=by
 obtain⟨hs,hm⟩:=held_iff.1 h;refine held_iff.2 ⟨IR hs,λd hd=>?_⟩;rcases(Ht hs d).1 hd with rfl|⟨hd,_⟩
 ·exact⟨h1,h2,k,h3,h4⟩
 ·exact hm d hd
theorem Lu{ks:List Kind}{l:List Comp}{k:Int}(h:BI ks l=true):BI ks (Fd l k)=true:=by
 obtain⟨hs,hm⟩:=held_iff.1 h;exact held_iff.2 ⟨Pd hs,λd hd=>hm d ((Rh d).1 hd).1⟩
theorem Mi{pre ks:List Kind}(h:Bw pre ks=0):∀k∈ks,Ba k=0:=by
 induction ks generalizing pre with
 |nil=>intro k hk;cases hk
 |cons x l ih=>
  intro k hk;simp only[Bw]at h;split at h
  ·exact absurd h ‹_›
  ·rename_i hx
   split at h
   ·cases h
   ·rcases List.mem_cons.1 hk with rfl|hk
    ·simpa using hx
    ·exact ih h k hk
theorem Bk{ks:List Kind}(h:Az ks=0):ks.length<=16/\∀k∈ks,Ba k=0:=by
 unfold Az at h;split at h
 ·cases h
 ·exact⟨by omega,Mi h⟩
def HU(ks:List Kind)(c:Comp):Comp:=match ks[c.kind.toNat]? with
 |some k=>⟨c.kind,(BZ k c.vals).1⟩
 |none=>c
theorem IX(ks:List Kind)(c:Comp):(HU ks c).kind=c.kind:=by unfold HU;split<;>rfl
def IB(ks:List Kind)(c:Comp):Prop:=0<=c.kind/\c.kind<ks.length/\∃k,ks[c.kind.toNat]?=some k/\(BZ k c.vals).2=0
theorem Ms{ks:List Kind}{c:Comp}{k:Kind}(h:ks[c.kind.toNat]?=some k):HU ks c=⟨c.kind,(BZ k c.vals).1⟩:=by
 unfold HU;rw[h]
theorem KN{ks:List Kind}:∀{l pre out:List Comp},(∀c∈l,IB ks c)->l.Pairwise (λa b=>a.kind≠b.kind)->(∀a∈pre,∀b∈l,a.kind≠b.kind)->Cm ks pre out l=(out++l.map (HU ks),0)
 |[],pre,out,_,_,_=>by simp[Cm]
 |c::l,pre,out,h1,h2,h3=>by
  obtain⟨a,b,k,hk,hf⟩:=h1 c (by simp);obtain⟨h4,h5⟩:=List.pairwise_cons.1 h2
  have hany:pre.any (λo=>decide (o.kind=c.kind))=false:=by
   rw[List.any_eq_false];intro x hx;simpa using h3 x hx c (by simp)
  rw[Cm,if_neg (by omega),hany,if_neg (by simp),hk];dsimp only;rw[if_neg (by simp[hf]),KN (λd hd=>h1 d (by simp[hd])) h5 (λx hx d hd=>?_),List.map_cons,Ms hk]
  ·simp
  ·rcases List.mem_append.1 hx with hx|hx
   ·exact h3 x hx d (by simp[hd])
   ·rw[List.mem_singleton.1 hx];exact h4 d hd
theorem LP{ks:List Kind}(hk:Az ks=0){l:List Comp}(h1:∀c∈l,IB ks c)(h2:l.Pairwise (λa b=>a.kind≠b.kind)):CH ks l=(GF (l.map (HU ks)),0):=by
 unfold CH;rw[if_neg (by simp[hk]),KN h1 h2 (λ_ h=>by cases h),if_neg (by simp)];rfl
theorem J3{l:List Comp}(h:Ci l):GF l=l:=
 (J2 (h.imp λh=>by omega) (List.Perm.refl _) (h.imp λh=>by omega)).symm
theorem Dh{k:Kind}{v:List Int}(h:Bs k v=true):BZ k v=(v,0):=by
 unfold Bs at h;simp only[Bool.and_eq_true,AE]at h;exact Prod.ext h.2 h.1
theorem Di{k:Kind}{v:List Int}(h:(BZ k v).2=0):Bs k (BZ k v).1=true/\(BZ k v).1=List.zipWith BT k.fields v/\v.length=k.fields.length:=by
 unfold BZ at h⊢;split at h
 ·exact absurd h ‹_›
 ·rename_i h1
  have h1:Ba k=0:=by simpa using h1
  split at h
  ·cases h
  ·rename_i h2
   have h2:v.length=k.fields.length:=by simpa using h2
   rw[if_neg (by simp[h1]),if_neg (by simp[h2])];refine⟨?_,rfl,h2⟩;unfold Bs;rw[Hz h1 (by simp[h2]),Q8 (C6 h1).2.2];simp
theorem TB{ks:List Kind}{l:List Comp}(h:BI ks l=true):(∀c∈l,IB ks c)/\l.Pairwise (λa b=>a.kind≠b.kind)/\l.map (HU ks)=l:=by
 obtain⟨hs,hm⟩:=held_iff.1 h;refine⟨λc hc=>?_,hs.imp λh=>by omega,?_⟩
 ·obtain⟨a,b,k,hk,hh⟩:=hm c hc
  exact⟨a,b,k,hk,by rw[Dh hh]⟩
 ·conv=>rhs;rw[<-List.map_id l]
  refine List.map_congr_left λc hc=>?_
  obtain⟨a,b,k,hk,hh⟩:=hm c hc;rw[Ms hk,Dh hh];rfl
theorem IE{ks:List Kind}(hk:Az ks=0){l:List Comp}(h:BI ks l=true):CH ks l=(l,0):=by
 obtain⟨h1,h2,h3⟩:=TB h;rw[LP hk h1 h2,h3,J3 (held_iff.1 h).1]
theorem JR{ks:List Kind}(hk:Az ks=0){c:Comp}(h:IB ks c):CH ks [c]=([HU ks c],0):=by
 rw[LP hk (λd hd=>by rw[List.mem_singleton.1 hd];exact h) (List.pairwise_singleton ..)];show(GF [HU ks c],(0:Int))=_
 rw[J3 (List.pairwise_singleton ..)]
theorem PY{ks:List Kind}{c:Comp}(h:IB ks c):∃k,ks[(HU ks c).kind.toNat]?=some k/\Bs k (HU ks c).vals=true:=by
 obtain⟨_,_,k,hk,hf⟩:=h;refine⟨k,by rw[IX];exact hk,?_⟩;rw[Ms hk];exact(Di hf).1
def Qa(l:List Item):Prop:=KS (λit=>it.ent.n) l
theorem H0{l:List Item}(h:Qa l){i:Nat}{it:Item}(hi:l[i]?=some it):CW l it.ent=i:=by
 by_cases hn:CW l it.ent<0
 ·have:=KP hn
  rw[List.find?_eq_none]at this;exact absurd (by simp) (this it (An hi))
 ·obtain⟨n,hn⟩:∃n:Nat,CW l it.ent=n:=⟨(CW l it.ent).toNat,by omega⟩
  obtain⟨x,hx,_,e⟩:=Fy hn;rw[hn];have e2:=Mh h (An hx) (An hi) (by rw[e]);subst e2;obtain⟨a,ha⟩:=List.getElem?_eq_some_iff.1 hx;obtain⟨b,hb⟩:=List.getElem?_eq_some_iff.1 hi;have hp:=List.pairwise_iff_getElem.1 h;rcases Nat.lt_trichotomy n i with q|q|q
  ·have:=hp n i a b q;rw[ha,hb]at this;omega
  ·rw[q]
  ·have:=hp i n b a q;rw[ha,hb]at this;omega
theorem HI{w:Wd}{i:Nat}{it:Item}(hi:w.items[i]?=some it)(cs:List Comp):DT w i cs=⟨w.kinds,w.gens,w.items.set i ⟨it.ent,cs⟩⟩:=by
 unfold DT;rw[hi]
theorem HH{w:Wd}(h:WdOK w){i:Nat}{it:Item}(hi:w.items[i]?=some it){cs:List Comp}(hc:BI w.kinds cs=true):WdOK (DT w i cs):=by
 rw[HI hi];obtain⟨h1,h2⟩:=Sk (key:=λit:Item=>it.ent.n) h.so hi (z:=⟨it.ent,cs⟩) rfl;refine⟨h.ks,h.gl,by simpa using h.il,h.gs,h1,λx hx=>?_⟩;rcases(h2 x).1 hx with rfl|⟨hx,_⟩
 ·obtain⟨a,b,c,d,e⟩:=h.it it (An hi)
  exact⟨a,b,c,d,hc⟩
 ·exact h.it x hx
theorem SP{w:Wd}(h:WdOK w){i:Nat}{it:Item}(hi:w.items[i]?=some it){c:Comp}(hc:IB w.kinds c):DM w it.ent c=(DT w i (Fa it.comps (HU w.kinds c)),0):=by
 unfold DM;have hf:=H0 h.so hi;rw[if_neg (by simp[(BR w).2 h]),hf,if_neg (by omega),JR h.ks hc,if_neg (by simp),Int.toNat_natCast,hi]
theorem SO{w:Wd}(h:WdOK w){i:Nat}{it:Item}(hi:w.items[i]?=some it){c:Comp}(hc:IB w.kinds c):WdOK (DT w i (Fa it.comps (HU w.kinds c))):=by
 obtain⟨k,hk,hh⟩:=PY hc;have hit:=h.it it (An hi);have hcc:=hc;obtain⟨a,b,_⟩:=hcc;exact HH h hi (S3 hit.2.2.2.2 (by rw[IX];exact a) (by rw[IX];exact b) hk hh)
theorem L3{w:Wd}(h:WdOK w){i:Nat}{it:Item}(hi:w.items[i]?=some it)(k:Int):Es w it.ent k=if(Bp it.comps k).isSome then(DT w i (Fd it.comps k),0)else(⟨[],[],[]⟩,4):=by
 unfold Es;have hf:=H0 h.so hi;rw[if_neg (by simp[(BR w).2 h]),hf,if_neg (by omega),Int.toNat_natCast,hi]
theorem SE{l:List Item}{n:Int}(h:GK l n=false):∀x∈l,x.ent.n≠n:=by
 unfold GK at h;rw[List.any_eq_false]at h;intro x hx;simpa using h x hx
theorem HT{w:Wd}(hw:WdOK w)(h:(Bf w).2=true):(Bf w).1<=w.gens.length/\(∀x∈w.items,x.ent.n≠((Bf w).1:Nat))/\(Bf w).1<256/\∀g,w.gens[(Bf w).1]?=some g->g<1073741824:=by
 have hg:=hw.gl;unfold Bf at h⊢;split at h
 ·rename_i n hn
  unfold Lv at hn;rw[List.find?_eq_some_iff_getElem]at hn;obtain⟨h1,i,h2,h3,h4⟩:=hn;simp only[List.getElem_range]at h3;subst h3;rw[List.length_range]at h2;simp only[Bool.and_eq_true,Bool.not_eq_true',AE]at h1;refine⟨by dsimp only;omega,SE h1.1,by dsimp only;omega,λg hgg=>?_⟩;dsimp only at hgg;have:=h1.2;rw[CD,hgg]at this;exact this
 ·have h:w.gens.length<256:=by dsimp only at h;rw[AE]at h;omega
  refine⟨Nat.le_refl _,λx hx=>?_,h,λg hgg=>?_⟩
  ·have:=(hw.it x hx).2.1
   dsimp only;omega
  ·rw[List.getElem?_eq_none (Nat.le_refl _)]at hgg;cases hgg
theorem J8{it:Item}:∀{l:List Item} (x:Item),x∈IQ l it↔x=it\/x∈l
 |[],x=>by simp[IQ]
 |y::l,x=>by
  rw[IQ];split
  ·rw[BN,J8,BN]
   constructor
   ·rintro(h|h|h)
    ·exact .inr (.inl h)
    ·exact .inl h
    ·exact .inr (.inr h)
   ·rintro(h|h|h)
    ·exact .inr (.inl h)
    ·exact .inl h
    ·exact .inr (.inr h)
  ·rw[BN]
theorem Lq{it:Item}:∀{l:List Item},Qa l->(∀x∈l,x.ent.n≠it.ent.n)->Qa (IQ l it)
 |[],_,_=>List.pairwise_singleton ..
 |y::l,h,hn=>by
  obtain⟨h1,h2⟩:=List.pairwise_cons.1 h;rw[IQ];split
  ·rename_i hy
   refine List.pairwise_cons.2 ⟨λx hx=>?_,Lq h2 λx hx=>hn x (by simp[hx])⟩;rcases(J8 x).1 hx with rfl|hx
   ·exact hy
   ·exact h1 x hx
  ·rename_i hy
   have:=hn y (by simp);refine List.pairwise_cons.2 ⟨λx hx=>?_,h⟩;show it.ent.n<x.ent.n
   rcases List.mem_cons.1 hx with rfl|hx
   ·omega
   ·have:y.ent.n<x.ent.n:=h1 x hx
    omega
theorem S7{gens:List Int}{n:Nat}(h:n<=gens.length):n<(Ch gens n).length/\(Ch gens n)[n]?=some ((Ch gens n).getD n 0)/\gens.length<=(Ch gens n).length/\(∀j,j<gens.length->(Ch gens n)[j]?=gens[j]?)/\(∀g∈Ch gens n,g∈gens\/g=0)/\(Ch gens n).length<=max gens.length (n+1):=by
 unfold Ch;split
 ·rename_i e
  subst e;refine⟨by simp,by simp[CD],by simp,λj hj=>List.getElem?_append_left hj,λg hg=>?_,by simp⟩;rcases List.mem_append.1 hg with h|h
  ·exact .inl h
  ·exact .inr (List.mem_singleton.1 h)
 ·refine⟨by omega,?_,Nat.le_refl _,λ_ _=>rfl,λg hg=>.inl hg,by omega⟩
  rw[CD,AH (by omega)];rfl
theorem Ou{w:Wd}(h:WdOK w)(hf:(Bf w).2=true){l:List Comp}{cs:List Comp}(hl:CH w.kinds l=(cs,0)):
  DG w l=(⟨w.kinds,Ch w.gens (Bf w).1,IQ w.items ⟨⟨(Bf w).1,(Ch w.gens (Bf w).1).getD (Bf w).1 0⟩,cs⟩⟩,⟨(Bf w).1,(Ch w.gens (Bf w).1).getD (Bf w).1 0⟩,0):=by
 unfold DG;rw[if_neg (by simp[(BR w).2 h]),hl,if_neg (by simp),if_neg (by simp[hf])]
theorem JZ{w:Wd}(h:WdOK w)(hf:(Bf w).2=true){cs:List Comp}(hc:BI w.kinds cs=true):
  WdOK ⟨w.kinds,Ch w.gens (Bf w).1,IQ w.items ⟨⟨(Bf w).1,(Ch w.gens (Bf w).1).getD (Bf w).1 0⟩,cs⟩⟩:=by
 obtain⟨f1,f2,f3,f4⟩:=HT h hf;obtain⟨n,hn⟩:∃n,(Bf w).1=n:=⟨_,rfl⟩;rw[hn]at f1 f2 f3 f4⊢;obtain⟨g1,g2,g3,g4,g5,g6⟩:=S7 f1
 have hgs:∀g∈Ch w.gens n,0<=g/\g<=1073741824:=λg hg=>by
  rcases g5 g hg with hg|rfl
  ·exact h.gs g hg
  ·omega
 have hso:Qa (IQ w.items ⟨⟨n,(Ch w.gens n).getD n 0⟩,cs⟩):=Lq h.so f2
 have hit:∀x∈IQ w.items ⟨⟨n,(Ch w.gens n).getD n 0⟩,cs⟩,0<=x.ent.n/\x.ent.n<(Ch w.gens n).length/\(Ch w.gens n)[x.ent.n.toNat]?=some x.ent.gen/\x.ent.gen≠1073741824/\BI w.kinds x.comps=true:=λx hx=>by
  rcases(J8 x).1 hx with rfl|hx
  ·refine⟨by dsimp only;omega,by dsimp only;omega,by dsimp only;rw[Int.toNat_natCast];exact g2,?_,hc⟩
   dsimp only;intro e;rw[e]at g2;by_cases hnl:n<w.gens.length
   ·rw[g4 n hnl]at g2
    have:=f4 _ g2;omega
   ·unfold Ch at e
    rw[if_pos (by omega),CD,show n=w.gens.length by omega]at e;simp at e
  ·obtain⟨a,b,c,d,e⟩:=h.it x hx
   exact⟨a,by omega,by rw[g4 _ (by omega)];exact c,d,e⟩
 refine⟨h.ks,?_,?_,hgs,hso,hit⟩
 ·have:=h.gl
  dsimp only;omega
 ·exact GP (λx:Item=>x.ent.n) _ _ (hso.imp λ{a b} h=>by have h:a.ent.n<b.ent.n:=h;show a.ent.n≠b.ent.n;omega) λx hx=>⟨(hit x hx).1,(hit x hx).2.1⟩
theorem Lp{w:Wd}(h:WdOK w){i:Nat}{it:Item}(hi:w.items[i]?=some it):D5 w it.ent=(⟨w.kinds,w.gens.set it.ent.n.toNat (w.gens.getD it.ent.n.toNat 0+1),w.items.eraseIdx i⟩,0):=by
 unfold D5;have hf:=H0 h.so hi;rw[if_neg (by simp[(BR w).2 h]),hf,if_neg (by omega),Int.toNat_natCast]
theorem QL{w:Wd}(h:WdOK w){i:Nat}{it:Item}(hi:w.items[i]?=some it):WdOK ⟨w.kinds,w.gens.set it.ent.n.toNat (w.gens.getD it.ent.n.toNat 0+1),w.items.eraseIdx i⟩:=by
 obtain⟨h1,h2⟩:=Sn (key:=λx:Item=>x.ent.n) h.so hi;obtain⟨a,b,c,d,e⟩:=h.it it (An hi);have hg:=h.gs it.ent.gen (An c);have hgd:w.gens.getD it.ent.n.toNat 0=it.ent.gen:=by rw[CD,c];rfl
 refine⟨h.ks,by simpa using h.gl,?_,λg hgm=>?_,h1,λx hx=>?_⟩
 ·have:=h.il
  have:=List.length_eraseIdx_le w.items i;simp only[List.length_set];omega
 ·rcases List.mem_or_eq_of_mem_set hgm with hgm|rfl
  ·exact h.gs g hgm
  ·rw[hgd];omega
 ·obtain⟨hx,hn⟩:=(h2 x).1 hx
  obtain⟨a',b',c',d',e'⟩:=h.it x hx;exact⟨a',by simpa using b',by rw[List.getElem?_set_ne (by omega)];exact c',d',e'⟩
theorem LO{ks:List Kind}{c:Comp}(h:(CH ks [c]).2=0):∃d,(CH ks [c]).1=[d]/\d.kind=c.kind/\0<=c.kind/\c.kind<ks.length:=by
 unfold CH at h⊢;split at h
 ·exact absurd h ‹_›
 ·rename_i h1
  rw[if_neg h1];split at h
  ·exact absurd h ‹_›
  ·rename_i h2
   rw[if_neg h2];have h2:(Cm ks [] [] [c]).2=0:=by simpa using h2
   rw[Cm]at h2⊢;split at h2
   ·cases h2
   ·rename_i g1
    rw[if_neg g1];rw[if_neg (by simp)]at h2⊢;split at h2
    ·cases h2
    ·rename_i k hk
     split at h2
     ·exact absurd h2 ‹_›
     ·rename_i g3
      (try simp only[hk])
      rw[if_neg g3,Cm];refine⟨⟨c.kind,(BZ k c.vals).1⟩,?_,rfl,by omega,by omega⟩;show GF [_]=_
      exact J3 (List.pairwise_singleton ..)
theorem Db{ks:List Kind}(hk:Az ks=0){l:List Comp}(h:BI ks l=true):l.length<=16/\∀c∈l,c.vals.length<=8:=by
 obtain⟨hs,hm⟩:=held_iff.1 h;obtain⟨h16,ho⟩:=Bk hk;refine⟨Nat.le_trans (GP Comp.kind _ _ (hs.imp λh=>by omega) λc hc=>⟨(hm c hc).1,(hm c hc).2.1⟩) h16,λc hc=>?_⟩;obtain⟨_,_,k,hk2,hh⟩:=hm c hc;have h8:=(C6 (ho k (An hk2))).2.1;have:=Di (k:=k) (v:=c.vals) (by rw[Dh hh]);omega
theorem WdOK.wl{w:Wd}(h:WdOK w):WdL w:=by
 obtain⟨h16,ho⟩:=Bk h.ks;refine⟨⟨by omega,λk hk=>by have:=(C6 (ho k hk)).2.1;omega⟩,by have:=h.gl;omega,by have:=h.gl;have:=h.il;omega,λit hit=>?_⟩;obtain⟨h1,h2⟩:=Db h.ks (h.it it hit).2.2.2.2;exact⟨by omega,λc hc=>by have:=h2 c hc;omega⟩
theorem Hu(l:List Int):0<(Ao l).1.length:=by
 have h:=Af l (n:=4) (by decide)
 have:∀i c q,(BH i c q).1.length=c:=by
  intro i c
  induction c generalizing i with
  |zero=>intro q;rfl
  |succ c ih=>intro q;simp only[BH,BU,ih]
 unfold Ao;rw[this];omega
theorem SF{α:Type}{p:α->Bool}:∀{l:List α} {i:Nat},i<=l.length->(∀(j:Nat) (x:α),j<i->l[j]?=some x->p x=true)->(∀x,l[i]?=some x->p x=false)->(l.takeWhile p).length=i
 |[],i,h,_,_=>by(have:i=0:=by simpa using h);(subst this;rfl)
 |x::l,0,_,_,h2=>by rw[List.takeWhile_cons,h2 x rfl];rfl
 |x::l,i+1,h,h1,h2=>by
  rw[List.takeWhile_cons,h1 0 x (by omega) rfl];show(l.takeWhile p).length+1=i+1
  rw[SF (i:=i) (by simpa using h) (λj y hj hy=>h1 (j+1) y (by omega) hy) (λy hy=>h2 y hy)]
theorem QR{d:Comp}:∀{l:List Comp},Ci l->Fa l d=if(Bp l d.kind).isSome then l.set (Ce l d.kind) d else l.take (Ce l d.kind)++d::l.drop (Ce l d.kind)
 |[],_=>rfl
 |x::l,h=>by
  obtain⟨h1,h2⟩:=List.pairwise_cons.1 h;have ih:=QR (d:=d) h2
  have ec:Bp (x::l) d.kind=if x.kind=d.kind then some x else Bp l d.kind:=by
   unfold Bp;rw[List.find?_cons];by_cases e:x.kind=d.kind<;>simp[e]
  have ea:Ce (x::l) d.kind=if x.kind<d.kind then Ce l d.kind+1 else 0:=by
   unfold Ce;rw[List.takeWhile_cons];by_cases e:x.kind<d.kind<;>simp[e]
  rw[Fa,ec,ea];by_cases e1:x.kind<d.kind
  ·have e3:¬x.kind=d.kind:=by omega
   rw[if_pos e1,if_pos e1,if_neg e3,ih];split<;>simp
  ·rw[if_neg e1,if_neg e1]
   by_cases e2:x.kind=d.kind
   ·rw[if_pos e2,if_pos e2];rfl
   ·rw[if_neg e2,if_neg e2,Ib (λc hc=>by have:=h1 c hc;omega)];rfl
theorem OF{k:Int}:∀{l:List Comp},Ci l->(Bp l k).isSome=true->Fd l k=l.eraseIdx (Ce l k)
 |[],_,hn=>by cases hn
 |x::l,h,hn=>by
  obtain⟨h1,h2⟩:=List.pairwise_cons.1 h
  have ec:Bp (x::l) k=if x.kind=k then some x else Bp l k:=by
   unfold Bp;rw[List.find?_cons];by_cases e:x.kind=k<;>simp[e]
  have ea:Ce (x::l) k=if x.kind<k then Ce l k+1 else 0:=by
   unfold Ce;rw[List.takeWhile_cons];by_cases e:x.kind<k<;>simp[e]
  have ed:Fd (x::l) k=if x.kind=k then Fd l k else x::Fd l k:=by
   unfold Fd;rw[List.filter_cons];by_cases e:x.kind=k<;>simp[e]
  rw[ec]at hn;rw[ea,ed];by_cases e2:x.kind=k
  ·have e3:¬x.kind<k:=by omega
   rw[if_pos e2,if_neg e3];show Fd l k=l
   unfold Fd;rw[List.filter_eq_self];intro c hc;have:=h1 c hc;simp;omega
  ·rw[if_neg e2]at hn
   by_cases e1:x.kind<k
   ·rw[if_neg e2,if_pos e1,OF h2 hn];rfl
   ·rw[Ib (λc hc=>by have:=h1 c hc;omega)]at hn;cases hn
end
def EC(n:Nat):List UInt8:=match n with
 |0=>[111,110,101]
 |1=>[116,119,111]
 |2=>[116,104,114,101,101]
 |3=>[102,111,117,114]
 |4=>[102,105,118,101]
 |_=>[115,105,120]
def LD(ks:List Kind)(i:Int):Int:=match ks[i.toNat]? with
 |some k=>k.fields.length
 |none=>0
def E9(ks:List Kind)(seen:List Int)(l:List Int):Arg×List Int:=
 if Ak l 2=0 then(⟨false,Ak (Ad l 2) 20-6,⟨0,0⟩⟩,Ad (Ad l 2) 20)
 else(⟨true,0,⟨seen.getD (Ak (Ad l 2) seen.length).toNat 0,Ak (Ad (Ad l 2) seen.length) (LD ks (seen.getD (Ak (Ad l 2) seen.length).toNat 0))⟩⟩,
  Ad (Ad (Ad l 2) seen.length) (LD ks (seen.getD (Ak (Ad l 2) seen.length).toNat 0)))
def H9(ks:List Kind)(r:Ref):Prop:=0<=r.kind/\r.kind<ks.length/\0<=r.field/\r.field<LD ks r.kind
def MJ(ks:List Kind)(seen:List Int)(a:Arg):Prop:=(a.has=true->a.n=0/\H9 ks a.ref/\a.ref.kind∈seen)/\(a.has=false-> -6<=a.n/\a.n<=13/\a.ref=⟨0,0⟩)
def Fh:Arg:=⟨false,0,⟨0,0⟩⟩
def C2(d:Int):Bool:=(decide (1<=d)&&decide (d<=6))||decide (d=12)
structure OpOK(ks:List Kind)(reads writes:List Int)(o:Op):Prop where
 lo:0<=o.act
 hi:o.act<=12
 a:MJ ks (reads++writes) o.a
 b:if C2 o.act then MJ ks (reads++writes) o.b else o.b=Fh
 sets:o.act<=7->H9 ks o.to/\o.to.kind∈writes
 puts:o.act=8\/o.act=9->0<=o.to.kind/\o.to.kind<ks.length/\o.to.field=0
 none:10<=o.act->o.to=⟨0,0⟩
structure SysL(w1 w2 w3 w4:List Int)(n:Int):Prop where
 o1:w1.Pairwise (· < ·)
 o2:w2.Pairwise (· < ·)
 o3:w3.Pairwise (· < ·)
 o4:w4.Pairwise (· < ·)
 r1:∀x∈w1,0<=x/\x<n
 r2:∀x∈w2,0<=x/\x<n
 d:∀x∈w1,x∉w2
 s3:∀x∈w3,x∈w1
 s4:∀x∈w4,x∈w1
 all:∀x∈w1,x∈w3\/x∈w4
structure SysOK(ks:List Kind)(n:Nat)(s:Sys):Prop where
 name:s.name=EC n
 lists:SysL s.wth s.wout s.reads s.writes ks.length
 some:s.wth≠[]
 len:s.ops.length<=5
 ops:∀o∈s.ops,OpOK ks s.reads s.writes o
 spawn:s.spawn=[]\/∃q,s.spawn=(Cb ks q).1
theorem SysL.nil(n:Int):SysL [] [] [] [] n:=⟨.nil,.nil,.nil,.nil,by simp,by simp,by simp,by simp,by simp,by simp⟩
theorem SysL.weaken{w1 w2 w3 w4:List Int}{n m:Int}(h:SysL w1 w2 w3 w4 n)(hm:n<=m):SysL w1 w2 w3 w4 m:=
 ⟨h.o1,h.o2,h.o3,h.o4,λx hx=>⟨(h.r1 x hx).1,by have:=(h.r1 x hx).2;omega⟩,λx hx=>⟨(h.r2 x hx).1,by have:=(h.r2 x hx).2;omega⟩,h.d,h.s3,h.s4,h.all⟩
theorem Hm{l:List Int}{n:Int}(h:l.Pairwise (· < ·))(hn:∀x∈l,x<n):(l++[n]).Pairwise (· < ·):=
 List.pairwise_append.2 ⟨h,List.pairwise_singleton _ _,λx hx y hy=>by rw[List.mem_singleton.1 hy];exact hn x hx⟩
theorem SysL.read{w1 w2 w3 w4:List Int}{n:Int}(h:SysL w1 w2 w3 w4 n)(h0:0<=n):SysL (w1++[n]) w2 (w3++[n]) w4 (n+1):=by
 refine⟨Hm h.o1 λx hx=>(h.r1 x hx).2,h.o2,Hm h.o3 λx hx=>(h.r1 x (h.s3 x hx)).2,h.o4,?_,λx hx=>⟨(h.r2 x hx).1,by have:=(h.r2 x hx).2;omega⟩,?_,?_,?_,?_⟩
 ·intro x hx
  rcases List.mem_append.1 hx with hx|hx
  ·have:=h.r1 x hx;omega
  ·rw[List.mem_singleton.1 hx];omega
 ·intro x hx hx2
  rcases List.mem_append.1 hx with hx|hx
  ·exact h.d x hx hx2
  ·have:=h.r2 x hx2;rw[List.mem_singleton.1 hx]at this;omega
 ·intro x hx
  rcases List.mem_append.1 hx with hx|hx
  ·simp[h.s3 x hx]
  ·simp[List.mem_singleton.1 hx]
 ·intro x hx;simp[h.s4 x hx]
 ·intro x hx
  rcases List.mem_append.1 hx with hx|hx
  ·rcases h.all x hx with h|h<;>simp[h]
  ·simp[List.mem_singleton.1 hx]
theorem SysL.write{w1 w2 w3 w4:List Int}{n:Int}(h:SysL w1 w2 w3 w4 n)(h0:0<=n):SysL (w1++[n]) w2 w3 (w4++[n]) (n+1):=by
 refine⟨Hm h.o1 λx hx=>(h.r1 x hx).2,h.o2,h.o3,Hm h.o4 λx hx=>(h.r1 x (h.s4 x hx)).2,?_,λx hx=>⟨(h.r2 x hx).1,by have:=(h.r2 x hx).2;omega⟩,?_,?_,?_,?_⟩
 ·intro x hx
  rcases List.mem_append.1 hx with hx|hx
  ·have:=h.r1 x hx;omega
  ·rw[List.mem_singleton.1 hx];omega
 ·intro x hx hx2
  rcases List.mem_append.1 hx with hx|hx
  ·exact h.d x hx hx2
  ·have:=h.r2 x hx2;rw[List.mem_singleton.1 hx]at this;omega
 ·intro x hx;simp[h.s3 x hx]
 ·intro x hx
  rcases List.mem_append.1 hx with hx|hx
  ·simp[h.s4 x hx]
  ·simp[List.mem_singleton.1 hx]
 ·intro x hx
  rcases List.mem_append.1 hx with hx|hx
  ·rcases h.all x hx with h|h<;>simp[h]
  ·simp[List.mem_singleton.1 hx]
theorem SysL.without{w1 w2 w3 w4:List Int}{n:Int}(h:SysL w1 w2 w3 w4 n)(h0:0<=n):SysL w1 (w2++[n]) w3 w4 (n+1):=by
 refine⟨h.o1,Hm h.o2 λx hx=>(h.r2 x hx).2,h.o3,h.o4,λx hx=>⟨(h.r1 x hx).1,by have:=(h.r1 x hx).2;omega⟩,?_,?_,h.s3,h.s4,h.all⟩
 ·intro x hx
  rcases List.mem_append.1 hx with hx|hx
  ·have:=h.r2 x hx;omega
  ·rw[List.mem_singleton.1 hx];omega
 ·intro x hx hx2
  rcases List.mem_append.1 hx2 with hx2|hx2
  ·exact h.d x hx hx2
  ·have:=h.r1 x hx;rw[List.mem_singleton.1 hx2]at this;omega
theorem SysL.zero{w2 w3 w4:List Int}{n:Int}(h:SysL [] w2 w3 w4 n)(h0:1<=n):SysL [0] (w2.filter λx=>!decide (x=0)) w3 [0] n:=by
 refine⟨List.pairwise_singleton _ _,h.o2.sublist List.filter_sublist,h.o3,List.pairwise_singleton _ _,by simp;omega,λx hx=>h.r2 x (List.mem_filter.1 hx).1,by simp,?_,by simp,by simp⟩;intro x hx;exact absurd (h.s3 x hx) (by simp)
def Cw{α:Type}(f:α->AV)(z:AV)(l:List α)(i:Nat):List AV:=(l.take i).map f++List.replicate (l.length-i) z
theorem E6{α:Type}(f:α->AV)(z:AV)(l:List α):Cw f z l 0=List.replicate l.length z:=by simp[Cw]
theorem KQ{α:Type}(f:α->AV)(z:AV)(l:List α)(i:Nat)(h:i<=l.length):(Cw f z l i).length=l.length:=by simp[Cw];omega
theorem Gn{α:Type}(f:α->AV)(z:AV)(l:List α){i:Nat}(h:i<l.length):(Cw f z l i)[i]?=some z:=by
 unfold Cw;rw[List.getElem?_append_right (by simp;omega)];simp only[AB,Aj,Nat.min_eq_left (Nat.le_of_lt h),Nat.sub_self];rw[List.getElem?_replicate,if_pos (by omega)]
theorem Fz{α:Type}(f:α->AV)(z:AV)(l:List α){i:Nat}(h:i<l.length):(Cw f z l i).set i (f l[i])=Cw f z l (i+1):=by
 unfold Cw;rw[List.set_append_right _ _ (by simp;omega),List.take_add_one,AH h];simp only[AB,Aj,Nat.min_eq_left (Nat.le_of_lt h),Nat.sub_self,Option.toList_some,List.map_append,List.map_cons,List.map_nil,AN]
 congr 1
 rw[show l.length-i=(l.length-(i+1))+1 from by omega,List.replicate_succ];rfl
theorem F4{α:Type}(f:α->AV)(z:AV)(l:List α){i:Nat}(h:l.length<=i):Cw f z l i=l.map f:=by
 unfold Cw;rw[List.take_of_length_le h,show l.length-i=0 from by omega];simp
theorem Ds(l:List Comp)(hl:l.length<=1099511627776)(hv:∀c∈l,c.vals.length<=1099511627776):PS Tryz.prog 51 [Au false false l] (Au true false l):=by
 refine Sp (nt:=27) (res:=[.tmp 2]) Tryz.func51 λSf=>?_
 have hl':(l.map (AG false)).length<=1099511627776:=by simpa using hl
 (iterate 8 refine WK ?_);refine DC ?_;refine Ev (.agg [iA 0,.prim (.slice none 0 0)]) λK=>?_;refine KK ?_
 refine A9 (λi:Nat=>⟨[(3,.sl K 0 (l.map (AG false)).length),(9,Au false false l),(10,iA (l.map (AG false)).length),(11,iA i)],(K,.row 85 2 (Cw (AG false) (.agg [iA 0,.prim (.slice none 0 0)]) l i))::Sf⟩) (λi=>i<=l.length) (λi=>l.length-i) 0 (Nat.zero_le _) ?_ ⟨by(repeat (first|exact .nil|refine .cons (by first|rfl|assumption) ?_)),by rw[E6,<-AB (f:=AG false)];exact Sub.f⟩;rintro i hi;refine KK ?_;refine AWP.cond rfl (λhc=>?_) (λhc=>?_)
 ·have h:i<l.length:=by simpa using hc
  have hm:i<(l.map (AG false)).length:=by simpa using h
  have hat:=Gn (AG false) (.agg [iA 0,.prim (.slice none 0 0)]) l h;refine KK ?_;refine Ai λX=>?_;refine KK ?_
  refine RU ?_;refine KR ?_;refine RGo.g_callf ?_;refine RGo.c1 (h:=(Ef _ (by have:=hv _ (AU h);omega))) (k:=?_);(iterate 3 refine RK ?_);refine RGo.nil (by kernel_rfl) ?_;refine KK ?_;have hs:=Fz (AG false) (.agg [iA 0,.prim (.slice none 0 0)]) l h;refine Sh (i+1) h ?_;dsimp only;rw[<-hs];exact Sub.f
 ·have h:l.length<=i:=by rw[AL,AB]at hc;omega
  rw[F4 _ _ _ h];refine KK ?_;refine RT ?_;exact⟨[.sl K 0 (l.map (AG false)).length],[.lst true 85 2 (l.map (AG false))],_,[],.cons (.tmp rfl) rfl .nil,.cons (.cell (.sl (p:=0) .here rfl)) .nil,by exact Sub.f,rfl,rfl⟩
def RD(x:UInt64):UInt64:=(x^^^(x>>>UInt64.ofNat 31))*7640891576956012809
def Vd(x:UInt64):UInt64:=(x^^^(x>>>UInt64.ofNat 27))*13503953896175478587
def Dp(x:UInt64):UInt64:=Vd (RD x)^^^(Vd (RD x)>>>UInt64.ofNat 30)
theorem IL(x:UInt64):PS Tryz.prog 142 [uA x] (uA (Dp x)):=by
 refine Sp (nt:=17) (res:=[.tmp 2]) Tryz.func142 λSf=>?_
 refine R1 ?_;refine RG ?_;refine WO ?_;refine WO ?_;refine AOps.gN ?_;refine AOps.p (Dd 31 (by omega) rfl rfl rfl) rfl ?_;refine AOps.gN ?_;refine AOps.p (HX rfl rfl) rfl ?_;refine AOps.gN ?_;refine AOps.p (Cy (b:=7640891576956012809) rfl rfl) rfl ?_;refine WO ?_;refine NL ?_;rw[show(x^^^(x>>>UInt64.ofNat 31))*7640891576956012809=RD x from rfl];refine RG ?_;refine WO ?_;refine WO ?_;refine AOps.gN ?_;refine AOps.p (Dd 27 (by omega) rfl rfl rfl) rfl ?_;refine AOps.gN ?_;refine AOps.p (HX rfl rfl) rfl ?_;refine AOps.gN ?_;refine AOps.p (Cy (b:=13503953896175478587) rfl rfl) rfl ?_;refine WO ?_;refine NL ?_;rw[show(RD x^^^(RD x>>>UInt64.ofNat 27))*13503953896175478587=Vd (RD x)from rfl];refine RG ?_;refine WO ?_;refine WO ?_;refine AOps.gN ?_;refine AOps.p (Dd 30 (by omega) rfl rfl rfl) rfl ?_;refine AOps.gN ?_;refine AOps.p (HX rfl rfl) rfl ?_;refine WO ?_;refine NL ?_;refine RT ?_;refine AI ?_;rfl
def Nv(a b:UInt64):UInt64:=Dp (Dp (a+5840696475078001361)*11170449401992604703+b)
theorem QO(a b:UInt64):PS Tryz.prog 192 [uA a,uA b] (uA (Nv a b)):=by
 have h1:=IL (a+5840696475078001361);have h2:=IL (Dp (a+5840696475078001361)*11170449401992604703+b);refine Sp (nt:=12) (res:=[.tmp 4]) Tryz.func192 λSf=>?_
 refine R1 ?_;refine RG ?_;refine WO ?_;refine AOps.gN ?_;refine AOps.p (Dt (b:=5840696475078001361) rfl rfl) rfl ?_;refine AOps.c1 (h:=h1) (k:=?_);refine AOps.gN ?_;refine AOps.p (Cy (b:=11170449401992604703) rfl rfl) rfl ?_;refine WO ?_;refine AOps.gN ?_;refine AOps.p (Dt rfl rfl) rfl ?_;refine AOps.c1 (h:=h2) (k:=?_);refine WO ?_;refine FL ?_;refine RT ?_;refine AI ?_;rfl
def Of(l:List UInt64):UInt64:=l.foldl Nv (Nv 5840696475078001361 (UInt64.ofNat l.length))
theorem R8(l:List UInt64)(hl:l.length<=1099511627776):PS Tryz.prog 139 [.lst false 64 1 (l.map uA)] (uA (Of l)):=by
 have hlm:(l.map uA).length=l.length:=AB _;have h1:=QO 5840696475078001361 (UInt64.ofNat (l.map uA).length);refine Sp (nt:=21) (res:=[.tmp 2]) Tryz.func139 λSf=>?_
 refine R1 ?_
 (iterate 4 refine WK ?_);refine AOps.gN ?_;refine AOps.p (FP .i64 (l.map uA).length rfl (by omega) (by kernel_rfl) (by kernel_rfl) rfl) rfl ?_;refine AOps.g_callf ?_;refine AOps.c2 (h:=(h1 ..)) (k:=?_);refine KK ?_
 refine BQ (λ(i:Nat) (s:UInt64)=>⟨[(3,uA s),(10,.lst false 64 1 (l.map uA)),(11,iA (l.map uA).length),(12,iA i)],Sf⟩) (λi s=>i<=l.length/\(l.drop i).foldl Nv s=Of l) (λi _=>l.length-i) 0 (Nv 5840696475078001361 (UInt64.ofNat (l.map uA).length)) ⟨Nat.zero_le _,by rw[hlm];rfl⟩ ?_;rintro i s ⟨hi,hs⟩;refine KK ?_;refine AWP.cond rfl (λhc=>?_) (λhc=>?_)
 ·have h:i<l.length:=by rw[AE,hlm]at hc;omega
  have hat:(l.map uA)[i]?=some (uA l[i]):=by rw[AF,AH h];rfl
  have h2:=QO s l[i];refine KK ?_;refine AOps.g_callf ?_;refine AOps.c2 (h:=(h2 ..)) (k:=?_);refine KK ?_;refine A7 (i+1) _ ⟨h,?_⟩;rw[<-hs,By h];rfl
 ·have h:i=l.length:=by rw[AL,hlm]at hc;omega
  rw[h,List.drop_length]at hs;refine KK ?_;refine RT ?_;refine AI ?_;rw[<-hs];rfl
def UE(l:List Int):UInt64:=Of (l.map UInt64.ofInt)
theorem UD(l:List Int)(hl:l.length<=1099511627776):PS Tryz.prog 99 [AQ false l] (uA (UE l)):=by
 have hlm:(l.map iA).length=l.length:=AB _;have hw:=R8 (l.map UInt64.ofInt) (by rw[AB];omega);have hz0:List.replicate (l.map iA).length (uA 0)=Cw (λx=>uA (UInt64.ofInt x)) (uA 0) l 0:=by rw[E6,hlm]
 refine Sp (nt:=24) (res:=[.tmp 2]) Tryz.func99 λSf=>?_
 (iterate 8 refine WK ?_);refine DC ?_;refine Ev ((uA 0)) λK=>?_;refine KK ?_
 rw[hz0];refine BQ (λ(i:Nat) (M:List AV)=>⟨[(3,.sl K 0 (l.map iA).length),(9,AQ false l),(10,iA (l.map iA).length),(11,iA i)],(K,.row 64 1 M)::Sf⟩) (λi M=>i<=l.length/\M=Cw (λx=>uA (UInt64.ofInt x)) (uA 0) l i) (λi _=>l.length-i) 0 _ ⟨Nat.zero_le _,rfl⟩ ?_;rintro i M ⟨hi,hM⟩;refine KK ?_;refine AWP.cond rfl (λhc=>?_) (λhc=>?_)
 ·have h:i<l.length:=by rw[AE,hlm]at hc;omega
  have hat:(l.map iA)[i]?=some (iA l[i]):=by rw[AF,AH h];rfl
  have hset:=Fz (λx=>uA (UInt64.ofInt x)) (uA 0) l h;have hMat:M[i]?=some (uA 0):=by rw[hM];exact Gn _ _ _ h
  have hil:i<(l.map iA).length:=by omega
  (iterate 16 refine WK ?_);refine AOps.gN ?_;refine AOps.p (VI .i64 (by kernel_rfl) (by kernel_rfl) rfl) rfl ?_;refine KK ?_
  refine A7 (i+1) _ ⟨h,?_⟩;rw[hM];exact hset
 ·have h:i=l.length:=by rw[AL,hlm]at hc;omega
  subst h;rw[F4 _ _ _ (Nat.le_refl _)]at hM;have hM2:M=(l.map UInt64.ofInt).map uA:=by rw[hM,List.map_map];rfl
  subst hM2;have hlen:(l.map iA).length=((l.map UInt64.ofInt).map uA).length:=by simp
  refine FL ?_;refine Fj 3 ((l.map UInt64.ofInt).map uA) Frzs.h ?_;refine KK ?_;refine AOps.g_callf ?_;refine AOps.c1 (h:=(hw ..)) (k:=?_);refine KK ?_;refine RT ?_;refine AI ?_;rfl
def Fu:UInt64:=11400714819323198485
def LU(s:UInt64)(n:Int):UInt64:=Dp (s+Fu)^^^UInt64.ofInt n
def HL(r:UInt64×UInt64):AV:=.agg [uA r.1,uA r.2]
instance {r:UInt64×UInt64}:Frz (HL r) (HL r):=⟨rfl⟩
def FT(l:List Int):UInt64×UInt64:=(Dp (l.foldl LU (UInt64.ofNat l.length)+Fu),Dp (Dp (l.foldl LU (UInt64.ofNat l.length)+Fu)+Fu)|||1)
theorem SN(l:List Int)(hl:l.length<=1099511627776):PS Tryz.prog 101 [AQ false l] (HL (FT l)):=by
 have hlm:(l.map iA).length=l.length:=AB _;refine Sp (nt:=31) (res:=[.cell 2 182]) Tryz.func101 λSf=>?_
 refine RG ?_;refine WO ?_;refine Ai λR=>?_;refine NL ?_
 (iterate 4 refine WK ?_);refine AOps.gN ?_;refine AOps.p (FP .i64 (l.map iA).length rfl (by omega) (by kernel_rfl) (by kernel_rfl) rfl) rfl ?_;refine KK ?_
 obtain⟨e,he⟩:∃e,l.foldl LU (UInt64.ofNat l.length)=e:=⟨_,rfl⟩;refine BQ (λ(i:Nat) (s:UInt64)=>⟨[(2,.ptr R 0 0),(3,uA s),(9,AQ false l),(10,iA (l.map iA).length),(11,iA i)],(R,.row 182 2 [.agg [uA 0,uA 0]])::Sf⟩) (λi s=>i<=l.length/\(l.drop i).foldl LU s=e) (λi _=>l.length-i) 0 (UInt64.ofNat (l.map iA).length) ⟨Nat.zero_le _,by rw[hlm];exact he⟩ ?_;rintro i s ⟨hi,hs⟩;refine KK ?_;refine AWP.cond rfl (λhc=>?_) (λhc=>?_)
 ·have h:i<l.length:=by rw[AE,hlm]at hc;omega
  have hat:(l.map iA)[i]?=some (iA l[i]):=by rw[AF,AH h];rfl
  have h1:=IL (s+Fu);refine R1 ?_;refine WK ?_;refine WK ?_;refine AOps.gN ?_;refine AOps.p (Dt (b:=Fu) rfl rfl) rfl ?_;refine AOps.g_callf ?_;refine AOps.c1 (h:=(h1 ..)) (k:=?_);refine WK ?_;refine AOps.gN ?_;refine AOps.p (VI .i64 (by kernel_rfl) (by kernel_rfl) rfl) rfl ?_;refine AOps.gN ?_;refine AOps.p (HX rfl rfl) rfl ?_;refine KK ?_;refine A7 (i+1) (LU s l[i]) ⟨h,?_⟩;rw[<-hs,By h];rfl
 ·have h:i=l.length:=by rw[AL,hlm]at hc;omega
  rw[h,List.drop_length]at hs;have hs:s=e:=hs;subst hs;have h1:=IL (s+Fu);refine RG ?_;refine WO ?_;refine AOps.gN ?_;refine AOps.p (Dt (b:=Fu) rfl rfl) rfl ?_;refine AOps.g_callf ?_;refine AOps.c1 (h:=(h1 ..)) (k:=?_);refine WO ?_;refine NL ?_;have h2:=IL (Dp (s+Fu)+Fu);refine RG ?_;refine WO ?_;refine WO ?_;refine AOps.gN ?_;refine AOps.p (Dt (b:=Fu) rfl rfl) rfl ?_;refine AOps.g_callf ?_;refine AOps.c1 (h:=(h2 ..)) (k:=?_);refine AOps.gN ?_;refine AOps.p (VJ (b:=1) rfl rfl) rfl ?_;refine KO ?_;refine NL ?_;refine RT ?_;unfold FT;rw[he];exact Bq [HL (Dp (s+Fu),Dp (Dp (s+Fu)+Fu)|||1)] [HL (Dp (s+Fu),Dp (Dp (s+Fu)+Fu)|||1)] (.cons (.agg (.cons .same (.cons .same .nil))) .nil)
def Cq(r:UInt64×UInt64):UInt64×UInt64:=(r.1+r.2,r.2)
theorem O4(r:UInt64×UInt64):PS Tryz.prog 228 [HL r] (.tup [uA (Dp (Cq r).1),HL (Cq r)]):=by
 have h1:=IL (r.1+r.2);refine Sp (nt:=14) (res:=[.tmp 2,.cell 3 182]) Tryz.func228 λSf=>?_
 refine RG ?_;refine WO ?_;refine Ai λR=>?_;refine KO ?_;refine Ai λR=>?_;refine NL ?_
 refine RG ?_;(iterate 4 refine WO ?_);refine AOps.gN ?_;refine AOps.p (Dt rfl rfl) rfl ?_;refine KO ?_;refine NL ?_;refine RU ?_;refine RK ?_;refine RK ?_;refine RGo.gN ?_;refine RGo.c1 (h:=h1) (k:=?_);(iterate 3 refine RK ?_);refine RGo.nil (by kernel_rfl) ?_;refine RT ?_;exact Bq [uA (Dp (r.1+r.2)),HL (Cq r)] [uA (Dp (r.1+r.2)),HL (Cq r)] (.cons (.cell .same) (.cons (.agg (.cons .same (.cons .same .nil))) .nil))
section
open Go.Sort
theorem BD{α:Type}[Inhabited α](f:α->AV){d:Array α}{i:Nat}(h:i<d.size):(d.toList.map f)[i]?=some (f d[i]!):=by
 rw[AF,AH (by simpa using h)];simp[getElem!_pos d i h]
theorem Ck{α:Type}[Inhabited α](f:α->AV){d:Array α}{i j:Nat}(hi:i<d.size)(hj:j<d.size):((d.toList.map f).set i (f d[j]!)).set j (f d[i]!)=(swp d i j).toList.map f:=by
 unfold swp;simp[Array.toList_setIfInBounds,List.map_set]
theorem CL{α:Type}[Inhabited α](f:α->AV){d:Array α}{i j:Nat}(hj:j<d.size)(x:α):∃y,((d.toList.map f).set i (f x))[j]?=some (f y):=by
 by_cases e:i=j
 ·subst e;exact⟨x,List.getElem?_set_self (by simpa using hj)⟩
 ·exact⟨d[j]!,by rw[List.getElem?_set_ne e];exact BD f hj⟩
def AZ{α:Type}(cf:α->α->Int)(x y:α):Bool:=decide (cf x y<0)
instance:Inhabited Comp:=⟨⟨0,[]⟩⟩
instance:Inhabited Item:=⟨⟨⟨0,0⟩,[]⟩⟩
theorem FX{α:Type}[Inhabited α](lt:α->α->Bool)(d:Array α)(a b s:Nat):(order2 lt d a b s).2.2<=s+1:=by
 unfold order2;split<;>simp
theorem IK{α:Type}[Inhabited α](lt:α->α->Bool)(d:Array α)(a b s m:Nat)(ha:a<m)(hb:b<m):(order2 lt d a b s).1<m/\(order2 lt d a b s).2.1<m:=by
 unfold order2;split<;>exact⟨by assumption,by assumption⟩
theorem IM{α:Type}[Inhabited α](lt:α->α->Bool)(d:Array α)(a b c s:Nat):(median lt d a b c s).2<=s+3:=by
 have e1:=FX lt d a b s;have e2:=FX lt d (order2 lt d a b s).2.1 c (order2 lt d a b s).2.2;have e3:=FX lt d (order2 lt d a b s).1 (order2 lt d (order2 lt d a b s).2.1 c (order2 lt d a b s).2.2).1 (order2 lt d (order2 lt d a b s).2.1 c (order2 lt d a b s).2.2).2.2;unfold median;dsimp only;omega
theorem IN{α:Type}[Inhabited α](lt:α->α->Bool)(d:Array α)(a s m:Nat)(h:a+1<m):(medianAdjacent lt d a s).1<m:=by
 rcases medianAdjacent_mem lt d a s with e|e|e<;>omega
def VH:Hint->Int
 |.unknown=>0
 |.increasing=>1
 |.decreasing=>2
end
section
open Go.Sort
def lenTab:List UInt8:=(List.range 256).map λn=>UInt8.ofNat (if n=0 then 0 else Nat.log2 n+1)
theorem Lo{n:Nat}(h:n<256):((lenTab.getD n 0).toNat:Int)=bitsLen n:=by
 have h1:lenTab.getD n 0=UInt8.ofNat (bitsLen n):=by
  unfold lenTab;rw[CD,AF,List.getElem?_range h];rfl
 have h2:bitsLen n<=8:=(bitsLen_le_iff n 8).2 (by omega);rw[h1,UInt8.toNat_ofNat'];omega
theorem PK:lenTab.length=256:=by simp[lenTab]
theorem Km{x:Nat}(h:256<=x):bitsLen (x/256)+8=bitsLen x:=by
 have a:=(bitsLen_le_iff (x/256) (bitsLen x-8)).2 (by
  have h1:=lt_two_pow_bitsLen x
  have h2:8<bitsLen x:=by
   have:=(bitsLen_le_iff x 8);omega
  have h3:2^bitsLen x=2^(bitsLen x-8)*256:=by rw[show(256:Nat)=2^8 from rfl,<-Nat.pow_add];congr 1;omega
  omega)
 have b:=(bitsLen_le_iff x (bitsLen (x/256)+8)).2 (by
  have h1:=lt_two_pow_bitsLen (x/256);rw[Nat.pow_add];omega)
 have h2:8<bitsLen x:=by
  have:=(bitsLen_le_iff x 8);omega
 omega
set_option maxRecDepth 100000 in
theorem Sj(x:UInt64)(hx:x.toNat<65536):PS Tryz.prog 128 [uA x] (iA (bitsLen x.toNat)):=by
 refine Sp (nt:=25) (res:=[.tmp 2]) Tryz.func128 λSf=>?_
 refine KK ?_;refine AA rfl (AM (by omega)) ?_;refine KK ?_;refine AA rfl (AM (by omega)) ?_;refine KK ?_;refine Bl (λb:UInt64×Nat=>b.1.toNat<256/\bitsLen b.1.toNat+b.2=bitsLen x.toNat/\b.2<=8) (λb=>⟨[(0,uA b.1),(2,iA b.2)],Sf⟩) ?_ ?_
 ·refine AWP.cond rfl (λh=>?_) (λh=>?_)
  ·have h:256<=x.toNat:=by have:=of_decide_eq_true h;omega
   have hs:(x>>>UInt64.ofNat 8).toNat=x.toNat/256:=by
    rw[UInt64.toNat_shiftRight,UInt64.toNat_ofNat',show 8%2^64%64=8 from rfl,Nat.shiftRight_eq_div_pow]
   (iterate 3 refine WK ?_);refine AOps.gN ?_;refine AOps.p (Dd 8 (by omega) rfl rfl rfl) rfl ?_;refine KK ?_
   refine jn (x>>>UInt64.ofNat 8,8) ⟨by dsimp only;omega,?_,by(try dsimp only);omega⟩;dsimp only;rw[hs];exact Km h
  ·have h:¬256<=x.toNat:=by have:=of_decide_eq_false h;omega
   refine WK ?_;exact jn (x,0) ⟨by dsimp only;omega,rfl,by(try dsimp only);omega⟩
 ·rintro⟨u,m⟩ ⟨h1,h2,h3⟩
  dsimp only at h1 h2 h3⊢;have hw:IntKind.u8.wrap ((u.toNat:Nat):Int)=((u.toNat:Nat):Int):=by rw[IntKind.wrap_u8'];omega
  have hat:=Lo h1;have hb8:bitsLen u.toNat<=8:=(bitsLen_le_iff _ 8).2 (by omega);have hw2:IntKind.i64.wrap ((lenTab.getD u.toNat 0).toNat:Int)=((bitsLen u.toNat:Nat):Int):=by rw[hat];exact DS (by omega) (by omega)
  (iterate 4 refine WK ?_);refine AOps.gN ?_;refine AOps.p (W.convW .u64 .u8 _ (by kernel_rfl) (by kernel_rfl) hw rfl) rfl ?_;refine WK ?_;refine AOps.gN ?_;refine AOps.p (W.convW .u8 .i64 _ (by kernel_rfl) (by kernel_rfl) hw2 rfl) rfl ?_;refine AOps.gN ?_;refine AOps.p (BY ((bitsLen x.toNat:Nat):Int) (by omega) (by omega) rfl rfl) rfl ?_;refine KK ?_
  refine RT ?_;refine AI ?_;rfl
theorem PJ(x:UInt64)(hx:x.toNat<65536):PS Tryz.prog 88 [uA x] (iA (bitsLen x.toNat)):=by
 have h:=Sj x hx;refine Sp (nt:=8) (res:=[.tmp 2]) Tryz.func88 λSf=>?_
 refine KK ?_;refine AA rfl rfl ?_;refine KK ?_;refine AOps.g_callf ?_;refine AOps.c1 (h:=(h ..)) (k:=?_);refine KK ?_;refine RT ?_;refine AI ?_;rfl
theorem PE(n:Nat)(hn:n<65536):PS Tryz.prog 181 [iA n] (uA ((1:UInt64)<<<UInt64.ofNat (bitsLen n))):=by
 have e:(UInt64.ofNat n).toNat=n:=by rw[UInt64.toNat_ofNat'];omega
 have h:=PJ (UInt64.ofNat n) (by rw[e];exact hn);rw[e]at h;have hb:bitsLen n<=16:=(bitsLen_le_iff n 16).2 (by omega);refine Sp (nt:=7) (res:=[.tmp 2]) Tryz.func181 λSf=>?_
 (iterate 7 refine WK ?_);refine AOps.gN ?_;refine AOps.p (FP .i64 n rfl (by omega) (by kernel_rfl) (by kernel_rfl) rfl) rfl ?_;refine AOps.g_callf ?_;refine AOps.c1 (h:=(h ..)) (k:=?_);refine AOps.gN ?_;refine AOps.p (Id (a:=1) (bitsLen n) (by omega) rfl rfl rfl) rfl ?_;refine KK ?_
 refine RT ?_;refine AI ?_;rfl
theorem Oe(Y:Nat)(s:UInt64):Spec Tryz.prog 182 [.ptr Y 0 0] [(Y,.row 282 1 [uA s])] λr S'=>∃v:UInt64,True/\r=uA v/\S'=[(Y,.row 282 1 [uA v])]:=by
 refine Sp (nt:=33) (res:=[.tmp 2]) Tryz.func182 λSf=>?_
 refine R1 ?_;refine RU ?_;(iterate 6 refine RK ?_);refine RGo.gN ?_;refine RGo.p (Id 13 (by omega) rfl rfl rfl) rfl ?_;refine RGo.gN ?_;refine RGo.p (HX rfl rfl) rfl ?_;refine RK ?_;refine RK ?_;refine RGo.nil (by kernel_rfl) ?_;(repeat refine WF ?_);refine RU ?_;(iterate 6 refine RK ?_);refine RGo.gN ?_;refine RGo.p (Dd 7 (by omega) rfl rfl rfl) rfl ?_;refine RGo.gN ?_;refine RGo.p (HX rfl rfl) rfl ?_;refine RK ?_;refine RK ?_;refine RGo.nil (by kernel_rfl) ?_;(repeat refine WF ?_);refine RU ?_;(iterate 6 refine RK ?_);refine RGo.gN ?_;refine RGo.p (Id 17 (by omega) rfl rfl rfl) rfl ?_;refine RGo.gN ?_;refine RGo.p (HX rfl rfl) rfl ?_;refine RK ?_;refine RK ?_;refine RGo.nil (by kernel_rfl) ?_;refine KK ?_;refine RT ?_;exact Ends.sp [uA _] [(Y,_)] ⟨_,trivial,rfl,rfl⟩
end
section
open Go.Sort
def DO(a:Int):Int:=if 1099511627776<(if a< -1099511627776 then-1099511627776 else a)then 1099511627776 else if a< -1099511627776 then-1099511627776 else a
theorem H2(a:Int): -1099511627776<=DO a/\DO a<=1099511627776:=by unfold DO;split<;>split<;>omega
theorem Eu(a:Int):PS Tryz.prog 255 [iA a] (iA (DO a)):=by
 refine Sp (nt:=6) (res:=[.tmp 2]) Tryz.func255 λSf=>?_
 refine KK ?_;refine RT ?_;refine AI ?_;rfl
def Me(a:Int):UInt64:=UInt64.ofNat a.natAbs
theorem PH(a:Int)(h: -1099511627776<=a/\a<=1099511627776):PS Tryz.prog 256 [iA a] (uA (Me a)):=by
 refine Sp (nt:=10) (res:=[.tmp 2]) Tryz.func256 λSf=>?_
 unfold Me;by_cases hn:a<0
 ·refine KK ?_
  refine AP rfl (Ah hn) ?_;refine RG ?_;refine WO ?_;refine AOps.gN ?_;refine AOps.p (Px (-a) rfl (by omega) rfl) rfl ?_;refine AOps.gN ?_;refine AOps.p (FP .i64 a.natAbs (by omega) (by omega) (by kernel_rfl) (by kernel_rfl) rfl) rfl ?_;refine WO ?_;refine NL ?_;refine RT ?_;refine AI ?_;rfl
 ·refine KK ?_
  refine AA rfl (AM hn) ?_
  (iterate 4 refine WK ?_);refine AOps.gN ?_;refine AOps.p (FP .i64 a.natAbs (by omega) (by omega) (by kernel_rfl) (by kernel_rfl) rfl) rfl ?_;refine KK ?_
  refine RT ?_;refine AI ?_;rfl
def Nl(x y:UInt64):UInt64:=
 (x>>>UInt64.ofNat 32)*(y>>>UInt64.ofNat 32)+(((x>>>UInt64.ofNat 32)*(y&&&4294967295)+((x&&&4294967295)*(y&&&4294967295))>>>UInt64.ofNat 32)>>>UInt64.ofNat 32)+
  ((((x>>>UInt64.ofNat 32)*(y&&&4294967295)+((x&&&4294967295)*(y&&&4294967295))>>>UInt64.ofNat 32)&&&4294967295)+(x&&&4294967295)*(y>>>UInt64.ofNat 32))>>>UInt64.ofNat 32
theorem Sb(x y:UInt64):PS Tryz.prog 257 [uA x,uA y] (.tup [uA (Nl x y),uA (x*y)]):=by
 refine Sp (nt:=51) (res:=[.tmp 4,.tmp 5]) Tryz.func257 λSf=>?_
 refine R1 ?_;refine RG ?_;refine WO ?_;refine AOps.gN ?_;refine AOps.p (If (b:=4294967295) rfl rfl) rfl ?_;refine WO ?_;refine NL ?_;refine RG ?_;refine WO ?_;refine AOps.gN ?_;refine AOps.p (Dd 32 (by omega) rfl rfl rfl) rfl ?_;refine WO ?_;refine NL ?_;refine RG ?_;refine WO ?_;refine AOps.gN ?_;refine AOps.p (If (b:=4294967295) rfl rfl) rfl ?_;refine WO ?_;refine NL ?_;refine RG ?_;refine WO ?_;refine AOps.gN ?_;refine AOps.p (Dd 32 (by omega) rfl rfl rfl) rfl ?_;refine WO ?_;refine NL ?_;refine RG ?_;refine WO ?_;refine WO ?_;refine AOps.gN ?_;refine AOps.p (Cy rfl rfl) rfl ?_;refine WO ?_;refine NL ?_;refine RG ?_;(repeat first|(refine AOps.gN ?_;first|refine AOps.p (Cy rfl rfl) rfl ?_|refine AOps.p (Dd 32 (by omega) rfl rfl rfl) rfl ?_|refine AOps.p (Dt rfl rfl) rfl ?_)|refine WO ?_|refine Ai λX=>?_|refine Ay λY=>?_);refine NL ?_;refine RG ?_;refine WO ?_;refine AOps.gN ?_;refine AOps.p (If (b:=4294967295) rfl rfl) rfl ?_;refine WO ?_;refine NL ?_;refine RG ?_;refine WO ?_;refine AOps.gN ?_;refine AOps.p (Dd 32 (by omega) rfl rfl rfl) rfl ?_;refine WO ?_;refine NL ?_;refine RG ?_;(iterate 3 refine WO ?_);refine AOps.gN ?_;refine AOps.p (Cy rfl rfl) rfl ?_;refine AOps.gN ?_;refine AOps.p (Dt rfl rfl) rfl ?_;refine WO ?_;refine NL ?_;refine RG ?_;(repeat first|(refine AOps.gN ?_;first|refine AOps.p (Cy rfl rfl) rfl ?_|refine AOps.p (Dt rfl rfl) rfl ?_|refine AOps.p (Dd 32 (by omega) rfl rfl rfl) rfl ?_)|refine WO ?_|refine Ai λX=>?_|refine Ay λY=>?_);refine NL ?_;refine RG ?_;refine WO ?_;refine WO ?_;refine AOps.gN ?_;refine AOps.p (Cy rfl rfl) rfl ?_;refine WO ?_;refine NL ?_;refine RT ?_;exact Bq [uA (Nl x y),uA (x*y)] [uA (Nl x y),uA (x*y)] (.cons (.cell .same) (.cons (.cell .same) .nil))
set_option maxRecDepth 100000 in
theorem V7:PS Tryz.prog 267 [uA 65536] (iA 47):=by
 have hl:PS Tryz.prog 128 [uA 65536] (iA 17):=by
  refine Sp (nt:=25) (res:=[.tmp 2]) Tryz.func128 λSf=>?_
  refine KK ?_;refine AA rfl rfl ?_;refine KK ?_;refine AP rfl rfl ?_;refine RG ?_;refine WO ?_;refine AOps.gN ?_;refine AOps.p (Dd 16 (by omega) rfl rfl rfl) rfl ?_;refine WO ?_;refine NL ?_;obtain⟨u,hu⟩:∃u:UInt64,(65536:UInt64)>>>UInt64.ofNat 16=u:=⟨_,rfl⟩;rw[hu];have h1:u.toNat=1:=by rw[<-hu];decide
  clear hu;refine KK ?_;refine AA rfl (AM (by omega)) ?_;have hw:IntKind.u8.wrap ((u.toNat:Nat):Int)=((u.toNat:Nat):Int):=by rw[IntKind.wrap_u8'];omega
  have hat:=Lo (n:=u.toNat) (by omega);have hb1:bitsLen u.toNat=1:=by rw[h1];decide
  rw[hb1]at hat;have hw2:IntKind.i64.wrap ((lenTab.getD u.toNat 0).toNat:Int)=((1:Nat):Int):=by rw[hat];exact DS (by omega) (by omega)
  (repeat first|(refine AOps.gN ?_;first|refine AOps.p (W.convW .u64 .u8 _ (by kernel_rfl) (by kernel_rfl) hw rfl) rfl ?_|refine AOps.p (W.idxStr (s:=lenTab) (a:=u.toNat) (show ev _ _=_ by kernel_rfl) rfl rfl (by rw[PK];omega)) rfl ?_|refine AOps.p (W.convW .u8 .i64 _ (by kernel_rfl) (by kernel_rfl) hw2 rfl) rfl ?_|refine AOps.p (BY 17 rfl (by omega) rfl rfl) rfl ?_)|refine WK ?_|refine Ai λX=>?_|refine Ay λY=>?_);refine RT ?_;refine AI ?_;rfl
 refine Sp (nt:=6) (res:=[.tmp 2]) Tryz.func267 λSf=>?_
 refine KK ?_;refine AOps.g_callf ?_;refine AOps.c1 (h:=(hl ..)) (k:=?_);refine AOps.gN ?_;refine AOps.p (A8 47 rfl (by omega) rfl rfl) rfl ?_;refine KK ?_;refine RT ?_;refine AI ?_;rfl
def dU(hi lo:UInt64):UInt64:=(hi<<<UInt64.ofNat 47)|||(lo>>>UInt64.ofNat 17)
def dL(lo:UInt64):UInt64:=lo<<<UInt64.ofNat 47
def dR(hi lo:UInt64):UInt64:=dU hi lo*4294967296+(dL lo>>>UInt64.ofNat 32)-dU hi lo/2147483648*9223372036854775808
def HB(hi lo:UInt64):UInt64×UInt64:=
 (dU hi lo/2147483648*4294967296+dR hi lo/2147483648,(dR hi lo*4294967296+(dL lo&&&4294967295)-dR hi lo/2147483648*9223372036854775808)>>>UInt64.ofNat 47)
theorem WH{hi lo:UInt64}(h:hi.toNat<65536):(dU hi lo).toNat<9223372036854775808:=by
 unfold dU
 have h1:(hi<<<UInt64.ofNat 47).toNat<2^63:=by
  rw[UInt64.toNat_shiftLeft,UInt64.toNat_ofNat',show 47%2^64%64=47 from rfl,Nat.shiftLeft_eq];omega
 have h2:(lo>>>UInt64.ofNat 17).toNat<2^63:=by
  rw[UInt64.toNat_shiftRight,UInt64.toNat_ofNat',show 17%2^64%64=17 from rfl,Nat.shiftRight_eq_div_pow];have:=lo.toNat_lt;omega
 rw[UInt64.toNat_or];exact Nat.or_lt_two_pow h1 h2
theorem WI{hi lo:UInt64}:(dR hi lo).toNat<9223372036854775808:=by
 have h2:(dL lo>>>UInt64.ofNat 32).toNat<4294967296:=by
  rw[UInt64.toNat_shiftRight,UInt64.toNat_ofNat',show 32%2^64%64=32 from rfl,Nat.shiftRight_eq_div_pow];have:=(dL lo).toNat_lt;omega
 have h0:=(dU hi lo).toNat_lt;unfold dR;generalize dL lo>>>UInt64.ofNat 32=v at h2⊢;generalize dU hi lo=u at h0⊢;rw[UInt64.toNat_sub,UInt64.toNat_add,UInt64.toNat_mul,UInt64.toNat_mul,UInt64.toNat_div];rw[show(4294967296:UInt64).toNat=4294967296 from rfl,show(2147483648:UInt64).toNat=2147483648 from rfl,show(9223372036854775808:UInt64).toNat=9223372036854775808 from rfl];omega
theorem TQ(hi lo:UInt64)(h:hi.toNat<65536):PS Tryz.prog 258 [uA hi,uA lo,uA 65536] (.tup [uA (if hi=0 then lo/65536 else(HB hi lo).1),uA (if hi=0 then lo%65536 else(HB hi lo).2)]):=by
 have hu:=WH (lo:=lo) h;have hr:=WI (hi:=hi) (lo:=lo);refine Sp (nt:=135) (res:=[.tmp 6,.tmp 7]) Tryz.func258 λSf=>?_
 refine KK ?_;refine AA rfl rfl ?_;refine KK ?_;have hd1:decide (((65536:UInt64).toNat:Int)<=hi.toNat)=false:=AM (by rw[show(65536:UInt64).toNat=65536 from rfl];omega);refine AA rfl hd1 ?_;by_cases h0:hi=0
 ·rw[if_pos h0,if_pos h0]
  subst h0;refine KK ?_;refine AP rfl rfl ?_;refine RU ?_;refine RK ?_;refine RK ?_;refine RGo.gN ?_;refine RGo.go (h:=Pv (b:=65536) (by decide) rfl rfl) (k:=?_);refine RK ?_;refine RK ?_;refine RGo.gN ?_;refine RGo.go (h:=Kq (b:=65536) (by decide) rfl rfl) (k:=?_);refine RK ?_;refine RK ?_;refine RGo.nil (by kernel_rfl) ?_;refine RT ?_;exact Bq [uA (lo/65536),uA (lo%65536)] [uA (lo/65536),uA (lo%65536)] (.cons (.cell .same) (.cons (.cell .same) .nil))
 rw[if_neg h0,if_neg h0];refine KK ?_;refine AA rfl (AM (λe=>h0 (UInt64.toNat_inj.1 (Int.ofNat_inj.1 e)))) ?_;refine RG ?_;refine WO ?_;refine AOps.g_callf ?_;refine AOps.c1 (h:=(V7 ..)) (k:=?_);refine AOps.gN ?_;refine AOps.p (FP .i64 47 rfl (by omega) (by kernel_rfl) (by kernel_rfl) rfl) rfl ?_;refine WO ?_;refine NL ?_;refine RG ?_;refine WO ?_;refine WO ?_;refine AOps.gN ?_;refine AOps.p (Id 47 (by omega) rfl rfl (by decide)) rfl ?_;refine WO ?_;refine NL ?_;rw[show(65536:UInt64)<<<UInt64.ofNat 47=9223372036854775808 from by decide];refine RG ?_;refine WO ?_;refine AOps.gN ?_;refine AOps.p (Dd 32 (by omega) rfl rfl rfl) rfl ?_;refine WO ?_;refine NL ?_;rw[show(9223372036854775808:UInt64)>>>UInt64.ofNat 32=2147483648 from by decide];refine RG ?_;refine WO ?_;refine AOps.gN ?_;refine AOps.p (If (b:=4294967295) rfl rfl) rfl ?_;refine WO ?_;refine NL ?_;rw[show(9223372036854775808:UInt64)&&&4294967295=0 from by decide];refine RG ?_;(repeat first|(refine AOps.gN ?_;first|refine AOps.p (Id 47 (by omega) rfl rfl (by decide)) rfl ?_|refine AOps.p (F6 (a:=64) rfl rfl) rfl ?_|refine AOps.p (Dd 17 (by omega) rfl rfl (by decide)) rfl ?_|refine AOps.p (VJ rfl rfl) rfl ?_)|refine WO ?_|refine Ai λX=>?_|refine Ay λY=>?_);refine NL ?_;rw[show(hi<<<UInt64.ofNat 47)|||(lo>>>UInt64.ofNat 17)=dU hi lo from rfl];refine RG ?_;refine WO ?_;refine WO ?_;refine AOps.gN ?_;refine AOps.p (Id 47 (by omega) rfl rfl (by decide)) rfl ?_;refine WO ?_;refine NL ?_;rw[show lo<<<UInt64.ofNat 47=dL lo from rfl];refine RG ?_;refine WO ?_;refine AOps.gN ?_;refine AOps.p (Dd 32 (by omega) rfl rfl rfl) rfl ?_;refine WO ?_;refine NL ?_;refine RG ?_;refine WO ?_;refine AOps.gN ?_;refine AOps.p (If (b:=4294967295) rfl rfl) rfl ?_;refine WO ?_;refine NL ?_;refine RG ?_;refine WO ?_;refine WO ?_;refine AOps.gN ?_;refine AOps.p (Pv (b:=2147483648) (by decide) rfl rfl) rfl ?_;refine WO ?_;refine NL ?_;refine RG ?_;(iterate 3 refine WO ?_);refine AOps.gN ?_;refine AOps.p (Cy (b:=2147483648) rfl rfl) rfl ?_;refine AOps.gN ?_;refine AOps.p (F6 rfl rfl) rfl ?_;refine WO ?_;refine NL ?_
 have c1:∀u:UInt64,u.toNat<9223372036854775808->decide (((u/2147483648).toNat:Int)>=4294967296)=false:=λu hu=>AM (by
  rw[UInt64.toNat_div,show(2147483648:UInt64).toNat=2147483648 from rfl];omega)
 have c2:∀(a b:UInt64),decide (((a*0:UInt64).toNat:Int)>b.toNat)=false:=λa b=>AM (by
  rw[show a*0=0 from UInt64.mul_zero];show¬((0:Nat):Int)>b.toNat
  omega)
 have c1u:=c1 _ hu;have c1r:=c1 _ hr;refine FL ?_;refine A9 (λ_:Unit=>⟨[(2,uA 9223372036854775808),(8,uA (UInt64.ofNat 47)),(9,uA 2147483648),(10,uA 0),(11,uA (dU hi lo)),(13,uA (dL lo>>>UInt64.ofNat 32)),(14,uA (dL lo&&&4294967295)),(15,uA (dU hi lo/2147483648)),(16,uA (dU hi lo-dU hi lo/2147483648*2147483648))],Sf⟩) (λ_=>True) (λ_=>0) () trivial ?_;rintro _ _;(repeat first|(refine AOps.gN ?_;first|refine AOps.go (h:=Cy (b:=0) rfl rfl) (k:=?_)|refine AOps.go (h:=Cy (a:=4294967296) rfl rfl) (k:=?_)|refine AOps.go (h:=Dt rfl rfl) (k:=?_))|refine WK ?_|refine Ai λX=>?_|refine Ay λY=>?_);refine AA rfl (c2 _ _) ?_;refine FL ?_;refine RG ?_;(repeat first|(refine AOps.gN ?_;first|refine AOps.p (Cy (b:=4294967296) rfl rfl) rfl ?_|refine AOps.p (Dt rfl rfl) rfl ?_|refine AOps.p (Cy (b:=9223372036854775808) rfl rfl) rfl ?_|refine AOps.p (F6 rfl rfl) rfl ?_)|refine WO ?_|refine Ai λX=>?_|refine Ay λY=>?_);refine NL ?_;rw[show dU hi lo*4294967296+(dL lo>>>UInt64.ofNat 32)-dU hi lo/2147483648*9223372036854775808=dR hi lo from rfl];refine RG ?_;refine WO ?_;refine WO ?_;refine AOps.gN ?_;refine AOps.p (Pv (b:=2147483648) (by decide) rfl rfl) rfl ?_;refine WO ?_;refine NL ?_;refine RG ?_;(iterate 3 refine WO ?_);refine AOps.gN ?_;refine AOps.p (Cy (b:=2147483648) rfl rfl) rfl ?_;refine AOps.gN ?_;refine AOps.p (F6 rfl rfl) rfl ?_;refine WO ?_;refine NL ?_;refine FL ?_;refine A9 (λ_:Unit=>⟨[(2,uA 9223372036854775808),(8,uA (UInt64.ofNat 47)),(9,uA 2147483648),(10,uA 0),(14,uA (dL lo&&&4294967295)),(15,uA (dU hi lo/2147483648)),(16,uA (dR hi lo-dR hi lo/2147483648*2147483648)),(17,uA (dR hi lo)),(18,uA (dR hi lo/2147483648))],Sf⟩) (λ_=>True) (λ_=>0) () trivial ?_;rintro _ _;(repeat first|(refine AOps.gN ?_;first|refine AOps.go (h:=Cy (b:=0) rfl rfl) (k:=?_)|refine AOps.go (h:=Cy (a:=4294967296) rfl rfl) (k:=?_)|refine AOps.go (h:=Dt rfl rfl) (k:=?_))|refine WK ?_|refine Ai λX=>?_|refine Ay λY=>?_);refine AA rfl (c2 _ _) ?_;refine FL ?_;refine RG ?_;(repeat first|(refine AOps.gN ?_;first|refine AOps.p (Cy (b:=4294967296) rfl rfl) rfl ?_|refine AOps.p (Dt rfl rfl) rfl ?_|refine AOps.p (Cy (b:=9223372036854775808) rfl rfl) rfl ?_|refine AOps.p (F6 rfl rfl) rfl ?_|refine AOps.p (Dd 47 (by omega) rfl rfl (by decide)) rfl ?_)|refine WO ?_|refine Ai λX=>?_|refine Ay λY=>?_);refine NL ?_;refine RT ?_;exact Bq [uA (HB hi lo).1,uA (HB hi lo).2] [uA (HB hi lo).1,uA (HB hi lo).2] (.cons (.cell .same) (.cons (.cell .same) .nil))
end
def UK(hi lo:UInt64):UInt64:=if hi=0 then lo/65536 else(HB hi lo).1
def VO(hi lo:UInt64):UInt64:=if hi=0 then lo%65536 else(HB hi lo).2
def Ma(neg:Bool)(q:Int)(r:UInt64):Int:=
 if neg=false then DO (if(r.toNat:Int)>=(65536-r).toNat then q+1 else q)else DO (-(if(r.toNat:Int)>(65536-r).toNat then q+1 else q))
def Vc(neg:Bool)(hi lo:UInt64):Int:=
 if(hi.toNat:Int)>=65536 then(if neg then-1099511627776 else 1099511627776)else
 if((UK hi lo).toNat:Int)>1099511627776 then Ma neg 1099511627777 0 else Ma neg (UK hi lo).toNat (VO hi lo)
def RA(a b:Int):Int:=
 Vc (if DO b<0 then !(decide (DO a<0))else decide (DO a<0)) (Nl (Me (DO a)) (Me (DO b))) (Me (DO a)*Me (DO b))
theorem RB(a b:Int):PS Tryz.prog 227 [iA a,iA b,iA 65536] (iA (RA a b)):=by
 have h1:=Eu a;have h2:=Eu b;have h3:=Eu 65536;rw[show DO 65536=65536 from by decide]at h3;have ra:=H2 a;have rb:=H2 b;obtain⟨res,hres⟩:∃res,RA a b=res:=⟨_,rfl⟩;rw[hres];unfold RA at hres;obtain⟨a1,ha1⟩:∃a1,DO a=a1:=⟨_,rfl⟩;obtain⟨b1,hb1⟩:∃b1,DO b=b1:=⟨_,rfl⟩;rw[ha1]at h1 ra hres;rw[hb1]at h2 rb hres;have h4:=PH a1 ra;have h5:=PH b1 rb;have h6:=PH 65536 (by omega);rw[show Me 65536=65536 from by decide]at h6;obtain⟨ma,hma⟩:∃ma,Me a1=ma:=⟨_,rfl⟩;obtain⟨mb,hmb⟩:∃mb,Me b1=mb:=⟨_,rfl⟩;rw[hma]at h4 hres;rw[hmb]at h5 hres;have h7:=Sb ma mb;obtain⟨hi,hhi⟩:∃hi,Nl ma mb=hi:=⟨_,rfl⟩;obtain⟨lo,hlo⟩:∃lo,ma*mb=lo:=⟨_,rfl⟩;rw[hhi,hlo]at h7 hres;refine Sp (nt:=78) (res:=[.tmp 6]) Tryz.func227 λSf=>?_
 refine R1 ?_;refine KK ?_;refine AOps.g_callf ?_;refine AOps.c1 (h:=(h1 ..)) (k:=?_);refine WK ?_;refine AOps.g_callf ?_;refine AOps.c1 (h:=(h2 ..)) (k:=?_);refine WK ?_;refine AOps.g_callf ?_;refine AOps.c1 (h:=(h3 ..)) (k:=?_);refine KK ?_;refine AA rfl rfl ?_;refine KK ?_;refine Bl (λn:Bool=>Vc n hi lo=res) (λn=>⟨[(0,iA a1),(1,iA b1),(2,iA 65536),(7,bA n)],Sf⟩) ?_ ?_
 ·by_cases hb:b1<0
  ·rw[if_pos hb]at hres
   refine AP rfl (Ah hb) ?_;refine KK ?_;exact jn (!decide (a1<0)) hres
  ·rw[if_neg hb]at hres
   refine AA rfl (AM hb) ?_;refine WK ?_;exact jn (decide (a1<0)) hres
 clear hres;intro neg hres;refine KK ?_;refine AA rfl rfl ?_;refine RG ?_;refine WO ?_;refine AOps.g_callf ?_;refine AOps.c1 (h:=(h6 ..)) (k:=?_);refine WO ?_;refine NL ?_;refine RG ?_;refine WO ?_;refine AOps.g_callf ?_;refine AOps.c1 (h:=(h4 ..)) (k:=?_);refine WO ?_;refine AOps.g_callf ?_;refine AOps.c1 (h:=(h5 ..)) (k:=?_);refine AOps.g_callf ?_;refine AOps.c2 (h:=(h7 ..)) (k:=?_);refine KO ?_;refine NL ?_;refine KK ?_;unfold Vc at hres;by_cases hh:(hi.toNat:Int)>=65536
 ·rw[if_pos hh]at hres
  refine AP rfl (Ah hh) ?_;refine KK ?_;cases neg
  ·refine AA rfl rfl ?_
   refine KK ?_;refine RT ?_;refine AI ?_;rw[<-hres];rfl
  ·refine AP rfl rfl ?_
   refine KK ?_;refine RT ?_;refine AI ?_;rw[<-hres];rfl
 rw[if_neg hh]at hres;refine AA rfl (AM hh) ?_;have h8:=TQ hi lo (by omega);rw[show(if hi=0 then lo/65536 else(HB hi lo).1)=UK hi lo from rfl,show(if hi=0 then lo%65536 else(HB hi lo).2)=VO hi lo from rfl]at h8;obtain⟨q,hq⟩:∃q,UK hi lo=q:=⟨_,rfl⟩;obtain⟨r,hr⟩:∃r,VO hi lo=r:=⟨_,rfl⟩;rw[hq,hr]at h8 hres;refine RG ?_;refine KO ?_;refine AOps.g_callf ?_;refine EI (h:=(h8 ..)) (k:=?_);refine KO ?_;refine NL ?_;refine KK ?_;refine Bl (λb:UInt64×UInt64=>b.1.toNat<=1099511627777/\Ma neg b.1.toNat b.2=res) (λb=>⟨[(7,bA neg),(8,uA 65536),(11,uA b.1),(12,uA b.2)],Sf⟩) ?_ ?_
 ·by_cases hb:(q.toNat:Int)>1099511627776
  ·rw[if_pos hb]at hres
   refine AP rfl (Ah hb) ?_;refine KK ?_;exact jn (1099511627777,0) ⟨by decide,hres⟩
  ·rw[if_neg hb]at hres
   refine AA rfl (AM hb) ?_;refine WK ?_;exact jn (q,r) ⟨by dsimp only;omega,hres⟩
 clear hres hq hr h8;rintro⟨q,r⟩ ⟨hq,hres⟩;dsimp only at hq hres⊢
 (iterate 3 refine WK ?_);refine AOps.gN ?_;refine AOps.p (Pw .u64 (by omega) (by kernel_rfl) (by kernel_rfl) rfl) rfl ?_;refine KK ?_
 unfold Ma at hres;cases neg
 ·rw[if_pos rfl]at hres
  refine AP rfl rfl ?_
  (iterate 6 refine WK ?_);refine AOps.gN ?_;refine AOps.p (F6 rfl rfl) rfl ?_;refine KK ?_
  by_cases hc:(r.toNat:Int)>=(65536-r).toNat
  ·rw[if_pos hc]at hres
   have hc1:=Eu ((q.toNat:Int)+1);rw[hres]at hc1;refine AP rfl (Ah hc) ?_;refine KK ?_;refine AOps.g_callf ?_;refine AOps.c1 (h:=(hc1 ..)) (k:=?_);refine KK ?_;refine RT ?_;refine AI ?_;rfl
  ·rw[if_neg hc]at hres
   have hc1:=Eu (q.toNat:Int);rw[hres]at hc1;refine AA rfl (AM hc) ?_;refine KK ?_;refine AOps.g_callf ?_;refine AOps.c1 (h:=(hc1 ..)) (k:=?_);refine KK ?_;refine RT ?_;refine AI ?_;rfl
 ·rw[if_neg (by decide)]at hres
  refine AA rfl rfl ?_
  (iterate 7 refine WK ?_);refine AOps.gN ?_;refine AOps.p (F6 rfl rfl) rfl ?_;refine KK ?_
  by_cases hc:(r.toNat:Int)>(65536-r).toNat
  ·rw[if_pos hc]at hres
   have hc1:=Eu (-((q.toNat:Int)+1));rw[hres]at hc1;refine AP rfl (Ah hc) ?_
   (iterate 8 refine WK ?_);refine AOps.gN ?_;refine AOps.p (Px (-((q.toNat:Int)+1)) rfl (by omega) rfl) rfl ?_;refine AOps.g_callf ?_;refine AOps.c1 (h:=(hc1 ..)) (k:=?_);refine KK ?_
   refine RT ?_;refine AI ?_;rfl
  ·rw[if_neg hc]at hres
   have hc1:=Eu (-(q.toNat:Int));rw[hres]at hc1;refine AA rfl (AM hc) ?_
   (iterate 4 refine WK ?_);refine AOps.gN ?_;refine AOps.p (Px (-(q.toNat:Int)) rfl (by omega) rfl) rfl ?_;refine AOps.g_callf ?_;refine AOps.c1 (h:=(hc1 ..)) (k:=?_);refine KK ?_
   refine RT ?_;refine AI ?_;rfl
theorem Vb(a b:Int):PS Tryz.prog 197 [iA a,iA b] (iA (RA a b)):=by
 have h:=RB a b;refine Sp (nt:=8) (res:=[.tmp 4]) Tryz.func197 λSf=>?_
 refine KK ?_;refine AOps.g_callf ?_;refine EI (h:=(h ..)) (k:=?_);refine KK ?_;refine RT ?_;refine AI ?_;rfl
def Vf(n:UInt64):UInt64:=18446744073709551615-(18446744073709551615%n+1)%n
def EW(n:UInt64):Nat->UInt64×UInt64->UInt64×(UInt64×UInt64)
 |0,r=>(0,r)
 |k+1,r=>if Dp (Cq r).1<=Vf n then(Dp (Cq r).1%n,Cq r)else EW n k (Cq r)
def EA(r:UInt64×UInt64)(n:Nat):UInt64×(UInt64×UInt64):=EW (UInt64.ofNat n) 18446744073709551616 r
theorem RC:Dp 0=0:=by decide
theorem HD(n:UInt64):∀(k:Nat) (r:UInt64×UInt64),(EW n k r).2.2=r.2
 |0,r=>rfl
 |k+1,r=>by
  rw[EW];split
  ·rfl
  ·exact HD n k (Cq r)
theorem Ko(n:UInt64)(hn:0<n.toNat):∀(k:Nat) (r:UInt64×UInt64),(EW n k r).1.toNat<n.toNat
 |0,r=>by simpa[EW]using hn
 |k+1,r=>by
  rw[EW];split
  ·rw[UInt64.toNat_mod];exact Nat.mod_lt _ hn
  ·exact Ko n hn k (Cq r)
theorem Rs(r:UInt64×UInt64)(n:Nat)(h1:1<=n)(h2:n<=4611686018427387904)(hg:r.2.toNat%2=1):PS Tryz.prog 198 [HL r,iA n] (.tup [iA (EA r n).1.toNat,HL (EA r n).2,iA 0]):=by
 obtain⟨m,hm⟩:∃m,UInt64.ofNat n=m:=⟨_,rfl⟩;have hmn:m.toNat=n:=by rw[<-hm,UInt64.toNat_ofNat'];omega
 obtain⟨k0,hk1,hk2,hk3⟩:=SZ r.1 r.2 hg
 have hodd:decide (((r.2%2).toNat:Int)=0)=false:=AM (by
  rw[UInt64.toNat_mod];show¬((r.2.toNat%2:Nat):Int)=0
  omega)
 obtain⟨res,hres⟩:∃res,EA r n=res:=⟨_,rfl⟩;rw[hres];have hlt:res.1.toNat<m.toNat:=by rw[<-hres];unfold EA;rw[hm];exact Ko m (by omega) _ _
 unfold EA at hres;rw[hm]at hres;refine Sp (nt:=40) (res:=[.tmp 4,.cell 5 182,.tmp 6]) Tryz.func198 λSf=>?_
 (repeat refine WF ?_);refine AWP.region ?_;refine Fk λB=>?_
 refine KO ?_;refine Ai λR=>?_;refine WO ?_
 refine FL ?_;have g1:decide ((n:Int)<1)=false:=AM (by omega)
 (iterate 9 refine WK ?_);refine AOps.gN ?_;refine AOps.go (h:=Kq (b:=2) (by decide) rfl rfl) (k:=?_);refine KK ?_
 refine AA rfl hodd ?_;refine RG ?_;refine WO ?_;refine AOps.gN ?_;refine AOps.p (FP .i64 n rfl (by omega) (by kernel_rfl) (by kernel_rfl) rfl) rfl ?_;refine WO ?_;refine NL ?_;rw[hm];refine RG ?_;refine WO ?_;refine AOps.gN ?_;refine AOps.go (h:=Kq (a:=18446744073709551615) (b:=m) (by omega) rfl rfl) (k:=?_);refine AOps.gN ?_;refine AOps.p (Dt (b:=1) rfl rfl) rfl ?_;refine WO ?_;refine AOps.gN ?_;refine AOps.go (h:=Kq (b:=m) (by omega) rfl rfl) (k:=?_);refine WO ?_;refine NL ?_;refine FL ?_;refine DY (λ(r':UInt64×UInt64) (k K:Nat)=>⟨[(2,.ptr B 0 0),(5,.ptr R 0 0),(7,uA m),(8,uA ((18446744073709551615%m+1)%m))],(R,.row 182 2 [HL (0,0)])::(B,.row 182 2 [HL r'])::Sf⟩) (λr' k K=>1<=k/\k<=K/\r'.2=r.2/\(r'.1.toNat+k*r'.2.toNat)%18446744073709551616=0/\EW m K r'=res) (λ_ _ K=>K) r k0 18446744073709551616 ⟨hk1,hk2,rfl,hk3,hres⟩ ?_;rintro r' k K ⟨hk1,hk2,hr2,hk3,hres⟩;have hnx:=O4 r';obtain⟨K',rfl⟩:∃K',K=K'+1:=⟨K-1,by omega⟩;rw[EW]at hres;(repeat refine WF ?_);refine R1 ?_;refine RG ?_;refine WO ?_;refine AOps.g_callf ?_;refine AOps.c1 (h:=(hnx ..)) (k:=?_);refine KO ?_;refine NL ?_;refine RG ?_;refine WO ?_;refine WO ?_;refine AOps.gN ?_;refine AOps.p (F6 (a:=18446744073709551615) rfl rfl) rfl ?_;refine WO ?_;refine NL ?_
 have hst:((Cq r').1.toNat+(k-1)*(Cq r').2.toNat)%18446744073709551616=0:=by
  have e:(Cq r').1.toNat=(r'.1.toNat+r'.2.toNat)%18446744073709551616:=UInt64.toNat_add ..;rw[e,show(Cq r').2=r'.2 from rfl];obtain⟨j,rfl⟩:∃j,k=j+1:=⟨k-1,by omega⟩;rw[Nat.add_mul,Nat.one_mul]at hk3;rw[Nat.add_sub_cancel];generalize j*r'.2.toNat=u at hk3⊢;omega
 refine AWP.cond rfl (λhc=>?_) (λhc=>?_)
 ·have hc:Dp (Cq r').1<=Vf m:=by
   rw[UInt64.le_iff_toNat_le];have:=of_decide_eq_true hc;exact Int.ofNat_le.1 this
  rw[if_pos hc]at hres;have hx:(Dp (Cq r').1%m).toNat<9223372036854775808:=by rw[show Dp (Cq r').1%m=res.1 from by rw[<-hres]];omega
  refine RU ?_;refine RK ?_;refine RK ?_;refine RGo.gN ?_;refine RGo.go (h:=Kq (b:=m) (by omega) rfl rfl) (k:=?_);refine RGo.gN ?_;refine RGo.go (h:=Pw .u64 hx (by kernel_rfl) (by kernel_rfl) rfl) (k:=?_);(iterate 4 refine RK ?_);refine RGo.nil (by kernel_rfl) ?_;refine RT ?_;subst hres;exact Bq [iA (Dp (Cq r').1%m).toNat,HL (Cq r'),iA 0] [iA (Dp (Cq r').1%m).toNat,HL (Cq r'),iA 0] (.cons (.cell .same) (.cons (.agg (.cons .same (.cons .same .nil))) (.cons (.cell .same) .nil)))
 ·have hc:¬Dp (Cq r').1<=Vf m:=by
   rw[UInt64.le_iff_toNat_le];have:=of_decide_eq_false hc;exact λh=>this (Int.ofNat_le.2 h)
  rw[if_neg hc]at hres
  have hk:k≠1:=by
   intro e;subst e;apply hc
   have h0:(Cq r').1=0:=by
    apply UInt64.toNat_inj.1;have:=(Cq r').1.toNat_lt;simp at hst;show(Cq r').1.toNat=0
    omega
   rw[h0,RC,UInt64.le_iff_toNat_le];exact Nat.zero_le _
  refine KK ?_;refine CJ (Cq r') (k-1) K' ⟨by omega,by omega,hr2,hst,hres⟩
def Aq(a:Arg):AV:=.agg [bA a.has,iA a.n,iA a.ref.kind,iA a.ref.field]
def opA(o:Op):AV:=.agg [iA o.act,iA o.to.kind,iA o.to.field,bA o.a.has,iA o.a.n,iA o.a.ref.kind,iA o.a.ref.field,bA o.b.has,iA o.b.n,iA o.b.ref.kind,iA o.b.ref.field]
abbrev US(o:Bool)(l:List Op):AV:=.lst o 155 11 (l.map opA)
def B7(o:Bool)(s:Sys):AV:=.agg [sA s.name,AQ o s.wth,AQ o s.wout,AQ o s.reads,AQ o s.writes,US o s.ops,Au o false s.spawn]
abbrev Hh(o:Bool)(l:List Sys):AV:=.lst o 80 7 (l.map (B7 false))
instance {a:Arg}:Frz (Aq a) (Aq a):=⟨rfl⟩
instance {o:Op}:Frz (opA o) (opA o):=⟨rfl⟩
instance {o:Bool}{s:Sys}:Frz (B7 o s) (B7 false s):=⟨by unfold B7;exact Frz.h⟩
theorem RR(l:List Int)(x:Int)(hl:l.length<=4611686018427387904):PS Tryz.prog 185 [AQ false l,iA x] (iA (EK l λy=>decide (x=y))):=by
 refine Sp (nt:=19) (res:=[.tmp 4]) Tryz.func185 λSf=>?_
 refine KK ?_;refine A9 (λi:Nat=>⟨[(0,AQ false l),(1,iA x),(7,iA (l.map iA).length),(8,iA i)],Sf⟩) (λi=>i<=l.length/\∀j (h:j<l.length),j<i->(decide (x=l[j]))=false) (λi=>l.length-i) 0 ⟨Nat.zero_le _,λj h hj=>absurd hj (by omega)⟩ ?_;rintro i ⟨hi,he⟩;refine KK ?_;refine AWP.cond rfl (λhc=>?_) (λhc=>?_)
 ·have h:i<l.length:=by simpa using hc
  refine KK ?_;refine AWP.cond rfl (λhd=>?_) (λhd=>?_)
  ·refine KK ?_
   refine RT ?_;refine AI ?_;rw[Ed h hd λj hj=>he j (by omega) hj]
  ·refine KK ?_
   refine Ab (i+1) ⟨h,λj h1 h2=>?_⟩;by_cases e:j=i
   ·subst e;exact hd
   ·exact he j h1 (by omega)
 ·have h:¬i<l.length:=by simpa using hc
  refine KK ?_;refine RT ?_;refine AI ?_;rw[Ee λj hj=>he j hj (by omega)]
theorem Bd(l:List Int)(x:Int)(hl:l.length<=4611686018427387904):PS Tryz.prog 135 [AQ false l,iA x] (bA (l.contains x)):=by
 refine Sp (nt:=9) (res:=[.tmp 4]) Tryz.func135 λSf=>?_
 refine KK ?_;refine AOps.g_callf ?_;refine AOps.c2 (h:=(RR l x hl)) (k:=?_);refine KK ?_;refine RT ?_;refine AI ?_
 have h2:decide ((0:Int)<=EK l λy=>decide (x=y))=l.contains x:=by
  rw[KC,List.contains_eq_any_beq]
  congr 1
 rw[<-h2]
def DQ(d:Int):Bool:=decide (d>=0)&&decide (d<=7)
theorem Fp(d:Int):PS Tryz.prog 144 [iA d] (bA (DQ d)):=by
 refine Sp (nt:=9) (res:=[.tmp 2]) Tryz.func144 λSf=>?_
 refine KK ?_;refine RT ?_;refine AI ?_;rfl
theorem IF(d:Int):PS Tryz.prog 191 [iA d] (bA (C2 d)):=by
 refine Sp (nt:=13) (res:=[.tmp 2]) Tryz.func191 λSf=>?_
 refine KK ?_;refine RT ?_;refine AI ?_;rfl
def O6(r:Ref):AV:=.agg [iA r.kind,iA r.field]
theorem C8(ks:List Kind)(r:Ref)(h:H9 ks r):PS Tryz.prog 190 [Ae false false ks,O6 r] (bA true):=by
 obtain⟨h1,h2,h3,h4⟩:=h;obtain⟨rk,rf⟩:=r;dsimp only at h1 h2 h3 h4;obtain⟨i,hi⟩:∃i:Nat,rk=i:=⟨rk.toNat,by omega⟩;subst hi;have hil:i<ks.length:=by omega
 unfold LD at h4;rw[Int.toNat_natCast,AH hil]at h4;dsimp only at h4;obtain⟨⟨kn,fs⟩,hk⟩:∃k,ks[i]=k:=⟨_,rfl⟩;rw[hk]at h4;have hkm:(ks.map (Aw false)).length=ks.length:=AB _;have hat:(ks.map (Aw false))[i]?=some (Aw false ⟨kn,fs⟩):=by rw[AF,AH hil,hk];rfl
 have g1:decide (((i:Nat):Int)>=0)=true:=Ah (by omega);have g2:decide (((i:Nat):Int)<(ks.map (Aw false)).length)=true:=Ah (by omega);have g3:decide (rf>=0)=true:=Ah (by omega);have g4:decide (rf<(fs.map fieldA).length)=true:=Ah (by rw[AB];exact h4);refine Sp (nt:=32) (res:=[.tmp 4]) Tryz.func190 λSf=>?_
 refine RG ?_;refine WO ?_;refine Ai λX=>?_;refine WO ?_;refine NL ?_
 refine RU ?_;(iterate 28 refine RK ?_);refine RGo.nil (by kernel_rfl) ?_;refine FL ?_;refine RT ?_;refine AI ?_;rw[g4]
theorem VK(ks:List Kind)(l:List Int)(ho:l.Pairwise (· < ·))(hr:∀x∈l,0<=x/\x<ks.length)(hl:l.length<=1099511627776):PS Tryz.prog 132 [Ae false false ks,AQ false l] (iA 0):=by
 have hlm:(l.map iA).length=l.length:=AB _;have hkm:(ks.map (Aw false)).length=ks.length:=AB _;refine Sp (nt:=34) (res:=[.tmp 4]) Tryz.func132 λSf=>?_
 refine KK ?_;refine A9 (λi:Nat=>⟨[(0,Ae false false ks),(1,AQ false l),(7,AQ false l),(8,iA (l.map iA).length),(9,iA i)],Sf⟩) (λi=>i<=l.length) (λi=>l.length-i) 0 (Nat.zero_le _) ?_;rintro i hi;refine KK ?_;refine AWP.cond rfl (λhc=>?_) (λhc=>?_)
 ·have h:i<l.length:=by rw[AE,hlm]at hc;omega
  have hx:=hr _ (AU h);obtain⟨x,hxe⟩:∃x,l[i]=x:=⟨_,rfl⟩;rw[hxe]at hx;have hat:(l.map iA)[i]?=some (iA x):=by rw[AF,AH h,hxe];rfl
  have g1:decide (x<0)=false:=AM (by omega);have g2:decide (x>=(ks.map (Aw false)).length)=false:=AM (by omega);refine KK ?_;refine AA rfl g2 ?_;by_cases h0:i=0
  ·subst h0
   have g3:decide (((0:Nat):Int)>0)=false:=by decide
   refine KK ?_;refine AA rfl rfl ?_;refine KK ?_;refine Ab 1 h
  ·have g3:decide (((i:Nat):Int)>0)=true:=Ah (by omega)
   have hlt:l[i-1]<x:=by rw[<-hxe];exact List.pairwise_iff_getElem.1 ho (i-1) i (by omega) h (by omega)
   have hat2:(l.map iA)[i-1]?=some (iA l[i-1]):=by rw[AF,AH (by omega)];rfl
   have g4:decide (l[i-1]>=x)=false:=AM (by omega)
   (iterate 11 refine WK ?_);refine AOps.gN ?_;refine AOps.go (h:=A8 ((i-1:Nat):Int) (by omega) (by omega) rfl rfl) (k:=?_);refine KK ?_
   refine AA rfl g4 ?_;refine KK ?_;refine Ab (i+1) h
 ·refine KK ?_
  refine RT ?_;refine AI ?_;rfl
theorem MS(s:Sys)(x:Int)(hl:s.wout.length<=4611686018427387904):PS Tryz.prog 134 [iA x,.fp (B7 false s).cells] (bA (s.wout.contains x)):=by
 have h:=Bd s.wout x hl;refine Sp (nt:=8) (res:=[.tmp 3]) Tryz.func134 λSf=>?_
 refine KK ?_;refine AOps.g_callf ?_;refine AOps.c2 (h:=(h ..)) (k:=?_);refine KK ?_;refine RT ?_;refine AI ?_;rfl
theorem MR(s:Sys)(x:Int)(hl:s.wth.length<=4611686018427387904):PS Tryz.prog 136 [iA x,.fp (B7 false s).cells] (bA (!s.wth.contains x)):=by
 have h:=Bd s.wth x hl;refine Sp (nt:=9) (res:=[.tmp 3]) Tryz.func136 λSf=>?_
 refine KK ?_;refine AOps.g_callf ?_;refine AOps.c2 (h:=(h ..)) (k:=?_);refine KK ?_;refine RT ?_;refine AI ?_;rfl
structure Cmd where
 act:Int
 ent:Ent
 kind:Int
 comps:List Comp
def B4(c:Cmd):AV:=.agg [iA c.act,iA c.ent.n,iA c.ent.gen,iA c.kind,Au false false c.comps]
instance {c:Cmd}:Frz (B4 c) (B4 c):=⟨by unfold B4;exact Frz.h⟩
def HF(cs:List Comp)(k:Int):List Int:=match Bp cs k with
 |some c=>c.vals
 |none=>[]
def H4(cs:List Comp)(a:Arg):Int:=if a.has then(HF cs a.ref.kind).getD a.ref.field.toNat 0 else a.n
def Dl(act a b:Int)(r:UInt64×UInt64):Int×(UInt64×UInt64):=
 if act=1 then(a+b,r)else if act=2 then(a-b,r)else if act=3 then(RA a b,r)else
 if act=4 then(if b<a then b else a,r)else if act=5 then(if a<b then b else a,r)else if act=6 then(if a<b then 1 else 0,r)else
 if act=7 then(if a<1 then(0,r)else(((EA r a.toNat).1.toNat:Int),(EA r a.toNat).2))else(a,r)
def NT(cs:List Comp)(k:Int)(f:Nat)(v:Int):List Comp:=match Bp cs k with
 |some c=>cs.set (Ce cs k) ⟨c.kind,c.vals.set f v⟩
 |none=>cs
structure Rn where
 comps:List Comp
 r:UInt64×UInt64
 cmds:List Cmd
 evs:List Evt
def EV(ks:List Kind)(r:Ref):Field:=match ks[r.kind.toNat]? with
 |some k=>k.fields.getD r.field.toNat ⟨[],0,0⟩
 |none=>⟨[],0,0⟩
def Kc(ks:List Kind)(k:Int):List Int:=match ks[k.toNat]? with
 |some x=>(BZ x (List.replicate x.fields.length 0)).1
 |none=>[]
def doM(ks:List Kind)(s:Sys)(index:Int)(e:Ent)(o:Op)(st:Rn):Rn:=
 if DQ o.act=true then
  ⟨NT st.comps o.to.kind o.to.field.toNat (BT (EV ks o.to) (Dl o.act (H4 st.comps o.a) (H4 st.comps o.b) st.r).1),(Dl o.act (H4 st.comps o.a) (H4 st.comps o.b) st.r).2,st.cmds,st.evs⟩
 else if H4 st.comps o.a=0 then st
 else if o.act=12 then⟨st.comps,st.r,st.cmds,st.evs++[⟨index,e,H4 st.comps o.b⟩]⟩
 else⟨st.comps,st.r,st.cmds++[if o.act=8 then⟨0,e,0,[⟨o.to.kind,Kc ks o.to.kind⟩]⟩else if o.act=9 then⟨1,e,o.to.kind,[]⟩else if o.act=10 then⟨2,e,0,[]⟩else⟨3,⟨0,0⟩,0,(CH ks s.spawn).1⟩],st.evs⟩
def K4(ks:List Kind)(s:Sys)(e:Ent)(cv:AV)(r:UInt64×UInt64)(kv ev:AV)(index:Int):AV:=
 .agg [Ae false false ks,sA s.name,AQ false s.wth,AQ false s.wout,AQ false s.reads,AQ false s.writes,US false s.ops,Au false false s.spawn,iA e.n,iA e.gen,cv,uA r.1,uA r.2,kv,ev,iA index]
end Go.Proofs.YtoohajbhpbjpcaaGreat
