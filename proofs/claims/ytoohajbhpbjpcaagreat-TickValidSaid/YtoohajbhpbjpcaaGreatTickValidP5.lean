/-
  Part 5 of the texts under the law TickValid: the layer of abstract values, walks and plain laws. Conditions: those that each theorem names.
-/
import Derived.WalkKit
import Derived.Lib.Hide
import Derived.Deep.OwnRows
import Derived.Deep.Draws
import Derived.Test.YtoohajbhpbjpcaaGreatChecked
import Derived.ProofKit
import Derived.OpenShut
import Derived.ShutString
import Derived.ChangeOld
import Derived.Below
import Derived.SizedLaws
import Derived.Deep.Slices
import Derived.Deep.Fields
import Derived.ChangeSame
import Derived.Test.YtoohajbhpbjpcaaGreatProg
import Derived.Sort.AssemblyPlain
import Derived.Test.YtoohajbhpbjpcaaGreatTickValidP4
namespace Go.Proofs.YtoohajbhpbjpcaaGreat
set_option linter.unusedVariables false
set_option linter.unusedSimpArgs false
set_option linter.defProp false
set_option maxRecDepth 10000
set_option maxHeartbeats 4000000
structure Field where
 name:List UInt8
 bits:Int
 low:Int
structure Kind where
 name:List UInt8
 fields:List Field
structure Ent where
 n:Int
 gen:Int
structure Comp where
 kind:Int
 vals:List Int
structure Item where
 ent:Ent
 comps:List Comp
structure Wd where
 kinds:List Kind
 gens:List Int
 items:List Item
structure Evt where
 sys:Int
 ent:Ent
 val:Int
structure Ref where
 kind:Int
 field:Int
structure Arg where
 has:Bool
 n:Int
 ref:Ref
structure Op where
 act:Int
 to:Ref
 a:Arg
 b:Arg
structure Sys where
 name:List UInt8
 wth:List Int
 wout:List Int
 reads:List Int
 writes:List Int
 ops:List Op
 spawn:List Comp
instance:DecidableEq Field:=λa b=>decidable_of_iff (a.name=b.name/\a.bits=b.bits/\a.low=b.low) (by cases a;cases b;simp)
instance:DecidableEq Kind:=λa b=>decidable_of_iff (a.name=b.name/\a.fields=b.fields) (by cases a;cases b;simp)
instance:DecidableEq Ent:=λa b=>decidable_of_iff (a.n=b.n/\a.gen=b.gen) (by cases a;cases b;simp)
instance:DecidableEq Comp:=λa b=>decidable_of_iff (a.kind=b.kind/\a.vals=b.vals) (by cases a;cases b;simp)
instance:Inhabited Comp:=⟨⟨default,default⟩⟩
instance:DecidableEq Item:=λa b=>decidable_of_iff (a.ent=b.ent/\a.comps=b.comps) (by cases a;cases b;simp)
instance:DecidableEq Ref:=λa b=>decidable_of_iff (a.kind=b.kind/\a.field=b.field) (by cases a;cases b;simp)
def I64(x:Int):Prop:=-9223372036854775808<=x/\x<=9223372036854775807
section
open Go.RowKit
abbrev Reg:=Nat->Prop
def Lt(w:World):Reg:=λb=>b<w.heap.size
def Wi(S:Reg)(w w':World):Prop:=∀b,S b->w'.heap[b]?=w.heap[b]?
section
variable {w w' w'':World}{S T:Reg}
theorem bel{n m:Nat}{a b c:World}(h:Below n a b)(k:Below m b c)(hm:n<=m):Below n a c:=h.trans (k.mono hm)
def Row(w:World)(S:Reg)(sz:Nat)(v:Value)(n:Nat)(xs:List Value):Prop:=
 xs.length=n*sz/\∃A cap,v= .slice A n cap/\n<=cap/\(0<n->∃b off,A=some ⟨b,off,none⟩/\S b/\∀j u,xs[j]?=some u->w.cell? ⟨b,off+j,none⟩=some u)
variable {sz n:Nat}{v:Value}{xs:List Value}
theorem Row.nil(w:World)(S:Reg)(sz:Nat):Row w S sz (.slice none 0 0) 0 []:=⟨by simp,none,0,rfl,Nat.le_refl _,λh=>absurd h (by omega)⟩
end
def Cells{α:Type}(C:List Value->α->Prop)(sz:Nat):List Value->List α->Prop
 |xs,[]=>xs=[]
 |xs,x::l=>∃c ys,xs=c++ys/\c.length=sz/\C c x/\Cells C sz ys l
section
variable {α:Type}{C C':List Value->α->Prop}{sz:Nat}{xs ys:List Value}{l m:List α}
theorem Cells.nil:Cells C sz [] []:=rfl
theorem Cells.length(h:Cells C sz xs l):xs.length=l.length*sz:=by
 induction l generalizing xs with
 |nil=>have:xs=[]:=h;simp[this]
 |cons x l ih=>
  obtain⟨c,ys,rfl,h1,_,h3⟩:=h;simp[ih h3,h1,Nat.add_mul,Nat.add_comm]
end
def Sl{α:Type}(w:World)(S:Reg)(sz:Nat)(C:World->Reg->List Value->α->Prop)(v:Value)(l:List α):Prop:=
 ∃xs,Row w S sz v l.length xs/\Cells (C w S) sz xs l
section
variable {α:Type}{w w':World}{S T:Reg}{sz:Nat}{C:World->Reg->List Value->α->Prop}{v:Value}{l:List α}
theorem Sl.nil(w:World)(S:Reg)(sz:Nat)(C:World->Reg->List Value->α->Prop):Sl w S sz C (.slice none 0 0) []:=⟨[],Row.nil w S sz,.nil⟩
end
abbrev Vz(l:List UInt8):Value:=.string ⟨l.toArray⟩
def Wf(_:World)(_:Reg)(c:List Value)(x:Int):Prop:=c=[.int .i64 x]
def Vo(_:World)(_:Reg)(c:List Value)(f:Field):Prop:=c=[Vz f.name,.int .i64 f.bits,.int .i64 f.low]
abbrev Rx(w:World)(S:Reg)(v:Value)(l:List Int):Prop:=Sl w S 1 Wf v l
abbrev Fields(w:World)(S:Reg)(v:Value)(l:List Field):Prop:=Sl w S 3 Vo v l
def WD(w:World)(S:Reg)(c:List Value)(k:Kind):Prop:=∃vf,c=[Vz k.name,vf]/\Fields w S vf k.fields
abbrev Wg(w:World)(S:Reg)(v:Value)(l:List Kind):Prop:=Sl w S 2 WD v l
def WQ(w:World)(S:Reg)(c:List Value)(x:Comp):Prop:=∃v,c=[.int .i64 x.kind,v]/\Rx w S v x.vals
abbrev Wc(w:World)(S:Reg)(v:Value)(l:List Comp):Prop:=Sl w S 2 WQ v l
def WE(w:World)(S:Reg)(c:List Value)(x:Item):Prop:=∃v,c=[.int .i64 x.ent.n,.int .i64 x.ent.gen,v]/\Wc w S v x.comps
abbrev Wh(w:World)(S:Reg)(v:Value)(l:List Item):Prop:=Sl w S 3 WE v l
section
variable {w w':World}{S T:Reg}{v:Value}
variable {A:Option Addr}{n cap i:Nat}
end
section
variable {α:Type}{w w':World}{base:Nat}{e:TypeId}{S T:Reg}{sz:Nat}{C:World->Reg->List Value->α->Prop}{v:Value}{l:List α}
end
section
variable {w w':World}{b:Nat}{e:TypeId}{l:List Int}
end
section
variable {w w':World}{g:Nat}{t:TypeId}{cs:Array Value}
end
end
section
open Go.ChangeShapes Go.WideShapes Go.ChangeAt Go.RowKit Go.Deep
theorem Vx{x:Int}(h:(Lit.int .i64 x).wf=true):I64 x:=by
 have:=h;simp[Lit.wf,IntKind.min,IntKind.max,IntKind.signed,IntKind.bits]at this;unfold I64;omega
theorem Um{α:Type}{sz:Nat}{cs:α->List Value}{f:Nat->Option Value}(hcs:∀x,(cs x).length=sz):∀(l:List α) (off:Nat),(∀i (hi:i<l.length) j u,(cs l[i])[j]?=some u->f (off+(i*sz+j))=some u)->
  ∀j u,(l.flatMap cs)[j]?=some u->f (off+j)=some u:=by
 intro l
 induction l with
 |nil=>intro off _ j u h;simp at h
 |cons x l ih=>
  intro off h j u hj;rw[List.flatMap_cons]at hj;rcases Nat.lt_or_ge j sz with hlt|hge
  ·rw[List.getElem?_append_left (by rw[hcs];exact hlt)]at hj
   have:=h 0 (by simp) j u hj;simpa using this
  ·rw[List.getElem?_append_right (by rw[hcs];exact hge),hcs]at hj
   have:=ih (off+sz) (λi hi j u hu=>by
    have:=h (i+1) (by simp;omega) j u hu;rwa[Nat.add_mul,Nat.one_mul,show off+(i*sz+sz+j)=off+sz+(i*sz+j) by omega]at this) (j-sz) u hj
   rwa[show off+sz+(j-sz)=off+j by omega]at this
theorem Kk{α:Type}{sz:Nat}{cs:α->List Value}{C:List Value->α->Prop}(hcs:∀x,(cs x).length=sz)(hC:∀x,C (cs x) x)(l:List α):Cells C sz (l.flatMap cs) l:=by
 induction l with
 |nil=>rfl
 |cons x l ih=>exact⟨cs x,l.flatMap cs,by rw[List.flatMap_cons],hcs x,hC x,ih⟩
theorem NH{α:Type}{w:World}{sz:Nat}{C:World->Reg->List Value->α->Prop}{a:Addr}{n cap:Nat}{l:List α}{cs:α->List Value}(hn:n<=cap)(hl:l.length=n)(hsz:0<sz)(hcs:∀x,(cs x).length=sz)(hC:∀x,C w (Lt w) (cs x) x)
  (hcell:∀i (hi:i<l.length) j u,(cs l[i])[j]?=some u->w.cell? (a.add (i*sz+j))=some u):Sl w (Lt w) sz C (.slice (some a) n cap) l:=by
 subst hl;refine⟨l.flatMap cs,⟨?_,some a,cap,rfl,hn,λh0=>?_⟩,Kk hcs hC l⟩
 ·have:=(Kk (C:=λ_ _=>True) hcs (λ_=>trivial) l).length
  exact this
 ·obtain⟨b,off,spot⟩:=a
  have h1:∃u,(cs l[0])[0]?=some u:=⟨_,AG (by rw[hcs];exact hsz)⟩;obtain⟨u,hu⟩:=h1;have h2:=hcell 0 h0 0 u hu;have hspot:spot=none:=by simpa[Addr.add]using World.cell?_spot h2
  subst hspot;refine⟨b,off,rfl,?_,?_⟩
  ·rw[Go.WideShapes.add_plain]at h2
   unfold World.cell? at h2;simp only at h2;show b<w.heap.size
   rcases Nat.lt_or_ge b w.heap.size with h|h
   ·exact h
   ·rw[Array.getElem?_eq_none h]at h2
    cases h2
  ·refine Um (f:=λk=>w.cell? ⟨b,k,none⟩) hcs l off λi hi j u hu=>?_
   have:=hcell i hi j u hu;rwa[Go.WideShapes.add_plain]at this
section
variable {H:Type}{enc:TypeId×Value->H}{w:World}{a:Option Addr}{len cap:Nat}{d:DataW H}{p:List MemPlace}
theorem WG(h:DataW.Trod enc Tryz.prog w 0 (λ_=>true) true 22 (.slice a len cap) d p):
  ∃z:List Int,Rx w (Lt w) (.slice a len cap) z/\(z=[]\/∃elems spare,d= .slice elems spare/\z.length<=elems.length+spare.length):=by
 obtain⟨fuel,hf⟩:=h;rcases open_slice Tryz.underlying22 hf with⟨hcs,_⟩|⟨x,l,c,m,n,D,Pl,hcs,hb,hl,hm,hmm,hx,hi⟩
 ·simp[Value.cells]at hcs
  obtain⟨rfl,rfl,rfl⟩:=hcs;exact⟨[],Sl.nil _ _ _ _,.inl rfl⟩
 ·simp[Value.cells]at hcs
  obtain⟨rfl,rfl,rfl⟩:=hcs;have hlm:len<=m:=by rw[hmm];split<;>omega
  have hex:∀i,∃e:Int,i<len->∀j u,([Value.int .i64 e])[j]?=some u->w.cell? (x.add (i*1+j))=some u:=by
   intro i;by_cases hil:i<len
   ·obtain⟨cs',hc,ht⟩:=hi i (by omega)
    rw[show Tryz.prog.cellsOf 3=1 from by kernel_rfl]at hc;obtain⟨_,hcl,hat⟩:=World.cells?_some hc;obtain⟨k,rfl,_⟩:=DataW.trod_int Tryz.underlying3 ht;refine⟨k,λ_ j u hu=>?_⟩
    have hj:j=0:=by
     have:=(List.getElem?_eq_some_iff.1 hu).1;simp at this;omega
    subst hj;have:=hat 0 (by omega);rw[Go.Deep.add_add]at this;rw[this,hu]
   ·exact⟨0,λh=>absurd h hil⟩
  obtain⟨f,hf'⟩:=Classical.axiomOfChoice hex;refine⟨(List.range len).map f,NH (cs:=λe=>[Value.int .i64 e]) hl (by simp) (by omega) (λ_=>rfl) (λ_=>rfl) (λi hi' j u hu=>?_),.inr ⟨_,_,(Prod.mk.inj hx).1,by simp⟩⟩;simp only[AB,List.length_range]at hi';exact hf' i hi' j u (by simpa using hu)
end
end
instance tAg3:TAg Tryz.prog 3 false:=⟨by kernel_rfl⟩
instance tSize3:TSize Tryz.prog 3 1:=⟨by kernel_rfl⟩
instance tZe3:TZe Tryz.prog 3 [.int .i64 0]:=⟨by kernel_rfl⟩
instance tBy3:TBy Tryz.prog 3 8:=⟨by kernel_rfl⟩
instance tAg4:TAg Tryz.prog 4 false:=⟨by kernel_rfl⟩
instance tSize4:TSize Tryz.prog 4 1:=⟨by kernel_rfl⟩
instance tZe4:TZe Tryz.prog 4 [.bool false]:=⟨by kernel_rfl⟩
instance tBy4:TBy Tryz.prog 4 1:=⟨by kernel_rfl⟩
instance tAg9:TAg Tryz.prog 9 false:=⟨by kernel_rfl⟩
instance tSize9:TSize Tryz.prog 9 1:=⟨by kernel_rfl⟩
instance tZe9:TZe Tryz.prog 9 [.string ByteArray.empty]:=⟨by kernel_rfl⟩
instance tSg9:TSg Tryz.prog 9:=⟨by kernel_rfl⟩
instance tAg22:TAg Tryz.prog 22 false:=⟨by kernel_rfl⟩
instance tSize22:TSize Tryz.prog 22 1:=⟨by kernel_rfl⟩
instance tZe22:TZe Tryz.prog 22 [.slice none 0 0]:=⟨by kernel_rfl⟩
instance tEl22:TEl Tryz.prog 22 3:=⟨by kernel_rfl⟩
instance tRo22:TRo Tryz.prog 22 3 1 8:=⟨by kernel_rfl⟩
instance tAg24:TAg Tryz.prog 24 false:=⟨by kernel_rfl⟩
instance tSize24:TSize Tryz.prog 24 1:=⟨by kernel_rfl⟩
instance tEl24:TEl Tryz.prog 24 133:=⟨by kernel_rfl⟩
instance tRo24:TRo Tryz.prog 24 133 2 40:=⟨by kernel_rfl⟩
instance tAg25:TAg Tryz.prog 25 false:=⟨by kernel_rfl⟩
instance tSize25:TSize Tryz.prog 25 1:=⟨by kernel_rfl⟩
instance tEl25:TEl Tryz.prog 25 54:=⟨by kernel_rfl⟩
instance tRo25:TRo Tryz.prog 25 54 3 40:=⟨by kernel_rfl⟩
instance tAg27:TAg Tryz.prog 27 true:=⟨by kernel_rfl⟩
instance tSize27:TSize Tryz.prog 27 3:=⟨by kernel_rfl⟩
instance tZe27:TZe Tryz.prog 27 [.slice none 0 0,.slice none 0 0,.slice none 0 0]:=⟨by kernel_rfl⟩
instance tFl27_0:TFl Tryz.prog 27 0 0 24:=⟨by kernel_rfl⟩
instance tFl27_1:TFl Tryz.prog 27 1 1 22:=⟨by kernel_rfl⟩
instance tFl27_2:TFl Tryz.prog 27 2 2 25:=⟨by kernel_rfl⟩
instance tSt27:TSt Tryz.prog 27 [.slice none 0 0,.slice none 0 0,.slice none 0 0] [(0,1),(1,1),(2,1)]:=⟨by kernel_rfl⟩
instance tAg51:TAg Tryz.prog 51 true:=⟨by kernel_rfl⟩
instance tSize51:TSize Tryz.prog 51 2:=⟨by kernel_rfl⟩
instance tZe51:TZe Tryz.prog 51 [.int .i64 0,.int .i64 0]:=⟨by kernel_rfl⟩
instance tFl51_0:TFl Tryz.prog 51 0 0 3:=⟨by kernel_rfl⟩
instance tFl51_1:TFl Tryz.prog 51 1 1 3:=⟨by kernel_rfl⟩
instance tSt51:TSt Tryz.prog 51 [.int .i64 0,.int .i64 0] [(0,1),(1,1)]:=⟨by kernel_rfl⟩
instance tAg52:TAg Tryz.prog 52 false:=⟨by kernel_rfl⟩
instance tSize52:TSize Tryz.prog 52 1:=⟨by kernel_rfl⟩
instance tEl52:TEl Tryz.prog 52 85:=⟨by kernel_rfl⟩
instance tRo52:TRo Tryz.prog 52 85 2 32:=⟨by kernel_rfl⟩
instance tAg54:TAg Tryz.prog 54 true:=⟨by kernel_rfl⟩
instance tSize54:TSize Tryz.prog 54 3:=⟨by kernel_rfl⟩
instance tZe54:TZe Tryz.prog 54 [.int .i64 0,.int .i64 0,.slice none 0 0]:=⟨by kernel_rfl⟩
instance tBy54:TBy Tryz.prog 54 40:=⟨by kernel_rfl⟩
instance tFl54_0:TFl Tryz.prog 54 0 0 51:=⟨by kernel_rfl⟩
instance tFl54_1:TFl Tryz.prog 54 1 2 52:=⟨by kernel_rfl⟩
instance tSt54:TSt Tryz.prog 54 [.int .i64 0,.int .i64 0,.slice none 0 0] [(0,2),(2,1)]:=⟨by kernel_rfl⟩
instance tEl57:TEl Tryz.prog 57 80:=⟨by kernel_rfl⟩
instance tRo57:TRo Tryz.prog 57 80 7 160:=⟨by kernel_rfl⟩
instance tEl60:TEl Tryz.prog 60 64:=⟨by kernel_rfl⟩
instance tRo60:TRo Tryz.prog 60 64 1 8:=⟨by kernel_rfl⟩
instance tAg64:TAg Tryz.prog 64 false:=⟨by kernel_rfl⟩
instance tSize64:TSize Tryz.prog 64 1:=⟨by kernel_rfl⟩
instance tZe64:TZe Tryz.prog 64 [.int .u64 0]:=⟨by kernel_rfl⟩
instance tBy64:TBy Tryz.prog 64 8:=⟨by kernel_rfl⟩
instance tAg67:TAg Tryz.prog 67 false:=⟨by kernel_rfl⟩
instance tSize67:TSize Tryz.prog 67 1:=⟨by kernel_rfl⟩
instance tEl67:TEl Tryz.prog 67 73:=⟨by kernel_rfl⟩
instance tRo67:TRo Tryz.prog 67 73 4 32:=⟨by kernel_rfl⟩
instance tAg73:TAg Tryz.prog 73 true:=⟨by kernel_rfl⟩
instance tSize73:TSize Tryz.prog 73 4:=⟨by kernel_rfl⟩
instance tZe73:TZe Tryz.prog 73 [.int .i64 0,.int .i64 0,.int .i64 0,.int .i64 0]:=⟨by kernel_rfl⟩
instance tFl73_1:TFl Tryz.prog 73 1 1 51:=⟨by kernel_rfl⟩
instance tSt73:TSt Tryz.prog 73 [.int .i64 0,.int .i64 0,.int .i64 0,.int .i64 0] [(0,1),(1,2),(3,1)]:=⟨by kernel_rfl⟩
instance tAg78:TAg Tryz.prog 78 false:=⟨by kernel_rfl⟩
instance tSize78:TSize Tryz.prog 78 1:=⟨by kernel_rfl⟩
instance tEl78:TEl Tryz.prog 78 155:=⟨by kernel_rfl⟩
instance tRo78:TRo Tryz.prog 78 155 11 88:=⟨by kernel_rfl⟩
instance tAg80:TAg Tryz.prog 80 true:=⟨by kernel_rfl⟩
instance tSize80:TSize Tryz.prog 80 7:=⟨by kernel_rfl⟩
instance tZe80:TZe Tryz.prog 80 [.string ByteArray.empty,.slice none 0 0,.slice none 0 0,.slice none 0 0,.slice none 0 0,.slice none 0 0,.slice none 0 0]:=⟨by kernel_rfl⟩
instance tFl80_0:TFl Tryz.prog 80 0 0 9:=⟨by kernel_rfl⟩
instance tFl80_1:TFl Tryz.prog 80 1 1 22:=⟨by kernel_rfl⟩
instance tFl80_2:TFl Tryz.prog 80 2 2 22:=⟨by kernel_rfl⟩
instance tFl80_3:TFl Tryz.prog 80 3 3 22:=⟨by kernel_rfl⟩
instance tFl80_4:TFl Tryz.prog 80 4 4 22:=⟨by kernel_rfl⟩
instance tFl80_5:TFl Tryz.prog 80 5 5 78:=⟨by kernel_rfl⟩
instance tFl80_6:TFl Tryz.prog 80 6 6 52:=⟨by kernel_rfl⟩
instance tSt80:TSt Tryz.prog 80 [.string ByteArray.empty,.slice none 0 0,.slice none 0 0,.slice none 0 0,.slice none 0 0,.slice none 0 0,.slice none 0 0] [(0,1),(1,1),(2,1),(3,1),(4,1),(5,1),(6,1)]:=⟨by kernel_rfl⟩
instance tAg85:TAg Tryz.prog 85 true:=⟨by kernel_rfl⟩
instance tSize85:TSize Tryz.prog 85 2:=⟨by kernel_rfl⟩
instance tZe85:TZe Tryz.prog 85 [.int .i64 0,.slice none 0 0]:=⟨by kernel_rfl⟩
instance tBy85:TBy Tryz.prog 85 32:=⟨by kernel_rfl⟩
instance tFl85_0:TFl Tryz.prog 85 0 0 3:=⟨by kernel_rfl⟩
instance tFl85_1:TFl Tryz.prog 85 1 1 22:=⟨by kernel_rfl⟩
instance tSt85:TSt Tryz.prog 85 [.int .i64 0,.slice none 0 0] [(0,1),(1,1)]:=⟨by kernel_rfl⟩
instance tAg86:TAg Tryz.prog 86 false:=⟨by kernel_rfl⟩
instance tSize86:TSize Tryz.prog 86 1:=⟨by kernel_rfl⟩
instance tFl88_0:TFl Tryz.prog 88 0 0 22:=⟨by kernel_rfl⟩
instance tSt88:TSt Tryz.prog 88 [.slice none 0 0] [(0,1)]:=⟨by kernel_rfl⟩
instance tAg91:TAg Tryz.prog 91 false:=⟨by kernel_rfl⟩
instance tSize91:TSize Tryz.prog 91 1:=⟨by kernel_rfl⟩
instance tZe91:TZe Tryz.prog 91 [.slice none 0 0]:=⟨by kernel_rfl⟩
instance tEl91:TEl Tryz.prog 91 95:=⟨by kernel_rfl⟩
instance tRo91:TRo Tryz.prog 91 95 5 56:=⟨by kernel_rfl⟩
instance tAg95:TAg Tryz.prog 95 true:=⟨by kernel_rfl⟩
instance tSize95:TSize Tryz.prog 95 5:=⟨by kernel_rfl⟩
instance tZe95:TZe Tryz.prog 95 [.int .i64 0,.int .i64 0,.int .i64 0,.int .i64 0,.slice none 0 0]:=⟨by kernel_rfl⟩
instance tFl95_0:TFl Tryz.prog 95 0 0 3:=⟨by kernel_rfl⟩
instance tFl95_1:TFl Tryz.prog 95 1 1 51:=⟨by kernel_rfl⟩
instance tFl95_2:TFl Tryz.prog 95 2 3 3:=⟨by kernel_rfl⟩
instance tFl95_3:TFl Tryz.prog 95 3 4 52:=⟨by kernel_rfl⟩
instance tSt95:TSt Tryz.prog 95 [.int .i64 0,.int .i64 0,.int .i64 0,.int .i64 0,.slice none 0 0] [(0,1),(1,2),(3,1),(4,1)]:=⟨by kernel_rfl⟩
instance tAg97:TAg Tryz.prog 97 false:=⟨by kernel_rfl⟩
instance tSize97:TSize Tryz.prog 97 1:=⟨by kernel_rfl⟩
instance tZe97:TZe Tryz.prog 97 [.slice none 0 0]:=⟨by kernel_rfl⟩
instance tEl97:TEl Tryz.prog 97 51:=⟨by kernel_rfl⟩
instance tRo97:TRo Tryz.prog 97 51 2 16:=⟨by kernel_rfl⟩
instance tEl124:TEl Tryz.prog 124 91:=⟨by kernel_rfl⟩
instance tRo124:TRo Tryz.prog 124 91 1 24:=⟨by kernel_rfl⟩
instance tAg131:TAg Tryz.prog 131 false:=⟨by kernel_rfl⟩
instance tSize131:TSize Tryz.prog 131 1:=⟨by kernel_rfl⟩
instance tEl131:TEl Tryz.prog 131 136:=⟨by kernel_rfl⟩
instance tRo131:TRo Tryz.prog 131 136 3 32:=⟨by kernel_rfl⟩
instance tAg133:TAg Tryz.prog 133 true:=⟨by kernel_rfl⟩
instance tSize133:TSize Tryz.prog 133 2:=⟨by kernel_rfl⟩
instance tZe133:TZe Tryz.prog 133 [.string ByteArray.empty,.slice none 0 0]:=⟨by kernel_rfl⟩
instance tBy133:TBy Tryz.prog 133 40:=⟨by kernel_rfl⟩
instance tFl133_0:TFl Tryz.prog 133 0 0 9:=⟨by kernel_rfl⟩
instance tFl133_1:TFl Tryz.prog 133 1 1 131:=⟨by kernel_rfl⟩
instance tSt133:TSt Tryz.prog 133 [.string ByteArray.empty,.slice none 0 0] [(0,1),(1,1)]:=⟨by kernel_rfl⟩
instance tAg136:TAg Tryz.prog 136 true:=⟨by kernel_rfl⟩
instance tSize136:TSize Tryz.prog 136 3:=⟨by kernel_rfl⟩
instance tZe136:TZe Tryz.prog 136 [.string ByteArray.empty,.int .i64 0,.int .i64 0]:=⟨by kernel_rfl⟩
instance tFl136_0:TFl Tryz.prog 136 0 0 9:=⟨by kernel_rfl⟩
instance tFl136_1:TFl Tryz.prog 136 1 1 3:=⟨by kernel_rfl⟩
instance tFl136_2:TFl Tryz.prog 136 2 2 3:=⟨by kernel_rfl⟩
instance tSt136:TSt Tryz.prog 136 [.string ByteArray.empty,.int .i64 0,.int .i64 0] [(0,1),(1,1),(2,1)]:=⟨by kernel_rfl⟩
instance tAg140:TAg Tryz.prog 140 false:=⟨by kernel_rfl⟩
instance tSize140:TSize Tryz.prog 140 1:=⟨by kernel_rfl⟩
instance tEl140:TEl Tryz.prog 140 22:=⟨by kernel_rfl⟩
instance tRo140:TRo Tryz.prog 140 22 1 24:=⟨by kernel_rfl⟩
instance tAg151:TAg Tryz.prog 151 true:=⟨by kernel_rfl⟩
instance tSize151:TSize Tryz.prog 151 2:=⟨by kernel_rfl⟩
instance tZe151:TZe Tryz.prog 151 [.int .i64 0,.int .i64 0]:=⟨by kernel_rfl⟩
instance tFl151_0:TFl Tryz.prog 151 0 0 3:=⟨by kernel_rfl⟩
instance tFl151_1:TFl Tryz.prog 151 1 1 3:=⟨by kernel_rfl⟩
instance tSt151:TSt Tryz.prog 151 [.int .i64 0,.int .i64 0] [(0,1),(1,1)]:=⟨by kernel_rfl⟩
instance tAg153:TAg Tryz.prog 153 true:=⟨by kernel_rfl⟩
instance tSize153:TSize Tryz.prog 153 4:=⟨by kernel_rfl⟩
instance tZe153:TZe Tryz.prog 153 [.bool false,.int .i64 0,.int .i64 0,.int .i64 0]:=⟨by kernel_rfl⟩
instance tFl153_0:TFl Tryz.prog 153 0 0 4:=⟨by kernel_rfl⟩
instance tFl153_1:TFl Tryz.prog 153 1 1 3:=⟨by kernel_rfl⟩
instance tFl153_2:TFl Tryz.prog 153 2 2 151:=⟨by kernel_rfl⟩
instance tSt153:TSt Tryz.prog 153 [.bool false,.int .i64 0,.int .i64 0,.int .i64 0] [(0,1),(1,1),(2,2)]:=⟨by kernel_rfl⟩
instance tAg155:TAg Tryz.prog 155 true:=⟨by kernel_rfl⟩
instance tSize155:TSize Tryz.prog 155 11:=⟨by kernel_rfl⟩
instance tZe155:TZe Tryz.prog 155 [.int .i64 0,.int .i64 0,.int .i64 0,.bool false,.int .i64 0,.int .i64 0,.int .i64 0,.bool false,.int .i64 0,.int .i64 0,.int .i64 0]:=⟨by kernel_rfl⟩
instance tFl155_0:TFl Tryz.prog 155 0 0 3:=⟨by kernel_rfl⟩
instance tFl155_1:TFl Tryz.prog 155 1 1 151:=⟨by kernel_rfl⟩
instance tFl155_2:TFl Tryz.prog 155 2 3 153:=⟨by kernel_rfl⟩
instance tFl155_3:TFl Tryz.prog 155 3 7 153:=⟨by kernel_rfl⟩
instance tSt155:TSt Tryz.prog 155 [.int .i64 0,.int .i64 0,.int .i64 0,.bool false,.int .i64 0,.int .i64 0,.int .i64 0,.bool false,.int .i64 0,.int .i64 0,.int .i64 0] [(0,1),(1,2),(3,4),(7,4)]:=⟨by kernel_rfl⟩
instance tEl156:TEl Tryz.prog 156 9:=⟨by kernel_rfl⟩
instance tEl158:TEl Tryz.prog 158 4:=⟨by kernel_rfl⟩
instance tAg171:TAg Tryz.prog 171 false:=⟨by kernel_rfl⟩
instance tSize171:TSize Tryz.prog 171 1:=⟨by kernel_rfl⟩
instance tZe171:TZe Tryz.prog 171 [.nilFunc]:=⟨by kernel_rfl⟩
instance tAg180:TAg Tryz.prog 180 false:=⟨by kernel_rfl⟩
instance tSize180:TSize Tryz.prog 180 1:=⟨by kernel_rfl⟩
instance tZe180:TZe Tryz.prog 180 [.pointer none]:=⟨by kernel_rfl⟩
instance tAg182:TAg Tryz.prog 182 true:=⟨by kernel_rfl⟩
instance tSize182:TSize Tryz.prog 182 2:=⟨by kernel_rfl⟩
instance tZe182:TZe Tryz.prog 182 [.int .u64 0,.int .u64 0]:=⟨by kernel_rfl⟩
instance tFl182_0:TFl Tryz.prog 182 0 0 64:=⟨by kernel_rfl⟩
instance tFl182_1:TFl Tryz.prog 182 1 1 64:=⟨by kernel_rfl⟩
instance tSt182:TSt Tryz.prog 182 [.int .u64 0,.int .u64 0] [(0,1),(1,1)]:=⟨by kernel_rfl⟩
instance tFl184_0:TFl Tryz.prog 184 0 0 24:=⟨by kernel_rfl⟩
instance tFl184_1:TFl Tryz.prog 184 1 1 80:=⟨by kernel_rfl⟩
instance tFl184_2:TFl Tryz.prog 184 2 8 54:=⟨by kernel_rfl⟩
instance tFl184_3:TFl Tryz.prog 184 3 11 182:=⟨by kernel_rfl⟩
instance tFl184_4:TFl Tryz.prog 184 4 13 91:=⟨by kernel_rfl⟩
instance tFl184_5:TFl Tryz.prog 184 5 14 67:=⟨by kernel_rfl⟩
instance tFl184_6:TFl Tryz.prog 184 6 15 3:=⟨by kernel_rfl⟩
instance tSt184:TSt Tryz.prog 184 [.slice none 0 0,.string ByteArray.empty,.slice none 0 0,.slice none 0 0,.slice none 0 0,.slice none 0 0,.slice none 0 0,.slice none 0 0,.int .i64 0,.int .i64 0,.slice none 0 0,.int .u64 0,.int .u64 0,.slice none 0 0,.slice none 0 0,.int .i64 0] [(0,1),(1,7),(8,3),(11,2),(13,1),(14,1),(15,1)]:=⟨by kernel_rfl⟩
instance tAg233:TAg Tryz.prog 233 false:=⟨by kernel_rfl⟩
instance tSize233:TSize Tryz.prog 233 1:=⟨by kernel_rfl⟩
instance tZe233:TZe Tryz.prog 233 [.slice none 0 0]:=⟨by kernel_rfl⟩
instance tEl233:TEl Tryz.prog 233 236:=⟨by kernel_rfl⟩
instance tRo233:TRo Tryz.prog 233 236 4 48:=⟨by kernel_rfl⟩
instance tAg236:TAg Tryz.prog 236 true:=⟨by kernel_rfl⟩
instance tSize236:TSize Tryz.prog 236 4:=⟨by kernel_rfl⟩
instance tZe236:TZe Tryz.prog 236 [.int .i64 0,.int .i64 0,.int .i64 0,.slice none 0 0]:=⟨by kernel_rfl⟩
instance tFl236_0:TFl Tryz.prog 236 0 0 3:=⟨by kernel_rfl⟩
instance tFl236_1:TFl Tryz.prog 236 1 1 54:=⟨by kernel_rfl⟩
instance tSt236:TSt Tryz.prog 236 [.int .i64 0,.int .i64 0,.int .i64 0,.slice none 0 0] [(0,1),(1,3)]:=⟨by kernel_rfl⟩
instance tAg261:TAg Tryz.prog 261 false:=⟨by kernel_rfl⟩
instance tSize261:TSize Tryz.prog 261 1:=⟨by kernel_rfl⟩
instance tAg262:TAg Tryz.prog 262 false:=⟨by kernel_rfl⟩
instance tSize262:TSize Tryz.prog 262 1:=⟨by kernel_rfl⟩
instance tEl262:TEl Tryz.prog 262 271:=⟨by kernel_rfl⟩
instance tRo262:TRo Tryz.prog 262 271 1 8:=⟨by kernel_rfl⟩
instance tFl264_0:TFl Tryz.prog 264 0 0 24:=⟨by kernel_rfl⟩
instance tFl264_1:TFl Tryz.prog 264 1 1 22:=⟨by kernel_rfl⟩
instance tFl264_2:TFl Tryz.prog 264 2 2 262:=⟨by kernel_rfl⟩
instance tFl264_3:TFl Tryz.prog 264 3 3 261:=⟨by kernel_rfl⟩
instance tSt264:TSt Tryz.prog 264 [.slice none 0 0,.slice none 0 0,.slice none 0 0,.map none] [(0,1),(1,1),(2,1),(3,1)]:=⟨by kernel_rfl⟩
instance tAg271:TAg Tryz.prog 271 false:=⟨by kernel_rfl⟩
instance tSize271:TSize Tryz.prog 271 1:=⟨by kernel_rfl⟩
instance tZe271:TZe Tryz.prog 271 [.pointer none]:=⟨by kernel_rfl⟩
instance tAg274:TAg Tryz.prog 274 false:=⟨by kernel_rfl⟩
instance tSize274:TSize Tryz.prog 274 1:=⟨by kernel_rfl⟩
instance tAg275:TAg Tryz.prog 275 false:=⟨by kernel_rfl⟩
instance tSize275:TSize Tryz.prog 275 1:=⟨by kernel_rfl⟩
instance tEl275:TEl Tryz.prog 275 309:=⟨by kernel_rfl⟩
instance tRo275:TRo Tryz.prog 275 309 1 8:=⟨by kernel_rfl⟩
instance tFl277_0:TFl Tryz.prog 277 0 0 22:=⟨by kernel_rfl⟩
instance tFl277_1:TFl Tryz.prog 277 1 1 274:=⟨by kernel_rfl⟩
instance tFl277_2:TFl Tryz.prog 277 2 2 275:=⟨by kernel_rfl⟩
instance tSt277:TSt Tryz.prog 277 [.slice none 0 0,.pointer none,.slice none 0 0] [(0,1),(1,1),(2,1)]:=⟨by kernel_rfl⟩
instance tAg282:TAg Tryz.prog 282 false:=⟨by kernel_rfl⟩
instance tSize282:TSize Tryz.prog 282 1:=⟨by kernel_rfl⟩
instance tZe282:TZe Tryz.prog 282 [.int .u64 0]:=⟨by kernel_rfl⟩
instance tEl292:TEl Tryz.prog 292 153:=⟨by kernel_rfl⟩
instance tAg309:TAg Tryz.prog 309 false:=⟨by kernel_rfl⟩
instance tSize309:TSize Tryz.prog 309 1:=⟨by kernel_rfl⟩
instance tZe309:TZe Tryz.prog 309 [.pointer none]:=⟨by kernel_rfl⟩
instance tAg317:TAg Tryz.prog 317 false:=⟨by kernel_rfl⟩
instance tSize317:TSize Tryz.prog 317 1:=⟨by kernel_rfl⟩
instance tFl319_0:TFl Tryz.prog 319 0 0 97:=⟨by kernel_rfl⟩
instance tFl319_1:TFl Tryz.prog 319 1 1 22:=⟨by kernel_rfl⟩
instance tFl319_2:TFl Tryz.prog 319 2 2 317:=⟨by kernel_rfl⟩
instance tSt319:TSt Tryz.prog 319 [.slice none 0 0,.slice none 0 0,.map none] [(0,1),(1,1),(2,1)]:=⟨by kernel_rfl⟩
instance tFl333_0:TFl Tryz.prog 333 0 0 140:=⟨by kernel_rfl⟩
instance tFl333_1:TFl Tryz.prog 333 1 1 22:=⟨by kernel_rfl⟩
instance tFl333_2:TFl Tryz.prog 333 2 2 317:=⟨by kernel_rfl⟩
instance tSt333:TSt Tryz.prog 333 [.slice none 0 0,.slice none 0 0,.map none] [(0,1),(1,1),(2,1)]:=⟨by kernel_rfl⟩
abbrev iA(n:Int):AV:=.prim (.int .i64 n)
abbrev bA(b:Bool):AV:=.prim (.bool b)
abbrev sA(l:List UInt8):AV:=.prim (DH l)
def fieldA(f:Field):AV:=.agg [sA f.name,iA f.bits,iA f.low]
abbrev EH(o:Bool)(l:List Field):AV:=.lst o 136 3 (l.map fieldA)
def Av(o:Bool)(k:Kind):AV:=.agg [sA k.name,EH o k.fields]
abbrev Ae(o o':Bool)(l:List Kind):AV:=.lst o 133 2 (l.map (Av o'))
abbrev AQ(o:Bool)(l:List Int):AV:=.lst o 3 1 (l.map iA)
instance {f:Field}:Frz (fieldA f) (fieldA f):=⟨rfl⟩
instance {o:Bool}{k:Kind}:Frz (Av o k) (Av false k):=⟨by unfold Av;exact Frz.h⟩
def AH(o:Bool)(c:Comp):AV:=.agg [iA c.kind,AQ o c.vals]
abbrev Aw(o o':Bool)(l:List Comp):AV:=.lst o 85 2 (l.map (AH o'))
def AE(o:Bool)(x:Item):AV:=.agg [iA x.ent.n,iA x.ent.gen,Aw o o x.comps]
abbrev Fv(o o':Bool)(l:List Item):AV:=.lst o 54 3 (l.map (AE o'))
def wdA(o:Bool)(w:Wd):AV:=.agg [Ae o o w.kinds,AQ o w.gens,Fv o o w.items]
def A8(e:Ent):AV:=.agg [iA e.n,iA e.gen]
def C3(e:Evt):AV:=.agg [iA e.sys,iA e.ent.n,iA e.ent.gen,iA e.val]
instance {e:Ent}:Frz (A8 e) (A8 e):=⟨rfl⟩
instance {e:Evt}:Frz (C3 e) (C3 e):=⟨rfl⟩
instance {o:Bool}{k:Comp}:Frz (AH o k) (AH false k):=⟨by unfold AH;exact Frz.h⟩
instance {o:Bool}{k:Item}:Frz (AE o k) (AE false k):=⟨by unfold AE;exact Frz.h⟩
instance {o:Bool}{k:Wd}:Frz (wdA o k) (wdA false k):=⟨by unfold wdA;exact Frz.h⟩
theorem Fc{α:Type}(f:α->AV)(h:∀a,(f a).frz=f a)(l:List α):AV.frzs (l.map f)=l.map f:=by
 rw[ER,List.map_map];exact List.map_congr_left λa _=>h a
theorem RM(o:Bool)(l:List Int):(AQ o l).frz=AQ false l:=by
 show AV.lst false _ _ (AV.frzs (l.map iA))=_
 rw[Fc _ λ_=>rfl]
theorem TJ(a b c d:Int)(w:World):(binOp .eql 51 (.agg #[.int .i64 a,.int .i64 b]) (.agg #[.int .i64 c,.int .i64 d])).run Tryz.prog w= .ok (.bool (decide (a=c)&&decide (b=d))) w:=
 Ut (by kernel_rfl) (by kernel_rfl) (by kernel_rfl) a b c d w
def SJ(a b:Ent):Bool:=decide (a.n=b.n)&&decide (a.gen=b.gen)
theorem Qx(a b:Ent):SJ a b=decide (a=b):=by
 obtain⟨n,g⟩:=a;obtain⟨n',g'⟩:=b;rw[Bool.eq_iff_iff];simp[SJ]
def Al(l:List Int)(n:Int):Int:=if n<1 then 0 else match l with|[]=>0|x::_=>x%n
def Ad(l:List Int)(n:Int):List Int:=if n<1 then l else l.tail
theorem Af(l:List Int){n:Int}(h:1<=n):0<=Al l n/\Al l n<n:=by
 unfold Al;rw[if_neg (by omega)];split
 ·omega
 ·rename_i x _
  exact⟨Int.emod_nonneg x (by omega),Int.emod_lt_of_pos x (by omega)⟩
def Dv(k:Nat):List UInt8:=match k with
 |0=>[115,112,111,116]
 |1=>[108,105,102,101]
 |2=>[116,101,97,109]
 |_=>[103,111,97,108]
def Cb(k:Nat):List UInt8:=match k with
 |0=>[120]
 |1=>[121]
 |_=>[122]
def CS(i:Nat)(l:List Int):Field×List Int:=
 if Al (Ad (Ad l 9) 40) 8=7 then(⟨Cb i,32,-2147483648⟩,Ad (Ad (Ad l 9) 40) 8)
 else(⟨Cb i,1+Al l 9,Al (Ad l 9) 40-30⟩,Ad (Ad (Ad l 9) 40) 8)
def Ba:Nat->Nat->List Int->List Field×List Int
 |_,0,l=>([],l)
 |i,c+1,l=>((CS i l).1::(Ba (i+1) c (CS i l).2).1,(Ba (i+1) c (CS i l).2).2)
def DK(k:Nat)(l:List Int):Kind×List Int:=
 (⟨Dv k,(Ba 0 (1+Al l 3).toNat (Ad l 3)).1⟩,(Ba 0 (1+Al l 3).toNat (Ad l 3)).2)
def BI:Nat->Nat->List Int->List Kind×List Int
 |_,0,l=>([],l)
 |k,c+1,l=>((DK k l).1::(BI (k+1) c (DK k l).2).1,(BI (k+1) c (DK k l).2).2)
def Ap(l:List Int):List Kind×List Int:=BI 0 (1+Al l 4).toNat (Ad l 4)
theorem Ta(x n:Int)(hn:1<=n)(h2:n<=4611686018427387904):PS Tryz.prog 25 [iA x,iA n] (iA (x%n)):=by
 refine Sp (nt:=14) (res:=[.tmp 4]) Tryz.func25 λSf=>?_
 have h3:x.tmod n<n:=Int.tmod_lt_of_pos _ (by omega)
 have h4: -n<x.tmod n:=by
  have:=Int.lt_tmod_of_pos x (b:=n) (by omega);exact this
 have h5:x.tmod n=x%n\/x.tmod n+n=x%n/\x.tmod n<0:=by
  rw[Int.tmod_eq_emod];split
  ·exact .inl (by simp)
  ·have:=Int.emod_nonneg x (b:=n) (by omega)
   have:=Int.emod_lt_of_pos x (b:=n) (by omega);refine .inr ?_;have:((n.natAbs:Nat):Int)=n:=by omega
   omega
 have h6:=Int.emod_nonneg x (b:=n) (by omega)
 (iterate 8 refine WK ?_);refine AOps.gN ?_;refine AOps.p (W.rem rfl rfl (by omega)) rfl ?_;refine KK ?_
 refine AWP.cond rfl (λhb=>?_) (λhb=>?_)
 ·have hb:x.tmod n<0:=by simpa using hb
  refine KK ?_;refine RT ?_;exact BE rfl rfl (by exact Sub.f) ⟨by rw[show x.tmod n+n=x%n from by omega],rfl⟩
 ·have hb:¬x.tmod n<0:=by simpa using hb
  refine KK ?_;refine RT ?_;exact BE rfl rfl (by exact Sub.f) ⟨by rw[show x.tmod n=x%n from by omega],rfl⟩
abbrev Bc(l:List Int):AO:=.row 88 1 [.agg [AQ false l]]
theorem CH(X:Nat)(l:List Int)(n:Int)(h2:n<=4611686018427387904):PO Tryz.prog 38 [.ptr X 0 0,iA n] X (Bc l) (iA (Al l n)) (Bc (Ad l n)):=by
 refine Sp (nt:=33) (res:=[.tmp 4]) Tryz.func38 λSf=>?_
 refine KK ?_;refine AWP.cond rfl (λhb=>?_) (λhb=>?_)
 ·refine KK ?_
  refine RT ?_;have hb:l.length=0\/n<1:=by simp only[Bool.or_eq_true,AD,AB]at hb;omega
  have e1:Al l n=0:=by
   unfold Al;split
   ·rfl
   ·rcases hb with hb|hb
    ·rw[List.length_eq_zero_iff.1 hb]
    ·omega
  have e2:Ad l n=l:=by
   unfold Ad;split
   ·rfl
   ·rcases hb with hb|hb
    ·rw[List.length_eq_zero_iff.1 hb];rfl
    ·omega
  rw[e1,e2];exact Gc rfl rfl (by exact Sub.f) ⟨rfl,rfl⟩
 ·have hb:l.length≠0/\1<=n:=by simp only[Bool.or_eq_false_iff,AL,AB]at hb;omega
  obtain⟨hb,hn⟩:=hb;cases l with
  |nil=>exact absurd rfl hb
  |cons x l=>
  (repeat first|(refine AOps.gN ?_;first|refine AOps.p (W.idxL rfl rfl (a:=0) rfl rfl) rfl ?_|refine AOps.p (W.loL rfl rfl (a:=1) rfl (by simp)) rfl ?_|refine AOps.p (W.call2 rfl rfl (Ta _ _ hn h2) rfl) rfl ?_)|refine WK ?_|refine Ai λX=>?_|refine Ay λY=>?_);refine RT ?_;rw[show Al (x::l) n=x%n from by unfold Al;rw[if_neg (by omega)],show Ad (x::l) n=l from by unfold Ad;rw[if_neg (by omega)];rfl];exact Gc (S':=[(X,Bc l)]) rfl rfl (by exact Sub.f) ⟨rfl,rfl⟩
def fAt:Nat->List Int->List Field×List Int
 |0,l=>([],l)
 |i+1,l=>((fAt i l).1++[(CS i (fAt i l).2).1],(CS i (fAt i l).2).2)
def kAt:Nat->List Int->List Kind×List Int
 |0,l=>([],l)
 |i+1,l=>((kAt i l).1++[(DK i (kAt i l).2).1],(DK i (kAt i l).2).2)
theorem QN(i:Nat)(l:List Int):(fAt i l).1.length=i:=by
 induction i with
 |zero=>rfl
 |succ i ih=>simp[fAt,ih]
theorem QI(i:Nat)(l:List Int):(kAt i l).1.length=i:=by
 induction i with
 |zero=>rfl
 |succ i ih=>simp[kAt,ih]
theorem Us(c i:Nat)(l:List Int):((fAt i l).1++(Ba i c (fAt i l).2).1,(Ba i c (fAt i l).2).2)=fAt (i+c) l:=by
 induction c generalizing i with
 |zero=>simp[Ba]
 |succ c ih=>
  rw[show i+(c+1)=(i+1)+c from by omega,<-ih (i+1)];simp[Ba,fAt]
theorem Ud(c i:Nat)(l:List Int):((kAt i l).1++(BI i c (kAt i l).2).1,(BI i c (kAt i l).2).2)=kAt (i+c) l:=by
 induction c generalizing i with
 |zero=>simp[BI]
 |succ c ih=>
  rw[show i+(c+1)=(i+1)+c from by omega,<-ih (i+1)];simp[BI,kAt]
theorem F4(c:Nat)(l:List Int):Ba 0 c l=fAt c l:=by
 have:=Us c 0 l;simpa[fAt]using this
theorem EQ(l:List Int):Ap l=kAt (1+Al l 4).toNat (Ad l 4):=by
 have:=Ud (1+Al l 4).toNat 0 (Ad l 4);simpa[kAt,Ap]using this
theorem RH{i:Nat}(h:i<4):[sA [115,112,111,116],sA [108,105,102,101],sA [116,101,97,109],sA [103,111,97,108]][i]?=some (sA (Dv i)):=by
 have:i=0\/i=1\/i=2\/i=3:=by omega
 rcases this with rfl|rfl|rfl|rfl<;>rfl
theorem RZ{i:Nat}(h:i<3):[sA [120],sA [121],sA [122]][i]?=some (sA (Cb i)):=by
 have:i=0\/i=1\/i=2:=by omega
 rcases this with rfl|rfl|rfl<;>rfl
theorem Sm(G:Nat)(l:List Int):PO Tryz.prog 37 [.ptr G 0 0] G (Bc l) (Ae true false (Ap l).1) (Bc (Ap l).2):=by
 refine Sp (nt:=55) (res:=[.tmp 2]) Tryz.func37 λSf=>?_
 have h0:=Af l (n:=4) (by decide);refine KK ?_;refine AOps.g_callf ?_;refine AOps.o2 (h:=(CH G _ _ (by decide))) (k:=?_);refine KK ?_;refine AWP.adopt (d:=3) 133 2 rfl λK=>?_
 obtain⟨c,hc⟩:∃c:Nat,1+Al l 4=c:=⟨(1+Al l 4).toNat,by omega⟩;obtain⟨l0,hl0⟩:∃l0,Ad l 4=l0:=⟨_,rfl⟩;have hg:Ap l=kAt c l0:=by rw[EQ,hl0,show(1+Al l 4).toNat=c from by omega]
 rw[hg,hl0,hc];have hc4:1<=c/\c<=4:=by omega
 clear hg hl0 hc h0;refine GG (λ(i K:Nat) (M:List AV) (q:List Int)=>⟨[(0,.ptr G 0 0),(3,.sl K 0 i),(10,iA c),(11,iA i)],(K,.row 133 2 M)::(G,Bc q)::Sf⟩) (λi _ M q=>i<=c/\M=(kAt i l0).1.map (Av false)/\M.length=i/\q=(kAt i l0).2) (λi _ _ _=>c-i) 0 K [] l0 ⟨Nat.zero_le _,rfl,rfl,rfl⟩ ?_;rintro i K M q ⟨hi,hM,hMl,hq⟩;refine KK ?_;refine AWP.cond rfl (λhb=>?_) (λhb=>?_)
 ·have h:i<c:=by rw[AD]at hb;omega
  have h4:i<4:=by omega
  have h3:=Af q (n:=3) (by decide);have hkn:=RH h4;refine KK ?_;refine Ai λY=>?_;refine KK ?_;refine AOps.g_callf ?_;refine AOps.o2 (h:=(CH G _ _ (by decide))) (k:=?_);refine KK ?_
  refine AWP.adoptIn (Y:=Y) 136 3 .here (λF=>.cons (.agg (.cons .same (.cons (.base .nil) .nil))) .nil) λF=>?_
  obtain⟨l1,hl1⟩:∃l1,Ad q 3=l1:=⟨_,rfl⟩;obtain⟨c1,hc1⟩:∃c1:Nat,1+Al q 3=c1:=⟨(1+Al q 3).toNat,by omega⟩
  have hgk:kAt (i+1) l0=((kAt i l0).1++[⟨Dv i,(fAt c1 l1).1⟩],(fAt c1 l1).2):=by
   rw[kAt,<-hq,DK,F4,show(1+Al q 3).toNat=c1 from by omega,hl1]
  rw[hl1,hc1];have hc13:c1<=3:=by omega
  refine GG (λ(j F:Nat) (L:List AV) (r:List Int)=>⟨[(0,.ptr G 0 0),(3,.sl K 0 i),(5,.ptr Y 0 0),(10,iA c),(11,iA i),(21,iA c1),(22,iA j)],(F,.row 136 3 L)::(Y,.row 133 2 [.agg [sA (Dv i),.sl F 0 j]])::(K,.row 133 2 M)::(G,Bc r)::Sf⟩) (λj _ L r=>j<=c1/\L=(fAt j l1).1.map fieldA/\L.length=j/\r=(fAt j l1).2) (λj _ _ _=>c1-j) 0 F [] l1 ⟨Nat.zero_le _,rfl,rfl,rfl⟩ ?_;rintro j F L r ⟨hj,hL,hLl,hr⟩;refine KK ?_;refine AWP.cond rfl (λhd=>?_) (λhd=>?_)
  ·have hj':j<c1:=by rw[AD]at hd;omega
   have h9:=Af r (n:=9) (by decide);have h40:=Af (Ad r 9) (n:=40) (by decide);have hfn:=RZ (i:=j) (by omega);refine KK ?_;refine AWP.rs λX7=>?_
   refine RU ?_;refine KR ?_;refine RGo.g_callf ?_;refine RGo.o2 (h:=(CH G _ _ (by decide))) (k:=?_);(iterate 4 refine RK ?_);refine RGo.nil (by kernel_rfl) ?_;(repeat first|(refine AOps.gN ?_;first|(refine AOps.g_callf ?_;first|refine AOps.o2 (h:=(CH G _ _ (by decide))) (k:=?_)))|refine WK ?_|refine Ai λX=>?_|refine Ay λY=>?_);refine AWP.cond rfl (λhe=>?_) (λhe=>?_)
   ·have he:Al (Ad (Ad r 9) 40) 8=7:=by simpa using he
    have hg:CS j r=(⟨Cb j,32,-2147483648⟩,Ad (Ad (Ad r 9) 40) 8):=by rw[CS,if_pos he]
    (iterate 11 refine WK ?_);refine AOps.g_lit ?_;refine AOps.goL (fieldA ⟨Cb j,32,-2147483648⟩) ?_;refine WK ?_;refine Ay λY=>?_;refine KK ?_
    refine Du (j+1) Y _ _ ⟨hj',?_,?_,?_⟩
    ·rw[fAt,<-hr,hg,hL,List.map_append];rfl
    ·rw[AI,hLl];rfl
    ·rw[fAt,<-hr,hg]
   ·have he:Al (Ad (Ad r 9) 40) 8≠7:=by simpa using he
    have hg:CS j r=(⟨Cb j,1+Al r 9,Al (Ad r 9) 40-30⟩,Ad (Ad (Ad r 9) 40) 8):=by rw[CS,if_neg he]
    (iterate 6 refine WK ?_);refine AOps.g_lit ?_;refine AOps.goL (fieldA ⟨Cb j,1+Al r 9,Al (Ad r 9) 40-30⟩) ?_;refine WK ?_;refine Ay λY=>?_;refine KK ?_
    refine Du (j+1) Y _ _ ⟨hj',?_,?_,?_⟩
    ·rw[fAt,<-hr,hg,hL,List.map_append];rfl
    ·rw[AI,hLl];rfl
    ·rw[fAt,<-hr,hg]
  ·have hj':j=c1:=by rw[AL]at hd;omega
   subst hj';refine FL ?_;refine AWP.iceIn (X:=F) (Y:=Y) .here (.next .here) rfl (.cons (.agg (.cons .same (.cons (.base (.sl (by omega))) .nil))) .nil) ?_
   have hF:AV.frzs ((L.drop 0).take j)=(fAt j l1).1.map fieldA:=by
    rw[List.drop_zero,List.take_of_length_le (by omega),hL];exact Frzs.h
   rw[hF]
   (iterate 3 refine WK ?_);refine AOps.g_lit ?_;refine AOps.goL (Av false ⟨Dv i,(fAt j l1).1⟩) ?_;refine WK ?_;refine Ay λY=>?_;refine KK ?_
   refine Du (i+1) Y _ _ ⟨h,?_,?_,?_⟩
   ·rw[hgk,hM,List.map_append];rfl
   ·rw[AI,hMl];rfl
   ·rw[hgk,hr]
 ·have h:i=c:=by rw[AL]at hb;omega
  subst h;refine KK ?_;refine RT ?_;subst hM hq;refine⟨[.sl K 0 i],[.lst true 133 2 ((kAt i l0).1.map (Av false))],_,[(G,Bc (kAt i l0).2)],.cons (.tmp rfl) rfl .nil,.cons (.cell (.sl (p:=0) .here (by rw[AB,QI]))) .nil,by exact Sub.f,rfl,rfl⟩
def WC(c:UInt8):Bool:=decide (97<=c)&&decide (c<=122)
def WJ(c:UInt8):Bool:=decide (48<=c)&&decide (c<=57)
def OH(l:List UInt8)(j:Nat):Bool:=WC (l.getD j 0)||(decide (0<j)&&WJ (l.getD j 0))
def Ca(l:List UInt8):Bool:=decide (0<l.length)&&decide (l.length<=16)&&(List.range l.length).all (OH l)
def Aq(f:Field):Int:=if Ca f.name&&decide (1<=f.bits)&&decide (f.bits<=32)&&decide (-4294967296<=f.low)&&decide (f.low<=4294967296)then 0 else 3
def Bj:List Field->List Field->Int
 |_,[]=>0
 |pre,f::fs=>if Aq f≠0 then Aq f else if pre.any (λo=>o.name==f.name)then 5 else Bj (pre++[f]) fs
def BZ(k:Kind):Int:=if Ca k.name then(if 8<k.fields.length then 2 else Bj [] k.fields)else 3
def DC(l:List Kind)(name:List UInt8):Int:=
 match l.findIdx? (λk=>k.name==name)with
 |some i=>i
 |none=>-1
def Bv:List Kind->List Kind->Int
 |_,[]=>0
 |pre,k::ks=>if BZ k≠0 then BZ k else if pre.any (λo=>o.name==k.name)then 5 else Bv (pre++[k]) ks
def Az(l:List Kind):Int:=if 16<l.length then 2 else Bv [] l
def D9(f:Field):Int:=if Aq f=0 then f.low+(2^f.bits.toNat-1)else 0
def BT(f:Field)(v:Int):Int:=if Aq f=0 then max f.low (min v (D9 f))else 0
def BY(k:Kind)(vals:List Int):List Int×Int:=
 if BZ k≠0 then([],BZ k)else if vals.length≠k.fields.length then([],1)else(List.zipWith BT k.fields vals,0)
def Bs(k:Kind)(vals:List Int):Bool:=decide ((BY k vals).2=0)&&decide ((BY k vals).1=vals)
theorem HB{l:List Kind}{name:List UInt8}(h:∀j (hj:j<l.length),l[j].name≠name):DC l name= -1:=by
 have:l.findIdx? (λk=>k.name==name)=none:=by
  rw[List.findIdx?_eq_none_iff];intro x hx;obtain⟨j,hj,rfl⟩:=List.getElem_of_mem hx;simpa using h j hj
 simp[DC,this]
theorem LD{l:List Kind}{name:List UInt8}{i:Nat}(hi:i<l.length)(e:l[i].name=name)(h:∀j (hj:j<i),(l[j]'(by omega)).name≠name):DC l name=i:=by
 have:l.findIdx? (λk=>k.name==name)=some i:=by
  rw[List.findIdx?_eq_some_iff_getElem];refine⟨hi,by simpa using e,λj hj=>?_⟩;simpa using h j hj
 simp[DC,this]
theorem Mb{pre:List Kind}{k:Kind}{ks:List Kind}(h:BZ k≠0):Bv pre (k::ks)=BZ k:=by
 simp[Bv,h]
theorem J1{pre:List Kind}{k:Kind}{ks:List Kind}(h:BZ k=0)(hf:0<=DC pre k.name):Bv pre (k::ks)=5:=by
 have:pre.any (λo=>o.name==k.name)=true:=by
  rcases hc:pre.any (λo=>o.name==k.name)with _|_
  ·exfalso
   rw[List.any_eq_false]at hc;rw[HB (λj hj=>by simpa using hc _ (AY hj))]at hf;omega
  ·rfl
 simp[Bv,h,this]
theorem K6{pre:List Kind}{k:Kind}{ks:List Kind}(h:BZ k=0)(hf:DC pre k.name<0):Bv pre (k::ks)=Bv (pre++[k]) ks:=by
 have:pre.any (λo=>o.name==k.name)=false:=by
  rcases hc:pre.any (λo=>o.name==k.name)with _|_
  ·rfl
  ·exfalso
   rw[List.any_eq_true]at hc;obtain⟨x,hx,e⟩:=hc;unfold DC at hf;split at hf
   ·omega
   ·rename_i hn
    rw[List.findIdx?_eq_none_iff]at hn;exact absurd e (by simpa using hn x hx)
 simp[Bv,h,this]
theorem GT{l:List Kind}{i:Nat}(hi:i<l.length):Bv (l.take i) (l.drop i)=Bv (l.take i) (l[i]::l.drop (i+1)):=by
 rw[By hi]
theorem Ma{l:List Kind}{i:Nat}(hi:l.length<=i):Bv (l.take i) (l.drop i)=0:=by
 rw[List.drop_of_length_le hi];rfl
theorem Iy(f:Field)(h:Ca f.name=true)(hb:1<=f.bits/\f.bits<=32/\ -4294967296<=f.low/\f.low<=4294967296):Aq f=0:=by
 simp[Aq,h,hb]
theorem N4(f:Field)(h:Ca f.name=true->¬(1<=f.bits/\f.bits<=32/\ -4294967296<=f.low/\f.low<=4294967296)):Aq f=3:=by
 unfold Aq;rw[if_neg];simp only[Bool.and_eq_true,AD];intro hc;exact h hc.1.1.1.1 ⟨hc.1.1.1.2,hc.1.1.2,hc.1.2,hc.2⟩
theorem DL(f:Field):Aq f=0↔Ca f.name=true/\1<=f.bits/\f.bits<=32/\ -4294967296<=f.low/\f.low<=4294967296:=by
 constructor
 ·intro h
  unfold Aq at h;split at h
  ·rename_i hc
   simpa[and_assoc]using hc
  ·simp at h
 ·rintro⟨h,hb⟩
  exact Iy f h hb
theorem KY(f:Field):Aq f=0\/Aq f=3:=by
 unfold Aq;split<;>simp
theorem LF{pre:List Field}{f:Field}{fs:List Field}(h:Aq f≠0):Bj pre (f::fs)=Aq f:=by
 simp[Bj,h]
theorem JF{pre:List Field}{f:Field}{fs:List Field}(h:Aq f=0){j:Nat}(hj:j<pre.length)(e:pre[j].name=f.name):Bj pre (f::fs)=5:=by
 have:pre.any (λo=>o.name==f.name)=true:=by
  rw[List.any_eq_true];exact⟨pre[j],AY hj,by simp[e]⟩
 simp[Bj,h,this]
theorem KW{pre:List Field}{f:Field}{fs:List Field}(h:Aq f=0)(e:∀j (hj:j<pre.length),pre[j].name≠f.name):Bj pre (f::fs)=Bj (pre++[f]) fs:=by
 have:pre.any (λo=>o.name==f.name)=false:=by
  rw[List.any_eq_false];intro x hx;obtain⟨j,hj,rfl⟩:=List.getElem_of_mem hx;simpa using e j hj
 simp[Bj,h,this]
theorem F7{l:List Field}{i:Nat}(hi:i<l.length):Bj (l.take i) (l.drop i)=Bj (l.take i) (l[i]::l.drop (i+1)):=by
 rw[By hi]
theorem LE{l:List Field}{i:Nat}(hi:l.length<=i):Bj (l.take i) (l.drop i)=0:=by
 rw[List.drop_of_length_le hi];rfl
theorem Q7(l:List UInt8)(j:Nat)(hj:j<l.length)(h:OH l j=false):Ca l=false:=by
 have:(List.range l.length).all (OH l)=false:=by
  rw[List.all_eq_false];exact⟨j,List.mem_range.2 hj,by simp[h]⟩
 simp[Ca,this]
theorem O8(l:List UInt8)(h0:0<l.length)(h1:l.length<=16)(h:∀j,j<l.length->OH l j=true):Ca l=true:=by
 have:(List.range l.length).all (OH l)=true:=by
  rw[List.all_eq_true];intro x hx;exact h x (List.mem_range.1 hx)
 simp[Ca,this,h0,h1]
theorem Nb(l:List UInt8)(h:l.length=0\/16<l.length):Ca l=false:=by
 rcases h with h|h
 ·simp[Ca,h]
 ·simp[Ca,show¬l.length<=16 from by omega]
theorem SO{b:Int}(h1:1<=b)(h2:b<=32):(2:Int)<=2^b.toNat/\(2:Int)^b.toNat<=4294967296:=by
 obtain⟨n,rfl⟩:∃n:Nat,b=n:=⟨b.toNat,by omega⟩;rw[Int.toNat_natCast];have h:n=1\/n=2\/n=3\/n=4\/n=5\/n=6\/n=7\/n=8\/n=9\/n=10\/n=11\/n=12\/n=13\/n=14\/n=15\/n=16\/n=17\/n=18\/n=19\/n=20\/n=21\/n=22\/n=23\/n=24\/n=25\/n=26\/n=27\/n=28\/n=29\/n=30\/n=31\/n=32:=by omega
 rcases h with rfl|rfl|rfl|rfl|rfl|rfl|rfl|rfl|rfl|rfl|rfl|rfl|rfl|rfl|rfl|rfl|rfl|rfl|rfl|rfl|rfl|rfl|rfl|rfl|rfl|rfl|rfl|rfl|rfl|rfl|rfl|rfl<;>decide
theorem RQ{f:Field}(h:Aq f=0):D9 f=f.low+(2^f.bits.toNat-1):=by simp[D9,h]
theorem Lj{f:Field}(h:Aq f=0):f.low<D9 f/\D9 f<=8589934592:=by
 have hb:=(DL f).1 h;have:=SO hb.2.1 hb.2.2.1;rw[RQ h];omega
theorem MT(f:Field)(v:Int): -4294967296<=BT f v/\BT f v<=8589934592:=by
 rcases KY f with h|h
 ·have:=Lj h
  have hb:=(DL f).1 h;simp only[BT,h,if_true];omega
 ·simp[BT,h]
theorem KU{pre l:List Field}(h:Bj pre l=0):∀f∈l,Aq f=0:=by
 induction l generalizing pre with
 |nil=>intro f hf;cases hf
 |cons x l ih=>
  intro f hf;simp only[Bj]at h;split at h
  ·rename_i hx;exact absurd h hx
  ·rename_i hx
   split at h
   ·simp at h
   ·rcases List.mem_cons.1 hf with rfl|hf
    ·simpa using hx
    ·exact ih h f hf
theorem C8{k:Kind}(h:BZ k=0):Ca k.name=true/\k.fields.length<=8/\∀f∈k.fields,Aq f=0:=by
 unfold BZ at h;split at h
 ·rename_i h1
  split at h
  ·simp at h
  ·rename_i h2
   exact⟨h1,by omega,KU h⟩
 ·simp at h
def Tc:Kind:=⟨[108,105,102,101],[⟨[120],8,0⟩]⟩
def baseWd:Wd:=⟨[Tc],[0],[⟨⟨0,0⟩,[⟨0,[9]⟩]⟩]⟩
theorem Uy:PS Tryz.prog 34 [] (wdA false baseWd):=by
 refine Sp (nt:=14) (res:=[.cell 0 27]) Tryz.func34 λSf=>?_
 refine KK ?_;refine Ai λX=>?_;refine KK ?_
 refine RT ?_;refine GF (rs:=[wdA false baseWd]) rfl (.cons (.cell (p:=0) rfl .here TAg.h TSize.h rfl rfl) rfl .nil)
theorem Rb(a b:List Int)(hl:a.length<=1099511627776):PS Tryz.prog 22 [AQ false a,AQ false b] (bA (decide (a=b))):=by
 refine Sp (nt:=26) (res:=[.tmp 4]) Tryz.func22 λSf=>?_
 refine KK ?_;refine AWP.cond rfl (λhb=>?_) (λhb=>?_)
 ·have hb:a.length≠b.length:=by simp at hb;omega
  refine KK ?_;refine RT ?_;refine AN ?_;rw[AK λe=>hb (by rw[e])]
 ·have hb:a.length=b.length:=by simp at hb;omega
  refine KK ?_;refine BB (λi:Nat=>⟨[(0,AQ false a),(1,AQ false b),(12,iA (a.map iA).length),(13,iA i)],Sf⟩) (λi=>i<=a.length/\∀j (h:j<a.length),j<i->a[j]=b[j]'(by omega)) (λi=>a.length-i) 0 ⟨Nat.zero_le _,λj h hj=>absurd hj (by omega)⟩ ?_;rintro i ⟨hi,he⟩;refine KK ?_;refine AWP.cond rfl (λhc=>?_) (λhc=>?_)
  ·have h:i<a.length:=by simpa using hc
   have h':i<b.length:=by omega
   refine KK ?_;refine RU ?_;(iterate 9 refine RK ?_);refine RGo.nil (by kernel_rfl) ?_;refine WK ?_;refine AWP.cond rfl (λhd=>?_) (λhd=>?_)
   ·have hd:a[i]≠b[i]:=by simpa using hd
    refine KK ?_;refine RT ?_;refine AN ?_;rw[AK λe=>hd (by subst e;rfl)]
   ·have hd:a[i]=b[i]:=by simpa using hd
    refine KK ?_;refine Ab (i+1) ⟨h,λj h1 h2=>?_⟩;by_cases e:j=i
    ·subst e;exact hd
    ·exact he j h1 (by omega)
  ·have h:¬i<a.length:=by simpa using hc
   refine KK ?_;refine RT ?_;refine AN ?_;rw[Ah (List.ext_getElem hb λj h1 h2=>he j h1 (by omega))]
def eqF{α:Type}(p:α->α->Bool):List α->List α->Bool
 |[],[]=>true
 |x::xs,y::ys=>p x y&&eqF p xs ys
 |_,_=>false
theorem QP{α:Type}{p:α->α->Bool}:{a b:List α}->a.length≠b.length->eqF p a b=false
 |[],[],h=>absurd rfl h
 |[],_::_,_=>rfl
 |_::_,[],_=>rfl
 |x::xs,y::ys,h=>by rw[eqF,QP (by simpa using h),Bool.and_false]
theorem TG{α:Type}{p:α->α->Bool}:{a b:List α}->(hl:a.length=b.length)->{i:Nat}->(h:i<a.length)->p a[i] (b[i]'(by omega))=false->eqF p a b=false
 |[],_,_,_,h,_=>absurd h (by simp)
 |x::xs,[],hl,_,_,_=>by simp at hl
 |x::xs,y::ys,hl,0,h,hp=>by rw[eqF,show p x y=false from hp,Bool.false_and]
 |x::xs,y::ys,hl,i+1,h,hp=>by
  rw[eqF,TG (a:=xs) (b:=ys) (by simpa using hl) (i:=i) (by simpa using h) hp,Bool.and_false]
theorem QO{α:Type}{p:α->α->Bool}:{a b:List α}->(hl:a.length=b.length)->(∀i (h:i<a.length),p a[i] (b[i]'(by omega))=true)->eqF p a b=true
 |[],[],_,_=>rfl
 |[],_::_,hl,_=>by simp at hl
 |x::xs,[],hl,_=>by simp at hl
 |x::xs,y::ys,hl,h=>by
  rw[eqF,show p x y=true from h 0 (by simp),QO (a:=xs) (b:=ys) (by simpa using hl) λi hi=>h (i+1) (by simpa using hi)];rfl
theorem TH{α:Type}{p:α->α->Bool}[DecidableEq α]:{a b:List α}->(∀x∈a,∀y∈b,p x y=decide (x=y))->eqF p a b=decide (a=b)
 |[],[],_=>rfl
 |[],_::_,_=>rfl
 |_::_,[],_=>rfl
 |x::xs,y::ys,h=>by
  rw[eqF,h x (by simp) y (by simp),TH λu hu v hv=>h u (by simp[hu]) v (by simp[hv])];by_cases e:x=y<;>by_cases e2:xs=ys<;>simp[e,e2]
theorem TD(f g:Field)(w:World):(binOp .neq 136 (.agg [DH f.name,.int .i64 f.bits,.int .i64 f.low].toArray) (.agg [DH g.name,.int .i64 g.bits,.int .i64 g.low].toArray)).run Tryz.prog w= .ok (.bool (decide (f≠g))) w:=by
 have h:=TF (P:=Tryz.prog) (t:=136) (by kernel_rfl) (by kernel_rfl) (by kernel_rfl) ⟨f.name.toArray⟩ ⟨g.name.toArray⟩ f.bits f.low g.bits g.low w;rw[run_neq_struct];have e:(Op.equalIn 10000 136 (.agg [DH f.name,.int .i64 f.bits,.int .i64 f.low].toArray) (.agg [DH g.name,.int .i64 g.bits,.int .i64 g.low].toArray)).run Tryz.prog w=_:=h;rw[e,Result.andThen_ok,Gg,Gg]
 have hd:(!(decide (f.name=g.name)&&decide (f.bits=g.bits)&&decide (f.low=g.low)))=decide (f≠g):=by
  obtain⟨n,b,l⟩:=f;obtain⟨n',b',l'⟩:=g;rw[Bool.eq_iff_iff];simp[or_assoc]
 rw[hd]
def KsL(ks:List Kind):Prop:=ks.length<=1099511627776/\∀k∈ks,k.fields.length<=1099511627776
def CsL(cs:List Comp):Prop:=cs.length<=1099511627776/\∀c∈cs,c.vals.length<=1099511627776
def ItL(l:List Item):Prop:=l.length<=1099511627776/\∀it∈l,CsL it.comps
structure WdL(w:Wd):Prop where
 ks:KsL w.kinds
 gens:w.gens.length<=1099511627776
 items:ItL w.items
def GN(l:List Item)(n:Int):Bool:=l.any λit=>decide (it.ent.n=n)
def Lm(w:Wd):Option Nat:=(List.range w.gens.length).find? λn=>!GN w.items n&&decide (w.gens.getD n 0<1073741824)
def Bf(w:Wd):Nat×Bool:=match Lm w with
 |some n=>(n,true)
 |none=>(w.gens.length,decide ((w.gens.length:Int)<256))
theorem OG(s:List UInt8)(i:Nat):OH s i=(decide ((97:Int)<=(s.getD i 0).toNat)&&decide (((s.getD i 0).toNat:Int)<=122)||decide ((0:Int)<i)&&decide ((48:Int)<=(s.getD i 0).toNat)&&decide (((s.getD i 0).toNat:Int)<=57)):=by
 have h:∀a b:UInt8,decide (a<=b)=decide ((a.toNat:Int)<=b.toNat):=λa b=>by simp[UInt8.le_iff_toNat_le]
 have h0:decide (0<i)=decide ((0:Int)<i):=by simp
 simp only[OH,WC,WJ,h,h0,Bool.and_assoc];rfl
theorem MU(s:List UInt8):PS Tryz.prog 131 [sA s] (bA (Ca s)):=by
 refine Sp (nt:=41) (res:=[.tmp 2]) Tryz.func131 λSf=>?_
 refine KK ?_;refine AWP.cond rfl (λhb=>?_) (λhb=>?_)
 ·refine KK ?_
  refine RT ?_;refine BE rfl rfl (by exact Sub.f) ⟨?_,rfl⟩;rw[Nb s (by simp only[Bool.or_eq_true,AD]at hb;omega)]
 have hb1:s.length≠0/\s.length<=16:=by simp only[Bool.or_eq_false_iff,AL]at hb;omega
 (iterate 9 refine WK ?_);refine CI (λi:Nat=>⟨[(0,sA s),(14,iA s.length),(15,iA i)],Sf⟩) (λi=>i<=s.length/\∀j,j<i->OH s j=true) (λi=>s.length-i) 0 ⟨by omega,by omega⟩ ⟨.cons rfl (.cons rfl (.cons rfl .nil)),List.Sublist.refl _⟩ ?_
 rintro i ⟨hi,hn⟩;refine KK ?_;refine AWP.cond rfl (λhb=>?_) (λhb=>?_)
 ·have h:i<s.length:=by simpa using hb
  (iterate 12 refine WK ?_);refine AOps.gN ?_;refine AOps.p (W.idxStr rfl rfl rfl h) rfl ?_;refine KK ?_
  refine AWP.cond rfl (λhc=>?_) (λhc=>?_)
  ·refine KK ?_
   refine RT ?_;refine BE rfl rfl (by exact Sub.f) ⟨?_,rfl⟩;rw[<-OG]at hc;rw[Q7 s i h (by simpa using hc)]
  ·refine KK ?_
   refine⟨i+1,⟨by omega,λj hj=>?_⟩,by omega,.cons rfl (.cons rfl (.cons rfl .nil)),by exact Sub.f⟩;rw[<-OG]at hc;by_cases e:j=i
   ·subst e;simpa using hc
   ·exact hn j (by omega)
 ·have h:¬i<s.length:=by simpa using hb
  refine KK ?_;refine RT ?_;refine BE rfl rfl (by exact Sub.f) ⟨?_,rfl⟩;rw[O8 s (by omega) hb1.2 λj hj=>hn j (by omega)]
theorem KX(f:Field):PS Tryz.prog 150 [fieldA f] (iA (Aq f)):=by
 refine Sp (nt:=27) (res:=[.tmp 2]) Tryz.func150 λSf=>?_
 refine KK ?_;refine Ai λX=>?_;(iterate 7 refine WK ?_);refine AOps.gN ?_;refine AOps.p (W.call1 rfl (MU _) rfl) rfl ?_;refine KK ?_
 refine AWP.cond rfl (λhb=>?_) (λhb=>?_)
 ·refine KK ?_
  refine RT ?_;refine BE rfl rfl (by exact Sub.f) ⟨?_,rfl⟩;rw[N4 f λhn hk=>?_];simp only[hn,Bool.not_true,Bool.false_or,Bool.or_eq_true,AD]at hb;omega
 ·refine KK ?_
  refine RT ?_;refine BE rfl rfl (by exact Sub.f) ⟨?_,rfl⟩;simp only[Bool.or_eq_false_iff,Bool.not_eq_false',AL]at hb;rw[Iy f hb.1.1.1.1 (by omega)]
theorem Ui(f:Field):PS Tryz.prog 196 [fieldA f] (iA (D9 f)):=by
 refine Sp (nt:=13) (res:=[.tmp 2]) Tryz.func196 λSf=>?_
 refine KK ?_;refine Ai λX=>?_;(iterate 6 refine WK ?_);refine AOps.gN ?_;refine AOps.p (W.call1 rfl (KX _) rfl) rfl ?_;refine KK ?_
 refine AWP.cond rfl (λhb=>?_) (λhb=>?_)
 ·have hb:Aq f≠0:=by simpa using hb
  refine KK ?_;refine RT ?_;refine BE rfl rfl (by exact Sub.f) ⟨?_,rfl⟩;simp[D9,hb]
 have hb:Aq f=0:=by simpa using hb
 have h1:=(DL f).1 hb;obtain⟨n,hn⟩:∃n:Nat,f.bits=n:=⟨f.bits.toNat,by omega⟩
 have hp:(2:Int)^n<=4294967296/\1<=(2:Int)^n:=by
  have hn2:n<=32:=by omega
  clear hn;have:∀n,n<=32->(2:Int)^n<=4294967296/\1<=(2:Int)^n:=by decide
  exact this n hn2
 have hw:IntKind.i64.wrap (1*2^n)=2^n:=by rw[Int.one_mul];exact DT (by omega) (by omega)
 refine KK ?_;refine RU ?_;(iterate 4 refine RK ?_);refine RGo.gN ?_;refine RGo.p (W.shl rfl rfl hn (by show n<=64;omega)) rfl ?_;refine RGo.gN ?_;refine RGo.p (W.sub rfl rfl (by rw[hw];omega)) rfl ?_;refine RGo.gN ?_;refine RGo.p (W.add rfl rfl (by rw[hw];omega)) rfl ?_;refine RK ?_;refine RGo.nil (by kernel_rfl) ?_;refine WK ?_;refine RT ?_;refine BE rfl rfl (by exact Sub.f) ⟨?_,rfl⟩;simp only[hw];simp[D9,hb,hn]
theorem QB(f:Field)(v:Int):PS Tryz.prog 145 [fieldA f,iA v] (iA (BT f v)):=by
 refine Sp (nt:=15) (res:=[.tmp 4]) Tryz.func145 λSf=>?_
 refine KK ?_;refine Ai λX=>?_;(iterate 6 refine WK ?_);refine AOps.gN ?_;refine AOps.p (W.call1 rfl (KX _) rfl) rfl ?_;refine KK ?_
 refine AWP.cond rfl (λhb=>?_) (λhb=>?_)
 ·have hb:Aq f≠0:=by simpa using hb
  refine KK ?_;refine RT ?_;refine BE rfl rfl (by exact Sub.f) ⟨?_,rfl⟩;simp[BT,hb]
 have hb:Aq f=0:=by simpa using hb
 refine KK ?_;refine RU ?_;(iterate 4 refine RK ?_);refine RGo.gN ?_;refine RGo.p (W.call1 rfl (Ui _) rfl) rfl ?_;(iterate 3 refine RK ?_);refine RGo.nil (by kernel_rfl) ?_;refine WK ?_;refine RT ?_;refine BE rfl rfl (by exact Sub.f) ⟨?_,rfl⟩;rw[show BT f v=max f.low (min v (D9 f))from by simp[BT,hb]];simp only[Int.max_def,Int.min_def]
 congr 2
 (repeat' split)<;>omega
theorem SU(k:Kind):PS Tryz.prog 104 [Av false k] (iA (BZ k)):=by
 refine Sp (nt:=45) (res:=[.tmp 2]) Tryz.func104 λSf=>?_
 refine WK ?_;refine WK ?_;refine AOps.gN ?_;refine AOps.rs λX1=>?_;refine AOps.s (W.box rfl .here rfl) rfl ?_;(iterate 7 refine WK ?_);refine AOps.gN ?_;refine AOps.p (W.call1 rfl (MU _) rfl) rfl ?_;refine KK ?_
 refine AWP.cond rfl (λhb=>?_) (λhb=>?_)
 ·refine KK ?_
  refine RT ?_;refine BE rfl rfl (by exact Sub.f) ⟨?_,rfl⟩;have hb:Ca k.name=false:=by simpa using hb
  rw[show BZ k=3 from by simp[BZ,hb]]
 have hn:Ca k.name=true:=by simpa using hb
 refine KK ?_;refine AWP.cond rfl (λhb=>?_) (λhb=>?_)
 ·refine KK ?_
  refine RT ?_;refine BE rfl rfl (by exact Sub.f) ⟨?_,rfl⟩;have hb:8<k.fields.length:=by rw[AD,AB]at hb;omega
  rw[show BZ k=2 from by simp[BZ,hn,hb]]
 have hl:k.fields.length<=8:=by rw[AL,AB]at hb;omega
 have e1:BZ k=Bj [] k.fields:=by simp[BZ,hn];omega
 (iterate 10 refine WK ?_);refine CI (λi:Nat=>⟨[(1,.ptr X1 0 0),(17,EH false k.fields),(18,iA (k.fields.map fieldA).length),(19,iA i)],(X1,.row 133 2 [Av false k])::Sf⟩) (λi=>i<=k.fields.length/\Bj [] k.fields=Bj (k.fields.take i) (k.fields.drop i)) (λi=>k.fields.length-i) 0 ⟨by omega,rfl⟩ ⟨.cons rfl (.cons rfl (.cons rfl (.cons rfl .nil))),by exact Sub.f⟩ ?_
 rintro i ⟨hi,he⟩;refine KK ?_;refine AWP.cond rfl (λhb=>?_) (λhb=>?_)
 ·have h:i<k.fields.length:=by simpa using hb
  (repeat first|(refine AOps.gN ?_;first|refine AOps.p (W.idxL rfl rfl rfl (BH _ h)) rfl ?_|refine AOps.p (W.call1 rfl (KX _) rfl) rfl ?_)|refine WK ?_|refine Ai λX=>?_|refine Ay λY=>?_);refine AWP.cond rfl (λhc=>?_) (λhc=>?_)
  ·have hc:Aq k.fields[i]≠0:=by simpa using hc
   refine KK ?_;refine RT ?_;refine BE rfl rfl (by exact Sub.f) ⟨?_,rfl⟩;rw[e1,he,F7 h,LF hc];rfl
  have hc:Aq k.fields[i]=0:=by simpa using hc
  have hmt:((k.fields.map fieldA).take i).length=i:=by simp;omega
  (iterate 6 refine WK ?_);refine AOps.gN ?_;refine AOps.p (W.hiL rfl rfl rfl (by simp;omega)) rfl ?_;(iterate 4 refine WK ?_);refine CI (λj:Nat=>⟨[(1,.ptr X1 0 0),(17,EH false k.fields),(18,iA (k.fields.map fieldA).length),(19,iA i),(3,iA i),(4,.ptr X 0 0),(32,.lst false 136 3 ((k.fields.map fieldA).take i)),(33,iA ((k.fields.map fieldA).take i).length),(34,iA j)],(X,.row 136 3 [fieldA k.fields[i]])::(X1,.row 133 2 [Av false k])::Sf⟩) (λj=>j<=i/\∀q (hq:q<k.fields.length),q<j->k.fields[q].name≠k.fields[i].name) (λj=>i-j) 0 ⟨by omega,by omega⟩ ⟨.cons rfl (.cons rfl (.cons rfl (.cons rfl (.cons rfl (.cons rfl (.cons rfl (.cons rfl (.cons rfl .nil)))))))),by exact Sub.f⟩ ?_
  rintro j ⟨hj,hne⟩;refine KK ?_;refine AWP.cond rfl (λhd=>?_) (λhd=>?_)
  ·have hd:j<i:=by rw[hmt]at hd;simpa using hd
   have hat:((k.fields.map fieldA).take i)[j]?=some (fieldA (k.fields[j]'(by omega))):=by rw[List.getElem?_take_of_lt hd];exact BH _ _
   (iterate 5 refine WK ?_);refine AOps.gN ?_;refine AOps.p (W.idxL rfl rfl rfl hat) rfl ?_;refine KK ?_;refine Ai λX=>?_;refine KK ?_
   refine AWP.cond rfl (λhq=>?_) (λhq=>?_)
   ·have hq:(k.fields[j]'(by omega)).name=k.fields[i].name:=by simpa using hq
    refine KK ?_;refine RT ?_;refine BE rfl rfl (by exact Sub.f) ⟨?_,rfl⟩;rw[e1,he,F7 h,JF hc (j:=j) (by simp;omega) (by simpa using hq)]
   ·have hq:(k.fields[j]'(by omega)).name≠k.fields[i].name:=by simpa using hq
    refine KK ?_;refine⟨j+1,⟨by omega,λq hq1 hq2=>?_⟩,by omega,.cons rfl (.cons rfl (.cons rfl (.cons rfl (.cons rfl (.cons rfl (.cons rfl (.cons rfl (.cons rfl .nil)))))))),by exact Sub.f⟩;by_cases e:q=j
    ·subst e;exact hq
    ·exact hne q hq1 (by omega)
  ·have hd:¬j<i:=by rw[hmt]at hd;simpa using hd
   refine KK ?_;refine⟨i+1,⟨by omega,?_⟩,by omega,.cons rfl (.cons rfl (.cons rfl (.cons rfl .nil))),by exact Sub.f⟩;rw[he,F7 h,KW hc λq hq=>?_,List.take_add_one,AG h]
   ·rfl
   ·simp only[List.getElem_take]
    exact hne q (by simp at hq;omega) (by simp at hq;omega)
 ·have h:¬i<k.fields.length:=by simpa using hb
  refine KK ?_;refine RT ?_;refine BE rfl rfl (by exact Sub.f) ⟨?_,rfl⟩;rw[e1,he,LE (by omega)]
theorem HO{k:Kind}(h:BZ k=0):k.fields.length<=8:=by
 unfold BZ at h;split at h
 ·split at h
  ·cases h
  ·omega
 ·cases h
def Ia(k:Kind)(vals:List Int)(i:Nat):List Int:=(List.zipWith BT k.fields vals).take i++List.replicate (vals.length-i) 0
theorem Un{k:Kind}{vals:List Int}{i:Nat}(hl:vals.length=k.fields.length)(h:i<vals.length):((Ia k vals i).map iA)[i]?=some (iA 0):=by
 have hz:(List.zipWith BT k.fields vals).length=vals.length:=by simp;omega
 rw[AF,Ia,List.getElem?_append_right (by simp;omega)];rw[Ag,Nat.min_eq_left (by omega),Nat.sub_self,List.getElem?_replicate,if_pos (by omega)];rfl
theorem TA{k:Kind}{vals:List Int}{i:Nat}(hl:vals.length=k.fields.length)(h:i<vals.length):((Ia k vals i).map iA).set i (iA (BT (k.fields[i]'(by omega)) vals[i]))=(Ia k vals (i+1)).map iA:=by
 have hz:(List.zipWith BT k.fields vals).length=vals.length:=by simp;omega
 rw[<-List.map_set]
 congr 1
 unfold Ia;rw[List.set_append_right _ _ (by simp;omega),Ag,Nat.min_eq_left (by omega),Nat.sub_self];rw[show vals.length-i=(vals.length-(i+1))+1 from by omega,List.replicate_succ,List.set_cons_zero];rw[List.take_add_one,AG (by omega),AM];simp
theorem PM(k:Kind)(vals:List Int):PS Tryz.prog 151 [Av false k,AQ false vals] (.tup [AQ true (BY k vals).1,iA (BY k vals).2]):=by
 refine Sp (nt:=43) (res:=[.tmp 4,.tmp 5]) Tryz.func151 λSf=>?_
 refine WK ?_;refine WK ?_;refine AOps.gN ?_;refine AOps.rs λB=>?_;refine AOps.s (W.box rfl .here rfl) rfl ?_;(iterate 7 refine WK ?_);refine AOps.gN ?_;refine AOps.p (W.call1 rfl (SU _) rfl) rfl ?_;refine KK ?_
 refine AWP.cond rfl (λhb=>?_) (λhb=>?_)
 ·have hb:BZ k≠0:=by simpa using hb
  refine KK ?_;refine RT ?_;rw[show BY k vals=([],BZ k)from by simp[BY,hb]];exact⟨[.prim (.slice none 0 0),iA (BZ k)],[AQ true [],iA (BZ k)],_,[],.cons (.tmp rfl) rfl (.cons (.tmp rfl) rfl .nil),.cons (.cell .nil) (.cons (.cell .same) .nil),by exact Sub.f,rfl,rfl⟩
 have hk:BZ k=0:=by simpa using hb
 have h8:=HO hk;refine KK ?_;refine AWP.cond rfl (λhb=>?_) (λhb=>?_)
 ·have hb:vals.length≠k.fields.length:=by rw[AD,AB,AB]at hb;omega
  refine KK ?_;refine RT ?_;rw[show BY k vals=([],1)from by simp[BY,hk,hb]];exact⟨[.prim (.slice none 0 0),iA 1],[AQ true [],iA 1],_,[],.cons (.tmp rfl) rfl (.cons (.tmp rfl) rfl .nil),.cons (.cell .nil) (.cons (.cell .same) .nil),by exact Sub.f,rfl,rfl⟩
 have hl:vals.length=k.fields.length:=by rw[AL,AB,AB]at hb;omega
 have hv:(vals.map iA).length<=8:=by simp;omega
 have hz:List.replicate (vals.map iA).length (zAV [.int .i64 0] false)=(Ia k vals 0).map iA:=by simp[Ia];exact .inr rfl
 (iterate 5 refine WK ?_);refine AOps.gN ?_;refine AOps.rs λXL=>?_;refine AOps.s (W.make rfl rfl .here rfl (.inr rfl) rfl rfl (Nat.le_refl _) (by omega) (Nat.le_trans hv (by decide))) rfl ?_;(iterate 11 refine WK ?_);refine CI (λi:Nat=>⟨[(1,AQ false vals),(7,.sl XL 0 (vals.map iA).length),(25,EH false k.fields),(26,iA (k.fields.map fieldA).length),(27,iA i)],(XL,.row 3 1 ((Ia k vals i).map iA))::(B,.row 133 2 [Av false k])::Sf⟩) (λi=>i<=vals.length) (λi=>vals.length-i) 0 (Nat.zero_le _) ⟨.cons rfl (.cons rfl (.cons rfl (.cons rfl (.cons rfl .nil)))),(by show List.Sublist ((XL,.row 3 1 ((Ia k vals 0).map iA))::(B,.row 133 2 [Av false k])::Sf) _;rw[<-hz];exact Sub.f)⟩ ?_
 rintro i hi;refine KK ?_;refine AWP.cond rfl (λhb=>?_) (λhb=>?_)
 ·have h:i<vals.length:=by rw[AD,AB]at hb;omega
  have h':i<k.fields.length:=by omega
  (iterate 6 refine WK ?_);refine AOps.gN ?_;refine AOps.p (W.idxL rfl rfl rfl (BH _ h')) rfl ?_;refine KK ?_;refine Ai λX=>?_;refine KK ?_
  refine RU ?_;(iterate 5 refine RK ?_);refine RGo.gN ?_;refine RGo.p (W.idxL rfl rfl rfl (BH _ h)) rfl ?_;refine RK ?_;refine RGo.gN ?_;refine RGo.p (W.call2 rfl rfl (QB _ _) rfl) rfl ?_;refine RGo.gN ?_;refine RGo.p (W.idx rfl rfl (by exact At.f) rfl (by simpa using h) (Nat.zero_add _)) rfl ?_;refine RGo.gN ?_;refine RGo.s (W.store rfl rfl (by exact At.f) (Un hl h) (by exact rfl)) rfl ?_;refine RGo.nil (by kernel_rfl) ?_;refine KK ?_;refine⟨i+1,by omega,by omega,.cons rfl (.cons rfl (.cons rfl (.cons rfl (.cons rfl .nil)))),?_⟩;show List.Sublist ((XL,.row 3 1 ((Ia k vals (i+1)).map iA))::(B,.row 133 2 [Av false k])::Sf) _
  rw[<-TA hl h];exact Sub.f
 ·have h:¬i<vals.length:=by rw[AL,AB]at hb;omega
  refine KK ?_;refine RT ?_;rw[show BY k vals=(List.zipWith BT k.fields vals,0)from by simp[BY,hk,hl]]
  have he:(Ia k vals i).map iA=(List.zipWith BT k.fields vals).map iA:=by
   congr 1
   rw[Ia,show vals.length-i=0 from by omega,List.take_of_length_le (by simp;omega)];simp
  refine⟨[.sl XL 0 (vals.map iA).length,iA 0],[.lst true 3 1 ((Ia k vals i).map iA),iA 0],_,[],.cons (.tmp rfl) rfl (.cons (.tmp rfl) rfl .nil),.cons (.cell (.sl (p:=0) .here (by rw[he];simp;omega))) (.cons (.cell .same) .nil),by exact Sub.f,?_,rfl⟩;rw[he];rfl
theorem PN{k:Kind}{vals:List Int}(h:(BY k vals).2=0):(BY k vals).1.length=vals.length/\vals.length<=8:=by
 unfold BY at h⊢;split
 ·rename_i h1;rw[if_pos h1]at h;exact absurd h h1
 ·rename_i h1
  rw[if_neg h1]at h;split
  ·rename_i h2;rw[if_pos h2]at h;cases h
  ·rename_i h2;have:=HO (Decidable.not_not.1 h1);simp;omega
theorem Sx(k:Kind)(vals:List Int):PS Tryz.prog 106 [Av false k,AQ false vals] (bA (Bs k vals)):=by
 refine Sp (nt:=31) (res:=[.tmp 4]) Tryz.func106 λSf=>?_
 have hfr:(AV.tup [AQ true (BY k vals).1,iA (BY k vals).2]).frz= .tup [AQ false (BY k vals).1,iA (BY k vals).2]:=by
  show AV.tup [(AQ true (BY k vals).1).frz,_]=_
  rw[RM];rfl
 refine KK ?_;refine Ai λX=>?_;(iterate 6 refine WK ?_);refine AOps.gN ?_;refine AOps.p (W.callF2 rfl rfl (PM _ _) rfl hfr) rfl ?_;refine KK ?_
 refine AWP.cond rfl (λhb=>?_) (λhb=>?_)
 ·have hb:(BY k vals).2≠0:=by simpa using hb
  refine KK ?_;refine RT ?_;refine BE rfl rfl (by exact Sub.f) ⟨?_,rfl⟩;simp[Bs,hb]
 have hb:(BY k vals).2=0:=by simpa using hb
 obtain⟨hlen,h8⟩:=PN hb;obtain⟨fl,hfl⟩:∃fl,fl=(BY k vals).1:=⟨_,rfl⟩;rw[<-hfl]at hlen;rw[show Bs k vals=decide (fl=vals)from by simp[Bs,hb,hfl]];rw[<-hfl];clear hfr
 (iterate 9 refine WK ?_);refine CI (λi:Nat=>⟨[(1,AQ false vals),(5,AQ false fl),(17,iA (fl.map iA).length),(18,iA i)],Sf⟩) (λi=>i<=vals.length/\∀j (h:j<vals.length),j<i->fl[j]'(by omega)=vals[j]) (λi=>vals.length-i) 0 ⟨Nat.zero_le _,λj h hj=>absurd hj (by omega)⟩ ⟨.cons rfl (.cons rfl (.cons rfl (.cons rfl .nil))),by exact Sub.f⟩ ?_
 rintro i ⟨hi,he⟩;refine KK ?_;refine AWP.cond rfl (λhc=>?_) (λhc=>?_)
 ·have h:i<fl.length:=by rw[AD,AB]at hc;omega
  have h':i<vals.length:=by omega
  refine KK ?_;refine RU ?_;refine RK ?_;refine RK ?_;refine RGo.gN ?_;refine RGo.p (W.idxL rfl rfl rfl (BH _ h)) rfl ?_;(iterate 3 refine RK ?_);refine RGo.gN ?_;refine RGo.p (W.idxL rfl rfl rfl (BH _ h')) rfl ?_;refine RK ?_;refine RK ?_;refine RGo.nil (by kernel_rfl) ?_;refine WK ?_;refine AWP.cond rfl (λhd=>?_) (λhd=>?_)
  ·have hd:fl[i]≠vals[i]:=by simpa using hd
   refine KK ?_;refine RT ?_;refine BE rfl rfl (by exact Sub.f) ⟨?_,rfl⟩;rw[AK (λe=>hd (by subst e;rfl))]
  ·have hd:fl[i]=vals[i]:=by simpa using hd
   refine KK ?_;refine⟨i+1,⟨by omega,λj h1 h2=>?_⟩,by omega,.cons rfl (.cons rfl (.cons rfl (.cons rfl .nil))),by exact Sub.f⟩;by_cases e:j=i
   ·subst e;exact hd
   ·exact he j h1 (by omega)
 ·have h:¬i<fl.length:=by rw[AL,AB]at hc;omega
  refine KK ?_;refine RT ?_;refine BE rfl rfl (by exact Sub.f) ⟨?_,rfl⟩;rw[Ah (List.ext_getElem hlen λj h1 h2=>he j h2 (by omega))]
theorem Uq(l:List Kind)(name:List UInt8)(hl:l.length<=1099511627776):PS Tryz.prog 105 [Ae false false l,sA name] (iA (DC l name)):=by
 refine Sp (nt:=20) (res:=[.tmp 4]) Tryz.func105 λSf=>?_
 (iterate 12 refine WK ?_);refine CI (λi:Nat=>⟨[(1,sA name),(7,Ae false false l),(8,iA (l.map (Av false)).length),(9,iA i)],Sf⟩) (λi=>i<=l.length/\∀j (h:j<l.length),j<i->l[j].name≠name) (λi=>l.length-i) 0 ⟨by omega,by omega⟩ ⟨.cons rfl (.cons rfl (.cons rfl (.cons rfl .nil))),List.Sublist.refl _⟩ ?_
 rintro i ⟨hi,hn⟩;refine KK ?_;refine AWP.cond rfl (λhb=>?_) (λhb=>?_)
 ·have h:i<l.length:=by simpa using hb
  (iterate 6 refine WK ?_);refine AOps.gN ?_;refine AOps.p (W.idxL rfl rfl rfl (BH _ h)) rfl ?_;refine KK ?_;refine Ai λX=>?_;refine KK ?_
  refine AWP.cond rfl (λhc=>?_) (λhc=>?_)
  ·have hc:l[i].name=name:=by simpa using hc
   refine KK ?_;refine RT ?_;refine BE rfl rfl (by exact Sub.f) ⟨?_,rfl⟩;rw[LD h hc λj hj=>hn j (by omega) hj]
  ·have hc:l[i].name≠name:=by simpa using hc
   refine KK ?_;refine⟨i+1,⟨by omega,λj hj hji=>?_⟩,by omega,.cons rfl (.cons rfl (.cons rfl (.cons rfl .nil))),by exact Sub.f⟩;by_cases e:j=i
   ·subst e;exact hc
   ·exact hn j hj (by omega)
 ·have h:¬i<l.length:=by simpa using hb
  refine KK ?_;refine RT ?_;refine BE rfl rfl (by exact Sub.f) ⟨?_,rfl⟩;rw[HB λj hj=>hn j hj (by omega)]
theorem Ki(l:List Kind):PS Tryz.prog 67 [Ae false false l] (iA (Az l)):=by
 refine Sp (nt:=29) (res:=[.tmp 2]) Tryz.func67 λSf=>?_
 refine KK ?_;refine AWP.cond rfl (λhb=>?_) (λhb=>?_)
 ·refine KK ?_
  refine RT ?_;refine BE rfl rfl (by exact Sub.f) ⟨?_,rfl⟩;have hb:16<l.length:=by rw[AD,AB]at hb;omega
  rw[show Az l=2 from by simp[Az,hb]]
 have hl:l.length<=16:=by rw[AL,AB]at hb;omega
 have e1:Az l=Bv [] l:=by simp[Az];omega
 (iterate 9 refine WK ?_);refine CI (λi:Nat=>⟨[(0,Ae false false l),(9,Ae false false l),(10,iA (l.map (Av false)).length),(11,iA i)],Sf⟩) (λi=>i<=l.length/\Bv [] l=Bv (l.take i) (l.drop i)) (λi=>l.length-i) 0 ⟨by omega,rfl⟩ ⟨.cons rfl (.cons rfl (.cons rfl (.cons rfl .nil))),by exact Sub.f⟩ ?_
 rintro i ⟨hi,he⟩;refine KK ?_;refine AWP.cond rfl (λhb=>?_) (λhb=>?_)
 ·have h:i<l.length:=by simpa using hb
  (repeat first|(refine AOps.gN ?_;first|refine AOps.p (W.idxL rfl rfl rfl (BH _ h)) rfl ?_|refine AOps.p (W.call1 rfl (SU _) rfl) rfl ?_)|refine WK ?_|refine Ai λX=>?_|refine Ay λY=>?_);refine AWP.cond rfl (λhc=>?_) (λhc=>?_)
  ·have hc:BZ l[i]≠0:=by simpa using hc
   refine KK ?_;refine RT ?_;refine BE rfl rfl (by exact Sub.f) ⟨?_,rfl⟩;rw[e1,he,GT h,Mb hc];rfl
  have hc:BZ l[i]=0:=by simpa using hc
  have hf:PS Tryz.prog 105 [.lst false 133 2 ((l.map (Av false)).take i),sA l[i].name] (iA (DC (l.take i) l[i].name)):=by
   have:=Uq (l.take i) l[i].name (by simp;omega);simpa only[Ae,List.map_take]using this
  refine KK ?_;refine RU ?_;refine RK ?_;refine RK ?_;refine RGo.gN ?_;refine RGo.p (W.hiL rfl rfl rfl (by simp;omega)) rfl ?_;refine RK ?_;refine RK ?_;refine RGo.gN ?_;refine RGo.p (W.call2 rfl rfl hf rfl) rfl ?_;refine RK ?_;refine RGo.nil (by kernel_rfl) ?_;refine WK ?_;refine AWP.cond rfl (λhd=>?_) (λhd=>?_)
  ·have hd:0<=DC (l.take i) l[i].name:=by simpa using hd
   refine KK ?_;refine RT ?_;refine BE rfl rfl (by exact Sub.f) ⟨?_,rfl⟩;rw[e1,he,GT h,J1 hc hd]
  ·have hd:DC (l.take i) l[i].name<0:=by simpa using hd
   refine KK ?_;refine⟨i+1,⟨by omega,?_⟩,by omega,.cons rfl (.cons rfl (.cons rfl (.cons rfl .nil))),by exact Sub.f⟩;rw[he,GT h,K6 hc hd,List.take_add_one,AG h];rfl
 ·have h:¬i<l.length:=by simpa using hb
  refine KK ?_;refine RT ?_;refine BE rfl rfl (by exact Sub.f) ⟨?_,rfl⟩;rw[e1,he,Ma (by omega)]
def Cl(ks:List Kind):Int->List Comp->Bool
 |_,[]=>true
 |last,c::l=>match ks[c.kind.toNat]? with
  |some k=>decide (last<c.kind)&&decide (c.kind<ks.length)&&Bs k c.vals&&Cl ks c.kind l
  |none=>false
def BJ(ks:List Kind)(l:List Comp):Bool:=Cl ks (-1) l
theorem Nt{ks:List Kind}{l:List Comp}{i:Nat}{last:Int}{k:Kind}{c:Comp}(h:i<l.length)(hc:l[i]=c)(hk:ks[c.kind.toNat]?=some k):Cl ks last (l.drop i)=(decide (last<c.kind)&&decide (c.kind<ks.length)&&Bs k c.vals&&Cl ks c.kind (l.drop (i+1))):=by
 rw[By h,Cl,hc,hk]
theorem Iw{ks:List Kind}{l:List Comp}{i:Nat}{last:Int}{c:Comp}(h:i<l.length)(hc:l[i]=c)(hn:c.kind<=last\/(ks.length:Int)<=c.kind):Cl ks last (l.drop i)=false:=by
 rw[By h,Cl,hc];split
 ·rcases hn with hn|hn
  ·rw[AK (by omega)];rfl
  ·rw[AK (p:=c.kind<_) (by omega)];simp
 ·rfl
def B9(ks:List Kind)(gens:List Int):Int->List Item->Bool
 |_,[]=>true
 |last,it::l=>match gens[it.ent.n.toNat]? with
  |some g=>decide (last<it.ent.n)&&decide (it.ent.n<gens.length)&&decide (it.ent.gen=g)&& !decide (it.ent.gen=1073741824)&&BJ ks it.comps&&B9 ks gens it.ent.n l
  |none=>false
theorem Md{ks:List Kind}{gens:List Int}{l:List Item}{i:Nat}{last:Int}{g:Int}{it:Item}(h:i<l.length)(hc:l[i]=it)(hk:gens[it.ent.n.toNat]?=some g):B9 ks gens last (l.drop i)=(decide (last<it.ent.n)&&decide (it.ent.n<gens.length)&&decide (it.ent.gen=g)&& !decide (it.ent.gen=1073741824)&&BJ ks it.comps&&B9 ks gens it.ent.n (l.drop (i+1))):=by
 rw[By h,B9,hc,hk]
theorem Ht{ks:List Kind}{gens:List Int}{l:List Item}{i:Nat}{last:Int}{it:Item}(h:i<l.length)(hc:l[i]=it)(hn:it.ent.n<=last\/(gens.length:Int)<=it.ent.n):B9 ks gens last (l.drop i)=false:=by
 rw[By h,B9,hc];split
 ·rcases hn with hn|hn
  ·rw[AK (by omega)];rfl
  ·rw[AK (p:=it.ent.n<_) (by omega)];simp
 ·rfl
def HR(l:List Int):Bool:=l.all λg=>decide (0<=g)&&decide (g<=1073741824)
def Cp(w:Wd):Int:=
 if Az w.kinds≠0 then Az w.kinds
 else if 256<w.gens.length\/w.gens.length<w.items.length then 2
 else if HR w.gens=false then 3
 else if B9 w.kinds w.gens (-1) w.items=false then 3 else 0
theorem Uj(ks:List Kind)(l:List Comp)(hl:l.length<=1099511627776):PS Tryz.prog 68 [Ae false false ks,Aw false false l] (bA (BJ ks l)):=by
 refine Sp (nt:=39) (res:=[.tmp 4]) Tryz.func68 λSf=>?_
 have hlm:(l.map (AH false)).length=l.length:=AB _;refine KK ?_;refine BV (λ(i:Nat) (last:Int)=>⟨[(0,Ae false false ks),(5,iA last),(8,Aw false false l),(9,iA (l.map (AH false)).length),(10,iA i)],Sf⟩) (λi last=>i<=l.length/\ -1<=last/\Cl ks last (l.drop i)=BJ ks l) (λi _=>l.length-i) 0 (-1) ⟨Nat.zero_le _,by omega,rfl⟩ ?_;rintro i last ⟨hi,hla,he⟩;refine KK ?_;refine AWP.cond rfl (λhc=>?_) (λhc=>?_)
 ·have h:i<l.length:=by rw[AD,hlm]at hc;omega
  obtain⟨⟨ck,cv⟩,hcc⟩:∃c,l[i]=c:=⟨_,rfl⟩;have hat:(l.map (AH false))[i]?=some (AH false ⟨ck,cv⟩):=by rw[AF,AG h,hcc];rfl
  refine KK ?_;refine Ai λX=>?_;refine KK ?_
  rcases Bool.eq_false_or_eq_true (decide (ck<=last))with g1|g1
  ·refine RU ?_;(repeat first|(refine RGo.gQ ?_;first|refine RGo.goNU ?_|refine RGo.goNV ?_)|refine RK ?_|refine RGo.nil (by kernel_rfl) ?_)
   refine AP rfl (by first|rfl|assumption) ?_;refine KK ?_;refine RT ?_;refine AN ?_;rw[<-he,Iw h hcc (.inl (by simpa using g1))]
  ·obtain⟨n,rfl⟩:∃n:Nat,ck=n:=⟨ck.toNat,by rw[AL]at g1;omega⟩
   rcases Bool.eq_false_or_eq_true (decide (((ks.map (Av false)).length:Int)<=n))with g2|g2
   ·refine RU ?_;(repeat first|(refine RGo.gQ ?_;first|refine RGo.goNU ?_|refine RGo.goNV ?_)|refine RK ?_|refine RGo.nil (by kernel_rfl) ?_)
    refine AP rfl (by first|rfl|assumption) ?_;refine KK ?_;refine RT ?_;refine AN ?_;rw[<-he,Iw h hcc (.inr (by rw[AD,AB]at g2;exact g2))]
   ·have hkl:n<ks.length:=by rw[AL,AB]at g2;omega
    obtain⟨k,hk⟩:∃k,ks[n]=k:=⟨_,rfl⟩;have hka:ks[n]?=some k:=by rw[AG hkl,hk]
    have hat2:(ks.map (Av false))[n]?=some (Av false k):=by rw[AF,hka];rfl
    have hst:=Nt (last:=last) (k:=k) h hcc hka;dsimp only at hst;rw[Ah (by rw[AL]at g1;omega),Ah (p:=(n:Int)<_) (by omega),Bool.true_and,Bool.true_and,he]at hst;have hh:=Sx k cv;obtain⟨b,hb⟩:∃b,Bs k cv=b:=⟨_,rfl⟩;rw[hb]at hst hh;cases b
    ·refine RU ?_;refine KR ?_;refine RGo.g_callf ?_;refine RGo.c2 (h:=(hh ..)) (k:=?_);refine RK ?_;refine RK ?_;refine RGo.nil (by kernel_rfl) ?_
     refine AP rfl (by first|rfl|assumption) ?_;refine KK ?_;refine RT ?_;refine AN ?_;rw[hst];rfl
    ·refine RU ?_;refine KR ?_;refine RGo.g_callf ?_;refine RGo.c2 (h:=(hh ..)) (k:=?_);refine RK ?_;refine RK ?_;refine RGo.nil (by kernel_rfl) ?_
     refine AA rfl (by first|rfl|assumption) ?_;refine KK ?_;refine A9 (i+1) n ⟨h,by omega,hst.symm⟩
 ·have h:i=l.length:=by rw[AL,hlm]at hc;omega
  subst h;refine KK ?_;refine RT ?_;refine AN ?_;rw[<-he,List.drop_length];rfl
theorem ED(w:Wd)(hg:w.gens.length<=1099511627776)(hi:w.items.length<=1099511627776)(hc:∀it∈w.items,it.comps.length<=1099511627776):PS Tryz.prog 30 [wdA false w] (iA (Cp w)):=by
 have hck:=Ki w.kinds;obtain⟨ke,hke⟩:∃ke,Az w.kinds=ke:=⟨_,rfl⟩;obtain⟨we,hwe⟩:∃we,Cp w=we:=⟨_,rfl⟩;rw[hwe];unfold Cp at hwe;rw[hke]at hck hwe;obtain⟨ks,gens,items⟩:=w;dsimp only at hwe hg hi hc hck hke;refine Sp (nt:=94) (res:=[.tmp 2]) Tryz.func30 λSf=>?_
 have hgm:(gens.map iA).length=gens.length:=AB _;have him:(items.map (AE false)).length=items.length:=AB _;refine RG ?_;refine AOps.g_box ?_;refine Aj ?_;refine WO ?_;refine NL ?_;refine RG ?_;refine KO ?_;refine AOps.g_callf ?_;refine AOps.c1 (h:=(hck ..)) (k:=?_);refine WO ?_;refine NL ?_;refine KK ?_;refine AWP.cond rfl (λhd=>?_) (λhd=>?_)
 ·have hd:ke≠0:=by simpa using hd
  refine KK ?_;refine RT ?_;refine AN ?_;rw[<-hwe,if_pos hd]
 have hd:ke=0:=by simpa using hd
 rw[if_neg (by simp[hd])]at hwe;rcases Bool.eq_false_or_eq_true (decide (256<((gens.map iA).length:Int)))with g1|g1
 ·refine KK ?_
  refine AP rfl (by first|rfl|assumption) ?_;refine KK ?_;refine RT ?_;refine AN ?_;rw[<-hwe,if_pos (.inl (by rw[AD,hgm]at g1;omega))]
 rcases Bool.eq_false_or_eq_true (decide (((gens.map iA).length:Int)<(items.map (AE false)).length))with g2|g2
 ·refine KK ?_
  refine AP rfl (by first|rfl|assumption) ?_;refine KK ?_;refine RT ?_;refine AN ?_;rw[<-hwe,if_pos (.inr (by rw[AD,hgm,him]at g2;omega))]
 refine KK ?_;refine AA rfl (by first|rfl|assumption) ?_;rw[if_neg (by rw[AL,hgm]at g1;rw[AL,hgm,him]at g2;omega)]at hwe;refine KK ?_;refine BB (λi:Nat=>⟨[(1,.fp (wdA false ⟨ks,gens,items⟩).cells),(29,AQ false gens),(30,iA (gens.map iA).length),(31,iA i)],Sf⟩) (λi=>i<=gens.length/\∀j (h:j<gens.length),j<i->0<=gens[j]/\gens[j]<=1073741824) (λi=>gens.length-i) 0 ⟨Nat.zero_le _,λj h hj=>absurd hj (by omega)⟩ ?_;rintro i ⟨hil,hgo⟩;refine KK ?_;refine AWP.cond rfl (λhe=>?_) (λhe=>?_)
 ·have h:i<gens.length:=by rw[AD,hgm]at he;omega
  obtain⟨x,hx⟩:∃x,gens[i]=x:=⟨_,rfl⟩;have hat:(gens.map iA)[i]?=some (iA x):=by rw[AF,AG h,hx];rfl
  have hbad:¬(0<=x/\x<=1073741824)->HR gens=false:=λhn=>by
   unfold HR;rw[List.all_eq_false];refine⟨x,hx▸AY h,?_⟩;simp only[Bool.and_eq_true,AD];exact hn
  refine KK ?_;refine AWP.cond rfl (λhf=>?_) (λhf=>?_)
  ·have hf:¬(0<=x/\x<=1073741824):=by simp at hf;omega
   refine KK ?_;refine RT ?_;refine AN ?_;rw[<-hwe,if_pos (hbad hf)]
  ·have hf:0<=x/\x<=1073741824:=by simp at hf;omega
   refine KK ?_;refine Ab (i+1) ⟨h,λj h1 h2=>?_⟩;by_cases e:j=i
   ·subst e;rw[hx];exact hf
   ·exact hgo j h1 (by omega)
 have hgok:HR gens=true:=by
  have h:i=gens.length:=by rw[AL,hgm]at he;omega
  unfold HR;rw[List.all_eq_true];intro x hx;obtain⟨j,hj,rfl⟩:=List.getElem_of_mem hx;simp only[Bool.and_eq_true,AD];exact hgo j hj (by omega)
 rw[if_neg (by simp[hgok])]at hwe;refine KK ?_;refine BV (λ(i:Nat) (last:Int)=>⟨[(1,.fp (wdA false ⟨ks,gens,items⟩).cells),(6,iA last),(43,Fv false false items),(44,iA (items.map (AE false)).length),(45,iA i)],Sf⟩) (λi last=>i<=items.length/\ -1<=last/\B9 ks gens last (items.drop i)=B9 ks gens (-1) items) (λi _=>items.length-i) 0 (-1) ⟨Nat.zero_le _,by omega,rfl⟩ ?_;clear hil hgo he i;rintro i last ⟨hil,hla,he⟩;refine KK ?_;refine AWP.cond rfl (λhd'=>?_) (λhd'=>?_)
 ·have h:i<items.length:=by rw[AD,him]at hd';omega
  obtain⟨⟨⟨en,eg⟩,cs⟩,hit⟩:∃it,items[i]=it:=⟨_,rfl⟩;have hat:(items.map (AE false))[i]?=some (AE false ⟨⟨en,eg⟩,cs⟩):=by rw[AF,AG h,hit];rfl
  have hcl:=hc _ (hit▸AY h);dsimp only at hcl;refine KK ?_;refine Ai λX=>?_;refine KK ?_
  rcases Bool.eq_false_or_eq_true (decide (en<=last))with q1|q1
  ·refine RU ?_;(repeat first|(refine RGo.gQ ?_;first|refine RGo.goNU ?_|refine RGo.goNV ?_)|refine RK ?_|refine RGo.nil (by kernel_rfl) ?_)
   refine AP rfl (by first|rfl|assumption) ?_;refine KK ?_;refine RT ?_;refine AN ?_;rw[<-hwe,if_pos (by rw[<-he,Ht h hit (.inl (by simpa using q1))])]
  obtain⟨n,rfl⟩:∃n:Nat,en=n:=⟨en.toNat,by rw[AL]at q1;omega⟩;rcases Bool.eq_false_or_eq_true (decide (((gens.map iA).length:Int)<=n))with q2|q2
  ·refine RU ?_;(repeat first|(refine RGo.gQ ?_;first|refine RGo.goNU ?_|refine RGo.goNV ?_)|refine RK ?_|refine RGo.nil (by kernel_rfl) ?_)
   refine AP rfl (by first|rfl|assumption) ?_;refine KK ?_;refine RT ?_;refine AN ?_;rw[<-hwe,if_pos (by rw[<-he,Ht h hit (.inr (by rw[AD,hgm]at q2;exact q2))])]
  have hkl:n<gens.length:=by rw[AL,hgm]at q2;omega
  obtain⟨g,hg'⟩:∃g,gens[n]=g:=⟨_,rfl⟩;have hga:gens[n]?=some g:=by rw[AG hkl,hg']
  have hat2:(gens.map iA)[n]?=some (iA g):=by rw[AF,hga];rfl
  have hst:=Md (ks:=ks) (last:=last) (g:=g) h hit hga;dsimp only at hst;rw[Ah (by rw[AL]at q1;omega),Ah (p:=(n:Int)<_) (by omega),Bool.true_and,Bool.true_and,he]at hst;rcases Bool.eq_false_or_eq_true (decide (eg≠g))with q3|q3
  ·refine RU ?_;(repeat first|(refine RGo.gQ ?_;first|refine RGo.goNU ?_|refine RGo.goNV ?_)|refine RK ?_|refine RGo.nil (by kernel_rfl) ?_)
   refine AP rfl (by first|rfl|assumption) ?_;refine KK ?_;refine RT ?_;refine AN ?_;rw[<-hwe,if_pos (by rw[hst,AK (by simpa using q3)];rfl)]
  rcases Bool.eq_false_or_eq_true (decide (eg=1073741824))with q4|q4
  ·refine RU ?_;(repeat first|(refine RGo.gQ ?_;first|refine RGo.goNU ?_|refine RGo.goNV ?_)|refine RK ?_|refine RGo.nil (by kernel_rfl) ?_)
   refine AP rfl (by first|rfl|assumption) ?_;refine KK ?_;refine RT ?_;refine AN ?_;rw[<-hwe,if_pos (by rw[hst,q4];simp)]
  have hh:=Uj ks cs hcl;obtain⟨b,hb⟩:∃b,BJ ks cs=b:=⟨_,rfl⟩;rw[Ah (p:=eg=g) (by simpa using q3),q4,hb,Bool.true_and,Bool.not_false,Bool.true_and]at hst;rw[hb]at hh;cases b
  ·refine RU ?_;refine KR ?_;refine RGo.g_callf ?_;refine RGo.c2 (h:=(hh ..)) (k:=?_);refine RK ?_;refine RK ?_;refine RGo.nil (by kernel_rfl) ?_
   refine AP rfl (by first|rfl|assumption) ?_;refine KK ?_;refine RT ?_;refine AN ?_;rw[<-hwe,if_pos (by rw[hst];rfl)]
  ·refine RU ?_;refine KR ?_;refine RGo.g_callf ?_;refine RGo.c2 (h:=(hh ..)) (k:=?_);refine RK ?_;refine RK ?_;refine RGo.nil (by kernel_rfl) ?_
   refine AA rfl (by first|rfl|assumption) ?_;refine KK ?_;refine A9 (i+1) n ⟨h,by omega,hst.symm⟩
 ·have h:i=items.length:=by rw[AL,him]at hd';omega
  refine KK ?_;refine RT ?_;refine AN ?_;rw[<-hwe,if_neg (by rw[<-he,h,List.drop_length];simp[B9])]
theorem J6(a:Int):PS Tryz.prog 89 [iA a] (bA false):=by
 refine Sp (nt:=6) (res:=[.tmp 2]) Tryz.func89 λSf=>?_
 refine KK ?_;refine RT ?_;refine AN ?_;have:decide (a≠a)=false:=AK (by simp);rw[this]
def Cn(a b:Int):Int:=if a<b then-1 else if b<a then 1 else 0
theorem Ez(a b:Int):PS Tryz.prog 57 [iA a,iA b] (iA (Cn a b)):=by
 refine Sp (nt:=20) (res:=[.tmp 4]) Tryz.func57 λSf=>?_
 refine KK ?_;refine AOps.g_callf ?_;refine AOps.c1 (h:=(J6 a)) (k:=?_);refine KK ?_;refine AOps.g_callf ?_;refine AOps.c1 (h:=(J6 b)) (k:=?_);refine KK ?_;refine AA rfl rfl ?_;refine KK ?_;refine AA rfl rfl ?_;refine KK ?_;refine AWP.cond rfl (λh=>?_) (λh=>?_)
 ·have h:a<b:=by simpa using h
  refine KK ?_;refine RT ?_;refine AN ?_;rw[Cn,if_pos h]
 ·have h:¬a<b:=by simpa using h
  refine KK ?_;refine AWP.cond rfl (λh2=>?_) (λh2=>?_)
  ·have h2:b<a:=by simpa using h2
   refine KK ?_;refine RT ?_;refine AN ?_;rw[Cn,if_neg h,if_pos h2]
  ·have h2:¬b<a:=by simpa using h2
   refine KK ?_;refine RT ?_;refine AN ?_;rw[Cn,if_neg h,if_neg h2]
def EP{α:Type}(l:List α)(p:α->Bool):Int:=match l.findIdx? p with
 |some i=>i
 |none=>-1
theorem Em{α:Type}{l:List α}{p:α->Bool}(h:∀j (hj:j<l.length),p l[j]=false):EP l p= -1:=by
 have:l.findIdx? p=none:=by
  rw[List.findIdx?_eq_none_iff];intro x hx;obtain⟨j,hj,rfl⟩:=List.getElem_of_mem hx;exact h j hj
 simp[EP,this]
theorem El{α:Type}{l:List α}{p:α->Bool}{i:Nat}(hi:i<l.length)(e:p l[i]=true)(h:∀j (hj:j<i),p (l[j]'(by omega))=false):EP l p=i:=by
 have:l.findIdx? p=some i:=by
  rw[List.findIdx?_eq_some_iff_getElem];exact⟨hi,e,λj hj=>by simpa using h j hj⟩
 simp[EP,this]
theorem KC{α:Type}(l:List α)(p:α->Bool):decide ((0:Int)<=EP l p)=l.any p:=by
 unfold EP;cases h:l.findIdx? p with
 |none=>
  rw[List.findIdx?_eq_none_iff]at h;have:l.any p=false:=List.any_eq_false.2 λx hx=>by rw[h x hx];simp
  rw[this];rfl
 |some i=>
  obtain⟨hi,e,_⟩:=List.findIdx?_eq_some_iff_getElem.1 h;have:l.any p=true:=List.any_eq_true.2 ⟨_,AY hi,e⟩;rw[this];simp
theorem KB{α:Type}(l:List α)(p:α->Bool): -1<=EP l p/\EP l p<l.length/\EP l p<=l.length:=by
 unfold EP;cases h:l.findIdx? p with
 |none=>simp;omega
 |some i=>
  obtain⟨hi,_⟩:=List.findIdx?_eq_some_iff_getElem.1 h;simp;omega
theorem K7(l:List Item)(f:FuncId)(cap:List AV)(p:Item->Bool)(hs:B4 cap=true)(hl:l.length<=4611686018427387904)(hf:∀x∈l,PS Tryz.prog f ((AE false) x::cap) (bA (p x))):PS Tryz.prog 72 [.lst false 54 3 (l.map (AE false)),.fn f cap] (iA (EP l p)):=by
 refine Sp (nt:=19) (res:=[.tmp 4]) Tryz.func72 λSf=>?_
 refine KK ?_;refine BB (λi:Nat=>⟨[(0,.lst false 54 3 (l.map (AE false))),(1,.fn f cap),(7,iA (l.map (AE false)).length),(8,iA i)],Sf⟩) (λi=>i<=l.length/\∀j (h:j<l.length),j<i->p l[j]=false) (λi=>l.length-i) 0 ⟨Nat.zero_le _,λj h hj=>absurd hj (by omega)⟩ ?_;rintro i ⟨hi,he⟩;refine KK ?_;refine AWP.cond rfl (λhc=>?_) (λhc=>?_)
 ·have h:i<l.length:=by simpa using hc
  refine KK ?_;refine AOps.g_callv ?_;refine Gw (h:=(hf _ (AY h))) (k:=?_);refine KK ?_;refine AWP.cond rfl (λhd=>?_) (λhd=>?_)
  ·refine KK ?_
   refine RT ?_;refine AN ?_;rw[El h hd λj hj=>he j (by omega) hj]
  ·refine KK ?_
   refine Ab (i+1) ⟨h,λj h1 h2=>?_⟩;by_cases e:j=i
   ·subst e;exact hd
   ·exact he j h1 (by omega)
 ·have h:¬i<l.length:=by simpa using hc
  refine KK ?_;refine RT ?_;refine AN ?_;rw[Em λj hj=>he j hj (by omega)]
def I4{α:Type}(g:α->Int)(l:List α):Prop:=∀(a b:Nat) (x y:α),a<=b->l[a]?=some x->l[b]?=some y->g y<0->g x<0
def Spl{α:Type}(g:α->Int)(l:List α)(i j:Nat):Prop:=(∀(k:Nat) (x:α),k<i->l[k]?=some x->g x<0)/\∀(k:Nat) (x:α),j<=k->l[k]?=some x->¬g x<0
structure Found{α:Type}(g:α->Int)(l:List α)(r:Nat×Bool):Prop where
 le:r.1<=l.length
 eq:r.2=true↔∃x,l[r.1]?=some x/\g x=0
 mono:I4 g l->Spl g l r.1 r.1
theorem Spl.lo{α:Type}{g:α->Int}{l:List α}{i j m:Nat}{y:α}(hM:I4 g l)(h:Spl g l i j)(hy:l[m]?=some y)(hg:g y<0):Spl g l (m+1) j:=
 ⟨λk x hk hx=>hM k m x y (by omega) hx hy hg,h.2⟩
theorem Spl.hi{α:Type}{g:α->Int}{l:List α}{i j m:Nat}{y:α}(hM:I4 g l)(h:Spl g l i j)(hy:l[m]?=some y)(hg:¬g y<0):Spl g l i m:=
 ⟨h.1,λk x hk hx hx0=>hg (hM m k y x hk hy hx hx0)⟩
theorem TC(x:Item)(e:Ent):PS Tryz.prog 73 [AE false x,.fp (A8 e).cells] (bA (decide (x.ent=e))):=by
 have hE:=TJ x.ent.n x.ent.gen e.n e.gen;rw[show(decide (x.ent.n=e.n)&&decide (x.ent.gen=e.gen))=SJ x.ent e from rfl,Qx]at hE;refine Sp (nt:=8) (res:=[.tmp 3]) Tryz.func73 λSf=>?_
 refine WK ?_;refine WK ?_;refine AOps.g_box ?_;refine Aj ?_;(iterate 7 refine WK ?_);refine AOps.gN ?_;refine AOps.p (W.eqP _ _ (by kernel_rfl) hE rfl rfl) rfl ?_;refine KK ?_;refine RT ?_;refine AN ?_;rfl
def CD(l:List Item)(e:Ent):Int:=EP l λx=>decide (x.ent=e)
theorem N2(w:Wd)(e:Ent)(hl:w.items.length<=4611686018427387904):PS Tryz.prog 32 [wdA false w,A8 e] (iA (CD w.items e)):=by
 have h:=K7 w.items 73 [.fp (A8 e).cells] (λx=>decide (x.ent=e)) rfl hl (λx _=>TC x e);refine Sp (nt:=9) (res:=[.tmp 4]) Tryz.func32 λSf=>?_
 refine RG ?_;refine AOps.g_box ?_;refine Aj ?_;refine AOps.g_box ?_;refine Aj ?_;refine WO ?_;refine NL ?_;refine KK ?_;refine AOps.g_callf ?_;refine AOps.c2 (h:=(h ..)) (k:=?_);refine KK ?_;refine RT ?_;refine AN ?_;rfl
theorem Vp(c:Comp)(k:Int):PS Tryz.prog 93 [AH false c,iA k] (iA (Cn c.kind k)):=by
 refine Sp (nt:=9) (res:=[.tmp 4]) Tryz.func93 λSf=>?_
 refine WK ?_;refine WK ?_;refine AOps.g_box ?_;refine Aj ?_;refine KK ?_;refine AOps.g_callf ?_;refine AOps.c2 (h:=(Ez c.kind k)) (k:=?_);refine KK ?_;refine RT ?_;refine AN ?_;rfl
theorem Oq(l:List Comp)(t:AV)(f:FuncId)(cap:List AV)(g:Comp->Int)(t0:Int)(ht:t=iA t0)(hs:B4 cap=true)(hl:l.length<=4611686018427387904)(hf:∀x∈l,PS Tryz.prog f (AH false x::t::cap) (iA (g x))):
  Spec Tryz.prog 92 [Aw false false l,t,.fn f cap] [] λr S'=>∃b,Found g l b/\r= .tup [iA b.1,bA b.2]/\S'=[]:=by
 subst ht;refine Sp (nt:=49) (res:=[.tmp 6,.tmp 7]) Tryz.func92 λSf=>?_
 have hlm:(l.map (AH false)).length=l.length:=AB _;refine KK ?_;refine BV (λ(i j:Nat)=>⟨[(0,Aw false false l),(1,iA t0),(2,.fn f cap),(8,iA (l.map (AH false)).length),(9,iA i),(10,iA j)],Sf⟩) (λi j=>i<=j/\j<=l.length/\(I4 g l->Spl g l i j)) (λi j=>j-i) 0 (l.map (AH false)).length ⟨Nat.zero_le _,by omega,λ_=>⟨λk x h=>absurd h (by omega),λk x h hx=>by have:=(List.getElem?_eq_some_iff.1 hx).1;omega⟩⟩ ?_;rintro i j ⟨hij,hjn,hmono⟩;refine KK ?_;refine AWP.cond rfl (λhc=>?_) (λhc=>?_)
 ·have h:i<j:=by rw[AD]at hc;omega
  have hmid:((i:Int)+j).fdiv (2^1)=(((i+j)/2:Nat):Int):=by
   rw[Int.fdiv_eq_ediv_of_nonneg _ (by decide)];omega
  have hw1:IntKind.u64.wrap ((i:Int)+j)=i+j:=by rw[IntKind.wrap_u64];omega
  have hw2:IntKind.i64.wrap (((i:Int)+j).fdiv (2^1))=((i:Int)+j).fdiv (2^1):=by
   rw[IntKind.wrap_i64,hmid];omega
  refine RG ?_;(iterate 3 refine WO ?_);refine AOps.gN ?_;refine AOps.p (W.conv .i64 .u64 (by kernel_rfl) (by kernel_rfl) rfl hw1) rfl ?_;refine AOps.gN ?_;refine AOps.p (W.shr 1 rfl rfl rfl (by decide)) rfl ?_;refine AOps.gN ?_;refine AOps.p (W.conv .u64 .i64 (by kernel_rfl) (by kernel_rfl) rfl hw2) rfl ?_;refine WO ?_;refine NL ?_;rw[hmid];obtain⟨m,hm⟩:∃m,(i+j)/2=m:=⟨_,rfl⟩;rw[hm];have hml:m<l.length:=by omega
  obtain⟨y,hy⟩:∃y,l[m]=y:=⟨_,rfl⟩;have hya:l[m]?=some y:=by rw[AG hml,hy]
  have hat:(l.map (AH false))[m]?=some (AH false y):=by rw[AF,hya];rfl
  have hfy:=hf y (by rw[<-hy];exact AY hml);refine RG ?_;refine KO ?_;refine AOps.g_callv ?_;refine AOps.k2 (h:=(hfy ..)) (k:=?_);refine WO ?_;refine NL ?_;refine AWP.cond rfl (λhe=>?_) (λhe=>?_)
  ·have he:g y<0:=by simpa using he
   refine KK ?_;refine A9 (m+1) j ⟨by omega,hjn,λhM=>(hmono hM).lo hM hya he⟩
  ·have he:¬g y<0:=by simpa using he
   refine KK ?_;refine A9 i m ⟨by omega,by omega,λhM=>(hmono hM).hi hM hya he⟩
 ·have h:i=j:=by rw[AL]at hc;omega
  subst h;by_cases hin:i<l.length
  ·have hil:i<l.length:=by omega
   have g1:decide ((i:Int)<(l.map (AH false)).length)=true:=Ah (by omega);obtain⟨y,hy⟩:∃y,l[i]=y:=⟨_,rfl⟩;have hya:l[i]?=some y:=by rw[AG hil,hy]
   have hat:(l.map (AH false))[i]?=some (AH false y):=by rw[AF,hya];rfl
   have hfy:=hf y (by rw[<-hy];exact AY hil);refine KK ?_;refine AOps.g_callv ?_;refine AOps.k2 (h:=(hfy ..)) (k:=?_);refine KK ?_;refine RT ?_;exact⟨[iA i,bA (decide (g y=0))],[iA i,bA (decide (g y=0))],_,[],.cons (.tmp rfl) rfl (.cons (.tmp rfl) rfl .nil),.cons (.cell .same) (.cons (.cell .same) .nil),by exact Sub.f,(i,decide (g y=0)),⟨by simp;omega,by simp[hya],hmono⟩,rfl,rfl⟩
  ·have g1:decide ((i:Int)<(l.map (AH false)).length)=false:=AK (by omega)
   refine KK ?_;refine RT ?_;exact⟨[iA i,bA false],[iA i,bA false],_,[],.cons (.tmp rfl) rfl (.cons (.tmp rfl) rfl .nil),.cons (.cell .same) (.cons (.cell .same) .nil),by exact Sub.f,(i,false),⟨by simp;omega,by simp[List.getElem?_eq_none (show l.length<=i by omega)],hmono⟩,rfl,rfl⟩
theorem WW(l:List Comp)(k:Int)(hl:l.length<=4611686018427387904):Spec Tryz.prog 60 [Aw false false l,iA k] [] λr S'=>∃b,Found (λc:Comp=>Cn c.kind k) l b/\r= .tup [iA b.1,bA b.2]/\S'=[]:=by
 have h:=Oq l (iA k) 93 [] (λc=>Cn c.kind k) k rfl rfl hl (λx _=>Vp x k);refine Sp (nt:=11) (res:=[.tmp 4,.tmp 5]) Tryz.func60 λSf=>?_
 refine R1 ?_;refine RG ?_;refine KO ?_;refine VG (h:=h) λb hb=>?_
 refine KO ?_;refine FL ?_;refine RT ?_;exact⟨[iA b.1,bA b.2],[iA b.1,bA b.2],_,[],.cons (.tmp rfl) rfl (.cons (.tmp rfl) rfl .nil),.cons (.cell .same) (.cons (.cell .same) .nil),by exact Sub.f,b,hb,rfl,rfl⟩
theorem Eo(l:List Int)(hl:l.length*8<=140737488355328):PS Tryz.prog 47 [.lst false 3 1 (l.map iA)] (.lst true 3 1 (l.map iA)):=by
 refine Sp (nt:=8) (res:=[.tmp 2]) Tryz.func47 λSf=>?_
 (iterate 8 refine WK ?_);refine AOps.gN ?_;refine AOps.isNil λb hb=>?_;refine KK ?_
 refine AWP.cond rfl (λhc=>?_) (λhc=>?_)
 ·rw[hb hc]
  refine KK ?_;refine RT ?_;exact⟨[.prim (.slice none 0 0)],[.lst true 3 1 []],_,[],.cons (.tmp rfl) rfl .nil,.cons (.cell .nil) .nil,by exact Sub.f,rfl,rfl⟩
 ·have hl':(0+(l.map iA).length)*8<=140737488355328:=by simpa using hl
  clear hl
  (iterate 3 refine WK ?_);refine AOps.g_lit ?_;refine MD λK=>?_;refine KK ?_;refine Ay λY=>?_;refine KK ?_
  refine RT ?_;exact⟨[.sl Y 0 (0+(l.map iA).length)],[.lst true 3 1 (l.map iA)],_,[],.cons (.tmp rfl) rfl .nil,.cons (.cell (.sl (p:=0) .here (by simp))) .nil,by exact Sub.f,rfl,rfl⟩
def Ci(l:List Comp):Prop:=l.Pairwise λa b=>a.kind<b.kind
theorem G6{ks:List Kind}:∀{l:List Comp} {last:Int},Cl ks last l=true->Ci l/\∀c∈l,last<c.kind/\c.kind<ks.length
 |[],_,_=>⟨.nil,λc hc=>by cases hc⟩
 |c::l,last,h=>by
  rw[Cl]at h;split at h
  ·simp only[Bool.and_eq_true,AD]at h
   obtain⟨h1,h2⟩:=G6 h.2;refine⟨List.pairwise_cons.2 ⟨λd hd=>(h2 d hd).1,h1⟩,λd hd=>?_⟩;rcases List.mem_cons.1 hd with rfl|hd
   ·exact⟨h.1.1.1,h.1.1.2⟩
   ·exact⟨by have:=(h2 d hd).1;have:=h.1.1.1;omega,(h2 d hd).2⟩
  ·cases h
theorem Ml{a b:Int}:Cn a b<0↔a<b:=by
 unfold Cn;split
 ·simp;assumption
 ·split<;>simp<;>omega
theorem cmpI_eq{a b:Int}:Cn a b=0↔a=b:=by
 unfold Cn;split
 ·simp;omega
 ·split<;>simp<;>omega
theorem Om{l:List Comp}(h:Ci l)(k:Int):I4 (λc:Comp=>Cn c.kind k) l:=by
 intro a b x y hab hx hy hy0;rw[Ml]at hy0⊢;by_cases e:a=b
 ·subst e;rw[hx]at hy;cases hy;exact hy0
 ·obtain⟨ha,rfl⟩:=List.getElem?_eq_some_iff.1 hx
  obtain⟨hb,rfl⟩:=List.getElem?_eq_some_iff.1 hy;have:=List.pairwise_iff_getElem.1 h a b ha hb (by omega);omega
theorem RX{l:List Comp}{k:Int}{b:Nat×Bool}(h:Found (λc:Comp=>Cn c.kind k) l b)(hb:b.2=true):∃c,l[b.1]?=some c/\c.kind=k:=by
 obtain⟨c,hc,h0⟩:=h.eq.1 hb;exact⟨c,hc,cmpI_eq.1 h0⟩
theorem S8{l:List Comp}{k:Int}{b:Nat×Bool}(h:Found (λc:Comp=>Cn c.kind k) l b)(hs:Ci l)(hb:b.2=false):∀c∈l,c.kind≠k:=by
 intro c hc e;obtain⟨j,hj,rfl⟩:=List.getElem_of_mem hc;obtain⟨h1,h2⟩:=h.mono (Om hs k);have hne:¬∃x,l[b.1]?=some x/\Cn x.kind k=0:=λhx=>by rw[h.eq.2 hx]at hb;cases hb
 have hjb:b.1<=j:=by
  rcases Nat.lt_or_ge j b.1 with hlt|hge
  ·have:=h1 j _ hlt (AG hj)
   rw[Ml]at this;omega
  ·exact hge
 have hbl:b.1<l.length:=by omega
 have h3:=h2 b.1 _ (Nat.le_refl _) (AG hbl);rw[Ml]at h3;by_cases e2:j=b.1
 ·subst e2
  exact hne ⟨_,AG hj,cmpI_eq.2 e⟩
 ·have:=List.pairwise_iff_getElem.1 hs b.1 j hbl hj (by omega)
  omega
def Bp(l:List Comp)(k:Int):Option Comp:=l.find? λc=>decide (c.kind=k)
theorem Pa{l:List Comp}{k:Int}{c:Comp}(hs:Ci l)(hc:c∈l)(hk:c.kind=k):Bp l k=some c:=by
 induction l with
 |nil=>cases hc
 |cons a l ih=>
  obtain⟨h1,h2⟩:=List.pairwise_cons.1 hs;unfold Bp;rw[List.find?_cons];rcases List.mem_cons.1 hc with rfl|hc
  ·simp[hk]
  ·have:¬a.kind=k:=by have:=h1 c hc;omega
   simp only[this,decide_false];exact ih h2 hc
theorem Ig{l:List Comp}{k:Int}(h:∀c∈l,c.kind≠k):Bp l k=none:=by
 unfold Bp;rw[List.find?_eq_none];intro c hc;simpa using h c hc
def Nv(w:Wd)(e:Ent)(k:Int):List Int×Int:=
 if Cp w≠0 then([],Cp w)else match w.items.find? (λit=>decide (it.ent=e))with
  |none=>([],4)
  |some it=>match Bp it.comps k with
   |none=>([],4)
   |some c=>(c.vals,0)
theorem KP{l:List Item}{e:Ent}(h:CD l e<0):l.find? (λit=>decide (it.ent=e))=none:=by
 unfold CD EP at h;split at h
 ·omega
 ·rename_i h2
  rw[List.findIdx?_eq_none_iff]at h2;rw[List.find?_eq_none];intro x hx;rw[h2 x hx];simp
theorem Ex{l:List Item}{e:Ent}{n:Nat}(h:CD l e=n):∃it,l[n]?=some it/\l.find? (λit=>decide (it.ent=e))=some it/\it.ent=e:=by
 unfold CD EP at h;split at h
 ·rename_i i h2
  have:i=n:=by omega
  subst this;obtain⟨hi,h3,h4⟩:=List.findIdx?_eq_some_iff_getElem.1 h2;refine⟨l[i],AG hi,?_,by simpa using h3⟩;rw[List.find?_eq_some_iff_getElem];exact⟨h3,i,hi,rfl,λj hj=>by simpa using h4 j hj⟩
 ·omega
theorem J4{ks:List Kind}{gens:List Int}:∀{l:List Item} {last:Int},B9 ks gens last l=true->∀it∈l,BJ ks it.comps=true
 |[],_,_,it,hit=>by cases hit
 |x::l,last,h,it,hit=>by
  rw[B9]at h;split at h
  ·simp only[Bool.and_eq_true]at h
   rcases List.mem_cons.1 hit with rfl|hit
   ·exact h.1.2
   ·exact J4 h.2 it hit
  ·cases h
theorem UB{w:Wd}(h:Cp w=0):∀it∈w.items,BJ w.kinds it.comps=true:=by
 unfold Cp at h;split at h
 ·exact absurd h ‹_›
 ·split at h
  ·cases h
  ·split at h
   ·cases h
   ·split at h
    ·cases h
    ·rename_i hi
     exact J4 (by simpa using hi)
theorem UA{w:Wd}(h:Cp w=0):∀it∈w.items,Ci it.comps:=λit hit=>(G6 (UB h it hit)).1
theorem Vn(w:Wd)(e:Ent)(k:Int)(hw:WdL w):PS Tryz.prog 21 [wdA false w,A8 e,iA k] (.tup [AQ true (Nv w e k).1,iA (Nv w e k).2]):=by
 have hck:=ED w hw.gens hw.items.1 (λit hit=>(hw.items.2 it hit).1);have hfd:=N2 w e (by have:=hw.items.1;omega);obtain⟨r,hr⟩:∃r,Nv w e k=r:=⟨_,rfl⟩;rw[hr];unfold Nv at hr;obtain⟨we,hwe⟩:∃we,Cp w=we:=⟨_,rfl⟩;rw[hwe]at hck hr;refine Sp (nt:=46) (res:=[.tmp 6,.tmp 7]) Tryz.func21 λSf=>?_
 refine RG ?_;refine AOps.g_box ?_;refine Aj ?_;refine AOps.g_box ?_;refine Aj ?_;refine KO ?_;refine NL ?_;refine RG ?_;refine WO ?_;refine AOps.g_callf ?_;refine AOps.c1 (h:=(hck ..)) (k:=?_);refine WO ?_;refine NL ?_;refine KK ?_;refine AWP.cond rfl (λhd=>?_) (λhd=>?_)
 ·have hd:we≠0:=by simpa using hd
  rw[if_pos hd]at hr;subst hr;refine KK ?_;refine RT ?_;exact⟨[.prim (.slice none 0 0),iA we],[AQ true [],iA we],_,[],.cons (.tmp rfl) rfl (.cons (.tmp rfl) rfl .nil),.cons (.cell .nil) (.cons (.cell .same) .nil),by exact Sub.f,rfl,rfl⟩
 have hd:we=0:=by simpa using hd
 rw[if_neg (by simp[hd])]at hr;have hsort:=UA (hwe.trans hd);refine RG ?_;refine KO ?_;refine AOps.g_callf ?_;refine AOps.c2 (h:=(hfd ..)) (k:=?_);refine WO ?_;refine NL ?_;refine KK ?_;refine AWP.cond rfl (λhg=>?_) (λhg=>?_)
 ·have hg:CD w.items e<0:=by simpa using hg
  rw[KP hg]at hr;subst hr;refine KK ?_;refine RT ?_;exact⟨[.prim (.slice none 0 0),iA 4],[AQ true [],iA 4],_,[],.cons (.tmp rfl) rfl (.cons (.tmp rfl) rfl .nil),.cons (.cell .nil) (.cons (.cell .same) .nil),by exact Sub.f,rfl,rfl⟩
 obtain⟨n,hn⟩:∃n:Nat,CD w.items e=n:=⟨(CD w.items e).toNat,by(have:¬CD w.items e<0:=by simpa using hg);(omega)⟩;rw[hn];obtain⟨⟨en,cs⟩,hit,hfi,hen⟩:=Ex hn;rw[hfi]at hr;dsimp only at hr;have hmem:=Ao hit;have hcl:=hw.items.2 _ hmem;have hsc:=hsort _ hmem;dsimp only at hcl hsc;have hat:(w.items.map (AE false))[n]?=some (AE false ⟨en,cs⟩):=by rw[AF,hit];rfl
 have hap:=WW cs k (by have:=hcl.1;omega);refine FL ?_;refine RG ?_;refine KO ?_;refine VH (h:=hap) λb hb=>?_
 obtain⟨bi,bb⟩:=b;cases bb
 ·have hno:=S8 hb hsc rfl
  rw[Ig hno]at hr;subst hr;dsimp only;refine KO ?_;refine FL ?_;refine KK ?_;refine AP rfl rfl ?_;refine KK ?_;refine RT ?_;exact⟨[.prim (.slice none 0 0),iA 4],[AQ true [],iA 4],_,[],.cons (.tmp rfl) rfl (.cons (.tmp rfl) rfl .nil),.cons (.cell .nil) (.cons (.cell .same) .nil),by exact Sub.f,rfl,rfl⟩
 ·obtain⟨c,hc,hck'⟩:=RX hb rfl
  dsimp only at hc;have hcm:=Ao hc;rw[Pa hsc hcm hck']at hr;subst hr;obtain⟨ckd,cv⟩:=c;have hvl:=hcl.2 _ hcm;dsimp only at hvl;have hat2:(cs.map (AH false))[bi]?=some (AH false ⟨ckd,cv⟩):=by rw[AF,hc];rfl
  have hcn:=Eo cv (by omega);dsimp only;refine KO ?_;refine FL ?_;refine KK ?_;refine AA rfl rfl ?_;refine KK ?_;refine AOps.g_callf ?_;refine AOps.t1 (h:=hcn) λY=>?_;refine KK ?_
  refine RT ?_;exact⟨[.sl Y 0 (cv.map iA).length,iA 0],[AQ true cv,iA 0],_,[],.cons (.tmp rfl) rfl (.cons (.tmp rfl) rfl .nil),.cons (.cell (.sl (p:=0) .here rfl)) (.cons (.cell .same) .nil),by exact Sub.f,rfl,rfl⟩
def GI(l:List Comp):List Comp:=l.mergeSort λa b=>decide (a.kind<=b.kind)
def Cm(ks:List Kind):List Comp->List Comp->List Comp->List Comp×Int
 |_,out,[]=>(out,0)
 |pre,out,c::l=>
  if c.kind<0\/(ks.length:Int)<=c.kind then([],1)else if pre.any (λo=>decide (o.kind=c.kind))then([],5)else
  match ks[c.kind.toNat]? with
  |none=>([],1)
  |some k=>if(BY k c.vals).2≠0 then([],(BY k c.vals).2)else Cm ks (pre++[c]) (out++[⟨c.kind,(BY k c.vals).1⟩]) l
def CG(ks:List Kind)(l:List Comp):List Comp×Int:=
 if Az ks≠0 then([],Az ks)else if(Cm ks [] [] l).2≠0 then([],(Cm ks [] [] l).2)else(GI (Cm ks [] [] l).1,0)
theorem KL{ks:List Kind}:∀{l pre out:List Comp},(Cm ks pre out l).2=0->(∀a∈out,∃b∈pre,b.kind=a.kind)->out.Pairwise (λa b=>a.kind≠b.kind)->(∀a∈out,0<=a.kind/\a.kind<ks.length)->
  (Cm ks pre out l).1.Pairwise (λa b=>a.kind≠b.kind)/\∀a∈(Cm ks pre out l).1,0<=a.kind/\a.kind<ks.length
 |[],pre,out,h,h1,h2,h3=>⟨h2,h3⟩
 |c::l,pre,out,h,h1,h2,h3=>by
  rw[Cm]at h⊢;split at h
  ·cases h
  ·rename_i g1
   rw[if_neg g1];split at h
   ·cases h
   ·rename_i g2
    rw[if_neg g2];split at h
    ·cases h
    ·rename_i k hk
     split at h
     ·rename_i g3;exact absurd h g3
     ·rename_i g3
      (try simp only[hk])
      rw[if_neg g3];refine KL h (λa ha=>?_) ?_ (λa ha=>?_)
      ·rcases List.mem_append.1 ha with ha|ha
       ·obtain⟨b,hb,e⟩:=h1 a ha
        exact⟨b,by simp[hb],e⟩
       ·rw[List.mem_singleton.1 ha]
        exact⟨c,by simp,rfl⟩
      ·rw[List.pairwise_append]
       refine⟨h2,by simp,λa ha b hb e=>?_⟩;rw[List.mem_singleton.1 hb]at e;obtain⟨b2,hb2,e2⟩:=h1 a ha;exact g2 (List.any_eq_true.2 ⟨b2,hb2,by simpa using e2.trans e⟩)
      ·rcases List.mem_append.1 ha with ha|ha
       ·exact h3 a ha
       ·rw[List.mem_singleton.1 ha];exact⟨by dsimp only;omega,by dsimp only;omega⟩
theorem GR{α:Type}(g:α->Int):∀(n:Nat) (l:List α),l.Pairwise (λa b=>g a≠g b)->(∀a∈l,0<=g a/\g a<n)->l.length<=n:=by
 intro n l h1 h2
 have h3:(l.map λa=>(g a).toNat).Nodup:=by
  rw[List.Nodup,List.pairwise_map];refine h1.imp_of_mem λ{a b} ha hb e=>?_
  have:=h2 a ha;have:=h2 b hb;omega
 have h4:=List.Nodup.length_le_of_subset h3 (l₂:=List.range n) (λx hx=>by
  obtain⟨a,ha,rfl⟩:=List.mem_map.1 hx;have:=h2 a ha;exact List.mem_range.2 (by omega))
 simpa using h4
theorem Ft(l:List Comp):(GI l).Perm l:=List.mergeSort_perm _ _
theorem J2{l u:List Comp}(hd:l.Pairwise (λa b=>a.kind≠b.kind))(hp:u.Perm l)(hs:u.Pairwise (λa b=>a.kind<=b.kind)):u=GI l:=by
 refine List.Perm.eq_of_pairwise (le:=λa b=>a.kind<=b.kind) (λa b ha hb h1 h2=>?_) hs ?_ (hp.trans (Ft l).symm)
 ·have hb':b∈l:=(Ft l).mem_iff.1 hb
  have ha':a∈l:=hp.mem_iff.1 ha;obtain⟨i,hi,rfl⟩:=List.getElem_of_mem ha';obtain⟨j,hj,rfl⟩:=List.getElem_of_mem hb';have:=List.pairwise_iff_getElem.1 hd;rcases Nat.lt_trichotomy i j with x|x|x
  ·exact absurd (by omega) (this i j hi hj x)
  ·subst x;rfl
  ·exact absurd (by omega) (this j i hj hi x)
 ·have:=List.pairwise_mergeSort (le:=λa b:Comp=>decide (a.kind<=b.kind)) (λa b c h1 h2=>by simp at*;omega) (λa b=>by simp;omega) l
  exact this.imp λh=>by simpa using h
theorem Mc{l:List Comp}(hd:l.Pairwise (λa b=>a.kind≠b.kind)):Ci (GI l):=by
 have h1:(GI l).Pairwise (λa b=>a.kind<=b.kind):=by
  have:=List.pairwise_mergeSort (le:=λa b:Comp=>decide (a.kind<=b.kind)) (λa b c h1 h2=>by simp at*;omega) (λa b=>by simp;omega) l;exact this.imp λh=>by simpa using h
 have h2:(GI l).Pairwise (λa b=>a.kind≠b.kind):=(Ft l).symm.pairwise hd (λh=>Ne.symm h);exact(h1.and h2).imp λh=>by obtain⟨a,b⟩:=h;omega
def Cf(l:List Comp)(k:Int):Nat:=(l.takeWhile λc=>decide (c.kind<k)).length
def Fb:List Comp->Comp->List Comp
 |[],c=>[c]
 |x::l,c=>if x.kind<c.kind then x::Fb l c else if x.kind=c.kind then c::l else c::x::l
def Fd(l:List Comp)(k:Int):List Comp:=l.filter λc=>!decide (c.kind=k)
def DU(w:Wd)(i:Nat)(cs:List Comp):Wd:=⟨w.kinds,w.gens,match w.items[i]? with|some it=>w.items.set i ⟨it.ent,cs⟩|none=>w.items⟩
def Ct(w:Wd)(e:Ent)(c:Comp):Wd×Int:=
 if Cp w≠0 then(⟨[],[],[]⟩,Cp w)else if CD w.items e<0 then(⟨[],[],[]⟩,4)else
 if(CG w.kinds [c]).2≠0 then(⟨[],[],[]⟩,(CG w.kinds [c]).2)else
 match w.items[(CD w.items e).toNat]?,(CG w.kinds [c]).1 with
 |some it,[d]=>(DU w (CD w.items e).toNat (Fb it.comps d),0)
 |_,_=>(⟨[],[],[]⟩,0)
def EX(w:Wd)(e:Ent)(k:Int):Wd×Int:=
 if Cp w≠0 then(⟨[],[],[]⟩,Cp w)else if CD w.items e<0 then(⟨[],[],[]⟩,4)else
 match w.items[(CD w.items e).toNat]? with
 |some it=>if(Bp it.comps k).isSome then(DU w (CD w.items e).toNat (Fd it.comps k),0)else(⟨[],[],[]⟩,4)
 |none=>(⟨[],[],[]⟩,4)
def Dw(w:Wd)(e:Ent):Wd×Int:=
 if Cp w≠0 then(⟨[],[],[]⟩,Cp w)else if CD w.items e<0 then(⟨[],[],[]⟩,4)else
 (⟨w.kinds,w.gens.set e.n.toNat (w.gens.getD e.n.toNat 0+1),w.items.eraseIdx (CD w.items e).toNat⟩,0)
def CY(gens:List Int)(n:Nat):List Int:=if n=gens.length then gens++[0]else gens
def IV:List Item->Item->List Item
 |[],it=>[it]
 |x::l,it=>if x.ent.n<it.ent.n then x::IV l it else it::x::l
def Cz(w:Wd)(l:List Comp):Wd×Ent×Int:=
 if Cp w≠0 then(⟨[],[],[]⟩,⟨0,0⟩,Cp w)else if(CG w.kinds l).2≠0 then(⟨[],[],[]⟩,⟨0,0⟩,(CG w.kinds l).2)else
 if(Bf w).2=false then(⟨[],[],[]⟩,⟨0,0⟩,6)else
 (⟨w.kinds,CY w.gens (Bf w).1,IV w.items ⟨⟨(Bf w).1,(CY w.gens (Bf w).1).getD (Bf w).1 0⟩,(CG w.kinds l).1⟩⟩,⟨(Bf w).1,(CY w.gens (Bf w).1).getD (Bf w).1 0⟩,0)
theorem G8(i c:Nat)(l:List Int):(Ba i c l).1.length=c:=by
 induction c generalizing i l with
 |zero=>rfl
 |succ c ih=>simp[Ba,ih]
theorem JE(i c:Nat)(l:List Int):(Ba i c l).1.map (·.name)=(List.range' i c).map Cb:=by
 induction c generalizing i l with
 |zero=>rfl
 |succ c ih=>
  have:(CS i l).1.name=Cb i:=by unfold CS;split<;>rfl
  simp[Ba,ih,List.range'_succ,this]
theorem IZ(k c:Nat)(l:List Int):(BI k c l).1.length=c:=by
 induction c generalizing k l with
 |zero=>rfl
 |succ c ih=>simp[BI,ih]
theorem HS(k c:Nat)(l:List Int):(BI k c l).1.map (·.name)=(List.range' k c).map Dv:=by
 induction c generalizing k l with
 |zero=>rfl
 |succ c ih=>simp[BI,ih,List.range'_succ,DK]
theorem H1(i:Nat):Ca (Cb i)=true:=by
 unfold Cb;split<;>decide
theorem Nl(i:Nat):Ca (Dv i)=true:=by
 unfold Dv;split<;>decide
theorem Nz(i:Nat)(l:List Int):Aq (CS i l).1=0:=by
 have h1:=Af l (n:=9) (by omega);have h2:=Af (Ad l 9) (n:=40) (by omega);unfold CS;split
 ·simp[Aq,H1]
 ·simp[Aq,H1]
  omega
theorem Hy(i c:Nat)(l:List Int):∀f∈(Ba i c l).1,Aq f=0:=by
 induction c generalizing i l with
 |zero=>intro f h;simp[Ba]at h
 |succ c ih=>
  intro f h;simp only[Ba,BQ]at h;rcases h with rfl|h
  ·exact Nz i l
  ·exact ih _ _ f h
theorem KV:∀(fs pre:List Field),(∀f∈fs,Aq f=0)->((pre++fs).map (·.name)).Nodup->Bj pre fs=0:=by
 intro fs
 induction fs with
 |nil=>intro pre _ _;rfl
 |cons f fs ih=>
  intro pre h hn;have h1:=h f (by simp)
  have h2:pre.any (λo=>o.name==f.name)=false:=by
   rw[List.any_eq_false];intro o ho;simp only[beq_iff_eq];intro e;rw[List.map_append,List.nodup_append]at hn;exact hn.2.2 o.name (List.mem_map_of_mem ho) f.name (by simp) e
  simp only[Bj,h1,h2];simp;exact ih _ (λx hx=>h x (by simp[hx])) (by simpa using hn)
theorem K5:∀(ks pre:List Kind),(∀k∈ks,BZ k=0)->((pre++ks).map (·.name)).Nodup->Bv pre ks=0:=by
 intro fs
 induction fs with
 |nil=>intro pre _ _;rfl
 |cons f fs ih=>
  intro pre h hn;have h1:=h f (by simp)
  have h2:pre.any (λo=>o.name==f.name)=false:=by
   rw[List.any_eq_false];intro o ho;simp only[beq_iff_eq];intro e;rw[List.map_append,List.nodup_append]at hn;exact hn.2.2 o.name (List.mem_map_of_mem ho) f.name (by simp) e
  simp only[Bv,h1,h2];simp;exact ih _ (λx hx=>h x (by simp[hx])) (by simpa using hn)
theorem Id{c:Nat}(h:c<=3):((List.range' 0 c).map Cb).Nodup:=by
 have:c=0\/c=1\/c=2\/c=3:=by omega
 rcases this with rfl|rfl|rfl|rfl<;>decide
theorem I9{c:Nat}(h:c<=4):((List.range' 0 c).map Dv).Nodup:=by
 have:c=0\/c=1\/c=2\/c=3\/c=4:=by omega
 rcases this with rfl|rfl|rfl|rfl|rfl<;>decide
theorem PL(k:Nat)(l:List Int):BZ (DK k l).1=0:=by
 have h1:=Af l (n:=3) (by omega);have h2:(1+Al l 3).toNat<=3:=by omega
 have h3:=KV (Ba 0 (1+Al l 3).toNat (Ad l 3)).1 [] (Hy _ _ _) (by
  rw[BA,JE];exact Id h2)
 have h4:=G8 0 (1+Al l 3).toNat (Ad l 3);unfold BZ DK;simp only[Nl,h3,h4,if_true];rw[if_neg (by omega)]
theorem JD(i c:Nat)(l:List Int):∀f∈(BI i c l).1,BZ f=0:=by
 induction c generalizing i l with
 |zero=>intro f h;simp[BI]at h
 |succ c ih=>
  intro f h;simp only[BI,BQ]at h;rcases h with rfl|h
  ·exact PL i l
  ·exact ih _ _ f h
theorem Mg(l:List Int):1<=(Ap l).1.length/\(Ap l).1.length<=4:=by
 have h:=Af l (n:=4) (by omega);unfold Ap;rw[IZ];omega
theorem KG(l:List Int):((Ap l).1.map (·.name)).Nodup:=by
 have h:=Af l (n:=4) (by omega);unfold Ap;rw[HS];exact I9 (by omega)
theorem Ix(l:List Int):∀k∈(Ap l).1,BZ k=0:=JD _ _ _
theorem KH(l:List Int):Az (Ap l).1=0:=by
 unfold Az;have:=Mg l;rw[if_neg (by omega)];exact K5 _ [] (Ix l) (KG l)
theorem Na{f:Field}(h:Aq f=0)(v:Int):f.low<=BT f v/\BT f v<=D9 f:=by
 have:=Lj h;unfold BT;rw[if_pos h];omega
theorem QC{f:Field}(h:Aq f=0){v:Int}(h1:f.low<=v)(h2:v<=D9 f):BT f v=v:=by
 unfold BT;rw[if_pos h];omega
theorem La{f:Field}(h:Aq f=0)(v:Int):BT f (BT f v)=BT f v:=QC h (Na h v).1 (Na h v).2
theorem Q6{fs:List Field}(h:∀f∈fs,Aq f=0)(vals:List Int):List.zipWith BT fs (List.zipWith BT fs vals)=List.zipWith BT fs vals:=by
 induction fs generalizing vals with
 |nil=>rfl
 |cons f fs ih=>
  cases vals with
  |nil=>rfl
  |cons v vals=>simp[La (h f (by simp)),ih (λx hx=>h x (by simp[hx]))]
theorem H0{k:Kind}(h:BZ k=0){vals:List Int}(hl:vals.length=k.fields.length):BY k vals=(List.zipWith BT k.fields vals,0):=by
 unfold BY;rw[if_neg (by simp[h]),if_neg (by simp[hl])]
theorem KI(k:Nat)(l:List Int):(∀f∈(DK k l).1.fields,Aq f=0)/\(DK k l).1.fields.length<=3:=by
 have h1:=Af l (n:=3) (by omega);refine⟨Hy _ _ _,?_⟩;show(Ba _ _ _).1.length<=3
 rw[G8];omega
theorem Gy(i c:Nat)(l:List Int):∀k∈(BI i c l).1,(∀f∈k.fields,Aq f=0)/\k.fields.length<=3:=by
 induction c generalizing i l with
 |zero=>intro f h;simp[BI]at h
 |succ c ih=>
  intro f h;simp only[BI,BQ]at h;rcases h with rfl|h
  ·exact KI i l
  ·exact ih _ _ f h
theorem JC(l:List Int):∀k∈(Ap l).1,(∀f∈k.fields,Aq f=0)/\k.fields.length<=3:=Gy _ _ _
def vAt(fs:List Field)(l:List Int):Nat->List Int×List Int
 |0=>([],l)
 |i+1=>match fs[i]? with
  |some f=>((vAt fs l i).1++[f.low+Al (vAt fs l i).2 (2^f.bits.toNat)],Ad (vAt fs l i).2 (2^f.bits.toNat))
  |none=>vAt fs l i
def cAt(ks:List Kind)(l:List Int):Nat->List Comp×List Int
 |0=>([],l)
 |i+1=>match ks[i]? with
  |some k=>if Al (cAt ks l i).2 3=2 then((cAt ks l i).1,Ad (cAt ks l i).2 3)
   else((cAt ks l i).1++[⟨i,(vAt k.fields (Ad (cAt ks l i).2 3) k.fields.length).1⟩],(vAt k.fields (Ad (cAt ks l i).2 3) k.fields.length).2)
  |none=>cAt ks l i
def Cc(ks:List Kind)(l:List Int):List Comp×List Int:=cAt ks l ks.length
def wAt(ks:List Kind)(l:List Int):Nat->List Int×List Item×List Int
 |0=>([],[],l)
 |i+1=>
  if Al (Ad (wAt ks l i).2.2 3) 4=3\/(wAt ks l i).2.1.length=8 then((wAt ks l i).1++[Al (wAt ks l i).2.2 3],(wAt ks l i).2.1,Ad (Ad (wAt ks l i).2.2 3) 4)
  else((wAt ks l i).1++[Al (wAt ks l i).2.2 3],(wAt ks l i).2.1++[⟨⟨i,Al (wAt ks l i).2.2 3⟩,(Cc ks (Ad (Ad (wAt ks l i).2.2 3) 4)).1⟩],(Cc ks (Ad (Ad (wAt ks l i).2.2 3) 4)).2)
def DB(l:List Int):Wd:=
 ⟨(Ap l).1,(wAt (Ap l).1 (Ad (Ap l).2 12) (Al (Ap l).2 12).toNat).1,(wAt (Ap l).1 (Ad (Ap l).2 12) (Al (Ap l).2 12).toNat).2.1⟩
def Eg(f:Field):Prop:=0<=f.bits/\f.bits<=32/\ -2147483648<=f.low/\f.low<=2147483648
def GE(ks:List Kind):Prop:=ks.length<=1099511627776/\∀k∈ks,k.fields.length<=1099511627776/\∀f∈k.fields,Eg f
theorem UF(fs:List Field)(l:List Int)(i:Nat):(vAt fs l i).1.length<=i:=by
 induction i with
 |zero=>simp[vAt]
 |succ i ih=>rw[vAt];split<;>(try simp only[AI,List.length_singleton])<;>omega
theorem Uw(ks:List Kind)(l:List Int)(i:Nat):(cAt ks l i).1.length<=i:=by
 induction i with
 |zero=>simp[cAt]
 |succ i ih=>rw[cAt];split<;>(try split)<;>(try simp only[AI,List.length_singleton])<;>omega
theorem M9{fs:List Field}{l:List Int}{i:Nat}(h:i<fs.length):vAt fs l (i+1)=((vAt fs l i).1++[fs[i].low+Al (vAt fs l i).2 (2^fs[i].bits.toNat)],Ad (vAt fs l i).2 (2^fs[i].bits.toNat)):=by
 rw[vAt,AG h]
theorem Mo{ks:List Kind}{l:List Int}{i:Nat}(h:i<ks.length)(h2:Al (cAt ks l i).2 3=2):cAt ks l (i+1)=((cAt ks l i).1,Ad (cAt ks l i).2 3):=by
 rw[cAt,AG h];simp only;rw[if_pos h2]
theorem Mn{ks:List Kind}{l:List Int}{i:Nat}(h:i<ks.length)(h2:Al (cAt ks l i).2 3≠2):cAt ks l (i+1)=((cAt ks l i).1++[⟨i,(vAt ks[i].fields (Ad (cAt ks l i).2 3) ks[i].fields.length).1⟩],(vAt ks[i].fields (Ad (cAt ks l i).2 3) ks[i].fields.length).2):=by
 rw[cAt,AG h];simp only;rw[if_neg h2]
theorem LV{b:Nat}(h:b<=32):(1:Int)<=2^b/\(2:Int)^b<=4294967296:=by
 have h1:(2:Nat)^b<=2^32:=Nat.pow_le_pow_right (by decide) h;have h2:0<(2:Nat)^b:=Nat.pow_pos (by decide);have h3:((2:Int)^b)=(((2:Nat)^b:Nat):Int):=by simp
 rw[h3];have:(2:Nat)^32=4294967296:=by decide
 omega
theorem OA(G:Nat)(ks:List Kind)(l:List Int)(hk:GE ks):PO Tryz.prog 39 [Ae false false ks,.ptr G 0 0] G (Bc l) (Aw true false (Cc ks l).1) (Bc (Cc ks l).2):=by
 refine Sp (nt:=50) (res:=[.tmp 4]) Tryz.func39 λSf=>?_
 obtain⟨hk0,hk1⟩:=hk;refine R1 ?_;refine R1 ?_;refine R1 ?_;refine FL ?_;refine AWP.adopt (d:=5) 85 2 rfl λK=>?_
 refine Mv (λ(i K:Nat) (M:List AV) (n:Nat) (q:List Int)=>⟨[(1,.ptr G 0 0),(5,.sl K 0 n),(11,Ae false false ks),(12,iA (ks.map (Av false)).length),(13,iA i)],(K,.row 85 2 M)::(G,Bc q)::Sf⟩) (λi _ M n q=>i<=ks.length/\M=(cAt ks l i).1.map (AH false)/\n=M.length/\q=(cAt ks l i).2) (λi _ _ _ _=>ks.length-i) 0 K [] 0 l ⟨Nat.zero_le _,rfl,rfl,rfl⟩ ?_;rintro i K M n q ⟨hi,hM,hn,hq⟩;refine KK ?_;refine AWP.cond rfl (λhc=>?_) (λhc=>?_)
 ·have h:i<ks.length:=by simpa using hc
  obtain⟨hf0,hf1⟩:=hk1 _ (AY h);have h3:=Af q (n:=3) (by decide);have hn1:n+1<=1099511627776:=by have:=Uw ks l i;rw[hn,hM,AB];omega
  refine KK ?_;refine Ai λX=>?_;refine KK ?_;refine AOps.g_callf ?_;refine AOps.o2 (h:=(CH G _ _ (by decide))) (k:=?_);refine KK ?_
  refine AWP.cond rfl (λhe=>?_) (λhe=>?_)
  ·have he:Al q 3=2:=by simpa using he
   refine KK ?_;refine Hs (i+1) K M n _ ⟨h,?_,hn,?_⟩
   ·rw[Mo h (hq▸he),hM]
   ·rw[Mo h (hq▸he),hq]
  ·have he:Al q 3≠2:=by simpa using he
   refine RG ?_;refine KO ?_;refine Ai λY=>?_;refine WO ?_;refine NL ?_
   refine AWP.adoptIn (Y:=Y) 3 1 .here (λF=>.cons (.agg (.cons .same (.cons (.base .nil) .nil))) .nil) λF=>?_
   refine KK ?_;obtain⟨fs,hfs⟩:∃fs,ks[i].fields=fs:=⟨_,rfl⟩;obtain⟨q1,hq1⟩:∃q1,Ad q 3=q1:=⟨_,rfl⟩;rw[hq1,hfs];have hck:cAt ks l (i+1)=((cAt ks l i).1++[⟨i,(vAt fs q1 fs.length).1⟩],(vAt fs q1 fs.length).2):=by rw[Mn h (hq▸he),<-hq,hq1,hfs]
   rw[hfs]at hf0 hf1;refine Mv (λ(j F:Nat) (L:List AV) (m:Nat) (r:List Int)=>⟨[(1,.ptr G 0 0),(5,.sl K 0 n),(6,iA i),(8,.ptr Y 0 0),(11,Ae false false ks),(12,iA (ks.map (Av false)).length),(13,iA i),(24,EH false fs),(25,iA (fs.map fieldA).length),(26,iA j)],(F,.row 3 1 L)::(Y,.row 85 2 [.agg [iA i,.sl F 0 m]])::(K,.row 85 2 M)::(G,Bc r)::Sf⟩) (λj _ L m r=>j<=fs.length/\L=(vAt fs q1 j).1.map iA/\m=L.length/\r=(vAt fs q1 j).2) (λj _ _ _ _=>fs.length-j) 0 F [] 0 q1 ⟨Nat.zero_le _,rfl,rfl,rfl⟩ ?_;rintro j F L m r ⟨hj,hL,hm,hr⟩;refine KK ?_;refine AWP.cond rfl (λhd=>?_) (λhd=>?_)
   ·have hj':j<fs.length:=by simpa using hd
    obtain⟨hb0,hb1,hl0,hl1⟩:=hf1 _ (AY hj');obtain⟨b,hb⟩:∃b:Nat,fs[j].bits=b:=⟨fs[j].bits.toNat,by omega⟩;have hp:=LV (b:=b) (by omega);have hw:IntKind.i64.wrap (1*2^b)=2^b:=by rw[Int.one_mul];exact DT (by omega) (by omega)
    have hv:=Af r (n:=IntKind.i64.wrap (1*2^b)) (by omega);have hm1:m+1<=1099511627776:=by have:=UF fs q1 j;rw[hm,hL,AB];omega
    refine KK ?_;refine Ai λZ=>?_;refine KK ?_
    refine AWP.rs λX7=>?_
    refine RU ?_;(iterate 7 refine RK ?_);refine RGo.gN ?_;refine RGo.p (W.shl rfl rfl hb (by show b<=64;omega)) rfl ?_;refine RGo.g_callf ?_;refine RGo.o2 (h:=(CH G _ _ (by rw[hw];omega))) (k:=?_);refine RGo.gN ?_;refine RGo.p (W.add rfl rfl (by omega)) rfl ?_;(iterate 4 refine RK ?_);refine RGo.nil (by kernel_rfl) ?_;refine KK ?_;have hva:vAt fs q1 (j+1)=((vAt fs q1 j).1++[fs[j].low+Al r (IntKind.i64.wrap (1*2^b))],Ad r (IntKind.i64.wrap (1*2^b))):=by rw[M9 hj',<-hr,hw,hb];rfl
    refine Hs (j+1) X7 _ _ _ ⟨hj',?_,?_,?_⟩
    ·rw[hva,hL,List.map_append];rfl
    ·rw[AI,hm]
    ·rw[hva]
   ·have hj':j=fs.length:=by rw[AL,AB]at hd;omega
    subst hj';refine FL ?_;refine AWP.iceIn (X:=F) (Y:=Y) .here (.next .here) rfl (.cons (.agg (.cons .same (.cons (.base (.sl (by omega))) .nil))) .nil) ?_
    have hF:AV.frzs ((L.drop 0).take m)=(vAt fs q1 fs.length).1.map iA:=by
     rw[List.drop_zero,List.take_of_length_le (by omega),hL];exact Frzs.h
    rw[hF]
    (iterate 3 refine WK ?_);refine AOps.g_lit ?_;refine AOps.goL (AH false ⟨i,(vAt fs q1 fs.length).1⟩) ?_;refine WK ?_;refine Ay λY=>?_;refine KK ?_
    refine Hs (i+1) Y _ _ _ ⟨h,?_,?_,?_⟩
    ·rw[hck,hM,List.map_append];rfl
    ·rw[AI,hn]
    ·rw[hck,hr]
 ·have h:i=ks.length:=by rw[AL,AB]at hc;omega
  subst h;refine KK ?_;refine RT ?_;subst hM hq;exact⟨[.sl K 0 n],[.lst true 85 2 ((cAt ks l ks.length).1.map (AH false))],_,[(G,Bc (cAt ks l ks.length).2)],.cons (.tmp rfl) rfl .nil,.cons (.cell (.sl (p:=0) .here hn)) .nil,by exact Sub.f,rfl,rfl⟩
theorem JS(ks:List Kind)(l:List Int)(i:Nat):(wAt ks l i).1.length=i:=by
 induction i with
 |zero=>rfl
 |succ i ih=>rw[wAt];split<;>simp[ih]
theorem M7(ks:List Kind)(l:List Int)(i:Nat):(wAt ks l i).2.1.length<=i:=by
 induction i with
 |zero=>simp[wAt]
 |succ i ih=>rw[wAt];split<;>(try simp only[AI,List.length_singleton])<;>omega
def wdO(w:Wd):AV:=.agg [Ae false false w.kinds,AQ true w.gens,Fv true false w.items]
instance {w:Wd}:Frz (wdO w) (wdA false w):=⟨by unfold wdO wdA;exact Frz.h⟩
theorem Mh(i:Nat)(l:List Int):Eg (CS i l).1:=by
 have h9:=Af l (n:=9) (by decide);have h40:=Af (Ad l 9) (n:=40) (by decide);unfold CS;split<;>refine⟨?_,?_,?_,?_⟩<;>simp<;>omega
theorem Ur(i:Nat)(l:List Int):∀f∈(fAt i l).1,Eg f:=by
 induction i with
 |zero=>intro f hf;cases hf
 |succ i ih=>
  intro f hf;rcases List.mem_append.1 hf with hf|hf
  ·exact ih f hf
  ·rw[List.mem_singleton.1 hf];exact Mh _ _
theorem Ny(k:Nat)(l:List Int):(DK k l).1.fields.length<=3/\∀f∈(DK k l).1.fields,Eg f:=by
 have h:=Af l (n:=3) (by decide);show(Ba 0 (1+Al l 3).toNat (Ad l 3)).1.length<=3/\∀f∈(Ba 0 (1+Al l 3).toNat (Ad l 3)).1,Eg f
 rw[F4];exact⟨by rw[QN];omega,Ur _ _⟩
theorem QH(i:Nat)(l:List Int):∀k∈(kAt i l).1,k.fields.length<=3/\∀f∈k.fields,Eg f:=by
 induction i with
 |zero=>intro f hf;cases hf
 |succ i ih=>
  intro f hf;rcases List.mem_append.1 hf with hf|hf
  ·exact ih f hf
  ·rw[List.mem_singleton.1 hf];exact Ny _ _
theorem Hx(l:List Int):(Ap l).1.length=(1+Al l 4).toNat:=by rw[EQ,QI]
theorem Fz(l:List Int):GE (Ap l).1:=by
 have h:=Af l (n:=4) (by decide);refine⟨by rw[Hx];omega,?_⟩;rw[EQ];intro k hk;have:=QH _ _ k hk;exact⟨by omega,this.2⟩
theorem R5(l:List Int):PS Tryz.prog 10 [AQ false l] (wdO (DB l)):=by
 refine Sp (nt:=52) (res:=[.cell 2 27]) Tryz.func10 λSf=>?_
 have hko:=Fz l;obtain⟨ks,hks⟩:∃ks,(Ap l).1=ks:=⟨_,rfl⟩;obtain⟨l1,hl1⟩:∃l1,(Ap l).2=l1:=⟨_,rfl⟩;have h12:=Af l1 (n:=12) (by decide);obtain⟨c,hc⟩:∃c:Nat,Al l1 12=c:=⟨(Al l1 12).toNat,by omega⟩;obtain⟨l2,hl2⟩:∃l2,Ad l1 12=l2:=⟨_,rfl⟩;have hg:DB l=⟨ks,(wAt ks l2 c).1,(wAt ks l2 c).2.1⟩:=by unfold DB;rw[hks,hl1,hl2,hc];rfl
 have hkp:=λG=>Sm G l
 rw[hks,hl1]at hkp;rw[hks]at hko;rw[hg];clear hg hks hl1;refine RG ?_;refine WO ?_;refine Ai λR=>?_;refine NL ?_
 refine RG ?_;refine KO ?_;refine Ai λG=>?_;refine WO ?_;refine NL ?_
 refine RG ?_;refine WO ?_;refine AOps.g_callf ?_;refine AOps.o1 (h:=(hkp G)) (k:=?_);refine KO ?_;refine Ai λV=>?_;refine WO ?_;refine NL ?_
 refine RG ?_;refine WO ?_;refine AOps.g_callf ?_;refine AOps.o2 (h:=(CH G _ _ (by decide))) (k:=?_);refine WO ?_;refine NL ?_;rw[hl2,hc];refine AWP.adoptIn (Y:=V) 54 3 (by exact At.f) (λF=>.cons (.agg (.cons .same (.cons .same (.cons (.base .nil) .nil)))) .nil) λB=>?_
 refine AWP.adoptIn (Y:=V) 3 1 (by exact At.f) (λF=>.cons (.agg (.cons .same (.cons (.base .nil) (.cons .same .nil)))) .nil) λA=>?_
 refine FL ?_;refine U8 (λ(i A B:Nat) (L M:List AV) (n:Nat) (q:List Int)=>⟨[(2,.ptr R 0 0),(3,.ptr G 0 0),(4,.ptr V 0 0),(13,iA c),(14,iA i)],(A,.row 3 1 L)::(B,.row 54 3 M)::(V,.row 27 3 [.agg [Ae false false ks,.sl A 0 i,.sl B 0 n]])::(G,Bc q)::(R,.row 27 3 [.agg [.prim (.slice none 0 0),.prim (.slice none 0 0),.prim (.slice none 0 0)]])::Sf⟩) (λi _ _ L M n q=>i<=c/\L=(wAt ks l2 i).1.map iA/\M=(wAt ks l2 i).2.1.map (AE false)/\n=M.length/\q=(wAt ks l2 i).2.2) (λi _ _ _ _ _ _=>c-i) 0 A B [] [] 0 l2 ⟨Nat.zero_le _,rfl,rfl,rfl,rfl⟩ ?_;rintro i A B L M n q ⟨hi,hL,hM,hn,hq⟩;have hA:=JS ks l2 i;have hB:=M7 ks l2 i;refine KK ?_;refine AWP.cond rfl (λhd=>?_) (λhd=>?_)
 ·have h:i<c:=by rw[AD]at hd;omega
  have h3:=Af q (n:=3) (by decide);have h4:=Af (Ad q 3) (n:=4) (by decide);refine R1 ?_;refine AWP.rs λX7=>?_
  refine RU ?_;refine KR ?_;refine RGo.g_callf ?_;refine RGo.o2 (h:=(CH G _ _ (by decide))) (k:=?_);(iterate 4 refine RK ?_);refine RGo.nil (by kernel_rfl) ?_;refine KK ?_;refine AOps.g_callf ?_;refine AOps.o2 (h:=(CH G _ _ (by decide))) (k:=?_);refine KK ?_;have hLl:L.length=i:=by rw[hL,AB,hA]
  obtain⟨IT,hIT⟩:∃IT,(wAt ks l2 i).2.1=IT:=⟨_,rfl⟩;rw[hIT]at hM hB;have hnl:n=IT.length:=by rw[hn,hM,AB]
  have hat:(L++[.prim (.int .i64 (Al q 3))])[i]?=some (.prim (.int .i64 (Al q 3))):=by rw[<-hLl];simp
  refine AWP.cond rfl (λhe=>?_) (λhe=>?_)
  ·have he:Al (Ad q 3) 4=3\/n=8:=by rw[Bool.or_eq_true,AD,AD]at he;omega
   have hw:wAt ks l2 (i+1)=((wAt ks l2 i).1++[Al q 3],IT,Ad (Ad q 3) 4):=by rw[wAt,<-hq,hIT,<-hnl,if_pos he]
   refine KK ?_;refine Ng (i+1) X7 B _ M n _ ⟨h,?_,?_,hn,?_⟩
   ·rw[hw,hL,List.map_append];rfl
   ·rw[hw,hM]
   ·rw[hw]
  ·have he:¬(Al (Ad q 3) 4=3\/n=8):=by rw[Bool.or_eq_false_iff,AL,AL]at he;omega
   have hw:wAt ks l2 (i+1)=((wAt ks l2 i).1++[Al q 3],IT++[⟨⟨i,Al q 3⟩,(Cc ks (Ad (Ad q 3) 4)).1⟩],(Cc ks (Ad (Ad q 3) 4)).2):=by rw[wAt,<-hq,hIT,<-hnl,if_neg he]
   have hin:i<i+[AV.prim (.int .i64 (Al q 3))].length:=Nat.lt_succ_self i;refine AWP.rs λX8=>?_
   refine RU ?_;refine KR ?_;refine RGo.g_callf ?_;refine RGo.o2 (h:=(OA G ks _ hko)) (k:=?_);refine RK ?_;refine RGo.g_lit ?_;refine RGo.goL (AE false ⟨⟨i,Al q 3⟩,(Cc ks (Ad (Ad q 3) 4)).1⟩) ?_;(iterate 3 refine RK ?_);refine RGo.nil (by kernel_rfl) ?_;refine KK ?_;refine Ng (i+1) X7 X8 _ _ _ _ ⟨h,?_,?_,?_,?_⟩
   ·rw[hw,hL,List.map_append];rfl
   ·rw[hw,hM,List.map_append];rfl
   ·rw[AI,hn]
   ·rw[hw]
 ·have h:i=c:=by rw[AL]at hd;omega
  subst h;refine KK ?_;refine RT ?_;subst hL hM;have hA:i=((wAt ks l2 i).1.map iA).length:=by rw[AB,hA]
  exact⟨[.agg [Ae false false ks,.sl A 0 i,.sl B 0 n]],[wdO ⟨ks,(wAt ks l2 i).1,(wAt ks l2 i).2.1⟩],_,[],.cons (.cell (p:=4) rfl (by exact At.f) TAg.h TSize.h rfl rfl) rfl .nil,.cons (.agg (.cons .same (.cons (.sl (p:=0) .here hA) (.cons (.sl (p:=0) .here hn) .nil)))) .nil,by exact Sub.f,rfl,rfl⟩
theorem QT{ks:List Kind}{l:List Int}{i:Nat}{c:Comp}(h:c∈(cAt ks l i).1):∃(j:Nat) (hj:j<ks.length) (q:List Int),j<i/\c=⟨j,(vAt ks[j].fields q ks[j].fields.length).1⟩:=by
 induction i with
 |zero=>cases h
 |succ i ih=>
  by_cases hi:i<ks.length
  ·by_cases h2:Al (cAt ks l i).2 3=2
   ·rw[Mo hi h2]at h
    obtain⟨j,hj,q,h3,h4⟩:=ih h;exact⟨j,hj,q,by omega,h4⟩
   ·rw[Mn hi h2]at h
    rcases List.mem_append.1 h with h|h
    ·obtain⟨j,hj,q,h3,h4⟩:=ih h
     exact⟨j,hj,q,by omega,h4⟩
    ·rw[List.mem_singleton.1 h]
     exact⟨i,hi,_,by omega,rfl⟩
  ·rw[cAt,List.getElem?_eq_none (by omega)]at h
   obtain⟨j,hj,q,h3,h4⟩:=ih h;exact⟨j,hj,q,by omega,h4⟩
theorem Py{ks:List Kind}{l:List Int}{i:Nat}{it:Item}(h:it∈(wAt ks l i).2.1):∃(j:Nat) (q:List Int),j<i/\(wAt ks l i).1[j]?=some it.ent.gen/\it.ent.n=j/\it.comps=(Cc ks q).1:=by
 induction i with
 |zero=>cases h
 |succ i ih=>
  have hl:=JS ks l i
  have hup:∀(x:Int) (g:Int) (j:Nat),(wAt ks l i).1[j]?=some g->((wAt ks l i).1++[x])[j]?=some g:=λx g j hg=>by
   rw[List.getElem?_append_left (List.getElem?_eq_some_iff.1 hg).1,hg]
  rw[wAt]at h⊢;split
  ·rename_i hs
   rw[if_pos hs]at h;obtain⟨j,q,h1,h2,h3,h4⟩:=ih h;exact⟨j,q,by omega,hup _ _ _ h2,h3,h4⟩
  ·rename_i hs
   rw[if_neg hs]at h;rcases List.mem_append.1 h with h|h
   ·obtain⟨j,q,h1,h2,h3,h4⟩:=ih h
    exact⟨j,q,by omega,hup _ _ _ h2,h3,h4⟩
   ·rw[List.mem_singleton.1 h]
    exact⟨i,_,by omega,by rw[List.getElem?_append_right (by omega),hl];simp,rfl,rfl⟩
theorem KF(l:List Int):(Ap l).1.length<=4/\∀k∈(Ap l).1,k.fields.length<=3:=by
 have h:=Af l (n:=4) (by decide);refine⟨by rw[Hx];omega,?_⟩;rw[EQ];intro k hk;exact(QH _ _ k hk).1
theorem Eb{ks:List Kind}:∀{l:List Comp} {last:Int},-1<=last->(Cl ks last l=true↔l.Pairwise (λa b=>a.kind<b.kind)/\∀c∈l,last<c.kind/\c.kind<ks.length/\∃k,ks[c.kind.toNat]?=some k/\Bs k c.vals=true)
 |[],_,_=>by simp[Cl]
 |c::l,last,hl=>by
  rw[Cl];constructor
  ·intro h
   split at h
   ·rename_i k hk
    simp only[Bool.and_eq_true,AD]at h;obtain⟨⟨⟨h1,h2⟩,h3⟩,h4⟩:=h;obtain⟨h5,h6⟩:=(Eb (by omega)).1 h4;refine⟨List.pairwise_cons.2 ⟨λd hd=>(h6 d hd).1,h5⟩,λd hd=>?_⟩;rcases List.mem_cons.1 hd with rfl|hd
    ·exact⟨h1,h2,k,hk,h3⟩
    ·obtain⟨q1,q2⟩:=h6 d hd
     exact⟨by omega,q2⟩
   ·cases h
  ·rintro⟨h1,h2⟩
   obtain⟨h3,h4⟩:=List.pairwise_cons.1 h1;obtain⟨h5,h6,k,hk,h7⟩:=h2 c (by simp);rw[hk];simp only[Bool.and_eq_true,AD];exact⟨⟨⟨h5,h6⟩,h7⟩,(Eb (by omega)).2 ⟨h4,λd hd=>⟨h3 d hd,(h2 d (by simp[hd])).2⟩⟩⟩
theorem FM{ks:List Kind}{gens:List Int}:∀{l:List Item} {last:Int},-1<=last->(B9 ks gens last l=true↔l.Pairwise (λa b=>a.ent.n<b.ent.n)/\∀it∈l,last<it.ent.n/\it.ent.n<gens.length/\gens[it.ent.n.toNat]?=some it.ent.gen/\it.ent.gen≠1073741824/\BJ ks it.comps=true)
 |[],_,_=>by simp[B9]
 |c::l,last,hl=>by
  rw[B9];constructor
  ·intro h
   split at h
   ·rename_i k hk
    simp only[Bool.and_eq_true,AD,Bool.not_eq_true',AL]at h;obtain⟨⟨⟨⟨⟨h1,h2⟩,h3⟩,h4⟩,h7⟩,h8⟩:=h;obtain⟨h5,h6⟩:=(FM (by omega)).1 h8;refine⟨List.pairwise_cons.2 ⟨λd hd=>(h6 d hd).1,h5⟩,λd hd=>?_⟩;rcases List.mem_cons.1 hd with rfl|hd
    ·exact⟨h1,h2,by rw[hk,h3],h4,h7⟩
    ·obtain⟨q1,q2⟩:=h6 d hd
     exact⟨by omega,q2⟩
   ·cases h
  ·rintro⟨h1,h2⟩
   obtain⟨h3,h4⟩:=List.pairwise_cons.1 h1;obtain⟨h5,h6,hk,h7,h8⟩:=h2 c (by simp);rw[hk];simp only[Bool.and_eq_true,AD,Bool.not_eq_true',AL];exact⟨⟨⟨⟨⟨h5,h6⟩,trivial⟩,h7⟩,h8⟩,(FM (by omega)).2 ⟨h4,λd hd=>⟨h3 d hd,(h2 d (by simp[hd])).2⟩⟩⟩
structure WdOK(w:Wd):Prop where
 ks:Az w.kinds=0
 gl:w.gens.length<=256
 il:w.items.length<=w.gens.length
 gs:∀g∈w.gens,0<=g/\g<=1073741824
 so:w.items.Pairwise λa b=>a.ent.n<b.ent.n
 it:∀it∈w.items,0<=it.ent.n/\it.ent.n<w.gens.length/\w.gens[it.ent.n.toNat]?=some it.ent.gen/\it.ent.gen≠1073741824/\BJ w.kinds it.comps=true
theorem BG(w:Wd):Cp w=0↔WdOK w:=by
 have hg:HR w.gens=true↔∀g∈w.gens,0<=g/\g<=1073741824:=by
  unfold HR;rw[List.all_eq_true];simp only[Bool.and_eq_true,AD]
 have hi:=FM (ks:=w.kinds) (gens:=w.gens) (l:=w.items) (last:=-1) (by omega);unfold Cp;constructor
 ·intro h
  split at h
  ·exact absurd h ‹_›
  rename_i h1;split at h
  ·cases h
  rename_i h2;split at h
  ·cases h
  rename_i h3;split at h
  ·cases h
  rename_i h4;obtain⟨h5,h6⟩:=hi.1 (by simpa using h4);exact⟨by simpa using h1,by omega,by omega,hg.1 (by simpa using h3),h5,λit hit=>by obtain⟨a,b⟩:=h6 it hit;exact⟨by omega,b⟩⟩
 ·intro h
  rw[if_neg (by simp[h.ks]),if_neg (by have:=h.gl;have:=h.il;omega),if_neg (by rw[hg.2 h.gs];simp),if_neg (by rw[hi.2 ⟨h.so,λit hit=>by obtain⟨a,b⟩:=h.it it hit;exact⟨by omega,b⟩⟩];simp)]
theorem TY(ks:List Kind)(l:List Int)(i:Nat):(cAt ks l i).1.Pairwise λa b=>a.kind<b.kind:=by
 induction i with
 |zero=>exact .nil
 |succ i ih=>
  by_cases hi:i<ks.length
  ·by_cases h2:Al (cAt ks l i).2 3=2
   ·rw[Mo hi h2];exact ih
   ·rw[Mn hi h2]
    refine List.pairwise_append.2 ⟨ih,List.pairwise_singleton ..,λa ha b hb=>?_⟩;rw[List.mem_singleton.1 hb];obtain⟨j,hj,q,hji,rfl⟩:=QT ha;show(j:Int)<i
    omega
  ·rw[cAt,List.getElem?_eq_none (by omega)];exact ih
theorem P1{fs:List Field}(hf:∀f∈fs,Aq f=0)(hr:∀f∈fs,Eg f)(l:List Int):∀i,i<=fs.length->List.zipWith BT (fs.take i) (vAt fs l i).1=(vAt fs l i).1/\(vAt fs l i).1.length=i
 |0,_=>⟨rfl,rfl⟩
 |i+1,h=>by
  obtain⟨h1,h2⟩:=P1 hf hr l i (by omega);rw[M9 (by omega)];have hm:=AY (l:=fs) (n:=i) (by omega);obtain⟨hb0,hb1,_,_⟩:=hr _ hm;have hp:=LV (b:=fs[i].bits.toNat) (by omega);have hv:=Af (vAt fs l i).2 (n:=2^fs[i].bits.toNat) (by omega);have hh:D9 fs[i]=fs[i].low+(2^fs[i].bits.toNat-1):=by unfold D9;rw[if_pos (hf _ hm)]
  refine⟨?_,by rw[AI,h2];rfl⟩;rw[List.take_succ_eq_append_getElem (by omega),List.zipWith_append (by rw[h2,Ag];omega),h1];simp only[List.zipWith_cons_cons,List.zipWith_nil_left];rw[QC (hf _ hm) (by omega) (by rw[hh];omega)]
theorem Qf{k:Kind}(h1:BZ k=0)(hf:∀f∈k.fields,Aq f=0)(hr:∀f∈k.fields,Eg f)(l:List Int):Bs k (vAt k.fields l k.fields.length).1=true:=by
 obtain⟨h2,h3⟩:=P1 hf hr l k.fields.length (Nat.le_refl _);rw[List.take_length]at h2;unfold Bs;rw[H0 h1 h3,h2];simp
structure KsGood(ks:List Kind):Prop where
 one:∀k∈ks,BZ k=0
 fld:∀k∈ks,∀f∈k.fields,Aq f=0
 rng:∀k∈ks,∀f∈k.fields,Eg f
theorem G7(l:List Int):KsGood (Ap l).1:=
 ⟨Ix l,λk hk=>(JC l k hk).1,λk hk=>((Fz l).2 k hk).2⟩
theorem G9{ks:List Kind}(h:KsGood ks)(l:List Int):BJ ks (Cc ks l).1=true:=by
 unfold BJ;rw[Eb (by omega)];refine⟨TY _ _ _,λc hc=>?_⟩;obtain⟨j,hj,q,_,rfl⟩:=QT hc;have hm:=AY hj;exact⟨by show(-1:Int)<(j:Int);omega,by show(j:Int)<_;omega,ks[j],AG hj,Qf (h.one _ hm) (h.fld _ hm) (h.rng _ hm) q⟩
theorem R8(ks:List Kind)(l:List Int)(i:Nat):(wAt ks l i).2.1.Pairwise λa b=>a.ent.n<b.ent.n:=by
 induction i with
 |zero=>exact .nil
 |succ i ih=>
  rw[wAt];split
  ·exact ih
  ·refine List.pairwise_append.2 ⟨ih,List.pairwise_singleton ..,λa ha b hb=>?_⟩
   rw[List.mem_singleton.1 hb];obtain⟨j,q,hji,_,e,_⟩:=Py ha;show a.ent.n<(i:Int)
   omega
theorem R9(ks:List Kind)(l:List Int)(i:Nat):∀g∈(wAt ks l i).1,0<=g/\g<3:=by
 induction i with
 |zero=>intro g hg;cases hg
 |succ i ih=>
  intro g hg;rw[wAt]at hg;have h3:=Af (wAt ks l i).2.2 (n:=3) (by decide);split at hg<;>
  ·rcases List.mem_append.1 hg with hg|hg
   ·exact ih g hg
   ·rw[List.mem_singleton.1 hg];exact h3
theorem Nw(l:List Int):WdOK (DB l):=by
 have h:=Af (Ap l).2 (n:=12) (by decide);have h1:=M7 (Ap l).1 (Ad (Ap l).2 12) (Al (Ap l).2 12).toNat;have h2:=JS (Ap l).1 (Ad (Ap l).2 12) (Al (Ap l).2 12).toNat;have h3:=R9 (Ap l).1 (Ad (Ap l).2 12) (Al (Ap l).2 12).toNat;refine⟨KH l,?_,?_,λg hg=>?_,R8 _ _ _,λit hit=>?_⟩
 ·exact Nat.le_trans (Nat.le_of_eq h2) (by omega)
 ·exact Nat.le_trans h1 (Nat.le_of_eq h2.symm)
 ·have:=h3 g hg;omega
 ·obtain⟨j,q,hji,hg,hn,hc⟩:=Py hit
  have hjl:j<(wAt (Ap l).1 (Ad (Ap l).2 12) (Al (Ap l).2 12).toNat).1.length:=(List.getElem?_eq_some_iff.1 hg).1;have hgm:=h3 _ (Ao hg);refine⟨by omega,?_,?_,by omega,by rw[hc];exact G9 (G7 l) q⟩
  ·rw[hn];show(j:Int)<((wAt _ _ _).1.length:Int);omega
  ·rw[hn];exact hg
section
section
variable {α:Type}{key:α->Int}{l a b:List α}
def KS(key:α->Int)(l:List α):Prop:=l.Pairwise λa b=>key a<key b
theorem MY(h:KS key l){x y:α}(hx:x∈l)(hy:y∈l)(e:key x=key y):x=y:=by
 induction l with
 |nil=>cases hx
 |cons z l ih=>
  obtain⟨h1,h2⟩:=List.pairwise_cons.1 h;rcases List.mem_cons.1 hx with q|q<;>rcases List.mem_cons.1 hy with r|r
  ·rw[q,r]
  ·subst q;have:=h1 y r;omega
  ·subst r;have:=h1 x q;omega
  ·exact ih h2 q r
theorem Sj:∀{a b:List α},KS key a->KS key b->(∀x,x∈a↔x∈b)->a=b
 |[],[],_,_,_=>rfl
 |[],y::b,_,_,h=>absurd ((h y).2 (by simp)) (by simp)
 |x::a,[],_,_,h=>absurd ((h x).1 (by simp)) (by simp)
 |x::a,y::b,ha,hb,h=>by
  obtain⟨a1,a2⟩:=List.pairwise_cons.1 ha;obtain⟨b1,b2⟩:=List.pairwise_cons.1 hb
  have e:x=y:=by
   rcases List.mem_cons.1 ((h x).1 (by simp))with e|h1
   ·exact e
   ·rcases List.mem_cons.1 ((h y).2 (by simp))with e|h2
    ·exact e.symm
    ·have:=b1 x h1;have:=a1 y h2;omega
  subst e;rw[Sj a2 b2 λz=>?_];constructor
  ·intro hz
   rcases List.mem_cons.1 ((h z).1 (by simp[hz]))with e|h1
   ·have:=a1 z hz;rw[e]at this;omega
   ·exact h1
  ·intro hz
   rcases List.mem_cons.1 ((h z).2 (by simp[hz]))with e|h1
   ·have:=b1 z hz;rw[e]at this;omega
   ·exact h1
theorem JZ{i:Nat}{y:α}(hi:l[i]?=some y):l=l.take i++y::l.drop (i+1):=by
 obtain⟨h,rfl⟩:=List.getElem?_eq_some_iff.1 hi;rw[<-By h,List.take_append_drop]
theorem J0{i:Nat}{y:α}(h:KS key l)(hi:l[i]?=some y):KS key (l.take i)/\KS key (l.drop (i+1))/\(∀x∈l.take i,key x<key y)/\(∀x∈l.drop (i+1),key y<key x)/\∀x,x∈l↔x∈l.take i\/x=y\/x∈l.drop (i+1):=by
 have e:=JZ hi;have h':=h;rw[e]at h';obtain⟨h1,h2,h3⟩:=List.pairwise_append.1 h';obtain⟨h4,h5⟩:=List.pairwise_cons.1 h2;refine⟨h1,h5,λx hx=>h3 x hx y (by simp),h4,λx=>?_⟩
 conv=>lhs;rw[e]
 simp
theorem Sk{i:Nat}{y:α}(h:KS key l)(hi:l[i]?=some y):KS key (l.eraseIdx i)/\∀x,x∈l.eraseIdx i↔x∈l/\key x≠key y:=by
 obtain⟨h1,h2,h3,h4,h5⟩:=J0 h hi;refine⟨h.sublist (List.eraseIdx_sublist _ _),λx=>?_⟩;rw[List.eraseIdx_eq_take_drop_succ,CT,h5];constructor
 ·rintro(hx|hx)
  ·exact⟨.inl hx,by have:=h3 x hx;omega⟩
  ·exact⟨.inr (.inr hx),by have:=h4 x hx;omega⟩
 ·rintro⟨hx|rfl|hx,hn⟩
  ·exact .inl hx
  ·exact absurd rfl hn
  ·exact .inr hx
theorem Sh{i:Nat}{y z:α}(h:KS key l)(hi:l[i]?=some y)(hk:key z=key y):KS key (l.set i z)/\∀x,x∈l.set i z↔x=z\/(x∈l/\key x≠key z):=by
 obtain⟨h1,h2,h3,h4,h5⟩:=J0 h hi;obtain⟨hl,_⟩:=List.getElem?_eq_some_iff.1 hi;have e:l.set i z=l.take i++z::l.drop (i+1):=List.set_eq_take_append_cons_drop.trans (if_pos hl);rw[e];refine⟨List.pairwise_append.2 ⟨h1,List.pairwise_cons.2 ⟨λx hx=>by have:=h4 x hx;omega,h2⟩,λx hx w hw=>?_⟩,λx=>?_⟩
 ·rcases List.mem_cons.1 hw with rfl|hw
  ·have:=h3 x hx;omega
  ·have:=h3 x hx;have:=h4 w hw;omega
 ·rw[h5,CT,BQ]
  constructor
  ·rintro(hx|rfl|hx)
   ·exact .inr ⟨.inl hx,by have:=h3 x hx;omega⟩
   ·exact .inl rfl
   ·exact .inr ⟨.inr (.inr hx),by have:=h4 x hx;omega⟩
  ·rintro(rfl|⟨hx|rfl|hx,hn⟩)
   ·exact .inr (.inl rfl)
   ·exact .inl hx
   ·exact absurd hk.symm hn
   ·exact .inr (.inr hx)
theorem Ua(h:KS key l){n:Int}{x:α}:(l.find? λy=>decide (key y=n))=some x↔x∈l/\key x=n:=by
 constructor
 ·intro e
  exact⟨List.mem_of_find?_eq_some e,by simpa using List.find?_some e⟩
 ·rintro⟨hx,e⟩
  cases hf:l.find? λy=>decide (key y=n)with
  |none=>rw[List.find?_eq_none]at hf;exact absurd (by simpa using e) (hf x hx)
  |some z=>rw[MY h hx (List.mem_of_find?_eq_some hf) (by have:=List.find?_some hf;simp at this;omega)]
end
theorem held_iff{ks:List Kind}{l:List Comp}:BJ ks l=true↔Ci l/\∀c∈l,0<=c.kind/\c.kind<ks.length/\∃k,ks[c.kind.toNat]?=some k/\Bs k c.vals=true:=by
 unfold BJ;rw[Eb (by omega)];constructor
 ·rintro⟨h1,h2⟩
  exact⟨h1,λc hc=>⟨by have:=(h2 c hc).1;omega,(h2 c hc).2⟩⟩
 ·rintro⟨h1,h2⟩
  exact⟨h1,λc hc=>⟨by have:=(h2 c hc).1;omega,(h2 c hc).2⟩⟩
theorem Hu{c:Comp}:∀{l:List Comp},Ci l->∀d,d∈Fb l c↔d=c\/(d∈l/\d.kind≠c.kind)
 |[],_,d=>by simp[Fb]
 |x::l,h,d=>by
  obtain⟨h1,h2⟩:=List.pairwise_cons.1 h;rw[Fb];split
  ·rename_i hx
   rw[BQ,Hu h2,BQ];constructor
   ·rintro(rfl|rfl|⟨hd,hn⟩)
    ·exact .inr ⟨.inl rfl,by omega⟩
    ·exact .inl rfl
    ·exact .inr ⟨.inr hd,hn⟩
   ·rintro(rfl|⟨rfl|hd,hn⟩)
    ·exact .inr (.inl rfl)
    ·exact .inl rfl
    ·exact .inr (.inr ⟨hd,hn⟩)
  ·split
   ·rename_i hx
    rw[BQ,BQ];constructor
    ·rintro(rfl|hd)
     ·exact .inl rfl
     ·exact .inr ⟨.inr hd,by have:=h1 d hd;omega⟩
    ·rintro(rfl|⟨rfl|hd,hn⟩)
     ·exact .inl rfl
     ·exact absurd hx hn
     ·exact .inr hd
   ·rw[BQ,BQ]
    constructor
    ·rintro(rfl|rfl|hd)
     ·exact .inl rfl
     ·exact .inr ⟨.inl rfl,by omega⟩
     ·exact .inr ⟨.inr hd,by have:=h1 d hd;omega⟩
    ·rintro(rfl|⟨hd,hn⟩)
     ·exact .inl rfl
     ·exact .inr hd
theorem IW{c:Comp}:∀{l:List Comp},Ci l->Ci (Fb l c)
 |[],_=>List.pairwise_singleton ..
 |x::l,h=>by
  obtain⟨h1,h2⟩:=List.pairwise_cons.1 h;rw[Fb];split
  ·rename_i hx
   refine List.pairwise_cons.2 ⟨λd hd=>?_,IW h2⟩;rcases(Hu h2 d).1 hd with rfl|⟨hd,_⟩
   ·exact hx
   ·exact h1 d hd
  ·split
   ·rename_i hx
    exact List.pairwise_cons.2 ⟨λd hd=>by have:=h1 d hd;omega,h2⟩
   ·refine List.pairwise_cons.2 ⟨λd hd=>?_,h⟩
    rcases List.mem_cons.1 hd with rfl|hd
    ·omega
    ·have:=h1 d hd;omega
theorem Rf{l:List Comp}{k:Int}(d:Comp):d∈Fd l k↔d∈l/\d.kind≠k:=by
 unfold Fd;rw[List.mem_filter];simp
theorem PU{l:List Comp}{k:Int}(h:Ci l):Ci (Fd l k):=List.Pairwise.filter _ h
theorem Qt{a b:List Comp}(ha:Ci a)(hb:Ci b)(h:∀x,x∈a↔x∈b):a=b:=Sj (key:=Comp.kind) ha hb h
theorem EC{l:List Comp}(h:Ci l){k:Int}{c:Comp}:Bp l k=some c↔c∈l/\c.kind=k:=Ua (key:=Comp.kind) h
theorem Sy{ks:List Kind}{l:List Comp}{c:Comp}(h:BJ ks l=true)(h1:0<=c.kind)(h2:c.kind<ks.length){k:Kind}(h3:ks[c.kind.toNat]?=some k)(h4:Bs k c.vals=true):BJ ks (Fb l c)=true:=by
 obtain⟨hs,hm⟩:=held_iff.1 h;refine held_iff.2 ⟨IW hs,λd hd=>?_⟩;rcases(Hu hs d).1 hd with rfl|⟨hd,_⟩
 ·exact⟨h1,h2,k,h3,h4⟩
 ·exact hm d hd
theorem Ll{ks:List Kind}{l:List Comp}{k:Int}(h:BJ ks l=true):BJ ks (Fd l k)=true:=by
 obtain⟨hs,hm⟩:=held_iff.1 h;exact held_iff.2 ⟨PU hs,λd hd=>hm d ((Rf d).1 hd).1⟩
theorem MZ{pre ks:List Kind}(h:Bv pre ks=0):∀k∈ks,BZ k=0:=by
 induction ks generalizing pre with
 |nil=>intro k hk;cases hk
 |cons x l ih=>
  intro k hk;simp only[Bv]at h;split at h
  ·exact absurd h ‹_›
  ·rename_i hx
   split at h
   ·cases h
   ·rcases List.mem_cons.1 hk with rfl|hk
    ·simpa using hx
    ·exact ih h k hk
theorem Bk{ks:List Kind}(h:Az ks=0):ks.length<=16/\∀k∈ks,BZ k=0:=by
 unfold Az at h;split at h
 ·cases h
 ·exact⟨by omega,MZ h⟩
def HV(ks:List Kind)(c:Comp):Comp:=match ks[c.kind.toNat]? with
 |some k=>⟨c.kind,(BY k c.vals).1⟩
 |none=>c
theorem Ib(ks:List Kind)(c:Comp):(HV ks c).kind=c.kind:=by unfold HV;split<;>rfl
def IC(ks:List Kind)(c:Comp):Prop:=0<=c.kind/\c.kind<ks.length/\∃k,ks[c.kind.toNat]?=some k/\(BY k c.vals).2=0
theorem Mj{ks:List Kind}{c:Comp}{k:Kind}(h:ks[c.kind.toNat]?=some k):HV ks c=⟨c.kind,(BY k c.vals).1⟩:=by
 unfold HV;rw[h]
theorem KN{ks:List Kind}:∀{l pre out:List Comp},(∀c∈l,IC ks c)->l.Pairwise (λa b=>a.kind≠b.kind)->(∀a∈pre,∀b∈l,a.kind≠b.kind)->Cm ks pre out l=(out++l.map (HV ks),0)
 |[],pre,out,_,_,_=>by simp[Cm]
 |c::l,pre,out,h1,h2,h3=>by
  obtain⟨a,b,k,hk,hf⟩:=h1 c (by simp);obtain⟨h4,h5⟩:=List.pairwise_cons.1 h2
  have hany:pre.any (λo=>decide (o.kind=c.kind))=false:=by
   rw[List.any_eq_false];intro x hx;simpa using h3 x hx c (by simp)
  rw[Cm,if_neg (by omega),hany,if_neg (by simp),hk];dsimp only;rw[if_neg (by simp[hf]),KN (λd hd=>h1 d (by simp[hd])) h5 (λx hx d hd=>?_),List.map_cons,Mj hk]
  ·simp
  ·rcases List.mem_append.1 hx with hx|hx
   ·exact h3 x hx d (by simp[hd])
   ·rw[List.mem_singleton.1 hx];exact h4 d hd
theorem LL{ks:List Kind}(hk:Az ks=0){l:List Comp}(h1:∀c∈l,IC ks c)(h2:l.Pairwise (λa b=>a.kind≠b.kind)):CG ks l=(GI (l.map (HV ks)),0):=by
 unfold CG;rw[if_neg (by simp[hk]),KN h1 h2 (λ_ h=>by cases h),if_neg (by simp)];rfl
theorem J3{l:List Comp}(h:Ci l):GI l=l:=
 (J2 (h.imp λh=>by omega) (List.Perm.refl _) (h.imp λh=>by omega)).symm
theorem Di{k:Kind}{v:List Int}(h:Bs k v=true):BY k v=(v,0):=by
 unfold Bs at h;simp only[Bool.and_eq_true,AD]at h;exact Prod.ext h.2 h.1
theorem Dj{k:Kind}{v:List Int}(h:(BY k v).2=0):Bs k (BY k v).1=true/\(BY k v).1=List.zipWith BT k.fields v/\v.length=k.fields.length:=by
 unfold BY at h⊢;split at h
 ·exact absurd h ‹_›
 ·rename_i h1
  have h1:BZ k=0:=by simpa using h1
  split at h
  ·cases h
  ·rename_i h2
   have h2:v.length=k.fields.length:=by simpa using h2
   rw[if_neg (by simp[h1]),if_neg (by simp[h2])];refine⟨?_,rfl,h2⟩;unfold Bs;rw[H0 h1 (by simp[h2]),Q6 (C8 h1).2.2];simp
theorem S9{ks:List Kind}{l:List Comp}(h:BJ ks l=true):(∀c∈l,IC ks c)/\l.Pairwise (λa b=>a.kind≠b.kind)/\l.map (HV ks)=l:=by
 obtain⟨hs,hm⟩:=held_iff.1 h;refine⟨λc hc=>?_,hs.imp λh=>by omega,?_⟩
 ·obtain⟨a,b,k,hk,hh⟩:=hm c hc
  exact⟨a,b,k,hk,by rw[Di hh]⟩
 ·conv=>rhs;rw[<-List.map_id l]
  refine List.map_congr_left λc hc=>?_
  obtain⟨a,b,k,hk,hh⟩:=hm c hc;rw[Mj hk,Di hh];rfl
theorem IE{ks:List Kind}(hk:Az ks=0){l:List Comp}(h:BJ ks l=true):CG ks l=(l,0):=by
 obtain⟨h1,h2,h3⟩:=S9 h;rw[LL hk h1 h2,h3,J3 (held_iff.1 h).1]
theorem JR{ks:List Kind}(hk:Az ks=0){c:Comp}(h:IC ks c):CG ks [c]=([HV ks c],0):=by
 rw[LL hk (λd hd=>by rw[List.mem_singleton.1 hd];exact h) (List.pairwise_singleton ..)];show(GI [HV ks c],(0:Int))=_
 rw[J3 (List.pairwise_singleton ..)]
theorem PP{ks:List Kind}{c:Comp}(h:IC ks c):∃k,ks[(HV ks c).kind.toNat]?=some k/\Bs k (HV ks c).vals=true:=by
 obtain⟨_,_,k,hk,hf⟩:=h;refine⟨k,by rw[Ib];exact hk,?_⟩;rw[Mj hk];exact(Dj hf).1
def QW(l:List Item):Prop:=KS (λit=>it.ent.n) l
theorem GY{l:List Item}(h:QW l){i:Nat}{it:Item}(hi:l[i]?=some it):CD l it.ent=i:=by
 by_cases hn:CD l it.ent<0
 ·have:=KP hn
  rw[List.find?_eq_none]at this;exact absurd (by simp) (this it (Ao hi))
 ·obtain⟨n,hn⟩:∃n:Nat,CD l it.ent=n:=⟨(CD l it.ent).toNat,by omega⟩
  obtain⟨x,hx,_,e⟩:=Ex hn;rw[hn];have e2:=MY h (Ao hx) (Ao hi) (by rw[e]);subst e2;obtain⟨a,ha⟩:=List.getElem?_eq_some_iff.1 hx;obtain⟨b,hb⟩:=List.getElem?_eq_some_iff.1 hi;have hp:=List.pairwise_iff_getElem.1 h;rcases Nat.lt_trichotomy n i with q|q|q
  ·have:=hp n i a b q;rw[ha,hb]at this;omega
  ·rw[q]
  ·have:=hp i n b a q;rw[ha,hb]at this;omega
theorem HJ{w:Wd}{i:Nat}{it:Item}(hi:w.items[i]?=some it)(cs:List Comp):DU w i cs=⟨w.kinds,w.gens,w.items.set i ⟨it.ent,cs⟩⟩:=by
 unfold DU;rw[hi]
theorem HI{w:Wd}(h:WdOK w){i:Nat}{it:Item}(hi:w.items[i]?=some it){cs:List Comp}(hc:BJ w.kinds cs=true):WdOK (DU w i cs):=by
 rw[HJ hi];obtain⟨h1,h2⟩:=Sh (key:=λit:Item=>it.ent.n) h.so hi (z:=⟨it.ent,cs⟩) rfl;refine⟨h.ks,h.gl,by simpa using h.il,h.gs,h1,λx hx=>?_⟩;rcases(h2 x).1 hx with rfl|⟨hx,_⟩
 ·obtain⟨a,b,c,d,e⟩:=h.it it (Ao hi)
  exact⟨a,b,c,d,hc⟩
 ·exact h.it x hx
theorem NU{w:Wd}(h:WdOK w){i:Nat}{it:Item}(hi:w.items[i]?=some it){c:Comp}(hc:IC w.kinds c):Ct w it.ent c=(DU w i (Fb it.comps (HV w.kinds c)),0):=by
 unfold Ct;have hf:=GY h.so hi;rw[if_neg (by simp[(BG w).2 h]),hf,if_neg (by omega),JR h.ks hc,if_neg (by simp),Int.toNat_natCast,hi]
theorem SN{w:Wd}(h:WdOK w){i:Nat}{it:Item}(hi:w.items[i]?=some it){c:Comp}(hc:IC w.kinds c):WdOK (DU w i (Fb it.comps (HV w.kinds c))):=by
 obtain⟨k,hk,hh⟩:=PP hc;have hit:=h.it it (Ao hi);have hcc:=hc;obtain⟨a,b,_⟩:=hcc;exact HI h hi (Sy hit.2.2.2.2 (by rw[Ib];exact a) (by rw[Ib];exact b) hk hh)
theorem Ie{w:Wd}(h:WdOK w){i:Nat}{it:Item}(hi:w.items[i]?=some it)(k:Int):EX w it.ent k=if(Bp it.comps k).isSome then(DU w i (Fd it.comps k),0)else(⟨[],[],[]⟩,4):=by
 unfold EX;have hf:=GY h.so hi;rw[if_neg (by simp[(BG w).2 h]),hf,if_neg (by omega),Int.toNat_natCast,hi]
theorem SC{l:List Item}{n:Int}(h:GN l n=false):∀x∈l,x.ent.n≠n:=by
 unfold GN at h;rw[List.any_eq_false]at h;intro x hx;simpa using h x hx
theorem HU{w:Wd}(hw:WdOK w)(h:(Bf w).2=true):(Bf w).1<=w.gens.length/\(∀x∈w.items,x.ent.n≠((Bf w).1:Nat))/\(Bf w).1<256/\∀g,w.gens[(Bf w).1]?=some g->g<1073741824:=by
 have hg:=hw.gl;unfold Bf at h⊢;split at h
 ·rename_i n hn
  unfold Lm at hn;rw[List.find?_eq_some_iff_getElem]at hn;obtain⟨h1,i,h2,h3,h4⟩:=hn;simp only[List.getElem_range]at h3;subst h3;rw[List.length_range]at h2;simp only[Bool.and_eq_true,Bool.not_eq_true',AD]at h1;refine⟨by dsimp only;omega,SC h1.1,by dsimp only;omega,λg hgg=>?_⟩;dsimp only at hgg;have:=h1.2;rw[Bx,hgg]at this;exact this
 ·have h:w.gens.length<256:=by dsimp only at h;rw[AD]at h;omega
  refine⟨Nat.le_refl _,λx hx=>?_,h,λg hgg=>?_⟩
  ·have:=(hw.it x hx).2.1
   dsimp only;omega
  ·rw[List.getElem?_eq_none (Nat.le_refl _)]at hgg;cases hgg
theorem J8{it:Item}:∀{l:List Item} (x:Item),x∈IV l it↔x=it\/x∈l
 |[],x=>by simp[IV]
 |y::l,x=>by
  rw[IV];split
  ·rw[BQ,J8,BQ]
   constructor
   ·rintro(h|h|h)
    ·exact .inr (.inl h)
    ·exact .inl h
    ·exact .inr (.inr h)
   ·rintro(h|h|h)
    ·exact .inr (.inl h)
    ·exact .inl h
    ·exact .inr (.inr h)
  ·rw[BQ]
theorem Lh{it:Item}:∀{l:List Item},QW l->(∀x∈l,x.ent.n≠it.ent.n)->QW (IV l it)
 |[],_,_=>List.pairwise_singleton ..
 |y::l,h,hn=>by
  obtain⟨h1,h2⟩:=List.pairwise_cons.1 h;rw[IV];split
  ·rename_i hy
   refine List.pairwise_cons.2 ⟨λx hx=>?_,Lh h2 λx hx=>hn x (by simp[hx])⟩;rcases(J8 x).1 hx with rfl|hx
   ·exact hy
   ·exact h1 x hx
  ·rename_i hy
   have:=hn y (by simp);refine List.pairwise_cons.2 ⟨λx hx=>?_,h⟩;show it.ent.n<x.ent.n
   rcases List.mem_cons.1 hx with rfl|hx
   ·omega
   ·have:y.ent.n<x.ent.n:=h1 x hx
    omega
theorem S5{gens:List Int}{n:Nat}(h:n<=gens.length):n<(CY gens n).length/\(CY gens n)[n]?=some ((CY gens n).getD n 0)/\gens.length<=(CY gens n).length/\(∀j,j<gens.length->(CY gens n)[j]?=gens[j]?)/\(∀g∈CY gens n,g∈gens\/g=0)/\(CY gens n).length<=max gens.length (n+1):=by
 unfold CY;split
 ·rename_i e
  subst e;refine⟨by simp,by simp[Bx],by simp,λj hj=>List.getElem?_append_left hj,λg hg=>?_,by simp⟩;rcases List.mem_append.1 hg with h|h
  ·exact .inl h
  ·exact .inr (List.mem_singleton.1 h)
 ·refine⟨by omega,?_,Nat.le_refl _,λ_ _=>rfl,λg hg=>.inl hg,by omega⟩
  rw[Bx,AG (by omega)];rfl
theorem Jb{w:Wd}(h:WdOK w)(hf:(Bf w).2=true){l:List Comp}{cs:List Comp}(hl:CG w.kinds l=(cs,0)):
  Cz w l=(⟨w.kinds,CY w.gens (Bf w).1,IV w.items ⟨⟨(Bf w).1,(CY w.gens (Bf w).1).getD (Bf w).1 0⟩,cs⟩⟩,⟨(Bf w).1,(CY w.gens (Bf w).1).getD (Bf w).1 0⟩,0):=by
 unfold Cz;rw[if_neg (by simp[(BG w).2 h]),hl,if_neg (by simp),if_neg (by simp[hf])]
theorem Ja{w:Wd}(h:WdOK w)(hf:(Bf w).2=true){cs:List Comp}(hc:BJ w.kinds cs=true):
  WdOK ⟨w.kinds,CY w.gens (Bf w).1,IV w.items ⟨⟨(Bf w).1,(CY w.gens (Bf w).1).getD (Bf w).1 0⟩,cs⟩⟩:=by
 obtain⟨f1,f2,f3,f4⟩:=HU h hf;obtain⟨n,hn⟩:∃n,(Bf w).1=n:=⟨_,rfl⟩;rw[hn]at f1 f2 f3 f4⊢;obtain⟨g1,g2,g3,g4,g5,g6⟩:=S5 f1
 have hgs:∀g∈CY w.gens n,0<=g/\g<=1073741824:=λg hg=>by
  rcases g5 g hg with hg|rfl
  ·exact h.gs g hg
  ·omega
 have hso:QW (IV w.items ⟨⟨n,(CY w.gens n).getD n 0⟩,cs⟩):=Lh h.so f2
 have hit:∀x∈IV w.items ⟨⟨n,(CY w.gens n).getD n 0⟩,cs⟩,0<=x.ent.n/\x.ent.n<(CY w.gens n).length/\(CY w.gens n)[x.ent.n.toNat]?=some x.ent.gen/\x.ent.gen≠1073741824/\BJ w.kinds x.comps=true:=λx hx=>by
  rcases(J8 x).1 hx with rfl|hx
  ·refine⟨by dsimp only;omega,by dsimp only;omega,by dsimp only;rw[Int.toNat_natCast];exact g2,?_,hc⟩
   dsimp only;intro e;rw[e]at g2;by_cases hnl:n<w.gens.length
   ·rw[g4 n hnl]at g2
    have:=f4 _ g2;omega
   ·unfold CY at e
    rw[if_pos (by omega),Bx,show n=w.gens.length by omega]at e;simp at e
  ·obtain⟨a,b,c,d,e⟩:=h.it x hx
   exact⟨a,by omega,by rw[g4 _ (by omega)];exact c,d,e⟩
 refine⟨h.ks,?_,?_,hgs,hso,hit⟩
 ·have:=h.gl
  dsimp only;omega
 ·exact GR (λx:Item=>x.ent.n) _ _ (hso.imp λ{a b} h=>by have h:a.ent.n<b.ent.n:=h;show a.ent.n≠b.ent.n;omega) λx hx=>⟨(hit x hx).1,(hit x hx).2.1⟩
theorem IR{w:Wd}(h:WdOK w){i:Nat}{it:Item}(hi:w.items[i]?=some it):Dw w it.ent=(⟨w.kinds,w.gens.set it.ent.n.toNat (w.gens.getD it.ent.n.toNat 0+1),w.items.eraseIdx i⟩,0):=by
 unfold Dw;have hf:=GY h.so hi;rw[if_neg (by simp[(BG w).2 h]),hf,if_neg (by omega),Int.toNat_natCast]
theorem QG{w:Wd}(h:WdOK w){i:Nat}{it:Item}(hi:w.items[i]?=some it):WdOK ⟨w.kinds,w.gens.set it.ent.n.toNat (w.gens.getD it.ent.n.toNat 0+1),w.items.eraseIdx i⟩:=by
 obtain⟨h1,h2⟩:=Sk (key:=λx:Item=>x.ent.n) h.so hi;obtain⟨a,b,c,d,e⟩:=h.it it (Ao hi);have hg:=h.gs it.ent.gen (Ao c);have hgd:w.gens.getD it.ent.n.toNat 0=it.ent.gen:=by rw[Bx,c];rfl
 refine⟨h.ks,by simpa using h.gl,?_,λg hgm=>?_,h1,λx hx=>?_⟩
 ·have:=h.il
  have:=List.length_eraseIdx_le w.items i;simp only[List.length_set];omega
 ·rcases List.mem_or_eq_of_mem_set hgm with hgm|rfl
  ·exact h.gs g hgm
  ·rw[hgd];omega
 ·obtain⟨hx,hn⟩:=(h2 x).1 hx
  obtain⟨a',b',c',d',e'⟩:=h.it x hx;exact⟨a',by simpa using b',by rw[List.getElem?_set_ne (by omega)];exact c',d',e'⟩
theorem LK{ks:List Kind}{c:Comp}(h:(CG ks [c]).2=0):∃d,(CG ks [c]).1=[d]/\d.kind=c.kind/\0<=c.kind/\c.kind<ks.length:=by
 unfold CG at h⊢;split at h
 ·exact absurd h ‹_›
 ·rename_i h1
  rw[if_neg h1];split at h
  ·exact absurd h ‹_›
  ·rename_i h2
   rw[if_neg h2];have h2:(Cm ks [] [] [c]).2=0:=by simpa using h2
   rw[Cm]at h2⊢;split at h2
   ·cases h2
   ·rename_i g1
    rw[if_neg g1];rw[if_neg (by simp)]at h2⊢;split at h2
    ·cases h2
    ·rename_i k hk
     split at h2
     ·exact absurd h2 ‹_›
     ·rename_i g3
      (try simp only[hk])
      rw[if_neg g3,Cm];refine⟨⟨c.kind,(BY k c.vals).1⟩,?_,rfl,by omega,by omega⟩;show GI [_]=_
      exact J3 (List.pairwise_singleton ..)
theorem Db{ks:List Kind}(hk:Az ks=0){l:List Comp}(h:BJ ks l=true):l.length<=16/\∀c∈l,c.vals.length<=8:=by
 obtain⟨hs,hm⟩:=held_iff.1 h;obtain⟨h16,ho⟩:=Bk hk;refine⟨Nat.le_trans (GR Comp.kind _ _ (hs.imp λh=>by omega) λc hc=>⟨(hm c hc).1,(hm c hc).2.1⟩) h16,λc hc=>?_⟩;obtain⟨_,_,k,hk2,hh⟩:=hm c hc;have h8:=(C8 (ho k (Ao hk2))).2.1;have:=Dj (k:=k) (v:=c.vals) (by rw[Di hh]);omega
theorem WdOK.wl{w:Wd}(h:WdOK w):WdL w:=by
 obtain⟨h16,ho⟩:=Bk h.ks;refine⟨⟨by omega,λk hk=>by have:=(C8 (ho k hk)).2.1;omega⟩,by have:=h.gl;omega,by have:=h.gl;have:=h.il;omega,λit hit=>?_⟩;obtain⟨h1,h2⟩:=Db h.ks (h.it it hit).2.2.2.2;exact⟨by omega,λc hc=>by have:=h2 c hc;omega⟩
theorem Hw(l:List Int):0<(Ap l).1.length:=by
 have h:=Af l (n:=4) (by decide)
 have:∀i c q,(BI i c q).1.length=c:=by
  intro i c
  induction c generalizing i with
  |zero=>intro q;rfl
  |succ c ih=>intro q;simp only[BI,BU,ih]
 unfold Ap;rw[this];omega
theorem SD{α:Type}{p:α->Bool}:∀{l:List α} {i:Nat},i<=l.length->(∀(j:Nat) (x:α),j<i->l[j]?=some x->p x=true)->(∀x,l[i]?=some x->p x=false)->(l.takeWhile p).length=i
 |[],i,h,_,_=>by(have:i=0:=by simpa using h);(subst this;rfl)
 |x::l,0,_,_,h2=>by rw[List.takeWhile_cons,h2 x rfl];rfl
 |x::l,i+1,h,h1,h2=>by
  rw[List.takeWhile_cons,h1 0 x (by omega) rfl];show(l.takeWhile p).length+1=i+1
  rw[SD (i:=i) (by simpa using h) (λj y hj hy=>h1 (j+1) y (by omega) hy) (λy hy=>h2 y hy)]
theorem QM{d:Comp}:∀{l:List Comp},Ci l->Fb l d=if(Bp l d.kind).isSome then l.set (Cf l d.kind) d else l.take (Cf l d.kind)++d::l.drop (Cf l d.kind)
 |[],_=>rfl
 |x::l,h=>by
  obtain⟨h1,h2⟩:=List.pairwise_cons.1 h;have ih:=QM (d:=d) h2
  have ec:Bp (x::l) d.kind=if x.kind=d.kind then some x else Bp l d.kind:=by
   unfold Bp;rw[List.find?_cons];by_cases e:x.kind=d.kind<;>simp[e]
  have ea:Cf (x::l) d.kind=if x.kind<d.kind then Cf l d.kind+1 else 0:=by
   unfold Cf;rw[List.takeWhile_cons];by_cases e:x.kind<d.kind<;>simp[e]
  rw[Fb,ec,ea];by_cases e1:x.kind<d.kind
  ·have e3:¬x.kind=d.kind:=by omega
   rw[if_pos e1,if_pos e1,if_neg e3,ih];split<;>simp
  ·rw[if_neg e1,if_neg e1]
   by_cases e2:x.kind=d.kind
   ·rw[if_pos e2,if_pos e2];rfl
   ·rw[if_neg e2,if_neg e2,Ig (λc hc=>by have:=h1 c hc;omega)];rfl
theorem N7{k:Int}:∀{l:List Comp},Ci l->(Bp l k).isSome=true->Fd l k=l.eraseIdx (Cf l k)
 |[],_,hn=>by cases hn
 |x::l,h,hn=>by
  obtain⟨h1,h2⟩:=List.pairwise_cons.1 h
  have ec:Bp (x::l) k=if x.kind=k then some x else Bp l k:=by
   unfold Bp;rw[List.find?_cons];by_cases e:x.kind=k<;>simp[e]
  have ea:Cf (x::l) k=if x.kind<k then Cf l k+1 else 0:=by
   unfold Cf;rw[List.takeWhile_cons];by_cases e:x.kind<k<;>simp[e]
  have ed:Fd (x::l) k=if x.kind=k then Fd l k else x::Fd l k:=by
   unfold Fd;rw[List.filter_cons];by_cases e:x.kind=k<;>simp[e]
  rw[ec]at hn;rw[ea,ed];by_cases e2:x.kind=k
  ·have e3:¬x.kind<k:=by omega
   rw[if_pos e2,if_neg e3];show Fd l k=l
   unfold Fd;rw[List.filter_eq_self];intro c hc;have:=h1 c hc;simp;omega
  ·rw[if_neg e2]at hn
   by_cases e1:x.kind<k
   ·rw[if_neg e2,if_pos e1,N7 h2 hn];rfl
   ·rw[Ig (λc hc=>by have:=h1 c hc;omega)]at hn;cases hn
end
def EG(n:Nat):List UInt8:=match n with
 |0=>[111,110,101]
 |1=>[116,119,111]
 |2=>[116,104,114,101,101]
 |3=>[102,111,117,114]
 |4=>[102,105,118,101]
 |_=>[115,105,120]
def LB(ks:List Kind)(i:Int):Int:=match ks[i.toNat]? with
 |some k=>k.fields.length
 |none=>0
def FC(ks:List Kind)(seen:List Int)(l:List Int):Arg×List Int:=
 if Al l 2=0 then(⟨false,Al (Ad l 2) 20-6,⟨0,0⟩⟩,Ad (Ad l 2) 20)
 else(⟨true,0,⟨seen.getD (Al (Ad l 2) seen.length).toNat 0,Al (Ad (Ad l 2) seen.length) (LB ks (seen.getD (Al (Ad l 2) seen.length).toNat 0))⟩⟩,
  Ad (Ad (Ad l 2) seen.length) (LB ks (seen.getD (Al (Ad l 2) seen.length).toNat 0)))
def H9(ks:List Kind)(r:Ref):Prop:=0<=r.kind/\r.kind<ks.length/\0<=r.field/\r.field<LB ks r.kind
def MB(ks:List Kind)(seen:List Int)(a:Arg):Prop:=(a.has=true->a.n=0/\H9 ks a.ref/\a.ref.kind∈seen)/\(a.has=false-> -6<=a.n/\a.n<=13/\a.ref=⟨0,0⟩)
def Fh:Arg:=⟨false,0,⟨0,0⟩⟩
def C4(d:Int):Bool:=(decide (1<=d)&&decide (d<=6))||decide (d=12)
structure OpOK(ks:List Kind)(reads writes:List Int)(o:Op):Prop where
 lo:0<=o.act
 hi:o.act<=12
 a:MB ks (reads++writes) o.a
 b:if C4 o.act then MB ks (reads++writes) o.b else o.b=Fh
 sets:o.act<=7->H9 ks o.to/\o.to.kind∈writes
 puts:o.act=8\/o.act=9->0<=o.to.kind/\o.to.kind<ks.length/\o.to.field=0
 none:10<=o.act->o.to=⟨0,0⟩
structure SysL(w1 w2 w3 w4:List Int)(n:Int):Prop where
 o1:w1.Pairwise (· < ·)
 o2:w2.Pairwise (· < ·)
 o3:w3.Pairwise (· < ·)
 o4:w4.Pairwise (· < ·)
 r1:∀x∈w1,0<=x/\x<n
 r2:∀x∈w2,0<=x/\x<n
 d:∀x∈w1,x∉w2
 s3:∀x∈w3,x∈w1
 s4:∀x∈w4,x∈w1
 all:∀x∈w1,x∈w3\/x∈w4
structure SysOK(ks:List Kind)(n:Nat)(s:Sys):Prop where
 name:s.name=EG n
 lists:SysL s.wth s.wout s.reads s.writes ks.length
 some:s.wth≠[]
 len:s.ops.length<=5
 ops:∀o∈s.ops,OpOK ks s.reads s.writes o
 spawn:s.spawn=[]\/∃q,s.spawn=(Cc ks q).1
theorem SysL.nil(n:Int):SysL [] [] [] [] n:=⟨.nil,.nil,.nil,.nil,by simp,by simp,by simp,by simp,by simp,by simp⟩
theorem SysL.weaken{w1 w2 w3 w4:List Int}{n m:Int}(h:SysL w1 w2 w3 w4 n)(hm:n<=m):SysL w1 w2 w3 w4 m:=
 ⟨h.o1,h.o2,h.o3,h.o4,λx hx=>⟨(h.r1 x hx).1,by have:=(h.r1 x hx).2;omega⟩,λx hx=>⟨(h.r2 x hx).1,by have:=(h.r2 x hx).2;omega⟩,h.d,h.s3,h.s4,h.all⟩
theorem Hm{l:List Int}{n:Int}(h:l.Pairwise (· < ·))(hn:∀x∈l,x<n):(l++[n]).Pairwise (· < ·):=
 List.pairwise_append.2 ⟨h,List.pairwise_singleton _ _,λx hx y hy=>by rw[List.mem_singleton.1 hy];exact hn x hx⟩
theorem SysL.read{w1 w2 w3 w4:List Int}{n:Int}(h:SysL w1 w2 w3 w4 n)(h0:0<=n):SysL (w1++[n]) w2 (w3++[n]) w4 (n+1):=by
 refine⟨Hm h.o1 λx hx=>(h.r1 x hx).2,h.o2,Hm h.o3 λx hx=>(h.r1 x (h.s3 x hx)).2,h.o4,?_,λx hx=>⟨(h.r2 x hx).1,by have:=(h.r2 x hx).2;omega⟩,?_,?_,?_,?_⟩
 ·intro x hx
  rcases List.mem_append.1 hx with hx|hx
  ·have:=h.r1 x hx;omega
  ·rw[List.mem_singleton.1 hx];omega
 ·intro x hx hx2
  rcases List.mem_append.1 hx with hx|hx
  ·exact h.d x hx hx2
  ·have:=h.r2 x hx2;rw[List.mem_singleton.1 hx]at this;omega
 ·intro x hx
  rcases List.mem_append.1 hx with hx|hx
  ·simp[h.s3 x hx]
  ·simp[List.mem_singleton.1 hx]
 ·intro x hx;simp[h.s4 x hx]
 ·intro x hx
  rcases List.mem_append.1 hx with hx|hx
  ·rcases h.all x hx with h|h<;>simp[h]
  ·simp[List.mem_singleton.1 hx]
theorem SysL.write{w1 w2 w3 w4:List Int}{n:Int}(h:SysL w1 w2 w3 w4 n)(h0:0<=n):SysL (w1++[n]) w2 w3 (w4++[n]) (n+1):=by
 refine⟨Hm h.o1 λx hx=>(h.r1 x hx).2,h.o2,h.o3,Hm h.o4 λx hx=>(h.r1 x (h.s4 x hx)).2,?_,λx hx=>⟨(h.r2 x hx).1,by have:=(h.r2 x hx).2;omega⟩,?_,?_,?_,?_⟩
 ·intro x hx
  rcases List.mem_append.1 hx with hx|hx
  ·have:=h.r1 x hx;omega
  ·rw[List.mem_singleton.1 hx];omega
 ·intro x hx hx2
  rcases List.mem_append.1 hx with hx|hx
  ·exact h.d x hx hx2
  ·have:=h.r2 x hx2;rw[List.mem_singleton.1 hx]at this;omega
 ·intro x hx;simp[h.s3 x hx]
 ·intro x hx
  rcases List.mem_append.1 hx with hx|hx
  ·simp[h.s4 x hx]
  ·simp[List.mem_singleton.1 hx]
 ·intro x hx
  rcases List.mem_append.1 hx with hx|hx
  ·rcases h.all x hx with h|h<;>simp[h]
  ·simp[List.mem_singleton.1 hx]
theorem SysL.without{w1 w2 w3 w4:List Int}{n:Int}(h:SysL w1 w2 w3 w4 n)(h0:0<=n):SysL w1 (w2++[n]) w3 w4 (n+1):=by
 refine⟨h.o1,Hm h.o2 λx hx=>(h.r2 x hx).2,h.o3,h.o4,λx hx=>⟨(h.r1 x hx).1,by have:=(h.r1 x hx).2;omega⟩,?_,?_,h.s3,h.s4,h.all⟩
 ·intro x hx
  rcases List.mem_append.1 hx with hx|hx
  ·have:=h.r2 x hx;omega
  ·rw[List.mem_singleton.1 hx];omega
 ·intro x hx hx2
  rcases List.mem_append.1 hx2 with hx2|hx2
  ·exact h.d x hx hx2
  ·have:=h.r1 x hx;rw[List.mem_singleton.1 hx2]at this;omega
theorem SysL.zero{w2 w3 w4:List Int}{n:Int}(h:SysL [] w2 w3 w4 n)(h0:1<=n):SysL [0] (w2.filter λx=>!decide (x=0)) w3 [0] n:=by
 refine⟨List.pairwise_singleton _ _,h.o2.sublist List.filter_sublist,h.o3,List.pairwise_singleton _ _,by simp;omega,λx hx=>h.r2 x (List.mem_filter.1 hx).1,by simp,?_,by simp,by simp⟩;intro x hx;exact absurd (h.s3 x hx) (by simp)
def Cx{α:Type}(f:α->AV)(z:AV)(l:List α)(i:Nat):List AV:=(l.take i).map f++List.replicate (l.length-i) z
theorem FA{α:Type}(f:α->AV)(z:AV)(l:List α):Cx f z l 0=List.replicate l.length z:=by simp[Cx]
theorem KQ{α:Type}(f:α->AV)(z:AV)(l:List α)(i:Nat)(h:i<=l.length):(Cx f z l i).length=l.length:=by simp[Cx];omega
theorem Gs{α:Type}(f:α->AV)(z:AV)(l:List α){i:Nat}(h:i<l.length):(Cx f z l i)[i]?=some z:=by
 unfold Cx;rw[List.getElem?_append_right (by simp;omega)];simp only[AB,Ag,Nat.min_eq_left (Nat.le_of_lt h),Nat.sub_self];rw[List.getElem?_replicate,if_pos (by omega)]
theorem F5{α:Type}(f:α->AV)(z:AV)(l:List α){i:Nat}(h:i<l.length):(Cx f z l i).set i (f l[i])=Cx f z l (i+1):=by
 unfold Cx;rw[List.set_append_right _ _ (by simp;omega),List.take_add_one,AG h];simp only[AB,Ag,Nat.min_eq_left (Nat.le_of_lt h),Nat.sub_self,Option.toList_some,List.map_append,List.map_cons,List.map_nil,AM]
 congr 1
 rw[show l.length-i=(l.length-(i+1))+1 from by omega,List.replicate_succ];rfl
theorem F6{α:Type}(f:α->AV)(z:AV)(l:List α){i:Nat}(h:l.length<=i):Cx f z l i=l.map f:=by
 unfold Cx;rw[List.take_of_length_le h,show l.length-i=0 from by omega];simp
theorem Dy(l:List Comp)(hl:l.length<=1099511627776)(hv:∀c∈l,c.vals.length<=1099511627776):PS Tryz.prog 51 [Aw false false l] (Aw true false l):=by
 refine Sp (nt:=27) (res:=[.tmp 2]) Tryz.func51 λSf=>?_
 have hl':(l.map (AH false)).length<=1099511627776:=by simpa using hl
 (iterate 8 refine WK ?_);refine DE ?_;refine E3 (.agg [iA 0,.prim (.slice none 0 0)]) λK=>?_;refine KK ?_
 refine BB (λi:Nat=>⟨[(3,.sl K 0 (l.map (AH false)).length),(9,Aw false false l),(10,iA (l.map (AH false)).length),(11,iA i)],(K,.row 85 2 (Cx (AH false) (.agg [iA 0,.prim (.slice none 0 0)]) l i))::Sf⟩) (λi=>i<=l.length) (λi=>l.length-i) 0 (Nat.zero_le _) ?_ ⟨by(repeat (first|exact .nil|refine .cons (by first|rfl|assumption) ?_)),by rw[FA,<-AB (f:=AH false)];exact Sub.f⟩;rintro i hi;refine KK ?_;refine AWP.cond rfl (λhc=>?_) (λhc=>?_)
 ·have h:i<l.length:=by simpa using hc
  have hm:i<(l.map (AH false)).length:=by simpa using h
  have hat:=Gs (AH false) (.agg [iA 0,.prim (.slice none 0 0)]) l h;refine KK ?_;refine Ai λX=>?_;refine KK ?_
  refine RU ?_;refine KR ?_;refine RGo.g_callf ?_;refine RGo.c1 (h:=(Eo _ (by have:=hv _ (AY h);omega))) (k:=?_);(iterate 3 refine RK ?_);refine RGo.nil (by kernel_rfl) ?_;refine KK ?_;have hs:=F5 (AH false) (.agg [iA 0,.prim (.slice none 0 0)]) l h;refine Se (i+1) h ?_;dsimp only;rw[<-hs];exact Sub.f
 ·have h:l.length<=i:=by rw[AL,AB]at hc;omega
  rw[F6 _ _ _ h];refine KK ?_;refine RT ?_;exact⟨[.sl K 0 (l.map (AH false)).length],[.lst true 85 2 (l.map (AH false))],_,[],.cons (.tmp rfl) rfl .nil,.cons (.cell (.sl (p:=0) .here rfl)) .nil,by exact Sub.f,rfl,rfl⟩
def RB(x:UInt64):UInt64:=(x^^^(x>>>UInt64.ofNat 31))*7640891576956012809
def Vh(x:UInt64):UInt64:=(x^^^(x>>>UInt64.ofNat 27))*13503953896175478587
def Dt(x:UInt64):UInt64:=Vh (RB x)^^^(Vh (RB x)>>>UInt64.ofNat 30)
theorem IO(x:UInt64):PS Tryz.prog 142 [uA x] (uA (Dt x)):=by
 refine Sp (nt:=17) (res:=[.tmp 2]) Tryz.func142 λSf=>?_
 refine R1 ?_;refine RG ?_;refine WO ?_;refine WO ?_;refine AOps.gN ?_;refine AOps.p (Dd 31 (by omega) rfl rfl rfl) rfl ?_;refine AOps.gN ?_;refine AOps.p (HX rfl rfl) rfl ?_;refine AOps.gN ?_;refine AOps.p (Cy (b:=7640891576956012809) rfl rfl) rfl ?_;refine WO ?_;refine NL ?_;rw[show(x^^^(x>>>UInt64.ofNat 31))*7640891576956012809=RB x from rfl];refine RG ?_;refine WO ?_;refine WO ?_;refine AOps.gN ?_;refine AOps.p (Dd 27 (by omega) rfl rfl rfl) rfl ?_;refine AOps.gN ?_;refine AOps.p (HX rfl rfl) rfl ?_;refine AOps.gN ?_;refine AOps.p (Cy (b:=13503953896175478587) rfl rfl) rfl ?_;refine WO ?_;refine NL ?_;rw[show(RB x^^^(RB x>>>UInt64.ofNat 27))*13503953896175478587=Vh (RB x)from rfl];refine RG ?_;refine WO ?_;refine WO ?_;refine AOps.gN ?_;refine AOps.p (Dd 30 (by omega) rfl rfl rfl) rfl ?_;refine AOps.gN ?_;refine AOps.p (HX rfl rfl) rfl ?_;refine WO ?_;refine NL ?_;refine RT ?_;refine AN ?_;rfl
def Nm(a b:UInt64):UInt64:=Dt (Dt (a+5840696475078001361)*11170449401992604703+b)
theorem QJ(a b:UInt64):PS Tryz.prog 192 [uA a,uA b] (uA (Nm a b)):=by
 have h1:=IO (a+5840696475078001361);have h2:=IO (Dt (a+5840696475078001361)*11170449401992604703+b);refine Sp (nt:=12) (res:=[.tmp 4]) Tryz.func192 λSf=>?_
 refine R1 ?_;refine RG ?_;refine WO ?_;refine AOps.gN ?_;refine AOps.p (Dz (b:=5840696475078001361) rfl rfl) rfl ?_;refine AOps.c1 (h:=h1) (k:=?_);refine AOps.gN ?_;refine AOps.p (Cy (b:=11170449401992604703) rfl rfl) rfl ?_;refine WO ?_;refine AOps.gN ?_;refine AOps.p (Dz rfl rfl) rfl ?_;refine AOps.c1 (h:=h2) (k:=?_);refine WO ?_;refine FL ?_;refine RT ?_;refine AN ?_;rfl
def Oa(l:List UInt64):UInt64:=l.foldl Nm (Nm 5840696475078001361 (UInt64.ofNat l.length))
theorem R6(l:List UInt64)(hl:l.length<=1099511627776):PS Tryz.prog 139 [.lst false 64 1 (l.map uA)] (uA (Oa l)):=by
 have hlm:(l.map uA).length=l.length:=AB _;have h1:=QJ 5840696475078001361 (UInt64.ofNat (l.map uA).length);refine Sp (nt:=21) (res:=[.tmp 2]) Tryz.func139 λSf=>?_
 refine R1 ?_
 (iterate 4 refine WK ?_);refine AOps.gN ?_;refine AOps.p (FQ .i64 (l.map uA).length rfl (by omega) (by kernel_rfl) (by kernel_rfl) rfl) rfl ?_;refine AOps.g_callf ?_;refine AOps.c2 (h:=(h1 ..)) (k:=?_);refine KK ?_
 refine BV (λ(i:Nat) (s:UInt64)=>⟨[(3,uA s),(10,.lst false 64 1 (l.map uA)),(11,iA (l.map uA).length),(12,iA i)],Sf⟩) (λi s=>i<=l.length/\(l.drop i).foldl Nm s=Oa l) (λi _=>l.length-i) 0 (Nm 5840696475078001361 (UInt64.ofNat (l.map uA).length)) ⟨Nat.zero_le _,by rw[hlm];rfl⟩ ?_;rintro i s ⟨hi,hs⟩;refine KK ?_;refine AWP.cond rfl (λhc=>?_) (λhc=>?_)
 ·have h:i<l.length:=by rw[AD,hlm]at hc;omega
  have hat:(l.map uA)[i]?=some (uA l[i]):=by rw[AF,AG h];rfl
  have h2:=QJ s l[i];refine KK ?_;refine AOps.g_callf ?_;refine AOps.c2 (h:=(h2 ..)) (k:=?_);refine KK ?_;refine A9 (i+1) _ ⟨h,?_⟩;rw[<-hs,By h];rfl
 ·have h:i=l.length:=by rw[AL,hlm]at hc;omega
  rw[h,List.drop_length]at hs;refine KK ?_;refine RT ?_;refine AN ?_;rw[<-hs];rfl
def UI(l:List Int):UInt64:=Oa (l.map UInt64.ofInt)
theorem UH(l:List Int)(hl:l.length<=1099511627776):PS Tryz.prog 99 [AQ false l] (uA (UI l)):=by
 have hlm:(l.map iA).length=l.length:=AB _;have hw:=R6 (l.map UInt64.ofInt) (by rw[AB];omega);have hz0:List.replicate (l.map iA).length (uA 0)=Cx (λx=>uA (UInt64.ofInt x)) (uA 0) l 0:=by rw[FA,hlm]
 refine Sp (nt:=24) (res:=[.tmp 2]) Tryz.func99 λSf=>?_
 (iterate 8 refine WK ?_);refine DE ?_;refine E3 ((uA 0)) λK=>?_;refine KK ?_
 rw[hz0];refine BV (λ(i:Nat) (M:List AV)=>⟨[(3,.sl K 0 (l.map iA).length),(9,AQ false l),(10,iA (l.map iA).length),(11,iA i)],(K,.row 64 1 M)::Sf⟩) (λi M=>i<=l.length/\M=Cx (λx=>uA (UInt64.ofInt x)) (uA 0) l i) (λi _=>l.length-i) 0 _ ⟨Nat.zero_le _,rfl⟩ ?_;rintro i M ⟨hi,hM⟩;refine KK ?_;refine AWP.cond rfl (λhc=>?_) (λhc=>?_)
 ·have h:i<l.length:=by rw[AD,hlm]at hc;omega
  have hat:(l.map iA)[i]?=some (iA l[i]):=by rw[AF,AG h];rfl
  have hset:=F5 (λx=>uA (UInt64.ofInt x)) (uA 0) l h;have hMat:M[i]?=some (uA 0):=by rw[hM];exact Gs _ _ _ h
  have hil:i<(l.map iA).length:=by omega
  (iterate 16 refine WK ?_);refine AOps.gN ?_;refine AOps.p (VM .i64 (by kernel_rfl) (by kernel_rfl) rfl) rfl ?_;refine KK ?_
  refine A9 (i+1) _ ⟨h,?_⟩;rw[hM];exact hset
 ·have h:i=l.length:=by rw[AL,hlm]at hc;omega
  subst h;rw[F6 _ _ _ (Nat.le_refl _)]at hM;have hM2:M=(l.map UInt64.ofInt).map uA:=by rw[hM,List.map_map];rfl
  subst hM2;have hlen:(l.map iA).length=((l.map UInt64.ofInt).map uA).length:=by simp
  refine FL ?_;refine Gd 3 ((l.map UInt64.ofInt).map uA) Frzs.h ?_;refine KK ?_;refine AOps.g_callf ?_;refine AOps.c1 (h:=(hw ..)) (k:=?_);refine KK ?_;refine RT ?_;refine AN ?_;rfl
def Fx:UInt64:=11400714819323198485
def LP(s:UInt64)(n:Int):UInt64:=Dt (s+Fx)^^^UInt64.ofInt n
def HM(r:UInt64×UInt64):AV:=.agg [uA r.1,uA r.2]
instance {r:UInt64×UInt64}:Frz (HM r) (HM r):=⟨rfl⟩
def FV(l:List Int):UInt64×UInt64:=(Dt (l.foldl LP (UInt64.ofNat l.length)+Fx),Dt (Dt (l.foldl LP (UInt64.ofNat l.length)+Fx)+Fx)|||1)
theorem SM(l:List Int)(hl:l.length<=1099511627776):PS Tryz.prog 101 [AQ false l] (HM (FV l)):=by
 have hlm:(l.map iA).length=l.length:=AB _;refine Sp (nt:=31) (res:=[.cell 2 182]) Tryz.func101 λSf=>?_
 refine RG ?_;refine WO ?_;refine Ai λR=>?_;refine NL ?_
 (iterate 4 refine WK ?_);refine AOps.gN ?_;refine AOps.p (FQ .i64 (l.map iA).length rfl (by omega) (by kernel_rfl) (by kernel_rfl) rfl) rfl ?_;refine KK ?_
 obtain⟨e,he⟩:∃e,l.foldl LP (UInt64.ofNat l.length)=e:=⟨_,rfl⟩;refine BV (λ(i:Nat) (s:UInt64)=>⟨[(2,.ptr R 0 0),(3,uA s),(9,AQ false l),(10,iA (l.map iA).length),(11,iA i)],(R,.row 182 2 [.agg [uA 0,uA 0]])::Sf⟩) (λi s=>i<=l.length/\(l.drop i).foldl LP s=e) (λi _=>l.length-i) 0 (UInt64.ofNat (l.map iA).length) ⟨Nat.zero_le _,by rw[hlm];exact he⟩ ?_;rintro i s ⟨hi,hs⟩;refine KK ?_;refine AWP.cond rfl (λhc=>?_) (λhc=>?_)
 ·have h:i<l.length:=by rw[AD,hlm]at hc;omega
  have hat:(l.map iA)[i]?=some (iA l[i]):=by rw[AF,AG h];rfl
  have h1:=IO (s+Fx);refine R1 ?_;refine WK ?_;refine WK ?_;refine AOps.gN ?_;refine AOps.p (Dz (b:=Fx) rfl rfl) rfl ?_;refine AOps.g_callf ?_;refine AOps.c1 (h:=(h1 ..)) (k:=?_);refine WK ?_;refine AOps.gN ?_;refine AOps.p (VM .i64 (by kernel_rfl) (by kernel_rfl) rfl) rfl ?_;refine AOps.gN ?_;refine AOps.p (HX rfl rfl) rfl ?_;refine KK ?_;refine A9 (i+1) (LP s l[i]) ⟨h,?_⟩;rw[<-hs,By h];rfl
 ·have h:i=l.length:=by rw[AL,hlm]at hc;omega
  rw[h,List.drop_length]at hs;have hs:s=e:=hs;subst hs;have h1:=IO (s+Fx);refine RG ?_;refine WO ?_;refine AOps.gN ?_;refine AOps.p (Dz (b:=Fx) rfl rfl) rfl ?_;refine AOps.g_callf ?_;refine AOps.c1 (h:=(h1 ..)) (k:=?_);refine WO ?_;refine NL ?_;have h2:=IO (Dt (s+Fx)+Fx);refine RG ?_;refine WO ?_;refine WO ?_;refine AOps.gN ?_;refine AOps.p (Dz (b:=Fx) rfl rfl) rfl ?_;refine AOps.g_callf ?_;refine AOps.c1 (h:=(h2 ..)) (k:=?_);refine AOps.gN ?_;refine AOps.p (VN (b:=1) rfl rfl) rfl ?_;refine KO ?_;refine NL ?_;refine RT ?_;unfold FV;rw[he];exact Br [HM (Dt (s+Fx),Dt (Dt (s+Fx)+Fx)|||1)] [HM (Dt (s+Fx),Dt (Dt (s+Fx)+Fx)|||1)] (.cons (.agg (.cons .same (.cons .same .nil))) .nil)
def Cq(r:UInt64×UInt64):UInt64×UInt64:=(r.1+r.2,r.2)
theorem Ox(r:UInt64×UInt64):PS Tryz.prog 228 [HM r] (.tup [uA (Dt (Cq r).1),HM (Cq r)]):=by
 have h1:=IO (r.1+r.2);refine Sp (nt:=14) (res:=[.tmp 2,.cell 3 182]) Tryz.func228 λSf=>?_
 refine RG ?_;refine WO ?_;refine Ai λR=>?_;refine KO ?_;refine Ai λR=>?_;refine NL ?_
 refine RG ?_;(iterate 4 refine WO ?_);refine AOps.gN ?_;refine AOps.p (Dz rfl rfl) rfl ?_;refine KO ?_;refine NL ?_;refine RU ?_;refine RK ?_;refine RK ?_;refine RGo.gN ?_;refine RGo.c1 (h:=h1) (k:=?_);(iterate 3 refine RK ?_);refine RGo.nil (by kernel_rfl) ?_;refine RT ?_;exact Br [uA (Dt (r.1+r.2)),HM (Cq r)] [uA (Dt (r.1+r.2)),HM (Cq r)] (.cons (.cell .same) (.cons (.agg (.cons .same (.cons .same .nil))) .nil))
section
open Go.Sort
theorem BD{α:Type}[Inhabited α](f:α->AV){d:Array α}{i:Nat}(h:i<d.size):(d.toList.map f)[i]?=some (f d[i]!):=by
 rw[AF,AG (by simpa using h)];simp[getElem!_pos d i h]
theorem Ck{α:Type}[Inhabited α](f:α->AV){d:Array α}{i j:Nat}(hi:i<d.size)(hj:j<d.size):((d.toList.map f).set i (f d[j]!)).set j (f d[i]!)=(swp d i j).toList.map f:=by
 unfold swp;simp[Array.toList_setIfInBounds,List.map_set]
theorem CM{α:Type}[Inhabited α](f:α->AV){d:Array α}{i j:Nat}(hj:j<d.size)(x:α):∃y,((d.toList.map f).set i (f x))[j]?=some (f y):=by
 by_cases e:i=j
 ·subst e;exact⟨x,List.getElem?_set_self (by simpa using hj)⟩
 ·exact⟨d[j]!,by rw[List.getElem?_set_ne e];exact BD f hj⟩
def AZ{α:Type}(cf:α->α->Int)(x y:α):Bool:=decide (cf x y<0)
instance:Inhabited Comp:=⟨⟨0,[]⟩⟩
instance:Inhabited Item:=⟨⟨⟨0,0⟩,[]⟩⟩
theorem FY{α:Type}[Inhabited α](lt:α->α->Bool)(d:Array α)(a b s:Nat):(order2 lt d a b s).2.2<=s+1:=by
 unfold order2;split<;>simp
theorem IN{α:Type}[Inhabited α](lt:α->α->Bool)(d:Array α)(a b s m:Nat)(ha:a<m)(hb:b<m):(order2 lt d a b s).1<m/\(order2 lt d a b s).2.1<m:=by
 unfold order2;split<;>exact⟨by assumption,by assumption⟩
theorem IP{α:Type}[Inhabited α](lt:α->α->Bool)(d:Array α)(a b c s:Nat):(median lt d a b c s).2<=s+3:=by
 have e1:=FY lt d a b s;have e2:=FY lt d (order2 lt d a b s).2.1 c (order2 lt d a b s).2.2;have e3:=FY lt d (order2 lt d a b s).1 (order2 lt d (order2 lt d a b s).2.1 c (order2 lt d a b s).2.2).1 (order2 lt d (order2 lt d a b s).2.1 c (order2 lt d a b s).2.2).2.2;unfold median;dsimp only;omega
theorem IQ{α:Type}[Inhabited α](lt:α->α->Bool)(d:Array α)(a s m:Nat)(h:a+1<m):(medianAdjacent lt d a s).1<m:=by
 rcases medianAdjacent_mem lt d a s with e|e|e<;>omega
def VL:Hint->Int
 |.unknown=>0
 |.increasing=>1
 |.decreasing=>2
end
section
open Go.Sort
def lenTab:List UInt8:=(List.range 256).map λn=>UInt8.ofNat (if n=0 then 0 else Nat.log2 n+1)
theorem Lg{n:Nat}(h:n<256):((lenTab.getD n 0).toNat:Int)=bitsLen n:=by
 have h1:lenTab.getD n 0=UInt8.ofNat (bitsLen n):=by
  unfold lenTab;rw[Bx,AF,List.getElem?_range h];rfl
 have h2:bitsLen n<=8:=(bitsLen_le_iff n 8).2 (by omega);rw[h1,UInt8.toNat_ofNat'];omega
theorem PD:lenTab.length=256:=by simp[lenTab]
theorem Km{x:Nat}(h:256<=x):bitsLen (x/256)+8=bitsLen x:=by
 have a:=(bitsLen_le_iff (x/256) (bitsLen x-8)).2 (by
  have h1:=lt_two_pow_bitsLen x
  have h2:8<bitsLen x:=by
   have:=(bitsLen_le_iff x 8);omega
  have h3:2^bitsLen x=2^(bitsLen x-8)*256:=by rw[show(256:Nat)=2^8 from rfl,<-Nat.pow_add];congr 1;omega
  omega)
 have b:=(bitsLen_le_iff x (bitsLen (x/256)+8)).2 (by
  have h1:=lt_two_pow_bitsLen (x/256);rw[Nat.pow_add];omega)
 have h2:8<bitsLen x:=by
  have:=(bitsLen_le_iff x 8);omega
 omega
set_option maxRecDepth 100000 in
theorem Sg(x:UInt64)(hx:x.toNat<65536):PS Tryz.prog 128 [uA x] (iA (bitsLen x.toNat)):=by
 refine Sp (nt:=25) (res:=[.tmp 2]) Tryz.func128 λSf=>?_
 refine KK ?_;refine AA rfl (AK (by omega)) ?_;refine KK ?_;refine AA rfl (AK (by omega)) ?_;refine KK ?_;refine Bl (λb:UInt64×Nat=>b.1.toNat<256/\bitsLen b.1.toNat+b.2=bitsLen x.toNat/\b.2<=8) (λb=>⟨[(0,uA b.1),(2,iA b.2)],Sf⟩) ?_ ?_
 ·refine AWP.cond rfl (λh=>?_) (λh=>?_)
  ·have h:256<=x.toNat:=by have:=of_decide_eq_true h;omega
   have hs:(x>>>UInt64.ofNat 8).toNat=x.toNat/256:=by
    rw[UInt64.toNat_shiftRight,UInt64.toNat_ofNat',show 8%2^64%64=8 from rfl,Nat.shiftRight_eq_div_pow]
   (iterate 3 refine WK ?_);refine AOps.gN ?_;refine AOps.p (Dd 8 (by omega) rfl rfl rfl) rfl ?_;refine KK ?_
   refine jn (x>>>UInt64.ofNat 8,8) ⟨by dsimp only;omega,?_,by(try dsimp only);omega⟩;dsimp only;rw[hs];exact Km h
  ·have h:¬256<=x.toNat:=by have:=of_decide_eq_false h;omega
   refine WK ?_;exact jn (x,0) ⟨by dsimp only;omega,rfl,by(try dsimp only);omega⟩
 ·rintro⟨u,m⟩ ⟨h1,h2,h3⟩
  dsimp only at h1 h2 h3⊢;have hw:IntKind.u8.wrap ((u.toNat:Nat):Int)=((u.toNat:Nat):Int):=by rw[IntKind.wrap_u8'];omega
  have hat:=Lg h1;have hb8:bitsLen u.toNat<=8:=(bitsLen_le_iff _ 8).2 (by omega);have hw2:IntKind.i64.wrap ((lenTab.getD u.toNat 0).toNat:Int)=((bitsLen u.toNat:Nat):Int):=by rw[hat];exact DT (by omega) (by omega)
  (iterate 4 refine WK ?_);refine AOps.gN ?_;refine AOps.p (W.convW .u64 .u8 _ (by kernel_rfl) (by kernel_rfl) hw rfl) rfl ?_;refine WK ?_;refine AOps.gN ?_;refine AOps.p (W.convW .u8 .i64 _ (by kernel_rfl) (by kernel_rfl) hw2 rfl) rfl ?_;refine AOps.gN ?_;refine AOps.p (Bb ((bitsLen x.toNat:Nat):Int) (by omega) (by omega) rfl rfl) rfl ?_;refine KK ?_
  refine RT ?_;refine AN ?_;rfl
theorem PC(x:UInt64)(hx:x.toNat<65536):PS Tryz.prog 88 [uA x] (iA (bitsLen x.toNat)):=by
 have h:=Sg x hx;refine Sp (nt:=8) (res:=[.tmp 2]) Tryz.func88 λSf=>?_
 refine KK ?_;refine AA rfl rfl ?_;refine KK ?_;refine AOps.g_callf ?_;refine AOps.c1 (h:=(h ..)) (k:=?_);refine KK ?_;refine RT ?_;refine AN ?_;rfl
theorem O7(n:Nat)(hn:n<65536):PS Tryz.prog 181 [iA n] (uA ((1:UInt64)<<<UInt64.ofNat (bitsLen n))):=by
 have e:(UInt64.ofNat n).toNat=n:=by rw[UInt64.toNat_ofNat'];omega
 have h:=PC (UInt64.ofNat n) (by rw[e];exact hn);rw[e]at h;have hb:bitsLen n<=16:=(bitsLen_le_iff n 16).2 (by omega);refine Sp (nt:=7) (res:=[.tmp 2]) Tryz.func181 λSf=>?_
 (iterate 7 refine WK ?_);refine AOps.gN ?_;refine AOps.p (FQ .i64 n rfl (by omega) (by kernel_rfl) (by kernel_rfl) rfl) rfl ?_;refine AOps.g_callf ?_;refine AOps.c1 (h:=(h ..)) (k:=?_);refine AOps.gN ?_;refine AOps.p (Ih (a:=1) (bitsLen n) (by omega) rfl rfl rfl) rfl ?_;refine KK ?_
 refine RT ?_;refine AN ?_;rfl
theorem OZ(Y:Nat)(s:UInt64):Spec Tryz.prog 182 [.ptr Y 0 0] [(Y,.row 282 1 [uA s])] λr S'=>∃v:UInt64,True/\r=uA v/\S'=[(Y,.row 282 1 [uA v])]:=by
 refine Sp (nt:=33) (res:=[.tmp 2]) Tryz.func182 λSf=>?_
 refine R1 ?_;refine RU ?_;(iterate 6 refine RK ?_);refine RGo.gN ?_;refine RGo.p (Ih 13 (by omega) rfl rfl rfl) rfl ?_;refine RGo.gN ?_;refine RGo.p (HX rfl rfl) rfl ?_;refine RK ?_;refine RK ?_;refine RGo.nil (by kernel_rfl) ?_;(repeat refine WF ?_);refine RU ?_;(iterate 6 refine RK ?_);refine RGo.gN ?_;refine RGo.p (Dd 7 (by omega) rfl rfl rfl) rfl ?_;refine RGo.gN ?_;refine RGo.p (HX rfl rfl) rfl ?_;refine RK ?_;refine RK ?_;refine RGo.nil (by kernel_rfl) ?_;(repeat refine WF ?_);refine RU ?_;(iterate 6 refine RK ?_);refine RGo.gN ?_;refine RGo.p (Ih 17 (by omega) rfl rfl rfl) rfl ?_;refine RGo.gN ?_;refine RGo.p (HX rfl rfl) rfl ?_;refine RK ?_;refine RK ?_;refine RGo.nil (by kernel_rfl) ?_;refine KK ?_;refine RT ?_;exact Ends.sp [uA _] [(Y,_)] ⟨_,trivial,rfl,rfl⟩
end
section
open Go.Sort
def DQ(a:Int):Int:=if 1099511627776<(if a< -1099511627776 then-1099511627776 else a)then 1099511627776 else if a< -1099511627776 then-1099511627776 else a
theorem H2(a:Int): -1099511627776<=DQ a/\DQ a<=1099511627776:=by unfold DQ;split<;>split<;>omega
theorem E1(a:Int):PS Tryz.prog 255 [iA a] (iA (DQ a)):=by
 refine Sp (nt:=6) (res:=[.tmp 2]) Tryz.func255 λSf=>?_
 refine KK ?_;refine RT ?_;refine AN ?_;rfl
def MV(a:Int):UInt64:=UInt64.ofNat a.natAbs
theorem PA(a:Int)(h: -1099511627776<=a/\a<=1099511627776):PS Tryz.prog 256 [iA a] (uA (MV a)):=by
 refine Sp (nt:=10) (res:=[.tmp 2]) Tryz.func256 λSf=>?_
 unfold MV;by_cases hn:a<0
 ·refine KK ?_
  refine AP rfl (Ah hn) ?_;refine RG ?_;refine WO ?_;refine AOps.gN ?_;refine AOps.p (Po (-a) rfl (by omega) rfl) rfl ?_;refine AOps.gN ?_;refine AOps.p (FQ .i64 a.natAbs (by omega) (by omega) (by kernel_rfl) (by kernel_rfl) rfl) rfl ?_;refine WO ?_;refine NL ?_;refine RT ?_;refine AN ?_;rfl
 ·refine KK ?_
  refine AA rfl (AK hn) ?_
  (iterate 4 refine WK ?_);refine AOps.gN ?_;refine AOps.p (FQ .i64 a.natAbs (by omega) (by omega) (by kernel_rfl) (by kernel_rfl) rfl) rfl ?_;refine KK ?_
  refine RT ?_;refine AN ?_;rfl
def Nc(x y:UInt64):UInt64:=
 (x>>>UInt64.ofNat 32)*(y>>>UInt64.ofNat 32)+(((x>>>UInt64.ofNat 32)*(y&&&4294967295)+((x&&&4294967295)*(y&&&4294967295))>>>UInt64.ofNat 32)>>>UInt64.ofNat 32)+
  ((((x>>>UInt64.ofNat 32)*(y&&&4294967295)+((x&&&4294967295)*(y&&&4294967295))>>>UInt64.ofNat 32)&&&4294967295)+(x&&&4294967295)*(y>>>UInt64.ofNat 32))>>>UInt64.ofNat 32
theorem SZ(x y:UInt64):PS Tryz.prog 257 [uA x,uA y] (.tup [uA (Nc x y),uA (x*y)]):=by
 refine Sp (nt:=51) (res:=[.tmp 4,.tmp 5]) Tryz.func257 λSf=>?_
 refine R1 ?_;refine RG ?_;refine WO ?_;refine AOps.gN ?_;refine AOps.p (Ij (b:=4294967295) rfl rfl) rfl ?_;refine WO ?_;refine NL ?_;refine RG ?_;refine WO ?_;refine AOps.gN ?_;refine AOps.p (Dd 32 (by omega) rfl rfl rfl) rfl ?_;refine WO ?_;refine NL ?_;refine RG ?_;refine WO ?_;refine AOps.gN ?_;refine AOps.p (Ij (b:=4294967295) rfl rfl) rfl ?_;refine WO ?_;refine NL ?_;refine RG ?_;refine WO ?_;refine AOps.gN ?_;refine AOps.p (Dd 32 (by omega) rfl rfl rfl) rfl ?_;refine WO ?_;refine NL ?_;refine RG ?_;refine WO ?_;refine WO ?_;refine AOps.gN ?_;refine AOps.p (Cy rfl rfl) rfl ?_;refine WO ?_;refine NL ?_;refine RG ?_;(repeat first|(refine AOps.gN ?_;first|refine AOps.p (Cy rfl rfl) rfl ?_|refine AOps.p (Dd 32 (by omega) rfl rfl rfl) rfl ?_|refine AOps.p (Dz rfl rfl) rfl ?_)|refine WO ?_|refine Ai λX=>?_|refine Ay λY=>?_);refine NL ?_;refine RG ?_;refine WO ?_;refine AOps.gN ?_;refine AOps.p (Ij (b:=4294967295) rfl rfl) rfl ?_;refine WO ?_;refine NL ?_;refine RG ?_;refine WO ?_;refine AOps.gN ?_;refine AOps.p (Dd 32 (by omega) rfl rfl rfl) rfl ?_;refine WO ?_;refine NL ?_;refine RG ?_;(iterate 3 refine WO ?_);refine AOps.gN ?_;refine AOps.p (Cy rfl rfl) rfl ?_;refine AOps.gN ?_;refine AOps.p (Dz rfl rfl) rfl ?_;refine WO ?_;refine NL ?_;refine RG ?_;(repeat first|(refine AOps.gN ?_;first|refine AOps.p (Cy rfl rfl) rfl ?_|refine AOps.p (Dz rfl rfl) rfl ?_|refine AOps.p (Dd 32 (by omega) rfl rfl rfl) rfl ?_)|refine WO ?_|refine Ai λX=>?_|refine Ay λY=>?_);refine NL ?_;refine RG ?_;refine WO ?_;refine WO ?_;refine AOps.gN ?_;refine AOps.p (Cy rfl rfl) rfl ?_;refine WO ?_;refine NL ?_;refine RT ?_;exact Br [uA (Nc x y),uA (x*y)] [uA (Nc x y),uA (x*y)] (.cons (.cell .same) (.cons (.cell .same) .nil))
set_option maxRecDepth 100000 in
theorem WB:PS Tryz.prog 267 [uA 65536] (iA 47):=by
 have hl:PS Tryz.prog 128 [uA 65536] (iA 17):=by
  refine Sp (nt:=25) (res:=[.tmp 2]) Tryz.func128 λSf=>?_
  refine KK ?_;refine AA rfl rfl ?_;refine KK ?_;refine AP rfl rfl ?_;refine RG ?_;refine WO ?_;refine AOps.gN ?_;refine AOps.p (Dd 16 (by omega) rfl rfl rfl) rfl ?_;refine WO ?_;refine NL ?_;obtain⟨u,hu⟩:∃u:UInt64,(65536:UInt64)>>>UInt64.ofNat 16=u:=⟨_,rfl⟩;rw[hu];have h1:u.toNat=1:=by rw[<-hu];decide
  clear hu;refine KK ?_;refine AA rfl (AK (by omega)) ?_;have hw:IntKind.u8.wrap ((u.toNat:Nat):Int)=((u.toNat:Nat):Int):=by rw[IntKind.wrap_u8'];omega
  have hat:=Lg (n:=u.toNat) (by omega);have hb1:bitsLen u.toNat=1:=by rw[h1];decide
  rw[hb1]at hat;have hw2:IntKind.i64.wrap ((lenTab.getD u.toNat 0).toNat:Int)=((1:Nat):Int):=by rw[hat];exact DT (by omega) (by omega)
  (repeat first|(refine AOps.gN ?_;first|refine AOps.p (W.convW .u64 .u8 _ (by kernel_rfl) (by kernel_rfl) hw rfl) rfl ?_|refine AOps.p (W.idxStr (s:=lenTab) (a:=u.toNat) (show ev _ _=_ by kernel_rfl) rfl rfl (by rw[PD];omega)) rfl ?_|refine AOps.p (W.convW .u8 .i64 _ (by kernel_rfl) (by kernel_rfl) hw2 rfl) rfl ?_|refine AOps.p (Bb 17 rfl (by omega) rfl rfl) rfl ?_)|refine WK ?_|refine Ai λX=>?_|refine Ay λY=>?_);refine RT ?_;refine AN ?_;rfl
 refine Sp (nt:=6) (res:=[.tmp 2]) Tryz.func267 λSf=>?_
 refine KK ?_;refine AOps.g_callf ?_;refine AOps.c1 (h:=(hl ..)) (k:=?_);refine AOps.gN ?_;refine AOps.p (A7 47 rfl (by omega) rfl rfl) rfl ?_;refine KK ?_;refine RT ?_;refine AN ?_;rfl
def dU(hi lo:UInt64):UInt64:=(hi<<<UInt64.ofNat 47)|||(lo>>>UInt64.ofNat 17)
def dL(lo:UInt64):UInt64:=lo<<<UInt64.ofNat 47
def dR(hi lo:UInt64):UInt64:=dU hi lo*4294967296+(dL lo>>>UInt64.ofNat 32)-dU hi lo/2147483648*9223372036854775808
def HD(hi lo:UInt64):UInt64×UInt64:=
 (dU hi lo/2147483648*4294967296+dR hi lo/2147483648,(dR hi lo*4294967296+(dL lo&&&4294967295)-dR hi lo/2147483648*9223372036854775808)>>>UInt64.ofNat 47)
theorem WM{hi lo:UInt64}(h:hi.toNat<65536):(dU hi lo).toNat<9223372036854775808:=by
 unfold dU
 have h1:(hi<<<UInt64.ofNat 47).toNat<2^63:=by
  rw[UInt64.toNat_shiftLeft,UInt64.toNat_ofNat',show 47%2^64%64=47 from rfl,Nat.shiftLeft_eq];omega
 have h2:(lo>>>UInt64.ofNat 17).toNat<2^63:=by
  rw[UInt64.toNat_shiftRight,UInt64.toNat_ofNat',show 17%2^64%64=17 from rfl,Nat.shiftRight_eq_div_pow];have:=lo.toNat_lt;omega
 rw[UInt64.toNat_or];exact Nat.or_lt_two_pow h1 h2
theorem WP{hi lo:UInt64}:(dR hi lo).toNat<9223372036854775808:=by
 have h2:(dL lo>>>UInt64.ofNat 32).toNat<4294967296:=by
  rw[UInt64.toNat_shiftRight,UInt64.toNat_ofNat',show 32%2^64%64=32 from rfl,Nat.shiftRight_eq_div_pow];have:=(dL lo).toNat_lt;omega
 have h0:=(dU hi lo).toNat_lt;unfold dR;generalize dL lo>>>UInt64.ofNat 32=v at h2⊢;generalize dU hi lo=u at h0⊢;rw[UInt64.toNat_sub,UInt64.toNat_add,UInt64.toNat_mul,UInt64.toNat_mul,UInt64.toNat_div];rw[show(4294967296:UInt64).toNat=4294967296 from rfl,show(2147483648:UInt64).toNat=2147483648 from rfl,show(9223372036854775808:UInt64).toNat=9223372036854775808 from rfl];omega
theorem TT(hi lo:UInt64)(h:hi.toNat<65536):PS Tryz.prog 258 [uA hi,uA lo,uA 65536] (.tup [uA (if hi=0 then lo/65536 else(HD hi lo).1),uA (if hi=0 then lo%65536 else(HD hi lo).2)]):=by
 have hu:=WM (lo:=lo) h;have hr:=WP (hi:=hi) (lo:=lo);refine Sp (nt:=135) (res:=[.tmp 6,.tmp 7]) Tryz.func258 λSf=>?_
 refine KK ?_;refine AA rfl rfl ?_;refine KK ?_;have hd1:decide (((65536:UInt64).toNat:Int)<=hi.toNat)=false:=AK (by rw[show(65536:UInt64).toNat=65536 from rfl];omega);refine AA rfl hd1 ?_;by_cases h0:hi=0
 ·rw[if_pos h0,if_pos h0]
  subst h0;refine KK ?_;refine AP rfl rfl ?_;refine RU ?_;refine RK ?_;refine RK ?_;refine RGo.gN ?_;refine RGo.go (h:=Pm (b:=65536) (by decide) rfl rfl) (k:=?_);refine RK ?_;refine RK ?_;refine RGo.gN ?_;refine RGo.go (h:=Kp (b:=65536) (by decide) rfl rfl) (k:=?_);refine RK ?_;refine RK ?_;refine RGo.nil (by kernel_rfl) ?_;refine RT ?_;exact Br [uA (lo/65536),uA (lo%65536)] [uA (lo/65536),uA (lo%65536)] (.cons (.cell .same) (.cons (.cell .same) .nil))
 rw[if_neg h0,if_neg h0];refine KK ?_;refine AA rfl (AK (λe=>h0 (UInt64.toNat_inj.1 (Int.ofNat_inj.1 e)))) ?_;refine RG ?_;refine WO ?_;refine AOps.g_callf ?_;refine AOps.c1 (h:=(WB ..)) (k:=?_);refine AOps.gN ?_;refine AOps.p (FQ .i64 47 rfl (by omega) (by kernel_rfl) (by kernel_rfl) rfl) rfl ?_;refine WO ?_;refine NL ?_;refine RG ?_;refine WO ?_;refine WO ?_;refine AOps.gN ?_;refine AOps.p (Ih 47 (by omega) rfl rfl (by decide)) rfl ?_;refine WO ?_;refine NL ?_;rw[show(65536:UInt64)<<<UInt64.ofNat 47=9223372036854775808 from by decide];refine RG ?_;refine WO ?_;refine AOps.gN ?_;refine AOps.p (Dd 32 (by omega) rfl rfl rfl) rfl ?_;refine WO ?_;refine NL ?_;rw[show(9223372036854775808:UInt64)>>>UInt64.ofNat 32=2147483648 from by decide];refine RG ?_;refine WO ?_;refine AOps.gN ?_;refine AOps.p (Ij (b:=4294967295) rfl rfl) rfl ?_;refine WO ?_;refine NL ?_;rw[show(9223372036854775808:UInt64)&&&4294967295=0 from by decide];refine RG ?_;(repeat first|(refine AOps.gN ?_;first|refine AOps.p (Ih 47 (by omega) rfl rfl (by decide)) rfl ?_|refine AOps.p (F9 (a:=64) rfl rfl) rfl ?_|refine AOps.p (Dd 17 (by omega) rfl rfl (by decide)) rfl ?_|refine AOps.p (VN rfl rfl) rfl ?_)|refine WO ?_|refine Ai λX=>?_|refine Ay λY=>?_);refine NL ?_;rw[show(hi<<<UInt64.ofNat 47)|||(lo>>>UInt64.ofNat 17)=dU hi lo from rfl];refine RG ?_;refine WO ?_;refine WO ?_;refine AOps.gN ?_;refine AOps.p (Ih 47 (by omega) rfl rfl (by decide)) rfl ?_;refine WO ?_;refine NL ?_;rw[show lo<<<UInt64.ofNat 47=dL lo from rfl];refine RG ?_;refine WO ?_;refine AOps.gN ?_;refine AOps.p (Dd 32 (by omega) rfl rfl rfl) rfl ?_;refine WO ?_;refine NL ?_;refine RG ?_;refine WO ?_;refine AOps.gN ?_;refine AOps.p (Ij (b:=4294967295) rfl rfl) rfl ?_;refine WO ?_;refine NL ?_;refine RG ?_;refine WO ?_;refine WO ?_;refine AOps.gN ?_;refine AOps.p (Pm (b:=2147483648) (by decide) rfl rfl) rfl ?_;refine WO ?_;refine NL ?_;refine RG ?_;(iterate 3 refine WO ?_);refine AOps.gN ?_;refine AOps.p (Cy (b:=2147483648) rfl rfl) rfl ?_;refine AOps.gN ?_;refine AOps.p (F9 rfl rfl) rfl ?_;refine WO ?_;refine NL ?_
 have c1:∀u:UInt64,u.toNat<9223372036854775808->decide (((u/2147483648).toNat:Int)>=4294967296)=false:=λu hu=>AK (by
  rw[UInt64.toNat_div,show(2147483648:UInt64).toNat=2147483648 from rfl];omega)
 have c2:∀(a b:UInt64),decide (((a*0:UInt64).toNat:Int)>b.toNat)=false:=λa b=>AK (by
  rw[show a*0=0 from UInt64.mul_zero];show¬((0:Nat):Int)>b.toNat
  omega)
 have c1u:=c1 _ hu;have c1r:=c1 _ hr;refine FL ?_;refine BB (λ_:Unit=>⟨[(2,uA 9223372036854775808),(8,uA (UInt64.ofNat 47)),(9,uA 2147483648),(10,uA 0),(11,uA (dU hi lo)),(13,uA (dL lo>>>UInt64.ofNat 32)),(14,uA (dL lo&&&4294967295)),(15,uA (dU hi lo/2147483648)),(16,uA (dU hi lo-dU hi lo/2147483648*2147483648))],Sf⟩) (λ_=>True) (λ_=>0) () trivial ?_;rintro _ _;(repeat first|(refine AOps.gN ?_;first|refine AOps.go (h:=Cy (b:=0) rfl rfl) (k:=?_)|refine AOps.go (h:=Cy (a:=4294967296) rfl rfl) (k:=?_)|refine AOps.go (h:=Dz rfl rfl) (k:=?_))|refine WK ?_|refine Ai λX=>?_|refine Ay λY=>?_);refine AA rfl (c2 _ _) ?_;refine FL ?_;refine RG ?_;(repeat first|(refine AOps.gN ?_;first|refine AOps.p (Cy (b:=4294967296) rfl rfl) rfl ?_|refine AOps.p (Dz rfl rfl) rfl ?_|refine AOps.p (Cy (b:=9223372036854775808) rfl rfl) rfl ?_|refine AOps.p (F9 rfl rfl) rfl ?_)|refine WO ?_|refine Ai λX=>?_|refine Ay λY=>?_);refine NL ?_;rw[show dU hi lo*4294967296+(dL lo>>>UInt64.ofNat 32)-dU hi lo/2147483648*9223372036854775808=dR hi lo from rfl];refine RG ?_;refine WO ?_;refine WO ?_;refine AOps.gN ?_;refine AOps.p (Pm (b:=2147483648) (by decide) rfl rfl) rfl ?_;refine WO ?_;refine NL ?_;refine RG ?_;(iterate 3 refine WO ?_);refine AOps.gN ?_;refine AOps.p (Cy (b:=2147483648) rfl rfl) rfl ?_;refine AOps.gN ?_;refine AOps.p (F9 rfl rfl) rfl ?_;refine WO ?_;refine NL ?_;refine FL ?_;refine BB (λ_:Unit=>⟨[(2,uA 9223372036854775808),(8,uA (UInt64.ofNat 47)),(9,uA 2147483648),(10,uA 0),(14,uA (dL lo&&&4294967295)),(15,uA (dU hi lo/2147483648)),(16,uA (dR hi lo-dR hi lo/2147483648*2147483648)),(17,uA (dR hi lo)),(18,uA (dR hi lo/2147483648))],Sf⟩) (λ_=>True) (λ_=>0) () trivial ?_;rintro _ _;(repeat first|(refine AOps.gN ?_;first|refine AOps.go (h:=Cy (b:=0) rfl rfl) (k:=?_)|refine AOps.go (h:=Cy (a:=4294967296) rfl rfl) (k:=?_)|refine AOps.go (h:=Dz rfl rfl) (k:=?_))|refine WK ?_|refine Ai λX=>?_|refine Ay λY=>?_);refine AA rfl (c2 _ _) ?_;refine FL ?_;refine RG ?_;(repeat first|(refine AOps.gN ?_;first|refine AOps.p (Cy (b:=4294967296) rfl rfl) rfl ?_|refine AOps.p (Dz rfl rfl) rfl ?_|refine AOps.p (Cy (b:=9223372036854775808) rfl rfl) rfl ?_|refine AOps.p (F9 rfl rfl) rfl ?_|refine AOps.p (Dd 47 (by omega) rfl rfl (by decide)) rfl ?_)|refine WO ?_|refine Ai λX=>?_|refine Ay λY=>?_);refine NL ?_;refine RT ?_;exact Br [uA (HD hi lo).1,uA (HD hi lo).2] [uA (HD hi lo).1,uA (HD hi lo).2] (.cons (.cell .same) (.cons (.cell .same) .nil))
end
def UO(hi lo:UInt64):UInt64:=if hi=0 then lo/65536 else(HD hi lo).1
def VS(hi lo:UInt64):UInt64:=if hi=0 then lo%65536 else(HD hi lo).2
def MR(neg:Bool)(q:Int)(r:UInt64):Int:=
 if neg=false then DQ (if(r.toNat:Int)>=(65536-r).toNat then q+1 else q)else DQ (-(if(r.toNat:Int)>(65536-r).toNat then q+1 else q))
def Vg(neg:Bool)(hi lo:UInt64):Int:=
 if(hi.toNat:Int)>=65536 then(if neg then-1099511627776 else 1099511627776)else
 if((UO hi lo).toNat:Int)>1099511627776 then MR neg 1099511627777 0 else MR neg (UO hi lo).toNat (VS hi lo)
def Q8(a b:Int):Int:=
 Vg (if DQ b<0 then !(decide (DQ a<0))else decide (DQ a<0)) (Nc (MV (DQ a)) (MV (DQ b))) (MV (DQ a)*MV (DQ b))
theorem Q9(a b:Int):PS Tryz.prog 227 [iA a,iA b,iA 65536] (iA (Q8 a b)):=by
 have h1:=E1 a;have h2:=E1 b;have h3:=E1 65536;rw[show DQ 65536=65536 from by decide]at h3;have ra:=H2 a;have rb:=H2 b;obtain⟨res,hres⟩:∃res,Q8 a b=res:=⟨_,rfl⟩;rw[hres];unfold Q8 at hres;obtain⟨a1,ha1⟩:∃a1,DQ a=a1:=⟨_,rfl⟩;obtain⟨b1,hb1⟩:∃b1,DQ b=b1:=⟨_,rfl⟩;rw[ha1]at h1 ra hres;rw[hb1]at h2 rb hres;have h4:=PA a1 ra;have h5:=PA b1 rb;have h6:=PA 65536 (by omega);rw[show MV 65536=65536 from by decide]at h6;obtain⟨ma,hma⟩:∃ma,MV a1=ma:=⟨_,rfl⟩;obtain⟨mb,hmb⟩:∃mb,MV b1=mb:=⟨_,rfl⟩;rw[hma]at h4 hres;rw[hmb]at h5 hres;have h7:=SZ ma mb;obtain⟨hi,hhi⟩:∃hi,Nc ma mb=hi:=⟨_,rfl⟩;obtain⟨lo,hlo⟩:∃lo,ma*mb=lo:=⟨_,rfl⟩;rw[hhi,hlo]at h7 hres;refine Sp (nt:=78) (res:=[.tmp 6]) Tryz.func227 λSf=>?_
 refine R1 ?_;refine KK ?_;refine AOps.g_callf ?_;refine AOps.c1 (h:=(h1 ..)) (k:=?_);refine WK ?_;refine AOps.g_callf ?_;refine AOps.c1 (h:=(h2 ..)) (k:=?_);refine WK ?_;refine AOps.g_callf ?_;refine AOps.c1 (h:=(h3 ..)) (k:=?_);refine KK ?_;refine AA rfl rfl ?_;refine KK ?_;refine Bl (λn:Bool=>Vg n hi lo=res) (λn=>⟨[(0,iA a1),(1,iA b1),(2,iA 65536),(7,bA n)],Sf⟩) ?_ ?_
 ·by_cases hb:b1<0
  ·rw[if_pos hb]at hres
   refine AP rfl (Ah hb) ?_;refine KK ?_;exact jn (!decide (a1<0)) hres
  ·rw[if_neg hb]at hres
   refine AA rfl (AK hb) ?_;refine WK ?_;exact jn (decide (a1<0)) hres
 clear hres;intro neg hres;refine KK ?_;refine AA rfl rfl ?_;refine RG ?_;refine WO ?_;refine AOps.g_callf ?_;refine AOps.c1 (h:=(h6 ..)) (k:=?_);refine WO ?_;refine NL ?_;refine RG ?_;refine WO ?_;refine AOps.g_callf ?_;refine AOps.c1 (h:=(h4 ..)) (k:=?_);refine WO ?_;refine AOps.g_callf ?_;refine AOps.c1 (h:=(h5 ..)) (k:=?_);refine AOps.g_callf ?_;refine AOps.c2 (h:=(h7 ..)) (k:=?_);refine KO ?_;refine NL ?_;refine KK ?_;unfold Vg at hres;by_cases hh:(hi.toNat:Int)>=65536
 ·rw[if_pos hh]at hres
  refine AP rfl (Ah hh) ?_;refine KK ?_;cases neg
  ·refine AA rfl rfl ?_
   refine KK ?_;refine RT ?_;refine AN ?_;rw[<-hres];rfl
  ·refine AP rfl rfl ?_
   refine KK ?_;refine RT ?_;refine AN ?_;rw[<-hres];rfl
 rw[if_neg hh]at hres;refine AA rfl (AK hh) ?_;have h8:=TT hi lo (by omega);rw[show(if hi=0 then lo/65536 else(HD hi lo).1)=UO hi lo from rfl,show(if hi=0 then lo%65536 else(HD hi lo).2)=VS hi lo from rfl]at h8;obtain⟨q,hq⟩:∃q,UO hi lo=q:=⟨_,rfl⟩;obtain⟨r,hr⟩:∃r,VS hi lo=r:=⟨_,rfl⟩;rw[hq,hr]at h8 hres;refine RG ?_;refine KO ?_;refine AOps.g_callf ?_;refine FJ (h:=(h8 ..)) (k:=?_);refine KO ?_;refine NL ?_;refine KK ?_;refine Bl (λb:UInt64×UInt64=>b.1.toNat<=1099511627777/\MR neg b.1.toNat b.2=res) (λb=>⟨[(7,bA neg),(8,uA 65536),(11,uA b.1),(12,uA b.2)],Sf⟩) ?_ ?_
 ·by_cases hb:(q.toNat:Int)>1099511627776
  ·rw[if_pos hb]at hres
   refine AP rfl (Ah hb) ?_;refine KK ?_;exact jn (1099511627777,0) ⟨by decide,hres⟩
  ·rw[if_neg hb]at hres
   refine AA rfl (AK hb) ?_;refine WK ?_;exact jn (q,r) ⟨by dsimp only;omega,hres⟩
 clear hres hq hr h8;rintro⟨q,r⟩ ⟨hq,hres⟩;dsimp only at hq hres⊢
 (iterate 3 refine WK ?_);refine AOps.gN ?_;refine AOps.p (Pn .u64 (by omega) (by kernel_rfl) (by kernel_rfl) rfl) rfl ?_;refine KK ?_
 unfold MR at hres;cases neg
 ·rw[if_pos rfl]at hres
  refine AP rfl rfl ?_
  (iterate 6 refine WK ?_);refine AOps.gN ?_;refine AOps.p (F9 rfl rfl) rfl ?_;refine KK ?_
  by_cases hc:(r.toNat:Int)>=(65536-r).toNat
  ·rw[if_pos hc]at hres
   have hc1:=E1 ((q.toNat:Int)+1);rw[hres]at hc1;refine AP rfl (Ah hc) ?_;refine KK ?_;refine AOps.g_callf ?_;refine AOps.c1 (h:=(hc1 ..)) (k:=?_);refine KK ?_;refine RT ?_;refine AN ?_;rfl
  ·rw[if_neg hc]at hres
   have hc1:=E1 (q.toNat:Int);rw[hres]at hc1;refine AA rfl (AK hc) ?_;refine KK ?_;refine AOps.g_callf ?_;refine AOps.c1 (h:=(hc1 ..)) (k:=?_);refine KK ?_;refine RT ?_;refine AN ?_;rfl
 ·rw[if_neg (by decide)]at hres
  refine AA rfl rfl ?_
  (iterate 7 refine WK ?_);refine AOps.gN ?_;refine AOps.p (F9 rfl rfl) rfl ?_;refine KK ?_
  by_cases hc:(r.toNat:Int)>(65536-r).toNat
  ·rw[if_pos hc]at hres
   have hc1:=E1 (-((q.toNat:Int)+1));rw[hres]at hc1;refine AP rfl (Ah hc) ?_
   (iterate 8 refine WK ?_);refine AOps.gN ?_;refine AOps.p (Po (-((q.toNat:Int)+1)) rfl (by omega) rfl) rfl ?_;refine AOps.g_callf ?_;refine AOps.c1 (h:=(hc1 ..)) (k:=?_);refine KK ?_
   refine RT ?_;refine AN ?_;rfl
  ·rw[if_neg hc]at hres
   have hc1:=E1 (-(q.toNat:Int));rw[hres]at hc1;refine AA rfl (AK hc) ?_
   (iterate 4 refine WK ?_);refine AOps.gN ?_;refine AOps.p (Po (-(q.toNat:Int)) rfl (by omega) rfl) rfl ?_;refine AOps.g_callf ?_;refine AOps.c1 (h:=(hc1 ..)) (k:=?_);refine KK ?_
   refine RT ?_;refine AN ?_;rfl
theorem Vf(a b:Int):PS Tryz.prog 197 [iA a,iA b] (iA (Q8 a b)):=by
 have h:=Q9 a b;refine Sp (nt:=8) (res:=[.tmp 4]) Tryz.func197 λSf=>?_
 refine KK ?_;refine AOps.g_callf ?_;refine FJ (h:=(h ..)) (k:=?_);refine KK ?_;refine RT ?_;refine AN ?_;rfl
def Vj(n:UInt64):UInt64:=18446744073709551615-(18446744073709551615%n+1)%n
def Ed(n:UInt64):Nat->UInt64×UInt64->UInt64×(UInt64×UInt64)
 |0,r=>(0,r)
 |k+1,r=>if Dt (Cq r).1<=Vj n then(Dt (Cq r).1%n,Cq r)else Ed n k (Cq r)
def EE(r:UInt64×UInt64)(n:Nat):UInt64×(UInt64×UInt64):=Ed (UInt64.ofNat n) 18446744073709551616 r
theorem RA:Dt 0=0:=by decide
theorem HE(n:UInt64):∀(k:Nat) (r:UInt64×UInt64),(Ed n k r).2.2=r.2
 |0,r=>rfl
 |k+1,r=>by
  rw[Ed];split
  ·rfl
  ·exact HE n k (Cq r)
theorem Kn(n:UInt64)(hn:0<n.toNat):∀(k:Nat) (r:UInt64×UInt64),(Ed n k r).1.toNat<n.toNat
 |0,r=>by simpa[Ed]using hn
 |k+1,r=>by
  rw[Ed];split
  ·rw[UInt64.toNat_mod];exact Nat.mod_lt _ hn
  ·exact Kn n hn k (Cq r)
theorem Rq(r:UInt64×UInt64)(n:Nat)(h1:1<=n)(h2:n<=4611686018427387904)(hg:r.2.toNat%2=1):PS Tryz.prog 198 [HM r,iA n] (.tup [iA (EE r n).1.toNat,HM (EE r n).2,iA 0]):=by
 obtain⟨m,hm⟩:∃m,UInt64.ofNat n=m:=⟨_,rfl⟩;have hmn:m.toNat=n:=by rw[<-hm,UInt64.toNat_ofNat'];omega
 obtain⟨k0,hk1,hk2,hk3⟩:=SX r.1 r.2 hg
 have hodd:decide (((r.2%2).toNat:Int)=0)=false:=AK (by
  rw[UInt64.toNat_mod];show¬((r.2.toNat%2:Nat):Int)=0
  omega)
 obtain⟨res,hres⟩:∃res,EE r n=res:=⟨_,rfl⟩;rw[hres];have hlt:res.1.toNat<m.toNat:=by rw[<-hres];unfold EE;rw[hm];exact Kn m (by omega) _ _
 unfold EE at hres;rw[hm]at hres;refine Sp (nt:=40) (res:=[.tmp 4,.cell 5 182,.tmp 6]) Tryz.func198 λSf=>?_
 (repeat refine WF ?_);refine AWP.region ?_;refine Fj λB=>?_
 refine KO ?_;refine Ai λR=>?_;refine WO ?_
 refine FL ?_;have g1:decide ((n:Int)<1)=false:=AK (by omega)
 (iterate 9 refine WK ?_);refine AOps.gN ?_;refine AOps.go (h:=Kp (b:=2) (by decide) rfl rfl) (k:=?_);refine KK ?_
 refine AA rfl hodd ?_;refine RG ?_;refine WO ?_;refine AOps.gN ?_;refine AOps.p (FQ .i64 n rfl (by omega) (by kernel_rfl) (by kernel_rfl) rfl) rfl ?_;refine WO ?_;refine NL ?_;rw[hm];refine RG ?_;refine WO ?_;refine AOps.gN ?_;refine AOps.go (h:=Kp (a:=18446744073709551615) (b:=m) (by omega) rfl rfl) (k:=?_);refine AOps.gN ?_;refine AOps.p (Dz (b:=1) rfl rfl) rfl ?_;refine WO ?_;refine AOps.gN ?_;refine AOps.go (h:=Kp (b:=m) (by omega) rfl rfl) (k:=?_);refine WO ?_;refine NL ?_;refine FL ?_;refine DZ (λ(r':UInt64×UInt64) (k K:Nat)=>⟨[(2,.ptr B 0 0),(5,.ptr R 0 0),(7,uA m),(8,uA ((18446744073709551615%m+1)%m))],(R,.row 182 2 [HM (0,0)])::(B,.row 182 2 [HM r'])::Sf⟩) (λr' k K=>1<=k/\k<=K/\r'.2=r.2/\(r'.1.toNat+k*r'.2.toNat)%18446744073709551616=0/\Ed m K r'=res) (λ_ _ K=>K) r k0 18446744073709551616 ⟨hk1,hk2,rfl,hk3,hres⟩ ?_;rintro r' k K ⟨hk1,hk2,hr2,hk3,hres⟩;have hnx:=Ox r';obtain⟨K',rfl⟩:∃K',K=K'+1:=⟨K-1,by omega⟩;rw[Ed]at hres;(repeat refine WF ?_);refine R1 ?_;refine RG ?_;refine WO ?_;refine AOps.g_callf ?_;refine AOps.c1 (h:=(hnx ..)) (k:=?_);refine KO ?_;refine NL ?_;refine RG ?_;refine WO ?_;refine WO ?_;refine AOps.gN ?_;refine AOps.p (F9 (a:=18446744073709551615) rfl rfl) rfl ?_;refine WO ?_;refine NL ?_
 have hst:((Cq r').1.toNat+(k-1)*(Cq r').2.toNat)%18446744073709551616=0:=by
  have e:(Cq r').1.toNat=(r'.1.toNat+r'.2.toNat)%18446744073709551616:=UInt64.toNat_add ..;rw[e,show(Cq r').2=r'.2 from rfl];obtain⟨j,rfl⟩:∃j,k=j+1:=⟨k-1,by omega⟩;rw[Nat.add_mul,Nat.one_mul]at hk3;rw[Nat.add_sub_cancel];generalize j*r'.2.toNat=u at hk3⊢;omega
 refine AWP.cond rfl (λhc=>?_) (λhc=>?_)
 ·have hc:Dt (Cq r').1<=Vj m:=by
   rw[UInt64.le_iff_toNat_le];have:=of_decide_eq_true hc;exact Int.ofNat_le.1 this
  rw[if_pos hc]at hres;have hx:(Dt (Cq r').1%m).toNat<9223372036854775808:=by rw[show Dt (Cq r').1%m=res.1 from by rw[<-hres]];omega
  refine RU ?_;refine RK ?_;refine RK ?_;refine RGo.gN ?_;refine RGo.go (h:=Kp (b:=m) (by omega) rfl rfl) (k:=?_);refine RGo.gN ?_;refine RGo.go (h:=Pn .u64 hx (by kernel_rfl) (by kernel_rfl) rfl) (k:=?_);(iterate 4 refine RK ?_);refine RGo.nil (by kernel_rfl) ?_;refine RT ?_;subst hres;exact Br [iA (Dt (Cq r').1%m).toNat,HM (Cq r'),iA 0] [iA (Dt (Cq r').1%m).toNat,HM (Cq r'),iA 0] (.cons (.cell .same) (.cons (.agg (.cons .same (.cons .same .nil))) (.cons (.cell .same) .nil)))
 ·have hc:¬Dt (Cq r').1<=Vj m:=by
   rw[UInt64.le_iff_toNat_le];have:=of_decide_eq_false hc;exact λh=>this (Int.ofNat_le.2 h)
  rw[if_neg hc]at hres
  have hk:k≠1:=by
   intro e;subst e;apply hc
   have h0:(Cq r').1=0:=by
    apply UInt64.toNat_inj.1;have:=(Cq r').1.toNat_lt;simp at hst;show(Cq r').1.toNat=0
    omega
   rw[h0,RA,UInt64.le_iff_toNat_le];exact Nat.zero_le _
  refine KK ?_;refine CK (Cq r') (k-1) K' ⟨by omega,by omega,hr2,hst,hres⟩
def As(a:Arg):AV:=.agg [bA a.has,iA a.n,iA a.ref.kind,iA a.ref.field]
def opA(o:Op):AV:=.agg [iA o.act,iA o.to.kind,iA o.to.field,bA o.a.has,iA o.a.n,iA o.a.ref.kind,iA o.a.ref.field,bA o.b.has,iA o.b.n,iA o.b.ref.kind,iA o.b.ref.field]
abbrev UW(o:Bool)(l:List Op):AV:=.lst o 155 11 (l.map opA)
def CE(o:Bool)(s:Sys):AV:=.agg [sA s.name,AQ o s.wth,AQ o s.wout,AQ o s.reads,AQ o s.writes,UW o s.ops,Aw o false s.spawn]
abbrev Hg(o:Bool)(l:List Sys):AV:=.lst o 80 7 (l.map (CE false))
instance {a:Arg}:Frz (As a) (As a):=⟨rfl⟩
instance {o:Op}:Frz (opA o) (opA o):=⟨rfl⟩
instance {o:Bool}{s:Sys}:Frz (CE o s) (CE false s):=⟨by unfold CE;exact Frz.h⟩
theorem RO(l:List Int)(x:Int)(hl:l.length<=4611686018427387904):PS Tryz.prog 185 [AQ false l,iA x] (iA (EP l λy=>decide (x=y))):=by
 refine Sp (nt:=19) (res:=[.tmp 4]) Tryz.func185 λSf=>?_
 refine KK ?_;refine BB (λi:Nat=>⟨[(0,AQ false l),(1,iA x),(7,iA (l.map iA).length),(8,iA i)],Sf⟩) (λi=>i<=l.length/\∀j (h:j<l.length),j<i->(decide (x=l[j]))=false) (λi=>l.length-i) 0 ⟨Nat.zero_le _,λj h hj=>absurd hj (by omega)⟩ ?_;rintro i ⟨hi,he⟩;refine KK ?_;refine AWP.cond rfl (λhc=>?_) (λhc=>?_)
 ·have h:i<l.length:=by simpa using hc
  refine KK ?_;refine AWP.cond rfl (λhd=>?_) (λhd=>?_)
  ·refine KK ?_
   refine RT ?_;refine AN ?_;rw[El h hd λj hj=>he j (by omega) hj]
  ·refine KK ?_
   refine Ab (i+1) ⟨h,λj h1 h2=>?_⟩;by_cases e:j=i
   ·subst e;exact hd
   ·exact he j h1 (by omega)
 ·have h:¬i<l.length:=by simpa using hc
  refine KK ?_;refine RT ?_;refine AN ?_;rw[Em λj hj=>he j hj (by omega)]
theorem Bd(l:List Int)(x:Int)(hl:l.length<=4611686018427387904):PS Tryz.prog 135 [AQ false l,iA x] (bA (l.contains x)):=by
 refine Sp (nt:=9) (res:=[.tmp 4]) Tryz.func135 λSf=>?_
 refine KK ?_;refine AOps.g_callf ?_;refine AOps.c2 (h:=(RO l x hl)) (k:=?_);refine KK ?_;refine RT ?_;refine AN ?_
 have h2:decide ((0:Int)<=EP l λy=>decide (x=y))=l.contains x:=by
  rw[KC,List.contains_eq_any_beq]
  congr 1
 rw[<-h2]
def DS(d:Int):Bool:=decide (d>=0)&&decide (d<=7)
theorem Fq(d:Int):PS Tryz.prog 144 [iA d] (bA (DS d)):=by
 refine Sp (nt:=9) (res:=[.tmp 2]) Tryz.func144 λSf=>?_
 refine KK ?_;refine RT ?_;refine AN ?_;rfl
theorem IG(d:Int):PS Tryz.prog 191 [iA d] (bA (C4 d)):=by
 refine Sp (nt:=13) (res:=[.tmp 2]) Tryz.func191 λSf=>?_
 refine KK ?_;refine RT ?_;refine AN ?_;rfl
def Oz(r:Ref):AV:=.agg [iA r.kind,iA r.field]
theorem DA(ks:List Kind)(r:Ref)(h:H9 ks r):PS Tryz.prog 190 [Ae false false ks,Oz r] (bA true):=by
 obtain⟨h1,h2,h3,h4⟩:=h;obtain⟨rk,rf⟩:=r;dsimp only at h1 h2 h3 h4;obtain⟨i,hi⟩:∃i:Nat,rk=i:=⟨rk.toNat,by omega⟩;subst hi;have hil:i<ks.length:=by omega
 unfold LB at h4;rw[Int.toNat_natCast,AG hil]at h4;dsimp only at h4;obtain⟨⟨kn,fs⟩,hk⟩:∃k,ks[i]=k:=⟨_,rfl⟩;rw[hk]at h4;have hkm:(ks.map (Av false)).length=ks.length:=AB _;have hat:(ks.map (Av false))[i]?=some (Av false ⟨kn,fs⟩):=by rw[AF,AG hil,hk];rfl
 have g1:decide (((i:Nat):Int)>=0)=true:=Ah (by omega);have g2:decide (((i:Nat):Int)<(ks.map (Av false)).length)=true:=Ah (by omega);have g3:decide (rf>=0)=true:=Ah (by omega);have g4:decide (rf<(fs.map fieldA).length)=true:=Ah (by rw[AB];exact h4);refine Sp (nt:=32) (res:=[.tmp 4]) Tryz.func190 λSf=>?_
 refine RG ?_;refine WO ?_;refine Ai λX=>?_;refine WO ?_;refine NL ?_
 refine RU ?_;(iterate 28 refine RK ?_);refine RGo.nil (by kernel_rfl) ?_;refine FL ?_;refine RT ?_;refine AN ?_;rw[g4]
theorem VO(ks:List Kind)(l:List Int)(ho:l.Pairwise (· < ·))(hr:∀x∈l,0<=x/\x<ks.length)(hl:l.length<=1099511627776):PS Tryz.prog 132 [Ae false false ks,AQ false l] (iA 0):=by
 have hlm:(l.map iA).length=l.length:=AB _;have hkm:(ks.map (Av false)).length=ks.length:=AB _;refine Sp (nt:=34) (res:=[.tmp 4]) Tryz.func132 λSf=>?_
 refine KK ?_;refine BB (λi:Nat=>⟨[(0,Ae false false ks),(1,AQ false l),(7,AQ false l),(8,iA (l.map iA).length),(9,iA i)],Sf⟩) (λi=>i<=l.length) (λi=>l.length-i) 0 (Nat.zero_le _) ?_;rintro i hi;refine KK ?_;refine AWP.cond rfl (λhc=>?_) (λhc=>?_)
 ·have h:i<l.length:=by rw[AD,hlm]at hc;omega
  have hx:=hr _ (AY h);obtain⟨x,hxe⟩:∃x,l[i]=x:=⟨_,rfl⟩;rw[hxe]at hx;have hat:(l.map iA)[i]?=some (iA x):=by rw[AF,AG h,hxe];rfl
  have g1:decide (x<0)=false:=AK (by omega);have g2:decide (x>=(ks.map (Av false)).length)=false:=AK (by omega);refine KK ?_;refine AA rfl g2 ?_;by_cases h0:i=0
  ·subst h0
   have g3:decide (((0:Nat):Int)>0)=false:=by decide
   refine KK ?_;refine AA rfl rfl ?_;refine KK ?_;refine Ab 1 h
  ·have g3:decide (((i:Nat):Int)>0)=true:=Ah (by omega)
   have hlt:l[i-1]<x:=by rw[<-hxe];exact List.pairwise_iff_getElem.1 ho (i-1) i (by omega) h (by omega)
   have hat2:(l.map iA)[i-1]?=some (iA l[i-1]):=by rw[AF,AG (by omega)];rfl
   have g4:decide (l[i-1]>=x)=false:=AK (by omega)
   (iterate 11 refine WK ?_);refine AOps.gN ?_;refine AOps.go (h:=A7 ((i-1:Nat):Int) (by omega) (by omega) rfl rfl) (k:=?_);refine KK ?_
   refine AA rfl g4 ?_;refine KK ?_;refine Ab (i+1) h
 ·refine KK ?_
  refine RT ?_;refine AN ?_;rfl
theorem MJ(s:Sys)(x:Int)(hl:s.wout.length<=4611686018427387904):PS Tryz.prog 134 [iA x,.fp (CE false s).cells] (bA (s.wout.contains x)):=by
 have h:=Bd s.wout x hl;refine Sp (nt:=8) (res:=[.tmp 3]) Tryz.func134 λSf=>?_
 refine KK ?_;refine AOps.g_callf ?_;refine AOps.c2 (h:=(h ..)) (k:=?_);refine KK ?_;refine RT ?_;refine AN ?_;rfl
theorem MI(s:Sys)(x:Int)(hl:s.wth.length<=4611686018427387904):PS Tryz.prog 136 [iA x,.fp (CE false s).cells] (bA (!s.wth.contains x)):=by
 have h:=Bd s.wth x hl;refine Sp (nt:=9) (res:=[.tmp 3]) Tryz.func136 λSf=>?_
 refine KK ?_;refine AOps.g_callf ?_;refine AOps.c2 (h:=(h ..)) (k:=?_);refine KK ?_;refine RT ?_;refine AN ?_;rfl
structure Cmd where
 act:Int
 ent:Ent
 kind:Int
 comps:List Comp
def B5(c:Cmd):AV:=.agg [iA c.act,iA c.ent.n,iA c.ent.gen,iA c.kind,Aw false false c.comps]
instance {c:Cmd}:Frz (B5 c) (B5 c):=⟨by unfold B5;exact Frz.h⟩
def HG(cs:List Comp)(k:Int):List Int:=match Bp cs k with
 |some c=>c.vals
 |none=>[]
def H4(cs:List Comp)(a:Arg):Int:=if a.has then(HG cs a.ref.kind).getD a.ref.field.toNat 0 else a.n
def Dp(act a b:Int)(r:UInt64×UInt64):Int×(UInt64×UInt64):=
 if act=1 then(a+b,r)else if act=2 then(a-b,r)else if act=3 then(Q8 a b,r)else
 if act=4 then(if b<a then b else a,r)else if act=5 then(if a<b then b else a,r)else if act=6 then(if a<b then 1 else 0,r)else
 if act=7 then(if a<1 then(0,r)else(((EE r a.toNat).1.toNat:Int),(EE r a.toNat).2))else(a,r)
def NJ(cs:List Comp)(k:Int)(f:Nat)(v:Int):List Comp:=match Bp cs k with
 |some c=>cs.set (Cf cs k) ⟨c.kind,c.vals.set f v⟩
 |none=>cs
structure Rn where
 comps:List Comp
 r:UInt64×UInt64
 cmds:List Cmd
 evs:List Evt
def Ec(ks:List Kind)(r:Ref):Field:=match ks[r.kind.toNat]? with
 |some k=>k.fields.getD r.field.toNat ⟨[],0,0⟩
 |none=>⟨[],0,0⟩
def Kc(ks:List Kind)(k:Int):List Int:=match ks[k.toNat]? with
 |some x=>(BY x (List.replicate x.fields.length 0)).1
 |none=>[]
def doM(ks:List Kind)(s:Sys)(index:Int)(e:Ent)(o:Op)(st:Rn):Rn:=
 if DS o.act=true then
  ⟨NJ st.comps o.to.kind o.to.field.toNat (BT (Ec ks o.to) (Dp o.act (H4 st.comps o.a) (H4 st.comps o.b) st.r).1),(Dp o.act (H4 st.comps o.a) (H4 st.comps o.b) st.r).2,st.cmds,st.evs⟩
 else if H4 st.comps o.a=0 then st
 else if o.act=12 then⟨st.comps,st.r,st.cmds,st.evs++[⟨index,e,H4 st.comps o.b⟩]⟩
 else⟨st.comps,st.r,st.cmds++[if o.act=8 then⟨0,e,0,[⟨o.to.kind,Kc ks o.to.kind⟩]⟩else if o.act=9 then⟨1,e,o.to.kind,[]⟩else if o.act=10 then⟨2,e,0,[]⟩else⟨3,⟨0,0⟩,0,(CG ks s.spawn).1⟩],st.evs⟩
def Kz(ks:List Kind)(s:Sys)(e:Ent)(cv:AV)(r:UInt64×UInt64)(kv ev:AV)(index:Int):AV:=
 .agg [Ae false false ks,sA s.name,AQ false s.wth,AQ false s.wout,AQ false s.reads,AQ false s.writes,UW false s.ops,Aw false false s.spawn,iA e.n,iA e.gen,cv,uA r.1,uA r.2,kv,ev,iA index]
def Cg(ks:List Kind)(c:Cmd):List Comp×Int:=
 if c.act=0 then(if c.comps.length=1 then CG ks c.comps else([],3))else
 if c.act=1 then(if c.kind<0\/(ks.length:Int)<=c.kind then([],1)else([],0))else
 if c.act=2 then([],0)else if c.act=3 then CG ks c.comps else([],1)
def EI(ks:List Kind):List Cmd->Int
 |[]=>0
 |c::l=>if(Cg ks c).2=0 then EI ks l else(Cg ks c).2
def Kg(w:Wd)(l:List Cmd):Int:=if Cp w≠0 then Cp w else if 131072<l.length then 2 else EI w.kinds l
theorem I0{ks:List Kind}:∀{l:List Cmd},EI ks l=0↔∀c∈l,(Cg ks c).2=0
 |[]=>by simp[EI]
 |c::l=>by
  rw[EI];split
  ·rename_i h
   rw[I0,List.forall_mem_cons];exact⟨λg=>⟨h,g⟩,λg=>g.2⟩
  ·rename_i h
   rw[List.forall_mem_cons];exact⟨λg=>absurd g h,λg=>absurd g.1 h⟩
theorem cmdErr_iff{w:Wd}{l:List Cmd}:Kg w l=0↔WdOK w/\l.length<=131072/\∀c∈l,(Cg w.kinds c).2=0:=by
 unfold Kg;split
 ·rename_i h
  exact⟨λe=>absurd e h,λe=>absurd ((BG w).2 e.1) h⟩
 ·rename_i h
  have h:Cp w=0:=Decidable.not_not.1 h;split
  ·rename_i h2
   exact⟨λe=>(by cases e),λe=>(by omega)⟩
  ·rename_i h2
   rw[I0];exact⟨λe=>⟨(BG w).1 h,by omega,e⟩,λe=>e.2.2⟩
def EY(w v:Wd)(e:Int):Wd:=if e=0 then v else w
def Ee(w:Wd)(c:Cmd):Wd×Ent×Bool:=
 if c.act=0 then(EY w (Ct w c.ent (c.comps.getD 0 ⟨0,[]⟩)).1 (Ct w c.ent (c.comps.getD 0 ⟨0,[]⟩)).2,⟨0,0⟩,decide ((Ct w c.ent (c.comps.getD 0 ⟨0,[]⟩)).2=0))else
 if c.act=1 then(EY w (EX w c.ent c.kind).1 (EX w c.ent c.kind).2,⟨0,0⟩,decide ((EX w c.ent c.kind).2=0))else
 if c.act=2 then(EY w (Dw w c.ent).1 (Dw w c.ent).2,⟨0,0⟩,decide ((Dw w c.ent).2=0))else
 (EY w (Cz w c.comps).1 (Cz w c.comps).2.2,(Cz w c.comps).2.1,decide ((Cz w c.comps).2.2=0))
def DI:Wd->List Cmd->Wd×List Ent×List Bool
 |w,[]=>(w,[],[])
 |w,c::l=>((DI (Ee w c).1 l).1,(if(Ee w c).2.2=true/\c.act=3 then(Ee w c).2.1::(DI (Ee w c).1 l).2.1 else(DI (Ee w c).1 l).2.1),(Ee w c).2.2::(DI (Ee w c).1 l).2.2)
theorem IF{ks:List Kind}{c:Comp}(hk:Az ks=0)(h:(CG ks [c]).2=0):IC ks c:=by
 unfold CG at h;rw[if_neg (by simp[hk])]at h;split at h
 ·rename_i h1;exact absurd h h1
 ·rename_i h1
  have h1:(Cm ks [] [] [c]).2=0:=Decidable.not_not.1 h1;rw[Cm]at h1;split at h1
  ·cases h1
  ·rename_i g1
   rw[if_neg (by simp)]at h1;split at h1
   ·cases h1
   ·rename_i k hk2
    split at h1
    ·rename_i g2;exact absurd h1 g2
    ·rename_i g2
     exact⟨by omega,by omega,k,hk2,Decidable.not_not.1 g2⟩
theorem KM{ks:List Kind}:∀{l pre out:List Comp},(Cm ks pre out l).2=0->(∀a∈out,∃k,ks[a.kind.toNat]?=some k/\Bs k a.vals=true)->∀a∈(Cm ks pre out l).1,∃k,ks[a.kind.toNat]?=some k/\Bs k a.vals=true
 |[],pre,out,h,h1=>h1
 |c::l,pre,out,h,h1=>by
  rw[Cm]at h⊢;split at h
  ·cases h
  ·rename_i g1
   rw[if_neg g1];split at h
   ·cases h
   ·rename_i g2
    rw[if_neg g2];split at h
    ·cases h
    ·rename_i k hk
     split at h
     ·rename_i g3;exact absurd h g3
     ·rename_i g3
      (try simp only[hk])
      rw[if_neg g3];refine KM h λa ha=>?_
      rcases List.mem_append.1 ha with ha|ha
      ·exact h1 a ha
      ·rw[List.mem_singleton.1 ha]
       exact⟨k,hk,(Dj (Decidable.not_not.1 g3)).1⟩
theorem GM{ks:List Kind}{l:List Comp}(h:(CG ks l).2=0):BJ ks (CG ks l).1=true:=by
 unfold CG at h⊢;split at h
 ·rename_i h1;exact absurd h h1
 ·rename_i h1
  rw[if_neg h1];split at h
  ·rename_i h2;exact absurd h h2
  ·rename_i h2
   rw[if_neg h2];have h2:(Cm ks [] [] l).2=0:=Decidable.not_not.1 h2;obtain⟨p1,p2⟩:=KL h2 (λ_ h=>by cases h) .nil (λ_ h=>by cases h);have p3:=KM h2 (λ_ h=>by cases h);refine held_iff.2 ⟨Mc p1,λc hc=>?_⟩;have hc:=(Ft _).mem_iff.1 hc;exact⟨(p2 c hc).1,(p2 c hc).2,p3 c hc⟩
theorem Mp{w:Wd}(hw:WdOK w){c:Cmd}(hc:(Cg w.kinds c).2=0):WdOK (Ee w c).1/\(Ee w c).1.kinds=w.kinds:=by
 have hs:∀v e,(e=0->WdOK v/\v.kinds=w.kinds)->WdOK (EY w v e)/\(EY w v e).kinds=w.kinds:=λv e h=>by
  unfold EY;split
  ·rename_i h1;exact h h1
  ·exact⟨hw,rfl⟩
 have hf:∀e,(CD w.items e<0)\/∃(i:Nat) (it:Item),w.items[i]?=some it/\it.ent=e:=λe=>by
  by_cases hlt:CD w.items e<0
  ·exact .inl hlt
  ·obtain⟨m,hm⟩:∃m:Nat,CD w.items e=m:=⟨(CD w.items e).toNat,by omega⟩
   obtain⟨x,hx,_,rfl⟩:=Ex hm;exact .inr ⟨m,x,hx,rfl⟩
 unfold Ee;unfold Cg at hc;split
 ·rename_i h1
  rw[if_pos h1]at hc;split at hc
  ·rename_i h2
   obtain⟨d,hd⟩:=List.length_eq_one_iff.1 h2;rw[hd]at hc⊢;refine hs _ _ λhe=>?_
   rcases hf c.ent with h|⟨i,it,hi,rfl'⟩
   ·exfalso
    replace he:(Ct w c.ent d).2=0:=he;unfold Ct at he;rw[if_neg (by simp[(BG w).2 hw]),if_pos h]at he;cases he
   ·rw[<-rfl']
    have hfo:=IF hw.ks hc;show WdOK (Ct w it.ent d).1/\(Ct w it.ent d).1.kinds=_
    rw[NU hw hi hfo];exact⟨SN hw hi hfo,rfl⟩
  ·cases hc
 ·rename_i h1
  rw[if_neg h1]at hc;split
  ·rename_i h2
   refine hs _ _ λhe=>?_
   rcases hf c.ent with h|⟨i,it,hi,rfl'⟩
   ·exfalso
    unfold EX at he;rw[if_neg (by simp[(BG w).2 hw]),if_pos h]at he;cases he
   ·rw[<-rfl']at he⊢
    rw[Ie hw hi]at he⊢;split at he
    ·rename_i h3
     rw[if_pos h3];exact⟨HI hw hi (Ll (hw.it it (Ao hi)).2.2.2.2),rfl⟩
    ·cases he
  ·rename_i h2
   rw[if_neg h2]at hc;split
   ·rename_i h3
    refine hs _ _ λhe=>?_
    rcases hf c.ent with h|⟨i,it,hi,rfl'⟩
    ·exfalso
     unfold Dw at he;rw[if_neg (by simp[(BG w).2 hw]),if_pos h]at he;cases he
    ·rw[<-rfl']at he⊢
     rw[IR hw hi];exact⟨QG hw hi,rfl⟩
   ·rename_i h3
    rw[if_neg h3]at hc;split at hc
    ·refine hs _ _ λhe=>?_
     obtain⟨cs,hcs⟩:∃cs,CG w.kinds c.comps=(cs,0):=⟨(CG w.kinds c.comps).1,Prod.ext rfl hc⟩;have hh:=GM hc;rw[hcs]at hh;cases hfr:(Bf w).2 with
     |true=>
      rw[Jb hw hfr hcs];exact⟨Ja hw hfr hh,rfl⟩
     |false=>
      exfalso;unfold Cz at he;rw[if_neg (by simp[(BG w).2 hw]),if_neg (by simp[hc]),if_pos hfr]at he;cases he
    ·cases hc
theorem P6:∀{l:List Cmd} {w:Wd},WdOK w->(∀c∈l,(Cg w.kinds c).2=0)->WdOK (DI w l).1/\(DI w l).1.kinds=w.kinds
 |[],w,hw,_=>⟨hw,rfl⟩
 |c::l,w,hw,hc=>by
  obtain⟨h1,h2⟩:=Mp hw (hc c (by simp));obtain⟨h3,h4⟩:=P6 (l:=l) h1 λd hd=>by rw[h2];exact hc d (by simp[hd])
  exact⟨h3,h4.trans h2⟩
end Go.Proofs.YtoohajbhpbjpcaaGreat
