/-
  Part 4 of the texts under the law WorldOwn: the layer of abstract values, walks and plain laws. Conditions: those that each theorem names.
-/
import Derived.WalkKit
import Derived.Lib.Hide
import Derived.Deep.OwnRows
import Derived.Deep.Draws
import Derived.Test.YtmkahplhnbbgmaaGreatChecked
import Derived.ProofKit
import Derived.OpenShut
import Derived.ShutString
import Derived.ChangeOld
import Derived.Below
import Derived.SizedLaws
import Derived.Deep.Slices
import Derived.Deep.Fields
import Derived.ChangeSame
import Derived.Test.YtmkahplhnbbgmaaGreatProg
import Derived.Test.YtmkahplhnbbgmaaGreatWorldOwnP3
namespace Go.Proofs.YtmkahplhnbbgmaaGreat
open Tryz
set_option linter.unusedVariables false
set_option linter.unusedSimpArgs false
set_option linter.defProp false
set_option maxRecDepth 10000
set_option maxHeartbeats 4000000
variable {α:Type}
variable {ks:List Int}
variable {n:Int}
variable {i:Nat}
variable {vals:List Int}
variable {l:List Int}
structure Field where
 name:List UInt8
 bits:Int
 low:Int
structure Kind where
 name:List UInt8
 fields:List Field
structure Ent where
 n:Int
 gen:Int
structure Comp where
 kind:Int
 vals:List Int
structure Item where
 ent:Ent
 comps:List Comp
structure Wd where
 kinds:List Kind
 gens:List Int
 items:List Item
structure Ref where
 kind:Int
 field:Int
structure Arg where
 has:Bool
 n:Int
 ref:Ref
structure Op where
 act:Int
 to:Ref
 a:Arg
 b:Arg
instance:DecidableEq Field:=λa b=>decidable_of_iff (a.name=b.name/\a.bits=b.bits/\a.low=b.low) (by cases a;cases b;simp)
instance:DecidableEq Kind:=λa b=>decidable_of_iff (a.name=b.name/\a.fields=b.fields) (by cases a;cases b;simp)
instance:DecidableEq Ent:=λa b=>decidable_of_iff (a.n=b.n/\a.gen=b.gen) (by cases a;cases b;simp)
instance:Inhabited Ent:=⟨⟨default,default⟩⟩
instance:DecidableEq Comp:=λa b=>decidable_of_iff (a.kind=b.kind/\a.vals=b.vals) (by cases a;cases b;simp)
instance:Inhabited Comp:=⟨⟨default,default⟩⟩
instance:DecidableEq Item:=λa b=>decidable_of_iff (a.ent=b.ent/\a.comps=b.comps) (by cases a;cases b;simp)
instance:Inhabited Item:=⟨⟨default,default⟩⟩
instance:DecidableEq Wd:=λa b=>decidable_of_iff (a.kinds=b.kinds/\a.gens=b.gens/\a.items=b.items) (by cases a;cases b;simp)
def I64(x:Int):Prop:=-9223372036854775808<=x/\x<=9223372036854775807
section
open Go.RowKit
abbrev Reg:=Nat->Prop
def Lt(w:World):Reg:=λb=>b<w.heap.size
section
variable {w w' w'':World}{S T:Reg}
theorem bel{n m:Nat}{a b c:World}(h:Below n a b)(k:Below m b c)(hm:n<=m):Below n a c:=h.trans (k.mono hm)
def Row(w:World)(S:Reg)(sz:Nat)(v:Value)(n:Nat)(xs:List Value):Prop:=
 xs.length=n*sz/\∃A cap,v= .slice A n cap/\n<=cap/\(0<n->∃b off,A=some ⟨b,off,none⟩/\S b/\∀j u,xs[j]?=some u->w.cell? ⟨b,off+j,none⟩=some u)
variable {sz n:Nat}{v:Value}{xs:List Value}
theorem Row.nil(w:World)(S:Reg)(sz:Nat):Row w S sz (.slice none 0 0) 0 []:=⟨by simp,none,0,rfl,AP _,λh=>absurd h (by omega)⟩
end
def Cells{α:Type}(C:List Value->α->Prop)(sz:Nat):List Value->List α->Prop
 |xs,[]=>xs=[]
 |xs,x::l=>∃c ys,xs=c++ys/\c.length=sz/\C c x/\Cells C sz ys l
section
variable {α:Type}{C C':List Value->α->Prop}{sz:Nat}{xs ys:List Value}{l m:List α}
theorem Cells.nil:Cells C sz [] []:=rfl
theorem Cells.length(h:Cells C sz xs l):xs.length=l.length*sz:=by
 induction l generalizing xs with
 |nil=>have:xs=[]:=h;simp[this]
 |cons x l ih=>
  obtain⟨c,ys,rfl,h1,_,h3⟩:=h;simp[ih h3,h1,CW,Nat.add_comm]
end
def Sl{α:Type}(w:World)(S:Reg)(sz:Nat)(C:World->Reg->List Value->α->Prop)(v:Value)(l:List α):Prop:=
 ∃xs,Row w S sz v l.length xs/\Cells (C w S) sz xs l
section
variable {α:Type}{w w':World}{S T:Reg}{sz:Nat}{C:World->Reg->List Value->α->Prop}{v:Value}{l:List α}
theorem Sl.nil(w:World)(S:Reg)(sz:Nat)(C:World->Reg->List Value->α->Prop):Sl w S sz C (.slice none 0 0) []:=⟨[],Row.nil w S sz,.nil⟩
end
abbrev Vv(l:List UInt8):Value:=.string ⟨l.toArray⟩
def WR(_:World)(_:Reg)(c:List Value)(x:Int):Prop:=c=[.int .i64 x]
def VW(_:World)(_:Reg)(c:List Value)(f:Field):Prop:=c=[Vv f.name,.int .i64 f.bits,.int .i64 f.low]
abbrev Ul(w:World)(S:Reg)(v:Value)(l:List Int):Prop:=Sl w S 1 WR v l
abbrev Fields(w:World)(S:Reg)(v:Value)(l:List Field):Prop:=Sl w S 3 VW v l
def V5(w:World)(S:Reg)(c:List Value)(k:Kind):Prop:=∃vf,c=[Vv k.name,vf]/\Fields w S vf k.fields
abbrev WV(w:World)(S:Reg)(v:Value)(l:List Kind):Prop:=Sl w S 2 V5 v l
section
variable {w w':World}{S T:Reg}{v:Value}
variable {A:Option Addr}{n cap i:Nat}
end
section
variable {α:Type}{w w':World}{base:Nat}{e:TypeId}{S T:Reg}{sz:Nat}{C:World->Reg->List Value->α->Prop}{v:Value}{l:List α}
end
section
variable {w w':World}{b:Nat}{e:TypeId}{l:List Int}
end
section
variable {w w':World}{g:Nat}{t:TypeId}{cs:Array Value}
end
end
section
open Go.ChangeShapes Go.WideShapes Go.ChangeAt Go.RowKit Go.Deep
theorem Vp{x:Int}(h:(Lit.int .i64 x).wf=true):I64 x:=by
 have:=h;simp[Lit.wf,IntKind.min,IntKind.max,IntKind.signed,IntKind.bits]at this;unfold I64;omega
theorem UM{sz:Nat}{cs:α->List Value}{f:Nat->Option Value}(hcs:∀x,(cs x).length=sz):∀(l:List α) (off:Nat),(∀i (hi:i<l.length) j u,(cs l[i])[j]?=some u->f (off+(i*sz+j))=some u)->
  ∀j u,(l.flatMap cs)[j]?=some u->f (off+j)=some u:=by
 intro l
 induction l with
 |nil=>intro off _ j u h;simp at h
 |cons x l ih=>
  intro off h j u hj;rw[Bo]at hj;rcases Ga j sz with hlt|hge
  ·rw[B5 (by rw[hcs];exact hlt)]at hj
   have:=h 0 (by simp) j u hj;simpa using this
  ·rw[BK (by rw[hcs];exact hge),hcs]at hj
   have:=ih (off+sz) (λi hi j u hu=>by
    have:=h (i+1) (by simp;omega) j u hu;rwa[CW,Nat.one_mul,show off+(i*sz+sz+j)=off+sz+(i*sz+j) by omega]at this) (j-sz) u hj
   rwa[show off+sz+(j-sz)=off+j by omega]at this
theorem LS{sz:Nat}{cs:α->List Value}{C:List Value->α->Prop}(hcs:∀x,(cs x).length=sz)(hC:∀x,C (cs x) x)(l:List α):Cells C sz (l.flatMap cs) l:=by
 induction l with
 |nil=>rfl
 |cons x l ih=>exact⟨cs x,l.flatMap cs,by rw[Bo],hcs x,hC x,ih⟩
theorem N8{w:World}{sz:Nat}{C:World->Reg->List Value->α->Prop}{a:Addr}{n cap:Nat}{l:List α}{cs:α->List Value}(hn:n<=cap)(hl:l.length=n)(hsz:0<sz)(hcs:∀x,(cs x).length=sz)(hC:∀x,C w (Lt w) (cs x) x)
  (hcell:∀i (hi:i<l.length) j u,(cs l[i])[j]?=some u->w.cell? (a.add (i*sz+j))=some u):Sl w (Lt w) sz C (.slice (some a) n cap) l:=by
 subst hl;refine⟨l.flatMap cs,⟨?_,some a,cap,rfl,hn,λh0=>?_⟩,LS hcs hC l⟩
 ·have:=(LS (C:=λ_ _=>True) hcs (λ_=>C9) l).length
  exact this
 ·obtain⟨b,off,spot⟩:=a
  have h1:∃u,(cs l[0])[0]?=some u:=⟨_,Ag (by rw[hcs];exact hsz)⟩;obtain⟨u,hu⟩:=h1;have h2:=hcell 0 h0 0 u hu;have hspot:spot=none:=by simpa[Addr.add]using World.cell?_spot h2
  subst hspot;refine⟨b,off,rfl,?_,?_⟩
  ·rw[Go.WideShapes.add_plain]at h2
   unfold World.cell? at h2;simp only at h2;show b<w.heap.size
   rcases Ga b w.heap.size with h|h
   ·exact h
   ·rw[Array.getElem?_eq_none h]at h2
    cases h2
  ·refine UM (f:=λk=>w.cell? ⟨b,k,none⟩) hcs l off λi hi j u hu=>?_
   have:=hcell i hi j u hu;rwa[Go.WideShapes.add_plain]at this
section
variable {H:Type}{enc:TypeId×Value->H}{w:World}{a:Option Addr}{len cap:Nat}{d:DataW H}{p:List MemPlace}
theorem V6(h:DataW.Trod enc prog w 0 (λ_=>true) true 22 (.slice a len cap) d p):
  ∃z:List Int,Ul w (Lt w) (.slice a len cap) z/\(z=[]\/∃elems spare,d= .slice elems spare/\z.length<=elems.length+spare.length):=by
 obtain⟨fuel,hf⟩:=h;rcases open_slice underlying22 hf with⟨hcs,_⟩|⟨x,l,c,m,n,D,Pl,hcs,hb,hl,hm,hmm,hx,hi⟩
 ·simp[Value.cells]at hcs
  obtain⟨rfl,rfl,rfl⟩:=hcs;exact⟨[],Sl.nil _ _ _ _,.inl rfl⟩
 ·simp[Value.cells]at hcs
  obtain⟨rfl,rfl,rfl⟩:=hcs;have hlm:len<=m:=by rw[hmm];split<;>omega
  have hex:∀i,∃e:Int,i<len->∀j u,([Value.int .i64 e])[j]?=some u->w.cell? (x.add (i*1+j))=some u:=by
   intro i;by_cases hil:i<len
   ·obtain⟨cs',hc,ht⟩:=hi i (by omega)
    rw[show prog.cellsOf 3=1 from by kernel_rfl]at hc;obtain⟨_,hcl,hat⟩:=World.cells?_some hc;obtain⟨k,rfl,_⟩:=DataW.trod_int underlying3 ht;refine⟨k,λ_ j u hu=>?_⟩
    have hj:j=0:=by
     have:=(AC.1 hu).1;simp at this;omega
    subst hj;have:=hat 0 (by omega);rw[Go.Deep.add_add]at this;rw[this,hu]
   ·exact⟨0,λh=>absurd h hil⟩
  obtain⟨f,hf'⟩:=Classical.axiomOfChoice hex;refine⟨(List.range len).map f,N8 (cs:=λe=>[Value.int .i64 e]) hl (by simp) (by omega) (λ_=>rfl) (λ_=>rfl) (λi hi' j u hu=>?_),.inr ⟨_,_,(Prod.mk.inj hx).1,by simp⟩⟩;simp only[AD,WY]at hi';exact hf' i hi' j u (by simpa using hu)
end
end
section
def ixG(ks:List Int):Int->Option Value:=λn=>if n∈ks then some (.int .i64 (ks.idxOf n:Nat))else none
variable {α:Type}
abbrev BB(l:List (Int×α)):List Int:=l.map (·.1)
def DA(l:List (Int×α))(n:Int)(v:α):List (Int×α):=if n∈BB l then l.set ((BB l).idxOf n) (n,v)else l++[(n,v)]
def FE(l:List (Int×α))(n:Int):Option α:=(l[(BB l).idxOf n]?).map (·.2)
structure ColOK(l:List (Int×α)):Prop where
 nd:(BB l).Nodup
 lt:∀n∈BB l,0<=n/\n<256
theorem OJ(h:ks.Nodup)(hl:∀n∈ks,0<=n/\n<256):ks.length<=256:=by
 have h1:(ks.map Int.toNat).Nodup:=by
  refine Qf.2 (h.imp_of_mem λha hb hne e=>hne ?_);have:=hl _ ha;have:=hl _ hb;omega
 have h2:(ks.map Int.toNat)⊆List.range 256:=λx hx=>by
  obtain⟨n,hn,rfl⟩:=BH.1 hx;have:=hl n hn;rw[Ck];omega
 have:=Rm h1 h2;simpa using this
theorem ColOK.len{l:List (Int×α)}(h:ColOK l):l.length<=256:=by
 have:=OJ h.nd h.lt;simpa using this
theorem JO{l:List (Int×α)}(h:n∈BB l):(BB l).idxOf n<l.length:=by
 have:=List.idxOf_lt_length_of_mem h;simpa using this
theorem IL{l:List (Int×α)}(h:n∈BB l):∃v,l[(BB l).idxOf n]?=some (n,v):=by
 have h1:=JO h;have h2:=List.getElem_idxOf (xs:=BB l) (x:=n) (by simpa using h1);rw[Eb]at h2;refine⟨(l[(BB l).idxOf n]).2,?_⟩;rw[Ag h1]
 congr 1
 exact Prod.ext h2 rfl
theorem ID{l:List (Int×α)}(h:n∉BB l):FE l n=none:=by
 unfold FE;rw[Bk]
 ·rfl
 ·rw[List.idxOf_eq_length h];simp
theorem HZ{l:List (Int×α)}(h:ColOK l){v:α}:FE l n=some v↔(n,v)∈l:=by
 constructor
 ·intro e
  have hn:n∈BB l:=VE λhn=>by rw[ID hn]at e;cases e
  obtain⟨u,hu⟩:=IL hn;unfold FE at e;rw[hu]at e;injection e with e
  simp only at e;subst e;exact Bc hu
 ·intro hm
  have hn:n∈BB l:=BH.2 ⟨_,hm,rfl⟩;obtain⟨i,hi,e⟩:=B4 hm
  have h1:(BB l).idxOf n=i:=by
   have h2:(BB l)[i]'(by simpa using hi)=n:=by rw[Eb,e]
   rw[<-h2];exact h.nd.idxOf_getElem i _
  unfold FE;rw[h1,Ag hi,e];rfl
theorem PP{l:List (Int×α)}(h:n∈BB l):∃v,FE l n=some v:=by
 obtain⟨u,hu⟩:=IL h;exact⟨u,by unfold FE;rw[hu];rfl⟩
theorem D6{l:List (Int×α)}{v:α}(h:n∉BB l):DA l n v=l++[(n,v)]:=Ah h
theorem Fg{l:List (Int×α)}{v:α}(h:n∈BB l):DA l n v=l.set ((BB l).idxOf n) (n,v):=A1 h
theorem Gg{l:List (Int×α)}{v:α}(h:n∈BB l):BB (DA l n v)=BB l:=by
 rw[Fg h,BB,A8];obtain⟨u,hu⟩:=IL h;have h1:=JO h;refine CO (by simp) λi h2 h3=>?_
 rw[List.getElem_set];split
 ·rename_i e
  subst e;have:=List.getElem_idxOf (xs:=BB l) (x:=n) (by simpa using h1);exact this.symm
 ·rfl
theorem ColOK.put{l:List (Int×α)}(h:ColOK l)(hn:0<=n/\n<256)(v:α):ColOK (DA l n v):=by
 by_cases hk:n∈BB l
 ·refine⟨by rw[Gg hk];exact h.nd,λm hm=>h.lt m (by rwa[Gg hk]at hm)⟩
 ·rw[D6 hk]
  refine⟨?_,λm hm=>?_⟩
  ·rw[BB,AJ]
   refine AL.2 ⟨h.nd,by simp,λa ha b hb e=>?_⟩;simp only[AR,Bj,DO]at hb;subst hb e;exact hk ha
  ·rw[BB,AJ]at hm
   rcases AN.1 hm with hm|hm
   ·exact h.lt m hm
   ·simp only[AR,Bj,DO]at hm
    subst hm;exact hn
theorem JI{l:List (Int×α)}(h:ColOK l){v:α}{m:Int}{u:α}:(m,u)∈DA l n v↔(m=n/\u=v)\/(m≠n/\(m,u)∈l):=by
 by_cases hk:n∈BB l
 ·obtain⟨w,hw⟩:=IL hk
  have h1:=JO hk;rw[Fg hk];constructor
  ·intro hm
   obtain⟨i,hi,e⟩:=B4 hm;rw[List.getElem_set]at e;split at e
   ·injection e with e1 e2
    exact .inl ⟨e1.symm,e2.symm⟩
   ·rename_i hne
    refine .inr ⟨λe2=>hne ?_,e▸BG _⟩;have hi':i<l.length:=by simpa using hi
    have h2:(BB l)[i]'(by simpa using hi')=n:=by rw[Eb,e,e2]
    rw[<-h2];exact h.nd.idxOf_getElem i _
  ·rintro(⟨rfl,rfl⟩|⟨hne,hm⟩)
   ·exact Bc (i:=(BB l).idxOf m) (by rw[BF h1])
   ·obtain⟨i,hi,e⟩:=B4 hm
    refine Bc (i:=i) ?_;rw[FC,Ag hi,e];intro e2;have h3:l[i]?=some (m,u):=by rw[Ag hi,e]
    rw[<-e2,hw]at h3;injection h3 with h3
    injection h3 with h3 _
    exact hne h3.symm
 ·rw[D6 hk,FH,DO]
  constructor
  ·rintro(hm|e)
   ·exact .inr ⟨λe=>hk (by subst e;exact BH.2 ⟨_,hm,rfl⟩),hm⟩
   ·injection e with e1 e2
    exact .inl ⟨e1,e2⟩
  ·rintro(⟨rfl,rfl⟩|⟨_,hm⟩)
   ·exact .inr rfl
   ·exact .inl hm
theorem MX{l:List (Int×α)}(h:ColOK l)(hn:0<=n/\n<256){v:α}{m:Int}:FE (DA l n v) m=if m=n then some v else FE l m:=by
 split
 ·rename_i e
  subst e;exact(HZ (h.put hn v)).2 ((JI h).2 (.inl ⟨rfl,rfl⟩))
 ·rename_i hne
  cases hg:FE l m with
  |some w=>exact(HZ (h.put hn v)).2 ((JI h).2 (.inr ⟨hne,(HZ h).1 hg⟩))
  |none=>
   refine ID λhm=>?_
   obtain⟨⟨m',w⟩,hw,rfl⟩:=BH.1 hm;rcases(JI h).1 hw with⟨e,_⟩|⟨_,hw⟩
   ·exact hne e
   ·rw[(HZ h).2 hw]at hg
    cases hg
theorem Hh(h:n∈ks):ixG ks n=some (.int .i64 (ks.idxOf n:Nat)):=A1 h
theorem NW(h:n∉ks):ixG ks n=none:=Ah h
theorem QU(h:n∉ks):Hw (ixG ks) n (.int .i64 (ks.length:Nat))=ixG (ks++[n]):=by
 funext m
 unfold Hw;split
 ·rename_i e
  subst e;rw[Hh (by simp),List.idxOf_append,Ah h];simp
 ·rename_i hne
  by_cases hm:m∈ks
  ·rw[Hh hm,Hh (by simp[hm]),List.idxOf_append,A1 hm]
  ·rw[NW hm,NW (by simp[hm,hne])]
structure StK where
 X:Nat
 V:Nat
 R:Nat
 M:Nat
end
instance:TAg prog 3 false:={}
instance:TSize prog 3 1:={}
instance:TZe prog 3 [.int .i64 0]:={}
instance:TBy prog 3 8:={}
instance:TAg prog 4 false:={}
instance:TSize prog 4 1:={}
instance:TZe prog 4 [.bool false]:={}
instance:TBy prog 4 1:={}
instance:TAg prog 9 false:={}
instance:TSize prog 9 1:={}
instance:TZe prog 9 [.string ByteArray.empty]:={}
instance:TSg prog 9:={}
instance:TAg prog 22 false:={}
instance:TSize prog 22 1:={}
instance:TZe prog 22 [.slice none 0 0]:={}
instance:TEl prog 22 3:={}
instance:TRo prog 22 3 1 8:={}
instance:TAg prog 23 false:={}
instance:TSize prog 23 1:={}
instance:TEl prog 23 90:={}
instance:TRo prog 23 90 2 40:={}
instance:TAg prog 24 false:={}
instance:TSize prog 24 1:={}
instance:TEl prog 24 83:={}
instance:TRo prog 24 83 3 40:={}
instance:TAg prog 26 true:={}
instance:TSize prog 26 3:={}
instance:TZe prog 26 [.slice none 0 0,.slice none 0 0,.slice none 0 0]:={}
instance:TFl prog 26 0 0 23:={}
instance:TFl prog 26 1 1 22:={}
instance:TFl prog 26 2 2 24:={}
instance:TSt prog 26 [.slice none 0 0,.slice none 0 0,.slice none 0 0] [(0,1),(1,1),(2,1)]:={}
instance:TAg prog 32 true:={}
instance:TSize prog 32 2:={}
instance:TZe prog 32 [.int .i64 0,.int .i64 0]:={}
instance:TFl prog 32 0 0 3:={}
instance:TFl prog 32 1 1 3:={}
instance:TSt prog 32 [.int .i64 0,.int .i64 0] [(0,1),(1,1)]:={}
instance:TAg prog 42 true:={}
instance:TSize prog 42 2:={}
instance:TZe prog 42 [.int .i64 0,.slice none 0 0]:={}
instance:TBy prog 42 32:={}
instance:TFl prog 42 0 0 3:={}
instance:TFl prog 42 1 1 22:={}
instance:TSt prog 42 [.int .i64 0,.slice none 0 0] [(0,1),(1,1)]:={}
instance:TFl prog 77 0 0 22:={}
instance:TSt prog 77 [.slice none 0 0] [(0,1)]:={}
instance:TAg prog 80 false:={}
instance:TSize prog 80 1:={}
instance:TEl prog 80 42:={}
instance:TRo prog 80 42 2 32:={}
instance:TAg prog 83 true:={}
instance:TSize prog 83 3:={}
instance:TZe prog 83 [.int .i64 0,.int .i64 0,.slice none 0 0]:={}
instance:TBy prog 83 40:={}
instance:TFl prog 83 0 0 32:={}
instance:TFl prog 83 1 2 80:={}
instance:TSt prog 83 [.int .i64 0,.int .i64 0,.slice none 0 0] [(0,2),(2,1)]:={}
instance:TAg prog 88 false:={}
instance:TSize prog 88 1:={}
instance:TEl prog 88 92:={}
instance:TRo prog 88 92 3 32:={}
instance:TAg prog 90 true:={}
instance:TSize prog 90 2:={}
instance:TZe prog 90 [.string ByteArray.empty,.slice none 0 0]:={}
instance:TBy prog 90 40:={}
instance:TFl prog 90 0 0 9:={}
instance:TFl prog 90 1 1 88:={}
instance:TSt prog 90 [.string ByteArray.empty,.slice none 0 0] [(0,1),(1,1)]:={}
instance:TAg prog 92 true:={}
instance:TSize prog 92 3:={}
instance:TZe prog 92 [.string ByteArray.empty,.int .i64 0,.int .i64 0]:={}
instance:TFl prog 92 0 0 9:={}
instance:TFl prog 92 1 1 3:={}
instance:TFl prog 92 2 2 3:={}
instance:TSt prog 92 [.string ByteArray.empty,.int .i64 0,.int .i64 0] [(0,1),(1,1),(2,1)]:={}
instance:TAg prog 112 false:={}
instance:TSize prog 112 1:={}
instance:TAg prog 113 false:={}
instance:TSize prog 113 1:={}
instance:TEl prog 113 117:={}
instance:TRo prog 113 117 1 8:={}
instance:TFl prog 115 0 0 23:={}
instance:TFl prog 115 1 1 22:={}
instance:TFl prog 115 2 2 113:={}
instance:TFl prog 115 3 3 112:={}
instance:TSt prog 115 [.slice none 0 0,.slice none 0 0,.slice none 0 0,.map none] [(0,1),(1,1),(2,1),(3,1)]:={}
instance:TAg prog 117 false:={}
instance:TSize prog 117 1:={}
instance:TZe prog 117 [.pointer none]:={}
instance:TAg prog 120 false:={}
instance:TSize prog 120 1:={}
instance:TAg prog 121 false:={}
instance:TSize prog 121 1:={}
instance:TEl prog 121 209:={}
instance:TRo prog 121 209 1 8:={}
instance:TFl prog 123 0 0 22:={}
instance:TFl prog 123 1 1 120:={}
instance:TFl prog 123 2 2 121:={}
instance:TSt prog 123 [.slice none 0 0,.pointer none,.slice none 0 0] [(0,1),(1,1),(2,1)]:={}
instance:TEl prog 186 9:={}
instance:TEl prog 197 4:={}
instance:TAg prog 209 false:={}
instance:TSize prog 209 1:={}
instance:TZe prog 209 [.pointer none]:={}
instance:TAg prog 214 false:={}
instance:TSize prog 214 1:={}
instance:TZe prog 214 [.slice none 0 0]:={}
instance:TEl prog 214 32:={}
instance:TRo prog 214 32 2 16:={}
instance:TAg prog 215 false:={}
instance:TSize prog 215 1:={}
instance:TFl prog 217 0 0 214:={}
instance:TFl prog 217 1 1 22:={}
instance:TFl prog 217 2 2 215:={}
instance:TSt prog 217 [.slice none 0 0,.slice none 0 0,.map none] [(0,1),(1,1),(2,1)]:={}
instance:TAg prog 274 false:={}
instance:TSize prog 274 1:={}
instance:TEl prog 274 22:={}
instance:TRo prog 274 22 1 24:={}
instance:TFl prog 276 0 0 274:={}
instance:TFl prog 276 1 1 22:={}
instance:TFl prog 276 2 2 215:={}
instance:TSt prog 276 [.slice none 0 0,.slice none 0 0,.map none] [(0,1),(1,1),(2,1)]:={}
instance:TAg prog 331 false:={}
instance:TSize prog 331 1:={}
instance:TZe prog 331 [.int .u64 0]:={}
abbrev iA(n:Int):AV:=.prim (.int .i64 n)
abbrev bA(b:Bool):AV:=.prim (.bool b)
abbrev sA(l:List UInt8):AV:=.prim (EQ l)
def fieldA(f:Field):AV:=.agg [sA f.name,iA f.bits,iA f.low]
abbrev FB(o:Bool)(l:List Field):AV:=.lst o 92 3 (l.map fieldA)
def A3(o:Bool)(k:Kind):AV:=.agg [sA k.name,FB o k.fields]
abbrev Bz(o o':Bool)(l:List Kind):AV:=.lst o 90 2 (l.map (A3 o'))
abbrev BU(o:Bool)(l:List Int):AV:=.lst o 3 1 (l.map iA)
instance {f:Field}:Frz (fieldA f) (fieldA f):=⟨rfl⟩
instance {o:Bool}{k:Kind}:Frz (A3 o k) (A3 false k):=⟨by unfold A3;exact Frz.h⟩
def AT(o:Bool)(c:Comp):AV:=.agg [iA c.kind,BU o c.vals]
abbrev Bp(o o':Bool)(l:List Comp):AV:=.lst o 42 2 (l.map (AT o'))
def Aj(o:Bool)(x:Item):AV:=.agg [iA x.ent.n,iA x.ent.gen,Bp o o x.comps]
abbrev FN(o o':Bool)(l:List Item):AV:=.lst o 83 3 (l.map (Aj o'))
def wdA(o:Bool)(w:Wd):AV:=.agg [Bz o o w.kinds,BU o w.gens,FN o o w.items]
def CH(e:Ent):AV:=.agg [iA e.n,iA e.gen]
instance {e:Ent}:Frz (CH e) (CH e):=⟨rfl⟩
instance {o:Bool}{k:Comp}:Frz (AT o k) (AT false k):=⟨by unfold AT;exact Frz.h⟩
instance {o:Bool}{k:Item}:Frz (Aj o k) (Aj false k):=⟨by unfold Aj;exact Frz.h⟩
instance {o:Bool}{k:Wd}:Frz (wdA o k) (wdA false k):=⟨by unfold wdA;exact Frz.h⟩
theorem RO(f:α->AV)(h:∀a,(f a).frz=f a)(l:List α):AV.frzs (l.map f)=l.map f:=by
 rw[Fp,Ct];exact FU λa _=>h a
theorem RI(o:Bool)(l:List Int):(BU o l).frz=BU false l:=by
 show AV.lst false _ _ (AV.frzs (l.map iA))=_
 rw[RO _ λ_=>rfl]
instance mapII:TMap prog 215 3 3 (.int .i64 0):=⟨by kernel_rfl,by kernel_rfl,λw=>by kernel_rfl,PlainV.int (by kernel_rfl) rfl⟩
abbrev stE(k:StK)(l:List (Int×Ent)):List AK:=[(k.X,.row 217 3 [.agg [.sl k.V 0 l.length,.sl k.R 0 l.length,.mp k.M]]),(k.V,.row 32 2 (l.map λe=>CH e.2)),(k.R,.row 3 1 (l.map λe=>iA e.1)),(k.M,.ob (MapF prog 3 3 (ixG (BB l)) l.length))]
theorem SD{X V R M n m c:Nat}{l:List (Int×Ent)}{vs rs:List AV}{g:Int->Option Value}(h1:n=l.length)(h2:m=l.length)(h3:vs=l.map λe=>CH e.2)(h4:rs=l.map λe=>iA e.1)(h5:g=ixG (BB l))(h6:c=l.length):
  [(X,AO.row 217 3 [.agg [.sl V 0 n,.sl R 0 m,.mp M]]),(V,.row 32 2 vs),(R,.row 3 1 rs),(M,.ob (MapF prog 3 3 g c))]=stE ⟨X,V,R,M⟩ l:=by
 subst h1 h2 h3 h4 h5 h6;rfl
theorem newE_sp:Spec prog 121 [] [] λr S'=>∃k:StK,r= .ptr k.X 0 0/\S'=stE k []:=by
 refine Sp (nt:=4) (res:=[.tmp 0]) func121 λSf=>?_
 refine R1 ?_;refine JB ?_;refine Lu λM=>?_;refine KO ?_;refine Ai λX=>?_;refine JC ?_
 refine C1 (Y:=X) 32 2 .here (λV=>.cons (.agg (.cons (.base .nil) .r)) .nil) λV=>?_
 refine C1 (Y:=X) 3 1 (.next .here) (λV=>.cons (.agg (.s (.cons (.base .nil) .r))) .nil) λR=>?_
 refine AH M ?_;refine AH R ?_;refine AH V ?_;refine AH X ?_;refine RT ?_;exact CU [.ptr X 0 0] (stE ⟨X,V,R,M⟩ []) ⟨⟨X,V,R,M⟩,rfl,rfl⟩
theorem Sx(k:StK)(l:List (Int×Ent))(hl:ColOK l)(n:Int)(v:Ent)(hn:0<=n/\n<256):Spec prog 124 [.ptr k.X 0 0,iA n,CH v] (stE k l) λr S'=>∃q:Nat×Nat,r=iA 0/\S'=stE ⟨k.X,q.1,q.2,k.M⟩ (DA l n v):=by
 have hlen:=hl.len;have hn1:decide (n<0)=false:=Bd (by omega);have hn2:decide (n>=256)=false:=Bd (by omega);have hI: -9223372036854775808<=n/\n<=9223372036854775807:=by omega
 by_cases hk:n∈BB l
 ·obtain⟨u,hu⟩:=IL hk
  have hi:=JO hk;rw[Fg hk];have hix:=Hh hk;have hke:=Gg (v:=v) hk;rw[Fg hk]at hke;obtain⟨i,hi2⟩:=nm ((BB l).idxOf n);rw[hi2]at hi hu hix hke⊢;have h1:(ixG (BB l) n).getD (.int .i64 0)= .int .i64 (i:Nat):=by rw[hix];rfl
  have h2:(ixG (BB l) n).isSome=true:=by rw[hix];rfl
  have hat:(l.map λe=>CH e.2)[i]?=some (CH u):=by rw[Am,hu];rfl
  have hset:(l.map λe=>CH e.2).set i (CH v)=(l.set i (n,v)).map λe=>CH e.2:=by rw[A8]
  have hrow:(l.map λe=>iA e.1)=(l.set i (n,v)).map λe=>iA e.1:=by
   have:=G9 (List.map iA) hke;rw[BB,BB,Ct,Ct]at this;exact this.symm
  refine Sp (nt:=62) (res:=[.tmp 6]) func124 λSf=>?_
  refine RG ?_;refine WO ?_;refine Ai λB0=>?_;refine JC ?_
  refine JD ?_;refine Aa rfl hn2 ?_;refine JB ?_;(iterate 5 refine WO ?_);refine DZ ?_ (Iz _ _ h1 h2 hI rfl rfl (by exact AY));refine KO ?_;refine NL ?_;refine JD ?_;refine BE rfl rfl ?_;refine FL ?_;refine RU ?_;(iterate 6 refine RK ?_);refine BQ ?_ (W.idx rfl rfl (by exact AY) rfl (by omega) (Af _));refine RK ?_;refine RGo.nil (by kernel_rfl) ?_;refine FL ?_;refine R1 ?_;refine RT ?_;exact CU [iA 0] _ ⟨(k.V,k.R),rfl,SD (n:=l.length) (m:=l.length) (c:=l.length) (by simp) (by simp) hset hrow (by rw[hke]) (by simp)⟩
 ·rw[D6 hk]
  have hix:=NW hk;have h1:(ixG (BB l) n).getD (.int .i64 0)= .int .i64 0:=by rw[hix];rfl
  have h2:(ixG (BB l) n).isSome=false:=by rw[hix];rfl
  have hkl:(BB l).length=l.length:=AD _
  have hkf:Hw (ixG (BB l)) n (.int .i64 (l.length:Nat))=ixG (BB (l++[(n,v)])):=by
   rw[<-hkl,QU hk,BB,BB,AJ];rfl
  have hsz:(if(ixG (BB l) n).isSome then l.length else l.length+1)=l.length+1:=by rw[h2];rfl
  have hmx:l.length<maxLen:=by unfold maxLen;omega
  refine Sp (nt:=62) (res:=[.tmp 6]) func124 λSf=>?_
  refine RG ?_;refine WO ?_;refine Ai λB0=>?_;refine JC ?_
  refine JD ?_;refine Aa rfl hn2 ?_;refine JB ?_;(iterate 5 refine WO ?_);refine DZ ?_ (Iz _ _ h1 h2 hI rfl rfl (by exact AY));refine KO ?_;refine NL ?_;refine JD ?_;refine Aa rfl rfl ?_;refine FL ?_;refine RU ?_;(iterate 10 refine RK ?_);refine Ea ?_ (W.mapUpd (PlainV.int (by kernel_rfl) (NY (by omega))) hI hmx rfl rfl rfl (by exact AY));refine RGo.nil (by kernel_rfl) ?_;rw[hkf,hsz];refine FL ?_;refine A9 λA=>A9 λB=>?_
  refine RU ?_;(iterate 7 refine RK ?_);refine Gs (iA n) ?_;(iterate 6 refine RK ?_);refine Gs (CH v) ?_;(iterate 7 refine RK ?_);refine RGo.nil (by kernel_rfl) ?_;refine FL ?_;refine R1 ?_;refine AH k.M ?_;refine AH B ?_;refine AH A ?_;refine AH k.X ?_;refine RT ?_;exact CU [iA 0] _ ⟨(A,B),rfl,SD (n:=l.length+1) (m:=l.length+1) (c:=l.length+1) (by simp) (by simp) (by rw[AJ]) (by rw[AJ]) rfl (by simp)⟩
abbrev stS(k:StK)(l:List (Int×List Int)):List AK:=[(k.X,.row 276 3 [.agg [.sl k.V 0 l.length,.sl k.R 0 l.length,.mp k.M]]),(k.V,.row 22 1 (l.map λe=>BU false e.2)),(k.R,.row 3 1 (l.map λe=>iA e.1)),(k.M,.ob (MapF prog 3 3 (ixG (BB l)) l.length))]
theorem SC{X V R M n m c:Nat}{l:List (Int×List Int)}{vs rs:List AV}{g:Int->Option Value}(h1:n=l.length)(h2:m=l.length)(h3:vs=l.map λe=>BU false e.2)(h4:rs=l.map λe=>iA e.1)(h5:g=ixG (BB l))(h6:c=l.length):
  [(X,AO.row 276 3 [.agg [.sl V 0 n,.sl R 0 m,.mp M]]),(V,.row 22 1 vs),(R,.row 3 1 rs),(M,.ob (MapF prog 3 3 g c))]=stS ⟨X,V,R,M⟩ l:=by
 subst h1 h2 h3 h4 h5 h6;rfl
theorem T8:Spec prog 122 [] [] λr S'=>∃k:StK,r= .ptr k.X 0 0/\S'=stS k []:=by
 refine Sp (nt:=4) (res:=[.tmp 0]) func122 λSf=>?_
 refine R1 ?_;refine JB ?_;refine Lu λM=>?_;refine KO ?_;refine Ai λX=>?_;refine JC ?_
 refine C1 (Y:=X) 22 1 .here (λV=>.cons (.agg (.cons (.base .nil) .r)) .nil) λV=>?_
 refine C1 (Y:=X) 3 1 (.next .here) (λV=>.cons (.agg (.s (.cons (.base .nil) .r))) .nil) λR=>?_
 refine AH M ?_;refine AH R ?_;refine AH V ?_;refine AH X ?_;refine RT ?_;exact CU [.ptr X 0 0] (stS ⟨X,V,R,M⟩ []) ⟨⟨X,V,R,M⟩,rfl,rfl⟩
theorem Sm(k:StK)(l:List (Int×List Int))(hl:ColOK l)(n:Int)(hn:I64 n)(v:List Int)(hg:FE l n=some v):Spec prog 128 [.ptr k.X 0 0,iA n] (stS k l) λr S'=>r= .tup [BU false v,bA true]/\S'=stS k l:=by
 have hlen:=hl.len;have hk:n∈BB l:=VE λh=>by rw[ID h]at hg;cases hg
 obtain⟨u,hv⟩:=IL hk;have hi:=JO hk;have hg2:FE l n=some u:=by unfold FE;rw[hv];rfl
 rw[hg]at hg2;injection hg2 with hg2
 subst hg2;have hat:(l.map λe=>BU false e.2)[(BB l).idxOf n]?=some (BU false v):=by rw[Am,hv];rfl
 have hix:=Hh hk;obtain⟨i,hi2⟩:=nm ((BB l).idxOf n);rw[hi2]at hi hat hix;have h1:(ixG (BB l) n).getD (.int .i64 0)= .int .i64 (i:Nat):=by rw[hix];rfl
 have h2:(ixG (BB l) n).isSome=true:=by rw[hix];rfl
 refine Sp (nt:=28) (res:=[.tmp 4,.tmp 5]) func128 λSf=>?_
 refine R1 ?_;refine JB ?_;(iterate 5 refine WO ?_);refine DZ ?_ (Iz _ _ h1 h2 hn rfl rfl (by exact AY));refine KO ?_;refine NL ?_;refine JD ?_;refine Aa rfl rfl ?_;refine JB ?_;(iterate 5 refine WO ?_);refine DZ ?_ (W.idx rfl rfl (by exact AY) rfl (by omega) (Af _));refine KO ?_;refine NL ?_;refine RT ?_;exact CU [BU false v,bA true] (stS k l) ⟨rfl,rfl⟩
theorem Sw(k:StK)(l:List (Int×List Int))(hl:ColOK l)(n:Int)(v:List Int)(hn:0<=n/\n<256):Spec prog 125 [.ptr k.X 0 0,iA n,BU false v] (stS k l) λr S'=>∃q:Nat×Nat,r=iA 0/\S'=stS ⟨k.X,q.1,q.2,k.M⟩ (DA l n v):=by
 have hlen:=hl.len;have hn1:decide (n<0)=false:=Bd (by omega);have hn2:decide (n>=256)=false:=Bd (by omega);have hI: -9223372036854775808<=n/\n<=9223372036854775807:=by omega
 by_cases hk:n∈BB l
 ·obtain⟨u,hu⟩:=IL hk
  have hi:=JO hk;rw[Fg hk];have hix:=Hh hk;have hke:=Gg (v:=v) hk;rw[Fg hk]at hke;obtain⟨i,hi2⟩:=nm ((BB l).idxOf n);rw[hi2]at hi hu hix hke⊢;have h1:(ixG (BB l) n).getD (.int .i64 0)= .int .i64 (i:Nat):=by rw[hix];rfl
  have h2:(ixG (BB l) n).isSome=true:=by rw[hix];rfl
  have hat:(l.map λe=>BU false e.2)[i]?=some (BU false u):=by rw[Am,hu];rfl
  have hset:(l.map λe=>BU false e.2).set i (BU false v)=(l.set i (n,v)).map λe=>BU false e.2:=by rw[A8]
  have hrow:(l.map λe=>iA e.1)=(l.set i (n,v)).map λe=>iA e.1:=by
   have:=G9 (List.map iA) hke;rw[BB,BB,Ct,Ct]at this;exact this.symm
  refine Sp (nt:=62) (res:=[.tmp 6]) func125 λSf=>?_
  refine R1 ?_;refine JD ?_;refine Aa rfl hn2 ?_;refine JB ?_;(iterate 5 refine WO ?_);refine DZ ?_ (Iz _ _ h1 h2 hI rfl rfl (by exact AY));refine KO ?_;refine NL ?_;refine JD ?_;refine BE rfl rfl ?_;refine JB ?_;(iterate 6 refine WO ?_);refine DZ ?_ (W.idx rfl rfl (by exact AY) rfl (by omega) (Af _));refine JC ?_;refine FL ?_;refine R1 ?_;refine RT ?_;exact CU [iA 0] _ ⟨(k.V,k.R),rfl,SC (n:=l.length) (m:=l.length) (c:=l.length) (by simp) (by simp) hset hrow (by rw[hke]) (by simp)⟩
 ·rw[D6 hk]
  have hix:=NW hk;have h1:(ixG (BB l) n).getD (.int .i64 0)= .int .i64 0:=by rw[hix];rfl
  have h2:(ixG (BB l) n).isSome=false:=by rw[hix];rfl
  have hkl:(BB l).length=l.length:=AD _
  have hkf:Hw (ixG (BB l)) n (.int .i64 (l.length:Nat))=ixG (BB (l++[(n,v)])):=by
   rw[<-hkl,QU hk,BB,BB,AJ];rfl
  have hsz:(if(ixG (BB l) n).isSome then l.length else l.length+1)=l.length+1:=by rw[h2];rfl
  have hmx:l.length<maxLen:=by unfold maxLen;omega
  refine Sp (nt:=62) (res:=[.tmp 6]) func125 λSf=>?_
  refine R1 ?_;refine JD ?_;refine Aa rfl hn2 ?_;refine JB ?_;(iterate 5 refine WO ?_);refine DZ ?_ (Iz _ _ h1 h2 hI rfl rfl (by exact AY));refine KO ?_;refine NL ?_;refine JD ?_;refine Aa rfl rfl ?_;refine FL ?_;refine RU ?_;(iterate 10 refine RK ?_);refine Ea ?_ (W.mapUpd (PlainV.int (by kernel_rfl) (NY (by omega))) hI hmx rfl rfl rfl (by exact AY));refine RGo.nil (by kernel_rfl) ?_;rw[hkf,hsz];refine FL ?_;refine A9 λA=>A9 λB=>?_
  refine RU ?_;(iterate 7 refine RK ?_);refine Gs (iA n) ?_;(iterate 6 refine RK ?_);refine Gs (BU false v) ?_;(iterate 7 refine RK ?_);refine RGo.nil (by kernel_rfl) ?_;refine FL ?_;refine R1 ?_;refine AH k.M ?_;refine AH B ?_;refine AH A ?_;refine AH k.X ?_;refine RT ?_;exact CU [iA 0] _ ⟨(A,B),rfl,SC (n:=l.length+1) (m:=l.length+1) (c:=l.length+1) (by simp) (by simp) (by rw[AJ]) (by rw[AJ]) rfl (by simp)⟩
theorem OW(a:Int):PS prog 110 [iA a] (bA false):=by
 refine Sp (nt:=6) (res:=[.tmp 2]) func110 λSf=>?_
 refine JA ?_;refine An ?_;have:decide (a≠a)=false:=Bd (by simp);rw[this]
def Dl(a b:Int):Int:=if a<b then-1 else if b<a then 1 else 0
theorem Fs(a b:Int):PS prog 48 [iA a,iA b] (iA (Dl a b)):=by
 refine Sp (nt:=20) (res:=[.tmp 4]) func48 λSf=>?_
 refine KK ?_;refine DQ (h:=(OW a)) (k:=?_);refine KK ?_;refine DQ (h:=(OW b)) (k:=?_);refine KK ?_;refine Aa rfl rfl ?_;refine KK ?_;refine Aa rfl rfl ?_;refine KK ?_;refine AB rfl (λh=>?_) (λh=>?_)
 ·have h:a<b:=by simpa using h
  refine JA ?_;refine An ?_;rw[Dl,A1 h]
 ·have h:¬a<b:=by simpa using h
  refine KK ?_;refine AB rfl (λh2=>?_) (λh2=>?_)
  ·have h2:b<a:=by simpa using h2
   refine JA ?_;refine An ?_;rw[Dl,Ah h,A1 h2]
  ·have h2:¬b<a:=by simpa using h2
   refine JA ?_;refine An ?_;rw[Dl,Ah h,Ah h2]
def Dx:List Int->List Int->Int
 |[],[]=>0
 |[],_::_=>-1
 |_::_,[]=>1
 |x::a,y::b=>if Dl x y≠0 then Dl x y else Dx a b
theorem UV{a b:List Int}(ha:i<a.length)(hb:i<b.length):Dx (a.drop i) (b.drop i)=if Dl a[i] b[i]≠0 then Dl a[i] b[i]else Dx (a.drop (i+1)) (b.drop (i+1)):=by
 rw[DE ha,DE hb,Dx]
theorem Ot(a b:List Int)(ha:a.length<=1099511627776):PS prog 120 [BU false a,BU false b] (iA (Dx a b)):=by
 have ham:(a.map iA).length=a.length:=AD _;have hbm:(b.map iA).length=b.length:=AD _;refine Sp (nt:=36) (res:=[.tmp 4]) func120 λSf=>?_
 refine KK ?_;refine DL (λ(i:Nat)=>⟨[(0,BU false a),(1,BU false b),(9,BU false a),(10,iA (a.map iA).length),(11,iA i)],Sf⟩) (λi=>i<=a.length/\i<=b.length/\Dx a b=Dx (a.drop i) (b.drop i)) (λi=>a.length-i) 0 ⟨by omega,by omega,rfl⟩ ?_;rintro i ⟨hi,hib,hc⟩;refine KK ?_;refine AB rfl (λh=>?_) (λh=>?_)
 ·have h:i<a.length:=by rw[As,ham]at h;omega
  have hat:(a.map iA)[i]?=some (iA a[i]):=Cb _ h;obtain⟨x,hx⟩:=nm (a[i]);rw[hx]at hat;have hil:i<(a.map iA).length:=by omega
  refine KK ?_;refine AB rfl (λh2=>?_) (λh2=>?_)
  ·have h2:i=b.length:=by rw[As,hbm]at h2;omega
   refine JA ?_;refine An ?_;have hbn:b.drop i=[]:=GJ (by omega);rw[hc,hbn,DE h];rfl
  ·have h2:i<b.length:=by rw[Aq,hbm]at h2;omega
   have hat2:(b.map iA)[i]?=some (iA b[i]):=Cb _ h2;have hil2:i<(b.map iA).length:=by omega
   rw[UV h h2]at hc;obtain⟨y,hy⟩:=nm (b[i]);rw[hx,hy]at hc;rw[hy]at hat2;have hcm:=Fs x y;obtain⟨z,hz⟩:=nm (Dl x y);rw[hz]at hcm hc;refine KK ?_;refine Bw (h:=(hcm ..)) (k:=?_);refine KK ?_;refine AB rfl (λh3=>?_) (λh3=>?_)
   ·have h3:z≠0:=by simpa using h3
    refine JA ?_;refine An ?_;rw[hc,A1 h3]
   ·have h3:z=0:=by simpa using h3
    rw[Ah (by simp[h3])]at hc;refine KK ?_;exact DB (i+1) ⟨by omega,by omega,hc⟩ (by omega)
 ·have h:i=a.length:=by rw[Aq,ham]at h;omega
  subst h;rw[C0]at hc;refine KK ?_;refine AB rfl (λh2=>?_) (λh2=>?_)
  ·have h2:a.length<b.length:=by rw[As,ham,hbm]at h2;omega
   refine JA ?_;refine An ?_;rw[hc,DE h2];rfl
  ·have h2:a.length=b.length:=by rw[Aq,ham,hbm]at h2;omega
   refine JA ?_;refine An ?_;rw[hc,GJ (by omega)];rfl
def FS{α:Type}(f:α->AV)(z:AV)(l:List α)(i:Nat):List AV:=(l.take i).map f++List.replicate (l.length-i) z
theorem Ms(f:α->AV)(z:AV)(l:List α)(h:i<=l.length):(FS f z l i).length=l.length:=by
 unfold FS;rw[Ax,AD,BA,Ci];omega
theorem LG(f:α->AV)(z:AV)(l:List α):FS f z l 0=List.replicate l.length z:=by unfold FS;simp
theorem Mt(f:α->AV)(z:AV)(l:List α):FS f z l l.length=l.map f:=by unfold FS;simp
theorem Ok(f:α->AV)(z:AV)(l:List α)(h:i<l.length):(FS f z l i)[i]?=some z:=by
 unfold FS;have hl:((l.take i).map f).length=i:=by rw[AD,BA];omega
 rw[BK (by omega),hl,DY,F3,A1 (by omega)]
theorem Mr(f:α->AV)(z:AV)(l:List α)(h:i<l.length):(FS f z l i).set i (f l[i])=FS f z l (i+1):=by
 unfold FS;have hl:((l.take i).map f).length=i:=by rw[AD,BA];omega
 rw[Et _ _ (by omega),hl,DY,show l.length-i=(l.length-(i+1))+1 by omega,Hq,IY,Bt h,AJ,BC];rfl
theorem Pd(l:List Comp)(hl:l.length<=1099511627776):PS prog 117 [Bp false false l] (BU true (l.map (·.kind))):=by
 have hlm:(l.map (AT false)).length=l.length:=AD _;refine Sp (nt:=23) (res:=[.tmp 2]) func117 λSf=>?_
 refine R1 ?_;refine JB ?_;refine WO ?_;refine WO ?_;refine GY (iA 0) λK=>?_;refine JC ?_
 rw[hlm,<-LG (λc:Comp=>iA c.kind)];refine JD ?_;refine DL (λ(i:Nat)=>⟨[(3,.sl K 0 l.length),(9,Bp false false l),(10,iA (l.map (AT false)).length),(11,iA i)],(K,.row 3 1 (FS (λc:Comp=>iA c.kind) (iA 0) l i))::Sf⟩) (λi=>i<=l.length) (λi=>l.length-i) 0 (by omega) ?_;rintro i hi;have hfl:=Ms (λc:Comp=>iA c.kind) (iA 0) l hi;refine R1 ?_;refine FL ?_;refine AB rfl (λh=>?_) (λh=>?_)
 ·have h:i<l.length:=by rw[As,hlm]at h;omega
  have hat:(l.map (AT false))[i]?=some (AT false l[i]):=Cb _ h;have hil:i<(l.map (AT false)).length:=by omega
  have hfa:=Ok (λc:Comp=>iA c.kind) (iA 0) l h;have hfs:=Mr (λc:Comp=>iA c.kind) (iA 0) l h;obtain⟨⟨ck,cv⟩,hc⟩:=nm (l[i]);rw[hc]at hat hfs;refine JB ?_;refine KO ?_;refine Ai λC=>?_;refine KO ?_;refine NL ?_
  refine JB ?_;(iterate 4 refine WO ?_);refine DZ ?_ (W.idx rfl rfl (by exact AY) rfl (by omega) (Af _));refine JC ?_;rw[hfs];refine FL ?_;refine R1 ?_;exact DB (i+1) (by omega)
 ·have h:i=l.length:=by rw[Aq,hlm]at h;omega
  subst h;rw[Mt];refine FL ?_;refine R1 ?_;refine RT ?_;exact⟨[.sl K 0 l.length],[BU true (l.map (·.kind))],_,[],.cons (.tmp rfl) rfl .nil,.cons (.cell (by unfold BU;rw[show(l.map (·.kind)).map iA=l.map (λc:Comp=>iA c.kind)from Ct];exact .sl (p:=0) .here (by simp))) .nil,by exact Av,rfl,rfl⟩
def IA{α:Type}(g:α->Int)(l:List α):Prop:=∀(a b:Nat) (x y:α),a<=b->l[a]?=some x->l[b]?=some y->g y<0->g x<0
def Spl{α:Type}(g:α->Int)(l:List α)(i j:Nat):Prop:=(∀(k:Nat) (x:α),k<i->l[k]?=some x->g x<0)/\∀(k:Nat) (x:α),j<=k->l[k]?=some x->¬g x<0
structure Found{α:Type}(g:α->Int)(l:List α)(r:Nat×Bool):Prop where
 le:r.1<=l.length
 eq:r.2=true↔∃x,l[r.1]?=some x/\g x=0
 mono:IA g l->Spl g l r.1 r.1
theorem Spl.lo{g:α->Int}{l:List α}{i j m:Nat}{y:α}(hM:IA g l)(h:Spl g l i j)(hy:l[m]?=some y)(hg:g y<0):Spl g l (m+1) j:=
 ⟨λk x hk hx=>hM k m x y (by omega) hx hy hg,h.2⟩
theorem Spl.hi{g:α->Int}{l:List α}{i j m:Nat}{y:α}(hM:IA g l)(h:Spl g l i j)(hy:l[m]?=some y)(hg:¬g y<0):Spl g l i m:=
 ⟨h.1,λk x hk hx hx0=>hg (hM m k y x hk hy hx hx0)⟩
abbrev ptrs{α:Type}(px:α->Nat)(l:List α):List AV:=l.map λx=>.ptr (px x) 0 0
theorem PU(Tb:Nat)(l:List α)(px:α->Nat)(R:List AK)(ks:List Int)(f:FuncId)(g:α->Int)(hl:l.length<=4611686018427387904)(hf:∀x∈l,Spec prog f [.ptr (px x) 0 0,BU false ks] R λr S'=>r=iA (g x)/\S'=R):
  Spec prog 118 [.sl Tb 0 l.length,BU false ks,.fn f []] ((Tb,.row 117 1 (ptrs px l))::R) λr S'=>∃b,Found g l b/\r= .tup [iA b.1,bA b.2]/\S'=(Tb,.row 117 1 (ptrs px l))::R:=by
 refine Sp (nt:=49) (res:=[.tmp 6,.tmp 7]) func118 λSf=>?_
 have hlm:(ptrs px l).length=l.length:=AD _;refine KK ?_;refine B6 (λ(i j:Nat)=>⟨[(0,.sl Tb 0 l.length),(1,BU false ks),(2,.fn f []),(8,iA l.length),(9,iA i),(10,iA j)],(Tb,.row 117 1 (ptrs px l))::(R++Sf)⟩) (λi j=>i<=j/\j<=l.length/\(IA g l->Spl g l i j)) (λi j=>j-i) 0 l.length ⟨Ap _,by omega,λ_=>⟨λk x h=>absurd h (by omega),λk x h hx=>by have:=(AC.1 hx).1;omega⟩⟩ ?_;rintro i j ⟨hij,hjn,hmono⟩;refine KK ?_;refine AB rfl (λhc=>?_) (λhc=>?_)
 ·have h:i<j:=by rw[As]at hc;omega
  have hmid:((i:Int)+j).fdiv (2^1)=(((i+j)/2:Nat):Int):=by
   rw[E6 _ (by decide)];omega
  have hw1:IntKind.u64.wrap ((i:Int)+j)=i+j:=by rw[Lz];omega
  have hw2:IntKind.i64.wrap (((i:Int)+j).fdiv (2^1))=((i:Int)+j).fdiv (2^1):=by
   rw[Um,hmid];omega
  refine RG ?_;(iterate 3 refine WO ?_);refine AQ (W.conv .i64 .u64 (by kernel_rfl) (by kernel_rfl) rfl hw1) rfl ?_;refine AQ (W.shr 1 rfl rfl rfl (by decide)) rfl ?_;refine AQ (W.conv .u64 .i64 (by kernel_rfl) (by kernel_rfl) rfl hw2) rfl ?_;refine JC ?_;rw[hmid];obtain⟨m,hm⟩:=nm ((i+j)/2);rw[hm];have hml:m<l.length:=by omega
  obtain⟨y,hy⟩:=nm (l[m]);have hya:l[m]?=some y:=by rw[Ag hml,hy]
  have hat:(ptrs px l)[m]?=some (.ptr (px y) 0 0):=by rw[Am,hya];rfl
  have hfy:=hf y (by rw[<-hy];exact BG hml);refine RG ?_;(iterate 3 refine WO ?_);refine DZ ?_ (W.idx rfl rfl (by exact AY) rfl (by omega) (Af _));refine WO ?_;refine WO ?_;refine PC [(Tb,_)] (h:=hfy) (k:=?_);refine JC ?_;refine AB rfl (λhe=>?_) (λhe=>?_)
  ·have he:g y<0:=by simpa using he
   refine KK ?_;refine BV (m+1) j ⟨by omega,hjn,λhM=>(hmono hM).lo hM hya he⟩
  ·have he:¬g y<0:=by simpa using he
   refine KK ?_;refine BV i m ⟨by omega,by omega,λhM=>(hmono hM).hi hM hya he⟩
 ·have h:i=j:=by rw[Aq]at hc;omega
  subst h;by_cases hin:i<l.length
  ·have hil:i<l.length:=by omega
   have g1:decide ((i:Int)<l.length)=true:=Br (by omega);obtain⟨y,hy⟩:=nm (l[i]);have hya:l[i]?=some y:=by rw[Ag hil,hy]
   have hat:(ptrs px l)[i]?=some (.ptr (px y) 0 0):=by rw[Am,hya];rfl
   have hfy:=hf y (by rw[<-hy];exact BG hil)
   (iterate 15 refine WK ?_);refine DZ ?_ (W.idx rfl rfl (by exact AY) rfl (by omega) (Af _));(iterate 5 refine WK ?_);refine PC [(Tb,_)] (h:=hfy) (k:=?_);refine KK ?_
   refine RT ?_;exact CU [iA i,bA (decide (g y=0))] ((Tb,.row 117 1 (ptrs px l))::R) ⟨(i,decide (g y=0)),⟨by simp;omega,by simp[hya],hmono⟩,rfl,rfl⟩
  ·have g1:decide ((i:Int)<l.length)=false:=Bd (by omega)
   refine JA ?_;exact CU [iA i,bA false] ((Tb,.row 117 1 (ptrs px l))::R) ⟨(i,false),⟨by simp;omega,by simp[Bk (show l.length<=i by omega)],hmono⟩,rfl,rfl⟩
def K4{α:Type}(l:List α)(p:α->Bool):Int:=match l.findIdx? p with
 |some i=>i
 |none=>-1
theorem Mn{l:List α}{p:α->Bool}(h:∀j (hj:j<l.length),p l[j]=false):K4 l p= -1:=by
 have:l.findIdx? p=none:=by
  rw[EC];intro x hx;obtain⟨j,hj,rfl⟩:=B4 hx;exact h j hj
 simp[K4,this]
theorem Mm{l:List α}{p:α->Bool}(hi:i<l.length)(e:p l[i]=true)(h:∀j (hj:j<i),p (l[j]'(by omega))=false):K4 l p=i:=by
 have:l.findIdx? p=some i:=by
  rw[D7];exact⟨hi,e,λj hj=>by simpa using h j hj⟩
 simp[K4,this]
theorem Se(l:List α)(p:α->Bool):decide ((0:Int)<=K4 l p)=l.any p:=by
 unfold K4;cases h:l.findIdx? p with
 |none=>
  rw[EC]at h;have:l.any p=false:=CR.2 λx hx=>by rw[h x hx];simp
  rw[this];rfl
 |some i=>
  obtain⟨hi,e,_⟩:=D7.1 h;have:l.any p=true:=G7.2 ⟨_,BG hi,e⟩;rw[this];simp
structure Tab where
 X:Nat
 ks:List Int
 ek:StK
 es:List (Int×Ent)
 cs:List (StK×List (Int×List Int))
def EB(cs:List (StK×List (Int×List Int))):List AK:=cs.flatMap λc=>stS c.1 c.2
abbrev VY(cs:List (StK×List (Int×List Int))):AV:=.lst false 209 1 (cs.map λc=>.ptr c.1.X 0 0)
abbrev J3(t:Tab):AK:=(t.X,.row 123 3 [.agg [BU false t.ks,.ptr t.ek.X 0 0,VY t.cs]])
abbrev Hx(t:Tab):List AK:=J3 t::(stE t.ek t.es++EB t.cs)
theorem Hl(a b:List (StK×List (Int×List Int))):EB (a++b)=EB a++EB b:=FV
theorem Gn(c:StK×List (Int×List Int))(b:List (StK×List (Int×List Int))):EB (c::b)=stS c.1 c.2++EB b:=Bo
theorem Ha{l:List α}(h:i<l.length):∃l1 l2,l=l1++l[i]::l2/\l1.length=i:=⟨l.take i,l.drop (i+1),by rw[List.getElem_cons_drop,Bi],by rw[BA];omega⟩
def Cr(t:Tab)(n:Int):List Comp:=(t.ks.zip t.cs).map λq=>⟨q.1,(FE q.2.2 n).getD []⟩
structure TabOK(t:Tab):Prop where
 len:t.ks.length=t.cs.length
 ks:t.ks.length<=16
 es:ColOK t.es
 cs:∀c∈t.cs,ColOK c.2
 keys:∀c∈t.cs,∀n,n∈BB c.2↔n∈BB t.es
theorem Ua(t:Tab)(ks:List Int)(hl:t.ks.length<=1099511627776):Spec prog 119 [.ptr t.X 0 0,BU false ks] [J3 t] λr S'=>r=iA (Dx t.ks ks)/\S'=[J3 t]:=by
 have h1:=Ot t.ks ks hl;refine Sp (nt:=11) (res:=[.tmp 4]) func119 λSf=>?_
 refine R1 ?_;refine JB ?_;refine KO ?_;refine Bw (h:=(h1 ..)) (k:=?_);refine JC ?_;refine RT ?_;exact CU [iA (Dx t.ks ks)] [J3 t] ⟨rfl,rfl⟩
abbrev LN:AV:=.agg [iA 0,.prim (.slice none 0 0)]
theorem HX{t:Tab}(h:i<(Cr t n).length)(h1:i<t.ks.length)(h2:i<t.cs.length):(Cr t n)[i]=⟨t.ks[i],(FE t.cs[i].2 n).getD []⟩:=by simp[Cr]
theorem Sy(t:Tab)(n:Int)(ht:TabOK t)(hn:I64 n)(hk:n∈BB t.es):Spec prog 58 [.ptr t.X 0 0,iA n] (Hx t) λr S'=>r= .lst true 42 2 ((Cr t n).map (AT false))/\S'=Hx t:=by
 have hkm:(t.ks.map iA).length=t.ks.length:=AD _;have hcm:(t.cs.map λc=>AV.ptr c.1.X 0 0).length=t.cs.length:=AD _;have hlen:=ht.len;have h16:=ht.ks;have htl:(Cr t n).length=t.ks.length:=by unfold Cr;rw[AD,Th];omega
 refine Sp (nt:=46) (res:=[.tmp 4]) func58 λSf=>?_
 refine R1 ?_;refine JB ?_;(iterate 5 refine WO ?_);refine GY (AV.agg [iA 0,.prim (.slice none 0 0)]) λK=>?_;refine JC ?_
 rw[hkm,<-htl,<-LG (AT false)];refine JD ?_;refine DL (λ(i:Nat)=>⟨[(0,.ptr t.X 0 0),(1,iA n),(5,.sl K 0 (Cr t n).length),(19,BU false t.ks),(20,iA (t.ks.map iA).length),(21,iA i)],(K,.row 42 2 (FS (AT false) LN (Cr t n) i))::(Hx t++Sf)⟩) (λi=>i<=t.ks.length) (λi=>t.ks.length-i) 0 (by omega) ?_;rintro i hi;have hfl:=Ms (AT false) LN (Cr t n) (i:=i) (by omega);refine R1 ?_;refine FL ?_;refine AB rfl (λh=>?_) (λh=>?_)
 ·have h:i<t.ks.length:=by rw[As,hkm]at h;omega
  have hc:i<t.cs.length:=by omega
  have hat:(t.ks.map iA)[i]?=some (iA t.ks[i]):=Cb _ h;have hil:i<(t.ks.map iA).length:=by omega
  have hti:i<(Cr t n).length:=by omega
  have hfa:=Ok (AT false) LN (Cr t n) hti;have hfs:=Mr (AT false) LN (Cr t n) hti;have hcat:(t.cs.map λc=>AV.ptr c.1.X 0 0)[i]?=some (.ptr t.cs[i].1.X 0 0):=Cb _ hc;have hcil:i<(t.cs.map λc=>AV.ptr c.1.X 0 0).length:=by omega
  have hcm:=BG hc;obtain⟨v,hv⟩:=PP ((ht.keys _ hcm n).2 hk)
  have hel:(Cr t n)[i]=⟨t.ks[i],v⟩:=by
   rw[HX hti h hc,hv];rfl
  rw[hel]at hfs;have hget:=Sm t.cs[i].1 t.cs[i].2 (ht.cs _ hcm) n hn v hv;obtain⟨l1,l2,hsp,hl1⟩:=Ha hc;obtain⟨c,hce⟩:=nm (t.cs[i]);rw[hce]at hget hsp hcat;obtain⟨k,hke⟩:=nm (t.ks[i]);rw[hke]at hat hfs
  have heq:(K,AO.row 42 2 (FS (AT false) LN (Cr t n) i))::(Hx t++Sf)=((K,AO.row 42 2 (FS (AT false) LN (Cr t n) i))::J3 t::(stE t.ek t.es++EB l1))++(stS c.1 c.2++(EB l2++Sf)):=by
   have e1:EB t.cs=EB l1++(stS c.1 c.2++EB l2):=by
    conv=>lhs;rw[hsp]
    rw[Hl,Gn]
   rw[Hx,e1];simp only[EX,BC]
  refine FL ?_;refine R1 ?_;refine JB ?_;(iterate 8 refine WO ?_);refine Ur _ hget ?_ (hp:=heq);refine KO ?_;refine NL ?_;rw[<-heq];refine JB ?_;(iterate 5 refine WO ?_);refine DZ ?_ (W.idx rfl rfl (by exact AY) rfl (by omega) (Af _));refine JC ?_;refine Rn K hfs ?_;refine FL ?_;refine R1 ?_;exact DB (i+1) (by omega)
 ·have h:i=t.ks.length:=by rw[Aq,hkm]at h;omega
  subst h;have hfa:FS (AT false) LN (Cr t n) t.ks.length=(Cr t n).map (AT false):=by rw[<-htl];exact Mt _ _ _
  rw[hfa];refine FL ?_;refine R1 ?_;refine RT ?_;exact⟨[.sl K 0 (Cr t n).length],[.lst true 42 2 ((Cr t n).map (AT false))],_,Hx t,.cons (.tmp rfl) rfl .nil,.cons (.cell (.sl (p:=0) .here (by simp))) .nil,by exact Av,rfl,rfl⟩
theorem cmpI_eqz{x y:Int}:Dl x y=0↔x=y:=by unfold Dl;split<;>(try split)<;>omega
theorem cmpI_ltz{x y:Int}:Dl x y<0↔x<y:=by unfold Dl;split<;>(try split)<;>omega
theorem cmpL_zero:∀{a b:List Int},Dx a b=0↔a=b
 |[],[]=>by simp[Dx]
 |[],_::_=>by simp[Dx]
 |_::_,[]=>by simp[Dx]
 |x::a,y::b=>by
  rw[Dx,CP];by_cases h:Dl x y=0
  ·rw[Ah (by simp[h]),cmpL_zero,cmpI_eqz.1 h];simp
  ·rw[A1 h]
   exact⟨λe=>absurd e h,λe=>absurd (cmpI_eqz.2 e.1) h⟩
theorem IV:∀{a b c:List Int},Dx a b<0->Dx b c<0->Dx a c<0
 |[],[],_,h,_=>by simp[Dx]at h
 |[],_::_,[],_,h=>by simp[Dx]at h
 |[],_::_,_::_,_,_=>by simp[Dx]
 |_::_,[],_,h,_=>by simp[Dx]at h
 |_::_,_::_,[],_,h=>by simp[Dx]at h
 |x::a,y::b,z::c,h1,h2=>by
  rw[Dx]at h1 h2⊢;by_cases e1:Dl x y=0
  ·have e1':=cmpI_eqz.1 e1
   subst e1';rw[Ah (by simp[e1])]at h1;by_cases e2:Dl x z=0
   ·rw[Ah (by simp[e2])]at h2⊢
    exact IV h1 h2
   ·rw[A1 e2]at h2⊢
    exact h2
  ·rw[A1 e1]at h1
   have l1:=cmpI_ltz.1 h1;by_cases e2:Dl y z=0
   ·have e2':=cmpI_eqz.1 e2
    subst e2';rw[A1 e1];exact h1
   ·rw[A1 e2]at h2
    have l2:=cmpI_ltz.1 h2;have l3:Dl x z<0:=cmpI_ltz.2 (by omega);rw[A1 (by omega)];exact l3
theorem M0:∀{a b:List Int},¬Dx a b<0->a≠b->Dx b a<0
 |[],[],_,h=>absurd rfl h
 |[],_::_,h,_=>absurd (by simp[Dx]) h
 |_::_,[],_,_=>by simp[Dx]
 |x::a,y::b,h,hne=>by
  rw[Dx]at h⊢;by_cases e:Dl x y=0
  ·have e':=cmpI_eqz.1 e
   subst e';rw[Ah (by simp[e])]at h⊢;exact M0 h λe2=>hne (by rw[e2])
  ·rw[A1 e]at h
   have hxy:x≠y:=λe2=>e (cmpI_eqz.2 e2)
   have:¬x<y:=λl=>h (cmpI_ltz.2 l)
   have l:Dl y x<0:=cmpI_ltz.2 (by omega);rw[A1 (by omega)];exact l
structure Ar where
 A:Nat
 G:Nat
 Tb:Nat
 O:Nat
 Tv:Nat
 K:AV->Value->Prop
 g:Int->Option Value
 c:Nat
 kinds:List Kind
 gens:List Int
 ts:List Tab
def Dm(ts:List Tab):List AK:=ts.flatMap Hx
abbrev arH(a:Ar):List AK:=[(a.A,.row 115 4 [.agg [Bz false false a.kinds,.sl a.G 0 a.gens.length,.sl a.Tb 0 a.ts.length,.mp a.O]]),(a.G,.row 3 1 (a.gens.map iA)),(a.O,.ob (MapF prog 3 117 a.g a.c)),(a.Tv,.tv a.K),(a.Tb,.row 117 1 (ptrs Tab.X a.ts))]
abbrev arS(a:Ar):List AK:=arH a++Dm a.ts
theorem MS(a b:List Tab):Dm (a++b)=Dm a++Dm b:=FV
theorem PJ(t:Tab)(b:List Tab):Dm (t::b)=Hx t++Dm b:=Bo
theorem GM{l1 l2:List Tab}{t:Tab}(R:List AK):(Dm (l1++t::l2)++R).Perm (Hx t++(Dm l1++(Dm l2++R))):=by
 rw[MS,PJ,BC,BC];exact D1 _ _ _
abbrev DR(ts:List Tab):List Int:=ts.flatMap λt=>BB t.es
def Di(t:Tab):List Item:=t.es.map λe=>⟨e.2,Cr t e.1⟩
def B9(ts:List Tab):List Item:=ts.flatMap Di
structure ArOK(a:Ar):Prop where
 tab:∀t∈a.ts,TabOK t
 ord:a.ts.Pairwise λt u=>Dx t.ks u.ks<0
 keys:(DR a.ts).Nodup
 ent:∀t∈a.ts,∀e∈t.es,e.1=e.2.n
 g:∀n u,a.g n=some u->∃t∈a.ts,n∈BB t.es/\a.K (.ptr t.X 0 0) u/\∃b:Nat,u= .pointer (some ⟨b,0,none⟩)
 gn:∀n∈DR a.ts,(a.g n).isSome=true
 cnt:a.c=(DR a.ts).length
theorem ArOK.lt{a:Ar}(h:ArOK a):∀n∈DR a.ts,0<=n/\n<256:=λn hn=>by
 obtain⟨t,ht,hm⟩:=Dc.1 hn;exact(h.tab t ht).es.lt n hm
theorem ArOK.c_le{a:Ar}(h:ArOK a):a.c<=256:=by rw[h.cnt];exact OJ h.keys h.lt
def Jg(ts:List Tab):Prop:=∀t∈ts,t.es≠[]
theorem ArOK.ts_le{a:Ar}(h:ArOK a)(hne:Jg a.ts):a.ts.length<=256:=by
 refine CT ?_ h.c_le;rw[h.cnt,DR,List.length_flatMap]
 have:∀ts:List Tab,(∀t∈ts,t.es≠[])->ts.length<=(ts.map λt=>(BB t.es).length).sum:=by
  intro ts
  induction ts with
  |nil=>intro _;simp
  |cons t ts ih=>
   intro hh;have h1:=ih λt ht=>hh t (by simp[ht])
   have h2:0<(BB t.es).length:=by rw[AD];exact WT.2 (hh t (by simp))
   simp only[EK,AR,List.sum_cons];omega
 exact this a.ts hne
theorem ArOK.mono{a:Ar}(h:ArOK a)(ks:List Int):IA (λt:Tab=>Dx t.ks ks) a.ts:=by
 intro i j x y hij hx hy hg;rcases Nat.lt_or_eq_of_le hij with hlt|rfl
 ·obtain⟨hi,rfl⟩:=AC.1 hx
  obtain⟨hj,rfl⟩:=AC.1 hy;exact IV (B3.1 h.ord i j hi hj hlt) hg
 ·rw[hx]at hy
  injection hy with hy
  subst hy;exact hg
theorem T7{ts:List Tab}{t:Tab}(h:ts.Pairwise λt u=>Dx t.ks u.ks<0)(hm:IA (λt:Tab=>Dx t.ks ks) ts)(hf:Found (λt:Tab=>Dx t.ks ks) ts (i,false))(ht:t.ks=ks):(ts.take i++t::ts.drop i).Pairwise λt u=>Dx t.ks u.ks<0:=by
 obtain⟨hlo,hhi⟩:=hf.mono hm;have heq:=hf.eq;dsimp only at hlo hhi heq
 have h1:∀x∈ts.take i,Dx x.ks ks<0:=λx hx=>by
  obtain⟨j,hj,rfl⟩:=VD.1 hx;exact hlo j _ (by omega) (Ag (by omega))
 have h2:∀x∈ts.drop i,Dx ks x.ks<0:=λx hx=>by
  obtain⟨j,hj,rfl⟩:=List.mem_iff_getElem.1 hx;rw[Bb]at hj;rw[List.getElem_drop];have hg:ts[i+j]?=some ts[i+j]:=Ag (by omega);have hn:=hhi (i+j) _ (by omega) hg;refine M0 hn λe=>?_
  cases j with
  |zero=>
   have:(false:Bool)=true:=heq.2 ⟨ts[i],Ag (by omega),cmpL_zero.2 e⟩;cases this
  |succ j=>
   have hi':ts[i]?=some ts[i]:=Ag (by omega);have h3:=B3.1 h i (i+(j+1)) (by omega) (by omega) (by omega);rw[e]at h3;exact hhi i _ (AP _) hi' h3
 rw[Dh];refine⟨h.sublist (List.take_sublist _ _),BD.2 ⟨λx hx=>by rw[ht];exact h2 x hx,h.sublist (List.drop_sublist _ _)⟩,λx hx y hy=>?_⟩;rcases AW.1 hy with rfl|hy
 ·rw[ht];exact h1 x hx
 ·exact IV (h1 x hx) (h2 y hy)
theorem Ff(a b:List Tab):DR (a++b)=DR a++DR b:=FV
theorem Gf(t:Tab)(b:List Tab):DR (t::b)=BB t.es++DR b:=Bo
theorem Eg(a b:List Tab):B9 (a++b)=B9 a++B9 b:=FV
theorem Ep(t:Tab)(b:List Tab):B9 (t::b)=Di t++B9 b:=Bo
theorem ArOK.newT{a:Ar}(h:ArOK a){t:Tab}{i Y:Nat}(ht:TabOK t)(he:t.es=[])(hf:Found (λu:Tab=>Dx u.ks t.ks) a.ts (i,false)):ArOK {a with Tb:=Y,ts:=a.ts.take i++t::a.ts.drop i}:=by
 have hk:DR (a.ts.take i++t::a.ts.drop i)=DR a.ts:=by
  rw[Ff,Gf,he]
  conv=>rhs;rw[<-Bi i a.ts,Ff]
  rfl
 have hm:∀u,u∈a.ts.take i++t::a.ts.drop i↔u=t\/u∈a.ts:=λu=>by
  conv=>rhs;rw[<-Bi i a.ts]
  simp only[FH,Cq];constructor
  ·rintro(h|h|h)
   ·exact .inr (.inl h)
   ·exact .inl h
   ·exact .inr (.inr h)
  ·rintro(h|h|h)
   ·exact .inr (.inl h)
   ·exact .inl h
   ·exact .inr (.inr h)
 refine⟨λu hu=>?_,T7 h.ord (h.mono _) hf rfl,by rw[hk];exact h.keys,λu hu=>?_,λn u hg=>?_,λn hn=>h.gn n (by rw[hk]at hn;exact hn),by rw[hk];exact h.cnt⟩
 ·rcases(hm u).1 hu with rfl|hu
  ·exact ht
  ·exact h.tab u hu
 ·rcases(hm u).1 hu with rfl|hu
  ·rw[he];intro e he;cases he
  ·exact h.ent u hu
 ·obtain⟨w,hw,h2⟩:=h.g n u hg
  exact⟨w,(hm w).2 (.inr hw),h2⟩
theorem Pf{ts:List Tab}{t:Tab}(he:t.es=[]):B9 (ts.take i++t::ts.drop i)=B9 ts:=by
 rw[Eg,Ep,Di,he]
 conv=>rhs;rw[<-Bi i ts,Eg]
 rfl
theorem RH{ts:List Tab}{t:Tab}(he:t.es=[]):DR (ts.take i++t::ts.drop i)=DR ts:=by
 rw[Ff,Gf,he]
 conv=>rhs;rw[<-Bi i ts,Ff]
 rfl
structure CsUp(n:Int)(l:List Comp)(i:Nat)(cs cs':List (StK×List (Int×List Int))):Prop where
 len:cs'.length=cs.length
 X:∀j (h:j<cs.length) (h':j<cs'.length),cs'[j].1.X=cs[j].1.X
 c:∀j (h:j<cs.length) (h':j<cs'.length),cs'[j].2=if j<i then DA cs[j].2 n ((l[j]?.map (·.vals)).getD [])else cs[j].2
theorem CsUp.zero(n:Int)(l:List Comp)(cs:List (StK×List (Int×List Int))):CsUp n l 0 cs cs:=⟨rfl,λ_ _ _=>rfl,λj h h'=>by rw[Ah (by omega)]⟩
theorem CsUp.ptrs{l:List Comp}{cs cs':List (StK×List (Int×List Int))}(h:CsUp n l i cs cs'):cs'.map (λc=>AV.ptr c.1.X 0 0)=cs.map (λc=>AV.ptr c.1.X 0 0):=by
 refine CO (by simp[h.len]) λj h1 h2=>?_
 rw[Eb,Eb,h.X j (by simpa using h2) (by simpa using h1)]
theorem CsUp.next{l:List Comp}{cs cs':List (StK×List (Int×List Int))}(h:CsUp n l i cs cs'){l1 l2:List (StK×List (Int×List Int))}{c:StK×List (Int×List Int)}{v:List Int}(e:cs'=l1++c::l2)(h1:l1.length=i)(hv:l[i]?.map (·.vals)=some v)(k:StK)(hk:k.X=c.1.X):CsUp n l (i+1) cs (l1++(k,DA c.2 n v)::l2):=by
 have hlen:=h.len;have hl:cs'.length=l1.length+(l2.length+1):=by rw[e];simp
 have hi':i<cs'.length:=by omega
 have hc:cs'[i]=c:=by
  have:cs'[i]?=some c:=by rw[e,BK (by omega),h1,DY];rfl
  rw[Ag hi']at this;injection this
 have hold:∀j (hj:j<cs'.length),j≠i->(l1++(k,DA c.2 n v)::l2)[j]'(by simp;omega)=cs'[j]:=λj hj hne=>by
  have h3:(l1++(k,DA c.2 n v)::l2)[j]?=cs'[j]?:=by
   rw[e];by_cases hji:j<i
   ·rw[B5 (by omega),B5 (by omega)]
   ·rw[BK (by omega),BK (by omega),show j-l1.length=(j-i-1)+1 by omega]
    rfl
  rw[Ag hj,Ag (by simp;omega)]at h3;injection h3
 have hnew:(l1++(k,DA c.2 n v)::l2)[i]'(by simp;omega)=(k,DA c.2 n v):=by
  have h3:(l1++(k,DA c.2 n v)::l2)[i]?=some (k,DA c.2 n v):=by rw[BK (by omega),h1,DY];rfl
  rw[Ag (by simp;omega)]at h3;injection h3
 refine⟨by simp;omega,λj hj hj'=>?_,λj hj hj'=>?_⟩
 ·by_cases hne:j=i
  ·subst hne
   rw[hnew,hk,<-hc];exact h.X j hj hi'
  ·rw[hold j (by omega) hne]
   exact h.X j hj (by omega)
 ·by_cases hne:j=i
  ·subst hne
   have:=h.c j hj hi';rw[Ah (by omega),hc]at this;rw[hnew,A1 (by omega),hv,this];rfl
  ·rw[hold j (by omega) hne,h.c j hj (by omega)]
   by_cases hji:j<i
   ·rw[A1 hji,A1 (by omega)]
   ·rw[Ah hji,Ah (by omega)]
section
section
variable {t:Tab}{e:Ent}{l:List Comp}{cs:List (StK×List (Int×List Int))}{k:StK}
abbrev upT(t:Tab)(k:StK)(e:Ent)(cs:List (StK×List (Int×List Int))):Tab:=⟨t.X,t.ks,k,DA t.es e.n e,cs⟩
theorem CsUp.at{l:List Comp}{cs cs':List (StK×List (Int×List Int))}(h:CsUp n l i cs cs'){c:StK×List (Int×List Int)}(hc:c∈cs'):∃j,∃h1:j<cs.length,∃h2:j<cs'.length,cs'[j]=c:=by
 obtain⟨j,hj,rfl⟩:=B4 hc;exact⟨j,by rw[<-h.len];exact hj,hj,rfl⟩
theorem TabOK.up(h:TabOK t)(hn:0<=e.n/\e.n<256)(hf:e.n∉BB t.es)(hu:CsUp e.n l t.cs.length t.cs cs):TabOK (upT t k e cs):=by
 refine⟨by rw[hu.len];exact h.len,h.ks,h.es.put hn e,λc hc=>?_,λc hc n=>?_⟩
 ·obtain⟨j,h1,h2,rfl⟩:=hu.at hc
  rw[hu.c j h1 h2,A1 h1];exact(h.cs _ (BG h1)).put hn _
 ·obtain⟨j,h1,h2,rfl⟩:=hu.at hc
  have hk:=h.keys _ (BG h1);have hfc:e.n∉BB t.cs[j].2:=λhm=>hf ((hk _).1 hm)
  rw[hu.c j h1 h2,A1 h1];show n∈BB (DA _ _ _)↔n∈BB (DA t.es e.n e)
  rw[D6 hfc,D6 hf,BB,BB,AJ,AJ,FH,FH];exact or_congr (hk n) (by simp)
theorem PM(h:TabOK t)(hn:0<=e.n/\e.n<256)(hu:CsUp e.n l t.cs.length t.cs cs)(hne:n≠e.n):Cr (upT t k e cs) n=Cr t n:=by
 have hlen:=h.len;have hl:=hu.len;refine CO (by simp[Cr];omega) λi h1 h2=>?_
 have hc:i<t.cs.length:=by simp[Cr]at h2;omega
 have hk:i<t.ks.length:=by omega
 rw[HX h2 hk hc,HX (t:=upT t k e cs) h1 hk (by show i<cs.length;omega)];show(⟨_,(FE (cs[i]'(by omega)).2 n).getD []⟩:Comp)=_
 rw[hu.c i hc (by omega),A1 hc,MX (h.cs _ (BG hc)) hn,Ah hne]
theorem PN(h:TabOK t)(hn:0<=e.n/\e.n<256)(hks:t.ks=l.map (·.kind))(hu:CsUp e.n l t.cs.length t.cs cs):Cr (upT t k e cs) e.n=l:=by
 have hlen:=h.len;have hl:=hu.len;have hkl:t.ks.length=l.length:=by rw[hks,AD]
 refine CO (by simp[Cr];omega) λi h1 h2=>?_
 have hc:i<t.cs.length:=by omega
 have hk:i<t.ks.length:=by omega
 rw[HX (t:=upT t k e cs) h1 hk (by show i<cs.length;omega)];show(⟨t.ks[i],(FE (cs[i]'(by omega)).2 e.n).getD []⟩:Comp)=_
 rw[hu.c i hc (by omega),A1 hc,MX (h.cs _ (BG hc)) hn,A1 rfl,Ag h2];have:t.ks[i]=l[i].kind:=by simp[hks]
 rw[this];rfl
theorem Qv(h:TabOK t)(hn:0<=e.n/\e.n<256)(hf:e.n∉BB t.es)(hks:t.ks=l.map (·.kind))(hu:CsUp e.n l t.cs.length t.cs cs):Di (upT t k e cs)=Di t++[⟨e,l⟩]:=by
 unfold Di;show(DA t.es e.n e).map _=_
 rw[D6 hf,AJ,AR,Bj,PN h hn hks hu]
 congr 1
 refine FU λp hp=>?_
 rw[PM h hn hu];intro e2;exact hf (by rw[<-e2];exact BH.2 ⟨p,hp,rfl⟩)
end
theorem ArOK.up{a:Ar}{l1 l2:List Tab}{t:Tab}{e:Ent}{l:List Comp}{cs:List (StK×List (Int×List Int))}{k:StK}{K':AV->Value->Prop}{b:Nat}(h:ArOK a)(hts:a.ts=l1++t::l2)(hn:0<=e.n/\e.n<256)(hf:e.n∉DR a.ts)(hu:CsUp e.n l t.cs.length t.cs cs)(hK:∀v u,a.K v u->K' v u)(hKt:K' (.ptr t.X 0 0) (.pointer (some ⟨b,0,none⟩))):
  ArOK {a with ts:=l1++upT t k e cs::l2,K:=K',g:=Hw a.g e.n (.pointer (some ⟨b,0,none⟩)),c:=a.c+1}:=by
 have htm:t∈a.ts:=by rw[hts];simp
 have hft:e.n∉BB t.es:=λhm=>hf (Dc.2 ⟨t,htm,hm⟩)
 have hmem:∀u,u∈l1++upT t k e cs::l2->u=upT t k e cs\/u∈a.ts:=λu hu=>by
  rw[hts];rcases AN.1 hu with hu|hu
  ·exact .inr (by simp[hu])
  ·rcases AW.1 hu with hu|hu
   ·exact .inl hu
   ·exact .inr (by simp[hu])
 have hke:BB (DA t.es e.n e)=BB t.es++[e.n]:=by rw[D6 hft,BB,AJ];rfl
 have hkeys:(DR (l1++upT t k e cs::l2)).Perm (e.n::DR a.ts):=by
  rw[hts,Ff,Gf,Ff,Gf];show(DR l1++(BB (DA t.es e.n e)++DR l2)).Perm _
  rw[hke,BC]
  have:(DR l1++(BB t.es++([e.n]++DR l2))).Perm ([e.n]++(DR l1++(BB t.es++DR l2))):=by
   refine((D1 (BB t.es) [e.n] (DR l2)).append_left (DR l1)).trans ?_;exact D1 _ _ _
  exact this
 refine⟨λu hu'=>?_,?_,hkeys.nodup_iff.2 (Bs.2 ⟨hf,h.keys⟩),λu hu'=>?_,λn u hg=>?_,λn hn'=>?_,?_⟩
 ·rcases hmem u hu' with rfl|hu'
  ·exact(h.tab t htm).up hn hft hu
  ·exact h.tab u hu'
 ·have ho:=h.ord
  rw[hts]at ho;rw[Dh,BD]at ho⊢
  exact⟨ho.1,⟨λx hx=>ho.2.1.1 x hx,ho.2.1.2⟩,λx hx y hy=>by
   rcases AW.1 hy with rfl|hy
   ·exact ho.2.2 x hx t (by simp)
   ·exact ho.2.2 x hx y (by simp[hy])⟩
 ·rcases hmem u hu' with rfl|hu'
  ·intro p hp
   have hp:p∈DA t.es e.n e:=hp;rw[D6 hft]at hp;rcases AN.1 hp with hp|hp
   ·exact h.ent t htm p hp
   ·rw[DO]at hp
    subst hp;rfl
  ·exact h.ent u hu'
 ·replace hg:(if n=e.n then some (Value.pointer (some ⟨b,0,none⟩))else a.g n)=some u:=hg
  split at hg
  ·rename_i e1
   subst e1;injection hg with hg
   subst hg;refine⟨upT t k e cs,by simp,?_,hKt,b,rfl⟩;show e.n∈BB (DA t.es e.n e)
   rw[hke];simp
  ·obtain⟨w,hw,h2,h3,h4⟩:=h.g n u hg
   rw[hts]at hw;rcases AN.1 hw with hw|hw
   ·exact⟨w,by simp[hw],h2,hK _ _ h3,h4⟩
   ·rcases AW.1 hw with rfl|hw
    ·refine⟨upT w k e cs,by simp,?_,hK _ _ h3,h4⟩
     show n∈BB (DA w.es e.n e)
     rw[hke];simp[h2]
    ·exact⟨w,by simp[hw],h2,hK _ _ h3,h4⟩
 ·have hn':=hkeys.mem_iff.1 hn'
  show(Hw a.g e.n _ n).isSome=true
  unfold Hw;split
  ·rfl
  ·rename_i hne
   rcases AW.1 hn' with e2|hn'
   ·exact absurd e2 hne
   ·exact h.gn n hn'
 ·show a.c+1=_
  rw[hkeys.length_eq,EK,h.cnt]
theorem Sb{l1 l2:List Tab}{t:Tab}{e:Ent}{l:List Comp}{cs:List (StK×List (Int×List Int))}{k:StK}(h:TabOK t)(hn:0<=e.n/\e.n<256)(hf:e.n∉BB t.es)(hks:t.ks=l.map (·.kind))(hu:CsUp e.n l t.cs.length t.cs cs):(B9 (l1++upT t k e cs::l2)).Perm (⟨e,l⟩::B9 (l1++t::l2)):=by
 rw[Eg,Ep,Eg,Ep,Qv h hn hf hks hu,BC]
 have:(B9 l1++(Di t++([(⟨e,l⟩:Item)]++B9 l2))).Perm ([(⟨e,l⟩:Item)]++(B9 l1++(Di t++B9 l2))):=by
  refine((D1 (Di t) [(⟨e,l⟩:Item)] (B9 l2)).append_left (B9 l1)).trans ?_;exact D1 _ _ _
 exact this
theorem V3{l1 l2:List Tab}{t:Tab}{e:Ent}{cs:List (StK×List (Int×List Int))}{k:StK}(h1:Jg l1)(h2:Jg l2)(hf:e.n∉BB t.es):Jg (l1++upT t k e cs::l2):=λu hu=>by
 rcases AN.1 hu with hu|hu
 ·exact h1 u hu
 ·rcases AW.1 hu with rfl|hu
  ·show DA t.es e.n e≠[]
   rw[D6 hf];simp
  ·exact h2 u hu
end
theorem Ph(X V n i:Nat)(l:List AV)(e:AV)(hn:n=l.length)(hi:i<=n)(hb:(n+1)*8<=140737488355328)(hfr:FreeL l)(hfe:FreeE e)(hw:∀x∈l,x.width=1)(hwe:e.width=1)(hze:AV.frzs [e]=[e]):
  Spec prog 123 [.sl X 0 n,iA i,.sl V 0 1] [(X,.row 117 1 l),(V,.row 117 1 [e])] λr S'=>r= .lst true 117 1 (l.take i++e::l.drop i)/\S'=[]:=by
 refine Sp (nt:=95) (res:=[.tmp 6]) func123 λSf=>?_
 have hfV:FreeL [e]:=λx hx=>by rw[AS.1 hx];exact hfe
 have hwV:∀x∈[e],x.width=1:=λx hx=>by rw[AS.1 hx];exact hwe
 refine R1 ?_;refine RG ?_;refine WO ?_;refine WO ?_;refine AQ (W.slice_lo rfl rfl (by exact AY) rfl (by omega)) rfl ?_;refine NL ?_;refine R1 ?_;refine R1 ?_;refine Aa rfl rfl ?_;refine R1 ?_;refine R1 ?_;by_cases hin:i=n
 ·refine BE rfl (Br (by omega)) ?_
  refine Ls 2 [e] hze ?_;have hbb:(n+[e].length)*8<=140737488355328:=hb;refine KK ?_;refine Ay λY=>?_;refine KK ?_
  refine RT ?_;have hm:n+[e].length=(l++[e]).length:=by rw[Ax,hn]
  have hr:l++[e]=l.take i++e::l.drop i:=by rw[hin,hn,DJ,C0]
  rw[<-hr];exact⟨[.sl Y 0 (n+[e].length)],[.lst true 117 1 (l++[e])],_,[],.cons (.tmp rfl) rfl .nil,.cons (.cell (.sl (p:=0) .here hm)) .nil,by exact Av,rfl,rfl⟩
 ·refine Aa rfl (Bd (by omega)) ?_
  refine AWP.cap X λZ c u0 hc hnc=>?_
  refine RG ?_;(iterate 4 refine WO ?_);refine AQ (W.cap hc rfl (by exact AY) (by exact AY)) rfl ?_;refine JC ?_;refine AB rfl (λhg=>?_) (λhg=>?_)
  ·have hcn:c<n+1:=by rw[As]at hg;omega
   refine A9 λY=>?_
   refine RG ?_;(repeat first|(refine AX ?_;first|refine AQ (W.hi (a:=i) rfl rfl (by exact AY) rfl hi) rfl ?_|refine AQ (BS ((n+1-i:Nat):Int) (by omega) (by omega) rfl rfl) rfl ?_|refine CM (Nl (n+1-i) hc rfl rfl (by exact AY) (by exact AY) (by exact AY) rfl (by exact .inr rfl) (by rfl) (by kernel_rfl) (by omega) (by omega) (by decide) (by omega) (by omega) hfr) rfl ?_)|refine WO ?_|refine Ai λX=>?_|refine Ay λY=>?_);have hsum:i+(n+1-i)=n+1:=by omega
   obtain⟨l1,hl1⟩:=nm (l.take i++List.replicate (n+1-i) (zAV [.pointer none] false));have hti:(l.take i).length=i:=by rw[BA];omega
   have hl1n:l1.length=n+1:=by rw[<-hl1,Ax,hti,Ci,hsum]
   have hfr1:FreeL l1:=λx hx=>by
    rw[<-hl1]at hx;rcases AN.1 hx with hx|hx
    ·exact hfr x (Ad hx)
    ·rw[Cg hx]
     exact FreeE.prim _
   have htk:l1.take i=l.take i:=by rw[<-hl1,Cy hti]
   rw[hl1,hsum];refine JB ?_;refine WO ?_;refine WO ?_;refine AQ (W.slice_lo rfl rfl (by exact AY) rfl (by omega)) rfl ?_;refine WO ?_;refine CM (W.copyO 1 rfl rfl (by exact AY) (by exact AY) (by rfl) (by omega) (by omega) (by omega) (by omega) (by exact AP _) hfr1 hfV hwV) rfl ?_;obtain⟨l2,hl2⟩:=nm (l1.take (0+i)++([e].drop 0).take 1++l1.drop (0+i+1));rw[hl2];have hl2n:l2.length=n+1:=by rw[<-hl2];simp only[Ax,BA,Bb,CG];omega
   have hfr2:FreeL l2:=λx hx=>by
    rw[<-hl2]at hx;rcases AN.1 hx with hx|hx
    ·rcases AN.1 hx with hx|hx
     ·exact hfr1 x (Ad hx)
     ·exact hfV x (Ae (Ad hx))
    ·exact hfr1 x (Ae hx)
   have htk2:l2.take (0+(i+1))=l.take i++[e]:=by
    rw[<-hl2,Af,Af,htk];exact Cy (by simp[hti])
   refine FL ?_;refine RU ?_;(iterate 3 refine RK ?_);refine BQ ?_ (Bh ((i+1:Nat):Int) (by omega) (by omega) rfl rfl);refine BQ ?_ (W.slice_lo rfl rfl (by exact AY) rfl (by omega));refine JE ?_;refine BQ ?_ (W.slice_lo rfl rfl (by exact AY) rfl (by omega));refine Ea ?_ (W.copyO (n-i) rfl rfl (by exact AY) (by exact AY) (by rfl) (by omega) (by omega) (by omega) (by omega) (by omega) hfr2 hfr hw);refine RGo.nil (by kernel_rfl) ?_;obtain⟨l3,hl3⟩:=nm (l2.take (0+(i+1))++(l.drop (0+i)).take (n-i)++l2.drop (0+(i+1)+(n-i)));rw[hl3]
   have hr:l3=l.take i++e::l.drop i:=by
    have e1:l2.drop (0+(i+1)+(n-i))=[]:=BP (by omega);have e2:(l.drop (0+i)).take (n-i)=l.drop i:=by rw[Af];exact Al (by rw[Bb];omega)
    rw[<-hl3,htk2,e1,e2,BL,BC];rfl
   have hm:n+1=l3.length:=by
    rw[hr];simp only[Ax,EK,Bb,hti];omega
   refine JA ?_;rw[<-hr];exact⟨[.sl Y 0 (n+1)],[.lst true 117 1 l3],_,[],.cons (.tmp rfl) rfl .nil,.cons (.cell (.sl (p:=0) .here hm)) .nil,by exact Av,rfl,rfl⟩
  ·have hcn:n+1<=c:=by rw[Aq]at hg;omega
   refine RG ?_;(iterate 4 refine WO ?_);refine AQ (LZ (n+1) hc rfl rfl (by exact AY) (by exact AY) (by omega) hcn) rfl ?_;refine JC ?_;refine RG ?_;(iterate 4 refine WO ?_);refine AQ (Bh ((i+1:Nat):Int) (by omega) (by omega) rfl rfl) rfl ?_;refine AQ (W.slice_lo rfl rfl (by exact AY) rfl (by omega)) rfl ?_;refine AQ (W.over (t:=113) (tR:=4) func171 (by kernel_rfl) (by kernel_rfl) (by kernel_rfl) (by kernel_rfl) rfl rfl (by exact AY) (by exact AY) (by rfl) (by decide) (by omega) (by omega)) rfl ?_;refine WO ?_;refine FL ?_;refine BE rfl rfl ?_;refine RU ?_;(iterate 3 refine RK ?_);refine BQ ?_ (Bh ((i+1:Nat):Int) (by omega) (by omega) rfl rfl);refine BQ ?_ (W.slice_lo rfl rfl (by exact AY) rfl (by omega));refine JE ?_;refine BQ ?_ (W.slice_lo rfl rfl (by exact AY) rfl (by omega));refine Ea ?_ (W.copyS (n-i) rfl rfl (by exact AY) (by omega) (by omega) (by omega) (by omega) (by omega) hfr hw);refine RGo.nil (by kernel_rfl) ?_;have hti:(l.take i).length=i:=by rw[BA];omega
   obtain⟨l1,hl1⟩:=nm (l.take (0+(i+1))++(l.drop (0+i)).take (n-i)++l.drop (0+(i+1)+(n-i)));rw[hl1];have hti1:(l.take (i+1)).length=i+1:=by rw[BA];omega
   have hl1e:l1=l.take (i+1)++l.drop i:=by
    have e1:l.drop (0+(i+1)+(n-i))=[]:=BP (by omega);have e2:(l.drop (0+i)).take (n-i)=l.drop i:=by rw[Af];exact Al (by rw[Bb];omega)
    rw[<-hl1,e1,e2,BL,Af]
   have hfr1:FreeL l1:=λx hx=>by
    rw[hl1e]at hx;rcases AN.1 hx with hx|hx
    ·exact hfr x (Ad hx)
    ·exact hfr x (Ae hx)
   have hl1n:l1.length=n+1:=by rw[hl1e,Ax,hti1,Bb];omega
   have htk:l1.take i=l.take i:=by rw[hl1e,Bq (by omega),Cj,BJ (by omega)]
   have hdr:l1.drop (i+1)=l.drop i:=by rw[hl1e,Hs hti1]
   refine RG ?_;refine WO ?_;refine WO ?_;refine AQ (W.slice_lo rfl rfl (by exact AY) rfl (by omega)) rfl ?_;refine WO ?_;refine CM (W.copyO 1 rfl rfl (by exact AY) (by exact AY) (by rfl) (by omega) (by omega) (by omega) (by omega) (by exact AP _) hfr1 hfV hwV) rfl ?_;obtain⟨l2,hl2⟩:=nm (l1.take (0+i)++([e].drop 0).take 1++l1.drop (0+i+1));rw[hl2]
   have hr:l2=l.take i++e::l.drop i:=by
    rw[<-hl2,Af,htk,hdr,BC];rfl
   have hm:n+1=l2.length:=by
    rw[hr];simp only[Ax,EK,Bb,hti];omega
   refine FL ?_;refine JA ?_;rw[<-hr];exact⟨[.sl X 0 (n+1)],[.lst true 117 1 l2],_,[],.cons (.tmp rfl) rfl .nil,.cons (.cell (.sl (p:=1) (.next .here) hm)) .nil,by exact Av,rfl,rfl⟩
instance mapIT:TMap prog 112 3 117 (.pointer none):=⟨by kernel_rfl,by kernel_rfl,λw=>by kernel_rfl,PlainV.nil (te:=123) (by kernel_rfl)⟩
theorem OG(x:Nat):FreeE (.ptr x 0 0):=λm c bs k=>by
 simp only[VC]at k;exact k.1
theorem SO(A B1 B2 C Z:List AK):(A++(B1++(B2++(C++Z)))).Perm (B1++(B2++((C++(A++[]))++Z))):=by
 rw[BL];have:=D1 A (B1++(B2++C)) Z;simpa[BC]using this
theorem Spec.tt{P:Program}{f:FuncId}{args:List AV}{S:List AK}{β:Type}{r:β->AV}{So:β->List AK}(h:Spec P f args S λr' S'=>∃q,r'=r q/\S'=So q):Spec P f args S λr' S'=>∃q,(λ_:β=>True) q/\r'=r q/\S'=So q:=h.mono λr' S' ⟨q,h⟩=>⟨q,C9,h⟩
theorem Qr{ts:List Tab}{t:Tab}(h:t∈ts):∃R,(Dm ts).Perm ([J3 t]++R):=by
 obtain⟨l1,l2,rfl⟩:=List.append_of_mem h;refine⟨(stE t.ek t.es++EB t.cs)++(Dm l1++Dm l2),?_⟩;have:=GM (l1:=l1) (l2:=l2) (t:=t) [];simp only[BL]at this;exact this
theorem S8(ts:List Tab)(t:Tab)(ht:t∈ts)(ks:List Int)(hl:t.ks.length<=1099511627776):Spec prog 119 [.ptr t.X 0 0,BU false ks] (Dm ts) λr S'=>r=iA (Dx t.ks ks)/\S'=Dm ts:=by
 obtain⟨R,hp⟩:=Qr ht;refine Spec.perm ((Ua t ks hl).beside R) hp λr S' hq=>?_
 obtain⟨S1,e1,e2,e3⟩:=hq;refine⟨Dm ts,?_,e2,rfl⟩;rw[e1,e3];exact hp.symm
theorem Vc(a:Ar)(e:Ent)(l:List Comp)(ha:ArOK a)(hne:Jg a.ts)(hn:0<=e.n/\e.n<256)(hf:e.n∉DR a.ts)(hl:l.length<=16):
  Spec prog 56 [.ptr a.A 0 0,CH e,Bp false false l] (arS a) λr S'=>∃b:Ar,(ArOK b/\Jg b.ts/\b.A=a.A/\b.kinds=a.kinds/\b.gens=a.gens/\(B9 b.ts).Perm (⟨e,l⟩::B9 a.ts))/\r= .tup []/\S'=arS b:=by
 obtain⟨ks,hks⟩:=nm (l.map (·.kind));have hkl:ks.length=l.length:=by rw[<-hks,AD]
 have hkm:(ks.map iA).length=ks.length:=AD _;have hko:=Pd l (by omega);rw[hks]at hko;have htl:=ha.ts_le hne;have hsr:=PU a.Tb a.ts Tab.X (Dm a.ts) ks 119 (λt:Tab=>Dx t.ks ks) (by omega) (λt ht=>S8 a.ts t ht ks (by have:=(ha.tab t ht).ks;omega));refine Sp (nt:=98) (res:=[]) func56 λSf=>?_
 refine RG ?_;refine WO ?_;refine Ai λB=>?_;refine NL ?_
 refine JB ?_;refine WO ?_;refine DQ (h:=(hko ..)) (k:=?_);refine JC ?_;refine JB ?_;(iterate 5 refine WO ?_);refine KN [_,_,_,_,_] (h:=hsr) λb hb=>?_;refine KO ?_
 obtain⟨i,fd⟩:=b;dsimp only
 skip
 refine AOps.nil ?_;refine JD ?_;refine Jh (λz:Ar×List Tab×Tab×List Tab=>ArOK z.1/\z.1.ts=z.2.1++z.2.2.1::z.2.2.2/\z.2.2.1.ks=ks/\Jg z.2.1/\Jg z.2.2.2/\z.2.1.length=i/\z.1.A=a.A/\z.1.kinds=a.kinds/\z.1.gens=a.gens/\DR z.1.ts=DR a.ts/\B9 z.1.ts=B9 a.ts) (λz=>⟨[(0,.ptr a.A 0 0),(2,Bp false false l),(4,.ptr B 0 0),(7,iA i)],(B,.row 32 2 [CH e])::(arS z.1++Sf)⟩) ?_ ?_
 ·cases fd with
  |true=>
   refine Aa rfl rfl ?_;obtain⟨t,ht,hz⟩:=hb.eq.1 rfl;obtain⟨hi,rfl⟩:=AC.1 ht;obtain⟨l1,l2,e1,e2⟩:=Ha hi;have h1:Jg l1:=λu hu=>hne u (by rw[e1];simp[hu])
   have h2:Jg l2:=λu hu=>hne u (by rw[e1];simp[hu])
   refine KK ?_;refine jnR (a,l1,a.ts[i],l2) ⟨ha,e1,cmpL_zero.1 hz,h1,h2,e2,rfl,rfl,rfl,rfl,rfl⟩ ⟨by exact EL,?_⟩;simp only[arS,EX,DX];exact Dt _
  |false=>
   refine BE rfl rfl ?_;refine JB ?_;refine WO ?_;refine Ux (C:=λ_=>True) [] (h:=newE_sp.mono λr' S' ⟨k,e1,e2⟩=>⟨k,C9,e1,e2⟩) λek _=>?_;refine KO ?_;refine Ai λX=>?_;refine WO ?_
   refine AOps.nil ?_;refine FL ?_;refine C1 (Y:=X) 209 1 .here (λC=>.cons (.agg (.s (.s (.cons (.base .nil) .nil)))) .nil) λC=>?_
   refine R1 ?_;refine FL ?_;refine AH ek.M ?_;refine AH ek.R ?_;refine AH ek.V ?_;refine AH ek.X ?_;refine AH B ?_;refine AH X ?_;refine AH C ?_;refine GD (λ(j C:Nat) (cs:List (StK×List (Int×List Int)))=>⟨[(0,.ptr a.A 0 0),(2,Bp false false l),(4,.ptr B 0 0),(6,BU false ks),(7,iA i),(9,.ptr X 0 0),(31,iA (ks.map iA).length),(32,iA j)],(C,.row 209 1 (cs.map λc=>.ptr c.1.X 0 0))::(X,.row 123 3 [.agg [BU false ks,.ptr ek.X 0 0,.sl C 0 cs.length]])::(B,.row 32 2 [CH e])::(stE ek []++(arH a++(EB cs++(Dm a.ts++Sf))))⟩) (λj C cs=>j<=ks.length/\cs.length=j/\∀c∈cs,c.2=[]) (λj _ _=>ks.length-j) 0 C [] ⟨by omega,rfl,by simp⟩ ?_;rintro j C cs ⟨hj,hcl,hce⟩;have hpl:(cs.map λc=>AV.ptr c.1.X 0 0).length=cs.length:=AD _;refine R1 ?_;refine FL ?_;refine AB rfl (λh=>?_) (λh=>?_)
   ·have h:j<ks.length:=by rw[As,hkm]at h;omega
    refine FL ?_;refine A9 λY1=>A9 λY2=>A9 λY3=>A9 λY4=>A9 λY5=>?_
    (repeat refine WF ?_);refine AWP.region_runE (by kernel_rfl) (by kernel_rfl) ?_;(repeat refine Ue ?_);refine Ud Y1 Y2 Y3 Y4 ⟨0,0,0,0⟩ T8 λk=>?_
    refine Gs (AV.ptr k.X 0 0) ?_;(iterate 4 refine RK ?_);refine RGo.nil (by kernel_rfl) ?_;have hma:(cs.map λc=>AV.ptr c.1.X 0 0)++[AV.ptr k.X 0 0]=(cs++[(k,([]:List (Int×List Int)))]).map λc=>AV.ptr c.1.X 0 0:=by rw[AJ];rfl
    have hml:cs.length+[AV.ptr k.X 0 0].length=(cs++[(k,([]:List (Int×List Int)))]).length:=by rw[Ax];rfl
    rw[hma,hml];refine FL ?_;refine AH k.M ?_;refine AH k.R ?_;refine AH k.V ?_;refine AH k.X ?_;refine AH B ?_;refine AH C ?_;refine AH X ?_;refine AH Y5 ?_;refine AWP.perm (S':=(Y5,.row 209 1 ((cs++[(k,([]:List (Int×List Int)))]).map λc=>AV.ptr c.1.X 0 0))::(X,.row 123 3 [.agg [BU false ks,.ptr ek.X 0 0,.sl Y5 0 (cs++[(k,([]:List (Int×List Int)))]).length]])::(C,.used)::(B,.row 32 2 [CH e])::(stE ek []++(arH a++(EB (cs++[(k,([]:List (Int×List Int)))])++(Dm a.ts++Sf))))) ?_ ?_
    ·refine Bf _ (Bf _ (Bf _ (Bf _ ?_)))
     rw[Hl,Gn];exact SO (stS k []) (stE ek []) (arH a) (EB cs) (Dm a.ts++Sf)
    ·refine R1 ?_
     exact Ek (j+1) Y5 (cs++[(k,[])]) ⟨by omega,by rw[Ax,hcl];rfl,λc hc=>by
      rcases AN.1 hc with hc|hc
      ·exact hce c hc
      ·rw[DO]at hc;subst hc;rfl⟩ (by omega)
   ·have h:j=ks.length:=by rw[Aq,hkm]at h;omega
    have hF:AV.frzs (((cs.map λc=>AV.ptr c.1.X 0 0).drop 0).take cs.length)=cs.map λc=>AV.ptr c.1.X 0 0:=by
     rw[Dq,Al (by omega),Fp,Ct];rfl
    refine FL ?_;refine Ht (X:=C) (Y:=X) .here (.next .here) rfl (.cons (.agg (.s (.s (.cons (.base (.sl (by omega))) .nil)))) .nil) ?_;rw[hF];have hi:=hb.le;dsimp only at hi;have hpt:(ptrs Tab.X a.ts).length=a.ts.length:=AD _;refine A9 λY=>A9 λK2=>?_
    refine RG ?_;(iterate 7 refine WO ?_);refine CM (W.lit1 (X:=K2) (l:=[.ptr X 0 0]) (by exact rfl) (by exact AY) (by exact rfl) (by exact .inr rfl) (by decide) (by decide) (by exact rfl)) rfl ?_;have hfq:FreeL (ptrs Tab.X a.ts):=λx hx=>by obtain⟨y,_,rfl⟩:=BH.1 hx;exact OG _
    have hwq:∀x∈ptrs Tab.X a.ts,x.width=1:=λx hx=>by obtain⟨y,_,rfl⟩:=BH.1 hx;rfl
    have hins:=(Ph a.Tb K2 a.ts.length i (ptrs Tab.X a.ts) (.ptr X 0 0) hpt.symm hi (by omega) hfq (OG _) hwq rfl rfl).used2;refine I8 hins (.ls (Y:=Y)) ?_;refine KO ?_;obtain⟨t',ht'⟩:∃t':Tab,t'=⟨X,ks,ek,[],cs⟩:=⟨_,rfl⟩
    have hrow:(ptrs Tab.X a.ts).take i++ .ptr X 0 0::(ptrs Tab.X a.ts).drop i=ptrs Tab.X (a.ts.take i++t'::a.ts.drop i):=by
     rw[ptrs,ptrs,AJ,F0,AR,List.map_drop,ht']
    have hrl:(ptrs Tab.X (a.ts.take i++t'::a.ts.drop i)).length=(a.ts.take i++t'::a.ts.drop i).length:=AD _;rw[hrow,hrl];dsimp only[A5,List.set_cons_zero,List.set_cons_succ,EX,DX];refine Cw ek.M ?_;refine Cw ek.R ?_;refine Cw ek.V ?_;refine Cw ek.X ?_;refine Cw X ?_;refine Cw Y ?_;refine Cw a.Tv ?_;refine Cw a.O ?_;refine Cw a.G ?_;refine Cw a.A ?_;refine Cw B ?_;refine Cw a.Tb ?_;refine Cw C ?_;refine Cw K2 ?_;obtain⟨a',ha'⟩:∃a':Ar,a'={a with Tb:=Y,ts:=a.ts.take i++t'::a.ts.drop i}:=⟨_,rfl⟩
    have htok:TabOK t':=by
     rw[ht'];exact⟨by dsimp only;omega,by dsimp only;omega,⟨Np,by simp⟩,λc hc=>by rw[hce c hc];exact⟨Np,by simp⟩,λc hc n=>by rw[hce c hc];exact Iff.rfl⟩
    have hte:t'.es=[]:=by rw[ht']
    have htk:t'.ks=ks:=by rw[ht']
    have hb':Found (λu:Tab=>Dx u.ks t'.ks) a.ts (i,false):=by rw[htk];exact hb
    have hok:ArOK a':=by rw[ha'];exact ha.newT htok hte hb'
    refine AOps.perm (S':=(K2,.used)::(C,.used)::(a.Tb,.used)::(B,.row 32 2 [CH e])::(arS a'++Sf)) ?_ ?_
    ·refine Bf _ (Bf _ (Bf _ (Bf _ ?_)))
     subst ha';refine Bf _ (Bf _ (Bf _ (Bf _ (Bf _ ?_))));have hz:=GM (l1:=a.ts.take i) (l2:=a.ts.drop i) (t:=t') Sf;have hz2:Dm (a.ts.take i)++(Dm (a.ts.drop i)++Sf)=Dm a.ts++Sf:=by rw[<-BC,<-MS,Bi]
     rw[hz2]at hz;subst ht';exact hz.symm
    ·refine AOps.nil ?_
     refine FL ?_;subst ha';refine jnR ({a with Tb:=Y,ts:=a.ts.take i++t'::a.ts.drop i},a.ts.take i,t',a.ts.drop i) ⟨hok,rfl,htk,λu hu=>hne u (Ad hu),λu hu=>hne u (Ae hu),by rw[BA];omega,rfl,rfl,rfl,RH hte,Pf hte⟩ ⟨by exact EL,?_⟩;exact .cons _ (.cons _ (.cons _ (.refl _)))
 ·rintro⟨a',l1,t,l2⟩ ⟨hok,hts,htk,hn1,hn2,hil,hA,hki,hge,hke,hit⟩
  dsimp only at hok hts htk hn1 hn2 hil hA hki hge hke hit⊢;rw[<-hA];obtain⟨Z,hZ⟩:=nm (Dm l1++(Dm l2++Sf));have hop:=GM (l1:=l1) (l2:=l2) (t:=t) Sf;rw[<-hts,hZ]at hop;refine AWP.perm (S':=(B,.row 32 2 [CH e])::(arH a'++(Hx t++Z))) ?_ ?_
  ·refine Bf _ ?_
   rw[arS,BC];exact hop.append_left _
  have htm:t∈a'.ts:=by rw[hts];simp
  have hto:=hok.tab t htm
  have hat:(ptrs Tab.X a'.ts)[i]?=some (.ptr t.X 0 0):=by
   rw[Am,hts,BK (by omega),hil,DY];rfl
  have hil2:i<a'.ts.length:=by rw[hts,Ax,EK];omega
  have hft:e.n∉BB t.es:=λhm=>hf (by rw[<-hke];exact Dc.2 ⟨t,htm,hm⟩)
  have hpe:=(Sx t.ek t.es hto.es e.n e hn).tt;have hlm:(l.map (AT false)).length=l.length:=AD _;have hlc:t.cs.length=l.length:=by rw[<-hto.len,htk,hkl]
  refine JB ?_;(iterate 5 refine WO ?_);refine DZ ?_ (W.idx rfl rfl (by exact AY) rfl (by omega) (Af _));refine KO ?_;refine NL ?_;refine FL ?_;(repeat refine WF ?_);refine FQ 7 (by kernel_rfl) (by kernel_rfl) (by kernel_rfl) ?_;dsimp only[List.take,List.drop];(iterate 7 refine RK ?_);refine RGo.nil (by kernel_rfl) ?_;refine KN [_,_,_,_,_,_,_] (h:=hpe) λq _=>?_
  refine AOps.nil ?_;obtain⟨k',hk'⟩:∃k':StK,k'=⟨t.ek.X,q.1,q.2,t.ek.M⟩:=⟨_,rfl⟩;rw[<-hk'];refine JD ?_;refine B6 (λ(j:Nat) (cs:List (StK×List (Int×List Int)))=>⟨[(0,.ptr a'.A 0 0),(4,.ptr B 0 0),(10,.ptr t.X 0 0),(71,Bp false false l),(72,iA (l.map (AT false)).length),(73,iA j)],(B,.row 32 2 [CH e])::(arH a'++(J3 t::(stE k' (DA t.es e.n e)++(EB cs++Z))))⟩) (λj cs=>j<=l.length/\CsUp e.n l j t.cs cs) (λj _=>l.length-j) 0 t.cs ⟨by omega,.zero _ _ _⟩ ?_;rintro j cs ⟨hj,hcs⟩;have hcl:=hcs.len;have hcp:=hcs.ptrs;refine R1 ?_;refine FL ?_;refine AB rfl (λh=>?_) (λh=>?_)
  ·have h:j<l.length:=by rw[As,hlm]at h;omega
   have hjc:j<cs.length:=by omega
   have hjt:j<t.cs.length:=by omega
   have hlat:(l.map (AT false))[j]?=some (AT false l[j]):=Cb _ h;have hlil:j<(l.map (AT false)).length:=by omega
   have hcat:(t.cs.map λc=>AV.ptr c.1.X 0 0)[j]?=some (.ptr cs[j].1.X 0 0):=by rw[<-hcp];exact Cb _ hjc
   have hcil:j<(t.cs.map λc=>AV.ptr c.1.X 0 0).length:=by rw[AD];omega
   have hcj:cs[j].2=t.cs[j].2:=by rw[hcs.c j hjt hjc,Ah (by omega)]
   have hcok:ColOK cs[j].2:=by rw[hcj];exact hto.cs _ (BG hjt)
   obtain⟨m1,m2,hsp,hm1⟩:=Ha hjc;have hlj:l[j]?=some l[j]:=Ag h;obtain⟨⟨ck,cv⟩,hce⟩:=nm (l[j]);rw[hce]at hlat hlj;obtain⟨c,hcc⟩:=nm (cs[j]);rw[hcc]at hcat hcok hsp;have hpu:=(Sw c.1 c.2 hcok e.n cv hn).tt;refine JB ?_;refine KO ?_;refine Ai λC=>?_;refine KO ?_;refine NL ?_
   refine FL ?_
   have heq:(C,AO.row 42 2 [AT false ⟨ck,cv⟩])::(B,AO.row 32 2 [CH e])::(arH a'++(J3 t::(stE k' (DA t.es e.n e)++(EB cs++Z))))=((C,AO.row 42 2 [AT false ⟨ck,cv⟩])::(B,AO.row 32 2 [CH e])::(arH a'++(J3 t::(stE k' (DA t.es e.n e)++EB m1))))++(stS c.1 c.2++(EB m2++Z)):=by
    rw[hsp,Hl,Gn];simp only[EX,BC,DX]
   (repeat refine WF ?_);refine FQ 11 (by kernel_rfl) (by kernel_rfl) (by kernel_rfl) ?_;dsimp only[List.take,List.drop];(iterate 11 refine RK ?_);refine RGo.nil (by kernel_rfl) ?_;refine KN _ hpu (λq2 _=>?_) (hp:=heq)
   have heq2:((C,AO.row 42 2 [AT false ⟨ck,cv⟩])::(B,AO.row 32 2 [CH e])::(arH a'++(J3 t::(stE k' (DA t.es e.n e)++EB m1))))++(stS ⟨c.1.X,q2.1,q2.2,c.1.M⟩ (DA c.2 e.n cv)++(EB m2++Z))=(C,AO.row 42 2 [AT false ⟨ck,cv⟩])::(B,AO.row 32 2 [CH e])::(arH a'++(J3 t::(stE k' (DA t.es e.n e)++(EB (m1++((⟨c.1.X,q2.1,q2.2,c.1.M⟩:StK),DA c.2 e.n cv)::m2)++Z)))):=by
    rw[Hl,Gn];simp only[EX,BC,DX]
   refine AOps.perm (Ly heq2) ?_;refine AOps.nil ?_;refine FL ?_;refine R1 ?_;exact BV (j+1) (m1++((⟨c.1.X,q2.1,q2.2,c.1.M⟩:StK),DA c.2 e.n cv)::m2) ⟨by omega,hcs.next hsp hm1 (by rw[hlj];rfl) _ rfl⟩ (by omega)
  ·have h:j=l.length:=by rw[Aq,hlm]at h;omega
   subst h;rw[<-hlc]at hcs;have hfa:e.n∉DR a'.ts:=by rw[hke];exact hf
   have hgn:a'.g e.n=none:=by
    cases hg:a'.g e.n with
    |none=>rfl
    |some u=>
     obtain⟨w,hw,h2,_⟩:=hok.g _ _ hg;exact absurd (Dc.2 ⟨w,hw,h2⟩) hfa
   have hsz:(if(a'.g e.n).isSome then a'.c else a'.c+1)=a'.c+1:=by rw[hgn];rfl
   have hmx:a'.c<maxLen:=by have:=hok.c_le;unfold maxLen;omega
   refine FL ?_;refine O8 (X:=t.X) 10 (λb=>?_);obtain⟨K',hK'⟩:∃K':AV->Value->Prop,K'=λv u=>a'.K v u\/(v= .ptr t.X 0 0/\u= .pointer (some ⟨b,0,none⟩)):=⟨_,rfl⟩
   rw[<-hK'];refine AWP.perm (S':=(B,.row 32 2 [CH e])::(arH {a' with ts:=l1++upT t k' e cs::l2,K:=K'}++(Dm (l1++upT t k' e cs::l2)++Sf))) ?_ ?_
   ·refine Bf _ ?_
    have hln:(l1++upT t k' e cs::l2).length=a'.ts.length:=by rw[hts];simp
    have hpr:ptrs Tab.X (l1++upT t k' e cs::l2)=ptrs Tab.X a'.ts:=by rw[hts,ptrs,ptrs,AJ,AJ,AR,AR]
    show List.Perm ([(a'.A,.row 115 4 [.agg [Bz false false a'.kinds,.sl a'.G 0 a'.gens.length,.sl a'.Tb 0 a'.ts.length,.mp a'.O]]),(a'.G,.row 3 1 (a'.gens.map iA)),(a'.O,.ob (MapF prog 3 117 a'.g a'.c)),(a'.Tv,.tv K'),(a'.Tb,.row 117 1 (ptrs Tab.X a'.ts))]++(J3 t::(stE k' (DA t.es e.n e)++(EB cs++Z)))) ([(a'.A,.row 115 4 [.agg [Bz false false a'.kinds,.sl a'.G 0 a'.gens.length,.sl a'.Tb 0 (l1++upT t k' e cs::l2).length,.mp a'.O]]),(a'.G,.row 3 1 (a'.gens.map iA)),(a'.O,.ob (MapF prog 3 117 a'.g a'.c)),(a'.Tv,.tv K'),(a'.Tb,.row 117 1 (ptrs Tab.X (l1++upT t k' e cs::l2)))]++(Dm (l1++upT t k' e cs::l2)++Sf))
    rw[hln,hpr];refine BO _ ?_;refine List.Perm.trans ?_ (GM (l1:=l1) (l2:=l2) (t:=upT t k' e cs) Sf).symm;rw[hZ];refine Ly ?_;have hkx:k'.X=t.ek.X:=by rw[hk']
    show _=((t.X,AO.row 123 3 [.agg [BU false t.ks,.ptr k'.X 0 0,VY cs]])::(stE k' (DA t.es e.n e)++EB cs))++Z
    rw[hkx,VY,hcp];rfl
   ·refine RU ?_;(iterate 7 refine RK ?_);refine Ea ?_ (W.mapUpd (PlainV.ptr (te:=123) (by kernel_rfl) b) (by omega) hmx rfl rfl rfl (by exact AY));refine RGo.nil (by kernel_rfl) ?_
    rw[hsz];have hup:ArOK {a' with ts:=l1++upT t k' e cs::l2,K:=K',g:=Hw a'.g e.n (.pointer (some ⟨b,0,none⟩)),c:=a'.c+1}:=hok.up hts hn hfa hcs (λv u h=>by rw[hK'];exact .inl h) (by rw[hK'];exact .inr ⟨rfl,rfl⟩);have hitm:=Sb (l1:=l1) (l2:=l2) (k:=k') hto hn hft (htk.trans hks.symm) hcs;rw[<-hts,hit]at hitm;refine Ed ?_;exact CU [] (arS {a' with ts:=l1++upT t k' e cs::l2,K:=K',g:=Hw a'.g e.n (.pointer (some ⟨b,0,none⟩)),c:=a'.c+1}) ⟨_,⟨hup,V3 hn1 hn2 hft,rfl,hki,hge,hitm⟩,rfl,rfl⟩
theorem Ra(l:List Ent)(hl:l.length*16<=140737488355328):PS prog 126 [.lst false 32 2 (l.map CH)] (.lst true 32 2 (l.map CH)):=by
 refine Sp (nt:=8) (res:=[.tmp 2]) func126 λSf=>?_
 (iterate 8 refine WK ?_);refine AOps.isNil λb hb=>?_;refine KK ?_
 refine AB rfl (λhc=>?_) (λhc=>?_)
 ·rw[hb hc]
  refine JA ?_;exact⟨[.prim (.slice none 0 0)],[.lst true 32 2 []],_,[],.cons (.tmp rfl) rfl .nil,.cons (.cell .nil) .nil,by exact Av,rfl,rfl⟩
 ·have hl':(0+(l.map CH).length)*16<=140737488355328:=by simpa using hl
  clear hl
  (iterate 3 refine WK ?_);refine NF λK=>?_;refine KK ?_;refine Ay λY=>?_;refine KK ?_
  refine RT ?_;exact⟨[.sl Y 0 (0+(l.map CH).length)],[.lst true 32 2 (l.map CH)],_,[],.cons (.tmp rfl) rfl .nil,.cons (.cell (.sl (p:=0) .here (by simp))) .nil,by exact Av,rfl,rfl⟩
theorem Fk(l:List Int)(hl:l.length*8<=140737488355328):PS prog 41 [.lst false 3 1 (l.map iA)] (.lst true 3 1 (l.map iA)):=by
 refine Sp (nt:=8) (res:=[.tmp 2]) func41 λSf=>?_
 (iterate 8 refine WK ?_);refine AOps.isNil λb hb=>?_;refine KK ?_
 refine AB rfl (λhc=>?_) (λhc=>?_)
 ·rw[hb hc]
  refine JA ?_;exact⟨[.prim (.slice none 0 0)],[.lst true 3 1 []],_,[],.cons (.tmp rfl) rfl .nil,.cons (.cell .nil) .nil,by exact Av,rfl,rfl⟩
 ·have hl':(0+(l.map iA).length)*8<=140737488355328:=by simpa using hl
  clear hl
  (iterate 3 refine WK ?_);refine NF λK=>?_;refine KK ?_;refine Ay λY=>?_;refine KK ?_
  refine RT ?_;exact⟨[.sl Y 0 (0+(l.map iA).length)],[.lst true 3 1 (l.map iA)],_,[],.cons (.tmp rfl) rfl .nil,.cons (.cell (.sl (p:=0) .here (by simp))) .nil,by exact Av,rfl,rfl⟩
theorem OX(S:List AK):∀b:List Int,Lds S (b.map iA) (b.map iA)
 |[]=>.nil
 |x::b=>.cons (show Ld S (iA x) (iA x)from .frz (a:=iA x)) (OX S b)
theorem On(S:List AK):∀b:List Ent,Lds S (b.map CH) (b.map CH)
 |[]=>.nil
 |x::b=>.cons (show Ld S (CH x) (CH x)from .frz (a:=CH x)) (On S b)
theorem LQ(X:Nat)(l:List Int)(n:Nat)(hn:n=l.length)(hl:l.length*8<=140737488355328):Spec prog 41 [.sl X 0 n] [(X,.row 3 1 (l.map iA))] λr S'=>r= .lst true 3 1 (l.map iA)/\S'=[(X,.row 3 1 (l.map iA))]:=by
 subst hn;refine PS.lend (Fk l hl) (by show C8 _=true;rw[IK (λ_=>rfl)]) (.cons (.sl .here (by simp) ?_) .nil);rw[Dq,Al (by simp)];exact OX _ _
theorem Pw(X:Nat)(l:List Ent)(n:Nat)(hn:n=l.length)(hl:l.length*16<=140737488355328):Spec prog 126 [.sl X 0 n] [(X,.row 32 2 (l.map CH))] λr S'=>r= .lst true 32 2 (l.map CH)/\S'=[(X,.row 32 2 (l.map CH))]:=by
 subst hn;refine PS.lend (Ra l hl) (by show C8 _=true;rw[IK (λ_=>rfl)]) (.cons (.sl .here (by simp) ?_) .nil);rw[Dq,Al (by simp)];exact On _ _
abbrev Oo(l:List Ent):AV:=.lst false 32 2 (l.map CH)
theorem UZ(k:StK)(l:List (Int×Ent))(hl:ColOK l):Spec prog 57 [.ptr k.X 0 0] (stE k l) λr S'=>r= .fn 127 [.fp [BU false (BB l)],.fp [Oo (l.map (·.2))]]/\S'=stE k l:=by
 have hlen:=hl.len;have h1:=LQ k.R (BB l) l.length (by simp) (by rw[AD];omega);have h2:=Pw k.V (l.map (·.2)) l.length (by simp) (by rw[AD];omega);have e1:(BB l).map iA=l.map λe=>iA e.1:=Ct
 have e2:(l.map (·.2)).map CH=l.map λe=>CH e.2:=Ct
 rw[e1]at h1;rw[e2]at h2;refine Sp (nt:=16) (res:=[.tmp 2]) func57 λSf=>?_
 refine R1 ?_;refine FL ?_;refine A9 λA=>A9 λB=>?_
 refine RU ?_;refine KR ?_;refine Lm h1 .fz ?_;refine KR ?_;refine Lm h2 .fz ?_;(iterate 4 refine RK ?_);refine RGo.nil (by kernel_rfl) ?_;refine FL ?_;refine I6 [3] .here ?_ (by intro d hd;simp only[DO]at hd;subst hd;rfl);refine I6 [4] (.next .here) ?_ (by intro d hd;simp only[DO]at hd;subst hd;rfl);refine R1 ?_;have er:AV.fn 127 [.fp [BU false (BB l)],.fp [Oo (l.map (·.2))]]=AV.fn 127 [.fp [.lst false 3 1 (l.map λe=>iA e.1)],.fp [.lst false 32 2 (l.map λe=>CH e.2)]]:=by rw[BU,Oo,e1,e2]
 rw[er];refine RT ?_;exact CU [AV.fn 127 [.fp [.lst false 3 1 (l.map λe=>iA e.1)],.fp [.lst false 32 2 (l.map λe=>CH e.2)]]] (stE k l) ⟨rfl,rfl⟩
theorem S7(ks:List Int)(es:List Ent)(hl:ks.length=es.length)(h0:ks.length<=1099511627776):Itr prog 127 [.fp [BU false ks],.fp [Oo es]] ((ks.zip es).map λq=>[iA q.1,CH q.2]):=by
 have hkm:(ks.map iA).length=ks.length:=AD _;have hem:(es.map CH).length=es.length:=AD _;refine⟨by kernel_rfl,λy J Jx hY Sl hJ0=>?_⟩;refine Sp (nt:=22) (res:=[]) func127 λSf=>?_
 refine R1 ?_;refine FL ?_;refine B6 (λ(i:Nat) (Sl:List AK)=>⟨[(0,.prim y),(2,.fp [Oo es]),(6,BU false ks),(7,iA (ks.map iA).length),(8,iA i)],Sl++Sf⟩) (λi Sl=>i<=ks.length/\J i Sl) (λi _=>ks.length-i) 0 Sl ⟨Ap _,hJ0⟩ ?_;rintro i Sl ⟨hi,hJ⟩;refine R1 ?_;refine FL ?_;refine AB rfl (λhc=>?_) (λhc=>?_)
 ·have h:i<ks.length:=by rw[As,hkm]at hc;omega
  have he:i<es.length:=by omega
  have hat:(ks.map iA)[i]?=some (iA ks[i]):=Cb _ h;have hil:i<(ks.map iA).length:=by omega
  have hat2:(es.map CH)[i]?=some (CH es[i]):=Cb _ he;have hil2:i<(es.map CH).length:=by omega
  have hyi:((ks.zip es).map λq=>[iA q.1,CH q.2])[i]?=some [iA ks[i],CH es[i]]:=by
   rw[Am,Ag (by rw[Th];omega),List.getElem_zip];rfl
  obtain⟨k,hk⟩:=nm (ks[i]);obtain⟨e,hee⟩:=nm (es[i]);rw[hk]at hat hyi;rw[hee]at hat2 hyi;refine FL ?_;refine R1 ?_;refine JB ?_;refine KO ?_;refine PB (Si:=[]) hY hJ hyi (λSl' hk=>?_) (λSl' hk=>?_)
  ·refine WO ?_
   refine AOps.nil ?_;refine FL ?_;refine Aa rfl rfl ?_;refine KK ?_;refine BV (i+1) Sl' ⟨h,hk⟩
  ·refine WO ?_
   refine AOps.nil ?_;refine FL ?_;refine BE rfl rfl ?_
   skip
   refine RT ?_;exact CA Sl' (.inr hk)
 ·have h:i=ks.length:=by rw[Aq,hkm]at hc;omega
  subst h;refine KK ?_;refine Ed ?_;exact CA Sl (.inl (by rw[AD,Th,<-hl,Lw];exact hJ))
def V4(c:UInt8):Bool:=decide (97<=c)&&decide (c<=122)
def V9(c:UInt8):Bool:=decide (48<=c)&&decide (c<=57)
def Ox(l:List UInt8)(j:Nat):Bool:=V4 (l.getD j 0)||(decide (0<j)&&V9 (l.getD j 0))
def D8(l:List UInt8):Bool:=decide (0<l.length)&&decide (l.length<=16)&&(List.range l.length).all (Ox l)
def BI(f:Field):Int:=if D8 f.name&&decide (1<=f.bits)&&decide (f.bits<=32)&&decide (-4294967296<=f.low)&&decide (f.low<=4294967296)then 0 else 3
def CS:List Field->List Field->Int
 |_,[]=>0
 |pre,f::fs=>if BI f≠0 then BI f else if pre.any (λo=>o.name==f.name)then 5 else CS (pre++[f]) fs
def CD(k:Kind):Int:=if D8 k.name then(if 8<k.fields.length then 2 else CS [] k.fields)else 3
def EH(l:List Kind)(name:List UInt8):Int:=
 match l.findIdx? (λk=>k.name==name)with
 |some i=>i
 |none=>-1
def Cu:List Kind->List Kind->Int
 |_,[]=>0
 |pre,k::ks=>if CD k≠0 then CD k else if pre.any (λo=>o.name==k.name)then 5 else Cu (pre++[k]) ks
def CL(l:List Kind):Int:=if 16<l.length then 2 else Cu [] l
def E1(f:Field):Int:=if BI f=0 then f.low+(2^f.bits.toNat-1)else 0
def Cs(f:Field)(v:Int):Int:=if BI f=0 then max f.low (min v (E1 f))else 0
def Ce(k:Kind)(vals:List Int):List Int×Int:=
 if CD k≠0 then([],CD k)else if vals.length≠k.fields.length then([],1)else(List.zipWith Cs k.fields vals,0)
def Df(k:Kind)(vals:List Int):Bool:=decide ((Ce k vals).2=0)&&decide ((Ce k vals).1=vals)
theorem H3{l:List Kind}{name:List UInt8}(h:∀j (hj:j<l.length),l[j].name≠name):EH l name= -1:=by
 have:l.findIdx? (λk=>k.name==name)=none:=by
  rw[EC];intro x hx;obtain⟨j,hj,rfl⟩:=B4 hx;simpa using h j hj
 simp[EH,this]
theorem MJ{l:List Kind}{name:List UInt8}(hi:i<l.length)(e:l[i].name=name)(h:∀j (hj:j<i),(l[j]'(by omega)).name≠name):EH l name=i:=by
 have:l.findIdx? (λk=>k.name==name)=some i:=by
  rw[D7];refine⟨hi,by simpa using e,λj hj=>?_⟩;simpa using h j hj
 simp[EH,this]
theorem NV{pre:List Kind}{k:Kind}{ks:List Kind}(h:CD k≠0):Cu pre (k::ks)=CD k:=by
 simp[Cu,h]
theorem Kw{pre:List Kind}{k:Kind}{ks:List Kind}(h:CD k=0)(hf:0<=EH pre k.name):Cu pre (k::ks)=5:=by
 have:pre.any (λo=>o.name==k.name)=true:=by
  rcases hc:pre.any (λo=>o.name==k.name)with _|_
  ·exfalso
   rw[CR]at hc;rw[H3 (λj hj=>by simpa using hc _ (BG hj))]at hf;omega
  ·rfl
 simp[Cu,h,this]
theorem MB{pre:List Kind}{k:Kind}{ks:List Kind}(h:CD k=0)(hf:EH pre k.name<0):Cu pre (k::ks)=Cu (pre++[k]) ks:=by
 have:pre.any (λo=>o.name==k.name)=false:=by
  rcases hc:pre.any (λo=>o.name==k.name)with _|_
  ·rfl
  ·exfalso
   rw[G7]at hc;obtain⟨x,hx,e⟩:=hc;unfold EH at hf;split at hf
   ·omega
   ·rename_i hn
    rw[EC]at hn;exact absurd e (by simpa using hn x hx)
 simp[Cu,h,this]
theorem HH{l:List Kind}(hi:i<l.length):Cu (l.take i) (l.drop i)=Cu (l.take i) (l[i]::l.drop (i+1)):=by
 rw[DE hi]
theorem NU{l:List Kind}(hi:l.length<=i):Cu (l.take i) (l.drop i)=0:=by
 rw[BP hi];rfl
theorem Jp(f:Field)(h:D8 f.name=true)(hb:1<=f.bits/\f.bits<=32/\ -4294967296<=f.low/\f.low<=4294967296):BI f=0:=by
 simp[BI,h,hb]
theorem Om(f:Field)(h:D8 f.name=true->¬(1<=f.bits/\f.bits<=32/\ -4294967296<=f.low/\f.low<=4294967296)):BI f=3:=by
 unfold BI;rw[Ah];simp only[AE,As];intro hc;exact h hc.1.1.1.1 ⟨hc.1.1.1.2,hc.1.1.2,hc.1.2,hc.2⟩
theorem E2(f:Field):BI f=0↔D8 f.name=true/\1<=f.bits/\f.bits<=32/\ -4294967296<=f.low/\f.low<=4294967296:=by
 constructor
 ·intro h
  unfold BI at h;split at h
  ·rename_i hc
   simpa[and_assoc]using hc
  ·simp at h
 ·rintro⟨h,hb⟩
  exact Jp f h hb
theorem LL(f:Field):BI f=0\/BI f=3:=by
 unfold BI;split<;>simp
theorem ML{pre:List Field}{f:Field}{fs:List Field}(h:BI f≠0):CS pre (f::fs)=BI f:=by
 simp[CS,h]
theorem KC{pre:List Field}{f:Field}{fs:List Field}(h:BI f=0){j:Nat}(hj:j<pre.length)(e:pre[j].name=f.name):CS pre (f::fs)=5:=by
 have:pre.any (λo=>o.name==f.name)=true:=by
  rw[G7];exact⟨pre[j],BG hj,by simp[e]⟩
 simp[CS,h,this]
theorem LJ{pre:List Field}{f:Field}{fs:List Field}(h:BI f=0)(e:∀j (hj:j<pre.length),pre[j].name≠f.name):CS pre (f::fs)=CS (pre++[f]) fs:=by
 have:pre.any (λo=>o.name==f.name)=false:=by
  rw[CR];intro x hx;obtain⟨j,hj,rfl⟩:=B4 hx;simpa using e j hj
 simp[CS,h,this]
theorem Gl{l:List Field}(hi:i<l.length):CS (l.take i) (l.drop i)=CS (l.take i) (l[i]::l.drop (i+1)):=by
 rw[DE hi]
theorem MK{l:List Field}(hi:l.length<=i):CS (l.take i) (l.drop i)=0:=by
 rw[BP hi];rfl
theorem Q9(l:List UInt8)(j:Nat)(hj:j<l.length)(h:Ox l j=false):D8 l=false:=by
 have:(List.range l.length).all (Ox l)=false:=by
  rw[List.all_eq_false];exact⟨j,Ck.2 hj,by simp[h]⟩
 simp[D8,this]
theorem Pb(l:List UInt8)(h0:0<l.length)(h1:l.length<=16)(h:∀j,j<l.length->Ox l j=true):D8 l=true:=by
 have:(List.range l.length).all (Ox l)=true:=by
  rw[Cl];intro x hx;exact h x (Ck.1 hx)
 simp[D8,this,h0,h1]
theorem OL(l:List UInt8)(h:l.length=0\/16<l.length):D8 l=false:=by
 rcases h with h|h
 ·simp[D8,h]
 ·simp[D8,show¬l.length<=16 from by omega]
theorem SL{b:Int}(h1:1<=b)(h2:b<=32):(2:Int)<=2^b.toNat/\(2:Int)^b.toNat<=4294967296:=by
 obtain⟨n,rfl⟩:∃n:Nat,b=n:=⟨b.toNat,by omega⟩;rw[Co];have h:n=1\/n=2\/n=3\/n=4\/n=5\/n=6\/n=7\/n=8\/n=9\/n=10\/n=11\/n=12\/n=13\/n=14\/n=15\/n=16\/n=17\/n=18\/n=19\/n=20\/n=21\/n=22\/n=23\/n=24\/n=25\/n=26\/n=27\/n=28\/n=29\/n=30\/n=31\/n=32:=by omega
 rcases h with rfl|rfl|rfl|rfl|rfl|rfl|rfl|rfl|rfl|rfl|rfl|rfl|rfl|rfl|rfl|rfl|rfl|rfl|rfl|rfl|rfl|rfl|rfl|rfl|rfl|rfl|rfl|rfl|rfl|rfl|rfl|rfl<;>decide
theorem RJ{f:Field}(h:BI f=0):E1 f=f.low+(2^f.bits.toNat-1):=by simp[E1,h]
theorem Mo{f:Field}(h:BI f=0):f.low<E1 f/\E1 f<=8589934592:=by
 have hb:=(E2 f).1 h;have:=SL hb.2.1 hb.2.2.1;rw[RJ h];omega
theorem NP(f:Field)(v:Int): -4294967296<=Cs f v/\Cs f v<=8589934592:=by
 rcases LL f with h|h
 ·have:=Mo h
  have hb:=(E2 f).1 h;simp only[Cs,h,GK];omega
 ·simp[Cs,h]
theorem LH{pre l:List Field}(h:CS pre l=0):∀f∈l,BI f=0:=by
 induction l generalizing pre with
 |nil=>intro f hf;cases hf
 |cons x l ih=>
  intro f hf;simp only[CS]at h;split at h
  ·rename_i hx;exact absurd h hx
  ·rename_i hx
   split at h
   ·simp at h
   ·rcases AW.1 hf with rfl|hf
    ·simpa using hx
    ·exact ih h f hf
theorem EF{k:Kind}(h:CD k=0):D8 k.name=true/\k.fields.length<=8/\∀f∈k.fields,BI f=0:=by
 unfold CD at h;split at h
 ·rename_i h1
  split at h
  ·simp at h
  ·rename_i h2
   exact⟨h1,by omega,LH h⟩
 ·simp at h
theorem UP(l:List Kind)(name:List UInt8)(hl:l.length<=1099511627776):PS prog 164 [Bz false false l,sA name] (iA (EH l name)):=by
 refine Sp (nt:=20) (res:=[.tmp 4]) func164 λSf=>?_
 (iterate 12 refine WK ?_);refine DH (λi:Nat=>⟨[(1,sA name),(7,Bz false false l),(8,iA (l.map (A3 false)).length),(9,iA i)],Sf⟩) (λi=>i<=l.length/\∀j (h:j<l.length),j<i->l[j].name≠name) (λi=>l.length-i) 0 ⟨by omega,by omega⟩ ⟨.cons rfl (.cons rfl (.cons rfl (.cons rfl .nil))),Dt _⟩ ?_
 rintro i ⟨hi,hn⟩;refine KK ?_;refine AB rfl (λhb=>?_) (λhb=>?_)
 ·have h:i<l.length:=by simpa using hb
  (iterate 6 refine WK ?_);refine AQ (W.idxL rfl rfl rfl (Cb _ h)) rfl ?_;refine KK ?_;refine Ai λX=>?_;refine KK ?_
  refine AB rfl (λhc=>?_) (λhc=>?_)
  ·have hc:l[i].name=name:=by simpa using hc
   refine JA ?_;refine Be rfl rfl (by exact Av) ⟨?_,rfl⟩;rw[MJ h hc λj hj=>hn j (by omega) hj]
  ·have hc:l[i].name≠name:=by simpa using hc
   refine KK ?_;refine⟨i+1,⟨by omega,λj hj hji=>?_⟩,by omega,.cons rfl (.cons rfl (.cons rfl (.cons rfl .nil))),by exact Av⟩;by_cases e:j=i
   ·subst e;exact hc
   ·exact hn j hj (by omega)
 ·have h:¬i<l.length:=by simpa using hb
  refine JA ?_;refine Be rfl rfl (by exact Av) ⟨?_,rfl⟩;rw[H3 λj hj=>hn j hj (by omega)]
def J8(ks:List Kind)(i:Nat):List AV:=(ks.take i).map (A3 true)++List.replicate (ks.length-i) (.agg [sA [],.prim (.slice none 0 0)])
theorem Sa(ks:List Kind)(i:Nat)(h:i<=ks.length):(J8 ks i).length=ks.length:=by simp[J8];omega
theorem UB{ks:List Kind}(h:i<ks.length):(J8 ks i)[i]?=some (.agg [sA [],.prim (.slice none 0 0)]):=by
 unfold J8;rw[BK (by simp;omega),F3,A1 (by simp;omega)]
theorem SZ{ks:List Kind}(h:i<ks.length):(J8 ks i).set i (A3 true ks[i])=J8 ks (i+1):=by
 unfold J8;rw[Et _ _ (by simp;omega),AD,BA,BJ (by omega),DY];rw[show ks.length-i=(ks.length-(i+1))+1 from by omega,Hq,IY];rw[Bt h,AJ,BC];rfl
theorem HI(ks:List Kind)(hl:ks.length<=1099511627776)(hf:∀k∈ks,k.fields.length<=1099511627776):PS prog 40 [Bz false false ks] (Bz true true ks):=by
 refine Sp (nt:=27) (res:=[.tmp 2]) func40 λSf=>?_
 have hkm:(ks.map (A3 false)).length=ks.length:=AD _;have hz0:List.replicate (ks.map (A3 false)).length (.agg [sA [],.prim (.slice none 0 0)])=J8 ks 0:=by simp[J8]
 (iterate 8 refine WK ?_);refine GY ((.agg [sA [],.prim (.slice none 0 0)])) λK=>?_;refine KK ?_
 rw[hz0];refine B6 (λ(i:Nat) (M:List AV)=>⟨[(3,.sl K 0 (ks.map (A3 false)).length),(9,Bz false false ks),(10,iA (ks.map (A3 false)).length),(11,iA i)],(K,.row 90 2 M)::Sf⟩) (λi M=>i<=ks.length/\M=J8 ks i) (λi _=>ks.length-i) 0 _ ⟨Ap _,rfl⟩ ?_;rintro i M ⟨hi,hM⟩;refine KK ?_;refine AB rfl (λhc=>?_) (λhc=>?_)
 ·have h:i<ks.length:=by rw[As,hkm]at hc;omega
  have hset:=SZ h;have hMat:M[i]?=some (.agg [sA [],.prim (.slice none 0 0)]):=by rw[hM];exact UB h
  have hMl:M.length=ks.length:=by rw[hM];exact Sa ks i hi
  have hfl:=hf _ (BG h);obtain⟨⟨kn,fs⟩,hk⟩:=nm (ks[i]);rw[hk]at hset hfl;dsimp only at hfl;have hat:(ks.map (A3 false))[i]?=some (A3 false ⟨kn,fs⟩):=by rw[Am,Ag h,hk];rfl
  have hil:i<(ks.map (A3 false)).length:=by omega
  have hfm:(fs.map fieldA).length=fs.length:=AD _;refine KK ?_;refine Ai λV=>?_;refine KK ?_
  refine A9 λY=>?_
  refine RU ?_;(iterate 6 refine RK ?_);refine RGo.s (Vf (by rw[hfm];omega) (by rw[hfm];unfold maxLen;omega) rfl rfl (by exact AY)) rfl ?_;(iterate 3 refine RK ?_);refine RGo.nil (by kernel_rfl) ?_;(repeat refine WF ?_);have hMs:(M.set i (.agg [sA kn,.sl Y 0 (fs.map fieldA).length]))[i]?=some (.agg [sA kn,.sl Y 0 (fs.map fieldA).length]):=by rw[BF (by omega)]
  refine Bg (X:=Y) (Y:=K) .here (.next (.next .here)) rfl rfl (Hos.at hMs (.agg (.tail (.head .here)))) ?_;rw[List.set_set];refine KK ?_;refine BV (i+1) _ ⟨h,?_⟩;rw[hM];exact hset
 ·have h:i=ks.length:=by rw[Aq,hkm]at hc;omega
  subst h;have hfin:J8 ks ks.length=ks.map (A3 true):=by simp[J8]
  rw[hfin]at hM;subst hM;refine JA ?_;exact⟨[.sl K 0 (ks.map (A3 false)).length],[Bz true true ks],_,[],.cons (.tmp rfl) rfl .nil,.cons (.cell (.sl (p:=0) .here (by simp))) .nil,by exact Av,rfl,rfl⟩
def EU{α:Type}(f:α->AV)(z:AV)(l:List α)(i:Nat):List AV:=(l.take i).map f++List.replicate (l.length-i) z
theorem HL(f:α->AV)(z:AV)(l:List α):EU f z l 0=List.replicate l.length z:=by simp[EU]
theorem LF(f:α->AV)(z:AV)(l:List α)(i:Nat)(h:i<=l.length):(EU f z l i).length=l.length:=by simp[EU];omega
theorem JU(f:α->AV)(z:AV)(l:List α)(h:i<l.length):(EU f z l i)[i]?=some z:=by
 unfold EU;rw[BK (by simp;omega)];simp only[AD,BA,BJ (Nat.le_of_lt h),DY];rw[F3,A1 (by omega)]
theorem IR(f:α->AV)(z:AV)(l:List α)(h:i<l.length):(EU f z l i).set i (f l[i])=EU f z l (i+1):=by
 unfold EU;rw[Et _ _ (by simp;omega),GL,Ag h];simp only[AD,BA,BJ (Nat.le_of_lt h),DY,Option.toList_some,AJ,AR,Bj,BC]
 congr 1
 rw[show l.length-i=(l.length-(i+1))+1 from by omega,Hq];rfl
theorem IS(f:α->AV)(z:AV)(l:List α)(h:l.length<=i):EU f z l i=l.map f:=by
 unfold EU;rw[Al h,show l.length-i=0 from by omega];simp
theorem Nf(l:List Comp)(hl:l.length<=1099511627776)(hv:∀c∈l,c.vals.length<=1099511627776):PS prog 42 [Bp false false l] (Bp true false l):=by
 refine Sp (nt:=27) (res:=[.tmp 2]) func42 λSf=>?_
 have hl':(l.map (AT false)).length<=1099511627776:=by simpa using hl
 (iterate 8 refine WK ?_);refine GY (.agg [iA 0,.prim (.slice none 0 0)]) λK=>?_;refine KK ?_
 refine DL (λi:Nat=>⟨[(3,.sl K 0 (l.map (AT false)).length),(9,Bp false false l),(10,iA (l.map (AT false)).length),(11,iA i)],(K,.row 42 2 (EU (AT false) (.agg [iA 0,.prim (.slice none 0 0)]) l i))::Sf⟩) (λi=>i<=l.length) (λi=>l.length-i) 0 (Ap _) ?_ ⟨by(repeat (first|exact .nil|refine .cons (by first|rfl|assumption) ?_)),by rw[HL,<-AD (f:=AT false)];exact Av⟩;rintro i hi;refine KK ?_;refine AB rfl (λhc=>?_) (λhc=>?_)
 ·have h:i<l.length:=by simpa using hc
  have hm:i<(l.map (AT false)).length:=by simpa using h
  have hat:=JU (AT false) (.agg [iA 0,.prim (.slice none 0 0)]) l h;refine KK ?_;refine Ai λX=>?_;refine KK ?_
  refine RU ?_;refine KR ?_;refine P2 (h:=(Fk _ (by have:=hv _ (BG h);omega))) (k:=?_);(iterate 3 refine RK ?_);refine RGo.nil (by kernel_rfl) ?_;refine KK ?_;have hs:=IR (AT false) (.agg [iA 0,.prim (.slice none 0 0)]) l h;refine SU (i+1) h ?_;dsimp only;rw[<-hs];exact Av
 ·have h:l.length<=i:=by rw[Aq,AD]at hc;omega
  rw[IS _ _ _ h];refine JA ?_;exact⟨[.sl K 0 (l.map (AT false)).length],[.lst true 42 2 (l.map (AT false))],_,[],.cons (.tmp rfl) rfl .nil,.cons (.cell (.sl (p:=0) .here rfl)) .nil,by exact Av,rfl,rfl⟩
theorem Ps(a b c d:Int)(w:World):(binOp .eql 32 (.agg #[.int .i64 a,.int .i64 b]) (.agg #[.int .i64 c,.int .i64 d])).run prog w= .ok (.bool (decide (a=c)&&decide (b=d))) w:=
 UT (by kernel_rfl) (by kernel_rfl) (by kernel_rfl) a b c d w
def Jj(a b:Ent):Bool:=decide (a.n=b.n)&&decide (a.gen=b.gen)
theorem MZ(a b:Ent):Jj a b=decide (a=b):=by
 obtain⟨n,g⟩:=a;obtain⟨n',g'⟩:=b;rw[Eu];simp[Jj]
def Bn(l:List Int)(n:Int):Int:=if n<1 then 0 else match l with|[]=>0|x::_=>x%n
def BW(l:List Int)(n:Int):List Int:=if n<1 then l else l.tail
theorem BY(l:List Int)(h:1<=n):0<=Bn l n/\Bn l n<n:=by
 unfold Bn;rw[Ah (by omega)];split
 ·omega
 ·rename_i x _
  exact⟨Int.emod_nonneg x (by omega),Int.emod_lt_of_pos x (by omega)⟩
def El(k:Nat):List UInt8:=match k with
 |0=>[115,112,111,116]
 |1=>[108,105,102,101]
 |2=>[116,101,97,109]
 |_=>[103,111,97,108]
def Db(k:Nat):List UInt8:=match k with
 |0=>[120]
 |1=>[121]
 |_=>[122]
def DV(i:Nat)(l:List Int):Field×List Int:=
 if Bn (BW (BW l 9) 40) 8=7 then(⟨Db i,32,-2147483648⟩,BW (BW (BW l 9) 40) 8)
 else(⟨Db i,1+Bn l 9,Bn (BW l 9) 40-30⟩,BW (BW (BW l 9) 40) 8)
def CI:Nat->Nat->List Int->List Field×List Int
 |_,0,l=>([],l)
 |i,c+1,l=>((DV i l).1::(CI (i+1) c (DV i l).2).1,(CI (i+1) c (DV i l).2).2)
def ER(k:Nat)(l:List Int):Kind×List Int:=
 (⟨El k,(CI 0 (1+Bn l 3).toNat (BW l 3)).1⟩,(CI 0 (1+Bn l 3).toNat (BW l 3)).2)
def Bm:Nat->Nat->List Int->List Kind×List Int
 |_,0,l=>([],l)
 |k,c+1,l=>((ER k l).1::(Bm (k+1) c (ER k l).2).1,(Bm (k+1) c (ER k l).2).2)
def BN(l:List Int):List Kind×List Int:=Bm 0 (1+Bn l 4).toNat (BW l 4)
theorem LW(x n:Int)(hn:1<=n)(h2:n<=4611686018427387904):PS prog 50 [iA x,iA n] (iA (x%n)):=by
 refine Sp (nt:=14) (res:=[.tmp 4]) func50 λSf=>?_
 have h3:x.tmod n<n:=Int.tmod_lt_of_pos _ (by omega)
 have h4: -n<x.tmod n:=by
  have:=Int.lt_tmod_of_pos x (b:=n) (by omega);exact this
 have h5:x.tmod n=x%n\/x.tmod n+n=x%n/\x.tmod n<0:=by
  rw[Int.tmod_eq_emod];split
  ·exact .inl (by simp)
  ·have:=Int.emod_nonneg x (b:=n) (by omega)
   have:=Int.emod_lt_of_pos x (b:=n) (by omega);refine .inr ?_;have:((n.natAbs:Nat):Int)=n:=by omega
   omega
 have h6:=Int.emod_nonneg x (b:=n) (by omega)
 (iterate 8 refine WK ?_);refine AQ (W.rem rfl rfl (by omega)) rfl ?_;refine KK ?_
 refine AB rfl (λhb=>?_) (λhb=>?_)
 ·have hb:x.tmod n<0:=by simpa using hb
  refine JA ?_;exact Be rfl rfl (by exact Av) ⟨by rw[show x.tmod n+n=x%n from by omega],rfl⟩
 ·have hb:¬x.tmod n<0:=by simpa using hb
  refine JA ?_;exact Be rfl rfl (by exact Av) ⟨by rw[show x.tmod n=x%n from by omega],rfl⟩
abbrev D9(l:List Int):AO:=.row 77 1 [.agg [BU false l]]
theorem FY(X:Nat)(l:List Int)(n:Int)(h2:n<=4611686018427387904):PO prog 33 [.ptr X 0 0,iA n] X (D9 l) (iA (Bn l n)) (D9 (BW l n)):=by
 refine Sp (nt:=33) (res:=[.tmp 4]) func33 λSf=>?_
 refine KK ?_;refine AB rfl (λhb=>?_) (λhb=>?_)
 ·refine KK ?_
  refine RT ?_;have hb:l.length=0\/n<1:=by simp only[CQ,As,AD]at hb;omega
  have e1:Bn l n=0:=by
   unfold Bn;split
   ·rfl
   ·rcases hb with hb|hb
    ·rw[Vs.1 hb]
    ·omega
  have e2:BW l n=l:=by
   unfold BW;split
   ·rfl
   ·rcases hb with hb|hb
    ·rw[Vs.1 hb];rfl
    ·omega
  rw[e1,e2];exact Jz rfl rfl (by exact Av) ⟨rfl,rfl⟩
 ·have hb:l.length≠0/\1<=n:=by simp only[FD,Aq,AD]at hb;omega
  obtain⟨hb,hn⟩:=hb;cases l with
  |nil=>exact absurd rfl hb
  |cons x l=>
  (repeat first|(refine AX ?_;first|refine AQ (W.idxL rfl rfl (a:=0) rfl rfl) rfl ?_|refine AQ (W.loL rfl rfl (a:=1) rfl (by simp)) rfl ?_|refine AQ (W.call2 rfl rfl (LW _ _ hn h2) rfl) rfl ?_)|refine WK ?_|refine Ai λX=>?_|refine Ay λY=>?_);refine RT ?_;rw[show Bn (x::l) n=x%n from by unfold Bn;rw[Ah (by omega)],show BW (x::l) n=l from by unfold BW;rw[Ah (by omega)];rfl];exact Jz (S':=[(X,D9 l)]) rfl rfl (by exact Av) ⟨rfl,rfl⟩
def fAt:Nat->List Int->List Field×List Int
 |0,l=>([],l)
 |i+1,l=>((fAt i l).1++[(DV i (fAt i l).2).1],(DV i (fAt i l).2).2)
def kAt:Nat->List Int->List Kind×List Int
 |0,l=>([],l)
 |i+1,l=>((kAt i l).1++[(ER i (kAt i l).2).1],(ER i (kAt i l).2).2)
theorem UR(i:Nat)(l:List Int):(fAt i l).1.length=i:=by
 induction i with
 |zero=>rfl
 |succ i ih=>simp[fAt,ih]
theorem QT(i:Nat)(l:List Int):(kAt i l).1.length=i:=by
 induction i with
 |zero=>rfl
 |succ i ih=>simp[kAt,ih]
theorem US(c i:Nat)(l:List Int):((fAt i l).1++(CI i c (fAt i l).2).1,(CI i c (fAt i l).2).2)=fAt (i+c) l:=by
 induction c generalizing i with
 |zero=>simp[CI]
 |succ c ih=>
  rw[show i+(c+1)=(i+1)+c from by omega,<-ih (i+1)];simp[CI,fAt]
theorem UC(c i:Nat)(l:List Int):((kAt i l).1++(Bm i c (kAt i l).2).1,(Bm i c (kAt i l).2).2)=kAt (i+c) l:=by
 induction c generalizing i with
 |zero=>simp[Bm]
 |succ c ih=>
  rw[show i+(c+1)=(i+1)+c from by omega,<-ih (i+1)];simp[Bm,kAt]
theorem Iw(c:Nat)(l:List Int):CI 0 c l=fAt c l:=by
 have:=US c 0 l;simpa[fAt]using this
theorem F7(l:List Int):BN l=kAt (1+Bn l 4).toNat (BW l 4):=by
 have:=UC (1+Bn l 4).toNat 0 (BW l 4);simpa[kAt,BN]using this
theorem RE(h:i<4):[sA [115,112,111,116],sA [108,105,102,101],sA [116,101,97,109],sA [103,111,97,108]][i]?=some (sA (El i)):=by
 have:i=0\/i=1\/i=2\/i=3:=by omega
 rcases this with rfl|rfl|rfl|rfl<;>rfl
theorem RR(h:i<3):[sA [120],sA [121],sA [122]][i]?=some (sA (Db i)):=by
 have:i=0\/i=1\/i=2:=by omega
 rcases this with rfl|rfl|rfl<;>rfl
theorem SX(G:Nat)(l:List Int):PO prog 32 [.ptr G 0 0] G (D9 l) (Bz true false (BN l).1) (D9 (BN l).2):=by
 refine Sp (nt:=55) (res:=[.tmp 2]) func32 λSf=>?_
 have h0:=BY l (n:=4) (by decide);refine KK ?_;refine GE (h:=(FY G _ _ (by decide))) (k:=?_);refine KK ?_;refine AWP.adopt (d:=3) 90 2 rfl λK=>?_
 obtain⟨c,hc⟩:∃c:Nat,1+Bn l 4=c:=⟨(1+Bn l 4).toNat,by omega⟩;obtain⟨l0,hl0⟩:=nm (BW l 4);have hg:BN l=kAt c l0:=by rw[F7,hl0,show(1+Bn l 4).toNat=c from by omega]
 rw[hg,hl0,hc];have hc4:1<=c/\c<=4:=by omega
 clear hg hl0 hc h0;refine I5 (λ(i K:Nat) (M:List AV) (q:List Int)=>⟨[(0,.ptr G 0 0),(3,.sl K 0 i),(10,iA c),(11,iA i)],(K,.row 90 2 M)::(G,D9 q)::Sf⟩) (λi _ M q=>i<=c/\M=(kAt i l0).1.map (A3 false)/\M.length=i/\q=(kAt i l0).2) (λi _ _ _=>c-i) 0 K [] l0 ⟨Ap _,rfl,rfl,rfl⟩ ?_;rintro i K M q ⟨hi,hM,hMl,hq⟩;refine KK ?_;refine AB rfl (λhb=>?_) (λhb=>?_)
 ·have h:i<c:=by rw[As]at hb;omega
  have h4:i<4:=by omega
  have h3:=BY q (n:=3) (by decide);have hkn:=RE h4;refine KK ?_;refine Ai λY=>?_;refine KK ?_;refine GE (h:=(FY G _ _ (by decide))) (k:=?_);refine KK ?_
  refine C1 (Y:=Y) 92 3 .here (λF=>.cons (.agg (.s (.cons (.base .nil) .nil))) .nil) λF=>?_
  obtain⟨l1,hl1⟩:=nm (BW q 3);obtain⟨c1,hc1⟩:∃c1:Nat,1+Bn q 3=c1:=⟨(1+Bn q 3).toNat,by omega⟩
  have hgk:kAt (i+1) l0=((kAt i l0).1++[⟨El i,(fAt c1 l1).1⟩],(fAt c1 l1).2):=by
   rw[kAt,<-hq,ER,Iw,show(1+Bn q 3).toNat=c1 from by omega,hl1]
  rw[hl1,hc1];have hc13:c1<=3:=by omega
  refine I5 (λ(j F:Nat) (L:List AV) (r:List Int)=>⟨[(0,.ptr G 0 0),(3,.sl K 0 i),(5,.ptr Y 0 0),(10,iA c),(11,iA i),(21,iA c1),(22,iA j)],(F,.row 92 3 L)::(Y,.row 90 2 [.agg [sA (El i),.sl F 0 j]])::(K,.row 90 2 M)::(G,D9 r)::Sf⟩) (λj _ L r=>j<=c1/\L=(fAt j l1).1.map fieldA/\L.length=j/\r=(fAt j l1).2) (λj _ _ _=>c1-j) 0 F [] l1 ⟨Ap _,rfl,rfl,rfl⟩ ?_;rintro j F L r ⟨hj,hL,hLl,hr⟩;refine KK ?_;refine AB rfl (λhd=>?_) (λhd=>?_)
  ·have hj':j<c1:=by rw[As]at hd;omega
   have h9:=BY r (n:=9) (by decide);have h40:=BY (BW r 9) (n:=40) (by decide);have hfn:=RR (i:=j) (by omega);refine KK ?_;refine A9 λX7=>?_
   refine RU ?_;refine KR ?_;refine No (h:=(FY G _ _ (by decide))) (k:=?_);(iterate 4 refine RK ?_);refine RGo.nil (by kernel_rfl) ?_;(repeat first|(refine AX ?_;first|(refine AZ ?_;first|refine GE (h:=(FY G _ _ (by decide))) (k:=?_)))|refine WK ?_|refine Ai λX=>?_|refine Ay λY=>?_);refine AB rfl (λhe=>?_) (λhe=>?_)
   ·have he:Bn (BW (BW r 9) 40) 8=7:=by simpa using he
    have hg:DV j r=(⟨Db j,32,-2147483648⟩,BW (BW (BW r 9) 40) 8):=by rw[DV,A1 he]
    (iterate 11 refine WK ?_);refine D5 (fieldA ⟨Db j,32,-2147483648⟩) ?_;refine WK ?_;refine Ay λY=>?_;refine KK ?_
    refine GP (j+1) Y _ _ ⟨hj',?_,?_,?_⟩
    ·rw[fAt,<-hr,hg,hL,AJ];rfl
    ·rw[Ax,hLl];rfl
    ·rw[fAt,<-hr,hg]
   ·have he:Bn (BW (BW r 9) 40) 8≠7:=by simpa using he
    have hg:DV j r=(⟨Db j,1+Bn r 9,Bn (BW r 9) 40-30⟩,BW (BW (BW r 9) 40) 8):=by rw[DV,Ah he]
    (iterate 6 refine WK ?_);refine D5 (fieldA ⟨Db j,1+Bn r 9,Bn (BW r 9) 40-30⟩) ?_;refine WK ?_;refine Ay λY=>?_;refine KK ?_
    refine GP (j+1) Y _ _ ⟨hj',?_,?_,?_⟩
    ·rw[fAt,<-hr,hg,hL,AJ];rfl
    ·rw[Ax,hLl];rfl
    ·rw[fAt,<-hr,hg]
  ·have hj':j=c1:=by rw[Aq]at hd;omega
   subst hj';refine FL ?_;refine Ht (X:=F) (Y:=Y) .here (.next .here) rfl (.cons (.agg (.s (.cons (.base (.sl (by omega))) .nil))) .nil) ?_
   have hF:AV.frzs ((L.drop 0).take j)=(fAt j l1).1.map fieldA:=by
    rw[Dq,Al (by omega),hL];exact Frzs.h
   rw[hF]
   (iterate 3 refine WK ?_);refine D5 (A3 false ⟨El i,(fAt j l1).1⟩) ?_;refine WK ?_;refine Ay λY=>?_;refine KK ?_
   refine GP (i+1) Y _ _ ⟨h,?_,?_,?_⟩
   ·rw[hgk,hM,AJ];rfl
   ·rw[Ax,hMl];rfl
   ·rw[hgk,hr]
 ·have h:i=c:=by rw[Aq]at hb;omega
  subst h;refine JA ?_;subst hM hq;refine⟨[.sl K 0 i],[.lst true 90 2 ((kAt i l0).1.map (A3 false))],_,[(G,D9 (kAt i l0).2)],.cons (.tmp rfl) rfl .nil,.cons (.cell (.sl (p:=0) .here (by rw[AD,QT]))) .nil,by exact Av,rfl,rfl⟩
def S6:Kind:=⟨[108,105,102,101],[⟨[120],8,0⟩]⟩
def Gq:Wd:=⟨[S6],[0],[⟨⟨0,0⟩,[⟨0,[9]⟩]⟩]⟩
theorem Qc:PS prog 36 [] (wdA false Gq):=by
 refine Sp (nt:=14) (res:=[.cell 0 26]) func36 λSf=>?_
 refine KK ?_;refine Ai λX=>?_;refine KK ?_
 refine RT ?_;refine Qh (rs:=[wdA false Gq]) rfl (.cons (.cell (p:=0) rfl .here TAg.h TSize.h rfl rfl) rfl .nil)
theorem GS(a b:List Int)(hl:a.length<=1099511627776):PS prog 37 [BU false a,BU false b] (bA (decide (a=b))):=by
 refine Sp (nt:=26) (res:=[.tmp 4]) func37 λSf=>?_
 refine KK ?_;refine AB rfl (λhb=>?_) (λhb=>?_)
 ·have hb:a.length≠b.length:=by simp at hb;omega
  refine JA ?_;refine An ?_;rw[Bd λe=>hb (by rw[e])]
 ·have hb:a.length=b.length:=by simp at hb;omega
  refine KK ?_;refine DL (λi:Nat=>⟨[(0,BU false a),(1,BU false b),(12,iA (a.map iA).length),(13,iA i)],Sf⟩) (λi=>i<=a.length/\∀j (h:j<a.length),j<i->a[j]=b[j]'(by omega)) (λi=>a.length-i) 0 ⟨Ap _,λj h hj=>absurd hj (by omega)⟩ ?_;rintro i ⟨hi,he⟩;refine KK ?_;refine AB rfl (λhc=>?_) (λhc=>?_)
  ·have h:i<a.length:=by simpa using hc
   have h':i<b.length:=by omega
   refine KK ?_;refine RU ?_;(iterate 9 refine RK ?_);refine RGo.nil (by kernel_rfl) ?_;refine WK ?_;refine AB rfl (λhd=>?_) (λhd=>?_)
   ·have hd:a[i]≠b[i]:=by simpa using hd
    refine JA ?_;refine An ?_;rw[Bd λe=>hd (by subst e;rfl)]
   ·have hd:a[i]=b[i]:=by simpa using hd
    refine KK ?_;refine DB (i+1) ⟨h,λj h1 h2=>?_⟩;by_cases e:j=i
    ·subst e;exact hd
    ·exact he j h1 (by omega)
  ·have h:¬i<a.length:=by simpa using hc
   refine JA ?_;refine An ?_;rw[Br (CO hb λj h1 h2=>he j h1 (by omega))]
def eqF{α:Type}(p:α->α->Bool):List α->List α->Bool
 |[],[]=>true
 |x::xs,y::ys=>p x y&&eqF p xs ys
 |_,_=>false
theorem KI{p:α->α->Bool}:{a b:List α}->a.length≠b.length->eqF p a b=false
 |[],[],h=>absurd rfl h
 |[],_::_,_=>rfl
 |_::_,[],_=>rfl
 |x::xs,y::ys,h=>by rw[eqF,KI (by simpa using h),Bool.and_false]
theorem Nd{p:α->α->Bool}:{a b:List α}->(hl:a.length=b.length)->{i:Nat}->(h:i<a.length)->p a[i] (b[i]'(by omega))=false->eqF p a b=false
 |[],_,_,_,h,_=>absurd h (by simp)
 |x::xs,[],hl,_,_,_=>by simp at hl
 |x::xs,y::ys,hl,0,h,hp=>by rw[eqF,show p x y=false from hp,Bool.false_and]
 |x::xs,y::ys,hl,i+1,h,hp=>by
  rw[eqF,Nd (a:=xs) (b:=ys) (by simpa using hl) (i:=i) (by simpa using h) hp,Bool.and_false]
theorem KH{p:α->α->Bool}:{a b:List α}->(hl:a.length=b.length)->(∀i (h:i<a.length),p a[i] (b[i]'(by omega))=true)->eqF p a b=true
 |[],[],_,_=>rfl
 |[],_::_,hl,_=>by simp at hl
 |x::xs,[],hl,_=>by simp at hl
 |x::xs,y::ys,hl,h=>by
  rw[eqF,show p x y=true from h 0 (by simp),KH (a:=xs) (b:=ys) (by simpa using hl) λi hi=>h (i+1) (by simpa using hi)];rfl
theorem JX{p:α->α->Bool}[DecidableEq α]:{a b:List α}->(∀x∈a,∀y∈b,p x y=decide (x=y))->eqF p a b=decide (a=b)
 |[],[],_=>rfl
 |[],_::_,_=>rfl
 |_::_,[],_=>rfl
 |x::xs,y::ys,h=>by
  rw[eqF,h x (by simp) y (by simp),JX λu hu v hv=>h u (by simp[hu]) v (by simp[hv])];by_cases e:x=y<;>by_cases e2:xs=ys<;>simp[e,e2]
theorem H5(a b:List Comp)(f:FuncId)(cap:List AV)(p:Comp->Comp->Bool)(hs:DG cap=true)(hl:a.length<=4611686018427387904)(hf:∀x∈a,∀y∈b,PS prog f ((AT false) x::(AT false) y::cap) (bA (p x y))):
  PS prog 85 [.lst false 42 2 (a.map (AT false)),.lst false 42 2 (b.map (AT false)),.fn f cap] (bA (eqF p a b)):=by
 refine Sp (nt:=32) (res:=[.tmp 6]) func85 λSf=>?_
 refine KK ?_;refine AB rfl (λhb=>?_) (λhb=>?_)
 ·have hb:a.length≠b.length:=by simp at hb;omega
  refine JA ?_;refine An ?_;rw[KI hb]
 ·have hb:a.length=b.length:=by simp at hb;omega
  refine KK ?_;refine DL (λi:Nat=>⟨[(0,.lst false 42 2 (a.map (AT false))),(1,.lst false 42 2 (b.map (AT false))),(2,.fn f cap),(15,.lst false 42 2 (a.map (AT false))),(16,iA (a.map (AT false)).length),(17,iA i)],Sf⟩) (λi=>i<=a.length/\∀j (h:j<a.length),j<i->p a[j] (b[j]'(by omega))=true) (λi=>a.length-i) 0 ⟨Ap _,λj h hj=>absurd hj (by omega)⟩ ?_;rintro i ⟨hi,he⟩;refine KK ?_;refine AB rfl (λhc=>?_) (λhc=>?_)
  ·have h:i<a.length:=by simpa using hc
   have h':i<b.length:=by omega
   refine KK ?_;refine Ai λX=>?_;refine KK ?_;refine Ai λX=>?_;refine KK ?_;refine GF (h:=(hf _ (BG h) _ (BG h'))) (k:=?_);refine KK ?_
   refine AB rfl (λhd=>?_) (λhd=>?_)
   ·have hd:p a[i] b[i]=false:=by simpa using hd
    refine JA ?_;refine An ?_;rw[Nd hb h hd]
   ·have hd:p a[i] b[i]=true:=by simpa using hd
    refine KK ?_;refine DB (i+1) ⟨h,λj h1 h2=>?_⟩;by_cases e:j=i
    ·subst e;exact hd
    ·exact he j h1 (by omega)
  ·have h:¬i<a.length:=by simpa using hc
   refine JA ?_;refine An ?_;rw[KH hb λj hj=>he j hj (by omega)]
theorem H4(a b:List Item)(f:FuncId)(cap:List AV)(p:Item->Item->Bool)(hs:DG cap=true)(hl:a.length<=4611686018427387904)(hf:∀x∈a,∀y∈b,PS prog f ((Aj false) x::(Aj false) y::cap) (bA (p x y))):
  PS prog 83 [.lst false 83 3 (a.map (Aj false)),.lst false 83 3 (b.map (Aj false)),.fn f cap] (bA (eqF p a b)):=by
 refine Sp (nt:=32) (res:=[.tmp 6]) func83 λSf=>?_
 refine KK ?_;refine AB rfl (λhb=>?_) (λhb=>?_)
 ·have hb:a.length≠b.length:=by simp at hb;omega
  refine JA ?_;refine An ?_;rw[KI hb]
 ·have hb:a.length=b.length:=by simp at hb;omega
  refine KK ?_;refine DL (λi:Nat=>⟨[(0,.lst false 83 3 (a.map (Aj false))),(1,.lst false 83 3 (b.map (Aj false))),(2,.fn f cap),(15,.lst false 83 3 (a.map (Aj false))),(16,iA (a.map (Aj false)).length),(17,iA i)],Sf⟩) (λi=>i<=a.length/\∀j (h:j<a.length),j<i->p a[j] (b[j]'(by omega))=true) (λi=>a.length-i) 0 ⟨Ap _,λj h hj=>absurd hj (by omega)⟩ ?_;rintro i ⟨hi,he⟩;refine KK ?_;refine AB rfl (λhc=>?_) (λhc=>?_)
  ·have h:i<a.length:=by simpa using hc
   have h':i<b.length:=by omega
   refine KK ?_;refine Ai λX=>?_;refine KK ?_;refine Ai λX=>?_;refine KK ?_;refine GF (h:=(hf _ (BG h) _ (BG h'))) (k:=?_);refine KK ?_
   refine AB rfl (λhd=>?_) (λhd=>?_)
   ·have hd:p a[i] b[i]=false:=by simpa using hd
    refine JA ?_;refine An ?_;rw[Nd hb h hd]
   ·have hd:p a[i] b[i]=true:=by simpa using hd
    refine KK ?_;refine DB (i+1) ⟨h,λj h1 h2=>?_⟩;by_cases e:j=i
    ·subst e;exact hd
    ·exact he j h1 (by omega)
  ·have h:¬i<a.length:=by simpa using hc
   refine JA ?_;refine An ?_;rw[KH hb λj hj=>he j hj (by omega)]
theorem Ol(f g:Field)(w:World):(binOp .neq 92 (.agg [EQ f.name,.int .i64 f.bits,.int .i64 f.low].toArray) (.agg [EQ g.name,.int .i64 g.bits,.int .i64 g.low].toArray)).run prog w= .ok (.bool (decide (f≠g))) w:=by
 have h:=Su (P:=prog) (t:=92) (by kernel_rfl) (by kernel_rfl) (by kernel_rfl) ⟨f.name.toArray⟩ ⟨g.name.toArray⟩ f.bits f.low g.bits g.low w;rw[run_neq_struct];have e:(Op.equalIn 10000 92 (.agg [EQ f.name,.int .i64 f.bits,.int .i64 f.low].toArray) (.agg [EQ g.name,.int .i64 g.bits,.int .i64 g.low].toArray)).run prog w=_:=h;rw[e,AA,HW,HW]
 have hd:(!(decide (f.name=g.name)&&decide (f.bits=g.bits)&&decide (f.low=g.low)))=decide (f≠g):=by
  obtain⟨n,b,l⟩:=f;obtain⟨n',b',l'⟩:=g;rw[Eu];simp[or_assoc]
 rw[hd]
def KsL(ks:List Kind):Prop:=ks.length<=1099511627776/\∀k∈ks,k.fields.length<=1099511627776
def CsL(cs:List Comp):Prop:=cs.length<=1099511627776/\∀c∈cs,c.vals.length<=1099511627776
def ItL(l:List Item):Prop:=l.length<=1099511627776/\∀it∈l,CsL it.comps
structure WdL(w:Wd):Prop where
 ks:KsL w.kinds
 gens:w.gens.length<=1099511627776
 items:ItL w.items
theorem OS(a b:List Kind)(hl:KsL a):PS prog 100 [Bz false false a,Bz false false b] (bA (decide (a=b))):=by
 refine Sp (nt:=71) (res:=[.tmp 4]) func100 λSf=>?_
 obtain⟨hl0,hl1⟩:=hl;refine KK ?_;refine AB rfl (λhb=>?_) (λhb=>?_)
 ·have hb:a.length≠b.length:=by simp at hb;omega
  refine JA ?_;refine An ?_;rw[Bd λe=>hb (by rw[e])]
 ·have hb:a.length=b.length:=by simp at hb;omega
  refine KK ?_;refine DL (λi:Nat=>⟨[(0,Bz false false a),(1,Bz false false b),(13,iA (a.map (A3 false)).length),(14,iA i)],Sf⟩) (λi=>i<=a.length/\∀j (h:j<a.length),j<i->a[j]=b[j]'(by omega)) (λi=>a.length-i) 0 ⟨Ap _,λj h hj=>absurd hj (by omega)⟩ ?_;rintro i ⟨hi,he⟩;refine KK ?_;refine AB rfl (λhc=>?_) (λhc=>?_)
  ·have h:i<a.length:=by simpa using hc
   have h':i<b.length:=by omega
   obtain⟨x,hx⟩:=nm (a[i]);obtain⟨y,hy⟩:=nm (b[i]);have hax:(a.map (A3 false))[i]?=some (A3 false x):=by rw[Am,Ag h,hx];rfl
   have hay:(b.map (A3 false))[i]?=some (A3 false y):=by rw[Am,Ag h',hy];rfl
   have hxl:=hl1 x (hx▸BG h);have hno:¬x=y->¬a=b:=λhn e=>hn (by subst e;rw[<-hx,<-hy])
   refine KK ?_;refine RU ?_;(iterate 26 refine RK ?_);refine RGo.nil (by kernel_rfl) ?_;refine AB rfl (λhd=>?_) (λhd=>?_)
   ·refine KK ?_
    refine RT ?_;refine An ?_;rw[Bd (hno λe=>by subst e;simp at hd)]
   ·have hd:x.name=y.name/\x.fields.length=y.fields.length:=by simp at hd;exact⟨hd.1,by omega⟩
    obtain⟨hd1,hd2⟩:=hd;refine KK ?_;refine DL (λq:Nat=>⟨[(0,Bz false false a),(1,Bz false false b),(5,iA i),(13,iA (a.map (A3 false)).length),(14,iA i),(48,iA (x.fields.map fieldA).length),(49,iA q)],Sf⟩) (λq=>q<=x.fields.length/\∀j (h:j<x.fields.length),j<q->x.fields[j]=y.fields[j]'(by omega)) (λq=>x.fields.length-q) 0 ⟨Ap _,λj h hj=>absurd hj (by omega)⟩ ?_;rintro q ⟨hq,hqe⟩;refine KK ?_;refine AB rfl (λhg=>?_) (λhg=>?_)
    ·have hqx:q<x.fields.length:=by simpa using hg
     have hqy:q<y.fields.length:=by omega
     obtain⟨f,hf⟩:=nm (x.fields[q]);obtain⟨g,hgf⟩:=nm (y.fields[q]);have haf:(x.fields.map fieldA)[q]?=some (fieldA f):=by rw[Am,Ag hqx,hf];rfl
     have hag:(y.fields.map fieldA)[q]?=some (fieldA g):=by rw[Am,Ag hqy,hgf];rfl
     refine KK ?_;refine RU ?_;(iterate 16 refine RK ?_);refine RGo.p (W.neP _ _ (by kernel_rfl) (Ol f g) rfl rfl) rfl ?_;refine RGo.nil (by kernel_rfl) ?_;refine AB rfl (λhn=>?_) (λhn=>?_)
     ·have hn:f≠g:=by simpa using hn
      refine JA ?_;refine An ?_;rw[Bd (hno λe=>hn (by subst e;rw[<-hf,<-hgf]))]
     ·have hn:f=g:=by simpa using hn
      refine KK ?_;refine DB (q+1) ⟨hqx,λj h1 h2=>?_⟩;by_cases e:j=q
      ·subst e;rw[hf,hgf,hn]
      ·exact hqe j h1 (by omega)
    ·have hqx:¬q<x.fields.length:=by simpa using hg
     refine KK ?_;refine DB (i+1) ⟨h,λj h1 h2=>?_⟩;by_cases e:j=i
     ·subst e
      rw[hx,hy];have hfe:x.fields=y.fields:=CO hd2 λj h1 h2=>hqe j h1 (by omega)
      obtain⟨xn,xf⟩:=x;obtain⟨yn,yf⟩:=y;simp at hd1 hfe;rw[hd1,hfe]
     ·exact he j h1 (by omega)
  ·have h:¬i<a.length:=by simpa using hc
   refine JA ?_;refine An ?_;rw[Br (CO hb λj h1 h2=>he j h1 (by omega))]
theorem S0(x y:Comp):(decide (x.kind=y.kind)&&decide (x.vals=y.vals))=decide (x=y):=by
 obtain⟨k,v⟩:=x;obtain⟨k',v'⟩:=y;rw[Eu];simp
theorem Sc(x y:Item):(Jj x.ent y.ent&&decide (x.comps=y.comps))=decide (x=y):=by
 rw[MZ];obtain⟨k,v⟩:=x;obtain⟨k',v'⟩:=y;rw[Eu];simp
theorem L6(x y:Comp)(hl:x.vals.length<=1099511627776):PS prog 162 [AT false x,AT false y] (bA (decide (x=y))):=by
 have heq:=GS x.vals y.vals hl;rw[<-S0];refine Sp (nt:=17) (res:=[.tmp 4]) func162 λSf=>?_
 refine RG ?_;refine BX ?_;refine BX ?_;refine JC ?_;rcases Ac (decide (x.kind=y.kind))with g|g
 ·rw[g]
  refine KK ?_;refine Bw (h:=(heq ..)) (k:=?_);refine JA ?_;refine An ?_;rfl
 ·rw[g]
  refine JA ?_;refine An ?_;rfl
theorem NM(a b:List Comp)(hl:CsL a):PS prog 102 [Bp false false a,Bp false false b] (bA (decide (a=b))):=by
 have h:=H5 a b 162 [] (λx y=>decide (x=y)) rfl (by have:=hl.1;omega) (λx hx y _=>L6 x y (hl.2 x hx));rw[JX λ_ _ _ _=>rfl]at h;refine Sp (nt:=8) (res:=[.tmp 4]) func102 λSf=>?_
 refine KK ?_;refine Hv (h:=(h ..)) (k:=?_);refine JA ?_;refine An ?_;rfl
theorem SK(x y:Item)(hl:CsL x.comps):PS prog 101 [Aj false x,Aj false y] (bA (decide (x=y))):=by
 have heq:=NM x.comps y.comps hl;rw[<-Sc];refine Sp (nt:=17) (res:=[.tmp 4]) func101 λSf=>?_
 refine RG ?_;refine BX ?_;refine BX ?_;refine JC ?_;have hE:=Ps x.ent.n x.ent.gen y.ent.n y.ent.gen;rw[show(decide (x.ent.n=y.ent.n)&&decide (x.ent.gen=y.ent.gen))=Jj x.ent y.ent from rfl]at hE;cases hb:Jj x.ent y.ent
 ·rw[hb]at hE
  (iterate 6 refine WK ?_);refine AQ (W.eqP _ _ (by kernel_rfl) hE rfl rfl) rfl ?_;refine KK ?_
  refine RT ?_;refine An ?_;rfl
 ·rw[hb]at hE
  (iterate 6 refine WK ?_);refine AQ (W.eqP _ _ (by kernel_rfl) hE rfl rfl) rfl ?_;refine KK ?_;refine Bw (h:=(heq ..)) (k:=?_);refine KK ?_
  refine RT ?_;refine An ?_;rfl
theorem Vt(x y:Wd):(decide (x.kinds=y.kinds)&&decide (x.gens=y.gens)&&decide (x.items=y.items))=decide (x=y):=by
 obtain⟨k,v,u⟩:=x;obtain⟨k',v',u'⟩:=y;rw[Eu];simp[and_assoc]
theorem Tw(a b:Wd)(hl:WdL a):PS prog 39 [wdA false a,wdA false b] (bA (decide (a=b))):=by
 have h1:=OS a.kinds b.kinds hl.ks;have h2:=GS a.gens b.gens hl.gens;have h3:=H4 a.items b.items 101 [] (λx y=>decide (x=y)) rfl (by have:=hl.items.1;omega) (λx hx y _=>SK x y (hl.items.2 x hx));rw[JX λ_ _ _ _=>rfl]at h3;rw[<-Vt];refine Sp (nt:=24) (res:=[.tmp 4]) func39 λSf=>?_
 refine RG ?_;refine BX ?_;refine BX ?_;refine JC ?_;obtain⟨b1,e1⟩:=nm (decide (a.kinds=b.kinds));obtain⟨b2,e2⟩:=nm (decide (a.gens=b.gens));rw[e1]at h1⊢;rw[e2]at h2⊢;cases b1
 ·refine KK ?_;refine Bw (h:=(h1 ..)) (k:=?_);refine KK ?_
  refine RT ?_;refine An ?_;rfl
 ·cases b2
  ·refine KK ?_;refine Bw (h:=(h1 ..)) (k:=?_);refine KK ?_;refine Bw (h:=(h2 ..)) (k:=?_);refine KK ?_
   refine RT ?_;refine An ?_;rfl
  ·refine KK ?_;refine Bw (h:=(h1 ..)) (k:=?_);refine KK ?_;refine Bw (h:=(h2 ..)) (k:=?_);refine KK ?_;refine Hv (h:=(h3 ..)) (k:=?_);refine KK ?_
   refine RT ?_;refine An ?_;rfl
theorem Ow(s:List UInt8)(i:Nat):Ox s i=(decide ((97:Int)<=(s.getD i 0).toNat)&&decide (((s.getD i 0).toNat:Int)<=122)||decide ((0:Int)<i)&&decide ((48:Int)<=(s.getD i 0).toNat)&&decide (((s.getD i 0).toNat:Int)<=57)):=by
 have h:∀a b:UInt8,decide (a<=b)=decide ((a.toNat:Int)<=b.toNat):=λa b=>by simp[UInt8.le_iff_toNat_le]
 have h0:decide (0<i)=decide ((0:Int)<i):=by simp
 simp only[Ox,V4,V9,h,h0,Bool.and_assoc];rfl
theorem QP(s:List UInt8):PS prog 184 [sA s] (bA (D8 s)):=by
 refine Sp (nt:=41) (res:=[.tmp 2]) func184 λSf=>?_
 refine KK ?_;refine AB rfl (λhb=>?_) (λhb=>?_)
 ·refine KK ?_
  refine RT ?_;refine Be rfl rfl (by exact Av) ⟨?_,rfl⟩;rw[OL s (by simp only[CQ,As]at hb;omega)]
 have hb1:s.length≠0/\s.length<=16:=by simp only[FD,Aq]at hb;omega
 (iterate 9 refine WK ?_);refine DH (λi:Nat=>⟨[(0,sA s),(14,iA s.length),(15,iA i)],Sf⟩) (λi=>i<=s.length/\∀j,j<i->Ox s j=true) (λi=>s.length-i) 0 ⟨by omega,by omega⟩ ⟨.cons rfl (.cons rfl (.cons rfl .nil)),Dt _⟩ ?_
 rintro i ⟨hi,hn⟩;refine KK ?_;refine AB rfl (λhb=>?_) (λhb=>?_)
 ·have h:i<s.length:=by simpa using hb
  (iterate 12 refine WK ?_);refine AQ (W.idxStr rfl rfl rfl h) rfl ?_;refine KK ?_
  refine AB rfl (λhc=>?_) (λhc=>?_)
  ·refine KK ?_
   refine RT ?_;refine Be rfl rfl (by exact Av) ⟨?_,rfl⟩;rw[<-Ow]at hc;rw[Q9 s i h (by simpa using hc)]
  ·refine KK ?_
   refine⟨i+1,⟨by omega,λj hj=>?_⟩,by omega,.cons rfl (.cons rfl (.cons rfl .nil)),by exact Av⟩;rw[<-Ow]at hc;by_cases e:j=i
   ·subst e;simpa using hc
   ·exact hn j (by omega)
 ·have h:¬i<s.length:=by simpa using hb
  refine JA ?_;refine Be rfl rfl (by exact Av) ⟨?_,rfl⟩;rw[Pb s (by omega) hb1.2 λj hj=>hn j (by omega)]
theorem LK(f:Field):PS prog 219 [fieldA f] (iA (BI f)):=by
 refine Sp (nt:=27) (res:=[.tmp 2]) func219 λSf=>?_
 refine KK ?_;refine Ai λX=>?_;(iterate 7 refine WK ?_);refine AQ (W.call1 rfl (QP _) rfl) rfl ?_;refine KK ?_
 refine AB rfl (λhb=>?_) (λhb=>?_)
 ·refine KK ?_
  refine RT ?_;refine Be rfl rfl (by exact Av) ⟨?_,rfl⟩;rw[Om f λhn hk=>?_];simp only[hn,HB,Bool.false_or,CQ,As]at hb;omega
 ·refine KK ?_
  refine RT ?_;refine Be rfl rfl (by exact Av) ⟨?_,rfl⟩;simp only[FD,Bool.not_eq_false',Aq]at hb;rw[Jp f hb.1.1.1.1 (by omega)]
theorem UI(f:Field):PS prog 220 [fieldA f] (iA (E1 f)):=by
 refine Sp (nt:=13) (res:=[.tmp 2]) func220 λSf=>?_
 refine KK ?_;refine Ai λX=>?_;(iterate 6 refine WK ?_);refine AQ (W.call1 rfl (LK _) rfl) rfl ?_;refine KK ?_
 refine AB rfl (λhb=>?_) (λhb=>?_)
 ·have hb:BI f≠0:=by simpa using hb
  refine JA ?_;refine Be rfl rfl (by exact Av) ⟨?_,rfl⟩;simp[E1,hb]
 have hb:BI f=0:=by simpa using hb
 have h1:=(E2 f).1 hb;obtain⟨n,hn⟩:∃n:Nat,f.bits=n:=⟨f.bits.toNat,by omega⟩
 have hp:(2:Int)^n<=4294967296/\1<=(2:Int)^n:=by
  have hn2:n<=32:=by omega
  clear hn;have:∀n,n<=32->(2:Int)^n<=4294967296/\1<=(2:Int)^n:=by decide
  exact this n hn2
 have hw:IntKind.i64.wrap (1*2^n)=2^n:=by rw[Int.one_mul];exact E9 (by omega) (by omega)
 refine KK ?_;refine RU ?_;(iterate 4 refine RK ?_);refine RGo.p (W.shl rfl rfl hn (by show n<=64;omega)) rfl ?_;refine RGo.p (W.sub rfl rfl (by rw[hw];omega)) rfl ?_;refine RGo.p (W.add rfl rfl (by rw[hw];omega)) rfl ?_;refine RK ?_;refine RGo.nil (by kernel_rfl) ?_;refine WK ?_;refine RT ?_;refine Be rfl rfl (by exact Av) ⟨?_,rfl⟩;simp only[hw];simp[E1,hb,hn]
theorem T9(f:Field)(v:Int):PS prog 167 [fieldA f,iA v] (iA (Cs f v)):=by
 refine Sp (nt:=15) (res:=[.tmp 4]) func167 λSf=>?_
 refine KK ?_;refine Ai λX=>?_;(iterate 6 refine WK ?_);refine AQ (W.call1 rfl (LK _) rfl) rfl ?_;refine KK ?_
 refine AB rfl (λhb=>?_) (λhb=>?_)
 ·have hb:BI f≠0:=by simpa using hb
  refine JA ?_;refine Be rfl rfl (by exact Av) ⟨?_,rfl⟩;simp[Cs,hb]
 have hb:BI f=0:=by simpa using hb
 refine KK ?_;refine RU ?_;(iterate 4 refine RK ?_);refine RGo.p (W.call1 rfl (UI _) rfl) rfl ?_;(iterate 3 refine RK ?_);refine RGo.nil (by kernel_rfl) ?_;refine WK ?_;refine RT ?_;refine Be rfl rfl (by exact Av) ⟨?_,rfl⟩;rw[show Cs f v=max f.low (min v (E1 f))from by simp[Cs,hb]];simp only[Int.max_def,Int.min_def]
 congr 2
 (repeat' split)<;>omega
theorem SQ(k:Kind):PS prog 163 [A3 false k] (iA (CD k)):=by
 refine Sp (nt:=45) (res:=[.tmp 2]) func163 λSf=>?_
 refine WK ?_;refine WK ?_;refine Fe λX1=>?_;refine CM (W.box rfl .here rfl) rfl ?_;(iterate 7 refine WK ?_);refine AQ (W.call1 rfl (QP _) rfl) rfl ?_;refine KK ?_
 refine AB rfl (λhb=>?_) (λhb=>?_)
 ·refine KK ?_
  refine RT ?_;refine Be rfl rfl (by exact Av) ⟨?_,rfl⟩;have hb:D8 k.name=false:=by simpa using hb
  rw[show CD k=3 from by simp[CD,hb]]
 have hn:D8 k.name=true:=by simpa using hb
 refine KK ?_;refine AB rfl (λhb=>?_) (λhb=>?_)
 ·refine KK ?_
  refine RT ?_;refine Be rfl rfl (by exact Av) ⟨?_,rfl⟩;have hb:8<k.fields.length:=by rw[As,AD]at hb;omega
  rw[show CD k=2 from by simp[CD,hn,hb]]
 have hl:k.fields.length<=8:=by rw[Aq,AD]at hb;omega
 have e1:CD k=CS [] k.fields:=by simp[CD,hn];omega
 (iterate 10 refine WK ?_);refine DH (λi:Nat=>⟨[(1,.ptr X1 0 0),(17,FB false k.fields),(18,iA (k.fields.map fieldA).length),(19,iA i)],(X1,.row 90 2 [A3 false k])::Sf⟩) (λi=>i<=k.fields.length/\CS [] k.fields=CS (k.fields.take i) (k.fields.drop i)) (λi=>k.fields.length-i) 0 ⟨by omega,rfl⟩ ⟨.cons rfl (.cons rfl (.cons rfl (.cons rfl .nil))),by exact Av⟩ ?_
 rintro i ⟨hi,he⟩;refine KK ?_;refine AB rfl (λhb=>?_) (λhb=>?_)
 ·have h:i<k.fields.length:=by simpa using hb
  (repeat first|(refine AX ?_;first|refine AQ (W.idxL rfl rfl rfl (Cb _ h)) rfl ?_|refine AQ (W.call1 rfl (LK _) rfl) rfl ?_)|refine WK ?_|refine Ai λX=>?_|refine Ay λY=>?_);refine AB rfl (λhc=>?_) (λhc=>?_)
  ·have hc:BI k.fields[i]≠0:=by simpa using hc
   refine JA ?_;refine Be rfl rfl (by exact Av) ⟨?_,rfl⟩;rw[e1,he,Gl h,ML hc];rfl
  have hc:BI k.fields[i]=0:=by simpa using hc
  have hmt:((k.fields.map fieldA).take i).length=i:=by simp;omega
  (iterate 6 refine WK ?_);refine AQ (W.hiL rfl rfl rfl (by simp;omega)) rfl ?_;(iterate 4 refine WK ?_);refine DH (λj:Nat=>⟨[(1,.ptr X1 0 0),(17,FB false k.fields),(18,iA (k.fields.map fieldA).length),(19,iA i),(3,iA i),(4,.ptr X 0 0),(32,.lst false 92 3 ((k.fields.map fieldA).take i)),(33,iA ((k.fields.map fieldA).take i).length),(34,iA j)],(X,.row 92 3 [fieldA k.fields[i]])::(X1,.row 90 2 [A3 false k])::Sf⟩) (λj=>j<=i/\∀q (hq:q<k.fields.length),q<j->k.fields[q].name≠k.fields[i].name) (λj=>i-j) 0 ⟨by omega,by omega⟩ ⟨.cons rfl (.cons rfl (.cons rfl (.cons rfl (.cons rfl (.cons rfl (.cons rfl (.cons rfl (.cons rfl .nil)))))))),by exact Av⟩ ?_
  rintro j ⟨hj,hne⟩;refine KK ?_;refine AB rfl (λhd=>?_) (λhd=>?_)
  ·have hd:j<i:=by rw[hmt]at hd;simpa using hd
   have hat:((k.fields.map fieldA).take i)[j]?=some (fieldA (k.fields[j]'(by omega))):=by rw[List.getElem?_take_of_lt hd];exact Cb _ _
   (iterate 5 refine WK ?_);refine AQ (W.idxL rfl rfl rfl hat) rfl ?_;refine KK ?_;refine Ai λX=>?_;refine KK ?_
   refine AB rfl (λhq=>?_) (λhq=>?_)
   ·have hq:(k.fields[j]'(by omega)).name=k.fields[i].name:=by simpa using hq
    refine JA ?_;refine Be rfl rfl (by exact Av) ⟨?_,rfl⟩;rw[e1,he,Gl h,KC hc (j:=j) (by simp;omega) (by simpa using hq)]
   ·have hq:(k.fields[j]'(by omega)).name≠k.fields[i].name:=by simpa using hq
    refine KK ?_;refine⟨j+1,⟨by omega,λq hq1 hq2=>?_⟩,by omega,.cons rfl (.cons rfl (.cons rfl (.cons rfl (.cons rfl (.cons rfl (.cons rfl (.cons rfl (.cons rfl .nil)))))))),by exact Av⟩;by_cases e:q=j
    ·subst e;exact hq
    ·exact hne q hq1 (by omega)
  ·have hd:¬j<i:=by rw[hmt]at hd;simpa using hd
   refine KK ?_;refine⟨i+1,⟨by omega,?_⟩,by omega,.cons rfl (.cons rfl (.cons rfl (.cons rfl .nil))),by exact Av⟩;rw[he,Gl h,LJ hc λq hq=>?_,GL,Ag h]
   ·rfl
   ·simp only[List.getElem_take]
    exact hne q (by simp at hq;omega) (by simp at hq;omega)
 ·have h:¬i<k.fields.length:=by simpa using hb
  refine JA ?_;refine Be rfl rfl (by exact Av) ⟨?_,rfl⟩;rw[e1,he,MK (by omega)]
theorem Ko{k:Kind}(h:CD k=0):k.fields.length<=8:=by
 unfold CD at h;split at h
 ·split at h
  ·cases h
  ·omega
 ·cases h
def JS(k:Kind)(vals:List Int)(i:Nat):List Int:=(List.zipWith Cs k.fields vals).take i++List.replicate (vals.length-i) 0
theorem UN{k:Kind}(hl:vals.length=k.fields.length)(h:i<vals.length):((JS k vals i).map iA)[i]?=some (iA 0):=by
 have hz:(List.zipWith Cs k.fields vals).length=vals.length:=by simp;omega
 rw[Am,JS,BK (by simp;omega)];rw[BA,BJ (by omega),DY,F3,A1 (by omega)];rfl
theorem Sq{k:Kind}(hl:vals.length=k.fields.length)(h:i<vals.length):((JS k vals i).map iA).set i (iA (Cs (k.fields[i]'(by omega)) vals[i]))=(JS k vals (i+1)).map iA:=by
 have hz:(List.zipWith Cs k.fields vals).length=vals.length:=by simp;omega
 rw[<-A8]
 congr 1
 unfold JS;rw[Et _ _ (by simp;omega),BA,BJ (by omega),DY];rw[show vals.length-i=(vals.length-(i+1))+1 from by omega,Hq,IY];rw[GL,Ag (by omega),BC];simp
theorem Pk(k:Kind)(vals:List Int):PS prog 107 [A3 false k,BU false vals] (.tup [BU true (Ce k vals).1,iA (Ce k vals).2]):=by
 refine Sp (nt:=43) (res:=[.tmp 4,.tmp 5]) func107 λSf=>?_
 refine WK ?_;refine WK ?_;refine Fe λB=>?_;refine CM (W.box rfl .here rfl) rfl ?_;(iterate 7 refine WK ?_);refine AQ (W.call1 rfl (SQ _) rfl) rfl ?_;refine KK ?_
 refine AB rfl (λhb=>?_) (λhb=>?_)
 ·have hb:CD k≠0:=by simpa using hb
  refine JA ?_;rw[show Ce k vals=([],CD k)from by simp[Ce,hb]];exact⟨[.prim (.slice none 0 0),iA (CD k)],[BU true [],iA (CD k)],_,[],.cons (.tmp rfl) rfl (.cons (.tmp rfl) rfl .nil),.cons (.cell .nil) (.cons (.cell .same) .nil),by exact Av,rfl,rfl⟩
 have hk:CD k=0:=by simpa using hb
 have h8:=Ko hk;refine KK ?_;refine AB rfl (λhb=>?_) (λhb=>?_)
 ·have hb:vals.length≠k.fields.length:=by rw[As,AD,AD]at hb;omega
  refine JA ?_;rw[show Ce k vals=([],1)from by simp[Ce,hk,hb]];exact⟨[.prim (.slice none 0 0),iA 1],[BU true [],iA 1],_,[],.cons (.tmp rfl) rfl (.cons (.tmp rfl) rfl .nil),.cons (.cell .nil) (.cons (.cell .same) .nil),by exact Av,rfl,rfl⟩
 have hl:vals.length=k.fields.length:=by rw[Aq,AD,AD]at hb;omega
 have hv:(vals.map iA).length<=8:=by simp;omega
 have hz:List.replicate (vals.map iA).length (zAV [.int .i64 0] false)=(JS k vals 0).map iA:=by simp[JS];exact .inr rfl
 (iterate 5 refine WK ?_);refine Fe λXL=>?_;refine CM (W.make rfl rfl .here rfl (.inr rfl) rfl rfl (AP _) (by omega) (CT hv (by decide))) rfl ?_;(iterate 11 refine WK ?_);refine DH (λi:Nat=>⟨[(1,BU false vals),(7,.sl XL 0 (vals.map iA).length),(25,FB false k.fields),(26,iA (k.fields.map fieldA).length),(27,iA i)],(XL,.row 3 1 ((JS k vals i).map iA))::(B,.row 90 2 [A3 false k])::Sf⟩) (λi=>i<=vals.length) (λi=>vals.length-i) 0 (Ap _) ⟨.cons rfl (.cons rfl (.cons rfl (.cons rfl (.cons rfl .nil)))),(by show List.Sublist ((XL,.row 3 1 ((JS k vals 0).map iA))::(B,.row 90 2 [A3 false k])::Sf) _;rw[<-hz];exact Av)⟩ ?_
 rintro i hi;refine KK ?_;refine AB rfl (λhb=>?_) (λhb=>?_)
 ·have h:i<vals.length:=by rw[As,AD]at hb;omega
  have h':i<k.fields.length:=by omega
  (iterate 6 refine WK ?_);refine AQ (W.idxL rfl rfl rfl (Cb _ h')) rfl ?_;refine KK ?_;refine Ai λX=>?_;refine KK ?_
  refine RU ?_;(iterate 5 refine RK ?_);refine RGo.p (W.idxL rfl rfl rfl (Cb _ h)) rfl ?_;refine RK ?_;refine RGo.p (W.call2 rfl rfl (T9 _ _) rfl) rfl ?_;refine RGo.p (W.idx rfl rfl (by exact AY) rfl (by simpa using h) (Af _)) rfl ?_;refine RGo.s (W.store rfl rfl (by exact AY) (UN hl h) (by exact rfl)) rfl ?_;refine RGo.nil (by kernel_rfl) ?_;refine KK ?_;refine⟨i+1,by omega,by omega,.cons rfl (.cons rfl (.cons rfl (.cons rfl (.cons rfl .nil)))),?_⟩;show List.Sublist ((XL,.row 3 1 ((JS k vals (i+1)).map iA))::(B,.row 90 2 [A3 false k])::Sf) _
  rw[<-Sq hl h];exact Av
 ·have h:¬i<vals.length:=by rw[Aq,AD]at hb;omega
  refine JA ?_;rw[show Ce k vals=(List.zipWith Cs k.fields vals,0)from by simp[Ce,hk,hl]]
  have he:(JS k vals i).map iA=(List.zipWith Cs k.fields vals).map iA:=by
   congr 1
   rw[JS,show vals.length-i=0 from by omega,Al (by simp;omega)];simp
  refine⟨[.sl XL 0 (vals.map iA).length,iA 0],[.lst true 3 1 ((JS k vals i).map iA),iA 0],_,[],.cons (.tmp rfl) rfl (.cons (.tmp rfl) rfl .nil),.cons (.cell (.sl (p:=0) .here (by rw[he];simp;omega))) (.cons (.cell .same) .nil),by exact Av,?_,rfl⟩;rw[he];rfl
theorem Pm{k:Kind}(h:(Ce k vals).2=0):(Ce k vals).1.length=vals.length/\vals.length<=8:=by
 unfold Ce at h⊢;split
 ·rename_i h1;rw[A1 h1]at h;exact absurd h h1
 ·rename_i h1
  rw[Ah h1]at h;split
  ·rename_i h2;rw[A1 h2]at h;cases h
  ·rename_i h2;have:=Ko (Qi.1 h1);simp;omega
theorem Sg(k:Kind)(vals:List Int):PS prog 165 [A3 false k,BU false vals] (bA (Df k vals)):=by
 refine Sp (nt:=31) (res:=[.tmp 4]) func165 λSf=>?_
 have hfr:(AV.tup [BU true (Ce k vals).1,iA (Ce k vals).2]).frz= .tup [BU false (Ce k vals).1,iA (Ce k vals).2]:=by
  show AV.tup [(BU true (Ce k vals).1).frz,_]=_
  rw[RI];rfl
 refine KK ?_;refine Ai λX=>?_;(iterate 6 refine WK ?_);refine AQ (W.callF2 rfl rfl (Pk _ _) rfl hfr) rfl ?_;refine KK ?_
 refine AB rfl (λhb=>?_) (λhb=>?_)
 ·have hb:(Ce k vals).2≠0:=by simpa using hb
  refine JA ?_;refine Be rfl rfl (by exact Av) ⟨?_,rfl⟩;simp[Df,hb]
 have hb:(Ce k vals).2=0:=by simpa using hb
 obtain⟨hlen,h8⟩:=Pm hb;obtain⟨fl,hfl⟩:∃fl,fl=(Ce k vals).1:=⟨_,rfl⟩;rw[<-hfl]at hlen;rw[show Df k vals=decide (fl=vals)from by simp[Df,hb,hfl]];rw[<-hfl];clear hfr
 (iterate 9 refine WK ?_);refine DH (λi:Nat=>⟨[(1,BU false vals),(5,BU false fl),(17,iA (fl.map iA).length),(18,iA i)],Sf⟩) (λi=>i<=vals.length/\∀j (h:j<vals.length),j<i->fl[j]'(by omega)=vals[j]) (λi=>vals.length-i) 0 ⟨Ap _,λj h hj=>absurd hj (by omega)⟩ ⟨.cons rfl (.cons rfl (.cons rfl (.cons rfl .nil))),by exact Av⟩ ?_
 rintro i ⟨hi,he⟩;refine KK ?_;refine AB rfl (λhc=>?_) (λhc=>?_)
 ·have h:i<fl.length:=by rw[As,AD]at hc;omega
  have h':i<vals.length:=by omega
  refine KK ?_;refine RU ?_;refine JE ?_;refine RGo.p (W.idxL rfl rfl rfl (Cb _ h)) rfl ?_;(iterate 3 refine RK ?_);refine RGo.p (W.idxL rfl rfl rfl (Cb _ h')) rfl ?_;refine JE ?_;refine RGo.nil (by kernel_rfl) ?_;refine WK ?_;refine AB rfl (λhd=>?_) (λhd=>?_)
  ·have hd:fl[i]≠vals[i]:=by simpa using hd
   refine JA ?_;refine Be rfl rfl (by exact Av) ⟨?_,rfl⟩;rw[Bd (λe=>hd (by subst e;rfl))]
  ·have hd:fl[i]=vals[i]:=by simpa using hd
   refine KK ?_;refine⟨i+1,⟨by omega,λj h1 h2=>?_⟩,by omega,.cons rfl (.cons rfl (.cons rfl (.cons rfl .nil))),by exact Av⟩;by_cases e:j=i
   ·subst e;exact hd
   ·exact he j h1 (by omega)
 ·have h:¬i<fl.length:=by rw[Aq,AD]at hc;omega
  refine JA ?_;refine Be rfl rfl (by exact Av) ⟨?_,rfl⟩;rw[Br (CO hlen λj h1 h2=>he j h2 (by omega))]
theorem LR(l:List Kind):PS prog 103 [Bz false false l] (iA (CL l)):=by
 refine Sp (nt:=29) (res:=[.tmp 2]) func103 λSf=>?_
 refine KK ?_;refine AB rfl (λhb=>?_) (λhb=>?_)
 ·refine KK ?_
  refine RT ?_;refine Be rfl rfl (by exact Av) ⟨?_,rfl⟩;have hb:16<l.length:=by rw[As,AD]at hb;omega
  rw[show CL l=2 from by simp[CL,hb]]
 have hl:l.length<=16:=by rw[Aq,AD]at hb;omega
 have e1:CL l=Cu [] l:=by simp[CL];omega
 (iterate 9 refine WK ?_);refine DH (λi:Nat=>⟨[(0,Bz false false l),(9,Bz false false l),(10,iA (l.map (A3 false)).length),(11,iA i)],Sf⟩) (λi=>i<=l.length/\Cu [] l=Cu (l.take i) (l.drop i)) (λi=>l.length-i) 0 ⟨by omega,rfl⟩ ⟨.cons rfl (.cons rfl (.cons rfl (.cons rfl .nil))),by exact Av⟩ ?_
 rintro i ⟨hi,he⟩;refine KK ?_;refine AB rfl (λhb=>?_) (λhb=>?_)
 ·have h:i<l.length:=by simpa using hb
  (repeat first|(refine AX ?_;first|refine AQ (W.idxL rfl rfl rfl (Cb _ h)) rfl ?_|refine AQ (W.call1 rfl (SQ _) rfl) rfl ?_)|refine WK ?_|refine Ai λX=>?_|refine Ay λY=>?_);refine AB rfl (λhc=>?_) (λhc=>?_)
  ·have hc:CD l[i]≠0:=by simpa using hc
   refine JA ?_;refine Be rfl rfl (by exact Av) ⟨?_,rfl⟩;rw[e1,he,HH h,NV hc];rfl
  have hc:CD l[i]=0:=by simpa using hc
  have hf:PS prog 164 [.lst false 90 2 ((l.map (A3 false)).take i),sA l[i].name] (iA (EH (l.take i) l[i].name)):=by
   have:=UP (l.take i) l[i].name (by simp;omega);simpa only[Bz,F0]using this
  refine KK ?_;refine RU ?_;refine JE ?_;refine RGo.p (W.hiL rfl rfl rfl (by simp;omega)) rfl ?_;refine JE ?_;refine RGo.p (W.call2 rfl rfl hf rfl) rfl ?_;refine RK ?_;refine RGo.nil (by kernel_rfl) ?_;refine WK ?_;refine AB rfl (λhd=>?_) (λhd=>?_)
  ·have hd:0<=EH (l.take i) l[i].name:=by simpa using hd
   refine JA ?_;refine Be rfl rfl (by exact Av) ⟨?_,rfl⟩;rw[e1,he,HH h,Kw hc hd]
  ·have hd:EH (l.take i) l[i].name<0:=by simpa using hd
   refine KK ?_;refine⟨i+1,⟨by omega,?_⟩,by omega,.cons rfl (.cons rfl (.cons rfl (.cons rfl .nil))),by exact Av⟩;rw[he,HH h,MB hc hd,GL,Ag h];rfl
 ·have h:¬i<l.length:=by simpa using hb
  refine JA ?_;refine Be rfl rfl (by exact Av) ⟨?_,rfl⟩;rw[e1,he,NU (by omega)]
def Dv(ks:List Kind):Int->List Comp->Bool
 |_,[]=>true
 |last,c::l=>match ks[c.kind.toNat]? with
  |some k=>decide (last<c.kind)&&decide (c.kind<ks.length)&&Df k c.vals&&Dv ks c.kind l
  |none=>false
def Dk(ks:List Kind)(l:List Comp):Bool:=Dv ks (-1) l
theorem OY{ks:List Kind}{l:List Comp}{last:Int}{k:Kind}{c:Comp}(h:i<l.length)(hc:l[i]=c)(hk:ks[c.kind.toNat]?=some k):Dv ks last (l.drop i)=(decide (last<c.kind)&&decide (c.kind<ks.length)&&Df k c.vals&&Dv ks c.kind (l.drop (i+1))):=by
 rw[DE h,Dv,hc,hk]
theorem Jn{ks:List Kind}{l:List Comp}{last:Int}{c:Comp}(h:i<l.length)(hc:l[i]=c)(hn:c.kind<=last\/(ks.length:Int)<=c.kind):Dv ks last (l.drop i)=false:=by
 rw[DE h,Dv,hc];split
 ·rcases hn with hn|hn
  ·rw[Bd (by omega)];rfl
  ·rw[Bd (p:=c.kind<_) (by omega)];simp
 ·rfl
def C7(ks:List Kind)(gens:List Int):Int->List Item->Bool
 |_,[]=>true
 |last,it::l=>match gens[it.ent.n.toNat]? with
  |some g=>decide (last<it.ent.n)&&decide (it.ent.n<gens.length)&&decide (it.ent.gen=g)&& !decide (it.ent.gen=1073741824)&&Dk ks it.comps&&C7 ks gens it.ent.n l
  |none=>false
theorem NX{ks:List Kind}{gens:List Int}{l:List Item}{last:Int}{g:Int}{it:Item}(h:i<l.length)(hc:l[i]=it)(hk:gens[it.ent.n.toNat]?=some g):C7 ks gens last (l.drop i)=(decide (last<it.ent.n)&&decide (it.ent.n<gens.length)&&decide (it.ent.gen=g)&& !decide (it.ent.gen=1073741824)&&Dk ks it.comps&&C7 ks gens it.ent.n (l.drop (i+1))):=by
 rw[DE h,C7,hc,hk]
theorem Ir{ks:List Kind}{gens:List Int}{l:List Item}{last:Int}{it:Item}(h:i<l.length)(hc:l[i]=it)(hn:it.ent.n<=last\/(gens.length:Int)<=it.ent.n):C7 ks gens last (l.drop i)=false:=by
 rw[DE h,C7,hc];split
 ·rcases hn with hn|hn
  ·rw[Bd (by omega)];rfl
  ·rw[Bd (p:=it.ent.n<_) (by omega)];simp
 ·rfl
def IN(l:List Int):Bool:=l.all λg=>decide (0<=g)&&decide (g<=1073741824)
def ET(w:Wd):Int:=
 if CL w.kinds≠0 then CL w.kinds
 else if 256<w.gens.length\/w.gens.length<w.items.length then 2
 else if IN w.gens=false then 3
 else if C7 w.kinds w.gens (-1) w.items=false then 3 else 0
theorem UJ(ks:List Kind)(l:List Comp)(hl:l.length<=1099511627776):PS prog 104 [Bz false false ks,Bp false false l] (bA (Dk ks l)):=by
 refine Sp (nt:=39) (res:=[.tmp 4]) func104 λSf=>?_
 have hlm:(l.map (AT false)).length=l.length:=AD _;refine KK ?_;refine B6 (λ(i:Nat) (last:Int)=>⟨[(0,Bz false false ks),(5,iA last),(8,Bp false false l),(9,iA (l.map (AT false)).length),(10,iA i)],Sf⟩) (λi last=>i<=l.length/\ -1<=last/\Dv ks last (l.drop i)=Dk ks l) (λi _=>l.length-i) 0 (-1) ⟨Ap _,by omega,rfl⟩ ?_;rintro i last ⟨hi,hla,he⟩;refine KK ?_;refine AB rfl (λhc=>?_) (λhc=>?_)
 ·have h:i<l.length:=by rw[As,hlm]at hc;omega
  obtain⟨⟨ck,cv⟩,hcc⟩:=nm (l[i]);have hat:(l.map (AT false))[i]?=some (AT false ⟨ck,cv⟩):=by rw[Am,Ag h,hcc];rfl
  refine KK ?_;refine Ai λX=>?_;refine KK ?_
  rcases Ac (decide (ck<=last))with g1|g1
  ·refine RU ?_;(repeat first|(refine Bu ?_;first|refine GW ?_|refine GV ?_)|refine RK ?_|refine RGo.nil (by kernel_rfl) ?_)
   refine BE rfl (by first|rfl|assumption) ?_;refine JA ?_;refine An ?_;rw[<-he,Jn h hcc (.inl (by simpa using g1))]
  ·obtain⟨n,rfl⟩:∃n:Nat,ck=n:=⟨ck.toNat,by rw[Aq]at g1;omega⟩
   rcases Ac (decide (((ks.map (A3 false)).length:Int)<=n))with g2|g2
   ·refine RU ?_;(repeat first|(refine Bu ?_;first|refine GW ?_|refine GV ?_)|refine RK ?_|refine RGo.nil (by kernel_rfl) ?_)
    refine BE rfl (by first|rfl|assumption) ?_;refine JA ?_;refine An ?_;rw[<-he,Jn h hcc (.inr (by rw[As,AD]at g2;exact g2))]
   ·have hkl:n<ks.length:=by rw[Aq,AD]at g2;omega
    obtain⟨k,hk⟩:=nm (ks[n]);have hka:ks[n]?=some k:=by rw[Ag hkl,hk]
    have hat2:(ks.map (A3 false))[n]?=some (A3 false k):=by rw[Am,hka];rfl
    have hst:=OY (last:=last) (k:=k) h hcc hka;dsimp only at hst;rw[Br (by rw[Aq]at g1;omega),Br (p:=(n:Int)<_) (by omega),Ey,Ey,he]at hst;have hh:=Sg k cv;obtain⟨b,hb⟩:=nm (Df k cv);rw[hb]at hst hh;cases b
    ·refine RU ?_;refine KR ?_;refine Je (h:=(hh ..)) (k:=?_);refine JE ?_;refine RGo.nil (by kernel_rfl) ?_
     refine BE rfl (by first|rfl|assumption) ?_;refine JA ?_;refine An ?_;rw[hst];rfl
    ·refine RU ?_;refine KR ?_;refine Je (h:=(hh ..)) (k:=?_);refine JE ?_;refine RGo.nil (by kernel_rfl) ?_
     refine Aa rfl (by first|rfl|assumption) ?_;refine KK ?_;refine BV (i+1) n ⟨h,by omega,hst.symm⟩
 ·have h:i=l.length:=by rw[Aq,hlm]at hc;omega
  subst h;refine JA ?_;refine An ?_;rw[<-he,C0];rfl
theorem Hm(w:Wd)(hg:w.gens.length<=1099511627776)(hi:w.items.length<=1099511627776)(hc:∀it∈w.items,it.comps.length<=1099511627776):PS prog 43 [wdA false w] (iA (ET w)):=by
 have hck:=LR w.kinds;obtain⟨ke,hke⟩:=nm (CL w.kinds);obtain⟨we,hwe⟩:=nm (ET w);rw[hwe];unfold ET at hwe;rw[hke]at hck hwe;obtain⟨ks,gens,items⟩:=w;dsimp only at hwe hg hi hc hck hke;refine Sp (nt:=94) (res:=[.tmp 2]) func43 λSf=>?_
 have hgm:(gens.map iA).length=gens.length:=AD _;have him:(items.map (Aj false)).length=items.length:=AD _;refine RG ?_;refine BX ?_;refine JC ?_;refine RG ?_;refine KO ?_;refine DQ (h:=(hck ..)) (k:=?_);refine JC ?_;refine KK ?_;refine AB rfl (λhd=>?_) (λhd=>?_)
 ·have hd:ke≠0:=by simpa using hd
  refine JA ?_;refine An ?_;rw[<-hwe,A1 hd]
 have hd:ke=0:=by simpa using hd
 rw[Ah (by simp[hd])]at hwe;rcases Ac (decide (256<((gens.map iA).length:Int)))with g1|g1
 ·refine KK ?_
  refine BE rfl (by first|rfl|assumption) ?_;refine JA ?_;refine An ?_;rw[<-hwe,A1 (.inl (by rw[As,hgm]at g1;omega))]
 rcases Ac (decide (((gens.map iA).length:Int)<(items.map (Aj false)).length))with g2|g2
 ·refine KK ?_
  refine BE rfl (by first|rfl|assumption) ?_;refine JA ?_;refine An ?_;rw[<-hwe,A1 (.inr (by rw[As,hgm,him]at g2;omega))]
 refine KK ?_;refine Aa rfl (by first|rfl|assumption) ?_;rw[Ah (by rw[Aq,hgm]at g1;rw[Aq,hgm,him]at g2;omega)]at hwe;refine KK ?_;refine DL (λi:Nat=>⟨[(1,.fp (wdA false ⟨ks,gens,items⟩).cells),(29,BU false gens),(30,iA (gens.map iA).length),(31,iA i)],Sf⟩) (λi=>i<=gens.length/\∀j (h:j<gens.length),j<i->0<=gens[j]/\gens[j]<=1073741824) (λi=>gens.length-i) 0 ⟨Ap _,λj h hj=>absurd hj (by omega)⟩ ?_;rintro i ⟨hil,hgo⟩;refine KK ?_;refine AB rfl (λhe=>?_) (λhe=>?_)
 ·have h:i<gens.length:=by rw[As,hgm]at he;omega
  obtain⟨x,hx⟩:=nm (gens[i]);have hat:(gens.map iA)[i]?=some (iA x):=by rw[Am,Ag h,hx];rfl
  have hbad:¬(0<=x/\x<=1073741824)->IN gens=false:=λhn=>by
   unfold IN;rw[List.all_eq_false];refine⟨x,hx▸BG h,?_⟩;simp only[AE,As];exact hn
  refine KK ?_;refine AB rfl (λhf=>?_) (λhf=>?_)
  ·have hf:¬(0<=x/\x<=1073741824):=by simp at hf;omega
   refine JA ?_;refine An ?_;rw[<-hwe,A1 (hbad hf)]
  ·have hf:0<=x/\x<=1073741824:=by simp at hf;omega
   refine KK ?_;refine DB (i+1) ⟨h,λj h1 h2=>?_⟩;by_cases e:j=i
   ·subst e;rw[hx];exact hf
   ·exact hgo j h1 (by omega)
 have hgok:IN gens=true:=by
  have h:i=gens.length:=by rw[Aq,hgm]at he;omega
  unfold IN;rw[Cl];intro x hx;obtain⟨j,hj,rfl⟩:=B4 hx;simp only[AE,As];exact hgo j hj (by omega)
 rw[Ah (by simp[hgok])]at hwe;refine KK ?_;refine B6 (λ(i:Nat) (last:Int)=>⟨[(1,.fp (wdA false ⟨ks,gens,items⟩).cells),(6,iA last),(43,FN false false items),(44,iA (items.map (Aj false)).length),(45,iA i)],Sf⟩) (λi last=>i<=items.length/\ -1<=last/\C7 ks gens last (items.drop i)=C7 ks gens (-1) items) (λi _=>items.length-i) 0 (-1) ⟨Ap _,by omega,rfl⟩ ?_;clear hil hgo he i;rintro i last ⟨hil,hla,he⟩;refine KK ?_;refine AB rfl (λhd'=>?_) (λhd'=>?_)
 ·have h:i<items.length:=by rw[As,him]at hd';omega
  obtain⟨⟨⟨en,eg⟩,cs⟩,hit⟩:=nm (items[i]);have hat:(items.map (Aj false))[i]?=some (Aj false ⟨⟨en,eg⟩,cs⟩):=by rw[Am,Ag h,hit];rfl
  have hcl:=hc _ (hit▸BG h);dsimp only at hcl;refine KK ?_;refine Ai λX=>?_;refine KK ?_
  rcases Ac (decide (en<=last))with q1|q1
  ·refine RU ?_;(repeat first|(refine Bu ?_;first|refine GW ?_|refine GV ?_)|refine RK ?_|refine RGo.nil (by kernel_rfl) ?_)
   refine BE rfl (by first|rfl|assumption) ?_;refine JA ?_;refine An ?_;rw[<-hwe,A1 (by rw[<-he,Ir h hit (.inl (by simpa using q1))])]
  obtain⟨n,rfl⟩:∃n:Nat,en=n:=⟨en.toNat,by rw[Aq]at q1;omega⟩;rcases Ac (decide (((gens.map iA).length:Int)<=n))with q2|q2
  ·refine RU ?_;(repeat first|(refine Bu ?_;first|refine GW ?_|refine GV ?_)|refine RK ?_|refine RGo.nil (by kernel_rfl) ?_)
   refine BE rfl (by first|rfl|assumption) ?_;refine JA ?_;refine An ?_;rw[<-hwe,A1 (by rw[<-he,Ir h hit (.inr (by rw[As,hgm]at q2;exact q2))])]
  have hkl:n<gens.length:=by rw[Aq,hgm]at q2;omega
  obtain⟨g,hg'⟩:=nm (gens[n]);have hga:gens[n]?=some g:=by rw[Ag hkl,hg']
  have hat2:(gens.map iA)[n]?=some (iA g):=by rw[Am,hga];rfl
  have hst:=NX (ks:=ks) (last:=last) (g:=g) h hit hga;dsimp only at hst;rw[Br (by rw[Aq]at q1;omega),Br (p:=(n:Int)<_) (by omega),Ey,Ey,he]at hst;rcases Ac (decide (eg≠g))with q3|q3
  ·refine RU ?_;(repeat first|(refine Bu ?_;first|refine GW ?_|refine GV ?_)|refine RK ?_|refine RGo.nil (by kernel_rfl) ?_)
   refine BE rfl (by first|rfl|assumption) ?_;refine JA ?_;refine An ?_;rw[<-hwe,A1 (by rw[hst,Bd (by simpa using q3)];rfl)]
  rcases Ac (decide (eg=1073741824))with q4|q4
  ·refine RU ?_;(repeat first|(refine Bu ?_;first|refine GW ?_|refine GV ?_)|refine RK ?_|refine RGo.nil (by kernel_rfl) ?_)
   refine BE rfl (by first|rfl|assumption) ?_;refine JA ?_;refine An ?_;rw[<-hwe,A1 (by rw[hst,q4];simp)]
  have hh:=UJ ks cs hcl;obtain⟨b,hb⟩:=nm (Dk ks cs);rw[Br (p:=eg=g) (by simpa using q3),q4,hb,Ey,ED,Ey]at hst;rw[hb]at hh;cases b
  ·refine RU ?_;refine KR ?_;refine Je (h:=(hh ..)) (k:=?_);refine JE ?_;refine RGo.nil (by kernel_rfl) ?_
   refine BE rfl (by first|rfl|assumption) ?_;refine JA ?_;refine An ?_;rw[<-hwe,A1 (by rw[hst];rfl)]
  ·refine RU ?_;refine KR ?_;refine Je (h:=(hh ..)) (k:=?_);refine JE ?_;refine RGo.nil (by kernel_rfl) ?_
   refine Aa rfl (by first|rfl|assumption) ?_;refine KK ?_;refine BV (i+1) n ⟨h,by omega,hst.symm⟩
 ·have h:i=items.length:=by rw[Aq,him]at hd';omega
  refine JA ?_;refine An ?_;rw[<-hwe,Ah (by rw[<-he,h,C0];simp[C7])]
def Fl(l:List Item)(n:Int):Bool:=l.any λit=>decide (it.ent.n=n)
def Mp(w:Wd):Option Nat:=(List.range w.gens.length).find? λn=>!Fl w.items n&&decide (w.gens.getD n 0<1073741824)
def B7(w:Wd):Nat×Bool:=match Mp w with
 |some n=>(n,true)
 |none=>(w.gens.length,decide ((w.gens.length:Int)<256))
def HD(l:List Item)(n:Nat):List Bool:=(List.range n).map λ(j:Nat)=>Fl l j
theorem SA(l:List Item)(n:Nat):(HD l n).length=n:=by simp[HD]
theorem QH{l:List Item}{n j:Nat}(h:j<n):((HD l n).map bA)[j]?=some (bA (Fl l j)):=by
 simp[HD,h]
theorem KW{l:List Item}(h:i<l.length)(n:Int):Fl (l.take (i+1)) n=(Fl (l.take i) n||decide (l[i].ent.n=n)):=by
 unfold Fl;rw[Bt h,List.any_append];simp
theorem R9{l:List Item}{i n j:Nat}(h:i<l.length)(e:l[i].ent.n=(j:Int)):((HD (l.take i) n).map bA).set j (bA true)=(HD (l.take (i+1)) n).map bA:=by
 rw[<-A8]
 congr 1
 apply CO (by simp[HD]);intro q h1 h2;rw[List.getElem_set];simp only[HD,Eb,List.getElem_range];rw[KW h,e];by_cases hq:j=q
 ·subst hq;simp
 ·rw[Ah hq,Bd (p:=(j:Int)=q) (by omega),Bool.or_false]
theorem MR{l:List Item}{i n:Nat}(h:i<l.length)(e:∀j<n,l[i].ent.n≠(j:Nat)):HD (l.take i) n=HD (l.take (i+1)) n:=by
 apply CO (by simp[HD]);intro q h1 h2;simp only[HD,Eb,List.getElem_range];rw[KW h,Bd (e q (by simpa[HD]using h1)),Bool.or_false]
theorem UK(w:Wd)(hg:w.gens.length<=1099511627776)(hi:w.items.length<=1099511627776):PS prog 45 [wdA false w] (.tup [iA (B7 w).1,bA (B7 w).2]):=by
 obtain⟨ks,gens,items⟩:=w;dsimp only at hg hi;have hgm:(gens.map iA).length=gens.length:=AD _;have him:(items.map (Aj false)).length=items.length:=AD _
 have hz0:List.replicate (gens.map iA).length (bA false)=(HD (items.take 0) gens.length).map bA:=by
  rw[hgm];apply CO (by simp[HD]);intro q h1 h2;simp[HD,Fl]
 have hfr:∀j,(∀q<j,(!Fl items (q:Nat)&&decide (gens.getD q 0<1073741824))=false)->j<gens.length->(!Fl items (j:Nat)&&decide (gens.getD j 0<1073741824))=true->B7 ⟨ks,gens,items⟩=(j,true):=by
  intro j h1 h2 h3
  have:Mp ⟨ks,gens,items⟩=some j:=by
   unfold Mp;rw[Gd];exact⟨h3,j,by simpa using h2,by simp,λq hq=>by have:=h1 q hq;simp only[List.getElem_range];rw[this];rfl⟩
  unfold B7;rw[this]
 have hfn:(∀q<gens.length,(!Fl items (q:Nat)&&decide (gens.getD q 0<1073741824))=false)->B7 ⟨ks,gens,items⟩=(gens.length,decide ((gens.length:Int)<256)):=by
  intro h1
  have:Mp ⟨ks,gens,items⟩=none:=by
   unfold Mp;rw[IZ];intro q hq;have:=h1 q (by simpa using hq);rw[this];simp
  unfold B7;rw[this]
 refine Sp (nt:=64) (res:=[.tmp 2,.tmp 3]) func45 λSf=>?_
 refine RG ?_;refine BX ?_;refine KO ?_;refine NL ?_
 (iterate 5 refine WK ?_);refine GY (bA false) λK=>?_;refine KK ?_
 rw[hz0];refine B6 (λ(i:Nat) (M:List AV)=>⟨[(1,.fp (wdA false ⟨ks,gens,items⟩).cells),(4,.sl K 0 (gens.map iA).length),(14,FN false false items),(15,iA (items.map (Aj false)).length),(16,iA i)],(K,.row 4 1 M)::Sf⟩) (λi M=>i<=items.length/\M=(HD (items.take i) gens.length).map bA) (λi _=>items.length-i) 0 _ ⟨Ap _,rfl⟩ ?_;rintro i M ⟨hil,hM⟩;have hMl:M.length=gens.length:=by rw[hM,AD,SA]
 refine KK ?_;refine AB rfl (λhc=>?_) (λhc=>?_)
 ·have h:i<items.length:=by rw[As,him]at hc;omega
  obtain⟨⟨⟨en,eg⟩,cs⟩,hit⟩:=nm (items[i]);have hat:(items.map (Aj false))[i]?=some (Aj false ⟨⟨en,eg⟩,cs⟩):=by rw[Am,Ag h,hit];rfl
  refine KK ?_;refine Ai λV=>?_;refine KK ?_
  rcases Ac (decide ((0:Int)<=en))with g1|g1
  ·obtain⟨n,rfl⟩:∃n:Nat,en=n:=⟨en.toNat,by rw[As]at g1;omega⟩
   rcases Ac (decide ((n:Int)<((gens.map iA).length:Nat)))with g2|g2
   ·have hng:n<gens.length:=by rw[As,hgm]at g2;omega
    have hMat:M[n]?=some (bA (Fl (items.take i) n)):=by rw[hM];exact QH hng
    have hlt:n<(gens.map iA).length:=by omega
    skip
    refine BE rfl (by first|rfl|assumption) ?_;refine KK ?_;refine BV (i+1) _ ⟨h,?_⟩;rw[hM];exact R9 h (by rw[hit])
   ·skip
    refine Aa rfl (by first|rfl|assumption) ?_;refine KK ?_;refine BV (i+1) M ⟨h,?_⟩;rw[hM,MR h λj hj=>by rw[hit];rw[Aq,hgm]at g2;show(n:Int)≠j;omega]
  ·skip
   refine Aa rfl (by show(decide ((0:Int)<=en)&&_)=false;rw[g1];rfl) ?_;refine KK ?_;refine BV (i+1) M ⟨h,?_⟩;rw[hM,MR h λj hj=>by rw[hit];rw[Aq]at g1;show en≠j;omega]
 ·have h:i=items.length:=by rw[Aq,him]at hc;omega
  rw[h,DJ]at hM;clear hz0 hc hil h;refine KK ?_;refine DL (λ(j:Nat)=>⟨[(1,.fp (wdA false ⟨ks,gens,items⟩).cells),(4,.sl K 0 (gens.map iA).length),(39,BU false gens),(40,iA (gens.map iA).length),(41,iA j)],(K,.row 4 1 M)::Sf⟩) (λj=>j<=gens.length/\∀q<j,(!Fl items (q:Nat)&&decide (gens.getD q 0<1073741824))=false) (λj=>gens.length-j) 0 ⟨Ap _,λq hq=>absurd hq (by omega)⟩ ?_;rintro j ⟨hj,hall⟩;refine KK ?_;refine AB rfl (λhc=>?_) (λhc=>?_)
  ·have h:j<gens.length:=by rw[As,hgm]at hc;omega
   have hjm:j<(gens.map iA).length:=by omega
   obtain⟨x,hx⟩:=nm (gens[j]);have hat:(gens.map iA)[j]?=some (iA x):=by rw[Am,Ag h,hx];rfl
   have hMat:M[j]?=some (bA (Fl items j)):=by rw[hM];exact QH h
   have hgd:gens.getD j 0=x:=by simp[D2,Ag h,hx]
   refine KK ?_;refine AB rfl (λhe=>?_) (λhe=>?_)
   ·rw[hfr j hall h (by rw[hgd];exact he)]
    refine JA ?_;exact⟨[iA j,bA true],[iA j,bA true],_,[],.cons (.tmp rfl) rfl (.cons (.tmp rfl) rfl .nil),.cons (.cell .same) (.cons (.cell .same) .nil),by exact Av,rfl,rfl⟩
   ·refine KK ?_
    refine DB (j+1) ⟨h,λq hq=>?_⟩;by_cases e:q=j
    ·subst e;rw[hgd];exact he
    ·exact hall q (by omega)
  ·have h:j=gens.length:=by rw[Aq,hgm]at hc;omega
   rw[h]at hall;rw[hfn hall,<-hgm];refine FL ?_;refine RU ?_;(iterate 9 refine RK ?_);refine RGo.nil (by kernel_rfl) ?_;refine RT ?_;exact⟨[iA (gens.map iA).length,bA (decide (((gens.map iA).length:Int)<256))],[iA (gens.map iA).length,bA (decide (((gens.map iA).length:Int)<256))],_,[],.cons (.tmp rfl) rfl (.cons (.tmp rfl) rfl .nil),.cons (.cell .same) (.cons (.cell .same) .nil),by exact Av,rfl,rfl⟩
theorem ME(l:List Item)(f:FuncId)(cap:List AV)(p:Item->Bool)(hs:DG cap=true)(hl:l.length<=4611686018427387904)(hf:∀x∈l,PS prog f ((Aj false) x::cap) (bA (p x))):PS prog 160 [.lst false 83 3 (l.map (Aj false)),.fn f cap] (iA (K4 l p)):=by
 refine Sp (nt:=19) (res:=[.tmp 4]) func160 λSf=>?_
 refine KK ?_;refine DL (λi:Nat=>⟨[(0,.lst false 83 3 (l.map (Aj false))),(1,.fn f cap),(7,iA (l.map (Aj false)).length),(8,iA i)],Sf⟩) (λi=>i<=l.length/\∀j (h:j<l.length),j<i->p l[j]=false) (λi=>l.length-i) 0 ⟨Ap _,λj h hj=>absurd hj (by omega)⟩ ?_;rintro i ⟨hi,he⟩;refine KK ?_;refine AB rfl (λhc=>?_) (λhc=>?_)
 ·have h:i<l.length:=by simpa using hc
  refine KK ?_;refine Qm (h:=(hf _ (BG h))) (k:=?_);refine KK ?_;refine AB rfl (λhd=>?_) (λhd=>?_)
  ·refine KK ?_
   refine RT ?_;refine An ?_;rw[Mm h hd λj hj=>he j (by omega) hj]
  ·refine KK ?_
   refine DB (i+1) ⟨h,λj h1 h2=>?_⟩;by_cases e:j=i
   ·subst e;exact hd
   ·exact he j h1 (by omega)
 ·have h:¬i<l.length:=by simpa using hc
  refine JA ?_;refine An ?_;rw[Mn λj hj=>he j hj (by omega)]
theorem Sr(x:Item)(e:Ent):PS prog 161 [Aj false x,.fp (CH e).cells] (bA (decide (x.ent=e))):=by
 have hE:=Ps x.ent.n x.ent.gen e.n e.gen;rw[show(decide (x.ent.n=e.n)&&decide (x.ent.gen=e.gen))=Jj x.ent e from rfl,MZ]at hE;refine Sp (nt:=8) (res:=[.tmp 3]) func161 λSf=>?_
 refine WK ?_;refine WK ?_;refine BX ?_;(iterate 7 refine WK ?_);refine AQ (W.eqP _ _ (by kernel_rfl) hE rfl rfl) rfl ?_;refine JA ?_;refine An ?_;rfl
def Dg(l:List Item)(e:Ent):Int:=K4 l λx=>decide (x.ent=e)
theorem Oj(w:Wd)(e:Ent)(hl:w.items.length<=4611686018427387904):PS prog 98 [wdA false w,CH e] (iA (Dg w.items e)):=by
 have h:=ME w.items 161 [.fp (CH e).cells] (λx=>decide (x.ent=e)) rfl hl (λx _=>Sr x e);refine Sp (nt:=9) (res:=[.tmp 4]) func98 λSf=>?_
 refine RG ?_;refine BX ?_;refine BX ?_;refine JC ?_;refine KK ?_;refine Bw (h:=(h ..)) (k:=?_);refine JA ?_;refine An ?_;rfl
theorem Va(c:Comp)(k:Int):PS prog 114 [AT false c,iA k] (iA (Dl c.kind k)):=by
 refine Sp (nt:=9) (res:=[.tmp 4]) func114 λSf=>?_
 refine WK ?_;refine WK ?_;refine BX ?_;refine KK ?_;refine Bw (h:=(Fs c.kind k)) (k:=?_);refine JA ?_;refine An ?_;rfl
theorem PV(l:List Comp)(t:AV)(f:FuncId)(cap:List AV)(g:Comp->Int)(t0:Int)(ht:t=iA t0)(hs:DG cap=true)(hl:l.length<=4611686018427387904)(hf:∀x∈l,PS prog f (AT false x::t::cap) (iA (g x))):
  Spec prog 113 [Bp false false l,t,.fn f cap] [] λr S'=>∃b,Found g l b/\r= .tup [iA b.1,bA b.2]/\S'=[]:=by
 subst ht;refine Sp (nt:=49) (res:=[.tmp 6,.tmp 7]) func113 λSf=>?_
 have hlm:(l.map (AT false)).length=l.length:=AD _;refine KK ?_;refine B6 (λ(i j:Nat)=>⟨[(0,Bp false false l),(1,iA t0),(2,.fn f cap),(8,iA (l.map (AT false)).length),(9,iA i),(10,iA j)],Sf⟩) (λi j=>i<=j/\j<=l.length/\(IA g l->Spl g l i j)) (λi j=>j-i) 0 (l.map (AT false)).length ⟨Ap _,by omega,λ_=>⟨λk x h=>absurd h (by omega),λk x h hx=>by have:=(AC.1 hx).1;omega⟩⟩ ?_;rintro i j ⟨hij,hjn,hmono⟩;refine KK ?_;refine AB rfl (λhc=>?_) (λhc=>?_)
 ·have h:i<j:=by rw[As]at hc;omega
  have hmid:((i:Int)+j).fdiv (2^1)=(((i+j)/2:Nat):Int):=by
   rw[E6 _ (by decide)];omega
  have hw1:IntKind.u64.wrap ((i:Int)+j)=i+j:=by rw[Lz];omega
  have hw2:IntKind.i64.wrap (((i:Int)+j).fdiv (2^1))=((i:Int)+j).fdiv (2^1):=by
   rw[Um,hmid];omega
  refine RG ?_;(iterate 3 refine WO ?_);refine AQ (W.conv .i64 .u64 (by kernel_rfl) (by kernel_rfl) rfl hw1) rfl ?_;refine AQ (W.shr 1 rfl rfl rfl (by decide)) rfl ?_;refine AQ (W.conv .u64 .i64 (by kernel_rfl) (by kernel_rfl) rfl hw2) rfl ?_;refine JC ?_;rw[hmid];obtain⟨m,hm⟩:=nm ((i+j)/2);rw[hm];have hml:m<l.length:=by omega
  obtain⟨y,hy⟩:=nm (l[m]);have hya:l[m]?=some y:=by rw[Ag hml,hy]
  have hat:(l.map (AT false))[m]?=some (AT false y):=by rw[Am,hya];rfl
  have hfy:=hf y (by rw[<-hy];exact BG hml);refine RG ?_;refine KO ?_;refine GF (h:=(hfy ..)) (k:=?_);refine JC ?_;refine AB rfl (λhe=>?_) (λhe=>?_)
  ·have he:g y<0:=by simpa using he
   refine KK ?_;refine BV (m+1) j ⟨by omega,hjn,λhM=>(hmono hM).lo hM hya he⟩
  ·have he:¬g y<0:=by simpa using he
   refine KK ?_;refine BV i m ⟨by omega,by omega,λhM=>(hmono hM).hi hM hya he⟩
 ·have h:i=j:=by rw[Aq]at hc;omega
  subst h;by_cases hin:i<l.length
  ·have hil:i<l.length:=by omega
   have g1:decide ((i:Int)<(l.map (AT false)).length)=true:=Br (by omega);obtain⟨y,hy⟩:=nm (l[i]);have hya:l[i]?=some y:=by rw[Ag hil,hy]
   have hat:(l.map (AT false))[i]?=some (AT false y):=by rw[Am,hya];rfl
   have hfy:=hf y (by rw[<-hy];exact BG hil);refine KK ?_;refine GF (h:=(hfy ..)) (k:=?_);refine JA ?_;exact⟨[iA i,bA (decide (g y=0))],[iA i,bA (decide (g y=0))],_,[],.cons (.tmp rfl) rfl (.cons (.tmp rfl) rfl .nil),.cons (.cell .same) (.cons (.cell .same) .nil),by exact Av,(i,decide (g y=0)),⟨by simp;omega,by simp[hya],hmono⟩,rfl,rfl⟩
  ·have g1:decide ((i:Int)<(l.map (AT false)).length)=false:=Bd (by omega)
   refine JA ?_;exact⟨[iA i,bA false],[iA i,bA false],_,[],.cons (.tmp rfl) rfl (.cons (.tmp rfl) rfl .nil),.cons (.cell .same) (.cons (.cell .same) .nil),by exact Av,(i,false),⟨by simp;omega,by simp[Bk (show l.length<=i by omega)],hmono⟩,rfl,rfl⟩
theorem U8(l:List Comp)(k:Int)(hl:l.length<=4611686018427387904):Spec prog 53 [Bp false false l,iA k] [] λr S'=>∃b,Found (λc:Comp=>Dl c.kind k) l b/\r= .tup [iA b.1,bA b.2]/\S'=[]:=by
 have h:=PV l (iA k) 114 [] (λc=>Dl c.kind k) k rfl rfl hl (λx _=>Va x k);refine Sp (nt:=11) (res:=[.tmp 4,.tmp 5]) func53 λSf=>?_
 refine R1 ?_;refine RG ?_;refine KO ?_;refine U1 (h:=h) λb hb=>?_
 refine KO ?_;refine FL ?_;refine RT ?_;exact⟨[iA b.1,bA b.2],[iA b.1,bA b.2],_,[],.cons (.tmp rfl) rfl (.cons (.tmp rfl) rfl .nil),.cons (.cell .same) (.cons (.cell .same) .nil),by exact Av,b,hb,rfl,rfl⟩
def FT(l:List Comp):Prop:=l.Pairwise λa b=>a.kind<b.kind
theorem H1{ks:List Kind}:∀{l:List Comp} {last:Int},Dv ks last l=true->FT l/\∀c∈l,last<c.kind/\c.kind<ks.length
 |[],_,_=>⟨.nil,λc hc=>by cases hc⟩
 |c::l,last,h=>by
  rw[Dv]at h;split at h
  ·simp only[AE,As]at h
   obtain⟨h1,h2⟩:=H1 h.2;refine⟨BD.2 ⟨λd hd=>(h2 d hd).1,h1⟩,λd hd=>?_⟩;rcases AW.1 hd with rfl|hd
   ·exact⟨h.1.1.1,h.1.1.2⟩
   ·exact⟨by have:=(h2 d hd).1;have:=h.1.1.1;omega,(h2 d hd).2⟩
  ·cases h
theorem GA{a b:Int}:Dl a b<0↔a<b:=by
 unfold Dl;split
 ·simp;assumption
 ·split<;>simp<;>omega
theorem cmpI_eq{a b:Int}:Dl a b=0↔a=b:=by
 unfold Dl;split
 ·simp;omega
 ·split<;>simp<;>omega
theorem Ke{l:List Comp}(h:FT l)(k:Int):IA (λc:Comp=>Dl c.kind k) l:=by
 intro a b x y hab hx hy hy0;rw[GA]at hy0⊢;by_cases e:a=b
 ·subst e;rw[hx]at hy;cases hy;exact hy0
 ·obtain⟨ha,rfl⟩:=AC.1 hx
  obtain⟨hb,rfl⟩:=AC.1 hy;have:=B3.1 h a b ha hb (by omega);omega
theorem Mq{l:List Comp}{k:Int}{b:Nat×Bool}(h:Found (λc:Comp=>Dl c.kind k) l b)(hb:b.2=true):∃c,l[b.1]?=some c/\c.kind=k:=by
 obtain⟨c,hc,h0⟩:=h.eq.1 hb;exact⟨c,hc,cmpI_eq.1 h0⟩
theorem Og{l:List Comp}{k:Int}{b:Nat×Bool}(h:Found (λc:Comp=>Dl c.kind k) l b)(hs:FT l)(hb:b.2=false):∀c∈l,c.kind≠k:=by
 intro c hc e;obtain⟨j,hj,rfl⟩:=B4 hc;obtain⟨h1,h2⟩:=h.mono (Ke hs k);have hne:¬∃x,l[b.1]?=some x/\Dl x.kind k=0:=λhx=>by rw[h.eq.2 hx]at hb;cases hb
 have hjb:b.1<=j:=by
  rcases Ga j b.1 with hlt|hge
  ·have:=h1 j _ hlt (Ag hj)
   rw[GA]at this;omega
  ·exact hge
 have hbl:b.1<l.length:=by omega
 have h3:=h2 b.1 _ (AP _) (Ag hbl);rw[GA]at h3;by_cases e2:j=b.1
 ·subst e2
  exact hne ⟨_,Ag hj,cmpI_eq.2 e⟩
 ·have:=B3.1 hs b.1 j hbl hj (by omega)
  omega
def DD(l:List Comp)(k:Int):Option Comp:=l.find? λc=>decide (c.kind=k)
theorem LO{l:List Comp}{k:Int}{c:Comp}(hs:FT l)(hc:c∈l)(hk:c.kind=k):DD l k=some c:=by
 induction l with
 |nil=>cases hc
 |cons a l ih=>
  obtain⟨h1,h2⟩:=BD.1 hs;unfold DD;rw[Lx];rcases AW.1 hc with rfl|hc
  ·simp[hk]
  ·have:¬a.kind=k:=by have:=h1 c hc;omega
   simp only[this,decide_false];exact ih h2 hc
theorem Hk{l:List Comp}{k:Int}(h:∀c∈l,c.kind≠k):DD l k=none:=by
 unfold DD;rw[IZ];intro c hc;simpa using h c hc
def Ob(w:Wd)(e:Ent)(k:Int):List Int×Int:=
 if ET w≠0 then([],ET w)else match w.items.find? (λit=>decide (it.ent=e))with
  |none=>([],4)
  |some it=>match DD it.comps k with
   |none=>([],4)
   |some c=>(c.vals,0)
theorem LD{l:List Item}{e:Ent}(h:Dg l e<0):l.find? (λit=>decide (it.ent=e))=none:=by
 unfold Dg K4 at h;split at h
 ·omega
 ·rename_i h2
  rw[EC]at h2;rw[IZ];intro x hx;rw[h2 x hx];simp
theorem Gk{l:List Item}{e:Ent}{n:Nat}(h:Dg l e=n):∃it,l[n]?=some it/\l.find? (λit=>decide (it.ent=e))=some it/\it.ent=e:=by
 unfold Dg K4 at h;split at h
 ·rename_i i h2
  have:i=n:=by omega
  subst this;obtain⟨hi,h3,h4⟩:=D7.1 h2;refine⟨l[i],Ag hi,?_,by simpa using h3⟩;rw[Gd];exact⟨h3,i,hi,rfl,λj hj=>by simpa using h4 j hj⟩
 ·omega
theorem Ky{ks:List Kind}{gens:List Int}:∀{l:List Item} {last:Int},C7 ks gens last l=true->∀it∈l,Dk ks it.comps=true
 |[],_,_,it,hit=>by cases hit
 |x::l,last,h,it,hit=>by
  rw[C7]at h;split at h
  ·simp only[AE]at h
   rcases AW.1 hit with rfl|hit
   ·exact h.1.2
   ·exact Ky h.2 it hit
  ·cases h
theorem Tl{w:Wd}(h:ET w=0):∀it∈w.items,Dk w.kinds it.comps=true:=by
 unfold ET at h;split at h
 ·exact absurd h ‹_›
 ·split at h
  ·cases h
  ·split at h
   ·cases h
   ·split at h
    ·cases h
    ·rename_i hi
     exact Ky (by simpa using hi)
theorem Tk{w:Wd}(h:ET w=0):∀it∈w.items,FT it.comps:=λit hit=>(H1 (Tl h it hit)).1
theorem VU(w:Wd)(e:Ent)(k:Int)(hw:WdL w):PS prog 35 [wdA false w,CH e,iA k] (.tup [BU true (Ob w e k).1,iA (Ob w e k).2]):=by
 have hck:=Hm w hw.gens hw.items.1 (λit hit=>(hw.items.2 it hit).1);have hfd:=Oj w e (by have:=hw.items.1;omega);obtain⟨r,hr⟩:=nm (Ob w e k);rw[hr];unfold Ob at hr;obtain⟨we,hwe⟩:=nm (ET w);rw[hwe]at hck hr;refine Sp (nt:=46) (res:=[.tmp 6,.tmp 7]) func35 λSf=>?_
 refine RG ?_;refine BX ?_;refine BX ?_;refine KO ?_;refine NL ?_;refine RG ?_;refine WO ?_;refine DQ (h:=(hck ..)) (k:=?_);refine JC ?_;refine KK ?_;refine AB rfl (λhd=>?_) (λhd=>?_)
 ·have hd:we≠0:=by simpa using hd
  rw[A1 hd]at hr;subst hr;refine JA ?_;exact⟨[.prim (.slice none 0 0),iA we],[BU true [],iA we],_,[],.cons (.tmp rfl) rfl (.cons (.tmp rfl) rfl .nil),.cons (.cell .nil) (.cons (.cell .same) .nil),by exact Av,rfl,rfl⟩
 have hd:we=0:=by simpa using hd
 rw[Ah (by simp[hd])]at hr;have hsort:=Tk (hwe.trans hd);refine RG ?_;refine KO ?_;refine Bw (h:=(hfd ..)) (k:=?_);refine JC ?_;refine KK ?_;refine AB rfl (λhg=>?_) (λhg=>?_)
 ·have hg:Dg w.items e<0:=by simpa using hg
  rw[LD hg]at hr;subst hr;refine JA ?_;exact⟨[.prim (.slice none 0 0),iA 4],[BU true [],iA 4],_,[],.cons (.tmp rfl) rfl (.cons (.tmp rfl) rfl .nil),.cons (.cell .nil) (.cons (.cell .same) .nil),by exact Av,rfl,rfl⟩
 obtain⟨n,hn⟩:∃n:Nat,Dg w.items e=n:=⟨(Dg w.items e).toNat,by(have:¬Dg w.items e<0:=by simpa using hg);(omega)⟩;rw[hn];obtain⟨⟨en,cs⟩,hit,hfi,hen⟩:=Gk hn;rw[hfi]at hr;dsimp only at hr;have hmem:=Bc hit;have hcl:=hw.items.2 _ hmem;have hsc:=hsort _ hmem;dsimp only at hcl hsc;have hat:(w.items.map (Aj false))[n]?=some (Aj false ⟨en,cs⟩):=by rw[Am,hit];rfl
 have hap:=U8 cs k (by have:=hcl.1;omega);refine JB ?_;refine KO ?_;refine U2 (h:=hap) λb hb=>?_
 obtain⟨bi,bb⟩:=b;cases bb
 ·have hno:=Og hb hsc rfl
  rw[Hk hno]at hr;subst hr;dsimp only;refine KO ?_;refine FL ?_;refine KK ?_;refine BE rfl rfl ?_;refine JA ?_;exact⟨[.prim (.slice none 0 0),iA 4],[BU true [],iA 4],_,[],.cons (.tmp rfl) rfl (.cons (.tmp rfl) rfl .nil),.cons (.cell .nil) (.cons (.cell .same) .nil),by exact Av,rfl,rfl⟩
 ·obtain⟨c,hc,hck'⟩:=Mq hb rfl
  dsimp only at hc;have hcm:=Bc hc;rw[LO hsc hcm hck']at hr;subst hr;obtain⟨ckd,cv⟩:=c;have hvl:=hcl.2 _ hcm;dsimp only at hvl;have hat2:(cs.map (AT false))[bi]?=some (AT false ⟨ckd,cv⟩):=by rw[Am,hc];rfl
  have hcn:=Fk cv (by omega);dsimp only;refine KO ?_;refine FL ?_;refine KK ?_;refine Aa rfl rfl ?_;refine KK ?_;refine Us (h:=hcn) λY=>?_;refine KK ?_
  refine RT ?_;exact⟨[.sl Y 0 (cv.map iA).length,iA 0],[BU true cv,iA 0],_,[],.cons (.tmp rfl) rfl (.cons (.tmp rfl) rfl .nil),.cons (.cell (.sl (p:=0) .here rfl)) (.cons (.cell .same) .nil),by exact Av,rfl,rfl⟩
def Mi(l:List Comp):List Comp:=l.mergeSort λa b=>decide (a.kind<=b.kind)
def FR(ks:List Kind):List Comp->List Comp->List Comp->List Comp×Int
 |_,out,[]=>(out,0)
 |pre,out,c::l=>
  if c.kind<0\/(ks.length:Int)<=c.kind then([],1)else if pre.any (λo=>decide (o.kind=c.kind))then([],5)else
  match ks[c.kind.toNat]? with
  |none=>([],1)
  |some k=>if(Ce k c.vals).2≠0 then([],(Ce k c.vals).2)else FR ks (pre++[c]) (out++[⟨c.kind,(Ce k c.vals).1⟩]) l
def J2(ks:List Kind)(l:List Comp):List Comp×Int:=
 if CL ks≠0 then([],CL ks)else if(FR ks [] [] l).2≠0 then([],(FR ks [] [] l).2)else(Mi (FR ks [] [] l).1,0)
theorem Oi{ks:List Kind}:∀{l pre out:List Comp},(FR ks pre out l).2=0->(∀a∈out,∃b∈pre,b.kind=a.kind)->out.Pairwise (λa b=>a.kind≠b.kind)->(∀a∈out,0<=a.kind/\a.kind<ks.length)->
  (FR ks pre out l).1.Pairwise (λa b=>a.kind≠b.kind)/\∀a∈(FR ks pre out l).1,0<=a.kind/\a.kind<ks.length
 |[],pre,out,h,h1,h2,h3=>⟨h2,h3⟩
 |c::l,pre,out,h,h1,h2,h3=>by
  rw[FR]at h⊢;split at h
  ·cases h
  ·rename_i g1
   rw[Ah g1];split at h
   ·cases h
   ·rename_i g2
    rw[Ah g2];split at h
    ·cases h
    ·rename_i k hk
     split at h
     ·rename_i g3;exact absurd h g3
     ·rename_i g3
      (try simp only[hk])
      rw[Ah g3];refine Oi h (λa ha=>?_) ?_ (λa ha=>?_)
      ·rcases AN.1 ha with ha|ha
       ·obtain⟨b,hb,e⟩:=h1 a ha
        exact⟨b,by simp[hb],e⟩
       ·rw[AS.1 ha]
        exact⟨c,by simp,rfl⟩
      ·rw[Dh]
       refine⟨h2,by simp,λa ha b hb e=>?_⟩;rw[AS.1 hb]at e;obtain⟨b2,hb2,e2⟩:=h1 a ha;exact g2 (G7.2 ⟨b2,hb2,by simpa using e2.trans e⟩)
      ·rcases AN.1 ha with ha|ha
       ·exact h3 a ha
       ·rw[AS.1 ha];exact⟨by dsimp only;omega,by dsimp only;omega⟩
theorem Ip(g:α->Int):∀(n:Nat) (l:List α),l.Pairwise (λa b=>g a≠g b)->(∀a∈l,0<=g a/\g a<n)->l.length<=n:=by
 intro n l h1 h2
 have h3:(l.map λa=>(g a).toNat).Nodup:=by
  rw[List.Nodup,Qf];refine h1.imp_of_mem λ{a b} ha hb e=>?_
  have:=h2 a ha;have:=h2 b hb;omega
 have h4:=Rm h3 (l₂:=List.range n) (λx hx=>by
  obtain⟨a,ha,rfl⟩:=BH.1 hx;have:=h2 a ha;exact Ck.2 (by omega))
 simpa using h4
theorem Kx(l:List Comp):(Mi l).Perm l:=List.mergeSort_perm _ _
theorem Pe{l u:List Comp}(hd:l.Pairwise (λa b=>a.kind≠b.kind))(hp:u.Perm l)(hs:u.Pairwise (λa b=>a.kind<=b.kind)):u=Mi l:=by
 refine Vl (le:=λa b=>a.kind<=b.kind) (λa b ha hb h1 h2=>?_) hs ?_ (hp.trans (Kx l).symm)
 ·have hb':b∈l:=(Kx l).mem_iff.1 hb
  have ha':a∈l:=hp.mem_iff.1 ha;obtain⟨i,hi,rfl⟩:=B4 ha';obtain⟨j,hj,rfl⟩:=B4 hb';have:=B3.1 hd;rcases Ex i j with x|x|x
  ·exact absurd (by omega) (this i j hi hj x)
  ·subst x;rfl
  ·exact absurd (by omega) (this j i hj hi x)
 ·have:=List.pairwise_mergeSort (le:=λa b:Comp=>decide (a.kind<=b.kind)) (λa b c h1 h2=>by simp at*;omega) (λa b=>by simp;omega) l
  exact this.imp λh=>by simpa using h
def DW(l:List Comp)(k:Int):Nat:=(l.takeWhile λc=>decide (c.kind<k)).length
def Ev:List Comp->Comp->List Comp
 |[],c=>[c]
 |x::l,c=>if x.kind<c.kind then x::Ev l c else if x.kind=c.kind then c::l else c::x::l
def EI(l:List Comp)(k:Int):List Comp:=l.filter λc=>!decide (c.kind=k)
def Hb(w:Wd)(i:Nat)(cs:List Comp):Wd:=⟨w.kinds,w.gens,match w.items[i]? with|some it=>w.items.set i ⟨it.ent,cs⟩|none=>w.items⟩
def HN(w:Wd)(e:Ent)(k:Int):Wd×Int:=
 if ET w≠0 then(⟨[],[],[]⟩,ET w)else if Dg w.items e<0 then(⟨[],[],[]⟩,4)else
 match w.items[(Dg w.items e).toNat]? with
 |some it=>if(DD it.comps k).isSome then(Hb w (Dg w.items e).toNat (EI it.comps k),0)else(⟨[],[],[]⟩,4)
 |none=>(⟨[],[],[]⟩,4)
def HJ(w:Wd)(e:Ent):Wd×Int:=
 if ET w≠0 then(⟨[],[],[]⟩,ET w)else if Dg w.items e<0 then(⟨[],[],[]⟩,4)else
 (⟨w.kinds,w.gens.set e.n.toNat (w.gens.getD e.n.toNat 0+1),w.items.eraseIdx (Dg w.items e).toNat⟩,0)
def Dy(gens:List Int)(n:Nat):List Int:=if n=gens.length then gens++[0]else gens
def GQ:List Item->Item->List Item
 |[],it=>[it]
 |x::l,it=>if x.ent.n<it.ent.n then x::GQ l it else it::x::l
def Ei(w:Wd)(l:List Comp):Wd×Ent×Int:=
 if ET w≠0 then(⟨[],[],[]⟩,⟨0,0⟩,ET w)else if(J2 w.kinds l).2≠0 then(⟨[],[],[]⟩,⟨0,0⟩,(J2 w.kinds l).2)else
 if(B7 w).2=false then(⟨[],[],[]⟩,⟨0,0⟩,6)else
 (⟨w.kinds,Dy w.gens (B7 w).1,GQ w.items ⟨⟨(B7 w).1,(Dy w.gens (B7 w).1).getD (B7 w).1 0⟩,(J2 w.kinds l).1⟩⟩,⟨(B7 w).1,(Dy w.gens (B7 w).1).getD (B7 w).1 0⟩,0)
theorem H2(i c:Nat)(l:List Int):(CI i c l).1.length=c:=by
 induction c generalizing i l with
 |zero=>rfl
 |succ c ih=>simp[CI,ih]
theorem KB(i c:Nat)(l:List Int):(CI i c l).1.map (·.name)=(List.range' i c).map Db:=by
 induction c generalizing i l with
 |zero=>rfl
 |succ c ih=>
  have:(DV i l).1.name=Db i:=by unfold DV;split<;>rfl
  simp[CI,ih,Rw,this]
theorem JQ(k c:Nat)(l:List Int):(Bm k c l).1.length=c:=by
 induction c generalizing k l with
 |zero=>rfl
 |succ c ih=>simp[Bm,ih]
theorem IP(k c:Nat)(l:List Int):(Bm k c l).1.map (·.name)=(List.range' k c).map El:=by
 induction c generalizing k l with
 |zero=>rfl
 |succ c ih=>simp[Bm,ih,Rw,ER]
theorem Ix(i:Nat):D8 (Db i)=true:=by
 unfold Db;split<;>decide
theorem OT(i:Nat):D8 (El i)=true:=by
 unfold El;split<;>decide
theorem Of(i:Nat)(l:List Int):BI (DV i l).1=0:=by
 have h1:=BY l (n:=9) (by omega);have h2:=BY (BW l 9) (n:=40) (by omega);unfold DV;split
 ·simp[BI,Ix]
 ·simp[BI,Ix]
  omega
theorem Iv(i c:Nat)(l:List Int):∀f∈(CI i c l).1,BI f=0:=by
 induction c generalizing i l with
 |zero=>intro f h;simp[CI]at h
 |succ c ih=>
  intro f h;simp only[CI,Cq]at h;rcases h with rfl|h
  ·exact Of i l
  ·exact ih _ _ f h
theorem LI:∀(fs pre:List Field),(∀f∈fs,BI f=0)->((pre++fs).map (·.name)).Nodup->CS pre fs=0:=by
 intro fs
 induction fs with
 |nil=>intro pre _ _;rfl
 |cons f fs ih=>
  intro pre h hn;have h1:=h f (by simp)
  have h2:pre.any (λo=>o.name==f.name)=false:=by
   rw[CR];intro o ho;simp only[VZ];intro e;rw[AJ,AL]at hn;exact hn.2.2 o.name (N2 ho) f.name (by simp) e
  simp only[CS,h1,h2];simp;exact ih _ (λx hx=>h x (by simp[hx])) (by simpa using hn)
theorem MA:∀(ks pre:List Kind),(∀k∈ks,CD k=0)->((pre++ks).map (·.name)).Nodup->Cu pre ks=0:=by
 intro fs
 induction fs with
 |nil=>intro pre _ _;rfl
 |cons f fs ih=>
  intro pre h hn;have h1:=h f (by simp)
  have h2:pre.any (λo=>o.name==f.name)=false:=by
   rw[CR];intro o ho;simp only[VZ];intro e;rw[AJ,AL]at hn;exact hn.2.2 o.name (N2 ho) f.name (by simp) e
  simp only[Cu,h1,h2];simp;exact ih _ (λx hx=>h x (by simp[hx])) (by simpa using hn)
theorem JV{c:Nat}(h:c<=3):((List.range' 0 c).map Db).Nodup:=by
 have:c=0\/c=1\/c=2\/c=3:=by omega
 rcases this with rfl|rfl|rfl|rfl<;>decide
theorem J7{c:Nat}(h:c<=4):((List.range' 0 c).map El).Nodup:=by
 have:c=0\/c=1\/c=2\/c=3\/c=4:=by omega
 rcases this with rfl|rfl|rfl|rfl|rfl<;>decide
theorem Pj(k:Nat)(l:List Int):CD (ER k l).1=0:=by
 have h1:=BY l (n:=3) (by omega);have h2:(1+Bn l 3).toNat<=3:=by omega
 have h3:=LI (CI 0 (1+Bn l 3).toNat (BW l 3)).1 [] (Iv _ _ _) (by
  rw[DX,KB];exact JV h2)
 have h4:=H2 0 (1+Bn l 3).toNat (BW l 3);unfold CD ER;simp only[OT,h3,h4,GK];rw[Ah (by omega)]
theorem KA(i c:Nat)(l:List Int):∀f∈(Bm i c l).1,CD f=0:=by
 induction c generalizing i l with
 |zero=>intro f h;simp[Bm]at h
 |succ c ih=>
  intro f h;simp only[Bm,Cq]at h;rcases h with rfl|h
  ·exact Pj i l
  ·exact ih _ _ f h
theorem Nb(l:List Int):1<=(BN l).1.length/\(BN l).1.length<=4:=by
 have h:=BY l (n:=4) (by omega);unfold BN;rw[JQ];omega
theorem K8(l:List Int):((BN l).1.map (·.name)).Nodup:=by
 have h:=BY l (n:=4) (by omega);unfold BN;rw[IP];exact J7 (by omega)
theorem Jo(l:List Int):∀k∈(BN l).1,CD k=0:=KA _ _ _
theorem K9(l:List Int):CL (BN l).1=0:=by
 unfold CL;have:=Nb l;rw[Ah (by omega)];exact MA _ [] (Jo l) (K8 l)
theorem OK{f:Field}(h:BI f=0)(v:Int):f.low<=Cs f v/\Cs f v<=E1 f:=by
 have:=Mo h;unfold Cs;rw[A1 h];omega
theorem QO{f:Field}(h:BI f=0){v:Int}(h1:f.low<=v)(h2:v<=E1 f):Cs f v=v:=by
 unfold Cs;rw[A1 h];omega
theorem Q7{f:Field}(h:BI f=0)(v:Int):Cs f (Cs f v)=Cs f v:=QO h (OK h v).1 (OK h v).2
theorem Q8{fs:List Field}(h:∀f∈fs,BI f=0)(vals:List Int):List.zipWith Cs fs (List.zipWith Cs fs vals)=List.zipWith Cs fs vals:=by
 induction fs generalizing vals with
 |nil=>rfl
 |cons f fs ih=>
  cases vals with
  |nil=>rfl
  |cons v vals=>simp[Q7 (h f (by simp)),ih (λx hx=>h x (by simp[hx]))]
theorem LC{k:Kind}(h:CD k=0)(hl:vals.length=k.fields.length):Ce k vals=(List.zipWith Cs k.fields vals,0):=by
 unfold Ce;rw[Ah (by simp[h]),Ah (by simp[hl])]
theorem LA(k:Nat)(l:List Int):(∀f∈(ER k l).1.fields,BI f=0)/\(ER k l).1.fields.length<=3:=by
 have h1:=BY l (n:=3) (by omega);refine⟨Iv _ _ _,?_⟩;show(CI _ _ _).1.length<=3
 rw[H2];omega
theorem Hz(i c:Nat)(l:List Int):∀k∈(Bm i c l).1,(∀f∈k.fields,BI f=0)/\k.fields.length<=3:=by
 induction c generalizing i l with
 |zero=>intro f h;simp[Bm]at h
 |succ c ih=>
  intro f h;simp only[Bm,Cq]at h;rcases h with rfl|h
  ·exact LA i l
  ·exact ih _ _ f h
theorem J9(l:List Int):∀k∈(BN l).1,(∀f∈k.fields,BI f=0)/\k.fields.length<=3:=Hz _ _ _
def vAt(fs:List Field)(l:List Int):Nat->List Int×List Int
 |0=>([],l)
 |i+1=>match fs[i]? with
  |some f=>((vAt fs l i).1++[f.low+Bn (vAt fs l i).2 (2^f.bits.toNat)],BW (vAt fs l i).2 (2^f.bits.toNat))
  |none=>vAt fs l i
def cAt(ks:List Kind)(l:List Int):Nat->List Comp×List Int
 |0=>([],l)
 |i+1=>match ks[i]? with
  |some k=>if Bn (cAt ks l i).2 3=2 then((cAt ks l i).1,BW (cAt ks l i).2 3)
   else((cAt ks l i).1++[⟨i,(vAt k.fields (BW (cAt ks l i).2 3) k.fields.length).1⟩],(vAt k.fields (BW (cAt ks l i).2 3) k.fields.length).2)
  |none=>cAt ks l i
def Em(ks:List Kind)(l:List Int):List Comp×List Int:=cAt ks l ks.length
def wAt(ks:List Kind)(l:List Int):Nat->List Int×List Item×List Int
 |0=>([],[],l)
 |i+1=>
  if Bn (BW (wAt ks l i).2.2 3) 4=3\/(wAt ks l i).2.1.length=8 then((wAt ks l i).1++[Bn (wAt ks l i).2.2 3],(wAt ks l i).2.1,BW (BW (wAt ks l i).2.2 3) 4)
  else((wAt ks l i).1++[Bn (wAt ks l i).2.2 3],(wAt ks l i).2.1++[⟨⟨i,Bn (wAt ks l i).2.2 3⟩,(Em ks (BW (BW (wAt ks l i).2.2 3) 4)).1⟩],(Em ks (BW (BW (wAt ks l i).2.2 3) 4)).2)
def Fo(l:List Int):Wd:=
 ⟨(BN l).1,(wAt (BN l).1 (BW (BN l).2 12) (Bn (BN l).2 12).toNat).1,(wAt (BN l).1 (BW (BN l).2 12) (Bn (BN l).2 12).toNat).2.1⟩
def Fc(f:Field):Prop:=0<=f.bits/\f.bits<=32/\ -2147483648<=f.low/\f.low<=2147483648
def Qg(ks:List Kind):Prop:=ks.length<=1099511627776/\∀k∈ks,k.fields.length<=1099511627776/\∀f∈k.fields,Fc f
theorem Tp(fs:List Field)(l:List Int)(i:Nat):(vAt fs l i).1.length<=i:=by
 induction i with
 |zero=>simp[vAt]
 |succ i ih=>rw[vAt];split<;>(try simp only[Ax,CG])<;>omega
theorem UW(ks:List Kind)(l:List Int)(i:Nat):(cAt ks l i).1.length<=i:=by
 induction i with
 |zero=>simp[cAt]
 |succ i ih=>rw[cAt];split<;>(try split)<;>(try simp only[Ax,CG])<;>omega
theorem N6{fs:List Field}(h:i<fs.length):vAt fs l (i+1)=((vAt fs l i).1++[fs[i].low+Bn (vAt fs l i).2 (2^fs[i].bits.toNat)],BW (vAt fs l i).2 (2^fs[i].bits.toNat)):=by
 rw[vAt,Ag h]
theorem Nj{ks:List Kind}(h:i<ks.length)(h2:Bn (cAt ks l i).2 3=2):cAt ks l (i+1)=((cAt ks l i).1,BW (cAt ks l i).2 3):=by
 rw[cAt,Ag h];simp only;rw[A1 h2]
theorem Ni{ks:List Kind}(h:i<ks.length)(h2:Bn (cAt ks l i).2 3≠2):cAt ks l (i+1)=((cAt ks l i).1++[⟨i,(vAt ks[i].fields (BW (cAt ks l i).2 3) ks[i].fields.length).1⟩],(vAt ks[i].fields (BW (cAt ks l i).2 3) ks[i].fields.length).2):=by
 rw[cAt,Ag h];simp only;rw[Ah h2]
theorem Mb{b:Nat}(h:b<=32):(1:Int)<=2^b/\(2:Int)^b<=4294967296:=by
 have h1:(2:Nat)^b<=2^32:=WS (by decide) h;have h2:0<(2:Nat)^b:=Nat.pow_pos (by decide);have h3:((2:Int)^b)=(((2:Nat)^b:Nat):Int):=by simp
 rw[h3];have:(2:Nat)^32=4294967296:=by decide
 omega
theorem Sz(G:Nat)(ks:List Kind)(l:List Int)(hk:Qg ks):PO prog 34 [Bz false false ks,.ptr G 0 0] G (D9 l) (Bp true false (Em ks l).1) (D9 (Em ks l).2):=by
 refine Sp (nt:=50) (res:=[.tmp 4]) func34 λSf=>?_
 obtain⟨hk0,hk1⟩:=hk;refine R1 ?_;refine R1 ?_;refine R1 ?_;refine FL ?_;refine AWP.adopt (d:=5) 42 2 rfl λK=>?_
 refine Qk (λ(i K:Nat) (M:List AV) (n:Nat) (q:List Int)=>⟨[(1,.ptr G 0 0),(5,.sl K 0 n),(11,Bz false false ks),(12,iA (ks.map (A3 false)).length),(13,iA i)],(K,.row 42 2 M)::(G,D9 q)::Sf⟩) (λi _ M n q=>i<=ks.length/\M=(cAt ks l i).1.map (AT false)/\n=M.length/\q=(cAt ks l i).2) (λi _ _ _ _=>ks.length-i) 0 K [] 0 l ⟨Ap _,rfl,rfl,rfl⟩ ?_;rintro i K M n q ⟨hi,hM,hn,hq⟩;refine KK ?_;refine AB rfl (λhc=>?_) (λhc=>?_)
 ·have h:i<ks.length:=by simpa using hc
  obtain⟨hf0,hf1⟩:=hk1 _ (BG h);have h3:=BY q (n:=3) (by decide);have hn1:n+1<=1099511627776:=by have:=UW ks l i;rw[hn,hM,AD];omega
  refine KK ?_;refine Ai λX=>?_;refine KK ?_;refine GE (h:=(FY G _ _ (by decide))) (k:=?_);refine KK ?_
  refine AB rfl (λhe=>?_) (λhe=>?_)
  ·have he:Bn q 3=2:=by simpa using he
   refine KK ?_;refine Ku (i+1) K M n _ ⟨h,?_,hn,?_⟩
   ·rw[Nj h (hq▸he),hM]
   ·rw[Nj h (hq▸he),hq]
  ·have he:Bn q 3≠2:=by simpa using he
   refine RG ?_;refine KO ?_;refine Ai λY=>?_;refine JC ?_
   refine C1 (Y:=Y) 3 1 .here (λF=>.cons (.agg (.s (.cons (.base .nil) .nil))) .nil) λF=>?_
   refine KK ?_;obtain⟨fs,hfs⟩:=nm (ks[i].fields);obtain⟨q1,hq1⟩:=nm (BW q 3);rw[hq1,hfs];have hck:cAt ks l (i+1)=((cAt ks l i).1++[⟨i,(vAt fs q1 fs.length).1⟩],(vAt fs q1 fs.length).2):=by rw[Ni h (hq▸he),<-hq,hq1,hfs]
   rw[hfs]at hf0 hf1;refine Qk (λ(j F:Nat) (L:List AV) (m:Nat) (r:List Int)=>⟨[(1,.ptr G 0 0),(5,.sl K 0 n),(6,iA i),(8,.ptr Y 0 0),(11,Bz false false ks),(12,iA (ks.map (A3 false)).length),(13,iA i),(24,FB false fs),(25,iA (fs.map fieldA).length),(26,iA j)],(F,.row 3 1 L)::(Y,.row 42 2 [.agg [iA i,.sl F 0 m]])::(K,.row 42 2 M)::(G,D9 r)::Sf⟩) (λj _ L m r=>j<=fs.length/\L=(vAt fs q1 j).1.map iA/\m=L.length/\r=(vAt fs q1 j).2) (λj _ _ _ _=>fs.length-j) 0 F [] 0 q1 ⟨Ap _,rfl,rfl,rfl⟩ ?_;rintro j F L m r ⟨hj,hL,hm,hr⟩;refine KK ?_;refine AB rfl (λhd=>?_) (λhd=>?_)
   ·have hj':j<fs.length:=by simpa using hd
    obtain⟨hb0,hb1,hl0,hl1⟩:=hf1 _ (BG hj');obtain⟨b,hb⟩:∃b:Nat,fs[j].bits=b:=⟨fs[j].bits.toNat,by omega⟩;have hp:=Mb (b:=b) (by omega);have hw:IntKind.i64.wrap (1*2^b)=2^b:=by rw[Int.one_mul];exact E9 (by omega) (by omega)
    have hv:=BY r (n:=IntKind.i64.wrap (1*2^b)) (by omega);have hm1:m+1<=1099511627776:=by have:=Tp fs q1 j;rw[hm,hL,AD];omega
    refine KK ?_;refine Ai λZ=>?_;refine KK ?_
    refine A9 λX7=>?_
    refine RU ?_;(iterate 7 refine RK ?_);refine RGo.p (W.shl rfl rfl hb (by show b<=64;omega)) rfl ?_;refine No (h:=(FY G _ _ (by rw[hw];omega))) (k:=?_);refine RGo.p (W.add rfl rfl (by omega)) rfl ?_;(iterate 4 refine RK ?_);refine RGo.nil (by kernel_rfl) ?_;refine KK ?_;have hva:vAt fs q1 (j+1)=((vAt fs q1 j).1++[fs[j].low+Bn r (IntKind.i64.wrap (1*2^b))],BW r (IntKind.i64.wrap (1*2^b))):=by rw[N6 hj',<-hr,hw,hb];rfl
    refine Ku (j+1) X7 _ _ _ ⟨hj',?_,?_,?_⟩
    ·rw[hva,hL,AJ];rfl
    ·rw[Ax,hm]
    ·rw[hva]
   ·have hj':j=fs.length:=by rw[Aq,AD]at hd;omega
    subst hj';refine FL ?_;refine Ht (X:=F) (Y:=Y) .here (.next .here) rfl (.cons (.agg (.s (.cons (.base (.sl (by omega))) .nil))) .nil) ?_
    have hF:AV.frzs ((L.drop 0).take m)=(vAt fs q1 fs.length).1.map iA:=by
     rw[Dq,Al (by omega),hL];exact Frzs.h
    rw[hF]
    (iterate 3 refine WK ?_);refine D5 (AT false ⟨i,(vAt fs q1 fs.length).1⟩) ?_;refine WK ?_;refine Ay λY=>?_;refine KK ?_
    refine Ku (i+1) Y _ _ _ ⟨h,?_,?_,?_⟩
    ·rw[hck,hM,AJ];rfl
    ·rw[Ax,hn]
    ·rw[hck,hr]
 ·have h:i=ks.length:=by rw[Aq,AD]at hc;omega
  subst h;refine JA ?_;subst hM hq;exact⟨[.sl K 0 n],[.lst true 42 2 ((cAt ks l ks.length).1.map (AT false))],_,[(G,D9 (cAt ks l ks.length).2)],.cons (.tmp rfl) rfl .nil,.cons (.cell (.sl (p:=0) .here hn)) .nil,by exact Av,rfl,rfl⟩
theorem KV(ks:List Kind)(l:List Int)(i:Nat):(wAt ks l i).1.length=i:=by
 induction i with
 |zero=>rfl
 |succ i ih=>rw[wAt];split<;>simp[ih]
theorem N5(ks:List Kind)(l:List Int)(i:Nat):(wAt ks l i).2.1.length<=i:=by
 induction i with
 |zero=>simp[wAt]
 |succ i ih=>rw[wAt];split<;>(try simp only[Ax,CG])<;>omega
def wdO(w:Wd):AV:=.agg [Bz false false w.kinds,BU true w.gens,FN true false w.items]
instance {w:Wd}:Frz (wdO w) (wdA false w):=⟨by unfold wdO wdA;exact Frz.h⟩
theorem Nc(i:Nat)(l:List Int):Fc (DV i l).1:=by
 have h9:=BY l (n:=9) (by decide);have h40:=BY (BW l 9) (n:=40) (by decide);unfold DV;split<;>refine⟨?_,?_,?_,?_⟩<;>simp<;>omega
theorem UQ(i:Nat)(l:List Int):∀f∈(fAt i l).1,Fc f:=by
 induction i with
 |zero=>intro f hf;cases hf
 |succ i ih=>
  intro f hf;rcases AN.1 hf with hf|hf
  ·exact ih f hf
  ·rw[AS.1 hf];exact Nc _ _
theorem Oe(k:Nat)(l:List Int):(ER k l).1.fields.length<=3/\∀f∈(ER k l).1.fields,Fc f:=by
 have h:=BY l (n:=3) (by decide);show(CI 0 (1+Bn l 3).toNat (BW l 3)).1.length<=3/\∀f∈(CI 0 (1+Bn l 3).toNat (BW l 3)).1,Fc f
 rw[Iw];exact⟨by rw[UR];omega,UQ _ _⟩
theorem QS(i:Nat)(l:List Int):∀k∈(kAt i l).1,k.fields.length<=3/\∀f∈k.fields,Fc f:=by
 induction i with
 |zero=>intro f hf;cases hf
 |succ i ih=>
  intro f hf;rcases AN.1 hf with hf|hf
  ·exact ih f hf
  ·rw[AS.1 hf];exact Oe _ _
theorem Iu(l:List Int):(BN l).1.length=(1+Bn l 4).toNat:=by rw[F7,QT]
theorem It(l:List Int):Qg (BN l).1:=by
 have h:=BY l (n:=4) (by decide);refine⟨by rw[Iu];omega,?_⟩;rw[F7];intro k hk;have:=QS _ _ k hk;exact⟨by omega,this.2⟩
theorem R0(l:List Int):PS prog 6 [BU false l] (wdO (Fo l)):=by
 refine Sp (nt:=52) (res:=[.cell 2 26]) func6 λSf=>?_
 have hko:=It l;obtain⟨ks,hks⟩:=nm ((BN l).1);obtain⟨l1,hl1⟩:=nm ((BN l).2);have h12:=BY l1 (n:=12) (by decide);obtain⟨c,hc⟩:∃c:Nat,Bn l1 12=c:=⟨(Bn l1 12).toNat,by omega⟩;obtain⟨l2,hl2⟩:=nm (BW l1 12);have hg:Fo l=⟨ks,(wAt ks l2 c).1,(wAt ks l2 c).2.1⟩:=by unfold Fo;rw[hks,hl1,hl2,hc];rfl
 have hkp:=λG=>SX G l
 rw[hks,hl1]at hkp;rw[hks]at hko;rw[hg];clear hg hks hl1;refine RG ?_;refine WO ?_;refine Ai λR=>?_;refine NL ?_
 refine RG ?_;refine KO ?_;refine Ai λG=>?_;refine JC ?_
 refine RG ?_;refine WO ?_;refine Uy (h:=(hkp G)) (k:=?_);refine KO ?_;refine Ai λV=>?_;refine JC ?_
 refine RG ?_;refine WO ?_;refine GE (h:=(FY G _ _ (by decide))) (k:=?_);refine JC ?_;rw[hl2,hc];refine C1 (Y:=V) 83 3 (by exact AY) (λF=>.cons (.agg (.s (.s (.cons (.base .nil) .nil)))) .nil) λB=>?_
 refine C1 (Y:=V) 3 1 (by exact AY) (λF=>.cons (.agg (.s (.cons (.base .nil) .r))) .nil) λA=>?_
 refine FL ?_;refine Uo (λ(i A B:Nat) (L M:List AV) (n:Nat) (q:List Int)=>⟨[(2,.ptr R 0 0),(3,.ptr G 0 0),(4,.ptr V 0 0),(13,iA c),(14,iA i)],(A,.row 3 1 L)::(B,.row 83 3 M)::(V,.row 26 3 [.agg [Bz false false ks,.sl A 0 i,.sl B 0 n]])::(G,D9 q)::(R,.row 26 3 [.agg [.prim (.slice none 0 0),.prim (.slice none 0 0),.prim (.slice none 0 0)]])::Sf⟩) (λi _ _ L M n q=>i<=c/\L=(wAt ks l2 i).1.map iA/\M=(wAt ks l2 i).2.1.map (Aj false)/\n=M.length/\q=(wAt ks l2 i).2.2) (λi _ _ _ _ _ _=>c-i) 0 A B [] [] 0 l2 ⟨Ap _,rfl,rfl,rfl,rfl⟩ ?_;rintro i A B L M n q ⟨hi,hL,hM,hn,hq⟩;have hA:=KV ks l2 i;have hB:=N5 ks l2 i;refine KK ?_;refine AB rfl (λhd=>?_) (λhd=>?_)
 ·have h:i<c:=by rw[As]at hd;omega
  have h3:=BY q (n:=3) (by decide);have h4:=BY (BW q 3) (n:=4) (by decide);refine R1 ?_;refine A9 λX7=>?_
  refine RU ?_;refine KR ?_;refine No (h:=(FY G _ _ (by decide))) (k:=?_);(iterate 4 refine RK ?_);refine RGo.nil (by kernel_rfl) ?_;refine KK ?_;refine GE (h:=(FY G _ _ (by decide))) (k:=?_);refine KK ?_;have hLl:L.length=i:=by rw[hL,AD,hA]
  obtain⟨IT,hIT⟩:=nm ((wAt ks l2 i).2.1);rw[hIT]at hM hB;have hnl:n=IT.length:=by rw[hn,hM,AD]
  have hat:(L++[.prim (.int .i64 (Bn q 3))])[i]?=some (.prim (.int .i64 (Bn q 3))):=by rw[<-hLl];simp
  refine AB rfl (λhe=>?_) (λhe=>?_)
  ·have he:Bn (BW q 3) 4=3\/n=8:=by rw[CQ,As,As]at he;omega
   have hw:wAt ks l2 (i+1)=((wAt ks l2 i).1++[Bn q 3],IT,BW (BW q 3) 4):=by rw[wAt,<-hq,hIT,<-hnl,A1 he]
   refine KK ?_;refine OO (i+1) X7 B _ M n _ ⟨h,?_,?_,hn,?_⟩
   ·rw[hw,hL,AJ];rfl
   ·rw[hw,hM]
   ·rw[hw]
  ·have he:¬(Bn (BW q 3) 4=3\/n=8):=by rw[FD,Aq,Aq]at he;omega
   have hw:wAt ks l2 (i+1)=((wAt ks l2 i).1++[Bn q 3],IT++[⟨⟨i,Bn q 3⟩,(Em ks (BW (BW q 3) 4)).1⟩],(Em ks (BW (BW q 3) 4)).2):=by rw[wAt,<-hq,hIT,<-hnl,Ah he]
   have hin:i<i+[AV.prim (.int .i64 (Bn q 3))].length:=Nat.lt_succ_self i;refine A9 λX8=>?_
   refine RU ?_;refine KR ?_;refine No (h:=(Sz G ks _ hko)) (k:=?_);refine RK ?_;refine Gs (Aj false ⟨⟨i,Bn q 3⟩,(Em ks (BW (BW q 3) 4)).1⟩) ?_;(iterate 3 refine RK ?_);refine RGo.nil (by kernel_rfl) ?_;refine KK ?_;refine OO (i+1) X7 X8 _ _ _ _ ⟨h,?_,?_,?_,?_⟩
   ·rw[hw,hL,AJ];rfl
   ·rw[hw,hM,AJ];rfl
   ·rw[Ax,hn]
   ·rw[hw]
 ·have h:i=c:=by rw[Aq]at hd;omega
  subst h;refine JA ?_;subst hL hM;have hA:i=((wAt ks l2 i).1.map iA).length:=by rw[AD,hA]
  exact⟨[.agg [Bz false false ks,.sl A 0 i,.sl B 0 n]],[wdO ⟨ks,(wAt ks l2 i).1,(wAt ks l2 i).2.1⟩],_,[],.cons (.cell (p:=4) rfl (by exact AY) TAg.h TSize.h rfl rfl) rfl .nil,.cons (.agg (.s (.cons (.sl (p:=0) .here hA) (.cons (.sl (p:=0) .here hn) .nil)))) .nil,by exact Av,rfl,rfl⟩
theorem Qb{ks:List Kind}{c:Comp}(h:c∈(cAt ks l i).1):∃(j:Nat) (hj:j<ks.length) (q:List Int),j<i/\c=⟨j,(vAt ks[j].fields q ks[j].fields.length).1⟩:=by
 induction i with
 |zero=>cases h
 |succ i ih=>
  by_cases hi:i<ks.length
  ·by_cases h2:Bn (cAt ks l i).2 3=2
   ·rw[Nj hi h2]at h
    obtain⟨j,hj,q,h3,h4⟩:=ih h;exact⟨j,hj,q,by omega,h4⟩
   ·rw[Ni hi h2]at h
    rcases AN.1 h with h|h
    ·obtain⟨j,hj,q,h3,h4⟩:=ih h
     exact⟨j,hj,q,by omega,h4⟩
    ·rw[AS.1 h]
     exact⟨i,hi,_,by omega,rfl⟩
  ·rw[cAt,Bk (by omega)]at h
   obtain⟨j,hj,q,h3,h4⟩:=ih h;exact⟨j,hj,q,by omega,h4⟩
theorem QF{ks:List Kind}{it:Item}(h:it∈(wAt ks l i).2.1):∃(j:Nat) (q:List Int),j<i/\(wAt ks l i).1[j]?=some it.ent.gen/\it.ent.n=j/\it.comps=(Em ks q).1:=by
 induction i with
 |zero=>cases h
 |succ i ih=>
  have hl:=KV ks l i
  have hup:∀(x:Int) (g:Int) (j:Nat),(wAt ks l i).1[j]?=some g->((wAt ks l i).1++[x])[j]?=some g:=λx g j hg=>by
   rw[B5 (AC.1 hg).1,hg]
  rw[wAt]at h⊢;split
  ·rename_i hs
   rw[A1 hs]at h;obtain⟨j,q,h1,h2,h3,h4⟩:=ih h;exact⟨j,q,by omega,hup _ _ _ h2,h3,h4⟩
  ·rename_i hs
   rw[Ah hs]at h;rcases AN.1 h with h|h
   ·obtain⟨j,q,h1,h2,h3,h4⟩:=ih h
    exact⟨j,q,by omega,hup _ _ _ h2,h3,h4⟩
   ·rw[AS.1 h]
    exact⟨i,_,by omega,by rw[BK (by omega),hl];simp,rfl,rfl⟩
theorem K7(l:List Int):(BN l).1.length<=4/\∀k∈(BN l).1,k.fields.length<=3:=by
 have h:=BY l (n:=4) (by decide);refine⟨by rw[Iu];omega,?_⟩;rw[F7];intro k hk;exact(QS _ _ k hk).1
end Go.Proofs.YtmkahplhnbbgmaaGreat
