/-
  Part 4 of the texts under the law TopPackedWorld: the layer of abstract values, walks and plain laws. Conditions: those that each theorem names.
-/
import Derived.WalkKit
import Derived.Lib.Hide
import Derived.Deep.OwnRows
import Derived.Deep.Draws
import Derived.Test.YtaodhkbppgenbaaChecked
import Derived.ProofKit
import Derived.OpenShut
import Derived.ShutString
import Derived.ChangeOld
import Derived.Below
import Derived.SizedLaws
import Derived.Deep.Slices
import Derived.Deep.Fields
import Derived.ChangeSame
import Derived.Test.YtaodhkbppgenbaaProg
import Derived.Test.YtaodhkbppgenbaaTopPackedWorldP3
namespace Go.Proofs.Ytaodhkbppgenbaa
set_option linter.unusedVariables false
set_option linter.unusedSimpArgs false
set_option linter.defProp false
set_option maxRecDepth 10000
set_option maxHeartbeats 4000000
structure Field where
 name:List UInt8
 bits:Int
 low:Int
structure Kind where
 name:List UInt8
 fields:List Field
structure Ent where
 n:Int
 gen:Int
structure Comp where
 kind:Int
 vals:List Int
structure Item where
 ent:Ent
 comps:List Comp
structure Wd where
 kinds:List Kind
 gens:List Int
 items:List Item
structure Ref where
 kind:Int
 field:Int
structure Arg where
 has:Bool
 n:Int
 ref:Ref
structure Op where
 act:Int
 to:Ref
 a:Arg
 b:Arg
instance:DecidableEq Field:=λa b=>decidable_of_iff (a.name=b.name/\a.bits=b.bits/\a.low=b.low) (by cases a;cases b;simp)
instance:DecidableEq Kind:=λa b=>decidable_of_iff (a.name=b.name/\a.fields=b.fields) (by cases a;cases b;simp)
instance:DecidableEq Ent:=λa b=>decidable_of_iff (a.n=b.n/\a.gen=b.gen) (by cases a;cases b;simp)
instance:Inhabited Ent:=⟨⟨default,default⟩⟩
instance:DecidableEq Comp:=λa b=>decidable_of_iff (a.kind=b.kind/\a.vals=b.vals) (by cases a;cases b;simp)
instance:DecidableEq Item:=λa b=>decidable_of_iff (a.ent=b.ent/\a.comps=b.comps) (by cases a;cases b;simp)
instance:Inhabited Item:=⟨⟨default,default⟩⟩
instance:DecidableEq Wd:=λa b=>decidable_of_iff (a.kinds=b.kinds/\a.gens=b.gens/\a.items=b.items) (by cases a;cases b;simp)
section
open Go.RowKit
abbrev Reg:=Nat->Prop
def Lt(w:World):Reg:=λb=>b<w.heap.size
section
variable {w w' w'':World}{S T:Reg}
theorem bel{n m:Nat}{a b c:World}(h:Below n a b)(k:Below m b c)(hm:n<=m):Below n a c:=h.trans (k.mono hm)
def Row(w:World)(S:Reg)(sz:Nat)(v:Value)(n:Nat)(xs:List Value):Prop:=
 xs.length=n*sz/\∃A cap,v= .slice A n cap/\n<=cap/\(0<n->∃b off,A=some ⟨b,off,none⟩/\S b/\∀j u,xs[j]?=some u->w.cell? ⟨b,off+j,none⟩=some u)
variable {sz n:Nat}{v:Value}{xs:List Value}
theorem Row.nil(w:World)(S:Reg)(sz:Nat):Row w S sz (.slice none 0 0) 0 []:=⟨by simp,none,0,rfl,Nat.le_refl _,λh=>absurd h (by omega)⟩
end
def Cells{α:Type}(C:List Value->α->Prop)(sz:Nat):List Value->List α->Prop
 |xs,[]=>xs=[]
 |xs,x::l=>∃c ys,xs=c++ys/\c.length=sz/\C c x/\Cells C sz ys l
section
variable {α:Type}{C C':List Value->α->Prop}{sz:Nat}{xs ys:List Value}{l m:List α}
theorem Cells.nil:Cells C sz [] []:=rfl
theorem Cells.length(h:Cells C sz xs l):xs.length=l.length*sz:=by
 induction l generalizing xs with
 |nil=>have:xs=[]:=h;simp[this]
 |cons x l ih=>
  obtain⟨c,ys,rfl,h1,_,h3⟩:=h;simp[ih h3,h1,Nat.add_mul,Nat.add_comm]
end
def Sl{α:Type}(w:World)(S:Reg)(sz:Nat)(C:World->Reg->List Value->α->Prop)(v:Value)(l:List α):Prop:=
 ∃xs,Row w S sz v l.length xs/\Cells (C w S) sz xs l
section
variable {α:Type}{w w':World}{S T:Reg}{sz:Nat}{C:World->Reg->List Value->α->Prop}{v:Value}{l:List α}
theorem Sl.nil(w:World)(S:Reg)(sz:Nat)(C:World->Reg->List Value->α->Prop):Sl w S sz C (.slice none 0 0) []:=⟨[],Row.nil w S sz,.nil⟩
end
abbrev NJ(l:List UInt8):Value:=.string ⟨l.toArray⟩
def Ng(_:World)(_:Reg)(c:List Value)(x:Int):Prop:=c=[.int .i64 x]
def M9(_:World)(_:Reg)(c:List Value)(f:Field):Prop:=c=[NJ f.name,.int .i64 f.bits,.int .i64 f.low]
abbrev Lg(w:World)(S:Reg)(v:Value)(l:List Int):Prop:=Sl w S 1 Ng v l
abbrev Fields(w:World)(S:Reg)(v:Value)(l:List Field):Prop:=Sl w S 3 M9 v l
def NR(w:World)(S:Reg)(c:List Value)(k:Kind):Prop:=∃vf,c=[NJ k.name,vf]/\Fields w S vf k.fields
abbrev Nh(w:World)(S:Reg)(v:Value)(l:List Kind):Prop:=Sl w S 2 NR v l
def NX(w:World)(S:Reg)(c:List Value)(x:Comp):Prop:=∃v,c=[.int .i64 x.kind,v]/\Lg w S v x.vals
abbrev Nd(w:World)(S:Reg)(v:Value)(l:List Comp):Prop:=Sl w S 2 NX v l
def NS(w:World)(S:Reg)(c:List Value)(x:Item):Prop:=∃v,c=[.int .i64 x.ent.n,.int .i64 x.ent.gen,v]/\Nd w S v x.comps
abbrev Ni(w:World)(S:Reg)(v:Value)(l:List Item):Prop:=Sl w S 3 NS v l
section
variable {w w':World}{S T:Reg}{v:Value}
variable {A:Option Addr}{n cap i:Nat}
end
section
variable {α:Type}{w w':World}{base:Nat}{e:TypeId}{S T:Reg}{sz:Nat}{C:World->Reg->List Value->α->Prop}{v:Value}{l:List α}
end
section
variable {w w':World}{b:Nat}{e:TypeId}{l:List Int}
end
section
variable {w w':World}{g:Nat}{t:TypeId}{cs:Array Value}
end
end
section
open Go.ChangeShapes Go.WideShapes Go.ChangeAt Go.RowKit Go.Deep
theorem MN{α:Type}{sz:Nat}{cs:α->List Value}{f:Nat->Option Value}(hcs:∀x,(cs x).length=sz):∀(l:List α) (off:Nat),(∀i (hi:i<l.length) j u,(cs l[i])[j]?=some u->f (off+(i*sz+j))=some u)->
  ∀j u,(l.flatMap cs)[j]?=some u->f (off+j)=some u:=by
 intro l
 induction l with
 |nil=>intro off _ j u h;simp at h
 |cons x l ih=>
  intro off h j u hj;rw[List.flatMap_cons]at hj;rcases Nat.lt_or_ge j sz with hlt|hge
  ·rw[List.getElem?_append_left (by rw[hcs];exact hlt)]at hj
   have:=h 0 (by simp) j u hj;simpa using this
  ·rw[List.getElem?_append_right (by rw[hcs];exact hge),hcs]at hj
   have:=ih (off+sz) (λi hi j u hu=>by
    have:=h (i+1) (by simp;omega) j u hu;rwa[Nat.add_mul,Nat.one_mul,show off+(i*sz+sz+j)=off+sz+(i*sz+j) by omega]at this) (j-sz) u hj
   rwa[show off+sz+(j-sz)=off+j by omega]at this
theorem FJ{α:Type}{sz:Nat}{cs:α->List Value}{C:List Value->α->Prop}(hcs:∀x,(cs x).length=sz)(hC:∀x,C (cs x) x)(l:List α):Cells C sz (l.flatMap cs) l:=by
 induction l with
 |nil=>rfl
 |cons x l ih=>exact⟨cs x,l.flatMap cs,by rw[List.flatMap_cons],hcs x,hC x,ih⟩
theorem HI{α:Type}{w:World}{sz:Nat}{C:World->Reg->List Value->α->Prop}{a:Addr}{n cap:Nat}{l:List α}{cs:α->List Value}(hn:n<=cap)(hl:l.length=n)(hsz:0<sz)(hcs:∀x,(cs x).length=sz)(hC:∀x,C w (Lt w) (cs x) x)
  (hcell:∀i (hi:i<l.length) j u,(cs l[i])[j]?=some u->w.cell? (a.add (i*sz+j))=some u):Sl w (Lt w) sz C (.slice (some a) n cap) l:=by
 subst hl;refine⟨l.flatMap cs,⟨?_,some a,cap,rfl,hn,λh0=>?_⟩,FJ hcs hC l⟩
 ·have:=(FJ (C:=λ_ _=>True) hcs (λ_=>trivial) l).length
  exact this
 ·obtain⟨b,off,spot⟩:=a
  have h1:∃u,(cs l[0])[0]?=some u:=⟨_,List.getElem?_eq_getElem (by rw[hcs];exact hsz)⟩;obtain⟨u,hu⟩:=h1;have h2:=hcell 0 h0 0 u hu;have hspot:spot=none:=by simpa[Addr.add]using World.cell?_spot h2
  subst hspot;refine⟨b,off,rfl,?_,?_⟩
  ·rw[Go.WideShapes.add_plain]at h2
   unfold World.cell? at h2;simp only at h2;show b<w.heap.size
   rcases Nat.lt_or_ge b w.heap.size with h|h
   ·exact h
   ·rw[Array.getElem?_eq_none h]at h2
    cases h2
  ·refine MN (f:=λk=>w.cell? ⟨b,k,none⟩) hcs l off λi hi j u hu=>?_
   have:=hcell i hi j u hu;rwa[Go.WideShapes.add_plain]at this
section
variable {H:Type}{enc:TypeId×Value->H}{w:World}{a:Option Addr}{len cap:Nat}{d:DataW H}{p:List MemPlace}
theorem NU(h:DataW.Trod enc Try.prog w 0 (λ_=>true) true 22 (.slice a len cap) d p):
  ∃z:List Int,Lg w (Lt w) (.slice a len cap) z/\(z=[]\/∃elems spare,d= .slice elems spare/\z.length<=elems.length+spare.length):=by
 obtain⟨fuel,hf⟩:=h;rcases open_slice Try.underlying22 hf with⟨hcs,_⟩|⟨x,l,c,m,n,D,Pl,hcs,hb,hl,hm,hmm,hx,hi⟩
 ·simp[Value.cells]at hcs
  obtain⟨rfl,rfl,rfl⟩:=hcs;exact⟨[],Sl.nil _ _ _ _,.inl rfl⟩
 ·simp[Value.cells]at hcs
  obtain⟨rfl,rfl,rfl⟩:=hcs;have hlm:len<=m:=by rw[hmm];split<;>omega
  have hex:∀i,∃e:Int,i<len->∀j u,([Value.int .i64 e])[j]?=some u->w.cell? (x.add (i*1+j))=some u:=by
   intro i;by_cases hil:i<len
   ·obtain⟨cs',hc,ht⟩:=hi i (by omega)
    rw[show Try.prog.cellsOf 3=1 from by kernel_rfl]at hc;obtain⟨_,hcl,hat⟩:=World.cells?_some hc;obtain⟨k,rfl,_⟩:=DataW.trod_int Try.underlying3 ht;refine⟨k,λ_ j u hu=>?_⟩
    have hj:j=0:=by
     have:=(List.getElem?_eq_some_iff.1 hu).1;simp at this;omega
    subst hj;have:=hat 0 (by omega);rw[Go.Deep.add_add]at this;rw[this,hu]
   ·exact⟨0,λh=>absurd h hil⟩
  obtain⟨f,hf'⟩:=Classical.axiomOfChoice hex;refine⟨(List.range len).map f,HI (cs:=λe=>[Value.int .i64 e]) hl (by simp) (by omega) (λ_=>rfl) (λ_=>rfl) (λi hi' j u hu=>?_),.inr ⟨_,_,(Prod.mk.inj hx).1,by simp⟩⟩;simp only[List.length_map,List.length_range]at hi';exact hf' i hi' j u (by simpa using hu)
end
end
def NE(x:Bool):UInt8:=if x then 1 else 0
def EP(x:Bool):UInt64:=if x then 1 else 0
def DZ(b:List UInt8)(n:Nat)(x:Bool):List UInt8:=
 (if n%8=0 then b++[0]else b).set (n/8) ((if n%8=0 then b++[0]else b).getD (n/8) 0|||NE x<<<UInt8.ofNat (n%8))
def F0(bs:List Bool):List UInt8×Nat:=bs.foldl (λs x=>(DZ s.1 s.2 x,s.2+1)) ([],0)
def Ah(bs:List Bool):List UInt8:=(F0 bs).1
theorem Jq(bs:List Bool):(F0 bs).2=bs.length:=by
 have:∀(bs:List Bool) (s:List UInt8×Nat),(bs.foldl (λs x=>(DZ s.1 s.2 x,s.2+1)) s).2=s.2+bs.length:=by
  intro bs
  induction bs with
  |nil=>intro s;rfl
  |cons x bs ih=>intro s;rw[List.foldl_cons,ih,List.length_cons];dsimp only;omega
 have:=this bs ([],0);simpa[F0]using this
theorem CY(bs:List Bool)(x:Bool):Ah (bs++[x])=DZ (Ah bs) bs.length x:=by
 unfold Ah F0;rw[List.foldl_append];have:=Jq bs;unfold F0 at this;simp only[List.foldl_cons,List.foldl_nil,this]
theorem Jn(b:List UInt8)(n:Nat)(x:Bool):(DZ b n x).length=if n%8=0 then b.length+1 else b.length:=by
 unfold DZ;rw[List.length_set];split<;>simp
theorem HH{α:Type}{P:List α->Prop}(h0:P [])(hs:∀l x,P l->P (l++[x]))(l:List α):P l:=by
 have:∀r:List α,P r.reverse:=by
  intro r
  induction r with
  |nil=>exact h0
  |cons x r ih=>rw[List.reverse_cons];exact hs _ _ ih
 have:=this l.reverse;rwa[List.reverse_reverse]at this
theorem Bn(bs:List Bool):(Ah bs).length=(bs.length+7)/8:=by
 refine HH (P:=λbs=>(Ah bs).length=(bs.length+7)/8) rfl (λbs x ih=>?_) bs;rw[CY,Jn,ih,List.length_append,List.length_singleton];split<;>omega
def Cu(b:List UInt8)(p:Nat):Bool:=(b.getD (p/8) 0).toNat.testBit (p%8)
theorem Km(x:Bool){k j:Nat}(hk:k<8)(hj:j<8):(NE x<<<UInt8.ofNat k).toNat.testBit j=(x&&decide (j=k)):=by
 have:∀(k j:Fin 8),(NE x<<<UInt8.ofNat k.1).toNat.testBit j.1=(x&&decide (j.1=k.1)):=by cases x<;>decide
 exact this ⟨k,hk⟩ ⟨j,hj⟩
theorem KD(b:List UInt8)(q:Nat):(b++[0]).getD q 0=b.getD q 0:=by
 rw[List.getD_eq_getElem?_getD,List.getD_eq_getElem?_getD];by_cases h:q<b.length
 ·rw[List.getElem?_append_left h]
 ·rw[List.getElem?_append_right (by omega),List.getElem?_eq_none (by omega:b.length<=q)]
  cases hq:q-b.length with
  |zero=>rfl
  |succ k=>simp
theorem Jo{b:List UInt8}{n:Nat}(hb:b.length=(n+7)/8)(x:Bool)(p:Nat):Cu (DZ b n x) p=(Cu b p||(x&&decide (p=n))):=by
 obtain⟨b1,hb1⟩:∃b1,(if n%8=0 then b++[0]else b)=b1:=⟨_,rfl⟩
 have hl:n/8<b1.length:=by
  rw[<-hb1];split
  ·rw[List.length_append,List.length_singleton,hb];omega
  ·omega
 have hg:∀q,b1.getD q 0=b.getD q 0:=λq=>by
  rw[<-hb1];split
  ·exact KD b q
  ·rfl
 unfold DZ Cu;rw[hb1];by_cases h:n/8=p/8
 ·rw[<-h,List.getD_eq_getElem?_getD,List.getElem?_set_self hl,Option.getD_some,UInt8.toNat_or,Nat.testBit_or,hg,Km x (Nat.mod_lt _ (by decide)) (Nat.mod_lt _ (by decide))]
  congr 2
  exact decide_eq_decide.2 ⟨λe=>by omega,λe=>by rw[e]⟩
 ·rw[List.getD_eq_getElem?_getD,List.getElem?_set_ne h,<-List.getD_eq_getElem?_getD,hg]
  have:¬p=n:=λe=>h (by rw[e])
  simp[this]
theorem Jr(bs:List Bool):∀p,Cu (Ah bs) p=bs.getD p false:=by
 refine HH (P:=λbs=>∀p,Cu (Ah bs) p=bs.getD p false) (λp=>by simp[Ah,F0,Cu]) (λbs x ih p=>?_) bs;rw[CY,Jo (Bn bs),ih,List.getD_eq_getElem?_getD,List.getD_eq_getElem?_getD];rcases Nat.lt_trichotomy p bs.length with h|h|h
 ·rw[List.getElem?_append_left h]
  have:¬p=bs.length:=by omega
  simp[this]
 ·subst h
  simp
 ·rw[List.getElem?_eq_none (by omega),List.getElem?_eq_none (by simp;omega)]
  have:¬p=bs.length:=by omega
  simp[this]
def Bm(v:UInt64)(n:Nat):List Bool:=(List.range n).map λi=>v.toNat.testBit i
theorem EA(v:UInt64)(n:Nat):(Bm v n).length=n:=by simp[Bm]
theorem In(v:UInt64)(n:Nat):Bm v (n+1)=Bm v n++[v.toNat.testBit n]:=by simp[Bm,List.range_succ]
def EX(b:List UInt8)(p:Nat):Nat->UInt64
 |0=>0
 |n+1=>EX b p n|||EP (Cu b (p+n))<<<UInt64.ofNat n
theorem Jj(x:Bool){k j:Nat}(hk:k<64):(EP x<<<UInt64.ofNat k).toNat.testBit j=(x&&decide (j=k)):=by
 have hk':(UInt64.ofNat k).toNat%64=k:=by rw[UInt64.toNat_ofNat'];omega
 cases x with
 |false=>
  have:(EP false<<<UInt64.ofNat k)=0:=by simp[EP]
  rw[this];simp
 |true=>
  rw[UInt64.toNat_shiftLeft,hk'];have h1:(EP true).toNat=1:=rfl;rw[h1,Nat.shiftLeft_eq,Nat.one_mul];have hlt:2^k<2^64:=Nat.pow_lt_pow_right (by decide) hk;rw[Nat.mod_eq_of_lt hlt,Nat.testBit_two_pow];simp[eq_comm]
theorem E5(b:List UInt8)(p:Nat):∀(n:Nat),n<=64->∀j,(EX b p n).toNat.testBit j=(decide (j<n)&&Cu b (p+j))
 |0,_,j=>by simp[EX]
 |n+1,h,j=>by
  rw[EX,UInt64.toNat_or,Nat.testBit_or,E5 b p n (by omega) j,Jj _ (by omega)];rcases Nat.lt_trichotomy j n with h1|h1|h1
  ·have h2:¬j=n:=by omega
   have h3:j<n+1:=by omega
   simp[h1,h2,h3]
  ·subst h1;simp
  ·have h2:¬j=n:=by omega
   have h3:¬j<n+1:=by omega
   have h4:¬j<n:=by omega
   simp[h2,h3,h4]
theorem LH{bs cs:List Bool}{v:UInt64}{n:Nat}(hn:n<=64)(hv:v.toNat<2^n):EX (Ah (bs++Bm v n++cs)) bs.length n=v:=by
 apply UInt64.toNat_inj.1;refine Nat.eq_of_testBit_eq λj=>?_
 rw[E5 _ _ _ hn,Jr];by_cases h:j<n
 ·rw[List.getD_eq_getElem?_getD,List.append_assoc,List.getElem?_append_right (by omega),Nat.add_sub_cancel_left,List.getElem?_append_left (by rw[EA];exact h)]
  simp[Bm,h]
 ·have:v.toNat.testBit j=false:=Nat.testBit_lt_two_pow (Nat.lt_of_lt_of_le hv (Nat.pow_le_pow_right (by decide) (by omega)))
  rw[this];simp[h]
def fvC(ks:List Kind)(c:Comp):List (Field×Int):=((ks[c.kind.toNat]?).map (·.fields)).getD [] |>.zip c.vals
def fvI(ks:List Kind)(it:Item):List (Field×Int):=it.comps.flatMap (fvC ks)
def fvW(w:Wd):List (Field×Int):=w.items.flatMap (fvI w.kinds)
def CSh(ks:List Kind)(c:Comp):Prop:=0<=c.kind/\∃k,ks[c.kind.toNat]?=some k/\k.fields.length=c.vals.length
theorem Cx{ks:List Kind}{c:Comp}{k:Kind}(h:ks[c.kind.toNat]?=some k):fvC ks c=k.fields.zip c.vals:=by
 unfold fvC;rw[h];rfl
theorem Cd{α:Type}{l r:List α}{t:Nat}{a:α}(h:l.drop t=a::r):l[t]?=some a/\l.drop (t+1)=r:=by
 constructor
 ·have:=congrArg (·[0]?) h
  simpa using this
 ·have:=congrArg (List.drop 1) h
  rw[List.drop_drop]at this;simpa using this
theorem Gz{α β:Type}{l:List α}{m:List β}{i:Nat}(h1:i<l.length)(h2:i<m.length):(l.zip m).drop i=(l[i],m[i])::(l.zip m).drop (i+1):=by
 rw[List.drop_eq_getElem_cons (by rw[List.length_zip];omega),List.getElem_zip]
def nvV(nv:Nat->Int)(t n:Nat):List Int:=(List.range n).map λi=>nv (t+i)
def nvC(nv:Nat->Int):Nat->List Comp->List Comp
 |_,[]=>[]
 |t,c::cs=>⟨c.kind,nvV nv t c.vals.length⟩::nvC nv (t+c.vals.length) cs
def FH(cs:List Comp):Nat:=(cs.map λc=>c.vals.length).sum
def nvI(nv:Nat->Int):Nat->List Item->List Item
 |_,[]=>[]
 |t,it::l=>⟨it.ent,nvC nv t it.comps⟩::nvI nv (t+FH it.comps) l
theorem CZ(nv:Nat->Int)(t n:Nat):(nvV nv t n).length=n:=by simp[nvV]
theorem I9(nv:Nat->Int):∀(cs:List Comp) (t:Nat),FH (nvC nv t cs)=FH cs
 |[],_=>rfl
 |c::cs,t=>by
  have:=I9 nv cs (t+c.vals.length);simp only[FH,nvC,List.map_cons,List.sum_cons,CZ]at this⊢;rw[this]
theorem GV(nv:Nat->Int):∀(cs:List Comp) (t:Nat),(nvC nv t cs).length=cs.length
 |[],_=>rfl
 |c::cs,t=>by rw[nvC,List.length_cons,List.length_cons,GV nv cs]
theorem GU(nv:Nat->Int):∀(l:List Item) (t:Nat),(nvI nv t l).length=l.length
 |[],_=>rfl
 |c::cs,t=>by rw[nvI,List.length_cons,List.length_cons,GU nv cs]
theorem Ky{nv:Nat->Int}{t:Nat}{l:List Int}(h:∀i (hi:i<l.length),nv (t+i)=l[i]):nvV nv t l.length=l:=
 List.ext_getElem (CZ ..) λi h1 h2=>by simp[nvV,h i h2]
theorem JK{ks:List Kind}{c:Comp}(h:CSh ks c):(fvC ks c).length=c.vals.length:=by
 obtain⟨_,k,h1,h2⟩:=h;rw[Cx h1,List.length_zip];omega
theorem MK{ks:List Kind}{c:Comp}(h:CSh ks c){i:Nat}(hi:i<c.vals.length):∃f,(fvC ks c)[i]?=some (f,c.vals[i]):=by
 obtain⟨_,k,h1,h2⟩:=h;rw[Cx h1];exact⟨k.fields[i]'(by omega),by rw[List.getElem?_eq_getElem (by rw[List.length_zip];omega),List.getElem_zip]⟩
theorem JJ{ks:List Kind}:∀{cs:List Comp},(∀c∈cs,CSh ks c)->(cs.flatMap (fvC ks)).length=FH cs
 |[],_=>rfl
 |c::cs,h=>by
  rw[List.flatMap_cons,List.length_append,JK (h c (by simp)),JJ λx hx=>h x (by simp[hx])];rfl
theorem HX{ks:List Kind}{nv:Nat->Int}:∀{cs:List Comp} {t:Nat},(∀c∈cs,CSh ks c)->(∀i p,(cs.flatMap (fvC ks))[i]?=some p->nv (t+i)=p.2)->nvC nv t cs=cs
 |[],_,_,_=>rfl
 |c::cs,t,hs,h=>by
  have hc:=hs c (by simp);have hl:=JK hc;rw[nvC,HX (λx hx=>hs x (by simp[hx])) λi p hi=>?_]
  ·congr 1
   have:nvV nv t c.vals.length=c.vals:=Ky λi hi=>by
    obtain⟨f,hf⟩:=MK hc hi;exact h i (f,c.vals[i]) (by rw[List.flatMap_cons,List.getElem?_append_left (by omega)];exact hf)
   rw[this]
  ·have:=h (c.vals.length+i) p (by rw[List.flatMap_cons,List.getElem?_append_right (by omega),hl,Nat.add_sub_cancel_left];exact hi)
   rw[<-this]
   congr 1
   omega
theorem HU{ks:List Kind}{nv:Nat->Int}:∀{l:List Item} {t:Nat},(∀it∈l,∀c∈it.comps,CSh ks c)->(∀i p,(l.flatMap (fvI ks))[i]?=some p->nv (t+i)=p.2)->nvI nv t l=l
 |[],_,_,_=>rfl
 |it::l,t,hs,h=>by
  have hi:=hs it (by simp);have hl:(fvI ks it).length=FH it.comps:=JJ hi;rw[nvI,HX hi λi p hi2=>?_,HU (λx hx=>hs x (by simp[hx])) λi p hi2=>?_]
  ·have:=h (FH it.comps+i) p (by rw[List.flatMap_cons,List.getElem?_append_right (by omega),hl,Nat.add_sub_cancel_left];exact hi2)
   rw[<-this]
   congr 1
   omega
  ·refine h i p ?_
   rw[List.flatMap_cons,List.getElem?_append_left]
   ·exact hi2
   ·exact(List.getElem?_eq_some_iff.1 hi2).1
theorem K5{α:Type}{T S:List α}{i:Nat}{x:α}(hl:T.length=S.length)(h:S[i]?=some x):(T.take i++S.drop i)[i]?=some x:=by
 have hi:=(List.getElem?_eq_some_iff.1 h).1;rw[List.getElem?_append_right (by rw[List.length_take];omega),List.length_take,Nat.min_eq_left (by omega),Nat.sub_self,List.getElem?_drop,Nat.add_zero];exact h
theorem GW{α:Type}{T S:List α}{i:Nat}{y:α}(hl:T.length=S.length)(h:T[i]?=some y):(T.take i++S.drop i).set i y=T.take (i+1)++S.drop (i+1):=by
 obtain⟨hi,e⟩:=List.getElem?_eq_some_iff.1 h;rw[List.set_append_right _ _ (by rw[List.length_take];omega),List.length_take,Nat.min_eq_left (by omega),Nat.sub_self,List.drop_eq_getElem_cons (by omega),List.set_cons_zero,List.take_add_one,h,List.append_assoc];rfl
theorem GX{α:Type}{T S:List α}{i:Nat}(hl:T.length=S.length)(hi:i<=S.length):(T.take i++S.drop i).length=S.length:=by
 rw[List.length_append,List.length_take,List.length_drop];omega
theorem Mx(nv:Nat->Int)(t:Nat){n q:Nat}(h:q<n):(nvV nv t n)[q]?=some (nv (t+q)):=by
 unfold nvV;rw[List.getElem?_map,List.getElem?_range h];rfl
theorem I8{ks:List Kind}(nv:Nat->Int):∀{cs:List Comp} {t:Nat},(∀c∈cs,CSh ks c)->∀c∈nvC nv t cs,CSh ks c
 |[],_,_,c,h=>by cases h
 |d::cs,t,hs,c,h=>by
  rw[nvC]at h;rcases List.mem_cons.1 h with rfl|h
  ·obtain⟨h1,k,h2,h3⟩:=hs d (by simp)
   exact⟨h1,k,h2,by rw[CZ];exact h3⟩
  ·exact I8 nv (λx hx=>hs x (by simp[hx])) c h
theorem I5{ks:List Kind}(nv:Nat->Int):∀{l:List Item} {t:Nat},(∀it∈l,∀c∈it.comps,CSh ks c)->∀it∈nvI nv t l,∀c∈it.comps,CSh ks c
 |[],_,_,it,h=>by cases h
 |d::l,t,hs,it,h=>by
  rw[nvI]at h;rcases List.mem_cons.1 h with rfl|h
  ·exact I8 nv (hs d (by simp))
  ·exact I5 nv (λx hx=>hs x (by simp[hx])) it h
theorem I7{ks:List Kind}(nv:Nat->Int):∀{cs:List Comp} {t:Nat},(∀c∈cs,CSh ks c)->((nvC nv t cs).flatMap (fvC ks)).map (·.1)=(cs.flatMap (fvC ks)).map (·.1)
 |[],_,_=>rfl
 |d::cs,t,hs=>by
  obtain⟨h1,k,h2,h3⟩:=hs d (by simp);rw[nvC,List.flatMap_cons,List.flatMap_cons,List.map_append,List.map_append,I7 nv λx hx=>hs x (by simp[hx]),Cx h2,Cx (c:=⟨d.kind,nvV nv t d.vals.length⟩) h2];dsimp only;rw[List.map_fst_zip (by rw[CZ];omega),List.map_fst_zip (by omega)]
theorem I4{ks:List Kind}(nv:Nat->Int):∀{l:List Item} {t:Nat},(∀it∈l,∀c∈it.comps,CSh ks c)->((nvI nv t l).flatMap (fvI ks)).map (·.1)=(l.flatMap (fvI ks)).map (·.1)
 |[],_,_=>rfl
 |d::l,t,hs=>by
  rw[nvI,List.flatMap_cons,List.flatMap_cons,List.map_append,List.map_append,I4 nv λx hx=>hs x (by simp[hx])]
  congr 1
  exact I7 nv (hs d (by simp))
theorem I6(nv nv':Nat->Int):∀(cs:List Comp) (t t':Nat),nvC nv t (nvC nv' t' cs)=nvC nv t cs
 |[],_,_=>rfl
 |d::cs,t,t'=>by
  rw[nvC,nvC,nvC];dsimp only;rw[CZ,I6 nv nv' cs]
theorem I3(nv nv':Nat->Int):∀(l:List Item) (t t':Nat),nvI nv t (nvI nv' t' l)=nvI nv t l
 |[],_,_=>rfl
 |d::l,t,t'=>by
  rw[nvI,nvI,nvI];dsimp only;rw[I9,I3 nv nv' l,I6]
theorem HW{n:Nat}(nv:Nat->Int):∀{l:List Item} {t:Nat},(∀it∈l,it.comps.length<=n)->∀it∈nvI nv t l,it.comps.length<=n
 |[],_,_,it,h=>by cases h
 |d::l,t,hs,it,h=>by
  rw[nvI]at h;rcases List.mem_cons.1 h with rfl|h
  ·dsimp only;rw[GV];exact hs d (by simp)
  ·exact HW nv (λx hx=>hs x (by simp[hx])) it h
theorem HY{n:Nat}(nv:Nat->Int):∀{cs:List Comp} {t:Nat},(∀c∈cs,c.vals.length<=n)->∀c∈nvC nv t cs,c.vals.length<=n
 |[],_,_,c,h=>by cases h
 |d::cs,t,hs,c,h=>by
  rw[nvC]at h;rcases List.mem_cons.1 h with rfl|h
  ·dsimp only;rw[CZ];exact hs d (by simp)
  ·exact HY nv (λx hx=>hs x (by simp[hx])) c h
theorem HV{n:Nat}(nv:Nat->Int):∀{l:List Item} {t:Nat},(∀it∈l,∀c∈it.comps,c.vals.length<=n)->∀it∈nvI nv t l,∀c∈it.comps,c.vals.length<=n
 |[],_,_,it,h=>by cases h
 |d::l,t,hs,it,h=>by
  rw[nvI]at h;rcases List.mem_cons.1 h with rfl|h
  ·exact HY nv (hs d (by simp))
  ·exact HV nv (λx hx=>hs x (by simp[hx])) it h
instance tAg3:TAg Try.prog 3 false:=⟨by kernel_rfl⟩
instance tSize3:TSize Try.prog 3 1:=⟨by kernel_rfl⟩
instance tZe3:TZe Try.prog 3 [.int .i64 0]:=⟨by kernel_rfl⟩
instance tBy3:TBy Try.prog 3 8:=⟨by kernel_rfl⟩
instance tAg4:TAg Try.prog 4 false:=⟨by kernel_rfl⟩
instance tSize4:TSize Try.prog 4 1:=⟨by kernel_rfl⟩
instance tZe4:TZe Try.prog 4 [.bool false]:=⟨by kernel_rfl⟩
instance tBy4:TBy Try.prog 4 1:=⟨by kernel_rfl⟩
instance tAg5:TAg Try.prog 5 false:=⟨by kernel_rfl⟩
instance tSize5:TSize Try.prog 5 1:=⟨by kernel_rfl⟩
instance tZe5:TZe Try.prog 5 [.int .u8 0]:=⟨by kernel_rfl⟩
instance tAg9:TAg Try.prog 9 false:=⟨by kernel_rfl⟩
instance tSize9:TSize Try.prog 9 1:=⟨by kernel_rfl⟩
instance tZe9:TZe Try.prog 9 [.string ByteArray.empty]:=⟨by kernel_rfl⟩
instance tSg9:TSg Try.prog 9:=⟨by kernel_rfl⟩
instance tAg22:TAg Try.prog 22 false:=⟨by kernel_rfl⟩
instance tSize22:TSize Try.prog 22 1:=⟨by kernel_rfl⟩
instance tZe22:TZe Try.prog 22 [.slice none 0 0]:=⟨by kernel_rfl⟩
instance tEl22:TEl Try.prog 22 3:=⟨by kernel_rfl⟩
instance tRo22:TRo Try.prog 22 3 1 8:=⟨by kernel_rfl⟩
instance tAg39:TAg Try.prog 39 true:=⟨by kernel_rfl⟩
instance tSize39:TSize Try.prog 39 3:=⟨by kernel_rfl⟩
instance tZe39:TZe Try.prog 39 [.string ByteArray.empty,.int .i64 0,.int .i64 0]:=⟨by kernel_rfl⟩
instance tFl39_0:TFl Try.prog 39 0 0 9:=⟨by kernel_rfl⟩
instance tFl39_1:TFl Try.prog 39 1 1 3:=⟨by kernel_rfl⟩
instance tFl39_2:TFl Try.prog 39 2 2 3:=⟨by kernel_rfl⟩
instance tSt39:TSt Try.prog 39 [.string ByteArray.empty,.int .i64 0,.int .i64 0] [(0,1),(1,1),(2,1)]:=⟨by kernel_rfl⟩
instance tAg40:TAg Try.prog 40 false:=⟨by kernel_rfl⟩
instance tSize40:TSize Try.prog 40 1:=⟨by kernel_rfl⟩
instance tEl40:TEl Try.prog 40 58:=⟨by kernel_rfl⟩
instance tRo40:TRo Try.prog 40 58 2 40:=⟨by kernel_rfl⟩
instance tAg41:TAg Try.prog 41 false:=⟨by kernel_rfl⟩
instance tSize41:TSize Try.prog 41 1:=⟨by kernel_rfl⟩
instance tEl41:TEl Try.prog 41 53:=⟨by kernel_rfl⟩
instance tRo41:TRo Try.prog 41 53 3 40:=⟨by kernel_rfl⟩
instance tAg43:TAg Try.prog 43 true:=⟨by kernel_rfl⟩
instance tSize43:TSize Try.prog 43 3:=⟨by kernel_rfl⟩
instance tZe43:TZe Try.prog 43 [.slice none 0 0,.slice none 0 0,.slice none 0 0]:=⟨by kernel_rfl⟩
instance tFl43_0:TFl Try.prog 43 0 0 40:=⟨by kernel_rfl⟩
instance tFl43_1:TFl Try.prog 43 1 1 22:=⟨by kernel_rfl⟩
instance tFl43_2:TFl Try.prog 43 2 2 41:=⟨by kernel_rfl⟩
instance tSt43:TSt Try.prog 43 [.slice none 0 0,.slice none 0 0,.slice none 0 0] [(0,1),(1,1),(2,1)]:=⟨by kernel_rfl⟩
instance tAg45:TAg Try.prog 45 false:=⟨by kernel_rfl⟩
instance tSize45:TSize Try.prog 45 1:=⟨by kernel_rfl⟩
instance tEl45:TEl Try.prog 45 5:=⟨by kernel_rfl⟩
instance tRo45:TRo Try.prog 45 5 1 1:=⟨by kernel_rfl⟩
instance tAg47:TAg Try.prog 47 true:=⟨by kernel_rfl⟩
instance tZe47:TZe Try.prog 47 [.slice none 0 0,.int .i64 0]:=⟨by kernel_rfl⟩
instance tFl47_0:TFl Try.prog 47 0 0 45:=⟨by kernel_rfl⟩
instance tFl47_1:TFl Try.prog 47 1 1 3:=⟨by kernel_rfl⟩
instance tAg50:TAg Try.prog 50 true:=⟨by kernel_rfl⟩
instance tSize50:TSize Try.prog 50 2:=⟨by kernel_rfl⟩
instance tZe50:TZe Try.prog 50 [.int .i64 0,.int .i64 0]:=⟨by kernel_rfl⟩
instance tFl50_0:TFl Try.prog 50 0 0 3:=⟨by kernel_rfl⟩
instance tFl50_1:TFl Try.prog 50 1 1 3:=⟨by kernel_rfl⟩
instance tSt50:TSt Try.prog 50 [.int .i64 0,.int .i64 0] [(0,1),(1,1)]:=⟨by kernel_rfl⟩
instance tAg51:TAg Try.prog 51 false:=⟨by kernel_rfl⟩
instance tSize51:TSize Try.prog 51 1:=⟨by kernel_rfl⟩
instance tEl51:TEl Try.prog 51 55:=⟨by kernel_rfl⟩
instance tRo51:TRo Try.prog 51 55 2 32:=⟨by kernel_rfl⟩
instance tAg53:TAg Try.prog 53 true:=⟨by kernel_rfl⟩
instance tSize53:TSize Try.prog 53 3:=⟨by kernel_rfl⟩
instance tZe53:TZe Try.prog 53 [.int .i64 0,.int .i64 0,.slice none 0 0]:=⟨by kernel_rfl⟩
instance tBy53:TBy Try.prog 53 40:=⟨by kernel_rfl⟩
instance tFl53_0:TFl Try.prog 53 0 0 50:=⟨by kernel_rfl⟩
instance tFl53_1:TFl Try.prog 53 1 2 51:=⟨by kernel_rfl⟩
instance tSt53:TSt Try.prog 53 [.int .i64 0,.int .i64 0,.slice none 0 0] [(0,2),(2,1)]:=⟨by kernel_rfl⟩
instance tAg55:TAg Try.prog 55 true:=⟨by kernel_rfl⟩
instance tSize55:TSize Try.prog 55 2:=⟨by kernel_rfl⟩
instance tZe55:TZe Try.prog 55 [.int .i64 0,.slice none 0 0]:=⟨by kernel_rfl⟩
instance tBy55:TBy Try.prog 55 32:=⟨by kernel_rfl⟩
instance tFl55_0:TFl Try.prog 55 0 0 3:=⟨by kernel_rfl⟩
instance tFl55_1:TFl Try.prog 55 1 1 22:=⟨by kernel_rfl⟩
instance tSt55:TSt Try.prog 55 [.int .i64 0,.slice none 0 0] [(0,1),(1,1)]:=⟨by kernel_rfl⟩
instance tAg56:TAg Try.prog 56 false:=⟨by kernel_rfl⟩
instance tSize56:TSize Try.prog 56 1:=⟨by kernel_rfl⟩
instance tEl56:TEl Try.prog 56 39:=⟨by kernel_rfl⟩
instance tRo56:TRo Try.prog 56 39 3 32:=⟨by kernel_rfl⟩
instance tAg58:TAg Try.prog 58 true:=⟨by kernel_rfl⟩
instance tSize58:TSize Try.prog 58 2:=⟨by kernel_rfl⟩
instance tZe58:TZe Try.prog 58 [.string ByteArray.empty,.slice none 0 0]:=⟨by kernel_rfl⟩
instance tBy58:TBy Try.prog 58 40:=⟨by kernel_rfl⟩
instance tFl58_0:TFl Try.prog 58 0 0 9:=⟨by kernel_rfl⟩
instance tFl58_1:TFl Try.prog 58 1 1 56:=⟨by kernel_rfl⟩
instance tSt58:TSt Try.prog 58 [.string ByteArray.empty,.slice none 0 0] [(0,1),(1,1)]:=⟨by kernel_rfl⟩
instance tAg65:TAg Try.prog 65 false:=⟨by kernel_rfl⟩
instance tSize65:TSize Try.prog 65 1:=⟨by kernel_rfl⟩
instance tZe65:TZe Try.prog 65 [.pointer none]:=⟨by kernel_rfl⟩
instance tAg70:TAg Try.prog 70 false:=⟨by kernel_rfl⟩
instance tSize70:TSize Try.prog 70 1:=⟨by kernel_rfl⟩
instance tZe70:TZe Try.prog 70 [.int .u64 0]:=⟨by kernel_rfl⟩
instance tBy70:TBy Try.prog 70 8:=⟨by kernel_rfl⟩
instance tFl89_0:TFl Try.prog 89 0 0 22:=⟨by kernel_rfl⟩
instance tSt89:TSt Try.prog 89 [.slice none 0 0] [(0,1)]:=⟨by kernel_rfl⟩
instance tFl100_0:TFl Try.prog 100 0 0 45:=⟨by kernel_rfl⟩
instance tFl100_1:TFl Try.prog 100 1 1 3:=⟨by kernel_rfl⟩
instance tSt100:TSt Try.prog 100 [.slice none 0 0,.int .i64 0] [(0,1),(1,1)]:=⟨by kernel_rfl⟩
instance tEl115:TEl Try.prog 115 70:=⟨by kernel_rfl⟩
instance tEl117:TEl Try.prog 117 9:=⟨by kernel_rfl⟩
instance tEl134:TEl Try.prog 134 4:=⟨by kernel_rfl⟩
abbrev iA(n:Int):AV:=.prim (.int .i64 n)
abbrev bA(b:Bool):AV:=.prim (.bool b)
abbrev sA(l:List UInt8):AV:=.prim (BT l)
def fieldA(f:Field):AV:=.agg [sA f.name,iA f.bits,iA f.low]
abbrev Cc(o:Bool)(l:List Field):AV:=.lst o 39 3 (l.map fieldA)
def AU(o:Bool)(k:Kind):AV:=.agg [sA k.name,Cc o k.fields]
abbrev AS(o o':Bool)(l:List Kind):AV:=.lst o 58 2 (l.map (AU o'))
abbrev Af(o:Bool)(l:List Int):AV:=.lst o 3 1 (l.map iA)
instance {f:Field}:Frz (fieldA f) (fieldA f):=⟨rfl⟩
instance {o:Bool}{k:Kind}:Frz (AU o k) (AU false k):=⟨by unfold AU;exact Frz.h⟩
def AE(o:Bool)(c:Comp):AV:=.agg [iA c.kind,Af o c.vals]
abbrev Az(o o':Bool)(l:List Comp):AV:=.lst o 55 2 (l.map (AE o'))
def AH(o:Bool)(x:Item):AV:=.agg [iA x.ent.n,iA x.ent.gen,Az o o x.comps]
abbrev BJ(o o':Bool)(l:List Item):AV:=.lst o 53 3 (l.map (AH o'))
def wdA(o:Bool)(w:Wd):AV:=.agg [AS o o w.kinds,Af o w.gens,BJ o o w.items]
def Ec(e:Ent):AV:=.agg [iA e.n,iA e.gen]
instance {e:Ent}:Frz (Ec e) (Ec e):=⟨rfl⟩
instance {o:Bool}{k:Comp}:Frz (AE o k) (AE false k):=⟨by unfold AE;exact Frz.h⟩
instance {o:Bool}{k:Item}:Frz (AH o k) (AH false k):=⟨by unfold AH;exact Frz.h⟩
instance {o:Bool}{k:Wd}:Frz (wdA o k) (wdA false k):=⟨by unfold wdA;exact Frz.h⟩
theorem KE{α:Type}(f:α->AV)(h:∀a,(f a).frz=f a)(l:List α):AV.frzs (l.map f)=l.map f:=by
 rw[B3,List.map_map];exact List.map_congr_left λa _=>h a
theorem J5(o:Bool)(l:List Int):(Af o l).frz=Af false l:=by
 show AV.lst false _ _ (AV.frzs (l.map iA))=_
 rw[KE _ λ_=>rfl]
theorem HR{b:List UInt8}{q:Nat}(h:q<b.length):(b.map yA)[q]?=some (yA b[q]):=by rw[List.getElem?_map,List.getElem?_eq_getElem h];rfl
theorem Kl{v:UInt64}{n:Nat}(hn:n<64)(hv:v.toNat<2^n):v>>>UInt64.ofNat n=0:=by
 apply UInt64.toNat_inj.1;rw[UInt64.toNat_shiftRight,UInt64.toNat_ofNat',show n%2^64%64=n by omega,Nat.shiftRight_eq_div_pow,Nat.div_eq_of_lt hv];rfl
theorem KM{bs:List Bool}{v:UInt64}{i:Nat}(hi:i<64){b:List UInt8}(hb:(if bs.length%8=0 then Ah bs++[0]else Ah bs)=b)(hq:bs.length/8<b.length):
  (b.map yA).set (bs.length/8) (yA (b[bs.length/8]|||(v>>>UInt64.ofNat i&&&1).toUInt8<<<UInt8.ofNat (bs.length%8)))=(Ah (bs++[v.toNat.testBit i])).map yA:=by
 rw[CY,DZ,hb,ND v i hi,List.getD_eq_getElem?_getD,List.getElem?_eq_getElem hq,Option.getD_some,List.map_set];rfl
theorem IQ(bs:List Bool)(x:Bool):(Ah (bs++[x])).length=(if bs.length%8=0 then Ah bs++[0]else Ah bs).length:=by
 rw[CY,DZ,List.length_set]
theorem NT{c:Prop}[Decidable c]:(if c then(16:UInt64)else 0)=if c then 16 else 0:=rfl
theorem Kx{v:Int}(h0:0<=v)(h1:v<18446744073709551616):(UInt64.ofInt v).toNat=v.toNat:=by
 unfold UInt64.ofInt;rw[UInt64.toNat_ofNat'];omega
theorem LZ{P:Program}{dst:Option Tmp}{ty t ty2:TypeId}{pos:String}{after:Array Edge}{g:Option (Nat×Bool)}{T:List (Nat×AV)}{S:List AA}{c:Option (List Bool)}{x y:Operand}{i j:Int}{k k':IntKind}(m:Nat)(r:Int)(h:k.wrap (i*2^m)=r)(hj:j=(m:Int))(hm:m<=k.bits)(hx:Rd c T x (.prim (.int k i)))(hy:Rd c T y (.prim (.int k' j))):Stp c P ⟨dst,.binOp .shl t x y ty2,ty,pos,after,g⟩ T S [(x,.prim (.int k i)),(y,.prim (.int k' j))] [] (.prim (.int k r)) []:=by
 subst h;exact W.shl hx hy hj hm
def Im(a:Int):Int:=if 1099511627776<(if a< -1099511627776 then-1099511627776 else a)then 1099511627776 else if a< -1099511627776 then-1099511627776 else a
theorem KK{a:Int}(h: -4294967296<=a/\a<=4294967296):Im a=a:=by
 have e1:(if a< -1099511627776 then-1099511627776 else a)=a:=if_neg (by omega);unfold Im;rw[e1,if_neg (by omega)]
theorem D8(a:Int)(h: -4294967296<=a/\a<=4294967296):PS Try.prog 38 [iA a] (iA a):=by
 suffices hh:PS Try.prog 38 [iA a] (iA (Im a)) by rwa[KK h]at hh
 refine AC (nt:=6) (res:=[.tmp 2]) Try.func38 rfl (by kernel_rfl) rfl rfl rfl λSf=>?_
 (repeat first|refine WK ?_|refine Ai λX=>?_|refine Ay λY=>?_);refine RT ?_;refine AF ?_;rfl
theorem Fy(f:Field)(h1:0<=f.bits)(h2:f.bits<=32)(h3: -4294967296<=f.low)(h4:f.low<=4294967296):PS Try.prog 48 [fieldA f] (iA 0):=by
 obtain⟨fn,fb,fl⟩:=f;dsimp only at h1 h2 h3 h4;have hc:=D8 fl ⟨h3,h4⟩;have d1:decide (fb<0)=false:=decide_eq_false (by omega);have d2:decide ((32:Int)<fb)=false:=decide_eq_false (by omega);refine AC (nt:=19) (res:=[.tmp 2]) Try.func48 rfl (by kernel_rfl) rfl rfl rfl λSf=>?_
 refine RG ?_;(repeat first|refine WO ?_|refine Ai λB=>?_|refine Ay λY=>?_);refine NL ?_;refine FL ?_;refine RU ?_;(repeat first|(refine RGo.gN ?_;first|(refine RGo.g_callf ?_;first|refine RGo.c1 (h:=(hc ..)) (k:=?_)))|(refine AX ?_;first|(refine RGo.g_callf ?_;first|refine RGo.c1 (h:=(hc ..)) (k:=?_)))|refine RK ?_|refine RGo.nil (by kernel_rfl) ?_);refine FL ?_;refine AN rfl (by simp) ?_;(repeat first|refine WK ?_|refine Ai λX=>?_|refine Ay λY=>?_);refine RT ?_;refine AF ?_;rfl
theorem L5(f:Field)(v:Int)(h1:0<=f.bits)(h2:f.bits<=32)(h3: -4294967296<=f.low)(h4:f.low<=4294967296)(h5:f.low<=v)(h6:v-f.low<2^f.bits.toNat):PS Try.prog 16 [fieldA f,iA v] (iA v):=by
 obtain⟨fn,fb,fl⟩:=f;dsimp only at h1 h2 h3 h4 h5 h6;obtain⟨n,rfl⟩:∃n:Nat,fb=n:=⟨fb.toNat,by omega⟩;have hc:=D8 fl ⟨h3,h4⟩;have hn:((n:Int)).toNat=n:=rfl;rw[hn]at h6
 have hp:(2:Int)^n<=4294967296/\1<=(2:Int)^n:=by
  have:∀n,n<=32->(2:Int)^n<=4294967296/\1<=(2:Int)^n:=by decide
  exact this n (by omega)
 have hw:IntKind.i64.wrap (1*2^n)=2^n:=by rw[Int.one_mul];exact Ba (by omega) (by omega)
 have e1:(if(n:Int)<0 then 0 else(n:Int))=n:=if_neg (by omega);have e2:(if 32<(if(n:Int)<0 then 0 else(n:Int))then 32 else(if(n:Int)<0 then 0 else(n:Int)))=n:=by rw[e1,if_neg (by omega)]
 have e3:(if v<fl then fl else v)=v:=if_neg (by omega);have e4:(if fl+2^n-1<(if v<fl then fl else v)then fl+2^n-1 else(if v<fl then fl else v))=v:=by rw[e3,if_neg (by omega)]
 refine AC (nt:=21) (res:=[.tmp 4]) Try.func16 rfl (by kernel_rfl) rfl rfl rfl λSf=>?_
 refine RG ?_;(repeat first|refine WO ?_|refine Ai λB=>?_|refine Ay λY=>?_);refine NL ?_;refine FL ?_;refine RG ?_;(repeat first|(refine AOps.gN ?_;first|(refine AOps.g_callf ?_;first|refine AOps.c1 (h:=(hc ..)) (k:=?_)))|refine WO ?_|refine Ai λX=>?_|refine Ay λY=>?_);refine NL ?_;refine FL ?_;refine RG ?_;(repeat first|(refine AOps.gN ?_;first|refine AOps.go (h:=LZ n (2^n) hw e2 (by show n<=64;omega) rfl rfl) (k:=?_)|refine AOps.go (h:=Bj (fl+2^n) rfl (by omega) rfl rfl) (k:=?_)|refine AOps.go (h:=Bu (fl+2^n-1) rfl (by omega) rfl rfl) (k:=?_))|refine WO ?_|refine Ai λX=>?_|refine Ay λY=>?_);refine NL ?_;refine RT ?_;refine AF ?_;show iA _=_
 rw[show(if fl+2^n-1<(if v<fl then fl else v)then fl+2^n-1 else(if v<fl then fl else v))=v from e4]
def IZ{α:Type}(l:List α)(p:α->Bool):Int:=match l.findIdx? p with
 |some i=>i
 |none=>-1
theorem J7{α:Type}{l:List α}{p:α->Bool}(h:∀j (hj:j<l.length),p l[j]=false):IZ l p= -1:=by
 have:l.findIdx? p=none:=by
  rw[List.findIdx?_eq_none_iff];intro x hx;obtain⟨j,hj,rfl⟩:=List.getElem_of_mem hx;exact h j hj
 simp[IZ,this]
theorem J6{α:Type}{l:List α}{p:α->Bool}{i:Nat}(hi:i<l.length)(e:p l[i]=true)(h:∀j (hj:j<i),p (l[j]'(by omega))=false):IZ l p=i:=by
 have:l.findIdx? p=some i:=by
  rw[List.findIdx?_eq_some_iff_getElem];exact⟨hi,e,λj hj=>by simpa using h j hj⟩
 simp[IZ,this]
theorem LC{α:Type}(l:List α)(p:α->Bool):decide ((0:Int)<=IZ l p)=l.any p:=by
 unfold IZ;cases h:l.findIdx? p with
 |none=>
  rw[List.findIdx?_eq_none_iff]at h;have:l.any p=false:=List.any_eq_false.2 λx hx=>by rw[h x hx];simp
  rw[this];rfl
 |some i=>
  obtain⟨hi,e,_⟩:=List.findIdx?_eq_some_iff_getElem.1 h;have:l.any p=true:=List.any_eq_true.2 ⟨_,List.getElem_mem hi,e⟩;rw[this];simp
theorem D7(l:List Int)(hl:l.length*8<=140737488355328):PS Try.prog 32 [.lst false 3 1 (l.map iA)] (.lst true 3 1 (l.map iA)):=by
 refine AC (nt:=8) (res:=[.tmp 2]) Try.func32 rfl (by kernel_rfl) rfl rfl rfl λSf=>?_
 (repeat first|(refine AOps.gN ?_;first|refine AOps.isNil λb hb=>?_)|refine WK ?_|refine Ai λX=>?_|refine Ay λY=>?_);refine AWP.cond rfl (λhc=>?_) (λhc=>?_)
 ·rw[hb hc]
  (repeat first|refine WK ?_|refine Ai λX=>?_|refine Ay λY=>?_);refine RT ?_;exact⟨[.prim (.slice none 0 0)],[.lst true 3 1 []],_,[],.cons (.tmp rfl) rfl .nil,.cons (.cell .nil) .nil,by exact Sub.f,rfl,rfl⟩
 ·have hl':(0+(l.map iA).length)*8<=140737488355328:=by simpa using hl
  clear hl;(repeat first|(refine AOps.gN ?_;first|(refine AOps.g_lit ?_;refine KT λK=>?_))|refine WK ?_|refine Ai λX=>?_|refine Ay λY=>?_);refine RT ?_;exact⟨[.sl Y 0 (0+(l.map iA).length)],[.lst true 3 1 (l.map iA)],_,[],.cons (.tmp rfl) rfl .nil,.cons (.cell (.sl (p:=0) .here (by simp))) .nil,by exact Sub.f,rfl,rfl⟩
def BX{α:Type}(f:α->AV)(z:AV)(l:List α)(i:Nat):List AV:=(l.take i).map f++List.replicate (l.length-i) z
theorem Cs{α:Type}(f:α->AV)(z:AV)(l:List α):BX f z l 0=List.replicate l.length z:=by simp[BX]
theorem If{α:Type}(f:α->AV)(z:AV)(l:List α)(i:Nat)(h:i<=l.length):(BX f z l i).length=l.length:=by simp[BX];omega
theorem D2{α:Type}(f:α->AV)(z:AV)(l:List α){i:Nat}(h:i<l.length):(BX f z l i)[i]?=some z:=by
 unfold BX;rw[List.getElem?_append_right (by simp;omega)];simp only[List.length_map,List.length_take,Nat.min_eq_left (Nat.le_of_lt h),Nat.sub_self];rw[List.getElem?_replicate,if_pos (by omega)]
theorem DL{α:Type}(f:α->AV)(z:AV)(l:List α){i:Nat}(h:i<l.length):(BX f z l i).set i (f l[i])=BX f z l (i+1):=by
 unfold BX;rw[List.set_append_right _ _ (by simp;omega),List.take_add_one,List.getElem?_eq_getElem h];simp only[List.length_map,List.length_take,Nat.min_eq_left (Nat.le_of_lt h),Nat.sub_self,Option.toList_some,List.map_append,List.map_cons,List.map_nil,List.append_assoc]
 congr 1
 rw[show l.length-i=(l.length-(i+1))+1 from by omega,List.replicate_succ];rfl
theorem DM{α:Type}(f:α->AV)(z:AV)(l:List α){i:Nat}(h:l.length<=i):BX f z l i=l.map f:=by
 unfold BX;rw[List.take_of_length_le h,show l.length-i=0 from by omega];simp
theorem Gm(l:List Comp)(hl:l.length<=1099511627776)(hv:∀c∈l,c.vals.length<=1099511627776):PS Try.prog 43 [Az false false l] (Az true false l):=by
 refine AC (nt:=27) (res:=[.tmp 2]) Try.func43 rfl (by kernel_rfl) rfl rfl rfl λSf=>?_
 have hl':(l.map (AE false)).length<=1099511627776:=by simpa using hl
 (repeat first|(refine AOps.gN ?_;first|(refine CG ?_;refine Dn (.agg [iA 0,.prim (.slice none 0 0)]) λK=>?_))|refine WK ?_|refine Ai λX=>?_|refine Ay λY=>?_);refine Bq (λi:Nat=>⟨[(3,.sl K 0 (l.map (AE false)).length),(9,Az false false l),(10,iA (l.map (AE false)).length),(11,iA i)],(K,.row 55 2 (BX (AE false) (.agg [iA 0,.prim (.slice none 0 0)]) l i))::Sf⟩) (λi=>i<=l.length) (λi=>l.length-i) 0 (Nat.zero_le _) ?_ ⟨by(repeat (first|exact .nil|refine .cons (by first|rfl|assumption) ?_)),by rw[Cs,<-List.length_map (f:=AE false)];exact Sub.f⟩;rintro i hi;(repeat first|refine WK ?_|refine Ai λX=>?_|refine Ay λY=>?_);refine AWP.cond rfl (λhc=>?_) (λhc=>?_)
 ·have h:i<l.length:=by simpa using hc
  have hm:i<(l.map (AE false)).length:=by simpa using h
  have hat:=D2 (AE false) (.agg [iA 0,.prim (.slice none 0 0)]) l h;(repeat first|refine WK ?_|refine Ai λX=>?_|refine Ay λY=>?_);refine RU ?_;(repeat first|(refine RGo.gN ?_;first|(refine RGo.g_callf ?_;first|refine RGo.c1 (h:=(D7 _ (by have:=hv _ (List.getElem_mem h);omega))) (k:=?_)))|(refine AX ?_;first|(refine RGo.g_callf ?_;first|refine RGo.c1 (h:=(D7 _ (by have:=hv _ (List.getElem_mem h);omega))) (k:=?_)))|refine RK ?_|refine RGo.nil (by kernel_rfl) ?_);(repeat first|refine WK ?_|refine Ai λX=>?_|refine Ay λY=>?_);have hs:=DL (AE false) (.agg [iA 0,.prim (.slice none 0 0)]) l h;refine K6 (i+1) h ?_;dsimp only;rw[<-hs];exact Sub.f
 ·have h:l.length<=i:=by rw[decide_eq_false_iff_not,List.length_map]at hc;omega
  rw[DM _ _ _ h];(repeat first|refine WK ?_|refine Ai λX=>?_|refine Ay λY=>?_);refine RT ?_;exact⟨[.sl K 0 (l.map (AE false)).length],[.lst true 55 2 (l.map (AE false))],_,[],.cons (.tmp rfl) rfl .nil,.cons (.cell (.sl (p:=0) .here rfl)) .nil,by exact Sub.f,rfl,rfl⟩
def Jy(x:UInt64):UInt64:=(x^^^(x>>>UInt64.ofNat 31))*7640891576956012809
def M0(x:UInt64):UInt64:=(x^^^(x>>>UInt64.ofNat 27))*13503953896175478587
def L8(x:UInt64):UInt64:=M0 (Jy x)^^^(M0 (Jy x)>>>UInt64.ofNat 30)
theorem K4(x:UInt64):PS Try.prog 83 [uA x] (uA (L8 x)):=by
 refine AC (nt:=17) (res:=[.tmp 2]) Try.func83 rfl (by kernel_rfl) rfl rfl rfl λSf=>?_
 refine RG ?_;(repeat first|refine WO ?_|refine Ai λX=>?_|refine Ay λY=>?_);refine NL ?_;refine RG ?_;(repeat first|(refine AOps.gN ?_;first|refine AOps.p (Ce 31 (by omega) rfl rfl rfl) rfl ?_|refine AOps.p (Ir rfl rfl) rfl ?_|refine AOps.p (It (b:=7640891576956012809) rfl rfl) rfl ?_)|refine WO ?_|refine Ai λX=>?_|refine Ay λY=>?_);refine NL ?_;rw[show(x^^^(x>>>UInt64.ofNat 31))*7640891576956012809=Jy x from rfl];refine RG ?_;(repeat first|(refine AOps.gN ?_;first|refine AOps.p (Ce 27 (by omega) rfl rfl rfl) rfl ?_|refine AOps.p (Ir rfl rfl) rfl ?_|refine AOps.p (It (b:=13503953896175478587) rfl rfl) rfl ?_)|refine WO ?_|refine Ai λX=>?_|refine Ay λY=>?_);refine NL ?_;rw[show(Jy x^^^(Jy x>>>UInt64.ofNat 27))*13503953896175478587=M0 (Jy x)from rfl];refine RG ?_;(repeat first|(refine AOps.gN ?_;first|refine AOps.p (Ce 30 (by omega) rfl rfl rfl) rfl ?_|refine AOps.p (Ir rfl rfl) rfl ?_)|refine WO ?_|refine Ai λX=>?_|refine Ay λY=>?_);refine NL ?_;refine RT ?_;refine AF ?_;rfl
def DA(a b:UInt64):UInt64:=L8 (L8 (a+5840696475078001361)*11170449401992604703+b)
theorem Gd(a b:UInt64):PS Try.prog 65 [uA a,uA b] (uA (DA a b)):=by
 have h1:=K4 (a+5840696475078001361);have h2:=K4 (L8 (a+5840696475078001361)*11170449401992604703+b);refine AC (nt:=12) (res:=[.tmp 4]) Try.func65 rfl (by kernel_rfl) rfl rfl rfl λSf=>?_
 refine RG ?_;(repeat first|refine WO ?_|refine Ai λX=>?_|refine Ay λY=>?_);refine NL ?_;refine RG ?_;(repeat first|(refine AOps.gN ?_;first|refine AOps.p (Lc (b:=5840696475078001361) rfl rfl) rfl ?_)|refine WO ?_|refine Ai λX=>?_|refine Ay λY=>?_);refine AOps.c1 (h:=h1) (k:=?_);(repeat first|(refine AOps.gN ?_;first|refine AOps.p (It (b:=11170449401992604703) rfl rfl) rfl ?_|refine AOps.p (Lc rfl rfl) rfl ?_)|refine WO ?_|refine Ai λX=>?_|refine Ay λY=>?_);refine AOps.c1 (h:=h2) (k:=?_);(repeat first|refine WO ?_|refine Ai λX=>?_|refine Ay λY=>?_);refine FL ?_;refine RT ?_;refine AF ?_;rfl
def Dp(l:List UInt64):UInt64:=l.foldl DA (DA 5840696475078001361 (UInt64.ofNat l.length))
theorem HA(l:List UInt64)(hl:l.length<=1099511627776):PS Try.prog 36 [.lst false 70 1 (l.map uA)] (uA (Dp l)):=by
 have hlm:(l.map uA).length=l.length:=List.length_map _;have h1:=Gd 5840696475078001361 (UInt64.ofNat (l.map uA).length);refine AC (nt:=21) (res:=[.tmp 2]) Try.func36 rfl (by kernel_rfl) rfl rfl rfl λSf=>?_
 refine RG ?_;(repeat first|refine WO ?_|refine Ai λX=>?_|refine Ay λY=>?_);refine NL ?_;(repeat first|(refine AOps.gN ?_;first|(refine AOps.g_callf ?_;first|refine AOps.c2 (h:=(h1 ..)) (k:=?_))|refine AOps.p (Is .i64 (l.map uA).length rfl (by omega) (by kernel_rfl) (by kernel_rfl) rfl) rfl ?_)|refine WK ?_|refine Ai λX=>?_|refine Ay λY=>?_);refine A3 (λ(i:Nat) (s:UInt64)=>⟨[(3,uA s),(10,.lst false 70 1 (l.map uA)),(11,iA (l.map uA).length),(12,iA i)],Sf⟩) (λi s=>i<=l.length/\(l.drop i).foldl DA s=Dp l) (λi _=>l.length-i) 0 (DA 5840696475078001361 (UInt64.ofNat (l.map uA).length)) ⟨Nat.zero_le _,by rw[hlm];rfl⟩ ?_;rintro i s ⟨hi,hs⟩;(repeat first|refine WK ?_|refine Ai λX=>?_|refine Ay λY=>?_);refine AWP.cond rfl (λhc=>?_) (λhc=>?_)
 ·have h:i<l.length:=by rw[decide_eq_true_eq,hlm]at hc;omega
  have hat:(l.map uA)[i]?=some (uA l[i]):=by rw[List.getElem?_map,List.getElem?_eq_getElem h];rfl
  have h2:=Gd s l[i];(repeat first|(refine AOps.gN ?_;first|(refine AOps.g_callf ?_;first|refine AOps.c2 (h:=(h2 ..)) (k:=?_)))|refine WK ?_|refine Ai λX=>?_|refine Ay λY=>?_);refine Ae (i+1) _ ⟨h,?_⟩;rw[<-hs,List.drop_eq_getElem_cons h];rfl
 ·have h:i=l.length:=by rw[decide_eq_false_iff_not,hlm]at hc;omega
  rw[h,List.drop_length]at hs;(repeat first|refine WK ?_|refine Ai λX=>?_|refine Ay λY=>?_);refine RT ?_;refine AF ?_;rw[<-hs];rfl
def Jg(l:List Int):UInt64:=Dp (l.map UInt64.ofInt)
theorem Lx(l:List Int)(hl:l.length<=1099511627776):PS Try.prog 51 [Af false l] (uA (Jg l)):=by
 have hlm:(l.map iA).length=l.length:=List.length_map _;have hw:=HA (l.map UInt64.ofInt) (by rw[List.length_map];omega);have hz0:List.replicate (l.map iA).length (uA 0)=BX (λx=>uA (UInt64.ofInt x)) (uA 0) l 0:=by rw[Cs,hlm]
 refine AC (nt:=24) (res:=[.tmp 2]) Try.func51 rfl (by kernel_rfl) rfl rfl rfl λSf=>?_
 (repeat first|(refine AOps.gN ?_;first|(refine CG ?_;refine Dn ((uA 0)) λK=>?_))|refine WK ?_|refine Ai λX=>?_|refine Ay λY=>?_);rw[hz0];refine A3 (λ(i:Nat) (M:List AV)=>⟨[(3,.sl K 0 (l.map iA).length),(9,Af false l),(10,iA (l.map iA).length),(11,iA i)],(K,.row 70 1 M)::Sf⟩) (λi M=>i<=l.length/\M=BX (λx=>uA (UInt64.ofInt x)) (uA 0) l i) (λi _=>l.length-i) 0 _ ⟨Nat.zero_le _,rfl⟩ ?_;rintro i M ⟨hi,hM⟩;(repeat first|refine WK ?_|refine Ai λX=>?_|refine Ay λY=>?_);refine AWP.cond rfl (λhc=>?_) (λhc=>?_)
 ·have h:i<l.length:=by rw[decide_eq_true_eq,hlm]at hc;omega
  have hat:(l.map iA)[i]?=some (iA l[i]):=by rw[List.getElem?_map,List.getElem?_eq_getElem h];rfl
  have hset:=DL (λx=>uA (UInt64.ofInt x)) (uA 0) l h;have hMat:M[i]?=some (uA 0):=by rw[hM];exact D2 _ _ _ h
  have hil:i<(l.map iA).length:=by omega
  (repeat first|(refine AOps.gN ?_;first|refine AOps.p (Mk .i64 (by kernel_rfl) (by kernel_rfl) rfl) rfl ?_)|refine WK ?_|refine Ai λX=>?_|refine Ay λY=>?_);refine Ae (i+1) _ ⟨h,?_⟩;rw[hM];exact hset
 ·have h:i=l.length:=by rw[decide_eq_false_iff_not,hlm]at hc;omega
  subst h;rw[DM _ _ _ (Nat.le_refl _)]at hM;have hM2:M=(l.map UInt64.ofInt).map uA:=by rw[hM,List.map_map];rfl
  subst hM2;have hlen:(l.map iA).length=((l.map UInt64.ofInt).map uA).length:=by simp
  refine FL ?_;refine IC 3 ((l.map UInt64.ofInt).map uA) Frzs.h ?_;(repeat first|(refine AOps.gN ?_;first|(refine AOps.g_callf ?_;first|refine AOps.c1 (h:=(hw ..)) (k:=?_)))|refine WK ?_|refine Ai λX=>?_|refine Ay λY=>?_);refine RT ?_;refine AF ?_;rfl
theorem KV(S:List AA):∀b:List UInt8,Lds S (b.map yA) (b.map yA)
 |[]=>.nil
 |x::l=>.cons (show Ld S (yA x) (yA x)from .frz (a:=yA x)) (KV S l)
abbrev ysA(b:List UInt8):AV:=.lst false 5 1 (b.map yA)
def C7(b:List UInt8)(n p:Nat):UInt64×Int×Nat:=if 8*b.length<p+n then(0,14,p)else(EX b p n,0,p+n)
abbrev brO(b:List UInt8)(p:Nat):AO:=.row 100 2 [.agg [ysA b,iA p]]
theorem LR(R:Nat)(b:List UInt8)(p:Nat)(hb:b.length<=65536)(hp:p<=8*b.length):Spec Try.prog 68 [.ptr R 0 0] [(R,brO b p)] λr S'=>r=iA ((8*b.length-p:Nat):Int)/\S'=[(R,brO b p)]:=by
 have hbm:(b.map yA).length=b.length:=List.length_map _;refine AC (nt:=14) (res:=[.tmp 2]) Try.func68 rfl (by kernel_rfl) rfl rfl rfl λSf=>?_
 refine RG ?_;(repeat first|refine WO ?_|refine Ai λX=>?_|refine Ay λY=>?_);refine NL ?_;refine FL ?_;refine RU ?_;(repeat first|(refine RGo.gN ?_;first|refine RGo.go (h:=La ((8*b.length:Nat):Int) (by rw[hbm];omega) (by omega) rfl rfl) (k:=?_)|refine RGo.go (h:=Bu ((8*b.length-p:Nat):Int) (by omega) (by omega) rfl rfl) (k:=?_))|(refine AX ?_;first|refine RGo.go (h:=La ((8*b.length:Nat):Int) (by rw[hbm];omega) (by omega) rfl rfl) (k:=?_)|refine RGo.go (h:=Bu ((8*b.length-p:Nat):Int) (by omega) (by omega) rfl rfl) (k:=?_))|refine RK ?_|refine RGo.nil (by kernel_rfl) ?_);refine RT ?_;exact BL [iA ((8*b.length-p:Nat):Int)] [(R,_)] ⟨rfl,rfl⟩
theorem NC(b:List UInt8)(q i:Nat)(h:q/8<b.length):((b[q/8]>>>UInt8.ofNat (q%8))&&&1).toUInt64=EP (Cu b q):=by
 rw[MV _ _ (Nat.mod_lt _ (by decide))];unfold EP Cu;rw[List.getD_eq_getElem?_getD,List.getElem?_eq_getElem h,Option.getD_some]
theorem MW(R:Nat)(b:List UInt8)(p n:Nat)(hb:b.length<=65536)(hp:p<=8*b.length)(hn:n<=64):Spec Try.prog 50 [.ptr R 0 0,iA n] [(R,brO b p)] λr S'=>r= .tup [uA (C7 b n p).1,iA (C7 b n p).2.1]/\S'=[(R,brO b (C7 b n p).2.2)]:=by
 have d1:decide ((n:Int)<0)=false:=decide_eq_false (by omega);have d2:decide ((64:Int)<(n:Int))=false:=decide_eq_false (by omega);have hl:=LR R b p hb hp;refine AC (nt:=54) (res:=[.tmp 4,.tmp 5]) Try.func50 rfl (by kernel_rfl) rfl rfl rfl λSf=>?_
 unfold C7;refine RG ?_;(repeat first|refine WO ?_|refine Ai λX=>?_|refine Ay λY=>?_);refine NL ?_;refine FL ?_;refine RG ?_;(repeat first|refine WO ?_|refine Ai λX=>?_|refine Ay λY=>?_);refine NL ?_;refine FL ?_;refine AN rfl d2 ?_;refine FL ?_;refine RG ?_;(repeat first|(refine AOps.gN ?_;first|(refine AOps.g_callf ?_;first|refine AOps.z1 (h:=hl) (hT:=.fz) (k:=?_)))|refine WO ?_|refine Ai λX=>?_|refine Ay λY=>?_);refine NL ?_;refine FL ?_;refine AWP.cond rfl (λhc=>?_) (λhc=>?_)
 ·have hc:8*b.length<p+n:=by rw[decide_eq_true_eq]at hc;omega
  rw[if_pos hc];(repeat first|refine WK ?_|refine Ai λX=>?_|refine Ay λY=>?_);refine RT ?_;exact BL [uA 0,iA 14] [(R,_)] ⟨rfl,rfl⟩
 ·have hc:¬8*b.length<p+n:=by rw[decide_eq_false_iff_not]at hc;omega
  rw[if_neg hc];dsimp only;refine FL ?_;refine RG ?_;(repeat first|refine WO ?_|refine Ai λX=>?_|refine Ay λY=>?_);refine NL ?_;refine FL ?_;refine RG ?_;(repeat first|refine WO ?_|refine Ai λX=>?_|refine Ay λY=>?_);refine NL ?_;refine FL ?_;refine Bq (λ(i:Nat)=>⟨[(0,.ptr R 0 0),(6,uA (EX b p i)),(18,iA n),(19,iA i)],(R,brO b (p+i))::Sf⟩) (λi=>i<=n) (λi=>n-i) 0 (by omega) ?_;rintro i hi;refine RG ?_;(repeat first|refine WO ?_|refine Ai λX=>?_|refine Ay λY=>?_);refine NL ?_;refine FL ?_;refine AWP.cond rfl (λhd=>?_) (λhd=>?_)
  ·have hd:i<n:=by rw[decide_eq_true_eq]at hd;omega
   have hq:(p+i)/8<b.length:=by omega
   have hat:=HR hq;have hql:(p+i)/8<(b.map yA).length:=by rw[List.length_map];exact hq
   have hv:EX b p i|||EP (Cu b (p+i))<<<UInt64.ofNat i=EX b p (i+1):=rfl
   have hbo:=NC b (p+i) i hq;refine FL ?_;refine RG ?_;(repeat first|refine WO ?_|refine Ai λX=>?_|refine Ay λY=>?_);refine NL ?_;refine FL ?_;refine RU ?_;(repeat first|(refine RGo.gN ?_;first|refine RGo.go (h:=EB (p+i) 8 ((p+i)/8) rfl rfl (by omega) rfl (by omega) rfl rfl) (k:=?_)|refine RGo.go (h:=DP (p+i) 8 ((p+i)%8) rfl rfl (by omega) rfl rfl rfl) (k:=?_)|refine RGo.go (h:=LX ((p+i)%8) (by omega) rfl rfl rfl) (k:=?_)|refine RGo.go (h:=Lb (b:=1) rfl rfl) (k:=?_)|refine RGo.go (h:=LV .u8 (by kernel_rfl) (by kernel_rfl) rfl) (k:=?_)|refine RGo.go (h:=LY i (by omega) rfl rfl rfl) (k:=?_)|refine RGo.go (h:=Ml rfl rfl) (k:=?_))|(refine AX ?_;first|refine RGo.go (h:=EB (p+i) 8 ((p+i)/8) rfl rfl (by omega) rfl (by omega) rfl rfl) (k:=?_)|refine RGo.go (h:=DP (p+i) 8 ((p+i)%8) rfl rfl (by omega) rfl rfl rfl) (k:=?_)|refine RGo.go (h:=LX ((p+i)%8) (by omega) rfl rfl rfl) (k:=?_)|refine RGo.go (h:=Lb (b:=1) rfl rfl) (k:=?_)|refine RGo.go (h:=LV .u8 (by kernel_rfl) (by kernel_rfl) rfl) (k:=?_)|refine RGo.go (h:=LY i (by omega) rfl rfl rfl) (k:=?_)|refine RGo.go (h:=Ml rfl rfl) (k:=?_))|refine RK ?_|refine RGo.nil (by kernel_rfl) ?_);rw[hbo,hv];refine FL ?_;refine RG ?_;(repeat first|(refine AOps.gN ?_;first|refine AOps.go (h:=Bj ((p+(i+1):Nat):Int) (by omega) (by omega) rfl rfl) (k:=?_))|refine WO ?_|refine Ai λX=>?_|refine Ay λY=>?_);refine NL ?_;refine FL ?_;refine RG ?_;(repeat first|refine WO ?_|refine Ai λX=>?_|refine Ay λY=>?_);refine NL ?_;exact Br (i+1) (by omega) (by omega)
  ·have hd:i=n:=by rw[decide_eq_false_iff_not]at hd;omega
   subst hd;(repeat first|refine WK ?_|refine Ai λX=>?_|refine Ay λY=>?_);refine RT ?_;exact BL [uA (EX b p i),iA 0] [(R,_)] ⟨rfl,rfl⟩
theorem MH(b:List UInt8)(p n:Nat)(hn:n<=64):(EX b p n).toNat<2^n:=by
 refine Nat.lt_pow_two_of_testBit _ λj hj=>?_
 rw[E5 b p n hn];have:¬j<n:=by omega
 simp[this]
theorem MJ(b:List UInt8)(p n:Nat)(hn:n<=64):(C7 b n p).1.toNat<2^n:=by
 unfold C7;split
 ·exact Nat.pow_pos (by decide)
 ·exact MH b p n hn
def NQ(c:UInt8):Bool:=decide (97<=c)&&decide (c<=122)
def NW(c:UInt8):Bool:=decide (48<=c)&&decide (c<=57)
def H1(l:List UInt8)(j:Nat):Bool:=NQ (l.getD j 0)||(decide (0<j)&&NW (l.getD j 0))
def A6(l:List UInt8):Bool:=decide (0<l.length)&&decide (l.length<=16)&&(List.range l.length).all (H1 l)
def AK(f:Field):Int:=if A6 f.name&&decide (1<=f.bits)&&decide (f.bits<=32)&&decide (-4294967296<=f.low)&&decide (f.low<=4294967296)then 0 else 3
def Ab:List Field->List Field->Int
 |_,[]=>0
 |pre,f::fs=>if AK f≠0 then AK f else if pre.any (λo=>o.name==f.name)then 5 else Ab (pre++[f]) fs
def Aa(k:Kind):Int:=if A6 k.name then(if 8<k.fields.length then 2 else Ab [] k.fields)else 3
def BS(l:List Kind)(name:List UInt8):Int:=
 match l.findIdx? (λk=>k.name==name)with
 |some i=>i
 |none=>-1
def Al:List Kind->List Kind->Int
 |_,[]=>0
 |pre,k::ks=>if Aa k≠0 then Aa k else if pre.any (λo=>o.name==k.name)then 5 else Al (pre++[k]) ks
def Ag(l:List Kind):Int:=if 16<l.length then 2 else Al [] l
def Bg(f:Field):Int:=if AK f=0 then f.low+(2^f.bits.toNat-1)else 0
def As(f:Field)(v:Int):Int:=if AK f=0 then max f.low (min v (Bg f))else 0
def Ak(k:Kind)(vals:List Int):List Int×Int:=
 if Aa k≠0 then([],Aa k)else if vals.length≠k.fields.length then([],1)else(List.zipWith As k.fields vals,0)
def BD(k:Kind)(vals:List Int):Bool:=decide ((Ak k vals).2=0)&&decide ((Ak k vals).1=vals)
theorem DC{l:List Kind}{name:List UInt8}(h:∀j (hj:j<l.length),l[j].name≠name):BS l name= -1:=by
 have:l.findIdx? (λk=>k.name==name)=none:=by
  rw[List.findIdx?_eq_none_iff];intro x hx;obtain⟨j,hj,rfl⟩:=List.getElem_of_mem hx;simpa using h j hj
 simp[BS,this]
theorem Fj{l:List Kind}{name:List UInt8}{i:Nat}(hi:i<l.length)(e:l[i].name=name)(h:∀j (hj:j<i),(l[j]'(by omega)).name≠name):BS l name=i:=by
 have:l.findIdx? (λk=>k.name==name)=some i:=by
  rw[List.findIdx?_eq_some_iff_getElem];refine⟨hi,by simpa using e,λj hj=>?_⟩;simpa using h j hj
 simp[BS,this]
theorem Gc{pre:List Kind}{k:Kind}{ks:List Kind}(h:Aa k≠0):Al pre (k::ks)=Aa k:=by
 simp[Al,h]
theorem E0{pre:List Kind}{k:Kind}{ks:List Kind}(h:Aa k=0)(hf:0<=BS pre k.name):Al pre (k::ks)=5:=by
 have:pre.any (λo=>o.name==k.name)=true:=by
  rcases hc:pre.any (λo=>o.name==k.name)with _|_
  ·exfalso
   rw[List.any_eq_false]at hc;rw[DC (λj hj=>by simpa using hc _ (List.getElem_mem hj))]at hf;omega
  ·rfl
 simp[Al,h,this]
theorem Fe{pre:List Kind}{k:Kind}{ks:List Kind}(h:Aa k=0)(hf:BS pre k.name<0):Al pre (k::ks)=Al (pre++[k]) ks:=by
 have:pre.any (λo=>o.name==k.name)=false:=by
  rcases hc:pre.any (λo=>o.name==k.name)with _|_
  ·rfl
  ·exfalso
   rw[List.any_eq_true]at hc;obtain⟨x,hx,e⟩:=hc;unfold BS at hf;split at hf
   ·omega
   ·rename_i hn
    rw[List.findIdx?_eq_none_iff]at hn;exact absurd e (by simpa using hn x hx)
 simp[Al,h,this]
theorem Cp{l:List Kind}{i:Nat}(hi:i<l.length):Al (l.take i) (l.drop i)=Al (l.take i) (l[i]::l.drop (i+1)):=by
 rw[List.drop_eq_getElem_cons hi]
theorem Gb{l:List Kind}{i:Nat}(hi:l.length<=i):Al (l.take i) (l.drop i)=0:=by
 rw[List.drop_of_length_le hi];rfl
theorem EN(f:Field)(h:A6 f.name=true)(hb:1<=f.bits/\f.bits<=32/\ -4294967296<=f.low/\f.low<=4294967296):AK f=0:=by
 simp[AK,h,hb]
theorem Hw(f:Field)(h:A6 f.name=true->¬(1<=f.bits/\f.bits<=32/\ -4294967296<=f.low/\f.low<=4294967296)):AK f=3:=by
 unfold AK;rw[if_neg];simp only[Bool.and_eq_true,decide_eq_true_eq];intro hc;exact h hc.1.1.1.1 ⟨hc.1.1.1.2,hc.1.1.2,hc.1.2,hc.2⟩
theorem BV(f:Field):AK f=0↔A6 f.name=true/\1<=f.bits/\f.bits<=32/\ -4294967296<=f.low/\f.low<=4294967296:=by
 constructor
 ·intro h
  unfold AK at h;split at h
  ·rename_i hc
   simpa[and_assoc]using hc
  ·simp at h
 ·rintro⟨h,hb⟩
  exact EN f h hb
theorem Fl{pre:List Field}{f:Field}{fs:List Field}(h:AK f≠0):Ab pre (f::fs)=AK f:=by
 simp[Ab,h]
theorem Eb{pre:List Field}{f:Field}{fs:List Field}(h:AK f=0){j:Nat}(hj:j<pre.length)(e:pre[j].name=f.name):Ab pre (f::fs)=5:=by
 have:pre.any (λo=>o.name==f.name)=true:=by
  rw[List.any_eq_true];exact⟨pre[j],List.getElem_mem hj,by simp[e]⟩
 simp[Ab,h,this]
theorem FD{pre:List Field}{f:Field}{fs:List Field}(h:AK f=0)(e:∀j (hj:j<pre.length),pre[j].name≠f.name):Ab pre (f::fs)=Ab (pre++[f]) fs:=by
 have:pre.any (λo=>o.name==f.name)=false:=by
  rw[List.any_eq_false];intro x hx;obtain⟨j,hj,rfl⟩:=List.getElem_of_mem hx;simpa using e j hj
 simp[Ab,h,this]
theorem Cb{l:List Field}{i:Nat}(hi:i<l.length):Ab (l.take i) (l.drop i)=Ab (l.take i) (l[i]::l.drop (i+1)):=by
 rw[List.drop_eq_getElem_cons hi]
theorem Fk{l:List Field}{i:Nat}(hi:l.length<=i):Ab (l.take i) (l.drop i)=0:=by
 rw[List.drop_of_length_le hi];rfl
theorem Jw(l:List UInt8)(j:Nat)(hj:j<l.length)(h:H1 l j=false):A6 l=false:=by
 have:(List.range l.length).all (H1 l)=false:=by
  rw[List.all_eq_false];exact⟨j,List.mem_range.2 hj,by simp[h]⟩
 simp[A6,this]
theorem IS(l:List UInt8)(h0:0<l.length)(h1:l.length<=16)(h:∀j,j<l.length->H1 l j=true):A6 l=true:=by
 have:(List.range l.length).all (H1 l)=true:=by
  rw[List.all_eq_true];intro x hx;exact h x (List.mem_range.1 hx)
 simp[A6,this,h0,h1]
theorem Hb(l:List UInt8)(h:l.length=0\/16<l.length):A6 l=false:=by
 rcases h with h|h
 ·simp[A6,h]
 ·simp[A6,show¬l.length<=16 from by omega]
theorem Kt{b:Int}(h1:1<=b)(h2:b<=32):(2:Int)<=2^b.toNat/\(2:Int)^b.toNat<=4294967296:=by
 obtain⟨n,rfl⟩:∃n:Nat,b=n:=⟨b.toNat,by omega⟩;rw[Int.toNat_natCast];have h:n=1\/n=2\/n=3\/n=4\/n=5\/n=6\/n=7\/n=8\/n=9\/n=10\/n=11\/n=12\/n=13\/n=14\/n=15\/n=16\/n=17\/n=18\/n=19\/n=20\/n=21\/n=22\/n=23\/n=24\/n=25\/n=26\/n=27\/n=28\/n=29\/n=30\/n=31\/n=32:=by omega
 rcases h with rfl|rfl|rfl|rfl|rfl|rfl|rfl|rfl|rfl|rfl|rfl|rfl|rfl|rfl|rfl|rfl|rfl|rfl|rfl|rfl|rfl|rfl|rfl|rfl|rfl|rfl|rfl|rfl|rfl|rfl|rfl|rfl<;>decide
theorem J8{f:Field}(h:AK f=0):Bg f=f.low+(2^f.bits.toNat-1):=by simp[Bg,h]
theorem J9{f:Field}(h:AK f=0):f.low<Bg f/\Bg f<=8589934592:=by
 have hb:=(BV f).1 h;have:=Kt hb.2.1 hb.2.2.1;rw[J8 h];omega
theorem FB{pre l:List Field}(h:Ab pre l=0):∀f∈l,AK f=0:=by
 induction l generalizing pre with
 |nil=>intro f hf;cases hf
 |cons x l ih=>
  intro f hf;simp only[Ab]at h;split at h
  ·rename_i hx;exact absurd h hx
  ·rename_i hx
   split at h
   ·simp at h
   ·rcases List.mem_cons.1 hf with rfl|hf
    ·simpa using hx
    ·exact ih h f hf
theorem B7{k:Kind}(h:Aa k=0):A6 k.name=true/\k.fields.length<=8/\∀f∈k.fields,AK f=0:=by
 unfold Aa at h;split at h
 ·rename_i h1
  split at h
  ·simp at h
  ·rename_i h2
   exact⟨h1,by omega,FB h⟩
 ·simp at h
theorem Hv{f:Field}(h:AK f=0):A6 f.name=true/\1<=f.bits/\f.bits<=32/\ -4294967296<=f.low/\f.low<=4294967296:=by
 unfold AK at h;split at h
 ·rename_i hh
  simp only[Bool.and_eq_true,decide_eq_true_eq]at hh;exact⟨hh.1.1.1.1,hh.1.1.1.2,hh.1.1.2,hh.1.2,hh.2⟩
 ·simp at h
structure KOK(k:Kind):Prop where
 name:A6 k.name=true
 len:k.fields.length<=8
 fs:∀f∈k.fields,AK f=0
def VOK(fs:List Field)(vs:List Int):Prop:=vs.length=fs.length/\∀q∈fs.zip vs,1<=q.1.bits/\q.1.bits<=32/\q.1.low<=q.2/\q.2-q.1.low<2^q.1.bits.toNat
structure COK(ks:List Kind)(i:Nat)(l:List Comp):Prop where
 so:l.Pairwise λa b=>a.kind<b.kind
 it:∀c∈l,(i:Int)<=c.kind/\c.kind<i+ks.length/\∃k,ks[(c.kind-i).toNat]?=some k/\VOK k.fields c.vals
structure SOK(ks:List Kind)(gs:List Int)(n:Nat)(l:List Item):Prop where
 gn:∀g∈gs,0<=g/\g<=1073741824
 so:l.Pairwise λa b=>a.ent.n<b.ent.n
 it:∀x∈l,(n:Int)<=x.ent.n/\x.ent.n<n+gs.length/\gs[(x.ent.n-n).toNat]?=some x.ent.gen/\COK ks 0 x.comps
section
section
variable {P:Program}{dst:Option Tmp}{ty t ty2:TypeId}{pos:String}{after:Array Edge}{g:Option (Nat×Bool)}{T:List (Nat×AV)}{S:List AA}{c:Option (List Bool)}{x y:Operand}{a:UInt64}
end
end
theorem L4(R:Nat)(b:List UInt8)(p:Nat)(f:Field)(h1:1<=f.bits)(h2:f.bits<=32)(h3: -4294967296<=f.low)(h4:f.low<=4294967296)(hb:b.length<=65536)(hp:p<=8*b.length):
  Spec Try.prog 28 [.ptr R 0 0,fieldA f] [(R,brO b p)] λr S'=>r= .tup [iA (if(C7 b f.bits.toNat p).2.1≠0 then 0 else f.low+((C7 b f.bits.toNat p).1.toNat:Int)),iA (C7 b f.bits.toNat p).2.1]/\S'=[(R,brO b (C7 b f.bits.toNat p).2.2)]:=by
 have hc:=Fy f (by omega) h2 h3 h4;obtain⟨fn,fb,fl⟩:=f;dsimp only at h1 h2 h3 h4;obtain⟨n,rfl⟩:∃n:Nat,fb=n:=⟨fb.toNat,by omega⟩;have hn:((n:Int)).toNat=n:=rfl;dsimp only;rw[hn];have g1:=MW R b p n hb hp (by omega);have g2:=MJ b p n (by omega);obtain⟨⟨v,e,q⟩,hz⟩:∃z,C7 b n p=z:=⟨_,rfl⟩;rw[hz]at g1 g2⊢;dsimp only at g1 g2⊢
 have hp2:2^n<=4294967296:=by
  have:∀n,n<=32->2^n<=4294967296:=by decide
  exact this n (by omega)
 refine AC (nt:=29) (res:=[.tmp 4,.tmp 5]) Try.func28 rfl (by kernel_rfl) rfl rfl rfl λSf=>?_
 refine RG ?_;(repeat first|refine WO ?_|refine Ai λB=>?_|refine Ay λY=>?_);refine NL ?_;refine FL ?_;refine RG ?_;(repeat first|(refine AOps.gN ?_;first|(refine AOps.g_callf ?_;first|refine AOps.c1 (h:=(hc ..)) (k:=?_)))|refine WO ?_|refine Ai λX=>?_|refine Ay λY=>?_);refine NL ?_;refine FL ?_;refine RG ?_;(repeat first|refine WO ?_|refine Ai λX=>?_|refine Ay λY=>?_);refine NL ?_;refine FL ?_;refine AN rfl rfl ?_;refine FL ?_;refine RG ?_;(repeat first|(refine AOps.gN ?_;first|(refine AOps.g_callf ?_;first|refine AOps.z2 (h:=g1) (hT:=.fz) (k:=?_)))|refine WO ?_|refine Ai λX=>?_|refine Ay λY=>?_);refine NL ?_;refine FL ?_;refine RG ?_;(repeat first|refine WO ?_|refine Ai λX=>?_|refine Ay λY=>?_);refine NL ?_;refine FL ?_;refine AWP.cond rfl (λhd=>?_) (λhd=>?_)
 ·have hd:e≠0:=by simpa using hd
  rw[if_pos hd];(repeat first|refine WK ?_|refine Ai λX=>?_|refine Ay λY=>?_);refine RT ?_;exact BL [iA 0,iA e] [(R,_)] ⟨rfl,rfl⟩
 ·have hd:e=0:=by simpa using hd
  rw[if_neg (by simp[hd])];subst hd;refine FL ?_;refine RG ?_;(repeat first|(refine AOps.gN ?_;first|refine AOps.go (h:=NG .u64 (by omega) (by kernel_rfl) (by kernel_rfl) rfl) (k:=?_)|refine AOps.go (h:=Bj (fl+((v.toNat:Nat):Int)) rfl (by omega) rfl rfl) (k:=?_))|refine WO ?_|refine Ai λX=>?_|refine Ay λY=>?_);refine NL ?_;refine RT ?_;exact BL [iA (fl+((v.toNat:Nat):Int)),iA 0] [(R,_)] ⟨rfl,rfl⟩
theorem Il(a b c d:Int)(w:World):(binOp .eql 50 (.agg #[.int .i64 a,.int .i64 b]) (.agg #[.int .i64 c,.int .i64 d])).run Try.prog w= .ok (.bool (decide (a=c)&&decide (b=d))) w:=
 MU (by kernel_rfl) (by kernel_rfl) (by kernel_rfl) a b c d w
def HM(a b:Ent):Bool:=decide (a.n=b.n)&&decide (a.gen=b.gen)
theorem Jl(a b:Ent):HM a b=decide (a=b):=by
 obtain⟨n,g⟩:=a;obtain⟨n',g'⟩:=b;rw[Bool.eq_iff_iff];simp[HM]
def AP(l:List Int)(n:Int):Int:=if n<1 then 0 else match l with|[]=>0|x::_=>x%n
def AG(l:List Int)(n:Int):List Int:=if n<1 then l else l.tail
theorem AI(l:List Int){n:Int}(h:1<=n):0<=AP l n/\AP l n<n:=by
 unfold AP;rw[if_neg (by omega)];split
 ·omega
 ·rename_i x _
  exact⟨Int.emod_nonneg x (by omega),Int.emod_lt_of_pos x (by omega)⟩
def Bf(k:Nat):List UInt8:=match k with
 |0=>[115,112,111,116]
 |1=>[108,105,102,101]
 |2=>[116,101,97,109]
 |_=>[103,111,97,108]
def BB(k:Nat):List UInt8:=match k with
 |0=>[120]
 |1=>[121]
 |_=>[122]
def A7(i:Nat)(l:List Int):Field×List Int:=
 if AP (AG (AG l 9) 40) 8=7 then(⟨BB i,32,-2147483648⟩,AG (AG (AG l 9) 40) 8)
 else(⟨BB i,1+AP l 9,AP (AG l 9) 40-30⟩,AG (AG (AG l 9) 40) 8)
def Ad:Nat->Nat->List Int->List Field×List Int
 |_,0,l=>([],l)
 |i,c+1,l=>((A7 i l).1::(Ad (i+1) c (A7 i l).2).1,(Ad (i+1) c (A7 i l).2).2)
def BU(k:Nat)(l:List Int):Kind×List Int:=
 (⟨Bf k,(Ad 0 (1+AP l 3).toNat (AG l 3)).1⟩,(Ad 0 (1+AP l 3).toNat (AG l 3)).2)
def AT:Nat->Nat->List Int->List Kind×List Int
 |_,0,l=>([],l)
 |k,c+1,l=>((BU k l).1::(AT (k+1) c (BU k l).2).1,(AT (k+1) c (BU k l).2).2)
def AJ(l:List Int):List Kind×List Int:=AT 0 (1+AP l 4).toNat (AG l 4)
theorem LS(x n:Int)(hn:1<=n)(h2:n<=4611686018427387904):PS Try.prog 9 [iA x,iA n] (iA (x%n)):=by
 refine AC (nt:=14) (res:=[.tmp 4]) Try.func9 rfl (by kernel_rfl) rfl rfl rfl λSf=>?_
 have h3:x.tmod n<n:=Int.tmod_lt_of_pos _ (by omega)
 have h4: -n<x.tmod n:=by
  have:=Int.lt_tmod_of_pos x (b:=n) (by omega);exact this
 have h5:x.tmod n=x%n\/x.tmod n+n=x%n/\x.tmod n<0:=by
  rw[Int.tmod_eq_emod];split
  ·exact .inl (by simp)
  ·have:=Int.emod_nonneg x (b:=n) (by omega)
   have:=Int.emod_lt_of_pos x (b:=n) (by omega);refine .inr ?_;have:((n.natAbs:Nat):Int)=n:=by omega
   omega
 have h6:=Int.emod_nonneg x (b:=n) (by omega);(repeat first|(refine AOps.gN ?_;first|refine AOps.p (W.rem rfl rfl (by omega)) rfl ?_)|refine WK ?_|refine Ai λX=>?_|refine Ay λY=>?_);refine AWP.cond rfl (λhb=>?_) (λhb=>?_)
 ·have hb:x.tmod n<0:=by simpa using hb
  (repeat first|refine WK ?_|refine Ai λX=>?_|refine Ay λY=>?_);refine RT ?_;exact AR rfl rfl (by exact Sub.f) ⟨by rw[show x.tmod n+n=x%n from by omega],rfl⟩
 ·have hb:¬x.tmod n<0:=by simpa using hb
  (repeat first|refine WK ?_|refine Ai λX=>?_|refine Ay λY=>?_);refine RT ?_;exact AR rfl rfl (by exact Sub.f) ⟨by rw[show x.tmod n=x%n from by omega],rfl⟩
abbrev Ax(l:List Int):AO:=.row 89 1 [.agg [Af false l]]
theorem A1(X:Nat)(l:List Int)(n:Int)(h2:n<=4611686018427387904):PO Try.prog 40 [.ptr X 0 0,iA n] X (Ax l) (iA (AP l n)) (Ax (AG l n)):=by
 refine AC (nt:=33) (res:=[.tmp 4]) Try.func40 rfl (by kernel_rfl) rfl rfl rfl λSf=>?_
 (repeat first|refine WK ?_|refine Ai λX=>?_|refine Ay λY=>?_);refine AWP.cond rfl (λhb=>?_) (λhb=>?_)
 ·(repeat first|refine WK ?_|refine Ai λX=>?_|refine Ay λY=>?_)
  refine RT ?_;have hb:l.length=0\/n<1:=by simp only[Bool.or_eq_true,decide_eq_true_eq,List.length_map]at hb;omega
  have e1:AP l n=0:=by
   unfold AP;split
   ·rfl
   ·rcases hb with hb|hb
    ·rw[List.length_eq_zero_iff.1 hb]
    ·omega
  have e2:AG l n=l:=by
   unfold AG;split
   ·rfl
   ·rcases hb with hb|hb
    ·rw[List.length_eq_zero_iff.1 hb];rfl
    ·omega
  rw[e1,e2];exact EU rfl rfl (by exact Sub.f) ⟨rfl,rfl⟩
 ·have hb:l.length≠0/\1<=n:=by simp only[Bool.or_eq_false_iff,decide_eq_false_iff_not,List.length_map]at hb;omega
  obtain⟨hb,hn⟩:=hb;cases l with
  |nil=>exact absurd rfl hb
  |cons x l=>
  (repeat first|(refine AOps.gN ?_;first|refine AOps.p (W.idxL rfl rfl (a:=0) rfl rfl) rfl ?_|refine AOps.p (W.loL rfl rfl (a:=1) rfl (by simp)) rfl ?_|refine AOps.p (W.call2 rfl rfl (LS _ _ hn h2) rfl) rfl ?_)|refine WK ?_|refine Ai λX=>?_|refine Ay λY=>?_);refine RT ?_;rw[show AP (x::l) n=x%n from by unfold AP;rw[if_neg (by omega)],show AG (x::l) n=l from by unfold AG;rw[if_neg (by omega)];rfl];exact EU (S':=[(X,Ax l)]) rfl rfl (by exact Sub.f) ⟨rfl,rfl⟩
def fAt:Nat->List Int->List Field×List Int
 |0,l=>([],l)
 |i+1,l=>((fAt i l).1++[(A7 i (fAt i l).2).1],(A7 i (fAt i l).2).2)
def kAt:Nat->List Int->List Kind×List Int
 |0,l=>([],l)
 |i+1,l=>((kAt i l).1++[(BU i (kAt i l).2).1],(BU i (kAt i l).2).2)
theorem MS(i:Nat)(l:List Int):(fAt i l).1.length=i:=by
 induction i with
 |zero=>rfl
 |succ i ih=>simp[fAt,ih]
theorem JF(i:Nat)(l:List Int):(kAt i l).1.length=i:=by
 induction i with
 |zero=>rfl
 |succ i ih=>simp[kAt,ih]
theorem MT(c i:Nat)(l:List Int):((fAt i l).1++(Ad i c (fAt i l).2).1,(Ad i c (fAt i l).2).2)=fAt (i+c) l:=by
 induction c generalizing i with
 |zero=>simp[Ad]
 |succ c ih=>
  rw[show i+(c+1)=(i+1)+c from by omega,<-ih (i+1)];simp[Ad,fAt]
theorem MB(c i:Nat)(l:List Int):((kAt i l).1++(AT i c (kAt i l).2).1,(AT i c (kAt i l).2).2)=kAt (i+c) l:=by
 induction c generalizing i with
 |zero=>simp[AT]
 |succ c ih=>
  rw[show i+(c+1)=(i+1)+c from by omega,<-ih (i+1)];simp[AT,kAt]
theorem Dg(c:Nat)(l:List Int):Ad 0 c l=fAt c l:=by
 have:=MT c 0 l;simpa[fAt]using this
theorem B9(l:List Int):AJ l=kAt (1+AP l 4).toNat (AG l 4):=by
 have:=MB (1+AP l 4).toNat 0 (AG l 4);simpa[kAt,AJ]using this
theorem J2{i:Nat}(h:i<4):[sA [115,112,111,116],sA [108,105,102,101],sA [116,101,97,109],sA [103,111,97,108]][i]?=some (sA (Bf i)):=by
 have:i=0\/i=1\/i=2\/i=3:=by omega
 rcases this with rfl|rfl|rfl|rfl<;>rfl
theorem KH{i:Nat}(h:i<3):[sA [120],sA [121],sA [122]][i]?=some (sA (BB i)):=by
 have:i=0\/i=1\/i=2:=by omega
 rcases this with rfl|rfl|rfl<;>rfl
theorem Hf(G:Nat)(l:List Int):PO Try.prog 39 [.ptr G 0 0] G (Ax l) (AS true false (AJ l).1) (Ax (AJ l).2):=by
 refine AC (nt:=55) (res:=[.tmp 2]) Try.func39 rfl (by kernel_rfl) rfl rfl rfl λSf=>?_
 have h0:=AI l (n:=4) (by decide);(repeat first|(refine AOps.gN ?_;first|(refine AOps.g_callf ?_;first|refine AOps.o2 (h:=(A1 G _ _ (by decide))) (k:=?_)))|refine WK ?_|refine Ai λX=>?_|refine Ay λY=>?_);refine AWP.adopt (d:=3) 58 2 rfl λK=>?_
 obtain⟨c,hc⟩:∃c:Nat,1+AP l 4=c:=⟨(1+AP l 4).toNat,by omega⟩;obtain⟨l0,hl0⟩:∃l0,AG l 4=l0:=⟨_,rfl⟩;have hg:AJ l=kAt c l0:=by rw[B9,hl0,show(1+AP l 4).toNat=c from by omega]
 rw[hg,hl0,hc];have hc4:1<=c/\c<=4:=by omega
 clear hg hl0 hc h0;refine Ek (λ(i K:Nat) (M:List AV) (q:List Int)=>⟨[(0,.ptr G 0 0),(3,.sl K 0 i),(10,iA c),(11,iA i)],(K,.row 58 2 M)::(G,Ax q)::Sf⟩) (λi _ M q=>i<=c/\M=(kAt i l0).1.map (AU false)/\M.length=i/\q=(kAt i l0).2) (λi _ _ _=>c-i) 0 K [] l0 ⟨Nat.zero_le _,rfl,rfl,rfl⟩ ?_;rintro i K M q ⟨hi,hM,hMl,hq⟩;(repeat first|refine WK ?_|refine Ai λX=>?_|refine Ay λY=>?_);refine AWP.cond rfl (λhb=>?_) (λhb=>?_)
 ·have h:i<c:=by rw[decide_eq_true_eq]at hb;omega
  have h4:i<4:=by omega
  have h3:=AI q (n:=3) (by decide);have hkn:=J2 h4;(repeat first|(refine AOps.gN ?_;first|(refine AOps.g_callf ?_;first|refine AOps.o2 (h:=(A1 G _ _ (by decide))) (k:=?_)))|refine WK ?_|refine Ai λY=>?_|refine Ay λY=>?_);refine AWP.adoptIn (Y:=Y) 39 3 .here (λF=>.cons (.agg (.cons .same (.cons (.base .nil) .nil))) .nil) λF=>?_
  obtain⟨l1,hl1⟩:∃l1,AG q 3=l1:=⟨_,rfl⟩;obtain⟨c1,hc1⟩:∃c1:Nat,1+AP q 3=c1:=⟨(1+AP q 3).toNat,by omega⟩
  have hgk:kAt (i+1) l0=((kAt i l0).1++[⟨Bf i,(fAt c1 l1).1⟩],(fAt c1 l1).2):=by
   rw[kAt,<-hq,BU,Dg,show(1+AP q 3).toNat=c1 from by omega,hl1]
  rw[hl1,hc1];have hc13:c1<=3:=by omega
  refine Ek (λ(j F:Nat) (L:List AV) (r:List Int)=>⟨[(0,.ptr G 0 0),(3,.sl K 0 i),(5,.ptr Y 0 0),(10,iA c),(11,iA i),(21,iA c1),(22,iA j)],(F,.row 39 3 L)::(Y,.row 58 2 [.agg [sA (Bf i),.sl F 0 j]])::(K,.row 58 2 M)::(G,Ax r)::Sf⟩) (λj _ L r=>j<=c1/\L=(fAt j l1).1.map fieldA/\L.length=j/\r=(fAt j l1).2) (λj _ _ _=>c1-j) 0 F [] l1 ⟨Nat.zero_le _,rfl,rfl,rfl⟩ ?_;rintro j F L r ⟨hj,hL,hLl,hr⟩;(repeat first|refine WK ?_|refine Ai λX=>?_|refine Ay λY=>?_);refine AWP.cond rfl (λhd=>?_) (λhd=>?_)
  ·have hj':j<c1:=by rw[decide_eq_true_eq]at hd;omega
   have h9:=AI r (n:=9) (by decide);have h40:=AI (AG r 9) (n:=40) (by decide);have hfn:=KH (i:=j) (by omega);(repeat first|refine WK ?_|refine Ai λX=>?_|refine Ay λY=>?_);refine AWP.rs λX7=>?_
   refine RU ?_;(repeat first|(refine RGo.gN ?_;first|(refine RGo.g_callf ?_;first|refine RGo.o2 (h:=(A1 G _ _ (by decide))) (k:=?_)))|(refine AX ?_;first|(refine RGo.g_callf ?_;first|refine RGo.o2 (h:=(A1 G _ _ (by decide))) (k:=?_)))|refine RK ?_|refine RGo.nil (by kernel_rfl) ?_);(repeat first|(refine AOps.gN ?_;first|(refine AOps.g_callf ?_;first|refine AOps.o2 (h:=(A1 G _ _ (by decide))) (k:=?_)))|refine WK ?_|refine Ai λX=>?_|refine Ay λY=>?_);refine AWP.cond rfl (λhe=>?_) (λhe=>?_)
   ·have he:AP (AG (AG r 9) 40) 8=7:=by simpa using he
    have hg:A7 j r=(⟨BB j,32,-2147483648⟩,AG (AG (AG r 9) 40) 8):=by rw[A7,if_pos he]
    (repeat first|(refine AOps.gN ?_;first|(refine AOps.g_lit ?_;refine AOps.goL (fieldA ⟨BB j,32,-2147483648⟩) ?_))|refine WK ?_|refine Ai λX=>?_|refine Ay λY=>?_);refine Co (j+1) Y _ _ ⟨hj',?_,?_,?_⟩
    ·rw[fAt,<-hr,hg,hL,List.map_append];rfl
    ·rw[List.length_append,hLl];rfl
    ·rw[fAt,<-hr,hg]
   ·have he:AP (AG (AG r 9) 40) 8≠7:=by simpa using he
    have hg:A7 j r=(⟨BB j,1+AP r 9,AP (AG r 9) 40-30⟩,AG (AG (AG r 9) 40) 8):=by rw[A7,if_neg he]
    (repeat first|(refine AOps.gN ?_;first|(refine AOps.g_lit ?_;refine AOps.goL (fieldA ⟨BB j,1+AP r 9,AP (AG r 9) 40-30⟩) ?_))|refine WK ?_|refine Ai λX=>?_|refine Ay λY=>?_);refine Co (j+1) Y _ _ ⟨hj',?_,?_,?_⟩
    ·rw[fAt,<-hr,hg,hL,List.map_append];rfl
    ·rw[List.length_append,hLl];rfl
    ·rw[fAt,<-hr,hg]
  ·have hj':j=c1:=by rw[decide_eq_false_iff_not]at hd;omega
   subst hj';refine FL ?_;refine AWP.iceIn (X:=F) (Y:=Y) .here (.next .here) rfl (.cons (.agg (.cons .same (.cons (.base (.sl (by omega))) .nil))) .nil) ?_
   have hF:AV.frzs ((L.drop 0).take j)=(fAt j l1).1.map fieldA:=by
    rw[List.drop_zero,List.take_of_length_le (by omega),hL];exact Frzs.h
   rw[hF];(repeat first|(refine AOps.gN ?_;first|(refine AOps.g_lit ?_;refine AOps.goL (AU false ⟨Bf i,(fAt j l1).1⟩) ?_))|refine WK ?_|refine Ai λX=>?_|refine Ay λY=>?_);refine Co (i+1) Y _ _ ⟨h,?_,?_,?_⟩
   ·rw[hgk,hM,List.map_append];rfl
   ·rw[List.length_append,hMl];rfl
   ·rw[hgk,hr]
 ·have h:i=c:=by rw[decide_eq_false_iff_not]at hb;omega
  subst h;(repeat first|refine WK ?_|refine Ai λX=>?_|refine Ay λY=>?_);refine RT ?_;subst hM hq;refine⟨[.sl K 0 i],[.lst true 58 2 ((kAt i l0).1.map (AU false))],_,[(G,Ax (kAt i l0).2)],.cons (.tmp rfl) rfl .nil,.cons (.cell (.sl (p:=0) .here (by rw[List.length_map,JF]))) .nil,by exact Sub.f,rfl,rfl⟩
theorem F9(a b:List Int)(hl:a.length<=1099511627776):PS Try.prog 11 [Af false a,Af false b] (bA (decide (a=b))):=by
 refine AC (nt:=26) (res:=[.tmp 4]) Try.func11 rfl (by kernel_rfl) rfl rfl rfl λSf=>?_
 (repeat first|refine WK ?_|refine Ai λX=>?_|refine Ay λY=>?_);refine AWP.cond rfl (λhb=>?_) (λhb=>?_)
 ·have hb:a.length≠b.length:=by simp at hb;omega
  (repeat first|refine WK ?_|refine Ai λX=>?_|refine Ay λY=>?_);refine RT ?_;refine AF ?_;rw[decide_eq_false λe=>hb (by rw[e])]
 ·have hb:a.length=b.length:=by simp at hb;omega
  (repeat first|refine WK ?_|refine Ai λX=>?_|refine Ay λY=>?_);refine Bq (λi:Nat=>⟨[(0,Af false a),(1,Af false b),(12,iA (a.map iA).length),(13,iA i)],Sf⟩) (λi=>i<=a.length/\∀j (h:j<a.length),j<i->a[j]=b[j]'(by omega)) (λi=>a.length-i) 0 ⟨Nat.zero_le _,λj h hj=>absurd hj (by omega)⟩ ?_;rintro i ⟨hi,he⟩;(repeat first|refine WK ?_|refine Ai λX=>?_|refine Ay λY=>?_);refine AWP.cond rfl (λhc=>?_) (λhc=>?_)
  ·have h:i<a.length:=by simpa using hc
   have h':i<b.length:=by omega
   (repeat first|refine WK ?_|refine Ai λX=>?_|refine Ay λY=>?_);refine RU ?_;(repeat first|refine RK ?_|refine RGo.nil (by kernel_rfl) ?_);(repeat first|refine WK ?_|refine Ai λX=>?_|refine Ay λY=>?_);refine AWP.cond rfl (λhd=>?_) (λhd=>?_)
   ·have hd:a[i]≠b[i]:=by simpa using hd
    (repeat first|refine WK ?_|refine Ai λX=>?_|refine Ay λY=>?_);refine RT ?_;refine AF ?_;rw[decide_eq_false λe=>hd (by subst e;rfl)]
   ·have hd:a[i]=b[i]:=by simpa using hd
    (repeat first|refine WK ?_|refine Ai λX=>?_|refine Ay λY=>?_);refine Br (i+1) ⟨h,λj h1 h2=>?_⟩;by_cases e:j=i
    ·subst e;exact hd
    ·exact he j h1 (by omega)
  ·have h:¬i<a.length:=by simpa using hc
   (repeat first|refine WK ?_|refine Ai λX=>?_|refine Ay λY=>?_);refine RT ?_;refine AF ?_;rw[decide_eq_true (List.ext_getElem hb λj h1 h2=>he j h1 (by omega))]
def eqF{α:Type}(p:α->α->Bool):List α->List α->Bool
 |[],[]=>true
 |x::xs,y::ys=>p x y&&eqF p xs ys
 |_,_=>false
theorem Gl{α:Type}{p:α->α->Bool}:{a b:List α}->a.length≠b.length->eqF p a b=false
 |[],[],h=>absurd rfl h
 |[],_::_,_=>rfl
 |_::_,[],_=>rfl
 |x::xs,y::ys,h=>by rw[eqF,Gl (by simpa using h),Bool.and_false]
theorem Ij{α:Type}{p:α->α->Bool}:{a b:List α}->(hl:a.length=b.length)->{i:Nat}->(h:i<a.length)->p a[i] (b[i]'(by omega))=false->eqF p a b=false
 |[],_,_,_,h,_=>absurd h (by simp)
 |x::xs,[],hl,_,_,_=>by simp at hl
 |x::xs,y::ys,hl,0,h,hp=>by rw[eqF,show p x y=false from hp,Bool.false_and]
 |x::xs,y::ys,hl,i+1,h,hp=>by
  rw[eqF,Ij (a:=xs) (b:=ys) (by simpa using hl) (i:=i) (by simpa using h) hp,Bool.and_false]
theorem Gk{α:Type}{p:α->α->Bool}:{a b:List α}->(hl:a.length=b.length)->(∀i (h:i<a.length),p a[i] (b[i]'(by omega))=true)->eqF p a b=true
 |[],[],_,_=>rfl
 |[],_::_,hl,_=>by simp at hl
 |x::xs,[],hl,_=>by simp at hl
 |x::xs,y::ys,hl,h=>by
  rw[eqF,show p x y=true from h 0 (by simp),Gk (a:=xs) (b:=ys) (by simpa using hl) λi hi=>h (i+1) (by simpa using hi)];rfl
theorem Ik{α:Type}{p:α->α->Bool}[DecidableEq α]:{a b:List α}->(∀x∈a,∀y∈b,p x y=decide (x=y))->eqF p a b=decide (a=b)
 |[],[],_=>rfl
 |[],_::_,_=>rfl
 |_::_,[],_=>rfl
 |x::xs,y::ys,h=>by
  rw[eqF,h x (by simp) y (by simp),Ik λu hu v hv=>h u (by simp[hu]) v (by simp[hv])];by_cases e:x=y<;>by_cases e2:xs=ys<;>simp[e,e2]
theorem Fo(a b:List Comp)(f:FuncId)(cap:List AV)(p:Comp->Comp->Bool)(hs:BN cap=true)(hl:a.length<=4611686018427387904)(hf:∀x∈a,∀y∈b,PS Try.prog f ((AE false) x::(AE false) y::cap) (bA (p x y))):
  PS Try.prog 66 [.lst false 55 2 (a.map (AE false)),.lst false 55 2 (b.map (AE false)),.fn f cap] (bA (eqF p a b)):=by
 refine AC (nt:=32) (res:=[.tmp 6]) Try.func66 rfl (by kernel_rfl) rfl rfl rfl λSf=>?_
 (repeat first|refine WK ?_|refine Ai λX=>?_|refine Ay λY=>?_);refine AWP.cond rfl (λhb=>?_) (λhb=>?_)
 ·have hb:a.length≠b.length:=by simp at hb;omega
  (repeat first|refine WK ?_|refine Ai λX=>?_|refine Ay λY=>?_);refine RT ?_;refine AF ?_;rw[Gl hb]
 ·have hb:a.length=b.length:=by simp at hb;omega
  (repeat first|refine WK ?_|refine Ai λX=>?_|refine Ay λY=>?_);refine Bq (λi:Nat=>⟨[(0,.lst false 55 2 (a.map (AE false))),(1,.lst false 55 2 (b.map (AE false))),(2,.fn f cap),(15,.lst false 55 2 (a.map (AE false))),(16,iA (a.map (AE false)).length),(17,iA i)],Sf⟩) (λi=>i<=a.length/\∀j (h:j<a.length),j<i->p a[j] (b[j]'(by omega))=true) (λi=>a.length-i) 0 ⟨Nat.zero_le _,λj h hj=>absurd hj (by omega)⟩ ?_;rintro i ⟨hi,he⟩;(repeat first|refine WK ?_|refine Ai λX=>?_|refine Ay λY=>?_);refine AWP.cond rfl (λhc=>?_) (λhc=>?_)
  ·have h:i<a.length:=by simpa using hc
   have h':i<b.length:=by omega
   (repeat first|(refine AOps.gN ?_;first|(refine AOps.g_callv ?_;first|refine AOps.k2 (h:=(hf _ (List.getElem_mem h) _ (List.getElem_mem h'))) (k:=?_)))|refine WK ?_|refine Ai λX=>?_|refine Ay λY=>?_);refine AWP.cond rfl (λhd=>?_) (λhd=>?_)
   ·have hd:p a[i] b[i]=false:=by simpa using hd
    (repeat first|refine WK ?_|refine Ai λX=>?_|refine Ay λY=>?_);refine RT ?_;refine AF ?_;rw[Ij hb h hd]
   ·have hd:p a[i] b[i]=true:=by simpa using hd
    (repeat first|refine WK ?_|refine Ai λX=>?_|refine Ay λY=>?_);refine Br (i+1) ⟨h,λj h1 h2=>?_⟩;by_cases e:j=i
    ·subst e;exact hd
    ·exact he j h1 (by omega)
  ·have h:¬i<a.length:=by simpa using hc
   (repeat first|refine WK ?_|refine Ai λX=>?_|refine Ay λY=>?_);refine RT ?_;refine AF ?_;rw[Gk hb λj hj=>he j hj (by omega)]
theorem Fm(a b:List Item)(f:FuncId)(cap:List AV)(p:Item->Item->Bool)(hs:BN cap=true)(hl:a.length<=4611686018427387904)(hf:∀x∈a,∀y∈b,PS Try.prog f ((AH false) x::(AH false) y::cap) (bA (p x y))):
  PS Try.prog 45 [.lst false 53 3 (a.map (AH false)),.lst false 53 3 (b.map (AH false)),.fn f cap] (bA (eqF p a b)):=by
 refine AC (nt:=32) (res:=[.tmp 6]) Try.func45 rfl (by kernel_rfl) rfl rfl rfl λSf=>?_
 (repeat first|refine WK ?_|refine Ai λX=>?_|refine Ay λY=>?_);refine AWP.cond rfl (λhb=>?_) (λhb=>?_)
 ·have hb:a.length≠b.length:=by simp at hb;omega
  (repeat first|refine WK ?_|refine Ai λX=>?_|refine Ay λY=>?_);refine RT ?_;refine AF ?_;rw[Gl hb]
 ·have hb:a.length=b.length:=by simp at hb;omega
  (repeat first|refine WK ?_|refine Ai λX=>?_|refine Ay λY=>?_);refine Bq (λi:Nat=>⟨[(0,.lst false 53 3 (a.map (AH false))),(1,.lst false 53 3 (b.map (AH false))),(2,.fn f cap),(15,.lst false 53 3 (a.map (AH false))),(16,iA (a.map (AH false)).length),(17,iA i)],Sf⟩) (λi=>i<=a.length/\∀j (h:j<a.length),j<i->p a[j] (b[j]'(by omega))=true) (λi=>a.length-i) 0 ⟨Nat.zero_le _,λj h hj=>absurd hj (by omega)⟩ ?_;rintro i ⟨hi,he⟩;(repeat first|refine WK ?_|refine Ai λX=>?_|refine Ay λY=>?_);refine AWP.cond rfl (λhc=>?_) (λhc=>?_)
  ·have h:i<a.length:=by simpa using hc
   have h':i<b.length:=by omega
   (repeat first|(refine AOps.gN ?_;first|(refine AOps.g_callv ?_;first|refine AOps.k2 (h:=(hf _ (List.getElem_mem h) _ (List.getElem_mem h'))) (k:=?_)))|refine WK ?_|refine Ai λX=>?_|refine Ay λY=>?_);refine AWP.cond rfl (λhd=>?_) (λhd=>?_)
   ·have hd:p a[i] b[i]=false:=by simpa using hd
    (repeat first|refine WK ?_|refine Ai λX=>?_|refine Ay λY=>?_);refine RT ?_;refine AF ?_;rw[Ij hb h hd]
   ·have hd:p a[i] b[i]=true:=by simpa using hd
    (repeat first|refine WK ?_|refine Ai λX=>?_|refine Ay λY=>?_);refine Br (i+1) ⟨h,λj h1 h2=>?_⟩;by_cases e:j=i
    ·subst e;exact hd
    ·exact he j h1 (by omega)
  ·have h:¬i<a.length:=by simpa using hc
   (repeat first|refine WK ?_|refine Ai λX=>?_|refine Ay λY=>?_);refine RT ?_;refine AF ?_;rw[Gk hb λj hj=>he j hj (by omega)]
theorem Hu(f g:Field)(w:World):(binOp .neq 39 (.agg [BT f.name,.int .i64 f.bits,.int .i64 f.low].toArray) (.agg [BT g.name,.int .i64 g.bits,.int .i64 g.low].toArray)).run Try.prog w= .ok (.bool (decide (f≠g))) w:=by
 have h:=LN (P:=Try.prog) (t:=39) (by kernel_rfl) (by kernel_rfl) (by kernel_rfl) ⟨f.name.toArray⟩ ⟨g.name.toArray⟩ f.bits f.low g.bits g.low w;rw[run_neq_struct];have e:(Op.equalIn 10000 39 (.agg [BT f.name,.int .i64 f.bits,.int .i64 f.low].toArray) (.agg [BT g.name,.int .i64 g.bits,.int .i64 g.low].toArray)).run Try.prog w=_:=h;rw[e,Result.andThen_ok,Cy,Cy]
 have hd:(!(decide (f.name=g.name)&&decide (f.bits=g.bits)&&decide (f.low=g.low)))=decide (f≠g):=by
  obtain⟨n,b,l⟩:=f;obtain⟨n',b',l'⟩:=g;rw[Bool.eq_iff_iff];simp[or_assoc]
 rw[hd]
def KsL(ks:List Kind):Prop:=ks.length<=1099511627776/\∀k∈ks,k.fields.length<=1099511627776
def CsL(cs:List Comp):Prop:=cs.length<=1099511627776/\∀c∈cs,c.vals.length<=1099511627776
def ItL(l:List Item):Prop:=l.length<=1099511627776/\∀it∈l,CsL it.comps
structure WdL(w:Wd):Prop where
 ks:KsL w.kinds
 gens:w.gens.length<=1099511627776
 items:ItL w.items
theorem Hg(a b:List Kind)(hl:KsL a):PS Try.prog 44 [AS false false a,AS false false b] (bA (decide (a=b))):=by
 refine AC (nt:=71) (res:=[.tmp 4]) Try.func44 rfl (by kernel_rfl) rfl rfl rfl λSf=>?_
 obtain⟨hl0,hl1⟩:=hl;(repeat first|refine WK ?_|refine Ai λX=>?_|refine Ay λY=>?_);refine AWP.cond rfl (λhb=>?_) (λhb=>?_)
 ·have hb:a.length≠b.length:=by simp at hb;omega
  (repeat first|refine WK ?_|refine Ai λX=>?_|refine Ay λY=>?_);refine RT ?_;refine AF ?_;rw[decide_eq_false λe=>hb (by rw[e])]
 ·have hb:a.length=b.length:=by simp at hb;omega
  (repeat first|refine WK ?_|refine Ai λX=>?_|refine Ay λY=>?_);refine Bq (λi:Nat=>⟨[(0,AS false false a),(1,AS false false b),(13,iA (a.map (AU false)).length),(14,iA i)],Sf⟩) (λi=>i<=a.length/\∀j (h:j<a.length),j<i->a[j]=b[j]'(by omega)) (λi=>a.length-i) 0 ⟨Nat.zero_le _,λj h hj=>absurd hj (by omega)⟩ ?_;rintro i ⟨hi,he⟩;(repeat first|refine WK ?_|refine Ai λX=>?_|refine Ay λY=>?_);refine AWP.cond rfl (λhc=>?_) (λhc=>?_)
  ·have h:i<a.length:=by simpa using hc
   have h':i<b.length:=by omega
   obtain⟨x,hx⟩:∃x,a[i]=x:=⟨_,rfl⟩;obtain⟨y,hy⟩:∃y,b[i]=y:=⟨_,rfl⟩;have hax:(a.map (AU false))[i]?=some (AU false x):=by rw[List.getElem?_map,List.getElem?_eq_getElem h,hx];rfl
   have hay:(b.map (AU false))[i]?=some (AU false y):=by rw[List.getElem?_map,List.getElem?_eq_getElem h',hy];rfl
   have hxl:=hl1 x (hx▸List.getElem_mem h);have hno:¬x=y->¬a=b:=λhn e=>hn (by subst e;rw[<-hx,<-hy])
   (repeat first|refine WK ?_|refine Ai λX=>?_|refine Ay λY=>?_);refine RU ?_;(repeat first|refine RK ?_|refine RGo.nil (by kernel_rfl) ?_);refine AWP.cond rfl (λhd=>?_) (λhd=>?_)
   ·(repeat first|refine WK ?_|refine Ai λX=>?_|refine Ay λY=>?_)
    refine RT ?_;refine AF ?_;rw[decide_eq_false (hno λe=>by subst e;simp at hd)]
   ·have hd:x.name=y.name/\x.fields.length=y.fields.length:=by simp at hd;exact⟨hd.1,by omega⟩
    obtain⟨hd1,hd2⟩:=hd;(repeat first|refine WK ?_|refine Ai λX=>?_|refine Ay λY=>?_);refine Bq (λq:Nat=>⟨[(0,AS false false a),(1,AS false false b),(5,iA i),(13,iA (a.map (AU false)).length),(14,iA i),(48,iA (x.fields.map fieldA).length),(49,iA q)],Sf⟩) (λq=>q<=x.fields.length/\∀j (h:j<x.fields.length),j<q->x.fields[j]=y.fields[j]'(by omega)) (λq=>x.fields.length-q) 0 ⟨Nat.zero_le _,λj h hj=>absurd hj (by omega)⟩ ?_;rintro q ⟨hq,hqe⟩;(repeat first|refine WK ?_|refine Ai λX=>?_|refine Ay λY=>?_);refine AWP.cond rfl (λhg=>?_) (λhg=>?_)
    ·have hqx:q<x.fields.length:=by simpa using hg
     have hqy:q<y.fields.length:=by omega
     obtain⟨f,hf⟩:∃f,x.fields[q]=f:=⟨_,rfl⟩;obtain⟨g,hgf⟩:∃g,y.fields[q]=g:=⟨_,rfl⟩;have haf:(x.fields.map fieldA)[q]?=some (fieldA f):=by rw[List.getElem?_map,List.getElem?_eq_getElem hqx,hf];rfl
     have hag:(y.fields.map fieldA)[q]?=some (fieldA g):=by rw[List.getElem?_map,List.getElem?_eq_getElem hqy,hgf];rfl
     (repeat first|refine WK ?_|refine Ai λX=>?_|refine Ay λY=>?_);refine RU ?_;(repeat first|(refine RGo.gN ?_;first|refine RGo.p (W.neP _ _ (by kernel_rfl) (Hu f g) rfl rfl) rfl ?_)|(refine AX ?_;first|refine RGo.p (W.neP _ _ (by kernel_rfl) (Hu f g) rfl rfl) rfl ?_)|refine RK ?_|refine RGo.nil (by kernel_rfl) ?_);refine AWP.cond rfl (λhn=>?_) (λhn=>?_)
     ·have hn:f≠g:=by simpa using hn
      (repeat first|refine WK ?_|refine Ai λX=>?_|refine Ay λY=>?_);refine RT ?_;refine AF ?_;rw[decide_eq_false (hno λe=>hn (by subst e;rw[<-hf,<-hgf]))]
     ·have hn:f=g:=by simpa using hn
      (repeat first|refine WK ?_|refine Ai λX=>?_|refine Ay λY=>?_);refine Br (q+1) ⟨hqx,λj h1 h2=>?_⟩;by_cases e:j=q
      ·subst e;rw[hf,hgf,hn]
      ·exact hqe j h1 (by omega)
    ·have hqx:¬q<x.fields.length:=by simpa using hg
     (repeat first|refine WK ?_|refine Ai λX=>?_|refine Ay λY=>?_);refine Br (i+1) ⟨h,λj h1 h2=>?_⟩;by_cases e:j=i
     ·subst e
      rw[hx,hy];have hfe:x.fields=y.fields:=List.ext_getElem hd2 λj h1 h2=>hqe j h1 (by omega)
      obtain⟨xn,xf⟩:=x;obtain⟨yn,yf⟩:=y;simp at hd1 hfe;rw[hd1,hfe]
     ·exact he j h1 (by omega)
  ·have h:¬i<a.length:=by simpa using hc
   (repeat first|refine WK ?_|refine Ai λX=>?_|refine Ay λY=>?_);refine RT ?_;refine AF ?_;rw[decide_eq_true (List.ext_getElem hb λj h1 h2=>he j h1 (by omega))]
theorem NA(x y:Comp):(decide (x.kind=y.kind)&&decide (x.vals=y.vals))=decide (x=y):=by
 obtain⟨k,v⟩:=x;obtain⟨k',v'⟩:=y;rw[Bool.eq_iff_iff];simp
theorem M4(x y:Item):(HM x.ent y.ent&&decide (x.comps=y.comps))=decide (x=y):=by
 rw[Jl];obtain⟨k,v⟩:=x;obtain⟨k',v'⟩:=y;rw[Bool.eq_iff_iff];simp
theorem Fa(x y:Comp)(hl:x.vals.length<=1099511627776):PS Try.prog 67 [AE false x,AE false y] (bA (decide (x=y))):=by
 have heq:=F9 x.vals y.vals hl;rw[<-NA];refine AC (nt:=17) (res:=[.tmp 4]) Try.func67 rfl (by kernel_rfl) rfl rfl rfl λSf=>?_
 refine RG ?_;(repeat first|(refine AOps.gN ?_;first|(refine AOps.g_box ?_;refine BG ?_))|refine WO ?_|refine Ai λX=>?_|refine Ay λY=>?_);refine NL ?_;rcases Bool.eq_false_or_eq_true (decide (x.kind=y.kind))with g|g
 ·rw[g]
  (repeat first|(refine AOps.gN ?_;first|(refine AOps.g_callf ?_;first|refine AOps.c2 (h:=(heq ..)) (k:=?_)))|refine WK ?_|refine Ai λX=>?_|refine Ay λY=>?_);refine RT ?_;refine AF ?_;rfl
 ·rw[g]
  (repeat first|refine WK ?_|refine Ai λX=>?_|refine Ay λY=>?_);refine RT ?_;refine AF ?_;rfl
theorem GR(a b:List Comp)(hl:CsL a):PS Try.prog 47 [Az false false a,Az false false b] (bA (decide (a=b))):=by
 have h:=Fo a b 67 [] (λx y=>decide (x=y)) rfl (by have:=hl.1;omega) (λx hx y _=>Fa x y (hl.2 x hx));rw[Ik λ_ _ _ _=>rfl]at h;refine AC (nt:=8) (res:=[.tmp 4]) Try.func47 rfl (by kernel_rfl) rfl rfl rfl λSf=>?_
 (repeat first|(refine AOps.gN ?_;first|(refine AOps.g_callf ?_;first|refine JV (h:=(h ..)) (k:=?_)))|refine WK ?_|refine Ai λX=>?_|refine Ay λY=>?_);refine RT ?_;refine AF ?_;rfl
theorem Kq(x y:Item)(hl:CsL x.comps):PS Try.prog 46 [AH false x,AH false y] (bA (decide (x=y))):=by
 have heq:=GR x.comps y.comps hl;rw[<-M4];refine AC (nt:=17) (res:=[.tmp 4]) Try.func46 rfl (by kernel_rfl) rfl rfl rfl λSf=>?_
 refine RG ?_;(repeat first|(refine AOps.gN ?_;first|(refine AOps.g_box ?_;refine BG ?_))|refine WO ?_|refine Ai λX=>?_|refine Ay λY=>?_);refine NL ?_;have hE:=Il x.ent.n x.ent.gen y.ent.n y.ent.gen;rw[show(decide (x.ent.n=y.ent.n)&&decide (x.ent.gen=y.ent.gen))=HM x.ent y.ent from rfl]at hE;cases hb:HM x.ent y.ent
 ·rw[hb]at hE
  (repeat first|(refine AOps.gN ?_;first|refine AOps.p (W.eqP _ _ (by kernel_rfl) hE rfl rfl) rfl ?_)|refine WK ?_|refine Ai λX=>?_|refine Ay λY=>?_);refine RT ?_;refine AF ?_;rfl
 ·rw[hb]at hE
  (repeat first|(refine AOps.gN ?_;first|(refine AOps.g_callf ?_;first|refine AOps.c2 (h:=(heq ..)) (k:=?_))|refine AOps.p (W.eqP _ _ (by kernel_rfl) hE rfl rfl) rfl ?_)|refine WK ?_|refine Ai λX=>?_|refine Ay λY=>?_);refine RT ?_;refine AF ?_;rfl
theorem Nf(x y:Wd):(decide (x.kinds=y.kinds)&&decide (x.gens=y.gens)&&decide (x.items=y.items))=decide (x=y):=by
 obtain⟨k,v,u⟩:=x;obtain⟨k',v',u'⟩:=y;rw[Bool.eq_iff_iff];simp[and_assoc]
set_option maxRecDepth 4000 in
theorem L3(a b:Wd)(hl:WdL a):PS Try.prog 20 [wdA false a,wdA false b] (bA (decide (a=b))):=by
 have h1:=Hg a.kinds b.kinds hl.ks;have h2:=F9 a.gens b.gens hl.gens;have h3:=Fm a.items b.items 46 [] (λx y=>decide (x=y)) rfl (by have:=hl.items.1;omega) (λx hx y _=>Kq x y (hl.items.2 x hx));rw[Ik λ_ _ _ _=>rfl]at h3;rw[<-Nf];refine AC (nt:=24) (res:=[.tmp 4]) Try.func20 rfl (by kernel_rfl) rfl rfl rfl λSf=>?_
 refine RG ?_;(repeat first|(refine AOps.gN ?_;first|(refine AOps.g_box ?_;refine BG ?_))|refine WO ?_|refine Ai λX=>?_|refine Ay λY=>?_);refine NL ?_;obtain⟨b1,e1⟩:∃b1,decide (a.kinds=b.kinds)=b1:=⟨_,rfl⟩;obtain⟨b2,e2⟩:∃b2,decide (a.gens=b.gens)=b2:=⟨_,rfl⟩;rw[e1]at h1⊢;rw[e2]at h2⊢;cases b1
 ·(repeat first|(refine AOps.gN ?_;first|(refine AOps.g_callf ?_;first|refine AOps.c2 (h:=(h1 ..)) (k:=?_)))|refine WK ?_|refine Ai λX=>?_|refine Ay λY=>?_)
  refine RT ?_;refine AF ?_;rfl
 ·cases b2
  ·(repeat first|(refine AOps.gN ?_;first|(refine AOps.g_callf ?_;first|refine AOps.c2 (h:=(h1 ..)) (k:=?_)|refine AOps.c2 (h:=(h2 ..)) (k:=?_)))|refine WK ?_|refine Ai λX=>?_|refine Ay λY=>?_)
   refine RT ?_;refine AF ?_;rfl
  ·(repeat first|(refine AOps.gN ?_;first|(refine AOps.g_callf ?_;first|refine AOps.c2 (h:=(h1 ..)) (k:=?_)|refine AOps.c2 (h:=(h2 ..)) (k:=?_)|refine JV (h:=(h3 ..)) (k:=?_)))|refine WK ?_|refine Ai λX=>?_|refine Ay λY=>?_)
   refine RT ?_;refine AF ?_;rfl
def B0(l:List Item)(n:Int):Bool:=l.any λit=>decide (it.ent.n=n)
def F5(w:Wd):Option Nat:=(List.range w.gens.length).find? λn=>!B0 w.items n&&decide (w.gens.getD n 0<1073741824)
def A9(w:Wd):Nat×Bool:=match F5 w with
 |some n=>(n,true)
 |none=>(w.gens.length,decide ((w.gens.length:Int)<256))
def Ck(l:List Item)(n:Nat):List Bool:=(List.range n).map λ(j:Nat)=>B0 l j
theorem Kf(l:List Item)(n:Nat):(Ck l n).length=n:=by simp[Ck]
theorem Iy{l:List Item}{n j:Nat}(h:j<n):((Ck l n).map bA)[j]?=some (bA (B0 l j)):=by
 simp[Ck,h]
theorem Ep{l:List Item}{i:Nat}(h:i<l.length)(n:Int):B0 (l.take (i+1)) n=(B0 (l.take i) n||decide (l[i].ent.n=n)):=by
 unfold B0;rw[List.take_succ_eq_append_getElem h,List.any_append];simp
theorem Ke{l:List Item}{i n j:Nat}(h:i<l.length)(e:l[i].ent.n=(j:Int)):((Ck (l.take i) n).map bA).set j (bA true)=(Ck (l.take (i+1)) n).map bA:=by
 rw[<-List.map_set]
 congr 1
 apply List.ext_getElem (by simp[Ck]);intro q h1 h2;rw[List.getElem_set];simp only[Ck,List.getElem_map,List.getElem_range];rw[Ep h,e];by_cases hq:j=q
 ·subst hq;simp
 ·rw[if_neg hq,decide_eq_false (p:=(j:Int)=q) (by omega),Bool.or_false]
theorem Fs{l:List Item}{i n:Nat}(h:i<l.length)(e:∀j<n,l[i].ent.n≠(j:Nat)):Ck (l.take i) n=Ck (l.take (i+1)) n:=by
 apply List.ext_getElem (by simp[Ck]);intro q h1 h2;simp only[Ck,List.getElem_map,List.getElem_range];rw[Ep h,decide_eq_false (e q (by simpa[Ck]using h1)),Bool.or_false]
set_option maxRecDepth 4000 in
theorem ML(w:Wd)(hg:w.gens.length<=1099511627776)(hi:w.items.length<=1099511627776):PS Try.prog 60 [wdA false w] (.tup [iA (A9 w).1,bA (A9 w).2]):=by
 obtain⟨ks,gens,items⟩:=w;dsimp only at hg hi;have hgm:(gens.map iA).length=gens.length:=List.length_map _;have him:(items.map (AH false)).length=items.length:=List.length_map _
 have hz0:List.replicate (gens.map iA).length (bA false)=(Ck (items.take 0) gens.length).map bA:=by
  rw[hgm];apply List.ext_getElem (by simp[Ck]);intro q h1 h2;simp[Ck,B0]
 have hfr:∀j,(∀q<j,(!B0 items (q:Nat)&&decide (gens.getD q 0<1073741824))=false)->j<gens.length->(!B0 items (j:Nat)&&decide (gens.getD j 0<1073741824))=true->A9 ⟨ks,gens,items⟩=(j,true):=by
  intro j h1 h2 h3
  have:F5 ⟨ks,gens,items⟩=some j:=by
   unfold F5;rw[List.find?_eq_some_iff_getElem];exact⟨h3,j,by simpa using h2,by simp,λq hq=>by have:=h1 q hq;simp only[List.getElem_range];rw[this];rfl⟩
  unfold A9;rw[this]
 have hfn:(∀q<gens.length,(!B0 items (q:Nat)&&decide (gens.getD q 0<1073741824))=false)->A9 ⟨ks,gens,items⟩=(gens.length,decide ((gens.length:Int)<256)):=by
  intro h1
  have:F5 ⟨ks,gens,items⟩=none:=by
   unfold F5;rw[List.find?_eq_none];intro q hq;have:=h1 q (by simpa using hq);rw[this];simp
  unfold A9;rw[this]
 refine AC (nt:=64) (res:=[.tmp 2,.tmp 3]) Try.func60 rfl (by kernel_rfl) rfl rfl rfl λSf=>?_
 refine RG ?_;(repeat first|(refine AOps.gN ?_;first|(refine AOps.g_box ?_;refine BG ?_))|refine WO ?_|refine Ai λX=>?_|refine Ay λY=>?_);refine NL ?_;(repeat first|(refine AOps.gN ?_;first|(refine CG ?_;refine Dn (bA false) λK=>?_))|refine WK ?_|refine Ai λK=>?_|refine Ay λY=>?_);rw[hz0];refine A3 (λ(i:Nat) (M:List AV)=>⟨[(1,.fp (wdA false ⟨ks,gens,items⟩).cells),(4,.sl K 0 (gens.map iA).length),(14,BJ false false items),(15,iA (items.map (AH false)).length),(16,iA i)],(K,.row 4 1 M)::Sf⟩) (λi M=>i<=items.length/\M=(Ck (items.take i) gens.length).map bA) (λi _=>items.length-i) 0 _ ⟨Nat.zero_le _,rfl⟩ ?_;rintro i M ⟨hil,hM⟩;have hMl:M.length=gens.length:=by rw[hM,List.length_map,Kf]
 (repeat first|refine WK ?_|refine Ai λX=>?_|refine Ay λY=>?_);refine AWP.cond rfl (λhc=>?_) (λhc=>?_)
 ·have h:i<items.length:=by rw[decide_eq_true_eq,him]at hc;omega
  obtain⟨⟨⟨en,eg⟩,cs⟩,hit⟩:∃it,items[i]=it:=⟨_,rfl⟩;have hat:(items.map (AH false))[i]?=some (AH false ⟨⟨en,eg⟩,cs⟩):=by rw[List.getElem?_map,List.getElem?_eq_getElem h,hit];rfl
  (repeat first|refine WK ?_|refine Ai λV=>?_|refine Ay λY=>?_);rcases Bool.eq_false_or_eq_true (decide ((0:Int)<=en))with g1|g1
  ·obtain⟨n,rfl⟩:∃n:Nat,en=n:=⟨en.toNat,by rw[decide_eq_true_eq]at g1;omega⟩
   rcases Bool.eq_false_or_eq_true (decide ((n:Int)<((gens.map iA).length:Nat)))with g2|g2
   ·have hng:n<gens.length:=by rw[decide_eq_true_eq,hgm]at g2;omega
    have hMat:M[n]?=some (bA (B0 (items.take i) n)):=by rw[hM];exact Iy hng
    have hlt:n<(gens.map iA).length:=by omega
    (repeat first|refine WK ?_|refine Ai λX=>?_|refine Ay λY=>?_);refine Ac rfl (by first|rfl|assumption) ?_;(repeat first|refine WK ?_|refine Ai λX=>?_|refine Ay λY=>?_);refine Ae (i+1) _ ⟨h,?_⟩;rw[hM];exact Ke h (by rw[hit])
   ·(repeat first|refine WK ?_|refine Ai λX=>?_|refine Ay λY=>?_)
    refine AN rfl (by first|rfl|assumption) ?_;(repeat first|refine WK ?_|refine Ai λX=>?_|refine Ay λY=>?_);refine Ae (i+1) M ⟨h,?_⟩;rw[hM,Fs h λj hj=>by rw[hit];rw[decide_eq_false_iff_not,hgm]at g2;show(n:Int)≠j;omega]
  ·(repeat first|refine WK ?_|refine Ai λX=>?_|refine Ay λY=>?_)
   refine AN rfl (by show(decide ((0:Int)<=en)&&_)=false;rw[g1];rfl) ?_;(repeat first|refine WK ?_|refine Ai λX=>?_|refine Ay λY=>?_);refine Ae (i+1) M ⟨h,?_⟩;rw[hM,Fs h λj hj=>by rw[hit];rw[decide_eq_false_iff_not]at g1;show en≠j;omega]
 ·have h:i=items.length:=by rw[decide_eq_false_iff_not,him]at hc;omega
  rw[h,List.take_length]at hM;clear hz0 hc hil h;(repeat first|refine WK ?_|refine Ai λX=>?_|refine Ay λY=>?_);refine Bq (λ(j:Nat)=>⟨[(1,.fp (wdA false ⟨ks,gens,items⟩).cells),(4,.sl K 0 (gens.map iA).length),(39,Af false gens),(40,iA (gens.map iA).length),(41,iA j)],(K,.row 4 1 M)::Sf⟩) (λj=>j<=gens.length/\∀q<j,(!B0 items (q:Nat)&&decide (gens.getD q 0<1073741824))=false) (λj=>gens.length-j) 0 ⟨Nat.zero_le _,λq hq=>absurd hq (by omega)⟩ ?_;rintro j ⟨hj,hall⟩;(repeat first|refine WK ?_|refine Ai λX=>?_|refine Ay λY=>?_);refine AWP.cond rfl (λhc=>?_) (λhc=>?_)
  ·have h:j<gens.length:=by rw[decide_eq_true_eq,hgm]at hc;omega
   have hjm:j<(gens.map iA).length:=by omega
   obtain⟨x,hx⟩:∃x,gens[j]=x:=⟨_,rfl⟩;have hat:(gens.map iA)[j]?=some (iA x):=by rw[List.getElem?_map,List.getElem?_eq_getElem h,hx];rfl
   have hMat:M[j]?=some (bA (B0 items j)):=by rw[hM];exact Iy h
   have hgd:gens.getD j 0=x:=by simp[List.getD_eq_getElem?_getD,List.getElem?_eq_getElem h,hx]
   (repeat first|refine WK ?_|refine Ai λX=>?_|refine Ay λY=>?_);refine AWP.cond rfl (λhe=>?_) (λhe=>?_)
   ·rw[hfr j hall h (by rw[hgd];exact he)]
    (repeat first|refine WK ?_|refine Ai λX=>?_|refine Ay λY=>?_);refine RT ?_;exact⟨[iA j,bA true],[iA j,bA true],_,[],.cons (.tmp rfl) rfl (.cons (.tmp rfl) rfl .nil),.cons (.cell .same) (.cons (.cell .same) .nil),by exact Sub.f,rfl,rfl⟩
   ·(repeat first|refine WK ?_|refine Ai λX=>?_|refine Ay λY=>?_)
    refine Br (j+1) ⟨h,λq hq=>?_⟩;by_cases e:q=j
    ·subst e;rw[hgd];exact he
    ·exact hall q (by omega)
  ·have h:j=gens.length:=by rw[decide_eq_false_iff_not,hgm]at hc;omega
   rw[h]at hall;rw[hfn hall,<-hgm];refine FL ?_;refine RU ?_;(repeat first|refine RK ?_|refine RGo.nil (by kernel_rfl) ?_);refine RT ?_;exact⟨[iA (gens.map iA).length,bA (decide (((gens.map iA).length:Int)<256))],[iA (gens.map iA).length,bA (decide (((gens.map iA).length:Int)<256))],_,[],.cons (.tmp rfl) rfl (.cons (.tmp rfl) rfl .nil),.cons (.cell .same) (.cons (.cell .same) .nil),by exact Sub.f,rfl,rfl⟩
theorem H0(s:List UInt8)(i:Nat):H1 s i=(decide ((97:Int)<=(s.getD i 0).toNat)&&decide (((s.getD i 0).toNat:Int)<=122)||decide ((0:Int)<i)&&decide ((48:Int)<=(s.getD i 0).toNat)&&decide (((s.getD i 0).toNat:Int)<=57)):=by
 have h:∀a b:UInt8,decide (a<=b)=decide ((a.toNat:Int)<=b.toNat):=λa b=>by simp[UInt8.le_iff_toNat_le]
 have h0:decide (0<i)=decide ((0:Int)<i):=by simp
 simp only[H1,NQ,NW,h,h0,Bool.and_assoc];rfl
theorem JC(s:List UInt8):PS Try.prog 94 [sA s] (bA (A6 s)):=by
 refine AC (nt:=41) (res:=[.tmp 2]) Try.func94 rfl (by kernel_rfl) rfl rfl rfl λSf=>?_
 (repeat first|refine WK ?_|refine Ai λX=>?_|refine Ay λY=>?_);refine AWP.cond rfl (λhb=>?_) (λhb=>?_)
 ·(repeat first|refine WK ?_|refine Ai λX=>?_|refine Ay λY=>?_)
  refine RT ?_;refine AR rfl rfl (by exact Sub.f) ⟨?_,rfl⟩;rw[Hb s (by simp only[Bool.or_eq_true,decide_eq_true_eq]at hb;omega)]
 have hb1:s.length≠0/\s.length<=16:=by simp only[Bool.or_eq_false_iff,decide_eq_false_iff_not]at hb;omega
 (repeat first|refine A5 (λi:Nat=>⟨[(0,sA s),(14,iA s.length),(15,iA i)],Sf⟩) (λi=>i<=s.length/\∀j,j<i->H1 s j=true) (λi=>s.length-i) 0 ⟨by omega,by omega⟩ ⟨.cons rfl (.cons rfl (.cons rfl .nil)),List.Sublist.refl _⟩ ?_|refine WK ?_|refine Ai λX=>?_|refine Ay λY=>?_);rintro i ⟨hi,hn⟩;(repeat first|refine WK ?_|refine Ai λX=>?_|refine Ay λY=>?_);refine AWP.cond rfl (λhb=>?_) (λhb=>?_)
 ·have h:i<s.length:=by simpa using hb
  (repeat first|(refine AOps.gN ?_;first|refine AOps.p (W.idxStr rfl rfl rfl h) rfl ?_)|refine WK ?_|refine Ai λX=>?_|refine Ay λY=>?_);refine AWP.cond rfl (λhc=>?_) (λhc=>?_)
  ·(repeat first|refine WK ?_|refine Ai λX=>?_|refine Ay λY=>?_)
   refine RT ?_;refine AR rfl rfl (by exact Sub.f) ⟨?_,rfl⟩;rw[<-H0]at hc;rw[Jw s i h (by simpa using hc)]
  ·(repeat first|refine WK ?_|refine Ai λX=>?_|refine Ay λY=>?_)
   refine⟨i+1,⟨by omega,λj hj=>?_⟩,by omega,.cons rfl (.cons rfl (.cons rfl .nil)),by exact Sub.f⟩;rw[<-H0]at hc;by_cases e:j=i
   ·subst e;simpa using hc
   ·exact hn j (by omega)
 ·have h:¬i<s.length:=by simpa using hb
  (repeat first|refine WK ?_|refine Ai λX=>?_|refine Ay λY=>?_);refine RT ?_;refine AR rfl rfl (by exact Sub.f) ⟨?_,rfl⟩;rw[IS s (by omega) hb1.2 λj hj=>hn j (by omega)]
theorem FE(f:Field):PS Try.prog 95 [fieldA f] (iA (AK f)):=by
 refine AC (nt:=27) (res:=[.tmp 2]) Try.func95 rfl (by kernel_rfl) rfl rfl rfl λSf=>?_
 (repeat first|(refine AOps.gN ?_;first|refine AOps.p (W.call1 rfl (JC _) rfl) rfl ?_)|refine WK ?_|refine Ai λX=>?_|refine Ay λY=>?_);refine AWP.cond rfl (λhb=>?_) (λhb=>?_)
 ·(repeat first|refine WK ?_|refine Ai λX=>?_|refine Ay λY=>?_)
  refine RT ?_;refine AR rfl rfl (by exact Sub.f) ⟨?_,rfl⟩;rw[Hw f λhn hk=>?_];simp only[hn,Bool.not_true,Bool.false_or,Bool.or_eq_true,decide_eq_true_eq]at hb;omega
 ·(repeat first|refine WK ?_|refine Ai λX=>?_|refine Ay λY=>?_)
  refine RT ?_;refine AR rfl rfl (by exact Sub.f) ⟨?_,rfl⟩;simp only[Bool.or_eq_false_iff,Bool.not_eq_false',decide_eq_false_iff_not]at hb;rw[EN f hb.1.1.1.1 (by omega)]
theorem JI(f:Field):PS Try.prog 106 [fieldA f] (iA (Bg f)):=by
 refine AC (nt:=13) (res:=[.tmp 2]) Try.func106 rfl (by kernel_rfl) rfl rfl rfl λSf=>?_
 (repeat first|(refine AOps.gN ?_;first|refine AOps.p (W.call1 rfl (FE _) rfl) rfl ?_)|refine WK ?_|refine Ai λX=>?_|refine Ay λY=>?_);refine AWP.cond rfl (λhb=>?_) (λhb=>?_)
 ·have hb:AK f≠0:=by simpa using hb
  (repeat first|refine WK ?_|refine Ai λX=>?_|refine Ay λY=>?_);refine RT ?_;refine AR rfl rfl (by exact Sub.f) ⟨?_,rfl⟩;simp[Bg,hb]
 have hb:AK f=0:=by simpa using hb
 have h1:=(BV f).1 hb;obtain⟨n,hn⟩:∃n:Nat,f.bits=n:=⟨f.bits.toNat,by omega⟩
 have hp:(2:Int)^n<=4294967296/\1<=(2:Int)^n:=by
  have hn2:n<=32:=by omega
  clear hn;have:∀n,n<=32->(2:Int)^n<=4294967296/\1<=(2:Int)^n:=by decide
  exact this n hn2
 have hw:IntKind.i64.wrap (1*2^n)=2^n:=by rw[Int.one_mul];exact Ba (by omega) (by omega)
 (repeat first|refine WK ?_|refine Ai λX=>?_|refine Ay λY=>?_);refine RU ?_;(repeat first|(refine RGo.gN ?_;first|refine RGo.p (W.shl rfl rfl hn (by show n<=64;omega)) rfl ?_|refine RGo.p (W.sub rfl rfl (by rw[hw];omega)) rfl ?_|refine RGo.p (W.add rfl rfl (by rw[hw];omega)) rfl ?_)|(refine AX ?_;first|refine RGo.p (W.shl rfl rfl hn (by show n<=64;omega)) rfl ?_|refine RGo.p (W.sub rfl rfl (by rw[hw];omega)) rfl ?_|refine RGo.p (W.add rfl rfl (by rw[hw];omega)) rfl ?_)|refine RK ?_|refine RGo.nil (by kernel_rfl) ?_);(repeat first|refine WK ?_|refine Ai λX=>?_|refine Ay λY=>?_);refine RT ?_;refine AR rfl rfl (by exact Sub.f) ⟨?_,rfl⟩;simp only[hw];simp[Bg,hb,hn]
theorem JA(f:Field)(v:Int):PS Try.prog 98 [fieldA f,iA v] (iA (As f v)):=by
 refine AC (nt:=15) (res:=[.tmp 4]) Try.func98 rfl (by kernel_rfl) rfl rfl rfl λSf=>?_
 (repeat first|(refine AOps.gN ?_;first|refine AOps.p (W.call1 rfl (FE _) rfl) rfl ?_)|refine WK ?_|refine Ai λX=>?_|refine Ay λY=>?_);refine AWP.cond rfl (λhb=>?_) (λhb=>?_)
 ·have hb:AK f≠0:=by simpa using hb
  (repeat first|refine WK ?_|refine Ai λX=>?_|refine Ay λY=>?_);refine RT ?_;refine AR rfl rfl (by exact Sub.f) ⟨?_,rfl⟩;simp[As,hb]
 have hb:AK f=0:=by simpa using hb
 (repeat first|refine WK ?_|refine Ai λX=>?_|refine Ay λY=>?_);refine RU ?_;(repeat first|(refine RGo.gN ?_;first|refine RGo.p (W.call1 rfl (JI _) rfl) rfl ?_)|(refine AX ?_;first|refine RGo.p (W.call1 rfl (JI _) rfl) rfl ?_)|refine RK ?_|refine RGo.nil (by kernel_rfl) ?_);(repeat first|refine WK ?_|refine Ai λX=>?_|refine Ay λY=>?_);refine RT ?_;refine AR rfl rfl (by exact Sub.f) ⟨?_,rfl⟩;rw[show As f v=max f.low (min v (Bg f))from by simp[As,hb]];simp only[Int.max_def,Int.min_def]
 congr 2
 (repeat' split)<;>omega
theorem Kw(k:Kind):PS Try.prog 73 [AU false k] (iA (Aa k)):=by
 refine AC (nt:=45) (res:=[.tmp 2]) Try.func73 rfl (by kernel_rfl) rfl rfl rfl λSf=>?_
 (repeat first|(refine AOps.gN ?_;first|refine AOps.p (W.call1 rfl (JC _) rfl) rfl ?_|(refine AOps.rs λX1=>?_;refine AOps.s (W.box rfl .here rfl) rfl ?_))|refine WK ?_|refine Ai λX=>?_|refine Ay λY=>?_);refine AWP.cond rfl (λhb=>?_) (λhb=>?_)
 ·(repeat first|refine WK ?_|refine Ai λX=>?_|refine Ay λY=>?_)
  refine RT ?_;refine AR rfl rfl (by exact Sub.f) ⟨?_,rfl⟩;have hb:A6 k.name=false:=by simpa using hb
  rw[show Aa k=3 from by simp[Aa,hb]]
 have hn:A6 k.name=true:=by simpa using hb
 (repeat first|refine WK ?_|refine Ai λX=>?_|refine Ay λY=>?_);refine AWP.cond rfl (λhb=>?_) (λhb=>?_)
 ·(repeat first|refine WK ?_|refine Ai λX=>?_|refine Ay λY=>?_)
  refine RT ?_;refine AR rfl rfl (by exact Sub.f) ⟨?_,rfl⟩;have hb:8<k.fields.length:=by rw[decide_eq_true_eq,List.length_map]at hb;omega
  rw[show Aa k=2 from by simp[Aa,hn,hb]]
 have hl:k.fields.length<=8:=by rw[decide_eq_false_iff_not,List.length_map]at hb;omega
 have e1:Aa k=Ab [] k.fields:=by simp[Aa,hn];omega
 (repeat first|refine A5 (λi:Nat=>⟨[(1,.ptr X1 0 0),(17,Cc false k.fields),(18,iA (k.fields.map fieldA).length),(19,iA i)],(X1,.row 58 2 [AU false k])::Sf⟩) (λi=>i<=k.fields.length/\Ab [] k.fields=Ab (k.fields.take i) (k.fields.drop i)) (λi=>k.fields.length-i) 0 ⟨by omega,rfl⟩ ⟨.cons rfl (.cons rfl (.cons rfl (.cons rfl .nil))),by exact Sub.f⟩ ?_|refine WK ?_|refine Ai λX=>?_|refine Ay λY=>?_);rintro i ⟨hi,he⟩;(repeat first|refine WK ?_|refine Ai λX=>?_|refine Ay λY=>?_);refine AWP.cond rfl (λhb=>?_) (λhb=>?_)
 ·have h:i<k.fields.length:=by simpa using hb
  (repeat first|(refine AOps.gN ?_;first|refine AOps.p (W.idxL rfl rfl rfl (Aj _ h)) rfl ?_|refine AOps.p (W.call1 rfl (FE _) rfl) rfl ?_)|refine WK ?_|refine Ai λX=>?_|refine Ay λY=>?_);refine AWP.cond rfl (λhc=>?_) (λhc=>?_)
  ·have hc:AK k.fields[i]≠0:=by simpa using hc
   (repeat first|refine WK ?_|refine Ai λX=>?_|refine Ay λY=>?_);refine RT ?_;refine AR rfl rfl (by exact Sub.f) ⟨?_,rfl⟩;rw[e1,he,Cb h,Fl hc];rfl
  have hc:AK k.fields[i]=0:=by simpa using hc
  have hmt:((k.fields.map fieldA).take i).length=i:=by simp;omega
  (repeat first|(refine AOps.gN ?_;first|refine AOps.p (W.hiL rfl rfl rfl (by simp;omega)) rfl ?_)|refine A5 (λj:Nat=>⟨[(1,.ptr X1 0 0),(17,Cc false k.fields),(18,iA (k.fields.map fieldA).length),(19,iA i),(3,iA i),(4,.ptr X 0 0),(32,.lst false 39 3 ((k.fields.map fieldA).take i)),(33,iA ((k.fields.map fieldA).take i).length),(34,iA j)],(X,.row 39 3 [fieldA k.fields[i]])::(X1,.row 58 2 [AU false k])::Sf⟩) (λj=>j<=i/\∀q (hq:q<k.fields.length),q<j->k.fields[q].name≠k.fields[i].name) (λj=>i-j) 0 ⟨by omega,by omega⟩ ⟨.cons rfl (.cons rfl (.cons rfl (.cons rfl (.cons rfl (.cons rfl (.cons rfl (.cons rfl (.cons rfl .nil)))))))),by exact Sub.f⟩ ?_|refine WK ?_|refine Ai λX=>?_|refine Ay λY=>?_);rintro j ⟨hj,hne⟩;(repeat first|refine WK ?_|refine Ai λX=>?_|refine Ay λY=>?_);refine AWP.cond rfl (λhd=>?_) (λhd=>?_)
  ·have hd:j<i:=by rw[hmt]at hd;simpa using hd
   have hat:((k.fields.map fieldA).take i)[j]?=some (fieldA (k.fields[j]'(by omega))):=by rw[List.getElem?_take_of_lt hd];exact Aj _ _
   (repeat first|(refine AOps.gN ?_;first|refine AOps.p (W.idxL rfl rfl rfl hat) rfl ?_)|refine WK ?_|refine Ai λX=>?_|refine Ay λY=>?_);refine AWP.cond rfl (λhq=>?_) (λhq=>?_)
   ·have hq:(k.fields[j]'(by omega)).name=k.fields[i].name:=by simpa using hq
    (repeat first|refine WK ?_|refine Ai λX=>?_|refine Ay λY=>?_);refine RT ?_;refine AR rfl rfl (by exact Sub.f) ⟨?_,rfl⟩;rw[e1,he,Cb h,Eb hc (j:=j) (by simp;omega) (by simpa using hq)]
   ·have hq:(k.fields[j]'(by omega)).name≠k.fields[i].name:=by simpa using hq
    (repeat first|refine WK ?_|refine Ai λX=>?_|refine Ay λY=>?_);refine⟨j+1,⟨by omega,λq hq1 hq2=>?_⟩,by omega,.cons rfl (.cons rfl (.cons rfl (.cons rfl (.cons rfl (.cons rfl (.cons rfl (.cons rfl (.cons rfl .nil)))))))),by exact Sub.f⟩;by_cases e:q=j
    ·subst e;exact hq
    ·exact hne q hq1 (by omega)
  ·have hd:¬j<i:=by rw[hmt]at hd;simpa using hd
   (repeat first|refine WK ?_|refine Ai λX=>?_|refine Ay λY=>?_);refine⟨i+1,⟨by omega,?_⟩,by omega,.cons rfl (.cons rfl (.cons rfl (.cons rfl .nil))),by exact Sub.f⟩;rw[he,Cb h,FD hc λq hq=>?_,List.take_add_one,List.getElem?_eq_getElem h]
   ·rfl
   ·simp only[List.getElem_take]
    exact hne q (by simp at hq;omega) (by simp at hq;omega)
 ·have h:¬i<k.fields.length:=by simpa using hb
  (repeat first|refine WK ?_|refine Ai λX=>?_|refine Ay λY=>?_);refine RT ?_;refine AR rfl rfl (by exact Sub.f) ⟨?_,rfl⟩;rw[e1,he,Fk (by omega)]
theorem Ew{k:Kind}(h:Aa k=0):k.fields.length<=8:=by
 unfold Aa at h;split at h
 ·split at h
  ·cases h
  ·omega
 ·cases h
def D1(k:Kind)(vals:List Int)(i:Nat):List Int:=(List.zipWith As k.fields vals).take i++List.replicate (vals.length-i) 0
theorem JL{k:Kind}{vals:List Int}{i:Nat}(hl:vals.length=k.fields.length)(h:i<vals.length):((D1 k vals i).map iA)[i]?=some (iA 0):=by
 have hz:(List.zipWith As k.fields vals).length=vals.length:=by simp;omega
 rw[List.getElem?_map,D1,List.getElem?_append_right (by simp;omega)];rw[List.length_take,Nat.min_eq_left (by omega),Nat.sub_self,List.getElem?_replicate,if_pos (by omega)];rfl
theorem LK{k:Kind}{vals:List Int}{i:Nat}(hl:vals.length=k.fields.length)(h:i<vals.length):((D1 k vals i).map iA).set i (iA (As (k.fields[i]'(by omega)) vals[i]))=(D1 k vals (i+1)).map iA:=by
 have hz:(List.zipWith As k.fields vals).length=vals.length:=by simp;omega
 rw[<-List.map_set]
 congr 1
 unfold D1;rw[List.set_append_right _ _ (by simp;omega),List.length_take,Nat.min_eq_left (by omega),Nat.sub_self];rw[show vals.length-i=(vals.length-(i+1))+1 from by omega,List.replicate_succ,List.set_cons_zero];rw[List.take_add_one,List.getElem?_eq_getElem (by omega),List.append_assoc];simp
theorem LI(k:Kind)(vals:List Int):PS Try.prog 78 [AU false k,Af false vals] (.tup [Af true (Ak k vals).1,iA (Ak k vals).2]):=by
 refine AC (nt:=43) (res:=[.tmp 4,.tmp 5]) Try.func78 rfl (by kernel_rfl) rfl rfl rfl λSf=>?_
 (repeat first|(refine AOps.gN ?_;first|refine AOps.p (W.call1 rfl (Kw _) rfl) rfl ?_|(refine AOps.rs λB=>?_;refine AOps.s (W.box rfl .here rfl) rfl ?_))|refine WK ?_|refine Ai λX=>?_|refine Ay λY=>?_);refine AWP.cond rfl (λhb=>?_) (λhb=>?_)
 ·have hb:Aa k≠0:=by simpa using hb
  (repeat first|refine WK ?_|refine Ai λX=>?_|refine Ay λY=>?_);refine RT ?_;rw[show Ak k vals=([],Aa k)from by simp[Ak,hb]];exact⟨[.prim (.slice none 0 0),iA (Aa k)],[Af true [],iA (Aa k)],_,[],.cons (.tmp rfl) rfl (.cons (.tmp rfl) rfl .nil),.cons (.cell .nil) (.cons (.cell .same) .nil),by exact Sub.f,rfl,rfl⟩
 have hk:Aa k=0:=by simpa using hb
 have h8:=Ew hk;(repeat first|refine WK ?_|refine Ai λX=>?_|refine Ay λY=>?_);refine AWP.cond rfl (λhb=>?_) (λhb=>?_)
 ·have hb:vals.length≠k.fields.length:=by rw[decide_eq_true_eq,List.length_map,List.length_map]at hb;omega
  (repeat first|refine WK ?_|refine Ai λX=>?_|refine Ay λY=>?_);refine RT ?_;rw[show Ak k vals=([],1)from by simp[Ak,hk,hb]];exact⟨[.prim (.slice none 0 0),iA 1],[Af true [],iA 1],_,[],.cons (.tmp rfl) rfl (.cons (.tmp rfl) rfl .nil),.cons (.cell .nil) (.cons (.cell .same) .nil),by exact Sub.f,rfl,rfl⟩
 have hl:vals.length=k.fields.length:=by rw[decide_eq_false_iff_not,List.length_map,List.length_map]at hb;omega
 have hv:(vals.map iA).length<=8:=by simp;omega
 have hz:List.replicate (vals.map iA).length (zAV [.int .i64 0] false)=(D1 k vals 0).map iA:=by simp[D1];exact .inr rfl
 (repeat first|(refine AOps.gN ?_;first|(refine AOps.rs λXL=>?_;refine AOps.s (W.make rfl rfl .here rfl (.inr rfl) rfl rfl (Nat.le_refl _) (by omega) (Nat.le_trans hv (by decide))) rfl ?_))|refine A5 (λi:Nat=>⟨[(1,Af false vals),(7,.sl XL 0 (vals.map iA).length),(25,Cc false k.fields),(26,iA (k.fields.map fieldA).length),(27,iA i)],(XL,.row 3 1 ((D1 k vals i).map iA))::(B,.row 58 2 [AU false k])::Sf⟩) (λi=>i<=vals.length) (λi=>vals.length-i) 0 (Nat.zero_le _) ⟨.cons rfl (.cons rfl (.cons rfl (.cons rfl (.cons rfl .nil)))),(by show List.Sublist ((XL,.row 3 1 ((D1 k vals 0).map iA))::(B,.row 58 2 [AU false k])::Sf) _;rw[<-hz];exact Sub.f)⟩ ?_|refine WK ?_|refine Ai λX=>?_|refine Ay λY=>?_);rintro i hi;(repeat first|refine WK ?_|refine Ai λX=>?_|refine Ay λY=>?_);refine AWP.cond rfl (λhb=>?_) (λhb=>?_)
 ·have h:i<vals.length:=by rw[decide_eq_true_eq,List.length_map]at hb;omega
  have h':i<k.fields.length:=by omega
  (repeat first|(refine AOps.gN ?_;first|refine AOps.p (W.idxL rfl rfl rfl (Aj _ h')) rfl ?_)|refine WK ?_|refine Ai λX=>?_|refine Ay λY=>?_);refine RU ?_;(repeat first|(refine RGo.gN ?_;first|refine RGo.p (W.idxL rfl rfl rfl (Aj _ h)) rfl ?_|refine RGo.p (W.call2 rfl rfl (JA _ _) rfl) rfl ?_|refine RGo.p (W.idx rfl rfl (by exact At.f) rfl (by simpa using h) (Nat.zero_add _)) rfl ?_|refine RGo.s (W.store rfl rfl (by exact At.f) (JL hl h) (by exact rfl)) rfl ?_)|(refine AX ?_;first|refine RGo.p (W.idxL rfl rfl rfl (Aj _ h)) rfl ?_|refine RGo.p (W.call2 rfl rfl (JA _ _) rfl) rfl ?_|refine RGo.p (W.idx rfl rfl (by exact At.f) rfl (by simpa using h) (Nat.zero_add _)) rfl ?_|refine RGo.s (W.store rfl rfl (by exact At.f) (JL hl h) (by exact rfl)) rfl ?_)|refine RK ?_|refine RGo.nil (by kernel_rfl) ?_);(repeat first|refine WK ?_|refine Ai λX=>?_|refine Ay λY=>?_);refine⟨i+1,by omega,by omega,.cons rfl (.cons rfl (.cons rfl (.cons rfl (.cons rfl .nil)))),?_⟩;show List.Sublist ((XL,.row 3 1 ((D1 k vals (i+1)).map iA))::(B,.row 58 2 [AU false k])::Sf) _
  rw[<-LK hl h];exact Sub.f
 ·have h:¬i<vals.length:=by rw[decide_eq_false_iff_not,List.length_map]at hb;omega
  (repeat first|refine WK ?_|refine Ai λX=>?_|refine Ay λY=>?_);refine RT ?_;rw[show Ak k vals=(List.zipWith As k.fields vals,0)from by simp[Ak,hk,hl]]
  have he:(D1 k vals i).map iA=(List.zipWith As k.fields vals).map iA:=by
   congr 1
   rw[D1,show vals.length-i=0 from by omega,List.take_of_length_le (by simp;omega)];simp
  refine⟨[.sl XL 0 (vals.map iA).length,iA 0],[.lst true 3 1 ((D1 k vals i).map iA),iA 0],_,[],.cons (.tmp rfl) rfl (.cons (.tmp rfl) rfl .nil),.cons (.cell (.sl (p:=0) .here (by rw[he];simp;omega))) (.cons (.cell .same) .nil),by exact Sub.f,?_,rfl⟩;rw[he];rfl
theorem Ie{k:Kind}{vals:List Int}(h:(Ak k vals).2=0):(Ak k vals).1.length=vals.length/\vals.length<=8:=by
 unfold Ak at h⊢;split
 ·rename_i h1;rw[if_pos h1]at h;exact absurd h h1
 ·rename_i h1
  rw[if_neg h1]at h;split
  ·rename_i h2;rw[if_pos h2]at h;cases h
  ·rename_i h2;have:=Ew (Decidable.not_not.1 h1);simp;omega
theorem LD(k:Kind)(vals:List Int):PS Try.prog 96 [AU false k,Af false vals] (bA (BD k vals)):=by
 refine AC (nt:=31) (res:=[.tmp 4]) Try.func96 rfl (by kernel_rfl) rfl rfl rfl λSf=>?_
 have hfr:(AV.tup [Af true (Ak k vals).1,iA (Ak k vals).2]).frz= .tup [Af false (Ak k vals).1,iA (Ak k vals).2]:=by
  show AV.tup [(Af true (Ak k vals).1).frz,_]=_
  rw[J5];rfl
 (repeat first|(refine AOps.gN ?_;first|refine AOps.p (W.callF2 rfl rfl (LI _ _) rfl hfr) rfl ?_)|refine WK ?_|refine Ai λX=>?_|refine Ay λY=>?_);refine AWP.cond rfl (λhb=>?_) (λhb=>?_)
 ·have hb:(Ak k vals).2≠0:=by simpa using hb
  (repeat first|refine WK ?_|refine Ai λX=>?_|refine Ay λY=>?_);refine RT ?_;refine AR rfl rfl (by exact Sub.f) ⟨?_,rfl⟩;simp[BD,hb]
 have hb:(Ak k vals).2=0:=by simpa using hb
 obtain⟨hlen,h8⟩:=Ie hb;obtain⟨fl,hfl⟩:∃fl,fl=(Ak k vals).1:=⟨_,rfl⟩;rw[<-hfl]at hlen;rw[show BD k vals=decide (fl=vals)from by simp[BD,hb,hfl]];rw[<-hfl];clear hfr;(repeat first|refine A5 (λi:Nat=>⟨[(1,Af false vals),(5,Af false fl),(17,iA (fl.map iA).length),(18,iA i)],Sf⟩) (λi=>i<=vals.length/\∀j (h:j<vals.length),j<i->fl[j]'(by omega)=vals[j]) (λi=>vals.length-i) 0 ⟨Nat.zero_le _,λj h hj=>absurd hj (by omega)⟩ ⟨.cons rfl (.cons rfl (.cons rfl (.cons rfl .nil))),by exact Sub.f⟩ ?_|refine WK ?_|refine Ai λX=>?_|refine Ay λY=>?_);rintro i ⟨hi,he⟩;(repeat first|refine WK ?_|refine Ai λX=>?_|refine Ay λY=>?_);refine AWP.cond rfl (λhc=>?_) (λhc=>?_)
 ·have h:i<fl.length:=by rw[decide_eq_true_eq,List.length_map]at hc;omega
  have h':i<vals.length:=by omega
  (repeat first|refine WK ?_|refine Ai λX=>?_|refine Ay λY=>?_);refine RU ?_;(repeat first|(refine RGo.gN ?_;first|refine RGo.p (W.idxL rfl rfl rfl (Aj _ h)) rfl ?_|refine RGo.p (W.idxL rfl rfl rfl (Aj _ h')) rfl ?_)|(refine AX ?_;first|refine RGo.p (W.idxL rfl rfl rfl (Aj _ h)) rfl ?_|refine RGo.p (W.idxL rfl rfl rfl (Aj _ h')) rfl ?_)|refine RK ?_|refine RGo.nil (by kernel_rfl) ?_);(repeat first|refine WK ?_|refine Ai λX=>?_|refine Ay λY=>?_);refine AWP.cond rfl (λhd=>?_) (λhd=>?_)
  ·have hd:fl[i]≠vals[i]:=by simpa using hd
   (repeat first|refine WK ?_|refine Ai λX=>?_|refine Ay λY=>?_);refine RT ?_;refine AR rfl rfl (by exact Sub.f) ⟨?_,rfl⟩;rw[decide_eq_false (λe=>hd (by subst e;rfl))]
  ·have hd:fl[i]=vals[i]:=by simpa using hd
   (repeat first|refine WK ?_|refine Ai λX=>?_|refine Ay λY=>?_);refine⟨i+1,⟨by omega,λj h1 h2=>?_⟩,by omega,.cons rfl (.cons rfl (.cons rfl (.cons rfl .nil))),by exact Sub.f⟩;by_cases e:j=i
   ·subst e;exact hd
   ·exact he j h1 (by omega)
 ·have h:¬i<fl.length:=by rw[decide_eq_false_iff_not,List.length_map]at hc;omega
  (repeat first|refine WK ?_|refine Ai λX=>?_|refine Ay λY=>?_);refine RT ?_;refine AR rfl rfl (by exact Sub.f) ⟨?_,rfl⟩;rw[decide_eq_true (List.ext_getElem hlen λj h1 h2=>he j h2 (by omega))]
theorem MQ(l:List Kind)(name:List UInt8)(hl:l.length<=1099511627776):PS Try.prog 74 [AS false false l,sA name] (iA (BS l name)):=by
 refine AC (nt:=20) (res:=[.tmp 4]) Try.func74 rfl (by kernel_rfl) rfl rfl rfl λSf=>?_
 (repeat first|refine A5 (λi:Nat=>⟨[(1,sA name),(7,AS false false l),(8,iA (l.map (AU false)).length),(9,iA i)],Sf⟩) (λi=>i<=l.length/\∀j (h:j<l.length),j<i->l[j].name≠name) (λi=>l.length-i) 0 ⟨by omega,by omega⟩ ⟨.cons rfl (.cons rfl (.cons rfl (.cons rfl .nil))),List.Sublist.refl _⟩ ?_|refine WK ?_|refine Ai λX=>?_|refine Ay λY=>?_);rintro i ⟨hi,hn⟩;(repeat first|refine WK ?_|refine Ai λX=>?_|refine Ay λY=>?_);refine AWP.cond rfl (λhb=>?_) (λhb=>?_)
 ·have h:i<l.length:=by simpa using hb
  (repeat first|(refine AOps.gN ?_;first|refine AOps.p (W.idxL rfl rfl rfl (Aj _ h)) rfl ?_)|refine WK ?_|refine Ai λX=>?_|refine Ay λY=>?_);refine AWP.cond rfl (λhc=>?_) (λhc=>?_)
  ·have hc:l[i].name=name:=by simpa using hc
   (repeat first|refine WK ?_|refine Ai λX=>?_|refine Ay λY=>?_);refine RT ?_;refine AR rfl rfl (by exact Sub.f) ⟨?_,rfl⟩;rw[Fj h hc λj hj=>hn j (by omega) hj]
  ·have hc:l[i].name≠name:=by simpa using hc
   (repeat first|refine WK ?_|refine Ai λX=>?_|refine Ay λY=>?_);refine⟨i+1,⟨by omega,λj hj hji=>?_⟩,by omega,.cons rfl (.cons rfl (.cons rfl (.cons rfl .nil))),by exact Sub.f⟩;by_cases e:j=i
   ·subst e;exact hc
   ·exact hn j hj (by omega)
 ·have h:¬i<l.length:=by simpa using hb
  (repeat first|refine WK ?_|refine Ai λX=>?_|refine Ay λY=>?_);refine RT ?_;refine AR rfl rfl (by exact Sub.f) ⟨?_,rfl⟩;rw[DC λj hj=>hn j hj (by omega)]
theorem FI(l:List Kind):PS Try.prog 57 [AS false false l] (iA (Ag l)):=by
 refine AC (nt:=29) (res:=[.tmp 2]) Try.func57 rfl (by kernel_rfl) rfl rfl rfl λSf=>?_
 (repeat first|refine WK ?_|refine Ai λX=>?_|refine Ay λY=>?_);refine AWP.cond rfl (λhb=>?_) (λhb=>?_)
 ·(repeat first|refine WK ?_|refine Ai λX=>?_|refine Ay λY=>?_)
  refine RT ?_;refine AR rfl rfl (by exact Sub.f) ⟨?_,rfl⟩;have hb:16<l.length:=by rw[decide_eq_true_eq,List.length_map]at hb;omega
  rw[show Ag l=2 from by simp[Ag,hb]]
 have hl:l.length<=16:=by rw[decide_eq_false_iff_not,List.length_map]at hb;omega
 have e1:Ag l=Al [] l:=by simp[Ag];omega
 (repeat first|refine A5 (λi:Nat=>⟨[(0,AS false false l),(9,AS false false l),(10,iA (l.map (AU false)).length),(11,iA i)],Sf⟩) (λi=>i<=l.length/\Al [] l=Al (l.take i) (l.drop i)) (λi=>l.length-i) 0 ⟨by omega,rfl⟩ ⟨.cons rfl (.cons rfl (.cons rfl (.cons rfl .nil))),by exact Sub.f⟩ ?_|refine WK ?_|refine Ai λX=>?_|refine Ay λY=>?_);rintro i ⟨hi,he⟩;(repeat first|refine WK ?_|refine Ai λX=>?_|refine Ay λY=>?_);refine AWP.cond rfl (λhb=>?_) (λhb=>?_)
 ·have h:i<l.length:=by simpa using hb
  (repeat first|(refine AOps.gN ?_;first|refine AOps.p (W.idxL rfl rfl rfl (Aj _ h)) rfl ?_|refine AOps.p (W.call1 rfl (Kw _) rfl) rfl ?_)|refine WK ?_|refine Ai λX=>?_|refine Ay λY=>?_);refine AWP.cond rfl (λhc=>?_) (λhc=>?_)
  ·have hc:Aa l[i]≠0:=by simpa using hc
   (repeat first|refine WK ?_|refine Ai λX=>?_|refine Ay λY=>?_);refine RT ?_;refine AR rfl rfl (by exact Sub.f) ⟨?_,rfl⟩;rw[e1,he,Cp h,Gc hc];rfl
  have hc:Aa l[i]=0:=by simpa using hc
  have hf:PS Try.prog 74 [.lst false 58 2 ((l.map (AU false)).take i),sA l[i].name] (iA (BS (l.take i) l[i].name)):=by
   have:=MQ (l.take i) l[i].name (by simp;omega);simpa only[AS,List.map_take]using this
  (repeat first|refine WK ?_|refine Ai λX=>?_|refine Ay λY=>?_);refine RU ?_;(repeat first|(refine RGo.gN ?_;first|refine RGo.p (W.hiL rfl rfl rfl (by simp;omega)) rfl ?_|refine RGo.p (W.call2 rfl rfl hf rfl) rfl ?_)|(refine AX ?_;first|refine RGo.p (W.hiL rfl rfl rfl (by simp;omega)) rfl ?_|refine RGo.p (W.call2 rfl rfl hf rfl) rfl ?_)|refine RK ?_|refine RGo.nil (by kernel_rfl) ?_);(repeat first|refine WK ?_|refine Ai λX=>?_|refine Ay λY=>?_);refine AWP.cond rfl (λhd=>?_) (λhd=>?_)
  ·have hd:0<=BS (l.take i) l[i].name:=by simpa using hd
   (repeat first|refine WK ?_|refine Ai λX=>?_|refine Ay λY=>?_);refine RT ?_;refine AR rfl rfl (by exact Sub.f) ⟨?_,rfl⟩;rw[e1,he,Cp h,E0 hc hd]
  ·have hd:BS (l.take i) l[i].name<0:=by simpa using hd
   (repeat first|refine WK ?_|refine Ai λX=>?_|refine Ay λY=>?_);refine⟨i+1,⟨by omega,?_⟩,by omega,.cons rfl (.cons rfl (.cons rfl (.cons rfl .nil))),by exact Sub.f⟩;rw[he,Cp h,Fe hc hd,List.take_add_one,List.getElem?_eq_getElem h];rfl
 ·have h:¬i<l.length:=by simpa using hb
  (repeat first|refine WK ?_|refine Ai λX=>?_|refine Ay λY=>?_);refine RT ?_;refine AR rfl rfl (by exact Sub.f) ⟨?_,rfl⟩;rw[e1,he,Gb (by omega)]
def BR(ks:List Kind):Int->List Comp->Bool
 |_,[]=>true
 |last,c::l=>match ks[c.kind.toNat]? with
  |some k=>decide (last<c.kind)&&decide (c.kind<ks.length)&&BD k c.vals&&BR ks c.kind l
  |none=>false
def Bd(ks:List Kind)(l:List Comp):Bool:=BR ks (-1) l
theorem Hj{ks:List Kind}{l:List Comp}{i:Nat}{last:Int}{k:Kind}{c:Comp}(h:i<l.length)(hc:l[i]=c)(hk:ks[c.kind.toNat]?=some k):BR ks last (l.drop i)=(decide (last<c.kind)&&decide (c.kind<ks.length)&&BD k c.vals&&BR ks c.kind (l.drop (i+1))):=by
 rw[List.drop_eq_getElem_cons h,BR,hc,hk]
theorem EL{ks:List Kind}{l:List Comp}{i:Nat}{last:Int}{c:Comp}(h:i<l.length)(hc:l[i]=c)(hn:c.kind<=last\/(ks.length:Int)<=c.kind):BR ks last (l.drop i)=false:=by
 rw[List.drop_eq_getElem_cons h,BR,hc];split
 ·rcases hn with hn|hn
  ·rw[decide_eq_false (by omega)];rfl
  ·rw[decide_eq_false (p:=c.kind<_) (by omega)];simp
 ·rfl
def A4(ks:List Kind)(gens:List Int):Int->List Item->Bool
 |_,[]=>true
 |last,it::l=>match gens[it.ent.n.toNat]? with
  |some g=>decide (last<it.ent.n)&&decide (it.ent.n<gens.length)&&decide (it.ent.gen=g)&& !decide (it.ent.gen=1073741824)&&Bd ks it.comps&&A4 ks gens it.ent.n l
  |none=>false
theorem Ge{ks:List Kind}{gens:List Int}{l:List Item}{i:Nat}{last:Int}{g:Int}{it:Item}(h:i<l.length)(hc:l[i]=it)(hk:gens[it.ent.n.toNat]?=some g):A4 ks gens last (l.drop i)=(decide (last<it.ent.n)&&decide (it.ent.n<gens.length)&&decide (it.ent.gen=g)&& !decide (it.ent.gen=1073741824)&&Bd ks it.comps&&A4 ks gens it.ent.n (l.drop (i+1))):=by
 rw[List.drop_eq_getElem_cons h,A4,hc,hk]
theorem Dd{ks:List Kind}{gens:List Int}{l:List Item}{i:Nat}{last:Int}{it:Item}(h:i<l.length)(hc:l[i]=it)(hn:it.ent.n<=last\/(gens.length:Int)<=it.ent.n):A4 ks gens last (l.drop i)=false:=by
 rw[List.drop_eq_getElem_cons h,A4,hc];split
 ·rcases hn with hn|hn
  ·rw[decide_eq_false (by omega)];rfl
  ·rw[decide_eq_false (p:=it.ent.n<_) (by omega)];simp
 ·rfl
def DI(l:List Int):Bool:=l.all λg=>decide (0<=g)&&decide (g<=1073741824)
def EG(w:Wd):Int:=
 if Ag w.kinds≠0 then Ag w.kinds
 else if 256<w.gens.length\/w.gens.length<w.items.length then 2
 else if DI w.gens=false then 3
 else if A4 w.kinds w.gens (-1) w.items=false then 3 else 0
theorem MG(ks:List Kind)(l:List Comp)(hl:l.length<=1099511627776):PS Try.prog 75 [AS false false ks,Az false false l] (bA (Bd ks l)):=by
 refine AC (nt:=39) (res:=[.tmp 4]) Try.func75 rfl (by kernel_rfl) rfl rfl rfl λSf=>?_
 have hlm:(l.map (AE false)).length=l.length:=List.length_map _;(repeat first|refine WK ?_|refine Ai λX=>?_|refine Ay λY=>?_);refine A3 (λ(i:Nat) (last:Int)=>⟨[(0,AS false false ks),(5,iA last),(8,Az false false l),(9,iA (l.map (AE false)).length),(10,iA i)],Sf⟩) (λi last=>i<=l.length/\ -1<=last/\BR ks last (l.drop i)=Bd ks l) (λi _=>l.length-i) 0 (-1) ⟨Nat.zero_le _,by omega,rfl⟩ ?_;rintro i last ⟨hi,hla,he⟩;(repeat first|refine WK ?_|refine Ai λX=>?_|refine Ay λY=>?_);refine AWP.cond rfl (λhc=>?_) (λhc=>?_)
 ·have h:i<l.length:=by rw[decide_eq_true_eq,hlm]at hc;omega
  obtain⟨⟨ck,cv⟩,hcc⟩:∃c,l[i]=c:=⟨_,rfl⟩;have hat:(l.map (AE false))[i]?=some (AE false ⟨ck,cv⟩):=by rw[List.getElem?_map,List.getElem?_eq_getElem h,hcc];rfl
  (repeat first|refine WK ?_|refine Ai λX=>?_|refine Ay λY=>?_);rcases Bool.eq_false_or_eq_true (decide (ck<=last))with g1|g1
  ·refine RU ?_;(repeat first|(refine AX ?_;first|refine CU ?_|refine CT ?_)|refine RK ?_|refine RGo.nil (by kernel_rfl) ?_)
   refine Ac rfl (by first|rfl|assumption) ?_;(repeat first|refine WK ?_|refine Ai λX=>?_|refine Ay λY=>?_);refine RT ?_;refine AF ?_;rw[<-he,EL h hcc (.inl (by simpa using g1))]
  ·obtain⟨n,rfl⟩:∃n:Nat,ck=n:=⟨ck.toNat,by rw[decide_eq_false_iff_not]at g1;omega⟩
   rcases Bool.eq_false_or_eq_true (decide (((ks.map (AU false)).length:Int)<=n))with g2|g2
   ·refine RU ?_;(repeat first|(refine AX ?_;first|refine CU ?_|refine CT ?_)|refine RK ?_|refine RGo.nil (by kernel_rfl) ?_)
    refine Ac rfl (by first|rfl|assumption) ?_;(repeat first|refine WK ?_|refine Ai λX=>?_|refine Ay λY=>?_);refine RT ?_;refine AF ?_;rw[<-he,EL h hcc (.inr (by rw[decide_eq_true_eq,List.length_map]at g2;exact g2))]
   ·have hkl:n<ks.length:=by rw[decide_eq_false_iff_not,List.length_map]at g2;omega
    obtain⟨k,hk⟩:∃k,ks[n]=k:=⟨_,rfl⟩;have hka:ks[n]?=some k:=by rw[List.getElem?_eq_getElem hkl,hk]
    have hat2:(ks.map (AU false))[n]?=some (AU false k):=by rw[List.getElem?_map,hka];rfl
    have hst:=Hj (last:=last) (k:=k) h hcc hka;dsimp only at hst;rw[decide_eq_true (by rw[decide_eq_false_iff_not]at g1;omega),decide_eq_true (p:=(n:Int)<_) (by omega),Bool.true_and,Bool.true_and,he]at hst;have hh:=LD k cv;obtain⟨b,hb⟩:∃b,BD k cv=b:=⟨_,rfl⟩;rw[hb]at hst hh;cases b
    ·refine RU ?_;(repeat first|(refine RGo.gN ?_;first|(refine RGo.g_callf ?_;first|refine RGo.c2 (h:=(hh ..)) (k:=?_)))|(refine AX ?_;first|(refine RGo.g_callf ?_;first|refine RGo.c2 (h:=(hh ..)) (k:=?_)))|refine RK ?_|refine RGo.nil (by kernel_rfl) ?_)
     refine Ac rfl (by first|rfl|assumption) ?_;(repeat first|refine WK ?_|refine Ai λX=>?_|refine Ay λY=>?_);refine RT ?_;refine AF ?_;rw[hst];rfl
    ·refine RU ?_;(repeat first|(refine RGo.gN ?_;first|(refine RGo.g_callf ?_;first|refine RGo.c2 (h:=(hh ..)) (k:=?_)))|(refine AX ?_;first|(refine RGo.g_callf ?_;first|refine RGo.c2 (h:=(hh ..)) (k:=?_)))|refine RK ?_|refine RGo.nil (by kernel_rfl) ?_)
     refine AN rfl (by first|rfl|assumption) ?_;(repeat first|refine WK ?_|refine Ai λX=>?_|refine Ay λY=>?_);refine Ae (i+1) n ⟨h,by omega,hst.symm⟩
 ·have h:i=l.length:=by rw[decide_eq_false_iff_not,hlm]at hc;omega
  subst h;(repeat first|refine WK ?_|refine Ai λX=>?_|refine Ay λY=>?_);refine RT ?_;refine AF ?_;rw[<-he,List.drop_length];rfl
set_option maxHeartbeats 2000000 in
theorem KL(w:Wd)(hg:w.gens.length<=1099511627776)(hi:w.items.length<=1099511627776)(hc:∀it∈w.items,it.comps.length<=1099511627776):PS Try.prog 58 [wdA false w] (iA (EG w)):=by
 have hck:=FI w.kinds;obtain⟨ke,hke⟩:∃ke,Ag w.kinds=ke:=⟨_,rfl⟩;obtain⟨we,hwe⟩:∃we,EG w=we:=⟨_,rfl⟩;rw[hwe];unfold EG at hwe;rw[hke]at hck hwe;obtain⟨ks,gens,items⟩:=w;dsimp only at hwe hg hi hc hck hke;refine AC (nt:=94) (res:=[.tmp 2]) Try.func58 rfl (by kernel_rfl) rfl rfl rfl λSf=>?_
 have hgm:(gens.map iA).length=gens.length:=List.length_map _;have him:(items.map (AH false)).length=items.length:=List.length_map _;refine RG ?_;(repeat first|(refine AOps.gN ?_;first|(refine AOps.g_box ?_;refine BG ?_))|refine WO ?_|refine Ai λX=>?_|refine Ay λY=>?_);refine NL ?_;refine RG ?_;(repeat first|(refine AOps.gN ?_;first|(refine AOps.g_callf ?_;first|refine AOps.c1 (h:=(hck ..)) (k:=?_)))|refine WO ?_|refine Ai λX=>?_|refine Ay λY=>?_);refine NL ?_;(repeat first|refine WK ?_|refine Ai λX=>?_|refine Ay λY=>?_);refine AWP.cond rfl (λhd=>?_) (λhd=>?_)
 ·have hd:ke≠0:=by simpa using hd
  (repeat first|refine WK ?_|refine Ai λX=>?_|refine Ay λY=>?_);refine RT ?_;refine AF ?_;rw[<-hwe,if_pos hd]
 have hd:ke=0:=by simpa using hd
 rw[if_neg (by simp[hd])]at hwe;rcases Bool.eq_false_or_eq_true (decide (256<((gens.map iA).length:Int)))with g1|g1
 ·(repeat first|refine WK ?_|refine Ai λX=>?_|refine Ay λY=>?_)
  refine Ac rfl (by first|rfl|assumption) ?_;(repeat first|refine WK ?_|refine Ai λX=>?_|refine Ay λY=>?_);refine RT ?_;refine AF ?_;rw[<-hwe,if_pos (.inl (by rw[decide_eq_true_eq,hgm]at g1;omega))]
 rcases Bool.eq_false_or_eq_true (decide (((gens.map iA).length:Int)<(items.map (AH false)).length))with g2|g2
 ·(repeat first|refine WK ?_|refine Ai λX=>?_|refine Ay λY=>?_)
  refine Ac rfl (by first|rfl|assumption) ?_;(repeat first|refine WK ?_|refine Ai λX=>?_|refine Ay λY=>?_);refine RT ?_;refine AF ?_;rw[<-hwe,if_pos (.inr (by rw[decide_eq_true_eq,hgm,him]at g2;omega))]
 (repeat first|refine WK ?_|refine Ai λX=>?_|refine Ay λY=>?_);refine AN rfl (by first|rfl|assumption) ?_;rw[if_neg (by rw[decide_eq_false_iff_not,hgm]at g1;rw[decide_eq_false_iff_not,hgm,him]at g2;omega)]at hwe;(repeat first|refine WK ?_|refine Ai λX=>?_|refine Ay λY=>?_);refine Bq (λi:Nat=>⟨[(1,.fp (wdA false ⟨ks,gens,items⟩).cells),(29,Af false gens),(30,iA (gens.map iA).length),(31,iA i)],Sf⟩) (λi=>i<=gens.length/\∀j (h:j<gens.length),j<i->0<=gens[j]/\gens[j]<=1073741824) (λi=>gens.length-i) 0 ⟨Nat.zero_le _,λj h hj=>absurd hj (by omega)⟩ ?_;rintro i ⟨hil,hgo⟩;(repeat first|refine WK ?_|refine Ai λX=>?_|refine Ay λY=>?_);refine AWP.cond rfl (λhe=>?_) (λhe=>?_)
 ·have h:i<gens.length:=by rw[decide_eq_true_eq,hgm]at he;omega
  obtain⟨x,hx⟩:∃x,gens[i]=x:=⟨_,rfl⟩;have hat:(gens.map iA)[i]?=some (iA x):=by rw[List.getElem?_map,List.getElem?_eq_getElem h,hx];rfl
  have hbad:¬(0<=x/\x<=1073741824)->DI gens=false:=λhn=>by
   unfold DI;rw[List.all_eq_false];refine⟨x,hx▸List.getElem_mem h,?_⟩;simp only[Bool.and_eq_true,decide_eq_true_eq];exact hn
  (repeat first|refine WK ?_|refine Ai λX=>?_|refine Ay λY=>?_);refine AWP.cond rfl (λhf=>?_) (λhf=>?_)
  ·have hf:¬(0<=x/\x<=1073741824):=by simp at hf;omega
   (repeat first|refine WK ?_|refine Ai λX=>?_|refine Ay λY=>?_);refine RT ?_;refine AF ?_;rw[<-hwe,if_pos (hbad hf)]
  ·have hf:0<=x/\x<=1073741824:=by simp at hf;omega
   (repeat first|refine WK ?_|refine Ai λX=>?_|refine Ay λY=>?_);refine Br (i+1) ⟨h,λj h1 h2=>?_⟩;by_cases e:j=i
   ·subst e;rw[hx];exact hf
   ·exact hgo j h1 (by omega)
 have hgok:DI gens=true:=by
  have h:i=gens.length:=by rw[decide_eq_false_iff_not,hgm]at he;omega
  unfold DI;rw[List.all_eq_true];intro x hx;obtain⟨j,hj,rfl⟩:=List.getElem_of_mem hx;simp only[Bool.and_eq_true,decide_eq_true_eq];exact hgo j hj (by omega)
 rw[if_neg (by simp[hgok])]at hwe;(repeat first|refine WK ?_|refine Ai λX=>?_|refine Ay λY=>?_);refine A3 (λ(i:Nat) (last:Int)=>⟨[(1,.fp (wdA false ⟨ks,gens,items⟩).cells),(6,iA last),(43,BJ false false items),(44,iA (items.map (AH false)).length),(45,iA i)],Sf⟩) (λi last=>i<=items.length/\ -1<=last/\A4 ks gens last (items.drop i)=A4 ks gens (-1) items) (λi _=>items.length-i) 0 (-1) ⟨Nat.zero_le _,by omega,rfl⟩ ?_;clear hil hgo he i;rintro i last ⟨hil,hla,he⟩;(repeat first|refine WK ?_|refine Ai λX=>?_|refine Ay λY=>?_);refine AWP.cond rfl (λhd'=>?_) (λhd'=>?_)
 ·have h:i<items.length:=by rw[decide_eq_true_eq,him]at hd';omega
  obtain⟨⟨⟨en,eg⟩,cs⟩,hit⟩:∃it,items[i]=it:=⟨_,rfl⟩;have hat:(items.map (AH false))[i]?=some (AH false ⟨⟨en,eg⟩,cs⟩):=by rw[List.getElem?_map,List.getElem?_eq_getElem h,hit];rfl
  have hcl:=hc _ (hit▸List.getElem_mem h);dsimp only at hcl;(repeat first|refine WK ?_|refine Ai λX=>?_|refine Ay λY=>?_);rcases Bool.eq_false_or_eq_true (decide (en<=last))with q1|q1
  ·refine RU ?_;(repeat first|(refine AX ?_;first|refine CU ?_|refine CT ?_)|refine RK ?_|refine RGo.nil (by kernel_rfl) ?_)
   refine Ac rfl (by first|rfl|assumption) ?_;(repeat first|refine WK ?_|refine Ai λX=>?_|refine Ay λY=>?_);refine RT ?_;refine AF ?_;rw[<-hwe,if_pos (by rw[<-he,Dd h hit (.inl (by simpa using q1))])]
  obtain⟨n,rfl⟩:∃n:Nat,en=n:=⟨en.toNat,by rw[decide_eq_false_iff_not]at q1;omega⟩;rcases Bool.eq_false_or_eq_true (decide (((gens.map iA).length:Int)<=n))with q2|q2
  ·refine RU ?_;(repeat first|(refine AX ?_;first|refine CU ?_|refine CT ?_)|refine RK ?_|refine RGo.nil (by kernel_rfl) ?_)
   refine Ac rfl (by first|rfl|assumption) ?_;(repeat first|refine WK ?_|refine Ai λX=>?_|refine Ay λY=>?_);refine RT ?_;refine AF ?_;rw[<-hwe,if_pos (by rw[<-he,Dd h hit (.inr (by rw[decide_eq_true_eq,hgm]at q2;exact q2))])]
  have hkl:n<gens.length:=by rw[decide_eq_false_iff_not,hgm]at q2;omega
  obtain⟨g,hg'⟩:∃g,gens[n]=g:=⟨_,rfl⟩;have hga:gens[n]?=some g:=by rw[List.getElem?_eq_getElem hkl,hg']
  have hat2:(gens.map iA)[n]?=some (iA g):=by rw[List.getElem?_map,hga];rfl
  have hst:=Ge (ks:=ks) (last:=last) (g:=g) h hit hga;dsimp only at hst;rw[decide_eq_true (by rw[decide_eq_false_iff_not]at q1;omega),decide_eq_true (p:=(n:Int)<_) (by omega),Bool.true_and,Bool.true_and,he]at hst;rcases Bool.eq_false_or_eq_true (decide (eg≠g))with q3|q3
  ·refine RU ?_;(repeat first|(refine AX ?_;first|refine CU ?_|refine CT ?_)|refine RK ?_|refine RGo.nil (by kernel_rfl) ?_)
   refine Ac rfl (by first|rfl|assumption) ?_;(repeat first|refine WK ?_|refine Ai λX=>?_|refine Ay λY=>?_);refine RT ?_;refine AF ?_;rw[<-hwe,if_pos (by rw[hst,decide_eq_false (by simpa using q3)];rfl)]
  rcases Bool.eq_false_or_eq_true (decide (eg=1073741824))with q4|q4
  ·refine RU ?_;(repeat first|(refine AX ?_;first|refine CU ?_|refine CT ?_)|refine RK ?_|refine RGo.nil (by kernel_rfl) ?_)
   refine Ac rfl (by first|rfl|assumption) ?_;(repeat first|refine WK ?_|refine Ai λX=>?_|refine Ay λY=>?_);refine RT ?_;refine AF ?_;rw[<-hwe,if_pos (by rw[hst,q4];simp)]
  have hh:=MG ks cs hcl;obtain⟨b,hb⟩:∃b,Bd ks cs=b:=⟨_,rfl⟩;rw[decide_eq_true (p:=eg=g) (by simpa using q3),q4,hb,Bool.true_and,Bool.not_false,Bool.true_and]at hst;rw[hb]at hh;cases b
  ·refine RU ?_;(repeat first|(refine RGo.gN ?_;first|(refine RGo.g_callf ?_;first|refine RGo.c2 (h:=(hh ..)) (k:=?_)))|(refine AX ?_;first|(refine RGo.g_callf ?_;first|refine RGo.c2 (h:=(hh ..)) (k:=?_)))|refine RK ?_|refine RGo.nil (by kernel_rfl) ?_)
   refine Ac rfl (by first|rfl|assumption) ?_;(repeat first|refine WK ?_|refine Ai λX=>?_|refine Ay λY=>?_);refine RT ?_;refine AF ?_;rw[<-hwe,if_pos (by rw[hst];rfl)]
  ·refine RU ?_;(repeat first|(refine RGo.gN ?_;first|(refine RGo.g_callf ?_;first|refine RGo.c2 (h:=(hh ..)) (k:=?_)))|(refine AX ?_;first|(refine RGo.g_callf ?_;first|refine RGo.c2 (h:=(hh ..)) (k:=?_)))|refine RK ?_|refine RGo.nil (by kernel_rfl) ?_)
   refine AN rfl (by first|rfl|assumption) ?_;(repeat first|refine WK ?_|refine Ai λX=>?_|refine Ay λY=>?_);refine Ae (i+1) n ⟨h,by omega,hst.symm⟩
 ·have h:i=items.length:=by rw[decide_eq_false_iff_not,him]at hd';omega
  (repeat first|refine WK ?_|refine Ai λX=>?_|refine Ay λY=>?_);refine RT ?_;refine AF ?_;rw[<-hwe,if_neg (by rw[<-he,h,List.drop_length];simp[A4])]
theorem Hi(a:Int):PS Try.prog 56 [iA a] (bA false):=by
 refine AC (nt:=6) (res:=[.tmp 2]) Try.func56 rfl (by kernel_rfl) rfl rfl rfl λSf=>?_
 (repeat first|refine WK ?_|refine Ai λX=>?_|refine Ay λY=>?_);refine RT ?_;refine AF ?_;have:decide (a≠a)=false:=decide_eq_false (by simp);rw[this]
def DN(a b:Int):Int:=if a<b then-1 else if b<a then 1 else 0
theorem FG(a b:Int):PS Try.prog 63 [iA a,iA b] (iA (DN a b)):=by
 refine AC (nt:=20) (res:=[.tmp 4]) Try.func63 rfl (by kernel_rfl) rfl rfl rfl λSf=>?_
 (repeat first|(refine AOps.gN ?_;first|(refine AOps.g_callf ?_;first|refine AOps.c1 (h:=(Hi a)) (k:=?_)|refine AOps.c1 (h:=(Hi b)) (k:=?_)))|refine WK ?_|refine Ai λX=>?_|refine Ay λY=>?_);refine AN rfl rfl ?_;(repeat first|refine WK ?_|refine Ai λX=>?_|refine Ay λY=>?_);refine AN rfl rfl ?_;(repeat first|refine WK ?_|refine Ai λX=>?_|refine Ay λY=>?_);refine AWP.cond rfl (λh=>?_) (λh=>?_)
 ·have h:a<b:=by simpa using h
  (repeat first|refine WK ?_|refine Ai λX=>?_|refine Ay λY=>?_);refine RT ?_;refine AF ?_;rw[DN,if_pos h]
 ·have h:¬a<b:=by simpa using h
  (repeat first|refine WK ?_|refine Ai λX=>?_|refine Ay λY=>?_);refine AWP.cond rfl (λh2=>?_) (λh2=>?_)
  ·have h2:b<a:=by simpa using h2
   (repeat first|refine WK ?_|refine Ai λX=>?_|refine Ay λY=>?_);refine RT ?_;refine AF ?_;rw[DN,if_neg h,if_pos h2]
  ·have h2:¬b<a:=by simpa using h2
   (repeat first|refine WK ?_|refine Ai λX=>?_|refine Ay λY=>?_);refine RT ?_;refine AF ?_;rw[DN,if_neg h,if_neg h2]
def IB{α:Type}(g:α->Int)(l:List α):Prop:=∀(a b:Nat) (x y:α),a<=b->l[a]?=some x->l[b]?=some y->g y<0->g x<0
def Spl{α:Type}(g:α->Int)(l:List α)(i j:Nat):Prop:=(∀(k:Nat) (x:α),k<i->l[k]?=some x->g x<0)/\∀(k:Nat) (x:α),j<=k->l[k]?=some x->¬g x<0
structure Found{α:Type}(g:α->Int)(l:List α)(r:Nat×Bool):Prop where
 le:r.1<=l.length
 eq:r.2=true↔∃x,l[r.1]?=some x/\g x=0
 mono:IB g l->Spl g l r.1 r.1
theorem Spl.lo{α:Type}{g:α->Int}{l:List α}{i j m:Nat}{y:α}(hM:IB g l)(h:Spl g l i j)(hy:l[m]?=some y)(hg:g y<0):Spl g l (m+1) j:=
 ⟨λk x hk hx=>hM k m x y (by omega) hx hy hg,h.2⟩
theorem Spl.hi{α:Type}{g:α->Int}{l:List α}{i j m:Nat}{y:α}(hM:IB g l)(h:Spl g l i j)(hy:l[m]?=some y)(hg:¬g y<0):Spl g l i m:=
 ⟨h.1,λk x hk hx hx0=>hg (hM m k y x hk hy hx hx0)⟩
def Mm(l:List Comp):Prop:=l.Pairwise λa b=>a.kind<b.kind
theorem Gn{a b:Int}:DN a b<0↔a<b:=by
 unfold DN;split
 ·simp;assumption
 ·split<;>simp<;>omega
def F3(l:List Comp):List Comp:=l.mergeSort λa b=>decide (a.kind<=b.kind)
def B4(ks:List Kind):List Comp->List Comp->List Comp->List Comp×Int
 |_,out,[]=>(out,0)
 |pre,out,c::l=>
  if c.kind<0\/(ks.length:Int)<=c.kind then([],1)else if pre.any (λo=>decide (o.kind=c.kind))then([],5)else
  match ks[c.kind.toNat]? with
  |none=>([],1)
  |some k=>if(Ak k c.vals).2≠0 then([],(Ak k c.vals).2)else B4 ks (pre++[c]) (out++[⟨c.kind,(Ak k c.vals).1⟩]) l
def Dr(ks:List Kind)(l:List Comp):List Comp×Int:=
 if Ag ks≠0 then([],Ag ks)else if(B4 ks [] [] l).2≠0 then([],(B4 ks [] [] l).2)else(F3 (B4 ks [] [] l).1,0)
theorem Ht{ks:List Kind}:∀{l pre out:List Comp},(B4 ks pre out l).2=0->(∀a∈out,∃b∈pre,b.kind=a.kind)->out.Pairwise (λa b=>a.kind≠b.kind)->(∀a∈out,0<=a.kind/\a.kind<ks.length)->
  (B4 ks pre out l).1.Pairwise (λa b=>a.kind≠b.kind)/\∀a∈(B4 ks pre out l).1,0<=a.kind/\a.kind<ks.length
 |[],pre,out,h,h1,h2,h3=>⟨h2,h3⟩
 |c::l,pre,out,h,h1,h2,h3=>by
  rw[B4]at h⊢;split at h
  ·cases h
  ·rename_i g1
   rw[if_neg g1];split at h
   ·cases h
   ·rename_i g2
    rw[if_neg g2];split at h
    ·cases h
    ·rename_i k hk
     split at h
     ·rename_i g3;exact absurd h g3
     ·rename_i g3
      (try simp only[hk])
      rw[if_neg g3];refine Ht h (λa ha=>?_) ?_ (λa ha=>?_)
      ·rcases List.mem_append.1 ha with ha|ha
       ·obtain⟨b,hb,e⟩:=h1 a ha
        exact⟨b,by simp[hb],e⟩
       ·rw[List.mem_singleton.1 ha]
        exact⟨c,by simp,rfl⟩
      ·rw[List.pairwise_append]
       refine⟨h2,by simp,λa ha b hb e=>?_⟩;rw[List.mem_singleton.1 hb]at e;obtain⟨b2,hb2,e2⟩:=h1 a ha;exact g2 (List.any_eq_true.2 ⟨b2,hb2,by simpa using e2.trans e⟩)
      ·rcases List.mem_append.1 ha with ha|ha
       ·exact h3 a ha
       ·rw[List.mem_singleton.1 ha];exact⟨by dsimp only;omega,by dsimp only;omega⟩
theorem HZ{α:Type}(g:α->Int):∀(n:Nat) (l:List α),l.Pairwise (λa b=>g a≠g b)->(∀a∈l,0<=g a/\g a<n)->l.length<=n:=by
 intro n l h1 h2
 have h3:(l.map λa=>(g a).toNat).Nodup:=by
  rw[List.Nodup,List.pairwise_map];refine h1.imp_of_mem λ{a b} ha hb e=>?_
  have:=h2 a ha;have:=h2 b hb;omega
 have h4:=List.Nodup.length_le_of_subset h3 (l₂:=List.range n) (λx hx=>by
  obtain⟨a,ha,rfl⟩:=List.mem_map.1 hx;have:=h2 a ha;exact List.mem_range.2 (by omega))
 simpa using h4
theorem E2(l:List Comp):(F3 l).Perm l:=List.mergeSort_perm _ _
theorem E1{l u:List Comp}(hd:l.Pairwise (λa b=>a.kind≠b.kind))(hp:u.Perm l)(hs:u.Pairwise (λa b=>a.kind<=b.kind)):u=F3 l:=by
 refine List.Perm.eq_of_pairwise (le:=λa b=>a.kind<=b.kind) (λa b ha hb h1 h2=>?_) hs ?_ (hp.trans (E2 l).symm)
 ·have hb':b∈l:=(E2 l).mem_iff.1 hb
  have ha':a∈l:=hp.mem_iff.1 ha;obtain⟨i,hi,rfl⟩:=List.getElem_of_mem ha';obtain⟨j,hj,rfl⟩:=List.getElem_of_mem hb';have:=List.pairwise_iff_getElem.1 hd;rcases Nat.lt_trichotomy i j with x|x|x
  ·exact absurd (by omega) (this i j hi hj x)
  ·subst x;rfl
  ·exact absurd (by omega) (this j i hj hi x)
 ·have:=List.pairwise_mergeSort (le:=λa b:Comp=>decide (a.kind<=b.kind)) (λa b c h1 h2=>by simp at*;omega) (λa b=>by simp;omega) l
  exact this.imp λh=>by simpa using h
def B2(gens:List Int)(n:Nat):List Int:=if n=gens.length then gens++[0]else gens
def Gg:List Item->Item->List Item
 |[],it=>[it]
 |x::l,it=>if x.ent.n<it.ent.n then x::Gg l it else it::x::l
def CX(w:Wd)(l:List Comp):Wd×Ent×Int:=
 if EG w≠0 then(⟨[],[],[]⟩,⟨0,0⟩,EG w)else if(Dr w.kinds l).2≠0 then(⟨[],[],[]⟩,⟨0,0⟩,(Dr w.kinds l).2)else
 if(A9 w).2=false then(⟨[],[],[]⟩,⟨0,0⟩,6)else
 (⟨w.kinds,B2 w.gens (A9 w).1,Gg w.items ⟨⟨(A9 w).1,(B2 w.gens (A9 w).1).getD (A9 w).1 0⟩,(Dr w.kinds l).1⟩⟩,⟨(A9 w).1,(B2 w.gens (A9 w).1).getD (A9 w).1 0⟩,0)
theorem DB(i c:Nat)(l:List Int):(Ad i c l).1.length=c:=by
 induction c generalizing i l with
 |zero=>rfl
 |succ c ih=>simp[Ad,ih]
theorem Ea(i c:Nat)(l:List Int):(Ad i c l).1.map (·.name)=(List.range' i c).map BB:=by
 induction c generalizing i l with
 |zero=>rfl
 |succ c ih=>
  have:(A7 i l).1.name=BB i:=by unfold A7;split<;>rfl
  simp[Ad,ih,List.range'_succ,this]
theorem D0(k c:Nat)(l:List Int):(AT k c l).1.length=c:=by
 induction c generalizing k l with
 |zero=>rfl
 |succ c ih=>simp[AT,ih]
theorem DJ(k c:Nat)(l:List Int):(AT k c l).1.map (·.name)=(List.range' k c).map Bf:=by
 induction c generalizing k l with
 |zero=>rfl
 |succ c ih=>simp[AT,ih,List.range'_succ,BU]
theorem Di(i:Nat):A6 (BB i)=true:=by
 unfold BB;split<;>decide
theorem Hh(i:Nat):A6 (Bf i)=true:=by
 unfold Bf;split<;>decide
theorem Hp(i:Nat)(l:List Int):AK (A7 i l).1=0:=by
 have h1:=AI l (n:=9) (by omega);have h2:=AI (AG l 9) (n:=40) (by omega);unfold A7;split
 ·simp[AK,Di]
 ·simp[AK,Di]
  omega
theorem Df(i c:Nat)(l:List Int):∀f∈(Ad i c l).1,AK f=0:=by
 induction c generalizing i l with
 |zero=>intro f h;simp[Ad]at h
 |succ c ih=>
  intro f h;simp only[Ad,List.mem_cons]at h;rcases h with rfl|h
  ·exact Hp i l
  ·exact ih _ _ f h
theorem FC:∀(fs pre:List Field),(∀f∈fs,AK f=0)->((pre++fs).map (·.name)).Nodup->Ab pre fs=0:=by
 intro fs
 induction fs with
 |nil=>intro pre _ _;rfl
 |cons f fs ih=>
  intro pre h hn;have h1:=h f (by simp)
  have h2:pre.any (λo=>o.name==f.name)=false:=by
   rw[List.any_eq_false];intro o ho;simp only[beq_iff_eq];intro e;rw[List.map_append,List.nodup_append]at hn;exact hn.2.2 o.name (List.mem_map_of_mem ho) f.name (by simp) e
  simp only[Ab,h1,h2];simp;exact ih _ (λx hx=>h x (by simp[hx])) (by simpa using hn)
theorem Fd:∀(ks pre:List Kind),(∀k∈ks,Aa k=0)->((pre++ks).map (·.name)).Nodup->Al pre ks=0:=by
 intro fs
 induction fs with
 |nil=>intro pre _ _;rfl
 |cons f fs ih=>
  intro pre h hn;have h1:=h f (by simp)
  have h2:pre.any (λo=>o.name==f.name)=false:=by
   rw[List.any_eq_false];intro o ho;simp only[beq_iff_eq];intro e;rw[List.map_append,List.nodup_append]at hn;exact hn.2.2 o.name (List.mem_map_of_mem ho) f.name (by simp) e
  simp only[Al,h1,h2];simp;exact ih _ (λx hx=>h x (by simp[hx])) (by simpa using hn)
theorem D3{c:Nat}(h:c<=3):((List.range' 0 c).map BB).Nodup:=by
 have:c=0\/c=1\/c=2\/c=3:=by omega
 rcases this with rfl|rfl|rfl|rfl<;>decide
theorem EV{c:Nat}(h:c<=4):((List.range' 0 c).map Bf).Nodup:=by
 have:c=0\/c=1\/c=2\/c=3\/c=4:=by omega
 rcases this with rfl|rfl|rfl|rfl|rfl<;>decide
theorem Ib(k:Nat)(l:List Int):Aa (BU k l).1=0:=by
 have h1:=AI l (n:=3) (by omega);have h2:(1+AP l 3).toNat<=3:=by omega
 have h3:=FC (Ad 0 (1+AP l 3).toNat (AG l 3)).1 [] (Df _ _ _) (by
  rw[List.nil_append,Ea];exact D3 h2)
 have h4:=DB 0 (1+AP l 3).toNat (AG l 3);unfold Aa BU;simp only[Hh,h3,h4,if_true];rw[if_neg (by omega)]
theorem EZ(i c:Nat)(l:List Int):∀f∈(AT i c l).1,Aa f=0:=by
 induction c generalizing i l with
 |zero=>intro f h;simp[AT]at h
 |succ c ih=>
  intro f h;simp only[AT,List.mem_cons]at h;rcases h with rfl|h
  ·exact Ib i l
  ·exact ih _ _ f h
theorem Gi(l:List Int):1<=(AJ l).1.length/\(AJ l).1.length<=4:=by
 have h:=AI l (n:=4) (by omega);unfold AJ;rw[D0];omega
theorem E7(l:List Int):((AJ l).1.map (·.name)).Nodup:=by
 have h:=AI l (n:=4) (by omega);unfold AJ;rw[DJ];exact EV (by omega)
theorem EM(l:List Int):∀k∈(AJ l).1,Aa k=0:=EZ _ _ _
theorem E8(l:List Int):Ag (AJ l).1=0:=by
 unfold Ag;have:=Gi l;rw[if_neg (by omega)];exact Fd _ [] (EM l) (E7 l)
theorem Ha{f:Field}(h:AK f=0)(v:Int):f.low<=As f v/\As f v<=Bg f:=by
 have:=J9 h;unfold As;rw[if_pos h];omega
theorem JB{f:Field}(h:AK f=0){v:Int}(h1:f.low<=v)(h2:v<=Bg f):As f v=v:=by
 unfold As;rw[if_pos h];omega
theorem Ju{f:Field}(h:AK f=0)(v:Int):As f (As f v)=As f v:=JB h (Ha h v).1 (Ha h v).2
theorem Jv{fs:List Field}(h:∀f∈fs,AK f=0)(vals:List Int):List.zipWith As fs (List.zipWith As fs vals)=List.zipWith As fs vals:=by
 induction fs generalizing vals with
 |nil=>rfl
 |cons f fs ih=>
  cases vals with
  |nil=>rfl
  |cons v vals=>simp[Ju (h f (by simp)),ih (λx hx=>h x (by simp[hx]))]
theorem Hr{k:Kind}(h:Aa k=0){vals:List Int}(hl:vals.length=k.fields.length):Ak k vals=(List.zipWith As k.fields vals,0):=by
 unfold Ak;rw[if_neg (by simp[h]),if_neg (by simp[hl])]
theorem E9(k:Nat)(l:List Int):(∀f∈(BU k l).1.fields,AK f=0)/\(BU k l).1.fields.length<=3:=by
 have h1:=AI l (n:=3) (by omega);refine⟨Df _ _ _,?_⟩;show(Ad _ _ _).1.length<=3
 rw[DB];omega
theorem C8(i c:Nat)(l:List Int):∀k∈(AT i c l).1,(∀f∈k.fields,AK f=0)/\k.fields.length<=3:=by
 induction c generalizing i l with
 |zero=>intro f h;simp[AT]at h
 |succ c ih=>
  intro f h;simp only[AT,List.mem_cons]at h;rcases h with rfl|h
  ·exact E9 i l
  ·exact ih _ _ f h
theorem EY(l:List Int):∀k∈(AJ l).1,(∀f∈k.fields,AK f=0)/\k.fields.length<=3:=C8 _ _ _
def vAt(fs:List Field)(l:List Int):Nat->List Int×List Int
 |0=>([],l)
 |i+1=>match fs[i]? with
  |some f=>((vAt fs l i).1++[f.low+AP (vAt fs l i).2 (2^f.bits.toNat)],AG (vAt fs l i).2 (2^f.bits.toNat))
  |none=>vAt fs l i
def cAt(ks:List Kind)(l:List Int):Nat->List Comp×List Int
 |0=>([],l)
 |i+1=>match ks[i]? with
  |some k=>if AP (cAt ks l i).2 3=2 then((cAt ks l i).1,AG (cAt ks l i).2 3)
   else((cAt ks l i).1++[⟨i,(vAt k.fields (AG (cAt ks l i).2 3) k.fields.length).1⟩],(vAt k.fields (AG (cAt ks l i).2 3) k.fields.length).2)
  |none=>cAt ks l i
def A8(ks:List Kind)(l:List Int):List Comp×List Int:=cAt ks l ks.length
def wAt(ks:List Kind)(l:List Int):Nat->List Int×List Item×List Int
 |0=>([],[],l)
 |i+1=>
  if AP (AG (wAt ks l i).2.2 3) 4=3\/(wAt ks l i).2.1.length=8 then((wAt ks l i).1++[AP (wAt ks l i).2.2 3],(wAt ks l i).2.1,AG (AG (wAt ks l i).2.2 3) 4)
  else((wAt ks l i).1++[AP (wAt ks l i).2.2 3],(wAt ks l i).2.1++[⟨⟨i,AP (wAt ks l i).2.2 3⟩,(A8 ks (AG (AG (wAt ks l i).2.2 3) 4)).1⟩],(A8 ks (AG (AG (wAt ks l i).2.2 3) 4)).2)
def BY(l:List Int):Wd:=
 ⟨(AJ l).1,(wAt (AJ l).1 (AG (AJ l).2 12) (AP (AJ l).2 12).toNat).1,(wAt (AJ l).1 (AG (AJ l).2 12) (AP (AJ l).2 12).toNat).2.1⟩
def By(f:Field):Prop:=0<=f.bits/\f.bits<=32/\ -2147483648<=f.low/\f.low<=2147483648
def Gy(ks:List Kind):Prop:=ks.length<=1099511627776/\∀k∈ks,k.fields.length<=1099511627776/\∀f∈k.fields,By f
theorem Iw(fs:List Field)(l:List Int)(i:Nat):(vAt fs l i).1.length<=i:=by
 induction i with
 |zero=>simp[vAt]
 |succ i ih=>rw[vAt];split<;>(try simp only[List.length_append,List.length_singleton])<;>omega
theorem JR(ks:List Kind)(l:List Int)(i:Nat):(cAt ks l i).1.length<=i:=by
 induction i with
 |zero=>simp[cAt]
 |succ i ih=>rw[cAt];split<;>(try split)<;>(try simp only[List.length_append,List.length_singleton])<;>omega
theorem Eo{fs:List Field}{l:List Int}{i:Nat}(h:i<fs.length):vAt fs l (i+1)=((vAt fs l i).1++[fs[i].low+AP (vAt fs l i).2 (2^fs[i].bits.toNat)],AG (vAt fs l i).2 (2^fs[i].bits.toNat)):=by
 rw[vAt,List.getElem?_eq_getElem h]
theorem D9{ks:List Kind}{l:List Int}{i:Nat}(h:i<ks.length)(h2:AP (cAt ks l i).2 3=2):cAt ks l (i+1)=((cAt ks l i).1,AG (cAt ks l i).2 3):=by
 rw[cAt,List.getElem?_eq_getElem h];simp only;rw[if_pos h2]
theorem Eh{ks:List Kind}{l:List Int}{i:Nat}(h:i<ks.length)(h2:AP (cAt ks l i).2 3≠2):cAt ks l (i+1)=((cAt ks l i).1++[⟨i,(vAt ks[i].fields (AG (cAt ks l i).2 3) ks[i].fields.length).1⟩],(vAt ks[i].fields (AG (cAt ks l i).2 3) ks[i].fields.length).2):=by
 rw[cAt,List.getElem?_eq_getElem h];simp only;rw[if_neg h2]
theorem Du{b:Nat}(h:b<=32):(1:Int)<=2^b/\(2:Int)^b<=4294967296:=by
 have h1:(2:Nat)^b<=2^32:=Nat.pow_le_pow_right (by decide) h;have h2:0<(2:Nat)^b:=Nat.pow_pos (by decide);have h3:((2:Int)^b)=(((2:Nat)^b:Nat):Int):=by simp
 rw[h3];have:(2:Nat)^32=4294967296:=by decide
 omega
theorem Hz(G:Nat)(ks:List Kind)(l:List Int)(hk:Gy ks):PO Try.prog 41 [AS false false ks,.ptr G 0 0] G (Ax l) (Az true false (A8 ks l).1) (Ax (A8 ks l).2):=by
 refine AC (nt:=50) (res:=[.tmp 4]) Try.func41 rfl (by kernel_rfl) rfl rfl rfl λSf=>?_
 obtain⟨hk0,hk1⟩:=hk;refine RG ?_;(repeat first|refine WO ?_|refine Ai λX=>?_|refine Ay λY=>?_);refine NL ?_;refine RG ?_;(repeat first|refine WO ?_|refine Ai λX=>?_|refine Ay λY=>?_);refine NL ?_;refine RG ?_;(repeat first|refine WO ?_|refine Ai λX=>?_|refine Ay λY=>?_);refine NL ?_;refine FL ?_;refine AWP.adopt (d:=5) 55 2 rfl λK=>?_
 refine Ej (λ(i K:Nat) (M:List AV) (n:Nat) (q:List Int)=>⟨[(1,.ptr G 0 0),(5,.sl K 0 n),(11,AS false false ks),(12,iA (ks.map (AU false)).length),(13,iA i)],(K,.row 55 2 M)::(G,Ax q)::Sf⟩) (λi _ M n q=>i<=ks.length/\M=(cAt ks l i).1.map (AE false)/\n=M.length/\q=(cAt ks l i).2) (λi _ _ _ _=>ks.length-i) 0 K [] 0 l ⟨Nat.zero_le _,rfl,rfl,rfl⟩ ?_;rintro i K M n q ⟨hi,hM,hn,hq⟩;(repeat first|refine WK ?_|refine Ai λX=>?_|refine Ay λY=>?_);refine AWP.cond rfl (λhc=>?_) (λhc=>?_)
 ·have h:i<ks.length:=by simpa using hc
  obtain⟨hf0,hf1⟩:=hk1 _ (List.getElem_mem h);have h3:=AI q (n:=3) (by decide);have hn1:n+1<=1099511627776:=by have:=JR ks l i;rw[hn,hM,List.length_map];omega
  (repeat first|(refine AOps.gN ?_;first|(refine AOps.g_callf ?_;first|refine AOps.o2 (h:=(A1 G _ _ (by decide))) (k:=?_)))|refine WK ?_|refine Ai λX=>?_|refine Ay λY=>?_);refine AWP.cond rfl (λhe=>?_) (λhe=>?_)
  ·have he:AP q 3=2:=by simpa using he
   (repeat first|refine WK ?_|refine Ai λX=>?_|refine Ay λY=>?_);refine CO (i+1) K M n _ ⟨h,?_,hn,?_⟩
   ·rw[D9 h (hq▸he),hM]
   ·rw[D9 h (hq▸he),hq]
  ·have he:AP q 3≠2:=by simpa using he
   refine RG ?_;(repeat first|refine WO ?_|refine Ai λY=>?_|refine Ay λY=>?_);refine NL ?_;refine AWP.adoptIn (Y:=Y) 3 1 .here (λF=>.cons (.agg (.cons .same (.cons (.base .nil) .nil))) .nil) λF=>?_
   (repeat first|refine WK ?_|refine Ai λX=>?_|refine Ay λY=>?_);obtain⟨fs,hfs⟩:∃fs,ks[i].fields=fs:=⟨_,rfl⟩;obtain⟨q1,hq1⟩:∃q1,AG q 3=q1:=⟨_,rfl⟩;rw[hq1,hfs];have hck:cAt ks l (i+1)=((cAt ks l i).1++[⟨i,(vAt fs q1 fs.length).1⟩],(vAt fs q1 fs.length).2):=by rw[Eh h (hq▸he),<-hq,hq1,hfs]
   rw[hfs]at hf0 hf1;refine Ej (λ(j F:Nat) (L:List AV) (m:Nat) (r:List Int)=>⟨[(1,.ptr G 0 0),(5,.sl K 0 n),(6,iA i),(8,.ptr Y 0 0),(11,AS false false ks),(12,iA (ks.map (AU false)).length),(13,iA i),(24,Cc false fs),(25,iA (fs.map fieldA).length),(26,iA j)],(F,.row 3 1 L)::(Y,.row 55 2 [.agg [iA i,.sl F 0 m]])::(K,.row 55 2 M)::(G,Ax r)::Sf⟩) (λj _ L m r=>j<=fs.length/\L=(vAt fs q1 j).1.map iA/\m=L.length/\r=(vAt fs q1 j).2) (λj _ _ _ _=>fs.length-j) 0 F [] 0 q1 ⟨Nat.zero_le _,rfl,rfl,rfl⟩ ?_;rintro j F L m r ⟨hj,hL,hm,hr⟩;(repeat first|refine WK ?_|refine Ai λX=>?_|refine Ay λY=>?_);refine AWP.cond rfl (λhd=>?_) (λhd=>?_)
   ·have hj':j<fs.length:=by simpa using hd
    obtain⟨hb0,hb1,hl0,hl1⟩:=hf1 _ (List.getElem_mem hj');obtain⟨b,hb⟩:∃b:Nat,fs[j].bits=b:=⟨fs[j].bits.toNat,by omega⟩;have hp:=Du (b:=b) (by omega);have hw:IntKind.i64.wrap (1*2^b)=2^b:=by rw[Int.one_mul];exact Ba (by omega) (by omega)
    have hv:=AI r (n:=IntKind.i64.wrap (1*2^b)) (by omega);have hm1:m+1<=1099511627776:=by have:=Iw fs q1 j;rw[hm,hL,List.length_map];omega
    (repeat first|refine WK ?_|refine Ai λZ=>?_|refine Ay λY=>?_);refine AWP.rs λX7=>?_
    refine RU ?_;(repeat first|(refine RGo.gN ?_;first|(refine RGo.g_callf ?_;first|refine RGo.o2 (h:=(A1 G _ _ (by rw[hw];omega))) (k:=?_))|refine RGo.p (W.shl rfl rfl hb (by show b<=64;omega)) rfl ?_|refine RGo.p (W.add rfl rfl (by omega)) rfl ?_)|(refine AX ?_;first|(refine RGo.g_callf ?_;first|refine RGo.o2 (h:=(A1 G _ _ (by rw[hw];omega))) (k:=?_))|refine RGo.p (W.shl rfl rfl hb (by show b<=64;omega)) rfl ?_|refine RGo.p (W.add rfl rfl (by omega)) rfl ?_)|refine RK ?_|refine RGo.nil (by kernel_rfl) ?_);(repeat first|refine WK ?_|refine Ai λX=>?_|refine Ay λY=>?_);have hva:vAt fs q1 (j+1)=((vAt fs q1 j).1++[fs[j].low+AP r (IntKind.i64.wrap (1*2^b))],AG r (IntKind.i64.wrap (1*2^b))):=by rw[Eo hj',<-hr,hw,hb];rfl
    refine CO (j+1) X7 _ _ _ ⟨hj',?_,?_,?_⟩
    ·rw[hva,hL,List.map_append];rfl
    ·rw[List.length_append,hm]
    ·rw[hva]
   ·have hj':j=fs.length:=by rw[decide_eq_false_iff_not,List.length_map]at hd;omega
    subst hj';refine FL ?_;refine AWP.iceIn (X:=F) (Y:=Y) .here (.next .here) rfl (.cons (.agg (.cons .same (.cons (.base (.sl (by omega))) .nil))) .nil) ?_
    have hF:AV.frzs ((L.drop 0).take m)=(vAt fs q1 fs.length).1.map iA:=by
     rw[List.drop_zero,List.take_of_length_le (by omega),hL];exact Frzs.h
    rw[hF];(repeat first|(refine AOps.gN ?_;first|(refine AOps.g_lit ?_;refine AOps.goL (AE false ⟨i,(vAt fs q1 fs.length).1⟩) ?_))|refine WK ?_|refine Ai λX=>?_|refine Ay λY=>?_);refine CO (i+1) Y _ _ _ ⟨h,?_,?_,?_⟩
    ·rw[hck,hM,List.map_append];rfl
    ·rw[List.length_append,hn]
    ·rw[hck,hr]
 ·have h:i=ks.length:=by rw[decide_eq_false_iff_not,List.length_map]at hc;omega
  subst h;(repeat first|refine WK ?_|refine Ai λX=>?_|refine Ay λY=>?_);refine RT ?_;subst hM hq;exact⟨[.sl K 0 n],[.lst true 55 2 ((cAt ks l ks.length).1.map (AE false))],_,[(G,Ax (cAt ks l ks.length).2)],.cons (.tmp rfl) rfl .nil,.cons (.cell (.sl (p:=0) .here hn)) .nil,by exact Sub.f,rfl,rfl⟩
theorem DT(ks:List Kind)(l:List Int)(i:Nat):(wAt ks l i).1.length=i:=by
 induction i with
 |zero=>rfl
 |succ i ih=>rw[wAt];split<;>simp[ih]
theorem En(ks:List Kind)(l:List Int)(i:Nat):(wAt ks l i).2.1.length<=i:=by
 induction i with
 |zero=>simp[wAt]
 |succ i ih=>rw[wAt];split<;>(try simp only[List.length_append,List.length_singleton])<;>omega
def wdO(w:Wd):AV:=.agg [AS false false w.kinds,Af true w.gens,BJ true false w.items]
instance {w:Wd}:Frz (wdO w) (wdA false w):=⟨by unfold wdO wdA;exact Frz.h⟩
theorem Gj(i:Nat)(l:List Int):By (A7 i l).1:=by
 have h9:=AI l (n:=9) (by decide);have h40:=AI (AG l 9) (n:=40) (by decide);unfold A7;split<;>refine⟨?_,?_,?_,?_⟩<;>simp<;>omega
theorem MR(i:Nat)(l:List Int):∀f∈(fAt i l).1,By f:=by
 induction i with
 |zero=>intro f hf;cases hf
 |succ i ih=>
  intro f hf;rcases List.mem_append.1 hf with hf|hf
  ·exact ih f hf
  ·rw[List.mem_singleton.1 hf];exact Gj _ _
theorem Hn(k:Nat)(l:List Int):(BU k l).1.fields.length<=3/\∀f∈(BU k l).1.fields,By f:=by
 have h:=AI l (n:=3) (by decide);show(Ad 0 (1+AP l 3).toNat (AG l 3)).1.length<=3/\∀f∈(Ad 0 (1+AP l 3).toNat (AG l 3)).1,By f
 rw[Dg];exact⟨by rw[MS];omega,MR _ _⟩
theorem JE(i:Nat)(l:List Int):∀k∈(kAt i l).1,k.fields.length<=3/\∀f∈k.fields,By f:=by
 induction i with
 |zero=>intro f hf;cases hf
 |succ i ih=>
  intro f hf;rcases List.mem_append.1 hf with hf|hf
  ·exact ih f hf
  ·rw[List.mem_singleton.1 hf];exact Hn _ _
theorem De(l:List Int):(AJ l).1.length=(1+AP l 4).toNat:=by rw[B9,JF]
theorem Ca(l:List Int):Gy (AJ l).1:=by
 have h:=AI l (n:=4) (by decide);refine⟨by rw[De];omega,?_⟩;rw[B9];intro k hk;have:=JE _ _ k hk;exact⟨by omega,this.2⟩
theorem KW(l:List Int):PS Try.prog 17 [Af false l] (wdO (BY l)):=by
 refine AC (nt:=52) (res:=[.cell 2 43]) Try.func17 rfl (by kernel_rfl) rfl rfl rfl λSf=>?_
 have hko:=Ca l;obtain⟨ks,hks⟩:∃ks,(AJ l).1=ks:=⟨_,rfl⟩;obtain⟨l1,hl1⟩:∃l1,(AJ l).2=l1:=⟨_,rfl⟩;have h12:=AI l1 (n:=12) (by decide);obtain⟨c,hc⟩:∃c:Nat,AP l1 12=c:=⟨(AP l1 12).toNat,by omega⟩;obtain⟨l2,hl2⟩:∃l2,AG l1 12=l2:=⟨_,rfl⟩;have hg:BY l=⟨ks,(wAt ks l2 c).1,(wAt ks l2 c).2.1⟩:=by unfold BY;rw[hks,hl1,hl2,hc];rfl
 have hkp:=λG=>Hf G l
 rw[hks,hl1]at hkp;rw[hks]at hko;rw[hg];clear hg hks hl1;refine RG ?_;(repeat first|refine WO ?_|refine Ai λR=>?_|refine Ay λY=>?_);refine NL ?_;refine RG ?_;(repeat first|refine WO ?_|refine Ai λG=>?_|refine Ay λY=>?_);refine NL ?_;refine RG ?_;(repeat first|(refine AOps.gN ?_;first|(refine AOps.g_callf ?_;first|refine JU (h:=(hkp G)) (k:=?_)))|refine WO ?_|refine Ai λV=>?_|refine Ay λY=>?_);refine NL ?_;refine RG ?_;(repeat first|(refine AOps.gN ?_;first|(refine AOps.g_callf ?_;first|refine AOps.o2 (h:=(A1 G _ _ (by decide))) (k:=?_)))|refine WO ?_|refine Ai λX=>?_|refine Ay λY=>?_);refine NL ?_;rw[hl2,hc];refine AWP.adoptIn (Y:=V) 53 3 (by exact At.f) (λF=>.cons (.agg (.cons .same (.cons .same (.cons (.base .nil) .nil)))) .nil) λB=>?_
 refine AWP.adoptIn (Y:=V) 3 1 (by exact At.f) (λF=>.cons (.agg (.cons .same (.cons (.base .nil) (.cons .same .nil)))) .nil) λA=>?_
 refine FL ?_;refine JT (λ(i A B:Nat) (L M:List AV) (n:Nat) (q:List Int)=>⟨[(2,.ptr R 0 0),(3,.ptr G 0 0),(4,.ptr V 0 0),(13,iA c),(14,iA i)],(A,.row 3 1 L)::(B,.row 53 3 M)::(V,.row 43 3 [.agg [AS false false ks,.sl A 0 i,.sl B 0 n]])::(G,Ax q)::(R,.row 43 3 [.agg [.prim (.slice none 0 0),.prim (.slice none 0 0),.prim (.slice none 0 0)]])::Sf⟩) (λi _ _ L M n q=>i<=c/\L=(wAt ks l2 i).1.map iA/\M=(wAt ks l2 i).2.1.map (AH false)/\n=M.length/\q=(wAt ks l2 i).2.2) (λi _ _ _ _ _ _=>c-i) 0 A B [] [] 0 l2 ⟨Nat.zero_le _,rfl,rfl,rfl,rfl⟩ ?_;rintro i A B L M n q ⟨hi,hL,hM,hn,hq⟩;have hA:=DT ks l2 i;have hB:=En ks l2 i;(repeat first|refine WK ?_|refine Ai λX=>?_|refine Ay λY=>?_);refine AWP.cond rfl (λhd=>?_) (λhd=>?_)
 ·have h:i<c:=by rw[decide_eq_true_eq]at hd;omega
  have h3:=AI q (n:=3) (by decide);have h4:=AI (AG q 3) (n:=4) (by decide);refine RG ?_;(repeat first|refine WO ?_|refine Ai λX=>?_|refine Ay λY=>?_);refine NL ?_;refine AWP.rs λX7=>?_
  refine RU ?_;(repeat first|(refine RGo.gN ?_;first|(refine RGo.g_callf ?_;first|refine RGo.o2 (h:=(A1 G _ _ (by decide))) (k:=?_)))|(refine AX ?_;first|(refine RGo.g_callf ?_;first|refine RGo.o2 (h:=(A1 G _ _ (by decide))) (k:=?_)))|refine RK ?_|refine RGo.nil (by kernel_rfl) ?_);(repeat first|(refine AOps.gN ?_;first|(refine AOps.g_callf ?_;first|refine AOps.o2 (h:=(A1 G _ _ (by decide))) (k:=?_)))|refine WK ?_|refine Ai λX=>?_|refine Ay λY=>?_);have hLl:L.length=i:=by rw[hL,List.length_map,hA]
  obtain⟨IT,hIT⟩:∃IT,(wAt ks l2 i).2.1=IT:=⟨_,rfl⟩;rw[hIT]at hM hB;have hnl:n=IT.length:=by rw[hn,hM,List.length_map]
  have hat:(L++[.prim (.int .i64 (AP q 3))])[i]?=some (.prim (.int .i64 (AP q 3))):=by rw[<-hLl];simp
  refine AWP.cond rfl (λhe=>?_) (λhe=>?_)
  ·have he:AP (AG q 3) 4=3\/n=8:=by rw[Bool.or_eq_true,decide_eq_true_eq,decide_eq_true_eq]at he;omega
   have hw:wAt ks l2 (i+1)=((wAt ks l2 i).1++[AP q 3],IT,AG (AG q 3) 4):=by rw[wAt,<-hq,hIT,<-hnl,if_pos he]
   (repeat first|refine WK ?_|refine Ai λX=>?_|refine Ay λY=>?_);refine Db (i+1) X7 B _ M n _ ⟨h,?_,?_,hn,?_⟩
   ·rw[hw,hL,List.map_append];rfl
   ·rw[hw,hM]
   ·rw[hw]
  ·have he:¬(AP (AG q 3) 4=3\/n=8):=by rw[Bool.or_eq_false_iff,decide_eq_false_iff_not,decide_eq_false_iff_not]at he;omega
   have hw:wAt ks l2 (i+1)=((wAt ks l2 i).1++[AP q 3],IT++[⟨⟨i,AP q 3⟩,(A8 ks (AG (AG q 3) 4)).1⟩],(A8 ks (AG (AG q 3) 4)).2):=by rw[wAt,<-hq,hIT,<-hnl,if_neg he]
   have hin:i<i+[AV.prim (.int .i64 (AP q 3))].length:=Nat.lt_succ_self i;refine AWP.rs λX8=>?_
   refine RU ?_;(repeat first|(refine RGo.gN ?_;first|(refine RGo.g_callf ?_;first|refine RGo.o2 (h:=(Hz G ks _ hko)) (k:=?_))|(refine RGo.g_lit ?_;refine RGo.goL (AH false ⟨⟨i,AP q 3⟩,(A8 ks (AG (AG q 3) 4)).1⟩) ?_))|(refine AX ?_;first|(refine RGo.g_callf ?_;first|refine RGo.o2 (h:=(Hz G ks _ hko)) (k:=?_))|(refine RGo.g_lit ?_;refine RGo.goL (AH false ⟨⟨i,AP q 3⟩,(A8 ks (AG (AG q 3) 4)).1⟩) ?_))|refine RK ?_|refine RGo.nil (by kernel_rfl) ?_);(repeat first|refine WK ?_|refine Ai λX=>?_|refine Ay λY=>?_);refine Db (i+1) X7 X8 _ _ _ _ ⟨h,?_,?_,?_,?_⟩
   ·rw[hw,hL,List.map_append];rfl
   ·rw[hw,hM,List.map_append];rfl
   ·rw[List.length_append,hn]
   ·rw[hw]
 ·have h:i=c:=by rw[decide_eq_false_iff_not]at hd;omega
  subst h;(repeat first|refine WK ?_|refine Ai λX=>?_|refine Ay λY=>?_);refine RT ?_;subst hL hM;have hA:i=((wAt ks l2 i).1.map iA).length:=by rw[List.length_map,hA]
  exact⟨[.agg [AS false false ks,.sl A 0 i,.sl B 0 n]],[wdO ⟨ks,(wAt ks l2 i).1,(wAt ks l2 i).2.1⟩],_,[],.cons (.cell (p:=4) rfl (by exact At.f) TAg.h TSize.h rfl rfl) rfl .nil,.cons (.agg (.cons .same (.cons (.sl (p:=0) .here hA) (.cons (.sl (p:=0) .here hn) .nil)))) .nil,by exact Sub.f,rfl,rfl⟩
theorem JQ{ks:List Kind}{l:List Int}{i:Nat}{c:Comp}(h:c∈(cAt ks l i).1):∃(j:Nat) (hj:j<ks.length) (q:List Int),j<i/\c=⟨j,(vAt ks[j].fields q ks[j].fields.length).1⟩:=by
 induction i with
 |zero=>cases h
 |succ i ih=>
  by_cases hi:i<ks.length
  ·by_cases h2:AP (cAt ks l i).2 3=2
   ·rw[D9 hi h2]at h
    obtain⟨j,hj,q,h3,h4⟩:=ih h;exact⟨j,hj,q,by omega,h4⟩
   ·rw[Eh hi h2]at h
    rcases List.mem_append.1 h with h|h
    ·obtain⟨j,hj,q,h3,h4⟩:=ih h
     exact⟨j,hj,q,by omega,h4⟩
    ·rw[List.mem_singleton.1 h]
     exact⟨i,hi,_,by omega,rfl⟩
  ·rw[cAt,List.getElem?_eq_none (by omega)]at h
   obtain⟨j,hj,q,h3,h4⟩:=ih h;exact⟨j,hj,q,by omega,h4⟩
theorem Iv{ks:List Kind}{l:List Int}{i:Nat}{it:Item}(h:it∈(wAt ks l i).2.1):∃(j:Nat) (q:List Int),j<i/\(wAt ks l i).1[j]?=some it.ent.gen/\it.ent.n=j/\it.comps=(A8 ks q).1:=by
 induction i with
 |zero=>cases h
 |succ i ih=>
  have hl:=DT ks l i
  have hup:∀(x:Int) (g:Int) (j:Nat),(wAt ks l i).1[j]?=some g->((wAt ks l i).1++[x])[j]?=some g:=λx g j hg=>by
   rw[List.getElem?_append_left (List.getElem?_eq_some_iff.1 hg).1,hg]
  rw[wAt]at h⊢;split
  ·rename_i hs
   rw[if_pos hs]at h;obtain⟨j,q,h1,h2,h3,h4⟩:=ih h;exact⟨j,q,by omega,hup _ _ _ h2,h3,h4⟩
  ·rename_i hs
   rw[if_neg hs]at h;rcases List.mem_append.1 h with h|h
   ·obtain⟨j,q,h1,h2,h3,h4⟩:=ih h
    exact⟨j,q,by omega,hup _ _ _ h2,h3,h4⟩
   ·rw[List.mem_singleton.1 h]
    exact⟨i,_,by omega,by rw[List.getElem?_append_right (by omega),hl];simp,rfl,rfl⟩
theorem E6(l:List Int):(AJ l).1.length<=4/\∀k∈(AJ l).1,k.fields.length<=3:=by
 have h:=AI l (n:=4) (by decide);refine⟨by rw[De];omega,?_⟩;rw[B9];intro k hk;exact(JE _ _ k hk).1
theorem Bx{ks:List Kind}:∀{l:List Comp} {last:Int},-1<=last->(BR ks last l=true↔l.Pairwise (λa b=>a.kind<b.kind)/\∀c∈l,last<c.kind/\c.kind<ks.length/\∃k,ks[c.kind.toNat]?=some k/\BD k c.vals=true)
 |[],_,_=>by simp[BR]
 |c::l,last,hl=>by
  rw[BR];constructor
  ·intro h
   split at h
   ·rename_i k hk
    simp only[Bool.and_eq_true,decide_eq_true_eq]at h;obtain⟨⟨⟨h1,h2⟩,h3⟩,h4⟩:=h;obtain⟨h5,h6⟩:=(Bx (by omega)).1 h4;refine⟨List.pairwise_cons.2 ⟨λd hd=>(h6 d hd).1,h5⟩,λd hd=>?_⟩;rcases List.mem_cons.1 hd with rfl|hd
    ·exact⟨h1,h2,k,hk,h3⟩
    ·obtain⟨q1,q2⟩:=h6 d hd
     exact⟨by omega,q2⟩
   ·cases h
  ·rintro⟨h1,h2⟩
   obtain⟨h3,h4⟩:=List.pairwise_cons.1 h1;obtain⟨h5,h6,k,hk,h7⟩:=h2 c (by simp);rw[hk];simp only[Bool.and_eq_true,decide_eq_true_eq];exact⟨⟨⟨h5,h6⟩,h7⟩,(Bx (by omega)).2 ⟨h4,λd hd=>⟨h3 d hd,(h2 d (by simp[hd])).2⟩⟩⟩
theorem CJ{ks:List Kind}{gens:List Int}:∀{l:List Item} {last:Int},-1<=last->(A4 ks gens last l=true↔l.Pairwise (λa b=>a.ent.n<b.ent.n)/\∀it∈l,last<it.ent.n/\it.ent.n<gens.length/\gens[it.ent.n.toNat]?=some it.ent.gen/\it.ent.gen≠1073741824/\Bd ks it.comps=true)
 |[],_,_=>by simp[A4]
 |c::l,last,hl=>by
  rw[A4];constructor
  ·intro h
   split at h
   ·rename_i k hk
    simp only[Bool.and_eq_true,decide_eq_true_eq,Bool.not_eq_true',decide_eq_false_iff_not]at h;obtain⟨⟨⟨⟨⟨h1,h2⟩,h3⟩,h4⟩,h7⟩,h8⟩:=h;obtain⟨h5,h6⟩:=(CJ (by omega)).1 h8;refine⟨List.pairwise_cons.2 ⟨λd hd=>(h6 d hd).1,h5⟩,λd hd=>?_⟩;rcases List.mem_cons.1 hd with rfl|hd
    ·exact⟨h1,h2,by rw[hk,h3],h4,h7⟩
    ·obtain⟨q1,q2⟩:=h6 d hd
     exact⟨by omega,q2⟩
   ·cases h
  ·rintro⟨h1,h2⟩
   obtain⟨h3,h4⟩:=List.pairwise_cons.1 h1;obtain⟨h5,h6,hk,h7,h8⟩:=h2 c (by simp);rw[hk];simp only[Bool.and_eq_true,decide_eq_true_eq,Bool.not_eq_true',decide_eq_false_iff_not];exact⟨⟨⟨⟨⟨h5,h6⟩,trivial⟩,h7⟩,h8⟩,(CJ (by omega)).2 ⟨h4,λd hd=>⟨h3 d hd,(h2 d (by simp[hd])).2⟩⟩⟩
structure WdOK(w:Wd):Prop where
 ks:Ag w.kinds=0
 gl:w.gens.length<=256
 il:w.items.length<=w.gens.length
 gs:∀g∈w.gens,0<=g/\g<=1073741824
 so:w.items.Pairwise λa b=>a.ent.n<b.ent.n
 it:∀it∈w.items,0<=it.ent.n/\it.ent.n<w.gens.length/\w.gens[it.ent.n.toNat]?=some it.ent.gen/\it.ent.gen≠1073741824/\Bd w.kinds it.comps=true
theorem Dq(w:Wd):EG w=0↔WdOK w:=by
 have hg:DI w.gens=true↔∀g∈w.gens,0<=g/\g<=1073741824:=by
  unfold DI;rw[List.all_eq_true];simp only[Bool.and_eq_true,decide_eq_true_eq]
 have hi:=CJ (ks:=w.kinds) (gens:=w.gens) (l:=w.items) (last:=-1) (by omega);unfold EG;constructor
 ·intro h
  split at h
  ·exact absurd h ‹_›
  rename_i h1;split at h
  ·cases h
  rename_i h2;split at h
  ·cases h
  rename_i h3;split at h
  ·cases h
  rename_i h4;obtain⟨h5,h6⟩:=hi.1 (by simpa using h4);exact⟨by simpa using h1,by omega,by omega,hg.1 (by simpa using h3),h5,λit hit=>by obtain⟨a,b⟩:=h6 it hit;exact⟨by omega,b⟩⟩
 ·intro h
  rw[if_neg (by simp[h.ks]),if_neg (by have:=h.gl;have:=h.il;omega),if_neg (by rw[hg.2 h.gs];simp),if_neg (by rw[hi.2 ⟨h.so,λit hit=>by obtain⟨a,b⟩:=h.it it hit;exact⟨by omega,b⟩⟩];simp)]
theorem LP(ks:List Kind)(l:List Int)(i:Nat):(cAt ks l i).1.Pairwise λa b=>a.kind<b.kind:=by
 induction i with
 |zero=>exact .nil
 |succ i ih=>
  by_cases hi:i<ks.length
  ·by_cases h2:AP (cAt ks l i).2 3=2
   ·rw[D9 hi h2];exact ih
   ·rw[Eh hi h2]
    refine List.pairwise_append.2 ⟨ih,List.pairwise_singleton ..,λa ha b hb=>?_⟩;rw[List.mem_singleton.1 hb];obtain⟨j,hj,q,hji,rfl⟩:=JQ ha;show(j:Int)<i
    omega
  ·rw[cAt,List.getElem?_eq_none (by omega)];exact ih
theorem Ix{fs:List Field}(hf:∀f∈fs,AK f=0)(hr:∀f∈fs,By f)(l:List Int):∀i,i<=fs.length->List.zipWith As (fs.take i) (vAt fs l i).1=(vAt fs l i).1/\(vAt fs l i).1.length=i
 |0,_=>⟨rfl,rfl⟩
 |i+1,h=>by
  obtain⟨h1,h2⟩:=Ix hf hr l i (by omega);rw[Eo (by omega)];have hm:=List.getElem_mem (l:=fs) (n:=i) (by omega);obtain⟨hb0,hb1,_,_⟩:=hr _ hm;have hp:=Du (b:=fs[i].bits.toNat) (by omega);have hv:=AI (vAt fs l i).2 (n:=2^fs[i].bits.toNat) (by omega);have hh:Bg fs[i]=fs[i].low+(2^fs[i].bits.toNat-1):=by unfold Bg;rw[if_pos (hf _ hm)]
  refine⟨?_,by rw[List.length_append,h2];rfl⟩;rw[List.take_succ_eq_append_getElem (by omega),List.zipWith_append (by rw[h2,List.length_take];omega),h1];simp only[List.zipWith_cons_cons,List.zipWith_nil_left];rw[JB (hf _ hm) (by omega) (by rw[hh];omega)]
theorem JZ{k:Kind}(h1:Aa k=0)(hf:∀f∈k.fields,AK f=0)(hr:∀f∈k.fields,By f)(l:List Int):BD k (vAt k.fields l k.fields.length).1=true:=by
 obtain⟨h2,h3⟩:=Ix hf hr l k.fields.length (Nat.le_refl _);rw[List.take_length]at h2;unfold BD;rw[Hr h1 h3,h2];simp
structure KsGood(ks:List Kind):Prop where
 one:∀k∈ks,Aa k=0
 fld:∀k∈ks,∀f∈k.fields,AK f=0
 rng:∀k∈ks,∀f∈k.fields,By f
theorem Fg(l:List Int):KsGood (AJ l).1:=
 ⟨EM l,λk hk=>(EY l k hk).1,λk hk=>((Ca l).2 k hk).2⟩
theorem Fh{ks:List Kind}(h:KsGood ks)(l:List Int):Bd ks (A8 ks l).1=true:=by
 unfold Bd;rw[Bx (by omega)];refine⟨LP _ _ _,λc hc=>?_⟩;obtain⟨j,hj,q,_,rfl⟩:=JQ hc;have hm:=List.getElem_mem hj;exact⟨by show(-1:Int)<(j:Int);omega,by show(j:Int)<_;omega,ks[j],List.getElem?_eq_getElem hj,JZ (h.one _ hm) (h.fld _ hm) (h.rng _ hm) q⟩
theorem Ka(ks:List Kind)(l:List Int)(i:Nat):(wAt ks l i).2.1.Pairwise λa b=>a.ent.n<b.ent.n:=by
 induction i with
 |zero=>exact .nil
 |succ i ih=>
  rw[wAt];split
  ·exact ih
  ·refine List.pairwise_append.2 ⟨ih,List.pairwise_singleton ..,λa ha b hb=>?_⟩
   rw[List.mem_singleton.1 hb];obtain⟨j,q,hji,_,e,_⟩:=Iv ha;show a.ent.n<(i:Int)
   omega
theorem Kb(ks:List Kind)(l:List Int)(i:Nat):∀g∈(wAt ks l i).1,0<=g/\g<3:=by
 induction i with
 |zero=>intro g hg;cases hg
 |succ i ih=>
  intro g hg;rw[wAt]at hg;have h3:=AI (wAt ks l i).2.2 (n:=3) (by decide);split at hg<;>
  ·rcases List.mem_append.1 hg with hg|hg
   ·exact ih g hg
   ·rw[List.mem_singleton.1 hg];exact h3
theorem Hl(l:List Int):WdOK (BY l):=by
 have h:=AI (AJ l).2 (n:=12) (by decide);have h1:=En (AJ l).1 (AG (AJ l).2 12) (AP (AJ l).2 12).toNat;have h2:=DT (AJ l).1 (AG (AJ l).2 12) (AP (AJ l).2 12).toNat;have h3:=Kb (AJ l).1 (AG (AJ l).2 12) (AP (AJ l).2 12).toNat;refine⟨E8 l,?_,?_,λg hg=>?_,Ka _ _ _,λit hit=>?_⟩
 ·exact Nat.le_trans (Nat.le_of_eq h2) (by omega)
 ·exact Nat.le_trans h1 (Nat.le_of_eq h2.symm)
 ·have:=h3 g hg;omega
 ·obtain⟨j,q,hji,hg,hn,hc⟩:=Iv hit
  have hjl:j<(wAt (AJ l).1 (AG (AJ l).2 12) (AP (AJ l).2 12).toNat).1.length:=(List.getElem?_eq_some_iff.1 hg).1;have hgm:=h3 _ (List.mem_of_getElem? hg);refine⟨by omega,?_,?_,by omega,by rw[hc];exact Fh (Fg l) q⟩
  ·rw[hn];show(j:Int)<((wAt _ _ _).1.length:Int);omega
  ·rw[hn];exact hg
section
section
variable {α:Type}{key:α->Int}{l a b:List α}
def KS(key:α->Int)(l:List α):Prop:=l.Pairwise λa b=>key a<key b
end
theorem held_iff{ks:List Kind}{l:List Comp}:Bd ks l=true↔Mm l/\∀c∈l,0<=c.kind/\c.kind<ks.length/\∃k,ks[c.kind.toNat]?=some k/\BD k c.vals=true:=by
 unfold Bd;rw[Bx (by omega)];constructor
 ·rintro⟨h1,h2⟩
  exact⟨h1,λc hc=>⟨by have:=(h2 c hc).1;omega,(h2 c hc).2⟩⟩
 ·rintro⟨h1,h2⟩
  exact⟨h1,λc hc=>⟨by have:=(h2 c hc).1;omega,(h2 c hc).2⟩⟩
theorem Ga{pre ks:List Kind}(h:Al pre ks=0):∀k∈ks,Aa k=0:=by
 induction ks generalizing pre with
 |nil=>intro k hk;cases hk
 |cons x l ih=>
  intro k hk;simp only[Al]at h;split at h
  ·exact absurd h ‹_›
  ·rename_i hx
   split at h
   ·cases h
   ·rcases List.mem_cons.1 hk with rfl|hk
    ·simpa using hx
    ·exact ih h k hk
theorem BE{ks:List Kind}(h:Ag ks=0):ks.length<=16/\∀k∈ks,Aa k=0:=by
 unfold Ag at h;split at h
 ·cases h
 ·exact⟨by omega,Ga h⟩
def LL(ks:List Kind)(c:Comp):Comp:=match ks[c.kind.toNat]? with
 |some k=>⟨c.kind,(Ak k c.vals).1⟩
 |none=>c
def Lh(ks:List Kind)(c:Comp):Prop:=0<=c.kind/\c.kind<ks.length/\∃k,ks[c.kind.toNat]?=some k/\(Ak k c.vals).2=0
theorem JM{ks:List Kind}{c:Comp}{k:Kind}(h:ks[c.kind.toNat]?=some k):LL ks c=⟨c.kind,(Ak k c.vals).1⟩:=by
 unfold LL;rw[h]
theorem FA{ks:List Kind}:∀{l pre out:List Comp},(∀c∈l,Lh ks c)->l.Pairwise (λa b=>a.kind≠b.kind)->(∀a∈pre,∀b∈l,a.kind≠b.kind)->B4 ks pre out l=(out++l.map (LL ks),0)
 |[],pre,out,_,_,_=>by simp[B4]
 |c::l,pre,out,h1,h2,h3=>by
  obtain⟨a,b,k,hk,hf⟩:=h1 c (by simp);obtain⟨h4,h5⟩:=List.pairwise_cons.1 h2
  have hany:pre.any (λo=>decide (o.kind=c.kind))=false:=by
   rw[List.any_eq_false];intro x hx;simpa using h3 x hx c (by simp)
  rw[B4,if_neg (by omega),hany,if_neg (by simp),hk];dsimp only;rw[if_neg (by simp[hf]),FA (λd hd=>h1 d (by simp[hd])) h5 (λx hx d hd=>?_),List.map_cons,JM hk]
  ·simp
  ·rcases List.mem_append.1 hx with hx|hx
   ·exact h3 x hx d (by simp[hd])
   ·rw[List.mem_singleton.1 hx];exact h4 d hd
theorem JY{ks:List Kind}(hk:Ag ks=0){l:List Comp}(h1:∀c∈l,Lh ks c)(h2:l.Pairwise (λa b=>a.kind≠b.kind)):Dr ks l=(F3 (l.map (LL ks)),0):=by
 unfold Dr;rw[if_neg (by simp[hk]),FA h1 h2 (λ_ h=>by cases h),if_neg (by simp)];rfl
theorem LA{l:List Comp}(h:Mm l):F3 l=l:=
 (E1 (h.imp λh=>by omega) (List.Perm.refl _) (h.imp λh=>by omega)).symm
theorem Dz{k:Kind}{v:List Int}(h:BD k v=true):Ak k v=(v,0):=by
 unfold BD at h;simp only[Bool.and_eq_true,decide_eq_true_eq]at h;exact Prod.ext h.2 h.1
theorem Hs{k:Kind}{v:List Int}(h:(Ak k v).2=0):BD k (Ak k v).1=true/\(Ak k v).1=List.zipWith As k.fields v/\v.length=k.fields.length:=by
 unfold Ak at h⊢;split at h
 ·exact absurd h ‹_›
 ·rename_i h1
  have h1:Aa k=0:=by simpa using h1
  split at h
  ·cases h
  ·rename_i h2
   have h2:v.length=k.fields.length:=by simpa using h2
   rw[if_neg (by simp[h1]),if_neg (by simp[h2])];refine⟨?_,rfl,h2⟩;unfold BD;rw[Hr h1 (by simp[h2]),Jv (B7 h1).2.2];simp
theorem LJ{ks:List Kind}{l:List Comp}(h:Bd ks l=true):(∀c∈l,Lh ks c)/\l.Pairwise (λa b=>a.kind≠b.kind)/\l.map (LL ks)=l:=by
 obtain⟨hs,hm⟩:=held_iff.1 h;refine⟨λc hc=>?_,hs.imp λh=>by omega,?_⟩
 ·obtain⟨a,b,k,hk,hh⟩:=hm c hc
  exact⟨a,b,k,hk,by rw[Dz hh]⟩
 ·conv=>rhs;rw[<-List.map_id l]
  refine List.map_congr_left λc hc=>?_
  obtain⟨a,b,k,hk,hh⟩:=hm c hc;rw[JM hk,Dz hh];rfl
theorem JX{ks:List Kind}(hk:Ag ks=0){l:List Comp}(h:Bd ks l=true):Dr ks l=(l,0):=by
 obtain⟨h1,h2,h3⟩:=LJ h;rw[JY hk h1 h2,h3,LA (held_iff.1 h).1]
def Nc(l:List Item):Prop:=KS (λit=>it.ent.n) l
theorem Kd{l:List Item}{n:Int}(h:B0 l n=false):∀x∈l,x.ent.n≠n:=by
 unfold B0 at h;rw[List.any_eq_false]at h;intro x hx;simpa using h x hx
theorem Id{w:Wd}(hw:WdOK w)(h:(A9 w).2=true):(A9 w).1<=w.gens.length/\(∀x∈w.items,x.ent.n≠((A9 w).1:Nat))/\(A9 w).1<256/\∀g,w.gens[(A9 w).1]?=some g->g<1073741824:=by
 have hg:=hw.gl;unfold A9 at h⊢;split at h
 ·rename_i n hn
  unfold F5 at hn;rw[List.find?_eq_some_iff_getElem]at hn;obtain⟨h1,i,h2,h3,h4⟩:=hn;simp only[List.getElem_range]at h3;subst h3;rw[List.length_range]at h2;simp only[Bool.and_eq_true,Bool.not_eq_true',decide_eq_true_eq]at h1;refine⟨by dsimp only;omega,Kd h1.1,by dsimp only;omega,λg hgg=>?_⟩;dsimp only at hgg;have:=h1.2;rw[List.getD_eq_getElem?_getD,hgg]at this;exact this
 ·have h:w.gens.length<256:=by dsimp only at h;rw[decide_eq_true_eq]at h;omega
  refine⟨Nat.le_refl _,λx hx=>?_,h,λg hgg=>?_⟩
  ·have:=(hw.it x hx).2.1
   dsimp only;omega
  ·rw[List.getElem?_eq_none (Nat.le_refl _)]at hgg;cases hgg
theorem LG{gens:List Int}{n:Nat}(h:n<=gens.length):n<(B2 gens n).length/\(B2 gens n)[n]?=some ((B2 gens n).getD n 0)/\gens.length<=(B2 gens n).length/\(∀j,j<gens.length->(B2 gens n)[j]?=gens[j]?)/\(∀g∈B2 gens n,g∈gens\/g=0)/\(B2 gens n).length<=max gens.length (n+1):=by
 unfold B2;split
 ·rename_i e
  subst e;refine⟨by simp,by simp[List.getD_eq_getElem?_getD],by simp,λj hj=>List.getElem?_append_left hj,λg hg=>?_,by simp⟩;rcases List.mem_append.1 hg with h|h
  ·exact .inl h
  ·exact .inr (List.mem_singleton.1 h)
 ·refine⟨by omega,?_,Nat.le_refl _,λ_ _=>rfl,λg hg=>.inl hg,by omega⟩
  rw[List.getD_eq_getElem?_getD,List.getElem?_eq_getElem (by omega)];rfl
theorem E3{ks:List Kind}(hk:Ag ks=0){l:List Comp}(h:Bd ks l=true):l.length<=16/\∀c∈l,c.vals.length<=8:=by
 obtain⟨hs,hm⟩:=held_iff.1 h;obtain⟨h16,ho⟩:=BE hk;refine⟨Nat.le_trans (HZ Comp.kind _ _ (hs.imp λh=>by omega) λc hc=>⟨(hm c hc).1,(hm c hc).2.1⟩) h16,λc hc=>?_⟩;obtain⟨_,_,k,hk2,hh⟩:=hm c hc;have h8:=(B7 (ho k (List.mem_of_getElem? hk2))).2.1;have:=Hs (k:=k) (v:=c.vals) (by rw[Dz hh]);omega
theorem WdOK.wl{w:Wd}(h:WdOK w):WdL w:=by
 obtain⟨h16,ho⟩:=BE h.ks;refine⟨⟨by omega,λk hk=>by have:=(B7 (ho k hk)).2.1;omega⟩,by have:=h.gl;omega,by have:=h.gl;have:=h.il;omega,λit hit=>?_⟩;obtain⟨h1,h2⟩:=E3 h.ks (h.it it hit).2.2.2.2;exact⟨by omega,λc hc=>by have:=h2 c hc;omega⟩
theorem Gh(l:List Int):0<(AJ l).1.length:=by
 have h:=AI l (n:=4) (by decide)
 have:∀i c q,(AT i c q).1.length=c:=by
  intro i c
  induction c generalizing i with
  |zero=>intro q;rfl
  |succ c ih=>intro q;simp only[AT,List.length_cons,ih]
 unfold AJ;rw[this];omega
theorem Kg{α:Type}{p:α->Bool}:∀{l:List α} {i:Nat},i<=l.length->(∀(j:Nat) (x:α),j<i->l[j]?=some x->p x=true)->(∀x,l[i]?=some x->p x=false)->(l.takeWhile p).length=i
 |[],i,h,_,_=>by(have:i=0:=by simpa using h);(subst this;rfl)
 |x::l,0,_,_,h2=>by rw[List.takeWhile_cons,h2 x rfl];rfl
 |x::l,i+1,h,h1,h2=>by
  rw[List.takeWhile_cons,h1 0 x (by omega) rfl];show(l.takeWhile p).length+1=i+1
  rw[Kg (i:=i) (by simpa using h) (λj y hj hy=>h1 (j+1) y (by omega) hy) (λy hy=>h2 y hy)]
def Dx(l:List Item)(n:Int):Nat:=(l.takeWhile λx=>decide (x.ent.n<n)).length
theorem KF{l:List Item}(hs:Nc l){n:Int}{b:Nat×Bool}(h:Found (λx:Item=>DN x.ent.n n) l b):b.1=Dx l n:=by
 have hm:IB (λx:Item=>DN x.ent.n n) l:=by
  intro a b x y hab hx hy hy0;rw[Gn]at hy0⊢;by_cases e:a=b
  ·subst e;rw[hx]at hy;cases hy;exact hy0
  ·obtain⟨ha,rfl⟩:=List.getElem?_eq_some_iff.1 hx
   obtain⟨hb,rfl⟩:=List.getElem?_eq_some_iff.1 hy;have:(l[a]).ent.n<(l[b]).ent.n:=List.pairwise_iff_getElem.1 hs a b ha hb (by omega);omega
 obtain⟨m1,m2⟩:=h.mono hm;exact(Kg h.le (λj x hj hx=>by have:=m1 j x hj hx;rw[Gn]at this;simpa using this) (λx hx=>by have:=m2 b.1 x (Nat.le_refl _) hx;rw[Gn]at this;simpa using this)).symm
theorem JH{it:Item}:∀{l:List Item},Gg l it=l.take (Dx l it.ent.n)++it::l.drop (Dx l it.ent.n)
 |[]=>rfl
 |x::l=>by
  have ea:Dx (x::l) it.ent.n=if x.ent.n<it.ent.n then Dx l it.ent.n+1 else 0:=by
   unfold Dx;rw[List.takeWhile_cons];by_cases e:x.ent.n<it.ent.n<;>simp[e]
  rw[Gg,ea];split
  ·rw[JH];rfl
  ·rfl
end
theorem F7:∀(pre fs:List Field),Ab pre fs=0->∀f∈fs,AK f=0
 |_,[],_,f,hf=>by cases hf
 |pre,f0::fs,h,f,hf=>by
  rw[Ab]at h;split at h
  ·exact absurd h ‹_›
  ·rename_i h0
   split at h
   ·cases h
   ·rcases List.mem_cons.1 hf with rfl|hf
    ·simpa using h0
    ·exact F7 _ fs h f hf
theorem GZ{k:Kind}(h:Aa k=0):KOK k:=by
 unfold Aa at h;split at h
 ·split at h
  ·cases h
  ·exact⟨‹_›,by omega,F7 [] _ h⟩
 ·cases h
theorem Mp{k:Kind}{vs:List Int}(h:BD k vs=true):VOK k.fields vs:=by
 unfold BD at h;simp only[Bool.and_eq_true,decide_eq_true_eq]at h;obtain⟨h1,h2⟩:=h;unfold Ak at h1 h2;split at h1
 ·exact absurd h1 ‹_›
 ·rename_i hk
  have hk:=GZ (Classical.not_not.1 hk);rw[if_neg ‹_›]at h2;split at h1
  ·cases h1
  ·rename_i hl
   rw[if_neg hl]at h2;have hl:=Classical.not_not.1 hl;dsimp only at h2;refine⟨hl,λq hq=>?_⟩;have hf:=hk.fs q.1 (List.of_mem_zip hq).1;obtain⟨_,b1,b2,_,_⟩:=Hv hf
   have hn:As q.1 q.2=q.2:=by
    obtain⟨i,hi,e⟩:=List.getElem_of_mem hq;rw[List.getElem_zip]at e;have hi':i<k.fields.length/\i<vs.length:=by rw[List.length_zip]at hi;omega
    have:=congrArg (λl=>l[i]?) h2;simp only[List.getElem?_zipWith,List.getElem?_eq_getElem hi'.1,List.getElem?_eq_getElem hi'.2]at this;injection this with this
    rw[<-e];exact this
   unfold As at hn;rw[if_pos hf]at hn;unfold Bg at hn;rw[if_pos hf]at hn;have hp:(0:Int)<2^q.1.bits.toNat:=Int.pow_pos (by decide);refine⟨b1,b2,by omega,by omega⟩
theorem NB{ks:List Kind}{l:List Comp}(h:Bd ks l=true):COK ks 0 l:=by
 obtain⟨h1,h2⟩:=held_iff.1 h;refine⟨h1,λc hc=>?_⟩;obtain⟨a,b,k,e,f⟩:=h2 c hc;refine⟨by simpa using a,by simpa using b,k,?_,Mp f⟩;rw[show c.kind-((0:Nat):Int)=c.kind by omega];exact e
theorem Dt{w:Wd}(h:WdOK w):SOK w.kinds w.gens 0 w.items:=by
 refine⟨h.gs,h.so,λx hx=>?_⟩;obtain⟨a,b,c,d,e⟩:=h.it x hx;refine⟨by simpa using a,by simpa using b,?_,NB e⟩;rw[show x.ent.n-((0:Nat):Int)=x.ent.n by omega];exact c
theorem JP{ks:List Kind}{l:List Comp}(h:COK ks 0 l):l.length<=ks.length:=by
 have:∀(l:List Comp) (n:Nat),l.Pairwise (λa b=>a.kind<b.kind)->(∀c∈l,(n:Int)<=c.kind/\c.kind<ks.length)->n<=ks.length->l.length+n<=ks.length:=by
  intro l
  induction l with
  |nil=>intro n _ _ h;simpa using h
  |cons c l ih=>
   intro n hp hb hn;obtain⟨h1,h2⟩:=List.pairwise_cons.1 hp;have h3:=hb c (by simp)
   have:=ih (n+1) h2 (λd hd=>by
    have h4:=h1 d hd;have h5:=hb d (by simp[hd]);omega) (by omega)
   rw[List.length_cons];omega
 have:=this l 0 h.so (λc hc=>by
  obtain⟨a,b,_⟩:=h.it c hc;exact⟨by simpa using a,by simpa using b⟩) (Nat.zero_le _)
 simpa using this
theorem Io(b:List UInt8)(hb:b.length<=65536):PS Try.prog 25 [ysA b] (.bx 100 (.agg [ysA b,iA 0])):=by
 have hbm:(b.map yA).length=b.length:=List.length_map _;refine AC (nt:=7) (res:=[.tmp 2]) Try.func25 rfl (by kernel_rfl) rfl rfl rfl λSf=>?_
 refine RG ?_;(repeat first|refine WO ?_|refine Ai λX=>?_|refine Ay λY=>?_);refine NL ?_;refine FL ?_;refine AWP.rs λY=>?_
 refine RG ?_;(repeat first|(refine AOps.gN ?_;first|refine AOps.s (Gt (by rw[hbm];omega) (by rw[hbm];unfold maxLen;omega) rfl rfl (by exact At.f)) rfl ?_)|refine WO ?_|refine Ai λX=>?_|refine Ay λY=>?_);refine NL ?_;refine AWP.iceIn (X:=Y) (Y:=X) (.next .here) .here rfl (.cons (.agg (.cons (.base (.sl (by omega))) (.cons .same .nil))) .nil) ?_
 have hB:AV.frzs (((b.map yA).drop 0).take (b.map yA).length)=b.map yA:=by
  rw[List.drop_zero,List.take_of_length_le (by omega)];exact Frzs.h
 rw[hB];refine RT ?_;exact Bl [.ptr X 0 0] [.bx 100 (.agg [ysA b,iA 0])] (.cons (.cell (.ptr .here)) .nil)
theorem FU{a b x y:AV}(h:Ho a b x y):(M:List AV)->Hos a b (M++[x]) (M++[y])
 |[]=>.head h
 |_::M=>.tail (FU h M)
theorem KJ(G:Nat)(ks:List Kind)(l:List Int)(hk:Gy ks):PO Try.prog 41 [AS false false ks,.ptr G 0 0] G (Ax l) (Az true true (A8 ks l).1) (Ax (A8 ks l).2):=by
 refine AC (nt:=50) (res:=[.tmp 4]) Try.func41 rfl (by kernel_rfl) rfl rfl rfl λSf=>?_
 obtain⟨hk0,hk1⟩:=hk;refine RG ?_;(repeat first|refine WO ?_|refine Ai λX=>?_|refine Ay λY=>?_);refine NL ?_;refine RG ?_;(repeat first|refine WO ?_|refine Ai λX=>?_|refine Ay λY=>?_);refine NL ?_;refine RG ?_;(repeat first|refine WO ?_|refine Ai λX=>?_|refine Ay λY=>?_);refine NL ?_;refine FL ?_;refine AWP.adopt (d:=5) 55 2 rfl λK=>?_
 refine Ej (λ(i K:Nat) (M:List AV) (n:Nat) (q:List Int)=>⟨[(1,.ptr G 0 0),(5,.sl K 0 n),(11,AS false false ks),(12,iA (ks.map (AU false)).length),(13,iA i)],(K,.row 55 2 M)::(G,Ax q)::Sf⟩) (λi _ M n q=>i<=ks.length/\M=(cAt ks l i).1.map (AE true)/\n=M.length/\q=(cAt ks l i).2) (λi _ _ _ _=>ks.length-i) 0 K [] 0 l ⟨Nat.zero_le _,rfl,rfl,rfl⟩ ?_;rintro i K M n q ⟨hi,hM,hn,hq⟩;(repeat first|refine WK ?_|refine Ai λX=>?_|refine Ay λY=>?_);refine AWP.cond rfl (λhc=>?_) (λhc=>?_)
 ·have h:i<ks.length:=by simpa using hc
  obtain⟨hf0,hf1⟩:=hk1 _ (List.getElem_mem h);have h3:=AI q (n:=3) (by decide);have hn1:n+1<=1099511627776:=by have:=JR ks l i;rw[hn,hM,List.length_map];omega
  (repeat first|(refine AOps.gN ?_;first|(refine AOps.g_callf ?_;first|refine AOps.o2 (h:=(A1 G _ _ (by decide))) (k:=?_)))|refine WK ?_|refine Ai λX=>?_|refine Ay λY=>?_);refine AWP.cond rfl (λhe=>?_) (λhe=>?_)
  ·have he:AP q 3=2:=by simpa using he
   (repeat first|refine WK ?_|refine Ai λX=>?_|refine Ay λY=>?_);refine CO (i+1) K M n _ ⟨h,?_,hn,?_⟩
   ·rw[D9 h (hq▸he),hM]
   ·rw[D9 h (hq▸he),hq]
  ·have he:AP q 3≠2:=by simpa using he
   refine RG ?_;(repeat first|refine WO ?_|refine Ai λY=>?_|refine Ay λY=>?_);refine NL ?_;refine AWP.adoptIn (Y:=Y) 3 1 .here (λF=>.cons (.agg (.cons .same (.cons (.base .nil) .nil))) .nil) λF=>?_
   (repeat first|refine WK ?_|refine Ai λX=>?_|refine Ay λY=>?_);obtain⟨fs,hfs⟩:∃fs,ks[i].fields=fs:=⟨_,rfl⟩;obtain⟨q1,hq1⟩:∃q1,AG q 3=q1:=⟨_,rfl⟩;rw[hq1,hfs];have hck:cAt ks l (i+1)=((cAt ks l i).1++[⟨i,(vAt fs q1 fs.length).1⟩],(vAt fs q1 fs.length).2):=by rw[Eh h (hq▸he),<-hq,hq1,hfs]
   rw[hfs]at hf0 hf1;refine Ej (λ(j F:Nat) (L:List AV) (m:Nat) (r:List Int)=>⟨[(1,.ptr G 0 0),(5,.sl K 0 n),(6,iA i),(8,.ptr Y 0 0),(11,AS false false ks),(12,iA (ks.map (AU false)).length),(13,iA i),(24,Cc false fs),(25,iA (fs.map fieldA).length),(26,iA j)],(F,.row 3 1 L)::(Y,.row 55 2 [.agg [iA i,.sl F 0 m]])::(K,.row 55 2 M)::(G,Ax r)::Sf⟩) (λj _ L m r=>j<=fs.length/\L=(vAt fs q1 j).1.map iA/\m=L.length/\r=(vAt fs q1 j).2) (λj _ _ _ _=>fs.length-j) 0 F [] 0 q1 ⟨Nat.zero_le _,rfl,rfl,rfl⟩ ?_;rintro j F L m r ⟨hj,hL,hm,hr⟩;(repeat first|refine WK ?_|refine Ai λX=>?_|refine Ay λY=>?_);refine AWP.cond rfl (λhd=>?_) (λhd=>?_)
   ·have hj':j<fs.length:=by simpa using hd
    obtain⟨hb0,hb1,hl0,hl1⟩:=hf1 _ (List.getElem_mem hj');obtain⟨b,hb⟩:∃b:Nat,fs[j].bits=b:=⟨fs[j].bits.toNat,by omega⟩;have hp:=Du (b:=b) (by omega);have hw:IntKind.i64.wrap (1*2^b)=2^b:=by rw[Int.one_mul];exact Ba (by omega) (by omega)
    have hv:=AI r (n:=IntKind.i64.wrap (1*2^b)) (by omega);have hm1:m+1<=1099511627776:=by have:=Iw fs q1 j;rw[hm,hL,List.length_map];omega
    (repeat first|refine WK ?_|refine Ai λZ=>?_|refine Ay λY=>?_);refine AWP.rs λX7=>?_
    refine RU ?_;(repeat first|(refine RGo.gN ?_;first|(refine RGo.g_callf ?_;first|refine RGo.o2 (h:=(A1 G _ _ (by rw[hw];omega))) (k:=?_))|refine RGo.p (W.shl rfl rfl hb (by show b<=64;omega)) rfl ?_|refine RGo.p (W.add rfl rfl (by omega)) rfl ?_)|(refine AX ?_;first|(refine RGo.g_callf ?_;first|refine RGo.o2 (h:=(A1 G _ _ (by rw[hw];omega))) (k:=?_))|refine RGo.p (W.shl rfl rfl hb (by show b<=64;omega)) rfl ?_|refine RGo.p (W.add rfl rfl (by omega)) rfl ?_)|refine RK ?_|refine RGo.nil (by kernel_rfl) ?_);(repeat first|refine WK ?_|refine Ai λX=>?_|refine Ay λY=>?_);have hva:vAt fs q1 (j+1)=((vAt fs q1 j).1++[fs[j].low+AP r (IntKind.i64.wrap (1*2^b))],AG r (IntKind.i64.wrap (1*2^b))):=by rw[Eo hj',<-hr,hw,hb];rfl
    refine CO (j+1) X7 _ _ _ ⟨hj',?_,?_,?_⟩
    ·rw[hva,hL,List.map_append];rfl
    ·rw[List.length_append,hm]
    ·rw[hva]
   ·have hj':j=fs.length:=by rw[decide_eq_false_iff_not,List.length_map]at hd;omega
    subst hj';refine FL ?_;have hmv:m=(vAt fs q1 fs.length).1.length:=by rw[hm,hL,List.length_map]
    obtain⟨vs,hvs⟩:∃vs,(vAt fs q1 fs.length).1=vs:=⟨_,rfl⟩;rw[hvs]at hL hmv hck;subst hL;subst hmv;refine FL ?_;refine RG ?_;(repeat first|(refine AOps.gN ?_;first|(refine AOps.g_lit ?_;refine AOps.goL (AV.agg [iA i,.sl F 0 vs.length]) ?_))|refine WO ?_|refine Ai λX=>?_|refine Ay λY=>?_);refine NL ?_;refine AWP.closeIn (X:=F) (n:=vs.length) (ll:=vs.map iA) .here (.next (.next .here)) rfl (List.length_map _).symm (FU (.agg (.tail (.head .here))) M) ?_;refine FL ?_;refine RG ?_;(repeat first|refine WO ?_|refine Ai λX=>?_|refine Ay λY=>?_);refine NL ?_;refine CO (i+1) Y _ _ _ ⟨h,?_,?_,?_⟩
    ·rw[hck,hM,List.map_append];rfl
    ·rw[List.length_append,hn];rfl
    ·rw[hck,hr]
 ·have h:i=ks.length:=by rw[decide_eq_false_iff_not,List.length_map]at hc;omega
  subst h;(repeat first|refine WK ?_|refine Ai λX=>?_|refine Ay λY=>?_);refine RT ?_;subst hM hq;exact⟨[.sl K 0 n],[.lst true 55 2 ((cAt ks l ks.length).1.map (AE true))],_,[(G,Ax (cAt ks l ks.length).2)],.cons (.tmp rfl) rfl .nil,.cons (.cell (.sl (p:=0) .here hn)) .nil,by exact Sub.f,rfl,rfl⟩
def wdD(w:Wd):AV:=.agg [AS false false w.kinds,Af true w.gens,BJ true true w.items]
set_option maxRecDepth 8000 in
theorem JW(l:List Int):PS Try.prog 17 [Af false l] (wdD (BY l)):=by
 refine AC (nt:=52) (res:=[.cell 2 43]) Try.func17 rfl (by kernel_rfl) rfl rfl rfl λSf=>?_
 have hko:=Ca l;obtain⟨ks,hks⟩:∃ks,(AJ l).1=ks:=⟨_,rfl⟩;obtain⟨l1,hl1⟩:∃l1,(AJ l).2=l1:=⟨_,rfl⟩;have h12:=AI l1 (n:=12) (by decide);obtain⟨c,hc⟩:∃c:Nat,AP l1 12=c:=⟨(AP l1 12).toNat,by omega⟩;obtain⟨l2,hl2⟩:∃l2,AG l1 12=l2:=⟨_,rfl⟩;have hg:BY l=⟨ks,(wAt ks l2 c).1,(wAt ks l2 c).2.1⟩:=by unfold BY;rw[hks,hl1,hl2,hc];rfl
 have hkp:=λG=>Hf G l
 rw[hks,hl1]at hkp;rw[hks]at hko;rw[hg];clear hg hks hl1;refine RG ?_;(repeat first|refine WO ?_|refine Ai λR=>?_|refine Ay λY=>?_);refine NL ?_;refine RG ?_;(repeat first|refine WO ?_|refine Ai λG=>?_|refine Ay λY=>?_);refine NL ?_;refine RG ?_;(repeat first|(refine AOps.gN ?_;first|(refine AOps.g_callf ?_;first|refine JU (h:=(hkp G)) (k:=?_)))|refine WO ?_|refine Ai λV=>?_|refine Ay λY=>?_);refine NL ?_;refine RG ?_;(repeat first|(refine AOps.gN ?_;first|(refine AOps.g_callf ?_;first|refine AOps.o2 (h:=(A1 G _ _ (by decide))) (k:=?_)))|refine WO ?_|refine Ai λX=>?_|refine Ay λY=>?_);refine NL ?_;rw[hl2,hc];refine AWP.adoptIn (Y:=V) 53 3 (by exact At.f) (λF=>.cons (.agg (.cons .same (.cons .same (.cons (.base .nil) .nil)))) .nil) λB=>?_
 refine AWP.adoptIn (Y:=V) 3 1 (by exact At.f) (λF=>.cons (.agg (.cons .same (.cons (.base .nil) (.cons .same .nil)))) .nil) λA=>?_
 refine FL ?_;refine JT (λ(i A B:Nat) (L M:List AV) (n:Nat) (q:List Int)=>⟨[(2,.ptr R 0 0),(3,.ptr G 0 0),(4,.ptr V 0 0),(13,iA c),(14,iA i)],(A,.row 3 1 L)::(B,.row 53 3 M)::(V,.row 43 3 [.agg [AS false false ks,.sl A 0 i,.sl B 0 n]])::(G,Ax q)::(R,.row 43 3 [.agg [.prim (.slice none 0 0),.prim (.slice none 0 0),.prim (.slice none 0 0)]])::Sf⟩) (λi _ _ L M n q=>i<=c/\L=(wAt ks l2 i).1.map iA/\M=(wAt ks l2 i).2.1.map (AH true)/\n=M.length/\q=(wAt ks l2 i).2.2) (λi _ _ _ _ _ _=>c-i) 0 A B [] [] 0 l2 ⟨Nat.zero_le _,rfl,rfl,rfl,rfl⟩ ?_;rintro i A B L M n q ⟨hi,hL,hM,hn,hq⟩;have hA:=DT ks l2 i;have hB:=En ks l2 i;(repeat first|refine WK ?_|refine Ai λX=>?_|refine Ay λY=>?_);refine AWP.cond rfl (λhd=>?_) (λhd=>?_)
 ·have h:i<c:=by rw[decide_eq_true_eq]at hd;omega
  have h3:=AI q (n:=3) (by decide);have h4:=AI (AG q 3) (n:=4) (by decide);refine RG ?_;(repeat first|refine WO ?_|refine Ai λX=>?_|refine Ay λY=>?_);refine NL ?_;refine AWP.rs λX7=>?_
  refine RU ?_;(repeat first|(refine RGo.gN ?_;first|(refine RGo.g_callf ?_;first|refine RGo.o2 (h:=(A1 G _ _ (by decide))) (k:=?_)))|(refine AX ?_;first|(refine RGo.g_callf ?_;first|refine RGo.o2 (h:=(A1 G _ _ (by decide))) (k:=?_)))|refine RK ?_|refine RGo.nil (by kernel_rfl) ?_);(repeat first|(refine AOps.gN ?_;first|(refine AOps.g_callf ?_;first|refine AOps.o2 (h:=(A1 G _ _ (by decide))) (k:=?_)))|refine WK ?_|refine Ai λX=>?_|refine Ay λY=>?_);have hLl:L.length=i:=by rw[hL,List.length_map,hA]
  obtain⟨IT,hIT⟩:∃IT,(wAt ks l2 i).2.1=IT:=⟨_,rfl⟩;rw[hIT]at hM hB;have hnl:n=IT.length:=by rw[hn,hM,List.length_map]
  have hat:(L++[.prim (.int .i64 (AP q 3))])[i]?=some (.prim (.int .i64 (AP q 3))):=by rw[<-hLl];simp
  refine AWP.cond rfl (λhe=>?_) (λhe=>?_)
  ·have he:AP (AG q 3) 4=3\/n=8:=by rw[Bool.or_eq_true,decide_eq_true_eq,decide_eq_true_eq]at he;omega
   have hw:wAt ks l2 (i+1)=((wAt ks l2 i).1++[AP q 3],IT,AG (AG q 3) 4):=by rw[wAt,<-hq,hIT,<-hnl,if_pos he]
   (repeat first|refine WK ?_|refine Ai λX=>?_|refine Ay λY=>?_);refine Db (i+1) X7 B _ M n _ ⟨h,?_,?_,hn,?_⟩
   ·rw[hw,hL,List.map_append];rfl
   ·rw[hw,hM]
   ·rw[hw]
  ·have he:¬(AP (AG q 3) 4=3\/n=8):=by rw[Bool.or_eq_false_iff,decide_eq_false_iff_not,decide_eq_false_iff_not]at he;omega
   have hw:wAt ks l2 (i+1)=((wAt ks l2 i).1++[AP q 3],IT++[⟨⟨i,AP q 3⟩,(A8 ks (AG (AG q 3) 4)).1⟩],(A8 ks (AG (AG q 3) 4)).2):=by rw[wAt,<-hq,hIT,<-hnl,if_neg he]
   have hin:i<i+[AV.prim (.int .i64 (AP q 3))].length:=Nat.lt_succ_self i;obtain⟨cs,hcs⟩:∃cs,(A8 ks (AG (AG q 3) 4)).1=cs:=⟨_,rfl⟩;have hcp:=KJ G ks (AG (AG q 3) 4) hko;rw[hcs]at hcp hw;refine AWP.rs λX8=>AWP.rs λYc=>?_
   refine RU ?_;(repeat first|(refine RGo.gN ?_;first|(refine RGo.g_lit ?_;refine RGo.goL (AV.agg [iA i,iA (AP q 3),.sl Yc 0 (cs.map (AE true)).length]) ?_)|refine RGo.z2 (h:=hcp) (hT:=.ls (Y:=Yc)) (k:=?_))|(refine AX ?_;first|(refine RGo.g_lit ?_;refine RGo.goL (AV.agg [iA i,iA (AP q 3),.sl Yc 0 (cs.map (AE true)).length]) ?_)|refine RGo.z2 (h:=hcp) (hT:=.ls (Y:=Yc)) (k:=?_))|refine RK ?_|refine RGo.nil (by kernel_rfl) ?_);refine FL ?_;refine AWP.closeIn (X:=Yc) (Y:=X8) (by exact At.f) (by exact At.f) (by rfl) rfl (FU (.agg (.tail (.tail (.head .here)))) M) ?_;refine FL ?_;refine RG ?_;(repeat first|refine WO ?_|refine Ai λX=>?_|refine Ay λY=>?_);refine NL ?_;refine Db (i+1) X7 X8 _ _ _ _ ⟨h,?_,?_,?_,?_⟩
   ·rw[hw,hL,List.map_append];rfl
   ·rw[hw,hM,List.map_append];rfl
   ·rw[List.length_append,hn];rfl
   ·rw[hw]
 ·have h:i=c:=by rw[decide_eq_false_iff_not]at hd;omega
  subst h;(repeat first|refine WK ?_|refine Ai λX=>?_|refine Ay λY=>?_);refine RT ?_;subst hL hM;have hA:i=((wAt ks l2 i).1.map iA).length:=by rw[List.length_map,hA]
  exact⟨[.agg [AS false false ks,.sl A 0 i,.sl B 0 n]],[wdD ⟨ks,(wAt ks l2 i).1,(wAt ks l2 i).2.1⟩],_,[],.cons (.cell (p:=4) rfl (by exact At.f) TAg.h TSize.h rfl rfl) rfl .nil,.cons (.agg (.cons .same (.cons (.sl (p:=0) .here hA) (.cons (.sl (p:=0) .here hn) .nil)))) .nil,by exact Sub.f,rfl,rfl⟩
abbrev wrT(t:TypeId)(sz:Nat)(X H:Nat)(bs:List Bool):List AA:=[(H,.row 5 1 ((Ah bs).map yA)),(X,.row t sz [.agg (.sl H 0 (Ah bs).length::iA bs.length::[])])]
abbrev wrC(bs:List Bool):AO:=.row 47 2 [.agg [.lst true 5 1 ((Ah bs).map yA),iA bs.length]]
set_option maxHeartbeats 1000000 in
theorem LQ(t:TypeId)(sz:Nat)(X H:Nat)(bs:List Bool)(v:UInt64)(n:Nat)(hn:n<64)(hv:v.toNat<2^n)(hr:bs.length<=524288):
  Spec Try.prog 49 [.ptr X 0 0,uA v,iA n] (wrT t sz X H bs) λr S'=>∃K:Nat,r=iA (if 524288<bs.length+n then 6 else 0)/\S'=wrT t sz X K (if 524288<bs.length+n then bs else bs++Bm v n):=by
 have d1:decide ((n:Int)<0)=false:=decide_eq_false (by omega);have d2:decide ((64:Int)<(n:Int))=false:=decide_eq_false (by omega);refine AC (nt:=82) (res:=[.tmp 6]) Try.func49 rfl (by kernel_rfl) rfl rfl rfl λSf=>?_
 have d3:decide ((n:Int)<64)=true:=decide_eq_true (by omega);have hs:=Kl hn hv;refine RG ?_;(repeat first|refine WO ?_|refine Ai λX=>?_|refine Ay λY=>?_);refine NL ?_;refine FL ?_;refine RG ?_;(repeat first|(refine AOps.gN ?_;first|refine AOps.go (h:=Ce n hn rfl rfl rfl) (k:=?_))|refine WO ?_|refine Ai λX=>?_|refine Ay λY=>?_);refine NL ?_;refine AN rfl (by rw[hs];rfl) ?_;refine FL ?_;refine RG ?_;(repeat first|(refine AOps.gN ?_;first|refine AOps.go (h:=Bj ((bs.length+n:Nat):Int) (by omega) (by omega) rfl rfl) (k:=?_))|refine WO ?_|refine Ai λX=>?_|refine Ay λY=>?_);refine NL ?_;refine AWP.cond rfl (λhb=>?_) (λhb=>?_)
 ·have hb:524288<bs.length+n:=by rw[decide_eq_true_eq]at hb;omega
  (repeat first|refine WK ?_|refine Ai λX=>?_|refine Ay λY=>?_);refine RT ?_;rw[if_pos hb,if_pos hb];exact BL [iA 6] [(H,_),(X,_)] ⟨H,rfl,rfl⟩
 ·have hb:¬524288<bs.length+n:=by rw[decide_eq_false_iff_not]at hb;omega
  rw[if_neg hb,if_neg hb];refine FL ?_;refine RG ?_;(repeat first|refine WO ?_|refine Ai λX=>?_|refine Ay λY=>?_);refine NL ?_;refine FL ?_;refine Mc (λ(i:Nat) (K:Nat) (cs:List Bool)=>⟨[(0,.ptr X 0 0),(1,uA v),(2,iA n),(31,iA n),(32,iA i)],(K,.row 5 1 ((Ah cs).map yA))::(X,.row t sz [.agg (.sl K 0 (Ah cs).length::iA cs.length::[])])::Sf⟩) (λi K cs=>i<=n/\cs=bs++Bm v i) (λi _ _=>n-i) 0 H bs ⟨by omega,by simp[Bm]⟩ ?_
  ·rintro i K cs ⟨hi,hcs⟩
   have hcl:cs.length=bs.length+i:=by rw[hcs,List.length_append,EA]
   refine RG ?_;(repeat first|refine WO ?_|refine Ai λX=>?_|refine Ay λY=>?_);refine NL ?_;refine FL ?_;refine AWP.cond rfl (λhc=>?_) (λhc=>?_)
   ·have hc:i<n:=by rw[decide_eq_true_eq]at hc;omega
    have hc1:bs++Bm v (i+1)=cs++[v.toNat.testBit i]:=by rw[In,<-List.append_assoc,hcs]
    refine FL ?_;refine RG ?_;(repeat first|refine WO ?_|refine Ai λX=>?_|refine Ay λY=>?_);refine NL ?_;refine FL ?_;refine RG ?_;(repeat first|(refine AOps.gN ?_;first|refine AOps.go (h:=DP cs.length 8 (cs.length%8) rfl rfl (by omega) rfl rfl rfl) (k:=?_))|refine WO ?_|refine Ai λX=>?_|refine Ay λY=>?_);refine NL ?_;obtain⟨b,hbb⟩:∃b,(if cs.length%8=0 then Ah cs++[0]else Ah cs)=b:=⟨_,rfl⟩
    have hq:cs.length/8<b.length:=by
     rw[<-hbb];have:=Bn cs;split
     ·rw[List.length_append,List.length_singleton];omega
     ·omega
    have hat:=HR hq;have hpm:(Ah cs).length=((Ah cs).map yA).length:=by rw[List.length_map]
    have hpl:(Ah cs).length<=65537:=by rw[Bn];omega
    have hst:=KM (v:=v) (show i<64 by omega) hbb hq;have hsl:(Ah (cs++[v.toNat.testBit i])).length=b.length:=by rw[IQ,hbb]
    have hcs1:(cs++[v.toNat.testBit i]).length=cs.length+1:=by simp
    refine FL ?_;refine AWP.cond rfl (λhd=>?_) (λhd=>?_)
    ·have hd:cs.length%8=0:=by rw[decide_eq_true_eq]at hd;omega
     rw[if_pos hd]at hbb;have hl1:(Ah cs).length+1=b.length:=by rw[<-hbb];simp
     have hm1:(Ah cs).map yA++[yA 0]=b.map yA:=by rw[<-hbb];simp
     refine FL ?_;refine RG ?_;(repeat first|(refine AOps.gN ?_;first|(refine AOps.g_lit ?_;refine AOps.goL (yA 0) ?_))|refine WO ?_|refine Ai λX=>?_|refine Ay λY=>?_);refine NL ?_;rw[hm1,show(Ah cs).length+[yA 0].length=b.length from hl1];refine FL ?_;refine RU ?_;(repeat first|(refine RGo.gN ?_;first|refine RGo.go (h:=EB cs.length 8 (cs.length/8) rfl rfl (by omega) rfl (by omega) rfl rfl) (k:=?_)|refine RGo.go (h:=Ce i (by omega) rfl rfl rfl) (k:=?_)|refine RGo.go (h:=Gu (b:=1) rfl rfl) (k:=?_)|refine RGo.go (h:=Gr .u64 (by kernel_rfl) (by kernel_rfl) rfl) (k:=?_)|refine RGo.go (h:=DP cs.length 8 (cs.length%8) rfl rfl (by omega) rfl rfl rfl) (k:=?_)|refine RGo.go (h:=Gs (cs.length%8) (by omega) rfl rfl rfl) (k:=?_)|refine RGo.go (h:=JS rfl rfl) (k:=?_))|(refine AX ?_;first|refine RGo.go (h:=EB cs.length 8 (cs.length/8) rfl rfl (by omega) rfl (by omega) rfl rfl) (k:=?_)|refine RGo.go (h:=Ce i (by omega) rfl rfl rfl) (k:=?_)|refine RGo.go (h:=Gu (b:=1) rfl rfl) (k:=?_)|refine RGo.go (h:=Gr .u64 (by kernel_rfl) (by kernel_rfl) rfl) (k:=?_)|refine RGo.go (h:=DP cs.length 8 (cs.length%8) rfl rfl (by omega) rfl rfl rfl) (k:=?_)|refine RGo.go (h:=Gs (cs.length%8) (by omega) rfl rfl rfl) (k:=?_)|refine RGo.go (h:=JS rfl rfl) (k:=?_))|refine RK ?_|refine RGo.nil (by kernel_rfl) ?_);rw[hst];refine RG ?_;(repeat first|(refine AOps.gN ?_;first|refine AOps.go (h:=Bj ((cs.length+1:Nat):Int) (by omega) (by omega) rfl rfl) (k:=?_))|refine WO ?_|refine Ai λX=>?_|refine Ay λY=>?_);refine NL ?_;refine FL ?_;refine RG ?_;(repeat first|refine WO ?_|refine Ai λX=>?_|refine Ay λY=>?_);refine NL ?_;refine Hd (i+1) Y (cs++[v.toNat.testBit i]) ⟨by omega,hc1.symm⟩ (by omega) ?_;rw[hsl,hcs1];exact⟨by exact Lk.f,by exact Sub.f⟩
    ·have hd:¬cs.length%8=0:=by rw[decide_eq_false_iff_not]at hd;omega
     rw[if_neg hd]at hbb;subst hbb;refine FL ?_;refine RU ?_;(repeat first|(refine RGo.gN ?_;first|refine RGo.go (h:=EB cs.length 8 (cs.length/8) rfl rfl (by omega) rfl (by omega) rfl rfl) (k:=?_)|refine RGo.go (h:=Ce i (by omega) rfl rfl rfl) (k:=?_)|refine RGo.go (h:=Gu (b:=1) rfl rfl) (k:=?_)|refine RGo.go (h:=Gr .u64 (by kernel_rfl) (by kernel_rfl) rfl) (k:=?_)|refine RGo.go (h:=DP cs.length 8 (cs.length%8) rfl rfl (by omega) rfl rfl rfl) (k:=?_)|refine RGo.go (h:=Gs (cs.length%8) (by omega) rfl rfl rfl) (k:=?_)|refine RGo.go (h:=JS rfl rfl) (k:=?_))|(refine AX ?_;first|refine RGo.go (h:=EB cs.length 8 (cs.length/8) rfl rfl (by omega) rfl (by omega) rfl rfl) (k:=?_)|refine RGo.go (h:=Ce i (by omega) rfl rfl rfl) (k:=?_)|refine RGo.go (h:=Gu (b:=1) rfl rfl) (k:=?_)|refine RGo.go (h:=Gr .u64 (by kernel_rfl) (by kernel_rfl) rfl) (k:=?_)|refine RGo.go (h:=DP cs.length 8 (cs.length%8) rfl rfl (by omega) rfl rfl rfl) (k:=?_)|refine RGo.go (h:=Gs (cs.length%8) (by omega) rfl rfl rfl) (k:=?_)|refine RGo.go (h:=JS rfl rfl) (k:=?_))|refine RK ?_|refine RGo.nil (by kernel_rfl) ?_);rw[hst];refine RG ?_;(repeat first|(refine AOps.gN ?_;first|refine AOps.go (h:=Bj ((cs.length+1:Nat):Int) (by omega) (by omega) rfl rfl) (k:=?_))|refine WO ?_|refine Ai λX=>?_|refine Ay λY=>?_);refine NL ?_;refine FL ?_;refine RG ?_;(repeat first|refine WO ?_|refine Ai λX=>?_|refine Ay λY=>?_);refine NL ?_;refine Hd (i+1) K (cs++[v.toNat.testBit i]) ⟨by omega,hc1.symm⟩ (by omega) ?_;rw[hsl,hcs1];exact⟨by exact Lk.f,by exact Sub.f⟩
   ·have hc:i=n:=by rw[decide_eq_false_iff_not]at hc;omega
    subst hc;rw[<-hcs];(repeat first|refine WK ?_|refine Ai λX=>?_|refine Ay λY=>?_);refine RT ?_;exact BL [iA 0] [(K,_),(X,_)] ⟨K,rfl,rfl⟩
theorem Kr(X:Nat)(bs:List Bool)(f:Field)(v:Int)(h1:1<=f.bits)(h2:f.bits<=32)(h3: -4294967296<=f.low)(h4:f.low<=4294967296)(h5:f.low<=v)(h6:v-f.low<2^f.bits.toNat)(hr:bs.length+64<=524288):
  Spec Try.prog 22 [.ptr X 0 0,fieldA f,iA v] [(X,wrC bs)] λr S'=>r=iA 0/\S'=[(X,wrC (bs++Bm (UInt64.ofInt (v-f.low)) f.bits.toNat))]:=by
 have hc:=Fy f (by omega) h2 h3 h4;have hf:=L5 f v (by omega) h2 h3 h4 h5 h6;obtain⟨fn,fb,fl⟩:=f;dsimp only at h1 h2 h3 h4 h5 h6;obtain⟨n,rfl⟩:∃n:Nat,fb=n:=⟨fb.toNat,by omega⟩;have hn:((n:Int)).toNat=n:=rfl;rw[hn]at h6
 have hp:(2:Int)^n<=4294967296:=by
  have:∀n,n<=32->(2:Int)^n<=4294967296:=by decide
  exact this n (by omega)
 have hb:=λH=>LQ 47 2 X H bs (UInt64.ofInt (v-fl)) n (by omega) (by
  rw[Kx (by omega) (by omega)];have:((2^n:Nat):Int)=(2:Int)^n:=by rw[Int.natCast_pow];rfl
  omega) (by omega)
 rw[if_neg (by omega),if_neg (by omega)]at hb;show Spec _ _ _ _ λr S'=>r=iA 0/\S'=[(X,wrC (bs++Bm (UInt64.ofInt (v-fl)) n))]
 obtain⟨cs,hcs⟩:∃x,bs++Bm (UInt64.ofInt (v-fl)) n=x:=⟨_,rfl⟩;rw[hcs]at hb⊢;refine AC (nt:=27) (res:=[.tmp 6]) Try.func22 rfl (by kernel_rfl) rfl rfl rfl λSf=>?_
 refine AWP.thawIn (Y:=X) .here (λH=>.head (.agg (.head .here))) λH=>?_
 refine RG ?_;(repeat first|refine WO ?_|refine Ai λB=>?_|refine Ay λY=>?_);refine NL ?_;refine FL ?_;refine RG ?_;(repeat first|(refine AOps.gN ?_;first|(refine AOps.g_callf ?_;first|refine AOps.c1 (h:=(hc ..)) (k:=?_)))|refine WO ?_|refine Ai λX=>?_|refine Ay λY=>?_);refine NL ?_;refine FL ?_;refine RG ?_;(repeat first|refine WO ?_|refine Ai λX=>?_|refine Ay λY=>?_);refine NL ?_;refine FL ?_;refine AN rfl rfl ?_;refine FL ?_;refine RG ?_;(repeat first|(refine AOps.gN ?_;first|(refine AOps.g_callf ?_;first|refine AOps.c2 (h:=(hf ..)) (k:=?_)))|refine WO ?_|refine Ai λX=>?_|refine Ay λY=>?_);refine NL ?_;refine FL ?_;refine AN rfl (by simp) ?_;refine FL ?_;refine RG ?_;(repeat first|(refine AOps.gN ?_;first|refine AOps.go (h:=Bu (v-fl) rfl (by omega) rfl rfl) (k:=?_)|refine AOps.go (h:=Mk .i64 (by kernel_rfl) (by kernel_rfl) rfl) (k:=?_))|refine WO ?_|refine Ai λX=>?_|refine Ay λY=>?_);rw[List.length_map];refine Ln (h:=hb H) λL=>?_
 (repeat first|refine WO ?_|refine Ai λX=>?_|refine Ay λY=>?_);refine AOps.closeIn (X:=L) (Y:=X) (n:=(Ah cs).length) (ll:=(Ah cs).map yA) (by exact At.f) (by exact At.f) rfl (by simp) (.head (.agg (.head .here))) ?_;refine AOps.nil ?_;refine RT ?_;exact BL [iA 0] [(X,_)] ⟨rfl,rfl⟩
theorem KX(X:Nat)(bs:List Bool):Spec Try.prog 23 [.ptr X 0 0] [(X,wrC bs)] λr S'=>r=iA bs.length/\S'=[(X,wrC bs)]:=by
 refine AC (nt:=7) (res:=[.tmp 2]) Try.func23 rfl (by kernel_rfl) rfl rfl rfl λSf=>?_
 refine RG ?_;(repeat first|refine WO ?_|refine Ai λX=>?_|refine Ay λY=>?_);refine NL ?_;refine FL ?_;refine RG ?_;(repeat first|refine WO ?_|refine Ai λX=>?_|refine Ay λY=>?_);refine NL ?_;refine RT ?_;exact BL [iA bs.length] [(X,_)] ⟨rfl,rfl⟩
theorem IF(b:List UInt8)(n:Int)(hb:b.length<=65537):PS Try.prog 26 [.fp [ysA b,iA n]] (.lst true 5 1 (b.map yA)):=by
 have hbm:(b.map yA).length=b.length:=List.length_map _;refine AC (nt:=8) (res:=[.tmp 2]) Try.func26 rfl (by kernel_rfl) rfl rfl rfl λSf=>?_
 refine RG ?_;(repeat first|refine WO ?_|refine Ai λX=>?_|refine Ay λY=>?_);refine NL ?_;refine FL ?_;refine AWP.rs λY=>?_
 refine RG ?_;(repeat first|(refine AOps.gN ?_;first|refine AOps.s (Gt (by rw[hbm];omega) (by rw[hbm];unfold maxLen;omega) rfl rfl (by exact At.f)) rfl ?_)|refine WO ?_|refine Ai λX=>?_|refine Ay λY=>?_);refine NL ?_;refine RT ?_;exact⟨[.sl Y 0 (b.map yA).length],[.lst true 5 1 (b.map yA)],_,[],.cons (.tmp rfl) rfl .nil,.cons (.cell (.sl (p:=0) .here (by simp))) .nil,by exact Sub.f,rfl,rfl⟩
theorem IE(X:Nat)(bs:List Bool)(hr:bs.length<=524288):
  Spec Try.prog 26 [.ptr X 0 0] [(X,wrC bs)] λr S'=>r= .lst true 5 1 ((Ah bs).map yA)/\S'=[(X,wrC bs)]:=by
 refine PS.lend (IF (Ah bs) bs.length (by rw[Bn];omega)) (by show(_&&_)=true;rw[IU (λ_=>rfl)];rfl) (.cons (.ptr (b:=.agg [ysA (Ah bs),iA bs.length]) .here (.agg (.cons (.lst (KV _ _)) (.cons (.frz (a:=iA bs.length)) .nil))) rfl) .nil)
theorem Ms(N X:Nat)(n x:Int)(f:Field)(bs:List Bool)(h1:1<=f.bits)(h2:f.bits<=32)(h3: -4294967296<=f.low)(h4:f.low<=4294967296)(h5:f.low<=x)(h6:x-f.low<2^f.bits.toNat)(hr:bs.length+64<=524288)(hn:0<=n/\n<=524288):
  Spec Try.prog 21 [fieldA f,.fp [iA x],.ptr N 0 0,.ptr X 0 0] [(N,.row 3 1 [iA n]),(X,wrC bs)] λr S'=>r=bA true/\S'=[(N,.row 3 1 [iA (n+f.bits)]),(X,wrC (bs++Bm (UInt64.ofInt (x-f.low)) f.bits.toNat))]:=by
 have hp:=Kr X bs f x h1 h2 h3 h4 h5 h6 hr;obtain⟨cs,hcs⟩:∃c,bs++Bm (UInt64.ofInt (x-f.low)) f.bits.toNat=c:=⟨_,rfl⟩;rw[hcs]at hp⊢;obtain⟨fn,fb,fl⟩:=f;dsimp only at h1 h2 h3 h4 h5 h6⊢;refine AC (nt:=17) (res:=[.tmp 6]) Try.func21 rfl (by kernel_rfl) rfl rfl rfl λSf=>?_
 refine RG ?_;(repeat first|refine WO ?_|refine Ai λB=>?_|refine Ay λY=>?_);refine NL ?_;refine FL ?_;refine RG ?_;(repeat first|(refine AOps.gN ?_;first|refine AOps.go (h:=Bj (n+fb) rfl (by omega) rfl rfl) (k:=?_))|refine WO ?_|refine Ai λX=>?_|refine Ay λY=>?_);refine NL ?_;refine FL ?_;refine RU ?_;(repeat first|(refine RGo.gN ?_;first|refine RGo.z3 (h:=hp) (hT:=.fz) (k:=?_))|(refine AX ?_;first|refine RGo.z3 (h:=hp) (hT:=.fz) (k:=?_))|refine RK ?_|refine RGo.nil (by kernel_rfl) ?_);refine RT ?_;exact BL [bA true] [(N,_),(X,_)] ⟨rfl,rfl⟩
theorem Mr(V k:Nat)(l:List Int)(f:Field)(hk:k<l.length):
  Spec Try.prog 24 [fieldA f,.ptr V k 0] [(V,.row 3 1 (l.map iA))] λr S'=>r=bA true/\S'=[(V,.row 3 1 ((l.set k f.low).map iA))]:=by
 have hat:(l.map iA)[k]?=some (iA l[k]):=Aj _ hk;have hkl:k<(l.map iA).length:=by rw[List.length_map];exact hk
 obtain⟨fn,fb,fl⟩:=f;dsimp only;refine AC (nt:=9) (res:=[.tmp 4]) Try.func24 rfl (by kernel_rfl) rfl rfl rfl λSf=>?_
 refine RG ?_;(repeat first|refine WO ?_|refine Ai λB=>?_|refine Ay λY=>?_);refine NL ?_;refine FL ?_;refine RG ?_;(repeat first|refine WO ?_|refine Ai λX=>?_|refine Ay λY=>?_);refine NL ?_;refine FL ?_;refine RG ?_;(repeat first|refine WO ?_|refine Ai λX=>?_|refine Ay λY=>?_);refine NL ?_;refine RT ?_;rw[List.map_set];exact BL [bA true] [(V,_)] ⟨rfl,rfl⟩
theorem Mq(V k R X:Nat)(l:List Int)(f:Field)(b:List UInt8)(p q:Nat)(x:Int)(hk:k<l.length)(h1:1<=f.bits)(h2:f.bits<=32)(h3: -4294967296<=f.low)(h4:f.low<=4294967296)(hb:b.length<=65536)(hp:p<=8*b.length)
  (hg:(C7 b f.bits.toNat p).2=(0,q)) (hx:f.low+((C7 b f.bits.toNat p).1.toNat:Int)=x):
  Spec Try.prog 27 [fieldA f,.ptr V k 0,.ptr R 0 0] [(V,.row 3 1 (l.map iA)),(R,.row 65 1 [.ptr X 0 0]),(X,brO b p)] λr S'=>r=bA true/\S'=[(V,.row 3 1 ((l.set k x).map iA)),(R,.row 65 1 [.ptr X 0 0]),(X,brO b q)]:=by
 have hat:(l.map iA)[k]?=some (iA l[k]):=Aj _ hk;have hkl:k<(l.map iA).length:=by rw[List.length_map];exact hk
 have hq:=L4 X b p f h1 h2 h3 h4 hb hp;rw[hg,hx,if_neg (by simp)]at hq;dsimp only at hq;obtain⟨fn,fb,fl⟩:=f;refine AC (nt:=19) (res:=[.tmp 5]) Try.func27 rfl (by kernel_rfl) rfl rfl rfl λSf=>?_
 refine RG ?_;(repeat first|refine WO ?_|refine Ai λB=>?_|refine Ay λY=>?_);refine NL ?_;refine FL ?_;refine RG ?_;(repeat first|(refine AOps.gN ?_;first|(refine AOps.g_callf ?_;first|refine AOps.z2 (h:=hq) (hT:=.fz) (k:=?_)))|refine WO ?_|refine Ai λX=>?_|refine Ay λY=>?_);refine NL ?_;refine FL ?_;refine RG ?_;(repeat first|refine WO ?_|refine Ai λX=>?_|refine Ay λY=>?_);refine NL ?_;refine FL ?_;refine RG ?_;(repeat first|refine WO ?_|refine Ai λX=>?_|refine Ay λY=>?_);refine NL ?_;refine RT ?_;rw[List.map_set];exact BL [bA true] [(V,_),(R,_),(X,_)] ⟨rfl,rfl⟩
set_option maxRecDepth 8000 in
theorem LO(w:Wd)(hw:WdL w)(f:FuncId)(cap:List AV)(hst:BN cap=true)(A B:Nat)(oA oB:Nat->AO)(hs:∀it∈w.items,∀c∈it.comps,CSh w.kinds c)
  (H:∀t fd x,(fvW w)[t]?=some (fd,x)->Spec Try.prog f (fieldA fd:: .fp [iA x]::cap) [(A,oA t),(B,oB t)] λr S'=>r=bA true/\S'=[(A,oA (t+1)),(B,oB (t+1))]):
  Spec Try.prog 18 [wdA false w,.fn f cap] [(A,oA 0),(B,oB 0)] λr S'=>r=bA true/\S'=[(A,oA (fvW w).length),(B,oB (fvW w).length)]:=by
 have hil:=hw.items.1;have him:(w.items.map (AH false)).length=w.items.length:=List.length_map _;obtain⟨FV,hFV⟩:∃FV,fvW w=FV:=⟨_,rfl⟩;rw[hFV]at H⊢;refine AC (nt:=50) (res:=[.tmp 4]) Try.func18 rfl (by kernel_rfl) rfl rfl rfl λSf=>?_
 refine RG ?_;(repeat first|(refine AOps.gN ?_;first|(refine AOps.g_box ?_;refine BG ?_))|refine WO ?_|refine Ai λX=>?_|refine Ay λY=>?_);refine NL ?_;refine FL ?_;refine RG ?_;(repeat first|refine WO ?_|refine Ai λX=>?_|refine Ay λY=>?_);refine NL ?_;rw[him];refine FL ?_;refine A3 (λ(i t:Nat)=>⟨[(1,.fn f cap),(2,.fp [AS false false w.kinds,Af false w.gens,BJ false false w.items]),(11,BJ false false w.items),(12,iA (w.items.length:Nat)),(13,iA (i:Nat))],(A,oA t)::(B,oB t)::Sf⟩) (λi t=>i<=w.items.length/\t<=FV.length/\FV.drop t=(w.items.drop i).flatMap (fvI w.kinds)) (λi t=>w.items.length-i) 0 0 ⟨Nat.zero_le _,Nat.zero_le _,hFV.symm⟩ ?_;rintro i t ⟨hi,htl,ht⟩;refine RG ?_;(repeat first|refine WO ?_|refine Ai λX=>?_|refine Ay λY=>?_);refine NL ?_;refine FL ?_;refine AWP.cond rfl (λhc=>?_) (λhc=>?_)
 ·have h:i<w.items.length:=by have:=of_decide_eq_true hc;omega
  have hat:(w.items.map (AH false))[i]?=some (AH false w.items[i]):=Aj _ h;have him2:=List.getElem_mem h;obtain⟨it,hit⟩:∃it,w.items[i]=it:=⟨_,rfl⟩;rw[List.drop_eq_getElem_cons h,hit,List.flatMap_cons]at ht;rw[hit]at hat him2;have hcl:=(hw.items.2 it him2).1;have hcv:=(hw.items.2 it him2).2;have hsh:=hs it him2;obtain⟨rest,hrest⟩:∃r,(w.items.drop (i+1)).flatMap (fvI w.kinds)=r:=⟨_,rfl⟩;rw[hrest]at ht;obtain⟨⟨en,eg⟩,cs⟩:=it;dsimp only at hcl hcv hsh;have hcm:(cs.map (AE false)).length=cs.length:=List.length_map _;refine FL ?_;refine RG ?_;(repeat first|refine WO ?_|refine Ai λP6=>?_|refine Ay λY=>?_);refine NL ?_;refine FL ?_;refine RG ?_;(repeat first|refine WO ?_|refine Ai λX=>?_|refine Ay λY=>?_);refine NL ?_;rw[hcm];refine FL ?_;refine A3 (λ(j t:Nat)=>⟨[(1,.fn f cap),(2,.fp [AS false false w.kinds,Af false w.gens,BJ false false w.items]),(11,BJ false false w.items),(12,iA (w.items.length:Nat)),(13,iA (i:Nat)),(18,Az false false cs),(19,iA (cs.length:Nat)),(20,iA (j:Nat))],(A,oA t)::(B,oB t)::Sf⟩) (λj t=>j<=cs.length/\t<=FV.length/\FV.drop t=(cs.drop j).flatMap (fvC w.kinds)++rest) (λj t=>cs.length-j) 0 t ⟨Nat.zero_le _,htl,ht⟩ ?_;clear ht htl t;rintro j t ⟨hj,htl,ht⟩;refine RG ?_;(repeat first|refine WO ?_|refine Ai λX=>?_|refine Ay λY=>?_);refine NL ?_;refine FL ?_;refine AWP.cond rfl (λhd=>?_) (λhd=>?_)
  ·have h2:j<cs.length:=by have:=of_decide_eq_true hd;omega
   have hat2:(cs.map (AE false))[j]?=some (AE false cs[j]):=Aj _ h2;have hcm2:=List.getElem_mem h2;obtain⟨c,hcc⟩:∃c,cs[j]=c:=⟨_,rfl⟩;rw[List.drop_eq_getElem_cons h2,hcc,List.flatMap_cons,List.append_assoc]at ht;rw[hcc]at hat2 hcm2;have hvl:=hcv c hcm2;obtain⟨hck,k,hk,hkf⟩:=hsh c hcm2;rw[Cx hk]at ht;obtain⟨rest2,hrest2⟩:∃r,(cs.drop (j+1)).flatMap (fvC w.kinds)++rest=r:=⟨_,rfl⟩;rw[hrest2]at ht;obtain⟨ck,vs⟩:=c;dsimp only at hck hk hkf hvl;obtain⟨n,rfl⟩:∃n:Nat,ck=n:=⟨ck.toNat,by omega⟩;have hkat:(w.kinds.map (AU false))[n]?=some (AU false k):=by rw[List.getElem?_map,show w.kinds[n]?=some k from hk];rfl
   have hkn:n<(w.kinds.map (AU false)).length:=(List.getElem?_eq_some_iff.1 hkat).1;have hvm:(vs.map iA).length=vs.length:=List.length_map _;refine FL ?_;refine RG ?_;(repeat first|refine WO ?_|refine Ai λP8=>?_|refine Ay λY=>?_);refine NL ?_;refine FL ?_;refine RG ?_;(repeat first|refine WO ?_|refine Ai λX=>?_|refine Ay λY=>?_);refine NL ?_;rw[hvm];refine FL ?_;refine A3 (λ(q t:Nat)=>⟨[(1,.fn f cap),(2,.fp [AS false false w.kinds,Af false w.gens,BJ false false w.items]),(8,.ptr P8 0 0),(11,BJ false false w.items),(12,iA (w.items.length:Nat)),(13,iA (i:Nat)),(18,Az false false cs),(19,iA (cs.length:Nat)),(20,iA (j:Nat)),(26,iA (vs.length:Nat)),(27,iA (q:Nat))],(P8,.row 55 2 [AE false ⟨n,vs⟩])::(A,oA t)::(B,oB t)::Sf⟩) (λq t=>q<=vs.length/\t<=FV.length/\FV.drop t=(k.fields.zip vs).drop q++rest2) (λq t=>vs.length-q) 0 t ⟨Nat.zero_le _,htl,ht⟩ ?_;clear ht htl t;rintro q t ⟨hq,htl,ht⟩;refine RG ?_;(repeat first|refine WO ?_|refine Ai λX=>?_|refine Ay λY=>?_);refine NL ?_;refine FL ?_;refine AWP.cond rfl (λhe=>?_) (λhe=>?_)
   ·have h3:q<vs.length:=by have:=of_decide_eq_true he;omega
    have h4:q<k.fields.length:=by omega
    rw[Gz h4 h3]at ht;obtain⟨ht1,ht2⟩:=Cd ht;have hfat:(k.fields.map fieldA)[q]?=some (fieldA k.fields[q]):=Aj _ h4;have hvat:(vs.map iA)[q]?=some (iA vs[q]):=Aj _ h3;obtain⟨fd,hfd⟩:∃x,k.fields[q]=x:=⟨_,rfl⟩;obtain⟨x,hx⟩:∃x,vs[q]=x:=⟨_,rfl⟩;rw[hfd]at hfat ht1;rw[hx]at hvat ht1;have hH:=H t fd x ht1;refine FL ?_;refine RG ?_;(repeat first|refine WO ?_|refine Ai λX=>?_|refine Ay λY=>?_);refine NL ?_;refine FL ?_;have ht3:t<FV.length:=(List.getElem?_eq_some_iff.1 ht1).1;refine RU ?_;(repeat first|(refine RGo.gN ?_;first|refine RGo.zc2 (h:=hH) (hT:=.fz) (hs:=hst) (k:=?_))|(refine AX ?_;first|refine RGo.zc2 (h:=hH) (hT:=.fz) (hs:=hst) (k:=?_))|refine RK ?_|refine RGo.nil (by kernel_rfl) ?_);refine AN rfl rfl ?_;refine FL ?_;refine RG ?_;(repeat first|refine WO ?_|refine Ai λX=>?_|refine Ay λY=>?_);refine NL ?_;refine Ae (q+1) (t+1) ⟨by omega,by omega,ht2⟩
   ·have h3:q=vs.length:=by have:=of_decide_eq_false he;omega
    subst h3;have hz:(k.fields.zip vs).drop vs.length=[]:=List.drop_eq_nil_of_le (by rw[List.length_zip];omega);rw[hz,List.nil_append,<-hrest2]at ht;refine FL ?_;refine RG ?_;(repeat first|refine WO ?_|refine Ai λX=>?_|refine Ay λY=>?_);refine NL ?_;refine Ae (j+1) t ⟨by omega,htl,ht⟩
  ·have h2:j=cs.length:=by have:=of_decide_eq_false hd;omega
   subst h2;rw[List.drop_length,List.flatMap_nil,List.nil_append,<-hrest]at ht;refine FL ?_;refine RG ?_;(repeat first|refine WO ?_|refine Ai λX=>?_|refine Ay λY=>?_);refine NL ?_;refine Ae (i+1) t ⟨by omega,htl,ht⟩
 ·have h:i=w.items.length:=by have:=of_decide_eq_false hc;omega
  subst h;rw[List.drop_length,List.flatMap_nil,List.drop_eq_nil_iff]at ht;obtain rfl:t=FV.length:=by omega
  refine FL ?_;refine RG ?_;(repeat first|refine WO ?_|refine Ai λX=>?_|refine Ay λY=>?_);refine NL ?_;refine RT ?_;exact BL [bA true] [(A,_),(B,_)] ⟨rfl,rfl⟩
end Go.Proofs.Ytaodhkbppgenbaa
