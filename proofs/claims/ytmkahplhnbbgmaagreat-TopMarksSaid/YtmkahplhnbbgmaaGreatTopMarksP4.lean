/-
  Part 4 of the texts under the law TopMarks: the layer of abstract values, walks and plain laws. Conditions: those that each theorem names.
-/
import Derived.DeepKeys4
import Derived.Maps.Range
import Derived.Test.YtmkahplhnbbgmaaGreatTopMarksP3
namespace Go.Proofs.YtmkahplhnbbgmaaGreat
set_option linter.unusedVariables false
set_option linter.unusedSimpArgs false
set_option linter.defProp false
set_option maxRecDepth 10000
set_option maxHeartbeats 4000000
variable {l:List AV}
variable {β:Type}
section
variable {ro:Option Nat}
open Go.RowKit
section
variable {P:Program}{nt:Nat}{ops:Array Oper}
theorem WY{F:Fence}{n:Nat}{o:Oper}{a:Act}{w:World}{K K':Act->World->Prop}{Q Q':Exit->Act->World->Prop}(hK:∀a w,K a w->K' a w)(hQ:∀e a w,Q e a w->e= .normal)(hh:o.wpIn F n P a w K Q):o.wpIn F n P a w K' Q':=by
 unfold Oper.wpIn at*;refine⟨hh.1,?_⟩;have hh:=hh.2;generalize (o.semAt F.round a.eval).run P w=r at*;cases r with
 |ok x w'=>
  cases x<;>simp only[Oper.uponIn]at hh⊢<;>
   first
    |exact hK _ _ hh
    |exact⟨hh.1,CallsIn.mono hh.2 (λe w'' he=>by
      cases e with
      |returned v=>exact hK _ _ he
      |panicked c=>exact absurd (hQ _ _ _ he) (by simp)
      |outgrown=>obtain⟨a2,w2,h2⟩:=he;exact absurd (hQ _ _ _ h2) (by simp))⟩
    |exact⟨hh.1,RowsIn.mono hh.2 (λ_ _ he=>hK _ _ he)⟩
    |exact⟨hh.1,RoundIn.mono hh.2 (λe w'' he=>by
      cases e with
      |returned v=>exact hK _ _ he
      |panicked c=>exact absurd (hQ _ _ _ he) (by simp)
      |outgrown=>obtain⟨a2,w2,h2⟩:=he;exact absurd (hQ _ _ _ h2) (by simp))⟩
 |halt x w'=>
  cases x<;>simp only[Oper.uponIn]at hh⊢<;>
   first
    |exact hh
    |exact absurd (hQ _ _ _ hh) (by simp)
structure St.LeH(st st':St):Prop where
 T:∀d v,Bf st'.T d=some v->Bf st.T d=some v
 S:st'.S.Sublist st.S
theorem Rel.weakH{m0:Mem}{st st':St}{a:Act}{w:World}(h:Rel nt m0 st a w)(k:st.LeH st'):Rel nt m0 st' a w:=(Gg (T':=st'.T) h k.T).sub k.S
abbrev Hv:Type:=Nat×Oper×List Nat×List (Nat×AV)
def HC(ro:Option Nat)(P:Program)(nt:Nat)(Q:Exit->St->Prop)(Tf:List (Nat×AV))(Ff:List AS):List Hv->List (Nat×AV)->List AS->Prop
 |[],V,R=>Q .normal ⟨V++Tf,Ff++R⟩
 |q::hs,V,R=>∀T F,(∀t∈q.2.2.1,Bf T t=Bf (V++q.2.2.2) t)->AOps ro P nt #[] (λex st'=>ex= .normal/\∃u R',st'.LeH ⟨BA T q.2.1.dst u,F++R'⟩/\HC ro P nt Q Tf Ff hs (BA V q.2.1.dst u) R') [q.2.1] ⟨T,F++R⟩
theorem Tc{wS:List (Nat×AS)}:∀{F R:List AS},(∀q∈wS,q.1<F.length)->BE (F++R) wS=BE F wS++R:=by
 induction wS with
 |nil=>intro F R _;rfl
 |cons q r ih=>
  intro F R h;show BE ((F++R).set q.1 q.2) r=BE (F.set q.1 q.2) r++R
  rw[List.set_append_left _ _ (h q (by simp))];exact ih λq' hq'=>by rw[Ft];exact h q' (by simp[hq'])
theorem WB{m0:Mem}{st:St}{effs:List Eff}{hv:List Hv}{Q:Exit->St->Prop}{R0:List AS}(heff:effs.map (·.o)=ops.toList)(hc:Ex effs (DR ops.toList [])=true)(hdn:down ops.toList 0=true)
  (hvi:∀q∈hv,∃e,effs[q.1]?=some e/\e.o=q.2.1/\e.rT=q.2.2.1/\(stX effs 0 (λj=>decide (j<q.1)) st).T=q.2.2.2/\e.wS=[]/\e.o.guard=none)
  (hch:hv.Pairwise λp q=>p.1<q.1/\∃m,(DR ops.toList [])[q.1]?=some m/\m.testBit p.1=true)
  (hli:∀i e,(∀q∈hv,q.1≠i)->effs[i]?=some e->R4 P nt ops e (stX effs 0 (λj=>decide (j<i)) st)/\(∀p∈e.rS,p<st.S.length)/\(∀q∈e.wS,q.1<st.S.length)/\∀q∈hv,∀d,q.2.1.dst=some d->d∉e.rT/\e.o.dst≠some d):
  ∀(fuel:Nat) (X:Array Bool) (a:Act) (w:World),X.size=ops.size->(∀j o,ops.toList[j]?=some o->X.getD j false=true->∀e∈o.after.toList,Region.binds .any e=true->X.getD e.on false=true)->
   ((List.range ops.size).filter λj=>!X.getD j false).length<=fuel->
   (∃dn hs V R,hv=dn++hs/\(∀q∈dn,X.getD q.1 false=true)/\(∀q∈hs,X.getD q.1 false=false)/\(∀d,Bf V d≠none->∃q∈dn,q.2.1.dst=some d)/\HC ro P nt Q (stX effs 0 (λ_=>true) st).T (stX effs 0 (λ_=>true) st).S hs V R/\Rel nt m0 ⟨V++(stX effs 0 (λj=>X.getD j false) st).T,(stX effs 0 (λj=>X.getD j false) st).S++R⟩ a w)->
   wpAnyIn (FW ro) 0 P .any ops (λe a' w'=>∃st',Rel nt m0 st' a' w' /\Q e st') fuel X a w:=by
 have hlen:effs.length=ops.size:=by have:=EI List.length heff;simpa using this
 have hvlt:∀q∈hv,q.1<ops.size:=λq hq=>by
  obtain⟨e,he,_⟩:=hvi q hq;rw[<-hlen];exact(AE.1 he).1
 have done:∀(X:Array Bool) a w,(∀j,j<ops.size->X.getD j false=true)->(∃dn hs V R,hv=dn++hs/\(∀q∈dn,X.getD q.1 false=true)/\(∀q∈hs,X.getD q.1 false=false)/\(∀d,Bf V d≠none->∃q∈dn,q.2.1.dst=some d)/\HC ro P nt Q (stX effs 0 (λ_=>true) st).T (stX effs 0 (λ_=>true) st).S hs V R/\Rel nt m0 ⟨V++(stX effs 0 (λj=>X.getD j false) st).T,(stX effs 0 (λj=>X.getD j false) st).S++R⟩ a w)->∃st',Rel nt m0 st' a w/\Q .normal st':=by
  rintro X a w hall ⟨dn,hs,V,R,h1,h2,h3,h4,h5,hr⟩;cases hs with
  |cons q hs=>
   have hq:q∈hv:=by rw[h1];simp
   have:=h3 q (by simp);rw[hall q.1 (hvlt q hq)]at this;cases this
  |nil=>
   have hT:∀t,Bf (stX effs 0 (λj=>X.getD j false) st).T t=Bf (stX effs 0 (λ_=>true) st).T t:=λt=>
    Kf (λj e he _=>by rw[An];exact hall j (by rw[<-hlen];exact(AE.1 he).1)) rfl
   have hS:(stX effs 0 (λj=>X.getD j false) st).S=(stX effs 0 (λ_=>true) st).S:=Fu λp=>
    MU (λj e he _=>by rw[An];exact hall j (by rw[<-hlen];exact(AE.1 he).1)) rfl rfl
   have hr':Rel nt m0 ⟨V++(stX effs 0 (λ_=>true) st).T,(stX effs 0 (λj=>X.getD j false) st).S++R⟩ a w:=Gg hr λd v h=>by
    rw[EP]at h⊢;rw[hT];exact h
   rw[hS]at hr';exact⟨_,hr',h5⟩
 refine Ot (I:=λX a w=>∃dn hs V R,hv=dn++hs/\(∀q∈dn,X.getD q.1 false=true)/\(∀q∈hs,X.getD q.1 false=false)/\(∀d,Bf V d≠none->∃q∈dn,q.2.1.dst=some d)/\HC ro P nt Q (stX effs 0 (λ_=>true) st).T (stX effs 0 (λ_=>true) st).S hs V R/\Rel nt m0 ⟨V++(stX effs 0 (λj=>X.getD j false) st).T,(stX effs 0 (λj=>X.getD j false) st).S++R⟩ a w) hdn done λX i hin a w hX hdc hXi hpre hinv=>?_
 ·have ho:ops[i]?=some ops[i]:=by simp[hin]
  have hiX:i<X.size:=by omega
  obtain⟨e,he⟩:∃e,effs[i]?=some e:=⟨effs[i]'(by rw[hlen];exact hin),by simp[hlen,hin]⟩;obtain⟨heo,hrT,hrS,hT2,hS2⟩:=Ke (heff▸List.prefix_rfl) hc hX hdc hin hXi hpre he;have hX':=MW hiX;obtain⟨dn,hs,V,R,h1,h2,h3,h4,h5,hr⟩:=hinv;have hSlen:(stX effs 0 (λj=>X.getD j false) st).S.length=st.S.length:=We ..;by_cases hhv:∃q∈hv,q.1=i
  ·obtain⟨q,hq,hqi⟩:=hhv
   subst hqi
   have hqs:q∈hs:=by
    rw[h1]at hq;rcases AL.1 hq with h|h
    ·rw[h2 q h]at hXi;cases hXi
    ·exact h
   obtain⟨q0,hs',rfl⟩:∃q0 hs',hs=q0::hs':=by
    cases hs with
    |nil=>cases hqs
    |cons q0 hs'=>exact⟨q0,hs',rfl⟩
   have hmask:=IY (λk=>X.getD k false||decide (k=q.1)) ops.toList [] (λk o hk hXk ee hee hb=>by
    simp only[Ei,An,Cf,Aj]at hXk⊢;rcases hXk with h|h
    ·exact .inl (hdc k o hk h ee hee hb)
    ·subst h
     have:o=ops[q.1]:=by simpa[hin]using hk.symm
     subst this;exact .inl (hpre ee hee hb)) (λj m h=>by simp at h)
   have hq0:q0.1=q.1:=by
    rcases AQ.1 hqs with rfl|hqs
    ·rfl
    ·rw[h1]at hch
     have hp:=(Al.1 (Bi.1 hch).2.1).1 q hqs;obtain⟨_,m,hm1,hm2⟩:=hp;have:=hmask q.1 m hm1 (by simp) q0.1 hm2;simp only[Cf,Aj]at this;rcases this with h|h
     ·rw[h3 q0 (by simp)]at h;cases h
     ·exact h
   obtain⟨e',he',g1,g2,g3,g4,g5⟩:=hvi q0 (by rw[h1];simp);rw[hq0,he]at he';injection he' with he'
   subst he';rw[hq0]at g3
   have hA:=h5 (V++(stX effs 0 (λj=>X.getD j false) st).T) (stX effs 0 (λj=>X.getD j false) st).S (λt ht=>by
    rw[<-g2]at ht;rw[EP,EP,hrT t ht,g3]) m0 a w hr
   unfold wpOpIn;simp only[ho];rw[<-g1,heo]at hA;unfold wpListIn at hA;have hw:Region.wanted ops[q.1] (yielded ops a.tmps)=true:=by rw[<-heo];simp[Region.wanted,g5]
   have hw2:Region.wanted ops[q.1] (yielded #[] a.tmps)=true:=by rw[<-heo];simp[Region.wanted,g5]
   rw[AY hw2]at hA;rw[AY hw];refine WY (λa' w' hh=>?_) (λex a' w' ⟨st',_,hx,_⟩=>hx) hA;obtain⟨st',hr',_,u,R',hle,hHC⟩:=hh;refine⟨dn++[q0],hs',BA V ops[q.1].dst u,R',by rw[h1];simp,λp hp=>?_,λp hp=>?_,λd hd=>?_,hHC,?_⟩
   ·rw[hX']
    rcases AL.1 hp with hp|hp
    ·rw[h2 p hp];rfl
    ·have:p=q0:=by simpa using hp
     subst this;simp[hq0]
   ·rw[hX']
    have h6:=h3 p (by simp[hp]);rw[h6]
    have:p.1≠q.1:=λh=>by
     rw[h1]at hch;have:=((Al.1 (Bi.1 hch).2.1).1 p hp).1;omega
    simp[this]
   ·cases hdd:ops[q.1].dst with
    |none=>
     rw[hdd]at hd;obtain⟨p,hp,hpd⟩:=h4 d hd;exact⟨p,by simp[hp],hpd⟩
    |some d'=>
     rw[hdd]at hd;by_cases hdeq:d=d'
     ·subst hdeq
      exact⟨q0,by simp,by rw[<-g1,heo,hdd]⟩
     ·have hd':Bf V d≠none:=by
       simp only[BA,CE,AM hdeq]at hd;exact hd
      obtain⟨p,hp,hpd⟩:=h4 d hd';exact⟨p,by simp[hp],hpd⟩
   ·rw[hS2]
    have hwS:(e.app (stX effs 0 (λj=>X.getD j false) st)).S=(stX effs 0 (λj=>X.getD j false) st).S:=by
     show BE _ e.wS=_
     rw[g4];rfl
    rw[hwS];refine Gg (hr'.weakH hle) λd v hv=>?_
    rw[EP]at hv;cases hdd:ops[q.1].dst with
    |none=>
     rw[hdd]at hv;simp only[BA]at hv⊢;rw[EP];rw[hT2]at hv;simp only[Eff.app,heo,hdd,BA]at hv;exact hv
    |some d'=>
     rw[hdd]at hv;simp only[BA,CE]at hv⊢;by_cases hdeq:d=d'
     ·simp only[AY hdeq]at hv⊢
      simpa using hv
     ·simp only[AM hdeq]at hv⊢
      rw[EP];rw[hT2]at hv;simp only[Eff.app,heo,hdd,BA,CE,AM hdeq]at hv;exact hv
  ·have hno:∀q∈hv,q.1≠i:=λq hq h=>hhv ⟨q,hq,h⟩
   obtain⟨hloc,hrs,hws,hdst⟩:=hli i e hno he;have hV:∀d,(∃q∈dn,q.2.1.dst=some d)->d∉e.rT/\e.o.dst≠some d:=λd ⟨q,hq,hqd⟩=>hdst q (by rw[h1];simp[hq]) d hqd
   have hl:=hloc m0 (V++(stX effs 0 (λj=>X.getD j false) st).T) ((stX effs 0 (λj=>X.getD j false) st).S++R) a w (λt ht=>by
    rw[EP];cases hVt:Bf V t with
    |none=>rw[Option.none_or];exact hrT t ht
    |some v=>exact absurd ht (hV t (h4 t (by rw[hVt];simp))).1) (λp hp=>by
    rw[CR (by rw[hSlen];exact hrs p hp)];exact hrS p hp) hr
   have hnew:∀a' w',Rel nt m0 (e.app ⟨V++(stX effs 0 (λj=>X.getD j false) st).T,(stX effs 0 (λj=>X.getD j false) st).S++R⟩) a' w' ->Rel nt m0 ⟨V++(stX effs 0 (λj=>(X.setIfInBounds i true).getD j false) st).T,(stX effs 0 (λj=>(X.setIfInBounds i true).getD j false) st).S++R⟩ a' w':=by
    intro a' w' hr';rw[hS2]
    have e1:(e.app ⟨V++(stX effs 0 (λj=>X.getD j false) st).T,(stX effs 0 (λj=>X.getD j false) st).S++R⟩).S=(e.app (stX effs 0 (λj=>X.getD j false) st)).S++R:=by
     show BE _ e.wS=BE _ e.wS++R
     exact Tc λq hq=>by rw[hSlen];exact hws q hq
    rw[<-e1];refine Gg hr' λd v hv=>?_
    rw[EP,hT2]at hv;show Bf (BA (V++(stX effs 0 (λj=>X.getD j false) st).T) e.o.dst e.v) d=some v
    cases hdd:e.o.dst with
    |none=>
     simp only[Eff.app,hdd,BA]at hv⊢;rw[EP];exact hv
    |some d'=>
     simp only[Eff.app,hdd,BA,CE]at hv⊢;by_cases hdeq:d=d'
     ·subst hdeq
      cases hVt:Bf V d with
      |none=>rw[hVt]at hv;simpa using hv
      |some x=>exact absurd hdd (hV d (h4 d (by rw[hVt];simp))).2
     ·rw[AM hdeq]at hv⊢
      rw[EP];exact hv
   have n2:∀q∈dn,(X.setIfInBounds i true).getD q.1 false=true:=λq hq=>by rw[hX',h2 q hq];rfl
   have n3:∀q∈hs,(X.setIfInBounds i true).getD q.1 false=false:=λq hq=>by
    rw[hX',h3 q hq];simp[hno q (by rw[h1];simp[hq])]
   unfold wpOpIn;simp only[ho];rw[heo]at hl;by_cases hw:Region.wanted ops[i] (yielded ops a.tmps)=true
   ·rw[AY hw]at hl⊢
    exact J4 hl λa' w' hr'=>⟨dn,hs,V,R,h1,n2,n3,h4,h5,hnew a' w' hr'⟩
   ·rw[AM hw]at hl⊢
    exact⟨λ_ _=>CZ,dn,hs,V,R,h1,n2,n3,h4,h5,hnew _ _ hl⟩
theorem fP(st:St)(X:Nat->Bool):stX [] 0 X st=st:=rfl
def Va(n:Nat)(effs:List Eff)(hv:List (Nat×Option Nat)):Bool:=(List.range effs.length).all λi=>(hv.any λq=>Nat.beq q.1 i)||match effs[i]? with
 |none=>true
 |some e=>e.rS.all (λp=>Nat.blt p n)&&e.wS.all (λq=>Nat.blt q.1 n)&&hv.all λq=>!Tu q.2 e.rT&& !Tg e.o.dst q.2
def P6:List Nat->List Nat->Bool
 |[],_=>true
 |p::r,ms=>r.all (λq=>Nat.blt p q&&(ms.getD q 0).testBit p&&Nat.blt q ms.length)&&P6 r ms
theorem Ns{ms:List Nat}:∀{hs:List Nat},P6 hs ms=true->hs.Pairwise λp q=>p<q/\∃m,ms[q]?=some m/\m.testBit p=true
 |[],_=>.nil
 |p::r,h=>by
  simp only[P6,AF,Cu,IG]at h;refine .cons (λq hq=>?_) (Ns h.2);obtain⟨⟨h1,h2⟩,h3⟩:=h.1 q hq;refine⟨h1,ms[q],by simp[h3],?_⟩;simpa[EH,Af h3]using h2
theorem T3{n:Nat}{effs:List Eff}{hv:List (Nat×Option Nat)}(h:Va n effs hv=true){i:Nat}{e:Eff}(hi:∀q∈hv,q.1≠i)(he:effs[i]?=some e):(∀p∈e.rS,p<n)/\(∀q∈e.wS,q.1<n)/\∀q∈hv,∀d,q.2=some d->d∉e.rT/\e.o.dst≠some d:=by
 have h1:=Cu.1 h i (CK.2 (AE.1 he).1)
 have h2:(hv.any λq=>Nat.beq q.1 i)=false:=by
  rw[CQ];intro q hq h3;exact hi q hq (DF h3)
 rw[h2,he]at h1;simp only[Bool.false_or,AF,Cu,IG]at h1;refine⟨h1.1.1,h1.1.2,λq hq d hd=>?_⟩;obtain⟨h3,h4⟩:=h1.2 q hq;rw[hd]at h3 h4;refine⟨λhm=>?_,λe2=>?_⟩
 ·have:Tu (some d) e.rT=true:=Es.2 ⟨d,hm,Nat.beq_refl d⟩
  rw[this]at h3;cases h3
 ·rw[e2]at h4
  have:Tg (some d) (some d)=true:=by simp[Tg]
  rw[this]at h4;cases h4
def RGoH(ro:Option Nat)(n:Nat)(P:Program)(nt:Nat)(l:List Oper)(Q:Exit->St->Prop)(R0:List AS)(rest:List Oper)(acc:List Eff)(hacc:List Hv)(st:St):Prop:=
 ∃effs hvr,effs.map (·.o)=rest/\
  (∀q∈hvr,∃k e,q.1=acc.length+k/\effs[k]?=some e/\e.o=q.2.1/\e.rT=q.2.2.1/\(stX effs 0 (λj=>decide (j<k)) st).T=q.2.2.2/\e.wS=[]/\e.o.guard=none)/\
  (∀k e,(∀q∈hvr,q.1≠acc.length+k)->effs[k]?=some e->R4 P nt l.toArray e (stX effs 0 (λj=>decide (j<k)) st))/\
  Ex (acc++effs) (DR l [])=true/\P6 ((hacc++hvr).map (·.1)) (DR l [])=true/\Va n (acc++effs) ((hacc++hvr).map λq=>(q.1,q.2.1.dst))=true/\
  HC ro P nt Q (stX effs 0 (λ_=>true) st).T (stX effs 0 (λ_=>true) st).S (hacc++hvr) [] R0
section
variable {Q:Exit->St->Prop}{l rest:List Oper}{acc:List Eff}{hacc:List Hv}{st:St}{T:List (Nat×AV)}{S R0:List AS}{xs:List (Operand×AV)}{rS wS:List (Nat×AS)}{v:AV}{op:Op}{ty:TypeId}{pos:String}{after:Array Edge}{dst:Option Tmp}{n:Nat}
theorem AWP.region_runH{id:Nat}(F0 R0:List AS)(hn:F0.length=n)(hm:P.follows .mixedOrders=true)(hdn:down l 0=true)(h:RGoH ro n P nt l Q R0 l [] [] ⟨T,F0⟩):AWP ro P nt (.region id l.toArray true) Q ⟨T,F0++R0⟩:=by
 obtain⟨effs,hv,h1,h2,h3,h4,h5,h6,h7⟩:=h;rw[CD]at h4 h5 h6 h7;intro m0 a w hrel;refine wpIn_region_any hm (WB (m0:=m0) (st:=⟨T,F0⟩) (effs:=effs) (hv:=hv) (R0:=R0) (by simpa using h1) (by simpa using h4) (by simpa using hdn) (λq hq=>?_) (by simpa[HE]using Ns h5) (λi e hi he=>?_) _ _ a _ (by simp) ?_ ?_ ?_)
 ·obtain⟨k,e,g1,g2,g3,g4,g5,g6,g7⟩:=h2 q hq
  rw[Ei,An]at g1;subst g1;exact⟨e,g2,g3,g4,g5,g6,g7⟩
 ·have hl:=T3 h6 (i:=i) (e:=e) (λq hq=>by
   obtain⟨p,hp,rfl⟩:=Ad.1 hq;exact hi p hp) he
  refine⟨h3 i e (λq hq=>by rw[Ei,An];exact hi q hq) he,λp hp=>by rw[hn];exact hl.1 p hp,λq hq=>by rw[hn];exact hl.2.1 q hq,λq hq d hd=>hl.2.2 (q.1,q.2.1.dst) (Ad.2 ⟨q,hq,rfl⟩) d hd⟩
 ·intro j o hj hX
  have:j<l.length:=(AE.1 hj).1;simp[this]at hX
 ·exact B7 (G7 _ _) (by simp)
 ·have:(λj=>(Array.replicate l.toArray.size false).getD j false)=λ_=>false:=by
   funext j
   simp only[CH,NE];split<;>rfl
  refine⟨[],hv,[],R0,rfl,λq hq=>absurd hq (by simp),λq hq=>congrFun this q.1,λd hd=>absurd rfl hd,h7,?_⟩;rw[this,Jb];exact hrel.draw _
theorem RGoH.nil(hc:Ex acc (DR l [])=true)(h5:P6 (hacc.map (·.1)) (DR l [])=true)(h6:Va n acc (hacc.map λq=>(q.1,q.2.1.dst))=true)(k:HC ro P nt Q st.T st.S hacc [] R0):RGoH ro n P nt l Q R0 [] acc hacc st:=
 ⟨[],[],rfl,λq hq=>(by cases hq),λk e _ he=>(by cases he),by simpa using hc,by simpa using h5,by simpa using h6,by rw[BD];exact k⟩
theorem QL{o:Oper}{e:Eff}{st':St}(h:Run P nt l.toArray [o] st [e] st')(k:RGoH ro n P nt l Q R0 rest (acc++[e]) hacc st'):RGoH ro n P nt l Q R0 (o::rest) acc hacc st:=by
 obtain⟨h1,h2,h3⟩:=h.spec;obtain⟨effs,hvr,k1,k2,k3,k4,k5,k6,k7⟩:=k;have hst:st'=e.app st:=by rw[h1,J5];rfl
 subst hst;simp only[Aa,CM,Bs,Hu]at h2;refine⟨e::effs,hvr,by simp[k1,h2],λq hq=>?_,λi e' hi he=>?_,by simpa using k4,k5,by simpa using k6,by rw[J5];exact k7⟩
 ·obtain⟨i,e',g1,g2,g3,g4,g5,g6,g7⟩:=k2 q hq
  refine⟨i+1,e',by rw[g1,Ak,Bj];omega,by simpa using g2,g3,g4,by rw[He];exact g5,g6,g7⟩
 ·cases i with
  |zero=>
   simp at he;subst he;have:=h3 0 e rfl;rw[Ja]at this⊢;exact this
  |succ i=>
   rw[He];exact k3 i e' (λq hq=>by rw[Ak,Bj];have:=hi q hq;omega) (by simpa using he)
theorem Cj(k:RGoH ro n P nt l Q R0 rest (acc++[⟨⟨dst,op,ty,pos,after,none⟩,Bl xs,rS.map (·.1),v,[]⟩]) hacc ⟨BA T dst v,S⟩)(h:Stp none P ⟨dst,op,ty,pos,after,none⟩ T S xs rS v []:=by exact Gu)(hd:A8 dst nt=true:=by rfl):RGoH ro n P nt l Q R0 (⟨dst,op,ty,pos,after,none⟩::rest) acc hacc ⟨T,S⟩:=QL (Run.p h hd .nil) k
theorem bR(k:RGoH ro n P nt l Q R0 rest (acc++[⟨⟨dst,op,ty,pos,after,none⟩,Bl xs,rS.map (·.1),v,wS⟩]) hacc ⟨BA T dst v,BE S wS⟩)(h:Stp none P ⟨dst,op,ty,pos,after,none⟩ T S xs rS v wS:=by exact Kw)(hd:A8 dst nt=true:=by rfl):RGoH ro n P nt l Q R0 (⟨dst,op,ty,pos,after,none⟩::rest) acc hacc ⟨T,S⟩:=QL (Run.s h hd .nil) k
theorem FY(rT:List Nat)(k:RGoH ro n P nt l Q R0 rest (acc++[⟨⟨dst,op,ty,pos,after,none⟩,rT,[],.dead,[]⟩]) (hacc++[(acc.length,⟨dst,op,ty,pos,after,none⟩,rT,T)]) ⟨BA T dst .dead,S⟩):RGoH ro n P nt l Q R0 (⟨dst,op,ty,pos,after,none⟩::rest) acc hacc ⟨T,S⟩:=by
 obtain⟨effs,hvr,k1,k2,k3,k4,k5,k6,k7⟩:=k;refine⟨⟨⟨dst,op,ty,pos,after,none⟩,rT,[],.dead,[]⟩::effs,(acc.length,⟨dst,op,ty,pos,after,none⟩,rT,T)::hvr,by simp[k1],λq hq=>?_,λi e' hi he=>?_,by simpa using k4,by simpa using k5,by simpa using k6,by rw[J5,List.append_cons];exact k7⟩
 ·rcases AQ.1 hq with rfl|hq
  ·exact⟨0,_,rfl,rfl,rfl,rfl,by rw[Ja],rfl,rfl⟩
  ·obtain⟨i,e',g1,g2,g3,g4,g5,g6,g7⟩:=k2 q hq
   exact⟨i+1,e',by rw[g1,Ak,Bj];omega,by simpa using g2,g3,g4,by rw[He];exact g5,g6,g7⟩
 ·cases i with
  |zero=>exact absurd rfl (hi (acc.length,⟨dst,op,ty,pos,after,none⟩,rT,T) (by simp))
  |succ i=>
   rw[He];exact k3 i e' (λq hq=>by rw[Ak,Bj];have:=hi q (by simp[hq]);omega) (by simpa using he)
def RdH(rT:List Nat)(L:List (Nat×AV)):List (Nat×AV)->Prop
 |[]=>True
 |p::r=>rT.contains p.1=true/\Bf L p.1=some p.2/\RdH rT L r
theorem RdH.at{rT:List Nat}{L:List (Nat×AV)}:∀{xs:List (Nat×AV)},RdH rT L xs->∀d v,Bf xs d=some v->d∈rT/\Bf L d=some v
 |[],_,d,v,h=>by cases h
 |p::r,hx,d,v,h=>by
  obtain⟨h1,h2,h3⟩:=hx;rw[show p::r=(p.1,p.2)::r from rfl,CE]at h;split at h
  ·rename_i e
   subst e;injection h with h
   subst h;exact⟨by simpa using h1,h2⟩
  ·exact RdH.at h3 d v h
theorem HC.step{q:Hv}{hs:List Hv}{V Tf:List (Nat×AV)}{Ff R:List AS}(ys:List (Nat×AV))(hx:RdH q.2.2.1 (V++q.2.2.2) ys)(k:∀T F,AOps ro P nt #[] (λex st'=>ex= .normal/\∃u R',st'.LeH ⟨BA (ys++T) q.2.1.dst u,F++R'⟩/\HC ro P nt Q Tf Ff hs (BA V q.2.1.dst u) R') [q.2.1] ⟨ys++T,F++R⟩):HC ro P nt Q Tf Ff (q::hs) V R:=by
 intro T F hT m0 a w hr
 have hin:∀d v,Bf (ys++T) d=some v->Bf T d=some v:=λd v h=>by
  rw[EP]at h;cases hy:Bf ys d with
  |none=>rw[hy]at h;simpa using h
  |some x=>
   rw[hy]at h;have hxv:x=v:=by simpa using h
   subst hxv;obtain⟨h1,h2⟩:=hx.at d x hy;rw[hT d h1,h2]
 have hout:∀d v,Bf T d=some v->Bf (ys++T) d=some v:=λd v h=>by
  rw[EP];cases hy:Bf ys d with
  |none=>simpa using h
  |some x=>
   obtain⟨h1,h2⟩:=hx.at d x hy;rw[hT d h1,h2]at h;simpa using h
 have h1:=k T F m0 a w (Gg hr hin)
 have hcv:∀st':St,(∃u R',st'.LeH ⟨BA (ys++T) q.2.1.dst u,F++R'⟩/\HC ro P nt Q Tf Ff hs (BA V q.2.1.dst u) R')->∃u R',st'.LeH ⟨BA T q.2.1.dst u,F++R'⟩/\HC ro P nt Q Tf Ff hs (BA V q.2.1.dst u) R':=by
  rintro st' ⟨u,R',hle,hh⟩;refine⟨u,R',⟨λd v hd=>hle.T d v ?_,hle.S⟩,hh⟩;cases hdd:q.2.1.dst with
  |none=>rw[hdd]at hd;exact hout d v hd
  |some d'=>
   rw[hdd]at hd;simp only[BA,CE]at hd⊢;split
   ·rename_i e;rw[AY e]at hd;exact hd
   ·rename_i e;rw[AM e]at hd;exact hout d v hd
 have hK:∀a w,wpListIn (FW ro) 0 P #[] (λe a' w'=>∃st':St,Rel nt m0 st' a' w' /\e= .normal/\∃u R',st'.LeH ⟨BA (ys++T) q.2.1.dst u,F++R'⟩/\HC ro P nt Q Tf Ff hs (BA V q.2.1.dst u) R') [] a w->wpListIn (FW ro) 0 P #[] (λe a' w'=>∃st':St,Rel nt m0 st' a' w' /\e= .normal/\∃u R',st'.LeH ⟨BA T q.2.1.dst u,F++R'⟩/\HC ro P nt Q Tf Ff hs (BA V q.2.1.dst u) R') [] a w:=by
  rintro a w ⟨st',h2,h3,h4⟩;exact⟨st',h2,h3,hcv st' h4⟩
 unfold wpListIn at h1⊢;by_cases hw:Region.wanted q.2.1 (yielded #[] a.tmps)=true
 ·rw[AY hw]at h1⊢
  exact WY hK (λex a' w' ⟨st',_,hx,_⟩=>hx) h1
 ·rw[AM hw]at h1⊢
  exact⟨h1.1,hK _ _ h1.2⟩
end
end
end
section
section
variable {P:Program}{nt:Nat}{T:List (Nat×AV)}{S:List AS}{ty t k e:TypeId}{pos:String}{after:Array Edge}{d:Nat}{c:Option (List Bool)}{g:Option (Nat×Bool)}{x y:Operand}{X Y p q:Nat}{gf:Int->Option Value}{s:Nat}{z0:Value}{K:AV->Value->Prop}{v:AV}
theorem OpT.lookP{n:Int}{u:Value}[TMap P t k e z0](hv:(gf n).getD z0=u)(hn: -9223372036854775808<=n/\n<=9223372036854775807)(hone:u.oneCell'=true)(hK:K v u):
  OpT P ⟨some d,.lookup t x y false,ty,pos,after,g⟩ [(x,.mp X),(y,.prim (.int .i64 n))] [(p,(X,.ob (MapF P k e gf s))),(q,(Y,.tv K))] v []:=by
 subst hv;intro nt m0 T S a w hx hS hd hr;have h1:=OpT.lookup1 (dst:=some d) (ty:=ty) (pos:=pos) (after:=after) (g:=g) (p:=p) (x:=x) (y:=y) (X:=X) (s:=s) (gf:=gf) (TMap.h (t:=t) (z0:=z0)) (TMap.hk (t:=t) (z0:=z0)) (TMap.hz (t:=t)) (TMap.h0 (P:=P) (t:=t)) hn hone nt m0 T S a w hx (λq' hq'=>hS q' (by simp only[CX]at hq';simp[hq'])) hd hr;refine NB ?_ h1;rintro a' w' ⟨m,N,Z,rfl,h2,h3,h4⟩;have hq:S[q]?=some (Y,AO.tv K):=hS (q,(Y,AO.tv K)) (by simp);have h2':Z.map (·.1)=S:=h2;rw[<-h2',Ae,DZ]at hq;obtain⟨⟨z,bs⟩,hz,hze⟩:=hq;have hze:z=(Y,AO.tv K):=hze;subst hze;obtain⟨_,_,hO⟩:=h3.obj _ (Bb hz);refine⟨m,N,Z,rfl,h2,h3,h4.1,h4.2.1,λe v' he=>?_⟩;simp only[BA,CE]at he;split at he
 ·rename_i e';subst e'
  injection he with he;subst he
  obtain⟨u',h5,h6⟩:=h4.2.2 e (.prim ((gf n).getD z0)) (by simp only[BA,CE,Ga]);refine⟨u',h5,?_⟩;rw[h6.prim];exact hO _ _ hK
 ·rename_i e'
  exact h4.2.2 e v' (by simp only[BA,CE,AM e'];exact he)
theorem W.lookP{n:Int}{u:Value}(v:AV)[TMap P t k e z0](hv:(gf n).getD z0=u)(hn: -9223372036854775808<=n/\n<=9223372036854775807)(hone:u.oneCell'=true)(hK:K v u)(hx:Rd c T x (.mp X))(hy:Rd c T y (.prim (.int .i64 n)))(hSp:At S p (X,.ob (MapF P k e gf s)))(hSq:At S q (Y,.tv K)):
  Stp c P ⟨some d,.lookup t x y false,ty,pos,after,g⟩ T S [(x,.mp X),(y,.prim (.int .i64 n))] [(p,(X,.ob (MapF P k e gf s))),(q,(Y,.tv K))] v []:=
 ⟨.lookP hv hn hone hK,.cons hx (.cons hy .nil),.cons hSp (.cons hSq .nil)⟩
end
end
section
variable {ro:Option Nat}
section
variable {P:Program}{ty t t' te:TypeId}{pos:String}{after:Array Edge}{g:Option (Nat×Bool)}{dst:Option Tmp}{x y z:Operand}{l:List AV}{sz:Nat}{c:Option (List Bool)}{T:List (Nat×AV)}{S:List AS}{i j:Int}{k k2:IntKind}
theorem OpT.slice_lst_2{lo hi:Nat}{qi qj:Int}(he:Ea P t=some te)(hsz:tSz P te=some sz)(hq:qi=(lo:Int))(hq2:qj=(hi:Int))(hlh:lo<=hi)(hh:hi<=l.length):OpT P ⟨dst,.slice t x (some y) (some z) none,ty,pos,after,g⟩ [(x,.lst false t' sz l),(y,.prim (.int k qi)),(z,.prim (.int k2 qj))] [] (.lst false t' sz ((l.take hi).drop lo)) []:=
 .pure_ λm a hx hS=>by
  obtain⟨_,A,c,e1,h3,hw,h4⟩:=hx (x,.lst false t' sz l) (by simp);have hy:=(hx (y,.prim (.int k qi)) (by simp)).prim;have hz:=(hx (z,.prim (.int k2 qj)) (by simp)).prim;injection e1 with e1
  simp only at e1 hy hz;subst hq;subst hq2;have hr:=Fz (P:=P) (w:=m.w) he hsz (A:=A) (len:=l.length) (cap:=c) (lo:=lo) (hi:=hi) (vl:=some (.int k lo)) (vh:=some (.int k2 hi)) (λu hu=>⟨k,by injection hu with hu;exact hu.symm⟩) (by simp) (λu hu=>⟨k2,by injection hu with hu;exact hu.symm⟩) (by simp) hlh (by omega);have hl:((l.take hi).drop lo).length=hi-lo:=by rw[DE,BZ];omega
  refine⟨_,by simp only[execOp,FA,A7,e1,hy,hz,AJ,hr,AA];rfl,rfl,_,c-lo,by rw[hl],by rw[hl];omega,λe he=>hw e (BK (BR he)),λh0=>?_⟩;rw[hl]at h0⊢;obtain⟨b,off,arr,tt,r,rfl,hF,hb,hc⟩:=h4 (by omega);obtain⟨p1,p2,e2,h5,_⟩:=VCs.take hw hc hh;obtain⟨rfl,rfl⟩:p1=[]/\p2=[]:=by simpa using e2.symm
  obtain⟨p3,p4,e3,_,h6⟩:=VCs.take (l:=l.take hi) (λe he=>hw e (BK he)) h5 (k:=lo) (by rw[BZ];omega);obtain⟨rfl,rfl⟩:p3=[]/\p4=[]:=by simpa using e3.symm
  rw[AM (by omega)];refine⟨b,off+lo*sz,arr,tt,r,by rw[A7,Gq],hF,hb,?_⟩;rw[Dy,B6 (BQ _ hh)]at h6;have e:((arr.toList.drop off).take (hi*sz)).drop (lo*sz)=(arr.toList.drop (off+lo*sz)).take ((hi-lo)*sz):=by rw[Fg,Cq,<-Nat.sub_mul]
  rw[e]at h6;exact h6
theorem fA(a b:Nat)[TEl P t te][TSize P te sz](hx:Rd c T x (.lst false t' sz l))(hy:Rd c T y (.prim (.int k i)))(hz:Rd c T z (.prim (.int k2 j)))(hq:i=(a:Int))(hq2:j=(b:Int))(hab:a<=b)(hb:b<=l.length):
  Stp c P ⟨dst,.slice t x (some y) (some z) none,ty,pos,after,g⟩ T S [(x,.lst false t' sz l),(y,.prim (.int k i)),(z,.prim (.int k2 j))] [] (.lst false t' sz ((l.take b).drop a)) []:=⟨.slice_lst_2 TEl.h TSize.h hq hq2 hab hb,.cons hx (.cons hy (.cons hz .nil)),.nil⟩
end
theorem Wz{P:Program}{t:TypeId}(n:Nat)(h1:P.underlying t=some (.struct (P.fieldsOf t)))(h2:P.stoodInHeld t=false)(h:ZG P t=true)(a b c d:Int)(w:World):(Op.equalIn (n+2) t (.agg #[.int .i64 a,.int .i64 b]) (.agg #[.int .i64 c,.int .i64 d])).run P w= .ok (decide (a=c)&&decide (b=d)) w:=by
 rw[SP w (n+1) t _ _ h1 h2];unfold ZG at h;split at h
 ·rename_i f1 f2 hf
  simp only[AF,bne_iff_ne,ne_eq,Qw]at h;obtain⟨⟨⟨⟨n1,n2⟩,o1⟩,o2⟩,hu⟩:=h;split at hu
  ·rename_i k1 k2 u1 u2
   have p1:∀x y:Int,(part f1.type #[.int .i64 x,.int .i64 y] f1.offset).run P w= .ok (.int .i64 x) w:=λx y=>F4 u1 (by rw[o1];rfl) w
   have p2:∀x y:Int,(part f2.type #[.int .i64 x,.int .i64 y] f2.offset).run P w= .ok (.int .i64 y) w:=λx y=>F4 u2 (by rw[o2];rfl) w
   have q1:∀a c:Int,(Op.equalIn (n+1) f1.type (.int .i64 a) (.int .i64 c)).run P w= .ok (a==c) w:=λa c=>GD (P:=P) w n f1.type .i64 k1 a c u1
   have q2:∀a c:Int,(Op.equalIn (n+1) f2.type (.int .i64 a) (.int .i64 c)).run P w= .ok (a==c) w:=λa c=>GD (P:=P) w n f2.type .i64 k2 a c u2
   rw[hf];by_cases e1:a=c
   ·by_cases e2:b=d
    ·simp[Op.eqFields,n1,n2,AJ,p1,p2,q1,q2,e1,e2,AK,Ef,AA]
    ·simp[Op.eqFields,n1,n2,AJ,p1,p2,q1,q2,e1,e2,AK,Ef,AA]
   ·simp[Op.eqFields,n1,AJ,p1,q1,e1,AK,Ef,AA]
  ·cases hu
 ·cases h
def ev3(P:Program)(t te:TypeId):Bool:=match(P.fieldsOf t).toList with
 |[f1,f2,f3]=>f1.name != "_" &&f2.name != "_" &&f3.name != "_" &&f1.offset==0&&f2.offset==1&&f3.offset==3&&Nat.beq f2.type te&&(match P.underlying f1.type,P.underlying f3.type with|some (.int _),some (.int _)=>true|_,_=>false)
 |_=>false
end
section
section
variable {ro:Option Nat}{P:Program}{nt:Nat}{c:Code}{Q:Exit->St->Prop}{T:List (Nat×AV)}{S:List AS}{ops:Array Oper}{rest:List Oper}{as bs:List AV}
end
end
section
section
variable {P:Program}{dst:Option Tmp}{t ty ty2:TypeId}{pos:String}{after:Array Edge}{g:Option (Nat×Bool)}{x y:Operand}{c:Option (List Bool)}{T:List (Nat×AV)}{S:List AS}
theorem OpT.eqPtrN[hp:TPtr P t]{X p sz:Nat}{t1:TypeId}(h0:0<l.length):OpT P ⟨dst,.binOp .eql t x y ty2,ty,pos,after,g⟩ [(x,.ptr X 0 0),(y,.prim (.pointer none))] [(p,(X,.row t1 sz l))] (.prim (.bool false)) []:=
 .pure_ λm a hx hS=>by
  obtain⟨bs,hO⟩:=hS (p,(X,.row t1 sz l)) (by simp);obtain⟨L,arr,bs',hL,_,_⟩:=SR hO h0;obtain⟨_,_,A,hA,hA2⟩:=hx (x,.ptr X 0 0) (by simp);have h2:=(hx (y,.prim (.pointer none)) (by simp)).prim;simp only[Bs,Hu]at hA;simp only at h2;rw[hA2 L hL,Gy,An]at hA;refine⟨.bool false,?_,CU _ rfl⟩;simp[execOp,hA,h2,AA,eqGuard,Nj]
theorem W.eqPtrN[TPtr P t]{X p sz:Nat}{t1:TypeId}(hx:Rd c T x (.ptr X 0 0))(hy:Rd c T y (.prim (.pointer none)))(hS:At S p (X,.row t1 sz l))(h0:0<l.length):Stp c P ⟨dst,.binOp .eql t x y ty2,ty,pos,after,g⟩ T S [(x,.ptr X 0 0),(y,.prim (.pointer none))] [(p,(X,.row t1 sz l))] (.prim (.bool false)) []:=⟨.eqPtrN h0,.cons hx (.cons hy .nil),.cons hS .nil⟩
end
section
variable {P:Program}{n nt:Nat}{ops:Array Oper}{Q:Exit->St->Prop}{l rest:List Oper}{acc:List Eff}{T:List (Nat×AV)}{L R S:List AS}{op:Op}{ty:TypeId}{pos:String}{after:Array Edge}{dst:Option Tmp}{xs:List (Operand×AV)}{rS wS:List (Nat×AS)}{f:FuncId}{ats:Array TypeId}{r v:AV}{Sin:List AS}
end
end
section
open Go.RowKit
section
variable {P:Program}{nt:Nat}{ops:Array Oper}{Q:Exit->St->Prop}{l rest:List Oper}{acc:List Eff}{st:St}{T:List (Nat×AV)}{S:List AS}{xs:List (Operand×AV)}{rS wS:List (Nat×AS)}{v:AV}{op:Op}{ty:TypeId}{pos:String}{after:Array Edge}{dst:Option Tmp}{f:FuncId}{ats:Array TypeId}
def RGoB(P:Program)(nt:Nat)(ops:Array Oper)(l:List Oper)(Q:Exit->St->Prop)(i0:Nat){β:Type}(rest:List Oper)(acc:β->List Eff)(st:β->St):Prop:=
 ∃(effs:β->List Eff) (st':β->St),(∀b,Run P nt ops rest (st b) (effs b) (st' b))/\(∀b,Ex (acc b++effs b) (DR l [])=true)/\(∀b,Q .normal (st' b))/\
  ∀b i,(acc b).length+i<(DR l []).length->(∀b b',(effs b)[i]?=(effs b')[i]?)\/∃m:Nat,(DR l [])[(acc b).length+i]?=some m/\m.testBit i0=true
theorem WI{C:β->Prop}{rr vv:β->AV}(b0:β)(hb0:C b0)(h:Spec P f (xs.map (·.2)) [] λr' S'=>∃b,C b/\r'=rr b/\S'=[])(hf:∀b,Frz (rr b) (vv b))(hx:Evs T xs)(ht:Bm xs=true)(hd:A8 dst nt=true)
  (k:RGoB P nt ops l Q acc.length (β:={b//C b}) rest (λb=>acc++[⟨⟨dst,.call ⟨.value (.func f),(xs.map (·.1)).toArray,ats⟩,ty,pos,after,none⟩,Bl xs,[],vv b.1,[]⟩]) (λb=>⟨BA T dst (vv b.1),S⟩)):RGoE P nt ops l Q (⟨dst,.call ⟨.value (.func f),(xs.map (·.1)).toArray,ats⟩,ty,pos,after,none⟩::rest) acc ⟨T,S⟩:=by
 obtain⟨effs,st',k1,k2,k3,k4⟩:=k;refine⟨{b//C b},⟨b0,hb0⟩,0,λb=>⟨⟨dst,.call ⟨.value (.func f),(xs.map (·.1)).toArray,ats⟩,ty,pos,after,none⟩,Bl xs,[],vv b.1,[]⟩::effs b,λb=>?_,λb i e hi he=>?_,λe he=>?_,λb=>?_,λi hi hl=>?_,λb=>?_⟩
 ·rw[Aa,(k1 b).spec.2.1]
 ·cases i with
  |zero=>exact absurd rfl hi
  |succ i=>
   rw[He];exact(k1 b).spec.2.2 i e (by simpa using he)
 ·simp at he
  subst he;refine⟨rfl,by simp,λm0 T' S' a w hT hS hr=>?_⟩;rw[Ja]at hT;obtain⟨m,N,Z,rfl,h2,h3,h4⟩:=hr;have h2':Z.map (·.1)=S':=h2;have h4':TRel m0 m nt T' a:=h4
  have hv:VTs m (xs.map (·.2)) (((xs.map (·.1)).toArray).map a.eval).toList []:=by
   have:=Hs (Ec ht) λq hq=>h4'.ev (IR (st:=⟨T,S⟩) hx hT q hq)
   simpa[Dn]using this
  have hS0:∀q∈([]:List (Nat×AS)),S'[q.1]?=some q.2:=λ_ hq=>by cases hq
  have hc:=KH (dst:=dst) (S:=S') (rS:=[]) (So:=λ_=>[]) (nw:=λ_=>[]) (wE:=λ_=>[]) (gs:=[]) h (λb=>.fz) (λ_=>rfl) rfl (λ_=>rfl) (λ_=>rfl) .nil hS0 (DJ hd) h2' h3 h4' hv;have hw:=J3 (ty:=ty) (pos:=pos) (after:=after) (g:=none) (dst:=dst) (ats:=ats) (K:=λa' w'=>∃b,C b/\Rel nt m0 ⟨BA T' dst (vv b),S'⟩ a' w') (λ_=>rfl) h.fn hc;refine NB ?_ hw;rintro a' w' ⟨b,hb,hrel⟩;exact⟨(⟨b,hb⟩,⟨⟨dst,.call ⟨.value (.func f),(xs.map (·.1)).toArray,ats⟩,ty,pos,after,none⟩,Bl xs,[],vv b,[]⟩),rfl,hrel⟩
 ·have:=k2 b
  simpa using this
 ·cases i with
  |zero=>exact absurd rfl hi
  |succ i=>
   have hl':(acc++[(⟨⟨dst,.call ⟨.value (.func f),(xs.map (·.1)).toArray,ats⟩,ty,pos,after,none⟩,Bl xs,[],vv b0,[]⟩:Eff)]).length+i<(DR l []).length:=by rw[Ak,Bj];omega
   rcases k4 ⟨b0,hb0⟩ i hl' with h|⟨m,hm1,hm2⟩
   ·exact .inl λb b'=>by simpa using h b b'
   ·rw[Ak,Bj]at hm1
    exact .inr ⟨m,by rw[<-hm1];congr 1;omega,hm2⟩
 ·rw[J5]
  have h3:=k3 b;have:=(k1 b).spec.1;rw[this]at h3;exact h3
theorem QM{i0:Nat}{acc:β->List Eff}{st st1:β->St}{o:Oper}{e:Eff}(h:∀b {effs st''},Run P nt ops rest (st1 b) effs st'' ->Run P nt ops (o::rest) (st b) (e::effs) st'')(k:RGoB P nt ops l Q i0 rest (λb=>acc b++[e]) st1):RGoB P nt ops l Q i0 (o::rest) acc st:=by
 obtain⟨effs,st',k1,k2,k3,k4⟩:=k;refine⟨λb=>e::effs b,st',λb=>h b (k1 b),λb=>by have:=k2 b;simpa using this,k3,λb i hl=>?_⟩;cases i with
 |zero=>exact .inl λb b'=>rfl
 |succ i=>
  rcases k4 b i (by rw[Ak,Bj];omega)with h|⟨m,hm1,hm2⟩
  ·exact .inl λb b'=>by simpa using h b b'
  ·rw[Ak,Bj]at hm1
   exact .inr ⟨m,by rw[<-hm1];congr 1;omega,hm2⟩
theorem W8{i0:Nat}{acc:β->List Eff}{T:β->List (Nat×AV)}{S:β->List AS}(k:RGoB P nt ops l Q i0 rest (λb=>acc b++[⟨⟨dst,op,ty,pos,after,none⟩,Bl xs,rS.map (·.1),v,[]⟩]) (λb=>⟨BA (T b) dst v,S b⟩))(h:∀b,Stp none P ⟨dst,op,ty,pos,after,none⟩ (T b) (S b) xs rS v []:=by exact λb=>Gu)(hd:A8 dst nt=true:=by rfl):RGoB P nt ops l Q i0 (⟨dst,op,ty,pos,after,none⟩::rest) acc (λb=>⟨T b,S b⟩):=QM (λb _ _ r=>Run.p (h b) hd r) k
theorem bT{i0:Nat}{acc:β->List Eff}{T:β->List (Nat×AV)}{S:β->List AS}(k:RGoB P nt ops l Q i0 rest (λb=>acc b++[⟨⟨dst,op,ty,pos,after,none⟩,Bl xs,rS.map (·.1),v,wS⟩]) (λb=>⟨BA (T b) dst v,BE (S b) wS⟩))(h:∀b,Stp none P ⟨dst,op,ty,pos,after,none⟩ (T b) (S b) xs rS v wS:=by exact λb=>by(apply Hl;exact W.allocN (by exact As) (by first|exact .inl rfl|exact .inr rfl) (by first|(dsimp only[zAV,List.map];try exact rfl)|exact rfl) (by exact rfl)))(hd:A8 dst nt=true:=by rfl):RGoB P nt ops l Q i0 (⟨dst,op,ty,pos,after,none⟩::rest) acc (λb=>⟨T b,S b⟩):=QM (λb _ _ r=>Run.s (h b) hd r) k
theorem Uf{i0 n:Nat}{acc:β->List Eff}{st st1:β->St}{o:Oper}{e:β->Eff}(h:∀b {effs st''},Run P nt ops rest (st1 b) effs st'' ->Run P nt ops (o::rest) (st b) (e b::effs) st'')(hn:∀b,(acc b).length=n)(hm:((DR l []).getD n 0).testBit i0=true)(k:RGoB P nt ops l Q i0 rest (λb=>acc b++[e b]) st1):RGoB P nt ops l Q i0 (o::rest) acc st:=by
 obtain⟨effs,st',k1,k2,k3,k4⟩:=k;refine⟨λb=>e b::effs b,st',λb=>h b (k1 b),λb=>by have:=k2 b;simpa using this,k3,λb i hl=>?_⟩;cases i with
 |zero=>
  rw[hn,Eh]at hl⊢;exact .inr ⟨(DR l [])[n],by simp[hl],by simpa[EH,Af hl]using hm⟩
 |succ i=>
  rcases k4 b i (by rw[Ak,Bj];omega)with h|⟨m,hm1,hm2⟩
  ·have hq:∀b b',effs b=effs b' \/(effs b)[i]?=(effs b')[i]?:=λb b'=>.inr (h b b')
   exact .inl λb b'=>by simpa using h b b'
  ·rw[Ak,Bj]at hm1
   exact .inr ⟨m,by rw[<-hm1];congr 1;omega,hm2⟩
theorem Hn{i0 n:Nat}{acc:β->List Eff}{T:β->List (Nat×AV)}{S:β->List AS}{xs:β->List (Operand×AV)}{rS wS:β->List (Nat×AS)}{v:β->AV}(k:RGoB P nt ops l Q i0 rest (λb=>acc b++[⟨⟨dst,op,ty,pos,after,none⟩,Bl (xs b),(rS b).map (·.1),v b,wS b⟩]) (λb=>⟨BA (T b) dst (v b),BE (S b) (wS b)⟩))(h:∀b,Stp none P ⟨dst,op,ty,pos,after,none⟩ (T b) (S b) (xs b) (rS b) (v b) (wS b):=by first|exact λb=>Kw|exact λb=>Gu)(hn:∀b,(acc b).length=n:=by exact λb=>by kernel_rfl)(hm:((DR l []).getD n 0).testBit i0=true:=by kernel_rfl)(hd:A8 dst nt=true:=by rfl):RGoB P nt ops l Q i0 (⟨dst,op,ty,pos,after,none⟩::rest) acc (λb=>⟨T b,S b⟩):=Uf (λb _ _ r=>Run.s (h b) hd r) hn hm k
theorem RGoB.nil{i0:Nat}{acc:β->List Eff}{st:β->St}(hc:∀b,Ex (acc b) (DR l [])=true)(k:∀b,Q .normal (st b))(hl:∀b,(DR l []).length<=(acc b).length):RGoB P nt ops l Q i0 [] acc st:=
 ⟨λb=>[],st,λb=>.nil,λb=>by simpa using hc b,k,λb i hi=>by have:=hl b;omega⟩
theorem bS{x0 x1:Operand}{v0 v1:AV}{C:β->Prop}{rr vv:β->AV}(b0:β)(hb0:C b0)(h:Spec P f [v0,v1] [] λr' S'=>∃b,C b/\r'=rr b/\S'=[])[hf:∀b,Frz (rr b) (vv b)]
  (k:RGoB P nt ops l Q acc.length (β:={b//C b}) rest (λb=>acc++[⟨⟨dst,.call ⟨.value (.func f),#[x0,x1],ats⟩,ty,pos,after,none⟩,Bl [(x0,v0),(x1,v1)],[],vv b.1,[]⟩]) (λb=>⟨BA T dst (vv b.1),S⟩)) (h0:Rd none T x0 v0:=by rfl) (h1:Rd none T x1 v1:=by rfl) (ht:Bm [(x0,v0),(x1,v1)]=true:=by rfl) (hd:A8 dst nt=true:=by rfl):
  RGoE P nt ops l Q (⟨dst,.call ⟨.value (.func f),#[x0,x1],ats⟩,ty,pos,after,none⟩::rest) acc ⟨T,S⟩:=WI (xs:=[(x0,v0),(x1,v1)]) b0 hb0 h hf (.cons h0 (.cons h1 .nil)) ht hd k
end
end
section
open Go.RowKit Go.Maps Go.WideElems Go.WideMaps Go.ChangeMaps
structure KeyC(P:Program)(k:TypeId)(κ:Type)where
 val:κ->Value
 lit:κ->Lit
 ok:κ->Prop
 av:κ->AV
 keyed:Keyed P k
 of:∀x,ok x->keyOf P k (val x)=some (lit x)
 inj:∀x y,ok x->ok y->lit x=lit y->x=y
 vav:∀(m:Mem) x v,VV m (av x) v []->v=val x
 avv:∀(m:Mem) x,VV m (av x) (val x) []
 nt:∀x,ntup (av x)=true
theorem O4(us:List Value)(m:Mem)(hu:∀u∈us,u.oneCell'=true):VV m (.agg (us.map .prim)) (.agg us.toArray) []:=⟨us.toArray,rfl,Jf m us hu⟩
theorem L6{P:Program}{k e:TypeId}{n:Nat}(hk:P.underlying k=some (.array 2 e))(he:P.underlying e=some (.int .i64))(hc:P.cellsOf k=2)(hce:P.cellsOf e=1)(hkt:P.keyType k=true)(hn:P.types.size=n+1){a b:Int}(ha:(Lit.int .i64 a).wf=true)(hb:(Lit.int .i64 b).wf=true):keyOf P k (.agg #[.int .i64 a,.int .i64 b])=some (.string (keyBytes [.int .i64 a,.int .i64 b])):=by
 have h1:∀x:Int,(Lit.int .i64 x).wf=true->P.keyLits (n+1) e [.int .i64 x]=some [.int .i64 x]:=λx hx=>by
  simp[Program.keyLits,he,hx]
 have h2:P.keyLits (n+1+1) k [.int .i64 a,.int .i64 b]=some [.int .i64 a,.int .i64 b]:=by
  have e1:List.range 2=[0,1]:=rfl;unfold Program.keyLits;simp[hk,hc,hce,e1,h1 a ha,h1 b hb]
 unfold keyOf;rw[hk];simp[hkt,Value.formed,hk,hc,hn,Value.cells,h2]
noncomputable def fU (P:Program) (k e:TypeId) (n:Nat) (hk:P.underlying k=some (.array 2 e)) (he:P.underlying e=some (.int .i64)) (hc:P.cellsOf k=2) (hce:P.cellsOf e=1) (hkt:P.keyType k=true) (hn:P.types.size=n+1) (K:Keyed P k):KeyC P k (Int×Int)where
 val x:=.agg #[.int .i64 x.1,.int .i64 x.2]
 lit x:=.string (keyBytes [.int .i64 x.1,.int .i64 x.2])
 ok x:=(-9223372036854775808<=x.1/\x.1<=9223372036854775807)/\(-9223372036854775808<=x.2/\x.2<=9223372036854775807)
 av x:=.agg [.prim (.int .i64 x.1),.prim (.int .i64 x.2)]
 keyed:=K
 of x h:=L6 hk he hc hce hkt hn (GT h.1) (GT h.2)
 inj x y hx hy e:=by
  have h1:=L6 hk he hc hce hkt hn (GT hx.1) (GT hx.2);have h2:=L6 hk he hc hce hkt hn (GT hy.1) (GT hy.2);rw[e]at h1;have h3:=K.inj h1 h2;simp only[Value.agg.injEq,Array.mk.injEq,Bs,Value.int.injEq,true_and,Hu]at h3;exact Prod.ext h3.1 h3.2
 vav m x v h:=VV.aggP (us:=[.int .i64 x.1,.int .i64 x.2]) rfl h
 avv m x:=O4 [.int .i64 x.1,.int .i64 x.2] m (by intro u hu;simp only[Cl,D1,KY]at hu;rcases hu with rfl|rfl<;>rfl)
 nt x:=rfl
section
variable {P:Program}{k e:TypeId}{κ:Type}
def MapK(C:KeyC P k κ)(e:TypeId)(g:κ->Option Value)(s:Nat)(D:DataW Unit):Prop:=
 s=Maps.size D/\(∀x,C.ok x->Maps.has D (C.lit x)=(g x).isSome/\∀v,g x=some v->PlainV P e v/\∀z,D.atKey (C.lit x) z= .lit (N6 v))/\∀l,Maps.has D l=true->∃x,C.ok x/\l=C.lit x
def MapKF(C:KeyC P k κ)(e:TypeId)(g:κ->Option Value)(s:Nat)(o:Obj):Prop:=
 ∃es clock D,o= .map es clock/\Fit P k (FF P e) es clock/\es.size<=s/\D= .map ((es.toList.map (rg P k (FF P e))).foldr DataW.insert [])/\MapK C e g s D
variable {C:KeyC P k κ}{g:κ->Option Value}{s b:Nat}{o:Obj}{w:World}{D:DataW Unit}
theorem MapKF.own(h:MapKF C e g s o)(hb:w.heap[b]?=some o):∃D,w.ownsMap P k (FF P e) b s D/\MapK C e g s D:=by
 obtain⟨es,clock,D,rfl,h1,h2,h3,h4⟩:=h;exact⟨D,⟨es,clock,hb,h1,h2,h3⟩,h4⟩
theorem MapK.of{n:Nat}(h:w.ownsMap P k (FF P e) b n D)(hc:MapK C e g s D):∃o,w.heap[b]?=some o/\MapKF C e g s o:=by
 obtain⟨es,clock,hb,h1,h2,h3⟩:=h;refine⟨_,hb,es,clock,D,rfl,h1,?_,h3,hc⟩;rw[hc.1,h3];have e1:Maps.size (DataW.map ((es.toList.map (rg P k (FF P e))).foldr DataW.insert []))=es.size:=by simp[Maps.size,length_sorted]
 rw[e1];exact AP _
def Qc[DecidableEq κ](g:κ->Option Value)(x:κ)(v:Value):κ->Option Value:=λy=>if y=x then some v else g y
theorem MapK.put[DecidableEq κ](hT:Maps.Tidy D)(h:MapK C e g s D){x:κ}{v:Value}(hw:C.ok x)(hv:PlainV P e v):
  MapK C e (Qc g x v) (if(g x).isSome then s else s+1) (D.put (C.lit x) (.lit (N6 v))):=by
 have hk:=C.keyed.key (C.of x hw);obtain⟨h1,h2,h3⟩:=h;refine⟨?_,λy hy=>?_,λl hl=>?_⟩
 ·rw[size_put hT,(h2 x hw).1,h1]
 ·by_cases e:y=x
  ·subst e
   refine⟨by rw[has_put_same hT.isMap hk];simp[Qc],λu hu=>?_⟩;simp only[Qc,Ga,Ac]at hu;subst hu;exact⟨hv,λz=>atKey_put_same hT.isMap hk _ _⟩
  ·have hne:C.lit y≠C.lit x:=λe2=>e (C.inj y x hy hw e2)
   refine⟨by rw[has_put_other hne,(h2 y hy).1];simp[Qc,e],λu hu=>?_⟩;simp only[Qc,AM e]at hu;exact⟨((h2 y hy).2 u hu).1,λz=>by rw[atKey_put_other hne];exact((h2 y hy).2 u hu).2 z⟩
 ·by_cases e:l=C.lit x
  ·exact⟨x,hw,e⟩
  ·rw[has_put_other e]at hl
   exact h3 l hl
end
section
variable {P:Program}{m0 m:Mem}{N X:Nat}{R:Zs}{ex:List Nat}{o:Oper}{v:AV}{x y z:Operand}{ty ty2 t k e:TypeId}{pos:String}{after:Array Edge}{g:Option (Nat×Bool)}{dst:Option Tmp}{p:Nat}{κ:Type}{C:KeyC P k κ}{gf:κ->Option Value}{s:Nat}
theorem Z4(w:World)(C:KeyC P k κ)(e:TypeId):MapKF C e (λ_=>none) 0 (.map #[] 0):=by
 obtain⟨es,clock,hb,h1,h2,h3⟩:=World.ownsMap_made (H:=Unit) w P k (FF P e);rw[NS]at hb;obtain⟨rfl,rfl⟩:=Obj.map.inj (DO hb);exact⟨#[],0,_,rfl,h1,h2,h3,rfl,λx _=>⟨rfl,λv hv=>by cases hv⟩,λl hl=>by cases hl⟩
theorem S5(C:KeyC P k κ)(ht:P.underlying t=some (.map k e)):OpT P ⟨dst,.makeMap t none,ty,pos,after,g⟩ [] [(p,(X,.gone))] (.mp X) [(p,(X,.ob (MapKF C e (λ_=>none) 0)))]:=by
 intro nt m0 T S a w hx hS hd hr;obtain⟨m,N,Z,rfl,h2,h3,h4⟩:=hr;have h2':Z.map (·.1)=S:=h2;have hSp:=hS (p,(X,.gone)) (by simp);rw[<-h2',Ae]at hSp;cases hz:Z[p]? with
 |none=>rw[hz]at hSp;cases hSp
 |some z=>
  rw[hz]at hSp;simp only[A7,Ac]at hSp;obtain⟨z1,z2⟩:=z;simp only at hSp;subst hSp;obtain⟨R,hp1,hp2⟩:=Cv hz;obtain⟨G',hle⟩:=M5 (h3.perm hp1) (.map #[] 0) (Z4 m.w C e) _ rfl;unfold Oper.wp
  have h5:(execOp a.eval ⟨dst,.makeMap t none,ty,pos,after,g⟩).run P m.w= .ok (.value (.map (some m.w.heap.size))) (m.w.alloc (.map #[] 0)):=by
   simp[execOp,run_makeMap,AJ,AA,AK]
  rw[h5];refine⟨_,N,Z.set p ((X,.ob _),[m.w.heap.size]),rfl,?_,G'.perm (hp2 _).symm,(h4.mono hle).put hd ?_⟩
  ·rw[BC,h2'];rfl
  ·refine⟨rfl,.inr rfl,_,rfl,λL hL=>?_⟩
   simp only[Ga,Ac]at hL;subst hL;rfl
theorem OpT.mapUpdK[DecidableEq κ]{n:κ}{u:Value}(ht:P.underlying t=some (.map k e))(hn:C.ok n)(hu:PlainV P e u)(hs:s<maxLen):OpT P ⟨dst,.mapUpdate t x y z,ty,pos,after,g⟩ [(x,.mp X),(y,C.av n),(z,.prim u)] [(p,(X,.ob (MapKF C e gf s)))] .dead [(p,(X,.ob (MapKF C e (Qc gf n u) (if(gf n).isSome then s else s+1))))]:=by
 intro nt m0 T S a w hx hS hd hr;obtain⟨m,N,Z,rfl,h2,h3,h4⟩:=hr;have h2':Z.map (·.1)=S:=h2;have hxa:VV m (.mp X) (a.eval x) []:=h4.ev (hx (x,.mp X) (by simp));have hya:=C.vav m n _ (h4.ev (hx (y,C.av n) (by simp)));have hza:=(h4.ev (hx (z,.prim u) (by simp))).prim;have hSp:=hS (p,(X,.ob (MapKF C e gf s))) (by simp);rw[<-h2',Ae]at hSp;cases hz:Z[p]? with
 |none=>rw[hz]at hSp;cases hSp
 |some z1=>
  rw[hz]at hSp;simp only[A7,Ac]at hSp;obtain⟨z1,bs⟩:=z1;simp only at hSp;subst hSp;obtain⟨R,hp1,hp2⟩:=Cv hz;have G:=h3.perm hp1;obtain⟨hU,L,hL,hbs,o,hb,hKo⟩:=G.obj _ (Au ..);obtain⟨_,_,A,hA,hA2⟩:=hxa;simp only[Bs,Hu]at hA;rw[hA2 L hL]at hA;obtain⟨D,hown,hC⟩:=hKo.own hb;have K:=C.keyed;have hkey:=C.of n hn;obtain⟨w',hrun,hown',hturn⟩:=hown.store K ht hs hkey hu;obtain⟨es,clock,es',clock',hb0,rfl⟩:=hturn;obtain⟨o',ho',hF'⟩:=MapK.of hown' (hC.put (hown.tidy K) hn hu);rw[ON hb0]at ho';obtain rfl:=DO ho';obtain⟨G',hle⟩:=MM G hL hbs _ hF' _ rfl;unfold Oper.wp
  have h5:(execOp a.eval ⟨dst,.mapUpdate t x y z,ty,pos,after,g⟩).run P m.w= .ok .skip (setBlock m.w L.blk (.map es' clock')):=by
   simp[execOp,hA,hya,hza,hrun,AJ,AA,AK]
  rw[h5];refine⟨_,N,Z.set p ((X,.ob _),bs),rfl,?_,G'.perm (hp2 _).symm,(h4.mono hle).put hd ?_⟩
  ·rw[BC,h2'];rfl
  ·exact rfl
end
class TMapK(P:Program)(t:TypeId)(k e:outParam TypeId)(z0:outParam Value):Prop where
 h:P.underlying t=some (.map k e)
 hz:∀w,(zeroValue e).run P w= .ok z0 w
 h0:PlainV P e z0
section
variable {ro:Option Nat}{P:Program}{nt:Nat}{ops:Array Oper}{Q:Exit->St->Prop}{rest:List Oper}{T:List (Nat×AV)}{S:List AS}{ty t k e:TypeId}{pos:String}{after:Array Edge}{dst:Option Tmp}{c:Option (List Bool)}{g:Option (Nat×Bool)}{x y z:Operand}{X p:Nat}{κ:Type}{C:KeyC P k κ}{gf:κ->Option Value}{s:Nat}{z0:Value}
theorem Uo(C:KeyC P k κ)[TMapK P t k e z0](kk:∀X,AOps ro P nt ops Q rest ⟨BA T dst (.mp X),(X,.ob (MapKF C e (λ_=>none) 0))::S⟩)(hd:A8 dst nt=true:=by rfl):AOps ro P nt ops Q (⟨dst,.makeMap t none,ty,pos,after,none⟩::rest) ⟨T,S⟩:=
 FQ λX=>AOps.step (o:=⟨dst,.makeMap t none,ty,pos,after,none⟩) (xs:=[]) (rS:=[(0,(X,.gone))]) rfl (S5 C (TMapK.h (z0:=z0))) .nil (.cons .here .nil) hd (kk X)
theorem W.mapUpdK[DecidableEq κ](n:κ){u:Value}{av:AV}[TMapK P t k e z0](hu:PlainV P e u)(hn:C.ok n)(hs:s<maxLen)(hx:Rd c T x (.mp X))(hy:Rd c T y av)(hz:Rd c T z (.prim u))(hSp:At S p (X,.ob (MapKF C e gf s)))(hav:av=C.av n:=by rfl):
  Stp c P ⟨dst,.mapUpdate t x y z,ty,pos,after,g⟩ T S [(x,.mp X),(y,av),(z,.prim u)] [(p,(X,.ob (MapKF C e gf s)))] .dead [(p,(X,.ob (MapKF C e (Qc gf n u) (if(gf n).isSome then s else s+1))))]:=by
 subst hav;exact⟨.mapUpdK (TMapK.h (z0:=z0)) hn hu hs,.cons hx (.cons hy (.cons hz .nil)),.cons hSp .nil⟩
end
end
section
open Go.RowKit Go.Maps Go.WideElems Go.WideMaps Go.ChangeMaps Go.MapKept
section
variable {P:Program}{k e:TypeId}{κ:Type}{C:KeyC P k κ}{g:κ->Option Value}{s b r cnt:Nat}{left:κ->Bool}{M I:Obj}{w:World}
def Rng(C:KeyC P k κ)(e:TypeId)(g:κ->Option Value)(s b:Nat)(left:κ->Bool)(cnt:Nat)(M I:Obj):Prop:=
 ∃L:Lit->Bool,(∀x,C.ok x->L (C.lit x)=left x)/\(∀l,L l=true->∃x,C.ok x/\l=C.lit x)/\∃es clock since seen c0,M= .map es clock/\MapKF C e g s M/\I= .mapIter (some b) since seen c0/\(∀x∈es.toList,x.born<since)/\(leftOf es seen).size=cnt/\
  (∀x∈es.toList,L (rg P k (FF P e) x).1= !seen.contains x.born)/\(∀kl,L kl=true->∃x∈es.toList,(rg P k (FF P e) x).1=kl)/\since<=c0/\since<=clock
def QJ(C:KeyC P k κ)(b:Nat)(M I:Obj)(x:κ)(v:Value):Prop:=
 ∀(w:World) (r:Nat),w.heap[b]?=some M->w.heap[r]?=some I->(Instr.entry (.pointer (some ⟨r,0,none⟩))).run P w= .ok (.tuple #[C.val x,v]) w
theorem Rng.map(h:Rng C e g s b left cnt M I):MapKF C e g s M:=by
 obtain⟨L,_,_,es,clock,since,seen,c0,_,h,_⟩:=h;exact h
theorem Rng.world(h:Rng C e g s b left cnt M I)(hb:w.heap[b]?=some M)(hr:w.heap[r]?=some I):
  ∃D L,w.ranges P k (FF P e) b r s D L cnt/\MapK C e g s D/\(∀x,C.ok x->L (C.lit x)=left x)/\∀l,L l=true->∃x,C.ok x/\l=C.lit x:=by
 obtain⟨L,hL1,hL2,es,clock,since,seen,c0,rfl,⟨es',clock',D,e1,h1,h2,h3,h4⟩,rfl,h6,h7,h8,h9,h10,h11⟩:=h;obtain⟨rfl,rfl⟩:=Obj.map.inj e1;exact⟨D,L,⟨es,clock,since,seen,c0,hb,h1,h2,h3,hr,h6,h7,h8,h9,h10,h11⟩,h4,hL1,hL2⟩
theorem Rng.of{D:DataW Unit}{L:Lit->Bool}{n:Nat}(h:w.ranges P k (FF P e) b r n D L cnt)(hm:MapK C e g s D)(hL1:∀x,C.ok x->L (C.lit x)=left x)(hL2:∀l,L l=true->∃x,C.ok x/\l=C.lit x):
  ∃M I,w.heap[b]?=some M/\w.heap[r]?=some I/\Rng C e g s b left cnt M I:=by
 obtain⟨es,clock,since,seen,c0,hb,h1,h2,h3,hr,h6,h7,h8,h9,h10,h11⟩:=h;refine⟨_,_,hb,hr,L,hL1,hL2,es,clock,since,seen,c0,rfl,⟨es,clock,D,rfl,h1,?_,h3,hm⟩,rfl,h6,h7,h8,h9,h10,h11⟩;rw[hm.1,h3];have e1:Maps.size (DataW.map ((es.toList.map (rg P k (FF P e))).foldr DataW.insert []))=es.size:=by simp[Maps.size,length_sorted]
 rw[e1];exact AP _
theorem Z7(C:KeyC P k κ)[DecidableEq κ]{x z:κ}(hx:C.ok x)(hz:C.ok z):(C.lit z).sameKey (C.lit x)=decide (z=x):=by
 by_cases e:z=x
 ·subst e
  rw[BG rfl];exact WideAt.sameKey_self (C.keyed.key (C.of z hz))
 ·rw[Az e]
  cases h:(C.lit z).sameKey (C.lit x)
  ·rfl
  ·exact absurd (C.inj z x hz hx (WideAt.sameKey_eq h)) e
theorem Rng.next[DecidableEq κ](h:Rng C e g s b left cnt M I)(hb:w.heap[b]?=some M)(hr:w.heap[r]?=some I)(ty:TypeId):
  ((∀x,C.ok x->left x=false)/\(Instr.next (.pointer (some ⟨r,0,none⟩)) false ty).run P w= .ok (.tuple #[.bool false]) w)\/
  ∃x v I' cnt',C.ok x/\left x=true/\g x=some v/\PlainV P e v/\cnt'<cnt/\Rng C e g s b (λy=>left y&& !decide (y=x)) cnt' M I' /\QJ C b M I' x v/\
   ∃w1:World,(w1=w\/w1=w.drew)/\(Instr.next (.pointer (some ⟨r,0,none⟩)) false ty).run P w= .ok (.tuple #[.bool true,C.val x,v]) (w1.putObj r I'):=by
 obtain⟨D,L,hrg,hmk,hL1,hL2⟩:=h.world hb hr;have hrb:=hrg.ne;have hrg0:=hrg;rcases hrg.next C.keyed ty with⟨_,hl,hrun⟩|⟨key,v,kl,y,w',cnt',hkey,hlk,hv,hat,hrun,hrg',hlt,_,_,_⟩
 ·exact .inl ⟨λx hx=>by rw[<-hL1 x hx];exact hl _,hrun⟩
 ·obtain⟨es,clock,since,seen,c0,hb',F,_,_,hr',hold,_,_,_,hsc,_⟩:=hrg0
  have hM:=DO (hb.symm.trans hb');have hI:=DO (hr.symm.trans hr');rcases run_next_at (P:=P) w ty r b since c0 seen es clock hr' hb' hold hsc with⟨_,hrun2⟩|⟨en,hen,w1,hal,hrun2⟩
  ·rw[hrun]at hrun2
   cases hrun2
  ·rw[hrun]at hrun2
   injection hrun2 with e1 e2
   injection e1 with e1
   simp only[Array.mk.injEq,Bs,Hu,true_and]at e1;obtain⟨rfl,rfl⟩:=e1;obtain⟨x,hx,rfl⟩:=hL2 _ hlk;have hkx:en.key=C.val x:=C.keyed.inj hkey (C.of x hx);obtain⟨m1,m2⟩:=hmk.2.1 x hx
   have hgx:∃u,g x=some u:=by
    cases hg:g x with
    |some u=>exact⟨u,rfl⟩
    |none=>
     rw[hg]at m1;have a1:=hat .nil;have a2:=hat (.lit (.bool true));rw[atKey_of_not_has (by simpa using m1)]at a1 a2;rw[<-a1]at a2;cases a2
   obtain⟨u,hgu⟩:=hgx;obtain⟨hpl,hatu⟩:=m2 u hgu;have hy1:=hat .nil;rw[hatu]at hy1;have hvu:en.val=u:=Jg (ps:=y.2) (by rw[hv,hy1]) hpl;subst hvu;subst hM;have hmem:=(mem_left hen).1;have e2':w'=w1.putObj r (.mapIter (some b) since (seen.push en.born) clock):=e2;obtain⟨M2,I2,hb2,hr2,hR2⟩:=Rng.of (left:=λy=>left y&& !decide (y=x)) hrg' hmk (λz hz=>by show(L (C.lit z)&&_)=_;rw[hL1 z hz,Z7 C hx hz]) (λl hl=>hL2 l (by simp only[AF]at hl;exact hl.1));have hw1:w1.heap=w.heap:=by rcases hal with rfl|rfl<;>rfl
   have hrl:r<w1.heap.size:=by rw[hw1];exact(Array.getElem?_eq_some_iff.1 hr).1
   rw[e2',Dp (Ne.symm hrb),hw1,hb]at hb2;rw[e2',World.putObj_heap_same hrl]at hr2;obtain rfl:=DO hb2;obtain rfl:=DO hr2;refine .inr ⟨x,en.val,_,cnt',hx,by rw[<-hL1 x hx];exact hlk,hgu,hpl,hlt,hR2,λw2 r2 hb3 hr3=>?_,w1,hal,by rw[hrun,e2',hkx]⟩;rw[<-hkx];exact run_entry_at w2 r2 b since seen es clock en hr3 hb3 hmem ((stamped_iff es clock).1 F.stamped).2.1
end
section
variable {ro:Option Nat}{P:Program}{nt:Nat}{ops:Array Oper}{Q:Exit->St->Prop}{rest:List Oper}{T:List (Nat×AV)}{S:List AS}{ty t k e:TypeId}{pos:String}{after:Array Edge}{d:Nat}{dst:Option Tmp}{c:Option (List Bool)}{x y it:Operand}{X Y Z p q u b r s cnt:Nat}{κ:Type}{C:KeyC P k κ}{g:κ->Option Value}{left:κ->Bool}{z0:Value}{M I:Obj}
abbrev exA(M:Obj):AO:=.ob λo=>o=M
abbrev lkA(X b:Nat):AO:=.tv λv z=>v= .mp X/\z= .map (some b)
theorem AOps.range(C:KeyC P k κ)[TMapK P t k e z0]{g:κ->Option Value}(hx:Rd none T x (.mp X))(hX:At S p (X,.ob (MapKF C e g s)))(hd:A8 (some d) nt=true)
  (kk:∀b r M I Y Z cnt,Rng C e g s b (λx=>(g x).isSome) cnt M I->AOps ro P nt ops Q rest ⟨BA T (some d) (.prim (.pointer (some ⟨r,0,none⟩))),(Y,lkA X b)::(Z,.raw r I)::S.set p (X,exA M)⟩):
  AOps ro P nt ops Q (⟨some d,.range t x,ty,pos,after,none⟩::rest) ⟨T,S⟩:=by
 rintro m0 a w ⟨m,N,Zs,rfl,h2,h3,h4⟩;refine Gk rfl λK hK=>JZ (β:=Nat×Nat×Obj×Obj×Nat×Nat×Nat) (C:=λz=>Rng C e g s z.1 (λx=>(g x).isSome) z.2.2.2.2.2.2 z.2.2.1 z.2.2.2.1) (sE:=λz=>⟨BA T (some d) (.prim (.pointer (some ⟨z.2.1,0,none⟩))),(z.2.2.2.2.1,lkA X z.1)::(z.2.2.2.2.2.1,.raw z.2.1 z.2.2.2.1)::S.set p (X,exA z.2.2.1)⟩) (by simp) ?_ λa' w' ⟨z,hz,hrel⟩=>hK _ _ (kk z.1 z.2.1 z.2.2.1 z.2.2.2.1 z.2.2.2.2.1 z.2.2.2.2.2.1 z.2.2.2.2.2.2 hz m0 _ _ hrel)
 have hxa:VV m (.mp X) (a.eval x) []:=h4.ev ((Evs.cons hx .nil).all (x,.mp X) (by simp));obtain⟨bs,hz⟩:=hX.z h2;obtain⟨R,hp1,hp2⟩:=Cv hz;have G:=h3.perm hp1;obtain⟨hU,L,hL,hbs,o,hb,hKo⟩:=G.obj _ (Au ..);obtain⟨_,_,A,hA,hA2⟩:=hxa;simp only[Bs,Hu]at hA;rw[hA2 L hL]at hA;obtain⟨D,hown,hC⟩:=hKo.own hb;obtain⟨es,clock,D',rfl,F,_,_,_⟩:=hKo;have ht:P.underlying t=some (.map k e):=TMapK.h (z0:=z0);obtain⟨w',hrun,hrg,_,_⟩:=hown.range C.keyed ht;have hrun2:=run_range_map m.w t k e L.blk es clock ht hb;rw[hrun]at hrun2;injection hrun2 with _ e2
 subst e2;obtain⟨M2,I2,hb2,hr2,hR2⟩:=Rng.of (left:=λx=>(g x).isSome) hrg hC (λz hz=>(hC.2.1 z hz).1) hC.2.2;have hlt:L.blk<m.w.heap.size:=(Array.getElem?_eq_some_iff.1 hb).1;rw[NS]at hr2;obtain rfl:=DO hr2;rw[(MapKept.heap_alloc m.w _).2 L.blk hlt,hb]at hb2;obtain rfl:=DO hb2;have G1:=(G.bag (z':=((X,exA (.map es clock)),bs)) (B:=[]) rfl ⟨hU,L,hL,hbs,_,hb,rfl⟩ (.refl _)).perm (hp2 _).symm;obtain⟨G2,hle2⟩:=G1.newRaw (.mapIter (some L.blk) clock #[] clock) _ rfl
 obtain⟨G3,hle3⟩:=G2.note (λv z=>v= .mp X/\z= .map (some L.blk)) (λv z h=>by
  obtain⟨rfl,rfl⟩:=h;exact⟨rfl,.inl hU,_,rfl,λL' hL'=>by rw[hL]at hL';cases hL';rfl⟩) _ rfl
 unfold Oper.wp
 have h5:(execOp a.eval ⟨some d,.range t x,ty,pos,after,none⟩).run P m.w= .ok (.value (.pointer (some ⟨m.w.heap.size,0,none⟩))) (m.w.alloc (.mapIter (some L.blk) clock #[] clock)):=by
  simp[execOp,hA,hrun,AJ,AA,AK]
 rw[h5];exact⟨(L.blk,m.w.heap.size,.map es clock,.mapIter (some L.blk) clock #[] clock,N+1,N,_),hR2,_,N+1+1,_,rfl,by simp only[Aa,BC];rw[show Zs.map (·.1)=S from h2],G3,(h4.mono (hle2.trans hle3)).put (DJ hd) (CU _)⟩
theorem cM{m0 m:Mem}{N:Nat}{Zs:Zs}{ex:List Nat}(h3:Good m0 m N Zs ex)(h2:Zs.map (·.1)=S)(hX:At S p (X,exA M))(hZ:At S q (Z,.raw r I))(hY:At S u (Y,lkA X b)):
  m.w.heap[b]?=some M/\m.w.heap[r]?=some I/\∃L,m.μ X=some L/\L.blk=b:=by
 obtain⟨bs,hz⟩:=hX.z h2;obtain⟨bs2,hz2⟩:=hZ.z h2;obtain⟨bs3,hz3⟩:=hY.z h2;obtain⟨hU,L,hL,_,o,hb,rfl⟩:=h3.obj _ (Bb hz);obtain⟨_,_,hr⟩:=h3.obj _ (Bb hz2);obtain⟨_,_,hv⟩:=h3.obj _ (Bb hz3);obtain⟨_,_,A,hA,hA2⟩:=hv (.mp X) (.map (some b)) ⟨rfl,rfl⟩;simp only[Bs,Hu]at hA;rw[hA2 L hL]at hA;injection hA with hA
 injection hA with hA
 subst hA;exact⟨hb,hr,L,hL,rfl⟩
theorem AOps.next[DecidableEq κ](h:Rng C e g s b left cnt M I)(hit:Rd none T it (.prim (.pointer (some ⟨r,0,none⟩))))(hX:At S p (X,exA M))(hZ:At S q (Z,.raw r I))(hY:At S u (Y,lkA X b))(hd:A8 (some d) nt=true)(hone:∀x v,g x=some v->v.oneCell'=true)
  (k0:(∀x,C.ok x->left x=false)->AOps ro P nt ops Q rest ⟨BA T (some d) (.tup [.prim (.bool false)]),S⟩)
  (k1:∀x v I' cnt',C.ok x->left x=true->g x=some v->PlainV P e v->cnt'<cnt->Rng C e g s b (λy=>left y&& !decide (y=x)) cnt' M I' ->QJ C b M I' x v->AOps ro P nt ops Q rest ⟨BA T (some d) (.tup [.prim (.bool true),C.av x,.prim v]),S.set q (Z,.raw r I')⟩):
  AOps ro P nt ops Q (⟨some d,.next it false,ty,pos,after,none⟩::rest) ⟨T,S⟩:=by
 rintro m0 a w ⟨m,N,Zs,rfl,h2,h3,h4⟩
 refine Gk rfl λK hK=>JZ (nt:=nt) (m0:=m0) (β:=Option (κ×Value×Obj×Nat)) (C:=λz=>match z with|none=>∀x,C.ok x->left x=false|some (x,v,I',cnt')=>C.ok x/\left x=true/\g x=some v/\PlainV P e v/\cnt'<cnt/\Rng C e g s b (λy=>left y&& !decide (y=x)) cnt' M I' /\QJ C b M I' x v) (sE:=λz=>match z with|none=>⟨BA T (some d) (.tup [.prim (.bool false)]),S⟩|some (x,v,I',cnt')=>⟨BA T (some d) (.tup [.prim (.bool true),C.av x,.prim v]),S.set q (Z,.raw r I')⟩) (by simp) ?_ λa' w' ⟨z,hz,hrel⟩=>hK _ _ (by
  match z,hz,hrel with
  |none,hz,hrel=>exact k0 hz m0 _ _ hrel
  |some (x,v,I',cnt'),⟨c1,c2,c3,c4,c5,c6,c7⟩,hrel=>exact k1 x v I' cnt' c1 c2 c3 c4 c5 c6 c7 m0 _ _ hrel)
 have hita:=(h4.ev ((Evs.cons hit .nil).all (it,.prim (.pointer (some ⟨r,0,none⟩))) (by simp))).prim;obtain⟨hb,hr,_⟩:=cM h3 h2 hX hZ hY;unfold Oper.wp;rcases h.next hb hr ty with⟨hl,hrun⟩|⟨x,v,I',cnt',c1,c2,c3,c4,c5,c6,c7,w1,hal,hrun⟩
 ·have h5:(execOp a.eval ⟨some d,.next it false,ty,pos,after,none⟩).run P m.w= .ok (.value (.tuple #[.bool false])) m.w:=by
   simp[execOp,hita,hrun,AJ,AA,AK]
  rw[h5];exact⟨none,hl,m,N,Zs,rfl,h2,h3,h4.put (DJ hd) ⟨_,rfl,(Co rfl).2 ⟨_,_,[],[],rfl,rfl,CU _,⟨rfl,rfl⟩⟩⟩⟩
 ·have h5:(execOp a.eval ⟨some d,.next it false,ty,pos,after,none⟩).run P m.w= .ok (.value (.tuple #[.bool true,C.val x,v])) (w1.putObj r I'):=by
   simp[execOp,hita,hrun,AJ,AA,AK]
  rw[h5]
  obtain⟨m1,hm1w,G1,hle1⟩:∃m1:Mem,m1.w=w1/\Good m0 m1 N Zs []/\m.Le m1:=by
   rcases hal with rfl|rfl
   ·exact⟨m,rfl,h3,.refl m⟩
   ·exact⟨{m with w:={m.w with drawn:=m.w.drawn+1}},rfl,h3.draw _,⟨λ_ h=>h,λ_ _ _ h=>h,λ_ h=>⟨h,rfl⟩⟩⟩
  subst hm1w;obtain⟨bs2,hz2⟩:=hZ.z h2;obtain⟨R,hp1,hp2⟩:=Cv hz2;obtain⟨G2,hle2⟩:=Good.setRaw (G1.perm hp1) I' _ rfl;exact⟨some (x,v,I',cnt'),⟨c1,c2,c3,c4,c5,c6,c7⟩,_,N,Zs.set q ((Z,.raw r I'),bs2),rfl,by rw[BC,show Zs.map (·.1)=S from h2],G2.perm (hp2 _).symm,(h4.mono (hle1.trans hle2)).put (DJ hd) ⟨_,rfl,(Co rfl).2 ⟨_,_,[],[],rfl,rfl,CU _,(Co (C.nt x)).2 ⟨_,_,[],[],rfl,rfl,C.avv _ x,(Co rfl).2 ⟨_,_,[],[],rfl,rfl,CU _ (hone x v c3),⟨rfl,rfl⟩⟩⟩⟩⟩⟩
theorem OpT.entry{x0:κ}{v:Value}(h:QJ C b M I x0 v)(hone:v.oneCell'=true):OpT P ⟨dst,.entry it,ty,pos,after,none⟩ [(it,.prim (.pointer (some ⟨r,0,none⟩)))] [(p,(X,exA M)),(q,(Z,.raw r I)),(u,(Y,lkA X b))] (.tup [C.av x0,.prim v]) []:=by
 intro nt m0 T S a w hx hS hd hr;obtain⟨m,N,Zs,rfl,h2,h3,h4⟩:=hr
 have hS':∀{i:Nat} {z:AS},(i,z)∈[(p,((X,exA M):AS)),(q,(Z,.raw r I)),(u,(Y,lkA X b))]->∃bs,Zs[i]?=some (z,bs):=λ{i z} hm=>by
  have:=hS (i,z) hm;rw[<-show Zs.map (·.1)=S from h2,Ae,DZ]at this;obtain⟨⟨z1,bs⟩,hz,rfl⟩:=this;exact⟨bs,hz⟩
 obtain⟨b1,hz1⟩:=hS' (i:=p) (z:=(X,exA M)) (by simp);obtain⟨b2,hz2⟩:=hS' (i:=q) (z:=(Z,.raw r I)) (by simp);obtain⟨b3,hz3⟩:=hS' (i:=u) (z:=(Y,lkA X b)) (by simp);obtain⟨hU,L,hL,_,o,hb,rfl⟩:=h3.obj _ (Bb hz1);obtain⟨_,_,hr⟩:=h3.obj _ (Bb hz2);obtain⟨_,_,hv⟩:=h3.obj _ (Bb hz3);obtain⟨_,_,A,hA,hA2⟩:=hv (.mp X) (.map (some b)) ⟨rfl,rfl⟩;simp only[Bs,Hu]at hA;rw[hA2 L hL]at hA;injection hA with hA
 injection hA with hA
 subst hA;have hita:=(h4.ev (hx (it,.prim (.pointer (some ⟨r,0,none⟩))) (by simp))).prim;have hrun:=h m.w r hb hr;unfold Oper.wp
 have h5:(execOp a.eval ⟨dst,.entry it,ty,pos,after,none⟩).run P m.w= .ok (.value (.tuple #[C.val x0,v])) m.w:=by
  simp[execOp,hita,hrun,AJ,AA,AK]
 rw[h5];exact⟨m,N,Zs,rfl,h2,h3,h4.put hd ⟨_,rfl,(Co (C.nt x0)).2 ⟨_,_,[],[],rfl,rfl,C.avv _ x0,(Co rfl).2 ⟨_,_,[],[],rfl,rfl,CU _ hone,⟨rfl,rfl⟩⟩⟩⟩⟩
theorem W.entry{x0:κ}{v:Value}(av:AV)(h:QJ C b M I x0 v)(hone:v.oneCell'=true)(hit:Rd c T it (.prim (.pointer (some ⟨r,0,none⟩))))(hX:At S p (X,exA M))(hZ:At S q (Z,.raw r I))(hY:At S u (Y,lkA X b))(hav:av=C.av x0:=by rfl):
  Stp c P ⟨dst,.entry it,ty,pos,after,none⟩ T S [(it,.prim (.pointer (some ⟨r,0,none⟩)))] [(p,(X,exA M)),(q,(Z,.raw r I)),(u,(Y,lkA X b))] (.tup [av,.prim v]) []:=
 hav▸⟨.entry h hone,.cons hit .nil,.cons hX (.cons hZ (.cons hY .nil))⟩
theorem dk{code:Code}{K K':Obj->Prop}(X:Nat)(hK:∀o,K o->K' o)(hS:At S p (X,.ob K))(kk:AWP ro P nt code Q ⟨T,S.set p (X,.ob K')⟩):AWP ro P nt code Q ⟨T,S⟩:=
 .ghost (K:=λst'=>st'=⟨T,S.set p (X,.ob K')⟩) (λm0 a w ⟨m,N,Zs,hw,h2,h3,h4⟩=>by
  obtain⟨bs,hz⟩:=hS.z h2;obtain⟨R,hp1,hp2⟩:=Cv hz;have G:=h3.perm hp1;obtain⟨hU,L,hL,hbs,o,hb,hKo⟩:=G.obj _ (Au ..);exact⟨⟨T,S.set p (X,.ob K')⟩,⟨m,N,Zs.set p ((X,.ob K'),bs),hw,by rw[BC,show Zs.map (·.1)=S from h2],(G.bag (z':=((X,.ob K'),bs)) (B:=[]) rfl ⟨hU,L,hL,hbs,o,hb,hK o hKo⟩ (.refl _)).perm (hp2 _).symm,h4⟩,rfl⟩) λst' e=>by subst e;exact kk
end
end
section
open Go.RowKit
section
variable {P:Program}{ty t:TypeId}{pos:String}{after:Array Edge}{dst:Option Tmp}{g:Option (Nat×Bool)}{c:Option (List Bool)}{x y:Operand}{T:List (Nat×AV)}{S:List AS}
theorem OpT.indexArr{q:IntKind}{X i k n sz1 p sz:Nat}(j:Nat){te t':TypeId}{qi:Int}(h:P.underlying t=some (.array n te))(hn:tSz P te=some sz1)(hj:j<n)(hi:i<l.length)(hq:qi=(j:Int)):OpT P ⟨dst,.indexAddr t x y,ty,pos,after,g⟩ [(x,.ptr X i k),(y,.prim (.int q qi))] [(p,(X,.row t' sz l))] (.ptr X i (k+j*sz1)) []:=
 .pure_ λm a hx hS=>by
  obtain⟨bs,hO⟩:=hS (p,(X,.row t' sz l)) (by simp);obtain⟨L,arr,c,q2,h1,h2,_⟩:=hO.elem (Af hi);obtain⟨_,hU,A,e1,h3⟩:=hx (x,.ptr X i k) (by simp);have hy:=(hx (y,.prim (.int q qi)) (by simp)).prim;injection e1 with e1
  simp only at e1 hy;subst hq;rw[h3 L h1]at e1;refine⟨.pointer (some ⟨L.blk,i*L.sz+(k+j*sz1),none⟩),?_,rfl,hU,_,rfl,λL' hL'=>?_⟩
  ·have hlt:(0:Int)<=(j:Int)/\(j:Int)<(n:Int):=by omega
   simp[execOp,e1,hy,Instr.indexAt,Instr.sureAddr,asIntOf,BN h,hlt,Fk hn,AJ,AA,Gq,Ka,hj]
  ·rw[h1]at hL';injection hL' with hL';subst hL';rfl
theorem W.indexArr{q:IntKind}{X i k n sz1 p sz:Nat}(j:Nat){te t':TypeId}{qi:Int}(h:P.underlying t=some (.array n te))(hn:tSz P te=some sz1)(hj:j<n)(hx:Rd c T x (.ptr X i k))(hy:Rd c T y (.prim (.int q qi)))(hS:At S p (X,.row t' sz l))(hi:i<l.length)(hq:qi=(j:Int)):
  Stp c P ⟨dst,.indexAddr t x y,ty,pos,after,g⟩ T S [(x,.ptr X i k),(y,.prim (.int q qi))] [(p,(X,.row t' sz l))] (.ptr X i (k+j*sz1)) []:=⟨.indexArr j h hn hj hi hq,.cons hx (.cons hy .nil),.cons hS .nil⟩
theorem OpT.buildV{u0 u1:Value}(h:∀w,(Instr.build t #[(0,u0),(1,u1)]).run P w= .ok (.agg #[u0,u1]) w)(h0:u0.oneCell'=true)(h1:u1.oneCell'=true):OpT P ⟨dst,.build t #[(0,x),(1,y)],ty,pos,after,g⟩ [(x,.prim u0),(y,.prim u1)] [] (.agg [.prim u0,.prim u1]) []:=
 .pure_ λm a hx _=>by
  have hxa:=(hx (x,.prim u0) (by simp)).prim;have hya:=(hx (y,.prim u1) (by simp)).prim;simp only at hxa hya;refine⟨.agg #[u0,u1],?_,O4 [u0,u1] m (by intro u hu;simp only[Cl,D1,KY]at hu;rcases hu with rfl|rfl<;>assumption)⟩;simp[execOp,hxa,hya,h,AJ,AK,AA]
theorem W.buildV{u0 u1:Value}(h:∀w,(Instr.build t #[(0,u0),(1,u1)]).run P w= .ok (.agg #[u0,u1]) w)(hx:Rd c T x (.prim u0))(hy:Rd c T y (.prim u1))(h0:u0.oneCell'=true:=by rfl)(h1:u1.oneCell'=true:=by rfl):
  Stp c P ⟨dst,.build t #[(0,x),(1,y)],ty,pos,after,g⟩ T S [(x,.prim u0),(y,.prim u1)] [] (.agg [.prim u0,.prim u1]) []:=⟨.buildV h h0 h1,.cons hx (.cons hy .nil),.nil⟩
end
end
theorem JA{A B:Prop} (k:B) (h:Hd B->A:=by (intro b;refine KK ?_;refine RT ?_;exact b.h)):A:=h ⟨k⟩
theorem JB{A B:Prop} (k:B) (h:Hd B->A:=by (intro b;refine FL ?_;refine R1 ?_;exact b.h)):A:=h ⟨k⟩
theorem JC{A B:Prop} (k:B) (h:Hd B->A:=by (intro b;refine WO ?_;refine NL ?_;exact b.h)):A:=h ⟨k⟩
theorem JD{A B:Prop} (k:B) (h:Hd B->A:=by (intro b;refine FL ?_;refine RG ?_;exact b.h)):A:=h ⟨k⟩
theorem JE{A B:Prop} (k:B) (h:Hd B->A:=by (intro b;refine KO ?_;refine NL ?_;exact b.h)):A:=h ⟨k⟩
theorem JF{A B:Prop} (k:B) (h:Hd B->A:=by (intro b;refine RG ?_;refine WO ?_;exact b.h)):A:=h ⟨k⟩
theorem JG{A B:Prop} (k:B) (h:Hd B->A:=by (intro b;refine RK ?_;refine RK ?_;exact b.h)):A:=h ⟨k⟩
theorem JH{A B:Prop} (k:B) (h:Hd B->A:=by (intro b;refine JD ?_;refine KO ?_;exact b.h)):A:=h ⟨k⟩
theorem JI{A B:Prop} (k:B) (h:Hd B->A:=by (intro b;refine RG ?_;refine KO ?_;exact b.h)):A:=h ⟨k⟩
theorem JJ{A B:Prop} (k:B) (h:Hd B->A:=by (intro b;refine JB ?_;refine FL ?_;exact b.h)):A:=h ⟨k⟩
theorem JK{A B:Prop} (k:B) (h:Hd B->A:=by (intro b;refine JD ?_;refine WO ?_;exact b.h)):A:=h ⟨k⟩
theorem JL{A B:Prop} (k:B) (h:Hd B->A:=by (intro b;refine JB ?_;refine RT ?_;exact b.h)):A:=h ⟨k⟩
theorem JM{A B:Prop} (k:B) (h:Hd B->A:=by (intro b;refine RU ?_;refine KR ?_;exact b.h)):A:=h ⟨k⟩
theorem JN{A B:Prop} (k:B) (h:Hd B->A:=by (intro b;refine R1 ?_;refine FL ?_;exact b.h)):A:=h ⟨k⟩
theorem Ics.s{B:AV->AV->Prop}{a:AV}{as bs:List AV}(k:Ics B as bs):Ics B (a::as) (a::bs):=.cons .same k
theorem CCs.s{S S':List AS}{a:AV}{as bs:List AV}(k:CCs S as bs S'):CCs S (a::as) (a::bs) S':=.cons .same k
theorem CCs.r{S:List AS}:{as:List AV}->CCs S as as S
 |[]=>.nil
 |_::_=>.cons .same CCs.r
theorem Ics.r{B:AV->AV->Prop}:{as:List AV}->Ics B as as
 |[]=>.nil
 |_::_=>.cons .same Ics.r
end Go.Proofs.YtmkahplhnbbgmaaGreat
