/-
  Part 4 of the texts under the law TopSaved: the layer of abstract values, walks and plain laws. Conditions: those that each theorem names.
-/
import Derived.Lib.BytesEntry
import Derived.Laws.Externs
import Derived.Lib.SlBytesConst
import Derived.Test.YtmkahplhnbbgmaaGreatTopSavedP3
namespace Go.Proofs.YtmkahplhnbbgmaaGreat
set_option linter.unusedVariables false
set_option linter.unusedSimpArgs false
set_option linter.defProp false
set_option maxRecDepth 10000
set_option maxHeartbeats 4000000
section
variable {ro:Option Nat}
open Go.RowKit
section
variable {P:Program}{nt:Nat}{ops:Array Oper}
theorem YF{F:Fence}{n:Nat}{o:Oper}{a:Act}{w:World}{K K':Act->World->Prop}{Q Q':Exit->Act->World->Prop}(hK:∀a w,K a w->K' a w)(hQ:∀e a w,Q e a w->e= .normal)(hh:o.wpIn F n P a w K Q):o.wpIn F n P a w K' Q':=by
 unfold Oper.wpIn at*;refine⟨hh.1,?_⟩;have hh:=hh.2;generalize (o.semAt F.round a.eval).run P w=r at*;cases r with
 |ok x w'=>
  cases x<;>simp only[Oper.uponIn]at hh⊢<;>
   first
    |exact hK _ _ hh
    |exact⟨hh.1,CallsIn.mono hh.2 (λe w'' he=>by
      cases e with
      |returned v=>exact hK _ _ he
      |panicked c=>exact absurd (hQ _ _ _ he) (by simp)
      |outgrown=>obtain⟨a2,w2,h2⟩:=he;exact absurd (hQ _ _ _ h2) (by simp))⟩
    |exact⟨hh.1,RowsIn.mono hh.2 (λ_ _ he=>hK _ _ he)⟩
    |exact⟨hh.1,RoundIn.mono hh.2 (λe w'' he=>by
      cases e with
      |returned v=>exact hK _ _ he
      |panicked c=>exact absurd (hQ _ _ _ he) (by simp)
      |outgrown=>obtain⟨a2,w2,h2⟩:=he;exact absurd (hQ _ _ _ h2) (by simp))⟩
 |halt x w'=>
  cases x<;>simp only[Oper.uponIn]at hh⊢<;>
   first
    |exact hh
    |exact absurd (hQ _ _ _ hh) (by simp)
structure St.LeH(st st':St):Prop where
 T:∀d v,Bk st'.T d=some v->Bk st.T d=some v
 S:st'.S.Sublist st.S
theorem Rel.weakH{m0:Mem}{st st':St}{a:Act}{w:World}(h:Rel nt m0 st a w)(k:st.LeH st'):Rel nt m0 st' a w:=(HB (T':=st'.T) h k.T).sub k.S
abbrev Hv:Type:=Nat×Oper×List Nat×List (Nat×AV)
def HC(ro:Option Nat)(P:Program)(nt:Nat)(Q:Exit->St->Prop)(Tf:List (Nat×AV))(Ff:List AR):List Hv->List (Nat×AV)->List AR->Prop
 |[],V,R=>Q .normal ⟨V++Tf,Ff++R⟩
 |q::hs,V,R=>∀T F,(∀t∈q.2.2.1,Bk T t=Bk (V++q.2.2.2) t)->AOps ro P nt #[] (λex st'=>ex= .normal/\∃u R',st'.LeH ⟨BB T q.2.1.dst u,F++R'⟩/\HC ro P nt Q Tf Ff hs (BB V q.2.1.dst u) R') [q.2.1] ⟨T,F++R⟩
theorem U0{wS:List (Nat×AR)}:∀{F R:List AR},(∀q∈wS,q.1<F.length)->BA (F++R) wS=BA F wS++R:=by
 induction wS with
 |nil=>intro F R _;rfl
 |cons q r ih=>
  intro F R h;show BA ((F++R).set q.1 q.2) r=BA (F.set q.1 q.2) r++R
  rw[List.set_append_left _ _ (h q (by simp))];exact ih λq' hq'=>by rw[Ev];exact h q' (by simp[hq'])
theorem Xu{m0:Mem}{st:St}{effs:List Eff}{hv:List Hv}{Q:Exit->St->Prop}{R0:List AR}(heff:effs.map (·.o)=ops.toList)(hc:FT effs (Du ops.toList [])=true)(hdn:down ops.toList 0=true)
  (hvi:∀q∈hv,∃e,effs[q.1]?=some e/\e.o=q.2.1/\e.rT=q.2.2.1/\(stX effs 0 (λj=>decide (j<q.1)) st).T=q.2.2.2/\e.wS=[]/\e.o.guard=none)
  (hch:hv.Pairwise λp q=>p.1<q.1/\∃m,(Du ops.toList [])[q.1]?=some m/\m.testBit p.1=true)
  (hli:∀i e,(∀q∈hv,q.1≠i)->effs[i]?=some e->TI P nt ops e (stX effs 0 (λj=>decide (j<i)) st)/\(∀p∈e.rS,p<st.S.length)/\(∀q∈e.wS,q.1<st.S.length)/\∀q∈hv,∀d,q.2.1.dst=some d->d∉e.rT/\e.o.dst≠some d):
  ∀(fuel:Nat) (X:Array Bool) (a:Act) (w:World),X.size=ops.size->(∀j o,ops.toList[j]?=some o->X.getD j false=true->∀e∈o.after.toList,Region.binds .any e=true->X.getD e.on false=true)->
   ((List.range ops.size).filter λj=>!X.getD j false).length<=fuel->
   (∃dn hs V R,hv=dn++hs/\(∀q∈dn,X.getD q.1 false=true)/\(∀q∈hs,X.getD q.1 false=false)/\(∀d,Bk V d≠none->∃q∈dn,q.2.1.dst=some d)/\HC ro P nt Q (stX effs 0 (λ_=>true) st).T (stX effs 0 (λ_=>true) st).S hs V R/\Rel nt m0 ⟨V++(stX effs 0 (λj=>X.getD j false) st).T,(stX effs 0 (λj=>X.getD j false) st).S++R⟩ a w)->
   wpAnyIn (FW ro) 0 P .any ops (λe a' w'=>∃st',Rel nt m0 st' a' w' /\Q e st') fuel X a w:=by
 have hlen:effs.length=ops.size:=by have:=Dh List.length heff;simpa using this
 have hvlt:∀q∈hv,q.1<ops.size:=λq hq=>by
  obtain⟨e,he,_⟩:=hvi q hq;rw[<-hlen];exact(AE.1 he).1
 have done:∀(X:Array Bool) a w,(∀j,j<ops.size->X.getD j false=true)->(∃dn hs V R,hv=dn++hs/\(∀q∈dn,X.getD q.1 false=true)/\(∀q∈hs,X.getD q.1 false=false)/\(∀d,Bk V d≠none->∃q∈dn,q.2.1.dst=some d)/\HC ro P nt Q (stX effs 0 (λ_=>true) st).T (stX effs 0 (λ_=>true) st).S hs V R/\Rel nt m0 ⟨V++(stX effs 0 (λj=>X.getD j false) st).T,(stX effs 0 (λj=>X.getD j false) st).S++R⟩ a w)->∃st',Rel nt m0 st' a w/\Q .normal st':=by
  rintro X a w hall ⟨dn,hs,V,R,h1,h2,h3,h4,h5,hr⟩;cases hs with
  |cons q hs=>
   have hq:q∈hv:=by rw[h1];simp
   have:=h3 q (by simp);rw[hall q.1 (hvlt q hq)]at this;cases this
  |nil=>
   have hT:∀t,Bk (stX effs 0 (λj=>X.getD j false) st).T t=Bk (stX effs 0 (λ_=>true) st).T t:=λt=>
    LO (λj e he _=>by rw[Ao];exact hall j (by rw[<-hlen];exact(AE.1 he).1)) rfl
   have hS:(stX effs 0 (λj=>X.getD j false) st).S=(stX effs 0 (λ_=>true) st).S:=GL λp=>
    NI (λj e he _=>by rw[Ao];exact hall j (by rw[<-hlen];exact(AE.1 he).1)) rfl rfl
   have hr':Rel nt m0 ⟨V++(stX effs 0 (λ_=>true) st).T,(stX effs 0 (λj=>X.getD j false) st).S++R⟩ a w:=HB hr λd v h=>by
    rw[Ec]at h⊢;rw[hT];exact h
   rw[hS]at hr';exact⟨_,hr',h5⟩
 refine Pn (I:=λX a w=>∃dn hs V R,hv=dn++hs/\(∀q∈dn,X.getD q.1 false=true)/\(∀q∈hs,X.getD q.1 false=false)/\(∀d,Bk V d≠none->∃q∈dn,q.2.1.dst=some d)/\HC ro P nt Q (stX effs 0 (λ_=>true) st).T (stX effs 0 (λ_=>true) st).S hs V R/\Rel nt m0 ⟨V++(stX effs 0 (λj=>X.getD j false) st).T,(stX effs 0 (λj=>X.getD j false) st).S++R⟩ a w) hdn done λX i hin a w hX hdc hXi hpre hinv=>?_
 ·have ho:ops[i]?=some ops[i]:=by simp[hin]
  have hiX:i<X.size:=by omega
  obtain⟨e,he⟩:∃e,effs[i]?=some e:=⟨effs[i]'(by rw[hlen];exact hin),by simp[hlen,hin]⟩;obtain⟨heo,hrT,hrS,hT2,hS2⟩:=LN (heff▸List.prefix_rfl) hc hX hdc hin hXi hpre he;have hX':=NK hiX;obtain⟨dn,hs,V,R,h1,h2,h3,h4,h5,hr⟩:=hinv;have hSlen:(stX effs 0 (λj=>X.getD j false) st).S.length=st.S.length:=YK ..;by_cases hhv:∃q∈hv,q.1=i
  ·obtain⟨q,hq,hqi⟩:=hhv
   subst hqi
   have hqs:q∈hs:=by
    rw[h1]at hq;rcases AL.1 hq with h|h
    ·rw[h2 q h]at hXi;cases hXi
    ·exact h
   obtain⟨q0,hs',rfl⟩:∃q0 hs',hs=q0::hs':=by
    cases hs with
    |nil=>cases hqs
    |cons q0 hs'=>exact⟨q0,hs',rfl⟩
   have hmask:=Iv (λk=>X.getD k false||decide (k=q.1)) ops.toList [] (λk o hk hXk ee hee hb=>by
    simp only[D5,Ao,CE,AS]at hXk⊢;rcases hXk with h|h
    ·exact .inl (hdc k o hk h ee hee hb)
    ·subst h
     have:o=ops[q.1]:=by simpa[hin]using hk.symm
     subst this;exact .inl (hpre ee hee hb)) (λj m h=>by simp at h)
   have hq0:q0.1=q.1:=by
    rcases AP.1 hqs with rfl|hqs
    ·rfl
    ·rw[h1]at hch
     have hp:=(Al.1 (CL.1 hch).2.1).1 q hqs;obtain⟨_,m,hm1,hm2⟩:=hp;have:=hmask q.1 m hm1 (by simp) q0.1 hm2;simp only[CE,AS]at this;rcases this with h|h
     ·rw[h3 q0 (by simp)]at h;cases h
     ·exact h
   obtain⟨e',he',g1,g2,g3,g4,g5⟩:=hvi q0 (by rw[h1];simp);rw[hq0,he]at he';injection he' with he'
   subst he';rw[hq0]at g3
   have hA:=h5 (V++(stX effs 0 (λj=>X.getD j false) st).T) (stX effs 0 (λj=>X.getD j false) st).S (λt ht=>by
    rw[<-g2]at ht;rw[Ec,Ec,hrT t ht,g3]) m0 a w hr
   unfold wpOpIn;simp only[ho];rw[<-g1,heo]at hA;unfold wpListIn at hA;have hw:Region.wanted ops[q.1] (yielded ops a.tmps)=true:=by rw[<-heo];simp[Region.wanted,g5]
   have hw2:Region.wanted ops[q.1] (yielded #[] a.tmps)=true:=by rw[<-heo];simp[Region.wanted,g5]
   rw[Ab hw2]at hA;rw[Ab hw];refine YF (λa' w' hh=>?_) (λex a' w' ⟨st',_,hx,_⟩=>hx) hA;obtain⟨st',hr',_,u,R',hle,hHC⟩:=hh;refine⟨dn++[q0],hs',BB V ops[q.1].dst u,R',by rw[h1];simp,λp hp=>?_,λp hp=>?_,λd hd=>?_,hHC,?_⟩
   ·rw[hX']
    rcases AL.1 hp with hp|hp
    ·rw[h2 p hp];rfl
    ·have:p=q0:=by simpa using hp
     subst this;simp[hq0]
   ·rw[hX']
    have h6:=h3 p (by simp[hp]);rw[h6]
    have:p.1≠q.1:=λh=>by
     rw[h1]at hch;have:=((Al.1 (CL.1 hch).2.1).1 p hp).1;omega
    simp[this]
   ·cases hdd:ops[q.1].dst with
    |none=>
     rw[hdd]at hd;obtain⟨p,hp,hpd⟩:=h4 d hd;exact⟨p,by simp[hp],hpd⟩
    |some d'=>
     rw[hdd]at hd;by_cases hdeq:d=d'
     ·subst hdeq
      exact⟨q0,by simp,by rw[<-g1,heo,hdd]⟩
     ·have hd':Bk V d≠none:=by
       simp only[BB,CF,AI hdeq]at hd;exact hd
      obtain⟨p,hp,hpd⟩:=h4 d hd';exact⟨p,by simp[hp],hpd⟩
   ·rw[hS2]
    have hwS:(e.app (stX effs 0 (λj=>X.getD j false) st)).S=(stX effs 0 (λj=>X.getD j false) st).S:=by
     show BA _ e.wS=_
     rw[g4];rfl
    rw[hwS];refine HB (hr'.weakH hle) λd v hv=>?_
    rw[Ec]at hv;cases hdd:ops[q.1].dst with
    |none=>
     rw[hdd]at hv;simp only[BB]at hv⊢;rw[Ec];rw[hT2]at hv;simp only[Eff.app,heo,hdd,BB]at hv;exact hv
    |some d'=>
     rw[hdd]at hv;simp only[BB,CF]at hv⊢;by_cases hdeq:d=d'
     ·simp only[Ab hdeq]at hv⊢
      simpa using hv
     ·simp only[AI hdeq]at hv⊢
      rw[Ec];rw[hT2]at hv;simp only[Eff.app,heo,hdd,BB,CF,AI hdeq]at hv;exact hv
  ·have hno:∀q∈hv,q.1≠i:=λq hq h=>hhv ⟨q,hq,h⟩
   obtain⟨hloc,hrs,hws,hdst⟩:=hli i e hno he;have hV:∀d,(∃q∈dn,q.2.1.dst=some d)->d∉e.rT/\e.o.dst≠some d:=λd ⟨q,hq,hqd⟩=>hdst q (by rw[h1];simp[hq]) d hqd
   have hl:=hloc m0 (V++(stX effs 0 (λj=>X.getD j false) st).T) ((stX effs 0 (λj=>X.getD j false) st).S++R) a w (λt ht=>by
    rw[Ec];cases hVt:Bk V t with
    |none=>rw[Option.none_or];exact hrT t ht
    |some v=>exact absurd ht (hV t (h4 t (by rw[hVt];simp))).1) (λp hp=>by
    rw[Bw (by rw[hSlen];exact hrs p hp)];exact hrS p hp) hr
   have hnew:∀a' w',Rel nt m0 (e.app ⟨V++(stX effs 0 (λj=>X.getD j false) st).T,(stX effs 0 (λj=>X.getD j false) st).S++R⟩) a' w' ->Rel nt m0 ⟨V++(stX effs 0 (λj=>(X.setIfInBounds i true).getD j false) st).T,(stX effs 0 (λj=>(X.setIfInBounds i true).getD j false) st).S++R⟩ a' w':=by
    intro a' w' hr';rw[hS2]
    have e1:(e.app ⟨V++(stX effs 0 (λj=>X.getD j false) st).T,(stX effs 0 (λj=>X.getD j false) st).S++R⟩).S=(e.app (stX effs 0 (λj=>X.getD j false) st)).S++R:=by
     show BA _ e.wS=BA _ e.wS++R
     exact U0 λq hq=>by rw[hSlen];exact hws q hq
    rw[<-e1];refine HB hr' λd v hv=>?_
    rw[Ec,hT2]at hv;show Bk (BB (V++(stX effs 0 (λj=>X.getD j false) st).T) e.o.dst e.v) d=some v
    cases hdd:e.o.dst with
    |none=>
     simp only[Eff.app,hdd,BB]at hv⊢;rw[Ec];exact hv
    |some d'=>
     simp only[Eff.app,hdd,BB,CF]at hv⊢;by_cases hdeq:d=d'
     ·subst hdeq
      cases hVt:Bk V d with
      |none=>rw[hVt]at hv;simpa using hv
      |some x=>exact absurd hdd (hV d (h4 d (by rw[hVt];simp))).2
     ·rw[AI hdeq]at hv⊢
      rw[Ec];exact hv
   have n2:∀q∈dn,(X.setIfInBounds i true).getD q.1 false=true:=λq hq=>by rw[hX',h2 q hq];rfl
   have n3:∀q∈hs,(X.setIfInBounds i true).getD q.1 false=false:=λq hq=>by
    rw[hX',h3 q hq];simp[hno q (by rw[h1];simp[hq])]
   unfold wpOpIn;simp only[ho];rw[heo]at hl;by_cases hw:Region.wanted ops[i] (yielded ops a.tmps)=true
   ·rw[Ab hw]at hl⊢
    exact Kc hl λa' w' hr'=>⟨dn,hs,V,R,h1,n2,n3,h4,h5,hnew a' w' hr'⟩
   ·rw[AI hw]at hl⊢
    exact⟨λ_ _=>CZ,dn,hs,V,R,h1,n2,n3,h4,h5,hnew _ _ hl⟩
theorem jt(st:St)(X:Nat->Bool):stX [] 0 X st=st:=rfl
def XI(n:Nat)(effs:List Eff)(hv:List (Nat×Option Nat)):Bool:=(List.range effs.length).all λi=>(hv.any λq=>Nat.beq q.1 i)||match effs[i]? with
 |none=>true
 |some e=>e.rS.all (λp=>Nat.blt p n)&&e.wS.all (λq=>Nat.blt q.1 n)&&hv.all λq=>!VN q.2 e.rT&& !U2 e.o.dst q.2
def Qw:List Nat->List Nat->Bool
 |[],_=>true
 |p::r,ms=>r.all (λq=>Nat.blt p q&&(ms.getD q 0).testBit p&&Nat.blt q ms.length)&&Qw r ms
theorem Om{ms:List Nat}:∀{hs:List Nat},Qw hs ms=true->hs.Pairwise λp q=>p<q/\∃m,ms[q]?=some m/\m.testBit p=true
 |[],_=>.nil
 |p::r,h=>by
  simp only[Qw,AH,Cr,Id]at h;refine .cons (λq hq=>?_) (Om h.2);obtain⟨⟨h1,h2⟩,h3⟩:=h.1 q hq;refine⟨h1,ms[q],by simp[h3],?_⟩;simpa[Ct,AX h3]using h2
theorem VR{n:Nat}{effs:List Eff}{hv:List (Nat×Option Nat)}(h:XI n effs hv=true){i:Nat}{e:Eff}(hi:∀q∈hv,q.1≠i)(he:effs[i]?=some e):(∀p∈e.rS,p<n)/\(∀q∈e.wS,q.1<n)/\∀q∈hv,∀d,q.2=some d->d∉e.rT/\e.o.dst≠some d:=by
 have h1:=Cr.1 h i (DL.2 (AE.1 he).1)
 have h2:(hv.any λq=>Nat.beq q.1 i)=false:=by
  rw[CW];intro q hq h3;exact hi q hq (DN h3)
 rw[h2,he]at h1;simp only[Bool.false_or,AH,Cr,Id]at h1;refine⟨h1.1.1,h1.1.2,λq hq d hd=>?_⟩;obtain⟨h3,h4⟩:=h1.2 q hq;rw[hd]at h3 h4;refine⟨λhm=>?_,λe2=>?_⟩
 ·have:VN (some d) e.rT=true:=Gq.2 ⟨d,hm,Nat.beq_refl d⟩
  rw[this]at h3;cases h3
 ·rw[e2]at h4
  have:U2 (some d) (some d)=true:=by simp[U2]
  rw[this]at h4;cases h4
def RGoH(ro:Option Nat)(n:Nat)(P:Program)(nt:Nat)(l:List Oper)(Q:Exit->St->Prop)(R0:List AR)(rest:List Oper)(acc:List Eff)(hacc:List Hv)(st:St):Prop:=
 ∃effs hvr,effs.map (·.o)=rest/\
  (∀q∈hvr,∃k e,q.1=acc.length+k/\effs[k]?=some e/\e.o=q.2.1/\e.rT=q.2.2.1/\(stX effs 0 (λj=>decide (j<k)) st).T=q.2.2.2/\e.wS=[]/\e.o.guard=none)/\
  (∀k e,(∀q∈hvr,q.1≠acc.length+k)->effs[k]?=some e->TI P nt l.toArray e (stX effs 0 (λj=>decide (j<k)) st))/\
  FT (acc++effs) (Du l [])=true/\Qw ((hacc++hvr).map (·.1)) (Du l [])=true/\XI n (acc++effs) ((hacc++hvr).map λq=>(q.1,q.2.1.dst))=true/\
  HC ro P nt Q (stX effs 0 (λ_=>true) st).T (stX effs 0 (λ_=>true) st).S (hacc++hvr) [] R0
section
variable {Q:Exit->St->Prop}{l rest:List Oper}{acc:List Eff}{hacc:List Hv}{st:St}{T:List (Nat×AV)}{S R0:List AR}{xs:List (Operand×AV)}{rS wS:List (Nat×AR)}{v:AV}{op:Op}{ty:TypeId}{pos:String}{after:Array Edge}{dst:Option Tmp}{n:Nat}
theorem AWP.region_runH{id:Nat}(F0 R0:List AR)(hn:F0.length=n)(hm:P.follows .mixedOrders=true)(hdn:down l 0=true)(h:RGoH ro n P nt l Q R0 l [] [] ⟨T,F0⟩):AWP ro P nt (.region id l.toArray true) Q ⟨T,F0++R0⟩:=by
 obtain⟨effs,hv,h1,h2,h3,h4,h5,h6,h7⟩:=h;rw[Bz]at h4 h5 h6 h7;intro m0 a w hrel;refine wpIn_region_any hm (Xu (m0:=m0) (st:=⟨T,F0⟩) (effs:=effs) (hv:=hv) (R0:=R0) (by simpa using h1) (by simpa using h4) (by simpa using hdn) (λq hq=>?_) (by simpa[He]using Om h5) (λi e hi he=>?_) _ _ a _ (by simp) ?_ ?_ ?_)
 ·obtain⟨k,e,g1,g2,g3,g4,g5,g6,g7⟩:=h2 q hq
  rw[D5,Ao]at g1;subst g1;exact⟨e,g2,g3,g4,g5,g6,g7⟩
 ·have hl:=VR h6 (i:=i) (e:=e) (λq hq=>by
   obtain⟨p,hp,rfl⟩:=Ag.1 hq;exact hi p hp) he
  refine⟨h3 i e (λq hq=>by rw[D5,Ao];exact hi q hq) he,λp hp=>by rw[hn];exact hl.1 p hp,λq hq=>by rw[hn];exact hl.2.1 q hq,λq hq d hd=>hl.2.2 (q.1,q.2.1.dst) (Ag.2 ⟨q,hq,rfl⟩) d hd⟩
 ·intro j o hj hX
  have:j<l.length:=(AE.1 hj).1;simp[this]at hX
 ·exact Bh (RY _ _) (by simp)
 ·have:(λj=>(Array.replicate l.toArray.size false).getD j false)=λ_=>false:=by
   funext j
   simp only[CK,Ny];split<;>rfl
  refine⟨[],hv,[],R0,rfl,λq hq=>absurd hq (by simp),λq hq=>congrFun this q.1,λd hd=>absurd rfl hd,h7,?_⟩;rw[this,J9];exact hrel.draw _
theorem RGoH.nil(hc:FT acc (Du l [])=true)(h5:Qw (hacc.map (·.1)) (Du l [])=true)(h6:XI n acc (hacc.map λq=>(q.1,q.2.1.dst))=true)(k:HC ro P nt Q st.T st.S hacc [] R0):RGoH ro n P nt l Q R0 [] acc hacc st:=
 ⟨[],[],rfl,λq hq=>(by cases hq),λk e _ he=>(by cases he),by simpa using hc,by simpa using h5,by simpa using h6,by rw[A8];exact k⟩
theorem RE{o:Oper}{e:Eff}{st':St}(h:Run P nt l.toArray [o] st [e] st')(k:RGoH ro n P nt l Q R0 rest (acc++[e]) hacc st'):RGoH ro n P nt l Q R0 (o::rest) acc hacc st:=by
 obtain⟨h1,h2,h3⟩:=h.spec;obtain⟨effs,hvr,k1,k2,k3,k4,k5,k6,k7⟩:=k;have hst:st'=e.app st:=by rw[h1,Ke];rfl
 subst hst;simp only[Aa,CO,Ci,WM]at h2;refine⟨e::effs,hvr,by simp[k1,h2],λq hq=>?_,λi e' hi he=>?_,by simpa using k4,k5,by simpa using k6,by rw[Ke];exact k7⟩
 ·obtain⟨i,e',g1,g2,g3,g4,g5,g6,g7⟩:=k2 q hq
  refine⟨i+1,e',by rw[g1,AJ,BM];omega,by simpa using g2,g3,g4,by rw[H5];exact g5,g6,g7⟩
 ·cases i with
  |zero=>
   simp at he;subst he;have:=h3 0 e rfl;rw[J8]at this⊢;exact this
  |succ i=>
   rw[H5];exact k3 i e' (λq hq=>by rw[AJ,BM];have:=hi q hq;omega) (by simpa using he)
theorem Cn(k:RGoH ro n P nt l Q R0 rest (acc++[⟨⟨dst,op,ty,pos,after,none⟩,Br xs,rS.map (·.1),v,[]⟩]) hacc ⟨BB T dst v,S⟩)(h:Stp none P ⟨dst,op,ty,pos,after,none⟩ T S xs rS v []:=by exact IG)(hd:A7 dst nt=true:=by rfl):RGoH ro n P nt l Q R0 (⟨dst,op,ty,pos,after,none⟩::rest) acc hacc ⟨T,S⟩:=RE (Run.p h hd .nil) k
theorem eP(k:RGoH ro n P nt l Q R0 rest (acc++[⟨⟨dst,op,ty,pos,after,none⟩,Br xs,rS.map (·.1),v,wS⟩]) hacc ⟨BB T dst v,BA S wS⟩)(h:Stp none P ⟨dst,op,ty,pos,after,none⟩ T S xs rS v wS:=by exact Mz)(hd:A7 dst nt=true:=by rfl):RGoH ro n P nt l Q R0 (⟨dst,op,ty,pos,after,none⟩::rest) acc hacc ⟨T,S⟩:=RE (Run.s h hd .nil) k
theorem Fs(rT:List Nat)(k:RGoH ro n P nt l Q R0 rest (acc++[⟨⟨dst,op,ty,pos,after,none⟩,rT,[],.dead,[]⟩]) (hacc++[(acc.length,⟨dst,op,ty,pos,after,none⟩,rT,T)]) ⟨BB T dst .dead,S⟩):RGoH ro n P nt l Q R0 (⟨dst,op,ty,pos,after,none⟩::rest) acc hacc ⟨T,S⟩:=by
 obtain⟨effs,hvr,k1,k2,k3,k4,k5,k6,k7⟩:=k;refine⟨⟨⟨dst,op,ty,pos,after,none⟩,rT,[],.dead,[]⟩::effs,(acc.length,⟨dst,op,ty,pos,after,none⟩,rT,T)::hvr,by simp[k1],λq hq=>?_,λi e' hi he=>?_,by simpa using k4,by simpa using k5,by simpa using k6,by rw[Ke,List.append_cons];exact k7⟩
 ·rcases AP.1 hq with rfl|hq
  ·exact⟨0,_,rfl,rfl,rfl,rfl,by rw[J8],rfl,rfl⟩
  ·obtain⟨i,e',g1,g2,g3,g4,g5,g6,g7⟩:=k2 q hq
   exact⟨i+1,e',by rw[g1,AJ,BM];omega,by simpa using g2,g3,g4,by rw[H5];exact g5,g6,g7⟩
 ·cases i with
  |zero=>exact absurd rfl (hi (acc.length,⟨dst,op,ty,pos,after,none⟩,rT,T) (by simp))
  |succ i=>
   rw[H5];exact k3 i e' (λq hq=>by rw[AJ,BM];have:=hi q (by simp[hq]);omega) (by simpa using he)
def RdH(rT:List Nat)(L:List (Nat×AV)):List (Nat×AV)->Prop
 |[]=>True
 |p::r=>rT.contains p.1=true/\Bk L p.1=some p.2/\RdH rT L r
theorem RdH.at{rT:List Nat}{L:List (Nat×AV)}:∀{xs:List (Nat×AV)},RdH rT L xs->∀d v,Bk xs d=some v->d∈rT/\Bk L d=some v
 |[],_,d,v,h=>by cases h
 |p::r,hx,d,v,h=>by
  obtain⟨h1,h2,h3⟩:=hx;rw[show p::r=(p.1,p.2)::r from rfl,CF]at h;split at h
  ·rename_i e
   subst e;injection h with h
   subst h;exact⟨by simpa using h1,h2⟩
  ·exact RdH.at h3 d v h
theorem HC.step{q:Hv}{hs:List Hv}{V Tf:List (Nat×AV)}{Ff R:List AR}(ys:List (Nat×AV))(hx:RdH q.2.2.1 (V++q.2.2.2) ys)(k:∀T F,AOps ro P nt #[] (λex st'=>ex= .normal/\∃u R',st'.LeH ⟨BB (ys++T) q.2.1.dst u,F++R'⟩/\HC ro P nt Q Tf Ff hs (BB V q.2.1.dst u) R') [q.2.1] ⟨ys++T,F++R⟩):HC ro P nt Q Tf Ff (q::hs) V R:=by
 intro T F hT m0 a w hr
 have hin:∀d v,Bk (ys++T) d=some v->Bk T d=some v:=λd v h=>by
  rw[Ec]at h;cases hy:Bk ys d with
  |none=>rw[hy]at h;simpa using h
  |some x=>
   rw[hy]at h;have hxv:x=v:=by simpa using h
   subst hxv;obtain⟨h1,h2⟩:=hx.at d x hy;rw[hT d h1,h2]
 have hout:∀d v,Bk T d=some v->Bk (ys++T) d=some v:=λd v h=>by
  rw[Ec];cases hy:Bk ys d with
  |none=>simpa using h
  |some x=>
   obtain⟨h1,h2⟩:=hx.at d x hy;rw[hT d h1,h2]at h;simpa using h
 have h1:=k T F m0 a w (HB hr hin)
 have hcv:∀st':St,(∃u R',st'.LeH ⟨BB (ys++T) q.2.1.dst u,F++R'⟩/\HC ro P nt Q Tf Ff hs (BB V q.2.1.dst u) R')->∃u R',st'.LeH ⟨BB T q.2.1.dst u,F++R'⟩/\HC ro P nt Q Tf Ff hs (BB V q.2.1.dst u) R':=by
  rintro st' ⟨u,R',hle,hh⟩;refine⟨u,R',⟨λd v hd=>hle.T d v ?_,hle.S⟩,hh⟩;cases hdd:q.2.1.dst with
  |none=>rw[hdd]at hd;exact hout d v hd
  |some d'=>
   rw[hdd]at hd;simp only[BB,CF]at hd⊢;split
   ·rename_i e;rw[Ab e]at hd;exact hd
   ·rename_i e;rw[AI e]at hd;exact hout d v hd
 have hK:∀a w,wpListIn (FW ro) 0 P #[] (λe a' w'=>∃st':St,Rel nt m0 st' a' w' /\e= .normal/\∃u R',st'.LeH ⟨BB (ys++T) q.2.1.dst u,F++R'⟩/\HC ro P nt Q Tf Ff hs (BB V q.2.1.dst u) R') [] a w->wpListIn (FW ro) 0 P #[] (λe a' w'=>∃st':St,Rel nt m0 st' a' w' /\e= .normal/\∃u R',st'.LeH ⟨BB T q.2.1.dst u,F++R'⟩/\HC ro P nt Q Tf Ff hs (BB V q.2.1.dst u) R') [] a w:=by
  rintro a w ⟨st',h2,h3,h4⟩;exact⟨st',h2,h3,hcv st' h4⟩
 unfold wpListIn at h1⊢;by_cases hw:Region.wanted q.2.1 (yielded #[] a.tmps)=true
 ·rw[Ab hw]at h1⊢
  exact YF hK (λex a' w' ⟨st',_,hx,_⟩=>hx) h1
 ·rw[AI hw]at h1⊢
  exact⟨h1.1,hK _ _ h1.2⟩
end
end
end
section
section
variable {P:Program}{nt:Nat}{T:List (Nat×AV)}{S:List AR}{ty t k e:TypeId}{pos:String}{after:Array Edge}{d:Nat}{c:Option (List Bool)}{g:Option (Nat×Bool)}{x y:Operand}{X Y p q:Nat}{gf:Int->Option Value}{s:Nat}{z0:Value}{K:AV->Value->Prop}{v:AV}
theorem OpT.lookP{n:Int}{u:Value}[TMap P t k e z0](hv:(gf n).getD z0=u)(hn: -9223372036854775808<=n/\n<=9223372036854775807)(hone:u.oneCell'=true)(hK:K v u):
  OpT P ⟨some d,.lookup t x y false,ty,pos,after,g⟩ [(x,.mp X),(y,.prim (.int .i64 n))] [(p,(X,.ob (MapF P k e gf s))),(q,(Y,.tv K))] v []:=by
 subst hv;intro nt m0 T S a w hx hS hd hr;have h1:=OpT.lookup1 (dst:=some d) (ty:=ty) (pos:=pos) (after:=after) (g:=g) (p:=p) (x:=x) (y:=y) (X:=X) (s:=s) (gf:=gf) (TMap.h (t:=t) (z0:=z0)) (TMap.hk (t:=t) (z0:=z0)) (TMap.hz (t:=t)) (TMap.h0 (P:=P) (t:=t)) hn hone nt m0 T S a w hx (λq' hq'=>hS q' (by simp only[DC]at hq';simp[hq'])) hd hr;refine Nv ?_ h1;rintro a' w' ⟨m,N,Z,rfl,h2,h3,h4⟩;have hq:S[q]?=some (Y,AO.tv K):=hS (q,(Y,AO.tv K)) (by simp);have h2':Z.map (·.1)=S:=h2;rw[<-h2',Ac,Fb]at hq;obtain⟨⟨z,bs⟩,hz,hze⟩:=hq;have hze:z=(Y,AO.tv K):=hze;subst hze;obtain⟨_,_,hO⟩:=h3.obj _ (B0 hz);refine⟨m,N,Z,rfl,h2,h3,h4.1,h4.2.1,λe v' he=>?_⟩;simp only[BB,CF]at he;split at he
 ·rename_i e';subst e'
  injection he with he;subst he
  obtain⟨u',h5,h6⟩:=h4.2.2 e (.prim ((gf n).getD z0)) (by simp only[BB,CF,Hx]);refine⟨u',h5,?_⟩;rw[h6.prim];exact hO _ _ hK
 ·rename_i e'
  exact h4.2.2 e v' (by simp only[BB,CF,AI e'];exact he)
theorem W.lookP{n:Int}{u:Value}(v:AV)[TMap P t k e z0](hv:(gf n).getD z0=u)(hn: -9223372036854775808<=n/\n<=9223372036854775807)(hone:u.oneCell'=true)(hK:K v u)(hx:Rd c T x (.mp X))(hy:Rd c T y (.prim (.int .i64 n)))(hSp:At S p (X,.ob (MapF P k e gf s)))(hSq:At S q (Y,.tv K)):
  Stp c P ⟨some d,.lookup t x y false,ty,pos,after,g⟩ T S [(x,.mp X),(y,.prim (.int .i64 n))] [(p,(X,.ob (MapF P k e gf s))),(q,(Y,.tv K))] v []:=
 ⟨.lookP hv hn hone hK,.cons hx (.cons hy .nil),.cons hSp (.cons hSq .nil)⟩
end
end
section
variable {ro:Option Nat}
section
variable {P:Program}{ty t t' te:TypeId}{pos:String}{after:Array Edge}{g:Option (Nat×Bool)}{dst:Option Tmp}{x y z:Operand}{l:List AV}{sz:Nat}{c:Option (List Bool)}{T:List (Nat×AV)}{S:List AR}{i j:Int}{k k2:IntKind}
end
theorem gj{P:Program}{t:TypeId}(n:Nat)(h1:P.underlying t=some (.struct (P.fieldsOf t)))(h2:P.stoodInHeld t=false)(h:cH P t=true)(a b c d:Int)(w:World):(Op.equalIn (n+2) t (.agg #[.int .i64 a,.int .i64 b]) (.agg #[.int .i64 c,.int .i64 d])).run P w= .ok (decide (a=c)&&decide (b=d)) w:=by
 rw[Tg w (n+1) t _ _ h1 h2];unfold cH at h;split at h
 ·rename_i f1 f2 hf
  simp only[AH,bne_iff_ne,ne_eq,R2]at h;obtain⟨⟨⟨⟨n1,n2⟩,o1⟩,o2⟩,hu⟩:=h;split at hu
  ·rename_i k1 k2 u1 u2
   have p1:∀x y:Int,(part f1.type #[.int .i64 x,.int .i64 y] f1.offset).run P w= .ok (.int .i64 x) w:=λx y=>GQ u1 (by rw[o1];rfl) w
   have p2:∀x y:Int,(part f2.type #[.int .i64 x,.int .i64 y] f2.offset).run P w= .ok (.int .i64 y) w:=λx y=>GQ u2 (by rw[o2];rfl) w
   have q1:∀a c:Int,(Op.equalIn (n+1) f1.type (.int .i64 a) (.int .i64 c)).run P w= .ok (a==c) w:=λa c=>Gb (P:=P) w n f1.type .i64 k1 a c u1
   have q2:∀a c:Int,(Op.equalIn (n+1) f2.type (.int .i64 a) (.int .i64 c)).run P w= .ok (a==c) w:=λa c=>Gb (P:=P) w n f2.type .i64 k2 a c u2
   rw[hf];by_cases e1:a=c
   ·by_cases e2:b=d
    ·simp[Op.eqFields,n1,n2,AG,p1,p2,q1,q2,e1,e2,AF,Er,AA]
    ·simp[Op.eqFields,n1,n2,AG,p1,p2,q1,q2,e1,e2,AF,Er,AA]
   ·simp[Op.eqFields,n1,AG,p1,q1,e1,AF,Er,AA]
  ·cases hu
 ·cases h
def ev3(P:Program)(t te:TypeId):Bool:=match(P.fieldsOf t).toList with
 |[f1,f2,f3]=>f1.name != "_" &&f2.name != "_" &&f3.name != "_" &&f1.offset==0&&f2.offset==1&&f3.offset==3&&Nat.beq f2.type te&&(match P.underlying f1.type,P.underlying f3.type with|some (.int _),some (.int _)=>true|_,_=>false)
 |_=>false
end
section
section
variable {ro:Option Nat}{P:Program}{nt:Nat}{c:Code}{Q:Exit->St->Prop}{T:List (Nat×AV)}{S:List AR}{ops:Array Oper}{rest:List Oper}{as bs:List AV}
end
end
section
abbrev yA(x:UInt8):AV:=.prim (.int .u8 ((x.toNat:Nat):Int))
section
variable {P:Program}{dst:Option Tmp}{ty t ty2:TypeId}{pos:String}{after:Array Edge}{g:Option (Nat×Bool)}{T:List (Nat×AV)}{S:List AR}{c:Option (List Bool)}{x y:Operand}{i j:Int}{k k':IntKind}{a b:UInt8}{v:UInt64}
theorem Uk(a:UInt8):a.toNat<256:=a.toNat_lt
theorem iZ(n:Int):IntKind.u8.wrap n=n%256:=IntKind.wrap_u8' n
theorem je(hx:Rd c T x (yA a))(hy:Rd c T y (yA b)):Stp c P ⟨dst,.binOp .and t x y ty2,ty,pos,after,g⟩ T S [(x,yA a),(y,yA b)] [] (yA (a&&&b)) []:=by
 have h:=u8_and_nat a.toNat b.toNat (Uk a) (Uk b);rw[<-UInt8.toNat_and]at h;exact⟨.res (KV (.inl rfl)) h,.cons hx (.cons hy .nil),.nil⟩
theorem ii(hx:Rd c T x (yA a))(hy:Rd c T y (yA b)):Stp c P ⟨dst,.binOp .or t x y ty2,ty,pos,after,g⟩ T S [(x,yA a),(y,yA b)] [] (yA (a|||b)) []:=by
 have h:=u8_or_nat a.toNat b.toNat (Uk a) (Uk b);rw[<-UInt8.toNat_or]at h;exact⟨.res (KV (.inr (.inl rfl))) h,.cons hx (.cons hy .nil),.nil⟩
theorem eI(n:Nat)(hn:n<8)(hx:Rd c T x (yA a))(hy:Rd c T y (.prim (.int k' j)))(hj:j=(n:Int)):Stp c P ⟨dst,.binOp .shl t x y ty2,ty,pos,after,g⟩ T S [(x,yA a),(y,.prim (.int k' j))] [] (yA (a<<<UInt8.ofNat n)) []:=by
 have h:IntKind.u8.wrap ((a.toNat:Int)*2^n)=(((a<<<UInt8.ofNat n).toNat:Nat):Int):=by
  rw[iZ,UInt8.toNat_shiftLeft,UInt8.toNat_ofNat',show n%2^8%8=n by omega,Gn,Int.natCast_emod,ME,JV];rfl
 exact⟨.res (OpT.shl hj (by show n<=8;omega)) h,.cons hx (.cons hy .nil),.nil⟩
theorem ja(n:Nat)(hn:n<8)(hx:Rd c T x (yA a))(hy:Rd c T y (.prim (.int k' j)))(hj:j=(n:Int)):Stp c P ⟨dst,.binOp .shr t x y ty2,ty,pos,after,g⟩ T S [(x,yA a),(y,.prim (.int k' j))] [] (yA (a>>>UInt8.ofNat n)) []:=by
 have h:(a.toNat:Int).fdiv (2^n)=(((a>>>UInt8.ofNat n).toNat:Nat):Int):=by
  rw[UInt8.toNat_shiftRight,UInt8.toNat_ofNat',show n%2^8%8=n by omega,DA,Ef _ (Int.pow_nonneg (by decide)),Int.natCast_ediv,JV];rfl
 exact⟨.res (OpT.shr hj (by show n<=8;omega)) h,.cons hx (.cons hy .nil),.nil⟩
theorem Xv{t2:TypeId}(k0:IntKind)(h1:P.underlying t=some (.int k0))(h2:P.underlying t2=some (.int .u8))(hx:Rd c T x (uA v)):Stp c P ⟨dst,.convert t t2 x,ty,pos,after,g⟩ T S [(x,uA v)] [] (yA v.toUInt8) []:=by
 refine W.convW k0 .u8 _ h1 h2 ?_ hx;rw[iZ,UInt64.toNat_toUInt8];omega
theorem eG{t2:TypeId}(k0:IntKind)(h1:P.underlying t=some (.int k0))(h2:P.underlying t2=some (.int .u64))(hx:Rd c T x (yA a)):Stp c P ⟨dst,.convert t t2 x,ty,pos,after,g⟩ T S [(x,yA a)] [] (uA a.toUInt64) []:=by
 refine W.convW k0 .u64 _ h1 h2 ?_ hx;rw[NA,UInt8.toNat_toUInt64];have:=Uk a;omega
end
theorem jS(v:UInt64)(i:Nat)(h:i<64):(v>>>UInt64.ofNat i&&&1).toUInt8=(if v.toNat.testBit i then 1 else 0:UInt8):=by
 apply UInt8.toNat_inj.1;rw[UInt64.toNat_toUInt8,Gm,DP,Ax,show i%2^64%64=i by omega];have h1:(1:UInt64).toNat=1:=rfl;rw[h1,Ft]
 have h2:v.toNat.testBit i=decide (v.toNat>>>i%2=1):=by
  rw[Nat.testBit,Nat.and_comm,Ft];rcases Ee (v.toNat>>>i)with h|h<;>simp[h]
 rw[h2];rcases Ee (v.toNat>>>i)with h|h<;>simp[h]
theorem gr(a:UInt8)(i:Nat)(h:i<8):(a>>>UInt8.ofNat i&&&1).toUInt64=(if a.toNat.testBit i then 1 else 0:UInt64):=by
 apply Ds.1;rw[UInt8.toNat_toUInt64,UInt8.toNat_and,UInt8.toNat_shiftRight,UInt8.toNat_ofNat',show i%2^8%8=i by omega];have h1:(1:UInt8).toNat=1:=rfl;rw[h1,Ft]
 have h2:a.toNat.testBit i=decide (a.toNat>>>i%2=1):=by
  rw[Nat.testBit,Nat.and_comm,Ft];rcases Ee (a.toNat>>>i)with h|h<;>simp[h]
 rw[h2];rcases Ee (a.toNat>>>i)with h|h<;>simp[h]
end
section
section
variable {P:Program}{dst:Option Tmp}{ty t ty2:TypeId}{pos:String}{after:Array Edge}{g:Option (Nat×Bool)}{T:List (Nat×AV)}{S:List AR}{c:Option (List Bool)}{x y:Operand}{i j:Int}{k:IntKind}
theorem UM(a b q:Nat)(hi:i=(a:Int))(hj:j=(b:Int))(h0:0<b)(h:a%b=q)(hx:Rd c T x (.prim (.int k i)))(hy:Rd c T y (.prim (.int k j))):Stp c P ⟨dst,.binOp .rem t x y ty2,ty,pos,after,g⟩ T S [(x,.prim (.int k i)),(y,.prim (.int k j))] [] (.prim (.int k (q:Int))) []:=by
 subst hi hj;have e:((a:Int)).tmod (b:Int)=(q:Int):=by rw[<-h];rfl
 exact e▸W.rem hx hy (by omega)
theorem jb(n:Nat)(r:Int){k':IntKind}(h:i.fdiv (2^n)=r)(hj:j=(n:Int))(hn:n<=k.bits)(hx:Rd c T x (.prim (.int k i)))(hy:Rd c T y (.prim (.int k' j))):Stp c P ⟨dst,.binOp .shr t x y ty2,ty,pos,after,g⟩ T S [(x,.prim (.int k i)),(y,.prim (.int k' j))] [] (.prim (.int k r)) []:=by
 subst h;exact W.shr n hx hy hj hn
end
end
section
variable {ro:Option Nat}
section
variable {P:Program}{nt:Nat}{ops:Array Oper}{Q:Exit->St->Prop}{rest:List Oper}{T:List (Nat×AV)}{S:List AR}{ty ty2 t t2 te t':TypeId}{pos pos2:String}{after after2:Array Edge}{dst:Option Tmp}{ats:Array TypeId}{g:Option (Nat×Bool)}{x y:Operand}
theorem Ug{o:Oper}{a:Act}{w w':World}{u:Value}{K:Act->World->Prop}{Q:Exit->Act->World->Prop}(hd:∀c,o.op≠ .defer c)(hr:(execOp a.eval o).run P w= .ok (.value u) w')(hK:K (a.put o.dst u) w'):o.wpIn (FW ro) 0 P a w K Q:=by
 refine⟨λ_ _=>CZ,?_⟩;rw[show o.semAt (FW ro).round a.eval=execOp a.eval o from RJ _ _ _ hd,hr];exact hK
def gB(ls:List UInt8):List (Nat×Operand×AV):=ls.zipIdx.map λq=>(q.2,.const (.int .u8 ((q.1.toNat:Nat):Int)),yA q.1)
theorem Ua{d1 d2 n:Nat}{ar:Array (Nat×Operand)}{zl:List Value}{ag:Bool}(ls:List UInt8)(k:AOps ro P nt ops Q rest ⟨BB (BB T (some d1) .dead) (some d2) (.lst false te 1 (ls.map yA)),S⟩)[hel:TEl P t te][hze:TZe P te zl][hsz:TSize P te 1][TAg P te ag]
  (hs:P.underlying t=some (.slice te)) (he:P.underlying te=some (.int .u8)) (har:ar=((gB ls).map λq=>(q.1,q.2.1)).toArray) (hzs:zl.length=1) (hag:ag=true\/zl.length=1) (hn:n<=16777216) (h0:0<n) (hln:n=ls.length)
  (hf:Gh 1 (List.replicate n (zAV zl ag)) ((gB ls).map λq=>(q.1,q.2.2))=some (ls.map yA)) (hd1:A7 (some d1) nt=true) (hd2:A7 (some d2) nt=true):
  AOps ro P nt ops Q (⟨some d1,.buildSlice t n ar,ty,pos,after,none⟩::⟨some d2,.convert t t (.tmp d1),ty2,pos2,after2,none⟩::rest) ⟨T,S⟩:=by
 subst har;intro m0 a w hr;obtain⟨m,N,Z,rfl,h2,h3,h4⟩:=hr;obtain⟨i,zv,hi,hzv,hzl,ho⟩:=Kd hze.h;obtain hisz:i.size=1:=by simpa[tSz,hi]using hsz.h
 have hzvs:zv.cells.size=i.size:=by rw[hisz,<-hzs,<-hzl];simp
 have hzc:=Jp m ho hag;have hzw:(zAV zl ag).width=1:=by rw[<-VC.len _ hzc,hzs]
 have hcl:((Array.range (n*i.size)).map (zv.cells[· %zv.cells.size]!)).toList=(List.replicate n zl).flatten:=by
  rw[<-hzvs,Ij,hzl]
 obtain⟨cells',c1,c2,c3,c4⟩:=Qh m a.eval (sz:=1) (gB ls) (List.replicate n (zAV zl ag)) (ls.map yA) ((Array.range (n*i.size)).map (zv.cells[· %zv.cells.size]!)) (λe he=>by rw[Do he,hzw]) (by rw[hcl];exact Fp m hzc n) (λq hq=>by
  obtain⟨q0,_,rfl⟩:=Ag.1 hq;exact Cj _) hf
 have hcs:cells'.size=n:=by have:=VCs.len _ c2;rw[D2 c4,AD,<-hln]at this;simpa using this
 have hrun:=run_buildSlice (P:=P) m.w t te n (((gB ls).map λq=>(q.1,a.eval q.2.1)).toArray) cells' i zv (C3 hel.h) hi hzv (by rw[hisz,Nat.mul_one];omega) (by rw[hisz,Nat.mul_one];omega) (by rw[hisz];simpa[hisz]using c1);refine HF rfl λK hK=>Ug (w':=m.w.alloc (.cells cells' te)) (u:=.slice (some ⟨m.w.heap.size,0,none⟩) n n) (by simp) ?_ ?_
 ·simp only[execOp,Ea,Ch,AG]
  rw[show((λx:Nat×Operand=>(x.1,a.eval x.2))∘λq:Nat×Operand×AV=>(q.1,q.2.1))=λq=>(q.1,a.eval q.2.1)from rfl,hrun];simp[AF,AA]
 ·refine hK _ _ ?_
  have hev:(a.put (some d1) (.slice (some ⟨m.w.heap.size,0,none⟩) n n)).eval (.tmp d1)= .slice (some ⟨m.w.heap.size,0,none⟩) n n:=by
   have hlt:d1<nt:=DT hd1 d1 rfl;have h5:a.tmps.size=nt:=h4.1;simp[Act.put,Act.eval,h5,hlt]
  refine HF rfl λK2 hK2=>Ug (w':=m.w.alloc (.cells cells' te (cells'.size,cells'.size+1))) (u:=.slice (some ⟨m.w.heap.size,0,none⟩) n n) (by simp) ?_ ?_
  ·simp only[execOp,hev,AG,Lib.run_convert_bytes_const m.w t te cells' n n hs he,AA,AF]
  ·refine hK2 _ _ ?_
   obtain⟨G,hle⟩:=h3.newFrz (.cells cells' te (cells'.size,cells'.size+1)) _ rfl;refine k m0 _ _ ⟨_,N,Z,rfl,h2,G,((h4.mono hle).put (DT hd1) ?_).put (DT hd2) ?_⟩
   ·exact rfl
   ·refine⟨rfl,some ⟨m.w.heap.size,0,none⟩,n,by rw[AD,<-hln],by rw[AD,<-hln];exact AT _,c4,λ_=>⟨m.w.heap.size,0,cells',te,(cells'.size,cells'.size+1),rfl,.inr rfl,?_,?_⟩⟩
    ·show(m.w.heap.push _)[m.w.heap.size]?=_
     simp
    ·rw[B7,Aj (by rw[AD,<-hln];simp[hcs])]
     exact VCs.mono hle (ls.map yA) (λb hb=>by cases hb) c2
theorem OpT.bytesStrA{bs:List UInt8}(hs:P.underlying t=some (.slice te))(he:P.underlying te=some (.int .u8))(hd:P.underlying t2=some .string):OpT P ⟨dst,.convert t t2 x,ty,pos,after,g⟩ [(x,.lst false t' 1 (bs.map yA))] [] (.prim (Fx bs)) []:=by
 by_cases h0:0<bs.length
 ·exact .bytesStr hs he hd h0
 ·obtain rfl:bs=[]:=CP (by omega)
  refine .pure_ λm a hx _=>?_
  obtain⟨_,A,cap,e1,_⟩:=hx (x,.lst false t' 1 (([]:List UInt8).map yA)) (by simp);injection e1 with e1
  refine⟨.string ⟨([]:List UInt8).toArray⟩,?_,Cj _⟩;have hl:(loadCells ⟨0,0,none⟩ 0).run P m.w= .ok #[] m.w:=by have:=HU (P:=P) m.w ⟨0,0,none⟩ [] (λj v hj=>by cases hj);simpa using this
  cases A with
  |none=>
   simp only[execOp,show a.eval x=_ from e1,AG,run_convert_bytes_string m.w t t2 te _ _ _ hs he hd];simp[Conv.bytesToString,AF,AA];rfl
  |some A=>
   have hl:(loadCells A 0).run P m.w= .ok #[] m.w:=by have:=HU (P:=P) m.w A [] (λj v hj=>by cases hj);simpa using this
   simp only[execOp,show a.eval x=_ from e1,AG,run_convert_bytes_string m.w t t2 te _ _ _ hs he hd,run_bytesToString m.w A 0 cap [] (by simpa using hl),CO,D5,AA,AF];rfl
theorem W.bytesStrA{c:Option (List Bool)}(bs:List UInt8)(hs:P.underlying t=some (.slice te))(he:P.underlying te=some (.int .u8))(hd:P.underlying t2=some .string)(hx:Rd c T x (.lst false t' 1 (bs.map yA))):Stp c P ⟨dst,.convert t t2 x,ty,pos,after,g⟩ T S [(x,.lst false t' 1 (bs.map yA))] [] (.prim (Fx bs)) []:=
 ⟨.bytesStrA hs he hd,.cons hx .nil,.nil⟩
theorem V1(ls:List UInt8):Lib.bytesOf (ls.map λb=>((b.toNat:Nat):Int))=ls:=by
 unfold Lib.bytesOf;rw[Ch];refine(EF λb _=>?_).trans (List.map_id ls);simp
theorem OpT.idxByte{f:FuncId}{fn:Func}{ls:List UInt8}{c:UInt8}(hf:P.funcs[f]?=some fn)(hname:(fn.name== "runtime.NumGoroutine")=false)(hb:fn.body.isNone=true)(hn:Extern.findNext fn=none)(he:Extern.find fn=some Extern.BytealgIndexByte.indexByte)(h0:0<ls.length):
  OpT P ⟨dst,.call ⟨.value (.func f),#[x,y],ats⟩,ty,pos,after,g⟩ [(x,.lst false t' 1 (ls.map yA)),(y,yA c)] [] (.prim (.int .i64 (Lib.indexByte ls c))) []:=
 .pure_ λm a hx _=>by
  obtain⟨_,A,cap,e1,hlc,hw,hr⟩:=hx (x,.lst false t' 1 (ls.map yA)) (by simp);injection e1 with e1
  have e2:=(hx (y,yA c) (by simp)).prim;simp only at e2;rw[AD]at e1 hr;obtain⟨b,off,arr,tt,r,rfl,hF,hb',hv⟩:=hr h0
  have hcells:(arr.toList.drop off).take (ls.length*1)=(ls.map λb=>((b.toNat:Nat):Int)).map (Value.int .u8):=by
   have h2:=(VCs.prims (us:=(ls.map λb=>((b.toNat:Nat):Int)).map (Value.int .u8)) (by rw[Ch,Ch];exact hv)).1;exact h2
  have hidx:=Lib.run_indexByteSlice (P:=P) m.w b off ls.length cap (ls.map λb=>((b.toNat:Nat):Int)) (by rw[AD]) (λi hi=>by
   have:((arr.toList.drop off).take (ls.length*1))[i]?=some (.int .u8 ((ls.map λb=>((b.toNat:Nat):Int)).getD i 0)):=by
    rw[hcells,Ac,Ct,AX (by simpa using hi)];rfl
   rw[C5,Ab (by omega),C6]at this;simp only[World.cell?,hb'];simpa using this) ((c.toNat:Nat):Int)
  refine⟨_,?_,Cj _⟩;rw[V1]at hidx;have hcc:(((c.toNat:Nat):Int).toNat.toUInt8)=c:=by simp
  rw[hcc]at hidx;have:=run_callFunc_extern hf hname hb hn he #[.slice (some ⟨b,off,none⟩) ls.length cap,.int .u8 ((c.toNat:Nat):Int)] m.w;rw[hidx,AA]at this;have hev:a.eval (.func f)= .func (.func f) #[] #[]:=rfl
  have hex:(execOp a.eval ⟨dst,.call ⟨.value (.func f),#[x,y],ats⟩,ty,pos,after,g⟩).run P m.w=(callFunc f #[a.eval x,a.eval y]).run P m.w:=by
   simp[execOp,resolve,Deferred.ofValue,invoke,hev,AG,AF,AA]
  rw[hex,show a.eval x=_ from e1,e2];exact this
theorem W.idxByte{c0:Option (List Bool)}{f:FuncId}(fn:Func)(ls:List UInt8)(c:UInt8)(hf:P.funcs[f]?=some fn)(hname:(fn.name== "runtime.NumGoroutine")=false)(hb:fn.body.isNone=true)(hn:Extern.findNext fn=none)(he:Extern.find fn=some Extern.BytealgIndexByte.indexByte)(h0:0<ls.length)(hx:Rd c0 T x (.lst false t' 1 (ls.map yA)))(hy:Rd c0 T y (yA c)):
  Stp c0 P ⟨dst,.call ⟨.value (.func f),#[x,y],ats⟩,ty,pos,after,g⟩ T S [(x,.lst false t' 1 (ls.map yA)),(y,yA c)] [] (.prim (.int .i64 (Lib.indexByte ls c))) []:=⟨.idxByte hf hname hb hn he h0,.cons hx (.cons hy .nil),.nil⟩
end
end
section
variable {ro:Option Nat}
section
variable {P:Program}{nt:Nat}{ops:Array Oper}{Q:Exit->St->Prop}{rest:List Oper}{T:List (Nat×AV)}{S:List AR}{f:FuncId}{x0 x1 x2 x3:Operand}{v0 v1 v2 v3 r v:AV}{dst:Option Tmp}{ats:Array TypeId}{ty:TypeId}{pos:String}{after:Array Edge}{p1:Nat}{z1:AR}{y1:Nat->AR}
theorem WL(h:Spec P f [v0] [z1] λr' S'=>∃b:Nat,r'=r/\S'=[y1 b])[hf:Frz r v](k:∀b:Nat,AOps ro P nt ops Q rest ⟨BB T dst v,BA S [(p1,y1 b)]⟩)
  (a1:At S p1 z1:=by exact Az) (hnd:EL [p1]=true:=by rfl) (h0:Rd none T x0 v0:=by rfl) (ht:Bi [(x0,v0)]=true:=by rfl) (hd:A7 dst nt=true:=by rfl):
  AOps ro P nt ops Q (⟨dst,.call ⟨.value (.func f),#[x0],ats⟩,ty,pos,after,none⟩::rest) ⟨T,S⟩:=
 Et (xs:=[(x0,v0)]) (C:=λ_=>True) (rr:=λ_=>r) (vv:=λ_=>v) (So:=λb=>[y1 b]) (nw:=λ_=>[]) (gs:=[]) (rS:=[(p1,z1)]) (wE:=λb=>[(p1,y1 b)])
  (h.mono λr' S' ⟨b,e1,e2⟩=>⟨b,CZ,e1,e2⟩) (λ_=>.fz) (λ_=>rfl) (λb=>.cons a1 .nil) (Dk hnd) rfl (.cons a1 .nil) (.cons h0 .nil) ht hd (λb _=>k b)
end
end
theorem JA{A B:Prop} (k:B) (h:Hd B->A:=by (intro b;refine FL ?_;refine R1 ?_;refine FL ?_;exact b.h)):A:=h ⟨k⟩
theorem JB{A B:Prop} (k:B) (h:Hd B->A:=by (intro b;refine WO ?_;refine NL ?_;exact b.h)):A:=h ⟨k⟩
theorem JC{A B:Prop} (k:B) (h:Hd B->A:=by (intro b;refine KK ?_;refine RT ?_;exact b.h)):A:=h ⟨k⟩
theorem JD{A B:Prop} (k:B) (h:Hd B->A:=by (intro b;refine FL ?_;refine RG ?_;exact b.h)):A:=h ⟨k⟩
theorem JE{A B:Prop} (k:B) (h:Hd B->A:=by (intro b;refine KO ?_;refine NL ?_;exact b.h)):A:=h ⟨k⟩
theorem JF{A B:Prop} (k:B) (h:Hd B->A:=by (intro b;refine FL ?_;refine R1 ?_;exact b.h)):A:=h ⟨k⟩
theorem JG{A B:Prop} (k:B) (h:Hd B->A:=by (intro b;refine RG ?_;refine WO ?_;exact b.h)):A:=h ⟨k⟩
theorem JH{A B:Prop} (k:B) (h:Hd B->A:=by (intro b;refine R1 ?_;refine FL ?_;exact b.h)):A:=h ⟨k⟩
theorem JI{A B:Prop} (k:B) (h:Hd B->A:=by (intro b;refine JD ?_;refine WO ?_;exact b.h)):A:=h ⟨k⟩
theorem JJ{A B:Prop} (k:B) (h:Hd B->A:=by (intro b;refine RG ?_;refine KO ?_;exact b.h)):A:=h ⟨k⟩
theorem JK{A B:Prop} (k:B) (h:Hd B->A:=by (intro b;refine RK ?_;refine RK ?_;exact b.h)):A:=h ⟨k⟩
theorem JL{A B:Prop} (k:B) (h:Hd B->A:=by (intro b;refine JD ?_;refine KO ?_;exact b.h)):A:=h ⟨k⟩
theorem JM{A B:Prop} (k:B) (h:Hd B->A:=by (intro b;refine JF ?_;refine RT ?_;exact b.h)):A:=h ⟨k⟩
theorem JN{A B:Prop} (k:B) (h:Hd B->A:=by (intro b;refine RU ?_;refine KR ?_;exact b.h)):A:=h ⟨k⟩
theorem Ics.s{B:AV->AV->Prop}{a:AV}{as bs:List AV}(k:Ics B as bs):Ics B (a::as) (a::bs):=.cons .same k
theorem CCs.s{S S':List AR}{a:AV}{as bs:List AV}(k:CCs S as bs S'):CCs S (a::as) (a::bs) S':=.cons .same k
theorem CCs.r{S:List AR}:{as:List AV}->CCs S as as S
 |[]=>.nil
 |_::_=>.cons .same CCs.r
theorem Ics.r{B:AV->AV->Prop}:{as:List AV}->Ics B as as
 |[]=>.nil
 |_::_=>.cons .same Ics.r
end Go.Proofs.YtmkahplhnbbgmaaGreat
