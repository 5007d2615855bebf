/-
  Part 5 of the texts under the law WorldOwn: the layer of abstract values, walks and plain laws. Conditions: those that each theorem names.
-/
import Derived.Sort.AssemblyPlain
import Derived.Test.YtmkahplhnbbgmaaGreatWorldOwnP4
namespace Go.Proofs.YtmkahplhnbbgmaaGreat
open Tryz
set_option linter.unusedVariables false
set_option linter.unusedSimpArgs false
set_option linter.defProp false
set_option maxRecDepth 10000
set_option maxHeartbeats 4000000
variable {ks:List Kind}
variable {k:Int}
variable {i:Nat}
variable {l:List Comp}
variable {c:Comp}
variable {it:Item}
variable {w:Wd}
variable {α:Type}
theorem FZ:∀{l:List Comp} {last:Int},-1<=last->(Dv ks last l=true↔l.Pairwise (λa b=>a.kind<b.kind)/\∀c∈l,last<c.kind/\c.kind<ks.length/\∃k,ks[c.kind.toNat]?=some k/\Df k c.vals=true)
 |[],_,_=>by simp[Dv]
 |c::l,last,hl=>by
  rw[Dv];constructor
  ·intro h
   split at h
   ·rename_i k hk
    simp only[AE,As]at h;obtain⟨⟨⟨h1,h2⟩,h3⟩,h4⟩:=h;obtain⟨h5,h6⟩:=(FZ (by omega)).1 h4;refine⟨BD.2 ⟨λd hd=>(h6 d hd).1,h5⟩,λd hd=>?_⟩;rcases AW.1 hd with rfl|hd
    ·exact⟨h1,h2,k,hk,h3⟩
    ·obtain⟨q1,q2⟩:=h6 d hd
     exact⟨by omega,q2⟩
   ·cases h
  ·rintro⟨h1,h2⟩
   obtain⟨h3,h4⟩:=BD.1 h1;obtain⟨h5,h6,k,hk,h7⟩:=h2 c (by simp);rw[hk];simp only[AE,As];exact⟨⟨⟨h5,h6⟩,h7⟩,(FZ (by omega)).2 ⟨h4,λd hd=>⟨h3 d hd,(h2 d (by simp[hd])).2⟩⟩⟩
theorem GG{gens:List Int}:∀{l:List Item} {last:Int},-1<=last->(C7 ks gens last l=true↔l.Pairwise (λa b=>a.ent.n<b.ent.n)/\∀it∈l,last<it.ent.n/\it.ent.n<gens.length/\gens[it.ent.n.toNat]?=some it.ent.gen/\it.ent.gen≠1073741824/\Dk ks it.comps=true)
 |[],_,_=>by simp[C7]
 |c::l,last,hl=>by
  rw[C7];constructor
  ·intro h
   split at h
   ·rename_i k hk
    simp only[AE,As,Du,Aq]at h;obtain⟨⟨⟨⟨⟨h1,h2⟩,h3⟩,h4⟩,h7⟩,h8⟩:=h;obtain⟨h5,h6⟩:=(GG (by omega)).1 h8;refine⟨BD.2 ⟨λd hd=>(h6 d hd).1,h5⟩,λd hd=>?_⟩;rcases AW.1 hd with rfl|hd
    ·exact⟨h1,h2,by rw[hk,h3],h4,h7⟩
    ·obtain⟨q1,q2⟩:=h6 d hd
     exact⟨by omega,q2⟩
   ·cases h
  ·rintro⟨h1,h2⟩
   obtain⟨h3,h4⟩:=BD.1 h1;obtain⟨h5,h6,hk,h7,h8⟩:=h2 c (by simp);rw[hk];simp only[AE,As,Du,Aq];exact⟨⟨⟨⟨⟨h5,h6⟩,C9⟩,h7⟩,h8⟩,(GG (by omega)).2 ⟨h4,λd hd=>⟨h3 d hd,(h2 d (by simp[hd])).2⟩⟩⟩
structure WdOK(w:Wd):Prop where
 ks:CL w.kinds=0
 gl:w.gens.length<=256
 il:w.items.length<=w.gens.length
 gs:∀g∈w.gens,0<=g/\g<=1073741824
 so:w.items.Pairwise λa b=>a.ent.n<b.ent.n
 it:∀it∈w.items,0<=it.ent.n/\it.ent.n<w.gens.length/\w.gens[it.ent.n.toNat]?=some it.ent.gen/\it.ent.gen≠1073741824/\Dk w.kinds it.comps=true
theorem EP(w:Wd):ET w=0↔WdOK w:=by
 have hg:IN w.gens=true↔∀g∈w.gens,0<=g/\g<=1073741824:=by
  unfold IN;rw[Cl];simp only[AE,As]
 have hi:=GG (ks:=w.kinds) (gens:=w.gens) (l:=w.items) (last:=-1) (by omega);unfold ET;constructor
 ·intro h
  split at h
  ·exact absurd h ‹_›
  rename_i h1;split at h
  ·cases h
  rename_i h2;split at h
  ·cases h
  rename_i h3;split at h
  ·cases h
  rename_i h4;obtain⟨h5,h6⟩:=hi.1 (by simpa using h4);exact⟨by simpa using h1,by omega,by omega,hg.1 (by simpa using h3),h5,λit hit=>by obtain⟨a,b⟩:=h6 it hit;exact⟨by omega,b⟩⟩
 ·intro h
  rw[Ah (by simp[h.ks]),Ah (by have:=h.gl;have:=h.il;omega),Ah (by rw[hg.2 h.gs];simp),Ah (by rw[hi.2 ⟨h.so,λit hit=>by obtain⟨a,b⟩:=h.it it hit;exact⟨by omega,b⟩⟩];simp)]
theorem S3(ks:List Kind)(l:List Int)(i:Nat):(cAt ks l i).1.Pairwise λa b=>a.kind<b.kind:=by
 induction i with
 |zero=>exact .nil
 |succ i ih=>
  by_cases hi:i<ks.length
  ·by_cases h2:Bn (cAt ks l i).2 3=2
   ·rw[Nj hi h2];exact ih
   ·rw[Ni hi h2]
    refine Dh.2 ⟨ih,Fz ..,λa ha b hb=>?_⟩;rw[AS.1 hb];obtain⟨j,hj,q,hji,rfl⟩:=Qb ha;show(j:Int)<i
    omega
  ·rw[cAt,Bk (by omega)];exact ih
theorem QG{fs:List Field}(hf:∀f∈fs,BI f=0)(hr:∀f∈fs,Fc f)(l:List Int):∀i,i<=fs.length->List.zipWith Cs (fs.take i) (vAt fs l i).1=(vAt fs l i).1/\(vAt fs l i).1.length=i
 |0,_=>⟨rfl,rfl⟩
 |i+1,h=>by
  obtain⟨h1,h2⟩:=QG hf hr l i (by omega);rw[N6 (by omega)];have hm:=BG (l:=fs) (n:=i) (by omega);obtain⟨hb0,hb1,_,_⟩:=hr _ hm;have hp:=Mb (b:=fs[i].bits.toNat) (by omega);have hv:=BY (vAt fs l i).2 (n:=2^fs[i].bits.toNat) (by omega);have hh:E1 fs[i]=fs[i].low+(2^fs[i].bits.toNat-1):=by unfold E1;rw[A1 (hf _ hm)]
  refine⟨?_,by rw[Ax,h2];rfl⟩;rw[Bt (by omega),List.zipWith_append (by rw[h2,BA];omega),h1];simp only[List.zipWith_cons_cons,List.zipWith_nil_left];rw[QO (hf _ hm) (by omega) (by rw[hh];omega)]
theorem Qo{k:Kind}(h1:CD k=0)(hf:∀f∈k.fields,BI f=0)(hr:∀f∈k.fields,Fc f)(l:List Int):Df k (vAt k.fields l k.fields.length).1=true:=by
 obtain⟨h2,h3⟩:=QG hf hr l k.fields.length (AP _);rw[DJ]at h2;unfold Df;rw[LC h1 h3,h2];simp
structure KsGood(ks:List Kind):Prop where
 one:∀k∈ks,CD k=0
 fld:∀k∈ks,∀f∈k.fields,BI f=0
 rng:∀k∈ks,∀f∈k.fields,Fc f
theorem MG(l:List Int):KsGood (BN l).1:=
 ⟨Jo l,λk hk=>(J9 l k hk).1,λk hk=>((It l).2 k hk).2⟩
theorem MH(h:KsGood ks)(l:List Int):Dk ks (Em ks l).1=true:=by
 unfold Dk;rw[FZ (by omega)];refine⟨S3 _ _ _,λc hc=>?_⟩;obtain⟨j,hj,q,_,rfl⟩:=Qb hc;have hm:=BG hj;exact⟨by show(-1:Int)<(j:Int);omega,by show(j:Int)<_;omega,ks[j],Ag hj,Qo (h.one _ hm) (h.fld _ hm) (h.rng _ hm) q⟩
theorem R5(ks:List Kind)(l:List Int)(i:Nat):(wAt ks l i).2.1.Pairwise λa b=>a.ent.n<b.ent.n:=by
 induction i with
 |zero=>exact .nil
 |succ i ih=>
  rw[wAt];split
  ·exact ih
  ·refine Dh.2 ⟨ih,Fz ..,λa ha b hb=>?_⟩
   rw[AS.1 hb];obtain⟨j,q,hji,_,e,_⟩:=QF ha;show a.ent.n<(i:Int)
   omega
theorem R6(ks:List Kind)(l:List Int)(i:Nat):∀g∈(wAt ks l i).1,0<=g/\g<3:=by
 induction i with
 |zero=>intro g hg;cases hg
 |succ i ih=>
  intro g hg;rw[wAt]at hg;have h3:=BY (wAt ks l i).2.2 (n:=3) (by decide);split at hg<;>
  ·rcases AN.1 hg with hg|hg
   ·exact ih g hg
   ·rw[AS.1 hg];exact h3
theorem Oc(l:List Int):WdOK (Fo l):=by
 have h:=BY (BN l).2 (n:=12) (by decide);have h1:=N5 (BN l).1 (BW (BN l).2 12) (Bn (BN l).2 12).toNat;have h2:=KV (BN l).1 (BW (BN l).2 12) (Bn (BN l).2 12).toNat;have h3:=R6 (BN l).1 (BW (BN l).2 12) (Bn (BN l).2 12).toNat;refine⟨K9 l,?_,?_,λg hg=>?_,R5 _ _ _,λit hit=>?_⟩
 ·exact CT (Nat.le_of_eq h2) (by omega)
 ·exact CT h1 (Nat.le_of_eq h2.symm)
 ·have:=h3 g hg;omega
 ·obtain⟨j,q,hji,hg,hn,hc⟩:=QF hit
  have hjl:j<(wAt (BN l).1 (BW (BN l).2 12) (Bn (BN l).2 12).toNat).1.length:=(AC.1 hg).1;have hgm:=h3 _ (Bc hg);refine⟨by omega,?_,?_,by omega,by rw[hc];exact MH (MG l) q⟩
  ·rw[hn];show(j:Int)<((wAt _ _ _).1.length:Int);omega
  ·rw[hn];exact hg
section
section
variable {α:Type}{key:α->Int}{l a b:List α}
def KS(key:α->Int)(l:List α):Prop:=l.Pairwise λa b=>key a<key b
theorem QR(h:KS key l){x y:α}(hx:x∈l)(hy:y∈l)(e:key x=key y):x=y:=by
 induction l with
 |nil=>cases hx
 |cons z l ih=>
  obtain⟨h1,h2⟩:=BD.1 h;rcases AW.1 hx with q|q<;>rcases AW.1 hy with r|r
  ·rw[q,r]
  ·subst q;have:=h1 y r;omega
  ·subst r;have:=h1 x q;omega
  ·exact ih h2 q r
theorem SF{y:α}(hi:l[i]?=some y):l=l.take i++y::l.drop (i+1):=by
 obtain⟨h,rfl⟩:=AC.1 hi;rw[<-DE h,Bi]
theorem OR{y:α}(h:KS key l)(hi:l[i]?=some y):KS key (l.take i)/\KS key (l.drop (i+1))/\(∀x∈l.take i,key x<key y)/\(∀x∈l.drop (i+1),key y<key x)/\∀x,x∈l↔x∈l.take i\/x=y\/x∈l.drop (i+1):=by
 have e:=SF hi;have h':=h;rw[e]at h';obtain⟨h1,h2,h3⟩:=Dh.1 h';obtain⟨h4,h5⟩:=BD.1 h2;refine⟨h1,h5,λx hx=>h3 x hx y (by simp),h4,λx=>?_⟩
 conv=>lhs;rw[e]
 simp
theorem SW{y:α}(h:KS key l)(hi:l[i]?=some y):KS key (l.eraseIdx i)/\∀x,x∈l.eraseIdx i↔x∈l/\key x≠key y:=by
 obtain⟨h1,h2,h3,h4,h5⟩:=OR h hi;refine⟨h.sublist (List.eraseIdx_sublist _ _),λx=>?_⟩;rw[EO,FH,h5];constructor
 ·rintro(hx|hx)
  ·exact⟨.inl hx,by have:=h3 x hx;omega⟩
  ·exact⟨.inr (.inr hx),by have:=h4 x hx;omega⟩
 ·rintro⟨hx|rfl|hx,hn⟩
  ·exact .inl hx
  ·exact absurd rfl hn
  ·exact .inr hx
theorem VQ{y z:α}(h:KS key l)(hi:l[i]?=some y)(hk:key z=key y):KS key (l.set i z)/\∀x,x∈l.set i z↔x=z\/(x∈l/\key x≠key z):=by
 obtain⟨h1,h2,h3,h4,h5⟩:=OR h hi;obtain⟨hl,_⟩:=AC.1 hi;have e:l.set i z=l.take i++z::l.drop (i+1):=List.set_eq_take_append_cons_drop.trans (A1 hl);rw[e];refine⟨Dh.2 ⟨h1,BD.2 ⟨λx hx=>by have:=h4 x hx;omega,h2⟩,λx hx w hw=>?_⟩,λx=>?_⟩
 ·rcases AW.1 hw with rfl|hw
  ·have:=h3 x hx;omega
  ·have:=h3 x hx;have:=h4 w hw;omega
 ·rw[h5,FH,Cq]
  constructor
  ·rintro(hx|rfl|hx)
   ·exact .inr ⟨.inl hx,by have:=h3 x hx;omega⟩
   ·exact .inl rfl
   ·exact .inr ⟨.inr (.inr hx),by have:=h4 x hx;omega⟩
  ·rintro(rfl|⟨hx|rfl|hx,hn⟩)
   ·exact .inr (.inl rfl)
   ·exact .inl hx
   ·exact absurd hk.symm hn
   ·exact .inr (.inr hx)
end
theorem held_iff:Dk ks l=true↔FT l/\∀c∈l,0<=c.kind/\c.kind<ks.length/\∃k,ks[c.kind.toNat]?=some k/\Df k c.vals=true:=by
 unfold Dk;rw[FZ (by omega)];constructor
 ·rintro⟨h1,h2⟩
  exact⟨h1,λc hc=>⟨by have:=(h2 c hc).1;omega,(h2 c hc).2⟩⟩
 ·rintro⟨h1,h2⟩
  exact⟨h1,λc hc=>⟨by have:=(h2 c hc).1;omega,(h2 c hc).2⟩⟩
theorem K3:∀{l:List Comp},FT l->∀d,d∈Ev l c↔d=c\/(d∈l/\d.kind≠c.kind)
 |[],_,d=>by simp[Ev]
 |x::l,h,d=>by
  obtain⟨h1,h2⟩:=BD.1 h;rw[Ev];split
  ·rename_i hx
   rw[Cq,K3 h2,Cq];constructor
   ·rintro(rfl|rfl|⟨hd,hn⟩)
    ·exact .inr ⟨.inl rfl,by omega⟩
    ·exact .inl rfl
    ·exact .inr ⟨.inr hd,hn⟩
   ·rintro(rfl|⟨rfl|hd,hn⟩)
    ·exact .inr (.inl rfl)
    ·exact .inl rfl
    ·exact .inr (.inr ⟨hd,hn⟩)
  ·split
   ·rename_i hx
    rw[Cq,Cq];constructor
    ·rintro(rfl|hd)
     ·exact .inl rfl
     ·exact .inr ⟨.inr hd,by have:=h1 d hd;omega⟩
    ·rintro(rfl|⟨rfl|hd,hn⟩)
     ·exact .inl rfl
     ·exact absurd hx hn
     ·exact .inr hd
   ·rw[Cq,Cq]
    constructor
    ·rintro(rfl|rfl|hd)
     ·exact .inl rfl
     ·exact .inr ⟨.inl rfl,by omega⟩
     ·exact .inr ⟨.inr hd,by have:=h1 d hd;omega⟩
    ·rintro(rfl|⟨hd,hn⟩)
     ·exact .inl rfl
     ·exact .inr hd
theorem Ml:∀{l:List Comp},FT l->FT (Ev l c)
 |[],_=>Fz ..
 |x::l,h=>by
  obtain⟨h1,h2⟩:=BD.1 h;rw[Ev];split
  ·rename_i hx
   refine BD.2 ⟨λd hd=>?_,Ml h2⟩;rcases(K3 h2 d).1 hd with rfl|⟨hd,_⟩
   ·exact hx
   ·exact h1 d hd
  ·split
   ·rename_i hx
    exact BD.2 ⟨λd hd=>by have:=h1 d hd;omega,h2⟩
   ·refine BD.2 ⟨λd hd=>?_,h⟩
    rcases AW.1 hd with rfl|hd
    ·omega
    ·have:=h1 d hd;omega
theorem RX(d:Comp):d∈EI l k↔d∈l/\d.kind≠k:=by
 unfold EI;rw[Dw];simp
theorem Pt(h:FT l):FT (EI l k):=List.Pairwise.filter _ h
theorem Sh(h:Dk ks l=true)(h1:0<=c.kind)(h2:c.kind<ks.length){k:Kind}(h3:ks[c.kind.toNat]?=some k)(h4:Df k c.vals=true):Dk ks (Ev l c)=true:=by
 obtain⟨hs,hm⟩:=held_iff.1 h;refine held_iff.2 ⟨Ml hs,λd hd=>?_⟩;rcases(K3 hs d).1 hd with rfl|⟨hd,_⟩
 ·exact⟨h1,h2,k,h3,h4⟩
 ·exact hm d hd
theorem RL(h:Dk ks l=true):Dk ks (EI l k)=true:=by
 obtain⟨hs,hm⟩:=held_iff.1 h;exact held_iff.2 ⟨Pt hs,λd hd=>hm d ((RX d).1 hd).1⟩
theorem NT{pre ks:List Kind}(h:Cu pre ks=0):∀k∈ks,CD k=0:=by
 induction ks generalizing pre with
 |nil=>intro k hk;cases hk
 |cons x l ih=>
  intro k hk;simp only[Cu]at h;split at h
  ·exact absurd h ‹_›
  ·rename_i hx
   split at h
   ·cases h
   ·rcases AW.1 hk with rfl|hk
    ·simpa using hx
    ·exact ih h k hk
theorem DP(h:CL ks=0):ks.length<=16/\∀k∈ks,CD k=0:=by
 unfold CL at h;split at h
 ·cases h
 ·exact⟨by omega,NT h⟩
def Po(ks:List Kind)(c:Comp):Comp:=match ks[c.kind.toNat]? with
 |some k=>⟨c.kind,(Ce k c.vals).1⟩
 |none=>c
theorem JT(ks:List Kind)(c:Comp):(Po ks c).kind=c.kind:=by unfold Po;split<;>rfl
def TK(ks:List Kind)(c:Comp):Prop:=0<=c.kind/\c.kind<ks.length/\∃k,ks[c.kind.toNat]?=some k/\(Ce k c.vals).2=0
theorem QY{k:Kind}(h:ks[c.kind.toNat]?=some k):Po ks c=⟨c.kind,(Ce k c.vals).1⟩:=by
 unfold Po;rw[h]
theorem JP{k:Kind}{v:List Int}(h:Df k v=true):Ce k v=(v,0):=by
 unfold Df at h;simp only[AE,As]at h;exact Prod.ext h.2 h.1
theorem HK{k:Kind}{v:List Int}(h:(Ce k v).2=0):Df k (Ce k v).1=true/\(Ce k v).1=List.zipWith Cs k.fields v/\v.length=k.fields.length:=by
 unfold Ce at h⊢;split at h
 ·exact absurd h ‹_›
 ·rename_i h1
  have h1:CD k=0:=by simpa using h1
  split at h
  ·cases h
  ·rename_i h2
   have h2:v.length=k.fields.length:=by simpa using h2
   rw[Ah (by simp[h1]),Ah (by simp[h2])];refine⟨?_,rfl,h2⟩;unfold Df;rw[LC h1 (by simp[h2]),Q8 (EF h1).2.2];simp
theorem Pn(h:TK ks c):∃k,ks[(Po ks c).kind.toNat]?=some k/\Df k (Po ks c).vals=true:=by
 obtain⟨_,_,k,hk,hf⟩:=h;refine⟨k,by rw[JT];exact hk,?_⟩;rw[QY hk];exact(HK hf).1
def O5(l:List Item):Prop:=KS (λit=>it.ent.n) l
theorem LE{l:List Item}(h:O5 l)(hi:l[i]?=some it):Dg l it.ent=i:=by
 by_cases hn:Dg l it.ent<0
 ·have:=LD hn
  rw[IZ]at this;exact absurd (by simp) (this it (Bc hi))
 ·obtain⟨n,hn⟩:∃n:Nat,Dg l it.ent=n:=⟨(Dg l it.ent).toNat,by omega⟩
  obtain⟨x,hx,_,e⟩:=Gk hn;rw[hn];have e2:=QR h (Bc hx) (Bc hi) (by rw[e]);subst e2;obtain⟨a,ha⟩:=AC.1 hx;obtain⟨b,hb⟩:=AC.1 hi;have hp:=B3.1 h;rcases Ex n i with q|q|q
  ·have:=hp n i a b q;rw[ha,hb]at this;omega
  ·rw[q]
  ·have:=hp i n b a q;rw[ha,hb]at this;omega
theorem IE(hi:w.items[i]?=some it)(cs:List Comp):Hb w i cs=⟨w.kinds,w.gens,w.items.set i ⟨it.ent,cs⟩⟩:=by
 unfold Hb;rw[hi]
theorem Kg(h:WdOK w)(hi:w.items[i]?=some it){cs:List Comp}(hc:Dk w.kinds cs=true):WdOK (Hb w i cs):=by
 rw[IE hi];obtain⟨h1,h2⟩:=VQ (key:=λit:Item=>it.ent.n) h.so hi (z:=⟨it.ent,cs⟩) rfl;refine⟨h.ks,h.gl,by simpa using h.il,h.gs,h1,λx hx=>?_⟩;rcases(h2 x).1 hx with rfl|⟨hx,_⟩
 ·obtain⟨a,b,c,d,e⟩:=h.it it (Bc hi)
  exact⟨a,b,c,d,hc⟩
 ·exact h.it x hx
theorem VJ(h:WdOK w)(hi:w.items[i]?=some it)(hc:TK w.kinds c):WdOK (Hb w i (Ev it.comps (Po w.kinds c))):=by
 obtain⟨k,hk,hh⟩:=Pn hc;have hit:=h.it it (Bc hi);have hcc:=hc;obtain⟨a,b,_⟩:=hcc;exact Kg h hi (Sh hit.2.2.2.2 (by rw[JT];exact a) (by rw[JT];exact b) hk hh)
theorem RW(h:WdOK w)(hi:w.items[i]?=some it)(k:Int):HN w it.ent k=if(DD it.comps k).isSome then(Hb w i (EI it.comps k),0)else(⟨[],[],[]⟩,4):=by
 unfold HN;have hf:=LE h.so hi;rw[Ah (by simp[(EP w).2 h]),hf,Ah (by omega),Co,hi]
theorem R8{l:List Item}{n:Int}(h:Fl l n=false):∀x∈l,x.ent.n≠n:=by
 unfold Fl at h;rw[CR]at h;intro x hx;simpa using h x hx
theorem LB(hw:WdOK w)(h:(B7 w).2=true):(B7 w).1<=w.gens.length/\(∀x∈w.items,x.ent.n≠((B7 w).1:Nat))/\(B7 w).1<256/\∀g,w.gens[(B7 w).1]?=some g->g<1073741824:=by
 have hg:=hw.gl;unfold B7 at h⊢;split at h
 ·rename_i n hn
  unfold Mp at hn;rw[Gd]at hn;obtain⟨h1,i,h2,h3,h4⟩:=hn;simp only[List.getElem_range]at h3;subst h3;rw[WY]at h2;simp only[AE,Du,As]at h1;refine⟨by dsimp only;omega,R8 h1.1,by dsimp only;omega,λg hgg=>?_⟩;dsimp only at hgg;have:=h1.2;rw[D2,hgg]at this;exact this
 ·have h:w.gens.length<256:=by dsimp only at h;rw[As]at h;omega
  refine⟨AP _,λx hx=>?_,h,λg hgg=>?_⟩
  ·have:=(hw.it x hx).2.1
   dsimp only;omega
  ·rw[Bk (AP _)]at hgg;cases hgg
theorem K1:∀{l:List Item} (x:Item),x∈GQ l it↔x=it\/x∈l
 |[],x=>by simp[GQ]
 |y::l,x=>by
  rw[GQ];split
  ·rw[Cq,K1,Cq]
   constructor
   ·rintro(h|h|h)
    ·exact .inr (.inl h)
    ·exact .inl h
    ·exact .inr (.inr h)
   ·rintro(h|h|h)
    ·exact .inr (.inl h)
    ·exact .inl h
    ·exact .inr (.inr h)
  ·rw[Cq]
theorem Mk:∀{l:List Item},O5 l->(∀x∈l,x.ent.n≠it.ent.n)->O5 (GQ l it)
 |[],_,_=>Fz ..
 |y::l,h,hn=>by
  obtain⟨h1,h2⟩:=BD.1 h;rw[GQ];split
  ·rename_i hy
   refine BD.2 ⟨λx hx=>?_,Mk h2 λx hx=>hn x (by simp[hx])⟩;rcases(K1 x).1 hx with rfl|hx
   ·exact hy
   ·exact h1 x hx
  ·rename_i hy
   have:=hn y (by simp);refine BD.2 ⟨λx hx=>?_,h⟩;show it.ent.n<x.ent.n
   rcases AW.1 hx with rfl|hx
   ·omega
   ·have:y.ent.n<x.ent.n:=h1 x hx
    omega
theorem OZ{gens:List Int}{n:Nat}(h:n<=gens.length):n<(Dy gens n).length/\(Dy gens n)[n]?=some ((Dy gens n).getD n 0)/\gens.length<=(Dy gens n).length/\(∀j,j<gens.length->(Dy gens n)[j]?=gens[j]?)/\(∀g∈Dy gens n,g∈gens\/g=0)/\(Dy gens n).length<=max gens.length (n+1):=by
 unfold Dy;split
 ·rename_i e
  subst e;refine⟨by simp,by simp[D2],by simp,λj hj=>B5 hj,λg hg=>?_,by simp⟩;rcases AN.1 hg with h|h
  ·exact .inl h
  ·exact .inr (AS.1 h)
 ·refine⟨by omega,?_,AP _,λ_ _=>rfl,λg hg=>.inl hg,by omega⟩
  rw[D2,Ag (by omega)];rfl
theorem PQ(h:WdOK w)(hf:(B7 w).2=true){cs:List Comp}(hl:J2 w.kinds l=(cs,0)):
  Ei w l=(⟨w.kinds,Dy w.gens (B7 w).1,GQ w.items ⟨⟨(B7 w).1,(Dy w.gens (B7 w).1).getD (B7 w).1 0⟩,cs⟩⟩,⟨(B7 w).1,(Dy w.gens (B7 w).1).getD (B7 w).1 0⟩,0):=by
 unfold Ei;rw[Ah (by simp[(EP w).2 h]),hl,Ah (by simp),Ah (by simp[hf])]
theorem SG(h:WdOK w)(hf:(B7 w).2=true){cs:List Comp}(hc:Dk w.kinds cs=true):
  WdOK ⟨w.kinds,Dy w.gens (B7 w).1,GQ w.items ⟨⟨(B7 w).1,(Dy w.gens (B7 w).1).getD (B7 w).1 0⟩,cs⟩⟩:=by
 obtain⟨f1,f2,f3,f4⟩:=LB h hf;obtain⟨n,hn⟩:=nm ((B7 w).1);rw[hn]at f1 f2 f3 f4⊢;obtain⟨g1,g2,g3,g4,g5,g6⟩:=OZ f1
 have hgs:∀g∈Dy w.gens n,0<=g/\g<=1073741824:=λg hg=>by
  rcases g5 g hg with hg|rfl
  ·exact h.gs g hg
  ·omega
 have hso:O5 (GQ w.items ⟨⟨n,(Dy w.gens n).getD n 0⟩,cs⟩):=Mk h.so f2
 have hit:∀x∈GQ w.items ⟨⟨n,(Dy w.gens n).getD n 0⟩,cs⟩,0<=x.ent.n/\x.ent.n<(Dy w.gens n).length/\(Dy w.gens n)[x.ent.n.toNat]?=some x.ent.gen/\x.ent.gen≠1073741824/\Dk w.kinds x.comps=true:=λx hx=>by
  rcases(K1 x).1 hx with rfl|hx
  ·refine⟨by dsimp only;omega,by dsimp only;omega,by dsimp only;rw[Co];exact g2,?_,hc⟩
   dsimp only;intro e;rw[e]at g2;by_cases hnl:n<w.gens.length
   ·rw[g4 n hnl]at g2
    have:=f4 _ g2;omega
   ·unfold Dy at e
    rw[A1 (by omega),D2,show n=w.gens.length by omega]at e;simp at e
  ·obtain⟨a,b,c,d,e⟩:=h.it x hx
   exact⟨a,by omega,by rw[g4 _ (by omega)];exact c,d,e⟩
 refine⟨h.ks,?_,?_,hgs,hso,hit⟩
 ·have:=h.gl
  dsimp only;omega
 ·exact Ip (λx:Item=>x.ent.n) _ _ (hso.imp λ{a b} h=>by have h:a.ent.n<b.ent.n:=h;show a.ent.n≠b.ent.n;omega) λx hx=>⟨(hit x hx).1,(hit x hx).2.1⟩
theorem RF(h:WdOK w)(hi:w.items[i]?=some it):HJ w it.ent=(⟨w.kinds,w.gens.set it.ent.n.toNat (w.gens.getD it.ent.n.toNat 0+1),w.items.eraseIdx i⟩,0):=by
 unfold HJ;have hf:=LE h.so hi;rw[Ah (by simp[(EP w).2 h]),hf,Ah (by omega),Co]
theorem UA(h:WdOK w)(hi:w.items[i]?=some it):WdOK ⟨w.kinds,w.gens.set it.ent.n.toNat (w.gens.getD it.ent.n.toNat 0+1),w.items.eraseIdx i⟩:=by
 obtain⟨h1,h2⟩:=SW (key:=λx:Item=>x.ent.n) h.so hi;obtain⟨a,b,c,d,e⟩:=h.it it (Bc hi);have hg:=h.gs it.ent.gen (Bc c);have hgd:w.gens.getD it.ent.n.toNat 0=it.ent.gen:=by rw[D2,c];rfl
 refine⟨h.ks,by simpa using h.gl,?_,λg hgm=>?_,h1,λx hx=>?_⟩
 ·have:=h.il
  have:=List.length_eraseIdx_le w.items i;simp only[By];omega
 ·rcases FI hgm with hgm|rfl
  ·exact h.gs g hgm
  ·rw[hgd];omega
 ·obtain⟨hx,hn⟩:=(h2 x).1 hx
  obtain⟨a',b',c',d',e'⟩:=h.it x hx;exact⟨a',by simpa using b',by rw[FC (by omega)];exact c',d',e'⟩
theorem K5(hk:CL ks=0)(h:Dk ks l=true):l.length<=16/\∀c∈l,c.vals.length<=8:=by
 obtain⟨hs,hm⟩:=held_iff.1 h;obtain⟨h16,ho⟩:=DP hk;refine⟨CT (Ip Comp.kind _ _ (hs.imp λh=>by omega) λc hc=>⟨(hm c hc).1,(hm c hc).2.1⟩) h16,λc hc=>?_⟩;obtain⟨_,_,k,hk2,hh⟩:=hm c hc;have h8:=(EF (ho k (Bc hk2))).2.1;have:=HK (k:=k) (v:=c.vals) (by rw[JP hh]);omega
theorem WdOK.wl(h:WdOK w):WdL w:=by
 obtain⟨h16,ho⟩:=DP h.ks;refine⟨⟨by omega,λk hk=>by have:=(EF (ho k hk)).2.1;omega⟩,by have:=h.gl;omega,by have:=h.gl;have:=h.il;omega,λit hit=>?_⟩;obtain⟨h1,h2⟩:=K5 h.ks (h.it it hit).2.2.2.2;exact⟨by omega,λc hc=>by have:=h2 c hc;omega⟩
theorem Na(l:List Int):0<(BN l).1.length:=by
 have h:=BY l (n:=4) (by decide)
 have:∀i c q,(Bm i c q).1.length=c:=by
  intro i c
  induction c generalizing i with
  |zero=>intro q;rfl
  |succ c ih=>intro q;simp only[Bm,EK,ih]
 unfold BN;rw[this];omega
theorem PI{p:α->Bool}:∀{l:List α} {i:Nat},i<=l.length->(∀(j:Nat) (x:α),j<i->l[j]?=some x->p x=true)->(∀x,l[i]?=some x->p x=false)->(l.takeWhile p).length=i
 |[],i,h,_,_=>by(have:i=0:=by simpa using h);(subst this;rfl)
 |x::l,0,_,_,h2=>by rw[EV,h2 x rfl];rfl
 |x::l,i+1,h,h1,h2=>by
  rw[EV,h1 0 x (by omega) rfl];show(l.takeWhile p).length+1=i+1
  rw[PI (i:=i) (by simpa using h) (λj y hj hy=>h1 (j+1) y (by omega) hy) (λy hy=>h2 y hy)]
theorem Sn(hs:FT l){b:Nat×Bool}(h:Found (λc:Comp=>Dl c.kind k) l b):b=(DW l k,(DD l k).isSome):=by
 obtain⟨m1,m2⟩:=h.mono (Ke hs k);have e1:DW l k=b.1:=PI h.le (λj x hj hx=>by have:=m1 j x hj hx;rw[GA]at this;simpa using this) (λx hx=>by have:=m2 b.1 x (AP _) hx;rw[GA]at this;simpa using this);refine Prod.ext e1.symm ?_;cases hb:b.2
 ·rw[Hk (Og h hs hb)];rfl
 ·obtain⟨c,hc,hk⟩:=Mq h hb
  rw[LO hs (Bc hc) hk];rfl
theorem QX{d:Comp}:∀{l:List Comp},FT l->Ev l d=if(DD l d.kind).isSome then l.set (DW l d.kind) d else l.take (DW l d.kind)++d::l.drop (DW l d.kind)
 |[],_=>rfl
 |x::l,h=>by
  obtain⟨h1,h2⟩:=BD.1 h;have ih:=QX (d:=d) h2
  have ec:DD (x::l) d.kind=if x.kind=d.kind then some x else DD l d.kind:=by
   unfold DD;rw[Lx];by_cases e:x.kind=d.kind<;>simp[e]
  have ea:DW (x::l) d.kind=if x.kind<d.kind then DW l d.kind+1 else 0:=by
   unfold DW;rw[EV];by_cases e:x.kind<d.kind<;>simp[e]
  rw[Ev,ec,ea];by_cases e1:x.kind<d.kind
  ·have e3:¬x.kind=d.kind:=by omega
   rw[A1 e1,A1 e1,Ah e3,ih];split<;>simp
  ·rw[Ah e1,Ah e1]
   by_cases e2:x.kind=d.kind
   ·rw[A1 e2,A1 e2];rfl
   ·rw[Ah e2,Ah e2,Hk (λc hc=>by have:=h1 c hc;omega)];rfl
theorem Or:∀{l:List Comp},FT l->(DD l k).isSome=true->EI l k=l.eraseIdx (DW l k)
 |[],_,hn=>by cases hn
 |x::l,h,hn=>by
  obtain⟨h1,h2⟩:=BD.1 h
  have ec:DD (x::l) k=if x.kind=k then some x else DD l k:=by
   unfold DD;rw[Lx];by_cases e:x.kind=k<;>simp[e]
  have ea:DW (x::l) k=if x.kind<k then DW l k+1 else 0:=by
   unfold DW;rw[EV];by_cases e:x.kind<k<;>simp[e]
  have ed:EI (x::l) k=if x.kind=k then EI l k else x::EI l k:=by
   unfold EI;rw[List.filter_cons];by_cases e:x.kind=k<;>simp[e]
  rw[ec]at hn;rw[ea,ed];by_cases e2:x.kind=k
  ·have e3:¬x.kind<k:=by omega
   rw[A1 e2,Ah e3];show EI l k=l
   unfold EI;rw[List.filter_eq_self];intro c hc;have:=h1 c hc;simp;omega
  ·rw[Ah e2]at hn
   by_cases e1:x.kind<k
   ·rw[Ah e2,A1 e1,Or h2 hn];rfl
   ·rw[Hk (λc hc=>by have:=h1 c hc;omega)]at hn;cases hn
theorem Mx(l:List Comp)(k:Int):DW l k<=l.length:=by unfold DW;exact(List.takeWhile_sublist _).length_le
theorem Ja:∀{l:List Comp},FT l->(DD l k).isSome=true->DW l k<l.length
 |[],_,hn=>by cases hn
 |x::l,h,hn=>by
  obtain⟨h1,h2⟩:=BD.1 h
  have ec:DD (x::l) k=if x.kind=k then some x else DD l k:=by
   unfold DD;rw[Lx];by_cases e:x.kind=k<;>simp[e]
  have ea:DW (x::l) k=if x.kind<k then DW l k+1 else 0:=by
   unfold DW;rw[EV];by_cases e:x.kind<k<;>simp[e]
  rw[ec]at hn;rw[ea];split
  ·rename_i e
   have e2:¬x.kind=k:=by omega
   rw[Ah e2]at hn;have:=Ja h2 hn;simp;omega
  ·simp
def JN(l:List Item)(n:Int):Nat:=(l.takeWhile λx=>decide (x.ent.n<n)).length
theorem RP{l:List Item}(hs:O5 l){n:Int}{b:Nat×Bool}(h:Found (λx:Item=>Dl x.ent.n n) l b):b.1=JN l n:=by
 have hm:IA (λx:Item=>Dl x.ent.n n) l:=by
  intro a b x y hab hx hy hy0;rw[GA]at hy0⊢;by_cases e:a=b
  ·subst e;rw[hx]at hy;cases hy;exact hy0
  ·obtain⟨ha,rfl⟩:=AC.1 hx
   obtain⟨hb,rfl⟩:=AC.1 hy;have:(l[a]).ent.n<(l[b]).ent.n:=B3.1 hs a b ha hb (by omega);omega
 obtain⟨m1,m2⟩:=h.mono hm;exact(PI h.le (λj x hj hx=>by have:=m1 j x hj hx;rw[GA]at this;simpa using this) (λx hx=>by have:=m2 b.1 x (AP _) hx;rw[GA]at this;simpa using this)).symm
theorem QW:∀{l:List Item},GQ l it=l.take (JN l it.ent.n)++it::l.drop (JN l it.ent.n)
 |[]=>rfl
 |x::l=>by
  have ea:JN (x::l) it.ent.n=if x.ent.n<it.ent.n then JN l it.ent.n+1 else 0:=by
   unfold JN;rw[EV];by_cases e:x.ent.n<it.ent.n<;>simp[e]
  rw[GQ,ea];split
  ·rw[QW];rfl
  ·rfl
end
theorem W.makeMap{P:Program}{ty t k e:TypeId}{pos:String}{after:Array Edge}{dst:Option Tmp}{c:Option (List Bool)}{g:Option (Nat×Bool)}{T:List (Nat×AV)}{S:List AK}{X p:Nat}{z0:Value}[TMap P t k e z0](hS:At S p (X,.gone)):Stp c P ⟨dst,.makeMap t none,ty,pos,after,g⟩ T S [] [(p,(X,.gone))] (.mp X) [(p,(X,.ob (MapF P k e (λ_=>none) 0)))]:=⟨.makeMap (TMap.h (z0:=z0)),.nil,.cons hS .nil⟩
theorem ArOK.keys_items{a:Ar}(h:ArOK a):DR a.ts=(B9 a.ts).map (·.ent.n):=by
 rw[DR,B9,List.map_flatMap]
 have:∀ts:List Tab,(∀t∈ts,∀e∈t.es,e.1=e.2.n)->(ts.flatMap λt=>BB t.es)=ts.flatMap λt=>(Di t).map (·.ent.n):=by
  intro ts
  induction ts with
  |nil=>intro _;rfl
  |cons t ts ih=>
   intro hh;rw[Bo,Bo,ih λu hu=>hh u (by simp[hu])]
   congr 1
   rw[Di,Ct];exact FU λe he=>hh t (by simp) e he
 exact this a.ts h.ent
theorem WdOK.cl(h:WdOK w):∀it∈w.items,it.comps.length<=16:=λit hi=>by
 obtain⟨_,_,_,_,e⟩:=h.it it hi;obtain⟨h1,h2⟩:=held_iff.1 e;have h16:=(DP h.ks).1;have:=Ip (λc:Comp=>c.kind) w.kinds.length it.comps (h1.imp λ{a b} hab e=>by omega) (λc hc=>⟨(h2 c hc).1,(h2 c hc).2.1⟩);omega
theorem V1(w:Wd)(hw:WdOK w):Spec prog 16 [wdA false w] [] λr S'=>∃b:Ar,(ArOK b/\Jg b.ts/\b.kinds=w.kinds/\b.gens=w.gens/\(B9 b.ts).Perm w.items)/\r= .tup [.ptr b.A 0 0,iA 0]/\S'=arS b:=by
 have hL:=hw.wl;have hgl:=hw.gl;have hil:=hw.il;have hsok:=hw.so;have hit:=hw.it;have hkp:=HI w.kinds (by have:=(DP hw.ks).1;omega) (λk hk=>by have:=(EF ((DP hw.ks).2 k hk)).2.1;omega);have hcl:=Fk w.gens (by omega);have hck:=Hm w (by omega) (by omega) (λit hi=>(hL.items.2 it hi).1);rw[(EP w).2 hw]at hck;have hcc:=hw.cl;have hcp:∀it∈w.items,PS prog 42 [Bp false false it.comps] (Bp true false it.comps):=λit hi=>Nf it.comps (hL.items.2 it hi).1 (hL.items.2 it hi).2
 have hime:(w.items.map (Aj false)).length=w.items.length:=AD _;obtain⟨ks,gs,its⟩:=w;dsimp only at*;refine Sp (nt:=38) (res:=[.tmp 2,.tmp 3]) func16 λSf=>?_
 refine RG ?_;refine WO ?_;refine Ai λD=>?_;refine KO ?_;refine NL ?_
 refine JB ?_;refine WO ?_;refine DQ (h:=(hck ..)) (k:=?_);refine JC ?_;refine JD ?_;refine Aa rfl rfl ?_;refine FL ?_;have hgm:(gs.map iA).length=gs.length:=AD _;refine A9 λA=>A9 λG=>A9 λO=>?_
 refine RU ?_;refine KR ?_;refine P2 (h:=(hkp ..)) (k:=?_);refine KR ?_;refine Lm hcl (.ls (Y:=G)) ?_;refine Ea ?_ (W.makeMap (X:=O) (by exact AY));refine RK ?_;refine Ea ?_ (W.box (X:=A) rfl (by exact AY) rfl);refine RK ?_;refine RGo.nil (by kernel_rfl) ?_;refine FL ?_;refine C1 (Y:=A) 117 1 (by exact AY) (λTb=>.cons (.agg (.s (.s (.cons (.base .nil) .r)))) .nil) λTb=>?_
 rw[hgm];refine AWP.note (λ_ _=>False) (λ_ _ h=>h) λTv=>?_
 refine R1 ?_;refine FL ?_;refine AH Tb ?_;refine AH Tv ?_;refine AH O ?_;refine AH G ?_;refine AH A ?_;refine AH D ?_;refine B6 (λ(i:Nat) (b:Ar)=>⟨[(5,.ptr A 0 0),(23,FN false false its),(24,iA (its.map (Aj false)).length),(25,iA i)],(D,.row 26 3 [wdA false ⟨ks,gs,its⟩])::(arS b++Sf)⟩) (λi b=>i<=its.length/\ArOK b/\Jg b.ts/\b.A=A/\b.kinds=ks/\b.gens=gs/\(B9 b.ts).Perm (its.take i)) (λi _=>its.length-i) 0 ⟨A,G,Tb,O,Tv,λ_ _=>False,λ_=>none,0,ks,gs,[]⟩ ⟨by omega,⟨by simp,.nil,.nil,by simp,by simp,by simp,rfl⟩,(by intro t ht;cases ht),rfl,rfl,rfl,.refl _⟩ ?_;rintro i b ⟨hi,hok,hne,hA,hbk,hbg,hpm⟩;subst hA;refine R1 ?_;refine FL ?_;refine AB rfl (λh=>?_) (λh=>?_)
 ·have h:i<its.length:=by rw[As,hime]at h;omega
  have hat:(its.map (Aj false))[i]?=some (Aj false its[i]):=Cb _ h;have hil:i<(its.map (Aj false)).length:=by omega
  have him:=BG h;obtain⟨it1,it2,_⟩:=hit _ him;have hcpi:=hcp _ him
  have hfr:its[i].ent.n∉DR b.ts:=by
   rw[hok.keys_items];intro hm;obtain⟨x,hx,e⟩:=BH.1 hm;have hx:=hpm.mem_iff.1 hx;obtain⟨j,hj,rfl⟩:=VD.1 hx;have:=B3.1 hsok j i (by omega) h (by omega);omega
  have had:=Vc b its[i].ent its[i].comps hok hne ⟨it1,by omega⟩ hfr (hcc _ him);have htk:its.take (i+1)=its.take i++[its[i]]:=Bt h;obtain⟨⟨ie,ic⟩,hie⟩:=nm (its[i]);rw[hie]at hat hcpi had htk;refine JB ?_;refine KO ?_;refine Ai λC=>?_;refine JC ?_
  refine FL ?_;(repeat refine WF ?_);refine FQ 6 (by kernel_rfl) (by kernel_rfl) (by kernel_rfl) ?_;dsimp only[List.take,List.drop];refine KR ?_;refine P2 (h:=(hcpi ..)) (k:=?_);refine RGo.nil (by kernel_rfl) ?_;refine KN [_,_] (h:=had) λb' hb'=>?_
  obtain⟨k1,k2,k3,k4,k5,k6⟩:=hb';refine AOps.nil ?_;refine FL ?_;refine R1 ?_
  exact BV (i+1) b' ⟨by omega,k1,k2,k3,k4.trans hbk,k5.trans hbg,by
   rw[htk];exact k6.trans ((hpm.cons _).trans (List.perm_append_singleton _ _).symm)⟩ (by omega)
 ·have h:i=its.length:=by rw[Aq,hime]at h;omega
  subst h;rw[DJ]at hpm;refine FL ?_;refine R1 ?_;refine RT ?_;exact CU [.ptr b.A 0 0,iA 0] (arS b) ⟨b,⟨hok,hne,hbk,hbg,hpm⟩,rfl,rfl⟩
section
open Go.Sort
theorem Ba[Inhabited α](f:α->AV){d:Array α}(h:i<d.size):(d.toList.map f)[i]?=some (f d[i]!):=by
 rw[Am,Ag (by simpa using h)];simp[Lv d i h]
theorem Ds[Inhabited α](f:α->AV){d:Array α}{i j:Nat}(hi:i<d.size)(hj:j<d.size):((d.toList.map f).set i (f d[j]!)).set j (f d[i]!)=(swp d i j).toList.map f:=by
 unfold swp;simp[Array.toList_setIfInBounds,A8]
theorem DN[Inhabited α](f:α->AV){d:Array α}{i j:Nat}(hj:j<d.size)(x:α):∃y,((d.toList.map f).set i (f x))[j]?=some (f y):=by
 by_cases e:i=j
 ·subst e;exact⟨x,BF (by simpa using hj)⟩
 ·exact⟨d[j]!,by rw[FC e];exact Ba f hj⟩
def Ak{α:Type}(cf:α->α->Int)(x y:α):Bool:=decide (cf x y<0)
instance:Inhabited Comp:=⟨⟨0,[]⟩⟩
instance:Inhabited Item:=⟨⟨⟨0,0⟩,[]⟩⟩
theorem GN[Inhabited α](lt:α->α->Bool)(d:Array α)(a b s:Nat):(order2 lt d a b s).2.2<=s+1:=by
 unfold order2;split<;>simp
theorem JJ[Inhabited α](lt:α->α->Bool)(d:Array α)(a b s m:Nat)(ha:a<m)(hb:b<m):(order2 lt d a b s).1<m/\(order2 lt d a b s).2.1<m:=by
 unfold order2;split<;>exact⟨by assumption,by assumption⟩
theorem JK[Inhabited α](lt:α->α->Bool)(d:Array α)(a b c s:Nat):(median lt d a b c s).2<=s+3:=by
 have e1:=GN lt d a b s;have e2:=GN lt d (order2 lt d a b s).2.1 c (order2 lt d a b s).2.2;have e3:=GN lt d (order2 lt d a b s).1 (order2 lt d (order2 lt d a b s).2.1 c (order2 lt d a b s).2.2).1 (order2 lt d (order2 lt d a b s).2.1 c (order2 lt d a b s).2.2).2.2;unfold median;dsimp only;omega
theorem JL[Inhabited α](lt:α->α->Bool)(d:Array α)(a s m:Nat)(h:a+1<m):(medianAdjacent lt d a s).1<m:=by
 rcases medianAdjacent_mem lt d a s with e|e|e<;>omega
def U7:Hint->Int
 |.unknown=>0
 |.increasing=>1
 |.decreasing=>2
end
section
open Go.Sort
end
section
open Go.Sort
end
section
open Go.Sort
end
section
open Go.Sort
end
section
open Go.Sort
def lenTab:List UInt8:=(List.range 256).map λn=>UInt8.ofNat (if n=0 then 0 else Nat.log2 n+1)
theorem RD{n:Nat}(h:n<256):((lenTab.getD n 0).toNat:Int)=bitsLen n:=by
 have h1:lenTab.getD n 0=UInt8.ofNat (bitsLen n):=by
  unfold lenTab;rw[D2,Am,List.getElem?_range h];rfl
 have h2:bitsLen n<=8:=(bitsLen_le_iff n 8).2 (by omega);rw[h1,UInt8.toNat_ofNat'];omega
theorem VP:lenTab.length=256:=by simp[lenTab]
theorem LV{x:Nat}(h:256<=x):bitsLen (x/256)+8=bitsLen x:=by
 have a:=(bitsLen_le_iff (x/256) (bitsLen x-8)).2 (by
  have h1:=lt_two_pow_bitsLen x
  have h2:8<bitsLen x:=by
   have:=(bitsLen_le_iff x 8);omega
  have h3:2^bitsLen x=2^(bitsLen x-8)*256:=by rw[show(256:Nat)=2^8 from rfl,<-Nat.pow_add];congr 1;omega
  omega)
 have b:=(bitsLen_le_iff x (bitsLen (x/256)+8)).2 (by
  have h1:=lt_two_pow_bitsLen (x/256);rw[Nat.pow_add];omega)
 have h2:8<bitsLen x:=by
  have:=(bitsLen_le_iff x 8);omega
 omega
set_option maxRecDepth 100000 in
theorem SV(x:UInt64)(hx:x.toNat<65536):PS prog 182 [uA x] (iA (bitsLen x.toNat)):=by
 refine Sp (nt:=25) (res:=[.tmp 2]) func182 λSf=>?_
 refine KK ?_;refine Aa rfl (Bd (by omega)) ?_;refine KK ?_;refine Aa rfl (Bd (by omega)) ?_;refine KK ?_;refine Ch (λb:UInt64×Nat=>b.1.toNat<256/\bitsLen b.1.toNat+b.2=bitsLen x.toNat/\b.2<=8) (λb=>⟨[(0,uA b.1),(2,iA b.2)],Sf⟩) ?_ ?_
 ·refine AB rfl (λh=>?_) (λh=>?_)
  ·have h:256<=x.toNat:=by have:=AM h;omega
   have hs:(x>>>UInt64.ofNat 8).toNat=x.toNat/256:=by
    rw[Vq,C2,show 8%2^64%64=8 from rfl,VB]
   (iterate 3 refine WK ?_);refine AQ (TA 8 (by omega) rfl rfl rfl) rfl ?_;refine KK ?_
   refine jn (x>>>UInt64.ofNat 8,8) ⟨by dsimp only;omega,?_,by(try dsimp only);omega⟩;dsimp only;rw[hs];exact LV h
  ·have h:¬256<=x.toNat:=by have:=Ab h;omega
   refine WK ?_;exact jn (x,0) ⟨by dsimp only;omega,rfl,by(try dsimp only);omega⟩
 ·rintro⟨u,m⟩ ⟨h1,h2,h3⟩
  dsimp only at h1 h2 h3⊢;have hw:IntKind.u8.wrap ((u.toNat:Nat):Int)=((u.toNat:Nat):Int):=by rw[IntKind.wrap_u8'];omega
  have hat:=RD h1;have hb8:bitsLen u.toNat<=8:=(bitsLen_le_iff _ 8).2 (by omega);have hw2:IntKind.i64.wrap ((lenTab.getD u.toNat 0).toNat:Int)=((bitsLen u.toNat:Nat):Int):=by rw[hat];exact E9 (by omega) (by omega)
  (iterate 4 refine WK ?_);refine AQ (W.convW .u64 .u8 _ (by kernel_rfl) (by kernel_rfl) hw rfl) rfl ?_;refine WK ?_;refine AQ (W.convW .u8 .i64 _ (by kernel_rfl) (by kernel_rfl) hw2 rfl) rfl ?_;refine AQ (Bh ((bitsLen x.toNat:Nat):Int) (by omega) (by omega) rfl rfl) rfl ?_;refine KK ?_
  refine RT ?_;refine An ?_;rfl
theorem NQ(x:UInt64)(hx:x.toNat<65536):PS prog 130 [uA x] (iA (bitsLen x.toNat)):=by
 have h:=SV x hx;refine Sp (nt:=8) (res:=[.tmp 2]) func130 λSf=>?_
 refine KK ?_;refine Aa rfl rfl ?_;refine KK ?_;refine DQ (h:=(h ..)) (k:=?_);refine JA ?_;refine An ?_;rfl
theorem Pa(n:Nat)(hn:n<65536):PS prog 233 [iA n] (uA ((1:UInt64)<<<UInt64.ofNat (bitsLen n))):=by
 have e:(UInt64.ofNat n).toNat=n:=by rw[C2];omega
 have h:=NQ (UInt64.ofNat n) (by rw[e];exact hn);rw[e]at h;have hb:bitsLen n<=16:=(bitsLen_le_iff n 16).2 (by omega);refine Sp (nt:=7) (res:=[.tmp 2]) func233 λSf=>?_
 (iterate 7 refine WK ?_);refine AQ (LY .i64 n rfl (by omega) (by kernel_rfl) (by kernel_rfl) rfl) rfl ?_;refine DQ (h:=(h ..)) (k:=?_);refine AQ (Pz (a:=1) (bitsLen n) (by omega) rfl rfl rfl) rfl ?_;refine KK ?_
 refine RT ?_;refine An ?_;rfl
theorem PH(Y:Nat)(s:UInt64):Spec prog 234 [.ptr Y 0 0] [(Y,.row 331 1 [uA s])] λr S'=>∃v:UInt64,True/\r=uA v/\S'=[(Y,.row 331 1 [uA v])]:=by
 refine Sp (nt:=33) (res:=[.tmp 2]) func234 λSf=>?_
 refine R1 ?_;refine RU ?_;(iterate 6 refine RK ?_);refine RGo.p (Pz 13 (by omega) rfl rfl rfl) rfl ?_;refine RGo.p (Py rfl rfl) rfl ?_;refine JE ?_;refine RGo.nil (by kernel_rfl) ?_;(repeat refine WF ?_);refine RU ?_;(iterate 6 refine RK ?_);refine RGo.p (TA 7 (by omega) rfl rfl rfl) rfl ?_;refine RGo.p (Py rfl rfl) rfl ?_;refine JE ?_;refine RGo.nil (by kernel_rfl) ?_;(repeat refine WF ?_);refine RU ?_;(iterate 6 refine RK ?_);refine RGo.p (Pz 17 (by omega) rfl rfl rfl) rfl ?_;refine RGo.p (Py rfl rfl) rfl ?_;refine JE ?_;refine RGo.nil (by kernel_rfl) ?_;refine JA ?_;exact CU [uA _] [(Y,_)] ⟨_,C9,rfl,rfl⟩
end
section
open Go.Sort
end
section
open Go.Sort
end
section
open Go.Sort
end
section
open Go.Sort
theorem UG(f:FuncId)(cap:List AV)(cf:Comp->Comp->Int)(hst:DG cap=true)(hcf:∀x y,PS prog f ((AT false) x::(AT false) y::cap) (iA (cf x y)))(X n:Nat)(d:Array Comp)(a b:Nat)(hn:n=d.size)(hab:a<=b)(hb:b<=d.size)(hz:d.size<=1099511627776):PO prog 221 [.sl X 0 n,iA a,iA b,.fn f cap] X (.row 42 2 (d.toList.map (AT false))) (.tup []) (.row 42 2 ((insertionSort (Ak cf) d a b).toList.map (AT false))):=by
 obtain⟨r,hr⟩:=nm (insertionSort (Ak cf) d a b);rw[hr];unfold insertionSort at hr;refine Sp (nt:=53) (res:=[]) func221 λSf=>?_
 refine KK ?_;refine B6 (λ(i:Nat) (e:Array Comp)=>⟨[(0,.sl X 0 n),(1,iA a),(2,iA b),(3,.fn f cap),(8,iA i)],(X,.row 42 2 (e.toList.map (AT false)))::Sf⟩) (λi e=>i<=max b (a+1)/\a<i/\e.size=d.size/\insOuter (Ak cf) a b i e=r) (λi _=>b-i) (a+1) d ⟨by omega,by omega,rfl,hr⟩ ?_;rintro i e ⟨hi,hai,he,hfold⟩;rw[insOuter]at hfold;refine KK ?_;refine AB rfl (λhc=>?_) (λhc=>?_)
 ·have h:i<b:=by have:=AM hc;omega
  rw[A1 h]at hfold;refine KK ?_;refine B6 (λ(j:Nat) (u:Array Comp)=>⟨[(0,.sl X 0 n),(1,iA a),(2,iA b),(3,.fn f cap),(8,iA i),(9,iA j)],(X,.row 42 2 (u.toList.map (AT false)))::Sf⟩) (λj u=>j<=i/\u.size=d.size/\insInner (Ak cf) a j u=insInner (Ak cf) a i e) (λj _=>j) i e ⟨AP _,he,rfl⟩ ?_;rintro j u ⟨hj,hu,hin⟩;rcases Ac (decide ((a:Int)<(j:Int)))with g|g
  ·have hja:a<j:=by have:=AM g;omega
   obtain⟨q,rfl⟩:∃q,j=q+1:=⟨j-1,by omega⟩;have h1:=Ba (AT false) (d:=u) (i:=q+1) (by omega);have h2:=Ba (AT false) (d:=u) (i:=q) (by omega);have hl:=hcf (u[q+1]!) (u[q]!);rw[insInner]at hin;(repeat refine WF ?_);refine RU ?_;(iterate 11 refine RK ?_);refine BQ ?_ (BS (q:Int) (by omega) (by omega) rfl rfl);refine KR ?_;refine Cv (h:=(hl ..)) (k:=?_);refine JE ?_;refine RGo.nil (by kernel_rfl) ?_;(repeat refine WF ?_);refine AB rfl (λhd=>?_) (λhd=>?_)
   ·have hd:(Ak cf) u[q+1]! u[q]! =true:=by simpa[g,Ak]using hd
    rw[hd,A1 (by simp;omega)]at hin;obtain⟨y,hy⟩:=DN (AT false) (d:=u) (i:=q+1) (j:=q) (by omega) u[q]!;(repeat refine WF ?_);refine RU ?_;(iterate 4 refine RK ?_);refine BQ ?_ (BS (q:Int) (by omega) (by omega) rfl rfl);refine JE ?_;refine BQ ?_ (BS (q:Int) (by omega) (by omega) rfl rfl);(iterate 9 refine RK ?_);refine RGo.s (W.store rfl rfl (by exact AY) hy (by exact rfl)) rfl ?_;refine RGo.nil (by kernel_rfl) ?_
    (iterate 4 refine WK ?_);refine AQ (BS (q:Int) (by omega) (by omega) rfl rfl) rfl ?_;refine KK ?_
    refine BV q (swp u (q+1) q) ⟨by omega,by rw[size_swp];exact hu,hin⟩ (h0:=by rw[<-Ds (AT false) (by omega) (by omega)];exact⟨by exact EL,by exact Av⟩)
   ·have hd:(Ak cf) u[q+1]! u[q]! =false:=by simpa[g,Ak]using hd
    rw[hd,Ah (by simp)]at hin;refine KK ?_;refine BV (i+1) u ⟨by omega,by omega,hu,by rw[hin];exact hfold⟩
  ·have hja:j<=a:=by have:=Ab g;omega
   have hin2:insInner (Ak cf) a j u=u:=by
    cases j with
    |zero=>rfl
    |succ q=>rw[insInner,Ah (by simp;omega)]
   rw[hin2]at hin;(repeat refine WF ?_);refine RU ?_;(iterate 17 refine RK ?_);refine RGo.nil (by kernel_rfl) ?_;(repeat refine WF ?_);refine Aa rfl (by simp[g]) ?_;refine KK ?_;refine BV (i+1) u ⟨by omega,by omega,hu,by rw[hin];exact hfold⟩
 ·have h:¬i<b:=by have:=Ab hc;omega
  rw[Ah h]at hfold;subst hfold;refine KK ?_;refine Ed ?_;exact CA [(X,.row 42 2 (e.toList.map (AT false)))] ⟨rfl,rfl⟩
end
section
open Go.Sort
theorem PY(f:FuncId)(cap:List AV)(cf:Comp->Comp->Int)(hst:DG cap=true)(hf:∀x y,PS prog f (AT false x::AT false y::cap) (iA (cf x y)))(X n limit:Nat)(d:Array Comp)(hn:n=d.size)(h12:d.size<=12):PO prog 168 [.sl X 0 n,iA 0,iA n,iA limit,.fn f cap] X (.row 42 2 (d.toList.map (AT false))) (.tup []) (.row 42 2 ((insertionSort (Ak cf) d 0 d.size).toList.map (AT false))):=by
 have hs:=UG f cap cf hst hf X n d 0 d.size hn (Ap _) (AP _) (by omega);rw[<-hn]at hs;have hsz:d.size=n:=hn.symm;refine Sp (nt:=148) (res:=[]) func168 λSf=>?_
 refine KK ?_;refine DL (λ_:Unit=>⟨[(0,.sl X 0 n),(1,iA 0),(2,iA n),(3,iA limit),(4,.fn f cap)],(X,.row 42 2 (d.toList.map (AT false)))::Sf⟩) (λ_=>True) (λ_=>0) () C9 ?_;rintro _ _;refine AWP.block ?_
 (iterate 4 refine WK ?_);refine AQ (BS (n:Int) (by omega) (by omega) rfl rfl) rfl ?_;refine KK ?_
 refine BE rfl (Br (by omega)) ?_;refine KK ?_;refine Gv (h:=(hs ..)) (k:=?_);refine JA ?_;rw[hsz];exact CA [(X,_)] ⟨rfl,rfl⟩
theorem Jl[Inhabited α]{d u:Array α}(h:PermIn 0 d.size d u):u.toList.Perm d.toList:=by
 obtain⟨h1,_,h3⟩:=h;have e1:u.extract 0 d.size=u:=by rw[<-h1];exact Array.extract_size
 rwa[e1,Array.extract_size]at h3
theorem H0[Inhabited α]{lt:α->α->Bool}{u:Array α}{n:Nat}(hn:n=u.size)(h:SortedIn lt 0 n u):u.toList.Pairwise λa b=>lt b a=false:=by
 rw[B3];intro i j hi hj hij;have hi':i<u.size:=by simpa using hi
 have hj':j<u.size:=by simpa using hj
 have:=h i j (Ap _) hij (by omega);rw[Lv u j hj',Lv u i hi']at this;simpa using this
theorem NK(f:FuncId)(cap:List AV)(cf:Comp->Comp->Int)(hst:DG cap=true)(hS:SWO (Ak cf))(hf:∀x y,PS prog f (AT false x::AT false y::cap) (iA (cf x y)))(X n:Nat)(l:List Comp)(hn:n=l.length)(h12:l.length<=12):
  ∃u:List Comp,(u.Perm l/\u.Pairwise λa b=>Ak cf b a=false)/\PO prog 108 [.sl X 0 n,.fn f cap] X (.row 42 2 (l.map (AT false))) (.tup []) (.row 42 2 (u.map (AT false))):=by
 obtain⟨p1,p2⟩:=insertionSort_holds (lt:=Ak cf) hS l.toArray 0 l.toArray.size (Ap _) (AP _);have e1:(UInt64.ofNat n).toNat=n:=by rw[C2];omega
 have hlen:=NQ (UInt64.ofNat n) (by rw[e1];omega);rw[e1]at hlen;have hs:=PY f cap cf hst hf X n (bitsLen n) l.toArray (by simpa using hn) (by simpa using h12);obtain⟨u,hu⟩:=nm (insertionSort (Ak cf) l.toArray 0 l.toArray.size);rw[hu]at p1 p2 hs;refine⟨u.toList,⟨by simpa using Jl p1,H0 p1.1.symm p2⟩,?_⟩;simp only[List.toList_toArray]at hs;refine Sp (nt:=14) (res:=[]) func108 λSf=>?_
 (iterate 11 refine WK ?_);refine AQ (LY .i64 n rfl (by omega) (by kernel_rfl) (by kernel_rfl) rfl) rfl ?_;refine DQ (h:=(hlen ..)) (k:=?_);refine WK ?_;refine Hu (h:=(hs ..)) (k:=?_);refine WK ?_
 refine Ed ?_;exact CA [(X,_)] ⟨rfl,rfl⟩
theorem HO(a b:Int):Dl a b<0↔a<b:=by
 unfold Dl;split
 ·simp;assumption
 ·split<;>simp<;>omega
theorem QJ(key:α->Int):SWO (Ak λx y=>Dl (key x) (key y))where
 irrefl x:=by simp only[Ak,Aq,HO];omega
 trans x y z h1 h2:=by simp only[Ak,As,HO]at*;omega
 ntrans x y z h1 h2:=by simp only[Ak,Aq,HO]at*;omega
end
section
open Go.Sort
end
theorem KY(t:Tab):(Di t).length=t.es.length:=AD _
theorem Qw{t:Tab}(h:i<t.es.length):(Di t)[i]?=some ⟨t.es[i].2,Cr t t.es[i].1⟩:=by
 rw[Di,Am,Ag h];rfl
section
variable {ro:Option Nat}
section
variable {P:Program}{nt:Nat}{c:Code}{Q:Exit->St->Prop}{ops:Array Oper}{rest:List Oper}{T:List (Nat×AV)}{α:Type}{t t2:TypeId}{sz sz2:Nat}{own:α->AV}{live:Nat->α->AV}{ll:α->List AV}{I:Nat}
def lvO(t:TypeId)(sz:Nat)(ll:α->List AV)(x:Nat×α):AK:=(x.1,.row t sz (ll x.2))
theorem NZ{a b x y:AV}(h:Ho a b x y):∀(D E:List AV),Hos a b (D++x::E) (D++y::E)
 |[],E=>.head h
 |_::D,E=>.tail (NZ h D E)
theorem Fv{S S':List AK}(h:S'.Sublist S)(k:AWP ro P nt c Q ⟨T,S'⟩):AWP ro P nt c Q ⟨T,S⟩:=λm0 a w hr=>k m0 a w (hr.sub h)
theorem J0(ho:∀a X,Ho (.lst true t sz (ll a)) (.sl X 0 (ll a).length) (own a) (live X a)):∀(E:List α) (D:List (Nat×α)) (R:List AK)
  (k:∀L:List (Nat×α),L.map (·.2)=E->AWP ro P nt c Q ⟨T,(I,.row t2 sz2 ((D++L).map λx=>live x.1 x.2))::(L.reverse.map (lvO t sz ll)++R)⟩),
  AWP ro P nt c Q ⟨T,(I,.row t2 sz2 ((D.map λx=>live x.1 x.2)++E.map own))::R⟩
 |[],D,R,k=>by
  have:=k [] rfl;simpa using this
 |e::E,D,R,k=>by
  refine CE (Y:=I) .here (λX=>NZ (ho e X) _ _) λX=>?_
  refine AWP.perm (DF ..) ?_
  have:=J0 ho E (D++[(X,e)]) ((X,.row t sz (ll e))::R) λL hL=>by
   have:=k ((X,e)::L) (by rw[AR,hL]);simpa[lvO,BC]using this
  simpa[BC]using this
theorem I7(hc:∀a X,Ho (.sl X 0 (ll a).length) (.lst true t sz (ll a)) (live X a) (own a)):∀(L:List (Nat×α)) (D:List α) (R:List AK)
  (k:AWP ro P nt c Q ⟨T,(I,.row t2 sz2 ((D++L.map (·.2)).map own))::R⟩),
  AWP ro P nt c Q ⟨T,(I,.row t2 sz2 (D.map own++L.map λx=>live x.1 x.2))::(L.map (lvO t sz ll)++R)⟩
 |[],D,R,k=>by simpa using k
 |x::L,D,R,k=>by
  refine Bg (X:=x.1) (Y:=I) (n:=(ll x.2).length) (ll:=ll x.2) (.next .here) .here rfl rfl (NZ (hc x.2 x.1) _ _) ?_;refine Fv (S':=(I,.row t2 sz2 ((D++[x.2]).map own++L.map λx=>live x.1 x.2))::(L.map (lvO t sz ll)++R)) ?_ ?_
  ·simp only[List.set_cons_succ,IY,EX,AJ,AR,Bj,BC,DX]
   exact .cons_cons _ (.cons _ (.refl _))
  ·refine I7 hc L (D++[x.2]) R ?_
   simpa[BC]using k
theorem GX(ho:∀a X,Ho (.lst true t sz (ll a)) (.sl X 0 (ll a).length) (own a) (live X a))(E:List α)(R:List AK)
  (k:∀L:List (Nat×α),L.map (·.2)=E->AWP ro P nt c Q ⟨T,(I,.row t2 sz2 (L.map λx=>live x.1 x.2))::(R++L.map (lvO t sz ll))⟩):
  AWP ro P nt c Q ⟨T,(I,.row t2 sz2 (E.map own))::R⟩:=
 J0 ho E [] R λL hL=>AWP.perm (.cons _ (List.perm_append_comm.trans (BO _ ((List.reverse_perm L).map _)))) (k L hL)
theorem Fw(hc:∀a X,Ho (.sl X 0 (ll a).length) (.lst true t sz (ll a)) (live X a) (own a))(L:List (Nat×α))(R O O':List AK)(hO:O.Perm O')(hs:(L.map (lvO t sz ll)).Sublist O')
  (k:AWP ro P nt c Q ⟨T,(I,.row t2 sz2 ((L.map (·.2)).map own))::R⟩):
  AWP ro P nt c Q ⟨T,(I,.row t2 sz2 (L.map λx=>live x.1 x.2))::(R++O)⟩:=
 AWP.perm (.cons _ (List.perm_append_comm.trans (hO.append_right _))) (Fv (.cons_cons _ (hs.append_right _)) (I7 hc L [] R k))
end
end
abbrev QV:AV:=.agg [iA 0,iA 0,.prim (.slice none 0 0)]
theorem Lo{a b x y:AV}(h:Ho a b x y):(M:List AV)->Hos a b (M++[x]) (M++[y])
 |[]=>.head h
 |_::M=>.tail (Lo h M)
theorem Gm{l r:List α}{t:Nat}{a:α}(h:l.drop t=a::r):l[t]?=some a/\l.drop (t+1)=r:=by
 constructor
 ·have:=G9 (·[0]?) h
  simpa using this
 ·have:=G9 (List.drop 1) h
  rw[Dr]at this;simpa using this
abbrev wdX(K G I:Nat)(w:Wd):AV:=.agg [.sl K 0 w.kinds.length,.sl G 0 w.gens.length,.sl I 0 w.items.length]
abbrev VF(K G I:Nat)(w:Wd):List AK:=[(K,.row 90 2 (w.kinds.map (A3 true))),(G,.row 3 1 (w.gens.map iA)),(I,.row 83 3 (w.items.map (Aj true)))]
structure WdS(w:Wd):Prop where
 kl:w.kinds.length<=1099511627776
 fl:∀k∈w.kinds,k.fields.length<=1099511627776
 gl:w.gens.length<=1099511627776
 gs:∀g∈w.gens,-1099511627776<=g/\g<=1099511627776
 il:w.items.length<=1099511627776
 it:∀it∈w.items,(-1099511627776<=it.ent.gen/\it.ent.gen<=1099511627776)/\it.comps.length<=1099511627776/\∀c∈it.comps,c.vals.length<=1099511627776/\∀v∈c.vals,-1099511627776<=v/\v<=1099511627776
set_option maxRecDepth 8000 in
set_option maxHeartbeats 4000000 in
theorem SE(K G I:Nat)(w:Wd)(hw:WdS w):Spec prog 8 [wdX K G I w] (VF K G I w) λr S'=>r= .tup []/\S'=[]:=by
 obtain⟨ks,gens,items⟩:=w;obtain⟨hkl,hfl,hgl,hgs,hil,hit⟩:=hw;dsimp only at hkl hfl hgl hgs hil hit;refine Spec.of (nt:=99) (res:=[]) func8 rfl (by kernel_rfl) rfl rfl rfl λSf=>?_
 refine RG ?_;(repeat first|(refine AX ?_;first|(refine Gw ?_;refine BX ?_))|refine WO ?_|refine Ai λX=>?_|refine Ay λY=>?_);refine NL ?_;refine JB ?_;(repeat first|refine WO ?_|refine Ai λX=>?_|refine Ay λY=>?_);refine NL ?_;refine FL ?_;refine B6 (λ(i:Nat) (ks':List Kind)=>⟨[(1,.fp [.sl K 0 ks.length,.sl G 0 gens.length,.sl I 0 items.length]),(11,iA (ks.length:Nat)),(12,iA (i:Nat))],(K,.row 90 2 (ks'.map (A3 true)))::(G,.row 3 1 (gens.map iA))::(I,.row 83 3 (items.map (Aj true)))::Sf⟩) (λi ks'=>i<=ks.length/\ks'.length=ks.length/\∀k∈ks',k.fields.length<=1099511627776) (λi ks'=>ks.length-i) 0 ks ⟨Ap _,rfl,hfl⟩ ?_;clear hfl;rintro i ks' ⟨hi,hl,hfl⟩;refine RG ?_;(repeat first|refine WO ?_|refine Ai λX=>?_|refine Ay λY=>?_);refine NL ?_;refine FL ?_;refine AB rfl (λhc=>?_) (λhc=>?_)
 ·have h:i<ks'.length:=by have:=AM hc;omega
  have hkm:=BG h;obtain⟨k,hk⟩:∃k,ks'[i]=k:=⟨_,rfl⟩;rw[hk]at hkm;have hf:=hfl k hkm;have hat0:(ks'.map (A3 true))[i]?=some (A3 true k):=by rw[Am,Ag h,hk];rfl
  obtain⟨nm,fs⟩:=k;dsimp only at hf;obtain⟨M,hM⟩:∃M,ks'.map (A3 true)=M:=⟨_,rfl⟩;have hMl:M.length=ks.length:=by rw[<-hM,AD,hl]
  have hat:M[i]?=some (.agg [sA nm,.lst true 92 3 (fs.map fieldA)]):=by rw[<-hM];exact hat0
  rw[hM];have hfm:(fs.map fieldA).length=fs.length:=AD _;refine CE (Y:=K) .here (λF=>Hos.at hat (.agg (.tail (.head .here)))) λF=>?_
  rw[hfm];dsimp only[List.set_cons_zero];have hat1:(M.set i (.agg [sA nm,.sl F 0 fs.length]))[i]?=some (.agg [sA nm,.sl F 0 fs.length]):=BF (by omega);have hM1:i<(M.set i (.agg [sA nm,.sl F 0 fs.length])).length:=by rw[By];omega
  have hM2:∀y,(M.set i (.agg [sA nm,.sl F 0 fs.length])).set i y=M.set i y:=λy=>List.set_set ..
  obtain⟨M1,hMe⟩:∃M1,M.set i (.agg [sA nm,.sl F 0 fs.length])=M1:=⟨_,rfl⟩;rw[hMe]at hat1 hM1 hM2⊢;refine JB ?_;(repeat first|refine WO ?_|refine Ai λX=>?_|refine Ay λY=>?_);refine NL ?_;refine JB ?_;(repeat first|refine WO ?_|refine Ai λX=>?_|refine Ay λY=>?_);refine NL ?_;dsimp only[A5,List.set_cons_zero,List.set_cons_succ];have hat2:(M1.set i (.agg [sA [115,112,111,105,108,116],.sl F 0 fs.length]))[i]?=some (.agg [sA [115,112,111,105,108,116],.sl F 0 fs.length]):=BF hM1;have hM3:i<(M1.set i (.agg [sA [115,112,111,105,108,116],.sl F 0 fs.length])).length:=by rw[By];exact hM1
  have hM4:∀y,(M1.set i (.agg [sA [115,112,111,105,108,116],.sl F 0 fs.length])).set i y=M.set i y:=λy=>by rw[List.set_set,hM2]
  obtain⟨M2,hMf⟩:∃M2,M1.set i (.agg [sA [115,112,111,105,108,116],.sl F 0 fs.length])=M2:=⟨_,rfl⟩;rw[hMf]at hat2 hM3 hM4;rw[show M1.set i (.agg [.prim (.string ⟨#[115,112,111,105,108,116]⟩),.sl F 0 fs.length])=M2 from hMf];clear hM2 hat1 hM1 hMf hMe;refine JB ?_;(repeat first|refine WO ?_|refine Ai λX=>?_|refine Ay λY=>?_);refine NL ?_;refine FL ?_;refine B6 (λ(j:Nat) (fs':List Field)=>⟨[(1,.fp [.sl K 0 ks.length,.sl G 0 gens.length,.sl I 0 items.length]),(2,iA (i:Nat)),(11,iA (ks.length:Nat)),(12,iA (i:Nat)),(26,iA (fs.length:Nat)),(27,iA (j:Nat))],(F,.row 92 3 (fs'.map fieldA))::(K,.row 90 2 M2)::(G,.row 3 1 (gens.map iA))::(I,.row 83 3 (items.map (Aj true)))::Sf⟩) (λj fs'=>j<=fs.length/\fs'.length=fs.length) (λj fs'=>fs.length-j) 0 fs ⟨Ap _,rfl⟩ ?_;rintro j fs' ⟨hj,hfl'⟩;refine RG ?_;(repeat first|refine WO ?_|refine Ai λX=>?_|refine Ay λY=>?_);refine NL ?_;refine FL ?_;refine AB rfl (λhd=>?_) (λhd=>?_)
  ·have h2:j<fs'.length:=by have:=AM hd;omega
   obtain⟨⟨fn,fb,fl⟩,hff⟩:∃f,fs'[j]=f:=⟨_,rfl⟩;have hfat:(fs'.map fieldA)[j]?=some (.agg [sA fn,iA fb,iA fl]):=by rw[Am,Ag h2,hff];rfl
   have hfj:j<(fs'.map fieldA).length:=by rw[AD];exact h2
   have hst:(fs'.map fieldA).set j (.agg [sA fn,iA 31,iA fl])=(fs'.set j ⟨fn,31,fl⟩).map fieldA:=by rw[A8];rfl
   refine JB ?_;(repeat first|refine WO ?_|refine Ai λX=>?_|refine Ay λY=>?_);refine NL ?_;refine JB ?_;(repeat first|refine WO ?_|refine Ai λX=>?_|refine Ay λY=>?_);refine NL ?_;dsimp only[A5,List.set_cons_zero,List.set_cons_succ];rw[hst];refine JB ?_;(repeat first|refine WO ?_|refine Ai λX=>?_|refine Ay λY=>?_);refine NL ?_;refine BV (j+1) (fs'.set j ⟨fn,31,fl⟩) ⟨by omega,by rw[By];exact hfl'⟩
  ·have hMn:M.set i (.agg [sA [115,112,111,105,108,116],.lst true 92 3 (fs'.map fieldA)])=(ks'.set i ⟨[115,112,111,105,108,116],fs'⟩).map (A3 true):=by rw[<-hM,A8];rfl
   refine FL ?_;refine Bg (X:=F) (Y:=K) (n:=fs.length) (ll:=fs'.map fieldA) (by exact AY) (by exact AY) (by rfl) (by simp[hfl']) (Hos.at hat2 (.agg (.tail (.head .here)))) ?_;rw[hM4,hMn];refine JB ?_;(repeat first|refine WO ?_|refine Ai λX=>?_|refine Ay λY=>?_);refine NL ?_;refine BV (i+1) (ks'.set i ⟨[115,112,111,105,108,116],fs'⟩) ⟨by omega,by rw[By];exact hl,λk hk=>?_⟩;rcases FI hk with hk|rfl
   ·exact hfl k hk
   ·dsimp only;omega
 ·clear hfl hl hi
  refine JB ?_;(repeat first|refine WO ?_|refine Ai λX=>?_|refine Ay λY=>?_);refine NL ?_;refine FL ?_;refine B6 (λ(i:Nat) (gs':List Int)=>⟨[(1,.fp [.sl K 0 ks.length,.sl G 0 gens.length,.sl I 0 items.length]),(43,iA (gens.length:Nat)),(44,iA (i:Nat))],(G,.row 3 1 (gs'.map iA))::(I,.row 83 3 (items.map (Aj true)))::Sf⟩) (λi gs'=>i<=gens.length/\gs'.length=gens.length/\gs'.drop i=gens.drop i) (λi gs'=>gens.length-i) 0 gens ⟨Ap _,rfl,rfl⟩ ?_;rintro i gs' ⟨hi,hl,hdr⟩;refine RG ?_;(repeat first|refine WO ?_|refine Ai λX=>?_|refine Ay λY=>?_);refine NL ?_;refine FL ?_;refine AB rfl (λhc=>?_) (λhc=>?_)
  ·have h:i<gens.length:=by have:=AM hc;omega
   rw[DE h]at hdr;obtain⟨hd1,hd2⟩:=Gm hdr;have hgb:=hgs _ (BG h);obtain⟨g,hg⟩:∃g,gens[i]=g:=⟨_,rfl⟩;rw[hg]at hd1 hgb;have hat:(gs'.map iA)[i]?=some (iA g):=by rw[Am,hd1];rfl
   have hml:(gs'.map iA).length=gens.length:=by rw[AD,hl]
   have hst:(gs'.map iA).set i (iA (g+5))=(gs'.set i (g+5)).map iA:=by rw[A8]
   refine JB ?_;(repeat first|refine WO ?_|refine Ai λX=>?_|refine Ay λY=>?_);refine NL ?_;refine JB ?_;(repeat first|(refine AX ?_;first|refine DZ ?_ (Bh (g+5) rfl (by omega) rfl rfl))|refine WO ?_|refine Ai λX=>?_|refine Ay λY=>?_);refine NL ?_;dsimp only[A5,List.set_cons_zero,List.set_cons_succ];rw[hst];refine JB ?_;(repeat first|refine WO ?_|refine Ai λX=>?_|refine Ay λY=>?_);refine NL ?_;refine BV (i+1) (gs'.set i (g+5)) ⟨by omega,by rw[By];exact hl,by rw[List.drop_set_of_lt (by omega)];exact hd2⟩
  ·clear hdr hl hi
   refine JB ?_;(repeat first|refine WO ?_|refine Ai λX=>?_|refine Ay λY=>?_);refine NL ?_;refine FL ?_;refine B6 (λ(i:Nat) (its:List Item)=>⟨[(1,.fp [.sl K 0 ks.length,.sl G 0 gens.length,.sl I 0 items.length]),(57,iA (items.length:Nat)),(58,iA (i:Nat))],(I,.row 83 3 (its.map (Aj true)))::Sf⟩) (λi its=>i<=items.length/\its.length=items.length/\its.drop i=items.drop i) (λi its=>items.length-i) 0 items ⟨Ap _,rfl,rfl⟩ ?_;clear i hc;rintro i its ⟨hi,hl,hdr⟩;refine RG ?_;(repeat first|refine WO ?_|refine Ai λX=>?_|refine Ay λY=>?_);refine NL ?_;refine FL ?_;refine AB rfl (λhc=>?_) (λhc=>?_)
   ·have h:i<items.length:=by have:=AM hc;omega
    rw[DE h]at hdr;obtain⟨hd1,hd2⟩:=Gm hdr;obtain⟨hgb,hcl,hcv⟩:=hit _ (BG h);obtain⟨it,hie⟩:∃g,items[i]=g:=⟨_,rfl⟩;rw[hie]at hd1 hgb hcl hcv;obtain⟨⟨en,eg⟩,cs⟩:=it;dsimp only at hgb hcl hcv;obtain⟨M,hM⟩:∃M,its.map (Aj true)=M:=⟨_,rfl⟩;have hMl:M.length=items.length:=by rw[<-hM,AD,hl]
    have hat:M[i]?=some (.agg [iA en,iA eg,.lst true 42 2 (cs.map (AT true))]):=by rw[<-hM,Am,hd1];rfl
    rw[hM];have hcm:(cs.map (AT true)).length=cs.length:=AD _;refine FL ?_;refine CE (Y:=I) .here (λC=>Hos.at hat (.agg (.tail (.tail (.head .here))))) λC=>?_
    rw[hcm];dsimp only[List.set_cons_zero];have hat1:(M.set i (.agg [iA en,iA eg,.sl C 0 cs.length]))[i]?=some (.agg [iA en,iA eg,.sl C 0 cs.length]):=BF (by omega);have hM1:i<(M.set i (.agg [iA en,iA eg,.sl C 0 cs.length])).length:=by rw[By];omega
    have hM2:∀y,(M.set i (.agg [iA en,iA eg,.sl C 0 cs.length])).set i y=M.set i y:=λy=>List.set_set ..
    obtain⟨M1,hMe⟩:∃M1,M.set i (.agg [iA en,iA eg,.sl C 0 cs.length])=M1:=⟨_,rfl⟩;rw[hMe]at hat1 hM1 hM2⊢;refine RG ?_;(repeat first|refine WO ?_|refine Ai λX=>?_|refine Ay λY=>?_);refine NL ?_;refine JB ?_;(repeat first|refine WO ?_|refine Ai λX=>?_|refine Ay λY=>?_);refine NL ?_;refine FL ?_;refine B6 (λ(j:Nat) (cs':List Comp)=>⟨[(1,.fp [.sl K 0 ks.length,.sl G 0 gens.length,.sl I 0 items.length]),(5,iA (i:Nat)),(57,iA (items.length:Nat)),(58,iA (i:Nat)),(66,.sl C 0 cs.length),(67,iA (cs.length:Nat)),(68,iA (j:Nat))],(C,.row 42 2 (cs'.map (AT true)))::(I,.row 83 3 M1)::Sf⟩) (λj cs'=>j<=cs.length/\cs'.length=cs.length/\cs'.drop j=cs.drop j) (λj cs'=>cs.length-j) 0 cs ⟨Ap _,rfl,rfl⟩ ?_;rintro j cs' ⟨hj,hcl',hcd⟩;refine RG ?_;(repeat first|refine WO ?_|refine Ai λX=>?_|refine Ay λY=>?_);refine NL ?_;refine FL ?_;refine AB rfl (λhe=>?_) (λhe=>?_)
    ·have h2:j<cs.length:=by have:=AM he;omega
     rw[DE h2]at hcd;obtain⟨hc1,hc2⟩:=Gm hcd;obtain⟨hvl,hvb⟩:=hcv _ (BG h2);obtain⟨c,hce⟩:∃g,cs[j]=g:=⟨_,rfl⟩;rw[hce]at hc1 hvl hvb;obtain⟨ck,vs⟩:=c;dsimp only at hvl hvb;obtain⟨L,hL⟩:∃L,cs'.map (AT true)=L:=⟨_,rfl⟩;have hLl:L.length=cs.length:=by rw[<-hL,AD,hcl']
     have hat2:L[j]?=some (.agg [iA ck,.lst true 3 1 (vs.map iA)]):=by rw[<-hL,Am,hc1];rfl
     rw[hL];have hvm:(vs.map iA).length=vs.length:=AD _;refine FL ?_;refine CE (Y:=C) .here (λV=>Hos.at hat2 (.agg (.tail (.head .here)))) λV=>?_
     rw[hvm];dsimp only[List.set_cons_zero];have hat3:(L.set j (.agg [iA ck,.sl V 0 vs.length]))[j]?=some (.agg [iA ck,.sl V 0 vs.length]):=BF (by omega);have hL1:j<(L.set j (.agg [iA ck,.sl V 0 vs.length])).length:=by rw[By];omega
     have hL2:∀y,(L.set j (.agg [iA ck,.sl V 0 vs.length])).set j y=L.set j y:=λy=>List.set_set ..
     obtain⟨L1,hLe⟩:∃L1,L.set j (.agg [iA ck,.sl V 0 vs.length])=L1:=⟨_,rfl⟩;rw[hLe]at hat3 hL1 hL2⊢;refine RG ?_;(repeat first|refine WO ?_|refine Ai λP7=>?_|refine Ay λY=>?_);refine NL ?_;refine JB ?_;(repeat first|refine WO ?_|refine Ai λX=>?_|refine Ay λY=>?_);refine NL ?_;refine FL ?_;refine B6 (λ(q:Nat) (vs':List Int)=>⟨[(1,.fp [.sl K 0 ks.length,.sl G 0 gens.length,.sl I 0 items.length]),(5,iA (i:Nat)),(7,.ptr P7 0 0),(57,iA (items.length:Nat)),(58,iA (i:Nat)),(66,.sl C 0 cs.length),(67,iA (cs.length:Nat)),(68,iA (j:Nat)),(74,iA (vs.length:Nat)),(75,iA (q:Nat))],(P7,.row 42 2 [.agg [iA ck,.sl V 0 vs.length]])::(V,.row 3 1 (vs'.map iA))::(C,.row 42 2 L1)::(I,.row 83 3 M1)::Sf⟩) (λq vs'=>q<=vs.length/\vs'.length=vs.length/\vs'.drop q=vs.drop q) (λq vs'=>vs.length-q) 0 vs ⟨Ap _,rfl,rfl⟩ ?_;rintro q vs' ⟨hq,hvl',hvd⟩;refine RG ?_;(repeat first|refine WO ?_|refine Ai λX=>?_|refine Ay λY=>?_);refine NL ?_;refine FL ?_;refine AB rfl (λhf=>?_) (λhf=>?_)
     ·have h3:q<vs.length:=by have:=AM hf;omega
      rw[DE h3]at hvd;obtain⟨hv1,hv2⟩:=Gm hvd;have hvv:=hvb _ (BG h3);obtain⟨g,hg⟩:∃g,vs[q]=g:=⟨_,rfl⟩;rw[hg]at hv1 hvv;have hat4:(vs'.map iA)[q]?=some (iA g):=by rw[Am,hv1];rfl
      have hml:(vs'.map iA).length=vs.length:=by rw[AD,hvl']
      have hst:(vs'.map iA).set q (iA (g+1))=(vs'.set q (g+1)).map iA:=by rw[A8]
      refine JB ?_;(repeat first|refine WO ?_|refine Ai λX=>?_|refine Ay λY=>?_);refine NL ?_;refine JB ?_;(repeat first|(refine AX ?_;first|refine DZ ?_ (Bh (g+1) rfl (by omega) rfl rfl))|refine WO ?_|refine Ai λX=>?_|refine Ay λY=>?_);refine NL ?_;dsimp only[A5,List.set_cons_zero,List.set_cons_succ];rw[hst];refine JB ?_;(repeat first|refine WO ?_|refine Ai λX=>?_|refine Ay λY=>?_);refine NL ?_;refine BV (q+1) (vs'.set q (g+1)) ⟨by omega,by rw[By];exact hvl',by rw[List.drop_set_of_lt (by omega)];exact hv2⟩
     ·have hLn:L.set j (.agg [iA ck,.lst true 3 1 (vs'.map iA)])=(cs'.set j ⟨ck,vs'⟩).map (AT true):=by rw[<-hL,A8];rfl
      refine FL ?_;refine Bg (X:=V) (Y:=C) (n:=vs.length) (ll:=vs'.map iA) (by exact AY) (by exact AY) (by rfl) (by simp[hvl']) (Hos.at hat3 (.agg (.tail (.head .here)))) ?_;rw[hL2,hLn];refine JB ?_;(repeat first|refine WO ?_|refine Ai λX=>?_|refine Ay λY=>?_);refine NL ?_;refine BV (j+1) (cs'.set j ⟨ck,vs'⟩) ⟨by omega,by rw[By];exact hcl',by rw[List.drop_set_of_lt (by omega)];exact hc2⟩
    ·have hMn:M.set i (.agg [iA en,iA (eg+3),.lst true 42 2 (cs'.map (AT true))])=(its.set i ⟨⟨en,eg+3⟩,cs'⟩).map (Aj true):=by rw[<-hM,A8];rfl
     refine JB ?_;(repeat first|(refine AX ?_;first|refine DZ ?_ (Bh (eg+3) rfl (by omega) rfl rfl))|refine WO ?_|refine Ai λX=>?_|refine Ay λY=>?_);refine NL ?_;dsimp only[A5,List.set_cons_zero,List.set_cons_succ];have hat5:(M1.set i (.agg [iA en,iA (eg+3),.sl C 0 cs.length]))[i]?=some (.agg [iA en,iA (eg+3),.sl C 0 cs.length]):=BF hM1;refine FL ?_;refine Bg (X:=C) (Y:=I) (n:=cs.length) (ll:=cs'.map (AT true)) (by exact AY) (by exact AY) (by rfl) (by simp[hcl']) (Hos.at hat5 (.agg (.tail (.tail (.head .here))))) ?_;rw[show(M1.set i (.agg [iA en,iA (eg+3),.sl C 0 cs.length])).set i (.agg [iA en,iA (eg+3),.lst true 42 2 (cs'.map (AT true))])=(its.set i ⟨⟨en,eg+3⟩,cs'⟩).map (Aj true)from by rw[List.set_set,hM2,hMn]];refine JB ?_;(repeat first|refine WO ?_|refine Ai λX=>?_|refine Ay λY=>?_);refine NL ?_;refine BV (i+1) (its.set i ⟨⟨en,eg+3⟩,cs'⟩) ⟨by omega,by rw[By];exact hl,by rw[List.drop_set_of_lt (by omega)];exact hd2⟩
   ·refine FL ?_
    refine Ed ?_;exact CA [] ⟨rfl,rfl⟩
theorem H6(l:List Comp)(hl:l.length<=1099511627776)(hv:∀c∈l,c.vals.length<=1099511627776):PS prog 42 [Bp false false l] (Bp true true l):=by
 refine Spec.of (nt:=27) (res:=[.tmp 2]) func42 rfl (by kernel_rfl) rfl rfl rfl λSf=>?_
 have hm0:(l.map (AT false)).length=l.length:=AD _;have hl':(l.map (AT false)).length<=1099511627776:=by simpa using hl
 (repeat first|(refine AX ?_;first|(refine PD ?_;refine GY (.agg [iA 0,.prim (.slice none 0 0)]) λK=>?_))|refine WK ?_|refine Ai λX=>?_|refine Ay λY=>?_);rw[hm0,show List.replicate l.length (AV.agg [iA 0,.prim (.slice none 0 0)])=EU (AT true) (.agg [iA 0,.prim (.slice none 0 0)]) l 0 from(HL ..).symm];refine B6 (λ(i:Nat) (M:List AV)=>⟨[(3,.sl K 0 l.length),(9,Bp false false l),(10,iA (l.length:Nat)),(11,iA i)],(K,.row 42 2 M)::Sf⟩) (λi M=>i<=l.length/\M=EU (AT true) (.agg [iA 0,.prim (.slice none 0 0)]) l i) (λi M=>l.length-i) 0 _ ⟨Ap _,rfl⟩ ?_;rintro i M ⟨hi,hM⟩;(repeat first|refine WK ?_|refine Ai λX=>?_|refine Ay λY=>?_);refine AB rfl (λhc=>?_) (λhc=>?_)
 ·have h:i<l.length:=by rw[As]at hc;omega
  have hat:=JU (AT true) (.agg [iA 0,.prim (.slice none 0 0)]) l h;have hset:=IR (AT true) (.agg [iA 0,.prim (.slice none 0 0)]) l h;have hMl:M.length=l.length:=by rw[hM];exact LF _ _ _ _ hi
  have hcv:=hv _ (BG h);rw[<-hM]at hat hset;obtain⟨⟨ck,vs⟩,hcc⟩:=nm (l[i]);rw[hcc]at hset hcv;have hlat:(l.map (AT false))[i]?=some (AT false ⟨ck,vs⟩):=by rw[Am,Ag h,hcc];rfl
  have hil:i<(l.map (AT false)).length:=by omega
  have hcl:=Fk vs (by dsimp only at hcv;omega);(repeat first|refine WK ?_|refine Ai λX=>?_|refine Ay λY=>?_);(repeat refine WF ?_);refine A9 λY=>?_
  refine RU ?_;(repeat first|(refine B0 ?_;first|refine GI hcl ?_)|(refine Bu ?_;first|refine GI hcl ?_)|refine RK ?_|refine RGo.nil (by kernel_rfl) ?_);(repeat refine WF ?_);have hMs:(M.set i (.agg [iA ck,.sl Y 0 (vs.map iA).length]))[i]?=some (.agg [iA ck,.sl Y 0 (vs.map iA).length]):=BF (by omega);refine Bg (X:=Y) (Y:=K) (by exact AY) (by exact AY) rfl rfl (Hos.at hMs (.agg (.tail (.head .here)))) ?_;rw[List.set_set];(repeat first|refine WK ?_|refine Ai λX=>?_|refine Ay λY=>?_);refine BV (i+1) _ ⟨h,?_⟩;exact hset
 ·have h:i=l.length:=by rw[Aq]at hc;omega
  subst h;rw[IS _ _ _ (AP _)]at hM;subst hM;(repeat first|refine WK ?_|refine Ai λX=>?_|refine Ay λY=>?_);refine RT ?_;exact⟨[.sl K 0 l.length],[.lst true 42 2 (l.map (AT true))],_,[],.cons (.tmp rfl) rfl .nil,.cons (.cell (.sl (p:=0) .here (AD _).symm)) .nil,by exact Av,rfl,rfl⟩
set_option maxRecDepth 8000 in
set_option maxHeartbeats 2000000 in
theorem LM(w:Wd)(hw:WdL w):PS prog 9 [wdA false w] (wdA true w):=by
 obtain⟨ks,gens,items⟩:=w;obtain⟨⟨hk0,hk1⟩,hg,hi0,hi1⟩:=hw;dsimp only at hk0 hk1 hg hi0 hi1;have hkc:=HI ks hk0 hk1;have hgc:=Fk gens (by omega);have hgm:(gens.map iA).length=gens.length:=AD _;have him:(items.map (Aj false)).length=items.length:=AD _;refine Spec.of (nt:=37) (res:=[.cell 2 26]) func9 rfl (by kernel_rfl) rfl rfl rfl λSf=>?_
 refine RG ?_;(repeat first|(refine AX ?_;first|(refine Gw ?_;refine BX ?_))|refine WO ?_|refine Ai λR=>?_|refine Ay λY=>?_);refine NL ?_;(repeat refine WF ?_);refine A9 λW3=>A9 λI=>A9 λG=>A9 λK=>?_
 refine RU ?_;(repeat first|(refine B0 ?_;first|refine GI hkc ?_|refine GI hgc ?_|refine RGo.s (W.make rfl rfl (by exact AY) rfl (.inl rfl) rfl rfl (AP _) (by rw[him];omega) (by rw[him];unfold maxLen;omega)) rfl ?_)|(refine Bu ?_;first|refine GI hkc ?_|refine GI hgc ?_|refine RGo.s (W.make rfl rfl (by exact AY) rfl (.inl rfl) rfl rfl (AP _) (by rw[him];omega) (by rw[him];unfold maxLen;omega)) rfl ?_)|refine RK ?_|refine RGo.nil (by kernel_rfl) ?_);have hz0:List.replicate (items.map (Aj false)).length (zAV [.int .i64 0,.int .i64 0,.slice none 0 0] true)=EU (Aj true) QV items 0:=by rw[HL,him];rfl
 rw[hz0];refine JB ?_;(repeat first|refine WO ?_|refine Ai λX=>?_|refine Ay λY=>?_);refine NL ?_;refine FL ?_;refine B6 (λ(i:Nat) (M:List AV)=>⟨[(2,.ptr R 0 0),(3,.ptr W3 0 0),(18,FN false false items),(19,iA (items.map (Aj false)).length),(20,iA i)],(K,.row 90 2 (ks.map (A3 true)))::(G,.row 3 1 (gens.map iA))::(I,.row 83 3 M)::(W3,.row 26 3 [.agg [.sl K 0 (ks.map (A3 true)).length,.sl G 0 (gens.map iA).length,.sl I 0 (items.map (Aj false)).length]])::(R,.row 26 3 [.agg [.prim (.slice none 0 0),.prim (.slice none 0 0),.prim (.slice none 0 0)]])::Sf⟩) (λi M=>i<=items.length/\M=EU (Aj true) QV items i) (λi _=>items.length-i) 0 _ ⟨Ap _,rfl⟩ ?_;rintro i M ⟨hi,hM⟩;(repeat first|refine WK ?_|refine Ai λX=>?_|refine Ay λY=>?_);refine AB rfl (λhc=>?_) (λhc=>?_)
 ·have h:i<items.length:=by rw[As,him]at hc;omega
  have hset:=IR (Aj true) QV items h;have hMat:M[i]?=some QV:=by rw[hM];exact JU _ _ _ h
  have hMl:M.length=items.length:=by rw[hM];exact LF _ _ _ _ hi
  have hcl:=hi1 _ (BG h);obtain⟨⟨⟨en,eg⟩,cs⟩,hit⟩:=nm (items[i]);rw[hit]at hset hcl;have hat:(items.map (Aj false))[i]?=some (Aj false ⟨⟨en,eg⟩,cs⟩):=by rw[Am,Ag h,hit];rfl
  have hil:i<(items.map (Aj false)).length:=by omega
  have hcc:=H6 cs hcl.1 hcl.2;have hcm:(cs.map (AT false)).length=cs.length:=AD _;(repeat first|refine WK ?_|refine Ai λV=>?_|refine Ay λY=>?_);refine A9 λY=>?_
  refine RU ?_;(repeat first|(refine B0 ?_;first|refine GI hcc ?_)|(refine Bu ?_;first|refine GI hcc ?_)|refine RK ?_|refine RGo.nil (by kernel_rfl) ?_);(repeat refine WF ?_);have hMs:(M.set i (.agg [iA en,iA eg,.sl Y 0 (cs.map (AT true)).length]))[i]?=some (.agg [iA en,iA eg,.sl Y 0 (cs.map (AT true)).length]):=by rw[BF (by omega)]
  refine Bg (X:=Y) (Y:=I) (by exact AY) (by exact AY) rfl rfl (Hos.at hMs (.agg (.tail (.tail (.head .here))))) ?_;rw[List.set_set];(repeat first|refine WK ?_|refine Ai λX=>?_|refine Ay λY=>?_);refine BV (i+1) _ ⟨h,?_⟩;rw[hM];exact hset
 ·have h:i=items.length:=by rw[Aq,him]at hc;omega
  subst h;rw[IS _ _ _ (AP _)]at hM;subst hM;have hkl:(ks.map (A3 true)).length=(ks.map (A3 true)).length:=rfl;have hI:(items.map (Aj false)).length=(items.map (Aj true)).length:=by simp
  (repeat first|refine WK ?_|refine Ai λX=>?_|refine Ay λY=>?_);refine RT ?_;exact⟨[.agg [.sl K 0 (ks.map (A3 true)).length,.sl G 0 (gens.map iA).length,.sl I 0 (items.map (Aj false)).length]],[wdA true ⟨ks,gens,items⟩],_,[],.cons (.cell (p:=4) rfl (by exact AY) TAg.h TSize.h rfl rfl) rfl .nil,.cons (.agg (.cons (.sl (p:=0) .here rfl) (.cons (.sl (p:=0) .here rfl) (.cons (.sl (p:=0) .here hI) .nil)))) .nil,by exact Av,rfl,rfl⟩
theorem MF(l:List Comp)(f:FuncId)(cap:List AV)(p:Comp->Bool)(hs:DG cap=true)(hl:l.length<=4611686018427387904)(hf:∀x∈l,PS prog f ((AT false) x::cap) (bA (p x))):PS prog 166 [.lst false 42 2 (l.map (AT false)),.fn f cap] (iA (K4 l p)):=by
 refine Sp (nt:=19) (res:=[.tmp 4]) func166 λSf=>?_
 refine KK ?_;refine DL (λi:Nat=>⟨[(0,.lst false 42 2 (l.map (AT false))),(1,.fn f cap),(7,iA (l.map (AT false)).length),(8,iA i)],Sf⟩) (λi=>i<=l.length/\∀j (h:j<l.length),j<i->p l[j]=false) (λi=>l.length-i) 0 ⟨Ap _,λj h hj=>absurd hj (by omega)⟩ ?_;rintro i ⟨hi,he⟩;refine KK ?_;refine AB rfl (λhc=>?_) (λhc=>?_)
 ·have h:i<l.length:=by simpa using hc
  refine KK ?_;refine Qm (h:=(hf _ (BG h))) (k:=?_);refine KK ?_;refine AB rfl (λhd=>?_) (λhd=>?_)
  ·refine KK ?_
   refine RT ?_;refine An ?_;rw[Mm h hd λj hj=>he j (by omega) hj]
  ·refine KK ?_
   refine DB (i+1) ⟨h,λj h1 h2=>?_⟩;by_cases e:j=i
   ·subst e;exact hd
   ·exact he j h1 (by omega)
 ·have h:¬i<l.length:=by simpa using hc
  refine JA ?_;refine An ?_;rw[Mn λj hj=>he j hj (by omega)]
theorem GT(l:List Comp)(f:FuncId)(cap:List AV)(p:Comp->Bool)(hs:DG cap=true)(hl:l.length<=4611686018427387904)(hf:∀x∈l,PS prog f ((AT false) x::cap) (bA (p x))):PS prog 105 [.lst false 42 2 (l.map (AT false)),.fn f cap] (bA (l.any p)):=by
 refine Sp (nt:=9) (res:=[.tmp 4]) func105 λSf=>?_
 refine KK ?_;refine Bw (h:=(MF l f cap p hs hl hf)) (k:=?_);refine JA ?_;refine An ?_;rw[<-Se]
section
open Go.Sort
theorem QZ(o c:Comp):PS prog 106 [AT false o,.fp (AT false c).cells] (bA (decide (o.kind=c.kind))):=by
 refine Sp (nt:=9) (res:=[.tmp 3]) func106 λSf=>?_
 refine WK ?_;refine WK ?_;refine BX ?_;refine JA ?_;refine An ?_;rfl
theorem UO(a b:Comp):PS prog 109 [AT false a,AT false b] (iA (Dl a.kind b.kind)):=by
 refine Sp (nt:=10) (res:=[.tmp 4]) func109 λSf=>?_
 refine WK ?_;refine WK ?_;refine BX ?_;refine BX ?_;refine KK ?_;refine Bw (h:=(Fs a.kind b.kind)) (k:=?_);refine JA ?_;refine An ?_;rfl
theorem Tj(ks:List Kind)(l:List Comp)(h12:ks.length<=12)(hl:l.length<=1099511627776):PS prog 44 [Bz false false ks,Bp false false l] (.tup [Bp true false (J2 ks l).1,iA (J2 ks l).2]):=by
 have hck:=LR ks;obtain⟨r,hr⟩:=nm (J2 ks l);rw[hr];unfold J2 at hr;have hlm:(l.map (AT false)).length=l.length:=AD _;have hkm:(ks.map (A3 false)).length=ks.length:=AD _;refine Sp (nt:=64) (res:=[.tmp 4,.tmp 5]) func44 λSf=>?_
 refine KK ?_;refine DQ (h:=(hck ..)) (k:=?_);refine KK ?_;refine AB rfl (λhc=>?_) (λhc=>?_)
 ·have hc:CL ks≠0:=by simpa using hc
  rw[A1 hc]at hr;subst hr;refine JA ?_;exact C3 [.prim (.slice none 0 0),iA (CL ks)] [Bp true false [],iA (CL ks)] (.cons (.cell .nil) (.cons (.cell .same) .nil))
 have hc:CL ks=0:=by simpa using hc
 rw[Ah (by simp[hc])]at hr;have hgo:=λh=>Oi (ks:=ks) (l:=l) (pre:=[]) (out:=[]) h (by simp) (by simp) (by simp)
 obtain⟨g,hg⟩:=nm (FR ks [] [] l);rw[hg]at hr hgo;refine KK ?_;refine AWP.adopt (d:=7) 42 2 rfl λO=>?_
 refine I5 (λ(q Y m:Nat) (M:List AV)=>⟨[(0,Bz false false ks),(1,Bp false false l),(7,.sl Y 0 m),(17,Bp false false l),(18,iA (l.map (AT false)).length),(19,iA q)],(Y,.row 42 2 M)::Sf⟩) (λq _ m M=>q<=l.length/\m=M.length/\m=q/\∃out:List Comp,M=out.map (AT false)/\FR ks (l.take q) out (l.drop q)=g) (λq _ _ _=>l.length-q) 0 O 0 [] ⟨Ap _,rfl,rfl,[],rfl,hg⟩ ?_;rintro q Y m M ⟨hq,hm,hmq,out,hM,hfold⟩;refine KK ?_;refine AB rfl (λhe=>?_) (λhe=>?_)
 ·have h:q<l.length:=by rw[As,hlm]at he;omega
  obtain⟨c,hcq⟩:=nm (l[q]);have hat:(l.map (AT false))[q]?=some (AT false c):=by rw[Am,Ag h,hcq];rfl
  rw[DE h,hcq,FR]at hfold;have hcf:=GT (l.take q) 106 [.fp (AT false c).cells] (λo=>decide (o.kind=c.kind)) rfl (by rw[BA];omega) (λo _=>QZ o c);obtain⟨ck,cv⟩:=c;dsimp only at hfold hcf;rw[F0]at hcf;refine KK ?_;refine Ai λV=>?_;refine KK ?_
  refine AB rfl (λhd=>?_) (λhd=>?_)
  ·have hb:ck<0\/(ks.length:Int)<=ck:=by simpa using hd
   rw[A1 hb]at hfold;subst hfold;rw[A1 (by decide)]at hr;subst hr;refine JA ?_;exact C3 [.prim (.slice none 0 0),iA 1] [Bp true false [],iA 1] (.cons (.cell .nil) (.cons (.cell .same) .nil))
  have hb:¬(ck<0\/(ks.length:Int)<=ck):=by simpa using hd
  rw[Ah hb]at hfold;obtain⟨j,hj⟩:∃j:Nat,ck=j:=⟨ck.toNat,by omega⟩;subst hj;have hjl:j<ks.length:=by omega
  rw[Co,Ag hjl]at hfold;obtain⟨k,hk⟩:=nm (ks[j]);rw[hk]at hfold;dsimp only at hfold;have hatk:(ks.map (A3 false))[j]?=some (A3 false k):=by rw[Am,Ag hjl,hk];rfl
  have hft:=Pk k cv;refine I6 [9] (X:=V) (by exact AY) (b:=AT false ⟨j,cv⟩) (hf:=⟨by show(AV.agg [iA (j:Int),BU false cv]).frz=_;exact Frz.h⟩) ?_ (by intro d hd;simp only[DO]at hd;subst hd;rfl)
  (iterate 6 refine WK ?_);refine AQ (W.hiL rfl rfl rfl (by rw[hlm];exact hq)) rfl ?_;refine WK ?_;refine Bw (h:=(hcf ..)) (k:=?_);refine KK ?_
  refine AB rfl (λhd2=>?_) (λhd2=>?_)
  ·rw[A1 hd2]at hfold
   subst hfold;rw[A1 (by decide)]at hr;subst hr;refine JA ?_;exact C3 [.prim (.slice none 0 0),iA 5] [Bp true false [],iA 5] (.cons (.cell .nil) (.cons (.cell .same) .nil))
  rw[Ah (by simp[hd2])]at hfold;refine RU ?_;(iterate 7 refine RK ?_);refine Je (h:=hft) (k:=?_);(iterate 5 refine RK ?_);refine RGo.nil (by kernel_rfl) ?_;refine KK ?_;refine AB rfl (λhd3=>?_) (λhd3=>?_)
  ·have hd3:(Ce k cv).2≠0:=by simpa using hd3
   rw[A1 hd3]at hfold;subst hfold;rw[A1 hd3]at hr;subst hr;refine JA ?_;exact C3 [.prim (.slice none 0 0),iA _] [Bp true false [],iA _] (.cons (.cell .nil) (.cons (.cell .same) .nil))
  have hd3:(Ce k cv).2=0:=by simpa using hd3
  rw[Ah (by simp[hd3])]at hfold;have hm1:m+1<=1099511627776:=by omega
  (iterate 8 refine WK ?_);refine D5 (AT false ⟨j,(Ce k cv).1⟩) ?_;refine WK ?_;refine Ay λY=>?_;refine KK ?_
  refine GP (q+1) Y (m+1) (M++[AT false ⟨j,(Ce k cv).1⟩]) ⟨h,by rw[Ax,hm];rfl,by omega,out++[⟨j,(Ce k cv).1⟩],by rw[hM,AJ];rfl,?_⟩;rw[Bt h,hcq];exact hfold
 ·have h:q=l.length:=by rw[Aq,hlm]at he;omega
  rw[h,DJ,C0,FR]at hfold;subst hfold;dsimp only at hr hgo;rw[Ah (by simp)]at hr;subst hr;obtain⟨hg1,hg2⟩:=hgo rfl;have hlen:out.length<=12:=CT (Ip Comp.kind _ _ hg1 hg2) h12;obtain⟨u,⟨hu1,hu2⟩,hsf⟩:=NK 109 [] (λx y=>Dl x.kind y.kind) rfl (QJ Comp.kind) (λx y=>UO x y) Y m out (by rw[hm,hM,AD]) hlen;rw[<-hM]at hsf;refine KK ?_;refine GE (h:=(hsf ..)) (k:=?_);refine KK ?_;have hu:u=Mi out:=Pe hg1 hu1 (hu2.imp λ{a b} hab=>by simp only[Ak,Aq,HO]at hab;omega);have hul:m=(u.map (AT false)).length:=by rw[hm,hM,AD,AD,hu1.length_eq]
  refine RT ?_;rw[<-hu];exact C3 [.sl Y 0 m,iA 0] [Bp true false u,iA 0] (.cons (.cell (.sl (p:=0) .here hul)) (.cons (.cell .same) .nil))
end
abbrev wdE:Wd:=⟨[],[],[]⟩
def En(w:Wd)(e:Ent):Wd×Int×Int:=
 if ET w≠0 then(wdE,0,ET w)else if Dg w.items e<0 then(wdE,0,4)else(w,Dg w.items e,0)
theorem TW.fz{a b:AV}[h:Frz a b]:TW a b []:=h.h▸ .frz
theorem TV.pr{u:Value}:TV (.prim u) (.prim u) []:=.cell .frz rfl rfl
section
open Go.Sort
theorem UH(f:FuncId)(cap:List AV)(hst:DG cap=true)(X n:Nat)(l:List AV)(hn:n=l.length)(h1:l.length<=1):PO prog 221 [.sl X 0 n,iA 0,iA n,.fn f cap] X (.row 42 2 l) (.tup []) (.row 42 2 l):=by
 refine Spec.of (nt:=53) (res:=[]) func221 rfl (by kernel_rfl) rfl rfl rfl λSf=>?_
 (repeat first|refine WK ?_|refine Ai λX=>?_|refine Ay λY=>?_);refine DL (λ_:Unit=>⟨[(0,.sl X 0 n),(1,iA 0),(2,iA n),(3,.fn f cap),(8,iA 1)],(X,.row 42 2 l)::Sf⟩) (λ_=>True) (λ_=>0) () C9 ?_;rintro _ _;(repeat first|refine WK ?_|refine Ai λX=>?_|refine Ay λY=>?_);refine Aa rfl (Bd (by omega)) ?_;(repeat first|refine WK ?_|refine Ai λX=>?_|refine Ay λY=>?_);refine Ed ?_;exact CA [(X,_)] ⟨rfl,rfl⟩
theorem T5(f:FuncId)(cap:List AV)(hst:DG cap=true)(X n limit:Nat)(l:List AV)(hn:n=l.length)(h1:l.length<=1):PO prog 168 [.sl X 0 n,iA 0,iA n,iA limit,.fn f cap] X (.row 42 2 l) (.tup []) (.row 42 2 l):=by
 have hs:=UH f cap hst X n l hn h1;refine Spec.of (nt:=148) (res:=[]) func168 rfl (by kernel_rfl) rfl rfl rfl λSf=>?_
 (repeat first|refine WK ?_|refine Ai λX=>?_|refine Ay λY=>?_);refine DL (λ_:Unit=>⟨[(0,.sl X 0 n),(1,iA 0),(2,iA n),(3,iA limit),(4,.fn f cap)],(X,.row 42 2 l)::Sf⟩) (λ_=>True) (λ_=>0) () C9 ?_;rintro _ _;refine AWP.block ?_;(repeat first|(refine AX ?_;first|refine AQ (BS (n:Int) (by omega) (by omega) rfl rfl) rfl ?_)|refine WK ?_|refine Ai λX=>?_|refine Ay λY=>?_);refine BE rfl (Br (by omega)) ?_;(repeat first|(refine AX ?_;first|(refine AZ ?_;first|refine Gv (h:=(hs ..)) (k:=?_)))|refine WK ?_|refine Ai λX=>?_|refine Ay λY=>?_);refine RT ?_;exact CA [(X,_)] ⟨rfl,rfl⟩
set_option maxRecDepth 8000 in
theorem SH(f:FuncId)(cap:List AV)(hst:DG cap=true)(X n:Nat)(l:List AV)(hn:n=l.length)(h1:l.length<=1):PO prog 108 [.sl X 0 n,.fn f cap] X (.row 42 2 l) (.tup []) (.row 42 2 l):=by
 have e1:(UInt64.ofNat n).toNat=n:=by rw[C2];omega
 have hlen:=NQ (UInt64.ofNat n) (by rw[e1];omega);rw[e1]at hlen;have hs:=T5 f cap hst X n (bitsLen n) l hn h1;refine Spec.of (nt:=14) (res:=[]) func108 rfl (by kernel_rfl) rfl rfl rfl λSf=>?_
 (repeat first|(refine AX ?_;first|(refine AZ ?_;first|refine DQ (h:=(hlen ..)) (k:=?_)|refine Hu (h:=(hs ..)) (k:=?_))|refine AQ (LY .i64 n rfl (by omega) (by kernel_rfl) (by kernel_rfl) rfl) rfl ?_)|refine WK ?_|refine Ai λX=>?_|refine Ay λY=>?_);refine Ed ?_;exact CA [(X,_)] ⟨rfl,rfl⟩
theorem R4(ks:List Kind)(h12:ks.length<=12)(hk:CL ks=0):PS prog 44 [Bz false false ks,.prim (.slice none 0 0)] (.tup [Bp true true [],iA 0]):=by
 have h:=Tj ks [] h12 (Ap _);have h2:J2 ks []=([],0):=by unfold J2;rw[Ah (by simp[hk]),show FR ks [] [] []=([],0)from by rw[FR],Ah (by simp)];simp[Mi]
 rw[h2]at h;exact PS.lend h rfl (.cons Ld.fz (.cons .nil .nil))
set_option maxRecDepth 8000 in
set_option maxHeartbeats 2000000 in
theorem R3(ks:List Kind)(h12:ks.length<=12)(hc:CL ks=0)(j:Nat)(k:Kind)(cv vs:List Int)(hk:ks[j]?=some k)(hf:Ce k cv=(vs,0)):PS prog 44 [Bz false false ks,Bp false false [⟨j,cv⟩]] (.tup [Bp true true [⟨j,vs⟩],iA 0]):=by
 have hck:=LR ks;rw[hc]at hck;have hkm:(ks.map (A3 false)).length=ks.length:=AD _;obtain⟨hjl,_⟩:=AC.1 hk;have hatk:(ks.map (A3 false))[j]?=some (A3 false k):=by rw[Am,hk];rfl
 have hft:=Pk k cv;rw[hf]at hft;dsimp only at hft;have hcf:=GT [] 106 [.fp (AT false ⟨j,cv⟩).cells] (λo=>decide (o.kind=(j:Int))) rfl (by simp) (λo _=>QZ o ⟨j,cv⟩);have hb0:decide ((j:Int)<0)=false:=Bd (by omega);have hb1:decide ((j:Int)>=(ks.length:Nat))=false:=Bd (by omega);refine Spec.of (nt:=64) (res:=[.tmp 4,.tmp 5]) func44 rfl (by kernel_rfl) rfl rfl rfl λSf=>?_
 (repeat first|(refine AX ?_;first|(refine AZ ?_;first|refine DQ (h:=(hck ..)) (k:=?_)))|refine WK ?_|refine Ai λX=>?_|refine Ay λY=>?_);refine Aa rfl rfl ?_;(repeat first|refine WK ?_|refine Ai λX=>?_|refine Ay λY=>?_);refine AWP.adopt (d:=7) 42 2 rfl λO=>?_
 refine I5 (λ(q Y m:Nat) (M:List AV)=>⟨[(0,Bz false false ks),(1,Bp false false [⟨j,cv⟩]),(7,.sl Y 0 m),(17,Bp false false [⟨j,cv⟩]),(18,iA 1),(19,iA q)],(Y,.row 42 2 M)::Sf⟩) (λq _ m M=>m=M.length/\(q=0/\M=[]\/q=1/\M=[AT true ⟨j,vs⟩])) (λq _ _ _=>1-q) 0 O 0 [] ⟨rfl,.inl ⟨rfl,rfl⟩⟩ ?_;rintro q Y m M ⟨hm,⟨rfl,hM⟩|⟨rfl,hM⟩⟩
 ·have hm1:m+1<=1099511627776:=by rw[hm,hM];decide
  (repeat first|refine WK ?_|refine Ai λX=>?_|refine Ay λY=>?_);refine BE rfl (by decide) ?_;(repeat first|refine WK ?_|refine Ai λV=>?_|refine Ay λY=>?_);refine Aa rfl (by rw[hkm];exact hb1) ?_;refine I6 [9] (X:=V) (by exact AY) (b:=AT false ⟨j,cv⟩) (hf:=⟨by show(AV.agg [iA (j:Int),BU false cv]).frz=_;exact Frz.h⟩) ?_ (by intro d hd;simp only[DO]at hd;subst hd;rfl);(repeat first|(refine AX ?_;first|(refine AZ ?_;first|refine Bw (h:=(hcf ..)) (k:=?_))|refine AQ (W.hiL rfl rfl (a:=0) rfl (Ap _)) rfl ?_)|refine WK ?_|refine Ai λX=>?_|refine Ay λY=>?_);refine Aa rfl rfl ?_;refine FL ?_;(repeat refine WF ?_);refine A9 λV2=>?_
  refine RU ?_;(repeat first|(refine B0 ?_;first|refine Nn hft (.tup (.cons (.cell (.lst (Y:=V2) rfl) rfl rfl) rfl rfl (.cons .pr rfl rfl .nil))) ?_)|(refine Bu ?_;first|refine Nn hft (.tup (.cons (.cell (.lst (Y:=V2) rfl) rfl rfl) rfl rfl (.cons .pr rfl rfl .nil))) ?_)|refine RK ?_|refine RGo.nil (by kernel_rfl) ?_);refine JB ?_;(repeat first|refine WO ?_|refine Ai λX=>?_|refine Ay λY=>?_);refine NL ?_;refine Aa rfl rfl ?_;rw[show(vs.map iA).length=vs.length from AD _];refine JB ?_;(repeat first|(refine AX ?_;first|(refine Id ?_;refine D5 (AV.agg [iA (j:Nat),.sl V2 0 vs.length]) ?_))|refine WO ?_|refine Ai λX=>?_|refine Ay λY=>?_);refine NL ?_;refine Bg (X:=V2) (Y:=Y) (n:=vs.length) (ll:=vs.map iA) (by exact AY) (by exact AY) (by rfl) (AD _).symm (Lo (.agg (.tail (.head .here))) M) ?_;refine JB ?_;(repeat first|refine WO ?_|refine Ai λX=>?_|refine Ay λY=>?_);refine NL ?_;refine GP 1 _ _ _ ⟨?_,.inr ⟨rfl,?_⟩⟩
  ·rw[Ax,hm];rfl
  ·rw[hM];rfl
 ·subst hM
  subst hm;have hsf:=SH 109 [] rfl Y 1 [AT true ⟨j,vs⟩] rfl (AP _);(repeat first|refine WK ?_|refine Ai λX=>?_|refine Ay λY=>?_);refine Aa rfl (by decide) ?_;(repeat first|(refine AX ?_;first|(refine AZ ?_;first|refine GE (h:=(hsf ..)) (k:=?_)))|refine WK ?_|refine Ai λX=>?_|refine Ay λY=>?_);refine RT ?_;exact C3 [.sl Y 0 1,iA 0] [Bp true true [⟨j,vs⟩],iA 0] (.cons (.cell (.sl (p:=0) .here rfl)) (.cons (.cell .same) .nil))
end
theorem HM{l:List α}(h:i<l.length)(z:List α):(l.take i++(l.drop (i+1)).take (l.length-(i+1))++z).take (i+(l.length-(i+1)))=l.eraseIdx i:=by
 rw[Al (l:=l.drop (i+1)) (by rw[Bb];omega),EO];rw[Bq (by simp;omega),Al (by simp;omega)]
theorem Pu(X n i:Nat)(l:List AV)(hn:n=l.length)(hi:i<n)(hl:n<=1099511627776)(hfr:FreeL l)(hw:∀e∈l,e.width=3):
  Spec prog 52 [.sl X 0 n,iA i,iA ((i:Int)+1)] [(X,.row 83 3 l)] λr S'=>r= .lst true 83 3 (l.eraseIdx i)/\S'=[]:=by
 subst hn;refine Spec.of (nt:=33) (res:=[.tmp 6]) func52 rfl (by kernel_rfl) rfl rfl rfl λSf=>?_
 have h1:((i:Int)+1)=((i+1:Nat):Int):=by omega
 refine RG ?_;(repeat first|refine WO ?_|refine Ai λX=>?_|refine Ay λY=>?_);refine NL ?_;refine RG ?_;(repeat first|(refine AX ?_;first|refine AQ (W.slice3 (lo:=i) (hi:=i+1) (mx:=l.length) rfl rfl rfl rfl (by exact AY) rfl h1 rfl (by omega) (by omega) (AP _)) rfl ?_)|refine WO ?_|refine Ai λX=>?_|refine Ay λY=>?_);refine NL ?_;refine RG ?_;(repeat first|refine WO ?_|refine Ai λX=>?_|refine Ay λY=>?_);refine NL ?_;refine Aa rfl (Bd (by omega)) ?_;refine RG ?_;(repeat first|refine WO ?_|refine Ai λX=>?_|refine Ay λY=>?_);refine NL ?_;have hel:(l.eraseIdx i).length=l.length-1:=List.length_eraseIdx_of_lt hi;rcases Ga (i+1) l.length with hj|hj
 ·have hp:=HM hi
  refine RU ?_;(repeat first|(refine B0 ?_;first|refine RGo.p (W.hi rfl rfl (by exact AY) rfl (by omega)) rfl ?_|refine RGo.p (W.slice_lo (lo:=i+1) rfl rfl (by exact AY) h1 (by omega)) rfl ?_|refine RGo.s (W.appS (l.length-(i+1)) (by omega) (by omega) (by omega) hfr hw rfl rfl (by exact AY)) rfl ?_)|(refine Bu ?_;first|refine RGo.p (W.hi rfl rfl (by exact AY) rfl (by omega)) rfl ?_|refine RGo.p (W.slice_lo (lo:=i+1) rfl rfl (by exact AY) h1 (by omega)) rfl ?_|refine RGo.s (W.appS (l.length-(i+1)) (by omega) (by omega) (by omega) hfr hw rfl rfl (by exact AY)) rfl ?_)|refine RK ?_|refine RGo.nil (by kernel_rfl) ?_);rw[Af];have hln:i+(l.length-(i+1))=l.length-1:=by omega
  have hLl:(l.take i++(l.drop (i+1)).take (l.length-(i+1))++l.drop (i+(l.length-(i+1)))).length=l.length:=by simp only[Ax,BA,Bb];omega
  have hLp:=hp (l.drop (i+(l.length-(i+1))));obtain⟨L',hL'⟩:∃L',l.take i++(l.drop (i+1)).take (l.length-(i+1))++l.drop (i+(l.length-(i+1)))=L':=⟨_,rfl⟩;rw[hL']at hLl hLp⊢
  have key:∀Z D,((L'.take (i+(l.length-(i+1)))++Z)++D).take (i+(l.length-(i+1)))=l.eraseIdx i:=λZ D=>by
   rw[BC,Bq (by rw[BA];omega),Cj,Lw,hLp]
  refine RG ?_;(repeat first|(refine AX ?_;first|refine AQ (Nk (lo:=i+(l.length-(i+1))) (hi:=l.length) rfl rfl rfl (by exact AY) rfl rfl (by omega) (by omega)) rfl ?_|refine CM (W.clear rfl (by exact AY) (by first|exact .inl rfl|exact .inr rfl) rfl (by omega)) rfl ?_)|refine WO ?_|refine Ai λX=>?_|refine Ay λY=>?_);refine NL ?_;refine RG ?_;(repeat first|refine WO ?_|refine Ai λX=>?_|refine Ay λY=>?_);refine NL ?_;refine Gt (X:=X) (i+(l.length-(i+1))) ?_;rw[Af,key];refine RT ?_;exact⟨[.sl X 0 (i+(l.length-(i+1)))],[.lst true 83 3 (l.eraseIdx i)],_,[],.cons (.tmp rfl) rfl .nil,.cons (.cell (.sl (p:=0) .here (by rw[hel];omega))) .nil,by exact Av,rfl,rfl⟩
 ·have hie:i=l.length-1:=by omega
  have hl0:l.length-(i+1)=0:=by omega
  have hle:l.eraseIdx i=l.take i:=by rw[EO,BP (by omega),BL]
  have key:∀Z D,((l.take i++Z)++D).take i=l.eraseIdx i:=λZ D=>by
   rw[BC,Bq (by rw[BA];omega),Cj,Lw,hle]
  refine RU ?_;(repeat first|(refine B0 ?_;first|refine RGo.p (W.hi rfl rfl (by exact AY) rfl (by omega)) rfl ?_|(refine RGo.p (W.slice_lo (lo:=i+1) rfl rfl (by exact AY) h1 (by omega)) rfl ?_;rw[hl0])|refine RGo.p (W.app0 rfl rfl (by exact AY)) rfl ?_)|(refine Bu ?_;first|refine RGo.p (W.hi rfl rfl (by exact AY) rfl (by omega)) rfl ?_|(refine RGo.p (W.slice_lo (lo:=i+1) rfl rfl (by exact AY) h1 (by omega)) rfl ?_;rw[hl0])|refine RGo.p (W.app0 rfl rfl (by exact AY)) rfl ?_)|refine RK ?_|refine RGo.nil (by kernel_rfl) ?_);refine RG ?_;(repeat first|(refine AX ?_;first|refine AQ (Nk (lo:=i) (hi:=l.length) rfl rfl rfl (by exact AY) rfl rfl (by omega) (by omega)) rfl ?_|refine CM (W.clear rfl (by exact AY) (by first|exact .inl rfl|exact .inr rfl) rfl (by omega)) rfl ?_)|refine WO ?_|refine Ai λX=>?_|refine Ay λY=>?_);refine NL ?_;refine RG ?_;(repeat first|refine WO ?_|refine Ai λX=>?_|refine Ay λY=>?_);refine NL ?_;refine Gt (X:=X) i ?_;simp only[Af];rw[key];refine RT ?_;exact⟨[.sl X 0 i],[.lst true 83 3 (l.eraseIdx i)],_,[],.cons (.tmp rfl) rfl .nil,.cons (.cell (.sl (p:=0) .here (by rw[hel];omega))) .nil,by exact Av,rfl,rfl⟩
def itL(X:Nat)(it:Item):AV:=.agg [iA it.ent.n,iA it.ent.gen,.sl X 0 (it.comps.map (AT true)).length]
abbrev itP(x:Nat×Item):AV:=itL x.1 x.2
theorem hoI(a:Item)(X:Nat):Ho (.lst true 42 2 (a.comps.map (AT true))) (.sl X 0 (a.comps.map (AT true)).length) (Aj true a) (itL X a):=.agg (.tail (.tail (.head .here)))
theorem hcI(a:Item)(X:Nat):Ho (.sl X 0 (a.comps.map (AT true)).length) (.lst true 42 2 (a.comps.map (AT true))) (itL X a) (Aj true a):=.agg (.tail (.tail (.head .here)))
theorem OV(x:Nat×Item):FreeE (itL x.1 x.2):=.agg λy hy=>by
 simp only[Cq,DK,II]at hy;rcases hy with rfl|rfl|rfl
 ·exact .prim _
 ·exact .prim _
 ·exact λm c bs k=>k.1
theorem Mj(L:List (Nat×Item)):FreeL (L.map λx=>itL x.1 x.2):=λx hx=>by obtain⟨y,_,rfl⟩:=BH.1 hx;exact OV y
theorem OU(L:List (Nat×Item)):∀x∈L.map (λx=>itL x.1 x.2),x.width=3:=λx hx=>by obtain⟨y,_,rfl⟩:=BH.1 hx;rfl
theorem JR(w:Wd)(e:Ent)(hw:WdL w):PS prog 51 [wdA false w,CH e] (.tup [wdA true (En w e).1,iA (En w e).2.1,iA (En w e).2.2]):=by
 have hck:=Hm w hw.gens hw.items.1 (λit hit=>(hw.items.2 it hit).1);have hfd:=Oj w e (by have:=hw.items.1;omega);have hcp:=LM w hw;obtain⟨r,hr⟩:=nm (En w e);rw[hr];unfold En at hr;obtain⟨we,hwe⟩:=nm (ET w);rw[hwe]at hck hr;refine Spec.of (nt:=24) (res:=[.cell 4 26,.tmp 5,.tmp 6]) func51 rfl (by kernel_rfl) rfl rfl rfl λSf=>?_
 refine RG ?_;(repeat first|(refine AX ?_;first|(refine Gw ?_;refine BX ?_))|refine WO ?_|refine Ai λR=>?_|refine Ay λY=>?_);refine NL ?_;refine RG ?_;(repeat first|(refine AX ?_;first|(refine AZ ?_;first|refine DQ (h:=(hck ..)) (k:=?_)))|refine WO ?_|refine Ai λX=>?_|refine Ay λY=>?_);refine NL ?_;refine RG ?_;(repeat first|refine WO ?_|refine Ai λX=>?_|refine Ay λY=>?_);refine NL ?_;refine AB rfl (λhd=>?_) (λhd=>?_)
 ·have hd:we≠0:=by simpa using hd
  rw[A1 hd]at hr;subst hr;(repeat first|refine WK ?_|refine Ai λX=>?_|refine Ay λY=>?_);refine RT ?_;exact C3 [.agg [.prim (.slice none 0 0),.prim (.slice none 0 0),.prim (.slice none 0 0)],iA 0,iA we] [wdA true wdE,iA 0,iA we] (.cons (.agg (.cons .nil (.cons .nil (.cons .nil .nil)))) (.cons (.cell .same) (.cons (.cell .same) .nil)))
 have hd:we=0:=by simpa using hd
 rw[Ah (by simp[hd])]at hr;refine RG ?_;(repeat first|(refine AX ?_;first|(refine AZ ?_;first|refine Bw (h:=(hfd ..)) (k:=?_)))|refine WO ?_|refine Ai λX=>?_|refine Ay λY=>?_);refine NL ?_;(repeat first|refine WK ?_|refine Ai λX=>?_|refine Ay λY=>?_);refine AB rfl (λhg=>?_) (λhg=>?_)
 ·have hg:Dg w.items e<0:=by simpa using hg
  rw[A1 hg]at hr;subst hr;(repeat first|refine WK ?_|refine Ai λX=>?_|refine Ay λY=>?_);refine RT ?_;exact C3 [.agg [.prim (.slice none 0 0),.prim (.slice none 0 0),.prim (.slice none 0 0)],iA 0,iA 4] [wdA true wdE,iA 0,iA 4] (.cons (.agg (.cons .nil (.cons .nil (.cons .nil .nil)))) (.cons (.cell .same) (.cons (.cell .same) .nil)))
 have hg:¬Dg w.items e<0:=by simpa using hg
 rw[Ah hg]at hr;subst hr;refine A9 λI=>A9 λG=>A9 λK=>?_
 (repeat first|(refine AX ?_;first|(refine AZ ?_;first|refine Nv hcp (.v (.agg (.cons (.lst (Y:=K) rfl) (.cons (.lst (Y:=G) rfl) (.cons (.lst (Y:=I) rfl) .nil))))) ?_))|refine WK ?_|refine Ai λX=>?_|refine Ay λY=>?_);refine RT ?_;exact C3 [.agg [.sl K 0 (w.kinds.map (A3 true)).length,.sl G 0 (w.gens.map iA).length,.sl I 0 (w.items.map (Aj true)).length],iA _,iA 0] [wdA true w,iA _,iA 0] (.cons (.agg (.cons (.sl (p:=0) .here rfl) (.cons (.sl (p:=0) .here rfl) (.cons (.sl (p:=0) .here rfl) .nil)))) (.cons (.cell .same) (.cons (.cell .same) .nil)))
set_option maxRecDepth 8000 in
set_option maxHeartbeats 2000000 in
theorem SY(w:Wd)(e:Ent)(hw:WdL w):PS prog 12 [wdA false w,CH e] (.tup [wdA true (HJ w e).1,iA (HJ w e).2]):=by
 have hfd:=JR w e hw;obtain⟨r,hr⟩:=nm (HJ w e);rw[hr];unfold HJ at hr;obtain⟨v,hv⟩:=nm (En w e);rw[hv]at hfd;unfold En at hv;obtain⟨we,hwe⟩:=nm (ET w);rw[hwe]at hv hr;refine Spec.of (nt:=35) (res:=[.cell 4 26,.tmp 5]) func12 rfl (by kernel_rfl) rfl rfl rfl λSf=>?_
 (repeat refine WF ?_);refine E8 ?_;refine EY λP=>?_
 refine BX ?_;refine EY λR=>?_
 (repeat first|refine WO ?_|refine Ai λX=>?_|refine Ay λY=>?_);refine FL ?_;refine A9 λI=>A9 λG=>A9 λK=>?_
 refine RG ?_;(repeat first|(refine AX ?_;first|(refine AZ ?_;first|refine Fd hfd (.tup (.cons (.agg (.cons (.lst (Y:=K) rfl) (.cons (.lst (Y:=G) rfl) (.cons (.lst (Y:=I) rfl) .nil)))) rfl rfl (.cons .pr rfl rfl (.cons .pr rfl rfl .nil)))) ?_))|refine WO ?_|refine Ai λX=>?_|refine Ay λY=>?_);refine FL ?_;(repeat first|refine WK ?_|refine Ai λX=>?_|refine Ay λY=>?_);by_cases hd:we≠0
 ·rw[A1 hd]at hv hr
  subst hv;subst hr;refine BE rfl (Br hd) ?_;(repeat first|refine WK ?_|refine Ai λX=>?_|refine Ay λY=>?_);refine RT ?_;exact C3 [.agg [.prim (.slice none 0 0),.prim (.slice none 0 0),.prim (.slice none 0 0)],iA we] [wdA true wdE,iA we] (.cons (.agg (.cons .nil (.cons .nil (.cons .nil .nil)))) (.cons (.cell .same) .nil))
 rw[Ah hd]at hv hr;by_cases hg:Dg w.items e<0
 ·rw[A1 hg]at hv hr
  subst hv;subst hr;refine BE rfl rfl ?_;(repeat first|refine WK ?_|refine Ai λX=>?_|refine Ay λY=>?_);refine RT ?_;exact C3 [.agg [.prim (.slice none 0 0),.prim (.slice none 0 0),.prim (.slice none 0 0)],iA 4] [wdA true wdE,iA 4] (.cons (.agg (.cons .nil (.cons .nil (.cons .nil .nil)))) (.cons (.cell .same) .nil))
 rw[Ah hg]at hv hr;obtain⟨n,hn⟩:∃n:Nat,Dg w.items e=n:=⟨(Dg w.items e).toNat,by omega⟩;rw[hn,Co]at hr;rw[hn]at hv;subst hv;obtain⟨it,hit,_,hen⟩:=Gk hn;have hok:=(EP w).1 (hwe.trans (by simpa using hd));obtain⟨q1,q2,q3,q4,q5⟩:=hok.it it (Bc hit);rw[hen]at q1 q2 q3 q4;obtain⟨en,eg⟩:=e;dsimp only at q1 q2 q3 q4 hr;obtain⟨j,hj⟩:∃j:Nat,en=j:=⟨en.toNat,by omega⟩;subst hj;rw[Co]at q3 hr;have hatg:(w.gens.map iA)[j]?=some (iA eg):=by rw[Am,q3];rfl
 have hgr:=hok.gs eg (Bc q3);have hgd:w.gens.getD j 0=eg:=by rw[D2,q3];rfl
 have hgm:(w.gens.map iA).length=w.gens.length:=AD _;have him:(w.items.map (Aj true)).length=w.items.length:=AD _;have hnl:n<w.items.length:=(AC.1 hit).1;have hil:=hw.items.1;refine Aa rfl rfl ?_;(repeat refine WF ?_);refine RG ?_;(repeat first|(refine AX ?_;first|refine AQ (Bh (eg+1) rfl (by omega) rfl rfl) rfl ?_)|refine WO ?_|refine Ai λX=>?_|refine Ay λY=>?_);refine NL ?_;(repeat refine WF ?_);refine AH I ?_;refine GX hoI w.items _ λL hL=>?_
 have hLl:L.length=w.items.length:=by rw[<-hL,AD]
 have hLm:(L.map λx=>itL x.1 x.2).length=w.items.length:=by rw[AD,hLl]
 refine A9 λY=>?_
 have hdel:=(Pu I (w.items.map (Aj true)).length n (L.map λx=>itL x.1 x.2) (by rw[him,hLm]) (by rw[him];exact hnl) (by rw[him];exact hw.items.1) (Mj L) (OU L)).used;refine RG ?_;(repeat first|(refine AX ?_;first|(refine AZ ?_;first|refine I8 hdel (.ls (Y:=Y)) ?_)|refine AQ (Bh ((n:Int)+1) rfl (by omega) rfl rfl) rfl ?_)|refine WO ?_|refine Ai λX=>?_|refine Ay λY=>?_);refine NL ?_;(repeat refine WF ?_);have he:(L.map λx=>itL x.1 x.2).eraseIdx n=(L.eraseIdx n).map λx=>itL x.1 x.2:=(E0 _ _ _).symm
 have heL:(L.eraseIdx n).map (·.2)=w.items.eraseIdx n:=by rw[E0,hL]
 have hel:((L.map λx=>itL x.1 x.2).eraseIdx n).length=(w.items.eraseIdx n).length:=by rw[he,AD,<-heL,AD]
 rw[hel,he];refine AH G ?_;refine AH K ?_;refine AH R ?_;refine AH P ?_;refine AH Y ?_;refine Fw hcI (L.eraseIdx n) ((P,_)::(R,_)::(K,_)::(G,_)::(I,_)::Sf) (L.map (lvO 42 2 λa=>a.comps.map (AT true))) _ (.refl _) ((List.eraseIdx_sublist L n).map _) ?_;rw[heL];have hs:(w.gens.map iA).set j (iA (eg+1))=(w.gens.set j (eg+1)).map iA:=by rw[A8]
 have hsl:(w.gens.map iA).length=((w.gens.set j (eg+1)).map iA).length:=by simp
 have hyl:(w.items.eraseIdx n).length=((w.items.eraseIdx n).map (Aj true)).length:=(AD _).symm;rw[hgd]at hr;subst hr;(repeat first|refine WK ?_|refine Ai λX=>?_|refine Ay λY=>?_);refine RT ?_;rw[hs];exact C3 [.agg [.sl K 0 (w.kinds.map (A3 true)).length,.sl G 0 (w.gens.map iA).length,.sl Y 0 (w.items.eraseIdx n).length],iA 0] [wdA true ⟨w.kinds,w.gens.set j (eg+1),w.items.eraseIdx n⟩,iA 0] (.cons (.agg (.cons (.sl (p:=3) (.next (.next (.next .here))) rfl) (.cons (.sl (p:=3) (.next (.next (.next .here))) hsl) (.cons (.sl (p:=0) .here hyl) .nil)))) (.cons (.cell .same) .nil))
theorem Pi(X V n i:Nat)(l:List AV)(e:AV)(hn:n=l.length)(hi:i<=n)(hb:(n+1)*32<=140737488355328)(hfr:FreeL l)(hfe:FreeE e)(hw:∀x∈l,x.width=2)(hwe:e.width=2)(hze:AV.frzs [e]=[e]):
  Spec prog 54 [.sl X 0 n,iA i,.sl V 0 1] [(X,.row 42 2 l),(V,.row 42 2 [e])] λr S'=>r= .lst true 42 2 (l.take i++e::l.drop i)/\S'=[]:=by
 refine Sp (nt:=95) (res:=[.tmp 6]) func54 λSf=>?_
 have hfV:FreeL [e]:=λx hx=>by rw[AS.1 hx];exact hfe
 have hwV:∀x∈[e],x.width=2:=λx hx=>by rw[AS.1 hx];exact hwe
 refine R1 ?_;refine RG ?_;refine WO ?_;refine WO ?_;refine AQ (W.slice_lo rfl rfl (by exact AY) rfl (by omega)) rfl ?_;refine NL ?_;refine R1 ?_;refine R1 ?_;refine Aa rfl rfl ?_;refine R1 ?_;refine R1 ?_;by_cases hin:i=n
 ·refine BE rfl (Br (by omega)) ?_
  refine Ls 2 [e] hze ?_;have hbb:(n+[e].length)*32<=140737488355328:=hb;refine KK ?_;refine Ay λY=>?_;refine KK ?_
  refine RT ?_;have hm:n+[e].length=(l++[e]).length:=by rw[Ax,hn]
  have hr:l++[e]=l.take i++e::l.drop i:=by rw[hin,hn,DJ,C0]
  rw[<-hr];exact⟨[.sl Y 0 (n+[e].length)],[.lst true 42 2 (l++[e])],_,[],.cons (.tmp rfl) rfl .nil,.cons (.cell (.sl (p:=0) .here hm)) .nil,by exact Av,rfl,rfl⟩
 ·refine Aa rfl (Bd (by omega)) ?_
  refine AWP.cap X λZ c u0 hc hnc=>?_
  refine RG ?_;(iterate 4 refine WO ?_);refine AQ (W.cap hc rfl (by exact AY) (by exact AY)) rfl ?_;refine JC ?_;refine AB rfl (λhg=>?_) (λhg=>?_)
  ·have hcn:c<n+1:=by rw[As]at hg;omega
   refine A9 λY=>?_
   refine RG ?_;(repeat first|(refine AX ?_;first|refine AQ (W.hi (a:=i) rfl rfl (by exact AY) rfl hi) rfl ?_|refine AQ (BS ((n+1-i:Nat):Int) (by omega) (by omega) rfl rfl) rfl ?_|refine CM (Nl (n+1-i) hc rfl rfl (by exact AY) (by exact AY) (by exact AY) rfl (by exact .inl rfl) (by rfl) (by kernel_rfl) (by omega) (by omega) (by decide) (by omega) (by omega) hfr) rfl ?_)|refine WO ?_|refine Ai λX=>?_|refine Ay λY=>?_);have hsum:i+(n+1-i)=n+1:=by omega
   obtain⟨l1,hl1⟩:=nm (l.take i++List.replicate (n+1-i) (zAV [.int .i64 0,.slice none 0 0] true));have hti:(l.take i).length=i:=by rw[BA];omega
   have hl1n:l1.length=n+1:=by rw[<-hl1,Ax,hti,Ci,hsum]
   have hfr1:FreeL l1:=λx hx=>by
    rw[<-hl1]at hx;rcases AN.1 hx with hx|hx
    ·exact hfr x (Ad hx)
    ·rw[Cg hx]
     exact FreeE.agg (us:=[.prim (.int .i64 0),.prim (.slice none 0 0)]) λy hy=>by
      simp only[Cq,DK,II]at hy;rcases hy with rfl|rfl<;>exact FreeE.prim _
   have htk:l1.take i=l.take i:=by rw[<-hl1,Cy hti]
   rw[hl1,hsum];refine JB ?_;refine WO ?_;refine WO ?_;refine AQ (W.slice_lo rfl rfl (by exact AY) rfl (by omega)) rfl ?_;refine WO ?_;refine CM (W.copyO 1 rfl rfl (by exact AY) (by exact AY) (by rfl) (by omega) (by omega) (by omega) (by omega) (by exact AP _) hfr1 hfV hwV) rfl ?_;obtain⟨l2,hl2⟩:=nm (l1.take (0+i)++([e].drop 0).take 1++l1.drop (0+i+1));rw[hl2];have hl2n:l2.length=n+1:=by rw[<-hl2];simp only[Ax,BA,Bb,CG];omega
   have hfr2:FreeL l2:=λx hx=>by
    rw[<-hl2]at hx;rcases AN.1 hx with hx|hx
    ·rcases AN.1 hx with hx|hx
     ·exact hfr1 x (Ad hx)
     ·exact hfV x (Ae (Ad hx))
    ·exact hfr1 x (Ae hx)
   have htk2:l2.take (0+(i+1))=l.take i++[e]:=by
    rw[<-hl2,Af,Af,htk];exact Cy (by simp[hti])
   refine FL ?_;refine RU ?_;(iterate 3 refine RK ?_);refine BQ ?_ (Bh ((i+1:Nat):Int) (by omega) (by omega) rfl rfl);refine BQ ?_ (W.slice_lo rfl rfl (by exact AY) rfl (by omega));refine JE ?_;refine BQ ?_ (W.slice_lo rfl rfl (by exact AY) rfl (by omega));refine Ea ?_ (W.copyO (n-i) rfl rfl (by exact AY) (by exact AY) (by rfl) (by omega) (by omega) (by omega) (by omega) (by omega) hfr2 hfr hw);refine RGo.nil (by kernel_rfl) ?_;obtain⟨l3,hl3⟩:=nm (l2.take (0+(i+1))++(l.drop (0+i)).take (n-i)++l2.drop (0+(i+1)+(n-i)));rw[hl3]
   have hr:l3=l.take i++e::l.drop i:=by
    have e1:l2.drop (0+(i+1)+(n-i))=[]:=BP (by omega);have e2:(l.drop (0+i)).take (n-i)=l.drop i:=by rw[Af];exact Al (by rw[Bb];omega)
    rw[<-hl3,htk2,e1,e2,BL,BC];rfl
   have hm:n+1=l3.length:=by
    rw[hr];simp only[Ax,EK,Bb,hti];omega
   refine JA ?_;rw[<-hr];exact⟨[.sl Y 0 (n+1)],[.lst true 42 2 l3],_,[],.cons (.tmp rfl) rfl .nil,.cons (.cell (.sl (p:=0) .here hm)) .nil,by exact Av,rfl,rfl⟩
  ·have hcn:n+1<=c:=by rw[Aq]at hg;omega
   refine RG ?_;(iterate 4 refine WO ?_);refine AQ (LZ (n+1) hc rfl rfl (by exact AY) (by exact AY) (by omega) hcn) rfl ?_;refine JC ?_;refine RG ?_;(iterate 4 refine WO ?_);refine AQ (Bh ((i+1:Nat):Int) (by omega) (by omega) rfl rfl) rfl ?_;refine AQ (W.slice_lo rfl rfl (by exact AY) rfl (by omega)) rfl ?_;refine AQ (W.over (t:=80) (tR:=4) func115 (by kernel_rfl) (by kernel_rfl) (by kernel_rfl) (by kernel_rfl) rfl rfl (by exact AY) (by exact AY) (by rfl) (by decide) (by omega) (by omega)) rfl ?_;refine WO ?_;refine FL ?_;refine BE rfl rfl ?_;refine RU ?_;(iterate 3 refine RK ?_);refine BQ ?_ (Bh ((i+1:Nat):Int) (by omega) (by omega) rfl rfl);refine BQ ?_ (W.slice_lo rfl rfl (by exact AY) rfl (by omega));refine JE ?_;refine BQ ?_ (W.slice_lo rfl rfl (by exact AY) rfl (by omega));refine Ea ?_ (W.copyS (n-i) rfl rfl (by exact AY) (by omega) (by omega) (by omega) (by omega) (by omega) hfr hw);refine RGo.nil (by kernel_rfl) ?_;have hti:(l.take i).length=i:=by rw[BA];omega
   obtain⟨l1,hl1⟩:=nm (l.take (0+(i+1))++(l.drop (0+i)).take (n-i)++l.drop (0+(i+1)+(n-i)));rw[hl1];have hti1:(l.take (i+1)).length=i+1:=by rw[BA];omega
   have hl1e:l1=l.take (i+1)++l.drop i:=by
    have e1:l.drop (0+(i+1)+(n-i))=[]:=BP (by omega);have e2:(l.drop (0+i)).take (n-i)=l.drop i:=by rw[Af];exact Al (by rw[Bb];omega)
    rw[<-hl1,e1,e2,BL,Af]
   have hfr1:FreeL l1:=λx hx=>by
    rw[hl1e]at hx;rcases AN.1 hx with hx|hx
    ·exact hfr x (Ad hx)
    ·exact hfr x (Ae hx)
   have hl1n:l1.length=n+1:=by rw[hl1e,Ax,hti1,Bb];omega
   have htk:l1.take i=l.take i:=by rw[hl1e,Bq (by omega),Cj,BJ (by omega)]
   have hdr:l1.drop (i+1)=l.drop i:=by rw[hl1e,Hs hti1]
   refine RG ?_;refine WO ?_;refine WO ?_;refine AQ (W.slice_lo rfl rfl (by exact AY) rfl (by omega)) rfl ?_;refine WO ?_;refine CM (W.copyO 1 rfl rfl (by exact AY) (by exact AY) (by rfl) (by omega) (by omega) (by omega) (by omega) (by exact AP _) hfr1 hfV hwV) rfl ?_;obtain⟨l2,hl2⟩:=nm (l1.take (0+i)++([e].drop 0).take 1++l1.drop (0+i+1));rw[hl2]
   have hr:l2=l.take i++e::l.drop i:=by
    rw[<-hl2,Af,htk,hdr,BC];rfl
   have hm:n+1=l2.length:=by
    rw[hr];simp only[Ax,EK,Bb,hti];omega
   refine FL ?_;refine JA ?_;rw[<-hr];exact⟨[.sl X 0 (n+1)],[.lst true 42 2 l2],_,[],.cons (.tmp rfl) rfl .nil,.cons (.cell (.sl (p:=1) (.next .here) hm)) .nil,by exact Av,rfl,rfl⟩
theorem U9(l:List Comp)(k:Int)(hs:FT l)(hl:l.length<=4611686018427387904):PS prog 53 [Bp false false l,iA k] (.tup [iA (DW l k),bA (DD l k).isSome]):=
 (U8 l k hl).mono λr S' ⟨b,hb,e1,e2⟩=>⟨by rw[e1,Sn hs hb],e2⟩
def Fa(X:Nat)(c:Comp):AV:=.agg [iA c.kind,.sl X 0 (c.vals.map iA).length]
theorem hoC(a:Comp)(X:Nat):Ho (.lst true 3 1 (a.vals.map iA)) (.sl X 0 (a.vals.map iA).length) (AT true a) (Fa X a):=.agg (.tail (.head .here))
theorem hcC(a:Comp)(X:Nat):Ho (.sl X 0 (a.vals.map iA).length) (.lst true 3 1 (a.vals.map iA)) (Fa X a) (AT true a):=.agg (.tail (.head .here))
theorem Mz(x:Nat×Comp):FreeE (Fa x.1 x.2):=.agg λy hy=>by
 simp only[Cq,DK,II]at hy;rcases hy with rfl|rfl
 ·exact .prim _
 ·exact λm c bs k=>k.1
theorem LP(L:List (Nat×Comp)):FreeL (L.map λx=>Fa x.1 x.2):=λx hx=>by obtain⟨y,_,rfl⟩:=BH.1 hx;exact Mz y
theorem My(L:List (Nat×Comp)):∀x∈L.map (λx=>Fa x.1 x.2),x.width=2:=λx hx=>by obtain⟨y,_,rfl⟩:=BH.1 hx;rfl
theorem Ou(c:Comp):(AV.tup [Bp true true [c],iA 0]).loose=true:=by
 simp only[AV.loose,C8,List.map,AT,Bool.and_true,Bool.true_or,Ey];exact IK (λ_=>rfl) _
set_option maxRecDepth 8000 in
set_option maxHeartbeats 4000000 in
theorem Tz(w:Wd)(e:Ent)(hw:WdL w)(hok:WdOK w)(h12:w.kinds.length<=12)(n:Nat)(hn:Dg w.items e=n)(kj:Nat)(k:Kind)(cv vs:List Int)(hk:w.kinds[kj]?=some k)(hfo:Ce k cv=(vs,0))(it:Item)(hit:w.items[n]?=some it):
  PS prog 13 [wdA false w,CH e,AT false ⟨kj,cv⟩] (.tup [wdA true ⟨w.kinds,w.gens,w.items.set n ⟨it.ent,Ev it.comps ⟨kj,vs⟩⟩⟩,iA 0]):=by
 have hfd:=JR w e hw;have hft:=R3 w.kinds h12 hok.ks kj k cv vs hk hfo;rw[show En w e=(w,(n:Int),0) by unfold En;rw[Ah (by rw[(EP w).2 hok];simp),Ah (by omega),hn]]at hfd;dsimp only at hfd;refine Spec.of (nt:=75) (res:=[.cell 6 26,.tmp 7]) func13 rfl (by kernel_rfl) rfl rfl rfl λSf=>?_
 (repeat refine WF ?_);refine E8 ?_;refine EY λP=>?_
 refine BX ?_;refine BX ?_;refine EY λR=>?_
 (repeat first|refine WO ?_|refine Ai λX=>?_|refine Ay λY=>?_);refine FL ?_;refine A9 λI=>A9 λG=>A9 λK=>?_
 refine RG ?_;(repeat first|(refine AX ?_;first|(refine AZ ?_;first|refine Fd hfd (.tup (.cons (.agg (.cons (.lst (Y:=K) rfl) (.cons (.lst (Y:=G) rfl) (.cons (.lst (Y:=I) rfl) .nil)))) rfl rfl (.cons .pr rfl rfl (.cons .pr rfl rfl .nil)))) ?_))|refine WO ?_|refine Ai λX=>?_|refine Ay λY=>?_);refine FL ?_;(repeat first|refine WK ?_|refine Ai λX=>?_|refine Ay λY=>?_);refine Aa rfl rfl ?_;have hkl:(w.kinds.map (A3 true)).length=w.kinds.length:=AD _
 have hft2:Spec prog 44 [.sl K 0 (w.kinds.map (A3 true)).length,Bp false false [⟨kj,cv⟩]] [(K,.row 90 2 (w.kinds.map (A3 true)))] λr' S'=>r'= .tup [Bp true true [⟨kj,vs⟩],iA 0]/\S'=[(K,.row 90 2 (w.kinds.map (A3 true)))]:=
  PS.lend hft (Ou _) (.cons (Ld.row .here rfl) (.cons (Ld.fz (a:=Bp false false [⟨kj,cv⟩])) .nil))
 refine FL ?_;refine A9 λLr=>?_
 refine RG ?_;(repeat first|(refine AX ?_;first|(refine AZ ?_;first|refine Fd hft2 (.tup (.cons (.cell (.lst (Y:=Lr) rfl) rfl rfl) rfl rfl (.cons .pr rfl rfl .nil))) ?_)|(refine Id ?_;refine D5 (AT false ⟨kj,cv⟩) ?_))|refine WO ?_|refine Ai λX=>?_|refine Ay λY=>?_);refine AOps.nil ?_;refine JB ?_;(repeat first|refine WO ?_|refine Ai λX=>?_|refine Ay λY=>?_);refine NL ?_;refine Aa rfl rfl ?_;have him:(w.items.map (Aj true)).length=w.items.length:=AD _;have hnl:n<w.items.length:=(AC.1 hit).1;have hil:=hw.items.1;have hcl:=hw.items.2 _ (Bc hit);have hsort:=(held_iff.1 (hok.it it (Bc hit)).2.2.2.2).1;obtain⟨⟨en,eg⟩,cs⟩:=it;dsimp only at hcl hsort⊢;have hat:(w.items.map (Aj true))[n]?=some (Aj true ⟨⟨en,eg⟩,cs⟩):=by rw[Am,hit];rfl
 have hnm:n<(w.items.map (Aj true)).length:=by omega
 (repeat first|refine WK ?_|refine Ai λX=>?_|refine Ay λY=>?_);refine CE (Y:=I) (by exact AY) (λ_=>Hos.at hat (.agg (.tail (.tail (.head .here))))) λC=>?_
 have hat1:((w.items.map (Aj true)).set n (.agg [iA en,iA eg,.sl C 0 (cs.map (AT true)).length]))[n]?=some (.agg [iA en,iA eg,.sl C 0 (cs.map (AT true)).length]):=BF hnm
 have hap:Spec prog 53 [.sl C 0 (cs.map (AT true)).length,iA kj] [(C,.row 42 2 (cs.map (AT true)))] λr' S'=>r'= .tup [iA (DW cs kj),bA (DD cs kj).isSome]/\S'=[(C,.row 42 2 (cs.map (AT true)))]:=
  PS.lend (U9 cs kj hsort (by have:=hcl.1;omega)) rfl (.cons (Ld.row .here rfl) (.cons .frz .nil))
 refine RU ?_;(repeat first|(refine B0 ?_;first|refine Nn hap .fz ?_)|(refine Bu ?_;first|refine Nn hap .fz ?_)|refine RK ?_|refine RGo.nil (by kernel_rfl) ?_);(repeat refine WF ?_);refine RG ?_;(repeat first|refine WO ?_|refine Ai λX=>?_|refine Ay λY=>?_);refine NL ?_;have hins:=QX (d:=⟨kj,vs⟩) hsort;have hle:=Mx cs kj;have hlt:=λh=>Ja (k:=kj) hsort h
 dsimp only at hins;obtain⟨i,hi⟩:=nm (DW cs kj);rw[hi]at hins hle hlt⊢;have hcm:(cs.map (AT true)).length=cs.length:=AD _;have hvm:(vs.map iA).length=vs.length:=AD _;have hfin:(w.items.map (Aj true)).set n (.agg [iA en,iA eg,.lst true 42 2 ((Ev cs ⟨kj,vs⟩).map (AT true))])=(w.items.set n ⟨⟨en,eg⟩,Ev cs ⟨kj,vs⟩⟩).map (Aj true):=by rw[A8];rfl
 have hlI:(w.items.map (Aj true)).length=((w.items.set n ⟨⟨en,eg⟩,Ev cs ⟨kj,vs⟩⟩).map (Aj true)).length:=by simp
 refine CE (Y:=Lr) (by exact AY) (λ_=>.head (.agg (.tail (.head .here)))) λV2=>?_
 refine AH P ?_;refine AH R ?_;refine AH G ?_;refine AH K ?_;refine AH I ?_;refine AH Lr ?_;refine AH C ?_;refine AH V2 ?_;dsimp only[List.map];rw[hcm];rw[hcm]at hat1;refine Fv (S':=(V2,.row 3 1 (vs.map iA))::(C,.row 42 2 (cs.map (AT true)))::(Lr,.row 42 2 [.agg [iA (kj:Nat),.sl V2 0 (vs.map iA).length]])::(I,.row 83 3 ((w.items.map (Aj true)).set n (.agg [iA en,iA eg,.sl C 0 cs.length])))::(K,.row 90 2 (w.kinds.map (A3 true)))::(G,.row 3 1 (w.gens.map iA))::(R,.row 26 3 [.agg [.prim (.slice none 0 0),.prim (.slice none 0 0),.prim (.slice none 0 0)]])::(P,.row 26 3 [.agg [.sl K 0 (w.kinds.map (A3 true)).length,.sl G 0 (w.gens.map iA).length,.sl I 0 (w.items.map (Aj true)).length]])::Sf) (by exact Av) ?_;by_cases hb:(DD cs kj).isSome=true
 ·rw[A1 hb]at hins
  refine BE rfl hb ?_;have hil:=hlt hb;obtain⟨⟨ck,ov⟩,hce⟩:=nm (cs[i]);have hat2:(cs.map (AT true))[i]?=some (.agg [iA ck,.lst true 3 1 (ov.map iA)]):=by rw[Am,Ag hil,hce];rfl
  refine CE (Y:=C) (by exact AY) (λ_=>Hos.at hat2 (.agg (.tail (.head .here)))) λVo=>?_
  obtain⟨M,hM⟩:=nm ((cs.map (AT true)).set i (.agg [iA ck,.sl Vo 0 (ov.map iA).length]));have hMl:M.length=cs.length:=by rw[<-hM,By,hcm]
  have hMa:M[i]?=some (.agg [iA ck,.sl Vo 0 (ov.map iA).length]):=by rw[<-hM];exact BF (by omega)
  have hMs:∀y,(M.set i (.agg [iA (kj:Nat),.sl V2 0 (vs.map iA).length])).set i y=(cs.map (AT true)).set i y:=λy=>by rw[List.set_set,<-hM,List.set_set]
  have hMb:(M.set i (.agg [iA (kj:Nat),.sl V2 0 (vs.map iA).length]))[i]?=some (.agg [iA (kj:Nat),.sl V2 0 (vs.map iA).length]):=BF (by omega);rw[hM];refine RU ?_;(repeat first|refine RK ?_|refine RGo.nil (by kernel_rfl) ?_);(repeat refine WF ?_);refine Bg (X:=V2) (Y:=C) (n:=(vs.map iA).length) (ll:=vs.map iA) (by exact AY) (by exact AY) (by rfl) rfl (Hos.at hMb (.agg (.tail (.head .here)))) ?_;rw[hMs,show(cs.map (AT true)).set i (.agg [iA (kj:Nat),.lst true 3 1 (vs.map iA)])=(Ev cs ⟨kj,vs⟩).map (AT true) by rw[hins,A8];rfl];refine Bg (X:=C) (Y:=I) (n:=cs.length) (ll:=(Ev cs ⟨kj,vs⟩).map (AT true)) (by exact AY) (by exact AY) (by rfl) (by rw[hins];simp) (Hos.at hat1 (.agg (.tail (.tail (.head .here))))) ?_;rw[show((w.items.map (Aj true)).set n (.agg [iA en,iA eg,.sl C 0 cs.length])).set n (.agg [iA en,iA eg,.lst true 42 2 ((Ev cs ⟨kj,vs⟩).map (AT true))])=_ from(List.set_set ..).trans hfin];(repeat first|refine WK ?_|refine Ai λX=>?_|refine Ay λY=>?_);refine RT ?_;exact C3 [.agg [.sl K 0 (w.kinds.map (A3 true)).length,.sl G 0 (w.gens.map iA).length,.sl I 0 (w.items.map (Aj true)).length],iA 0] [wdA true ⟨w.kinds,w.gens,w.items.set n ⟨⟨en,eg⟩,Ev cs ⟨kj,vs⟩⟩⟩,iA 0] (.cons (.agg (.cons (.sl (by exact AY) rfl) (.cons (.sl (by exact AY) rfl) (.cons (.sl (by exact AY) hlI) .nil)))) (.cons (.cell .same) .nil))
 ·rw[Ah hb]at hins
  refine Aa rfl (by simpa using hb) ?_;refine AH C ?_;refine GX hoC cs _ λL hL=>?_
  have hLm:(L.map λx=>Fa x.1 x.2).length=cs.length:=by rw[AD,<-hL,AD]
  have hcl1:=hcl.1;refine A9 λY=>A9 λK2=>?_
  have hin2:=(Pi C K2 cs.length i (L.map λx=>Fa x.1 x.2) (Fa V2 ⟨kj,vs⟩) hLm.symm (by omega) (by omega) (LP L) (Mz (V2,⟨kj,vs⟩)) (My L) rfl rfl).used2;refine RU ?_;(repeat first|(refine B0 ?_;first|refine RGo.s (W.lit1 (X:=K2) (l:=[Fa V2 ⟨kj,vs⟩]) (by exact rfl) (by exact AY) (by exact rfl) (by exact .inl rfl) (by decide) (by decide) (by exact rfl)) rfl ?_|refine Nm hin2 (.ls (Y:=Y)) ?_)|(refine Bu ?_;first|refine RGo.s (W.lit1 (X:=K2) (l:=[Fa V2 ⟨kj,vs⟩]) (by exact rfl) (by exact AY) (by exact rfl) (by exact .inl rfl) (by decide) (by decide) (by exact rfl)) rfl ?_|refine Nm hin2 (.ls (Y:=Y)) ?_)|refine RK ?_|refine RGo.nil (by kernel_rfl) ?_);(repeat refine WF ?_);have hrow:(L.map λx=>Fa x.1 x.2).take i++Fa V2 ⟨kj,vs⟩::(L.map λx=>Fa x.1 x.2).drop i=(L.take i++(V2,⟨kj,vs⟩)::L.drop i).map λx=>Fa x.1 x.2:=by rw[AJ,AR,F0,List.map_drop]
  have hsnd:(L.take i++(V2,(⟨kj,vs⟩:Comp))::L.drop i).map (·.2)=Ev cs ⟨kj,vs⟩:=by rw[AJ,AR,F0,List.map_drop,hL,hins]
  have hrl:((L.map λx=>Fa x.1 x.2).take i++Fa V2 ⟨kj,vs⟩::(L.map λx=>Fa x.1 x.2).drop i).length=(Ev cs ⟨kj,vs⟩).length:=by rw[hrow,AD,<-hsnd,AD]
  have hper:((V2,AO.row 3 1 (vs.map iA))::L.map (lvO 3 1 λa=>a.vals.map iA)).Perm ((L.take i++(V2,(⟨kj,vs⟩:Comp))::L.drop i).map (lvO 3 1 λa=>a.vals.map iA)):=by
   have h:(L.take i++(V2,(⟨kj,vs⟩:Comp))::L.drop i).Perm ((V2,⟨kj,vs⟩)::L):=by
    refine List.perm_middle.trans ?_;rw[Bi]
   exact(h.map (lvO 3 1 λa=>a.vals.map iA)).symm
  have hatY:∀q,((w.items.map (Aj true)).set n (.agg [iA en,iA eg,.sl Y 0 q]))[n]?=some (.agg [iA en,iA eg,.sl Y 0 q]):=λq=>BF hnm
  rw[hrl,hrow];refine AH V2 ?_;refine AH P ?_;refine AH R ?_;refine AH G ?_;refine AH K ?_;refine AH I ?_;refine AH Y ?_;refine Fv (S':=(Y,.row 42 2 ((L.take i++(V2,(⟨kj,vs⟩:Comp))::L.drop i).map λx=>Fa x.1 x.2))::(I,.row 83 3 (((w.items.map (Aj true)).set n (.agg [iA en,iA eg,.sl C 0 cs.length])).set n (.agg [iA en,iA eg,.sl Y 0 (Ev cs ⟨kj,vs⟩).length])))::(K,.row 90 2 (w.kinds.map (A3 true)))::(G,.row 3 1 (w.gens.map iA))::(R,.row 26 3 [.agg [.prim (.slice none 0 0),.prim (.slice none 0 0),.prim (.slice none 0 0)]])::(P,.row 26 3 [.agg [.sl K 0 (w.kinds.map (A3 true)).length,.sl G 0 (w.gens.map iA).length,.sl I 0 (w.items.map (Aj true)).length]])::(V2,.row 3 1 (vs.map iA))::(Sf++L.map (lvO 3 1 λa=>a.vals.map iA))) (by exact Av) ?_;refine AWP.perm (.cons _ (.cons _ (.cons _ (.cons _ (.cons _ (.cons _ List.perm_middle.symm)))))) ?_;refine Fw hcC (L.take i++(V2,(⟨kj,vs⟩:Comp))::L.drop i) ((I,_)::(K,_)::(G,_)::(R,_)::(P,_)::Sf) ((V2,_)::L.map (lvO 3 1 λa=>a.vals.map iA)) _ hper (.refl _) ?_;rw[hsnd,List.set_set];refine Bg (X:=Y) (Y:=I) (n:=(Ev cs ⟨kj,vs⟩).length) (ll:=(Ev cs ⟨kj,vs⟩).map (AT true)) (by exact AY) (by exact AY) (by rfl) (AD _).symm (Hos.at (hatY _) (.agg (.tail (.tail (.head .here))))) ?_;rw[show((w.items.map (Aj true)).set n (.agg [iA en,iA eg,.sl Y 0 (Ev cs ⟨kj,vs⟩).length])).set n (.agg [iA en,iA eg,.lst true 42 2 ((Ev cs ⟨kj,vs⟩).map (AT true))])=_ from(List.set_set ..).trans hfin];(repeat first|refine WK ?_|refine Ai λX=>?_|refine Ay λY=>?_);refine RT ?_;exact C3 [.agg [.sl K 0 (w.kinds.map (A3 true)).length,.sl G 0 (w.gens.map iA).length,.sl I 0 (w.items.map (Aj true)).length],iA 0] [wdA true ⟨w.kinds,w.gens,w.items.set n ⟨⟨en,eg⟩,Ev cs ⟨kj,vs⟩⟩⟩,iA 0] (.cons (.agg (.cons (.sl (by exact AY) rfl) (.cons (.sl (by exact AY) rfl) (.cons (.sl (by exact AY) hlI) .nil)))) (.cons (.cell .same) .nil))
section
open Go.Sort
set_option maxHeartbeats 1000000 in
theorem UF(f:FuncId)(cap:List AV)(cf:(Nat×Item)->(Nat×Item)->Int)(hst:DG cap=true)(hcf:∀x y,PS prog f (itP x::itP y::cap) (iA (cf x y)))(X n:Nat)(d:Array (Nat×Item))(a b:Nat)(hn:n=d.size)(hab:a<=b)(hb:b<=d.size)(hz:d.size<=1099511627776):PO prog 173 [.sl X 0 n,iA a,iA b,.fn f cap] X (.row 83 3 (d.toList.map itP)) (.tup []) (.row 83 3 ((insertionSort (Ak cf) d a b).toList.map itP)):=by
 obtain⟨r,hr⟩:=nm (insertionSort (Ak cf) d a b);rw[hr];unfold insertionSort at hr;refine Spec.of (nt:=53) (res:=[]) func173 rfl (by kernel_rfl) rfl rfl rfl λSf=>?_
 (repeat first|refine WK ?_|refine Ai λX=>?_|refine Ay λY=>?_);refine B6 (λ(i:Nat) (e:Array (Nat×Item))=>⟨[(0,.sl X 0 n),(1,iA a),(2,iA b),(3,.fn f cap),(8,iA i)],(X,.row 83 3 (e.toList.map itP))::Sf⟩) (λi e=>i<=max b (a+1)/\a<i/\e.size=d.size/\insOuter (Ak cf) a b i e=r) (λi _=>b-i) (a+1) d ⟨by omega,by omega,rfl,hr⟩ ?_;rintro i e ⟨hi,hai,he,hfold⟩;rw[insOuter]at hfold;(repeat first|refine WK ?_|refine Ai λX=>?_|refine Ay λY=>?_);refine AB rfl (λhc=>?_) (λhc=>?_)
 ·have h:i<b:=by have:=AM hc;omega
  rw[A1 h]at hfold;(repeat first|refine WK ?_|refine Ai λX=>?_|refine Ay λY=>?_);refine B6 (λ(j:Nat) (u:Array (Nat×Item))=>⟨[(0,.sl X 0 n),(1,iA a),(2,iA b),(3,.fn f cap),(8,iA i),(9,iA j)],(X,.row 83 3 (u.toList.map itP))::Sf⟩) (λj u=>j<=i/\u.size=d.size/\insInner (Ak cf) a j u=insInner (Ak cf) a i e) (λj _=>j) i e ⟨AP _,he,rfl⟩ ?_;rintro j u ⟨hj,hu,hin⟩;rcases Ac (decide ((a:Int)<(j:Int)))with g|g
  ·have hja:a<j:=by have:=AM g;omega
   obtain⟨q,rfl⟩:∃q,j=q+1:=⟨j-1,by omega⟩;have h1:=Ba itP (d:=u) (i:=q+1) (by omega);have h2:=Ba itP (d:=u) (i:=q) (by omega);have hl:=hcf (u[q+1]!) (u[q]!);rw[insInner]at hin;(repeat refine WF ?_);refine RU ?_;(repeat first|(refine B0 ?_;first|(refine BM ?_;first|refine Cv (h:=(hl ..)) (k:=?_))|refine BQ ?_ (BS (q:Int) (by omega) (by omega) rfl rfl))|(refine Bu ?_;first|(refine BM ?_;first|refine Cv (h:=(hl ..)) (k:=?_))|refine BQ ?_ (BS (q:Int) (by omega) (by omega) rfl rfl))|refine RK ?_|refine RGo.nil (by kernel_rfl) ?_);(repeat refine WF ?_);refine AB rfl (λhd=>?_) (λhd=>?_)
   ·have hd:(Ak cf) u[q+1]! u[q]! =true:=by simpa[g,Ak]using hd
    rw[hd,A1 (by simp;omega)]at hin;obtain⟨y,hy⟩:=DN itP (d:=u) (i:=q+1) (j:=q) (by omega) u[q]!;(repeat refine WF ?_);refine RU ?_;(repeat first|(refine B0 ?_;first|refine BQ ?_ (BS (q:Int) (by omega) (by omega) rfl rfl)|refine RGo.s (W.store rfl rfl (by exact AY) hy (by exact rfl)) rfl ?_)|(refine Bu ?_;first|refine BQ ?_ (BS (q:Int) (by omega) (by omega) rfl rfl)|refine RGo.s (W.store rfl rfl (by exact AY) hy (by exact rfl)) rfl ?_)|refine RK ?_|refine RGo.nil (by kernel_rfl) ?_);(repeat first|(refine AX ?_;first|refine AQ (BS (q:Int) (by omega) (by omega) rfl rfl) rfl ?_)|refine WK ?_|refine Ai λX=>?_|refine Ay λY=>?_);refine BV q (swp u (q+1) q) ⟨by omega,by rw[size_swp];exact hu,hin⟩ (h0:=by rw[<-Ds itP (by omega) (by omega)];exact⟨by exact EL,by exact Av⟩)
   ·have hd:(Ak cf) u[q+1]! u[q]! =false:=by simpa[g,Ak]using hd
    rw[hd,Ah (by simp)]at hin;(repeat first|refine WK ?_|refine Ai λX=>?_|refine Ay λY=>?_);refine BV (i+1) u ⟨by omega,by omega,hu,by rw[hin];exact hfold⟩
  ·have hja:j<=a:=by have:=Ab g;omega
   have hin2:insInner (Ak cf) a j u=u:=by
    cases j with
    |zero=>rfl
    |succ q=>rw[insInner,Ah (by simp;omega)]
   rw[hin2]at hin;(repeat refine WF ?_);refine RU ?_;(repeat first|refine RK ?_|refine RGo.nil (by kernel_rfl) ?_);(repeat refine WF ?_);refine Aa rfl (by simp[g]) ?_;(repeat first|refine WK ?_|refine Ai λX=>?_|refine Ay λY=>?_);refine BV (i+1) u ⟨by omega,by omega,hu,by rw[hin];exact hfold⟩
 ·have h:¬i<b:=by have:=Ab hc;omega
  rw[Ah h]at hfold;subst hfold;(repeat first|refine WK ?_|refine Ai λX=>?_|refine Ay λY=>?_);refine Ed ?_;exact CA [(X,.row 83 3 (e.toList.map itP))] ⟨rfl,rfl⟩
end
section
open Go.Sort
set_option maxHeartbeats 1000000 in
theorem N9(f:FuncId)(cap:List AV)(cf:(Nat×Item)->(Nat×Item)->Int)(hst:DG cap=true)(hcf:∀x y,PS prog f (itP x::itP y::cap) (iA (cf x y)))(X n:Nat)(d:Array (Nat×Item))(lo hi first:Nat)(hn:n=d.size)(hb:first+hi<=d.size)(hlo:lo<=1099511627776)(hz:d.size<=1099511627776):PO prog 232 [.sl X 0 n,iA lo,iA hi,iA first,.fn f cap] X (.row 83 3 (d.toList.map itP)) (.tup []) (.row 83 3 ((siftDown (Ak cf) hi first lo d).toList.map itP)):=by
 obtain⟨r,hr⟩:=nm (siftDown (Ak cf) hi first lo d);rw[hr];refine Spec.of (nt:=82) (res:=[]) func232 rfl (by kernel_rfl) rfl rfl rfl λSf=>?_
 (repeat first|refine WK ?_|refine Ai λX=>?_|refine Ay λY=>?_);refine B6 (λ(root:Nat) (u:Array (Nat×Item))=>⟨[(0,.sl X 0 n),(2,iA hi),(3,iA first),(4,.fn f cap),(10,iA root)],(X,.row 83 3 (u.toList.map itP))::Sf⟩) (λroot u=>root<=max hi lo/\u.size=d.size/\siftDown (Ak cf) hi first root u=r) (λroot _=>hi-root) lo d ⟨by omega,rfl,hr⟩ ?_;rintro root u ⟨hro,hu,hfold⟩;rw[siftDown]at hfold;(repeat first|(refine AX ?_;first|refine AQ (Jb ((2*root:Nat):Int) (by omega) (by omega) rfl rfl) rfl ?_|refine AQ (Bh (((2*root+1:Nat):Int)) (by omega) (by omega) rfl rfl) rfl ?_)|refine WK ?_|refine Ai λX=>?_|refine Ay λY=>?_);refine AB rfl (λhc=>?_) (λhc=>?_)
 ·have h:2*root+1>=hi:=by have:=AM hc;omega
  rw[dif_pos h]at hfold;subst hfold;(repeat first|refine WK ?_|refine Ai λX=>?_|refine Ay λY=>?_);refine Ed ?_;exact CA [(X,.row 83 3 (u.toList.map itP))] ⟨rfl,rfl⟩
 have h:¬2*root+1>=hi:=by have:=Ab hc;omega
 rw[dif_neg h]at hfold;refine D4 ?_;refine DS ?_;refine D0 ?_;refine Ch (λc:Nat=>c<hi/\root<c/\(if !(Ak cf) u[first+root]! u[first+c]! then u else siftDown (Ak cf) hi first c (swp u (first+root) (first+c)))=r) (λc=>⟨[(0,.sl X 0 n),(2,iA hi),(3,iA first),(4,.fn f cap),(10,iA root),(11,iA c)],(X,.row 83 3 (u.toList.map itP))::Sf⟩) ?_ ?_
 ·rcases Ac (decide (((2*root+1+1:Nat):Int)<(hi:Int)))with g|g
  ·have hg:2*root+1+1<hi:=by have:=AM g;omega
   have h1:=Ba itP (d:=u) (i:=first+(2*root+1)) (by omega);have h2:=Ba itP (d:=u) (i:=first+(2*root+1)+1) (by omega);have hl:=hcf (u[first+(2*root+1)]!) (u[first+(2*root+1)+1]!);refine RU ?_;(repeat first|(refine B0 ?_;first|(refine BM ?_;first|refine Cv (h:=(hl ..)) (k:=?_))|refine BQ ?_ (Bh (((2*root+1+1:Nat):Int)) (by omega) (by omega) rfl rfl)|refine BQ ?_ (Bh (((first+(2*root+1):Nat):Int)) (by omega) (by omega) rfl rfl)|refine BQ ?_ (Bh (((first+(2*root+1)+1:Nat):Int)) (by omega) (by omega) rfl rfl))|(refine Bu ?_;first|(refine BM ?_;first|refine Cv (h:=(hl ..)) (k:=?_))|refine BQ ?_ (Bh (((2*root+1+1:Nat):Int)) (by omega) (by omega) rfl rfl)|refine BQ ?_ (Bh (((first+(2*root+1):Nat):Int)) (by omega) (by omega) rfl rfl)|refine BQ ?_ (Bh (((first+(2*root+1)+1:Nat):Int)) (by omega) (by omega) rfl rfl))|refine RK ?_|refine RGo.nil (by kernel_rfl) ?_);(repeat refine WF ?_);refine AB rfl (λhd=>?_) (λhd=>?_)
   ·have hd:(Ak cf) u[first+(2*root+1)]! u[first+(2*root+1)+1]! =true:=by simpa[g,Ak]using hd
    rw[hd,A1 (by simp;omega)]at hfold;(repeat first|(refine AX ?_;first|refine AQ (Bh (((2*root+2:Nat):Int)) (by omega) (by omega) rfl rfl) rfl ?_)|refine WK ?_|refine Ai λX=>?_|refine Ay λY=>?_);refine jn (2*root+2) ⟨by omega,by omega,?_⟩;split at hfold
    ·rename_i hx;rw[A1 hx];exact hfold
    ·rename_i hx;rw[Ah hx];first|exact hfold|(rw[dif_pos (by omega)]at hfold;exact hfold)
   ·have hd:(Ak cf) u[first+(2*root+1)]! u[first+(2*root+1)+1]! =false:=by simpa[g,Ak]using hd
    rw[hd,Ah (by simp)]at hfold;(repeat first|refine WK ?_|refine Ai λX=>?_|refine Ay λY=>?_);exact jn (2*root+1) ⟨by omega,by omega,hfold⟩
  ·have hg:¬2*root+1+1<hi:=by have:=Ab g;omega
   rw[Ah (by simp[hg])]at hfold;refine RU ?_;(repeat first|(refine B0 ?_;first|refine BQ ?_ (Bh (((2*root+1+1:Nat):Int)) (by omega) (by omega) rfl rfl))|(refine Bu ?_;first|refine BQ ?_ (Bh (((2*root+1+1:Nat):Int)) (by omega) (by omega) rfl rfl))|refine RK ?_|refine RGo.nil (by kernel_rfl) ?_);(repeat refine WF ?_);refine Aa rfl (by simp[g]) ?_;(repeat first|refine WK ?_|refine Ai λX=>?_|refine Ay λY=>?_);exact jn (2*root+1) ⟨by omega,by omega,hfold⟩
 ·rintro c ⟨hch,hrc,hfold⟩
  have h1:=Ba itP (d:=u) (i:=first+root) (by omega);have h2:=Ba itP (d:=u) (i:=first+c) (by omega);have hl:=hcf (u[first+root]!) (u[first+c]!);(repeat refine WF ?_);refine RU ?_;(repeat first|(refine B0 ?_;first|(refine BM ?_;first|refine Cv (h:=(hl ..)) (k:=?_))|refine BQ ?_ (Bh (((first+root:Nat):Int)) (by omega) (by omega) rfl rfl)|refine BQ ?_ (Bh (((first+c:Nat):Int)) (by omega) (by omega) rfl rfl))|(refine Bu ?_;first|(refine BM ?_;first|refine Cv (h:=(hl ..)) (k:=?_))|refine BQ ?_ (Bh (((first+root:Nat):Int)) (by omega) (by omega) rfl rfl)|refine BQ ?_ (Bh (((first+c:Nat):Int)) (by omega) (by omega) rfl rfl))|refine RK ?_|refine RGo.nil (by kernel_rfl) ?_);(repeat refine WF ?_);refine AB rfl (λhd=>?_) (λhd=>?_)
  ·have hd:(!(Ak cf) u[first+root]! u[first+c]!)=true:=by simpa[Ak]using hd
   rw[A1 hd]at hfold;subst hfold;refine RT ?_;exact CA [(X,.row 83 3 (u.toList.map itP))] ⟨rfl,rfl⟩
  ·have hd:(!(Ak cf) u[first+root]! u[first+c]!)=false:=by simpa[Ak]using hd
   rw[Ah (by rw[hd];simp)]at hfold;obtain⟨y,hy⟩:=DN itP (d:=u) (i:=first+root) (j:=first+c) (by omega) u[first+c]!;(repeat refine WF ?_);refine RU ?_;(repeat first|(refine B0 ?_;first|refine BQ ?_ (Bh (((first+root:Nat):Int)) (by omega) (by omega) rfl rfl)|refine BQ ?_ (Bh (((first+c:Nat):Int)) (by omega) (by omega) rfl rfl)|refine RGo.s (W.store rfl rfl (by exact AY) hy (by exact rfl)) rfl ?_)|(refine Bu ?_;first|refine BQ ?_ (Bh (((first+root:Nat):Int)) (by omega) (by omega) rfl rfl)|refine BQ ?_ (Bh (((first+c:Nat):Int)) (by omega) (by omega) rfl rfl)|refine RGo.s (W.store rfl rfl (by exact AY) hy (by exact rfl)) rfl ?_)|refine RK ?_|refine RGo.nil (by kernel_rfl) ?_);(repeat first|refine WK ?_|refine Ai λX=>?_|refine Ay λY=>?_);refine BV c (swp u (first+root) (first+c)) ⟨by omega,by rw[size_swp];exact hu,hfold⟩ (h0:=by rw[<-Ds itP (by omega) (by omega)];exact⟨by exact EL,by exact Av⟩)
set_option maxHeartbeats 1000000 in
theorem Ej(lt:(Nat×Item)->(Nat×Item)->Bool)(hi first:Nat):∀(k root:Nat) (d:Array (Nat×Item)),hi-root<=k->(siftDown lt hi first root d).size=d.size
 |0,root,d,h=>by rw[siftDown,dif_pos (by omega)]
 |k+1,root,d,h=>by
  rw[siftDown];split
  ·rfl
  ·split
   ·split
    ·rfl
    ·split
     ·rw[Ej lt hi first k _ _ (by omega),size_swp]
     ·rfl
   ·split
    ·rfl
    ·rw[Ej lt hi first k _ _ (by omega),size_swp]
theorem Sj(f:FuncId)(cap:List AV)(cf:(Nat×Item)->(Nat×Item)->Int)(hst:DG cap=true)(hcf:∀x y,PS prog f (itP x::itP y::cap) (iA (cf x y)))(X n:Nat)(d:Array (Nat×Item))(a b:Nat)(hn:n=d.size)(hab:a<b)(hb:b<=d.size)(hz:d.size<=1099511627776):PO prog 174 [.sl X 0 n,iA a,iA b,.fn f cap] X (.row 83 3 (d.toList.map itP)) (.tup []) (.row 83 3 ((heapSort (Ak cf) d a b).toList.map itP)):=by
 obtain⟨r,hr⟩:=nm (heapSort (Ak cf) d a b);rw[hr];unfold heapSort at hr;obtain⟨m,hm⟩:=nm (b-a);rw[hm]at hr;refine Spec.of (nt:=60) (res:=[]) func174 rfl (by kernel_rfl) rfl rfl rfl λSf=>?_
 (repeat first|(refine AX ?_;first|refine AQ (BS ((m:Int)) (by omega) (by omega) rfl rfl) rfl ?_|refine AQ (BS (((m-1:Nat):Int)) (by omega) (by omega) rfl rfl) rfl ?_|refine AQ (La (m-1) 2 ((m-1)/2) rfl rfl (by omega) rfl (by omega) rfl rfl) rfl ?_)|refine WK ?_|refine Ai λX=>?_|refine Ay λY=>?_);refine B6 (λ(k:Nat) (u:Array (Nat×Item))=>⟨[(0,.sl X 0 n),(3,.fn f cap),(8,iA a),(9,iA 0),(10,iA m),(11,iA ((k:Int)-1))],(X,.row 83 3 (u.toList.map itP))::Sf⟩) (λk u=>k<=m/\u.size=d.size/\heapPop (Ak cf) a m (heapBuild (Ak cf) m a k u)=r) (λk _=>k) ((m-1)/2+1) d ⟨by omega,rfl,hr⟩ ?_ (h0:=by rw[show((((m-1)/2+1:Nat):Int)-1)=(((m-1)/2:Nat):Int) by omega];exact⟨by exact EL,by exact Av⟩);rintro k u ⟨hk,hu,hfold⟩;(repeat first|refine WK ?_|refine Ai λX=>?_|refine Ay λY=>?_);refine AB rfl (λhc=>?_) (λhc=>?_)
 ·obtain⟨q,rfl⟩:∃q,k=q+1:=⟨k-1,by have:=AM hc;omega⟩
  rw[heapBuild]at hfold;have hs:=N9 f cap cf hst hcf X n u q m a (by omega) (by omega) (by omega) (by omega);have hsz:=Ej (Ak cf) m a _ q u (AP _);rw[show(((q+1:Nat):Int)-1)=(q:Int) by omega];(repeat first|(refine AX ?_;first|(refine AZ ?_;first|refine Hu (h:=(hs ..)) (k:=?_))|refine AQ (BS ((q:Int)-1) (by omega) (by omega) rfl rfl) rfl ?_)|refine WK ?_|refine Ai λX=>?_|refine Ay λY=>?_);exact BV q (siftDown (Ak cf) m a q u) ⟨by omega,by omega,hfold⟩
 ·obtain rfl:k=0:=by have:=Ab hc;omega
  rw[heapBuild]at hfold;(repeat first|(refine AX ?_;first|refine AQ (BS ((m:Int)-1) (by omega) (by omega) rfl rfl) rfl ?_)|refine WK ?_|refine Ai λX=>?_|refine Ay λY=>?_);clear hc hk;refine B6 (λ(k:Nat) (u:Array (Nat×Item))=>⟨[(0,.sl X 0 n),(3,.fn f cap),(8,iA a),(9,iA 0),(10,iA m),(12,iA ((k:Int)-1))],(X,.row 83 3 (u.toList.map itP))::Sf⟩) (λk u=>k<=m/\u.size=d.size/\heapPop (Ak cf) a k u=r) (λk _=>k) m u ⟨by omega,hu,hfold⟩ ?_;clear hfold hu;rintro k u ⟨hk,hu,hfold⟩;(repeat first|refine WK ?_|refine Ai λX=>?_|refine Ay λY=>?_);refine AB rfl (λhc=>?_) (λhc=>?_)
  ·obtain⟨q,rfl⟩:∃q,k=q+1:=⟨k-1,by have:=AM hc;omega⟩
   rw[heapPop]at hfold;have h1:=Ba itP (d:=u) (i:=a) (by omega);have h2:=Ba itP (d:=u) (i:=a+q) (by omega);have hs:=N9 f cap cf hst hcf X n (swp u a (a+q)) 0 q a (by rw[size_swp];omega) (by rw[size_swp];omega) (by omega) (by rw[size_swp];omega);have hsz:=Ej (Ak cf) q a _ 0 (swp u a (a+q)) (AP _);rw[size_swp]at hsz;rw[show(((q+1:Nat):Int)-1)=(q:Int) by omega];obtain⟨y,hy⟩:=DN itP (d:=u) (i:=a) (j:=a+q) (by omega) u[a+q]!;have hrow:=Ds itP (d:=u) (i:=a) (j:=a+q) (by omega) (by omega);(repeat refine WF ?_);refine RU ?_;(repeat first|(refine B0 ?_;first|refine BQ ?_ (Bh (((a+q:Nat):Int)) (by omega) (by omega) rfl rfl)|refine RGo.s (W.store rfl rfl (by exact AY) hy (by exact rfl)) rfl ?_)|(refine Bu ?_;first|refine BQ ?_ (Bh (((a+q:Nat):Int)) (by omega) (by omega) rfl rfl)|refine RGo.s (W.store rfl rfl (by exact AY) hy (by exact rfl)) rfl ?_)|refine RK ?_|refine RGo.nil (by kernel_rfl) ?_);refine Ns [(0,.sl X 0 n),(3,.fn f cap),(8,iA a),(9,iA 0),(10,iA m),(12,iA q)] ((X,.row 83 3 ((swp u a (a+q)).toList.map itP))::Sf) ?_ (h:=by rw[<-hrow];exact⟨by exact EL,by exact Av⟩);(repeat first|(refine AX ?_;first|(refine AZ ?_;first|refine Hu (h:=(hs ..)) (k:=?_))|refine AQ (BS ((q:Int)-1) (by omega) (by omega) rfl rfl) rfl ?_)|refine WK ?_|refine Ai λX=>?_|refine Ay λY=>?_);exact BV q (siftDown (Ak cf) q a 0 (swp u a (a+q))) ⟨by omega,by omega,hfold⟩
  ·obtain rfl:k=0:=by have:=Ab hc;omega
   rw[heapPop]at hfold;subst hfold;(repeat first|refine WK ?_|refine Ai λX=>?_|refine Ay λY=>?_);refine Ed ?_;exact CA [(X,.row 83 3 (u.toList.map itP))] ⟨rfl,rfl⟩
set_option maxHeartbeats 1000000 in
theorem Tx{f:FuncId}{cap:List AV}(X n:Nat)(d:Array (Nat×Item))(a b:Nat)(hn:n=d.size)(hab:a<b)(hb:b<=d.size)(hz:d.size<=1099511627776):PO prog 177 [.sl X 0 n,iA a,iA b,.fn f cap] X (.row 83 3 (d.toList.map itP)) (.tup []) (.row 83 3 ((reverseRange d a b).toList.map itP)):=by
 obtain⟨r,hr⟩:=nm (reverseRange d a b);rw[hr];unfold reverseRange at hr;refine Spec.of (nt:=34) (res:=[]) func177 rfl (by kernel_rfl) rfl rfl rfl λSf=>?_
 (repeat first|(refine AX ?_;first|refine AQ (BS (((b-1:Nat):Int)) (by omega) (by omega) rfl rfl) rfl ?_)|refine WK ?_|refine Ai λX=>?_|refine Ay λY=>?_);refine GD (λ(i j:Nat) (u:Array (Nat×Item))=>⟨[(0,.sl X 0 n),(8,iA i),(9,iA j)],(X,.row 83 3 (u.toList.map itP))::Sf⟩) (λi j u=>i<=d.size/\j<d.size/\u.size=d.size/\reverseLoop i j u=r) (λi j _=>j-i) a (b-1) d ⟨by omega,by omega,rfl,hr⟩ ?_;rintro i j u ⟨hi,hj,hu,hfold⟩;rw[reverseLoop]at hfold;(repeat first|refine WK ?_|refine Ai λX=>?_|refine Ay λY=>?_);refine AB rfl (λhc=>?_) (λhc=>?_)
 ·have h:i<j:=by have:=AM hc;omega
  rw[A1 h]at hfold;have h1:=Ba itP (d:=u) (i:=i) (by omega);have h2:=Ba itP (d:=u) (i:=j) (by omega);obtain⟨y,hy⟩:=DN itP (d:=u) (i:=i) (j:=j) (by omega) u[j]!;(repeat refine WF ?_);refine RU ?_;(repeat first|(refine B0 ?_;first|refine RGo.s (W.store rfl rfl (by exact AY) hy (by exact rfl)) rfl ?_)|(refine Bu ?_;first|refine RGo.s (W.store rfl rfl (by exact AY) hy (by exact rfl)) rfl ?_)|refine RK ?_|refine RGo.nil (by kernel_rfl) ?_);(repeat first|(refine AX ?_;first|refine AQ (BS (((j-1:Nat):Int)) (by omega) (by omega) rfl rfl) rfl ?_)|refine WK ?_|refine Ai λX=>?_|refine Ay λY=>?_);refine Ek (i+1) (j-1) (swp u i j) ⟨by omega,by omega,by rw[size_swp];exact hu,hfold⟩ (h0:=by rw[<-Ds itP (by omega) (by omega)];exact⟨by exact EL,by exact Av⟩)
 ·have h:¬i<j:=by have:=Ab hc;omega
  rw[Ah h]at hfold;subst hfold;(repeat first|refine WK ?_|refine Ai λX=>?_|refine Ay λY=>?_);refine Ed ?_;exact CA [(X,.row 83 3 (u.toList.map itP))] ⟨rfl,rfl⟩
end
section
open Go.Sort
set_option maxHeartbeats 1000000 in
theorem IG(p:(Nat×Item)->Bool)(d:Array (Nat×Item))(j i:Nat):scanUp p d j i<=max i (j+1):=by
 obtain⟨m,hm⟩:=nm (j+1-i)
 induction m generalizing i with
 |zero=>rw[scanUp,Ah (λe=>by rw[AE]at e;have:=AM e.1;omega)];omega
 |succ m ih=>
  rw[scanUp];split
  ·have:=ih (i+1) (by omega)
   omega
  ·omega
theorem T3(f:FuncId)(cap:List AV)(cf:(Nat×Item)->(Nat×Item)->Int)(hst:DG cap=true)(hcf:∀x y,PS prog f (itP x::itP y::cap) (iA (cf x y)))(X n:Nat)(d:Array (Nat×Item))(a b pivot:Nat)(hn:n=d.size)(ha:a<=pivot)(hp:pivot<b)(hb:b<=d.size)(hz:d.size<=1099511627776):PO prog 179 [.sl X 0 n,iA a,iA b,iA pivot,.fn f cap] X (.row 83 3 (d.toList.map itP)) (iA (partitionEqual (Ak cf) d a b pivot).1) (.row 83 3 ((partitionEqual (Ak cf) d a b pivot).2.toList.map itP)):=by
 obtain⟨r,hr⟩:=nm (partitionEqual (Ak cf) d a b pivot);rw[hr];unfold partitionEqual at hr;refine Spec.of (nt:=90) (res:=[.tmp 10]) func179 rfl (by kernel_rfl) rfl rfl rfl λSf=>?_
 have h1:=Ba itP (d:=d) (i:=a) (by omega);have h2:=Ba itP (d:=d) (i:=pivot) (by omega);obtain⟨y,hy⟩:=DN itP (d:=d) (i:=a) (j:=pivot) (by omega) d[pivot]!;refine RG ?_;(repeat first|refine WO ?_|refine Ai λX=>?_|refine Ay λY=>?_);refine NL ?_;refine RU ?_;(repeat first|(refine B0 ?_;first|refine RGo.s (W.store rfl rfl (by exact AY) hy (by exact rfl)) rfl ?_)|(refine Bu ?_;first|refine RGo.s (W.store rfl rfl (by exact AY) hy (by exact rfl)) rfl ?_)|refine RK ?_|refine RGo.nil (by kernel_rfl) ?_);(repeat first|(refine AX ?_;first|refine AQ (BS (((b-1:Nat):Int)) (by omega) (by omega) rfl rfl) rfl ?_)|refine WK ?_|refine Ai λX=>?_|refine Ay λY=>?_);refine GD (λ(i j:Nat) (u:Array (Nat×Item))=>⟨[(0,.sl X 0 n),(1,iA a),(4,.fn f cap),(11,iA i),(12,iA j)],(X,.row 83 3 (u.toList.map itP))::Sf⟩) (λi j u=>a<i/\i<=j+2/\j<b/\u.size=d.size/\partEqLoop (Ak cf) a i j u=r) (λi j _=>j+1-i) (a+1) (b-1) (swp d a pivot) ⟨by omega,by omega,by omega,by rw[size_swp],hr⟩ ?_ (h0:=by rw[<-Ds itP (by omega) (by omega)];exact⟨by exact EL,by exact Av⟩);rintro i j u ⟨hai,hij,hjb,hu,hfold⟩;rw[partEqLoop_eq]at hfold;obtain⟨i2,hi2⟩:=nm (scanUp (λx=>!(Ak cf) u[a]! x) u j i);rw[hi2]at hfold;obtain⟨j2,hj2⟩:=nm (scanDown (λx=>(Ak cf) u[a]! x) u i2 j);rw[hj2]at hfold;have hge:=scanUp_ge (λx=>!(Ak cf) u[a]! x) u j i;have hle:=scanDown_le (λx=>(Ak cf) u[a]! x) u i2 j;rw[hi2]at hge;rw[hj2]at hle;have hge2:i2<=max i (j+1):=by rw[<-hi2];exact IG _ _ _ _
 refine AWP.block ?_
 (repeat (first|refine D4 ?_|refine DS ?_|refine D0 ?_))
 refine Ch (λk:Nat=>k=i2) (λk=>⟨[(0,.sl X 0 n),(1,iA a),(4,.fn f cap),(11,iA k),(12,iA j)],(X,.row 83 3 (u.toList.map itP))::Sf⟩) ?_ ?_
 ·refine AWP.block ?_
  refine DL (λ(k:Nat)=>⟨[(0,.sl X 0 n),(1,iA a),(4,.fn f cap),(11,iA k),(12,iA j)],(X,.row 83 3 (u.toList.map itP))::Sf⟩) (λk=>i<=k/\k<=max i (j+1)/\scanUp (λx=>!(Ak cf) u[a]! x) u j k=i2) (λk=>j+1-k) i ⟨AP _,by omega,hi2⟩ ?_;rintro k ⟨hk1,hk2,hk⟩;rw[scanUp]at hk;rcases Ac (decide ((k:Int)<=(j:Int)))with g|g
  ·have hg:k<=j:=by have:=AM g;omega
   have h1:=Ba itP (d:=u) (i:=k) (by omega);have h2:=Ba itP (d:=u) (i:=a) (by omega);have hl:=hcf (u[a]!) (u[k]!);(repeat refine WF ?_);refine RU ?_;(repeat first|(refine B0 ?_;first|(refine BM ?_;first|refine Cv (h:=(hl ..)) (k:=?_)))|(refine Bu ?_;first|(refine BM ?_;first|refine Cv (h:=(hl ..)) (k:=?_)))|refine RK ?_|refine RGo.nil (by kernel_rfl) ?_);(repeat refine WF ?_);refine AB rfl (λhd=>?_) (λhd=>?_)
   ·have hd:(!(Ak cf) u[a]! u[k]!)=true:=by simpa[g,Ak]using hd
    rw[A1 (by rw[AE];exact⟨Br (by omega),hd⟩)]at hk;(repeat first|refine WK ?_|refine Ai λX=>?_|refine Ay λY=>?_);exact DB (k+1) ⟨by omega,by omega,hk⟩
   ·have hd:(!(Ak cf) u[a]! u[k]!)=false:=by simpa[g,Ak]using hd
    rw[Ah (λe=>by rw[AE]at e;have e2:=e.2;rw[hd]at e2;cases e2)]at hk;(repeat first|refine WK ?_|refine Ai λX=>?_|refine Ay λY=>?_);exact jn k hk
  ·have hg:¬k<=j:=by have:=Ab g;omega
   rw[Ah (λe=>by rw[AE]at e;have:=AM e.1;omega)]at hk;(repeat refine WF ?_);refine RU ?_;(repeat first|refine RK ?_|refine RGo.nil (by kernel_rfl) ?_);(repeat refine WF ?_);refine Aa rfl (by simp[g]) ?_;(repeat first|refine WK ?_|refine Ai λX=>?_|refine Ay λY=>?_);exact jn k hk
 rintro k hk0;rw[hk0];clear hk0 k
 (repeat (first|refine D4 ?_|refine DS ?_|refine D0 ?_))
 refine Ch (λk:Nat=>k=j2) (λk=>⟨[(0,.sl X 0 n),(1,iA a),(4,.fn f cap),(11,iA i2),(12,iA k)],(X,.row 83 3 (u.toList.map itP))::Sf⟩) ?_ ?_
 ·refine AWP.block ?_
  refine DL (λ(k:Nat)=>⟨[(0,.sl X 0 n),(1,iA a),(4,.fn f cap),(11,iA i2),(12,iA k)],(X,.row 83 3 (u.toList.map itP))::Sf⟩) (λk=>k<=j/\scanDown (λx=>(Ak cf) u[a]! x) u i2 k=j2) (λk=>k) j ⟨AP _,hj2⟩ ?_;rintro k ⟨hk1,hk⟩;rcases Ac (decide ((i2:Int)<=(k:Int)))with g|g
  ·have hg:i2<=k:=by have:=AM g;omega
   obtain⟨q,rfl⟩:∃q,k=q+1:=⟨k-1,by omega⟩;rw[scanDown]at hk;have h1:=Ba itP (d:=u) (i:=q+1) (by omega);have h2:=Ba itP (d:=u) (i:=a) (by omega);have hl:=hcf (u[a]!) (u[q+1]!);(repeat refine WF ?_);refine RU ?_;(repeat first|(refine B0 ?_;first|(refine BM ?_;first|refine Cv (h:=(hl ..)) (k:=?_)))|(refine Bu ?_;first|(refine BM ?_;first|refine Cv (h:=(hl ..)) (k:=?_)))|refine RK ?_|refine RGo.nil (by kernel_rfl) ?_);(repeat refine WF ?_);refine AB rfl (λhd=>?_) (λhd=>?_)
   ·have hd:((Ak cf) u[a]! u[q+1]!)=true:=by simpa[g,Ak]using hd
    rw[A1 (by rw[AE];exact⟨Br (by omega),hd⟩)]at hk;(repeat first|(refine AX ?_;first|refine AQ (BS ((q:Int)) (by omega) (by omega) rfl rfl) rfl ?_)|refine WK ?_|refine Ai λX=>?_|refine Ay λY=>?_);exact DB q ⟨by omega,hk⟩
   ·have hd:((Ak cf) u[a]! u[q+1]!)=false:=by simpa[g,Ak]using hd
    rw[Ah (λe=>by rw[AE]at e;have e2:=e.2;rw[hd]at e2;cases e2)]at hk;(repeat first|refine WK ?_|refine Ai λX=>?_|refine Ay λY=>?_);exact jn (q+1) hk
  ·have hg:¬i2<=k:=by have:=Ab g;omega
   have hk3:scanDown (λx=>(Ak cf) u[a]! x) u i2 k=k:=by
    cases k with
    |zero=>rfl
    |succ q=>rw[scanDown,Ah (λe=>by rw[AE]at e;have:=AM e.1;omega)]
   rw[hk3]at hk;(repeat refine WF ?_);refine RU ?_;(repeat first|refine RK ?_|refine RGo.nil (by kernel_rfl) ?_);(repeat refine WF ?_);refine Aa rfl (by simp[g]) ?_;(repeat first|refine WK ?_|refine Ai λX=>?_|refine Ay λY=>?_);exact jn k hk
 rintro k hk0;rw[hk0];clear hk0 k;(repeat first|refine WK ?_|refine Ai λX=>?_|refine Ay λY=>?_);refine AB rfl (λhc=>?_) (λhc=>?_)
 ·have h:i2>j2:=by have:=AM hc;omega
  rw[A1 h]at hfold;subst hfold;(repeat first|refine WK ?_|refine Ai λX=>?_|refine Ay λY=>?_);refine RT ?_;exact CU [iA i2] [(X,_)] ⟨rfl,rfl⟩
 ·have h:¬i2>j2:=by have:=Ab hc;omega
  rw[Ah h]at hfold;have h1:=Ba itP (d:=u) (i:=i2) (by omega);have h2:=Ba itP (d:=u) (i:=j2) (by omega);obtain⟨y,hy⟩:=DN itP (d:=u) (i:=i2) (j:=j2) (by omega) u[j2]!;(repeat refine WF ?_);refine RU ?_;(repeat first|(refine B0 ?_;first|refine RGo.s (W.store rfl rfl (by exact AY) hy (by exact rfl)) rfl ?_)|(refine Bu ?_;first|refine RGo.s (W.store rfl rfl (by exact AY) hy (by exact rfl)) rfl ?_)|refine RK ?_|refine RGo.nil (by kernel_rfl) ?_);(repeat first|(refine AX ?_;first|refine AQ (BS (((j2-1:Nat):Int)) (by omega) (by omega) rfl rfl) rfl ?_)|refine WK ?_|refine Ai λX=>?_|refine Ay λY=>?_);refine Ek (i2+1) (j2-1) (swp u i2 j2) ⟨by omega,by omega,by omega,by rw[size_swp];exact hu,hfold⟩ (h0:=by rw[<-Ds itP (by omega) (by omega)];exact⟨by exact EL,by exact Av⟩)
set_option maxHeartbeats 1000000 in
theorem SP(f:FuncId)(cap:List AV)(cf:(Nat×Item)->(Nat×Item)->Int)(hst:DG cap=true)(hcf:∀x y,PS prog f (itP x::itP y::cap) (iA (cf x y)))(X n:Nat)(d:Array (Nat×Item))(a b pivot:Nat)(hn:n=d.size)(ha:a<=pivot)(hp:pivot<b)(hb:b<=d.size)(hz:d.size<=1099511627776):PO prog 180 [.sl X 0 n,iA a,iA b,iA pivot,.fn f cap] X (.row 83 3 (d.toList.map itP)) (.tup [iA (partition (Ak cf) d a b pivot).1,bA (partition (Ak cf) d a b pivot).2.1]) (.row 83 3 ((partition (Ak cf) d a b pivot).2.2.toList.map itP)):=by
 obtain⟨r,hr⟩:=nm (partition (Ak cf) d a b pivot);rw[hr];dsimp only[partition]at hr;refine Spec.of (nt:=178) (res:=[.tmp 10,.tmp 11]) func180 rfl (by kernel_rfl) rfl rfl rfl λSf=>?_
 have h1:=Ba itP (d:=d) (i:=a) (by omega);have h2:=Ba itP (d:=d) (i:=pivot) (by omega);have hrow:=Ds itP (d:=d) (i:=a) (j:=pivot) (by omega) (by omega);obtain⟨y,hy⟩:=DN itP (d:=d) (i:=a) (j:=pivot) (by omega) d[pivot]!;refine RG ?_;(repeat first|refine WO ?_|refine Ai λX=>?_|refine Ay λY=>?_);refine NL ?_;refine RU ?_;(repeat first|(refine B0 ?_;first|refine RGo.s (W.store rfl rfl (by exact AY) hy (by exact rfl)) rfl ?_)|(refine Bu ?_;first|refine RGo.s (W.store rfl rfl (by exact AY) hy (by exact rfl)) rfl ?_)|refine RK ?_|refine RGo.nil (by kernel_rfl) ?_);have hsz:(swp d a pivot).size=d.size:=size_swp _ _ _;obtain⟨u,hu0⟩:=nm (swp d a pivot);rw[hu0]at hr hrow hsz;obtain⟨j,hj⟩:=nm (b-1);obtain⟨i,hi⟩:=nm (a+1);rw[hj,hi]at hr;refine RG ?_;(repeat first|(refine AX ?_;first|refine AQ (BS ((j:Int)) (by omega) (by omega) rfl rfl) rfl ?_|refine AQ (Bh (((i:Nat):Int)) (by omega) (by omega) rfl rfl) rfl ?_)|refine WO ?_|refine Ai λX=>?_|refine Ay λY=>?_);refine NL ?_
 (repeat (first|refine D4 ?_|refine DS ?_|refine D0 ?_))
 refine Ns [(0,.sl X 0 n),(1,iA a),(4,.fn f cap),(12,iA i),(13,iA j)] ((X,.row 83 3 (u.toList.map itP))::Sf) ?_ (h:=by rw[<-hrow];exact⟨by exact EL,by exact Av⟩);have hu:u.size=d.size:=hsz;have hfold:=hr;obtain⟨i2,hi2⟩:=nm (scanUp (λx=>(Ak cf) x u[a]!) u j i);rw[hi2]at hfold;obtain⟨j2,hj2⟩:=nm (scanDown (λx=>!(Ak cf) x u[a]!) u i2 j);rw[hj2]at hfold;have hge:=scanUp_ge (λx=>(Ak cf) x u[a]!) u j i;have hle:=scanDown_le (λx=>!(Ak cf) x u[a]!) u i2 j;rw[hi2]at hge;rw[hj2]at hle;have hge2:i2<=max i (j+1):=by rw[<-hi2];exact IG _ _ _ _
 refine Ch (λk:Nat=>k=i2) (λk=>⟨[(0,.sl X 0 n),(1,iA a),(4,.fn f cap),(12,iA k),(13,iA j)],(X,.row 83 3 (u.toList.map itP))::Sf⟩) ?_ ?_
 ·refine AWP.block ?_
  refine DL (λ(k:Nat)=>⟨[(0,.sl X 0 n),(1,iA a),(4,.fn f cap),(12,iA k),(13,iA j)],(X,.row 83 3 (u.toList.map itP))::Sf⟩) (λk=>i<=k/\k<=max i (j+1)/\scanUp (λx=>(Ak cf) x u[a]!) u j k=i2) (λk=>j+1-k) i ⟨AP _,by omega,hi2⟩ ?_;rintro k ⟨hk1,hk2,hk⟩;rw[scanUp]at hk;rcases Ac (decide ((k:Int)<=(j:Int)))with g|g
  ·have hg:k<=j:=by have:=AM g;omega
   have h1:=Ba itP (d:=u) (i:=k) (by omega);have h2:=Ba itP (d:=u) (i:=a) (by omega);have hl:=hcf (u[k]!) (u[a]!);(repeat refine WF ?_);refine RU ?_;(repeat first|(refine B0 ?_;first|(refine BM ?_;first|refine Cv (h:=(hl ..)) (k:=?_)))|(refine Bu ?_;first|(refine BM ?_;first|refine Cv (h:=(hl ..)) (k:=?_)))|refine RK ?_|refine RGo.nil (by kernel_rfl) ?_);(repeat refine WF ?_);refine AB rfl (λhd=>?_) (λhd=>?_)
   ·have hd:((Ak cf) u[k]! u[a]!)=true:=by simpa[g,Ak]using hd
    rw[A1 (by rw[AE];exact⟨Br (by omega),hd⟩)]at hk;(repeat first|refine WK ?_|refine Ai λX=>?_|refine Ay λY=>?_);exact DB (k+1) ⟨by omega,by omega,hk⟩
   ·have hd:((Ak cf) u[k]! u[a]!)=false:=by simpa[g,Ak]using hd
    rw[Ah (λe=>by rw[AE]at e;have e2:=e.2;rw[hd]at e2;cases e2)]at hk;(repeat first|refine WK ?_|refine Ai λX=>?_|refine Ay λY=>?_);exact jn k hk
  ·have hg:¬k<=j:=by have:=Ab g;omega
   rw[Ah (λe=>by rw[AE]at e;have:=AM e.1;omega)]at hk;(repeat refine WF ?_);refine RU ?_;(repeat first|refine RK ?_|refine RGo.nil (by kernel_rfl) ?_);(repeat refine WF ?_);refine Aa rfl (by simp[g]) ?_;(repeat first|refine WK ?_|refine Ai λX=>?_|refine Ay λY=>?_);exact jn k hk
 rintro k hk0;rw[hk0];clear hk0 k
 (repeat (first|refine D4 ?_|refine DS ?_|refine D0 ?_))
 refine Ch (λk:Nat=>k=j2) (λk=>⟨[(0,.sl X 0 n),(1,iA a),(4,.fn f cap),(12,iA i2),(13,iA k)],(X,.row 83 3 (u.toList.map itP))::Sf⟩) ?_ ?_
 ·refine AWP.block ?_
  refine DL (λ(k:Nat)=>⟨[(0,.sl X 0 n),(1,iA a),(4,.fn f cap),(12,iA i2),(13,iA k)],(X,.row 83 3 (u.toList.map itP))::Sf⟩) (λk=>k<=j/\scanDown (λx=>!(Ak cf) x u[a]!) u i2 k=j2) (λk=>k) j ⟨AP _,hj2⟩ ?_;rintro k ⟨hk1,hk⟩;rcases Ac (decide ((i2:Int)<=(k:Int)))with g|g
  ·have hg:i2<=k:=by have:=AM g;omega
   obtain⟨q,rfl⟩:∃q,k=q+1:=⟨k-1,by omega⟩;rw[scanDown]at hk;have h1:=Ba itP (d:=u) (i:=q+1) (by omega);have h2:=Ba itP (d:=u) (i:=a) (by omega);have hl:=hcf (u[q+1]!) (u[a]!);(repeat refine WF ?_);refine RU ?_;(repeat first|(refine B0 ?_;first|(refine BM ?_;first|refine Cv (h:=(hl ..)) (k:=?_)))|(refine Bu ?_;first|(refine BM ?_;first|refine Cv (h:=(hl ..)) (k:=?_)))|refine RK ?_|refine RGo.nil (by kernel_rfl) ?_);(repeat refine WF ?_);refine AB rfl (λhd=>?_) (λhd=>?_)
   ·have hd:(!(Ak cf) u[q+1]! u[a]!)=true:=by simpa[g,Ak]using hd
    rw[A1 (by rw[AE];exact⟨Br (by omega),hd⟩)]at hk;(repeat first|(refine AX ?_;first|refine AQ (BS ((q:Int)) (by omega) (by omega) rfl rfl) rfl ?_)|refine WK ?_|refine Ai λX=>?_|refine Ay λY=>?_);exact DB q ⟨by omega,hk⟩
   ·have hd:(!(Ak cf) u[q+1]! u[a]!)=false:=by simpa[g,Ak]using hd
    rw[Ah (λe=>by rw[AE]at e;have e2:=e.2;rw[hd]at e2;cases e2)]at hk;(repeat first|refine WK ?_|refine Ai λX=>?_|refine Ay λY=>?_);exact jn (q+1) hk
  ·have hg:¬i2<=k:=by have:=Ab g;omega
   have hk3:scanDown (λx=>!(Ak cf) x u[a]!) u i2 k=k:=by
    cases k with
    |zero=>rfl
    |succ q=>rw[scanDown,Ah (λe=>by rw[AE]at e;have:=AM e.1;omega)]
   rw[hk3]at hk;(repeat refine WF ?_);refine RU ?_;(repeat first|refine RK ?_|refine RGo.nil (by kernel_rfl) ?_);(repeat refine WF ?_);refine Aa rfl (by simp[g]) ?_;(repeat first|refine WK ?_|refine Ai λX=>?_|refine Ay λY=>?_);exact jn k hk
 rintro k hk0;rw[hk0];clear hk0 k;(repeat first|refine WK ?_|refine Ai λX=>?_|refine Ay λY=>?_);refine AB rfl (λhc=>?_) (λhc=>?_)
 ·have h:i2>j2:=by have:=AM hc;omega
  rw[A1 h]at hfold;subst hfold;have h1:=Ba itP (d:=u) (i:=j2) (by omega);have h2:=Ba itP (d:=u) (i:=a) (by omega);have hrow2:=Ds itP (d:=u) (i:=j2) (j:=a) (by omega) (by omega);obtain⟨y,hy⟩:=DN itP (d:=u) (i:=j2) (j:=a) (by omega) u[a]!;(repeat refine WF ?_);refine RU ?_;(repeat first|(refine B0 ?_;first|refine RGo.s (W.store rfl rfl (by exact AY) hy (by exact rfl)) rfl ?_)|(refine Bu ?_;first|refine RGo.s (W.store rfl rfl (by exact AY) hy (by exact rfl)) rfl ?_)|refine RK ?_|refine RGo.nil (by kernel_rfl) ?_);(repeat first|refine WK ?_|refine Ai λX=>?_|refine Ay λY=>?_);refine RT ?_;exact CU [iA j2,bA true] [(X,_)] ⟨rfl,by rw[<-hrow2]⟩
 have h:¬i2>j2:=by have:=Ab hc;omega
 rw[Ah h]at hfold;obtain⟨pr,hpr⟩:=nm (partLoop (Ak cf) a (i2+1) (j2-1) (swp u i2 j2));rw[hpr]at hfold;have h1:=Ba itP (d:=u) (i:=i2) (by omega);have h2:=Ba itP (d:=u) (i:=j2) (by omega);clear y hy;obtain⟨y,hy⟩:=DN itP (d:=u) (i:=i2) (j:=j2) (by omega) u[j2]!;(repeat refine WF ?_);refine RU ?_;(repeat first|(refine B0 ?_;first|refine RGo.s (W.store rfl rfl (by exact AY) hy (by exact rfl)) rfl ?_)|(refine Bu ?_;first|refine RGo.s (W.store rfl rfl (by exact AY) hy (by exact rfl)) rfl ?_)|refine RK ?_|refine RGo.nil (by kernel_rfl) ?_);(repeat first|(refine AX ?_;first|refine AQ (BS (((j2-1:Nat):Int)) (by omega) (by omega) rfl rfl) rfl ?_)|refine WK ?_|refine Ai λX=>?_|refine Ay λY=>?_);refine GD (λ(i j:Nat) (u:Array (Nat×Item))=>⟨[(0,.sl X 0 n),(1,iA a),(4,.fn f cap),(12,iA i),(13,iA j)],(X,.row 83 3 (u.toList.map itP))::Sf⟩) (λi j u=>a<i/\i<=j+2/\j<b/\u.size=d.size/\partLoop (Ak cf) a i j u=pr) (λi j _=>j+1-i) (i2+1) (j2-1) (swp u i2 j2) ⟨by omega,by omega,by omega,by rw[size_swp];exact hu,hpr⟩ ?_ (h0:=by rw[<-Ds itP (by omega) (by omega)];exact⟨by exact EL,by exact Av⟩);subst hfold;clear hc h h1 h2 hpr hi2 hj2 hge hle hge2 hr hrow hu0 hu hsz hi hj hy y i2 j2 i j u;rintro i j u ⟨hai,hij,hjb,hu,hfold⟩;rw[partLoop_eq]at hfold;obtain⟨i2,hi2⟩:=nm (scanUp (λx=>(Ak cf) x u[a]!) u j i);rw[hi2]at hfold;obtain⟨j2,hj2⟩:=nm (scanDown (λx=>!(Ak cf) x u[a]!) u i2 j);rw[hj2]at hfold;have hge:=scanUp_ge (λx=>(Ak cf) x u[a]!) u j i;have hle:=scanDown_le (λx=>!(Ak cf) x u[a]!) u i2 j;rw[hi2]at hge;rw[hj2]at hle;have hge2:i2<=max i (j+1):=by rw[<-hi2];exact IG _ _ _ _
 refine AWP.block ?_
 (repeat (first|refine D4 ?_|refine DS ?_|refine D0 ?_))
 refine Ch (λk:Nat=>k=i2) (λk=>⟨[(0,.sl X 0 n),(1,iA a),(4,.fn f cap),(12,iA k),(13,iA j)],(X,.row 83 3 (u.toList.map itP))::Sf⟩) ?_ ?_
 ·refine AWP.block ?_
  refine DL (λ(k:Nat)=>⟨[(0,.sl X 0 n),(1,iA a),(4,.fn f cap),(12,iA k),(13,iA j)],(X,.row 83 3 (u.toList.map itP))::Sf⟩) (λk=>i<=k/\k<=max i (j+1)/\scanUp (λx=>(Ak cf) x u[a]!) u j k=i2) (λk=>j+1-k) i ⟨AP _,by omega,hi2⟩ ?_;rintro k ⟨hk1,hk2,hk⟩;rw[scanUp]at hk;rcases Ac (decide ((k:Int)<=(j:Int)))with g|g
  ·have hg:k<=j:=by have:=AM g;omega
   have h1:=Ba itP (d:=u) (i:=k) (by omega);have h2:=Ba itP (d:=u) (i:=a) (by omega);have hl:=hcf (u[k]!) (u[a]!);(repeat refine WF ?_);refine RU ?_;(repeat first|(refine B0 ?_;first|(refine BM ?_;first|refine Cv (h:=(hl ..)) (k:=?_)))|(refine Bu ?_;first|(refine BM ?_;first|refine Cv (h:=(hl ..)) (k:=?_)))|refine RK ?_|refine RGo.nil (by kernel_rfl) ?_);(repeat refine WF ?_);refine AB rfl (λhd=>?_) (λhd=>?_)
   ·have hd:((Ak cf) u[k]! u[a]!)=true:=by simpa[g,Ak]using hd
    rw[A1 (by rw[AE];exact⟨Br (by omega),hd⟩)]at hk;(repeat first|refine WK ?_|refine Ai λX=>?_|refine Ay λY=>?_);exact DB (k+1) ⟨by omega,by omega,hk⟩
   ·have hd:((Ak cf) u[k]! u[a]!)=false:=by simpa[g,Ak]using hd
    rw[Ah (λe=>by rw[AE]at e;have e2:=e.2;rw[hd]at e2;cases e2)]at hk;(repeat first|refine WK ?_|refine Ai λX=>?_|refine Ay λY=>?_);exact jn k hk
  ·have hg:¬k<=j:=by have:=Ab g;omega
   rw[Ah (λe=>by rw[AE]at e;have:=AM e.1;omega)]at hk;(repeat refine WF ?_);refine RU ?_;(repeat first|refine RK ?_|refine RGo.nil (by kernel_rfl) ?_);(repeat refine WF ?_);refine Aa rfl (by simp[g]) ?_;(repeat first|refine WK ?_|refine Ai λX=>?_|refine Ay λY=>?_);exact jn k hk
 rintro k hk0;rw[hk0];clear hk0 k
 (repeat (first|refine D4 ?_|refine DS ?_|refine D0 ?_))
 refine Ch (λk:Nat=>k=j2) (λk=>⟨[(0,.sl X 0 n),(1,iA a),(4,.fn f cap),(12,iA i2),(13,iA k)],(X,.row 83 3 (u.toList.map itP))::Sf⟩) ?_ ?_
 ·refine AWP.block ?_
  refine DL (λ(k:Nat)=>⟨[(0,.sl X 0 n),(1,iA a),(4,.fn f cap),(12,iA i2),(13,iA k)],(X,.row 83 3 (u.toList.map itP))::Sf⟩) (λk=>k<=j/\scanDown (λx=>!(Ak cf) x u[a]!) u i2 k=j2) (λk=>k) j ⟨AP _,hj2⟩ ?_;rintro k ⟨hk1,hk⟩;rcases Ac (decide ((i2:Int)<=(k:Int)))with g|g
  ·have hg:i2<=k:=by have:=AM g;omega
   obtain⟨q,rfl⟩:∃q,k=q+1:=⟨k-1,by omega⟩;rw[scanDown]at hk;have h1:=Ba itP (d:=u) (i:=q+1) (by omega);have h2:=Ba itP (d:=u) (i:=a) (by omega);have hl:=hcf (u[q+1]!) (u[a]!);(repeat refine WF ?_);refine RU ?_;(repeat first|(refine B0 ?_;first|(refine BM ?_;first|refine Cv (h:=(hl ..)) (k:=?_)))|(refine Bu ?_;first|(refine BM ?_;first|refine Cv (h:=(hl ..)) (k:=?_)))|refine RK ?_|refine RGo.nil (by kernel_rfl) ?_);(repeat refine WF ?_);refine AB rfl (λhd=>?_) (λhd=>?_)
   ·have hd:(!(Ak cf) u[q+1]! u[a]!)=true:=by simpa[g,Ak]using hd
    rw[A1 (by rw[AE];exact⟨Br (by omega),hd⟩)]at hk;(repeat first|(refine AX ?_;first|refine AQ (BS ((q:Int)) (by omega) (by omega) rfl rfl) rfl ?_)|refine WK ?_|refine Ai λX=>?_|refine Ay λY=>?_);exact DB q ⟨by omega,hk⟩
   ·have hd:(!(Ak cf) u[q+1]! u[a]!)=false:=by simpa[g,Ak]using hd
    rw[Ah (λe=>by rw[AE]at e;have e2:=e.2;rw[hd]at e2;cases e2)]at hk;(repeat first|refine WK ?_|refine Ai λX=>?_|refine Ay λY=>?_);exact jn (q+1) hk
  ·have hg:¬i2<=k:=by have:=Ab g;omega
   have hk3:scanDown (λx=>!(Ak cf) x u[a]!) u i2 k=k:=by
    cases k with
    |zero=>rfl
    |succ q=>rw[scanDown,Ah (λe=>by rw[AE]at e;have:=AM e.1;omega)]
   rw[hk3]at hk;(repeat refine WF ?_);refine RU ?_;(repeat first|refine RK ?_|refine RGo.nil (by kernel_rfl) ?_);(repeat refine WF ?_);refine Aa rfl (by simp[g]) ?_;(repeat first|refine WK ?_|refine Ai λX=>?_|refine Ay λY=>?_);exact jn k hk
 rintro k hk0;rw[hk0];clear hk0 k;(repeat first|refine WK ?_|refine Ai λX=>?_|refine Ay λY=>?_);refine AB rfl (λhc=>?_) (λhc=>?_)
 ·have h:i2>j2:=by have:=AM hc;omega
  rw[A1 h]at hfold;subst hfold;have h1:=Ba itP (d:=u) (i:=j2) (by omega);have h2:=Ba itP (d:=u) (i:=a) (by omega);have hrow2:=Ds itP (d:=u) (i:=j2) (j:=a) (by omega) (by omega);obtain⟨y,hy⟩:=DN itP (d:=u) (i:=j2) (j:=a) (by omega) u[a]!;(repeat refine WF ?_);refine RU ?_;(repeat first|(refine B0 ?_;first|refine RGo.s (W.store rfl rfl (by exact AY) hy (by exact rfl)) rfl ?_)|(refine Bu ?_;first|refine RGo.s (W.store rfl rfl (by exact AY) hy (by exact rfl)) rfl ?_)|refine RK ?_|refine RGo.nil (by kernel_rfl) ?_);(repeat first|refine WK ?_|refine Ai λX=>?_|refine Ay λY=>?_);refine RT ?_;exact CU [iA j2,bA false] [(X,_)] ⟨rfl,by rw[<-hrow2]⟩
 ·have h:¬i2>j2:=by have:=Ab hc;omega
  rw[Ah h]at hfold;have h1:=Ba itP (d:=u) (i:=i2) (by omega);have h2:=Ba itP (d:=u) (i:=j2) (by omega);obtain⟨y,hy⟩:=DN itP (d:=u) (i:=i2) (j:=j2) (by omega) u[j2]!;(repeat refine WF ?_);refine RU ?_;(repeat first|(refine B0 ?_;first|refine RGo.s (W.store rfl rfl (by exact AY) hy (by exact rfl)) rfl ?_)|(refine Bu ?_;first|refine RGo.s (W.store rfl rfl (by exact AY) hy (by exact rfl)) rfl ?_)|refine RK ?_|refine RGo.nil (by kernel_rfl) ?_);(repeat first|(refine AX ?_;first|refine AQ (BS (((j2-1:Nat):Int)) (by omega) (by omega) rfl rfl) rfl ?_)|refine WK ?_|refine Ai λX=>?_|refine Ay λY=>?_);refine Ek (i2+1) (j2-1) (swp u i2 j2) ⟨by omega,by omega,by omega,by rw[size_swp];exact hu,hfold⟩ (h0:=by rw[<-Ds itP (by omega) (by omega)];exact⟨by exact EL,by exact Av⟩)
end
section
open Go.Sort
set_option maxHeartbeats 1000000 in
theorem J4(lt:(Nat×Item)->(Nat×Item)->Bool)(d:Array (Nat×Item))(b i:Nat):i<=scanSorted lt d b i/\scanSorted lt d b i<=max i b:=by
 obtain⟨m,hm⟩:=nm (b-i)
 induction m generalizing i with
 |zero=>rw[scanSorted,Ah (λe=>by rw[AE]at e;have:=AM e.1;omega)];omega
 |succ m ih=>
  rw[scanSorted];split
  ·have:=ih (i+1) (by omega)
   omega
  ·omega
theorem SM(f:FuncId)(cap:List AV)(cf:(Nat×Item)->(Nat×Item)->Int)(hst:DG cap=true)(hcf:∀x y,PS prog f (itP x::itP y::cap) (iA (cf x y)))(X n:Nat)(d:Array (Nat×Item))(a b:Nat)(hn:n=d.size)(hab:a<b)(hb:b<=d.size)(hz:d.size<=1099511627776):PO prog 178 [.sl X 0 n,iA a,iA b,.fn f cap] X (.row 83 3 (d.toList.map itP)) (bA (partialInsertionSort (Ak cf) d a b).2) (.row 83 3 ((partialInsertionSort (Ak cf) d a b).1.toList.map itP)):=by
 obtain⟨r,hr⟩:=nm (partialInsertionSort (Ak cf) d a b);rw[hr];unfold partialInsertionSort at hr;refine Spec.of (nt:=141) (res:=[.tmp 8]) func178 rfl (by kernel_rfl) rfl rfl rfl λSf=>?_
 (repeat first|(refine AX ?_;first|refine AQ (Bh (((a+1:Nat):Int)) (by omega) (by omega) rfl rfl) rfl ?_)|refine WK ?_|refine Ai λX=>?_|refine Ay λY=>?_);refine GD (λ(c i:Nat) (u:Array (Nat×Item))=>⟨[(0,.sl X 0 n),(1,iA a),(2,iA b),(3,.fn f cap),(9,iA i),(10,iA c)],(X,.row 83 3 (u.toList.map itP))::Sf⟩) (λc i u=>c<=5/\a<i/\i<=b/\u.size=d.size/\partialIns (Ak cf) a b (5-c) i u=r) (λc _ _=>5-c) 0 (a+1) d ⟨by omega,by omega,by omega,rfl,hr⟩ ?_;rintro c i u ⟨hc5,hai,hib,hu,hfold⟩;(repeat first|refine WK ?_|refine Ai λX=>?_|refine Ay λY=>?_);refine AB rfl (λhc=>?_) (λhc=>?_)
 ·have h:c<5:=by have:=AM hc;omega
  obtain⟨s,hs⟩:∃s,5-c=s+1:=⟨4-c,by omega⟩;rw[hs,partialIns_succ]at hfold;obtain⟨i2,hi2⟩:=nm (scanSorted (Ak cf) u b i);rw[hi2]at hfold;have hrg:=J4 (Ak cf) u b i;rw[hi2]at hrg
  (repeat (first|refine D4 ?_|refine DS ?_|refine D0 ?_))
  refine AWP.block ?_
  (repeat (first|refine D4 ?_|refine DS ?_|refine D0 ?_))
  refine Ch (λk:Nat=>k=i2) (λk=>⟨[(0,.sl X 0 n),(1,iA a),(2,iA b),(3,.fn f cap),(9,iA k),(10,iA c)],(X,.row 83 3 (u.toList.map itP))::Sf⟩) ?_ ?_
  ·refine AWP.block ?_
   refine DL (λ(k:Nat)=>⟨[(0,.sl X 0 n),(1,iA a),(2,iA b),(3,.fn f cap),(9,iA k),(10,iA c)],(X,.row 83 3 (u.toList.map itP))::Sf⟩) (λk=>i<=k/\k<=b/\scanSorted (Ak cf) u b k=i2) (λk=>b-k) i ⟨AP _,hib,hi2⟩ ?_;rintro k ⟨hk1,hk2,hk⟩;rw[scanSorted]at hk;rcases Ac (decide ((k:Int)<(b:Int)))with g|g
   ·have hg:k<b:=by have:=AM g;omega
    have h1:=Ba itP (d:=u) (i:=k) (by omega);have h2:=Ba itP (d:=u) (i:=k-1) (by omega);have hl:=hcf (u[k]!) (u[k-1]!);(repeat refine WF ?_);refine RU ?_;(repeat first|(refine B0 ?_;first|(refine BM ?_;first|refine Cv (h:=(hl ..)) (k:=?_))|refine BQ ?_ (BS (((k-1:Nat):Int)) (by omega) (by omega) rfl rfl))|(refine Bu ?_;first|(refine BM ?_;first|refine Cv (h:=(hl ..)) (k:=?_))|refine BQ ?_ (BS (((k-1:Nat):Int)) (by omega) (by omega) rfl rfl))|refine RK ?_|refine RGo.nil (by kernel_rfl) ?_);(repeat refine WF ?_);refine AB rfl (λhd=>?_) (λhd=>?_)
    ·have hd:(!(Ak cf) u[k]! u[k-1]!)=true:=by simpa[g,Ak]using hd
     rw[A1 (by rw[AE];exact⟨Br (by omega),hd⟩)]at hk;(repeat first|refine WK ?_|refine Ai λX=>?_|refine Ay λY=>?_);exact DB (k+1) ⟨by omega,by omega,hk⟩
    ·have hd:(!(Ak cf) u[k]! u[k-1]!)=false:=by simpa[g,Ak]using hd
     rw[Ah (λe=>by rw[AE]at e;have e2:=e.2;rw[hd]at e2;cases e2)]at hk;(repeat first|refine WK ?_|refine Ai λX=>?_|refine Ay λY=>?_);exact jn k hk
   ·have hg:¬k<b:=by have:=Ab g;omega
    rw[Ah (λe=>by rw[AE]at e;have:=AM e.1;omega)]at hk;(repeat refine WF ?_);refine RU ?_;(repeat first|refine RK ?_|refine RGo.nil (by kernel_rfl) ?_);(repeat refine WF ?_);refine Aa rfl (by simp[g]) ?_;(repeat first|refine WK ?_|refine Ai λX=>?_|refine Ay λY=>?_);exact jn k hk
  rintro k hk0;rw[hk0];clear hk0 k;(repeat first|refine WK ?_|refine Ai λX=>?_|refine Ay λY=>?_);refine AB rfl (λhd=>?_) (λhd=>?_)
  ·have hd:i2=b:=by have:=AM hd;omega
   rw[A1 hd]at hfold;subst hfold;(repeat first|refine WK ?_|refine Ai λX=>?_|refine Ay λY=>?_);refine RT ?_;exact CU [bA true] [(X,_)] ⟨rfl,rfl⟩
  have hd:¬i2=b:=by have:=Ab hd;omega
  rw[Ah hd]at hfold;(repeat first|(refine AX ?_;first|refine AQ (BS (((b-a:Nat):Int)) (by omega) (by omega) rfl rfl) rfl ?_)|refine WK ?_|refine Ai λX=>?_|refine Ay λY=>?_);refine AB rfl (λhe=>?_) (λhe=>?_)
  ·have he:b-a<50:=by have:=AM he;omega
   rw[A1 he]at hfold;subst hfold;(repeat first|refine WK ?_|refine Ai λX=>?_|refine Ay λY=>?_);refine RT ?_;exact CU [bA false] [(X,_)] ⟨rfl,rfl⟩
  have he:¬b-a<50:=by have:=Ab he;omega
  rw[Ah he]at hfold;have h1:=Ba itP (d:=u) (i:=i2) (by omega);have h2:=Ba itP (d:=u) (i:=i2-1) (by omega);have hrow:=Ds itP (d:=u) (i:=i2) (j:=i2-1) (by omega) (by omega);obtain⟨y,hy⟩:=DN itP (d:=u) (i:=i2) (j:=i2-1) (by omega) u[i2-1]!;have hvs:(swp u i2 (i2-1)).size=d.size:=by rw[size_swp];exact hu
  (repeat refine WF ?_);refine RU ?_;(repeat first|(refine B0 ?_;first|refine BQ ?_ (BS (((i2-1:Nat):Int)) (by omega) (by omega) rfl rfl)|refine RGo.s (W.store rfl rfl (by exact AY) hy (by exact rfl)) rfl ?_)|(refine Bu ?_;first|refine BQ ?_ (BS (((i2-1:Nat):Int)) (by omega) (by omega) rfl rfl)|refine RGo.s (W.store rfl rfl (by exact AY) hy (by exact rfl)) rfl ?_)|refine RK ?_|refine RGo.nil (by kernel_rfl) ?_);obtain⟨v,hv⟩:=nm (swp u i2 (i2-1));rw[hv]at hrow hvs hfold;refine Ns [(0,.sl X 0 n),(1,iA a),(2,iA b),(3,.fn f cap),(9,iA i2),(10,iA c)] ((X,.row 83 3 (v.toList.map itP))::Sf) ?_ (h:=by rw[<-hrow];exact⟨by exact EL,by exact Av⟩);(repeat first|(refine AX ?_;first|refine AQ (BS (((i2-a:Nat):Int)) (by omega) (by omega) rfl rfl) rfl ?_)|refine WK ?_|refine Ai λX=>?_|refine Ay λY=>?_);refine Ch (λw:Array (Nat×Item)=>w.size=d.size/\w=fixDown (Ak cf) a i2 v) (λw=>⟨[(0,.sl X 0 n),(1,iA a),(2,iA b),(3,.fn f cap),(9,iA i2),(10,iA c)],(X,.row 83 3 (w.toList.map itP))::Sf⟩) ?_ ?_
  ·unfold fixDown
   refine AB rfl (λhf=>?_) (λhf=>?_)
   ·have hf:i2-a>=2:=by have:=AM hf;omega
    rw[A1 hf];(repeat first|(refine AX ?_;first|refine AQ (BS (((i2-1:Nat):Int)) (by omega) (by omega) rfl rfl) rfl ?_)|refine WK ?_|refine Ai λX=>?_|refine Ay λY=>?_);refine B6 (λ(k:Nat) (w:Array (Nat×Item))=>⟨[(0,.sl X 0 n),(1,iA a),(2,iA b),(3,.fn f cap),(9,iA i2),(10,iA c),(11,iA k)],(X,.row 83 3 (w.toList.map itP))::Sf⟩) (λk w=>k<b/\w.size=d.size/\shiftDown (Ak cf) k w=shiftDown (Ak cf) (i2-1) v) (λk _=>k) (i2-1) v ⟨by omega,hvs,rfl⟩ ?_;rintro k w ⟨hkb,hw,hk⟩;(repeat first|refine WK ?_|refine Ai λX=>?_|refine Ay λY=>?_);refine AB rfl (λhg=>?_) (λhg=>?_)
    ·obtain⟨q,rfl⟩:∃q,k=q+1:=⟨k-1,by have:=AM hg;omega⟩
     rw[shiftDown]at hk;have h1:=Ba itP (d:=w) (i:=q+1) (by omega);have h2:=Ba itP (d:=w) (i:=q) (by omega);have hl:=hcf (w[q+1]!) (w[q]!);(repeat refine WF ?_);refine RU ?_;(repeat first|(refine B0 ?_;first|(refine BM ?_;first|refine Cv (h:=(hl ..)) (k:=?_))|refine BQ ?_ (BS ((q:Int)) (by omega) (by omega) rfl rfl))|(refine Bu ?_;first|(refine BM ?_;first|refine Cv (h:=(hl ..)) (k:=?_))|refine BQ ?_ (BS ((q:Int)) (by omega) (by omega) rfl rfl))|refine RK ?_|refine RGo.nil (by kernel_rfl) ?_);(repeat refine WF ?_);refine AB rfl (λhd=>?_) (λhd=>?_)
     ·have hd:(!(Ak cf) w[q+1]! w[q]!)=true:=by simpa[Ak]using hd
      rw[A1 hd]at hk;(repeat first|refine WK ?_|refine Ai λX=>?_|refine Ay λY=>?_);exact jn w ⟨hw,hk⟩
     ·have hd:(!(Ak cf) w[q+1]! w[q]!)=false:=by simpa[Ak]using hd
      rw[Ah (by rw[hd];simp)]at hk;clear y hy;obtain⟨y,hy⟩:=DN itP (d:=w) (i:=q+1) (j:=q) (by omega) w[q]!;(repeat refine WF ?_);refine RU ?_;(repeat first|(refine B0 ?_;first|refine BQ ?_ (BS ((q:Int)) (by omega) (by omega) rfl rfl)|refine RGo.s (W.store rfl rfl (by exact AY) hy (by exact rfl)) rfl ?_)|(refine Bu ?_;first|refine BQ ?_ (BS ((q:Int)) (by omega) (by omega) rfl rfl)|refine RGo.s (W.store rfl rfl (by exact AY) hy (by exact rfl)) rfl ?_)|refine RK ?_|refine RGo.nil (by kernel_rfl) ?_);(repeat first|(refine AX ?_;first|refine AQ (BS ((q:Int)) (by omega) (by omega) rfl rfl) rfl ?_)|refine WK ?_|refine Ai λX=>?_|refine Ay λY=>?_);refine BV q (swp w (q+1) q) ⟨by omega,by rw[size_swp];exact hw,hk⟩ (h0:=by rw[<-Ds itP (by omega) (by omega)];exact⟨by exact EL,by exact Av⟩)
    ·obtain rfl:k=0:=by have:=Ab hg;omega
     rw[shiftDown]at hk;(repeat first|refine WK ?_|refine Ai λX=>?_|refine Ay λY=>?_);exact jn w ⟨hw,hk⟩
   ·have hf:¬i2-a>=2:=by have:=Ab hf;omega
    rw[Ah hf];(repeat first|refine WK ?_|refine Ai λX=>?_|refine Ay λY=>?_);exact jn v ⟨hvs,rfl⟩
  rintro w ⟨hws,hw0⟩;rw[<-hw0]at hfold;clear hw0 hrow y hy h1 h2;(repeat first|(refine AX ?_;first|refine AQ (BS (((b-i2:Nat):Int)) (by omega) (by omega) rfl rfl) rfl ?_)|refine WK ?_|refine Ai λX=>?_|refine Ay λY=>?_);refine Ro (λz:Array (Nat×Item)=>z.size=d.size/\z=fixUp (Ak cf) b i2 w) (λz=>⟨[(0,.sl X 0 n),(1,iA a),(2,iA b),(3,.fn f cap),(9,iA i2),(10,iA c)],(X,.row 83 3 (z.toList.map itP))::Sf⟩) ?_ ?_
  ·unfold fixUp
   refine AB rfl (λhf=>?_) (λhf=>?_)
   ·have hf:b-i2>=2:=by have:=AM hf;omega
    rw[A1 hf];(repeat first|(refine AX ?_;first|refine AQ (Bh (((i2+1:Nat):Int)) (by omega) (by omega) rfl rfl) rfl ?_)|refine WK ?_|refine Ai λX=>?_|refine Ay λY=>?_);refine B6 (λ(k:Nat) (z:Array (Nat×Item))=>⟨[(0,.sl X 0 n),(1,iA a),(2,iA b),(3,.fn f cap),(9,iA i2),(10,iA c),(12,iA k)],(X,.row 83 3 (z.toList.map itP))::Sf⟩) (λk z=>i2<k/\k<=b/\z.size=d.size/\shiftUp (Ak cf) b k z=shiftUp (Ak cf) b (i2+1) w) (λk _=>b-k) (i2+1) w ⟨by omega,by omega,hws,rfl⟩ ?_;rintro k z ⟨hik,hkb,hz1,hk⟩;rw[shiftUp]at hk;(repeat first|refine WK ?_|refine Ai λX=>?_|refine Ay λY=>?_);refine AB rfl (λhg=>?_) (λhg=>?_)
    ·have hg:k<b:=by have:=AM hg;omega
     rw[A1 hg]at hk;have h1:=Ba itP (d:=z) (i:=k) (by omega);have h2:=Ba itP (d:=z) (i:=k-1) (by omega);have hl:=hcf (z[k]!) (z[k-1]!);(repeat refine WF ?_);refine RU ?_;(repeat first|(refine B0 ?_;first|(refine BM ?_;first|refine Cv (h:=(hl ..)) (k:=?_))|refine BQ ?_ (BS (((k-1:Nat):Int)) (by omega) (by omega) rfl rfl))|(refine Bu ?_;first|(refine BM ?_;first|refine Cv (h:=(hl ..)) (k:=?_))|refine BQ ?_ (BS (((k-1:Nat):Int)) (by omega) (by omega) rfl rfl))|refine RK ?_|refine RGo.nil (by kernel_rfl) ?_);(repeat refine WF ?_);refine AB rfl (λhd=>?_) (λhd=>?_)
     ·have hd:(!(Ak cf) z[k]! z[k-1]!)=true:=by simpa[Ak]using hd
      rw[A1 hd]at hk;(repeat first|refine WK ?_|refine Ai λX=>?_|refine Ay λY=>?_);exact jn z ⟨hz1,hk⟩
     ·have hd:(!(Ak cf) z[k]! z[k-1]!)=false:=by simpa[Ak]using hd
      rw[Ah (by rw[hd];simp)]at hk;obtain⟨y,hy⟩:=DN itP (d:=z) (i:=k) (j:=k-1) (by omega) z[k-1]!;(repeat refine WF ?_);refine RU ?_;(repeat first|(refine B0 ?_;first|refine BQ ?_ (BS (((k-1:Nat):Int)) (by omega) (by omega) rfl rfl)|refine RGo.s (W.store rfl rfl (by exact AY) hy (by exact rfl)) rfl ?_)|(refine Bu ?_;first|refine BQ ?_ (BS (((k-1:Nat):Int)) (by omega) (by omega) rfl rfl)|refine RGo.s (W.store rfl rfl (by exact AY) hy (by exact rfl)) rfl ?_)|refine RK ?_|refine RGo.nil (by kernel_rfl) ?_);(repeat first|refine WK ?_|refine Ai λX=>?_|refine Ay λY=>?_);refine BV (k+1) (swp z k (k-1)) ⟨by omega,by omega,by rw[size_swp];exact hz1,hk⟩ (h0:=by rw[<-Ds itP (by omega) (by omega)];exact⟨by exact EL,by exact Av⟩)
    ·have hg:¬k<b:=by have:=Ab hg;omega
     rw[Ah hg]at hk;(repeat first|refine WK ?_|refine Ai λX=>?_|refine Ay λY=>?_);exact jn z ⟨hz1,hk⟩
   ·have hf:¬b-i2>=2:=by have:=Ab hf;omega
    rw[Ah hf];(repeat first|refine WK ?_|refine Ai λX=>?_|refine Ay λY=>?_);exact jn w ⟨hws,rfl⟩
  rintro z ⟨hzs,hz0⟩;rw[<-hz0]at hfold;(repeat first|refine WK ?_|refine Ai λX=>?_|refine Ay λY=>?_);refine Ek (c+1) i2 z ⟨by omega,by omega,by omega,hzs,by rw[show 5-(c+1)=s by omega];exact hfold⟩
 ·have h:c=5:=by have:=Ab hc;omega
  subst h;rw[show 5-5=0 from rfl,partialIns]at hfold;subst hfold;(repeat first|refine WK ?_|refine Ai λX=>?_|refine Ay λY=>?_);refine RT ?_;exact CU [bA false] [(X,_)] ⟨rfl,rfl⟩
end
section
open Go.Sort
set_option maxHeartbeats 1000000 in
theorem UX{f:FuncId}{cap:List AV}(X n:Nat)(d:Array (Nat×Item))(a b:Nat)(hn:n=d.size)(hab:a<=b)(hb:b<=d.size)(hz:d.size<65536):Spec prog 175 [.sl X 0 n,iA a,iA b,.fn f cap] [(X,.row 83 3 (d.toList.map itP))] λr S'=>∃u:Array (Nat×Item),PermIn a b d u/\r= .tup []/\S'=[(X,.row 83 3 (u.toList.map itP))]:=by
 obtain⟨l,hl⟩:=nm (b-a);refine Spec.of (nt:=67) (res:=[]) func175 rfl (by kernel_rfl) rfl rfl rfl λSf=>?_
 (repeat first|(refine AX ?_;first|refine AQ (BS ((l:Int)) (by omega) (by omega) rfl rfl) rfl ?_)|refine WK ?_|refine Ai λX=>?_|refine Ay λY=>?_);refine AB rfl (λh8=>?_) (λh8=>?_)
 ·have h8:8<=l:=by have:=AM h8;omega
  have hnp:=Pa l (by omega);have hbl:bitsLen l<=16:=(bitsLen_le_iff l 16).2 (by omega);have hm2:=two_pow_bitsLen_le (n:=l) (by omega);obtain⟨m,hm⟩:∃m,(1:UInt64)<<<UInt64.ofNat (bitsLen l)=m:=⟨_,rfl⟩
  have hmn:m.toNat=2^bitsLen l:=by
   have:2^bitsLen l<=2^16:=WS (by decide) hbl;rw[<-hm,WH,C2,show bitsLen l%2^64%64=bitsLen l by omega,Nat.shiftLeft_eq,show(1:UInt64).toNat=1 from rfl];omega
  rw[hm]at hnp;have hp1:1<=2^bitsLen l:=Nat.one_le_two_pow;(repeat first|(refine AX ?_;first|(refine AZ ?_;first|refine DQ (h:=(hnp ..)) (k:=?_))|refine AQ (LY .i64 l rfl (by omega) (by kernel_rfl) (by kernel_rfl) rfl) rfl ?_|refine AQ (La l 4 (l/4) rfl rfl (by omega) rfl (by omega) rfl rfl) rfl ?_|refine AQ (Jb ((l/4*2:Nat):Int) (by omega) (by omega) rfl rfl) rfl ?_|refine AQ (Bh (((a+l/4*2:Nat):Int)) (by omega) (by omega) rfl rfl) rfl ?_|refine AQ (BS (((a+l/4*2-1:Nat):Int)) (by omega) (by omega) rfl rfl) rfl ?_)|refine WK ?_|refine Ai λV=>?_|refine Ay λY=>?_);refine GD (λ(k:Nat) (s:UInt64) (u:Array (Nat×Item))=>⟨[(0,.sl X 0 n),(1,iA a),(3,.fn f cap),(8,iA l),(9,.ptr V 0 0),(10,uA m),(11,iA k)],(V,.row 331 1 [uA s])::(X,.row 83 3 (u.toList.map itP))::Sf⟩) (λk s u=>a<=k/\k<=a+l/4*2+2/\PermIn a b d u) (λk _ _=>a+l/4*2+2-k) (a+l/4*2-1) (UInt64.ofNat l) d ⟨by omega,by omega,permIn_refl _ _ _⟩ ?_;rintro k s u ⟨hak,hkl,hP⟩;have hu:u.size=d.size:=hP.1;(repeat first|(refine AX ?_;first|refine AQ (La l 4 (l/4) rfl rfl (by omega) rfl (by omega) rfl rfl) rfl ?_|refine AQ (Jb ((l/4*2:Nat):Int) (by omega) (by omega) rfl rfl) rfl ?_|refine AQ (Bh (((a+l/4*2:Nat):Int)) (by omega) (by omega) rfl rfl) rfl ?_|refine AQ (Bh (((a+l/4*2+1:Nat):Int)) (by omega) (by omega) rfl rfl) rfl ?_)|refine WK ?_|refine Ai λX=>?_|refine Ay λY=>?_);refine AB rfl (λhc=>?_) (λhc=>?_)
  ·have hk1:k<=a+l/4*2+1:=by have:=AM hc;omega
   have hkb:k<b:=by omega
   refine D4 ?_;refine DS ?_;refine D0 ?_;refine AWP.block ?_;refine D0 ?_;refine RG ?_;(repeat first|(refine AX ?_;first|(refine AZ ?_;first|refine Td (PH V s) λv _=>?_))|refine WO ?_|refine Ai λX=>?_|refine Ay λY=>?_)
   have hvb:(v&&&(m-1)).toNat<2*l:=by
    rw[UInt64.toNat_and,UInt64.toNat_sub_of_le _ _ (by rw[UInt64.le_iff_toNat_le,hmn];exact hp1),hmn];have:=Nat.and_le_right (n:=v.toNat) (m:=2^bitsLen l-(1:UInt64).toNat);have e:(1:UInt64).toNat=1:=rfl;omega
   (repeat first|(refine AX ?_;first|refine AQ (Vd (b:=1) rfl rfl) rfl ?_|refine AQ (Vg rfl rfl) rfl ?_|refine AQ (Ve .u64 (by omega) (by kernel_rfl) (by kernel_rfl) rfl) rfl ?_)|refine WO ?_|refine Ai λX=>?_|refine Ay λY=>?_);refine AOps.nil ?_
   (repeat (first|refine D4 ?_|refine DS ?_|refine D0 ?_))
   obtain⟨o,ho⟩:=nm ((v&&&(m-1)).toNat);refine Ns [(0,.sl X 0 n),(1,iA a),(3,.fn f cap),(8,iA l),(9,.ptr V 0 0),(10,uA m),(11,iA k),(12,iA o)] ((V,.row 331 1 [uA v])::(X,.row 83 3 (u.toList.map itP))::Sf) ?_ (h:=by rw[<-ho];exact⟨by exact EL,by exact Av⟩);rw[ho]at hvb;(repeat first|refine WK ?_|refine Ai λX=>?_|refine Ay λY=>?_);refine Ch (λo:Nat=>o<l) (λo=>⟨[(0,.sl X 0 n),(1,iA a),(3,.fn f cap),(8,iA l),(9,.ptr V 0 0),(10,uA m),(11,iA k),(12,iA o)],(V,.row 331 1 [uA v])::(X,.row 83 3 (u.toList.map itP))::Sf⟩) ?_ ?_
   ·refine AB rfl (λhd=>?_) (λhd=>?_)
    ·have hd:l<=o:=by have:=AM hd;omega
     (repeat first|(refine AX ?_;first|refine AQ (BS (((o-l:Nat):Int)) (by omega) (by omega) rfl rfl) rfl ?_)|refine WK ?_|refine Ai λX=>?_|refine Ay λY=>?_);exact jn (o-l) (by omega)
    ·have hd:¬l<=o:=by have:=Ab hd;omega
     (repeat first|refine WK ?_|refine Ai λX=>?_|refine Ay λY=>?_);exact jn o (by omega)
   rintro o hol;have h1:=Ba itP (d:=u) (i:=k) (by omega);have h2:=Ba itP (d:=u) (i:=a+o) (by omega);obtain⟨y,hy⟩:=DN itP (d:=u) (i:=k) (j:=a+o) (by omega) u[a+o]!;(repeat refine WF ?_);refine RU ?_;(repeat first|(refine B0 ?_;first|refine BQ ?_ (Bh (((a+o:Nat):Int)) (by omega) (by omega) rfl rfl)|refine RGo.s (W.store rfl rfl (by exact AY) hy (by exact rfl)) rfl ?_)|(refine Bu ?_;first|refine BQ ?_ (Bh (((a+o:Nat):Int)) (by omega) (by omega) rfl rfl)|refine RGo.s (W.store rfl rfl (by exact AY) hy (by exact rfl)) rfl ?_)|refine RK ?_|refine RGo.nil (by kernel_rfl) ?_);(repeat first|refine WK ?_|refine Ai λX=>?_|refine Ay λY=>?_);refine Ek (k+1) v (swp u k (a+o)) ⟨by omega,by omega,permIn_trans _ _ _ _ _ hP (swp_permIn _ _ _ _ _ (by omega) (by omega) (by omega) (by omega) (by omega))⟩ (h0:=by rw[<-Ds itP (by omega) (by omega)];exact⟨by exact EL,by exact Av⟩)
  ·(repeat first|refine WK ?_|refine Ai λX=>?_|refine Ay λY=>?_)
   refine Ed ?_;exact CA [(X,.row 83 3 (u.toList.map itP))] ⟨u,hP,rfl,rfl⟩
 ·(repeat first|refine WK ?_|refine Ai λX=>?_|refine Ay λY=>?_)
  refine Ed ?_;exact CA [(X,.row 83 3 (d.toList.map itP))] ⟨d,permIn_refl _ _ _,rfl,rfl⟩
end
section
open Go.Sort
set_option maxHeartbeats 1000000 in
theorem IH(f:FuncId)(cap:List AV)(cf:(Nat×Item)->(Nat×Item)->Int)(hst:DG cap=true)(hcf:∀x y,PS prog f (itP x::itP y::cap) (iA (cf x y)))(X Y n:Nat)(d:Array (Nat×Item))(a b s:Nat)(hn:n=d.size)(ha:a<d.size)(hb:b<d.size)(hs:s<=1099511627776):Spec prog 257 [.sl X 0 n,iA a,iA b,.ptr Y 0 0,.fn f cap] [(X,.row 83 3 (d.toList.map itP)),(Y,.row 3 1 [iA s])] λr S'=>r= .tup [iA (order2 (Ak cf) d a b s).1,iA (order2 (Ak cf) d a b s).2.1]/\S'=[(X,.row 83 3 (d.toList.map itP)),(Y,.row 3 1 [iA (order2 (Ak cf) d a b s).2.2])]:=by
 subst hn;have h1:=Ba itP ha;have h2:=Ba itP hb;have hl:=hcf (d[b]!) (d[a]!);refine Spec.of (nt:=32) (res:=[.tmp 10,.tmp 11]) func257 rfl (by kernel_rfl) rfl rfl rfl λSf=>?_
 unfold order2;refine RG ?_;(repeat first|refine WO ?_|refine Ai λX=>?_|refine Ay λY=>?_);refine NL ?_;refine RU ?_;(repeat first|(refine B0 ?_;first|(refine BM ?_;first|refine Cv (h:=(hl ..)) (k:=?_)))|(refine Bu ?_;first|(refine BM ?_;first|refine Cv (h:=(hl ..)) (k:=?_)))|refine RK ?_|refine RGo.nil (by kernel_rfl) ?_);(repeat refine WF ?_);refine AB rfl (λhc=>?_) (λhc=>?_)
 ·have hc:(Ak cf) d[b]! d[a]! =true:=by simpa[Ak]using hc
  rw[A1 hc];(repeat first|refine WK ?_|refine Ai λX=>?_|refine Ay λY=>?_);refine RT ?_;exact CU [iA b,iA a] [(X,_),(Y,_)] ⟨rfl,rfl⟩
 ·have hc:(Ak cf) d[b]! d[a]! =false:=by simpa[Ak]using hc
  rw[Ah (by simp[hc])];(repeat first|refine WK ?_|refine Ai λX=>?_|refine Ay λY=>?_);refine RT ?_;exact CU [iA a,iA b] [(X,_),(Y,_)] ⟨rfl,rfl⟩
set_option maxHeartbeats 1000000 in
theorem Kr(f:FuncId)(cap:List AV)(cf:(Nat×Item)->(Nat×Item)->Int)(hst:DG cap=true)(hcf:∀x y,PS prog f (itP x::itP y::cap) (iA (cf x y)))(X Y n:Nat)(d:Array (Nat×Item))(a b c s:Nat)(hn:n=d.size)(ha:a<d.size)(hb:b<d.size)(hc:c<d.size)(hs:s<=1099511627000):Spec prog 236 [.sl X 0 n,iA a,iA b,iA c,.ptr Y 0 0,.fn f cap] [(X,.row 83 3 (d.toList.map itP)),(Y,.row 3 1 [iA s])] λr S'=>r=iA (median (Ak cf) d a b c s).1/\S'=[(X,.row 83 3 (d.toList.map itP)),(Y,.row 3 1 [iA (median (Ak cf) d a b c s).2])]:=by
 obtain⟨m,hm⟩:=nm (median (Ak cf) d a b c s);rw[hm];unfold median at hm;have l1:=JJ (Ak cf) d a b s _ ha hb;have e1:=GN (Ak cf) d a b s;have h1:=IH f cap cf hst hcf X Y n d a b s hn ha hb (by omega);obtain⟨⟨a1,b1,s1⟩,hr1⟩:=nm (order2 (Ak cf) d a b s);rw[hr1]at h1 hm l1 e1;dsimp only at h1 hm l1 e1;have l2:=JJ (Ak cf) d b1 c s1 _ l1.2 hc;have e2:=GN (Ak cf) d b1 c s1;have h2:=IH f cap cf hst hcf X Y n d b1 c s1 hn l1.2 hc (by omega);obtain⟨⟨b2,c2,s2⟩,hr2⟩:=nm (order2 (Ak cf) d b1 c s1);rw[hr2]at h2 hm l2 e2;dsimp only at h2 hm l2 e2;have l3:=JJ (Ak cf) d a1 b2 s2 _ l1.1 l2.1;have h3:=IH f cap cf hst hcf X Y n d a1 b2 s2 hn l1.1 l2.1 (by omega);obtain⟨⟨a3,b3,s3⟩,hr3⟩:=nm (order2 (Ak cf) d a1 b2 s2);rw[hr3]at h3 hm l3;dsimp only at h3 hm l3;subst hm;refine Spec.of (nt:=41) (res:=[.tmp 12]) func236 rfl (by kernel_rfl) rfl rfl rfl λSf=>?_
 (repeat first|(refine AX ?_;first|(refine AZ ?_;first|refine Nt h1 .fz ?_|refine Nt h2 .fz ?_|refine Nt h3 .fz ?_))|refine WK ?_|refine Ai λX=>?_|refine Ay λY=>?_);refine RT ?_;exact CU [iA b3] [(X,_),(Y,_)] ⟨rfl,rfl⟩
set_option maxHeartbeats 1000000 in
theorem IJ(f:FuncId)(cap:List AV)(cf:(Nat×Item)->(Nat×Item)->Int)(hst:DG cap=true)(hcf:∀x y,PS prog f (itP x::itP y::cap) (iA (cf x y)))(X Y n:Nat)(d:Array (Nat×Item))(a s:Nat)(hn:n=d.size)(ha:a+1<d.size)(h0:0<a)(hz:d.size<=1099511627776)(hs:s<=1099511627000):Spec prog 235 [.sl X 0 n,iA a,.ptr Y 0 0,.fn f cap] [(X,.row 83 3 (d.toList.map itP)),(Y,.row 3 1 [iA s])] λr S'=>r=iA (medianAdjacent (Ak cf) d a s).1/\S'=[(X,.row 83 3 (d.toList.map itP)),(Y,.row 3 1 [iA (medianAdjacent (Ak cf) d a s).2])]:=by
 have h1:=Kr f cap cf hst hcf X Y n d (a-1) a (a+1) s hn (by omega) (by omega) ha hs;unfold medianAdjacent;refine Spec.of (nt:=18) (res:=[.tmp 8]) func235 rfl (by kernel_rfl) rfl rfl rfl λSf=>?_
 (repeat first|(refine AX ?_;first|(refine AZ ?_;first|refine Ql h1 .fz ?_)|refine AQ (BS ((a-1:Nat):Int) (by omega) (by omega) rfl rfl) rfl ?_|refine AQ (Bh ((a+1:Nat):Int) (by omega) (by omega) rfl rfl) rfl ?_)|refine WK ?_|refine Ai λX=>?_|refine Ay λY=>?_);refine RT ?_;exact CU [iA _] [(X,_),(Y,_)] ⟨rfl,rfl⟩
set_option maxHeartbeats 1000000 in
theorem KD(f:FuncId)(cap:List AV)(cf:(Nat×Item)->(Nat×Item)->Int)(hst:DG cap=true)(hcf:∀x y,PS prog f (itP x::itP y::cap) (iA (cf x y)))(X n:Nat)(d:Array (Nat×Item))(a b:Nat)(hn:n=d.size)(hab:a<b)(hb:b<=d.size)(hz:d.size<=1099511627776):PO prog 176 [.sl X 0 n,iA a,iA b,.fn f cap] X (.row 83 3 (d.toList.map itP)) (.tup [iA (choosePivot (Ak cf) d a b).1,iA (U7 (choosePivot (Ak cf) d a b).2)]) (.row 83 3 (d.toList.map itP)):=by
 obtain⟨c,hc⟩:=nm (choosePivot (Ak cf) d a b);rw[hc];unfold choosePivot at hc;obtain⟨l,hl⟩:=nm (b-a);obtain⟨i,hi⟩:=nm (a+l/4*1);obtain⟨j,hj⟩:=nm (a+l/4*2);obtain⟨k,hk⟩:=nm (a+l/4*3);rw[hl]at hc;dsimp only at hc;rw[hi,hj,hk]at hc;refine Spec.of (nt:=63) (res:=[.tmp 8,.tmp 9]) func176 rfl (by kernel_rfl) rfl rfl rfl λSf=>?_
 have hlb:l<=1099511627776:=by omega
 (repeat first|(refine AX ?_;first|refine AQ (BS (l:Int) (by omega) (by omega) rfl rfl) rfl ?_|refine AQ (La l 4 (l/4) rfl rfl (by omega) rfl (by omega) rfl rfl) rfl ?_|refine AQ (Jb ((l/4*1:Nat):Int) (by omega) (by omega) rfl rfl) rfl ?_|refine AQ (Jb ((l/4*2:Nat):Int) (by omega) (by omega) rfl rfl) rfl ?_|refine AQ (Jb ((l/4*3:Nat):Int) (by omega) (by omega) rfl rfl) rfl ?_|refine AQ (Bh (i:Int) (by omega) (by omega) rfl rfl) rfl ?_|refine AQ (Bh (j:Int) (by omega) (by omega) rfl rfl) rfl ?_|refine AQ (Bh (k:Int) (by omega) (by omega) rfl rfl) rfl ?_)|refine WK ?_|refine Ai λV=>?_|refine Ay λY=>?_);refine Ch (λb:Nat×Nat=>c=(b.1,if b.2=0 then Hint.increasing else if b.2=12 then Hint.decreasing else Hint.unknown)) (λb=>⟨[(0,.sl X 0 n),(3,.fn f cap),(11,.ptr V 0 0),(13,iA b.1)],(V,.row 3 1 [iA b.2])::(X,.row 83 3 (d.toList.map itP))::Sf⟩) ?_ ?_
 ·refine AB rfl (λh8=>?_) (λh8=>?_)
  ·have h8:l>=8:=by have:=AM h8;omega
   rw[A1 h8]at hc;(repeat first|refine WK ?_|refine Ai λX=>?_|refine Ay λY=>?_);refine Ch (λb:Nat×Nat×Nat×Nat=>b.1<d.size/\b.2.1<d.size/\b.2.2.1<d.size/\b.2.2.2<=100/\(if l>=50 then median (Ak cf) d (medianAdjacent (Ak cf) d i 0).1 (medianAdjacent (Ak cf) d j (medianAdjacent (Ak cf) d i 0).2).1 (medianAdjacent (Ak cf) d k (medianAdjacent (Ak cf) d j (medianAdjacent (Ak cf) d i 0).2).2).1 (medianAdjacent (Ak cf) d k (medianAdjacent (Ak cf) d j (medianAdjacent (Ak cf) d i 0).2).2).2 else median (Ak cf) d i j k 0)=median (Ak cf) d b.1 b.2.1 b.2.2.1 b.2.2.2) (λb=>⟨[(0,.sl X 0 n),(3,.fn f cap),(11,.ptr V 0 0),(12,iA b.1),(13,iA b.2.1),(14,iA b.2.2.1)],(V,.row 3 1 [iA b.2.2.2])::(X,.row 83 3 (d.toList.map itP))::Sf⟩) ?_ ?_
   ·refine AB rfl (λh50=>?_) (λh50=>?_)
    ·have h50:l>=50:=by have:=AM h50;omega
     have a1:=JL (Ak cf) d i 0 _ (show i+1<d.size by omega);have b1:=JK (Ak cf) d (i-1) i (i+1) 0;have s1:=IJ f cap cf hst hcf X V n d i 0 hn (by omega) (by omega) hz (by omega);rw[A1 h50];have e1:(median (Ak cf) d (i-1) i (i+1) 0).2=(medianAdjacent (Ak cf) d i 0).2:=rfl;rw[e1]at b1;obtain⟨⟨p1,q1⟩,r1⟩:=nm (medianAdjacent (Ak cf) d i 0);rw[r1]at a1 b1 s1⊢;dsimp only at a1 b1 s1⊢;have a2:=JL (Ak cf) d j q1 _ (show j+1<d.size by omega);have b2:=JK (Ak cf) d (j-1) j (j+1) q1;have s2:=IJ f cap cf hst hcf X V n d j q1 hn (by omega) (by omega) hz (by omega);have e2:(median (Ak cf) d (j-1) j (j+1) q1).2=(medianAdjacent (Ak cf) d j q1).2:=rfl;rw[e2]at b2;obtain⟨⟨p2,q2⟩,r2⟩:=nm (medianAdjacent (Ak cf) d j q1);rw[r2]at a2 b2 s2⊢;dsimp only at a2 b2 s2⊢;have a3:=JL (Ak cf) d k q2 _ (show k+1<d.size by omega);have b3:=JK (Ak cf) d (k-1) k (k+1) q2;have s3:=IJ f cap cf hst hcf X V n d k q2 hn (by omega) (by omega) hz (by omega);have e3:(median (Ak cf) d (k-1) k (k+1) q2).2=(medianAdjacent (Ak cf) d k q2).2:=rfl;rw[e3]at b3;obtain⟨⟨p3,q3⟩,r3⟩:=nm (medianAdjacent (Ak cf) d k q2);rw[r3]at a3 b3 s3⊢;dsimp only at a3 b3 s3⊢;(repeat first|(refine AX ?_;first|(refine AZ ?_;first|refine Nu s1 .fz ?_|refine Nu s2 .fz ?_|refine Nu s3 .fz ?_))|refine WK ?_|refine Ai λX=>?_|refine Ay λY=>?_);refine jn (p1,p2,p3,q3) ⟨a1,a2,a3,by dsimp only;omega,rfl⟩
    ·have h50:¬l>=50:=by have:=Ab h50;omega
     rw[Ah h50];(repeat first|refine WK ?_|refine Ai λX=>?_|refine Ay λY=>?_);refine jn (i,j,k,0) ⟨by dsimp only;omega,by dsimp only;omega,by dsimp only;omega,by dsimp only;omega,rfl⟩
   ·rintro⟨p1,p2,p3,q⟩ ⟨l1,l2,l3,lq,e⟩
    dsimp only at l1 l2 l3 lq e⊢;rw[e]at hc;have h1:=Kr f cap cf hst hcf X V n d p1 p2 p3 q hn l1 l2 l3 (by omega);obtain⟨⟨r1,r2⟩,hr⟩:=nm (median (Ak cf) d p1 p2 p3 q);rw[hr]at hc h1;dsimp only at h1;(repeat first|(refine AX ?_;first|(refine AZ ?_;first|refine Ql h1 .fz ?_))|refine WK ?_|refine Ai λX=>?_|refine Ay λY=>?_);refine jn (r1,r2) hc.symm
  ·have h8:¬l>=8:=by have:=Ab h8;omega
   rw[Ah h8]at hc;(repeat first|refine WK ?_|refine Ai λX=>?_|refine Ay λY=>?_);refine jn (j,0) hc.symm
 ·rintro⟨p,s⟩ hc
  dsimp only at hc⊢;subst hc;(repeat first|refine WK ?_|refine Ai λX=>?_|refine Ay λY=>?_);refine AB rfl (λh0=>?_) (λh0=>?_)
  ·have h0:s=0:=by have:=AM h0;omega
   rw[A1 h0];(repeat first|refine WK ?_|refine Ai λX=>?_|refine Ay λY=>?_);refine RT ?_;exact CU [iA p,iA 1] [(X,_)] ⟨rfl,rfl⟩
  ·have h0:¬s=0:=by have:=Ab h0;omega
   rw[Ah h0];(repeat first|refine WK ?_|refine Ai λX=>?_|refine Ay λY=>?_);refine AB rfl (λh1=>?_) (λh1=>?_)
   ·have h1:s=12:=by have:=AM h1;omega
    rw[A1 h1];(repeat first|refine WK ?_|refine Ai λX=>?_|refine Ay λY=>?_);refine RT ?_;exact CU [iA p,iA 2] [(X,_)] ⟨rfl,rfl⟩
   ·have h1:¬s=12:=by have:=Ab h1;omega
    rw[Ah h1];(repeat first|refine WK ?_|refine Ai λX=>?_|refine Ay λY=>?_);refine RT ?_;exact CU [iA p,iA 0] [(X,_)] ⟨rfl,rfl⟩
end
section
open Go.Sort
set_option maxHeartbeats 1000000 in
theorem T4(f:FuncId)(cap:List AV)(cf:(Nat×Item)->(Nat×Item)->Int)(hst:DG cap=true)(hcf:∀x y,PS prog f (itP x::itP y::cap) (iA (cf x y)))(hS:SWO (Ak cf)):∀(m X n:Nat) (d:Array (Nat×Item)) (a b limit:Nat),b-a<=m->n=d.size->a<=b->b<=d.size->d.size<65536->limit<=1000->Below (Ak cf) a b d->Spec prog 129 [.sl X 0 n,iA a,iA b,iA limit,.fn f cap] [(X,.row 83 3 (d.toList.map itP))] λr S'=>∃u:Array (Nat×Item),(PermIn a b d u/\SortedIn (Ak cf) a b u)/\r= .tup []/\S'=[(X,.row 83 3 (u.toList.map itP))]:=by
 intro m
 induction m using Nat.strongRecOn with
 |_ m ih=>
 intro X n d a b limit hm hn hab hb hz hlim hB;refine Spec.of (nt:=148) (res:=[]) func129 rfl (by kernel_rfl) rfl rfl rfl λSf=>?_
 (repeat first|refine WK ?_|refine Ai λX=>?_|refine Ay λY=>?_);refine Up (λ(a b limit:Nat) (wb wp:Bool) (u:Array (Nat×Item))=>⟨[(0,.sl X 0 n),(1,iA a),(2,iA b),(3,iA limit),(4,.fn f cap),(10,bA wb),(11,bA wp)],(X,.row 83 3 (u.toList.map itP))::Sf⟩) (λa' b' limit wb wp u=>a' <=b' /\b' <=d.size/\b'-a' <=b-a/\limit<=1000/\u.size=d.size/\Below (Ak cf) a' b' u/\∀R,PermIn a' b' u R->SortedIn (Ak cf) a' b' R->PermIn a b d R/\SortedIn (Ak cf) a b R) (λa b _ _ _ _=>b-a) a b limit true true d ⟨hab,hb,AP _,hlim,rfl,hB,λR h1 h2=>⟨h1,h2⟩⟩ ?_;rintro a' b' limit wb wp u ⟨hab',hb',hmm,hlim,hu,hB',hG⟩;obtain⟨l,hl⟩:=nm (b'-a');refine AWP.block ?_;(repeat first|(refine AX ?_;first|refine AQ (BS ((l:Int)) (by omega) (by omega) rfl rfl) rfl ?_)|refine WK ?_|refine Ai λX=>?_|refine Ay λY=>?_);refine AB rfl (λhc=>?_) (λhc=>?_)
 ·have hs:=UF f cap cf hst hcf X n u a' b' (by omega) hab' (by omega) (by omega)
  obtain⟨p1,p2⟩:=insertionSort_holds (lt:=(Ak cf)) hS u a' b' hab' (by omega);(repeat first|(refine AX ?_;first|(refine AZ ?_;first|refine Gv (h:=(hs ..)) (k:=?_)))|refine WK ?_|refine Ai λX=>?_|refine Ay λY=>?_);refine RT ?_;exact CA [(X,_)] ⟨_,hG _ p1 p2,rfl,rfl⟩
 have hl12:12<l:=by have:=Ab hc;omega
 (repeat first|refine WK ?_|refine Ai λX=>?_|refine Ay λY=>?_);refine AB rfl (λhc=>?_) (λhc=>?_)
 ·have hs:=Sj f cap cf hst hcf X n u a' b' (by omega) (by omega) (by omega) (by omega)
  obtain⟨p1,p2⟩:=heapSort_holds (lt:=(Ak cf)) hS u a' b' hab' (by omega);(repeat first|(refine AX ?_;first|(refine AZ ?_;first|refine Gv (h:=(hs ..)) (k:=?_)))|refine WK ?_|refine Ai λX=>?_|refine Ay λY=>?_);refine RT ?_;exact CA [(X,_)] ⟨_,hG _ p1 p2,rfl,rfl⟩
 have hl0:0<limit:=by have:=Ab hc;omega
 (repeat first|refine WK ?_|refine Ai λX=>?_|refine Ay λY=>?_);refine Ch (λb:Nat×Array (Nat×Item)=>b.1<=1000/\PermIn a' b' u b.2) (λb=>⟨[(0,.sl X 0 n),(1,iA a'),(2,iA b'),(3,iA b.1),(4,.fn f cap),(10,bA wb),(11,bA wp),(12,iA l)],(X,.row 83 3 (b.2.toList.map itP))::Sf⟩) ?_ ?_
 ·refine AB rfl (λhd=>?_) (λhd=>?_)
  ·have hs:=UX (f:=f) (cap:=cap) X n u a' b' (by omega) hab' (by omega) (by omega)
   (repeat first|(refine AX ?_;first|(refine AZ ?_;first|refine Tc hs λv hv=>?_)|refine AQ (BS (((limit-1:Nat):Int)) (by omega) (by omega) rfl rfl) rfl ?_)|refine WK ?_|refine Ai λX=>?_|refine Ay λY=>?_);exact jn (limit-1,v) ⟨by dsimp only;omega,hv⟩
  ·(repeat first|refine WK ?_|refine Ai λX=>?_|refine Ay λY=>?_)
   exact jn (limit,u) ⟨hlim,permIn_refl _ _ _⟩
 rintro⟨lim1,u1⟩ ⟨hlim1,hP1⟩;dsimp only at hlim1 hP1⊢;have hu1:u1.size=d.size:=hP1.1.trans hu;have hpv:=KD f cap cf hst hcf X n u1 a' b' (by omega) (by omega) (by omega) (by omega);obtain⟨c1,c2⟩:=choosePivot_holds (Ak cf) u1 a' b' (by omega);obtain⟨⟨p,h⟩,hp⟩:=nm (choosePivot (Ak cf) u1 a' b');rw[hp]at hpv c1 c2;dsimp only at hpv c1 c2;obtain⟨hnum,hhn⟩:=nm (U7 h);rw[hhn]at hpv;(repeat first|(refine AX ?_;first|(refine AZ ?_;first|refine Gv (h:=(hpv ..)) (k:=?_)))|refine WK ?_|refine Ai λX=>?_|refine Ay λY=>?_);refine Ch (λb:Nat×Int×Array (Nat×Item)=>a' <=b.1/\b.1<b' /\PermIn a' b' u b.2.2) (λb=>⟨[(0,.sl X 0 n),(1,iA a'),(2,iA b'),(3,iA lim1),(4,.fn f cap),(10,bA wb),(11,bA wp),(12,iA l),(13,iA b.1),(14,iA b.2.1)],(X,.row 83 3 (b.2.2.toList.map itP))::Sf⟩) ?_ ?_
 ·refine AB rfl (λhd=>?_) (λhd=>?_)
  ·have hs:=Tx (f:=f) (cap:=cap) X n u1 a' b' (by omega) (by omega) (by omega) (by omega)
   have hrp:=reverseRange_holds u1 a' b' hab' (by omega);(repeat first|(refine AX ?_;first|(refine AZ ?_;first|refine Gv (h:=(hs ..)) (k:=?_))|refine AQ (BS (((b'-1:Nat):Int)) (by omega) (by omega) rfl rfl) rfl ?_|refine AQ (BS (((p-a':Nat):Int)) (by omega) (by omega) rfl rfl) rfl ?_|refine AQ (BS (((b'-1-(p-a'):Nat):Int)) (by omega) (by omega) rfl rfl) rfl ?_)|refine WK ?_|refine Ai λX=>?_|refine Ay λY=>?_);exact jn (b'-1-(p-a'),1,_) ⟨by dsimp only;omega,by dsimp only;omega,permIn_trans _ _ _ _ _ hP1 hrp⟩
  ·(repeat first|refine WK ?_|refine Ai λX=>?_|refine Ay λY=>?_)
   exact jn (p,hnum,u1) ⟨c1,c2,hP1⟩
 rintro⟨pv,hn2,u2⟩ ⟨c3,c4,hP2⟩;dsimp only at c3 c4 hP2⊢;have hu2:u2.size=d.size:=hP2.1.trans hu;have hB2:=hB'.perm (by omega) hP2;clear hpv hp hhn c1 c2 p h hnum;refine D0 ?_;refine Jh (λv:Array (Nat×Item)=>PermIn a' b' u v) (λv=>⟨[(0,.sl X 0 n),(1,iA a'),(2,iA b'),(3,iA lim1),(4,.fn f cap),(10,bA wb),(11,bA wp),(12,iA l),(13,iA pv)],(X,.row 83 3 (v.toList.map itP))::Sf⟩) ?_ ?_
 ·(repeat first|refine WK ?_|refine Ai λX=>?_|refine Ay λY=>?_)
  refine AB rfl (λ_=>?_) (λ_=>?_)
  ·have hs:=SM f cap cf hst hcf X n u2 a' b' (by omega) (by omega) (by omega) (by omega)
   have hpi:=partialInsertionSort_holds (lt:=(Ak cf)) hS u2 a' b' (by omega) (by omega) hB2;obtain⟨⟨v,fl⟩,hv⟩:=nm (partialInsertionSort (Ak cf) u2 a' b');rw[hv]at hs hpi;dsimp only at hs hpi;(repeat first|(refine AX ?_;first|(refine AZ ?_;first|refine Gv (h:=(hs ..)) (k:=?_)))|refine WK ?_|refine Ai λX=>?_|refine Ay λY=>?_);refine AB rfl (λhe=>?_) (λhe=>?_)
   ·refine RT ?_
    exact CA [(X,_)] ⟨v,hG v (permIn_trans _ _ _ _ _ hP2 hpi.1) (hpi.2 he),rfl,rfl⟩
   ·(repeat first|refine WK ?_|refine Ai λX=>?_|refine Ay λY=>?_)
    exact jnR v (permIn_trans _ _ _ _ _ hP2 hpi.1)
  ·(repeat first|refine WK ?_|refine Ai λX=>?_|refine Ay λY=>?_)
   exact jnR u2 hP2
 rintro u3 hP3;have hu3:u3.size=d.size:=hP3.1.trans hu;have hB3:=hB'.perm (by omega) hP3;have hg3:∀R,PermIn a' b' u3 R->SortedIn (Ak cf) a' b' R->PermIn a b d R/\SortedIn (Ak cf) a b R:=λR h1 h2=>hG R (permIn_trans _ _ _ _ _ hP3 h1) h2
 clear hB2 hP2 hu2 u2 hP1 hu1 u1 hG hB' hn2;refine D0 ?_;refine Jh (λ_:Unit=>True) (λ_=>⟨[(0,.sl X 0 n),(1,iA a'),(2,iA b'),(3,iA lim1),(4,.fn f cap),(10,bA wb),(11,bA wp),(12,iA l),(13,iA pv)],(X,.row 83 3 (u3.toList.map itP))::Sf⟩) ?_ ?_
 ·rcases Ac (decide ((0:Int)<(a':Int)))with g|g
  ·have hg:0<a':=by have:=AM g;omega
   have h1:=Ba itP (d:=u3) (i:=a'-1) (by omega);have h2:=Ba itP (d:=u3) (i:=pv) (by omega);have hl2:=hcf (u3[a'-1]!) (u3[pv]!);(repeat refine WF ?_);refine RU ?_;(repeat first|(refine B0 ?_;first|(refine BM ?_;first|refine Cv (h:=(hl2 ..)) (k:=?_))|refine BQ ?_ (BS (((a'-1:Nat):Int)) (by omega) (by omega) rfl rfl))|(refine Bu ?_;first|(refine BM ?_;first|refine Cv (h:=(hl2 ..)) (k:=?_))|refine BQ ?_ (BS (((a'-1:Nat):Int)) (by omega) (by omega) rfl rfl))|refine RK ?_|refine RGo.nil (by kernel_rfl) ?_);(repeat refine WF ?_);refine AB rfl (λhd=>?_) (λhd=>?_)
   ·have hd:(!(Ak cf) u3[a'-1]! u3[pv]!)=true:=by simpa[g,Ak]using hd
    have hd:(Ak cf) u3[a'-1]! u3[pv]! =false:=by simpa[Ak]using hd
    have hs:=T3 f cap cf hst hcf X n u3 a' b' pv (by omega) c3 c4 (by omega) (by omega);obtain⟨⟨mid,d4⟩,hx⟩:=nm (partitionEqual (Ak cf) u3 a' b' pv);rw[hx]at hs;dsimp only at hs;obtain⟨q1,q2,q3,q4,q5⟩:=round_eq (lt:=(Ak cf)) hS (partitionEqual_holds (Ak cf)) hg c3 c4 (by omega) hB3 hd hx;(repeat first|(refine AX ?_;first|(refine AZ ?_;first|refine Hu (h:=(hs ..)) (k:=?_)))|refine WK ?_|refine Ai λX=>?_|refine Ay λY=>?_);refine Kt mid b' lim1 wb wp d4 ⟨q2,hb',by omega,hlim1,q3.trans hu3,q4,λR k1 k2=>?_⟩;obtain⟨k3,k4⟩:=q5 R k1 k2;exact hg3 R k3 k4
   ·(repeat first|refine WK ?_|refine Ai λX=>?_|refine Ay λY=>?_)
    exact jnR () C9
  ·(repeat refine WF ?_)
   refine RU ?_;(repeat first|refine RK ?_|refine RGo.nil (by kernel_rfl) ?_);(repeat refine WF ?_);refine Aa rfl (by simp[g]) ?_;(repeat first|refine WK ?_|refine Ai λX=>?_|refine Ay λY=>?_);exact jnR () C9
 rintro _ _;have hs:=SP f cap cf hst hcf X n u3 a' b' pv (by omega) c3 c4 (by omega) (by omega);obtain⟨⟨mid,ap,d4⟩,hx⟩:=nm (partition (Ak cf) u3 a' b' pv);rw[hx]at hs;dsimp only at hs;obtain⟨r1,r2,r3,r4,r5,r6,r7⟩:=round_part (lt:=(Ak cf)) hS (partition_holds (Ak cf)) c3 c4 (by omega) hB3 hx;(repeat first|(refine AX ?_;first|(refine AZ ?_;first|refine Hu (h:=(hs ..)) (k:=?_))|refine AQ (BS (((mid-a':Nat):Int)) (by omega) (by omega) rfl rfl) rfl ?_|refine AQ (BS (((b'-mid:Nat):Int)) (by omega) (by omega) rfl rfl) rfl ?_|refine AQ (La l 8 (l/8) rfl rfl (by omega) rfl (by omega) rfl rfl) rfl ?_)|refine WK ?_|refine Ai λX=>?_|refine Ay λY=>?_);refine AB rfl (λhd=>?_) (λhd=>?_)
 ·have hrec:=ih (mid-a') (by omega) X n d4 a' mid lim1 (AP _) (by omega) r1 (by omega) (by omega) hlim1 r4
  (repeat first|(refine AX ?_;first|(refine AZ ?_;first|refine PE hrec λv hv=>?_)|refine AQ (Bh (((mid+1:Nat):Int)) (by omega) (by omega) rfl rfl) rfl ?_)|refine WK ?_|refine Ai λX=>?_|refine Ay λY=>?_);obtain⟨v1,v2⟩:=hv;obtain⟨s1,s2⟩:=r6 v v1 v2;refine Kt (mid+1) b' lim1 _ ap v ⟨by omega,hb',by omega,hlim1,v1.1.trans (r3.trans hu3),s1,λR k1 k2=>?_⟩;obtain⟨k3,k4⟩:=s2 R k1 k2;exact hg3 R k3 k4
 ·have hrec:=ih (b'-(mid+1)) (by omega) X n d4 (mid+1) b' lim1 (AP _) (by omega) (by omega) (by omega) (by omega) hlim1 r5
  (repeat first|(refine AX ?_;first|(refine AZ ?_;first|refine PE hrec λv hv=>?_)|refine AQ (Bh (((mid+1:Nat):Int)) (by omega) (by omega) rfl rfl) rfl ?_)|refine WK ?_|refine Ai λX=>?_|refine Ay λY=>?_);obtain⟨v1,v2⟩:=hv;obtain⟨s1,s2⟩:=r7 v v1 v2;refine Kt a' mid lim1 _ ap v ⟨by omega,by omega,by omega,hlim1,v1.1.trans (r3.trans hu3),s1,λR k1 k2=>?_⟩;obtain⟨k3,k4⟩:=s2 R k1 k2;exact hg3 R k3 k4
end
section
open Go.Sort
set_option maxRecDepth 8000 in
theorem NJ(f:FuncId)(cap:List AV)(cf:(Nat×Item)->(Nat×Item)->Int)(hst:DG cap=true)(hS:SWO (Ak cf))(hf:∀x y,PS prog f (itP x::itP y::cap) (iA (cf x y)))(X n:Nat)(l:List (Nat×Item))(hn:n=l.length)(hlt:l.length<65536):
  Spec prog 59 [.sl X 0 n,.fn f cap] [(X,.row 83 3 (l.map itP))] λr S'=>∃u:List (Nat×Item),(u.Perm l/\u.Pairwise λa b=>Ak cf b a=false)/\r= .tup []/\S'=[(X,.row 83 3 (u.map itP))]:=by
 have e1:(UInt64.ofNat n).toNat=n:=by rw[C2];omega
 have hlen:=NQ (UInt64.ofNat n) (by rw[e1];omega);rw[e1]at hlen;have hsz:l.toArray.size=l.length:=by simp
 have hb:bitsLen n<=1000:=CT ((bitsLen_le_iff n 16).2 (by show n<65536;omega)) (by decide);have hs:=T4 f cap cf hst hf hS n X n l.toArray 0 n (bitsLen n) (by omega) (by omega) (Ap _) (by omega) (by omega) hb (.inl rfl);simp only[List.toList_toArray]at hs;refine Spec.of (nt:=14) (res:=[]) func59 rfl (by kernel_rfl) rfl rfl rfl λSf=>?_
 (repeat first|(refine AX ?_;first|(refine AZ ?_;first|refine DQ (h:=(hlen ..)) (k:=?_))|refine Uu [] (h:=hs) (λu hu=>?_)|refine AQ (LY .i64 n rfl (by omega) (by kernel_rfl) (by kernel_rfl) rfl) rfl ?_)|refine WK ?_|refine Ai λX=>?_|refine Ay λY=>?_);refine Ed ?_;obtain⟨h1,h2⟩:=hu;have h1':PermIn 0 l.toArray.size l.toArray u:=by rw[hsz,<-hn];exact h1
 have hus:n=u.size:=by rw[h1'.1,hsz];exact hn
 exact CA [(X,_)] ⟨u.toList,⟨by simpa using Jl h1',H0 hus h2⟩,rfl,rfl⟩
end
theorem AWP.after{ro:Option Nat}{P:Program}{nt:Nat}{c:Code}{Q:Exit->St->Prop}{st:St}(h:AWP ro P nt c (λe st=>e= .normal/\∃K,Fu nt st K/\∀st',K st' ->Q .normal st') st):AWP ro P nt c Q st:=
 λm0 a w hr=>J1 (h m0 a w hr) λe a w ⟨st',h1,he,K,h2,h3⟩=>by
  subst he;obtain⟨s2,r,k⟩:=h2 m0 a w h1;exact⟨s2,r,h3 _ k⟩
theorem Qn(x y:Nat×Item):PS prog 60 [itP x,itP y] (iA (Dl x.2.ent.n y.2.ent.n)):=by
 have h:=Fs x.2.ent.n y.2.ent.n;obtain⟨X,⟨⟨xn,xg⟩,xc⟩⟩:=x;obtain⟨Y,⟨⟨yn,yg⟩,yc⟩⟩:=y;refine Spec.of (nt:=12) (res:=[.tmp 4]) func60 rfl (by kernel_rfl) rfl rfl rfl λSf=>?_
 refine RG ?_;(repeat first|(refine AX ?_;first|(refine Gw ?_;refine BX ?_))|refine WO ?_|refine Ai λX=>?_|refine Ay λY=>?_);refine NL ?_;refine JB ?_;(repeat first|(refine AX ?_;first|(refine AZ ?_;first|refine Bw (h:=(h ..)) (k:=?_)))|refine WO ?_|refine Ai λX=>?_|refine Ay λY=>?_);refine NL ?_;refine RT ?_;refine An ?_;rfl
set_option maxRecDepth 8000 in
set_option maxHeartbeats 4000000 in
theorem Oz(a:Ar)(ha:ArOK a)(hne:Jg a.ts)(hk16:a.kinds.length<=16)(hkf:∀k∈a.kinds,k.fields.length<=8)(hgl:a.gens.length<=256)(hcv:∀it∈B9 a.ts,CsL it.comps):
  Spec prog 17 [.ptr a.A 0 0] (arS a) λr S'=>∃L:List Item,(L.Perm (B9 a.ts)/\L.Pairwise λx y=>x.ent.n<=y.ent.n)/\r=wdA true ⟨a.kinds,a.gens,L⟩/\S'=arS a:=by
 have hkp:=HI a.kinds (by omega) (λk hk=>by have:=hkf k hk;omega);have hcl:=LQ a.G a.gens a.gens.length rfl (by omega);have htl:=ha.ts_le hne;have hpt:(ptrs Tab.X a.ts).length=a.ts.length:=AD _;refine Spec.of (nt:=51) (res:=[.cell 2 26]) func17 rfl (by kernel_rfl) rfl rfl rfl λSf=>?_
 refine RG ?_;(repeat first|refine WO ?_|refine Ai λZ=>?_|refine Ay λY=>?_);refine NL ?_;refine FL ?_;refine A9 λV=>A9 λK=>A9 λG=>?_
 refine RU ?_;(repeat first|(refine B0 ?_;first|refine GI hkp ?_ (Y:=K)|refine Lm hcl (.ls (Y:=G)) ?_)|(refine Bu ?_;first|refine GI hkp ?_ (Y:=K)|refine Lm hcl (.ls (Y:=G)) ?_)|refine RK ?_|refine RGo.nil (by kernel_rfl) ?_);refine FL ?_;refine C1 (Y:=V) 83 3 (by exact AY) (λI=>.cons (.agg (.s (.s (.cons (.base .nil) .nil)))) .nil) λI=>?_
 refine RG ?_;(repeat first|refine WO ?_|refine Ai λX=>?_|refine Ay λY=>?_);refine NL ?_;refine FL ?_;refine AH G ?_;refine AH K ?_;refine AH Z ?_;refine AH V ?_;refine AH I ?_;refine GD (λ(j I:Nat) (its:List Item)=>⟨[(2,.ptr Z 0 0),(3,.ptr V 0 0),(22,.sl a.Tb 0 a.ts.length),(23,iA (a.ts.length:Nat)),(24,iA j)],(I,.row 83 3 (its.map (Aj true)))::(V,.row 26 3 [.agg [.sl K 0 (a.kinds.map (A3 true)).length,.sl G 0 (a.gens.map iA).length,.sl I 0 its.length]])::(Z,.row 26 3 [.agg [.prim (.slice none 0 0),.prim (.slice none 0 0),.prim (.slice none 0 0)]])::(K,.row 90 2 (a.kinds.map (A3 true)))::(G,.row 3 1 (a.gens.map iA))::(arS a++Sf)⟩) (λj _ its=>j<=a.ts.length/\its=B9 (a.ts.take j)) (λj _ _=>a.ts.length-j) 0 I [] ⟨by omega,rfl⟩ ?_;rintro j I its ⟨hj,hits⟩;refine RG ?_;(repeat first|refine WO ?_|refine Ai λX=>?_|refine Ay λY=>?_);refine NL ?_;refine FL ?_;refine AB rfl (λh=>?_) (λh=>?_)
 ·have h:j<a.ts.length:=by rw[As]at h;omega
  obtain⟨l1,l2,hsp,hl1⟩:=Ha h;have htm:=BG h;have hto:=ha.tab _ htm;have hten:=ha.ent _ htm;have hat:(ptrs Tab.X a.ts)[j]?=some (.ptr a.ts[j].X 0 0):=Cb _ h
  have hnext:B9 (a.ts.take (j+1))=its++Di a.ts[j]:=by
   rw[Bt h,Eg,<-hits,Ep];simp[B9]
  have hcvt:∀it∈Di a.ts[j],CsL it.comps:=λit hi=>hcv it (Dc.2 ⟨_,htm,hi⟩)
  have hbnd:its.length+(Di a.ts[j]).length<=256:=by
   have h1:=ha.c_le;rw[ha.cnt,ha.keys_items,AD]at h1
   have h2:B9 a.ts=its++Di a.ts[j]++B9 l2:=by
    conv=>lhs;rw[hsp]
    rw[Eg,Ep,hits,<-BC]
    have:l1=a.ts.take j:=by
     have:=G9 (List.take j) hsp;rw[Cy hl1]at this;exact this.symm
    rw[this]
   rw[h2,Ax,Ax]at h1;omega
  obtain⟨t,ht⟩:=nm (a.ts[j]);rw[ht]at hsp hto hten hat hnext hcvt hbnd;obtain⟨Z2,hZ2⟩:=nm (Dm l1++(Dm l2++Sf));have hop:=GM (l1:=l1) (l2:=l2) (t:=t) Sf;rw[<-hsp,hZ2]at hop;refine JB ?_;(repeat first|(refine AX ?_;first|refine DZ ?_ (W.idx rfl rfl (by exact AY) rfl (by omega) (Af _)))|refine WO ?_|refine Ai λP5=>?_|refine Ay λY=>?_);refine NL ?_;refine FL ?_;refine AWP.perm (S':=(I,.row 83 3 (its.map (Aj true)))::(P5,.row 117 1 [.ptr t.X 0 0])::(V,.row 26 3 [.agg [.sl K 0 (a.kinds.map (A3 true)).length,.sl G 0 (a.gens.map iA).length,.sl I 0 its.length]])::(Hx t++((Z,.row 26 3 [.agg [.prim (.slice none 0 0),.prim (.slice none 0 0),.prim (.slice none 0 0)]])::(K,.row 90 2 (a.kinds.map (A3 true)))::(G,.row 3 1 (a.gens.map iA))::(arH a++Z2)))) ?_ ?_
  ·refine(DF _ _ _).trans (Bf _ (Bf _ (Bf _ ?_)))
   have h1:=hop.append_left ((Z,AO.row 26 3 [.agg [.prim (.slice none 0 0),.prim (.slice none 0 0),.prim (.slice none 0 0)]])::(K,AO.row 90 2 (a.kinds.map (A3 true)))::(G,AO.row 3 1 (a.gens.map iA))::arH a);refine(Ly ?_).trans (h1.trans (D1 ((Z,AO.row 26 3 [.agg [.prim (.slice none 0 0),.prim (.slice none 0 0),.prim (.slice none 0 0)]])::(K,AO.row 90 2 (a.kinds.map (A3 true)))::(G,AO.row 3 1 (a.gens.map iA))::arH a) (Hx t) Z2));rw[arS];simp only[EX,DX]
  have hal:=UZ t.ek t.es hto.es;have hI:=S7 (BB t.es) (t.es.map (·.2)) (by simp) (by have:=hto.es.len;rw[AD];omega);refine RG ?_;(repeat first|(refine AX ?_;first|refine Gu [_,_,_,_] hal ?_)|refine WO ?_|refine Ai λX=>?_|refine Ay λY=>?_);refine NL ?_;refine FL ?_;refine P9 (Sf:=(Z,.row 26 3 [.agg [.prim (.slice none 0 0),.prim (.slice none 0 0),.prim (.slice none 0 0)]])::(K,.row 90 2 (a.kinds.map (A3 true)))::(G,.row 3 1 (a.gens.map iA))::(arH a++Z2)) hI (λb:Nat×List Item=>(b.1,AO.row 83 3 (b.2.map (Aj true)))::(P5,.row 117 1 [.ptr t.X 0 0])::(V,.row 26 3 [.agg [.sl K 0 (a.kinds.map (A3 true)).length,.sl G 0 (a.gens.map iA).length,.sl b.1 0 b.2.length]])::Hx t) (λi b=>b.2=its++(Di t).take i) (I,its) (by simp) ?_ ?_ rfl rfl rfl ?_ ?_
  ·rintro i vs ⟨I,is⟩ l F1 F2 hi hb
   dsimp only at hb
   have hn:i<t.es.length:=by
    have:=(AC.1 hi).1;simpa using this
   have hiv:[iA t.es[i].1,CH t.es[i].2]=vs:=by
    rw[Am,Ag (by simpa using hn),List.getElem_zip]at hi;simpa using hi
   subst hiv;have hem:=BG hn;have hnk:t.es[i].1∈BB t.es:=BH.2 ⟨_,hem,rfl⟩;have hnl:=hto.es.lt _ hnk;have hcs:=Sy t t.es[i].1 hto (by constructor<;>omega) hnk;have hti:=Qw hn;have hci:=hcvt _ (Bc hti);have hcc:=H6 (Cr t t.es[i].1) hci.1 hci.2;have hil:i<(Di t).length:=by rw[KY];exact hn
   have hnx:is++[⟨t.es[i].2,Cr t t.es[i].1⟩]=its++(Di t).take (i+1):=by
    rw[hb,GL,hti,BC];rfl
   have hisl:is.length<=256:=by rw[hb,Ax,BA];omega
   obtain⟨⟨en,ee⟩,hee⟩:=nm (t.es[i]);rw[hee]at hcs hcc hnx;rw[hee];dsimp only at hcs hcc hnx⊢;obtain⟨lc,hlc⟩:=nm (Cr t en);rw[hlc]at hcs hcc hnx;have hma:is.map (Aj true)++[Aj true ⟨ee,lc⟩]=(is++[(⟨ee,lc⟩:Item)]).map (Aj true):=by rw[AJ];rfl
   have hml:is.length+[Aj true ⟨ee,lc⟩].length=(is++[(⟨ee,lc⟩:Item)]).length:=by rw[Ax];rfl
   refine JB ?_;(repeat first|refine WO ?_|refine Ai λX=>?_|refine Ay λY=>?_);refine NL ?_;refine JB ?_;(repeat first|refine WO ?_|refine Ai λE7=>?_|refine Ay λY=>?_);refine NL ?_;obtain⟨en2,eg2⟩:=ee;refine⟨(E7,.row 32 2 [CH ⟨en2,eg2⟩])::(I,.row 83 3 (is.map (Aj true)))::(P5,AO.row 117 1 [.ptr t.X 0 0])::(V,.row 26 3 [.agg [.sl K 0 (a.kinds.map (A3 true)).length,.sl G 0 (a.gens.map iA).length,.sl I 0 is.length]])::Hx t,.refl _,?_⟩;refine FL ?_;refine A9 λY=>A9 λY2=>?_
   (repeat refine WF ?_);refine AWP.after ?_;refine AWP.region_runT 6 (by kernel_rfl) (by kernel_rfl) ?_;refine EZ ?_;refine EZ ?_;refine EZ ?_;refine EZ ?_;refine EZ ?_;refine Ll (xs:=[(.tmp 38,.ptr t.X 0 0),(.tmp 39,iA en)]) (L:=[_,_,_,_,_,_]) (R:=F2) hcs (.fz (v:=Bp false false lc)) rfl (AP 6) (.cons rfl (.cons rfl .nil)) rfl rfl ?_;refine Lj (h:=HQ (v0:=Bp false false lc) rfl hcc (.ls (Y:=Y2)) (by exact HU) rfl rfl) ?_;refine EZ ?_;refine EZ (v:=.lst false 83 3 [.agg [iA en2,iA eg2,.sl Y2 0 (lc.map (AT true)).length]]) (h:=W.litF1 (v0:=(.agg [iA en2,iA eg2,.sl Y2 0 (lc.map (AT true)).length])) rfl rfl (.inl rfl) (by decide) (by decide) rfl) ?_;refine Lj (h:=W.app (X:=I) (Y:=Y) rfl rfl (by exact AY) (by exact AY) (by rw[AD]) (by rw[AD];show(is.length+1)*40<=_;omega) (by rw[AD];unfold maxLen;show is.length+1<=_;omega) (by decide)) ?_;refine EZ ?_;refine Lj ?_;refine RGoT.nil (by kernel_rfl) ⟨rfl,_,St.closeIn (st:=⟨_,_⟩) (p:=0) (q:=3) (X:=Y2) (Y:=Y) (n:=(lc.map (AT true)).length) (l:=lc.map (AT true)) (by decide) (by exact AY) (by exact AY) rfl (Lo (.agg (.tail (.tail (.head .here)))) (is.map (Aj true))),λst' e=>?_⟩;subst e;have hma2:is.map (Aj true)++[.agg [iA en2,iA eg2,.lst true 42 2 (lc.map (AT true))]]=(is++[(⟨⟨en2,eg2⟩,lc⟩:Item)]).map (Aj true):=hma;have hml2:is.length+[AV.agg [iA en2,iA eg2,.sl Y2 0 (lc.map (AT true)).length]].length=(is++[(⟨⟨en2,eg2⟩,lc⟩:Item)]).length:=hml;rw[hma2,hml2];refine⟨(Y,.row 83 3 ((is++[(⟨⟨en2,eg2⟩,lc⟩:Item)]).map (Aj true)))::(P5,AO.row 117 1 [.ptr t.X 0 0])::(V,.row 26 3 [.agg [.sl K 0 (a.kinds.map (A3 true)).length,.sl G 0 (a.gens.map iA).length,.sl Y 0 (is++[(⟨⟨en2,eg2⟩,lc⟩:Item)]).length]])::Hx t,?_,(Y,is++[(⟨⟨en2,eg2⟩,lc⟩:Item)]),hnx,rfl⟩;exact .cons _ (.cons _ (.cons _ (.refl _)))
  ·rintro⟨I,is⟩ hb
   dsimp only at hb;have hxl:((BB t.es).zip (t.es.map (·.2))).length=t.es.length:=by simp
   rw[AD,hxl,<-KY,DJ]at hb;refine FL ?_;refine AWP.perm (S':=(P5,.row 117 1 [.ptr t.X 0 0])::(I,.row 83 3 (is.map (Aj true)))::(V,.row 26 3 [.agg [.sl K 0 (a.kinds.map (A3 true)).length,.sl G 0 (a.gens.map iA).length,.sl I 0 is.length]])::(Z,.row 26 3 [.agg [.prim (.slice none 0 0),.prim (.slice none 0 0),.prim (.slice none 0 0)]])::(K,.row 90 2 (a.kinds.map (A3 true)))::(G,.row 3 1 (a.gens.map iA))::(arS a++Sf)) ?_ ?_
   ·refine(DF _ _ _).trans (Bf _ (Bf _ (Bf _ ?_)))
    have h1:=hop.append_left ((Z,AO.row 26 3 [.agg [.prim (.slice none 0 0),.prim (.slice none 0 0),.prim (.slice none 0 0)]])::(K,AO.row 90 2 (a.kinds.map (A3 true)))::(G,AO.row 3 1 (a.gens.map iA))::arH a);refine List.Perm.trans (D1 (Hx t) ((Z,AO.row 26 3 [.agg [.prim (.slice none 0 0),.prim (.slice none 0 0),.prim (.slice none 0 0)]])::(K,AO.row 90 2 (a.kinds.map (A3 true)))::(G,AO.row 3 1 (a.gens.map iA))::arH a) Z2) (h1.symm.trans (Ly ?_));rw[arS];simp only[EX,DX]
   ·refine RG ?_;(repeat first|refine WO ?_|refine Ai λX=>?_|refine Ay λY=>?_);refine NL ?_
    exact Ek (j+1) I is ⟨by omega,by rw[hb,hnext]⟩ (by omega)
  ·intro vs hvs
   obtain⟨q,_,rfl⟩:=BH.1 hvs;rfl
  ·exact .refl _
 ·have h:j=a.ts.length:=by rw[Aq]at h;omega
  subst h;rw[DJ]at hits
  have hilen:its.length<=256:=by
   have h1:=ha.c_le;rw[ha.cnt,ha.keys_items,AD]at h1;rw[hits];omega
  refine GX hoI its _ λL hL=>?_
  have hLl:L.length=its.length:=by rw[<-hL,AD]
  have hso:=NJ 60 [] (λx y=>Dl x.2.ent.n y.2.ent.n) rfl (QJ λx:Nat×Item=>x.2.ent.n) Qn I its.length L hLl.symm (by omega);refine JB ?_;(repeat first|(refine AX ?_;first|refine Uv [] (h:=hso) (λu hu=>?_))|refine WO ?_|refine Ai λX=>?_|refine Ay λY=>?_);refine NL ?_;obtain⟨hu1,hu2⟩:=hu;have hul:=hu1.length_eq;refine AH G ?_;refine AH K ?_;refine AH Z ?_;refine AH V ?_;refine AH I ?_;refine Fw hcI u ((V,_)::(Z,_)::(K,_)::(G,_)::(arS a++Sf)) (L.map (lvO 42 2 λa=>a.comps.map (AT true))) _ (hu1.map _).symm (.refl _) ?_;obtain⟨v,hv⟩:=nm (u.map (·.2));rw[hv];refine RG ?_;(repeat first|refine WO ?_|refine Ai λX=>?_|refine Ay λY=>?_);refine NL ?_;refine RT ?_;have hlI:its.length=(v.map (Aj true)).length:=by rw[AD,<-hv,AD,hul,hLl]
  refine⟨[.agg [.sl K 0 (a.kinds.map (A3 true)).length,.sl G 0 (a.gens.map iA).length,.sl I 0 its.length]],[wdA true ⟨a.kinds,a.gens,v⟩],_,arS a,.cons (.cell rfl (by exact AY) TAg.h TSize.h rfl rfl) rfl .nil,.cons (.agg (.cons (.sl (by exact AY) rfl) (.cons (.sl (by exact AY) rfl) (.cons (.sl (by exact AY) hlI) .nil)))) .nil,by exact Av,v,⟨?_,?_⟩,rfl,rfl⟩
  ·rw[<-hits,<-hL,<-hv];exact hu1.map _
  ·rw[<-hv,Qf]
   exact hu2.imp λ{x y} h=>by
    simp only[Ak,Aq,HO]at h;omega
end Go.Proofs.YtmkahplhnbbgmaaGreat
