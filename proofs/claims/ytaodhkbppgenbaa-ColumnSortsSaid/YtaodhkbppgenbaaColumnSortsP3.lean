/-
  Part 3 of the texts under the law ColumnSorts: the layer of abstract values, walks and plain laws. Conditions: those that each theorem names.
-/
import Derived.LaidEqlPtr
import Derived.DeepKeys4
import Derived.Maps.Range
import Derived.Test.YtaodhkbppgenbaaColumnSortsP2
namespace Go.Proofs.Ytaodhkbppgenbaa
set_option linter.unusedVariables false
set_option linter.unusedSimpArgs false
set_option linter.defProp false
set_option maxRecDepth 10000
set_option maxHeartbeats 4000000
section
mutual
def AV.loose:AV->Bool
 |.prim _=>true
 |.dead=>true
 |.agg cs=>Af cs
 |.tup vs=>Af vs
 |.lst o _ _ l=>(o||l.isEmpty)&&Af l
 |.bx _ a=>AV.loose a
 |.fn _ cap=>Af cap
 |_=>false
def Af:List AV->Bool
 |[]=>true
 |a::as=>AV.loose a&&Af as
end
theorem FO{α:Type}{f:α->AV}(h:∀a,(f a).loose=true)(l:List α):Af (l.map f)=true:=by
 induction l with
 |nil=>rfl
 |cons a l ih=>rw[List.map_cons,Af,h a,ih];rfl
section
variable {m m':Mem}
mutual
theorem VC.loose(hw:m'.w=m.w):(a:AV)->{c:List Value}->{bs:List Nat}->a.loose=true->VC m a c bs->VC m' a c bs
 |.prim _,_,_,_,k=>k
 |.dead,_,_,_,k=>k
 |.agg cs,_,_,h,k=>VCs.loose hw cs h k
 |.tup cs,_,_,_,k=>k.elim
 |.opt _ _,_,_,_,k=>k.elim
 |.lst false t sz [],_,_,_,⟨e,A,cap,e1,e2,e3,k⟩=>⟨e,A,cap,e1,e2,e3,λh0=>absurd h0 (by simp)⟩
 |.lst false t sz (a::l),_,_,h,k=>by simp[AV.loose]at h
 |.lst true t sz l,_,_,_,.inl k=>.inl k
 |.lst true t sz l,_,_,h,.inr ⟨g,cap,arr,bs',e1,e2,e3,e4,e5,e6,e7,k⟩=>.inr ⟨g,cap,arr,bs',e1,e2,by rw[hw];exact e3,e4,e5,e6,e7,VCs.loose hw l (by simpa[AV.loose]using h) k⟩
 |.bx t a,_,_,h,⟨g,arr,bs',e1,e2,e3,e4,k⟩=>⟨g,arr,bs',e1,e2,by rw[hw];exact e3,e4,VC.loose hw a (by simpa[AV.loose]using h) k⟩
 |.sl x off len,_,_,h,k=>by simp[AV.loose]at h
 |.ptr x i j,_,_,h,k=>by simp[AV.loose]at h
 |.fp cs,_,_,h,k=>by simp[AV.loose]at h
 |.fn f cap,_,_,h,⟨vs,e,k⟩=>⟨vs,e,VCs.loose hw cap (by simpa[AV.loose]using h) k⟩
 |.mp x,_,_,h,k=>by simp[AV.loose]at h
theorem VCs.loose(hw:m'.w=m.w):(as:List AV)->{c:List Value}->{bs:List Nat}->Af as=true->VCs m as c bs->VCs m' as c bs
 |[],_,_,_,k=>k
 |a::as,_,_,h,⟨c1,c2,b1,b2,e1,e2,k1,k2⟩=>⟨c1,c2,b1,b2,e1,e2,VC.loose hw a (by simp[Af]at h;exact h.1) k1,VCs.loose hw as (by simp[Af]at h;exact h.2) k2⟩
end
theorem EA(hw:m'.w=m.w){a:AV}{v:Value}{bs:List Nat}(hn:ntup a=true)(h:a.loose=true)(k:VV m a v bs):VV m' a v bs:=by
 cases a
 case agg cs=>obtain⟨cells,e,k⟩:=k;exact⟨cells,e,VCs.loose hw cs h k⟩
 case tup cs=>cases hn
 case opt c b=>cases hn
 case dead=>exact k
 all_goals exact VC.loose hw _ h k
theorem VTs.loose(hw:m'.w=m.w):{as:List AV}->{vs:List Value}->{bs:List Nat}->Af as=true->VTs m as vs bs->VTs m' as vs bs
 |[],_,_,_,k=>k
 |a::as,_,_,h,k=>by
  have ha:=VTs.ntup k;simp only[Af,Bool.and_eq_true]at h;obtain⟨v,vs',b1,b2,e1,e2,k1,k2⟩:=(AK ha).1 k;exact(AK ha).2 ⟨v,vs',b1,b2,e1,e2,EA hw ha h.1 k1,VTs.loose hw h.2 k2⟩
theorem VV.loose(hw:m'.w=m.w){a:AV}{v:Value}{bs:List Nat}(h:a.loose=true)(k:VV m a v bs):VV m' a v bs:=by
 cases a
 case tup cs=>obtain⟨vs,e,k⟩:=k;exact⟨vs,e,VTs.loose hw h k⟩
 case opt c b=>simp[AV.loose]at h
 all_goals exact EA hw rfl h k
end
def Mem.lent(m:Mem)(Z:Zs):Mem:=⟨m.μ,m.U,m.w,λb=>m.F b\/b∈Z.own⟩
theorem Mem.le_lent(m:Mem)(Z:Zs):m.Le (m.lent Z):=⟨λ_ h=>h,λ_ _ _ h=>h,λb h=>⟨.inl h,rfl⟩⟩
theorem Spec.lendG{P:Program}{f:FuncId}{args args':List AV}{S:List AA}{Q:AV->List AA->Prop}(h:Spec P f args [] Q)(hQ:∀r S',Q r S' ->r.loose=true/\S'=[])
  (hv:∀(m:Mem) (Z:Zs) (Sf:List AA),(∀z∈Z,ORel m z.1.1 z.1.2 z.2)->Z.map (·.1)=S++Sf->∀us,VTs m args' us []->VTs (m.lent Z) args us []):
  Spec P f args' S λr S'=>Q r []/\S'=S:=
 ⟨h.fn,λSf m N Z vals h1 h2 h3=>by
  have G1:Good (m.lent Z) (m.lent Z) N [] []:=by
   refine⟨(λz hz=>by cases hz),by simp[Zs.own],(λb hb=>by simp[Zs.own]at hb),λb hb=>?_,by simp[Zs.keys],(λx hx=>by simp[Zs.keys]at hx),h2.usedN,.refl _,rfl,rfl,rfl,Nat.le_refl _⟩;rcases hb with hb|hb
   ·exact h2.frz b hb
   ·exact(h2.blk b (by simpa using hb)).1
  refine(h.run [] (m.lent Z) N [] vals rfl G1 (hv m Z Sf h2.obj h1 _ h3)).mono ?_;rintro e w' ⟨v,r,S',m2,N',Z',br,rfl,rfl,hm,G2,hr,hq⟩;obtain⟨hl,rfl⟩:=hQ r S' hq;have hZ:Z'=[]:=by simpa using hm
  subst hZ;have hF:∀b,m.F b\/b∈Z.own->m2.F b/\m2.w.heap[b]?=m.w.heap[b]?:=λb hb=>G2.le.F b hb
  have hbr:∀b∈br,b<m2.w.heap.size/\¬m2.F b:=λb hb=>G2.blk b (by simpa[Zs.own]using hb)
  refine⟨v,r,S,⟨m.μ,m.U,m2.w,m.F⟩,N,Z,br,rfl,rfl,h1,?_,VV.loose (m:=m2) (m':=⟨m.μ,m.U,m2.w,m.F⟩) rfl hl hr,hq,rfl⟩;have hle:m.Le ⟨m.μ,m.U,m2.w,m.F⟩:=⟨λ_ h=>h,λ_ _ _ h=>h,λb hb=>⟨hb,(hF b (.inl hb)).2⟩⟩;refine⟨λz hz=>?_,?_,λb hb=>?_,λb hb=>?_,h2.keys,h2.keyN,h2.usedN,hle,G2.os,G2.tape,G2.output,G2.size⟩
  ·refine ORel.mono hle (λe=>?_) (λL hL=>hL) (λb hb=>(hF b (.inr (List.mem_flatMap.2 ⟨z,hz,hb⟩))).2) (h2.obj z hz)
   have:=h2.obj z hz;rw[e]at this;exact this.2
  ·rw[List.nodup_append]
   refine⟨by simpa using h2.own,by simpa[Zs.own]using G2.own,λa ha b hb e=>?_⟩;subst e;exact(hbr a hb).2 (hF a (.inr ha)).1
  ·rcases List.mem_append.1 hb with hb|hb
   ·have:=h2.blk b (by simpa using hb)
    exact⟨Nat.lt_of_lt_of_le this.1 G2.size,this.2⟩
   ·exact⟨(hbr b hb).1,λhf=>(hbr b hb).2 (hF b (.inl hf)).1⟩
  ·exact Nat.lt_of_lt_of_le (h2.frz b hb) G2.size⟩
mutual
inductive Ld(S:List AA):AV->AV->Prop
 |frz {a:AV}:Ld S a a.frz
 |nil {t:TypeId} {sz:Nat}:Ld S (.prim (.slice none 0 0)) (.lst false t sz [])
 |agg {as bs:List AV} (h:Lds S as bs):Ld S (.agg as) (.agg bs)
 |lst {o:Bool} {t:TypeId} {sz:Nat} {l l':List AV} (h:Lds S l l'):Ld S (.lst o t sz l) (.lst false t sz l')
 |sl {X off n p:Nat} {t:TypeId} {sz:Nat} {l l':List AV} (h:At S p (X,.row t sz l)) (hn:off+n<=l.length) (k:Lds S ((l.drop off).take n) l'):Ld S (.sl X off n) (.lst false t sz l')
 |ptr {X p:Nat} {t:TypeId} {sz:Nat} {a b:AV} {cs:List AV} (h:At S p (X,.row t sz [a])) (k:Ld S a b) (e:b.cells=cs):Ld S (.ptr X 0 0) (.fp cs)
inductive Lds(S:List AA):List AV->List AV->Prop
 |nil:Lds S [] []
 |cons {a b:AV} {as bs:List AV} (h:Ld S a b) (k:Lds S as bs):Lds S (a::as) (b::bs)
end
theorem Lds.len{S:List AA}:∀{as bs:List AV},Lds S as bs->bs.length=as.length
 |[],_,h=>by cases h;rfl
 |a::as,_,h=>by cases h with|cons h k=>simp[Lds.len k]
mutual
theorem Ld.width{S:List AA}:∀{a b:AV},Ld S a b->b.width=a.width
 |_,_,.frz=>BR _
 |_,_,.nil=>rfl
 |_,_,.agg h=>Lds.widths h
 |_,_,.lst _=>rfl
 |_,_,.sl _ _ _=>rfl
 |_,_,.ptr _ _ _=>rfl
theorem Lds.widths{S:List AA}:∀{as bs:List AV},Lds S as bs->AV.widths bs=AV.widths as
 |_,_,.nil=>rfl
 |_,_,.cons h k=>by simp only[AV.widths,Ld.width h,Lds.widths k]
end
theorem Lds.wsz{S:List AA}{sz:Nat}:∀{a b:List AV},Lds S a b->(∀e∈a,e.width=sz)->∀e∈b,e.width=sz
 |_,_,.nil,_,e,he=>by cases he
 |a::as,b::bs,.cons h k,hw,e,he=>by
  rcases List.mem_cons.1 he with rfl|he
  ·rw[Ld.width h];exact hw a (by simp)
  ·exact Lds.wsz k (λx hx=>hw x (by simp[hx])) e he
section
variable {m:Mem}{S Sf:List AA}{Z:Zs}
theorem Fo(hO:∀z∈Z,ORel m z.1.1 z.1.2 z.2)(hm:Z.map (·.1)=S++Sf){p X:Nat}{t:TypeId}{sz:Nat}{l:List AV}(h:At S p (X,.row t sz l)):∃bs,ORel m X (.row t sz l) bs/\∀b∈bs,b∈Z.own:=by
 have hg:=h.get;obtain⟨hp,_⟩:=List.getElem?_eq_some_iff.1 hg;have h2:(Z.map (·.1))[p]?=some (X,.row t sz l):=by rw[hm,List.getElem?_append_left hp];exact hg
 rw[List.getElem?_map]at h2;cases hz:Z[p]? with
 |none=>rw[hz]at h2;cases h2
 |some z=>
  rw[hz]at h2;injection h2 with h2
  have hzm:=List.mem_of_getElem? hz;have:=hO z hzm;have h2:z.1=(X,AO.row t sz l):=h2;rw[h2]at this;exact⟨z.2,this,λb hb=>List.mem_flatMap.2 ⟨z,hzm,hb⟩⟩
mutual
theorem Ld.vc(hO:∀z∈Z,ORel m z.1.1 z.1.2 z.2)(hm:Z.map (·.1)=S++Sf):∀{a b:AV},Ld S a b->∀{c:List Value} {bs:List Nat},(∀x∈bs,x∈Z.own)->VC m a c bs->VC (m.lent Z) b c []
 |_,_,.frz,c,bs,hb,k=>VC.frz (m.le_lent Z) _ (λb hbb=>⟨.inr (hb b hbb),rfl⟩) k
 |_,_,.nil,c,bs,hb,k=>by
  obtain⟨⟨rfl,_⟩,_⟩:=k;exact⟨rfl,none,0,rfl,Nat.le_refl _,(λe he=>by cases he),λh=>absurd h (by simp)⟩
 |_,_,.agg h,c,bs,hb,k=>Lds.vcs hO hm h hb k
 |_,_,.lst (o:=false) (l':=l') h,c,bs,hb,⟨e,A,cap,e1,e2,e3,k⟩=>by
  refine⟨rfl,A,cap,by rw[h.len];exact e1,by rw[h.len];exact e2,h.wsz e3,λh0=>?_⟩;rw[h.len]at h0⊢;obtain⟨b,off,arr,t,r,q1,q2,q3,q4⟩:=k h0;exact⟨b,off,arr,t,r,q1,.inl q2,q3,Lds.vcs hO hm h (by simp) q4⟩
 |_,_,.lst (o:=true) h,c,bs,hb,.inl ⟨e1,e2,e3⟩=>by
  subst e2;cases h;exact⟨rfl,none,0,e1,Nat.le_refl _,(λe he=>by cases he),λh=>absurd h (by simp)⟩
 |_,_,.lst (o:=true) h,c,bs,hb,.inr ⟨g,cap,arr,bs',e1,e2,e3,e4,e5,e6,e7,k⟩=>by
  refine⟨rfl,some ⟨g,0,none⟩,cap,by rw[h.len];exact e1,by rw[h.len];exact e5,h.wsz e7,λh0=>?_⟩;rw[h.len];exact⟨g,0,arr,_,(0,0),rfl,.inr (hb g (by simp[e2])),e3,Lds.vcs hO hm h (λx hx=>hb x (by rw[e2];exact List.mem_cons_of_mem _ hx)) (by rw[List.drop_zero];exact k)⟩
 |_,_,.sl (off:=off) (n:=n) (l:=l) (l':=l') h hn hl,c,bs,hb,⟨_,hU,A,q,e1,hs⟩=>by
  obtain⟨bs2,hR,hb2⟩:=Fo hO hm h;obtain⟨_,L,hL,hsz,hR⟩:=hR;have hfl:l'.length=n:=by rw[hl.len,List.length_take,List.length_drop];omega
  refine⟨rfl,A,q,by rw[hfl];exact e1,?_,?_,λh0=>?_⟩
  ·rcases hs L hL with⟨_,h2,_,h3⟩|⟨_,h2,o,h3,_⟩
   ·omega
   ·injection h3 with h4 h5 h6
    omega
  ·refine hl.wsz λe he=>?_
   rcases hR with⟨_,rfl,_⟩|⟨_,arr,bs',_,_,_,_,_,hw,_⟩
   ·simp at he
   ·exact hw e (List.mem_of_mem_drop (List.mem_of_mem_take he))
  ·rw[hfl]at h0⊢
   rcases hs L hL with⟨_,_,_,h3⟩|⟨h1,h2,o,h3,h4⟩
   ·omega
   ·rcases hR with⟨_,rfl,_⟩|⟨_,arr,bs',rfl,h6,h7,h8,h9,h10,h11⟩
    ·simp at hn;omega
    ·injection h3 with h12 h13 h14
     have ho:=h4 (.inl (by omega));obtain⟨p1,p2,e1,_,k1⟩:=VCs.take h10 h11 (k:=off) (by omega);obtain⟨p3,p4,e2,k2,_⟩:=VCs.take (l:=l.drop off) (λe he=>h10 e (List.mem_of_mem_drop he)) k1 (k:=n) (by rw[List.length_drop];omega);refine⟨L.blk,o,arr,_,(0,0),h12,.inr (hb2 _ (by simp)),h6,?_⟩
     have hc:(arr.toList.drop o).take (n*L.sz)=((arr.toList.take (l.length*L.sz)).drop (off*L.sz)).take (n*L.sz):=by
      rw[ho,List.drop_take,List.take_take,Nat.min_eq_left];rw[<-Nat.sub_mul];exact Nat.mul_le_mul_right _ (by omega)
     subst hsz;rw[hc];exact Lds.vcs hO hm hl (λx hx=>hb2 x (by simp[e1,e2,hx])) k2
 |_,_,.ptr (a:=a) (b:=b) h hl e,c,bs,hb,⟨_,hU,A,e1,hA⟩=>by
  subst e;obtain⟨bs2,hR,hb2⟩:=Fo hO hm h;obtain⟨_,L,hL,hsz,hR⟩:=hR;have hA:=hA L hL;subst hA;rcases hR with⟨_,h5,_⟩|⟨_,arr,bs',rfl,h6,h7,h8,h9,h10,h11⟩
  ·cases h5
  ·have hw:=h10 a (by simp)
   have hv:VC m a (arr.toList.take a.width) bs':=by rw[hw];simpa using VCs.one.1 h11
   have hf:=VC.cells (Ld.vc hO hm hl (λx hx=>hb2 x (by simp[hx])) hv);refine⟨rfl,L.blk,0*L.sz+0,arr,_,(0,0),e1,.inr (hb2 _ (by simp)),h6,?_⟩
   have hl2:AV.widths b.cells=a.width:=by
    rw[<-VCs.len _ hf,List.length_take,Nat.min_eq_left];have:=VC.len _ hv;rw[List.length_take]at this;omega
   rw[hl2];simpa using hf
theorem Lds.vcs(hO:∀z∈Z,ORel m z.1.1 z.1.2 z.2)(hm:Z.map (·.1)=S++Sf):∀{as bs:List AV},Lds S as bs->∀{c:List Value} {bl:List Nat},(∀x∈bl,x∈Z.own)->VCs m as c bl->VCs (m.lent Z) bs c []
 |_,_,.nil,c,bl,hb,⟨e,_⟩=>⟨e,rfl⟩
 |_,_,.cons h k,c,bl,hb,⟨c1,c2,b1,b2,e1,e2,k1,k2⟩=>⟨c1,c2,[],[],e1,rfl,Ld.vc hO hm h (λx hx=>hb x (by simp[e2,hx])) k1,Lds.vcs hO hm k (λx hx=>hb x (by simp[e2,hx])) k2⟩
end
end
theorem Ld.tup{S:List AA}{a b:AV}(h:Ld S a b)(ha:ntup a=true):ntup b=true:=by
 cases h with
 |frz=>cases a<;>first|rfl|cases ha
 |_=>rfl
section
variable {m:Mem}{S Sf:List AA}{Z:Zs}
theorem Ld.vv(hO:∀z∈Z,ORel m z.1.1 z.1.2 z.2)(hm:Z.map (·.1)=S++Sf){a b:AV}(h:Ld S a b){u:Value}(k:VV m a u []):VV (m.lent Z) b u []:=by
 cases h with
 |frz=>exact VV.frz (m.le_lent Z) (by simp) k
 | @nil t sz=>exact Ld.vc hO hm (Ld.nil (S:=S) (t:=t) (sz:=sz)) (bs:=[]) (by simp) k
 |agg h=>obtain⟨cells,e,k⟩:=k;exact⟨cells,e,Lds.vcs hO hm h (by simp) k⟩
 |lst h=>exact Ld.vc hO hm (.lst h) (by simp) k
 |sl h hn hl=>exact Ld.vc hO hm (.sl h hn hl) (by simp) k
 |ptr h hl e=>exact Ld.vc hO hm (.ptr h hl e) (by simp) k
theorem Lds.vts(hO:∀z∈Z,ORel m z.1.1 z.1.2 z.2)(hm:Z.map (·.1)=S++Sf):∀{as bs:List AV},Lds S as bs->∀{us:List Value},VTs m as us []->VTs (m.lent Z) bs us []
 |_,_,.nil,us,k=>k
 |_,_,.cons h hk,us,k=>by
  have ha:=VTs.ntup k;obtain⟨v,vs',b1,b2,e1,e2,k1,k2⟩:=(AK ha).1 k;obtain⟨rfl,rfl⟩:b1=[]/\b2=[]:=by simpa using e2.symm
  exact(AK (h.tup ha)).2 ⟨v,vs',[],[],e1,rfl,h.vv hO hm k1,Lds.vts hO hm hk k2⟩
end
theorem Spec.lend{P:Program}{f:FuncId}{args args':List AV}{S:List AA}{Q:AV->List AA->Prop}(h:Spec P f args [] Q)(hQ:∀r S',Q r S' ->r.loose=true/\S'=[])(k:Lds S args' args):Spec P f args' S λr S'=>Q r []/\S'=S:=
 h.lendG hQ λm Z Sf hO hm us hu=>k.vts hO hm hu
theorem Spec.lendE{P:Program}{f:FuncId}{args args':List AV}{S:List AA}{β:Type}{C:β->Prop}{rr:β->AV}(h:Spec P f args [] λr S'=>∃b,C b/\r=rr b/\S'=[])(hr:∀b,(rr b).loose=true)(k:Lds S args' args):Spec P f args' S λr S'=>∃b,C b/\r=rr b/\S'=S:=
 (Spec.lend h (λr' S' ⟨b,_,e1,e2⟩=>⟨e1▸hr b,e2⟩) k).mono λr' S' ⟨⟨b,hb,e1,_⟩,e2⟩=>⟨b,hb,e1,e2⟩
def BO:Nat->List AA->List (Nat×AA)
 |_,[]=>[]
 |k,z::l=>(k,z)::BO (k+1) l
theorem CD:∀(k:Nat) (l:List AA),(BO k l).map (·.2)=l
 |_,[]=>rfl
 |k,z::l=>by rw[BO,List.map_cons,CD]
theorem Bo:∀(k:Nat) (l:List AA),(BO k l).map (·.1)=List.range' k l.length
 |_,[]=>rfl
 |k,z::l=>by rw[BO,List.map_cons,Bo,List.length_cons,List.range'_succ]
theorem HN:∀(A:List AA) (z:AA) (C:List AA),At (A++z::C) A.length z
 |[],z,C=>.here
 |a::A,z,C=>.next (HN A z C)
theorem C5:∀(A B C:List AA),Gets (A++(B++C)) (BO A.length B)
 |A,[],C=>.nil
 |A,z::B,C=>.cons (HN A z (B++C)) (by
   have:=C5 (A++[z]) B C;rw[List.length_append,List.append_assoc]at this;exact this)
theorem Ev{S:List AA}:∀{a b:List (Nat×AA)},Gets S a->Gets S b->Gets S (a++b)
 |[],b,_,k=>k
 |x::a,b,.cons h k,k2=>.cons h (Ev k k2)
theorem FK(S:List AA)(a b:List (Nat×AA)):AF S (a++b)=AF (AF S a) b:=by
 induction a generalizing S with
 |nil=>rfl
 |cons x a ih=>exact ih _
theorem B8:∀(A B B' C:List AA),B'.length=B.length->AF (A++(B++C)) (BO A.length B')=A++(B'++C)
 |A,[],[],C,_=>rfl
 |A,y::B,z::B',C,h=>by
  have:=B8 (A++[z]) B B' C (by simpa using h);rw[List.length_append,List.append_assoc,List.append_assoc]at this;rw[BO,AF];have e:(A++(y::B++C)).set A.length z=A++([z]++(B++C)):=by rw[List.set_append_right _ _ (Nat.le_refl _),Nat.sub_self];rfl
  rw[e];exact this
theorem GL(s:List AA):(Ac s).length=s.length:=by simp[Ac]
section
variable {P:Program}{ro:Option Nat}{nt:Nat}{ops:Array Oper}{Q:Exit->St->Prop}{rest:List Oper}{T:List (Nat×AV)}{S:List AA}{ty:TypeId}{pos:String}{after:Array Edge}{dst:Option Tmp}{ats:Array TypeId}{f:FuncId}{xs:List (Operand×AV)}{args:List AV}
theorem AOps.lendE{β:Type}{C:β->Prop}{rr vv:β->AV}{nw:β->List AA}{gs:List AA}(h:Spec P f args [] λr S'=>∃b,C b/\r=rr b/\S'=[])(hr:∀b,(rr b).loose=true)(kL:Lds S (xs.map (·.2)) args)(hT:∀b,TR (rr b) (vv b) (nw b))(hgs:∀b,Ac (nw b)=gs)(hx:Evs T xs)(ht:AS xs=true)(hd:AD dst nt=true)
  (k:∀b,C b->AOps ro P nt ops Q rest ⟨AE T dst (vv b),nw b++S⟩):AOps ro P nt ops Q (⟨dst,.call ⟨.value (.func f),(xs.map (·.1)).toArray,ats⟩,ty,pos,after,none⟩::rest) ⟨T,gs++S⟩:=by
 have hs:=Spec.lendE h hr kL;have hl:∀b,(nw b).length=gs.length:=λb=>by rw[<-hgs b,GL]
 have hG:Gets (gs++S) (BO gs.length S++BO 0 gs):=Ev (by simpa using C5 gs S []) (by simpa using C5 [] gs S)
 have hnd:((BO gs.length S++BO 0 gs).map (·.1)).Nodup:=by
  rw[List.map_append,Bo,Bo,List.nodup_append];refine⟨List.nodup_range',List.nodup_range',λa ha b hb e=>?_⟩;rw[List.mem_range'_1]at ha hb;omega
 have hset:∀b,AF (gs++S) (BO gs.length S++BO 0 (nw b))=nw b++S:=λb=>by
  have e1:=B8 gs S S [] rfl;have e2:=B8 [] gs (nw b) S (hl b);simp only[List.append_nil,List.nil_append,List.length_nil]at e1 e2;rw[FK,e1,e2]
 have hkeys:∀b,((BO gs.length S++BO 0 (nw b)).map (·.1))=(BO gs.length S++BO 0 gs).map (·.1):=λb=>by
  rw[List.map_append,List.map_append,Bo,Bo,Bo,hl b]
 rintro m0 a w ⟨m,N,Z,rfl,h2,h3,h4⟩;refine wpListIn_plain rfl λK hK=>B6 (C:=C) (sE:=λb=>⟨AE T dst (vv b),AF (gs++S) (BO gs.length S++BO 0 (nw b))⟩) (by simp) (CI (λ_=>rfl) h.fn (Ch (So:=λ_=>S) (rS:=BO gs.length S++BO 0 gs) (wE:=λb=>BO gs.length S++BO 0 (nw b)) hs hT hgs (by rw[List.map_append,CD,CD]) (λb=>by rw[List.map_append,CD,CD]) hkeys hnd hG.all (AZ hd) h2 h3 h4 ?_)) λa' w' ⟨b,hb,hrel⟩=>hK _ _ (k b hb m0 _ _ (by rw[hset b]at hrel;exact hrel))
 have:=B7 (A1 ht) λq hq=>h4.ev (hx.all q hq)
 simpa[Function.comp_def]using this
theorem AOps.lend{r v:AV}{nw:List AA}(h:PS P f args r)(hr:r.loose=true)(kL:Lds S (xs.map (·.2)) args)(hT:TR r v nw)(hx:Evs T xs)(ht:AS xs=true)(hd:AD dst nt=true)
  (k:AOps ro P nt ops Q rest ⟨AE T dst v,nw++S⟩):AOps ro P nt ops Q (⟨dst,.call ⟨.value (.func f),(xs.map (·.1)).toArray,ats⟩,ty,pos,after,none⟩::rest) ⟨T,Ac nw++S⟩:=
 AOps.lendE (β:=Unit) (C:=λ_=>True) (rr:=λ_=>r) (vv:=λ_=>v) (nw:=λ_=>nw) (h.mono λr' S' ⟨e1,e2⟩=>⟨(),trivial,e1,e2⟩) (λ_=>hr) kL (λ_=>hT) (λ_=>rfl) hx ht hd λ_ _=>k
end
section
variable {P:Program}{ro:Option Nat}{nt:Nat}{ops:Array Oper}{Q:Exit->St->Prop}{rest:List Oper}{T:List (Nat×AV)}{S:List AA}{ty:TypeId}{pos:String}{after:Array Edge}{dst:Option Tmp}{ats:Array TypeId}{f:FuncId}{r v:AV}{nw:List AA}
theorem HU{x0:Operand}{v0 a0:AV}{t:TypeId}{sz:Nat}{ll:List AV}(h:PS P f [a0] (.lst true t sz ll))(l0:Ld S v0 a0)(k:∀Y,AOps ro P nt ops Q rest ⟨AE T dst (.sl Y 0 ll.length),(Y,.row t sz ll)::S⟩)(hr:Af ll=true:=by rfl)(h0:Rd none T x0 v0:=by rfl)(ht:AS [(x0,v0)]=true:=by rfl)(hd:AD dst nt=true:=by rfl):AOps ro P nt ops Q (⟨dst,.call ⟨.value (.func f),#[x0],ats⟩,ty,pos,after,none⟩::rest) ⟨T,S⟩:=AOps.rs λY=>AOps.lend (xs:=[(x0,v0)]) (nw:=[(Y,.row t sz ll)]) h (by simpa[AV.loose]using hr) (.cons l0 .nil) .ls (.cons h0 .nil) ht hd (k Y)
end
theorem Lds.frzs{S:List AA}:∀l:List AV,Lds S l (AV.frzs l)
 |[]=>.nil
 |a::l=>.cons .frz (Lds.frzs l)
theorem Lds.fz{S:List AA}{a b:List AV}[h:Frzs a b]:Lds S a b:=h.h▸ .frzs a
theorem Ld.row{S:List AA}{X n p:Nat}{t:TypeId}{sz:Nat}{l l':List AV}[hf:Frzs l l'](h:At S p (X,.row t sz l):=by exact At.f)(hn:n=l.length:=by rfl):Ld S (.sl X 0 n) (.lst false t sz l'):=
 .sl h (by omega) (by rw[List.drop_zero,hn,List.take_length];exact Lds.fz)
end
section
variable {ro:Option Nat}
section
variable {P:Program}{nt:Nat}{ops:Array Oper}{Q:Exit->St->Prop}{rest:List Oper}{T:List (Nat×AV)}{S:List AA}{f:FuncId}{x0 x1 x2:Operand}{v0 v1 v2 r v:AV}{dst:Option Tmp}{ats:Array TypeId}{ty:TypeId}{pos:String}{after:Array Edge}{p1 p2:Nat}{z1 z2:AA}{y1 y2:Nat->AA}{Sin Sout news:List AA}{rS wS:List (Nat×AA)}
end
end
section
open Go.RowKit
variable {ro:Option Nat}
theorem Rel.perm{nt:Nat}{m0:Mem}{T:List (Nat×AV)}{S S':List AA}{a:Act}{w:World}(h:S.Perm S')(k:Rel nt m0 ⟨T,S⟩ a w):Rel nt m0 ⟨T,S'⟩ a w:=by
 obtain⟨m,N,Z,h1,h2,h3,h4⟩:=k;obtain⟨Z',p,e⟩:=CN (λz:AA×List Nat=>z.1) h h2;exact⟨m,N,Z',h1,e,h3.perm p,h4⟩
section
variable {P:Program}{nt:Nat}{ops:Array Oper}{Q:Exit->St->Prop}{rest:List Oper}{T:List (Nat×AV)}{S S':List AA}
theorem AOps.perm(h:S.Perm S')(k:AOps ro P nt ops Q rest ⟨T,S'⟩):AOps ro P nt ops Q rest ⟨T,S⟩:=λm0 a w hr=>k m0 a w (hr.perm h)
theorem AWP.perm{c:Code}(h:S.Perm S')(k:AWP ro P nt c Q ⟨T,S'⟩):AWP ro P nt c Q ⟨T,S⟩:=λm0 a w hr=>k m0 a w (hr.perm h)
end
section
variable {P:Program}{nt:Nat}{ops:Array Oper}{Q:Exit->St->Prop}{rest:List Oper}{T:List (Nat×AV)}{S:List AA}{p:Nat}{o:AO}
theorem AWP.front{c:Code}(X:Nat)(k:AWP ro P nt c Q ⟨T,(X,o)::S.eraseIdx p⟩)(hS:At S p (X,o):=by exact At.f):AWP ro P nt c Q ⟨T,S⟩:=.perm (Bt hS.get) k
theorem AOps.front(X:Nat)(k:AOps ro P nt ops Q rest ⟨T,(X,o)::S.eraseIdx p⟩)(hS:At S p (X,o):=by exact At.f):AOps ro P nt ops Q rest ⟨T,S⟩:=.perm (Bt hS.get) k
end
section
variable {P:Program}{nt:Nat}{ops:Array Oper}{Q:Exit->St->Prop}{rest:List Oper}{T:List (Nat×AV)}{S:List AA}{p:Nat}{t:TypeId}{sz:Nat}{l l':List AV}
end
theorem DY{α:Type}(A B C:List α):(A++(B++C)).Perm (B++(A++C)):=by
 rw[<-List.append_assoc,<-List.append_assoc];exact List.Perm.append_right _ List.perm_append_comm
section
variable {P:Program}{dst:Option Tmp}{f:FuncId}{β:Type}{C:β->Prop}{rr vv:β->AV}{Sin:List AA}{So nw:β->List AA}{gs L R:List AA}{nt:Nat}{T:List (Nat×AV)}{S:List AA}
theorem GR{m0:Mem}{a:Act}{args:List AV}{vals:Array Value}(h:Spec P f args Sin λr' S'=>∃b,C b/\r'=rr b/\S'=So b)(hT:∀b,TR (rr b) (vv b) (nw b))(hgs:∀b,Ac (nw b)=gs)(hp:S.Perm (Sin++(gs++(L++R))))
  (hd:∀d,dst=some d->d<nt) {m:Mem} {N:Nat} {Z:Zs} (h2:Z.map (·.1)=S) (h3:Good m0 m N Z []) (h4:TRel m0 m nt T a) (hv:VTs m args vals.toList []):
  Calls P f vals m.w λe w'=>∃u,e= .returned u/\∃b,C b/\Rel nt m0 ⟨AE T dst (vv b),nw b++(L++(So b++R))⟩ (a.put dst u) w':=by
 obtain⟨Z1,hz1,hz2⟩:=CN (λz:AA×List Nat=>z.1) hp h2;refine(h.run _ m N Z1 vals hz2 (h3.perm hz1).self hv).mono ?_;rintro e w' ⟨u,r',S',m',N',Z',br,rfl,rfl,hm,G',hu,b,hb,rfl,rfl⟩;obtain⟨Zo,Zr,rfl,ho,hzr⟩:=AN hm;obtain⟨Zg,Zf,rfl,hg,hf⟩:=AN hzr;obtain⟨Zl,Zq,rfl,hl,hq⟩:=AN hf;have G1:=h3.perm hz1 |>.after G'
 have G2:Good m0 m' N' (Zg++(Zo++(Zl++Zq))) (br++[]):=by
  have:=G1.perm (DY Zo Zg (Zl++Zq));simpa using this
 obtain⟨m2,Zn,hw2,hn,G3,hle,hv2⟩:=(hT b).sound (hg.trans (hgs b).symm) G2 hu;have G4:=G3.perm ((DY Zo Zl Zq).append_left Zn);refine⟨u,rfl,b,hb,m2,N',Zn++(Zl++(Zo++Zq)),hw2,?_,G4,((h4.mono G'.le).mono hle).put hd hv2⟩;simp[ho,hn,hl,hq]
variable {ops:Array Oper}{Q:Exit->St->Prop}{rest:List Oper}{ats:Array TypeId}{ty:TypeId}{pos:String}{after:Array Edge}{xs:List (Operand×AV)}
theorem A5(h:Spec P f (xs.map (·.2)) Sin λr' S'=>∃b,C b/\r'=rr b/\S'=So b)(hT:∀b,TR (rr b) (vv b) (nw b))(hgs:∀b,Ac (nw b)=gs)(hp:S.Perm (Sin++(gs++(L++R))))(hx:Evs T xs)(ht:AS xs=true)(hd:AD dst nt=true)
  (k:∀b,C b->AOps ro P nt ops Q rest ⟨AE T dst (vv b),nw b++(L++(So b++R))⟩):AOps ro P nt ops Q (⟨dst,.call ⟨.value (.func f),(xs.map (·.1)).toArray,ats⟩,ty,pos,after,none⟩::rest) ⟨T,S⟩:=by
 rintro m0 a w ⟨m,N,Z,rfl,h2,h3,h4⟩;refine wpListIn_plain rfl λK hK=>B6 (C:=C) (sE:=λb=>⟨AE T dst (vv b),nw b++(L++(So b++R))⟩) (by simp) (CI (λ_=>rfl) h.fn (GR h hT hgs hp (AZ hd) h2 h3 h4 ?_)) λa' w' ⟨b,hb,hrel⟩=>hK _ _ (k b hb m0 _ _ hrel)
 have:=B7 (A1 ht) λq hq=>h4.ev (hx.all q hq)
 simpa[Function.comp_def]using this
end
section
variable {nt:Nat}{st:St}{d p q X Y:Nat}{u:Value}{v:AV}{K:AV->Value->Prop}{t:TypeId}{sz:Nat}{l:List AV}
end
section
variable {P:Program}{nt:Nat}{ops:Array Oper}{Q:Exit->St->Prop}{rest:List Oper}{T:List (Nat×AV)}{S:List AA}{d p q X Y:Nat}{u:Value}{v:AV}{K:AV->Value->Prop}{t:TypeId}{sz:Nat}{l:List AV}{c:Code}
end
section
variable {P:Program}{ty t ty2 te:TypeId}{pos:String}{after:Array Edge}{g:Option (Nat×Bool)}{dst:Option Tmp}{x y:Operand}{c:Option (List Bool)}{T:List (Nat×AV)}{S:List AA}
class TPtr(P:Program)(t:TypeId):Prop where
 ex:∃te,P.underlying t=some (.pointer te)/\(P.info? te).any (λj=>j.size !=0)=true
theorem TPtr.h(hp:TPtr P t):∃te j,P.underlying t=some (.pointer te)/\P.info? te=some j/\j.size≠0:=by
 obtain⟨te,h1,h2⟩:=hp.ex;cases hj:P.info? te with
 |none=>rw[hj]at h2;cases h2
 |some j=>rw[hj]at h2;exact⟨te,j,h1,hj,by simpa using h2⟩
theorem El[hp:TPtr P t](b:Nat)(w:World):(binOp .eql t (.pointer (some ⟨b,0,none⟩)) (.pointer none)).run P w= .ok (.bool false) w:=by
 obtain⟨te,j,h1,_,_⟩:=hp.h
 have h:∀d:Nat,(Op.equalIn (d+1) t (.pointer (some ⟨b,0,none⟩)) (.pointer none)).run P w= .ok false w:=λd=>by
  simp[Op.equalIn,run_underlying h1]
 simp only[binOp];simp[Op.equal,Op.maxDepth,h 9999]
theorem Hy{m:Mem}{X sz:Nat}{t':TypeId}{l:List AV}{bs:List Nat}(h:ORel m X (.row t' sz l) bs)(h0:0<l.length):∃L arr bs',m.μ X=some L/\bs=L.blk::bs' /\m.w.heap[L.blk]?=some (.cells arr t' (0,0)):=by
 obtain⟨_,L,hL,_,h|⟨_,arr,bs',e1,e2,_⟩⟩:=h
 ·rw[h.2.1]at h0;cases h0
 ·exact⟨L,arr,bs',hL,e1,e2⟩
end
end
section
variable {ro:Option Nat}
section
variable {P:Program}{nt:Nat}{ops:Array Oper}{Q:Exit->St->Prop}{rest:List Oper}{T:List (Nat×AV)}{S:List AA}{f:FuncId}{dst:Option Tmp}{ats:Array TypeId}{ty:TypeId}{pos:String}{after:Array Edge}{Sin Sout R:List AA}{r v:AV}
theorem BH{S L Sin R:List AA}(hp:S=L++(Sin++R)):S.Perm (Sin++([]++(L++R))):=hp▸DY L Sin R
theorem Ft{β:Type}{C:β->Prop}{rr vv:β->AV}{So:β->List AA}(L:List AA)(h:Spec P f [] Sin λr' S'=>∃b,C b/\r'=rr b/\S'=So b)[hf:∀b,Frz (rr b) (vv b)](k:∀b,C b->AOps ro P nt ops Q rest ⟨AE T dst (vv b),L++(So b++R)⟩)(hp:S=L++(Sin++R):=by rfl)(ht:AS []=true:=by rfl)(hd:AD dst nt=true:=by rfl):AOps ro P nt ops Q (⟨dst,.call ⟨.value (.func f),#[],ats⟩,ty,pos,after,none⟩::rest) ⟨T,S⟩:=
 A5 (xs:=[]) (gs:=[]) (nw:=λ_=>[]) (L:=L) h (λb=>.fz) (λ_=>rfl) (BH hp) (.nil) ht hd k
theorem EY{x0:Operand}{v0:AV}{β:Type}{C:β->Prop}{rr vv:β->AV}{So:β->List AA}(L:List AA)(h:Spec P f [v0] Sin λr' S'=>∃b,C b/\r'=rr b/\S'=So b)[hf:∀b,Frz (rr b) (vv b)](k:∀b,C b->AOps ro P nt ops Q rest ⟨AE T dst (vv b),L++(So b++R)⟩)(hp:S=L++(Sin++R):=by rfl)(h0:Rd none T x0 v0:=by rfl)(ht:AS [(x0,v0)]=true:=by rfl)(hd:AD dst nt=true:=by rfl):AOps ro P nt ops Q (⟨dst,.call ⟨.value (.func f),#[x0],ats⟩,ty,pos,after,none⟩::rest) ⟨T,S⟩:=
 A5 (xs:=[(x0,v0)]) (gs:=[]) (nw:=λ_=>[]) (L:=L) h (λb=>.fz) (λ_=>rfl) (BH hp) (.cons h0 (.nil)) ht hd k
theorem Cu{x0:Operand}{v0:AV}(L:List AA)(h:Spec P f [v0] Sin λr' S'=>r'=r/\S'=Sout)[hf:Frz r v](k:AOps ro P nt ops Q rest ⟨AE T dst v,L++(Sout++R)⟩)(hp:S=L++(Sin++R):=by rfl)(h0:Rd none T x0 v0:=by rfl)(ht:AS [(x0,v0)]=true:=by rfl)(hd:AD dst nt=true:=by rfl):AOps ro P nt ops Q (⟨dst,.call ⟨.value (.func f),#[x0],ats⟩,ty,pos,after,none⟩::rest) ⟨T,S⟩:=
 A5 (β:=Unit) (C:=λ_=>True) (rr:=λ_=>r) (vv:=λ_=>v) (So:=λ_=>Sout) (xs:=[(x0,v0)]) (gs:=[]) (nw:=λ_=>[]) (L:=L) (h.mono λr' S' ⟨e1,e2⟩=>⟨(),trivial,e1,e2⟩) (λb=>.fz) (λ_=>rfl) (BH hp) (.cons h0 (.nil)) ht hd (λ_ _=>k)
theorem EW{x0:Operand}{v0:AV}{x1:Operand}{v1:AV}(L:List AA)(h:Spec P f [v0,v1] Sin λr' S'=>r'=r/\S'=Sout)[hf:Frz r v](k:AOps ro P nt ops Q rest ⟨AE T dst v,L++(Sout++R)⟩)(hp:S=L++(Sin++R):=by rfl)(h0:Rd none T x0 v0:=by rfl)(h1:Rd none T x1 v1:=by rfl)(ht:AS [(x0,v0),(x1,v1)]=true:=by rfl)(hd:AD dst nt=true:=by rfl):AOps ro P nt ops Q (⟨dst,.call ⟨.value (.func f),#[x0,x1],ats⟩,ty,pos,after,none⟩::rest) ⟨T,S⟩:=
 A5 (β:=Unit) (C:=λ_=>True) (rr:=λ_=>r) (vv:=λ_=>v) (So:=λ_=>Sout) (xs:=[(x0,v0),(x1,v1)]) (gs:=[]) (nw:=λ_=>[]) (L:=L) (h.mono λr' S' ⟨e1,e2⟩=>⟨(),trivial,e1,e2⟩) (λb=>.fz) (λ_=>rfl) (BH hp) (.cons h0 (.cons h1 (.nil))) ht hd (λ_ _=>k)
theorem EX{x0:Operand}{v0:AV}{x1:Operand}{v1:AV}{x2:Operand}{v2:AV}{β:Type}{C:β->Prop}{rr vv:β->AV}{So:β->List AA}(L:List AA)(h:Spec P f [v0,v1,v2] Sin λr' S'=>∃b,C b/\r'=rr b/\S'=So b)[hf:∀b,Frz (rr b) (vv b)](k:∀b,C b->AOps ro P nt ops Q rest ⟨AE T dst (vv b),L++(So b++R)⟩)(hp:S=L++(Sin++R):=by rfl)(h0:Rd none T x0 v0:=by rfl)(h1:Rd none T x1 v1:=by rfl)(h2:Rd none T x2 v2:=by rfl)(ht:AS [(x0,v0),(x1,v1),(x2,v2)]=true:=by rfl)(hd:AD dst nt=true:=by rfl):AOps ro P nt ops Q (⟨dst,.call ⟨.value (.func f),#[x0,x1,x2],ats⟩,ty,pos,after,none⟩::rest) ⟨T,S⟩:=
 A5 (xs:=[(x0,v0),(x1,v1),(x2,v2)]) (gs:=[]) (nw:=λ_=>[]) (L:=L) h (λb=>.fz) (λ_=>rfl) (BH hp) (.cons h0 (.cons h1 (.cons h2 (.nil)))) ht hd k
theorem Hq{x0:Operand}{v0:AV}{x1:Operand}{v1:AV}{x2:Operand}{v2:AV}(L:List AA)(h:Spec P f [v0,v1,v2] Sin λr' S'=>r'=r/\S'=Sout)[hf:Frz r v](k:AOps ro P nt ops Q rest ⟨AE T dst v,L++(Sout++R)⟩)(hp:S=L++(Sin++R):=by rfl)(h0:Rd none T x0 v0:=by rfl)(h1:Rd none T x1 v1:=by rfl)(h2:Rd none T x2 v2:=by rfl)(ht:AS [(x0,v0),(x1,v1),(x2,v2)]=true:=by rfl)(hd:AD dst nt=true:=by rfl):AOps ro P nt ops Q (⟨dst,.call ⟨.value (.func f),#[x0,x1,x2],ats⟩,ty,pos,after,none⟩::rest) ⟨T,S⟩:=
 A5 (β:=Unit) (C:=λ_=>True) (rr:=λ_=>r) (vv:=λ_=>v) (So:=λ_=>Sout) (xs:=[(x0,v0),(x1,v1),(x2,v2)]) (gs:=[]) (nw:=λ_=>[]) (L:=L) (h.mono λr' S' ⟨e1,e2⟩=>⟨(),trivial,e1,e2⟩) (λb=>.fz) (λ_=>rfl) (BH hp) (.cons h0 (.cons h1 (.cons h2 (.nil)))) ht hd (λ_ _=>k)
theorem Ht{x0:Operand}{v0:AV}{x1:Operand}{v1:AV}{x2:Operand}{v2:AV}{x3:Operand}{v3:AV}{β:Type}{C:β->Prop}{rr vv:β->AV}{So:β->List AA}(L:List AA)(h:Spec P f [v0,v1,v2,v3] Sin λr' S'=>∃b,C b/\r'=rr b/\S'=So b)[hf:∀b,Frz (rr b) (vv b)](k:∀b,C b->AOps ro P nt ops Q rest ⟨AE T dst (vv b),L++(So b++R)⟩)(hp:S=L++(Sin++R):=by rfl)(h0:Rd none T x0 v0:=by rfl)(h1:Rd none T x1 v1:=by rfl)(h2:Rd none T x2 v2:=by rfl)(h3:Rd none T x3 v3:=by rfl)(ht:AS [(x0,v0),(x1,v1),(x2,v2),(x3,v3)]=true:=by rfl)(hd:AD dst nt=true:=by rfl):AOps ro P nt ops Q (⟨dst,.call ⟨.value (.func f),#[x0,x1,x2,x3],ats⟩,ty,pos,after,none⟩::rest) ⟨T,S⟩:=
 A5 (xs:=[(x0,v0),(x1,v1),(x2,v2),(x3,v3)]) (gs:=[]) (nw:=λ_=>[]) (L:=L) h (λb=>.fz) (λ_=>rfl) (BH hp) (.cons h0 (.cons h1 (.cons h2 (.cons h3 (.nil))))) ht hd k
end
end
section
section
variable {P:Program}{dst:Option Tmp}{ty t ty2:TypeId}{pos:String}{after:Array Edge}{g:Option (Nat×Bool)}{T:List (Nat×AV)}{S:List AA}{c:Option (List Bool)}{x y:Operand}{a b:UInt64}
end
section
variable {P:Program}{ro:Option Nat}{nt:Nat}{ops:Array Oper}{Q:Exit->St->Prop}{rest:List Oper}{T:List (Nat×AV)}{S:List AA}{op:Op}{ty:TypeId}{pos:String}{after:Array Edge}{dst:Option Tmp}
end
end
section
variable {ro:Option Nat}
open Go.RowKit
section
variable {P:Program}{nt:Nat}{ops:Array Oper}{Q:Exit->St->Prop}{rest:List Oper}{T:List (Nat×AV)}{Si Sl Sf ob:List AA}{y:Value}{xs:List YO}{J:Nat->List AA->Prop}{Jx:List AA->Prop}{dst:Option Tmp}{ty:TypeId}{pos:String}{after:Array Edge}{x x0 x1:Operand}{v0 v1:AV}{ats:Array TypeId}{i:Nat}
end
end
section
variable {ro:Option Nat}
open Go.RowKit
section
variable {P:Program}{nt:Nat}{ops:Array Oper}{J:List AA->Prop}
section
variable {Q:Exit->St->Prop}{l rest:List Oper}{acc:List Eff}{st:St}{T:List (Nat×AV)}{S:List AA}{xs:List (Operand×AV)}{rS wS:List (Nat×AA)}{v:AV}{op:Op}{ty:TypeId}{pos:String}{after:Array Edge}{dst:Option Tmp}
end
end
end
section
variable {ro:Option Nat}
open Go.RowKit
section
variable {P:Program}{nt:Nat}{ops:Array Oper}
end
section
variable {P:Program}{nt:Nat}{ops:Array Oper}
section
variable {Q:Exit->St->Prop}{l rest:List Oper}{acc:List Eff}{st:St}{T:List (Nat×AV)}{S:List AA}{xs:List (Operand×AV)}{rS wS:List (Nat×AA)}{v:AV}{op:Op}{ty:TypeId}{pos:String}{after:Array Edge}{dst:Option Tmp}{f:FuncId}{ats:Array TypeId}
end
end
end
section
variable {ro:Option Nat}
section
variable {P:Program}{nt:Nat}{ops:Array Oper}{Q:Exit->St->Prop}{l rest:List Oper}{acc:List Eff}{T:List (Nat×AV)}{S:List AA}{f:FuncId}{x0 x1 x2 x3:Operand}{v0 v1 v2 v3 r v:AV}{xs:List (Operand×AV)}{dst:Option Tmp}{ats:Array TypeId}{ty:TypeId}{pos:String}{after:Array Edge}{p1 p2:Nat}{z1 z2:AA}{y1 y2:Nat->AA}
end
end
section
variable {ro:Option Nat}
section
variable {P:Program}{nt:Nat}{ops:Array Oper}{Q:Exit->St->Prop}{l rest:List Oper}{acc:List Eff}{T:List (Nat×AV)}{S Sin:List AA}{xs:List (Operand×AV)}{dst:Option Tmp}{f:FuncId}{ats:Array TypeId}{ty:TypeId}{pos:String}{after:Array Edge}
end
end
section
variable {ro:Option Nat}
section
variable {P:Program}{nt:Nat}{ops:Array Oper}{Q:Exit->St->Prop}{l rest:List Oper}{acc:List Eff}{st:St}{T:List (Nat×AV)}{S:List AA}{xs:List (Operand×AV)}{rS wS:List (Nat×AA)}{v:AV}{op:Op}{ty:TypeId}{pos:String}{after:Array Edge}{dst:Option Tmp}{n:Nat}
end
section
variable {P:Program}{ty:TypeId}{pos:String}{after:Array Edge}{g:Option (Nat×Bool)}{dst:Option Tmp}{xs:List (Operand×AV)}{f:FuncId}{ats:Array TypeId}{r v:AV}{Sin:List AA}{rS:List (Nat×AA)}
variable {n nt:Nat}{ops:Array Oper}{Q:Exit->St->Prop}{l rest:List Oper}{acc:List Eff}{T:List (Nat×AV)}{L R:List AA}{S:List AA}
end
end
section
section
variable {P:Program}{dst:Option Tmp}{t ty ty2:TypeId}{pos:String}{after:Array Edge}{g:Option (Nat×Bool)}{x y:Operand}{c:Option (List Bool)}{T:List (Nat×AV)}{S:List AA}
theorem OpT.eqPtrN[hp:TPtr P t]{X p sz:Nat}{t1:TypeId}{l:List AV}(h0:0<l.length):OpT P ⟨dst,.binOp .eql t x y ty2,ty,pos,after,g⟩ [(x,.ptr X 0 0),(y,.prim (.pointer none))] [(p,(X,.row t1 sz l))] (.prim (.bool false)) []:=
 .pure_ λm a hx hS=>by
  obtain⟨bs,hO⟩:=hS (p,(X,.row t1 sz l)) (by simp);obtain⟨L,arr,bs',hL,_,_⟩:=Hy hO h0;obtain⟨_,_,A,hA,hA2⟩:=hx (x,.ptr X 0 0) (by simp);have h2:=(hx (y,.prim (.pointer none)) (by simp)).prim;simp only[List.cons.injEq,and_true]at hA;simp only at h2;rw[hA2 L hL,Nat.zero_mul,Nat.zero_add]at hA;refine⟨.bool false,?_,AQ _ rfl⟩;simp[execOp,hA,h2,Result.andThen_ok,eqGuard,El]
theorem W.eqPtrN[TPtr P t]{X p sz:Nat}{t1:TypeId}{l:List AV}(hx:Rd c T x (.ptr X 0 0))(hy:Rd c T y (.prim (.pointer none)))(hS:At S p (X,.row t1 sz l))(h0:0<l.length):Stp c P ⟨dst,.binOp .eql t x y ty2,ty,pos,after,g⟩ T S [(x,.ptr X 0 0),(y,.prim (.pointer none))] [(p,(X,.row t1 sz l))] (.prim (.bool false)) []:=⟨.eqPtrN h0,.cons hx (.cons hy .nil),.cons hS .nil⟩
end
section
variable {P:Program}{n nt:Nat}{ops:Array Oper}{Q:Exit->St->Prop}{l rest:List Oper}{acc:List Eff}{T:List (Nat×AV)}{L R S:List AA}{op:Op}{ty:TypeId}{pos:String}{after:Array Edge}{dst:Option Tmp}{xs:List (Operand×AV)}{rS wS:List (Nat×AA)}{f:FuncId}{ats:Array TypeId}{r v:AV}{Sin:List AA}
end
end
section
open Go.RowKit Go.Maps Go.WideElems Go.WideMaps Go.ChangeMaps
structure KeyC(P:Program)(k:TypeId)(κ:Type)where
 val:κ->Value
 lit:κ->Lit
 ok:κ->Prop
 av:κ->AV
 keyed:Keyed P k
 of:∀x,ok x->keyOf P k (val x)=some (lit x)
 inj:∀x y,ok x->ok y->lit x=lit y->x=y
 vav:∀(m:Mem) x v,VV m (av x) v []->v=val x
 avv:∀(m:Mem) x,VV m (av x) (val x) []
 nt:∀x,ntup (av x)=true
noncomputable def IE (P:Program) (k:TypeId) (hk:P.underlying k=some (.int .i64)):KeyC P k Int where
 val x:=.int .i64 x
 lit x:=.int .i64 x
 ok x:=-9223372036854775808<=x/\x<=9223372036854775807
 av x:=.prim (.int .i64 x)
 keyed:=int_keyed hk
 of x h:=keyOf_int_mk hk (BV h)
 inj x y hx hy e:=by injection e
 vav m x v h:=h.prim
 avv m x:=AQ _
 nt x:=rfl
section
variable {P:Program}{k e:TypeId}{κ:Type}
def MapK(C:KeyC P k κ)(e:TypeId)(g:κ->Option Value)(s:Nat)(D:DataW Unit):Prop:=
 s=Maps.size D/\(∀x,C.ok x->Maps.has D (C.lit x)=(g x).isSome/\∀v,g x=some v->PlainV P e v/\∀z,D.atKey (C.lit x) z= .lit (C2 v))/\∀l,Maps.has D l=true->∃x,C.ok x/\l=C.lit x
def MapKF(C:KeyC P k κ)(e:TypeId)(g:κ->Option Value)(s:Nat)(o:Obj):Prop:=
 ∃es clock D,o= .map es clock/\Fit P k (Am P e) es clock/\es.size<=s/\D= .map ((es.toList.map (rg P k (Am P e))).foldr DataW.insert [])/\MapK C e g s D
variable {C:KeyC P k κ}{g:κ->Option Value}{s b:Nat}{o:Obj}{w:World}{D:DataW Unit}
theorem MapKF.own(h:MapKF C e g s o)(hb:w.heap[b]?=some o):∃D,w.ownsMap P k (Am P e) b s D/\MapK C e g s D:=by
 obtain⟨es,clock,D,rfl,h1,h2,h3,h4⟩:=h;exact⟨D,⟨es,clock,hb,h1,h2,h3⟩,h4⟩
theorem MapK.of{n:Nat}(h:w.ownsMap P k (Am P e) b n D)(hc:MapK C e g s D):∃o,w.heap[b]?=some o/\MapKF C e g s o:=by
 obtain⟨es,clock,hb,h1,h2,h3⟩:=h;refine⟨_,hb,es,clock,D,rfl,h1,?_,h3,hc⟩;rw[hc.1,h3];have e1:Maps.size (DataW.map ((es.toList.map (rg P k (Am P e))).foldr DataW.insert []))=es.size:=by simp[Maps.size,length_sorted]
 rw[e1];exact Nat.le_refl _
def Eb[DecidableEq κ](g:κ->Option Value)(x:κ)(v:Value):κ->Option Value:=λy=>if y=x then some v else g y
theorem MapK.put[DecidableEq κ](hT:Maps.Tidy D)(h:MapK C e g s D){x:κ}{v:Value}(hw:C.ok x)(hv:PlainV P e v):
  MapK C e (Eb g x v) (if(g x).isSome then s else s+1) (D.put (C.lit x) (.lit (C2 v))):=by
 have hk:=C.keyed.key (C.of x hw);obtain⟨h1,h2,h3⟩:=h;refine⟨?_,λy hy=>?_,λl hl=>?_⟩
 ·rw[size_put hT,(h2 x hw).1,h1]
 ·by_cases e:y=x
  ·subst e
   refine⟨by rw[has_put_same hT.isMap hk];simp[Eb],λu hu=>?_⟩;simp only[Eb,if_true,Option.some.injEq]at hu;subst hu;exact⟨hv,λz=>atKey_put_same hT.isMap hk _ _⟩
  ·have hne:C.lit y≠C.lit x:=λe2=>e (C.inj y x hy hw e2)
   refine⟨by rw[has_put_other hne,(h2 y hy).1];simp[Eb,e],λu hu=>?_⟩;simp only[Eb,if_neg e]at hu;exact⟨((h2 y hy).2 u hu).1,λz=>by rw[atKey_put_other hne];exact((h2 y hy).2 u hu).2 z⟩
 ·by_cases e:l=C.lit x
  ·exact⟨x,hw,e⟩
  ·rw[has_put_other e]at hl
   exact h3 l hl
end
section
variable {P:Program}{m0 m:Mem}{N X:Nat}{R:Zs}{ex:List Nat}{o:Oper}{v:AV}{x y z:Operand}{ty ty2 t k e:TypeId}{pos:String}{after:Array Edge}{g:Option (Nat×Bool)}{dst:Option Tmp}{p:Nat}{κ:Type}{C:KeyC P k κ}{gf:κ->Option Value}{s:Nat}
theorem Gv(w:World)(C:KeyC P k κ)(e:TypeId):MapKF C e (λ_=>none) 0 (.map #[] 0):=by
 obtain⟨es,clock,hb,h1,h2,h3⟩:=World.ownsMap_made (H:=Unit) w P k (Am P e);rw[heap_alloc_new]at hb;obtain⟨rfl,rfl⟩:=Obj.map.inj (Option.some.inj hb);exact⟨#[],0,_,rfl,h1,h2,h3,rfl,λx _=>⟨rfl,λv hv=>by cases hv⟩,λl hl=>by cases hl⟩
theorem ES(C:KeyC P k κ)(ht:P.underlying t=some (.map k e)):OpT P ⟨dst,.makeMap t none,ty,pos,after,g⟩ [] [(p,(X,.gone))] (.mp X) [(p,(X,.ob (MapKF C e (λ_=>none) 0)))]:=by
 intro nt m0 T S a w hx hS hd hr;obtain⟨m,N,Z,rfl,h2,h3,h4⟩:=hr;have h2':Z.map (·.1)=S:=h2;have hSp:=hS (p,(X,.gone)) (by simp);rw[<-h2',List.getElem?_map]at hSp;cases hz:Z[p]? with
 |none=>rw[hz]at hSp;cases hSp
 |some z=>
  rw[hz]at hSp;simp only[Option.map_some,Option.some.injEq]at hSp;obtain⟨z1,z2⟩:=z;simp only at hSp;subst hSp;obtain⟨R,hp1,hp2⟩:=Ab hz;obtain⟨G',hle⟩:=Ct (h3.perm hp1) (.map #[] 0) (Gv m.w C e) _ rfl;unfold Oper.wp
  have h5:(execOp a.eval ⟨dst,.makeMap t none,ty,pos,after,g⟩).run P m.w= .ok (.value (.map (some m.w.heap.size))) (m.w.alloc (.map #[] 0)):=by
   simp[execOp,run_makeMap,Sem.run_bind,Result.andThen_ok,Sem.run_pure]
  rw[h5];refine⟨_,N,Z.set p ((X,.ob _),[m.w.heap.size]),rfl,?_,G'.perm (hp2 _).symm,(h4.mono hle).put hd ?_⟩
  ·rw[List.map_set,h2'];rfl
  ·refine⟨rfl,.inr rfl,_,rfl,λL hL=>?_⟩
   simp only[if_true,Option.some.injEq]at hL;subst hL;rfl
theorem OpT.mapUpdK[DecidableEq κ]{n:κ}{u:Value}(ht:P.underlying t=some (.map k e))(hn:C.ok n)(hu:PlainV P e u)(hs:s<maxLen):OpT P ⟨dst,.mapUpdate t x y z,ty,pos,after,g⟩ [(x,.mp X),(y,C.av n),(z,.prim u)] [(p,(X,.ob (MapKF C e gf s)))] .dead [(p,(X,.ob (MapKF C e (Eb gf n u) (if(gf n).isSome then s else s+1))))]:=by
 intro nt m0 T S a w hx hS hd hr;obtain⟨m,N,Z,rfl,h2,h3,h4⟩:=hr;have h2':Z.map (·.1)=S:=h2;have hxa:VV m (.mp X) (a.eval x) []:=h4.ev (hx (x,.mp X) (by simp));have hya:=C.vav m n _ (h4.ev (hx (y,C.av n) (by simp)));have hza:=(h4.ev (hx (z,.prim u) (by simp))).prim;have hSp:=hS (p,(X,.ob (MapKF C e gf s))) (by simp);rw[<-h2',List.getElem?_map]at hSp;cases hz:Z[p]? with
 |none=>rw[hz]at hSp;cases hSp
 |some z1=>
  rw[hz]at hSp;simp only[Option.map_some,Option.some.injEq]at hSp;obtain⟨z1,bs⟩:=z1;simp only at hSp;subst hSp;obtain⟨R,hp1,hp2⟩:=Ab hz;have G:=h3.perm hp1;obtain⟨hU,L,hL,hbs,o,hb,hKo⟩:=G.obj _ (List.mem_cons_self ..);obtain⟨_,_,A,hA,hA2⟩:=hxa;simp only[List.cons.injEq,and_true]at hA;rw[hA2 L hL]at hA;obtain⟨D,hown,hC⟩:=hKo.own hb;have K:=C.keyed;have hkey:=C.of n hn;obtain⟨w',hrun,hown',hturn⟩:=hown.store K ht hs hkey hu;obtain⟨es,clock,es',clock',hb0,rfl⟩:=hturn;obtain⟨o',ho',hF'⟩:=MapK.of hown' (hC.put (hown.tidy K) hn hu);rw[DK hb0]at ho';obtain rfl:=Option.some.inj ho';obtain⟨G',hle⟩:=Ci G hL hbs _ hF' _ rfl;unfold Oper.wp
  have h5:(execOp a.eval ⟨dst,.mapUpdate t x y z,ty,pos,after,g⟩).run P m.w= .ok .skip (setBlock m.w L.blk (.map es' clock')):=by
   simp[execOp,hA,hya,hza,hrun,Sem.run_bind,Result.andThen_ok,Sem.run_pure]
  rw[h5];refine⟨_,N,Z.set p ((X,.ob _),bs),rfl,?_,G'.perm (hp2 _).symm,(h4.mono hle).put hd ?_⟩
  ·rw[List.map_set,h2'];rfl
  ·exact rfl
theorem Fm{m:Mem}{x0:Operand}{a:Act}(hx:VV m (.mp X) (a.eval x0) []){bs:List Nat}(hO:ORel m X (.ob (MapKF C e gf s)) bs):∃b D,a.eval x0= .map (some b)/\m.w.ownsMap P k (Am P e) b s D/\MapK C e gf s D:=by
 obtain⟨hU,L,hL,hbs,o,hb,hKo⟩:=hO;obtain⟨_,_,A,hA,hA2⟩:=hx;simp only[List.cons.injEq,and_true]at hA;rw[hA2 L hL]at hA;obtain⟨D,hown,hC⟩:=hKo.own hb;exact⟨L.blk,D,hA,hown,hC⟩
theorem MapK.at{n:κ}{z0 v:Value}{ps:List MemPlace}{D:DataW Unit}(hC:MapK C e gf s D)(hn:C.ok n)(h0:PlainV P e z0)(hv:Am P e v=some (D.atKey (C.lit n) (.lit (C2 z0)),ps)):v=(gf n).getD z0:=by
 obtain⟨h1,h2⟩:=hC.2.1 n hn;cases hg:gf n with
 |none=>
  rw[hg]at h1;rw[atKey_of_not_has (by simpa using h1)]at hv;exact BF hv h0
 |some u=>
  obtain⟨h3,h4⟩:=h2 u hg;rw[h4]at hv;exact BF hv h3
theorem OpT.lookupK2{n:κ}{z0:Value}(ht:P.underlying t=some (.map k e))(hz:∀w,(zeroValue e).run P w= .ok z0 w)(h0:PlainV P e z0)(hn:C.ok n)(hone:((gf n).getD z0).oneCell'=true):
  OpT P ⟨dst,.lookup t x y true,ty,pos,after,g⟩ [(x,.mp X),(y,C.av n)] [(p,(X,.ob (MapKF C e gf s)))] (.tup [.prim ((gf n).getD z0),.prim (.bool (gf n).isSome)]) []:=
 .pure_ λm a hx hS=>by
  obtain⟨bs,hO⟩:=hS (p,(X,.ob (MapKF C e gf s))) (by simp);obtain⟨b,D,hA,hown,hC⟩:=Fm (hx (x,.mp X) (by simp)) hO;have hya:=C.vav m n _ (hx (y,C.av n) (by simp));obtain⟨v,ps,hrun,hv⟩:=hown.look_ok C.keyed ht (hz m.w) h0 (C.of n hn);have hval:=hC.at hn h0 hv;subst hval;rw[(hC.2.1 n hn).1]at hrun;exact⟨_,by simp only at hya hA;simp[execOp,hA,hya,hrun,Sem.run_bind,Result.andThen_ok,Sem.run_pure],⟨_,rfl,(AK rfl).2 ⟨_,_,[],[],rfl,rfl,AQ _ hone,(AK rfl).2 ⟨_,_,[],[],rfl,rfl,AQ _,⟨rfl,rfl⟩⟩⟩⟩⟩
theorem OpT.mapLenK{ats:Array TypeId}(C:KeyC P k κ){gf:κ->Option Value}(ht:P.underlying t=some (.map k e)):OpT P ⟨dst,.call ⟨.builtin .len,#[x],#[t]⟩,ty,pos,after,g⟩ [(x,.mp X)] [(p,(X,.ob (MapKF C e gf s)))] (.prim (.int .i64 s)) []:=
 .pure_ λm a hx hS=>by
  obtain⟨bs,hO⟩:=hS (p,(X,.ob (MapKF C e gf s))) (by simp);obtain⟨b,D,hA,hown,hC⟩:=Fm (hx (x,.mp X) (by simp)) hO;have hrun:=hown.len ht ty;rw[<-hC.1]at hrun;simp only at hA;refine⟨_,?_,AQ _⟩;rw[Aj];simp[builtin,hA,hrun,Sem.run_bind,Sem.run_pure,Result.andThen_ok]
end
class TMapK(P:Program)(t:TypeId)(k e:outParam TypeId)(z0:outParam Value):Prop where
 h:P.underlying t=some (.map k e)
 hz:∀w,(zeroValue e).run P w= .ok z0 w
 h0:PlainV P e z0
section
variable {ro:Option Nat}{P:Program}{nt:Nat}{ops:Array Oper}{Q:Exit->St->Prop}{rest:List Oper}{T:List (Nat×AV)}{S:List AA}{ty t k e:TypeId}{pos:String}{after:Array Edge}{dst:Option Tmp}{c:Option (List Bool)}{g:Option (Nat×Bool)}{x y z:Operand}{X p:Nat}{κ:Type}{C:KeyC P k κ}{gf:κ->Option Value}{s:Nat}{z0:Value}
theorem FB(C:KeyC P k κ)[TMapK P t k e z0](kk:∀X,AOps ro P nt ops Q rest ⟨AE T dst (.mp X),(X,.ob (MapKF C e (λ_=>none) 0))::S⟩)(hd:AD dst nt=true:=by rfl):AOps ro P nt ops Q (⟨dst,.makeMap t none,ty,pos,after,none⟩::rest) ⟨T,S⟩:=
 AOps.rs λX=>AOps.step (o:=⟨dst,.makeMap t none,ty,pos,after,none⟩) (xs:=[]) (rS:=[(0,(X,.gone))]) rfl (ES C (TMapK.h (z0:=z0))) .nil (.cons .here .nil) hd (kk X)
theorem W.mapUpdK[DecidableEq κ](n:κ){u:Value}{av:AV}[TMapK P t k e z0](hu:PlainV P e u)(hn:C.ok n)(hs:s<maxLen)(hx:Rd c T x (.mp X))(hy:Rd c T y av)(hz:Rd c T z (.prim u))(hSp:At S p (X,.ob (MapKF C e gf s)))(hav:av=C.av n:=by rfl):
  Stp c P ⟨dst,.mapUpdate t x y z,ty,pos,after,g⟩ T S [(x,.mp X),(y,av),(z,.prim u)] [(p,(X,.ob (MapKF C e gf s)))] .dead [(p,(X,.ob (MapKF C e (Eb gf n u) (if(gf n).isSome then s else s+1))))]:=by
 subst hav;exact⟨.mapUpdK (TMapK.h (z0:=z0)) hn hu hs,.cons hx (.cons hy (.cons hz .nil)),.cons hSp .nil⟩
theorem E4(n:κ)(v:Value)(b:Bool){av:AV}[TMapK P t k e z0](hv:(gf n).getD z0=v)(hb:(gf n).isSome=b)(hn:C.ok n)(hx:Rd c T x (.mp X))(hy:Rd c T y av)(hSp:At S p (X,.ob (MapKF C e gf s)))(hone:v.oneCell'=true:=by rfl)(hav:av=C.av n:=by rfl):
  Stp c P ⟨dst,.lookup t x y true,ty,pos,after,g⟩ T S [(x,.mp X),(y,av)] [(p,(X,.ob (MapKF C e gf s)))] (.tup [.prim v,.prim (.bool b)]) []:=by
 subst hv hb hav;exact⟨.lookupK2 (TMapK.h (z0:=z0)) (TMapK.hz (t:=t)) (TMapK.h0 (t:=t)) hn hone,.cons hx (.cons hy .nil),.cons hSp .nil⟩
theorem W.mapLenK[TMapK P t k e z0](hx:Rd c T x (.mp X))(hSp:At S p (X,.ob (MapKF C e gf s))):
  Stp c P ⟨dst,.call ⟨.builtin .len,#[x],#[t]⟩,ty,pos,after,g⟩ T S [(x,.mp X)] [(p,(X,.ob (MapKF C e gf s)))] (.prim (.int .i64 s)) []:=
 ⟨.mapLenK (ats:=#[]) C (TMapK.h (z0:=z0)),.cons hx .nil,.cons hSp .nil⟩
end
end
section
open Go.RowKit Go.Maps Go.WideElems Go.WideMaps Go.ChangeMaps Go.MapKept
section
variable {P:Program}{k e:TypeId}{κ:Type}{C:KeyC P k κ}{g:κ->Option Value}{s b r cnt:Nat}{left:κ->Bool}{M I:Obj}{w:World}
def Rng(C:KeyC P k κ)(e:TypeId)(g:κ->Option Value)(s b:Nat)(left:κ->Bool)(cnt:Nat)(M I:Obj):Prop:=
 ∃L:Lit->Bool,(∀x,C.ok x->L (C.lit x)=left x)/\(∀l,L l=true->∃x,C.ok x/\l=C.lit x)/\∃es clock since seen c0,M= .map es clock/\MapKF C e g s M/\I= .mapIter (some b) since seen c0/\(∀x∈es.toList,x.born<since)/\(leftOf es seen).size=cnt/\
  (∀x∈es.toList,L (rg P k (Am P e) x).1= !seen.contains x.born)/\(∀kl,L kl=true->∃x∈es.toList,(rg P k (Am P e) x).1=kl)/\since<=c0/\since<=clock
def Ds(C:KeyC P k κ)(b:Nat)(M I:Obj)(x:κ)(v:Value):Prop:=
 ∀(w:World) (r:Nat),w.heap[b]?=some M->w.heap[r]?=some I->(Instr.entry (.pointer (some ⟨r,0,none⟩))).run P w= .ok (.tuple #[C.val x,v]) w
theorem Rng.world(h:Rng C e g s b left cnt M I)(hb:w.heap[b]?=some M)(hr:w.heap[r]?=some I):
  ∃D L,w.ranges P k (Am P e) b r s D L cnt/\MapK C e g s D/\(∀x,C.ok x->L (C.lit x)=left x)/\∀l,L l=true->∃x,C.ok x/\l=C.lit x:=by
 obtain⟨L,hL1,hL2,es,clock,since,seen,c0,rfl,⟨es',clock',D,e1,h1,h2,h3,h4⟩,rfl,h6,h7,h8,h9,h10,h11⟩:=h;obtain⟨rfl,rfl⟩:=Obj.map.inj e1;exact⟨D,L,⟨es,clock,since,seen,c0,hb,h1,h2,h3,hr,h6,h7,h8,h9,h10,h11⟩,h4,hL1,hL2⟩
theorem Rng.of{D:DataW Unit}{L:Lit->Bool}{n:Nat}(h:w.ranges P k (Am P e) b r n D L cnt)(hm:MapK C e g s D)(hL1:∀x,C.ok x->L (C.lit x)=left x)(hL2:∀l,L l=true->∃x,C.ok x/\l=C.lit x):
  ∃M I,w.heap[b]?=some M/\w.heap[r]?=some I/\Rng C e g s b left cnt M I:=by
 obtain⟨es,clock,since,seen,c0,hb,h1,h2,h3,hr,h6,h7,h8,h9,h10,h11⟩:=h;refine⟨_,_,hb,hr,L,hL1,hL2,es,clock,since,seen,c0,rfl,⟨es,clock,D,rfl,h1,?_,h3,hm⟩,rfl,h6,h7,h8,h9,h10,h11⟩;rw[hm.1,h3];have e1:Maps.size (DataW.map ((es.toList.map (rg P k (Am P e))).foldr DataW.insert []))=es.size:=by simp[Maps.size,length_sorted]
 rw[e1];exact Nat.le_refl _
theorem Gx(C:KeyC P k κ)[DecidableEq κ]{x z:κ}(hx:C.ok x)(hz:C.ok z):(C.lit z).sameKey (C.lit x)=decide (z=x):=by
 by_cases e:z=x
 ·subst e
  rw[decide_eq_true rfl];exact WideAt.sameKey_self (C.keyed.key (C.of z hz))
 ·rw[decide_eq_false e]
  cases h:(C.lit z).sameKey (C.lit x)
  ·rfl
  ·exact absurd (C.inj z x hz hx (WideAt.sameKey_eq h)) e
theorem Rng.next[DecidableEq κ](h:Rng C e g s b left cnt M I)(hb:w.heap[b]?=some M)(hr:w.heap[r]?=some I)(ty:TypeId):
  ((∀x,C.ok x->left x=false)/\(Instr.next (.pointer (some ⟨r,0,none⟩)) false ty).run P w= .ok (.tuple #[.bool false]) w)\/
  ∃x v I' cnt',C.ok x/\left x=true/\g x=some v/\PlainV P e v/\cnt'<cnt/\Rng C e g s b (λy=>left y&& !decide (y=x)) cnt' M I' /\Ds C b M I' x v/\
   ∃w1:World,(w1=w\/w1=w.drew)/\(Instr.next (.pointer (some ⟨r,0,none⟩)) false ty).run P w= .ok (.tuple #[.bool true,C.val x,v]) (w1.putObj r I'):=by
 obtain⟨D,L,hrg,hmk,hL1,hL2⟩:=h.world hb hr;have hrb:=hrg.ne;have hrg0:=hrg;rcases hrg.next C.keyed ty with⟨_,hl,hrun⟩|⟨key,v,kl,y,w',cnt',hkey,hlk,hv,hat,hrun,hrg',hlt,_,_,_⟩
 ·exact .inl ⟨λx hx=>by rw[<-hL1 x hx];exact hl _,hrun⟩
 ·obtain⟨es,clock,since,seen,c0,hb',F,_,_,hr',hold,_,_,_,hsc,_⟩:=hrg0
  have hM:=Option.some.inj (hb.symm.trans hb');have hI:=Option.some.inj (hr.symm.trans hr');rcases run_next_at (P:=P) w ty r b since c0 seen es clock hr' hb' hold hsc with⟨_,hrun2⟩|⟨en,hen,w1,hal,hrun2⟩
  ·rw[hrun]at hrun2
   cases hrun2
  ·rw[hrun]at hrun2
   injection hrun2 with e1 e2
   injection e1 with e1
   simp only[Array.mk.injEq,List.cons.injEq,and_true,true_and]at e1;obtain⟨rfl,rfl⟩:=e1;obtain⟨x,hx,rfl⟩:=hL2 _ hlk;have hkx:en.key=C.val x:=C.keyed.inj hkey (C.of x hx);obtain⟨m1,m2⟩:=hmk.2.1 x hx
   have hgx:∃u,g x=some u:=by
    cases hg:g x with
    |some u=>exact⟨u,rfl⟩
    |none=>
     rw[hg]at m1;have a1:=hat .nil;have a2:=hat (.lit (.bool true));rw[atKey_of_not_has (by simpa using m1)]at a1 a2;rw[<-a1]at a2;cases a2
   obtain⟨u,hgu⟩:=hgx;obtain⟨hpl,hatu⟩:=m2 u hgu;have hy1:=hat .nil;rw[hatu]at hy1;have hvu:en.val=u:=BF (ps:=y.2) (by rw[hv,hy1]) hpl;subst hvu;subst hM;have hmem:=(mem_left hen).1;have e2':w'=w1.putObj r (.mapIter (some b) since (seen.push en.born) clock):=e2;obtain⟨M2,I2,hb2,hr2,hR2⟩:=Rng.of (left:=λy=>left y&& !decide (y=x)) hrg' hmk (λz hz=>by show(L (C.lit z)&&_)=_;rw[hL1 z hz,Gx C hx hz]) (λl hl=>hL2 l (by simp only[Bool.and_eq_true]at hl;exact hl.1));have hw1:w1.heap=w.heap:=by rcases hal with rfl|rfl<;>rfl
   have hrl:r<w1.heap.size:=by rw[hw1];exact(Array.getElem?_eq_some_iff.1 hr).1
   rw[e2',World.putObj_heap_other (Ne.symm hrb),hw1,hb]at hb2;rw[e2',World.putObj_heap_same hrl]at hr2;obtain rfl:=Option.some.inj hb2;obtain rfl:=Option.some.inj hr2;refine .inr ⟨x,en.val,_,cnt',hx,by rw[<-hL1 x hx];exact hlk,hgu,hpl,hlt,hR2,λw2 r2 hb3 hr3=>?_,w1,hal,by rw[hrun,e2',hkx]⟩;rw[<-hkx];exact run_entry_at w2 r2 b since seen es clock en hr3 hb3 hmem ((stamped_iff es clock).1 F.stamped).2.1
end
section
variable {ro:Option Nat}{P:Program}{nt:Nat}{ops:Array Oper}{Q:Exit->St->Prop}{rest:List Oper}{T:List (Nat×AV)}{S:List AA}{ty t k e:TypeId}{pos:String}{after:Array Edge}{d:Nat}{dst:Option Tmp}{c:Option (List Bool)}{x y it:Operand}{X Y Z p q u b r s cnt:Nat}{κ:Type}{C:KeyC P k κ}{g:κ->Option Value}{left:κ->Bool}{z0:Value}{M I:Obj}
abbrev exA(M:Obj):AO:=.ob λo=>o=M
abbrev lkA(X b:Nat):AO:=.tv λv z=>v= .mp X/\z= .map (some b)
theorem AOps.range(C:KeyC P k κ)[TMapK P t k e z0]{g:κ->Option Value}(hx:Rd none T x (.mp X))(hX:At S p (X,.ob (MapKF C e g s)))(hd:AD (some d) nt=true)
  (kk:∀b r M I Y Z cnt,Rng C e g s b (λx=>(g x).isSome) cnt M I->AOps ro P nt ops Q rest ⟨AE T (some d) (.prim (.pointer (some ⟨r,0,none⟩))),(Y,lkA X b)::(Z,.raw r I)::S.set p (X,exA M)⟩):
  AOps ro P nt ops Q (⟨some d,.range t x,ty,pos,after,none⟩::rest) ⟨T,S⟩:=by
 rintro m0 a w ⟨m,N,Zs,rfl,h2,h3,h4⟩;refine wpListIn_plain rfl λK hK=>B6 (β:=Nat×Nat×Obj×Obj×Nat×Nat×Nat) (C:=λz=>Rng C e g s z.1 (λx=>(g x).isSome) z.2.2.2.2.2.2 z.2.2.1 z.2.2.2.1) (sE:=λz=>⟨AE T (some d) (.prim (.pointer (some ⟨z.2.1,0,none⟩))),(z.2.2.2.2.1,lkA X z.1)::(z.2.2.2.2.2.1,.raw z.2.1 z.2.2.2.1)::S.set p (X,exA z.2.2.1)⟩) (by simp) ?_ λa' w' ⟨z,hz,hrel⟩=>hK _ _ (kk z.1 z.2.1 z.2.2.1 z.2.2.2.1 z.2.2.2.2.1 z.2.2.2.2.2.1 z.2.2.2.2.2.2 hz m0 _ _ hrel)
 have hxa:VV m (.mp X) (a.eval x) []:=h4.ev ((Evs.cons hx .nil).all (x,.mp X) (by simp));obtain⟨bs,hz⟩:=hX.z h2;obtain⟨R,hp1,hp2⟩:=Ab hz;have G:=h3.perm hp1;obtain⟨hU,L,hL,hbs,o,hb,hKo⟩:=G.obj _ (List.mem_cons_self ..);obtain⟨_,_,A,hA,hA2⟩:=hxa;simp only[List.cons.injEq,and_true]at hA;rw[hA2 L hL]at hA;obtain⟨D,hown,hC⟩:=hKo.own hb;obtain⟨es,clock,D',rfl,F,_,_,_⟩:=hKo;have ht:P.underlying t=some (.map k e):=TMapK.h (z0:=z0);obtain⟨w',hrun,hrg,_,_⟩:=hown.range C.keyed ht;have hrun2:=run_range_map m.w t k e L.blk es clock ht hb;rw[hrun]at hrun2;injection hrun2 with _ e2
 subst e2;obtain⟨M2,I2,hb2,hr2,hR2⟩:=Rng.of (left:=λx=>(g x).isSome) hrg hC (λz hz=>(hC.2.1 z hz).1) hC.2.2;have hlt:L.blk<m.w.heap.size:=(Array.getElem?_eq_some_iff.1 hb).1;rw[heap_alloc_new]at hr2;obtain rfl:=Option.some.inj hr2;rw[(MapKept.heap_alloc m.w _).2 L.blk hlt,hb]at hb2;obtain rfl:=Option.some.inj hb2;have G1:=(G.bag (z':=((X,exA (.map es clock)),bs)) (B:=[]) rfl ⟨hU,L,hL,hbs,_,hb,rfl⟩ (.refl _)).perm (hp2 _).symm;obtain⟨G2,hle2⟩:=G1.newRaw (.mapIter (some L.blk) clock #[] clock) _ rfl
 obtain⟨G3,hle3⟩:=G2.note (λv z=>v= .mp X/\z= .map (some L.blk)) (λv z h=>by
  obtain⟨rfl,rfl⟩:=h;exact⟨rfl,.inl hU,_,rfl,λL' hL'=>by rw[hL]at hL';cases hL';rfl⟩) _ rfl
 unfold Oper.wp
 have h5:(execOp a.eval ⟨some d,.range t x,ty,pos,after,none⟩).run P m.w= .ok (.value (.pointer (some ⟨m.w.heap.size,0,none⟩))) (m.w.alloc (.mapIter (some L.blk) clock #[] clock)):=by
  simp[execOp,hA,hrun,Sem.run_bind,Result.andThen_ok,Sem.run_pure]
 rw[h5];exact⟨(L.blk,m.w.heap.size,.map es clock,.mapIter (some L.blk) clock #[] clock,N+1,N,_),hR2,_,N+1+1,_,rfl,by simp only[List.map_cons,List.map_set];rw[show Zs.map (·.1)=S from h2],G3,(h4.mono (hle2.trans hle3)).put (AZ hd) (AQ _)⟩
theorem HZ{m0 m:Mem}{N:Nat}{Zs:Zs}{ex:List Nat}(h3:Good m0 m N Zs ex)(h2:Zs.map (·.1)=S)(hX:At S p (X,exA M))(hZ:At S q (Z,.raw r I))(hY:At S u (Y,lkA X b)):
  m.w.heap[b]?=some M/\m.w.heap[r]?=some I/\∃L,m.μ X=some L/\L.blk=b:=by
 obtain⟨bs,hz⟩:=hX.z h2;obtain⟨bs2,hz2⟩:=hZ.z h2;obtain⟨bs3,hz3⟩:=hY.z h2;obtain⟨hU,L,hL,_,o,hb,rfl⟩:=h3.obj _ (List.mem_of_getElem? hz);obtain⟨_,_,hr⟩:=h3.obj _ (List.mem_of_getElem? hz2);obtain⟨_,_,hv⟩:=h3.obj _ (List.mem_of_getElem? hz3);obtain⟨_,_,A,hA,hA2⟩:=hv (.mp X) (.map (some b)) ⟨rfl,rfl⟩;simp only[List.cons.injEq,and_true]at hA;rw[hA2 L hL]at hA;injection hA with hA
 injection hA with hA
 subst hA;exact⟨hb,hr,L,hL,rfl⟩
theorem AOps.next[DecidableEq κ](h:Rng C e g s b left cnt M I)(hit:Rd none T it (.prim (.pointer (some ⟨r,0,none⟩))))(hX:At S p (X,exA M))(hZ:At S q (Z,.raw r I))(hY:At S u (Y,lkA X b))(hd:AD (some d) nt=true)(hone:∀x v,g x=some v->v.oneCell'=true)
  (k0:(∀x,C.ok x->left x=false)->AOps ro P nt ops Q rest ⟨AE T (some d) (.tup [.prim (.bool false)]),S⟩)
  (k1:∀x v I' cnt',C.ok x->left x=true->g x=some v->PlainV P e v->cnt'<cnt->Rng C e g s b (λy=>left y&& !decide (y=x)) cnt' M I' ->Ds C b M I' x v->AOps ro P nt ops Q rest ⟨AE T (some d) (.tup [.prim (.bool true),C.av x,.prim v]),S.set q (Z,.raw r I')⟩):
  AOps ro P nt ops Q (⟨some d,.next it false,ty,pos,after,none⟩::rest) ⟨T,S⟩:=by
 rintro m0 a w ⟨m,N,Zs,rfl,h2,h3,h4⟩
 refine wpListIn_plain rfl λK hK=>B6 (nt:=nt) (m0:=m0) (β:=Option (κ×Value×Obj×Nat)) (C:=λz=>match z with|none=>∀x,C.ok x->left x=false|some (x,v,I',cnt')=>C.ok x/\left x=true/\g x=some v/\PlainV P e v/\cnt'<cnt/\Rng C e g s b (λy=>left y&& !decide (y=x)) cnt' M I' /\Ds C b M I' x v) (sE:=λz=>match z with|none=>⟨AE T (some d) (.tup [.prim (.bool false)]),S⟩|some (x,v,I',cnt')=>⟨AE T (some d) (.tup [.prim (.bool true),C.av x,.prim v]),S.set q (Z,.raw r I')⟩) (by simp) ?_ λa' w' ⟨z,hz,hrel⟩=>hK _ _ (by
  match z,hz,hrel with
  |none,hz,hrel=>exact k0 hz m0 _ _ hrel
  |some (x,v,I',cnt'),⟨c1,c2,c3,c4,c5,c6,c7⟩,hrel=>exact k1 x v I' cnt' c1 c2 c3 c4 c5 c6 c7 m0 _ _ hrel)
 have hita:=(h4.ev ((Evs.cons hit .nil).all (it,.prim (.pointer (some ⟨r,0,none⟩))) (by simp))).prim;obtain⟨hb,hr,_⟩:=HZ h3 h2 hX hZ hY;unfold Oper.wp;rcases h.next hb hr ty with⟨hl,hrun⟩|⟨x,v,I',cnt',c1,c2,c3,c4,c5,c6,c7,w1,hal,hrun⟩
 ·have h5:(execOp a.eval ⟨some d,.next it false,ty,pos,after,none⟩).run P m.w= .ok (.value (.tuple #[.bool false])) m.w:=by
   simp[execOp,hita,hrun,Sem.run_bind,Result.andThen_ok,Sem.run_pure]
  rw[h5];exact⟨none,hl,m,N,Zs,rfl,h2,h3,h4.put (AZ hd) ⟨_,rfl,(AK rfl).2 ⟨_,_,[],[],rfl,rfl,AQ _,⟨rfl,rfl⟩⟩⟩⟩
 ·have h5:(execOp a.eval ⟨some d,.next it false,ty,pos,after,none⟩).run P m.w= .ok (.value (.tuple #[.bool true,C.val x,v])) (w1.putObj r I'):=by
   simp[execOp,hita,hrun,Sem.run_bind,Result.andThen_ok,Sem.run_pure]
  rw[h5]
  obtain⟨m1,hm1w,G1,hle1⟩:∃m1:Mem,m1.w=w1/\Good m0 m1 N Zs []/\m.Le m1:=by
   rcases hal with rfl|rfl
   ·exact⟨m,rfl,h3,.refl m⟩
   ·exact⟨{m with w:={m.w with drawn:=m.w.drawn+1}},rfl,h3.draw _,⟨λ_ h=>h,λ_ _ _ h=>h,λ_ h=>⟨h,rfl⟩⟩⟩
  subst hm1w;obtain⟨bs2,hz2⟩:=hZ.z h2;obtain⟨R,hp1,hp2⟩:=Ab hz2;obtain⟨G2,hle2⟩:=Good.setRaw (G1.perm hp1) I' _ rfl;exact⟨some (x,v,I',cnt'),⟨c1,c2,c3,c4,c5,c6,c7⟩,_,N,Zs.set q ((Z,.raw r I'),bs2),rfl,by rw[List.map_set,show Zs.map (·.1)=S from h2],G2.perm (hp2 _).symm,(h4.mono (hle1.trans hle2)).put (AZ hd) ⟨_,rfl,(AK rfl).2 ⟨_,_,[],[],rfl,rfl,AQ _,(AK (C.nt x)).2 ⟨_,_,[],[],rfl,rfl,C.avv _ x,(AK rfl).2 ⟨_,_,[],[],rfl,rfl,AQ _ (hone x v c3),⟨rfl,rfl⟩⟩⟩⟩⟩⟩
theorem OpT.entry{x0:κ}{v:Value}(h:Ds C b M I x0 v)(hone:v.oneCell'=true):OpT P ⟨dst,.entry it,ty,pos,after,none⟩ [(it,.prim (.pointer (some ⟨r,0,none⟩)))] [(p,(X,exA M)),(q,(Z,.raw r I)),(u,(Y,lkA X b))] (.tup [C.av x0,.prim v]) []:=by
 intro nt m0 T S a w hx hS hd hr;obtain⟨m,N,Zs,rfl,h2,h3,h4⟩:=hr
 have hS':∀{i:Nat} {z:AA},(i,z)∈[(p,((X,exA M):AA)),(q,(Z,.raw r I)),(u,(Y,lkA X b))]->∃bs,Zs[i]?=some (z,bs):=λ{i z} hm=>by
  have:=hS (i,z) hm;rw[<-show Zs.map (·.1)=S from h2,List.getElem?_map,Option.map_eq_some_iff]at this;obtain⟨⟨z1,bs⟩,hz,rfl⟩:=this;exact⟨bs,hz⟩
 obtain⟨b1,hz1⟩:=hS' (i:=p) (z:=(X,exA M)) (by simp);obtain⟨b2,hz2⟩:=hS' (i:=q) (z:=(Z,.raw r I)) (by simp);obtain⟨b3,hz3⟩:=hS' (i:=u) (z:=(Y,lkA X b)) (by simp);obtain⟨hU,L,hL,_,o,hb,rfl⟩:=h3.obj _ (List.mem_of_getElem? hz1);obtain⟨_,_,hr⟩:=h3.obj _ (List.mem_of_getElem? hz2);obtain⟨_,_,hv⟩:=h3.obj _ (List.mem_of_getElem? hz3);obtain⟨_,_,A,hA,hA2⟩:=hv (.mp X) (.map (some b)) ⟨rfl,rfl⟩;simp only[List.cons.injEq,and_true]at hA;rw[hA2 L hL]at hA;injection hA with hA
 injection hA with hA
 subst hA;have hita:=(h4.ev (hx (it,.prim (.pointer (some ⟨r,0,none⟩))) (by simp))).prim;have hrun:=h m.w r hb hr;unfold Oper.wp
 have h5:(execOp a.eval ⟨dst,.entry it,ty,pos,after,none⟩).run P m.w= .ok (.value (.tuple #[C.val x0,v])) m.w:=by
  simp[execOp,hita,hrun,Sem.run_bind,Result.andThen_ok,Sem.run_pure]
 rw[h5];exact⟨m,N,Zs,rfl,h2,h3,h4.put hd ⟨_,rfl,(AK (C.nt x0)).2 ⟨_,_,[],[],rfl,rfl,C.avv _ x0,(AK rfl).2 ⟨_,_,[],[],rfl,rfl,AQ _ hone,⟨rfl,rfl⟩⟩⟩⟩⟩
theorem W.entry{x0:κ}{v:Value}(av:AV)(h:Ds C b M I x0 v)(hone:v.oneCell'=true)(hit:Rd c T it (.prim (.pointer (some ⟨r,0,none⟩))))(hX:At S p (X,exA M))(hZ:At S q (Z,.raw r I))(hY:At S u (Y,lkA X b))(hav:av=C.av x0:=by rfl):
  Stp c P ⟨dst,.entry it,ty,pos,after,none⟩ T S [(it,.prim (.pointer (some ⟨r,0,none⟩)))] [(p,(X,exA M)),(q,(Z,.raw r I)),(u,(Y,lkA X b))] (.tup [av,.prim v]) []:=
 hav▸⟨.entry h hone,.cons hit .nil,.cons hX (.cons hZ (.cons hY .nil))⟩
end
end
end Go.Proofs.Ytaodhkbppgenbaa
