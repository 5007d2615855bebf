/-
  Part 3 of the texts under the law WorldOwn: the layer of abstract values, walks and plain laws. Conditions: those that each theorem names.
-/
import Derived.Laws.StructEq
import Derived.Maps.OwnSet
import Derived.Lib.Overlaps
import Derived.Laws.BytesString
import Derived.Laws.BitsAllLaws
import Derived.LaidEqlPtr
import Derived.Test.YtmkahplhnbbgmaaGreatWorldOwnP2
namespace Go.Proofs.YtmkahplhnbbgmaaGreat
set_option linter.unusedVariables false
set_option linter.unusedSimpArgs false
set_option linter.defProp false
set_option maxRecDepth 10000
set_option maxHeartbeats 4000000
variable {k:IntKind}
variable {bs:List Nat}
variable {zl:List Value}
variable {st:St}
variable {β:Type}
variable {P:Program}
variable {f:FuncId}
variable {args:List AV}
variable {t:TypeId}
variable {l:List AV}
variable {n:Nat}
variable {t2:TypeId}
variable {v:Value}
variable {xs:Array Value}
variable {g:Int->Option Value}
variable {w:World}
variable {x0:Operand}
variable {u0:Value}
variable {Q:AV->List AK->Prop}
variable {S:List AK}
variable {t':TypeId}
variable {x1:Operand}
variable {v0:AV}
section
variable {ro:Option Nat}
open Go.RowKit
section
variable {P:Program}{m0 m:Mem}{N:Nat}{R:Zs}{ex:List Nat}{X sz:Nat}{l:List AV}{t t' te ty:TypeId}{x y:Operand}{pos:String}{after:Array Edge}{g:Option (Nat×Bool)}{dst:Option Tmp}{p:Nat}
theorem OpT.slice_lo{off n lo:Nat}{qi:Int}(he:Dn P t=some te)(hsz:tSz P te=some sz)(hq:qi=(lo:Int))(hh:lo<=n):OpT P ⟨dst,.slice t x (some y) none none,ty,pos,after,g⟩ [(x,.sl X off n),(y,.prim (.int k qi))] [(p,(X,.row t' sz l))] (.sl X (off+lo) (n-lo)) []:=
 .pure_ λm a hx hS=>by
  obtain⟨bs,hU,L,h1,h2,_⟩:=hS (p,(X,.row t' sz l)) (by simp);obtain⟨_,hU',A,c,e1,h3⟩:=hx (x,.sl X off n) (by simp);have hy:=(hx (y,.prim (.int k qi)) (by simp)).prim;injection e1 with e1
  simp only at e1 hy;subst hq
  have hcap:n<=c:=by
   rcases h3 L h1 with⟨_,e,_,e'⟩|⟨_,h4,o,e,_⟩
   ·omega
   ·injection e with _ _ e;omega
  have hr:=Ez (P:=P) (w:=m.w) he hsz (A:=A) (len:=n) (cap:=c) (lo:=lo) (hi:=n) (vl:=some (.int k lo)) (vh:=none) (λu hu=>⟨k,by injection hu with hu;exact hu.symm⟩) (by simp) (by simp) (by simp) hh hcap;refine⟨_,by simp only[execOp,Er,Au,e1,hy,AI,hr,AA];rfl,rfl,hU',_,_,rfl,λL' hL'=>?_⟩;rw[h1]at hL';injection hL' with hL';subst hL'
  rcases h3 L h1 with⟨h5,e,e2,e3⟩|⟨h5,h4,o,e,h6⟩
  ·injection e with e4 e5 e6
   subst e4 e6;have:lo=0:=by omega
   subst this;exact .inl ⟨h5,by simp[e3],by omega,by omega⟩
  ·injection e with e4 e5 e6
   subst e4 e6;simp only[Au];by_cases hc:lo<L.cap-off
   ·refine .inr ⟨h5,by omega,o+lo*sz,?_,λ_=>?_⟩
    ·rw[Ah (by omega),FM]
     congr 1
     omega
    ·rw[h6 (.inl (by omega)),h2,CW]
   ·have hlo:lo=L.cap-off:=by omega
    refine .inr ⟨h5,by omega,o,by rw[A1 hlo.symm];congr 1;omega,λh=>?_⟩;rcases h with h|h
    ·omega
    ·have h0:off=0:=by omega
     rw[h6 (.inr h0),h0,show lo=0 by omega]
theorem Good.splice(G:Good m0 m N (((X,.row t sz l),bs)::R) ex){L:Loc}{arr:Array Value}{bs0:List Nat}(hL:m.μ X=some L)(hnil:L.isNil=false)(hbs:bs=L.blk::bs0)(hb:m.w.heap[L.blk]?=some (.cells arr t (0,0)))(harr:arr.size=L.cap*sz)(hl:l.length<=L.cap)(hcap:L.cap<=maxLen)(hsz:L.sz=sz)(hw:∀e∈l,e.width=sz)
  (hv:VCs m l (arr.toList.take (l.length*sz)) bs0) {off:Nat} {ns:List AV} {cs:List Value} (hoff:off+ns.length<=l.length) (hnw:∀e∈ns,e.width=sz) (hn:VCs m ns cs []):
  ∃b1,Good m0 {m with w:=m.w.setRow L.blk (arr.toList.take (off*sz)++cs++arr.toList.drop (off*sz+cs.length)).toArray} N (((X,.row t sz (l.take off++ns++l.drop (off+ns.length))),L.blk::b1)::R) ex/\m.Le {m with w:=m.w.setRow L.blk (arr.toList.take (off*sz)++cs++arr.toList.drop (off*sz+cs.length)).toArray}:=by
 have hcs:cs.length=ns.length*sz:=by rw[VCs.len _ hn,C6 hnw]
 obtain⟨p1,p2,e1,h1,h2⟩:=VCs.take hw hv (k:=off) (by omega);obtain⟨p3,p4,e2,h3,h4⟩:=VCs.take (l:=l.drop off) (λe he=>hw e (Ae he)) h2 (k:=ns.length) (by rw[Bb];omega);rw[Dr]at h4;have hlen:(l.take off++ns++l.drop (off+ns.length)).length=l.length:=by simp only[Ax,BA,Bb];omega
 have hsz0:l.length*sz<=arr.toList.length:=by rw[show arr.toList.length=arr.size from CJ,harr];exact Az _ hl
 have hle1:off*sz+ns.length*sz<=l.length*sz:=by rw[<-CW];exact Az _ hoff
 have nd:(p1++p4).Nodup:=by
  have hown:=G.own;rw[CF,hbs,e1,e2]at hown
  have h5:(L.blk::(p1++(p3++p4))).Nodup:=by
   rw[BC]at hown;exact(AL.1 hown).1
  have h6:=(Bs.1 h5).2;obtain⟨h7,h8,h9⟩:=AL.1 h6;obtain⟨_,h10,_⟩:=AL.1 h8;exact AL.2 ⟨h7,h10,λa ha b hb=>h9 a ha b (by simp[hb])⟩
 refine⟨p1++p4,Ia G hL hnil hbs hb (l':=l.take off++ns++l.drop (off+ns.length)) (bs1:=p1++p4) ?_ (by rw[hlen];exact hl) hcap hsz ?_ ?_ ?_ nd _ rfl⟩
 ·simp only[I9,Ax,BA,Bb,CJ,harr]at hsz0⊢
  omega
 ·intro e he
  rcases AN.1 he with he|he
  ·rcases AN.1 he with he|he
   ·exact hw e (Ad he)
   ·exact hnw e he
  ·exact hw e (Ae he)
 ·rw[hlen]
  have e3:(arr.toList.take (off*sz)++cs++arr.toList.drop (off*sz+cs.length)).take (l.length*sz)=(arr.toList.take (l.length*sz)).take (off*sz)++cs++((arr.toList.take (l.length*sz)).drop (off*sz)).drop (ns.length*sz):=by
   rw[List.take_append,Al (by simp only[Ax,BA];omega)]
   congr 1
   ·rw[Cj,BJ (by omega)]
   ·rw[Dr,hcs,Ee]
    congr 1
    simp only[Ax,BA];omega
  rw[e3];have:=(h1.append hn).append h4;simpa using this
 ·intro b hb
  rw[e1,e2];rcases AN.1 hb with h|h<;>simp[h]
theorem OpT.clear{off n:Nat}{ag:Bool}(he:Dn P t=some te)(hz:tZ P te=some zl)(hsz:tSz P te=some sz)(hag:ag=true\/zl.length=1)(hzs:zl.length=sz)(hn:off+n<=l.length):
  OpT P ⟨dst,.call ⟨.builtin .clear,#[x],#[t]⟩,ty,pos,after,g⟩ [(x,.sl X off n)] [(p,(X,.row te sz l))] (.tup []) [(p,(X,.row te sz (l.take off++List.replicate n (zAV zl ag)++l.drop (off+n))))]:=by
 intro nt m0 T S a w hx hS hd hr;obtain⟨i,zv,hi,hzv,hzl,ho⟩:=Ih hz;obtain⟨m,N,Z,rfl,h2,h3,h4⟩:=hr;have h2':Z.map (·.1)=S:=h2;have hxa:VV m (.sl X off n) (a.eval x) []:=h4.ev (hx (x,.sl X off n) (by simp));have hSp:=hS (p,(X,.row te sz l)) (by simp);rw[<-h2',Am]at hSp;cases hz':Z[p]? with
 |none=>rw[hz']at hSp;cases hSp
 |some z=>
  rw[hz']at hSp;simp only[Au,AU]at hSp;obtain⟨z1,bs⟩:=z;simp only at hSp;subst hSp;obtain⟨R,hp1,hp2⟩:=DC hz';have G:=h3.perm hp1;have hO:=G.obj _ (A4 ..);obtain⟨hU,L,hL,hLs,hO⟩:=hO;obtain⟨_,hU',A,q,e1,hs⟩:=hxa;injection e1 with e1
  have hexec:∀w,(execOp a.eval ⟨dst,.call ⟨.builtin .clear,#[x],#[t]⟩,ty,pos,after,g⟩).run P w=((Builtin.clear_ #[t] ty #[a.eval x]:Sem Value)>>=λv=>pure (.value v)).run P w:=λw=>by rw[CK];simp[builtin,AI]
  have htup:VV m (.tup []) (.tuple #[]) []:=⟨#[],rfl,rfl,rfl⟩;by_cases hn0:n=0
  ·subst hn0
   have hnoop:(Builtin.clear_ #[t] ty #[a.eval x]).run P m.w= .ok (.tuple #[]) m.w:=by
    rw[e1];cases A<;>simp[Builtin.clear_,A7 (CB he)]
   unfold Oper.wp;rw[hexec,AI,hnoop];simp only[List.replicate_zero,BL,Dp,Bi];refine⟨m,N,Z,rfl,?_,h3,h4.put hd htup⟩
   have:S.set p (X,.row te sz l)=S:=by
    have:=hS (p,(X,.row te sz l)) (by simp);obtain⟨h5,h6⟩:=AC.1 this;have h7:=Gc h5;rw[h6]at h7;exact h7
   show Z.map (·.1)=A5 S [(p,(X,.row te sz l))]
   rw[A5,A5,this,h2']
  ·rcases hO with⟨_,rfl,_⟩|⟨hnil,arr,bs0,rfl,hb,harr,hlc,hcap,hw,hv⟩
   ·simp at hn;omega
   ·rcases hs L hL with⟨h5,_⟩|⟨_,h5,o,h6,h7⟩
    ·rw[hnil]at h5;cases h5
    ·have ho':=h7 (.inl (by omega))
     have hzw:(zAV zl ag).width=sz:=by rw[<-VC.len _ (IB m ho hag),hzs]
     obtain⟨b1,G',hle⟩:=G.splice hL hnil rfl hb harr hlc hcap hLs hw hv (off:=off) (ns:=List.replicate n (zAV zl ag)) (cs:=(List.replicate n zl).flatten) (by simpa using hn) (λe he=>by rw[Cg he,hzw]) (FA m (IB m ho hag) n)
     have hcl:(Builtin.zeroCells zv.cells n).toList=(List.replicate n zl).flatten:=by
      rw[Builtin.zeroCells,Hg,hzl]
     have hfl:((List.replicate n zl).flatten).length=n*sz:=by simp[hzs]
     have hst:=J5 P L.blk o te (List.replicate n zl).flatten 0 arr m.w hb (by
      rw[hfl,harr,ho',hLs,Dp,<-CW];exact Az _ (by omega)) (λu hu=>by
      obtain⟨l',hl',hu'⟩:=List.mem_flatten.1 hu;rw[Cg hl']at hu';exact ho u hu')
     simp only[Dp]at hst;have hzero:∀w,(zeroValue te).run P w= .ok zv w:=λw=>by simp[zeroValue,typeInfo,Sem.run,program,hi,hzv]
     have hrun:(Builtin.clear_ #[t] ty #[a.eval x]).run P m.w= .ok (.tuple #[]) (m.w.setRow L.blk (arr.toList.take o++(List.replicate n zl).flatten++arr.toList.drop (o+(List.replicate n zl).flatten.length)).toArray):=by
      rw[e1,h6];obtain⟨n',rfl⟩:∃n',n=n'+1:=⟨n-1,by omega⟩;simp[Builtin.clear_,A7 (CB he),hzero,hcl,hst]
     unfold Oper.wp;rw[hexec,AI,hrun,ho',hLs];rw[Ci]at G';refine⟨_,N,Z.set p ((X,.row te sz (l.take off++List.replicate n (zAV zl ag)++l.drop (off+n))),L.blk::b1),rfl,?_,G'.perm (hp2 _).symm,(h4.mono hle).put hd (VV.mono hle (by simp) htup)⟩;rw[A8,h2'];rfl
theorem KG(m:Mem):m.Le {m with w:=m.w.drew}:=⟨λ_ h=>h,λ_ _ _ h=>h,λ_ h=>⟨h,rfl⟩⟩
theorem Good.drew{Z:Zs}(G:Good m0 m N Z ex):Good m0 {m with w:=m.w.drew} N Z ex:=
 ⟨λz hz=>ORel.mono (KG m) (λhg hu=>by have:=G.obj z hz;rw[hg]at this;exact this.2 hu) (λL h=>h) (λ_ _=>rfl) (G.obj z hz),G.own,G.blk,G.frz,G.keys,G.keyN,G.usedN,G.le.trans (KG m),G.os,G.tape,G.output,G.size⟩
theorem L7{tx:TypeId}{kk:IntKind}{i:TypeInfo}{z:Value}(w:World)(ht:P.underlying t=some (.slice te))(hk:P.underlying tx=some (.int kk))(hi:P.info? te=some i)(hz:i.zero=some z)(hzs:z.cells.size=i.size)(base:Option Addr)(sLen sCap:Nat)(olds:List Value)
  (hold:(Builtin.firstCells i.size sLen (.slice base sLen sCap)).run P w.drew= .ok olds.toArray w.drew) (k2:IntKind) (n:Nat) (hn63:(n:Int)<=9223372036854775807) (hb:n*i.bytes<=281474976710656) (hn:n*i.size≠0)
  (hg:sCap<sLen+n) (h63:((sLen+n:Nat):Int)<=9223372036854775807) (hfit:Builtin.nextslicecap (sLen+n) sCap*i.bytes<=281474976710656):
  (Builtin.append_ #[t,tx] ty #[.slice base sLen sCap,.int k2 (n:Int)]).run P w=
   .ok (.slice (some ⟨w.heap.size,0,none⟩) (sLen+n) (grownCap w (sLen+n) sCap te))
    (w.drew.alloc (.cells ((olds.toArray++Builtin.zeroCells z.cells n)++Builtin.zeroCells z.cells (grownCap w (sLen+n) sCap te-(sLen+n))) te)):=by
 have hng:¬(sLen+n<=sCap):=by omega
 have h63':¬(9223372036854775807<((sLen:Int)+(n:Int))):=by omega
 have h48':¬(281474976710656<Builtin.nextslicecap (sLen+n) sCap*i.bytes):=by omega
 have hw:IntKind.i64.wrap (n:Int)=n:=E9 (by omega) hn63;have h0:¬((n:Int)<0):=by omega
 have hbi:¬(281474976710656<(n:Int)*(i.bytes:Int)):=by
  have:((n*i.bytes:Nat):Int)<=281474976710656:=by omega
  rw[Ti]at this;omega
 have hn':¬(n=0\/i.size=0):=by simpa[Nat.mul_eq_zero]using hn
 simp[Builtin.append_,A7 ht,A7 hk,sizeOf,typeInfo,zeroValue,hi,hz,asInt,asIntOf,hw,h0,hbi,hng,h63',h48',Question.forced,hold,newRow,grownCap,hn'];exact λh=>absurd h hn
def Tq(P:Program)(t:TypeId):Bool:=match P.underlying t with
 |some (.int _)=>true
 |_=>false
theorem Qx{t:TypeId}(h:Tq P t=true):∃k,P.underlying t=some (.int k):=by
 unfold Tq at h;split at h
 ·rename_i k hk;exact⟨k,hk⟩
 ·cases h
theorem Good.less{o o':AO}{bs bs':List Nat}(G:Good m0 m N (((X,o),bs)::R) ex)(h:ORel m X o' bs')(hs:bs'.Sublist bs):Good m0 m N (((X,o'),bs')::R) ex:=by
 have hso:(Zs.own (((X,o'),bs')::R)++ex).Sublist (Zs.own (((X,o),bs)::R)++ex):=by
  simp only[CF];exact(hs.append (.refl _)).append (.refl _)
 refine⟨λz hz=>?_,G.own.sublist hso,λb hb=>G.blk b (hso.subset hb),G.frz,G.keys,G.keyN,G.usedN,G.le,G.os,G.tape,G.output,G.size⟩;rcases AW.1 hz with rfl|hz
 ·exact h
 ·exact G.obj z (G8 _ hz)
theorem St.shrink{nt:Nat}(n:Nat)(hS:At st.S p (X,.row t sz l)):Fu nt st λst'=>st'=⟨st.T,st.S.set p (X,.row t sz (l.take n))⟩:=by
 rintro m0 a w ⟨m,N,Z,rfl,h2,h3,h4⟩;obtain⟨bs,hz⟩:=hS.z h2;obtain⟨R,hp1,hp2⟩:=DC hz;have G:=h3.perm hp1;have hO:ORel m X (.row t sz l) bs:=G.obj _ (A4 ..);obtain⟨hU,L,hL,hLs,hO⟩:=hO
 obtain⟨bs',hs,ho⟩:∃bs',bs'.Sublist bs/\ORel m X (.row t sz (l.take n)) bs':=by
  rcases hO with⟨h1,rfl,rfl⟩|⟨h1,arr,b0,rfl,e1,e2,e3,e4,e5,e6⟩
  ·exact⟨[],.refl _,hU,L,hL,hLs,.inl ⟨h1,by simp,rfl⟩⟩
  ·obtain⟨p1,p2,e7,k1,k2⟩:=VCs.take e5 e6 (k:=min n l.length) (Nat.min_le_right _ _)
   have e8:l.take (min n l.length)=l.take n:=by rw[List.take_eq_take_iff];omega
   rw[e8]at k1;refine⟨L.blk::p1,by rw[e7];exact .cons_cons _ (List.sublist_append_left _ _),hU,L,hL,hLs,.inr ⟨h1,arr,p1,rfl,e1,e2,CT (by rw[BA];exact Nat.min_le_right _ _) e3,e4,λe he=>e5 e (Ad he),?_⟩⟩;rw[Cj,BJ (Az _ (Nat.min_le_right _ _))]at k1;rw[BA];exact k1
 exact⟨⟨st.T,st.S.set p (X,.row t sz (l.take n))⟩,⟨m,N,Z.set p ((X,.row t sz (l.take n)),bs'),rfl,by rw[A8,h2],(G.less ho hs).perm (hp2 _).symm,h4⟩,rfl⟩
end
section
variable {P:Program}{nt:Nat}{c:Code}{ops:Array Oper}{rest:List Oper}{Q:Exit->St->Prop}{T:List (Nat×AV)}{S:List AK}{p n X sz off by_:Nat}{t te tx ty:TypeId}{l:List AV}{x y:Operand}{dst:Option Tmp}{pos:String}{after:Array Edge}{k:IntKind}{q:Int}{t':TypeId}
theorem Gt(n:Nat)(kk:AWP ro P nt c Q ⟨T,S.set p (X,.row t sz (l.take n))⟩)(hS:At S p (X,.row t sz l):=by exact AY):AWP ro P nt c Q ⟨T,S⟩:=.ghost (St.shrink (st:=⟨T,S⟩) n hS) λst' e=>by subst e;exact kk
theorem W.slice_lo{c:Option (List Bool)}{g:Option (Nat×Bool)}{lo:Nat}{qi:Int}[TEl P t te][TSize P te sz](hx:Rd c T x (.sl X off n))(hy:Rd c T y (.prim (.int k qi)))(hSp:At S p (X,.row t' sz l))(hq:qi=(lo:Int))(hh:lo<=n):Stp c P ⟨dst,.slice t x (some y) none none,ty,pos,after,g⟩ T S [(x,.sl X off n),(y,.prim (.int k qi))] [(p,(X,.row t' sz l))] (.sl X (off+lo) (n-lo)) []:=⟨.slice_lo TEl.h TSize.h hq hh,.cons hx (.cons hy .nil),.cons hSp .nil⟩
theorem W.clear{c:Option (List Bool)}{g:Option (Nat×Bool)}{ag:Bool}[TEl P t te][TZe P te zl][TSize P te sz][TAg P te ag](hx:Rd c T x (.sl X off n))(hSp:At S p (X,.row te sz l))(hag:ag=true\/zl.length=1)(hzs:zl.length=sz)(hn:off+n<=l.length):Stp c P ⟨dst,.call ⟨.builtin .clear,#[x],#[t]⟩,ty,pos,after,g⟩ T S [(x,.sl X off n)] [(p,(X,.row te sz l))] (.tup []) [(p,(X,.row te sz (l.take off++List.replicate n (zAV zl ag)++l.drop (off+n))))]:=⟨.clear TEl.h TZe.h TSize.h hag hzs hn,.cons hx .nil,.cons hSp .nil⟩
end
end
section
variable {ro:Option Nat}
section
variable {P:Program}{nt:Nat}{c d:Code}{Q:Exit->St->Prop}{T:List (Nat×AV)}{S:List AK}{p q n X Y sz sz2:Nat}{t t2:TypeId}{l l2 l2':List AV}{st:St}
end
theorem jn{R:β->Prop}{inv:β->St}(b:β)(hR:R b)(h0:st.Le (inv b):=by exact⟨by exact EL,by exact Av⟩):Exit.normal=Exit.normal/\∃b,R b/\st.Le (inv b):=⟨rfl,b,hR,h0⟩
theorem Ch{nt:Nat}{c d:Code}{Q Q2:Exit->St->Prop}(R:β->Prop)(inv:β->St)(h1:AWP ro P nt c (λe st'=>e= .normal/\∃b,R b/\st'.Le (inv b)) st)(h2:∀b,R b->AWP ro P nt d Q (inv b)):AWP ro P nt c (andThen (AWP ro P nt d Q) Q2) st:=
 h1.mono λe st' ⟨he,b,hb,hle⟩=>by subst he;exact AWP.weak hle (h2 b hb)
theorem Spec.used{X:Nat}{sz:Nat}{r:AV}(h:Spec P f args [(X,.row t sz l)] λr' S'=>r'=r/\S'=[]):Spec P f args [(X,.row t sz l)] λr' S'=>r'=r/\S'=[(X,.used)]:=
 ⟨h.fn,λSf m N Z vals h1 h2 h3=>(h.run Sf m N Z vals h1 h2 h3).mono λe w' ⟨v,r',S',m',N',Z',br,a,b,hm,G,e',hr,hS⟩=>by
  subst hS;simp only[DX]at hm;cases Z with
  |nil=>simp at h1
  |cons z Zr=>
   simp only[AR,EX,DX,CP]at h1;obtain⟨hz,hzr⟩:=h1;have hO:=h2.obj z (by simp);rw[hz]at hO;have hU:m'.U X:=G.le.U X hO.1;have hk:∀Z1:Zs,Z1.keys=(Z1.map (·.1)).map (·.1):=λZ1=>by simp[Zs.keys]
   have hnk:X∉Z'.keys:=by
    have:=h2.keys;rw[Zs.keys,AR,Bs]at this;rw[hk,hm,<-hzr,<-hk];have h0:=this.1;rw[hz]at h0;exact h0
   refine⟨v,r',[(X,.used)],m',N',((X,.used),[])::Z',br,a,b,by simp[hm],?_,e',hr,rfl⟩;refine⟨λq hq=>?_,by simpa[Zs.own]using G.own,by simpa[Zs.own]using G.blk,G.frz,Bs.2 ⟨hnk,G.keys⟩,λx hx=>?_,G.usedN,G.le,G.os,G.tape,G.output,G.size⟩
   ·rcases AW.1 hq with rfl|hq
    ·exact⟨rfl,hU⟩
    ·exact G.obj q hq
   ·rcases AW.1 hx with rfl|hx
    ·exact G.usedN _ hU
    ·exact G.keyN x hx⟩
end
section
variable {ro:Option Nat}
theorem Hos.at{a b x y:AV}:{L:List AV}->{k:Nat}->L[k]?=some x->Ho a b x y->Hos a b L (L.set k y)
 |[],k,h,_=>by simp at h
 |z::L,0,h,hh=>by
  have:z=x:=by simpa using h
  subst this;exact .head hh
 |z::L,k+1,h,hh=>.tail (Hos.at (L:=L) (by simpa using h) hh)
section
variable {P:Program}{nt:Nat}{c:Code}{ops:Array Oper}{rest:List Oper}{Q:Exit->St->Prop}{T:List (Nat×AV)}{S:List AK}{p q n X Y sz sz2:Nat}{t t2:TypeId}{l l2 l2':List AV}{st:St}
end
section
variable {P:Program}{dst:Option Tmp}{ty t ty2:TypeId}{pos:String}{after:Array Edge}{g:Option (Nat×Bool)}{T:List (Nat×AV)}{S:List AK}{c:Option (List Bool)}{x y:Operand}{i j:Int}
theorem BS(k:Int)(h:i-j=k)(hr: -9223372036854775808<=k/\k<=9223372036854775807)(hx:Rd c T x (.prim (.int .i64 i)))(hy:Rd c T y (.prim (.int .i64 j))):Stp c P ⟨dst,.binOp .sub t x y ty2,ty,pos,after,g⟩ T S [(x,.prim (.int .i64 i)),(y,.prim (.int .i64 j))] [] (.prim (.int .i64 k)) []:=h▸W.sub hx hy (h▸hr)
theorem Bh(k:Int)(h:i+j=k)(hr: -9223372036854775808<=k/\k<=9223372036854775807)(hx:Rd c T x (.prim (.int .i64 i)))(hy:Rd c T y (.prim (.int .i64 j))):Stp c P ⟨dst,.binOp .add t x y ty2,ty,pos,after,g⟩ T S [(x,.prim (.int .i64 i)),(y,.prim (.int .i64 j))] [] (.prim (.int .i64 k)) []:=h▸W.add hx hy (h▸hr)
end
section
variable {P:Program}{dst:Option Tmp}{ty t ty2:TypeId}{pos:String}{after:Array Edge}{g:Option (Nat×Bool)}{T:List (Nat×AV)}{S:List AK}{c:Option (List Bool)}{x y:Operand}{a b:Bool}
end
end
section
section
variable {P:Program}{nt:Nat}{ops:Array Oper}{Q:Exit->St->Prop}{rest:List Oper}{T:List (Nat×AV)}{S:List AK}{op:Op}{ty:TypeId}{pos:String}{after:Array Edge}{dst:Option Tmp}{l:List Oper}{acc:List Eff}
abbrev noA:AV:=.opt false (.prim (.bool false))
theorem GW{g:Nat}{b b':Bool}{t:Nat}(k:RGo P nt ops l Q rest (acc++[⟨⟨dst,op,ty,pos,after,some (g,b)⟩,[t],[],noA,[]⟩]) ⟨A6 T dst noA,S⟩)(ht:(ops[g]?).bind (·.dst)=some t:=by rfl)(hv:BR T t=some (.prim (.bool b')):=by rfl)(hb:b'= !b:=by first|rfl|assumption|(simp only[HB,ED];assumption))(hd:Ao dst nt=true:=by rfl):RGo P nt ops l Q (⟨dst,op,ty,pos,after,some (g,b)⟩::rest) acc ⟨T,S⟩:=by
 have e:(b'==b)=false:=by rw[hb];cases b<;>rfl
 refine ES (λr=>?_) k;have:=Run.stepQ (P:=P) (nt:=nt) (ops:=ops) (o:=⟨dst,op,ty,pos,after,some (g,b)⟩) (st:=⟨T,S⟩) (xs:=[]) (rS:=[]) (v:=.prim (.bool false)) (cs:=[]) rfl ht hv rfl (λh=>absurd (h (b'==b) (by simp)) (by rw[e];simp)) .nil .nil hd rfl (by rw[e];exact r);rw[e]at this;exact this
theorem GV{g:Nat}{b b':Bool}{t:Nat}(k:RGo P nt ops l Q rest (acc++[⟨⟨dst,op,ty,pos,after,some (g,b)⟩,[t],[],.opt false (.opt (b'==b) (.prim (.bool false))),[]⟩]) ⟨A6 T dst (.opt false (.opt (b'==b) (.prim (.bool false)))),S⟩)(ht:(ops[g]?).bind (·.dst)=some t:=by rfl)(hv:BR T t=some (.opt false (.prim (.bool b'))):=by rfl)(hd:Ao dst nt=true:=by rfl):RGo P nt ops l Q (⟨dst,op,ty,pos,after,some (g,b)⟩::rest) acc ⟨T,S⟩:=by
 refine ES (λr=>?_) k;exact Run.stepQ (P:=P) (nt:=nt) (ops:=ops) (o:=⟨dst,op,ty,pos,after,some (g,b)⟩) (st:=⟨T,S⟩) (xs:=[]) (rS:=[]) (v:=.prim (.bool false)) (cs:=[false]) rfl ht hv rfl (λh=>absurd (h false (by simp)) (by simp)) .nil .nil hd rfl r
end
end
section
section
variable {P:Program}{dst:Option Tmp}{ty t ty2:TypeId}{pos:String}{after:Array Edge}{g:Option (Nat×Bool)}{T:List (Nat×AV)}{S:List AK}{c:Option (List Bool)}{x y:Operand}
theorem OpT.shr{k k':IntKind}{i j:Int}(hj:j=(n:Int))(hn:n<=k.bits):OpT P ⟨dst,.binOp .shr t x y ty2,ty,pos,after,g⟩ [(x,.prim (.int k i)),(y,.prim (.int k' j))] [] (.prim (.int k (i.fdiv (2^n)))) []:=
 Cx rfl (λw=>by
  subst hj;have h:¬((n:Int)<0):=by omega
  simp[binOp,Op.shift,h,AG,BJ hn]) (.inl ⟨by simp,by simp⟩)
theorem OpT.conv{k k' k0:IntKind}{i:Int}(h1:P.underlying t=some (.int k0))(h2:P.underlying t2=some (.int k'))(hw:k'.wrap i=i):OpT P ⟨dst,.convert t t2 x,ty,pos,after,g⟩ [(x,.prim (.int k i))] [] (.prim (.int k' i)) []:=
 .pure_ λm a hx _=>by
  have e1:=(hx (x,.prim (.int k i)) (by simp)).prim;refine⟨.int k' i,?_,Cc _ rfl⟩;simp only at e1;simp[execOp,e1,convert,A7 h1,A7 h2,Conv.intToInt,hw,AI,AG,AA]
end
end
section
section
variable {P:Program}{dst:Option Tmp}{ty t ty2:TypeId}{pos:String}{after:Array Edge}{g:Option (Nat×Bool)}{T:List (Nat×AV)}{S:List AK}{c:Option (List Bool)}{x y:Operand}
theorem VCs.prims{m:Mem}:{us:List Value}->{c:List Value}->{bs:List Nat}->VCs m (us.map .prim) c bs->c=us/\bs=[]
 |[],_,_,⟨h,k⟩=>⟨h,k⟩
 |u::us,_,_,⟨c1,c2,b1,b2,e1,e2,⟨⟨h1,_⟩,h2⟩,h3⟩=>by
  obtain⟨r1,r2⟩:=VCs.prims h3;rw[e1,e2,h1,h2,r1,r2];exact⟨rfl,rfl⟩
theorem VV.aggP{m:Mem}{us:List Value}(hl:l=us.map .prim)(h:VV m (.agg l) v []):v= .agg us.toArray:=by
 subst hl;obtain⟨cells,e,h⟩:=(show∃cells,v= .agg cells/\VCs m (us.map .prim) cells.toList []from h);rw[e]
 congr 1
 exact Array.toList_inj.1 (by simpa using h.prims.1)
theorem OpT.eqP{us vs:List Value}{l1 l2:List AV}{r:Bool}(h1:l1=us.map .prim)(h2:l2=vs.map .prim)(hg:P.eqGuardType P.depth t=false)(h:∀w,(binOp .eql t (.agg us.toArray) (.agg vs.toArray)).run P w= .ok (.bool r) w):OpT P ⟨dst,.binOp .eql t x y ty2,ty,pos,after,g⟩ [(x,.agg l1),(y,.agg l2)] [] (.prim (.bool r)) []:=
 .pure_ λm a hx _=>by
  have h1:=(hx (x,.agg l1) (by simp)).aggP h1;have h2:=(hx (y,.agg l2) (by simp)).aggP h2;refine⟨.bool r,?_,Cc _ rfl⟩;simp only at h1 h2;simp[execOp,h1,h2,AI,AA,run_eqGuard_agg _ _ _ _ _ _ _ hg,h]
theorem OpT.neP{us vs:List Value}{l1 l2:List AV}{r:Bool}(h1:l1=us.map .prim)(h2:l2=vs.map .prim)(hg:P.eqGuardType P.depth t=false)(h:∀w,(binOp .neq t (.agg us.toArray) (.agg vs.toArray)).run P w= .ok (.bool r) w):OpT P ⟨dst,.binOp .neq t x y ty2,ty,pos,after,g⟩ [(x,.agg l1),(y,.agg l2)] [] (.prim (.bool r)) []:=
 .pure_ λm a hx _=>by
  have h1:=(hx (x,.agg l1) (by simp)).aggP h1;have h2:=(hx (y,.agg l2) (by simp)).aggP h2;refine⟨.bool r,?_,Cc _ rfl⟩;simp only at h1 h2;simp[execOp,h1,h2,AI,AA,run_eqGuard_agg _ _ _ _ _ _ _ hg,h]
theorem W.eqP(us vs:List Value){l1 l2:List AV}{r:Bool}(hg:P.eqGuardType P.depth t=false)(h:∀w,(binOp .eql t (.agg us.toArray) (.agg vs.toArray)).run P w= .ok (.bool r) w)(hx:Rd c T x (.agg l1))(hy:Rd c T y (.agg l2))(h1:l1=us.map .prim:=by rfl)(h2:l2=vs.map .prim:=by rfl):
  Stp c P ⟨dst,.binOp .eql t x y ty2,ty,pos,after,g⟩ T S [(x,.agg l1),(y,.agg l2)] [] (.prim (.bool r)) []:=⟨.eqP h1 h2 hg h,.cons hx (.cons hy .nil),.nil⟩
theorem W.neP(us vs:List Value){l1 l2:List AV}{r:Bool}(hg:P.eqGuardType P.depth t=false)(h:∀w,(binOp .neq t (.agg us.toArray) (.agg vs.toArray)).run P w= .ok (.bool r) w)(hx:Rd c T x (.agg l1))(hy:Rd c T y (.agg l2))(h1:l1=us.map .prim:=by rfl)(h2:l2=vs.map .prim:=by rfl):
  Stp c P ⟨dst,.binOp .neq t x y ty2,ty,pos,after,g⟩ T S [(x,.agg l1),(y,.agg l2)] [] (.prim (.bool r)) []:=⟨.neP h1 h2 hg h,.cons hx (.cons hy .nil),.nil⟩
end
def V0(P:Program)(t:TypeId):Bool:=match(P.fieldsOf t).toList with
 |[f1,f2,f3]=>f1.name != "_" &&f2.name != "_" &&f3.name != "_" &&f1.offset==0&&f2.offset==1&&f3.offset==2&&(match P.underlying f1.type,P.underlying f2.type,P.underlying f3.type with|some .string,some (.int _),some (.int _)=>true|_,_,_=>false)
 |_=>false
theorem Kk{off:Nat}(ht:P.underlying t=some (.int k))(hx:xs[off]?=some v)(w:World):(part t xs off).run P w= .ok v w:=by
 simp[part,isAgg,A7 ht,hx,AI,AG,AA]
theorem PW{off:Nat}(ht:P.underlying t=some .string)(hx:xs[off]?=some v)(w:World):(part t xs off).run P w= .ok v w:=by
 simp[part,isAgg,A7 ht,hx,AI,AG,AA]
theorem Su(h1:P.underlying t=some (.struct (P.fieldsOf t)))(h2:P.stoodInHeld t=false)(h:V0 P t=true)(s s':ByteArray)(a b c d:Int)(w:World):
  (Op.equalIn 10000 t (.agg #[.string s,.int .i64 a,.int .i64 b]) (.agg #[.string s',.int .i64 c,.int .i64 d])).run P w= .ok (decide (s.toList=s'.toList)&&decide (a=c)&&decide (b=d)) w:=by
 rw[show(10000:Nat)=9999+1 from rfl,run_equalIn_agg w 9999 t _ _ h1 h2];unfold V0 at h;split at h
 ·rename_i f1 f2 f3 hf
  simp only[AE,bne_iff_ne,ne_eq,VZ]at h;obtain⟨⟨⟨⟨⟨⟨n1,n2⟩,n3⟩,o1⟩,o2⟩,o3⟩,hu⟩:=h;split at hu
  ·rename_i k2 k3 u1 u2 u3
   have p1:∀(x:ByteArray) (y z:Int),(part f1.type #[.string x,.int .i64 y,.int .i64 z] f1.offset).run P w= .ok (.string x) w:=λx y z=>PW u1 (by rw[o1];rfl) w
   have p2:∀(x:ByteArray) (y z:Int),(part f2.type #[.string x,.int .i64 y,.int .i64 z] f2.offset).run P w= .ok (.int .i64 y) w:=λx y z=>Kk u2 (by rw[o2];rfl) w
   have p3:∀(x:ByteArray) (y z:Int),(part f3.type #[.string x,.int .i64 y,.int .i64 z] f3.offset).run P w= .ok (.int .i64 z) w:=λx y z=>Kk u3 (by rw[o3];rfl) w
   have q1:∀x y:ByteArray,(Op.equalIn 9999 f1.type (.string x) (.string y)).run P w= .ok (x.toList==y.toList) w:=λx y=>run_equalIn_string (P:=P) w 9998 f1.type x y u1
   have q2:∀a c:Int,(Op.equalIn 9999 f2.type (.int .i64 a) (.int .i64 c)).run P w= .ok (a==c) w:=λa c=>NO (P:=P) w 9998 f2.type .i64 k2 a c u2
   have q3:∀a c:Int,(Op.equalIn 9999 f3.type (.int .i64 a) (.int .i64 c)).run P w= .ok (a==c) w:=λa c=>NO (P:=P) w 9998 f3.type .i64 k3 a c u3
   rw[hf];by_cases e1:s.toList=s'.toList
   ·by_cases e2:a=c
    ·by_cases e3:b=d
     ·simp[Op.eqFields,n1,n2,n3,AI,p1,p2,p3,q1,q2,q3,e1,e2,e3,AG,IW,AA]
     ·simp[Op.eqFields,n1,n2,n3,AI,p1,p2,p3,q1,q2,q3,e1,e2,e3,AG,IW,AA]
    ·simp[Op.eqFields,n1,n2,AI,p1,p2,q1,q2,e1,e2,AG,IW,AA]
   ·simp[Op.eqFields,n1,AI,p1,q1,e1,AG,IW,AA]
  ·cases hu
 ·cases h
def Vu(P:Program)(t:TypeId):Bool:=match(P.fieldsOf t).toList with
 |[f1,f2]=>f1.name != "_" &&f2.name != "_" &&f1.offset==0&&f2.offset==1&&(match P.underlying f1.type,P.underlying f2.type with|some (.int _),some (.int _)=>true|_,_=>false)
 |_=>false
theorem Im{off:Nat}(ht:P.underlying t=some (.int k))(hx:xs[off]?=some v)(w:World):(part t xs off).run P w= .ok v w:=by
 simp[part,isAgg,A7 ht,hx,AI,AG,AA]
theorem UT(h1:P.underlying t=some (.struct (P.fieldsOf t)))(h2:P.stoodInHeld t=false)(h:Vu P t=true)(a b c d:Int)(w:World):(binOp .eql t (.agg #[.int .i64 a,.int .i64 b]) (.agg #[.int .i64 c,.int .i64 d])).run P w= .ok (.bool (decide (a=c)&&decide (b=d))) w:=by
 rw[run_eql_struct,show(10000:Nat)=9999+1 from rfl,run_equalIn_agg w 9999 t _ _ h1 h2];unfold Vu at h;split at h
 ·rename_i f1 f2 hf
  simp only[AE,bne_iff_ne,ne_eq,VZ]at h;obtain⟨⟨⟨⟨n1,n2⟩,o1⟩,o2⟩,hu⟩:=h;split at hu
  ·rename_i k1 k2 u1 u2
   have p1:∀x y:Int,(part f1.type #[.int .i64 x,.int .i64 y] f1.offset).run P w= .ok (.int .i64 x) w:=λx y=>Im u1 (by rw[o1];rfl) w
   have p2:∀x y:Int,(part f2.type #[.int .i64 x,.int .i64 y] f2.offset).run P w= .ok (.int .i64 y) w:=λx y=>Im u2 (by rw[o2];rfl) w
   have q1:∀a c:Int,(Op.equalIn 9999 f1.type (.int .i64 a) (.int .i64 c)).run P w= .ok (a==c) w:=λa c=>NO (P:=P) w 9998 f1.type .i64 k1 a c u1
   have q2:∀a c:Int,(Op.equalIn 9999 f2.type (.int .i64 a) (.int .i64 c)).run P w= .ok (a==c) w:=λa c=>NO (P:=P) w 9998 f2.type .i64 k2 a c u2
   rw[hf];by_cases e1:a=c
   ·by_cases e2:b=d
    ·simp[Op.eqFields,n1,n2,AI,p1,p2,q1,q2,e1,e2,AG,IW,AA]
    ·simp[Op.eqFields,n1,n2,AI,p1,p2,q1,q2,e1,e2,AG,IW,AA]
   ·simp[Op.eqFields,n1,AI,p1,q1,e1,AG,IW,AA]
  ·cases hu
 ·cases h
end
section
open Go.RowKit Go.Maps Go.WideElems Go.WideMaps Go.ChangeMaps
def L9:Value->Lit
 |.int q a=>.int q a
 |.bool b=>.bool b
 |.pointer none=>.int .i64 (-1)
 |.pointer (some a)=>.int .i64 a.block
 |_=>.bool false
def Fr(P:Program)(e:TypeId)(v:Value):Option (DataW Unit×List MemPlace):=
 match P.underlying e,v with
 |some (.pointer _),.pointer none=>some (.lit (.int .i64 (-1)),[])
 |some (.pointer _),.pointer (some ⟨b,0,none⟩)=>some (.lit (.int .i64 b),[])
 |some (.pointer _),_=>none
 |_,_=>plainElem (H:=Unit) P e v
def PlainV(P:Program)(e:TypeId)(v:Value):Prop:=Fr P e v=some (.lit (L9 v),[])
theorem PlainV.int{e:TypeId}{q:IntKind}(he:P.underlying e=some (.int q)){a:Int}(hw:(Lit.int q a).wf=true):PlainV P e (.int q a):=by
 unfold PlainV Fr;rw[he];exact plainElem_int he hw
theorem PlainV.nil{e te:TypeId}(he:P.underlying e=some (.pointer te)):PlainV P e (.pointer none):=by
 unfold PlainV Fr;rw[he];rfl
theorem PlainV.ptr{e te:TypeId}(he:P.underlying e=some (.pointer te))(b:Nat):PlainV P e (.pointer (some ⟨b,0,none⟩)):=by
 unfold PlainV Fr;rw[he];rfl
def MapC(P:Program)(e:TypeId)(g:Int->Option Value)(s:Nat)(D:DataW Unit):Prop:=
 s=Maps.size D/\∀x,(Lit.int .i64 x).wf=true->Maps.has D (.int .i64 x)=(g x).isSome/\∀v,g x=some v->PlainV P e v/\∀z,D.atKey (.int .i64 x) z= .lit (L9 v)
def MapF(P:Program)(k e:TypeId)(g:Int->Option Value)(s:Nat)(o:Obj):Prop:=
 ∃es clock D,o= .map es clock/\Fit P k (Fr P e) es clock/\es.size<=s/\D= .map ((es.toList.map (rg P k (Fr P e))).foldr DataW.insert [])/\MapC P e g s D
theorem MapF.own{k e:TypeId}{s b:Nat}{o:Obj}(h:MapF P k e g s o)(hb:w.heap[b]?=some o):∃D,w.ownsMap P k (Fr P e) b s D/\MapC P e g s D:=by
 obtain⟨es,clock,D,rfl,h1,h2,h3,h4⟩:=h;exact⟨D,⟨es,clock,hb,h1,h2,h3⟩,h4⟩
theorem MapC.of{k e:TypeId}{s n b:Nat}{D:DataW Unit}(h:w.ownsMap P k (Fr P e) b n D)(hc:MapC P e g s D):∃o,w.heap[b]?=some o/\MapF P k e g s o:=by
 obtain⟨es,clock,hb,h1,h2,h3⟩:=h;refine⟨_,hb,es,clock,D,rfl,h1,?_,h3,hc⟩;rw[hc.1,h3];have e1:Maps.size (DataW.map ((es.toList.map (rg P k (Fr P e))).foldr DataW.insert []))=es.size:=by simp[Maps.size,length_sorted]
 rw[e1];exact AP _
def Hw(g:Int->Option Value)(x:Int)(v:Value):Int->Option Value:=λy=>if y=x then some v else g y
theorem MQ{x y:Int}(h:¬y=x):(Lit.int .i64 y)≠Lit.int .i64 x:=λe=>h (by injection e)
theorem MapC.put{e:TypeId}{s:Nat}{D:DataW Unit}(hT:Maps.Tidy D)(h:MapC P e g s D){x:Int}(hk:WideAt.IsKeyLit (.int .i64 x))(hw:(Lit.int .i64 x).wf=true)(hv:PlainV P e v):
  MapC P e (Hw g x v) (if(g x).isSome then s else s+1) (D.put (.int .i64 x) (.lit (L9 v))):=by
 obtain⟨h1,h2⟩:=h;refine⟨?_,λy hy=>?_⟩
 ·rw[size_put hT,(h2 x hw).1,h1]
 ·by_cases e:y=x
  ·subst e
   refine⟨by rw[has_put_same hT.isMap hk];simp[Hw],λu hu=>?_⟩;simp only[Hw,GK,AU]at hu;subst hu;exact⟨hv,λz=>atKey_put_same hT.isMap hk _ _⟩
  ·refine⟨by rw[has_put_other (MQ e),(h2 y hy).1];simp[Hw,e],λu hu=>?_⟩
   simp only[Hw,Ah e]at hu;exact⟨((h2 y hy).2 u hu).1,λz=>by rw[atKey_put_other (MQ e)];exact((h2 y hy).2 u hu).2 z⟩
section
variable {P:Program}{m0 m:Mem}{N X:Nat}{R:Zs}{ex:List Nat}
theorem QL{b:Nat}{o0:Obj}(h:w.heap[b]?=some o0)(o:Obj):(setBlock w b o).heap[b]?=some o:=by
 have hlt:b<w.heap.size:=(Array.getElem?_eq_some_iff.1 h).1;simp[setBlock,hlt]
theorem OD{b c:Nat}(o:Obj)(h:c≠b):(setBlock w b o).heap[c]?=w.heap[c]?:=by
 simp only[setBlock];exact Qj (λe=>h e.symm)
theorem Nq{bs0:List Nat}{K:Obj->Prop}(G:Good m0 m N (((X,.gone),bs0)::R) ex)(o:Obj)(hK:K o)(m':Mem)
  (hm':m'=⟨λy=>if y=X then some ⟨m.w.heap.size,0,0,false⟩else m.μ y,λy=>m.U y\/y=X,m.w.alloc o,m.F⟩):
  Good m0 m' N (((X,.ob K),[m.w.heap.size])::R) ex/\m.Le m':=by
 subst hm';obtain⟨rfl,hU⟩:=G.obj _ (A4 ..);have hXN:=G.keyN X (by simp[JM])
 have hle:m.Le ⟨λy=>if y=X then some ⟨m.w.heap.size,0,0,false⟩else m.μ y,λy=>m.U y\/y=X,m.w.alloc o,m.F⟩:=by
  refine⟨λy h=>.inl h,λy L hy hL=>?_,λb hb=>⟨hb,Dz _ _ _ (G.frz b hb)⟩⟩;simp only at hL;split at hL
  ·rename_i e;subst e;exact absurd hy hU
  ·exact hL
 refine⟨?_,hle⟩;have ownex:=G.own;rw[CF,DX]at ownex;refine Good.swap (zs:=[((X,.gone),[])]) (zs':=[((X,.ob K),[m.w.heap.size])]) G hle (AP _) ?_ ?_ ?_ ?_ ?_ ?_ ?_ ?_ ?_ rfl rfl rfl (by simp)
 ·intro y hy _
  have hne:y≠X:=by intro e;apply hy;simp[Zs.keys,e]
  simp[hne]
 ·intro b hb _ _
  exact Dz _ _ _ hb
 ·intro z hz
  simp only[DO]at hz;subst hz;exact⟨.inr rfl,⟨m.w.heap.size,0,0,false⟩,by simp,rfl,o,V8 m.w _,hK⟩
 ·rw[Gi]
  refine AL.2 ⟨by simp,(AL.1 ownex).2.1,λb hb c hc e=>?_⟩;simp only[DO]at hb;have:=(G.blk c (by simp[hc])).1;omega
 ·intro b hb
  rw[Gi]at hb⊢;rcases AN.1 hb with hb|hb
  ·simp only[DO]at hb
   subst hb;exact⟨by simp,λhF=>HA _ (G.frz _ hF),.inr (.inr (AP _))⟩
  ·have:=G.blk b (by simp[hb])
   exact⟨by have:=this.1;simp;omega,this.2,.inr (.inl hb)⟩
 ·intro b hb
  exact⟨by have:=G.frz b hb;simp;omega,.inl hb⟩
 ·simp[Zs.keys]
 ·intro y hy
  simp[Zs.keys]at hy⊢;subst hy;exact⟨hXN,.inl rfl⟩
 ·intro y hy
  simp[Zs.keys];rcases hy with hy|rfl
  ·exact⟨G.usedN y hy,.inl hy⟩
  ·exact⟨hXN,.inr (.inl rfl)⟩
theorem P4{K K':Obj->Prop}{L:Loc}(G:Good m0 m N (((X,.ob K),bs)::R) ex)(hL:m.μ X=some L)(hbs:bs=[L.blk])(o':Obj)(hK:K' o')(m':Mem)(hm':m'={m with w:=setBlock m.w L.blk o'}):
  Good m0 m' N (((X,.ob K'),bs)::R) ex/\m.Le m':=by
 subst hm' hbs;obtain⟨hU,L',hL',hbs',o,hb,hKo⟩:=G.obj _ (A4 ..);have hbk:=G.blk L.blk (by simp[Zs.own]);obtain⟨o0,ho0⟩:∃o0,m.w.heap[L.blk]?=some o0:=⟨_,FJ hbk.1⟩;have hle:m.Le {m with w:=setBlock m.w L.blk o'}:=⟨λy h=>h,λ_ _ _ h=>h,λc hc=>⟨hc,OD _ (λe=>by subst e;exact hbk.2 hc)⟩⟩;have own:=G.own;have hsz:(setBlock m.w L.blk o').heap.size=m.w.heap.size:=by simp[setBlock]
 refine⟨Good.swap (zs:=[((X,.ob K),[L.blk])]) (zs':=[((X,.ob K'),[L.blk])]) (R:=R) (ex:=ex) (ex':=ex) G hle (by omega) (λy _ _=>rfl) (λc _ hc _=>OD _ (λe=>by subst e;simp[Zs.own]at hc)) ?_ ?_ ?_ ?_ (by simp[Zs.keys]) ?_ ?_ rfl rfl rfl (Nat.le_of_eq hsz.symm),hle⟩
 ·intro z hz
  simp only[DO]at hz;subst hz;exact⟨hU,L,hL,rfl,o',QL ho0 _,hK⟩
 ·have hp:(Zs.own (((X,AO.ob K),[L.blk])::R)++ex).Perm (R.own++([L.blk]++ex)):=by
   rw[CF,BC];refine List.perm_append_comm.trans ?_;rw[BC];exact BO _ Aw
  have:=(AL.1 (hp.nodup_iff.1 own)).2.1;simpa[Zs.own]using this
 ·intro c hc
  simp only[Zs.own,Bo,G5,BL,FH,DO]at hc;have hk:=G.blk c (by simp only[CF,FH,DO];rcases hc with h|h<;>simp[h]);exact⟨by show c<(setBlock m.w L.blk o').heap.size;rw[hsz];exact hk.1,hk.2,by rcases hc with h|h<;>simp[Zs.own,h]⟩
 ·intro c hc
  exact⟨by show c<(setBlock m.w L.blk o').heap.size;rw[hsz];exact G.frz c hc,.inl hc⟩
 ·intro y hy
  simp only[Zs.keys,AR,Bj,DO]at hy⊢;subst hy;exact⟨G.keyN y (by simp[Zs.keys]),.inl rfl⟩
 ·intro y hy
  exact⟨G.usedN y hy,.inl hy⟩
variable {o:Oper}{v:AV}{x y z:Operand}{ty ty2 t k e:TypeId}{pos:String}{after:Array Edge}{g:Option (Nat×Bool)}{dst:Option Tmp}{p:Nat}{gf:Int->Option Value}{s:Nat}
theorem ST(w:World)(P:Program)(k e:TypeId):MapF P k e (λ_=>none) 0 (.map #[] 0):=by
 obtain⟨es,clock,hb,h1,h2,h3⟩:=World.ownsMap_made (H:=Unit) w P k (Fr P e);rw[V8]at hb;obtain⟨rfl,rfl⟩:=Obj.map.inj (Tf hb);exact⟨#[],0,_,rfl,h1,h2,h3,rfl,λx _=>⟨rfl,λv hv=>by cases hv⟩⟩
theorem OpT.makeMap(ht:P.underlying t=some (.map k e)):OpT P ⟨dst,.makeMap t none,ty,pos,after,g⟩ [] [(p,(X,.gone))] (.mp X) [(p,(X,.ob (MapF P k e (λ_=>none) 0)))]:=by
 intro nt m0 T S a w hx hS hd hr;obtain⟨m,N,Z,rfl,h2,h3,h4⟩:=hr;have h2':Z.map (·.1)=S:=h2;have hSp:=hS (p,(X,.gone)) (by simp);rw[<-h2',Am]at hSp;cases hz:Z[p]? with
 |none=>rw[hz]at hSp;cases hSp
 |some z=>
  rw[hz]at hSp;simp only[Au,AU]at hSp;obtain⟨z1,z2⟩:=z;simp only at hSp;subst hSp;obtain⟨R,hp1,hp2⟩:=DC hz;obtain⟨G',hle⟩:=Nq (h3.perm hp1) (.map #[] 0) (ST m.w P k e) _ rfl;unfold Oper.wp
  have h5:(execOp a.eval ⟨dst,.makeMap t none,ty,pos,after,g⟩).run P m.w= .ok (.value (.map (some m.w.heap.size))) (m.w.alloc (.map #[] 0)):=by
   simp[execOp,run_makeMap,AI,AA,AG]
  rw[h5];refine⟨_,N,Z.set p ((X,.ob _),[m.w.heap.size]),rfl,?_,G'.perm (hp2 _).symm,(h4.mono hle).put hd ?_⟩
  ·rw[A8,h2'];rfl
  ·refine⟨rfl,.inr rfl,_,rfl,λL hL=>?_⟩
   simp only[GK,AU]at hL;subst hL;rfl
theorem NY{n:Int}(hn: -9223372036854775808<=n/\n<=9223372036854775807):(Lit.int .i64 n).wf=true:=by
 have h1:IntKind.i64.min= -9223372036854775808:=by decide
 have h2:IntKind.i64.max=9223372036854775807:=by decide
 simp[Lit.wf,h1,h2,hn.1,hn.2]
theorem OpT.mapUpd{n:Int}{u:Value}(ht:P.underlying t=some (.map k e))(hk:P.underlying k=some (.int .i64))(hn: -9223372036854775808<=n/\n<=9223372036854775807)(hu:PlainV P e u)(hs:s<maxLen):OpT P ⟨dst,.mapUpdate t x y z,ty,pos,after,g⟩ [(x,.mp X),(y,.prim (.int .i64 n)),(z,.prim u)] [(p,(X,.ob (MapF P k e gf s)))] .dead [(p,(X,.ob (MapF P k e (Hw gf n u) (if(gf n).isSome then s else s+1))))]:=by
 intro nt m0 T S a w hx hS hd hr;obtain⟨m,N,Z,rfl,h2,h3,h4⟩:=hr;have h2':Z.map (·.1)=S:=h2;have hxa:VV m (.mp X) (a.eval x) []:=h4.ev (hx (x,.mp X) (by simp));have hya:=(h4.ev (hx (y,.prim (.int .i64 n)) (by simp))).prim;have hza:=(h4.ev (hx (z,.prim u) (by simp))).prim;have hSp:=hS (p,(X,.ob (MapF P k e gf s))) (by simp);rw[<-h2',Am]at hSp;cases hz:Z[p]? with
 |none=>rw[hz]at hSp;cases hSp
 |some z1=>
  rw[hz]at hSp;simp only[Au,AU]at hSp;obtain⟨z1,bs⟩:=z1;simp only at hSp;subst hSp;obtain⟨R,hp1,hp2⟩:=DC hz;have G:=h3.perm hp1;obtain⟨hU,L,hL,hbs,o,hb,hKo⟩:=G.obj _ (A4 ..);obtain⟨_,_,A,hA,hA2⟩:=hxa;simp only[CP,WW]at hA;rw[hA2 L hL]at hA;obtain⟨D,hown,hC⟩:=hKo.own hb;have K:=int_keyed (P:=P) hk;have hwf:(Lit.int .i64 n).wf=true:=NY hn;have hkey:=keyOf_int_mk hk hwf;obtain⟨w',hrun,hown',hturn⟩:=hown.store K ht hs hkey hu;obtain⟨es,clock,es',clock',hb0,rfl⟩:=hturn;obtain⟨o',ho',hF'⟩:=MapC.of hown' (hC.put (hown.tidy K) (K.key hkey) hwf hu);rw[QL hb0]at ho';obtain rfl:=Tf ho';obtain⟨G',hle⟩:=P4 G hL hbs _ hF' _ rfl;unfold Oper.wp
  have h5:(execOp a.eval ⟨dst,.mapUpdate t x y z,ty,pos,after,g⟩).run P m.w= .ok .skip (setBlock m.w L.blk (.map es' clock')):=by
   simp[execOp,hA,hya,hza,hrun,AI,AA,AG]
  rw[h5];refine⟨_,N,Z.set p ((X,.ob _),bs),rfl,?_,G'.perm (hp2 _).symm,(h4.mono hle).put hd ?_⟩
  ·rw[A8,h2'];rfl
  ·exact rfl
theorem VN{m:Mem}{a:Act}(hx:VV m (.mp X) (a.eval x0) [])(hO:ORel m X (.ob (MapF P k e gf s)) bs):∃b D,a.eval x0= .map (some b)/\m.w.ownsMap P k (Fr P e) b s D/\MapC P e gf s D:=by
 obtain⟨hU,L,hL,hbs,o,hb,hKo⟩:=hO;obtain⟨_,_,A,hA,hA2⟩:=hx;simp only[CP,WW]at hA;rw[hA2 L hL]at hA;obtain⟨D,hown,hC⟩:=hKo.own hb;exact⟨L.blk,D,hA,hown,hC⟩
theorem Oq{v:Value}(hp:∀te,P.underlying e≠some (.pointer te)):Fr P e v=plainElem (H:=Unit) P e v:=by
 unfold Fr;split
 ·exact absurd ‹_› (hp _)
 ·exact absurd ‹_› (hp _)
 ·exact absurd ‹_› (hp _)
 ·rfl
theorem Mc{v:Value}{u:Value}{ps:List MemPlace}(h:Fr P e v=some (.lit (L9 u),ps))(hu:PlainV P e u):v=u:=by
 unfold PlainV at hu;by_cases hp:∃te,P.underlying e=some (.pointer te)
 ·obtain⟨te,hp⟩:=hp
  unfold Fr at h hu;rw[hp]at h hu;split at hu
  ·split at h
   ·rfl
   ·simp only[L9,AU,DT,Ib,Rl]at h
    omega
   ·cases h
   ·simp_all
  ·split at h
   ·simp only[L9,AU,DT,Ib,Rl]at h
    omega
   ·simp only[L9,AU,DT,Ib,Rl]at h
    obtain⟨⟨_,h⟩,_⟩:=h;have h:_=_:=Int.ofNat.inj h;subst h;rfl
   ·cases h
   ·simp_all
  ·cases hu
  ·simp_all
 ·have hp':∀te,P.underlying e≠some (.pointer te):=λte e=>hp ⟨te,e⟩
  rw[Oq hp']at h hu;unfold plainElem at h hu;generalize P.underlying e=d at h hu;split at hu
  ·split at h
   ·simp only[L9,AU,DT,Ib,Lit.bool.injEq]at h
    rw[h.1]
   ·simp_all
   ·simp_all
   ·cases h
  ·split at h
   ·simp_all
   ·split at h
    ·split at hu
     ·rename_i h1 h2
      simp only[L9,AU,DT,Ib,Rl]at h
      simp_all
     ·cases hu
    ·cases h
   ·simp_all
   ·cases h
  ·split at hu
   ·simp[L9]at hu
   ·cases hu
  ·cases hu
theorem OpT.lookup2{n:Int}{z0:Value}(ht:P.underlying t=some (.map k e))(hk:P.underlying k=some (.int .i64))(hz:∀w,(zeroValue e).run P w= .ok z0 w)(h0:PlainV P e z0)(hn: -9223372036854775808<=n/\n<=9223372036854775807)(hone:((gf n).getD z0).oneCell'=true):
  OpT P ⟨dst,.lookup t x y true,ty,pos,after,g⟩ [(x,.mp X),(y,.prim (.int .i64 n))] [(p,(X,.ob (MapF P k e gf s)))] (.tup [.prim ((gf n).getD z0),.prim (.bool (gf n).isSome)]) []:=
 .pure_ λm a hx hS=>by
  obtain⟨bs,hO⟩:=hS (p,(X,.ob (MapF P k e gf s))) (by simp);obtain⟨b,D,hA,hown,hC⟩:=VN (hx (x,.mp X) (by simp)) hO;have hya:=(hx (y,.prim (.int .i64 n)) (by simp)).prim;have K:=int_keyed (P:=P) hk;have hwf:=NY hn;have hkey:=keyOf_int_mk hk hwf;obtain⟨v,ps,hrun,hv⟩:=hown.look_ok K ht (hz m.w) h0 hkey;obtain⟨h1,h2⟩:=hC.2 n hwf
  have hval:v=(gf n).getD z0:=by
   cases hg:gf n with
   |none=>
    rw[hg]at h1;rw[atKey_of_not_has (by simpa using h1)]at hv;exact Mc hv h0
   |some u=>
    obtain⟨h3,h4⟩:=h2 u hg;rw[h4]at hv;exact Mc hv h3
  subst hval;rw[h1]at hrun;exact⟨_,by simp only at hya hA;simp[execOp,hA,hya,hrun,AI,AA,AG],⟨_,rfl,(B8 rfl).2 ⟨_,_,[],[],rfl,rfl,Cc _ hone,(B8 rfl).2 ⟨_,_,[],[],rfl,rfl,Cc _,⟨rfl,rfl⟩⟩⟩⟩⟩
end
class TMap(P:Program)(t:TypeId)(k e:outParam TypeId)(z0:outParam Value):Prop where
 h:P.underlying t=some (.map k e)
 hk:P.underlying k=some (.int .i64)
 hz:∀w,(zeroValue e).run P w= .ok z0 w
 h0:PlainV P e z0
section
variable {ro:Option Nat}{P:Program}{nt:Nat}{ops:Array Oper}{Q:Exit->St->Prop}{rest:List Oper}{T:List (Nat×AV)}{S:List AK}{ty t k e:TypeId}{pos:String}{after:Array Edge}{dst:Option Tmp}{c:Option (List Bool)}{g:Option (Nat×Bool)}{x y z:Operand}{X p:Nat}{gf:Int->Option Value}{s:Nat}{z0:Value}
theorem Lu[TMap P t k e z0](kk:∀X,AOps ro P nt ops Q rest ⟨A6 T dst (.mp X),(X,.ob (MapF P k e (λ_=>none) 0))::S⟩)(hd:Ao dst nt=true:=by rfl):AOps ro P nt ops Q (⟨dst,.makeMap t none,ty,pos,after,none⟩::rest) ⟨T,S⟩:=
 Fe λX=>AOps.step (o:=⟨dst,.makeMap t none,ty,pos,after,none⟩) (xs:=[]) (rS:=[(0,(X,.gone))]) rfl (OpT.makeMap (TMap.h (z0:=z0))) .nil (.cons .here .nil) hd (kk X)
theorem Ta(kk:AOps ro P nt ops Q (⟨dst,.makeMap t none,ty,pos,after,g⟩::rest) st):AOps ro P nt ops Q (⟨dst,.makeMap t none,ty,pos,after,g⟩::rest) st:=kk
theorem W.mapUpd{n:Int}{u:Value}[TMap P t k e z0](hu:PlainV P e u)(hn: -9223372036854775808<=n/\n<=9223372036854775807)(hs:s<maxLen)(hx:Rd c T x (.mp X))(hy:Rd c T y (.prim (.int .i64 n)))(hz:Rd c T z (.prim u))(hSp:At S p (X,.ob (MapF P k e gf s))):
  Stp c P ⟨dst,.mapUpdate t x y z,ty,pos,after,g⟩ T S [(x,.mp X),(y,.prim (.int .i64 n)),(z,.prim u)] [(p,(X,.ob (MapF P k e gf s)))] .dead [(p,(X,.ob (MapF P k e (Hw gf n u) (if(gf n).isSome then s else s+1))))]:=
 ⟨.mapUpd (TMap.h (z0:=z0)) (TMap.hk (t:=t) (z0:=z0)) hn hu hs,.cons hx (.cons hy (.cons hz .nil)),.cons hSp .nil⟩
theorem Iz{n:Int}(v:Value)(b:Bool)[TMap P t k e z0](hv:(gf n).getD z0=v)(hb:(gf n).isSome=b)(hn: -9223372036854775808<=n/\n<=9223372036854775807)(hx:Rd c T x (.mp X))(hy:Rd c T y (.prim (.int .i64 n)))(hSp:At S p (X,.ob (MapF P k e gf s)))(hone:v.oneCell'=true:=by rfl):
  Stp c P ⟨dst,.lookup t x y true,ty,pos,after,g⟩ T S [(x,.mp X),(y,.prim (.int .i64 n))] [(p,(X,.ob (MapF P k e gf s)))] (.tup [.prim v,.prim (.bool b)]) []:=by
 subst hv hb;exact⟨.lookup2 (TMap.h (z0:=z0)) (TMap.hk (t:=t) (z0:=z0)) (TMap.hz (t:=t)) (TMap.h0 (t:=t)) hn hone,.cons hx (.cons hy .nil),.cons hSp .nil⟩
end
end
section
open Go.RowKit
def FreeE(e:AV):Prop:=∀m c bs,VC m e c bs->bs=[]
def FreeL(l:List AV):Prop:=∀e∈l,FreeE e
theorem FreeL.vcs(h:FreeL l){m:Mem}{c:List Value}(k:VCs m l c bs):bs=[]:=by
 induction l generalizing c bs with
 |nil=>exact k.2
 |cons e l ih=>
  simp only[VCs]at k;obtain⟨c1,c2,b1,b2,_,rfl,h1,h2⟩:=k;rw[h e (by simp) _ _ _ h1,ih (λx hx=>h x (by simp[hx])) h2];rfl
theorem FreeL.sub{l l':List AV}(h:FreeL l)(hs:∀e∈l',e∈l):FreeL l':=λe he=>h e (hs e he)
theorem FreeE.agg{us:List AV}(h:FreeL us):FreeE (.agg us):=λm c bs k=>h.vcs (show VCs m us c bs from k)
theorem FreeE.prim(u:Value):FreeE (.prim u):=λm c bs k=>by
 simp only[VC]at k;exact k.2
section
variable {m0 m:Mem}{N:Nat}{X sz:Nat}{t:TypeId}{l:List AV}{R:Zs}{ex:List Nat}
theorem Good.over(G:Good m0 m N (((X,.row t sz l),bs)::R) ex){L:Loc}{arr:Array Value}{bs0:List Nat}(hL:m.μ X=some L)(hnil:L.isNil=false)(hbs:bs=L.blk::bs0)(hb:m.w.heap[L.blk]?=some (.cells arr t (0,0)))(harr:arr.size=L.cap*sz)(hl:l.length<=L.cap)(hcap:L.cap<=maxLen)(hsz:L.sz=sz)(hw:∀e∈l,e.width=sz)
  (hv:VCs m l (arr.toList.take (l.length*sz)) bs0) (hfr:FreeL l) {off:Nat} {ns:List AV} {cs:List Value} (hoff:off<=l.length) (hend:off+ns.length<=L.cap) (hnw:∀e∈ns,e.width=sz) (hn:VCs m ns cs []):
  Good m0 {m with w:=m.w.setRow L.blk (arr.toList.take (off*sz)++cs++arr.toList.drop (off*sz+cs.length)).toArray} N (((X,.row t sz (l.take off++ns++l.drop (off+ns.length))),[L.blk])::R) ex/\m.Le {m with w:=m.w.setRow L.blk (arr.toList.take (off*sz)++cs++arr.toList.drop (off*sz+cs.length)).toArray}:=by
 have hcs:cs.length=ns.length*sz:=by rw[VCs.len _ hn,C6 hnw]
 obtain rfl:=hfr.vcs hv;obtain⟨p1,p2,e1,h1,h2⟩:=VCs.take hw hv (k:=off) hoff;obtain rfl:=(hfr.sub λe he=>Ad he).vcs h1;obtain rfl:p2=[]:=by simpa using e1.symm
 have h4:VCs m (l.drop (off+ns.length)) (((arr.toList.take (l.length*sz)).drop (off*sz)).drop (ns.length*sz)) []:=by
  by_cases hk:off+ns.length<=l.length
  ·obtain⟨p3,p4,e2,h3,h4⟩:=VCs.take (l:=l.drop off) (λe he=>hw e (Ae he)) h2 (k:=ns.length) (by rw[Bb];omega)
   rw[Dr]at h4;have:=(hfr.sub λe he=>Ae he).vcs h4;rw[this]at h4;exact h4
  ·have hz:l.length*sz<=off*sz+ns.length*sz:=by rw[<-CW];exact Az _ (by omega)
   rw[BP (by omega),Dr,BP (by rw[BA];omega)];exact⟨rfl,rfl⟩
 have hsz0:l.length*sz<=arr.toList.length:=by rw[show arr.toList.length=arr.size from CJ,harr];exact Az _ hl
 have hle1:off*sz+ns.length*sz<=arr.toList.length:=by rw[<-CW,show arr.toList.length=arr.size from CJ,harr];exact Az _ hend
 have hol:off*sz<=l.length*sz:=Az _ hoff;have hlen:(l.take off++ns++l.drop (off+ns.length)).length=max l.length (off+ns.length):=by simp only[Ax,BA,Bb];omega
 refine Ia G hL hnil hbs hb (l':=l.take off++ns++l.drop (off+ns.length)) (bs1:=[]) ?_ (by rw[hlen];omega) hcap hsz ?_ ?_ (by simp) (by simp) _ rfl
 ·simp only[I9,Ax,BA,Bb,CJ,harr]at hsz0 hle1⊢
  omega
 ·intro e he
  rcases AN.1 he with he|he
  ·rcases AN.1 he with he|he
   ·exact hw e (Ad he)
   ·exact hnw e he
  ·exact hw e (Ae he)
 ·rw[hlen]
  have e3:(arr.toList.take (off*sz)++cs++arr.toList.drop (off*sz+cs.length)).take (max l.length (off+ns.length)*sz)=(arr.toList.take (l.length*sz)).take (off*sz)++cs++((arr.toList.take (l.length*sz)).drop (off*sz)).drop (ns.length*sz):=by
   have hm2:off*sz+ns.length*sz<=max l.length (off+ns.length)*sz:=by rw[<-CW];exact Az _ (by omega)
   rw[List.take_append,Al (by simp only[Ax,BA];omega)]
   congr 1
   ·rw[Cj,BJ hol]
   ·rw[Dr,hcs,Ee]
    simp only[Ax,BA];rw[BJ (by omega),hcs];by_cases hk:off+ns.length<=l.length
    ·rw[Nat.max_eq_left hk]
    ·have hz:l.length*sz<=off*sz+ns.length*sz:=by rw[<-CW];exact Az _ (by omega)
     rw[Nat.max_eq_right (by omega),CW,DY,Nat.sub_eq_zero_of_le (by omega)]
  rw[show(arr.toList.take (off*sz)++cs++arr.toList.drop (off*sz+cs.length)).toArray.toList=arr.toList.take (off*sz)++cs++arr.toList.drop (off*sz+cs.length)from rfl,e3];exact(h1.append hn).append h4
theorem Kd{Y:Nat}{l2:List AV}{bs2:List Nat}{vy:Value}{i b k:Nat}(hO:ORel m Y (.row t2 sz l2) bs2)(hy:VV m (.sl Y i b) vy [])(hb:0<b)(hfr:FreeL l2)(hi:i+k<=l2.length):∃A2 q2 cs,vy= .slice (some A2) b q2/\VCs m ((l2.drop i).take k) cs []/\cs.length=k*sz/\∀j v,cs[j]?=some v->m.w.cell? (A2.add j)=some v:=by
 obtain⟨hU,L,hL,hLs,hO⟩:=hO;obtain⟨_,hU',A,q,e1,hs⟩:=hy;injection e1 with e1
 subst e1;rcases hs L hL with⟨h5,e2,e3,e4⟩|⟨h5,h6,o,h7,h8⟩
 ·omega
 ·rcases hO with⟨h9,_⟩|⟨hnil,arr,bs',rfl,hb2,harr,hlc,hcap,hw,hv⟩
  ·rw[h5]at h9;cases h9
  ·have ho:=h8 (.inl (by omega))
   injection h7 with h7 h9 h10
   subst h7;obtain⟨p1,p2,e5,h11,h12⟩:=VCs.take hw hv (k:=i) (by omega);obtain⟨p3,p4,e6,h13,h14⟩:=VCs.take (l:=l2.drop i) (λe he=>hw e (Ae he)) h12 (k:=k) (by rw[Bb];omega);have h15:=(hfr.sub λe he=>Ae (Ad he)).vcs h13;rw[h15]at h13;have hsz0:l2.length*sz<=arr.toList.length:=by rw[show arr.toList.length=arr.size from CJ,harr];exact Az _ hlc
   have hle:i*sz+k*sz<=l2.length*sz:=by rw[<-CW];exact Az _ hi
   refine⟨_,q,_,rfl,h13,?_,λj v hj=>?_⟩
   ·simp only[BA,Bb];omega
   ·rw[FM,ho,hLs]
    rw[CZ]at hj;split at hj
    ·rw[Ca,CZ]at hj
     split at hj
     ·simp only[World.cell?,hb2]
      rw[<-L0];exact hj
     ·cases hj
    ·cases hj
theorem Mv{tt te ty:TypeId}{Z:Zs}{p:Nat}{vx:Value}{j a b q2:Nat}(G:Good m0 m N Z [])(hz:Z[p]?=some ((X,.row t sz l),bs))(hx:VV m (.sl X j a) vx [])(ha:0<a)(hj:j<=l.length)(hfr:FreeL l)(he:Dn P tt=some te)(hs:tSz P te=some sz)
  {ns:List AV} {cs:List Value} (hns:∀e∈ns,e.width=sz) (hcs:VCs m ns cs []) (hk:ns.length=min b a) {A2:Addr} (hsrc:∀j v,cs[j]?=some v->m.w.cell? (A2.add j)=some v):
  ∃m' b',(Builtin.copy_ #[tt,tt] ty #[vx,.slice (some A2) b q2]).run P m.w= .ok (goInt ns.length) m'.w/\Good m0 m' N (Z.set p ((X,.row t sz (l.take j++ns++l.drop (j+ns.length))),b')) []/\m.Le m':=by
 obtain⟨R,hp1,hp2⟩:=DC hz;have G1:=G.perm hp1;have hO:=G1.obj _ (A4 ..);obtain⟨hU,L,hL,hLs,hO⟩:=hO;obtain⟨_,hU',A,q,e1,hsl⟩:=hx;injection e1 with e1
 subst e1;rcases hsl L hL with⟨h5,e2,e3,e4⟩|⟨h5,h6,o,h7,h8⟩
 ·omega
 ·rcases hO with⟨h9,_⟩|⟨hnil,arr,bs',rfl,hb2,harr,hlc,hcap,hw,hv⟩
  ·rw[h5]at h9;cases h9
  ·have ho:=h8 (.inl (by omega))
   injection h7 with h7 h9 h10
   subst h7;have hcl:cs.length=ns.length*sz:=by rw[VCs.len _ hcs,C6 hns]
   have hle:j+ns.length<=L.cap:=by omega
   have hfit:j*sz+cs.length<=arr.size:=by rw[hcl,harr,<-CW];exact Az _ hle
   obtain⟨G2,hle2⟩:=Good.over G1 hL h5 rfl hb2 harr hlc hcap hLs hw hv hfr hj hle hns hcs;refine⟨_,[L.blk],?_,G2.perm (hp2 _).symm,hle2⟩;have hl:=Q3 (P:=P) m.w A2 cs hsrc;have hst:=J5 P L.blk (j*sz) t cs 0 arr m.w hb2 (by simpa using hfit) (VCs.ones _ hcs);have hu:=CB he;unfold tSz at hs;rw[ho,hLs];have hkk:Nat.min b a=ns.length:=hk.symm;cases hq:P.info? te with
   |none=>rw[hq]at hs;cases hs
   |some i=>
    rw[hq]at hs;injection hs with hs
    rw[hcl]at hl;simp[Builtin.copy_,A7 hu,Builtin.lenOf,Builtin.firstCells,sizeOf,typeInfo,hq,hs,hkk,hl,hst]
end
section
variable {P:Program}{dst:Option Tmp}{ty t te t2:TypeId}{pos:String}{after:Array Edge}{g:Option (Nat×Bool)}{x y:Operand}{p q r sz X Y Z:Nat}{l l2:List AV}
theorem OpT.copyO{j a i b:Nat}(k:Nat)(he:Dn P t=some te)(hsz:tSz P te=some sz)(ha:0<a)(hb:0<b)(hk:k=min b a)(hj:j<=l.length)(hi:i+k<=l2.length)(hfr:FreeL l)(hfr2:FreeL l2)(hw2:∀e∈l2,e.width=sz)(hpq:p≠q):
  OpT P ⟨dst,.call ⟨.builtin .copy,#[x,y],#[t,t]⟩,ty,pos,after,g⟩ [(x,.sl X j a),(y,.sl Y i b)] [(p,(X,.row te sz l)),(q,(Y,.row te sz l2))] (.prim (.int .i64 k)) [(p,(X,.row te sz (l.take j++(l2.drop i).take k++l.drop (j+k))))]:=by
 intro nt m0 T S ac w hx hS hd hr;obtain⟨m,N,W,rfl,h2,h3,h4⟩:=hr;have h2':W.map (·.1)=S:=h2;have hxa:VV m (.sl X j a) (ac.eval x) []:=h4.ev (hx (x,.sl X j a) (by simp));have hya:VV m (.sl Y i b) (ac.eval y) []:=h4.ev (hx (y,.sl Y i b) (by simp));have hSp:=hS (p,(X,.row te sz l)) (by simp);have hSq:=hS (q,(Y,.row te sz l2)) (by simp);rw[<-h2',Am]at hSp hSq;cases hz:W[p]? with
 |none=>rw[hz]at hSp;cases hSp
 |some z=>
 cases hzq:W[q]? with
 |none=>rw[hzq]at hSq;cases hSq
 |some zq=>
  rw[hz]at hSp;rw[hzq]at hSq;simp only[Au,AU]at hSp hSq;obtain⟨z1,bs⟩:=z;obtain⟨zq1,bsq⟩:=zq;simp only at hSp hSq;subst hSp hSq;obtain⟨A2,q2,cs,e1,hcs,hcl,hsrc⟩:=Kd (h3.obj _ (Bc hzq)) hya hb hfr2 hi;have hkl:((l2.drop i).take k).length=k:=by rw[BA,Bb];omega
  obtain⟨m',b',hrun,G',hle⟩:=Mv (ty:=ty) (q2:=q2) h3 hz hxa ha hj hfr he hsz (ns:=(l2.drop i).take k) (λe he=>hw2 e (Ae (Ad he))) hcs (b:=b) (by rw[hkl];exact hk) hsrc;rw[hkl]at hrun G';unfold Oper.wp;rw[CK];simp only[builtin,D3,AR,Bj,e1,AI,hrun,AA,AG];refine⟨m',N,_,rfl,?_,G',(h4.mono hle).put hd (Cc _)⟩;rw[A8,h2'];rfl
theorem OpT.copyS{j a i b:Nat}(k:Nat)(he:Dn P t=some te)(hsz:tSz P te=some sz)(ha:0<a)(hb:0<b)(hk:k=min b a)(hj:j<=l.length)(hi:i+k<=l.length)(hfr:FreeL l)(hw2:∀e∈l,e.width=sz):
  OpT P ⟨dst,.call ⟨.builtin .copy,#[x,y],#[t,t]⟩,ty,pos,after,g⟩ [(x,.sl X j a),(y,.sl X i b)] [(p,(X,.row te sz l))] (.prim (.int .i64 k)) [(p,(X,.row te sz (l.take j++(l.drop i).take k++l.drop (j+k))))]:=by
 intro nt m0 T S ac w hx hS hd hr;obtain⟨m,N,W,rfl,h2,h3,h4⟩:=hr;have h2':W.map (·.1)=S:=h2;have hxa:VV m (.sl X j a) (ac.eval x) []:=h4.ev (hx (x,.sl X j a) (by simp));have hya:VV m (.sl X i b) (ac.eval y) []:=h4.ev (hx (y,.sl X i b) (by simp));have hSp:=hS (p,(X,.row te sz l)) (by simp);rw[<-h2',Am]at hSp;cases hz:W[p]? with
 |none=>rw[hz]at hSp;cases hSp
 |some z=>
  rw[hz]at hSp;simp only[Au,AU]at hSp;obtain⟨z1,bs⟩:=z;simp only at hSp;subst hSp;obtain⟨A2,q2,cs,e1,hcs,hcl,hsrc⟩:=Kd (h3.obj _ (Bc hz)) hya hb hfr hi;have hkl:((l.drop i).take k).length=k:=by rw[BA,Bb];omega
  obtain⟨m',b',hrun,G',hle⟩:=Mv (ty:=ty) (q2:=q2) h3 hz hxa ha hj hfr he hsz (ns:=(l.drop i).take k) (λe he=>hw2 e (Ae (Ad he))) hcs (b:=b) (by rw[hkl];exact hk) hsrc;rw[hkl]at hrun G';unfold Oper.wp;rw[CK];simp only[builtin,D3,AR,Bj,e1,AI,hrun,AA,AG];refine⟨m',N,_,rfl,?_,G',(h4.mono hle).put hd (Cc _)⟩;rw[A8,h2'];rfl
def HP(X c:Nat)(u0:Value):AV->Value->Prop:=λv u=>v= .sl X 0 c/\u=u0
def MO(c:Nat)(u0:Value):Prop:=∃A,u0= .slice A c c
theorem Nh{m:Mem}{c:Nat}{L:Loc}(hc:MO c u0)(h:ORel m Z (.tv (HP X c u0)) bs)(hL:m.μ X=some L):(L.isNil=true/\c=0)\/(L.isNil=false/\c=L.cap):=by
 obtain⟨_,_,h⟩:=h;obtain⟨A,rfl⟩:=hc;obtain⟨_,_,A',q,e1,hs⟩:=h _ _ ⟨rfl,rfl⟩;injection e1 with e1
 injection e1 with e2 e3 e4
 subst e2 e4;rcases hs L hL with⟨h5,_,_,h6⟩|⟨h5,h6,o,h7,_⟩
 ·exact .inl ⟨h5,h6⟩
 ·injection h7 with _ _ h8
  exact .inr ⟨h5,by omega⟩
theorem OpT.cap{n c:Nat}(he:Dn P t=some te)(hc:MO c u0):OpT P ⟨dst,.call ⟨.builtin .cap,#[x],#[t]⟩,ty,pos,after,g⟩ [(x,.sl X 0 n)] [(p,(X,.row te sz l)),(q,(Z,.tv (HP X c u0)))] (.prim (.int .i64 c)) []:=
 .pure_ λm a hx hS=>by
  obtain⟨bs,hO⟩:=hS (p,(X,.row te sz l)) (by simp);obtain⟨bs2,hO2⟩:=hS (q,(Z,.tv (HP X c u0))) (by simp);obtain⟨hU,L,hL,hLs,_⟩:=hO;have hcl:=Nh hc hO2 hL;obtain⟨_,hU',A,d,e1,hs⟩:=hx (x,.sl X 0 n) (by simp);injection e1 with e1
  simp only at e1
  have hd:d=c:=by
   rcases hs L hL with⟨h5,e2,_,h6⟩|⟨h5,h6,o,h7,_⟩
   ·injection e2 with _ _ e3
    rcases hcl with⟨_,h⟩|⟨h,_⟩
    ·omega
    ·rw[h5]at h;cases h
   ·injection h7 with _ _ h8
    rcases hcl with⟨h,_⟩|⟨_,h⟩
    ·rw[h5]at h;cases h
    ·omega
  subst hd;refine⟨_,?_,Cc (.int .i64 d)⟩;rw[CK];simp[builtin,Builtin.cap_,e1,A7 (CB he),AI,AG,AA,goInt]
theorem OpT.slice_cap{n c hi:Nat}{qi:Int}(he:Dn P t=some te)(hsz:tSz P te=some sz)(hc:MO c u0)(hq:qi=(hi:Int))(hh:hi<=c):OpT P ⟨dst,.slice t x none (some y) none,ty,pos,after,g⟩ [(x,.sl X 0 n),(y,.prim (.int k qi))] [(p,(X,.row te sz l)),(q,(Z,.tv (HP X c u0)))] (.sl X 0 hi) []:=
 .pure_ λm a hx hS=>by
  obtain⟨bs,hO⟩:=hS (p,(X,.row te sz l)) (by simp);obtain⟨bs2,hO2⟩:=hS (q,(Z,.tv (HP X c u0))) (by simp);obtain⟨hU,L,hL,hLs,_⟩:=hO;have hcl:=Nh hc hO2 hL;obtain⟨_,hU',A,d,e1,hs⟩:=hx (x,.sl X 0 n) (by simp);have hy:=(hx (y,.prim (.int k qi)) (by simp)).prim;injection e1 with e1
  simp only at e1 hy;subst hq;rcases hs L hL with⟨h5,e2,_,h6⟩|⟨h5,h6,o,h7,h8⟩
  ·have hc0:c=0:=by
    rcases hcl with⟨_,h⟩|⟨h,_⟩
    ·exact h
    ·rw[h5]at h;cases h
   injection e2 with e2 e3 e4
   subst e2 e4;obtain rfl:hi=0:=by omega
   have hr:=Ez (P:=P) (w:=m.w) he hsz (A:=none) (len:=n) (cap:=0) (lo:=0) (hi:=0) (vl:=none) (vh:=some (.int k 0)) (by simp) (by simp) (λu hu=>⟨k,by injection hu with hu;exact hu.symm⟩) (by simp) (by omega) (by omega);refine⟨_,by simp only[execOp,Er,Au,e1,hy,AI,Int.natCast_zero,hr,AA];rfl,rfl,hU',_,_,rfl,λL' hL'=>?_⟩;rw[hL]at hL';injection hL' with hL';subst hL'
   exact .inl ⟨h5,by simp,rfl,rfl⟩
  ·have hcc:c=L.cap:=by
    rcases hcl with⟨h,_⟩|⟨_,h⟩
    ·rw[h5]at h;cases h
    ·exact h
   injection h7 with e4 e5 e6
   subst e4 e6;have hr:=Ez (P:=P) (w:=m.w) he hsz (A:=some ⟨L.blk,o,none⟩) (len:=n) (cap:=L.cap-0) (lo:=0) (hi:=hi) (vl:=none) (vh:=some (.int k hi)) (by simp) (by simp) (λu hu=>⟨k,by injection hu with hu;exact hu.symm⟩) (by simp) (by omega) (by omega);refine⟨_,by simp only[execOp,Er,Au,e1,hy,AI,hr,AA];rfl,rfl,hU',_,_,rfl,λL' hL'=>?_⟩;rw[hL]at hL';injection hL' with hL';subst hL'
   refine .inr ⟨h5,by omega,o,?_,h8⟩;simp only[Fb,GZ];split
   ·rfl
   ·rw[FM,Dp]
end
section
variable {ro:Option Nat}{P:Program}{nt p sz X:Nat}{t:TypeId}{l:List AV}
theorem Uc(hS:At st.S p (X,.row t sz l)):Fu nt st λst'=>∃Z c u0,MO c u0/\l.length<=c/\st'=⟨st.T,(Z,.tv (HP X c u0))::st.S⟩:=by
 rintro m0 a w ⟨m,N,W,rfl,h2,h3,h4⟩;have hSp:=hS.get;rw[<-show W.map (·.1)=st.S from h2,Am]at hSp;cases hz:W[p]? with
 |none=>rw[hz]at hSp;cases hSp
 |some z=>
  rw[hz]at hSp;simp only[Au,AU]at hSp;obtain⟨z1,bs⟩:=z;simp only at hSp;subst hSp;obtain⟨hU,L,hL,hLs,hO⟩:=h3.obj _ (Bc hz)
  obtain⟨c,u0,hcv,hlc,hvv⟩:∃c u0,MO c u0/\l.length<=c/\VV m (.sl X 0 c) u0 []:=by
   rcases hO with⟨h5,h6,_⟩|⟨h5,arr,bs',_,_,_,h6,_⟩
   ·refine⟨0,.slice none 0 0,⟨none,rfl⟩,by rw[h6];simp,rfl,hU,_,_,rfl,λL' hL'=>?_⟩
    rw[hL]at hL';injection hL' with hL';subst hL'
    exact .inl ⟨h5,rfl,rfl,rfl⟩
   ·refine⟨L.cap,.slice (some ⟨L.blk,0,none⟩) L.cap L.cap,⟨_,rfl⟩,h6,rfl,hU,_,_,rfl,λL' hL'=>?_⟩
    rw[hL]at hL';injection hL' with hL';subst hL'
    exact .inr ⟨h5,by omega,0,by simp,λ_=>by simp⟩
  obtain⟨G',hle⟩:=h3.note (HP X c u0) (λv u h=>by rw[h.1,h.2];exact hvv) _ rfl;exact⟨⟨st.T,(N,.tv (HP X c u0))::st.S⟩,⟨{m with U:=λy=>m.U y\/y=N},N+1,_,rfl,by rw[AR,show W.map (·.1)=st.S from h2],G',h4.mono hle⟩,N,c,u0,hcv,hlc,rfl⟩
theorem AWP.cap{cd:Code}{Q:Exit->St->Prop}{T:List (Nat×AV)}(X:Nat)(k:∀Z c u0,MO c u0->l.length<=c->AWP ro P nt cd Q ⟨T,(Z,.tv (HP X c u0))::S⟩)(hS:At S p (X,.row t sz l):=by exact AY):AWP ro P nt cd Q ⟨T,S⟩:=.ghost (Uc hS) (by rintro _ ⟨Z,c,u0,h1,h2,rfl⟩;exact k Z c u0 h1 h2)
end
end
section
open Go.RowKit
section
variable {P:Program}{dst:Option Tmp}{ty t te tx:TypeId}{pos:String}{after:Array Edge}{g:Option (Nat×Bool)}{x y:Operand}{p q r sz X Y Z:Nat}{l:List AV}
theorem OpT.appz_grow{kq:IntKind}{qi:Int}{i k c by_:Nat}{ag:Bool}(T:PK P t=some (te,sz,by_))(hz:tZ P te=some zl)(hag:ag=true\/zl.length=1)(hzs:zl.length=sz)(htx:Tq P tx=true)(hq:qi=(k:Int))(h0:0<k)(hb:(i+k)*by_<=140737488355328)(hby:0<by_)
  (hc:MO c u0) (hroom:c<i+k) (hi:i<=l.length) (hfr:FreeL l):
  OpT P ⟨dst,.call ⟨.builtin .append,#[x,y],#[t,tx]⟩,ty,pos,after,g⟩ [(x,.sl X 0 i),(y,.prim (.int kq qi))] [(p,(X,.row te sz l)),(q,(Z,.tv (HP X c u0))),(r,(Y,.gone))] (.sl Y 0 (i+k)) [(r,(Y,.row te sz (l.take i++List.replicate k (zAV zl ag))))]:=by
 subst hq;obtain⟨inf,z,ht,hti,hiz,h3,h4,hzs',hsz⟩:=MT T;obtain⟨i',zv,hi',hzv,hzl,ho⟩:=Ih hz;rw[hti]at hi';injection hi' with hi'
 subst hi';rw[hiz]at hzv;injection hzv with hzv
 subst hzv;obtain⟨kk,hk⟩:=Qx htx;have hnm:i+k<=140737488355328:=CT (Jw _ hby) hb;intro nt m0 T0 S a w hx hS hd hr;obtain⟨m,N,W,rfl,h2,h5,h6⟩:=hr;have h2':W.map (·.1)=S:=h2;have hxa:VV m (.sl X 0 i) (a.eval x) []:=h6.ev (hx (x,.sl X 0 i) (by simp));have hya:=(h6.ev (hx (y,.prim (.int kq (k:Int))) (by simp))).prim;simp only at hya;have hSp:=hS (p,(X,.row te sz l)) (by simp);have hSq:=hS (q,(Z,.tv (HP X c u0))) (by simp);have hSr:=hS (r,(Y,.gone)) (by simp);rw[<-h2',Am]at hSp hSq hSr;cases hzp:W[p]? with
 |none=>rw[hzp]at hSp;cases hSp
 |some zp=>
 cases hzq:W[q]? with
 |none=>rw[hzq]at hSq;cases hSq
 |some zq=>
 cases hzr:W[r]? with
 |none=>rw[hzr]at hSr;cases hSr
 |some zr=>
  rw[hzp]at hSp;rw[hzq]at hSq;rw[hzr]at hSr;simp only[Au,AU]at hSp hSq hSr;obtain⟨zp1,bsp⟩:=zp;obtain⟨zq1,bsq⟩:=zq;obtain⟨zr1,bsr⟩:=zr;simp only at hSp hSq hSr;subst hSp hSq hSr;have hO:=h5.obj _ (Bc hzp);obtain⟨hU,L,hL,hLs,hO⟩:=hO;have hcl:=Nh hc (h5.obj _ (Bc hzq)) hL;obtain⟨_,hU',A,d,e1,hs⟩:=hxa;injection e1 with e1
  obtain⟨hdc,cs,hcs,hold⟩:d=c/\∃cs,VCs m (l.take i) cs []/\(Builtin.firstCells inf.size i (.slice A i d)).run P m.w.drew= .ok cs.toArray m.w.drew:=by
   rcases hs L hL with⟨h7,e2,_,e3⟩|⟨h7,h8,o,e2,h9⟩
   ·injection e2 with e4 e5 e6
    subst e4 e6 e3;refine⟨?_,[],by simpa using⟨rfl,rfl⟩,by exact run_firstCells_none m.w.drew _ 0 0 0⟩;rcases hcl with⟨_,h⟩|⟨h,_⟩
    ·omega
    ·rw[h7]at h;cases h
   ·injection e2 with e4 e5 e6
    subst e4 e6
    have hcc:c=L.cap:=by
     rcases hcl with⟨h,_⟩|⟨_,h⟩
     ·rw[h7]at h;cases h
     ·exact h
    refine⟨by omega,?_⟩;rcases hO with⟨h10,_⟩|⟨hnil,arr,bs',hbs,hb2,harr,hlc,hcap,hw,hv⟩
    ·rw[h7]at h10;cases h10
    ·obtain⟨p1,p2,e7,h11,h12⟩:=VCs.take hw hv (k:=i) hi
     have h13:=(hfr.sub λe he=>Ad he).vcs h11;rw[h13]at h11;have ho:o=0:=by rw[h9 (.inr rfl),Fb]
     subst ho;have hsz0:l.length*sz<=arr.toList.length:=by rw[show arr.toList.length=arr.size from CJ,harr];exact Az _ hlc
     have hle:i*sz<=l.length*sz:=Az _ hi;refine⟨_,h11,run_firstCells_some (P:=P) m.w.drew inf.size i _ i _ _ ?_ λj v hj=>?_⟩
     ·rw[h3];simp only[BA];omega
     ·rw[FM,Af]
      rw[CZ]at hj;split at hj
      ·rw[CZ]at hj
       split at hj
       ·show m.w.cell? _=_
        simp only[World.cell?,hb2];rw[<-L0];exact hj
       ·cases hj
      ·cases hj
  subst hdc;have hgc:Builtin.nextslicecap (i+k) d*inf.bytes<=281474976710656:=growslice_fits hroom (by rw[h4];exact hb);have hkb:k*by_<=(i+k)*by_:=Az _ (by omega);have hrun:=L7 (P:=P) (ty:=ty) m.w ht hk hti hiz (by rw[hzs',h3]) A i d cs hold kq k (by omega) (by rw[h4];omega) (by rw[h3];exact Nat.ne_of_gt (Nat.mul_pos h0 hsz)) hroom (by omega) hgc;have hge:=grownCap_ge m.w (i+k) d te;have hcm:=grownCap_le_maxLen m.w (i+k) d te (by unfold maxLen;omega);obtain⟨G,hG⟩:=nm (grownCap m.w (i+k) d te);rw[hG]at hrun hge hcm;have hzc:∀j,(Builtin.zeroCells z.cells j).toList=(List.replicate j zl).flatten:=λj=>by rw[Builtin.zeroCells,Hg,hzl]
  have hwl:∀e∈l.take i,e.width=sz:=λe he=>by
   rcases hO with⟨_,h10,_⟩|⟨_,_,_,_,_,_,_,_,hw,_⟩
   ·rw[h10]at he;simp at he
   ·exact hw e (Ad he)
  have hti2:(l.take i).length=i:=by rw[BA];omega
  have hcl2:cs.length=i*sz:=by rw[VCs.len _ hcs,C6 hwl,hti2]
  obtain⟨R,hp1,hp2⟩:=DC hzr;have hlen:(l.take i++List.replicate k (zAV zl ag)).length=i+k:=by rw[Ax,hti2,Ci]
  obtain⟨G',hle⟩:=Lq (t:=te) (sz:=sz) (l:=l.take i++List.replicate k (zAV zl ag)) (arr:=(cs.toArray++Builtin.zeroCells z.cells k)++Builtin.zeroCells z.cells (G-(i+k))) (cap:=G) (h5.perm hp1).drew (by
    simp only[Array.toList_append,hzc,hlen];rw[Cy (by simp[hzs,hcl2,CW])];exact(VCs.mono (KG m) _ (λ_ _=>rfl) hcs).append (FA _ (IB _ ho hag) k)) (by
    simp only[Array.size_append,size_zeroCells,hzs',I9,hcl2];rw[<-CW,<-CW]
    congr 1
    omega) (by rw[hlen];exact hge) hcm (λe he=>by
    rcases AN.1 he with he|he
    ·exact hwl e he
    ·rw[Cg he,<-VC.len _ (IB m ho hag),hzs]) _ rfl
  unfold Oper.wp;rw[CK];simp only[builtin,D3,AR,Bj,e1,hya,AI,hrun,AA,AG];refine⟨_,N,W.set r ((Y,.row te sz (l.take i++List.replicate k (zAV zl ag))),[m.w.heap.size]),rfl,?_,G'.perm (hp2 _).symm,((h6.mono (KG m)).mono hle).put hd ?_⟩
  ·rw[A8,h2'];rfl
  ·refine⟨rfl,.inr rfl,_,_,rfl,λL' hL'=>?_⟩
   simp only[GK,AU]at hL';subst hL';exact .inr ⟨rfl,by simpa using hge,0,by simp,λ_=>by simp⟩
end
end
section
open Go.RowKit
section
variable {P:Program}{dst:Option Tmp}{ty t te tx:TypeId}{pos:String}{after:Array Edge}{g:Option (Nat×Bool)}{x y:Operand}{p q r sz X Y Z V:Nat}{l l2:List AV}
theorem OpT.overlaps{fn:Func}{tR:TypeId}{ats:Array TypeId}{m j k:Nat}(hf:P.funcs[f]?=some fn)(hname:(fn.name== "runtime.NumGoroutine")=false)(hb:fn.body.isNone=true)(hn:Extern.findNext fn=none)(hx0:Extern.find fn=some (Extern.SlicesOverlaps.overlaps #[t,t] #[tR]))
  (he:Dn P t=some te) (hsz:tSz P te=some sz) (h0:0<sz) (hm:0<m) (hk:0<k) (hpq:p≠q):
  OpT P ⟨dst,.call ⟨.value (.func f),#[x,y],ats⟩,ty,pos,after,g⟩ [(x,.sl V 0 m),(y,.sl X j k)] [(p,(V,.row te sz l2)),(q,(X,.row te sz l))] (.prim (.bool false)) []:=by
 intro nt m0 T S a w hx hS hd hr;obtain⟨m1,N,W,rfl,h2,h3,h4⟩:=hr;have h2':W.map (·.1)=S:=h2;have hxa:VV m1 (.sl V 0 m) (a.eval x) []:=h4.ev (hx (x,.sl V 0 m) (by simp));have hya:VV m1 (.sl X j k) (a.eval y) []:=h4.ev (hx (y,.sl X j k) (by simp));have hSp:=hS (p,(V,.row te sz l2)) (by simp);have hSq:=hS (q,(X,.row te sz l)) (by simp);rw[<-h2',Am]at hSp hSq;cases hzp:W[p]? with
 |none=>rw[hzp]at hSp;cases hSp
 |some zp=>
 cases hzq:W[q]? with
 |none=>rw[hzq]at hSq;cases hSq
 |some zq=>
  rw[hzp]at hSp;rw[hzq]at hSq;simp only[Au,AU]at hSp hSq;obtain⟨zp1,bsp⟩:=zp;obtain⟨zq1,bsq⟩:=zq;simp only at hSp hSq;subst hSp hSq;obtain⟨R,hp1,_⟩:=Hf hpq hzp hzq;have G:=h3.perm hp1;have hown:=G.own;obtain⟨_,L,hL,hLs,hO⟩:=G.obj _ (A4 ..);obtain⟨_,L2,hL2,hLs2,hO2⟩:=G.obj ((X,.row te sz l),bsq) (by simp);obtain⟨_,_,A,d,e1,hs⟩:=hxa;obtain⟨_,_,A2,d2,e2,hs2⟩:=hya;injection e1 with e1
  injection e2 with e2
  rcases hs L hL with⟨_,_,_,h⟩|⟨n1,c1,o1,v1,_⟩
  ·omega
  rcases hs2 L2 hL2 with⟨_,_,_,h⟩|⟨n2,c2,o2,v2,_⟩
  ·omega
  rcases hO with⟨h,_⟩|⟨_,arr,b1,rfl,hb1,hsz1,_⟩
  ·rw[n1]at h;cases h
  rcases hO2 with⟨h,_⟩|⟨_,arr2,b2,rfl,hb2,hsz2,_⟩
  ·rw[n2]at h;cases h
  have hne:L.blk≠L2.blk:=by
   intro e;rw[CF,CF]at hown;simp[e]at hown
  injection v1 with v1 _ _
  injection v2 with v2 _ _
  subst v1 v2
  have hrun:=Lib.run_overlaps_apart (P:=P) m1.w t tR te (CB he) sz (λw=>by
   unfold tSz at hsz;cases hq:P.info? te with
   |none=>rw[hq]at hsz;cases hsz
   |some i=>rw[hq]at hsz;injection hsz with hsz;simp[sizeOf,typeInfo,hq,hsz,AI,AG,AA]) ⟨L.blk,o1,none⟩ ⟨L2.blk,o2,none⟩ m d k d2 hne te te arr.size arr2.size (by simp[World.shape?,hb1]) (by simp[World.shape?,hb2]) (by rw[hsz2];exact Nat.ne_of_gt (Nat.mul_pos (by omega) h0)) (by simp[World.frozen?,hb1]) (by simp[World.frozen?,hb1])
  have hcall:=run_callFunc_extern (P:=P) hf hname hb hn hx0 #[a.eval x,a.eval y] m1.w;rw[e1,e2,hrun]at hcall
  have hexec:(execOp a.eval ⟨dst,.call ⟨.value (.func f),#[x,y],ats⟩,ty,pos,after,g⟩).run P m1.w= .ok (.value (.bool false)) m1.w:=by
   have ha:∀f,a.eval (.func f)= .func (.func f) #[] #[]:=λ_=>rfl
   simp[execOp,resolve,ha,Deferred.ofValue,invoke,e1,e2,hcall,AA]
  unfold Oper.wp;rw[hexec];exact⟨m1,N,W,rfl,h2,h3,h4.put hd (Cc _)⟩
end
section
variable {P:Program}{dst:Option Tmp}{ty t te tx ty2:TypeId}{pos:String}{after:Array Edge}{g:Option (Nat×Bool)}{x y:Operand}{p q r sz X Y Z V by_:Nat}{l l2:List AV}{T:List (Nat×AV)}{S:List AK}{c:Option (List Bool)}{k k' k0:IntKind}{qi qj:Int}
theorem W.copyO{j a i b:Nat}(n:Nat)[TEl P t te][TSize P te sz](hx:Rd c T x (.sl X j a))(hy:Rd c T y (.sl Y i b))(hSp:At S p (X,.row te sz l))(hSq:At S q (Y,.row te sz l2))(hpq:Nat.beq p q=false)(ha:0<a)(hb:0<b)(hk:n=min b a)(hj:j<=l.length)(hi:i+n<=l2.length)(hfr:FreeL l)(hfr2:FreeL l2)(hw2:∀e∈l2,e.width=sz):
  Stp c P ⟨dst,.call ⟨.builtin .copy,#[x,y],#[t,t]⟩,ty,pos,after,g⟩ T S [(x,.sl X j a),(y,.sl Y i b)] [(p,(X,.row te sz l)),(q,(Y,.row te sz l2))] (.prim (.int .i64 n)) [(p,(X,.row te sz (l.take j++(l2.drop i).take n++l.drop (j+n))))]:=
 ⟨.copyO n TEl.h TSize.h ha hb hk hj hi hfr hfr2 hw2 (Nat.ne_of_beq_eq_false hpq),.cons hx (.cons hy .nil),.cons hSp (.cons hSq .nil)⟩
theorem W.copyS{j a i b:Nat}(n:Nat)[TEl P t te][TSize P te sz](hx:Rd c T x (.sl X j a))(hy:Rd c T y (.sl X i b))(hSp:At S p (X,.row te sz l))(ha:0<a)(hb:0<b)(hk:n=min b a)(hj:j<=l.length)(hi:i+n<=l.length)(hfr:FreeL l)(hw2:∀e∈l,e.width=sz):
  Stp c P ⟨dst,.call ⟨.builtin .copy,#[x,y],#[t,t]⟩,ty,pos,after,g⟩ T S [(x,.sl X j a),(y,.sl X i b)] [(p,(X,.row te sz l))] (.prim (.int .i64 n)) [(p,(X,.row te sz (l.take j++(l.drop i).take n++l.drop (j+n))))]:=
 ⟨.copyS n TEl.h TSize.h ha hb hk hj hi hfr hw2,.cons hx (.cons hy .nil),.cons hSp .nil⟩
theorem W.cap{n cc:Nat}[TEl P t te](hc:MO cc u0)(hx:Rd c T x (.sl X 0 n))(hSp:At S p (X,.row te sz l))(hSq:At S q (Z,.tv (HP X cc u0))):
  Stp c P ⟨dst,.call ⟨.builtin .cap,#[x],#[t]⟩,ty,pos,after,g⟩ T S [(x,.sl X 0 n)] [(p,(X,.row te sz l)),(q,(Z,.tv (HP X cc u0)))] (.prim (.int .i64 cc)) []:=
 ⟨.cap TEl.h hc,.cons hx .nil,.cons hSp (.cons hSq .nil)⟩
theorem LZ{n cc:Nat}(hi:Nat)[TEl P t te][TSize P te sz](hc:MO cc u0)(hx:Rd c T x (.sl X 0 n))(hy:Rd c T y (.prim (.int k qi)))(hSp:At S p (X,.row te sz l))(hSq:At S q (Z,.tv (HP X cc u0)))(hq:qi=(hi:Int))(hh:hi<=cc):
  Stp c P ⟨dst,.slice t x none (some y) none,ty,pos,after,g⟩ T S [(x,.sl X 0 n),(y,.prim (.int k qi))] [(p,(X,.row te sz l)),(q,(Z,.tv (HP X cc u0)))] (.sl X 0 hi) []:=
 ⟨.slice_cap TEl.h TSize.h hc hq hh,.cons hx (.cons hy .nil),.cons hSp (.cons hSq .nil)⟩
theorem Nl{i cc:Nat}{ag:Bool}(n:Nat)[TRo P t te sz by_][TZe P te zl][TAg P te ag](hc:MO cc u0)(hx:Rd c T x (.sl X 0 i))(hy:Rd c T y (.prim (.int k qi)))(hSp:At S p (X,.row te sz l))(hSq:At S q (Z,.tv (HP X cc u0)))(hSr:At S r (Y,.gone))(hq:qi=(n:Int))(hag:ag=true\/zl.length=1)(hzs:zl.length=sz)(htx:Tq P tx=true)(h0:0<n)(hb:(i+n)*by_<=140737488355328)(hby:0<by_)(hroom:cc<i+n)(hi:i<=l.length)(hfr:FreeL l):
  Stp c P ⟨dst,.call ⟨.builtin .append,#[x,y],#[t,tx]⟩,ty,pos,after,g⟩ T S [(x,.sl X 0 i),(y,.prim (.int k qi))] [(p,(X,.row te sz l)),(q,(Z,.tv (HP X cc u0))),(r,(Y,.gone))] (.sl Y 0 (i+n)) [(r,(Y,.row te sz (l.take i++List.replicate n (zAV zl ag))))]:=
 ⟨.appz_grow TRo.h TZe.h hag hzs htx hq h0 hb hby hc hroom hi hfr,.cons hx (.cons hy .nil),.cons hSp (.cons hSq (.cons hSr .nil))⟩
theorem W.over{fn:Func}{tR:TypeId}{ats:Array TypeId}{m j n:Nat}[TEl P t te][TSize P te sz](hf:P.funcs[f]?=some fn)(hname:(fn.name== "runtime.NumGoroutine")=false)(hb:fn.body.isNone=true)(hn:Extern.findNext fn=none)(hx0:Extern.find fn=some (Extern.SlicesOverlaps.overlaps #[t,t] #[tR]))
  (hx:Rd c T x (.sl V 0 m)) (hy:Rd c T y (.sl X j n)) (hSp:At S p (V,.row te sz l2)) (hSq:At S q (X,.row te sz l)) (hpq:Nat.beq p q=false) (h0:0<sz) (hm:0<m) (hk:0<n):
  Stp c P ⟨dst,.call ⟨.value (.func f),#[x,y],ats⟩,ty,pos,after,g⟩ T S [(x,.sl V 0 m),(y,.sl X j n)] [(p,(V,.row te sz l2)),(q,(X,.row te sz l))] (.prim (.bool false)) []:=
 ⟨.overlaps hf hname hb hn hx0 TEl.h TSize.h h0 hm hk (Nat.ne_of_beq_eq_false hpq),.cons hx (.cons hy .nil),.cons hSp (.cons hSq .nil)⟩
theorem W.shr(n:Nat)(hx:Rd c T x (.prim (.int k qi)))(hy:Rd c T y (.prim (.int k' qj)))(hj:qj=(n:Int))(hn:n<=k.bits):
  Stp c P ⟨dst,.binOp .shr t x y ty2,ty,pos,after,g⟩ T S [(x,.prim (.int k qi)),(y,.prim (.int k' qj))] [] (.prim (.int k (qi.fdiv (2^n)))) []:=⟨.shr hj hn,.cons hx (.cons hy .nil),.nil⟩
theorem W.conv(k0 k':IntKind)(h1:P.underlying t=some (.int k0))(h2:P.underlying t2=some (.int k'))(hx:Rd c T x (.prim (.int k qi)))(hw:k'.wrap qi=qi):
  Stp c P ⟨dst,.convert t t2 x,ty,pos,after,g⟩ T S [(x,.prim (.int k qi))] [] (.prim (.int k' qi)) []:=⟨.conv h1 h2 hw,.cons hx .nil,.nil⟩
end
end
section
open Go.RowKit
section
variable {P:Program}{m0 m:Mem}{N X Y:Nat}{R:Zs}{ex:List Nat}{t te ty t2:TypeId}{sz by_:Nat}{l ls:List AV}{dst:Option Tmp}{pos:String}{after:Array Edge}{g:Option (Nat×Bool)}{x y z u:Operand}{p q:Nat}
theorem Kv(w:World)(a:Addr):(loadCells a 0).run P w= .ok #[] w:=by
 have:=Q3 (P:=P) w a [] (λj v h=>by simp at h);simpa using this
theorem OpT.appS{i j k:Nat}(he:Dn P t=some te)(hsz:tSz P te=some sz)(hk:0<k)(hi:i+k<=l.length)(hj:j+k<=l.length)(hfr:FreeL l)(hw2:∀e∈l,e.width=sz):
  OpT P ⟨dst,.call ⟨.builtin .append,#[x,y],#[t,t]⟩,ty,pos,after,g⟩ [(x,.sl X 0 i),(y,.sl X j k)] [(p,(X,.row te sz l))] (.sl X 0 (i+k)) [(p,(X,.row te sz (l.take i++(l.drop j).take k++l.drop (i+k))))]:=by
 intro nt m0 T S ac w hx hS hd hr;obtain⟨m,N,Z,rfl,h2,h3,h4⟩:=hr;have h2':Z.map (·.1)=S:=h2;have hxa:VV m (.sl X 0 i) (ac.eval x) []:=h4.ev (hx (x,.sl X 0 i) (by simp));have hya:VV m (.sl X j k) (ac.eval y) []:=h4.ev (hx (y,.sl X j k) (by simp));have hSp:=hS (p,(X,.row te sz l)) (by simp);rw[<-h2',Am]at hSp;cases hz:Z[p]? with
 |none=>rw[hz]at hSp;cases hSp
 |some z=>
  rw[hz]at hSp;simp only[Au,AU]at hSp;obtain⟨z1,bs⟩:=z;simp only at hSp;subst hSp;obtain⟨A2,q2,cs,e1,hcs,hcl,hsrc⟩:=Kd (h3.obj _ (Bc hz)) hya hk hfr hj;obtain⟨R,hp1,hp2⟩:=DC hz;have G1:=h3.perm hp1;have hO:=G1.obj _ (A4 ..);obtain⟨hU,L,hL,hLs,hO⟩:=hO;obtain⟨_,hU',A,q,e2,hsl⟩:=hxa;injection e2 with e2
  rcases hO with⟨h9,h10,_⟩|⟨hnil,arr,bs',rfl,hb2,harr,hlc,hcap,hw,hv⟩
  ·subst h10;simp at hi;omega
  rcases hsl L hL with⟨h5,_,_,_⟩|⟨h5,h6,o,h7,h8⟩
  ·rw[h5]at hnil;cases hnil
  have ho:=h8 (.inr rfl);injection h7 with h7 h9 h10
  subst h7;have hkl:((l.drop j).take k).length=k:=by rw[BA,Bb];omega
  have hns:∀e∈(l.drop j).take k,e.width=sz:=λe he=>hw2 e (Ae (Ad he))
  have hle:i+k<=L.cap:=by omega
  have hfit:i*sz+cs.length<=arr.size:=by rw[hcl,harr,<-CW];exact Az _ hle
  obtain⟨G2,hle2⟩:=Good.over G1 hL h5 rfl hb2 harr hlc hcap hLs hw hv hfr (off:=i) (by omega) (by rw[hkl];exact hle) hns hcs;rw[hkl]at G2;have hl:=Q3 (P:=P) m.w A2 cs hsrc;have hst:=J5 P L.blk (i*sz) te cs 0 arr m.w hb2 (by simpa using hfit) (VCs.ones _ hcs);have hu:=CB he;unfold tSz at hsz;rw[hcl]at hl
  have hrun:(Builtin.append_ #[t,t] ty #[ac.eval x,ac.eval y]).run P m.w= .ok (.slice (some ⟨L.blk,o,none⟩) (i+k) q) (m.w.setRow L.blk (arr.toList.take (i*sz)++cs++arr.toList.drop (i*sz+cs.length)).toArray):=by
   rw[show ac.eval y=_ from e1,show ac.eval x=_ from e2,ho];cases hq:P.info? te with
   |none=>rw[hq]at hsz;cases hsz
   |some inf=>
    rw[hq]at hsz;injection hsz with hsz
    have hqc:i+k<=q:=by omega
    have hst':=hst;simp only[Dp]at hst';simp[Builtin.append_,A7 hu,Builtin.lenOf,Builtin.firstCells,sizeOf,typeInfo,hq,hsz,hl,hqc,FM];rw[hst',AA];simp
  unfold Oper.wp;rw[CK];simp only[builtin,D3,AR,Bj,AI,hrun,AA,AG];refine⟨_,N,_,rfl,?_,G2.perm (hp2 _).symm,(h4.mono hle2).put hd ?_⟩
  ·rw[A8,h2'];rfl
  ·refine⟨rfl,hle2.U _ hU,_,_,rfl,λL' hL'=>?_⟩
   have:m.μ X=some L':=hL';rw[hL]at this;obtain rfl:=Tf this;exact .inr ⟨h5,by omega,o,by rw[h10],λ_=>ho⟩
theorem OpT.app0{i j:Nat}(he:Dn P t=some te)(hsz:tSz P te=some sz):
  OpT P ⟨dst,.call ⟨.builtin .append,#[x,y],#[t,t]⟩,ty,pos,after,g⟩ [(x,.sl X 0 i),(y,.sl X j 0)] [(p,(X,.row te sz l))] (.sl X 0 i) []:=
 .pure_ λm ac hx hS=>by
  obtain⟨bs,hO⟩:=hS (p,(X,.row te sz l)) (by simp);have hxa:=hx (x,.sl X 0 i) (by simp);have hya:=hx (y,.sl X j 0) (by simp);refine⟨ac.eval x,?_,hxa⟩;obtain⟨_,hU',A,q,e2,hsl⟩:=hxa;obtain⟨_,_,A2,q2,e3,_⟩:=hya;injection e2 with e2
  injection e3 with e3
  have hq:i<=q:=by
   obtain⟨hU,L,hL,hLs,hO⟩:=hO;rcases hsl L hL with⟨_,h5,_,h6⟩|⟨h5,h6,o,h7,h8⟩
   ·omega
   ·injection h7 with h7 h9 h10;omega
  have hu:=CB he;unfold tSz at hsz;rw[CK];simp only at e2 e3;cases hqi:P.info? te with
  |none=>rw[hqi]at hsz;cases hsz
  |some inf=>
   cases A2<;>cases A<;>simp[builtin,Builtin.append_,A7 hu,Builtin.lenOf,Builtin.firstCells,sizeOf,typeInfo,hqi,e2,e3,hq,Kv,storeCells,AI,AG,AA]
theorem OpT.app_nil(T:PK P t=some (te,sz,by_))(hb:ls.length*by_<=140737488355328)(hm:ls.length<=maxLen):OpT P ⟨dst,.call ⟨.builtin .append,#[x,y],#[t,t]⟩,ty,pos,after,g⟩ [(x,.prim (.slice none 0 0)),(y,.lst false t' sz ls)] [(q,(Y,.gone))] (.sl Y 0 ls.length) [(q,(Y,.row te sz ls))]:=by
 intro nt m0 T' S a w hx hS hd hr;obtain⟨m1,N1,Z1,rfl,h2,h3,h4⟩:=hr;have h2':Z1.map (·.1)=S:=h2;have hxa:=(h4.ev (hx (x,.prim (.slice none 0 0)) (by simp))).prim;have hya:VV m1 (.lst false t' sz ls) (a.eval y) []:=h4.ev (hx (y,.lst false t' sz ls) (by simp));have hSq:=hS (q,(Y,.gone)) (by simp);rw[<-h2',Am]at hSq;cases hz:Z1[q]? with
 |none=>rw[hz]at hSq;cases hSq
 |some z=>
  rw[hz]at hSq;simp only[Au,AU]at hSq;obtain⟨z1,bsY⟩:=z;simp only at hSq;subst hSq;obtain⟨R,hp1,hp2⟩:=DC hz;obtain⟨m,hmw,G,hle0,hvn⟩:=Good.adopt (h3.perm hp1) te sz;have G':=G.perm (DF ..);have hya2:VV m (.lst false t' sz ls) (a.eval y) []:=hya.mono hle0 (by simp);have hvn':VV m (.sl N1 0 ([]:List AV).length) (.slice none 0 0) []:=hvn;obtain⟨xs,bs0,hown,hv,hwl,hbs⟩:=NC (G'.obj ((N1,.row te sz []),[]) (by simp)) hvn';obtain⟨_,A,c,e1,hkc,hws,hrd⟩:=hya2;injection e1 with e1
  obtain⟨news,hnl,hnc,hnv⟩:∃news:List Value,news.length=ls.length*sz/\(0<ls.length->∃b off,A=some ⟨b,off,none⟩/\∀j u,news[j]?=some u->m.w.cell? ⟨b,off+j,none⟩=some u)/\VCs m ls news []:=by
   rcases Fy ls.length with h0|h0
   ·have:ls=[]:=Cz h0
    subst this;exact⟨[],by simp,λh=>absurd h (by simp),VCs.nil⟩
   ·obtain⟨b,off,arr,tt,r,hA,hF,hb,hc⟩:=hrd h0
    refine⟨_,by rw[VCs.len _ hc,C6 hws],λ_=>⟨b,off,hA,λj u hj=>?_⟩,hc⟩;rw[CZ]at hj;split at hj
    ·rw[Ca]at hj
     simp only[World.cell?,hb];simpa using hj
    ·cases hj
  obtain⟨v',w',hrun,hown',hg,hat⟩:=HF T m.w ty hown hkc hnl hnc (VCs.ones _ hnv) (by simpa using hb) (by simpa using hm);obtain⟨m',bs',hw',G2,hle,hv'⟩:=Good.app G' hv hnv (λe he=>by rcases AN.1 he with h|h;exact hwl e h;exact hws e h) hbs hown' hg hat
  have hex:(execOp a.eval ⟨dst,.call ⟨.builtin .append,#[x,y],#[t,t]⟩,ty,pos,after,g⟩).run P m1.w= .ok (.value v') w':=by
   rw[CK,<-hmw];simp only[builtin,D3,AR,Bj,e1,show a.eval x=_ from hxa,AI,hrun,AA,AG]
  unfold Oper.wp;rw[hex];have G3:=G2.sub (WJ _ _);simp only[Hr,Af,DX]at G3 hv';refine⟨m',N1+1,_,hw',?_,G3.perm (hp2 _).symm,(h4.mono (hle0.trans hle)).put hd hv'⟩;rw[A8,h2'];rfl
theorem OpT.slice_lohi{k k':IntKind}{off n lo hi:Nat}{qi qj:Int}(he:Dn P t=some te)(hsz:tSz P te=some sz)(hq:qi=(lo:Int))(hq':qj=(hi:Int))(hh:lo<=hi)(hl:off+hi<=l.length):OpT P ⟨dst,.slice t x (some y) (some z) none,ty,pos,after,g⟩ [(x,.sl X off n),(y,.prim (.int k qi)),(z,.prim (.int k' qj))] [(p,(X,.row t' sz l))] (.sl X (off+lo) (hi-lo)) []:=
 .pure_ λm a hx hS=>by
  obtain⟨bs,hU,L,h1,h2,hO⟩:=hS (p,(X,.row t' sz l)) (by simp);obtain⟨_,hU',A,c,e1,h3⟩:=hx (x,.sl X off n) (by simp);have hy:=(hx (y,.prim (.int k qi)) (by simp)).prim;have hz:=(hx (z,.prim (.int k' qj)) (by simp)).prim;injection e1 with e1
  simp only at e1 hy hz;subst hq hq'
  have hlc:l.length<=L.cap\/(L.isNil=true/\l=[]):=by
   rcases hO with⟨h4,h5,_⟩|⟨_,_,_,_,_,_,h6,_⟩
   ·exact .inr ⟨h4,h5⟩
   ·exact .inl h6
  have hcap:hi<=c:=by
   rcases h3 L h1 with⟨_,e,e2,e'⟩|⟨hnn,h4,o,e,_⟩
   ·rcases hO with⟨_,h5,_⟩|⟨h5,_⟩
    ·subst h5;simp at hl;omega
    ·simp_all
   ·injection e with _ _ e
    rcases hlc with h|⟨h,_⟩
    ·omega
    ·rw[hnn]at h;cases h
  have hr:=Ez (P:=P) (w:=m.w) he hsz (A:=A) (len:=n) (cap:=c) (lo:=lo) (hi:=hi) (vl:=some (.int k lo)) (vh:=some (.int k' hi)) (λu hu=>⟨k,by injection hu with hu;exact hu.symm⟩) (by simp) (λu hu=>⟨k',by injection hu with hu;exact hu.symm⟩) (by simp) hh hcap;refine⟨_,by simp only[execOp,Er,Au,e1,hy,hz,AI,hr,AA];rfl,rfl,hU',_,_,rfl,λL' hL'=>?_⟩;rw[h1]at hL';injection hL' with hL';subst hL'
  rcases h3 L h1 with⟨h5,e,e2,e3⟩|⟨h5,h4,o,e,h6⟩
  ·injection e with e4 e5 e6
   subst e4 e6;have:hi=0:=by omega
   subst this;have:lo=0:=by omega
   subst this;exact .inl ⟨h5,by simp,by omega,by omega⟩
  ·injection e with e4 e5 e6
   subst e4 e6;simp only[Au]
   have hlc':l.length<=L.cap:=by
    rcases hlc with h|⟨h,_⟩
    ·exact h
    ·rw[h5]at h;cases h
   by_cases hc:lo<L.cap-off
   ·refine .inr ⟨h5,by omega,o+lo*sz,?_,λ_=>?_⟩
    ·rw[Ah (by omega),FM]
     congr 1
     omega
    ·rw[h6 (.inl (by omega)),h2,CW]
   ·have hlo:lo=L.cap-off:=by omega
    refine .inr ⟨h5,by omega,o,by rw[A1 hlo.symm];congr 1;omega,λh=>?_⟩;rcases h with h|h
    ·omega
    ·have h0:off=0:=by omega
     subst h0;rw[h6 (.inr rfl)];have:lo=0:=by omega
     subst this;simp
theorem OpT.slice3{k k' k2:IntKind}{off n lo hi mx:Nat}{qi qj qm:Int}(he:Dn P t=some te)(hsz:tSz P te=some sz)(hq:qi=(lo:Int))(hq':qj=(hi:Int))(hqm:qm=(mx:Int))(hh:lo<=hi)(hm:hi<=mx)(hl:mx<=n):OpT P ⟨dst,.slice t x (some y) (some z) (some u),ty,pos,after,g⟩ [(x,.sl X off n),(y,.prim (.int k qi)),(z,.prim (.int k' qj)),(u,.prim (.int k2 qm))] [(p,(X,.row t' sz l))] .dead []:=
 .pure_ λm a hx hS=>by
  obtain⟨bs,hU,L,h1,h2,hO⟩:=hS (p,(X,.row t' sz l)) (by simp);obtain⟨_,hU',A,c,e1,h3⟩:=hx (x,.sl X off n) (by simp);have hy:=(hx (y,.prim (.int k qi)) (by simp)).prim;have hz:=(hx (z,.prim (.int k' qj)) (by simp)).prim;have hu:=(hx (u,.prim (.int k2 qm)) (by simp)).prim;injection e1 with e1
  simp only at e1 hy hz hu;subst hq hq' hqm
  have hcap:n<=c:=by
   rcases h3 L h1 with⟨_,e,_,e'⟩|⟨_,h4,o,e,_⟩
   ·omega
   ·injection e with _ _ e;omega
  have hte:=CB he;unfold tSz at hsz;cases hqi:P.info? te with
  |none=>rw[hqi]at hsz;cases hsz
  |some inf=>
   have b1:(0:Int)<=mx/\(mx:Int)<=c:=⟨by omega,by omega⟩;have b2:(0:Int)<=hi/\(hi:Int)<=mx:=⟨by omega,by omega⟩;have b3:(0:Int)<=lo/\(lo:Int)<=hi:=⟨by omega,by omega⟩;have n1:mx<=c:=by omega
   exact⟨_,by simp[n1,hm,hh,execOp,e1,hy,hz,hu,Instr.sliceAt,Instr.slice,Instr.sliceBounds,Instr.sliceBound,asIntOf,A7 hte,sizeOf,typeInfo,hqi,b1,b2,b3,AI,AG,AA];rfl,rfl⟩
end
end
section
open Go.RowKit
section
variable {P:Program}{ro:Option Nat}{nt:Nat}{ops:Array Oper}{Q:Exit->St->Prop}{rest:List Oper}{T:List (Nat×AV)}{S:List AK}{ty t te t2 t' ty2:TypeId}{pos:String}{after:Array Edge}{dst:Option Tmp}{c:Option (List Bool)}{g:Option (Nat×Bool)}{x y z u:Operand}{X Y p q sz by_:Nat}{l ls:List AV}{cd:Code}
theorem W.appS{i j:Nat}(n:Nat)[TEl P t te][TSize P te sz](h0:0<n)(hi:i+n<=l.length)(hj:j+n<=l.length)(hfr:FreeL l)(hw2:∀e∈l,e.width=sz)(hx:Rd c T x (.sl X 0 i))(hy:Rd c T y (.sl X j n))(hSp:At S p (X,.row te sz l)):
  Stp c P ⟨dst,.call ⟨.builtin .append,#[x,y],#[t,t]⟩,ty,pos,after,g⟩ T S [(x,.sl X 0 i),(y,.sl X j n)] [(p,(X,.row te sz l))] (.sl X 0 (i+n)) [(p,(X,.row te sz (l.take i++(l.drop j).take n++l.drop (i+n))))]:=
 ⟨.appS TEl.h TSize.h h0 hi hj hfr hw2,.cons hx (.cons hy .nil),.cons hSp .nil⟩
theorem W.app0{i j:Nat}[TEl P t te][TSize P te sz](hx:Rd c T x (.sl X 0 i))(hy:Rd c T y (.sl X j 0))(hSp:At S p (X,.row te sz l)):
  Stp c P ⟨dst,.call ⟨.builtin .append,#[x,y],#[t,t]⟩,ty,pos,after,g⟩ T S [(x,.sl X 0 i),(y,.sl X j 0)] [(p,(X,.row te sz l))] (.sl X 0 i) []:=
 ⟨.app0 TEl.h TSize.h,.cons hx (.cons hy .nil),.cons hSp .nil⟩
theorem Vf[TRo P t te sz by_](hb:ls.length*by_<=140737488355328)(hm:ls.length<=maxLen)(hx:Rd c T x (.prim (.slice none 0 0)))(hy:Rd c T y (.lst false t' sz ls))(hSq:At S q (Y,.gone)):
  Stp c P ⟨dst,.call ⟨.builtin .append,#[x,y],#[t,t]⟩,ty,pos,after,g⟩ T S [(x,.prim (.slice none 0 0)),(y,.lst false t' sz ls)] [(q,(Y,.gone))] (.sl Y 0 ls.length) [(q,(Y,.row te sz ls))]:=
 ⟨.app_nil TRo.h hb hm,.cons hx (.cons hy .nil),.cons hSq .nil⟩
theorem Nk{k k':IntKind}{off n lo hi:Nat}{qi qj:Int}[TEl P t te][TSize P te sz](hx:Rd c T x (.sl X off n))(hy:Rd c T y (.prim (.int k qi)))(hz:Rd c T z (.prim (.int k' qj)))(hSp:At S p (X,.row t' sz l))(hq:qi=(lo:Int))(hq':qj=(hi:Int))(hh:lo<=hi)(hl:off+hi<=l.length):
  Stp c P ⟨dst,.slice t x (some y) (some z) none,ty,pos,after,g⟩ T S [(x,.sl X off n),(y,.prim (.int k qi)),(z,.prim (.int k' qj))] [(p,(X,.row t' sz l))] (.sl X (off+lo) (hi-lo)) []:=
 ⟨.slice_lohi TEl.h TSize.h hq hq' hh hl,.cons hx (.cons hy (.cons hz .nil)),.cons hSp .nil⟩
theorem W.slice3{k k' k2:IntKind}{off n lo hi mx:Nat}{qi qj qm:Int}[TEl P t te][TSize P te sz](hx:Rd c T x (.sl X off n))(hy:Rd c T y (.prim (.int k qi)))(hz:Rd c T z (.prim (.int k' qj)))(hu:Rd c T u (.prim (.int k2 qm)))(hSp:At S p (X,.row t' sz l))(hq:qi=(lo:Int))(hq':qj=(hi:Int))(hqm:qm=(mx:Int))(hh:lo<=hi)(hm:hi<=mx)(hl:mx<=n):
  Stp c P ⟨dst,.slice t x (some y) (some z) (some u),ty,pos,after,g⟩ T S [(x,.sl X off n),(y,.prim (.int k qi)),(z,.prim (.int k' qj)),(u,.prim (.int k2 qm))] [(p,(X,.row t' sz l))] .dead []:=
 ⟨.slice3 TEl.h TSize.h hq hq' hqm hh hm hl,.cons hx (.cons hy (.cons hz (.cons hu .nil))),.cons hSp .nil⟩
end
end
section
section
variable {ro:Option Nat}{P:Program}{nt:Nat}{ops:Array Oper}{Q:Exit->St->Prop}{rest:List Oper}{T:List (Nat×AV)}{S:List AK}{ty t te:TypeId}{sz:Nat}{x y:Operand}{pos:String}{after:Array Edge}{dst:Option Tmp}
end
end
section
theorem C3{res:List ResultVar}{Sf:List AK}{r:AV}{S1:List AK}(rs rs':List AV)(c:CVs st.S rs rs' S1)(e:Md rs'=r:=by rfl)(h:ResVs P st res rs:=by(repeat (first|exact .nil|refine .cons (.tmp (by rfl)) (by rfl) ?_|refine .cons (.cell (by rfl) (by exact AY) TAg.h TSize.h (by exact rfl) (by exact rfl)) (by rfl) ?_)))(hS:Sf.Sublist S1:=by exact Av):Ends P res Sf (λr' S'=>r'=r/\S'=[]) st:=⟨rs,rs',S1,[],h,c,hS,e,rfl⟩
theorem CU{res:List ResultVar}{Sf:List AK}(rs:List AV)(S':List AK)(e:Q (Md rs) S')(h:ResVs P st res rs:=by(repeat (first|exact .nil|refine .cons (.tmp (by rfl)) (by rfl) ?_|refine .cons (.cell (by rfl) (by exact AY) TAg.h TSize.h (by exact rfl) (by exact rfl)) (by rfl) ?_)))(hS:(S'++Sf).Sublist st.S:=by exact Av):Ends P res Sf Q st:=⟨rs,rs,st.S,S',h,P6 _ _,hS,e⟩
theorem Jh{ro:Option Nat}{nt:Nat}{c d:Code}{Q Q2:Exit->St->Prop}(R:β->Prop)(inv:β->St)(h1:AWP ro P nt c (andThen (λst'=>∃b,R b/\st'.Le (inv b)) Q2) st)(h2:∀b,R b->AWP ro P nt d Q (inv b)):AWP ro P nt c (andThen (AWP ro P nt d Q) Q2) st:=
 AWP.mono h1 λe st' h=>by
  cases e
  case normal=>obtain⟨b,hb,hl⟩:=h;exact AWP.weak hl (h2 b hb)
  all_goals exact h
theorem jnR{R:β->Prop}{inv:β->St}(b:β)(hR:R b)(h0:st.Le (inv b):=by exact⟨by exact EL,by exact Av⟩):∃b,R b/\st.Le (inv b):=⟨b,hR,h0⟩
theorem Ro{ro:Option Nat}{nt id:Nat}{c d:Code}{Q Q2:Exit->St->Prop}(R:β->Prop)(inv:β->St)(h1:AWP ro P nt c (λe st'=>e= .normal/\∃b,R b/\st'.Le (inv b)) st)(h2:∀b,R b->AWP ro P nt d Q (inv b)):AWP ro P nt c (inB id (andThen (AWP ro P nt d Q) Q2)) st:=
 AWP.mono h1 λe st' ⟨he,b,hb,hl⟩=>by subst he;exact AWP.weak hl (h2 b hb)
section
variable {P:Program}{dst:Option Tmp}{ty t ty2:TypeId}{pos:String}{after:Array Edge}{g:Option (Nat×Bool)}{T:List (Nat×AV)}{S:List AK}{c:Option (List Bool)}{x y:Operand}{i j:Int}
theorem Jb(k:Int)(h:i*j=k)(hr: -9223372036854775808<=k/\k<=9223372036854775807)(hx:Rd c T x (.prim (.int .i64 i)))(hy:Rd c T y (.prim (.int .i64 j))):Stp c P ⟨dst,.binOp .mul t x y ty2,ty,pos,after,g⟩ T S [(x,.prim (.int .i64 i)),(y,.prim (.int .i64 j))] [] (.prim (.int .i64 k)) []:=h▸W.mul hx hy (h▸hr)
theorem La(a b:Nat)(k:Nat)(hi:i=(a:Int))(hj:j=(b:Int))(h0:0<b)(h:a/b=k)(hr:a<=9223372036854775807)(hx:Rd c T x (.prim (.int .i64 i)))(hy:Rd c T y (.prim (.int .i64 j))):Stp c P ⟨dst,.binOp .quo t x y ty2,ty,pos,after,g⟩ T S [(x,.prim (.int .i64 i)),(y,.prim (.int .i64 j))] [] (.prim (.int .i64 (k:Int))) []:=by
 have h1:IntKind.i64.wrap (i.tdiv j)=(k:Int):=by
  subst hi hj h;rw[<-Int.ofNat_tdiv];have:=Nat.div_le_self a b;generalize a/b=q at this⊢;exact E9 (by omega) (by omega)
 exact h1▸W.quoW hx hy (by omega)
end
end
section
abbrev uA(x:UInt64):AV:=.prim (.int .u64 ((x.toNat:Nat):Int))
section
variable {P:Program}{dst:Option Tmp}{ty t ty2:TypeId}{pos:String}{after:Array Edge}{g:Option (Nat×Bool)}{T:List (Nat×AV)}{S:List AK}{c:Option (List Bool)}{x y:Operand}{i j:Int}{k k':IntKind}{a b:UInt64}
theorem OpT.res{o:Oper}{xs:List (Operand×AV)}{rS wS:List (Nat×AK)}{r r':Int}(h:OpT P o xs rS (.prim (.int k r)) wS)(e:r=r'):OpT P o xs rS (.prim (.int k r')) wS:=e▸h
theorem JH(a:UInt64):a.toNat<18446744073709551616:=a.toNat_lt
theorem NB{bop:BinOp}(hb:bop= .and\/bop= .or\/bop= .xor):OpT P ⟨dst,.binOp bop t x y ty2,ty,pos,after,g⟩ [(x,.prim (.int k i)),(y,.prim (.int k j))] [] (.prim (.int k (bits bop k i j))) []:=
 Cx rfl (λw=>by
  rcases hb with rfl|rfl|rfl
  ·rw[binOp_and,intBits_and];rfl
  ·rw[binOp_or,intBits_or];rfl
  ·rw[binOp_xor,intBits_xor];rfl) (.inl (by rcases hb with rfl|rfl|rfl<;>exact⟨by simp,by simp⟩))
theorem Vg(hx:Rd c T x (uA a))(hy:Rd c T y (uA b)):Stp c P ⟨dst,.binOp .and t x y ty2,ty,pos,after,g⟩ T S [(x,uA a),(y,uA b)] [] (uA (a&&&b)) []:=by
 have h:=u64_and_nat a.toNat b.toNat (JH a) (JH b);rw[<-UInt64.toNat_and]at h;exact⟨.res (NB (.inl rfl)) h,.cons hx (.cons hy .nil),.nil⟩
theorem Py(hx:Rd c T x (uA a))(hy:Rd c T y (uA b)):Stp c P ⟨dst,.binOp .xor t x y ty2,ty,pos,after,g⟩ T S [(x,uA a),(y,uA b)] [] (uA (a^^^b)) []:=by
 have h:=u64_xor_nat a.toNat b.toNat (JH a) (JH b);rw[<-UInt64.toNat_xor]at h;exact⟨.res (NB (.inr (.inr rfl))) h,.cons hx (.cons hy .nil),.nil⟩
theorem Rz(n:Int):IntKind.u64.wrap n=n%18446744073709551616:=Lz n
theorem Vd(hx:Rd c T x (uA a))(hy:Rd c T y (uA b)):Stp c P ⟨dst,.binOp .sub t x y ty2,ty,pos,after,g⟩ T S [(x,uA a),(y,uA b)] [] (uA (a-b)) []:=by
 have h:IntKind.u64.wrap ((a.toNat:Int)-b.toNat)=(((a-b).toNat:Nat):Int):=by
  have h1:=JH a;have h2:=JH b;rw[Rz,UInt64.toNat_sub];omega
 exact⟨.res (GC) h,.cons hx (.cons hy .nil),.nil⟩
theorem Pz(n:Nat)(hn:n<64)(hx:Rd c T x (uA a))(hy:Rd c T y (.prim (.int k' j)))(hj:j=(n:Int)):Stp c P ⟨dst,.binOp .shl t x y ty2,ty,pos,after,g⟩ T S [(x,uA a),(y,.prim (.int k' j))] [] (uA (a<<<UInt64.ofNat n)) []:=by
 have h:IntKind.u64.wrap ((a.toNat:Int)*2^n)=(((a<<<UInt64.ofNat n).toNat:Nat):Int):=by
  rw[Rz,WH,C2,show n%2^64%64=n by omega,Nat.shiftLeft_eq,Int.natCast_emod,Ti,Int.natCast_pow];rfl
 exact⟨.res (OpT.shl hj (by show n<=64;omega)) h,.cons hx (.cons hy .nil),.nil⟩
theorem TA(n:Nat)(hn:n<64)(hx:Rd c T x (uA a))(hy:Rd c T y (.prim (.int k' j)))(hj:j=(n:Int)):Stp c P ⟨dst,.binOp .shr t x y ty2,ty,pos,after,g⟩ T S [(x,uA a),(y,.prim (.int k' j))] [] (uA (a>>>UInt64.ofNat n)) []:=by
 have h:(a.toNat:Int).fdiv (2^n)=(((a>>>UInt64.ofNat n).toNat:Nat):Int):=by
  rw[Vq,C2,show n%2^64%64=n by omega,VB,E6 _ (Int.pow_nonneg (by decide)),Int.natCast_ediv,Int.natCast_pow];rfl
 exact⟨.res (OpT.shr hj (by show n<=64;omega)) h,.cons hx (.cons hy .nil),.nil⟩
theorem OpT.convW{k0:IntKind}(h1:P.underlying t=some (.int k0))(h2:P.underlying t2=some (.int k')):OpT P ⟨dst,.convert t t2 x,ty,pos,after,g⟩ [(x,.prim (.int k i))] [] (.prim (.int k' (k'.wrap i))) []:=
 .pure_ λm a hx _=>by
  have e1:=(hx (x,.prim (.int k i)) (by simp)).prim;refine⟨.int k' (k'.wrap i),?_,Cc _ rfl⟩;simp only at e1;simp[execOp,e1,convert,A7 h1,A7 h2,Conv.intToInt,AI,AG,AA]
theorem W.convW(k0 k':IntKind)(r:Int)(h1:P.underlying t=some (.int k0))(h2:P.underlying t2=some (.int k'))(hw:k'.wrap i=r)(hx:Rd c T x (.prim (.int k i))):Stp c P ⟨dst,.convert t t2 x,ty,pos,after,g⟩ T S [(x,.prim (.int k i))] [] (.prim (.int k' r)) []:=⟨.res (OpT.convW h1 h2) hw,.cons hx .nil,.nil⟩
theorem LY(k0:IntKind)(n:Nat)(hi:i=(n:Int))(hn:n<18446744073709551616)(h1:P.underlying t=some (.int k0))(h2:P.underlying t2=some (.int .u64))(hx:Rd c T x (.prim (.int k i))):Stp c P ⟨dst,.convert t t2 x,ty,pos,after,g⟩ T S [(x,.prim (.int k i))] [] (uA (UInt64.ofNat n)) []:=by
 refine W.convW k0 .u64 _ h1 h2 ?_ hx;rw[Rz,C2,Nat.mod_eq_of_lt (by omega)];omega
theorem Ve(k0:IntKind)(hn:a.toNat<9223372036854775808)(h1:P.underlying t=some (.int k0))(h2:P.underlying t2=some (.int .i64))(hx:Rd c T x (uA a)):Stp c P ⟨dst,.convert t t2 x,ty,pos,after,g⟩ T S [(x,uA a)] [] (.prim (.int .i64 ((a.toNat:Nat):Int))) []:=
 W.convW k0 .i64 _ h1 h2 (E9 (by omega) (by omega)) hx
end
end
section
mutual
def AV.loose:AV->Bool
 |.prim _=>true
 |.dead=>true
 |.agg cs=>C8 cs
 |.tup vs=>C8 vs
 |.lst o _ _ l=>(o||l.isEmpty)&&C8 l
 |.bx _ a=>AV.loose a
 |.fn _ cap=>C8 cap
 |_=>false
def C8:List AV->Bool
 |[]=>true
 |a::as=>AV.loose a&&C8 as
end
theorem IK{α:Type}{f:α->AV}(h:∀a,(f a).loose=true)(l:List α):C8 (l.map f)=true:=by
 induction l with
 |nil=>rfl
 |cons a l ih=>rw[AR,C8,h a,ih];rfl
section
variable {m m':Mem}
mutual
theorem VC.loose(hw:m'.w=m.w):(a:AV)->{c:List Value}->{bs:List Nat}->a.loose=true->VC m a c bs->VC m' a c bs
 |.prim _,_,_,_,k=>k
 |.dead,_,_,_,k=>k
 |.agg cs,_,_,h,k=>VCs.loose hw cs h k
 |.tup cs,_,_,_,k=>k.elim
 |.opt _ _,_,_,_,k=>k.elim
 |.lst false t sz [],_,_,_,⟨e,A,cap,e1,e2,e3,k⟩=>⟨e,A,cap,e1,e2,e3,λh0=>absurd h0 (by simp)⟩
 |.lst false t sz (a::l),_,_,h,k=>by simp[AV.loose]at h
 |.lst true t sz l,_,_,_,.inl k=>.inl k
 |.lst true t sz l,_,_,h,.inr ⟨g,cap,arr,bs',e1,e2,e3,e4,e5,e6,e7,k⟩=>.inr ⟨g,cap,arr,bs',e1,e2,by rw[hw];exact e3,e4,e5,e6,e7,VCs.loose hw l (by simpa[AV.loose]using h) k⟩
 |.bx t a,_,_,h,⟨g,arr,bs',e1,e2,e3,e4,k⟩=>⟨g,arr,bs',e1,e2,by rw[hw];exact e3,e4,VC.loose hw a (by simpa[AV.loose]using h) k⟩
 |.sl x off len,_,_,h,k=>by simp[AV.loose]at h
 |.ptr x i j,_,_,h,k=>by simp[AV.loose]at h
 |.fp cs,_,_,h,k=>by simp[AV.loose]at h
 |.fn f cap,_,_,h,⟨vs,e,k⟩=>⟨vs,e,VCs.loose hw cap (by simpa[AV.loose]using h) k⟩
 |.mp x,_,_,h,k=>by simp[AV.loose]at h
theorem VCs.loose(hw:m'.w=m.w):(as:List AV)->{c:List Value}->{bs:List Nat}->C8 as=true->VCs m as c bs->VCs m' as c bs
 |[],_,_,_,k=>k
 |a::as,_,_,h,⟨c1,c2,b1,b2,e1,e2,k1,k2⟩=>⟨c1,c2,b1,b2,e1,e2,VC.loose hw a (by simp[C8]at h;exact h.1) k1,VCs.loose hw as (by simp[C8]at h;exact h.2) k2⟩
end
theorem M7(hw:m'.w=m.w){a:AV}(hn:ntup a=true)(h:a.loose=true)(k:VV m a v bs):VV m' a v bs:=by
 cases a
 case agg cs=>obtain⟨cells,e,k⟩:=k;exact⟨cells,e,VCs.loose hw cs h k⟩
 case tup cs=>cases hn
 case opt c b=>cases hn
 case dead=>exact k
 all_goals exact VC.loose hw _ h k
theorem VTs.loose(hw:m'.w=m.w):{as:List AV}->{vs:List Value}->{bs:List Nat}->C8 as=true->VTs m as vs bs->VTs m' as vs bs
 |[],_,_,_,k=>k
 |a::as,_,_,h,k=>by
  have ha:=VTs.ntup k;simp only[C8,AE]at h;obtain⟨v,vs',b1,b2,e1,e2,k1,k2⟩:=(B8 ha).1 k;exact(B8 ha).2 ⟨v,vs',b1,b2,e1,e2,M7 hw ha h.1 k1,VTs.loose hw h.2 k2⟩
theorem VV.loose(hw:m'.w=m.w){a:AV}(h:a.loose=true)(k:VV m a v bs):VV m' a v bs:=by
 cases a
 case tup cs=>obtain⟨vs,e,k⟩:=k;exact⟨vs,e,VTs.loose hw h k⟩
 case opt c b=>simp[AV.loose]at h
 all_goals exact M7 hw rfl h k
end
def Mem.lent(m:Mem)(Z:Zs):Mem:=⟨m.μ,m.U,m.w,λb=>m.F b\/b∈Z.own⟩
theorem Mem.le_lent(m:Mem)(Z:Zs):m.Le (m.lent Z):=⟨λ_ h=>h,λ_ _ _ h=>h,λb h=>⟨.inl h,rfl⟩⟩
theorem Spec.lendG{args args':List AV}(h:Spec P f args [] Q)(hQ:∀r S',Q r S' ->r.loose=true/\S'=[])
  (hv:∀(m:Mem) (Z:Zs) (Sf:List AK),(∀z∈Z,ORel m z.1.1 z.1.2 z.2)->Z.map (·.1)=S++Sf->∀us,VTs m args' us []->VTs (m.lent Z) args us []):
  Spec P f args' S λr S'=>Q r []/\S'=S:=
 ⟨h.fn,λSf m N Z vals h1 h2 h3=>by
  have G1:Good (m.lent Z) (m.lent Z) N [] []:=by
   refine⟨(λz hz=>by cases hz),by simp[Zs.own],(λb hb=>by simp[Zs.own]at hb),λb hb=>?_,by simp[Zs.keys],(λx hx=>by simp[Zs.keys]at hx),h2.usedN,.refl _,rfl,rfl,rfl,AP _⟩;rcases hb with hb|hb
   ·exact h2.frz b hb
   ·exact(h2.blk b (by simpa using hb)).1
  refine(h.run [] (m.lent Z) N [] vals rfl G1 (hv m Z Sf h2.obj h1 _ h3)).mono ?_;rintro e w' ⟨v,r,S',m2,N',Z',br,rfl,rfl,hm,G2,hr,hq⟩;obtain⟨hl,rfl⟩:=hQ r S' hq;have hZ:Z'=[]:=by simpa using hm
  subst hZ;have hF:∀b,m.F b\/b∈Z.own->m2.F b/\m2.w.heap[b]?=m.w.heap[b]?:=λb hb=>G2.le.F b hb
  have hbr:∀b∈br,b<m2.w.heap.size/\¬m2.F b:=λb hb=>G2.blk b (by simpa[Zs.own]using hb)
  refine⟨v,r,S,⟨m.μ,m.U,m2.w,m.F⟩,N,Z,br,rfl,rfl,h1,?_,VV.loose (m:=m2) (m':=⟨m.μ,m.U,m2.w,m.F⟩) rfl hl hr,hq,rfl⟩;have hle:m.Le ⟨m.μ,m.U,m2.w,m.F⟩:=⟨λ_ h=>h,λ_ _ _ h=>h,λb hb=>⟨hb,(hF b (.inl hb)).2⟩⟩;refine⟨λz hz=>?_,?_,λb hb=>?_,λb hb=>?_,h2.keys,h2.keyN,h2.usedN,hle,G2.os,G2.tape,G2.output,G2.size⟩
  ·refine ORel.mono hle (λe=>?_) (λL hL=>hL) (λb hb=>(hF b (.inr (Dc.2 ⟨z,hz,hb⟩))).2) (h2.obj z hz)
   have:=h2.obj z hz;rw[e]at this;exact this.2
  ·rw[AL]
   refine⟨by simpa using h2.own,by simpa[Zs.own]using G2.own,λa ha b hb e=>?_⟩;subst e;exact(hbr a hb).2 (hF a (.inr ha)).1
  ·rcases AN.1 hb with hb|hb
   ·have:=h2.blk b (by simpa using hb)
    exact⟨Eh this.1 G2.size,this.2⟩
   ·exact⟨(hbr b hb).1,λhf=>(hbr b hb).2 (hF b (.inl hf)).1⟩
  ·exact Eh (h2.frz b hb) G2.size⟩
mutual
inductive Ld(S:List AK):AV->AV->Prop
 |frz {a:AV}:Ld S a a.frz
 |nil {t:TypeId} {sz:Nat}:Ld S (.prim (.slice none 0 0)) (.lst false t sz [])
 |agg {as bs:List AV} (h:Lds S as bs):Ld S (.agg as) (.agg bs)
 |lst {o:Bool} {t:TypeId} {sz:Nat} {l l':List AV} (h:Lds S l l'):Ld S (.lst o t sz l) (.lst false t sz l')
 |sl {X off n p:Nat} {t:TypeId} {sz:Nat} {l l':List AV} (h:At S p (X,.row t sz l)) (hn:off+n<=l.length) (k:Lds S ((l.drop off).take n) l'):Ld S (.sl X off n) (.lst false t sz l')
 |ptr {X p:Nat} {t:TypeId} {sz:Nat} {a b:AV} {cs:List AV} (h:At S p (X,.row t sz [a])) (k:Ld S a b) (e:b.cells=cs):Ld S (.ptr X 0 0) (.fp cs)
inductive Lds(S:List AK):List AV->List AV->Prop
 |nil:Lds S [] []
 |cons {a b:AV} {as bs:List AV} (h:Ld S a b) (k:Lds S as bs):Lds S (a::as) (b::bs)
end
theorem Lds.len:∀{as bs:List AV},Lds S as bs->bs.length=as.length
 |[],_,h=>by cases h;rfl
 |a::as,_,h=>by cases h with|cons h k=>simp[Lds.len k]
mutual
theorem Ld.width:∀{a b:AV},Ld S a b->b.width=a.width
 |_,_,.frz=>Fj _
 |_,_,.nil=>rfl
 |_,_,.agg h=>Lds.widths h
 |_,_,.lst _=>rfl
 |_,_,.sl _ _ _=>rfl
 |_,_,.ptr _ _ _=>rfl
theorem Lds.widths:∀{as bs:List AV},Lds S as bs->AV.widths bs=AV.widths as
 |_,_,.nil=>rfl
 |_,_,.cons h k=>by simp only[AV.widths,Ld.width h,Lds.widths k]
end
theorem Lds.wsz{sz:Nat}:∀{a b:List AV},Lds S a b->(∀e∈a,e.width=sz)->∀e∈b,e.width=sz
 |_,_,.nil,_,e,he=>by cases he
 |a::as,b::bs,.cons h k,hw,e,he=>by
  rcases AW.1 he with rfl|he
  ·rw[Ld.width h];exact hw a (by simp)
  ·exact Lds.wsz k (λx hx=>hw x (by simp[hx])) e he
section
variable {m:Mem}{S Sf:List AK}{Z:Zs}
theorem QQ(hO:∀z∈Z,ORel m z.1.1 z.1.2 z.2)(hm:Z.map (·.1)=S++Sf){p X:Nat}{sz:Nat}(h:At S p (X,.row t sz l)):∃bs,ORel m X (.row t sz l) bs/\∀b∈bs,b∈Z.own:=by
 have hg:=h.get;obtain⟨hp,_⟩:=AC.1 hg;have h2:(Z.map (·.1))[p]?=some (X,.row t sz l):=by rw[hm,B5 hp];exact hg
 rw[Am]at h2;cases hz:Z[p]? with
 |none=>rw[hz]at h2;cases h2
 |some z=>
  rw[hz]at h2;injection h2 with h2
  have hzm:=Bc hz;have:=hO z hzm;have h2:z.1=(X,AO.row t sz l):=h2;rw[h2]at this;exact⟨z.2,this,λb hb=>Dc.2 ⟨z,hzm,hb⟩⟩
mutual
theorem Ld.vc(hO:∀z∈Z,ORel m z.1.1 z.1.2 z.2)(hm:Z.map (·.1)=S++Sf):∀{a b:AV},Ld S a b->∀{c:List Value} {bs:List Nat},(∀x∈bs,x∈Z.own)->VC m a c bs->VC (m.lent Z) b c []
 |_,_,.frz,c,bs,hb,k=>VC.frz (m.le_lent Z) _ (λb hbb=>⟨.inr (hb b hbb),rfl⟩) k
 |_,_,.nil,c,bs,hb,k=>by
  obtain⟨⟨rfl,_⟩,_⟩:=k;exact⟨rfl,none,0,rfl,AP _,(λe he=>by cases he),λh=>absurd h (by simp)⟩
 |_,_,.agg h,c,bs,hb,k=>Lds.vcs hO hm h hb k
 |_,_,.lst (o:=false) (l':=l') h,c,bs,hb,⟨e,A,cap,e1,e2,e3,k⟩=>by
  refine⟨rfl,A,cap,by rw[h.len];exact e1,by rw[h.len];exact e2,h.wsz e3,λh0=>?_⟩;rw[h.len]at h0⊢;obtain⟨b,off,arr,t,r,q1,q2,q3,q4⟩:=k h0;exact⟨b,off,arr,t,r,q1,.inl q2,q3,Lds.vcs hO hm h (by simp) q4⟩
 |_,_,.lst (o:=true) h,c,bs,hb,.inl ⟨e1,e2,e3⟩=>by
  subst e2;cases h;exact⟨rfl,none,0,e1,AP _,(λe he=>by cases he),λh=>absurd h (by simp)⟩
 |_,_,.lst (o:=true) h,c,bs,hb,.inr ⟨g,cap,arr,bs',e1,e2,e3,e4,e5,e6,e7,k⟩=>by
  refine⟨rfl,some ⟨g,0,none⟩,cap,by rw[h.len];exact e1,by rw[h.len];exact e5,h.wsz e7,λh0=>?_⟩;rw[h.len];exact⟨g,0,arr,_,(0,0),rfl,.inr (hb g (by simp[e2])),e3,Lds.vcs hO hm h (λx hx=>hb x (by rw[e2];exact G8 _ hx)) (by rw[Dq];exact k)⟩
 |_,_,.sl (off:=off) (n:=n) (l:=l) (l':=l') h hn hl,c,bs,hb,⟨_,hU,A,q,e1,hs⟩=>by
  obtain⟨bs2,hR,hb2⟩:=QQ hO hm h;obtain⟨_,L,hL,hsz,hR⟩:=hR;have hfl:l'.length=n:=by rw[hl.len,BA,Bb];omega
  refine⟨rfl,A,q,by rw[hfl];exact e1,?_,?_,λh0=>?_⟩
  ·rcases hs L hL with⟨_,h2,_,h3⟩|⟨_,h2,o,h3,_⟩
   ·omega
   ·injection h3 with h4 h5 h6
    omega
  ·refine hl.wsz λe he=>?_
   rcases hR with⟨_,rfl,_⟩|⟨_,arr,bs',_,_,_,_,_,hw,_⟩
   ·simp at he
   ·exact hw e (Ae (Ad he))
  ·rw[hfl]at h0⊢
   rcases hs L hL with⟨_,_,_,h3⟩|⟨h1,h2,o,h3,h4⟩
   ·omega
   ·rcases hR with⟨_,rfl,_⟩|⟨_,arr,bs',rfl,h6,h7,h8,h9,h10,h11⟩
    ·simp at hn;omega
    ·injection h3 with h12 h13 h14
     have ho:=h4 (.inl (by omega));obtain⟨p1,p2,e1,_,k1⟩:=VCs.take h10 h11 (k:=off) (by omega);obtain⟨p3,p4,e2,k2,_⟩:=VCs.take (l:=l.drop off) (λe he=>h10 e (Ae he)) k1 (k:=n) (by rw[Bb];omega);refine⟨L.blk,o,arr,_,(0,0),h12,.inr (hb2 _ (by simp)),h6,?_⟩
     have hc:(arr.toList.drop o).take (n*L.sz)=((arr.toList.take (l.length*L.sz)).drop (off*L.sz)).take (n*L.sz):=by
      rw[ho,Ee,Cj,BJ];rw[<-Nat.sub_mul];exact Az _ (by omega)
     subst hsz;rw[hc];exact Lds.vcs hO hm hl (λx hx=>hb2 x (by simp[e1,e2,hx])) k2
 |_,_,.ptr (a:=a) (b:=b) h hl e,c,bs,hb,⟨_,hU,A,e1,hA⟩=>by
  subst e;obtain⟨bs2,hR,hb2⟩:=QQ hO hm h;obtain⟨_,L,hL,hsz,hR⟩:=hR;have hA:=hA L hL;subst hA;rcases hR with⟨_,h5,_⟩|⟨_,arr,bs',rfl,h6,h7,h8,h9,h10,h11⟩
  ·cases h5
  ·have hw:=h10 a (by simp)
   have hv:VC m a (arr.toList.take a.width) bs':=by rw[hw];simpa using VCs.one.1 h11
   have hf:=VC.cells (Ld.vc hO hm hl (λx hx=>hb2 x (by simp[hx])) hv);refine⟨rfl,L.blk,0*L.sz+0,arr,_,(0,0),e1,.inr (hb2 _ (by simp)),h6,?_⟩
   have hl2:AV.widths b.cells=a.width:=by
    rw[<-VCs.len _ hf,BA,BJ];have:=VC.len _ hv;rw[BA]at this;omega
   rw[hl2];simpa using hf
theorem Lds.vcs(hO:∀z∈Z,ORel m z.1.1 z.1.2 z.2)(hm:Z.map (·.1)=S++Sf):∀{as bs:List AV},Lds S as bs->∀{c:List Value} {bl:List Nat},(∀x∈bl,x∈Z.own)->VCs m as c bl->VCs (m.lent Z) bs c []
 |_,_,.nil,c,bl,hb,⟨e,_⟩=>⟨e,rfl⟩
 |_,_,.cons h k,c,bl,hb,⟨c1,c2,b1,b2,e1,e2,k1,k2⟩=>⟨c1,c2,[],[],e1,rfl,Ld.vc hO hm h (λx hx=>hb x (by simp[e2,hx])) k1,Lds.vcs hO hm k (λx hx=>hb x (by simp[e2,hx])) k2⟩
end
end
theorem Ld.tup{a b:AV}(h:Ld S a b)(ha:ntup a=true):ntup b=true:=by
 cases h with
 |frz=>cases a<;>first|rfl|cases ha
 |_=>rfl
section
variable {m:Mem}{S Sf:List AK}{Z:Zs}
theorem Ld.vv(hO:∀z∈Z,ORel m z.1.1 z.1.2 z.2)(hm:Z.map (·.1)=S++Sf){a b:AV}(h:Ld S a b){u:Value}(k:VV m a u []):VV (m.lent Z) b u []:=by
 cases h with
 |frz=>exact VV.frz (m.le_lent Z) (by simp) k
 | @nil t sz=>exact Ld.vc hO hm (Ld.nil (S:=S) (t:=t) (sz:=sz)) (bs:=[]) (by simp) k
 |agg h=>obtain⟨cells,e,k⟩:=k;exact⟨cells,e,Lds.vcs hO hm h (by simp) k⟩
 |lst h=>exact Ld.vc hO hm (.lst h) (by simp) k
 |sl h hn hl=>exact Ld.vc hO hm (.sl h hn hl) (by simp) k
 |ptr h hl e=>exact Ld.vc hO hm (.ptr h hl e) (by simp) k
theorem Lds.vts(hO:∀z∈Z,ORel m z.1.1 z.1.2 z.2)(hm:Z.map (·.1)=S++Sf):∀{as bs:List AV},Lds S as bs->∀{us:List Value},VTs m as us []->VTs (m.lent Z) bs us []
 |_,_,.nil,us,k=>k
 |_,_,.cons h hk,us,k=>by
  have ha:=VTs.ntup k;obtain⟨v,vs',b1,b2,e1,e2,k1,k2⟩:=(B8 ha).1 k;obtain⟨rfl,rfl⟩:b1=[]/\b2=[]:=by simpa using e2.symm
  exact(B8 (h.tup ha)).2 ⟨v,vs',[],[],e1,rfl,h.vv hO hm k1,Lds.vts hO hm hk k2⟩
end
theorem Spec.lend{args args':List AV}(h:Spec P f args [] Q)(hQ:∀r S',Q r S' ->r.loose=true/\S'=[])(k:Lds S args' args):Spec P f args' S λr S'=>Q r []/\S'=S:=
 h.lendG hQ λm Z Sf hO hm us hu=>k.vts hO hm hu
theorem PS.lend{args args':List AV}{r:AV}(h:PS P f args r)(hr:r.loose=true)(k:Lds S args' args):Spec P f args' S λr' S'=>r'=r/\S'=S:=
 (Spec.lend h (λr' S' ⟨e1,e2⟩=>⟨e1▸hr,e2⟩) k).mono λr' S' ⟨⟨e1,_⟩,e2⟩=>⟨e1,e2⟩
theorem Spec.lendE{args args':List AV}{C:β->Prop}{rr:β->AV}(h:Spec P f args [] λr S'=>∃b,C b/\r=rr b/\S'=[])(hr:∀b,(rr b).loose=true)(k:Lds S args' args):Spec P f args' S λr S'=>∃b,C b/\r=rr b/\S'=S:=
 (Spec.lend h (λr' S' ⟨b,_,e1,e2⟩=>⟨e1▸hr b,e2⟩) k).mono λr' S' ⟨⟨b,hb,e1,_⟩,e2⟩=>⟨b,hb,e1,e2⟩
def Ew:Nat->List AK->List (Nat×AK)
 |_,[]=>[]
 |k,z::l=>(k,z)::Ew (k+1) l
theorem GR:∀(k:Nat) (l:List AK),(Ew k l).map (·.2)=l
 |_,[]=>rfl
 |k,z::l=>by rw[Ew,AR,GR]
theorem FG:∀(k:Nat) (l:List AK),(Ew k l).map (·.1)=List.range' k l.length
 |_,[]=>rfl
 |k,z::l=>by rw[Ew,AR,FG,EK,Rw]
theorem TL:∀(A:List AK) (z:AK) (C:List AK),At (A++z::C) A.length z
 |[],z,C=>.here
 |a::A,z,C=>.next (TL A z C)
theorem Hi:∀(A B C:List AK),Gets (A++(B++C)) (Ew A.length B)
 |A,[],C=>.nil
 |A,z::B,C=>.cons (TL A z (B++C)) (by
   have:=Hi (A++[z]) B C;rw[Ax,BC]at this;exact this)
theorem Oa:∀{a b:List (Nat×AK)},Gets S a->Gets S b->Gets S (a++b)
 |[],b,_,k=>k
 |x::a,b,.cons h k,k2=>.cons h (Oa k k2)
theorem PT(S:List AK)(a b:List (Nat×AK)):A5 S (a++b)=A5 (A5 S a) b:=by
 induction a generalizing S with
 |nil=>rfl
 |cons x a ih=>exact ih _
theorem HE:∀(A B B' C:List AK),B'.length=B.length->A5 (A++(B++C)) (Ew A.length B')=A++(B'++C)
 |A,[],[],C,_=>rfl
 |A,y::B,z::B',C,h=>by
  have:=HE (A++[z]) B B' C (by simpa using h);rw[Ax,BC,BC]at this;rw[Ew,A5];have e:(A++(y::B++C)).set A.length z=A++([z]++(B++C)):=by rw[Et _ _ (AP _),DY];rfl
  rw[e];exact this
theorem RN(s:List AK):(Cd s).length=s.length:=by simp[Cd]
section
variable {P:Program}{ro:Option Nat}{nt:Nat}{ops:Array Oper}{Q:Exit->St->Prop}{rest:List Oper}{T:List (Nat×AV)}{S:List AK}{ty:TypeId}{pos:String}{after:Array Edge}{dst:Option Tmp}{ats:Array TypeId}{f:FuncId}{xs:List (Operand×AV)}{args:List AV}
theorem QA{C:β->Prop}{rr vv:β->AV}{nw:β->List AK}{gs:List AK}(h:Spec P f args [] λr S'=>∃b,C b/\r=rr b/\S'=[])(hr:∀b,(rr b).loose=true)(kL:Lds S (xs.map (·.2)) args)(hT:∀b,TR (rr b) (vv b) (nw b))(hgs:∀b,Cd (nw b)=gs)(hx:Evs T xs)(ht:BT xs=true)(hd:Ao dst nt=true)
  (k:∀b,C b->AOps ro P nt ops Q rest ⟨A6 T dst (vv b),nw b++S⟩):AOps ro P nt ops Q (⟨dst,.call ⟨.value (.func f),(xs.map (·.1)).toArray,ats⟩,ty,pos,after,none⟩::rest) ⟨T,gs++S⟩:=by
 have hs:=Spec.lendE h hr kL;have hl:∀b,(nw b).length=gs.length:=λb=>by rw[<-hgs b,RN]
 have hG:Gets (gs++S) (Ew gs.length S++Ew 0 gs):=Oa (by simpa using Hi gs S []) (by simpa using Hi [] gs S)
 have hnd:((Ew gs.length S++Ew 0 gs).map (·.1)).Nodup:=by
  rw[AJ,FG,FG,AL];refine⟨List.nodup_range',List.nodup_range',λa ha b hb e=>?_⟩;rw[List.mem_range'_1]at ha hb;omega
 have hset:∀b,A5 (gs++S) (Ew gs.length S++Ew 0 (nw b))=nw b++S:=λb=>by
  have e1:=HE gs S S [] rfl;have e2:=HE [] gs (nw b) S (hl b);simp only[BL,DX,Hr]at e1 e2;rw[PT,e1,e2]
 have hkeys:∀b,((Ew gs.length S++Ew 0 (nw b)).map (·.1))=(Ew gs.length S++Ew 0 gs).map (·.1):=λb=>by
  rw[AJ,AJ,FG,FG,FG,hl b]
 rintro m0 a w ⟨m,N,Z,rfl,h2,h3,h4⟩;refine FX rfl λK hK=>HC (C:=C) (sE:=λb=>⟨A6 T dst (vv b),A5 (gs++S) (Ew gs.length S++Ew 0 (nw b))⟩) (by simp) (Ge (λ_=>rfl) h.fn (Gp (So:=λ_=>S) (rS:=Ew gs.length S++Ew 0 gs) (wE:=λb=>Ew gs.length S++Ew 0 (nw b)) hs hT hgs (by rw[AJ,GR,GR]) (λb=>by rw[AJ,GR,GR]) hkeys hnd hG.all (DM hd) h2 h3 h4 ?_)) λa' w' ⟨b,hb,hrel⟩=>hK _ _ (k b hb m0 _ _ (by rw[hset b]at hrel;exact hrel))
 have:=FK (DU ht) λq hq=>h4.ev (hx.all q hq)
 simpa[Cp]using this
end
section
variable {P:Program}{ro:Option Nat}{nt:Nat}{ops:Array Oper}{Q:Exit->St->Prop}{rest:List Oper}{T:List (Nat×AV)}{S:List AK}{ty:TypeId}{pos:String}{after:Array Edge}{dst:Option Tmp}{ats:Array TypeId}{f:FuncId}{r v:AV}{nw:List AK}
theorem Te{v0 a0:AV}{v1 a1:AV}{x2:Operand}{v2 a2:AV}{C:β->Prop}{rr vv:β->AV}(h:Spec P f [a0,a1,a2] [] λr S'=>∃b,C b/\r=rr b/\S'=[])(l0:Ld S v0 a0)(l1:Ld S v1 a1)(l2:Ld S v2 a2)[hf:∀b,Frz (rr b) (vv b)](k:∀b,C b->AOps ro P nt ops Q rest ⟨A6 T dst (vv b),S⟩)(hr:∀b,(rr b).loose=true:=by exact λ_=>rfl)(h0:Rd none T x0 v0:=by rfl)(h1:Rd none T x1 v1:=by rfl)(h2:Rd none T x2 v2:=by rfl)(ht:BT [(x0,v0),(x1,v1),(x2,v2)]=true:=by rfl)(hd:Ao dst nt=true:=by rfl):AOps ro P nt ops Q (⟨dst,.call ⟨.value (.func f),#[x0,x1,x2],ats⟩,ty,pos,after,none⟩::rest) ⟨T,S⟩:=QA (xs:=[(x0,v0),(x1,v1),(x2,v2)]) (gs:=[]) (nw:=λ_=>[]) h hr (.cons l0 (.cons l1 (.cons l2 .nil))) (λb=>.fz) (λ_=>rfl) (.cons h0 (.cons h1 (.cons h2 .nil))) ht hd k
end
theorem Lds.frzs:∀l:List AV,Lds S l (AV.frzs l)
 |[]=>.nil
 |a::l=>.cons .frz (Lds.frzs l)
theorem Ld.fz{a b:AV}[h:Frz a b]:Ld S a b:=h.h▸ .frz
theorem Lds.fz{a b:List AV}[h:Frzs a b]:Lds S a b:=h.h▸ .frzs a
theorem Ld.row{X n p:Nat}{sz:Nat}{l l':List AV}[hf:Frzs l l'](h:At S p (X,.row t sz l):=by exact AY)(hn:n=l.length:=by rfl):Ld S (.sl X 0 n) (.lst false t sz l'):=
 .sl h (by omega) (by rw[Dq,hn,DJ];exact Lds.fz)
end
section
variable {ro:Option Nat}
section
variable {P:Program}{nt:Nat}{ops:Array Oper}{Q:Exit->St->Prop}{rest:List Oper}{T:List (Nat×AV)}{S:List AK}{f:FuncId}{x0 x1 x2:Operand}{v0 v1 v2 r v:AV}{dst:Option Tmp}{ats:Array TypeId}{ty:TypeId}{pos:String}{after:Array Edge}{p1 p2:Nat}{z1 z2:AK}{y1 y2:Nat->AK}{Sin Sout news:List AK}{rS wS:List (Nat×AK)}
end
end
section
open Go.RowKit
variable {ro:Option Nat}
theorem Rel.perm{nt:Nat}{m0:Mem}{T:List (Nat×AV)}{S S':List AK}{a:Act}(h:S.Perm S')(k:Rel nt m0 ⟨T,S⟩ a w):Rel nt m0 ⟨T,S'⟩ a w:=by
 obtain⟨m,N,Z,h1,h2,h3,h4⟩:=k;obtain⟨Z',p,e⟩:=Fi (λz:AK×List Nat=>z.1) h h2;exact⟨m,N,Z',h1,e,h3.perm p,h4⟩
section
variable {P:Program}{nt:Nat}{ops:Array Oper}{Q:Exit->St->Prop}{rest:List Oper}{T:List (Nat×AV)}{S S':List AK}
theorem AOps.perm(h:S.Perm S')(k:AOps ro P nt ops Q rest ⟨T,S'⟩):AOps ro P nt ops Q rest ⟨T,S⟩:=λm0 a w hr=>k m0 a w (hr.perm h)
theorem AWP.perm{c:Code}(h:S.Perm S')(k:AWP ro P nt c Q ⟨T,S'⟩):AWP ro P nt c Q ⟨T,S⟩:=λm0 a w hr=>k m0 a w (hr.perm h)
end
section
variable {P:Program}{nt:Nat}{ops:Array Oper}{Q:Exit->St->Prop}{rest:List Oper}{T:List (Nat×AV)}{S:List AK}{p:Nat}{o:AO}
theorem AH{c:Code}(X:Nat)(k:AWP ro P nt c Q ⟨T,(X,o)::S.eraseIdx p⟩)(hS:At S p (X,o):=by exact AY):AWP ro P nt c Q ⟨T,S⟩:=.perm (Gh hS.get) k
theorem Cw(X:Nat)(k:AOps ro P nt ops Q rest ⟨T,(X,o)::S.eraseIdx p⟩)(hS:At S p (X,o):=by exact AY):AOps ro P nt ops Q rest ⟨T,S⟩:=.perm (Gh hS.get) k
end
theorem VG{p:Nat}{e:AK}(h:At S p e):S.set p e=S:=by
 obtain⟨h1,h2⟩:=AC.1 h.get;rw[<-h2];exact Gc h1
section
variable {P:Program}{nt:Nat}{ops:Array Oper}{Q:Exit->St->Prop}{rest:List Oper}{T:List (Nat×AV)}{S:List AK}{p:Nat}{t:TypeId}{sz:Nat}{l l':List AV}
theorem Rn{c:Code}(X:Nat)(h:l=l')(k:AWP ro P nt c Q ⟨T,S.set p (X,.row t sz l')⟩)(hS:At S p (X,.row t sz l):=by exact AY):AWP ro P nt c Q ⟨T,S⟩:=by
 subst h;rw[VG hS]at k;exact k
end
theorem D1{α:Type}(A B C:List α):(A++(B++C)).Perm (B++(A++C)):=by
 rw[<-BC,<-BC];exact CX _ Aw
theorem Spec.perm{S S2:List AK}{Q Q2:AV->List AK->Prop}(h:Spec P f args S Q)(hp:S2.Perm S)(hq:∀r S',Q r S' ->∃S2',S'.Perm S2' /\Q2 r S2'):Spec P f args S2 Q2:=
 ⟨h.fn,λSf m N Z vals hZ G hv=>by
  obtain⟨Z1,p1,e1⟩:=Fi (λz:AK×List Nat=>z.1) (hp.append_right Sf) hZ;refine(h.run Sf m N Z1 vals e1 (G.perm p1) hv).mono ?_;rintro e w' ⟨v,r,S',m',N',Z',br,he,hw,hm,G',hvv,hQ⟩;obtain⟨S2',p2,hQ2⟩:=hq r S' hQ;obtain⟨Z2,p3,e3⟩:=Fi (λz:AK×List Nat=>z.1) (p2.append_right Sf) hm;exact⟨v,r,S2',m',N',Z2,br,he,hw,e3,G'.perm p3,hvv,hQ2⟩⟩
theorem Spec.beside(h:Spec P f args S Q)(R:List AK):Spec P f args (S++R) λr S'=>∃S1,S'=S1++R/\Q r S1:=
 ⟨h.fn,λSf m N Z vals hZ G hv=>by
  refine(h.run (R++Sf) m N Z vals (by rw[hZ,BC]) G hv).mono ?_;rintro e w' ⟨v,r,S',m',N',Z',br,he,hw,hm,G',hvv,hQ⟩;exact⟨v,r,S'++R,m',N',Z',br,he,hw,by rw[hm,BC],G',hvv,S',rfl,hQ⟩⟩
section
variable {P:Program}{dst:Option Tmp}{f:FuncId}{β:Type}{C:β->Prop}{rr vv:β->AV}{Sin:List AK}{So nw:β->List AK}{gs L R:List AK}{nt:Nat}{T:List (Nat×AV)}{S:List AK}
theorem M4{m0:Mem}{a:Act}{vals:Array Value}(h:Spec P f args Sin λr' S'=>∃b,C b/\r'=rr b/\S'=So b)(hT:∀b,TR (rr b) (vv b) (nw b))(hgs:∀b,Cd (nw b)=gs)(hp:S.Perm (Sin++(gs++(L++R))))
  (hd:∀d,dst=some d->d<nt) {m:Mem} {N:Nat} {Z:Zs} (h2:Z.map (·.1)=S) (h3:Good m0 m N Z []) (h4:TRel m0 m nt T a) (hv:VTs m args vals.toList []):
  Calls P f vals m.w λe w'=>∃u,e= .returned u/\∃b,C b/\Rel nt m0 ⟨A6 T dst (vv b),nw b++(L++(So b++R))⟩ (a.put dst u) w':=by
 obtain⟨Z1,hz1,hz2⟩:=Fi (λz:AK×List Nat=>z.1) hp h2;refine(h.run _ m N Z1 vals hz2 (h3.perm hz1).self hv).mono ?_;rintro e w' ⟨u,r',S',m',N',Z',br,rfl,rfl,hm,G',hu,b,hb,rfl,rfl⟩;obtain⟨Zo,Zr,rfl,ho,hzr⟩:=Bv hm;obtain⟨Zg,Zf,rfl,hg,hf⟩:=Bv hzr;obtain⟨Zl,Zq,rfl,hl,hq⟩:=Bv hf;have G1:=h3.perm hz1 |>.after G'
 have G2:Good m0 m' N' (Zg++(Zo++(Zl++Zq))) (br++[]):=by
  have:=G1.perm (D1 Zo Zg (Zl++Zq));simpa using this
 obtain⟨m2,Zn,hw2,hn,G3,hle,hv2⟩:=(hT b).sound (hg.trans (hgs b).symm) G2 hu;have G4:=G3.perm ((D1 Zo Zl Zq).append_left Zn);refine⟨u,rfl,b,hb,m2,N',Zn++(Zl++(Zo++Zq)),hw2,?_,G4,((h4.mono G'.le).mono hle).put hd hv2⟩;simp[ho,hn,hl,hq]
variable {ops:Array Oper}{Q:Exit->St->Prop}{rest:List Oper}{ats:Array TypeId}{ty:TypeId}{pos:String}{after:Array Edge}{xs:List (Operand×AV)}
theorem EM(h:Spec P f (xs.map (·.2)) Sin λr' S'=>∃b,C b/\r'=rr b/\S'=So b)(hT:∀b,TR (rr b) (vv b) (nw b))(hgs:∀b,Cd (nw b)=gs)(hp:S.Perm (Sin++(gs++(L++R))))(hx:Evs T xs)(ht:BT xs=true)(hd:Ao dst nt=true)
  (k:∀b,C b->AOps ro P nt ops Q rest ⟨A6 T dst (vv b),nw b++(L++(So b++R))⟩):AOps ro P nt ops Q (⟨dst,.call ⟨.value (.func f),(xs.map (·.1)).toArray,ats⟩,ty,pos,after,none⟩::rest) ⟨T,S⟩:=by
 rintro m0 a w ⟨m,N,Z,rfl,h2,h3,h4⟩;refine FX rfl λK hK=>HC (C:=C) (sE:=λb=>⟨A6 T dst (vv b),nw b++(L++(So b++R))⟩) (by simp) (Ge (λ_=>rfl) h.fn (M4 h hT hgs hp (DM hd) h2 h3 h4 ?_)) λa' w' ⟨b,hb,hrel⟩=>hK _ _ (k b hb m0 _ _ hrel)
 have:=FK (DU ht) λq hq=>h4.ev (hx.all q hq)
 simpa[Cp]using this
theorem PF{x:Operand}{cap:List AV}(h:Spec P f (xs.map (·.2)++cap) Sin λr' S'=>∃b,C b/\r'=rr b/\S'=So b)(hT:∀b,TR (rr b) (vv b) (nw b))(hgs:∀b,Cd (nw b)=gs)(hp:S.Perm (Sin++(gs++(L++R))))(hf:ev T x=some (.fn f cap))(hs:DG cap=true)(hx:Evs T xs)(ht:BT xs=true)(hd:Ao dst nt=true)
  (k:∀b,C b->AOps ro P nt ops Q rest ⟨A6 T dst (vv b),nw b++(L++(So b++R))⟩):AOps ro P nt ops Q (⟨dst,.call ⟨.value x,(xs.map (·.1)).toArray,ats⟩,ty,pos,after,none⟩::rest) ⟨T,S⟩:=by
 rintro m0 a w ⟨m,N,Z,rfl,h2,h3,h4⟩;obtain⟨vs,e1,h5⟩:=h4.ev hf;injection e1 with e1
 refine FX rfl λK hK=>HC (C:=C) (sE:=λb=>⟨A6 T dst (vv b),nw b++(L++(So b++R))⟩) (by simp) (KP e1 h.fn (M4 h hT hgs hp (DM hd) h2 h3 h4 ?_)) λa' w' ⟨b,hb,hrel⟩=>hK _ _ (k b hb m0 _ _ hrel)
 have:=KE (FK (DU ht) λq hq=>h4.ev (hx.all q hq)) (Ig hs h5);simpa[Cp]using this
end
section
variable {nt:Nat}{st:St}{d p q X Y:Nat}{u:Value}{v:AV}{K:AV->Value->Prop}{t:TypeId}{sz:Nat}{l:List AV}
theorem St.namePtr(hd:BR st.T d=some (.ptr X 0 0))(hS:At st.S p (X,.row t sz l))(hq:At st.S q (Y,.tv K)):Fu nt st λst'=>∃b:Nat,st'=⟨(d,.prim (.pointer (some ⟨b,0,none⟩)))::st.T,st.S.set q (Y,.tv λv u=>K v u\/(v= .ptr X 0 0/\u= .pointer (some ⟨b,0,none⟩)))⟩:=by
 rintro m0 a w ⟨m,N,Z,rfl,h2,h3,h4⟩;obtain⟨bs,hz⟩:=hq.z h2;obtain⟨bs1,hz1⟩:=hS.z h2;obtain⟨_,L,hL,_⟩:=h3.obj _ (Bc hz1);obtain⟨hbs,hU,hO⟩:=h3.obj _ (Bc hz);simp only at hbs hU hO;subst hbs;obtain⟨u',h5,h6⟩:=h4.2.2 _ _ hd;have h6':=h6;obtain⟨_,_,B,hB,hB2⟩:=h6;rw[hB2 L hL]at hB;injection hB with hB
 have hu:u'= .pointer (some ⟨L.blk,0,none⟩):=by rw[hB];simp
 obtain⟨R,hp1,hp2⟩:=DC hz
 have G:=(h3.perm hp1).bag (z':=((Y,.tv λv u=>K v u\/(v= .ptr X 0 0/\u= .pointer (some ⟨L.blk,0,none⟩))),[])) (B:=[]) rfl ⟨rfl,hU,λv u h=>by
  rcases h with h|⟨rfl,rfl⟩
  ·exact hO v u h
  ·rw[<-hu];exact h6'⟩ (.refl _)
 refine⟨⟨(d,.prim (.pointer (some ⟨L.blk,0,none⟩)))::st.T,st.S.set q (Y,.tv λv u=>K v u\/(v= .ptr X 0 0/\u= .pointer (some ⟨L.blk,0,none⟩)))⟩,⟨m,N,Z.set q ((Y,_),[]),rfl,by rw[A8,h2],G.perm (hp2 _).symm,h4.1,h4.2.1,λe v' he=>?_⟩,L.blk,rfl⟩;rw[Bx]at he;split at he
 ·rename_i e';subst e'
  injection he with he;subst he
  exact⟨u',h5,by rw[hu];exact Cc _⟩
 ·exact h4.2.2 e v' he
theorem St.note(K:AV->Value->Prop)(hK:∀v u,¬K v u):Fu nt st λst'=>∃Y,st'=⟨st.T,(Y,.tv K)::st.S⟩:=by
 rintro m0 a w ⟨m,N,Z,rfl,h2,h3,h4⟩;obtain⟨G',hle⟩:=h3.note K (λv u h=>absurd h (hK v u)) _ rfl;exact⟨⟨st.T,(N,.tv K)::st.S⟩,⟨{m with U:=λy=>m.U y\/y=N},N+1,_,rfl,by rw[AR,show Z.map (·.1)=st.S from h2],G',h4.mono hle⟩,N,rfl⟩
end
section
variable {P:Program}{nt:Nat}{ops:Array Oper}{Q:Exit->St->Prop}{rest:List Oper}{T:List (Nat×AV)}{S:List AK}{d p q X Y:Nat}{u:Value}{v:AV}{K:AV->Value->Prop}{t:TypeId}{sz:Nat}{l:List AV}{c:Code}
theorem O8(d:Nat)(kk:∀b:Nat,AWP ro P nt c Q ⟨(d,.prim (.pointer (some ⟨b,0,none⟩)))::T,S.set q (Y,.tv λv u=>K v u\/(v= .ptr X 0 0/\u= .pointer (some ⟨b,0,none⟩)))⟩)(hd:BR T d=some (.ptr X 0 0):=by rfl)(hS:At S p (X,.row t sz l):=by exact AY)(hq:At S q (Y,.tv K):=by exact AY):AWP ro P nt c Q ⟨T,S⟩:=.ghost (St.namePtr (st:=⟨T,S⟩) hd hS hq) λst' ⟨b,e⟩=>by subst e;exact kk b
theorem AWP.note(K:AV->Value->Prop)(hK:∀v u,¬K v u)(kk:∀Y,AWP ro P nt c Q ⟨T,(Y,.tv K)::S⟩):AWP ro P nt c Q ⟨T,S⟩:=.ghost (St.note (st:=⟨T,S⟩) K hK) λst' ⟨Y,e⟩=>by subst e;exact kk Y
end
section
variable {P:Program}{ty t ty2 te:TypeId}{pos:String}{after:Array Edge}{g:Option (Nat×Bool)}{dst:Option Tmp}{x y:Operand}{c:Option (List Bool)}{T:List (Nat×AV)}{S:List AK}
class TPtr(P:Program)(t:TypeId):Prop where
 ex:∃te,P.underlying t=some (.pointer te)/\(P.info? te).any (λj=>j.size !=0)=true
theorem TPtr.h(hp:TPtr P t):∃te j,P.underlying t=some (.pointer te)/\P.info? te=some j/\j.size≠0:=by
 obtain⟨te,h1,h2⟩:=hp.ex;cases hj:P.info? te with
 |none=>rw[hj]at h2;cases h2
 |some j=>rw[hj]at h2;exact⟨te,j,h1,hj,by simpa using h2⟩
theorem NN[hp:TPtr P t](b:Nat)(w:World):(binOp .neq t (.pointer (some ⟨b,0,none⟩)) (.pointer none)).run P w= .ok (.bool true) w:=by
 obtain⟨te,j,h1,_,_⟩:=hp.h
 have h:∀d:Nat,(Op.equalIn (d+1) t (.pointer (some ⟨b,0,none⟩)) (.pointer none)).run P w= .ok false w:=λd=>by
  simp[Op.equalIn,A7 h1]
 simp only[binOp];simp[Op.equal,Op.maxDepth,h 9999]
theorem VH{m:Mem}{X sz:Nat}(h:ORel m X (.row t' sz l) bs)(h0:0<l.length):∃L arr bs',m.μ X=some L/\bs=L.blk::bs' /\m.w.heap[L.blk]?=some (.cells arr t' (0,0)):=by
 obtain⟨_,L,hL,_,h|⟨_,arr,bs',e1,e2,_⟩⟩:=h
 ·rw[h.2.1]at h0;cases h0
 ·exact⟨L,arr,bs',hL,e1,e2⟩
end
end
section
variable {ro:Option Nat}
section
variable {P:Program}{nt:Nat}{ops:Array Oper}{Q:Exit->St->Prop}{rest:List Oper}{T:List (Nat×AV)}{S:List AK}{f:FuncId}{dst:Option Tmp}{ats:Array TypeId}{ty:TypeId}{pos:String}{after:Array Edge}{Sin Sout R:List AK}{r v:AV}
theorem Ef{S L Sin R:List AK}(hp:S=L++(Sin++R)):S.Perm (Sin++([]++(L++R))):=hp▸D1 L Sin R
theorem Ux{C:β->Prop}{rr vv:β->AV}{So:β->List AK}(L:List AK)(h:Spec P f [] Sin λr' S'=>∃b,C b/\r'=rr b/\S'=So b)[hf:∀b,Frz (rr b) (vv b)](k:∀b,C b->AOps ro P nt ops Q rest ⟨A6 T dst (vv b),L++(So b++R)⟩)(hp:S=L++(Sin++R):=by rfl)(ht:BT []=true:=by rfl)(hd:Ao dst nt=true:=by rfl):AOps ro P nt ops Q (⟨dst,.call ⟨.value (.func f),#[],ats⟩,ty,pos,after,none⟩::rest) ⟨T,S⟩:=
 EM (xs:=[]) (gs:=[]) (nw:=λ_=>[]) (L:=L) h (λb=>.fz) (λ_=>rfl) (Ef hp) (.nil) ht hd k
theorem Uw{C:β->Prop}{rr vv:β->AV}{So:β->List AK}(L:List AK)(h:Spec P f [v0] Sin λr' S'=>∃b,C b/\r'=rr b/\S'=So b)[hf:∀b,Frz (rr b) (vv b)](k:∀b,C b->AOps ro P nt ops Q rest ⟨A6 T dst (vv b),L++(So b++R)⟩)(hp:S=L++(Sin++R):=by rfl)(h0:Rd none T x0 v0:=by rfl)(ht:BT [(x0,v0)]=true:=by rfl)(hd:Ao dst nt=true:=by rfl):AOps ro P nt ops Q (⟨dst,.call ⟨.value (.func f),#[x0],ats⟩,ty,pos,after,none⟩::rest) ⟨T,S⟩:=
 EM (xs:=[(x0,v0)]) (gs:=[]) (nw:=λ_=>[]) (L:=L) h (λb=>.fz) (λ_=>rfl) (Ef hp) (.cons h0 (.nil)) ht hd k
theorem Gu(L:List AK)(h:Spec P f [v0] Sin λr' S'=>r'=r/\S'=Sout)[hf:Frz r v](k:AOps ro P nt ops Q rest ⟨A6 T dst v,L++(Sout++R)⟩)(hp:S=L++(Sin++R):=by rfl)(h0:Rd none T x0 v0:=by rfl)(ht:BT [(x0,v0)]=true:=by rfl)(hd:Ao dst nt=true:=by rfl):AOps ro P nt ops Q (⟨dst,.call ⟨.value (.func f),#[x0],ats⟩,ty,pos,after,none⟩::rest) ⟨T,S⟩:=
 EM (β:=Unit) (C:=λ_=>True) (rr:=λ_=>r) (vv:=λ_=>v) (So:=λ_=>Sout) (xs:=[(x0,v0)]) (gs:=[]) (nw:=λ_=>[]) (L:=L) (h.mono λr' S' ⟨e1,e2⟩=>⟨(),C9,e1,e2⟩) (λb=>.fz) (λ_=>rfl) (Ef hp) (.cons h0 (.nil)) ht hd (λ_ _=>k)
theorem Uv{v1:AV}{C:β->Prop}{rr vv:β->AV}{So:β->List AK}(L:List AK)(h:Spec P f [v0,v1] Sin λr' S'=>∃b,C b/\r'=rr b/\S'=So b)[hf:∀b,Frz (rr b) (vv b)](k:∀b,C b->AOps ro P nt ops Q rest ⟨A6 T dst (vv b),L++(So b++R)⟩)(hp:S=L++(Sin++R):=by rfl)(h0:Rd none T x0 v0:=by rfl)(h1:Rd none T x1 v1:=by rfl)(ht:BT [(x0,v0),(x1,v1)]=true:=by rfl)(hd:Ao dst nt=true:=by rfl):AOps ro P nt ops Q (⟨dst,.call ⟨.value (.func f),#[x0,x1],ats⟩,ty,pos,after,none⟩::rest) ⟨T,S⟩:=
 EM (xs:=[(x0,v0),(x1,v1)]) (gs:=[]) (nw:=λ_=>[]) (L:=L) h (λb=>.fz) (λ_=>rfl) (Ef hp) (.cons h0 (.cons h1 (.nil))) ht hd k
theorem Ur{v1:AV}(L:List AK)(h:Spec P f [v0,v1] Sin λr' S'=>r'=r/\S'=Sout)[hf:Frz r v](k:AOps ro P nt ops Q rest ⟨A6 T dst v,L++(Sout++R)⟩)(hp:S=L++(Sin++R):=by rfl)(h0:Rd none T x0 v0:=by rfl)(h1:Rd none T x1 v1:=by rfl)(ht:BT [(x0,v0),(x1,v1)]=true:=by rfl)(hd:Ao dst nt=true:=by rfl):AOps ro P nt ops Q (⟨dst,.call ⟨.value (.func f),#[x0,x1],ats⟩,ty,pos,after,none⟩::rest) ⟨T,S⟩:=
 EM (β:=Unit) (C:=λ_=>True) (rr:=λ_=>r) (vv:=λ_=>v) (So:=λ_=>Sout) (xs:=[(x0,v0),(x1,v1)]) (gs:=[]) (nw:=λ_=>[]) (L:=L) (h.mono λr' S' ⟨e1,e2⟩=>⟨(),C9,e1,e2⟩) (λb=>.fz) (λ_=>rfl) (Ef hp) (.cons h0 (.cons h1 (.nil))) ht hd (λ_ _=>k)
theorem PC{v1:AV}{x:Operand}{cap:List AV}(L:List AK)(h:Spec P f (v0::v1::cap) Sin λr' S'=>r'=r/\S'=Sout)[hf:Frz r v](k:AOps ro P nt ops Q rest ⟨A6 T dst v,L++(Sout++R)⟩)(hf0:ev T x=some (.fn f cap):=by rfl)(hst:DG cap=true:=by first|rfl|assumption)(hp:S=L++(Sin++R):=by rfl)(h0:Rd none T x0 v0:=by rfl)(h1:Rd none T x1 v1:=by rfl)(ht:BT [(x0,v0),(x1,v1)]=true:=by rfl)(hd:Ao dst nt=true:=by rfl):AOps ro P nt ops Q (⟨dst,.call ⟨.value x,#[x0,x1],ats⟩,ty,pos,after,none⟩::rest) ⟨T,S⟩:=
 PF (β:=Unit) (C:=λ_=>True) (rr:=λ_=>r) (vv:=λ_=>v) (So:=λ_=>Sout) (xs:=[(x0,v0),(x1,v1)]) (gs:=[]) (nw:=λ_=>[]) (L:=L) (h.mono λr' S' ⟨e1,e2⟩=>⟨(),C9,e1,e2⟩) (λb=>.fz) (λ_=>rfl) (Ef hp) hf0 hst (.cons h0 (.cons h1 (.nil))) ht hd (λ_ _=>k)
theorem KN{v1:AV}{x2:Operand}{v2:AV}{C:β->Prop}{rr vv:β->AV}{So:β->List AK}(L:List AK)(h:Spec P f [v0,v1,v2] Sin λr' S'=>∃b,C b/\r'=rr b/\S'=So b)[hf:∀b,Frz (rr b) (vv b)](k:∀b,C b->AOps ro P nt ops Q rest ⟨A6 T dst (vv b),L++(So b++R)⟩)(hp:S=L++(Sin++R):=by rfl)(h0:Rd none T x0 v0:=by rfl)(h1:Rd none T x1 v1:=by rfl)(h2:Rd none T x2 v2:=by rfl)(ht:BT [(x0,v0),(x1,v1),(x2,v2)]=true:=by rfl)(hd:Ao dst nt=true:=by rfl):AOps ro P nt ops Q (⟨dst,.call ⟨.value (.func f),#[x0,x1,x2],ats⟩,ty,pos,after,none⟩::rest) ⟨T,S⟩:=
 EM (xs:=[(x0,v0),(x1,v1),(x2,v2)]) (gs:=[]) (nw:=λ_=>[]) (L:=L) h (λb=>.fz) (λ_=>rfl) (Ef hp) (.cons h0 (.cons h1 (.cons h2 (.nil)))) ht hd k
theorem Uu{v1:AV}{x2:Operand}{v2:AV}{x3:Operand}{v3:AV}{x4:Operand}{v4:AV}{C:β->Prop}{rr vv:β->AV}{So:β->List AK}(L:List AK)(h:Spec P f [v0,v1,v2,v3,v4] Sin λr' S'=>∃b,C b/\r'=rr b/\S'=So b)[hf:∀b,Frz (rr b) (vv b)](k:∀b,C b->AOps ro P nt ops Q rest ⟨A6 T dst (vv b),L++(So b++R)⟩)(hp:S=L++(Sin++R):=by rfl)(h0:Rd none T x0 v0:=by rfl)(h1:Rd none T x1 v1:=by rfl)(h2:Rd none T x2 v2:=by rfl)(h3:Rd none T x3 v3:=by rfl)(h4:Rd none T x4 v4:=by rfl)(ht:BT [(x0,v0),(x1,v1),(x2,v2),(x3,v3),(x4,v4)]=true:=by rfl)(hd:Ao dst nt=true:=by rfl):AOps ro P nt ops Q (⟨dst,.call ⟨.value (.func f),#[x0,x1,x2,x3,x4],ats⟩,ty,pos,after,none⟩::rest) ⟨T,S⟩:=
 EM (xs:=[(x0,v0),(x1,v1),(x2,v2),(x3,v3),(x4,v4)]) (gs:=[]) (nw:=λ_=>[]) (L:=L) h (λb=>.fz) (λ_=>rfl) (Ef hp) (.cons h0 (.cons h1 (.cons h2 (.cons h3 (.cons h4 (.nil)))))) ht hd k
end
end
section
section
variable {P:Program}{dst:Option Tmp}{ty t ty2:TypeId}{pos:String}{after:Array Edge}{g:Option (Nat×Bool)}{T:List (Nat×AV)}{S:List AK}{c:Option (List Bool)}{x y:Operand}{a b:UInt64}
end
section
variable {P:Program}{ro:Option Nat}{nt:Nat}{ops:Array Oper}{Q:Exit->St->Prop}{rest:List Oper}{T:List (Nat×AV)}{S:List AK}{op:Op}{ty:TypeId}{pos:String}{after:Array Edge}{dst:Option Tmp}
end
end
section
variable {ro:Option Nat}
open Go.RowKit
section
variable {P:Program}{nt:Nat}{ops:Array Oper}{Q:Exit->St->Prop}{rest:List Oper}{T:List (Nat×AV)}{Si Sl Sf ob:List AK}{y:Value}{xs:List YO}{J:Nat->List AK->Prop}{Jx:List AK->Prop}{dst:Option Tmp}{ty:TypeId}{pos:String}{after:Array Edge}{x x0 x1:Operand}{v0 v1:AV}{ats:Array TypeId}{i:Nat}
end
end
section
variable {ro:Option Nat}
open Go.RowKit
section
variable {P:Program}{nt:Nat}{ops:Array Oper}{J:List AK->Prop}
section
variable {Q:Exit->St->Prop}{l rest:List Oper}{acc:List Eff}{st:St}{T:List (Nat×AV)}{S:List AK}{xs:List (Operand×AV)}{rS wS:List (Nat×AK)}{v:AV}{op:Op}{ty:TypeId}{pos:String}{after:Array Edge}{dst:Option Tmp}
end
end
end
section
variable {ro:Option Nat}
open Go.RowKit
section
variable {P:Program}{nt:Nat}{ops:Array Oper}
theorem MW:∀{l l':List Eff} {k:Nat} {X:Nat->Bool} {st:St},l.length=l'.length->(∀j,X (k+j)=true->l[j]?=l'[j]?)->stX l k X st=stX l' k X st
 |[],[],_,_,_,_,_=>rfl
 |[],_::_,_,_,_,h,_=>by simp at h
 |_::_,[],_,_,_,h,_=>by simp at h
 |e::l,e'::l',k,X,st,h,ha=>by
  have ih:=λst=>MW (l:=l) (l':=l') (k:=k+1) (X:=X) (st:=st) (by simpa using h) (λj hj=>by
   have:=ha (j+1) (by rw[show k+(j+1)=k+1+j by omega];exact hj);simpa using this)
  simp only[stX];cases hX:X k with
  |false=>exact ih _
  |true=>
   have h0:=ha 0 (by simpa using hX);simp at h0;rw[h0];exact ih _
def NS(i:Nat)(ms:List Nat):Bool:=(List.range ms.length).all λj=>!(decide (i<j))||(ms.getD j 0).testBit i
theorem AWP.region_anyE{Q:Exit->St->Prop}{id:Nat}{l:List Oper}{effs:β->List Eff}(b0:β)(i0:Nat)(hm:P.follows .mixedOrders=true)(heff:∀b,(effs b).map (·.o)=l)
  (hloc:∀b i e,i≠i0->(effs b)[i]?=some e->Qe P nt l.toArray e (stX (effs b) 0 (λj=>decide (j<i)) st))
  (hlocE:∀e,(effs b0)[i0]?=some e->e.o.guard=none/\(∀c,e.o.op≠ .defer c)/\∀m0 T S a w,(∀t∈e.rT,BR T t=BR (stX (effs b0) 0 (λj=>decide (j<i0)) st).T t)->(∀p∈e.rS,S[p]?=(stX (effs b0) 0 (λj=>decide (j<i0)) st).S[p]?)->Rel nt m0 ⟨T,S⟩ a w->e.o.wp P a w (λa' w'=>∃p:β×Eff,(effs p.1)[i0]?=some p.2/\Rel nt m0 (p.2.app ⟨T,S⟩) a' w') (λ_ _ _=>False))
  (hc:∀b,E3 (effs b) (Do l [])=true) (hlater:∀j,j≠i0->j<l.length->(∀b b',(effs b)[j]?=(effs b')[j]?)\/∃m:Nat,(Do l [])[j]?=some m/\m.testBit i0=true) (hdn:JY l 0=true) (hQ:∀b,Q .normal (stX (effs b) 0 (λ_=>true) st)):AWP ro P nt (.region id l.toArray true) Q st:=by
 have hlen:∀b,(effs b).length=l.length:=λb=>by rw[<-heff b,AD]
 refine NE (λm0 X a w=>∃b,Rel nt m0 (stX (effs b) 0 (λj=>X.getD j false) st) a w) hm hdn (λm0 X a w hX hr=>⟨b0,by rw[MV hX];exact hr⟩) ?_ ?_
 ·rintro m0 X a w hall ⟨b,h⟩
  obtain⟨k1,k2⟩:=Il (effs:=effs b) (st:=st) (λj hj=>hall j (by rw[<-hlen b];exact hj));exact⟨_,h.like ⟨λt=>(k1 t).symm,k2.symm⟩,hQ b⟩
 ·rintro m0 X i hin a w hX hdc hXi hpre ⟨b1,hr⟩
  have hil:i<l.length:=by simpa using hin
  have ho:l.toArray[i]?=some l.toArray[i]:=by simp[hin]
  have key:=λb e (he:(effs b)[i]?=some e)=>Ka (ops:=l.toArray) (effs:=effs b) (st:=st) (by simp[heff b]) (by simpa using hc b) hX hdc hin hXi hpre he
  obtain⟨e,he⟩:∃e,(effs b1)[i]?=some e:=⟨_,Ag (show i<(effs b1).length by rw[hlen];exact hil)⟩;obtain⟨heo,hrT,hrS,hT,hS⟩:=key b1 e he;unfold wpOpIn;simp only[ho];by_cases hi0:i=i0
  ·subst hi0
   have hmask:=Gj (λj=>X.getD j false) l [] (λj o hj hXj e he hb=>hdc j o (by simpa using hj) (by simpa using hXj) e he hb) (λj m h=>by simp at h)
   have hst:∀b,stX (effs b) 0 (λj=>X.getD j false) st=stX (effs b0) 0 (λj=>X.getD j false) st:=by
    intro b;refine MW (by rw[hlen,hlen]) λj hj=>?_
    rw[Af]at hj;by_cases hjs:j<l.length
    ·have hji:j≠i:=by rintro rfl;rw[hXi]at hj;cases hj
     rcases hlater j hji hjs with h|⟨m,hm1,hm2⟩
     ·exact h b b0
     ·have:=hmask j m hm1 hj i hm2
      rw[hXi]at this;cases this
    ·rw[Bk (by rw[hlen];omega),Bk (by rw[hlen];omega)]
   obtain⟨e0,he0⟩:∃e,(effs b0)[i]?=some e:=⟨_,Ag (show i<(effs b0).length by rw[hlen];exact hil)⟩;obtain⟨heo0,hrT0,hrS0,_⟩:=key b0 e0 he0;obtain⟨hg,hnd,hE⟩:=hlocE e0 he0;rw[hst b1]at hr;have hl:=hE m0 _ _ a w hrT0 hrS0 hr;rw[heo0]at hl hg hnd;rw[A1 (by unfold Region.wanted;rw[hg])];refine HC (C:=λp:β×Eff=>(effs p.1)[i]?=some p.2) (sE:=λp=>p.2.app (stX (effs b0) 0 (λj=>X.getD j false) st)) hnd hl λa' w' hq=>?_
   obtain⟨⟨b,e'⟩,he',hr'⟩:=hq;obtain⟨_,_,_,hT',hS'⟩:=key b e' he';rw[hst b]at hT' hS';exact⟨b,hr'.like ⟨hT',hS'⟩⟩
  ·have hl:=hloc b1 i e hi0 he m0 _ _ a w hrT hrS hr
   rw[heo]at hl;by_cases hw:Region.wanted l.toArray[i] (yielded l.toArray a.tmps)=true
   ·rw[A1 hw]at hl⊢
    exact If hl λa w h=>⟨b1,h.like ⟨hT,hS⟩⟩
   ·rw[Ah hw]at hl⊢
    exact⟨λ_ _=>C9,b1,hl.like ⟨hT,hS⟩⟩
end
section
variable {P:Program}{nt:Nat}{ops:Array Oper}
theorem Kc(e0:Eff)(effs:List Eff)(st:St)(i:Nat):stX (e0::effs) 0 (λj=>decide (j<i+1)) st=stX effs 0 (λj=>decide (j<i)) (e0.app st):=by
 show stX effs (0+1) (λj=>decide (j<i+1)) (match decide (0<i+1)with|true=>e0.app st|false=>st)=_
 rw[HY,Br (Nat.succ_pos i)];simp
theorem NI(e0:Eff)(effs:List Eff)(st:St):stX (e0::effs) 0 (λ_=>true) st=stX effs 0 (λ_=>true) (e0.app st):=by
 show stX effs (0+1) (λ_=>true) (e0.app st)=_
 rw[HY]
theorem Kb(effs:List Eff)(st:St):stX effs 0 (λj=>decide (j<0)) st=st:=by
 have:(λj:Nat=>decide (j<0))=λ_=>false:=by funext j;simp
 rw[this,Ij]
def Vm(P:Program)(nt:Nat){β:Type}(effs:β->List Eff)(i0:Nat)(e:Eff)(st:St):Prop:=
 e.o.guard=none/\(∀c,e.o.op≠ .defer c)/\∀m0 T S a w,(∀t∈e.rT,BR T t=BR st.T t)->(∀p∈e.rS,S[p]?=st.S[p]?)->Rel nt m0 ⟨T,S⟩ a w->e.o.wp P a w (λa' w'=>∃p:β×Eff,(effs p.1)[i0]?=some p.2/\Rel nt m0 (p.2.app ⟨T,S⟩) a' w') (λ_ _ _=>False)
theorem OQ{i:Nat}{ms:List Nat}(h:NS i ms=true):∀j,i<j->j<ms.length->∃m:Nat,ms[j]?=some m/\m.testBit i=true:=by
 intro j hij hj;have:=Cl.1 h j (Ck.2 hj);refine⟨ms[j],by simp[hj],?_⟩;simpa[hij,D2,Ag hj]using this
def RGoE(P:Program)(nt:Nat)(ops:Array Oper)(l:List Oper)(Q:Exit->St->Prop)(rest:List Oper)(acc:List Eff)(st:St):Prop:=
 ∃(β:Type) (b0:β) (i0:Nat) (effs:β->List Eff),(∀b,(effs b).map (·.o)=rest)/\
  (∀b i e,i≠i0->(effs b)[i]?=some e->Qe P nt ops e (stX (effs b) 0 (λj=>decide (j<i)) st))/\
  (∀e,(effs b0)[i0]?=some e->Vm P nt effs i0 e (stX (effs b0) 0 (λj=>decide (j<i0)) st))/\
  (∀b,E3 (acc++effs b) (Do l [])=true)/\(∀i,i≠i0->acc.length+i<(Do l []).length->(∀b b',(effs b)[i]?=(effs b')[i]?)\/∃m:Nat,(Do l [])[acc.length+i]?=some m/\m.testBit (acc.length+i0)=true)/\∀b,Q .normal (stX (effs b) 0 (λ_=>true) st)
theorem AWP.region_runE{Q:Exit->St->Prop}{id:Nat}{l:List Oper}(hm:P.follows .mixedOrders=true)(hdn:JY l 0=true)(h:RGoE P nt l.toArray l Q l [] st):AWP ro P nt (.region id l.toArray true) Q st:=by
 obtain⟨β,b0,i0,effs,h1,h3,h4,h5,h6,h7⟩:=h;simp only[Hr,Af]at h6;exact .region_anyE b0 i0 hm h1 h3 h4 (by simpa using h5) (λj hj hl=>h6 j hj (by rw[Mf];exact hl)) hdn h7
theorem Pc{effs:β->List Eff}{ms:List Nat}(h:NS n ms=true):∀i,i≠0->n+i<ms.length->(∀b b',(effs b)[i]?=(effs b')[i]?)\/∃m:Nat,ms[n+i]?=some m/\m.testBit (n+0)=true:=λi hi hl=>.inr (OQ h (n+i) (by omega) hl)
section
variable {Q:Exit->St->Prop}{l rest:List Oper}{acc:List Eff}{st:St}{T:List (Nat×AV)}{S:List AK}{xs:List (Operand×AV)}{rS wS:List (Nat×AK)}{v:AV}{op:Op}{ty:TypeId}{pos:String}{after:Array Edge}{dst:Option Tmp}{f:FuncId}{ats:Array TypeId}
theorem P0{o:Oper}{e:Eff}{st':St}(h:Run P nt ops [o] st [e] st')(k:RGoE P nt ops l Q rest (acc++[e]) st'):RGoE P nt ops l Q (o::rest) acc st:=by
 obtain⟨h1,h2,h3⟩:=h.spec;obtain⟨β,b0,i0,effs,k1,k3,k4,k5,k6,k7⟩:=k;have hst:st'=e.app st:=by rw[h1,NI];rfl
 subst hst;simp only[AR,Bj,CP,WW]at h2;refine⟨β,b0,i0+1,λb=>e::effs b,λb=>by simp[k1 b,h2],λb i e' hi he=>?_,λe' he=>?_,λb=>by simpa using k5 b,λi hi hl=>?_,λb=>by rw[NI];exact k7 b⟩
 ·cases i with
  |zero=>
   simp at he;subst he;rw[Kb];have:=h3 0 e rfl;rwa[Kb]at this
  |succ i=>
   rw[Kc];exact k3 b i e' (by omega) (by simpa using he)
 ·rw[Kc]
  obtain⟨a1,a2,a3⟩:=k4 e' (by simpa using he);exact⟨a1,a2,λm0 T S a w h1 h2 h3=>by simpa using a3 m0 T S a w h1 h2 h3⟩
 ·cases i with
  |zero=>exact .inl λb b'=>rfl
  |succ i=>
   have hl':(acc++[e]).length+i<(Do l []).length:=by rw[Ax,CG];omega
   rcases k6 i (by omega) hl' with h|⟨m,hm1,hm2⟩
   ·exact .inl λb b'=>by simpa using h b b'
   ·rw[Ax,CG]at hm1 hm2
    exact .inr ⟨m,by rw[<-hm1];congr 1;omega,by rw[<-hm2];congr 1;omega⟩
theorem Ue(k:RGoE P nt ops l Q rest (acc++[⟨⟨dst,op,ty,pos,after,none⟩,BZ xs,rS.map (·.1),v,[]⟩]) ⟨A6 T dst v,S⟩)(h:Stp none P ⟨dst,op,ty,pos,after,none⟩ T S xs rS v []:=by exact Jc)(hd:Ao dst nt=true:=by rfl):RGoE P nt ops l Q (⟨dst,op,ty,pos,after,none⟩::rest) acc ⟨T,S⟩:=P0 (Run.p h hd .nil) k
end
end
end
section
variable {ro:Option Nat}
section
variable {P:Program}{nt:Nat}{ops:Array Oper}{Q:Exit->St->Prop}{l rest:List Oper}{acc:List Eff}{T:List (Nat×AV)}{S:List AK}{f:FuncId}{x0 x1 x2 x3:Operand}{v0 v1 v2 v3 r v:AV}{xs:List (Operand×AV)}{dst:Option Tmp}{ats:Array TypeId}{ty:TypeId}{pos:String}{after:Array Edge}{p1 p2:Nat}{z1 z2:AK}{y1 y2:Nat->AK}
end
end
section
variable {ro:Option Nat}
theorem Spec.drop{S R:List AK}(h:Spec P f args S λr S'=>∃S1,S'=S1++R/\Q r S1):Spec P f args S Q:=
 ⟨h.fn,λSf m N Z vals hZ G hv=>by
  refine(h.run Sf m N Z vals hZ G hv).mono ?_;rintro e w' ⟨v,r,S',m',N',Z',br,he,hw,hm,G',hvv,S1,rfl,hQ⟩;obtain⟨Za,Zb,rfl,h1,h2⟩:=Bv hm;obtain⟨Zc,Zd,rfl,h3,h4⟩:=Bv h1;refine⟨v,r,S1,m',N',Zc++Zb,br,he,hw,by rw[AJ,h3,h2],G'.sub ?_,hvv,hQ⟩;rw[BC];exact(Dt Zc).append (Ie _ _)⟩
section
variable {P:Program}{nt:Nat}{ops:Array Oper}{Q:Exit->St->Prop}{l rest:List Oper}{acc:List Eff}{T:List (Nat×AV)}{S Sin:List AK}{xs:List (Operand×AV)}{dst:Option Tmp}{f:FuncId}{ats:Array TypeId}{ty:TypeId}{pos:String}{after:Array Edge}
theorem P1{C:β->Prop}{rr vv:β->AV}{So:β->List AK}{rS:List (Nat×AK)}{wE:β->List (Nat×AK)}(b0:β)(hb0:C b0)(h:Spec P f (xs.map (·.2)) Sin λr' S'=>∃b,C b/\r'=rr b/\S'=So b)(hf:∀b,TR (rr b) (vv b) [])(hr:rS.map (·.2)=Sin)(hw:∀b,(wE b).map (·.2)=So b)(hp:∀b,(wE b).map (·.1)=rS.map (·.1))(hnd:(rS.map (·.1)).Nodup)(hG:Gets S rS)(hx:Evs T xs)(ht:BT xs=true)(hd:Ao dst nt=true)(hl:NS acc.length (Do l [])=true)
  (k:∀b,C b->RGo P nt ops l Q rest (acc++[⟨⟨dst,.call ⟨.value (.func f),(xs.map (·.1)).toArray,ats⟩,ty,pos,after,none⟩,BZ xs,rS.map (·.1),vv b,wE b⟩]) ⟨A6 T dst (vv b),A5 S (wE b)⟩):RGoE P nt ops l Q (⟨dst,.call ⟨.value (.func f),(xs.map (·.1)).toArray,ats⟩,ty,pos,after,none⟩::rest) acc ⟨T,S⟩:=by
 have hk:∀b:{b//C b},∃effs st',Run P nt ops rest ⟨A6 T dst (vv b.1),A5 S (wE b.1)⟩ effs st' /\E3 ((acc++[⟨⟨dst,.call ⟨.value (.func f),(xs.map (·.1)).toArray,ats⟩,ty,pos,after,none⟩,BZ xs,rS.map (·.1),vv b.1,wE b.1⟩])++effs) (Do l [])=true/\Q .normal st':=λb=>k b.1 b.2
 refine⟨{b//C b},⟨b0,hb0⟩,0,λb=>⟨⟨dst,.call ⟨.value (.func f),(xs.map (·.1)).toArray,ats⟩,ty,pos,after,none⟩,BZ xs,rS.map (·.1),vv b.1,wE b.1⟩::(hk b).choose,λb=>?_,λb i e hi he=>?_,λe he=>?_,λb=>?_,Pc hl,λb=>?_⟩
 ·obtain⟨st',h1,h2,h3⟩:=(hk b).choose_spec
  rw[AR,h1.spec.2.1]
 ·obtain⟨st',h1,h2,h3⟩:=(hk b).choose_spec
  cases i with
  |zero=>exact absurd rfl hi
  |succ i=>
   rw[Kc];exact h1.spec.2.2 i e (by simpa using he)
 ·simp at he
  subst he;refine⟨rfl,by simp,λm0 T' S' a w hT hS hr'=>?_⟩;rw[Kb]at hT hS;obtain⟨m,N,Z,rfl,h2,h3,h4⟩:=hr';have h2':Z.map (·.1)=S':=h2;have h4':TRel m0 m nt T' a:=h4
  have hv:VTs m (xs.map (·.2)) (((xs.map (·.1)).toArray).map a.eval).toList []:=by
   have:=FK (DU ht) λq hq=>h4'.ev (JW (st:=⟨T,S⟩) hx hT q hq)
   simpa[Cp]using this
  have hS0:∀q∈rS,S'[q.1]?=some q.2:=by
   intro q hq;rw[hS q.1 (BH.2 ⟨q,hq,rfl⟩)];exact hG.all q hq
  have hc:=Gp (dst:=dst) (S:=S') (nw:=λ_=>[]) (gs:=[]) h hf (λ_=>rfl) (by rw[hr,BL]) (λb=>by rw[hw b,BL]) hp hnd hS0 (DM hd) h2' h3 h4' hv;have hw:=Ge (ty:=ty) (pos:=pos) (after:=after) (g:=none) (dst:=dst) (ats:=ats) (K:=λa' w'=>∃b,C b/\Rel nt m0 ⟨A6 T' dst (vv b),A5 S' (wE b)⟩ a' w') (λ_=>rfl) h.fn hc;refine Tg ?_ hw;rintro a' w' ⟨b,hb,hrel⟩;exact⟨(⟨b,hb⟩,⟨⟨dst,.call ⟨.value (.func f),(xs.map (·.1)).toArray,ats⟩,ty,pos,after,none⟩,BZ xs,rS.map (·.1),vv b,wE b⟩),rfl,hrel⟩
 ·obtain⟨st',h1,h2,h3⟩:=(hk b).choose_spec
  simpa using h2
 ·obtain⟨st',h1,h2,h3⟩:=(hk b).choose_spec
  rw[NI];have:=h1.spec.1;rw[this]at h3;exact h3
theorem Ud{rr vv:β->AV}{s1 s2 s3 s4:β->AK}{p1 p2 p3 p4:Nat}(Y1 Y2 Y3 Y4:Nat)(b0:β)(h:Spec P f [] [] λr' S'=>∃b,r'=rr b/\S'=[s1 b,s2 b,s3 b,s4 b])[hf:∀b,Frz (rr b) (vv b)]
  (k:∀b,RGo P nt ops l Q rest (acc++[⟨⟨dst,.call ⟨.value (.func f),#[],ats⟩,ty,pos,after,none⟩,[],[p1,p2,p3,p4],vv b,[(p1,s1 b),(p2,s2 b),(p3,s3 b),(p4,s4 b)]⟩]) ⟨A6 T dst (vv b),A5 S [(p1,s1 b),(p2,s2 b),(p3,s3 b),(p4,s4 b)]⟩)
  (hl:NS acc.length (Do l [])=true:=by kernel_rfl) (a1:At S p1 (Y1,.gone):=by exact AY) (a2:At S p2 (Y2,.gone):=by exact AY) (a3:At S p3 (Y3,.gone):=by exact AY) (a4:At S p4 (Y4,.gone):=by exact AY) (hnd:Dj [p1,p2,p3,p4]=true:=by rfl) (hd:Ao dst nt=true:=by rfl):
  RGoE P nt ops l Q (⟨dst,.call ⟨.value (.func f),#[],ats⟩,ty,pos,after,none⟩::rest) acc ⟨T,S⟩:=
 P1 (xs:=[]) (C:=λ_=>True) (rr:=rr) (vv:=vv) (So:=λb=>[s1 b,s2 b,s3 b,s4 b]) (rS:=[(p1,(Y1,.gone)),(p2,(Y2,.gone)),(p3,(Y3,.gone)),(p4,(Y4,.gone))]) (wE:=λb=>[(p1,s1 b),(p2,s2 b),(p3,s3 b),(p4,s4 b)]) b0 C9
  (Spec.drop (R:=[(Y1,.gone),(Y2,.gone),(Y3,.gone),(Y4,.gone)]) ((h.beside [(Y1,.gone),(Y2,.gone),(Y3,.gone),(Y4,.gone)]).mono λr' S' ⟨S1,e1,b,e2,e3⟩=>⟨S1,e1,b,C9,e2,e3⟩)) (λb=>.fz) rfl (λ_=>rfl) (λ_=>rfl) (De hnd) (.cons a1 (.cons a2 (.cons a3 (.cons a4 .nil)))) .nil rfl hd hl (λb _=>k b)
end
end
theorem Good.addUsed{m0 m:Mem}{N X:Nat}{Z:Zs}{br:List Nat}(G:Good m0 m N Z br)(hU:m.U X)(hk:X∉Z.keys):Good m0 m N (((X,.used),[])::Z) br:=by
 refine⟨λq hq=>?_,by simpa[Zs.own]using G.own,by simpa[Zs.own]using G.blk,G.frz,Bs.2 ⟨hk,G.keys⟩,λx hx=>?_,G.usedN,G.le,G.os,G.tape,G.output,G.size⟩
 ·rcases AW.1 hq with rfl|hq
  ·exact⟨rfl,hU⟩
  ·exact G.obj q hq
 ·rcases AW.1 hx with rfl|hx
  ·exact G.usedN _ hU
  ·exact G.keyN x hx
theorem Spec.used2{X Y:Nat}{t t2:TypeId}{sz sz2:Nat}{l l2:List AV}{r:AV}(h:Spec P f args [(X,.row t sz l),(Y,.row t2 sz2 l2)] λr' S'=>r'=r/\S'=[]):Spec P f args [(X,.row t sz l),(Y,.row t2 sz2 l2)] λr' S'=>r'=r/\S'=[(X,.used),(Y,.used)]:=
 ⟨h.fn,λSf m N Z vals h1 h2 h3=>(h.run Sf m N Z vals h1 h2 h3).mono λe w' ⟨v,r',S',m',N',Z',br,a,b,hm,G,e',hr,hS⟩=>by
  subst hS;simp only[DX]at hm;have hk:∀Z1:Zs,Z1.keys=(Z1.map (·.1)).map (·.1):=λZ1=>by simp[Zs.keys]
  have hkeys:=h2.keys;rw[hk,h1]at hkeys;simp only[EX,DX,AR,Bs,Cq,not_or]at hkeys;obtain⟨⟨hXY,hX⟩,hY,_⟩:=hkeys
  have hUX:m.U X:=by
   have:(X,AO.row t sz l)∈Z.map (·.1):=by rw[h1];simp
   obtain⟨z,hz,e1⟩:=BH.1 this;have hO:=h2.obj z hz;rw[e1]at hO;exact hO.1
  have hUY:m.U Y:=by
   have:(Y,AO.row t2 sz2 l2)∈Z.map (·.1):=by rw[h1];simp
   obtain⟨z,hz,e1⟩:=BH.1 this;have hO:=h2.obj z hz;rw[e1]at hO;exact hO.1
  have nY:Y∉Z'.keys:=by rw[hk,hm];exact hY
  have G1:=G.addUsed (G.le.U Y hUY) nY
  have nX:X∉Zs.keys (((Y,AO.used),[])::Z'):=by
   rw[hk,AR,hm];simp only[AR,Cq,not_or];exact⟨hXY,hX⟩
  exact⟨v,r',[(X,.used),(Y,.used)],m',N',((X,.used),[])::((Y,.used),[])::Z',br,a,b,by simp[hm],G1.addUsed (G.le.U X hUX) nX,e',hr,rfl⟩⟩
section
variable {ro:Option Nat}
def Ii(n:Nat)(e:Eff):Eff:=⟨e.o,e.rT,e.rS.filter λp=>Nat.blt p n,e.v,e.wS⟩
theorem Kq{a b:List Nat}(h:∀p∈a,p<n):J6 a (b.filter λp=>Nat.blt p n)=J6 a b:=by
 have hb:∀p,p<n->Nat.blt p n=true:=λp h=>by simpa[HV]using h
 apply Eu.2;simp only[J6,G7];constructor
 ·rintro⟨x,hx,y,hy,e⟩
  exact⟨x,hx,y,(Dw.1 hy).1,e⟩
 ·rintro⟨x,hx,y,hy,e⟩
  have e':=C5 e;subst e';exact⟨x,hx,x,Dw.2 ⟨hy,hb x (h x hx)⟩,e⟩
def RB(n:Nat)(e:Eff):Bool:=e.wS.all λq=>Nat.blt q.1 n
theorem Mg{e:Eff}(h:RB n e=true):∀p∈e.wS.map (·.1),p<n:=by
 intro p hp;obtain⟨q,hq,rfl⟩:=BH.1 hp;have:=Cl.1 h q hq;simpa[HV]using this
theorem Ov{a b:Eff}(ha:RB n a=true)(hb:RB n b=true):Ft (Ii n a) (Ii n b)=Ft a b:=by
 unfold Ft;show(RA a.o.dst b.rT||RA b.o.dst a.rT||U4 a.o.dst b.o.dst||J6 (a.wS.map (·.1)) (b.rS.filter λp=>Nat.blt p n)||J6 (b.wS.map (·.1)) (a.rS.filter λp=>Nat.blt p n)||J6 (a.wS.map (·.1)) (b.wS.map (·.1)))=_
 rw[Kq (Mg ha),Kq (Mg hb)]
theorem Ng{effs:List Eff}{ms:List Nat}(h:∀e∈effs,RB n e=true)(hc:E3 (effs.map (Ii n)) ms=true):E3 effs ms=true:=by
 unfold E3 at hc⊢;rw[AD]at hc;rw[Cl]at hc⊢;intro j hj;have h1:=hc j hj;rw[Cl]at h1⊢;intro i hi;have h2:=h1 i hi;rw[Am,Am]at h2;cases ei:effs[i]? with
 |none=>rw[ei]at h2;simp at h2
 |some a=>
  cases ej:effs[j]? with
  |none=>rw[ei,ej]at h2;simp at h2
  |some b=>
   rw[ei,ej]at h2;cases em:ms[j]? with
   |none=>rw[em]at h2;simp at h2
   |some m=>
    rw[em]at h2;simp only[Au]at h2⊢;rwa[Ov (h a (Bc ei)) (h b (Bc ej))]at h2
section
variable {P:Program}{nt:Nat}{ops:Array Oper}{Q:Exit->St->Prop}{l rest:List Oper}{acc:List Eff}{st:St}{T:List (Nat×AV)}{S:List AK}{xs:List (Operand×AV)}{rS wS:List (Nat×AK)}{v:AV}{op:Op}{ty:TypeId}{pos:String}{after:Array Edge}{dst:Option Tmp}{n:Nat}
def RGoT(n:Nat)(P:Program)(nt:Nat)(ops:Array Oper)(l:List Oper)(Q:Exit->St->Prop)(rest:List Oper)(acc:List Eff)(st:St):Prop:=
 ∃effs st',Run P nt ops rest st effs st' /\(∀e∈effs,RB n e=true)/\E3 (acc++effs.map (Ii n)) (Do l [])=true/\Q .normal st'
theorem AWP.region_runT(n:Nat){id:Nat}(hm:P.follows .mixedOrders=true)(hdn:JY l 0=true)(h:RGoT n P nt l.toArray l Q l [] st):AWP ro P nt (.region id l.toArray true) Q st:=by
 obtain⟨effs,st',h1,h2,h3,h4⟩:=h;exact .region_run hm hdn ⟨effs,st',h1,Ng h2 h3,h4⟩
theorem RGoT.nil(hc:E3 acc (Do l [])=true)(k:Q .normal st):RGoT n P nt ops l Q [] acc st:=⟨[],st,.nil,by simp,by simpa using hc,k⟩
theorem IX{o:Oper}{e:Eff}{st':St}(h:∀{effs st''},Run P nt ops rest st' effs st'' ->Run P nt ops (o::rest) st (e::effs) st'')(hw:RB n e=true)(k:RGoT n P nt ops l Q rest (acc++[Ii n e]) st'):RGoT n P nt ops l Q (o::rest) acc st:=by
 obtain⟨effs,st'',h1,h2,h3,h4⟩:=k;refine⟨_,_,h h1,λe' he=>?_,by simpa using h3,h4⟩;rcases AW.1 he with rfl|he
 ·exact hw
 ·exact h2 e' he
theorem EZ(k:RGoT n P nt ops l Q rest (acc++[Ii n ⟨⟨dst,op,ty,pos,after,none⟩,BZ xs,rS.map (·.1),v,[]⟩]) ⟨A6 T dst v,S⟩)(h:Stp none P ⟨dst,op,ty,pos,after,none⟩ T S xs rS v []:=by exact Jc)(hd:Ao dst nt=true:=by rfl):RGoT n P nt ops l Q (⟨dst,op,ty,pos,after,none⟩::rest) acc ⟨T,S⟩:=IX (λr=>Run.p h hd r) rfl k
theorem Lj(k:RGoT n P nt ops l Q rest (acc++[Ii n ⟨⟨dst,op,ty,pos,after,none⟩,BZ xs,rS.map (·.1),v,wS⟩]) ⟨A6 T dst v,A5 S wS⟩)(h:Stp none P ⟨dst,op,ty,pos,after,none⟩ T S xs rS v wS:=by exact Lc)(hw:(wS.all λq=>Nat.blt q.1 n)=true:=by rfl)(hd:Ao dst nt=true:=by rfl):RGoT n P nt ops l Q (⟨dst,op,ty,pos,after,none⟩::rest) acc ⟨T,S⟩:=IX (λr=>Run.s h hd r) hw k
end
section
variable {P:Program}{ty:TypeId}{pos:String}{after:Array Edge}{g:Option (Nat×Bool)}{dst:Option Tmp}{xs:List (Operand×AV)}{f:FuncId}{ats:Array TypeId}{r v:AV}{Sin:List AK}{rS:List (Nat×AK)}
theorem Ji:∀(rS:List (Nat×AK)) (S:List AK),(∀q∈rS,S[q.1]?=some q.2)->A5 S rS=S
 |[],S,_=>rfl
 |q::rS,S,h=>by
  have h1:=h q (by simp);obtain⟨h2,h3⟩:=AC.1 h1;have e:S.set q.1 q.2=S:=by rw[<-h3];exact Gc h2
  show A5 (S.set q.1 q.2) rS=S
  rw[e];exact Ji rS S λq' hq=>h q' (by simp[hq])
theorem OpT.callK(h:Spec P f (xs.map (·.2)) Sin λr' S'=>r'=r/\S'=Sin)(ht:BT xs=true)(hT:TR r v [])(hr:rS.map (·.2)=Sin)(hnd:(rS.map (·.1)).Nodup):
  OpT P ⟨dst,.call ⟨.value (.func f),(xs.map (·.1)).toArray,ats⟩,ty,pos,after,g⟩ xs rS v []:=by
 intro nt m0 T S a w hx hS hd hrel;have:=E5 (ty:=ty) (pos:=pos) (after:=after) (g:=g) (dst:=dst) (ats:=ats) (wS:=rS) (news:=[]) h ht hT (by rw[hr];simp[Cd]) (by rw[hr];simp) rfl hnd nt m0 T S a w hx hS hd hrel;rw[Ji rS S hS]at this;exact this
variable {n nt:Nat}{ops:Array Oper}{Q:Exit->St->Prop}{l rest:List Oper}{acc:List Eff}{T:List (Nat×AV)}{L R:List AK}{S:List AK}
theorem Ll(h:Spec P f (xs.map (·.2)) Sin λr' S'=>r'=r/\S'=Sin)(hf:TR r v [])(hS:S=L++(Sin++R))(hn:n<=L.length)(hx:Evs T xs)(ht:BT xs=true)(hd:Ao dst nt=true)
  (k:RGoT n P nt ops l Q rest (acc++[⟨⟨dst,.call ⟨.value (.func f),(xs.map (·.1)).toArray,ats⟩,ty,pos,after,none⟩,BZ xs,[],v,[]⟩]) ⟨A6 T dst v,S⟩):RGoT n P nt ops l Q (⟨dst,.call ⟨.value (.func f),(xs.map (·.1)).toArray,ats⟩,ty,pos,after,none⟩::rest) acc ⟨T,S⟩:=by
 have hG:Gets S (Ew L.length Sin):=by rw[hS];exact Hi L Sin R
 have hop:OpT P ⟨dst,.call ⟨.value (.func f),(xs.map (·.1)).toArray,ats⟩,ty,pos,after,none⟩ xs (Ew L.length Sin) v []:=.callK h ht hf (GR _ _) (by rw[FG];exact List.nodup_range')
 have hst:Ii n ⟨⟨dst,.call ⟨.value (.func f),(xs.map (·.1)).toArray,ats⟩,ty,pos,after,none⟩,BZ xs,(Ew L.length Sin).map (·.1),v,[]⟩=⟨⟨dst,.call ⟨.value (.func f),(xs.map (·.1)).toArray,ats⟩,ty,pos,after,none⟩,BZ xs,[],v,[]⟩:=by
  unfold Ii;dsimp only;rw[FG]
  have:(List.range' L.length Sin.length).filter (λp=>Nat.blt p n)=[]:=by
   rw[WL];intro p hp;rw[List.mem_range'_1]at hp;simp only[HV];omega
  rw[this]
 refine IX (e:=⟨⟨dst,.call ⟨.value (.func f),(xs.map (·.1)).toArray,ats⟩,ty,pos,after,none⟩,BZ xs,(Ew L.length Sin).map (·.1),v,[]⟩) (λr=>Run.step rfl hop hx hG hd r) rfl ?_;rw[hst];exact k
end
end
section
section
variable {P:Program}{dst:Option Tmp}{t ty ty2:TypeId}{pos:String}{after:Array Edge}{g:Option (Nat×Bool)}{x y:Operand}{c:Option (List Bool)}{T:List (Nat×AV)}{S:List AK}
theorem OpT.nePtrN[hp:TPtr P t]{X p sz:Nat}{t1:TypeId}(h0:0<l.length):OpT P ⟨dst,.binOp .neq t x y ty2,ty,pos,after,g⟩ [(x,.ptr X 0 0),(y,.prim (.pointer none))] [(p,(X,.row t1 sz l))] (.prim (.bool true)) []:=
 .pure_ λm a hx hS=>by
  obtain⟨bs,hO⟩:=hS (p,(X,.row t1 sz l)) (by simp);obtain⟨L,arr,bs',hL,_,_⟩:=VH hO h0;obtain⟨_,_,A,hA,hA2⟩:=hx (x,.ptr X 0 0) (by simp);have h2:=(hx (y,.prim (.pointer none)) (by simp)).prim;simp only[CP,WW]at hA;simp only at h2;rw[hA2 L hL,Fb,Af]at hA;refine⟨.bool true,?_,Cc _ rfl⟩;simp[execOp,hA,h2,AA,eqGuard,NN]
theorem W.nePtrN[TPtr P t]{X p sz:Nat}{t1:TypeId}(hx:Rd c T x (.ptr X 0 0))(hy:Rd c T y (.prim (.pointer none)))(hS:At S p (X,.row t1 sz l))(h0:0<l.length):Stp c P ⟨dst,.binOp .neq t x y ty2,ty,pos,after,g⟩ T S [(x,.ptr X 0 0),(y,.prim (.pointer none))] [(p,(X,.row t1 sz l))] (.prim (.bool true)) []:=⟨.nePtrN h0,.cons hx (.cons hy .nil),.cons hS .nil⟩
end
section
variable {P:Program}{n nt:Nat}{ops:Array Oper}{Q:Exit->St->Prop}{l rest:List Oper}{acc:List Eff}{T:List (Nat×AV)}{L R S:List AK}{op:Op}{ty:TypeId}{pos:String}{after:Array Edge}{dst:Option Tmp}{xs:List (Operand×AV)}{rS wS:List (Nat×AK)}{f:FuncId}{ats:Array TypeId}{r v:AV}{Sin:List AK}
end
end
theorem JA{A B:Prop} (k:B) (h:Hd B->A:=by (intro b;refine KK ?_;refine RT ?_;exact b.h)):A:=h ⟨k⟩
theorem JB{A B:Prop} (k:B) (h:Hd B->A:=by (intro b;refine FL ?_;refine RG ?_;exact b.h)):A:=h ⟨k⟩
theorem JC{A B:Prop} (k:B) (h:Hd B->A:=by (intro b;refine WO ?_;refine NL ?_;exact b.h)):A:=h ⟨k⟩
theorem JD{A B:Prop} (k:B) (h:Hd B->A:=by (intro b;refine FL ?_;refine R1 ?_;refine FL ?_;exact b.h)):A:=h ⟨k⟩
theorem JE{A B:Prop} (k:B) (h:Hd B->A:=by (intro b;refine RK ?_;refine RK ?_;exact b.h)):A:=h ⟨k⟩
theorem Ics.s{B:AV->AV->Prop}{a:AV}{as bs:List AV}(k:Ics B as bs):Ics B (a::as) (a::bs):=.cons .same k
theorem CCs.s{S S':List AK}{a:AV}{as bs:List AV}(k:CCs S as bs S'):CCs S (a::as) (a::bs) S':=.cons .same k
theorem CCs.r:{as:List AV}->CCs S as as S
 |[]=>.nil
 |_::_=>.cons .same CCs.r
theorem Ics.r{B:AV->AV->Prop}:{as:List AV}->Ics B as as
 |[]=>.nil
 |_::_=>.cons .same Ics.r
end Go.Proofs.YtmkahplhnbbgmaaGreat
