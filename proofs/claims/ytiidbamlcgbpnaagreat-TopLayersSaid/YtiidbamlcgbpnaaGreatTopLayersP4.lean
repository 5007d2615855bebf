/-
  Part 4 of the texts under the law TopLayers: the layer of abstract values, walks and plain laws. Conditions: those that each theorem names.
-/
import Derived.LaidEqlPtr
import Derived.Test.YtiidbamlcgbpnaaGreatTopLayersP3
namespace Go.Proofs.YtiidbamlcgbpnaaGreat
set_option linter.unusedVariables false
set_option linter.unusedSimpArgs false
set_option linter.defProp false
set_option maxRecDepth 10000
set_option maxHeartbeats 4000000
section
open Go.RowKit
variable {ro:Option Nat}
theorem Rel.perm{nt:Nat}{m0:Mem}{T:List (Nat×AV)}{S S':List AC}{a:Act}{w:World}(h:S.Perm S')(k:Rel nt m0 ⟨T,S⟩ a w):Rel nt m0 ⟨T,S'⟩ a w:=by
 obtain⟨m,N,Z,h1,h2,h3,h4⟩:=k;obtain⟨Z',p,e⟩:=En (λz:AC×List Nat=>z.1) h h2;exact⟨m,N,Z',h1,e,h3.perm p,h4⟩
section
variable {P:Program}{nt:Nat}{ops:Array Oper}{Q:Exit->St->Prop}{rest:List Oper}{T:List (Nat×AV)}{S S':List AC}
theorem AOps.perm(h:S.Perm S')(k:AOps ro P nt ops Q rest ⟨T,S'⟩):AOps ro P nt ops Q rest ⟨T,S⟩:=λm0 a w hr=>k m0 a w (hr.perm h)
theorem AWP.perm{c:Code}(h:S.Perm S')(k:AWP ro P nt c Q ⟨T,S'⟩):AWP ro P nt c Q ⟨T,S⟩:=λm0 a w hr=>k m0 a w (hr.perm h)
end
section
variable {P:Program}{nt:Nat}{ops:Array Oper}{Q:Exit->St->Prop}{rest:List Oper}{T:List (Nat×AV)}{S:List AC}{p:Nat}{o:AO}
theorem AWP.front{c:Code}(X:Nat)(k:AWP ro P nt c Q ⟨T,(X,o)::S.eraseIdx p⟩)(hS:At S p (X,o):=by exact At.f):AWP ro P nt c Q ⟨T,S⟩:=.perm (Ez hS.get) k
theorem AOps.front(X:Nat)(k:AOps ro P nt ops Q rest ⟨T,(X,o)::S.eraseIdx p⟩)(hS:At S p (X,o):=by exact At.f):AOps ro P nt ops Q rest ⟨T,S⟩:=.perm (Ez hS.get) k
end
theorem WM{S:List AC}{p:Nat}{e:AC}(h:At S p e):S.set p e=S:=by
 obtain⟨h1,h2⟩:=List.getElem?_eq_some_iff.1 h.get;rw[<-h2];exact List.set_getElem_self h1
section
variable {P:Program}{nt:Nat}{ops:Array Oper}{Q:Exit->St->Prop}{rest:List Oper}{T:List (Nat×AV)}{S:List AC}{p:Nat}{t:TypeId}{sz:Nat}{l l':List AV}
theorem Mx{c:Code}(X:Nat)(h:l=l')(k:AWP ro P nt c Q ⟨T,S.set p (X,.row t sz l')⟩)(hS:At S p (X,.row t sz l):=by exact At.f):AWP ro P nt c Q ⟨T,S⟩:=by
 subst h;rw[WM hS]at k;exact k
end
theorem B5{α:Type}(A B C:List α):(A++(B++C)).Perm (B++(A++C)):=by
 rw[<-AP,<-AP];exact List.Perm.append_right _ List.perm_append_comm
theorem Spec.perm{P:Program}{f:FuncId}{args:List AV}{S S2:List AC}{Q Q2:AV->List AC->Prop}(h:Spec P f args S Q)(hp:S2.Perm S)(hq:∀r S',Q r S' ->∃S2',S'.Perm S2' /\Q2 r S2'):Spec P f args S2 Q2:=
 ⟨h.fn,λSf m N Z vals hZ G hv=>by
  obtain⟨Z1,p1,e1⟩:=En (λz:AC×List Nat=>z.1) (hp.append_right Sf) hZ;refine(h.run Sf m N Z1 vals e1 (G.perm p1) hv).mono ?_;rintro e w' ⟨v,r,S',m',N',Z',br,he,hw,hm,G',hvv,hQ⟩;obtain⟨S2',p2,hQ2⟩:=hq r S' hQ;obtain⟨Z2,p3,e3⟩:=En (λz:AC×List Nat=>z.1) (p2.append_right Sf) hm;exact⟨v,r,S2',m',N',Z2,br,he,hw,e3,G'.perm p3,hvv,hQ2⟩⟩
theorem Spec.beside{P:Program}{f:FuncId}{args:List AV}{S:List AC}{Q:AV->List AC->Prop}(h:Spec P f args S Q)(R:List AC):Spec P f args (S++R) λr S'=>∃S1,S'=S1++R/\Q r S1:=
 ⟨h.fn,λSf m N Z vals hZ G hv=>by
  refine(h.run (R++Sf) m N Z vals (by rw[hZ,AP]) G hv).mono ?_;rintro e w' ⟨v,r,S',m',N',Z',br,he,hw,hm,G',hvv,hQ⟩;exact⟨v,r,S'++R,m',N',Z',br,he,hw,by rw[hm,AP],G',hvv,S',rfl,hQ⟩⟩
section
variable {P:Program}{dst:Option Tmp}{f:FuncId}{β:Type}{C:β->Prop}{rr vv:β->AV}{Sin:List AC}{So nw:β->List AC}{gs L R:List AC}{nt:Nat}{T:List (Nat×AV)}{S:List AC}
theorem Mj{m0:Mem}{a:Act}{args:List AV}{vals:Array Value}(h:Spec P f args Sin λr' S'=>∃b,C b/\r'=rr b/\S'=So b)(hT:∀b,TR (rr b) (vv b) (nw b))(hgs:∀b,B6 (nw b)=gs)(hp:S.Perm (Sin++(gs++(L++R))))
  (hd:∀d,dst=some d->d<nt) {m:Mem} {N:Nat} {Z:Zs} (h2:Z.map (·.1)=S) (h3:Good m0 m N Z []) (h4:TRel m0 m nt T a) (hv:VTs m args vals.toList []):
  Calls P f vals m.w λe w'=>∃u,e= .returned u/\∃b,C b/\Rel nt m0 ⟨AW T dst (vv b),nw b++(L++(So b++R))⟩ (a.put dst u) w':=by
 obtain⟨Z1,hz1,hz2⟩:=En (λz:AC×List Nat=>z.1) hp h2;refine(h.run _ m N Z1 vals hz2 (h3.perm hz1).self hv).mono ?_;rintro e w' ⟨u,r',S',m',N',Z',br,rfl,rfl,hm,G',hu,b,hb,rfl,rfl⟩;obtain⟨Zo,Zr,rfl,ho,hzr⟩:=Az hm;obtain⟨Zg,Zf,rfl,hg,hf⟩:=Az hzr;obtain⟨Zl,Zq,rfl,hl,hq⟩:=Az hf;have G1:=h3.perm hz1 |>.after G'
 have G2:Good m0 m' N' (Zg++(Zo++(Zl++Zq))) (br++[]):=by
  have:=G1.perm (B5 Zo Zg (Zl++Zq));simpa using this
 obtain⟨m2,Zn,hw2,hn,G3,hle,hv2⟩:=(hT b).sound (hg.trans (hgs b).symm) G2 hu;have G4:=G3.perm ((B5 Zo Zl Zq).append_left Zn);refine⟨u,rfl,b,hb,m2,N',Zn++(Zl++(Zo++Zq)),hw2,?_,G4,((h4.mono G'.le).mono hle).put hd hv2⟩;simp[ho,hn,hl,hq]
variable {ops:Array Oper}{Q:Exit->St->Prop}{rest:List Oper}{ats:Array TypeId}{ty:TypeId}{pos:String}{after:Array Edge}{xs:List (Operand×AV)}
theorem Cg(h:Spec P f (xs.map (·.2)) Sin λr' S'=>∃b,C b/\r'=rr b/\S'=So b)(hT:∀b,TR (rr b) (vv b) (nw b))(hgs:∀b,B6 (nw b)=gs)(hp:S.Perm (Sin++(gs++(L++R))))(hx:Evs T xs)(ht:Am xs=true)(hd:AU dst nt=true)
  (k:∀b,C b->AOps ro P nt ops Q rest ⟨AW T dst (vv b),nw b++(L++(So b++R))⟩):AOps ro P nt ops Q (⟨dst,.call ⟨.value (.func f),(xs.map (·.1)).toArray,ats⟩,ty,pos,after,none⟩::rest) ⟨T,S⟩:=by
 rintro m0 a w ⟨m,N,Z,rfl,h2,h3,h4⟩;refine wpListIn_plain rfl λK hK=>Hp (C:=C) (sE:=λb=>⟨AW T dst (vv b),nw b++(L++(So b++R))⟩) (by simp) (Gf (λ_=>rfl) h.fn (Mj h hT hgs hp (Bo hd) h2 h3 h4 ?_)) λa' w' ⟨b,hb,hrel⟩=>hK _ _ (k b hb m0 _ _ hrel)
 have:=EW (CQ ht) λq hq=>h4.ev (hx.all q hq)
 simpa[Function.comp_def]using this
theorem JS{x:Operand}{cap:List AV}(h:Spec P f (xs.map (·.2)++cap) Sin λr' S'=>∃b,C b/\r'=rr b/\S'=So b)(hT:∀b,TR (rr b) (vv b) (nw b))(hgs:∀b,B6 (nw b)=gs)(hp:S.Perm (Sin++(gs++(L++R))))(hf:ev T x=some (.fn f cap))(hs:B4 cap=true)(hx:Evs T xs)(ht:Am xs=true)(hd:AU dst nt=true)
  (k:∀b,C b->AOps ro P nt ops Q rest ⟨AW T dst (vv b),nw b++(L++(So b++R))⟩):AOps ro P nt ops Q (⟨dst,.call ⟨.value x,(xs.map (·.1)).toArray,ats⟩,ty,pos,after,none⟩::rest) ⟨T,S⟩:=by
 rintro m0 a w ⟨m,N,Z,rfl,h2,h3,h4⟩;obtain⟨vs,e1,h5⟩:=h4.ev hf;injection e1 with e1
 refine wpListIn_plain rfl λK hK=>Hp (C:=C) (sE:=λb=>⟨AW T dst (vv b),nw b++(L++(So b++R))⟩) (by simp) (Jr e1 h.fn (Mj h hT hgs hp (Bo hd) h2 h3 h4 ?_)) λa' w' ⟨b,hb,hrel⟩=>hK _ _ (k b hb m0 _ _ hrel)
 have:=Jf (EW (CQ ht) λq hq=>h4.ev (hx.all q hq)) (Gh hs h5);simpa[Function.comp_def]using this
end
section
variable {nt:Nat}{st:St}{d p q X Y:Nat}{u:Value}{v:AV}{K:AV->Value->Prop}{t:TypeId}{sz:Nat}{l:List AV}
theorem St.asPtr(hd:Ab st.T d=some (.prim u))(hq:At st.S q (Y,.tv K))(hK:K v u):D8 nt st λst'=>st'=⟨(d,v)::st.T,st.S⟩:=by
 rintro m0 a w ⟨m,N,Z,rfl,h2,h3,h4⟩;obtain⟨bs,hz⟩:=hq.z h2;obtain⟨_,_,hO⟩:=h3.obj _ (Ao hz);refine⟨⟨(d,v)::st.T,st.S⟩,⟨m,N,Z,rfl,h2,h3,h4.1,h4.2.1,λe v' he=>?_⟩,rfl⟩;rw[Al]at he;split at he
 ·rename_i e';subst e'
  injection he with he;subst he
  obtain⟨u',h5,h6⟩:=h4.2.2 _ _ hd;exact⟨u',h5,by rw[h6.prim];exact hO _ _ hK⟩
 ·exact h4.2.2 e v' he
theorem St.namePtr(hd:Ab st.T d=some (.ptr X 0 0))(hS:At st.S p (X,.row t sz l))(hq:At st.S q (Y,.tv K)):D8 nt st λst'=>∃b:Nat,st'=⟨(d,.prim (.pointer (some ⟨b,0,none⟩)))::st.T,st.S.set q (Y,.tv λv u=>K v u\/(v= .ptr X 0 0/\u= .pointer (some ⟨b,0,none⟩)))⟩:=by
 rintro m0 a w ⟨m,N,Z,rfl,h2,h3,h4⟩;obtain⟨bs,hz⟩:=hq.z h2;obtain⟨bs1,hz1⟩:=hS.z h2;obtain⟨_,L,hL,_⟩:=h3.obj _ (Ao hz1);obtain⟨hbs,hU,hO⟩:=h3.obj _ (Ao hz);simp only at hbs hU hO;subst hbs;obtain⟨u',h5,h6⟩:=h4.2.2 _ _ hd;have h6':=h6;obtain⟨_,_,B,hB,hB2⟩:=h6;rw[hB2 L hL]at hB;injection hB with hB
 have hu:u'= .pointer (some ⟨L.blk,0,none⟩):=by rw[hB];simp
 obtain⟨R,hp1,hp2⟩:=Bd hz
 have G:=(h3.perm hp1).bag (z':=((Y,.tv λv u=>K v u\/(v= .ptr X 0 0/\u= .pointer (some ⟨L.blk,0,none⟩))),[])) (B:=[]) rfl ⟨rfl,hU,λv u h=>by
  rcases h with h|⟨rfl,rfl⟩
  ·exact hO v u h
  ·rw[<-hu];exact h6'⟩ (.refl _)
 refine⟨⟨(d,.prim (.pointer (some ⟨L.blk,0,none⟩)))::st.T,st.S.set q (Y,.tv λv u=>K v u\/(v= .ptr X 0 0/\u= .pointer (some ⟨L.blk,0,none⟩)))⟩,⟨m,N,Z.set q ((Y,_),[]),rfl,by rw[List.map_set,h2],G.perm (hp2 _).symm,h4.1,h4.2.1,λe v' he=>?_⟩,L.blk,rfl⟩;rw[Al]at he;split at he
 ·rename_i e';subst e'
  injection he with he;subst he
  exact⟨u',h5,by rw[hu];exact BM _⟩
 ·exact h4.2.2 e v' he
theorem St.note(K:AV->Value->Prop)(hK:∀v u,¬K v u):D8 nt st λst'=>∃Y,st'=⟨st.T,(Y,.tv K)::st.S⟩:=by
 rintro m0 a w ⟨m,N,Z,rfl,h2,h3,h4⟩;obtain⟨G',hle⟩:=h3.note K (λv u h=>absurd h (hK v u)) _ rfl;exact⟨⟨st.T,(N,.tv K)::st.S⟩,⟨{m with U:=λy=>m.U y\/y=N},N+1,_,rfl,by rw[List.map_cons,show Z.map (·.1)=st.S from h2],G',h4.mono hle⟩,N,rfl⟩
end
section
variable {P:Program}{nt:Nat}{ops:Array Oper}{Q:Exit->St->Prop}{rest:List Oper}{T:List (Nat×AV)}{S:List AC}{d p q X Y:Nat}{u:Value}{v:AV}{K:AV->Value->Prop}{t:TypeId}{sz:Nat}{l:List AV}{c:Code}
theorem AOps.asPtr(d:Nat)(v:AV)(hK:K v u)(kk:AOps ro P nt ops Q rest ⟨(d,v)::T,S⟩)(hq:At S q (Y,.tv K):=by exact At.f)(hd:Ab T d=some (.prim u):=by rfl):AOps ro P nt ops Q rest ⟨T,S⟩:=.ghost (St.asPtr (st:=⟨T,S⟩) hd hq hK) λst' e=>by subst e;exact kk
theorem AWP.asPtr(d:Nat)(v:AV)(hK:K v u)(kk:AWP ro P nt c Q ⟨(d,v)::T,S⟩)(hq:At S q (Y,.tv K):=by exact At.f)(hd:Ab T d=some (.prim u):=by rfl):AWP ro P nt c Q ⟨T,S⟩:=.ghost (St.asPtr (st:=⟨T,S⟩) hd hq hK) λst' e=>by subst e;exact kk
theorem AWP.namePtr(d:Nat)(kk:∀b:Nat,AWP ro P nt c Q ⟨(d,.prim (.pointer (some ⟨b,0,none⟩)))::T,S.set q (Y,.tv λv u=>K v u\/(v= .ptr X 0 0/\u= .pointer (some ⟨b,0,none⟩)))⟩)(hd:Ab T d=some (.ptr X 0 0):=by rfl)(hS:At S p (X,.row t sz l):=by exact At.f)(hq:At S q (Y,.tv K):=by exact At.f):AWP ro P nt c Q ⟨T,S⟩:=.ghost (St.namePtr (st:=⟨T,S⟩) hd hS hq) λst' ⟨b,e⟩=>by subst e;exact kk b
theorem AWP.note(K:AV->Value->Prop)(hK:∀v u,¬K v u)(kk:∀Y,AWP ro P nt c Q ⟨T,(Y,.tv K)::S⟩):AWP ro P nt c Q ⟨T,S⟩:=.ghost (St.note (st:=⟨T,S⟩) K hK) λst' ⟨Y,e⟩=>by subst e;exact kk Y
end
section
variable {P:Program}{ty t ty2 te:TypeId}{pos:String}{after:Array Edge}{g:Option (Nat×Bool)}{dst:Option Tmp}{x y:Operand}{c:Option (List Bool)}{T:List (Nat×AV)}{S:List AC}
class TPtr(P:Program)(t:TypeId):Prop where
 ex:∃te,P.underlying t=some (.pointer te)/\(P.info? te).any (λj=>j.size !=0)=true
theorem TPtr.h(hp:TPtr P t):∃te j,P.underlying t=some (.pointer te)/\P.info? te=some j/\j.size≠0:=by
 obtain⟨te,h1,h2⟩:=hp.ex;cases hj:P.info? te with
 |none=>rw[hj]at h2;cases h2
 |some j=>rw[hj]at h2;exact⟨te,j,h1,hj,by simpa using h2⟩
theorem OF[hp:TPtr P t](b:Nat)(w:World):(binOp .eql t (.pointer (some ⟨b,0,none⟩)) (.pointer none)).run P w= .ok (.bool false) w:=by
 obtain⟨te,j,h1,_,_⟩:=hp.h
 have h:∀d:Nat,(Op.equalIn (d+1) t (.pointer (some ⟨b,0,none⟩)) (.pointer none)).run P w= .ok false w:=λd=>by
  simp[Op.equalIn,run_underlying h1]
 simp only[binOp];simp[Op.equal,Op.maxDepth,h 9999]
theorem OG[hp:TPtr P t](w:World):(binOp .eql t (.pointer none) (.pointer none)).run P w= .ok (.bool true) w:=by
 obtain⟨te,j,h1,_,_⟩:=hp.h
 have h:∀d:Nat,(Op.equalIn (d+1) t (.pointer none) (.pointer none)).run P w= .ok true w:=λd=>by
  simp[Op.equalIn,run_underlying h1]
 simp only[binOp];simp[Op.equal,Op.maxDepth,h 9999]
theorem ND[hp:TPtr P t](b:Nat)(w:World):(binOp .neq t (.pointer (some ⟨b,0,none⟩)) (.pointer none)).run P w= .ok (.bool true) w:=by
 obtain⟨te,j,h1,_,_⟩:=hp.h
 have h:∀d:Nat,(Op.equalIn (d+1) t (.pointer (some ⟨b,0,none⟩)) (.pointer none)).run P w= .ok false w:=λd=>by
  simp[Op.equalIn,run_underlying h1]
 simp only[binOp];simp[Op.equal,Op.maxDepth,h 9999]
theorem NE[hp:TPtr P t](w:World):(binOp .neq t (.pointer none) (.pointer none)).run P w= .ok (.bool false) w:=by
 obtain⟨te,j,h1,_,_⟩:=hp.h
 have h:∀d:Nat,(Op.equalIn (d+1) t (.pointer none) (.pointer none)).run P w= .ok true w:=λd=>by
  simp[Op.equalIn,run_underlying h1]
 simp only[binOp];simp[Op.equal,Op.maxDepth,h 9999]
theorem OpT.eqNil[TPtr P t]{u:Value}{r:Bool}(hu:(u= .pointer none/\r=true)\/∃b,u= .pointer (some ⟨b,0,none⟩)/\r=false):OpT P ⟨dst,.binOp .eql t x y ty2,ty,pos,after,g⟩ [(x,.prim u),(y,.prim (.pointer none))] [] (.prim (.bool r)) []:=
 .pure_ λm a hx _=>by
  have h1:=(hx (x,.prim u) (by simp)).prim;have h2:=(hx (y,.prim (.pointer none)) (by simp)).prim;refine⟨.bool r,?_,BM _ rfl⟩;simp only at h1 h2;rcases hu with⟨rfl,rfl⟩|⟨b,rfl,rfl⟩
  ·simp[execOp,h1,h2,Sem.run_bind,Result.andThen_ok,eqGuard,OG,Sem.run_pure]
  ·simp[execOp,h1,h2,Sem.run_bind,Result.andThen_ok,eqGuard,OF,Sem.run_pure]
theorem OpT.neNil[TPtr P t]{u:Value}{r:Bool}(hu:(u= .pointer none/\r=false)\/∃b,u= .pointer (some ⟨b,0,none⟩)/\r=true):OpT P ⟨dst,.binOp .neq t x y ty2,ty,pos,after,g⟩ [(x,.prim u),(y,.prim (.pointer none))] [] (.prim (.bool r)) []:=
 .pure_ λm a hx _=>by
  have h1:=(hx (x,.prim u) (by simp)).prim;have h2:=(hx (y,.prim (.pointer none)) (by simp)).prim;refine⟨.bool r,?_,BM _ rfl⟩;simp only at h1 h2;rcases hu with⟨rfl,rfl⟩|⟨b,rfl,rfl⟩
  ·simp[execOp,h1,h2,Sem.run_bind,Result.andThen_ok,eqGuard,NE,Sem.run_pure]
  ·simp[execOp,h1,h2,Sem.run_bind,Result.andThen_ok,eqGuard,ND,Sem.run_pure]
theorem Ps{m:Mem}{X sz:Nat}{t':TypeId}{l:List AV}{bs:List Nat}(h:ORel m X (.row t' sz l) bs)(h0:0<l.length):∃L arr bs',m.μ X=some L/\bs=L.blk::bs' /\m.w.heap[L.blk]?=some (.cells arr t' (0,0)):=by
 obtain⟨_,L,hL,_,h|⟨_,arr,bs',e1,e2,_⟩⟩:=h
 ·rw[h.2.1]at h0;cases h0
 ·exact⟨L,arr,bs',hL,e1,e2⟩
theorem OpT.eqPtrS[hp:TPtr P t]{X p sz:Nat}{t1:TypeId}{l:List AV}(h0:0<l.length):OpT P ⟨dst,.binOp .eql t x y ty2,ty,pos,after,g⟩ [(x,.ptr X 0 0),(y,.ptr X 0 0)] [(p,(X,.row t1 sz l))] (.prim (.bool true)) []:=
 .pure_ λm a hx hS=>by
  obtain⟨bs,hO⟩:=hS (p,(X,.row t1 sz l)) (by simp);obtain⟨L,arr,bs',hL,_,_⟩:=Ps hO h0;obtain⟨_,_,A,hA,hA2⟩:=hx (x,.ptr X 0 0) (by simp);obtain⟨_,_,B,hB,hB2⟩:=hx (y,.ptr X 0 0) (by simp);simp only[List.cons.injEq,and_true]at hA hB;rw[hA2 L hL]at hA;rw[hB2 L hL]at hB;obtain⟨te,j,e1,e2,e3⟩:=hp.h;refine⟨.bool true,?_,BM _ rfl⟩;simp[execOp,hA,hB,Sem.run_bind,Result.andThen_ok,eqGuard,run_eql_ptr_same m.w _ e1 e2,Sem.run_pure]
theorem OpT.eqPtrD[hp:TPtr P t]{X Y p q sz sz2:Nat}{t1 t2:TypeId}{l l2:List AV}(hpq:p≠q)(h0:0<l.length)(h1:0<l2.length):OpT P ⟨dst,.binOp .eql t x y ty2,ty,pos,after,g⟩ [(x,.ptr X 0 0),(y,.ptr Y 0 0)] [(p,(X,.row t1 sz l)),(q,(Y,.row t2 sz2 l2))] (.prim (.bool false)) []:=by
 intro nt m0 T S a w hx hS hd hr;obtain⟨m,N,Z,rfl,h2,h3,h4⟩:=hr;have h2':Z.map (·.1)=S:=h2;have hSp:=hS (p,(X,.row t1 sz l)) (by simp);have hSq:=hS (q,(Y,.row t2 sz2 l2)) (by simp);rw[<-h2',AG]at hSp hSq;obtain⟨⟨z1,b1⟩,hz1,e1⟩:=Option.map_eq_some_iff.1 hSp;obtain⟨⟨z2,b2⟩,hz2,e2⟩:=Option.map_eq_some_iff.1 hSq;simp only at e1 e2;subst e1 e2;obtain⟨R,hp1,_⟩:=Fc hpq hz1 hz2;have G:=h3.perm hp1;obtain⟨L1,a1,c1,hL1,rfl,hb1⟩:=Ps (G.obj _ (List.mem_cons_self ..)) h0;obtain⟨L2,a2,c2,hL2,rfl,hb2⟩:=Ps (G.obj _ (List.mem_cons_of_mem _ (List.mem_cons_self ..))) h1
 have hne:L1.blk≠L2.blk:=by
  have:=G.own;simp only[BR,List.append_nil,BF,List.nodup_cons,CS,BO]at this;intro e;exact this.1 (.inr (.inl e))
 obtain⟨_,_,A,hA,hA2⟩:=h4.ev (hx (x,.ptr X 0 0) (by simp));obtain⟨_,_,B,hB,hB2⟩:=h4.ev (hx (y,.ptr Y 0 0) (by simp));simp only[List.cons.injEq,and_true]at hA hB;rw[hA2 L1 hL1]at hA;rw[hB2 L2 hL2]at hB;obtain⟨te,j,e1,e2,e3⟩:=hp.h;unfold Oper.wp
 have h5:(execOp a.eval ⟨dst,.binOp .eql t x y ty2,ty,pos,after,g⟩).run P m.w= .ok (.value (.bool false)) m.w:=by
  have:=run_eql_ptr_other (P:=P) m.w (a:=⟨L1.blk,0*L1.sz+0,none⟩) (b:=⟨L2.blk,0*L2.sz+0,none⟩) e1 e2 e3 (λe=>hne (by injection e)) hb1 hb2;simp[execOp,hA,hB,Sem.run_bind,Result.andThen_ok,eqGuard,Sem.run_pure]at this⊢;simp[this]
 rw[h5];exact⟨m,N,Z,rfl,h2,h3,h4.put hd (BM _ rfl)⟩
theorem W.eqNil[TPtr P t]{u:Value}(r:Bool)(hu:(u= .pointer none/\r=true)\/∃b,u= .pointer (some ⟨b,0,none⟩)/\r=false)(hx:Rd c T x (.prim u))(hy:Rd c T y (.prim (.pointer none))):Stp c P ⟨dst,.binOp .eql t x y ty2,ty,pos,after,g⟩ T S [(x,.prim u),(y,.prim (.pointer none))] [] (.prim (.bool r)) []:=⟨.eqNil hu,.cons hx (.cons hy .nil),.nil⟩
theorem W.neNil[TPtr P t]{u:Value}(r:Bool)(hu:(u= .pointer none/\r=false)\/∃b,u= .pointer (some ⟨b,0,none⟩)/\r=true)(hx:Rd c T x (.prim u))(hy:Rd c T y (.prim (.pointer none))):Stp c P ⟨dst,.binOp .neq t x y ty2,ty,pos,after,g⟩ T S [(x,.prim u),(y,.prim (.pointer none))] [] (.prim (.bool r)) []:=⟨.neNil hu,.cons hx (.cons hy .nil),.nil⟩
theorem W.eqPtrS[TPtr P t]{X p sz:Nat}{t1:TypeId}{l:List AV}(h0:0<l.length)(hx:Rd c T x (.ptr X 0 0))(hy:Rd c T y (.ptr X 0 0))(hS:At S p (X,.row t1 sz l)):Stp c P ⟨dst,.binOp .eql t x y ty2,ty,pos,after,g⟩ T S [(x,.ptr X 0 0),(y,.ptr X 0 0)] [(p,(X,.row t1 sz l))] (.prim (.bool true)) []:=⟨.eqPtrS h0,.cons hx (.cons hy .nil),.cons hS .nil⟩
theorem W.eqPtrD[TPtr P t]{X Y p q sz sz2:Nat}{t1 t2:TypeId}{l l2:List AV}(h0:0<l.length)(h1:0<l2.length)(hx:Rd c T x (.ptr X 0 0))(hy:Rd c T y (.ptr Y 0 0))(hS:At S p (X,.row t1 sz l))(hS2:At S q (Y,.row t2 sz2 l2))(hpq:p≠q):Stp c P ⟨dst,.binOp .eql t x y ty2,ty,pos,after,g⟩ T S [(x,.ptr X 0 0),(y,.ptr Y 0 0)] [(p,(X,.row t1 sz l)),(q,(Y,.row t2 sz2 l2))] (.prim (.bool false)) []:=⟨.eqPtrD hpq h0 h1,.cons hx (.cons hy .nil),.cons hS (.cons hS2 .nil)⟩
end
end
section
variable {ro:Option Nat}
section
variable {P:Program}{nt:Nat}{ops:Array Oper}{Q:Exit->St->Prop}{rest:List Oper}{T:List (Nat×AV)}{S:List AC}{f:FuncId}{dst:Option Tmp}{ats:Array TypeId}{ty:TypeId}{pos:String}{after:Array Edge}{Sin Sout R:List AC}{r v:AV}
theorem C3{S L Sin R:List AC}(hp:S=L++(Sin++R)):S.Perm (Sin++([]++(L++R))):=hp▸B5 L Sin R
theorem Ko{S L Sin R:List AC}{z:AC}(hp:S=L++(Sin++R)):(z::S).Perm (Sin++([z]++(L++R))):=by
 subst hp;refine((B5 L Sin R).cons z).trans ?_;exact B5 [z] Sin (L++R)
theorem WB{β:Type}{C:β->Prop}{rr vv:β->AV}{So:β->List AC}(L:List AC)(h:Spec P f [] Sin λr' S'=>∃b,C b/\r'=rr b/\S'=So b)[hf:∀b,Frz (rr b) (vv b)](k:∀b,C b->AOps ro P nt ops Q rest ⟨AW T dst (vv b),L++(So b++R)⟩)(hp:S=L++(Sin++R):=by rfl)(ht:Am []=true:=by rfl)(hd:AU dst nt=true:=by rfl):AOps ro P nt ops Q (⟨dst,.call ⟨.value (.func f),#[],ats⟩,ty,pos,after,none⟩::rest) ⟨T,S⟩:=
 Cg (xs:=[]) (gs:=[]) (nw:=λ_=>[]) (L:=L) h (λb=>.fz) (λ_=>rfl) (C3 hp) (.nil) ht hd k
theorem RW{x0:Operand}{v0:AV}{β:Type}{C:β->Prop}{rr vv:β->AV}{So:β->List AC}(L:List AC)(h:Spec P f [v0] Sin λr' S'=>∃b,C b/\r'=rr b/\S'=So b)[hf:∀b,Frz (rr b) (vv b)](k:∀b,C b->AOps ro P nt ops Q rest ⟨AW T dst (vv b),L++(So b++R)⟩)(hp:S=L++(Sin++R):=by rfl)(h0:Rd none T x0 v0:=by rfl)(ht:Am [(x0,v0)]=true:=by rfl)(hd:AU dst nt=true:=by rfl):AOps ro P nt ops Q (⟨dst,.call ⟨.value (.func f),#[x0],ats⟩,ty,pos,after,none⟩::rest) ⟨T,S⟩:=
 Cg (xs:=[(x0,v0)]) (gs:=[]) (nw:=λ_=>[]) (L:=L) h (λb=>.fz) (λ_=>rfl) (C3 hp) (.cons h0 (.nil)) ht hd k
theorem RV{x0:Operand}{v0:AV}(L:List AC)(h:Spec P f [v0] Sin λr' S'=>r'=r/\S'=Sout)[hf:Frz r v](k:AOps ro P nt ops Q rest ⟨AW T dst v,L++(Sout++R)⟩)(hp:S=L++(Sin++R):=by rfl)(h0:Rd none T x0 v0:=by rfl)(ht:Am [(x0,v0)]=true:=by rfl)(hd:AU dst nt=true:=by rfl):AOps ro P nt ops Q (⟨dst,.call ⟨.value (.func f),#[x0],ats⟩,ty,pos,after,none⟩::rest) ⟨T,S⟩:=
 Cg (β:=Unit) (C:=λ_=>True) (rr:=λ_=>r) (vv:=λ_=>v) (So:=λ_=>Sout) (xs:=[(x0,v0)]) (gs:=[]) (nw:=λ_=>[]) (L:=L) (h.mono λr' S' ⟨e1,e2⟩=>⟨(),trivial,e1,e2⟩) (λb=>.fz) (λ_=>rfl) (C3 hp) (.cons h0 (.nil)) ht hd (λ_ _=>k)
theorem PJ{x0:Operand}{v0:AV}{x:Operand}{cap:List AV}(L:List AC)(h:Spec P f (v0::cap) Sin λr' S'=>r'=r/\S'=Sout)[hf:Frz r v](k:AOps ro P nt ops Q rest ⟨AW T dst v,L++(Sout++R)⟩)(hf0:ev T x=some (.fn f cap):=by rfl)(hst:B4 cap=true:=by first|rfl|assumption)(hp:S=L++(Sin++R):=by rfl)(h0:Rd none T x0 v0:=by rfl)(ht:Am [(x0,v0)]=true:=by rfl)(hd:AU dst nt=true:=by rfl):AOps ro P nt ops Q (⟨dst,.call ⟨.value x,#[x0],ats⟩,ty,pos,after,none⟩::rest) ⟨T,S⟩:=
 JS (β:=Unit) (C:=λ_=>True) (rr:=λ_=>r) (vv:=λ_=>v) (So:=λ_=>Sout) (xs:=[(x0,v0)]) (gs:=[]) (nw:=λ_=>[]) (L:=L) (h.mono λr' S' ⟨e1,e2⟩=>⟨(),trivial,e1,e2⟩) (λb=>.fz) (λ_=>rfl) (C3 hp) hf0 hst (.cons h0 (.nil)) ht hd (λ_ _=>k)
theorem Jp{x0:Operand}{v0:AV}{x1:Operand}{v1:AV}{β:Type}{C:β->Prop}{rr vv:β->AV}{So:β->List AC}(L:List AC)(h:Spec P f [v0,v1] Sin λr' S'=>∃b,C b/\r'=rr b/\S'=So b)[hf:∀b,Frz (rr b) (vv b)](k:∀b,C b->AOps ro P nt ops Q rest ⟨AW T dst (vv b),L++(So b++R)⟩)(hp:S=L++(Sin++R):=by rfl)(h0:Rd none T x0 v0:=by rfl)(h1:Rd none T x1 v1:=by rfl)(ht:Am [(x0,v0),(x1,v1)]=true:=by rfl)(hd:AU dst nt=true:=by rfl):AOps ro P nt ops Q (⟨dst,.call ⟨.value (.func f),#[x0,x1],ats⟩,ty,pos,after,none⟩::rest) ⟨T,S⟩:=
 Cg (xs:=[(x0,v0),(x1,v1)]) (gs:=[]) (nw:=λ_=>[]) (L:=L) h (λb=>.fz) (λ_=>rfl) (C3 hp) (.cons h0 (.cons h1 (.nil))) ht hd k
theorem EN{x0:Operand}{v0:AV}{x1:Operand}{v1:AV}(L:List AC)(h:Spec P f [v0,v1] Sin λr' S'=>r'=r/\S'=Sout)[hf:Frz r v](k:AOps ro P nt ops Q rest ⟨AW T dst v,L++(Sout++R)⟩)(hp:S=L++(Sin++R):=by rfl)(h0:Rd none T x0 v0:=by rfl)(h1:Rd none T x1 v1:=by rfl)(ht:Am [(x0,v0),(x1,v1)]=true:=by rfl)(hd:AU dst nt=true:=by rfl):AOps ro P nt ops Q (⟨dst,.call ⟨.value (.func f),#[x0,x1],ats⟩,ty,pos,after,none⟩::rest) ⟨T,S⟩:=
 Cg (β:=Unit) (C:=λ_=>True) (rr:=λ_=>r) (vv:=λ_=>v) (So:=λ_=>Sout) (xs:=[(x0,v0),(x1,v1)]) (gs:=[]) (nw:=λ_=>[]) (L:=L) (h.mono λr' S' ⟨e1,e2⟩=>⟨(),trivial,e1,e2⟩) (λb=>.fz) (λ_=>rfl) (C3 hp) (.cons h0 (.cons h1 (.nil))) ht hd (λ_ _=>k)
theorem PH{x0:Operand}{v0:AV}{x1:Operand}{v1:AV}{t:TypeId}{sz:Nat}{ll:List AV}(L:List AC)(h:Spec P f [v0,v1] Sin λr' S'=>r'= .lst true t sz ll/\S'=Sout)(k:∀Y,AOps ro P nt ops Q rest ⟨AW T dst (.sl Y 0 ll.length),(Y,.row t sz ll)::(L++(Sout++R))⟩)(hp:S=L++(Sin++R):=by rfl)(h0:Rd none T x0 v0:=by rfl)(h1:Rd none T x1 v1:=by rfl)(ht:Am [(x0,v0),(x1,v1)]=true:=by rfl)(hd:AU dst nt=true:=by rfl):AOps ro P nt ops Q (⟨dst,.call ⟨.value (.func f),#[x0,x1],ats⟩,ty,pos,after,none⟩::rest) ⟨T,S⟩:=
 AOps.rs λY=>Cg (β:=Unit) (C:=λ_=>True) (rr:=λ_=>.lst true t sz ll) (vv:=λ_=>.sl Y 0 ll.length) (So:=λ_=>Sout) (xs:=[(x0,v0),(x1,v1)]) (gs:=[(Y,.gone)]) (nw:=λ_=>[(Y,.row t sz ll)]) (L:=L) (h.mono λr' S' ⟨e1,e2⟩=>⟨(),trivial,e1,e2⟩) (λb=>.ls) (λ_=>rfl) (Ko hp) (.cons h0 (.cons h1 (.nil))) ht hd (λ_ _=>k Y)
theorem Lb{x0:Operand}{v0:AV}{x1:Operand}{v1:AV}{β:Type}{C:β->Prop}{t:TypeId}{sz:Nat}{ll:β->List AV}{So:β->List AC}(L:List AC)(h:Spec P f [v0,v1] Sin λr' S'=>∃b,C b/\r'= .lst true t sz (ll b)/\S'=So b)(k:∀b,C b->∀Y,AOps ro P nt ops Q rest ⟨AW T dst (.sl Y 0 (ll b).length),(Y,.row t sz (ll b))::(L++(So b++R))⟩)(hp:S=L++(Sin++R):=by rfl)(h0:Rd none T x0 v0:=by rfl)(h1:Rd none T x1 v1:=by rfl)(ht:Am [(x0,v0),(x1,v1)]=true:=by rfl)(hd:AU dst nt=true:=by rfl):AOps ro P nt ops Q (⟨dst,.call ⟨.value (.func f),#[x0,x1],ats⟩,ty,pos,after,none⟩::rest) ⟨T,S⟩:=
 AOps.rs λY=>Cg (rr:=λb=>.lst true t sz (ll b)) (vv:=λb=>.sl Y 0 (ll b).length) (xs:=[(x0,v0),(x1,v1)]) (gs:=[(Y,.gone)]) (nw:=λb=>[(Y,.row t sz (ll b))]) (L:=L) h (λb=>.ls) (λ_=>rfl) (Ko hp) (.cons h0 (.cons h1 (.nil))) ht hd (λb hb=>k b hb Y)
theorem PI{x0:Operand}{v0:AV}{x1:Operand}{v1:AV}{x:Operand}{cap:List AV}(L:List AC)(h:Spec P f (v0::v1::cap) Sin λr' S'=>r'=r/\S'=Sout)[hf:Frz r v](k:AOps ro P nt ops Q rest ⟨AW T dst v,L++(Sout++R)⟩)(hf0:ev T x=some (.fn f cap):=by rfl)(hst:B4 cap=true:=by first|rfl|assumption)(hp:S=L++(Sin++R):=by rfl)(h0:Rd none T x0 v0:=by rfl)(h1:Rd none T x1 v1:=by rfl)(ht:Am [(x0,v0),(x1,v1)]=true:=by rfl)(hd:AU dst nt=true:=by rfl):AOps ro P nt ops Q (⟨dst,.call ⟨.value x,#[x0,x1],ats⟩,ty,pos,after,none⟩::rest) ⟨T,S⟩:=
 JS (β:=Unit) (C:=λ_=>True) (rr:=λ_=>r) (vv:=λ_=>v) (So:=λ_=>Sout) (xs:=[(x0,v0),(x1,v1)]) (gs:=[]) (nw:=λ_=>[]) (L:=L) (h.mono λr' S' ⟨e1,e2⟩=>⟨(),trivial,e1,e2⟩) (λb=>.fz) (λ_=>rfl) (C3 hp) hf0 hst (.cons h0 (.cons h1 (.nil))) ht hd (λ_ _=>k)
theorem D6{x0:Operand}{v0:AV}{x1:Operand}{v1:AV}{x2:Operand}{v2:AV}{β:Type}{C:β->Prop}{rr vv:β->AV}{So:β->List AC}(L:List AC)(h:Spec P f [v0,v1,v2] Sin λr' S'=>∃b,C b/\r'=rr b/\S'=So b)[hf:∀b,Frz (rr b) (vv b)](k:∀b,C b->AOps ro P nt ops Q rest ⟨AW T dst (vv b),L++(So b++R)⟩)(hp:S=L++(Sin++R):=by rfl)(h0:Rd none T x0 v0:=by rfl)(h1:Rd none T x1 v1:=by rfl)(h2:Rd none T x2 v2:=by rfl)(ht:Am [(x0,v0),(x1,v1),(x2,v2)]=true:=by rfl)(hd:AU dst nt=true:=by rfl):AOps ro P nt ops Q (⟨dst,.call ⟨.value (.func f),#[x0,x1,x2],ats⟩,ty,pos,after,none⟩::rest) ⟨T,S⟩:=
 Cg (xs:=[(x0,v0),(x1,v1),(x2,v2)]) (gs:=[]) (nw:=λ_=>[]) (L:=L) h (λb=>.fz) (λ_=>rfl) (C3 hp) (.cons h0 (.cons h1 (.cons h2 (.nil)))) ht hd k
theorem V8{x0:Operand}{v0:AV}{x1:Operand}{v1:AV}{x2:Operand}{v2:AV}(L:List AC)(h:Spec P f [v0,v1,v2] Sin λr' S'=>r'=r/\S'=Sout)[hf:Frz r v](k:AOps ro P nt ops Q rest ⟨AW T dst v,L++(Sout++R)⟩)(hp:S=L++(Sin++R):=by rfl)(h0:Rd none T x0 v0:=by rfl)(h1:Rd none T x1 v1:=by rfl)(h2:Rd none T x2 v2:=by rfl)(ht:Am [(x0,v0),(x1,v1),(x2,v2)]=true:=by rfl)(hd:AU dst nt=true:=by rfl):AOps ro P nt ops Q (⟨dst,.call ⟨.value (.func f),#[x0,x1,x2],ats⟩,ty,pos,after,none⟩::rest) ⟨T,S⟩:=
 Cg (β:=Unit) (C:=λ_=>True) (rr:=λ_=>r) (vv:=λ_=>v) (So:=λ_=>Sout) (xs:=[(x0,v0),(x1,v1),(x2,v2)]) (gs:=[]) (nw:=λ_=>[]) (L:=L) (h.mono λr' S' ⟨e1,e2⟩=>⟨(),trivial,e1,e2⟩) (λb=>.fz) (λ_=>rfl) (C3 hp) (.cons h0 (.cons h1 (.cons h2 (.nil)))) ht hd (λ_ _=>k)
theorem WA{x0:Operand}{v0:AV}{x1:Operand}{v1:AV}{x2:Operand}{v2:AV}{x3:Operand}{v3:AV}{x4:Operand}{v4:AV}{β:Type}{C:β->Prop}{rr vv:β->AV}{So:β->List AC}(L:List AC)(h:Spec P f [v0,v1,v2,v3,v4] Sin λr' S'=>∃b,C b/\r'=rr b/\S'=So b)[hf:∀b,Frz (rr b) (vv b)](k:∀b,C b->AOps ro P nt ops Q rest ⟨AW T dst (vv b),L++(So b++R)⟩)(hp:S=L++(Sin++R):=by rfl)(h0:Rd none T x0 v0:=by rfl)(h1:Rd none T x1 v1:=by rfl)(h2:Rd none T x2 v2:=by rfl)(h3:Rd none T x3 v3:=by rfl)(h4:Rd none T x4 v4:=by rfl)(ht:Am [(x0,v0),(x1,v1),(x2,v2),(x3,v3),(x4,v4)]=true:=by rfl)(hd:AU dst nt=true:=by rfl):AOps ro P nt ops Q (⟨dst,.call ⟨.value (.func f),#[x0,x1,x2,x3,x4],ats⟩,ty,pos,after,none⟩::rest) ⟨T,S⟩:=
 Cg (xs:=[(x0,v0),(x1,v1),(x2,v2),(x3,v3),(x4,v4)]) (gs:=[]) (nw:=λ_=>[]) (L:=L) h (λb=>.fz) (λ_=>rfl) (C3 hp) (.cons h0 (.cons h1 (.cons h2 (.cons h3 (.cons h4 (.nil)))))) ht hd k
end
end
section
variable {ro:Option Nat}
open Go.RowKit
section
variable {P:Program}{nt:Nat}{ops:Array Oper}
theorem MC:∀{l l':List Eff} {k:Nat} {X:Nat->Bool} {st:St},l.length=l'.length->(∀j,X (k+j)=true->l[j]?=l'[j]?)->stX l k X st=stX l' k X st
 |[],[],_,_,_,_,_=>rfl
 |[],_::_,_,_,_,h,_=>by simp at h
 |_::_,[],_,_,_,h,_=>by simp at h
 |e::l,e'::l',k,X,st,h,ha=>by
  have ih:=λst=>MC (l:=l) (l':=l') (k:=k+1) (X:=X) (st:=st) (by simpa using h) (λj hj=>by
   have:=ha (j+1) (by rw[show k+(j+1)=k+1+j by omega];exact hj);simpa using this)
  simp only[stX];cases hX:X k with
  |false=>exact ih _
  |true=>
   have h0:=ha 0 (by simpa using hX);simp at h0;rw[h0];exact ih _
theorem Qh{β:Type}{m0:Mem}{st:St}{effs:β->List Eff}{b0:β}{i0:Nat}{Q':Exit->Act->World->Prop}(heff:∀b,(effs b).map (·.o)=ops.toList)
  (hloc:∀b i e,i≠i0->(effs b)[i]?=some e->JQ P nt ops e (stX (effs b) 0 (λj=>decide (j<i)) st))
  (hlocE:∀e,(effs b0)[i0]?=some e->e.o.guard=none/\(∀c,e.o.op≠ .defer c)/\∀m0 T S a w,(∀t∈e.rT,Ab T t=Ab (stX (effs b0) 0 (λj=>decide (j<i0)) st).T t)->(∀p∈e.rS,S[p]?=(stX (effs b0) 0 (λj=>decide (j<i0)) st).S[p]?)->Rel nt m0 ⟨T,S⟩ a w->e.o.wp P a w (λa' w'=>∃p:β×Eff,(effs p.1)[i0]?=some p.2/\Rel nt m0 (p.2.app ⟨T,S⟩) a' w') (λ_ _ _=>False))
  (hc:∀b,Ca (effs b) (BT ops.toList [])=true) (hlater:∀j,j≠i0->j<ops.size->(∀b b',(effs b)[j]?=(effs b')[j]?)\/∃m:Nat,(BT ops.toList [])[j]?=some m/\m.testBit i0=true) (hdn:down ops.toList 0=true) (hQ:∀b a w,Rel nt m0 (stX (effs b) 0 (λ_=>true) st) a w->Q' .normal a w):
  ∀(fuel:Nat) (X:Array Bool) (a:Act) (w:World),X.size=ops.size->(∀j o,ops.toList[j]?=some o->X.getD j false=true->∀e∈o.after.toList,Region.binds .any e=true->X.getD e.on false=true)->
   ((List.range ops.size).filter λj=>!X.getD j false).length<=fuel->(∃b,Rel nt m0 (stX (effs b) 0 (λj=>X.getD j false) st) a w)->wpAnyIn (FW ro) 0 P .any ops Q' fuel X a w:=by
 have hlen:∀b,(effs b).length=ops.size:=λb=>by have:=congrArg List.length (heff b);simpa using this
 have done:∀b (X:Array Bool) a w,(∀j,j<ops.size->X.getD j false=true)->Rel nt m0 (stX (effs b) 0 (λj=>X.getD j false) st) a w->Q' .normal a w:=by
  intro b X a w hall hr;refine hQ b a w ?_
  have hT:∀t,Ab (stX (effs b) 0 (λj=>X.getD j false) st).T t=Ab (stX (effs b) 0 (λ_=>true) st).T t:=λt=>
   CJ (λj e he _=>by rw[Nat.zero_add];exact hall j (by rw[<-hlen b];exact(List.getElem?_eq_some_iff.1 he).1)) rfl
  have hS:(stX (effs b) 0 (λj=>X.getD j false) st).S=(stX (effs b) 0 (λ_=>true) st).S:=List.ext_getElem? λp=>
   Cj (λj e he _=>by rw[Nat.zero_add];exact hall j (by rw[<-hlen b];exact(List.getElem?_eq_some_iff.1 he).1)) rfl rfl
  have hr':Rel nt m0 ⟨(stX (effs b) 0 (λ_=>true) st).T,(stX (effs b) 0 (λj=>X.getD j false) st).S⟩ a w:=B9 hr λd v h=>(hT d).trans h
  rw[hS]at hr';exact hr'
 have ready:∀(X:Array Bool),X.size=ops.size->Region.ready .any ops X=[]->∀j,j<ops.size->X.getD j false=true:=by
  intro X hX hnil j
  induction j using Nat.strongRecOn with
  |_ j ih=>
   intro hj;cases hx:X.getD j false with
   |true=>rfl
   |false=>
    exfalso
    have:j∈Region.ready .any ops X:=by
     refine List.mem_filter.2 ⟨List.mem_range.2 hj,?_⟩;have ho:ops[j]?=some ops[j]:=by simp[hj]
     have hx':X.getD j true=false:=by
      have hjX:j<X.size:=by omega
      simp only[Array.getD_eq_getD_getElem?,Array.getElem?_eq_getElem hjX,Option.getD_some]at hx⊢;exact hx
     simp only[hx',ho,Option.map_some,Option.getD_some,Bool.not_false,Bool.true_and];rw[Array.all_eq_true'];intro e he;cases hb:Region.binds .any e with
     |false=>simp
     |true=>
      have hlt:=EG _ 0 hdn j ops[j] (by simp[hj]) e (by simpa using he) hb;have:=ih e.on (by omega) (by omega);simpa using this
    rw[hnil]at this;cases this
 intro fuel
 induction fuel with
 |zero=>
  intro X a w hX hdc hf hr
  have hall:∀j,j<ops.size->X.getD j false=true:=by
   intro j hj;have hnil:=List.eq_nil_of_length_eq_zero (Nat.le_zero.1 hf);cases hx:X.getD j false with
   |true=>rfl
   |false=>
    have:j∈(List.range ops.size).filter λj=>!X.getD j false:=List.mem_filter.2 ⟨List.mem_range.2 hj,by simp only[hx,Bool.not_false]⟩
    rw[hnil]at this;cases this
  obtain⟨b,hr⟩:=hr;refine⟨List.filter_eq_nil_iff.2 λj hj=>?_,done b X a w hall hr⟩;have hj':=List.mem_range.1 hj;have:=hall j hj';have hjX:j<X.size:=by omega
  simp only[Array.getD_eq_getD_getElem?,Array.getElem?_eq_getElem hjX,Option.getD_some]at this⊢;simp[this]
 |succ fuel ih=>
  intro X a w hX hdc hf hr;obtain⟨b1,hr⟩:=hr;refine⟨λhnil=>done b1 X a w (ready X hX hnil) hr,λi hi=>?_⟩;obtain⟨hi1,hi2⟩:=List.mem_filter.1 hi;have hin:=List.mem_range.1 hi1;have ho:ops[i]?=some ops[i]:=by simp[hin]
  have hiX:i<X.size:=by omega
  simp only[ho,Option.map_some,Option.getD_some,Bool.and_eq_true]at hi2
  have hXi:X.getD i false=false:=by
   have h:=hi2.1;simp only[Array.getD_eq_getD_getElem?,Array.getElem?_eq_getElem hiX,Option.getD_some]at h⊢;simpa using h
  have hpre:∀e∈(ops[i]).after.toList,Region.binds .any e=true->X.getD e.on false=true:=by
   intro e he hb;have:=Array.all_eq_true'.1 hi2.2 e (by simpa using he);simpa[hb]using this
  have key:∀b e,(effs b)[i]?=some e->e.o=ops[i]/\(∀t∈e.rT,Ab (stX (effs b) 0 (λj=>X.getD j false) st).T t=Ab (stX (effs b) 0 (λj=>decide (j<i)) st).T t)/\(∀p∈e.rS,(stX (effs b) 0 (λj=>X.getD j false) st).S[p]?=(stX (effs b) 0 (λj=>decide (j<i)) st).S[p]?)/\
    (∀a w,Rel nt m0 (e.app (stX (effs b) 0 (λj=>X.getD j false) st)) a w->Rel nt m0 (stX (effs b) 0 (λj=>(X.setIfInBounds i true).getD j false) st) a w):=by
   intro bb e he
   have heo:e.o=ops[i]:=by
    have h1:((effs bb).map (·.o))[i]?=some e.o:=by simp[he]
    rw[heff bb]at h1;simpa[hin]using h1.symm
   have hmask:=Bt (λj=>X.getD j false) ops.toList [] (λj o hj hXj e he hb=>hdc j o hj (by simpa using hXj) e he hb) (λj m h=>by simp at h)
   have hcomp:∀a b ea eb,a<b->(effs bb)[a]?=some ea->(effs bb)[b]?=some eb->clash ea eb=true->∃m:Nat,(BT ops.toList [])[b]?=some m/\m.testBit a=true:=by
    intro a b ea eb hab hea heb hcl;have h1:=List.all_eq_true.1 (hc bb) b (List.mem_range.2 (List.getElem?_eq_some_iff.1 heb).1);have h2:=List.all_eq_true.1 h1 a (List.mem_range.2 hab);simp only[hea,heb]at h2;cases hm:(BT ops.toList [])[b]? with
    |none=>rw[hm]at h2;cases h2
    |some m=>rw[hm]at h2;exact⟨m,rfl,by simpa[hcl]using h2⟩
   have hbefore:∀j ej,j<i->(effs bb)[j]?=some ej->clash ej e=true->X.getD j false=true:=by
    intro j ej hj hej hcl;obtain⟨m,hm1,hm2⟩:=hcomp j i ej e hj hej he hcl
    have hcl2:=Bt (λk=>X.getD k false||decide (k=i)) ops.toList [] (λk o hk hXk ee hee hb=>by
     simp only[List.length_nil,Nat.zero_add,Bool.or_eq_true,AF]at hXk⊢;rcases hXk with h|h
     ·exact .inl (hdc k o hk h ee hee hb)
     ·subst h
      have:o=ops[k]:=by simpa[hin]using hk.symm
      subst this;exact .inl (hpre ee hee hb)) (λj m h=>by simp at h) i m hm1 (by simp) j hm2
    simp only[Bool.or_eq_true,AF]at hcl2;rcases hcl2 with h|h
    ·exact h
    ·omega
   have hafter:∀j ej,i<j->(effs bb)[j]?=some ej->clash e ej=true->X.getD j false=false:=by
    intro j ej hj hej hcl;obtain⟨m,hm1,hm2⟩:=hcomp i j e ej hj he hej hcl;cases hx:X.getD j false with
    |false=>rfl
    |true=>
     have:=hmask j m hm1 hx i hm2;rw[hXi]at this;cases this
   have hrT:∀t∈e.rT,Ab (stX (effs bb) 0 (λj=>X.getD j false) st).T t=Ab (stX (effs bb) 0 (λj=>decide (j<i)) st).T t:=by
    intro t ht;refine CJ (λj ej hej hd=>?_) rfl;rw[Nat.zero_add];rcases Nat.lt_trichotomy j i with h|h|h
    ·rw[hbefore j ej h hej ?_]
     ·simp[h]
     ·cases hcl:clash ej e with
      |true=>rfl
      |false=>exact absurd ht ((Av hcl).1 t hd)
    ·subst h
     rw[hXi];simp
    ·rw[hafter j ej h hej ?_]
     ·simp;omega
     ·cases hcl:clash e ej with
      |true=>rfl
      |false=>exact absurd ht ((Av hcl).2.1 t hd)
   have hrS:∀p∈e.rS,(stX (effs bb) 0 (λj=>X.getD j false) st).S[p]?=(stX (effs bb) 0 (λj=>decide (j<i)) st).S[p]?:=by
    intro p hp;refine Cj (λj ej hej hd=>?_) rfl rfl;rw[Nat.zero_add];obtain⟨q,hq,rfl⟩:=hd;rcases Nat.lt_trichotomy j i with h|h|h
    ·rw[hbefore j ej h hej ?_]
     ·simp[h]
     ·cases hcl:clash ej e with
      |true=>rfl
      |false=>exact absurd hp ((Av hcl).2.2.2.1 q hq)
    ·subst h
     rw[hXi];simp
    ·rw[hafter j ej h hej ?_]
     ·simp;omega
     ·cases hcl:clash e ej with
      |true=>rfl
      |false=>exact absurd hp ((Av hcl).2.2.2.2.1 q hq)
   have hX':∀k,(X.setIfInBounds i true).getD k false=(X.getD k false||decide (k=i)):=by
    intro k;simp only[Array.getD_eq_getD_getElem?,Array.getElem?_setIfInBounds];by_cases hk:i=k
    ·subst hk;simp[hiX]
    ·simp[hk,Ne.symm hk]
   have hnew:∀a w,Rel nt m0 (e.app (stX (effs bb) 0 (λj=>X.getD j false) st)) a w->Rel nt m0 (stX (effs bb) 0 (λj=>(X.setIfInBounds i true).getD j false) st) a w:=by
    intro a w hr'
    have hT:∀t,Ab (stX (effs bb) 0 (λj=>(X.setIfInBounds i true).getD j false) st).T t=Ab (e.app (stX (effs bb) 0 (λj=>X.getD j false) st)).T t:=by
     intro t;by_cases hd:e.o.dst=some t
     ·rw[GN (i:=i) (e:=e) (t:=t) he (by rw[Nat.zero_add,hX'];simp) hd ?_]
      ·simp[Eff.app,hd,AW,Al]
      ·intro j ej hj hej hXj hdj
       rw[Nat.zero_add,hX']at hXj
       have hXj':X.getD j false=true:=by
        simp only[Bool.or_eq_true,AF]at hXj;rcases hXj with h|h
        ·exact h
        ·omega
       have:=hafter j ej hj hej (by
        cases hcl:clash e ej with
        |true=>rfl
        |false=>exact absurd hdj ((Av hcl).2.2.1 t hd))
       rw[hXj']at this;cases this
     ·have ap:Ab (e.app (stX (effs bb) 0 (λj=>X.getD j false) st)).T t=Ab (stX (effs bb) 0 (λj=>X.getD j false) st).T t:=by
       simp only[Eff.app];cases hdd:e.o.dst with
       |none=>rfl
       |some d=>rw[AW,Al,if_neg];exact λh=>hd (by rw[hdd,h])
      rw[ap];refine CJ (λj ej hej hdj=>?_) rfl;rw[Nat.zero_add,hX']
      have:j≠i:=by
       rintro rfl;rw[he]at hej;injection hej with hej
       subst hej;exact hd hdj
      simp[this]
    have hS:(stX (effs bb) 0 (λj=>(X.setIfInBounds i true).getD j false) st).S=(e.app (stX (effs bb) 0 (λj=>X.getD j false) st)).S:=by
     refine List.ext_getElem? λp=>?_
     by_cases hd:∃q∈e.wS,q.1=p
     ·rw[FZ (i:=i) (e:=e) (p:=p) he (by rw[Nat.zero_add,hX'];simp) hd ?_ (stX (effs bb) 0 (λj=>X.getD j false) st).S (Gl ..)]
      ·rfl
      ·intro j ej hj hej hXj hdj
       rw[Nat.zero_add,hX']at hXj
       have hXj':X.getD j false=true:=by
        simp only[Bool.or_eq_true,AF]at hXj;rcases hXj with h|h
        ·exact h
        ·omega
       obtain⟨q,hq,hqp⟩:=hd;obtain⟨q',hq',hqp'⟩:=hdj
       have:=hafter j ej hj hej (by
        cases hcl:clash e ej with
        |true=>rfl
        |false=>exact absurd (hqp.trans hqp'.symm) ((Av hcl).2.2.2.2.2 q hq q' hq'))
       rw[hXj']at this;cases this
     ·have ap:(e.app (stX (effs bb) 0 (λj=>X.getD j false) st)).S[p]?=(stX (effs bb) 0 (λj=>X.getD j false) st).S[p]?:=Dm (λq hq h=>hd ⟨q,hq,h⟩) _
      rw[ap];refine Cj (λj ej hej hdj=>?_) rfl rfl;rw[Nat.zero_add,hX']
      have:j≠i:=by
       rintro rfl;rw[he]at hej;injection hej with hej
       subst hej;exact hd hdj
      simp[this]
    have:=B9 hr' (T':=(stX (effs bb) 0 (λj=>(X.setIfInBounds i true).getD j false) st).T) λd v h=>(hT d).symm.trans h
    rw[show(⟨(stX (effs bb) 0 (λj=>(X.setIfInBounds i true).getD j false) st).T,AX (stX (effs bb) 0 (λj=>X.getD j false) st).S e.wS⟩:St)=stX (effs bb) 0 (λj=>(X.setIfInBounds i true).getD j false) st from by
     rw[show AX (stX (effs bb) 0 (λj=>X.getD j false) st).S e.wS=(e.app (stX (effs bb) 0 (λj=>X.getD j false) st)).S from rfl,<-hS]]at this
    exact this
   exact⟨heo,hrT,hrS,hnew⟩
  have hX':∀k,(X.setIfInBounds i true).getD k false=(X.getD k false||decide (k=i)):=by
   intro k;simp only[Array.getD_eq_getD_getElem?,Array.getElem?_setIfInBounds];by_cases hk:i=k
   ·subst hk;simp[hiX]
   ·simp[hk,Ne.symm hk]
  have next:∀b e,(effs b)[i]?=some e->∀a w,Rel nt m0 (e.app (stX (effs b) 0 (λj=>X.getD j false) st)) a w->wpAnyIn (FW ro) 0 P .any ops Q' fuel (X.setIfInBounds i true) a w:=by
   intro b e he a w hr';refine ih _ a w (by simp[hX]) ?_ ?_ ⟨b,(key b e he).2.2.2 a w hr'⟩
   ·intro j o hj hXj ee hee hb
    rw[hX']at hXj⊢;simp only[Bool.or_eq_true,AF]at hXj⊢;rcases hXj with h|h
    ·exact .inl (hdc j o hj h ee hee hb)
    ·subst h
     have:o=ops[j]:=by simpa[hin]using hj.symm
     subst this;exact .inl (hpre ee hee hb)
   ·have e1:(List.range ops.size).filter (λj=>!(X.setIfInBounds i true).getD j false)=((List.range ops.size).filter λj=>!X.getD j false).filter λj=>!decide (j=i):=by
     rw[List.filter_filter]
     congr 1
     funext j
     rw[hX'];cases X.getD j false<;>simp
    have hmem:i∈(List.range ops.size).filter λj=>!X.getD j false:=List.mem_filter.2 ⟨List.mem_range.2 hin,by simp only[hXi,Bool.not_false]⟩
    have:=(List.length_filter_lt_length_iff_exists (l:=(List.range ops.size).filter λj=>!X.getD j false) (p:=λj=>!decide (j=i))).2 ⟨i,hmem,by simp⟩;rw[e1];omega
  obtain⟨e,he⟩:∃e,(effs b1)[i]?=some e:=⟨(effs b1)[i]'(by rw[hlen];exact hin),by simp[hlen,hin]⟩;obtain⟨heo,hrT,hrS,_⟩:=key b1 e he;by_cases hi0:i=i0
  ·subst hi0
   have hmask:=Bt (λj=>X.getD j false) ops.toList [] (λj o hj hXj e he hb=>hdc j o hj (by simpa using hXj) e he hb) (λj m h=>by simp at h)
   have hXl:∀j,X.getD j false=true->j<ops.size->∀b b',(effs b)[j]?=(effs b')[j]?:=by
    intro j hj hjs;have hji:j≠i:=by rintro rfl;rw[hXi]at hj;cases hj
    rcases hlater j hji hjs with h|⟨m,hm1,hm2⟩
    ·exact h
    ·have:=hmask j m hm1 hj i hm2
     rw[hXi]at this;cases this
   have hst:∀b,stX (effs b) 0 (λj=>X.getD j false) st=stX (effs b0) 0 (λj=>X.getD j false) st:=by
    intro b;refine MC (by rw[hlen,hlen]) λj hj=>?_
    rw[Nat.zero_add]at hj;by_cases hjs:j<ops.size
    ·exact hXl j hj hjs b b0
    ·rw[List.getElem?_eq_none (by rw[hlen];omega),List.getElem?_eq_none (by rw[hlen];omega)]
   obtain⟨e0,he0⟩:∃e,(effs b0)[i]?=some e:=⟨(effs b0)[i]'(by rw[hlen];exact hin),by simp[hlen,hin]⟩;obtain⟨heo0,hrT0,hrS0,_⟩:=key b0 e0 he0;obtain⟨hg,hnd,hE⟩:=hlocE e0 he0;rw[hst b1]at hr;have hl:=hE m0 _ _ a w hrT0 hrS0 hr;rw[heo0]at hl hg hnd;unfold wpOpIn;simp only[ho];rw[if_pos (by simp[Region.wanted,hg])];refine Hp (C:=λp:β×Eff=>(effs p.1)[i]?=some p.2) (sE:=λp=>p.2.app (stX (effs b0) 0 (λj=>X.getD j false) st)) hnd hl λa' w' hq=>?_
   obtain⟨⟨b,e'⟩,he',hr'⟩:=hq;exact next b e' he' a' w' (by rw[hst b];exact hr')
  ·have hl:=hloc b1 i e hi0 he m0 _ _ a w hrT hrS hr
   unfold wpOpIn;simp only[ho];rw[heo]at hl;by_cases hw:Region.wanted ops[i] (yielded ops a.tmps)=true
   ·rw[if_pos hw]at hl⊢
    exact Fs hl (next b1 e he)
   ·rw[if_neg hw]at hl⊢
    exact⟨λ_ _=>trivial,next b1 e he _ _ hl⟩
def NQ(i:Nat)(ms:List Nat):Bool:=(List.range ms.length).all λj=>!(decide (i<j))||(ms.getD j 0).testBit i
theorem AWP.region_anyE{β:Type}{Q:Exit->St->Prop}{id:Nat}{l:List Oper}{st:St}{effs:β->List Eff}(b0:β)(i0:Nat)(hm:P.follows .mixedOrders=true)(heff:∀b,(effs b).map (·.o)=l)
  (hloc:∀b i e,i≠i0->(effs b)[i]?=some e->JQ P nt l.toArray e (stX (effs b) 0 (λj=>decide (j<i)) st))
  (hlocE:∀e,(effs b0)[i0]?=some e->e.o.guard=none/\(∀c,e.o.op≠ .defer c)/\∀m0 T S a w,(∀t∈e.rT,Ab T t=Ab (stX (effs b0) 0 (λj=>decide (j<i0)) st).T t)->(∀p∈e.rS,S[p]?=(stX (effs b0) 0 (λj=>decide (j<i0)) st).S[p]?)->Rel nt m0 ⟨T,S⟩ a w->e.o.wp P a w (λa' w'=>∃p:β×Eff,(effs p.1)[i0]?=some p.2/\Rel nt m0 (p.2.app ⟨T,S⟩) a' w') (λ_ _ _=>False))
  (hc:∀b,Ca (effs b) (BT l [])=true) (hlater:∀j,j≠i0->j<l.length->(∀b b',(effs b)[j]?=(effs b')[j]?)\/∃m:Nat,(BT l [])[j]?=some m/\m.testBit i0=true) (hdn:down l 0=true) (hQ:∀b,Q .normal (stX (effs b) 0 (λ_=>true) st)):AWP ro P nt (.region id l.toArray true) Q st:=by
 intro m0 a w hrel;refine wpIn_region_any hm (Qh (m0:=m0) (st:=st) (effs:=effs) (b0:=b0) (i0:=i0) (by simpa using heff) hloc hlocE (by simpa using hc) (by simpa using hlater) (by simpa using hdn) (λb a w h=>⟨_,h,hQ b⟩) _ _ a _ (by simp) ?_ ?_ ⟨b0,?_⟩)
 ·intro j o hj hX
  have:j<l.length:=(List.getElem?_eq_some_iff.1 hj).1;simp[this]at hX
 ·exact Nat.le_trans (List.length_filter_le _ _) (by simp)
 ·have:(λj=>(Array.replicate l.toArray.size false).getD j false)=λ_=>false:=by
   funext j
   simp only[Array.getD_eq_getD_getElem?,Array.getElem?_replicate];split<;>rfl
  rw[this,Dw];exact hrel.draw _
end
section
variable {P:Program}{nt:Nat}{ops:Array Oper}
theorem Eu(e0:Eff)(effs:List Eff)(st:St)(i:Nat):stX (e0::effs) 0 (λj=>decide (j<i+1)) st=stX effs 0 (λj=>decide (j<i)) (e0.app st):=by
 show stX effs (0+1) (λj=>decide (j<i+1)) (match decide (0<i+1)with|true=>e0.app st|false=>st)=_
 rw[El,Ae (Nat.succ_pos i)];simp
theorem Gm(e0:Eff)(effs:List Eff)(st:St):stX (e0::effs) 0 (λ_=>true) st=stX effs 0 (λ_=>true) (e0.app st):=by
 show stX effs (0+1) (λ_=>true) (e0.app st)=_
 rw[El]
theorem GM(effs:List Eff)(st:St):stX effs 0 (λj=>decide (j<0)) st=st:=by
 have:(λj:Nat=>decide (j<0))=λ_=>false:=by funext j;simp
 rw[this,Dw]
def Wu(P:Program)(nt:Nat){β:Type}(effs:β->List Eff)(i0:Nat)(e:Eff)(st:St):Prop:=
 e.o.guard=none/\(∀c,e.o.op≠ .defer c)/\∀m0 T S a w,(∀t∈e.rT,Ab T t=Ab st.T t)->(∀p∈e.rS,S[p]?=st.S[p]?)->Rel nt m0 ⟨T,S⟩ a w->e.o.wp P a w (λa' w'=>∃p:β×Eff,(effs p.1)[i0]?=some p.2/\Rel nt m0 (p.2.app ⟨T,S⟩) a' w') (λ_ _ _=>False)
theorem OZ{i:Nat}{ms:List Nat}(h:NQ i ms=true):∀j,i<j->j<ms.length->∃m:Nat,ms[j]?=some m/\m.testBit i=true:=by
 intro j hij hj;have:=List.all_eq_true.1 h j (List.mem_range.2 hj);refine⟨ms[j],by simp[hj],?_⟩;simpa[hij,Bp,AE hj]using this
def RGoE(P:Program)(nt:Nat)(ops:Array Oper)(l:List Oper)(Q:Exit->St->Prop)(rest:List Oper)(acc:List Eff)(st:St):Prop:=
 ∃(β:Type) (b0:β) (i0:Nat) (effs:β->List Eff),(∀b,(effs b).map (·.o)=rest)/\
  (∀b i e,i≠i0->(effs b)[i]?=some e->JQ P nt ops e (stX (effs b) 0 (λj=>decide (j<i)) st))/\
  (∀e,(effs b0)[i0]?=some e->Wu P nt effs i0 e (stX (effs b0) 0 (λj=>decide (j<i0)) st))/\
  (∀b,Ca (acc++effs b) (BT l [])=true)/\(∀i,i≠i0->acc.length+i<(BT l []).length->(∀b b',(effs b)[i]?=(effs b')[i]?)\/∃m:Nat,(BT l [])[acc.length+i]?=some m/\m.testBit (acc.length+i0)=true)/\∀b,Q .normal (stX (effs b) 0 (λ_=>true) st)
theorem Je{Q:Exit->St->Prop}{id:Nat}{l:List Oper}{st:St}(hm:P.follows .mixedOrders=true)(hdn:down l 0=true)(h:RGoE P nt l.toArray l Q l [] st):AWP ro P nt (.region id l.toArray true) Q st:=by
 obtain⟨β,b0,i0,effs,h1,h3,h4,h5,h6,h7⟩:=h;simp only[List.length_nil,Nat.zero_add]at h6;exact .region_anyE b0 i0 hm h1 h3 h4 (by simpa using h5) (λj hj hl=>h6 j hj (by rw[MP];exact hl)) hdn h7
theorem QA{β:Type}{effs:β->List Eff}{ms:List Nat}{n:Nat}(h:NQ n ms=true):∀i,i≠0->n+i<ms.length->(∀b b',(effs b)[i]?=(effs b')[i]?)\/∃m:Nat,ms[n+i]?=some m/\m.testBit (n+0)=true:=λi hi hl=>.inr (OZ h (n+i) (by omega) hl)
section
variable {Q:Exit->St->Prop}{l rest:List Oper}{acc:List Eff}{st:St}{T:List (Nat×AV)}{S:List AC}{xs:List (Operand×AV)}{rS wS:List (Nat×AC)}{v:AV}{op:Op}{ty:TypeId}{pos:String}{after:Array Edge}{dst:Option Tmp}{f:FuncId}{ats:Array TypeId}
theorem RGoE.step_{o:Oper}{e:Eff}{st':St}(h:Run P nt ops [o] st [e] st')(k:RGoE P nt ops l Q rest (acc++[e]) st'):RGoE P nt ops l Q (o::rest) acc st:=by
 obtain⟨h1,h2,h3⟩:=h.spec;obtain⟨β,b0,i0,effs,k1,k3,k4,k5,k6,k7⟩:=k;have hst:st'=e.app st:=by rw[h1,Gm];rfl
 subst hst;simp only[List.map_cons,List.map_nil,List.cons.injEq,and_true]at h2;refine⟨β,b0,i0+1,λb=>e::effs b,λb=>by simp[k1 b,h2],λb i e' hi he=>?_,λe' he=>?_,λb=>by simpa using k5 b,λi hi hl=>?_,λb=>by rw[Gm];exact k7 b⟩
 ·cases i with
  |zero=>
   simp at he;subst he;rw[GM];have:=h3 0 e rfl;rwa[GM]at this
  |succ i=>
   rw[Eu];exact k3 b i e' (by omega) (by simpa using he)
 ·rw[Eu]
  obtain⟨a1,a2,a3⟩:=k4 e' (by simpa using he);exact⟨a1,a2,λm0 T S a w h1 h2 h3=>by simpa using a3 m0 T S a w h1 h2 h3⟩
 ·cases i with
  |zero=>exact .inl λb b'=>rfl
  |succ i=>
   have hl':(acc++[e]).length+i<(BT l []).length:=by rw[AL,List.length_singleton];omega
   rcases k6 i (by omega) hl' with h|⟨m,hm1,hm2⟩
   ·exact .inl λb b'=>by simpa using h b b'
   ·rw[AL,List.length_singleton]at hm1 hm2
    exact .inr ⟨m,by rw[<-hm1];congr 1;omega,by rw[<-hm2];congr 1;omega⟩
theorem RGoE.go(k:RGoE P nt ops l Q rest (acc++[⟨⟨dst,op,ty,pos,after,none⟩,Au xs,rS.map (·.1),v,[]⟩]) ⟨AW T dst v,S⟩)(h:Stp none P ⟨dst,op,ty,pos,after,none⟩ T S xs rS v []:=by exact EZ)(hd:AU dst nt=true:=by rfl):RGoE P nt ops l Q (⟨dst,op,ty,pos,after,none⟩::rest) acc ⟨T,S⟩:=RGoE.step_ (Run.p h hd .nil) k
end
end
end
section
variable {ro:Option Nat}
section
variable {P:Program}{nt:Nat}{ops:Array Oper}{Q:Exit->St->Prop}{l rest:List Oper}{acc:List Eff}{T:List (Nat×AV)}{S:List AC}{f:FuncId}{x0 x1 x2 x3:Operand}{v0 v1 v2 v3 r v:AV}{xs:List (Operand×AV)}{dst:Option Tmp}{ats:Array TypeId}{ty:TypeId}{pos:String}{after:Array Edge}{p1 p2:Nat}{z1 z2:AC}{y1 y2:Nat->AC}
end
end
section
variable {ro:Option Nat}
theorem Spec.drop{P:Program}{f:FuncId}{args:List AV}{S R:List AC}{Q:AV->List AC->Prop}(h:Spec P f args S λr S'=>∃S1,S'=S1++R/\Q r S1):Spec P f args S Q:=
 ⟨h.fn,λSf m N Z vals hZ G hv=>by
  refine(h.run Sf m N Z vals hZ G hv).mono ?_;rintro e w' ⟨v,r,S',m',N',Z',br,he,hw,hm,G',hvv,S1,rfl,hQ⟩;obtain⟨Za,Zb,rfl,h1,h2⟩:=Az hm;obtain⟨Zc,Zd,rfl,h3,h4⟩:=Az h1;refine⟨v,r,S1,m',N',Zc++Zb,br,he,hw,by rw[List.map_append,h3,h2],G'.sub ?_,hvv,hQ⟩;rw[AP];exact(List.Sublist.refl Zc).append (List.sublist_append_right _ _)⟩
section
variable {P:Program}{nt:Nat}{ops:Array Oper}{Q:Exit->St->Prop}{l rest:List Oper}{acc:List Eff}{T:List (Nat×AV)}{S Sin:List AC}{xs:List (Operand×AV)}{dst:Option Tmp}{f:FuncId}{ats:Array TypeId}{ty:TypeId}{pos:String}{after:Array Edge}
theorem Ql{β:Type}{C:β->Prop}{rr vv:β->AV}{So:β->List AC}{rS:List (Nat×AC)}{wE:β->List (Nat×AC)}(b0:β)(hb0:C b0)(h:Spec P f (xs.map (·.2)) Sin λr' S'=>∃b,C b/\r'=rr b/\S'=So b)(hf:∀b,TR (rr b) (vv b) [])(hr:rS.map (·.2)=Sin)(hw:∀b,(wE b).map (·.2)=So b)(hp:∀b,(wE b).map (·.1)=rS.map (·.1))(hnd:(rS.map (·.1)).Nodup)(hG:Gets S rS)(hx:Evs T xs)(ht:Am xs=true)(hd:AU dst nt=true)(hl:NQ acc.length (BT l [])=true)
  (k:∀b,C b->RGo P nt ops l Q rest (acc++[⟨⟨dst,.call ⟨.value (.func f),(xs.map (·.1)).toArray,ats⟩,ty,pos,after,none⟩,Au xs,rS.map (·.1),vv b,wE b⟩]) ⟨AW T dst (vv b),AX S (wE b)⟩):RGoE P nt ops l Q (⟨dst,.call ⟨.value (.func f),(xs.map (·.1)).toArray,ats⟩,ty,pos,after,none⟩::rest) acc ⟨T,S⟩:=by
 have hk:∀b:{b//C b},∃effs st',Run P nt ops rest ⟨AW T dst (vv b.1),AX S (wE b.1)⟩ effs st' /\Ca ((acc++[⟨⟨dst,.call ⟨.value (.func f),(xs.map (·.1)).toArray,ats⟩,ty,pos,after,none⟩,Au xs,rS.map (·.1),vv b.1,wE b.1⟩])++effs) (BT l [])=true/\Q .normal st':=λb=>k b.1 b.2
 refine⟨{b//C b},⟨b0,hb0⟩,0,λb=>⟨⟨dst,.call ⟨.value (.func f),(xs.map (·.1)).toArray,ats⟩,ty,pos,after,none⟩,Au xs,rS.map (·.1),vv b.1,wE b.1⟩::(hk b).choose,λb=>?_,λb i e hi he=>?_,λe he=>?_,λb=>?_,QA hl,λb=>?_⟩
 ·obtain⟨st',h1,h2,h3⟩:=(hk b).choose_spec
  rw[List.map_cons,h1.spec.2.1]
 ·obtain⟨st',h1,h2,h3⟩:=(hk b).choose_spec
  cases i with
  |zero=>exact absurd rfl hi
  |succ i=>
   rw[Eu];exact h1.spec.2.2 i e (by simpa using he)
 ·simp at he
  subst he;refine⟨rfl,by simp,λm0 T' S' a w hT hS hr'=>?_⟩;rw[GM]at hT hS;obtain⟨m,N,Z,rfl,h2,h3,h4⟩:=hr';have h2':Z.map (·.1)=S':=h2;have h4':TRel m0 m nt T' a:=h4
  have hv:VTs m (xs.map (·.2)) (((xs.map (·.1)).toArray).map a.eval).toList []:=by
   have:=EW (CQ ht) λq hq=>h4'.ev (Fk (st:=⟨T,S⟩) hx hT q hq)
   simpa[Function.comp_def]using this
  have hS0:∀q∈rS,S'[q.1]?=some q.2:=by
   intro q hq;rw[hS q.1 (List.mem_map.2 ⟨q,hq,rfl⟩)];exact hG.all q hq
  have hc:=Hi (dst:=dst) (S:=S') (nw:=λ_=>[]) (gs:=[]) h hf (λ_=>rfl) (by rw[hr,List.append_nil]) (λb=>by rw[hw b,List.append_nil]) hp hnd hS0 (Bo hd) h2' h3 h4' hv;have hw:=Gf (ty:=ty) (pos:=pos) (after:=after) (g:=none) (dst:=dst) (ats:=ats) (K:=λa' w'=>∃b,C b/\Rel nt m0 ⟨AW T' dst (vv b),AX S' (wE b)⟩ a' w') (λ_=>rfl) h.fn hc;refine Oper.wp_mono ?_ hw;rintro a' w' ⟨b,hb,hrel⟩;exact⟨(⟨b,hb⟩,⟨⟨dst,.call ⟨.value (.func f),(xs.map (·.1)).toArray,ats⟩,ty,pos,after,none⟩,Au xs,rS.map (·.1),vv b,wE b⟩),rfl,hrel⟩
 ·obtain⟨st',h1,h2,h3⟩:=(hk b).choose_spec
  simpa using h2
 ·obtain⟨st',h1,h2,h3⟩:=(hk b).choose_spec
  rw[Gm];have:=h1.spec.1;rw[this]at h3;exact h3
theorem V1{β:Type}{rr vv:β->AV}{s1 s2 s3 s4:β->AC}{p1 p2 p3 p4:Nat}(Y1 Y2 Y3 Y4:Nat)(b0:β)(h:Spec P f [] [] λr' S'=>∃b,r'=rr b/\S'=[s1 b,s2 b,s3 b,s4 b])[hf:∀b,Frz (rr b) (vv b)]
  (k:∀b,RGo P nt ops l Q rest (acc++[⟨⟨dst,.call ⟨.value (.func f),#[],ats⟩,ty,pos,after,none⟩,[],[p1,p2,p3,p4],vv b,[(p1,s1 b),(p2,s2 b),(p3,s3 b),(p4,s4 b)]⟩]) ⟨AW T dst (vv b),AX S [(p1,s1 b),(p2,s2 b),(p3,s3 b),(p4,s4 b)]⟩)
  (hl:NQ acc.length (BT l [])=true:=by kernel_rfl) (a1:At S p1 (Y1,.gone):=by exact At.f) (a2:At S p2 (Y2,.gone):=by exact At.f) (a3:At S p3 (Y3,.gone):=by exact At.f) (a4:At S p4 (Y4,.gone):=by exact At.f) (hnd:Cw [p1,p2,p3,p4]=true:=by rfl) (hd:AU dst nt=true:=by rfl):
  RGoE P nt ops l Q (⟨dst,.call ⟨.value (.func f),#[],ats⟩,ty,pos,after,none⟩::rest) acc ⟨T,S⟩:=
 Ql (xs:=[]) (C:=λ_=>True) (rr:=rr) (vv:=vv) (So:=λb=>[s1 b,s2 b,s3 b,s4 b]) (rS:=[(p1,(Y1,.gone)),(p2,(Y2,.gone)),(p3,(Y3,.gone)),(p4,(Y4,.gone))]) (wE:=λb=>[(p1,s1 b),(p2,s2 b),(p3,s3 b),(p4,s4 b)]) b0 trivial
  (Spec.drop (R:=[(Y1,.gone),(Y2,.gone),(Y3,.gone),(Y4,.gone)]) ((h.beside [(Y1,.gone),(Y2,.gone),(Y3,.gone),(Y4,.gone)]).mono λr' S' ⟨S1,e1,b,e2,e3⟩=>⟨S1,e1,b,trivial,e2,e3⟩)) (λb=>.fz) rfl (λ_=>rfl) (λ_=>rfl) (Cc hnd) (.cons a1 (.cons a2 (.cons a3 (.cons a4 .nil)))) .nil rfl hd hl (λb _=>k b)
end
end
section
variable {ro:Option Nat}
def Hs(n:Nat)(e:Eff):Eff:=⟨e.o,e.rT,e.rS.filter λp=>Nat.blt p n,e.v,e.wS⟩
theorem KQ{n:Nat}{a b:List Nat}(h:∀p∈a,p<n):JU a (b.filter λp=>Nat.blt p n)=JU a b:=by
 have hb:∀p,p<n->Nat.blt p n=true:=λp h=>by simpa[Nat.blt_eq]using h
 apply Bool.eq_iff_iff.2;simp only[JU,List.any_eq_true];constructor
 ·rintro⟨x,hx,y,hy,e⟩
  exact⟨x,hx,y,(List.mem_filter.1 hy).1,e⟩
 ·rintro⟨x,hx,y,hy,e⟩
  have e':=Nat.eq_of_beq_eq_true e;subst e';exact⟨x,hx,x,List.mem_filter.2 ⟨hy,hb x (h x hx)⟩,e⟩
def SA(n:Nat)(e:Eff):Bool:=e.wS.all λq=>Nat.blt q.1 n
theorem MQ{n:Nat}{e:Eff}(h:SA n e=true):∀p∈e.wS.map (·.1),p<n:=by
 intro p hp;obtain⟨q,hq,rfl⟩:=List.mem_map.1 hp;have:=List.all_eq_true.1 h q hq;simpa[Nat.blt_eq]using this
theorem O5{n:Nat}{a b:Eff}(ha:SA n a=true)(hb:SA n b=true):clash (Hs n a) (Hs n b)=clash a b:=by
 unfold clash;show(OS a.o.dst b.rT||OS b.o.dst a.rT||OE a.o.dst b.o.dst||JU (a.wS.map (·.1)) (b.rS.filter λp=>Nat.blt p n)||JU (b.wS.map (·.1)) (a.rS.filter λp=>Nat.blt p n)||JU (a.wS.map (·.1)) (b.wS.map (·.1)))=_
 rw[KQ (MQ ha),KQ (MQ hb)]
theorem Nd{n:Nat}{effs:List Eff}{ms:List Nat}(h:∀e∈effs,SA n e=true)(hc:Ca (effs.map (Hs n)) ms=true):Ca effs ms=true:=by
 unfold Ca at hc⊢;rw[AB]at hc;rw[List.all_eq_true]at hc⊢;intro j hj;have h1:=hc j hj;rw[List.all_eq_true]at h1⊢;intro i hi;have h2:=h1 i hi;rw[AG,AG]at h2;cases ei:effs[i]? with
 |none=>rw[ei]at h2;simp at h2
 |some a=>
  cases ej:effs[j]? with
  |none=>rw[ei,ej]at h2;simp at h2
  |some b=>
   rw[ei,ej]at h2;cases em:ms[j]? with
   |none=>rw[em]at h2;simp at h2
   |some m=>
    rw[em]at h2;simp only[Option.map_some]at h2⊢;rwa[O5 (h a (Ao ei)) (h b (Ao ej))]at h2
section
variable {P:Program}{nt:Nat}{ops:Array Oper}{Q:Exit->St->Prop}{l rest:List Oper}{acc:List Eff}{st:St}{T:List (Nat×AV)}{S:List AC}{xs:List (Operand×AV)}{rS wS:List (Nat×AC)}{v:AV}{op:Op}{ty:TypeId}{pos:String}{after:Array Edge}{dst:Option Tmp}{n:Nat}
def RGoT(n:Nat)(P:Program)(nt:Nat)(ops:Array Oper)(l:List Oper)(Q:Exit->St->Prop)(rest:List Oper)(acc:List Eff)(st:St):Prop:=
 ∃effs st',Run P nt ops rest st effs st' /\(∀e∈effs,SA n e=true)/\Ca (acc++effs.map (Hs n)) (BT l [])=true/\Q .normal st'
theorem GH(n:Nat){id:Nat}(hm:P.follows .mixedOrders=true)(hdn:down l 0=true)(h:RGoT n P nt l.toArray l Q l [] st):AWP ro P nt (.region id l.toArray true) Q st:=by
 obtain⟨effs,st',h1,h2,h3,h4⟩:=h;exact .region_run hm hdn ⟨effs,st',h1,Nd h2 h3,h4⟩
theorem RGoT.nil(hc:Ca acc (BT l [])=true)(k:Q .normal st):RGoT n P nt ops l Q [] acc st:=⟨[],st,.nil,by simp,by simpa using hc,k⟩
theorem RGoT.step_{o:Oper}{e:Eff}{st':St}(h:∀{effs st''},Run P nt ops rest st' effs st'' ->Run P nt ops (o::rest) st (e::effs) st'')(hw:SA n e=true)(k:RGoT n P nt ops l Q rest (acc++[Hs n e]) st'):RGoT n P nt ops l Q (o::rest) acc st:=by
 obtain⟨effs,st'',h1,h2,h3,h4⟩:=k;refine⟨_,_,h h1,λe' he=>?_,by simpa using h3,h4⟩;rcases List.mem_cons.1 he with rfl|he
 ·exact hw
 ·exact h2 e' he
theorem RGoT.go(k:RGoT n P nt ops l Q rest (acc++[Hs n ⟨⟨dst,op,ty,pos,after,none⟩,Au xs,rS.map (·.1),v,[]⟩]) ⟨AW T dst v,S⟩)(h:Stp none P ⟨dst,op,ty,pos,after,none⟩ T S xs rS v []:=by exact EZ)(hd:AU dst nt=true:=by rfl):RGoT n P nt ops l Q (⟨dst,op,ty,pos,after,none⟩::rest) acc ⟨T,S⟩:=RGoT.step_ (λr=>Run.p h hd r) rfl k
theorem RGoT.goS(k:RGoT n P nt ops l Q rest (acc++[Hs n ⟨⟨dst,op,ty,pos,after,none⟩,Au xs,rS.map (·.1),v,wS⟩]) ⟨AW T dst v,AX S wS⟩)(h:Stp none P ⟨dst,op,ty,pos,after,none⟩ T S xs rS v wS:=by exact Hm)(hw:(wS.all λq=>Nat.blt q.1 n)=true:=by rfl)(hd:AU dst nt=true:=by rfl):RGoT n P nt ops l Q (⟨dst,op,ty,pos,after,none⟩::rest) acc ⟨T,S⟩:=RGoT.step_ (λr=>Run.s h hd r) hw k
end
section
variable {P:Program}{ty:TypeId}{pos:String}{after:Array Edge}{g:Option (Nat×Bool)}{dst:Option Tmp}{xs:List (Operand×AV)}{f:FuncId}{ats:Array TypeId}{r v:AV}{Sin:List AC}{rS:List (Nat×AC)}
theorem Ix:∀(rS:List (Nat×AC)) (S:List AC),(∀q∈rS,S[q.1]?=some q.2)->AX S rS=S
 |[],S,_=>rfl
 |q::rS,S,h=>by
  have h1:=h q (by simp);obtain⟨h2,h3⟩:=List.getElem?_eq_some_iff.1 h1;have e:S.set q.1 q.2=S:=by rw[<-h3];exact List.set_getElem_self h2
  show AX (S.set q.1 q.2) rS=S
  rw[e];exact Ix rS S λq' hq=>h q' (by simp[hq])
theorem OpT.callK(h:Spec P f (xs.map (·.2)) Sin λr' S'=>r'=r/\S'=Sin)(ht:Am xs=true)(hT:TR r v [])(hr:rS.map (·.2)=Sin)(hnd:(rS.map (·.1)).Nodup):
  OpT P ⟨dst,.call ⟨.value (.func f),(xs.map (·.1)).toArray,ats⟩,ty,pos,after,g⟩ xs rS v []:=by
 intro nt m0 T S a w hx hS hd hrel;have:=EI (ty:=ty) (pos:=pos) (after:=after) (g:=g) (dst:=dst) (ats:=ats) (wS:=rS) (news:=[]) h ht hT (by rw[hr];simp[B6]) (by rw[hr];simp) rfl hnd nt m0 T S a w hx hS hd hrel;rw[Ix rS S hS]at this;exact this
variable {n nt:Nat}{ops:Array Oper}{Q:Exit->St->Prop}{l rest:List Oper}{acc:List Eff}{T:List (Nat×AV)}{L R:List AC}{S:List AC}
theorem RGoT.callK(h:Spec P f (xs.map (·.2)) Sin λr' S'=>r'=r/\S'=Sin)(hf:TR r v [])(hS:S=L++(Sin++R))(hn:n<=L.length)(hx:Evs T xs)(ht:Am xs=true)(hd:AU dst nt=true)
  (k:RGoT n P nt ops l Q rest (acc++[⟨⟨dst,.call ⟨.value (.func f),(xs.map (·.1)).toArray,ats⟩,ty,pos,after,none⟩,Au xs,[],v,[]⟩]) ⟨AW T dst v,S⟩):RGoT n P nt ops l Q (⟨dst,.call ⟨.value (.func f),(xs.map (·.1)).toArray,ats⟩,ty,pos,after,none⟩::rest) acc ⟨T,S⟩:=by
 have hG:Gets S (Lq L.length Sin):=by rw[hS];exact MU L Sin R
 have hop:OpT P ⟨dst,.call ⟨.value (.func f),(xs.map (·.1)).toArray,ats⟩,ty,pos,after,none⟩ xs (Lq L.length Sin) v []:=.callK h ht hf (Oe _ _) (by rw[Kk];exact List.nodup_range')
 have hst:Hs n ⟨⟨dst,.call ⟨.value (.func f),(xs.map (·.1)).toArray,ats⟩,ty,pos,after,none⟩,Au xs,(Lq L.length Sin).map (·.1),v,[]⟩=⟨⟨dst,.call ⟨.value (.func f),(xs.map (·.1)).toArray,ats⟩,ty,pos,after,none⟩,Au xs,[],v,[]⟩:=by
  unfold Hs;dsimp only;rw[Kk]
  have:(List.range' L.length Sin.length).filter (λp=>Nat.blt p n)=[]:=by
   rw[List.filter_eq_nil_iff];intro p hp;rw[List.mem_range'_1]at hp;simp only[Nat.blt_eq];omega
  rw[this]
 refine RGoT.step_ (e:=⟨⟨dst,.call ⟨.value (.func f),(xs.map (·.1)).toArray,ats⟩,ty,pos,after,none⟩,Au xs,(Lq L.length Sin).map (·.1),v,[]⟩) (λr=>Run.step rfl hop hx hG hd r) rfl ?_;rw[hst];exact k
end
end
section
variable {ro:Option Nat}
open Go.RowKit
section
variable {P:Program}{nt:Nat}{ops:Array Oper}
theorem TI{effs:List Eff}{st:St}{X:Array Bool}{i:Nat}(heff:effs.map (·.o)=ops.toList)(hc:Ca effs (BT ops.toList [])=true)(hX:X.size=ops.size)(hdc:∀j o,ops.toList[j]?=some o->X.getD j false=true->∀e∈o.after.toList,Region.binds .any e=true->X.getD e.on false=true)(hin:i<ops.size)(hXi:X.getD i false=false)(hpre:∀e∈(ops[i]).after.toList,Region.binds .any e=true->X.getD e.on false=true){e:Eff}(he:effs[i]?=some e):
  e.o=ops[i]/\(∀t∈e.rT,Ab (stX effs 0 (λj=>X.getD j false) st).T t=Ab (stX effs 0 (λj=>decide (j<i)) st).T t)/\(∀p∈e.rS,(stX effs 0 (λj=>X.getD j false) st).S[p]?=(stX effs 0 (λj=>decide (j<i)) st).S[p]?)/\
   (∀t,Ab (stX effs 0 (λj=>(X.setIfInBounds i true).getD j false) st).T t=Ab (e.app (stX effs 0 (λj=>X.getD j false) st)).T t)/\(stX effs 0 (λj=>(X.setIfInBounds i true).getD j false) st).S=(e.app (stX effs 0 (λj=>X.getD j false) st)).S:=by
 have hiX:i<X.size:=by omega
 have heo:e.o=ops[i]:=by
  have h1:(effs.map (·.o))[i]?=some e.o:=by simp[he]
  rw[heff]at h1;simpa[hin]using h1.symm
 have hmask:=Bt (λj=>X.getD j false) ops.toList [] (λj o hj hXj e he hb=>hdc j o hj (by simpa using hXj) e he hb) (λj m h=>by simp at h)
 have hcomp:∀a b ea eb,a<b->effs[a]?=some ea->effs[b]?=some eb->clash ea eb=true->∃m:Nat,(BT ops.toList [])[b]?=some m/\m.testBit a=true:=by
  intro a b ea eb hab hea heb hcl;have h1:=List.all_eq_true.1 (hc) b (List.mem_range.2 (List.getElem?_eq_some_iff.1 heb).1);have h2:=List.all_eq_true.1 h1 a (List.mem_range.2 hab);simp only[hea,heb]at h2;cases hm:(BT ops.toList [])[b]? with
  |none=>rw[hm]at h2;cases h2
  |some m=>rw[hm]at h2;exact⟨m,rfl,by simpa[hcl]using h2⟩
 have hbefore:∀j ej,j<i->effs[j]?=some ej->clash ej e=true->X.getD j false=true:=by
  intro j ej hj hej hcl;obtain⟨m,hm1,hm2⟩:=hcomp j i ej e hj hej he hcl
  have hcl2:=Bt (λk=>X.getD k false||decide (k=i)) ops.toList [] (λk o hk hXk ee hee hb=>by
   simp only[List.length_nil,Nat.zero_add,Bool.or_eq_true,AF]at hXk⊢;rcases hXk with h|h
   ·exact .inl (hdc k o hk h ee hee hb)
   ·subst h
    have:o=ops[k]:=by simpa[hin]using hk.symm
    subst this;exact .inl (hpre ee hee hb)) (λj m h=>by simp at h) i m hm1 (by simp) j hm2
  simp only[Bool.or_eq_true,AF]at hcl2;rcases hcl2 with h|h
  ·exact h
  ·omega
 have hafter:∀j ej,i<j->effs[j]?=some ej->clash e ej=true->X.getD j false=false:=by
  intro j ej hj hej hcl;obtain⟨m,hm1,hm2⟩:=hcomp i j e ej hj he hej hcl;cases hx:X.getD j false with
  |false=>rfl
  |true=>
   have:=hmask j m hm1 hx i hm2;rw[hXi]at this;cases this
 have hrT:∀t∈e.rT,Ab (stX effs 0 (λj=>X.getD j false) st).T t=Ab (stX effs 0 (λj=>decide (j<i)) st).T t:=by
  intro t ht;refine CJ (λj ej hej hd=>?_) rfl;rw[Nat.zero_add];rcases Nat.lt_trichotomy j i with h|h|h
  ·rw[hbefore j ej h hej ?_]
   ·simp[h]
   ·cases hcl:clash ej e with
    |true=>rfl
    |false=>exact absurd ht ((Av hcl).1 t hd)
  ·subst h
   rw[hXi];simp
  ·rw[hafter j ej h hej ?_]
   ·simp;omega
   ·cases hcl:clash e ej with
    |true=>rfl
    |false=>exact absurd ht ((Av hcl).2.1 t hd)
 have hrS:∀p∈e.rS,(stX effs 0 (λj=>X.getD j false) st).S[p]?=(stX effs 0 (λj=>decide (j<i)) st).S[p]?:=by
  intro p hp;refine Cj (λj ej hej hd=>?_) rfl rfl;rw[Nat.zero_add];obtain⟨q,hq,rfl⟩:=hd;rcases Nat.lt_trichotomy j i with h|h|h
  ·rw[hbefore j ej h hej ?_]
   ·simp[h]
   ·cases hcl:clash ej e with
    |true=>rfl
    |false=>exact absurd hp ((Av hcl).2.2.2.1 q hq)
  ·subst h
   rw[hXi];simp
  ·rw[hafter j ej h hej ?_]
   ·simp;omega
   ·cases hcl:clash e ej with
    |true=>rfl
    |false=>exact absurd hp ((Av hcl).2.2.2.2.1 q hq)
 have hX':∀k,(X.setIfInBounds i true).getD k false=(X.getD k false||decide (k=i)):=by
  intro k;simp only[Array.getD_eq_getD_getElem?,Array.getElem?_setIfInBounds];by_cases hk:i=k
  ·subst hk;simp[hiX]
  ·simp[hk,Ne.symm hk]
 have hT:∀t,Ab (stX effs 0 (λj=>(X.setIfInBounds i true).getD j false) st).T t=Ab (e.app (stX effs 0 (λj=>X.getD j false) st)).T t:=by
  intro t;by_cases hd:e.o.dst=some t
  ·rw[GN (i:=i) (e:=e) (t:=t) he (by rw[Nat.zero_add,hX'];simp) hd ?_]
   ·simp[Eff.app,hd,AW,Al]
   ·intro j ej hj hej hXj hdj
    rw[Nat.zero_add,hX']at hXj
    have hXj':X.getD j false=true:=by
     simp only[Bool.or_eq_true,AF]at hXj;rcases hXj with h|h
     ·exact h
     ·omega
    have:=hafter j ej hj hej (by
     cases hcl:clash e ej with
     |true=>rfl
     |false=>exact absurd hdj ((Av hcl).2.2.1 t hd))
    rw[hXj']at this;cases this
  ·have ap:Ab (e.app (stX effs 0 (λj=>X.getD j false) st)).T t=Ab (stX effs 0 (λj=>X.getD j false) st).T t:=by
    simp only[Eff.app];cases hdd:e.o.dst with
    |none=>rfl
    |some d=>rw[AW,Al,if_neg];exact λh=>hd (by rw[hdd,h])
   rw[ap];refine CJ (λj ej hej hdj=>?_) rfl;rw[Nat.zero_add,hX']
   have:j≠i:=by
    rintro rfl;rw[he]at hej;injection hej with hej
    subst hej;exact hd hdj
   simp[this]
 have hS:(stX effs 0 (λj=>(X.setIfInBounds i true).getD j false) st).S=(e.app (stX effs 0 (λj=>X.getD j false) st)).S:=by
  refine List.ext_getElem? λp=>?_
  by_cases hd:∃q∈e.wS,q.1=p
  ·rw[FZ (i:=i) (e:=e) (p:=p) he (by rw[Nat.zero_add,hX'];simp) hd ?_ (stX effs 0 (λj=>X.getD j false) st).S (Gl ..)]
   ·rfl
   ·intro j ej hj hej hXj hdj
    rw[Nat.zero_add,hX']at hXj
    have hXj':X.getD j false=true:=by
     simp only[Bool.or_eq_true,AF]at hXj;rcases hXj with h|h
     ·exact h
     ·omega
    obtain⟨q,hq,hqp⟩:=hd;obtain⟨q',hq',hqp'⟩:=hdj
    have:=hafter j ej hj hej (by
     cases hcl:clash e ej with
     |true=>rfl
     |false=>exact absurd (hqp.trans hqp'.symm) ((Av hcl).2.2.2.2.2 q hq q' hq'))
    rw[hXj']at this;cases this
  ·have ap:(e.app (stX effs 0 (λj=>X.getD j false) st)).S[p]?=(stX effs 0 (λj=>X.getD j false) st).S[p]?:=Dm (λq hq h=>hd ⟨q,hq,h⟩) _
   rw[ap];refine Cj (λj ej hej hdj=>?_) rfl rfl;rw[Nat.zero_add,hX']
   have:j≠i:=by
    rintro rfl;rw[he]at hej;injection hej with hej
    subst hej;exact hd hdj
   simp[this]
 exact⟨heo,hrT,hrS,hT,hS⟩
theorem Sv(hdn:down ops.toList 0=true){X:Array Bool}(hX:X.size=ops.size)(hnil:Region.ready .any ops X=[]):∀j,j<ops.size->X.getD j false=true:=by
 intro j
 induction j using Nat.strongRecOn with
 |_ j ih=>
  intro hj;cases hx:X.getD j false with
  |true=>rfl
  |false=>
   exfalso
   have:j∈Region.ready .any ops X:=by
    refine List.mem_filter.2 ⟨List.mem_range.2 hj,?_⟩;have ho:ops[j]?=some ops[j]:=by simp[hj]
    have hx':X.getD j true=false:=by
     have hjX:j<X.size:=by omega
     simp only[Array.getD_eq_getD_getElem?,Array.getElem?_eq_getElem hjX,Option.getD_some]at hx⊢;exact hx
    simp only[hx',ho,Option.map_some,Option.getD_some,Bool.not_false,Bool.true_and];rw[Array.all_eq_true'];intro e he;cases hb:Region.binds .any e with
    |false=>simp
    |true=>
     have hlt:=EG _ 0 hdn j ops[j] (by simp[hj]) e (by simpa using he) hb;have:=ih e.on (by omega) (by omega);simpa using this
   rw[hnil]at this;cases this
theorem Qr{F:Fence}{n:Nat}{o:Oper}{a:Act}{w:World}{K K':Act->World->Prop}{Q Q':Exit->Act->World->Prop}(hK:∀a w,K a w->K' a w)(hQ:∀e a w,Q e a w->e= .normal)(hh:o.wpIn F n P a w K Q):o.wpIn F n P a w K' Q':=by
 unfold Oper.wpIn at*;refine⟨hh.1,?_⟩;have hh:=hh.2;generalize (o.semAt F.round a.eval).run P w=r at*;cases r with
 |ok x w'=>
  cases x<;>simp only[Oper.uponIn]at hh⊢<;>
   first
    |exact hK _ _ hh
    |exact⟨hh.1,CallsIn.mono hh.2 (λe w'' he=>by
      cases e with
      |returned v=>exact hK _ _ he
      |panicked c=>exact absurd (hQ _ _ _ he) (by simp)
      |outgrown=>obtain⟨a2,w2,h2⟩:=he;exact absurd (hQ _ _ _ h2) (by simp))⟩
    |exact⟨hh.1,RowsIn.mono hh.2 (λ_ _ he=>hK _ _ he)⟩
    |exact⟨hh.1,RoundIn.mono hh.2 (λe w'' he=>by
      cases e with
      |returned v=>exact hK _ _ he
      |panicked c=>exact absurd (hQ _ _ _ he) (by simp)
      |outgrown=>obtain⟨a2,w2,h2⟩:=he;exact absurd (hQ _ _ _ h2) (by simp))⟩
 |halt x w'=>
  cases x<;>simp only[Oper.uponIn]at hh⊢<;>
   first
    |exact hh
    |exact absurd (hQ _ _ _ hh) (by simp)
structure St.LeH(st st':St):Prop where
 T:∀d v,Ab st'.T d=some v->Ab st.T d=some v
 S:st'.S.Sublist st.S
theorem Rel.weakH{m0:Mem}{st st':St}{a:Act}{w:World}(h:Rel nt m0 st a w)(k:st.LeH st'):Rel nt m0 st' a w:=(B9 (T':=st'.T) h k.T).sub k.S
abbrev Hv:Type:=Nat×Oper×List Nat×List (Nat×AV)
def HC(ro:Option Nat)(P:Program)(nt:Nat)(Q:Exit->St->Prop)(Tf:List (Nat×AV))(Ff:List AC):List Hv->List (Nat×AV)->List AC->Prop
 |[],V,R=>Q .normal ⟨V++Tf,Ff++R⟩
 |q::hs,V,R=>∀T F,(∀t∈q.2.2.1,Ab T t=Ab (V++q.2.2.2) t)->AOps ro P nt #[] (λex st'=>ex= .normal/\∃u R',st'.LeH ⟨AW T q.2.1.dst u,F++R'⟩/\HC ro P nt Q Tf Ff hs (AW V q.2.1.dst u) R') [q.2.1] ⟨T,F++R⟩
theorem OB{wS:List (Nat×AC)}:∀{F R:List AC},(∀q∈wS,q.1<F.length)->AX (F++R) wS=AX F wS++R:=by
 induction wS with
 |nil=>intro F R _;rfl
 |cons q r ih=>
  intro F R h;show AX ((F++R).set q.1 q.2) r=AX (F.set q.1 q.2) r++R
  rw[List.set_append_left _ _ (h q (by simp))];exact ih λq' hq'=>by rw[List.length_set];exact h q' (by simp[hq'])
theorem Qg{m0:Mem}{st:St}{effs:List Eff}{hv:List Hv}{Q:Exit->St->Prop}{R0:List AC}(heff:effs.map (·.o)=ops.toList)(hc:Ca effs (BT ops.toList [])=true)(hdn:down ops.toList 0=true)
  (hvi:∀q∈hv,∃e,effs[q.1]?=some e/\e.o=q.2.1/\e.rT=q.2.2.1/\(stX effs 0 (λj=>decide (j<q.1)) st).T=q.2.2.2/\e.wS=[]/\e.o.guard=none)
  (hch:hv.Pairwise λp q=>p.1<q.1/\∃m,(BT ops.toList [])[q.1]?=some m/\m.testBit p.1=true)
  (hli:∀i e,(∀q∈hv,q.1≠i)->effs[i]?=some e->JQ P nt ops e (stX effs 0 (λj=>decide (j<i)) st)/\(∀p∈e.rS,p<st.S.length)/\(∀q∈e.wS,q.1<st.S.length)/\∀q∈hv,∀d,q.2.1.dst=some d->d∉e.rT/\e.o.dst≠some d):
  ∀(fuel:Nat) (X:Array Bool) (a:Act) (w:World),X.size=ops.size->(∀j o,ops.toList[j]?=some o->X.getD j false=true->∀e∈o.after.toList,Region.binds .any e=true->X.getD e.on false=true)->
   ((List.range ops.size).filter λj=>!X.getD j false).length<=fuel->
   (∃dn hs V R,hv=dn++hs/\(∀q∈dn,X.getD q.1 false=true)/\(∀q∈hs,X.getD q.1 false=false)/\(∀d,Ab V d≠none->∃q∈dn,q.2.1.dst=some d)/\HC ro P nt Q (stX effs 0 (λ_=>true) st).T (stX effs 0 (λ_=>true) st).S hs V R/\Rel nt m0 ⟨V++(stX effs 0 (λj=>X.getD j false) st).T,(stX effs 0 (λj=>X.getD j false) st).S++R⟩ a w)->
   wpAnyIn (FW ro) 0 P .any ops (λe a' w'=>∃st',Rel nt m0 st' a' w' /\Q e st') fuel X a w:=by
 have hlen:effs.length=ops.size:=by have:=congrArg List.length heff;simpa using this
 have hvlt:∀q∈hv,q.1<ops.size:=λq hq=>by
  obtain⟨e,he,_⟩:=hvi q hq;rw[<-hlen];exact(List.getElem?_eq_some_iff.1 he).1
 have done:∀(X:Array Bool) a w,(∀j,j<ops.size->X.getD j false=true)->(∃dn hs V R,hv=dn++hs/\(∀q∈dn,X.getD q.1 false=true)/\(∀q∈hs,X.getD q.1 false=false)/\(∀d,Ab V d≠none->∃q∈dn,q.2.1.dst=some d)/\HC ro P nt Q (stX effs 0 (λ_=>true) st).T (stX effs 0 (λ_=>true) st).S hs V R/\Rel nt m0 ⟨V++(stX effs 0 (λj=>X.getD j false) st).T,(stX effs 0 (λj=>X.getD j false) st).S++R⟩ a w)->∃st',Rel nt m0 st' a w/\Q .normal st':=by
  rintro X a w hall ⟨dn,hs,V,R,h1,h2,h3,h4,h5,hr⟩;cases hs with
  |cons q hs=>
   have hq:q∈hv:=by rw[h1];simp
   have:=h3 q (by simp);rw[hall q.1 (hvlt q hq)]at this;cases this
  |nil=>
   have hT:∀t,Ab (stX effs 0 (λj=>X.getD j false) st).T t=Ab (stX effs 0 (λ_=>true) st).T t:=λt=>
    CJ (λj e he _=>by rw[Nat.zero_add];exact hall j (by rw[<-hlen];exact(List.getElem?_eq_some_iff.1 he).1)) rfl
   have hS:(stX effs 0 (λj=>X.getD j false) st).S=(stX effs 0 (λ_=>true) st).S:=List.ext_getElem? λp=>
    Cj (λj e he _=>by rw[Nat.zero_add];exact hall j (by rw[<-hlen];exact(List.getElem?_eq_some_iff.1 he).1)) rfl rfl
   have hr':Rel nt m0 ⟨V++(stX effs 0 (λ_=>true) st).T,(stX effs 0 (λj=>X.getD j false) st).S++R⟩ a w:=B9 hr λd v h=>by
    rw[CL]at h⊢;rw[hT];exact h
   rw[hS]at hr';exact⟨_,hr',h5⟩
 intro fuel
 induction fuel with
 |zero=>
  intro X a w hX hdc hf hr
  have hall:∀j,j<ops.size->X.getD j false=true:=by
   intro j hj;have hnil:=List.eq_nil_of_length_eq_zero (Nat.le_zero.1 hf);cases hx:X.getD j false with
   |true=>rfl
   |false=>
    have:j∈(List.range ops.size).filter λj=>!X.getD j false:=List.mem_filter.2 ⟨List.mem_range.2 hj,by simp only[hx,Bool.not_false]⟩
    rw[hnil]at this;cases this
  refine⟨List.filter_eq_nil_iff.2 λj hj=>?_,done X a w hall hr⟩;have hj':=List.mem_range.1 hj;have:=hall j hj';have hjX:j<X.size:=by omega
  simp only[Array.getD_eq_getD_getElem?,Array.getElem?_eq_getElem hjX,Option.getD_some]at this⊢;simp[this]
 |succ fuel ih=>
  intro X a w hX hdc hf hinv;refine⟨λhnil=>done X a w (Sv hdn hX hnil) hinv,λi hi=>?_⟩;obtain⟨hi1,hi2⟩:=List.mem_filter.1 hi;have hin:=List.mem_range.1 hi1;have ho:ops[i]?=some ops[i]:=by simp[hin]
  have hiX:i<X.size:=by omega
  simp only[ho,Option.map_some,Option.getD_some,Bool.and_eq_true]at hi2
  have hXi:X.getD i false=false:=by
   have h:=hi2.1;simp only[Array.getD_eq_getD_getElem?,Array.getElem?_eq_getElem hiX,Option.getD_some]at h⊢;simpa using h
  have hpre:∀e∈(ops[i]).after.toList,Region.binds .any e=true->X.getD e.on false=true:=by
   intro e he hb;have:=Array.all_eq_true'.1 hi2.2 e (by simpa using he);simpa[hb]using this
  obtain⟨e,he⟩:∃e,effs[i]?=some e:=⟨effs[i]'(by rw[hlen];exact hin),by simp[hlen,hin]⟩;obtain⟨heo,hrT,hrS,hT2,hS2⟩:=TI heff hc hX hdc hin hXi hpre he
  have hX':∀k,(X.setIfInBounds i true).getD k false=(X.getD k false||decide (k=i)):=by
   intro k;simp only[Array.getD_eq_getD_getElem?,Array.getElem?_setIfInBounds];by_cases hk:i=k
   ·subst hk;simp[hiX]
   ·simp[hk,Ne.symm hk]
  have next:∀a w,(∃dn hs V R,hv=dn++hs/\(∀q∈dn,(X.setIfInBounds i true).getD q.1 false=true)/\(∀q∈hs,(X.setIfInBounds i true).getD q.1 false=false)/\(∀d,Ab V d≠none->∃q∈dn,q.2.1.dst=some d)/\HC ro P nt Q (stX effs 0 (λ_=>true) st).T (stX effs 0 (λ_=>true) st).S hs V R/\Rel nt m0 ⟨V++(stX effs 0 (λj=>(X.setIfInBounds i true).getD j false) st).T,(stX effs 0 (λj=>(X.setIfInBounds i true).getD j false) st).S++R⟩ a w)->wpAnyIn (FW ro) 0 P .any ops (λe a' w'=>∃st',Rel nt m0 st' a' w' /\Q e st') fuel (X.setIfInBounds i true) a w:=by
   intro a w hr';refine ih _ a w (by simp[hX]) ?_ ?_ hr'
   ·intro j o hj hXj ee hee hb
    rw[hX']at hXj⊢;simp only[Bool.or_eq_true,AF]at hXj⊢;rcases hXj with h|h
    ·exact .inl (hdc j o hj h ee hee hb)
    ·subst h
     have:o=ops[j]:=by simpa[hin]using hj.symm
     subst this;exact .inl (hpre ee hee hb)
   ·have e1:(List.range ops.size).filter (λj=>!(X.setIfInBounds i true).getD j false)=((List.range ops.size).filter λj=>!X.getD j false).filter λj=>!decide (j=i):=by
     rw[List.filter_filter]
     congr 1
     funext j
     rw[hX'];cases X.getD j false<;>simp
    have hmem:i∈(List.range ops.size).filter λj=>!X.getD j false:=List.mem_filter.2 ⟨List.mem_range.2 hin,by simp only[hXi,Bool.not_false]⟩
    have:=(List.length_filter_lt_length_iff_exists (l:=(List.range ops.size).filter λj=>!X.getD j false) (p:=λj=>!decide (j=i))).2 ⟨i,hmem,by simp⟩;rw[e1];omega
  obtain⟨dn,hs,V,R,h1,h2,h3,h4,h5,hr⟩:=hinv;have hSlen:(stX effs 0 (λj=>X.getD j false) st).S.length=st.S.length:=Gl ..;by_cases hhv:∃q∈hv,q.1=i
  ·obtain⟨q,hq,hqi⟩:=hhv
   subst hqi
   have hqs:q∈hs:=by
    rw[h1]at hq;rcases List.mem_append.1 hq with h|h
    ·rw[h2 q h]at hXi;cases hXi
    ·exact h
   obtain⟨q0,hs',rfl⟩:∃q0 hs',hs=q0::hs':=by
    cases hs with
    |nil=>cases hqs
    |cons q0 hs'=>exact⟨q0,hs',rfl⟩
   have hmask:=Bt (λk=>X.getD k false||decide (k=q.1)) ops.toList [] (λk o hk hXk ee hee hb=>by
    simp only[List.length_nil,Nat.zero_add,Bool.or_eq_true,AF]at hXk⊢;rcases hXk with h|h
    ·exact .inl (hdc k o hk h ee hee hb)
    ·subst h
     have:o=ops[q.1]:=by simpa[hin]using hk.symm
     subst this;exact .inl (hpre ee hee hb)) (λj m h=>by simp at h)
   have hq0:q0.1=q.1:=by
    rcases List.mem_cons.1 hqs with rfl|hqs
    ·rfl
    ·rw[h1]at hch
     have hp:=(List.pairwise_cons.1 (List.pairwise_append.1 hch).2.1).1 q hqs;obtain⟨_,m,hm1,hm2⟩:=hp;have:=hmask q.1 m hm1 (by simp) q0.1 hm2;simp only[Bool.or_eq_true,AF]at this;rcases this with h|h
     ·rw[h3 q0 (by simp)]at h;cases h
     ·exact h
   obtain⟨e',he',g1,g2,g3,g4,g5⟩:=hvi q0 (by rw[h1];simp);rw[hq0,he]at he';injection he' with he'
   subst he';rw[hq0]at g3
   have hA:=h5 (V++(stX effs 0 (λj=>X.getD j false) st).T) (stX effs 0 (λj=>X.getD j false) st).S (λt ht=>by
    rw[<-g2]at ht;rw[CL,CL,hrT t ht,g3]) m0 a w hr
   unfold wpOpIn;simp only[ho];rw[<-g1,heo]at hA;unfold wpListIn at hA;have hw:Region.wanted ops[q.1] (yielded ops a.tmps)=true:=by rw[<-heo];simp[Region.wanted,g5]
   have hw2:Region.wanted ops[q.1] (yielded #[] a.tmps)=true:=by rw[<-heo];simp[Region.wanted,g5]
   rw[if_pos hw2]at hA;rw[if_pos hw];refine Qr (λa' w' hh=>?_) (λex a' w' ⟨st',_,hx,_⟩=>hx) hA;obtain⟨st',hr',_,u,R',hle,hHC⟩:=hh;refine next a' w' ⟨dn++[q0],hs',AW V ops[q.1].dst u,R',by rw[h1];simp,λp hp=>?_,λp hp=>?_,λd hd=>?_,hHC,?_⟩
   ·rw[hX']
    rcases List.mem_append.1 hp with hp|hp
    ·rw[h2 p hp];rfl
    ·have:p=q0:=by simpa using hp
     subst this;simp[hq0]
   ·rw[hX']
    have h6:=h3 p (by simp[hp]);rw[h6]
    have:p.1≠q.1:=λh=>by
     rw[h1]at hch;have:=((List.pairwise_cons.1 (List.pairwise_append.1 hch).2.1).1 p hp).1;omega
    simp[this]
   ·cases hdd:ops[q.1].dst with
    |none=>
     rw[hdd]at hd;obtain⟨p,hp,hpd⟩:=h4 d hd;exact⟨p,by simp[hp],hpd⟩
    |some d'=>
     rw[hdd]at hd;by_cases hdeq:d=d'
     ·subst hdeq
      exact⟨q0,by simp,by rw[<-g1,heo,hdd]⟩
     ·have hd':Ab V d≠none:=by
       simp only[AW,Al,if_neg hdeq]at hd;exact hd
      obtain⟨p,hp,hpd⟩:=h4 d hd';exact⟨p,by simp[hp],hpd⟩
   ·rw[hS2]
    have hwS:(e.app (stX effs 0 (λj=>X.getD j false) st)).S=(stX effs 0 (λj=>X.getD j false) st).S:=by
     show AX _ e.wS=_
     rw[g4];rfl
    rw[hwS];refine B9 (hr'.weakH hle) λd v hv=>?_
    rw[CL]at hv;cases hdd:ops[q.1].dst with
    |none=>
     rw[hdd]at hv;simp only[AW]at hv⊢;rw[CL];rw[hT2]at hv;simp only[Eff.app,heo,hdd,AW]at hv;exact hv
    |some d'=>
     rw[hdd]at hv;simp only[AW,Al]at hv⊢;by_cases hdeq:d=d'
     ·simp only[if_pos hdeq]at hv⊢
      simpa using hv
     ·simp only[if_neg hdeq]at hv⊢
      rw[CL];rw[hT2]at hv;simp only[Eff.app,heo,hdd,AW,Al,if_neg hdeq]at hv;exact hv
  ·have hno:∀q∈hv,q.1≠i:=λq hq h=>hhv ⟨q,hq,h⟩
   obtain⟨hloc,hrs,hws,hdst⟩:=hli i e hno he;have hV:∀d,(∃q∈dn,q.2.1.dst=some d)->d∉e.rT/\e.o.dst≠some d:=λd ⟨q,hq,hqd⟩=>hdst q (by rw[h1];simp[hq]) d hqd
   have hl:=hloc m0 (V++(stX effs 0 (λj=>X.getD j false) st).T) ((stX effs 0 (λj=>X.getD j false) st).S++R) a w (λt ht=>by
    rw[CL];cases hVt:Ab V t with
    |none=>rw[Option.none_or];exact hrT t ht
    |some v=>exact absurd ht (hV t (h4 t (by rw[hVt];simp))).1) (λp hp=>by
    rw[List.getElem?_append_left (by rw[hSlen];exact hrs p hp)];exact hrS p hp) hr
   have hnew:∀a' w',Rel nt m0 (e.app ⟨V++(stX effs 0 (λj=>X.getD j false) st).T,(stX effs 0 (λj=>X.getD j false) st).S++R⟩) a' w' ->Rel nt m0 ⟨V++(stX effs 0 (λj=>(X.setIfInBounds i true).getD j false) st).T,(stX effs 0 (λj=>(X.setIfInBounds i true).getD j false) st).S++R⟩ a' w':=by
    intro a' w' hr';rw[hS2]
    have e1:(e.app ⟨V++(stX effs 0 (λj=>X.getD j false) st).T,(stX effs 0 (λj=>X.getD j false) st).S++R⟩).S=(e.app (stX effs 0 (λj=>X.getD j false) st)).S++R:=by
     show AX _ e.wS=AX _ e.wS++R
     exact OB λq hq=>by rw[hSlen];exact hws q hq
    rw[<-e1];refine B9 hr' λd v hv=>?_
    rw[CL,hT2]at hv;show Ab (AW (V++(stX effs 0 (λj=>X.getD j false) st).T) e.o.dst e.v) d=some v
    cases hdd:e.o.dst with
    |none=>
     simp only[Eff.app,hdd,AW]at hv⊢;rw[CL];exact hv
    |some d'=>
     simp only[Eff.app,hdd,AW,Al]at hv⊢;by_cases hdeq:d=d'
     ·subst hdeq
      cases hVt:Ab V d with
      |none=>rw[hVt]at hv;simpa using hv
      |some x=>exact absurd hdd (hV d (h4 d (by rw[hVt];simp))).2
     ·rw[if_neg hdeq]at hv⊢
      rw[CL];exact hv
   have nx:∀a' w',Rel nt m0 (e.app ⟨V++(stX effs 0 (λj=>X.getD j false) st).T,(stX effs 0 (λj=>X.getD j false) st).S++R⟩) a' w' ->wpAnyIn (FW ro) 0 P .any ops (λe a' w'=>∃st',Rel nt m0 st' a' w' /\Q e st') fuel (X.setIfInBounds i true) a' w':=λa' w' hr'=>
    next a' w' ⟨dn,hs,V,R,h1,λq hq=>by rw[hX',h2 q hq];rfl,λq hq=>by
     rw[hX',h3 q hq];simp[hno q (by rw[h1];simp[hq])],h4,h5,hnew a' w' hr'⟩
   unfold wpOpIn;simp only[ho];rw[heo]at hl;by_cases hw:Region.wanted ops[i] (yielded ops a.tmps)=true
   ·rw[if_pos hw]at hl⊢
    exact Fs hl nx
   ·rw[if_neg hw]at hl⊢
    exact⟨λ_ _=>trivial,nx _ _ hl⟩
theorem Wy(st:St)(X:Nat->Bool):stX [] 0 X st=st:=rfl
def P7(n:Nat)(effs:List Eff)(hv:List (Nat×Option Nat)):Bool:=(List.range effs.length).all λi=>(hv.any λq=>Nat.beq q.1 i)||match effs[i]? with
 |none=>true
 |some e=>e.rS.all (λp=>Nat.blt p n)&&e.wS.all (λq=>Nat.blt q.1 n)&&hv.all λq=>!OS q.2 e.rT&& !OE e.o.dst q.2
def LJ:List Nat->List Nat->Bool
 |[],_=>true
 |p::r,ms=>r.all (λq=>Nat.blt p q&&(ms.getD q 0).testBit p&&Nat.blt q ms.length)&&LJ r ms
theorem I7{ms:List Nat}:∀{hs:List Nat},LJ hs ms=true->hs.Pairwise λp q=>p<q/\∃m,ms[q]?=some m/\m.testBit p=true
 |[],_=>.nil
 |p::r,h=>by
  simp only[LJ,Bool.and_eq_true,List.all_eq_true,Nat.blt_eq]at h;refine .cons (λq hq=>?_) (I7 h.2);obtain⟨⟨h1,h2⟩,h3⟩:=h.1 q hq;refine⟨h1,ms[q],by simp[h3],?_⟩;simpa[Bp,AE h3]using h2
theorem OW{n:Nat}{effs:List Eff}{hv:List (Nat×Option Nat)}(h:P7 n effs hv=true){i:Nat}{e:Eff}(hi:∀q∈hv,q.1≠i)(he:effs[i]?=some e):(∀p∈e.rS,p<n)/\(∀q∈e.wS,q.1<n)/\∀q∈hv,∀d,q.2=some d->d∉e.rT/\e.o.dst≠some d:=by
 have h1:=List.all_eq_true.1 h i (List.mem_range.2 (List.getElem?_eq_some_iff.1 he).1)
 have h2:(hv.any λq=>Nat.beq q.1 i)=false:=by
  rw[List.any_eq_false];intro q hq h3;exact hi q hq (Nat.eq_of_beq_eq_true h3)
 rw[h2,he]at h1;simp only[Bool.false_or,Bool.and_eq_true,List.all_eq_true,Nat.blt_eq]at h1;refine⟨h1.1.1,h1.1.2,λq hq d hd=>?_⟩;obtain⟨h3,h4⟩:=h1.2 q hq;rw[hd]at h3 h4;refine⟨λhm=>?_,λe2=>?_⟩
 ·have:OS (some d) e.rT=true:=List.any_eq_true.2 ⟨d,hm,Nat.beq_refl d⟩
  rw[this]at h3;cases h3
 ·rw[e2]at h4
  have:OE (some d) (some d)=true:=by simp[OE]
  rw[this]at h4;cases h4
def RGoH(ro:Option Nat)(n:Nat)(P:Program)(nt:Nat)(l:List Oper)(Q:Exit->St->Prop)(R0:List AC)(rest:List Oper)(acc:List Eff)(hacc:List Hv)(st:St):Prop:=
 ∃effs hvr,effs.map (·.o)=rest/\
  (∀q∈hvr,∃k e,q.1=acc.length+k/\effs[k]?=some e/\e.o=q.2.1/\e.rT=q.2.2.1/\(stX effs 0 (λj=>decide (j<k)) st).T=q.2.2.2/\e.wS=[]/\e.o.guard=none)/\
  (∀k e,(∀q∈hvr,q.1≠acc.length+k)->effs[k]?=some e->JQ P nt l.toArray e (stX effs 0 (λj=>decide (j<k)) st))/\
  Ca (acc++effs) (BT l [])=true/\LJ ((hacc++hvr).map (·.1)) (BT l [])=true/\P7 n (acc++effs) ((hacc++hvr).map λq=>(q.1,q.2.1.dst))=true/\
  HC ro P nt Q (stX effs 0 (λ_=>true) st).T (stX effs 0 (λ_=>true) st).S (hacc++hvr) [] R0
section
variable {Q:Exit->St->Prop}{l rest:List Oper}{acc:List Eff}{hacc:List Hv}{st:St}{T:List (Nat×AV)}{S R0:List AC}{xs:List (Operand×AV)}{rS wS:List (Nat×AC)}{v:AV}{op:Op}{ty:TypeId}{pos:String}{after:Array Edge}{dst:Option Tmp}{n:Nat}
theorem Dc{id:Nat}(F0 R0:List AC)(hn:F0.length=n)(hm:P.follows .mixedOrders=true)(hdn:down l 0=true)(h:RGoH ro n P nt l Q R0 l [] [] ⟨T,F0⟩):AWP ro P nt (.region id l.toArray true) Q ⟨T,F0++R0⟩:=by
 obtain⟨effs,hv,h1,h2,h3,h4,h5,h6,h7⟩:=h;rw[BD]at h4 h5 h6 h7;intro m0 a w hrel;refine wpIn_region_any hm (Qg (m0:=m0) (st:=⟨T,F0⟩) (effs:=effs) (hv:=hv) (R0:=R0) (by simpa using h1) (by simpa using h4) (by simpa using hdn) (λq hq=>?_) (by simpa[List.pairwise_map]using I7 h5) (λi e hi he=>?_) _ _ a _ (by simp) ?_ ?_ ?_)
 ·obtain⟨k,e,g1,g2,g3,g4,g5,g6,g7⟩:=h2 q hq
  rw[List.length_nil,Nat.zero_add]at g1;subst g1;exact⟨e,g2,g3,g4,g5,g6,g7⟩
 ·have hl:=OW h6 (i:=i) (e:=e) (λq hq=>by
   obtain⟨p,hp,rfl⟩:=List.mem_map.1 hq;exact hi p hp) he
  refine⟨h3 i e (λq hq=>by rw[List.length_nil,Nat.zero_add];exact hi q hq) he,λp hp=>by rw[hn];exact hl.1 p hp,λq hq=>by rw[hn];exact hl.2.1 q hq,λq hq d hd=>hl.2.2 (q.1,q.2.1.dst) (List.mem_map.2 ⟨q,hq,rfl⟩) d hd⟩
 ·intro j o hj hX
  have:j<l.length:=(List.getElem?_eq_some_iff.1 hj).1;simp[this]at hX
 ·exact Nat.le_trans (List.length_filter_le _ _) (by simp)
 ·have:(λj=>(Array.replicate l.toArray.size false).getD j false)=λ_=>false:=by
   funext j
   simp only[Array.getD_eq_getD_getElem?,Array.getElem?_replicate];split<;>rfl
  refine⟨[],hv,[],R0,rfl,λq hq=>absurd hq (by simp),λq hq=>congrFun this q.1,λd hd=>absurd rfl hd,h7,?_⟩;rw[this,Dw];exact hrel.draw _
theorem RGoH.nil(hc:Ca acc (BT l [])=true)(h5:LJ (hacc.map (·.1)) (BT l [])=true)(h6:P7 n acc (hacc.map λq=>(q.1,q.2.1.dst))=true)(k:HC ro P nt Q st.T st.S hacc [] R0):RGoH ro n P nt l Q R0 [] acc hacc st:=
 ⟨[],[],rfl,λq hq=>(by cases hq),λk e _ he=>(by cases he),by simpa using hc,by simpa using h5,by simpa using h6,by rw[List.append_nil];exact k⟩
theorem RGoH.step_{o:Oper}{e:Eff}{st':St}(h:Run P nt l.toArray [o] st [e] st')(k:RGoH ro n P nt l Q R0 rest (acc++[e]) hacc st'):RGoH ro n P nt l Q R0 (o::rest) acc hacc st:=by
 obtain⟨h1,h2,h3⟩:=h.spec;obtain⟨effs,hvr,k1,k2,k3,k4,k5,k6,k7⟩:=k;have hst:st'=e.app st:=by rw[h1,Gm];rfl
 subst hst;simp only[List.map_cons,List.map_nil,List.cons.injEq,and_true]at h2;refine⟨e::effs,hvr,by simp[k1,h2],λq hq=>?_,λi e' hi he=>?_,by simpa using k4,k5,by simpa using k6,by rw[Gm];exact k7⟩
 ·obtain⟨i,e',g1,g2,g3,g4,g5,g6,g7⟩:=k2 q hq
  refine⟨i+1,e',by rw[g1,AL,List.length_singleton];omega,by simpa using g2,g3,g4,by rw[Eu];exact g5,g6,g7⟩
 ·cases i with
  |zero=>
   simp at he;subst he;have:=h3 0 e rfl;rw[GM]at this⊢;exact this
  |succ i=>
   rw[Eu];exact k3 i e' (λq hq=>by rw[AL,List.length_singleton];have:=hi q hq;omega) (by simpa using he)
theorem RGoH.go(k:RGoH ro n P nt l Q R0 rest (acc++[⟨⟨dst,op,ty,pos,after,none⟩,Au xs,rS.map (·.1),v,[]⟩]) hacc ⟨AW T dst v,S⟩)(h:Stp none P ⟨dst,op,ty,pos,after,none⟩ T S xs rS v []:=by exact EZ)(hd:AU dst nt=true:=by rfl):RGoH ro n P nt l Q R0 (⟨dst,op,ty,pos,after,none⟩::rest) acc hacc ⟨T,S⟩:=RGoH.step_ (Run.p h hd .nil) k
theorem RGoH.goS(k:RGoH ro n P nt l Q R0 rest (acc++[⟨⟨dst,op,ty,pos,after,none⟩,Au xs,rS.map (·.1),v,wS⟩]) hacc ⟨AW T dst v,AX S wS⟩)(h:Stp none P ⟨dst,op,ty,pos,after,none⟩ T S xs rS v wS:=by exact Hm)(hd:AU dst nt=true:=by rfl):RGoH ro n P nt l Q R0 (⟨dst,op,ty,pos,after,none⟩::rest) acc hacc ⟨T,S⟩:=RGoH.step_ (Run.s h hd .nil) k
theorem RGoH.skip(rT:List Nat)(k:RGoH ro n P nt l Q R0 rest (acc++[⟨⟨dst,op,ty,pos,after,none⟩,rT,[],.dead,[]⟩]) (hacc++[(acc.length,⟨dst,op,ty,pos,after,none⟩,rT,T)]) ⟨AW T dst .dead,S⟩):RGoH ro n P nt l Q R0 (⟨dst,op,ty,pos,after,none⟩::rest) acc hacc ⟨T,S⟩:=by
 obtain⟨effs,hvr,k1,k2,k3,k4,k5,k6,k7⟩:=k;refine⟨⟨⟨dst,op,ty,pos,after,none⟩,rT,[],.dead,[]⟩::effs,(acc.length,⟨dst,op,ty,pos,after,none⟩,rT,T)::hvr,by simp[k1],λq hq=>?_,λi e' hi he=>?_,by simpa using k4,by simpa using k5,by simpa using k6,by rw[Gm,List.append_cons];exact k7⟩
 ·rcases List.mem_cons.1 hq with rfl|hq
  ·exact⟨0,_,rfl,rfl,rfl,rfl,by rw[GM],rfl,rfl⟩
  ·obtain⟨i,e',g1,g2,g3,g4,g5,g6,g7⟩:=k2 q hq
   exact⟨i+1,e',by rw[g1,AL,List.length_singleton];omega,by simpa using g2,g3,g4,by rw[Eu];exact g5,g6,g7⟩
 ·cases i with
  |zero=>exact absurd rfl (hi (acc.length,⟨dst,op,ty,pos,after,none⟩,rT,T) (by simp))
  |succ i=>
   rw[Eu];exact k3 i e' (λq hq=>by rw[AL,List.length_singleton];have:=hi q (by simp[hq]);omega) (by simpa using he)
def RdH(rT:List Nat)(L:List (Nat×AV)):List (Nat×AV)->Prop
 |[]=>True
 |p::r=>rT.contains p.1=true/\Ab L p.1=some p.2/\RdH rT L r
theorem RdH.at{rT:List Nat}{L:List (Nat×AV)}:∀{xs:List (Nat×AV)},RdH rT L xs->∀d v,Ab xs d=some v->d∈rT/\Ab L d=some v
 |[],_,d,v,h=>by cases h
 |p::r,hx,d,v,h=>by
  obtain⟨h1,h2,h3⟩:=hx;rw[show p::r=(p.1,p.2)::r from rfl,Al]at h;split at h
  ·rename_i e
   subst e;injection h with h
   subst h;exact⟨by simpa using h1,h2⟩
  ·exact RdH.at h3 d v h
theorem HC.step{q:Hv}{hs:List Hv}{V Tf:List (Nat×AV)}{Ff R:List AC}(ys:List (Nat×AV))(hx:RdH q.2.2.1 (V++q.2.2.2) ys)(k:∀T F,AOps ro P nt #[] (λex st'=>ex= .normal/\∃u R',st'.LeH ⟨AW (ys++T) q.2.1.dst u,F++R'⟩/\HC ro P nt Q Tf Ff hs (AW V q.2.1.dst u) R') [q.2.1] ⟨ys++T,F++R⟩):HC ro P nt Q Tf Ff (q::hs) V R:=by
 intro T F hT m0 a w hr
 have hin:∀d v,Ab (ys++T) d=some v->Ab T d=some v:=λd v h=>by
  rw[CL]at h;cases hy:Ab ys d with
  |none=>rw[hy]at h;simpa using h
  |some x=>
   rw[hy]at h;have hxv:x=v:=by simpa using h
   subst hxv;obtain⟨h1,h2⟩:=hx.at d x hy;rw[hT d h1,h2]
 have hout:∀d v,Ab T d=some v->Ab (ys++T) d=some v:=λd v h=>by
  rw[CL];cases hy:Ab ys d with
  |none=>simpa using h
  |some x=>
   obtain⟨h1,h2⟩:=hx.at d x hy;rw[hT d h1,h2]at h;simpa using h
 have h1:=k T F m0 a w (B9 hr hin)
 have hcv:∀st':St,(∃u R',st'.LeH ⟨AW (ys++T) q.2.1.dst u,F++R'⟩/\HC ro P nt Q Tf Ff hs (AW V q.2.1.dst u) R')->∃u R',st'.LeH ⟨AW T q.2.1.dst u,F++R'⟩/\HC ro P nt Q Tf Ff hs (AW V q.2.1.dst u) R':=by
  rintro st' ⟨u,R',hle,hh⟩;refine⟨u,R',⟨λd v hd=>hle.T d v ?_,hle.S⟩,hh⟩;cases hdd:q.2.1.dst with
  |none=>rw[hdd]at hd;exact hout d v hd
  |some d'=>
   rw[hdd]at hd;simp only[AW,Al]at hd⊢;split
   ·rename_i e;rw[if_pos e]at hd;exact hd
   ·rename_i e;rw[if_neg e]at hd;exact hout d v hd
 have hK:∀a w,wpListIn (FW ro) 0 P #[] (λe a' w'=>∃st':St,Rel nt m0 st' a' w' /\e= .normal/\∃u R',st'.LeH ⟨AW (ys++T) q.2.1.dst u,F++R'⟩/\HC ro P nt Q Tf Ff hs (AW V q.2.1.dst u) R') [] a w->wpListIn (FW ro) 0 P #[] (λe a' w'=>∃st':St,Rel nt m0 st' a' w' /\e= .normal/\∃u R',st'.LeH ⟨AW T q.2.1.dst u,F++R'⟩/\HC ro P nt Q Tf Ff hs (AW V q.2.1.dst u) R') [] a w:=by
  rintro a w ⟨st',h2,h3,h4⟩;exact⟨st',h2,h3,hcv st' h4⟩
 unfold wpListIn at h1⊢;by_cases hw:Region.wanted q.2.1 (yielded #[] a.tmps)=true
 ·rw[if_pos hw]at h1⊢
  exact Qr hK (λex a' w' ⟨st',_,hx,_⟩=>hx) h1
 ·rw[if_neg hw]at h1⊢
  exact⟨h1.1,hK _ _ h1.2⟩
end
end
end
section
section
variable {P:Program}{nt:Nat}{T:List (Nat×AV)}{S:List AC}{ty t k e:TypeId}{pos:String}{after:Array Edge}{d:Nat}{c:Option (List Bool)}{g:Option (Nat×Bool)}{x y:Operand}{X Y p q:Nat}{gf:Int->Option Value}{s:Nat}{z0:Value}{K:AV->Value->Prop}{v:AV}
theorem OpT.lookP{n:Int}{u:Value}[TMap P t k e z0](hv:(gf n).getD z0=u)(hn: -9223372036854775808<=n/\n<=9223372036854775807)(hone:u.oneCell'=true)(hK:K v u):
  OpT P ⟨some d,.lookup t x y false,ty,pos,after,g⟩ [(x,.mp X),(y,.prim (.int .i64 n))] [(p,(X,.ob (MapF P k e gf s))),(q,(Y,.tv K))] v []:=by
 subst hv;intro nt m0 T S a w hx hS hd hr;have h1:=OpT.lookup1 (dst:=some d) (ty:=ty) (pos:=pos) (after:=after) (g:=g) (p:=p) (x:=x) (y:=y) (X:=X) (s:=s) (gf:=gf) (TMap.h (t:=t) (z0:=z0)) (TMap.hk (t:=t) (z0:=z0)) (TMap.hz (t:=t)) (TMap.h0 (P:=P) (t:=t)) hn hone nt m0 T S a w hx (λq' hq'=>hS q' (by simp only[BP]at hq';simp[hq'])) hd hr;refine Oper.wp_mono ?_ h1;rintro a' w' ⟨m,N,Z,rfl,h2,h3,h4⟩;have hq:S[q]?=some (Y,AO.tv K):=hS (q,(Y,AO.tv K)) (by simp);have h2':Z.map (·.1)=S:=h2;rw[<-h2',AG,Option.map_eq_some_iff]at hq;obtain⟨⟨z,bs⟩,hz,hze⟩:=hq;have hze:z=(Y,AO.tv K):=hze;subst hze;obtain⟨_,_,hO⟩:=h3.obj _ (Ao hz);refine⟨m,N,Z,rfl,h2,h3,h4.1,h4.2.1,λe v' he=>?_⟩;simp only[AW,Al]at he;split at he
 ·rename_i e';subst e'
  injection he with he;subst he
  obtain⟨u',h5,h6⟩:=h4.2.2 e (.prim ((gf n).getD z0)) (by simp only[AW,Al,if_true]);refine⟨u',h5,?_⟩;rw[h6.prim];exact hO _ _ hK
 ·rename_i e'
  exact h4.2.2 e v' (by simp only[AW,Al,if_neg e'];exact he)
theorem W.lookP{n:Int}{u:Value}(v:AV)[TMap P t k e z0](hv:(gf n).getD z0=u)(hn: -9223372036854775808<=n/\n<=9223372036854775807)(hone:u.oneCell'=true)(hK:K v u)(hx:Rd c T x (.mp X))(hy:Rd c T y (.prim (.int .i64 n)))(hSp:At S p (X,.ob (MapF P k e gf s)))(hSq:At S q (Y,.tv K)):
  Stp c P ⟨some d,.lookup t x y false,ty,pos,after,g⟩ T S [(x,.mp X),(y,.prim (.int .i64 n))] [(p,(X,.ob (MapF P k e gf s))),(q,(Y,.tv K))] v []:=
 ⟨.lookP hv hn hone hK,.cons hx (.cons hy .nil),.cons hSp (.cons hSq .nil)⟩
end
end
section
variable {ro:Option Nat}
section
variable {P:Program}{ty t t' te:TypeId}{pos:String}{after:Array Edge}{g:Option (Nat×Bool)}{dst:Option Tmp}{x y z:Operand}{l:List AV}{sz:Nat}{c:Option (List Bool)}{T:List (Nat×AV)}{S:List AC}{i j:Int}{k k2:IntKind}
end
theorem Vp{P:Program}{t:TypeId}(n:Nat)(h1:P.underlying t=some (.struct (P.fieldsOf t)))(h2:P.stoodInHeld t=false)(h:TD P t=true)(a b c d:Int)(w:World):(Op.equalIn (n+2) t (.agg #[.int .i64 a,.int .i64 b]) (.agg #[.int .i64 c,.int .i64 d])).run P w= .ok (decide (a=c)&&decide (b=d)) w:=by
 rw[run_equalIn_agg w (n+1) t _ _ h1 h2];unfold TD at h;split at h
 ·rename_i f1 f2 hf
  simp only[Bool.and_eq_true,bne_iff_ne,ne_eq,beq_iff_eq]at h;obtain⟨⟨⟨⟨n1,n2⟩,o1⟩,o2⟩,hu⟩:=h;split at hu
  ·rename_i k1 k2 u1 u2
   have p1:∀x y:Int,(part f1.type #[.int .i64 x,.int .i64 y] f1.offset).run P w= .ok (.int .i64 x) w:=λx y=>DK u1 (by rw[o1];rfl) w
   have p2:∀x y:Int,(part f2.type #[.int .i64 x,.int .i64 y] f2.offset).run P w= .ok (.int .i64 y) w:=λx y=>DK u2 (by rw[o2];rfl) w
   have q1:∀a c:Int,(Op.equalIn (n+1) f1.type (.int .i64 a) (.int .i64 c)).run P w= .ok (a==c) w:=λa c=>run_equalIn_int (P:=P) w n f1.type .i64 k1 a c u1
   have q2:∀a c:Int,(Op.equalIn (n+1) f2.type (.int .i64 a) (.int .i64 c)).run P w= .ok (a==c) w:=λa c=>run_equalIn_int (P:=P) w n f2.type .i64 k2 a c u2
   rw[hf];by_cases e1:a=c
   ·by_cases e2:b=d
    ·simp[Op.eqFields,n1,n2,Sem.run_bind,p1,p2,q1,q2,e1,e2,Sem.run_pure,Sem.run_ite,Result.andThen_ok]
    ·simp[Op.eqFields,n1,n2,Sem.run_bind,p1,p2,q1,q2,e1,e2,Sem.run_pure,Sem.run_ite,Result.andThen_ok]
   ·simp[Op.eqFields,n1,Sem.run_bind,p1,q1,e1,Sem.run_pure,Sem.run_ite,Result.andThen_ok]
  ·cases hu
 ·cases h
def ev3(P:Program)(t te:TypeId):Bool:=match(P.fieldsOf t).toList with
 |[f1,f2,f3]=>f1.name != "_" &&f2.name != "_" &&f3.name != "_" &&f1.offset==0&&f2.offset==1&&f3.offset==3&&Nat.beq f2.type te&&(match P.underlying f1.type,P.underlying f3.type with|some (.int _),some (.int _)=>true|_,_=>false)
 |_=>false
end
section
section
variable {ro:Option Nat}{P:Program}{nt:Nat}{c:Code}{Q:Exit->St->Prop}{T:List (Nat×AV)}{S:List AC}{ops:Array Oper}{rest:List Oper}{as bs:List AV}
end
end
theorem JA {A B:Prop} (k:B) (h:Hd B->A:=by (intro b;refine KK ?_;refine RT ?_;exact b.h)):A:=h ⟨k⟩
theorem JB {A B:Prop} (k:B) (h:Hd B->A:=by (intro b;refine FL ?_;refine RG ?_;exact b.h)):A:=h ⟨k⟩
theorem JC {A B:Prop} (k:B) (h:Hd B->A:=by (intro b;refine FL ?_;refine R1 ?_;exact b.h)):A:=h ⟨k⟩
theorem JD {A B:Prop} (k:B) (h:Hd B->A:=by (intro b;refine WO ?_;refine NL ?_;exact b.h)):A:=h ⟨k⟩
theorem JE {A B:Prop} (k:B) (h:Hd B->A:=by (intro b;refine RG ?_;refine WO ?_;exact b.h)):A:=h ⟨k⟩
theorem JF {A B:Prop} (k:B) (h:Hd B->A:=by (intro b;refine KO ?_;refine NL ?_;exact b.h)):A:=h ⟨k⟩
theorem JG {A B:Prop} (k:B) (h:Hd B->A:=by (intro b;refine RK ?_;refine RK ?_;exact b.h)):A:=h ⟨k⟩
theorem JH {A B:Prop} (k:B) (h:Hd B->A:=by (intro b;refine JB ?_;refine WO ?_;refine WO ?_;exact b.h)):A:=h ⟨k⟩
theorem JI {A B:Prop} (k:B) (h:Hd B->A:=by (intro b;refine JC ?_;refine RT ?_;exact b.h)):A:=h ⟨k⟩
theorem JJ {A B:Prop} (k:B) (h:Hd B->A:=by (intro b;refine JC ?_;refine FL ?_;exact b.h)):A:=h ⟨k⟩
theorem JK {A B:Prop} (k:B) (h:Hd B->A:=by (intro b;refine JB ?_;refine KO ?_;exact b.h)):A:=h ⟨k⟩
theorem JL {A B:Prop} (k:B) (h:Hd B->A:=by (intro b;refine RU ?_;refine KR ?_;exact b.h)):A:=h ⟨k⟩
theorem JM {A B:Prop} (k:B) (h:Hd B->A:=by (intro b;refine R1 ?_;refine FL ?_;exact b.h)):A:=h ⟨k⟩
theorem JN {A B:Prop} (k:B) (h:Hd B->A:=by (intro b;refine RG ?_;refine KO ?_;exact b.h)):A:=h ⟨k⟩
end Go.Proofs.YtiidbamlcgbpnaaGreat
