/-
  Part 3 of the texts under the law TopPackedWorld: the layer of abstract values, walks and plain laws. Conditions: those that each theorem names.
-/
import Derived.Laws.BytesString
import Derived.Laws.BitsAllLaws
import Derived.Lib.BytesEntry
import Derived.Laws.Externs
import Derived.Lib.SlBytesConst
import Derived.LaidEqlPtr
import Derived.Test.YtaodhkbppgenbaaTopPackedWorldP2
namespace Go.Proofs.Ytaodhkbppgenbaa
set_option linter.unusedVariables false
set_option linter.unusedSimpArgs false
set_option linter.defProp false
set_option maxRecDepth 10000
set_option maxHeartbeats 4000000
section
section
variable {P:Program}{dst:Option Tmp}{ty t ty2:TypeId}{pos:String}{after:Array Edge}{g:Option (Nat×Bool)}{T:List (Nat×AV)}{S:List AA}{c:Option (List Bool)}{x y:Operand}
theorem VCs.prims{m:Mem}:{us:List Value}->{c:List Value}->{bs:List Nat}->VCs m (us.map .prim) c bs->c=us/\bs=[]
 |[],_,_,⟨h,k⟩=>⟨h,k⟩
 |u::us,_,_,⟨c1,c2,b1,b2,e1,e2,⟨⟨h1,_⟩,h2⟩,h3⟩=>by
  obtain⟨r1,r2⟩:=VCs.prims h3;rw[e1,e2,h1,h2,r1,r2];exact⟨rfl,rfl⟩
theorem VV.aggP{m:Mem}{us:List Value}{l:List AV}{v:Value}(hl:l=us.map .prim)(h:VV m (.agg l) v []):v= .agg us.toArray:=by
 subst hl;obtain⟨cells,e,h⟩:=(show∃cells,v= .agg cells/\VCs m (us.map .prim) cells.toList []from h);rw[e]
 congr 1
 exact Array.toList_inj.1 (by simpa using h.prims.1)
theorem OpT.eqP{us vs:List Value}{l1 l2:List AV}{r:Bool}(h1:l1=us.map .prim)(h2:l2=vs.map .prim)(hg:P.eqGuardType P.depth t=false)(h:∀w,(binOp .eql t (.agg us.toArray) (.agg vs.toArray)).run P w= .ok (.bool r) w):OpT P ⟨dst,.binOp .eql t x y ty2,ty,pos,after,g⟩ [(x,.agg l1),(y,.agg l2)] [] (.prim (.bool r)) []:=
 .pure_ λm a hx _=>by
  have h1:=(hx (x,.agg l1) (by simp)).aggP h1;have h2:=(hx (y,.agg l2) (by simp)).aggP h2;refine⟨.bool r,?_,Au _ rfl⟩;simp only at h1 h2;simp[execOp,h1,h2,Sem.run_bind,Result.andThen_ok,run_eqGuard_agg _ _ _ _ _ _ _ hg,h]
theorem OpT.neP{us vs:List Value}{l1 l2:List AV}{r:Bool}(h1:l1=us.map .prim)(h2:l2=vs.map .prim)(hg:P.eqGuardType P.depth t=false)(h:∀w,(binOp .neq t (.agg us.toArray) (.agg vs.toArray)).run P w= .ok (.bool r) w):OpT P ⟨dst,.binOp .neq t x y ty2,ty,pos,after,g⟩ [(x,.agg l1),(y,.agg l2)] [] (.prim (.bool r)) []:=
 .pure_ λm a hx _=>by
  have h1:=(hx (x,.agg l1) (by simp)).aggP h1;have h2:=(hx (y,.agg l2) (by simp)).aggP h2;refine⟨.bool r,?_,Au _ rfl⟩;simp only at h1 h2;simp[execOp,h1,h2,Sem.run_bind,Result.andThen_ok,run_eqGuard_agg _ _ _ _ _ _ _ hg,h]
theorem W.eqP(us vs:List Value){l1 l2:List AV}{r:Bool}(hg:P.eqGuardType P.depth t=false)(h:∀w,(binOp .eql t (.agg us.toArray) (.agg vs.toArray)).run P w= .ok (.bool r) w)(hx:Rd c T x (.agg l1))(hy:Rd c T y (.agg l2))(h1:l1=us.map .prim:=by rfl)(h2:l2=vs.map .prim:=by rfl):
  Stp c P ⟨dst,.binOp .eql t x y ty2,ty,pos,after,g⟩ T S [(x,.agg l1),(y,.agg l2)] [] (.prim (.bool r)) []:=⟨.eqP h1 h2 hg h,.cons hx (.cons hy .nil),.nil⟩
theorem W.neP(us vs:List Value){l1 l2:List AV}{r:Bool}(hg:P.eqGuardType P.depth t=false)(h:∀w,(binOp .neq t (.agg us.toArray) (.agg vs.toArray)).run P w= .ok (.bool r) w)(hx:Rd c T x (.agg l1))(hy:Rd c T y (.agg l2))(h1:l1=us.map .prim:=by rfl)(h2:l2=vs.map .prim:=by rfl):
  Stp c P ⟨dst,.binOp .neq t x y ty2,ty,pos,after,g⟩ T S [(x,.agg l1),(y,.agg l2)] [] (.prim (.bool r)) []:=⟨.neP h1 h2 hg h,.cons hx (.cons hy .nil),.nil⟩
end
def NO(P:Program)(t:TypeId):Bool:=match(P.fieldsOf t).toList with
 |[f1,f2,f3]=>f1.name != "_" &&f2.name != "_" &&f3.name != "_" &&f1.offset==0&&f2.offset==1&&f3.offset==2&&(match P.underlying f1.type,P.underlying f2.type,P.underlying f3.type with|some .string,some (.int _),some (.int _)=>true|_,_,_=>false)
 |_=>false
theorem Er{P:Program}{t:TypeId}{k:IntKind}{xs:Array Value}{off:Nat}{v:Value}(ht:P.underlying t=some (.int k))(hx:xs[off]?=some v)(w:World):(part t xs off).run P w= .ok v w:=by
 simp[part,isAgg,run_underlying ht,hx,Sem.run_bind,Sem.run_pure,Result.andThen_ok]
theorem IL{P:Program}{t:TypeId}{xs:Array Value}{off:Nat}{v:Value}(ht:P.underlying t=some .string)(hx:xs[off]?=some v)(w:World):(part t xs off).run P w= .ok v w:=by
 simp[part,isAgg,run_underlying ht,hx,Sem.run_bind,Sem.run_pure,Result.andThen_ok]
theorem LN{P:Program}{t:TypeId}(h1:P.underlying t=some (.struct (P.fieldsOf t)))(h2:P.stoodInHeld t=false)(h:NO P t=true)(s s':ByteArray)(a b c d:Int)(w:World):
  (Op.equalIn 10000 t (.agg #[.string s,.int .i64 a,.int .i64 b]) (.agg #[.string s',.int .i64 c,.int .i64 d])).run P w= .ok (decide (s.toList=s'.toList)&&decide (a=c)&&decide (b=d)) w:=by
 rw[show(10000:Nat)=9999+1 from rfl,run_equalIn_agg w 9999 t _ _ h1 h2];unfold NO at h;split at h
 ·rename_i f1 f2 f3 hf
  simp only[Bool.and_eq_true,bne_iff_ne,ne_eq,beq_iff_eq]at h;obtain⟨⟨⟨⟨⟨⟨n1,n2⟩,n3⟩,o1⟩,o2⟩,o3⟩,hu⟩:=h;split at hu
  ·rename_i k2 k3 u1 u2 u3
   have p1:∀(x:ByteArray) (y z:Int),(part f1.type #[.string x,.int .i64 y,.int .i64 z] f1.offset).run P w= .ok (.string x) w:=λx y z=>IL u1 (by rw[o1];rfl) w
   have p2:∀(x:ByteArray) (y z:Int),(part f2.type #[.string x,.int .i64 y,.int .i64 z] f2.offset).run P w= .ok (.int .i64 y) w:=λx y z=>Er u2 (by rw[o2];rfl) w
   have p3:∀(x:ByteArray) (y z:Int),(part f3.type #[.string x,.int .i64 y,.int .i64 z] f3.offset).run P w= .ok (.int .i64 z) w:=λx y z=>Er u3 (by rw[o3];rfl) w
   have q1:∀x y:ByteArray,(Op.equalIn 9999 f1.type (.string x) (.string y)).run P w= .ok (x.toList==y.toList) w:=λx y=>run_equalIn_string (P:=P) w 9998 f1.type x y u1
   have q2:∀a c:Int,(Op.equalIn 9999 f2.type (.int .i64 a) (.int .i64 c)).run P w= .ok (a==c) w:=λa c=>run_equalIn_int (P:=P) w 9998 f2.type .i64 k2 a c u2
   have q3:∀a c:Int,(Op.equalIn 9999 f3.type (.int .i64 a) (.int .i64 c)).run P w= .ok (a==c) w:=λa c=>run_equalIn_int (P:=P) w 9998 f3.type .i64 k3 a c u3
   rw[hf];by_cases e1:s.toList=s'.toList
   ·by_cases e2:a=c
    ·by_cases e3:b=d
     ·simp[Op.eqFields,n1,n2,n3,Sem.run_bind,p1,p2,p3,q1,q2,q3,e1,e2,e3,Sem.run_pure,Sem.run_ite,Result.andThen_ok]
     ·simp[Op.eqFields,n1,n2,n3,Sem.run_bind,p1,p2,p3,q1,q2,q3,e1,e2,e3,Sem.run_pure,Sem.run_ite,Result.andThen_ok]
    ·simp[Op.eqFields,n1,n2,Sem.run_bind,p1,p2,q1,q2,e1,e2,Sem.run_pure,Sem.run_ite,Result.andThen_ok]
   ·simp[Op.eqFields,n1,Sem.run_bind,p1,q1,e1,Sem.run_pure,Sem.run_ite,Result.andThen_ok]
  ·cases hu
 ·cases h
def NI(P:Program)(t:TypeId):Bool:=match(P.fieldsOf t).toList with
 |[f1,f2]=>f1.name != "_" &&f2.name != "_" &&f1.offset==0&&f2.offset==1&&(match P.underlying f1.type,P.underlying f2.type with|some (.int _),some (.int _)=>true|_,_=>false)
 |_=>false
theorem DW{P:Program}{t:TypeId}{k:IntKind}{xs:Array Value}{off:Nat}{v:Value}(ht:P.underlying t=some (.int k))(hx:xs[off]?=some v)(w:World):(part t xs off).run P w= .ok v w:=by
 simp[part,isAgg,run_underlying ht,hx,Sem.run_bind,Sem.run_pure,Result.andThen_ok]
theorem MU{P:Program}{t:TypeId}(h1:P.underlying t=some (.struct (P.fieldsOf t)))(h2:P.stoodInHeld t=false)(h:NI P t=true)(a b c d:Int)(w:World):(binOp .eql t (.agg #[.int .i64 a,.int .i64 b]) (.agg #[.int .i64 c,.int .i64 d])).run P w= .ok (.bool (decide (a=c)&&decide (b=d))) w:=by
 rw[run_eql_struct,show(10000:Nat)=9999+1 from rfl,run_equalIn_agg w 9999 t _ _ h1 h2];unfold NI at h;split at h
 ·rename_i f1 f2 hf
  simp only[Bool.and_eq_true,bne_iff_ne,ne_eq,beq_iff_eq]at h;obtain⟨⟨⟨⟨n1,n2⟩,o1⟩,o2⟩,hu⟩:=h;split at hu
  ·rename_i k1 k2 u1 u2
   have p1:∀x y:Int,(part f1.type #[.int .i64 x,.int .i64 y] f1.offset).run P w= .ok (.int .i64 x) w:=λx y=>DW u1 (by rw[o1];rfl) w
   have p2:∀x y:Int,(part f2.type #[.int .i64 x,.int .i64 y] f2.offset).run P w= .ok (.int .i64 y) w:=λx y=>DW u2 (by rw[o2];rfl) w
   have q1:∀a c:Int,(Op.equalIn 9999 f1.type (.int .i64 a) (.int .i64 c)).run P w= .ok (a==c) w:=λa c=>run_equalIn_int (P:=P) w 9998 f1.type .i64 k1 a c u1
   have q2:∀a c:Int,(Op.equalIn 9999 f2.type (.int .i64 a) (.int .i64 c)).run P w= .ok (a==c) w:=λa c=>run_equalIn_int (P:=P) w 9998 f2.type .i64 k2 a c u2
   rw[hf];by_cases e1:a=c
   ·by_cases e2:b=d
    ·simp[Op.eqFields,n1,n2,Sem.run_bind,p1,p2,q1,q2,e1,e2,Sem.run_pure,Sem.run_ite,Result.andThen_ok]
    ·simp[Op.eqFields,n1,n2,Sem.run_bind,p1,p2,q1,q2,e1,e2,Sem.run_pure,Sem.run_ite,Result.andThen_ok]
   ·simp[Op.eqFields,n1,Sem.run_bind,p1,q1,e1,Sem.run_pure,Sem.run_ite,Result.andThen_ok]
  ·cases hu
 ·cases h
end
section
open Go.RowKit
section
variable {P:Program}{m0 m:Mem}{N X Y:Nat}{R:Zs}{ex:List Nat}{t te ty t2:TypeId}{sz by_:Nat}{l ls:List AV}{dst:Option Tmp}{pos:String}{after:Array Edge}{g:Option (Nat×Bool)}{x y z u:Operand}{p q:Nat}
theorem OpT.app_nil{t':TypeId}(T:IG P t=some (te,sz,by_))(hb:ls.length*by_<=140737488355328)(hm:ls.length<=maxLen):OpT P ⟨dst,.call ⟨.builtin .append,#[x,y],#[t,t]⟩,ty,pos,after,g⟩ [(x,.prim (.slice none 0 0)),(y,.lst false t' sz ls)] [(q,(Y,.gone))] (.sl Y 0 ls.length) [(q,(Y,.row te sz ls))]:=by
 intro nt m0 T' S a w hx hS hd hr;obtain⟨m1,N1,Z1,rfl,h2,h3,h4⟩:=hr;have h2':Z1.map (·.1)=S:=h2;have hxa:=(h4.ev (hx (x,.prim (.slice none 0 0)) (by simp))).prim;have hya:VV m1 (.lst false t' sz ls) (a.eval y) []:=h4.ev (hx (y,.lst false t' sz ls) (by simp));have hSq:=hS (q,(Y,.gone)) (by simp);rw[<-h2',List.getElem?_map]at hSq;cases hz:Z1[q]? with
 |none=>rw[hz]at hSq;cases hSq
 |some z=>
  rw[hz]at hSq;simp only[Option.map_some,Option.some.injEq]at hSq;obtain⟨z1,bsY⟩:=z;simp only at hSq;subst hSq;obtain⟨R,hp1,hp2⟩:=BF hz;obtain⟨m,hmw,G,hle0,hvn⟩:=Good.adopt (h3.perm hp1) te sz;have G':=G.perm (List.Perm.swap ..);have hya2:VV m (.lst false t' sz ls) (a.eval y) []:=hya.mono hle0 (by simp);have hvn':VV m (.sl N1 0 ([]:List AV).length) (.slice none 0 0) []:=hvn;obtain⟨xs,bs0,hown,hv,hwl,hbs⟩:=GJ (G'.obj ((N1,.row te sz []),[]) (by simp)) hvn';obtain⟨_,A,c,e1,hkc,hws,hrd⟩:=hya2;injection e1 with e1
  obtain⟨news,hnl,hnc,hnv⟩:∃news:List Value,news.length=ls.length*sz/\(0<ls.length->∃b off,A=some ⟨b,off,none⟩/\∀j u,news[j]?=some u->m.w.cell? ⟨b,off+j,none⟩=some u)/\VCs m ls news []:=by
   rcases Nat.eq_zero_or_pos ls.length with h0|h0
   ·have:ls=[]:=List.eq_nil_of_length_eq_zero h0
    subst this;exact⟨[],by simp,λh=>absurd h (by simp),VCs.nil⟩
   ·obtain⟨b,off,arr,tt,r,hA,hF,hb,hc⟩:=hrd h0
    refine⟨_,by rw[VCs.len _ hc,Aw hws],λ_=>⟨b,off,hA,λj u hj=>?_⟩,hc⟩;rw[List.getElem?_take]at hj;split at hj
    ·rw[List.getElem?_drop]at hj
     simp only[World.cell?,hb];simpa using hj
    ·cases hj
  obtain⟨v',w',hrun,hown',hg,hat⟩:=Cm T m.w ty hown hkc hnl hnc (VCs.ones _ hnv) (by simpa using hb) (by simpa using hm);obtain⟨m',bs',hw',G2,hle,hv'⟩:=Good.app G' hv hnv (λe he=>by rcases List.mem_append.1 he with h|h;exact hwl e h;exact hws e h) hbs hown' hg hat
  have hex:(execOp a.eval ⟨dst,.call ⟨.builtin .append,#[x,y],#[t,t]⟩,ty,pos,after,g⟩).run P m1.w= .ok (.value v') w':=by
   rw[An,<-hmw];simp only[builtin,List.map_toArray,List.map_cons,List.map_nil,e1,show a.eval x=_ from hxa,Sem.run_bind,hrun,Result.andThen_ok,Sem.run_pure]
  unfold Oper.wp;rw[hex];have G3:=G2.sub (List.sublist_cons_self _ _);simp only[List.length_nil,Nat.zero_add,List.nil_append]at G3 hv';refine⟨m',N1+1,_,hw',?_,G3.perm (hp2 _).symm,(h4.mono (hle0.trans hle)).put hd hv'⟩;rw[List.map_set,h2'];rfl
theorem St.frzRow{nt:Nat}{st:St}{l':List AV}(he:AV.frzs l=l')(hS:At st.S p (X,.row t sz l)):CS nt st λst'=>st'=⟨st.T,st.S.set p (X,.row t sz l')⟩:=by
 subst he;intro m0 a w hr;obtain⟨m,N,Z,rfl,h2,h3,h4⟩:=hr;obtain⟨bs,hz⟩:=hS.z h2;obtain⟨R,hp1,hp2⟩:=BF hz;have G:=h3.perm hp1;obtain⟨hU,L,hL,hLs,hO⟩:=G.obj _ (List.mem_cons_self ..);rcases hO with⟨h5,h6,h7⟩|⟨hnil,arr,bs',hbs,hb,harr,hlc,hcap,hw,hv⟩
 ·have h6':l=[]:=h6
  subst h6';refine⟨⟨st.T,st.S.set p (X,.row t sz (AV.frzs []))⟩,⟨m,N,Z,rfl,?_,h3,h4⟩,rfl⟩;show Z.map (·.1)=st.S.set p (X,.row t sz [])
  rw[Kn (by rw[<-h2,List.getElem?_map,hz];rfl)];exact h2
 ·have hbs':bs=L.blk::bs':=hbs
  subst hbs';have G1:Good m0 m N (((X,.gone),[])::R) ([]:List Nat)\/True:=.inr trivial;clear G1
  have hp:(Zs.own (((X,AO.row t sz l),L.blk::bs')::R)++[]).Perm (Zs.own (((X,AO.row t sz (AV.frzs l)),[L.blk])::R)++bs'):=by
   simp only[Ao,List.append_nil];rw[List.cons_append,List.singleton_append,List.cons_append];exact List.Perm.cons _ List.perm_append_comm
  have hnd:=hp.nodup_iff.1 G.own
  have hgb:L.blk∉bs':=by
   intro h;have h1:=List.nodup_append.1 hnd;exact h1.2.2 L.blk (by simp[Ao]) L.blk h rfl
  have hle:m.Le {m with F:=λb=>m.F b\/b∈bs'}:=⟨λ_ h=>h,λ_ _ _ h=>h,λb hb=>⟨.inl hb,rfl⟩⟩
  have hO':ORel {m with F:=λb=>m.F b\/b∈bs'} X (.row t sz (AV.frzs l)) [L.blk]:=
   ⟨hU,L,hL,hLs,.inr ⟨hnil,arr,[],rfl,hb,harr,by rw[Bh];exact hlc,hcap,λe he=>by
    rw[B3]at he;obtain⟨e',he',rfl⟩:=List.mem_map.1 he;rw[Bo];exact hw e' he',by rw[Bh];exact VCs.frz hle l (λb hb=>⟨.inr hb,rfl⟩) hv⟩⟩
  have hblk:∀b∈Zs.own (((X,AO.row t sz (AV.frzs l)),[L.blk])::R)++bs',b<m.w.heap.size/\¬m.F b:=λb hb=>G.blk b (hp.mem_iff.2 hb)
  have G2:Good m0 {m with F:=λb=>m.F b\/b∈bs'} N (((X,.row t sz (AV.frzs l)),[L.blk])::R) []:=by
   refine⟨λz hz'=>?_,?_,λb hb'=>?_,λb hb'=>?_,G.keys,G.keyN,G.usedN,G.le.trans hle,G.os,G.tape,G.output,G.size⟩
   ·rcases List.mem_cons.1 hz' with rfl|hz'
    ·exact hO'
    ·refine ORel.mono hle (λhg=>?_) (λL h=>h) (λb hb=>rfl) (G.obj z (List.mem_cons_of_mem _ hz'))
     have:=G.obj z (List.mem_cons_of_mem _ hz');rw[hg]at this;exact this.2
   ·rw[List.append_nil]
    exact(List.nodup_append.1 hnd).1
   ·rw[List.append_nil]at hb'
    obtain⟨k1,k2⟩:=hblk b (List.mem_append_left _ hb');refine⟨k1,?_⟩;rintro(h|h)
    ·exact k2 h
    ·exact(List.nodup_append.1 hnd).2.2 b hb' b h rfl
   ·rcases hb' with h|h
    ·exact G.frz b h
    ·exact(hblk b (List.mem_append_right _ h)).1
  refine⟨⟨st.T,st.S.set p (X,.row t sz (AV.frzs l))⟩,⟨{m with F:=λb=>m.F b\/b∈bs'},N,Z.set p ((X,.row t sz (AV.frzs l)),[L.blk]),rfl,?_,G2.perm (hp2 _).symm,h4.mono hle⟩,rfl⟩;rw[List.map_set];show(Z.map (·.1)).set p _=_
  rw[show Z.map (·.1)=st.S from h2]
end
end
section
open Go.RowKit
section
variable {P:Program}{ro:Option Nat}{nt:Nat}{ops:Array Oper}{Q:Exit->St->Prop}{rest:List Oper}{T:List (Nat×AV)}{S:List AA}{ty t te t2 t' ty2:TypeId}{pos:String}{after:Array Edge}{dst:Option Tmp}{c:Option (List Bool)}{g:Option (Nat×Bool)}{x y z u:Operand}{X Y p q sz by_:Nat}{l ls:List AV}{cd:Code}
theorem Gt[TRo P t te sz by_](hb:ls.length*by_<=140737488355328)(hm:ls.length<=maxLen)(hx:Rd c T x (.prim (.slice none 0 0)))(hy:Rd c T y (.lst false t' sz ls))(hSq:At S q (Y,.gone)):
  Stp c P ⟨dst,.call ⟨.builtin .append,#[x,y],#[t,t]⟩,ty,pos,after,g⟩ T S [(x,.prim (.slice none 0 0)),(y,.lst false t' sz ls)] [(q,(Y,.gone))] (.sl Y 0 ls.length) [(q,(Y,.row te sz ls))]:=
 ⟨.app_nil TRo.h hb hm,.cons hx (.cons hy .nil),.cons hSq .nil⟩
theorem AWP.frzRow(X:Nat)(l':List AV)(he:AV.frzs l=l')(k:AWP ro P nt cd Q ⟨T,S.set p (X,.row t sz l')⟩)(hS:At S p (X,.row t sz l):=by exact At.f):AWP ro P nt cd Q ⟨T,S⟩:=
 .ghost (St.frzRow (st:=⟨T,S⟩) he hS) λst' e=>by subst e;exact k
end
end
section
section
variable {ro:Option Nat}{P:Program}{nt:Nat}{ops:Array Oper}{Q:Exit->St->Prop}{rest:List Oper}{T:List (Nat×AV)}{S:List AA}{ty t te:TypeId}{sz:Nat}{x y:Operand}{pos:String}{after:Array Edge}{dst:Option Tmp}
end
end
section
theorem Bl{P:Program}{res:List ResultVar}{Sf:List AA}{st:St}{r:AV}{S1:List AA}(rs rs':List AV)(c:CVs st.S rs rs' S1)(e:HS rs'=r:=by rfl)(h:ResVs P st res rs:=by(repeat (first|exact .nil|refine .cons (.tmp (by rfl)) (by rfl) ?_|refine .cons (.cell (by rfl) (by exact At.f) TAg.h TSize.h (by exact rfl) (by exact rfl)) (by rfl) ?_)))(hS:Sf.Sublist S1:=by exact Sub.f):Ends P res Sf (λr' S'=>r'=r/\S'=[]) st:=⟨rs,rs',S1,[],h,c,hS,e,rfl⟩
theorem BL{P:Program}{res:List ResultVar}{Sf:List AA}{Q:AV->List AA->Prop}{st:St}(rs:List AV)(S':List AA)(e:Q (HS rs) S')(h:ResVs P st res rs:=by(repeat (first|exact .nil|refine .cons (.tmp (by rfl)) (by rfl) ?_|refine .cons (.cell (by rfl) (by exact At.f) TAg.h TSize.h (by exact rfl) (by exact rfl)) (by rfl) ?_)))(hS:(S'++Sf).Sublist st.S:=by exact Sub.f):Ends P res Sf Q st:=⟨rs,rs,st.S,S',h,Lj _ _,hS,e⟩
section
variable {P:Program}{dst:Option Tmp}{ty t ty2:TypeId}{pos:String}{after:Array Edge}{g:Option (Nat×Bool)}{T:List (Nat×AV)}{S:List AA}{c:Option (List Bool)}{x y:Operand}{i j:Int}
theorem La(k:Int)(h:i*j=k)(hr: -9223372036854775808<=k/\k<=9223372036854775807)(hx:Rd c T x (.prim (.int .i64 i)))(hy:Rd c T y (.prim (.int .i64 j))):Stp c P ⟨dst,.binOp .mul t x y ty2,ty,pos,after,g⟩ T S [(x,.prim (.int .i64 i)),(y,.prim (.int .i64 j))] [] (.prim (.int .i64 k)) []:=h▸W.mul hx hy (h▸hr)
theorem EB(a b:Nat)(k:Nat)(hi:i=(a:Int))(hj:j=(b:Int))(h0:0<b)(h:a/b=k)(hr:a<=9223372036854775807)(hx:Rd c T x (.prim (.int .i64 i)))(hy:Rd c T y (.prim (.int .i64 j))):Stp c P ⟨dst,.binOp .quo t x y ty2,ty,pos,after,g⟩ T S [(x,.prim (.int .i64 i)),(y,.prim (.int .i64 j))] [] (.prim (.int .i64 (k:Int))) []:=by
 have h1:IntKind.i64.wrap (i.tdiv j)=(k:Int):=by
  subst hi hj h;rw[<-Int.ofNat_tdiv];have:=Nat.div_le_self a b;generalize a/b=q at this⊢;exact Ba (by omega) (by omega)
 exact h1▸W.quoW hx hy (by omega)
end
end
section
abbrev uA(x:UInt64):AV:=.prim (.int .u64 ((x.toNat:Nat):Int))
section
variable {P:Program}{dst:Option Tmp}{ty t ty2:TypeId}{pos:String}{after:Array Edge}{g:Option (Nat×Bool)}{T:List (Nat×AV)}{S:List AA}{c:Option (List Bool)}{x y:Operand}{i j:Int}{k k':IntKind}{a b:UInt64}
theorem OpT.res{o:Oper}{xs:List (Operand×AV)}{rS wS:List (Nat×AA)}{r r':Int}(h:OpT P o xs rS (.prim (.int k r)) wS)(e:r=r'):OpT P o xs rS (.prim (.int k r')) wS:=e▸h
theorem Ds(a:UInt64):a.toNat<18446744073709551616:=a.toNat_lt
theorem CW{bop:BinOp}(hb:bop= .and\/bop= .or\/bop= .xor):OpT P ⟨dst,.binOp bop t x y ty2,ty,pos,after,g⟩ [(x,.prim (.int k i)),(y,.prim (.int k j))] [] (.prim (.int k (bits bop k i j))) []:=
 Am rfl (λw=>by
  rcases hb with rfl|rfl|rfl
  ·rw[binOp_and,intBits_and];rfl
  ·rw[binOp_or,intBits_or];rfl
  ·rw[binOp_xor,intBits_xor];rfl) (.inl (by rcases hb with rfl|rfl|rfl<;>exact⟨by simp,by simp⟩))
theorem Gu(hx:Rd c T x (uA a))(hy:Rd c T y (uA b)):Stp c P ⟨dst,.binOp .and t x y ty2,ty,pos,after,g⟩ T S [(x,uA a),(y,uA b)] [] (uA (a&&&b)) []:=by
 have h:=u64_and_nat a.toNat b.toNat (Ds a) (Ds b);rw[<-UInt64.toNat_and]at h;exact⟨.res (CW (.inl rfl)) h,.cons hx (.cons hy .nil),.nil⟩
theorem Ml(hx:Rd c T x (uA a))(hy:Rd c T y (uA b)):Stp c P ⟨dst,.binOp .or t x y ty2,ty,pos,after,g⟩ T S [(x,uA a),(y,uA b)] [] (uA (a|||b)) []:=by
 have h:=u64_or_nat a.toNat b.toNat (Ds a) (Ds b);rw[<-UInt64.toNat_or]at h;exact⟨.res (CW (.inr (.inl rfl))) h,.cons hx (.cons hy .nil),.nil⟩
theorem Ir(hx:Rd c T x (uA a))(hy:Rd c T y (uA b)):Stp c P ⟨dst,.binOp .xor t x y ty2,ty,pos,after,g⟩ T S [(x,uA a),(y,uA b)] [] (uA (a^^^b)) []:=by
 have h:=u64_xor_nat a.toNat b.toNat (Ds a) (Ds b);rw[<-UInt64.toNat_xor]at h;exact⟨.res (CW (.inr (.inr rfl))) h,.cons hx (.cons hy .nil),.nil⟩
theorem Fr(n:Int):IntKind.u64.wrap n=n%18446744073709551616:=IntKind.wrap_u64 n
theorem Lc(hx:Rd c T x (uA a))(hy:Rd c T y (uA b)):Stp c P ⟨dst,.binOp .add t x y ty2,ty,pos,after,g⟩ T S [(x,uA a),(y,uA b)] [] (uA (a+b)) []:=by
 have h:IntKind.u64.wrap ((a.toNat:Int)+b.toNat)=(((a+b).toNat:Nat):Int):=by
  rw[Fr,UInt64.toNat_add];omega
 exact⟨.res (CF) h,.cons hx (.cons hy .nil),.nil⟩
theorem It(hx:Rd c T x (uA a))(hy:Rd c T y (uA b)):Stp c P ⟨dst,.binOp .mul t x y ty2,ty,pos,after,g⟩ T S [(x,uA a),(y,uA b)] [] (uA (a*b)) []:=by
 have h:IntKind.u64.wrap ((a.toNat:Int)*b.toNat)=(((a*b).toNat:Nat):Int):=by
  rw[Fr,UInt64.toNat_mul,Int.natCast_emod,Int.natCast_mul];rfl
 exact⟨.res (CE) h,.cons hx (.cons hy .nil),.nil⟩
theorem LY(n:Nat)(hn:n<64)(hx:Rd c T x (uA a))(hy:Rd c T y (.prim (.int k' j)))(hj:j=(n:Int)):Stp c P ⟨dst,.binOp .shl t x y ty2,ty,pos,after,g⟩ T S [(x,uA a),(y,.prim (.int k' j))] [] (uA (a<<<UInt64.ofNat n)) []:=by
 have h:IntKind.u64.wrap ((a.toNat:Int)*2^n)=(((a<<<UInt64.ofNat n).toNat:Nat):Int):=by
  rw[Fr,UInt64.toNat_shiftLeft,UInt64.toNat_ofNat',show n%2^64%64=n by omega,Nat.shiftLeft_eq,Int.natCast_emod,Int.natCast_mul,Int.natCast_pow];rfl
 exact⟨.res (OpT.shl hj (by show n<=64;omega)) h,.cons hx (.cons hy .nil),.nil⟩
theorem Ce(n:Nat)(hn:n<64)(hx:Rd c T x (uA a))(hy:Rd c T y (.prim (.int k' j)))(hj:j=(n:Int)):Stp c P ⟨dst,.binOp .shr t x y ty2,ty,pos,after,g⟩ T S [(x,uA a),(y,.prim (.int k' j))] [] (uA (a>>>UInt64.ofNat n)) []:=by
 have h:(a.toNat:Int).fdiv (2^n)=(((a>>>UInt64.ofNat n).toNat:Nat):Int):=by
  rw[UInt64.toNat_shiftRight,UInt64.toNat_ofNat',show n%2^64%64=n by omega,Nat.shiftRight_eq_div_pow,Int.fdiv_eq_ediv_of_nonneg _ (Int.pow_nonneg (by decide)),Int.natCast_ediv,Int.natCast_pow];rfl
 exact⟨.res (OpT.shr hj (by show n<=64;omega)) h,.cons hx (.cons hy .nil),.nil⟩
theorem OpT.convW{t2:TypeId}{k0:IntKind}(h1:P.underlying t=some (.int k0))(h2:P.underlying t2=some (.int k')):OpT P ⟨dst,.convert t t2 x,ty,pos,after,g⟩ [(x,.prim (.int k i))] [] (.prim (.int k' (k'.wrap i))) []:=
 .pure_ λm a hx _=>by
  have e1:=(hx (x,.prim (.int k i)) (by simp)).prim;refine⟨.int k' (k'.wrap i),?_,Au _ rfl⟩;simp only at e1;simp[execOp,e1,convert,run_underlying h1,run_underlying h2,Conv.intToInt,Sem.run_bind,Sem.run_pure,Result.andThen_ok]
theorem W.convW{t2:TypeId}(k0 k':IntKind)(r:Int)(h1:P.underlying t=some (.int k0))(h2:P.underlying t2=some (.int k'))(hw:k'.wrap i=r)(hx:Rd c T x (.prim (.int k i))):Stp c P ⟨dst,.convert t t2 x,ty,pos,after,g⟩ T S [(x,.prim (.int k i))] [] (.prim (.int k' r)) []:=⟨.res (OpT.convW h1 h2) hw,.cons hx .nil,.nil⟩
theorem G6(i:Int):IntKind.u64.wrap i=(((UInt64.ofInt i).toNat:Nat):Int):=by
 rw[Fr];unfold UInt64.ofInt;rw[UInt64.toNat_ofNat'];omega
theorem Mk{t2:TypeId}(k0:IntKind)(h1:P.underlying t=some (.int k0))(h2:P.underlying t2=some (.int .u64))(hx:Rd c T x (.prim (.int k i))):Stp c P ⟨dst,.convert t t2 x,ty,pos,after,g⟩ T S [(x,.prim (.int k i))] [] (uA (UInt64.ofInt i)) []:=W.convW k0 .u64 _ h1 h2 (G6 i) hx
theorem Is{t2:TypeId}(k0:IntKind)(n:Nat)(hi:i=(n:Int))(hn:n<18446744073709551616)(h1:P.underlying t=some (.int k0))(h2:P.underlying t2=some (.int .u64))(hx:Rd c T x (.prim (.int k i))):Stp c P ⟨dst,.convert t t2 x,ty,pos,after,g⟩ T S [(x,.prim (.int k i))] [] (uA (UInt64.ofNat n)) []:=by
 refine W.convW k0 .u64 _ h1 h2 ?_ hx;rw[Fr,UInt64.toNat_ofNat',Nat.mod_eq_of_lt (by omega)];omega
theorem NG{t2:TypeId}(k0:IntKind)(hn:a.toNat<9223372036854775808)(h1:P.underlying t=some (.int k0))(h2:P.underlying t2=some (.int .i64))(hx:Rd c T x (uA a)):Stp c P ⟨dst,.convert t t2 x,ty,pos,after,g⟩ T S [(x,uA a)] [] (.prim (.int .i64 ((a.toNat:Nat):Int))) []:=
 W.convW k0 .i64 _ h1 h2 (Ba (by omega) (by omega)) hx
end
end
section
abbrev yA(x:UInt8):AV:=.prim (.int .u8 ((x.toNat:Nat):Int))
section
variable {P:Program}{dst:Option Tmp}{ty t ty2:TypeId}{pos:String}{after:Array Edge}{g:Option (Nat×Bool)}{T:List (Nat×AV)}{S:List AA}{c:Option (List Bool)}{x y:Operand}{i j:Int}{k k':IntKind}{a b:UInt8}{v:UInt64}
theorem HC(a:UInt8):a.toNat<256:=a.toNat_lt
theorem Mh(n:Int):IntKind.u8.wrap n=n%256:=IntKind.wrap_u8' n
theorem Lb(hx:Rd c T x (yA a))(hy:Rd c T y (yA b)):Stp c P ⟨dst,.binOp .and t x y ty2,ty,pos,after,g⟩ T S [(x,yA a),(y,yA b)] [] (yA (a&&&b)) []:=by
 have h:=u8_and_nat a.toNat b.toNat (HC a) (HC b);rw[<-UInt8.toNat_and]at h;exact⟨.res (CW (.inl rfl)) h,.cons hx (.cons hy .nil),.nil⟩
theorem JS(hx:Rd c T x (yA a))(hy:Rd c T y (yA b)):Stp c P ⟨dst,.binOp .or t x y ty2,ty,pos,after,g⟩ T S [(x,yA a),(y,yA b)] [] (yA (a|||b)) []:=by
 have h:=u8_or_nat a.toNat b.toNat (HC a) (HC b);rw[<-UInt8.toNat_or]at h;exact⟨.res (CW (.inr (.inl rfl))) h,.cons hx (.cons hy .nil),.nil⟩
theorem Gs(n:Nat)(hn:n<8)(hx:Rd c T x (yA a))(hy:Rd c T y (.prim (.int k' j)))(hj:j=(n:Int)):Stp c P ⟨dst,.binOp .shl t x y ty2,ty,pos,after,g⟩ T S [(x,yA a),(y,.prim (.int k' j))] [] (yA (a<<<UInt8.ofNat n)) []:=by
 have h:IntKind.u8.wrap ((a.toNat:Int)*2^n)=(((a<<<UInt8.ofNat n).toNat:Nat):Int):=by
  rw[Mh,UInt8.toNat_shiftLeft,UInt8.toNat_ofNat',show n%2^8%8=n by omega,Nat.shiftLeft_eq,Int.natCast_emod,Int.natCast_mul,Int.natCast_pow];rfl
 exact⟨.res (OpT.shl hj (by show n<=8;omega)) h,.cons hx (.cons hy .nil),.nil⟩
theorem LX(n:Nat)(hn:n<8)(hx:Rd c T x (yA a))(hy:Rd c T y (.prim (.int k' j)))(hj:j=(n:Int)):Stp c P ⟨dst,.binOp .shr t x y ty2,ty,pos,after,g⟩ T S [(x,yA a),(y,.prim (.int k' j))] [] (yA (a>>>UInt8.ofNat n)) []:=by
 have h:(a.toNat:Int).fdiv (2^n)=(((a>>>UInt8.ofNat n).toNat:Nat):Int):=by
  rw[UInt8.toNat_shiftRight,UInt8.toNat_ofNat',show n%2^8%8=n by omega,Nat.shiftRight_eq_div_pow,Int.fdiv_eq_ediv_of_nonneg _ (Int.pow_nonneg (by decide)),Int.natCast_ediv,Int.natCast_pow];rfl
 exact⟨.res (OpT.shr hj (by show n<=8;omega)) h,.cons hx (.cons hy .nil),.nil⟩
theorem Gr{t2:TypeId}(k0:IntKind)(h1:P.underlying t=some (.int k0))(h2:P.underlying t2=some (.int .u8))(hx:Rd c T x (uA v)):Stp c P ⟨dst,.convert t t2 x,ty,pos,after,g⟩ T S [(x,uA v)] [] (yA v.toUInt8) []:=by
 refine W.convW k0 .u8 _ h1 h2 ?_ hx;rw[Mh,UInt64.toNat_toUInt8];omega
theorem LV{t2:TypeId}(k0:IntKind)(h1:P.underlying t=some (.int k0))(h2:P.underlying t2=some (.int .u64))(hx:Rd c T x (yA a)):Stp c P ⟨dst,.convert t t2 x,ty,pos,after,g⟩ T S [(x,yA a)] [] (uA a.toUInt64) []:=by
 refine W.convW k0 .u64 _ h1 h2 ?_ hx;rw[Fr,UInt8.toNat_toUInt64];have:=HC a;omega
end
theorem ND(v:UInt64)(i:Nat)(h:i<64):(v>>>UInt64.ofNat i&&&1).toUInt8=(if v.toNat.testBit i then 1 else 0:UInt8):=by
 apply UInt8.toNat_inj.1;rw[UInt64.toNat_toUInt8,UInt64.toNat_and,UInt64.toNat_shiftRight,UInt64.toNat_ofNat',show i%2^64%64=i by omega];have h1:(1:UInt64).toNat=1:=rfl;rw[h1,Nat.and_one_is_mod]
 have h2:v.toNat.testBit i=decide (v.toNat>>>i%2=1):=by
  rw[Nat.testBit,Nat.and_comm,Nat.and_one_is_mod];rcases Nat.mod_two_eq_zero_or_one (v.toNat>>>i)with h|h<;>simp[h]
 rw[h2];rcases Nat.mod_two_eq_zero_or_one (v.toNat>>>i)with h|h<;>simp[h]
theorem MV(a:UInt8)(i:Nat)(h:i<8):(a>>>UInt8.ofNat i&&&1).toUInt64=(if a.toNat.testBit i then 1 else 0:UInt64):=by
 apply UInt64.toNat_inj.1;rw[UInt8.toNat_toUInt64,UInt8.toNat_and,UInt8.toNat_shiftRight,UInt8.toNat_ofNat',show i%2^8%8=i by omega];have h1:(1:UInt8).toNat=1:=rfl;rw[h1,Nat.and_one_is_mod]
 have h2:a.toNat.testBit i=decide (a.toNat>>>i%2=1):=by
  rw[Nat.testBit,Nat.and_comm,Nat.and_one_is_mod];rcases Nat.mod_two_eq_zero_or_one (a.toNat>>>i)with h|h<;>simp[h]
 rw[h2];rcases Nat.mod_two_eq_zero_or_one (a.toNat>>>i)with h|h<;>simp[h]
end
section
section
variable {P:Program}{dst:Option Tmp}{ty t ty2:TypeId}{pos:String}{after:Array Edge}{g:Option (Nat×Bool)}{T:List (Nat×AV)}{S:List AA}{c:Option (List Bool)}{x y:Operand}{i j:Int}{k:IntKind}
theorem DP(a b q:Nat)(hi:i=(a:Int))(hj:j=(b:Int))(h0:0<b)(h:a%b=q)(hx:Rd c T x (.prim (.int k i)))(hy:Rd c T y (.prim (.int k j))):Stp c P ⟨dst,.binOp .rem t x y ty2,ty,pos,after,g⟩ T S [(x,.prim (.int k i)),(y,.prim (.int k j))] [] (.prim (.int k (q:Int))) []:=by
 subst hi hj;have e:((a:Int)).tmod (b:Int)=(q:Int):=by rw[<-h];rfl
 exact e▸W.rem hx hy (by omega)
end
end
section
mutual
def AV.loose:AV->Bool
 |.prim _=>true
 |.dead=>true
 |.agg cs=>BC cs
 |.tup vs=>BC vs
 |.lst o _ _ l=>(o||l.isEmpty)&&BC l
 |.bx _ a=>AV.loose a
 |.fn _ cap=>BC cap
 |_=>false
def BC:List AV->Bool
 |[]=>true
 |a::as=>AV.loose a&&BC as
end
theorem IU{α:Type}{f:α->AV}(h:∀a,(f a).loose=true)(l:List α):BC (l.map f)=true:=by
 induction l with
 |nil=>rfl
 |cons a l ih=>rw[List.map_cons,BC,h a,ih];rfl
section
variable {m m':Mem}
mutual
theorem VC.loose(hw:m'.w=m.w):(a:AV)->{c:List Value}->{bs:List Nat}->a.loose=true->VC m a c bs->VC m' a c bs
 |.prim _,_,_,_,k=>k
 |.dead,_,_,_,k=>k
 |.agg cs,_,_,h,k=>VCs.loose hw cs h k
 |.tup cs,_,_,_,k=>k.elim
 |.opt _ _,_,_,_,k=>k.elim
 |.lst false t sz [],_,_,_,⟨e,A,cap,e1,e2,e3,k⟩=>⟨e,A,cap,e1,e2,e3,λh0=>absurd h0 (by simp)⟩
 |.lst false t sz (a::l),_,_,h,k=>by simp[AV.loose]at h
 |.lst true t sz l,_,_,_,.inl k=>.inl k
 |.lst true t sz l,_,_,h,.inr ⟨g,cap,arr,bs',e1,e2,e3,e4,e5,e6,e7,k⟩=>.inr ⟨g,cap,arr,bs',e1,e2,by rw[hw];exact e3,e4,e5,e6,e7,VCs.loose hw l (by simpa[AV.loose]using h) k⟩
 |.bx t a,_,_,h,⟨g,arr,bs',e1,e2,e3,e4,k⟩=>⟨g,arr,bs',e1,e2,by rw[hw];exact e3,e4,VC.loose hw a (by simpa[AV.loose]using h) k⟩
 |.sl x off len,_,_,h,k=>by simp[AV.loose]at h
 |.ptr x i j,_,_,h,k=>by simp[AV.loose]at h
 |.fp cs,_,_,h,k=>by simp[AV.loose]at h
 |.fn f cap,_,_,h,⟨vs,e,k⟩=>⟨vs,e,VCs.loose hw cap (by simpa[AV.loose]using h) k⟩
 |.mp x,_,_,h,k=>by simp[AV.loose]at h
theorem VCs.loose(hw:m'.w=m.w):(as:List AV)->{c:List Value}->{bs:List Nat}->BC as=true->VCs m as c bs->VCs m' as c bs
 |[],_,_,_,k=>k
 |a::as,_,_,h,⟨c1,c2,b1,b2,e1,e2,k1,k2⟩=>⟨c1,c2,b1,b2,e1,e2,VC.loose hw a (by simp[BC]at h;exact h.1) k1,VCs.loose hw as (by simp[BC]at h;exact h.2) k2⟩
end
theorem GG(hw:m'.w=m.w){a:AV}{v:Value}{bs:List Nat}(hn:ntup a=true)(h:a.loose=true)(k:VV m a v bs):VV m' a v bs:=by
 cases a
 case agg cs=>obtain⟨cells,e,k⟩:=k;exact⟨cells,e,VCs.loose hw cs h k⟩
 case tup cs=>cases hn
 case opt c b=>cases hn
 case dead=>exact k
 all_goals exact VC.loose hw _ h k
theorem VTs.loose(hw:m'.w=m.w):{as:List AV}->{vs:List Value}->{bs:List Nat}->BC as=true->VTs m as vs bs->VTs m' as vs bs
 |[],_,_,_,k=>k
 |a::as,_,_,h,k=>by
  have ha:=VTs.ntup k;simp only[BC,Bool.and_eq_true]at h;obtain⟨v,vs',b1,b2,e1,e2,k1,k2⟩:=(Av ha).1 k;exact(Av ha).2 ⟨v,vs',b1,b2,e1,e2,GG hw ha h.1 k1,VTs.loose hw h.2 k2⟩
theorem VV.loose(hw:m'.w=m.w){a:AV}{v:Value}{bs:List Nat}(h:a.loose=true)(k:VV m a v bs):VV m' a v bs:=by
 cases a
 case tup cs=>obtain⟨vs,e,k⟩:=k;exact⟨vs,e,VTs.loose hw h k⟩
 case opt c b=>simp[AV.loose]at h
 all_goals exact GG hw rfl h k
end
def Mem.lent(m:Mem)(Z:Zs):Mem:=⟨m.μ,m.U,m.w,λb=>m.F b\/b∈Z.own⟩
theorem Mem.le_lent(m:Mem)(Z:Zs):m.Le (m.lent Z):=⟨λ_ h=>h,λ_ _ _ h=>h,λb h=>⟨.inl h,rfl⟩⟩
theorem Spec.lendG{P:Program}{f:FuncId}{args args':List AV}{S:List AA}{Q:AV->List AA->Prop}(h:Spec P f args [] Q)(hQ:∀r S',Q r S' ->r.loose=true/\S'=[])
  (hv:∀(m:Mem) (Z:Zs) (Sf:List AA),(∀z∈Z,ORel m z.1.1 z.1.2 z.2)->Z.map (·.1)=S++Sf->∀us,VTs m args' us []->VTs (m.lent Z) args us []):
  Spec P f args' S λr S'=>Q r []/\S'=S:=
 ⟨h.fn,λSf m N Z vals h1 h2 h3=>by
  have G1:Good (m.lent Z) (m.lent Z) N [] []:=by
   refine⟨(λz hz=>by cases hz),by simp[Zs.own],(λb hb=>by simp[Zs.own]at hb),λb hb=>?_,by simp[Zs.keys],(λx hx=>by simp[Zs.keys]at hx),h2.usedN,.refl _,rfl,rfl,rfl,Nat.le_refl _⟩;rcases hb with hb|hb
   ·exact h2.frz b hb
   ·exact(h2.blk b (by simpa using hb)).1
  refine(h.run [] (m.lent Z) N [] vals rfl G1 (hv m Z Sf h2.obj h1 _ h3)).mono ?_;rintro e w' ⟨v,r,S',m2,N',Z',br,rfl,rfl,hm,G2,hr,hq⟩;obtain⟨hl,rfl⟩:=hQ r S' hq;have hZ:Z'=[]:=by simpa using hm
  subst hZ;have hF:∀b,m.F b\/b∈Z.own->m2.F b/\m2.w.heap[b]?=m.w.heap[b]?:=λb hb=>G2.le.F b hb
  have hbr:∀b∈br,b<m2.w.heap.size/\¬m2.F b:=λb hb=>G2.blk b (by simpa[Zs.own]using hb)
  refine⟨v,r,S,⟨m.μ,m.U,m2.w,m.F⟩,N,Z,br,rfl,rfl,h1,?_,VV.loose (m:=m2) (m':=⟨m.μ,m.U,m2.w,m.F⟩) rfl hl hr,hq,rfl⟩;have hle:m.Le ⟨m.μ,m.U,m2.w,m.F⟩:=⟨λ_ h=>h,λ_ _ _ h=>h,λb hb=>⟨hb,(hF b (.inl hb)).2⟩⟩;refine⟨λz hz=>?_,?_,λb hb=>?_,λb hb=>?_,h2.keys,h2.keyN,h2.usedN,hle,G2.os,G2.tape,G2.output,G2.size⟩
  ·refine ORel.mono hle (λe=>?_) (λL hL=>hL) (λb hb=>(hF b (.inr (List.mem_flatMap.2 ⟨z,hz,hb⟩))).2) (h2.obj z hz)
   have:=h2.obj z hz;rw[e]at this;exact this.2
  ·rw[List.nodup_append]
   refine⟨by simpa using h2.own,by simpa[Zs.own]using G2.own,λa ha b hb e=>?_⟩;subst e;exact(hbr a hb).2 (hF a (.inr ha)).1
  ·rcases List.mem_append.1 hb with hb|hb
   ·have:=h2.blk b (by simpa using hb)
    exact⟨Nat.lt_of_lt_of_le this.1 G2.size,this.2⟩
   ·exact⟨(hbr b hb).1,λhf=>(hbr b hb).2 (hF b (.inl hf)).1⟩
  ·exact Nat.lt_of_lt_of_le (h2.frz b hb) G2.size⟩
mutual
inductive Ld(S:List AA):AV->AV->Prop
 |frz {a:AV}:Ld S a a.frz
 |nil {t:TypeId} {sz:Nat}:Ld S (.prim (.slice none 0 0)) (.lst false t sz [])
 |agg {as bs:List AV} (h:Lds S as bs):Ld S (.agg as) (.agg bs)
 |lst {o:Bool} {t:TypeId} {sz:Nat} {l l':List AV} (h:Lds S l l'):Ld S (.lst o t sz l) (.lst false t sz l')
 |sl {X off n p:Nat} {t:TypeId} {sz:Nat} {l l':List AV} (h:At S p (X,.row t sz l)) (hn:off+n<=l.length) (k:Lds S ((l.drop off).take n) l'):Ld S (.sl X off n) (.lst false t sz l')
 |ptr {X p:Nat} {t:TypeId} {sz:Nat} {a b:AV} {cs:List AV} (h:At S p (X,.row t sz [a])) (k:Ld S a b) (e:b.cells=cs):Ld S (.ptr X 0 0) (.fp cs)
inductive Lds(S:List AA):List AV->List AV->Prop
 |nil:Lds S [] []
 |cons {a b:AV} {as bs:List AV} (h:Ld S a b) (k:Lds S as bs):Lds S (a::as) (b::bs)
end
theorem Lds.len{S:List AA}:∀{as bs:List AV},Lds S as bs->bs.length=as.length
 |[],_,h=>by cases h;rfl
 |a::as,_,h=>by cases h with|cons h k=>simp[Lds.len k]
mutual
theorem Ld.width{S:List AA}:∀{a b:AV},Ld S a b->b.width=a.width
 |_,_,.frz=>Bo _
 |_,_,.nil=>rfl
 |_,_,.agg h=>Lds.widths h
 |_,_,.lst _=>rfl
 |_,_,.sl _ _ _=>rfl
 |_,_,.ptr _ _ _=>rfl
theorem Lds.widths{S:List AA}:∀{as bs:List AV},Lds S as bs->AV.widths bs=AV.widths as
 |_,_,.nil=>rfl
 |_,_,.cons h k=>by simp only[AV.widths,Ld.width h,Lds.widths k]
end
theorem Lds.wsz{S:List AA}{sz:Nat}:∀{a b:List AV},Lds S a b->(∀e∈a,e.width=sz)->∀e∈b,e.width=sz
 |_,_,.nil,_,e,he=>by cases he
 |a::as,b::bs,.cons h k,hw,e,he=>by
  rcases List.mem_cons.1 he with rfl|he
  ·rw[Ld.width h];exact hw a (by simp)
  ·exact Lds.wsz k (λx hx=>hw x (by simp[hx])) e he
section
variable {m:Mem}{S Sf:List AA}{Z:Zs}
theorem JD(hO:∀z∈Z,ORel m z.1.1 z.1.2 z.2)(hm:Z.map (·.1)=S++Sf){p X:Nat}{t:TypeId}{sz:Nat}{l:List AV}(h:At S p (X,.row t sz l)):∃bs,ORel m X (.row t sz l) bs/\∀b∈bs,b∈Z.own:=by
 have hg:=h.get;obtain⟨hp,_⟩:=List.getElem?_eq_some_iff.1 hg;have h2:(Z.map (·.1))[p]?=some (X,.row t sz l):=by rw[hm,List.getElem?_append_left hp];exact hg
 rw[List.getElem?_map]at h2;cases hz:Z[p]? with
 |none=>rw[hz]at h2;cases h2
 |some z=>
  rw[hz]at h2;injection h2 with h2
  have hzm:=List.mem_of_getElem? hz;have:=hO z hzm;have h2:z.1=(X,AO.row t sz l):=h2;rw[h2]at this;exact⟨z.2,this,λb hb=>List.mem_flatMap.2 ⟨z,hzm,hb⟩⟩
mutual
theorem Ld.vc(hO:∀z∈Z,ORel m z.1.1 z.1.2 z.2)(hm:Z.map (·.1)=S++Sf):∀{a b:AV},Ld S a b->∀{c:List Value} {bs:List Nat},(∀x∈bs,x∈Z.own)->VC m a c bs->VC (m.lent Z) b c []
 |_,_,.frz,c,bs,hb,k=>VC.frz (m.le_lent Z) _ (λb hbb=>⟨.inr (hb b hbb),rfl⟩) k
 |_,_,.nil,c,bs,hb,k=>by
  obtain⟨⟨rfl,_⟩,_⟩:=k;exact⟨rfl,none,0,rfl,Nat.le_refl _,(λe he=>by cases he),λh=>absurd h (by simp)⟩
 |_,_,.agg h,c,bs,hb,k=>Lds.vcs hO hm h hb k
 |_,_,.lst (o:=false) (l':=l') h,c,bs,hb,⟨e,A,cap,e1,e2,e3,k⟩=>by
  refine⟨rfl,A,cap,by rw[h.len];exact e1,by rw[h.len];exact e2,h.wsz e3,λh0=>?_⟩;rw[h.len]at h0⊢;obtain⟨b,off,arr,t,r,q1,q2,q3,q4⟩:=k h0;exact⟨b,off,arr,t,r,q1,.inl q2,q3,Lds.vcs hO hm h (by simp) q4⟩
 |_,_,.lst (o:=true) h,c,bs,hb,.inl ⟨e1,e2,e3⟩=>by
  subst e2;cases h;exact⟨rfl,none,0,e1,Nat.le_refl _,(λe he=>by cases he),λh=>absurd h (by simp)⟩
 |_,_,.lst (o:=true) h,c,bs,hb,.inr ⟨g,cap,arr,bs',e1,e2,e3,e4,e5,e6,e7,k⟩=>by
  refine⟨rfl,some ⟨g,0,none⟩,cap,by rw[h.len];exact e1,by rw[h.len];exact e5,h.wsz e7,λh0=>?_⟩;rw[h.len];exact⟨g,0,arr,_,(0,0),rfl,.inr (hb g (by simp[e2])),e3,Lds.vcs hO hm h (λx hx=>hb x (by rw[e2];exact List.mem_cons_of_mem _ hx)) (by rw[List.drop_zero];exact k)⟩
 |_,_,.sl (off:=off) (n:=n) (l:=l) (l':=l') h hn hl,c,bs,hb,⟨_,hU,A,q,e1,hs⟩=>by
  obtain⟨bs2,hR,hb2⟩:=JD hO hm h;obtain⟨_,L,hL,hsz,hR⟩:=hR;have hfl:l'.length=n:=by rw[hl.len,List.length_take,List.length_drop];omega
  refine⟨rfl,A,q,by rw[hfl];exact e1,?_,?_,λh0=>?_⟩
  ·rcases hs L hL with⟨_,h2,_,h3⟩|⟨_,h2,o,h3,_⟩
   ·omega
   ·injection h3 with h4 h5 h6
    omega
  ·refine hl.wsz λe he=>?_
   rcases hR with⟨_,rfl,_⟩|⟨_,arr,bs',_,_,_,_,_,hw,_⟩
   ·simp at he
   ·exact hw e (List.mem_of_mem_drop (List.mem_of_mem_take he))
  ·rw[hfl]at h0⊢
   rcases hs L hL with⟨_,_,_,h3⟩|⟨h1,h2,o,h3,h4⟩
   ·omega
   ·rcases hR with⟨_,rfl,_⟩|⟨_,arr,bs',rfl,h6,h7,h8,h9,h10,h11⟩
    ·simp at hn;omega
    ·injection h3 with h12 h13 h14
     have ho:=h4 (.inl (by omega));obtain⟨p1,p2,e1,_,k1⟩:=VCs.take h10 h11 (k:=off) (by omega);obtain⟨p3,p4,e2,k2,_⟩:=VCs.take (l:=l.drop off) (λe he=>h10 e (List.mem_of_mem_drop he)) k1 (k:=n) (by rw[List.length_drop];omega);refine⟨L.blk,o,arr,_,(0,0),h12,.inr (hb2 _ (by simp)),h6,?_⟩
     have hc:(arr.toList.drop o).take (n*L.sz)=((arr.toList.take (l.length*L.sz)).drop (off*L.sz)).take (n*L.sz):=by
      rw[ho,List.drop_take,List.take_take,Nat.min_eq_left];rw[<-Nat.sub_mul];exact Nat.mul_le_mul_right _ (by omega)
     subst hsz;rw[hc];exact Lds.vcs hO hm hl (λx hx=>hb2 x (by simp[e1,e2,hx])) k2
 |_,_,.ptr (a:=a) (b:=b) h hl e,c,bs,hb,⟨_,hU,A,e1,hA⟩=>by
  subst e;obtain⟨bs2,hR,hb2⟩:=JD hO hm h;obtain⟨_,L,hL,hsz,hR⟩:=hR;have hA:=hA L hL;subst hA;rcases hR with⟨_,h5,_⟩|⟨_,arr,bs',rfl,h6,h7,h8,h9,h10,h11⟩
  ·cases h5
  ·have hw:=h10 a (by simp)
   have hv:VC m a (arr.toList.take a.width) bs':=by rw[hw];simpa using VCs.one.1 h11
   have hf:=VC.cells (Ld.vc hO hm hl (λx hx=>hb2 x (by simp[hx])) hv);refine⟨rfl,L.blk,0*L.sz+0,arr,_,(0,0),e1,.inr (hb2 _ (by simp)),h6,?_⟩
   have hl2:AV.widths b.cells=a.width:=by
    rw[<-VCs.len _ hf,List.length_take,Nat.min_eq_left];have:=VC.len _ hv;rw[List.length_take]at this;omega
   rw[hl2];simpa using hf
theorem Lds.vcs(hO:∀z∈Z,ORel m z.1.1 z.1.2 z.2)(hm:Z.map (·.1)=S++Sf):∀{as bs:List AV},Lds S as bs->∀{c:List Value} {bl:List Nat},(∀x∈bl,x∈Z.own)->VCs m as c bl->VCs (m.lent Z) bs c []
 |_,_,.nil,c,bl,hb,⟨e,_⟩=>⟨e,rfl⟩
 |_,_,.cons h k,c,bl,hb,⟨c1,c2,b1,b2,e1,e2,k1,k2⟩=>⟨c1,c2,[],[],e1,rfl,Ld.vc hO hm h (λx hx=>hb x (by simp[e2,hx])) k1,Lds.vcs hO hm k (λx hx=>hb x (by simp[e2,hx])) k2⟩
end
end
theorem Ld.tup{S:List AA}{a b:AV}(h:Ld S a b)(ha:ntup a=true):ntup b=true:=by
 cases h with
 |frz=>cases a<;>first|rfl|cases ha
 |_=>rfl
section
variable {m:Mem}{S Sf:List AA}{Z:Zs}
theorem Ld.vv(hO:∀z∈Z,ORel m z.1.1 z.1.2 z.2)(hm:Z.map (·.1)=S++Sf){a b:AV}(h:Ld S a b){u:Value}(k:VV m a u []):VV (m.lent Z) b u []:=by
 cases h with
 |frz=>exact VV.frz (m.le_lent Z) (by simp) k
 | @nil t sz=>exact Ld.vc hO hm (Ld.nil (S:=S) (t:=t) (sz:=sz)) (bs:=[]) (by simp) k
 |agg h=>obtain⟨cells,e,k⟩:=k;exact⟨cells,e,Lds.vcs hO hm h (by simp) k⟩
 |lst h=>exact Ld.vc hO hm (.lst h) (by simp) k
 |sl h hn hl=>exact Ld.vc hO hm (.sl h hn hl) (by simp) k
 |ptr h hl e=>exact Ld.vc hO hm (.ptr h hl e) (by simp) k
theorem Lds.vts(hO:∀z∈Z,ORel m z.1.1 z.1.2 z.2)(hm:Z.map (·.1)=S++Sf):∀{as bs:List AV},Lds S as bs->∀{us:List Value},VTs m as us []->VTs (m.lent Z) bs us []
 |_,_,.nil,us,k=>k
 |_,_,.cons h hk,us,k=>by
  have ha:=VTs.ntup k;obtain⟨v,vs',b1,b2,e1,e2,k1,k2⟩:=(Av ha).1 k;obtain⟨rfl,rfl⟩:b1=[]/\b2=[]:=by simpa using e2.symm
  exact(Av (h.tup ha)).2 ⟨v,vs',[],[],e1,rfl,h.vv hO hm k1,Lds.vts hO hm hk k2⟩
end
theorem Spec.lend{P:Program}{f:FuncId}{args args':List AV}{S:List AA}{Q:AV->List AA->Prop}(h:Spec P f args [] Q)(hQ:∀r S',Q r S' ->r.loose=true/\S'=[])(k:Lds S args' args):Spec P f args' S λr S'=>Q r []/\S'=S:=
 h.lendG hQ λm Z Sf hO hm us hu=>k.vts hO hm hu
theorem PS.lend{P:Program}{f:FuncId}{args args':List AV}{S:List AA}{r:AV}(h:PS P f args r)(hr:r.loose=true)(k:Lds S args' args):Spec P f args' S λr' S'=>r'=r/\S'=S:=
 (Spec.lend h (λr' S' ⟨e1,e2⟩=>⟨e1▸hr,e2⟩) k).mono λr' S' ⟨⟨e1,_⟩,e2⟩=>⟨e1,e2⟩
theorem Spec.lendE{P:Program}{f:FuncId}{args args':List AV}{S:List AA}{β:Type}{C:β->Prop}{rr:β->AV}(h:Spec P f args [] λr S'=>∃b,C b/\r=rr b/\S'=[])(hr:∀b,(rr b).loose=true)(k:Lds S args' args):Spec P f args' S λr S'=>∃b,C b/\r=rr b/\S'=S:=
 (Spec.lend h (λr' S' ⟨b,_,e1,e2⟩=>⟨e1▸hr b,e2⟩) k).mono λr' S' ⟨⟨b,hb,e1,_⟩,e2⟩=>⟨b,hb,e1,e2⟩
def Bw:Nat->List AA->List (Nat×AA)
 |_,[]=>[]
 |k,z::l=>(k,z)::Bw (k+1) l
theorem Cr:∀(k:Nat) (l:List AA),(Bw k l).map (·.2)=l
 |_,[]=>rfl
 |k,z::l=>by rw[Bw,List.map_cons,Cr]
theorem CQ:∀(k:Nat) (l:List AA),(Bw k l).map (·.1)=List.range' k l.length
 |_,[]=>rfl
 |k,z::l=>by rw[Bw,List.map_cons,CQ,List.length_cons,List.range'_succ]
theorem Ll:∀(A:List AA) (z:AA) (C:List AA),At (A++z::C) A.length z
 |[],z,C=>.here
 |a::A,z,C=>.next (Ll A z C)
theorem Dy:∀(A B C:List AA),Gets (A++(B++C)) (Bw A.length B)
 |A,[],C=>.nil
 |A,z::B,C=>.cons (Ll A z (B++C)) (by
   have:=Dy (A++[z]) B C;rw[List.length_append,List.append_assoc]at this;exact this)
theorem Hk{S:List AA}:∀{a b:List (Nat×AA)},Gets S a->Gets S b->Gets S (a++b)
 |[],b,_,k=>k
 |x::a,b,.cons h k,k2=>.cons h (Hk k k2)
theorem IK(S:List AA)(a b:List (Nat×AA)):AM S (a++b)=AM (AM S a) b:=by
 induction a generalizing S with
 |nil=>rfl
 |cons x a ih=>exact ih _
theorem Cl:∀(A B B' C:List AA),B'.length=B.length->AM (A++(B++C)) (Bw A.length B')=A++(B'++C)
 |A,[],[],C,_=>rfl
 |A,y::B,z::B',C,h=>by
  have:=Cl (A++[z]) B B' C (by simpa using h);rw[List.length_append,List.append_assoc,List.append_assoc]at this;rw[Bw,AM];have e:(A++(y::B++C)).set A.length z=A++([z]++(B++C)):=by rw[List.set_append_right _ _ (Nat.le_refl _),Nat.sub_self];rfl
  rw[e];exact this
theorem KC(s:List AA):(Ap s).length=s.length:=by simp[Ap]
section
variable {P:Program}{ro:Option Nat}{nt:Nat}{ops:Array Oper}{Q:Exit->St->Prop}{rest:List Oper}{T:List (Nat×AV)}{S:List AA}{ty:TypeId}{pos:String}{after:Array Edge}{dst:Option Tmp}{ats:Array TypeId}{f:FuncId}{xs:List (Operand×AV)}{args:List AV}
theorem AOps.lendE{β:Type}{C:β->Prop}{rr vv:β->AV}{nw:β->List AA}{gs:List AA}(h:Spec P f args [] λr S'=>∃b,C b/\r=rr b/\S'=[])(hr:∀b,(rr b).loose=true)(kL:Lds S (xs.map (·.2)) args)(hT:∀b,TR (rr b) (vv b) (nw b))(hgs:∀b,Ap (nw b)=gs)(hx:Evs T xs)(ht:AY xs=true)(hd:AD dst nt=true)
  (k:∀b,C b->AOps ro P nt ops Q rest ⟨AL T dst (vv b),nw b++S⟩):AOps ro P nt ops Q (⟨dst,.call ⟨.value (.func f),(xs.map (·.1)).toArray,ats⟩,ty,pos,after,none⟩::rest) ⟨T,gs++S⟩:=by
 have hs:=Spec.lendE h hr kL;have hl:∀b,(nw b).length=gs.length:=λb=>by rw[<-hgs b,KC]
 have hG:Gets (gs++S) (Bw gs.length S++Bw 0 gs):=Hk (by simpa using Dy gs S []) (by simpa using Dy [] gs S)
 have hnd:((Bw gs.length S++Bw 0 gs).map (·.1)).Nodup:=by
  rw[List.map_append,CQ,CQ,List.nodup_append];refine⟨List.nodup_range',List.nodup_range',λa ha b hb e=>?_⟩;rw[List.mem_range'_1]at ha hb;omega
 have hset:∀b,AM (gs++S) (Bw gs.length S++Bw 0 (nw b))=nw b++S:=λb=>by
  have e1:=Cl gs S S [] rfl;have e2:=Cl [] gs (nw b) S (hl b);simp only[List.append_nil,List.nil_append,List.length_nil]at e1 e2;rw[IK,e1,e2]
 have hkeys:∀b,((Bw gs.length S++Bw 0 (nw b)).map (·.1))=(Bw gs.length S++Bw 0 gs).map (·.1):=λb=>by
  rw[List.map_append,List.map_append,CQ,CQ,CQ,hl b]
 rintro m0 a w ⟨m,N,Z,rfl,h2,h3,h4⟩;refine wpListIn_plain rfl λK hK=>G8 (C:=C) (sE:=λb=>⟨AL T dst (vv b),AM (gs++S) (Bw gs.length S++Bw 0 (nw b))⟩) (by simp) (DS (λ_=>rfl) h.fn (DO (So:=λ_=>S) (rS:=Bw gs.length S++Bw 0 gs) (wE:=λb=>Bw gs.length S++Bw 0 (nw b)) hs hT hgs (by rw[List.map_append,Cr,Cr]) (λb=>by rw[List.map_append,Cr,Cr]) hkeys hnd hG.all (BH hd) h2 h3 h4 ?_)) λa' w' ⟨b,hb,hrel⟩=>hK _ _ (k b hb m0 _ _ (by rw[hset b]at hrel;exact hrel))
 have:=Cj (Bc ht) λq hq=>h4.ev (hx.all q hq)
 simpa[Function.comp_def]using this
end
section
variable {P:Program}{ro:Option Nat}{nt:Nat}{ops:Array Oper}{Q:Exit->St->Prop}{rest:List Oper}{T:List (Nat×AV)}{S:List AA}{ty:TypeId}{pos:String}{after:Array Edge}{dst:Option Tmp}{ats:Array TypeId}{f:FuncId}{r v:AV}{nw:List AA}
theorem Lo{x0:Operand}{v0 a0:AV}{x1:Operand}{v1 a1:AV}{x2:Operand}{v2 a2:AV}{β:Type}{C:β->Prop}{rr vv:β->AV}(h:Spec P f [a0,a1,a2] [] λr S'=>∃b,C b/\r=rr b/\S'=[])(l0:Ld S v0 a0)(l1:Ld S v1 a1)(l2:Ld S v2 a2)[hf:∀b,Frz (rr b) (vv b)](k:∀b,C b->AOps ro P nt ops Q rest ⟨AL T dst (vv b),S⟩)(hr:∀b,(rr b).loose=true:=by exact λ_=>rfl)(h0:Rd none T x0 v0:=by rfl)(h1:Rd none T x1 v1:=by rfl)(h2:Rd none T x2 v2:=by rfl)(ht:AY [(x0,v0),(x1,v1),(x2,v2)]=true:=by rfl)(hd:AD dst nt=true:=by rfl):AOps ro P nt ops Q (⟨dst,.call ⟨.value (.func f),#[x0,x1,x2],ats⟩,ty,pos,after,none⟩::rest) ⟨T,S⟩:=AOps.lendE (xs:=[(x0,v0),(x1,v1),(x2,v2)]) (gs:=[]) (nw:=λ_=>[]) h hr (.cons l0 (.cons l1 (.cons l2 .nil))) (λb=>.fz) (λ_=>rfl) (.cons h0 (.cons h1 (.cons h2 .nil))) ht hd k
end
theorem Lds.frzs{S:List AA}:∀l:List AV,Lds S l (AV.frzs l)
 |[]=>.nil
 |a::l=>.cons .frz (Lds.frzs l)
theorem Ld.fz{S:List AA}{a b:AV}[h:Frz a b]:Ld S a b:=h.h▸ .frz
theorem Lds.fz{S:List AA}{a b:List AV}[h:Frzs a b]:Lds S a b:=h.h▸ .frzs a
theorem Ld.row{S:List AA}{X n p:Nat}{t:TypeId}{sz:Nat}{l l':List AV}[hf:Frzs l l'](h:At S p (X,.row t sz l):=by exact At.f)(hn:n=l.length:=by rfl):Ld S (.sl X 0 n) (.lst false t sz l'):=
 .sl h (by omega) (by rw[List.drop_zero,hn,List.take_length];exact Lds.fz)
end
section
variable {ro:Option Nat}
section
variable {P:Program}{nt:Nat}{ops:Array Oper}{Q:Exit->St->Prop}{rest:List Oper}{T:List (Nat×AV)}{S:List AA}{f:FuncId}{x0 x1 x2:Operand}{v0 v1 v2 r v:AV}{dst:Option Tmp}{ats:Array TypeId}{ty:TypeId}{pos:String}{after:Array Edge}{p1 p2:Nat}{z1 z2:AA}{y1 y2:Nat->AA}{Sin Sout news:List AA}{rS wS:List (Nat×AA)}
theorem Ln(h:Spec P f [v0,v1,v2] [z1,z2] λr' S'=>∃b:Nat,r'=r/\S'=[y1 b,y2 b])[hf:Frz r v](k:∀b:Nat,AOps ro P nt ops Q rest ⟨AL T dst v,AM S [(p1,y1 b),(p2,y2 b)]⟩)
  (a1:At S p1 z1:=by exact At.f) (a2:At S p2 z2:=by exact At.f) (hnd:BI [p1,p2]=true:=by rfl) (h0:Rd none T x0 v0:=by rfl) (h1:Rd none T x1 v1:=by rfl) (h2:Rd none T x2 v2:=by rfl) (ht:AY [(x0,v0),(x1,v1),(x2,v2)]=true:=by rfl) (hd:AD dst nt=true:=by rfl):
  AOps ro P nt ops Q (⟨dst,.call ⟨.value (.func f),#[x0,x1,x2],ats⟩,ty,pos,after,none⟩::rest) ⟨T,S⟩:=
 Iu (xs:=[(x0,v0),(x1,v1),(x2,v2)]) (C:=λ_=>True) (rr:=λ_=>r) (vv:=λ_=>v) (So:=λb=>[y1 b,y2 b]) (nw:=λ_=>[]) (gs:=[]) (rS:=[(p1,z1),(p2,z2)]) (wE:=λb=>[(p1,y1 b),(p2,y2 b)])
  (h.mono λr' S' ⟨b,e1,e2⟩=>⟨b,trivial,e1,e2⟩) (λ_=>.fz) (λ_=>rfl) (λb=>.cons a1 (.cons a2 .nil)) (BP hnd) rfl (.cons a1 (.cons a2 .nil)) (.cons h0 (.cons h1 (.cons h2 .nil))) ht hd (λb _=>k b)
end
end
section
section
variable {P:Program}{dst:Option Tmp}{ty t ty2:TypeId}{pos:String}{after:Array Edge}{g:Option (Nat×Bool)}{T:List (Nat×AV)}{S:List AA}{c:Option (List Bool)}{x y:Operand}{a b:UInt64}
end
section
variable {P:Program}{ro:Option Nat}{nt:Nat}{ops:Array Oper}{Q:Exit->St->Prop}{rest:List Oper}{T:List (Nat×AV)}{S:List AA}{op:Op}{ty:TypeId}{pos:String}{after:Array Edge}{dst:Option Tmp}
end
end
section
variable {ro:Option Nat}
open Go.RowKit
section
variable {P:Program}{nt:Nat}{ops:Array Oper}{Q:Exit->St->Prop}{rest:List Oper}{T:List (Nat×AV)}{Si Sl Sf ob:List AA}{y:Value}{xs:List YO}{J:Nat->List AA->Prop}{Jx:List AA->Prop}{dst:Option Tmp}{ty:TypeId}{pos:String}{after:Array Edge}{x x0 x1:Operand}{v0 v1:AV}{ats:Array TypeId}{i:Nat}
end
end
section
variable {ro:Option Nat}
open Go.RowKit
section
variable {P:Program}{nt:Nat}{ops:Array Oper}{J:List AA->Prop}
section
variable {Q:Exit->St->Prop}{l rest:List Oper}{acc:List Eff}{st:St}{T:List (Nat×AV)}{S:List AA}{xs:List (Operand×AV)}{rS wS:List (Nat×AA)}{v:AV}{op:Op}{ty:TypeId}{pos:String}{after:Array Edge}{dst:Option Tmp}
end
end
end
section
variable {ro:Option Nat}
open Go.RowKit
section
variable {P:Program}{nt:Nat}{ops:Array Oper}
end
section
variable {P:Program}{nt:Nat}{ops:Array Oper}
section
variable {Q:Exit->St->Prop}{l rest:List Oper}{acc:List Eff}{st:St}{T:List (Nat×AV)}{S:List AA}{xs:List (Operand×AV)}{rS wS:List (Nat×AA)}{v:AV}{op:Op}{ty:TypeId}{pos:String}{after:Array Edge}{dst:Option Tmp}{f:FuncId}{ats:Array TypeId}
end
end
end
section
variable {ro:Option Nat}
section
variable {P:Program}{nt:Nat}{ops:Array Oper}{Q:Exit->St->Prop}{l rest:List Oper}{acc:List Eff}{T:List (Nat×AV)}{S:List AA}{f:FuncId}{x0 x1 x2 x3:Operand}{v0 v1 v2 v3 r v:AV}{xs:List (Operand×AV)}{dst:Option Tmp}{ats:Array TypeId}{ty:TypeId}{pos:String}{after:Array Edge}{p1 p2:Nat}{z1 z2:AA}{y1 y2:Nat->AA}
end
end
section
variable {ro:Option Nat}
section
variable {P:Program}{nt:Nat}{ops:Array Oper}{Q:Exit->St->Prop}{rest:List Oper}{T:List (Nat×AV)}{S:List AA}{ty ty2 t t2 te t':TypeId}{pos pos2:String}{after after2:Array Edge}{dst:Option Tmp}{ats:Array TypeId}{g:Option (Nat×Bool)}{x y:Operand}
end
end
section
variable {ro:Option Nat}
section
variable {P:Program}{nt:Nat}{ops:Array Oper}{Q:Exit->St->Prop}{rest:List Oper}{T:List (Nat×AV)}{S:List AA}{f:FuncId}{x0 x1 x2 x3:Operand}{v0 v1 v2 v3 r v:AV}{dst:Option Tmp}{ats:Array TypeId}{ty:TypeId}{pos:String}{after:Array Edge}{p1:Nat}{z1:AA}{y1:Nat->AA}
end
end
section
open Go.RowKit
variable {ro:Option Nat}
section
variable {P:Program}{nt:Nat}{ops:Array Oper}{Q:Exit->St->Prop}{rest:List Oper}{T:List (Nat×AV)}{S S':List AA}
end
section
variable {P:Program}{nt:Nat}{ops:Array Oper}{Q:Exit->St->Prop}{rest:List Oper}{T:List (Nat×AV)}{S:List AA}{p:Nat}{o:AO}
end
section
variable {P:Program}{nt:Nat}{ops:Array Oper}{Q:Exit->St->Prop}{rest:List Oper}{T:List (Nat×AV)}{S:List AA}{p:Nat}{t:TypeId}{sz:Nat}{l l':List AV}
end
theorem Spec.beside{P:Program}{f:FuncId}{args:List AV}{S:List AA}{Q:AV->List AA->Prop}(h:Spec P f args S Q)(R:List AA):Spec P f args (S++R) λr S'=>∃S1,S'=S1++R/\Q r S1:=
 ⟨h.fn,λSf m N Z vals hZ G hv=>by
  refine(h.run (R++Sf) m N Z vals (by rw[hZ,List.append_assoc]) G hv).mono ?_;rintro e w' ⟨v,r,S',m',N',Z',br,he,hw,hm,G',hvv,hQ⟩;exact⟨v,r,S'++R,m',N',Z',br,he,hw,by rw[hm,List.append_assoc],G',hvv,S',rfl,hQ⟩⟩
section
variable {P:Program}{dst:Option Tmp}{f:FuncId}{β:Type}{C:β->Prop}{rr vv:β->AV}{Sin:List AA}{So nw:β->List AA}{gs L R:List AA}{nt:Nat}{T:List (Nat×AV)}{S:List AA}
variable {ops:Array Oper}{Q:Exit->St->Prop}{rest:List Oper}{ats:Array TypeId}{ty:TypeId}{pos:String}{after:Array Edge}{xs:List (Operand×AV)}
end
section
variable {nt:Nat}{st:St}{d p q X Y:Nat}{u:Value}{v:AV}{K:AV->Value->Prop}{t:TypeId}{sz:Nat}{l:List AV}
end
section
variable {P:Program}{nt:Nat}{ops:Array Oper}{Q:Exit->St->Prop}{rest:List Oper}{T:List (Nat×AV)}{S:List AA}{d p q X Y:Nat}{u:Value}{v:AV}{K:AV->Value->Prop}{t:TypeId}{sz:Nat}{l:List AV}{c:Code}
end
section
variable {P:Program}{ty t ty2 te:TypeId}{pos:String}{after:Array Edge}{g:Option (Nat×Bool)}{dst:Option Tmp}{x y:Operand}{c:Option (List Bool)}{T:List (Nat×AV)}{S:List AA}
end
end
theorem Good.addUsed{m0 m:Mem}{N X:Nat}{Z:Zs}{br:List Nat}(G:Good m0 m N Z br)(hU:m.U X)(hk:X∉Z.keys):Good m0 m N (((X,.used),[])::Z) br:=by
 refine⟨λq hq=>?_,by simpa[Zs.own]using G.own,by simpa[Zs.own]using G.blk,G.frz,List.nodup_cons.2 ⟨hk,G.keys⟩,λx hx=>?_,G.usedN,G.le,G.os,G.tape,G.output,G.size⟩
 ·rcases List.mem_cons.1 hq with rfl|hq
  ·exact⟨rfl,hU⟩
  ·exact G.obj q hq
 ·rcases List.mem_cons.1 hx with rfl|hx
  ·exact G.usedN _ hU
  ·exact G.keyN x hx
theorem Spec.used2{P:Program}{f:FuncId}{args:List AV}{X Y:Nat}{t t2:TypeId}{sz sz2:Nat}{l l2:List AV}{r:AV}(h:Spec P f args [(X,.row t sz l),(Y,.row t2 sz2 l2)] λr' S'=>r'=r/\S'=[]):Spec P f args [(X,.row t sz l),(Y,.row t2 sz2 l2)] λr' S'=>r'=r/\S'=[(X,.used),(Y,.used)]:=
 ⟨h.fn,λSf m N Z vals h1 h2 h3=>(h.run Sf m N Z vals h1 h2 h3).mono λe w' ⟨v,r',S',m',N',Z',br,a,b,hm,G,e',hr,hS⟩=>by
  subst hS;simp only[List.nil_append]at hm;have hk:∀Z1:Zs,Z1.keys=(Z1.map (·.1)).map (·.1):=λZ1=>by simp[Zs.keys]
  have hkeys:=h2.keys;rw[hk,h1]at hkeys;simp only[List.cons_append,List.nil_append,List.map_cons,List.nodup_cons,List.mem_cons,not_or]at hkeys;obtain⟨⟨hXY,hX⟩,hY,_⟩:=hkeys
  have hUX:m.U X:=by
   have:(X,AO.row t sz l)∈Z.map (·.1):=by rw[h1];simp
   obtain⟨z,hz,e1⟩:=List.mem_map.1 this;have hO:=h2.obj z hz;rw[e1]at hO;exact hO.1
  have hUY:m.U Y:=by
   have:(Y,AO.row t2 sz2 l2)∈Z.map (·.1):=by rw[h1];simp
   obtain⟨z,hz,e1⟩:=List.mem_map.1 this;have hO:=h2.obj z hz;rw[e1]at hO;exact hO.1
  have nY:Y∉Z'.keys:=by rw[hk,hm];exact hY
  have G1:=G.addUsed (G.le.U Y hUY) nY
  have nX:X∉Zs.keys (((Y,AO.used),[])::Z'):=by
   rw[hk,List.map_cons,hm];simp only[List.map_cons,List.mem_cons,not_or];exact⟨hXY,hX⟩
  exact⟨v,r',[(X,.used),(Y,.used)],m',N',((X,.used),[])::((Y,.used),[])::Z',br,a,b,by simp[hm],G1.addUsed (G.le.U X hUX) nX,e',hr,rfl⟩⟩
end Go.Proofs.Ytaodhkbppgenbaa
