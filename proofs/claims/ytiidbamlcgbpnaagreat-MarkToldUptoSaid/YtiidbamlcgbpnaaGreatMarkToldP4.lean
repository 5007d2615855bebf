/-
  Part 4 of the texts under the law MarkTold: the layer of abstract values, walks and plain laws. Conditions: those that each theorem names.
-/
import Derived.DeepKeys4
import Derived.Maps.Range
import Derived.Test.YtiidbamlcgbpnaaGreatMarkToldP3
namespace Go.Proofs.YtiidbamlcgbpnaaGreat
set_option linter.unusedVariables false
set_option linter.unusedSimpArgs false
set_option linter.defProp false
set_option maxRecDepth 10000
set_option maxHeartbeats 4000000
section
section
variable {P:Program}{nt:Nat}{T:List (Nat×AV)}{S:List AB}{ty t k e:TypeId}{pos:String}{after:Array Edge}{d:Nat}{c:Option (List Bool)}{g:Option (Nat×Bool)}{x y:Operand}{X Y p q:Nat}{gf:Int->Option Value}{s:Nat}{z0:Value}{K:AV->Value->Prop}{v:AV}
theorem OpT.lookP{n:Int}{u:Value}[TMap P t k e z0](hv:(gf n).getD z0=u)(hn: -9223372036854775808<=n/\n<=9223372036854775807)(hone:u.oneCell'=true)(hK:K v u):
  OpT P ⟨some d,.lookup t x y false,ty,pos,after,g⟩ [(x,.mp X),(y,.prim (.int .i64 n))] [(p,(X,.ob (MapF P k e gf s))),(q,(Y,.tv K))] v []:=by
 subst hv;intro nt m0 T S a w hx hS hd hr;have h1:=OpT.lookup1 (dst:=some d) (ty:=ty) (pos:=pos) (after:=after) (g:=g) (p:=p) (x:=x) (y:=y) (X:=X) (s:=s) (gf:=gf) (TMap.h (t:=t) (z0:=z0)) (TMap.hk (t:=t) (z0:=z0)) (TMap.hz (t:=t)) (TMap.h0 (P:=P) (t:=t)) hn hone nt m0 T S a w hx (λq' hq'=>hS q' (by simp only[List.mem_singleton]at hq';simp[hq'])) hd hr;refine Oper.wp_mono ?_ h1;rintro a' w' ⟨m,N,Z,rfl,h2,h3,h4⟩;have hq:S[q]?=some (Y,AO.tv K):=hS (q,(Y,AO.tv K)) (by simp);have h2':Z.map (·.1)=S:=h2;rw[<-h2',List.getElem?_map,Option.map_eq_some_iff]at hq;obtain⟨⟨z,bs⟩,hz,hze⟩:=hq;have hze:z=(Y,AO.tv K):=hze;subst hze;obtain⟨_,_,hO⟩:=h3.obj _ (List.mem_of_getElem? hz);refine⟨m,N,Z,rfl,h2,h3,h4.1,h4.2.1,λe v' he=>?_⟩;simp only[AL,AT]at he;split at he
 ·rename_i e';subst e'
  injection he with he;subst he
  obtain⟨u',h5,h6⟩:=h4.2.2 e (.prim ((gf n).getD z0)) (by simp only[AL,AT,if_true]);refine⟨u',h5,?_⟩;rw[h6.prim];exact hO _ _ hK
 ·rename_i e'
  exact h4.2.2 e v' (by simp only[AL,AT,if_neg e'];exact he)
theorem W.lookP{n:Int}{u:Value}(v:AV)[TMap P t k e z0](hv:(gf n).getD z0=u)(hn: -9223372036854775808<=n/\n<=9223372036854775807)(hone:u.oneCell'=true)(hK:K v u)(hx:Rd c T x (.mp X))(hy:Rd c T y (.prim (.int .i64 n)))(hSp:At S p (X,.ob (MapF P k e gf s)))(hSq:At S q (Y,.tv K)):
  Stp c P ⟨some d,.lookup t x y false,ty,pos,after,g⟩ T S [(x,.mp X),(y,.prim (.int .i64 n))] [(p,(X,.ob (MapF P k e gf s))),(q,(Y,.tv K))] v []:=
 ⟨.lookP hv hn hone hK,.cons hx (.cons hy .nil),.cons hSp (.cons hSq .nil)⟩
end
end
section
theorem St.nilT{nt d:Nat}{st:St}{as bs:List AV}(t:TypeId)(sz:Nat)(hd:AP st.T d=some (.agg as))(hI:Ics (NilB t sz) as bs):Da nt st λst'=>st'=⟨(d,.agg bs)::st.T,st.S⟩:=by
 rintro m0 a w ⟨m,N,Z,rfl,h2,h3,h4⟩;refine⟨⟨(d,.agg bs)::st.T,st.S⟩,⟨m,N,Z,rfl,h2,h3,h4.1,h4.2.1,λe v' he=>?_⟩,rfl⟩;rw[AT]at he;split at he
 ·rename_i e';subst e'
  injection he with he;subst he
  obtain⟨u,h5,cells,h6,h7⟩:=h4.2.2 _ _ hd
  exact⟨u,h5,cells,h6,Ics.vcs (Mem.Le.refl m) (λa b h c bs k=>by
   cases h;obtain⟨⟨rfl,_⟩,rfl⟩:=k;exact⟨rfl,none,0,rfl,Nat.le_refl _,by simp,λh0=>by simp at h0⟩) rfl hI h7⟩
 ·exact h4.2.2 e v' he
section
variable {ro:Option Nat}{P:Program}{nt:Nat}{c:Code}{Q:Exit->St->Prop}{T:List (Nat×AV)}{S:List AB}{ops:Array Oper}{rest:List Oper}{as bs:List AV}
theorem AOps.nilT(d:Nat)(t:TypeId)(sz:Nat)(hI:Ics (NilB t sz) as bs)(k:AOps ro P nt ops Q rest ⟨(d,.agg bs)::T,S⟩)(hd:AP T d=some (.agg as):=by rfl):AOps ro P nt ops Q rest ⟨T,S⟩:=.ghost (St.nilT (st:=⟨T,S⟩) t sz hd hI) λst' e=>by subst e;exact k
end
end
section
open Go.RowKit Go.Maps Go.WideElems Go.WideMaps Go.ChangeMaps
structure KeyC(P:Program)(k:TypeId)(κ:Type)where
 val:κ->Value
 lit:κ->Lit
 ok:κ->Prop
 av:κ->AV
 keyed:Keyed P k
 of:∀x,ok x->keyOf P k (val x)=some (lit x)
 inj:∀x y,ok x->ok y->lit x=lit y->x=y
 vav:∀(m:Mem) x v,VV m (av x) v []->v=val x
 avv:∀(m:Mem) x,VV m (av x) (val x) []
 nt:∀x,ntup (av x)=true
theorem IB(us:List Value)(m:Mem)(hu:∀u∈us,u.oneCell'=true):VV m (.agg (us.map .prim)) (.agg us.toArray) []:=⟨us.toArray,rfl,EL m us hu⟩
theorem Fl{P:Program}{k e:TypeId}{n:Nat}(hk:P.underlying k=some (.array 2 e))(he:P.underlying e=some (.int .i64))(hc:P.cellsOf k=2)(hce:P.cellsOf e=1)(hkt:P.keyType k=true)(hn:P.types.size=n+1){a b:Int}(ha:(Lit.int .i64 a).wf=true)(hb:(Lit.int .i64 b).wf=true):keyOf P k (.agg #[.int .i64 a,.int .i64 b])=some (.string (keyBytes [.int .i64 a,.int .i64 b])):=by
 have h1:∀x:Int,(Lit.int .i64 x).wf=true->P.keyLits (n+1) e [.int .i64 x]=some [.int .i64 x]:=λx hx=>by
  simp[Program.keyLits,he,hx]
 have h2:P.keyLits (n+1+1) k [.int .i64 a,.int .i64 b]=some [.int .i64 a,.int .i64 b]:=by
  have e1:List.range 2=[0,1]:=rfl;unfold Program.keyLits;simp[hk,hc,hce,e1,h1 a ha,h1 b hb]
 unfold keyOf;rw[hk];simp[hkt,Value.formed,hk,hc,hn,Value.cells,h2]
noncomputable def Sa (P:Program) (k e:TypeId) (n:Nat) (hk:P.underlying k=some (.array 2 e)) (he:P.underlying e=some (.int .i64)) (hc:P.cellsOf k=2) (hce:P.cellsOf e=1) (hkt:P.keyType k=true) (hn:P.types.size=n+1) (K:Keyed P k):KeyC P k (Int×Int)where
 val x:=.agg #[.int .i64 x.1,.int .i64 x.2]
 lit x:=.string (keyBytes [.int .i64 x.1,.int .i64 x.2])
 ok x:=(-9223372036854775808<=x.1/\x.1<=9223372036854775807)/\(-9223372036854775808<=x.2/\x.2<=9223372036854775807)
 av x:=.agg [.prim (.int .i64 x.1),.prim (.int .i64 x.2)]
 keyed:=K
 of x h:=Fl hk he hc hce hkt hn (CQ h.1) (CQ h.2)
 inj x y hx hy e:=by
  have h1:=Fl hk he hc hce hkt hn (CQ hx.1) (CQ hx.2);have h2:=Fl hk he hc hce hkt hn (CQ hy.1) (CQ hy.2);rw[e]at h1;have h3:=K.inj h1 h2;simp only[Value.agg.injEq,Array.mk.injEq,List.cons.injEq,Value.int.injEq,true_and,and_true]at h3;exact Prod.ext h3.1 h3.2
 vav m x v h:=VV.aggP (us:=[.int .i64 x.1,.int .i64 x.2]) rfl h
 avv m x:=IB [.int .i64 x.1,.int .i64 x.2] m (by intro u hu;simp only[List.mem_cons,List.not_mem_nil,or_false]at hu;rcases hu with rfl|rfl<;>rfl)
 nt x:=rfl
section
variable {P:Program}{k e:TypeId}{κ:Type}
def MapK(C:KeyC P k κ)(e:TypeId)(g:κ->Option Value)(s:Nat)(D:DataW Unit):Prop:=
 s=Maps.size D/\(∀x,C.ok x->Maps.has D (C.lit x)=(g x).isSome/\∀v,g x=some v->PlainV P e v/\∀z,D.atKey (C.lit x) z= .lit (Gg v))/\∀l,Maps.has D l=true->∃x,C.ok x/\l=C.lit x
def MapKF(C:KeyC P k κ)(e:TypeId)(g:κ->Option Value)(s:Nat)(o:Obj):Prop:=
 ∃es clock D,o= .map es clock/\Fit P k (CX P e) es clock/\es.size<=s/\D= .map ((es.toList.map (rg P k (CX P e))).foldr DataW.insert [])/\MapK C e g s D
variable {C:KeyC P k κ}{g:κ->Option Value}{s b:Nat}{o:Obj}{w:World}{D:DataW Unit}
theorem MapKF.own(h:MapKF C e g s o)(hb:w.heap[b]?=some o):∃D,w.ownsMap P k (CX P e) b s D/\MapK C e g s D:=by
 obtain⟨es,clock,D,rfl,h1,h2,h3,h4⟩:=h;exact⟨D,⟨es,clock,hb,h1,h2,h3⟩,h4⟩
theorem MapK.of{n:Nat}(h:w.ownsMap P k (CX P e) b n D)(hc:MapK C e g s D):∃o,w.heap[b]?=some o/\MapKF C e g s o:=by
 obtain⟨es,clock,hb,h1,h2,h3⟩:=h;refine⟨_,hb,es,clock,D,rfl,h1,?_,h3,hc⟩;rw[hc.1,h3];have e1:Maps.size (DataW.map ((es.toList.map (rg P k (CX P e))).foldr DataW.insert []))=es.size:=by simp[Maps.size,length_sorted]
 rw[e1];exact Nat.le_refl _
def JD[DecidableEq κ](g:κ->Option Value)(x:κ)(v:Value):κ->Option Value:=λy=>if y=x then some v else g y
theorem MapK.put[DecidableEq κ](hT:Maps.Tidy D)(h:MapK C e g s D){x:κ}{v:Value}(hw:C.ok x)(hv:PlainV P e v):
  MapK C e (JD g x v) (if(g x).isSome then s else s+1) (D.put (C.lit x) (.lit (Gg v))):=by
 have hk:=C.keyed.key (C.of x hw);obtain⟨h1,h2,h3⟩:=h;refine⟨?_,λy hy=>?_,λl hl=>?_⟩
 ·rw[size_put hT,(h2 x hw).1,h1]
 ·by_cases e:y=x
  ·subst e
   refine⟨by rw[has_put_same hT.isMap hk];simp[JD],λu hu=>?_⟩;simp only[JD,if_true,Option.some.injEq]at hu;subst hu;exact⟨hv,λz=>atKey_put_same hT.isMap hk _ _⟩
  ·have hne:C.lit y≠C.lit x:=λe2=>e (C.inj y x hy hw e2)
   refine⟨by rw[has_put_other hne,(h2 y hy).1];simp[JD,e],λu hu=>?_⟩;simp only[JD,if_neg e]at hu;exact⟨((h2 y hy).2 u hu).1,λz=>by rw[atKey_put_other hne];exact((h2 y hy).2 u hu).2 z⟩
 ·by_cases e:l=C.lit x
  ·exact⟨x,hw,e⟩
  ·rw[has_put_other e]at hl
   exact h3 l hl
end
section
variable {P:Program}{m0 m:Mem}{N X:Nat}{R:Zs}{ex:List Nat}{o:Oper}{v:AV}{x y z:Operand}{ty ty2 t k e:TypeId}{pos:String}{after:Array Edge}{g:Option (Nat×Bool)}{dst:Option Tmp}{p:Nat}{κ:Type}{C:KeyC P k κ}{gf:κ->Option Value}{s:Nat}
theorem Pd(w:World)(C:KeyC P k κ)(e:TypeId):MapKF C e (λ_=>none) 0 (.map #[] 0):=by
 obtain⟨es,clock,hb,h1,h2,h3⟩:=World.ownsMap_made (H:=Unit) w P k (CX P e);rw[heap_alloc_new]at hb;obtain⟨rfl,rfl⟩:=Obj.map.inj (Option.some.inj hb);exact⟨#[],0,_,rfl,h1,h2,h3,rfl,λx _=>⟨rfl,λv hv=>by cases hv⟩,λl hl=>by cases hl⟩
theorem Kp(C:KeyC P k κ)(ht:P.underlying t=some (.map k e)):OpT P ⟨dst,.makeMap t none,ty,pos,after,g⟩ [] [(p,(X,.gone))] (.mp X) [(p,(X,.ob (MapKF C e (λ_=>none) 0)))]:=by
 intro nt m0 T S a w hx hS hd hr;obtain⟨m,N,Z,rfl,h2,h3,h4⟩:=hr;have h2':Z.map (·.1)=S:=h2;have hSp:=hS (p,(X,.gone)) (by simp);rw[<-h2',List.getElem?_map]at hSp;cases hz:Z[p]? with
 |none=>rw[hz]at hSp;cases hSp
 |some z=>
  rw[hz]at hSp;simp only[Option.map_some,Option.some.injEq]at hSp;obtain⟨z1,z2⟩:=z;simp only at hSp;subst hSp;obtain⟨R,hp1,hp2⟩:=BJ hz;obtain⟨G',hle⟩:=GY (h3.perm hp1) (.map #[] 0) (Pd m.w C e) _ rfl;unfold Oper.wp
  have h5:(execOp a.eval ⟨dst,.makeMap t none,ty,pos,after,g⟩).run P m.w= .ok (.value (.map (some m.w.heap.size))) (m.w.alloc (.map #[] 0)):=by
   simp[execOp,run_makeMap,Sem.run_bind,Result.andThen_ok,Sem.run_pure]
  rw[h5];refine⟨_,N,Z.set p ((X,.ob _),[m.w.heap.size]),rfl,?_,G'.perm (hp2 _).symm,(h4.mono hle).put hd ?_⟩
  ·rw[List.map_set,h2'];rfl
  ·refine⟨rfl,.inr rfl,_,rfl,λL hL=>?_⟩
   simp only[if_true,Option.some.injEq]at hL;subst hL;rfl
theorem OpT.mapUpdK[DecidableEq κ]{n:κ}{u:Value}(ht:P.underlying t=some (.map k e))(hn:C.ok n)(hu:PlainV P e u)(hs:s<maxLen):OpT P ⟨dst,.mapUpdate t x y z,ty,pos,after,g⟩ [(x,.mp X),(y,C.av n),(z,.prim u)] [(p,(X,.ob (MapKF C e gf s)))] .dead [(p,(X,.ob (MapKF C e (JD gf n u) (if(gf n).isSome then s else s+1))))]:=by
 intro nt m0 T S a w hx hS hd hr;obtain⟨m,N,Z,rfl,h2,h3,h4⟩:=hr;have h2':Z.map (·.1)=S:=h2;have hxa:VV m (.mp X) (a.eval x) []:=h4.ev (hx (x,.mp X) (by simp));have hya:=C.vav m n _ (h4.ev (hx (y,C.av n) (by simp)));have hza:=(h4.ev (hx (z,.prim u) (by simp))).prim;have hSp:=hS (p,(X,.ob (MapKF C e gf s))) (by simp);rw[<-h2',List.getElem?_map]at hSp;cases hz:Z[p]? with
 |none=>rw[hz]at hSp;cases hSp
 |some z1=>
  rw[hz]at hSp;simp only[Option.map_some,Option.some.injEq]at hSp;obtain⟨z1,bs⟩:=z1;simp only at hSp;subst hSp;obtain⟨R,hp1,hp2⟩:=BJ hz;have G:=h3.perm hp1;obtain⟨hU,L,hL,hbs,o,hb,hKo⟩:=G.obj _ (List.mem_cons_self ..);obtain⟨_,_,A,hA,hA2⟩:=hxa;simp only[List.cons.injEq,and_true]at hA;rw[hA2 L hL]at hA;obtain⟨D,hown,hC⟩:=hKo.own hb;have K:=C.keyed;have hkey:=C.of n hn;obtain⟨w',hrun,hown',hturn⟩:=hown.store K ht hs hkey hu;obtain⟨es,clock,es',clock',hb0,rfl⟩:=hturn;obtain⟨o',ho',hF'⟩:=MapK.of hown' (hC.put (hown.tidy K) hn hu);rw[Hi hb0]at ho';obtain rfl:=Option.some.inj ho';obtain⟨G',hle⟩:=F4 G hL hbs _ hF' _ rfl;unfold Oper.wp
  have h5:(execOp a.eval ⟨dst,.mapUpdate t x y z,ty,pos,after,g⟩).run P m.w= .ok .skip (setBlock m.w L.blk (.map es' clock')):=by
   simp[execOp,hA,hya,hza,hrun,Sem.run_bind,Result.andThen_ok,Sem.run_pure]
  rw[h5];refine⟨_,N,Z.set p ((X,.ob _),bs),rfl,?_,G'.perm (hp2 _).symm,(h4.mono hle).put hd ?_⟩
  ·rw[List.map_set,h2'];rfl
  ·exact rfl
theorem Q9{m:Mem}{x0:Operand}{a:Act}(hx:VV m (.mp X) (a.eval x0) []){bs:List Nat}(hO:ORel m X (.ob (MapKF C e gf s)) bs):∃b D,a.eval x0= .map (some b)/\m.w.ownsMap P k (CX P e) b s D/\MapK C e gf s D:=by
 obtain⟨hU,L,hL,hbs,o,hb,hKo⟩:=hO;obtain⟨_,_,A,hA,hA2⟩:=hx;simp only[List.cons.injEq,and_true]at hA;rw[hA2 L hL]at hA;obtain⟨D,hown,hC⟩:=hKo.own hb;exact⟨L.blk,D,hA,hown,hC⟩
theorem MapK.at{n:κ}{z0 v:Value}{ps:List MemPlace}{D:DataW Unit}(hC:MapK C e gf s D)(hn:C.ok n)(h0:PlainV P e z0)(hv:CX P e v=some (D.atKey (C.lit n) (.lit (Gg z0)),ps)):v=(gf n).getD z0:=by
 obtain⟨h1,h2⟩:=hC.2.1 n hn;cases hg:gf n with
 |none=>
  rw[hg]at h1;rw[atKey_of_not_has (by simpa using h1)]at hv;exact Di hv h0
 |some u=>
  obtain⟨h3,h4⟩:=h2 u hg;rw[h4]at hv;exact Di hv h3
theorem OpT.lookupK1{n:κ}{z0:Value}(ht:P.underlying t=some (.map k e))(hz:∀w,(zeroValue e).run P w= .ok z0 w)(h0:PlainV P e z0)(hn:C.ok n)(hone:((gf n).getD z0).oneCell'=true):
  OpT P ⟨dst,.lookup t x y false,ty,pos,after,g⟩ [(x,.mp X),(y,C.av n)] [(p,(X,.ob (MapKF C e gf s)))] (.prim ((gf n).getD z0)) []:=
 .pure_ λm a hx hS=>by
  obtain⟨bs,hO⟩:=hS (p,(X,.ob (MapKF C e gf s))) (by simp);obtain⟨b,D,hA,hown,hC⟩:=Q9 (hx (x,.mp X) (by simp)) hO;have hya:=C.vav m n _ (hx (y,C.av n) (by simp));obtain⟨v,ps,hrun,hv⟩:=hown.lookup C.keyed ht (hz m.w) h0 (C.of n hn);have hval:=hC.at hn h0 hv;subst hval;exact⟨_,by simp only at hya hA;simp[execOp,hA,hya,hrun,Sem.run_bind,Result.andThen_ok,Sem.run_pure],A3 _ hone⟩
end
class TMapK(P:Program)(t:TypeId)(k e:outParam TypeId)(z0:outParam Value):Prop where
 h:P.underlying t=some (.map k e)
 hz:∀w,(zeroValue e).run P w= .ok z0 w
 h0:PlainV P e z0
section
variable {ro:Option Nat}{P:Program}{nt:Nat}{ops:Array Oper}{Q:Exit->St->Prop}{rest:List Oper}{T:List (Nat×AV)}{S:List AB}{ty t k e:TypeId}{pos:String}{after:Array Edge}{dst:Option Tmp}{c:Option (List Bool)}{g:Option (Nat×Bool)}{x y z:Operand}{X p:Nat}{κ:Type}{C:KeyC P k κ}{gf:κ->Option Value}{s:Nat}{z0:Value}
theorem MM(C:KeyC P k κ)[TMapK P t k e z0](kk:∀X,AOps ro P nt ops Q rest ⟨AL T dst (.mp X),(X,.ob (MapKF C e (λ_=>none) 0))::S⟩)(hd:AK dst nt=true:=by rfl):AOps ro P nt ops Q (⟨dst,.makeMap t none,ty,pos,after,none⟩::rest) ⟨T,S⟩:=
 AOps.rs λX=>AOps.step (o:=⟨dst,.makeMap t none,ty,pos,after,none⟩) (xs:=[]) (rS:=[(0,(X,.gone))]) rfl (Kp C (TMapK.h (z0:=z0))) .nil (.cons .here .nil) hd (kk X)
theorem W.mapUpdK[DecidableEq κ](n:κ){u:Value}{av:AV}[TMapK P t k e z0](hu:PlainV P e u)(hn:C.ok n)(hs:s<maxLen)(hx:Rd c T x (.mp X))(hy:Rd c T y av)(hz:Rd c T z (.prim u))(hSp:At S p (X,.ob (MapKF C e gf s)))(hav:av=C.av n:=by rfl):
  Stp c P ⟨dst,.mapUpdate t x y z,ty,pos,after,g⟩ T S [(x,.mp X),(y,av),(z,.prim u)] [(p,(X,.ob (MapKF C e gf s)))] .dead [(p,(X,.ob (MapKF C e (JD gf n u) (if(gf n).isSome then s else s+1))))]:=by
 subst hav;exact⟨.mapUpdK (TMapK.h (z0:=z0)) hn hu hs,.cons hx (.cons hy (.cons hz .nil)),.cons hSp .nil⟩
theorem I6(n:κ)(v:Value){av:AV}[TMapK P t k e z0](hv:(gf n).getD z0=v)(hn:C.ok n)(hx:Rd c T x (.mp X))(hy:Rd c T y av)(hSp:At S p (X,.ob (MapKF C e gf s)))(hone:v.oneCell'=true:=by rfl)(hav:av=C.av n:=by rfl):
  Stp c P ⟨dst,.lookup t x y false,ty,pos,after,g⟩ T S [(x,.mp X),(y,av)] [(p,(X,.ob (MapKF C e gf s)))] (.prim v) []:=by
 subst hv hav;exact⟨.lookupK1 (TMapK.h (z0:=z0)) (TMapK.hz (t:=t)) (TMapK.h0 (t:=t)) hn hone,.cons hx (.cons hy .nil),.cons hSp .nil⟩
end
end
section
open Go.RowKit Go.Maps Go.WideElems Go.WideMaps Go.ChangeMaps Go.MapKept
section
variable {P:Program}{k e:TypeId}{κ:Type}{C:KeyC P k κ}{g:κ->Option Value}{s b r cnt:Nat}{left:κ->Bool}{M I:Obj}{w:World}
end
section
variable {ro:Option Nat}{P:Program}{nt:Nat}{ops:Array Oper}{Q:Exit->St->Prop}{rest:List Oper}{T:List (Nat×AV)}{S:List AB}{ty t k e:TypeId}{pos:String}{after:Array Edge}{d:Nat}{dst:Option Tmp}{c:Option (List Bool)}{x y it:Operand}{X Y Z p q u b r s cnt:Nat}{κ:Type}{C:KeyC P k κ}{g:κ->Option Value}{left:κ->Bool}{z0:Value}{M I:Obj}
end
end
section
open Go.RowKit
section
variable {P:Program}{ty t:TypeId}{pos:String}{after:Array Edge}{dst:Option Tmp}{g:Option (Nat×Bool)}{c:Option (List Bool)}{x y:Operand}{T:List (Nat×AV)}{S:List AB}
theorem OpT.buildV{u0 u1:Value}(h:∀w,(Instr.build t #[(0,u0),(1,u1)]).run P w= .ok (.agg #[u0,u1]) w)(h0:u0.oneCell'=true)(h1:u1.oneCell'=true):OpT P ⟨dst,.build t #[(0,x),(1,y)],ty,pos,after,g⟩ [(x,.prim u0),(y,.prim u1)] [] (.agg [.prim u0,.prim u1]) []:=
 .pure_ λm a hx _=>by
  have hxa:=(hx (x,.prim u0) (by simp)).prim;have hya:=(hx (y,.prim u1) (by simp)).prim;simp only at hxa hya;refine⟨.agg #[u0,u1],?_,IB [u0,u1] m (by intro u hu;simp only[List.mem_cons,List.not_mem_nil,or_false]at hu;rcases hu with rfl|rfl<;>assumption)⟩;simp[execOp,hxa,hya,h,Sem.run_bind,Sem.run_pure,Result.andThen_ok]
theorem W.buildV{u0 u1:Value}(h:∀w,(Instr.build t #[(0,u0),(1,u1)]).run P w= .ok (.agg #[u0,u1]) w)(hx:Rd c T x (.prim u0))(hy:Rd c T y (.prim u1))(h0:u0.oneCell'=true:=by rfl)(h1:u1.oneCell'=true:=by rfl):
  Stp c P ⟨dst,.build t #[(0,x),(1,y)],ty,pos,after,g⟩ T S [(x,.prim u0),(y,.prim u1)] [] (.agg [.prim u0,.prim u1]) []:=⟨.buildV h h0 h1,.cons hx (.cons hy .nil),.nil⟩
end
end
end Go.Proofs.YtiidbamlcgbpnaaGreat
