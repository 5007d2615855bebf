/-
  Part 4 of the texts under the law MarkLast: the layer of abstract values, walks and plain laws. Conditions: those that each theorem names.
-/
import Derived.DeepKeys4
import Derived.Maps.Range
import Derived.Test.YtiidbamlcgbpnaaGreatMarkLastP3
namespace Go.Proofs.YtiidbamlcgbpnaaGreat
set_option linter.unusedVariables false
set_option linter.unusedSimpArgs false
set_option linter.defProp false
set_option maxRecDepth 10000
set_option maxHeartbeats 4000000
section
section
variable {P:Program}{nt:Nat}{T:List (Nat×AV)}{S:List AA}{ty t k e:TypeId}{pos:String}{after:Array Edge}{d:Nat}{c:Option (List Bool)}{g:Option (Nat×Bool)}{x y:Operand}{X Y p q:Nat}{gf:Int->Option Value}{s:Nat}{z0:Value}{K:AV->Value->Prop}{v:AV}
theorem OpT.lookP{n:Int}{u:Value}[TMap P t k e z0](hv:(gf n).getD z0=u)(hn: -9223372036854775808<=n/\n<=9223372036854775807)(hone:u.oneCell'=true)(hK:K v u):
  OpT P ⟨some d,.lookup t x y false,ty,pos,after,g⟩ [(x,.mp X),(y,.prim (.int .i64 n))] [(p,(X,.ob (MapF P k e gf s))),(q,(Y,.tv K))] v []:=by
 subst hv;intro nt m0 T S a w hx hS hd hr;have h1:=OpT.lookup1 (dst:=some d) (ty:=ty) (pos:=pos) (after:=after) (g:=g) (p:=p) (x:=x) (y:=y) (X:=X) (s:=s) (gf:=gf) (TMap.h (t:=t) (z0:=z0)) (TMap.hk (t:=t) (z0:=z0)) (TMap.hz (t:=t)) (TMap.h0 (P:=P) (t:=t)) hn hone nt m0 T S a w hx (λq' hq'=>hS q' (by simp only[List.mem_singleton]at hq';simp[hq'])) hd hr;refine Oper.wp_mono ?_ h1;rintro a' w' ⟨m,N,Z,rfl,h2,h3,h4⟩;have hq:S[q]?=some (Y,AO.tv K):=hS (q,(Y,AO.tv K)) (by simp);have h2':Z.map (·.1)=S:=h2;rw[<-h2',List.getElem?_map,Option.map_eq_some_iff]at hq;obtain⟨⟨z,bs⟩,hz,hze⟩:=hq;have hze:z=(Y,AO.tv K):=hze;subst hze;obtain⟨_,_,hO⟩:=h3.obj _ (List.mem_of_getElem? hz);refine⟨m,N,Z,rfl,h2,h3,h4.1,h4.2.1,λe v' he=>?_⟩;simp only[AN,AY]at he;split at he
 ·rename_i e';subst e'
  injection he with he;subst he
  obtain⟨u',h5,h6⟩:=h4.2.2 e (.prim ((gf n).getD z0)) (by simp only[AN,AY,if_true]);refine⟨u',h5,?_⟩;rw[h6.prim];exact hO _ _ hK
 ·rename_i e'
  exact h4.2.2 e v' (by simp only[AN,AY,if_neg e'];exact he)
theorem W.lookP{n:Int}{u:Value}(v:AV)[TMap P t k e z0](hv:(gf n).getD z0=u)(hn: -9223372036854775808<=n/\n<=9223372036854775807)(hone:u.oneCell'=true)(hK:K v u)(hx:Rd c T x (.mp X))(hy:Rd c T y (.prim (.int .i64 n)))(hSp:At S p (X,.ob (MapF P k e gf s)))(hSq:At S q (Y,.tv K)):
  Stp c P ⟨some d,.lookup t x y false,ty,pos,after,g⟩ T S [(x,.mp X),(y,.prim (.int .i64 n))] [(p,(X,.ob (MapF P k e gf s))),(q,(Y,.tv K))] v []:=
 ⟨.lookP hv hn hone hK,.cons hx (.cons hy .nil),.cons hSp (.cons hSq .nil)⟩
end
end
section
theorem St.nilT{nt d:Nat}{st:St}{as bs:List AV}(t:TypeId)(sz:Nat)(hd:AS st.T d=some (.agg as))(hI:Ics (NilB t sz) as bs):Dg nt st λst'=>st'=⟨(d,.agg bs)::st.T,st.S⟩:=by
 rintro m0 a w ⟨m,N,Z,rfl,h2,h3,h4⟩;refine⟨⟨(d,.agg bs)::st.T,st.S⟩,⟨m,N,Z,rfl,h2,h3,h4.1,h4.2.1,λe v' he=>?_⟩,rfl⟩;rw[AY]at he;split at he
 ·rename_i e';subst e'
  injection he with he;subst he
  obtain⟨u,h5,cells,h6,h7⟩:=h4.2.2 _ _ hd
  exact⟨u,h5,cells,h6,Ics.vcs (Mem.Le.refl m) (λa b h c bs k=>by
   cases h;obtain⟨⟨rfl,_⟩,rfl⟩:=k;exact⟨rfl,none,0,rfl,Nat.le_refl _,by simp,λh0=>by simp at h0⟩) rfl hI h7⟩
 ·exact h4.2.2 e v' he
section
variable {ro:Option Nat}{P:Program}{nt:Nat}{c:Code}{Q:Exit->St->Prop}{T:List (Nat×AV)}{S:List AA}{ops:Array Oper}{rest:List Oper}{as bs:List AV}
theorem AOps.nilT(d:Nat)(t:TypeId)(sz:Nat)(hI:Ics (NilB t sz) as bs)(k:AOps ro P nt ops Q rest ⟨(d,.agg bs)::T,S⟩)(hd:AS T d=some (.agg as):=by rfl):AOps ro P nt ops Q rest ⟨T,S⟩:=.ghost (St.nilT (st:=⟨T,S⟩) t sz hd hI) λst' e=>by subst e;exact k
end
end
section
open Go.RowKit Go.Maps Go.WideElems Go.WideMaps Go.ChangeMaps
structure KeyC(P:Program)(k:TypeId)(κ:Type)where
 val:κ->Value
 lit:κ->Lit
 ok:κ->Prop
 av:κ->AV
 keyed:Keyed P k
 of:∀x,ok x->keyOf P k (val x)=some (lit x)
 inj:∀x y,ok x->ok y->lit x=lit y->x=y
 vav:∀(m:Mem) x v,VV m (av x) v []->v=val x
 avv:∀(m:Mem) x,VV m (av x) (val x) []
 nt:∀x,ntup (av x)=true
theorem IU(us:List Value)(m:Mem)(hu:∀u∈us,u.oneCell'=true):VV m (.agg (us.map .prim)) (.agg us.toArray) []:=⟨us.toArray,rfl,EZ m us hu⟩
theorem F7{P:Program}{k e:TypeId}{n:Nat}(hk:P.underlying k=some (.array 2 e))(he:P.underlying e=some (.int .i64))(hc:P.cellsOf k=2)(hce:P.cellsOf e=1)(hkt:P.keyType k=true)(hn:P.types.size=n+1){a b:Int}(ha:(Lit.int .i64 a).wf=true)(hb:(Lit.int .i64 b).wf=true):keyOf P k (.agg #[.int .i64 a,.int .i64 b])=some (.string (keyBytes [.int .i64 a,.int .i64 b])):=by
 have h1:∀x:Int,(Lit.int .i64 x).wf=true->P.keyLits (n+1) e [.int .i64 x]=some [.int .i64 x]:=λx hx=>by
  simp[Program.keyLits,he,hx]
 have h2:P.keyLits (n+1+1) k [.int .i64 a,.int .i64 b]=some [.int .i64 a,.int .i64 b]:=by
  have e1:List.range 2=[0,1]:=rfl;unfold Program.keyLits;simp[hk,hc,hce,e1,h1 a ha,h1 b hb]
 unfold keyOf;rw[hk];simp[hkt,Value.formed,hk,hc,hn,Value.cells,h2]
noncomputable def Se (P:Program) (k e:TypeId) (n:Nat) (hk:P.underlying k=some (.array 2 e)) (he:P.underlying e=some (.int .i64)) (hc:P.cellsOf k=2) (hce:P.cellsOf e=1) (hkt:P.keyType k=true) (hn:P.types.size=n+1) (K:Keyed P k):KeyC P k (Int×Int)where
 val x:=.agg #[.int .i64 x.1,.int .i64 x.2]
 lit x:=.string (keyBytes [.int .i64 x.1,.int .i64 x.2])
 ok x:=(-9223372036854775808<=x.1/\x.1<=9223372036854775807)/\(-9223372036854775808<=x.2/\x.2<=9223372036854775807)
 av x:=.agg [.prim (.int .i64 x.1),.prim (.int .i64 x.2)]
 keyed:=K
 of x h:=F7 hk he hc hce hkt hn (CM h.1) (CM h.2)
 inj x y hx hy e:=by
  have h1:=F7 hk he hc hce hkt hn (CM hx.1) (CM hx.2);have h2:=F7 hk he hc hce hkt hn (CM hy.1) (CM hy.2);rw[e]at h1;have h3:=K.inj h1 h2;simp only[Value.agg.injEq,Array.mk.injEq,List.cons.injEq,Value.int.injEq,true_and,and_true]at h3;exact Prod.ext h3.1 h3.2
 vav m x v h:=VV.aggP (us:=[.int .i64 x.1,.int .i64 x.2]) rfl h
 avv m x:=IU [.int .i64 x.1,.int .i64 x.2] m (by intro u hu;simp only[List.mem_cons,List.not_mem_nil,or_false]at hu;rcases hu with rfl|rfl<;>rfl)
 nt x:=rfl
section
variable {P:Program}{k e:TypeId}{κ:Type}
def MapK(C:KeyC P k κ)(e:TypeId)(g:κ->Option Value)(s:Nat)(D:DataW Unit):Prop:=
 s=Maps.size D/\(∀x,C.ok x->Maps.has D (C.lit x)=(g x).isSome/\∀v,g x=some v->PlainV P e v/\∀z,D.atKey (C.lit x) z= .lit (Hp v))/\∀l,Maps.has D l=true->∃x,C.ok x/\l=C.lit x
def MapKF(C:KeyC P k κ)(e:TypeId)(g:κ->Option Value)(s:Nat)(o:Obj):Prop:=
 ∃es clock D,o= .map es clock/\Fit P k (CI P e) es clock/\es.size<=s/\D= .map ((es.toList.map (rg P k (CI P e))).foldr DataW.insert [])/\MapK C e g s D
variable {C:KeyC P k κ}{g:κ->Option Value}{s b:Nat}{o:Obj}{w:World}{D:DataW Unit}
theorem MapKF.own(h:MapKF C e g s o)(hb:w.heap[b]?=some o):∃D,w.ownsMap P k (CI P e) b s D/\MapK C e g s D:=by
 obtain⟨es,clock,D,rfl,h1,h2,h3,h4⟩:=h;exact⟨D,⟨es,clock,hb,h1,h2,h3⟩,h4⟩
theorem MapK.of{n:Nat}(h:w.ownsMap P k (CI P e) b n D)(hc:MapK C e g s D):∃o,w.heap[b]?=some o/\MapKF C e g s o:=by
 obtain⟨es,clock,hb,h1,h2,h3⟩:=h;refine⟨_,hb,es,clock,D,rfl,h1,?_,h3,hc⟩;rw[hc.1,h3];have e1:Maps.size (DataW.map ((es.toList.map (rg P k (CI P e))).foldr DataW.insert []))=es.size:=by simp[Maps.size,length_sorted]
 rw[e1];exact Nat.le_refl _
def JT[DecidableEq κ](g:κ->Option Value)(x:κ)(v:Value):κ->Option Value:=λy=>if y=x then some v else g y
def Jk[DecidableEq κ](g:κ->Option Value)(x:κ):κ->Option Value:=λy=>if y=x then none else g y
theorem MapK.put[DecidableEq κ](hT:Maps.Tidy D)(h:MapK C e g s D){x:κ}{v:Value}(hw:C.ok x)(hv:PlainV P e v):
  MapK C e (JT g x v) (if(g x).isSome then s else s+1) (D.put (C.lit x) (.lit (Hp v))):=by
 have hk:=C.keyed.key (C.of x hw);obtain⟨h1,h2,h3⟩:=h;refine⟨?_,λy hy=>?_,λl hl=>?_⟩
 ·rw[size_put hT,(h2 x hw).1,h1]
 ·by_cases e:y=x
  ·subst e
   refine⟨by rw[has_put_same hT.isMap hk];simp[JT],λu hu=>?_⟩;simp only[JT,if_true,Option.some.injEq]at hu;subst hu;exact⟨hv,λz=>atKey_put_same hT.isMap hk _ _⟩
  ·have hne:C.lit y≠C.lit x:=λe2=>e (C.inj y x hy hw e2)
   refine⟨by rw[has_put_other hne,(h2 y hy).1];simp[JT,e],λu hu=>?_⟩;simp only[JT,if_neg e]at hu;exact⟨((h2 y hy).2 u hu).1,λz=>by rw[atKey_put_other hne];exact((h2 y hy).2 u hu).2 z⟩
 ·by_cases e:l=C.lit x
  ·exact⟨x,hw,e⟩
  ·rw[has_put_other e]at hl
   exact h3 l hl
theorem MapK.del[DecidableEq κ](hT:Maps.Tidy D)(h:MapK C e g s D){x:κ}(hw:C.ok x):MapK C e (Jk g x) (if(g x).isSome then s-1 else s) (D.del (C.lit x)):=by
 obtain⟨h1,h2,h3⟩:=h;refine⟨?_,λy hy=>?_,λl hl=>?_⟩
 ·have:=size_del (k:=C.lit x) hT
  rw[(h2 x hw).1,<-h1]at this;split<;>rename_i hs<;>simp[hs]at this<;>omega
 ·by_cases e:y=x
  ·subst e
   refine⟨by rw[has_del_same];simp[Jk],λu hu=>?_⟩;simp[Jk]at hu
  ·have hne:C.lit y≠C.lit x:=λe2=>e (C.inj y x hy hw e2)
   refine⟨by rw[has_del_other hne,(h2 y hy).1];simp[Jk,e],λu hu=>?_⟩;simp only[Jk,if_neg e]at hu;exact⟨((h2 y hy).2 u hu).1,λz=>by rw[atKey_del_other hne];exact((h2 y hy).2 u hu).2 z⟩
 ·by_cases e:l=C.lit x
  ·rw[e,has_del_same]at hl;cases hl
  ·rw[has_del_other e]at hl
   exact h3 l hl
end
section
variable {P:Program}{m0 m:Mem}{N X:Nat}{R:Zs}{ex:List Nat}{o:Oper}{v:AV}{x y z:Operand}{ty ty2 t k e:TypeId}{pos:String}{after:Array Edge}{g:Option (Nat×Bool)}{dst:Option Tmp}{p:Nat}{κ:Type}{C:KeyC P k κ}{gf:κ->Option Value}{s:Nat}
theorem Pq(w:World)(C:KeyC P k κ)(e:TypeId):MapKF C e (λ_=>none) 0 (.map #[] 0):=by
 obtain⟨es,clock,hb,h1,h2,h3⟩:=World.ownsMap_made (H:=Unit) w P k (CI P e);rw[heap_alloc_new]at hb;obtain⟨rfl,rfl⟩:=Obj.map.inj (Option.some.inj hb);exact⟨#[],0,_,rfl,h1,h2,h3,rfl,λx _=>⟨rfl,λv hv=>by cases hv⟩,λl hl=>by cases hl⟩
theorem K8(C:KeyC P k κ)(ht:P.underlying t=some (.map k e)):OpT P ⟨dst,.makeMap t none,ty,pos,after,g⟩ [] [(p,(X,.gone))] (.mp X) [(p,(X,.ob (MapKF C e (λ_=>none) 0)))]:=by
 intro nt m0 T S a w hx hS hd hr;obtain⟨m,N,Z,rfl,h2,h3,h4⟩:=hr;have h2':Z.map (·.1)=S:=h2;have hSp:=hS (p,(X,.gone)) (by simp);rw[<-h2',List.getElem?_map]at hSp;cases hz:Z[p]? with
 |none=>rw[hz]at hSp;cases hSp
 |some z=>
  rw[hz]at hSp;simp only[Option.map_some,Option.some.injEq]at hSp;obtain⟨z1,z2⟩:=z;simp only at hSp;subst hSp;obtain⟨R,hp1,hp2⟩:=BB hz;obtain⟨G',hle⟩:=Gs (h3.perm hp1) (.map #[] 0) (Pq m.w C e) _ rfl;unfold Oper.wp
  have h5:(execOp a.eval ⟨dst,.makeMap t none,ty,pos,after,g⟩).run P m.w= .ok (.value (.map (some m.w.heap.size))) (m.w.alloc (.map #[] 0)):=by
   simp[execOp,run_makeMap,Sem.run_bind,Result.andThen_ok,Sem.run_pure]
  rw[h5];refine⟨_,N,Z.set p ((X,.ob _),[m.w.heap.size]),rfl,?_,G'.perm (hp2 _).symm,(h4.mono hle).put hd ?_⟩
  ·rw[List.map_set,h2'];rfl
  ·refine⟨rfl,.inr rfl,_,rfl,λL hL=>?_⟩
   simp only[if_true,Option.some.injEq]at hL;subst hL;rfl
theorem OpT.mapUpdK[DecidableEq κ]{n:κ}{u:Value}(ht:P.underlying t=some (.map k e))(hn:C.ok n)(hu:PlainV P e u)(hs:s<maxLen):OpT P ⟨dst,.mapUpdate t x y z,ty,pos,after,g⟩ [(x,.mp X),(y,C.av n),(z,.prim u)] [(p,(X,.ob (MapKF C e gf s)))] .dead [(p,(X,.ob (MapKF C e (JT gf n u) (if(gf n).isSome then s else s+1))))]:=by
 intro nt m0 T S a w hx hS hd hr;obtain⟨m,N,Z,rfl,h2,h3,h4⟩:=hr;have h2':Z.map (·.1)=S:=h2;have hxa:VV m (.mp X) (a.eval x) []:=h4.ev (hx (x,.mp X) (by simp));have hya:=C.vav m n _ (h4.ev (hx (y,C.av n) (by simp)));have hza:=(h4.ev (hx (z,.prim u) (by simp))).prim;have hSp:=hS (p,(X,.ob (MapKF C e gf s))) (by simp);rw[<-h2',List.getElem?_map]at hSp;cases hz:Z[p]? with
 |none=>rw[hz]at hSp;cases hSp
 |some z1=>
  rw[hz]at hSp;simp only[Option.map_some,Option.some.injEq]at hSp;obtain⟨z1,bs⟩:=z1;simp only at hSp;subst hSp;obtain⟨R,hp1,hp2⟩:=BB hz;have G:=h3.perm hp1;obtain⟨hU,L,hL,hbs,o,hb,hKo⟩:=G.obj _ (List.mem_cons_self ..);obtain⟨_,_,A,hA,hA2⟩:=hxa;simp only[List.cons.injEq,and_true]at hA;rw[hA2 L hL]at hA;obtain⟨D,hown,hC⟩:=hKo.own hb;have K:=C.keyed;have hkey:=C.of n hn;obtain⟨w',hrun,hown',hturn⟩:=hown.store K ht hs hkey hu;obtain⟨es,clock,es',clock',hb0,rfl⟩:=hturn;obtain⟨o',ho',hF'⟩:=MapK.of hown' (hC.put (hown.tidy K) hn hu);rw[GT hb0]at ho';obtain rfl:=Option.some.inj ho';obtain⟨G',hle⟩:=E1 G hL hbs _ hF' _ rfl;unfold Oper.wp
  have h5:(execOp a.eval ⟨dst,.mapUpdate t x y z,ty,pos,after,g⟩).run P m.w= .ok .skip (setBlock m.w L.blk (.map es' clock')):=by
   simp[execOp,hA,hya,hza,hrun,Sem.run_bind,Result.andThen_ok,Sem.run_pure]
  rw[h5];refine⟨_,N,Z.set p ((X,.ob _),bs),rfl,?_,G'.perm (hp2 _).symm,(h4.mono hle).put hd ?_⟩
  ·rw[List.map_set,h2'];rfl
  ·exact rfl
end
class TMapK(P:Program)(t:TypeId)(k e:outParam TypeId)(z0:outParam Value):Prop where
 h:P.underlying t=some (.map k e)
 hz:∀w,(zeroValue e).run P w= .ok z0 w
 h0:PlainV P e z0
section
variable {ro:Option Nat}{P:Program}{nt:Nat}{ops:Array Oper}{Q:Exit->St->Prop}{rest:List Oper}{T:List (Nat×AV)}{S:List AA}{ty t k e:TypeId}{pos:String}{after:Array Edge}{dst:Option Tmp}{c:Option (List Bool)}{g:Option (Nat×Bool)}{x y z:Operand}{X p:Nat}{κ:Type}{C:KeyC P k κ}{gf:κ->Option Value}{s:Nat}{z0:Value}
theorem Ma(C:KeyC P k κ)[TMapK P t k e z0](kk:∀X,AOps ro P nt ops Q rest ⟨AN T dst (.mp X),(X,.ob (MapKF C e (λ_=>none) 0))::S⟩)(hd:AP dst nt=true:=by rfl):AOps ro P nt ops Q (⟨dst,.makeMap t none,ty,pos,after,none⟩::rest) ⟨T,S⟩:=
 AOps.rs λX=>AOps.step (o:=⟨dst,.makeMap t none,ty,pos,after,none⟩) (xs:=[]) (rS:=[(0,(X,.gone))]) rfl (K8 C (TMapK.h (z0:=z0))) .nil (.cons .here .nil) hd (kk X)
theorem W.mapUpdK[DecidableEq κ](n:κ){u:Value}{av:AV}[TMapK P t k e z0](hu:PlainV P e u)(hn:C.ok n)(hs:s<maxLen)(hx:Rd c T x (.mp X))(hy:Rd c T y av)(hz:Rd c T z (.prim u))(hSp:At S p (X,.ob (MapKF C e gf s)))(hav:av=C.av n:=by rfl):
  Stp c P ⟨dst,.mapUpdate t x y z,ty,pos,after,g⟩ T S [(x,.mp X),(y,av),(z,.prim u)] [(p,(X,.ob (MapKF C e gf s)))] .dead [(p,(X,.ob (MapKF C e (JT gf n u) (if(gf n).isSome then s else s+1))))]:=by
 subst hav;exact⟨.mapUpdK (TMapK.h (z0:=z0)) hn hu hs,.cons hx (.cons hy (.cons hz .nil)),.cons hSp .nil⟩
end
end
section
open Go.RowKit Go.Maps Go.WideElems Go.WideMaps Go.ChangeMaps Go.MapKept
section
variable {P:Program}{k e:TypeId}{κ:Type}{C:KeyC P k κ}{g:κ->Option Value}{s b r cnt:Nat}{left:κ->Bool}{M I:Obj}{w:World}
def Rng(C:KeyC P k κ)(e:TypeId)(g:κ->Option Value)(s b:Nat)(left:κ->Bool)(cnt:Nat)(M I:Obj):Prop:=
 ∃L:Lit->Bool,(∀x,C.ok x->L (C.lit x)=left x)/\(∀l,L l=true->∃x,C.ok x/\l=C.lit x)/\∃es clock since seen c0,M= .map es clock/\MapKF C e g s M/\I= .mapIter (some b) since seen c0/\(∀x∈es.toList,x.born<since)/\(leftOf es seen).size=cnt/\
  (∀x∈es.toList,L (rg P k (CI P e) x).1= !seen.contains x.born)/\(∀kl,L kl=true->∃x∈es.toList,(rg P k (CI P e) x).1=kl)/\since<=c0/\since<=clock
def JN(C:KeyC P k κ)(b:Nat)(M I:Obj)(x:κ)(v:Value):Prop:=
 ∀(w:World) (r:Nat),w.heap[b]?=some M->w.heap[r]?=some I->(Instr.entry (.pointer (some ⟨r,0,none⟩))).run P w= .ok (.tuple #[C.val x,v]) w
theorem Rng.map(h:Rng C e g s b left cnt M I):MapKF C e g s M:=by
 obtain⟨L,_,_,es,clock,since,seen,c0,_,h,_⟩:=h;exact h
theorem Rng.world(h:Rng C e g s b left cnt M I)(hb:w.heap[b]?=some M)(hr:w.heap[r]?=some I):
  ∃D L,w.ranges P k (CI P e) b r s D L cnt/\MapK C e g s D/\(∀x,C.ok x->L (C.lit x)=left x)/\∀l,L l=true->∃x,C.ok x/\l=C.lit x:=by
 obtain⟨L,hL1,hL2,es,clock,since,seen,c0,rfl,⟨es',clock',D,e1,h1,h2,h3,h4⟩,rfl,h6,h7,h8,h9,h10,h11⟩:=h;obtain⟨rfl,rfl⟩:=Obj.map.inj e1;exact⟨D,L,⟨es,clock,since,seen,c0,hb,h1,h2,h3,hr,h6,h7,h8,h9,h10,h11⟩,h4,hL1,hL2⟩
theorem Rng.of{D:DataW Unit}{L:Lit->Bool}{n:Nat}(h:w.ranges P k (CI P e) b r n D L cnt)(hm:MapK C e g s D)(hL1:∀x,C.ok x->L (C.lit x)=left x)(hL2:∀l,L l=true->∃x,C.ok x/\l=C.lit x):
  ∃M I,w.heap[b]?=some M/\w.heap[r]?=some I/\Rng C e g s b left cnt M I:=by
 obtain⟨es,clock,since,seen,c0,hb,h1,h2,h3,hr,h6,h7,h8,h9,h10,h11⟩:=h;refine⟨_,_,hb,hr,L,hL1,hL2,es,clock,since,seen,c0,rfl,⟨es,clock,D,rfl,h1,?_,h3,hm⟩,rfl,h6,h7,h8,h9,h10,h11⟩;rw[hm.1,h3];have e1:Maps.size (DataW.map ((es.toList.map (rg P k (CI P e))).foldr DataW.insert []))=es.size:=by simp[Maps.size,length_sorted]
 rw[e1];exact Nat.le_refl _
theorem Lr(C:KeyC P k κ)[DecidableEq κ]{x z:κ}(hx:C.ok x)(hz:C.ok z):(C.lit z).sameKey (C.lit x)=decide (z=x):=by
 by_cases e:z=x
 ·subst e
  rw[decide_eq_true rfl];exact WideAt.sameKey_self (C.keyed.key (C.of z hz))
 ·rw[decide_eq_false e]
  cases h:(C.lit z).sameKey (C.lit x)
  ·rfl
  ·exact absurd (C.inj z x hz hx (WideAt.sameKey_eq h)) e
theorem Rng.next[DecidableEq κ](h:Rng C e g s b left cnt M I)(hb:w.heap[b]?=some M)(hr:w.heap[r]?=some I)(ty:TypeId):
  ((∀x,C.ok x->left x=false)/\(Instr.next (.pointer (some ⟨r,0,none⟩)) false ty).run P w= .ok (.tuple #[.bool false]) w)\/
  ∃x v I' cnt',C.ok x/\left x=true/\g x=some v/\PlainV P e v/\cnt'<cnt/\Rng C e g s b (λy=>left y&& !decide (y=x)) cnt' M I' /\JN C b M I' x v/\
   ∃w1:World,(w1=w\/w1=w.drew)/\(Instr.next (.pointer (some ⟨r,0,none⟩)) false ty).run P w= .ok (.tuple #[.bool true,C.val x,v]) (w1.putObj r I'):=by
 obtain⟨D,L,hrg,hmk,hL1,hL2⟩:=h.world hb hr;have hrb:=hrg.ne;have hrg0:=hrg;rcases hrg.next C.keyed ty with⟨_,hl,hrun⟩|⟨key,v,kl,y,w',cnt',hkey,hlk,hv,hat,hrun,hrg',hlt,_,_,_⟩
 ·exact .inl ⟨λx hx=>by rw[<-hL1 x hx];exact hl _,hrun⟩
 ·obtain⟨es,clock,since,seen,c0,hb',F,_,_,hr',hold,_,_,_,hsc,_⟩:=hrg0
  have hM:=Option.some.inj (hb.symm.trans hb');have hI:=Option.some.inj (hr.symm.trans hr');rcases run_next_at (P:=P) w ty r b since c0 seen es clock hr' hb' hold hsc with⟨_,hrun2⟩|⟨en,hen,w1,hal,hrun2⟩
  ·rw[hrun]at hrun2
   cases hrun2
  ·rw[hrun]at hrun2
   injection hrun2 with e1 e2
   injection e1 with e1
   simp only[Array.mk.injEq,List.cons.injEq,and_true,true_and]at e1;obtain⟨rfl,rfl⟩:=e1;obtain⟨x,hx,rfl⟩:=hL2 _ hlk;have hkx:en.key=C.val x:=C.keyed.inj hkey (C.of x hx);obtain⟨m1,m2⟩:=hmk.2.1 x hx
   have hgx:∃u,g x=some u:=by
    cases hg:g x with
    |some u=>exact⟨u,rfl⟩
    |none=>
     rw[hg]at m1;have a1:=hat .nil;have a2:=hat (.lit (.bool true));rw[atKey_of_not_has (by simpa using m1)]at a1 a2;rw[<-a1]at a2;cases a2
   obtain⟨u,hgu⟩:=hgx;obtain⟨hpl,hatu⟩:=m2 u hgu;have hy1:=hat .nil;rw[hatu]at hy1;have hvu:en.val=u:=Ea (ps:=y.2) (by rw[hv,hy1]) hpl;subst hvu;subst hM;have hmem:=(mem_left hen).1;have e2':w'=w1.putObj r (.mapIter (some b) since (seen.push en.born) clock):=e2;obtain⟨M2,I2,hb2,hr2,hR2⟩:=Rng.of (left:=λy=>left y&& !decide (y=x)) hrg' hmk (λz hz=>by show(L (C.lit z)&&_)=_;rw[hL1 z hz,Lr C hx hz]) (λl hl=>hL2 l (by simp only[Bool.and_eq_true]at hl;exact hl.1));have hw1:w1.heap=w.heap:=by rcases hal with rfl|rfl<;>rfl
   have hrl:r<w1.heap.size:=by rw[hw1];exact(Array.getElem?_eq_some_iff.1 hr).1
   rw[e2',World.putObj_heap_other (Ne.symm hrb),hw1,hb]at hb2;rw[e2',World.putObj_heap_same hrl]at hr2;obtain rfl:=Option.some.inj hb2;obtain rfl:=Option.some.inj hr2;refine .inr ⟨x,en.val,_,cnt',hx,by rw[<-hL1 x hx];exact hlk,hgu,hpl,hlt,hR2,λw2 r2 hb3 hr3=>?_,w1,hal,by rw[hrun,e2',hkx]⟩;rw[<-hkx];exact run_entry_at w2 r2 b since seen es clock en hr3 hb3 hmem ((stamped_iff es clock).1 F.stamped).2.1
theorem Rng.del[DecidableEq κ]{t ty:TypeId}(h:Rng C e g s b left cnt M I)(ht:P.underlying t=some (.map k e))(hb:w.heap[b]?=some M)(hr:w.heap[r]?=some I){x:κ}(hx:C.ok x):
  ∃M' cnt',cnt' <=cnt/\Rng C e (Jk g x) (if(g x).isSome then s-1 else s) b (λy=>left y&& !decide (y=x)) cnt' M' I/\(Builtin.delete_ #[t,k] ty #[.map (some b),C.val x]).run P w= .ok (.tuple #[]) (setBlock w b M'):=by
 obtain⟨D,L,hrg,hmk,hL1,hL2⟩:=h.world hb hr;have hne:=hrg.ne;obtain⟨w',cnt',hrun,hrg',hle,hturn⟩:=hrg.drop C.keyed ht (C.of x hx) ty;obtain⟨es,clock,es',clock',hb0,rfl⟩:=hturn;obtain⟨M2,I2,hb2,hr2,hR2⟩:=Rng.of (left:=λy=>left y&& !decide (y=x)) hrg' (hmk.del (hrg.owns.tidy C.keyed) hx) (λz hz=>by show(L (C.lit z)&&_)=_;rw[hL1 z hz,Lr C hx hz]) (λl hl=>hL2 l (by simp only[Bool.and_eq_true]at hl;exact hl.1));rw[GT hb0]at hb2;obtain rfl:=Option.some.inj hb2;rw[IO _ hne,hr]at hr2;obtain rfl:=Option.some.inj hr2;exact⟨_,cnt',hle,hR2,hrun⟩
end
section
variable {ro:Option Nat}{P:Program}{nt:Nat}{ops:Array Oper}{Q:Exit->St->Prop}{rest:List Oper}{T:List (Nat×AV)}{S:List AA}{ty t k e:TypeId}{pos:String}{after:Array Edge}{d:Nat}{dst:Option Tmp}{c:Option (List Bool)}{x y it:Operand}{X Y Z p q u b r s cnt:Nat}{κ:Type}{C:KeyC P k κ}{g:κ->Option Value}{left:κ->Bool}{z0:Value}{M I:Obj}
abbrev exA(M:Obj):AO:=.ob λo=>o=M
abbrev lkA(X b:Nat):AO:=.tv λv z=>v= .mp X/\z= .map (some b)
theorem AOps.range(C:KeyC P k κ)[TMapK P t k e z0]{g:κ->Option Value}(hx:Rd none T x (.mp X))(hX:At S p (X,.ob (MapKF C e g s)))(hd:AP (some d) nt=true)
  (kk:∀b r M I Y Z cnt,Rng C e g s b (λx=>(g x).isSome) cnt M I->AOps ro P nt ops Q rest ⟨AN T (some d) (.prim (.pointer (some ⟨r,0,none⟩))),(Y,lkA X b)::(Z,.raw r I)::S.set p (X,exA M)⟩):
  AOps ro P nt ops Q (⟨some d,.range t x,ty,pos,after,none⟩::rest) ⟨T,S⟩:=by
 rintro m0 a w ⟨m,N,Zs,rfl,h2,h3,h4⟩;refine wpListIn_plain rfl λK hK=>Dw (β:=Nat×Nat×Obj×Obj×Nat×Nat×Nat) (C:=λz=>Rng C e g s z.1 (λx=>(g x).isSome) z.2.2.2.2.2.2 z.2.2.1 z.2.2.2.1) (sE:=λz=>⟨AN T (some d) (.prim (.pointer (some ⟨z.2.1,0,none⟩))),(z.2.2.2.2.1,lkA X z.1)::(z.2.2.2.2.2.1,.raw z.2.1 z.2.2.2.1)::S.set p (X,exA z.2.2.1)⟩) (by simp) ?_ λa' w' ⟨z,hz,hrel⟩=>hK _ _ (kk z.1 z.2.1 z.2.2.1 z.2.2.2.1 z.2.2.2.2.1 z.2.2.2.2.2.1 z.2.2.2.2.2.2 hz m0 _ _ hrel)
 have hxa:VV m (.mp X) (a.eval x) []:=h4.ev ((Evs.cons hx .nil).all (x,.mp X) (by simp));obtain⟨bs,hz⟩:=hX.z h2;obtain⟨R,hp1,hp2⟩:=BB hz;have G:=h3.perm hp1;obtain⟨hU,L,hL,hbs,o,hb,hKo⟩:=G.obj _ (List.mem_cons_self ..);obtain⟨_,_,A,hA,hA2⟩:=hxa;simp only[List.cons.injEq,and_true]at hA;rw[hA2 L hL]at hA;obtain⟨D,hown,hC⟩:=hKo.own hb;obtain⟨es,clock,D',rfl,F,_,_,_⟩:=hKo;have ht:P.underlying t=some (.map k e):=TMapK.h (z0:=z0);obtain⟨w',hrun,hrg,_,_⟩:=hown.range C.keyed ht;have hrun2:=run_range_map m.w t k e L.blk es clock ht hb;rw[hrun]at hrun2;injection hrun2 with _ e2
 subst e2;obtain⟨M2,I2,hb2,hr2,hR2⟩:=Rng.of (left:=λx=>(g x).isSome) hrg hC (λz hz=>(hC.2.1 z hz).1) hC.2.2;have hlt:L.blk<m.w.heap.size:=(Array.getElem?_eq_some_iff.1 hb).1;rw[heap_alloc_new]at hr2;obtain rfl:=Option.some.inj hr2;rw[(MapKept.heap_alloc m.w _).2 L.blk hlt,hb]at hb2;obtain rfl:=Option.some.inj hb2;have G1:=(G.bag (z':=((X,exA (.map es clock)),bs)) (B:=[]) rfl ⟨hU,L,hL,hbs,_,hb,rfl⟩ (.refl _)).perm (hp2 _).symm;obtain⟨G2,hle2⟩:=G1.newRaw (.mapIter (some L.blk) clock #[] clock) _ rfl
 obtain⟨G3,hle3⟩:=G2.note (λv z=>v= .mp X/\z= .map (some L.blk)) (λv z h=>by
  obtain⟨rfl,rfl⟩:=h;exact⟨rfl,.inl hU,_,rfl,λL' hL'=>by rw[hL]at hL';cases hL';rfl⟩) _ rfl
 unfold Oper.wp
 have h5:(execOp a.eval ⟨some d,.range t x,ty,pos,after,none⟩).run P m.w= .ok (.value (.pointer (some ⟨m.w.heap.size,0,none⟩))) (m.w.alloc (.mapIter (some L.blk) clock #[] clock)):=by
  simp[execOp,hA,hrun,Sem.run_bind,Result.andThen_ok,Sem.run_pure]
 rw[h5];exact⟨(L.blk,m.w.heap.size,.map es clock,.mapIter (some L.blk) clock #[] clock,N+1,N,_),hR2,_,N+1+1,_,rfl,by simp only[List.map_cons,List.map_set];rw[show Zs.map (·.1)=S from h2],G3,(h4.mono (hle2.trans hle3)).put (BS hd) (Ax _)⟩
theorem Ng{m0 m:Mem}{N:Nat}{Zs:Zs}{ex:List Nat}(h3:Good m0 m N Zs ex)(h2:Zs.map (·.1)=S)(hX:At S p (X,exA M))(hZ:At S q (Z,.raw r I))(hY:At S u (Y,lkA X b)):
  m.w.heap[b]?=some M/\m.w.heap[r]?=some I/\∃L,m.μ X=some L/\L.blk=b:=by
 obtain⟨bs,hz⟩:=hX.z h2;obtain⟨bs2,hz2⟩:=hZ.z h2;obtain⟨bs3,hz3⟩:=hY.z h2;obtain⟨hU,L,hL,_,o,hb,rfl⟩:=h3.obj _ (List.mem_of_getElem? hz);obtain⟨_,_,hr⟩:=h3.obj _ (List.mem_of_getElem? hz2);obtain⟨_,_,hv⟩:=h3.obj _ (List.mem_of_getElem? hz3);obtain⟨_,_,A,hA,hA2⟩:=hv (.mp X) (.map (some b)) ⟨rfl,rfl⟩;simp only[List.cons.injEq,and_true]at hA;rw[hA2 L hL]at hA;injection hA with hA
 injection hA with hA
 subst hA;exact⟨hb,hr,L,hL,rfl⟩
theorem AOps.next[DecidableEq κ](h:Rng C e g s b left cnt M I)(hit:Rd none T it (.prim (.pointer (some ⟨r,0,none⟩))))(hX:At S p (X,exA M))(hZ:At S q (Z,.raw r I))(hY:At S u (Y,lkA X b))(hd:AP (some d) nt=true)(hone:∀x v,g x=some v->v.oneCell'=true)
  (k0:(∀x,C.ok x->left x=false)->AOps ro P nt ops Q rest ⟨AN T (some d) (.tup [.prim (.bool false)]),S⟩)
  (k1:∀x v I' cnt',C.ok x->left x=true->g x=some v->PlainV P e v->cnt'<cnt->Rng C e g s b (λy=>left y&& !decide (y=x)) cnt' M I' ->JN C b M I' x v->AOps ro P nt ops Q rest ⟨AN T (some d) (.tup [.prim (.bool true),C.av x,.prim v]),S.set q (Z,.raw r I')⟩):
  AOps ro P nt ops Q (⟨some d,.next it false,ty,pos,after,none⟩::rest) ⟨T,S⟩:=by
 rintro m0 a w ⟨m,N,Zs,rfl,h2,h3,h4⟩
 refine wpListIn_plain rfl λK hK=>Dw (nt:=nt) (m0:=m0) (β:=Option (κ×Value×Obj×Nat)) (C:=λz=>match z with|none=>∀x,C.ok x->left x=false|some (x,v,I',cnt')=>C.ok x/\left x=true/\g x=some v/\PlainV P e v/\cnt'<cnt/\Rng C e g s b (λy=>left y&& !decide (y=x)) cnt' M I' /\JN C b M I' x v) (sE:=λz=>match z with|none=>⟨AN T (some d) (.tup [.prim (.bool false)]),S⟩|some (x,v,I',cnt')=>⟨AN T (some d) (.tup [.prim (.bool true),C.av x,.prim v]),S.set q (Z,.raw r I')⟩) (by simp) ?_ λa' w' ⟨z,hz,hrel⟩=>hK _ _ (by
  match z,hz,hrel with
  |none,hz,hrel=>exact k0 hz m0 _ _ hrel
  |some (x,v,I',cnt'),⟨c1,c2,c3,c4,c5,c6,c7⟩,hrel=>exact k1 x v I' cnt' c1 c2 c3 c4 c5 c6 c7 m0 _ _ hrel)
 have hita:=(h4.ev ((Evs.cons hit .nil).all (it,.prim (.pointer (some ⟨r,0,none⟩))) (by simp))).prim;obtain⟨hb,hr,_⟩:=Ng h3 h2 hX hZ hY;unfold Oper.wp;rcases h.next hb hr ty with⟨hl,hrun⟩|⟨x,v,I',cnt',c1,c2,c3,c4,c5,c6,c7,w1,hal,hrun⟩
 ·have h5:(execOp a.eval ⟨some d,.next it false,ty,pos,after,none⟩).run P m.w= .ok (.value (.tuple #[.bool false])) m.w:=by
   simp[execOp,hita,hrun,Sem.run_bind,Result.andThen_ok,Sem.run_pure]
  rw[h5];exact⟨none,hl,m,N,Zs,rfl,h2,h3,h4.put (BS hd) ⟨_,rfl,(A7 rfl).2 ⟨_,_,[],[],rfl,rfl,Ax _,⟨rfl,rfl⟩⟩⟩⟩
 ·have h5:(execOp a.eval ⟨some d,.next it false,ty,pos,after,none⟩).run P m.w= .ok (.value (.tuple #[.bool true,C.val x,v])) (w1.putObj r I'):=by
   simp[execOp,hita,hrun,Sem.run_bind,Result.andThen_ok,Sem.run_pure]
  rw[h5]
  obtain⟨m1,hm1w,G1,hle1⟩:∃m1:Mem,m1.w=w1/\Good m0 m1 N Zs []/\m.Le m1:=by
   rcases hal with rfl|rfl
   ·exact⟨m,rfl,h3,.refl m⟩
   ·exact⟨{m with w:={m.w with drawn:=m.w.drawn+1}},rfl,h3.draw _,⟨λ_ h=>h,λ_ _ _ h=>h,λ_ h=>⟨h,rfl⟩⟩⟩
  subst hm1w;obtain⟨bs2,hz2⟩:=hZ.z h2;obtain⟨R,hp1,hp2⟩:=BB hz2;obtain⟨G2,hle2⟩:=Good.setRaw (G1.perm hp1) I' _ rfl;exact⟨some (x,v,I',cnt'),⟨c1,c2,c3,c4,c5,c6,c7⟩,_,N,Zs.set q ((Z,.raw r I'),bs2),rfl,by rw[List.map_set,show Zs.map (·.1)=S from h2],G2.perm (hp2 _).symm,(h4.mono (hle1.trans hle2)).put (BS hd) ⟨_,rfl,(A7 rfl).2 ⟨_,_,[],[],rfl,rfl,Ax _,(A7 (C.nt x)).2 ⟨_,_,[],[],rfl,rfl,C.avv _ x,(A7 rfl).2 ⟨_,_,[],[],rfl,rfl,Ax _ (hone x v c3),⟨rfl,rfl⟩⟩⟩⟩⟩⟩
theorem OpT.entry{x0:κ}{v:Value}(h:JN C b M I x0 v)(hone:v.oneCell'=true):OpT P ⟨dst,.entry it,ty,pos,after,none⟩ [(it,.prim (.pointer (some ⟨r,0,none⟩)))] [(p,(X,exA M)),(q,(Z,.raw r I)),(u,(Y,lkA X b))] (.tup [C.av x0,.prim v]) []:=by
 intro nt m0 T S a w hx hS hd hr;obtain⟨m,N,Zs,rfl,h2,h3,h4⟩:=hr
 have hS':∀{i:Nat} {z:AA},(i,z)∈[(p,((X,exA M):AA)),(q,(Z,.raw r I)),(u,(Y,lkA X b))]->∃bs,Zs[i]?=some (z,bs):=λ{i z} hm=>by
  have:=hS (i,z) hm;rw[<-show Zs.map (·.1)=S from h2,List.getElem?_map,Option.map_eq_some_iff]at this;obtain⟨⟨z1,bs⟩,hz,rfl⟩:=this;exact⟨bs,hz⟩
 obtain⟨b1,hz1⟩:=hS' (i:=p) (z:=(X,exA M)) (by simp);obtain⟨b2,hz2⟩:=hS' (i:=q) (z:=(Z,.raw r I)) (by simp);obtain⟨b3,hz3⟩:=hS' (i:=u) (z:=(Y,lkA X b)) (by simp);obtain⟨hU,L,hL,_,o,hb,rfl⟩:=h3.obj _ (List.mem_of_getElem? hz1);obtain⟨_,_,hr⟩:=h3.obj _ (List.mem_of_getElem? hz2);obtain⟨_,_,hv⟩:=h3.obj _ (List.mem_of_getElem? hz3);obtain⟨_,_,A,hA,hA2⟩:=hv (.mp X) (.map (some b)) ⟨rfl,rfl⟩;simp only[List.cons.injEq,and_true]at hA;rw[hA2 L hL]at hA;injection hA with hA
 injection hA with hA
 subst hA;have hita:=(h4.ev (hx (it,.prim (.pointer (some ⟨r,0,none⟩))) (by simp))).prim;have hrun:=h m.w r hb hr;unfold Oper.wp
 have h5:(execOp a.eval ⟨dst,.entry it,ty,pos,after,none⟩).run P m.w= .ok (.value (.tuple #[C.val x0,v])) m.w:=by
  simp[execOp,hita,hrun,Sem.run_bind,Result.andThen_ok,Sem.run_pure]
 rw[h5];exact⟨m,N,Zs,rfl,h2,h3,h4.put hd ⟨_,rfl,(A7 (C.nt x0)).2 ⟨_,_,[],[],rfl,rfl,C.avv _ x0,(A7 rfl).2 ⟨_,_,[],[],rfl,rfl,Ax _ hone,⟨rfl,rfl⟩⟩⟩⟩⟩
theorem W.entry{x0:κ}{v:Value}(av:AV)(h:JN C b M I x0 v)(hone:v.oneCell'=true)(hit:Rd c T it (.prim (.pointer (some ⟨r,0,none⟩))))(hX:At S p (X,exA M))(hZ:At S q (Z,.raw r I))(hY:At S u (Y,lkA X b))(hav:av=C.av x0:=by rfl):
  Stp c P ⟨dst,.entry it,ty,pos,after,none⟩ T S [(it,.prim (.pointer (some ⟨r,0,none⟩)))] [(p,(X,exA M)),(q,(Z,.raw r I)),(u,(Y,lkA X b))] (.tup [av,.prim v]) []:=
 hav▸⟨.entry h hone,.cons hit .nil,.cons hX (.cons hZ (.cons hY .nil))⟩
theorem PJ[DecidableEq κ][TMapK P t k e z0](n:κ){av:AV}(h:Rng C e g s b left cnt M I)(hn:C.ok n)(hx:Rd none T x (.mp X))(hy:Rd none T y av)(hX:At S p (X,exA M))(hZ:At S q (Z,.raw r I))(hY:At S u (Y,lkA X b))(hd:AP dst nt=true)
  (kk:∀M' cnt',cnt' <=cnt->Rng C e (Jk g n) (if(g n).isSome then s-1 else s) b (λy=>left y&& !decide (y=n)) cnt' M' I->AOps ro P nt ops Q rest ⟨AN T dst .dead,S.set p (X,exA M')⟩) (hav:av=C.av n:=by rfl):
  AOps ro P nt ops Q (⟨dst,.call ⟨.builtin .delete,#[x,y],#[t,k]⟩,ty,pos,after,none⟩::rest) ⟨T,S⟩:=by
 subst hav;rintro m0 a w ⟨m,N,Zs,rfl,h2,h3,h4⟩;refine wpListIn_plain rfl λK hK=>Dw (β:=Obj×Nat) (C:=λz=>z.2<=cnt/\Rng C e (Jk g n) (if(g n).isSome then s-1 else s) b (λy=>left y&& !decide (y=n)) z.2 z.1 I) (sE:=λz=>⟨AN T dst .dead,S.set p (X,exA z.1)⟩) (by simp) ?_ λa' w' ⟨z,hz,hrel⟩=>hK _ _ (kk z.1 z.2 hz.1 hz.2 m0 _ _ hrel)
 have hE:=(Evs.cons hx (.cons hy .nil)).all;have hxa:VV m (.mp X) (a.eval x) []:=h4.ev (hE (x,.mp X) (by simp));have hya:=C.vav m n _ (h4.ev (hE (y,C.av n) (by simp)));obtain⟨hb,hr,L,hL,rfl⟩:=Ng h3 h2 hX hZ hY;obtain⟨_,_,A,hA,hA2⟩:=hxa;simp only[List.cons.injEq,and_true]at hA;rw[hA2 L hL]at hA;obtain⟨M',cnt',hle,hR,hrun⟩:=h.del (ty:=ty) (TMapK.h (z0:=z0) (t:=t)) hb hr hn;obtain⟨bs,hz⟩:=hX.z h2;obtain⟨R,hp1,hp2⟩:=BB hz;have G:=h3.perm hp1
 have hbs:bs=[L.blk]:=by
  obtain⟨_,L2,hL2,hbs,_⟩:=G.obj _ (List.mem_cons_self ..);rw[hL]at hL2;cases hL2;exact hbs
 obtain⟨G',hle'⟩:=E1 (K':=λo=>o=M') G hL hbs M' rfl _ rfl;unfold Oper.wp
 have h5:(execOp a.eval ⟨dst,.call ⟨.builtin .delete,#[x,y],#[t,k]⟩,ty,pos,after,none⟩).run P m.w= .ok (.value (.tuple #[])) (setBlock m.w L.blk M'):=by
  rw[A8];simp[builtin,hA,hya,hrun,Sem.run_bind,Result.andThen_ok,Sem.run_pure]
 rw[h5];exact⟨(M',cnt'),⟨hle,hR⟩,_,N,Zs.set p ((X,exA M'),bs),rfl,by rw[List.map_set,show Zs.map (·.1)=S from h2],G'.perm (hp2 _).symm,(h4.mono hle').put (BS hd) rfl⟩
theorem N8{code:Code}{K K':Obj->Prop}(X:Nat)(hK:∀o,K o->K' o)(hS:At S p (X,.ob K))(kk:AWP ro P nt code Q ⟨T,S.set p (X,.ob K')⟩):AWP ro P nt code Q ⟨T,S⟩:=
 .ghost (K:=λst'=>st'=⟨T,S.set p (X,.ob K')⟩) (λm0 a w ⟨m,N,Zs,hw,h2,h3,h4⟩=>by
  obtain⟨bs,hz⟩:=hS.z h2;obtain⟨R,hp1,hp2⟩:=BB hz;have G:=h3.perm hp1;obtain⟨hU,L,hL,hbs,o,hb,hKo⟩:=G.obj _ (List.mem_cons_self ..);exact⟨⟨T,S.set p (X,.ob K')⟩,⟨m,N,Zs.set p ((X,.ob K'),bs),hw,by rw[List.map_set,show Zs.map (·.1)=S from h2],(G.bag (z':=((X,.ob K'),bs)) (B:=[]) rfl ⟨hU,L,hL,hbs,o,hb,hK o hKo⟩ (.refl _)).perm (hp2 _).symm,h4⟩,rfl⟩) λst' e=>by subst e;exact kk
end
end
section
open Go.RowKit
section
variable {P:Program}{ty t:TypeId}{pos:String}{after:Array Edge}{dst:Option Tmp}{g:Option (Nat×Bool)}{c:Option (List Bool)}{x y:Operand}{T:List (Nat×AV)}{S:List AA}
theorem OpT.indexArr{q:IntKind}{X i k n sz1 p sz:Nat}(j:Nat){te t':TypeId}{l:List AV}{qi:Int}(h:P.underlying t=some (.array n te))(hn:tSz P te=some sz1)(hj:j<n)(hi:i<l.length)(hq:qi=(j:Int)):OpT P ⟨dst,.indexAddr t x y,ty,pos,after,g⟩ [(x,.ptr X i k),(y,.prim (.int q qi))] [(p,(X,.row t' sz l))] (.ptr X i (k+j*sz1)) []:=
 .pure_ λm a hx hS=>by
  obtain⟨bs,hO⟩:=hS (p,(X,.row t' sz l)) (by simp);obtain⟨L,arr,c,q2,h1,h2,_⟩:=hO.elem (List.getElem?_eq_getElem hi);obtain⟨_,hU,A,e1,h3⟩:=hx (x,.ptr X i k) (by simp);have hy:=(hx (y,.prim (.int q qi)) (by simp)).prim;injection e1 with e1
  simp only at e1 hy;subst hq;rw[h3 L h1]at e1;refine⟨.pointer (some ⟨L.blk,i*L.sz+(k+j*sz1),none⟩),?_,rfl,hU,_,rfl,λL' hL'=>?_⟩
  ·have hlt:(0:Int)<=(j:Int)/\(j:Int)<(n:Int):=by omega
   simp[execOp,e1,hy,Instr.indexAt,Instr.sureAddr,asIntOf,run_underlying h,hlt,Ce hn,Sem.run_bind,Result.andThen_ok,DB,Nat.add_assoc,hj]
  ·rw[h1]at hL';injection hL' with hL';subst hL';rfl
theorem W.indexArr{q:IntKind}{X i k n sz1 p sz:Nat}(j:Nat){te t':TypeId}{l:List AV}{qi:Int}(h:P.underlying t=some (.array n te))(hn:tSz P te=some sz1)(hj:j<n)(hx:Rd c T x (.ptr X i k))(hy:Rd c T y (.prim (.int q qi)))(hS:At S p (X,.row t' sz l))(hi:i<l.length)(hq:qi=(j:Int)):
  Stp c P ⟨dst,.indexAddr t x y,ty,pos,after,g⟩ T S [(x,.ptr X i k),(y,.prim (.int q qi))] [(p,(X,.row t' sz l))] (.ptr X i (k+j*sz1)) []:=⟨.indexArr j h hn hj hi hq,.cons hx (.cons hy .nil),.cons hS .nil⟩
theorem OpT.buildV{u0 u1:Value}(h:∀w,(Instr.build t #[(0,u0),(1,u1)]).run P w= .ok (.agg #[u0,u1]) w)(h0:u0.oneCell'=true)(h1:u1.oneCell'=true):OpT P ⟨dst,.build t #[(0,x),(1,y)],ty,pos,after,g⟩ [(x,.prim u0),(y,.prim u1)] [] (.agg [.prim u0,.prim u1]) []:=
 .pure_ λm a hx _=>by
  have hxa:=(hx (x,.prim u0) (by simp)).prim;have hya:=(hx (y,.prim u1) (by simp)).prim;simp only at hxa hya;refine⟨.agg #[u0,u1],?_,IU [u0,u1] m (by intro u hu;simp only[List.mem_cons,List.not_mem_nil,or_false]at hu;rcases hu with rfl|rfl<;>assumption)⟩;simp[execOp,hxa,hya,h,Sem.run_bind,Sem.run_pure,Result.andThen_ok]
theorem W.buildV{u0 u1:Value}(h:∀w,(Instr.build t #[(0,u0),(1,u1)]).run P w= .ok (.agg #[u0,u1]) w)(hx:Rd c T x (.prim u0))(hy:Rd c T y (.prim u1))(h0:u0.oneCell'=true:=by rfl)(h1:u1.oneCell'=true:=by rfl):
  Stp c P ⟨dst,.build t #[(0,x),(1,y)],ty,pos,after,g⟩ T S [(x,.prim u0),(y,.prim u1)] [] (.agg [.prim u0,.prim u1]) []:=⟨.buildV h h0 h1,.cons hx (.cons hy .nil),.nil⟩
end
end
section
section
variable {P:Program}{dst:Option Tmp}{t ty ty2:TypeId}{pos:String}{after:Array Edge}{g:Option (Nat×Bool)}{x y:Operand}{c:Option (List Bool)}{T:List (Nat×AV)}{S:List AA}
theorem OpT.eqPtrN[hp:TPtr P t]{X p sz:Nat}{t1:TypeId}{l:List AV}(h0:0<l.length):OpT P ⟨dst,.binOp .eql t x y ty2,ty,pos,after,g⟩ [(x,.ptr X 0 0),(y,.prim (.pointer none))] [(p,(X,.row t1 sz l))] (.prim (.bool false)) []:=
 .pure_ λm a hx hS=>by
  obtain⟨bs,hO⟩:=hS (p,(X,.row t1 sz l)) (by simp);obtain⟨L,arr,bs',hL,_,_⟩:=Kh hO h0;obtain⟨_,_,A,hA,hA2⟩:=hx (x,.ptr X 0 0) (by simp);have h2:=(hx (y,.prim (.pointer none)) (by simp)).prim;simp only[List.cons.injEq,and_true]at hA;simp only at h2;rw[hA2 L hL,Nat.zero_mul,Nat.zero_add]at hA;refine⟨.bool false,?_,Ax _ rfl⟩;simp[execOp,hA,h2,Result.andThen_ok,eqGuard,HU]
theorem W.eqPtrN[TPtr P t]{X p sz:Nat}{t1:TypeId}{l:List AV}(hx:Rd c T x (.ptr X 0 0))(hy:Rd c T y (.prim (.pointer none)))(hS:At S p (X,.row t1 sz l))(h0:0<l.length):Stp c P ⟨dst,.binOp .eql t x y ty2,ty,pos,after,g⟩ T S [(x,.ptr X 0 0),(y,.prim (.pointer none))] [(p,(X,.row t1 sz l))] (.prim (.bool false)) []:=⟨.eqPtrN h0,.cons hx (.cons hy .nil),.cons hS .nil⟩
end
section
variable {P:Program}{n nt:Nat}{ops:Array Oper}{Q:Exit->St->Prop}{l rest:List Oper}{acc:List Eff}{T:List (Nat×AV)}{L R S:List AA}{op:Op}{ty:TypeId}{pos:String}{after:Array Edge}{dst:Option Tmp}{xs:List (Operand×AV)}{rS wS:List (Nat×AA)}{f:FuncId}{ats:Array TypeId}{r v:AV}{Sin:List AA}
end
end
end Go.Proofs.YtiidbamlcgbpnaaGreat
