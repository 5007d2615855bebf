/-
  Part 4 of the texts under the law MarkPatches: the layer of abstract values, walks and plain laws. Conditions: those that each theorem names.
-/
import Derived.Test.YtiidbamlcgbpnaaGreatMarkPatchesP3
namespace Go.Proofs.YtiidbamlcgbpnaaGreat
set_option linter.unusedVariables false
set_option linter.unusedSimpArgs false
set_option linter.defProp false
set_option maxRecDepth 10000
set_option maxHeartbeats 4000000
section
section
variable {P:Program}{nt:Nat}{T:List (Nat×AV)}{S:List AB}{ty t k e:TypeId}{pos:String}{after:Array Edge}{d:Nat}{c:Option (List Bool)}{g:Option (Nat×Bool)}{x y:Operand}{X Y p q:Nat}{gf:Int->Option Value}{s:Nat}{z0:Value}{K:AV->Value->Prop}{v:AV}
theorem OpT.lookP{n:Int}{u:Value}[TMap P t k e z0](hv:(gf n).getD z0=u)(hn: -9223372036854775808<=n/\n<=9223372036854775807)(hone:u.oneCell'=true)(hK:K v u):
  OpT P ⟨some d,.lookup t x y false,ty,pos,after,g⟩ [(x,.mp X),(y,.prim (.int .i64 n))] [(p,(X,.ob (MapF P k e gf s))),(q,(Y,.tv K))] v []:=by
 subst hv;intro nt m0 T S a w hx hS hd hr;have h1:=OpT.lookup1 (dst:=some d) (ty:=ty) (pos:=pos) (after:=after) (g:=g) (p:=p) (x:=x) (y:=y) (X:=X) (s:=s) (gf:=gf) (TMap.h (t:=t) (z0:=z0)) (TMap.hk (t:=t) (z0:=z0)) (TMap.hz (t:=t)) (TMap.h0 (P:=P) (t:=t)) hn hone nt m0 T S a w hx (λq' hq'=>hS q' (by simp only[List.mem_singleton]at hq';simp[hq'])) hd hr;refine Oper.wp_mono ?_ h1;rintro a' w' ⟨m,N,Z,rfl,h2,h3,h4⟩;have hq:S[q]?=some (Y,AO.tv K):=hS (q,(Y,AO.tv K)) (by simp);have h2':Z.map (·.1)=S:=h2;rw[<-h2',List.getElem?_map,Option.map_eq_some_iff]at hq;obtain⟨⟨z,bs⟩,hz,hze⟩:=hq;have hze:z=(Y,AO.tv K):=hze;subst hze;obtain⟨_,_,hO⟩:=h3.obj _ (List.mem_of_getElem? hz);refine⟨m,N,Z,rfl,h2,h3,h4.1,h4.2.1,λe v' he=>?_⟩;simp only[AM,AT]at he;split at he
 ·rename_i e';subst e'
  injection he with he;subst he
  obtain⟨u',h5,h6⟩:=h4.2.2 e (.prim ((gf n).getD z0)) (by simp only[AM,AT,if_true]);refine⟨u',h5,?_⟩;rw[h6.prim];exact hO _ _ hK
 ·rename_i e'
  exact h4.2.2 e v' (by simp only[AM,AT,if_neg e'];exact he)
theorem W.lookP{n:Int}{u:Value}(v:AV)[TMap P t k e z0](hv:(gf n).getD z0=u)(hn: -9223372036854775808<=n/\n<=9223372036854775807)(hone:u.oneCell'=true)(hK:K v u)(hx:Rd c T x (.mp X))(hy:Rd c T y (.prim (.int .i64 n)))(hSp:At S p (X,.ob (MapF P k e gf s)))(hSq:At S q (Y,.tv K)):
  Stp c P ⟨some d,.lookup t x y false,ty,pos,after,g⟩ T S [(x,.mp X),(y,.prim (.int .i64 n))] [(p,(X,.ob (MapF P k e gf s))),(q,(Y,.tv K))] v []:=
 ⟨.lookP hv hn hone hK,.cons hx (.cons hy .nil),.cons hSp (.cons hSq .nil)⟩
end
end
section
theorem St.nilT{nt d:Nat}{st:St}{as bs:List AV}(t:TypeId)(sz:Nat)(hd:AP st.T d=some (.agg as))(hI:Ics (NilB t sz) as bs):Dc nt st λst'=>st'=⟨(d,.agg bs)::st.T,st.S⟩:=by
 rintro m0 a w ⟨m,N,Z,rfl,h2,h3,h4⟩;refine⟨⟨(d,.agg bs)::st.T,st.S⟩,⟨m,N,Z,rfl,h2,h3,h4.1,h4.2.1,λe v' he=>?_⟩,rfl⟩;rw[AT]at he;split at he
 ·rename_i e';subst e'
  injection he with he;subst he
  obtain⟨u,h5,cells,h6,h7⟩:=h4.2.2 _ _ hd
  exact⟨u,h5,cells,h6,Ics.vcs (Mem.Le.refl m) (λa b h c bs k=>by
   cases h;obtain⟨⟨rfl,_⟩,rfl⟩:=k;exact⟨rfl,none,0,rfl,Nat.le_refl _,by simp,λh0=>by simp at h0⟩) rfl hI h7⟩
 ·exact h4.2.2 e v' he
section
variable {ro:Option Nat}{P:Program}{nt:Nat}{c:Code}{Q:Exit->St->Prop}{T:List (Nat×AV)}{S:List AB}{ops:Array Oper}{rest:List Oper}{as bs:List AV}
theorem AOps.nilT(d:Nat)(t:TypeId)(sz:Nat)(hI:Ics (NilB t sz) as bs)(k:AOps ro P nt ops Q rest ⟨(d,.agg bs)::T,S⟩)(hd:AP T d=some (.agg as):=by rfl):AOps ro P nt ops Q rest ⟨T,S⟩:=.ghost (St.nilT (st:=⟨T,S⟩) t sz hd hI) λst' e=>by subst e;exact k
end
end
end Go.Proofs.YtiidbamlcgbpnaaGreat
