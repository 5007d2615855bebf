/-
  Part 6 of the texts under the law TopSaved: the layer of abstract values, walks and plain laws. Conditions: those that each theorem names.
-/
import Derived.Test.YtmkahplhnbbgmaaGreatTopSavedP5
namespace Go.Proofs.YtmkahplhnbbgmaaGreat
open Tryz
set_option linter.unusedVariables false
set_option linter.unusedSimpArgs false
set_option linter.defProp false
set_option maxRecDepth 10000
set_option maxHeartbeats 4000000
variable {ks:List Kind}
variable {w:Wd}
variable {l:List Comp}
variable {cs:List Comp}
variable {i:Nat}
variable {s:Sys}
variable {α:Type}
variable {index:Int}
variable {e:Ent}
variable {n:Int}
def F4(ks:List Kind)(c:Cmd):List Comp×Int:=
 if c.act=0 then(if c.comps.length=1 then Eb ks c.comps else([],3))else
 if c.act=1 then(if c.kind<0\/(ks.length:Int)<=c.kind then([],1)else([],0))else
 if c.act=2 then([],0)else if c.act=3 then Eb ks c.comps else([],1)
def Hy(ks:List Kind):List Cmd->Int
 |[]=>0
 |c::l=>if(F4 ks c).2=0 then Hy ks l else(F4 ks c).2
def Qu(w:Wd)(l:List Cmd):Int:=if E6 w≠0 then E6 w else if 131072<l.length then 2 else Hy w.kinds l
theorem Ol:∀{l:List Cmd},Hy ks l=0↔∀c∈l,(F4 ks c).2=0
 |[]=>by simp[Hy]
 |c::l=>by
  rw[Hy];split
  ·rename_i h
   rw[Ol,List.forall_mem_cons];exact⟨λg=>⟨h,g⟩,λg=>g.2⟩
  ·rename_i h
   rw[List.forall_mem_cons];exact⟨λg=>absurd g h,λg=>absurd g.1 h⟩
theorem cmdErr_iff{l:List Cmd}:Qu w l=0↔WdOK w/\l.length<=131072/\∀c∈l,(F4 w.kinds c).2=0:=by
 unfold Qu;split
 ·rename_i h
  exact⟨λe=>absurd e h,λe=>absurd ((Ck w).2 e.1) h⟩
 ·rename_i h
  have h:E6 w=0:=Da.1 h;split
  ·rename_i h2
   exact⟨λe=>(by cases e),λe=>(by omega)⟩
  ·rename_i h2
   rw[Ol];exact⟨λe=>⟨(Ck w).1 h,by omega,e⟩,λe=>e.2.2⟩
def Ja(w v:Wd)(e:Int):Wd:=if e=0 then v else w
def JZ(w:Wd)(c:Cmd):Wd×Ent×Bool:=
 if c.act=0 then(Ja w (Ga w c.ent (c.comps.getD 0 ⟨0,[]⟩)).1 (Ga w c.ent (c.comps.getD 0 ⟨0,[]⟩)).2,⟨0,0⟩,decide ((Ga w c.ent (c.comps.getD 0 ⟨0,[]⟩)).2=0))else
 if c.act=1 then(Ja w (I2 w c.ent c.kind).1 (I2 w c.ent c.kind).2,⟨0,0⟩,decide ((I2 w c.ent c.kind).2=0))else
 if c.act=2 then(Ja w (Hk w c.ent).1 (Hk w c.ent).2,⟨0,0⟩,decide ((Hk w c.ent).2=0))else
 (Ja w (GP w c.comps).1 (GP w c.comps).2.2,(GP w c.comps).2.1,decide ((GP w c.comps).2.2=0))
def Gc:Wd->List Cmd->Wd×List Ent×List Bool
 |w,[]=>(w,[],[])
 |w,c::l=>((Gc (JZ w c).1 l).1,(if(JZ w c).2.2=true/\c.act=3 then(JZ w c).2.1::(Gc (JZ w c).1 l).2.1 else(Gc (JZ w c).1 l).2.1),(JZ w c).2.2::(Gc (JZ w c).1 l).2.2)
theorem R7{c:Comp}(hk:Bs ks=0)(h:(Eb ks [c]).2=0):Ns ks c:=by
 unfold Eb at h;rw[AI (by simp[hk])]at h;split at h
 ·rename_i h1;exact absurd h h1
 ·rename_i h1
  have h1:(FR ks [] [] [c]).2=0:=Da.1 h1;rw[FR]at h1;split at h1
  ·cases h1
  ·rename_i g1
   rw[AI (by simp)]at h1;split at h1
   ·cases h1
   ·rename_i k hk2
    split at h1
    ·rename_i g2;exact absurd h1 g2
    ·rename_i g2
     exact⟨by omega,by omega,k,hk2,Da.1 g2⟩
theorem Qc:∀{l pre out:List Comp},(FR ks pre out l).2=0->(∀a∈out,∃k,ks[a.kind.toNat]?=some k/\Dl k a.vals=true)->∀a∈(FR ks pre out l).1,∃k,ks[a.kind.toNat]?=some k/\Dl k a.vals=true
 |[],pre,out,h,h1=>h1
 |c::l,pre,out,h,h1=>by
  rw[FR]at h⊢;split at h
  ·cases h
  ·rename_i g1
   rw[AI g1];split at h
   ·cases h
   ·rename_i g2
    rw[AI g2];split at h
    ·cases h
    ·rename_i k hk
     split at h
     ·rename_i g3;exact absurd h g3
     ·rename_i g3
      (try simp only[hk])
      rw[AI g3];refine Qc h λa ha=>?_
      rcases AL.1 ha with ha|ha
      ·exact h1 a ha
      ·rw[AY.1 ha]
       exact⟨k,hk,(G9 (Da.1 g3)).1⟩
theorem LJ(h:(Eb ks l).2=0):Ce ks (Eb ks l).1=true:=by
 unfold Eb at h⊢;split at h
 ·rename_i h1;exact absurd h h1
 ·rename_i h1
  rw[AI h1];split at h
  ·rename_i h2;exact absurd h h2
  ·rename_i h2
   rw[AI h2];have h2:(FR ks [] [] l).2=0:=Da.1 h2;obtain⟨p1,p2⟩:=Qb h2 (λ_ h=>by cases h) .nil (λ_ h=>by cases h);have p3:=Qc h2 (λ_ h=>by cases h);refine held_iff.2 ⟨Tx p1,λc hc=>?_⟩;have hc:=(Kk _).mem_iff.1 hc;exact⟨(p2 c hc).1,(p2 c hc).2,p3 c hc⟩
theorem Yy(hw:WdOK w){c:Cmd}(hc:(F4 w.kinds c).2=0):WdOK (JZ w c).1/\(JZ w c).1.kinds=w.kinds:=by
 have hs:∀v e,(e=0->WdOK v/\v.kinds=w.kinds)->WdOK (Ja w v e)/\(Ja w v e).kinds=w.kinds:=λv e h=>by
  unfold Ja;split
  ·rename_i h1;exact h h1
  ·exact⟨hw,rfl⟩
 have hf:∀e,(Ez w.items e<0)\/∃(i:Nat) (it:Item),w.items[i]?=some it/\it.ent=e:=λe=>by
  by_cases hlt:Ez w.items e<0
  ·exact .inl hlt
  ·obtain⟨m,hm⟩:∃m:Nat,Ez w.items e=m:=⟨(Ez w.items e).toNat,by omega⟩
   obtain⟨x,hx,_,rfl⟩:=Kt hm;exact .inr ⟨m,x,hx,rfl⟩
 unfold JZ;unfold F4 at hc;split
 ·rename_i h1
  rw[Ab h1]at hc;split at hc
  ·rename_i h2
   obtain⟨d,hd⟩:=HD.1 h2;rw[hd]at hc⊢;refine hs _ _ λhe=>?_
   rcases hf c.ent with h|⟨i,it,hi,rfl'⟩
   ·exfalso
    replace he:(Ga w c.ent d).2=0:=he;unfold Ga at he;rw[AI (by simp[(Ck w).2 hw]),Ab h]at he;cases he
   ·rw[<-rfl']
    have hfo:=R7 hw.ks hc;show WdOK (Ga w it.ent d).1/\(Ga w it.ent d).1.kinds=_
    rw[cV hw hi hfo];exact⟨cU hw hi hfo,rfl⟩
  ·cases hc
 ·rename_i h1
  rw[AI h1]at hc;split
  ·rename_i h2
   refine hs _ _ λhe=>?_
   rcases hf c.ent with h|⟨i,it,hi,rfl'⟩
   ·exfalso
    unfold I2 at he;rw[AI (by simp[(Ck w).2 hw]),Ab h]at he;cases he
   ·rw[<-rfl']at he⊢
    rw[Su hw hi]at he⊢;split at he
    ·rename_i h3
     rw[Ab h3];exact⟨Mb hw hi (Sg (hw.it it (B0 hi)).2.2.2.2),rfl⟩
    ·cases he
  ·rename_i h2
   rw[AI h2]at hc;split
   ·rename_i h3
    refine hs _ _ λhe=>?_
    rcases hf c.ent with h|⟨i,it,hi,rfl'⟩
    ·exfalso
     unfold Hk at he;rw[AI (by simp[(Ck w).2 hw]),Ab h]at he;cases he
    ·rw[<-rfl']at he⊢
     rw[Sb hw hi];exact⟨Yc hw hi,rfl⟩
   ·rename_i h3
    rw[AI h3]at hc;split at hc
    ·refine hs _ _ λhe=>?_
     obtain⟨cs,hcs⟩:∃cs,Eb w.kinds c.comps=(cs,0):=⟨(Eb w.kinds c.comps).1,Prod.ext rfl hc⟩;have hh:=LJ hc;rw[hcs]at hh;cases hfr:(DS w).2 with
     |true=>
      rw[Wi hw hfr hcs];exact⟨Pj hw hfr hh,rfl⟩
     |false=>
      exfalso;unfold GP at he;rw[AI (by simp[(Ck w).2 hw]),AI (by simp[hc]),Ab hfr]at he;cases he
    ·cases hc
theorem YP:∀{l:List Cmd} {w:Wd},WdOK w->(∀c∈l,(F4 w.kinds c).2=0)->WdOK (Gc w l).1/\(Gc w l).1.kinds=w.kinds
 |[],w,hw,_=>⟨hw,rfl⟩
 |c::l,w,hw,hc=>by
  obtain⟨h1,h2⟩:=Yy hw (hc c (by simp));obtain⟨h3,h4⟩:=YP (l:=l) h1 λd hd=>by rw[h2];exact hc d (by simp[hd])
  exact⟨h3,h4.trans h2⟩
theorem Vv{k:Int}{c:Comp}(h:i<cs.length)(e:cs[i]=c):Dj (cs.drop i) k=if c.kind=k then some c else Dj (cs.drop (i+1)) k:=by
 rw[Dp h,e];unfold Dj;rw[RZ];by_cases e:c.kind=k<;>simp[e]
theorem fQ(ks:List Kind)(s:Sys)(e:Ent)(cs:List Comp)(r:UInt64×UInt64)(K mk E me:Nat)(index k:Int)(hl:cs.length<=1099511627776):PS prog 197 [.fp (Rf ks s e (B3 false false cs) r (.sl K 0 mk) (.sl E 0 me) index).cells,iA k] (Av false (MZ cs k)):=by
 have hcm:(cs.map (Ae false)).length=cs.length:=AD _;obtain⟨res,hres⟩:=nm (Dj cs k);unfold MZ;rw[hres];refine Sp (nt:=36) (res:=[.tmp 4]) func197 λSf=>?_
 refine KK ?_;refine Cd (λi:Nat=>⟨[(0,.fp (Rf ks s e (B3 false false cs) r (.sl K 0 mk) (.sl E 0 me) index).cells),(1,iA k),(11,iA (cs.map (Ae false)).length),(12,iA i)],Sf⟩) (λi=>i<=cs.length/\Dj (cs.drop i) k=res) (λi=>cs.length-i) 0 ⟨Ap _,hres⟩ ?_;rintro i ⟨hi,hr⟩;refine KK ?_;refine AC rfl (λhc=>?_) (λhc=>?_)
 ·have h:i<cs.length:=by rw[AS,hcm]at hc;omega
  obtain⟨⟨ck,cv⟩,hce⟩:=nm (cs[i]);rw[Vv h hce]at hr;dsimp only at hr;have hat:(cs.map (Ae false))[i]?=some (Ae false ⟨ck,cv⟩):=by rw[Ac,AX h,hce];rfl
  have him:i<(cs.map (Ae false)).length:=by omega
  refine KK ?_;by_cases e:ck=k
  ·rw[Ab e]at hr
   subst hr;refine An rfl (BP e) ?_;refine JC ?_;refine Ah ?_;rfl
  ·rw[AI e]at hr
   refine AB rfl (Au e) ?_;refine KK ?_;refine Bb (i+1) ⟨h,hr⟩
 ·have h:i=cs.length:=by rw[AZ,hcm]at hc;omega
  rw[h,CY]at hr;have hr:res=none:=hr.symm;subst hr;refine JC ?_;exact Cp [.prim (.slice none 0 0)] [Av false []] (.cons (.cell .nil) .nil)
def jf(cs:List Comp)(a:Arg):Prop:=a.has=true->0<=a.ref.field/\a.ref.field<(MZ cs a.ref.kind).length
theorem d7(ks:List Kind)(s:Sys)(e:Ent)(cs:List Comp)(r:UInt64×UInt64)(K mk E me:Nat)(index:Int)(a:Arg)(hl:cs.length<=1099511627776)(ha:jf cs a):PS prog 194 [.fp (Rf ks s e (B3 false false cs) r (.sl K 0 mk) (.sl E 0 me) index).cells,Dz a] (iA (Ni cs a)):=by
 obtain⟨ah,an,⟨rk,rf⟩⟩:=a;unfold Ni;refine Sp (nt:=19) (res:=[.tmp 4]) func194 λSf=>?_
 cases ah
 ·refine WK ?_;refine WK ?_;refine Bt ?_;refine KK ?_
  refine AB rfl rfl ?_;refine JC ?_;refine Ah ?_;rfl
 ·obtain⟨h1,h2⟩:=ha rfl
  dsimp only at h1 h2;have hv:=fQ ks s e cs r K mk E me index rk hl;obtain⟨l,hle⟩:=nm (MZ cs rk);rw[hle]at hv h2;obtain⟨j,hj⟩:∃j:Nat,rf=j:=⟨rf.toNat,by omega⟩;subst hj;have hjl:j<l.length:=by omega
  have hat:(l.map iA)[j]?=some (iA l[j]):=by rw[Ac,AX hjl];rfl
  have hlm:j<(l.map iA).length:=by rw[AD];exact hjl
  refine WK ?_;refine WK ?_;refine Bt ?_;refine KK ?_;refine An rfl rfl ?_;refine RU ?_;(iterate 4 refine RK ?_);refine I6 (h:=hv) (k:=?_);(iterate 6 refine RK ?_);refine RGo.nil (by kernel_rfl) ?_;refine RT ?_;refine Ah ?_;rw[Ab rfl,hle,B4,Ct,AX hjl];rfl
def Ti(cs:List Comp)(j V:Nat)(c:Comp):List AV:=(cs.map (Ae true)).set j (.agg [iA c.kind,.sl V 0 (c.vals.map iA).length])
theorem cE(ks:List Kind)(s:Sys)(e:Ent)(cs:List Comp)(r:UInt64×UInt64)(K mk E me:Nat)(index:Int)(X C V j:Nat)(c:Comp)(hs:FI cs)(hj:cs[j]?=some c)(hl:cs.length<=1099511627776):
  Spec prog 197 [.ptr X 0 0,iA c.kind] [(X,.row 235 16 [Rf ks s e (.sl C 0 cs.length) r (.sl K 0 mk) (.sl E 0 me) index]),(C,.row 42 2 (Ti cs j V c))]
   λr' S'=>r'= .sl V 0 (c.vals.map iA).length/\S'=[(X,.row 235 16 [Rf ks s e (.sl C 0 cs.length) r (.sl K 0 mk) (.sl E 0 me) index]),(C,.row 42 2 (Ti cs j V c))]:=by
 obtain⟨hjl,hje⟩:=AE.1 hj;have hrl:(Ti cs j V c).length=cs.length:=by simp[Ti]
 have hrj:(Ti cs j V c)[j]?=some (.agg [iA c.kind,.sl V 0 (c.vals.map iA).length]):=BU (by simpa using hjl)
 have hri:∀i (h:i<j),(Ti cs j V c)[i]?=some (Ae true (cs[i]'(by omega))):=λi h=>by
  unfold Ti;rw[CX (by omega),Ac,AX (by omega)];rfl
 have hne:∀i (h:i<j),(cs[i]'(by omega)).kind≠c.kind:=λi h=>by
  have:=CJ.1 hs i j (by omega) hjl h;rw[hje]at this;omega
 refine Sp (nt:=36) (res:=[.tmp 4]) func197 λSf=>?_
 refine KK ?_;refine Cd (λi:Nat=>⟨[(0,.ptr X 0 0),(1,iA c.kind),(11,iA cs.length),(12,iA i)],(X,.row 235 16 [Rf ks s e (.sl C 0 cs.length) r (.sl K 0 mk) (.sl E 0 me) index])::(C,.row 42 2 (Ti cs j V c))::Sf⟩) (λi=>i<=j) (λi=>j-i) 0 (Ap _) ?_;rintro i hi;have hicl:i<cs.length:=by omega
 refine KK ?_;refine An rfl (BP (by omega)) ?_;by_cases e1:i=j
 ·subst e1
  have hat:=hrj;refine KK ?_;refine An rfl (BP rfl) ?_;refine JC ?_;exact Ends.sp [.sl V 0 (c.vals.map iA).length] [(X,_),(C,_)] ⟨rfl,rfl⟩
 ·have hij:i<j:=by omega
  have hat:=hri i hij;have hn:=hne i hij;obtain⟨⟨ck,cv⟩,hce⟩:=nm (cs[i]'(by omega));rw[hce]at hat hn;refine KK ?_;refine AB rfl (Au hn) ?_;refine KK ?_;refine Bb (i+1) hij
abbrev Pq(ks:List Kind)(s:Sys)(e:Ent)(C n:Nat)(r:UInt64×UInt64)(K mk E me:Nat)(index:Int):AO:=.row 235 16 [Rf ks s e (.sl C 0 n) r (.sl K 0 mk) (.sl E 0 me) index]
theorem cD(ks:List Kind)(s:Sys)(e:Ent)(C n:Nat)(r:UInt64×UInt64)(K mk E me:Nat)(index:Int)(X:Nat)(act a b:Int)(h0:0<=act)(h7:act<=7)(ha: -1099511627776<=a/\a<=1099511627776)(hb: -1099511627776<=b/\b<=1099511627776)(hr:r.2.toNat%2=1):
  PO prog 196 [.ptr X 0 0,iA act,iA a,iA b] X (Pq ks s e C n r K mk E me index) (iA (HG act a b r).1) (Pq ks s e C n (HG act a b r).2 K mk E me index):=by
 have hm:=i8 a b;refine Sp (nt:=63) (res:=[.tmp 8]) func196 λSf=>?_
 rcases(show act=0\/act=1\/act=2\/act=3\/act=4\/act=5\/act=6\/act=7 by omega)with rfl|rfl|rfl|rfl|rfl|rfl|rfl|rfl
 ·refine KK ?_
  refine AB rfl rfl ?_;refine KK ?_;refine AB rfl rfl ?_;refine KK ?_;refine AB rfl rfl ?_;refine KK ?_;refine AB rfl rfl ?_;refine KK ?_;refine AB rfl rfl ?_;refine KK ?_;refine AB rfl rfl ?_;refine KK ?_;refine AB rfl rfl ?_;refine JC ?_;exact Ends.sp [iA a] [(X,_)] ⟨rfl,rfl⟩
 ·refine KK ?_
  refine An rfl rfl ?_;refine JC ?_;exact Ends.sp [iA (a+b)] [(X,_)] ⟨rfl,rfl⟩
 ·refine KK ?_
  refine AB rfl rfl ?_;refine KK ?_;refine An rfl rfl ?_
  (iterate 4 refine WK ?_);refine AOps.p (CB (a-b) rfl (by omega) rfl rfl) rfl ?_;refine KK ?_
  refine RT ?_;exact Ends.sp [iA (a-b)] [(X,_)] ⟨rfl,rfl⟩
 ·refine KK ?_
  refine AB rfl rfl ?_;refine KK ?_;refine AB rfl rfl ?_;refine KK ?_;refine An rfl rfl ?_;refine KK ?_;refine BO (h:=(hm ..)) (k:=?_);refine JC ?_;exact Ends.sp [iA (aM a b)] [(X,_)] ⟨rfl,rfl⟩
 ·refine KK ?_
  refine AB rfl rfl ?_;refine KK ?_;refine AB rfl rfl ?_;refine KK ?_;refine AB rfl rfl ?_;refine KK ?_;refine An rfl rfl ?_;refine JC ?_;exact Ends.sp [iA (if b<a then b else a)] [(X,_)] ⟨rfl,rfl⟩
 ·refine KK ?_
  refine AB rfl rfl ?_;refine KK ?_;refine AB rfl rfl ?_;refine KK ?_;refine AB rfl rfl ?_;refine KK ?_;refine AB rfl rfl ?_;refine KK ?_;refine An rfl rfl ?_;refine JC ?_;exact Ends.sp [iA (if a<b then b else a)] [(X,_)] ⟨rfl,rfl⟩
 ·refine KK ?_
  refine AB rfl rfl ?_;refine KK ?_;refine AB rfl rfl ?_;refine KK ?_;refine AB rfl rfl ?_;refine KK ?_;refine AB rfl rfl ?_;refine KK ?_;refine AB rfl rfl ?_;refine KK ?_;refine An rfl rfl ?_;refine KK ?_;by_cases hab:a<b
  ·refine An rfl (BP hab) ?_
   refine JC ?_;exact Ends.sp [iA 1] [(X,_)] ⟨by unfold HG;rw[AI (by decide),AI (by decide),AI (by decide),AI (by decide),AI (by decide),Ab rfl,Ab hab];rfl,by unfold HG;rw[AI (by decide),AI (by decide),AI (by decide),AI (by decide),AI (by decide),Ab rfl]⟩
  ·refine AB rfl (Au hab) ?_
   refine JC ?_;exact Ends.sp [iA 0] [(X,_)] ⟨by unfold HG;rw[AI (by decide),AI (by decide),AI (by decide),AI (by decide),AI (by decide),Ab rfl,AI hab];rfl,by unfold HG;rw[AI (by decide),AI (by decide),AI (by decide),AI (by decide),AI (by decide),Ab rfl]⟩
 ·refine KK ?_
  refine AB rfl rfl ?_;refine KK ?_;refine AB rfl rfl ?_;refine KK ?_;refine AB rfl rfl ?_;refine KK ?_;refine AB rfl rfl ?_;refine KK ?_;refine AB rfl rfl ?_;refine KK ?_;refine AB rfl rfl ?_;refine KK ?_;refine An rfl rfl ?_;refine KK ?_
  have hv:HG 7 a b r=if a<1 then(0,r)else(((Hs r a.toNat).1.toNat:Int),(Hs r a.toNat).2):=by
   unfold HG;rw[AI (by decide),AI (by decide),AI (by decide),AI (by decide),AI (by decide),AI (by decide),Ab rfl]
  rw[hv];by_cases hab:a<1
  ·rw[Ab hab]
   refine An rfl (BP hab) ?_;refine JC ?_;exact Ends.sp [iA 0] [(X,_)] ⟨rfl,rfl⟩
  ·rw[AI hab]
   obtain⟨q,hq⟩:∃q:Nat,a=q:=⟨a.toNat,by omega⟩;subst hq;rw[B4];have hbl:=bO r q (by omega) (by omega) hr;obtain⟨⟨x,r2⟩,hbe⟩:=nm (Hs r q);rw[hbe]at hbl⊢;refine AB rfl (Au hab) ?_;refine JJ ?_;refine BO (h:=(hbl ..)) (k:=?_);refine KO ?_;refine Ai λB=>?_;refine JE ?_
   refine R1 ?_;refine JC ?_;exact Ends.sp [iA x.toNat] [(X,Pq ks s e C n r2 K mk E me index)] ⟨rfl,rfl⟩
theorem Pw(w:World):(binOp .neq 225 (.agg [Value.int .i64 0,Value.int .i64 0].toArray) (.agg [Value.int .i64 0,Value.int .i64 0].toArray)).run prog w= .ok (.bool false) w:=by kernel_rfl
theorem S5(w:World):(binOp .neq 227 (.agg [Value.bool false,Value.int .i64 0,Value.int .i64 0,Value.int .i64 0].toArray) (.agg [Value.bool false,Value.int .i64 0,Value.int .i64 0,Value.int .i64 0].toArray)).run prog w= .ok (.bool false) w:=by kernel_rfl
structure ArgG(ks:List Kind)(reads writes:List Int)(a:Arg):Prop where
 yes:a.has=true->a.n=0/\Nn ks a.ref/\(reads.contains a.ref.kind=true\/writes.contains a.ref.kind=true)
 no:a.has=false-> -1099511627776<=a.n/\a.n<=1099511627776/\a.ref=⟨0,0⟩
structure OpG(ks:List Kind)(reads writes:List Int)(o:Op):Prop where
 lo:0<=o.act
 hi:o.act<=12
 a:ArgG ks reads writes o.a
 b:ArgG ks reads writes o.b
 one:MK o.act=false->o.b=KN
 sets:LR o.act=true->Nn ks o.to/\writes.contains o.to.kind=true
 puts:o.act=8\/o.act=9->0<=o.to.kind/\o.to.kind<ks.length/\o.to.field=0
 none:10<=o.act->o.to=⟨0,0⟩
theorem LZ{k:Kind}{v:List Int}(h:Dl k v=true):v.length=k.fields.length/\∀x∈v,-4294967296<=x/\x<=8589934592:=by
 obtain⟨_,h2,h3⟩:=G9 (k:=k) (v:=v) (by rw[G8 h]);rw[G8 h]at h2;refine⟨h3,λx hx=>?_⟩;have h2:v=List.zipWith Cu k.fields v:=h2;rw[h2]at hx;obtain⟨i,hi,rfl⟩:=Bv hx;rw[List.getElem_zipWith];exact Tl _ _
def RL(s:Sys)(cs:List Comp):Prop:=∀k:Int,s.reads.contains k=true\/s.writes.contains k=true->(Dj cs k).isSome=true
theorem Pv(hh:Ce ks cs=true)(hs:RL s cs){r:Ref}(hr:Nn ks r)(hk:s.reads.contains r.kind=true\/s.writes.contains r.kind=true):
  ∃(c:Comp) (k:Kind),Dj cs r.kind=some c/\c.kind=r.kind/\ks[r.kind.toNat]?=some k/\Dl k c.vals=true/\0<=r.field/\r.field<k.fields.length/\c.vals.length=k.fields.length:=by
 obtain⟨h1,h2,h3,h4⟩:=hr;obtain⟨c,hc⟩:=IZ.1 (hs _ hk);obtain⟨hso,hm⟩:=held_iff.1 hh;obtain⟨hcm,hck⟩:=(Hp hso).1 hc;obtain⟨_,_,k,hkk,hho⟩:=hm c hcm;rw[hck]at hkk;unfold Rq at h4;rw[hkk]at h4;exact⟨c,k,hc,hck,hkk,hho,h3,h4,(LZ hho).1⟩
theorem d8(hh:Ce ks cs=true)(hs:RL s cs){a:Arg}(ha:ArgG ks s.reads s.writes a):jf cs a/\ -1099511627776<=Ni cs a/\Ni cs a<=1099511627776:=by
 unfold jf Ni;cases hb:a.has
 ·obtain⟨h1,h2,h3⟩:=ha.no hb
  exact⟨(λh=>by cases h),h1,h2⟩
 ·obtain⟨h1,h2,h3⟩:=ha.yes hb
  obtain⟨c,k,e1,e2,e3,e4,e5,e6,e7⟩:=Pv hh hs h2 h3;have hv:MZ cs a.ref.kind=c.vals:=by unfold MZ;rw[e1]
  rw[hv];refine⟨λ_=>⟨e5,by omega⟩,?_⟩;rw[Ab rfl,Ct,AX (by omega)];have:=(LZ e4).2 _ (As (l:=c.vals) (n:=a.ref.field.toNat) (by omega));simp only[EY];omega
theorem fH{fs:List Field}:∀{v:List Int} {i:Nat} {x:Int},List.zipWith Cu fs v=v->(∀f,fs[i]?=some f->Cu f x=x)->List.zipWith Cu fs (v.set i x)=v.set i x:=by
 induction fs with
 |nil=>
  intro v i x h _;rw[List.zipWith_nil_left]at h;rw[<-h];rfl
 |cons f fs ih=>
  intro v i x h hx;cases v with
  |nil=>rfl
  |cons y v=>
   rw[J0]at h;injection h with h1 h2
   cases i with
   |zero=>rw[HE,J0,hx f rfl,h2]
   |succ i=>rw[List.set_cons_succ,J0,h1,ih h2 hx]
theorem af{k:Kind}{v:List Int}(h:Dl k v=true)(ho:C9 k=0){f:Field}(hf:k.fields[i]?=some f)(x:Int):Dl k (v.set i (Cu f x))=true:=by
 obtain⟨h1,_⟩:=LZ h;obtain⟨_,h2,_⟩:=G9 (k:=k) (v:=v) (by rw[G8 h]);rw[G8 h]at h2;have hfe:Bf f=0:=(GB ho).2.2 f (B0 hf);unfold Dl;rw[Nc ho (by simp[h1]),fH h2.symm (λg hg=>by rw[hf]at hg;injection hg with hg;subst hg;exact ST hfe x)];simp
theorem PI(hs:FI cs){k:Int}{c:Comp}(hc:Dj cs k=some c)(f:Nat)(v:Int):cs[FD cs k]?=some c/\Ux cs k f v=cs.set (FD cs k) ⟨c.kind,c.vals.set f v⟩:=by
 constructor
 ·obtain⟨hcm,hck⟩:=(Hp hs).1 hc
  obtain⟨i,hi,hie⟩:=Bv hcm;have hat:cs[i]?=some c:=by rw[AX hi,hie]
  obtain⟨h1,h2,h3,h4,_⟩:=QD (key:=Comp.kind) hs hat
  have:FD cs k=i:=cI (Nat.le_of_lt hi) (λj x hj hx=>by
   have:=h3 x (by rw[Em];obtain⟨a,b⟩:=AE.1 hx;exact⟨j,by omega,b⟩);simp;omega) (λx hx=>by rw[hat]at hx;injection hx with hx;subst hx;simp;omega)
  rw[this];exact hat
 ·unfold Ux;rw[hc]
theorem Zz(hk:Bs ks=0)(hh:Ce ks cs=true){r:Ref}{c:Comp}{k:Kind}(hc:Dj cs r.kind=some c)(hkk:ks[r.kind.toNat]?=some k)(h0:0<=r.field)(hf:r.field<k.fields.length)(x:Int):Ce ks (Ux cs r.kind r.field.toNat (Cu (IW ks r) x))=true:=by
 obtain⟨hso,hm⟩:=held_iff.1 hh;obtain⟨hcm,hck⟩:=(Hp hso).1 hc;obtain⟨e1,e2⟩:=PI hso hc r.field.toNat (Cu (IW ks r) x);obtain⟨g1,g2⟩:=dB (key:=Comp.kind) hso e1 (z:=⟨c.kind,c.vals.set r.field.toNat (Cu (IW ks r) x)⟩) rfl;obtain⟨q1,q2,k',hk',hho⟩:=hm c hcm;have hkk':k'=k:=by rw[hck,hkk]at hk';injection hk' with hk';exact hk'.symm
 subst hkk';rw[e2];refine held_iff.2 ⟨g1,λd hd=>?_⟩;rcases(g2 d).1 hd with rfl|⟨hd,_⟩
 ·have hfe:k'.fields[r.field.toNat]?=some (IW ks r):=by
   unfold IW;rw[hkk];dsimp only;rw[Ct,AX (by omega)];rfl
  exact⟨q1,q2,k',hk',af hho ((CQ hk).2 k' (B0 hkk)) hfe x⟩
 ·exact hm d hd
theorem Pm(hs:FI cs)(k:Int)(f:Nat)(v:Int):(Ux cs k f v).map Comp.kind=cs.map Comp.kind:=by
 cases hc:Dj cs k with
 |none=>unfold Ux;rw[hc]
 |some c=>
  obtain⟨e1,e2⟩:=PI hs hc f v;rw[e2,BK];obtain⟨a,b⟩:=AE.1 e1;have:(cs.map Comp.kind)[FD cs k]?=some c.kind:=by rw[Ac,e1];rfl
  obtain⟨a',b'⟩:=AE.1 this;show(cs.map Comp.kind).set _ c.kind=_
  conv=>lhs;rw[<-b']
  rw[Fu]
theorem XS{cs ds:List Comp}(h:RL s cs)(e:ds.map Comp.kind=cs.map Comp.kind):RL s ds:=by
 intro k hk;have h1:=h k hk;unfold Dj at h1⊢;rw[List.find?_isSome]at h1⊢;obtain⟨c,hc,hck⟩:=h1;have:c.kind∈ds.map Comp.kind:=by rw[e];exact Ag.2 ⟨c,hc,rfl⟩
 obtain⟨d,hd,hde⟩:=Ag.1 this;exact⟨d,hd,by simp only[AS]at hck⊢;omega⟩
theorem Xh(k:Kind)(hl:k.fields.length<=1099511627776):PS prog 198 [Bd false k] (Av true (DB k (List.replicate k.fields.length 0)).1):=by
 have hft:=XW k (List.replicate k.fields.length 0);have hfm:(k.fields.map fieldA).length=k.fields.length:=AD _;have hz:(List.replicate k.fields.length (0:Int)).map iA=List.replicate (k.fields.map fieldA).length (iA 0):=by rw[List.map_replicate,hfm]
 refine Sp (nt:=15) (res:=[.tmp 2]) func198 λSf=>?_
 refine RG ?_;refine Bt ?_;refine JB ?_;refine CN λY=>CN λK=>?_
 have hle:Spec prog 107 [Bd false k,.sl K 0 (k.fields.map fieldA).length] [(K,.row 3 1 (List.replicate (k.fields.map fieldA).length (iA 0)))] λr' S'=>r'= .tup [Av true (DB k (List.replicate k.fields.length 0)).1,iA (DB k (List.replicate k.fields.length 0)).2]/\S'=[(K,.row 3 1 (List.replicate (k.fields.map fieldA).length (iA 0)))]:=by
  refine PS.lend hft ?_ (.cons .fz (.cons (Y7 (by rw[<-hz];exact Lds.fz) .here (by simp)) .nil));have hlo:=Kj (f:=iA) (λ_=>rfl) (DB k (List.replicate k.fields.length 0)).1;simp[AV.loose,EN,hlo]
 refine RU ?_;(iterate 4 refine RK ?_);refine RGo.s (W.make rfl rfl (by exact Az) rfl (.inr rfl) rfl rfl (AT _) (by rw[hfm];omega) (by rw[hfm];unfold maxLen;omega)) rfl ?_;refine RH hle (.tup (.cons (.cell (.lst (Y:=Y) rfl) rfl rfl) rfl rfl (.cons (.cell .frz rfl rfl) rfl rfl .nil))) ?_;(iterate 5 refine RK ?_);refine RGo.nil (by kernel_rfl) ?_;refine JC ?_;exact Cp [.sl Y 0 ((DB k (List.replicate k.fields.length 0)).1.map iA).length] [Av true (DB k (List.replicate k.fields.length 0)).1] (.cons (.cell (.sl (p:=1) (by exact Az) rfl)) .nil)
section
open Go.Sort
theorem gM(f:FuncId)(cap:List AV)(cf:Comp->Comp->Int)(hst:Dw cap=true)(hcf:∀x y,PS prog f ((Ae false) x::(Ae false) y::cap) (iA (cf x y)))(X n:Nat)(d:Array Comp)(a b:Nat)(hn:n=d.size)(hab:a<=b)(hb:b<=d.size)(hz:d.size<=1099511627776):PO prog 221 [.sl X 0 n,iA a,iA b,.fn f cap] X (.row 42 2 (d.toList.map (Ae false))) (.tup []) (.row 42 2 ((insertionSort (BF cf) d a b).toList.map (Ae false))):=by
 obtain⟨r,hr⟩:=nm (insertionSort (BF cf) d a b);rw[hr];unfold insertionSort at hr;refine Sp (nt:=53) (res:=[]) func221 λSf=>?_
 refine KK ?_;refine Cq (λ(i:Nat) (e:Array Comp)=>⟨[(0,.sl X 0 n),(1,iA a),(2,iA b),(3,.fn f cap),(8,iA i)],(X,.row 42 2 (e.toList.map (Ae false)))::Sf⟩) (λi e=>i<=max b (a+1)/\a<i/\e.size=d.size/\insOuter (BF cf) a b i e=r) (λi _=>b-i) (a+1) d ⟨by omega,by omega,rfl,hr⟩ ?_;rintro i e ⟨hi,hai,he,hfold⟩;rw[insOuter]at hfold;refine KK ?_;refine AC rfl (λhc=>?_) (λhc=>?_)
 ·have h:i<b:=by have:=AM hc;omega
  rw[Ab h]at hfold;refine KK ?_;refine Cq (λ(j:Nat) (u:Array Comp)=>⟨[(0,.sl X 0 n),(1,iA a),(2,iA b),(3,.fn f cap),(8,iA i),(9,iA j)],(X,.row 42 2 (u.toList.map (Ae false)))::Sf⟩) (λj u=>j<=i/\u.size=d.size/\insInner (BF cf) a j u=insInner (BF cf) a i e) (λj _=>j) i e ⟨AT _,he,rfl⟩ ?_;rintro j u ⟨hj,hu,hin⟩;rcases BI (decide ((a:Int)<(j:Int)))with g|g
  ·have hja:a<j:=by have:=AM g;omega
   obtain⟨q,rfl⟩:∃q,j=q+1:=⟨j-1,by omega⟩;have h1:=CR (Ae false) (d:=u) (i:=q+1) (by omega);have h2:=CR (Ae false) (d:=u) (i:=q) (by omega);have hl:=hcf (u[q+1]!) (u[q]!);rw[insInner]at hin;(repeat refine WF ?_);refine RU ?_;(iterate 11 refine RK ?_);refine BT ?_ (CB (q:Int) (by omega) (by omega) rfl rfl);refine KR ?_;refine Gy (h:=(hl ..)) (k:=?_);refine JK ?_;refine RGo.nil (by kernel_rfl) ?_;(repeat refine WF ?_);refine AC rfl (λhd=>?_) (λhd=>?_)
   ·have hd:(BF cf) u[q+1]! u[q]! =true:=by simpa[g,BF]using hd
    rw[hd,Ab (by simp;omega)]at hin;obtain⟨y,hy⟩:=Ed (Ae false) (d:=u) (i:=q+1) (j:=q) (by omega) u[q]!;(repeat refine WF ?_);refine RU ?_;(iterate 4 refine RK ?_);refine BT ?_ (CB (q:Int) (by omega) (by omega) rfl rfl);refine JK ?_;refine BT ?_ (CB (q:Int) (by omega) (by omega) rfl rfl);(iterate 9 refine RK ?_);refine RGo.s (W.store rfl rfl (by exact Az) hy (by exact rfl)) rfl ?_;refine RGo.nil (by kernel_rfl) ?_
    (iterate 4 refine WK ?_);refine AOps.p (CB (q:Int) (by omega) (by omega) rfl rfl) rfl ?_;refine KK ?_
    refine CA q (swp u (q+1) q) ⟨by omega,by rw[size_swp];exact hu,hin⟩ (h0:=by rw[<-FM (Ae false) (by omega) (by omega)];exact⟨by exact FE,by exact BL⟩)
   ·have hd:(BF cf) u[q+1]! u[q]! =false:=by simpa[g,BF]using hd
    rw[hd,AI (by simp)]at hin;refine KK ?_;refine CA (i+1) u ⟨by omega,by omega,hu,by rw[hin];exact hfold⟩
  ·have hja:j<=a:=by have:=AU g;omega
   have hin2:insInner (BF cf) a j u=u:=by
    cases j with
    |zero=>rfl
    |succ q=>rw[insInner,AI (by simp;omega)]
   rw[hin2]at hin;(repeat refine WF ?_);refine RU ?_;(iterate 17 refine RK ?_);refine RGo.nil (by kernel_rfl) ?_;(repeat refine WF ?_);refine AB rfl (by simp[g]) ?_;refine KK ?_;refine CA (i+1) u ⟨by omega,by omega,hu,by rw[hin];exact hfold⟩
 ·have h:¬i<b:=by have:=AU hc;omega
  rw[AI h]at hfold;subst hfold;refine KK ?_;refine Eo ?_;exact CH [(X,.row 42 2 (e.toList.map (Ae false)))] ⟨rfl,rfl⟩
end
section
open Go.Sort
theorem W7(f:FuncId)(cap:List AV)(cf:Comp->Comp->Int)(hst:Dw cap=true)(hf:∀x y,PS prog f (Ae false x::Ae false y::cap) (iA (cf x y)))(X n limit:Nat)(d:Array Comp)(hn:n=d.size)(h12:d.size<=12):PO prog 168 [.sl X 0 n,iA 0,iA n,iA limit,.fn f cap] X (.row 42 2 (d.toList.map (Ae false))) (.tup []) (.row 42 2 ((insertionSort (BF cf) d 0 d.size).toList.map (Ae false))):=by
 have hs:=gM f cap cf hst hf X n d 0 d.size hn (Ap _) (AT _) (by omega);rw[<-hn]at hs;have hsz:d.size=n:=hn.symm;refine Sp (nt:=148) (res:=[]) func168 λSf=>?_
 refine KK ?_;refine Cd (λ_:Unit=>⟨[(0,.sl X 0 n),(1,iA 0),(2,iA n),(3,iA limit),(4,.fn f cap)],(X,.row 42 2 (d.toList.map (Ae false)))::Sf⟩) (λ_=>True) (λ_=>0) () CZ ?_;rintro _ _;refine AWP.block ?_
 (iterate 4 refine WK ?_);refine AOps.p (CB (n:Int) (by omega) (by omega) rfl rfl) rfl ?_;refine KK ?_
 refine An rfl (BP (by omega)) ?_;refine KK ?_;refine AOps.o4 (h:=(hs ..)) (k:=?_);refine JC ?_;rw[hsz];exact CH [(X,_)] ⟨rfl,rfl⟩
theorem Oa[Inhabited α]{d u:Array α}(h:PermIn 0 d.size d u):u.toList.Perm d.toList:=by
 obtain⟨h1,_,h3⟩:=h;have e1:u.extract 0 d.size=u:=by rw[<-h1];exact Array.extract_size
 rwa[e1,Array.extract_size]at h3
theorem ML[Inhabited α]{lt:α->α->Bool}{u:Array α}{n:Nat}(hn:n=u.size)(h:SortedIn lt 0 n u):u.toList.Pairwise λa b=>lt b a=false:=by
 rw[CJ];intro i j hi hj hij;have hi':i<u.size:=by simpa using hi
 have hj':j<u.size:=by simpa using hj
 have:=h i j (Ap _) hij (by omega);rw[RV u j hj',RV u i hi']at this;simpa using this
theorem NJ(f:FuncId)(cap:List AV)(cf:Comp->Comp->Int)(hst:Dw cap=true)(hS:SWO (BF cf))(hf:∀x y,PS prog f (Ae false x::Ae false y::cap) (iA (cf x y)))(X n:Nat)(l:List Comp)(hn:n=l.length)(h12:l.length<=12):
  ∃u:List Comp,(u.Perm l/\u.Pairwise λa b=>BF cf b a=false)/\PO prog 108 [.sl X 0 n,.fn f cap] X (.row 42 2 (l.map (Ae false))) (.tup []) (.row 42 2 (u.map (Ae false))):=by
 obtain⟨p1,p2⟩:=insertionSort_holds (lt:=BF cf) hS l.toArray 0 l.toArray.size (Ap _) (AT _);have e1:(UInt64.ofNat n).toNat=n:=by rw[Ax];omega
 have hlen:=XK (UInt64.ofNat n) (by rw[e1];omega);rw[e1]at hlen;have hs:=W7 f cap cf hst hf X n (bitsLen n) l.toArray (by simpa using hn) (by simpa using h12);obtain⟨u,hu⟩:=nm (insertionSort (BF cf) l.toArray 0 l.toArray.size);rw[hu]at p1 p2 hs;refine⟨u.toList,⟨by simpa using Oa p1,ML p1.1.symm p2⟩,?_⟩;simp only[List.toList_toArray]at hs;refine Sp (nt:=14) (res:=[]) func108 λSf=>?_
 (iterate 11 refine WK ?_);refine AOps.p (Ge .i64 n rfl (by omega) (by kernel_rfl) (by kernel_rfl) rfl) rfl ?_;refine BE (h:=(hlen ..)) (k:=?_);refine WK ?_;refine Nt (h:=(hs ..)) (k:=?_);refine WK ?_
 refine Eo ?_;exact CH [(X,_)] ⟨rfl,rfl⟩
theorem Lf(a b:Int):FU a b<0↔a<b:=by
 unfold FU;split
 ·simp;assumption
 ·split<;>simp<;>omega
theorem TZ(key:α->Int):SWO (BF λx y=>FU (key x) (key y))where
 irrefl x:=by simp only[BF,AZ,Lf];omega
 trans x y z h1 h2:=by simp only[BF,AS,Lf]at*;omega
 ntrans x y z h1 h2:=by simp only[BF,AZ,Lf]at*;omega
end
theorem Ro(l:List Comp)(f:FuncId)(cap:List AV)(p:Comp->Bool)(hs:Dw cap=true)(hl:l.length<=4611686018427387904)(hf:∀x∈l,PS prog f ((Ae false) x::cap) (bA (p x))):PS prog 166 [.lst false 42 2 (l.map (Ae false)),.fn f cap] (iA (H6 l p)):=by
 refine Sp (nt:=19) (res:=[.tmp 4]) func166 λSf=>?_
 refine KK ?_;refine Cd (λi:Nat=>⟨[(0,.lst false 42 2 (l.map (Ae false))),(1,.fn f cap),(7,iA (l.map (Ae false)).length),(8,iA i)],Sf⟩) (λi=>i<=l.length/\∀j (h:j<l.length),j<i->p l[j]=false) (λi=>l.length-i) 0 ⟨Ap _,λj h hj=>absurd hj (by omega)⟩ ?_;rintro i ⟨hi,he⟩;refine KK ?_;refine AC rfl (λhc=>?_) (λhc=>?_)
 ·have h:i<l.length:=by simpa using hc
  refine KK ?_;refine MF (h:=(hf _ (As h))) (k:=?_);refine KK ?_;refine AC rfl (λhd=>?_) (λhd=>?_)
  ·refine KK ?_
   refine RT ?_;refine Ah ?_;rw[Ik h hd λj hj=>he j (by omega) hj]
  ·refine KK ?_
   refine Bb (i+1) ⟨h,λj h1 h2=>?_⟩;by_cases e:j=i
   ·subst e;exact hd
   ·exact he j h1 (by omega)
 ·have h:¬i<l.length:=by simpa using hc
  refine JC ?_;refine Ah ?_;rw[Il λj hj=>he j hj (by omega)]
theorem KM(l:List Comp)(f:FuncId)(cap:List AV)(p:Comp->Bool)(hs:Dw cap=true)(hl:l.length<=4611686018427387904)(hf:∀x∈l,PS prog f ((Ae false) x::cap) (bA (p x))):PS prog 105 [.lst false 42 2 (l.map (Ae false)),.fn f cap] (bA (l.any p)):=by
 refine Sp (nt:=9) (res:=[.tmp 4]) func105 λSf=>?_
 refine KK ?_;refine BO (h:=(Ro l f cap p hs hl hf)) (k:=?_);refine JC ?_;refine Ah ?_;rw[<-QR]
section
open Go.Sort
theorem gZ(o c:Comp):PS prog 106 [Ae false o,.fp (Ae false c).cells] (bA (decide (o.kind=c.kind))):=by
 refine Sp (nt:=9) (res:=[.tmp 3]) func106 λSf=>?_
 refine WK ?_;refine WK ?_;refine Bt ?_;refine JC ?_;refine Ah ?_;rfl
theorem gY(a b:Comp):PS prog 109 [Ae false a,Ae false b] (iA (FU a.kind b.kind)):=by
 refine Sp (nt:=10) (res:=[.tmp 4]) func109 λSf=>?_
 refine WK ?_;refine WK ?_;refine Bt ?_;refine Bt ?_;refine KK ?_;refine BO (h:=(I3 a.kind b.kind)) (k:=?_);refine JC ?_;refine Ah ?_;rfl
theorem ND(ks:List Kind)(l:List Comp)(h12:ks.length<=12)(hl:l.length<=1099511627776):PS prog 44 [BZ false false ks,B3 false false l] (.tup [B3 true false (Eb ks l).1,iA (Eb ks l).2]):=by
 have hck:=Nh ks;obtain⟨r,hr⟩:=nm (Eb ks l);rw[hr];unfold Eb at hr;have hlm:(l.map (Ae false)).length=l.length:=AD _;have hkm:(ks.map (Bd false)).length=ks.length:=AD _;refine Sp (nt:=64) (res:=[.tmp 4,.tmp 5]) func44 λSf=>?_
 refine KK ?_;refine BE (h:=(hck ..)) (k:=?_);refine KK ?_;refine AC rfl (λhc=>?_) (λhc=>?_)
 ·have hc:Bs ks≠0:=by simpa using hc
  rw[Ab hc]at hr;subst hr;refine JC ?_;exact Cp [.prim (.slice none 0 0),iA (Bs ks)] [B3 true false [],iA (Bs ks)] (.cons (.cell .nil) (.cons (.cell .same) .nil))
 have hc:Bs ks=0:=by simpa using hc
 rw[AI (by simp[hc])]at hr;have hgo:=λh=>Qb (ks:=ks) (l:=l) (pre:=[]) (out:=[]) h (by simp) (by simp) (by simp)
 obtain⟨g,hg⟩:=nm (FR ks [] [] l);rw[hg]at hr hgo;refine KK ?_;refine AWP.adopt (d:=7) 42 2 rfl λO=>?_
 refine FP (λ(q Y m:Nat) (M:List AV)=>⟨[(0,BZ false false ks),(1,B3 false false l),(7,.sl Y 0 m),(17,B3 false false l),(18,iA (l.map (Ae false)).length),(19,iA q)],(Y,.row 42 2 M)::Sf⟩) (λq _ m M=>q<=l.length/\m=M.length/\m=q/\∃out:List Comp,M=out.map (Ae false)/\FR ks (l.take q) out (l.drop q)=g) (λq _ _ _=>l.length-q) 0 O 0 [] ⟨Ap _,rfl,rfl,[],rfl,hg⟩ ?_;rintro q Y m M ⟨hq,hm,hmq,out,hM,hfold⟩;refine KK ?_;refine AC rfl (λhe=>?_) (λhe=>?_)
 ·have h:q<l.length:=by rw[AS,hlm]at he;omega
  obtain⟨c,hcq⟩:=nm (l[q]);have hat:(l.map (Ae false))[q]?=some (Ae false c):=by rw[Ac,AX h,hcq];rfl
  rw[Dp h,hcq,FR]at hfold;have hcf:=KM (l.take q) 106 [.fp (Ae false c).cells] (λo=>decide (o.kind=c.kind)) rfl (by rw[Ba];omega) (λo _=>gZ o c);obtain⟨ck,cv⟩:=c;dsimp only at hfold hcf;rw[D9]at hcf;refine KK ?_;refine Ai λV=>?_;refine KK ?_
  refine AC rfl (λhd=>?_) (λhd=>?_)
  ·have hb:ck<0\/(ks.length:Int)<=ck:=by simpa using hd
   rw[Ab hb]at hfold;subst hfold;rw[Ab (by decide)]at hr;subst hr;refine JC ?_;exact Cp [.prim (.slice none 0 0),iA 1] [B3 true false [],iA 1] (.cons (.cell .nil) (.cons (.cell .same) .nil))
  have hb:¬(ck<0\/(ks.length:Int)<=ck):=by simpa using hd
  rw[AI hb]at hfold;obtain⟨j,hj⟩:∃j:Nat,ck=j:=⟨ck.toNat,by omega⟩;subst hj;have hjl:j<ks.length:=by omega
  rw[B4,AX hjl]at hfold;obtain⟨k,hk⟩:=nm (ks[j]);rw[hk]at hfold;dsimp only at hfold;have hatk:(ks.map (Bd false))[j]?=some (Bd false k):=by rw[Ac,AX hjl,hk];rfl
  have hft:=XW k cv;refine I7 [9] (X:=V) (by exact Az) (b:=Ae false ⟨j,cv⟩) (hf:=⟨by show(AV.agg [iA (j:Int),Av false cv]).frz=_;exact Frz.h⟩) ?_ (by intro d hd;simp only[DC]at hd;subst hd;rfl)
  (iterate 6 refine WK ?_);refine AOps.p (W.hiL rfl rfl rfl (by rw[hlm];exact hq)) rfl ?_;refine WK ?_;refine BO (h:=(hcf ..)) (k:=?_);refine KK ?_
  refine AC rfl (λhd2=>?_) (λhd2=>?_)
  ·rw[Ab hd2]at hfold
   subst hfold;rw[Ab (by decide)]at hr;subst hr;refine JC ?_;exact Cp [.prim (.slice none 0 0),iA 5] [B3 true false [],iA 5] (.cons (.cell .nil) (.cons (.cell .same) .nil))
  rw[AI (by simp[hd2])]at hfold;refine RU ?_;(iterate 7 refine RK ?_);refine I6 (h:=hft) (k:=?_);(iterate 5 refine RK ?_);refine RGo.nil (by kernel_rfl) ?_;refine KK ?_;refine AC rfl (λhd3=>?_) (λhd3=>?_)
  ·have hd3:(DB k cv).2≠0:=by simpa using hd3
   rw[Ab hd3]at hfold;subst hfold;rw[Ab hd3]at hr;subst hr;refine JC ?_;exact Cp [.prim (.slice none 0 0),iA _] [B3 true false [],iA _] (.cons (.cell .nil) (.cons (.cell .same) .nil))
  have hd3:(DB k cv).2=0:=by simpa using hd3
  rw[AI (by simp[hd3])]at hfold;have hm1:m+1<=1099511627776:=by omega
  (iterate 8 refine WK ?_);refine Dq (Ae false ⟨j,(DB k cv).1⟩) ?_;refine WK ?_;refine Ay λY=>?_;refine KK ?_
  refine DH (q+1) Y (m+1) (M++[Ae false ⟨j,(DB k cv).1⟩]) ⟨h,by rw[AJ,hm];rfl,by omega,out++[⟨j,(DB k cv).1⟩],by rw[hM,AK];rfl,?_⟩;rw[Aw h,hcq];exact hfold
 ·have h:q=l.length:=by rw[AZ,hlm]at he;omega
  rw[h,Bg,CY,FR]at hfold;subst hfold;dsimp only at hr hgo;rw[AI (by simp)]at hr;subst hr;obtain⟨hg1,hg2⟩:=hgo rfl;have hlen:out.length<=12:=Bh (LT Comp.kind _ _ hg1 hg2) h12;obtain⟨u,⟨hu1,hu2⟩,hsf⟩:=NJ 109 [] (λx y=>FU x.kind y.kind) rfl (TZ Comp.kind) (λx y=>gY x y) Y m out (by rw[hm,hM,AD]) hlen;rw[<-hM]at hsf;refine KK ?_;refine AOps.o2 (h:=(hsf ..)) (k:=?_);refine KK ?_;have hu:u=LB out:=QI hg1 hu1 (hu2.imp λ{a b} hab=>by simp only[BF,AZ,Lf]at hab;omega);have hul:m=(u.map (Ae false)).length:=by rw[hm,hM,AD,AD,hu1.length_eq]
  refine RT ?_;rw[<-hu];exact Cp [.sl Y 0 m,iA 0] [B3 true false u,iA 0] (.cons (.cell (.sl (p:=0) .here hul)) (.cons (.cell .same) .nil))
end
def Wv(ks:List Kind)(s:Sys)(e:Ent)(index:Int)(X C K E:Nat)(st:Rn):List AR:=
 [(X,Pq ks s e C st.comps.length st.r K st.cmds.length E st.evs.length index),(C,.row 42 2 (st.comps.map (Ae true))),(K,.row 303 5 (st.cmds.map ED)),(E,.row 136 4 (st.evs.map Fm))]
structure RnOK(ks:List Kind)(s:Sys)(st:Rn):Prop where
 held:Ce ks st.comps=true
 has:RL s st.comps
 odd:st.r.2.toNat%2=1
 cmds:st.cmds.length<=1099511627775
 evs:st.evs.length<=1099511627775
theorem SJ(ks:List Kind)(s:Sys)(e:Ent)(index:Int)(X C K E:Nat)(st:Rn)(Sf:List AR):Ld (Wv ks s e index X C K E st++Sf) (.ptr X 0 0) (.fp (Rf ks s e (B3 false false st.comps) st.r (.sl K 0 st.cmds.length) (.sl E 0 st.evs.length) index).cells):=by
 refine .ptr .here (b:=Rf ks s e (B3 false false st.comps) st.r (.sl K 0 st.cmds.length) (.sl E 0 st.evs.length) index) (.agg ?_) rfl;refine .cons .fz (.cons .fz (.cons .fz (.cons .fz (.cons .fz (.cons .fz (.cons .fz (.cons .fz (.cons .fz (.cons .fz (.cons ?_ (.cons .fz (.cons .fz (.cons .frz (.cons .frz (.cons .fz .nil)))))))))))))));exact Y7 Lds.fz (.next .here) (by simp)
theorem kI(ks:List Kind)(s:Sys)(e:Ent)(index:Int)(X C K E:Nat)(st:Rn)(o:Op)(hk:Bs ks=0)(h12:ks.length<=12)(hsp:s.spawn.length<=1099511627776)(hst:RnOK ks s st)(ho:OpG ks s.reads s.writes o):
  Spec prog 137 [.ptr X 0 0,opA o] (Wv ks s e index X C K E st) λr' S'=>∃b:Nat×Nat,r'= .tup []/\S'=Wv ks s e index X C b.1 b.2 (doM ks s index e o st):=by
 obtain⟨hh,hhas,hodd,hcl,hel⟩:=hst;obtain⟨cs,r,cm,ev⟩:=st;dsimp only at hh hhas hodd hcl hel;obtain⟨h16,_⟩:=Gx hk hh;obtain⟨a1,a2,a3⟩:=d8 hh hhas ho.a;obtain⟨b1,b2,b3⟩:=d8 hh hhas ho.b;have hA:=d7 ks s e cs r K cm.length E ev.length index o.a (by omega) a1;have hB:=d7 ks s e cs r K cm.length E ev.length index o.b (by omega) b1;have hs:=YL o.act;obtain⟨act,⟨tk,tf⟩,oa,ob⟩:=o;dsimp only at a1 a2 a3 b1 b2 b3 hA hB hs;obtain⟨av,hav⟩:=nm (Ni cs oa);obtain⟨bv,hbv⟩:=nm (Ni cs ob);obtain⟨res,hres⟩:=nm (doM ks s index e ⟨act,⟨tk,tf⟩,oa,ob⟩ ⟨cs,r,cm,ev⟩);rw[hres];unfold doM at hres;dsimp only at hres;rw[hav]at hA a2 a3 hres;rw[hbv]at hB b2 b3 hres;refine Sp (nt:=137) (res:=[]) func137 λSf=>?_
 refine RG ?_;refine Bt ?_;refine NL ?_;have hAl:=PS.lend (S:=Wv ks s e index X C K E ⟨cs,r,cm,ev⟩) (args':=[.ptr X 0 0,Dz oa]) hA rfl (.cons (by have:=SJ ks s e index X C K E ⟨cs,r,cm,ev⟩ [];rwa[A8]at this) (.cons .fz .nil));have hBl:=PS.lend (S:=Wv ks s e index X C K E ⟨cs,r,cm,ev⟩) (args':=[.ptr X 0 0,Dz ob]) hB rfl (.cons (by have:=SJ ks s e index X C K E ⟨cs,r,cm,ev⟩ [];rwa[A8]at this) (.cons .fz .nil));unfold Wv at hAl hBl⊢;dsimp only at hAl hBl⊢;refine RU ?_;(iterate 3 refine RK ?_);refine RH hAl .fz ?_;(iterate 3 refine RK ?_);refine RH hBl .fz ?_;refine JK ?_;refine RGo.nil (by kernel_rfl) ?_;refine FL ?_;by_cases hsb:LR act=true
 ·rw[Ab hsb]at hres
  rw[hsb]at hs;obtain⟨hR,hW⟩:=ho.sets hsb;dsimp only at hR hW;have h07:0<=act/\act<=7:=by unfold LR at hsb;simpa using hsb
  obtain⟨c,k,e1,e2,e3,e4,e5,e6,e7⟩:=Pv hh hhas hR (.inr hW);dsimp only at e1 e2 e3 e5 e6;have hso:=(held_iff.1 hh).1;obtain⟨g1,g2⟩:=PI hso e1 tf.toNat (Cu (IW ks ⟨tk,tf⟩) (HG act av bv r).1);have hvp:=cD ks s e C cs.length r K cm.length E ev.length index X act av bv h07.1 h07.2 ⟨a2,a3⟩ ⟨b2,b3⟩ hodd;obtain⟨⟨nv,r2⟩,hnv⟩:=nm (HG act av bv r);rw[hnv]at hvp hres g2;obtain⟨f,hf⟩:=nm (IW ks ⟨tk,tf⟩);rw[hf]at g2 hres;have hnp:=YV f nv;obtain⟨j,hj⟩:=nm (FD cs tk);rw[hj]at g1 g2;obtain⟨ti,rfl⟩:∃i:Nat,tk=i:=⟨tk.toNat,by have:=hR.1;dsimp only at this;omega⟩;obtain⟨tj,rfl⟩:∃i:Nat,tf=i:=⟨tf.toNat,by omega⟩;rw[B4]at g2 e3
  have hfe:k.fields[tj]?=some f:=by
   rw[<-hf];unfold IW;dsimp only;rw[B4,B4,e3];dsimp only;rw[Ct,AX (by omega)];rfl
  obtain⟨ck,cv⟩:=c;dsimp only at e2 e4 e7 g2;subst e2;have hvs:=λV=>cE ks s e cs r K cm.length E ev.length index X C V j ⟨ti,cv⟩ hso g1 (by omega)
  obtain⟨kn,fs⟩:=k;dsimp only at e6 e7 hfe;have hatk:(ks.map (Bd false))[ti]?=some (Bd false ⟨kn,fs⟩):=by rw[Ac,e3];rfl
  have hatf:(fs.map fieldA)[tj]?=some (fieldA f):=by rw[Ac,hfe];rfl
  have hatc:(cs.map (Ae true))[j]?=some (Ae true ⟨ti,cv⟩):=by rw[Ac,g1];rfl
  have hjm:j<(cs.map (Ae true)).length:=by rw[AD];exact(AE.1 g1).1
  have hvl:tj<(cv.map iA).length:=by rw[AD];omega
  have hatv:(cv.map iA)[tj]?=some (iA cv[tj]):=by rw[Ac,AX (by rw[AD]at hvl;exact hvl)];rfl
  refine JJ ?_;refine BE (h:=(hs ..)) (k:=?_);refine NL ?_;refine An rfl rfl ?_;refine FL ?_;refine Es (Y:=C) (by exact Az) (λ_=>Hos.at hatc (.agg (.tail (.head .here)))) λV=>?_
  have hvs1:=hvs V;unfold Ti at hvs1;dsimp only at hvs1;refine FL ?_;refine AWP.region_runJ (JP 1 (X,Pq ks s e C cs.length r K cm.length E ev.length index) (X,Pq ks s e C cs.length r2 K cm.length E ev.length index)) (by kernel_rfl) (by kernel_rfl) ?_ ?_
  ·exact .inl rfl
  iterate 4 refine PR ?_
  refine Xy ?_ (Nk rfl rfl hvs1 .fz (by exact MX) rfl rfl) rfl ?_
  ·exact λS hS=>JP.ne (by decide) _ (iK _ hS)
  iterate 4 refine PR ?_
  refine TE (S1:=[(0,.gone),(X,Pq ks s e C cs.length r K cm.length E ev.length index)]) (S2:=[(0,.gone),(X,Pq ks s e C cs.length r2 K cm.length E ev.length index)]) (by exact IG) (by exact IG) rfl ?_
  iterate 2 refine TE (S1:=[(0,.gone),(X,Pq ks s e C cs.length r K cm.length E ev.length index)]) (S2:=[(0,.gone),(X,Pq ks s e C cs.length r2 K cm.length E ev.length index)]) (by exact IG) (by exact IG) rfl ?_
  iterate 16 refine PR ?_
  refine Xy iJ (W.callO4 rfl rfl rfl rfl (by exact Az) hvp rfl (Frz.h)) rfl ?_;refine RGoJ.p (W.callF2 rfl rfl hnp rfl (Frz.h)) rfl ?_;refine PR ?_;refine Xy ?_ (by exact Mz) rfl ?_
  ·exact JP.ne (by decide)
  refine RGoJ.nil (by kernel_rfl) ?_;refine FL ?_;refine Dm (X:=V) (Y:=C) (by exact Az) (by exact Az) rfl (by simp) (Hos.at (BU hjm) (.agg (.tail (.head .here)))) ?_;refine RT ?_;refine CH [(X,_),(C,_),(K,_),(E,_)] ⟨(K,E),rfl,?_⟩;rw[<-hres,B4,g2];dsimp only
  have hce:Ae true ⟨ti,cv.set tj (Cu f nv)⟩= .agg [iA ti,.lst true 3 1 ((cv.map iA).set tj (iA (Cu f nv)))]:=by
   unfold Ae Av;rw[BK]
  rw[Ev,BK,List.set_set,hce]
 ·have hsf:LR act=false:=by simpa using hsb
  rw[AI hsb]at hres;rw[hsf]at hs
  have h8:act=8\/act=9\/act=10\/act=11\/act=12:=by
   have h1:0<=act:=ho.lo;have h2:act<=12:=ho.hi;unfold LR at hsf;simp at hsf;omega
  refine JJ ?_;refine BE (h:=(hs ..)) (k:=?_);refine NL ?_;refine AB rfl rfl ?_;refine KK ?_;by_cases hz:av=0
  ·refine An rfl (BP hz) ?_
   rw[Ab hz]at hres
   skip
   refine RT ?_;refine CH [(X,_),(C,_),(K,_),(E,_)] ⟨(K,E),rfl,?_⟩;rw[<-hres]
  ·refine AB rfl (Au hz) ?_
   rw[AI hz]at hres;rcases h8 with rfl|rfl|rfl|rfl|rfl
   ·obtain⟨p1,p2,p3⟩:=ho.puts (.inl rfl)
    dsimp only at p1 p2 p3;obtain⟨ti,rfl⟩:∃i:Nat,tk=i:=⟨tk.toNat,by omega⟩;have hkl:ti<ks.length:=by omega
    have hatk:(ks.map (Bd false))[ti]?=some (Bd false ks[ti]):=by rw[Ac,AX hkl];rfl
    obtain⟨kn,hkn⟩:=nm (ks[ti]);have hfl:kn.fields.length<=1099511627776:=by have h8:=Mi ((CQ hk).2 _ (As hkl));rw[hkn]at h8;omega
    rw[hkn]at hatk
    have hdo:Qq ks ti=(DB kn (List.replicate kn.fields.length 0)).1:=by
     unfold Qq;rw[B4,AX hkl,hkn]
    have hdf:=Xh kn hfl;refine KK ?_;refine Ai λB=>?_;refine KK ?_
    refine An rfl rfl ?_;refine RU ?_;(iterate 12 refine RK ?_);refine K7 (h:=hdf) (k:=?_);(iterate 6 refine RK ?_);refine RGo.nil (by kernel_rfl) ?_;refine FL ?_;refine I8 B [ED ⟨0,e,0,[⟨ti,(DB kn (List.replicate kn.fields.length 0)).1⟩]⟩] ?_ ?_ (by exact Az)
    ·exact(show AV.frzs [ED ⟨0,e,0,[⟨ti,(DB kn (List.replicate kn.fields.length 0)).1⟩]⟩]=[ED ⟨0,e,0,[⟨ti,(DB kn (List.replicate kn.fields.length 0)).1⟩]⟩]from Dh (· ::[]) Frz.h)
    refine CN λK2=>?_
    refine RU ?_;(iterate 11 refine RK ?_);refine RGo.nil (by kernel_rfl) ?_;refine Eo ?_;refine CH [(X,_),(C,_),(K2,_),(E,_)] ⟨(K2,E),rfl,?_⟩;rw[AI (by decide),Ab rfl,hdo]at hres;rw[<-hres];dsimp only;rw[AJ,AK];rfl
   ·refine KK ?_;refine Ai λB=>?_;refine KK ?_
    refine AB rfl rfl ?_;refine KK ?_;refine An rfl rfl ?_;refine RU ?_;(iterate 7 refine RK ?_);refine RGo.nil (by kernel_rfl) ?_;refine FL ?_;refine Io 42 2 (Y:=B) (.cons (.agg (.s (.s (.s (.s (.cons (.base .nil) .nil)))))) .nil) ?_;refine I8 B [ED ⟨1,e,tk,[]⟩] ?_ ?_ (by exact Az)
    ·exact(show AV.frzs [ED ⟨1,e,tk,[]⟩]=[ED ⟨1,e,tk,[]⟩]from Dh (· ::[]) Frz.h)
    refine CN λK2=>?_
    refine RU ?_;(iterate 11 refine RK ?_);refine RGo.nil (by kernel_rfl) ?_;refine Eo ?_;refine CH [(X,_),(C,_),(K2,_),(E,_)] ⟨(K2,E),rfl,?_⟩;rw[AI (by decide),AI (by decide),Ab rfl]at hres;rw[<-hres];dsimp only;rw[AJ,AK];rfl
   ·refine KK ?_;refine Ai λB=>?_;refine KK ?_
    refine AB rfl rfl ?_;refine KK ?_;refine AB rfl rfl ?_;refine KK ?_;refine An rfl rfl ?_;refine KK ?_;refine Io 42 2 (Y:=B) (.cons (.agg (.s (.s (.s (.s (.cons (.base .nil) .nil)))))) .nil) ?_;refine I8 B [ED ⟨2,e,0,[]⟩] ?_ ?_ (by exact Az)
    ·exact(show AV.frzs [ED ⟨2,e,0,[]⟩]=[ED ⟨2,e,0,[]⟩]from Dh (· ::[]) Frz.h)
    refine CN λK2=>?_
    refine RU ?_;(iterate 11 refine RK ?_);refine RGo.nil (by kernel_rfl) ?_;refine Eo ?_;refine CH [(X,_),(C,_),(K2,_),(E,_)] ⟨(K2,E),rfl,?_⟩;rw[AI (by decide),AI (by decide),AI (by decide),Ab rfl]at hres;rw[<-hres];dsimp only;rw[AJ,AK];rfl
   ·have hfp:=ND ks s.spawn h12 hsp
    refine KK ?_;refine Ai λB=>?_;refine KK ?_
    refine AB rfl rfl ?_;refine KK ?_;refine AB rfl rfl ?_;refine KK ?_;refine AB rfl rfl ?_;refine KK ?_;refine An rfl rfl ?_;refine RU ?_;(iterate 9 refine RK ?_);refine I6 (h:=hfp) (k:=?_);(iterate 5 refine RK ?_);refine RGo.nil (by kernel_rfl) ?_;refine KK ?_;refine I8 B [ED ⟨3,⟨0,0⟩,0,(Eb ks s.spawn).1⟩] ?_ ?_ (by exact Az)
    ·exact(show AV.frzs [ED ⟨3,⟨0,0⟩,0,(Eb ks s.spawn).1⟩]=[ED ⟨3,⟨0,0⟩,0,(Eb ks s.spawn).1⟩]from Dh (· ::[]) Frz.h)
    refine CN λK2=>?_
    refine RU ?_;(iterate 11 refine RK ?_);refine RGo.nil (by kernel_rfl) ?_;refine Eo ?_;refine CH [(X,_),(C,_),(K2,_),(E,_)] ⟨(K2,E),rfl,?_⟩;rw[AI (by decide),AI (by decide),AI (by decide),AI (by decide)]at hres;rw[<-hres];dsimp only;rw[AJ,AK];rfl
   ·refine KK ?_;refine Ai λB=>?_;refine KK ?_
    refine AB rfl rfl ?_;refine KK ?_;refine AB rfl rfl ?_;refine KK ?_;refine AB rfl rfl ?_;refine KK ?_;refine AB rfl rfl ?_;refine CN λE2=>?_
    refine RU ?_;(iterate 16 refine RK ?_);refine H1 (Fm ⟨index,e,bv⟩) ?_;(iterate 4 refine RK ?_);refine RGo.nil (by kernel_rfl) ?_;refine RT ?_;refine CH [(X,_),(C,_),(K,_),(E2,_)] ⟨(K,E2),rfl,?_⟩;rw[Ab rfl]at hres;rw[<-hres];dsimp only;rw[AJ,AK];rfl
theorem Rm(l:List Int)(f:FuncId)(cap:List AV)(p:Int->Bool)(hs:Dw cap=true)(hl:l.length<=4611686018427387904)(hf:∀x∈l,PS prog f (iA x::cap) (bA (p x))):PS prog 202 [.lst false 3 1 (l.map iA),.fn f cap] (iA (H6 l p)):=by
 refine Sp (nt:=19) (res:=[.tmp 4]) func202 λSf=>?_
 refine KK ?_;refine Cd (λi:Nat=>⟨[(0,.lst false 3 1 (l.map iA)),(1,.fn f cap),(7,iA (l.map iA).length),(8,iA i)],Sf⟩) (λi=>i<=l.length/\∀j (h:j<l.length),j<i->p l[j]=false) (λi=>l.length-i) 0 ⟨Ap _,λj h hj=>absurd hj (by omega)⟩ ?_;rintro i ⟨hi,he⟩;refine KK ?_;refine AC rfl (λhc=>?_) (λhc=>?_)
 ·have h:i<l.length:=by simpa using hc
  refine KK ?_;refine MF (h:=(hf _ (As h))) (k:=?_);refine KK ?_;refine AC rfl (λhd=>?_) (λhd=>?_)
  ·refine KK ?_
   refine RT ?_;refine Ah ?_;rw[Ik h hd λj hj=>he j (by omega) hj]
  ·refine KK ?_
   refine Bb (i+1) ⟨h,λj h1 h2=>?_⟩;by_cases e:j=i
   ·subst e;exact hd
   ·exact he j h1 (by omega)
 ·have h:¬i<l.length:=by simpa using hc
  refine JC ?_;refine Ah ?_;rw[Il λj hj=>he j hj (by omega)]
theorem GV(l:List Int)(f:FuncId)(cap:List AV)(p:Int->Bool)(hs:Dw cap=true)(hl:l.length<=4611686018427387904)(hf:∀x∈l,PS prog f (iA x::cap) (bA (p x))):PS prog 186 [.lst false 3 1 (l.map iA),.fn f cap] (bA (l.any p)):=by
 refine Sp (nt:=9) (res:=[.tmp 4]) func186 λSf=>?_
 refine KK ?_;refine BO (h:=(Rm l f cap p hs hl hf)) (k:=?_);refine JC ?_;refine Ah ?_;rw[<-QR]
def T1(cs:List Comp)(k:Int):Bool:=cs.any λc=>decide (c.kind=k)
def IR(it:Item)(wth wout:List Int):Bool:=!(wth.any λk=>!T1 it.comps k)&& !(wout.any λk=>T1 it.comps k)
theorem XF(c:Comp)(k:Int):PS prog 241 [Ae false c,.fp [iA k]] (bA (decide (c.kind=k))):=by
 refine Sp (nt:=8) (res:=[.tmp 3]) func241 λSf=>?_
 refine WK ?_;refine WK ?_;refine Bt ?_;refine JC ?_;refine Ah ?_;rfl
theorem SW(it:Item)(k:Int)(hl:it.comps.length<=4611686018427387904):PS prog 240 [iA k,.fp (AQ false it).cells] (bA (T1 it.comps k)):=by
 refine Sp (nt:=8) (res:=[.tmp 3]) func240 λSf=>?_
 refine WK ?_;refine WK ?_;refine Bt ?_;refine KK ?_;refine BO (h:=(KM it.comps 241 [.fp [iA k]] (λc=>decide (c.kind=k)) rfl hl (λx hx=>XF x k))) (k:=?_);refine JC ?_;refine Ah ?_;rfl
theorem aQ(it:Item)(k:Int)(hl:it.comps.length<=4611686018427387904):PS prog 242 [iA k,.fp [.fn 240 [.fp (AQ false it).cells]]] (bA (!T1 it.comps k)):=by
 refine Sp (nt:=8) (res:=[.tmp 3]) func242 λSf=>?_
 refine KK ?_;refine MF (h:=(SW it k hl)) (k:=?_);refine JC ?_;refine Ah ?_;rfl
theorem cx(it:Item)(wth wout:List Int)(hl:it.comps.length<=4611686018427387904)(h1:wth.length<=4611686018427387904)(h2:wout.length<=4611686018427387904):PS prog 191 [AQ false it,Av false wth,Av false wout] (bA (IR it wth wout)):=by
 have c1:=GV wth 242 [.fp [.fn 240 [.fp (AQ false it).cells]]] (λk=>!T1 it.comps k) rfl h1 (λx _=>aQ it x hl);have c2:=GV wout 240 [.fp (AQ false it).cells] (λk=>T1 it.comps k) rfl h2 (λx _=>SW it x hl);unfold IR;obtain⟨b1,hb1⟩:=nm ((wth.any λk=>!T1 it.comps k));obtain⟨b2,hb2⟩:=nm ((wout.any λk=>T1 it.comps k));rw[hb1]at c1⊢;rw[hb2]at c2⊢;refine Sp (nt:=19) (res:=[.tmp 6]) func191 λSf=>?_
 refine RG ?_;refine Bt ?_;refine JB ?_;refine JJ ?_;refine Ai λX=>?_;refine JB ?_
 refine I7 [7] .here (hf:=.fn1 (.fp (a:=AQ false it) inferInstance)) ?_ (by intro d hd;simp only[DC]at hd;subst hd;rfl);cases b1
 ·refine KK ?_;refine BO (h:=(c1 ..)) (k:=?_);refine KK ?_;refine BO (h:=(c2 ..)) (k:=?_);refine KK ?_
  refine RT ?_;refine Ah ?_;rfl
 ·refine KK ?_;refine BO (h:=(c1 ..)) (k:=?_);refine KK ?_
  refine RT ?_;refine Ah ?_;rfl
def Hb(l:List Item)(wth wout:List Int):Nat->List (Nat×Item)
 |0=>[]
 |i+1=>Hb l wth wout i++(match l[i]? with
  |some it=>match IR it wth wout with
   |true=>[(i,it)]
   |false=>[]
  |none=>[])
def Hc(l:List Item)(wth wout:List Int):List (Nat×Item):=Hb l wth wout l.length
theorem bT{l:List Item}{wth wout:List Int}(h:i<l.length)(hm:IR l[i] wth wout=true):Hb l wth wout (i+1)=Hb l wth wout i++[(i,l[i])]:=by
 simp[Hb,AX h,hm]
theorem eB{l:List Item}{wth wout:List Int}(h:i<l.length)(hm:IR l[i] wth wout=false):Hb l wth wout (i+1)=Hb l wth wout i:=by
 simp[Hb,AX h,hm]
theorem S8(l:List Item)(wth wout:List Int)(i:Nat):(Hb l wth wout i).length<=i:=by
 induction i with
 |zero=>simp[Hb]
 |succ i ih=>
  rw[Hb,AJ];split
  ·split<;>simp<;>omega
  ·simp;omega
def Wy(q:Nat×Item):AV:=.agg [iA q.1,iA q.2.ent.n,iA q.2.ent.gen,B3 false false q.2.comps]
instance {q:Nat×Item}:Frz (Wy q) (Wy q):=⟨by
 show AV.agg [_,_,_,(B3 false false q.2.comps).frz]=_
 rw[show(B3 false false q.2.comps).frz=B3 false false q.2.comps from Frz.h];rfl⟩
abbrev cR(l:List (Nat×Item)):AV:=.lst false 296 4 (l.map Wy)
theorem jW(w:Wd)(wth wout:List Int)(h0:w.items.length<=1099511627776)(hl:∀it∈w.items,it.comps.length<=1099511627776/\∀c∈it.comps,c.vals.length<=1099511627776)(h1:wth.length<=4611686018427387904)(h2:wout.length<=4611686018427387904):
  PS prog 135 [wdA false w,Av false wth,Av false wout] (.fn 192 [.fp [cR (Hc w.items wth wout)]]):=by
 refine Sp (nt:=35) (res:=[.tmp 6]) func135 λSf=>?_
 refine RG ?_;refine Bt ?_;refine JB ?_;refine JG ?_;refine Ai λX=>?_;refine NL ?_
 refine CM 296 4 .here (λK=>.cons (.base .nil) .nil) λK=>?_
 refine KK ?_;refine FP (λ(i K:Nat) (M:List AV) (n:Nat)=>⟨[(1,Av false wth),(2,Av false wout),(7,.ptr X 0 0),(11,Km false false w.items),(12,iA (w.items.map (AQ false)).length),(13,iA i)],(K,.row 296 4 M)::(X,.row 293 1 [.sl K 0 n])::Sf⟩) (λi _ M n=>i<=w.items.length/\M=(Hb w.items wth wout i).map Wy/\n=M.length) (λi _ _ _=>w.items.length-i) 0 K [] 0 ⟨Ap _,rfl,rfl⟩ ?_;rintro i K M n ⟨hi,hM,hn⟩;refine KK ?_;refine AC rfl (λhc=>?_) (λhc=>?_)
 ·have h:i<w.items.length:=by simpa using hc
  have hn1:n+1<=1099511627776:=by have:=S8 w.items wth wout i;rw[hn,hM,AD];omega
  obtain⟨hc1,hc2⟩:=hl _ (As h);obtain⟨b,hb⟩:=nm (IR w.items[i] wth wout);have hm:=cx w.items[i] wth wout (by omega) h1 h2;rw[hb]at hm;refine KK ?_;refine Ai λX=>?_;refine KK ?_;refine Gt (h:=(hm ..)) (k:=?_);refine KK ?_
  cases b
  ·refine AB rfl rfl ?_
   refine KK ?_;refine DH (i+1) K M n ⟨h,?_,hn⟩;rw[eB h hb,hM]
  ·refine An rfl rfl ?_
   refine CN λX7=>?_
   refine JN ?_;refine K7 (h:=(HO _ hc1 hc2)) (k:=?_);refine JK ?_;refine H1 (Wy (i,w.items[i])) ?_;refine JK ?_;refine RGo.nil (by kernel_rfl) ?_;refine KK ?_;refine DH (i+1) X7 _ _ ⟨h,?_,?_⟩
   ·rw[bT h hb,hM,AK];rfl
   ·rw[AJ,hn]
 ·have h:i=w.items.length:=by rw[AZ,AD]at hc;omega
  subst h;refine FL ?_;refine D7 (X:=K) .here (.next .here) rfl (.cons (.base (.sl (by omega))) .nil) ?_
  have hF:AV.frzs ((M.drop 0).take n)=(Hc w.items wth wout).map Wy:=by
   rw[B7,Aj (by omega),hM];exact Frzs.h
  rw[hF];refine I7 [7] (.next .here) ?_ (by intro d hd;simp only[DC]at hd;subst hd;rfl);refine JC ?_;refine Ah ?_;rfl
theorem S9(l:List Item)(wth wout:List Int):(Hc l wth wout).length<=l.length:=S8 l wth wout l.length
theorem S7{l:List Item}{wth wout:List Int}{q:Nat×Item}(h:q∈Hb l wth wout i):q.2∈l:=by
 induction i with
 |zero=>simp[Hb]at h
 |succ i ih=>
  rw[Hb,Eq]at h;rcases h with h|h
  ·exact ih h
  ·split at h
   ·rename_i it hit
    split at h
    ·simp only[DC]at h
     subst h;exact B0 hit
    ·cases h
   ·cases h
theorem Ry(l:List Comp)(hl:l.length<=1099511627776)(hv:∀c∈l,c.vals.length<=1099511627776):PS prog 42 [B3 false false l] (B3 true true l):=by
 have hlm:(l.map (Ae false)).length=l.length:=AD _;refine Sp (nt:=27) (res:=[.tmp 2]) func42 λSf=>?_
 have hl':(l.map (Ae false)).length<=1099511627776:=by simpa using hl
 have hz0:List.replicate (l.map (Ae false)).length (.agg [iA 0,.prim (.slice none 0 0)])=Fz (Ae true) (.agg [iA 0,.prim (.slice none 0 0)]) l 0:=by rw[Jh,hlm]
 (iterate 8 refine WK ?_);refine I9 (.agg [iA 0,.prim (.slice none 0 0)]) λK=>?_;refine KK ?_
 rw[hz0];refine Cq (λ(i:Nat) (M:List AV)=>⟨[(3,.sl K 0 (l.map (Ae false)).length),(9,B3 false false l),(10,iA (l.map (Ae false)).length),(11,iA i)],(K,.row 42 2 M)::Sf⟩) (λi M=>i<=l.length/\M=Fz (Ae true) (.agg [iA 0,.prim (.slice none 0 0)]) l i) (λi _=>l.length-i) 0 _ ⟨Ap _,rfl⟩ ?_;rintro i M ⟨hi,hM⟩;refine KK ?_;refine AC rfl (λhc=>?_) (λhc=>?_)
 ·have h:i<l.length:=by simpa using hc
  have hm:i<(l.map (Ae false)).length:=by simpa using h
  have hset:=Ku (Ae true) (.agg [iA 0,.prim (.slice none 0 0)]) l h;have hMat:M[i]?=some (.agg [iA 0,.prim (.slice none 0 0)]):=by rw[hM];exact L5 _ _ _ h
  have hMl:M.length=l.length:=by rw[hM];exact Qf _ _ _ _ hi
  have hvl:=hv _ (As h);obtain⟨⟨ck,cv⟩,hce⟩:=nm (l[i]);rw[hce]at hset hvl;dsimp only at hvl;have hat:(l.map (Ae false))[i]?=some (Ae false ⟨ck,cv⟩):=by rw[Ac,AX h,hce];rfl
  have hcl:=In cv (by omega);refine KK ?_;refine Ai λV=>?_;refine KK ?_
  refine CN λY=>?_
  refine RU ?_;(iterate 6 refine RK ?_);refine RI hcl ?_;(iterate 3 refine RK ?_);refine RGo.nil (by kernel_rfl) ?_;(repeat refine WF ?_);have hMs:(M.set i (.agg [iA ck,.sl Y 0 (cv.map iA).length]))[i]?=some (.agg [iA ck,.sl Y 0 (cv.map iA).length]):=BU (by omega);refine Dm (X:=Y) (Y:=K) (by exact Az) (by exact Az) rfl rfl (Hos.at hMs (.agg (.tail (.head .here)))) ?_;rw[List.set_set];refine KK ?_;refine CA (i+1) _ ⟨h,?_⟩;rw[hM];exact hset
 ·have h:i=l.length:=by rw[AZ,hlm]at hc;omega
  subst h;rw[Kv _ _ _ (AT _)]at hM;subst hM;have hK:(l.map (Ae false)).length=(l.map (Ae true)).length:=by simp
  refine JC ?_;exact Cp [.sl K 0 (l.map (Ae false)).length] [B3 true true l] (.cons (.cell (.sl (p:=0) .here hK)) .nil)
def itY(q:Nat×Item):YO:=λC=>([iA q.1,.agg [iA q.2.ent.n,iA q.2.ent.gen,.sl C 0 (q.2.comps.map (Ae true)).length]],[(C,.row 42 2 (q.2.comps.map (Ae true)))])
theorem bU(l:List (Nat×Item))(h0:l.length<=1099511627776)(hl:∀q∈l,q.2.comps.length<=1099511627776/\∀c∈q.2.comps,c.vals.length<=1099511627776):jo prog 192 [.fp [cR l]] (l.map itY):=by
 refine⟨by kernel_rfl,λy J Jx hY Sl hJ0=>?_⟩;refine Sp (nt:=25) (res:=[]) func192 λSf=>?_
 refine JH ?_;refine Cq (λ(i:Nat) (Sl:List AR)=>⟨[(0,.prim y),(5,cR l),(6,iA (l.map Wy).length),(7,iA i)],Sl++Sf⟩) (λi Sl=>i<=l.length/\J i Sl) (λi _=>l.length-i) 0 Sl ⟨Ap _,hJ0⟩ ?_;rintro i Sl ⟨hi,hJ⟩;refine KK ?_;refine AC rfl (λhc=>?_) (λhc=>?_)
 ·have h:i<l.length:=by simpa using hc
  obtain⟨hc1,hc2⟩:=hl _ (As h);have hcc:=Ry _ hc1 hc2;(repeat refine WF ?_);refine JJ ?_;refine Ai λX=>?_;refine JB ?_
  refine CN λC=>?_
  (repeat refine WF ?_);refine Gs 11 (by kernel_rfl) (by kernel_rfl) (by kernel_rfl) ?_;dsimp only[List.take,List.drop];(iterate 9 refine RK ?_);refine RI hcc ?_;refine RK ?_;refine RGo.nil (by kernel_rfl) ?_;refine AOps.sub (S':=((C,.row 42 2 (l[i].2.comps.map (Ae true)))::Sl)++Sf) (by exact BL) ?_;refine UV C (Si:=[]) (ob:=[(C,.row 42 2 (l[i].2.comps.map (Ae true)))]) hY hJ (show(l.map itY)[i]?=some (itY l[i]) by simp[h]) rfl rfl (λSl' hk=>?_) (λSl' hk=>?_)
  ·refine KK ?_
   refine AB rfl rfl ?_;refine KK ?_;refine CA (i+1) Sl' ⟨h,hk⟩
  ·refine KK ?_
   refine An rfl rfl ?_;refine RT ?_;exact CH Sl' (.inr hk)
 ·have h:i=l.length:=by rw[AZ,AD]at hc;omega
  subst h;refine KK ?_;refine Eo ?_;exact CH Sl (.inl (by rw[AD];exact hJ))
theorem i4(ks:List Kind)(s:Sys)(o:Op)(h:OpG ks s.reads s.writes o)(hr:s.reads.length<=1099511627776)(hw:s.writes.length<=1099511627776):PS prog 190 [BZ false false ks,FY false s,opA o] (iA 0):=by
 obtain⟨h1,h2,h3,h4,h5,h6,h7,h8⟩:=h;obtain⟨act,⟨tk,tf⟩,a,b⟩:=o;dsimp only at h1 h2 h3 h4 h5 h6 h7 h8;have g1:decide (act<0)=false:=Au (by omega);have g2:decide (act>12)=false:=Au (by omega)
 have hax:∀i,i<2->∃x,([Dz a,Dz b])[i]?=some (Dz x)/\ArgG ks s.reads s.writes x:=λi hi=>by
  rcases Ib i 1 with e|e
  ·obtain rfl:i=0:=by omega
   exact⟨a,rfl,h3⟩
  ·obtain rfl:i=1:=by omega
   exact⟨b,rfl,h4⟩
 have hkm:(ks.map (Bd false)).length=ks.length:=AD _;refine Sp (nt:=201) (res:=[.tmp 6]) func190 λSf=>?_
 refine RG ?_;refine Bt ?_;refine Bt ?_;refine JB ?_;refine R1 ?_;refine AB rfl g2 ?_
 (iterate 8 refine WK ?_);refine GZ (Dz a) (Dz b) ?_;refine KK ?_
 refine Cd (λi:Nat=>⟨[(0,BZ false false ks),(4,.fp (FY false s).cells),(5,.fp (opA ⟨act,⟨tk,tf⟩,a,b⟩).cells),(27,.lst false 227 4 [Dz a,Dz b]),(28,iA 2),(29,iA i)],Sf⟩) (λi=>i<=2) (λi=>2-i) 0 (by omega) ?_;rintro i hi;refine KK ?_;refine AC rfl (λhc=>?_) (λhc=>?_)
 ·have hi2:i<2:=by rw[AS]at hc;omega
  obtain⟨⟨xh,xn,⟨xk,xf⟩⟩,hat,hx⟩:=hax i hi2;obtain⟨hy,hn⟩:=hx;dsimp only at hy hn;have hal:i<[Dz a,Dz b].length:=hi2;refine JJ ?_;refine Ai λV=>?_;refine JB ?_
  cases xh
  ·obtain⟨n1,n2,n3⟩:=hn rfl
   have k1:decide (xn< -1099511627776)=false:=Au (by omega);have k2:decide (xn>1099511627776)=false:=Au (by omega);refine RG ?_;(repeat first|(refine Cg ?_;first|refine Bp ?_|refine Bx ?_)|refine WO ?_|refine Ai λX=>?_|refine Ay λY=>?_);refine NL ?_;refine AB rfl (by first|rfl|assumption) ?_;refine KK ?_;refine Bb (i+1) hi2
  ·obtain⟨n1,n2,n3⟩:=hy rfl
   have hf:=Mo ks ⟨xk,xf⟩ n2;refine RG ?_;(repeat first|(refine Bm ?_;first|(refine Bq ?_;first|refine BO (h:=(hf ..)) (k:=?_)))|(refine Cg ?_;first|refine Bp ?_|refine Bx ?_)|refine WO ?_|refine Ai λX=>?_|refine Ay λY=>?_);refine NL ?_;refine AB rfl (by first|rfl|assumption) ?_;refine KK ?_;refine Bb (i+1) hi2
 ·clear hc
  refine JL ?_;refine Ai λN=>?_;refine JB ?_
  (iterate 7 refine WK ?_);refine GZ (Dz a) (Dz b) ?_;refine KK ?_
  refine Cd (λi:Nat=>⟨[(0,BZ false false ks),(4,.fp (FY false s).cells),(5,.fp (opA ⟨act,⟨tk,tf⟩,a,b⟩).cells),(9,.ptr N 0 0),(63,.lst false 227 4 [Dz a,Dz b]),(64,iA 2),(65,iA i)],(N,.row 225 2 [jx ⟨0,0⟩])::Sf⟩) (λi=>i<=2) (λi=>2-i) 0 (by omega) ?_;rintro i hi;refine KK ?_;refine AC rfl (λhc=>?_) (λhc=>?_)
  ·have hi2:i<2:=by rw[AS]at hc;omega
   obtain⟨⟨xh,xn,xr⟩,hat,hx⟩:=hax i hi2;obtain⟨hy,hn⟩:=hx;dsimp only at hy hn;have hal:i<[Dz a,Dz b].length:=hi2;refine JJ ?_;refine Ai λV=>?_;refine JB ?_
   cases xh
   ·obtain⟨n1,n2,n3⟩:=hn rfl
    subst n3;refine RG ?_;(repeat first|(refine Bm ?_;first|refine Ad ?_ (W.neP _ _ (by kernel_rfl) Pw rfl rfl))|(refine Cg ?_;first|refine Bp ?_|refine Bx ?_)|refine WO ?_|refine Ai λX=>?_|refine Ay λY=>?_);refine NL ?_;refine AB rfl (by first|rfl|assumption) ?_;refine KK ?_;refine Bb (i+1) hi2
   ·obtain⟨n1,n2,n3⟩:=hy rfl
    subst n1;refine RG ?_;(repeat first|(refine Cg ?_;first|refine Bp ?_|refine Bx ?_)|refine WO ?_|refine Ai λX=>?_|refine Ay λY=>?_);refine NL ?_;refine AB rfl (by first|rfl|assumption) ?_;refine KK ?_;refine Bb (i+1) hi2
  ·clear hc
   refine FL ?_;have hst:=YL act;have htw:=ir act;obtain⟨sB,hsB⟩:=nm (LR act);obtain⟨tB,htB⟩:=nm (MK act);obtain⟨c8,hc8⟩:=nm (decide (act=8));obtain⟨c9,hc9⟩:=nm (decide (act=9));rw[hsB]at hst h6;rw[htB]at htw h5;have hk1:∀x:Int,x∈s.writes->s.writes.contains x=true:=λx hx=>by simpa using hx
   have hcw:=λx=>IX s.writes x (by omega)
   have hcr:=λx=>IX s.reads x (by omega)
   have hsB':=hsB;have htB':=htB;unfold LR at hsB';unfold MK at htB';cases sB<;>cases tB<;>cases c8<;>cases c9
   all_goals first
    |(exfalso;simp only[AH,CE,HZ,DG,AS,AZ]at hsB' htB' hc8 hc9;omega)
    |skip
   ·have ht0:=h8 (by simp only[AZ,HZ]at hc8 hc9 hsB';omega)
    injection ht0 with ht1 ht2
    subst ht1 ht2;have hn9:(!decide (act=9))=true:=by rw[hc9];rfl
    obtain rfl:b=KN:=h5 rfl;refine R1 ?_;refine RG ?_;(repeat first|(refine Bm ?_;first|(refine Bq ?_;first|refine BE (h:=(hst ..)) (k:=?_)|refine BE (h:=(htw ..)) (k:=?_))|refine Ad ?_ (W.neP _ _ (by kernel_rfl) S5 rfl rfl)|refine Ad ?_ (W.neP _ _ (by kernel_rfl) Pw rfl rfl))|(refine Cg ?_;first|refine Bp ?_|refine Bx ?_)|refine WO ?_|refine Ai λX=>?_|refine Ay λY=>?_);refine NL ?_;refine AB rfl (by first|rfl|assumption) ?_;refine RG ?_;(repeat first|(refine Bm ?_;first|(refine Bq ?_;first|refine BE (h:=(hst ..)) (k:=?_)))|(refine Cg ?_;first|refine Bp ?_|refine Bx ?_)|refine WO ?_|refine Ai λX=>?_|refine Ay λY=>?_);refine NL ?_;refine AB rfl (by first|rfl|assumption) ?_;refine RG ?_;(repeat first|(refine Bm ?_;first|(refine Bq ?_;first|refine BE (h:=(hst ..)) (k:=?_)))|(refine Cg ?_;first|refine Bp ?_|refine Bx ?_)|refine WO ?_|refine Ai λX=>?_|refine Ay λY=>?_);refine NL ?_;refine AB rfl (by first|rfl|assumption) ?_
    (iterate 8 refine WK ?_);refine GZ (Dz a) (Dz KN) ?_;refine KK ?_
    refine Cd (λi:Nat=>⟨[(0,BZ false false ks),(4,.fp (FY false s).cells),(174,.lst false 227 4 [Dz a,Dz KN]),(175,iA 2),(176,iA i)],Sf⟩) (λi=>i<=2) (λi=>2-i) 0 (by omega) ?_;rintro i hi;refine KK ?_;refine AC rfl (λhc=>?_) (λhc=>?_)
    ·have hi2:i<2:=by rw[AS]at hc;omega
     obtain⟨⟨xh,xn,xr⟩,hat,hx⟩:=hax i hi2;obtain⟨hy,hn⟩:=hx;dsimp only at hy hn;have hal:i<[Dz a,Dz KN].length:=hi2;refine JJ ?_;refine Ai λV=>?_;refine JB ?_
     cases xh
     ·refine RG ?_;(repeat first|(refine Cg ?_;first|refine Bp ?_|refine Bx ?_)|refine WO ?_|refine Ai λX=>?_|refine Ay λY=>?_);refine NL ?_
      refine AB rfl (by first|rfl|assumption) ?_;refine KK ?_;refine Bb (i+1) hi2
     ·obtain⟨n1,n2,n3⟩:=hy rfl
      have hr1:=hcr xr.kind;have hr2:=hcw xr.kind;cases hrr:s.reads.contains xr.kind
      ·rw[hrr]at hr1
       rw[show s.writes.contains xr.kind=true from by rcases n3 with e|e;rw[e]at hrr;cases hrr;exact e]at hr2;refine JJ ?_;refine BO (h:=(hr1 ..)) (k:=?_);refine KO ?_;refine BO (h:=(hr2 ..)) (k:=?_);refine JE ?_;refine AB rfl (by first|rfl|assumption) ?_;refine KK ?_;refine Bb (i+1) hi2
      ·rw[hrr]at hr1
       refine RG ?_;(repeat first|(refine Bm ?_;first|(refine Bq ?_;first|refine BO (h:=(hr1 ..)) (k:=?_)))|(refine Cg ?_;first|refine Bp ?_|refine Bx ?_)|refine WO ?_|refine Ai λX=>?_|refine Ay λY=>?_);refine NL ?_;refine AB rfl (by first|rfl|assumption) ?_;refine KK ?_;refine Bb (i+1) hi2
    ·refine KK ?_
     refine RT ?_;refine Ah ?_;rfl
   ·obtain rfl:act=9:=by simpa using hc9
    obtain⟨p1,p2,rfl⟩:=h7 (.inr rfl);obtain rfl:b=KN:=h5 rfl;have k1:decide (tk<0)=false:=Au (by omega);have k2:decide (tk>=(ks.map (Bd false)).length)=false:=Au (by omega);refine R1 ?_;refine RG ?_;(repeat first|(refine Bm ?_;first|(refine Bq ?_;first|refine BE (h:=(hst ..)) (k:=?_)|refine BE (h:=(htw ..)) (k:=?_))|refine Ad ?_ (W.neP _ _ (by kernel_rfl) S5 rfl rfl)|refine Ad ?_ (W.neP _ _ (by kernel_rfl) Pw rfl rfl))|(refine Cg ?_;first|refine Bp ?_|refine Bx ?_)|refine WO ?_|refine Ai λX=>?_|refine Ay λY=>?_);refine NL ?_;refine AB rfl (by first|rfl|assumption) ?_;refine RG ?_;(repeat first|(refine Bm ?_;first|(refine Bq ?_;first|refine BE (h:=(hst ..)) (k:=?_)))|(refine Cg ?_;first|refine Bp ?_|refine Bx ?_)|refine WO ?_|refine Ai λX=>?_|refine Ay λY=>?_);refine NL ?_;refine AB rfl (by first|rfl|assumption) ?_;refine RG ?_;(repeat first|(refine Bm ?_;first|(refine Bq ?_;first|refine BE (h:=(hst ..)) (k:=?_)))|(refine Cg ?_;first|refine Bp ?_|refine Bx ?_)|refine WO ?_|refine Ai λX=>?_|refine Ay λY=>?_);refine NL ?_;refine AB rfl (by first|rfl|assumption) ?_
    (iterate 8 refine WK ?_);refine GZ (Dz a) (Dz KN) ?_;refine KK ?_
    refine Cd (λi:Nat=>⟨[(0,BZ false false ks),(4,.fp (FY false s).cells),(174,.lst false 227 4 [Dz a,Dz KN]),(175,iA 2),(176,iA i)],Sf⟩) (λi=>i<=2) (λi=>2-i) 0 (by omega) ?_;rintro i hi;refine KK ?_;refine AC rfl (λhc=>?_) (λhc=>?_)
    ·have hi2:i<2:=by rw[AS]at hc;omega
     obtain⟨⟨xh,xn,xr⟩,hat,hx⟩:=hax i hi2;obtain⟨hy,hn⟩:=hx;dsimp only at hy hn;have hal:i<[Dz a,Dz KN].length:=hi2;refine JJ ?_;refine Ai λV=>?_;refine JB ?_
     cases xh
     ·refine RG ?_;(repeat first|(refine Cg ?_;first|refine Bp ?_|refine Bx ?_)|refine WO ?_|refine Ai λX=>?_|refine Ay λY=>?_);refine NL ?_
      refine AB rfl (by first|rfl|assumption) ?_;refine KK ?_;refine Bb (i+1) hi2
     ·obtain⟨n1,n2,n3⟩:=hy rfl
      have hr1:=hcr xr.kind;have hr2:=hcw xr.kind;cases hrr:s.reads.contains xr.kind
      ·rw[hrr]at hr1
       rw[show s.writes.contains xr.kind=true from by rcases n3 with e|e;rw[e]at hrr;cases hrr;exact e]at hr2;refine JJ ?_;refine BO (h:=(hr1 ..)) (k:=?_);refine KO ?_;refine BO (h:=(hr2 ..)) (k:=?_);refine JE ?_;refine AB rfl (by first|rfl|assumption) ?_;refine KK ?_;refine Bb (i+1) hi2
      ·rw[hrr]at hr1
       refine RG ?_;(repeat first|(refine Bm ?_;first|(refine Bq ?_;first|refine BO (h:=(hr1 ..)) (k:=?_)))|(refine Cg ?_;first|refine Bp ?_|refine Bx ?_)|refine WO ?_|refine Ai λX=>?_|refine Ay λY=>?_);refine NL ?_;refine AB rfl (by first|rfl|assumption) ?_;refine KK ?_;refine Bb (i+1) hi2
    ·refine KK ?_
     refine RT ?_;refine Ah ?_;rfl
   ·obtain rfl:act=8:=by simpa using hc8
    obtain⟨p1,p2,rfl⟩:=h7 (.inl rfl);obtain rfl:b=KN:=h5 rfl;have k1:decide (tk<0)=false:=Au (by omega);have k2:decide (tk>=(ks.map (Bd false)).length)=false:=Au (by omega);refine R1 ?_;refine RG ?_;(repeat first|(refine Bm ?_;first|(refine Bq ?_;first|refine BE (h:=(hst ..)) (k:=?_)|refine BE (h:=(htw ..)) (k:=?_))|refine Ad ?_ (W.neP _ _ (by kernel_rfl) S5 rfl rfl)|refine Ad ?_ (W.neP _ _ (by kernel_rfl) Pw rfl rfl))|(refine Cg ?_;first|refine Bp ?_|refine Bx ?_)|refine WO ?_|refine Ai λX=>?_|refine Ay λY=>?_);refine NL ?_;refine AB rfl (by first|rfl|assumption) ?_;refine RG ?_;(repeat first|(refine Bm ?_;first|(refine Bq ?_;first|refine BE (h:=(hst ..)) (k:=?_)))|(refine Cg ?_;first|refine Bp ?_|refine Bx ?_)|refine WO ?_|refine Ai λX=>?_|refine Ay λY=>?_);refine NL ?_;refine AB rfl (by first|rfl|assumption) ?_;refine RG ?_;(repeat first|(refine Bm ?_;first|(refine Bq ?_;first|refine BE (h:=(hst ..)) (k:=?_)))|(refine Cg ?_;first|refine Bp ?_|refine Bx ?_)|refine WO ?_|refine Ai λX=>?_|refine Ay λY=>?_);refine NL ?_;refine AB rfl (by first|rfl|assumption) ?_
    (iterate 8 refine WK ?_);refine GZ (Dz a) (Dz KN) ?_;refine KK ?_
    refine Cd (λi:Nat=>⟨[(0,BZ false false ks),(4,.fp (FY false s).cells),(174,.lst false 227 4 [Dz a,Dz KN]),(175,iA 2),(176,iA i)],Sf⟩) (λi=>i<=2) (λi=>2-i) 0 (by omega) ?_;rintro i hi;refine KK ?_;refine AC rfl (λhc=>?_) (λhc=>?_)
    ·have hi2:i<2:=by rw[AS]at hc;omega
     obtain⟨⟨xh,xn,xr⟩,hat,hx⟩:=hax i hi2;obtain⟨hy,hn⟩:=hx;dsimp only at hy hn;have hal:i<[Dz a,Dz KN].length:=hi2;refine JJ ?_;refine Ai λV=>?_;refine JB ?_
     cases xh
     ·refine RG ?_;(repeat first|(refine Cg ?_;first|refine Bp ?_|refine Bx ?_)|refine WO ?_|refine Ai λX=>?_|refine Ay λY=>?_);refine NL ?_
      refine AB rfl (by first|rfl|assumption) ?_;refine KK ?_;refine Bb (i+1) hi2
     ·obtain⟨n1,n2,n3⟩:=hy rfl
      have hr1:=hcr xr.kind;have hr2:=hcw xr.kind;cases hrr:s.reads.contains xr.kind
      ·rw[hrr]at hr1
       rw[show s.writes.contains xr.kind=true from by rcases n3 with e|e;rw[e]at hrr;cases hrr;exact e]at hr2;refine JJ ?_;refine BO (h:=(hr1 ..)) (k:=?_);refine KO ?_;refine BO (h:=(hr2 ..)) (k:=?_);refine JE ?_;refine AB rfl (by first|rfl|assumption) ?_;refine KK ?_;refine Bb (i+1) hi2
      ·rw[hrr]at hr1
       refine RG ?_;(repeat first|(refine Bm ?_;first|(refine Bq ?_;first|refine BO (h:=(hr1 ..)) (k:=?_)))|(refine Cg ?_;first|refine Bp ?_|refine Bx ?_)|refine WO ?_|refine Ai λX=>?_|refine Ay λY=>?_);refine NL ?_;refine AB rfl (by first|rfl|assumption) ?_;refine KK ?_;refine Bb (i+1) hi2
    ·refine KK ?_
     refine RT ?_;refine Ah ?_;rfl
   ·have ht0:=h8 (by simp only[AZ,HZ]at hc8 hc9 hsB';omega)
    injection ht0 with ht1 ht2
    subst ht1 ht2;have hn9:(!decide (act=9))=true:=by rw[hc9];rfl
    refine R1 ?_;refine RG ?_;(repeat first|(refine Bm ?_;first|(refine Bq ?_;first|refine BE (h:=(hst ..)) (k:=?_)|refine BE (h:=(htw ..)) (k:=?_))|refine Ad ?_ (W.neP _ _ (by kernel_rfl) S5 rfl rfl)|refine Ad ?_ (W.neP _ _ (by kernel_rfl) Pw rfl rfl))|(refine Cg ?_;first|refine Bp ?_|refine Bx ?_)|refine WO ?_|refine Ai λX=>?_|refine Ay λY=>?_);refine NL ?_;refine AB rfl (by first|rfl|assumption) ?_;refine RG ?_;(repeat first|(refine Bm ?_;first|(refine Bq ?_;first|refine BE (h:=(hst ..)) (k:=?_)))|(refine Cg ?_;first|refine Bp ?_|refine Bx ?_)|refine WO ?_|refine Ai λX=>?_|refine Ay λY=>?_);refine NL ?_;refine AB rfl (by first|rfl|assumption) ?_;refine RG ?_;(repeat first|(refine Bm ?_;first|(refine Bq ?_;first|refine BE (h:=(hst ..)) (k:=?_)))|(refine Cg ?_;first|refine Bp ?_|refine Bx ?_)|refine WO ?_|refine Ai λX=>?_|refine Ay λY=>?_);refine NL ?_;refine AB rfl (by first|rfl|assumption) ?_
    (iterate 8 refine WK ?_);refine GZ (Dz a) (Dz b) ?_;refine KK ?_
    refine Cd (λi:Nat=>⟨[(0,BZ false false ks),(4,.fp (FY false s).cells),(174,.lst false 227 4 [Dz a,Dz b]),(175,iA 2),(176,iA i)],Sf⟩) (λi=>i<=2) (λi=>2-i) 0 (by omega) ?_;rintro i hi;refine KK ?_;refine AC rfl (λhc=>?_) (λhc=>?_)
    ·have hi2:i<2:=by rw[AS]at hc;omega
     obtain⟨⟨xh,xn,xr⟩,hat,hx⟩:=hax i hi2;obtain⟨hy,hn⟩:=hx;dsimp only at hy hn;have hal:i<[Dz a,Dz b].length:=hi2;refine JJ ?_;refine Ai λV=>?_;refine JB ?_
     cases xh
     ·refine RG ?_;(repeat first|(refine Cg ?_;first|refine Bp ?_|refine Bx ?_)|refine WO ?_|refine Ai λX=>?_|refine Ay λY=>?_);refine NL ?_
      refine AB rfl (by first|rfl|assumption) ?_;refine KK ?_;refine Bb (i+1) hi2
     ·obtain⟨n1,n2,n3⟩:=hy rfl
      have hr1:=hcr xr.kind;have hr2:=hcw xr.kind;cases hrr:s.reads.contains xr.kind
      ·rw[hrr]at hr1
       rw[show s.writes.contains xr.kind=true from by rcases n3 with e|e;rw[e]at hrr;cases hrr;exact e]at hr2;refine JJ ?_;refine BO (h:=(hr1 ..)) (k:=?_);refine KO ?_;refine BO (h:=(hr2 ..)) (k:=?_);refine JE ?_;refine AB rfl (by first|rfl|assumption) ?_;refine KK ?_;refine Bb (i+1) hi2
      ·rw[hrr]at hr1
       refine RG ?_;(repeat first|(refine Bm ?_;first|(refine Bq ?_;first|refine BO (h:=(hr1 ..)) (k:=?_)))|(refine Cg ?_;first|refine Bp ?_|refine Bx ?_)|refine WO ?_|refine Ai λX=>?_|refine Ay λY=>?_);refine NL ?_;refine AB rfl (by first|rfl|assumption) ?_;refine KK ?_;refine Bb (i+1) hi2
    ·refine KK ?_
     refine RT ?_;refine Ah ?_;rfl
   ·obtain rfl:b=KN:=h5 rfl
    obtain⟨hR,hW⟩:=h6 rfl;have hf:=Mo ks ⟨tk,tf⟩ hR;have hcw1:=hcw tk;rw[hW]at hcw1;refine R1 ?_;refine RG ?_;(repeat first|(refine Bm ?_;first|(refine Bq ?_;first|refine BE (h:=(hst ..)) (k:=?_)|refine BE (h:=(htw ..)) (k:=?_))|refine Ad ?_ (W.neP _ _ (by kernel_rfl) S5 rfl rfl)|refine Ad ?_ (W.neP _ _ (by kernel_rfl) Pw rfl rfl))|(refine Cg ?_;first|refine Bp ?_|refine Bx ?_)|refine WO ?_|refine Ai λX=>?_|refine Ay λY=>?_);refine NL ?_;refine AB rfl (by first|rfl|assumption) ?_;refine RG ?_;(repeat first|(refine Bm ?_;first|(refine Bq ?_;first|refine BE (h:=(hst ..)) (k:=?_)|refine BO (h:=(hf ..)) (k:=?_)))|(refine Cg ?_;first|refine Bp ?_|refine Bx ?_)|refine WO ?_|refine Ai λX=>?_|refine Ay λY=>?_);refine NL ?_;refine AB rfl (by first|rfl|assumption) ?_;refine JJ ?_;refine BE (h:=(hst ..)) (k:=?_);refine KO ?_;refine BO (h:=(hcw1 ..)) (k:=?_);refine JE ?_;refine AB rfl (by first|rfl|assumption) ?_
    (iterate 8 refine WK ?_);refine GZ (Dz a) (Dz KN) ?_;refine KK ?_
    refine Cd (λi:Nat=>⟨[(0,BZ false false ks),(4,.fp (FY false s).cells),(174,.lst false 227 4 [Dz a,Dz KN]),(175,iA 2),(176,iA i)],Sf⟩) (λi=>i<=2) (λi=>2-i) 0 (by omega) ?_;rintro i hi;refine KK ?_;refine AC rfl (λhc=>?_) (λhc=>?_)
    ·have hi2:i<2:=by rw[AS]at hc;omega
     obtain⟨⟨xh,xn,xr⟩,hat,hx⟩:=hax i hi2;obtain⟨hy,hn⟩:=hx;dsimp only at hy hn;have hal:i<[Dz a,Dz KN].length:=hi2;refine JJ ?_;refine Ai λV=>?_;refine JB ?_
     cases xh
     ·refine RG ?_;(repeat first|(refine Cg ?_;first|refine Bp ?_|refine Bx ?_)|refine WO ?_|refine Ai λX=>?_|refine Ay λY=>?_);refine NL ?_
      refine AB rfl (by first|rfl|assumption) ?_;refine KK ?_;refine Bb (i+1) hi2
     ·obtain⟨n1,n2,n3⟩:=hy rfl
      have hr1:=hcr xr.kind;have hr2:=hcw xr.kind;cases hrr:s.reads.contains xr.kind
      ·rw[hrr]at hr1
       rw[show s.writes.contains xr.kind=true from by rcases n3 with e|e;rw[e]at hrr;cases hrr;exact e]at hr2;refine JJ ?_;refine BO (h:=(hr1 ..)) (k:=?_);refine KO ?_;refine BO (h:=(hr2 ..)) (k:=?_);refine JE ?_;refine AB rfl (by first|rfl|assumption) ?_;refine KK ?_;refine Bb (i+1) hi2
      ·rw[hrr]at hr1
       refine RG ?_;(repeat first|(refine Bm ?_;first|(refine Bq ?_;first|refine BO (h:=(hr1 ..)) (k:=?_)))|(refine Cg ?_;first|refine Bp ?_|refine Bx ?_)|refine WO ?_|refine Ai λX=>?_|refine Ay λY=>?_);refine NL ?_;refine AB rfl (by first|rfl|assumption) ?_;refine KK ?_;refine Bb (i+1) hi2
    ·refine KK ?_
     refine RT ?_;refine Ah ?_;rfl
   ·obtain⟨hR,hW⟩:=h6 rfl
    have hf:=Mo ks ⟨tk,tf⟩ hR;have hcw1:=hcw tk;rw[hW]at hcw1;refine R1 ?_;refine RG ?_;(repeat first|(refine Bm ?_;first|(refine Bq ?_;first|refine BE (h:=(hst ..)) (k:=?_)|refine BE (h:=(htw ..)) (k:=?_))|refine Ad ?_ (W.neP _ _ (by kernel_rfl) S5 rfl rfl)|refine Ad ?_ (W.neP _ _ (by kernel_rfl) Pw rfl rfl))|(refine Cg ?_;first|refine Bp ?_|refine Bx ?_)|refine WO ?_|refine Ai λX=>?_|refine Ay λY=>?_);refine NL ?_;refine AB rfl (by first|rfl|assumption) ?_;refine RG ?_;(repeat first|(refine Bm ?_;first|(refine Bq ?_;first|refine BE (h:=(hst ..)) (k:=?_)|refine BO (h:=(hf ..)) (k:=?_)))|(refine Cg ?_;first|refine Bp ?_|refine Bx ?_)|refine WO ?_|refine Ai λX=>?_|refine Ay λY=>?_);refine NL ?_;refine AB rfl (by first|rfl|assumption) ?_;refine JJ ?_;refine BE (h:=(hst ..)) (k:=?_);refine KO ?_;refine BO (h:=(hcw1 ..)) (k:=?_);refine JE ?_;refine AB rfl (by first|rfl|assumption) ?_
    (iterate 8 refine WK ?_);refine GZ (Dz a) (Dz b) ?_;refine KK ?_
    refine Cd (λi:Nat=>⟨[(0,BZ false false ks),(4,.fp (FY false s).cells),(174,.lst false 227 4 [Dz a,Dz b]),(175,iA 2),(176,iA i)],Sf⟩) (λi=>i<=2) (λi=>2-i) 0 (by omega) ?_;rintro i hi;refine KK ?_;refine AC rfl (λhc=>?_) (λhc=>?_)
    ·have hi2:i<2:=by rw[AS]at hc;omega
     obtain⟨⟨xh,xn,xr⟩,hat,hx⟩:=hax i hi2;obtain⟨hy,hn⟩:=hx;dsimp only at hy hn;have hal:i<[Dz a,Dz b].length:=hi2;refine JJ ?_;refine Ai λV=>?_;refine JB ?_
     cases xh
     ·refine RG ?_;(repeat first|(refine Cg ?_;first|refine Bp ?_|refine Bx ?_)|refine WO ?_|refine Ai λX=>?_|refine Ay λY=>?_);refine NL ?_
      refine AB rfl (by first|rfl|assumption) ?_;refine KK ?_;refine Bb (i+1) hi2
     ·obtain⟨n1,n2,n3⟩:=hy rfl
      have hr1:=hcr xr.kind;have hr2:=hcw xr.kind;cases hrr:s.reads.contains xr.kind
      ·rw[hrr]at hr1
       rw[show s.writes.contains xr.kind=true from by rcases n3 with e|e;rw[e]at hrr;cases hrr;exact e]at hr2;refine JJ ?_;refine BO (h:=(hr1 ..)) (k:=?_);refine KO ?_;refine BO (h:=(hr2 ..)) (k:=?_);refine JE ?_;refine AB rfl (by first|rfl|assumption) ?_;refine KK ?_;refine Bb (i+1) hi2
      ·rw[hrr]at hr1
       refine RG ?_;(repeat first|(refine Bm ?_;first|(refine Bq ?_;first|refine BO (h:=(hr1 ..)) (k:=?_)))|(refine Cg ?_;first|refine Bp ?_|refine Bx ?_)|refine WO ?_|refine Ai λX=>?_|refine Ay λY=>?_);refine NL ?_;refine AB rfl (by first|rfl|assumption) ?_;refine KK ?_;refine Bb (i+1) hi2
    ·refine KK ?_
     refine RT ?_;refine Ah ?_;rfl
theorem jy(ks:List Kind)(s:Sys)(o:Op)(h:OpG ks s.reads s.writes o)(hr:s.reads.length<=1099511627776)(hw:s.writes.length<=1099511627776):PS prog 190 [BZ false false ks,FY false s,opA o] (iA 0):=i4 ks s o h hr hw
theorem Vf(n:Nat)(hn:n*8<=140737488355328):PS prog 203 [.prim (.slice none 0 0),iA n] (.lst true 3 1 []):=by
 refine Sp (nt:=27) (res:=[.tmp 4]) func203 λSf=>?_
 refine KK ?_;refine AB rfl (Au (by omega)) ?_
 (iterate 6 refine WK ?_);refine AOps.p (W.capN rfl) rfl ?_;refine KK ?_
 refine AC rfl (λhc=>?_) (λhc=>?_)
 ·have hc:0<n:=by rw[AS]at hc;omega
  (repeat first|(refine Bm ?_;first|refine AOps.p (W.capN rfl) rfl ?_|refine AOps.p (V4 rfl rfl) rfl ?_|(refine O1 ?_;refine RR (n:=n) (λY=>?_) hc hn (hq:=by omega))|refine AOps.p (W.hi (a:=0) rfl rfl (by exact Az) rfl (by omega)) rfl ?_)|refine WK ?_|refine Ai λX=>?_|refine Ay λY=>?_);refine FF (X:=Y) 0 ?_;refine RT ?_;exact⟨[.sl Y 0 0],[.lst true 3 1 []],_,[],.cons (.tmp rfl) rfl .nil,.cons (.cell (.sl (p:=0) .here rfl)) .nil,by exact BL,rfl,rfl⟩
 ·refine KK ?_
  refine RT ?_;exact⟨[.prim (.slice none 0 0)],[.lst true 3 1 []],_,[],.cons (.tmp rfl) rfl .nil,.cons (.cell .nil) .nil,by exact BL,rfl,rfl⟩
def Js(ls:List (List Int))(i:Nat):Nat:=((ls.take i).flatten).length
theorem Od{ls:List (List Int)}(h:i<ls.length):Js ls (i+1)=Js ls i+ls[i].length:=by
 unfold Js;rw[Aw h,BC,AJ];simp
theorem aU(ls:List (List Int))(i:Nat):Js ls i<=ls.flatten.length:=by
 unfold Js;have h:((ls.take i).flatten++(ls.drop i).flatten)=ls.flatten:=by rw[<-BC,B8]
 rw[<-h,AJ];omega
theorem Qr(ls:List (List Int))(hl:ls.length<=4611686018427387903)(hb:ls.flatten.length*8<=140737488355328):PS prog 142 [.lst false 22 1 (ls.map λl=>.lst false 3 1 (l.map iA))] (.lst true 3 1 (ls.flatten.map iA)):=by
 refine Sp (nt:=36) (res:=[.tmp 2]) func142 λSf=>?_
 have hle:=aU ls;refine KK ?_;refine Cq (λ(i:Nat) (s:Int)=>⟨[(0,.lst false 22 1 (ls.map λl=>.lst false 3 1 (l.map iA))),(3,iA s),(9,.lst false 22 1 (ls.map λl=>.lst false 3 1 (l.map iA))),(10,iA (ls.map λl=>AV.lst false 3 1 (l.map iA)).length),(11,iA i)],Sf⟩) (λi s=>i<=ls.length/\s=Js ls i) (λi _=>ls.length-i) 0 0 ⟨Ap _,rfl⟩ ?_;rintro i s ⟨hi,hs⟩;have h0:=hle i;refine KK ?_;refine AC rfl (λhc=>?_) (λhc=>?_)
 ·have h:i<ls.length:=by rw[AS,AD]at hc;omega
  have hs1:=Od h;have h1:=hle (i+1);have hml:(ls[i].map iA).length=ls[i].length:=AD _;refine KK ?_;refine AB rfl (Au (by omega)) ?_;refine KK ?_;exact CA (i+1) (s+(ls[i].map iA).length) ⟨h,by omega⟩
 ·have h:i=ls.length:=by rw[AZ,AD]at hc;omega
  subst h;have hfull:Js ls ls.length=ls.flatten.length:=by unfold Js;rw[Bg]
  subst hs;have hg:=Vf (Js ls ls.length) (by rw[hfull];exact hb);refine KK ?_;refine ZE (h:=hg) λY=>?_;refine KK ?_
  refine FP (λ(i Y m:Nat) (L:List AV)=>⟨[(6,.sl Y 0 m),(25,.lst false 22 1 (ls.map λl=>.lst false 3 1 (l.map iA))),(26,iA (ls.map λl=>AV.lst false 3 1 (l.map iA)).length),(27,iA i)],(Y,.row 3 1 L)::Sf⟩) (λi _ m L=>i<=ls.length/\m=L.length/\L=((ls.take i).flatten).map iA) (λi _ _ _=>ls.length-i) 0 Y 0 [] ⟨Ap _,rfl,rfl⟩ ?_;rintro i Y m L ⟨hi,hm,hL⟩;have hLl:L.length=Js ls i:=by rw[hL,AD];rfl
  refine KK ?_;refine AC rfl (λhd=>?_) (λhd=>?_)
  ·have h:i<ls.length:=by rw[AS,AD]at hd;omega
   have hs1:=Od h;have h1:=hle (i+1);have hml:(ls[i].map iA).length=ls[i].length:=AD _;have hbd:(m+(ls[i].map iA).length)*8<=140737488355328:=by omega
   refine KK ?_;refine Ay λY=>?_;refine KK ?_
   refine DH (i+1) Y _ _ ⟨h,?_,?_⟩
   ·rw[AJ,hm]
   ·rw[Aw h,BC,AK,<-hL];simp
  ·have h:i=ls.length:=by rw[AZ,AD]at hd;omega
   subst h;rw[Bg]at hL;subst hL;refine JC ?_;exact⟨[.sl Y 0 m],[.lst true 3 1 (ls.flatten.map iA)],_,[],.cons (.tmp rfl) rfl .nil,.cons (.cell (.sl (p:=0) .here hm)) .nil,by exact BL,rfl,rfl⟩
structure SysG(ks:List Kind)(s:Sys):Prop where
 name:Dx s.name=true
 len:s.ops.length<=20
 o:∀l∈[s.wth,s.wout,s.reads,s.writes],l.Pairwise (· < ·)/\(∀x∈l,0<=x/\x<ks.length)/\l.length<=16
 clash:(s.wth.any λx=>s.wout.contains x)=false
 typ:((s.reads++s.writes).any λx=>!s.wth.contains x)=false
 spawn:(Eb ks s.spawn).2=0
 sp:s.spawn.length<=1099511627776
 ops:∀o∈s.ops,OpG ks s.reads s.writes o
theorem OW(ks:List Kind)(s:Sys)(hk:Bs ks=0)(h12:ks.length<=12)(h:SysG ks s):PS prog 134 [BZ false false ks,FY false s] (iA 0):=by
 have hck:=Nh ks;rw[hk]at hck;have hnm:=Tp s.name;rw[h.name]at hnm;have hl1:=h.o s.wth (by simp);have hl2:=h.o s.wout (by simp);have hl3:=h.o s.reads (by simp);have hl4:=h.o s.writes (by simp);have hft:=ND ks s.spawn h12 h.sp;rw[h.spawn]at hft;have hcl:=GV s.wth 187 [.fp (FY false s).cells] (λx=>s.wout.contains x) rfl (by omega) (λx _=>TY s x (by omega));rw[h.clash]at hcl;have hty:=GV (s.reads++s.writes) 189 [.fp (FY false s).cells] (λx=>!s.wth.contains x) rfl (by rw[AJ];omega) (λx _=>TX s x (by omega));rw[h.typ]at hty;have hom:(s.ops.map opA).length=s.ops.length:=AD _;have hol:=h.len;have hle:decide (((s.ops.map opA).length:Int)>20)=false:=Au (by omega);refine Sp (nt:=85) (res:=[.tmp 4]) func134 λSf=>?_
 refine RG ?_;refine Bt ?_;refine JB ?_;refine KK ?_;refine BE (h:=(hck ..)) (k:=?_);refine KK ?_;refine AB rfl rfl ?_;refine KK ?_;refine BE (h:=(hnm ..)) (k:=?_);refine KK ?_;refine AB rfl rfl ?_;refine KK ?_;refine AB rfl hle ?_
 have hax:∀i,i<4->∃l,([Av false s.wth,Av false s.wout,Av false s.reads,Av false s.writes])[i]?=some (Av false l)/\l.Pairwise (· < ·)/\(∀x∈l,0<=x/\x<ks.length)/\l.length<=16:=λi hi=>by
  rcases(show i=0\/i=1\/i=2\/i=3 by omega)with rfl|rfl|rfl|rfl
  ·exact⟨_,rfl,hl1⟩
  ·exact⟨_,rfl,hl2⟩
  ·exact⟨_,rfl,hl3⟩
  ·exact⟨_,rfl,hl4⟩
 refine KK ?_;refine Cd (λi:Nat=>⟨[(0,BZ false false ks),(3,.fp (FY false s).cells),(35,.lst false 22 1 [Av false s.wth,Av false s.wout,Av false s.reads,Av false s.writes]),(36,iA 4),(37,iA i)],Sf⟩) (λi=>i<=4) (λi=>4-i) 0 (by omega) ?_;rintro i hi;refine KK ?_;refine AC rfl (λhc=>?_) (λhc=>?_)
 ·have hi2:i<4:=by rw[AS]at hc;omega
  obtain⟨l,hat,p1,p2,p3⟩:=hax i hi2;have hst:=iu ks l p1 p2 (by omega);have hal:i<[Av false s.wth,Av false s.wout,Av false s.reads,Av false s.writes].length:=hi2;refine KK ?_;refine BO (h:=(hst ..)) (k:=?_);refine KK ?_;refine AB rfl rfl ?_;refine KK ?_;refine Bb (i+1) hi2
 ·clear hc
  refine KK ?_;refine BO (h:=(hcl ..)) (k:=?_);refine KK ?_;refine AB rfl rfl ?_;have hcc:=Qr [s.reads,s.writes] (by simp) (by simp;omega);rw[show[s.reads,s.writes].flatten=s.reads++s.writes from by simp]at hcc
  (iterate 8 refine WK ?_);refine GZ (Av false s.reads) (Av false s.writes) ?_;refine BE (h:=(hcc ..)) (k:=?_);refine WK ?_;refine BO (h:=(hty ..)) (k:=?_);refine KK ?_
  refine AB rfl rfl ?_;refine KK ?_;refine BO (h:=(hft ..)) (k:=?_);refine KK ?_;refine AB rfl rfl ?_;refine KK ?_;refine Cd (λi:Nat=>⟨[(0,BZ false false ks),(3,.fp (FY false s).cells),(71,f8 false s.ops),(72,iA (s.ops.map opA).length),(73,iA i)],Sf⟩) (λi=>i<=s.ops.length) (λi=>s.ops.length-i) 0 (by omega) ?_;rintro i hi;refine KK ?_;refine AC rfl (λhc=>?_) (λhc=>?_)
  ·have hi2:i<s.ops.length:=by rw[AS,hom]at hc;omega
   have hop:=jy ks s s.ops[i] (h.ops _ (As hi2)) (by omega) (by omega);have hat:(s.ops.map opA)[i]?=some (opA s.ops[i]):=by rw[Ac,AX hi2];rfl
   refine JJ ?_;refine Ai λV=>?_;refine JB ?_
   refine JJ ?_;refine Gt (h:=(hop ..)) (k:=?_);refine JB ?_;refine KK ?_;refine AB rfl rfl ?_;refine KK ?_;refine Bb (i+1) hi2
  ·refine KK ?_
   refine RT ?_;refine Ah ?_;rfl
structure RnG(ks:List Kind)(s:Sys)(st:Rn):Prop where
 held:Ce ks st.comps=true
 has:RL s st.comps
 odd:st.r.2.toNat%2=1
theorem WV(act a b:Int)(r:UInt64×UInt64):(HG act a b r).2.2=r.2:=by
 have hg:(Hs r a.toNat).2.2=r.2:=by unfold Hs;exact MU _ _ _
 unfold HG;obtain⟨res,hres⟩:=nm (Hs r a.toNat);rw[hres]at hg⊢;clear hres;split
 ·rfl
 split
 ·rfl
 split
 ·rfl
 split
 ·rfl
 split
 ·rfl
 split
 ·rfl
 split
 ·split
  ·rfl
  ·exact hg
 ·rfl
theorem dp{o:Op}{st:Rn}(hk:Bs ks=0)(h:RnG ks s st)(ho:OpG ks s.reads s.writes o):RnG ks s (doM ks s index e o st)/\(doM ks s index e o st).cmds.length<=st.cmds.length+1/\(doM ks s index e o st).evs.length<=st.evs.length+1:=by
 obtain⟨h1,h2,h3⟩:=h;unfold doM;by_cases hs:LR o.act=true
 ·rw[Ab hs]
  obtain⟨hR,hW⟩:=ho.sets hs;obtain⟨c,k,e1,e2,e3,e4,e5,e6,e7⟩:=Pv h1 h2 hR (.inr hW);refine⟨⟨Zz hk h1 e1 e3 e5 e6 _,XS h2 (Pm (held_iff.1 h1).1 _ _ _),?_⟩,MB _,MB _⟩;dsimp only;rw[WV];exact h3
 ·rw[AI hs]
  by_cases hz:Ni st.comps o.a=0
  ·rw[Ab hz]
   exact⟨⟨h1,h2,h3⟩,MB _,MB _⟩
  ·rw[AI hz]
   by_cases h12:o.act=12
   ·rw[Ab h12]
    exact⟨⟨h1,h2,h3⟩,MB _,by simp⟩
   ·rw[AI h12]
    exact⟨⟨h1,h2,h3⟩,by simp,MB _⟩
def LH(ks:List Kind)(s:Sys)(index:Int)(e:Ent)(os:List Op)(st:Rn):Rn:=os.foldl (λst o=>doM ks s index e o st) st
theorem Tk{index:Int}{e:Ent}(hk:Bs ks=0):∀(os:List Op) {st:Rn} (h:RnG ks s st) (ho:∀o∈os,OpG ks s.reads s.writes o),RnG ks s (LH ks s index e os st)/\(LH ks s index e os st).cmds.length<=st.cmds.length+os.length/\(LH ks s index e os st).evs.length<=st.evs.length+os.length
 |[],st,h,ho=>⟨h,AT _,AT _⟩
 |o::os,st,h,ho=>by
  obtain⟨g1,g2,g3⟩:=dp (index:=index) (e:=e) hk h (ho o (by simp));obtain⟨k1,k2,k3⟩:=Tk (index:=index) (e:=e) hk os g1 (λo' h'=>ho o' (by simp[h']));refine⟨k1,?_,?_⟩
  ·show(LH ks s index e os (doM ks s index e o st)).cmds.length<=_
   rw[Bl];omega
  ·show(LH ks s index e os (doM ks s index e o st)).evs.length<=_
   rw[Bl];omega
theorem aI{os:List Op}(h:i<os.length)(st:Rn):LH ks s index e (os.take (i+1)) st=doM ks s index e os[i] (LH ks s index e (os.take i) st):=by
 unfold LH;rw[Aw h,Nx];rfl
def I0(ks:List Kind)(s:Sys)(index seed tick:Int)(x:Item)(cm:List Cmd)(ev:List Evt):Rn:=LH ks s index x.ent s.ops ⟨x.comps,KC [seed,tick,index,x.ent.n],cm,ev⟩
def Jc(ks:List Kind)(s:Sys)(index seed tick:Int)(qs:List (Nat×Item))(b:List Item×List Cmd×List Evt):List Item×List Cmd×List Evt:=
 qs.foldl (λb q=>(b.1.set q.1 ⟨q.2.ent,(I0 ks s index seed tick q.2 b.2.1 b.2.2).comps⟩,(I0 ks s index seed tick q.2 b.2.1 b.2.2).cmds,(I0 ks s index seed tick q.2 b.2.1 b.2.2).evs)) b
theorem Ww{index seed tick:Int}{qs:List (Nat×Item)}(h:i<qs.length)(b:List Item×List Cmd×List Evt):Jc ks s index seed tick (qs.take (i+1)) b=Jc ks s index seed tick [qs[i]] (Jc ks s index seed tick (qs.take i) b):=by
 unfold Jc;rw[Aw h,Nx]
def MH(w:Wd)(s:Sys)(index seed tick:Int):List Item×List Cmd×List Evt:=Jc w.kinds s index seed tick (Hc w.items s.wth s.wout) (w.items,[],[])
theorem N6(l:List Int):(KC l).2.toNat%2=1:=by
 unfold KC;dsimp only;rw[HV];have:(1:UInt64).toNat=1:=rfl;rw[this,<-Ft,Nat.and_or_distrib_right];rw[Ft];rcases Ee (HK (HK (l.foldl SE (UInt64.ofNat l.length)+Ko)+Ko)).toNat with h|h<;>rw[h]<;>rfl
theorem Yn{index seed tick:Int}{x:Item}(hk:Bs ks=0)(hh:Ce ks x.comps=true)(ha:RL s x.comps)(ho:∀o∈s.ops,OpG ks s.reads s.writes o)(cm:List Cmd)(ev:List Evt)(i:Nat):
  RnG ks s (LH ks s index x.ent (s.ops.take i) ⟨x.comps,KC [seed,tick,index,x.ent.n],cm,ev⟩)/\(LH ks s index x.ent (s.ops.take i) ⟨x.comps,KC [seed,tick,index,x.ent.n],cm,ev⟩).cmds.length<=cm.length+s.ops.length/\(LH ks s index x.ent (s.ops.take i) ⟨x.comps,KC [seed,tick,index,x.ent.n],cm,ev⟩).evs.length<=ev.length+s.ops.length:=by
 obtain⟨h1,h2,h3⟩:=Tk (s:=s) (index:=index) (e:=x.ent) hk (s.ops.take i) (st:=⟨x.comps,KC [seed,tick,index,x.ent.n],cm,ev⟩) ⟨hh,ha,N6 _⟩ (λo h=>ho o (BN h));have:(s.ops.take i).length<=s.ops.length:=by rw[Ba];omega
 dsimp only at h2 h3;exact⟨h1,by omega,by omega⟩
theorem NM{index seed tick:Int}(hk:Bs ks=0)(ho:∀o∈s.ops,OpG ks s.reads s.writes o):∀(qs:List (Nat×Item)) (b:List Item×List Cmd×List Evt),(∀q∈qs,Ce ks q.2.comps=true/\RL s q.2.comps)->
  (Jc ks s index seed tick qs b).2.1.length<=b.2.1.length+qs.length*s.ops.length/\(Jc ks s index seed tick qs b).2.2.length<=b.2.2.length+qs.length*s.ops.length/\(Jc ks s index seed tick qs b).1.length=b.1.length
 |[],b,_=>by simp[Jc]
 |q::qs,b,h=>by
  obtain⟨hq1,hq2⟩:=h q (by simp);have he:=Yn (index:=index) (seed:=seed) (tick:=tick) hk hq1 hq2 ho b.2.1 b.2.2 s.ops.length;rw[Bg]at he;obtain⟨e1,e2,e3⟩:=he;obtain⟨r1,r2,r3⟩:=NM hk ho qs (b.1.set q.1 ⟨q.2.ent,(I0 ks s index seed tick q.2 b.2.1 b.2.2).comps⟩,(I0 ks s index seed tick q.2 b.2.1 b.2.2).cmds,(I0 ks s index seed tick q.2 b.2.1 b.2.2).evs) (λq' h'=>h q' (by simp[h']));have e2':(I0 ks s index seed tick q.2 b.2.1 b.2.2).cmds.length<=b.2.1.length+s.ops.length:=e2;have e3':(I0 ks s index seed tick q.2 b.2.1 b.2.2).evs.length<=b.2.2.length+s.ops.length:=e3;dsimp only at r1 r2 r3;rw[Ev]at r3;have hm:(q::qs).length*s.ops.length=qs.length*s.ops.length+s.ops.length:=by rw[Bl,Nat.succ_mul]
  rw[hm];exact⟨Bh r1 (by omega),Bh r2 (by omega),r3⟩
theorem Lz(h:SysG ks s){x:Item}(hm:IR x s.wth s.wout=true):RL s x.comps:=by
 have ht:=h.typ;intro k hk;unfold IR at hm;simp only[AH,EK,CW]at hm ht;have h1:=ht k (by rw[Eq];rcases hk with hk|hk<;>simp at hk<;>simp[hk]);have h2:=hm.1 k (by simpa using h1);unfold Dj;rw[List.find?_isSome];unfold T1 at h2;simpa using h2
def O7(ks:List Kind)(i:Nat):List AV:=(ks.take i).map (Bd true)++List.replicate (ks.length-i) (.agg [sA [],.prim (.slice none 0 0)])
theorem dM(ks:List Kind)(i:Nat)(h:i<=ks.length):(O7 ks i).length=ks.length:=by simp[O7];omega
theorem gG(h:i<ks.length):(O7 ks i)[i]?=some (.agg [sA [],.prim (.slice none 0 0)]):=by
 unfold O7;rw[BX (by simp;omega),JS,Ab (by simp;omega)]
theorem dK(h:i<ks.length):(O7 ks i).set i (Bd true ks[i])=O7 ks (i+1):=by
 unfold O7;rw[Fv _ _ (by simp;omega),AD,Ba,B6 (by omega),Co];rw[show ks.length-i=(ks.length-(i+1))+1 from by omega,IN,HE];rw[Aw h,AK,Aq];rfl
theorem LW(ks:List Kind)(hl:ks.length<=1099511627776)(hf:∀k∈ks,k.fields.length<=1099511627776):PS prog 40 [BZ false false ks] (BZ true true ks):=by
 refine Sp (nt:=27) (res:=[.tmp 2]) func40 λSf=>?_
 have hkm:(ks.map (Bd false)).length=ks.length:=AD _;have hz0:List.replicate (ks.map (Bd false)).length (.agg [sA [],.prim (.slice none 0 0)])=O7 ks 0:=by simp[O7]
 (iterate 8 refine WK ?_);refine I9 ((.agg [sA [],.prim (.slice none 0 0)])) λK=>?_;refine KK ?_
 rw[hz0];refine Cq (λ(i:Nat) (M:List AV)=>⟨[(3,.sl K 0 (ks.map (Bd false)).length),(9,BZ false false ks),(10,iA (ks.map (Bd false)).length),(11,iA i)],(K,.row 90 2 M)::Sf⟩) (λi M=>i<=ks.length/\M=O7 ks i) (λi _=>ks.length-i) 0 _ ⟨Ap _,rfl⟩ ?_;rintro i M ⟨hi,hM⟩;refine KK ?_;refine AC rfl (λhc=>?_) (λhc=>?_)
 ·have h:i<ks.length:=by rw[AS,hkm]at hc;omega
  have hset:=dK h;have hMat:M[i]?=some (.agg [sA [],.prim (.slice none 0 0)]):=by rw[hM];exact gG h
  have hMl:M.length=ks.length:=by rw[hM];exact dM ks i hi
  have hfl:=hf _ (As h);obtain⟨⟨kn,fs⟩,hk⟩:=nm (ks[i]);rw[hk]at hset hfl;dsimp only at hfl;have hat:(ks.map (Bd false))[i]?=some (Bd false ⟨kn,fs⟩):=by rw[Ac,AX h,hk];rfl
  have hil:i<(ks.map (Bd false)).length:=by omega
  have hfm:(fs.map fieldA).length=fs.length:=AD _;refine KK ?_;refine Ai λV=>?_;refine KK ?_
  refine CN λY=>?_
  refine RU ?_;(iterate 6 refine RK ?_);refine RGo.s (Q6 (by rw[hfm];omega) (by rw[hfm];unfold maxLen;omega) rfl rfl (by exact Az)) rfl ?_;(iterate 3 refine RK ?_);refine RGo.nil (by kernel_rfl) ?_;(repeat refine WF ?_);have hMs:(M.set i (.agg [sA kn,.sl Y 0 (fs.map fieldA).length]))[i]?=some (.agg [sA kn,.sl Y 0 (fs.map fieldA).length]):=by rw[BU (by omega)]
  refine Dm (X:=Y) (Y:=K) .here (.next (.next .here)) rfl rfl (Hos.at hMs (.agg (.tail (.head .here)))) ?_;rw[List.set_set];refine KK ?_;refine CA (i+1) _ ⟨h,?_⟩;rw[hM];exact hset
 ·have h:i=ks.length:=by rw[AZ,hkm]at hc;omega
  subst h;have hfin:O7 ks ks.length=ks.map (Bd true):=by simp[O7]
  rw[hfin]at hM;subst hM;refine JC ?_;exact⟨[.sl K 0 (ks.map (Bd false)).length],[BZ true true ks],_,[],.cons (.tmp rfl) rfl .nil,.cons (.cell (.sl (p:=0) .here (by simp))) .nil,by exact BL,rfl,rfl⟩
def Jf(x:Item):AV:=.agg [iA x.ent.n,iA x.ent.gen,B3 true false x.comps]
instance {x:Item}:Frz (Jf x) (AQ false x):=⟨by unfold Jf AQ;exact Frz.h⟩
abbrev jF(o:Bool)(l:List Item):AV:=.lst o 83 3 (l.map Jf)
def fN(w:Wd):AV:=.agg [BZ true true w.kinds,Av true w.gens,jF true w.items]
instance {w:Wd}:Frz (fN w) (wdA false w):=⟨by unfold fN wdA;exact Frz.h⟩
abbrev Yg:AV:=.agg [iA 0,iA 0,.prim (.slice none 0 0)]
theorem Yp(w:Wd)(hw:WdL w):PS prog 9 [wdA false w] (fN w):=by
 obtain⟨ks,gens,items⟩:=w;obtain⟨⟨hk0,hk1⟩,hg,hi0,hi1⟩:=hw;dsimp only at hk0 hk1 hg hi0 hi1;have hkc:=LW ks hk0 hk1;have hgc:=In gens (by omega);have hgm:(gens.map iA).length=gens.length:=AD _;have him:(items.map (AQ false)).length=items.length:=AD _;refine Sp (nt:=37) (res:=[.cell 2 26]) func9 λSf=>?_
 refine RG ?_;refine Bt ?_;refine WO ?_;refine Ai λR=>?_;refine NL ?_
 (repeat refine WF ?_);refine CN λW3=>CN λI=>CN λG=>CN λK=>?_
 refine RU ?_;refine JK ?_;refine RI hkc ?_;refine JK ?_;refine RI hgc ?_;(iterate 3 refine RK ?_);refine RGo.s (W.make rfl rfl (by exact Az) rfl (.inl rfl) rfl rfl (AT _) (by rw[him];omega) (by rw[him];unfold maxLen;omega)) rfl ?_;(iterate 3 refine RK ?_);refine RGo.nil (by kernel_rfl) ?_;have hz0:List.replicate (items.map (AQ false)).length (zAV [.int .i64 0,.int .i64 0,.slice none 0 0] true)=Fz Jf Yg items 0:=by rw[Jh,him];rfl
 rw[hz0];refine JA ?_;refine Cq (λ(i:Nat) (M:List AV)=>⟨[(2,.ptr R 0 0),(3,.ptr W3 0 0),(18,Km false false items),(19,iA (items.map (AQ false)).length),(20,iA i)],(K,.row 90 2 (ks.map (Bd true)))::(G,.row 3 1 (gens.map iA))::(I,.row 83 3 M)::(W3,.row 26 3 [.agg [.sl K 0 (ks.map (Bd true)).length,.sl G 0 (gens.map iA).length,.sl I 0 (items.map (AQ false)).length]])::(R,.row 26 3 [.agg [.prim (.slice none 0 0),.prim (.slice none 0 0),.prim (.slice none 0 0)]])::Sf⟩) (λi M=>i<=items.length/\M=Fz Jf Yg items i) (λi _=>items.length-i) 0 _ ⟨Ap _,rfl⟩ ?_;rintro i M ⟨hi,hM⟩;refine KK ?_;refine AC rfl (λhc=>?_) (λhc=>?_)
 ·have h:i<items.length:=by rw[AS,him]at hc;omega
  have hset:=Ku Jf Yg items h;have hMat:M[i]?=some Yg:=by rw[hM];exact L5 _ _ _ h
  have hMl:M.length=items.length:=by rw[hM];exact Qf _ _ _ _ hi
  have hcl:=hi1 _ (As h);obtain⟨⟨⟨en,eg⟩,cs⟩,hit⟩:=nm (items[i]);rw[hit]at hset hcl;have hat:(items.map (AQ false))[i]?=some (AQ false ⟨⟨en,eg⟩,cs⟩):=by rw[Ac,AX h,hit];rfl
  have hil:i<(items.map (AQ false)).length:=by omega
  have hcc:=HO cs hcl.1 hcl.2;have hcm:(cs.map (Ae false)).length=cs.length:=AD _;refine KK ?_;refine Ai λV=>?_;refine KK ?_
  refine CN λY=>?_
  refine RU ?_;(iterate 7 refine RK ?_);refine RI hcc ?_;(iterate 3 refine RK ?_);refine RGo.nil (by kernel_rfl) ?_;(repeat refine WF ?_);have hMs:(M.set i (.agg [iA en,iA eg,.sl Y 0 (cs.map (Ae false)).length]))[i]?=some (.agg [iA en,iA eg,.sl Y 0 (cs.map (Ae false)).length]):=by rw[BU (by omega)]
  refine Dm (X:=Y) (Y:=I) (by exact Az) (by exact Az) rfl rfl (Hos.at hMs (.agg (.tail (.tail (.head .here))))) ?_;rw[List.set_set];refine KK ?_;refine CA (i+1) _ ⟨h,?_⟩;rw[hM];exact hset
 ·have h:i=items.length:=by rw[AZ,him]at hc;omega
  subst h;rw[Kv _ _ _ (AT _)]at hM;subst hM;have hkl:(ks.map (Bd true)).length=(ks.map (Bd true)).length:=rfl;have hI:(items.map (AQ false)).length=(items.map Jf).length:=by simp
  refine JC ?_;exact⟨[.agg [.sl K 0 (ks.map (Bd true)).length,.sl G 0 (gens.map iA).length,.sl I 0 (items.map (AQ false)).length]],[fN ⟨ks,gens,items⟩],_,[],.cons (.cell (p:=4) rfl (by exact Az) TAg.h TSize.h rfl rfl) rfl .nil,.cons (.agg (.cons (.sl (p:=0) .here rfl) (.cons (.sl (p:=0) .here rfl) (.cons (.sl (p:=0) .here hI) .nil)))) .nil,by exact BL,rfl,rfl⟩
theorem TW.fz{a b:AV}[h:Frz a b]:TW a b []:=h.h▸ .frz
theorem XQ(l:List Item):AV.frzs (l.map Jf)=l.map (AQ false):=(inferInstance:Frzs (l.map Jf) (l.map (AQ false))).h
theorem bG(c:Comp):FreeE (Ae false c):=.agg λx hx=>by
 simp only[Df,EZ,Mh]at hx;rcases hx with rfl|rfl
 ·exact .prim _
 ·exact λm c bs k=>k.1
theorem Xj(l:List Comp):FreeL (l.map (Ae false)):=λx hx=>by obtain⟨y,_,rfl⟩:=Ag.1 hx;exact bG y
theorem bF(l:List Comp):∀x∈l.map (Ae false),x.width=2:=λx hx=>by obtain⟨y,_,rfl⟩:=Ag.1 hx;rfl
def wdH(w:Wd):AV:=.agg [BZ false false w.kinds,Av false w.gens,Km true false w.items]
instance {w:Wd}:Frz (wdH w) (wdA false w):=⟨by unfold wdH wdA;exact Frz.h⟩
section
section
variable {ro:Option Nat}{P:Program}{nt:Nat}{ops:Array Oper}{Q:Exit->St->Prop}{rest:List Oper}{T:List (Nat×AV)}{S:List AR}{f:FuncId}{x0 x1:Operand}{v0 v1:AV}{dst:Option Tmp}{ats:Array TypeId}{ty:TypeId}{pos:String}{after:Array Edge}{p1 p2 p3 p4:Nat}{z1 z2 z3 z4:AR}{y1 y2 y3 y4:Nat×Nat->AR}
theorem fF(h:Spec P f [v0,v1] [z1,z2,z3,z4] λr' S'=>∃b:Nat×Nat,r'= .tup []/\S'=[y1 b,y2 b,y3 b,y4 b])(k:∀b:Nat×Nat,AOps ro P nt ops Q rest ⟨BB T dst (.tup []),BA S [(p1,y1 b),(p2,y2 b),(p3,y3 b),(p4,y4 b)]⟩)
  (a1:At S p1 z1:=by exact Az) (a2:At S p2 z2:=by exact Az) (a3:At S p3 z3:=by exact Az) (a4:At S p4 z4:=by exact Az) (hnd:EL [p1,p2,p3,p4]=true:=by rfl) (h0:Rd none T x0 v0:=by rfl) (h1:Rd none T x1 v1:=by rfl) (ht:Bi [(x0,v0),(x1,v1)]=true:=by rfl) (hd:A7 dst nt=true:=by rfl):
  AOps ro P nt ops Q (⟨dst,.call ⟨.value (.func f),#[x0,x1],ats⟩,ty,pos,after,none⟩::rest) ⟨T,S⟩:=
 Et (xs:=[(x0,v0),(x1,v1)]) (C:=λ_=>True) (rr:=λ_=>.tup []) (vv:=λ_=>.tup []) (So:=λb=>[y1 b,y2 b,y3 b,y4 b]) (nw:=λ_=>[]) (gs:=[]) (rS:=[(p1,z1),(p2,z2),(p3,z3),(p4,z4)]) (wE:=λb=>[(p1,y1 b),(p2,y2 b),(p3,y3 b),(p4,y4 b)])
  (h.mono λr' S' ⟨b,e1,e2⟩=>⟨b,CZ,e1,e2⟩) (λ_=>.fz) (λ_=>rfl) (λb=>.cons a1 (.cons a2 (.cons a3 (.cons a4 .nil)))) (Dk hnd) rfl (.cons a1 (.cons a2 (.cons a3 (.cons a4 .nil)))) (.cons h0 (.cons h1 .nil)) ht hd (λb _=>k b)
end
theorem KP{l:List Item}{wth wout:List Int}{q:Nat×Item}(h:q∈Hb l wth wout i):l[q.1]?=some q.2/\IR q.2 wth wout=true:=by
 induction i with
 |zero=>simp[Hb]at h
 |succ i ih=>
  rw[Hb,Eq]at h;rcases h with h|h
  ·exact ih h
  ·split at h
   ·rename_i it hit
    split at h
    ·rename_i hm
     rw[DC]at h;subst h;exact⟨hit,hm⟩
    ·cases h
   ·cases h
theorem N5(ks:List Kind)(s:Sys)(index seed tick:Int):∀(qs:List (Nat×Item)) (b:List Item×List Cmd×List Evt),(∀q∈qs,(b.1[q.1]?).map Item.ent=some q.2.ent)->(Jc ks s index seed tick qs b).1.map Item.ent=b.1.map Item.ent
 |[],b,_=>rfl
 |q::qs,b,h=>by
  have h0:=h q (by simp)
  have e1:∀x:Item,x.ent=q.2.ent->(b.1.set q.1 x).map Item.ent=b.1.map Item.ent:=by
   intro x hx;rw[BK,hx];refine GL λj=>?_
   by_cases hj:q.1=j
   ·subst hj
    rw[<-Ac]at h0;rw[BU (AE.1 h0).1,h0]
   ·rw[CX hj]
  have:=N5 ks s index seed tick qs (b.1.set q.1 ⟨q.2.ent,(I0 ks s index seed tick q.2 b.2.1 b.2.2).comps⟩,(I0 ks s index seed tick q.2 b.2.1 b.2.2).cmds,(I0 ks s index seed tick q.2 b.2.1 b.2.2).evs) (λq' h'=>by
   have h1:=h q' (by simp[h']);dsimp only;rw[<-Ac]at h1⊢;rw[e1 ⟨q.2.ent,(I0 ks s index seed tick q.2 b.2.1 b.2.2).comps⟩ rfl];exact h1)
  exact this.trans (e1 ⟨q.2.ent,(I0 ks s index seed tick q.2 b.2.1 b.2.2).comps⟩ rfl)
structure RunB where
 K:Nat
 E:Nat
 l:List Comp
 e:Ent
 r:UInt64×UInt64
 z:List Item×List Cmd×List Evt
def Th(w:Wd)(s:Sys)(index:Int)(X PX W2 I R:Nat)(b:RunB):List AR:=
 [(b.E,.row 136 4 (b.z.2.2.map Fm)),(b.K,.row 303 5 (b.z.2.1.map ED)),(PX,.row 231 1 [.ptr X 0 0]),(X,.row 235 16 [Rf w.kinds s b.e (B3 false false b.l) b.r (.sl b.K 0 b.z.2.1.length) (.sl b.E 0 b.z.2.2.length) index]),
  (W2,.row 26 3 [.agg [BZ false false w.kinds,Av false w.gens,.sl I 0 (w.items.map Jf).length]]),(I,.row 83 3 (b.z.1.map (AQ false))),(R,.row 26 3 [.agg [.prim (.slice none 0 0),.prim (.slice none 0 0),.prim (.slice none 0 0)]])]
theorem ix(w:Wd)(s:Sys)(index seed tick:Int)(hw:WdL w)(hwe:E6 w=0)(h12:w.kinds.length<=12)(hs:SysG w.kinds s)(hk:Bs w.kinds=0)(hheld:∀it∈w.items,Ce w.kinds it.comps=true)(hN:(Hc w.items s.wth s.wout).length*s.ops.length<=1099511627775):
  PS prog 67 [wdA false w,FY false s,iA index,iA seed,iA tick] (.tup [wdH ⟨w.kinds,w.gens,(MH w s index seed tick).1⟩,.lst false 303 5 ((MH w s index seed tick).2.1.map ED),.lst false 136 4 ((MH w s index seed tick).2.2.map Fm),iA 0]):=by
 have hck:=Hr w hw.gens hw.items.1 (λit h=>(hw.items.2 it h).1);rw[hwe]at hck;have hcp:=Yp w hw;have hsc:=OW w.kinds s hk h12 hs;have hal:=jW w s.wth s.wout hw.items.1 hw.items.2 (by have:=(hs.o s.wth (by simp)).2.2;omega) (by have:=(hs.o s.wout (by simp)).2.2;omega);refine Sp (nt:=97) (res:=[.cell 10 26,.tmp 11,.tmp 12,.tmp 13]) func67 λSf=>?_
 refine RG ?_;(repeat first|(refine Bm ?_;first|(refine YD ?_;refine Bt ?_))|refine WO ?_|refine Ai λR=>?_|refine Ay λY=>?_);refine NL ?_;refine JI ?_;refine BE (h:=(hck ..)) (k:=?_);refine JB ?_;refine KK ?_;refine AB rfl rfl ?_;refine JL ?_;refine BO (h:=(hsc ..)) (k:=?_);refine JB ?_;refine KK ?_;refine AB rfl rfl ?_;refine FL ?_;refine CN λI=>?_
 refine JG ?_;refine HS hcp (.v (.agg (.cons .fz (.cons .fz (.cons (.lst (Y:=I) rfl) .nil))))) ?_;refine WO ?_;refine Ai λW2=>?_;refine WO ?_
 refine JD ?_;(repeat first|refine WO ?_|refine Ai λPX=>?_|refine Ay λY=>?_);refine NL ?_;rename_i X;refine FL ?_;refine CM (Y:=X) 303 5 (by exact Az) (λF=>.cons (.agg (.s (.s (.s (.s (.s (.s (.s (.s (.s (.s (.s (.s (.s (.cons (.base .nil) .r))))))))))))))) .nil) λK=>?_
 refine CM (Y:=X) 136 4 (by exact Az) (λF=>.cons (.agg (.s (.s (.s (.s (.s (.s (.s (.s (.s (.s (.s (.s (.s (.s (.cons (.base .nil) .r)))))))))))))))) .nil) λE=>?_
 refine Io 42 2 (Y:=X) (.cons (.agg (.s (.s (.s (.s (.s (.s (.s (.s (.s (.s (.cons (.base .nil) .r)))))))))))) .nil) ?_;refine I8 I (w.items.map (AQ false)) (XQ w.items) ?_ (by exact Az);refine JJ ?_;refine Gt (h:=(hal ..)) (k:=?_);refine NL ?_;refine FL ?_;have hI:=bU (Hc w.items s.wth s.wout) (Bh (S9 _ _ _) hw.items.1) (λq hq=>hw.items.2 _ (S7 hq));refine RO (Sf:=Sf) hI (Th w s index X PX W2 I R) (λi b=>b.z=Jc w.kinds s index seed tick ((Hc w.items s.wth s.wout).take i) (w.items,[],[])) ⟨K,E,[],⟨0,0⟩,(0,0),(w.items,[],[])⟩ rfl ?_ ?_ rfl rfl rfl ?_ ?_
 ·rintro i vs C ⟨K,E,l0,e0,r0,z⟩ l F1 F2 hi hz
  have hil:i<(Hc w.items s.wth s.wout).length:=by simpa using(AE.1 hi).1
  rw[Ac,AX hil]at hi;obtain rfl:_=vs:=L9 hi;have hqm:=As hil;have hst:=Ww (ks:=w.kinds) (s:=s) (index:=index) (seed:=seed) (tick:=tick) hil (w.items,[],[])
  have hro:=NM (index:=index) (seed:=seed) (tick:=tick) hk hs.ops ((Hc w.items s.wth s.wout).take i) (w.items,[],[]) (λq h=>by
   obtain⟨g1,g2⟩:=KP (BN h);exact⟨hheld _ (B0 g1),Lz hs g2⟩)
  dsimp only at hz;rw[<-hz]at hst hro;obtain⟨q,hq⟩:=nm ((Hc w.items s.wth s.wout)[i]);rw[hq]at hqm hst⊢;obtain⟨hqa,hqb⟩:=KP hqm;obtain⟨qi,⟨⟨en,eg⟩,cs⟩⟩:=q;obtain⟨zi,zc,ze⟩:=z;dsimp only[List.length_nil]at hqa hqb hro;unfold Th itY;dsimp only;have hcl:(cs.map (Ae true)).length=cs.length:=AD _;rw[hcl];have hrs:=cS [seed,tick,index,en] (by simp);have hen:=N5 w.kinds s index seed tick ((Hc w.items s.wth s.wout).take i) (w.items,[],[]) (λq h=>by rw[(KP (BN h)).1];rfl);rw[<-hz]at hen;dsimp only at hen;have hzat:(zi[qi]?).map Item.ent=some ⟨en,eg⟩:=by rw[<-Ac,hen,Ac,hqa];rfl
  obtain⟨it,hit,hie⟩:=Fb.1 hzat;obtain⟨ie,ics⟩:=it;dsimp only at hie;subst hie;have hiat:(zi.map (AQ false))[qi]?=some (AQ false ⟨⟨en,eg⟩,ics⟩):=by rw[Ac,hit];rfl
  have hqil:qi<(zi.map (AQ false)).length:=(AE.1 hiat).1;have heo:=λj=>Yn (index:=index) (seed:=seed) (tick:=tick) (x:=⟨⟨en,eg⟩,cs⟩) hk (hheld _ (B0 hqa)) (Lz hs hqb) hs.ops zc ze j
  have hee:I0 w.kinds s index seed tick ⟨⟨en,eg⟩,cs⟩ zc ze=LH w.kinds s index ⟨en,eg⟩ s.ops ⟨cs,KC [seed,tick,index,en],zc,ze⟩:=rfl;have hsr:Jc w.kinds s index seed tick [(qi,⟨⟨en,eg⟩,cs⟩)] (zi,zc,ze)=(zi.set qi ⟨⟨en,eg⟩,(I0 w.kinds s index seed tick ⟨⟨en,eg⟩,cs⟩ zc ze).comps⟩,(I0 w.kinds s index seed tick ⟨⟨en,eg⟩,cs⟩ zc ze).cmds,(I0 w.kinds s index seed tick ⟨⟨en,eg⟩,cs⟩ zc ze).evs):=rfl;rw[hsr,hee]at hst;dsimp only at heo;obtain⟨rr,hrr⟩:=nm (KC [seed,tick,index,en]);rw[hrr]at hrs heo hst
  have him:i*s.ops.length+s.ops.length<=1099511627775:=by
   have h1:(i+1)*s.ops.length<=(Hc w.items s.wth s.wout).length*s.ops.length:=BV _ hil;rw[Nat.succ_mul]at h1;omega
  have htk:((Hc w.items s.wth s.wout).take i).length=i:=by rw[Ba];omega
  rw[htk]at hro;clear hsr hee hz hen hrr;refine KK ?_;refine Ai λP=>?_;refine KK ?_
  refine⟨[(P,_),(C,_),(E,_),(K,_),(PX,_),(X,_),(W2,_),(I,_),(R,_)],.refl _,?_⟩;refine FL ?_;refine RU ?_;(iterate 10 refine RK ?_);refine K7 (h:=hrs) (k:=?_);(iterate 6 refine RK ?_);refine RGo.nil (by kernel_rfl) ?_;refine KK ?_;have hom:(s.ops.map opA).length=s.ops.length:=AD _;obtain⟨S0,hS0⟩:∃st:Rn,(⟨cs,rr,zc,ze⟩:Rn)=st:=⟨_,rfl⟩;rw[hS0]at heo hst;have hop0:LH w.kinds s index ⟨en,eg⟩ (s.ops.take 0) S0=⟨cs,rr,zc,ze⟩:=hS0.symm;obtain⟨stj,hstj⟩:∃g:Nat->Rn,(λj=>LH w.kinds s index ⟨en,eg⟩ (s.ops.take j) S0)=g:=⟨_,rfl⟩;have hg0:stj 0=⟨cs,rr,zc,ze⟩:=by rw[<-hstj];exact hop0
  have hgS:∀j (h:j<s.ops.length),stj (j+1)=doM w.kinds s index ⟨en,eg⟩ s.ops[j] (stj j):=by intro j h;rw[<-hstj];exact aI h S0
  have hge:∀j,RnG w.kinds s (stj j)/\(stj j).cmds.length<=zc.length+s.ops.length/\(stj j).evs.length<=ze.length+s.ops.length:=by intro j;rw[<-hstj];exact heo j
  have hgl:LH w.kinds s index ⟨en,eg⟩ s.ops S0=stj s.ops.length:=by rw[<-hstj];dsimp only;rw[Bg]
  rw[hgl]at hst;clear heo hop0 hgl hstj hS0
  refine Cq (λ(j:Nat) (b:Nat×Nat)=>⟨[(16,.ptr W2 0 0),(17,.ptr PX 0 0),(18,iA qi),(68,f8 false s.ops),(69,iA (s.ops.map opA).length),(70,iA j)],[(P,.row 83 3 [.agg [iA en,iA eg,.sl C 0 cs.length]]),(C,.row 42 2 ((stj j).comps.map (Ae true))),(b.2,.row 136 4 ((stj j).evs.map Fm)),(b.1,.row 303 5 ((stj j).cmds.map ED)),(PX,.row 231 1 [.ptr X 0 0]),(X,Pq w.kinds s ⟨en,eg⟩ C (stj j).comps.length (stj j).r b.1 (stj j).cmds.length b.2 (stj j).evs.length index),
   (W2,.row 26 3 [.agg [BZ false false w.kinds,Av false w.gens,.sl I 0 (w.items.map Jf).length]]),(I,.row 83 3 (zi.map (AQ false))),(R,.row 26 3 [.agg [.prim (.slice none 0 0),.prim (.slice none 0 0),.prim (.slice none 0 0)]])]++F2⟩) (λj _=>j<=s.ops.length) (λj _=>s.ops.length-j) 0 (K,E) (Ap _) ?_ (by dsimp only;rw[hg0];exact⟨by exact FE,by exact BL⟩)
  rintro j ⟨K',E'⟩ hj;dsimp only;obtain⟨hgR,hgC,hgE⟩:=hge j;refine KK ?_;refine AC rfl (λhc=>?_) (λhc=>?_)
  ·have hjl:j<s.ops.length:=by rw[AS,hom]at hc;omega
   have hatj:(s.ops.map opA)[j]?=some (opA s.ops[j]):=by rw[Ac,AX hjl];rfl
   have hjm:j<(s.ops.map opA).length:=by omega
   have hdo:=kI w.kinds s ⟨en,eg⟩ index X C K' E' (stj j) s.ops[j] hk h12 hs.sp ⟨hgR.held,hgR.has,hgR.odd,by omega,by omega⟩ (hs.ops _ (As hjl));rw[<-hgS j hjl]at hdo;unfold Wv at hdo;have hol:s.ops.length<=20:=hs.len;refine KK ?_;refine Ai λO=>?_;(iterate 6 refine WK ?_);refine fF (h:=hdo) λb=>?_;refine KK ?_
   refine CA (j+1) b hjl
  ·have hjl:j=s.ops.length:=by rw[AZ,hom]at hc;omega
   subst hjl;have hqw:qi<(w.items.map Jf).length:=by rw[AD];exact(AE.1 hqa).1
   refine KK ?_
   have hfz:AV.frzs ((((stj s.ops.length).comps.map (Ae true)).drop 0).take (stj s.ops.length).comps.length)=(stj s.ops.length).comps.map (Ae false):=by
    rw[B7,Aj (by simp)];exact(inferInstance:Frzs ((stj s.ops.length).comps.map (Ae true)) ((stj s.ops.length).comps.map (Ae false))).h
   refine D7 (X:=C) (Y:=X) (by exact Az) (by exact Az) rfl (.cons (.agg (.s (.s (.s (.s (.s (.s (.s (.s (.s (.s (.cons (.base (.sl (by simp))) .r)))))))))))) .nil) ?_;rw[hfz];refine RU ?_;(iterate 11 refine RK ?_);refine RGo.nil (by kernel_rfl) ?_;refine FL ?_;refine⟨[(E',_),(K',_),(PX,_),(X,_),(W2,_),(I,_),(R,_)],(by exact BL),⟨K',E',(stj s.ops.length).comps,⟨en,eg⟩,(stj s.ops.length).r,_⟩,hst.symm,?_⟩;rw[BK];rfl
 ·rintro⟨K,E,l0,e0,r0,z⟩ hz
  rw[AD,Bg]at hz;dsimp only at hz
  have hro:=NM (index:=index) (seed:=seed) (tick:=tick) hk hs.ops (Hc w.items s.wth s.wout) (w.items,[],[]) (λq h=>by
   obtain⟨g1,g2⟩:=KP h;exact⟨hheld _ (B0 g1),Lz hs g2⟩)
  rw[<-hz]at hro;rw[show MH w s index seed tick=z from hz.symm];clear hz;obtain⟨zi,zc,ze⟩:=z;dsimp only at hro⊢;have hlI:(w.items.map Jf).length=(zi.map (AQ false)).length:=by rw[AD,AD,hro.2.2]
  have hfk:AV.frzs (((zc.map ED).drop 0).take zc.length)=zc.map ED:=by
   rw[B7,Aj (by simp)];exact Hm ED (λ_=>Frz.h) zc
  have hfe:AV.frzs (((ze.map Fm).drop 0).take ze.length)=ze.map Fm:=by
   rw[B7,Aj (by simp)];exact Hm Fm (λ_=>Frz.h) ze
  unfold Th;dsimp only;refine FL ?_;refine D7 (X:=K) (Y:=X) (by exact Az) (by exact Az) rfl (.cons (.agg (.s (.s (.s (.s (.s (.s (.s (.s (.s (.s (.s (.s (.s (.cons (.base (.sl (by simp))) .r))))))))))))))) .nil) ?_;refine D7 (X:=E) (Y:=X) (by exact Az) (by exact Az) rfl (.cons (.agg (.s (.s (.s (.s (.s (.s (.s (.s (.s (.s (.s (.s (.s (.s (.cons (.base (.sl (by simp))) .r)))))))))))))))) .nil) ?_;rw[hfk,hfe];refine RU ?_;(iterate 13 refine RK ?_);refine RGo.nil (by kernel_rfl) ?_;refine WK ?_;refine RT ?_
  exact Cp [.agg [BZ false false w.kinds,Av false w.gens,.sl I 0 (w.items.map Jf).length],.lst false 303 5 (zc.map ED),.lst false 136 4 (ze.map Fm),iA 0] [wdH ⟨w.kinds,w.gens,zi⟩,.lst false 303 5 (zc.map ED),.lst false 136 4 (ze.map Fm),iA 0]
   (.cons (.agg (.s (.s (.cons (.sl (p:=5) (.next (.next (.next (.next (.next .here))))) hlI) .nil)))) (.cons (.cell .same) (.cons (.cell .same) (.cons (.cell .same) .nil))))
 ·intro vs hvs C
  obtain⟨q,_,rfl⟩:=Ag.1 hvs;rfl
 ·unfold Th
  exact DY _
end
def KeepC(ws:List Int)(a b:List Comp):Prop:=b.map Comp.kind=a.map Comp.kind/\∀(j:Nat) (c d:Comp),a[j]?=some c->b[j]?=some d->ws.contains c.kind=false->d.vals=c.vals
theorem KeepC.refl(ws:List Int)(a:List Comp):KeepC ws a a:=⟨rfl,λj c d h1 h2 _=>by rw[h1]at h2;injection h2 with h2;rw[h2]⟩
theorem KeepC.trans{ws:List Int}{a b c:List Comp}(h:KeepC ws a b)(k:KeepC ws b c):KeepC ws a c:=by
 refine⟨k.1.trans h.1,λj x z hx hz hn=>?_⟩;have e:(b.map Comp.kind)[j]?=(a.map Comp.kind)[j]?:=by rw[h.1]
 rw[Ac,Ac,hx]at e;cases hb:b[j]? with
 |none=>rw[hb]at e;cases e
 |some y=>
  rw[hb]at e;injection e with e
  rw[k.2 j y z hb hz (by rw[e];exact hn),h.2 j x y hx hb hn]
theorem Zy{ws:List Int}(hs:FI cs){k:Int}(hk:ws.contains k=true)(f:Nat)(v:Int):KeepC ws cs (Ux cs k f v):=by
 refine⟨Pm hs k f v,λj c d hc hd hn=>?_⟩;cases hcc:Dj cs k with
 |none=>
  unfold Ux at hd;rw[hcc]at hd;rw[hc]at hd;injection hd with hd
  rw[hd]
 |some c'=>
  obtain⟨e1,e2⟩:=PI hs hcc f v;rw[e2]at hd;by_cases hj:FD cs k=j
  ·subst hj
   rw[hc]at e1;injection e1 with e1
   have:=((Hp hs).1 hcc).2;rw[e1,this,hk]at hn;cases hn
  ·rw[CX hj,hc]at hd
   injection hd with hd
   rw[hd]
theorem dq{o:Op}{st:Rn}(h:RnG ks s st)(ho:OpG ks s.reads s.writes o):KeepC s.writes st.comps (doM ks s index e o st).comps:=by
 unfold doM;split
 ·exact Zy (held_iff.1 h.held).1 (ho.sets ‹_›).2 _ _
 ·split
  ·exact .refl _ _
  ·split
   ·exact .refl _ _
   ·exact .refl _ _
theorem SQ(hk:Bs ks=0):∀(os:List Op) {st:Rn} (h:RnG ks s st) (ho:∀o∈os,OpG ks s.reads s.writes o),KeepC s.writes st.comps (LH ks s index e os st).comps
 |[],st,h,ho=>.refl _ _
 |o::os,st,h,ho=>(dq (index:=index) (e:=e) h (ho o (by simp))).trans (SQ hk os (dp hk h (ho o (by simp))).1 (λo' h'=>ho o' (by simp[h'])))
def eY(ks:List Kind)(ws:List Int)(x y:Item):Prop:=y.ent=x.ent/\KeepC ws x.comps y.comps/\Ce ks y.comps=true
theorem Pr{index seed tick:Int}{l0:List Item}(hk:Bs ks=0)(ho:∀o∈s.ops,OpG ks s.reads s.writes o):∀(qs:List (Nat×Item)) (b:List Item×List Cmd×List Evt),(∀q∈qs,l0[q.1]?=some q.2/\Ce ks q.2.comps=true/\RL s q.2.comps)->
  (∀(i:Nat) (x:Item),l0[i]?=some x->∃y,b.1[i]?=some y/\eY ks s.writes x y)->∀(i:Nat) (x:Item),l0[i]?=some x->∃y,(Jc ks s index seed tick qs b).1[i]?=some y/\eY ks s.writes x y
 |[],b,_,h=>h
 |q::qs,b,hq,h=>by
  obtain⟨h1,h2,h3⟩:=hq q (by simp);refine Pr hk ho qs (b.1.set q.1 ⟨q.2.ent,(I0 ks s index seed tick q.2 b.2.1 b.2.2).comps⟩,(I0 ks s index seed tick q.2 b.2.1 b.2.2).cmds,(I0 ks s index seed tick q.2 b.2.1 b.2.2).evs) (λq' h'=>hq q' (by simp[h'])) λi x hx=>?_
  dsimp only;obtain⟨y,hy,hk'⟩:=h i x hx;by_cases hi:q.1=i
  ·subst hi
   rw[h1]at hx;injection hx with hx
   subst hx;refine⟨_,BU (AE.1 hy).1,rfl,?_,?_⟩
   ·exact SQ (index:=index) (e:=q.2.ent) hk s.ops (st:=⟨q.2.comps,KC [seed,tick,index,q.2.ent.n],b.2.1,b.2.2⟩) ⟨h2,h3,N6 _⟩ ho
   ·exact(Tk (index:=index) (e:=q.2.ent) hk s.ops (st:=⟨q.2.comps,KC [seed,tick,index,q.2.ent.n],b.2.1,b.2.2⟩) ⟨h2,h3,N6 _⟩ ho).1.held
  ·exact⟨y,by rw[CX hi];exact hy,hk'⟩
theorem TA(hs:SysG w.kinds s)(hh:∀it∈w.items,Ce w.kinds it.comps=true):∀q∈Hc w.items s.wth s.wout,w.items[q.1]?=some q.2/\Ce w.kinds q.2.comps=true/\RL s q.2.comps:=by
 intro q hq;obtain⟨h1,h2⟩:=KP hq;exact⟨h1,hh _ (B0 h1),Lz hs h2⟩
theorem Z8{index seed tick:Int}(hk:Bs w.kinds=0)(hs:SysG w.kinds s)(hh:∀it∈w.items,Ce w.kinds it.comps=true):∀(i:Nat) (x:Item),w.items[i]?=some x->∃y,(MH w s index seed tick).1[i]?=some y/\eY w.kinds s.writes x y:=
 Pr hk hs.ops _ _ (TA hs hh) λi x hx=>⟨x,hx,rfl,.refl _ _,hh _ (B0 hx)⟩
theorem SL{index seed tick:Int}:(MH w s index seed tick).1.map Item.ent=w.items.map Item.ent:=
 N5 w.kinds s index seed tick _ _ λq hq=>by rw[(KP hq).1];rfl
theorem U5{index seed tick:Int}:(MH w s index seed tick).1.length=w.items.length:=by
 have:=Dh List.length (SL (w:=w) (s:=s) (index:=index) (seed:=seed) (tick:=tick));simpa using this
theorem fZ{index seed tick:Int}(hw:E6 w=0)(hs:SysG w.kinds s):E6 ⟨w.kinds,w.gens,(MH w s index seed tick).1⟩=0:=by
 have g:=(Ck w).1 hw;refine(Ck _).2 ⟨g.ks,g.gl,by simpa[U5]using g.il,g.gs,?_,λit hit=>?_⟩
 ·have h2:((MH w s index seed tick).1.map Item.ent).Pairwise λa b=>a.n<b.n:=by rw[SL];exact(He (f:=Item.ent) (R:=λa b:Ent=>a.n<b.n)).2 g.so
  exact(He (f:=Item.ent) (R:=λa b:Ent=>a.n<b.n)).1 h2
 ·obtain⟨i,hi⟩:=List.getElem?_of_mem hit
  dsimp only at hi hit⊢
  have hl:i<w.items.length:=by
   have:=(AE.1 hi).1;rw[U5]at this;exact this
  obtain⟨y,h1,h2,h3,h4⟩:=Z8 (index:=index) (seed:=seed) (tick:=tick) g.ks hs (λit h=>(g.it it h).2.2.2.2) i w.items[i] (by simp[hl]);rw[hi]at h1;injection h1 with h1
  subst h1;obtain⟨a1,a2,a3,a4,a5⟩:=g.it w.items[i] (As hl);rw[h2];exact⟨a1,a2,a3,a4,h4⟩
section
def ixG(ks:List Int):Int->Option Value:=λn=>if n∈ks then some (.int .i64 (ks.idxOf n:Nat))else none
variable {α:Type}
abbrev Am(l:List (Int×α)):List Int:=l.map (·.1)
def Dd(l:List (Int×α))(n:Int)(v:α):List (Int×α):=if n∈Am l then l.set ((Am l).idxOf n) (n,v)else l++[(n,v)]
def Fl(l:List (Int×α))(n:Int):Option α:=(l[(Am l).idxOf n]?).map (·.2)
def DD(l:List (Int×α))(n:Int):List (Int×α):=if n∈Am l then(match l[l.length-1]? with|some e=>(l.set ((Am l).idxOf n) e).take (l.length-1)|none=>l)else l
structure ColOK(l:List (Int×α)):Prop where
 nd:(Am l).Nodup
 lt:∀n∈Am l,0<=n/\n<256
theorem VF{ks:List Int}(h:ks.Nodup)(hl:∀n∈ks,0<=n/\n<256):ks.length<=256:=by
 have h1:(ks.map Int.toNat).Nodup:=by
  refine He.2 (h.imp_of_mem λha hb hne e=>hne ?_);have:=hl _ ha;have:=hl _ hb;omega
 have h2:(ks.map Int.toNat)⊆List.range 256:=λx hx=>by
  obtain⟨n,hn,rfl⟩:=Ag.1 hx;have:=hl n hn;rw[DL];omega
 have:=bf h1 h2;simpa using this
theorem ColOK.len{l:List (Int×α)}(h:ColOK l):l.length<=256:=by
 have:=VF h.nd h.lt;simpa using this
theorem Ix{l:List (Int×α)}(h:n∈Am l):(Am l).idxOf n<l.length:=by
 have:=List.idxOf_lt_length_of_mem h;simpa using this
theorem Iy{l:List (Int×α)}(h:n∈Am l):∃v,l[(Am l).idxOf n]?=some (n,v):=by
 have h1:=Ix h;have h2:=List.getElem_idxOf (xs:=Am l) (x:=n) (by simpa using h1);rw[Gp]at h2;refine⟨(l[(Am l).idxOf n]).2,?_⟩;rw[AX h1]
 congr 1
 exact Prod.ext h2 rfl
theorem Hh{l:List (Int×α)}(h:n∉Am l):Fl l n=none:=by
 unfold Fl;rw[CD]
 ·rfl
 ·rw[List.idxOf_eq_length h];simp
theorem Ej{l:List (Int×α)}(h:ColOK l){v:α}:Fl l n=some v↔(n,v)∈l:=by
 constructor
 ·intro e
  have hn:n∈Am l:=F8 λhn=>by rw[Hh hn]at e;cases e
  obtain⟨u,hu⟩:=Iy hn;unfold Fl at e;rw[hu]at e;injection e with e
  simp only at e;subst e;exact B0 hu
 ·intro hm
  have hn:n∈Am l:=Ag.2 ⟨_,hm,rfl⟩;obtain⟨i,hi,e⟩:=Bv hm
  have h1:(Am l).idxOf n=i:=by
   have h2:(Am l)[i]'(by simpa using hi)=n:=by rw[Gp,e]
   rw[<-h2];exact h.nd.idxOf_getElem i _
  unfold Fl;rw[h1,AX hi,e];rfl
theorem Ir{l:List (Int×α)}(h:n∈Am l):∃v,Fl l n=some v:=by
 obtain⟨u,hu⟩:=Iy h;exact⟨u,by unfold Fl;rw[hu];rfl⟩
theorem ColOK.perm{l l':List (Int×α)}(h:ColOK l)(p:l.Perm l'):ColOK l':=
 ⟨(p.map _).nodup_iff.1 h.nd,λn hn=>h.lt n ((p.map _).mem_iff.2 hn)⟩
theorem Fq{l:List (Int×α)}{v:α}(h:n∉Am l):Dd l n v=l++[(n,v)]:=AI h
theorem Ih{l:List (Int×α)}{v:α}(h:n∈Am l):Dd l n v=l.set ((Am l).idxOf n) (n,v):=Ab h
theorem Iq{l:List (Int×α)}{v:α}(h:n∈Am l):Am (Dd l n v)=Am l:=by
 rw[Ih h,Am,BK];obtain⟨u,hu⟩:=Iy h;have h1:=Ix h;refine EA (by simp) λi h2 h3=>?_
 rw[List.getElem_set];split
 ·rename_i e
  subst e;have:=List.getElem_idxOf (xs:=Am l) (x:=n) (by simpa using h1);exact this.symm
 ·rfl
theorem ColOK.put{l:List (Int×α)}(h:ColOK l)(hn:0<=n/\n<256)(v:α):ColOK (Dd l n v):=by
 by_cases hk:n∈Am l
 ·refine⟨by rw[Iq hk];exact h.nd,λm hm=>h.lt m (by rwa[Iq hk]at hm)⟩
 ·rw[Fq hk]
  refine⟨?_,λm hm=>?_⟩
  ·rw[Am,AK]
   refine AW.2 ⟨h.nd,by simp,λa ha b hb e=>?_⟩;simp only[Aa,CO,DC]at hb;subst hb e;exact hk ha
  ·rw[Am,AK]at hm
   rcases AL.1 hm with hm|hm
   ·exact h.lt m hm
   ·simp only[Aa,CO,DC]at hm
    subst hm;exact hn
theorem N4{l:List (Int×α)}(h:ColOK l){v:α}{m:Int}{u:α}:(m,u)∈Dd l n v↔(m=n/\u=v)\/(m≠n/\(m,u)∈l):=by
 by_cases hk:n∈Am l
 ·obtain⟨w,hw⟩:=Iy hk
  have h1:=Ix hk;rw[Ih hk];constructor
  ·intro hm
   obtain⟨i,hi,e⟩:=Bv hm;rw[List.getElem_set]at e;split at e
   ·injection e with e1 e2
    exact .inl ⟨e1.symm,e2.symm⟩
   ·rename_i hne
    refine .inr ⟨λe2=>hne ?_,e▸As _⟩;have hi':i<l.length:=by simpa using hi
    have h2:(Am l)[i]'(by simpa using hi')=n:=by rw[Gp,e,e2]
    rw[<-h2];exact h.nd.idxOf_getElem i _
  ·rintro(⟨rfl,rfl⟩|⟨hne,hm⟩)
   ·exact B0 (i:=(Am l).idxOf m) (by rw[BU h1])
   ·obtain⟨i,hi,e⟩:=Bv hm
    refine B0 (i:=i) ?_;rw[CX,AX hi,e];intro e2;have h3:l[i]?=some (m,u):=by rw[AX hi,e]
    rw[<-e2,hw]at h3;injection h3 with h3
    injection h3 with h3 _
    exact hne h3.symm
 ·rw[Fq hk,Eq,DC]
  constructor
  ·rintro(hm|e)
   ·exact .inr ⟨λe=>hk (by subst e;exact Ag.2 ⟨_,hm,rfl⟩),hm⟩
   ·injection e with e1 e2
    exact .inl ⟨e1,e2⟩
  ·rintro(⟨rfl,rfl⟩|⟨_,hm⟩)
   ·exact .inr rfl
   ·exact .inl hm
theorem KA{l:List (Int×α)}(h:n∉Am l):DD l n=l:=AI h
theorem SD{β:Type}{l:List β}{x e:β}(hx:l[i]?=some x)(he:l[l.length-1]?=some e):l.Perm (x::(l.set i e).take (l.length-1)):=by
 have hi:=(AE.1 hx).1
 obtain⟨l',e',rfl⟩:∃l' e',l=l'++[e']:=by
  rcases List.eq_nil_or_concat l with rfl|⟨l',e',rfl⟩
  ·cases hi
  ·exact⟨l',e',by simp⟩
 have hl:(l'++[e']).length-1=l'.length:=by simp
 rw[hl]at he⊢;rw[BX (AT _),Co]at he;injection he with he
 subst he;by_cases h:i<l'.length
 ·rw[Bw h]at hx
  rw[List.set_append_left _ _ h,D4 (by simp)];obtain⟨R,h1,h2⟩:=De hx;refine List.perm_append_comm.trans ?_;refine((h1.cons e').trans (.swap ..)).trans ?_;exact(h2 e').symm.cons x
 ·have hi':i=l'.length:=by simp at hi;omega
  subst hi';rw[BX (AT _),Co]at hx;injection hx with hx
  subst hx;rw[Fv _ _ (AT _),Co,HE,D4 rfl];exact BJ
theorem PJ{β:Type}{l:List β}(h:0<l.length):∃e,l[l.length-1]?=some e:=⟨l[l.length-1],AX (by omega)⟩
theorem F9{l:List (Int×α)}(h:ColOK l){v:α}(hm:(n,v)∈l):l.Perm ((n,v)::DD l n):=by
 have hk:n∈Am l:=Ag.2 ⟨_,hm,rfl⟩;obtain⟨w,hw⟩:=Iy hk;have h1:=Ix hk
 have hwv:w=v:=by
  have:=(Ej h).2 hm;unfold Fl at this;rw[hw]at this;injection this
 subst hwv;obtain⟨e,he⟩:=PJ (l:=l) (by omega);unfold DD;rw[Ab hk,he];exact SD hw he
theorem Pg{l:List (Int×α)}(hk:n∈Am l):(DD l n).length=l.length-1:=by
 have h1:=Ix hk;obtain⟨e,he⟩:=PJ (l:=l) (by omega);unfold DD;rw[Ab hk,he];simp
theorem ColOK.drop{l:List (Int×α)}(h:ColOK l)(n:Int):ColOK (DD l n):=by
 by_cases hk:n∈Am l
 ·obtain⟨v,hv⟩:=Ir hk
  have:=h.perm (F9 h ((Ej h).1 hv));exact⟨(Bu.1 this.nd).2,λm hm=>this.lt m (Db _ hm)⟩
 ·rw[KA hk];exact h
theorem G5{l:List (Int×α)}(h:ColOK l){n m:Int}:m∈Am (DD l n)↔m∈Am l/\m≠n:=by
 by_cases hk:n∈Am l
 ·obtain⟨v,hv⟩:=Ir hk
  have hp:=F9 h ((Ej h).1 hv);have hd:=h.perm hp;have hn:n∉Am (DD l n):=(Bu.1 hd.nd).1;rw[(hp.map (·.1)).mem_iff (a:=m)];simp only[Aa,Df];constructor
  ·intro hm
   exact⟨.inr hm,λe=>hn (by subst e;exact hm)⟩
  ·rintro⟨e|hm,hne⟩
   ·exact absurd e hne
   ·exact hm
 ·rw[KA hk]
  exact⟨λhm=>⟨hm,λe=>hk (e▸hm)⟩,λhm=>hm.1⟩
theorem Wh{l:List (Int×α)}(h:ColOK l){n m:Int}(hne:m≠n):Fl (DD l n) m=Fl l m:=by
 by_cases hm:m∈Am l
 ·obtain⟨v,hv⟩:=Ir hm
  rw[hv,Ej (h.drop n)];have h1:=(Ej h).1 hv;by_cases hk:n∈Am l
  ·obtain⟨w,hw⟩:=Ir hk
   have:=(F9 h ((Ej h).1 hw)).mem_iff.1 h1;rcases AP.1 this with e|e
   ·injection e with e _
    exact absurd e hne
   ·exact e
  ·rw[KA hk];exact h1
 ·rw[Hh hm,Hh (λhm'=>hm ((G5 h).1 hm').1)]
theorem Lu{l:List (Int×α)}(h:ColOK l)(hn:0<=n/\n<256){v:α}{m:Int}:Fl (Dd l n v) m=if m=n then some v else Fl l m:=by
 split
 ·rename_i e
  subst e;exact(Ej (h.put hn v)).2 ((N4 h).2 (.inl ⟨rfl,rfl⟩))
 ·rename_i hne
  cases hg:Fl l m with
  |some w=>exact(Ej (h.put hn v)).2 ((N4 h).2 (.inr ⟨hne,(Ej h).1 hg⟩))
  |none=>
   refine Hh λhm=>?_
   obtain⟨⟨m',w⟩,hw,rfl⟩:=Ag.1 hm;rcases(N4 h).1 hw with⟨e,_⟩|⟨_,hw⟩
   ·exact hne e
   ·rw[(Ej h).2 hw]at hg
    cases hg
theorem F7{ks:List Int}(h:n∈ks):ixG ks n=some (.int .i64 (ks.idxOf n:Nat)):=Ab h
theorem Kl{ks:List Int}(h:n∉ks):ixG ks n=none:=AI h
theorem Yf{ks:List Int}(h:n∉ks):H4 (ixG ks) n (.int .i64 (ks.length:Nat))=ixG (ks++[n]):=by
 funext m
 unfold H4;split
 ·rename_i e
  subst e;rw[F7 (by simp),List.idxOf_append,AI h];simp
 ·rename_i hne
  by_cases hm:m∈ks
  ·rw[F7 hm,F7 (by simp[hm]),List.idxOf_append,Ab hm]
  ·rw[Kl hm,Kl (by simp[hm,hne])]
theorem OG{ks:List Int}(hd:ks.Nodup)(h:ks[i]?=some n):n∈ks/\ks.idxOf n=i:=by
 obtain⟨hi,e⟩:=AE.1 h;subst e;exact⟨As _,hd.idxOf_getElem i _⟩
theorem VX{ks:List Int}(hd:ks.Nodup){n e:Int}(hn:ks[i]?=some n)(he:ks[ks.length-1]?=some e):KL (H4 (ixG ks) e (.int .i64 (i:Nat))) n=ixG ((ks.set i e).take (ks.length-1)):=by
 have hp:=SD hn he;have hd2:(n::(ks.set i e).take (ks.length-1)).Nodup:=hp.nodup_iff.1 hd;obtain⟨hn1,hd3⟩:=Bu.1 hd2;obtain⟨hi,_⟩:=AE.1 hn;have hmem:∀m,m∈ks↔m=n\/m∈(ks.set i e).take (ks.length-1):=λm=>by rw[hp.mem_iff];simp
 funext m
 unfold KL;split
 ·rename_i h
  subst h;rw[Kl hn1]
 ·rename_i hmn
  unfold H4;split
  ·rename_i hme
   subst hme
   have hi2:i<ks.length-1:=by
    refine F8 λh=>hmn ?_
    have:i=ks.length-1:=by omega
    rw[this,he]at hn;injection hn
   obtain⟨h1,h2⟩:=OG hd3 (i:=i) (n:=m) (by rw[Nw hi2,BU hi]);rw[F7 h1,h2]
  ·rename_i hme
   by_cases hm:m∈ks
   ·obtain⟨j,hj,ej⟩:=Bv hm
    have hj1:ks[j]?=some m:=by rw[AX hj,ej]
    have hj2:j<ks.length-1:=by
     refine F8 λh=>hme ?_
     have:j=ks.length-1:=by omega
     rw[this,he]at hj1;injection hj1 with hj1
     exact hj1.symm
    have hij:i≠j:=λh=>by
     subst h;rw[hn]at hj1;injection hj1 with hj1
     exact hmn hj1.symm
    obtain⟨h1,h2⟩:=OG hd hj1;obtain⟨h3,h4⟩:=OG hd3 (i:=j) (n:=m) (by rw[Nw hj2,CX hij,hj1]);rw[F7 h1,h2,F7 h3,h4]
   ·rw[Kl hm,Kl λh=>hm ((hmem m).2 (.inr h))]
structure StK where
 X:Nat
 V:Nat
 R:Nat
 M:Nat
end
instance mapII:TMap prog 215 3 3 (.int .i64 0):=⟨by kernel_rfl,by kernel_rfl,λw=>by kernel_rfl,PlainV.int (by kernel_rfl) rfl⟩
abbrev stE(k:StK)(l:List (Int×Ent)):List AR:=[(k.X,.row 217 3 [.agg [.sl k.V 0 l.length,.sl k.R 0 l.length,.mp k.M]]),(k.V,.row 32 2 (l.map λe=>CI e.2)),(k.R,.row 3 1 (l.map λe=>iA e.1)),(k.M,.ob (MapF prog 3 3 (ixG (Am l)) l.length))]
theorem Wg{X V R M n m c:Nat}{l:List (Int×Ent)}{vs rs:List AV}{g:Int->Option Value}(h1:n=l.length)(h2:m=l.length)(h3:vs=l.map λe=>CI e.2)(h4:rs=l.map λe=>iA e.1)(h5:g=ixG (Am l))(h6:c=l.length):
  [(X,AO.row 217 3 [.agg [.sl V 0 n,.sl R 0 m,.mp M]]),(V,.row 32 2 vs),(R,.row 3 1 rs),(M,.ob (MapF prog 3 3 g c))]=stE ⟨X,V,R,M⟩ l:=by
 subst h1 h2 h3 h4 h5 h6;rfl
theorem newE_sp:Spec prog 121 [] [] λr S'=>∃k:StK,r= .ptr k.X 0 0/\S'=stE k []:=by
 refine Sp (nt:=4) (res:=[.tmp 0]) func121 λSf=>?_
 refine R1 ?_;refine JD ?_;refine RQ λM=>?_;refine KO ?_;refine Ai λX=>?_;refine JB ?_
 refine CM (Y:=X) 32 2 .here (λV=>.cons (.agg (.cons (.base .nil) .r)) .nil) λV=>?_
 refine CM (Y:=X) 3 1 (.next .here) (λV=>.cons (.agg (.s (.cons (.base .nil) .r))) .nil) λR=>?_
 refine BQ M ?_;refine BQ R ?_;refine BQ V ?_;refine BQ X ?_;refine RT ?_;exact Ends.sp [.ptr X 0 0] (stE ⟨X,V,R,M⟩ []) ⟨⟨X,V,R,M⟩,rfl,rfl⟩
theorem du(k:StK)(l:List (Int×Ent))(hl:ColOK l)(n:Int)(v:Ent)(hn:0<=n/\n<256):Spec prog 124 [.ptr k.X 0 0,iA n,CI v] (stE k l) λr S'=>∃q:Nat×Nat,r=iA 0/\S'=stE ⟨k.X,q.1,q.2,k.M⟩ (Dd l n v):=by
 have hlen:=hl.len;have hn1:decide (n<0)=false:=Au (by omega);have hn2:decide (n>=256)=false:=Au (by omega);have hI: -9223372036854775808<=n/\n<=9223372036854775807:=by omega
 by_cases hk:n∈Am l
 ·obtain⟨u,hu⟩:=Iy hk
  have hi:=Ix hk;rw[Ih hk];have hix:=F7 hk;have hke:=Iq (v:=v) hk;rw[Ih hk]at hke;obtain⟨i,hi2⟩:=nm ((Am l).idxOf n);rw[hi2]at hi hu hix hke⊢;have h1:(ixG (Am l) n).getD (.int .i64 0)= .int .i64 (i:Nat):=by rw[hix];rfl
  have h2:(ixG (Am l) n).isSome=true:=by rw[hix];rfl
  have hat:(l.map λe=>CI e.2)[i]?=some (CI u):=by rw[Ac,hu];rfl
  have hset:(l.map λe=>CI e.2).set i (CI v)=(l.set i (n,v)).map λe=>CI e.2:=by rw[BK]
  have hrow:(l.map λe=>iA e.1)=(l.set i (n,v)).map λe=>iA e.1:=by
   have:=Dh (List.map iA) hke;rw[Am,Am,Ch,Ch]at this;exact this.symm
  refine Sp (nt:=62) (res:=[.tmp 6]) func124 λSf=>?_
  refine JG ?_;refine Ai λB0=>?_;refine JB ?_
  refine JA ?_;refine AB rfl hn2 ?_;refine JD ?_;(iterate 5 refine WO ?_);refine Ad ?_ (Hz _ _ h1 h2 hI rfl rfl (by exact Az));refine JE ?_;refine JA ?_;refine An rfl rfl ?_;refine FL ?_;refine RU ?_;(iterate 6 refine RK ?_);refine BT ?_ (W.idx rfl rfl (by exact Az) rfl (by omega) (Ao _));refine RK ?_;refine RGo.nil (by kernel_rfl) ?_;refine JM ?_;exact Ends.sp [iA 0] _ ⟨(k.V,k.R),rfl,Wg (n:=l.length) (m:=l.length) (c:=l.length) (by simp) (by simp) hset hrow (by rw[hke]) (by simp)⟩
 ·rw[Fq hk]
  have hix:=Kl hk;have h1:(ixG (Am l) n).getD (.int .i64 0)= .int .i64 0:=by rw[hix];rfl
  have h2:(ixG (Am l) n).isSome=false:=by rw[hix];rfl
  have hkl:(Am l).length=l.length:=AD _
  have hkf:H4 (ixG (Am l)) n (.int .i64 (l.length:Nat))=ixG (Am (l++[(n,v)])):=by
   rw[<-hkl,Yf hk,Am,Am,AK];rfl
  have hsz:(if(ixG (Am l) n).isSome then l.length else l.length+1)=l.length+1:=by rw[h2];rfl
  have hmx:l.length<maxLen:=by unfold maxLen;omega
  refine Sp (nt:=62) (res:=[.tmp 6]) func124 λSf=>?_
  refine JG ?_;refine Ai λB0=>?_;refine JB ?_
  refine JA ?_;refine AB rfl hn2 ?_;refine JD ?_;(iterate 5 refine WO ?_);refine Ad ?_ (Hz _ _ h1 h2 hI rfl rfl (by exact Az));refine JE ?_;refine JA ?_;refine AB rfl rfl ?_;refine FL ?_;refine RU ?_;(iterate 10 refine RK ?_);refine H0 ?_ (W.mapUpd (PlainV.int (by kernel_rfl) (LY (by omega))) hI hmx rfl rfl rfl (by exact Az));refine RGo.nil (by kernel_rfl) ?_;rw[hkf,hsz];refine FL ?_;refine CN λA=>CN λB=>?_
  refine RU ?_;(iterate 7 refine RK ?_);refine H1 (iA n) ?_;(iterate 6 refine RK ?_);refine H1 (CI v) ?_;(iterate 7 refine RK ?_);refine RGo.nil (by kernel_rfl) ?_;refine JF ?_;refine BQ k.M ?_;refine BQ B ?_;refine BQ A ?_;refine BQ k.X ?_;refine RT ?_;exact Ends.sp [iA 0] _ ⟨(A,B),rfl,Wg (n:=l.length+1) (m:=l.length+1) (c:=l.length+1) (by simp) (by simp) (by rw[AK]) (by rw[AK]) rfl (by simp)⟩
abbrev stS(k:StK)(l:List (Int×List Int)):List AR:=[(k.X,.row 276 3 [.agg [.sl k.V 0 l.length,.sl k.R 0 l.length,.mp k.M]]),(k.V,.row 22 1 (l.map λe=>Av false e.2)),(k.R,.row 3 1 (l.map λe=>iA e.1)),(k.M,.ob (MapF prog 3 3 (ixG (Am l)) l.length))]
theorem Wf{X V R M n m c:Nat}{l:List (Int×List Int)}{vs rs:List AV}{g:Int->Option Value}(h1:n=l.length)(h2:m=l.length)(h3:vs=l.map λe=>Av false e.2)(h4:rs=l.map λe=>iA e.1)(h5:g=ixG (Am l))(h6:c=l.length):
  [(X,AO.row 276 3 [.agg [.sl V 0 n,.sl R 0 m,.mp M]]),(V,.row 22 1 vs),(R,.row 3 1 rs),(M,.ob (MapF prog 3 3 g c))]=stS ⟨X,V,R,M⟩ l:=by
 subst h1 h2 h3 h4 h5 h6;rfl
theorem f9:Spec prog 122 [] [] λr S'=>∃k:StK,r= .ptr k.X 0 0/\S'=stS k []:=by
 refine Sp (nt:=4) (res:=[.tmp 0]) func122 λSf=>?_
 refine R1 ?_;refine JD ?_;refine RQ λM=>?_;refine KO ?_;refine Ai λX=>?_;refine JB ?_
 refine CM (Y:=X) 22 1 .here (λV=>.cons (.agg (.cons (.base .nil) .r)) .nil) λV=>?_
 refine CM (Y:=X) 3 1 (.next .here) (λV=>.cons (.agg (.s (.cons (.base .nil) .r))) .nil) λR=>?_
 refine BQ M ?_;refine BQ R ?_;refine BQ V ?_;refine BQ X ?_;refine RT ?_;exact Ends.sp [.ptr X 0 0] (stS ⟨X,V,R,M⟩ []) ⟨⟨X,V,R,M⟩,rfl,rfl⟩
theorem dY(k:StK)(l:List (Int×List Int))(hl:ColOK l)(n:Int)(hn:I64 n)(v:List Int)(hg:Fl l n=some v):Spec prog 128 [.ptr k.X 0 0,iA n] (stS k l) λr S'=>r= .tup [Av false v,bA true]/\S'=stS k l:=by
 have hlen:=hl.len;have hk:n∈Am l:=F8 λh=>by rw[Hh h]at hg;cases hg
 obtain⟨u,hv⟩:=Iy hk;have hi:=Ix hk;have hg2:Fl l n=some u:=by unfold Fl;rw[hv];rfl
 rw[hg]at hg2;injection hg2 with hg2
 subst hg2;have hat:(l.map λe=>Av false e.2)[(Am l).idxOf n]?=some (Av false v):=by rw[Ac,hv];rfl
 have hix:=F7 hk;obtain⟨i,hi2⟩:=nm ((Am l).idxOf n);rw[hi2]at hi hat hix;have h1:(ixG (Am l) n).getD (.int .i64 0)= .int .i64 (i:Nat):=by rw[hix];rfl
 have h2:(ixG (Am l) n).isSome=true:=by rw[hix];rfl
 refine Sp (nt:=28) (res:=[.tmp 4,.tmp 5]) func128 λSf=>?_
 refine R1 ?_;refine JD ?_;(iterate 5 refine WO ?_);refine Ad ?_ (Hz _ _ h1 h2 hn rfl rfl (by exact Az));refine JE ?_;refine JA ?_;refine AB rfl rfl ?_;refine JD ?_;(iterate 5 refine WO ?_);refine Ad ?_ (W.idx rfl rfl (by exact Az) rfl (by omega) (Ao _));refine JE ?_;refine RT ?_;exact Ends.sp [Av false v,bA true] (stS k l) ⟨rfl,rfl⟩
theorem Vr(k:StK)(l:List (Int×List Int))(hl:ColOK l)(n:Int)(v:List Int)(hn:0<=n/\n<256):Spec prog 125 [.ptr k.X 0 0,iA n,Av false v] (stS k l) λr S'=>∃q:Nat×Nat,r=iA 0/\S'=stS ⟨k.X,q.1,q.2,k.M⟩ (Dd l n v):=by
 have hlen:=hl.len;have hn1:decide (n<0)=false:=Au (by omega);have hn2:decide (n>=256)=false:=Au (by omega);have hI: -9223372036854775808<=n/\n<=9223372036854775807:=by omega
 by_cases hk:n∈Am l
 ·obtain⟨u,hu⟩:=Iy hk
  have hi:=Ix hk;rw[Ih hk];have hix:=F7 hk;have hke:=Iq (v:=v) hk;rw[Ih hk]at hke;obtain⟨i,hi2⟩:=nm ((Am l).idxOf n);rw[hi2]at hi hu hix hke⊢;have h1:(ixG (Am l) n).getD (.int .i64 0)= .int .i64 (i:Nat):=by rw[hix];rfl
  have h2:(ixG (Am l) n).isSome=true:=by rw[hix];rfl
  have hat:(l.map λe=>Av false e.2)[i]?=some (Av false u):=by rw[Ac,hu];rfl
  have hset:(l.map λe=>Av false e.2).set i (Av false v)=(l.set i (n,v)).map λe=>Av false e.2:=by rw[BK]
  have hrow:(l.map λe=>iA e.1)=(l.set i (n,v)).map λe=>iA e.1:=by
   have:=Dh (List.map iA) hke;rw[Am,Am,Ch,Ch]at this;exact this.symm
  refine Sp (nt:=62) (res:=[.tmp 6]) func125 λSf=>?_
  refine R1 ?_;refine JA ?_;refine AB rfl hn2 ?_;refine JD ?_;(iterate 5 refine WO ?_);refine Ad ?_ (Hz _ _ h1 h2 hI rfl rfl (by exact Az));refine JE ?_;refine JA ?_;refine An rfl rfl ?_;refine JD ?_;(iterate 6 refine WO ?_);refine Ad ?_ (W.idx rfl rfl (by exact Az) rfl (by omega) (Ao _));refine JB ?_;refine JM ?_;exact Ends.sp [iA 0] _ ⟨(k.V,k.R),rfl,Wf (n:=l.length) (m:=l.length) (c:=l.length) (by simp) (by simp) hset hrow (by rw[hke]) (by simp)⟩
 ·rw[Fq hk]
  have hix:=Kl hk;have h1:(ixG (Am l) n).getD (.int .i64 0)= .int .i64 0:=by rw[hix];rfl
  have h2:(ixG (Am l) n).isSome=false:=by rw[hix];rfl
  have hkl:(Am l).length=l.length:=AD _
  have hkf:H4 (ixG (Am l)) n (.int .i64 (l.length:Nat))=ixG (Am (l++[(n,v)])):=by
   rw[<-hkl,Yf hk,Am,Am,AK];rfl
  have hsz:(if(ixG (Am l) n).isSome then l.length else l.length+1)=l.length+1:=by rw[h2];rfl
  have hmx:l.length<maxLen:=by unfold maxLen;omega
  refine Sp (nt:=62) (res:=[.tmp 6]) func125 λSf=>?_
  refine R1 ?_;refine JA ?_;refine AB rfl hn2 ?_;refine JD ?_;(iterate 5 refine WO ?_);refine Ad ?_ (Hz _ _ h1 h2 hI rfl rfl (by exact Az));refine JE ?_;refine JA ?_;refine AB rfl rfl ?_;refine FL ?_;refine RU ?_;(iterate 10 refine RK ?_);refine H0 ?_ (W.mapUpd (PlainV.int (by kernel_rfl) (LY (by omega))) hI hmx rfl rfl rfl (by exact Az));refine RGo.nil (by kernel_rfl) ?_;rw[hkf,hsz];refine FL ?_;refine CN λA=>CN λB=>?_
  refine RU ?_;(iterate 7 refine RK ?_);refine H1 (iA n) ?_;(iterate 6 refine RK ?_);refine H1 (Av false v) ?_;(iterate 7 refine RK ?_);refine RGo.nil (by kernel_rfl) ?_;refine JF ?_;refine BQ k.M ?_;refine BQ B ?_;refine BQ A ?_;refine BQ k.X ?_;refine RT ?_;exact Ends.sp [iA 0] _ ⟨(A,B),rfl,Wf (n:=l.length+1) (m:=l.length+1) (c:=l.length+1) (by simp) (by simp) (by rw[AK]) (by rw[AK]) rfl (by simp)⟩
def Ew:List Int->List Int->Int
 |[],[]=>0
 |[],_::_=>-1
 |_::_,[]=>1
 |x::a,y::b=>if FU x y≠0 then FU x y else Ew a b
theorem gm{a b:List Int}(ha:i<a.length)(hb:i<b.length):Ew (a.drop i) (b.drop i)=if FU a[i] b[i]≠0 then FU a[i] b[i]else Ew (a.drop (i+1)) (b.drop (i+1)):=by
 rw[Dp ha,Dp hb,Ew]
theorem Vu(a b:List Int)(ha:a.length<=1099511627776):PS prog 120 [Av false a,Av false b] (iA (Ew a b)):=by
 have ham:(a.map iA).length=a.length:=AD _;have hbm:(b.map iA).length=b.length:=AD _;refine Sp (nt:=36) (res:=[.tmp 4]) func120 λSf=>?_
 refine KK ?_;refine Cd (λ(i:Nat)=>⟨[(0,Av false a),(1,Av false b),(9,Av false a),(10,iA (a.map iA).length),(11,iA i)],Sf⟩) (λi=>i<=a.length/\i<=b.length/\Ew a b=Ew (a.drop i) (b.drop i)) (λi=>a.length-i) 0 ⟨by omega,by omega,rfl⟩ ?_;rintro i ⟨hi,hib,hc⟩;refine KK ?_;refine AC rfl (λh=>?_) (λh=>?_)
 ·have h:i<a.length:=by rw[AS,ham]at h;omega
  have hat:(a.map iA)[i]?=some (iA a[i]):=DK _ h;obtain⟨x,hx⟩:=nm (a[i]);rw[hx]at hat;have hil:i<(a.map iA).length:=by omega
  refine KK ?_;refine AC rfl (λh2=>?_) (λh2=>?_)
  ·have h2:i=b.length:=by rw[AS,hbm]at h2;omega
   refine JC ?_;refine Ah ?_;have hbn:b.drop i=[]:=Cf (by omega);rw[hc,hbn,Dp h];rfl
  ·have h2:i<b.length:=by rw[AZ,hbm]at h2;omega
   have hat2:(b.map iA)[i]?=some (iA b[i]):=DK _ h2;have hil2:i<(b.map iA).length:=by omega
   rw[gm h h2]at hc;obtain⟨y,hy⟩:=nm (b[i]);rw[hx,hy]at hc;rw[hy]at hat2;have hcm:=I3 x y;obtain⟨z,hz⟩:=nm (FU x y);rw[hz]at hcm hc;refine KK ?_;refine BO (h:=(hcm ..)) (k:=?_);refine KK ?_;refine AC rfl (λh3=>?_) (λh3=>?_)
   ·have h3:z≠0:=by simpa using h3
    refine JC ?_;refine Ah ?_;rw[hc,Ab h3]
   ·have h3:z=0:=by simpa using h3
    rw[AI (by simp[h3])]at hc;refine KK ?_;exact Bb (i+1) ⟨by omega,by omega,hc⟩ (by omega)
 ·have h:i=a.length:=by rw[AZ,ham]at h;omega
  subst h;rw[CY]at hc;refine KK ?_;refine AC rfl (λh2=>?_) (λh2=>?_)
  ·have h2:a.length<b.length:=by rw[AS,ham,hbm]at h2;omega
   refine JC ?_;refine Ah ?_;rw[hc,Dp h2];rfl
  ·have h2:a.length=b.length:=by rw[AZ,ham,hbm]at h2;omega
   refine JC ?_;refine Ah ?_;rw[hc,Cf (by omega)];rfl
def IL{α:Type}(f:α->AV)(z:AV)(l:List α)(i:Nat):List AV:=(l.take i).map f++List.replicate (l.length-i) z
theorem Sn(f:α->AV)(z:AV)(l:List α)(h:i<=l.length):(IL f z l i).length=l.length:=by
 unfold IL;rw[AJ,AD,Ba,Dr];omega
theorem Qg(f:α->AV)(z:AV)(l:List α):IL f z l 0=List.replicate l.length z:=by unfold IL;simp
theorem Sq(f:α->AV)(z:AV)(l:List α):IL f z l l.length=l.map f:=by unfold IL;simp
theorem Vm(f:α->AV)(z:AV)(l:List α)(h:i<l.length):(IL f z l i)[i]?=some z:=by
 unfold IL;have hl:((l.take i).map f).length=i:=by rw[AD,Ba];omega
 rw[BX (by omega),hl,Co,JS,Ab (by omega)]
theorem Sm(f:α->AV)(z:AV)(l:List α)(h:i<l.length):(IL f z l i).set i (f l[i])=IL f z l (i+1):=by
 unfold IL;have hl:((l.take i).map f).length=i:=by rw[AD,Ba];omega
 rw[Fv _ _ (by omega),hl,Co,show l.length-i=(l.length-(i+1))+1 by omega,IN,HE,Aw h,AK,Aq];rfl
theorem XN(l:List Comp)(hl:l.length<=1099511627776):PS prog 117 [B3 false false l] (Av true (l.map (·.kind))):=by
 have hlm:(l.map (Ae false)).length=l.length:=AD _;refine Sp (nt:=23) (res:=[.tmp 2]) func117 λSf=>?_
 refine R1 ?_;refine JI ?_;refine WO ?_;refine I9 (iA 0) λK=>?_;refine JB ?_
 rw[hlm,<-Qg (λc:Comp=>iA c.kind)];refine JA ?_;refine Cd (λ(i:Nat)=>⟨[(3,.sl K 0 l.length),(9,B3 false false l),(10,iA (l.map (Ae false)).length),(11,iA i)],(K,.row 3 1 (IL (λc:Comp=>iA c.kind) (iA 0) l i))::Sf⟩) (λi=>i<=l.length) (λi=>l.length-i) 0 (by omega) ?_;rintro i hi;have hfl:=Sn (λc:Comp=>iA c.kind) (iA 0) l hi;refine JH ?_;refine AC rfl (λh=>?_) (λh=>?_)
 ·have h:i<l.length:=by rw[AS,hlm]at h;omega
  have hat:(l.map (Ae false))[i]?=some (Ae false l[i]):=DK _ h;have hil:i<(l.map (Ae false)).length:=by omega
  have hfa:=Vm (λc:Comp=>iA c.kind) (iA 0) l h;have hfs:=Sm (λc:Comp=>iA c.kind) (iA 0) l h;obtain⟨⟨ck,cv⟩,hc⟩:=nm (l[i]);rw[hc]at hat hfs;refine JL ?_;refine Ai λC=>?_;refine JE ?_
  refine JD ?_;(iterate 4 refine WO ?_);refine Ad ?_ (W.idx rfl rfl (by exact Az) rfl (by omega) (Ao _));refine JB ?_;rw[hfs];refine JF ?_;exact Bb (i+1) (by omega)
 ·have h:i=l.length:=by rw[AZ,hlm]at h;omega
  subst h;rw[Sq];refine JM ?_;exact⟨[.sl K 0 l.length],[Av true (l.map (·.kind))],_,[],.cons (.tmp rfl) rfl .nil,.cons (.cell (by unfold Av;rw[show(l.map (·.kind)).map iA=l.map (λc:Comp=>iA c.kind)from Ch];exact .sl (p:=0) .here (by simp))) .nil,by exact BL,rfl,rfl⟩
abbrev ptrs{α:Type}(px:α->Nat)(l:List α):List AV:=l.map λx=>.ptr (px x) 0 0
theorem Wm(Tb:Nat)(l:List α)(px:α->Nat)(R:List AR)(ks:List Int)(f:FuncId)(g:α->Int)(hl:l.length<=4611686018427387904)(hf:∀x∈l,Spec prog f [.ptr (px x) 0 0,Av false ks] R λr S'=>r=iA (g x)/\S'=R):
  Spec prog 118 [.sl Tb 0 l.length,Av false ks,.fn f []] ((Tb,.row 117 1 (ptrs px l))::R) λr S'=>∃b,Found g l b/\r= .tup [iA b.1,bA b.2]/\S'=(Tb,.row 117 1 (ptrs px l))::R:=by
 refine Sp (nt:=49) (res:=[.tmp 6,.tmp 7]) func118 λSf=>?_
 have hlm:(ptrs px l).length=l.length:=AD _;refine KK ?_;refine Cq (λ(i j:Nat)=>⟨[(0,.sl Tb 0 l.length),(1,Av false ks),(2,.fn f []),(8,iA l.length),(9,iA i),(10,iA j)],(Tb,.row 117 1 (ptrs px l))::(R++Sf)⟩) (λi j=>i<=j/\j<=l.length/\(Oy g l->Spl g l i j)) (λi j=>j-i) 0 l.length ⟨Ap _,by omega,λ_=>⟨λk x h=>absurd h (by omega),λk x h hx=>by have:=(AE.1 hx).1;omega⟩⟩ ?_;rintro i j ⟨hij,hjn,hmono⟩;refine KK ?_;refine AC rfl (λhc=>?_) (λhc=>?_)
 ·have h:i<j:=by rw[AS]at hc;omega
  have hmid:((i:Int)+j).fdiv (2^1)=(((i+j)/2:Nat):Int):=by
   rw[Ef _ (by decide)];omega
  have hw1:IntKind.u64.wrap ((i:Int)+j)=i+j:=by rw[Rb];omega
  have hw2:IntKind.i64.wrap (((i:Int)+j).fdiv (2^1))=((i:Int)+j).fdiv (2^1):=by
   rw[Rc,hmid];omega
  refine RG ?_;(iterate 3 refine WO ?_);refine AOps.p (W.conv .i64 .u64 (by kernel_rfl) (by kernel_rfl) rfl hw1) rfl ?_;refine AOps.p (W.shr 1 rfl rfl rfl (by decide)) rfl ?_;refine AOps.p (W.conv .u64 .i64 (by kernel_rfl) (by kernel_rfl) rfl hw2) rfl ?_;refine JB ?_;rw[hmid];obtain⟨m,hm⟩:=nm ((i+j)/2);rw[hm];have hml:m<l.length:=by omega
  obtain⟨y,hy⟩:=nm (l[m]);have hya:l[m]?=some y:=by rw[AX hml,hy]
  have hat:(ptrs px l)[m]?=some (.ptr (px y) 0 0):=by rw[Ac,hya];rfl
  have hfy:=hf y (by rw[<-hy];exact As hml);refine RG ?_;(iterate 3 refine WO ?_);refine Ad ?_ (W.idx rfl rfl (by exact Az) rfl (by omega) (Ao _));refine WO ?_;refine WO ?_;refine WH [(Tb,_)] (h:=hfy) (k:=?_);refine JB ?_;refine AC rfl (λhe=>?_) (λhe=>?_)
  ·have he:g y<0:=by simpa using he
   refine KK ?_;refine CA (m+1) j ⟨by omega,hjn,λhM=>(hmono hM).lo hM hya he⟩
  ·have he:¬g y<0:=by simpa using he
   refine KK ?_;refine CA i m ⟨by omega,by omega,λhM=>(hmono hM).hi hM hya he⟩
 ·have h:i=j:=by rw[AZ]at hc;omega
  subst h;by_cases hin:i<l.length
  ·have hil:i<l.length:=by omega
   have g1:decide ((i:Int)<l.length)=true:=BP (by omega);obtain⟨y,hy⟩:=nm (l[i]);have hya:l[i]?=some y:=by rw[AX hil,hy]
   have hat:(ptrs px l)[i]?=some (.ptr (px y) 0 0):=by rw[Ac,hya];rfl
   have hfy:=hf y (by rw[<-hy];exact As hil)
   (iterate 15 refine WK ?_);refine Ad ?_ (W.idx rfl rfl (by exact Az) rfl (by omega) (Ao _));(iterate 5 refine WK ?_);refine WH [(Tb,_)] (h:=hfy) (k:=?_);refine KK ?_
   refine RT ?_;exact Ends.sp [iA i,bA (decide (g y=0))] ((Tb,.row 117 1 (ptrs px l))::R) ⟨(i,decide (g y=0)),⟨by simp;omega,by simp[hya],hmono⟩,rfl,rfl⟩
  ·have g1:decide ((i:Int)<l.length)=false:=Au (by omega)
   refine JC ?_;exact Ends.sp [iA i,bA false] ((Tb,.row 117 1 (ptrs px l))::R) ⟨(i,false),⟨by simp;omega,by simp[CD (show l.length<=i by omega)],hmono⟩,rfl,rfl⟩
theorem ab(X:Nat)(l:List α)(px:α->Nat)(R:List AR)(f:FuncId)(cap:List AV)(p:α->Bool)(hs:Dw cap=true)(hl:l.length<=4611686018427387904)(hf:∀x∈l,Spec prog f (.ptr (px x) 0 0::cap) R λr S'=>r=bA (p x)/\S'=R):Spec prog 283 [.sl X 0 l.length,.fn f cap] ((X,.row 117 1 (ptrs px l))::R) λr S'=>r=iA (H6 l p)/\S'=(X,.row 117 1 (ptrs px l))::R:=by
 refine Sp (nt:=19) (res:=[.tmp 4]) func283 λSf=>?_
 refine KK ?_;refine Cd (λi:Nat=>⟨[(0,.sl X 0 l.length),(1,.fn f cap),(7,iA l.length),(8,iA i)],(X,.row 117 1 (ptrs px l))::(R++Sf)⟩) (λi=>i<=l.length/\∀j (h:j<l.length),j<i->p l[j]=false) (λi=>l.length-i) 0 ⟨Ap _,λj h hj=>absurd hj (by omega)⟩ ?_;rintro i ⟨hi,he⟩;refine KK ?_;refine AC rfl (λhc=>?_) (λhc=>?_)
 ·have h:i<l.length:=by simpa using hc
  have hfx:=hf _ (As h);obtain⟨y,hy⟩:=nm (l[i]);have hat:(ptrs px l)[i]?=some (.ptr (px y) 0 0):=by rw[Ac,AX h,hy];rfl
  rw[hy]at hfx
  (iterate 13 refine WK ?_);refine Ad ?_ (W.idx rfl rfl (by exact Az) rfl (by omega) (Ao _));refine WK ?_;refine WI [(X,_)] (h:=hfx) (k:=?_);refine KK ?_
  refine AC rfl (λhd=>?_) (λhd=>?_)
  ·refine KK ?_
   rw[Ik h (by rw[hy];exact hd) λj hj=>he j (by omega) hj];refine RT ?_;exact Ends.sp [iA i] ((X,.row 117 1 (ptrs px l))::R) ⟨rfl,rfl⟩
  ·refine KK ?_
   refine Bb (i+1) ⟨h,λj h1 h2=>?_⟩;by_cases e:j=i
   ·subst e;rw[hy];exact hd
   ·exact he j h1 (by omega)
 ·have h:¬i<l.length:=by simpa using hc
  refine KK ?_;rw[Il λj hj=>he j hj (by omega)];refine RT ?_;exact Ends.sp [iA (-1)] ((X,.row 117 1 (ptrs px l))::R) ⟨rfl,rfl⟩
theorem Xf(X:Nat)(l:List α)(px:α->Nat)(R:List AR)(f:FuncId)(cap:List AV)(p:α->Bool)(hs:Dw cap=true)(hl:l.length<=4611686018427387903)(hf:∀x∈l,Spec prog f (.ptr (px x) 0 0::cap) R λr S'=>r=bA (p x)/\S'=R):Spec prog 281 [.sl X 0 l.length,.fn f cap] ((X,.row 117 1 (ptrs px l))::R) λr S'=>r= .lst true 117 1 (ptrs px (l.filter λx=>!p x))/\S'=R:=by
 refine Sp (nt:=42) (res:=[.tmp 4]) func281 λSf=>?_
 have h0:=ab X l px R f cap p hs (by omega) hf;have hr:=QQ l p;obtain⟨v,hv⟩:=nm (H6 l p);rw[hv]at h0 hr
 (iterate 8 refine WK ?_);refine H3 [] h0 ?_;refine KK ?_
 refine AC rfl (λhc=>?_) (λhc=>?_)
 ·have hc:v= -1:=by simpa using hc
  have hall:(l.filter λx=>!p x)=l:=by
   rw[FX];intro x hx
   have h1:l.findIdx? p=none:=by
    unfold H6 at hv;split at hv
    ·omega
    ·assumption
   rw[D6]at h1;simp[h1 x hx]
  rw[hall];refine JC ?_;exact⟨[.sl X 0 l.length],[.lst true 117 1 (ptrs px l)],_,R,.cons (.tmp rfl) rfl .nil,.cons (.cell (.sl (p:=0) .here (by simp))) .nil,by exact BL,rfl,rfl⟩
 ·have hc:v≠-1:=by simpa using hc
  obtain⟨i0,hi0⟩:∃i0:Nat,v=i0:=⟨v.toNat,by omega⟩;subst hi0
  have hfi:l.findIdx? p=some i0:=by
   unfold H6 at hv;split at hv
   ·rename_i i hi;rw[hi];congr 1;omega
   ·omega
  obtain⟨hil,hpi,hmin⟩:=C7.1 hfi
  have ht0:(l.take (i0+1)).filter (λx=>!p x)=l.take i0:=by
   rw[Aw hil,Fw];rw[show([l[i0]].filter λx=>!p x)=[] by simp[hpi],A8,FX];intro x hx;obtain⟨j,hj,rfl⟩:=Em.1 hx;have:=hmin j (by omega);simp at this⊢;exact this
  refine KK ?_;refine ET (λ(i j:Nat) (M:List AV)=>⟨[(0,.sl X 0 l.length),(1,.fn f cap),(5,iA i),(6,iA j)],(X,.row 117 1 M)::(R++Sf)⟩) (λi j M=>i<j/\j<=l.length/\∃K:List α,M=ptrs px K/\K.length=l.length/\K.take i=((l.take j).filter λx=>!p x)/\K.drop j=l.drop j) (λi j _=>l.length-j) i0 (i0+1) (ptrs px l) ⟨by omega,hil,l,rfl,rfl,ht0.symm,rfl⟩ ?_;rintro i j M ⟨hij,hj,K,rfl,hM,h1,h2⟩;refine KK ?_;refine AC rfl (λhd=>?_) (λhd=>?_)
  ·have h:j<l.length:=by simpa using hd
   have hKj:K[j]?=some l[j]:=by
    have:=Dh (λz=>z[0]?) h2;simpa[h]using this
   have hat:(ptrs px K)[j]?=some (.ptr (px l[j]) 0 0):=by rw[Ac,hKj];rfl
   have hKi:i<K.length:=by omega
   obtain⟨b,hb⟩:=nm (p l[j]);have hfj:=hf _ (As h);rw[hb]at hfj
   have htk:(l.take (j+1)).filter (λx=>!p x)=(l.take j).filter (λx=>!p x)++if b then[]else[l[j]]:=by
    rw[Aw h,Fw]
    congr 1
    cases b<;>simp[hb]
   obtain⟨y,hy⟩:=nm (l[j]);rw[hy]at hat hfj
   (iterate 7 refine WK ?_);refine Ad ?_ (W.idx rfl rfl (by exact Az) rfl (by omega) (Ao _));(iterate 7 refine WK ?_);refine WI [(X,_)] (h:=hfj) (k:=?_);refine KK ?_
   cases b
   ·refine An rfl rfl ?_
    refine KK ?_;refine Cs (i+1) (j+1) ((ptrs px K).set i (.ptr (px y) 0 0)) ⟨by omega,h,K.set i y,by rw[ptrs,ptrs,BK],by simpa using hM,?_,?_⟩
    ·rw[htk,<-h1,EJ,List.take_set,List.set_eq_of_length_le (by rw[Ba];omega),BU hKi]
     simp[hy]
    ·rw[List.drop_set_of_lt (by omega),<-Cy,h2,Cy]
   ·refine AB rfl rfl ?_
    refine KK ?_;refine Cs i (j+1) _ ⟨by omega,h,K,rfl,hM,?_,?_⟩
    ·rw[h1,htk];simp
    ·rw[<-Cy,h2,Cy]
  ·have h:j=l.length:=by rw[AZ]at hd;omega
   subst h;have h1':K.take i=l.filter λx=>!p x:=by rw[h1,Bg]
   have hKl:(ptrs px K).length=l.length:=by rw[AD,hM]
   have hki:∀A B,(List.take (0+i) (ptrs px K)++A++B).take i=ptrs px (l.filter λx=>!p x):=λA B=>by
    rw[Ao,Aq,DV (by rw[Ba];omega),EP,RW,ptrs,<-D9,h1']
   have hfl:i=(ptrs px (l.filter λx=>!p x)).length:=by
    rw[<-h1',AD,Ba];omega
   (repeat first|(refine Bm ?_;first|refine DO (W.slice_lo rfl rfl (by exact Az) rfl (by omega)) rfl ?_|refine DO (W.clear rfl (by exact Az) (by first|exact .inl rfl|exact .inr rfl) rfl (by omega)) rfl ?_|refine AOps.p (W.hi rfl rfl (by exact Az) rfl (by omega)) rfl ?_)|refine WK ?_|refine Ai λX=>?_|refine Ay λY=>?_);refine FF (X:=X) i ?_;rw[hki];refine RT ?_;exact⟨[.sl X 0 i],[.lst true 117 1 (ptrs px (l.filter λx=>!p x))],_,R,.cons (.tmp rfl) rfl .nil,.cons (.cell (.sl (p:=0) .here hfl)) .nil,by exact BL,rfl,rfl⟩
structure Tab where
 X:Nat
 ks:List Int
 ek:StK
 es:List (Int×Ent)
 cs:List (StK×List (Int×List Int))
def DU(cs:List (StK×List (Int×List Int))):List AR:=cs.flatMap λc=>stS c.1 c.2
abbrev Vw(cs:List (StK×List (Int×List Int))):AV:=.lst false 209 1 (cs.map λc=>.ptr c.1.X 0 0)
abbrev Ha(t:Tab):AR:=(t.X,.row 123 3 [.agg [Av false t.ks,.ptr t.ek.X 0 0,Vw t.cs]])
abbrev IP(t:Tab):List AR:=Ha t::(stE t.ek t.es++DU t.cs)
theorem GW(a b:List (StK×List (Int×List Int))):DU (a++b)=DU a++DU b:=Gg
theorem GI(c:StK×List (Int×List Int))(b:List (StK×List (Int×List Int))):DU (c::b)=stS c.1 c.2++DU b:=Bj
theorem KB{l:List α}(h:i<l.length):∃l1 l2,l=l1++l[i]::l2/\l1.length=i:=⟨l.take i,l.drop (i+1),by rw[List.getElem_cons_drop,B8],by rw[Ba];omega⟩
def BH(t:Tab)(n:Int):List Comp:=(t.ks.zip t.cs).map λq=>⟨q.1,(Fl q.2.2 n).getD []⟩
structure TabOK(t:Tab):Prop where
 len:t.ks.length=t.cs.length
 ks:t.ks.length<=16
 es:ColOK t.es
 cs:∀c∈t.cs,ColOK c.2
 keys:∀c∈t.cs,∀n,n∈Am c.2↔n∈Am t.es
theorem g0(t:Tab)(ks:List Int)(hl:t.ks.length<=1099511627776):Spec prog 119 [.ptr t.X 0 0,Av false ks] [Ha t] λr S'=>r=iA (Ew t.ks ks)/\S'=[Ha t]:=by
 have h1:=Vu t.ks ks hl;refine Sp (nt:=11) (res:=[.tmp 4]) func119 λSf=>?_
 refine R1 ?_;refine JL ?_;refine BO (h:=(h1 ..)) (k:=?_);refine JB ?_;refine RT ?_;exact Ends.sp [iA (Ew t.ks ks)] [Ha t] ⟨rfl,rfl⟩
abbrev Qs:AV:=.agg [iA 0,.prim (.slice none 0 0)]
theorem Hg{t:Tab}(h:i<(BH t n).length)(h1:i<t.ks.length)(h2:i<t.cs.length):(BH t n)[i]=⟨t.ks[i],(Fl t.cs[i].2 n).getD []⟩:=by simp[BH]
theorem Vs(t:Tab)(n:Int)(ht:TabOK t)(hn:I64 n)(hk:n∈Am t.es):Spec prog 58 [.ptr t.X 0 0,iA n] (IP t) λr S'=>r= .lst true 42 2 ((BH t n).map (Ae false))/\S'=IP t:=by
 have hkm:(t.ks.map iA).length=t.ks.length:=AD _;have hcm:(t.cs.map λc=>AV.ptr c.1.X 0 0).length=t.cs.length:=AD _;have hlen:=ht.len;have h16:=ht.ks;have htl:(BH t n).length=t.ks.length:=by unfold BH;rw[AD,GK];omega
 refine Sp (nt:=46) (res:=[.tmp 4]) func58 λSf=>?_
 refine R1 ?_;refine JD ?_;(iterate 5 refine WO ?_);refine I9 (AV.agg [iA 0,.prim (.slice none 0 0)]) λK=>?_;refine JB ?_
 rw[hkm,<-htl,<-Qg (Ae false)];refine JA ?_;refine Cd (λ(i:Nat)=>⟨[(0,.ptr t.X 0 0),(1,iA n),(5,.sl K 0 (BH t n).length),(19,Av false t.ks),(20,iA (t.ks.map iA).length),(21,iA i)],(K,.row 42 2 (IL (Ae false) Qs (BH t n) i))::(IP t++Sf)⟩) (λi=>i<=t.ks.length) (λi=>t.ks.length-i) 0 (by omega) ?_;rintro i hi;have hfl:=Sn (Ae false) Qs (BH t n) (i:=i) (by omega);refine JH ?_;refine AC rfl (λh=>?_) (λh=>?_)
 ·have h:i<t.ks.length:=by rw[AS,hkm]at h;omega
  have hc:i<t.cs.length:=by omega
  have hat:(t.ks.map iA)[i]?=some (iA t.ks[i]):=DK _ h;have hil:i<(t.ks.map iA).length:=by omega
  have hti:i<(BH t n).length:=by omega
  have hfa:=Vm (Ae false) Qs (BH t n) hti;have hfs:=Sm (Ae false) Qs (BH t n) hti;have hcat:(t.cs.map λc=>AV.ptr c.1.X 0 0)[i]?=some (.ptr t.cs[i].1.X 0 0):=DK _ hc;have hcil:i<(t.cs.map λc=>AV.ptr c.1.X 0 0).length:=by omega
  have hcm:=As hc;obtain⟨v,hv⟩:=Ir ((ht.keys _ hcm n).2 hk)
  have hel:(BH t n)[i]=⟨t.ks[i],v⟩:=by
   rw[Hg hti h hc,hv];rfl
  rw[hel]at hfs;have hget:=dY t.cs[i].1 t.cs[i].2 (ht.cs _ hcm) n hn v hv;obtain⟨l1,l2,hsp,hl1⟩:=KB hc;obtain⟨c,hce⟩:=nm (t.cs[i]);rw[hce]at hget hsp hcat;obtain⟨k,hke⟩:=nm (t.ks[i]);rw[hke]at hat hfs
  have heq:(K,AO.row 42 2 (IL (Ae false) Qs (BH t n) i))::(IP t++Sf)=((K,AO.row 42 2 (IL (Ae false) Qs (BH t n) i))::Ha t::(stE t.ek t.es++DU l1))++(stS c.1 c.2++(DU l2++Sf)):=by
   have e1:DU t.cs=DU l1++(stS c.1 c.2++DU l2):=by
    conv=>lhs;rw[hsp]
    rw[GW,GI]
   rw[IP,e1];simp only[CT,Aq]
  refine JA ?_;refine RG ?_;(iterate 8 refine WO ?_);refine H3 _ hget ?_ (hp:=heq);refine JE ?_;rw[<-heq];refine JD ?_;(iterate 5 refine WO ?_);refine Ad ?_ (W.idx rfl rfl (by exact Az) rfl (by omega) (Ao _));refine JB ?_;refine TM K hfs ?_;refine JF ?_;exact Bb (i+1) (by omega)
 ·have h:i=t.ks.length:=by rw[AZ,hkm]at h;omega
  subst h;have hfa:IL (Ae false) Qs (BH t n) t.ks.length=(BH t n).map (Ae false):=by rw[<-htl];exact Sq _ _ _
  rw[hfa];refine JM ?_;exact⟨[.sl K 0 (BH t n).length],[.lst true 42 2 ((BH t n).map (Ae false))],_,IP t,.cons (.tmp rfl) rfl .nil,.cons (.cell (.sl (p:=0) .here (by simp))) .nil,by exact BL,rfl,rfl⟩
theorem cmpI_eqz{x y:Int}:FU x y=0↔x=y:=by unfold FU;split<;>(try split)<;>omega
theorem cmpI_ltz{x y:Int}:FU x y<0↔x<y:=by unfold FU;split<;>(try split)<;>omega
theorem cmpL_zero:∀{a b:List Int},Ew a b=0↔a=b
 |[],[]=>by simp[Ew]
 |[],_::_=>by simp[Ew]
 |_::_,[]=>by simp[Ew]
 |x::a,y::b=>by
  rw[Ew,Ci];by_cases h:FU x y=0
  ·rw[AI (by simp[h]),cmpL_zero,cmpI_eqz.1 h];simp
  ·rw[Ab h]
   exact⟨λe=>absurd e h,λe=>absurd (cmpI_eqz.2 e.1) h⟩
theorem Mw:∀{a b c:List Int},Ew a b<0->Ew b c<0->Ew a c<0
 |[],[],_,h,_=>by simp[Ew]at h
 |[],_::_,[],_,h=>by simp[Ew]at h
 |[],_::_,_::_,_,_=>by simp[Ew]
 |_::_,[],_,h,_=>by simp[Ew]at h
 |_::_,_::_,[],_,h=>by simp[Ew]at h
 |x::a,y::b,z::c,h1,h2=>by
  rw[Ew]at h1 h2⊢;by_cases e1:FU x y=0
  ·have e1':=cmpI_eqz.1 e1
   subst e1';rw[AI (by simp[e1])]at h1;by_cases e2:FU x z=0
   ·rw[AI (by simp[e2])]at h2⊢
    exact Mw h1 h2
   ·rw[Ab e2]at h2⊢
    exact h2
  ·rw[Ab e1]at h1
   have l1:=cmpI_ltz.1 h1;by_cases e2:FU y z=0
   ·have e2':=cmpI_eqz.1 e2
    subst e2';rw[Ab e1];exact h1
   ·rw[Ab e2]at h2
    have l2:=cmpI_ltz.1 h2;have l3:FU x z<0:=cmpI_ltz.2 (by omega);rw[Ab (by omega)];exact l3
theorem Sw:∀{a b:List Int},¬Ew a b<0->a≠b->Ew b a<0
 |[],[],_,h=>absurd rfl h
 |[],_::_,h,_=>absurd (by simp[Ew]) h
 |_::_,[],_,_=>by simp[Ew]
 |x::a,y::b,h,hne=>by
  rw[Ew]at h⊢;by_cases e:FU x y=0
  ·have e':=cmpI_eqz.1 e
   subst e';rw[AI (by simp[e])]at h⊢;exact Sw h λe2=>hne (by rw[e2])
  ·rw[Ab e]at h
   have hxy:x≠y:=λe2=>e (cmpI_eqz.2 e2)
   have:¬x<y:=λl=>h (cmpI_ltz.2 l)
   have l:FU y x<0:=cmpI_ltz.2 (by omega);rw[Ab (by omega)];exact l
structure Ar where
 A:Nat
 G:Nat
 Tb:Nat
 O:Nat
 Tv:Nat
 K:AV->Value->Prop
 g:Int->Option Value
 c:Nat
 kinds:List Kind
 gens:List Int
 ts:List Tab
def Cl(ts:List Tab):List AR:=ts.flatMap IP
abbrev arH(a:Ar):List AR:=[(a.A,.row 115 4 [.agg [BZ false false a.kinds,.sl a.G 0 a.gens.length,.sl a.Tb 0 a.ts.length,.mp a.O]]),(a.G,.row 3 1 (a.gens.map iA)),(a.O,.ob (MapF prog 3 117 a.g a.c)),(a.Tv,.tv a.K),(a.Tb,.row 117 1 (ptrs Tab.X a.ts))]
abbrev arS(a:Ar):List AR:=arH a++Cl a.ts
theorem Ls(a b:List Tab):Cl (a++b)=Cl a++Cl b:=Gg
theorem WY(t:Tab)(b:List Tab):Cl (t::b)=IP t++Cl b:=Bj
theorem GO{l1 l2:List Tab}{t:Tab}(R:List AR):(Cl (l1++t::l2)++R).Perm (IP t++(Cl l1++(Cl l2++R))):=by
 rw[Ls,WY,Aq,Aq];exact EG _ _ _
abbrev Cw(ts:List Tab):List Int:=ts.flatMap λt=>Am t.es
def EB(t:Tab):List Item:=t.es.map λe=>⟨e.2,BH t e.1⟩
def B5(ts:List Tab):List Item:=ts.flatMap EB
structure ArOK(a:Ar):Prop where
 tab:∀t∈a.ts,TabOK t
 ord:a.ts.Pairwise λt u=>Ew t.ks u.ks<0
 keys:(Cw a.ts).Nodup
 ent:∀t∈a.ts,∀e∈t.es,e.1=e.2.n
 g:∀n u,a.g n=some u->∃t∈a.ts,n∈Am t.es/\a.K (.ptr t.X 0 0) u/\∃b:Nat,u= .pointer (some ⟨b,0,none⟩)
 gn:∀n∈Cw a.ts,(a.g n).isSome=true
 cnt:a.c=(Cw a.ts).length
theorem ArOK.lt{a:Ar}(h:ArOK a):∀n∈Cw a.ts,0<=n/\n<256:=λn hn=>by
 obtain⟨t,ht,hm⟩:=CG.1 hn;exact(h.tab t ht).es.lt n hm
theorem ArOK.c_le{a:Ar}(h:ArOK a):a.c<=256:=by rw[h.cnt];exact VF h.keys h.lt
def If(ts:List Tab):Prop:=∀t∈ts,t.es≠[]
theorem ArOK.ts_le{a:Ar}(h:ArOK a)(hne:If a.ts):a.ts.length<=256:=by
 refine Bh ?_ h.c_le;rw[h.cnt,Cw,List.length_flatMap]
 have:∀ts:List Tab,(∀t∈ts,t.es≠[])->ts.length<=(ts.map λt=>(Am t.es).length).sum:=by
  intro ts
  induction ts with
  |nil=>intro _;simp
  |cons t ts ih=>
   intro hh;have h1:=ih λt ht=>hh t (by simp[ht])
   have h2:0<(Am t.es).length:=by rw[AD];exact Gf.2 (hh t (by simp))
   simp only[Bl,Aa,List.sum_cons];omega
 exact this a.ts hne
theorem ArOK.mono{a:Ar}(h:ArOK a)(ks:List Int):Oy (λt:Tab=>Ew t.ks ks) a.ts:=by
 intro i j x y hij hx hy hg;rcases Nat.lt_or_eq_of_le hij with hlt|rfl
 ·obtain⟨hi,rfl⟩:=AE.1 hx
  obtain⟨hj,rfl⟩:=AE.1 hy;exact Mw (CJ.1 h.ord i j hi hj hlt) hg
 ·rw[hx]at hy
  injection hy with hy
  subst hy;exact hg
theorem f7{ts:List Tab}{t:Tab}{ks:List Int}(h:ts.Pairwise λt u=>Ew t.ks u.ks<0)(hm:Oy (λt:Tab=>Ew t.ks ks) ts)(hf:Found (λt:Tab=>Ew t.ks ks) ts (i,false))(ht:t.ks=ks):(ts.take i++t::ts.drop i).Pairwise λt u=>Ew t.ks u.ks<0:=by
 obtain⟨hlo,hhi⟩:=hf.mono hm;have heq:=hf.eq;dsimp only at hlo hhi heq
 have h1:∀x∈ts.take i,Ew x.ks ks<0:=λx hx=>by
  obtain⟨j,hj,rfl⟩:=Em.1 hx;exact hlo j _ (by omega) (AX (by omega))
 have h2:∀x∈ts.drop i,Ew ks x.ks<0:=λx hx=>by
  obtain⟨j,hj,rfl⟩:=H2.1 hx;rw[Cx]at hj;rw[List.getElem_drop];have hg:ts[i+j]?=some ts[i+j]:=AX (by omega);have hn:=hhi (i+j) _ (by omega) hg;refine Sw hn λe=>?_
  cases j with
  |zero=>
   have:(false:Bool)=true:=heq.2 ⟨ts[i],AX (by omega),cmpL_zero.2 e⟩;cases this
  |succ j=>
   have hi':ts[i]?=some ts[i]:=AX (by omega);have h3:=CJ.1 h i (i+(j+1)) (by omega) (by omega) (by omega);rw[e]at h3;exact hhi i _ (AT _) hi' h3
 rw[CL];refine⟨h.sublist (List.take_sublist _ _),Al.2 ⟨λx hx=>by rw[ht];exact h2 x hx,h.sublist (List.drop_sublist _ _)⟩,λx hx y hy=>?_⟩;rcases AP.1 hy with rfl|hy
 ·rw[ht];exact h1 x hx
 ·exact Mw (h1 x hx) (h2 y hy)
theorem Ei(a b:List Tab):Cw (a++b)=Cw a++Cw b:=Gg
theorem FC(t:Tab)(b:List Tab):Cw (t::b)=Am t.es++Cw b:=Bj
theorem D8(a b:List Tab):B5 (a++b)=B5 a++B5 b:=Gg
theorem EO(t:Tab)(b:List Tab):B5 (t::b)=EB t++B5 b:=Bj
theorem ArOK.newT{a:Ar}(h:ArOK a){t:Tab}{i Y:Nat}(ht:TabOK t)(he:t.es=[])(hf:Found (λu:Tab=>Ew u.ks t.ks) a.ts (i,false)):ArOK {a with Tb:=Y,ts:=a.ts.take i++t::a.ts.drop i}:=by
 have hk:Cw (a.ts.take i++t::a.ts.drop i)=Cw a.ts:=by
  rw[Ei,FC,he]
  conv=>rhs;rw[<-B8 i a.ts,Ei]
  rfl
 have hm:∀u,u∈a.ts.take i++t::a.ts.drop i↔u=t\/u∈a.ts:=λu=>by
  conv=>rhs;rw[<-B8 i a.ts]
  simp only[Eq,Df];constructor
  ·rintro(h|h|h)
   ·exact .inr (.inl h)
   ·exact .inl h
   ·exact .inr (.inr h)
  ·rintro(h|h|h)
   ·exact .inr (.inl h)
   ·exact .inl h
   ·exact .inr (.inr h)
 refine⟨λu hu=>?_,f7 h.ord (h.mono _) hf rfl,by rw[hk];exact h.keys,λu hu=>?_,λn u hg=>?_,λn hn=>h.gn n (by rw[hk]at hn;exact hn),by rw[hk];exact h.cnt⟩
 ·rcases(hm u).1 hu with rfl|hu
  ·exact ht
  ·exact h.tab u hu
 ·rcases(hm u).1 hu with rfl|hu
  ·rw[he];intro e he;cases he
  ·exact h.ent u hu
 ·obtain⟨w,hw,h2⟩:=h.g n u hg
  exact⟨w,(hm w).2 (.inr hw),h2⟩
theorem XO{ts:List Tab}{t:Tab}(he:t.es=[]):B5 (ts.take i++t::ts.drop i)=B5 ts:=by
 rw[D8,EO,EB,he]
 conv=>rhs;rw[<-B8 i ts,D8]
 rfl
theorem aX{ts:List Tab}{t:Tab}(he:t.es=[]):Cw (ts.take i++t::ts.drop i)=Cw ts:=by
 rw[Ei,FC,he]
 conv=>rhs;rw[<-B8 i ts,Ei]
 rfl
structure CsUp(n:Int)(l:List Comp)(i:Nat)(cs cs':List (StK×List (Int×List Int))):Prop where
 len:cs'.length=cs.length
 X:∀j (h:j<cs.length) (h':j<cs'.length),cs'[j].1.X=cs[j].1.X
 c:∀j (h:j<cs.length) (h':j<cs'.length),cs'[j].2=if j<i then Dd cs[j].2 n ((l[j]?.map (·.vals)).getD [])else cs[j].2
theorem CsUp.zero(n:Int)(l:List Comp)(cs:List (StK×List (Int×List Int))):CsUp n l 0 cs cs:=⟨rfl,λ_ _ _=>rfl,λj h h'=>by rw[AI (by omega)]⟩
theorem CsUp.ptrs{cs cs':List (StK×List (Int×List Int))}(h:CsUp n l i cs cs'):cs'.map (λc=>AV.ptr c.1.X 0 0)=cs.map (λc=>AV.ptr c.1.X 0 0):=by
 refine EA (by simp[h.len]) λj h1 h2=>?_
 rw[Gp,Gp,h.X j (by simpa using h2) (by simpa using h1)]
theorem CsUp.next{cs cs':List (StK×List (Int×List Int))}(h:CsUp n l i cs cs'){l1 l2:List (StK×List (Int×List Int))}{c:StK×List (Int×List Int)}{v:List Int}(e:cs'=l1++c::l2)(h1:l1.length=i)(hv:l[i]?.map (·.vals)=some v)(k:StK)(hk:k.X=c.1.X):CsUp n l (i+1) cs (l1++(k,Dd c.2 n v)::l2):=by
 have hlen:=h.len;have hl:cs'.length=l1.length+(l2.length+1):=by rw[e];simp
 have hi':i<cs'.length:=by omega
 have hc:cs'[i]=c:=by
  have:cs'[i]?=some c:=by rw[e,BX (by omega),h1,Co];rfl
  rw[AX hi']at this;injection this
 have hold:∀j (hj:j<cs'.length),j≠i->(l1++(k,Dd c.2 n v)::l2)[j]'(by simp;omega)=cs'[j]:=λj hj hne=>by
  have h3:(l1++(k,Dd c.2 n v)::l2)[j]?=cs'[j]?:=by
   rw[e];by_cases hji:j<i
   ·rw[Bw (by omega),Bw (by omega)]
   ·rw[BX (by omega),BX (by omega),show j-l1.length=(j-i-1)+1 by omega]
    rfl
  rw[AX hj,AX (by simp;omega)]at h3;injection h3
 have hnew:(l1++(k,Dd c.2 n v)::l2)[i]'(by simp;omega)=(k,Dd c.2 n v):=by
  have h3:(l1++(k,Dd c.2 n v)::l2)[i]?=some (k,Dd c.2 n v):=by rw[BX (by omega),h1,Co];rfl
  rw[AX (by simp;omega)]at h3;injection h3
 refine⟨by simp;omega,λj hj hj'=>?_,λj hj hj'=>?_⟩
 ·by_cases hne:j=i
  ·subst hne
   rw[hnew,hk,<-hc];exact h.X j hj hi'
  ·rw[hold j (by omega) hne]
   exact h.X j hj (by omega)
 ·by_cases hne:j=i
  ·subst hne
   have:=h.c j hj hi';rw[AI (by omega),hc]at this;rw[hnew,Ab (by omega),hv,this];rfl
  ·rw[hold j (by omega) hne,h.c j hj (by omega)]
   by_cases hji:j<i
   ·rw[Ab hji,Ab (by omega)]
   ·rw[AI hji,AI (by omega)]
section
section
variable {t:Tab}{e:Ent}{l:List Comp}{cs:List (StK×List (Int×List Int))}{k:StK}
abbrev upT(t:Tab)(k:StK)(e:Ent)(cs:List (StK×List (Int×List Int))):Tab:=⟨t.X,t.ks,k,Dd t.es e.n e,cs⟩
theorem CsUp.at{l:List Comp}{cs cs':List (StK×List (Int×List Int))}(h:CsUp n l i cs cs'){c:StK×List (Int×List Int)}(hc:c∈cs'):∃j,∃h1:j<cs.length,∃h2:j<cs'.length,cs'[j]=c:=by
 obtain⟨j,hj,rfl⟩:=Bv hc;exact⟨j,by rw[<-h.len];exact hj,hj,rfl⟩
theorem TabOK.up(h:TabOK t)(hn:0<=e.n/\e.n<256)(hf:e.n∉Am t.es)(hu:CsUp e.n l t.cs.length t.cs cs):TabOK (upT t k e cs):=by
 refine⟨by rw[hu.len];exact h.len,h.ks,h.es.put hn e,λc hc=>?_,λc hc n=>?_⟩
 ·obtain⟨j,h1,h2,rfl⟩:=hu.at hc
  rw[hu.c j h1 h2,Ab h1];exact(h.cs _ (As h1)).put hn _
 ·obtain⟨j,h1,h2,rfl⟩:=hu.at hc
  have hk:=h.keys _ (As h1);have hfc:e.n∉Am t.cs[j].2:=λhm=>hf ((hk _).1 hm)
  rw[hu.c j h1 h2,Ab h1];show n∈Am (Dd _ _ _)↔n∈Am (Dd t.es e.n e)
  rw[Fq hfc,Fq hf,Am,Am,AK,AK,Eq,Eq];exact or_congr (hk n) (by simp)
theorem Wb(h:TabOK t)(hn:0<=e.n/\e.n<256)(hu:CsUp e.n l t.cs.length t.cs cs)(hne:n≠e.n):BH (upT t k e cs) n=BH t n:=by
 have hlen:=h.len;have hl:=hu.len;refine EA (by simp[BH];omega) λi h1 h2=>?_
 have hc:i<t.cs.length:=by simp[BH]at h2;omega
 have hk:i<t.ks.length:=by omega
 rw[Hg h2 hk hc,Hg (t:=upT t k e cs) h1 hk (by show i<cs.length;omega)];show(⟨_,(Fl (cs[i]'(by omega)).2 n).getD []⟩:Comp)=_
 rw[hu.c i hc (by omega),Ab hc,Lu (h.cs _ (As hc)) hn,AI hne]
theorem Wc(h:TabOK t)(hn:0<=e.n/\e.n<256)(hks:t.ks=l.map (·.kind))(hu:CsUp e.n l t.cs.length t.cs cs):BH (upT t k e cs) e.n=l:=by
 have hlen:=h.len;have hl:=hu.len;have hkl:t.ks.length=l.length:=by rw[hks,AD]
 refine EA (by simp[BH];omega) λi h1 h2=>?_
 have hc:i<t.cs.length:=by omega
 have hk:i<t.ks.length:=by omega
 rw[Hg (t:=upT t k e cs) h1 hk (by show i<cs.length;omega)];show(⟨t.ks[i],(Fl (cs[i]'(by omega)).2 e.n).getD []⟩:Comp)=_
 rw[hu.c i hc (by omega),Ab hc,Lu (h.cs _ (As hc)) hn,Ab rfl,AX h2];have:t.ks[i]=l[i].kind:=by simp[hks]
 rw[this];rfl
theorem Ze(h:TabOK t)(hn:0<=e.n/\e.n<256)(hf:e.n∉Am t.es)(hks:t.ks=l.map (·.kind))(hu:CsUp e.n l t.cs.length t.cs cs):EB (upT t k e cs)=EB t++[⟨e,l⟩]:=by
 unfold EB;show(Dd t.es e.n e).map _=_
 rw[Fq hf,AK,Aa,CO,Wc h hn hks hu]
 congr 1
 refine EF λp hp=>?_
 rw[Wb h hn hu];intro e2;exact hf (by rw[<-e2];exact Ag.2 ⟨p,hp,rfl⟩)
end
theorem ArOK.up{a:Ar}{l1 l2:List Tab}{t:Tab}{cs:List (StK×List (Int×List Int))}{k:StK}{K':AV->Value->Prop}{b:Nat}(h:ArOK a)(hts:a.ts=l1++t::l2)(hn:0<=e.n/\e.n<256)(hf:e.n∉Cw a.ts)(hu:CsUp e.n l t.cs.length t.cs cs)(hK:∀v u,a.K v u->K' v u)(hKt:K' (.ptr t.X 0 0) (.pointer (some ⟨b,0,none⟩))):
  ArOK {a with ts:=l1++upT t k e cs::l2,K:=K',g:=H4 a.g e.n (.pointer (some ⟨b,0,none⟩)),c:=a.c+1}:=by
 have htm:t∈a.ts:=by rw[hts];simp
 have hft:e.n∉Am t.es:=λhm=>hf (CG.2 ⟨t,htm,hm⟩)
 have hmem:∀u,u∈l1++upT t k e cs::l2->u=upT t k e cs\/u∈a.ts:=λu hu=>by
  rw[hts];rcases AL.1 hu with hu|hu
  ·exact .inr (by simp[hu])
  ·rcases AP.1 hu with hu|hu
   ·exact .inl hu
   ·exact .inr (by simp[hu])
 have hke:Am (Dd t.es e.n e)=Am t.es++[e.n]:=by rw[Fq hft,Am,AK];rfl
 have hkeys:(Cw (l1++upT t k e cs::l2)).Perm (e.n::Cw a.ts):=by
  rw[hts,Ei,FC,Ei,FC];show(Cw l1++(Am (Dd t.es e.n e)++Cw l2)).Perm _
  rw[hke,Aq]
  have:(Cw l1++(Am t.es++([e.n]++Cw l2))).Perm ([e.n]++(Cw l1++(Am t.es++Cw l2))):=by
   refine((EG (Am t.es) [e.n] (Cw l2)).append_left (Cw l1)).trans ?_;exact EG _ _ _
  exact this
 refine⟨λu hu'=>?_,?_,hkeys.nodup_iff.2 (Bu.2 ⟨hf,h.keys⟩),λu hu'=>?_,λn u hg=>?_,λn hn'=>?_,?_⟩
 ·rcases hmem u hu' with rfl|hu'
  ·exact(h.tab t htm).up hn hft hu
  ·exact h.tab u hu'
 ·have ho:=h.ord
  rw[hts]at ho;rw[CL,Al]at ho⊢
  exact⟨ho.1,⟨λx hx=>ho.2.1.1 x hx,ho.2.1.2⟩,λx hx y hy=>by
   rcases AP.1 hy with rfl|hy
   ·exact ho.2.2 x hx t (by simp)
   ·exact ho.2.2 x hx y (by simp[hy])⟩
 ·rcases hmem u hu' with rfl|hu'
  ·intro p hp
   have hp:p∈Dd t.es e.n e:=hp;rw[Fq hft]at hp;rcases AL.1 hp with hp|hp
   ·exact h.ent t htm p hp
   ·rw[DC]at hp
    subst hp;rfl
  ·exact h.ent u hu'
 ·replace hg:(if n=e.n then some (Value.pointer (some ⟨b,0,none⟩))else a.g n)=some u:=hg
  split at hg
  ·rename_i e1
   subst e1;injection hg with hg
   subst hg;refine⟨upT t k e cs,by simp,?_,hKt,b,rfl⟩;show e.n∈Am (Dd t.es e.n e)
   rw[hke];simp
  ·obtain⟨w,hw,h2,h3,h4⟩:=h.g n u hg
   rw[hts]at hw;rcases AL.1 hw with hw|hw
   ·exact⟨w,by simp[hw],h2,hK _ _ h3,h4⟩
   ·rcases AP.1 hw with rfl|hw
    ·refine⟨upT w k e cs,by simp,?_,hK _ _ h3,h4⟩
     show n∈Am (Dd w.es e.n e)
     rw[hke];simp[h2]
    ·exact⟨w,by simp[hw],h2,hK _ _ h3,h4⟩
 ·have hn':=hkeys.mem_iff.1 hn'
  show(H4 a.g e.n _ n).isSome=true
  unfold H4;split
  ·rfl
  ·rename_i hne
   rcases AP.1 hn' with e2|hn'
   ·exact absurd e2 hne
   ·exact h.gn n hn'
 ·show a.c+1=_
  rw[hkeys.length_eq,Bl,h.cnt]
theorem dN{l1 l2:List Tab}{t:Tab}{cs:List (StK×List (Int×List Int))}{k:StK}(h:TabOK t)(hn:0<=e.n/\e.n<256)(hf:e.n∉Am t.es)(hks:t.ks=l.map (·.kind))(hu:CsUp e.n l t.cs.length t.cs cs):(B5 (l1++upT t k e cs::l2)).Perm (⟨e,l⟩::B5 (l1++t::l2)):=by
 rw[D8,EO,D8,EO,Ze h hn hf hks hu,Aq]
 have:(B5 l1++(EB t++([(⟨e,l⟩:Item)]++B5 l2))).Perm ([(⟨e,l⟩:Item)]++(B5 l1++(EB t++B5 l2))):=by
  refine((EG (EB t) [(⟨e,l⟩:Item)] (B5 l2)).append_left (B5 l1)).trans ?_;exact EG _ _ _
 exact this
theorem j9{l1 l2:List Tab}{t:Tab}{cs:List (StK×List (Int×List Int))}{k:StK}(h1:If l1)(h2:If l2)(hf:e.n∉Am t.es):If (l1++upT t k e cs::l2):=λu hu=>by
 rcases AL.1 hu with hu|hu
 ·exact h1 u hu
 ·rcases AP.1 hu with rfl|hu
  ·show Dd t.es e.n e≠[]
   rw[Fq hf];simp
  ·exact h2 u hu
end
section
section
variable {P:Program}{ro:Option Nat}{nt:Nat}{c:Code}{Q:Exit->St->Prop}{T:List (Nat×AV)}{S:List AR}
end
abbrev LC(n:Int)(c:StK×List (Int×List Int)):StK×List (Int×List Int):=(c.1,DD c.2 n)
abbrev HA(t:Tab)(n:Int):Tab:=⟨t.X,t.ks,t.ek,DD t.es n,t.cs.map (LC n)⟩
theorem TabOK.down{t:Tab}(h:TabOK t)(n:Int):TabOK (HA t n):=by
 refine⟨by rw[AD];exact h.len,h.ks,h.es.drop n,λc hc=>?_,λc hc m=>?_⟩
 ·obtain⟨d,hd,rfl⟩:=Ag.1 hc
  exact(h.cs d hd).drop n
 ·obtain⟨d,hd,rfl⟩:=Ag.1 hc
  show m∈Am (DD d.2 n)↔m∈Am (DD t.es n)
  rw[G5 (h.cs d hd),G5 h.es,h.keys d hd]
theorem OV{t:Tab}(h:TabOK t){n m:Int}(hne:m≠n):BH (HA t n) m=BH t m:=by
 have hlen:=h.len;refine EA (by simp[BH]) λi h1 h2=>?_
 have hc:i<t.cs.length:=by simp[BH]at h2;omega
 have hk:i<t.ks.length:=by omega
 rw[Hg h2 hk hc,Hg (t:=HA t n) h1 hk (by rw[AD];exact hc)];show(⟨_,(Fl ((t.cs.map (LC n))[i]'(by rw[AD];exact hc)).2 m).getD []⟩:Comp)=_
 rw[Gp];show(⟨_,(Fl (DD t.cs[i].2 n) m).getD []⟩:Comp)=_
 rw[Wh (h.cs _ (As hc)) hne]
theorem Un{t:Tab}(h:TabOK t)(hm:(n,e)∈t.es):(EB t).Perm (⟨e,BH t n⟩::EB (HA t n)):=by
 have hp:=F9 h.es hm;have h1:=hp.map λp:Int×Ent=>(⟨p.2,BH t p.1⟩:Item)
 refine h1.trans ?_;rw[Aa];refine A9 _ (C8 ?_);show _=(DD t.es n).map λp=>(⟨p.2,BH (HA t n) p.1⟩:Item)
 refine EF λp hp'=>?_
 have hk:p.1∈Am (DD t.es n):=Ag.2 ⟨p,hp',rfl⟩;rw[OV h ((G5 h.es).1 hk).2]
theorem ArOK.uniq{a:Ar}(h:ArOK a){t u:Tab}(ht:t∈a.ts)(hu:u∈a.ts)(h1:n∈Am t.es)(h2:n∈Am u.es):t=u:=by
 obtain⟨l1,l2,e⟩:=JU ht;have hk:=h.keys;rw[e,Ei,FC]at hk;rw[e]at hu;rcases AL.1 hu with hu|hu
 ·have:n∈Cw l1:=CG.2 ⟨u,hu,h2⟩
  exact absurd rfl ((AW.1 hk).2.2 n this n (TK _ h1))
 ·rcases AP.1 hu with rfl|hu
  ·rfl
  ·have:n∈Cw l2:=CG.2 ⟨u,hu,h2⟩
   exact absurd rfl ((AW.1 (AW.1 hk).2.1).2.2 n h1 n this)
theorem bD{a:Ar}(h:ArOK a){l1 l2:List Tab}{t:Tab}(hts:a.ts=l1++t::l2)(hm:(n,e)∈t.es):(Cw a.ts).Perm (n::Cw (l1++HA t n::l2)):=by
 have hto:=h.tab t (by rw[hts];simp);have hp:=(F9 hto.es hm).map (·.1);rw[hts,Ei,FC,Ei,FC];have h1:(Cw l1++(Am t.es++Cw l2)).Perm (Cw l1++((n::Am (DD t.es n))++Cw l2)):=(hp.append_right _).append_left _;exact h1.trans (EG (Cw l1) [n] (Am (DD t.es n)++Cw l2))
theorem ArOK.down{a:Ar}(h:ArOK a){l1 l2:List Tab}{t:Tab}(hts:a.ts=l1++t::l2)(hm:(n,e)∈t.es):ArOK {a with ts:=l1++HA t n::l2,g:=KL a.g n,c:=a.c-1}:=by
 have htm:t∈a.ts:=by rw[hts];simp
 have hto:=h.tab t htm;have hkp:=bD h hts hm
 have hmem:∀u,u∈l1++HA t n::l2->u=HA t n\/u∈a.ts:=λu hu=>by
  rw[hts];rcases AL.1 hu with hu|hu
  ·exact .inr (by simp[hu])
  ·rcases AP.1 hu with hu|hu
   ·exact .inl hu
   ·exact .inr (by simp[hu])
 have hnd:=hkp.nodup_iff.1 h.keys;have hnk:n∈Am t.es:=Ag.2 ⟨_,hm,rfl⟩;refine⟨λu hu=>?_,?_,(Bu.1 hnd).2,λu hu=>?_,λm u hg=>?_,λm hm'=>?_,?_⟩
 ·rcases hmem u hu with rfl|hu
  ·exact hto.down n
  ·exact h.tab u hu
 ·have ho:=h.ord
  rw[hts]at ho;rw[CL,Al]at ho⊢
  exact⟨ho.1,⟨λx hx=>ho.2.1.1 x hx,ho.2.1.2⟩,λx hx y hy=>by
   rcases AP.1 hy with rfl|hy
   ·exact ho.2.2 x hx t (by simp)
   ·exact ho.2.2 x hx y (by simp[hy])⟩
 ·rcases hmem u hu with rfl|hu
  ·intro p hp
   have:p∈t.es:=(F9 hto.es hm).mem_iff.2 (Db _ hp);exact h.ent t htm p this
  ·exact h.ent u hu
 ·replace hg:(if m=n then none else a.g m)=some u:=hg
  split at hg
  ·cases hg
  ·rename_i hne
   obtain⟨w,hw,h2,h3,h4⟩:=h.g m u hg;rw[hts]at hw;rcases AL.1 hw with hw|hw
   ·exact⟨w,by simp[hw],h2,h3,h4⟩
   ·rcases AP.1 hw with rfl|hw
    ·refine⟨HA w n,by simp,?_,h3,h4⟩
     exact(G5 hto.es).2 ⟨h2,hne⟩
    ·exact⟨w,by simp[hw],h2,h3,h4⟩
 ·have hm2:m∈Cw a.ts:=hkp.mem_iff.2 (Db _ hm')
  have hne:m≠n:=λe=>(Bu.1 hnd).1 (by subst e;exact hm')
  show(KL a.g n m).isSome=true
  unfold KL;rw[AI hne];exact h.gn m hm2
 ·show a.c-1=(Cw (l1++HA t n::l2)).length
  have:=hkp.length_eq;rw[Bl]at this;have:=h.cnt;omega
theorem ArOK.less{a:Ar}(h:ArOK a){l1 l2:List Tab}{t:Tab}{Y:Nat}(hts:a.ts=l1++t::l2)(he:t.es=[]):ArOK {a with Tb:=Y,ts:=l1++l2}:=by
 have hk:Cw a.ts=Cw (l1++l2):=by rw[hts,Ei,FC,he,Ei];rfl
 have hmem:∀u,u∈l1++l2->u∈a.ts:=λu hu=>by
  rw[hts];rcases AL.1 hu with hu|hu<;>simp[hu]
 refine⟨λu hu=>h.tab u (hmem u hu),?_,by rw[<-hk];exact h.keys,λu hu=>h.ent u (hmem u hu),λm u hg=>?_,λm hm=>h.gn m (by rw[hk];exact hm),by rw[<-hk];exact h.cnt⟩
 ·have ho:=h.ord
  rw[hts]at ho;exact ho.sublist ((DY l1).append (PU t l2))
 ·obtain⟨w,hw,h2,h3⟩:=h.g m u hg
  rw[hts]at hw;rcases AL.1 hw with hw|hw
  ·exact⟨w,by simp[hw],h2,h3⟩
  ·rcases AP.1 hw with rfl|hw
   ·rw[he]at h2;cases h2
   ·exact⟨w,by simp[hw],h2,h3⟩
theorem QL{a:Ar}(h:ArOK a){l1 l2:List Tab}{t:Tab}(hts:a.ts=l1++t::l2)(hm:(n,e)∈t.es):(B5 a.ts).Perm (⟨e,BH t n⟩::B5 (l1++HA t n::l2)):=by
 have hto:=h.tab t (by rw[hts];simp);rw[hts,D8,EO,D8,EO];refine(((Un hto hm).append_right _).append_left _).trans ?_;exact EG (B5 l1) [(⟨e,BH t n⟩:Item)] (EB (HA t n)++B5 l2)
theorem XP{l1 l2:List Tab}{t:Tab}(he:t.es=[]):B5 (l1++t::l2)=B5 (l1++l2):=by
 rw[D8,EO,EB,he,D8];rfl
end
theorem dv(k:StK)(l:List (Int×Ent)):Spec prog 280 [.ptr k.X 0 0] (stE k l) λr S'=>r=iA (l.length:Nat)/\S'=stE k l:=by
 refine Sp (nt:=8) (res:=[.tmp 2]) func280 λSf=>?_
 refine R1 ?_;refine JM ?_;exact Ends.sp [iA (l.length:Nat)] (stE k l) ⟨rfl,rfl⟩
theorem dZ(k:StK)(l:List (Int×Ent))(hl:ColOK l)(n:Int)(hn:I64 n)(v:Ent)(hg:Fl l n=some v):Spec prog 275 [.ptr k.X 0 0,iA n] (stE k l) λr S'=>r= .tup [CI v,bA true]/\S'=stE k l:=by
 have hlen:=hl.len;have hk:n∈Am l:=F8 λh=>by rw[Hh h]at hg;cases hg
 obtain⟨u,hv⟩:=Iy hk;have hi:=Ix hk;have hg2:Fl l n=some u:=by unfold Fl;rw[hv];rfl
 rw[hg]at hg2;injection hg2 with hg2
 subst hg2;have hat:(l.map λe=>CI e.2)[(Am l).idxOf n]?=some (CI v):=by rw[Ac,hv];rfl
 have hix:=F7 hk;obtain⟨i,hi2⟩:=nm ((Am l).idxOf n);rw[hi2]at hi hat hix;have h1:(ixG (Am l) n).getD (.int .i64 0)= .int .i64 (i:Nat):=by rw[hix];rfl
 have h2:(ixG (Am l) n).isSome=true:=by rw[hix];rfl
 refine Sp (nt:=28) (res:=[.cell 4 32,.tmp 5]) func275 λSf=>?_
 refine JG ?_;refine Ai λZ=>?_;refine JB ?_
 refine JD ?_;(iterate 5 refine WO ?_);refine Ad ?_ (Hz _ _ h1 h2 hn rfl rfl (by exact Az));refine JE ?_;refine JA ?_;refine AB rfl rfl ?_;refine JD ?_;(iterate 5 refine WO ?_);refine Ad ?_ (W.idx rfl rfl (by exact Az) rfl (by omega) (Ao _));refine JE ?_;refine RT ?_;exact Ends.sp [CI v,bA true] (stE k l) ⟨rfl,rfl⟩
theorem dm(k:StK)(l:List (Int×Ent))(hl:ColOK l)(n:Int)(hn:I64 n):Spec prog 278 [.ptr k.X 0 0,iA n] (stE k l) λr S'=>r=iA (if n∈Am l then 0 else 4)/\S'=stE k (DD l n):=by
 have hlen:=hl.len;by_cases hk:n∈Am l
 ·rw[Ab hk]
  obtain⟨u,hu⟩:=Iy hk;have hi:=Ix hk;obtain⟨⟨en,ev⟩,he⟩:=PJ (l:=l) (by omega);have hdl:=Pg hk;have hdr:DD l n=(l.set ((Am l).idxOf n) (en,ev)).take (l.length-1):=by unfold DD;rw[Ab hk,he]
  rw[hdr]at hdl⊢;have hix:=F7 hk;obtain⟨i,hi2⟩:=nm ((Am l).idxOf n);rw[hi2]at hi hu hix hdl⊢;have hkl:(Am l).length=l.length:=AD _;have hki:(Am l)[i]?=some n:=by rw[Am,Ac,hu];rfl
  have hke:(Am l)[(Am l).length-1]?=some en:=by rw[hkl,Am,Ac,he];rfl
  have hgd:=VX hl.nd hki hke;have h1:(ixG (Am l) n).getD (.int .i64 0)= .int .i64 (i:Nat):=by rw[hix];rfl
  have h2:(ixG (Am l) n).isSome=true:=by rw[hix];rfl
  have hem:en∈Am l:=B0 hke;have hen:=hl.lt en hem;have h3:(ixG (Am l) en).isSome=true:=by rw[F7 hem];rfl
  have hsz:(if(ixG (Am l) en).isSome then l.length else l.length+1)=l.length:=by rw[h3];rfl
  have h4:(H4 (ixG (Am l)) en (.int .i64 (i:Nat)) n).isSome=true:=by
   unfold H4;split
   ·rfl
   ·exact h2
  have hsz2:(if(H4 (ixG (Am l)) en (.int .i64 (i:Nat)) n).isSome then l.length else l.length)=l.length:=by split<;>rfl
  have hsz3:(if(H4 (ixG (Am l)) en (.int .i64 (i:Nat)) n).isSome then l.length-1 else l.length)=l.length-1:=by rw[h4];rfl
  have hmx:l.length<maxLen:=by unfold maxLen;omega
  have hmi:i<maxLen:=by unfold maxLen;omega
  have hr1:(l.map λe=>iA e.1)[l.length-1]?=some (iA en):=by rw[Ac,he];rfl
  have hv1:(l.map λe=>CI e.2)[l.length-1]?=some (CI ev):=by rw[Ac,he];rfl
  have hrs:(l.map λe=>iA e.1).set i (iA en)=(l.set i (en,ev)).map λe=>iA e.1:=by rw[BK]
  have hvs:(l.map λe=>CI e.2).set i (CI ev)=(l.set i (en,ev)).map λe=>CI e.2:=by rw[BK]
  have hri:((l.set i (en,ev)).map λe=>iA e.1)[i]?=some (iA en):=by rw[Ac,BU hi];rfl
  have hrl:(l.map λe=>iA e.1).length=l.length:=AD _;have hvl:(l.map λe=>CI e.2).length=l.length:=AD _
  have hvz:((l.map λe=>CI e.2).set i (CI ev))[l.length-1]?=some (CI ev):=by
   rw[hvs];rw[Ac];by_cases h:i=l.length-1
   ·rw[<-h,BU hi];rfl
   ·rw[CX h,he];rfl
  have hvt:(((l.map λe=>CI e.2).set i (CI ev)).set (l.length-1) (CI ⟨0,0⟩)).take (l.length-1)=((l.set i (en,ev)).take (l.length-1)).map λe=>CI e.2:=by
   rw[hvs];rw[List.take_set_of_le (AT _),D9]
  have hrt:((l.set i (en,ev)).map λe=>iA e.1).take (l.length-1)=((l.set i (en,ev)).take (l.length-1)).map λe=>iA e.1:=by rw[D9]
  have hkt:ixG (((Am l).set i en).take ((Am l).length-1))=ixG (Am ((l.set i (en,ev)).take (l.length-1))):=by
   rw[hkl,Am,Am,D9,BK]
  refine Sp (nt:=94) (res:=[.tmp 4]) func278 λSf=>?_
  refine R1 ?_;refine JD ?_;(iterate 5 refine WO ?_);refine Ad ?_ (Hz _ _ h1 h2 hn rfl rfl (by exact Az));refine JE ?_;refine JA ?_;refine AB rfl rfl ?_;refine JD ?_;(iterate 5 refine WO ?_);refine Ad ?_ (CB ((l.length-1:Nat):Int) (by omega) (by omega) rfl rfl);refine JB ?_;refine FL ?_;refine RU ?_;(repeat first|(refine OR ?_;first|refine BT ?_ (W.idx (a:=l.length-1) rfl rfl (by exact Az) rfl (by omega) (Ao _))|refine BT ?_ (W.idx (a:=i) rfl rfl (by exact Az) rfl (by omega) (Ao _)))|(refine IH ?_;first|refine BT ?_ (W.idx (a:=l.length-1) rfl rfl (by exact Az) rfl (by omega) (Ao _))|refine BT ?_ (W.idx (a:=i) rfl rfl (by exact Az) rfl (by omega) (Ao _)))|refine RK ?_|refine RGo.nil (by kernel_rfl) ?_);rw[hrs];refine FL ?_;refine RU ?_;(iterate 9 refine RK ?_);refine BT ?_ (W.idx (a:=i) rfl rfl (by exact Az) rfl (by omega) (Ao _));refine JK ?_;refine H0 ?_ (W.mapUpd (PlainV.int (by kernel_rfl) (LY (by omega))) (by omega) hmx rfl rfl rfl (by exact Az));refine RGo.nil (by kernel_rfl) ?_;rw[hsz];refine JD ?_;(iterate 5 refine WO ?_);refine Lo ?_ (W.mapDel hn rfl rfl (by exact Az));refine NL ?_;rw[hsz3,hgd];refine JI ?_;refine Ai λZ=>?_;refine NL ?_
  refine FL ?_;refine RU ?_;(iterate 6 refine RK ?_);refine BT ?_ (W.idx (a:=l.length-1) rfl rfl (by exact Az) rfl (by omega) (Ao _));refine RK ?_;refine RGo.nil (by kernel_rfl) ?_;refine FL ?_;refine RU ?_;(repeat first|(refine OR ?_;first|refine BT ?_ (W.hi (a:=l.length-1) rfl rfl (by exact Az) rfl (by omega)))|(refine IH ?_;first|refine BT ?_ (W.hi (a:=l.length-1) rfl rfl (by exact Az) rfl (by omega)))|refine RK ?_|refine RGo.nil (by kernel_rfl) ?_);refine JF ?_;refine FF (X:=k.V) (l.length-1) ?_;refine FF (X:=k.R) (l.length-1) ?_;refine BQ k.M ?_;refine BQ k.R ?_;refine BQ k.V ?_;refine BQ k.X ?_;refine RT ?_;exact Ends.sp [iA 0] _ ⟨rfl,Wg (n:=l.length-1) (m:=l.length-1) (c:=l.length-1) hdl.symm hdl.symm hvt hrt hkt hdl.symm⟩
 ·rw[AI hk,KA hk]
  have hix:=Kl hk;have h1:(ixG (Am l) n).getD (.int .i64 0)= .int .i64 0:=by rw[hix];rfl
  have h2:(ixG (Am l) n).isSome=false:=by rw[hix];rfl
  refine Sp (nt:=94) (res:=[.tmp 4]) func278 λSf=>?_
  refine R1 ?_;refine JD ?_;(iterate 5 refine WO ?_);refine Ad ?_ (Hz _ _ h1 h2 hn rfl rfl (by exact Az));refine JE ?_;refine JA ?_;refine An rfl rfl ?_;refine JC ?_;exact Ends.sp [iA 4] (stE k l) ⟨rfl,rfl⟩
theorem dk(k:StK)(l:List (Int×List Int))(hl:ColOK l)(n:Int)(hn:I64 n):Spec prog 279 [.ptr k.X 0 0,iA n] (stS k l) λr S'=>r=iA (if n∈Am l then 0 else 4)/\S'=stS k (DD l n):=by
 have hlen:=hl.len;by_cases hk:n∈Am l
 ·rw[Ab hk]
  obtain⟨u,hu⟩:=Iy hk;have hi:=Ix hk;obtain⟨⟨en,ev⟩,he⟩:=PJ (l:=l) (by omega);have hdl:=Pg hk;have hdr:DD l n=(l.set ((Am l).idxOf n) (en,ev)).take (l.length-1):=by unfold DD;rw[Ab hk,he]
  rw[hdr]at hdl⊢;have hix:=F7 hk;obtain⟨i,hi2⟩:=nm ((Am l).idxOf n);rw[hi2]at hi hu hix hdl⊢;have hkl:(Am l).length=l.length:=AD _;have hki:(Am l)[i]?=some n:=by rw[Am,Ac,hu];rfl
  have hke:(Am l)[(Am l).length-1]?=some en:=by rw[hkl,Am,Ac,he];rfl
  have hgd:=VX hl.nd hki hke;have h1:(ixG (Am l) n).getD (.int .i64 0)= .int .i64 (i:Nat):=by rw[hix];rfl
  have h2:(ixG (Am l) n).isSome=true:=by rw[hix];rfl
  have hem:en∈Am l:=B0 hke;have hen:=hl.lt en hem;have h3:(ixG (Am l) en).isSome=true:=by rw[F7 hem];rfl
  have hsz:(if(ixG (Am l) en).isSome then l.length else l.length+1)=l.length:=by rw[h3];rfl
  have h4:(H4 (ixG (Am l)) en (.int .i64 (i:Nat)) n).isSome=true:=by
   unfold H4;split
   ·rfl
   ·exact h2
  have hsz2:(if(H4 (ixG (Am l)) en (.int .i64 (i:Nat)) n).isSome then l.length else l.length)=l.length:=by split<;>rfl
  have hsz3:(if(H4 (ixG (Am l)) en (.int .i64 (i:Nat)) n).isSome then l.length-1 else l.length)=l.length-1:=by rw[h4];rfl
  have hmx:l.length<maxLen:=by unfold maxLen;omega
  have hmi:i<maxLen:=by unfold maxLen;omega
  have hr1:(l.map λe=>iA e.1)[l.length-1]?=some (iA en):=by rw[Ac,he];rfl
  have hv1:(l.map λe=>Av false e.2)[l.length-1]?=some (Av false ev):=by rw[Ac,he];rfl
  have hrs:(l.map λe=>iA e.1).set i (iA en)=(l.set i (en,ev)).map λe=>iA e.1:=by rw[BK]
  have hvs:(l.map λe=>Av false e.2).set i (Av false ev)=(l.set i (en,ev)).map λe=>Av false e.2:=by rw[BK]
  have hri:((l.set i (en,ev)).map λe=>iA e.1)[i]?=some (iA en):=by rw[Ac,BU hi];rfl
  have hrl:(l.map λe=>iA e.1).length=l.length:=AD _;have hvl:(l.map λe=>Av false e.2).length=l.length:=AD _
  have hvz:((l.set i (en,ev)).map λe=>Av false e.2)[l.length-1]?=some (Av false ev):=by
   rw[Ac];by_cases h:i=l.length-1
   ·rw[<-h,BU hi];rfl
   ·rw[CX h,he];rfl
  have hvt:(((l.set i (en,ev)).map λe=>Av false e.2).set (l.length-1) (.prim (.slice none 0 0))).take (l.length-1)=((l.set i (en,ev)).take (l.length-1)).map λe=>Av false e.2:=by
   rw[List.take_set_of_le (AT _),D9]
  have hrt:((l.set i (en,ev)).map λe=>iA e.1).take (l.length-1)=((l.set i (en,ev)).take (l.length-1)).map λe=>iA e.1:=by rw[D9]
  have hkt:ixG (((Am l).set i en).take ((Am l).length-1))=ixG (Am ((l.set i (en,ev)).take (l.length-1))):=by
   rw[hkl,Am,Am,D9,BK]
  refine Sp (nt:=94) (res:=[.tmp 4]) func279 λSf=>?_
  refine R1 ?_;refine JD ?_;(iterate 5 refine WO ?_);refine Ad ?_ (Hz _ _ h1 h2 hn rfl rfl (by exact Az));refine JE ?_;refine JA ?_;refine AB rfl rfl ?_;refine JD ?_;(iterate 5 refine WO ?_);refine Ad ?_ (CB ((l.length-1:Nat):Int) (by omega) (by omega) rfl rfl);refine JB ?_;refine FL ?_;refine RU ?_;(repeat first|(refine OR ?_;first|refine BT ?_ (W.idx (a:=l.length-1) rfl rfl (by exact Az) rfl (by omega) (Ao _))|refine BT ?_ (W.idx (a:=i) rfl rfl (by exact Az) rfl (by omega) (Ao _)))|(refine IH ?_;first|refine BT ?_ (W.idx (a:=l.length-1) rfl rfl (by exact Az) rfl (by omega) (Ao _))|refine BT ?_ (W.idx (a:=i) rfl rfl (by exact Az) rfl (by omega) (Ao _)))|refine RK ?_|refine RGo.nil (by kernel_rfl) ?_);rw[hrs,hvs];refine FL ?_;refine RU ?_;(iterate 9 refine RK ?_);refine BT ?_ (W.idx (a:=i) rfl rfl (by exact Az) rfl (by omega) (Ao _));refine JK ?_;refine H0 ?_ (W.mapUpd (PlainV.int (by kernel_rfl) (LY (by omega))) (by omega) hmx rfl rfl rfl (by exact Az));refine RGo.nil (by kernel_rfl) ?_;rw[hsz];refine JD ?_;(iterate 5 refine WO ?_);refine Lo ?_ (W.mapDel hn rfl rfl (by exact Az));refine NL ?_;rw[hsz3,hgd];refine JA ?_;refine RG ?_;(iterate 6 refine WO ?_);refine Ad ?_ (W.idx (a:=l.length-1) rfl rfl (by exact Az) rfl (by omega) (Ao _));refine JB ?_;refine FL ?_;refine RU ?_;(repeat first|(refine OR ?_;first|refine BT ?_ (W.hi (a:=l.length-1) rfl rfl (by exact Az) rfl (by omega)))|(refine IH ?_;first|refine BT ?_ (W.hi (a:=l.length-1) rfl rfl (by exact Az) rfl (by omega)))|refine RK ?_|refine RGo.nil (by kernel_rfl) ?_);refine JF ?_;refine FF (X:=k.V) (l.length-1) ?_;refine FF (X:=k.R) (l.length-1) ?_;refine BQ k.M ?_;refine BQ k.R ?_;refine BQ k.V ?_;refine BQ k.X ?_;refine RT ?_;exact Ends.sp [iA 0] _ ⟨rfl,Wf (n:=l.length-1) (m:=l.length-1) (c:=l.length-1) hdl.symm hdl.symm hvt hrt hkt hdl.symm⟩
 ·rw[AI hk,KA hk]
  have hix:=Kl hk;have h1:(ixG (Am l) n).getD (.int .i64 0)= .int .i64 0:=by rw[hix];rfl
  have h2:(ixG (Am l) n).isSome=false:=by rw[hix];rfl
  refine Sp (nt:=94) (res:=[.tmp 4]) func279 λSf=>?_
  refine R1 ?_;refine JD ?_;(iterate 5 refine WO ?_);refine Ad ?_ (Hz _ _ h1 h2 hn rfl rfl (by exact Az));refine JE ?_;refine JA ?_;refine An rfl rfl ?_;refine JC ?_;exact Ends.sp [iA 4] (stS k l) ⟨rfl,rfl⟩
theorem XR(X V n i:Nat)(l:List AV)(e:AV)(hn:n=l.length)(hi:i<=n)(hb:(n+1)*8<=140737488355328)(hfr:FreeL l)(hfe:FreeE e)(hw:∀x∈l,x.width=1)(hwe:e.width=1)(hze:AV.frzs [e]=[e]):
  Spec prog 123 [.sl X 0 n,iA i,.sl V 0 1] [(X,.row 117 1 l),(V,.row 117 1 [e])] λr S'=>r= .lst true 117 1 (l.take i++e::l.drop i)/\S'=[]:=by
 refine Sp (nt:=95) (res:=[.tmp 6]) func123 λSf=>?_
 have hfV:FreeL [e]:=λx hx=>by rw[AY.1 hx];exact hfe
 have hwV:∀x∈[e],x.width=1:=λx hx=>by rw[AY.1 hx];exact hwe
 refine R1 ?_;refine JG ?_;refine WO ?_;refine AOps.p (W.slice_lo rfl rfl (by exact Az) rfl (by omega)) rfl ?_;refine NL ?_;refine R1 ?_;refine R1 ?_;refine AB rfl rfl ?_;refine R1 ?_;refine R1 ?_;by_cases hin:i=n
 ·refine An rfl (BP (by omega)) ?_
  refine KW 2 [e] hze ?_;have hbb:(n+[e].length)*8<=140737488355328:=hb;refine KK ?_;refine Ay λY=>?_;refine KK ?_
  refine RT ?_;have hm:n+[e].length=(l++[e]).length:=by rw[AJ,hn]
  have hr:l++[e]=l.take i++e::l.drop i:=by rw[hin,hn,Bg,CY]
  rw[<-hr];exact⟨[.sl Y 0 (n+[e].length)],[.lst true 117 1 (l++[e])],_,[],.cons (.tmp rfl) rfl .nil,.cons (.cell (.sl (p:=0) .here hm)) .nil,by exact BL,rfl,rfl⟩
 ·refine AB rfl (Au (by omega)) ?_
  refine AWP.cap X λZ c u0 hc hnc=>?_
  refine RG ?_;(iterate 4 refine WO ?_);refine AOps.p (W.cap hc rfl (by exact Az) (by exact Az)) rfl ?_;refine JB ?_;refine AC rfl (λhg=>?_) (λhg=>?_)
  ·have hcn:c<n+1:=by rw[AS]at hg;omega
   refine CN λY=>?_
   refine RG ?_;(repeat first|(refine Bm ?_;first|refine AOps.p (W.hi (a:=i) rfl rfl (by exact Az) rfl hi) rfl ?_|refine AOps.p (CB ((n+1-i:Nat):Int) (by omega) (by omega) rfl rfl) rfl ?_|refine DO (iB (n+1-i) hc rfl rfl (by exact Az) (by exact Az) (by exact Az) rfl (by exact .inr rfl) (by rfl) (by kernel_rfl) (by omega) (by omega) (by decide) (by omega) (by omega) hfr) rfl ?_)|refine WO ?_|refine Ai λX=>?_|refine Ay λY=>?_);have hsum:i+(n+1-i)=n+1:=by omega
   obtain⟨l1,hl1⟩:=nm (l.take i++List.replicate (n+1-i) (zAV [.pointer none] false));have hti:(l.take i).length=i:=by rw[Ba];omega
   have hl1n:l1.length=n+1:=by rw[<-hl1,AJ,hti,Dr,hsum]
   have hfr1:FreeL l1:=λx hx=>by
    rw[<-hl1]at hx;rcases AL.1 hx with hx|hx
    ·exact hfr x (BN hx)
    ·rw[Do hx]
     exact FreeE.prim _
   have htk:l1.take i=l.take i:=by rw[<-hl1,D4 hti]
   rw[hl1,hsum];refine JI ?_;refine WO ?_;refine AOps.p (W.slice_lo rfl rfl (by exact Az) rfl (by omega)) rfl ?_;refine WO ?_;refine DO (W.copyO 1 rfl rfl (by exact Az) (by exact Az) (by rfl) (by omega) (by omega) (by omega) (by omega) (by exact AT _) hfr1 hfV hwV) rfl ?_;obtain⟨l2,hl2⟩:=nm (l1.take (0+i)++([e].drop 0).take 1++l1.drop (0+i+1));rw[hl2];have hl2n:l2.length=n+1:=by rw[<-hl2];simp only[AJ,Ba,Cx,BM];omega
   have hfr2:FreeL l2:=λx hx=>by
    rw[<-hl2]at hx;rcases AL.1 hx with hx|hx
    ·rcases AL.1 hx with hx|hx
     ·exact hfr1 x (BN hx)
     ·exact hfV x (BW (BN hx))
    ·exact hfr1 x (BW hx)
   have htk2:l2.take (0+(i+1))=l.take i++[e]:=by
    rw[<-hl2,Ao,Ao,htk];exact D4 (by simp[hti])
   refine FL ?_;refine RU ?_;(iterate 3 refine RK ?_);refine BT ?_ (Cc ((i+1:Nat):Int) (by omega) (by omega) rfl rfl);refine BT ?_ (W.slice_lo rfl rfl (by exact Az) rfl (by omega));refine JK ?_;refine BT ?_ (W.slice_lo rfl rfl (by exact Az) rfl (by omega));refine H0 ?_ (W.copyO (n-i) rfl rfl (by exact Az) (by exact Az) (by rfl) (by omega) (by omega) (by omega) (by omega) (by omega) hfr2 hfr hw);refine RGo.nil (by kernel_rfl) ?_;obtain⟨l3,hl3⟩:=nm (l2.take (0+(i+1))++(l.drop (0+i)).take (n-i)++l2.drop (0+(i+1)+(n-i)));rw[hl3]
   have hr:l3=l.take i++e::l.drop i:=by
    have e1:l2.drop (0+(i+1)+(n-i))=[]:=DF (by omega);have e2:(l.drop (0+i)).take (n-i)=l.drop i:=by rw[Ao];exact Aj (by rw[Cx];omega)
    rw[<-hl3,htk2,e1,e2,A8,Aq];rfl
   have hm:n+1=l3.length:=by
    rw[hr];simp only[AJ,Bl,Cx,hti];omega
   refine JC ?_;rw[<-hr];exact⟨[.sl Y 0 (n+1)],[.lst true 117 1 l3],_,[],.cons (.tmp rfl) rfl .nil,.cons (.cell (.sl (p:=0) .here hm)) .nil,by exact BL,rfl,rfl⟩
  ·have hcn:n+1<=c:=by rw[AZ]at hg;omega
   refine RG ?_;(iterate 4 refine WO ?_);refine AOps.p (eH (n+1) hc rfl rfl (by exact Az) (by exact Az) (by omega) hcn) rfl ?_;refine JB ?_;refine RG ?_;(iterate 4 refine WO ?_);refine AOps.p (Cc ((i+1:Nat):Int) (by omega) (by omega) rfl rfl) rfl ?_;refine AOps.p (W.slice_lo rfl rfl (by exact Az) rfl (by omega)) rfl ?_;refine AOps.p (W.over (t:=113) (tR:=4) func171 (by kernel_rfl) (by kernel_rfl) (by kernel_rfl) (by kernel_rfl) rfl rfl (by exact Az) (by exact Az) (by rfl) (by decide) (by omega) (by omega)) rfl ?_;refine WO ?_;refine FL ?_;refine An rfl rfl ?_;refine RU ?_;(iterate 3 refine RK ?_);refine BT ?_ (Cc ((i+1:Nat):Int) (by omega) (by omega) rfl rfl);refine BT ?_ (W.slice_lo rfl rfl (by exact Az) rfl (by omega));refine JK ?_;refine BT ?_ (W.slice_lo rfl rfl (by exact Az) rfl (by omega));refine H0 ?_ (W.copyS (n-i) rfl rfl (by exact Az) (by omega) (by omega) (by omega) (by omega) (by omega) hfr hw);refine RGo.nil (by kernel_rfl) ?_;have hti:(l.take i).length=i:=by rw[Ba];omega
   obtain⟨l1,hl1⟩:=nm (l.take (0+(i+1))++(l.drop (0+i)).take (n-i)++l.drop (0+(i+1)+(n-i)));rw[hl1];have hti1:(l.take (i+1)).length=i+1:=by rw[Ba];omega
   have hl1e:l1=l.take (i+1)++l.drop i:=by
    have e1:l.drop (0+(i+1)+(n-i))=[]:=DF (by omega);have e2:(l.drop (0+i)).take (n-i)=l.drop i:=by rw[Ao];exact Aj (by rw[Cx];omega)
    rw[<-hl1,e1,e2,A8,Ao]
   have hfr1:FreeL l1:=λx hx=>by
    rw[hl1e]at hx;rcases AL.1 hx with hx|hx
    ·exact hfr x (BN hx)
    ·exact hfr x (BW hx)
   have hl1n:l1.length=n+1:=by rw[hl1e,AJ,hti1,Cx];omega
   have htk:l1.take i=l.take i:=by rw[hl1e,DV (by omega),EP,B6 (by omega)]
   have hdr:l1.drop (i+1)=l.drop i:=by rw[hl1e,Ra hti1]
   refine JG ?_;refine WO ?_;refine AOps.p (W.slice_lo rfl rfl (by exact Az) rfl (by omega)) rfl ?_;refine WO ?_;refine DO (W.copyO 1 rfl rfl (by exact Az) (by exact Az) (by rfl) (by omega) (by omega) (by omega) (by omega) (by exact AT _) hfr1 hfV hwV) rfl ?_;obtain⟨l2,hl2⟩:=nm (l1.take (0+i)++([e].drop 0).take 1++l1.drop (0+i+1));rw[hl2]
   have hr:l2=l.take i++e::l.drop i:=by
    rw[<-hl2,Ao,htk,hdr,Aq];rfl
   have hm:n+1=l2.length:=by
    rw[hr];simp only[AJ,Bl,Cx,hti];omega
   refine FL ?_;refine JC ?_;rw[<-hr];exact⟨[.sl X 0 (n+1)],[.lst true 117 1 l2],_,[],.cons (.tmp rfl) rfl .nil,.cons (.cell (.sl (p:=1) (.next .here) hm)) .nil,by exact BL,rfl,rfl⟩
end Go.Proofs.YtmkahplhnbbgmaaGreat
