/-
  Part 6 of the texts under the law TopMarks: the layer of abstract values, walks and plain laws. Conditions: those that each theorem names.
-/
import Derived.Test.YtmkahplhnbbgmaaGreatTopMarksP5
namespace Go.Proofs.YtmkahplhnbbgmaaGreat
open Tryz
set_option linter.unusedVariables false
set_option linter.unusedSimpArgs false
set_option linter.defProp false
set_option maxRecDepth 10000
set_option maxHeartbeats 4000000
variable {ks:List Kind}
variable {w:Wd}
variable {l:List Comp}
variable {cs:List Comp}
variable {i:Nat}
variable {s:Sys}
variable {α:Type}
variable {index:Int}
variable {e:Ent}
variable {n:Int}
def Fc(ks:List Kind)(c:Cmd):List Comp×Int:=
 if c.act=0 then(if c.comps.length=1 then EO ks c.comps else([],3))else
 if c.act=1 then(if c.kind<0\/(ks.length:Int)<=c.kind then([],1)else([],0))else
 if c.act=2 then([],0)else if c.act=3 then EO ks c.comps else([],1)
def HX(ks:List Kind):List Cmd->Int
 |[]=>0
 |c::l=>if(Fc ks c).2=0 then HX ks l else(Fc ks c).2
def Py(w:Wd)(l:List Cmd):Int:=if FD w≠0 then FD w else if 131072<l.length then 2 else HX w.kinds l
theorem Nq:∀{l:List Cmd},HX ks l=0↔∀c∈l,(Fc ks c).2=0
 |[]=>by simp[HX]
 |c::l=>by
  rw[HX];split
  ·rename_i h
   rw[Nq,List.forall_mem_cons];exact⟨λg=>⟨h,g⟩,λg=>g.2⟩
  ·rename_i h
   rw[List.forall_mem_cons];exact⟨λg=>absurd g h,λg=>absurd g.1 h⟩
theorem cmdErr_iff{l:List Cmd}:Py w l=0↔WdOK w/\l.length<=131072/\∀c∈l,(Fc w.kinds c).2=0:=by
 unfold Py;split
 ·rename_i h
  exact⟨λe=>absurd e h,λe=>absurd ((Cg w).2 e.1) h⟩
 ·rename_i h
  have h:FD w=0:=DU.1 h;split
  ·rename_i h2
   exact⟨λe=>(by cases e),λe=>(by omega)⟩
  ·rename_i h2
   rw[Nq];exact⟨λe=>⟨(Cg w).1 h,by omega,e⟩,λe=>e.2.2⟩
def Ir(w v:Wd)(e:Int):Wd:=if e=0 then v else w
def Iq(w:Wd)(c:Cmd):Wd×Ent×Bool:=
 if c.act=0 then(Ir w (GC w c.ent (c.comps.getD 0 ⟨0,[]⟩)).1 (GC w c.ent (c.comps.getD 0 ⟨0,[]⟩)).2,⟨0,0⟩,decide ((GC w c.ent (c.comps.getD 0 ⟨0,[]⟩)).2=0))else
 if c.act=1 then(Ir w (Ie w c.ent c.kind).1 (Ie w c.ent c.kind).2,⟨0,0⟩,decide ((Ie w c.ent c.kind).2=0))else
 if c.act=2 then(Ir w (HJ w c.ent).1 (HJ w c.ent).2,⟨0,0⟩,decide ((HJ w c.ent).2=0))else
 (Ir w (Fy w c.comps).1 (Fy w c.comps).2.2,(Fy w c.comps).2.1,decide ((Fy w c.comps).2.2=0))
def GE:Wd->List Cmd->Wd×List Ent×List Bool
 |w,[]=>(w,[],[])
 |w,c::l=>((GE (Iq w c).1 l).1,(if(Iq w c).2.2=true/\c.act=3 then(Iq w c).2.1::(GE (Iq w c).1 l).2.1 else(GE (Iq w c).1 l).2.1),(Iq w c).2.2::(GE (Iq w c).1 l).2.2)
theorem Q1{c:Comp}(hk:CB ks=0)(h:(EO ks [c]).2=0):M6 ks c:=by
 unfold EO at h;rw[AM (by simp[hk])]at h;split at h
 ·rename_i h1;exact absurd h h1
 ·rename_i h1
  have h1:(E8 ks [] [] [c]).2=0:=DU.1 h1;rw[E8]at h1;split at h1
  ·cases h1
  ·rename_i g1
   rw[AM (by simp)]at h1;split at h1
   ·cases h1
   ·rename_i k hk2
    split at h1
    ·rename_i g2;exact absurd h1 g2
    ·rename_i g2
     exact⟨by omega,by omega,k,hk2,DU.1 g2⟩
theorem Pf:∀{l pre out:List Comp},(E8 ks pre out l).2=0->(∀a∈out,∃k,ks[a.kind.toNat]?=some k/\Do k a.vals=true)->∀a∈(E8 ks pre out l).1,∃k,ks[a.kind.toNat]?=some k/\Do k a.vals=true
 |[],pre,out,h,h1=>h1
 |c::l,pre,out,h,h1=>by
  rw[E8]at h⊢;split at h
  ·cases h
  ·rename_i g1
   rw[AM g1];split at h
   ·cases h
   ·rename_i g2
    rw[AM g2];split at h
    ·cases h
    ·rename_i k hk
     split at h
     ·rename_i g3;exact absurd h g3
     ·rename_i g3
      (try simp only[hk])
      rw[AM g3];refine Pf h λa ha=>?_
      rcases AL.1 ha with ha|ha
      ·exact h1 a ha
      ·rw[AW.1 ha]
       exact⟨k,hk,(Gc (DU.1 g3)).1⟩
theorem Kb(h:(EO ks l).2=0):Cb ks (EO ks l).1=true:=by
 unfold EO at h⊢;split at h
 ·rename_i h1;exact absurd h h1
 ·rename_i h1
  rw[AM h1];split at h
  ·rename_i h2;exact absurd h h2
  ·rename_i h2
   rw[AM h2];have h2:(E8 ks [] [] l).2=0:=DU.1 h2;obtain⟨p1,p2⟩:=Pe h2 (λ_ h=>by cases h) .nil (λ_ h=>by cases h);have p3:=Pf h2 (λ_ h=>by cases h);refine held_iff.2 ⟨Sj p1,λc hc=>?_⟩;have hc:=(J7 _).mem_iff.1 hc;exact⟨(p2 c hc).1,(p2 c hc).2,p3 c hc⟩
theorem W7(hw:WdOK w){c:Cmd}(hc:(Fc w.kinds c).2=0):WdOK (Iq w c).1/\(Iq w c).1.kinds=w.kinds:=by
 have hs:∀v e,(e=0->WdOK v/\v.kinds=w.kinds)->WdOK (Ir w v e)/\(Ir w v e).kinds=w.kinds:=λv e h=>by
  unfold Ir;split
  ·rename_i h1;exact h h1
  ·exact⟨hw,rfl⟩
 have hf:∀e,(Em w.items e<0)\/∃(i:Nat) (it:Item),w.items[i]?=some it/\it.ent=e:=λe=>by
  by_cases hlt:Em w.items e<0
  ·exact .inl hlt
  ·obtain⟨m,hm⟩:∃m:Nat,Em w.items e=m:=⟨(Em w.items e).toNat,by omega⟩
   obtain⟨x,hx,_,rfl⟩:=KF hm;exact .inr ⟨m,x,hx,rfl⟩
 unfold Iq;unfold Fc at hc;split
 ·rename_i h1
  rw[AY h1]at hc;split at hc
  ·rename_i h2
   obtain⟨d,hd⟩:=Gh.1 h2;rw[hd]at hc⊢;refine hs _ _ λhe=>?_
   rcases hf c.ent with h|⟨i,it,hi,rfl'⟩
   ·exfalso
    replace he:(GC w c.ent d).2=0:=he;unfold GC at he;rw[AM (by simp[(Cg w).2 hw]),AY h]at he;cases he
   ·rw[<-rfl']
    have hfo:=Q1 hw.ks hc;show WdOK (GC w it.ent d).1/\(GC w it.ent d).1.kinds=_
    rw[ZU hw hi hfo];exact⟨ZT hw hi hfo,rfl⟩
  ·cases hc
 ·rename_i h1
  rw[AM h1]at hc;split
  ·rename_i h2
   refine hs _ _ λhe=>?_
   rcases hf c.ent with h|⟨i,it,hi,rfl'⟩
   ·exfalso
    unfold Ie at he;rw[AM (by simp[(Cg w).2 hw]),AY h]at he;cases he
   ·rw[<-rfl']at he⊢
    rw[Rh hw hi]at he⊢;split at he
    ·rename_i h3
     rw[AY h3];exact⟨Lq hw hi (RZ (hw.it it (Bb hi)).2.2.2.2),rfl⟩
    ·cases he
  ·rename_i h2
   rw[AM h2]at hc;split
   ·rename_i h3
    refine hs _ _ λhe=>?_
    rcases hf c.ent with h|⟨i,it,hi,rfl'⟩
    ·exfalso
     unfold HJ at he;rw[AM (by simp[(Cg w).2 hw]),AY h]at he;cases he
    ·rw[<-rfl']at he⊢
     rw[RV hw hi];exact⟨Wr hw hi,rfl⟩
   ·rename_i h3
    rw[AM h3]at hc;split at hc
    ·refine hs _ _ λhe=>?_
     obtain⟨cs,hcs⟩:∃cs,EO w.kinds c.comps=(cs,0):=⟨(EO w.kinds c.comps).1,Prod.ext rfl hc⟩;have hh:=Kb hc;rw[hcs]at hh;cases hfr:(DI w).2 with
     |true=>
      rw[U6 hw hfr hcs];exact⟨On hw hfr hh,rfl⟩
     |false=>
      exfalso;unfold Fy at he;rw[AM (by simp[(Cg w).2 hw]),AM (by simp[hc]),AY hfr]at he;cases he
    ·cases hc
theorem Wh:∀{l:List Cmd} {w:Wd},WdOK w->(∀c∈l,(Fc w.kinds c).2=0)->WdOK (GE w l).1/\(GE w l).1.kinds=w.kinds
 |[],w,hw,_=>⟨hw,rfl⟩
 |c::l,w,hw,hc=>by
  obtain⟨h1,h2⟩:=W7 hw (hc c (by simp));obtain⟨h3,h4⟩:=Wh (l:=l) h1 λd hd=>by rw[h2];exact hc d (by simp[hd])
  exact⟨h3,h4.trans h2⟩
theorem UV{k:Int}{c:Comp}(h:i<cs.length)(e:cs[i]=c):DW (cs.drop i) k=if c.kind=k then some c else DW (cs.drop (i+1)) k:=by
 rw[D9 h,e];unfold DW;rw[QY];by_cases e:c.kind=k<;>simp[e]
theorem cF(ks:List Kind)(s:Sys)(e:Ent)(cs:List Comp)(r:UInt64×UInt64)(K mk E me:Nat)(index k:Int)(hl:cs.length<=1099511627776):PS prog 197 [.fp (Qe ks s e (B3 false false cs) r (.sl K 0 mk) (.sl E 0 me) index).cells,iA k] (Av false (Ln cs k)):=by
 have hcm:(cs.map (AZ false)).length=cs.length:=AH _;obtain⟨res,hres⟩:=nm (DW cs k);unfold Ln;rw[hres];refine Sp (nt:=36) (res:=[.tmp 4]) func197 λSf=>?_
 refine KK ?_;refine B8 (λi:Nat=>⟨[(0,.fp (Qe ks s e (B3 false false cs) r (.sl K 0 mk) (.sl E 0 me) index).cells),(1,iA k),(11,iA (cs.map (AZ false)).length),(12,iA i)],Sf⟩) (λi=>i<=cs.length/\DW (cs.drop i) k=res) (λi=>cs.length-i) 0 ⟨Ap _,hres⟩ ?_;rintro i ⟨hi,hr⟩;refine KK ?_;refine AC rfl (λhc=>?_) (λhc=>?_)
 ·have h:i<cs.length:=by rw[Aj,hcm]at hc;omega
  obtain⟨⟨ck,cv⟩,hce⟩:=nm (cs[i]);rw[UV h hce]at hr;dsimp only at hr;have hat:(cs.map (AZ false))[i]?=some (AZ false ⟨ck,cv⟩):=by rw[Ae,Af h,hce];rfl
  have him:i<(cs.map (AZ false)).length:=by omega
  refine KK ?_;by_cases e:ck=k
  ·rw[AY e]at hr
   subst hr;refine Aq rfl (BG e) ?_;refine JA ?_;refine Ag ?_;rfl
  ·rw[AM e]at hr
   refine AB rfl (Az e) ?_;refine KK ?_;refine BM (i+1) ⟨h,hr⟩
 ·have h:i=cs.length:=by rw[Ao,hcm]at hc;omega
  rw[h,Dk]at hr;have hr:res=none:=hr.symm;subst hr;refine JA ?_;exact DA [.prim (.slice none 0 0)] [Av false []] (.cons (.cell .nil) .nil)
def fB(cs:List Comp)(a:Arg):Prop:=a.has=true->0<=a.ref.field/\a.ref.field<(Ln cs a.ref.kind).length
theorem a7(ks:List Kind)(s:Sys)(e:Ent)(cs:List Comp)(r:UInt64×UInt64)(K mk E me:Nat)(index:Int)(a:Arg)(hl:cs.length<=1099511627776)(ha:fB cs a):PS prog 194 [.fp (Qe ks s e (B3 false false cs) r (.sl K 0 mk) (.sl E 0 me) index).cells,Dt a] (iA (Mq cs a)):=by
 obtain⟨ah,an,⟨rk,rf⟩⟩:=a;unfold Mq;refine Sp (nt:=19) (res:=[.tmp 4]) func194 λSf=>?_
 cases ah
 ·refine WK ?_;refine WK ?_;refine BS ?_;refine KK ?_
  refine AB rfl rfl ?_;refine JA ?_;refine Ag ?_;rfl
 ·obtain⟨h1,h2⟩:=ha rfl
  dsimp only at h1 h2;have hv:=cF ks s e cs r K mk E me index rk hl;obtain⟨l,hle⟩:=nm (Ln cs rk);rw[hle]at hv h2;obtain⟨j,hj⟩:∃j:Nat,rf=j:=⟨rf.toNat,by omega⟩;subst hj;have hjl:j<l.length:=by omega
  have hat:(l.map iA)[j]?=some (iA l[j]):=by rw[Ae,Af hjl];rfl
  have hlm:j<(l.map iA).length:=by rw[AH];exact hjl
  refine WK ?_;refine WK ?_;refine BS ?_;refine KK ?_;refine Aq rfl rfl ?_;refine RU ?_;(iterate 4 refine RK ?_);refine FO (h:=hv) (k:=?_);(iterate 6 refine RK ?_);refine RGo.nil (by kernel_rfl) ?_;refine RT ?_;refine Ag ?_;rw[AY rfl,hle,By,EH,Af hjl];rfl
def SS(cs:List Comp)(j V:Nat)(c:Comp):List AV:=(cs.map (AZ true)).set j (.agg [iA c.kind,.sl V 0 (c.vals.map iA).length])
theorem ZE(ks:List Kind)(s:Sys)(e:Ent)(cs:List Comp)(r:UInt64×UInt64)(K mk E me:Nat)(index:Int)(X C V j:Nat)(c:Comp)(hs:Ee cs)(hj:cs[j]?=some c)(hl:cs.length<=1099511627776):
  Spec prog 197 [.ptr X 0 0,iA c.kind] [(X,.row 235 16 [Qe ks s e (.sl C 0 cs.length) r (.sl K 0 mk) (.sl E 0 me) index]),(C,.row 42 2 (SS cs j V c))]
   λr' S'=>r'= .sl V 0 (c.vals.map iA).length/\S'=[(X,.row 235 16 [Qe ks s e (.sl C 0 cs.length) r (.sl K 0 mk) (.sl E 0 me) index]),(C,.row 42 2 (SS cs j V c))]:=by
 obtain⟨hjl,hje⟩:=AE.1 hj;have hrl:(SS cs j V c).length=cs.length:=by simp[SS]
 have hrj:(SS cs j V c)[j]?=some (.agg [iA c.kind,.sl V 0 (c.vals.map iA).length]):=BY (by simpa using hjl)
 have hri:∀i (h:i<j),(SS cs j V c)[i]?=some (AZ true (cs[i]'(by omega))):=λi h=>by
  unfold SS;rw[Ce (by omega),Ae,Af (by omega)];rfl
 have hne:∀i (h:i<j),(cs[i]'(by omega)).kind≠c.kind:=λi h=>by
  have:=Bt.1 hs i j (by omega) hjl h;rw[hje]at this;omega
 refine Sp (nt:=36) (res:=[.tmp 4]) func197 λSf=>?_
 refine KK ?_;refine B8 (λi:Nat=>⟨[(0,.ptr X 0 0),(1,iA c.kind),(11,iA cs.length),(12,iA i)],(X,.row 235 16 [Qe ks s e (.sl C 0 cs.length) r (.sl K 0 mk) (.sl E 0 me) index])::(C,.row 42 2 (SS cs j V c))::Sf⟩) (λi=>i<=j) (λi=>j-i) 0 (Ap _) ?_;rintro i hi;have hicl:i<cs.length:=by omega
 refine KK ?_;refine Aq rfl (BG (by omega)) ?_;by_cases e1:i=j
 ·subst e1
  have hat:=hrj;refine KK ?_;refine Aq rfl (BG rfl) ?_;refine JA ?_;exact Ends.sp [.sl V 0 (c.vals.map iA).length] [(X,_),(C,_)] ⟨rfl,rfl⟩
 ·have hij:i<j:=by omega
  have hat:=hri i hij;have hn:=hne i hij;obtain⟨⟨ck,cv⟩,hce⟩:=nm (cs[i]'(by omega));rw[hce]at hat hn;refine KK ?_;refine AB rfl (Az hn) ?_;refine KK ?_;refine BM (i+1) hij
abbrev Ow(ks:List Kind)(s:Sys)(e:Ent)(C n:Nat)(r:UInt64×UInt64)(K mk E me:Nat)(index:Int):AO:=.row 235 16 [Qe ks s e (.sl C 0 n) r (.sl K 0 mk) (.sl E 0 me) index]
theorem ZD(ks:List Kind)(s:Sys)(e:Ent)(C n:Nat)(r:UInt64×UInt64)(K mk E me:Nat)(index:Int)(X:Nat)(act a b:Int)(h0:0<=act)(h7:act<=7)(ha: -1099511627776<=a/\a<=1099511627776)(hb: -1099511627776<=b/\b<=1099511627776)(hr:r.2.toNat%2=1):
  PO prog 196 [.ptr X 0 0,iA act,iA a,iA b] X (Ow ks s e C n r K mk E me index) (iA (Gm act a b r).1) (Ow ks s e C n (Gm act a b r).2 K mk E me index):=by
 have hm:=eR a b;refine Sp (nt:=63) (res:=[.tmp 8]) func196 λSf=>?_
 rcases(show act=0\/act=1\/act=2\/act=3\/act=4\/act=5\/act=6\/act=7 by omega)with rfl|rfl|rfl|rfl|rfl|rfl|rfl|rfl
 ·refine KK ?_
  refine AB rfl rfl ?_;refine KK ?_;refine AB rfl rfl ?_;refine KK ?_;refine AB rfl rfl ?_;refine KK ?_;refine AB rfl rfl ?_;refine KK ?_;refine AB rfl rfl ?_;refine KK ?_;refine AB rfl rfl ?_;refine KK ?_;refine AB rfl rfl ?_;refine JA ?_;exact Ends.sp [iA a] [(X,_)] ⟨rfl,rfl⟩
 ·refine KK ?_
  refine Aq rfl rfl ?_;refine JA ?_;exact Ends.sp [iA (a+b)] [(X,_)] ⟨rfl,rfl⟩
 ·refine KK ?_
  refine AB rfl rfl ?_;refine KK ?_;refine Aq rfl rfl ?_
  (iterate 4 refine WK ?_);refine AI (BJ (a-b) rfl (by omega) rfl rfl) rfl ?_;refine KK ?_
  refine RT ?_;exact Ends.sp [iA (a-b)] [(X,_)] ⟨rfl,rfl⟩
 ·refine KK ?_
  refine AB rfl rfl ?_;refine KK ?_;refine AB rfl rfl ?_;refine KK ?_;refine Aq rfl rfl ?_;refine KK ?_;refine BP (h:=(hm ..)) (k:=?_);refine JA ?_;exact Ends.sp [iA (Xx a b)] [(X,_)] ⟨rfl,rfl⟩
 ·refine KK ?_
  refine AB rfl rfl ?_;refine KK ?_;refine AB rfl rfl ?_;refine KK ?_;refine AB rfl rfl ?_;refine KK ?_;refine Aq rfl rfl ?_;refine JA ?_;exact Ends.sp [iA (if b<a then b else a)] [(X,_)] ⟨rfl,rfl⟩
 ·refine KK ?_
  refine AB rfl rfl ?_;refine KK ?_;refine AB rfl rfl ?_;refine KK ?_;refine AB rfl rfl ?_;refine KK ?_;refine AB rfl rfl ?_;refine KK ?_;refine Aq rfl rfl ?_;refine JA ?_;exact Ends.sp [iA (if a<b then b else a)] [(X,_)] ⟨rfl,rfl⟩
 ·refine KK ?_
  refine AB rfl rfl ?_;refine KK ?_;refine AB rfl rfl ?_;refine KK ?_;refine AB rfl rfl ?_;refine KK ?_;refine AB rfl rfl ?_;refine KK ?_;refine AB rfl rfl ?_;refine KK ?_;refine Aq rfl rfl ?_;refine KK ?_;by_cases hab:a<b
  ·refine Aq rfl (BG hab) ?_
   refine JA ?_;exact Ends.sp [iA 1] [(X,_)] ⟨by unfold Gm;rw[AM (by decide),AM (by decide),AM (by decide),AM (by decide),AM (by decide),AY rfl,AY hab];rfl,by unfold Gm;rw[AM (by decide),AM (by decide),AM (by decide),AM (by decide),AM (by decide),AY rfl]⟩
  ·refine AB rfl (Az hab) ?_
   refine JA ?_;exact Ends.sp [iA 0] [(X,_)] ⟨by unfold Gm;rw[AM (by decide),AM (by decide),AM (by decide),AM (by decide),AM (by decide),AY rfl,AM hab];rfl,by unfold Gm;rw[AM (by decide),AM (by decide),AM (by decide),AM (by decide),AM (by decide),AY rfl]⟩
 ·refine KK ?_
  refine AB rfl rfl ?_;refine KK ?_;refine AB rfl rfl ?_;refine KK ?_;refine AB rfl rfl ?_;refine KK ?_;refine AB rfl rfl ?_;refine KK ?_;refine AB rfl rfl ?_;refine KK ?_;refine AB rfl rfl ?_;refine KK ?_;refine Aq rfl rfl ?_;refine KK ?_
  have hv:Gm 7 a b r=if a<1 then(0,r)else(((HT r a.toNat).1.toNat:Int),(HT r a.toNat).2):=by
   unfold Gm;rw[AM (by decide),AM (by decide),AM (by decide),AM (by decide),AM (by decide),AM (by decide),AY rfl]
  rw[hv];by_cases hab:a<1
  ·rw[AY hab]
   refine Aq rfl (BG hab) ?_;refine JA ?_;exact Ends.sp [iA 0] [(X,_)] ⟨rfl,rfl⟩
  ·rw[AM hab]
   obtain⟨q,hq⟩:∃q:Nat,a=q:=⟨a.toNat,by omega⟩;subst hq;rw[By];have hbl:=Yb r q (by omega) (by omega) hr;obtain⟨⟨x,r2⟩,hbe⟩:=nm (HT r q);rw[hbe]at hbl⊢;refine AB rfl (Az hab) ?_;refine JI ?_;refine BP (h:=(hbl ..)) (k:=?_);refine KO ?_;refine Ai λB=>?_;refine JE ?_
   refine R1 ?_;refine JA ?_;exact Ends.sp [iA x.toNat] [(X,Ow ks s e C n r2 K mk E me index)] ⟨rfl,rfl⟩
theorem O2(w:World):(binOp .neq 225 (.agg [Value.int .i64 0,Value.int .i64 0].toArray) (.agg [Value.int .i64 0,Value.int .i64 0].toArray)).run prog w= .ok (.bool false) w:=by kernel_rfl
theorem Rp(w:World):(binOp .neq 227 (.agg [Value.bool false,Value.int .i64 0,Value.int .i64 0,Value.int .i64 0].toArray) (.agg [Value.bool false,Value.int .i64 0,Value.int .i64 0,Value.int .i64 0].toArray)).run prog w= .ok (.bool false) w:=by kernel_rfl
structure ArgG(ks:List Kind)(reads writes:List Int)(a:Arg):Prop where
 yes:a.has=true->a.n=0/\Mv ks a.ref/\(reads.contains a.ref.kind=true\/writes.contains a.ref.kind=true)
 no:a.has=false-> -1099511627776<=a.n/\a.n<=1099511627776/\a.ref=⟨0,0⟩
structure OpG(ks:List Kind)(reads writes:List Int)(o:Op):Prop where
 lo:0<=o.act
 hi:o.act<=12
 a:ArgG ks reads writes o.a
 b:ArgG ks reads writes o.b
 one:LU o.act=false->o.b=Ju
 sets:Ki o.act=true->Mv ks o.to/\writes.contains o.to.kind=true
 puts:o.act=8\/o.act=9->0<=o.to.kind/\o.to.kind<ks.length/\o.to.field=0
 none:10<=o.act->o.to=⟨0,0⟩
theorem Kr{k:Kind}{v:List Int}(h:Do k v=true):v.length=k.fields.length/\∀x∈v,-4294967296<=x/\x<=8589934592:=by
 obtain⟨_,h2,h3⟩:=Gc (k:=k) (v:=v) (by rw[Gb h]);rw[Gb h]at h2;refine⟨h3,λx hx=>?_⟩;have h2:v=List.zipWith Cx k.fields v:=h2;rw[h2]at hx;obtain⟨i,hi,rfl⟩:=Br hx;rw[List.getElem_zipWith];exact SV _ _
def QP(s:Sys)(cs:List Comp):Prop:=∀k:Int,s.reads.contains k=true\/s.writes.contains k=true->(DW cs k).isSome=true
theorem O1(hh:Cb ks cs=true)(hs:QP s cs){r:Ref}(hr:Mv ks r)(hk:s.reads.contains r.kind=true\/s.writes.contains r.kind=true):
  ∃(c:Comp) (k:Kind),DW cs r.kind=some c/\c.kind=r.kind/\ks[r.kind.toNat]?=some k/\Do k c.vals=true/\0<=r.field/\r.field<k.fields.length/\c.vals.length=k.fields.length:=by
 obtain⟨h1,h2,h3,h4⟩:=hr;obtain⟨c,hc⟩:=IE.1 (hs _ hk);obtain⟨hso,hm⟩:=held_iff.1 hh;obtain⟨hcm,hck⟩:=(GU hso).1 hc;obtain⟨_,_,k,hkk,hho⟩:=hm c hcm;rw[hck]at hkk;unfold Qo at h4;rw[hkk]at h4;exact⟨c,k,hc,hck,hkk,hho,h3,h4,(Kr hho).1⟩
theorem a8(hh:Cb ks cs=true)(hs:QP s cs){a:Arg}(ha:ArgG ks s.reads s.writes a):fB cs a/\ -1099511627776<=Mq cs a/\Mq cs a<=1099511627776:=by
 unfold fB Mq;cases hb:a.has
 ·obtain⟨h1,h2,h3⟩:=ha.no hb
  exact⟨(λh=>by cases h),h1,h2⟩
 ·obtain⟨h1,h2,h3⟩:=ha.yes hb
  obtain⟨c,k,e1,e2,e3,e4,e5,e6,e7⟩:=O1 hh hs h2 h3;have hv:Ln cs a.ref.kind=c.vals:=by unfold Ln;rw[e1]
  rw[hv];refine⟨λ_=>⟨e5,by omega⟩,?_⟩;rw[AY rfl,EH,Af (by omega)];have:=(Kr e4).2 _ (Ax (l:=c.vals) (n:=a.ref.field.toNat) (by omega));simp only[Hz];omega
theorem cA{fs:List Field}:∀{v:List Int} {i:Nat} {x:Int},List.zipWith Cx fs v=v->(∀f,fs[i]?=some f->Cx f x=x)->List.zipWith Cx fs (v.set i x)=v.set i x:=by
 induction fs with
 |nil=>
  intro v i x h _;rw[List.zipWith_nil_left]at h;rw[<-h];rfl
 |cons f fs ih=>
  intro v i x h hx;cases v with
  |nil=>rfl
  |cons y v=>
   rw[JT]at h;injection h with h1 h2
   cases i with
   |zero=>rw[Gj,JT,hx f rfl,h2]
   |succ i=>rw[List.set_cons_succ,JT,h1,ih h2 hx]
theorem YF{k:Kind}{v:List Int}(h:Do k v=true)(ho:C9 k=0){f:Field}(hf:k.fields[i]?=some f)(x:Int):Do k (v.set i (Cx f x))=true:=by
 obtain⟨h1,_⟩:=Kr h;obtain⟨_,h2,_⟩:=Gc (k:=k) (v:=v) (by rw[Gb h]);rw[Gb h]at h2;have hfe:Bv f=0:=(GY ho).2.2 f (Bb hf);unfold Do;rw[Mm ho (by simp[h1]),cA h2.symm (λg hg=>by rw[hf]at hg;injection hg with hg;subst hg;exact RN hfe x)];simp
theorem OM(hs:Ee cs){k:Int}{c:Comp}(hc:DW cs k=some c)(f:Nat)(v:Int):cs[Ey cs k]?=some c/\TY cs k f v=cs.set (Ey cs k) ⟨c.kind,c.vals.set f v⟩:=by
 constructor
 ·obtain⟨hcm,hck⟩:=(GU hs).1 hc
  obtain⟨i,hi,hie⟩:=Br hcm;have hat:cs[i]?=some c:=by rw[Af hi,hie]
  obtain⟨h1,h2,h3,h4,_⟩:=PI (key:=Comp.kind) hs hat
  have:Ey cs k=i:=ZH (Nat.le_of_lt hi) (λj x hj hx=>by
   have:=h3 x (by rw[EX];obtain⟨a,b⟩:=AE.1 hx;exact⟨j,by omega,b⟩);simp;omega) (λx hx=>by rw[hat]at hx;injection hx with hx;subst hx;simp;omega)
  rw[this];exact hat
 ·unfold TY;rw[hc]
theorem Xi(hk:CB ks=0)(hh:Cb ks cs=true){r:Ref}{c:Comp}{k:Kind}(hc:DW cs r.kind=some c)(hkk:ks[r.kind.toNat]?=some k)(h0:0<=r.field)(hf:r.field<k.fields.length)(x:Int):Cb ks (TY cs r.kind r.field.toNat (Cx (IB ks r) x))=true:=by
 obtain⟨hso,hm⟩:=held_iff.1 hh;obtain⟨hcm,hck⟩:=(GU hso).1 hc;obtain⟨e1,e2⟩:=OM hso hc r.field.toNat (Cx (IB ks r) x);obtain⟨g1,g2⟩:=Z9 (key:=Comp.kind) hso e1 (z:=⟨c.kind,c.vals.set r.field.toNat (Cx (IB ks r) x)⟩) rfl;obtain⟨q1,q2,k',hk',hho⟩:=hm c hcm;have hkk':k'=k:=by rw[hck,hkk]at hk';injection hk' with hk';exact hk'.symm
 subst hkk';rw[e2];refine held_iff.2 ⟨g1,λd hd=>?_⟩;rcases(g2 d).1 hd with rfl|⟨hd,_⟩
 ·have hfe:k'.fields[r.field.toNat]?=some (IB ks r):=by
   unfold IB;rw[hkk];dsimp only;rw[EH,Af (by omega)];rfl
  exact⟨q1,q2,k',hk',YF hho ((DX hk).2 k' (Bb hkk)) hfe x⟩
 ·exact hm d hd
theorem Or(hs:Ee cs)(k:Int)(f:Nat)(v:Int):(TY cs k f v).map Comp.kind=cs.map Comp.kind:=by
 cases hc:DW cs k with
 |none=>unfold TY;rw[hc]
 |some c=>
  obtain⟨e1,e2⟩:=OM hs hc f v;rw[e2,BC];obtain⟨a,b⟩:=AE.1 e1;have:(cs.map Comp.kind)[Ey cs k]?=some c.kind:=by rw[Ae,e1];rfl
  obtain⟨a',b'⟩:=AE.1 this;show(cs.map Comp.kind).set _ c.kind=_
  conv=>lhs;rw[<-b']
  rw[FZ]
theorem Vl{cs ds:List Comp}(h:QP s cs)(e:ds.map Comp.kind=cs.map Comp.kind):QP s ds:=by
 intro k hk;have h1:=h k hk;unfold DW at h1⊢;rw[List.find?_isSome]at h1⊢;obtain⟨c,hc,hck⟩:=h1;have:c.kind∈ds.map Comp.kind:=by rw[e];exact Ad.2 ⟨c,hc,rfl⟩
 obtain⟨d,hd,hde⟩:=Ad.1 this;exact⟨d,hd,by simp only[Aj]at hck⊢;omega⟩
theorem V0(k:Kind)(hl:k.fields.length<=1099511627776):PS prog 198 [CF false k] (Av true (C8 k (List.replicate k.fields.length 0)).1):=by
 have hft:=Vn k (List.replicate k.fields.length 0);have hfm:(k.fields.map fieldA).length=k.fields.length:=AH _;have hz:(List.replicate k.fields.length (0:Int)).map iA=List.replicate (k.fields.map fieldA).length (iA 0):=by rw[List.map_replicate,hfm]
 refine Sp (nt:=15) (res:=[.tmp 2]) func198 λSf=>?_
 refine RG ?_;refine BS ?_;refine JC ?_;refine CN λY=>CN λK=>?_
 have hle:Spec prog 107 [CF false k,.sl K 0 (k.fields.map fieldA).length] [(K,.row 3 1 (List.replicate (k.fields.map fieldA).length (iA 0)))] λr' S'=>r'= .tup [Av true (C8 k (List.replicate k.fields.length 0)).1,iA (C8 k (List.replicate k.fields.length 0)).2]/\S'=[(K,.row 3 1 (List.replicate (k.fields.map fieldA).length (iA 0)))]:=by
  refine PS.lend hft ?_ (.cons .fz (.cons (XC (by rw[<-hz];exact Lds.fz) .here (by simp)) .nil));have hlo:=L5 (f:=iA) (λ_=>rfl) (C8 k (List.replicate k.fields.length 0)).1;simp[AV.loose,ED,hlo]
 refine RU ?_;(iterate 4 refine RK ?_);refine RGo.s (W.make rfl rfl (by exact As) rfl (.inr rfl) rfl rfl (AP _) (by rw[hfm];omega) (by rw[hfm];unfold maxLen;omega)) rfl ?_;refine WJ hle (.tup (.cons (.cell (.lst (Y:=Y) rfl) rfl rfl) rfl rfl (.cons (.cell .frz rfl rfl) rfl rfl .nil))) ?_;(iterate 5 refine RK ?_);refine RGo.nil (by kernel_rfl) ?_;refine JA ?_;exact DA [.sl Y 0 ((C8 k (List.replicate k.fields.length 0)).1.map iA).length] [Av true (C8 k (List.replicate k.fields.length 0)).1] (.cons (.cell (.sl (p:=1) (by exact As) rfl)) .nil)
section
open Go.Sort
theorem cy(f:FuncId)(cap:List AV)(cf:Comp->Comp->Int)(hst:DH cap=true)(hcf:∀x y,PS prog f ((AZ false) x::(AZ false) y::cap) (iA (cf x y)))(X n:Nat)(d:Array Comp)(a b:Nat)(hn:n=d.size)(hab:a<=b)(hb:b<=d.size)(hz:d.size<=1099511627776):PO prog 221 [.sl X 0 n,iA a,iA b,.fn f cap] X (.row 42 2 (d.toList.map (AZ false))) (.tup []) (.row 42 2 ((insertionSort (AU cf) d a b).toList.map (AZ false))):=by
 obtain⟨r,hr⟩:=nm (insertionSort (AU cf) d a b);rw[hr];unfold insertionSort at hr;refine Sp (nt:=53) (res:=[]) func221 λSf=>?_
 refine KK ?_;refine Ca (λ(i:Nat) (e:Array Comp)=>⟨[(0,.sl X 0 n),(1,iA a),(2,iA b),(3,.fn f cap),(8,iA i)],(X,.row 42 2 (e.toList.map (AZ false)))::Sf⟩) (λi e=>i<=max b (a+1)/\a<i/\e.size=d.size/\insOuter (AU cf) a b i e=r) (λi _=>b-i) (a+1) d ⟨by omega,by omega,rfl,hr⟩ ?_;rintro i e ⟨hi,hai,he,hfold⟩;rw[insOuter]at hfold;refine KK ?_;refine AC rfl (λhc=>?_) (λhc=>?_)
 ·have h:i<b:=by have:=AD hc;omega
  rw[AY h]at hfold;refine KK ?_;refine Ca (λ(j:Nat) (u:Array Comp)=>⟨[(0,.sl X 0 n),(1,iA a),(2,iA b),(3,.fn f cap),(8,iA i),(9,iA j)],(X,.row 42 2 (u.toList.map (AZ false)))::Sf⟩) (λj u=>j<=i/\u.size=d.size/\insInner (AU cf) a j u=insInner (AU cf) a i e) (λj _=>j) i e ⟨AP _,he,rfl⟩ ?_;rintro j u ⟨hj,hu,hin⟩;rcases Ah (decide ((a:Int)<(j:Int)))with g|g
  ·have hja:a<j:=by have:=AD g;omega
   obtain⟨q,rfl⟩:∃q,j=q+1:=⟨j-1,by omega⟩;have h1:=BI (AZ false) (d:=u) (i:=q+1) (by omega);have h2:=BI (AZ false) (d:=u) (i:=q) (by omega);have hl:=hcf (u[q+1]!) (u[q]!);rw[insInner]at hin;(repeat refine WF ?_);refine RU ?_;(iterate 11 refine RK ?_);refine BO ?_ (BJ (q:Int) (by omega) (by omega) rfl rfl);refine KR ?_;refine Dv (h:=(hl ..)) (k:=?_);refine JG ?_;refine RGo.nil (by kernel_rfl) ?_;(repeat refine WF ?_);refine AC rfl (λhd=>?_) (λhd=>?_)
   ·have hd:(AU cf) u[q+1]! u[q]! =true:=by simpa[g,AU]using hd
    rw[hd,AY (by simp;omega)]at hin;obtain⟨y,hy⟩:=Cc (AZ false) (d:=u) (i:=q+1) (j:=q) (by omega) u[q]!;(repeat refine WF ?_);refine RU ?_;(iterate 4 refine RK ?_);refine BO ?_ (BJ (q:Int) (by omega) (by omega) rfl rfl);refine JG ?_;refine BO ?_ (BJ (q:Int) (by omega) (by omega) rfl rfl);(iterate 9 refine RK ?_);refine RGo.s (W.store rfl rfl (by exact As) hy (by exact rfl)) rfl ?_;refine RGo.nil (by kernel_rfl) ?_
    (iterate 4 refine WK ?_);refine AI (BJ (q:Int) (by omega) (by omega) rfl rfl) rfl ?_;refine KK ?_
    refine Bn q (swp u (q+1) q) ⟨by omega,by rw[size_swp];exact hu,hin⟩ (h0:=by rw[<-C6 (AZ false) (by omega) (by omega)];exact⟨by exact EF,by exact BH⟩)
   ·have hd:(AU cf) u[q+1]! u[q]! =false:=by simpa[g,AU]using hd
    rw[hd,AM (by simp)]at hin;refine KK ?_;refine Bn (i+1) u ⟨by omega,by omega,hu,by rw[hin];exact hfold⟩
  ·have hja:j<=a:=by have:=AG g;omega
   have hin2:insInner (AU cf) a j u=u:=by
    cases j with
    |zero=>rfl
    |succ q=>rw[insInner,AM (by simp;omega)]
   rw[hin2]at hin;(repeat refine WF ?_);refine RU ?_;(iterate 17 refine RK ?_);refine RGo.nil (by kernel_rfl) ?_;(repeat refine WF ?_);refine AB rfl (by simp[g]) ?_;refine KK ?_;refine Bn (i+1) u ⟨by omega,by omega,hu,by rw[hin];exact hfold⟩
 ·have h:¬i<b:=by have:=AG hc;omega
  rw[AM h]at hfold;subst hfold;refine KK ?_;refine Eb ?_;exact B4 [(X,.row 42 2 (e.toList.map (AZ false)))] ⟨rfl,rfl⟩
end
section
open Go.Sort
theorem VQ(f:FuncId)(cap:List AV)(cf:Comp->Comp->Int)(hst:DH cap=true)(hf:∀x y,PS prog f (AZ false x::AZ false y::cap) (iA (cf x y)))(X n limit:Nat)(d:Array Comp)(hn:n=d.size)(h12:d.size<=12):PO prog 168 [.sl X 0 n,iA 0,iA n,iA limit,.fn f cap] X (.row 42 2 (d.toList.map (AZ false))) (.tup []) (.row 42 2 ((insertionSort (AU cf) d 0 d.size).toList.map (AZ false))):=by
 have hs:=cy f cap cf hst hf X n d 0 d.size hn (Ap _) (AP _) (by omega);rw[<-hn]at hs;have hsz:d.size=n:=hn.symm;refine Sp (nt:=148) (res:=[]) func168 λSf=>?_
 refine KK ?_;refine B8 (λ_:Unit=>⟨[(0,.sl X 0 n),(1,iA 0),(2,iA n),(3,iA limit),(4,.fn f cap)],(X,.row 42 2 (d.toList.map (AZ false)))::Sf⟩) (λ_=>True) (λ_=>0) () CZ ?_;rintro _ _;refine AWP.block ?_
 (iterate 4 refine WK ?_);refine AI (BJ (n:Int) (by omega) (by omega) rfl rfl) rfl ?_;refine KK ?_
 refine Aq rfl (BG (by omega)) ?_;refine KK ?_;refine AOps.o4 (h:=(hs ..)) (k:=?_);refine JA ?_;rw[hsz];exact B4 [(X,_)] ⟨rfl,rfl⟩
theorem Kk[Inhabited α]{d u:Array α}(h:PermIn 0 d.size d u):u.toList.Perm d.toList:=by
 obtain⟨h1,_,h3⟩:=h;have e1:u.extract 0 d.size=u:=by rw[<-h1];exact Array.extract_size
 rwa[e1,Array.extract_size]at h3
theorem I6[Inhabited α]{lt:α->α->Bool}{u:Array α}{n:Nat}(hn:n=u.size)(h:SortedIn lt 0 n u):u.toList.Pairwise λa b=>lt b a=false:=by
 rw[Bt];intro i j hi hj hij;have hi':i<u.size:=by simpa using hi
 have hj':j<u.size:=by simpa using hj
 have:=h i j (Ap _) hij (by omega);rw[QV u j hj',QV u i hi']at this;simpa using this
theorem MV(f:FuncId)(cap:List AV)(cf:Comp->Comp->Int)(hst:DH cap=true)(hS:SWO (AU cf))(hf:∀x y,PS prog f (AZ false x::AZ false y::cap) (iA (cf x y)))(X n:Nat)(l:List Comp)(hn:n=l.length)(h12:l.length<=12):
  ∃u:List Comp,(u.Perm l/\u.Pairwise λa b=>AU cf b a=false)/\PO prog 108 [.sl X 0 n,.fn f cap] X (.row 42 2 (l.map (AZ false))) (.tup []) (.row 42 2 (u.map (AZ false))):=by
 obtain⟨p1,p2⟩:=insertionSort_holds (lt:=AU cf) hS l.toArray 0 l.toArray.size (Ap _) (AP _);have e1:(UInt64.ofNat n).toNat=n:=by rw[CO];omega
 have hlen:=Sb (UInt64.ofNat n) (by rw[e1];omega);rw[e1]at hlen;have hs:=VQ f cap cf hst hf X n (bitsLen n) l.toArray (by simpa using hn) (by simpa using h12);obtain⟨u,hu⟩:=nm (insertionSort (AU cf) l.toArray 0 l.toArray.size);rw[hu]at p1 p2 hs;refine⟨u.toList,⟨by simpa using Kk p1,I6 p1.1.symm p2⟩,?_⟩;simp only[List.toList_toArray]at hs;refine Sp (nt:=14) (res:=[]) func108 λSf=>?_
 (iterate 11 refine WK ?_);refine AI (Ig .i64 n rfl (by omega) (by kernel_rfl) (by kernel_rfl) rfl) rfl ?_;refine BU (h:=(hlen ..)) (k:=?_);refine WK ?_;refine IJ (h:=(hs ..)) (k:=?_);refine WK ?_
 refine Eb ?_;exact B4 [(X,_)] ⟨rfl,rfl⟩
theorem Ku(a b:Int):EN a b<0↔a<b:=by
 unfold EN;split
 ·simp;assumption
 ·split<;>simp<;>omega
theorem SJ(key:α->Int):SWO (AU λx y=>EN (key x) (key y))where
 irrefl x:=by simp only[AU,Ao,Ku];omega
 trans x y z h1 h2:=by simp only[AU,Aj,Ku]at*;omega
 ntrans x y z h1 h2:=by simp only[AU,Ao,Ku]at*;omega
end
theorem Qm(l:List Comp)(f:FuncId)(cap:List AV)(p:Comp->Bool)(hs:DH cap=true)(hl:l.length<=4611686018427387904)(hf:∀x∈l,PS prog f ((AZ false) x::cap) (bA (p x))):PS prog 166 [.lst false 42 2 (l.map (AZ false)),.fn f cap] (iA (HM l p)):=by
 refine Sp (nt:=19) (res:=[.tmp 4]) func166 λSf=>?_
 refine KK ?_;refine B8 (λi:Nat=>⟨[(0,.lst false 42 2 (l.map (AZ false))),(1,.fn f cap),(7,iA (l.map (AZ false)).length),(8,iA i)],Sf⟩) (λi=>i<=l.length/\∀j (h:j<l.length),j<i->p l[j]=false) (λi=>l.length-i) 0 ⟨Ap _,λj h hj=>absurd hj (by omega)⟩ ?_;rintro i ⟨hi,he⟩;refine KK ?_;refine AC rfl (λhc=>?_) (λhc=>?_)
 ·have h:i<l.length:=by simpa using hc
  refine KK ?_;refine KP (h:=(hf _ (Ax h))) (k:=?_);refine KK ?_;refine AC rfl (λhd=>?_) (λhd=>?_)
  ·refine KK ?_
   refine RT ?_;refine Ag ?_;rw[HK h hd λj hj=>he j (by omega) hj]
  ·refine KK ?_
   refine BM (i+1) ⟨h,λj h1 h2=>?_⟩;by_cases e:j=i
   ·subst e;exact hd
   ·exact he j h1 (by omega)
 ·have h:¬i<l.length:=by simpa using hc
  refine JA ?_;refine Ag ?_;rw[HL λj hj=>he j hj (by omega)]
theorem Js(l:List Comp)(f:FuncId)(cap:List AV)(p:Comp->Bool)(hs:DH cap=true)(hl:l.length<=4611686018427387904)(hf:∀x∈l,PS prog f ((AZ false) x::cap) (bA (p x))):PS prog 105 [.lst false 42 2 (l.map (AZ false)),.fn f cap] (bA (l.any p)):=by
 refine Sp (nt:=9) (res:=[.tmp 4]) func105 λSf=>?_
 refine KK ?_;refine BP (h:=(Qm l f cap p hs hl hf)) (k:=?_);refine JA ?_;refine Ag ?_;rw[<-Mh]
section
open Go.Sort
theorem dG(o c:Comp):PS prog 106 [AZ false o,.fp (AZ false c).cells] (bA (decide (o.kind=c.kind))):=by
 refine Sp (nt:=9) (res:=[.tmp 3]) func106 λSf=>?_
 refine WK ?_;refine WK ?_;refine BS ?_;refine JA ?_;refine Ag ?_;rfl
theorem dF(a b:Comp):PS prog 109 [AZ false a,AZ false b] (iA (EN a.kind b.kind)):=by
 refine Sp (nt:=10) (res:=[.tmp 4]) func109 λSf=>?_
 refine WK ?_;refine WK ?_;refine BS ?_;refine BS ?_;refine KK ?_;refine BP (h:=(Fq a.kind b.kind)) (k:=?_);refine JA ?_;refine Ag ?_;rfl
theorem MR(ks:List Kind)(l:List Comp)(h12:ks.length<=12)(hl:l.length<=1099511627776):PS prog 44 [Ba false false ks,B3 false false l] (.tup [B3 true false (EO ks l).1,iA (EO ks l).2]):=by
 have hck:=P3 ks;obtain⟨r,hr⟩:=nm (EO ks l);rw[hr];unfold EO at hr;have hlm:(l.map (AZ false)).length=l.length:=AH _;have hkm:(ks.map (CF false)).length=ks.length:=AH _;refine Sp (nt:=64) (res:=[.tmp 4,.tmp 5]) func44 λSf=>?_
 refine KK ?_;refine BU (h:=(hck ..)) (k:=?_);refine KK ?_;refine AC rfl (λhc=>?_) (λhc=>?_)
 ·have hc:CB ks≠0:=by simpa using hc
  rw[AY hc]at hr;subst hr;refine JA ?_;exact DA [.prim (.slice none 0 0),iA (CB ks)] [B3 true false [],iA (CB ks)] (.cons (.cell .nil) (.cons (.cell .same) .nil))
 have hc:CB ks=0:=by simpa using hc
 rw[AM (by simp[hc])]at hr;have hgo:=λh=>Pe (ks:=ks) (l:=l) (pre:=[]) (out:=[]) h (by simp) (by simp) (by simp)
 obtain⟨g,hg⟩:=nm (E8 ks [] [] l);rw[hg]at hr hgo;refine KK ?_;refine AWP.adopt (d:=7) 42 2 rfl λO=>?_
 refine LP (λ(q Y m:Nat) (M:List AV)=>⟨[(0,Ba false false ks),(1,B3 false false l),(7,.sl Y 0 m),(17,B3 false false l),(18,iA (l.map (AZ false)).length),(19,iA q)],(Y,.row 42 2 M)::Sf⟩) (λq _ m M=>q<=l.length/\m=M.length/\m=q/\∃out:List Comp,M=out.map (AZ false)/\E8 ks (l.take q) out (l.drop q)=g) (λq _ _ _=>l.length-q) 0 O 0 [] ⟨Ap _,rfl,rfl,[],rfl,hg⟩ ?_;rintro q Y m M ⟨hq,hm,hmq,out,hM,hfold⟩;refine KK ?_;refine AC rfl (λhe=>?_) (λhe=>?_)
 ·have h:q<l.length:=by rw[Aj,hlm]at he;omega
  obtain⟨c,hcq⟩:=nm (l[q]);have hat:(l.map (AZ false))[q]?=some (AZ false c):=by rw[Ae,Af h,hcq];rfl
  rw[D9 h,hcq,E8]at hfold;have hcf:=Js (l.take q) 106 [.fp (AZ false c).cells] (λo=>decide (o.kind=c.kind)) rfl (by rw[BZ];omega) (λo _=>dG o c);obtain⟨ck,cv⟩:=c;dsimp only at hfold hcf;rw[EK]at hcf;refine KK ?_;refine Ai λV=>?_;refine KK ?_
  refine AC rfl (λhd=>?_) (λhd=>?_)
  ·have hb:ck<0\/(ks.length:Int)<=ck:=by simpa using hd
   rw[AY hb]at hfold;subst hfold;rw[AY (by decide)]at hr;subst hr;refine JA ?_;exact DA [.prim (.slice none 0 0),iA 1] [B3 true false [],iA 1] (.cons (.cell .nil) (.cons (.cell .same) .nil))
  have hb:¬(ck<0\/(ks.length:Int)<=ck):=by simpa using hd
  rw[AM hb]at hfold;obtain⟨j,hj⟩:∃j:Nat,ck=j:=⟨ck.toNat,by omega⟩;subst hj;have hjl:j<ks.length:=by omega
  rw[By,Af hjl]at hfold;obtain⟨k,hk⟩:=nm (ks[j]);rw[hk]at hfold;dsimp only at hfold;have hatk:(ks.map (CF false))[j]?=some (CF false k):=by rw[Ae,Af hjl,hk];rfl
  have hft:=Vn k cv;refine Gw [9] (X:=V) (by exact As) (b:=AZ false ⟨j,cv⟩) (hf:=⟨by show(AV.agg [iA (j:Int),Av false cv]).frz=_;exact Frz.h⟩) ?_ (by intro d hd;simp only[CX]at hd;subst hd;rfl)
  (iterate 6 refine WK ?_);refine AI (W.hiL rfl rfl rfl (by rw[hlm];exact hq)) rfl ?_;refine WK ?_;refine BP (h:=(hcf ..)) (k:=?_);refine KK ?_
  refine AC rfl (λhd2=>?_) (λhd2=>?_)
  ·rw[AY hd2]at hfold
   subst hfold;rw[AY (by decide)]at hr;subst hr;refine JA ?_;exact DA [.prim (.slice none 0 0),iA 5] [B3 true false [],iA 5] (.cons (.cell .nil) (.cons (.cell .same) .nil))
  rw[AM (by simp[hd2])]at hfold;refine RU ?_;(iterate 7 refine RK ?_);refine FO (h:=hft) (k:=?_);(iterate 5 refine RK ?_);refine RGo.nil (by kernel_rfl) ?_;refine KK ?_;refine AC rfl (λhd3=>?_) (λhd3=>?_)
  ·have hd3:(C8 k cv).2≠0:=by simpa using hd3
   rw[AY hd3]at hfold;subst hfold;rw[AY hd3]at hr;subst hr;refine JA ?_;exact DA [.prim (.slice none 0 0),iA _] [B3 true false [],iA _] (.cons (.cell .nil) (.cons (.cell .same) .nil))
  have hd3:(C8 k cv).2=0:=by simpa using hd3
  rw[AM (by simp[hd3])]at hfold;have hm1:m+1<=1099511627776:=by omega
  (iterate 8 refine WK ?_);refine Eg (AZ false ⟨j,(C8 k cv).1⟩) ?_;refine WK ?_;refine Ay λY=>?_;refine KK ?_
  refine Hh (q+1) Y (m+1) (M++[AZ false ⟨j,(C8 k cv).1⟩]) ⟨h,by rw[Ak,hm];rfl,by omega,out++[⟨j,(C8 k cv).1⟩],by rw[hM,AT];rfl,?_⟩;rw[A6 h,hcq];exact hfold
 ·have h:q=l.length:=by rw[Ao,hlm]at he;omega
  rw[h,B9,Dk,E8]at hfold;subst hfold;dsimp only at hr hgo;rw[AM (by simp)]at hr;subst hr;obtain⟨hg1,hg2⟩:=hgo rfl;have hlen:out.length<=12:=B7 (Km Comp.kind _ _ hg1 hg2) h12;obtain⟨u,⟨hu1,hu2⟩,hsf⟩:=MV 109 [] (λx y=>EN x.kind y.kind) rfl (SJ Comp.kind) (λx y=>dF x y) Y m out (by rw[hm,hM,AH]) hlen;rw[<-hM]at hsf;refine KK ?_;refine AOps.o2 (h:=(hsf ..)) (k:=?_);refine KK ?_;have hu:u=KQ out:=PK hg1 hu1 (hu2.imp λ{a b} hab=>by simp only[AU,Ao,Ku]at hab;omega);have hul:m=(u.map (AZ false)).length:=by rw[hm,hM,AH,AH,hu1.length_eq]
  refine RT ?_;rw[<-hu];exact DA [.sl Y 0 m,iA 0] [B3 true false u,iA 0] (.cons (.cell (.sl (p:=0) .here hul)) (.cons (.cell .same) .nil))
end
def VJ(ks:List Kind)(s:Sys)(e:Ent)(index:Int)(X C K E:Nat)(st:Rn):List AS:=
 [(X,Ow ks s e C st.comps.length st.r K st.cmds.length E st.evs.length index),(C,.row 42 2 (st.comps.map (AZ true))),(K,.row 303 5 (st.cmds.map D3)),(E,.row 136 4 (st.evs.map FT))]
structure RnOK(ks:List Kind)(s:Sys)(st:Rn):Prop where
 held:Cb ks st.comps=true
 has:QP s st.comps
 odd:st.r.2.toNat%2=1
 cmds:st.cmds.length<=1099511627775
 evs:st.evs.length<=1099511627775
theorem RE(ks:List Kind)(s:Sys)(e:Ent)(index:Int)(X C K E:Nat)(st:Rn)(Sf:List AS):Ld (VJ ks s e index X C K E st++Sf) (.ptr X 0 0) (.fp (Qe ks s e (B3 false false st.comps) st.r (.sl K 0 st.cmds.length) (.sl E 0 st.evs.length) index).cells):=by
 refine .ptr .here (b:=Qe ks s e (B3 false false st.comps) st.r (.sl K 0 st.cmds.length) (.sl E 0 st.evs.length) index) (.agg ?_) rfl;refine .cons .fz (.cons .fz (.cons .fz (.cons .fz (.cons .fz (.cons .fz (.cons .fz (.cons .fz (.cons .fz (.cons .fz (.cons ?_ (.cons .fz (.cons .fz (.cons .frz (.cons .frz (.cons .fz .nil)))))))))))))));exact XC Lds.fz (.next .here) (by simp)
theorem fm(ks:List Kind)(s:Sys)(e:Ent)(index:Int)(X C K E:Nat)(st:Rn)(o:Op)(hk:CB ks=0)(h12:ks.length<=12)(hsp:s.spawn.length<=1099511627776)(hst:RnOK ks s st)(ho:OpG ks s.reads s.writes o):
  Spec prog 137 [.ptr X 0 0,opA o] (VJ ks s e index X C K E st) λr' S'=>∃b:Nat×Nat,r'= .tup []/\S'=VJ ks s e index X C b.1 b.2 (doM ks s index e o st):=by
 obtain⟨hh,hhas,hodd,hcl,hel⟩:=hst;obtain⟨cs,r,cm,ev⟩:=st;dsimp only at hh hhas hodd hcl hel;obtain⟨h16,_⟩:=HO hk hh;obtain⟨a1,a2,a3⟩:=a8 hh hhas ho.a;obtain⟨b1,b2,b3⟩:=a8 hh hhas ho.b;have hA:=a7 ks s e cs r K cm.length E ev.length index o.a (by omega) a1;have hB:=a7 ks s e cs r K cm.length E ev.length index o.b (by omega) b1;have hs:=Wf o.act;obtain⟨act,⟨tk,tf⟩,oa,ob⟩:=o;dsimp only at a1 a2 a3 b1 b2 b3 hA hB hs;obtain⟨av,hav⟩:=nm (Mq cs oa);obtain⟨bv,hbv⟩:=nm (Mq cs ob);obtain⟨res,hres⟩:=nm (doM ks s index e ⟨act,⟨tk,tf⟩,oa,ob⟩ ⟨cs,r,cm,ev⟩);rw[hres];unfold doM at hres;dsimp only at hres;rw[hav]at hA a2 a3 hres;rw[hbv]at hB b2 b3 hres;refine Sp (nt:=137) (res:=[]) func137 λSf=>?_
 refine RG ?_;refine BS ?_;refine NL ?_;have hAl:=PS.lend (S:=VJ ks s e index X C K E ⟨cs,r,cm,ev⟩) (args':=[.ptr X 0 0,Dt oa]) hA rfl (.cons (by have:=RE ks s e index X C K E ⟨cs,r,cm,ev⟩ [];rwa[BD]at this) (.cons .fz .nil));have hBl:=PS.lend (S:=VJ ks s e index X C K E ⟨cs,r,cm,ev⟩) (args':=[.ptr X 0 0,Dt ob]) hB rfl (.cons (by have:=RE ks s e index X C K E ⟨cs,r,cm,ev⟩ [];rwa[BD]at this) (.cons .fz .nil));unfold VJ at hAl hBl⊢;dsimp only at hAl hBl⊢;refine RU ?_;(iterate 3 refine RK ?_);refine WJ hAl .fz ?_;(iterate 3 refine RK ?_);refine WJ hBl .fz ?_;refine JG ?_;refine RGo.nil (by kernel_rfl) ?_;refine FL ?_;by_cases hsb:Ki act=true
 ·rw[AY hsb]at hres
  rw[hsb]at hs;obtain⟨hR,hW⟩:=ho.sets hsb;dsimp only at hR hW;have h07:0<=act/\act<=7:=by unfold Ki at hsb;simpa using hsb
  obtain⟨c,k,e1,e2,e3,e4,e5,e6,e7⟩:=O1 hh hhas hR (.inr hW);dsimp only at e1 e2 e3 e5 e6;have hso:=(held_iff.1 hh).1;obtain⟨g1,g2⟩:=OM hso e1 tf.toNat (Cx (IB ks ⟨tk,tf⟩) (Gm act av bv r).1);have hvp:=ZD ks s e C cs.length r K cm.length E ev.length index X act av bv h07.1 h07.2 ⟨a2,a3⟩ ⟨b2,b3⟩ hodd;obtain⟨⟨nv,r2⟩,hnv⟩:=nm (Gm act av bv r);rw[hnv]at hvp hres g2;obtain⟨f,hf⟩:=nm (IB ks ⟨tk,tf⟩);rw[hf]at g2 hres;have hnp:=Wm f nv;obtain⟨j,hj⟩:=nm (Ey cs tk);rw[hj]at g1 g2;obtain⟨ti,rfl⟩:∃i:Nat,tk=i:=⟨tk.toNat,by have:=hR.1;dsimp only at this;omega⟩;obtain⟨tj,rfl⟩:∃i:Nat,tf=i:=⟨tf.toNat,by omega⟩;rw[By]at g2 e3
  have hfe:k.fields[tj]?=some f:=by
   rw[<-hf];unfold IB;dsimp only;rw[By,By,e3];dsimp only;rw[EH,Af (by omega)];rfl
  obtain⟨ck,cv⟩:=c;dsimp only at e2 e4 e7 g2;subst e2;have hvs:=λV=>ZE ks s e cs r K cm.length E ev.length index X C V j ⟨ti,cv⟩ hso g1 (by omega)
  obtain⟨kn,fs⟩:=k;dsimp only at e6 e7 hfe;have hatk:(ks.map (CF false))[ti]?=some (CF false ⟨kn,fs⟩):=by rw[Ae,e3];rfl
  have hatf:(fs.map fieldA)[tj]?=some (fieldA f):=by rw[Ae,hfe];rfl
  have hatc:(cs.map (AZ true))[j]?=some (AZ true ⟨ti,cv⟩):=by rw[Ae,g1];rfl
  have hjm:j<(cs.map (AZ true)).length:=by rw[AH];exact(AE.1 g1).1
  have hvl:tj<(cv.map iA).length:=by rw[AH];omega
  have hatv:(cv.map iA)[tj]?=some (iA cv[tj]):=by rw[Ae,Af (by rw[AH]at hvl;exact hvl)];rfl
  refine JI ?_;refine BU (h:=(hs ..)) (k:=?_);refine NL ?_;refine Aq rfl rfl ?_;refine FL ?_;refine WM (Y:=C) (by exact As) (λ_=>Hos.at hatc (.agg (.tail (.head .here)))) λV=>?_
  have hvs1:=hvs V;unfold SS at hvs1;dsimp only at hvs1;refine FL ?_;refine AWP.region_runJ (JP 1 (X,Ow ks s e C cs.length r K cm.length E ev.length index) (X,Ow ks s e C cs.length r2 K cm.length E ev.length index)) (by kernel_rfl) (by kernel_rfl) ?_ ?_
  ·exact .inl rfl
  iterate 4 refine OW ?_
  refine WE ?_ (Ms rfl rfl hvs1 .fz (by exact M0) rfl rfl) rfl ?_
  ·exact λS hS=>JP.ne (by decide) _ (di _ hS)
  iterate 4 refine OW ?_
  refine Rx (S1:=[(0,.gone),(X,Ow ks s e C cs.length r K cm.length E ev.length index)]) (S2:=[(0,.gone),(X,Ow ks s e C cs.length r2 K cm.length E ev.length index)]) (by exact Gu) (by exact Gu) rfl ?_
  iterate 2 refine Rx (S1:=[(0,.gone),(X,Ow ks s e C cs.length r K cm.length E ev.length index)]) (S2:=[(0,.gone),(X,Ow ks s e C cs.length r2 K cm.length E ev.length index)]) (by exact Gu) (by exact Gu) rfl ?_
  iterate 16 refine OW ?_
  refine WE dh (W.callO4 rfl rfl rfl rfl (by exact As) hvp rfl (Frz.h)) rfl ?_;refine RGoJ.p (W.callF2 rfl rfl hnp rfl (Frz.h)) rfl ?_;refine OW ?_;refine WE ?_ (by exact Kw) rfl ?_
  ·exact JP.ne (by decide)
  refine RGoJ.nil (by kernel_rfl) ?_;refine FL ?_;refine I5 (X:=V) (Y:=C) (by exact As) (by exact As) rfl (by simp) (Hos.at (BY hjm) (.agg (.tail (.head .here)))) ?_;refine RT ?_;refine B4 [(X,_),(C,_),(K,_),(E,_)] ⟨(K,E),rfl,?_⟩;rw[<-hres,By,g2];dsimp only
  have hce:AZ true ⟨ti,cv.set tj (Cx f nv)⟩= .agg [iA ti,.lst true 3 1 ((cv.map iA).set tj (iA (Cx f nv)))]:=by
   unfold AZ Av;rw[BC]
  rw[Ft,BC,List.set_set,hce]
 ·have hsf:Ki act=false:=by simpa using hsb
  rw[AM hsb]at hres;rw[hsf]at hs
  have h8:act=8\/act=9\/act=10\/act=11\/act=12:=by
   have h1:0<=act:=ho.lo;have h2:act<=12:=ho.hi;unfold Ki at hsf;simp at hsf;omega
  refine JI ?_;refine BU (h:=(hs ..)) (k:=?_);refine NL ?_;refine AB rfl rfl ?_;refine KK ?_;by_cases hz:av=0
  ·refine Aq rfl (BG hz) ?_
   rw[AY hz]at hres
   skip
   refine RT ?_;refine B4 [(X,_),(C,_),(K,_),(E,_)] ⟨(K,E),rfl,?_⟩;rw[<-hres]
  ·refine AB rfl (Az hz) ?_
   rw[AM hz]at hres;rcases h8 with rfl|rfl|rfl|rfl|rfl
   ·obtain⟨p1,p2,p3⟩:=ho.puts (.inl rfl)
    dsimp only at p1 p2 p3;obtain⟨ti,rfl⟩:∃i:Nat,tk=i:=⟨tk.toNat,by omega⟩;have hkl:ti<ks.length:=by omega
    have hatk:(ks.map (CF false))[ti]?=some (CF false ks[ti]):=by rw[Ae,Af hkl];rfl
    obtain⟨kn,hkn⟩:=nm (ks[ti]);have hfl:kn.fields.length<=1099511627776:=by have h8:=Lz ((DX hk).2 _ (Ax hkl));rw[hkn]at h8;omega
    rw[hkn]at hatk
    have hdo:Pu ks ti=(C8 kn (List.replicate kn.fields.length 0)).1:=by
     unfold Pu;rw[By,Af hkl,hkn]
    have hdf:=V0 kn hfl;refine KK ?_;refine Ai λB=>?_;refine KK ?_
    refine Aq rfl rfl ?_;refine RU ?_;(iterate 12 refine RK ?_);refine JS (h:=hdf) (k:=?_);(iterate 6 refine RK ?_);refine RGo.nil (by kernel_rfl) ?_;refine FL ?_;refine Ih B [D3 ⟨0,e,0,[⟨ti,(C8 kn (List.replicate kn.fields.length 0)).1⟩]⟩] ?_ ?_ (by exact As)
    ·exact(show AV.frzs [D3 ⟨0,e,0,[⟨ti,(C8 kn (List.replicate kn.fields.length 0)).1⟩]⟩]=[D3 ⟨0,e,0,[⟨ti,(C8 kn (List.replicate kn.fields.length 0)).1⟩]⟩]from EI (· ::[]) Frz.h)
    refine CN λK2=>?_
    refine RU ?_;(iterate 11 refine RK ?_);refine RGo.nil (by kernel_rfl) ?_;refine Eb ?_;refine B4 [(X,_),(C,_),(K2,_),(E,_)] ⟨(K2,E),rfl,?_⟩;rw[AM (by decide),AY rfl,hdo]at hres;rw[<-hres];dsimp only;rw[Ak,AT];rfl
   ·refine KK ?_;refine Ai λB=>?_;refine KK ?_
    refine AB rfl rfl ?_;refine KK ?_;refine Aq rfl rfl ?_;refine RU ?_;(iterate 7 refine RK ?_);refine RGo.nil (by kernel_rfl) ?_;refine FL ?_;refine IS 42 2 (Y:=B) (.cons (.agg (.s (.s (.s (.s (.cons (.base .nil) .nil)))))) .nil) ?_;refine Ih B [D3 ⟨1,e,tk,[]⟩] ?_ ?_ (by exact As)
    ·exact(show AV.frzs [D3 ⟨1,e,tk,[]⟩]=[D3 ⟨1,e,tk,[]⟩]from EI (· ::[]) Frz.h)
    refine CN λK2=>?_
    refine RU ?_;(iterate 11 refine RK ?_);refine RGo.nil (by kernel_rfl) ?_;refine Eb ?_;refine B4 [(X,_),(C,_),(K2,_),(E,_)] ⟨(K2,E),rfl,?_⟩;rw[AM (by decide),AM (by decide),AY rfl]at hres;rw[<-hres];dsimp only;rw[Ak,AT];rfl
   ·refine KK ?_;refine Ai λB=>?_;refine KK ?_
    refine AB rfl rfl ?_;refine KK ?_;refine AB rfl rfl ?_;refine KK ?_;refine Aq rfl rfl ?_;refine KK ?_;refine IS 42 2 (Y:=B) (.cons (.agg (.s (.s (.s (.s (.cons (.base .nil) .nil)))))) .nil) ?_;refine Ih B [D3 ⟨2,e,0,[]⟩] ?_ ?_ (by exact As)
    ·exact(show AV.frzs [D3 ⟨2,e,0,[]⟩]=[D3 ⟨2,e,0,[]⟩]from EI (· ::[]) Frz.h)
    refine CN λK2=>?_
    refine RU ?_;(iterate 11 refine RK ?_);refine RGo.nil (by kernel_rfl) ?_;refine Eb ?_;refine B4 [(X,_),(C,_),(K2,_),(E,_)] ⟨(K2,E),rfl,?_⟩;rw[AM (by decide),AM (by decide),AM (by decide),AY rfl]at hres;rw[<-hres];dsimp only;rw[Ak,AT];rfl
   ·have hfp:=MR ks s.spawn h12 hsp
    refine KK ?_;refine Ai λB=>?_;refine KK ?_
    refine AB rfl rfl ?_;refine KK ?_;refine AB rfl rfl ?_;refine KK ?_;refine AB rfl rfl ?_;refine KK ?_;refine Aq rfl rfl ?_;refine RU ?_;(iterate 9 refine RK ?_);refine FO (h:=hfp) (k:=?_);(iterate 5 refine RK ?_);refine RGo.nil (by kernel_rfl) ?_;refine KK ?_;refine Ih B [D3 ⟨3,⟨0,0⟩,0,(EO ks s.spawn).1⟩] ?_ ?_ (by exact As)
    ·exact(show AV.frzs [D3 ⟨3,⟨0,0⟩,0,(EO ks s.spawn).1⟩]=[D3 ⟨3,⟨0,0⟩,0,(EO ks s.spawn).1⟩]from EI (· ::[]) Frz.h)
    refine CN λK2=>?_
    refine RU ?_;(iterate 11 refine RK ?_);refine RGo.nil (by kernel_rfl) ?_;refine Eb ?_;refine B4 [(X,_),(C,_),(K2,_),(E,_)] ⟨(K2,E),rfl,?_⟩;rw[AM (by decide),AM (by decide),AM (by decide),AM (by decide)]at hres;rw[<-hres];dsimp only;rw[Ak,AT];rfl
   ·refine KK ?_;refine Ai λB=>?_;refine KK ?_
    refine AB rfl rfl ?_;refine KK ?_;refine AB rfl rfl ?_;refine KK ?_;refine AB rfl rfl ?_;refine KK ?_;refine AB rfl rfl ?_;refine CN λE2=>?_
    refine RU ?_;(iterate 16 refine RK ?_);refine I0 (FT ⟨index,e,bv⟩) ?_;(iterate 4 refine RK ?_);refine RGo.nil (by kernel_rfl) ?_;refine RT ?_;refine B4 [(X,_),(C,_),(K,_),(E2,_)] ⟨(K,E2),rfl,?_⟩;rw[AY rfl]at hres;rw[<-hres];dsimp only;rw[Ak,AT];rfl
theorem Ql(l:List Int)(f:FuncId)(cap:List AV)(p:Int->Bool)(hs:DH cap=true)(hl:l.length<=4611686018427387904)(hf:∀x∈l,PS prog f (iA x::cap) (bA (p x))):PS prog 202 [.lst false 3 1 (l.map iA),.fn f cap] (iA (HM l p)):=by
 refine Sp (nt:=19) (res:=[.tmp 4]) func202 λSf=>?_
 refine KK ?_;refine B8 (λi:Nat=>⟨[(0,.lst false 3 1 (l.map iA)),(1,.fn f cap),(7,iA (l.map iA).length),(8,iA i)],Sf⟩) (λi=>i<=l.length/\∀j (h:j<l.length),j<i->p l[j]=false) (λi=>l.length-i) 0 ⟨Ap _,λj h hj=>absurd hj (by omega)⟩ ?_;rintro i ⟨hi,he⟩;refine KK ?_;refine AC rfl (λhc=>?_) (λhc=>?_)
 ·have h:i<l.length:=by simpa using hc
  refine KK ?_;refine KP (h:=(hf _ (Ax h))) (k:=?_);refine KK ?_;refine AC rfl (λhd=>?_) (λhd=>?_)
  ·refine KK ?_
   refine RT ?_;refine Ag ?_;rw[HK h hd λj hj=>he j (by omega) hj]
  ·refine KK ?_
   refine BM (i+1) ⟨h,λj h1 h2=>?_⟩;by_cases e:j=i
   ·subst e;exact hd
   ·exact he j h1 (by omega)
 ·have h:¬i<l.length:=by simpa using hc
  refine JA ?_;refine Ag ?_;rw[HL λj hj=>he j hj (by omega)]
theorem F7(l:List Int)(f:FuncId)(cap:List AV)(p:Int->Bool)(hs:DH cap=true)(hl:l.length<=4611686018427387904)(hf:∀x∈l,PS prog f (iA x::cap) (bA (p x))):PS prog 186 [.lst false 3 1 (l.map iA),.fn f cap] (bA (l.any p)):=by
 refine Sp (nt:=9) (res:=[.tmp 4]) func186 λSf=>?_
 refine KK ?_;refine BP (h:=(Ql l f cap p hs hl hf)) (k:=?_);refine JA ?_;refine Ag ?_;rw[<-Mh]
def Sm(cs:List Comp)(k:Int):Bool:=cs.any λc=>decide (c.kind=k)
def H8(it:Item)(wth wout:List Int):Bool:=!(wth.any λk=>!Sm it.comps k)&& !(wout.any λk=>Sm it.comps k)
theorem VY(c:Comp)(k:Int):PS prog 241 [AZ false c,.fp [iA k]] (bA (decide (c.kind=k))):=by
 refine Sp (nt:=8) (res:=[.tmp 3]) func241 λSf=>?_
 refine WK ?_;refine WK ?_;refine BS ?_;refine JA ?_;refine Ag ?_;rfl
theorem RO(it:Item)(k:Int)(hl:it.comps.length<=4611686018427387904):PS prog 240 [iA k,.fp (AN false it).cells] (bA (Sm it.comps k)):=by
 refine Sp (nt:=8) (res:=[.tmp 3]) func240 λSf=>?_
 refine WK ?_;refine WK ?_;refine BS ?_;refine KK ?_;refine BP (h:=(Js it.comps 241 [.fp [iA k]] (λc=>decide (c.kind=k)) rfl hl (λx hx=>VY x k))) (k:=?_);refine JA ?_;refine Ag ?_;rfl
theorem X2(it:Item)(k:Int)(hl:it.comps.length<=4611686018427387904):PS prog 242 [iA k,.fp [.fn 240 [.fp (AN false it).cells]]] (bA (!Sm it.comps k)):=by
 refine Sp (nt:=8) (res:=[.tmp 3]) func242 λSf=>?_
 refine KK ?_;refine KP (h:=(RO it k hl)) (k:=?_);refine JA ?_;refine Ag ?_;rfl
theorem Zz(it:Item)(wth wout:List Int)(hl:it.comps.length<=4611686018427387904)(h1:wth.length<=4611686018427387904)(h2:wout.length<=4611686018427387904):PS prog 191 [AN false it,Av false wth,Av false wout] (bA (H8 it wth wout)):=by
 have c1:=F7 wth 242 [.fp [.fn 240 [.fp (AN false it).cells]]] (λk=>!Sm it.comps k) rfl h1 (λx _=>X2 it x hl);have c2:=F7 wout 240 [.fp (AN false it).cells] (λk=>Sm it.comps k) rfl h2 (λx _=>RO it x hl);unfold H8;obtain⟨b1,hb1⟩:=nm ((wth.any λk=>!Sm it.comps k));obtain⟨b2,hb2⟩:=nm ((wout.any λk=>Sm it.comps k));rw[hb1]at c1⊢;rw[hb2]at c2⊢;refine Sp (nt:=19) (res:=[.tmp 6]) func191 λSf=>?_
 refine RG ?_;refine BS ?_;refine JC ?_;refine JI ?_;refine Ai λX=>?_;refine JC ?_
 refine Gw [7] .here (hf:=.fn1 (.fp (a:=AN false it) inferInstance)) ?_ (by intro d hd;simp only[CX]at hd;subst hd;rfl);cases b1
 ·refine KK ?_;refine BP (h:=(c1 ..)) (k:=?_);refine KK ?_;refine BP (h:=(c2 ..)) (k:=?_);refine KK ?_
  refine RT ?_;refine Ag ?_;rfl
 ·refine KK ?_;refine BP (h:=(c1 ..)) (k:=?_);refine KK ?_
  refine RT ?_;refine Ag ?_;rfl
def HA(l:List Item)(wth wout:List Int):Nat->List (Nat×Item)
 |0=>[]
 |i+1=>HA l wth wout i++(match l[i]? with
  |some it=>match H8 it wth wout with
   |true=>[(i,it)]
   |false=>[]
  |none=>[])
def HB(l:List Item)(wth wout:List Int):List (Nat×Item):=HA l wth wout l.length
theorem Yh{l:List Item}{wth wout:List Int}(h:i<l.length)(hm:H8 l[i] wth wout=true):HA l wth wout (i+1)=HA l wth wout i++[(i,l[i])]:=by
 simp[HA,Af h,hm]
theorem bD{l:List Item}{wth wout:List Int}(h:i<l.length)(hm:H8 l[i] wth wout=false):HA l wth wout (i+1)=HA l wth wout i:=by
 simp[HA,Af h,hm]
theorem Rs(l:List Item)(wth wout:List Int)(i:Nat):(HA l wth wout i).length<=i:=by
 induction i with
 |zero=>simp[HA]
 |succ i ih=>
  rw[HA,Ak];split
  ·split<;>simp<;>omega
  ·simp;omega
def VL(q:Nat×Item):AV:=.agg [iA q.1,iA q.2.ent.n,iA q.2.ent.gen,B3 false false q.2.comps]
instance {q:Nat×Item}:Frz (VL q) (VL q):=⟨by
 show AV.agg [_,_,_,(B3 false false q.2.comps).frz]=_
 rw[show(B3 false false q.2.comps).frz=B3 false false q.2.comps from Frz.h];rfl⟩
abbrev ZR(l:List (Nat×Item)):AV:=.lst false 296 4 (l.map VL)
theorem ey(w:Wd)(wth wout:List Int)(h0:w.items.length<=1099511627776)(hl:∀it∈w.items,it.comps.length<=1099511627776/\∀c∈it.comps,c.vals.length<=1099511627776)(h1:wth.length<=4611686018427387904)(h2:wout.length<=4611686018427387904):
  PS prog 135 [wdA false w,Av false wth,Av false wout] (.fn 192 [.fp [ZR (HB w.items wth wout)]]):=by
 refine Sp (nt:=35) (res:=[.tmp 6]) func135 λSf=>?_
 refine RG ?_;refine BS ?_;refine JC ?_;refine JF ?_;refine Ai λX=>?_;refine NL ?_
 refine CY 296 4 .here (λK=>.cons (.base .nil) .nil) λK=>?_
 refine KK ?_;refine LP (λ(i K:Nat) (M:List AV) (n:Nat)=>⟨[(1,Av false wth),(2,Av false wout),(7,.ptr X 0 0),(11,J9 false false w.items),(12,iA (w.items.map (AN false)).length),(13,iA i)],(K,.row 296 4 M)::(X,.row 293 1 [.sl K 0 n])::Sf⟩) (λi _ M n=>i<=w.items.length/\M=(HA w.items wth wout i).map VL/\n=M.length) (λi _ _ _=>w.items.length-i) 0 K [] 0 ⟨Ap _,rfl,rfl⟩ ?_;rintro i K M n ⟨hi,hM,hn⟩;refine KK ?_;refine AC rfl (λhc=>?_) (λhc=>?_)
 ·have h:i<w.items.length:=by simpa using hc
  have hn1:n+1<=1099511627776:=by have:=Rs w.items wth wout i;rw[hn,hM,AH];omega
  obtain⟨hc1,hc2⟩:=hl _ (Ax h);obtain⟨b,hb⟩:=nm (H8 w.items[i] wth wout);have hm:=Zz w.items[i] wth wout (by omega) h1 h2;rw[hb]at hm;refine KK ?_;refine Ai λX=>?_;refine KK ?_;refine Fi (h:=(hm ..)) (k:=?_);refine KK ?_
  cases b
  ·refine AB rfl rfl ?_
   refine KK ?_;refine Hh (i+1) K M n ⟨h,?_,hn⟩;rw[bD h hb,hM]
  ·refine Aq rfl rfl ?_
   refine CN λX7=>?_
   refine JM ?_;refine JS (h:=(F6 _ hc1 hc2)) (k:=?_);refine JG ?_;refine I0 (VL (i,w.items[i])) ?_;refine JG ?_;refine RGo.nil (by kernel_rfl) ?_;refine KK ?_;refine Hh (i+1) X7 _ _ ⟨h,?_,?_⟩
   ·rw[Yh h hb,hM,AT];rfl
   ·rw[Ak,hn]
 ·have h:i=w.items.length:=by rw[Ao,AH]at hc;omega
  subst h;refine FL ?_;refine E9 (X:=K) .here (.next .here) rfl (.cons (.base (.sl (by omega))) .nil) ?_
  have hF:AV.frzs ((M.drop 0).take n)=(HB w.items wth wout).map VL:=by
   rw[Cp,BB (by omega),hM];exact Frzs.h
  rw[hF];refine Gw [7] (.next .here) ?_ (by intro d hd;simp only[CX]at hd;subst hd;rfl);refine JA ?_;refine Ag ?_;rfl
theorem Rt(l:List Item)(wth wout:List Int):(HB l wth wout).length<=l.length:=Rs l wth wout l.length
theorem Rr{l:List Item}{wth wout:List Int}{q:Nat×Item}(h:q∈HA l wth wout i):q.2∈l:=by
 induction i with
 |zero=>simp[HA]at h
 |succ i ih=>
  rw[HA,Du]at h;rcases h with h|h
  ·exact ih h
  ·split at h
   ·rename_i it hit
    split at h
    ·simp only[CX]at h
     subst h;exact Bb hit
    ·cases h
   ·cases h
theorem Qv(l:List Comp)(hl:l.length<=1099511627776)(hv:∀c∈l,c.vals.length<=1099511627776):PS prog 42 [B3 false false l] (B3 true true l):=by
 have hlm:(l.map (AZ false)).length=l.length:=AH _;refine Sp (nt:=27) (res:=[.tmp 2]) func42 λSf=>?_
 have hl':(l.map (AZ false)).length<=1099511627776:=by simpa using hl
 have hz0:List.replicate (l.map (AZ false)).length (.agg [iA 0,.prim (.slice none 0 0)])=GF (AZ true) (.agg [iA 0,.prim (.slice none 0 0)]) l 0:=by rw[Ks,hlm]
 (iterate 8 refine WK ?_);refine J1 (.agg [iA 0,.prim (.slice none 0 0)]) λK=>?_;refine KK ?_
 rw[hz0];refine Ca (λ(i:Nat) (M:List AV)=>⟨[(3,.sl K 0 (l.map (AZ false)).length),(9,B3 false false l),(10,iA (l.map (AZ false)).length),(11,iA i)],(K,.row 42 2 M)::Sf⟩) (λi M=>i<=l.length/\M=GF (AZ true) (.agg [iA 0,.prim (.slice none 0 0)]) l i) (λi _=>l.length-i) 0 _ ⟨Ap _,rfl⟩ ?_;rintro i M ⟨hi,hM⟩;refine KK ?_;refine AC rfl (λhc=>?_) (λhc=>?_)
 ·have h:i<l.length:=by simpa using hc
  have hm:i<(l.map (AZ false)).length:=by simpa using h
  have hset:=ME (AZ true) (.agg [iA 0,.prim (.slice none 0 0)]) l h;have hMat:M[i]?=some (.agg [iA 0,.prim (.slice none 0 0)]):=by rw[hM];exact NX _ _ _ h
  have hMl:M.length=l.length:=by rw[hM];exact Pi _ _ _ _ hi
  have hvl:=hv _ (Ax h);obtain⟨⟨ck,cv⟩,hce⟩:=nm (l[i]);rw[hce]at hset hvl;dsimp only at hvl;have hat:(l.map (AZ false))[i]?=some (AZ false ⟨ck,cv⟩):=by rw[Ae,Af h,hce];rfl
  have hcl:=HR cv (by omega);refine KK ?_;refine Ai λV=>?_;refine KK ?_
  refine CN λY=>?_
  refine RU ?_;(iterate 6 refine RK ?_);refine QN hcl ?_;(iterate 3 refine RK ?_);refine RGo.nil (by kernel_rfl) ?_;(repeat refine WF ?_);have hMs:(M.set i (.agg [iA ck,.sl Y 0 (cv.map iA).length]))[i]?=some (.agg [iA ck,.sl Y 0 (cv.map iA).length]):=BY (by omega);refine I5 (X:=Y) (Y:=K) (by exact As) (by exact As) rfl rfl (Hos.at hMs (.agg (.tail (.head .here)))) ?_;rw[List.set_set];refine KK ?_;refine Bn (i+1) _ ⟨h,?_⟩;rw[hM];exact hset
 ·have h:i=l.length:=by rw[Ao,hlm]at hc;omega
  subst h;rw[MF _ _ _ (AP _)]at hM;subst hM;have hK:(l.map (AZ false)).length=(l.map (AZ true)).length:=by simp
  refine JA ?_;exact DA [.sl K 0 (l.map (AZ false)).length] [B3 true true l] (.cons (.cell (.sl (p:=0) .here hK)) .nil)
def itY(q:Nat×Item):YO:=λC=>([iA q.1,.agg [iA q.2.ent.n,iA q.2.ent.gen,.sl C 0 (q.2.comps.map (AZ true)).length]],[(C,.row 42 2 (q.2.comps.map (AZ true)))])
theorem Yi(l:List (Nat×Item))(h0:l.length<=1099511627776)(hl:∀q∈l,q.2.comps.length<=1099511627776/\∀c∈q.2.comps,c.vals.length<=1099511627776):fJ prog 192 [.fp [ZR l]] (l.map itY):=by
 refine⟨by kernel_rfl,λy J Jx hY Sl hJ0=>?_⟩;refine Sp (nt:=25) (res:=[]) func192 λSf=>?_
 refine JN ?_;refine Ca (λ(i:Nat) (Sl:List AS)=>⟨[(0,.prim y),(5,ZR l),(6,iA (l.map VL).length),(7,iA i)],Sl++Sf⟩) (λi Sl=>i<=l.length/\J i Sl) (λi _=>l.length-i) 0 Sl ⟨Ap _,hJ0⟩ ?_;rintro i Sl ⟨hi,hJ⟩;refine KK ?_;refine AC rfl (λhc=>?_) (λhc=>?_)
 ·have h:i<l.length:=by simpa using hc
  obtain⟨hc1,hc2⟩:=hl _ (Ax h);have hcc:=Qv _ hc1 hc2;(repeat refine WF ?_);refine JI ?_;refine Ai λX=>?_;refine JC ?_
  refine CN λC=>?_
  (repeat refine WF ?_);refine GR 11 (by kernel_rfl) (by kernel_rfl) (by kernel_rfl) ?_;dsimp only[List.take,List.drop];(iterate 9 refine RK ?_);refine QN hcc ?_;refine RK ?_;refine RGo.nil (by kernel_rfl) ?_;refine AOps.sub (S':=((C,.row 42 2 (l[i].2.comps.map (AZ true)))::Sl)++Sf) (by exact BH) ?_;refine S8 C (Si:=[]) (ob:=[(C,.row 42 2 (l[i].2.comps.map (AZ true)))]) hY hJ (show(l.map itY)[i]?=some (itY l[i]) by simp[h]) rfl rfl (λSl' hk=>?_) (λSl' hk=>?_)
  ·refine KK ?_
   refine AB rfl rfl ?_;refine KK ?_;refine Bn (i+1) Sl' ⟨h,hk⟩
  ·refine KK ?_
   refine Aq rfl rfl ?_;refine RT ?_;exact B4 Sl' (.inr hk)
 ·have h:i=l.length:=by rw[Ao,AH]at hc;omega
  subst h;refine KK ?_;refine Eb ?_;exact B4 Sl (.inl (by rw[AH];exact hJ))
theorem eN(ks:List Kind)(s:Sys)(o:Op)(h:OpG ks s.reads s.writes o)(hr:s.reads.length<=1099511627776)(hw:s.writes.length<=1099511627776):PS prog 190 [Ba false false ks,FJ false s,opA o] (iA 0):=by
 obtain⟨h1,h2,h3,h4,h5,h6,h7,h8⟩:=h;obtain⟨act,⟨tk,tf⟩,a,b⟩:=o;dsimp only at h1 h2 h3 h4 h5 h6 h7 h8;have g1:decide (act<0)=false:=Az (by omega);have g2:decide (act>12)=false:=Az (by omega)
 have hax:∀i,i<2->∃x,([Dt a,Dt b])[i]?=some (Dt x)/\ArgG ks s.reads s.writes x:=λi hi=>by
  rcases Gz i 1 with e|e
  ·obtain rfl:i=0:=by omega
   exact⟨a,rfl,h3⟩
  ·obtain rfl:i=1:=by omega
   exact⟨b,rfl,h4⟩
 have hkm:(ks.map (CF false)).length=ks.length:=AH _;refine Sp (nt:=201) (res:=[.tmp 6]) func190 λSf=>?_
 refine RG ?_;refine BS ?_;refine BS ?_;refine JC ?_;refine R1 ?_;refine AB rfl g2 ?_
 (iterate 8 refine WK ?_);refine GB (Dt a) (Dt b) ?_;refine KK ?_
 refine B8 (λi:Nat=>⟨[(0,Ba false false ks),(4,.fp (FJ false s).cells),(5,.fp (opA ⟨act,⟨tk,tf⟩,a,b⟩).cells),(27,.lst false 227 4 [Dt a,Dt b]),(28,iA 2),(29,iA i)],Sf⟩) (λi=>i<=2) (λi=>2-i) 0 (by omega) ?_;rintro i hi;refine KK ?_;refine AC rfl (λhc=>?_) (λhc=>?_)
 ·have hi2:i<2:=by rw[Aj]at hc;omega
  obtain⟨⟨xh,xn,⟨xk,xf⟩⟩,hat,hx⟩:=hax i hi2;obtain⟨hy,hn⟩:=hx;dsimp only at hy hn;have hal:i<[Dt a,Dt b].length:=hi2;refine JI ?_;refine Ai λV=>?_;refine JC ?_
  cases xh
  ·obtain⟨n1,n2,n3⟩:=hn rfl
   have k1:decide (xn< -1099511627776)=false:=Az (by omega);have k2:decide (xn>1099511627776)=false:=Az (by omega);refine RG ?_;(repeat first|(refine CS ?_;first|refine Bp ?_|refine Bo ?_)|refine WO ?_|refine Ai λX=>?_|refine Ay λY=>?_);refine NL ?_;refine AB rfl (by first|rfl|assumption) ?_;refine KK ?_;refine BM (i+1) hi2
  ·obtain⟨n1,n2,n3⟩:=hy rfl
   have hf:=L7 ks ⟨xk,xf⟩ n2;refine RG ?_;(repeat first|(refine Bk ?_;first|(refine Bc ?_;first|refine BP (h:=(hf ..)) (k:=?_)))|(refine CS ?_;first|refine Bp ?_|refine Bo ?_)|refine WO ?_|refine Ai λX=>?_|refine Ay λY=>?_);refine NL ?_;refine AB rfl (by first|rfl|assumption) ?_;refine KK ?_;refine BM (i+1) hi2
 ·clear hc
  refine JH ?_;refine Ai λN=>?_;refine JC ?_
  (iterate 7 refine WK ?_);refine GB (Dt a) (Dt b) ?_;refine KK ?_
  refine B8 (λi:Nat=>⟨[(0,Ba false false ks),(4,.fp (FJ false s).cells),(5,.fp (opA ⟨act,⟨tk,tf⟩,a,b⟩).cells),(9,.ptr N 0 0),(63,.lst false 227 4 [Dt a,Dt b]),(64,iA 2),(65,iA i)],(N,.row 225 2 [fT ⟨0,0⟩])::Sf⟩) (λi=>i<=2) (λi=>2-i) 0 (by omega) ?_;rintro i hi;refine KK ?_;refine AC rfl (λhc=>?_) (λhc=>?_)
  ·have hi2:i<2:=by rw[Aj]at hc;omega
   obtain⟨⟨xh,xn,xr⟩,hat,hx⟩:=hax i hi2;obtain⟨hy,hn⟩:=hx;dsimp only at hy hn;have hal:i<[Dt a,Dt b].length:=hi2;refine JI ?_;refine Ai λV=>?_;refine JC ?_
   cases xh
   ·obtain⟨n1,n2,n3⟩:=hn rfl
    subst n3;refine RG ?_;(repeat first|(refine Bk ?_;first|refine BT ?_ (W.neP _ _ (by kernel_rfl) O2 rfl rfl))|(refine CS ?_;first|refine Bp ?_|refine Bo ?_)|refine WO ?_|refine Ai λX=>?_|refine Ay λY=>?_);refine NL ?_;refine AB rfl (by first|rfl|assumption) ?_;refine KK ?_;refine BM (i+1) hi2
   ·obtain⟨n1,n2,n3⟩:=hy rfl
    subst n1;refine RG ?_;(repeat first|(refine CS ?_;first|refine Bp ?_|refine Bo ?_)|refine WO ?_|refine Ai λX=>?_|refine Ay λY=>?_);refine NL ?_;refine AB rfl (by first|rfl|assumption) ?_;refine KK ?_;refine BM (i+1) hi2
  ·clear hc
   refine FL ?_;have hst:=Wf act;have htw:=eD act;obtain⟨sB,hsB⟩:=nm (Ki act);obtain⟨tB,htB⟩:=nm (LU act);obtain⟨c8,hc8⟩:=nm (decide (act=8));obtain⟨c9,hc9⟩:=nm (decide (act=9));rw[hsB]at hst h6;rw[htB]at htw h5;have hk1:∀x:Int,x∈s.writes->s.writes.contains x=true:=λx hx=>by simpa using hx
   have hcw:=λx=>IC s.writes x (by omega)
   have hcr:=λx=>IC s.reads x (by omega)
   have hsB':=hsB;have htB':=htB;unfold Ki at hsB';unfold LU at htB';cases sB<;>cases tB<;>cases c8<;>cases c9
   all_goals first
    |(exfalso;simp only[AF,Cf,Fb,Dq,Aj,Ao]at hsB' htB' hc8 hc9;omega)
    |skip
   ·have ht0:=h8 (by simp only[Ao,Fb]at hc8 hc9 hsB';omega)
    injection ht0 with ht1 ht2
    subst ht1 ht2;have hn9:(!decide (act=9))=true:=by rw[hc9];rfl
    obtain rfl:b=Ju:=h5 rfl;refine R1 ?_;refine RG ?_;(repeat first|(refine Bk ?_;first|(refine Bc ?_;first|refine BU (h:=(hst ..)) (k:=?_)|refine BU (h:=(htw ..)) (k:=?_))|refine BT ?_ (W.neP _ _ (by kernel_rfl) Rp rfl rfl)|refine BT ?_ (W.neP _ _ (by kernel_rfl) O2 rfl rfl))|(refine CS ?_;first|refine Bp ?_|refine Bo ?_)|refine WO ?_|refine Ai λX=>?_|refine Ay λY=>?_);refine NL ?_;refine AB rfl (by first|rfl|assumption) ?_;refine RG ?_;(repeat first|(refine Bk ?_;first|(refine Bc ?_;first|refine BU (h:=(hst ..)) (k:=?_)))|(refine CS ?_;first|refine Bp ?_|refine Bo ?_)|refine WO ?_|refine Ai λX=>?_|refine Ay λY=>?_);refine NL ?_;refine AB rfl (by first|rfl|assumption) ?_;refine RG ?_;(repeat first|(refine Bk ?_;first|(refine Bc ?_;first|refine BU (h:=(hst ..)) (k:=?_)))|(refine CS ?_;first|refine Bp ?_|refine Bo ?_)|refine WO ?_|refine Ai λX=>?_|refine Ay λY=>?_);refine NL ?_;refine AB rfl (by first|rfl|assumption) ?_
    (iterate 8 refine WK ?_);refine GB (Dt a) (Dt Ju) ?_;refine KK ?_
    refine B8 (λi:Nat=>⟨[(0,Ba false false ks),(4,.fp (FJ false s).cells),(174,.lst false 227 4 [Dt a,Dt Ju]),(175,iA 2),(176,iA i)],Sf⟩) (λi=>i<=2) (λi=>2-i) 0 (by omega) ?_;rintro i hi;refine KK ?_;refine AC rfl (λhc=>?_) (λhc=>?_)
    ·have hi2:i<2:=by rw[Aj]at hc;omega
     obtain⟨⟨xh,xn,xr⟩,hat,hx⟩:=hax i hi2;obtain⟨hy,hn⟩:=hx;dsimp only at hy hn;have hal:i<[Dt a,Dt Ju].length:=hi2;refine JI ?_;refine Ai λV=>?_;refine JC ?_
     cases xh
     ·refine RG ?_;(repeat first|(refine CS ?_;first|refine Bp ?_|refine Bo ?_)|refine WO ?_|refine Ai λX=>?_|refine Ay λY=>?_);refine NL ?_
      refine AB rfl (by first|rfl|assumption) ?_;refine KK ?_;refine BM (i+1) hi2
     ·obtain⟨n1,n2,n3⟩:=hy rfl
      have hr1:=hcr xr.kind;have hr2:=hcw xr.kind;cases hrr:s.reads.contains xr.kind
      ·rw[hrr]at hr1
       rw[show s.writes.contains xr.kind=true from by rcases n3 with e|e;rw[e]at hrr;cases hrr;exact e]at hr2;refine JI ?_;refine BP (h:=(hr1 ..)) (k:=?_);refine KO ?_;refine BP (h:=(hr2 ..)) (k:=?_);refine JE ?_;refine AB rfl (by first|rfl|assumption) ?_;refine KK ?_;refine BM (i+1) hi2
      ·rw[hrr]at hr1
       refine RG ?_;(repeat first|(refine Bk ?_;first|(refine Bc ?_;first|refine BP (h:=(hr1 ..)) (k:=?_)))|(refine CS ?_;first|refine Bp ?_|refine Bo ?_)|refine WO ?_|refine Ai λX=>?_|refine Ay λY=>?_);refine NL ?_;refine AB rfl (by first|rfl|assumption) ?_;refine KK ?_;refine BM (i+1) hi2
    ·refine KK ?_
     refine RT ?_;refine Ag ?_;rfl
   ·obtain rfl:act=9:=by simpa using hc9
    obtain⟨p1,p2,rfl⟩:=h7 (.inr rfl);obtain rfl:b=Ju:=h5 rfl;have k1:decide (tk<0)=false:=Az (by omega);have k2:decide (tk>=(ks.map (CF false)).length)=false:=Az (by omega);refine R1 ?_;refine RG ?_;(repeat first|(refine Bk ?_;first|(refine Bc ?_;first|refine BU (h:=(hst ..)) (k:=?_)|refine BU (h:=(htw ..)) (k:=?_))|refine BT ?_ (W.neP _ _ (by kernel_rfl) Rp rfl rfl)|refine BT ?_ (W.neP _ _ (by kernel_rfl) O2 rfl rfl))|(refine CS ?_;first|refine Bp ?_|refine Bo ?_)|refine WO ?_|refine Ai λX=>?_|refine Ay λY=>?_);refine NL ?_;refine AB rfl (by first|rfl|assumption) ?_;refine RG ?_;(repeat first|(refine Bk ?_;first|(refine Bc ?_;first|refine BU (h:=(hst ..)) (k:=?_)))|(refine CS ?_;first|refine Bp ?_|refine Bo ?_)|refine WO ?_|refine Ai λX=>?_|refine Ay λY=>?_);refine NL ?_;refine AB rfl (by first|rfl|assumption) ?_;refine RG ?_;(repeat first|(refine Bk ?_;first|(refine Bc ?_;first|refine BU (h:=(hst ..)) (k:=?_)))|(refine CS ?_;first|refine Bp ?_|refine Bo ?_)|refine WO ?_|refine Ai λX=>?_|refine Ay λY=>?_);refine NL ?_;refine AB rfl (by first|rfl|assumption) ?_
    (iterate 8 refine WK ?_);refine GB (Dt a) (Dt Ju) ?_;refine KK ?_
    refine B8 (λi:Nat=>⟨[(0,Ba false false ks),(4,.fp (FJ false s).cells),(174,.lst false 227 4 [Dt a,Dt Ju]),(175,iA 2),(176,iA i)],Sf⟩) (λi=>i<=2) (λi=>2-i) 0 (by omega) ?_;rintro i hi;refine KK ?_;refine AC rfl (λhc=>?_) (λhc=>?_)
    ·have hi2:i<2:=by rw[Aj]at hc;omega
     obtain⟨⟨xh,xn,xr⟩,hat,hx⟩:=hax i hi2;obtain⟨hy,hn⟩:=hx;dsimp only at hy hn;have hal:i<[Dt a,Dt Ju].length:=hi2;refine JI ?_;refine Ai λV=>?_;refine JC ?_
     cases xh
     ·refine RG ?_;(repeat first|(refine CS ?_;first|refine Bp ?_|refine Bo ?_)|refine WO ?_|refine Ai λX=>?_|refine Ay λY=>?_);refine NL ?_
      refine AB rfl (by first|rfl|assumption) ?_;refine KK ?_;refine BM (i+1) hi2
     ·obtain⟨n1,n2,n3⟩:=hy rfl
      have hr1:=hcr xr.kind;have hr2:=hcw xr.kind;cases hrr:s.reads.contains xr.kind
      ·rw[hrr]at hr1
       rw[show s.writes.contains xr.kind=true from by rcases n3 with e|e;rw[e]at hrr;cases hrr;exact e]at hr2;refine JI ?_;refine BP (h:=(hr1 ..)) (k:=?_);refine KO ?_;refine BP (h:=(hr2 ..)) (k:=?_);refine JE ?_;refine AB rfl (by first|rfl|assumption) ?_;refine KK ?_;refine BM (i+1) hi2
      ·rw[hrr]at hr1
       refine RG ?_;(repeat first|(refine Bk ?_;first|(refine Bc ?_;first|refine BP (h:=(hr1 ..)) (k:=?_)))|(refine CS ?_;first|refine Bp ?_|refine Bo ?_)|refine WO ?_|refine Ai λX=>?_|refine Ay λY=>?_);refine NL ?_;refine AB rfl (by first|rfl|assumption) ?_;refine KK ?_;refine BM (i+1) hi2
    ·refine KK ?_
     refine RT ?_;refine Ag ?_;rfl
   ·obtain rfl:act=8:=by simpa using hc8
    obtain⟨p1,p2,rfl⟩:=h7 (.inl rfl);obtain rfl:b=Ju:=h5 rfl;have k1:decide (tk<0)=false:=Az (by omega);have k2:decide (tk>=(ks.map (CF false)).length)=false:=Az (by omega);refine R1 ?_;refine RG ?_;(repeat first|(refine Bk ?_;first|(refine Bc ?_;first|refine BU (h:=(hst ..)) (k:=?_)|refine BU (h:=(htw ..)) (k:=?_))|refine BT ?_ (W.neP _ _ (by kernel_rfl) Rp rfl rfl)|refine BT ?_ (W.neP _ _ (by kernel_rfl) O2 rfl rfl))|(refine CS ?_;first|refine Bp ?_|refine Bo ?_)|refine WO ?_|refine Ai λX=>?_|refine Ay λY=>?_);refine NL ?_;refine AB rfl (by first|rfl|assumption) ?_;refine RG ?_;(repeat first|(refine Bk ?_;first|(refine Bc ?_;first|refine BU (h:=(hst ..)) (k:=?_)))|(refine CS ?_;first|refine Bp ?_|refine Bo ?_)|refine WO ?_|refine Ai λX=>?_|refine Ay λY=>?_);refine NL ?_;refine AB rfl (by first|rfl|assumption) ?_;refine RG ?_;(repeat first|(refine Bk ?_;first|(refine Bc ?_;first|refine BU (h:=(hst ..)) (k:=?_)))|(refine CS ?_;first|refine Bp ?_|refine Bo ?_)|refine WO ?_|refine Ai λX=>?_|refine Ay λY=>?_);refine NL ?_;refine AB rfl (by first|rfl|assumption) ?_
    (iterate 8 refine WK ?_);refine GB (Dt a) (Dt Ju) ?_;refine KK ?_
    refine B8 (λi:Nat=>⟨[(0,Ba false false ks),(4,.fp (FJ false s).cells),(174,.lst false 227 4 [Dt a,Dt Ju]),(175,iA 2),(176,iA i)],Sf⟩) (λi=>i<=2) (λi=>2-i) 0 (by omega) ?_;rintro i hi;refine KK ?_;refine AC rfl (λhc=>?_) (λhc=>?_)
    ·have hi2:i<2:=by rw[Aj]at hc;omega
     obtain⟨⟨xh,xn,xr⟩,hat,hx⟩:=hax i hi2;obtain⟨hy,hn⟩:=hx;dsimp only at hy hn;have hal:i<[Dt a,Dt Ju].length:=hi2;refine JI ?_;refine Ai λV=>?_;refine JC ?_
     cases xh
     ·refine RG ?_;(repeat first|(refine CS ?_;first|refine Bp ?_|refine Bo ?_)|refine WO ?_|refine Ai λX=>?_|refine Ay λY=>?_);refine NL ?_
      refine AB rfl (by first|rfl|assumption) ?_;refine KK ?_;refine BM (i+1) hi2
     ·obtain⟨n1,n2,n3⟩:=hy rfl
      have hr1:=hcr xr.kind;have hr2:=hcw xr.kind;cases hrr:s.reads.contains xr.kind
      ·rw[hrr]at hr1
       rw[show s.writes.contains xr.kind=true from by rcases n3 with e|e;rw[e]at hrr;cases hrr;exact e]at hr2;refine JI ?_;refine BP (h:=(hr1 ..)) (k:=?_);refine KO ?_;refine BP (h:=(hr2 ..)) (k:=?_);refine JE ?_;refine AB rfl (by first|rfl|assumption) ?_;refine KK ?_;refine BM (i+1) hi2
      ·rw[hrr]at hr1
       refine RG ?_;(repeat first|(refine Bk ?_;first|(refine Bc ?_;first|refine BP (h:=(hr1 ..)) (k:=?_)))|(refine CS ?_;first|refine Bp ?_|refine Bo ?_)|refine WO ?_|refine Ai λX=>?_|refine Ay λY=>?_);refine NL ?_;refine AB rfl (by first|rfl|assumption) ?_;refine KK ?_;refine BM (i+1) hi2
    ·refine KK ?_
     refine RT ?_;refine Ag ?_;rfl
   ·have ht0:=h8 (by simp only[Ao,Fb]at hc8 hc9 hsB';omega)
    injection ht0 with ht1 ht2
    subst ht1 ht2;have hn9:(!decide (act=9))=true:=by rw[hc9];rfl
    refine R1 ?_;refine RG ?_;(repeat first|(refine Bk ?_;first|(refine Bc ?_;first|refine BU (h:=(hst ..)) (k:=?_)|refine BU (h:=(htw ..)) (k:=?_))|refine BT ?_ (W.neP _ _ (by kernel_rfl) Rp rfl rfl)|refine BT ?_ (W.neP _ _ (by kernel_rfl) O2 rfl rfl))|(refine CS ?_;first|refine Bp ?_|refine Bo ?_)|refine WO ?_|refine Ai λX=>?_|refine Ay λY=>?_);refine NL ?_;refine AB rfl (by first|rfl|assumption) ?_;refine RG ?_;(repeat first|(refine Bk ?_;first|(refine Bc ?_;first|refine BU (h:=(hst ..)) (k:=?_)))|(refine CS ?_;first|refine Bp ?_|refine Bo ?_)|refine WO ?_|refine Ai λX=>?_|refine Ay λY=>?_);refine NL ?_;refine AB rfl (by first|rfl|assumption) ?_;refine RG ?_;(repeat first|(refine Bk ?_;first|(refine Bc ?_;first|refine BU (h:=(hst ..)) (k:=?_)))|(refine CS ?_;first|refine Bp ?_|refine Bo ?_)|refine WO ?_|refine Ai λX=>?_|refine Ay λY=>?_);refine NL ?_;refine AB rfl (by first|rfl|assumption) ?_
    (iterate 8 refine WK ?_);refine GB (Dt a) (Dt b) ?_;refine KK ?_
    refine B8 (λi:Nat=>⟨[(0,Ba false false ks),(4,.fp (FJ false s).cells),(174,.lst false 227 4 [Dt a,Dt b]),(175,iA 2),(176,iA i)],Sf⟩) (λi=>i<=2) (λi=>2-i) 0 (by omega) ?_;rintro i hi;refine KK ?_;refine AC rfl (λhc=>?_) (λhc=>?_)
    ·have hi2:i<2:=by rw[Aj]at hc;omega
     obtain⟨⟨xh,xn,xr⟩,hat,hx⟩:=hax i hi2;obtain⟨hy,hn⟩:=hx;dsimp only at hy hn;have hal:i<[Dt a,Dt b].length:=hi2;refine JI ?_;refine Ai λV=>?_;refine JC ?_
     cases xh
     ·refine RG ?_;(repeat first|(refine CS ?_;first|refine Bp ?_|refine Bo ?_)|refine WO ?_|refine Ai λX=>?_|refine Ay λY=>?_);refine NL ?_
      refine AB rfl (by first|rfl|assumption) ?_;refine KK ?_;refine BM (i+1) hi2
     ·obtain⟨n1,n2,n3⟩:=hy rfl
      have hr1:=hcr xr.kind;have hr2:=hcw xr.kind;cases hrr:s.reads.contains xr.kind
      ·rw[hrr]at hr1
       rw[show s.writes.contains xr.kind=true from by rcases n3 with e|e;rw[e]at hrr;cases hrr;exact e]at hr2;refine JI ?_;refine BP (h:=(hr1 ..)) (k:=?_);refine KO ?_;refine BP (h:=(hr2 ..)) (k:=?_);refine JE ?_;refine AB rfl (by first|rfl|assumption) ?_;refine KK ?_;refine BM (i+1) hi2
      ·rw[hrr]at hr1
       refine RG ?_;(repeat first|(refine Bk ?_;first|(refine Bc ?_;first|refine BP (h:=(hr1 ..)) (k:=?_)))|(refine CS ?_;first|refine Bp ?_|refine Bo ?_)|refine WO ?_|refine Ai λX=>?_|refine Ay λY=>?_);refine NL ?_;refine AB rfl (by first|rfl|assumption) ?_;refine KK ?_;refine BM (i+1) hi2
    ·refine KK ?_
     refine RT ?_;refine Ag ?_;rfl
   ·obtain rfl:b=Ju:=h5 rfl
    obtain⟨hR,hW⟩:=h6 rfl;have hf:=L7 ks ⟨tk,tf⟩ hR;have hcw1:=hcw tk;rw[hW]at hcw1;refine R1 ?_;refine RG ?_;(repeat first|(refine Bk ?_;first|(refine Bc ?_;first|refine BU (h:=(hst ..)) (k:=?_)|refine BU (h:=(htw ..)) (k:=?_))|refine BT ?_ (W.neP _ _ (by kernel_rfl) Rp rfl rfl)|refine BT ?_ (W.neP _ _ (by kernel_rfl) O2 rfl rfl))|(refine CS ?_;first|refine Bp ?_|refine Bo ?_)|refine WO ?_|refine Ai λX=>?_|refine Ay λY=>?_);refine NL ?_;refine AB rfl (by first|rfl|assumption) ?_;refine RG ?_;(repeat first|(refine Bk ?_;first|(refine Bc ?_;first|refine BU (h:=(hst ..)) (k:=?_)|refine BP (h:=(hf ..)) (k:=?_)))|(refine CS ?_;first|refine Bp ?_|refine Bo ?_)|refine WO ?_|refine Ai λX=>?_|refine Ay λY=>?_);refine NL ?_;refine AB rfl (by first|rfl|assumption) ?_;refine JI ?_;refine BU (h:=(hst ..)) (k:=?_);refine KO ?_;refine BP (h:=(hcw1 ..)) (k:=?_);refine JE ?_;refine AB rfl (by first|rfl|assumption) ?_
    (iterate 8 refine WK ?_);refine GB (Dt a) (Dt Ju) ?_;refine KK ?_
    refine B8 (λi:Nat=>⟨[(0,Ba false false ks),(4,.fp (FJ false s).cells),(174,.lst false 227 4 [Dt a,Dt Ju]),(175,iA 2),(176,iA i)],Sf⟩) (λi=>i<=2) (λi=>2-i) 0 (by omega) ?_;rintro i hi;refine KK ?_;refine AC rfl (λhc=>?_) (λhc=>?_)
    ·have hi2:i<2:=by rw[Aj]at hc;omega
     obtain⟨⟨xh,xn,xr⟩,hat,hx⟩:=hax i hi2;obtain⟨hy,hn⟩:=hx;dsimp only at hy hn;have hal:i<[Dt a,Dt Ju].length:=hi2;refine JI ?_;refine Ai λV=>?_;refine JC ?_
     cases xh
     ·refine RG ?_;(repeat first|(refine CS ?_;first|refine Bp ?_|refine Bo ?_)|refine WO ?_|refine Ai λX=>?_|refine Ay λY=>?_);refine NL ?_
      refine AB rfl (by first|rfl|assumption) ?_;refine KK ?_;refine BM (i+1) hi2
     ·obtain⟨n1,n2,n3⟩:=hy rfl
      have hr1:=hcr xr.kind;have hr2:=hcw xr.kind;cases hrr:s.reads.contains xr.kind
      ·rw[hrr]at hr1
       rw[show s.writes.contains xr.kind=true from by rcases n3 with e|e;rw[e]at hrr;cases hrr;exact e]at hr2;refine JI ?_;refine BP (h:=(hr1 ..)) (k:=?_);refine KO ?_;refine BP (h:=(hr2 ..)) (k:=?_);refine JE ?_;refine AB rfl (by first|rfl|assumption) ?_;refine KK ?_;refine BM (i+1) hi2
      ·rw[hrr]at hr1
       refine RG ?_;(repeat first|(refine Bk ?_;first|(refine Bc ?_;first|refine BP (h:=(hr1 ..)) (k:=?_)))|(refine CS ?_;first|refine Bp ?_|refine Bo ?_)|refine WO ?_|refine Ai λX=>?_|refine Ay λY=>?_);refine NL ?_;refine AB rfl (by first|rfl|assumption) ?_;refine KK ?_;refine BM (i+1) hi2
    ·refine KK ?_
     refine RT ?_;refine Ag ?_;rfl
   ·obtain⟨hR,hW⟩:=h6 rfl
    have hf:=L7 ks ⟨tk,tf⟩ hR;have hcw1:=hcw tk;rw[hW]at hcw1;refine R1 ?_;refine RG ?_;(repeat first|(refine Bk ?_;first|(refine Bc ?_;first|refine BU (h:=(hst ..)) (k:=?_)|refine BU (h:=(htw ..)) (k:=?_))|refine BT ?_ (W.neP _ _ (by kernel_rfl) Rp rfl rfl)|refine BT ?_ (W.neP _ _ (by kernel_rfl) O2 rfl rfl))|(refine CS ?_;first|refine Bp ?_|refine Bo ?_)|refine WO ?_|refine Ai λX=>?_|refine Ay λY=>?_);refine NL ?_;refine AB rfl (by first|rfl|assumption) ?_;refine RG ?_;(repeat first|(refine Bk ?_;first|(refine Bc ?_;first|refine BU (h:=(hst ..)) (k:=?_)|refine BP (h:=(hf ..)) (k:=?_)))|(refine CS ?_;first|refine Bp ?_|refine Bo ?_)|refine WO ?_|refine Ai λX=>?_|refine Ay λY=>?_);refine NL ?_;refine AB rfl (by first|rfl|assumption) ?_;refine JI ?_;refine BU (h:=(hst ..)) (k:=?_);refine KO ?_;refine BP (h:=(hcw1 ..)) (k:=?_);refine JE ?_;refine AB rfl (by first|rfl|assumption) ?_
    (iterate 8 refine WK ?_);refine GB (Dt a) (Dt b) ?_;refine KK ?_
    refine B8 (λi:Nat=>⟨[(0,Ba false false ks),(4,.fp (FJ false s).cells),(174,.lst false 227 4 [Dt a,Dt b]),(175,iA 2),(176,iA i)],Sf⟩) (λi=>i<=2) (λi=>2-i) 0 (by omega) ?_;rintro i hi;refine KK ?_;refine AC rfl (λhc=>?_) (λhc=>?_)
    ·have hi2:i<2:=by rw[Aj]at hc;omega
     obtain⟨⟨xh,xn,xr⟩,hat,hx⟩:=hax i hi2;obtain⟨hy,hn⟩:=hx;dsimp only at hy hn;have hal:i<[Dt a,Dt b].length:=hi2;refine JI ?_;refine Ai λV=>?_;refine JC ?_
     cases xh
     ·refine RG ?_;(repeat first|(refine CS ?_;first|refine Bp ?_|refine Bo ?_)|refine WO ?_|refine Ai λX=>?_|refine Ay λY=>?_);refine NL ?_
      refine AB rfl (by first|rfl|assumption) ?_;refine KK ?_;refine BM (i+1) hi2
     ·obtain⟨n1,n2,n3⟩:=hy rfl
      have hr1:=hcr xr.kind;have hr2:=hcw xr.kind;cases hrr:s.reads.contains xr.kind
      ·rw[hrr]at hr1
       rw[show s.writes.contains xr.kind=true from by rcases n3 with e|e;rw[e]at hrr;cases hrr;exact e]at hr2;refine JI ?_;refine BP (h:=(hr1 ..)) (k:=?_);refine KO ?_;refine BP (h:=(hr2 ..)) (k:=?_);refine JE ?_;refine AB rfl (by first|rfl|assumption) ?_;refine KK ?_;refine BM (i+1) hi2
      ·rw[hrr]at hr1
       refine RG ?_;(repeat first|(refine Bk ?_;first|(refine Bc ?_;first|refine BP (h:=(hr1 ..)) (k:=?_)))|(refine CS ?_;first|refine Bp ?_|refine Bo ?_)|refine WO ?_|refine Ai λX=>?_|refine Ay λY=>?_);refine NL ?_;refine AB rfl (by first|rfl|assumption) ?_;refine KK ?_;refine BM (i+1) hi2
    ·refine KK ?_
     refine RT ?_;refine Ag ?_;rfl
theorem fW(ks:List Kind)(s:Sys)(o:Op)(h:OpG ks s.reads s.writes o)(hr:s.reads.length<=1099511627776)(hw:s.writes.length<=1099511627776):PS prog 190 [Ba false false ks,FJ false s,opA o] (iA 0):=eN ks s o h hr hw
theorem UE(n:Nat)(hn:n*8<=140737488355328):PS prog 203 [.prim (.slice none 0 0),iA n] (.lst true 3 1 []):=by
 refine Sp (nt:=27) (res:=[.tmp 4]) func203 λSf=>?_
 refine KK ?_;refine AB rfl (Az (by omega)) ?_
 (iterate 6 refine WK ?_);refine AI (W.capN rfl) rfl ?_;refine KK ?_
 refine AC rfl (λhc=>?_) (λhc=>?_)
 ·have hc:0<n:=by rw[Aj]at hc;omega
  (repeat first|(refine Bk ?_;first|refine AI (W.capN rfl) rfl ?_|refine AI (bI rfl rfl) rfl ?_|(refine Up ?_;refine WX (n:=n) (λY=>?_) hc hn (hq:=by omega))|refine AI (W.hi (a:=0) rfl rfl (by exact As) rfl (by omega)) rfl ?_)|refine WK ?_|refine Ai λX=>?_|refine Ay λY=>?_);refine FP (X:=Y) 0 ?_;refine RT ?_;exact⟨[.sl Y 0 0],[.lst true 3 1 []],_,[],.cons (.tmp rfl) rfl .nil,.cons (.cell (.sl (p:=0) .here rfl)) .nil,by exact BH,rfl,rfl⟩
 ·refine KK ?_
  refine RT ?_;exact⟨[.prim (.slice none 0 0)],[.lst true 3 1 []],_,[],.cons (.tmp rfl) rfl .nil,.cons (.cell .nil) .nil,by exact BH,rfl,rfl⟩
def I7(ls:List (List Int))(i:Nat):Nat:=((ls.take i).flatten).length
theorem Nm{ls:List (List Int)}(h:i<ls.length):I7 ls (i+1)=I7 ls i+ls[i].length:=by
 unfold I7;rw[A6 h,FC,Ak];simp
theorem X5(ls:List (List Int))(i:Nat):I7 ls i<=ls.flatten.length:=by
 unfold I7;have h:((ls.take i).flatten++(ls.drop i).flatten)=ls.flatten:=by rw[<-FC,CJ]
 rw[<-h,Ak];omega
theorem Pv(ls:List (List Int))(hl:ls.length<=4611686018427387903)(hb:ls.flatten.length*8<=140737488355328):PS prog 142 [.lst false 22 1 (ls.map λl=>.lst false 3 1 (l.map iA))] (.lst true 3 1 (ls.flatten.map iA)):=by
 refine Sp (nt:=36) (res:=[.tmp 2]) func142 λSf=>?_
 have hle:=X5 ls;refine KK ?_;refine Ca (λ(i:Nat) (s:Int)=>⟨[(0,.lst false 22 1 (ls.map λl=>.lst false 3 1 (l.map iA))),(3,iA s),(9,.lst false 22 1 (ls.map λl=>.lst false 3 1 (l.map iA))),(10,iA (ls.map λl=>AV.lst false 3 1 (l.map iA)).length),(11,iA i)],Sf⟩) (λi s=>i<=ls.length/\s=I7 ls i) (λi _=>ls.length-i) 0 0 ⟨Ap _,rfl⟩ ?_;rintro i s ⟨hi,hs⟩;have h0:=hle i;refine KK ?_;refine AC rfl (λhc=>?_) (λhc=>?_)
 ·have h:i<ls.length:=by rw[Aj,AH]at hc;omega
  have hs1:=Nm h;have h1:=hle (i+1);have hml:(ls[i].map iA).length=ls[i].length:=AH _;refine KK ?_;refine AB rfl (Az (by omega)) ?_;refine KK ?_;exact Bn (i+1) (s+(ls[i].map iA).length) ⟨h,by omega⟩
 ·have h:i=ls.length:=by rw[Ao,AH]at hc;omega
  subst h;have hfull:I7 ls ls.length=ls.flatten.length:=by unfold I7;rw[B9]
  subst hs;have hg:=UE (I7 ls ls.length) (by rw[hfull];exact hb);refine KK ?_;refine dt (h:=hg) λY=>?_;refine KK ?_
  refine LP (λ(i Y m:Nat) (L:List AV)=>⟨[(6,.sl Y 0 m),(25,.lst false 22 1 (ls.map λl=>.lst false 3 1 (l.map iA))),(26,iA (ls.map λl=>AV.lst false 3 1 (l.map iA)).length),(27,iA i)],(Y,.row 3 1 L)::Sf⟩) (λi _ m L=>i<=ls.length/\m=L.length/\L=((ls.take i).flatten).map iA) (λi _ _ _=>ls.length-i) 0 Y 0 [] ⟨Ap _,rfl,rfl⟩ ?_;rintro i Y m L ⟨hi,hm,hL⟩;have hLl:L.length=I7 ls i:=by rw[hL,AH];rfl
  refine KK ?_;refine AC rfl (λhd=>?_) (λhd=>?_)
  ·have h:i<ls.length:=by rw[Aj,AH]at hd;omega
   have hs1:=Nm h;have h1:=hle (i+1);have hml:(ls[i].map iA).length=ls[i].length:=AH _;have hbd:(m+(ls[i].map iA).length)*8<=140737488355328:=by omega
   refine KK ?_;refine Ay λY=>?_;refine KK ?_
   refine Hh (i+1) Y _ _ ⟨h,?_,?_⟩
   ·rw[Ak,hm]
   ·rw[A6 h,FC,AT,<-hL];simp
  ·have h:i=ls.length:=by rw[Ao,AH]at hd;omega
   subst h;rw[B9]at hL;subst hL;refine JA ?_;exact⟨[.sl Y 0 m],[.lst true 3 1 (ls.flatten.map iA)],_,[],.cons (.tmp rfl) rfl .nil,.cons (.cell (.sl (p:=0) .here hm)) .nil,by exact BH,rfl,rfl⟩
structure SysG(ks:List Kind)(s:Sys):Prop where
 name:FN s.name=true
 len:s.ops.length<=20
 o:∀l∈[s.wth,s.wout,s.reads,s.writes],l.Pairwise (· < ·)/\(∀x∈l,0<=x/\x<ks.length)/\l.length<=16
 clash:(s.wth.any λx=>s.wout.contains x)=false
 typ:((s.reads++s.writes).any λx=>!s.wth.contains x)=false
 spawn:(EO ks s.spawn).2=0
 sp:s.spawn.length<=1099511627776
 ops:∀o∈s.ops,OpG ks s.reads s.writes o
theorem Nh(ks:List Kind)(s:Sys)(hk:CB ks=0)(h12:ks.length<=12)(h:SysG ks s):PS prog 134 [Ba false false ks,FJ false s] (iA 0):=by
 have hck:=P3 ks;rw[hk]at hck;have hnm:=SW s.name;rw[h.name]at hnm;have hl1:=h.o s.wth (by simp);have hl2:=h.o s.wout (by simp);have hl3:=h.o s.reads (by simp);have hl4:=h.o s.writes (by simp);have hft:=MR ks s.spawn h12 h.sp;rw[h.spawn]at hft;have hcl:=F7 s.wth 187 [.fp (FJ false s).cells] (λx=>s.wout.contains x) rfl (by omega) (λx _=>SI s x (by omega));rw[h.clash]at hcl;have hty:=F7 (s.reads++s.writes) 189 [.fp (FJ false s).cells] (λx=>!s.wth.contains x) rfl (by rw[Ak];omega) (λx _=>SH s x (by omega));rw[h.typ]at hty;have hom:(s.ops.map opA).length=s.ops.length:=AH _;have hol:=h.len;have hle:decide (((s.ops.map opA).length:Int)>20)=false:=Az (by omega);refine Sp (nt:=85) (res:=[.tmp 4]) func134 λSf=>?_
 refine RG ?_;refine BS ?_;refine JC ?_;refine KK ?_;refine BU (h:=(hck ..)) (k:=?_);refine KK ?_;refine AB rfl rfl ?_;refine KK ?_;refine BU (h:=(hnm ..)) (k:=?_);refine KK ?_;refine AB rfl rfl ?_;refine KK ?_;refine AB rfl hle ?_
 have hax:∀i,i<4->∃l,([Av false s.wth,Av false s.wout,Av false s.reads,Av false s.writes])[i]?=some (Av false l)/\l.Pairwise (· < ·)/\(∀x∈l,0<=x/\x<ks.length)/\l.length<=16:=λi hi=>by
  rcases(show i=0\/i=1\/i=2\/i=3 by omega)with rfl|rfl|rfl|rfl
  ·exact⟨_,rfl,hl1⟩
  ·exact⟨_,rfl,hl2⟩
  ·exact⟨_,rfl,hl3⟩
  ·exact⟨_,rfl,hl4⟩
 refine KK ?_;refine B8 (λi:Nat=>⟨[(0,Ba false false ks),(3,.fp (FJ false s).cells),(35,.lst false 22 1 [Av false s.wth,Av false s.wout,Av false s.reads,Av false s.writes]),(36,iA 4),(37,iA i)],Sf⟩) (λi=>i<=4) (λi=>4-i) 0 (by omega) ?_;rintro i hi;refine KK ?_;refine AC rfl (λhc=>?_) (λhc=>?_)
 ·have hi2:i<4:=by rw[Aj]at hc;omega
  obtain⟨l,hat,p1,p2,p3⟩:=hax i hi2;have hst:=eE ks l p1 p2 (by omega);have hal:i<[Av false s.wth,Av false s.wout,Av false s.reads,Av false s.writes].length:=hi2;refine KK ?_;refine BP (h:=(hst ..)) (k:=?_);refine KK ?_;refine AB rfl rfl ?_;refine KK ?_;refine BM (i+1) hi2
 ·clear hc
  refine KK ?_;refine BP (h:=(hcl ..)) (k:=?_);refine KK ?_;refine AB rfl rfl ?_;have hcc:=Pv [s.reads,s.writes] (by simp) (by simp;omega);rw[show[s.reads,s.writes].flatten=s.reads++s.writes from by simp]at hcc
  (iterate 8 refine WK ?_);refine GB (Av false s.reads) (Av false s.writes) ?_;refine BU (h:=(hcc ..)) (k:=?_);refine WK ?_;refine BP (h:=(hty ..)) (k:=?_);refine KK ?_
  refine AB rfl rfl ?_;refine KK ?_;refine BP (h:=(hft ..)) (k:=?_);refine KK ?_;refine AB rfl rfl ?_;refine KK ?_;refine B8 (λi:Nat=>⟨[(0,Ba false false ks),(3,.fp (FJ false s).cells),(71,cb false s.ops),(72,iA (s.ops.map opA).length),(73,iA i)],Sf⟩) (λi=>i<=s.ops.length) (λi=>s.ops.length-i) 0 (by omega) ?_;rintro i hi;refine KK ?_;refine AC rfl (λhc=>?_) (λhc=>?_)
  ·have hi2:i<s.ops.length:=by rw[Aj,hom]at hc;omega
   have hop:=fW ks s s.ops[i] (h.ops _ (Ax hi2)) (by omega) (by omega);have hat:(s.ops.map opA)[i]?=some (opA s.ops[i]):=by rw[Ae,Af hi2];rfl
   refine JI ?_;refine Ai λV=>?_;refine JC ?_
   refine JI ?_;refine Fi (h:=(hop ..)) (k:=?_);refine JC ?_;refine KK ?_;refine AB rfl rfl ?_;refine KK ?_;refine BM (i+1) hi2
  ·refine KK ?_
   refine RT ?_;refine Ag ?_;rfl
structure RnG(ks:List Kind)(s:Sys)(st:Rn):Prop where
 held:Cb ks st.comps=true
 has:QP s st.comps
 odd:st.r.2.toNat%2=1
theorem Uv(act a b:Int)(r:UInt64×UInt64):(Gm act a b r).2.2=r.2:=by
 have hg:(HT r a.toNat).2.2=r.2:=by unfold HT;exact Li _ _ _
 unfold Gm;obtain⟨res,hres⟩:=nm (HT r a.toNat);rw[hres]at hg⊢;clear hres;split
 ·rfl
 split
 ·rfl
 split
 ·rfl
 split
 ·rfl
 split
 ·rfl
 split
 ·rfl
 split
 ·split
  ·rfl
  ·exact hg
 ·rfl
theorem aj{o:Op}{st:Rn}(hk:CB ks=0)(h:RnG ks s st)(ho:OpG ks s.reads s.writes o):RnG ks s (doM ks s index e o st)/\(doM ks s index e o st).cmds.length<=st.cmds.length+1/\(doM ks s index e o st).evs.length<=st.evs.length+1:=by
 obtain⟨h1,h2,h3⟩:=h;unfold doM;by_cases hs:Ki o.act=true
 ·rw[AY hs]
  obtain⟨hR,hW⟩:=ho.sets hs;obtain⟨c,k,e1,e2,e3,e4,e5,e6,e7⟩:=O1 h1 h2 hR (.inr hW);refine⟨⟨Xi hk h1 e1 e3 e5 e6 _,Vl h2 (Or (held_iff.1 h1).1 _ _ _),?_⟩,LL _,LL _⟩;dsimp only;rw[Uv];exact h3
 ·rw[AM hs]
  by_cases hz:Mq st.comps o.a=0
  ·rw[AY hz]
   exact⟨⟨h1,h2,h3⟩,LL _,LL _⟩
  ·rw[AM hz]
   by_cases h12:o.act=12
   ·rw[AY h12]
    exact⟨⟨h1,h2,h3⟩,LL _,by simp⟩
   ·rw[AM h12]
    exact⟨⟨h1,h2,h3⟩,by simp,LL _⟩
def KX(ks:List Kind)(s:Sys)(index:Int)(e:Ent)(os:List Op)(st:Rn):Rn:=os.foldl (λst o=>doM ks s index e o st) st
theorem SU{index:Int}{e:Ent}(hk:CB ks=0):∀(os:List Op) {st:Rn} (h:RnG ks s st) (ho:∀o∈os,OpG ks s.reads s.writes o),RnG ks s (KX ks s index e os st)/\(KX ks s index e os st).cmds.length<=st.cmds.length+os.length/\(KX ks s index e os st).evs.length<=st.evs.length+os.length
 |[],st,h,ho=>⟨h,AP _,AP _⟩
 |o::os,st,h,ho=>by
  obtain⟨g1,g2,g3⟩:=aj (index:=index) (e:=e) hk h (ho o (by simp));obtain⟨k1,k2,k3⟩:=SU (index:=index) (e:=e) hk os g1 (λo' h'=>ho o' (by simp[h']));refine⟨k1,?_,?_⟩
  ·show(KX ks s index e os (doM ks s index e o st)).cmds.length<=_
   rw[DM];omega
  ·show(KX ks s index e os (doM ks s index e o st)).evs.length<=_
   rw[DM];omega
theorem Xs{os:List Op}(h:i<os.length)(st:Rn):KX ks s index e (os.take (i+1)) st=doM ks s index e os[i] (KX ks s index e (os.take i) st):=by
 unfold KX;rw[A6 h,XB];rfl
def Id(ks:List Kind)(s:Sys)(index seed tick:Int)(x:Item)(cm:List Cmd)(ev:List Evt):Rn:=KX ks s index x.ent s.ops ⟨x.comps,Je [seed,tick,index,x.ent.n],cm,ev⟩
def Is(ks:List Kind)(s:Sys)(index seed tick:Int)(qs:List (Nat×Item))(b:List Item×List Cmd×List Evt):List Item×List Cmd×List Evt:=
 qs.foldl (λb q=>(b.1.set q.1 ⟨q.2.ent,(Id ks s index seed tick q.2 b.2.1 b.2.2).comps⟩,(Id ks s index seed tick q.2 b.2.1 b.2.2).cmds,(Id ks s index seed tick q.2 b.2.1 b.2.2).evs)) b
theorem VK{index seed tick:Int}{qs:List (Nat×Item)}(h:i<qs.length)(b:List Item×List Cmd×List Evt):Is ks s index seed tick (qs.take (i+1)) b=Is ks s index seed tick [qs[i]] (Is ks s index seed tick (qs.take i) b):=by
 unfold Is;rw[A6 h,XB]
def LS(w:Wd)(s:Sys)(index seed tick:Int):List Item×List Cmd×List Evt:=Is w.kinds s index seed tick (HB w.items s.wth s.wout) (w.items,[],[])
theorem NK(l:List Int):(Je l).2.toNat%2=1:=by
 unfold Je;dsimp only;rw[b8];have:(1:UInt64).toNat=1:=rfl;rw[this,<-gO,Nat.and_or_distrib_right];rw[gO];rcases dg (Hg (Hg (l.foldl Q6 (UInt64.ofNat l.length)+KB)+KB)).toNat with h|h<;>rw[h]<;>rfl
theorem W0{index seed tick:Int}{x:Item}(hk:CB ks=0)(hh:Cb ks x.comps=true)(ha:QP s x.comps)(ho:∀o∈s.ops,OpG ks s.reads s.writes o)(cm:List Cmd)(ev:List Evt)(i:Nat):
  RnG ks s (KX ks s index x.ent (s.ops.take i) ⟨x.comps,Je [seed,tick,index,x.ent.n],cm,ev⟩)/\(KX ks s index x.ent (s.ops.take i) ⟨x.comps,Je [seed,tick,index,x.ent.n],cm,ev⟩).cmds.length<=cm.length+s.ops.length/\(KX ks s index x.ent (s.ops.take i) ⟨x.comps,Je [seed,tick,index,x.ent.n],cm,ev⟩).evs.length<=ev.length+s.ops.length:=by
 obtain⟨h1,h2,h3⟩:=SU (s:=s) (index:=index) (e:=x.ent) hk (s.ops.take i) (st:=⟨x.comps,Je [seed,tick,index,x.ent.n],cm,ev⟩) ⟨hh,ha,NK _⟩ (λo h=>ho o (BK h));have:(s.ops.take i).length<=s.ops.length:=by rw[BZ];omega
 dsimp only at h2 h3;exact⟨h1,by omega,by omega⟩
theorem MX{index seed tick:Int}(hk:CB ks=0)(ho:∀o∈s.ops,OpG ks s.reads s.writes o):∀(qs:List (Nat×Item)) (b:List Item×List Cmd×List Evt),(∀q∈qs,Cb ks q.2.comps=true/\QP s q.2.comps)->
  (Is ks s index seed tick qs b).2.1.length<=b.2.1.length+qs.length*s.ops.length/\(Is ks s index seed tick qs b).2.2.length<=b.2.2.length+qs.length*s.ops.length/\(Is ks s index seed tick qs b).1.length=b.1.length
 |[],b,_=>by simp[Is]
 |q::qs,b,h=>by
  obtain⟨hq1,hq2⟩:=h q (by simp);have he:=W0 (index:=index) (seed:=seed) (tick:=tick) hk hq1 hq2 ho b.2.1 b.2.2 s.ops.length;rw[B9]at he;obtain⟨e1,e2,e3⟩:=he;obtain⟨r1,r2,r3⟩:=MX hk ho qs (b.1.set q.1 ⟨q.2.ent,(Id ks s index seed tick q.2 b.2.1 b.2.2).comps⟩,(Id ks s index seed tick q.2 b.2.1 b.2.2).cmds,(Id ks s index seed tick q.2 b.2.1 b.2.2).evs) (λq' h'=>h q' (by simp[h']));have e2':(Id ks s index seed tick q.2 b.2.1 b.2.2).cmds.length<=b.2.1.length+s.ops.length:=e2;have e3':(Id ks s index seed tick q.2 b.2.1 b.2.2).evs.length<=b.2.2.length+s.ops.length:=e3;dsimp only at r1 r2 r3;rw[Ft]at r3;have hm:(q::qs).length*s.ops.length=qs.length*s.ops.length+s.ops.length:=by rw[DM,Nat.succ_mul]
  rw[hm];exact⟨B7 r1 (by omega),B7 r2 (by omega),r3⟩
theorem LD(h:SysG ks s){x:Item}(hm:H8 x s.wth s.wout=true):QP s x.comps:=by
 have ht:=h.typ;intro k hk;unfold H8 at hm;simp only[AF,ET,CQ]at hm ht;have h1:=ht k (by rw[Du];rcases hk with hk|hk<;>simp at hk<;>simp[hk]);have h2:=hm.1 k (by simpa using h1);unfold DW;rw[List.find?_isSome];unfold Sm at h2;simpa using h2
def N8(ks:List Kind)(i:Nat):List AV:=(ks.take i).map (CF true)++List.replicate (ks.length-i) (.agg [sA [],.prim (.slice none 0 0)])
theorem aG(ks:List Kind)(i:Nat)(h:i<=ks.length):(N8 ks i).length=ks.length:=by simp[N8];omega
theorem cr(h:i<ks.length):(N8 ks i)[i]?=some (.agg [sA [],.prim (.slice none 0 0)]):=by
 unfold N8;rw[Bd (by simp;omega),Im,AY (by simp;omega)]
theorem aF(h:i<ks.length):(N8 ks i).set i (CF true ks[i])=N8 ks (i+1):=by
 unfold N8;rw[Fa _ _ (by simp;omega),AH,BZ,B6 (by omega),DY];rw[show ks.length-i=(ks.length-(i+1))+1 from by omega,H5,Gj];rw[A6 h,AT,Bg];rfl
theorem Kq(ks:List Kind)(hl:ks.length<=1099511627776)(hf:∀k∈ks,k.fields.length<=1099511627776):PS prog 40 [Ba false false ks] (Ba true true ks):=by
 refine Sp (nt:=27) (res:=[.tmp 2]) func40 λSf=>?_
 have hkm:(ks.map (CF false)).length=ks.length:=AH _;have hz0:List.replicate (ks.map (CF false)).length (.agg [sA [],.prim (.slice none 0 0)])=N8 ks 0:=by simp[N8]
 (iterate 8 refine WK ?_);refine J1 ((.agg [sA [],.prim (.slice none 0 0)])) λK=>?_;refine KK ?_
 rw[hz0];refine Ca (λ(i:Nat) (M:List AV)=>⟨[(3,.sl K 0 (ks.map (CF false)).length),(9,Ba false false ks),(10,iA (ks.map (CF false)).length),(11,iA i)],(K,.row 90 2 M)::Sf⟩) (λi M=>i<=ks.length/\M=N8 ks i) (λi _=>ks.length-i) 0 _ ⟨Ap _,rfl⟩ ?_;rintro i M ⟨hi,hM⟩;refine KK ?_;refine AC rfl (λhc=>?_) (λhc=>?_)
 ·have h:i<ks.length:=by rw[Aj,hkm]at hc;omega
  have hset:=aF h;have hMat:M[i]?=some (.agg [sA [],.prim (.slice none 0 0)]):=by rw[hM];exact cr h
  have hMl:M.length=ks.length:=by rw[hM];exact aG ks i hi
  have hfl:=hf _ (Ax h);obtain⟨⟨kn,fs⟩,hk⟩:=nm (ks[i]);rw[hk]at hset hfl;dsimp only at hfl;have hat:(ks.map (CF false))[i]?=some (CF false ⟨kn,fs⟩):=by rw[Ae,Af h,hk];rfl
  have hil:i<(ks.map (CF false)).length:=by omega
  have hfm:(fs.map fieldA).length=fs.length:=AH _;refine KK ?_;refine Ai λV=>?_;refine KK ?_
  refine CN λY=>?_
  refine RU ?_;(iterate 6 refine RK ?_);refine RGo.s (bQ (by rw[hfm];omega) (by rw[hfm];unfold maxLen;omega) rfl rfl (by exact As)) rfl ?_;(iterate 3 refine RK ?_);refine RGo.nil (by kernel_rfl) ?_;(repeat refine WF ?_);have hMs:(M.set i (.agg [sA kn,.sl Y 0 (fs.map fieldA).length]))[i]?=some (.agg [sA kn,.sl Y 0 (fs.map fieldA).length]):=by rw[BY (by omega)]
  refine I5 (X:=Y) (Y:=K) .here (.next (.next .here)) rfl rfl (Hos.at hMs (.agg (.tail (.head .here)))) ?_;rw[List.set_set];refine KK ?_;refine Bn (i+1) _ ⟨h,?_⟩;rw[hM];exact hset
 ·have h:i=ks.length:=by rw[Ao,hkm]at hc;omega
  subst h;have hfin:N8 ks ks.length=ks.map (CF true):=by simp[N8]
  rw[hfin]at hM;subst hM;refine JA ?_;exact⟨[.sl K 0 (ks.map (CF false)).length],[Ba true true ks],_,[],.cons (.tmp rfl) rfl .nil,.cons (.cell (.sl (p:=0) .here (by simp))) .nil,by exact BH,rfl,rfl⟩
def Iw(x:Item):AV:=.agg [iA x.ent.n,iA x.ent.gen,B3 true false x.comps]
instance {x:Item}:Frz (Iw x) (AN false x):=⟨by unfold Iw AN;exact Frz.h⟩
abbrev eX(o:Bool)(l:List Item):AV:=.lst o 83 3 (l.map Iw)
def cD(w:Wd):AV:=.agg [Ba true true w.kinds,Av true w.gens,eX true w.items]
instance {w:Wd}:Frz (cD w) (wdA false w):=⟨by unfold cD wdA;exact Frz.h⟩
abbrev Wv:AV:=.agg [iA 0,iA 0,.prim (.slice none 0 0)]
theorem W1(w:Wd)(hw:WdL w):PS prog 9 [wdA false w] (cD w):=by
 obtain⟨ks,gens,items⟩:=w;obtain⟨⟨hk0,hk1⟩,hg,hi0,hi1⟩:=hw;dsimp only at hk0 hk1 hg hi0 hi1;have hkc:=Kq ks hk0 hk1;have hgc:=HR gens (by omega);have hgm:(gens.map iA).length=gens.length:=AH _;have him:(items.map (AN false)).length=items.length:=AH _;refine Sp (nt:=37) (res:=[.cell 2 26]) func9 λSf=>?_
 refine RG ?_;refine BS ?_;refine WO ?_;refine Ai λR=>?_;refine NL ?_
 (repeat refine WF ?_);refine CN λW3=>CN λI=>CN λG=>CN λK=>?_
 refine RU ?_;refine JG ?_;refine QN hkc ?_;refine JG ?_;refine QN hgc ?_;(iterate 3 refine RK ?_);refine RGo.s (W.make rfl rfl (by exact As) rfl (.inl rfl) rfl rfl (AP _) (by rw[him];omega) (by rw[him];unfold maxLen;omega)) rfl ?_;(iterate 3 refine RK ?_);refine RGo.nil (by kernel_rfl) ?_;have hz0:List.replicate (items.map (AN false)).length (zAV [.int .i64 0,.int .i64 0,.slice none 0 0] true)=GF Iw Wv items 0:=by rw[Ks,him];rfl
 rw[hz0];refine JJ ?_;refine Ca (λ(i:Nat) (M:List AV)=>⟨[(2,.ptr R 0 0),(3,.ptr W3 0 0),(18,J9 false false items),(19,iA (items.map (AN false)).length),(20,iA i)],(K,.row 90 2 (ks.map (CF true)))::(G,.row 3 1 (gens.map iA))::(I,.row 83 3 M)::(W3,.row 26 3 [.agg [.sl K 0 (ks.map (CF true)).length,.sl G 0 (gens.map iA).length,.sl I 0 (items.map (AN false)).length]])::(R,.row 26 3 [.agg [.prim (.slice none 0 0),.prim (.slice none 0 0),.prim (.slice none 0 0)]])::Sf⟩) (λi M=>i<=items.length/\M=GF Iw Wv items i) (λi _=>items.length-i) 0 _ ⟨Ap _,rfl⟩ ?_;rintro i M ⟨hi,hM⟩;refine KK ?_;refine AC rfl (λhc=>?_) (λhc=>?_)
 ·have h:i<items.length:=by rw[Aj,him]at hc;omega
  have hset:=ME Iw Wv items h;have hMat:M[i]?=some Wv:=by rw[hM];exact NX _ _ _ h
  have hMl:M.length=items.length:=by rw[hM];exact Pi _ _ _ _ hi
  have hcl:=hi1 _ (Ax h);obtain⟨⟨⟨en,eg⟩,cs⟩,hit⟩:=nm (items[i]);rw[hit]at hset hcl;have hat:(items.map (AN false))[i]?=some (AN false ⟨⟨en,eg⟩,cs⟩):=by rw[Ae,Af h,hit];rfl
  have hil:i<(items.map (AN false)).length:=by omega
  have hcc:=F6 cs hcl.1 hcl.2;have hcm:(cs.map (AZ false)).length=cs.length:=AH _;refine KK ?_;refine Ai λV=>?_;refine KK ?_
  refine CN λY=>?_
  refine RU ?_;(iterate 7 refine RK ?_);refine QN hcc ?_;(iterate 3 refine RK ?_);refine RGo.nil (by kernel_rfl) ?_;(repeat refine WF ?_);have hMs:(M.set i (.agg [iA en,iA eg,.sl Y 0 (cs.map (AZ false)).length]))[i]?=some (.agg [iA en,iA eg,.sl Y 0 (cs.map (AZ false)).length]):=by rw[BY (by omega)]
  refine I5 (X:=Y) (Y:=I) (by exact As) (by exact As) rfl rfl (Hos.at hMs (.agg (.tail (.tail (.head .here))))) ?_;rw[List.set_set];refine KK ?_;refine Bn (i+1) _ ⟨h,?_⟩;rw[hM];exact hset
 ·have h:i=items.length:=by rw[Ao,him]at hc;omega
  subst h;rw[MF _ _ _ (AP _)]at hM;subst hM;have hkl:(ks.map (CF true)).length=(ks.map (CF true)).length:=rfl;have hI:(items.map (AN false)).length=(items.map Iw).length:=by simp
  refine JA ?_;exact⟨[.agg [.sl K 0 (ks.map (CF true)).length,.sl G 0 (gens.map iA).length,.sl I 0 (items.map (AN false)).length]],[cD ⟨ks,gens,items⟩],_,[],.cons (.cell (p:=4) rfl (by exact As) TAg.h TSize.h rfl rfl) rfl .nil,.cons (.agg (.cons (.sl (p:=0) .here rfl) (.cons (.sl (p:=0) .here rfl) (.cons (.sl (p:=0) .here hI) .nil)))) .nil,by exact BH,rfl,rfl⟩
theorem TW.fz{a b:AV}[h:Frz a b]:TW a b []:=h.h▸ .frz
theorem Vi(l:List Item):AV.frzs (l.map Iw)=l.map (AN false):=(inferInstance:Frzs (l.map Iw) (l.map (AN false))).h
theorem YU(c:Comp):FreeE (AZ false c):=.agg λx hx=>by
 simp only[Cl,D1,KY]at hx;rcases hx with rfl|rfl
 ·exact .prim _
 ·exact λm c bs k=>k.1
theorem V1(l:List Comp):FreeL (l.map (AZ false)):=λx hx=>by obtain⟨y,_,rfl⟩:=Ad.1 hx;exact YU y
theorem YT(l:List Comp):∀x∈l.map (AZ false),x.width=2:=λx hx=>by obtain⟨y,_,rfl⟩:=Ad.1 hx;rfl
theorem Td(l:List Item)(t:AV)(f:FuncId)(cap:List AV)(g:Item->Int)(t0:Int)(ht:t=iA t0)(hs:DH cap=true)(hl:l.length<=4611686018427387904)(hf:∀x∈l,PS prog f (AN false x::t::cap) (iA (g x))):
  Spec prog 46 [J9 false false l,t,.fn f cap] [] λr S'=>∃b,Found g l b/\r= .tup [iA b.1,bA b.2]/\S'=[]:=by
 subst ht;refine Sp (nt:=49) (res:=[.tmp 6,.tmp 7]) func46 λSf=>?_
 have hlm:(l.map (AN false)).length=l.length:=AH _;refine KK ?_;refine Ca (λ(i j:Nat)=>⟨[(0,J9 false false l),(1,iA t0),(2,.fn f cap),(8,iA (l.map (AN false)).length),(9,iA i),(10,iA j)],Sf⟩) (λi j=>i<=j/\j<=l.length/\(Lm g l->Spl g l i j)) (λi j=>j-i) 0 (l.map (AN false)).length ⟨Ap _,by omega,λ_=>⟨λk x h=>absurd h (by omega),λk x h hx=>by have:=(AE.1 hx).1;omega⟩⟩ ?_;rintro i j ⟨hij,hjn,hmono⟩;refine KK ?_;refine AC rfl (λhc=>?_) (λhc=>?_)
 ·have h:i<j:=by rw[Aj]at hc;omega
  have hmid:((i:Int)+j).fdiv (2^1)=(((i+j)/2:Nat):Int):=by
   rw[FR _ (by decide)];omega
  have hw1:IntKind.u64.wrap ((i:Int)+j)=i+j:=by rw[K0];omega
  have hw2:IntKind.i64.wrap (((i:Int)+j).fdiv (2^1))=((i:Int)+j).fdiv (2^1):=by
   rw[QZ,hmid];omega
  refine RG ?_;(iterate 3 refine WO ?_);refine AI (W.conv .i64 .u64 (by kernel_rfl) (by kernel_rfl) rfl hw1) rfl ?_;refine AI (W.shr 1 rfl rfl rfl (by decide)) rfl ?_;refine AI (W.conv .u64 .i64 (by kernel_rfl) (by kernel_rfl) rfl hw2) rfl ?_;refine JC ?_;rw[hmid];obtain⟨m,hm⟩:=nm ((i+j)/2);rw[hm];have hml:m<l.length:=by omega
  obtain⟨y,hy⟩:=nm (l[m]);have hya:l[m]?=some y:=by rw[Af hml,hy]
  have hat:(l.map (AN false))[m]?=some (AN false y):=by rw[Ae,hya];rfl
  have hfy:=hf y (by rw[<-hy];exact Ax hml);refine JI ?_;refine KN (h:=(hfy ..)) (k:=?_);refine JC ?_;refine AC rfl (λhe=>?_) (λhe=>?_)
  ·have he:g y<0:=by simpa using he
   refine KK ?_;refine Bn (m+1) j ⟨by omega,hjn,λhM=>(hmono hM).lo hM hya he⟩
  ·have he:¬g y<0:=by simpa using he
   refine KK ?_;refine Bn i m ⟨by omega,by omega,λhM=>(hmono hM).hi hM hya he⟩
 ·have h:i=j:=by rw[Ao]at hc;omega
  subst h;by_cases hin:i<l.length
  ·have hil:i<l.length:=by omega
   have g1:decide ((i:Int)<(l.map (AN false)).length)=true:=BG (by omega);obtain⟨y,hy⟩:=nm (l[i]);have hya:l[i]?=some y:=by rw[Af hil,hy]
   have hat:(l.map (AN false))[i]?=some (AN false y):=by rw[Ae,hya];rfl
   have hfy:=hf y (by rw[<-hy];exact Ax hil);refine KK ?_;refine KN (h:=(hfy ..)) (k:=?_);refine JA ?_;exact⟨[iA i,bA (decide (g y=0))],[iA i,bA (decide (g y=0))],_,[],.cons (.tmp rfl) rfl (.cons (.tmp rfl) rfl .nil),.cons (.cell .same) (.cons (.cell .same) .nil),by exact BH,(i,decide (g y=0)),⟨by simp;omega,by simp[hya],hmono⟩,rfl,rfl⟩
  ·have g1:decide ((i:Int)<(l.map (AN false)).length)=false:=Az (by omega)
   refine JA ?_;exact⟨[iA i,bA false],[iA i,bA false],_,[],.cons (.tmp rfl) rfl (.cons (.tmp rfl) rfl .nil),.cons (.cell .same) (.cons (.cell .same) .nil),by exact BH,(i,false),⟨by simp;omega,by simp[CT (show l.length<=i by omega)],hmono⟩,rfl,rfl⟩
def wdH(w:Wd):AV:=.agg [Ba false false w.kinds,Av false w.gens,J9 true false w.items]
instance {w:Wd}:Frz (wdH w) (wdA false w):=⟨by unfold wdH wdA;exact Frz.h⟩
section
section
variable {ro:Option Nat}{P:Program}{nt:Nat}{ops:Array Oper}{Q:Exit->St->Prop}{rest:List Oper}{T:List (Nat×AV)}{S:List AS}{f:FuncId}{x0 x1:Operand}{v0 v1:AV}{dst:Option Tmp}{ats:Array TypeId}{ty:TypeId}{pos:String}{after:Array Edge}{p1 p2 p3 p4:Nat}{z1 z2 z3 z4:AS}{y1 y2 y3 y4:Nat×Nat->AS}
theorem b7(h:Spec P f [v0,v1] [z1,z2,z3,z4] λr' S'=>∃b:Nat×Nat,r'= .tup []/\S'=[y1 b,y2 b,y3 b,y4 b])(k:∀b:Nat×Nat,AOps ro P nt ops Q rest ⟨BA T dst (.tup []),BE S [(p1,y1 b),(p2,y2 b),(p3,y3 b),(p4,y4 b)]⟩)
  (a1:At S p1 z1:=by exact As) (a2:At S p2 z2:=by exact As) (a3:At S p3 z3:=by exact As) (a4:At S p4 z4:=by exact As) (hnd:FM [p1,p2,p3,p4]=true:=by rfl) (h0:Rd none T x0 v0:=by rfl) (h1:Rd none T x1 v1:=by rfl) (ht:Bm [(x0,v0),(x1,v1)]=true:=by rfl) (hd:A8 dst nt=true:=by rfl):
  AOps ro P nt ops Q (⟨dst,.call ⟨.value (.func f),#[x0,x1],ats⟩,ty,pos,after,none⟩::rest) ⟨T,S⟩:=
 GW (xs:=[(x0,v0),(x1,v1)]) (C:=λ_=>True) (rr:=λ_=>.tup []) (vv:=λ_=>.tup []) (So:=λb=>[y1 b,y2 b,y3 b,y4 b]) (nw:=λ_=>[]) (gs:=[]) (rS:=[(p1,z1),(p2,z2),(p3,z3),(p4,z4)]) (wE:=λb=>[(p1,y1 b),(p2,y2 b),(p3,y3 b),(p4,y4 b)])
  (h.mono λr' S' ⟨b,e1,e2⟩=>⟨b,CZ,e1,e2⟩) (λ_=>.fz) (λ_=>rfl) (λb=>.cons a1 (.cons a2 (.cons a3 (.cons a4 .nil)))) (Et hnd) rfl (.cons a1 (.cons a2 (.cons a3 (.cons a4 .nil)))) (.cons h0 (.cons h1 .nil)) ht hd (λb _=>k b)
end
theorem Jv{l:List Item}{wth wout:List Int}{q:Nat×Item}(h:q∈HA l wth wout i):l[q.1]?=some q.2/\H8 q.2 wth wout=true:=by
 induction i with
 |zero=>simp[HA]at h
 |succ i ih=>
  rw[HA,Du]at h;rcases h with h|h
  ·exact ih h
  ·split at h
   ·rename_i it hit
    split at h
    ·rename_i hm
     rw[CX]at h;subst h;exact⟨hit,hm⟩
    ·cases h
   ·cases h
theorem NJ(ks:List Kind)(s:Sys)(index seed tick:Int):∀(qs:List (Nat×Item)) (b:List Item×List Cmd×List Evt),(∀q∈qs,(b.1[q.1]?).map Item.ent=some q.2.ent)->(Is ks s index seed tick qs b).1.map Item.ent=b.1.map Item.ent
 |[],b,_=>rfl
 |q::qs,b,h=>by
  have h0:=h q (by simp)
  have e1:∀x:Item,x.ent=q.2.ent->(b.1.set q.1 x).map Item.ent=b.1.map Item.ent:=by
   intro x hx;rw[BC,hx];refine Fu λj=>?_
   by_cases hj:q.1=j
   ·subst hj
    rw[<-Ae]at h0;rw[BY (AE.1 h0).1,h0]
   ·rw[Ce hj]
  have:=NJ ks s index seed tick qs (b.1.set q.1 ⟨q.2.ent,(Id ks s index seed tick q.2 b.2.1 b.2.2).comps⟩,(Id ks s index seed tick q.2 b.2.1 b.2.2).cmds,(Id ks s index seed tick q.2 b.2.1 b.2.2).evs) (λq' h'=>by
   have h1:=h q' (by simp[h']);dsimp only;rw[<-Ae]at h1⊢;rw[e1 ⟨q.2.ent,(Id ks s index seed tick q.2 b.2.1 b.2.2).comps⟩ rfl];exact h1)
  exact this.trans (e1 ⟨q.2.ent,(Id ks s index seed tick q.2 b.2.1 b.2.2).comps⟩ rfl)
structure RunB where
 K:Nat
 E:Nat
 l:List Comp
 e:Ent
 r:UInt64×UInt64
 z:List Item×List Cmd×List Evt
def SQ(w:Wd)(s:Sys)(index:Int)(X PX W2 I R:Nat)(b:RunB):List AS:=
 [(b.E,.row 136 4 (b.z.2.2.map FT)),(b.K,.row 303 5 (b.z.2.1.map D3)),(PX,.row 231 1 [.ptr X 0 0]),(X,.row 235 16 [Qe w.kinds s b.e (B3 false false b.l) b.r (.sl b.K 0 b.z.2.1.length) (.sl b.E 0 b.z.2.2.length) index]),
  (W2,.row 26 3 [.agg [Ba false false w.kinds,Av false w.gens,.sl I 0 (w.items.map Iw).length]]),(I,.row 83 3 (b.z.1.map (AN false))),(R,.row 26 3 [.agg [.prim (.slice none 0 0),.prim (.slice none 0 0),.prim (.slice none 0 0)]])]
theorem eH(w:Wd)(s:Sys)(index seed tick:Int)(hw:WdL w)(hwe:FD w=0)(h12:w.kinds.length<=12)(hs:SysG w.kinds s)(hk:CB w.kinds=0)(hheld:∀it∈w.items,Cb w.kinds it.comps=true)(hN:(HB w.items s.wth s.wout).length*s.ops.length<=1099511627775):
  PS prog 67 [wdA false w,FJ false s,iA index,iA seed,iA tick] (.tup [wdH ⟨w.kinds,w.gens,(LS w s index seed tick).1⟩,.lst false 303 5 ((LS w s index seed tick).2.1.map D3),.lst false 136 4 ((LS w s index seed tick).2.2.map FT),iA 0]):=by
 have hck:=F9 w hw.gens hw.items.1 (λit h=>(hw.items.2 it h).1);rw[hwe]at hck;have hcp:=W1 w hw;have hsc:=Nh w.kinds s hk h12 hs;have hal:=ey w s.wth s.wout hw.items.1 hw.items.2 (by have:=(hs.o s.wth (by simp)).2.2;omega) (by have:=(hs.o s.wout (by simp)).2.2;omega);refine Sp (nt:=97) (res:=[.cell 10 26,.tmp 11,.tmp 12,.tmp 13]) func67 λSf=>?_
 refine RG ?_;(repeat first|(refine Bk ?_;first|(refine WV ?_;refine BS ?_))|refine WO ?_|refine Ai λR=>?_|refine Ay λY=>?_);refine NL ?_;refine JK ?_;refine BU (h:=(hck ..)) (k:=?_);refine JC ?_;refine KK ?_;refine AB rfl rfl ?_;refine JH ?_;refine BP (h:=(hsc ..)) (k:=?_);refine JC ?_;refine KK ?_;refine AB rfl rfl ?_;refine FL ?_;refine CN λI=>?_
 refine JF ?_;refine dq hcp (.v (.agg (.cons .fz (.cons .fz (.cons (.lst (Y:=I) rfl) .nil))))) ?_;refine WO ?_;refine Ai λW2=>?_;refine WO ?_
 refine JD ?_;(repeat first|refine WO ?_|refine Ai λPX=>?_|refine Ay λY=>?_);refine NL ?_;rename_i X;refine FL ?_;refine CY (Y:=X) 303 5 (by exact As) (λF=>.cons (.agg (.s (.s (.s (.s (.s (.s (.s (.s (.s (.s (.s (.s (.s (.cons (.base .nil) .r))))))))))))))) .nil) λK=>?_
 refine CY (Y:=X) 136 4 (by exact As) (λF=>.cons (.agg (.s (.s (.s (.s (.s (.s (.s (.s (.s (.s (.s (.s (.s (.s (.cons (.base .nil) .r)))))))))))))))) .nil) λE=>?_
 refine IS 42 2 (Y:=X) (.cons (.agg (.s (.s (.s (.s (.s (.s (.s (.s (.s (.s (.cons (.base .nil) .r)))))))))))) .nil) ?_;refine Ih I (w.items.map (AN false)) (Vi w.items) ?_ (by exact As);refine JI ?_;refine Fi (h:=(hal ..)) (k:=?_);refine NL ?_;refine FL ?_;have hI:=Yi (HB w.items s.wth s.wout) (B7 (Rt _ _ _) hw.items.1) (λq hq=>hw.items.2 _ (Rr hq));refine QR (Sf:=Sf) hI (SQ w s index X PX W2 I R) (λi b=>b.z=Is w.kinds s index seed tick ((HB w.items s.wth s.wout).take i) (w.items,[],[])) ⟨K,E,[],⟨0,0⟩,(0,0),(w.items,[],[])⟩ rfl ?_ ?_ rfl rfl rfl ?_ ?_
 ·rintro i vs C ⟨K,E,l0,e0,r0,z⟩ l F1 F2 hi hz
  have hil:i<(HB w.items s.wth s.wout).length:=by simpa using(AE.1 hi).1
  rw[Ae,Af hil]at hi;obtain rfl:_=vs:=DO hi;have hqm:=Ax hil;have hst:=VK (ks:=w.kinds) (s:=s) (index:=index) (seed:=seed) (tick:=tick) hil (w.items,[],[])
  have hro:=MX (index:=index) (seed:=seed) (tick:=tick) hk hs.ops ((HB w.items s.wth s.wout).take i) (w.items,[],[]) (λq h=>by
   obtain⟨g1,g2⟩:=Jv (BK h);exact⟨hheld _ (Bb g1),LD hs g2⟩)
  dsimp only at hz;rw[<-hz]at hst hro;obtain⟨q,hq⟩:=nm ((HB w.items s.wth s.wout)[i]);rw[hq]at hqm hst⊢;obtain⟨hqa,hqb⟩:=Jv hqm;obtain⟨qi,⟨⟨en,eg⟩,cs⟩⟩:=q;obtain⟨zi,zc,ze⟩:=z;dsimp only[List.length_nil]at hqa hqb hro;unfold SQ itY;dsimp only;have hcl:(cs.map (AZ true)).length=cs.length:=AH _;rw[hcl];have hrs:=ZS [seed,tick,index,en] (by simp);have hen:=NJ w.kinds s index seed tick ((HB w.items s.wth s.wout).take i) (w.items,[],[]) (λq h=>by rw[(Jv (BK h)).1];rfl);rw[<-hz]at hen;dsimp only at hen;have hzat:(zi[qi]?).map Item.ent=some ⟨en,eg⟩:=by rw[<-Ae,hen,Ae,hqa];rfl
  obtain⟨it,hit,hie⟩:=DZ.1 hzat;obtain⟨ie,ics⟩:=it;dsimp only at hie;subst hie;have hiat:(zi.map (AN false))[qi]?=some (AN false ⟨⟨en,eg⟩,ics⟩):=by rw[Ae,hit];rfl
  have hqil:qi<(zi.map (AN false)).length:=(AE.1 hiat).1;have heo:=λj=>W0 (index:=index) (seed:=seed) (tick:=tick) (x:=⟨⟨en,eg⟩,cs⟩) hk (hheld _ (Bb hqa)) (LD hs hqb) hs.ops zc ze j
  have hee:Id w.kinds s index seed tick ⟨⟨en,eg⟩,cs⟩ zc ze=KX w.kinds s index ⟨en,eg⟩ s.ops ⟨cs,Je [seed,tick,index,en],zc,ze⟩:=rfl;have hsr:Is w.kinds s index seed tick [(qi,⟨⟨en,eg⟩,cs⟩)] (zi,zc,ze)=(zi.set qi ⟨⟨en,eg⟩,(Id w.kinds s index seed tick ⟨⟨en,eg⟩,cs⟩ zc ze).comps⟩,(Id w.kinds s index seed tick ⟨⟨en,eg⟩,cs⟩ zc ze).cmds,(Id w.kinds s index seed tick ⟨⟨en,eg⟩,cs⟩ zc ze).evs):=rfl;rw[hsr,hee]at hst;dsimp only at heo;obtain⟨rr,hrr⟩:=nm (Je [seed,tick,index,en]);rw[hrr]at hrs heo hst
  have him:i*s.ops.length+s.ops.length<=1099511627775:=by
   have h1:(i+1)*s.ops.length<=(HB w.items s.wth s.wout).length*s.ops.length:=BQ _ hil;rw[Nat.succ_mul]at h1;omega
  have htk:((HB w.items s.wth s.wout).take i).length=i:=by rw[BZ];omega
  rw[htk]at hro;clear hsr hee hz hen hrr;refine KK ?_;refine Ai λP=>?_;refine KK ?_
  refine⟨[(P,_),(C,_),(E,_),(K,_),(PX,_),(X,_),(W2,_),(I,_),(R,_)],.refl _,?_⟩;refine FL ?_;refine RU ?_;(iterate 10 refine RK ?_);refine JS (h:=hrs) (k:=?_);(iterate 6 refine RK ?_);refine RGo.nil (by kernel_rfl) ?_;refine KK ?_;have hom:(s.ops.map opA).length=s.ops.length:=AH _;obtain⟨S0,hS0⟩:∃st:Rn,(⟨cs,rr,zc,ze⟩:Rn)=st:=⟨_,rfl⟩;rw[hS0]at heo hst;have hop0:KX w.kinds s index ⟨en,eg⟩ (s.ops.take 0) S0=⟨cs,rr,zc,ze⟩:=hS0.symm;obtain⟨stj,hstj⟩:∃g:Nat->Rn,(λj=>KX w.kinds s index ⟨en,eg⟩ (s.ops.take j) S0)=g:=⟨_,rfl⟩;have hg0:stj 0=⟨cs,rr,zc,ze⟩:=by rw[<-hstj];exact hop0
  have hgS:∀j (h:j<s.ops.length),stj (j+1)=doM w.kinds s index ⟨en,eg⟩ s.ops[j] (stj j):=by intro j h;rw[<-hstj];exact Xs h S0
  have hge:∀j,RnG w.kinds s (stj j)/\(stj j).cmds.length<=zc.length+s.ops.length/\(stj j).evs.length<=ze.length+s.ops.length:=by intro j;rw[<-hstj];exact heo j
  have hgl:KX w.kinds s index ⟨en,eg⟩ s.ops S0=stj s.ops.length:=by rw[<-hstj];dsimp only;rw[B9]
  rw[hgl]at hst;clear heo hop0 hgl hstj hS0
  refine Ca (λ(j:Nat) (b:Nat×Nat)=>⟨[(16,.ptr W2 0 0),(17,.ptr PX 0 0),(18,iA qi),(68,cb false s.ops),(69,iA (s.ops.map opA).length),(70,iA j)],[(P,.row 83 3 [.agg [iA en,iA eg,.sl C 0 cs.length]]),(C,.row 42 2 ((stj j).comps.map (AZ true))),(b.2,.row 136 4 ((stj j).evs.map FT)),(b.1,.row 303 5 ((stj j).cmds.map D3)),(PX,.row 231 1 [.ptr X 0 0]),(X,Ow w.kinds s ⟨en,eg⟩ C (stj j).comps.length (stj j).r b.1 (stj j).cmds.length b.2 (stj j).evs.length index),
   (W2,.row 26 3 [.agg [Ba false false w.kinds,Av false w.gens,.sl I 0 (w.items.map Iw).length]]),(I,.row 83 3 (zi.map (AN false))),(R,.row 26 3 [.agg [.prim (.slice none 0 0),.prim (.slice none 0 0),.prim (.slice none 0 0)]])]++F2⟩) (λj _=>j<=s.ops.length) (λj _=>s.ops.length-j) 0 (K,E) (Ap _) ?_ (by dsimp only;rw[hg0];exact⟨by exact EF,by exact BH⟩)
  rintro j ⟨K',E'⟩ hj;dsimp only;obtain⟨hgR,hgC,hgE⟩:=hge j;refine KK ?_;refine AC rfl (λhc=>?_) (λhc=>?_)
  ·have hjl:j<s.ops.length:=by rw[Aj,hom]at hc;omega
   have hatj:(s.ops.map opA)[j]?=some (opA s.ops[j]):=by rw[Ae,Af hjl];rfl
   have hjm:j<(s.ops.map opA).length:=by omega
   have hdo:=fm w.kinds s ⟨en,eg⟩ index X C K' E' (stj j) s.ops[j] hk h12 hs.sp ⟨hgR.held,hgR.has,hgR.odd,by omega,by omega⟩ (hs.ops _ (Ax hjl));rw[<-hgS j hjl]at hdo;unfold VJ at hdo;have hol:s.ops.length<=20:=hs.len;refine KK ?_;refine Ai λO=>?_;(iterate 6 refine WK ?_);refine b7 (h:=hdo) λb=>?_;refine KK ?_
   refine Bn (j+1) b hjl
  ·have hjl:j=s.ops.length:=by rw[Ao,hom]at hc;omega
   subst hjl;have hqw:qi<(w.items.map Iw).length:=by rw[AH];exact(AE.1 hqa).1
   refine KK ?_
   have hfz:AV.frzs ((((stj s.ops.length).comps.map (AZ true)).drop 0).take (stj s.ops.length).comps.length)=(stj s.ops.length).comps.map (AZ false):=by
    rw[Cp,BB (by simp)];exact(inferInstance:Frzs ((stj s.ops.length).comps.map (AZ true)) ((stj s.ops.length).comps.map (AZ false))).h
   refine E9 (X:=C) (Y:=X) (by exact As) (by exact As) rfl (.cons (.agg (.s (.s (.s (.s (.s (.s (.s (.s (.s (.s (.cons (.base (.sl (by simp))) .r)))))))))))) .nil) ?_;rw[hfz];refine RU ?_;(iterate 11 refine RK ?_);refine RGo.nil (by kernel_rfl) ?_;refine FL ?_;refine⟨[(E',_),(K',_),(PX,_),(X,_),(W2,_),(I,_),(R,_)],(by exact BH),⟨K',E',(stj s.ops.length).comps,⟨en,eg⟩,(stj s.ops.length).r,_⟩,hst.symm,?_⟩;rw[BC];rfl
 ·rintro⟨K,E,l0,e0,r0,z⟩ hz
  rw[AH,B9]at hz;dsimp only at hz
  have hro:=MX (index:=index) (seed:=seed) (tick:=tick) hk hs.ops (HB w.items s.wth s.wout) (w.items,[],[]) (λq h=>by
   obtain⟨g1,g2⟩:=Jv h;exact⟨hheld _ (Bb g1),LD hs g2⟩)
  rw[<-hz]at hro;rw[show LS w s index seed tick=z from hz.symm];clear hz;obtain⟨zi,zc,ze⟩:=z;dsimp only at hro⊢;have hlI:(w.items.map Iw).length=(zi.map (AN false)).length:=by rw[AH,AH,hro.2.2]
  have hfk:AV.frzs (((zc.map D3).drop 0).take zc.length)=zc.map D3:=by
   rw[Cp,BB (by simp)];exact Jo D3 (λ_=>Frz.h) zc
  have hfe:AV.frzs (((ze.map FT).drop 0).take ze.length)=ze.map FT:=by
   rw[Cp,BB (by simp)];exact Jo FT (λ_=>Frz.h) ze
  unfold SQ;dsimp only;refine FL ?_;refine E9 (X:=K) (Y:=X) (by exact As) (by exact As) rfl (.cons (.agg (.s (.s (.s (.s (.s (.s (.s (.s (.s (.s (.s (.s (.s (.cons (.base (.sl (by simp))) .r))))))))))))))) .nil) ?_;refine E9 (X:=E) (Y:=X) (by exact As) (by exact As) rfl (.cons (.agg (.s (.s (.s (.s (.s (.s (.s (.s (.s (.s (.s (.s (.s (.s (.cons (.base (.sl (by simp))) .r)))))))))))))))) .nil) ?_;rw[hfk,hfe];refine RU ?_;(iterate 13 refine RK ?_);refine RGo.nil (by kernel_rfl) ?_;refine WK ?_;refine RT ?_
  exact DA [.agg [Ba false false w.kinds,Av false w.gens,.sl I 0 (w.items.map Iw).length],.lst false 303 5 (zc.map D3),.lst false 136 4 (ze.map FT),iA 0] [wdH ⟨w.kinds,w.gens,zi⟩,.lst false 303 5 (zc.map D3),.lst false 136 4 (ze.map FT),iA 0]
   (.cons (.agg (.s (.s (.cons (.sl (p:=5) (.next (.next (.next (.next (.next .here))))) hlI) .nil)))) (.cons (.cell .same) (.cons (.cell .same) (.cons (.cell .same) .nil))))
 ·intro vs hvs C
  obtain⟨q,_,rfl⟩:=Ad.1 hvs;rfl
 ·unfold SQ
  exact DT _
end
def KeepC(ws:List Int)(a b:List Comp):Prop:=b.map Comp.kind=a.map Comp.kind/\∀(j:Nat) (c d:Comp),a[j]?=some c->b[j]?=some d->ws.contains c.kind=false->d.vals=c.vals
theorem KeepC.refl(ws:List Int)(a:List Comp):KeepC ws a a:=⟨rfl,λj c d h1 h2 _=>by rw[h1]at h2;injection h2 with h2;rw[h2]⟩
theorem KeepC.trans{ws:List Int}{a b c:List Comp}(h:KeepC ws a b)(k:KeepC ws b c):KeepC ws a c:=by
 refine⟨k.1.trans h.1,λj x z hx hz hn=>?_⟩;have e:(b.map Comp.kind)[j]?=(a.map Comp.kind)[j]?:=by rw[h.1]
 rw[Ae,Ae,hx]at e;cases hb:b[j]? with
 |none=>rw[hb]at e;cases e
 |some y=>
  rw[hb]at e;injection e with e
  rw[k.2 j y z hb hz (by rw[e];exact hn),h.2 j x y hx hb hn]
theorem Xh{ws:List Int}(hs:Ee cs){k:Int}(hk:ws.contains k=true)(f:Nat)(v:Int):KeepC ws cs (TY cs k f v):=by
 refine⟨Or hs k f v,λj c d hc hd hn=>?_⟩;cases hcc:DW cs k with
 |none=>
  unfold TY at hd;rw[hcc]at hd;rw[hc]at hd;injection hd with hd
  rw[hd]
 |some c'=>
  obtain⟨e1,e2⟩:=OM hs hcc f v;rw[e2]at hd;by_cases hj:Ey cs k=j
  ·subst hj
   rw[hc]at e1;injection e1 with e1
   have:=((GU hs).1 hcc).2;rw[e1,this,hk]at hn;cases hn
  ·rw[Ce hj,hc]at hd
   injection hd with hd
   rw[hd]
theorem ak{o:Op}{st:Rn}(h:RnG ks s st)(ho:OpG ks s.reads s.writes o):KeepC s.writes st.comps (doM ks s index e o st).comps:=by
 unfold doM;split
 ·exact Xh (held_iff.1 h.held).1 (ho.sets ‹_›).2 _ _
 ·split
  ·exact .refl _ _
  ·split
   ·exact .refl _ _
   ·exact .refl _ _
theorem RJ(hk:CB ks=0):∀(os:List Op) {st:Rn} (h:RnG ks s st) (ho:∀o∈os,OpG ks s.reads s.writes o),KeepC s.writes st.comps (KX ks s index e os st).comps
 |[],st,h,ho=>.refl _ _
 |o::os,st,h,ho=>(ak (index:=index) (e:=e) h (ho o (by simp))).trans (RJ hk os (aj hk h (ho o (by simp))).1 (λo' h'=>ho o' (by simp[h'])))
def bd(ks:List Kind)(ws:List Int)(x y:Item):Prop:=y.ent=x.ent/\KeepC ws x.comps y.comps/\Cb ks y.comps=true
theorem Ox{index seed tick:Int}{l0:List Item}(hk:CB ks=0)(ho:∀o∈s.ops,OpG ks s.reads s.writes o):∀(qs:List (Nat×Item)) (b:List Item×List Cmd×List Evt),(∀q∈qs,l0[q.1]?=some q.2/\Cb ks q.2.comps=true/\QP s q.2.comps)->
  (∀(i:Nat) (x:Item),l0[i]?=some x->∃y,b.1[i]?=some y/\bd ks s.writes x y)->∀(i:Nat) (x:Item),l0[i]?=some x->∃y,(Is ks s index seed tick qs b).1[i]?=some y/\bd ks s.writes x y
 |[],b,_,h=>h
 |q::qs,b,hq,h=>by
  obtain⟨h1,h2,h3⟩:=hq q (by simp);refine Ox hk ho qs (b.1.set q.1 ⟨q.2.ent,(Id ks s index seed tick q.2 b.2.1 b.2.2).comps⟩,(Id ks s index seed tick q.2 b.2.1 b.2.2).cmds,(Id ks s index seed tick q.2 b.2.1 b.2.2).evs) (λq' h'=>hq q' (by simp[h'])) λi x hx=>?_
  dsimp only;obtain⟨y,hy,hk'⟩:=h i x hx;by_cases hi:q.1=i
  ·subst hi
   rw[h1]at hx;injection hx with hx
   subst hx;refine⟨_,BY (AE.1 hy).1,rfl,?_,?_⟩
   ·exact RJ (index:=index) (e:=q.2.ent) hk s.ops (st:=⟨q.2.comps,Je [seed,tick,index,q.2.ent.n],b.2.1,b.2.2⟩) ⟨h2,h3,NK _⟩ ho
   ·exact(SU (index:=index) (e:=q.2.ent) hk s.ops (st:=⟨q.2.comps,Je [seed,tick,index,q.2.ent.n],b.2.1,b.2.2⟩) ⟨h2,h3,NK _⟩ ho).1.held
  ·exact⟨y,by rw[Ce hi];exact hy,hk'⟩
theorem Ru(hs:SysG w.kinds s)(hh:∀it∈w.items,Cb w.kinds it.comps=true):∀q∈HB w.items s.wth s.wout,w.items[q.1]?=some q.2/\Cb w.kinds q.2.comps=true/\QP s q.2.comps:=by
 intro q hq;obtain⟨h1,h2⟩:=Jv hq;exact⟨h1,hh _ (Bb h1),LD hs h2⟩
theorem Xm{index seed tick:Int}(hk:CB w.kinds=0)(hs:SysG w.kinds s)(hh:∀it∈w.items,Cb w.kinds it.comps=true):∀(i:Nat) (x:Item),w.items[i]?=some x->∃y,(LS w s index seed tick).1[i]?=some y/\bd w.kinds s.writes x y:=
 Ox hk hs.ops _ _ (Ru hs hh) λi x hx=>⟨x,hx,rfl,.refl _ _,hh _ (Bb hx)⟩
theorem RH{index seed tick:Int}:(LS w s index seed tick).1.map Item.ent=w.items.map Item.ent:=
 NJ w.kinds s index seed tick _ _ λq hq=>by rw[(Jv hq).1];rfl
theorem Ti{index seed tick:Int}:(LS w s index seed tick).1.length=w.items.length:=by
 have:=EI List.length (RH (w:=w) (s:=s) (index:=index) (seed:=seed) (tick:=tick));simpa using this
theorem cL{index seed tick:Int}(hw:FD w=0)(hs:SysG w.kinds s):FD ⟨w.kinds,w.gens,(LS w s index seed tick).1⟩=0:=by
 have g:=(Cg w).1 hw;refine(Cg _).2 ⟨g.ks,g.gl,by simpa[Ti]using g.il,g.gs,?_,λit hit=>?_⟩
 ·have h2:((LS w s index seed tick).1.map Item.ent).Pairwise λa b=>a.n<b.n:=by rw[RH];exact(HE (f:=Item.ent) (R:=λa b:Ent=>a.n<b.n)).2 g.so
  exact(HE (f:=Item.ent) (R:=λa b:Ent=>a.n<b.n)).1 h2
 ·obtain⟨i,hi⟩:=List.getElem?_of_mem hit
  dsimp only at hi hit⊢
  have hl:i<w.items.length:=by
   have:=(AE.1 hi).1;rw[Ti]at this;exact this
  obtain⟨y,h1,h2,h3,h4⟩:=Xm (index:=index) (seed:=seed) (tick:=tick) g.ks hs (λit h=>(g.it it h).2.2.2.2) i w.items[i] (by simp[hl]);rw[hi]at h1;injection h1 with h1
  subst h1;obtain⟨a1,a2,a3,a4,a5⟩:=g.it w.items[i] (Ax hl);rw[h2];exact⟨a1,a2,a3,a4,h4⟩
section
def ixG(ks:List Int):Int->Option Value:=λn=>if n∈ks then some (.int .i64 (ks.idxOf n:Nat))else none
variable {α:Type}
abbrev Am(l:List (Int×α)):List Int:=l.map (·.1)
def Db(l:List (Int×α))(n:Int)(v:α):List (Int×α):=if n∈Am l then l.set ((Am l).idxOf n) (n,v)else l++[(n,v)]
def FS(l:List (Int×α))(n:Int):Option α:=(l[(Am l).idxOf n]?).map (·.2)
def C5(l:List (Int×α))(n:Int):List (Int×α):=if n∈Am l then(match l[l.length-1]? with|some e=>(l.set ((Am l).idxOf n) e).take (l.length-1)|none=>l)else l
structure ColOK(l:List (Int×α)):Prop where
 nd:(Am l).Nodup
 lt:∀n∈Am l,0<=n/\n<256
theorem Tp{ks:List Int}(h:ks.Nodup)(hl:∀n∈ks,0<=n/\n<256):ks.length<=256:=by
 have h1:(ks.map Int.toNat).Nodup:=by
  refine HE.2 (h.imp_of_mem λha hb hne e=>hne ?_);have:=hl _ ha;have:=hl _ hb;omega
 have h2:(ks.map Int.toNat)⊆List.range 256:=λx hx=>by
  obtain⟨n,hn,rfl⟩:=Ad.1 hx;have:=hl n hn;rw[CK];omega
 have:=Yo h1 h2;simpa using this
theorem ColOK.len{l:List (Int×α)}(h:ColOK l):l.length<=256:=by
 have:=Tp h.nd h.lt;simpa using this
theorem Ia{l:List (Int×α)}(h:n∈Am l):(Am l).idxOf n<l.length:=by
 have:=List.idxOf_lt_length_of_mem h;simpa using this
theorem Ib{l:List (Int×α)}(h:n∈Am l):∃v,l[(Am l).idxOf n]?=some (n,v):=by
 have h1:=Ia h;have h2:=List.getElem_idxOf (xs:=Am l) (x:=n) (by simpa using h1);rw[GQ]at h2;refine⟨(l[(Am l).idxOf n]).2,?_⟩;rw[Af h1]
 congr 1
 exact Prod.ext h2 rfl
theorem HG{l:List (Int×α)}(h:n∉Am l):FS l n=none:=by
 unfold FS;rw[CT]
 ·rfl
 ·rw[List.idxOf_eq_length h];simp
theorem EV{l:List (Int×α)}(h:ColOK l){v:α}:FS l n=some v↔(n,v)∈l:=by
 constructor
 ·intro e
  have hn:n∈Am l:=Fh λhn=>by rw[HG hn]at e;cases e
  obtain⟨u,hu⟩:=Ib hn;unfold FS at e;rw[hu]at e;injection e with e
  simp only at e;subst e;exact Bb hu
 ·intro hm
  have hn:n∈Am l:=Ad.2 ⟨_,hm,rfl⟩;obtain⟨i,hi,e⟩:=Br hm
  have h1:(Am l).idxOf n=i:=by
   have h2:(Am l)[i]'(by simpa using hi)=n:=by rw[GQ,e]
   rw[<-h2];exact h.nd.idxOf_getElem i _
  unfold FS;rw[h1,Af hi,e];rfl
theorem IV{l:List (Int×α)}(h:n∈Am l):∃v,FS l n=some v:=by
 obtain⟨u,hu⟩:=Ib h;exact⟨u,by unfold FS;rw[hu];rfl⟩
theorem ColOK.perm{l l':List (Int×α)}(h:ColOK l)(p:l.Perm l'):ColOK l':=
 ⟨(p.map _).nodup_iff.1 h.nd,λn hn=>h.lt n ((p.map _).mem_iff.2 hn)⟩
theorem FV{l:List (Int×α)}{v:α}(h:n∉Am l):Db l n v=l++[(n,v)]:=AM h
theorem IL{l:List (Int×α)}{v:α}(h:n∈Am l):Db l n v=l.set ((Am l).idxOf n) (n,v):=AY h
theorem IU{l:List (Int×α)}{v:α}(h:n∈Am l):Am (Db l n v)=Am l:=by
 rw[IL h,Am,BC];obtain⟨u,hu⟩:=Ib h;have h1:=Ia h;refine Dj (by simp) λi h2 h3=>?_
 rw[List.getElem_set];split
 ·rename_i e
  subst e;have:=List.getElem_idxOf (xs:=Am l) (x:=n) (by simpa using h1);exact this.symm
 ·rfl
theorem ColOK.put{l:List (Int×α)}(h:ColOK l)(hn:0<=n/\n<256)(v:α):ColOK (Db l n v):=by
 by_cases hk:n∈Am l
 ·refine⟨by rw[IU hk];exact h.nd,λm hm=>h.lt m (by rwa[IU hk]at hm)⟩
 ·rw[FV hk]
  refine⟨?_,λm hm=>?_⟩
  ·rw[Am,AT]
   refine AX.2 ⟨h.nd,by simp,λa ha b hb e=>?_⟩;simp only[Aa,CM,CX]at hb;subst hb e;exact hk ha
  ·rw[Am,AT]at hm
   rcases AL.1 hm with hm|hm
   ·exact h.lt m hm
   ·simp only[Aa,CM,CX]at hm
    subst hm;exact hn
theorem NI{l:List (Int×α)}(h:ColOK l){v:α}{m:Int}{u:α}:(m,u)∈Db l n v↔(m=n/\u=v)\/(m≠n/\(m,u)∈l):=by
 by_cases hk:n∈Am l
 ·obtain⟨w,hw⟩:=Ib hk
  have h1:=Ia hk;rw[IL hk];constructor
  ·intro hm
   obtain⟨i,hi,e⟩:=Br hm;rw[List.getElem_set]at e;split at e
   ·injection e with e1 e2
    exact .inl ⟨e1.symm,e2.symm⟩
   ·rename_i hne
    refine .inr ⟨λe2=>hne ?_,e▸Ax _⟩;have hi':i<l.length:=by simpa using hi
    have h2:(Am l)[i]'(by simpa using hi')=n:=by rw[GQ,e,e2]
    rw[<-h2];exact h.nd.idxOf_getElem i _
  ·rintro(⟨rfl,rfl⟩|⟨hne,hm⟩)
   ·exact Bb (i:=(Am l).idxOf m) (by rw[BY h1])
   ·obtain⟨i,hi,e⟩:=Br hm
    refine Bb (i:=i) ?_;rw[Ce,Af hi,e];intro e2;have h3:l[i]?=some (m,u):=by rw[Af hi,e]
    rw[<-e2,hw]at h3;injection h3 with h3
    injection h3 with h3 _
    exact hne h3.symm
 ·rw[FV hk,Du,CX]
  constructor
  ·rintro(hm|e)
   ·exact .inr ⟨λe=>hk (by subst e;exact Ad.2 ⟨_,hm,rfl⟩),hm⟩
   ·injection e with e1 e2
    exact .inl ⟨e1,e2⟩
  ·rintro(⟨rfl,rfl⟩|⟨_,hm⟩)
   ·exact .inr rfl
   ·exact .inl hm
theorem Jc{l:List (Int×α)}(h:n∉Am l):C5 l n=l:=AM h
theorem Q5{β:Type}{l:List β}{x e:β}(hx:l[i]?=some x)(he:l[l.length-1]?=some e):l.Perm (x::(l.set i e).take (l.length-1)):=by
 have hi:=(AE.1 hx).1
 obtain⟨l',e',rfl⟩:∃l' e',l=l'++[e']:=by
  rcases List.eq_nil_or_concat l with rfl|⟨l',e',rfl⟩
  ·cases hi
  ·exact⟨l',e',by simp⟩
 have hl:(l'++[e']).length-1=l'.length:=by simp
 rw[hl]at he⊢;rw[Bd (AP _),DY]at he;injection he with he
 subst he;by_cases h:i<l'.length
 ·rw[CR h]at hx
  rw[List.set_append_left _ _ h,EJ (by simp)];obtain⟨R,h1,h2⟩:=Cv hx;refine List.perm_append_comm.trans ?_;refine((h1.cons e').trans (.swap ..)).trans ?_;exact(h2 e').symm.cons x
 ·have hi':i=l'.length:=by simp at hi;omega
  subst hi';rw[Bd (AP _),DY]at hx;injection hx with hx
  subst hx;rw[Fa _ _ (AP _),DY,Gj,EJ rfl];exact BL
theorem OQ{β:Type}{l:List β}(h:0<l.length):∃e,l[l.length-1]?=some e:=⟨l[l.length-1],Af (by omega)⟩
theorem Fj{l:List (Int×α)}(h:ColOK l){v:α}(hm:(n,v)∈l):l.Perm ((n,v)::C5 l n):=by
 have hk:n∈Am l:=Ad.2 ⟨_,hm,rfl⟩;obtain⟨w,hw⟩:=Ib hk;have h1:=Ia hk
 have hwv:w=v:=by
  have:=(EV h).2 hm;unfold FS at this;rw[hw]at this;injection this
 subst hwv;obtain⟨e,he⟩:=OQ (l:=l) (by omega);unfold C5;rw[AY hk,he];exact Q5 hw he
theorem Ok{l:List (Int×α)}(hk:n∈Am l):(C5 l n).length=l.length-1:=by
 have h1:=Ia hk;obtain⟨e,he⟩:=OQ (l:=l) (by omega);unfold C5;rw[AY hk,he];simp
theorem ColOK.drop{l:List (Int×α)}(h:ColOK l)(n:Int):ColOK (C5 l n):=by
 by_cases hk:n∈Am l
 ·obtain⟨v,hv⟩:=IV hk
  have:=h.perm (Fj h ((EV h).1 hv));exact⟨(Bq.1 this.nd).2,λm hm=>this.lt m (Cd _ hm)⟩
 ·rw[Jc hk];exact h
theorem GX{l:List (Int×α)}(h:ColOK l){n m:Int}:m∈Am (C5 l n)↔m∈Am l/\m≠n:=by
 by_cases hk:n∈Am l
 ·obtain⟨v,hv⟩:=IV hk
  have hp:=Fj h ((EV h).1 hv);have hd:=h.perm hp;have hn:n∉Am (C5 l n):=(Bq.1 hd.nd).1;rw[(hp.map (·.1)).mem_iff (a:=m)];simp only[Aa,Cl];constructor
  ·intro hm
   exact⟨.inr hm,λe=>hn (by subst e;exact hm)⟩
  ·rintro⟨e|hm,hne⟩
   ·exact absurd e hne
   ·exact hm
 ·rw[Jc hk]
  exact⟨λhm=>⟨hm,λe=>hk (e▸hm)⟩,λhm=>hm.1⟩
theorem U5{l:List (Int×α)}(h:ColOK l){n m:Int}(hne:m≠n):FS (C5 l n) m=FS l m:=by
 by_cases hm:m∈Am l
 ·obtain⟨v,hv⟩:=IV hm
  rw[hv,EV (h.drop n)];have h1:=(EV h).1 hv;by_cases hk:n∈Am l
  ·obtain⟨w,hw⟩:=IV hk
   have:=(Fj h ((EV h).1 hw)).mem_iff.1 h1;rcases AQ.1 this with e|e
   ·injection e with e _
    exact absurd e hne
   ·exact e
  ·rw[Jc hk];exact h1
 ·rw[HG hm,HG (λhm'=>hm ((GX h).1 hm').1)]
theorem LA{l:List (Int×α)}(h:ColOK l)(hn:0<=n/\n<256){v:α}{m:Int}:FS (Db l n v) m=if m=n then some v else FS l m:=by
 split
 ·rename_i e
  subst e;exact(EV (h.put hn v)).2 ((NI h).2 (.inl ⟨rfl,rfl⟩))
 ·rename_i hne
  cases hg:FS l m with
  |some w=>exact(EV (h.put hn v)).2 ((NI h).2 (.inr ⟨hne,(EV h).1 hg⟩))
  |none=>
   refine HG λhm=>?_
   obtain⟨⟨m',w⟩,hw,rfl⟩:=Ad.1 hm;rcases(NI h).1 hw with⟨e,_⟩|⟨_,hw⟩
   ·exact hne e
   ·rw[(EV h).2 hw]at hg
    cases hg
theorem Fe{ks:List Int}(h:n∈ks):ixG ks n=some (.int .i64 (ks.idxOf n:Nat)):=AY h
theorem J8{ks:List Int}(h:n∉ks):ixG ks n=none:=AM h
theorem Wu{ks:List Int}(h:n∉ks):Hc (ixG ks) n (.int .i64 (ks.length:Nat))=ixG (ks++[n]):=by
 funext m
 unfold Hc;split
 ·rename_i e
  subst e;rw[Fe (by simp),List.idxOf_append,AM h];simp
 ·rename_i hne
  by_cases hm:m∈ks
  ·rw[Fe hm,Fe (by simp[hm]),List.idxOf_append,AY hm]
  ·rw[J8 hm,J8 (by simp[hm,hne])]
theorem NR{ks:List Int}(hd:ks.Nodup)(h:ks[i]?=some n):n∈ks/\ks.idxOf n=i:=by
 obtain⟨hi,e⟩:=AE.1 h;subst e;exact⟨Ax _,hd.idxOf_getElem i _⟩
theorem T8{ks:List Int}(hd:ks.Nodup){n e:Int}(hn:ks[i]?=some n)(he:ks[ks.length-1]?=some e):Jq (Hc (ixG ks) e (.int .i64 (i:Nat))) n=ixG ((ks.set i e).take (ks.length-1)):=by
 have hp:=Q5 hn he;have hd2:(n::(ks.set i e).take (ks.length-1)).Nodup:=hp.nodup_iff.1 hd;obtain⟨hn1,hd3⟩:=Bq.1 hd2;obtain⟨hi,_⟩:=AE.1 hn;have hmem:∀m,m∈ks↔m=n\/m∈(ks.set i e).take (ks.length-1):=λm=>by rw[hp.mem_iff];simp
 funext m
 unfold Jq;split
 ·rename_i h
  subst h;rw[J8 hn1]
 ·rename_i hmn
  unfold Hc;split
  ·rename_i hme
   subst hme
   have hi2:i<ks.length-1:=by
    refine Fh λh=>hmn ?_
    have:i=ks.length-1:=by omega
    rw[this,he]at hn;injection hn
   obtain⟨h1,h2⟩:=NR hd3 (i:=i) (n:=m) (by rw[NC hi2,BY hi]);rw[Fe h1,h2]
  ·rename_i hme
   by_cases hm:m∈ks
   ·obtain⟨j,hj,ej⟩:=Br hm
    have hj1:ks[j]?=some m:=by rw[Af hj,ej]
    have hj2:j<ks.length-1:=by
     refine Fh λh=>hme ?_
     have:j=ks.length-1:=by omega
     rw[this,he]at hj1;injection hj1 with hj1
     exact hj1.symm
    have hij:i≠j:=λh=>by
     subst h;rw[hn]at hj1;injection hj1 with hj1
     exact hmn hj1.symm
    obtain⟨h1,h2⟩:=NR hd hj1;obtain⟨h3,h4⟩:=NR hd3 (i:=j) (n:=m) (by rw[NC hj2,Ce hij,hj1]);rw[Fe h1,h2,Fe h3,h4]
   ·rw[J8 hm,J8 λh=>hm ((hmem m).2 (.inr h))]
structure StK where
 X:Nat
 V:Nat
 R:Nat
 M:Nat
end
instance mapII:TMap prog 215 3 3 (.int .i64 0):=⟨by kernel_rfl,by kernel_rfl,λw=>by kernel_rfl,PlainV.int (by kernel_rfl) rfl⟩
abbrev stE(k:StK)(l:List (Int×Ent)):List AS:=[(k.X,.row 217 3 [.agg [.sl k.V 0 l.length,.sl k.R 0 l.length,.mp k.M]]),(k.V,.row 32 2 (l.map λe=>CG e.2)),(k.R,.row 3 1 (l.map λe=>iA e.1)),(k.M,.ob (MapF prog 3 3 (ixG (Am l)) l.length))]
theorem U4{X V R M n m c:Nat}{l:List (Int×Ent)}{vs rs:List AV}{g:Int->Option Value}(h1:n=l.length)(h2:m=l.length)(h3:vs=l.map λe=>CG e.2)(h4:rs=l.map λe=>iA e.1)(h5:g=ixG (Am l))(h6:c=l.length):
  [(X,AO.row 217 3 [.agg [.sl V 0 n,.sl R 0 m,.mp M]]),(V,.row 32 2 vs),(R,.row 3 1 rs),(M,.ob (MapF prog 3 3 g c))]=stE ⟨X,V,R,M⟩ l:=by
 subst h1 h2 h3 h4 h5 h6;rfl
theorem newE_sp:Spec prog 121 [] [] λr S'=>∃k:StK,r= .ptr k.X 0 0/\S'=stE k []:=by
 refine Sp (nt:=4) (res:=[.tmp 0]) func121 λSf=>?_
 refine R1 ?_;refine JD ?_;refine QT λM=>?_;refine KO ?_;refine Ai λX=>?_;refine JC ?_
 refine CY (Y:=X) 32 2 .here (λV=>.cons (.agg (.cons (.base .nil) .r)) .nil) λV=>?_
 refine CY (Y:=X) 3 1 (.next .here) (λV=>.cons (.agg (.s (.cons (.base .nil) .r))) .nil) λR=>?_
 refine BV M ?_;refine BV R ?_;refine BV V ?_;refine BV X ?_;refine RT ?_;exact Ends.sp [.ptr X 0 0] (stE ⟨X,V,R,M⟩ []) ⟨⟨X,V,R,M⟩,rfl,rfl⟩
theorem aq(k:StK)(l:List (Int×Ent))(hl:ColOK l)(n:Int)(v:Ent)(hn:0<=n/\n<256):Spec prog 124 [.ptr k.X 0 0,iA n,CG v] (stE k l) λr S'=>∃q:Nat×Nat,r=iA 0/\S'=stE ⟨k.X,q.1,q.2,k.M⟩ (Db l n v):=by
 have hlen:=hl.len;have hn1:decide (n<0)=false:=Az (by omega);have hn2:decide (n>=256)=false:=Az (by omega);have hI: -9223372036854775808<=n/\n<=9223372036854775807:=by omega
 by_cases hk:n∈Am l
 ·obtain⟨u,hu⟩:=Ib hk
  have hi:=Ia hk;rw[IL hk];have hix:=Fe hk;have hke:=IU (v:=v) hk;rw[IL hk]at hke;obtain⟨i,hi2⟩:=nm ((Am l).idxOf n);rw[hi2]at hi hu hix hke⊢;have h1:(ixG (Am l) n).getD (.int .i64 0)= .int .i64 (i:Nat):=by rw[hix];rfl
  have h2:(ixG (Am l) n).isSome=true:=by rw[hix];rfl
  have hat:(l.map λe=>CG e.2)[i]?=some (CG u):=by rw[Ae,hu];rfl
  have hset:(l.map λe=>CG e.2).set i (CG v)=(l.set i (n,v)).map λe=>CG e.2:=by rw[BC]
  have hrow:(l.map λe=>iA e.1)=(l.set i (n,v)).map λe=>iA e.1:=by
   have:=EI (List.map iA) hke;rw[Am,Am,Dh,Dh]at this;exact this.symm
  refine Sp (nt:=62) (res:=[.tmp 6]) func124 λSf=>?_
  refine JF ?_;refine Ai λB0=>?_;refine JC ?_
  refine JJ ?_;refine AB rfl hn2 ?_;refine JD ?_;(iterate 5 refine WO ?_);refine BT ?_ (HY _ _ h1 h2 hI rfl rfl (by exact As));refine JE ?_;refine JJ ?_;refine Aq rfl rfl ?_;refine FL ?_;refine RU ?_;(iterate 6 refine RK ?_);refine BO ?_ (W.idx rfl rfl (by exact As) rfl (by omega) (An _));refine RK ?_;refine RGo.nil (by kernel_rfl) ?_;refine JL ?_;exact Ends.sp [iA 0] _ ⟨(k.V,k.R),rfl,U4 (n:=l.length) (m:=l.length) (c:=l.length) (by simp) (by simp) hset hrow (by rw[hke]) (by simp)⟩
 ·rw[FV hk]
  have hix:=J8 hk;have h1:(ixG (Am l) n).getD (.int .i64 0)= .int .i64 0:=by rw[hix];rfl
  have h2:(ixG (Am l) n).isSome=false:=by rw[hix];rfl
  have hkl:(Am l).length=l.length:=AH _
  have hkf:Hc (ixG (Am l)) n (.int .i64 (l.length:Nat))=ixG (Am (l++[(n,v)])):=by
   rw[<-hkl,Wu hk,Am,Am,AT];rfl
  have hsz:(if(ixG (Am l) n).isSome then l.length else l.length+1)=l.length+1:=by rw[h2];rfl
  have hmx:l.length<maxLen:=by unfold maxLen;omega
  refine Sp (nt:=62) (res:=[.tmp 6]) func124 λSf=>?_
  refine JF ?_;refine Ai λB0=>?_;refine JC ?_
  refine JJ ?_;refine AB rfl hn2 ?_;refine JD ?_;(iterate 5 refine WO ?_);refine BT ?_ (HY _ _ h1 h2 hI rfl rfl (by exact As));refine JE ?_;refine JJ ?_;refine AB rfl rfl ?_;refine FL ?_;refine RU ?_;(iterate 10 refine RK ?_);refine HZ ?_ (W.mapUpd (PlainV.int (by kernel_rfl) (GT (by omega))) hI hmx rfl rfl rfl (by exact As));refine RGo.nil (by kernel_rfl) ?_;rw[hkf,hsz];refine FL ?_;refine CN λA=>CN λB=>?_
  refine RU ?_;(iterate 7 refine RK ?_);refine I0 (iA n) ?_;(iterate 6 refine RK ?_);refine I0 (CG v) ?_;(iterate 7 refine RK ?_);refine RGo.nil (by kernel_rfl) ?_;refine JB ?_;refine BV k.M ?_;refine BV B ?_;refine BV A ?_;refine BV k.X ?_;refine RT ?_;exact Ends.sp [iA 0] _ ⟨(A,B),rfl,U4 (n:=l.length+1) (m:=l.length+1) (c:=l.length+1) (by simp) (by simp) (by rw[AT]) (by rw[AT]) rfl (by simp)⟩
abbrev stS(k:StK)(l:List (Int×List Int)):List AS:=[(k.X,.row 276 3 [.agg [.sl k.V 0 l.length,.sl k.R 0 l.length,.mp k.M]]),(k.V,.row 22 1 (l.map λe=>Av false e.2)),(k.R,.row 3 1 (l.map λe=>iA e.1)),(k.M,.ob (MapF prog 3 3 (ixG (Am l)) l.length))]
theorem U3{X V R M n m c:Nat}{l:List (Int×List Int)}{vs rs:List AV}{g:Int->Option Value}(h1:n=l.length)(h2:m=l.length)(h3:vs=l.map λe=>Av false e.2)(h4:rs=l.map λe=>iA e.1)(h5:g=ixG (Am l))(h6:c=l.length):
  [(X,AO.row 276 3 [.agg [.sl V 0 n,.sl R 0 m,.mp M]]),(V,.row 22 1 vs),(R,.row 3 1 rs),(M,.ob (MapF prog 3 3 g c))]=stS ⟨X,V,R,M⟩ l:=by
 subst h1 h2 h3 h4 h5 h6;rfl
theorem cg:Spec prog 122 [] [] λr S'=>∃k:StK,r= .ptr k.X 0 0/\S'=stS k []:=by
 refine Sp (nt:=4) (res:=[.tmp 0]) func122 λSf=>?_
 refine R1 ?_;refine JD ?_;refine QT λM=>?_;refine KO ?_;refine Ai λX=>?_;refine JC ?_
 refine CY (Y:=X) 22 1 .here (λV=>.cons (.agg (.cons (.base .nil) .r)) .nil) λV=>?_
 refine CY (Y:=X) 3 1 (.next .here) (λV=>.cons (.agg (.s (.cons (.base .nil) .r))) .nil) λR=>?_
 refine BV M ?_;refine BV R ?_;refine BV V ?_;refine BV X ?_;refine RT ?_;exact Ends.sp [.ptr X 0 0] (stS ⟨X,V,R,M⟩ []) ⟨⟨X,V,R,M⟩,rfl,rfl⟩
theorem aR(k:StK)(l:List (Int×List Int))(hl:ColOK l)(n:Int)(hn:I64 n)(v:List Int)(hg:FS l n=some v):Spec prog 128 [.ptr k.X 0 0,iA n] (stS k l) λr S'=>r= .tup [Av false v,bA true]/\S'=stS k l:=by
 have hlen:=hl.len;have hk:n∈Am l:=Fh λh=>by rw[HG h]at hg;cases hg
 obtain⟨u,hv⟩:=Ib hk;have hi:=Ia hk;have hg2:FS l n=some u:=by unfold FS;rw[hv];rfl
 rw[hg]at hg2;injection hg2 with hg2
 subst hg2;have hat:(l.map λe=>Av false e.2)[(Am l).idxOf n]?=some (Av false v):=by rw[Ae,hv];rfl
 have hix:=Fe hk;obtain⟨i,hi2⟩:=nm ((Am l).idxOf n);rw[hi2]at hi hat hix;have h1:(ixG (Am l) n).getD (.int .i64 0)= .int .i64 (i:Nat):=by rw[hix];rfl
 have h2:(ixG (Am l) n).isSome=true:=by rw[hix];rfl
 refine Sp (nt:=28) (res:=[.tmp 4,.tmp 5]) func128 λSf=>?_
 refine R1 ?_;refine JD ?_;(iterate 5 refine WO ?_);refine BT ?_ (HY _ _ h1 h2 hn rfl rfl (by exact As));refine JE ?_;refine JJ ?_;refine AB rfl rfl ?_;refine JD ?_;(iterate 5 refine WO ?_);refine BT ?_ (W.idx rfl rfl (by exact As) rfl (by omega) (An _));refine JE ?_;refine RT ?_;exact Ends.sp [Av false v,bA true] (stS k l) ⟨rfl,rfl⟩
theorem UR(k:StK)(l:List (Int×List Int))(hl:ColOK l)(n:Int)(v:List Int)(hn:0<=n/\n<256):Spec prog 125 [.ptr k.X 0 0,iA n,Av false v] (stS k l) λr S'=>∃q:Nat×Nat,r=iA 0/\S'=stS ⟨k.X,q.1,q.2,k.M⟩ (Db l n v):=by
 have hlen:=hl.len;have hn1:decide (n<0)=false:=Az (by omega);have hn2:decide (n>=256)=false:=Az (by omega);have hI: -9223372036854775808<=n/\n<=9223372036854775807:=by omega
 by_cases hk:n∈Am l
 ·obtain⟨u,hu⟩:=Ib hk
  have hi:=Ia hk;rw[IL hk];have hix:=Fe hk;have hke:=IU (v:=v) hk;rw[IL hk]at hke;obtain⟨i,hi2⟩:=nm ((Am l).idxOf n);rw[hi2]at hi hu hix hke⊢;have h1:(ixG (Am l) n).getD (.int .i64 0)= .int .i64 (i:Nat):=by rw[hix];rfl
  have h2:(ixG (Am l) n).isSome=true:=by rw[hix];rfl
  have hat:(l.map λe=>Av false e.2)[i]?=some (Av false u):=by rw[Ae,hu];rfl
  have hset:(l.map λe=>Av false e.2).set i (Av false v)=(l.set i (n,v)).map λe=>Av false e.2:=by rw[BC]
  have hrow:(l.map λe=>iA e.1)=(l.set i (n,v)).map λe=>iA e.1:=by
   have:=EI (List.map iA) hke;rw[Am,Am,Dh,Dh]at this;exact this.symm
  refine Sp (nt:=62) (res:=[.tmp 6]) func125 λSf=>?_
  refine R1 ?_;refine JJ ?_;refine AB rfl hn2 ?_;refine JD ?_;(iterate 5 refine WO ?_);refine BT ?_ (HY _ _ h1 h2 hI rfl rfl (by exact As));refine JE ?_;refine JJ ?_;refine Aq rfl rfl ?_;refine JD ?_;(iterate 6 refine WO ?_);refine BT ?_ (W.idx rfl rfl (by exact As) rfl (by omega) (An _));refine JC ?_;refine JL ?_;exact Ends.sp [iA 0] _ ⟨(k.V,k.R),rfl,U3 (n:=l.length) (m:=l.length) (c:=l.length) (by simp) (by simp) hset hrow (by rw[hke]) (by simp)⟩
 ·rw[FV hk]
  have hix:=J8 hk;have h1:(ixG (Am l) n).getD (.int .i64 0)= .int .i64 0:=by rw[hix];rfl
  have h2:(ixG (Am l) n).isSome=false:=by rw[hix];rfl
  have hkl:(Am l).length=l.length:=AH _
  have hkf:Hc (ixG (Am l)) n (.int .i64 (l.length:Nat))=ixG (Am (l++[(n,v)])):=by
   rw[<-hkl,Wu hk,Am,Am,AT];rfl
  have hsz:(if(ixG (Am l) n).isSome then l.length else l.length+1)=l.length+1:=by rw[h2];rfl
  have hmx:l.length<maxLen:=by unfold maxLen;omega
  refine Sp (nt:=62) (res:=[.tmp 6]) func125 λSf=>?_
  refine R1 ?_;refine JJ ?_;refine AB rfl hn2 ?_;refine JD ?_;(iterate 5 refine WO ?_);refine BT ?_ (HY _ _ h1 h2 hI rfl rfl (by exact As));refine JE ?_;refine JJ ?_;refine AB rfl rfl ?_;refine FL ?_;refine RU ?_;(iterate 10 refine RK ?_);refine HZ ?_ (W.mapUpd (PlainV.int (by kernel_rfl) (GT (by omega))) hI hmx rfl rfl rfl (by exact As));refine RGo.nil (by kernel_rfl) ?_;rw[hkf,hsz];refine FL ?_;refine CN λA=>CN λB=>?_
  refine RU ?_;(iterate 7 refine RK ?_);refine I0 (iA n) ?_;(iterate 6 refine RK ?_);refine I0 (Av false v) ?_;(iterate 7 refine RK ?_);refine RGo.nil (by kernel_rfl) ?_;refine JB ?_;refine BV k.M ?_;refine BV B ?_;refine BV A ?_;refine BV k.X ?_;refine RT ?_;exact Ends.sp [iA 0] _ ⟨(A,B),rfl,U3 (n:=l.length+1) (m:=l.length+1) (c:=l.length+1) (by simp) (by simp) (by rw[AT]) (by rw[AT]) rfl (by simp)⟩
def Ek:List Int->List Int->Int
 |[],[]=>0
 |[],_::_=>-1
 |_::_,[]=>1
 |x::a,y::b=>if EN x y≠0 then EN x y else Ek a b
theorem dO{a b:List Int}(ha:i<a.length)(hb:i<b.length):Ek (a.drop i) (b.drop i)=if EN a[i] b[i]≠0 then EN a[i] b[i]else Ek (a.drop (i+1)) (b.drop (i+1)):=by
 rw[D9 ha,D9 hb,Ek]
theorem UU(a b:List Int)(ha:a.length<=1099511627776):PS prog 120 [Av false a,Av false b] (iA (Ek a b)):=by
 have ham:(a.map iA).length=a.length:=AH _;have hbm:(b.map iA).length=b.length:=AH _;refine Sp (nt:=36) (res:=[.tmp 4]) func120 λSf=>?_
 refine KK ?_;refine B8 (λ(i:Nat)=>⟨[(0,Av false a),(1,Av false b),(9,Av false a),(10,iA (a.map iA).length),(11,iA i)],Sf⟩) (λi=>i<=a.length/\i<=b.length/\Ek a b=Ek (a.drop i) (b.drop i)) (λi=>a.length-i) 0 ⟨by omega,by omega,rfl⟩ ?_;rintro i ⟨hi,hib,hc⟩;refine KK ?_;refine AC rfl (λh=>?_) (λh=>?_)
 ·have h:i<a.length:=by rw[Aj,ham]at h;omega
  have hat:(a.map iA)[i]?=some (iA a[i]):=DC _ h;obtain⟨x,hx⟩:=nm (a[i]);rw[hx]at hat;have hil:i<(a.map iA).length:=by omega
  refine KK ?_;refine AC rfl (λh2=>?_) (λh2=>?_)
  ·have h2:i=b.length:=by rw[Aj,hbm]at h2;omega
   refine JA ?_;refine Ag ?_;have hbn:b.drop i=[]:=JW (by omega);rw[hc,hbn,D9 h];rfl
  ·have h2:i<b.length:=by rw[Ao,hbm]at h2;omega
   have hat2:(b.map iA)[i]?=some (iA b[i]):=DC _ h2;have hil2:i<(b.map iA).length:=by omega
   rw[dO h h2]at hc;obtain⟨y,hy⟩:=nm (b[i]);rw[hx,hy]at hc;rw[hy]at hat2;have hcm:=Fq x y;obtain⟨z,hz⟩:=nm (EN x y);rw[hz]at hcm hc;refine KK ?_;refine BP (h:=(hcm ..)) (k:=?_);refine KK ?_;refine AC rfl (λh3=>?_) (λh3=>?_)
   ·have h3:z≠0:=by simpa using h3
    refine JA ?_;refine Ag ?_;rw[hc,AY h3]
   ·have h3:z=0:=by simpa using h3
    rw[AM (by simp[h3])]at hc;refine KK ?_;exact BM (i+1) ⟨by omega,by omega,hc⟩ (by omega)
 ·have h:i=a.length:=by rw[Ao,ham]at h;omega
  subst h;rw[Dk]at hc;refine KK ?_;refine AC rfl (λh2=>?_) (λh2=>?_)
  ·have h2:a.length<b.length:=by rw[Aj,ham,hbm]at h2;omega
   refine JA ?_;refine Ag ?_;rw[hc,D9 h2];rfl
  ·have h2:a.length=b.length:=by rw[Ao,ham,hbm]at h2;omega
   refine JA ?_;refine Ag ?_;rw[hc,JW (by omega)];rfl
def H2{α:Type}(f:α->AV)(z:AV)(l:List α)(i:Nat):List AV:=(l.take i).map f++List.replicate (l.length-i) z
theorem Re(f:α->AV)(z:AV)(l:List α)(h:i<=l.length):(H2 f z l i).length=l.length:=by
 unfold H2;rw[Ak,AH,BZ,Di];omega
theorem Pj(f:α->AV)(z:AV)(l:List α):H2 f z l 0=List.replicate l.length z:=by unfold H2;simp
theorem Rf(f:α->AV)(z:AV)(l:List α):H2 f z l l.length=l.map f:=by unfold H2;simp
theorem UL(f:α->AV)(z:AV)(l:List α)(h:i<l.length):(H2 f z l i)[i]?=some z:=by
 unfold H2;have hl:((l.take i).map f).length=i:=by rw[AH,BZ];omega
 rw[Bd (by omega),hl,DY,Im,AY (by omega)]
theorem Rc(f:α->AV)(z:AV)(l:List α)(h:i<l.length):(H2 f z l i).set i (f l[i])=H2 f z l (i+1):=by
 unfold H2;have hl:((l.take i).map f).length=i:=by rw[AH,BZ];omega
 rw[Fa _ _ (by omega),hl,DY,show l.length-i=(l.length-(i+1))+1 by omega,H5,Gj,A6 h,AT,Bg];rfl
theorem Ve(l:List Comp)(hl:l.length<=1099511627776):PS prog 117 [B3 false false l] (Av true (l.map (·.kind))):=by
 have hlm:(l.map (AZ false)).length=l.length:=AH _;refine Sp (nt:=23) (res:=[.tmp 2]) func117 λSf=>?_
 refine R1 ?_;refine JK ?_;refine WO ?_;refine J1 (iA 0) λK=>?_;refine JC ?_
 rw[hlm,<-Pj (λc:Comp=>iA c.kind)];refine JJ ?_;refine B8 (λ(i:Nat)=>⟨[(3,.sl K 0 l.length),(9,B3 false false l),(10,iA (l.map (AZ false)).length),(11,iA i)],(K,.row 3 1 (H2 (λc:Comp=>iA c.kind) (iA 0) l i))::Sf⟩) (λi=>i<=l.length) (λi=>l.length-i) 0 (by omega) ?_;rintro i hi;have hfl:=Re (λc:Comp=>iA c.kind) (iA 0) l hi;refine JN ?_;refine AC rfl (λh=>?_) (λh=>?_)
 ·have h:i<l.length:=by rw[Aj,hlm]at h;omega
  have hat:(l.map (AZ false))[i]?=some (AZ false l[i]):=DC _ h;have hil:i<(l.map (AZ false)).length:=by omega
  have hfa:=UL (λc:Comp=>iA c.kind) (iA 0) l h;have hfs:=Rc (λc:Comp=>iA c.kind) (iA 0) l h;obtain⟨⟨ck,cv⟩,hc⟩:=nm (l[i]);rw[hc]at hat hfs;refine JH ?_;refine Ai λC=>?_;refine JE ?_
  refine JD ?_;(iterate 4 refine WO ?_);refine BT ?_ (W.idx rfl rfl (by exact As) rfl (by omega) (An _));refine JC ?_;rw[hfs];refine JB ?_;exact BM (i+1) (by omega)
 ·have h:i=l.length:=by rw[Ao,hlm]at h;omega
  subst h;rw[Rf];refine JL ?_;exact⟨[.sl K 0 l.length],[Av true (l.map (·.kind))],_,[],.cons (.tmp rfl) rfl .nil,.cons (.cell (by unfold Av;rw[show(l.map (·.kind)).map iA=l.map (λc:Comp=>iA c.kind)from Dh];exact .sl (p:=0) .here (by simp))) .nil,by exact BH,rfl,rfl⟩
abbrev ptrs{α:Type}(px:α->Nat)(l:List α):List AV:=l.map λx=>.ptr (px x) 0 0
theorem VA(Tb:Nat)(l:List α)(px:α->Nat)(R:List AS)(ks:List Int)(f:FuncId)(g:α->Int)(hl:l.length<=4611686018427387904)(hf:∀x∈l,Spec prog f [.ptr (px x) 0 0,Av false ks] R λr S'=>r=iA (g x)/\S'=R):
  Spec prog 118 [.sl Tb 0 l.length,Av false ks,.fn f []] ((Tb,.row 117 1 (ptrs px l))::R) λr S'=>∃b,Found g l b/\r= .tup [iA b.1,bA b.2]/\S'=(Tb,.row 117 1 (ptrs px l))::R:=by
 refine Sp (nt:=49) (res:=[.tmp 6,.tmp 7]) func118 λSf=>?_
 have hlm:(ptrs px l).length=l.length:=AH _;refine KK ?_;refine Ca (λ(i j:Nat)=>⟨[(0,.sl Tb 0 l.length),(1,Av false ks),(2,.fn f []),(8,iA l.length),(9,iA i),(10,iA j)],(Tb,.row 117 1 (ptrs px l))::(R++Sf)⟩) (λi j=>i<=j/\j<=l.length/\(Lm g l->Spl g l i j)) (λi j=>j-i) 0 l.length ⟨Ap _,by omega,λ_=>⟨λk x h=>absurd h (by omega),λk x h hx=>by have:=(AE.1 hx).1;omega⟩⟩ ?_;rintro i j ⟨hij,hjn,hmono⟩;refine KK ?_;refine AC rfl (λhc=>?_) (λhc=>?_)
 ·have h:i<j:=by rw[Aj]at hc;omega
  have hmid:((i:Int)+j).fdiv (2^1)=(((i+j)/2:Nat):Int):=by
   rw[FR _ (by decide)];omega
  have hw1:IntKind.u64.wrap ((i:Int)+j)=i+j:=by rw[K0];omega
  have hw2:IntKind.i64.wrap (((i:Int)+j).fdiv (2^1))=((i:Int)+j).fdiv (2^1):=by
   rw[QZ,hmid];omega
  refine RG ?_;(iterate 3 refine WO ?_);refine AI (W.conv .i64 .u64 (by kernel_rfl) (by kernel_rfl) rfl hw1) rfl ?_;refine AI (W.shr 1 rfl rfl rfl (by decide)) rfl ?_;refine AI (W.conv .u64 .i64 (by kernel_rfl) (by kernel_rfl) rfl hw2) rfl ?_;refine JC ?_;rw[hmid];obtain⟨m,hm⟩:=nm ((i+j)/2);rw[hm];have hml:m<l.length:=by omega
  obtain⟨y,hy⟩:=nm (l[m]);have hya:l[m]?=some y:=by rw[Af hml,hy]
  have hat:(ptrs px l)[m]?=some (.ptr (px y) 0 0):=by rw[Ae,hya];rfl
  have hfy:=hf y (by rw[<-hy];exact Ax hml);refine RG ?_;(iterate 3 refine WO ?_);refine BT ?_ (W.idx rfl rfl (by exact As) rfl (by omega) (An _));refine WO ?_;refine WO ?_;refine Um [(Tb,_)] (h:=hfy) (k:=?_);refine JC ?_;refine AC rfl (λhe=>?_) (λhe=>?_)
  ·have he:g y<0:=by simpa using he
   refine KK ?_;refine Bn (m+1) j ⟨by omega,hjn,λhM=>(hmono hM).lo hM hya he⟩
  ·have he:¬g y<0:=by simpa using he
   refine KK ?_;refine Bn i m ⟨by omega,by omega,λhM=>(hmono hM).hi hM hya he⟩
 ·have h:i=j:=by rw[Ao]at hc;omega
  subst h;by_cases hin:i<l.length
  ·have hil:i<l.length:=by omega
   have g1:decide ((i:Int)<l.length)=true:=BG (by omega);obtain⟨y,hy⟩:=nm (l[i]);have hya:l[i]?=some y:=by rw[Af hil,hy]
   have hat:(ptrs px l)[i]?=some (.ptr (px y) 0 0):=by rw[Ae,hya];rfl
   have hfy:=hf y (by rw[<-hy];exact Ax hil)
   (iterate 15 refine WK ?_);refine BT ?_ (W.idx rfl rfl (by exact As) rfl (by omega) (An _));(iterate 5 refine WK ?_);refine Um [(Tb,_)] (h:=hfy) (k:=?_);refine KK ?_
   refine RT ?_;exact Ends.sp [iA i,bA (decide (g y=0))] ((Tb,.row 117 1 (ptrs px l))::R) ⟨(i,decide (g y=0)),⟨by simp;omega,by simp[hya],hmono⟩,rfl,rfl⟩
  ·have g1:decide ((i:Int)<l.length)=false:=Az (by omega)
   refine JA ?_;exact Ends.sp [iA i,bA false] ((Tb,.row 117 1 (ptrs px l))::R) ⟨(i,false),⟨by simp;omega,by simp[CT (show l.length<=i by omega)],hmono⟩,rfl,rfl⟩
theorem YD(X:Nat)(l:List α)(px:α->Nat)(R:List AS)(f:FuncId)(cap:List AV)(p:α->Bool)(hs:DH cap=true)(hl:l.length<=4611686018427387904)(hf:∀x∈l,Spec prog f (.ptr (px x) 0 0::cap) R λr S'=>r=bA (p x)/\S'=R):Spec prog 283 [.sl X 0 l.length,.fn f cap] ((X,.row 117 1 (ptrs px l))::R) λr S'=>r=iA (HM l p)/\S'=(X,.row 117 1 (ptrs px l))::R:=by
 refine Sp (nt:=19) (res:=[.tmp 4]) func283 λSf=>?_
 refine KK ?_;refine B8 (λi:Nat=>⟨[(0,.sl X 0 l.length),(1,.fn f cap),(7,iA l.length),(8,iA i)],(X,.row 117 1 (ptrs px l))::(R++Sf)⟩) (λi=>i<=l.length/\∀j (h:j<l.length),j<i->p l[j]=false) (λi=>l.length-i) 0 ⟨Ap _,λj h hj=>absurd hj (by omega)⟩ ?_;rintro i ⟨hi,he⟩;refine KK ?_;refine AC rfl (λhc=>?_) (λhc=>?_)
 ·have h:i<l.length:=by simpa using hc
  have hfx:=hf _ (Ax h);obtain⟨y,hy⟩:=nm (l[i]);have hat:(ptrs px l)[i]?=some (.ptr (px y) 0 0):=by rw[Ae,Af h,hy];rfl
  rw[hy]at hfx
  (iterate 13 refine WK ?_);refine BT ?_ (W.idx rfl rfl (by exact As) rfl (by omega) (An _));refine WK ?_;refine Un [(X,_)] (h:=hfx) (k:=?_);refine KK ?_
  refine AC rfl (λhd=>?_) (λhd=>?_)
  ·refine KK ?_
   rw[HK h (by rw[hy];exact hd) λj hj=>he j (by omega) hj];refine RT ?_;exact Ends.sp [iA i] ((X,.row 117 1 (ptrs px l))::R) ⟨rfl,rfl⟩
  ·refine KK ?_
   refine BM (i+1) ⟨h,λj h1 h2=>?_⟩;by_cases e:j=i
   ·subst e;rw[hy];exact hd
   ·exact he j h1 (by omega)
 ·have h:¬i<l.length:=by simpa using hc
  refine KK ?_;rw[HL λj hj=>he j hj (by omega)];refine RT ?_;exact Ends.sp [iA (-1)] ((X,.row 117 1 (ptrs px l))::R) ⟨rfl,rfl⟩
theorem Vy(X:Nat)(l:List α)(px:α->Nat)(R:List AS)(f:FuncId)(cap:List AV)(p:α->Bool)(hs:DH cap=true)(hl:l.length<=4611686018427387903)(hf:∀x∈l,Spec prog f (.ptr (px x) 0 0::cap) R λr S'=>r=bA (p x)/\S'=R):Spec prog 281 [.sl X 0 l.length,.fn f cap] ((X,.row 117 1 (ptrs px l))::R) λr S'=>r= .lst true 117 1 (ptrs px (l.filter λx=>!p x))/\S'=R:=by
 refine Sp (nt:=42) (res:=[.tmp 4]) func281 λSf=>?_
 have h0:=YD X l px R f cap p hs (by omega) hf;have hr:=PV l p;obtain⟨v,hv⟩:=nm (HM l p);rw[hv]at h0 hr
 (iterate 8 refine WK ?_);refine Hb [] h0 ?_;refine KK ?_
 refine AC rfl (λhc=>?_) (λhc=>?_)
 ·have hc:v= -1:=by simpa using hc
  have hall:(l.filter λx=>!p x)=l:=by
   rw[ES];intro x hx
   have h1:l.findIdx? p=none:=by
    unfold HM at hv;split at hv
    ·omega
    ·assumption
   rw[Dz]at h1;simp[h1 x hx]
  rw[hall];refine JA ?_;exact⟨[.sl X 0 l.length],[.lst true 117 1 (ptrs px l)],_,R,.cons (.tmp rfl) rfl .nil,.cons (.cell (.sl (p:=0) .here (by simp))) .nil,by exact BH,rfl,rfl⟩
 ·have hc:v≠-1:=by simpa using hc
  obtain⟨i0,hi0⟩:∃i0:Nat,v=i0:=⟨v.toNat,by omega⟩;subst hi0
  have hfi:l.findIdx? p=some i0:=by
   unfold HM at hv;split at hv
   ·rename_i i hi;rw[hi];congr 1;omega
   ·omega
  obtain⟨hil,hpi,hmin⟩:=Cz.1 hfi
  have ht0:(l.take (i0+1)).filter (λx=>!p x)=l.take i0:=by
   rw[A6 hil,Dr];rw[show([l[i0]].filter λx=>!p x)=[] by simp[hpi],BD,ES];intro x hx;obtain⟨j,hj,rfl⟩:=EX.1 hx;have:=hmin j (by omega);simp at this⊢;exact this
  refine KK ?_;refine Ev (λ(i j:Nat) (M:List AV)=>⟨[(0,.sl X 0 l.length),(1,.fn f cap),(5,iA i),(6,iA j)],(X,.row 117 1 M)::(R++Sf)⟩) (λi j M=>i<j/\j<=l.length/\∃K:List α,M=ptrs px K/\K.length=l.length/\K.take i=((l.take j).filter λx=>!p x)/\K.drop j=l.drop j) (λi j _=>l.length-j) i0 (i0+1) (ptrs px l) ⟨by omega,hil,l,rfl,rfl,ht0.symm,rfl⟩ ?_;rintro i j M ⟨hij,hj,K,rfl,hM,h1,h2⟩;refine KK ?_;refine AC rfl (λhd=>?_) (λhd=>?_)
  ·have h:j<l.length:=by simpa using hd
   have hKj:K[j]?=some l[j]:=by
    have:=EI (λz=>z[0]?) h2;simpa[h]using this
   have hat:(ptrs px K)[j]?=some (.ptr (px l[j]) 0 0):=by rw[Ae,hKj];rfl
   have hKi:i<K.length:=by omega
   obtain⟨b,hb⟩:=nm (p l[j]);have hfj:=hf _ (Ax h);rw[hb]at hfj
   have htk:(l.take (j+1)).filter (λx=>!p x)=(l.take j).filter (λx=>!p x)++if b then[]else[l[j]]:=by
    rw[A6 h,Dr]
    congr 1
    cases b<;>simp[hb]
   obtain⟨y,hy⟩:=nm (l[j]);rw[hy]at hat hfj
   (iterate 7 refine WK ?_);refine BT ?_ (W.idx rfl rfl (by exact As) rfl (by omega) (An _));(iterate 7 refine WK ?_);refine Un [(X,_)] (h:=hfj) (k:=?_);refine KK ?_
   cases b
   ·refine Aq rfl rfl ?_
    refine KK ?_;refine Dc (i+1) (j+1) ((ptrs px K).set i (.ptr (px y) 0 0)) ⟨by omega,h,K.set i y,by rw[ptrs,ptrs,BC],by simpa using hM,?_,?_⟩
    ·rw[htk,<-h1,E5,List.take_set,List.set_eq_of_length_le (by rw[BZ];omega),BY hKi]
     simp[hy]
    ·rw[List.drop_set_of_lt (by omega),<-Cq,h2,Cq]
   ·refine AB rfl rfl ?_
    refine KK ?_;refine Dc i (j+1) _ ⟨by omega,h,K,rfl,hM,?_,?_⟩
    ·rw[h1,htk];simp
    ·rw[<-Cq,h2,Cq]
  ·have h:j=l.length:=by rw[Ao]at hd;omega
   subst h;have h1':K.take i=l.filter λx=>!p x:=by rw[h1,B9]
   have hKl:(ptrs px K).length=l.length:=by rw[AH,hM]
   have hki:∀A B,(List.take (0+i) (ptrs px K)++A++B).take i=ptrs px (l.filter λx=>!p x):=λA B=>by
    rw[An,Bg,DP (by rw[BZ];omega),Dy,QW,ptrs,<-EK,h1']
   have hfl:i=(ptrs px (l.filter λx=>!p x)).length:=by
    rw[<-h1',AH,BZ];omega
   (repeat first|(refine Bk ?_;first|refine Dl (W.slice_lo rfl rfl (by exact As) rfl (by omega)) rfl ?_|refine Dl (W.clear rfl (by exact As) (by first|exact .inl rfl|exact .inr rfl) rfl (by omega)) rfl ?_|refine AI (W.hi rfl rfl (by exact As) rfl (by omega)) rfl ?_)|refine WK ?_|refine Ai λX=>?_|refine Ay λY=>?_);refine FP (X:=X) i ?_;rw[hki];refine RT ?_;exact⟨[.sl X 0 i],[.lst true 117 1 (ptrs px (l.filter λx=>!p x))],_,R,.cons (.tmp rfl) rfl .nil,.cons (.cell (.sl (p:=0) .here hfl)) .nil,by exact BH,rfl,rfl⟩
structure Tab where
 X:Nat
 ks:List Int
 ek:StK
 es:List (Int×Ent)
 cs:List (StK×List (Int×List Int))
def DL(cs:List (StK×List (Int×List Int))):List AS:=cs.flatMap λc=>stS c.1 c.2
abbrev UW(cs:List (StK×List (Int×List Int))):AV:=.lst false 209 1 (cs.map λc=>.ptr c.1.X 0 0)
abbrev G8(t:Tab):AS:=(t.X,.row 123 3 [.agg [Av false t.ks,.ptr t.ek.X 0 0,UW t.cs]])
abbrev H6(t:Tab):List AS:=G8 t::(stE t.ek t.es++DL t.cs)
theorem F8(a b:List (StK×List (Int×List Int))):DL (a++b)=DL a++DL b:=D5
theorem Fr(c:StK×List (Int×List Int))(b:List (StK×List (Int×List Int))):DL (c::b)=stS c.1 c.2++DL b:=CP
theorem Jd{l:List α}(h:i<l.length):∃l1 l2,l=l1++l[i]::l2/\l1.length=i:=⟨l.take i,l.drop (i+1),by rw[List.getElem_cons_drop,CJ],by rw[BZ];omega⟩
def BF(t:Tab)(n:Int):List Comp:=(t.ks.zip t.cs).map λq=>⟨q.1,(FS q.2.2 n).getD []⟩
structure TabOK(t:Tab):Prop where
 len:t.ks.length=t.cs.length
 ks:t.ks.length<=16
 es:ColOK t.es
 cs:∀c∈t.cs,ColOK c.2
 keys:∀c∈t.cs,∀n,n∈Am c.2↔n∈Am t.es
theorem dX(t:Tab)(ks:List Int)(hl:t.ks.length<=1099511627776):Spec prog 119 [.ptr t.X 0 0,Av false ks] [G8 t] λr S'=>r=iA (Ek t.ks ks)/\S'=[G8 t]:=by
 have h1:=UU t.ks ks hl;refine Sp (nt:=11) (res:=[.tmp 4]) func119 λSf=>?_
 refine R1 ?_;refine JH ?_;refine BP (h:=(h1 ..)) (k:=?_);refine JC ?_;refine RT ?_;exact Ends.sp [iA (Ek t.ks ks)] [G8 t] ⟨rfl,rfl⟩
abbrev Pw:AV:=.agg [iA 0,.prim (.slice none 0 0)]
theorem HF{t:Tab}(h:i<(BF t n).length)(h1:i<t.ks.length)(h2:i<t.cs.length):(BF t n)[i]=⟨t.ks[i],(FS t.cs[i].2 n).getD []⟩:=by simp[BF]
theorem US(t:Tab)(n:Int)(ht:TabOK t)(hn:I64 n)(hk:n∈Am t.es):Spec prog 58 [.ptr t.X 0 0,iA n] (H6 t) λr S'=>r= .lst true 42 2 ((BF t n).map (AZ false))/\S'=H6 t:=by
 have hkm:(t.ks.map iA).length=t.ks.length:=AH _;have hcm:(t.cs.map λc=>AV.ptr c.1.X 0 0).length=t.cs.length:=AH _;have hlen:=ht.len;have h16:=ht.ks;have htl:(BF t n).length=t.ks.length:=by unfold BF;rw[AH,LM];omega
 refine Sp (nt:=46) (res:=[.tmp 4]) func58 λSf=>?_
 refine R1 ?_;refine JD ?_;(iterate 5 refine WO ?_);refine J1 (AV.agg [iA 0,.prim (.slice none 0 0)]) λK=>?_;refine JC ?_
 rw[hkm,<-htl,<-Pj (AZ false)];refine JJ ?_;refine B8 (λ(i:Nat)=>⟨[(0,.ptr t.X 0 0),(1,iA n),(5,.sl K 0 (BF t n).length),(19,Av false t.ks),(20,iA (t.ks.map iA).length),(21,iA i)],(K,.row 42 2 (H2 (AZ false) Pw (BF t n) i))::(H6 t++Sf)⟩) (λi=>i<=t.ks.length) (λi=>t.ks.length-i) 0 (by omega) ?_;rintro i hi;have hfl:=Re (AZ false) Pw (BF t n) (i:=i) (by omega);refine JN ?_;refine AC rfl (λh=>?_) (λh=>?_)
 ·have h:i<t.ks.length:=by rw[Aj,hkm]at h;omega
  have hc:i<t.cs.length:=by omega
  have hat:(t.ks.map iA)[i]?=some (iA t.ks[i]):=DC _ h;have hil:i<(t.ks.map iA).length:=by omega
  have hti:i<(BF t n).length:=by omega
  have hfa:=UL (AZ false) Pw (BF t n) hti;have hfs:=Rc (AZ false) Pw (BF t n) hti;have hcat:(t.cs.map λc=>AV.ptr c.1.X 0 0)[i]?=some (.ptr t.cs[i].1.X 0 0):=DC _ hc;have hcil:i<(t.cs.map λc=>AV.ptr c.1.X 0 0).length:=by omega
  have hcm:=Ax hc;obtain⟨v,hv⟩:=IV ((ht.keys _ hcm n).2 hk)
  have hel:(BF t n)[i]=⟨t.ks[i],v⟩:=by
   rw[HF hti h hc,hv];rfl
  rw[hel]at hfs;have hget:=aR t.cs[i].1 t.cs[i].2 (ht.cs _ hcm) n hn v hv;obtain⟨l1,l2,hsp,hl1⟩:=Jd hc;obtain⟨c,hce⟩:=nm (t.cs[i]);rw[hce]at hget hsp hcat;obtain⟨k,hke⟩:=nm (t.ks[i]);rw[hke]at hat hfs
  have heq:(K,AO.row 42 2 (H2 (AZ false) Pw (BF t n) i))::(H6 t++Sf)=((K,AO.row 42 2 (H2 (AZ false) Pw (BF t n) i))::G8 t::(stE t.ek t.es++DL l1))++(stS c.1 c.2++(DL l2++Sf)):=by
   have e1:DL t.cs=DL l1++(stS c.1 c.2++DL l2):=by
    conv=>lhs;rw[hsp]
    rw[F8,Fr]
   rw[H6,e1];simp only[CI,Bg]
  refine JB ?_;refine JD ?_;(iterate 8 refine WO ?_);refine Hb _ hget ?_ (hp:=heq);refine JE ?_;rw[<-heq];refine JD ?_;(iterate 5 refine WO ?_);refine BT ?_ (W.idx rfl rfl (by exact As) rfl (by omega) (An _));refine JC ?_;refine R8 K hfs ?_;refine JB ?_;exact BM (i+1) (by omega)
 ·have h:i=t.ks.length:=by rw[Ao,hkm]at h;omega
  subst h;have hfa:H2 (AZ false) Pw (BF t n) t.ks.length=(BF t n).map (AZ false):=by rw[<-htl];exact Rf _ _ _
  rw[hfa];refine JL ?_;exact⟨[.sl K 0 (BF t n).length],[.lst true 42 2 ((BF t n).map (AZ false))],_,H6 t,.cons (.tmp rfl) rfl .nil,.cons (.cell (.sl (p:=0) .here (by simp))) .nil,by exact BH,rfl,rfl⟩
theorem cmpI_eqz{x y:Int}:EN x y=0↔x=y:=by unfold EN;split<;>(try split)<;>omega
theorem cmpI_ltz{x y:Int}:EN x y<0↔x<y:=by unfold EN;split<;>(try split)<;>omega
theorem cmpL_zero:∀{a b:List Int},Ek a b=0↔a=b
 |[],[]=>by simp[Ek]
 |[],_::_=>by simp[Ek]
 |_::_,[]=>by simp[Ek]
 |x::a,y::b=>by
  rw[Ek,Bs];by_cases h:EN x y=0
  ·rw[AM (by simp[h]),cmpL_zero,cmpI_eqz.1 h];simp
  ·rw[AY h]
   exact⟨λe=>absurd e h,λe=>absurd (cmpI_eqz.2 e.1) h⟩
theorem MG:∀{a b c:List Int},Ek a b<0->Ek b c<0->Ek a c<0
 |[],[],_,h,_=>by simp[Ek]at h
 |[],_::_,[],_,h=>by simp[Ek]at h
 |[],_::_,_::_,_,_=>by simp[Ek]
 |_::_,[],_,h,_=>by simp[Ek]at h
 |_::_,_::_,[],_,h=>by simp[Ek]at h
 |x::a,y::b,z::c,h1,h2=>by
  rw[Ek]at h1 h2⊢;by_cases e1:EN x y=0
  ·have e1':=cmpI_eqz.1 e1
   subst e1';rw[AM (by simp[e1])]at h1;by_cases e2:EN x z=0
   ·rw[AM (by simp[e2])]at h2⊢
    exact MG h1 h2
   ·rw[AY e2]at h2⊢
    exact h2
  ·rw[AY e1]at h1
   have l1:=cmpI_ltz.1 h1;by_cases e2:EN y z=0
   ·have e2':=cmpI_eqz.1 e2
    subst e2';rw[AY e1];exact h1
   ·rw[AY e2]at h2
    have l2:=cmpI_ltz.1 h2;have l3:EN x z<0:=cmpI_ltz.2 (by omega);rw[AY (by omega)];exact l3
theorem Rl:∀{a b:List Int},¬Ek a b<0->a≠b->Ek b a<0
 |[],[],_,h=>absurd rfl h
 |[],_::_,h,_=>absurd (by simp[Ek]) h
 |_::_,[],_,_=>by simp[Ek]
 |x::a,y::b,h,hne=>by
  rw[Ek]at h⊢;by_cases e:EN x y=0
  ·have e':=cmpI_eqz.1 e
   subst e';rw[AM (by simp[e])]at h⊢;exact Rl h λe2=>hne (by rw[e2])
  ·rw[AY e]at h
   have hxy:x≠y:=λe2=>e (cmpI_eqz.2 e2)
   have:¬x<y:=λl=>h (cmpI_ltz.2 l)
   have l:EN y x<0:=cmpI_ltz.2 (by omega);rw[AY (by omega)];exact l
structure Ar where
 A:Nat
 G:Nat
 Tb:Nat
 O:Nat
 Tv:Nat
 K:AV->Value->Prop
 g:Int->Option Value
 c:Nat
 kinds:List Kind
 gens:List Int
 ts:List Tab
def Ch(ts:List Tab):List AS:=ts.flatMap H6
abbrev arH(a:Ar):List AS:=[(a.A,.row 115 4 [.agg [Ba false false a.kinds,.sl a.G 0 a.gens.length,.sl a.Tb 0 a.ts.length,.mp a.O]]),(a.G,.row 3 1 (a.gens.map iA)),(a.O,.ob (MapF prog 3 117 a.g a.c)),(a.Tv,.tv a.K),(a.Tb,.row 117 1 (ptrs Tab.X a.ts))]
abbrev arS(a:Ar):List AS:=arH a++Ch a.ts
theorem K8(a b:List Tab):Ch (a++b)=Ch a++Ch b:=D5
theorem Ux(t:Tab)(b:List Tab):Ch (t::b)=H6 t++Ch b:=CP
theorem Fw{l1 l2:List Tab}{t:Tab}(R:List AS):(Ch (l1++t::l2)++R).Perm (H6 t++(Ch l1++(Ch l2++R))):=by
 rw[K8,Ux,Bg,Bg];exact D6 _ _ _
abbrev Cn(ts:List Tab):List Int:=ts.flatMap λt=>Am t.es
def D2(t:Tab):List Item:=t.es.map λe=>⟨e.2,BF t e.1⟩
def B0(ts:List Tab):List Item:=ts.flatMap D2
structure ArOK(a:Ar):Prop where
 tab:∀t∈a.ts,TabOK t
 ord:a.ts.Pairwise λt u=>Ek t.ks u.ks<0
 keys:(Cn a.ts).Nodup
 ent:∀t∈a.ts,∀e∈t.es,e.1=e.2.n
 g:∀n u,a.g n=some u->∃t∈a.ts,n∈Am t.es/\a.K (.ptr t.X 0 0) u/\∃b:Nat,u= .pointer (some ⟨b,0,none⟩)
 gn:∀n∈Cn a.ts,(a.g n).isSome=true
 cnt:a.c=(Cn a.ts).length
theorem ArOK.lt{a:Ar}(h:ArOK a):∀n∈Cn a.ts,0<=n/\n<256:=λn hn=>by
 obtain⟨t,ht,hm⟩:=CA.1 hn;exact(h.tab t ht).es.lt n hm
theorem ArOK.c_le{a:Ar}(h:ArOK a):a.c<=256:=by rw[h.cnt];exact Tp h.keys h.lt
def II(ts:List Tab):Prop:=∀t∈ts,t.es≠[]
theorem ArOK.ts_le{a:Ar}(h:ArOK a)(hne:II a.ts):a.ts.length<=256:=by
 refine B7 ?_ h.c_le;rw[h.cnt,Cn,List.length_flatMap]
 have:∀ts:List Tab,(∀t∈ts,t.es≠[])->ts.length<=(ts.map λt=>(Am t.es).length).sum:=by
  intro ts
  induction ts with
  |nil=>intro _;simp
  |cons t ts ih=>
   intro hh;have h1:=ih λt ht=>hh t (by simp[ht])
   have h2:0<(Am t.es).length:=by rw[AH];exact GI.2 (hh t (by simp))
   simp only[DM,Aa,List.sum_cons];omega
 exact this a.ts hne
theorem ArOK.mono{a:Ar}(h:ArOK a)(ks:List Int):Lm (λt:Tab=>Ek t.ks ks) a.ts:=by
 intro i j x y hij hx hy hg;rcases Nat.lt_or_eq_of_le hij with hlt|rfl
 ·obtain⟨hi,rfl⟩:=AE.1 hx
  obtain⟨hj,rfl⟩:=AE.1 hy;exact MG (Bt.1 h.ord i j hi hj hlt) hg
 ·rw[hx]at hy
  injection hy with hy
  subst hy;exact hg
theorem cZ{ts:List Tab}{t:Tab}{ks:List Int}(h:ts.Pairwise λt u=>Ek t.ks u.ks<0)(hm:Lm (λt:Tab=>Ek t.ks ks) ts)(hf:Found (λt:Tab=>Ek t.ks ks) ts (i,false))(ht:t.ks=ks):(ts.take i++t::ts.drop i).Pairwise λt u=>Ek t.ks u.ks<0:=by
 obtain⟨hlo,hhi⟩:=hf.mono hm;have heq:=hf.eq;dsimp only at hlo hhi heq
 have h1:∀x∈ts.take i,Ek x.ks ks<0:=λx hx=>by
  obtain⟨j,hj,rfl⟩:=EX.1 hx;exact hlo j _ (by omega) (Af (by omega))
 have h2:∀x∈ts.drop i,Ek ks x.ks<0:=λx hx=>by
  obtain⟨j,hj,rfl⟩:=Ha.1 hx;rw[DE]at hj;rw[List.getElem_drop];have hg:ts[i+j]?=some ts[i+j]:=Af (by omega);have hn:=hhi (i+j) _ (by omega) hg;refine Rl hn λe=>?_
  cases j with
  |zero=>
   have:(false:Bool)=true:=heq.2 ⟨ts[i],Af (by omega),cmpL_zero.2 e⟩;cases this
  |succ j=>
   have hi':ts[i]?=some ts[i]:=Af (by omega);have h3:=Bt.1 h i (i+(j+1)) (by omega) (by omega) (by omega);rw[e]at h3;exact hhi i _ (AP _) hi' h3
 rw[Bi];refine⟨h.sublist (List.take_sublist _ _),Al.2 ⟨λx hx=>by rw[ht];exact h2 x hx,h.sublist (List.drop_sublist _ _)⟩,λx hx y hy=>?_⟩;rcases AQ.1 hy with rfl|hy
 ·rw[ht];exact h1 x hx
 ·exact MG (h1 x hx) (h2 y hy)
theorem EU(a b:List Tab):Cn (a++b)=Cn a++Cn b:=D5
theorem Ew(t:Tab)(b:List Tab):Cn (t::b)=Am t.es++Cn b:=CP
theorem D0(a b:List Tab):B0 (a++b)=B0 a++B0 b:=D5
theorem EE(t:Tab)(b:List Tab):B0 (t::b)=D2 t++B0 b:=CP
theorem ArOK.newT{a:Ar}(h:ArOK a){t:Tab}{i Y:Nat}(ht:TabOK t)(he:t.es=[])(hf:Found (λu:Tab=>Ek u.ks t.ks) a.ts (i,false)):ArOK {a with Tb:=Y,ts:=a.ts.take i++t::a.ts.drop i}:=by
 have hk:Cn (a.ts.take i++t::a.ts.drop i)=Cn a.ts:=by
  rw[EU,Ew,he]
  conv=>rhs;rw[<-CJ i a.ts,EU]
  rfl
 have hm:∀u,u∈a.ts.take i++t::a.ts.drop i↔u=t\/u∈a.ts:=λu=>by
  conv=>rhs;rw[<-CJ i a.ts]
  simp only[Du,Cl];constructor
  ·rintro(h|h|h)
   ·exact .inr (.inl h)
   ·exact .inl h
   ·exact .inr (.inr h)
  ·rintro(h|h|h)
   ·exact .inr (.inl h)
   ·exact .inl h
   ·exact .inr (.inr h)
 refine⟨λu hu=>?_,cZ h.ord (h.mono _) hf rfl,by rw[hk];exact h.keys,λu hu=>?_,λn u hg=>?_,λn hn=>h.gn n (by rw[hk]at hn;exact hn),by rw[hk];exact h.cnt⟩
 ·rcases(hm u).1 hu with rfl|hu
  ·exact ht
  ·exact h.tab u hu
 ·rcases(hm u).1 hu with rfl|hu
  ·rw[he];intro e he;cases he
  ·exact h.ent u hu
 ·obtain⟨w,hw,h2⟩:=h.g n u hg
  exact⟨w,(hm w).2 (.inr hw),h2⟩
theorem Vg{ts:List Tab}{t:Tab}(he:t.es=[]):B0 (ts.take i++t::ts.drop i)=B0 ts:=by
 rw[D0,EE,D2,he]
 conv=>rhs;rw[<-CJ i ts,D0]
 rfl
theorem X9{ts:List Tab}{t:Tab}(he:t.es=[]):Cn (ts.take i++t::ts.drop i)=Cn ts:=by
 rw[EU,Ew,he]
 conv=>rhs;rw[<-CJ i ts,EU]
 rfl
structure CsUp(n:Int)(l:List Comp)(i:Nat)(cs cs':List (StK×List (Int×List Int))):Prop where
 len:cs'.length=cs.length
 X:∀j (h:j<cs.length) (h':j<cs'.length),cs'[j].1.X=cs[j].1.X
 c:∀j (h:j<cs.length) (h':j<cs'.length),cs'[j].2=if j<i then Db cs[j].2 n ((l[j]?.map (·.vals)).getD [])else cs[j].2
theorem CsUp.zero(n:Int)(l:List Comp)(cs:List (StK×List (Int×List Int))):CsUp n l 0 cs cs:=⟨rfl,λ_ _ _=>rfl,λj h h'=>by rw[AM (by omega)]⟩
theorem CsUp.ptrs{cs cs':List (StK×List (Int×List Int))}(h:CsUp n l i cs cs'):cs'.map (λc=>AV.ptr c.1.X 0 0)=cs.map (λc=>AV.ptr c.1.X 0 0):=by
 refine Dj (by simp[h.len]) λj h1 h2=>?_
 rw[GQ,GQ,h.X j (by simpa using h2) (by simpa using h1)]
theorem CsUp.next{cs cs':List (StK×List (Int×List Int))}(h:CsUp n l i cs cs'){l1 l2:List (StK×List (Int×List Int))}{c:StK×List (Int×List Int)}{v:List Int}(e:cs'=l1++c::l2)(h1:l1.length=i)(hv:l[i]?.map (·.vals)=some v)(k:StK)(hk:k.X=c.1.X):CsUp n l (i+1) cs (l1++(k,Db c.2 n v)::l2):=by
 have hlen:=h.len;have hl:cs'.length=l1.length+(l2.length+1):=by rw[e];simp
 have hi':i<cs'.length:=by omega
 have hc:cs'[i]=c:=by
  have:cs'[i]?=some c:=by rw[e,Bd (by omega),h1,DY];rfl
  rw[Af hi']at this;injection this
 have hold:∀j (hj:j<cs'.length),j≠i->(l1++(k,Db c.2 n v)::l2)[j]'(by simp;omega)=cs'[j]:=λj hj hne=>by
  have h3:(l1++(k,Db c.2 n v)::l2)[j]?=cs'[j]?:=by
   rw[e];by_cases hji:j<i
   ·rw[CR (by omega),CR (by omega)]
   ·rw[Bd (by omega),Bd (by omega),show j-l1.length=(j-i-1)+1 by omega]
    rfl
  rw[Af hj,Af (by simp;omega)]at h3;injection h3
 have hnew:(l1++(k,Db c.2 n v)::l2)[i]'(by simp;omega)=(k,Db c.2 n v):=by
  have h3:(l1++(k,Db c.2 n v)::l2)[i]?=some (k,Db c.2 n v):=by rw[Bd (by omega),h1,DY];rfl
  rw[Af (by simp;omega)]at h3;injection h3
 refine⟨by simp;omega,λj hj hj'=>?_,λj hj hj'=>?_⟩
 ·by_cases hne:j=i
  ·subst hne
   rw[hnew,hk,<-hc];exact h.X j hj hi'
  ·rw[hold j (by omega) hne]
   exact h.X j hj (by omega)
 ·by_cases hne:j=i
  ·subst hne
   have:=h.c j hj hi';rw[AM (by omega),hc]at this;rw[hnew,AY (by omega),hv,this];rfl
  ·rw[hold j (by omega) hne,h.c j hj (by omega)]
   by_cases hji:j<i
   ·rw[AY hji,AY (by omega)]
   ·rw[AM hji,AM (by omega)]
section
section
variable {t:Tab}{e:Ent}{l:List Comp}{cs:List (StK×List (Int×List Int))}{k:StK}
abbrev upT(t:Tab)(k:StK)(e:Ent)(cs:List (StK×List (Int×List Int))):Tab:=⟨t.X,t.ks,k,Db t.es e.n e,cs⟩
theorem CsUp.at{l:List Comp}{cs cs':List (StK×List (Int×List Int))}(h:CsUp n l i cs cs'){c:StK×List (Int×List Int)}(hc:c∈cs'):∃j,∃h1:j<cs.length,∃h2:j<cs'.length,cs'[j]=c:=by
 obtain⟨j,hj,rfl⟩:=Br hc;exact⟨j,by rw[<-h.len];exact hj,hj,rfl⟩
theorem TabOK.up(h:TabOK t)(hn:0<=e.n/\e.n<256)(hf:e.n∉Am t.es)(hu:CsUp e.n l t.cs.length t.cs cs):TabOK (upT t k e cs):=by
 refine⟨by rw[hu.len];exact h.len,h.ks,h.es.put hn e,λc hc=>?_,λc hc n=>?_⟩
 ·obtain⟨j,h1,h2,rfl⟩:=hu.at hc
  rw[hu.c j h1 h2,AY h1];exact(h.cs _ (Ax h1)).put hn _
 ·obtain⟨j,h1,h2,rfl⟩:=hu.at hc
  have hk:=h.keys _ (Ax h1);have hfc:e.n∉Am t.cs[j].2:=λhm=>hf ((hk _).1 hm)
  rw[hu.c j h1 h2,AY h1];show n∈Am (Db _ _ _)↔n∈Am (Db t.es e.n e)
  rw[FV hfc,FV hf,Am,Am,AT,AT,Du,Du];exact or_congr (hk n) (by simp)
theorem U0(h:TabOK t)(hn:0<=e.n/\e.n<256)(hu:CsUp e.n l t.cs.length t.cs cs)(hne:n≠e.n):BF (upT t k e cs) n=BF t n:=by
 have hlen:=h.len;have hl:=hu.len;refine Dj (by simp[BF];omega) λi h1 h2=>?_
 have hc:i<t.cs.length:=by simp[BF]at h2;omega
 have hk:i<t.ks.length:=by omega
 rw[HF h2 hk hc,HF (t:=upT t k e cs) h1 hk (by show i<cs.length;omega)];show(⟨_,(FS (cs[i]'(by omega)).2 n).getD []⟩:Comp)=_
 rw[hu.c i hc (by omega),AY hc,LA (h.cs _ (Ax hc)) hn,AM hne]
theorem U1(h:TabOK t)(hn:0<=e.n/\e.n<256)(hks:t.ks=l.map (·.kind))(hu:CsUp e.n l t.cs.length t.cs cs):BF (upT t k e cs) e.n=l:=by
 have hlen:=h.len;have hl:=hu.len;have hkl:t.ks.length=l.length:=by rw[hks,AH]
 refine Dj (by simp[BF];omega) λi h1 h2=>?_
 have hc:i<t.cs.length:=by omega
 have hk:i<t.ks.length:=by omega
 rw[HF (t:=upT t k e cs) h1 hk (by show i<cs.length;omega)];show(⟨t.ks[i],(FS (cs[i]'(by omega)).2 e.n).getD []⟩:Comp)=_
 rw[hu.c i hc (by omega),AY hc,LA (h.cs _ (Ax hc)) hn,AY rfl,Af h2];have:t.ks[i]=l[i].kind:=by simp[hks]
 rw[this];rfl
theorem Xa(h:TabOK t)(hn:0<=e.n/\e.n<256)(hf:e.n∉Am t.es)(hks:t.ks=l.map (·.kind))(hu:CsUp e.n l t.cs.length t.cs cs):D2 (upT t k e cs)=D2 t++[⟨e,l⟩]:=by
 unfold D2;show(Db t.es e.n e).map _=_
 rw[FV hf,AT,Aa,CM,U1 h hn hks hu]
 congr 1
 refine D4 λp hp=>?_
 rw[U0 h hn hu];intro e2;exact hf (by rw[<-e2];exact Ad.2 ⟨p,hp,rfl⟩)
end
theorem ArOK.up{a:Ar}{l1 l2:List Tab}{t:Tab}{cs:List (StK×List (Int×List Int))}{k:StK}{K':AV->Value->Prop}{b:Nat}(h:ArOK a)(hts:a.ts=l1++t::l2)(hn:0<=e.n/\e.n<256)(hf:e.n∉Cn a.ts)(hu:CsUp e.n l t.cs.length t.cs cs)(hK:∀v u,a.K v u->K' v u)(hKt:K' (.ptr t.X 0 0) (.pointer (some ⟨b,0,none⟩))):
  ArOK {a with ts:=l1++upT t k e cs::l2,K:=K',g:=Hc a.g e.n (.pointer (some ⟨b,0,none⟩)),c:=a.c+1}:=by
 have htm:t∈a.ts:=by rw[hts];simp
 have hft:e.n∉Am t.es:=λhm=>hf (CA.2 ⟨t,htm,hm⟩)
 have hmem:∀u,u∈l1++upT t k e cs::l2->u=upT t k e cs\/u∈a.ts:=λu hu=>by
  rw[hts];rcases AL.1 hu with hu|hu
  ·exact .inr (by simp[hu])
  ·rcases AQ.1 hu with hu|hu
   ·exact .inl hu
   ·exact .inr (by simp[hu])
 have hke:Am (Db t.es e.n e)=Am t.es++[e.n]:=by rw[FV hft,Am,AT];rfl
 have hkeys:(Cn (l1++upT t k e cs::l2)).Perm (e.n::Cn a.ts):=by
  rw[hts,EU,Ew,EU,Ew];show(Cn l1++(Am (Db t.es e.n e)++Cn l2)).Perm _
  rw[hke,Bg]
  have:(Cn l1++(Am t.es++([e.n]++Cn l2))).Perm ([e.n]++(Cn l1++(Am t.es++Cn l2))):=by
   refine((D6 (Am t.es) [e.n] (Cn l2)).append_left (Cn l1)).trans ?_;exact D6 _ _ _
  exact this
 refine⟨λu hu'=>?_,?_,hkeys.nodup_iff.2 (Bq.2 ⟨hf,h.keys⟩),λu hu'=>?_,λn u hg=>?_,λn hn'=>?_,?_⟩
 ·rcases hmem u hu' with rfl|hu'
  ·exact(h.tab t htm).up hn hft hu
  ·exact h.tab u hu'
 ·have ho:=h.ord
  rw[hts]at ho;rw[Bi,Al]at ho⊢
  exact⟨ho.1,⟨λx hx=>ho.2.1.1 x hx,ho.2.1.2⟩,λx hx y hy=>by
   rcases AQ.1 hy with rfl|hy
   ·exact ho.2.2 x hx t (by simp)
   ·exact ho.2.2 x hx y (by simp[hy])⟩
 ·rcases hmem u hu' with rfl|hu'
  ·intro p hp
   have hp:p∈Db t.es e.n e:=hp;rw[FV hft]at hp;rcases AL.1 hp with hp|hp
   ·exact h.ent t htm p hp
   ·rw[CX]at hp
    subst hp;rfl
  ·exact h.ent u hu'
 ·replace hg:(if n=e.n then some (Value.pointer (some ⟨b,0,none⟩))else a.g n)=some u:=hg
  split at hg
  ·rename_i e1
   subst e1;injection hg with hg
   subst hg;refine⟨upT t k e cs,by simp,?_,hKt,b,rfl⟩;show e.n∈Am (Db t.es e.n e)
   rw[hke];simp
  ·obtain⟨w,hw,h2,h3,h4⟩:=h.g n u hg
   rw[hts]at hw;rcases AL.1 hw with hw|hw
   ·exact⟨w,by simp[hw],h2,hK _ _ h3,h4⟩
   ·rcases AQ.1 hw with rfl|hw
    ·refine⟨upT w k e cs,by simp,?_,hK _ _ h3,h4⟩
     show n∈Am (Db w.es e.n e)
     rw[hke];simp[h2]
    ·exact⟨w,by simp[hw],h2,hK _ _ h3,h4⟩
 ·have hn':=hkeys.mem_iff.1 hn'
  show(Hc a.g e.n _ n).isSome=true
  unfold Hc;split
  ·rfl
  ·rename_i hne
   rcases AQ.1 hn' with e2|hn'
   ·exact absurd e2 hne
   ·exact h.gn n hn'
 ·show a.c+1=_
  rw[hkeys.length_eq,DM,h.cnt]
theorem aH{l1 l2:List Tab}{t:Tab}{cs:List (StK×List (Int×List Int))}{k:StK}(h:TabOK t)(hn:0<=e.n/\e.n<256)(hf:e.n∉Am t.es)(hks:t.ks=l.map (·.kind))(hu:CsUp e.n l t.cs.length t.cs cs):(B0 (l1++upT t k e cs::l2)).Perm (⟨e,l⟩::B0 (l1++t::l2)):=by
 rw[D0,EE,D0,EE,Xa h hn hf hks hu,Bg]
 have:(B0 l1++(D2 t++([(⟨e,l⟩:Item)]++B0 l2))).Perm ([(⟨e,l⟩:Item)]++(B0 l1++(D2 t++B0 l2))):=by
  refine((D6 (D2 t) [(⟨e,l⟩:Item)] (B0 l2)).append_left (B0 l1)).trans ?_;exact D6 _ _ _
 exact this
theorem fa{l1 l2:List Tab}{t:Tab}{cs:List (StK×List (Int×List Int))}{k:StK}(h1:II l1)(h2:II l2)(hf:e.n∉Am t.es):II (l1++upT t k e cs::l2):=λu hu=>by
 rcases AL.1 hu with hu|hu
 ·exact h1 u hu
 ·rcases AQ.1 hu with rfl|hu
  ·show Db t.es e.n e≠[]
   rw[FV hf];simp
  ·exact h2 u hu
end
section
section
variable {P:Program}{ro:Option Nat}{nt:Nat}{c:Code}{Q:Exit->St->Prop}{T:List (Nat×AV)}{S:List AS}
end
abbrev KT(n:Int)(c:StK×List (Int×List Int)):StK×List (Int×List Int):=(c.1,C5 c.2 n)
abbrev Ge(t:Tab)(n:Int):Tab:=⟨t.X,t.ks,t.ek,C5 t.es n,t.cs.map (KT n)⟩
theorem TabOK.down{t:Tab}(h:TabOK t)(n:Int):TabOK (Ge t n):=by
 refine⟨by rw[AH];exact h.len,h.ks,h.es.drop n,λc hc=>?_,λc hc m=>?_⟩
 ·obtain⟨d,hd,rfl⟩:=Ad.1 hc
  exact(h.cs d hd).drop n
 ·obtain⟨d,hd,rfl⟩:=Ad.1 hc
  show m∈Am (C5 d.2 n)↔m∈Am (C5 t.es n)
  rw[GX (h.cs d hd),GX h.es,h.keys d hd]
theorem Ng{t:Tab}(h:TabOK t){n m:Int}(hne:m≠n):BF (Ge t n) m=BF t m:=by
 have hlen:=h.len;refine Dj (by simp[BF]) λi h1 h2=>?_
 have hc:i<t.cs.length:=by simp[BF]at h2;omega
 have hk:i<t.ks.length:=by omega
 rw[HF h2 hk hc,HF (t:=Ge t n) h1 hk (by rw[AH];exact hc)];show(⟨_,(FS ((t.cs.map (KT n))[i]'(by rw[AH];exact hc)).2 m).getD []⟩:Comp)=_
 rw[GQ];show(⟨_,(FS (C5 t.cs[i].2 n) m).getD []⟩:Comp)=_
 rw[U5 (h.cs _ (Ax hc)) hne]
theorem TL{t:Tab}(h:TabOK t)(hm:(n,e)∈t.es):(D2 t).Perm (⟨e,BF t n⟩::D2 (Ge t n)):=by
 have hp:=Fj h.es hm;have h1:=hp.map λp:Int×Ent=>(⟨p.2,BF t p.1⟩:Item)
 refine h1.trans ?_;rw[Aa];refine A9 _ (C1 ?_);show _=(C5 t.es n).map λp=>(⟨p.2,BF (Ge t n) p.1⟩:Item)
 refine D4 λp hp'=>?_
 have hk:p.1∈Am (C5 t.es n):=Ad.2 ⟨p,hp',rfl⟩;rw[Ng h ((GX h.es).1 hk).2]
theorem ArOK.uniq{a:Ar}(h:ArOK a){t u:Tab}(ht:t∈a.ts)(hu:u∈a.ts)(h1:n∈Am t.es)(h2:n∈Am u.es):t=u:=by
 obtain⟨l1,l2,e⟩:=In ht;have hk:=h.keys;rw[e,EU,Ew]at hk;rw[e]at hu;rcases AL.1 hu with hu|hu
 ·have:n∈Cn l1:=CA.2 ⟨u,hu,h2⟩
  exact absurd rfl ((AX.1 hk).2.2 n this n (R6 _ h1))
 ·rcases AQ.1 hu with rfl|hu
  ·rfl
  ·have:n∈Cn l2:=CA.2 ⟨u,hu,h2⟩
   exact absurd rfl ((AX.1 (AX.1 hk).2.1).2.2 n h1 n this)
theorem YS{a:Ar}(h:ArOK a){l1 l2:List Tab}{t:Tab}(hts:a.ts=l1++t::l2)(hm:(n,e)∈t.es):(Cn a.ts).Perm (n::Cn (l1++Ge t n::l2)):=by
 have hto:=h.tab t (by rw[hts];simp);have hp:=(Fj hto.es hm).map (·.1);rw[hts,EU,Ew,EU,Ew];have h1:(Cn l1++(Am t.es++Cn l2)).Perm (Cn l1++((n::Am (C5 t.es n))++Cn l2)):=(hp.append_right _).append_left _;exact h1.trans (D6 (Cn l1) [n] (Am (C5 t.es n)++Cn l2))
theorem ArOK.down{a:Ar}(h:ArOK a){l1 l2:List Tab}{t:Tab}(hts:a.ts=l1++t::l2)(hm:(n,e)∈t.es):ArOK {a with ts:=l1++Ge t n::l2,g:=Jq a.g n,c:=a.c-1}:=by
 have htm:t∈a.ts:=by rw[hts];simp
 have hto:=h.tab t htm;have hkp:=YS h hts hm
 have hmem:∀u,u∈l1++Ge t n::l2->u=Ge t n\/u∈a.ts:=λu hu=>by
  rw[hts];rcases AL.1 hu with hu|hu
  ·exact .inr (by simp[hu])
  ·rcases AQ.1 hu with hu|hu
   ·exact .inl hu
   ·exact .inr (by simp[hu])
 have hnd:=hkp.nodup_iff.1 h.keys;have hnk:n∈Am t.es:=Ad.2 ⟨_,hm,rfl⟩;refine⟨λu hu=>?_,?_,(Bq.1 hnd).2,λu hu=>?_,λm u hg=>?_,λm hm'=>?_,?_⟩
 ·rcases hmem u hu with rfl|hu
  ·exact hto.down n
  ·exact h.tab u hu
 ·have ho:=h.ord
  rw[hts]at ho;rw[Bi,Al]at ho⊢
  exact⟨ho.1,⟨λx hx=>ho.2.1.1 x hx,ho.2.1.2⟩,λx hx y hy=>by
   rcases AQ.1 hy with rfl|hy
   ·exact ho.2.2 x hx t (by simp)
   ·exact ho.2.2 x hx y (by simp[hy])⟩
 ·rcases hmem u hu with rfl|hu
  ·intro p hp
   have:p∈t.es:=(Fj hto.es hm).mem_iff.2 (Cd _ hp);exact h.ent t htm p this
  ·exact h.ent u hu
 ·replace hg:(if m=n then none else a.g m)=some u:=hg
  split at hg
  ·cases hg
  ·rename_i hne
   obtain⟨w,hw,h2,h3,h4⟩:=h.g m u hg;rw[hts]at hw;rcases AL.1 hw with hw|hw
   ·exact⟨w,by simp[hw],h2,h3,h4⟩
   ·rcases AQ.1 hw with rfl|hw
    ·refine⟨Ge w n,by simp,?_,h3,h4⟩
     exact(GX hto.es).2 ⟨h2,hne⟩
    ·exact⟨w,by simp[hw],h2,h3,h4⟩
 ·have hm2:m∈Cn a.ts:=hkp.mem_iff.2 (Cd _ hm')
  have hne:m≠n:=λe=>(Bq.1 hnd).1 (by subst e;exact hm')
  show(Jq a.g n m).isSome=true
  unfold Jq;rw[AM hne];exact h.gn m hm2
 ·show a.c-1=(Cn (l1++Ge t n::l2)).length
  have:=hkp.length_eq;rw[DM]at this;have:=h.cnt;omega
theorem ArOK.less{a:Ar}(h:ArOK a){l1 l2:List Tab}{t:Tab}{Y:Nat}(hts:a.ts=l1++t::l2)(he:t.es=[]):ArOK {a with Tb:=Y,ts:=l1++l2}:=by
 have hk:Cn a.ts=Cn (l1++l2):=by rw[hts,EU,Ew,he,EU];rfl
 have hmem:∀u,u∈l1++l2->u∈a.ts:=λu hu=>by
  rw[hts];rcases AL.1 hu with hu|hu<;>simp[hu]
 refine⟨λu hu=>h.tab u (hmem u hu),?_,by rw[<-hk];exact h.keys,λu hu=>h.ent u (hmem u hu),λm u hg=>?_,λm hm=>h.gn m (by rw[hk];exact hm),by rw[<-hk];exact h.cnt⟩
 ·have ho:=h.ord
  rw[hts]at ho;exact ho.sublist ((DT l1).append (OX t l2))
 ·obtain⟨w,hw,h2,h3⟩:=h.g m u hg
  rw[hts]at hw;rcases AL.1 hw with hw|hw
  ·exact⟨w,by simp[hw],h2,h3⟩
  ·rcases AQ.1 hw with rfl|hw
   ·rw[he]at h2;cases h2
   ·exact⟨w,by simp[hw],h2,h3⟩
theorem PN{a:Ar}(h:ArOK a){l1 l2:List Tab}{t:Tab}(hts:a.ts=l1++t::l2)(hm:(n,e)∈t.es):(B0 a.ts).Perm (⟨e,BF t n⟩::B0 (l1++Ge t n::l2)):=by
 have hto:=h.tab t (by rw[hts];simp);rw[hts,D0,EE,D0,EE];refine(((TL hto hm).append_right _).append_left _).trans ?_;exact D6 (B0 l1) [(⟨e,BF t n⟩:Item)] (D2 (Ge t n)++B0 l2)
theorem Vh{l1 l2:List Tab}{t:Tab}(he:t.es=[]):B0 (l1++t::l2)=B0 (l1++l2):=by
 rw[D0,EE,D2,he,D0];rfl
end
theorem aw(k:StK)(l:List (Int×Ent)):Spec prog 280 [.ptr k.X 0 0] (stE k l) λr S'=>r=iA (l.length:Nat)/\S'=stE k l:=by
 refine Sp (nt:=8) (res:=[.tmp 2]) func280 λSf=>?_
 refine R1 ?_;refine JL ?_;exact Ends.sp [iA (l.length:Nat)] (stE k l) ⟨rfl,rfl⟩
theorem aS(k:StK)(l:List (Int×Ent))(hl:ColOK l)(n:Int)(hn:I64 n)(v:Ent)(hg:FS l n=some v):Spec prog 275 [.ptr k.X 0 0,iA n] (stE k l) λr S'=>r= .tup [CG v,bA true]/\S'=stE k l:=by
 have hlen:=hl.len;have hk:n∈Am l:=Fh λh=>by rw[HG h]at hg;cases hg
 obtain⟨u,hv⟩:=Ib hk;have hi:=Ia hk;have hg2:FS l n=some u:=by unfold FS;rw[hv];rfl
 rw[hg]at hg2;injection hg2 with hg2
 subst hg2;have hat:(l.map λe=>CG e.2)[(Am l).idxOf n]?=some (CG v):=by rw[Ae,hv];rfl
 have hix:=Fe hk;obtain⟨i,hi2⟩:=nm ((Am l).idxOf n);rw[hi2]at hi hat hix;have h1:(ixG (Am l) n).getD (.int .i64 0)= .int .i64 (i:Nat):=by rw[hix];rfl
 have h2:(ixG (Am l) n).isSome=true:=by rw[hix];rfl
 refine Sp (nt:=28) (res:=[.cell 4 32,.tmp 5]) func275 λSf=>?_
 refine JF ?_;refine Ai λZ=>?_;refine JC ?_
 refine JD ?_;(iterate 5 refine WO ?_);refine BT ?_ (HY _ _ h1 h2 hn rfl rfl (by exact As));refine JE ?_;refine JJ ?_;refine AB rfl rfl ?_;refine JD ?_;(iterate 5 refine WO ?_);refine BT ?_ (W.idx rfl rfl (by exact As) rfl (by omega) (An _));refine JE ?_;refine RT ?_;exact Ends.sp [CG v,bA true] (stE k l) ⟨rfl,rfl⟩
theorem ai(k:StK)(l:List (Int×Ent))(hl:ColOK l)(n:Int)(hn:I64 n):Spec prog 278 [.ptr k.X 0 0,iA n] (stE k l) λr S'=>r=iA (if n∈Am l then 0 else 4)/\S'=stE k (C5 l n):=by
 have hlen:=hl.len;by_cases hk:n∈Am l
 ·rw[AY hk]
  obtain⟨u,hu⟩:=Ib hk;have hi:=Ia hk;obtain⟨⟨en,ev⟩,he⟩:=OQ (l:=l) (by omega);have hdl:=Ok hk;have hdr:C5 l n=(l.set ((Am l).idxOf n) (en,ev)).take (l.length-1):=by unfold C5;rw[AY hk,he]
  rw[hdr]at hdl⊢;have hix:=Fe hk;obtain⟨i,hi2⟩:=nm ((Am l).idxOf n);rw[hi2]at hi hu hix hdl⊢;have hkl:(Am l).length=l.length:=AH _;have hki:(Am l)[i]?=some n:=by rw[Am,Ae,hu];rfl
  have hke:(Am l)[(Am l).length-1]?=some en:=by rw[hkl,Am,Ae,he];rfl
  have hgd:=T8 hl.nd hki hke;have h1:(ixG (Am l) n).getD (.int .i64 0)= .int .i64 (i:Nat):=by rw[hix];rfl
  have h2:(ixG (Am l) n).isSome=true:=by rw[hix];rfl
  have hem:en∈Am l:=Bb hke;have hen:=hl.lt en hem;have h3:(ixG (Am l) en).isSome=true:=by rw[Fe hem];rfl
  have hsz:(if(ixG (Am l) en).isSome then l.length else l.length+1)=l.length:=by rw[h3];rfl
  have h4:(Hc (ixG (Am l)) en (.int .i64 (i:Nat)) n).isSome=true:=by
   unfold Hc;split
   ·rfl
   ·exact h2
  have hsz2:(if(Hc (ixG (Am l)) en (.int .i64 (i:Nat)) n).isSome then l.length else l.length)=l.length:=by split<;>rfl
  have hsz3:(if(Hc (ixG (Am l)) en (.int .i64 (i:Nat)) n).isSome then l.length-1 else l.length)=l.length-1:=by rw[h4];rfl
  have hmx:l.length<maxLen:=by unfold maxLen;omega
  have hmi:i<maxLen:=by unfold maxLen;omega
  have hr1:(l.map λe=>iA e.1)[l.length-1]?=some (iA en):=by rw[Ae,he];rfl
  have hv1:(l.map λe=>CG e.2)[l.length-1]?=some (CG ev):=by rw[Ae,he];rfl
  have hrs:(l.map λe=>iA e.1).set i (iA en)=(l.set i (en,ev)).map λe=>iA e.1:=by rw[BC]
  have hvs:(l.map λe=>CG e.2).set i (CG ev)=(l.set i (en,ev)).map λe=>CG e.2:=by rw[BC]
  have hri:((l.set i (en,ev)).map λe=>iA e.1)[i]?=some (iA en):=by rw[Ae,BY hi];rfl
  have hrl:(l.map λe=>iA e.1).length=l.length:=AH _;have hvl:(l.map λe=>CG e.2).length=l.length:=AH _
  have hvz:((l.map λe=>CG e.2).set i (CG ev))[l.length-1]?=some (CG ev):=by
   rw[hvs];rw[Ae];by_cases h:i=l.length-1
   ·rw[<-h,BY hi];rfl
   ·rw[Ce h,he];rfl
  have hvt:(((l.map λe=>CG e.2).set i (CG ev)).set (l.length-1) (CG ⟨0,0⟩)).take (l.length-1)=((l.set i (en,ev)).take (l.length-1)).map λe=>CG e.2:=by
   rw[hvs];rw[List.take_set_of_le (AP _),EK]
  have hrt:((l.set i (en,ev)).map λe=>iA e.1).take (l.length-1)=((l.set i (en,ev)).take (l.length-1)).map λe=>iA e.1:=by rw[EK]
  have hkt:ixG (((Am l).set i en).take ((Am l).length-1))=ixG (Am ((l.set i (en,ev)).take (l.length-1))):=by
   rw[hkl,Am,Am,EK,BC]
  refine Sp (nt:=94) (res:=[.tmp 4]) func278 λSf=>?_
  refine R1 ?_;refine JD ?_;(iterate 5 refine WO ?_);refine BT ?_ (HY _ _ h1 h2 hn rfl rfl (by exact As));refine JE ?_;refine JJ ?_;refine AB rfl rfl ?_;refine JD ?_;(iterate 5 refine WO ?_);refine BT ?_ (BJ ((l.length-1:Nat):Int) (by omega) (by omega) rfl rfl);refine JC ?_;refine FL ?_;refine RU ?_;(repeat first|(refine MK ?_;first|refine BO ?_ (W.idx (a:=l.length-1) rfl rfl (by exact As) rfl (by omega) (An _))|refine BO ?_ (W.idx (a:=i) rfl rfl (by exact As) rfl (by omega) (An _)))|(refine HU ?_;first|refine BO ?_ (W.idx (a:=l.length-1) rfl rfl (by exact As) rfl (by omega) (An _))|refine BO ?_ (W.idx (a:=i) rfl rfl (by exact As) rfl (by omega) (An _)))|refine RK ?_|refine RGo.nil (by kernel_rfl) ?_);rw[hrs];refine FL ?_;refine RU ?_;(iterate 9 refine RK ?_);refine BO ?_ (W.idx (a:=i) rfl rfl (by exact As) rfl (by omega) (An _));refine JG ?_;refine HZ ?_ (W.mapUpd (PlainV.int (by kernel_rfl) (GT (by omega))) (by omega) hmx rfl rfl rfl (by exact As));refine RGo.nil (by kernel_rfl) ?_;rw[hsz];refine JD ?_;(iterate 5 refine WO ?_);refine K5 ?_ (W.mapDel hn rfl rfl (by exact As));refine NL ?_;rw[hsz3,hgd];refine JK ?_;refine Ai λZ=>?_;refine NL ?_
  refine FL ?_;refine RU ?_;(iterate 6 refine RK ?_);refine BO ?_ (W.idx (a:=l.length-1) rfl rfl (by exact As) rfl (by omega) (An _));refine RK ?_;refine RGo.nil (by kernel_rfl) ?_;refine FL ?_;refine RU ?_;(repeat first|(refine MK ?_;first|refine BO ?_ (W.hi (a:=l.length-1) rfl rfl (by exact As) rfl (by omega)))|(refine HU ?_;first|refine BO ?_ (W.hi (a:=l.length-1) rfl rfl (by exact As) rfl (by omega)))|refine RK ?_|refine RGo.nil (by kernel_rfl) ?_);refine JB ?_;refine FP (X:=k.V) (l.length-1) ?_;refine FP (X:=k.R) (l.length-1) ?_;refine BV k.M ?_;refine BV k.R ?_;refine BV k.V ?_;refine BV k.X ?_;refine RT ?_;exact Ends.sp [iA 0] _ ⟨rfl,U4 (n:=l.length-1) (m:=l.length-1) (c:=l.length-1) hdl.symm hdl.symm hvt hrt hkt hdl.symm⟩
 ·rw[AM hk,Jc hk]
  have hix:=J8 hk;have h1:(ixG (Am l) n).getD (.int .i64 0)= .int .i64 0:=by rw[hix];rfl
  have h2:(ixG (Am l) n).isSome=false:=by rw[hix];rfl
  refine Sp (nt:=94) (res:=[.tmp 4]) func278 λSf=>?_
  refine R1 ?_;refine JD ?_;(iterate 5 refine WO ?_);refine BT ?_ (HY _ _ h1 h2 hn rfl rfl (by exact As));refine JE ?_;refine JJ ?_;refine Aq rfl rfl ?_;refine JA ?_;exact Ends.sp [iA 4] (stE k l) ⟨rfl,rfl⟩
theorem ae(k:StK)(l:List (Int×List Int))(hl:ColOK l)(n:Int)(hn:I64 n):Spec prog 279 [.ptr k.X 0 0,iA n] (stS k l) λr S'=>r=iA (if n∈Am l then 0 else 4)/\S'=stS k (C5 l n):=by
 have hlen:=hl.len;by_cases hk:n∈Am l
 ·rw[AY hk]
  obtain⟨u,hu⟩:=Ib hk;have hi:=Ia hk;obtain⟨⟨en,ev⟩,he⟩:=OQ (l:=l) (by omega);have hdl:=Ok hk;have hdr:C5 l n=(l.set ((Am l).idxOf n) (en,ev)).take (l.length-1):=by unfold C5;rw[AY hk,he]
  rw[hdr]at hdl⊢;have hix:=Fe hk;obtain⟨i,hi2⟩:=nm ((Am l).idxOf n);rw[hi2]at hi hu hix hdl⊢;have hkl:(Am l).length=l.length:=AH _;have hki:(Am l)[i]?=some n:=by rw[Am,Ae,hu];rfl
  have hke:(Am l)[(Am l).length-1]?=some en:=by rw[hkl,Am,Ae,he];rfl
  have hgd:=T8 hl.nd hki hke;have h1:(ixG (Am l) n).getD (.int .i64 0)= .int .i64 (i:Nat):=by rw[hix];rfl
  have h2:(ixG (Am l) n).isSome=true:=by rw[hix];rfl
  have hem:en∈Am l:=Bb hke;have hen:=hl.lt en hem;have h3:(ixG (Am l) en).isSome=true:=by rw[Fe hem];rfl
  have hsz:(if(ixG (Am l) en).isSome then l.length else l.length+1)=l.length:=by rw[h3];rfl
  have h4:(Hc (ixG (Am l)) en (.int .i64 (i:Nat)) n).isSome=true:=by
   unfold Hc;split
   ·rfl
   ·exact h2
  have hsz2:(if(Hc (ixG (Am l)) en (.int .i64 (i:Nat)) n).isSome then l.length else l.length)=l.length:=by split<;>rfl
  have hsz3:(if(Hc (ixG (Am l)) en (.int .i64 (i:Nat)) n).isSome then l.length-1 else l.length)=l.length-1:=by rw[h4];rfl
  have hmx:l.length<maxLen:=by unfold maxLen;omega
  have hmi:i<maxLen:=by unfold maxLen;omega
  have hr1:(l.map λe=>iA e.1)[l.length-1]?=some (iA en):=by rw[Ae,he];rfl
  have hv1:(l.map λe=>Av false e.2)[l.length-1]?=some (Av false ev):=by rw[Ae,he];rfl
  have hrs:(l.map λe=>iA e.1).set i (iA en)=(l.set i (en,ev)).map λe=>iA e.1:=by rw[BC]
  have hvs:(l.map λe=>Av false e.2).set i (Av false ev)=(l.set i (en,ev)).map λe=>Av false e.2:=by rw[BC]
  have hri:((l.set i (en,ev)).map λe=>iA e.1)[i]?=some (iA en):=by rw[Ae,BY hi];rfl
  have hrl:(l.map λe=>iA e.1).length=l.length:=AH _;have hvl:(l.map λe=>Av false e.2).length=l.length:=AH _
  have hvz:((l.set i (en,ev)).map λe=>Av false e.2)[l.length-1]?=some (Av false ev):=by
   rw[Ae];by_cases h:i=l.length-1
   ·rw[<-h,BY hi];rfl
   ·rw[Ce h,he];rfl
  have hvt:(((l.set i (en,ev)).map λe=>Av false e.2).set (l.length-1) (.prim (.slice none 0 0))).take (l.length-1)=((l.set i (en,ev)).take (l.length-1)).map λe=>Av false e.2:=by
   rw[List.take_set_of_le (AP _),EK]
  have hrt:((l.set i (en,ev)).map λe=>iA e.1).take (l.length-1)=((l.set i (en,ev)).take (l.length-1)).map λe=>iA e.1:=by rw[EK]
  have hkt:ixG (((Am l).set i en).take ((Am l).length-1))=ixG (Am ((l.set i (en,ev)).take (l.length-1))):=by
   rw[hkl,Am,Am,EK,BC]
  refine Sp (nt:=94) (res:=[.tmp 4]) func279 λSf=>?_
  refine R1 ?_;refine JD ?_;(iterate 5 refine WO ?_);refine BT ?_ (HY _ _ h1 h2 hn rfl rfl (by exact As));refine JE ?_;refine JJ ?_;refine AB rfl rfl ?_;refine JD ?_;(iterate 5 refine WO ?_);refine BT ?_ (BJ ((l.length-1:Nat):Int) (by omega) (by omega) rfl rfl);refine JC ?_;refine FL ?_;refine RU ?_;(repeat first|(refine MK ?_;first|refine BO ?_ (W.idx (a:=l.length-1) rfl rfl (by exact As) rfl (by omega) (An _))|refine BO ?_ (W.idx (a:=i) rfl rfl (by exact As) rfl (by omega) (An _)))|(refine HU ?_;first|refine BO ?_ (W.idx (a:=l.length-1) rfl rfl (by exact As) rfl (by omega) (An _))|refine BO ?_ (W.idx (a:=i) rfl rfl (by exact As) rfl (by omega) (An _)))|refine RK ?_|refine RGo.nil (by kernel_rfl) ?_);rw[hrs,hvs];refine FL ?_;refine RU ?_;(iterate 9 refine RK ?_);refine BO ?_ (W.idx (a:=i) rfl rfl (by exact As) rfl (by omega) (An _));refine JG ?_;refine HZ ?_ (W.mapUpd (PlainV.int (by kernel_rfl) (GT (by omega))) (by omega) hmx rfl rfl rfl (by exact As));refine RGo.nil (by kernel_rfl) ?_;rw[hsz];refine JD ?_;(iterate 5 refine WO ?_);refine K5 ?_ (W.mapDel hn rfl rfl (by exact As));refine NL ?_;rw[hsz3,hgd];refine JB ?_;refine JD ?_;(iterate 6 refine WO ?_);refine BT ?_ (W.idx (a:=l.length-1) rfl rfl (by exact As) rfl (by omega) (An _));refine JC ?_;refine FL ?_;refine RU ?_;(repeat first|(refine MK ?_;first|refine BO ?_ (W.hi (a:=l.length-1) rfl rfl (by exact As) rfl (by omega)))|(refine HU ?_;first|refine BO ?_ (W.hi (a:=l.length-1) rfl rfl (by exact As) rfl (by omega)))|refine RK ?_|refine RGo.nil (by kernel_rfl) ?_);refine JB ?_;refine FP (X:=k.V) (l.length-1) ?_;refine FP (X:=k.R) (l.length-1) ?_;refine BV k.M ?_;refine BV k.R ?_;refine BV k.V ?_;refine BV k.X ?_;refine RT ?_;exact Ends.sp [iA 0] _ ⟨rfl,U3 (n:=l.length-1) (m:=l.length-1) (c:=l.length-1) hdl.symm hdl.symm hvt hrt hkt hdl.symm⟩
 ·rw[AM hk,Jc hk]
  have hix:=J8 hk;have h1:(ixG (Am l) n).getD (.int .i64 0)= .int .i64 0:=by rw[hix];rfl
  have h2:(ixG (Am l) n).isSome=false:=by rw[hix];rfl
  refine Sp (nt:=94) (res:=[.tmp 4]) func279 λSf=>?_
  refine R1 ?_;refine JD ?_;(iterate 5 refine WO ?_);refine BT ?_ (HY _ _ h1 h2 hn rfl rfl (by exact As));refine JE ?_;refine JJ ?_;refine Aq rfl rfl ?_;refine JA ?_;exact Ends.sp [iA 4] (stS k l) ⟨rfl,rfl⟩
theorem Vk(X V n i:Nat)(l:List AV)(e:AV)(hn:n=l.length)(hi:i<=n)(hb:(n+1)*8<=140737488355328)(hfr:FreeL l)(hfe:FreeE e)(hw:∀x∈l,x.width=1)(hwe:e.width=1)(hze:AV.frzs [e]=[e]):
  Spec prog 123 [.sl X 0 n,iA i,.sl V 0 1] [(X,.row 117 1 l),(V,.row 117 1 [e])] λr S'=>r= .lst true 117 1 (l.take i++e::l.drop i)/\S'=[]:=by
 refine Sp (nt:=95) (res:=[.tmp 6]) func123 λSf=>?_
 have hfV:FreeL [e]:=λx hx=>by rw[AW.1 hx];exact hfe
 have hwV:∀x∈[e],x.width=1:=λx hx=>by rw[AW.1 hx];exact hwe
 refine R1 ?_;refine JF ?_;refine WO ?_;refine AI (W.slice_lo rfl rfl (by exact As) rfl (by omega)) rfl ?_;refine NL ?_;refine R1 ?_;refine R1 ?_;refine AB rfl rfl ?_;refine R1 ?_;refine R1 ?_;by_cases hin:i=n
 ·refine Aq rfl (BG (by omega)) ?_
  refine M7 2 [e] hze ?_;have hbb:(n+[e].length)*8<=140737488355328:=hb;refine KK ?_;refine Ay λY=>?_;refine KK ?_
  refine RT ?_;have hm:n+[e].length=(l++[e]).length:=by rw[Ak,hn]
  have hr:l++[e]=l.take i++e::l.drop i:=by rw[hin,hn,B9,Dk]
  rw[<-hr];exact⟨[.sl Y 0 (n+[e].length)],[.lst true 117 1 (l++[e])],_,[],.cons (.tmp rfl) rfl .nil,.cons (.cell (.sl (p:=0) .here hm)) .nil,by exact BH,rfl,rfl⟩
 ·refine AB rfl (Az (by omega)) ?_
  refine AWP.cap X λZ c u0 hc hnc=>?_
  refine RG ?_;(iterate 4 refine WO ?_);refine AI (W.cap hc rfl (by exact As) (by exact As)) rfl ?_;refine JC ?_;refine AC rfl (λhg=>?_) (λhg=>?_)
  ·have hcn:c<n+1:=by rw[Aj]at hg;omega
   refine CN λY=>?_
   refine RG ?_;(repeat first|(refine Bk ?_;first|refine AI (W.hi (a:=i) rfl rfl (by exact As) rfl hi) rfl ?_|refine AI (BJ ((n+1-i:Nat):Int) (by omega) (by omega) rfl rfl) rfl ?_|refine Dl (dY (n+1-i) hc rfl rfl (by exact As) (by exact As) (by exact As) rfl (by exact .inr rfl) (by rfl) (by kernel_rfl) (by omega) (by omega) (by decide) (by omega) (by omega) hfr) rfl ?_)|refine WO ?_|refine Ai λX=>?_|refine Ay λY=>?_);have hsum:i+(n+1-i)=n+1:=by omega
   obtain⟨l1,hl1⟩:=nm (l.take i++List.replicate (n+1-i) (zAV [.pointer none] false));have hti:(l.take i).length=i:=by rw[BZ];omega
   have hl1n:l1.length=n+1:=by rw[<-hl1,Ak,hti,Di,hsum]
   have hfr1:FreeL l1:=λx hx=>by
    rw[<-hl1]at hx;rcases AL.1 hx with hx|hx
    ·exact hfr x (BK hx)
    ·rw[EA hx]
     exact FreeE.prim _
   have htk:l1.take i=l.take i:=by rw[<-hl1,EJ hti]
   rw[hl1,hsum];refine JK ?_;refine WO ?_;refine AI (W.slice_lo rfl rfl (by exact As) rfl (by omega)) rfl ?_;refine WO ?_;refine Dl (W.copyO 1 rfl rfl (by exact As) (by exact As) (by rfl) (by omega) (by omega) (by omega) (by omega) (by exact AP _) hfr1 hfV hwV) rfl ?_;obtain⟨l2,hl2⟩:=nm (l1.take (0+i)++([e].drop 0).take 1++l1.drop (0+i+1));rw[hl2];have hl2n:l2.length=n+1:=by rw[<-hl2];simp only[Ak,BZ,DE,Bj];omega
   have hfr2:FreeL l2:=λx hx=>by
    rw[<-hl2]at hx;rcases AL.1 hx with hx|hx
    ·rcases AL.1 hx with hx|hx
     ·exact hfr1 x (BK hx)
     ·exact hfV x (BR (BK hx))
    ·exact hfr1 x (BR hx)
   have htk2:l2.take (0+(i+1))=l.take i++[e]:=by
    rw[<-hl2,An,An,htk];exact EJ (by simp[hti])
   refine FL ?_;refine RU ?_;(iterate 3 refine RK ?_);refine BO ?_ (Bw ((i+1:Nat):Int) (by omega) (by omega) rfl rfl);refine BO ?_ (W.slice_lo rfl rfl (by exact As) rfl (by omega));refine JG ?_;refine BO ?_ (W.slice_lo rfl rfl (by exact As) rfl (by omega));refine HZ ?_ (W.copyO (n-i) rfl rfl (by exact As) (by exact As) (by rfl) (by omega) (by omega) (by omega) (by omega) (by omega) hfr2 hfr hw);refine RGo.nil (by kernel_rfl) ?_;obtain⟨l3,hl3⟩:=nm (l2.take (0+(i+1))++(l.drop (0+i)).take (n-i)++l2.drop (0+(i+1)+(n-i)));rw[hl3]
   have hr:l3=l.take i++e::l.drop i:=by
    have e1:l2.drop (0+(i+1)+(n-i))=[]:=Cm (by omega);have e2:(l.drop (0+i)).take (n-i)=l.drop i:=by rw[An];exact BB (by rw[DE];omega)
    rw[<-hl3,htk2,e1,e2,BD,Bg];rfl
   have hm:n+1=l3.length:=by
    rw[hr];simp only[Ak,DM,DE,hti];omega
   refine JA ?_;rw[<-hr];exact⟨[.sl Y 0 (n+1)],[.lst true 117 1 l3],_,[],.cons (.tmp rfl) rfl .nil,.cons (.cell (.sl (p:=0) .here hm)) .nil,by exact BH,rfl,rfl⟩
  ·have hcn:n+1<=c:=by rw[Ao]at hg;omega
   refine RG ?_;(iterate 4 refine WO ?_);refine AI (bJ (n+1) hc rfl rfl (by exact As) (by exact As) (by omega) hcn) rfl ?_;refine JC ?_;refine RG ?_;(iterate 4 refine WO ?_);refine AI (Bw ((i+1:Nat):Int) (by omega) (by omega) rfl rfl) rfl ?_;refine AI (W.slice_lo rfl rfl (by exact As) rfl (by omega)) rfl ?_;refine AI (W.over (t:=113) (tR:=4) func171 (by kernel_rfl) (by kernel_rfl) (by kernel_rfl) (by kernel_rfl) rfl rfl (by exact As) (by exact As) (by rfl) (by decide) (by omega) (by omega)) rfl ?_;refine WO ?_;refine FL ?_;refine Aq rfl rfl ?_;refine RU ?_;(iterate 3 refine RK ?_);refine BO ?_ (Bw ((i+1:Nat):Int) (by omega) (by omega) rfl rfl);refine BO ?_ (W.slice_lo rfl rfl (by exact As) rfl (by omega));refine JG ?_;refine BO ?_ (W.slice_lo rfl rfl (by exact As) rfl (by omega));refine HZ ?_ (W.copyS (n-i) rfl rfl (by exact As) (by omega) (by omega) (by omega) (by omega) (by omega) hfr hw);refine RGo.nil (by kernel_rfl) ?_;have hti:(l.take i).length=i:=by rw[BZ];omega
   obtain⟨l1,hl1⟩:=nm (l.take (0+(i+1))++(l.drop (0+i)).take (n-i)++l.drop (0+(i+1)+(n-i)));rw[hl1];have hti1:(l.take (i+1)).length=i+1:=by rw[BZ];omega
   have hl1e:l1=l.take (i+1)++l.drop i:=by
    have e1:l.drop (0+(i+1)+(n-i))=[]:=Cm (by omega);have e2:(l.drop (0+i)).take (n-i)=l.drop i:=by rw[An];exact BB (by rw[DE];omega)
    rw[<-hl1,e1,e2,BD,An]
   have hfr1:FreeL l1:=λx hx=>by
    rw[hl1e]at hx;rcases AL.1 hx with hx|hx
    ·exact hfr x (BK hx)
    ·exact hfr x (BR hx)
   have hl1n:l1.length=n+1:=by rw[hl1e,Ak,hti1,DE];omega
   have htk:l1.take i=l.take i:=by rw[hl1e,DP (by omega),Dy,B6 (by omega)]
   have hdr:l1.drop (i+1)=l.drop i:=by rw[hl1e,b9 hti1]
   refine JF ?_;refine WO ?_;refine AI (W.slice_lo rfl rfl (by exact As) rfl (by omega)) rfl ?_;refine WO ?_;refine Dl (W.copyO 1 rfl rfl (by exact As) (by exact As) (by rfl) (by omega) (by omega) (by omega) (by omega) (by exact AP _) hfr1 hfV hwV) rfl ?_;obtain⟨l2,hl2⟩:=nm (l1.take (0+i)++([e].drop 0).take 1++l1.drop (0+i+1));rw[hl2]
   have hr:l2=l.take i++e::l.drop i:=by
    rw[<-hl2,An,htk,hdr,Bg];rfl
   have hm:n+1=l2.length:=by
    rw[hr];simp only[Ak,DM,DE,hti];omega
   refine FL ?_;refine JA ?_;rw[<-hr];exact⟨[.sl X 0 (n+1)],[.lst true 117 1 l2],_,[],.cons (.tmp rfl) rfl .nil,.cons (.cell (.sl (p:=1) (.next .here) hm)) .nil,by exact BH,rfl,rfl⟩
end Go.Proofs.YtmkahplhnbbgmaaGreat
