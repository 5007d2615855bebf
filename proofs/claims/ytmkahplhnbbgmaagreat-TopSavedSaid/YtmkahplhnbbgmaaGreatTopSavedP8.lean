/-
  Part 8 of the texts under the law TopSaved: the layer of abstract values, walks and plain laws. Conditions: those that each theorem names.
-/
import Derived.Test.YtmkahplhnbbgmaaGreatTopSavedP7
namespace Go.Proofs.YtmkahplhnbbgmaaGreat
open Tryz
set_option linter.unusedVariables false
set_option linter.unusedSimpArgs false
set_option linter.defProp false
set_option maxRecDepth 10000
set_option maxHeartbeats 4000000
variable {ks:List Kind}
variable {s:Sys}
variable {w:Wd}
variable {l:List Sys}
variable {i:Nat}
variable {α:Type}
variable {b:List UInt8}
variable {v:UInt64}
variable {p:Nat}
variable {F:List Bool}
variable {bad:Bool}
structure CmdG(ks:List Kind)(c:Cmd):Prop where
 ok:(F4 ks c).2=0
 n:I64 c.ent.n
 l:c.comps.length<=16
 v:∀d∈c.comps,d.vals.length<=8
theorem CmdG.of(hk:Bs ks=0){c:Cmd}(h:(F4 ks c).2=0)(hn:I64 c.ent.n)(hc:∃l,Ce ks c.comps=true\/c.comps=l/\Ce ks l=true):CmdG ks c:=by
 have hh:Ce ks c.comps=true:=by
  obtain⟨l,h|⟨h1,h2⟩⟩:=hc
  ·exact h
  ·rw[h1];exact h2
 obtain⟨h1,h2⟩:=Gx hk hh;exact⟨h,hn,h1,h2⟩
theorem Vb(ks:List Kind):Ce ks []=true:=rfl
theorem dr{index:Int}{e:Ent}{o:Op}{st:Rn}(hk:Bs ks=0)(hs:SysG ks s)(hn:I64 e.n)(ho:OpG ks s.reads s.writes o)(h:∀c∈st.cmds,CmdG ks c):∀c∈(doM ks s index e o st).cmds,CmdG ks c:=by
 unfold doM;split
 ·exact h
 ·rename_i hset
  split
  ·exact h
  ·split
   ·exact h
   ·rename_i h12
    intro c hc;rcases AL.1 hc with hc|hc
    ·exact h c hc
    ·rw[DC]at hc
     subst hc;split
     ·rename_i h8
      obtain⟨p1,p2,_⟩:=ho.puts (.inl h8);obtain⟨k,hkk⟩:∃k:Nat,o.to.kind=k:=⟨o.to.kind.toNat,by omega⟩;have hkl:k<ks.length:=by omega
      have hka:ks[k]?=some ks[k]:=AX hkl;have hone:=(CQ hk).2 _ (As hkl);have hde:Qq ks o.to.kind=(DB ks[k] (List.replicate ks[k].fields.length 0)).1:=by unfold Qq;rw[hkk,B4,hka]
      have hf0:=Nc hone (vals:=List.replicate ks[k].fields.length 0) (by simp);have hho:=G9 (k:=ks[k]) (v:=List.replicate ks[k].fields.length 0) (by rw[hf0]);have hfo:Ns ks ⟨o.to.kind,Qq ks o.to.kind⟩:=⟨p1,p2,ks[k],by dsimp only;rw[hkk,B4,hka],by rw[hde,G8 hho.1]⟩
      have hld:Ce ks [⟨o.to.kind,Qq ks o.to.kind⟩]=true:=by
       refine held_iff.2 ⟨Cm ..,λd hd=>?_⟩;rw[DC]at hd;subst hd;exact⟨p1,p2,ks[k],by dsimp only;rw[hkk,B4,hka],by rw[hde];exact hho.1⟩
      refine .of hk ?_ hn ⟨[],.inl hld⟩;show(Eb ks [_]).2=0
      rw[Pa hk hfo]
     ·rename_i h8
      split
      ·rename_i h9
       obtain⟨p1,p2,_⟩:=ho.puts (.inr h9);refine .of hk ?_ hn ⟨[],.inl (Vb ks)⟩;show(if o.to.kind<0\/(ks.length:Int)<=o.to.kind then(([],1):List Comp×Int)else([],0)).2=0
       rw[AI (by omega)]
      ·split
       ·exact .of hk rfl hn ⟨[],.inl (Vb ks)⟩
       ·have hld:=LJ hs.spawn
        refine .of hk ?_ ⟨by show(-9223372036854775808:Int)<=0;decide,by show(0:Int)<=9223372036854775807;decide⟩ ⟨[],.inl hld⟩;show(Eb ks (Eb ks s.spawn).1).2=0
        rw[Nz hk hld]
theorem SR{index:Int}{e:Ent}(hk:Bs ks=0)(hs:SysG ks s)(hn:I64 e.n):∀(os:List Op) {st:Rn} (ho:∀o∈os,OpG ks s.reads s.writes o) (h:∀c∈st.cmds,CmdG ks c),∀c∈(LH ks s index e os st).cmds,CmdG ks c
 |[],st,ho,h=>h
 |o::os,st,ho,h=>SR hk hs hn os (λo' h'=>ho o' (by simp[h'])) (dr (index:=index) hk hs hn (ho o (by simp)) h)
theorem Ps{index seed tick:Int}(hk:Bs ks=0)(hs:SysG ks s):∀(qs:List (Nat×Item)) (b:List Item×List Cmd×List Evt),(∀q∈qs,I64 q.2.ent.n)->(∀c∈b.2.1,CmdG ks c)->∀c∈(Jc ks s index seed tick qs b).2.1,CmdG ks c
 |[],b,_,h=>h
 |q::qs,b,hq,h=>Ps hk hs qs (b.1.set q.1 ⟨q.2.ent,(I0 ks s index seed tick q.2 b.2.1 b.2.2).comps⟩,(I0 ks s index seed tick q.2 b.2.1 b.2.2).cmds,(I0 ks s index seed tick q.2 b.2.1 b.2.2).evs) (λq' h'=>hq q' (by simp[h'])) (SR hk hs (hq q (by simp)) s.ops hs.ops h)
abbrev wdR(w:Wd)(s:Sys)(index seed tick:Int):Wd:=⟨w.kinds,w.gens,(MH w s index seed tick).1⟩
def Gu(seed tick:Int):Wd->Nat->List Sys->Wd×List (List Cmd)×List Evt
 |w,i,[]=>(w,[],[])
 |w,i,s::l=>((Gu seed tick (wdR w s i seed tick) (i+1) l).1,(MH w s i seed tick).2.1::(Gu seed tick (wdR w s i seed tick) (i+1) l).2.1,(MH w s i seed tick).2.2++(Gu seed tick (wdR w s i seed tick) (i+1) l).2.2)
def J7(w:Wd)(l:List Sys)(seed tick:Int):Wd×List Evt:=((Gc (Gu seed tick w 0 l).1 (Gu seed tick w 0 l).2.1.flatten).1,(Gu seed tick w 0 l).2.2.take 256)
def Fc(l:List Sys)(seed:Int):Wd->Int->Nat->Wd×List UInt64
 |w,t,0=>(w,[])
 |w,t,n+1=>((Fc l seed (J7 w l seed t).1 (t+1) n).1,fU (Ju (J7 w l seed t).1)::(Fc l seed (J7 w l seed t).1 (t+1) n).2)
theorem SO(l:List Sys)(seed:Int):∀(a b:Nat) (w:Wd) (t:Int),Fc l seed w t (a+b)=((Fc l seed (Fc l seed w t a).1 (t+a) b).1,(Fc l seed w t a).2++(Fc l seed (Fc l seed w t a).1 (t+a) b).2)
 |0,b,w,t=>by
  rw[Ao,Fc];simp
 |a+1,b,w,t=>by
  rw[show a+1+b=(a+b)+1 by omega,Fc,Fc,SO l seed a b];rw[show t+1+(a:Int)=t+((a+1:Nat):Int) by omega];rfl
structure TickG(w:Wd)(l:List Sys):Prop where
 ok:WdOK w
 k12:w.kinds.length<=12
 sg:∀s∈l,SysG w.kinds s
 l24:l.length<=24
theorem TickG.n(h:TickG w l)(hs:s∈l):(Hc w.items s.wth s.wout).length*s.ops.length<=5120:=by
 have h1:=S9 w.items s.wth s.wout;have h2:=(h.sg s hs).len;have h3:=h.ok.il;have h4:=h.ok.gl;exact Bh (Nat.mul_le_mul (show _<=256 by omega) h2) (by decide)
theorem TickG.r(h:TickG w l)(hs:s∈l)(i seed tick:Int):WdOK (wdR w s i seed tick):=(Ck _).1 (fZ ((Ck w).2 h.ok) (h.sg s hs))
theorem TickG.cmds(h:TickG w l)(hs:s∈l)(i seed tick:Int):(∀c∈(MH w s i seed tick).2.1,CmdG w.kinds c)/\(MH w s i seed tick).2.1.length<=5120/\(MH w s i seed tick).2.2.length<=5120:=by
 have hm:∀q∈Hc w.items s.wth s.wout,q.2∈w.items:=λq hq=>S7 hq
 refine⟨Ps h.ok.ks (h.sg s hs) _ _ (λq hq=>?_) (λc hc=>by cases hc),?_⟩
 ·have h1:=h.ok.it q.2 (hm q hq)
  have h2:=h.ok.gl;constructor<;>omega
 ·have hr:=NM (ks:=w.kinds) (s:=s) (index:=i) (seed:=seed) (tick:=tick) h.ok.ks (h.sg s hs).ops (Hc w.items s.wth s.wout) (w.items,[],[]) (λq hq=>?_)
  ·have:=h.n hs
   obtain⟨r1,r2,_⟩:=hr;simp only[D5,Ao]at r1 r2;exact⟨Bh r1 this,Bh r2 this⟩
  ·exact(TA (h.sg s hs) (λit hit=>(h.ok.it it hit).2.2.2.2) q hq).2
theorem CmdG.sl{l:List Cmd}(h:∀c∈l,CmdG ks c):CmdsL ks l/\∀c∈l,CsL c.comps:=
 ⟨⟨λc hc=>(h c hc).ok,λc hc=>(h c hc).n,λc hc=>by have:=(h c hc).l;omega⟩,λc hc=>⟨by have:=(h c hc).l;omega,λd hd=>by have:=(h c hc).v d hd;omega⟩⟩
theorem PH{seed tick:Int}:∀(l:List Sys) (w:Wd) (i:Nat),TickG w l->WdOK (Gu seed tick w i l).1/\(Gu seed tick w i l).1.kinds=w.kinds/\(Gu seed tick w i l).1.gens=w.gens/\(Gu seed tick w i l).2.1.length=l.length/\(Gu seed tick w i l).2.1.flatten.length<=5120*l.length/\(Gu seed tick w i l).2.2.length<=5120*l.length/\∀x∈(Gu seed tick w i l).2.1,∀c∈x,CmdG w.kinds c
 |[],w,i,h=>⟨h.ok,rfl,rfl,rfl,AT _,AT _,λx hx=>by cases hx⟩
 |s::l,w,i,h=>by
  have hm:s∈s::l:=by simp
  obtain⟨g1,g2,g3⟩:=h.cmds hm i seed tick;have hr:=h.r hm i seed tick;have hl:=h.l24;obtain⟨k1,k2,k3,k4,k5,k6,k7⟩:=PH (seed:=seed) (tick:=tick) l (wdR w s i seed tick) (i+1) ⟨hr,h.k12,λt ht=>h.sg t (by simp[ht]),by rw[Bl]at hl;omega⟩;refine⟨k1,k2,k3,?_,?_,?_,λx hx=>?_⟩
  ·rw[Gu,Bl,Bl,k4]
  ·rw[Gu,Af,AJ,Bl];omega
  ·rw[Gu,AJ,Bl];omega
  ·rw[Gu]at hx
   rcases AP.1 hx with rfl|hx
   ·exact g1
   ·exact k7 x hx
theorem TickG.all(h:TickG w l)(seed tick:Int):∀c∈(Gu seed tick w 0 l).2.1.flatten,CmdG w.kinds c:=λc hc=>by
 obtain⟨x,hx,hcx⟩:=List.mem_flatten.1 hc;exact(PH (seed:=seed) (tick:=tick) l w 0 h).2.2.2.2.2.2 x hx c hcx
theorem TickG.tick(h:TickG w l)(seed tick:Int):TickG (J7 w l seed tick).1 l/\(J7 w l seed tick).1.kinds=w.kinds:=by
 obtain⟨k1,k2,_⟩:=PH (seed:=seed) (tick:=tick) l w 0 h;have ha:=h.all seed tick;obtain⟨r1,r2⟩:=YP k1 (l:=(Gu seed tick w 0 l).2.1.flatten) λc hc=>by rw[k2];exact(ha c hc).ok
 have hk:(J7 w l seed tick).1.kinds=w.kinds:=r2.trans k2;exact⟨⟨r1,by rw[hk];exact h.k12,λs hs=>by rw[hk];exact h.sg s hs,h.l24⟩,hk⟩
theorem My{seed:Int}:∀(n:Nat) (w:Wd) (t:Int),TickG w l->TickG (Fc l seed w t n).1 l/\(Fc l seed w t n).1.kinds=w.kinds
 |0,w,t,h=>⟨h,rfl⟩
 |n+1,w,t,h=>by
  obtain⟨h1,h2⟩:=h.tick seed t;obtain⟨h3,h4⟩:=My n _ (t+1) h1;exact⟨h3,h4.trans h2⟩
theorem Xm(c:Cmd)(hl:c.comps.length<=1099511627776)(hv:∀d∈c.comps,d.vals.length<=1099511627776):PS prog 199 [ED c] (ED c):=by
 have hcp:=HO c.comps hl hv;refine Sp (nt:=8) (res:=[.cell 2 303]) func199 λSf=>?_
 refine JG ?_;refine Ai λP=>?_;refine WO ?_;refine Ai λP=>?_;refine NL ?_
 refine JL ?_;refine BE (h:=(hcp ..)) (k:=?_);refine JE ?_;refine JM ?_;exact K9 (rs:=[ED c]) rfl
theorem MR(L:List (List Cmd))(i:Nat):(L.take i).flatten.length<=L.flatten.length:=by
 conv=>rhs;rw[<-B8 i L,BC,AJ]
 omega
theorem Sk{L:List (List Cmd)}{x:List Cmd}(h:L[i]?=some x):(L.take (i+1)).flatten=(L.take i).flatten++x:=by
 rw[EJ,h,M5,BC];simp
theorem Xl(L:List (List Cmd))(h2:L.length<=1000)(hl:L.flatten.length<=131072)(hc:∀x∈L,∀c∈x,CsL c.comps):PS prog 138 [.lst false 139 1 (L.map (E1 false))] (.tup [E1 true L.flatten,iA 0]):=by
 have hLm:(L.map (E1 false)).length=L.length:=AD _;refine Sp (nt:=45) (res:=[.tmp 2,.tmp 3]) func138 λSf=>?_
 refine R1 ?_;refine JA ?_;refine JH ?_;refine Cd (λ(i:Nat)=>⟨[(0,.lst false 139 1 (L.map (E1 false))),(4,iA ((L.take i).flatten.length:Nat)),(12,.lst false 139 1 (L.map (E1 false))),(13,iA (L.map (E1 false)).length),(14,iA i)],Sf⟩) (λi=>i<=L.length) (λi=>L.length-i) 0 (Ap _) ?_;rintro i hi;refine JH ?_;refine AC rfl (λhb=>?_) (λhb=>?_)
 ·have h:i<L.length:=by rw[AS,hLm]at hb;omega
  obtain⟨x,hx⟩:∃x,L[i]?=some x:=⟨_,AX h⟩;have hat:(L.map (E1 false))[i]?=some (E1 false x):=by rw[Ac,hx];rfl
  have hnx:=Dh List.length (Sk hx);rw[AJ]at hnx;have hle:=MR L (i+1);have hxm:(x.map ED).length=x.length:=AD _;refine JA ?_;refine RG ?_;(iterate 3 refine WO ?_);refine Ad ?_ (Cc ((((L.take i).flatten.length:Nat):Int)+((x.map ED).length:Nat)) (by omega) (by omega) rfl rfl);refine JB ?_;rw[show((((L.take i).flatten.length:Nat):Int)+((x.map ED).length:Nat))=(((L.take (i+1)).flatten.length:Nat):Int) by omega];refine JF ?_;refine AB rfl (Au (by omega)) ?_;refine JF ?_;exact Bb (i+1) h (by omega)
 ·clear hb hi
  refine JA ?_;refine JH ?_;refine AWP.adopt (d:=7) 303 5 rfl λO=>?_
  refine Cq (λ(i O:Nat)=>⟨[(7,.sl O 0 (L.take i).flatten.length),(25,.lst false 139 1 (L.map (E1 false))),(26,iA (L.map (E1 false)).length),(27,iA i)],(O,.row 303 5 ((L.take i).flatten.map ED))::Sf⟩) (λi _=>i<=L.length) (λi _=>L.length-i) 0 O (Ap _) ?_;rintro i O hi;refine JH ?_;refine AC rfl (λhb=>?_) (λhb=>?_)
  ·have h:i<L.length:=by rw[AS,hLm]at hb;omega
   obtain⟨x,hx⟩:∃x,L[i]?=some x:=⟨_,AX h⟩;have hat:(L.map (E1 false))[i]?=some (E1 false x):=by rw[Ac,hx];rfl
   have hnx:=Sk hx;have hle:=MR L (i+1);rw[hnx,AJ]at hle;have hxm:(x.map ED).length=x.length:=AD _;have hxc:=hc x (B0 hx);obtain⟨P0,hP0⟩:=nm ((L.take i).flatten);rw[hP0]at hle hnx⊢;refine JA ?_;refine JH ?_;refine Cq (λ(j O:Nat)=>⟨[(7,.sl O 0 (P0++x.take j).length),(25,.lst false 139 1 (L.map (E1 false))),(26,iA (L.map (E1 false)).length),(27,iA i),(31,E1 false x),(32,iA (x.map ED).length),(33,iA j)],(O,.row 303 5 ((P0++x.take j).map ED))::Sf⟩) (λj _=>j<=x.length) (λj _=>x.length-j) 0 O (Ap _) ?_ (h0:=⟨by rw[List.take_zero,A8];exact FE,by rw[List.take_zero,A8];exact BL⟩);rintro j O hj;refine JH ?_;refine AC rfl (λhb2=>?_) (λhb2=>?_)
   ·have h2:j<x.length:=by rw[AS,hxm]at hb2;omega
    obtain⟨c,hcc⟩:=nm (x[j]);have hcm:c∈x:=by rw[<-hcc];exact As h2
    have hat2:(x.map ED)[j]?=some (ED c):=by rw[Ac,AX h2,hcc];rfl
    have hcp:=Xm c (hxc c hcm).1 (hxc c hcm).2;have hnx2:P0++x.take (j+1)=(P0++x.take j)++[c]:=by rw[Aw h2,hcc,Aq]
    have hpl:(P0++x.take j).length<=131072:=by rw[AJ,Ba];omega
    obtain⟨M,hM⟩:=nm (P0++x.take j);rw[hM]at hnx2 hpl⊢;have hml:(M.map ED).length=M.length:=AD _;have hb1:(M.map ED).length+1<=1099511627776:=by omega
    have hm1:M.map ED++[ED c]=(P0++x.take (j+1)).map ED:=by rw[hnx2,AK];rfl
    have hm2:M.length+[ED c].length=(P0++x.take (j+1)).length:=by rw[hnx2,AJ];rfl
    refine JL ?_;refine Ai λX=>?_;refine JB ?_
    refine JL ?_;refine BE (h:=(hcp ..)) (k:=?_);refine Dq (ED c) ?_;refine WO ?_;refine Ay λY=>?_;refine JB ?_
    dsimp only[BA,List.set_cons_zero,List.set_cons_succ,CT,List.nil_append];rw[hm1,hm2];refine JF ?_;exact CA (j+1) Y h2 (by omega)
   ·have h2:j=x.length:=by rw[AZ,hxm]at hb2;omega
    subst h2;rw[Bg,<-hnx];refine JF ?_;exact CA (i+1) O h (by omega)
  ·have h:i=L.length:=by rw[AZ,hLm]at hb;omega
   subst h;rw[Bg];refine JM ?_;exact Cp [.sl O 0 L.flatten.length,iA 0] [E1 true L.flatten,iA 0] (.cons (.cell (.sl (p:=0) .here (by rw[AD]))) (.cons (.cell .same) .nil))
abbrev gh(b:Bool)(l:List Evt):AV:=.lst b 136 4 (l.map Fm)
theorem NF(w:Wd)(l:List Sys)(h:TickG w l):PS prog 66 [wdA false w,NG false l] (iA 0):=by
 have hL:=h.ok.wl;have hck:=Hr w hL.gens hL.items.1 (λit hit=>(hL.items.2 it hit).1);rw[(Ck w).2 h.ok]at hck;have hlm:(l.map (FY false)).length=l.length:=AD _;have h24:=h.l24;refine Sp (nt:=31) (res:=[.tmp 4]) func66 λSf=>?_
 refine RG ?_;refine Bt ?_;refine JB ?_;refine JI ?_;refine BE (h:=(hck ..)) (k:=?_);refine JB ?_;refine JF ?_;refine AB rfl rfl ?_;refine JF ?_;refine AB rfl (Au (by omega)) ?_;refine JA ?_;refine Cd (λ(i:Nat)=>⟨[(2,.fp (wdA false w).cells),(17,NG false l),(18,iA (l.map (FY false)).length),(19,iA i)],Sf⟩) (λi=>i<=l.length) (λi=>l.length-i) 0 (Ap _) ?_;rintro i hi;refine JH ?_;refine AC rfl (λhb=>?_) (λhb=>?_)
 ·have hi2:i<l.length:=by rw[AS,hlm]at hb;omega
  obtain⟨s,hs⟩:=nm (l[i]);have hsm:s∈l:=by rw[<-hs];exact As hi2
  have hat:(l.map (FY false))[i]?=some (FY false s):=by rw[Ac,AX hi2,hs];rfl
  have hsc:=OW w.kinds s h.ok.ks h.k12 (h.sg s hsm);refine JL ?_;refine Ai λX=>?_;refine JB ?_
  refine JL ?_;refine BO (h:=(hsc ..)) (k:=?_);refine JB ?_;refine JF ?_;refine AB rfl rfl ?_;refine JF ?_;exact Bb (i+1) hi2 (by omega)
 ·refine FL ?_
  refine R1 ?_;refine RT ?_;refine Ah ?_;rfl
theorem WX(w:Wd)(cs:List (List Cmd))(ev:List Evt)(hw:WdOK w)(h12:w.kinds.length<=12)(hn:cs.length<=1000)(hl:cs.flatten.length<=131072)(hc:∀c∈cs.flatten,CmdG w.kinds c)(he:ev.length<=1099511627776):PS prog 68 [wdA false w,.lst false 139 1 (cs.map (E1 false)),gh false ev] (.tup [wdA false (Gc w cs.flatten).1,gh true (ev.take 256),iA 0]):=by
 have hL:=hw.wl;have hck:=Hr w hL.gens hL.items.1 (λit hit=>(hL.items.2 it hit).1);rw[(Ck w).2 hw]at hck;obtain⟨g1,g2⟩:=CmdG.sl hc;have hj:=Xl cs hn hl (λx hx c hcx=>g2 c (List.mem_flatten.2 ⟨x,hx,hcx⟩));have hap:=eA w cs.flatten hw h12 hl g1;have hem:(ev.map Fm).length=ev.length:=AD _
 obtain⟨k,hk⟩:∃k:Nat,(if(256:Int)<((ev.map Fm).length:Nat)then(256:Int)else((ev.map Fm).length:Nat))=(k:Nat):=by
  by_cases h:(256:Int)<((ev.map Fm).length:Nat)
  ·exact⟨256,by rw[Ab h];rfl⟩
  ·exact⟨_,by rw[AI h]⟩
 have hk1:k<=ev.length/\ev.take k=ev.take 256:=by
  by_cases h:(256:Int)<((ev.map Fm).length:Nat)
  ·rw[Ab h]at hk
   have:k=256:=by omega
   subst this;exact⟨by omega,rfl⟩
  ·rw[AI h]at hk
   have:k=ev.length:=by omega
   subst this;exact⟨AT _,by rw[Bg,Aj (by omega)]⟩
 obtain⟨hk1,hk2⟩:=hk1;have htk:(ev.map Fm).take k=(ev.take 256).map Fm:=by rw[<-D9,hk2]
 have htl:((ev.map Fm).take k).length<=256:=by rw[htk,AD,Ba];omega
 refine Sp (nt:=47) (res:=[.cell 6 26,.tmp 7,.tmp 8]) func68 λSf=>?_
 refine RG ?_;refine Bt ?_;refine WO ?_;refine Ai λR=>?_;refine JE ?_
 refine JI ?_;refine BE (h:=(hck ..)) (k:=?_);refine JB ?_;refine JF ?_;refine AB rfl rfl ?_;refine JI ?_;refine BE (h:=(hj ..)) (k:=?_);refine JE ?_;refine JF ?_;refine AB rfl rfl ?_;refine JL ?_;refine BO (h:=(hap ..)) (k:=?_);refine KO ?_;refine Ai λV=>?_;refine JE ?_
 refine JF ?_;refine AB rfl rfl ?_;refine FL ?_;refine CN λY=>?_
 refine RU ?_;(iterate 5 refine RK ?_);refine BT ?_ (W.hiL (a:=k) rfl rfl hk (by omega));refine RGo.s (Q6 (by omega) (by unfold maxLen;omega) rfl rfl (by exact Az)) rfl ?_;(iterate 3 refine RK ?_);refine RGo.nil (by kernel_rfl) ?_;refine RT ?_;exact Cp [wdA false (Gc w cs.flatten).1,.sl Y 0 ((ev.map Fm).take k).length,iA 0] [wdA false (Gc w cs.flatten).1,.lst true 136 4 ((ev.map Fm).take k),iA 0] (.cons (.cell .same) (.cons (.cell (.sl (p:=0) .here rfl)) (.cons (.cell .same) .nil))) (e:=by rw[htk];rfl)
theorem Pc(w:Wd)(l:List Sys)(seed tick:Int)(h:TickG w l):PS prog 20 [wdA false w,NG false l,iA seed,iA tick] (.tup [wdA false (J7 w l seed tick).1,gh false (J7 w l seed tick).2,iA 0]):=by
 have hck:=NF w l h;have h24:=h.l24;obtain⟨k1,k2,k3,k4,k5,k6,k7⟩:=PH (seed:=seed) (tick:=tick) l w 0 h;have hall:=h.all seed tick;have hend:=WX (Gu seed tick w 0 l).1 (Gu seed tick w 0 l).2.1 (Gu seed tick w 0 l).2.2 k1 (by rw[k2];exact h.k12) (by omega) (by omega) (by rw[k2];exact hall) (by omega);have htm:J7 w l seed tick=((Gc (Gu seed tick w 0 l).1 (Gu seed tick w 0 l).2.1.flatten).1,(Gu seed tick w 0 l).2.2.take 256):=rfl;rw[htm];dsimp only;obtain⟨⟨v,cs,ev⟩,hq⟩:=nm (Gu seed tick w 0 l);rw[hq]at hend k4 k6⊢;dsimp only at hend k4 k6⊢;have hlm:(l.map (FY false)).length=l.length:=AD _;refine Sp (nt:=65) (res:=[.cell 8 26,.tmp 9,.tmp 10]) func20 λSf=>?_
 refine RG ?_;refine KX λB=>?_
 refine KX λR=>?_
 refine KO ?_;refine JL ?_;refine BO (h:=(hck ..)) (k:=?_);refine JB ?_;refine JF ?_;refine AB rfl rfl ?_;refine JA ?_;refine R1 ?_;refine JA ?_;refine AWP.adopt (d:=13) 136 4 rfl λE0=>?_
 refine AWP.adopt (d:=12) 139 1 rfl λC0=>?_
 refine FP (λ(i C E:Nat) (z:Wd×List (List Cmd)×List Evt)=>⟨[(1,NG false l),(2,iA seed),(3,iA tick),(4,.ptr B 0 0),(8,.ptr R 0 0),(12,.sl C 0 z.2.1.length),(13,.sl E 0 z.2.2.length),(27,NG false l),(28,iA (l.map (FY false)).length),(29,iA i)],(C,.row 139 1 (z.2.1.map (E1 false)))::(E,.row 136 4 (z.2.2.map Fm))::(R,.row 26 3 [.agg [.prim (.slice none 0 0),.prim (.slice none 0 0),.prim (.slice none 0 0)]])::(B,.row 26 3 [wdA false z.1])::Sf⟩) (λi _ _ z=>i<=l.length/\TickG z.1 l/\z.1.kinds=w.kinds/\(v,cs,ev)=((Gu seed tick z.1 i (l.drop i)).1,z.2.1++(Gu seed tick z.1 i (l.drop i)).2.1,z.2.2++(Gu seed tick z.1 i (l.drop i)).2.2)) (λi _ _ _=>l.length-i) 0 C0 E0 (w,[],[]) ⟨Ap _,h,rfl,hq.symm⟩ ?_;rintro i C E ⟨z,zc,ze⟩ ⟨hi,hz,hzk,hrun⟩;dsimp only at hz hzk hrun⊢
 have hcl:zc.length<=24:=by
  have:=Dh (λq=>q.2.1.length) hrun;dsimp only at this;rw[AJ]at this;omega
 have hel:ze.length<=122880:=by
  have:=Dh (λq=>q.2.2.length) hrun;dsimp only at this;rw[AJ]at this;omega
 have hcm:(zc.map (E1 false)).length=zc.length:=AD _;have hem:(ze.map Fm).length=ze.length:=AD _;refine JH ?_;refine AC rfl (λhb=>?_) (λhb=>?_)
 ·have h2:i<l.length:=by rw[AS,hlm]at hb;omega
  obtain⟨s,hs⟩:=nm (l[i]);have hsm:s∈l:=by rw[<-hs];exact As h2
  have hat:(l.map (FY false))[i]?=some (FY false s):=by rw[Ac,AX h2,hs];rfl
  have hsr:=ix z s i seed tick hz.ok.wl ((Ck z).2 hz.ok) hz.k12 (hz.sg s hsm) hz.ok.ks (λit hit=>(hz.ok.it it hit).2.2.2.2) (Bh (hz.n hsm) (by decide));have hr:=hz.r hsm i seed tick;obtain⟨_,q2,q3⟩:=hz.cmds hsm i seed tick;rw[Dp h2,hs,Gu]at hrun;unfold wdR at hrun hr;obtain⟨⟨ri,rc,re⟩,hrm⟩:=nm (MH z s i seed tick);rw[hrm]at hsr hr q2 q3 hrun;dsimp only at hsr hr q2 q3 hrun;have hg2:TickG ⟨z.kinds,z.gens,ri⟩ l:=⟨hr,hz.k12,hz.sg,hz.l24⟩;have hrcl:(rc.map ED).length=rc.length:=AD _;have hrel:(re.map Fm).length=re.length:=AD _;refine JL ?_;refine Ai λX=>?_;refine JE ?_
  refine JL ?_;refine PY (h:=(hsr ..)) (k:=?_);refine KO ?_;refine Ai λV=>?_;refine JE ?_
  refine JF ?_;refine AB rfl rfl ?_;refine JA ?_;have hm1:zc.map (E1 false)++[E1 false rc]=(zc++[rc]).map (E1 false):=by rw[AK];rfl
  have hm2:zc.length+[E1 false rc].length=(zc++[rc]).length:=by rw[AJ];rfl
  have hm3:ze.map Fm++re.map Fm=(ze++re).map Fm:=by rw[AK]
  have hm4:ze.length+(re.map Fm).length=(ze++re).length:=by rw[AJ,hrel]
  refine RG ?_;(repeat first|(refine Bm ?_;first|(refine YC ?_;refine Dq (E1 false rc) ?_))|refine WO ?_|refine Ai λX=>?_|refine Ay λY=>?_);refine NL ?_;dsimp only[BA,List.set_cons_zero,List.set_cons_succ,CT,List.nil_append];rw[hm1,hm2,hm3,hm4];refine JF ?_;refine DH (i+1) ?_ ?_ (⟨z.kinds,z.gens,ri⟩,zc++[rc],ze++re) ⟨h2,hg2,hzk,by rw[hrun];dsimp only;rw[Aq,Aq];rfl⟩ (by omega)
 ·have h2:i=l.length:=by rw[AZ,hlm]at hb;omega
  subst h2;rw[CY,Gu,A8,A8]at hrun;injection hrun with e1 e2
  injection e2 with e2 e3
  subst e1 e2 e3;refine FL ?_;refine KW 12 _ (Hm (E1 false) (λ_=>Frz.h) _) (hn:=hcm.symm) ?_;refine KW 13 _ (Hm Fm (λ_=>Frz.h) _) (hn:=hem.symm) ?_;refine JJ ?_;refine Gt (h:=(hend ..)) (k:=?_);refine JE ?_;refine RT ?_;exact K9 (rs:=[wdA false (Gc v cs.flatten).1,gh false (ev.take 256),iA 0]) rfl
abbrev kJ(b:Bool)(l:List UInt64):AV:=.lst b 72 1 (l.map uA)
theorem Lx(l:List Sys)(seed:Int):∀(n:Nat) (w:Wd) (t:Int),(Fc l seed w t n).2.length=n
 |0,w,t=>rfl
 |n+1,w,t=>by rw[Fc,Bl,Lx l seed n]
theorem LM(w:Wd)(l:List Sys)(seed fr:Int)(n:Nat)(h:TickG w l)(h0:0<=fr)(h1:fr+n<=2000):PS prog 27 [wdA false w,NG false l,iA seed,iA fr,iA n] (.tup [wdA false (Fc l seed w fr n).1,kJ true (Fc l seed w fr n).2,iA 0]):=by
 have hck:=NF w l h;have hcp:=Yp w h.ok.wl;have hpl:=Lx l seed n w fr;obtain⟨⟨v,ds⟩,hq⟩:=nm (Fc l seed w fr n);rw[hq]at hpl⊢;dsimp only at hpl⊢;refine Sp (nt:=73) (res:=[.cell 10 26,.tmp 11,.tmp 12]) func27 λSf=>?_
 refine RG ?_;refine KX λB=>?_
 refine KX λR=>?_
 refine KO ?_;refine JL ?_;refine BO (h:=(hck ..)) (k:=?_);refine JB ?_;refine JF ?_;refine AB rfl rfl ?_;refine FL ?_;have hf1:¬(fr<0):=by omega
 have hf2:¬(2000<fr):=by omega
 have hf3:¬((n:Int)<0):=by omega
 have hf4:¬(2000-fr<(n:Int)):=by omega
 refine R1 ?_;refine AB rfl (by simp only[hf1,hf2,hf3,hf4,decide_false,Bool.or_false]) ?_;refine JI ?_;refine BE (h:=(hcp ..)) (k:=?_);refine JB ?_;refine JA ?_;refine JH ?_;refine AWP.adopt (d:=14) 72 1 rfl λD0=>?_
 refine ET (λ(i D:Nat) (z:Wd×List UInt64)=>⟨[(1,NG false l),(2,iA seed),(3,iA fr),(5,.ptr B 0 0),(10,.ptr R 0 0),(14,.sl D 0 z.2.length),(45,iA n),(46,iA i)],(D,.row 72 1 (z.2.map uA))::(R,.row 26 3 [.agg [.prim (.slice none 0 0),.prim (.slice none 0 0),.prim (.slice none 0 0)]])::(B,.row 26 3 [wdA false z.1])::Sf⟩) (λi _ z=>i<=n/\TickG z.1 l/\(v,ds)=((Fc l seed z.1 (fr+i) (n-i)).1,z.2++(Fc l seed z.1 (fr+i) (n-i)).2)) (λi _ _=>n-i) 0 D0 (w,[]) ⟨Ap _,h,by rw[show fr+((0:Nat):Int)=fr by omega,HW,<-hq];rfl⟩ ?_;rintro i D ⟨z,zd⟩ ⟨hi,hz,hrun⟩;dsimp only at hz hrun⊢
 have hdl:zd.length<=n:=by
  have:=Dh (λq=>q.2.length) hrun;dsimp only at this;rw[AJ]at this;omega
 have hdm:(zd.map uA).length=zd.length:=AD _;refine JH ?_;refine AC rfl (λhb=>?_) (λhb=>?_)
 ·have h2:i<n:=by rw[AS]at hb;omega
  have htr:=Pc z l seed (fr+i) hz;obtain⟨hzt,_⟩:=hz.tick seed (fr+i);have hdg:=bE _ hzt.ok;rw[show n-i=(n-(i+1))+1 by omega,Fc]at hrun;obtain⟨⟨tv,te⟩,hte⟩:=nm (J7 z l seed (fr+i));rw[hte]at htr hzt hdg hrun;dsimp only at htr hzt hdg hrun;obtain⟨sm,hsm⟩:=nm (fU (Ju tv));rw[hsm]at hdg hrun;have hm1:zd.map uA++[uA sm]=(zd++[sm]).map uA:=by rw[AK];rfl
  have hm2:zd.length+[uA sm].length=(zd++[sm]).length:=by rw[AJ];rfl
  refine JA ?_;refine RG ?_;(iterate 5 refine WO ?_);refine Ad ?_ (Cc (fr+i) (by omega) (by omega) rfl rfl);refine ZH (h:=(htr ..)) (k:=?_);refine KO ?_;refine Ai λV=>?_;refine JE ?_
  refine JF ?_;refine AB rfl rfl ?_;refine JA ?_;refine JJ ?_;refine BE (h:=(hdg ..)) (k:=?_);refine Dq (uA sm) ?_;refine WO ?_;refine Ay λY=>?_;refine JB ?_
  dsimp only[BA,List.set_cons_zero,List.set_cons_succ,CT,List.nil_append];rw[hm1,hm2];refine JF ?_;exact Cs (i+1) _ (tv,zd++[sm]) ⟨h2,hzt,by rw[hrun,Aq];dsimp only;rw[show fr+((i+1:Nat):Int)=fr+i+1 by omega];rfl⟩ (by omega)
 ·have h2:i=n:=by rw[AZ]at hb;omega
  subst h2;rw[Co,Fc,A8]at hrun;injection hrun with e1 e2
  subst e1 e2;refine JM ?_;exact Cp [wdA false v,.sl D 0 ds.length,iA 0] [wdA false v,kJ true ds,iA 0] (.cons (.cell .same) (.cons (.cell (.sl (p:=0) .here hdm.symm)) (.cons (.cell .same) .nil)))
theorem QO(X:Nat)(l:List Int)(f:FuncId)(cap:List AV)(p:Int->Bool)(hs:Dw cap=true)(hl:l.length<=4611686018427387904)(hf:∀x∈l,PS prog f (iA x::cap) (bA (p x))):PO prog 202 [.sl X 0 l.length,.fn f cap] X (.row 3 1 (l.map iA)) (iA (H6 l p)) (.row 3 1 (l.map iA)):=by
 refine Sp (nt:=19) (res:=[.tmp 4]) func202 λSf=>?_
 refine KK ?_;refine Cd (λi:Nat=>⟨[(0,.sl X 0 l.length),(1,.fn f cap),(7,iA l.length),(8,iA i)],(X,.row 3 1 (l.map iA))::Sf⟩) (λi=>i<=l.length/\∀j (h:j<l.length),j<i->p l[j]=false) (λi=>l.length-i) 0 ⟨Ap _,λj h hj=>absurd hj (by omega)⟩ ?_;rintro i ⟨hi,he⟩;refine KK ?_;refine AC rfl (λhc=>?_) (λhc=>?_)
 ·have h:i<l.length:=by simpa using hc
  refine KK ?_;refine MF (h:=(hf _ (As h))) (k:=?_);refine KK ?_;refine AC rfl (λhd=>?_) (λhd=>?_)
  ·refine KK ?_
   refine RT ?_;refine Y8 ?_ ?_
   ·rw[Ik h hd λj hj=>he j (by omega) hj]
   ·rfl
  ·refine KK ?_
   refine Bb (i+1) ⟨h,λj h1 h2=>?_⟩;by_cases e:j=i
   ·subst e;exact hd
   ·exact he j h1 (by omega)
 ·have h:¬i<l.length:=by simpa using hc
  refine JC ?_;refine Y8 ?_ ?_
  ·rw[Il λj hj=>he j hj (by omega)]
  ·rfl
theorem Qp(X:Nat)(l:List Int)(f:FuncId)(cap:List AV)(p:Int->Bool)(hs:Dw cap=true)(hl:l.length<=4611686018427387903)(hf:∀x∈l,PS prog f (iA x::cap) (bA (p x))):Spec prog 140 [.sl X 0 l.length,.fn f cap] [(X,.row 3 1 (l.map iA))] λr S'=>r= .lst true 3 1 ((l.filter λx=>!p x).map iA)/\S'=[]:=by
 refine Sp (nt:=42) (res:=[.tmp 4]) func140 λSf=>?_
 have h0:=QO X l f cap p hs (by omega) hf;have hr:=QQ l p;obtain⟨v,hv⟩:=nm (H6 l p);rw[hv]at h0 hr;refine KK ?_;refine AOps.o2 (h:=(h0 ..)) (k:=?_);refine KK ?_;refine AC rfl (λhc=>?_) (λhc=>?_)
 ·have hc:v= -1:=by simpa using hc
  have hall:(l.filter λx=>!p x)=l:=by
   rw[FX];intro x hx
   have h1:l.findIdx? p=none:=by
    unfold H6 at hv;split at hv
    ·omega
    ·assumption
   rw[D6]at h1;simp[h1 x hx]
  rw[hall];refine JC ?_;exact⟨[.sl X 0 l.length],[.lst true 3 1 (l.map iA)],_,[],.cons (.tmp rfl) rfl .nil,.cons (.cell (.sl (p:=0) .here (by simp))) .nil,by exact BL,rfl,rfl⟩
 ·have hc:v≠-1:=by simpa using hc
  obtain⟨i0,hi0⟩:∃i0:Nat,v=i0:=⟨v.toNat,by omega⟩;subst hi0
  have hfi:l.findIdx? p=some i0:=by
   unfold H6 at hv;split at hv
   ·rename_i i hi;rw[hi];congr 1;omega
   ·omega
  obtain⟨hil,hpi,hmin⟩:=C7.1 hfi
  have ht0:(l.take (i0+1)).filter (λx=>!p x)=l.take i0:=by
   rw[Aw hil,Fw];rw[show([l[i0]].filter λx=>!p x)=[] by simp[hpi],A8,FX];intro x hx;obtain⟨j,hj,rfl⟩:=Em.1 hx;have:=hmin j (by omega);simp at this⊢;exact this
  refine KK ?_;refine ET (λ(i j:Nat) (M:List AV)=>⟨[(0,.sl X 0 l.length),(1,.fn f cap),(5,iA i),(6,iA j)],(X,.row 3 1 M)::Sf⟩) (λi j M=>i<j/\j<=l.length/\∃K:List Int,M=K.map iA/\K.length=l.length/\K.take i=((l.take j).filter λx=>!p x)/\K.drop j=l.drop j) (λi j _=>l.length-j) i0 (i0+1) (l.map iA) ⟨by omega,hil,l,rfl,rfl,ht0.symm,rfl⟩ ?_;rintro i j M ⟨hij,hj,K,rfl,hM,h1,h2⟩;refine KK ?_;refine AC rfl (λhd=>?_) (λhd=>?_)
  ·have h:j<l.length:=by simpa using hd
   have hKj:K[j]?=some l[j]:=by
    have:=Dh (λz=>z[0]?) h2;simpa[h]using this
   have hat:(K.map iA)[j]?=some (iA l[j]):=by rw[Ac,hKj];rfl
   have hKi:i<K.length:=by omega
   obtain⟨b,hb⟩:=nm (p l[j]);have hfj:=hf _ (As h);rw[hb]at hfj
   have htk:(l.take (j+1)).filter (λx=>!p x)=(l.take j).filter (λx=>!p x)++if b then[]else[l[j]]:=by
    rw[Aw h,Fw]
    congr 1
    cases b<;>simp[hb]
   refine KK ?_;refine MF (h:=(hfj ..)) (k:=?_);refine KK ?_;cases b
   ·refine An rfl rfl ?_
    refine KK ?_;refine Cs (i+1) (j+1) _ ⟨by omega,h,K.set i l[j],by rw[BK],by simpa using hM,?_,?_⟩
    ·rw[htk,<-h1,EJ,List.take_set,List.set_eq_of_length_le (by rw[Ba];omega),BU hKi]
     simp
    ·rw[List.drop_set_of_lt (by omega),<-Cy,h2,Cy]
   ·refine AB rfl rfl ?_
    refine KK ?_;refine Cs i (j+1) _ ⟨by omega,h,K,rfl,hM,?_,?_⟩
    ·rw[h1,htk];simp
    ·rw[<-Cy,h2,Cy]
  ·have h:j=l.length:=by rw[AZ]at hd;omega
   subst h;have h1':K.take i=l.filter λx=>!p x:=by rw[h1,Bg]
   have hKl:(K.map iA).length=l.length:=by rw[AD,hM]
   have hki:∀A B,(List.take (0+i) (K.map iA)++A++B).take i=(l.filter λx=>!p x).map iA:=λA B=>by
    rw[Ao,Aq,DV (by rw[Ba];omega),EP,RW,<-D9,h1']
   have hfl:i=((l.filter λx=>!p x).map iA).length:=by
    rw[<-h1',AD,Ba];omega
   (repeat first|(refine Bm ?_;first|refine DO (W.slice_lo rfl rfl (by exact Az) rfl (by omega)) rfl ?_|refine DO (W.clear rfl (by exact Az) (by first|exact .inl rfl|exact .inr rfl) rfl (by omega)) rfl ?_|refine AOps.p (W.hi rfl rfl (by exact Az) rfl (by omega)) rfl ?_)|refine WK ?_|refine Ai λX=>?_|refine Ay λY=>?_);refine FF (X:=X) i ?_;rw[hki];refine RT ?_;exact⟨[.sl X 0 i],[.lst true 3 1 ((l.filter λx=>!p x).map iA)],_,[],.cons (.tmp rfl) rfl .nil,.cons (.cell (.sl (p:=0) .here hfl)) .nil,by exact BL,rfl,rfl⟩
theorem UB{i:Int}{j:Nat}(hi:i=j)(hj:j<ks.length):Rq ks i=(ks[j].fields.map fieldA).length:=by
 unfold Rq;rw[hi,show((j:Int)).toNat=j from rfl,AX hj,AD]
theorem jV(G:Nat)(ks:List Kind)(seen l:List Int)(hk:K8 ks)(h0:seen≠[])(hs:∀x∈seen,0<=x/\x<ks.length)(hl:seen.length<=4398046511104):PO prog 143 [.fp [.ptr G 0 0],.fp [Av false seen],.fp [BZ false false ks]] G (DM l) (Dz (Jk ks seen l).1) (DM (Jk ks seen l).2):=by
 refine Sp (nt:=30) (res:=[.cell 3 227]) func143 λSf=>?_
 have h2:=BY l (n:=2) (by decide);have hn0:0<seen.length:=Gf.2 h0;have hv:=BY (BS l 2) (n:=seen.length) (by omega);obtain⟨i,hi⟩:∃i:Nat,Bn (BS l 2) seen.length=i:=⟨(Bn (BS l 2) seen.length).toNat,by omega⟩;have hil:i<seen.length:=by omega
 obtain⟨j,hj⟩:∃j:Nat,seen[i]=j:=⟨seen[i].toNat,by have:=hs _ (As hil);omega⟩;have hjl:j<ks.length:=by have:=hs _ (As hil);omega
 obtain⟨hk0,hk1⟩:=hk;have hfl:=(hk1 _ (As hjl)).1;refine KK ?_;refine Ai λR=>?_;refine KK ?_;refine AOps.o2 (h:=(ES G _ _ (by decide))) (k:=?_);refine KK ?_
 refine AC rfl (λhb=>?_) (λhb=>?_)
 ·have hb:Bn l 2=0:=by simpa using hb
  have h20:=BY (BS l 2) (n:=20) (by decide);refine KK ?_;refine AOps.o2 (h:=(ES G _ _ (by decide))) (k:=?_);refine JC ?_;have he:Jk ks seen l=(⟨false,Bn (BS l 2) 20-6,⟨0,0⟩⟩,BS (BS l 2) 20):=by rw[Jk,Ab hb]
  rw[he];exact WB (rs:=[Dz ⟨false,Bn (BS l 2) 20-6,⟨0,0⟩⟩]) rfl rfl (.cons (.cell (p:=0) rfl .here TAg.h TSize.h rfl rfl) rfl .nil)
 ·have hb:Bn l 2≠0:=by simpa using hb
  obtain⟨l1,hl1⟩:=nm (BS l 2);rw[hl1]at hi hv⊢;have hfd:=UB (ks:=ks) hj hjl;have hsd:seen.getD (Bn l1 seen.length).toNat 0=seen[i]:=by rw[hi];simp[hil]
  have he:Jk ks seen l=(⟨true,0,⟨seen[i],Bn (BS l1 seen.length) (Rq ks seen[i])⟩⟩,BS (BS l1 seen.length) (Rq ks seen[i])):=by rw[Jk,AI hb,hl1,hsd]
  rw[he,hfd]
  have hon:PO prog 33 [.ptr G 0 0,iA (seen.map iA).length] G (DM l1) (iA i) (DM (BS l1 seen.length)):=by
   have:=ES G l1 seen.length (by omega);rw[hi]at this;rw[AD];exact this
  have hon2:=ES G (BS l1 seen.length) (ks[j].fields.map fieldA).length (by rw[AD];omega);rw[hj]at he⊢;refine JN ?_;refine RGo.o2 (h:=(hon ..)) (k:=?_);(iterate 3 refine RK ?_);refine RGo.nil (by kernel_rfl) ?_;rw[hj];refine JN ?_;refine RGo.o2 (h:=(hon2 ..)) (k:=?_);(iterate 3 refine RK ?_);refine RGo.nil (by kernel_rfl) ?_;refine WK ?_;refine RT ?_;exact WB (rs:=[Dz ⟨true,0,⟨j,Bn (BS l1 seen.length) (ks[j].fields.map fieldA).length⟩⟩]) rfl rfl (.cons (.cell (p:=0) rfl .here TAg.h TSize.h rfl rfl) rfl .nil)
theorem d9(ks:List Kind)(seen l:List Int)(hk:K8 ks)(hf:∀k∈ks,k.fields≠[])(h0:seen≠[])(hs:∀x∈seen,0<=x/\x<ks.length):TL ks seen (Jk ks seen l).1:=by
 have hn0:0<seen.length:=Gf.2 h0;have hv:=BY (BS l 2) (n:=seen.length) (by omega);have h20:=BY (BS l 2) (n:=20) (by decide);unfold Jk TL;split
 ·exact⟨λh=>(by cases h),λ_=>⟨by show-6<=Bn (BS l 2) 20-6;omega,by show Bn (BS l 2) 20-6<=13;omega,rfl⟩⟩
 ·obtain⟨i,hi⟩:∃i:Nat,Bn (BS l 2) seen.length=i:=⟨(Bn (BS l 2) seen.length).toNat,by omega⟩
  have hil:i<seen.length:=by omega
  have hsd:seen.getD (Bn (BS l 2) seen.length).toNat 0=seen[i]:=by rw[hi];simp[hil]
  obtain⟨j,hj⟩:∃j:Nat,seen[i]=j:=⟨seen[i].toNat,by have:=hs _ (As hil);omega⟩;have hjl:j<ks.length:=by have:=hs _ (As hil);omega
  have hfd:=UB (ks:=ks) hj hjl;have hfp:0<ks[j].fields.length:=Gf.2 (hf _ (As hjl));rw[AD]at hfd;have hv2:=BY (BS (BS l 2) seen.length) (n:=Rq ks seen[i]) (by omega);rw[hsd];exact⟨λ_=>⟨rfl,⟨(hs _ (As hil)).1,(hs _ (As hil)).2,hv2.1,hv2.2⟩,As hil⟩,λh=>(by cases h)⟩
theorem W5:∀{l:List Int} {a n:Int},l.Pairwise (· < ·)->(∀x∈l,a<=x/\x<n)->a<=n->(l.length:Int)<=n-a
 |[],a,n,_,_,h=>by simp;omega
 |x::l,a,n,hp,hr,_=>by
  have hx:=hr x (by simp);rw[Al]at hp;have:=W5 (a:=x+1) (n:=n) hp.2 (λy hy=>⟨by have:=hp.1 y hy;omega,(hr y (by simp[hy])).2⟩) (by omega);simp only[Bl];omega
structure Sys2 where
 j:Nat
 A:Nat
 m:Nat
 M:List AV
 sp:List Comp
 q:List Int
structure Sys2.OK(ks:List Kind)(w3 w4:List Int)(c:Nat)(b:Sys2):Prop where
 le:b.j<=c
 e:∃ops:List Op,b.M=ops.map opA/\∀o∈ops,OpOK ks w3 w4 o
 m:b.m=b.M.length
 mj:b.m=b.j
 sp:b.sp=[]\/∃q,b.sp=(E9 ks q).1
structure Sys1 where
 i:Nat
 A1:Nat
 A2:Nat
 A3:Nat
 A4:Nat
 n1:Nat
 n2:Nat
 n3:Nat
 n4:Nat
 M1:List AV
 M2:List AV
 M3:List AV
 M4:List AV
 q:List Int
structure Sys1.OK(ks:List Kind)(b:Sys1):Prop where
 le:b.i<=ks.length
 e:∃w1 w2 w3 w4,b.M1=w1.map iA/\b.M2=w2.map iA/\b.M3=w3.map iA/\b.M4=w4.map iA/\SysL w1 w2 w3 w4 b.i
 n1:b.n1=b.M1.length
 n2:b.n2=b.M2.length
 n3:b.n3=b.M3.length
 n4:b.n4=b.M4.length
 b1:b.n1<=b.i
 b2:b.n2<=b.i
 b3:b.n3<=b.i
 b4:b.n4<=b.i
theorem Uq(h:i<6):[sA [111,110,101],sA [116,119,111],sA [116,104,114,101,101],sA [102,111,117,114],sA [102,105,118,101],sA [115,105,120]][i]?=some (sA (Hw i)):=by
 have:i=0\/i=1\/i=2\/i=3\/i=4\/i=5:=by omega
 rcases this with rfl|rfl|rfl|rfl|rfl|rfl<;>rfl
theorem aZ(x:Int):PS prog 141 [iA x] (bA (decide (x=0))):=by
 refine Sp (nt:=5) (res:=[.tmp 2]) func141 λSf=>?_
 refine JC ?_;refine Ah ?_;rfl
abbrev cL:AO:=.row 132 7 [.agg [.prim (.string ByteArray.empty),.prim (.slice none 0 0),.prim (.slice none 0 0),.prim (.slice none 0 0),.prim (.slice none 0 0),.prim (.slice none 0 0),.prim (.slice none 0 0)]]
theorem Zk(G:Nat)(ks:List Kind)(l:List Int)(n:Nat)(hk:K8 ks)(hf:∀k∈ks,k.fields≠[])(h0:ks≠[])(hn:n<6):Spec prog 69 [BZ false false ks,.ptr G 0 0,iA n] [(G,DM l)] λr S'=>∃b:Sys×List Int,SysOK ks n b.1/\r=FY false b.1/\S'=[(G,DM b.2)]:=by
 refine Sp (nt:=187) (res:=[.cell 6 132]) func69 λSf=>?_
 have hkn:=Uq hn;have hks:=hk.1;have hk1:0<ks.length:=Gf.2 h0;refine RG ?_;refine Bt ?_;refine Bt ?_;refine WO ?_;refine Ai λR=>?_;refine NL ?_
 refine JJ ?_;refine Ai λX=>?_;refine JB ?_
 refine Io 42 2 (Y:=X) (.cons (.agg (.s (.s (.s (.s (.s (.s (.cons (.base .nil) .nil)))))))) .nil) ?_;refine CM (Y:=X) 229 11 (by exact Az) (λF=>.cons (.agg (.s (.s (.s (.s (.s (.cons (.base .nil) .r))))))) .nil) λA5=>?_
 refine CM (Y:=X) 3 1 (by exact Az) (λF=>.cons (.agg (.s (.s (.s (.s (.cons (.base .nil) .r)))))) .nil) λA4=>?_
 refine CM (Y:=X) 3 1 (by exact Az) (λF=>.cons (.agg (.s (.s (.s (.cons (.base .nil) .r))))) .nil) λA3=>?_
 refine CM (Y:=X) 3 1 (by exact Az) (λF=>.cons (.agg (.s (.s (.cons (.base .nil) .r)))) .nil) λA2=>?_
 refine CM (Y:=X) 3 1 (by exact Az) (λF=>.cons (.agg (.s (.cons (.base .nil) .r))) .nil) λA1=>?_
 refine JH ?_;refine Cd (λb:Sys1=>⟨[(3,.fp [BZ false false ks]),(4,.fp [.ptr G 0 0]),(6,.ptr R 0 0),(7,.ptr X 0 0),(19,iA (ks.map (Bd false)).length),(20,iA b.i)],(b.A1,.row 3 1 b.M1)::(b.A2,.row 3 1 b.M2)::(b.A3,.row 3 1 b.M3)::(b.A4,.row 3 1 b.M4)::(A5,.row 229 11 [])::(X,.row 132 7 [.agg [sA (Hw n),.sl b.A1 0 b.n1,.sl b.A2 0 b.n2,.sl b.A3 0 b.n3,.sl b.A4 0 b.n4,.sl A5 0 0,.lst false 42 2 []]])::(R,cL)::(G,DM b.q)::Sf⟩) (Sys1.OK ks) (λb=>ks.length-b.i) ⟨0,A1,A2,A3,A4,0,0,0,0,[],[],[],[],l⟩ ⟨Ap _,⟨[],[],[],[],rfl,rfl,rfl,rfl,SysL.nil _⟩,rfl,rfl,rfl,rfl,AT _,AT _,AT _,AT _⟩ ?_;rintro⟨i,A1,A2,A3,A4,n1,n2,n3,n4,M1,M2,M3,M4,q⟩ ⟨hi,⟨w1,w2,w3,w4,h1,h2,h3,h4,hL⟩,e1,e2,e3,e4,b1,b2,b3,b4⟩;dsimp only at hi h1 h2 h3 h4 hL e1 e2 e3 e4 b1 b2 b3 b4⊢;have hi40:i<=1099511627775\/i=ks.length:=by omega
 refine KK ?_;refine AC rfl (λhc=>?_) (λhc=>?_)
 ·have h:i<ks.length:=by simpa using hc
  have h4':=BY q (n:=4) (by decide);have c1:n1+1<=1099511627776:=by omega
  have c2:n2+1<=1099511627776:=by omega
  have c3:n3+1<=1099511627776:=by omega
  have c4:n4+1<=1099511627776:=by omega
  have ap:∀w:List Int,w.map iA++[iA (i:Int)]=(w++[(i:Int)]).map iA:=λw=>by rw[AK];rfl
  have al:∀(m:Nat) (M:List AV),m=M.length->m+1=(M++[iA (i:Int)]).length:=λm M hm=>by rw[AJ,hm];rfl
  refine KK ?_;refine AOps.o2 (h:=(ES G _ _ (by decide))) (k:=?_);refine KK ?_;refine AC rfl (λhd=>?_) (λhd=>?_)
  ·refine CN λY1=>CN λY3=>?_
   refine RU ?_;(iterate 14 refine RK ?_);refine RGo.nil (by kernel_rfl) ?_;refine KK ?_;refine Bb (⟨i+1,Y3,A2,Y1,A4,n1+1,n2,n3+1,n4,M1++[iA i],M2,M3++[iA i],M4,BS q 4⟩:Sys1) ⟨h,⟨w1++[(i:Int)],w2,w3++[(i:Int)],w4,?_,h2,?_,h4,hL.read (by omega)⟩,al _ _ e1,e2,al _ _ e3,e4,?_,?_,?_,?_⟩ (by dsimp only;omega)
   ·dsimp only;rw[h1,ap]
   ·dsimp only;rw[h3,ap]
   all_goals (dsimp only;omega)
  ·refine KK ?_
   refine AC rfl (λhe=>?_) (λhe=>?_)
   ·refine CN λY1=>CN λY3=>?_
    refine RU ?_;(iterate 14 refine RK ?_);refine RGo.nil (by kernel_rfl) ?_;refine KK ?_;refine Bb (⟨i+1,Y3,A2,A3,Y1,n1+1,n2,n3,n4+1,M1++[iA i],M2,M3,M4++[iA i],BS q 4⟩:Sys1) ⟨h,⟨w1++[(i:Int)],w2,w3,w4++[(i:Int)],?_,h2,h3,?_,hL.write (by omega)⟩,al _ _ e1,e2,e3,al _ _ e4,?_,?_,?_,?_⟩ (by dsimp only;omega)
    ·dsimp only;rw[h1,ap]
    ·dsimp only;rw[h4,ap]
    all_goals (dsimp only;omega)
   ·refine KK ?_
    refine AC rfl (λhg=>?_) (λhg=>?_)
    ·refine KK ?_;refine Ay λY=>?_;refine KK ?_
     refine Bb (⟨i+1,A1,Y,A3,A4,n1,n2+1,n3,n4,M1,M2++[iA i],M3,M4,BS q 4⟩:Sys1) ⟨h,⟨w1,w2++[(i:Int)],w3,w4,h1,?_,h3,h4,hL.without (by omega)⟩,e1,al _ _ e2,e3,e4,?_,?_,?_,?_⟩ (by dsimp only;omega)
     ·dsimp only;rw[h2,ap]
     all_goals (dsimp only;omega)
    ·refine KK ?_
     refine Bb (⟨i+1,A1,A2,A3,A4,n1,n2,n3,n4,M1,M2,M3,M4,BS q 4⟩:Sys1) ⟨h,⟨w1,w2,w3,w4,h1,h2,h3,h4,hL.weaken (by dsimp only;omega)⟩,e1,e2,e3,e4,?_,?_,?_,?_⟩ (by dsimp only;omega)
     all_goals (dsimp only;omega)
 ·have h:i=ks.length:=by rw[AZ,AD]at hc;omega
  subst h;clear hc b1 b3 b4 hi40 hi;have f1:AV.frzs M1=w1.map iA:=by rw[h1];exact Frzs.h
  have f2:AV.frzs M2=w2.map iA:=by rw[h2];exact Frzs.h
  have f3:AV.frzs M3=w3.map iA:=by rw[h3];exact Frzs.h
  have f4:AV.frzs M4=w4.map iA:=by rw[h4];exact Frzs.h
  refine R1 ?_;refine DR (λb:List Int×List Int×List Int×List Int=>SysL b.1 b.2.1 b.2.2.1 b.2.2.2 ks.length/\b.1≠[]) (λb=>⟨[(3,.fp [BZ false false ks]),(4,.fp [.ptr G 0 0]),(6,.ptr R 0 0),(7,.ptr X 0 0)],(A5,.row 229 11 [])::(X,.row 132 7 [.agg [sA (Hw n),Av false b.1,Av false b.2.1,Av false b.2.2.1,Av false b.2.2.2,.sl A5 0 0,.lst false 42 2 []]])::(R,cL)::(G,DM q)::Sf⟩) ?_ ?_
  ·refine AC rfl (λhd=>?_) (λhd=>?_)
   ·have hd:n1=0:=by rw[AS]at hd;omega
    have hw1:w1=[]:=CP (by have:=Dh List.length h1;rw[AD]at this;omega);have hn2:n2=w2.length:=by rw[e2,h2,AD]
    have hw2:w2.length<=1099511627776:=by omega
    have hz:=Qp A2 w2 141 [] (λx=>decide (x=0)) rfl (by omega) (λx _=>aZ x);subst hn2 h2 hw1;refine CN λY2=>?_
    refine JJ ?_;refine Fj hz.used (.ls (Y:=Y2)) ?_;refine KO ?_;have g2:AV.frzs ((w2.filter λx=>!decide (x=0)).map iA)=(w2.filter λx=>!decide (x=0)).map iA:=Frzs.h;refine TN Y2 ((w2.filter λx=>!decide (x=0)).map iA) g2 (.cons (.agg (.s (.s (.cons (.base .sl) .r)))) .nil) ?_;refine TN A3 (w3.map iA) f3 (.cons (.agg (.s (.s (.s (.cons (.base .sl) .r))))) .nil) ?_;refine WK ?_;exact jn ([0],w2.filter λx=>!decide (x=0),w3,[0]) ⟨hL.zero (by omega),by simp⟩
   ·have hd:n1≠0:=by rw[AZ]at hd;omega
    have hw1:w1≠[]:=by rintro rfl;rw[h1]at e1;exact hd e1
    refine Ln A1 (w1.map iA) f1 (.cons (.agg (.s (.cons (.base .sl) .r))) .nil) ?_;refine Ln A2 (w2.map iA) f2 (.cons (.agg (.s (.s (.cons (.base .sl) .r)))) .nil) ?_;refine Ln A3 (w3.map iA) f3 (.cons (.agg (.s (.s (.s (.cons (.base .sl) .r))))) .nil) ?_;refine Ln A4 (w4.map iA) f4 (.cons (.agg (.s (.s (.s (.s (.cons (.base .sl) .r)))))) .nil) ?_;refine WK ?_;exact jn (w1,w2,w3,w4) ⟨hL,hw1⟩
  ·rintro⟨w1,w2,w3,w4⟩ ⟨hL,hne⟩
   dsimp only at hL hne⊢;have hr3:∀x∈w3,0<=x/\x<ks.length:=λx hx=>hL.r1 x (hL.s3 x hx)
   have hr4:∀x∈w4,0<=x/\x<ks.length:=λx hx=>hL.r1 x (hL.s4 x hx)
   have hl3:=W5 hL.o3 hr3 (by omega);have hl4:=W5 hL.o4 hr4 (by omega);have hfl:[w3,w4].flatten=w3++w4:=by simp
   have hcc:=Qr [w3,w4] (by simp) (by rw[hfl,AJ];omega);rw[hfl]at hcc;have hsr:∀x∈w3++w4,0<=x/\x<ks.length:=λx hx=>by rcases AL.1 hx with h|h;exact hr3 x h;exact hr4 x h
   have hsn:w3++w4≠[]:=by
    intro e0;obtain⟨x,hx⟩:=List.exists_mem_of_ne_nil _ hne;rcases hL.all x hx with h|h
    ·have:x∈w3++w4:=by simp[h]
     rw[e0]at this;cases this
    ·have:x∈w3++w4:=by simp[h]
     rw[e0]at this;cases this
   have hap:=λl=>jV G ks (w3++w4) l hk hsn hsr (by rw[AJ];omega)
   have hao:=λl=>d9 ks (w3++w4) l hk hf hsn hsr
   have hw4:0<=Bn q 6/\Bn q 6<6:=BY q (by decide);obtain⟨c,hc⟩:∃c:Nat,Bn q 6=c:=⟨(Bn q 6).toNat,by omega⟩;obtain⟨q0,hq0⟩:=nm (BS q 6);refine JJ ?_;refine BE (h:=(hcc ..)) (k:=?_);refine WO ?_;refine Ai λV=>?_;refine JB ?_
   refine I7 [9] (X:=V) (by exact Az) ?_ (by intro d hd;simp only[DC]at hd;subst hd;rfl);refine R1 ?_;refine JG ?_;refine AOps.o2 (h:=(ES G _ _ (by decide))) (k:=?_);refine JB ?_;rw[hc,hq0];refine FL ?_;refine Cd (λb:Sys2=>⟨[(3,.fp [BZ false false ks]),(4,.fp [.ptr G 0 0]),(6,.ptr R 0 0),(7,.ptr X 0 0),(10,.fn 143 [.fp [.ptr G 0 0],.fp [Av false (w3++w4)],.fp [BZ false false ks]]),(82,iA c),(83,iA b.j)],(b.A,.row 229 11 b.M)::(X,.row 132 7 [.agg [sA (Hw n),Av false w1,Av false w2,Av false w3,Av false w4,.sl b.A 0 b.m,.lst false 42 2 (b.sp.map (Ae false))]])::(R,cL)::(G,DM b.q)::Sf⟩) (Sys2.OK ks w3 w4 c) (λb=>c-b.j) ⟨0,A5,0,[],[],q0⟩ ⟨Ap _,⟨[],rfl,by simp⟩,rfl,rfl,.inl rfl⟩ ?_;rintro⟨j,A,m,M,sp,q⟩ ⟨hj,⟨ops,hM,hO⟩,hm,hmj,hsp⟩;dsimp only at hj hM hm hmj hsp⊢;refine KK ?_;refine AC rfl (λhd=>?_) (λhd=>?_)
   ·have hjc:j<c:=by rw[AS]at hd;omega
    have hd13:=BY q (n:=13) (by decide);obtain⟨d,hdd⟩:=nm (Bn q 13);obtain⟨q1,hq1⟩:=nm (BS q 13);have ha:=hao q1;have hap1:=hap q1;obtain⟨a,haa⟩:=nm ((Jk ks (w3++w4) q1).1);obtain⟨q2,hq2⟩:=nm ((Jk ks (w3++w4) q1).2);rw[haa]at ha hap1;rw[hq2]at hap1;have hn13:=ES G q 13 (by decide);rw[hdd,hq1]at hn13;rw[hdd]at hd13;refine JG ?_;refine AOps.o2 (h:=(hn13 ..)) (k:=?_);refine WO ?_;refine ZF (h:=(hap1 ..)) (k:=?_);refine KO ?_;refine Ai λO=>?_;refine JB ?_
    refine R1 ?_;refine DR (λb:Arg×List Int=>if MK d then TL ks (w3++w4) b.1 else b.1=KN) (λb=>⟨[(3,.fp [BZ false false ks]),(4,.fp [.ptr G 0 0]),(6,.ptr R 0 0),(7,.ptr X 0 0),(10,.fn 143 [.fp [.ptr G 0 0],.fp [Av false (w3++w4)],.fp [BZ false false ks]]),(11,.ptr O 0 0),(82,iA c),(83,iA j)],(O,.row 229 11 [opA ⟨d,⟨0,0⟩,a,b.1⟩])::(A,.row 229 11 M)::(X,.row 132 7 [.agg [sA (Hw n),Av false w1,Av false w2,Av false w3,Av false w4,.sl A 0 m,.lst false 42 2 (sp.map (Ae false))]])::(R,cL)::(G,DM b.2)::Sf⟩) ?_ ?_
    ·refine AC rfl (λhg=>?_) (λhg=>?_)
     ·have htw:MK d=true:=by
       unfold MK;simp only[CE,AH,AS]at hg⊢;omega
      have hap2:=hap q2;have ha2:=hao q2;refine KK ?_;refine ZF (h:=(hap2 ..)) (k:=?_);refine KK ?_;exact jn ((Jk ks (w3++w4) q2).1,(Jk ks (w3++w4) q2).2) (by rw[Ab htw];exact ha2)
     ·have htw:MK d=false:=by
       unfold MK;simp only[DG,HZ,AZ]at hg⊢;omega
      refine WK ?_;exact jn (KN,q2) (by rw[htw];rfl)
    ·rintro⟨b,q3⟩ hb
     dsimp only at hb⊢;refine eh (λb:Op×List Comp×List Int=>OpOK ks w3 w4 b.1/\(b.2.1=[]\/∃q,b.2.1=(E9 ks q).1)) (λb=>⟨[(3,.fp [BZ false false ks]),(4,.fp [.ptr G 0 0]),(6,.ptr R 0 0),(7,.ptr X 0 0),(10,.fn 143 [.fp [.ptr G 0 0],.fp [Av false (w3++w4)],.fp [BZ false false ks]]),(11,.ptr O 0 0),(82,iA c),(83,iA j)],(O,.row 229 11 [opA b.1])::(A,.row 229 11 M)::(X,.row 132 7 [.agg [sA (Hw n),Av false w1,Av false w2,Av false w3,Av false w4,.sl A 0 m,.lst false 42 2 (b.2.1.map (Ae false))]])::(R,cL)::(G,DM b.2.2)::Sf⟩) ?_ ?_
     ·refine KK ?_
      refine AC rfl (λhg=>?_) (λhg=>?_)
      ·have hap3:=hap q3
       have ha3:=hao q3;refine JN ?_;refine ji (h:=(hap3 ..)) (k:=?_);refine JK ?_;refine RGo.nil (by kernel_rfl) ?_;refine WK ?_;exact jn (⟨12,⟨0,0⟩,a,(Jk ks (w3++w4) q3).1⟩,sp,(Jk ks (w3++w4) q3).2) ⟨⟨by dsimp only;omega,by dsimp only;omega,ha,ha3,λh=>by dsimp only at h;omega,λh=>by dsimp only at h;omega,λ_=>rfl⟩,hsp⟩
      ·have hg':¬(d<=7/\w4.length=0):=by
        simp only[HZ,AZ,AD]at hg;omega
       refine KK ?_;refine AC rfl (λhs=>?_) (λhs=>?_)
       ·have hs:d<=7:=by simpa using hs
        have hw0:0<w4.length:=by omega
        have hv:=BY q3 (n:=w4.length) (by omega);obtain⟨i,hi⟩:∃i:Nat,Bn q3 w4.length=i:=⟨(Bn q3 w4.length).toNat,by omega⟩;have hil:i<w4.length:=by omega
        obtain⟨k,hk4⟩:∃k:Nat,w4[i]=k:=⟨w4[i].toNat,by have:=hr4 _ (As hil);omega⟩;have hkl:k<ks.length:=by have:=hr4 _ (As hil);omega
        have hkm:(k:Int)∈w4:=by rw[<-hk4];exact As hil
        have hkf:=(hk.2 _ (As hkl)).1;have hfd:=UB (ks:=ks) (i:=k) rfl hkl;have hfp:0<ks[k].fields.length:=Gf.2 (hf _ (As hkl))
        have hon:PO prog 33 [.ptr G 0 0,iA (w4.map iA).length] G (DM q3) (iA i) (DM (BS q3 w4.length)):=by
         have:=ES G q3 w4.length (by omega);rw[hi]at this;rw[AD];exact this
        have hon2:=ES G (BS q3 w4.length) (ks[k].fields.map fieldA).length (by rw[AD];omega);have hv2:=BY (BS q3 w4.length) (n:=(ks[k].fields.map fieldA).length) (by rw[AD];omega);refine JN ?_;refine RGo.o2 (h:=(hon ..)) (k:=?_);(iterate 3 refine RK ?_);refine RGo.nil (by kernel_rfl) ?_;rw[hk4];refine JN ?_;refine RGo.o2 (h:=(hon2 ..)) (k:=?_);(iterate 3 refine RK ?_);refine RGo.nil (by kernel_rfl) ?_;refine WK ?_;refine jn (⟨d,⟨k,Bn (BS q3 w4.length) (ks[k].fields.map fieldA).length⟩,a,b⟩,sp,_) ⟨⟨by dsimp only;omega,by dsimp only;omega,ha,hb,λ_=>⟨⟨by dsimp only;omega,by dsimp only;omega,hv2.1,by dsimp only;rw[hfd];exact hv2.2⟩,hkm⟩,λh=>by dsimp only at h;omega,λh=>by dsimp only at h;omega⟩,hsp⟩
       ·have hs:¬d<=7:=by simpa using hs
        refine KK ?_;refine AC rfl (λhu=>?_) (λhu=>?_)
        ·have hu:d=8\/d=9:=by simpa using hu
         have hon:=ES G q3 (ks.map (Bd false)).length (by rw[AD];omega);have hv:=BY q3 (n:=(ks.map (Bd false)).length) (by rw[AD];omega);have hv2:=hv.2;rw[AD]at hv2;refine KK ?_;refine AOps.o2 (h:=(hon ..)) (k:=?_);refine KK ?_;refine jn (⟨d,⟨Bn q3 (ks.map (Bd false)).length,0⟩,a,b⟩,sp,_) ⟨⟨by dsimp only;omega,by dsimp only;omega,ha,hb,λh=>by dsimp only at h;omega,λ_=>⟨hv.1,by dsimp only;rw[AD];exact hv2,rfl⟩,λh=>by dsimp only at h;omega⟩,hsp⟩
        ·have hu:¬(d=8\/d=9):=by simpa using hu
         refine KK ?_;refine AC rfl (λhx=>?_) (λhx=>?_)
         ·have hcp:=Vt G ks q3 hk
          refine KK ?_;refine AOps.o2 (h:=(hcp ..)) (k:=?_);refine KK ?_;refine jn (⟨d,⟨0,0⟩,a,b⟩,(E9 ks q3).1,(E9 ks q3).2) ⟨⟨by dsimp only;omega,by dsimp only;omega,ha,hb,λh=>by dsimp only at h;omega,λh=>by dsimp only at h;omega,λ_=>rfl⟩,.inr ⟨q3,rfl⟩⟩
         ·refine KK ?_
          refine jn (⟨d,⟨0,0⟩,a,b⟩,sp,q3) ⟨⟨by dsimp only;omega,by dsimp only;omega,ha,hb,λh=>by dsimp only at h;omega,λh=>by dsimp only at h;omega,λ_=>rfl⟩,hsp⟩
     ·rintro⟨o,sp',q4⟩ ⟨ho,hsp'⟩
      dsimp only at ho hsp'⊢;have hm1:m+1<=1099511627776:=by omega
      (iterate 4 refine WK ?_);refine Dq (opA o) ?_;refine WK ?_;refine Ay λY=>?_;refine KK ?_
      refine Bb (⟨j+1,Y,m+1,M++[opA o],sp',q4⟩:Sys2) ⟨hjc,⟨ops++[o],by dsimp only;rw[hM,AK];rfl,λo' ho'=>?_⟩,by dsimp only;rw[AJ,hm];rfl,by dsimp only;omega,hsp'⟩ (by dsimp only;omega);rcases AL.1 ho' with h|h
      ·exact hO o' h
      ·rw[AY.1 h];exact ho
   ·have hjc:j=c:=by rw[AZ]at hd;omega
    subst hjc;have fM:AV.frzs M=ops.map opA:=by rw[hM];exact Frzs.h
    refine FL ?_;refine Ln A (ops.map opA) fM (.cons (.agg (.s (.s (.s (.s (.s (.cons (.base .sl) .r))))))) .nil) ?_;refine JC ?_;have hlen:ops.length<=5:=by rw[hM,AD]at hm;omega
    exact⟨[FY false ⟨Hw n,w1,w2,w3,w4,ops,sp⟩],[FY false ⟨Hw n,w1,w2,w3,w4,ops,sp⟩],_,[(G,DM q)],.cons (.cell rfl (by exact Az) TAg.h TSize.h rfl rfl) rfl .nil,RN _ _,by exact BL,(⟨Hw n,w1,w2,w3,w4,ops,sp⟩,q),⟨rfl,hL,hne,hlen,hO,hsp⟩,rfl,rfl⟩
def kX:Arg:=⟨true,0,⟨0,0⟩⟩
def olderS:Sys:=⟨[111,108,100,101,114],[0],[],[],[0],[⟨1,⟨0,0⟩,kX,⟨false,1,⟨0,0⟩⟩⟩,⟨12,⟨0,0⟩,⟨false,1,⟨0,0⟩⟩,kX⟩],[]⟩
theorem Vi(l:List Int):0<(GF l).kinds.length/\(GF l).kinds.length<=4:=⟨NY l,(QW l).1⟩
theorem Yw{rd wr:List Int}{a:Arg}(h:TL ks (rd++wr) a):ArgG ks rd wr a:=by
 refine⟨λe=>?_,λe=>?_⟩
 ·obtain⟨h1,h2,h3⟩:=h.1 e
  refine⟨h1,h2,?_⟩;rw[Eq]at h3;rcases h3 with h3|h3
  ·exact .inl (by simpa using h3)
  ·exact .inr (by simpa using h3)
 ·obtain⟨h1,h2,h3⟩:=h.2 e
  exact⟨by omega,by omega,h3⟩
theorem ce{rd wr:List Int}{o:Op}(h:OpOK ks rd wr o):OpG ks rd wr o:=by
 refine⟨h.lo,h.hi,Yw h.a,?_,?_,?_,h.puts,h.none⟩
 ·have hb:=h.b
  split at hb
  ·exact Yw hb
  ·rw[hb]
   exact⟨λe=>(by cases e),λ_=>⟨by decide,by decide,rfl⟩⟩
 ·intro e
  have hb:=h.b;rw[AI (by rw[e];decide)]at hb;exact hb
 ·intro e
  have:o.act<=7:=by unfold LR at e;simp at e;exact e.2
  obtain⟨h1,h2⟩:=h.sets this;exact⟨h1,by simpa using h2⟩
theorem VZ:∀(l:List Int) (a n:Int),l.Pairwise (· < ·)->(∀x∈l,a<=x/\x<n)->a<=n->(l.length:Int)<=n-a
 |[],a,n,_,_,h=>by simp;omega
 |x::l,a,n,hp,hr,h=>by
  obtain⟨h1,h2⟩:=Al.1 hp;obtain⟨h3,h4⟩:=hr x (by simp)
  have:=VZ l (x+1) n h2 (λy hy=>by
   have e1:=h1 y hy;have e2:=(hr y (by simp[hy])).2;omega) (by omega)
  rw[Bl];omega
theorem fS{n:Nat}(hk:Bs ks=0)(hg:KsGood ks)(hn:n<6)(h:SysOK ks n s):SysG ks s:=by
 have h16:=(CQ hk).1;have hl:=h.lists
 have hin:∀l:List Int,l.Pairwise (· < ·)->(∀x∈l,0<=x/\x<(ks.length:Int))->l.length<=16:=λl h1 h2=>by
  have:=VZ l 0 ks.length h1 h2 (by omega);omega
 have r3:∀x∈s.reads,0<=x/\x<(ks.length:Int):=λx hx=>hl.r1 x (hl.s3 x hx)
 have r4:∀x∈s.writes,0<=x/\x<(ks.length:Int):=λx hx=>hl.r1 x (hl.s4 x hx)
 have hsp:(Eb ks s.spawn).2=0/\s.spawn.length<=1099511627776:=by
  rcases h.spawn with e|⟨q,e⟩
  ·rw[e];exact⟨by rw[Nz hk (by rfl)],by simp⟩
  ·rw[e]
   have hh:=MQ hg q;have:=(Gx hk hh).1;exact⟨by rw[Nz hk hh],by omega⟩
 refine⟨?_,by have:=h.len;omega,?_,?_,?_,hsp.1,hsp.2,λo ho=>ce (h.ops o ho)⟩
 ·rw[h.name]
  rcases(show n=0\/n=1\/n=2\/n=3\/n=4\/n=5 by omega)with rfl|rfl|rfl|rfl|rfl|rfl<;>decide
 ·intro l hl'
  simp only[Df,EZ,Mh]at hl';rcases hl' with rfl|rfl|rfl|rfl
  ·exact⟨hl.o1,hl.r1,hin _ hl.o1 hl.r1⟩
  ·exact⟨hl.o2,hl.r2,hin _ hl.o2 hl.r2⟩
  ·exact⟨hl.o3,r3,hin _ hl.o3 r3⟩
  ·exact⟨hl.o4,r4,hin _ hl.o4 r4⟩
 ·rw[CW]
  intro x hx;have:=hl.d x hx;simpa using this
 ·rw[CW]
  intro x hx;rw[Eq]at hx;have:x∈s.wth:=by exact hx.elim (hl.s3 x) (hl.s4 x)
  simpa using this
theorem XB:∀o∈olderS.ops,OpOK baseWd.kinds olderS.reads olderS.writes o:=by
 intro o ho;simp only[olderS,Df,EZ,Mh]at ho;rcases ho with rfl|rfl
 ·refine⟨by decide,by decide,⟨λ_=>⟨rfl,by unfold Nn;decide,by decide⟩,λe=>(by cases e)⟩,?_,λ_=>⟨by unfold Nn;decide,by decide⟩,λe=>?_,λe=>?_⟩
  ·rw[Ab (by decide)]
   exact⟨λe=>(by cases e),λ_=>⟨by decide,by decide,rfl⟩⟩
  ·rcases e with e|e<;>simp at e
  ·simp at e
 ·refine⟨by decide,by decide,⟨λe=>(by cases e),λ_=>⟨by decide,by decide,rfl⟩⟩,?_,λe=>?_,λe=>?_,λe=>rfl⟩
  ·rw[Ab (by decide)]
   exact⟨λ_=>⟨rfl,by unfold Nn;decide,by decide⟩,λe=>(by cases e)⟩
  ·simp at e
  ·rcases e with e|e<;>simp at e
theorem XA:SysG baseWd.kinds olderS:=by
 refine⟨by decide,by decide,by decide,by decide,by decide,by decide,by decide,λo ho=>ce (XB o ho)⟩
theorem gw:WdOK baseWd:=(Ck _).1 (by decide)
def SyssOK(ks:List Kind)(l:List Sys):Prop:=l.length<=5/\∀i (h:i<l.length),SysOK ks i l[i]
theorem We(ks:List Kind)(l:List Int)(hk:K8 ks)(hf:∀k∈ks,k.fields≠[])(h0:ks≠[]):Spec prog 21 [BZ false false ks,Av false l] [] λr S'=>∃b:List Sys,SyssOK ks b/\r=NG true b/\S'=[]:=by
 refine Sp (nt:=25) (res:=[.tmp 4]) func21 λSf=>?_
 have h6:=BY l (n:=6) (by decide);obtain⟨c,hc⟩:∃c:Nat,Bn l 6=c:=⟨(Bn l 6).toNat,by omega⟩;obtain⟨q0,hq0⟩:=nm (BS l 6);refine KK ?_;refine Ai λG=>?_;refine KK ?_;refine AOps.o2 (h:=(ES G _ _ (by decide))) (k:=?_);refine KK ?_
 rw[hc,hq0];refine AWP.adopt (d:=6) 132 7 rfl λK=>?_
 refine UR (λ(i K m:Nat) (M:List AV) (q:List Int)=>⟨[(0,BZ false false ks),(5,.ptr G 0 0),(6,.sl K 0 m),(12,iA c),(13,iA i)],(K,.row 132 7 M)::(G,DM q)::Sf⟩) (λi _ m M _=>i<=c/\m=i/\∃b:List Sys,M=b.map (FY false)/\b.length=i/\∀j (h:j<b.length),SysOK ks j b[j]) (λi _ _ _ _=>c-i) 0 K 0 [] q0 ⟨Ap _,rfl,[],rfl,rfl,λj h=>absurd h (by simp)⟩ ?_;rintro i K m M q ⟨hi,hm,b,hM,hb,hO⟩;refine KK ?_;refine AC rfl (λhd=>?_) (λhd=>?_)
 ·have h:i<c:=by rw[AS]at hd;omega
  have hs:=Zk G ks q i hk hf h0 (by omega);have hm1:m+1<=1099511627776:=by omega
  have hml:m=M.length:=by rw[hM,AD,hb,hm]
  refine R1 ?_;refine LA ?_;refine Ad ?_;refine Ad ?_;refine Ad ?_;refine Ad ?_;refine fD (h:=hs) λs hsO=>?_
  refine Dq (FY false s.1) ?_;refine WK ?_;refine Ay λY=>?_;refine KK ?_
  refine NU (i+1) Y (m+1) (M++[FY false s.1]) s.2 ⟨h,by rw[hm],b++[s.1],by rw[hM,AK];rfl,by rw[AJ,hb];rfl,λj hj=>?_⟩;rw[AJ]at hj;by_cases hjb:j<b.length
  ·rw[List.getElem_append_left hjb];exact hO j hjb
  ·have:j=b.length:=by simp at hj;omega
   subst this;rw[List.getElem_append_right (AT _)];simp only[Co,List.getElem_cons_zero];rw[hb];exact hsO
 ·have h:i=c:=by rw[AZ]at hd;omega
  subst h;refine JC ?_;subst hM;have hml:m=(b.map (FY false)).length:=by rw[AD,hb,hm]
  exact⟨[.sl K 0 m],[NG true b],_,[],.cons (.tmp rfl) rfl .nil,.cons (.cell (.sl (p:=0) .here hml)) .nil,by exact BL,b,⟨by omega,hO⟩,rfl,rfl⟩
theorem O9(l:List Int):(GF l).kinds≠[]/\∀k∈(GF l).kinds,k.fields≠[]:=by
 have hp:=NY l;refine⟨λe=>?_,?_⟩
 ·have e':(By l).1=[]:=e
  rw[e']at hp;simp at hp
 ·show∀k∈(By l).1,k.fields≠[]
  rw[H8];intro k hk
  have:∀i q,∀k∈(kAt i q).1,k.fields≠[]:=by
   intro i q
   induction i with
   |zero=>intro k hk;cases hk
   |succ i ih=>
    intro k hk;rcases AL.1 hk with hk|hk
    ·exact ih k hk
    ·rw[AY.1 hk]
     show(DI 0 (1+Bn (kAt i q).2 3).toNat (BS (kAt i q).2 3)).1≠[]
     have h3:=BY (kAt i q).2 (n:=3) (by decide);rw[Ks];intro e;have:=Dh List.length e;rw[Ym]at this;simp at this;omega
  exact this _ _ k hk
theorem olderT:TickG baseWd [olderS]:=⟨gw,by decide,λs hs=>(AY.1 hs).symm▸XA,by decide⟩
theorem SyssOK.gs{b:List Sys}(hw:WdOK w)(hg:KsGood w.kinds)(h4:w.kinds.length<=4)(h:SyssOK w.kinds b):TickG w b:=
 ⟨hw,by omega,λs hs=>by
  obtain⟨i,hi,rfl⟩:=Bv hs;have:=h.1;exact fS hw.ks hg (by omega) (h.2 i hi),by have:=h.1;omega⟩
theorem Rw(a b:List Kind)(f:FuncId)(cap:List AV)(p:Kind->Kind->Bool)(hs:Dw cap=true)(hl:a.length<=4611686018427387904)(hf:∀x∈a,∀y∈b,PS prog f ((Bd false) x::(Bd false) y::cap) (bA (p x y))):
  PS prog 80 [.lst false 90 2 (a.map (Bd false)),.lst false 90 2 (b.map (Bd false)),.fn f cap] (bA (eqF p a b)):=by
 refine Sp (nt:=32) (res:=[.tmp 6]) func80 λSf=>?_
 refine KK ?_;refine AC rfl (λhb=>?_) (λhb=>?_)
 ·have hb:a.length≠b.length:=by simp at hb;omega
  refine JC ?_;refine Ah ?_;rw[PN hb]
 ·have hb:a.length=b.length:=by simp at hb;omega
  refine KK ?_;refine Cd (λi:Nat=>⟨[(0,.lst false 90 2 (a.map (Bd false))),(1,.lst false 90 2 (b.map (Bd false))),(2,.fn f cap),(15,.lst false 90 2 (a.map (Bd false))),(16,iA (a.map (Bd false)).length),(17,iA i)],Sf⟩) (λi=>i<=a.length/\∀j (h:j<a.length),j<i->p a[j] (b[j]'(by omega))=true) (λi=>a.length-i) 0 ⟨Ap _,λj h hj=>absurd hj (by omega)⟩ ?_;rintro i ⟨hi,he⟩;refine KK ?_;refine AC rfl (λhc=>?_) (λhc=>?_)
  ·have h:i<a.length:=by simpa using hc
   have h':i<b.length:=by omega
   refine KK ?_;refine Ai λX=>?_;refine KK ?_;refine Ai λX=>?_;refine KK ?_;refine Nu (h:=(hf _ (As h) _ (As h'))) (k:=?_);refine KK ?_
   refine AC rfl (λhd=>?_) (λhd=>?_)
   ·have hd:p a[i] b[i]=false:=by simpa using hd
    refine JC ?_;refine Ah ?_;rw[UD hb h hd]
   ·have hd:p a[i] b[i]=true:=by simpa using hd
    refine KK ?_;refine Bb (i+1) ⟨h,λj h1 h2=>?_⟩;by_cases e:j=i
    ·subst e;exact hd
    ·exact he j h1 (by omega)
  ·have h:¬i<a.length:=by simpa using hc
   refine JC ?_;refine Ah ?_;rw[PM hb λj hj=>he j hj (by omega)]
theorem a7(a b:List Field)(hl:a.length<=1099511627776):PS prog 82 [GT false a,GT false b] (bA (decide (a=b))):=by
 refine Sp (nt:=26) (res:=[.tmp 4]) func82 λSf=>?_
 refine KK ?_;refine AC rfl (λhb=>?_) (λhb=>?_)
 ·have hb:a.length≠b.length:=by simp at hb;omega
  refine JC ?_;refine Ah ?_;rw[Au λe=>hb (by rw[e])]
 ·have hb:a.length=b.length:=by simp at hb;omega
  refine KK ?_;refine Cd (λi:Nat=>⟨[(0,GT false a),(1,GT false b),(12,iA (a.map fieldA).length),(13,iA i)],Sf⟩) (λi=>i<=a.length/\∀j (h:j<a.length),j<i->a[j]=b[j]'(by omega)) (λi=>a.length-i) 0 ⟨Ap _,λj h hj=>absurd hj (by omega)⟩ ?_;rintro i ⟨hi,he⟩;refine KK ?_;refine AC rfl (λhc=>?_) (λhc=>?_)
  ·have h:i<a.length:=by simpa using hc
   have h':i<b.length:=by omega
   obtain⟨f,hf⟩:=nm (a[i]);obtain⟨g,hg⟩:=nm (b[i]);have haf:(a.map fieldA)[i]?=some (fieldA f):=by rw[Ac,AX h,hf];rfl
   have hag:(b.map fieldA)[i]?=some (fieldA g):=by rw[Ac,AX h',hg];rfl
   refine KK ?_;refine RU ?_;(iterate 8 refine RK ?_);refine RGo.p (W.neP _ _ (by kernel_rfl) (dg f g) rfl rfl) rfl ?_;refine RGo.nil (by kernel_rfl) ?_;refine WK ?_;refine AC rfl (λhd=>?_) (λhd=>?_)
   ·have hd:f≠g:=by simpa using hd
    refine JC ?_;refine Ah ?_;rw[Au λe=>hd (by subst e;rw[<-hf,<-hg])]
   ·have hd:f=g:=by simpa using hd
    refine KK ?_;refine Bb (i+1) ⟨h,λj h1 h2=>?_⟩;by_cases e:j=i
    ·subst e;rw[hf,hg,hd]
    ·exact he j h1 (by omega)
  ·have h:¬i<a.length:=by simpa using hc
   refine JC ?_;refine Ah ?_;rw[BP (EA hb λj h1 h2=>he j h1 (by omega))]
theorem jE(x y:Kind):(decide (x.name=y.name)&&decide (x.fields=y.fields))=decide (x=y):=by
 obtain⟨k,v⟩:=x;obtain⟨k',v'⟩:=y;rw[HY];simp
theorem jL{P:Program}{t te:TypeId}(h1:P.underlying t=some (.struct (P.fieldsOf t)))(h2:P.stoodInHeld t=false)(h:ev3 P t te=true)(g1:P.underlying te=some (.struct (P.fieldsOf te)))(g2:P.stoodInHeld te=false)(g3:cH P te=true)
  (hp:∀(a b c d:Int) (w:World),(part te #[.int .i64 a,.int .i64 b,.int .i64 c,.int .i64 d] 1).run P w= .ok (.agg #[.int .i64 b,.int .i64 c]) w) (a b c d a' b' c' d':Int) (w:World):
  (Op.equalIn 10000 t (.agg #[.int .i64 a,.int .i64 b,.int .i64 c,.int .i64 d]) (.agg #[.int .i64 a',.int .i64 b',.int .i64 c',.int .i64 d'])).run P w= .ok (decide (a=a')&&(decide (b=b')&&decide (c=c'))&&decide (d=d')) w:=by
 rw[show(10000:Nat)=9999+1 from rfl,Tg w 9999 t _ _ h1 h2];unfold ev3 at h;split at h
 ·rename_i f1 f2 f3 hf
  simp only[AH,bne_iff_ne,ne_eq,R2]at h;obtain⟨⟨⟨⟨⟨⟨⟨n1,n2⟩,n3⟩,o1⟩,o2⟩,o3⟩,o4⟩,hu⟩:=h;have o4:=DN o4;subst o4;split at hu
  ·rename_i k1 k3 u1 u3
   have p1:∀a b c d:Int,(part f1.type #[.int .i64 a,.int .i64 b,.int .i64 c,.int .i64 d] f1.offset).run P w= .ok (.int .i64 a) w:=λa b c d=>GQ u1 (by rw[o1];rfl) w
   have p2:∀a b c d:Int,(part f2.type #[.int .i64 a,.int .i64 b,.int .i64 c,.int .i64 d] f2.offset).run P w= .ok (.agg #[.int .i64 b,.int .i64 c]) w:=λa b c d=>by rw[o2];exact hp a b c d w
   have p3:∀a b c d:Int,(part f3.type #[.int .i64 a,.int .i64 b,.int .i64 c,.int .i64 d] f3.offset).run P w= .ok (.int .i64 d) w:=λa b c d=>GQ u3 (by rw[o3];rfl) w
   have q1:∀a c:Int,(Op.equalIn 9999 f1.type (.int .i64 a) (.int .i64 c)).run P w= .ok (a==c) w:=λa c=>Gb (P:=P) w 9998 f1.type .i64 k1 a c u1
   have q2:∀a b c d:Int,(Op.equalIn 9999 f2.type (.agg #[.int .i64 a,.int .i64 b]) (.agg #[.int .i64 c,.int .i64 d])).run P w= .ok (decide (a=c)&&decide (b=d)) w:=λa b c d=>gj 9997 g1 g2 g3 a b c d w
   have q3:∀a c:Int,(Op.equalIn 9999 f3.type (.int .i64 a) (.int .i64 c)).run P w= .ok (a==c) w:=λa c=>Gb (P:=P) w 9998 f3.type .i64 k3 a c u3
   rw[hf];by_cases e1:a=a'
   ·by_cases e2:b=b'
    ·by_cases e4:c=c'
     ·by_cases e3:d=d'
      ·simp[Op.eqFields,n1,n2,n3,AG,p1,p2,p3,q1,q2,q3,e1,e2,e3,e4,AF,Er,AA]
      ·simp[Op.eqFields,n1,n2,n3,AG,p1,p2,p3,q1,q2,q3,e1,e2,e3,e4,AF,Er,AA]
     ·simp[Op.eqFields,n1,n2,AG,p1,p2,q1,q2,e1,e2,e4,AF,Er,AA]
    ·simp[Op.eqFields,n1,n2,AG,p1,p2,q1,q2,e1,e2,AF,Er,AA]
   ·simp[Op.eqFields,n1,AG,p1,q1,e1,AF,Er,AA]
  ·cases hu
 ·cases h
theorem gg(a b c d:Int)(w:World):(binOp .neq 136 (.agg [Value.int .i64 a,Value.int .i64 b,Value.int .i64 c,Value.int .i64 d].toArray) (.agg [Value.int .i64 a,Value.int .i64 b,Value.int .i64 c,Value.int .i64 d].toArray)).run prog w= .ok (.bool false) w:=by
 have h:=jL (P:=prog) (t:=136) (te:=32) (by kernel_rfl) (by kernel_rfl) (by kernel_rfl) (by kernel_rfl) (by kernel_rfl) (by kernel_rfl) (λa b c d w=>by kernel_rfl) a b c d a b c d w;rw[run_neq_struct];have e:(Op.equalIn 10000 136 (.agg [Value.int .i64 a,Value.int .i64 b,Value.int .i64 c,Value.int .i64 d].toArray) (.agg [Value.int .i64 a,Value.int .i64 b,Value.int .i64 c,Value.int .i64 d].toArray)).run prog w=_:=h;rw[e,AA];simp
theorem Xc(l:List Evt)(hl:l.length<=1099511627776):PS prog 65 [.lst false 136 4 (l.map Fm),.lst false 136 4 (l.map Fm)] (bA true):=by
 refine Sp (nt:=26) (res:=[.tmp 4]) func65 λSf=>?_
 refine KK ?_;refine AB rfl (by simp) ?_;refine KK ?_;refine Cd (λi:Nat=>⟨[(0,.lst false 136 4 (l.map Fm)),(1,.lst false 136 4 (l.map Fm)),(12,iA (l.map Fm).length),(13,iA i)],Sf⟩) (λi=>i<=l.length) (λi=>l.length-i) 0 (Ap _) ?_;rintro i hi;refine KK ?_;refine AC rfl (λhc=>?_) (λhc=>?_)
 ·have h:i<l.length:=by rw[AS,AD]at hc;omega
  obtain⟨⟨es,⟨en,eg⟩,ev⟩,hx⟩:=nm (l[i]);have hat:(l.map Fm)[i]?=some (Fm ⟨es,⟨en,eg⟩,ev⟩):=by rw[Ac,AX h,hx];rfl
  refine KK ?_;refine RU ?_;(iterate 8 refine RK ?_);refine RGo.p (W.neP _ _ (by kernel_rfl) (gg es en eg ev) rfl rfl) rfl ?_;refine RGo.nil (by kernel_rfl) ?_;refine WK ?_;refine AB rfl rfl ?_;refine KK ?_;refine Bb (i+1) h
 ·refine KK ?_
  refine RT ?_;refine Ah ?_;rfl
theorem Z7:PS prog 63 [] (wdA false baseWd):=by
 refine Sp (nt:=14) (res:=[.cell 0 26]) func63 λSf=>?_
 refine KK ?_;refine Ai λX=>?_;refine KK ?_
 refine RT ?_;refine K9 (rs:=[wdA false baseWd]) rfl (.cons (.cell (p:=0) rfl .here TAg.h TSize.h rfl rfl) rfl .nil)
theorem Ws:PS prog 64 [] (FY false olderS):=by
 refine Sp (nt:=13) (res:=[.cell 0 132]) func64 λSf=>?_
 refine JG ?_;refine Ai λR=>?_;refine NL ?_
 refine KK ?_;refine Ai λX=>?_;refine KK ?_
 refine Io 3 1 (Y:=R) (.cons (.agg (.s (.s (.cons (.base .nil) (.cons (.base .nil) .r))))) .nil) ?_;refine Io 42 2 (Y:=R) (.cons (.agg (.s (.s (.s (.s (.s (.s (.cons (.base .nil) .nil)))))))) .nil) ?_;refine RT ?_;exact K9 (rs:=[FY false olderS]) rfl (.cons (.cell rfl (by exact Az) TAg.h TSize.h rfl rfl) rfl .nil)
theorem Wq(x y:Comp)(hl:x.vals.length<=1099511627776):PS prog 79 [Ae false x,Ae false y] (bA (decide (x=y))):=by
 have heq:=OO x.vals y.vals hl;rw[<-jO];refine Sp (nt:=17) (res:=[.tmp 4]) func79 λSf=>?_
 refine RG ?_;refine Bt ?_;refine Bt ?_;refine JB ?_;rcases BI (decide (x.kind=y.kind))with g|g
 ·rw[g]
  refine KK ?_;refine BO (h:=(heq ..)) (k:=?_);refine JC ?_;refine Ah ?_;rfl
 ·rw[g]
  refine JC ?_;refine Ah ?_;rfl
theorem Wp(x y:Kind)(hl:x.fields.length<=1099511627776):PS prog 81 [Bd false x,Bd false y] (bA (decide (x=y))):=by
 have heq:=a7 x.fields y.fields hl;rw[<-jE];refine Sp (nt:=17) (res:=[.tmp 4]) func81 λSf=>?_
 refine RG ?_;refine Bt ?_;refine Bt ?_;refine JB ?_;rcases BI (decide (x.name=y.name))with g|g
 ·rw[g]
  refine KK ?_;refine BO (h:=(heq ..)) (k:=?_);refine JC ?_;refine Ah ?_;rfl
 ·rw[g]
  refine JC ?_;refine Ah ?_;rfl
theorem Wo(x y:Item)(hl:CsL x.comps):PS prog 84 [AQ false x,AQ false y,.fp [.fn 79 []]] (bA (decide (x=y))):=by
 have h:=Rx x.comps y.comps 79 [] (λx y=>decide (x=y)) rfl (by have:=hl.1;omega) (λu hu v _=>Wq u v (hl.2 u hu));rw[UE λ_ _ _ _=>rfl]at h;rw[<-jG];refine Sp (nt:=19) (res:=[.tmp 5]) func84 λSf=>?_
 refine RG ?_;refine Bt ?_;refine Bt ?_;refine JB ?_;have hE:=Xd x.ent.n x.ent.gen y.ent.n y.ent.gen;rw[show(decide (x.ent.n=y.ent.n)&&decide (x.ent.gen=y.ent.gen))=SI x.ent y.ent from rfl]at hE;cases hb:SI x.ent y.ent
 ·rw[hb]at hE
  (iterate 6 refine WK ?_);refine AOps.p (W.eqP _ _ (by kernel_rfl) hE rfl rfl) rfl ?_;refine KK ?_
  refine RT ?_;refine Ah ?_;rfl
 ·rw[hb]at hE
  (iterate 6 refine WK ?_);refine AOps.p (W.eqP _ _ (by kernel_rfl) hE rfl rfl) rfl ?_;refine KK ?_;refine Gt (h:=(h ..)) (k:=?_);refine KK ?_
  refine RT ?_;refine Ah ?_;rfl
theorem Z6(a b:Wd)(hl:WdL a):PS prog 26 [wdA false a,wdA false b] (bA (decide (a=b))):=by
 have h1:=Rw a.kinds b.kinds 81 [] (λx y=>decide (x=y)) rfl (by have:=hl.ks.1;omega) (λx hx y _=>Wp x y (hl.ks.2 x hx));rw[UE λ_ _ _ _=>rfl]at h1;have h2:=OO a.gens b.gens hl.gens;have h3:=Rv a.items b.items 84 [.fp [.fn 79 []]] (λx y=>decide (x=y)) rfl (by have:=hl.items.1;omega) (λx hx y _=>Wo x y (hl.items.2 x hx));rw[UE λ_ _ _ _=>rfl]at h3;rw[<-kc];refine Sp (nt:=28) (res:=[.tmp 4]) func26 λSf=>?_
 refine RG ?_;refine Bt ?_;refine Bt ?_;refine JB ?_;obtain⟨b1,e1⟩:=nm (decide (a.kinds=b.kinds));obtain⟨b2,e2⟩:=nm (decide (a.gens=b.gens));rw[e1]at h1⊢;rw[e2]at h2⊢;refine JI ?_;refine Ai λC=>?_;refine JB ?_
 refine FL ?_;refine I7 [5] (by exact Az) ?_ (λd hd=>by rw[AY.1 hd];rfl);cases b1
 ·refine KK ?_;refine Gt (h:=(h1 ..)) (k:=?_);refine KK ?_
  refine RT ?_;refine Ah ?_;rfl
 ·cases b2
  ·refine KK ?_;refine Gt (h:=(h1 ..)) (k:=?_);refine KK ?_;refine BO (h:=(h2 ..)) (k:=?_);refine KK ?_
   refine RT ?_;refine Ah ?_;rfl
  ·refine KK ?_;refine Gt (h:=(h1 ..)) (k:=?_);refine KK ?_;refine BO (h:=(h2 ..)) (k:=?_);refine KK ?_;refine Gt (h:=(h3 ..)) (k:=?_);refine KK ?_
   refine RT ?_;refine Ah ?_;rfl
theorem fY:(J7 baseWd [olderS] 0 0).2=[⟨0,⟨0,0⟩,10⟩]:=by kernel_rfl
theorem iw:Vg (J7 baseWd [olderS] 0 0).1 ⟨0,0⟩ 0=([10],0):=by kernel_rfl
theorem Wt:PS prog 19 [] (bA true):=by
 have hb:=Z7;have ho:=Ws;have hr:=Pc baseWd [olderS] 0 0 olderT;have hw:=(olderT.tick 0 0).1.ok.wl;have hg:=iw;rw[fY]at hr;obtain⟨v,hv⟩:=nm ((J7 baseWd [olderS] 0 0).1);rw[hv]at hr hw hg;have hgt:=jJ v ⟨0,0⟩ 0 hw;rw[hg]at hgt;have he:=Xc [⟨0,⟨0,0⟩,10⟩] (by decide);have hi:=OO [10] [10] (by decide);rw[BP rfl]at hi;refine Sp (nt:=36) (res:=[.tmp 0]) func19 λSf=>?_
 refine R1 ?_;refine JD ?_;refine UZ (h:=(hb ..)) (k:=?_);refine UZ (h:=(ho ..)) (k:=?_);refine WO ?_;refine ZH (h:=(hr ..)) (k:=?_);refine KO ?_;refine Ai λV=>?_;refine JE ?_
 refine JL ?_;refine BO (h:=(he ..)) (k:=?_);refine JE ?_;refine AB rfl rfl ?_;refine JL ?_;refine Gt (h:=(hgt ..)) (k:=?_);refine JE ?_;refine JL ?_;refine BO (h:=(hi ..)) (k:=?_);refine JE ?_;refine RT ?_;refine Ah ?_;rfl
def jT(x:Bool):UInt8:=if x then 1 else 0
def On(x:Bool):UInt64:=if x then 1 else 0
def NQ(b:List UInt8)(n:Nat)(x:Bool):List UInt8:=
 (if n%8=0 then b++[0]else b).set (n/8) ((if n%8=0 then b++[0]else b).getD (n/8) 0|||jT x<<<UInt8.ofNat (n%8))
def SP(bs:List Bool):List UInt8×Nat:=bs.foldl (λs x=>(NQ s.1 s.2 x,s.2+1)) ([],0)
def Ca(bs:List Bool):List UInt8:=(SP bs).1
theorem aG(bs:List Bool):(SP bs).2=bs.length:=by
 have:∀(bs:List Bool) (s:List UInt8×Nat),(bs.foldl (λs x=>(NQ s.1 s.2 x,s.2+1)) s).2=s.2+bs.length:=by
  intro bs
  induction bs with
  |nil=>intro s;rfl
  |cons x bs ih=>intro s;rw[MC,ih,Bl];dsimp only;omega
 have:=this bs ([],0);simpa[SP]using this
theorem Kh(bs:List Bool)(x:Bool):Ca (bs++[x])=NQ (Ca bs) bs.length x:=by
 unfold Ca SP;rw[Nx];have:=aG bs;unfold SP at this;simp only[MC,List.foldl_nil,this]
theorem aD(b:List UInt8)(n:Nat)(x:Bool):(NQ b n x).length=if n%8=0 then b.length+1 else b.length:=by
 unfold NQ;rw[Ev];split<;>simp
theorem Ut{P:List α->Prop}(h0:P [])(hs:∀l x,P l->P (l++[x]))(l:List α):P l:=by
 have:∀r:List α,P r.reverse:=by
  intro r
  induction r with
  |nil=>exact h0
  |cons x r ih=>rw[List.reverse_cons];exact hs _ _ ih
 have:=this l.reverse;rwa[List.reverse_reverse]at this
theorem G7(bs:List Bool):(Ca bs).length=(bs.length+7)/8:=by
 refine Ut (P:=λbs=>(Ca bs).length=(bs.length+7)/8) rfl (λbs x ih=>?_) bs;rw[Kh,aD,ih,AJ,BM];split<;>omega
def Lh(b:List UInt8)(p:Nat):Bool:=(b.getD (p/8) 0).toNat.testBit (p%8)
theorem cO(x:Bool){k j:Nat}(hk:k<8)(hj:j<8):(jT x<<<UInt8.ofNat k).toNat.testBit j=(x&&decide (j=k)):=by
 have:∀(k j:Fin 8),(jT x<<<UInt8.ofNat k.1).toNat.testBit j.1=(x&&decide (j.1=k.1)):=by cases x<;>decide
 exact this ⟨k,hk⟩ ⟨j,hj⟩
theorem am(b:List UInt8)(q:Nat):(b++[0]).getD q 0=b.getD q 0:=by
 rw[Ct,Ct];by_cases h:q<b.length
 ·rw[Bw h]
 ·rw[BX (by omega),CD (by omega:b.length<=q)]
  cases hq:q-b.length with
  |zero=>rfl
  |succ k=>simp
theorem aE{n:Nat}(hb:b.length=(n+7)/8)(x:Bool)(p:Nat):Lh (NQ b n x) p=(Lh b p||(x&&decide (p=n))):=by
 obtain⟨b1,hb1⟩:=nm ((if n%8=0 then b++[0]else b))
 have hl:n/8<b1.length:=by
  rw[<-hb1];split
  ·rw[AJ,BM,hb];omega
  ·omega
 have hg:∀q,b1.getD q 0=b.getD q 0:=λq=>by
  rw[<-hb1];split
  ·exact am b q
  ·rfl
 unfold NQ Lh;rw[hb1];by_cases h:n/8=p/8
 ·rw[<-h,Ct,BU hl,EY,UInt8.toNat_or,Nat.testBit_or,hg,cO x (Nat.mod_lt _ (by decide)) (Nat.mod_lt _ (by decide))]
  congr 2
  exact decide_eq_decide.2 ⟨λe=>by omega,λe=>by rw[e]⟩
 ·rw[Ct,CX h,<-Ct,hg]
  have:¬p=n:=λe=>h (by rw[e])
  simp[this]
theorem aH(bs:List Bool):∀p,Lh (Ca bs) p=bs.getD p false:=by
 refine Ut (P:=λbs=>∀p,Lh (Ca bs) p=bs.getD p false) (λp=>by simp[Ca,SP,Lh]) (λbs x ih p=>?_) bs;rw[Kh,aE (G7 bs),ih,Ct,Ct];rcases FN p bs.length with h|h|h
 ·rw[Bw h]
  have:¬p=bs.length:=by omega
  simp[this]
 ·subst h
  simp
 ·rw[CD (by omega),CD (by simp;omega)]
  have:¬p=bs.length:=by omega
  simp[this]
def Bo(v:UInt64)(n:Nat):List Bool:=(List.range n).map λi=>v.toNat.testBit i
theorem Bc(v:UInt64)(n:Nat):(Bo v n).length=n:=by simp[Bo]
theorem Xp(v:UInt64)(n:Nat):Bo v (n+1)=Bo v n++[v.toNat.testBit n]:=by simp[Bo,fG]
def La(b:List UInt8)(p:Nat):Nat->UInt64
 |0=>0
 |n+1=>La b p n|||On (Lh b (p+n))<<<UInt64.ofNat n
theorem Zw(x:Bool){k j:Nat}(hk:k<64):(On x<<<UInt64.ofNat k).toNat.testBit j=(x&&decide (j=k)):=by
 have hk':(UInt64.ofNat k).toNat%64=k:=by rw[Ax];omega
 cases x with
 |false=>
  have:(On false<<<UInt64.ofNat k)=0:=by simp[On]
  rw[this];simp
 |true=>
  rw[FZ,hk'];have h1:(On true).toNat=1:=rfl;rw[h1,Gn,Nat.one_mul];have hlt:2^k<2^64:=Nat.pow_lt_pow_right (by decide) hk;rw[II hlt,Nat.testBit_two_pow];simp[eq_comm]
theorem QV(b:List UInt8)(p:Nat):∀(n:Nat),n<=64->∀j,(La b p n).toNat.testBit j=(decide (j<n)&&Lh b (p+j))
 |0,_,j=>by simp[La]
 |n+1,h,j=>by
  rw[La,HV,Nat.testBit_or,QV b p n (by omega) j,Zw _ (by omega)];rcases FN j n with h1|h1|h1
  ·have h2:¬j=n:=by omega
   have h3:j<n+1:=by omega
   simp[h1,h2,h3]
  ·subst h1;simp
  ·have h2:¬j=n:=by omega
   have h3:¬j<n+1:=by omega
   have h4:¬j<n:=by omega
   simp[h2,h3,h4]
theorem dX{bs cs:List Bool}{n:Nat}(hn:n<=64)(hv:v.toNat<2^n):La (Ca (bs++Bo v n++cs)) bs.length n=v:=by
 apply Ds.1;refine Nat.eq_of_testBit_eq λj=>?_
 rw[QV _ _ _ hn,aH];by_cases h:j<n
 ·rw[Ct,Aq,BX (by omega),Nat.add_sub_cancel_left,Bw (by rw[Bc];exact h)]
  simp[Bo,h]
 ·have:v.toNat.testBit j=false:=Nat.testBit_lt_two_pow (E3 hv (FA (by decide) (by omega)))
  rw[this];simp[h]
structure Wr where
 bs:List Bool
 e:Int
def Wr.add(s:Wr)(l:List Bool):Wr:=if s.e≠0 then s else if 524288<s.bs.length+l.length then⟨s.bs,6⟩else⟨s.bs++l,0⟩
def Wr.adds(s:Wr)(ls:List (List Bool)):Wr:=ls.foldl Wr.add s
theorem IB(s:Wr)(a b:List (List Bool)):s.adds (a++b)=(s.adds a).adds b:=Nx
theorem V3{s:Wr}(h:s.e≠0)(ls:List (List Bool)):s.adds ls=s:=by
 induction ls with
 |nil=>rfl
 |cons l ls ih=>
  show(s.add l).adds ls=s
  have:s.add l=s:=by unfold Wr.add;rw[Ab h]
  rw[this];exact ih
theorem Yx(ls:List (List Bool)):∀s:Wr,s.e=0->s.bs.length+ls.flatten.length<=524288->s.adds ls=⟨s.bs++ls.flatten,0⟩:=by
 induction ls with
 |nil=>
  intro s h _;obtain⟨b,e⟩:=s;have h:e=0:=h;subst h;simp[Wr.adds]
 |cons l ls ih=>
  intro s h hl;rw[Af,AJ]at hl
  have e1:s.add l=⟨s.bs++l,0⟩:=by
   unfold Wr.add;rw[AI (by simp[h]),AI (by omega)]
  show(s.add l).adds ls=_
  rw[e1,ih ⟨s.bs++l,0⟩ rfl (by rw[AJ];omega),Af,Aq]
theorem bW(ls:List (List Bool)):∀s:Wr,s.bs.length<=524288->(s.adds ls).e=0->s.e=0/\s.bs.length+ls.flatten.length<=524288:=by
 induction ls with
 |nil=>intro s h he;exact⟨he,by simpa using h⟩
 |cons l ls ih=>
  intro s h he;have he:((s.add l).adds ls).e=0:=he;by_cases h0:s.e=0
  ·by_cases h1:524288<s.bs.length+l.length
   ·have e1:s.add l=⟨s.bs,6⟩:=by
     unfold Wr.add;rw[AI (by simp[h0]),Ab h1]
    rw[e1,V3 (by simp)]at he;cases he
   ·have e1:s.add l=⟨s.bs++l,0⟩:=by
     unfold Wr.add;rw[AI (by simp[h0]),AI h1]
    rw[e1]at he;have:=(ih ⟨s.bs++l,0⟩ (by rw[AJ];omega) he).2;rw[AJ]at this;refine⟨h0,?_⟩;rw[Af,AJ];omega
  ·have e1:s.add l=s:=by unfold Wr.add;rw[Ab h0]
   rw[e1,V3 h0]at he;exact absurd he h0
def DE(v:UInt64):Nat:=(Nat.log2 v.toNat)/4+1
def Cv(v:UInt64):List Bool:=(List.range (DE v)).flatMap λi=>Bo ((v>>>UInt64.ofNat (4*i))&&&15|||(if i+1<DE v then 16 else 0)) 5
def zig(v:Int):UInt64:=UInt64.ofInt v<<<1^^^(if v<0 then 18446744073709551615 else 0)
def E8(c:UInt8):Nat:=if 97<=c then(c-97).toNat else(c-48).toNat+26
def KG(s:List UInt8):List (List Bool):=Bo (UInt64.ofNat s.length) 5::s.map λc=>Bo (UInt64.ofNat (E8 c)) 6
def Fi(f:Field):List (List Bool):=KG f.name++[Bo (UInt64.ofInt (f.bits-1)) 5,Cv (zig f.low)]
def GD(k:Kind):List (List Bool):=KG k.name++Bo (UInt64.ofNat k.fields.length) 4::k.fields.flatMap Fi
def Mn(ks:List Kind):List (List Bool):=Bo (UInt64.ofNat ks.length) 5::ks.flatMap GD
def J6(fs:List Field)(vs:List Int):List (List Bool):=(fs.zip vs).map λq=>Bo (UInt64.ofInt (q.2-q.1.low)) q.1.bits.toNat
def EW:List Kind->Nat->List Comp->List (List Bool)
 |[],_,_=>[]
 |k::ks,i,[]=>Bo 0 1::EW ks (i+1) []
 |k::ks,i,c::l=>if c.kind=i then Bo 1 1::(J6 k.fields c.vals++EW ks (i+1) l)else Bo 0 1::EW ks (i+1) (c::l)
def EC(ks:List Kind):List Int->Nat->List Item->List (List Bool)
 |[],_,_=>[]
 |g::gs,n,[]=>Cv (UInt64.ofInt g)::Bo 0 1::EC ks gs (n+1) []
 |g::gs,n,it::l=>if it.ent.n=n then Cv (UInt64.ofInt g)::Bo 1 1::(EW ks 0 it.comps++EC ks gs (n+1) l)else Cv (UInt64.ofInt g)::Bo 0 1::EC ks gs (n+1) (it::l)
def Fg(w:Wd):List (List Bool):=Bo 1 8::(Mn w.kinds++Bo (UInt64.ofNat w.gens.length) 9::EC w.kinds w.gens 0 w.items)
abbrev wrS(t:TypeId)(sz:Nat)(e:Int)(X H:Nat)(bs:List Bool):List AR:=[(H,.row 5 1 ((Ca bs).map yA)),(X,.row t sz [.agg (.sl H 0 (Ca bs).length::iA bs.length::[iA e])])]
theorem VD{q:Nat}(h:q<b.length):(b.map yA)[q]?=some (yA b[q]):=by rw[Ac,AX h];rfl
theorem cN{n:Nat}(hn:n<64)(hv:v.toNat<2^n):v>>>UInt64.ofNat n=0:=by
 apply Ds.1;rw[DP,Ax,show n%2^64%64=n by omega,DA,Nat.div_eq_of_lt hv];rfl
theorem bN{bs:List Bool}(hi:i<64)(hb:(if bs.length%8=0 then Ca bs++[0]else Ca bs)=b)(hq:bs.length/8<b.length):
  (b.map yA).set (bs.length/8) (yA (b[bs.length/8]|||(v>>>UInt64.ofNat i&&&1).toUInt8<<<UInt8.ofNat (bs.length%8)))=(Ca (bs++[v.toNat.testBit i])).map yA:=by
 rw[Kh,NQ,hb,jS v i hi,Ct,AX hq,EY,BK];rfl
theorem W8(bs:List Bool)(x:Bool):(Ca (bs++[x])).length=(if bs.length%8=0 then Ca bs++[0]else Ca bs).length:=by
 rw[Kh,NQ,Ev]
theorem Ys(t:TypeId)(sz:Nat)(e:Int)(X H:Nat)(bs:List Bool)(v:UInt64)(n:Nat)(hn:n<64)(hv:v.toNat<2^n)(hr:bs.length<=524288):
  Spec prog 149 [.ptr X 0 0,uA v,iA n] (wrS t sz e X H bs) λr S'=>∃K:Nat,r=iA (if 524288<bs.length+n then 6 else 0)/\S'=wrS t sz e X K (if 524288<bs.length+n then bs else bs++Bo v n):=by
 have d1:decide ((n:Int)<0)=false:=Au (by omega);have d2:decide ((64:Int)<(n:Int))=false:=Au (by omega);refine Sp (nt:=82) (res:=[.tmp 6]) func149 λSf=>?_
 have d3:decide ((n:Int)<64)=true:=BP (by omega);have hs:=cN hn hv;refine R1 ?_;refine JD ?_;(iterate 20 refine WO ?_);refine Ad ?_ (Eg n hn rfl rfl rfl);refine JE ?_;refine AB rfl (by rw[hs];rfl) ?_;refine JD ?_;(iterate 5 refine WO ?_);refine Ad ?_ (Cc ((bs.length+n:Nat):Int) (by omega) (by omega) rfl rfl);refine JB ?_;refine AC rfl (λhb=>?_) (λhb=>?_)
 ·have hb:524288<bs.length+n:=by rw[AS]at hb;omega
  refine JC ?_;rw[Ab hb,Ab hb];exact Ends.sp [iA 6] [(H,_),(X,_)] ⟨H,rfl,rfl⟩
 ·have hb:¬524288<bs.length+n:=by rw[AZ]at hb;omega
  rw[AI hb,AI hb];refine JA ?_;refine ET (λ(i:Nat) (K:Nat) (cs:List Bool)=>⟨[(0,.ptr X 0 0),(1,uA v),(2,iA n),(31,iA n),(32,iA i)],(K,.row 5 1 ((Ca cs).map yA))::(X,.row t sz [.agg (.sl K 0 (Ca cs).length::iA cs.length::[iA e])])::Sf⟩) (λi K cs=>i<=n/\cs=bs++Bo v i) (λi _ _=>n-i) 0 H bs ⟨by omega,by simp[Bo]⟩ ?_
  ·rintro i K cs ⟨hi,hcs⟩
   have hcl:cs.length=bs.length+i:=by rw[hcs,AJ,Bc]
   refine JH ?_;refine AC rfl (λhc=>?_) (λhc=>?_)
   ·have hc:i<n:=by rw[AS]at hc;omega
    have hc1:bs++Bo v (i+1)=cs++[v.toNat.testBit i]:=by rw[Xp,<-Aq,hcs]
    refine JA ?_;refine RG ?_;(iterate 4 refine WO ?_);refine Ad ?_ (UM cs.length 8 (cs.length%8) rfl rfl (by omega) rfl rfl rfl);refine JB ?_;obtain⟨b,hbb⟩:=nm ((if cs.length%8=0 then Ca cs++[0]else Ca cs))
    have hq:cs.length/8<b.length:=by
     rw[<-hbb];have:=G7 cs;split
     ·rw[AJ,BM];omega
     ·omega
    have hat:=VD hq;have hpm:(Ca cs).length=((Ca cs).map yA).length:=by rw[AD]
    have hpl:(Ca cs).length<=65537:=by rw[G7];omega
    have hst:=bN (v:=v) (show i<64 by omega) hbb hq;have hsl:(Ca (cs++[v.toNat.testBit i])).length=b.length:=by rw[W8,hbb]
    have hcs1:(cs++[v.toNat.testBit i]).length=cs.length+1:=by simp
    refine FL ?_;refine AC rfl (λhd=>?_) (λhd=>?_)
    ·have hd:cs.length%8=0:=by rw[AS]at hd;omega
     rw[Ab hd]at hbb;have hl1:(Ca cs).length+1=b.length:=by rw[<-hbb];simp
     have hm1:(Ca cs).map yA++[yA 0]=b.map yA:=by rw[<-hbb];simp
     refine JD ?_;(iterate 5 refine WO ?_);refine Dq (yA 0) ?_;refine WO ?_;refine Ay λY=>?_;refine JE ?_
     rw[hm1,show(Ca cs).length+[yA 0].length=b.length from hl1];refine FL ?_;refine RU ?_;(iterate 8 refine RK ?_);refine BT ?_ (Li cs.length 8 (cs.length/8) rfl rfl (by omega) rfl (by omega) rfl rfl);(iterate 4 refine RK ?_);refine BT ?_ (Eg i (by omega) rfl rfl rfl);refine BT ?_ (Ht (b:=1) rfl rfl);refine BT ?_ (Xv .u64 (by kernel_rfl) (by kernel_rfl) rfl);(iterate 4 refine RK ?_);refine BT ?_ (UM cs.length 8 (cs.length%8) rfl rfl (by omega) rfl rfl rfl);refine BT ?_ (eI (cs.length%8) (by omega) rfl rfl rfl);refine BT ?_ (ii rfl rfl);refine JK ?_;refine RGo.nil (by kernel_rfl) ?_;rw[hst];refine RG ?_;(iterate 4 refine WO ?_);refine Ad ?_ (Cc ((cs.length+1:Nat):Int) (by omega) (by omega) rfl rfl);refine JE ?_;refine JF ?_;refine Cs (i+1) Y (cs++[v.toNat.testBit i]) ⟨by omega,hc1.symm⟩ (by omega) ?_;rw[hsl,hcs1];exact⟨by exact FE,by exact BL⟩
    ·have hd:¬cs.length%8=0:=by rw[AZ]at hd;omega
     rw[AI hd]at hbb;subst hbb;refine FL ?_;refine RU ?_;(iterate 8 refine RK ?_);refine BT ?_ (Li cs.length 8 (cs.length/8) rfl rfl (by omega) rfl (by omega) rfl rfl);(iterate 4 refine RK ?_);refine BT ?_ (Eg i (by omega) rfl rfl rfl);refine BT ?_ (Ht (b:=1) rfl rfl);refine BT ?_ (Xv .u64 (by kernel_rfl) (by kernel_rfl) rfl);(iterate 4 refine RK ?_);refine BT ?_ (UM cs.length 8 (cs.length%8) rfl rfl (by omega) rfl rfl rfl);refine BT ?_ (eI (cs.length%8) (by omega) rfl rfl rfl);refine BT ?_ (ii rfl rfl);refine JK ?_;refine RGo.nil (by kernel_rfl) ?_;rw[hst];refine RG ?_;(iterate 4 refine WO ?_);refine Ad ?_ (Cc ((cs.length+1:Nat):Int) (by omega) (by omega) rfl rfl);refine JE ?_;refine JF ?_;refine Cs (i+1) K (cs++[v.toNat.testBit i]) ⟨by omega,hc1.symm⟩ (by omega) ?_;rw[hsl,hcs1];exact⟨by exact FE,by exact BL⟩
   ·have hc:i=n:=by rw[AZ]at hc;omega
    subst hc;rw[<-hcs];refine JC ?_;exact Ends.sp [iA 0] [(K,_),(X,_)] ⟨K,rfl,rfl⟩
theorem T5{n:Nat}(h:n<16):n.log2/4+1=1:=by
 have:∀k:Fin 16,k.1.log2/4+1=1:=by decide
 exact this ⟨n,h⟩
theorem XT{n:Nat}(h:16<=n):n.log2/4+1=(n/16).log2/4+1+1:=by
 have e:∀k:Nat,2<=k->k.log2=(k/2).log2+1:=λk hk=>by rw[Nat.log2_def,Ab hk]
 rw[e n (by omega),e (n/2) (by omega),e (n/2/2) (by omega),e (n/2/2/2) (by omega),show n/2/2/2/2=n/16 by omega];omega
theorem fV(v:UInt64):(v>>>UInt64.ofNat 4).toNat=v.toNat/16:=by
 rw[DP,DA];rfl
def gzU(v:UInt64):Nat:=if v=0 then 0 else DE v
theorem Vd(v:UInt64):DE v=1+gzU (v>>>UInt64.ofNat 4):=by
 unfold gzU DE;rw[fV];by_cases h:v.toNat<16
 ·rw[Ab (Ds.1 (by rw[fV];show v.toNat/16=0;omega)),T5 h]
 ·rw[AI (λe=>by
   have:=Dh UInt64.toNat e;rw[fV]at this;have h0:(0:UInt64).toNat=0:=rfl;omega),XT (by omega)]
  omega
theorem gT(h:0<v.toNat):gzU v=DE v:=by
 unfold gzU;rw[AI];rintro rfl;exact absurd h (by decide)
theorem Iz(v:UInt64):DE v<=16:=by
 unfold DE;have h:v.toNat<2^64:=v.toNat_lt;by_cases h0:v.toNat=0
 ·rw[h0];decide
 ·have:=(Nat.log2_lt h0).2 h
  omega
theorem ak(v:UInt64):PS prog 214 [uA v] (iA (DE v)):=by
 refine Sp (nt:=13) (res:=[.tmp 2]) func214 λSf=>?_
 have hg:=Iz v
 (iterate 12 refine WK ?_);refine Ad ?_ (Eg 4 (by decide) rfl rfl rfl);refine KK ?_
 refine Cq (λ(w:UInt64) (n:Nat)=>⟨[(0,uA w),(3,iA n)],Sf⟩) (λw n=>n+gzU w=DE v) (λw _=>w.toNat) (v>>>UInt64.ofNat 4) 1 (Vd v).symm ?_;intro w n hn;refine KK ?_;refine AC rfl (λhc=>?_) (λhc=>?_)
 ·have hc:0<w.toNat:=by rw[AS]at hc;omega
  have h1:=Vd w;rw[gT hc]at hn
  (iterate 5 refine WK ?_);refine Ad ?_ (Cc ((n+1:Nat):Int) (by omega) (by omega) rfl rfl);(iterate 6 refine WK ?_);refine Ad ?_ (Eg 4 (by decide) rfl rfl rfl);refine KK ?_
  refine CA (w>>>UInt64.ofNat 4) (n+1) (by omega) (by rw[fV];omega)
 ·have hc:w=0:=Ds.1 (by rw[AZ]at hc;show w.toNat=0;omega)
  subst hc;have hz:gzU 0=0:=rfl;rw[hz,EI]at hn;subst hn;refine JC ?_;refine Ah ?_;rfl
def addE(bs l:List Bool):Int:=if 524288<bs.length+l.length then 6 else 0
def Jy(bs l:List Bool):List Bool:=if 524288<bs.length+l.length then bs else bs++l
theorem gz{bs l:List Bool}(h:bs.length<=524288):(Jy bs l).length<=524288:=by
 unfold Jy;split
 ·exact h
 ·rw[AJ];omega
theorem Yt(t:TypeId)(sz:Nat)(e:Int)(X H:Nat)(bs:List Bool)(v:UInt64)(n:Nat)(hn:n<64)(hv:v.toNat<2^n)(hr:bs.length<=524288):
  Spec prog 149 [.ptr X 0 0,uA v,iA n] (wrS t sz e X H bs) λr S'=>∃K:Nat,r=iA (addE bs (Bo v n))/\S'=wrS t sz e X K (Jy bs (Bo v n)):=by
 have:=Ys t sz e X H bs v n hn hv hr;unfold addE Jy;rw[Bc];refine this.mono λr S' h=>h
def T4(v:UInt64)(i:Nat):UInt64:=(v>>>UInt64.ofNat (4*i))&&&15|||(if i+1<DE v then 16 else 0)
theorem gU(v:UInt64)(i:Nat):(T4 v i).toNat<2^5:=by
 unfold T4;rw[HV];refine Nat.or_lt_two_pow ?_ ?_
 ·rw[Gm]
  exact Nat.lt_of_le_of_lt Nat.and_le_right (by decide)
 ·split<;>decide
def Tn(v:UInt64)(n:Nat):List Bool:=(List.range n).flatMap λi=>Bo (T4 v i) 5
theorem SU(v:UInt64)(n:Nat):Tn v (n+1)=Tn v n++Bo (T4 v n) 5:=by simp[Tn,fG]
theorem NS(v:UInt64):∀n,(Tn v n).length=5*n
 |0=>rfl
 |n+1=>by rw[SU,AJ,NS v n,Bc];omega
theorem cp(v:UInt64):Tn v (DE v)=Cv v:=rfl
theorem kD{c:Prop}[Decidable c]:(if c then(16:UInt64)else 0)=if c then 16 else 0:=rfl
theorem Yu(t:TypeId)(sz:Nat)(e:Int)(X H:Nat)(bs:List Bool)(v:UInt64)(hr:bs.length<=524288):
  Spec prog 152 [.ptr X 0 0,uA v] (wrS t sz e X H bs) λr S'=>∃K:Nat,r=iA (addE bs (Cv v))/\S'=wrS t sz e X K (Jy bs (Cv v)):=by
 have h1:=ak v;have hg:=Iz v;have hl:=NS v (DE v);unfold addE Jy;rw[cp]at hl;rw[hl];have hfin:Tn v (DE v)=Cv v:=rfl;obtain⟨g,hgg⟩:=nm (DE v);refine Sp (nt:=36) (res:=[.tmp 4]) func152 λSf=>?_
 rw[hgg]at h1 hg hfin⊢;refine R1 ?_;refine JI ?_;refine BE (h:=(h1 ..)) (k:=?_);refine JB ?_;refine JD ?_;(iterate 5 refine WO ?_);refine Ad ?_ (HP ((5*g:Nat):Int) (by omega) (by omega) rfl rfl);refine Ad ?_ (Cc ((bs.length+5*g:Nat):Int) (by omega) (by omega) rfl rfl);refine JB ?_;refine FL ?_;refine AC rfl (λhb=>?_) (λhb=>?_)
 ·have hb:524288<bs.length+5*g:=by rw[AS]at hb;omega
  refine JC ?_;rw[Ab hb,Ab hb];exact Ends.sp [iA 6] [(H,_),(X,_)] ⟨H,rfl,rfl⟩
 ·have hb:¬524288<bs.length+5*g:=by rw[AZ]at hb;omega
  rw[AI hb,AI hb];refine JA ?_;refine ET (λ(i:Nat) (K:Nat) (cs:List Bool)=>⟨[(0,.ptr X 0 0),(1,uA v),(5,iA g),(18,iA g),(19,iA i)],(K,.row 5 1 ((Ca cs).map yA))::(X,.row t sz [.agg (.sl K 0 (Ca cs).length::iA cs.length::[iA e])])::Sf⟩) (λi K cs=>i<=g/\cs=bs++Tn v i) (λi _ _=>g-i) 0 H bs ⟨by omega,by simp[Tn]⟩ ?_;rintro i K cs ⟨hi,hcs⟩;have hcl:cs.length=bs.length+5*i:=by rw[hcs,AJ,NS]
  refine JH ?_;refine AC rfl (λhc=>?_) (λhc=>?_)
  ·have hc:i<g:=by rw[AS]at hc;omega
   have hp:=Ys t sz e X K cs (T4 v i) 5 (by decide) (gU v i) (by omega);rw[AI (by omega),AI (by omega)]at hp;have hnx:cs++Bo (T4 v i) 5=bs++Tn v (i+1):=by rw[SU,<-Aq,hcs]
   have hlx:(cs++Bo (T4 v i) 5).length=bs.length+5*(i+1):=by rw[hnx,AJ,NS]
   obtain⟨ds,hds⟩:=nm (cs++Bo (T4 v i) 5);rw[hds]at hp hnx hlx;unfold T4 at hp;rw[hgg]at hp;refine JA ?_;refine R1 ?_;refine JI ?_;refine Ad ?_ (Cc ((i+1:Nat):Int) (by omega) (by omega) rfl rfl);refine JE ?_;refine FL ?_;refine AC rfl (λhd=>?_) (λhd=>?_)
   ·have hd:i+1<g:=by rw[AS]at hd;omega
    rw[Ab hd]at hp;refine JA ?_;refine RG ?_;(repeat first|(refine Bm ?_;first|refine Ad ?_ (HP ((4*i:Nat):Int) (by omega) (by omega) rfl rfl)|refine Ad ?_ (Eg (4*i) (by omega) rfl rfl rfl)|refine Ad ?_ (Ht (b:=15) rfl rfl)|refine Ad ?_ (Oq (b:=16) rfl rfl)|refine EQ (h:=hp) λL=>?_)|refine WO ?_|refine Ai λX=>?_|refine Ay λY=>?_);refine NL ?_;refine JD ?_;refine Ad ?_ (Cc ((i+1:Nat):Int) (by omega) (by omega) rfl rfl);refine JB ?_;exact Cs (i+1) L ds ⟨by omega,hnx⟩ (by omega)
   ·have hd:¬i+1<g:=by rw[AZ]at hd;omega
    rw[AI hd]at hp;refine JD ?_;(repeat first|(refine Bm ?_;first|refine Ad ?_ (HP ((4*i:Nat):Int) (by omega) (by omega) rfl rfl)|refine Ad ?_ (Eg (4*i) (by omega) rfl rfl rfl)|refine Ad ?_ (Ht (b:=15) rfl rfl)|refine Ad ?_ (Oq (b:=0) rfl rfl)|refine EQ (h:=hp) λL=>?_)|refine WO ?_|refine Ai λX=>?_|refine Ay λY=>?_);refine NL ?_;refine JD ?_;refine Ad ?_ (Cc ((i+1:Nat):Int) (by omega) (by omega) rfl rfl);refine JB ?_;exact Cs (i+1) L ds ⟨by omega,hnx⟩ (by omega)
  ·have hc:i=g:=by rw[AZ]at hc;omega
   subst hc;rw[hfin]at hcs;rw[<-hcs];refine JC ?_;exact Ends.sp [iA 0] [(K,_),(X,_)] ⟨K,rfl,rfl⟩
theorem fI{v:Int}(h:I64 v):v.fdiv (2^63)=if v<0 then-1 else 0:=by
 have h:=h.1;have h2:=(‹I64 v›).2;rw[Ef _ (by decide)];split<;>omega
theorem gv(t:TypeId)(sz:Nat)(e:Int)(X H:Nat)(bs:List Bool)(v:Int)(hv:I64 v)(hr:bs.length<=524288):
  Spec prog 151 [.ptr X 0 0,iA v] (wrS t sz e X H bs) λr S'=>∃K:Nat,r=iA (addE bs (Cv (zig v)))/\S'=wrS t sz e X K (Jy bs (Cv (zig v))):=by
 have h1:=Yu t sz e X H bs (zig v) hr
 have hz:UInt64.ofInt v<<<UInt64.ofNat 1^^^UInt64.ofInt (if v<0 then-1 else 0)=zig v:=by
  unfold zig;split<;>rfl
 obtain⟨er,her⟩:=nm (addE bs (Cv (zig v)));obtain⟨cs,hcs⟩:=nm (Jy bs (Cv (zig v)));rw[her,hcs,<-hz]at h1;rw[her,hcs];refine Sp (nt:=14) (res:=[.tmp 4]) func151 λSf=>?_
 refine R1 ?_;refine JD ?_;(repeat first|(refine Bm ?_;first|refine Ad ?_ (TB .i64 (by kernel_rfl) (by kernel_rfl) rfl)|refine Ad ?_ (I5 1 (by decide) rfl rfl rfl)|refine Ad ?_ (jb 63 _ (fI hv) rfl (by decide) rfl rfl)|refine Ad ?_ (Kz rfl rfl)|refine KY (h:=h1) λL=>?_)|refine WO ?_|refine Ai λX=>?_|refine Ay λY=>?_);refine NL ?_;refine RT ?_;exact Ends.sp [iA er] [(L,_),(X,_)] ⟨L,rfl,rfl⟩
abbrev wsS(X H:Nat)(s:Wr):List AR:=wrS 171 3 s.e X H s.bs
theorem J4{s:Wr}(h:s.e=0)(l:List Bool):s.add l=⟨Jy s.bs l,addE s.bs l⟩:=by
 unfold Wr.add Jy addE;rw[AI (by simp[h])];split<;>rfl
theorem J5{s:Wr}(h:s.e≠0)(l:List Bool):s.add l=s:=by
 unfold Wr.add;rw[Ab h]
theorem ER{s:Wr}(h:s.bs.length<=524288)(l:List Bool):(s.add l).bs.length<=524288:=by
 by_cases h0:s.e=0
 ·rw[J4 h0];exact gz h
 ·rw[J5 h0];exact h
theorem Gk(X H:Nat)(s:Wr)(v:UInt64)(n:Nat)(hn:n<64)(hv:v.toNat<2^n)(hr:s.bs.length<=524288):
  Spec prog 87 [.ptr X 0 0,uA v,iA n] (wsS X H s) λr S'=>∃K:Nat,r= .tup []/\S'=wsS X K (s.add (Bo v n)):=by
 obtain⟨bs,e⟩:=s;have h1:=Yt 171 3 e X H bs v n hn hv hr;refine Sp (nt:=20) (res:=[]) func87 λSf=>?_
 refine JH ?_;refine AC rfl (λhb=>?_) (λhb=>?_)
 ·have hb:e=0:=by simpa using hb
  rw[J4 hb];obtain⟨er,her⟩:=nm (addE bs (Bo v n));obtain⟨cs,hcs⟩:=nm (Jy bs (Bo v n));rw[her,hcs]at h1;dsimp only;rw[her,hcs];refine JD ?_;(iterate 6 refine WO ?_);refine EQ (h:=h1) λL=>?_;refine JE ?_
  refine Eo ?_;exact CH [(L,_),(X,_)] ⟨L,rfl,rfl⟩
 ·have hb:e≠0:=by simpa using hb
  rw[J5 hb];refine WK ?_;refine Eo ?_;exact CH [(H,_),(X,_)] ⟨H,rfl,rfl⟩
theorem cj{v:Int}(h0:0<=v)(h1:v<18446744073709551616):(UInt64.ofInt v).toNat=v.toNat:=by
 unfold UInt64.ofInt;rw[Ax];omega
def MY(i:Nat)(w:UInt64):List UInt8->UInt64
 |[]=>w
 |c::l=>MY (i+1) (w|||c.toUInt64<<<UInt64.ofNat (8*i)) l
def L7:Nat->UInt64->List UInt8->UInt64
 |0,d,_=>d
 |f+1,d,b=>if b=[]then d else L7 f (NV d (MY 0 0 (b.take 8))) (b.drop 8)
def Q0(b:List UInt8):UInt64:=L7 b.length (NV 11170449401992604703 (UInt64.ofNat b.length)) b
def le8(d:UInt64):List UInt8:=(List.range 8).map λi=>(d>>>UInt64.ofNat (8*i)).toUInt8
theorem Yb(d:UInt64):(le8 d).length=8:=by simp[le8]
def Jb(b:List UInt8):List UInt8:=b++le8 (Q0 b)
theorem WS(S:List AR):∀b:List UInt8,Lds S (b.map yA) (b.map yA)
 |[]=>.nil
 |x::l=>.cons (show Ld S (yA x) (yA x)from .frz (a:=yA x)) (WS S l)
abbrev ysA(b:List UInt8):AV:=.lst false 5 1 (b.map yA)
theorem ZS(b:List α):b.take (min b.length 8)=b.take 8:=by
 by_cases h:b.length<=8
 ·rw[B6 h,Bg,Aj h]
 ·rw[Nat.min_eq_right (by omega)]
theorem a8(b:List α):b.drop (min b.length 8)=b.drop 8:=by
 by_cases h:b.length<=8
 ·rw[B6 h,CY,Cf h]
 ·rw[Nat.min_eq_right (by omega)]
theorem Ur(b:List UInt8)(hb:b.length<=1099511627776):PS prog 154 [ysA b] (uA (Q0 b)):=by
 have hbm:(b.map yA).length=b.length:=AD _;have h1:=PK 11170449401992604703 (UInt64.ofNat b.length);obtain⟨d0,hd0⟩:=nm (NV 11170449401992604703 (UInt64.ofNat b.length));unfold Q0;rw[hd0]at h1⊢;obtain⟨D,hD⟩:=nm (L7 b.length d0 b);rw[hD];refine Sp (nt:=42) (res:=[.tmp 2]) func154 λSf=>?_
 refine R1 ?_;refine JI ?_;refine WO ?_;refine Ad ?_ (Ge .i64 b.length (by rw[hbm]) (by omega) (by kernel_rfl) (by kernel_rfl) rfl);refine BO (h:=(h1 ..)) (k:=?_);refine JB ?_;refine FL ?_;refine Cq (λ(d:UInt64) (c:List UInt8)=>⟨[(0,ysA c),(3,uA d)],Sf⟩) (λd c=>c.length<=1099511627776/\∃f,c.length<=f/\L7 f d c=D) (λ_ c=>c.length) d0 b ⟨hb,b.length,AT _,hD⟩ ?_;rintro d c ⟨hcl,f,hf,hc⟩;have hcm:(c.map yA).length=c.length:=AD _;refine JH ?_;refine AC rfl (λhb=>?_) (λhb=>?_)
 ·have hb:0<c.length:=by rw[AS,hcm]at hb;omega
  obtain⟨f,rfl⟩:∃g,f=g+1:=⟨f-1,by omega⟩;have hne:c≠[]:=λe=>by rw[e]at hb;cases hb
  rw[L7,AI hne]at hc;have hmn:(if 8<((c.map yA).length:Int)then 8 else((c.map yA).length:Int))=((min c.length 8:Nat):Int):=by rw[hcm];split<;>omega
  have hml:min c.length 8<=(c.map yA).length:=by rw[hcm];exact Nat.min_le_left _ _
  have htk:(c.map yA).take (min c.length 8)=(c.take 8).map yA:=by rw[<-D9,ZS]
  have hdp:(c.map yA).drop (min c.length 8)=(c.drop 8).map yA:=by rw[<-List.map_drop,a8]
  refine JA ?_;refine RG ?_;(iterate 4 refine WO ?_);refine Ad ?_ (W.hiL rfl rfl hmn hml);refine JE ?_;rw[htk];refine FL ?_;obtain⟨m,hm⟩:=nm (c.take 8);have hm8:m.length<=8:=by rw[<-hm,Ba];exact Nat.min_le_left _ _
  rw[hm]at hc;have hjn:=PK d (MY 0 0 m);obtain⟨d1,hd1⟩:=nm (NV d (MY 0 0 m));rw[hd1]at hjn hc;obtain⟨W0,hW⟩:=nm (MY 0 0 m);rw[hW]at hjn;rw[hm];have hmm:(m.map yA).length=m.length:=AD _;refine Cq (λ(j:Nat) (w:UInt64)=>⟨[(0,ysA c),(3,uA d),(4,uA w),(18,ysA m),(19,iA (m.map yA).length),(20,iA j)],Sf⟩) (λj w=>j<=m.length/\MY j w (m.drop j)=W0) (λj _=>m.length-j) 0 0 ⟨by omega,hW⟩ ?_;rintro j w ⟨hj,hw⟩;refine JH ?_;refine AC rfl (λhe=>?_) (λhe=>?_)
  ·have he:j<m.length:=by rw[AS,hmm]at he;omega
   have hjl:j<(m.map yA).length:=by omega
   have hat:(m.map yA)[j]?=some (yA m[j]):=by rw[Ac,AX he];rfl
   rw[Dp he,MY]at hw;obtain⟨y,hy⟩:=nm (m[j]);rw[hy]at hat hw;refine JA ?_;refine RG ?_;(repeat first|(refine Bm ?_;first|refine Ad ?_ (eG .u8 (by kernel_rfl) (by kernel_rfl) rfl)|refine Ad ?_ (HP ((8*j:Nat):Int) (by omega) (by omega) rfl rfl)|refine Ad ?_ (I5 (8*j) (by omega) rfl rfl rfl)|refine Ad ?_ (Oq rfl rfl))|refine WO ?_|refine Ai λX=>?_|refine Ay λY=>?_);refine NL ?_;refine JF ?_;exact CA (j+1) (w|||y.toUInt64<<<UInt64.ofNat (8*j)) ⟨by omega,hw⟩ (by omega)
  ·have he:j=m.length:=by rw[AZ,hmm]at he;omega
   rw[he,CY]at hw;have hw:w=W0:=hw;subst hw;refine KK ?_;refine JN ?_;refine I6 (h:=(hjn ..)) (k:=?_);(iterate 4 refine RK ?_);refine BT ?_ (W.loL rfl rfl hmn hml);refine JK ?_;refine RGo.nil (by kernel_rfl) ?_;rw[hdp];exact CA d1 (c.drop 8) ⟨by rw[Cx];omega,f,by rw[Cx];omega,hc⟩ (by rw[Cx];omega)
 ·have hb:c=[]:=CP (by rw[AZ,hcm]at hb;omega)
  subst hb
  have hc:d=D:=by
   cases f with
   |zero=>exact hc
   |succ f=>rw[L7,Ab rfl]at hc;exact hc
  subst hc;refine JC ?_;refine Ah ?_;rfl
theorem S4(a b:List UInt8):PS prog 92 [ysA a,ysA b] (bA (decide (a=b))):=by
 refine Sp (nt:=10) (res:=[.tmp 4]) func92 λSf=>?_
 refine R1 ?_;refine JI ?_;refine Ad ?_ (W.bytesStrA (te:=5) a (by kernel_rfl) (by kernel_rfl) (by kernel_rfl) rfl);refine WO ?_;refine Ad ?_ (W.bytesStrA (te:=5) b (by kernel_rfl) (by kernel_rfl) (by kernel_rfl) rfl);refine JE ?_;refine RT ?_;refine Ah ?_;rfl
theorem YN(X:Nat)(b:List UInt8)(n:Nat)(hn:n=b.length)(hb:b.length<=65536):Spec prog 91 [.sl X 0 n] [(X,.row 5 1 (b.map yA))] λr S'=>∃K:Nat,r=ysA (Jb b)/\S'=[(K,.used)]:=by
 subst hn;have hbm:(b.map yA).length=b.length:=AD _
 have h1:Spec prog 154 [.sl X 0 b.length] [(X,.row 5 1 (b.map yA))] λr S'=>r=uA (Q0 b)/\S'=[(X,.row 5 1 (b.map yA))]:=by
  refine PS.lend (Ur b (by omega)) rfl (.cons (.sl .here (by simp) ?_) .nil);rw[B7,Aj (by simp)];exact WS _ b
 obtain⟨d,hd⟩:=nm (Q0 b);have hde:=hd;rw[hd]at h1;refine Sp (nt:=20) (res:=[.tmp 2]) func91 λSf=>?_
 refine R1 ?_;refine JI ?_;refine HS h1 .fz ?_;refine JB ?_;refine JA ?_;refine ET (λ(i K:Nat) (c:List UInt8)=>⟨[(0,.sl K 0 c.length),(3,uA d),(7,iA i)],(K,.row 5 1 (c.map yA))::Sf⟩) (λi K c=>i<=8/\c=b++(List.range i).map λj=>(d>>>UInt64.ofNat (8*j)).toUInt8) (λi _ _=>8-i) 0 X b ⟨by omega,by simp⟩ ?_;rintro i K c ⟨hi,hc⟩;have hcl:c.length=b.length+i:=by rw[hc];simp
 have hpm:c.length=(c.map yA).length:=by rw[AD]
 refine JH ?_;refine AC rfl (λhd=>?_) (λhd=>?_)
 ·have hd:i<8:=by rw[AS]at hd;omega
  have hnx:c++[(d>>>UInt64.ofNat (8*i)).toUInt8]=b++(List.range (i+1)).map λj=>(d>>>UInt64.ofNat (8*j)).toUInt8:=by
   rw[hc,fG,AK,Aq];rfl
  obtain⟨y,hy⟩:=nm ((d>>>UInt64.ofNat (8*i)).toUInt8);have hma:c.map yA++[yA y]=(c++[y]).map yA:=by simp
  have hml:c.length+[yA y].length=(c++[y]).length:=by simp
  refine JA ?_;refine RG ?_;(repeat first|(refine Bm ?_;first|refine Ad ?_ (HP ((8*i:Nat):Int) (by omega) (by omega) rfl rfl)|refine Ad ?_ (Eg (8*i) (by omega) rfl rfl rfl)|refine Ad ?_ (Xv .u64 (by kernel_rfl) (by kernel_rfl) rfl))|refine WO ?_|refine Ai λX=>?_|refine Ay λY=>?_);rw[hy]
  skip
  refine AOps.nil ?_;rw[hma,hml];refine JF ?_;rw[hy]at hnx;exact Cs (i+1) Y (c++[y]) ⟨by omega,hnx⟩ (by omega)
 ·have hd:i=8:=by rw[AZ]at hd;omega
  subst hd;have hcs:c=Jb b:=by rw[hc];unfold Jb le8;rw[hde]
  refine JL ?_;refine ew (d:=2) rfl .here hpm ?_;refine AOps.nil ?_;rw[Hm yA (λ_=>rfl) c];refine RT ?_;refine Ends.sp [ysA c] [(K,.used)] ⟨K,?_,rfl⟩;rw[<-hcs];rfl
theorem ZN(b:List UInt8)(n e:Int)(hb:b.length<=65537):PS prog 90 [.fp [ysA b,iA n,iA e]] (.lst true 5 1 (b.map yA)):=by
 have hbm:(b.map yA).length=b.length:=AD _;refine Sp (nt:=8) (res:=[.tmp 2]) func90 λSf=>?_
 refine JH ?_;refine CN λY=>?_
 refine RG ?_;(iterate 4 refine WO ?_);refine DO (Q6 (by rw[hbm];omega) (by rw[hbm];unfold maxLen;omega) rfl rfl (by exact Az)) rfl ?_;refine JB ?_;refine RT ?_;exact⟨[.sl Y 0 (b.map yA).length],[.lst true 5 1 (b.map yA)],_,[],.cons (.tmp rfl) rfl .nil,.cons (.cell (.sl (p:=0) .here (by simp))) .nil,by exact BL,rfl,rfl⟩
theorem ZM(t:TypeId)(sz:Nat)(e:Int)(X H:Nat)(bs:List Bool)(hr:bs.length<=524288):
  Spec prog 90 [.ptr X 0 0] (wrS t sz e X H bs) λr S'=>r= .lst true 5 1 ((Ca bs).map yA)/\S'=wrS t sz e X H bs:=by
 refine PS.lend (ZN (Ca bs) bs.length e (by rw[G7];omega)) (by show(_&&_)=true;rw[Kj (λ_=>rfl)];rfl) (.cons (.ptr (b:=.agg [ysA (Ca bs),iA bs.length,iA e]) (.next .here) (.agg (.cons (.sl .here (by simp) ?_) (.cons (.frz (a:=iA bs.length)) (.cons (.frz (a:=iA e)) .nil)))) rfl) .nil);rw[B7,Aj (by simp)];exact WS _ _
structure RdS where
 p:Nat
 bad:Bool
def H7(b:List UInt8)(n p:Nat):UInt64×Int×Nat:=if 8*b.length<p+n then(0,14,p)else(La b p n,0,p+n)
def NR(b:List UInt8)(p0:Nat):Nat->Nat->UInt64->Nat->UInt64×Int×Nat
 |0,_,_,_=>(0,3,p0)
 |f+1,i,v,p=>if 8*b.length<p+5 then(0,14,p0)else if i=16\/La b p 5=0/\0<i then(0,3,p0)else
  if La b p 5<16 then(v|||(La b p 5&&&15)<<<UInt64.ofNat (4*i),0,p+5)else NR b p0 f (i+1) (v|||(La b p 5&&&15)<<<UInt64.ofNat (4*i)) (p+5)
def Gw(b:List UInt8)(p:Nat):UInt64×Int×Nat:=NR b p 17 0 0 p
def YI(v:UInt64):Int:=((v>>>1^^^(0-(v&&&1))).toBitVec.toInt)
def O8(b:List UInt8)(p:Nat):Int×Int×Nat:=if(Gw b p).2.1≠0 then(0,(Gw b p).2.1,(Gw b p).2.2)else(YI (Gw b p).1,0,(Gw b p).2.2)
def RdS.get(b:List UInt8)(s:RdS)(n:Nat):Nat×RdS:=((H7 b n s.p).1.toNat,⟨(H7 b n s.p).2.2,s.bad||decide ((H7 b n s.p).2.1≠0)⟩)
def L0(n:Nat):UInt8:=if n<26 then UInt8.ofNat (97+n)else UInt8.ofNat (48+(n-26))
def Iu(b:List UInt8):Nat->RdS->List UInt8->List UInt8×RdS
 |0,s,o=>(o,s)
 |n+1,s,o=>if(s.get b 6).1<36 then Iu b n (s.get b 6).2 (o++[L0 (s.get b 6).1])else Iu b n ⟨(s.get b 6).2.p,true⟩ o
def HI(b:List UInt8)(s:RdS):List UInt8×RdS:=Iu b (s.get b 5).1 (s.get b 5).2 []
def OM(b:List UInt8)(s:RdS):Field×RdS:=
 (⟨(HI b s).1,((HI b s).2.get b 5).1+1,(O8 b ((HI b s).2.get b 5).2.p).1⟩,⟨(O8 b ((HI b s).2.get b 5).2.p).2.2,((HI b s).2.get b 5).2.bad||decide ((O8 b ((HI b s).2.get b 5).2.p).2.1≠0)⟩)
def Gj(b:List UInt8):Nat->RdS->List Field->List Field×RdS
 |0,s,o=>(o,s)
 |n+1,s,o=>Gj b n (OM b s).2 (o++[(OM b s).1])
def Sa(b:List UInt8)(s:RdS):Kind×RdS:=
 (⟨(HI b s).1,(Gj b ((HI b s).2.get b 4).1 ((HI b s).2.get b 4).2 []).1⟩,(Gj b ((HI b s).2.get b 4).1 ((HI b s).2.get b 4).2 []).2)
def IU(b:List UInt8):Nat->RdS->List Kind->List Kind×RdS
 |0,s,o=>(o,s)
 |n+1,s,o=>IU b n (Sa b s).2 (o++[(Sa b s).1])
def Jq(b:List UInt8):List Field->RdS->List Int->List Int×RdS
 |[],s,o=>(o,s)
 |f::fs,s,o=>Jq b fs ⟨(H7 b f.bits.toNat s.p).2.2,s.bad||decide ((H7 b f.bits.toNat s.p).2.1≠0)⟩ (o++[if(H7 b f.bits.toNat s.p).2.1≠0 then 0 else f.low+((H7 b f.bits.toNat s.p).1.toNat:Int)])
def EE(b:List UInt8):List Kind->Nat->RdS->List Comp->List Comp×RdS
 |[],_,s,o=>(o,s)
 |k::ks,i,s,o=>if(s.get b 1).1=0 then EE b ks (i+1) (s.get b 1).2 o else EE b ks (i+1) (Jq b k.fields (s.get b 1).2 []).2 (o++[⟨i,(Jq b k.fields (s.get b 1).2 []).1⟩])
def Tm(b:List UInt8)(s:RdS):Bool:=s.bad||decide ((Gw b s.p).2.1≠0)||decide (1073741824<(Gw b s.p).1.toNat)
def FK(b:List UInt8)(ks:List Kind):Nat->Nat->RdS->List Int->List Item->List Int×List Item×RdS
 |0,_,s,gs,its=>(gs,its,s)
 |c+1,n,s,gs,its=>if Tm b s=true then(gs,its,⟨(Gw b s.p).2.2,true⟩)else
  if(RdS.get b ⟨(Gw b s.p).2.2,false⟩ 1).1=1 then
   FK b ks c (n+1) (EE b ks 0 (RdS.get b ⟨(Gw b s.p).2.2,false⟩ 1).2 []).2 (gs++[((Gw b s.p).1.toNat:Int)]) (its++[⟨⟨n,((Gw b s.p).1.toNat:Int)⟩,(EE b ks 0 (RdS.get b ⟨(Gw b s.p).2.2,false⟩ 1).2 []).1⟩])
  else FK b ks c (n+1) (RdS.get b ⟨(Gw b s.p).2.2,false⟩ 1).2 (gs++[((Gw b s.p).1.toNat:Int)]) its
abbrev brO(b:List UInt8)(p:Nat):AO:=.row 259 2 [.agg [ysA b,iA p]]
theorem dz(R:Nat)(b:List UInt8)(p:Nat)(hb:b.length<=65536)(hp:p<=8*b.length):Spec prog 217 [.ptr R 0 0] [(R,brO b p)] λr S'=>r=iA ((8*b.length-p:Nat):Int)/\S'=[(R,brO b p)]:=by
 have hbm:(b.map yA).length=b.length:=AD _;refine Sp (nt:=14) (res:=[.tmp 2]) func217 λSf=>?_
 refine JH ?_;refine RU ?_;(iterate 5 refine RK ?_);refine BT ?_ (HP ((8*b.length:Nat):Int) (by rw[hbm];omega) (by omega) rfl rfl);(iterate 4 refine RK ?_);refine BT ?_ (CB ((8*b.length-p:Nat):Int) (by omega) (by omega) rfl rfl);refine RK ?_;refine RGo.nil (by kernel_rfl) ?_;refine RT ?_;exact Ends.sp [iA ((8*b.length-p:Nat):Int)] [(R,_)] ⟨rfl,rfl⟩
theorem jR(b:List UInt8)(q i:Nat)(h:q/8<b.length):((b[q/8]>>>UInt8.ofNat (q%8))&&&1).toUInt64=On (Lh b q):=by
 rw[gr _ _ (Nat.mod_lt _ (by decide))];unfold On Lh;rw[Ct,AX h,EY]
theorem UL(R:Nat)(b:List UInt8)(p n:Nat)(hb:b.length<=65536)(hp:p<=8*b.length)(hn:n<=64):Spec prog 155 [.ptr R 0 0,iA n] [(R,brO b p)] λr S'=>r= .tup [uA (H7 b n p).1,iA (H7 b n p).2.1]/\S'=[(R,brO b (H7 b n p).2.2)]:=by
 have d1:decide ((n:Int)<0)=false:=Au (by omega);have d2:decide ((64:Int)<(n:Int))=false:=Au (by omega);have hl:=dz R b p hb hp;refine Sp (nt:=54) (res:=[.tmp 4,.tmp 5]) func155 λSf=>?_
 unfold H7;refine R1 ?_;refine JA ?_;refine AB rfl d2 ?_;refine JL ?_;refine HS hl .fz ?_;refine JB ?_;refine FL ?_;refine AC rfl (λhc=>?_) (λhc=>?_)
 ·have hc:8*b.length<p+n:=by rw[AS]at hc;omega
  rw[Ab hc];refine JC ?_;exact Ends.sp [uA 0,iA 14] [(R,_)] ⟨rfl,rfl⟩
 ·have hc:¬8*b.length<p+n:=by rw[AZ]at hc;omega
  rw[AI hc];dsimp only;refine JA ?_;refine JH ?_;refine Cd (λ(i:Nat)=>⟨[(0,.ptr R 0 0),(6,uA (La b p i)),(18,iA n),(19,iA i)],(R,brO b (p+i))::Sf⟩) (λi=>i<=n) (λi=>n-i) 0 (by omega) ?_;rintro i hi;refine JH ?_;refine AC rfl (λhd=>?_) (λhd=>?_)
  ·have hd:i<n:=by rw[AS]at hd;omega
   have hq:(p+i)/8<b.length:=by omega
   have hat:=VD hq;have hql:(p+i)/8<(b.map yA).length:=by rw[AD];exact hq
   have hv:La b p i|||On (Lh b (p+i))<<<UInt64.ofNat i=La b p (i+1):=rfl
   have hbo:=jR b (p+i) i hq;refine JA ?_;refine RU ?_;(iterate 9 refine RK ?_);refine BT ?_ (Li (p+i) 8 ((p+i)/8) rfl rfl (by omega) rfl (by omega) rfl rfl);(iterate 6 refine RK ?_);refine BT ?_ (UM (p+i) 8 ((p+i)%8) rfl rfl (by omega) rfl rfl rfl);refine BT ?_ (ja ((p+i)%8) (by omega) rfl rfl rfl);refine BT ?_ (je (b:=1) rfl rfl);refine BT ?_ (eG .u8 (by kernel_rfl) (by kernel_rfl) rfl);refine RK ?_;refine BT ?_ (I5 i (by omega) rfl rfl rfl);refine BT ?_ (Oq rfl rfl);refine RK ?_;refine RGo.nil (by kernel_rfl) ?_;rw[hbo,hv];refine JD ?_;(iterate 4 refine WO ?_);refine Ad ?_ (Cc ((p+(i+1):Nat):Int) (by omega) (by omega) rfl rfl);refine JE ?_;refine JF ?_;exact Bb (i+1) (by omega) (by omega)
  ·have hd:i=n:=by rw[AZ]at hd;omega
   subst hd;refine JC ?_;exact Ends.sp [uA (La b p i),iA 0] [(R,_)] ⟨rfl,rfl⟩
theorem Yk(b:List UInt8)(p n:Nat)(hn:n<=64):(La b p n).toNat<2^n:=by
 refine Nat.lt_pow_two_of_testBit _ λj hj=>?_
 rw[QV b p n hn];have:¬j<n:=by omega
 simp[this]
theorem T6(b:List UInt8)(p n:Nat)(hn:n<=64):(H7 b n p).1.toNat<2^n:=by
 unfold H7;split
 ·exact Nat.pow_pos (by decide)
 ·exact Yk b p n hn
theorem T7{p n:Nat}(hp:p<=8*b.length):(H7 b n p).2.2<=8*b.length:=by
 unfold H7;split
 ·exact hp
 ·dsimp only;omega
theorem VH{p0:Nat}(h0:p0<=8*b.length):∀(f i:Nat) (v:UInt64) (p:Nat),(NR b p0 f i v p).2.2<=8*b.length
 |0,i,v,p=>h0
 |f+1,i,v,p=>by
  rw[NR];split
  ·exact h0
  ·split
   ·exact h0
   ·split
    ·dsimp only;omega
    ·exact VH h0 f _ _ _
theorem YX(hp:p<=8*b.length):(Gw b p).2.2<=8*b.length:=VH hp _ _ _ _
theorem V2(R:Nat)(b:List UInt8)(p:Nat)(hb:b.length<=65536)(hp:p<=8*b.length):Spec prog 158 [.ptr R 0 0] [(R,brO b p)] λr S'=>r= .tup [uA (Gw b p).1,iA (Gw b p).2.1]/\S'=[(R,brO b (Gw b p).2.2)]:=by
 obtain⟨z,hz⟩:=nm (Gw b p);rw[hz];refine Sp (nt:=51) (res:=[.tmp 2,.tmp 3]) func158 λSf=>?_
 refine R1 ?_;refine JA ?_;refine R1 ?_;refine JA ?_;refine ET (λ(i:Nat) (v:UInt64) (q:Nat)=>⟨[(0,.ptr R 0 0),(4,iA p),(5,uA v),(6,iA i)],(R,brO b q)::Sf⟩) (λi v q=>i<=16/\q<=8*b.length/\NR b p (17-i) i v q=z) (λi _ _=>17-i) 0 0 p ⟨by omega,hp,hz⟩ ?_;rintro i v q ⟨hi,hq,hg⟩;have h1:=UL R b q 5 hb hq (by decide);obtain⟨f,hf⟩:∃f,17-i=f+1:=⟨16-i,by omega⟩;rw[hf,NR]at hg;unfold H7 at h1;refine FL ?_;by_cases c1:8*b.length<q+5
 ·rw[Ab c1]at h1 hg
  subst hg;refine JG ?_;refine Fj h1 .fz ?_;refine JE ?_;refine JD ?_;(repeat first|(refine Cg ?_;first|refine Bp ?_|refine Bx ?_)|refine WO ?_|refine Ai λX=>?_|refine Ay λY=>?_);refine NL ?_;refine FL ?_;refine AB rfl rfl ?_;refine JA ?_;refine An rfl rfl ?_;refine JA ?_;refine R1 ?_;refine RT ?_;exact Ends.sp [uA 0,iA 14] [(R,_)] ⟨rfl,rfl⟩
 ·rw[AI c1]at h1 hg
  obtain⟨g,hgv⟩:=nm (La b q 5);have hg32:=Yk b q 5 (by decide);rw[hgv]at h1 hg hg32;refine JG ?_;refine Fj h1 .fz ?_;refine JE ?_;refine FL ?_;by_cases c2:i=16
  ·rw[Ab (.inl c2)]at hg
   subst hg;have d1:decide ((i:Int)=16)=true:=BP (by omega);refine RG ?_;(repeat first|(refine Cg ?_;first|refine Bp ?_|refine Bx ?_)|refine WO ?_|refine Ai λX=>?_|refine Ay λY=>?_);refine NL ?_;refine FL ?_;refine An rfl rfl ?_;refine JA ?_;refine JH ?_;refine An rfl rfl ?_;refine JA ?_;refine R1 ?_;refine RT ?_;exact Ends.sp [uA 0,iA 3] [(R,_)] ⟨rfl,rfl⟩
  ·have d1:decide ((i:Int)=16)=false:=Au (by omega)
   by_cases c3:g=0
   ·have d2:decide (((g.toNat:Nat):Int)=0)=true:=BP (by rw[c3];rfl)
    by_cases c4:0<i
    ·rw[Ab (.inr ⟨c3,c4⟩)]at hg
     subst hg;refine JH ?_;refine An rfl (BP (by omega)) ?_;refine JA ?_;refine JH ?_;refine An rfl rfl ?_;refine JA ?_;refine R1 ?_;refine RT ?_;exact Ends.sp [uA 0,iA 3] [(R,_)] ⟨rfl,rfl⟩
    ·rw[AI (by rintro(h|⟨_,h⟩);exact c2 h;exact c4 h)]at hg
     refine JH ?_;refine AB rfl (Au (by omega)) ?_;refine JA ?_;refine AB rfl rfl ?_;refine JD ?_;(repeat first|(refine Bm ?_;first|refine Ad ?_ (Ht (b:=15) rfl rfl)|refine Ad ?_ (HP ((4*i:Nat):Int) (by omega) (by omega) rfl rfl)|refine Ad ?_ (I5 (4*i) (by omega) rfl rfl rfl)|refine Ad ?_ (Oq rfl rfl))|refine WO ?_|refine Ai λX=>?_|refine Ay λY=>?_);refine NL ?_;refine JA ?_;by_cases c5:g<16
     ·rw[Ab c5]at hg
      subst hg;refine An rfl (BP (Int.ofNat_lt.2 (Fa.1 c5))) ?_;refine JC ?_;exact Ends.sp [uA (v|||(g&&&15)<<<UInt64.ofNat (4*i)),iA 0] [(R,_)] ⟨rfl,rfl⟩
     ·rw[AI c5]at hg
      refine AB rfl (Au λe=>c5 (Fa.2 (Int.ofNat_lt.1 e))) ?_;refine KK ?_;refine Cs (i+1) (v|||(g&&&15)<<<UInt64.ofNat (4*i)) (q+5) ⟨by omega,by omega,?_⟩ (by omega);rw[show 17-(i+1)=f by omega];exact hg
   ·have d2:decide (((g.toNat:Nat):Int)=0)=false:=Au (λe=>c3 (Ds.1 (Int.ofNat_inj.1 e)))
    rw[AI (by rintro(h|⟨h,_⟩);exact c2 h;exact c3 h)]at hg;refine RG ?_;(iterate 15 refine WO ?_);refine Bp ?_;refine Bp ?_;refine JE ?_;refine FL ?_;refine AB rfl rfl ?_;refine JA ?_;refine AB rfl rfl ?_;refine JD ?_;(repeat first|(refine Bm ?_;first|refine Ad ?_ (Ht (b:=15) rfl rfl)|refine Ad ?_ (HP ((4*i:Nat):Int) (by omega) (by omega) rfl rfl)|refine Ad ?_ (I5 (4*i) (by omega) rfl rfl rfl)|refine Ad ?_ (Oq rfl rfl))|refine WO ?_|refine Ai λX=>?_|refine Ay λY=>?_);refine NL ?_;refine JA ?_;by_cases c5:g<16
    ·rw[Ab c5]at hg
     subst hg;refine An rfl (BP (Int.ofNat_lt.2 (Fa.1 c5))) ?_;refine JC ?_;exact Ends.sp [uA (v|||(g&&&15)<<<UInt64.ofNat (4*i)),iA 0] [(R,_)] ⟨rfl,rfl⟩
    ·rw[AI c5]at hg
     refine AB rfl (Au λe=>c5 (Fa.2 (Int.ofNat_lt.1 e))) ?_;refine KK ?_;refine Cs (i+1) (v|||(g&&&15)<<<UInt64.ofNat (4*i)) (q+5) ⟨by omega,by omega,?_⟩ (by omega);rw[show 17-(i+1)=f by omega];exact hg
def Rest(F:List Bool)(p:Nat)(r:List Bool):Prop:=p<=F.length/\F.drop p=r
theorem Rest.step{p n:Nat}{l r:List Bool}(h:Rest F p (l++r))(hn:l.length=n):Rest F (p+n) r:=by
 subst hn;obtain⟨h1,h2⟩:=h;have h3:=Dh List.length h2;rw[Cx,AJ]at h3;refine⟨by omega,?_⟩;rw[<-Cy,h2,Ra rfl]
theorem T8{p n:Nat}{r:List Bool}(h:Rest F p (Bo v n++r))(hn:n<=64)(hv:v.toNat<2^n):H7 (Ca F) n p=(v,0,p+n):=by
 obtain⟨h1,h2⟩:=h;have hF:F=F.take p++Bo v n++r:=by rw[Aq,<-h2,B8]
 have hp:(F.take p).length=p:=by rw[Ba];omega
 have h3:=Dh List.length h2;rw[Cx,AJ,Bc]at h3;unfold H7;rw[G7,AI (by omega)];have:=dX (bs:=F.take p) (cs:=r) (v:=v) hn hv;rw[<-hF,hp]at this;rw[this]
theorem Hl{p n:Nat}{r:List Bool}(h:Rest F p (Bo v n++r))(hn:n<=64)(hv:v.toNat<2^n):RdS.get (Ca F) ⟨p,bad⟩ n=(v.toNat,⟨p+n,bad⟩):=by
 unfold RdS.get;rw[T8 h hn hv];simp
def grp(v:UInt64)(i:Nat):UInt64:=(v>>>UInt64.ofNat (4*i))&&&15|||(if i+1<DE v then 16 else 0)
theorem QT(h:v.toNat≠0):16^(DE v-1)<=v.toNat/\v.toNat<16^DE v:=by
 have e:∀k,(16:Nat)^k=2^(4*k):=λk=>by rw[show(16:Nat)=2^4 by rfl,<-Nat.pow_mul]
 unfold DE;rw[e,e];constructor
 ·have h1:=Nat.log2_self_le h
  exact Bh (FA (by decide) (by omega)) h1
 ·exact(Nat.log2_lt h).1 (by omega)
theorem jI(v:UInt64)(hi:i<16):(v>>>UInt64.ofNat (4*i)&&&15).toNat=v.toNat/16^i%16:=by
 rw[Gm,DP,Ax,show 4*i%2^64%64=4*i by omega,DA,show(15:UInt64).toNat=2^4-1 by rfl,Nat.and_two_pow_sub_one_eq_mod,Nat.pow_mul]
theorem T3(v:UInt64)(hi:i<16):(grp v i).toNat=v.toNat/16^i%16+(if i+1<DE v then 16 else 0):=by
 unfold grp;rw[HV,jI v hi];have hlt:v.toNat/16^i%16<2^4:=Nat.mod_lt _ (by decide);split
 ·have:=Nat.two_pow_add_eq_or_of_lt hlt 1
  have h16:(16:UInt64).toNat=2^4*1:=rfl;rw[h16,Nat.or_comm,<-this];omega
 ·have h0:(0:UInt64).toNat=0:=rfl
  rw[h0,Nat.or_zero,EI]
theorem Yl{p n:Nat}{r:List Bool}(h:Rest F p (Bo v n++r))(hn:n<=64)(hv:v.toNat<2^n):¬8*(Ca F).length<p+n/\La (Ca F) p n=v:=by
 have:=T8 h hn hv;unfold H7 at this;split at this
 ·simp at this
 ·exact⟨‹_›,by injection this⟩
theorem YT(i:Nat):(16:Nat)^i=2^(4*i):=by rw[show(16:Nat)=2^4 by rfl,<-Nat.pow_mul]
theorem Yj{v w:UInt64}(hi:i<16)(hw:w.toNat=v.toNat%16^i):(w|||(grp v i&&&15)<<<UInt64.ofNat (4*i)).toNat=v.toNat%16^(i+1):=by
 have h15:(grp v i&&&15).toNat=v.toNat/16^i%16:=by
  rw[Gm,T3 v hi,show(15:UInt64).toNat=2^4-1 by rfl,Nat.and_two_pow_sub_one_eq_mod];split<;>omega
 have hlt:v.toNat/16^i%16<16:=Nat.mod_lt _ (by decide);have hp:16^i<=16^15:=FA (by decide) (by omega);have hp0:0<16^i:=Nat.pow_pos (by decide)
 have hsh:(v.toNat/16^i%16)*16^i<2^64:=by
  have:=Nat.mul_le_mul (show v.toNat/16^i%16<=15 by omega) hp;have e:15*16^15<2^64:=by decide
  omega
 rw[HV,FZ,Ax,show 4*i%2^64%64=4*i by omega,h15,Gn,<-YT,II hsh,hw,Nat.mod_pow_succ];have hm:v.toNat%16^i<2^(4*i):=by rw[<-YT];exact Nat.mod_lt _ hp0
 have:=Nat.two_pow_add_eq_or_of_lt hm (v.toNat/16^i%16);rw[YT]at this;rw[Nat.or_comm,Nat.mul_comm (v.toNat/16^i%16),YT,<-this];omega
theorem co{r:List Bool}(p0:Nat):∀(k i f p:Nat) (w:UInt64),i+(k+1)=DE v->f+i=16->w.toNat=v.toNat%16^i->Rest F p (((List.range' i (k+1)).flatMap λj=>Bo (grp v j) 5)++r)->NR (Ca F) p0 (f+1) i w p=(v,0,p+5*(k+1)):=by
 intro k
 induction k with
 |zero=>
  intro i f p w hk hf hw h;have hG:=Iz v;have hi:i<16:=by omega
  have hg:=T3 v hi;rw[AI (by omega),EI]at hg;have hlt:v.toNat/16^i%16<16:=Nat.mod_lt _ (by decide);obtain⟨h1,h2⟩:=Yl (n:=5) (v:=grp v i) (by simpa[LG]using h) (by omega) (by rw[hg];omega);rw[NR,AI h1,h2]
  have hnz:¬(i=16\/grp v i=0/\0<i):=by
   rintro(e|⟨e,h0⟩)
   ·omega
   ·have hz:v.toNat/16^i%16=0:=by rw[<-hg,e];rfl
    have hv0:v.toNat≠0:=λe=>by
     have:DE v=1:=by unfold DE;rw[e];decide
     omega
    obtain⟨a,b⟩:=QT hv0;rw[show DE v-1=i by omega]at a;rw[show DE v=i+1 by omega,Nat.pow_succ]at b;have h3:1<=v.toNat/16^i:=(Nat.one_le_div_iff (Nat.pow_pos (by decide))).2 a;have h4:v.toNat/16^i<16:=Nat.div_lt_of_lt_mul b;rw[II h4]at hz;omega
  have hsm:grp v i<16:=by
   rw[Fa,hg];exact hlt
  rw[AI hnz,Ab hsm];have hacc:=Yj hi hw
  have hv:(w|||(grp v i&&&15)<<<UInt64.ofNat (4*i))=v:=by
   apply Ds.1;rw[hacc];by_cases hv0:v.toNat=0
   ·rw[hv0,Nat.zero_mod]
   ·have:=(QT hv0).2
    rw[show DE v=i+1 by omega]at this;exact II this
  rw[hv]
 |succ k ih=>
  intro i f p w hk hf hw h;have hG:=Iz v;have hi:i<16:=by omega
  have hg:=T3 v hi;rw[Ab (by omega)]at hg;have hlt:v.toNat/16^i%16<16:=Nat.mod_lt _ (by decide);rw[LG,Bj,Aq]at h;obtain⟨h1,h2⟩:=Yl (n:=5) (v:=grp v i) h (by omega) (by rw[hg];omega);have hst:=h.step (Bc _ _);obtain⟨f',rfl⟩:∃f',f=f'+1:=⟨f-1,by omega⟩;rw[NR,AI h1,h2]
  have hnz:¬(i=16\/grp v i=0/\0<i):=by
   rintro(e|⟨e,h0⟩)
   ·omega
   ·have hz:(grp v i).toNat=0:=by rw[e];rfl
    omega
  have hsm:¬grp v i<16:=by
   rw[Fa,hg,show(16:UInt64).toNat=16 by rfl];omega
  rw[AI hnz,AI hsm,ih (i+1) f' (p+5) _ (by omega) (by omega) (Yj hi hw) hst]
  congr 2
  omega
theorem Ob(v:UInt64):(Cv v).length=5*DE v:=by
 unfold Cv
 have:∀l:List Nat,(l.flatMap λi=>Bo (v>>>UInt64.ofNat (4*i)&&&15|||(if i+1<DE v then 16 else 0)) 5).length=5*l.length:=by
  intro l
  induction l with
  |nil=>rfl
  |cons a l ih=>rw[Bj,AJ,ih,Bc,Bl];omega
 rw[this,Y6]
theorem YY{r:List Bool}(h:Rest F p (Cv v++r)):Gw (Ca F) p=(v,0,p+(Cv v).length):=by
 have hp:0<DE v:=bd _;obtain⟨k,hk⟩:∃k,DE v=k+1:=⟨DE v-1,by omega⟩;rw[Ob,hk];unfold Gw;refine co (r:=r) p k 0 16 p 0 (by omega) rfl (by rw[Nat.pow_zero,Nat.mod_one];rfl) ?_
 have e:Cv v=(List.range' 0 (k+1)).flatMap λj=>Bo (grp v j) 5:=by
  unfold Cv;rw[List.range_eq_range',hk];unfold grp;rw[hk]
 rw[<-e];exact h
theorem Ud(a:UInt64):(a^^^18446744073709551615).toNat=18446744073709551615-a.toNat:=by
 have h:(a^^^18446744073709551615).toBitVec= ~~~a.toBitVec:=by
  rw[UInt64.toBitVec_xor];have:(18446744073709551615:UInt64).toBitVec=BitVec.allOnes 64:=by decide
  rw[this,BitVec.xor_allOnes]
 have h2:=Dh BitVec.toNat h;rw[BitVec.toNat_not]at h2;exact h2
theorem R9(a:UInt64):a.toBitVec.toInt=if 2*a.toNat<18446744073709551616 then(a.toNat:Int)else(a.toNat:Int)-18446744073709551616:=BitVec.toInt_eq_toNat_cond _
theorem fJ(v:Int)(h1: -4294967296<=v)(h2:v<=4294967296):(zig v).toNat=if v<0 then(-2*v-1).toNat else(2*v).toNat:=by
 have e1:(1:UInt64).toNat%64=1:=rfl
 have e2:(UInt64.ofInt v).toNat=(v%18446744073709551616).toNat:=by
  unfold UInt64.ofInt;rw[Ax];omega
 have e3:(UInt64.ofInt v<<<1).toNat=(v%18446744073709551616).toNat*2%18446744073709551616:=by
  rw[FZ,e1,Gn,e2]
 unfold zig;split
 ·rw[Ud,e3]
  omega
 ·rw[UInt64.xor_zero,e3]
  omega
theorem ZP(v:Int)(h1: -4294967296<=v)(h2:v<=4294967296):YI (zig v)=v:=by
 have hz:=fJ v h1 h2;obtain⟨u,hu⟩:=nm (zig v);rw[hu]at hz⊢;unfold YI
 have e0:(u>>>1).toNat=u.toNat/2:=by
  rw[DP];have e1:(1:UInt64).toNat%64=1:=rfl;rw[e1,DA]
 have e4:(u&&&1).toNat=u.toNat%2:=by
  rw[Gm];have e1:(1:UInt64).toNat=1:=rfl;rw[e1,Ft]
 by_cases h:v<0
 ·rw[Ab h]at hz
  have e5:u&&&1=1:=by
   apply Ds.1;rw[e4];show u.toNat%2=1
   omega
  have e6:(0-(1:UInt64))=18446744073709551615:=by decide
  rw[e5,e6,R9,Ud,e0];split<;>omega
 ·rw[AI h]at hz
  have e5:u&&&1=0:=by
   apply Ds.1;rw[e4];show u.toNat%2=0
   omega
  have e6:(0-(0:UInt64))=0:=by decide
  rw[e5,e6,UInt64.xor_zero,R9,e0];split<;>omega
theorem gK{v:Int}{r:List Bool}(h1: -4294967296<=v)(h2:v<=4294967296)(h:Rest F p (Cv (zig v)++r)):O8 (Ca F) p=(v,0,p+(Cv (zig v)).length):=by
 unfold O8;rw[YY h];simp[ZP v h1 h2]
set_option maxRecDepth 20000 in
theorem QA(c:UInt8)(h:(97<=c/\c<=122)\/(48<=c/\c<=57)):E8 c<36/\L0 (E8 c)=c:=by
 have:∀n:Fin 256,((97<=UInt8.ofNat n.1/\UInt8.ofNat n.1<=122)\/(48<=UInt8.ofNat n.1/\UInt8.ofNat n.1<=57))->E8 (UInt8.ofNat n.1)<36/\L0 (E8 (UInt8.ofNat n.1))=UInt8.ofNat n.1:=by decide
 have e:UInt8.ofNat c.toNat=c:=UInt8.ofNat_toNat;have:=this ⟨c.toNat,c.toNat_lt⟩;simp only[e]at this;exact this h
theorem Mk{l:List UInt8}(h:Dx l=true):0<l.length/\l.length<=16/\∀c∈l,(97<=c/\c<=122)\/(48<=c/\c<=57):=by
 unfold Dx at h;simp only[AH,AS,Cr,DL]at h;refine⟨h.1.1,h.1.2,λc hc=>?_⟩;obtain⟨i,hi,rfl⟩:=Bv hc;have:=h.2 i hi;simp only[UH,jC,jM,Ct,AX hi,EY,CE,AH,AS]at this;rcases this with h|h
 ·exact .inl h
 ·exact .inr h.2
theorem SV{r:List Bool}:∀(l o:List UInt8) (p:Nat),(∀c∈l,(97<=c/\c<=122)\/(48<=c/\c<=57))->Rest F p ((l.map λc=>Bo (UInt64.ofNat (E8 c)) 6).flatten++r)->Iu (Ca F) l.length ⟨p,bad⟩ o=(o++l,⟨p+6*l.length,bad⟩)
 |[],o,p,_,h=>by simp[Iu]
 |c::l,o,p,hc,h=>by
  obtain⟨h1,h2⟩:=QA c (hc c (by simp));rw[Aa,Af,Aq]at h;have hn:(UInt64.ofNat (E8 c)).toNat=E8 c:=by rw[Ax];omega
  have hg:=Hl (bad:=bad) h (by omega) (by rw[hn];omega);rw[hn]at hg;rw[Bl,Iu,hg];dsimp only;rw[Ab h1,h2,SV l (o++[c]) (p+6) (λc' h'=>hc c' (by simp[h'])) (h.step (Bc _ _))];rw[Aq]
  congr 2
  omega
theorem VI{r:List Bool}{l:List UInt8}(hl:Dx l=true)(h:Rest F p ((KG l).flatten++r)):HI (Ca F) ⟨p,bad⟩=(l,⟨p+(KG l).flatten.length,bad⟩):=by
 obtain⟨h0,h16,hc⟩:=Mk hl;unfold KG at h⊢;rw[Af,Aq]at h;have hn:(UInt64.ofNat l.length).toNat=l.length:=by rw[Ax];omega
 have hg:=Hl (bad:=bad) h (by omega) (by rw[hn];omega);rw[hn]at hg;unfold HI;rw[hg];dsimp only;rw[SV l [] (p+5) hc (h.step (Bc _ _)),Bz]
 have e:((l.map λc=>Bo (UInt64.ofNat (E8 c)) 6).flatten).length=6*l.length:=by
  clear h hc hn hg h0 h16 hl
  induction l with
  |nil=>rfl
  |cons c l ih=>rw[Aa,Af,AJ,ih,Bc,Bl];omega
 rw[Af,AJ,e,Bc]
 congr 2
 omega
theorem GH{f:Field}(h:Bf f=0):Dx f.name=true/\1<=f.bits/\f.bits<=32/\ -4294967296<=f.low/\f.low<=4294967296:=by
 unfold Bf at h;split at h
 ·rename_i hh
  simp only[AH,AS]at hh;exact⟨hh.1.1.1.1,hh.1.1.1.2,hh.1.1.2,hh.1.2,hh.2⟩
 ·simp at h
theorem az{r:List Bool}{f:Field}(hf:Bf f=0)(h:Rest F p ((Fi f).flatten++r)):OM (Ca F) ⟨p,bad⟩=(f,⟨p+(Fi f).flatten.length,bad⟩):=by
 obtain⟨h1,h2,h3,h4,h5⟩:=GH hf;unfold Fi at h⊢;simp only[BC,Af,List.flatten_nil,A8,Aq]at h;have hn:=VI (bad:=bad) h1 h;have hs:=h.step rfl
 have hb:(UInt64.ofInt (f.bits-1)).toNat=(f.bits-1).toNat:=by
  unfold UInt64.ofInt;rw[Ax];omega
 have hg:=Hl (bad:=bad) hs (by omega) (by rw[hb];omega);rw[hb]at hg;have hs2:=hs.step (Bc _ _);have hi:=gK h4 h5 hs2;unfold OM;rw[hn];dsimp only;rw[hg];dsimp only;rw[hi];simp only[BC,Af,List.flatten_nil,A8,AJ,Bc];obtain⟨nm,bt,lw⟩:=f;dsimp only at h2⊢
 congr 1
 ·congr 1
  omega
 ·simp
  omega
theorem Oi{bad:Bool}{r:List Bool}:∀(fs o:List Field) (p:Nat),(∀f∈fs,Bf f=0)->Rest F p ((fs.flatMap Fi).flatten++r)->Gj (Ca F) fs.length ⟨p,bad⟩ o=(o++fs,⟨p+(fs.flatMap Fi).flatten.length,bad⟩)
 |[],o,p,_,h=>by simp[Gj]
 |f::fs,o,p,hf,h=>by
  rw[Bj,BC,Aq]at h;rw[Bl,Gj,az (hf f (by simp)) h];dsimp only;rw[Oi fs (o++[f]) _ (λf' h'=>hf f' (by simp[h'])) (h.step rfl),Bj,BC,AJ,Aq]
  congr 2
  omega
structure KOK(k:Kind):Prop where
 name:Dx k.name=true
 len:k.fields.length<=8
 fs:∀f∈k.fields,Bf f=0
theorem dG{r:List Bool}{k:Kind}(hk:KOK k)(h:Rest F p ((GD k).flatten++r)):Sa (Ca F) ⟨p,bad⟩=(k,⟨p+(GD k).flatten.length,bad⟩):=by
 unfold GD at h⊢;simp only[BC,Af,Aq]at h;have hn:=VI (bad:=bad) hk.name h;have hs:=h.step rfl;have hl:=hk.len;have hb:(UInt64.ofNat k.fields.length).toNat=k.fields.length:=by rw[Ax];omega
 have hg:=Hl (bad:=bad) hs (by omega) (by rw[hb];omega);rw[hb]at hg;have hs2:=hs.step (Bc _ _);have hf:=Oi (bad:=bad) k.fields [] _ hk.fs hs2;unfold Sa;rw[hn];dsimp only;rw[hg];dsimp only;rw[hf];simp only[BC,Af,AJ,Bc,Bz];obtain⟨nm,fs⟩:=k
 congr 2
 omega
theorem QG{r:List Bool}:∀(ks o:List Kind) (p:Nat),(∀k∈ks,KOK k)->Rest F p ((ks.flatMap GD).flatten++r)->IU (Ca F) ks.length ⟨p,bad⟩ o=(o++ks,⟨p+(ks.flatMap GD).flatten.length,bad⟩)
 |[],o,p,_,h=>by simp[IU]
 |k::ks,o,p,hk,h=>by
  rw[Bj,BC,Aq]at h;rw[Bl,IU,dG (hk k (by simp)) h];dsimp only;rw[QG ks (o++[k]) _ (λf' h'=>hk f' (by simp[h'])) (h.step rfl),Bj,BC,AJ,Aq]
  congr 2
  omega
def VOK(fs:List Field)(vs:List Int):Prop:=vs.length=fs.length/\∀q∈fs.zip vs,1<=q.1.bits/\q.1.bits<=32/\q.1.low<=q.2/\q.2-q.1.low<2^q.1.bits.toNat
theorem R8{r:List Bool}:∀(fs:List Field) (vs o:List Int) (p:Nat),VOK fs vs->Rest F p ((J6 fs vs).flatten++r)->Jq (Ca F) fs ⟨p,bad⟩ o=(o++vs,⟨p+(J6 fs vs).flatten.length,bad⟩)
 |[],[],o,p,_,h=>by simp[Jq,J6]
 |[],_::_,o,p,hv,h=>by have:=hv.1;simp at this
 |_::_,[],o,p,hv,h=>by have:=hv.1;simp at this
 |f::fs,v::vs,o,p,hv,h=>by
  obtain⟨h1,h2,h3,h4⟩:=hv.2 (f,v) (by simp);dsimp only at h1 h2 h3 h4;have hv':VOK fs vs:=⟨by have:=hv.1;simpa using this,λq hq=>hv.2 q (by simp[hq])⟩;have hC:J6 (f::fs) (v::vs)=Bo (UInt64.ofInt (v-f.low)) f.bits.toNat::J6 fs vs:=rfl;rw[hC,Af,Aq]at h
  have hp:(2:Int)^f.bits.toNat<=2^32:=by
   have:=FA (show 0<2 by decide) (show f.bits.toNat<=32 by omega)
   exact_mod_cast this
  have hb:(UInt64.ofInt (v-f.low)).toNat=(v-f.low).toNat:=by
   unfold UInt64.ofInt;rw[Ax];have e:(2:Int)^32=4294967296:=rfl;omega
  have hlt:(v-f.low).toNat<2^f.bits.toNat:=by
   have:((v-f.low).toNat:Int)<((2^f.bits.toNat:Nat):Int):=by
    rw[JV];have e:((2:Nat):Int)=2:=rfl;rw[e];omega
   exact_mod_cast this
  have hg:=T8 h (by omega) (by rw[hb];exact hlt);rw[Jq,hg];dsimp only;rw[AI (by simp),hb,hC];have e:f.low+((v-f.low).toNat:Int)=v:=by omega
  rw[e];have e2:(bad||decide ((0:Int)≠0))=bad:=by simp
  rw[e2,R8 fs vs (o++[v]) (p+f.bits.toNat) hv' (h.step (Bc _ _)),Af,AJ,Bc,Aq]
  congr 2
  omega
structure COK(ks:List Kind)(i:Nat)(l:List Comp):Prop where
 so:l.Pairwise λa b=>a.kind<b.kind
 it:∀c∈l,(i:Int)<=c.kind/\c.kind<i+ks.length/\∃k,ks[(c.kind-i).toNat]?=some k/\VOK k.fields c.vals
theorem COK.next{k:Kind}{l:List Comp}(h:COK (k::ks) i l)(hi:∀c∈l,(i:Int)<c.kind):COK ks (i+1) l:=by
 refine⟨h.so,λc hc=>?_⟩;obtain⟨h1,h2,k',h3,h4⟩:=h.it c hc;have h5:=hi c hc;rw[Bl]at h2;refine⟨by omega,by omega,k',?_,h4⟩;rw[show(c.kind-(i:Int)).toNat=(c.kind-((i+1:Nat):Int)).toNat+1 by omega,List.getElem?_cons_succ]at h3;exact h3
theorem gu:(0:UInt64).toNat<2^1:=by decide
theorem kU:(1:UInt64).toNat<2^1:=by decide
theorem Kx{r:List Bool}:∀(ks:List Kind) (i:Nat) (l o:List Comp) (p:Nat),COK ks i l->Rest F p ((EW ks i l).flatten++r)->EE (Ca F) ks i ⟨p,bad⟩ o=(o++l,⟨p+(EW ks i l).flatten.length,bad⟩)
 |[],i,[],o,p,_,h=>by simp[EE,EW]
 |[],i,c::l,o,p,hl,h=>by
  obtain⟨h1,h2,_⟩:=hl.it c (by simp);simp at h2;omega
 |k::ks,i,[],o,p,hl,h=>by
  rw[EW,Af,Aq]at h;have hg:=Hl (bad:=bad) h (by omega) gu;rw[EE,hg];dsimp only;rw[Ab (by rfl),Kx ks (i+1) [] o (p+1) (hl.next λc hc=>by cases hc) (h.step (Bc _ _)),EW,Af,AJ,Bc]
  congr 2
  omega
 |k::ks,i,c::l,o,p,hl,h=>by
  obtain⟨h1,h2,k',h3,h4⟩:=hl.it c (by simp);have hso:=Al.1 hl.so;by_cases hc:c.kind=i
  ·rw[EW,Ab hc,Af,BC,Aq,Aq]at h
   have hg:=Hl (bad:=bad) h (by omega) kU;have hs:=h.step (Bc _ _);have e0:(c.kind-(i:Int)).toNat=0:=by omega
   rw[e0,List.getElem?_cons_zero]at h3;injection h3 with h3
   subst h3;have hv:=R8 (bad:=bad) k.fields c.vals [] _ h4 hs;have hlt:COK (k::ks) i l:=⟨hso.2,λc' h'=>hl.it c' (by simp[h'])⟩;rw[EE,hg];dsimp only;rw[AI (by decide),hv];dsimp only;rw[Kx ks (i+1) l _ _ (hlt.next λc' h'=>by have:=hso.1 c' h';omega) (hs.step rfl),EW,Ab hc,Af,BC,AJ,AJ,Bc,Bz]
   have ec:(⟨(i:Int),c.vals⟩:Comp)=c:=by
    obtain⟨ck,cv⟩:=c;have hc:ck=i:=hc;rw[hc]
   rw[ec,Aq]
   congr 2
   omega
  ·rw[EW,AI hc,Af,Aq]at h
   have hg:=Hl (bad:=bad) h (by omega) gu;rw[EE,hg];dsimp only
   rw[Ab (by rfl),Kx ks (i+1) (c::l) o (p+1) (hl.next λc' h'=>by
    rcases AP.1 h' with rfl|h'
    ·omega
    ·have:=hso.1 c' h';omega) (h.step (Bc _ _)),EW,AI hc,Af,AJ,Bc]
   congr 2
   omega
structure SOK(ks:List Kind)(gs:List Int)(n:Nat)(l:List Item):Prop where
 gn:∀g∈gs,0<=g/\g<=1073741824
 so:l.Pairwise λa b=>a.ent.n<b.ent.n
 it:∀x∈l,(n:Int)<=x.ent.n/\x.ent.n<n+gs.length/\gs[(x.ent.n-n).toNat]?=some x.ent.gen/\COK ks 0 x.comps
theorem SOK.next{g:Int}{gs:List Int}{n:Nat}{l:List Item}(h:SOK ks (g::gs) n l)(hi:∀x∈l,(n:Int)<x.ent.n):SOK ks gs (n+1) l:=by
 refine⟨λg' h'=>h.gn g' (by simp[h']),h.so,λx hx=>?_⟩;obtain⟨h1,h2,h3,h4⟩:=h.it x hx;have h5:=hi x hx;rw[Bl]at h2;refine⟨by omega,by omega,?_,h4⟩;rw[show(x.ent.n-(n:Int)).toNat=(x.ent.n-((n+1:Nat):Int)).toNat+1 by omega,List.getElem?_cons_succ]at h3;exact h3
theorem Kf{r:List Bool}(ks:List Kind):∀(gs:List Int) (n:Nat) (l:List Item) (go:List Int) (io:List Item) (p:Nat),SOK ks gs n l->Rest F p ((EC ks gs n l).flatten++r)->FK (Ca F) ks gs.length n ⟨p,false⟩ go io=(go++gs,io++l,⟨p+(EC ks gs n l).flatten.length,false⟩)
 |[],n,[],go,io,p,_,h=>by simp[FK,EC]
 |[],n,x::l,go,io,p,hl,h=>by
  obtain⟨h1,h2,_⟩:=hl.it x (by simp);simp at h2;omega
 |g::gs,n,l,go,io,p,hl,h=>by
  obtain⟨g1,g2⟩:=hl.gn g (by simp)
  have hgn:(UInt64.ofInt g).toNat=g.toNat:=by
   unfold UInt64.ofInt;rw[Ax];omega
  have hgi:((UInt64.ofInt g).toNat:Int)=g:=by rw[hgn];omega
  have key:∀rest,Rest F p (Cv (UInt64.ofInt g)++rest)->Gw (Ca F) p=(UInt64.ofInt g,0,p+(Cv (UInt64.ofInt g)).length)/\Tm (Ca F) ⟨p,false⟩=false:=λrest hr=>by
   have hn:=YY hr;refine⟨hn,?_⟩;unfold Tm;rw[hn];have:¬1073741824<(UInt64.ofInt g).toNat:=by omega
   simp[this]
  match l,hl,h with
  |[],hl,h=>
   rw[EC,Af,Af,Aq,Aq]at h;obtain⟨k1,k2⟩:=key _ h;have hs:=h.step rfl;have hg:=Hl (bad:=false) hs (by omega) gu;rw[Bl,FK,k2,AI (by simp),k1];dsimp only;rw[hg];dsimp only;rw[AI (by decide),hgi,Kf ks gs (n+1) [] _ _ _ (hl.next λx hx=>by cases hx) (hs.step (Bc _ _)),EC,Af,Af,AJ,AJ,Bc];simp only[Aq,HX]
   congr 3
   omega
  |x::l,hl,h=>
   have hso:=Al.1 hl.so;obtain⟨h1,h2,h3,h4⟩:=hl.it x (by simp);by_cases hx:x.ent.n=n
   ·rw[EC,Ab hx,Af,Af,BC,Aq,Aq,Aq]at h
    obtain⟨k1,k2⟩:=key _ h;have hs:=h.step rfl;have hg:=Hl (bad:=false) hs (by omega) kU;have hs2:=hs.step (Bc _ _);have hc:=Kx (bad:=false) ks 0 x.comps [] _ h4 hs2;have e0:(x.ent.n-(n:Int)).toNat=0:=by omega
    rw[e0,List.getElem?_cons_zero]at h3;injection h3 with h3
    have ex:(⟨⟨(n:Int),g⟩,x.comps⟩:Item)=x:=by
     obtain⟨⟨a,b⟩,c⟩:=x;have hx:a=n:=hx;have h3:g=b:=h3;rw[hx,h3]
    have hlt:SOK ks (g::gs) n l:=⟨hl.gn,hso.2,λx' h'=>hl.it x' (by simp[h'])⟩;rw[Bl,FK,k2,AI (by simp),k1];dsimp only;rw[hg];dsimp only;rw[Ab (by decide),hc];dsimp only;rw[hgi,Bz,ex,Kf ks gs (n+1) l _ _ _ (hlt.next λx' h'=>by have:=hso.1 x' h';omega) (hs2.step rfl),EC,Ab hx,Af,Af,BC,AJ,AJ,AJ,Bc];simp only[Aq,HX]
    congr 3
    omega
   ·rw[EC,AI hx,Af,Af,Aq,Aq]at h
    obtain⟨k1,k2⟩:=key _ h;have hs:=h.step rfl;have hg:=Hl (bad:=false) hs (by omega) gu;rw[Bl,FK,k2,AI (by simp),k1];dsimp only;rw[hg];dsimp only
    rw[AI (by decide),hgi,Kf ks gs (n+1) (x::l) _ _ _ (hl.next λx' h'=>by
     rcases AP.1 h' with rfl|h'
     ·omega
     ·have:=hso.1 x' h';omega) (hs.step (Bc _ _)),EC,AI hx,Af,Af,AJ,AJ,Bc]
    simp only[Aq,HX]
    congr 3
    omega
def letY:List UInt8:=[97,98,99,100,101,102,103,104,105,106,107,108,109,110,111,112,113,114,115,116,117,118,119,120,121,122,48,49,50,51,52,53,54,55,56,57]
theorem c7(c:UInt8)(h:(97<=c/\c<=122)\/(48<=c/\c<=57)):Lib.indexByte letY c=(E8 c:Int):=by
 have:∀n:Fin 256,((97<=UInt8.ofNat n.1/\UInt8.ofNat n.1<=122)\/(48<=UInt8.ofNat n.1/\UInt8.ofNat n.1<=57))->Lib.indexByte letY (UInt8.ofNat n.1)=(E8 (UInt8.ofNat n.1):Int):=AM (by kernel_rfl);have e:UInt8.ofNat c.toNat=c:=UInt8.ofNat_toNat;have:=this ⟨c.toNat,c.toNat_lt⟩;simp only[e]at this;exact this h
theorem gO(ls:List UInt8)(c:UInt8)(h0:0<ls.length):PS prog 213 [.lst false 5 1 (ls.map yA),yA c] (iA (Lib.indexByte ls c)):=by
 refine Sp (nt:=8) (res:=[.tmp 4]) func213 λSf=>?_
 refine R1 ?_;refine JI ?_;refine WO ?_;refine Ad ?_ (W.idxByte f250 ls c (by kernel_rfl) (by kernel_rfl) (by kernel_rfl) (by kernel_rfl) (by kernel_rfl) h0 rfl rfl);refine JB ?_;refine RT ?_;refine Ah ?_;rfl
theorem FB:∀(ls:List (List Bool)) {s:Wr},s.bs.length<=524288->(s.adds ls).bs.length<=524288
 |[],s,h=>h
 |l::ls,s,h=>FB ls (ER h l)
theorem bV(s:Wr)(ls:List (List Bool))(l:List Bool):s.adds (ls++[l])=(s.adds ls).add l:=by rw[IB];rfl
theorem ka(s:Wr)(l:List Bool):s.adds [l]=s.add l:=rfl
def XJ(c:UInt8):List Bool:=Bo (UInt64.ofNat (E8 c)) 6
theorem cr(l:List UInt8):KG l=Bo (UInt64.ofNat l.length) 5::l.map XJ:=rfl
theorem Uu(X H:Nat)(s:Wr)(l:List UInt8)(hl:Dx l=true)(hr:s.bs.length<=524288):
  Spec prog 150 [.ptr X 0 0,sA l] (wsS X H s) λr S'=>∃K:Nat,r= .tup []/\S'=wsS X K (s.adds (KG l)):=by
 obtain⟨h0,h16,hch⟩:=Mk hl;have n1:(UInt64.ofNat l.length).toNat=l.length:=by rw[Ax];omega
 have hp0:=Gk X H s (UInt64.ofNat l.length) 5 (by decide) (by rw[n1];omega) hr;have hr1:=ER hr (Bo (UInt64.ofNat l.length) 5);rw[cr];show Spec _ _ _ _ λr S'=>∃K:Nat,r= .tup []/\S'=wsS X K ((s.add (Bo (UInt64.ofNat l.length) 5)).adds (l.map XJ))
 obtain⟨u0,hu0⟩:=nm (s.add (Bo (UInt64.ofNat l.length) 5));rw[hu0]at hp0 hr1⊢;refine Sp (nt:=25) (res:=[]) func150 λSf=>?_
 refine RG ?_;(iterate 3 refine WO ?_);refine Ad ?_ (Ge .i64 l.length rfl (by omega) (by kernel_rfl) (by kernel_rfl) rfl);refine EQ (h:=hp0) λK0=>?_;refine NL ?_
 refine JA ?_;refine ET (λ(i:Nat) (K:Nat) (u:Wr)=>⟨[(0,.ptr X 0 0),(1,sA l),(11,iA l.length),(12,iA i)],wsS X K u++Sf⟩) (λi K u=>i<=l.length/\u=u0.adds ((l.take i).map XJ)) (λi _ _=>l.length-i) 0 K0 u0 ⟨by omega,rfl⟩ ?_;rintro i K u ⟨hi,hu⟩;have hru:u.bs.length<=524288:=by rw[hu];exact FB _ hr1
 refine JH ?_;refine AC rfl (λhc=>?_) (λhc=>?_)
 ·have hc:i<l.length:=by simpa using hc
  have hgd:l.getD i 0=l[i]:=by simp[hc]
  have hco:=hch l[i] (As hc);have hix:=c7 l[i] hco;have hlt:=(QA l[i] hco).1;have hnx:u.add (XJ l[i])=u0.adds ((l.take (i+1)).map XJ):=by rw[EJ,AX hc,M5,AK,List.map_singleton,bV,hu]
  have hpi:=gO letY (l.getD i 0) (by decide);rw[hgd,hix]at hpi;have n2:(UInt64.ofNat (E8 l[i])).toNat=E8 l[i]:=by rw[Ax];omega
  have hp1:=Gk X K u (UInt64.ofNat (E8 l[i])) 6 (by decide) (by rw[n2];omega) hru;change Spec _ _ _ _ (λr S'=>∃K:Nat,r= .tup []/\S'=wsS X K (u.add (XJ l[i])))at hp1;obtain⟨u1,hu1⟩:=nm (u.add (XJ l[i]));rw[hu1]at hp1 hnx;obtain⟨q,hq⟩:=nm (E8 l[i]);rw[hq]at hpi hp1 hlt;rw[<-hgd]at hpi;refine JA ?_;refine JG ?_;refine Ua letY ?_ (by kernel_rfl) (by kernel_rfl) (by kernel_rfl) (by exact rfl) (.inr (by exact rfl)) (by decide) (by decide) (by kernel_rfl) (by kernel_rfl) (by exact rfl) (by exact rfl);refine WO ?_;refine WO ?_;refine AOps.p (W.idxStr rfl rfl rfl hc) rfl ?_;refine BO (h:=(hpi ..)) (k:=?_);refine Ad ?_ (Ge .i64 q rfl (by omega) (by kernel_rfl) (by kernel_rfl) rfl);refine EQ (h:=hp1) λK1=>?_;refine NL ?_
  refine JF ?_;exact Cs (i+1) K1 u1 ⟨by omega,hnx⟩ (by omega)
 ·have hc:i=l.length:=by simp at hc;omega
  subst hc;rw[Bg]at hu;rw[<-hu];refine KK ?_;refine Eo ?_;exact CH [(K,_),(X,_)] ⟨K,rfl,rfl⟩
theorem Sj{f:α->List (List Bool)}{l:List α}(h:i<l.length):(l.take (i+1)).flatMap f=(l.take i).flatMap f++f l[i]:=by
 rw[EJ,AX h,M5,Gg,List.flatMap_singleton]
theorem Zu(X H:Nat)(s:Wr)(ks:List Kind)(hk:∀k∈ks,KOK k)(h16:ks.length<=16)(hr:s.bs.length<=524288):
  Spec prog 88 [.ptr X 0 0,BZ false false ks] (wsS X H s) λr S'=>∃K:Nat,r= .tup []/\S'=wsS X K (s.adds (Mn ks)):=by
 have hkm:(ks.map (Bd false)).length=ks.length:=AD _;have n1:(UInt64.ofNat ks.length).toNat=ks.length:=by rw[Ax];omega
 have hp0:=Gk X H s (UInt64.ofNat ks.length) 5 (by decide) (by rw[n1];omega) hr;have hr1:=ER hr (Bo (UInt64.ofNat ks.length) 5);show Spec _ _ _ _ λr S'=>∃K:Nat,r= .tup []/\S'=wsS X K ((s.add (Bo (UInt64.ofNat ks.length) 5)).adds (ks.flatMap GD))
 obtain⟨u0,hu0⟩:=nm (s.add (Bo (UInt64.ofNat ks.length) 5));rw[hu0]at hp0 hr1⊢;refine Sp (nt:=62) (res:=[]) func88 λSf=>?_
 refine RG ?_;(iterate 3 refine WO ?_);refine Ad ?_ (Ge .i64 ks.length (by rw[hkm]) (by omega) (by kernel_rfl) (by kernel_rfl) rfl);refine EQ (h:=hp0) λK0=>?_;refine NL ?_
 refine JA ?_;refine ET (λ(i:Nat) (K:Nat) (u:Wr)=>⟨[(0,.ptr X 0 0),(13,BZ false false ks),(14,iA (ks.map (Bd false)).length),(15,iA i)],wsS X K u++Sf⟩) (λi K u=>i<=ks.length/\u=u0.adds ((ks.take i).flatMap GD)) (λi _ _=>ks.length-i) 0 K0 u0 ⟨by omega,rfl⟩ ?_;rintro i K u ⟨hi,hu⟩;have hru:u.bs.length<=524288:=by rw[hu];exact FB _ hr1
 refine JH ?_;refine AC rfl (λhc=>?_) (λhc=>?_)
 ·have hc:i<ks.length:=by rw[AS,hkm]at hc;omega
  have hki:=hk _ (As hc);have hnx:u.adds (GD ks[i])=u0.adds ((ks.take (i+1)).flatMap GD):=by rw[Sj hc,IB,hu]
  obtain⟨⟨kn,fs⟩,hke⟩:=nm (ks[i]);rw[hke]at hki hnx;have hat:(ks.map (Bd false))[i]?=some (Bd false ⟨kn,fs⟩):=by rw[Ac,AX hc,hke];rfl
  have hil:i<(ks.map (Bd false)).length:=by omega
  have hfm:(fs.map fieldA).length=fs.length:=AD _;have hfl:fs.length<=8:=hki.len;have n2:(UInt64.ofNat fs.length).toNat=fs.length:=by rw[Ax];omega
  have hp1:=Uu X K u kn hki.name hru;have hru1:=FB (KG kn) hru;obtain⟨u1,hu1⟩:=nm (u.adds (KG kn));rw[hu1]at hp1 hru1;have hp2:=λK=>Gk X K u1 (UInt64.ofNat fs.length) 4 (by decide) (by rw[n2];omega) hru1
  have hru2:=ER hru1 (Bo (UInt64.ofNat fs.length) 4);obtain⟨u2,hu2⟩:=nm (u1.add (Bo (UInt64.ofNat fs.length) 4));rw[hu2]at hp2 hru2
  have hkc:u.adds (GD ⟨kn,fs⟩)=u2.adds (fs.flatMap Fi):=by
   unfold GD;rw[IB,hu1,<-hu2];rfl
  rw[hkc]at hnx;refine JL ?_;refine Ai λV=>?_;refine JB ?_
  refine JD ?_;(iterate 3 refine WO ?_);refine KY (h:=hp1) λK1=>?_;refine NL ?_
  refine JD ?_;(iterate 4 refine WO ?_);refine Ad ?_ (Ge .i64 fs.length (by rw[hfm]) (by omega) (by kernel_rfl) (by kernel_rfl) rfl);refine EQ (h:=hp2 _) λK2=>?_;refine NL ?_
  refine JA ?_;refine ET (λ(j:Nat) (K:Nat) (w:Wr)=>⟨[(0,.ptr X 0 0),(13,BZ false false ks),(14,iA (ks.map (Bd false)).length),(15,iA i),(30,GT false fs),(31,iA (fs.map fieldA).length),(32,iA j)],wsS X K w++Sf⟩) (λj K w=>j<=fs.length/\w=u2.adds ((fs.take j).flatMap Fi)) (λj _ _=>fs.length-j) 0 K2 u2 ⟨by omega,rfl⟩ ?_;rintro j K3 w ⟨hj,hw⟩;have hrw:w.bs.length<=524288:=by rw[hw];exact FB _ hru2
  refine JH ?_;refine AC rfl (λhd=>?_) (λhd=>?_)
  ·have hd:j<fs.length:=by rw[AS,hfm]at hd;omega
   have hfe:=hki.fs _ (As hd);have hnx2:w.adds (Fi fs[j])=u2.adds ((fs.take (j+1)).flatMap Fi):=by rw[Sj hd,IB,hw]
   obtain⟨⟨fn,fb,fl⟩,hfg⟩:=nm (fs[j]);rw[hfg]at hfe hnx2;obtain⟨g1,g2,g3,g4,g5⟩:=GH hfe;dsimp only at g1 g2 g3 g4 g5;have hat2:(fs.map fieldA)[j]?=some (fieldA ⟨fn,fb,fl⟩):=by rw[Ac,AX hd,hfg];rfl
   have hjl:j<(fs.map fieldA).length:=by omega
   have hq1:=Uu X K3 w fn g1 hrw;have hrw1:=FB (KG fn) hrw;obtain⟨w1,hw1⟩:=nm (w.adds (KG fn));rw[hw1]at hq1 hrw1;have hq2:=λK=>Gk X K w1 (UInt64.ofInt (fb-1)) 5 (by decide) (by rw[cj (by omega) (by omega)];omega) hrw1
   have hrw2:=ER hrw1 (Bo (UInt64.ofInt (fb-1)) 5);obtain⟨w2,hw2⟩:=nm (w1.add (Bo (UInt64.ofInt (fb-1)) 5));rw[hw2]at hq2 hrw2
   have hfc:w.adds (Fi ⟨fn,fb,fl⟩)=w2.add (Cv (zig fl)):=by
    unfold Fi;rw[IB,hw1,<-hw2];rfl
   rw[hfc]at hnx2;refine JL ?_;refine Ai λV2=>?_;refine JB ?_
   refine JD ?_;(iterate 3 refine WO ?_);refine KY (h:=hq1) λK4=>?_;refine NL ?_
   refine JD ?_;(iterate 3 refine WO ?_);refine Ad ?_ (CB (fb-1) rfl (by omega) rfl rfl);refine Ad ?_ (TB .i64 (by kernel_rfl) (by kernel_rfl) rfl);refine EQ (h:=hq2 _) λK5=>?_;refine NL ?_
   refine JA ?_;obtain⟨bs2,e2⟩:=w2;have hrw2:bs2.length<=524288:=hrw2;refine AC rfl (λhb=>?_) (λhb=>?_)
   ·have hb:e2=0:=by simpa using hb
    rw[J4 hb]at hnx2;have hq3:=gv 171 3 e2 X K5 bs2 fl ⟨by omega,by omega⟩ hrw2;change (⟨Jy bs2 (Cv (zig fl)),addE bs2 (Cv (zig fl))⟩:Wr)=_ at hnx2;obtain⟨er,her⟩:=nm (addE bs2 (Cv (zig fl)));obtain⟨cs,hcs⟩:=nm (Jy bs2 (Cv (zig fl)));rw[her,hcs]at hq3 hnx2;refine FL ?_;(repeat refine WF ?_);refine AWP.region_runE (by kernel_rfl) (by kernel_rfl) ?_;(repeat refine PT ?_);refine eQ (h:=hq3) (λK6=>?_)
    (iterate 3 refine RK ?_);refine RGo.nil (by kernel_rfl) ?_
    refine JF ?_;exact Cs (j+1) K6 ⟨cs,er⟩ ⟨by omega,hnx2⟩ (by omega)
   ·have hb:e2≠0:=by simpa using hb
    rw[J5 hb]at hnx2;refine KK ?_;exact Cs (j+1) K5 ⟨bs2,e2⟩ ⟨by omega,hnx2⟩ (by omega)
  ·have hd:j=fs.length:=by rw[AZ,hfm]at hd;omega
   subst hd;rw[Bg]at hw;rw[<-hw]at hnx;refine KK ?_;exact Cs (i+1) K3 w ⟨by omega,hnx⟩ (by omega)
 ·have hc:i=ks.length:=by rw[AZ,hkm]at hc;omega
  subst hc;rw[Bg]at hu;rw[<-hu];refine KK ?_;refine Eo ?_;exact CH [(K,_),(X,_)] ⟨K,rfl,rfl⟩
section
section
variable {P:Program}{dst:Option Tmp}{ty t ty2:TypeId}{pos:String}{after:Array Edge}{g:Option (Nat×Bool)}{T:List (Nat×AV)}{S:List AR}{c:Option (List Bool)}{x y:Operand}{a:UInt64}
theorem jd(hx:Rd c T x (uA a)):Stp c P ⟨dst,.unOp .neg t x,ty,pos,after,g⟩ T S [(x,uA a)] [] (uA (0-a)) []:=by
 have e:IntKind.u64.wrap (-((a.toNat:Nat):Int))=(((0-a).toNat:Nat):Int):=by
  rw[NA,UInt64.toNat_sub];have:=a.toNat_lt;have h0:(0:UInt64).toNat=0:=rfl;rw[h0];omega
 have h:Stp c P ⟨dst,.unOp .neg t x,ty,pos,after,g⟩ T S [(x,uA a)] [] (.prim (.int .u64 (IntKind.u64.wrap (-((a.toNat:Nat):Int))))) []:=W.negW hx;rw[e]at h;exact h
theorem jZ{t2:TypeId}(k0:IntKind)(h1:P.underlying t=some (.int k0))(h2:P.underlying t2=some (.int .i64))(hx:Rd c T x (uA a)):Stp c P ⟨dst,.convert t t2 x,ty,pos,after,g⟩ T S [(x,uA a)] [] (.prim (.int .i64 a.toBitVec.toInt)) []:=by
 refine W.convW k0 .i64 _ h1 h2 ?_ hx;rw[BitVec.toInt_eq_toNat_cond];have:=a.toNat_lt;have e:a.toBitVec.toNat=a.toNat:=rfl;rw[e];rw[Rc];split<;>omega
end
theorem Yh(hp:p<=8*b.length):(O8 b p).2.2<=8*b.length:=by
 unfold O8;split<;>exact YX hp
theorem dx(R:Nat)(b:List UInt8)(p:Nat)(hb:b.length<=65536)(hp:p<=8*b.length):Spec prog 157 [.ptr R 0 0] [(R,brO b p)] λr S'=>r= .tup [iA (O8 b p).1,iA (O8 b p).2.1]/\S'=[(R,brO b (O8 b p).2.2)]:=by
 have h1:=V2 R b p hb hp;unfold O8;obtain⟨⟨v,e,q⟩,hz⟩:=nm (Gw b p);rw[hz]at h1⊢;dsimp only at h1⊢;refine Sp (nt:=21) (res:=[.tmp 2,.tmp 3]) func157 λSf=>?_
 refine R1 ?_;refine JI ?_;refine HS h1 .fz ?_;refine JE ?_;refine JA ?_;refine AC rfl (λhc=>?_) (λhc=>?_)
 ·have hc:e≠0:=by simpa using hc
  rw[Ab hc];refine JC ?_;exact Ends.sp [iA 0,iA e] [(R,_)] ⟨rfl,rfl⟩
 ·have hc:e=0:=by simpa using hc
  rw[AI (by simp[hc])];subst hc;refine JD ?_;(repeat first|(refine Bm ?_;first|refine Ad ?_ (Eg 1 (by decide) rfl rfl rfl)|refine Ad ?_ (Ht (b:=1) rfl rfl)|refine Ad ?_ (jd rfl)|refine Ad ?_ (Kz rfl rfl)|refine Ad ?_ (jZ .u64 (by kernel_rfl) (by kernel_rfl) rfl))|refine WO ?_|refine Ai λX=>?_|refine Ay λY=>?_);refine NL ?_;refine RT ?_;exact Ends.sp [iA (YI v),iA 0] [(R,_)] ⟨rfl,rfl⟩
abbrev MI(R X:Nat)(b:List UInt8)(s:RdS):List AR:=[(R,brO b s.p),(X,.row 181 2 [.agg [.ptr R 0 0,bA s.bad]])]
theorem GE{s:RdS}{n:Nat}(h:s.p<=8*b.length):(s.get b n).2.p<=8*b.length:=T7 h
theorem Kq{s:RdS}{n:Nat}(hn:n<=64):(s.get b n).1<2^n:=T6 b s.p n hn
theorem IQ(R X:Nat)(b:List UInt8)(s:RdS)(n:Nat)(hb:b.length<=65536)(hp:s.p<=8*b.length)(hn:n<=62):Spec prog 94 [.ptr X 0 0,iA n] (MI R X b s) λr S'=>r=iA ((s.get b n).1:Int)/\S'=MI R X b (s.get b n).2:=by
 obtain⟨p,bad⟩:=s;have h1:=UL R b p n hb hp (by omega);have h2:=T6 b p n (by omega);unfold RdS.get;dsimp only at hp⊢;obtain⟨⟨v,e,q⟩,hz⟩:=nm (H7 b n p);rw[hz]at h1 h2⊢;dsimp only at h1 h2⊢;have h3:v.toNat<9223372036854775808:=E3 h2 (Bh (FA (by decide) hn) (by decide));refine Sp (nt:=29) (res:=[.tmp 4]) func94 λSf=>?_
 refine R1 ?_;refine JL ?_;refine Fj h1 .fz ?_;refine JE ?_;refine JA ?_;refine JG ?_;refine Ad ?_ (Mx .u64 h3 (by kernel_rfl) (by kernel_rfl) rfl);refine JB ?_;refine RT ?_;exact Ends.sp [iA ((v.toNat:Nat):Int)] [(R,_),(X,_)] ⟨rfl,rfl⟩
theorem gC(n:Nat)(h:n<36):letY.getD n 0=L0 n:=by
 have:∀k:Fin 36,letY.getD k.1 0=L0 k.1:=by decide
 exact this ⟨n,h⟩
theorem N8:∀(n:Nat) (s:RdS) (o:List UInt8),s.p<=8*b.length->(Iu b n s o).2.p<=8*b.length
 |0,s,o,h=>h
 |n+1,s,o,h=>by
  rw[Iu];split
  ·exact N8 n _ _ (GE h)
  ·exact N8 n _ _ (GE h)
theorem NT{s:RdS}(h:s.p<=8*b.length):(HI b s).2.p<=8*b.length:=N8 _ _ _ (GE h)
theorem U6(R X:Nat)(b:List UInt8)(s:RdS)(hb:b.length<=65536)(hp:s.p<=8*b.length):Spec prog 156 [.ptr X 0 0] (MI R X b s) λr S'=>r=sA (HI b s).1/\S'=MI R X b (HI b s).2:=by
 have h1:=IQ R X b s 5 hb hp (by decide);have h2:=Kq (b:=b) (s:=s) (n:=5) (by decide);have h3:=GE (b:=b) (s:=s) (n:=5) hp;unfold HI;obtain⟨⟨c,s1⟩,hz⟩:=YtmkahplhnbbgmaaGreat.nm (s.get b 5);rw[hz]at h1 h2 h3⊢;dsimp only at h1 h2 h3⊢;obtain⟨⟨nm,s2⟩,hg⟩:=YtmkahplhnbbgmaaGreat.nm (Iu b c s1 []);rw[hg];dsimp only;refine Sp (nt:=26) (res:=[.tmp 2]) func156 λSf=>?_
 refine R1 ?_;refine JI ?_;refine Fj h1 .fz ?_;refine JB ?_;refine JA ?_;refine JH ?_;refine AWP.adopt (d:=4) 5 1 rfl λH=>?_
 refine FP (λ(i K:Nat) (o:List UInt8) (s:RdS)=>⟨[(0,.ptr X 0 0),(4,.sl K 0 o.length),(8,iA c),(9,iA i)],(K,.row 5 1 (o.map yA))::(MI R X b s++Sf)⟩) (λi K o s=>i<=c/\o.length<=i/\s.p<=8*b.length/\Iu b (c-i) s o=(nm,s2)) (λi _ _ _=>c-i) 0 H [] s1 ⟨by omega,by simp,h3,hg⟩ ?_;rintro i K o s ⟨hi,hol,hsp,hgo⟩;have hpm:o.length=(o.map yA).length:=by rw[AD]
 refine JH ?_;refine AC rfl (λhc=>?_) (λhc=>?_)
 ·have hc:i<c:=by rw[AS]at hc;omega
  have g1:=IQ R X b s 6 hb hsp (by decide);have g2:=Kq (b:=b) (s:=s) (n:=6) (by decide);have g3:=GE (b:=b) (s:=s) (n:=6) hsp;rw[show c-i=(c-(i+1))+1 by omega,Iu]at hgo;obtain⟨⟨v,s3⟩,hv⟩:=YtmkahplhnbbgmaaGreat.nm (s.get b 6);rw[hv]at g1 g2 g3 hgo;dsimp only at g1 g2 g3 hgo;refine JI ?_;refine Fj g1 .fz ?_;refine JB ?_;refine JA ?_;refine AC rfl (λhd=>?_) (λhd=>?_)
  ·have hd:v<36:=by rw[AS]at hd;omega
   rw[Ab hd]at hgo;have hly:=gC v hd;obtain⟨y,hy⟩:=YtmkahplhnbbgmaaGreat.nm (L0 v);rw[hy]at hly hgo;have hma:o.map yA++[yA y]=(o++[y]).map yA:=by simp
   have hml:o.length+[yA y].length=(o++[y]).length:=by simp
   refine JI ?_;refine WO ?_;refine AOps.p (W.idxStr (s:=letY) rfl rfl rfl hd) rfl ?_;refine KO ?_;refine Ay λY=>?_;refine WO ?_
   rw[hly,hma,hml];refine AOps.nil ?_;refine JF ?_;refine DH (i+1) Y (o++[y]) s3 ⟨by omega,by rw[AJ,BM];omega,g3,hgo⟩ (by omega)
  ·have hd:¬v<36:=by rw[AZ]at hd;omega
   rw[AI hd]at hgo;refine JA ?_;refine R1 ?_;refine DH (i+1) K o ⟨s3.p,true⟩ ⟨by omega,by omega,g3,hgo⟩ (by omega)
 ·have hc:i=c:=by rw[AZ]at hc;omega
  subst hc;rw[Co]at hgo;have hgo:(o,s)=(nm,s2):=hgo;injection hgo with e1 e2
  subst e1 e2;refine FL ?_;refine PV (d:=4) rfl .here hpm ?_;rw[Hm yA (λ_=>rfl) o];refine JG ?_;refine Ad ?_ (W.bytesStrA (te:=5) o (by kernel_rfl) (by kernel_rfl) (by kernel_rfl) rfl);refine JB ?_;refine RT ?_;exact Ends.sp [sA o] [(R,_),(X,_)] ⟨rfl,rfl⟩
end
def Ip(w:Wd):List UInt8×Int:=
 if E6 w≠0 then([],E6 w)else if(Wr.adds ⟨[],0⟩ (Fg w)).e≠0\/65536<(Ca (Wr.adds ⟨[],0⟩ (Fg w)).bs).length+8 then([],2)else(Jb (Ca (Wr.adds ⟨[],0⟩ (Fg w)).bs),0)
def Fy(b:List UInt8)(s:RdS):List Kind×RdS:=IU b (s.get b 5).1 (s.get b 5).2 []
def Hi(b:List UInt8)(ks:List Kind)(s:RdS):List Int×List Item×RdS:=FK b ks (s.get b 9).1 0 (s.get b 9).2 [] []
def OZ(b:List UInt8):Wd×Int:=
 if(RdS.get b ⟨0,false⟩ 8).1≠1\/(RdS.get b ⟨0,false⟩ 8).2.bad=true then(⟨[],[],[]⟩,3)else
 if(Fy b (RdS.get b ⟨0,false⟩ 8).2).2.bad=true\/Bs (Fy b (RdS.get b ⟨0,false⟩ 8).2).1≠0 then(⟨[],[],[]⟩,3)else
 if(Hi b (Fy b (RdS.get b ⟨0,false⟩ 8).2).1 (Fy b (RdS.get b ⟨0,false⟩ 8).2).2).2.2.bad=true then(⟨[],[],[]⟩,3)else
 (⟨(Fy b (RdS.get b ⟨0,false⟩ 8).2).1,(Hi b (Fy b (RdS.get b ⟨0,false⟩ 8).2).1 (Fy b (RdS.get b ⟨0,false⟩ 8).2).2).1,(Hi b (Fy b (RdS.get b ⟨0,false⟩ 8).2).1 (Fy b (RdS.get b ⟨0,false⟩ 8).2).2).2.1⟩,0)
def U7(b:List UInt8):Wd×Int:=
 if 65536<b.length then(⟨[],[],[]⟩,2)else if b.length<8 then(⟨[],[],[]⟩,14)else if Jb (b.take (b.length-8))≠b then(⟨[],[],[]⟩,13)else
 if(OZ (b.take (b.length-8))).2≠0 then(⟨[],[],[]⟩,(OZ (b.take (b.length-8))).2)else
 if Ip (OZ (b.take (b.length-8))).1=(b,0)then((OZ (b.take (b.length-8))).1,0)else(⟨[],[],[]⟩,3)
theorem Ss:∀(pre fs:List Field),DJ pre fs=0->∀f∈fs,Bf f=0
 |_,[],_,f,hf=>by cases hf
 |pre,f0::fs,h,f,hf=>by
  rw[DJ]at h;split at h
  ·exact absurd h ‹_›
  ·rename_i h0
   split at h
   ·cases h
   ·rcases AP.1 hf with rfl|hf
    ·simpa using h0
    ·exact Ss _ fs h f hf
theorem QE{k:Kind}(h:C9 k=0):KOK k:=by
 unfold C9 at h;split at h
 ·split at h
  ·cases h
  ·exact⟨‹_›,by omega,Ss [] _ h⟩
 ·cases h
theorem iq{k:Kind}{vs:List Int}(h:Dl k vs=true):VOK k.fields vs:=by
 unfold Dl at h;simp only[AH,AS]at h;obtain⟨h1,h2⟩:=h;unfold DB at h1 h2;split at h1
 ·exact absurd h1 ‹_›
 ·rename_i hk
  have hk:=QE (Classical.not_not.1 hk);rw[AI ‹_›]at h2;split at h1
  ·cases h1
  ·rename_i hl
   rw[AI hl]at h2;have hl:=Classical.not_not.1 hl;dsimp only at h2;refine⟨hl,λq hq=>?_⟩;have hf:=hk.fs q.1 (List.of_mem_zip hq).1;obtain⟨_,b1,b2,_,_⟩:=GH hf
   have hn:Cu q.1 q.2=q.2:=by
    obtain⟨i,hi,e⟩:=Bv hq;rw[List.getElem_zip]at e;have hi':i<k.fields.length/\i<vs.length:=by rw[GK]at hi;omega
    have:=Dh (λl=>l[i]?) h2;simp only[List.getElem?_zipWith,AX hi'.1,AX hi'.2]at this;injection this with this
    rw[<-e];exact this
   unfold Cu at hn;rw[Ab hf]at hn;unfold HM at hn;rw[Ab hf]at hn;have hp:(0:Int)<2^q.1.bits.toNat:=Int.pow_pos (by decide);refine⟨b1,b2,by omega,by omega⟩
theorem jP{l:List Comp}(h:Ce ks l=true):COK ks 0 l:=by
 obtain⟨h1,h2⟩:=held_iff.1 h;refine⟨h1,λc hc=>?_⟩;obtain⟨a,b,k,e,f⟩:=h2 c hc;refine⟨by simpa using a,by simpa using b,k,?_,iq f⟩;rw[show c.kind-((0:Nat):Int)=c.kind by omega];exact e
theorem Wk(h:WdOK w):SOK w.kinds w.gens 0 w.items:=by
 refine⟨h.gs,h.so,λx hx=>?_⟩;obtain⟨a,b,c,d,e⟩:=h.it x hx;refine⟨by simpa using a,by simpa using b,?_,jP e⟩;rw[show x.ent.n-((0:Nat):Int)=x.ent.n by omega];exact c
theorem cT(h:WdOK w):OZ (Ca (Fg w).flatten)=(w,0):=by
 have hks:∀k∈w.kinds,KOK k:=λk hk=>QE ((CQ h.ks).2 k hk)
 have h16:=(CQ h.ks).1;have hgl:=h.gl;obtain⟨F,hF⟩:=nm ((Fg w).flatten);rw[hF];have h0:Rest F 0 ((Fg w).flatten++[]):=⟨Ap _,by rw[A8,hF];rfl⟩;unfold Fg Mn at h0;simp only[Af,BC,CT,Aq]at h0;have g1:=Hl (bad:=false) h0 (by omega) (by decide:(1:UInt64).toNat<2^8);have s1:=h0.step (Bc _ _);have n2:(UInt64.ofNat w.kinds.length).toNat=w.kinds.length:=by rw[Ax];omega
 have g2:=Hl (bad:=false) s1 (by omega) (by rw[n2];omega);rw[n2]at g2;have s2:=s1.step (Bc _ _);have g3:=QG (bad:=false) w.kinds [] _ hks s2;have s3:=s2.step rfl;have n4:(UInt64.ofNat w.gens.length).toNat=w.gens.length:=by rw[Ax];omega
 have g4:=Hl (bad:=false) s3 (by omega) (by rw[n4];omega);rw[n4]at g4;have s4:=s3.step (Bc _ _);have g5:=Kf w.kinds w.gens 0 w.items [] [] _ (Wk h) s4
 have hkr:Fy (Ca F) ⟨0+8,false⟩=(w.kinds,⟨0+8+5+(w.kinds.flatMap GD).flatten.length,false⟩):=by
  unfold Fy;rw[g2];dsimp only;rw[g3,Bz]
 have hsr:∃p,Hi (Ca F) w.kinds ⟨0+8+5+(w.kinds.flatMap GD).flatten.length,false⟩=(w.gens,w.items,⟨p,false⟩):=by
  unfold Hi;rw[g4];dsimp only;rw[g5];exact⟨_,rfl⟩
 obtain⟨p,hsr⟩:=hsr;unfold OZ;rw[g1];dsimp only;rw[hkr];dsimp only;rw[hsr,h.ks];simp
theorem W4(h:Ip w=(b,0)):U7 b=(w,0):=by
 have hb:=h;unfold Ip at h;split at h
 ·rename_i h0
  injection h with _ h
  exact absurd h h0
 ·rename_i h0
  split at h
  ·injection h with _ h
   cases h
  ·rename_i h1
   injection h with h _
   have hok:=(Ck w).1 (Classical.not_not.1 h0);simp only[not_or,Classical.not_not,Nat.not_lt]at h1;obtain⟨e1,e2⟩:=h1;obtain⟨_,hroom⟩:=bW (Fg w) ⟨[],0⟩ (by simp) e1;have hs:=Yx (Fg w) ⟨[],0⟩ rfl hroom;rw[hs]at h e2;dsimp only[List.nil_append]at h e2;have hl:b.length=(Ca (Fg w).flatten).length+8:=by rw[<-h,Jb,AJ,Yb]
   have ht:b.take (b.length-8)=Ca (Fg w).flatten:=by
    rw[hl,Nat.add_sub_cancel,<-h,Jb,D4 rfl]
   unfold U7;rw[ht,AI (by omega),AI (by omega),AI (by rw[h];simp),cT hok];simp[hb]
theorem ay{s:RdS}(h:s.p<=8*b.length):(OM b s).2.p<=8*b.length:=Yh (GE (NT h))
theorem Lb:∀(n:Nat) (s:RdS) (o:List Field),s.p<=8*b.length->(Gj b n s o).2.p<=8*b.length
 |0,s,o,h=>h
 |n+1,s,o,h=>Lb n _ _ (ay h)
theorem dF{s:RdS}(h:s.p<=8*b.length):(Sa b s).2.p<=8*b.length:=Lb _ _ _ (GE (NT h))
theorem QF:∀(n:Nat) (s:RdS) (o:List Kind),s.p<=8*b.length->(IU b n s o).2.p<=8*b.length
 |0,s,o,h=>h
 |n+1,s,o,h=>QF n _ _ (dF h)
theorem aA(R X:Nat)(b:List UInt8)(s:RdS)(hb:b.length<=65536)(hp:s.p<=8*b.length):Spec prog 95 [.ptr X 0 0] (MI R X b s) λr S'=>r=BZ false false (Fy b s).1/\S'=MI R X b ⟨(Fy b s).2.p,(Fy b s).2.bad||decide (Bs (Fy b s).1≠0)⟩:=by
 have h1:=IQ R X b s 5 hb hp (by decide);have h2:=Kq (b:=b) (s:=s) (n:=5) (by decide);have h3:=GE (b:=b) (s:=s) (n:=5) hp;unfold Fy;obtain⟨⟨c,s1⟩,hz⟩:=YtmkahplhnbbgmaaGreat.nm (s.get b 5);rw[hz]at h1 h2 h3⊢;dsimp only at h1 h2 h3⊢;obtain⟨⟨KS,s2⟩,hg⟩:=YtmkahplhnbbgmaaGreat.nm (IU b c s1 []);rw[hg];dsimp only;have hck:=Nh KS;refine Sp (nt:=72) (res:=[.tmp 2]) func95 λSf=>?_
 refine R1 ?_;refine JA ?_;refine JG ?_;refine Fj h1 .fz ?_;refine JB ?_;refine FL ?_;refine AWP.adopt (d:=3) 90 2 rfl λH=>?_
 refine FP (λ(i K:Nat) (o:List Kind) (s:RdS)=>⟨[(0,.ptr X 0 0),(3,.sl K 0 i),(9,iA c),(10,iA i)],(K,.row 90 2 (o.map (Bd false)))::(MI R X b s++Sf)⟩) (λi K o s=>i<=c/\o.length=i/\s.p<=8*b.length/\IU b (c-i) s o=(KS,s2)) (λi _ _ _=>c-i) 0 H [] s1 ⟨by omega,rfl,h3,hg⟩ ?_;rintro i K o s ⟨hi,hol,hsp,hgo⟩;have hpm:i=(o.map (Bd false)).length:=by rw[AD,hol]
 refine JH ?_;refine AC rfl (λhc=>?_) (λhc=>?_)
 ·have hc:i<c:=by rw[AS]at hc;omega
  have g1:=U6 R X b s hb hsp;have g2:=NT (b:=b) (s:=s) hsp;rw[show c-i=(c-(i+1))+1 by omega,IU]at hgo;unfold Sa at hgo;obtain⟨⟨nm,sn⟩,hv⟩:=YtmkahplhnbbgmaaGreat.nm (HI b s);rw[hv]at g1 g2 hgo;dsimp only at g1 g2 hgo;have g3:=IQ R X b sn 4 hb g2 (by decide);have g4:=Kq (b:=b) (s:=sn) (n:=4) (by decide);have g5:=GE (b:=b) (s:=sn) (n:=4) g2;obtain⟨⟨fc,sf⟩,hv2⟩:=YtmkahplhnbbgmaaGreat.nm (sn.get b 4);rw[hv2]at g3 g4 g5 hgo;dsimp only at g3 g4 g5 hgo;have g6:=Lb fc sf [] g5;obtain⟨⟨FS,sg⟩,hv3⟩:=YtmkahplhnbbgmaaGreat.nm (Gj b fc sf []);rw[hv3]at hgo g6;dsimp only at hgo g6;refine JI ?_;refine HS g1 .fz ?_;refine KO ?_;refine Ai λY=>?_;refine JB ?_
  refine FL ?_;refine CM (Y:=Y) 92 3 .here (λF=>.cons (.agg (.s (.cons (.base .nil) .nil))) .nil) λF=>?_
  refine JG ?_;refine Fj g3 .fz ?_;refine JB ?_;refine FL ?_;refine FP (λ(j F:Nat) (fs:List Field) (s:RdS)=>⟨[(0,.ptr X 0 0),(3,.sl K 0 i),(4,.ptr Y 0 0),(9,iA c),(10,iA i),(16,iA fc),(17,iA j)],(F,.row 92 3 (fs.map fieldA))::(Y,.row 90 2 [.agg [sA nm,.sl F 0 j]])::(K,.row 90 2 (o.map (Bd false)))::(MI R X b s++Sf)⟩) (λj F fs s=>j<=fc/\fs.length=j/\s.p<=8*b.length/\Gj b (fc-j) s fs=(FS,sg)) (λj _ _ _=>fc-j) 0 F [] sf ⟨by omega,rfl,g5,hv3⟩ ?_;rintro j F fs t ⟨hj,hfl,htp,hfo⟩;have hfm:j=(fs.map fieldA).length:=by rw[AD,hfl]
  refine JH ?_;refine AC rfl (λhd=>?_) (λhd=>?_)
  ·have hd:j<fc:=by rw[AS]at hd;omega
   have e1:=U6 R X b t hb htp;have e2:=NT (b:=b) (s:=t) htp;rw[show fc-j=(fc-(j+1))+1 by omega,Gj]at hfo;unfold OM at hfo;obtain⟨⟨fm,tn⟩,hv⟩:=YtmkahplhnbbgmaaGreat.nm (HI b t);rw[hv]at e1 e2 hfo;dsimp only at e1 e2 hfo;have e3:=IQ R X b tn 5 hb e2 (by decide);have e4:=Kq (b:=b) (s:=tn) (n:=5) (by decide);have e5:=GE (b:=b) (s:=tn) (n:=5) e2;obtain⟨⟨fb,tb⟩,hv2⟩:=YtmkahplhnbbgmaaGreat.nm (tn.get b 5);rw[hv2]at e3 e4 e5 hfo;dsimp only at e3 e4 e5 hfo;obtain⟨tp,tbad⟩:=tb;dsimp only at e5 hfo;have e6:=dx R b tp hb e5;have e7:=Yh (b:=b) (p:=tp) e5;obtain⟨⟨fl,fe,tq⟩,hv3⟩:=YtmkahplhnbbgmaaGreat.nm (O8 b tp);rw[hv3]at e6 e7 hfo;dsimp only at e6 e7 hfo;refine JI ?_;refine HS e1 .fz ?_;refine KO ?_;refine Ai λV=>?_;refine JB ?_
   refine JI ?_;refine Fj e3 .fz ?_;refine Ad ?_ (Cc ((fb:Int)+1) rfl (by omega) rfl rfl);refine JE ?_;refine JL ?_;refine HS e6 .fz ?_;refine JE ?_;refine JA ?_;refine R1 ?_;refine JD ?_;(iterate 3 refine WO ?_);refine Dq (fieldA ⟨fm,(fb:Int)+1,fl⟩) ?_;refine WO ?_;refine Ay λY=>?_;refine JE ?_
   have hma:fs.map fieldA++[fieldA ⟨fm,(fb:Int)+1,fl⟩]=(fs++[(⟨fm,(fb:Int)+1,fl⟩:Field)]).map fieldA:=by simp
   rw[hma];refine JF ?_;exact DH (j+1) Y (fs++[⟨fm,(fb:Int)+1,fl⟩]) ⟨tq,tbad||decide (fe≠0)⟩ ⟨by omega,by rw[AJ,hfl];rfl,e7,hfo⟩ (by omega)
  ·have hd:j=fc:=by rw[AZ]at hd;omega
   subst hd;rw[Co]at hfo;have hfo:(fs,t)=(FS,sg):=hfo;injection hfo with e1 e2
   subst e1 e2;refine FL ?_;refine D7 (X:=F) (Y:=Y) .here (.next .here) rfl (.cons (.agg (.s (.cons (.base (.sl (by omega))) .nil))) .nil) ?_
   have hF:AV.frzs (((fs.map fieldA).drop 0).take j)=fs.map fieldA:=by
    rw[B7,Aj (by omega)];exact Frzs.h
   rw[hF];refine JG ?_;refine WO ?_;refine Dq (Bd false ⟨nm,fs⟩) ?_;refine WO ?_;refine Ay λY=>?_;refine JB ?_
   have hma:o.map (Bd false)++[Bd false ⟨nm,fs⟩]=(o++[(⟨nm,fs⟩:Kind)]).map (Bd false):=by simp
   rw[hma];refine JF ?_;exact DH (i+1) Y (o++[⟨nm,fs⟩]) t ⟨by omega,by rw[AJ,hol];rfl,htp,hgo⟩ (by omega)
 ·have hc:i=c:=by rw[AZ]at hc;omega
  subst hc;rw[Co]at hgo;have hgo:(o,s)=(KS,s2):=hgo;injection hgo with e1 e2
  subst e1 e2;obtain⟨sp,sb⟩:=s;refine FL ?_;refine PV (d:=3) rfl .here hpm ?_;have hF:AV.frzs (o.map (Bd false))=o.map (Bd false):=Frzs.h;rw[hF];dsimp only;cases sb with
  |true=>
   refine RG ?_;(repeat first|(refine Cg ?_;first|refine Bp ?_|refine Bx ?_)|refine WO ?_|refine Ai λX=>?_|refine Ay λY=>?_);refine NL ?_;refine JM ?_;exact Ends.sp [BZ false false o] [(R,_),(X,_)] ⟨rfl,rfl⟩
  |false=>
   refine JJ ?_;refine BE (h:=(hck ..)) (k:=?_);refine JE ?_;refine JM ?_;exact Ends.sp [BZ false false o] [(R,_),(X,_)] ⟨rfl,rfl⟩
theorem jc{P:Program}{dst:Option Tmp}{ty t ty2:TypeId}{pos:String}{after:Array Edge}{g:Option (Nat×Bool)}{T:List (Nat×AV)}{S:List AR}{c:Option (List Bool)}{x y:Operand}{i j:Int}{k k':IntKind}(m:Nat)(r:Int)(h:k.wrap (i*2^m)=r)(hj:j=(m:Int))(hm:m<=k.bits)(hx:Rd c T x (.prim (.int k i)))(hy:Rd c T y (.prim (.int k' j))):Stp c P ⟨dst,.binOp .shl t x y ty2,ty,pos,after,g⟩ T S [(x,.prim (.int k i)),(y,.prim (.int k' j))] [] (.prim (.int k r)) []:=by
 subst h;exact W.shl hx hy hj hm
def Xo(a:Int):Int:=if 1099511627776<(if a< -1099511627776 then-1099511627776 else a)then 1099511627776 else if a< -1099511627776 then-1099511627776 else a
theorem bL{a:Int}(h: -4294967296<=a/\a<=4294967296):Xo a=a:=by
 have e1:(if a< -1099511627776 then-1099511627776 else a)=a:=AI (by omega);unfold Xo;rw[e1,AI (by omega)]
theorem Sx(a:Int)(h: -4294967296<=a/\a<=4294967296):PS prog 265 [iA a] (iA a):=by
 suffices hh:PS prog 265 [iA a] (iA (Xo a)) by rwa[bL h]at hh
 refine Sp (nt:=6) (res:=[.tmp 2]) func265 λSf=>?_
 refine JC ?_;refine Ah ?_;rfl
theorem SM(f:Field)(h1:0<=f.bits)(h2:f.bits<=32)(h3: -4294967296<=f.low)(h4:f.low<=4294967296):PS prog 251 [fieldA f] (iA 0):=by
 obtain⟨fn,fb,fl⟩:=f;dsimp only at h1 h2 h3 h4;have hc:=Sx fl ⟨h3,h4⟩;have d1:decide (fb<0)=false:=Au (by omega);have d2:decide ((32:Int)<fb)=false:=Au (by omega);refine Sp (nt:=19) (res:=[.tmp 2]) func251 λSf=>?_
 refine JG ?_;refine Ai λB=>?_;refine JB ?_
 refine FL ?_;refine JN ?_;refine K7 (h:=(hc ..)) (k:=?_);refine JK ?_;refine RGo.nil (by kernel_rfl) ?_;refine FL ?_;refine AB rfl (by simp) ?_;refine JC ?_;refine Ah ?_;rfl
theorem fo(f:Field)(v:Int)(h1:0<=f.bits)(h2:f.bits<=32)(h3: -4294967296<=f.low)(h4:f.low<=4294967296)(h5:f.low<=v)(h6:v-f.low<2^f.bits.toNat):PS prog 252 [fieldA f,iA v] (iA v):=by
 obtain⟨fn,fb,fl⟩:=f;dsimp only at h1 h2 h3 h4 h5 h6;obtain⟨n,rfl⟩:∃n:Nat,fb=n:=⟨fb.toNat,by omega⟩;have hc:=Sx fl ⟨h3,h4⟩;have hn:((n:Int)).toNat=n:=rfl;rw[hn]at h6
 have hp:(2:Int)^n<=4294967296/\1<=(2:Int)^n:=by
  have:∀n,n<=32->(2:Int)^n<=4294967296/\1<=(2:Int)^n:=by decide
  exact this n (by omega)
 have hw:IntKind.i64.wrap (1*2^n)=2^n:=by rw[Int.one_mul];exact GN (by omega) (by omega)
 have e1:(if(n:Int)<0 then 0 else(n:Int))=n:=AI (by omega);have e2:(if 32<(if(n:Int)<0 then 0 else(n:Int))then 32 else(if(n:Int)<0 then 0 else(n:Int)))=n:=by rw[e1,AI (by omega)]
 have e3:(if v<fl then fl else v)=v:=AI (by omega);have e4:(if fl+2^n-1<(if v<fl then fl else v)then fl+2^n-1 else(if v<fl then fl else v))=v:=by rw[e3,AI (by omega)]
 refine Sp (nt:=21) (res:=[.tmp 4]) func252 λSf=>?_
 refine JG ?_;refine Ai λB=>?_;refine JB ?_
 refine JL ?_;refine BE (h:=(hc ..)) (k:=?_);refine JB ?_;refine JD ?_;(iterate 8 refine WO ?_);refine Ad ?_ (jc n (2^n) hw e2 (by show n<=64;omega) rfl rfl);refine Ad ?_ (Cc (fl+2^n) rfl (by omega) rfl rfl);refine Ad ?_ (CB (fl+2^n-1) rfl (by omega) rfl rfl);refine JE ?_;refine RT ?_;refine Ah ?_;show iA _=_
 rw[show(if fl+2^n-1<(if v<fl then fl else v)then fl+2^n-1 else(if v<fl then fl else v))=v from e4]
theorem fj(t:TypeId)(sz:Nat)(e:Int)(X H:Nat)(bs:List Bool)(f:Field)(v:Int)(h1:1<=f.bits)(h2:f.bits<=32)(h3: -4294967296<=f.low)(h4:f.low<=4294967296)(h5:f.low<=v)(h6:v-f.low<2^f.bits.toNat)(hr:bs.length<=524288):
  Spec prog 215 [.ptr X 0 0,fieldA f,iA v] (wrS t sz e X H bs) λr S'=>∃K:Nat,r=iA (addE bs (Bo (UInt64.ofInt (v-f.low)) f.bits.toNat))/\S'=wrS t sz e X K (Jy bs (Bo (UInt64.ofInt (v-f.low)) f.bits.toNat)):=by
 have hc:=SM f (by omega) h2 h3 h4;have hf:=fo f v (by omega) h2 h3 h4 h5 h6;obtain⟨fn,fb,fl⟩:=f;dsimp only at h1 h2 h3 h4 h5 h6;obtain⟨n,rfl⟩:∃n:Nat,fb=n:=⟨fb.toNat,by omega⟩;have hn:((n:Int)).toNat=n:=rfl;rw[hn]at h6
 have hp:(2:Int)^n<=4294967296:=by
  have:∀n,n<=32->(2:Int)^n<=4294967296:=by decide
  exact this n (by omega)
 have hb:=Yt t sz e X H bs (UInt64.ofInt (v-fl)) n (by omega) (by
  rw[cj (by omega) (by omega)];have:((2^n:Nat):Int)=(2:Int)^n:=by rw[JV];rfl
  omega) hr
 show Spec _ _ _ _ λr S'=>∃K:Nat,r=iA (addE bs (Bo (UInt64.ofInt (v-fl)) n))/\S'=wrS t sz e X K (Jy bs (Bo (UInt64.ofInt (v-fl)) n))
 obtain⟨er,her⟩:=nm (addE bs (Bo (UInt64.ofInt (v-fl)) n));obtain⟨cs,hcs⟩:=nm (Jy bs (Bo (UInt64.ofInt (v-fl)) n));rw[her,hcs]at hb⊢;refine Sp (nt:=27) (res:=[.tmp 6]) func215 λSf=>?_
 refine JG ?_;refine Ai λB=>?_;refine JB ?_
 refine JI ?_;refine BE (h:=(hc ..)) (k:=?_);refine JB ?_;refine JA ?_;refine AB rfl rfl ?_;refine JL ?_;refine BO (h:=(hf ..)) (k:=?_);refine JE ?_;refine FL ?_;refine AB rfl (by simp) ?_;refine JD ?_;(repeat first|(refine Bm ?_;first|refine Ad ?_ (CB (v-fl) rfl (by omega) rfl rfl)|refine Ad ?_ (TB .i64 (by kernel_rfl) (by kernel_rfl) rfl)|refine EQ (h:=hb) λL=>?_)|refine WO ?_|refine Ai λX=>?_|refine Ay λY=>?_);refine NL ?_;refine RT ?_;exact Ends.sp [iA er] [(L,_),(X,_)] ⟨L,rfl,rfl⟩
theorem Jj{l:List α}(h:i<l.length):l.drop i=l[i]::l.drop (i+1):=Dp h
theorem GX(u:Wr)(l:List Bool)(ls:List (List Bool)):u.adds (l::ls)=(u.add l).adds ls:=rfl
theorem COK.gt{c:Comp}{l:List Comp}(h:COK ks i (c::l))(hc:(i:Int)<c.kind):∀d∈c::l,(i:Int)<d.kind:=by
 intro d hd;rcases AP.1 hd with rfl|hd
 ·exact hc
 ·have:=(Al.1 h.so).1 d hd
  omega
theorem COK.tl{c:Comp}{l:List Comp}(h:COK ks i (c::l)):COK ks i l:=⟨(Al.1 h.so).2,λd hd=>h.it d (by simp[hd])⟩
theorem WW{fs:List Field}{vs:List Int}{j:Nat}(h:j<fs.length)(h2:j<vs.length):J6 (fs.drop j) (vs.drop j)=Bo (UInt64.ofInt (vs[j]-fs[j].low)) fs[j].bits.toNat::J6 (fs.drop (j+1)) (vs.drop (j+1)):=by
 rw[Jj h,Jj h2];rfl
theorem Z5(X H:Nat)(s:Wr)(ks:List Kind)(l:List Comp)(hk:∀k∈ks,KOK k)(h16:ks.length<=16)(hl:COK ks 0 l)(hll:l.length<=16)(hr:s.bs.length<=524288):
  Spec prog 153 [.ptr X 0 0,BZ false false ks,B3 false false l] (wsS X H s) λr S'=>∃K:Nat,r= .tup []/\S'=wsS X K (s.adds (EW ks 0 l)):=by
 have hkm:(ks.map (Bd false)).length=ks.length:=AD _;have hlm:(l.map (Ae false)).length=l.length:=AD _;obtain⟨fin,hfin⟩:=nm (s.adds (EW ks 0 l));rw[hfin];refine Sp (nt:=68) (res:=[]) func153 λSf=>?_
 refine R1 ?_;refine JA ?_;refine FP (λ(i q:Nat) (K:Nat) (u:Wr)=>⟨[(0,.ptr X 0 0),(1,BZ false false ks),(2,B3 false false l),(6,iA q),(11,iA (ks.map (Bd false)).length),(12,iA i)],wsS X K u++Sf⟩) (λi q K u=>i<=ks.length/\q<=l.length/\u.bs.length<=524288/\COK (ks.drop i) i (l.drop q)/\u.adds (EW (ks.drop i) i (l.drop q))=fin) (λi _ _ _=>ks.length-i) 0 0 H s ⟨by omega,by omega,hr,hl,hfin⟩ ?_;rintro i q K u ⟨hi,hq,hru,hco,hu⟩;refine JH ?_;refine AC rfl (λhc=>?_) (λhc=>?_)
 ·have hc:i<ks.length:=by rw[AS,hkm]at hc;omega
  have hki:=hk _ (As hc);rw[Jj hc]at hco hu;obtain⟨⟨kn,fs⟩,hke⟩:=nm (ks[i]);rw[hke]at hki hco hu;have hat:(ks.map (Bd false))[i]?=some (Bd false ⟨kn,fs⟩):=by rw[Ac,AX hc,hke];rfl
  have hil:i<(ks.map (Bd false)).length:=by omega
  have hfm:(fs.map fieldA).length=fs.length:=AD _;have hfl8:fs.length<=8:=hki.len;have hz:=λK=>Gk X K u 0 1 (by decide) (by decide) hru
  have hz1:=ER hru (Bo 0 1);refine JA ?_;by_cases hql:q=l.length
  ·have hd:decide ((q:Int)=((l.map (Ae false)).length:Int))=true:=BP (by rw[hlm,hql])
   have hdn:l.drop q=[]:=Cf (by omega);rw[hdn]at hu hco;rw[EW,GX]at hu;obtain⟨u1,hu1⟩:=nm (u.add (Bo 0 1));rw[hu1]at hz hz1 hu;have hco':COK (ks.drop (i+1)) (i+1) []:=hco.next (λc hc=>by cases hc);refine R1 ?_;refine An rfl (by simp) ?_;refine JI ?_;refine EQ (h:=hz _) λK1=>?_;refine NL ?_
   refine KK ?_;exact DH (i+1) q K1 u1 ⟨by omega,by omega,hz1,by rw[hdn];exact hco',by rw[hdn];exact hu⟩ (by omega)
  ·have hql:q<l.length:=by omega
   have hd:decide ((q:Int)=((l.map (Ae false)).length:Int))=false:=Au (by rw[hlm];omega);have hqm:q<(l.map (Ae false)).length:=by omega
   have hdq:=Jj hql;rw[hdq]at hu hco;obtain⟨⟨ck,cv⟩,hce⟩:=nm (l[q]);rw[hce]at hu hco hdq;have hat2:(l.map (Ae false))[q]?=some (Ae false ⟨ck,cv⟩):=by rw[Ac,AX hql,hce];rfl
   obtain⟨hk1,hk2,k',hk3,hk4⟩:=hco.it ⟨ck,cv⟩ (by simp);dsimp only at hk1 hk2 hk3 hk4;rw[EW]at hu;dsimp only at hu;refine JH ?_;refine AC rfl (λhb=>?_) (λhb=>?_)
   ·have hb:ck≠(i:Int):=by simpa using hb
    rw[AI hb,GX]at hu;obtain⟨u1,hu1⟩:=nm (u.add (Bo 0 1));rw[hu1]at hz hz1 hu;have hco':=hco.next (hco.gt (by show(i:Int)<ck;omega));refine JI ?_;refine EQ (h:=hz _) λK1=>?_;refine NL ?_
    refine KK ?_;exact DH (i+1) q K1 u1 ⟨by omega,by omega,hz1,by rw[hdq];exact hco',by rw[hdq];exact hu⟩ (by omega)
   ·have hb:ck=(i:Int):=by simpa using hb
    rw[Ab hb,GX,IB]at hu;have ho:=λK=>Gk X K u 1 1 (by decide) (by decide) hru
    have ho1:=ER hru (Bo 1 1);obtain⟨u1,hu1⟩:=nm (u.add (Bo 1 1));rw[hu1]at ho ho1 hu;rw[show(ck-(i:Int)).toNat=0 by omega]at hk3;simp only[List.getElem?_cons_zero,Ak]at hk3;subst hk3;have hv:VOK fs cv:=hk4;have hvl:=hv.1
    have hco':=hco.tl.next (λd hd=>by
     have:=(Al.1 hco.so).1 d hd;have:ck<d.kind:=this;omega)
    have hru2:=FB (J6 fs cv) ho1;obtain⟨u2,hu2⟩:=nm (u1.adds (J6 fs cv));rw[hu2]at hu hru2;refine JI ?_;refine EQ (h:=ho _) λK1=>?_;refine NL ?_
    refine JA ?_;refine ET (λ(j:Nat) (K:Nat) (w:Wr)=>⟨[(0,.ptr X 0 0),(1,BZ false false ks),(2,B3 false false l),(6,iA q),(11,iA (ks.map (Bd false)).length),(12,iA i),(36,GT false fs),(37,iA (fs.map fieldA).length),(38,iA j)],wsS X K w++Sf⟩) (λj K w=>j<=fs.length/\w.bs.length<=524288/\w.adds (J6 (fs.drop j) (cv.drop j))=u2) (λj _ _=>fs.length-j) 0 K1 u1 ⟨by omega,ho1,hu2⟩ ?_;rintro j K3 w ⟨hj,hrw,hw⟩;refine JH ?_;refine AC rfl (λhd=>?_) (λhd=>?_)
    ·have hd:j<fs.length:=by rw[AS,hfm]at hd;omega
     have hd2:j<cv.length:=by omega
     have hfe:=hki.fs _ (As hd);rw[WW hd hd2,GX]at hw
     obtain⟨v1,v2,v3,v4⟩:=hv.2 (fs[j],cv[j]) (by
      have:(fs.zip cv)[j]'(by rw[GK];omega)=(fs[j],cv[j]):=List.getElem_zip;rw[<-this];exact As _)
     dsimp only at v1 v2 v3 v4;obtain⟨g1,g2,g3,g4,g5⟩:=GH hfe;have hat3:(cv.map iA)[j]?=some (iA cv[j]):=by rw[Ac,AX hd2];rfl
     have hat4:(fs.map fieldA)[j]?=some (fieldA fs[j]):=by rw[Ac,AX hd];rfl
     obtain⟨v,hve⟩:=nm (cv[j]);obtain⟨f,hfg⟩:=nm (fs[j]);rw[hve,hfg]at v3 v4 hw;rw[hve]at hat3;rw[hfg]at v1 v2 g1 g2 g3 g4 g5 hat4;obtain⟨bs2,e2⟩:=w;have hrw2:bs2.length<=524288:=hrw;have hjl:j<(fs.map fieldA).length:=by omega
     have hjl2:j<(cv.map iA).length:=by rw[AD];omega
     have hrn:=ER hrw (Bo (UInt64.ofInt (v-f.low)) f.bits.toNat);refine JL ?_;refine Ai λV2=>?_;refine JE ?_
     refine JA ?_;refine AC rfl (λhe=>?_) (λhe=>?_)
     ·have he:e2=0:=by simpa using he
      rw[J4 he]at hw hrn;have hq3:=fj 171 3 e2 X K3 bs2 f v g2 g3 g4 g5 v3 v4 hrw2;change (Wr.mk (Jy bs2 (Bo (UInt64.ofInt (v-f.low)) f.bits.toNat)) (addE bs2 (Bo (UInt64.ofInt (v-f.low)) f.bits.toNat))).adds _=_ at hw;change (Jy bs2 (Bo (UInt64.ofInt (v-f.low)) f.bits.toNat)).length<=_ at hrn;obtain⟨er,her⟩:=nm (addE bs2 (Bo (UInt64.ofInt (v-f.low)) f.bits.toNat));obtain⟨ds,hds⟩:=nm (Jy bs2 (Bo (UInt64.ofInt (v-f.low)) f.bits.toNat));rw[her,hds]at hq3 hw;rw[hds]at hrn;refine FL ?_;(repeat refine WF ?_);refine AWP.region_runE (by kernel_rfl) (by kernel_rfl) ?_;(repeat refine PT ?_);refine V8 (h:=hq3) (λK6=>?_)
      (iterate 3 refine RK ?_);refine RGo.nil (by kernel_rfl) ?_
      refine JF ?_;exact Cs (j+1) K6 ⟨ds,er⟩ ⟨by omega,hrn,hw⟩ (by omega)
     ·have he:e2≠0:=by simpa using he
      rw[J5 he]at hw;refine KK ?_;exact Cs (j+1) K3 ⟨bs2,e2⟩ ⟨by omega,hrw,hw⟩ (by omega)
    ·have hd:j=fs.length:=by rw[AZ,hfm]at hd;omega
     have hdn:fs.drop j=[]:=Cf (by omega);rw[hdn]at hw;have hw:w=u2:=hw;subst hw;refine KK ?_;exact DH (i+1) (q+1) K3 w ⟨by omega,by omega,hru2,hco',hu⟩ (by omega)
 ·have hc:i=ks.length:=by rw[AZ,hkm]at hc;omega
  have hdn:ks.drop i=[]:=Cf (by omega);rw[hdn]at hu;have hu:u=fin:=hu;subst hu;refine KK ?_;refine Eo ?_;exact CH [(K,_),(X,_)] ⟨K,rfl,rfl⟩
theorem fk(R:Nat)(b:List UInt8)(p:Nat)(f:Field)(h1:1<=f.bits)(h2:f.bits<=32)(h3: -4294967296<=f.low)(h4:f.low<=4294967296)(hb:b.length<=65536)(hp:p<=8*b.length):
  Spec prog 218 [.ptr R 0 0,fieldA f] [(R,brO b p)] λr S'=>r= .tup [iA (if(H7 b f.bits.toNat p).2.1≠0 then 0 else f.low+((H7 b f.bits.toNat p).1.toNat:Int)),iA (H7 b f.bits.toNat p).2.1]/\S'=[(R,brO b (H7 b f.bits.toNat p).2.2)]:=by
 have hc:=SM f (by omega) h2 h3 h4;obtain⟨fn,fb,fl⟩:=f;dsimp only at h1 h2 h3 h4;obtain⟨n,rfl⟩:∃n:Nat,fb=n:=⟨fb.toNat,by omega⟩;have hn:((n:Int)).toNat=n:=rfl;dsimp only;rw[hn];have g1:=UL R b p n hb hp (by omega);have g2:=T6 b p n (by omega);obtain⟨⟨v,e,q⟩,hz⟩:=nm (H7 b n p);rw[hz]at g1 g2⊢;dsimp only at g1 g2⊢
 have hp2:2^n<=4294967296:=by
  have:∀n,n<=32->2^n<=4294967296:=by decide
  exact this n (by omega)
 refine Sp (nt:=29) (res:=[.tmp 4,.tmp 5]) func218 λSf=>?_
 refine JG ?_;refine Ai λB=>?_;refine JE ?_
 refine JI ?_;refine BE (h:=(hc ..)) (k:=?_);refine JB ?_;refine JA ?_;refine AB rfl rfl ?_;refine JL ?_;refine Fj g1 .fz ?_;refine JE ?_;refine JA ?_;refine AC rfl (λhd=>?_) (λhd=>?_)
 ·have hd:e≠0:=by simpa using hd
  rw[Ab hd];refine JC ?_;exact Ends.sp [iA 0,iA e] [(R,_)] ⟨rfl,rfl⟩
 ·have hd:e=0:=by simpa using hd
  rw[AI (by simp[hd])];subst hd;refine JD ?_;(iterate 3 refine WO ?_);refine Ad ?_ (Mx .u64 (by omega) (by kernel_rfl) (by kernel_rfl) rfl);refine Ad ?_ (Cc (fl+((v.toNat:Nat):Int)) rfl (by omega) rfl rfl);refine JE ?_;refine RT ?_;exact Ends.sp [iA (fl+((v.toNat:Nat):Int)),iA 0] [(R,_)] ⟨rfl,rfl⟩
theorem N0:∀(fs:List Field) (s:RdS) (o:List Int),s.p<=8*b.length->(Jq b fs s o).2.p<=8*b.length
 |[],s,o,h=>h
 |f::fs,s,o,h=>N0 fs _ _ (T7 h)
theorem Mv:∀(ks:List Kind) (i:Nat) (s:RdS) (o:List Comp),s.p<=8*b.length->(EE b ks i s o).2.p<=8*b.length
 |[],i,s,o,h=>h
 |k::ks,i,s,o,h=>by
  rw[EE];split
  ·exact Mv ks _ _ _ (GE h)
  ·exact Mv ks _ _ _ (N0 _ _ _ (GE h))
theorem aC(R X:Nat)(b:List UInt8)(s:RdS)(ks:List Kind)(hk:∀k∈ks,KOK k)(h16:ks.length<=16)(hb:b.length<=65536)(hp:s.p<=8*b.length):Spec prog 159 [.ptr X 0 0,BZ false false ks] (MI R X b s) λr S'=>r=B3 false false (EE b ks 0 s []).1/\S'=MI R X b (EE b ks 0 s []).2:=by
 have hkm:(ks.map (Bd false)).length=ks.length:=AD _;obtain⟨⟨CS,s2⟩,hg⟩:=nm (EE b ks 0 s []);rw[hg];dsimp only;refine Sp (nt:=65) (res:=[.tmp 4]) func159 λSf=>?_
 refine R1 ?_;refine JA ?_;refine JH ?_;refine AWP.adopt (d:=5) 42 2 rfl λH=>?_
 refine FP (λ(i K:Nat) (o:List Comp) (s:RdS)=>⟨[(0,.ptr X 0 0),(1,BZ false false ks),(5,.sl K 0 o.length),(13,iA (ks.map (Bd false)).length),(14,iA i)],(K,.row 42 2 (o.map (Ae false)))::(MI R X b s++Sf)⟩) (λi K o s=>i<=ks.length/\o.length<=i/\s.p<=8*b.length/\EE b (ks.drop i) i s o=(CS,s2)) (λi _ _ _=>ks.length-i) 0 H [] s ⟨by omega,by simp,hp,hg⟩ ?_;rintro i K o s ⟨hi,hol,hsp,hgo⟩;have hpm:o.length=(o.map (Ae false)).length:=by rw[AD]
 refine JH ?_;refine AC rfl (λhc=>?_) (λhc=>?_)
 ·have hc:i<ks.length:=by rw[AS,hkm]at hc;omega
  have hki:=hk _ (As hc);rw[Jj hc]at hgo;obtain⟨⟨kn,fs⟩,hke⟩:=nm (ks[i]);rw[hke]at hki hgo;have hat:(ks.map (Bd false))[i]?=some (Bd false ⟨kn,fs⟩):=by rw[Ac,AX hc,hke];rfl
  have hil:i<(ks.map (Bd false)).length:=by omega
  have hfm:(fs.map fieldA).length=fs.length:=AD _;have hfl8:fs.length<=8:=hki.len;have g3:=IQ R X b s 1 hb hsp (by decide);have g4:=Kq (b:=b) (s:=s) (n:=1) (by decide);have g5:=GE (b:=b) (s:=s) (n:=1) hsp;rw[EE]at hgo;obtain⟨⟨fc,sf⟩,hv2⟩:=nm (s.get b 1);rw[hv2]at g3 g4 g5 hgo;dsimp only at g3 g4 g5 hgo;refine JA ?_;refine JG ?_;refine Fj g3 .fz ?_;refine JB ?_;refine FL ?_;refine AC rfl (λhd=>?_) (λhd=>?_)
  ·have hd:fc=0:=by rw[AS]at hd;omega
   rw[Ab hd]at hgo;refine KK ?_;exact DH (i+1) K o sf ⟨by omega,by omega,g5,hgo⟩ (by omega)
  ·have hd:fc≠0:=by rw[AZ]at hd;omega
   rw[AI hd]at hgo;have g6:=N0 fs sf [] g5;obtain⟨⟨VS,sg⟩,hv3⟩:=nm (Jq b fs sf []);rw[hv3]at hgo g6;dsimp only at hgo g6;refine JL ?_;refine Ai λY=>?_;refine JB ?_
   refine FL ?_;refine CM (Y:=Y) 3 1 .here (λF=>.cons (.agg (.s (.cons (.base .nil) .nil))) .nil) λF=>?_
   refine JH ?_;refine FP (λ(j F:Nat) (vs:List Int) (s:RdS)=>⟨[(0,.ptr X 0 0),(1,BZ false false ks),(5,.sl K 0 o.length),(7,.ptr Y 0 0),(13,iA (ks.map (Bd false)).length),(14,iA i),(26,GT false fs),(27,iA (fs.map fieldA).length),(28,iA j)],(F,.row 3 1 (vs.map iA))::(Y,.row 42 2 [.agg [iA i,.sl F 0 j]])::(K,.row 42 2 (o.map (Ae false)))::(MI R X b s++Sf)⟩) (λj F vs s=>j<=fs.length/\vs.length=j/\s.p<=8*b.length/\Jq b (fs.drop j) s vs=(VS,sg)) (λj _ _ _=>fs.length-j) 0 F [] sf ⟨by omega,rfl,g5,hv3⟩ ?_;rintro j F vs t ⟨hj,hvl,htp,hvo⟩;have hvm:j=(vs.map iA).length:=by rw[AD,hvl]
   refine JH ?_;refine AC rfl (λhe=>?_) (λhe=>?_)
   ·have he:j<fs.length:=by rw[AS,hfm]at he;omega
    have hfe:=hki.fs _ (As he);have hjl:j<(fs.map fieldA).length:=by omega
    have hat4:(fs.map fieldA)[j]?=some (fieldA fs[j]):=by rw[Ac,AX he];rfl
    rw[Jj he,Jq]at hvo;obtain⟨f,hfg⟩:=nm (fs[j]);obtain⟨m1,m2,m3,m4,m5⟩:=GH hfe;rw[hfg]at m1 m2 m3 m4 m5 hat4 hvo;obtain⟨tp,tbad⟩:=t;dsimp only at hvo;have htp:tp<=8*b.length:=htp;have q1:=fk R b tp f m2 m3 m4 m5 hb htp;have q2:=T7 (b:=b) (p:=tp) (n:=f.bits.toNat) htp;obtain⟨⟨v,e,q⟩,hz⟩:=nm (H7 b f.bits.toNat tp);rw[hz]at q1 q2 hvo;dsimp only at q1 q2 hvo;obtain⟨w,hw⟩:∃w,(if e≠0 then 0 else f.low+((v.toNat:Nat):Int))=w:=⟨_,rfl⟩;rw[hw]at q1 hvo;refine JL ?_;refine Ai λV=>?_;refine JB ?_
    refine FL ?_;refine JN ?_;refine RH q1 .fz ?_;(iterate 5 refine RK ?_);refine RGo.nil (by kernel_rfl) ?_;refine JA ?_;refine RG ?_;(iterate 3 refine WO ?_);refine Dq (iA w) ?_;refine WO ?_;refine Ay λY=>?_;refine JE ?_
    have hma:vs.map iA++[iA w]=(vs++[w]).map iA:=by simp
    rw[hma];refine JF ?_;exact DH (j+1) Y (vs++[w]) ⟨q,tbad||decide (e≠0)⟩ ⟨by omega,by rw[AJ,hvl];rfl,q2,hvo⟩ (by omega)
   ·have he:j=fs.length:=by rw[AZ,hfm]at he;omega
    have hdn:fs.drop j=[]:=Cf (by omega);rw[hdn]at hvo;have hvo:(vs,t)=(VS,sg):=hvo;injection hvo with e1 e2
    subst e1 e2;refine FL ?_;refine D7 (X:=F) (Y:=Y) .here (.next .here) rfl (.cons (.agg (.s (.cons (.base (.sl (by omega))) .nil))) .nil) ?_
    have hF:AV.frzs (((vs.map iA).drop 0).take j)=vs.map iA:=by
     rw[B7,Aj (by omega)];exact Frzs.h
    rw[hF];refine JG ?_;refine WO ?_;refine Dq (Ae false ⟨i,vs⟩) ?_;refine WO ?_;refine Ay λY=>?_;refine JB ?_
    have hma:o.map (Ae false)++[Ae false ⟨i,vs⟩]=(o++[(⟨i,vs⟩:Comp)]).map (Ae false):=by simp
    have hml:o.length+[Ae false ⟨i,vs⟩].length=(o++[(⟨i,vs⟩:Comp)]).length:=by simp
    rw[hma,hml];refine JF ?_;exact DH (i+1) Y (o++[⟨i,vs⟩]) t ⟨by omega,by rw[AJ,BM];omega,htp,hgo⟩ (by omega)
 ·have hc:i=ks.length:=by rw[AZ,hkm]at hc;omega
  have hdn:ks.drop i=[]:=Cf (by omega);rw[hdn]at hgo;have hgo:(o,s)=(CS,s2):=hgo;injection hgo with e1 e2
  subst e1 e2;refine FL ?_;refine PV (d:=5) rfl .here hpm ?_;have hF:AV.frzs (o.map (Ae false))=o.map (Ae false):=Frzs.h;rw[hF];refine R1 ?_;refine RT ?_;exact Ends.sp [B3 false false o] [(R,_),(X,_)] ⟨rfl,rfl⟩
theorem aB(R X:Nat)(b:List UInt8)(s:RdS)(ks:List Kind)(hk:∀k∈ks,KOK k)(h16:ks.length<=16)(hs:s.bad=false)(hb:b.length<=65536)(hp:s.p<=8*b.length):Spec prog 96 [.ptr X 0 0,BZ false false ks] (MI R X b s) λr S'=>r=wdA false ⟨ks,(Hi b ks s).1,(Hi b ks s).2.1⟩/\S'=MI R X b (Hi b ks s).2.2:=by
 have h1:=IQ R X b s 9 hb hp (by decide);have h2:=Kq (b:=b) (s:=s) (n:=9) (by decide);have h3:=GE (b:=b) (s:=s) (n:=9) hp;unfold Hi;obtain⟨⟨c,s1⟩,hz⟩:=nm (s.get b 9);rw[hz]at h1 h2 h3⊢;dsimp only at h1 h2 h3⊢;obtain⟨⟨GS,IS,s2⟩,hg⟩:=nm (FK b ks c 0 s1 [] []);rw[hg];dsimp only;refine Sp (nt:=69) (res:=[.cell 4 26]) func96 λSf=>?_
 refine JG ?_;refine Ai λZ=>?_;refine NL ?_
 refine JL ?_;refine Ai λV=>?_;refine JB ?_
 refine FL ?_;refine CM (Y:=V) 3 1 .here (λF=>.cons (.agg (.s (.cons (.base .nil) .r))) .nil) λG=>?_
 refine CM (Y:=V) 83 3 (.next .here) (λF=>.cons (.agg (.s (.s (.cons (.base .nil) .nil)))) .nil) λI=>?_
 refine JG ?_;refine Fj h1 .fz ?_;refine JB ?_;refine FL ?_;refine FP (λ(i G I:Nat) (z:List Int×List Item×RdS)=>⟨[(0,.ptr X 0 0),(1,BZ false false ks),(4,.ptr Z 0 0),(5,.ptr V 0 0),(12,iA c),(13,iA i)],(I,.row 83 3 (z.2.1.map (AQ false)))::(G,.row 3 1 (z.1.map iA))::(V,.row 26 3 [.agg [BZ false false ks,.sl G 0 z.1.length,.sl I 0 z.2.1.length]])::(Z,.row 26 3 [.agg [.prim (.slice none 0 0),.prim (.slice none 0 0),.prim (.slice none 0 0)]])::(MI R X b z.2.2++Sf)⟩) (λi G I z=>i<=c/\z.1.length<=i/\z.2.1.length<=i/\z.2.2.p<=8*b.length/\FK b ks (c-i) i z.2.2 z.1 z.2.1=(GS,IS,s2)) (λi _ _ _=>c-i) 0 G I ([],[],s1) ⟨by omega,by simp,by simp,h3,hg⟩ ?_;rintro i G I ⟨gs,its,s⟩ ⟨hi,hgl,hil,hsp,hgo⟩;dsimp only at hgl hil hsp hgo⊢;have hgm:gs.length=(gs.map iA).length:=by rw[AD]
 have him:its.length=(its.map (AQ false)).length:=by rw[AD]
 refine JH ?_;refine AC rfl (λhc=>?_) (λhc=>?_)
 ·have hc:i<c:=by rw[AS]at hc;omega
  obtain⟨sp,sb⟩:=s;have hsp:sp<=8*b.length:=hsp;have g1:=V2 R b sp hb hsp;have g2:=YX (b:=b) (p:=sp) hsp;rw[show c-i=(c-(i+1))+1 by omega,FK]at hgo;unfold Tm at hgo;dsimp only at hgo;obtain⟨⟨v,e,q⟩,hv⟩:=nm (Gw b sp);rw[hv]at g1 g2 hgo;dsimp only at g1 g2 hgo;refine JA ?_;refine JJ ?_;refine HS g1 .fz ?_;refine JE ?_;refine JA ?_;refine JH ?_;have hcast:decide ((1073741824:Int)<((v.toNat:Nat):Int))=decide (1073741824<v.toNat):=decide_eq_decide.2 (by omega)
  have hI:AV.frzs (((its.map (AQ false)).drop 0).take its.length)=its.map (AQ false):=by
   rw[B7,Aj (by omega)];exact Frzs.h
  have hG:AV.frzs (((gs.map iA).drop 0).take gs.length)=gs.map iA:=by
   rw[B7,Aj (by omega)];exact Frzs.h
  refine AC rfl (λhd=>?_) (λhd=>?_)
  ·have hd':=hd
   rw[hcast]at hd';rw[Ab hd']at hgo;injection hgo with e1 e2
   injection e2 with e2 e3
   subst e1 e2 e3;rw[hd];refine FL ?_;refine D7 (X:=I) (Y:=V) .here (.next (.next .here)) rfl (.cons (.agg (.s (.s (.cons (.base (.sl (by omega))) .nil)))) .nil) ?_;rw[hI];refine D7 (X:=G) (Y:=V) (.next .here) (.next (.next .here)) rfl (.cons (.agg (.s (.cons (.base (.sl (by omega))) .r))) .nil) ?_;rw[hG];refine R1 ?_;refine RT ?_;exact Ends.sp [wdA false ⟨ks,gs,its⟩] [(R,_),(X,_)] ⟨rfl,rfl⟩
  ·have hd':=hd
   rw[hcast]at hd';rw[AI (by rw[hd'];simp)]at hgo
   have hv30:v.toNat<=1073741824:=by
    simp only[DG,AZ]at hd';omega
   have k3:=IQ R X b ⟨q,false⟩ 1 hb g2 (by decide);have k4:=Kq (b:=b) (s:=⟨q,false⟩) (n:=1) (by decide);have k5:=GE (b:=b) (s:=⟨q,false⟩) (n:=1) g2;obtain⟨⟨w,sw⟩,hw⟩:=nm (RdS.get b ⟨q,false⟩ 1);rw[hw]at k3 k4 k5 hgo;dsimp only at k3 k4 k5 hgo;have hma:gs.map iA++[iA ((v.toNat:Nat):Int)]=(gs++[((v.toNat:Nat):Int)]).map iA:=by simp
   have hml:gs.length+[iA ((v.toNat:Nat):Int)].length=(gs++[((v.toNat:Nat):Int)]).length:=by simp
   rw[hd];refine JD ?_;(iterate 3 refine WO ?_);refine Ad ?_ (Mx .u64 (by omega) (by kernel_rfl) (by kernel_rfl) rfl);refine KO ?_;refine Ay λY=>?_;refine KO ?_
   refine AOps.nil ?_;rw[hma,hml];refine JI ?_;refine Fj k3 .fz ?_;refine JB ?_;refine FL ?_;refine AC rfl (λhx=>?_) (λhx=>?_)
   ·have hx:w=1:=by rw[AS]at hx;omega
    rw[Ab hx]at hgo;have m1:=aC R X b sw ks hk h16 hb k5;have m2:=Mv (b:=b) ks 0 sw [] k5;obtain⟨⟨CS,sc⟩,hcs⟩:=nm (EE b ks 0 sw []);rw[hcs]at m1 m2 hgo;dsimp only at m1 m2 hgo;have hmb:its.map (AQ false)++[AQ false ⟨⟨i,((v.toNat:Nat):Int)⟩,CS⟩]=(its++[(⟨⟨i,((v.toNat:Nat):Int)⟩,CS⟩:Item)]).map (AQ false):=by simp
    have hmlb:its.length+[AQ false ⟨⟨i,((v.toNat:Nat):Int)⟩,CS⟩].length=(its++[(⟨⟨i,((v.toNat:Nat):Int)⟩,CS⟩:Item)]).length:=by simp
    refine FL ?_;refine CN λY2=>?_
    refine RU ?_;(iterate 4 refine RK ?_);refine BT ?_ (Mx .u64 (by omega) (by kernel_rfl) (by kernel_rfl) rfl);refine KR ?_;refine RH m1 .fz ?_;refine RK ?_;refine H1 (AQ false ⟨⟨i,((v.toNat:Nat):Int)⟩,CS⟩) ?_;(iterate 3 refine RK ?_);refine RGo.nil (by kernel_rfl) ?_;rw[hmb,hmlb];refine KK ?_;exact DH (i+1) Y Y2 (gs++[((v.toNat:Nat):Int)],its++[(⟨⟨i,((v.toNat:Nat):Int)⟩,CS⟩:Item)],sc) ⟨by omega,by rw[AJ,BM];omega,by rw[AJ,BM];omega,m2,hgo⟩ (by omega)
   ·have hx:w≠1:=by rw[AZ]at hx;omega
    rw[AI hx]at hgo;refine KK ?_;exact DH (i+1) Y I (gs++[((v.toNat:Nat):Int)],its,sw) ⟨by omega,by rw[AJ,BM];omega,by show its.length<=i+1;omega,k5,hgo⟩ (by omega)
 ·have hc:i=c:=by rw[AZ]at hc;omega
  subst hc;rw[Co]at hgo;have hgo:(gs,its,s)=(GS,IS,s2):=hgo;injection hgo with e1 e2
  injection e2 with e2 e3
  subst e1 e2 e3;refine FL ?_;refine D7 (X:=I) (Y:=V) .here (.next (.next .here)) rfl (.cons (.agg (.s (.s (.cons (.base (.sl (by omega))) .nil)))) .nil) ?_
  have hI:AV.frzs (((its.map (AQ false)).drop 0).take its.length)=its.map (AQ false):=by
   rw[B7,Aj (by omega)];exact Frzs.h
  rw[hI];refine D7 (X:=G) (Y:=V) (.next .here) (.next (.next .here)) rfl (.cons (.agg (.s (.cons (.base (.sl (by omega))) .r))) .nil) ?_
  have hG:AV.frzs (((gs.map iA).drop 0).take gs.length)=gs.map iA:=by
   rw[B7,Aj (by omega)];exact Frzs.h
  rw[hG];refine R1 ?_;refine RT ?_;exact Ends.sp [wdA false ⟨ks,gs,its⟩] [(R,_),(X,_)] ⟨rfl,rfl⟩
theorem SOK.gt{gs:List Int}{n:Nat}{c:Item}{l:List Item}(h:SOK ks gs n (c::l))(hc:(n:Int)<c.ent.n):∀d∈c::l,(n:Int)<d.ent.n:=by
 intro d hd;rcases AP.1 hd with rfl|hd
 ·exact hc
 ·have:=(Al.1 h.so).1 d hd
  omega
theorem SOK.tl{gs:List Int}{n:Nat}{c:Item}{l:List Item}(h:SOK ks gs n (c::l)):SOK ks gs n l:=⟨h.gn,(Al.1 h.so).2,λd hd=>h.it d (by simp[hd])⟩
theorem Zv(X H:Nat)(s:Wr)(ks:List Kind)(gs:List Int)(its:List Item)(hk:∀k∈ks,KOK k)(h16:ks.length<=16)(hl:SOK ks gs 0 its)(hgl:gs.length<=256)(hil:its.length<=256)(hcl:∀x∈its,x.comps.length<=16)(hr:s.bs.length<=524288):
  Spec prog 89 [.ptr X 0 0,wdA false ⟨ks,gs,its⟩] (wsS X H s) λr S'=>∃K:Nat,r= .tup []/\S'=wsS X K (s.adds (Bo (UInt64.ofNat gs.length) 9::EC ks gs 0 its)):=by
 have hgm:(gs.map iA).length=gs.length:=AD _;have him:(its.map (AQ false)).length=its.length:=AD _;have n1:(UInt64.ofNat gs.length).toNat=gs.length:=by rw[Ax];omega
 have hp0:=Gk X H s (UInt64.ofNat gs.length) 9 (by decide) (by rw[n1];omega) hr;have hr1:=ER hr (Bo (UInt64.ofNat gs.length) 9);show Spec _ _ _ _ λr S'=>∃K:Nat,r= .tup []/\S'=wsS X K ((s.add (Bo (UInt64.ofNat gs.length) 9)).adds (EC ks gs 0 its))
 obtain⟨u0,hu0⟩:=nm (s.add (Bo (UInt64.ofNat gs.length) 9));rw[hu0]at hp0 hr1⊢;obtain⟨fin,hfin⟩:=nm (u0.adds (EC ks gs 0 its));rw[hfin];refine Sp (nt:=68) (res:=[]) func89 λSf=>?_
 refine JG ?_;refine Ai λB=>?_;refine NL ?_
 refine JD ?_;(iterate 4 refine WO ?_);refine Ad ?_ (Ge .i64 gs.length (by rw[hgm]) (by omega) (by kernel_rfl) (by kernel_rfl) rfl);refine EQ (h:=hp0) λK0=>?_;refine NL ?_
 refine JA ?_;refine JH ?_;refine FP (λ(i q:Nat) (K:Nat) (u:Wr)=>⟨[(0,.ptr X 0 0),(3,.ptr B 0 0),(4,iA q),(14,Av false gs),(15,iA (gs.map iA).length),(16,iA i)],(B,.row 26 3 [wdA false ⟨ks,gs,its⟩])::(wsS X K u++Sf)⟩) (λi q K u=>i<=gs.length/\q<=its.length/\u.bs.length<=524288/\SOK ks (gs.drop i) i (its.drop q)/\u.adds (EC ks (gs.drop i) i (its.drop q))=fin) (λi _ _ _=>gs.length-i) 0 0 K0 u0 ⟨by omega,by omega,hr1,hl,hfin⟩ ?_;rintro i q K u ⟨hi,hq,hru,hso,hu⟩;refine JH ?_;refine AC rfl (λhc=>?_) (λhc=>?_)
 ·have hc:i<gs.length:=by rw[AS,hgm]at hc;omega
  have hat0:(gs.map iA)[i]?=some (iA gs[i]):=by rw[Ac,AX hc];rfl
  have hilt:i<(gs.map iA).length:=by omega
  rw[Jj hc]at hso hu;obtain⟨g,hge⟩:=nm (gs[i]);rw[hge]at hso hu hat0;have hgn:=hso.gn g (by simp);refine JA ?_;refine JH ?_;have hz1:=ER hru (Cv (UInt64.ofInt g));obtain⟨u1,hu1⟩:=nm (u.add (Cv (UInt64.ofInt g)));rw[hu1]at hz1
  have hua:u1.adds (match its.drop q with|[]=>Bo 0 1::EC ks (gs.drop (i+1)) (i+1) []|it::l=>if it.ent.n=i then Bo 1 1::(EW ks 0 it.comps++EC ks (gs.drop (i+1)) (i+1) l)else Bo 0 1::EC ks (gs.drop (i+1)) (i+1) (it::l))=fin:=by
   rw[<-hu,<-hu1,<-GX]
   congr 1
   cases its.drop q with
   |nil=>rfl
   |cons it l=>
    rw[EC];dsimp only;split<;>rfl
  refine DR (λ_:Nat=>True) (λK=>⟨[(0,.ptr X 0 0),(3,.ptr B 0 0),(4,iA q),(5,iA i),(14,Av false gs),(15,iA (gs.map iA).length),(16,iA i)],(B,.row 26 3 [wdA false ⟨ks,gs,its⟩])::(wsS X K u1++Sf)⟩) ?_ ?_
  ·obtain⟨bs,e⟩:=u
   refine AC rfl (λhe=>?_) (λhe=>?_)
   ·have he:e=0:=by simpa using he
    have hru:bs.length<=524288:=hru;have hq3:=Yu 171 3 e X K bs (UInt64.ofInt g) hru;rw[J4 he]at hu1;change Wr.mk (Jy bs (Cv (UInt64.ofInt g))) (addE bs (Cv (UInt64.ofInt g)))=_ at hu1;obtain⟨er,her⟩:=nm (addE bs (Cv (UInt64.ofInt g)));obtain⟨ds,hds⟩:=nm (Jy bs (Cv (UInt64.ofInt g)));rw[her,hds]at hq3 hu1;subst hu1;refine JD ?_;(iterate 5 refine WO ?_);refine Ad ?_ (TB .i64 (by kernel_rfl) (by kernel_rfl) rfl);refine KY (h:=hq3) λK1=>?_;refine JE ?_
    exact⟨rfl,K1,CZ,by exact FE,by exact BL⟩
   ·have he:e≠0:=by simpa using he
    rw[J5 he]at hu1;subst hu1;refine WK ?_;exact⟨rfl,K,CZ,by exact FE,by exact BL⟩
  ·intro K1 _
   refine FL ?_;by_cases hql:q=its.length
   ·have hd:decide ((q:Int)<((its.map (AQ false)).length:Int))=false:=Au (by rw[him];omega)
    have hdn:its.drop q=[]:=Cf (by omega);rw[hdn]at hua hso;dsimp only at hua;rw[GX]at hua;have hz:=λK=>Gk X K u1 0 1 (by decide) (by decide) hz1
    have hz2:=ER hz1 (Bo 0 1);obtain⟨u2,hu2⟩:=nm (u1.add (Bo 0 1));rw[hu2]at hz hz2 hua;have hso':SOK ks (gs.drop (i+1)) (i+1) []:=hso.next (λc hc=>by cases hc);refine JH ?_;refine AB rfl (by simp) ?_;refine JI ?_;refine EQ (h:=hz _) λK2=>?_;refine NL ?_
    refine KK ?_;exact DH (i+1) q K2 u2 ⟨by omega,by omega,hz2,by rw[hdn];exact hso',by rw[hdn];exact hua⟩ (by omega)
   ·have hql:q<its.length:=by omega
    have hd:decide ((q:Int)<((its.map (AQ false)).length:Int))=true:=BP (by rw[him];omega);have hqm:q<(its.map (AQ false)).length:=by omega
    have hdq:=Jj hql;have hcle:=hcl _ (As hql);rw[hdq]at hua hso;obtain⟨⟨⟨en,eg⟩,cs⟩,hce⟩:=nm (its[q]);rw[hce]at hua hso hdq hcle;have hat2:(its.map (AQ false))[q]?=some (AQ false ⟨⟨en,eg⟩,cs⟩):=by rw[Ac,AX hql,hce];rfl
    obtain⟨hk1,hk2,hk3,hk4⟩:=hso.it ⟨⟨en,eg⟩,cs⟩ (by simp);dsimp only at hk1 hk2 hk3 hk4 hua hcle;refine JH ?_;refine AC rfl (λhb=>?_) (λhb=>?_)
    ·have hb:en=(i:Int):=by simpa using hb
     rw[Ab hb,GX,IB]at hua;have ho:=λK=>Gk X K u1 1 1 (by decide) (by decide) hz1
     have ho1:=ER hz1 (Bo 1 1);obtain⟨u2,hu2⟩:=nm (u1.add (Bo 1 1));rw[hu2]at ho ho1 hua;have hcs:=λK=>Z5 X K u2 ks cs hk h16 hk4 hcle ho1
     have hru3:=FB (EW ks 0 cs) ho1;obtain⟨u3,hu3⟩:=nm (u2.adds (EW ks 0 cs));rw[hu3]at hcs hua hru3
     have hso':=hso.tl.next (λd hd=>by
      have:=(Al.1 hso.so).1 d hd;have:en<d.ent.n:=this;omega)
     refine JI ?_;refine EQ (h:=ho _) λK2=>?_;refine NL ?_
     refine FL ?_;(repeat refine WF ?_);refine AWP.region_runE (by kernel_rfl) (by kernel_rfl) ?_;(repeat refine PT ?_);refine V8 (h:=hcs _) (λK6=>?_);refine RGo.nil (by kernel_rfl) ?_;refine JF ?_;refine KK ?_;exact DH (i+1) (q+1) K6 u3 ⟨by omega,by omega,hru3,hso',hua⟩ (by omega)
    ·have hb:en≠(i:Int):=by simpa using hb
     rw[AI hb,GX]at hua;have hz:=λK=>Gk X K u1 0 1 (by decide) (by decide) hz1
     have hz2:=ER hz1 (Bo 0 1);obtain⟨u2,hu2⟩:=nm (u1.add (Bo 0 1));rw[hu2]at hz hz2 hua;have hso':=hso.next (hso.gt (by show(i:Int)<en;omega));refine JI ?_;refine EQ (h:=hz _) λK2=>?_;refine NL ?_
     refine KK ?_;exact DH (i+1) q K2 u2 ⟨by omega,by omega,hz2,by rw[hdq];exact hso',by rw[hdq];exact hua⟩ (by omega)
 ·have hc:i=gs.length:=by rw[AZ,hgm]at hc;omega
  have hdn:gs.drop i=[]:=Cf (by omega);rw[hdn]at hu;have hu:u=fin:=hu;subst hu;refine KK ?_;refine Eo ?_;exact CH [(K,_),(X,_)] ⟨K,rfl,rfl⟩
theorem Yq{l:List Comp}(h:COK ks 0 l):l.length<=ks.length:=by
 have:∀(l:List Comp) (n:Nat),l.Pairwise (λa b=>a.kind<b.kind)->(∀c∈l,(n:Int)<=c.kind/\c.kind<ks.length)->n<=ks.length->l.length+n<=ks.length:=by
  intro l
  induction l with
  |nil=>intro n _ _ h;simpa using h
  |cons c l ih=>
   intro n hp hb hn;obtain⟨h1,h2⟩:=Al.1 hp;have h3:=hb c (by simp)
   have:=ih (n+1) h2 (λd hd=>by
    have h4:=h1 d hd;have h5:=hb d (by simp[hd]);omega) (by omega)
   rw[Bl];omega
 have:=this l 0 h.so (λc hc=>by
  obtain⟨a,b,_⟩:=h.it c hc;exact⟨by simpa using a,by simpa using b⟩) (Ap _)
 simpa using this
theorem Ue(w:Wd)(hg:w.gens.length<=1099511627776)(hi:w.items.length<=1099511627776)(hc:∀it∈w.items,it.comps.length<=1099511627776):PS prog 28 [wdA false w] (.tup [ysA (Ip w).1,iA (Ip w).2]):=by
 have h0:=Hr w hg hi hc;obtain⟨we,hwe⟩:=nm (E6 w);unfold Ip;rw[hwe]at h0⊢;refine Sp (nt:=40) (res:=[.tmp 2,.tmp 3]) func28 λSf=>?_
 refine JG ?_;refine Ai λB=>?_;refine JE ?_
 refine JI ?_;refine BE (h:=(h0 ..)) (k:=?_);refine JB ?_;refine JA ?_;refine AC rfl (λhb=>?_) (λhb=>?_)
 ·have hb:we≠0:=by simpa using hb
  rw[Ab hb];refine JC ?_;exact Cp [.prim (.slice none 0 0),iA we] [ysA [],iA we] (.cons (.cell .nil) (.cons (.cell .same) .nil))
 ·have hb:we=0:=by simpa using hb
  subst hb;rw[AI (by simp)];have hok:=(Ck w).1 hwe;obtain⟨ks,gs,its⟩:=w;have hks:∀k∈ks,KOK k:=λk hk=>QE ((CQ hok.ks).2 k hk)
  have h16:ks.length<=16:=(CQ hok.ks).1;have hso:SOK ks gs 0 its:=Wk hok;have hgl:gs.length<=256:=hok.gl;have hil:its.length<=256:=Bh hok.il hgl;have hcl:∀x∈its,x.comps.length<=16:=λx hx=>Bh (Yq (hso.it x hx).2.2.2) h16
  have hw:Wr.adds ⟨[],0⟩ (Fg ⟨ks,gs,its⟩)=(((Wr.mk [] 0).add (Bo 1 8)).adds (Mn ks)).adds (Bo (UInt64.ofNat gs.length) 9::EC ks gs 0 its):=by
   unfold Fg;rw[GX,IB]
  rw[hw];have hr0:(Wr.mk [] 0).bs.length<=524288:=by decide
  have p1:=λX H=>Gk X H ⟨[],0⟩ 1 8 (by decide) (by decide) hr0
  have hr1:=ER hr0 (Bo 1 8);obtain⟨u1,hu1⟩:=nm ((Wr.mk [] 0).add (Bo 1 8));rw[hu1]at p1 hr1⊢;have p2:=λX H=>Zu X H u1 ks hks h16 hr1
  have hr2:=FB (Mn ks) hr1;obtain⟨u2,hu2⟩:=nm (u1.adds (Mn ks));rw[hu2]at p2 hr2⊢;have p3:=λX H=>Zv X H u2 ks gs its hks h16 hso hgl hil hcl hr2
  have hr3:=FB (Bo (UInt64.ofNat gs.length) 9::EC ks gs 0 its) hr2;obtain⟨u3,hu3⟩:=nm (u2.adds (Bo (UInt64.ofNat gs.length) 9::EC ks gs 0 its));rw[hu3]at p3 hr3⊢;refine JL ?_;refine Ai λX=>?_;refine JB ?_
  refine FL ?_;refine CM 5 1 .here (λK=>.cons (.agg (.cons (.base .nil) .r)) .nil) λH=>?_
  refine JG ?_;refine EQ (h:=p1 _ _) λK1=>?_;refine NL ?_
  refine JD ?_;(iterate 3 refine WO ?_);refine KY (h:=p2 _ _) λK2=>?_;refine NL ?_
  refine JI ?_;refine WO ?_;refine KY (h:=p3 _ _) λK3=>?_;refine NL ?_
  refine FL ?_;refine CN λY=>?_
  obtain⟨bs,e⟩:=u3;have hr3:bs.length<=524288:=hr3;have hby:=λX H=>ZM 171 3 e X H bs hr3
  refine JJ ?_;refine HS (hby _ _) .ls ?_;refine JB ?_;refine FL ?_;have hpm:((Ca bs).map yA).length=(Ca bs).length:=AD _;have hpl:(Ca bs).length<=65537:=by rw[G7];omega
  refine JH ?_;refine AC rfl (λhb=>?_) (λhb=>?_)
  ·have hb:e≠0\/65536<(Ca bs).length+8:=by
    rw[hpm]at hb;simp only[CE,AS]at hb;rcases hb with hb|hb
    ·exact .inl hb
    ·exact .inr (by omega)
   rw[Ab hb];refine JC ?_;exact Cp [.prim (.slice none 0 0),iA 2] [ysA [],iA 2] (.cons (.cell .nil) (.cons (.cell .same) .nil))
  ·have hb:¬(e≠0\/65536<(Ca bs).length+8):=by
    rw[hpm]at hb;simp only[DG,AZ]at hb;omega
   rw[AI hb];have hse:=λX=>YN X (Ca bs) _ hpm (by omega)
   obtain⟨sb,hsb⟩:=nm (Jb (Ca bs));rw[hsb]at hse⊢;refine JI ?_;refine WL (h:=hse _) λK4=>?_;refine JE ?_
   refine RT ?_;exact Cp [ysA sb,iA 0] [ysA sb,iA 0] (.cons (.cell .same) (.cons (.cell .same) .nil))
end Go.Proofs.YtmkahplhnbbgmaaGreat
