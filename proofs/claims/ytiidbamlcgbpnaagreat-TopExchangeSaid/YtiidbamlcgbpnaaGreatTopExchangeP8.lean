/-
  Part 8 of the texts under the law TopExchange: the layer of abstract values, walks and plain laws. Conditions: those that each theorem names.
-/
import Derived.Below
import Derived.Test.YtiidbamlcgbpnaaGreatTopExchangeP7
namespace Go.Proofs.YtiidbamlcgbpnaaGreat
set_option linter.unusedVariables false
set_option linter.unusedSimpArgs false
set_option linter.defProp false
set_option maxRecDepth 10000
set_option maxHeartbeats 4000000
abbrev T7(b:Bool)(l:List Bool):AV:=.lst b 4 1 (l.map bA)
theorem ArFor.sorted{a:Ar}{w:Wd}(h:ArFor a w){L:List Item}(hp:L.Perm (Aw a.ts))(hs:L.Pairwise λx y=>x.ent.n<=y.ent.n):L=w.items:=by
 refine List.Perm.eq_of_pairwise (le:=λx y=>x.ent.n<=y.ent.n) (λx y hx hy h1 h2=>?_) hs (h.wok.so.imp λh=>by omega) (hp.trans h.items);exact NM (key:=λx:Item=>x.ent.n) h.wok.so ((hp.trans h.items).mem_iff.1 hx) hy (by omega)
theorem W8{d:List Bool}{i n:Nat}{b:Bool}(hd:d.length=i)(h:i<n):((d++List.replicate (n-i) false).map bA).set i (bA b)=((d++[b])++List.replicate (n-(i+1)) false).map bA:=by
 rw[<-List.map_set]
 congr 1
 rw[List.set_append_right _ _ (by omega),hd,Nat.sub_self,show n-i=(n-(i+1))+1 by omega,List.replicate_succ,List.set_cons_zero,AT];rfl
structure CmdsL(ks:List Kind)(l:List Cmd):Prop where
 ok:∀c∈l,(C2 ks c).2=0
 n:∀c∈l,I64 c.ent.n
 l:∀c∈l,c.comps.length<=1099511627776
theorem SZ{w v:Wd}{l:List Cmd}{i:Nat}{c:Cmd}{es:List Ent}{ds:List Bool}(h:i<l.length)(hc:l[i]=c)(he:DT w l=((DT v (l.drop i)).1,es++(DT v (l.drop i)).2.1,ds++(DT v (l.drop i)).2.2)):
  DT w l=((DT (FA v c).1 (l.drop (i+1))).1,(if(FA v c).2.2=true/\c.act=3 then es++[(FA v c).2.1]else es)++(DT (FA v c).1 (l.drop (i+1))).2.1,(ds++[(FA v c).2.2])++(DT (FA v c).1 (l.drop (i+1))).2.2):=by
 rw[he,CG h,hc,DT];dsimp only;split
 ·simp
 ·simp
theorem SO(w:Wd)(l:List Cmd)(hw:WdOK w)(h12:w.kinds.length<=12)(hl:l.length<=131072)(hc:CmdsL w.kinds l):PS Tryz.prog 163 [wdA false w,CQ false l] (.tup [wdA false (DT w l).1,.lst true 32 2 ((DT w l).2.1.map BA),T7 true (DT w l).2.2]):=by
 have hof:=Wf w hw;have hlm:(l.map Bp).length=l.length:=AB _;refine Sp (nt:=58) (res:=[.cell 4 26,.tmp 5,.tmp 6]) Tryz.func163 λSf=>?_
 refine RG ?_;refine AOps.g_box ?_;refine Ad ?_;refine WO ?_;refine Ai λP=>?_;refine JE ?_
 refine JJ ?_;refine AOps.gN ?_;refine RF [_] (h:=hof) (k:=λa ha=>?_);refine JE ?_;obtain⟨a1,a2,a3,a4,a5⟩:=ha;have hf:ArFor a w:=⟨a1,a2,a3,a4,a5,hw⟩;refine JC ?_;refine AA rfl rfl ?_;refine JC ?_;refine JJ ?_;refine WO ?_;refine Dt ?_;refine Fm (bA false) λK=>?_;refine JB ?_
 refine JL ?_;refine AWP.adopt (d:=9) 32 2 rfl λO=>?_
 refine D4 (λ(i Y:Nat) (z:Ar×Wd×List Ent×List Bool)=>⟨[(2,.fp (wdA false w).cells),(4,.ptr P 0 0),(7,.ptr a.A 0 0),(9,.sl Y 0 z.2.2.1.length),(10,.sl K 0 (l.map Bp).length),(26,CQ false l),(27,iA (l.map Bp).length),(28,iA i)],(Y,.row 32 2 (z.2.2.1.map BA))::(K,.row 4 1 ((z.2.2.2++List.replicate (l.length-i) false).map bA))::(P,.row 26 3 [.agg [.prim (.slice none 0 0),.prim (.slice none 0 0),.prim (.slice none 0 0)]])::(arS z.1++Sf)⟩) (λi Y z=>i<=l.length/\ArFor z.1 z.2.1/\z.1.A=a.A/\z.2.1.kinds=w.kinds/\z.2.2.1.length<=i/\z.2.2.2.length=i/\DT w l=((DT z.2.1 (l.drop i)).1,z.2.2.1++(DT z.2.1 (l.drop i)).2.1,z.2.2.2++(DT z.2.1 (l.drop i)).2.2)) (λi _ _=>l.length-i) 0 O (a,w,[],[]) ⟨Nat.zero_le _,hf,rfl,rfl,Nat.le_refl _,rfl,rfl⟩ ?_ (h0:=⟨by exact Lk.f,by rw[hlm,Nat.sub_zero,BD,List.map_replicate];exact Sub.f⟩);rintro i Y ⟨z,v,es,ds⟩ ⟨hi,hz,hzA,hvk,hes,hds,hrun⟩;dsimp only at hz hzA hvk hes hds hrun⊢;refine JN ?_;refine AWP.cond rfl (λhb=>?_) (λhb=>?_)
 ·have h:i<l.length:=by rw[AE,hlm]at hb;omega
  obtain⟨c,hcc⟩:=nm (l[i]);have hcm:c∈l:=by rw[<-hcc];exact AU h
  have hat:(l.map Bp)[i]?=some (Bp c):=by rw[AH,AI h,hcc];rfl
  have hact:=WQ hz (by rw[hvk];exact h12) c (by rw[hvk];exact hc.ok c hcm) (hc.n c hcm) (hc.l c hcm);have hnx:=SZ h hcc hrun;obtain⟨⟨v2,x,ok⟩,hv2⟩:=nm (FA v c);rw[hv2]at hact hnx;dsimp only at hact hnx;have hnl:i<((ds++List.replicate (l.length-i) false).map bA).length:=by rw[AB,AP,List.length_replicate];omega
  have hset:=W8 (b:=ok) hds h
  have hvk2:v2.kinds=w.kinds:=by
   have:=(Q8 hz.wok (c:=c) (by rw[hvk];exact hc.ok c hcm)).2;rw[hv2]at this;exact this.trans hvk
  rw[<-hzA];refine JI ?_;refine Ai λC=>?_;refine JE ?_
  refine JJ ?_;refine WO ?_;refine AOps.gN ?_;refine Ju [_,_,_,_] (h:=hact) (k:=λb hb2=>?_);refine KO ?_;refine Ai λV=>?_;refine JE ?_
  obtain⟨hb1,hb2⟩:=hb2;refine JC ?_;dsimp only[AX,List.set_cons_zero,List.set_cons_succ,BJ,BD];rw[hset];refine FL ?_;have hEl:(es.map BA).length=es.length:=AB _;cases ok with
  |false=>
   rw[if_neg (by simp)]at hnx;refine R1 ?_;refine AA rfl rfl ?_;refine JC ?_;exact CW (i+1) Y (b,v2,es,ds++[false]) ⟨h,hb1,hb2,hvk2,by dsimp only;omega,by rw[AP,hds];rfl,hnx⟩ (by omega)
  |true=>
   refine R1 ?_;refine AWP.cond rfl (λh3=>?_) (λh3=>?_)
   ·have h3:c.act=3:=of_decide_eq_true h3
    rw[if_pos ⟨rfl,h3⟩]at hnx;refine FL ?_;have hb1':(es.map BA).length+1<=1099511627776:=by omega
    refine JF ?_;refine WO ?_;refine AOps.g_lit ?_;refine AOps.goL (BA x) ?_;refine WO ?_;refine Ay λY=>?_;refine JB ?_
    refine FL ?_;dsimp only[AX,List.set_cons_zero,List.set_cons_succ,BJ,BD];have hm1:es.map BA++[BA x]=(es++[x]).map BA:=by rw[List.map_append];rfl
    have hm2:es.length+[BA x].length=(es++[x]).length:=by rw[AP];rfl
    rw[hm1,hm2];refine R1 ?_;exact CW (i+1) Y (b,v2,es++[x],ds++[true]) ⟨h,hb1,hb2,hvk2,by rw[AP];show es.length+1<=i+1;omega,by rw[AP,hds];rfl,hnx⟩ (by omega)
   ·have h3:¬c.act=3:=of_decide_eq_false h3
    rw[if_neg (λe=>h3 e.2)]at hnx;refine JC ?_;exact CW (i+1) Y (b,v2,es,ds++[true]) ⟨h,hb1,hb2,hvk2,by dsimp only;omega,by rw[AP,hds];rfl,hnx⟩ (by omega)
 ·have h:i=l.length:=by rw[AN,hlm]at hb;omega
  subst h;rw[List.drop_length]at hrun;simp only[DT,List.append_nil]at hrun;have hkk:=Bt hz.wok.ks;have har:=QM z hz.ok hz.ne (by rw[hz.kinds];exact hkk.1) (λk hk=>(Dn (hkk.2 k (by rw[<-hz.kinds];exact hk))).2.1) (by rw[hz.gens];exact hz.wok.gl) (λit hit=>(hz.wok.wl.items.2 it (hz.items.mem_iff.1 hit)));rw[<-hzA];refine JJ ?_;refine AOps.gN ?_;refine RF [_,_,_] (h:=har) (k:=λL hL=>?_);refine JE ?_;have hLe:=hz.sorted hL.1 hL.2;refine RT ?_;rw[hrun];have hv:(⟨z.kinds,z.gens,L⟩:Wd)=v:=by rw[hz.kinds,hz.gens,hLe]
  rw[hv,Nat.sub_self,List.replicate_zero,List.append_nil];dsimp only[AX,List.set_cons_zero,List.set_cons_succ,BJ,BD];exact Bw [wdA false v,.sl Y 0 es.length,.sl K 0 (l.map Bp).length] [wdA false v,.lst true 32 2 (es.map BA),T7 true ds] (.cons (.cell .same) (.cons (.cell (.sl (p:=0) .here (by rw[AB]))) (.cons (.cell (.sl (p:=0) .here (by rw[hlm,AB,hds]))) .nil))) (hS:=by repeat (first|exact List.sublist_append_right _ _|apply List.Sublist.cons))
theorem UD(w:Wd)(l:List Cmd)(hw:WdOK w)(h12:w.kinds.length<=12)(hl:l.length<=131072)(hc:CmdsL w.kinds l):PS Tryz.prog 80 [wdA false w,CQ false l] (.tup [wdA false (DT w l).1,LF (DT w l).2.1,iA 0]):=by
 have hck:=Ou w l hw.wl h12 (by omega) hc.l;rw[cmdErr_iff.2 ⟨hw,hl,hc.ok⟩]at hck;have hrn:=SO w l hw h12 hl hc;refine Sp (nt:=27) (res:=[.cell 4 26,.tmp 5,.tmp 6]) Tryz.func80 λSf=>?_
 refine RG ?_;refine AOps.g_box ?_;refine Ad ?_;refine WO ?_;refine Ai λP=>?_;refine JE ?_
 refine JI ?_;refine AOps.g_callf ?_;refine AOps.c2 (h:=(hck ..)) (k:=?_);refine JB ?_;refine JC ?_;refine AA rfl rfl ?_;refine JI ?_;refine AOps.g_callf ?_;refine AOps.c2 (h:=(hrn ..)) (k:=?_);refine KO ?_;refine Ai λV=>?_;refine JE ?_
 refine JK ?_;exact GD (rs:=[wdA false (DT w l).1,LF (DT w l).2.1,iA 0]) rfl
structure CmdG(ks:List Kind)(c:Cmd):Prop where
 ok:(C2 ks c).2=0
 n:I64 c.ent.n
 l:c.comps.length<=16
 v:∀d∈c.comps,d.vals.length<=8
theorem CmdG.of{ks:List Kind}(hk:Al ks=0){c:Cmd}(h:(C2 ks c).2=0)(hn:I64 c.ent.n)(hc:∃l,A8 ks c.comps=true\/c.comps=l/\A8 ks l=true):CmdG ks c:=by
 have hh:A8 ks c.comps=true:=by
  obtain⟨l,h|⟨h1,h2⟩⟩:=hc
  ·exact h
  ·rw[h1];exact h2
 obtain⟨h1,h2⟩:=ED hk hh;exact⟨h,hn,h1,h2⟩
theorem OV(ks:List Kind):A8 ks []=true:=rfl
theorem T1{ks:List Kind}{s:Sys}{index:Int}{e:Ent}{o:Op}{st:Rn}(hk:Al ks=0)(hs:SysG ks s)(hn:I64 e.n)(ho:OpG ks s.reads s.writes o)(h:∀c∈st.cmds,CmdG ks c):∀c∈(doM ks s index e o st).cmds,CmdG ks c:=by
 unfold doM;split
 ·exact h
 ·rename_i hset
  split
  ·exact h
  ·split
   ·exact h
   ·rename_i h12
    intro c hc;rcases List.mem_append.1 hc with hc|hc
    ·exact h c hc
    ·rw[BO]at hc
     subst hc;split
     ·rename_i h8
      obtain⟨p1,p2,_⟩:=ho.puts (.inl h8);obtain⟨k,hkk⟩:∃k:Nat,o.to.kind=k:=⟨o.to.kind.toNat,by omega⟩;have hkl:k<ks.length:=by omega
      have hka:ks[k]?=some ks[k]:=AI hkl;have hone:=(Bt hk).2 _ (AU hkl);have hde:LI ks o.to.kind=(BY ks[k] (List.replicate ks[k].fields.length 0)).1:=by unfold LI;rw[hkk,Int.toNat_natCast,hka]
      have hf0:=H8 hone (vals:=List.replicate ks[k].fields.length 0) (by simp);have hho:=Dp (k:=ks[k]) (v:=List.replicate ks[k].fields.length 0) (by rw[hf0]);have hfo:IM ks ⟨o.to.kind,LI ks o.to.kind⟩:=⟨p1,p2,ks[k],by dsimp only;rw[hkk,Int.toNat_natCast,hka],by rw[hde,Do hho.1]⟩
      have hld:A8 ks [⟨o.to.kind,LI ks o.to.kind⟩]=true:=by
       refine held_iff.2 ⟨List.pairwise_singleton ..,λd hd=>?_⟩;rw[BO]at hd;subst hd;exact⟨p1,p2,ks[k],by dsimp only;rw[hkk,Int.toNat_natCast,hka],by rw[hde];exact hho.1⟩
      refine .of hk ?_ hn ⟨[],.inl hld⟩;show(CL ks [_]).2=0
      rw[Jz hk hfo]
     ·rename_i h8
      split
      ·rename_i h9
       obtain⟨p1,p2,_⟩:=ho.puts (.inr h9);refine .of hk ?_ hn ⟨[],.inl (OV ks)⟩;show(if o.to.kind<0\/(ks.length:Int)<=o.to.kind then(([],1):List Comp×Int)else([],0)).2=0
       rw[if_neg (by omega)]
      ·split
       ·exact .of hk rfl hn ⟨[],.inl (OV ks)⟩
       ·have hld:=GK hs.spawn
        refine .of hk ?_ ⟨by show(-9223372036854775808:Int)<=0;decide,by show(0:Int)<=9223372036854775807;decide⟩ ⟨[],.inl hld⟩;show(CL ks (CL ks s.spawn).1).2=0
        rw[IS hk hld]
theorem MN{ks:List Kind}{s:Sys}{index:Int}{e:Ent}(hk:Al ks=0)(hs:SysG ks s)(hn:I64 e.n):∀(os:List Op) {st:Rn} (ho:∀o∈os,OpG ks s.reads s.writes o) (h:∀c∈st.cmds,CmdG ks c),∀c∈(C6 ks s index e os st).cmds,CmdG ks c
 |[],st,ho,h=>h
 |o::os,st,ho,h=>MN hk hs hn os (λo' h'=>ho o' (by simp[h'])) (T1 (index:=index) hk hs hn (ho o (by simp)) h)
theorem KI{ks:List Kind}{s:Sys}{index seed tick:Int}(hk:Al ks=0)(hs:SysG ks s):∀(qs:List (Nat×Item)) (b:List Item×List Cmd×List Evt),(∀q∈qs,I64 q.2.ent.n)->(∀c∈b.2.1,CmdG ks c)->∀c∈(EP ks s index seed tick qs b).2.1,CmdG ks c
 |[],b,_,h=>h
 |q::qs,b,hq,h=>KI hk hs qs (b.1.set q.1 ⟨q.2.ent,(Da ks s index seed tick q.2 b.2.1 b.2.2).comps⟩,(Da ks s index seed tick q.2 b.2.1 b.2.2).cmds,(Da ks s index seed tick q.2 b.2.1 b.2.2).evs) (λq' h'=>hq q' (by simp[h'])) (MN hk hs (hq q (by simp)) s.ops hs.ops h)
abbrev wdR(w:Wd)(s:Sys)(index seed tick:Int):Wd:=⟨w.kinds,w.gens,(CU w s index seed tick).1⟩
def Dg(seed tick:Int):Wd->Nat->List Sys->Wd×List (List Cmd)×List Evt
 |w,i,[]=>(w,[],[])
 |w,i,s::l=>((Dg seed tick (wdR w s i seed tick) (i+1) l).1,(CU w s i seed tick).2.1::(Dg seed tick (wdR w s i seed tick) (i+1) l).2.1,(CU w s i seed tick).2.2++(Dg seed tick (wdR w s i seed tick) (i+1) l).2.2)
def Hs(w:Wd)(l:List Sys)(seed tick:Int):Wd×List Evt:=((DT (Dg seed tick w 0 l).1 (Dg seed tick w 0 l).2.1.flatten).1,(Dg seed tick w 0 l).2.2.take 256)
structure TickG(w:Wd)(l:List Sys):Prop where
 ok:WdOK w
 k12:w.kinds.length<=12
 sg:∀s∈l,SysG w.kinds s
 l24:l.length<=24
theorem TickG.n{w:Wd}{l:List Sys}(h:TickG w l){s:Sys}(hs:s∈l):(DH w.items s.wth s.wout).length*s.ops.length<=5120:=by
 have h1:=Iv w.items s.wth s.wout;have h2:=(h.sg s hs).len;have h3:=h.ok.il;have h4:=h.ok.gl;exact Nat.le_trans (Nat.mul_le_mul (show _<=256 by omega) h2) (by decide)
theorem TickG.r{w:Wd}{l:List Sys}(h:TickG w l){s:Sys}(hs:s∈l)(i seed tick:Int):WdOK (wdR w s i seed tick):=(BL _).1 (Qn ((BL w).2 h.ok) (h.sg s hs))
theorem TickG.cmds{w:Wd}{l:List Sys}(h:TickG w l){s:Sys}(hs:s∈l)(i seed tick:Int):(∀c∈(CU w s i seed tick).2.1,CmdG w.kinds c)/\(CU w s i seed tick).2.1.length<=5120/\(CU w s i seed tick).2.2.length<=5120:=by
 have hm:∀q∈DH w.items s.wth s.wout,q.2∈w.items:=λq hq=>Mn hq
 refine⟨KI h.ok.ks (h.sg s hs) _ _ (λq hq=>?_) (λc hc=>by cases hc),?_⟩
 ·have h1:=h.ok.it q.2 (hm q hq)
  have h2:=h.ok.gl;constructor<;>omega
 ·have hr:=Hy (ks:=w.kinds) (s:=s) (index:=i) (seed:=seed) (tick:=tick) h.ok.ks (h.sg s hs).ops (DH w.items s.wth s.wout) (w.items,[],[]) (λq hq=>?_)
  ·have:=h.n hs
   obtain⟨r1,r2,_⟩:=hr;simp only[List.length_nil,Nat.zero_add]at r1 r2;exact⟨Nat.le_trans r1 this,Nat.le_trans r2 this⟩
  ·exact(Mp (h.sg s hs) (λit hit=>(h.ok.it it hit).2.2.2.2) q hq).2
theorem CmdG.sl{ks:List Kind}{l:List Cmd}(h:∀c∈l,CmdG ks c):CmdsL ks l/\∀c∈l,CsL c.comps:=
 ⟨⟨λc hc=>(h c hc).ok,λc hc=>(h c hc).n,λc hc=>by have:=(h c hc).l;omega⟩,λc hc=>⟨by have:=(h c hc).l;omega,λd hd=>by have:=(h c hc).v d hd;omega⟩⟩
theorem Jm{seed tick:Int}:∀(l:List Sys) (w:Wd) (i:Nat),TickG w l->WdOK (Dg seed tick w i l).1/\(Dg seed tick w i l).1.kinds=w.kinds/\(Dg seed tick w i l).1.gens=w.gens/\(Dg seed tick w i l).2.1.length=l.length/\(Dg seed tick w i l).2.1.flatten.length<=5120*l.length/\(Dg seed tick w i l).2.2.length<=5120*l.length/\∀x∈(Dg seed tick w i l).2.1,∀c∈x,CmdG w.kinds c
 |[],w,i,h=>⟨h.ok,rfl,rfl,rfl,Nat.le_refl _,Nat.le_refl _,λx hx=>by cases hx⟩
 |s::l,w,i,h=>by
  have hm:s∈s::l:=by simp
  obtain⟨g1,g2,g3⟩:=h.cmds hm i seed tick;have hr:=h.r hm i seed tick;have hl:=h.l24;obtain⟨k1,k2,k3,k4,k5,k6,k7⟩:=Jm (seed:=seed) (tick:=tick) l (wdR w s i seed tick) (i+1) ⟨hr,h.k12,λt ht=>h.sg t (by simp[ht]),by rw[Bs]at hl;omega⟩;refine⟨k1,k2,k3,?_,?_,?_,λx hx=>?_⟩
  ·rw[Dg,Bs,Bs,k4]
  ·rw[Dg,List.flatten_cons,AP,Bs];omega
  ·rw[Dg,AP,Bs];omega
  ·rw[Dg]at hx
   rcases List.mem_cons.1 hx with rfl|hx
   ·exact g1
   ·exact k7 x hx
theorem TickG.all{w:Wd}{l:List Sys}(h:TickG w l)(seed tick:Int):∀c∈(Dg seed tick w 0 l).2.1.flatten,CmdG w.kinds c:=λc hc=>by
 obtain⟨x,hx,hcx⟩:=List.mem_flatten.1 hc;exact(Jm (seed:=seed) (tick:=tick) l w 0 h).2.2.2.2.2.2 x hx c hcx
theorem TickG.tick{w:Wd}{l:List Sys}(h:TickG w l)(seed tick:Int):TickG (Hs w l seed tick).1 l/\(Hs w l seed tick).1.kinds=w.kinds:=by
 obtain⟨k1,k2,_⟩:=Jm (seed:=seed) (tick:=tick) l w 0 h;have ha:=h.all seed tick;obtain⟨r1,r2⟩:=Qm k1 (l:=(Dg seed tick w 0 l).2.1.flatten) λc hc=>by rw[k2];exact(ha c hc).ok
 have hk:(Hs w l seed tick).1.kinds=w.kinds:=r2.trans k2;exact⟨⟨r1,by rw[hk];exact h.k12,λs hs=>by rw[hk];exact h.sg s hs,h.l24⟩,hk⟩
theorem L5(a b:List Cmd)(f:FuncId)(cap:List AV)(p:Cmd->Cmd->Bool)(hs:B6 cap=true)(hl:a.length<=4611686018427387904)(hf:∀x∈a,∀y∈b,PS Tryz.prog f (Bp x::Bp y::cap) (bA (p x y))):
  PS Tryz.prog 110 [.lst false 159 5 (a.map Bp),.lst false 159 5 (b.map Bp),.fn f cap] (bA (eqF p a b)):=by
 refine Sp (nt:=32) (res:=[.tmp 6]) Tryz.func110 λSf=>?_
 refine KK ?_;refine AWP.cond rfl (λhb=>?_) (λhb=>?_)
 ·have hb:a.length≠b.length:=by simp at hb;omega
  refine JA ?_;refine AF ?_;rw[IC hb]
 ·have hb:a.length=b.length:=by simp at hb;omega
  refine KK ?_;refine Az (λi:Nat=>⟨[(0,.lst false 159 5 (a.map Bp)),(1,.lst false 159 5 (b.map Bp)),(2,.fn f cap),(15,.lst false 159 5 (a.map Bp)),(16,iA (a.map Bp).length),(17,iA i)],Sf⟩) (λi=>i<=a.length/\∀j (h:j<a.length),j<i->p a[j] (b[j]'(by omega))=true) (λi=>a.length-i) 0 ⟨Nat.zero_le _,λj h hj=>absurd hj (by omega)⟩ ?_;rintro i ⟨hi,he⟩;refine KK ?_;refine AWP.cond rfl (λhc=>?_) (λhc=>?_)
  ·have h:i<a.length:=by simpa using hc
   have h':i<b.length:=by omega
   refine KK ?_;refine Ai λX=>?_;refine KK ?_;refine Ai λX=>?_;refine KK ?_;refine AOps.g_callv ?_;refine AOps.k2 (h:=(hf _ (AU h) _ (AU h'))) (k:=?_);refine KK ?_
   refine AWP.cond rfl (λhd=>?_) (λhd=>?_)
   ·have hd:p a[i] b[i]=false:=by simpa using hd
    refine JA ?_;refine AF ?_;rw[LE hb h hd]
   ·have hd:p a[i] b[i]=true:=by simpa using hd
    refine KK ?_;refine Ab (i+1) ⟨h,λj h1 h2=>?_⟩;by_cases e:j=i
    ·subst e;exact hd
    ·exact he j h1 (by omega)
  ·have h:¬i<a.length:=by simpa using hc
   refine JA ?_;refine AF ?_;rw[IB hb λj hj=>he j hj (by omega)]
theorem QJ(c:Cmd)(hl:c.comps.length<=1099511627776)(hv:∀d∈c.comps,d.vals.length<=1099511627776):PS Tryz.prog 243 [Bp c] (Bp c):=by
 have hcp:=D0 c.comps hl hv;refine Sp (nt:=8) (res:=[.cell 2 159]) Tryz.func243 λSf=>?_
 refine JF ?_;refine Ai λP=>?_;refine WO ?_;refine Ai λP=>?_;refine NL ?_
 refine JI ?_;refine AOps.g_callf ?_;refine AOps.c1 (h:=(hcp ..)) (k:=?_);refine JE ?_;refine JK ?_;exact GD (rs:=[Bp c]) rfl
theorem Ot(x y:Cmd)(hl:CsL x.comps):PS Tryz.prog 111 [Bp x,Bp y] (bA (decide (x=y))):=by
 obtain⟨a1,⟨e1,g1⟩,k1,c1⟩:=x;obtain⟨a2,⟨e2,g2⟩,k2,c2⟩:=y;have hs:=M9 c1 c2 hl
 have hd:decide ((⟨a1,⟨e1,g1⟩,k1,c1⟩:Cmd)=⟨a2,⟨e2,g2⟩,k2,c2⟩)=(decide (a1=a2)&&(decide (e1=e2)&&decide (g1=g2))&&decide (k1=k2)&&decide (c1=c2)):=by
  rw[<-Bool.decide_and,<-Bool.decide_and,<-Bool.decide_and,<-Bool.decide_and];exact decide_eq_decide.2 ⟨λh=>by injection h with h1 h2 h3 h4;injection h2 with h5 h6;exact⟨⟨⟨h1,h5,h6⟩,h3⟩,h4⟩,λ⟨⟨⟨h1,h5,h6⟩,h3⟩,h4⟩=>by rw[h1,h5,h6,h3,h4]⟩
 rw[hd];obtain⟨b4,hb4⟩:=nm (decide (c1=c2));rw[hb4]at hs⊢;refine Sp (nt:=31) (res:=[.tmp 4]) Tryz.func111 λSf=>?_
 refine RG ?_;refine AOps.g_box ?_;refine Ad ?_;refine AOps.g_box ?_;refine Ad ?_;refine JB ?_;refine FL ?_;cases g1':decide (a1=a2)with
 |false=>
  refine RG ?_;(repeat first|(refine AOps.gQ ?_;first|refine AOps.goNU ?_|refine AOps.goNV ?_)|refine WO ?_|refine Ai λX=>?_|refine Ay λY=>?_);refine NL ?_;refine RT ?_;refine AF ?_;rfl
 |true=>
  cases g2':(decide (e1=e2)&&decide (g1=g2))with
  |false=>
   refine RG ?_;(repeat first|(refine AOps.gN ?_;first|refine AOps.go (h:=W.eqP _ _ (by kernel_rfl) (Ir e1 g1 e2 g2) rfl rfl) (k:=?_))|(refine AOps.gQ ?_;first|refine AOps.goNU ?_|refine AOps.goNV ?_)|refine WO ?_|refine Ai λX=>?_|refine Ay λY=>?_);refine NL ?_;refine RT ?_;refine AF ?_;rfl
  |true=>
   cases g3':decide (k1=k2)with
   |false=>
    refine RG ?_;(repeat first|(refine AOps.gN ?_;first|refine AOps.go (h:=W.eqP _ _ (by kernel_rfl) (Ir e1 g1 e2 g2) rfl rfl) (k:=?_))|(refine AOps.gQ ?_;first|refine AOps.goNU ?_|refine AOps.goNV ?_)|refine WO ?_|refine Ai λX=>?_|refine Ay λY=>?_);refine NL ?_;refine RT ?_;refine AF ?_;rfl
   |true=>
    refine RG ?_;(iterate 15 refine WO ?_);refine AOps.gN ?_;refine AOps.go (h:=W.eqP _ _ (by kernel_rfl) (Ir e1 g1 e2 g2) rfl rfl) (k:=?_);refine KO ?_;refine AOps.g_callf ?_;refine AOps.c2 (h:=(hs ..)) (k:=?_);refine JE ?_;refine RT ?_;refine AF ?_;rfl
theorem LO(a b:List Cmd)(hl:a.length<=4611686018427387904)(hc:∀c∈a,CsL c.comps):PS Tryz.prog 40 [CQ false a,CQ false b] (bA (eqF (λx y=>decide (x=y)) a b)):=by
 have h:=L5 a b 111 [] (λx y=>decide (x=y)) rfl hl (λx hx y hy=>Ot x y (hc x hx));refine Sp (nt:=8) (res:=[.tmp 4]) Tryz.func40 λSf=>?_
 refine R1 ?_;refine JI ?_;refine AOps.g_callf ?_;refine C5 (h:=(h ..)) (k:=?_);refine JB ?_;refine RT ?_;refine AF ?_;rfl
theorem HG(L:List (List Cmd))(i:Nat):(L.take i).flatten.length<=L.flatten.length:=by
 conv=>rhs;rw[<-List.take_append_drop i L,List.flatten_append,AP]
 omega
theorem MZ{L:List (List Cmd)}{i:Nat}{x:List Cmd}(h:L[i]?=some x):(L.take (i+1)).flatten=(L.take i).flatten++x:=by
 rw[List.take_add_one,h,Option.toList_some,List.flatten_append];simp
theorem QI(L:List (List Cmd))(h2:L.length<=1000)(hl:L.flatten.length<=131072)(hc:∀x∈L,∀c∈x,CsL c.comps):PS Tryz.prog 190 [.lst false 79 1 (L.map (CQ false))] (.tup [CQ true L.flatten,iA 0]):=by
 have hLm:(L.map (CQ false)).length=L.length:=AB _;refine Sp (nt:=45) (res:=[.tmp 2,.tmp 3]) Tryz.func190 λSf=>?_
 refine R1 ?_;refine JC ?_;refine JL ?_;refine Az (λ(i:Nat)=>⟨[(0,.lst false 79 1 (L.map (CQ false))),(4,iA ((L.take i).flatten.length:Nat)),(12,.lst false 79 1 (L.map (CQ false))),(13,iA (L.map (CQ false)).length),(14,iA i)],Sf⟩) (λi=>i<=L.length) (λi=>L.length-i) 0 (Nat.zero_le _) ?_;rintro i hi;refine JN ?_;refine AWP.cond rfl (λhb=>?_) (λhb=>?_)
 ·have h:i<L.length:=by rw[AE,hLm]at hb;omega
  obtain⟨x,hx⟩:∃x,L[i]?=some x:=⟨_,AI h⟩;have hat:(L.map (CQ false))[i]?=some (CQ false x):=by rw[AH,hx];rfl
  have hnx:=congrArg List.length (MZ hx);rw[AP]at hnx;have hle:=HG L (i+1);have hxm:(x.map Bp).length=x.length:=AB _;refine JC ?_;refine JD ?_;(iterate 3 refine WO ?_);refine AOps.gN ?_;refine AOps.go (h:=Bc ((((L.take i).flatten.length:Nat):Int)+((x.map Bp).length:Nat)) (by omega) (by omega) rfl rfl) (k:=?_);refine JB ?_;rw[show((((L.take i).flatten.length:Nat):Int)+((x.map Bp).length:Nat))=(((L.take (i+1)).flatten.length:Nat):Int) by omega];refine JC ?_;refine AA rfl (AK (by omega)) ?_;refine JC ?_;exact Ab (i+1) h (by omega)
 ·clear hb hi
  refine JC ?_;refine JL ?_;refine AWP.adopt (d:=7) 159 5 rfl λO=>?_
  refine Bq (λ(i O:Nat)=>⟨[(7,.sl O 0 (L.take i).flatten.length),(25,.lst false 79 1 (L.map (CQ false))),(26,iA (L.map (CQ false)).length),(27,iA i)],(O,.row 159 5 ((L.take i).flatten.map Bp))::Sf⟩) (λi _=>i<=L.length) (λi _=>L.length-i) 0 O (Nat.zero_le _) ?_;rintro i O hi;refine JN ?_;refine AWP.cond rfl (λhb=>?_) (λhb=>?_)
  ·have h:i<L.length:=by rw[AE,hLm]at hb;omega
   obtain⟨x,hx⟩:∃x,L[i]?=some x:=⟨_,AI h⟩;have hat:(L.map (CQ false))[i]?=some (CQ false x):=by rw[AH,hx];rfl
   have hnx:=MZ hx;have hle:=HG L (i+1);rw[hnx,AP]at hle;have hxm:(x.map Bp).length=x.length:=AB _;have hxc:=hc x (Aq hx);obtain⟨P0,hP0⟩:=nm ((L.take i).flatten);rw[hP0]at hle hnx⊢;refine JC ?_;refine JL ?_;refine Bq (λ(j O:Nat)=>⟨[(7,.sl O 0 (P0++x.take j).length),(25,.lst false 79 1 (L.map (CQ false))),(26,iA (L.map (CQ false)).length),(27,iA i),(31,CQ false x),(32,iA (x.map Bp).length),(33,iA j)],(O,.row 159 5 ((P0++x.take j).map Bp))::Sf⟩) (λj _=>j<=x.length) (λj _=>x.length-j) 0 O (Nat.zero_le _) ?_ (h0:=⟨by rw[List.take_zero,List.append_nil];exact Lk.f,by rw[List.take_zero,List.append_nil];exact Sub.f⟩);rintro j O hj;refine JN ?_;refine AWP.cond rfl (λhb2=>?_) (λhb2=>?_)
   ·have h2:j<x.length:=by rw[AE,hxm]at hb2;omega
    obtain⟨c,hcc⟩:=nm (x[j]);have hcm:c∈x:=by rw[<-hcc];exact AU h2
    have hat2:(x.map Bp)[j]?=some (Bp c):=by rw[AH,AI h2,hcc];rfl
    have hcp:=QJ c (hxc c hcm).1 (hxc c hcm).2;have hnx2:P0++x.take (j+1)=(P0++x.take j)++[c]:=by rw[List.take_succ_eq_append_getElem h2,hcc,AT]
    have hpl:(P0++x.take j).length<=131072:=by rw[AP,Aj];omega
    obtain⟨M,hM⟩:=nm (P0++x.take j);rw[hM]at hnx2 hpl⊢;have hml:(M.map Bp).length=M.length:=AB _;have hb1:(M.map Bp).length+1<=1099511627776:=by omega
    have hm1:M.map Bp++[Bp c]=(P0++x.take (j+1)).map Bp:=by rw[hnx2,List.map_append];rfl
    have hm2:M.length+[Bp c].length=(P0++x.take (j+1)).length:=by rw[hnx2,AP];rfl
    refine JI ?_;refine Ai λX=>?_;refine JB ?_
    refine JI ?_;refine AOps.g_callf ?_;refine AOps.c1 (h:=(hcp ..)) (k:=?_);refine AOps.g_lit ?_;refine AOps.goL (Bp c) ?_;refine WO ?_;refine Ay λY=>?_;refine JB ?_
    dsimp only[AX,List.set_cons_zero,List.set_cons_succ,BJ,BD];rw[hm1,hm2];refine JC ?_;exact BK (j+1) Y h2 (by omega)
   ·have h2:j=x.length:=by rw[AN,hxm]at hb2;omega
    subst h2;rw[List.take_length,<-hnx];refine JC ?_;exact BK (i+1) O h (by omega)
  ·have h:i=L.length:=by rw[AN,hLm]at hb;omega
   subst h;rw[List.take_length];refine JK ?_;exact Bw [.sl O 0 L.flatten.length,iA 0] [CQ true L.flatten,iA 0] (.cons (.cell (.sl (p:=0) .here (by rw[AB]))) (.cons (.cell .same) .nil))
abbrev VJ(b:Bool)(l:List Evt):AV:=.lst b 86 4 (l.map Cw)
theorem Mx(w:Wd)(l:List Sys)(h:TickG w l):PS Tryz.prog 115 [wdA false w,Nv false l] (iA 0):=by
 have hL:=h.ok.wl;have hck:=Et w hL.gens hL.items.1 (λit hit=>(hL.items.2 it hit).1);rw[(BL w).2 h.ok]at hck;have hlm:(l.map (CA false)).length=l.length:=AB _;have h24:=h.l24;refine Sp (nt:=31) (res:=[.tmp 4]) Tryz.func115 λSf=>?_
 refine RG ?_;refine AOps.g_box ?_;refine Ad ?_;refine JB ?_;refine JJ ?_;refine AOps.g_callf ?_;refine AOps.c1 (h:=(hck ..)) (k:=?_);refine JB ?_;refine JC ?_;refine AA rfl rfl ?_;refine JC ?_;refine AA rfl (AK (by omega)) ?_;refine JL ?_;refine Az (λ(i:Nat)=>⟨[(2,.fp (wdA false w).cells),(17,Nv false l),(18,iA (l.map (CA false)).length),(19,iA i)],Sf⟩) (λi=>i<=l.length) (λi=>l.length-i) 0 (Nat.zero_le _) ?_;rintro i hi;refine JN ?_;refine AWP.cond rfl (λhb=>?_) (λhb=>?_)
 ·have hi2:i<l.length:=by rw[AE,hlm]at hb;omega
  obtain⟨s,hs⟩:=nm (l[i]);have hsm:s∈l:=by rw[<-hs];exact AU hi2
  have hat:(l.map (CA false))[i]?=some (CA false s):=by rw[AH,AI hi2,hs];rfl
  have hsc:=I3 w.kinds s h.ok.ks h.k12 (h.sg s hsm);refine JI ?_;refine Ai λX=>?_;refine JB ?_
  refine JI ?_;refine AOps.g_callf ?_;refine AOps.c2 (h:=(hsc ..)) (k:=?_);refine JB ?_;refine JC ?_;refine AA rfl rfl ?_;refine JC ?_;exact Ab (i+1) hi2 (by omega)
 ·refine FL ?_
  refine R1 ?_;refine RT ?_;refine AF ?_;rfl
theorem PF(w:Wd)(cs:List (List Cmd))(ev:List Evt)(hw:WdOK w)(h12:w.kinds.length<=12)(hn:cs.length<=1000)(hl:cs.flatten.length<=131072)(hc:∀c∈cs.flatten,CmdG w.kinds c)(he:ev.length<=1099511627776):PS Tryz.prog 116 [wdA false w,.lst false 79 1 (cs.map (CQ false)),VJ false ev] (.tup [wdA false (DT w cs.flatten).1,VJ true (ev.take 256),iA 0]):=by
 have hL:=hw.wl;have hck:=Et w hL.gens hL.items.1 (λit hit=>(hL.items.2 it hit).1);rw[(BL w).2 hw]at hck;obtain⟨g1,g2⟩:=CmdG.sl hc;have hj:=QI cs hn hl (λx hx c hcx=>g2 c (List.mem_flatten.2 ⟨x,hx,hcx⟩));have hap:=UD w cs.flatten hw h12 hl g1;have hem:(ev.map Cw).length=ev.length:=AB _
 obtain⟨k,hk⟩:∃k:Nat,(if(256:Int)<((ev.map Cw).length:Nat)then(256:Int)else((ev.map Cw).length:Nat))=(k:Nat):=by
  by_cases h:(256:Int)<((ev.map Cw).length:Nat)
  ·exact⟨256,by rw[if_pos h];rfl⟩
  ·exact⟨_,by rw[if_neg h]⟩
 have hk1:k<=ev.length/\ev.take k=ev.take 256:=by
  by_cases h:(256:Int)<((ev.map Cw).length:Nat)
  ·rw[if_pos h]at hk
   have:k=256:=by omega
   subst this;exact⟨by omega,rfl⟩
  ·rw[if_neg h]at hk
   have:k=ev.length:=by omega
   subst this;exact⟨Nat.le_refl _,by rw[List.take_length,List.take_of_length_le (by omega)]⟩
 obtain⟨hk1,hk2⟩:=hk1;have htk:(ev.map Cw).take k=(ev.take 256).map Cw:=by rw[<-List.map_take,hk2]
 have htl:((ev.map Cw).take k).length<=256:=by rw[htk,AB,Aj];omega
 refine Sp (nt:=47) (res:=[.cell 6 26,.tmp 7,.tmp 8]) Tryz.func116 λSf=>?_
 refine RG ?_;refine AOps.g_box ?_;refine Ad ?_;refine WO ?_;refine Ai λR=>?_;refine JE ?_
 refine JJ ?_;refine AOps.g_callf ?_;refine AOps.c1 (h:=(hck ..)) (k:=?_);refine JB ?_;refine JC ?_;refine AA rfl rfl ?_;refine JJ ?_;refine AOps.g_callf ?_;refine AOps.c1 (h:=(hj ..)) (k:=?_);refine JE ?_;refine JC ?_;refine AA rfl rfl ?_;refine JI ?_;refine AOps.g_callf ?_;refine AOps.c2 (h:=(hap ..)) (k:=?_);refine KO ?_;refine Ai λV=>?_;refine JE ?_
 refine JC ?_;refine AA rfl rfl ?_;refine FL ?_;refine AWP.rs λY=>?_
 refine RU ?_;(iterate 5 refine RK ?_);refine RGo.gN ?_;refine RGo.go (h:=W.hiL (a:=k) rfl rfl hk (by omega)) (k:=?_);refine RGo.gN ?_;refine RGo.s (UP (by omega) (by unfold maxLen;omega) rfl rfl (by exact At.f)) rfl ?_;(iterate 3 refine RK ?_);refine RGo.nil (by kernel_rfl) ?_;refine RT ?_;exact Bw [wdA false (DT w cs.flatten).1,.sl Y 0 ((ev.map Cw).take k).length,iA 0] [wdA false (DT w cs.flatten).1,.lst true 86 4 ((ev.map Cw).take k),iA 0] (.cons (.cell .same) (.cons (.cell (.sl (p:=0) .here rfl)) (.cons (.cell .same) .nil))) (e:=by rw[htk];rfl)
theorem PE(w:Wd)(l:List Sys)(seed tick:Int)(h:TickG w l):PS Tryz.prog 45 [wdA false w,Nv false l,iA seed,iA tick] (.tup [wdA false (Hs w l seed tick).1,VJ false (Hs w l seed tick).2,iA 0]):=by
 have hck:=Mx w l h;have h24:=h.l24;obtain⟨k1,k2,k3,k4,k5,k6,k7⟩:=Jm (seed:=seed) (tick:=tick) l w 0 h;have hall:=h.all seed tick;have hend:=PF (Dg seed tick w 0 l).1 (Dg seed tick w 0 l).2.1 (Dg seed tick w 0 l).2.2 k1 (by rw[k2];exact h.k12) (by omega) (by omega) (by rw[k2];exact hall) (by omega);have htm:Hs w l seed tick=((DT (Dg seed tick w 0 l).1 (Dg seed tick w 0 l).2.1.flatten).1,(Dg seed tick w 0 l).2.2.take 256):=rfl;rw[htm];dsimp only;obtain⟨⟨v,cs,ev⟩,hq⟩:=nm (Dg seed tick w 0 l);rw[hq]at hend k4 k6⊢;dsimp only at hend k4 k6⊢;have hlm:(l.map (CA false)).length=l.length:=AB _;refine Sp (nt:=65) (res:=[.cell 8 26,.tmp 9,.tmp 10]) Tryz.func45 λSf=>?_
 refine RG ?_;refine IQ λB=>?_
 refine IQ λR=>?_
 refine KO ?_;refine JI ?_;refine AOps.g_callf ?_;refine AOps.c2 (h:=(hck ..)) (k:=?_);refine JB ?_;refine JC ?_;refine AA rfl rfl ?_;refine JC ?_;refine JC ?_;refine JL ?_;refine AWP.adopt (d:=13) 86 4 rfl λE0=>?_
 refine AWP.adopt (d:=12) 79 1 rfl λC0=>?_
 refine Gy (λ(i C E:Nat) (z:Wd×List (List Cmd)×List Evt)=>⟨[(1,Nv false l),(2,iA seed),(3,iA tick),(4,.ptr B 0 0),(8,.ptr R 0 0),(12,.sl C 0 z.2.1.length),(13,.sl E 0 z.2.2.length),(27,Nv false l),(28,iA (l.map (CA false)).length),(29,iA i)],(C,.row 79 1 (z.2.1.map (CQ false)))::(E,.row 86 4 (z.2.2.map Cw))::(R,.row 26 3 [.agg [.prim (.slice none 0 0),.prim (.slice none 0 0),.prim (.slice none 0 0)]])::(B,.row 26 3 [wdA false z.1])::Sf⟩) (λi _ _ z=>i<=l.length/\TickG z.1 l/\z.1.kinds=w.kinds/\(v,cs,ev)=((Dg seed tick z.1 i (l.drop i)).1,z.2.1++(Dg seed tick z.1 i (l.drop i)).2.1,z.2.2++(Dg seed tick z.1 i (l.drop i)).2.2)) (λi _ _ _=>l.length-i) 0 C0 E0 (w,[],[]) ⟨Nat.zero_le _,h,rfl,hq.symm⟩ ?_;rintro i C E ⟨z,zc,ze⟩ ⟨hi,hz,hzk,hrun⟩;dsimp only at hz hzk hrun⊢
 have hcl:zc.length<=24:=by
  have:=congrArg (λq=>q.2.1.length) hrun;dsimp only at this;rw[AP]at this;omega
 have hel:ze.length<=122880:=by
  have:=congrArg (λq=>q.2.2.length) hrun;dsimp only at this;rw[AP]at this;omega
 have hcm:(zc.map (CQ false)).length=zc.length:=AB _;have hem:(ze.map Cw).length=ze.length:=AB _;refine JN ?_;refine AWP.cond rfl (λhb=>?_) (λhb=>?_)
 ·have h2:i<l.length:=by rw[AE,hlm]at hb;omega
  obtain⟨s,hs⟩:=nm (l[i]);have hsm:s∈l:=by rw[<-hs];exact AU h2
  have hat:(l.map (CA false))[i]?=some (CA false s):=by rw[AH,AI h2,hs];rfl
  have hsr:=Sy z s i seed tick hz.ok.wl ((BL z).2 hz.ok) hz.k12 (hz.sg s hsm) hz.ok.ks (λit hit=>(hz.ok.it it hit).2.2.2.2) (Nat.le_trans (hz.n hsm) (by decide));have hr:=hz.r hsm i seed tick;obtain⟨_,q2,q3⟩:=hz.cmds hsm i seed tick;rw[CG h2,hs,Dg]at hrun;unfold wdR at hrun hr;obtain⟨⟨ri,rc,re⟩,hrm⟩:=nm (CU z s i seed tick);rw[hrm]at hsr hr q2 q3 hrun;dsimp only at hsr hr q2 q3 hrun;have hg2:TickG ⟨z.kinds,z.gens,ri⟩ l:=⟨hr,hz.k12,hz.sg,hz.l24⟩;have hrcl:(rc.map Bp).length=rc.length:=AB _;have hrel:(re.map Cw).length=re.length:=AB _;refine JI ?_;refine Ai λX=>?_;refine JE ?_
  refine JI ?_;refine AOps.g_callf ?_;refine IR (h:=(hsr ..)) (k:=?_);refine KO ?_;refine Ai λV=>?_;refine JE ?_
  refine JC ?_;refine AA rfl rfl ?_;refine JL ?_;have hm1:zc.map (CQ false)++[CQ false rc]=(zc++[rc]).map (CQ false):=by rw[List.map_append];rfl
  have hm2:zc.length+[CQ false rc].length=(zc++[rc]).length:=by rw[AP];rfl
  have hm3:ze.map Cw++re.map Cw=(ze++re).map Cw:=by rw[List.map_append]
  have hm4:ze.length+(re.map Cw).length=(ze++re).length:=by rw[AP,hrel]
  refine RG ?_;(repeat first|(refine AOps.gN ?_;first|(refine AOps.g_lit ?_;refine AOps.goL (CQ false rc) ?_))|refine WO ?_|refine Ai λX=>?_|refine Ay λY=>?_);refine NL ?_;dsimp only[AX,List.set_cons_zero,List.set_cons_succ,BJ,BD];rw[hm1,hm2,hm3,hm4];refine JC ?_;refine ER (i+1) ?_ ?_ (⟨z.kinds,z.gens,ri⟩,zc++[rc],ze++re) ⟨h2,hg2,hzk,by rw[hrun];dsimp only;rw[AT,AT];rfl⟩ (by omega)
 ·have h2:i=l.length:=by rw[AN,hlm]at hb;omega
  subst h2;rw[List.drop_length,Dg,List.append_nil,List.append_nil]at hrun;injection hrun with e1 e2
  injection e2 with e2 e3
  subst e1 e2 e3;refine FL ?_;refine IN 12 _ (Fh (CQ false) (λ_=>Frz.h) _) (hn:=hcm.symm) ?_;refine IN 13 _ (Fh Cw (λ_=>Frz.h) _) (hn:=hem.symm) ?_;refine JG ?_;refine AOps.g_callf ?_;refine C5 (h:=(hend ..)) (k:=?_);refine JE ?_;refine RT ?_;exact GD (rs:=[wdA false (DT v cs.flatten).1,VJ false (ev.take 256),iA 0]) rfl
theorem Kp(X:Nat)(l:List Int)(f:FuncId)(cap:List AV)(p:Int->Bool)(hs:B6 cap=true)(hl:l.length<=4611686018427387904)(hf:∀x∈l,PS Tryz.prog f (iA x::cap) (bA (p x))):PO Tryz.prog 173 [.sl X 0 l.length,.fn f cap] X (.row 3 1 (l.map iA)) (iA (ES l p)) (.row 3 1 (l.map iA)):=by
 refine Sp (nt:=19) (res:=[.tmp 4]) Tryz.func173 λSf=>?_
 refine KK ?_;refine Az (λi:Nat=>⟨[(0,.sl X 0 l.length),(1,.fn f cap),(7,iA l.length),(8,iA i)],(X,.row 3 1 (l.map iA))::Sf⟩) (λi=>i<=l.length/\∀j (h:j<l.length),j<i->p l[j]=false) (λi=>l.length-i) 0 ⟨Nat.zero_le _,λj h hj=>absurd hj (by omega)⟩ ?_;rintro i ⟨hi,he⟩;refine KK ?_;refine AWP.cond rfl (λhc=>?_) (λhc=>?_)
 ·have h:i<l.length:=by simpa using hc
  refine KK ?_;refine AOps.g_callv ?_;refine Gz (h:=(hf _ (AU h))) (k:=?_);refine KK ?_;refine AWP.cond rfl (λhd=>?_) (λhd=>?_)
  ·refine KK ?_
   refine RT ?_;refine RB ?_ ?_
   ·rw[Ep h hd λj hj=>he j (by omega) hj]
   ·rfl
  ·refine KK ?_
   refine Ab (i+1) ⟨h,λj h1 h2=>?_⟩;by_cases e:j=i
   ·subst e;exact hd
   ·exact he j h1 (by omega)
 ·have h:¬i<l.length:=by simpa using hc
  refine JA ?_;refine RB ?_ ?_
  ·rw[Eq λj hj=>he j hj (by omega)]
  ·rfl
theorem LH(X:Nat)(l:List Int)(f:FuncId)(cap:List AV)(p:Int->Bool)(hs:B6 cap=true)(hl:l.length<=4611686018427387903)(hf:∀x∈l,PS Tryz.prog f (iA x::cap) (bA (p x))):Spec Tryz.prog 169 [.sl X 0 l.length,.fn f cap] [(X,.row 3 1 (l.map iA))] λr S'=>r= .lst true 3 1 ((l.filter λx=>!p x).map iA)/\S'=[]:=by
 refine Sp (nt:=42) (res:=[.tmp 4]) Tryz.func169 λSf=>?_
 have h0:=Kp X l f cap p hs (by omega) hf;have hr:=Kr l p;obtain⟨v,hv⟩:=nm (ES l p);rw[hv]at h0 hr;refine KK ?_;refine AOps.g_callf ?_;refine AOps.o2 (h:=(h0 ..)) (k:=?_);refine KK ?_;refine AWP.cond rfl (λhc=>?_) (λhc=>?_)
 ·have hc:v= -1:=by simpa using hc
  have hall:(l.filter λx=>!p x)=l:=by
   rw[List.filter_eq_self];intro x hx
   have h1:l.findIdx? p=none:=by
    unfold ES at hv;split at hv
    ·omega
    ·assumption
   rw[List.findIdx?_eq_none_iff]at h1;simp[h1 x hx]
  rw[hall];refine JA ?_;exact⟨[.sl X 0 l.length],[.lst true 3 1 (l.map iA)],_,[],.cons (.tmp rfl) rfl .nil,.cons (.cell (.sl (p:=0) .here (by simp))) .nil,by exact Sub.f,rfl,rfl⟩
 ·have hc:v≠-1:=by simpa using hc
  obtain⟨i0,hi0⟩:∃i0:Nat,v=i0:=⟨v.toNat,by omega⟩;subst hi0
  have hfi:l.findIdx? p=some i0:=by
   unfold ES at hv;split at hv
   ·rename_i i hi;rw[hi];congr 1;omega
   ·omega
  obtain⟨hil,hpi,hmin⟩:=List.findIdx?_eq_some_iff_getElem.1 hfi
  have ht0:(l.take (i0+1)).filter (λx=>!p x)=l.take i0:=by
   rw[List.take_succ_eq_append_getElem hil,List.filter_append];rw[show([l[i0]].filter λx=>!p x)=[] by simp[hpi],List.append_nil,List.filter_eq_self];intro x hx;obtain⟨j,hj,rfl⟩:=List.mem_take_iff_getElem.1 hx;have:=hmin j (by omega);simp at this⊢;exact this
  refine KK ?_;refine D4 (λ(i j:Nat) (M:List AV)=>⟨[(0,.sl X 0 l.length),(1,.fn f cap),(5,iA i),(6,iA j)],(X,.row 3 1 M)::Sf⟩) (λi j M=>i<j/\j<=l.length/\∃K:List Int,M=K.map iA/\K.length=l.length/\K.take i=((l.take j).filter λx=>!p x)/\K.drop j=l.drop j) (λi j _=>l.length-j) i0 (i0+1) (l.map iA) ⟨by omega,hil,l,rfl,rfl,ht0.symm,rfl⟩ ?_;rintro i j M ⟨hij,hj,K,rfl,hM,h1,h2⟩;refine KK ?_;refine AWP.cond rfl (λhd=>?_) (λhd=>?_)
  ·have h:j<l.length:=by simpa using hd
   have hKj:K[j]?=some l[j]:=by
    have:=congrArg (λz=>z[0]?) h2;simpa[h]using this
   have hat:(K.map iA)[j]?=some (iA l[j]):=by rw[AH,hKj];rfl
   have hKi:i<K.length:=by omega
   obtain⟨b,hb⟩:=nm (p l[j]);have hfj:=hf _ (AU h);rw[hb]at hfj
   have htk:(l.take (j+1)).filter (λx=>!p x)=(l.take j).filter (λx=>!p x)++if b then[]else[l[j]]:=by
    rw[List.take_succ_eq_append_getElem h,List.filter_append]
    congr 1
    cases b<;>simp[hb]
   refine KK ?_;refine AOps.g_callv ?_;refine Gz (h:=(hfj ..)) (k:=?_);refine KK ?_;cases b
   ·refine AL rfl rfl ?_
    refine KK ?_;refine CW (i+1) (j+1) _ ⟨by omega,h,K.set i l[j],by rw[List.map_set],by simpa using hM,?_,?_⟩
    ·rw[htk,<-h1,List.take_add_one,List.take_set,List.set_eq_of_length_le (by rw[Aj];omega),List.getElem?_set_self hKi]
     simp
    ·rw[List.drop_set_of_lt (by omega),<-List.drop_drop,h2,List.drop_drop]
   ·refine AA rfl rfl ?_
    refine KK ?_;refine CW i (j+1) _ ⟨by omega,h,K,rfl,hM,?_,?_⟩
    ·rw[h1,htk];simp
    ·rw[<-List.drop_drop,h2,List.drop_drop]
  ·have h:j=l.length:=by rw[AN]at hd;omega
   subst h;have h1':K.take i=l.filter λx=>!p x:=by rw[h1,List.take_length]
   have hKl:(K.map iA).length=l.length:=by rw[AB,hM]
   have hki:∀A B,(List.take (0+i) (K.map iA)++A++B).take i=(l.filter λx=>!p x).map iA:=λA B=>by
    rw[Nat.zero_add,AT,List.take_append_of_le_length (by rw[Aj];omega),List.take_take,Nat.min_self,<-List.map_take,h1']
   have hfl:i=((l.filter λx=>!p x).map iA).length:=by
    rw[<-h1',AB,Aj];omega
   (repeat first|(refine AOps.gN ?_;first|refine AOps.s (W.slice_lo rfl rfl (by exact At.f) rfl (by omega)) rfl ?_|refine AOps.s (W.clear rfl (by exact At.f) (by first|exact .inl rfl|exact .inr rfl) rfl (by omega)) rfl ?_|refine AOps.p (W.hi rfl rfl (by exact At.f) rfl (by omega)) rfl ?_)|refine WK ?_|refine Ai λX=>?_|refine Ay λY=>?_);refine AWP.shrink (X:=X) i ?_;rw[hki];refine RT ?_;exact⟨[.sl X 0 i],[.lst true 3 1 ((l.filter λx=>!p x).map iA)],_,[],.cons (.tmp rfl) rfl .nil,.cons (.cell (.sl (p:=0) .here hfl)) .nil,by exact Sub.f,rfl,rfl⟩
theorem NU{ks:List Kind}{i:Int}{j:Nat}(hi:i=j)(hj:j<ks.length):Lw ks i=(ks[j].fields.map fieldA).length:=by
 unfold Lw;rw[hi,show((j:Int)).toNat=j from rfl,AI hj,AB]
theorem WL(G:Nat)(ks:List Kind)(seen l:List Int)(hk:FR ks)(h0:seen≠[])(hs:∀x∈seen,0<=x/\x<ks.length)(hl:seen.length<=4398046511104):PO Tryz.prog 172 [.fp [.ptr G 0 0],.fp [AM false seen],.fp [Ag false false ks]] G (Bd l) (Av (FJ ks seen l).1) (Bd (FJ ks seen l).2):=by
 refine Sp (nt:=30) (res:=[.cell 3 193]) Tryz.func172 λSf=>?_
 have h2:=Af l (n:=2) (by decide);have hn0:0<seen.length:=List.length_pos_iff.2 h0;have hv:=Af (Ae l 2) (n:=seen.length) (by omega);obtain⟨i,hi⟩:∃i:Nat,Ao (Ae l 2) seen.length=i:=⟨(Ao (Ae l 2) seen.length).toNat,by omega⟩;have hil:i<seen.length:=by omega
 obtain⟨j,hj⟩:∃j:Nat,seen[i]=j:=⟨seen[i].toNat,by have:=hs _ (AU hil);omega⟩;have hjl:j<ks.length:=by have:=hs _ (AU hil);omega
 obtain⟨hk0,hk1⟩:=hk;have hfl:=(hk1 _ (AU hjl)).1;refine KK ?_;refine Ai λR=>?_;refine KK ?_;refine AOps.g_callf ?_;refine AOps.o2 (h:=(CP G _ _ (by decide))) (k:=?_);refine KK ?_
 refine AWP.cond rfl (λhb=>?_) (λhb=>?_)
 ·have hb:Ao l 2=0:=by simpa using hb
  have h20:=Af (Ae l 2) (n:=20) (by decide);refine KK ?_;refine AOps.g_callf ?_;refine AOps.o2 (h:=(CP G _ _ (by decide))) (k:=?_);refine JA ?_;have he:FJ ks seen l=(⟨false,Ao (Ae l 2) 20-6,⟨0,0⟩⟩,Ae (Ae l 2) 20):=by rw[FJ,if_pos hb]
  rw[he];exact O4 (rs:=[Av ⟨false,Ao (Ae l 2) 20-6,⟨0,0⟩⟩]) rfl rfl (.cons (.cell (p:=0) rfl .here TAg.h TSize.h rfl rfl) rfl .nil)
 ·have hb:Ao l 2≠0:=by simpa using hb
  obtain⟨l1,hl1⟩:=nm (Ae l 2);rw[hl1]at hi hv⊢;have hfd:=NU (ks:=ks) hj hjl;have hsd:seen.getD (Ao l1 seen.length).toNat 0=seen[i]:=by rw[hi];simp[hil]
  have he:FJ ks seen l=(⟨true,0,⟨seen[i],Ao (Ae l1 seen.length) (Lw ks seen[i])⟩⟩,Ae (Ae l1 seen.length) (Lw ks seen[i])):=by rw[FJ,if_neg hb,hl1,hsd]
  rw[he,hfd]
  have hon:PO Tryz.prog 52 [.ptr G 0 0,iA (seen.map iA).length] G (Bd l1) (iA i) (Bd (Ae l1 seen.length)):=by
   have:=CP G l1 seen.length (by omega);rw[hi]at this;rw[AB];exact this
  have hon2:=CP G (Ae l1 seen.length) (ks[j].fields.map fieldA).length (by rw[AB];omega);rw[hj]at he⊢;refine JM ?_;refine RGo.g_callf ?_;refine RGo.o2 (h:=(hon ..)) (k:=?_);(iterate 3 refine RK ?_);refine RGo.nil (by kernel_rfl) ?_;rw[hj];refine JM ?_;refine RGo.g_callf ?_;refine RGo.o2 (h:=(hon2 ..)) (k:=?_);(iterate 3 refine RK ?_);refine RGo.nil (by kernel_rfl) ?_;refine WK ?_;refine RT ?_;exact O4 (rs:=[Av ⟨true,0,⟨j,Ao (Ae l1 seen.length) (ks[j].fields.map fieldA).length⟩⟩]) rfl rfl (.cons (.cell (p:=0) rfl .here TAg.h TSize.h rfl rfl) rfl .nil)
theorem UC(ks:List Kind)(seen l:List Int)(hk:FR ks)(hf:∀k∈ks,k.fields≠[])(h0:seen≠[])(hs:∀x∈seen,0<=x/\x<ks.length):Mt ks seen (FJ ks seen l).1:=by
 have hn0:0<seen.length:=List.length_pos_iff.2 h0;have hv:=Af (Ae l 2) (n:=seen.length) (by omega);have h20:=Af (Ae l 2) (n:=20) (by decide);unfold FJ Mt;split
 ·exact⟨λh=>(by cases h),λ_=>⟨by show-6<=Ao (Ae l 2) 20-6;omega,by show Ao (Ae l 2) 20-6<=13;omega,rfl⟩⟩
 ·obtain⟨i,hi⟩:∃i:Nat,Ao (Ae l 2) seen.length=i:=⟨(Ao (Ae l 2) seen.length).toNat,by omega⟩
  have hil:i<seen.length:=by omega
  have hsd:seen.getD (Ao (Ae l 2) seen.length).toNat 0=seen[i]:=by rw[hi];simp[hil]
  obtain⟨j,hj⟩:∃j:Nat,seen[i]=j:=⟨seen[i].toNat,by have:=hs _ (AU hil);omega⟩;have hjl:j<ks.length:=by have:=hs _ (AU hil);omega
  have hfd:=NU (ks:=ks) hj hjl;have hfp:0<ks[j].fields.length:=List.length_pos_iff.2 (hf _ (AU hjl));rw[AB]at hfd;have hv2:=Af (Ae (Ae l 2) seen.length) (n:=Lw ks seen[i]) (by omega);rw[hsd];exact⟨λ_=>⟨rfl,⟨(hs _ (AU hil)).1,(hs _ (AU hil)).2,hv2.1,hv2.2⟩,AU hil⟩,λh=>(by cases h)⟩
theorem KN:∀{l:List Int} {a n:Int},l.Pairwise (· < ·)->(∀x∈l,a<=x/\x<n)->a<=n->(l.length:Int)<=n-a
 |[],a,n,_,_,h=>by simp;omega
 |x::l,a,n,hp,hr,_=>by
  have hx:=hr x (by simp);rw[List.pairwise_cons]at hp;have:=KN (a:=x+1) (n:=n) hp.2 (λy hy=>⟨by have:=hp.1 y hy;omega,(hr y (by simp[hy])).2⟩) (by omega);simp only[Bs];omega
structure Sys2 where
 j:Nat
 A:Nat
 m:Nat
 M:List AV
 sp:List Comp
 q:List Int
structure Sys2.OK(ks:List Kind)(w3 w4:List Int)(c:Nat)(b:Sys2):Prop where
 le:b.j<=c
 e:∃ops:List Op,b.M=ops.map opA/\∀o∈ops,OpOK ks w3 w4 o
 m:b.m=b.M.length
 mj:b.m=b.j
 sp:b.sp=[]\/∃q,b.sp=(Cg ks q).1
structure Sys1 where
 i:Nat
 A1:Nat
 A2:Nat
 A3:Nat
 A4:Nat
 n1:Nat
 n2:Nat
 n3:Nat
 n4:Nat
 M1:List AV
 M2:List AV
 M3:List AV
 M4:List AV
 q:List Int
structure Sys1.OK(ks:List Kind)(b:Sys1):Prop where
 le:b.i<=ks.length
 e:∃w1 w2 w3 w4,b.M1=w1.map iA/\b.M2=w2.map iA/\b.M3=w3.map iA/\b.M4=w4.map iA/\SysL w1 w2 w3 w4 b.i
 n1:b.n1=b.M1.length
 n2:b.n2=b.M2.length
 n3:b.n3=b.M3.length
 n4:b.n4=b.M4.length
 b1:b.n1<=b.i
 b2:b.n2<=b.i
 b3:b.n3<=b.i
 b4:b.n4<=b.i
theorem Nw{i:Nat}(h:i<6):[sA [111,110,101],sA [116,119,111],sA [116,104,114,101,101],sA [102,111,117,114],sA [102,105,118,101],sA [115,105,120]][i]?=some (sA (Dw i)):=by
 have:i=0\/i=1\/i=2\/i=3\/i=4\/i=5:=by omega
 rcases this with rfl|rfl|rfl|rfl|rfl|rfl<;>rfl
theorem R2(x:Int):PS Tryz.prog 170 [iA x] (bA (decide (x=0))):=by
 refine Sp (nt:=5) (res:=[.tmp 2]) Tryz.func170 λSf=>?_
 refine JA ?_;refine AF ?_;rfl
abbrev Su:AO:=.row 76 7 [.agg [.prim (.string ByteArray.empty),.prim (.slice none 0 0),.prim (.slice none 0 0),.prim (.slice none 0 0),.prim (.slice none 0 0),.prim (.slice none 0 0),.prim (.slice none 0 0)]]
theorem Ra(G:Nat)(ks:List Kind)(l:List Int)(n:Nat)(hk:FR ks)(hf:∀k∈ks,k.fields≠[])(h0:ks≠[])(hn:n<6):Spec Tryz.prog 94 [Ag false false ks,.ptr G 0 0,iA n] [(G,Bd l)] λr S'=>∃b:Sys×List Int,SysOK ks n b.1/\r=CA false b.1/\S'=[(G,Bd b.2)]:=by
 refine Sp (nt:=187) (res:=[.cell 6 76]) Tryz.func94 λSf=>?_
 have hkn:=Nw hn;have hks:=hk.1;have hk1:0<ks.length:=List.length_pos_iff.2 h0;refine RG ?_;refine AOps.g_box ?_;refine Ad ?_;refine AOps.g_box ?_;refine Ad ?_;refine WO ?_;refine Ai λR=>?_;refine NL ?_
 refine JG ?_;refine Ai λX=>?_;refine JB ?_
 refine AWP.nilIn 42 2 (Y:=X) (.cons (.agg (.cons .same (.cons .same (.cons .same (.cons .same (.cons .same (.cons .same (.cons (.base .nil) .nil)))))))) .nil) ?_;refine AWP.adoptIn (Y:=X) 195 11 (by exact At.f) (λF=>.cons (.agg (.cons .same (.cons .same (.cons .same (.cons .same (.cons .same (.cons (.base .nil) (.cons .same .nil)))))))) .nil) λA5=>?_
 refine AWP.adoptIn (Y:=X) 3 1 (by exact At.f) (λF=>.cons (.agg (.cons .same (.cons .same (.cons .same (.cons .same (.cons (.base .nil) (.cons .same (.cons .same .nil)))))))) .nil) λA4=>?_
 refine AWP.adoptIn (Y:=X) 3 1 (by exact At.f) (λF=>.cons (.agg (.cons .same (.cons .same (.cons .same (.cons (.base .nil) (.cons .same (.cons .same (.cons .same .nil)))))))) .nil) λA3=>?_
 refine AWP.adoptIn (Y:=X) 3 1 (by exact At.f) (λF=>.cons (.agg (.cons .same (.cons .same (.cons (.base .nil) (.cons .same (.cons .same (.cons .same (.cons .same .nil)))))))) .nil) λA2=>?_
 refine AWP.adoptIn (Y:=X) 3 1 (by exact At.f) (λF=>.cons (.agg (.cons .same (.cons (.base .nil) (.cons .same (.cons .same (.cons .same (.cons .same (.cons .same .nil)))))))) .nil) λA1=>?_
 refine JN ?_;refine Az (λb:Sys1=>⟨[(3,.fp [Ag false false ks]),(4,.fp [.ptr G 0 0]),(6,.ptr R 0 0),(7,.ptr X 0 0),(19,iA (ks.map (A7 false)).length),(20,iA b.i)],(b.A1,.row 3 1 b.M1)::(b.A2,.row 3 1 b.M2)::(b.A3,.row 3 1 b.M3)::(b.A4,.row 3 1 b.M4)::(A5,.row 195 11 [])::(X,.row 76 7 [.agg [sA (Dw n),.sl b.A1 0 b.n1,.sl b.A2 0 b.n2,.sl b.A3 0 b.n3,.sl b.A4 0 b.n4,.sl A5 0 0,.lst false 42 2 []]])::(R,Su)::(G,Bd b.q)::Sf⟩) (Sys1.OK ks) (λb=>ks.length-b.i) ⟨0,A1,A2,A3,A4,0,0,0,0,[],[],[],[],l⟩ ⟨Nat.zero_le _,⟨[],[],[],[],rfl,rfl,rfl,rfl,SysL.nil _⟩,rfl,rfl,rfl,rfl,Nat.le_refl _,Nat.le_refl _,Nat.le_refl _,Nat.le_refl _⟩ ?_;rintro⟨i,A1,A2,A3,A4,n1,n2,n3,n4,M1,M2,M3,M4,q⟩ ⟨hi,⟨w1,w2,w3,w4,h1,h2,h3,h4,hL⟩,e1,e2,e3,e4,b1,b2,b3,b4⟩;dsimp only at hi h1 h2 h3 h4 hL e1 e2 e3 e4 b1 b2 b3 b4⊢;have hi40:i<=1099511627775\/i=ks.length:=by omega
 refine KK ?_;refine AWP.cond rfl (λhc=>?_) (λhc=>?_)
 ·have h:i<ks.length:=by simpa using hc
  have h4':=Af q (n:=4) (by decide);have c1:n1+1<=1099511627776:=by omega
  have c2:n2+1<=1099511627776:=by omega
  have c3:n3+1<=1099511627776:=by omega
  have c4:n4+1<=1099511627776:=by omega
  have ap:∀w:List Int,w.map iA++[iA (i:Int)]=(w++[(i:Int)]).map iA:=λw=>by rw[List.map_append];rfl
  have al:∀(m:Nat) (M:List AV),m=M.length->m+1=(M++[iA (i:Int)]).length:=λm M hm=>by rw[AP,hm];rfl
  refine KK ?_;refine AOps.g_callf ?_;refine AOps.o2 (h:=(CP G _ _ (by decide))) (k:=?_);refine KK ?_;refine AWP.cond rfl (λhd=>?_) (λhd=>?_)
  ·refine AWP.rs λY1=>AWP.rs λY3=>?_
   refine RU ?_;(iterate 14 refine RK ?_);refine RGo.nil (by kernel_rfl) ?_;refine KK ?_;refine Ab (⟨i+1,Y3,A2,Y1,A4,n1+1,n2,n3+1,n4,M1++[iA i],M2,M3++[iA i],M4,Ae q 4⟩:Sys1) ⟨h,⟨w1++[(i:Int)],w2,w3++[(i:Int)],w4,?_,h2,?_,h4,hL.read (by omega)⟩,al _ _ e1,e2,al _ _ e3,e4,?_,?_,?_,?_⟩ (by dsimp only;omega)
   ·dsimp only;rw[h1,ap]
   ·dsimp only;rw[h3,ap]
   all_goals (dsimp only;omega)
  ·refine KK ?_
   refine AWP.cond rfl (λhe=>?_) (λhe=>?_)
   ·refine AWP.rs λY1=>AWP.rs λY3=>?_
    refine RU ?_;(iterate 14 refine RK ?_);refine RGo.nil (by kernel_rfl) ?_;refine KK ?_;refine Ab (⟨i+1,Y3,A2,A3,Y1,n1+1,n2,n3,n4+1,M1++[iA i],M2,M3,M4++[iA i],Ae q 4⟩:Sys1) ⟨h,⟨w1++[(i:Int)],w2,w3,w4++[(i:Int)],?_,h2,h3,?_,hL.write (by omega)⟩,al _ _ e1,e2,e3,al _ _ e4,?_,?_,?_,?_⟩ (by dsimp only;omega)
    ·dsimp only;rw[h1,ap]
    ·dsimp only;rw[h4,ap]
    all_goals (dsimp only;omega)
   ·refine KK ?_
    refine AWP.cond rfl (λhg=>?_) (λhg=>?_)
    ·refine KK ?_;refine Ay λY=>?_;refine KK ?_
     refine Ab (⟨i+1,A1,Y,A3,A4,n1,n2+1,n3,n4,M1,M2++[iA i],M3,M4,Ae q 4⟩:Sys1) ⟨h,⟨w1,w2++[(i:Int)],w3,w4,h1,?_,h3,h4,hL.without (by omega)⟩,e1,al _ _ e2,e3,e4,?_,?_,?_,?_⟩ (by dsimp only;omega)
     ·dsimp only;rw[h2,ap]
     all_goals (dsimp only;omega)
    ·refine KK ?_
     refine Ab (⟨i+1,A1,A2,A3,A4,n1,n2,n3,n4,M1,M2,M3,M4,Ae q 4⟩:Sys1) ⟨h,⟨w1,w2,w3,w4,h1,h2,h3,h4,hL.weaken (by dsimp only;omega)⟩,e1,e2,e3,e4,?_,?_,?_,?_⟩ (by dsimp only;omega)
     all_goals (dsimp only;omega)
 ·have h:i=ks.length:=by rw[AN,AB]at hc;omega
  subst h;clear hc b1 b3 b4 hi40 hi;have f1:AV.frzs M1=w1.map iA:=by rw[h1];exact Frzs.h
  have f2:AV.frzs M2=w2.map iA:=by rw[h2];exact Frzs.h
  have f3:AV.frzs M3=w3.map iA:=by rw[h3];exact Frzs.h
  have f4:AV.frzs M4=w4.map iA:=by rw[h4];exact Frzs.h
  refine R1 ?_;refine Bl (λb:List Int×List Int×List Int×List Int=>SysL b.1 b.2.1 b.2.2.1 b.2.2.2 ks.length/\b.1≠[]) (λb=>⟨[(3,.fp [Ag false false ks]),(4,.fp [.ptr G 0 0]),(6,.ptr R 0 0),(7,.ptr X 0 0)],(A5,.row 195 11 [])::(X,.row 76 7 [.agg [sA (Dw n),AM false b.1,AM false b.2.1,AM false b.2.2.1,AM false b.2.2.2,.sl A5 0 0,.lst false 42 2 []]])::(R,Su)::(G,Bd q)::Sf⟩) ?_ ?_
  ·refine AWP.cond rfl (λhd=>?_) (λhd=>?_)
   ·have hd:n1=0:=by rw[AE]at hd;omega
    have hw1:w1=[]:=List.eq_nil_of_length_eq_zero (by have:=congrArg List.length h1;rw[AB]at this;omega);have hn2:n2=w2.length:=by rw[e2,h2,AB]
    have hw2:w2.length<=1099511627776:=by omega
    have hz:=LH A2 w2 170 [] (λx=>decide (x=0)) rfl (by omega) (λx _=>R2 x);subst hn2 h2 hw1;refine AWP.rs λY2=>?_
    refine JG ?_;refine AOps.g_callf ?_;refine AOps.z2 (h:=hz.used) (hT:=.ls (Y:=Y2)) (k:=?_);refine KO ?_;have g2:AV.frzs ((w2.filter λx=>!decide (x=0)).map iA)=(w2.filter λx=>!decide (x=0)).map iA:=Frzs.h;refine AOps.iceX Y2 ((w2.filter λx=>!decide (x=0)).map iA) g2 (.cons (.agg (.cons .same (.cons .same (.cons (.base .sl) (.cons .same (.cons .same (.cons .same (.cons .same .nil)))))))) .nil) ?_;refine AOps.iceX A3 (w3.map iA) f3 (.cons (.agg (.cons .same (.cons .same (.cons .same (.cons (.base .sl) (.cons .same (.cons .same (.cons .same .nil)))))))) .nil) ?_;refine WK ?_;exact jn ([0],w2.filter λx=>!decide (x=0),w3,[0]) ⟨hL.zero (by omega),by simp⟩
   ·have hd:n1≠0:=by rw[AN]at hd;omega
    have hw1:w1≠[]:=by rintro rfl;rw[h1]at e1;exact hd e1
    refine AWP.iceX A1 (w1.map iA) f1 (.cons (.agg (.cons .same (.cons (.base .sl) (.cons .same (.cons .same (.cons .same (.cons .same (.cons .same .nil)))))))) .nil) ?_;refine AWP.iceX A2 (w2.map iA) f2 (.cons (.agg (.cons .same (.cons .same (.cons (.base .sl) (.cons .same (.cons .same (.cons .same (.cons .same .nil)))))))) .nil) ?_;refine AWP.iceX A3 (w3.map iA) f3 (.cons (.agg (.cons .same (.cons .same (.cons .same (.cons (.base .sl) (.cons .same (.cons .same (.cons .same .nil)))))))) .nil) ?_;refine AWP.iceX A4 (w4.map iA) f4 (.cons (.agg (.cons .same (.cons .same (.cons .same (.cons .same (.cons (.base .sl) (.cons .same (.cons .same .nil)))))))) .nil) ?_;refine WK ?_;exact jn (w1,w2,w3,w4) ⟨hL,hw1⟩
  ·rintro⟨w1,w2,w3,w4⟩ ⟨hL,hne⟩
   dsimp only at hL hne⊢;have hr3:∀x∈w3,0<=x/\x<ks.length:=λx hx=>hL.r1 x (hL.s3 x hx)
   have hr4:∀x∈w4,0<=x/\x<ks.length:=λx hx=>hL.r1 x (hL.s4 x hx)
   have hl3:=KN hL.o3 hr3 (by omega);have hl4:=KN hL.o4 hr4 (by omega);have hfl:[w3,w4].flatten=w3++w4:=by simp
   have hcc:=LL [w3,w4] (by simp) (by rw[hfl,AP];omega);rw[hfl]at hcc;have hsr:∀x∈w3++w4,0<=x/\x<ks.length:=λx hx=>by rcases List.mem_append.1 hx with h|h;exact hr3 x h;exact hr4 x h
   have hsn:w3++w4≠[]:=by
    intro e0;obtain⟨x,hx⟩:=List.exists_mem_of_ne_nil _ hne;rcases hL.all x hx with h|h
    ·have:x∈w3++w4:=by simp[h]
     rw[e0]at this;cases this
    ·have:x∈w3++w4:=by simp[h]
     rw[e0]at this;cases this
   have hap:=λl=>WL G ks (w3++w4) l hk hsn hsr (by rw[AP];omega)
   have hao:=λl=>UC ks (w3++w4) l hk hf hsn hsr
   have hw4:0<=Ao q 6/\Ao q 6<6:=Af q (by decide);obtain⟨c,hc⟩:∃c:Nat,Ao q 6=c:=⟨(Ao q 6).toNat,by omega⟩;obtain⟨q0,hq0⟩:=nm (Ae q 6);refine JG ?_;refine AOps.g_callf ?_;refine AOps.c1 (h:=(hcc ..)) (k:=?_);refine WO ?_;refine Ai λV=>?_;refine JB ?_
   refine AWP.iceP [9] (X:=V) (by exact At.f) ?_ (by intro d hd;simp only[BO]at hd;subst hd;rfl);refine R1 ?_;refine JF ?_;refine AOps.g_callf ?_;refine AOps.o2 (h:=(CP G _ _ (by decide))) (k:=?_);refine JB ?_;rw[hc,hq0];refine FL ?_;refine Az (λb:Sys2=>⟨[(3,.fp [Ag false false ks]),(4,.fp [.ptr G 0 0]),(6,.ptr R 0 0),(7,.ptr X 0 0),(10,.fn 172 [.fp [.ptr G 0 0],.fp [AM false (w3++w4)],.fp [Ag false false ks]]),(82,iA c),(83,iA b.j)],(b.A,.row 195 11 b.M)::(X,.row 76 7 [.agg [sA (Dw n),AM false w1,AM false w2,AM false w3,AM false w4,.sl b.A 0 b.m,.lst false 42 2 (b.sp.map (AG false))]])::(R,Su)::(G,Bd b.q)::Sf⟩) (Sys2.OK ks w3 w4 c) (λb=>c-b.j) ⟨0,A5,0,[],[],q0⟩ ⟨Nat.zero_le _,⟨[],rfl,by simp⟩,rfl,rfl,.inl rfl⟩ ?_;rintro⟨j,A,m,M,sp,q⟩ ⟨hj,⟨ops,hM,hO⟩,hm,hmj,hsp⟩;dsimp only at hj hM hm hmj hsp⊢;refine KK ?_;refine AWP.cond rfl (λhd=>?_) (λhd=>?_)
   ·have hjc:j<c:=by rw[AE]at hd;omega
    have hd13:=Af q (n:=13) (by decide);obtain⟨d,hdd⟩:=nm (Ao q 13);obtain⟨q1,hq1⟩:=nm (Ae q 13);have ha:=hao q1;have hap1:=hap q1;obtain⟨a,haa⟩:=nm ((FJ ks (w3++w4) q1).1);obtain⟨q2,hq2⟩:=nm ((FJ ks (w3++w4) q1).2);rw[haa]at ha hap1;rw[hq2]at hap1;have hn13:=CP G q 13 (by decide);rw[hdd,hq1]at hn13;rw[hdd]at hd13;refine JF ?_;refine AOps.g_callf ?_;refine AOps.o2 (h:=(hn13 ..)) (k:=?_);refine WO ?_;refine AOps.g_callv ?_;refine AOps.q0 (h:=(hap1 ..)) (k:=?_);refine KO ?_;refine Ai λO=>?_;refine JB ?_
    refine R1 ?_;refine Bl (λb:Arg×List Int=>if C7 d then Mt ks (w3++w4) b.1 else b.1=Fl) (λb=>⟨[(3,.fp [Ag false false ks]),(4,.fp [.ptr G 0 0]),(6,.ptr R 0 0),(7,.ptr X 0 0),(10,.fn 172 [.fp [.ptr G 0 0],.fp [AM false (w3++w4)],.fp [Ag false false ks]]),(11,.ptr O 0 0),(82,iA c),(83,iA j)],(O,.row 195 11 [opA ⟨d,⟨0,0⟩,a,b.1⟩])::(A,.row 195 11 M)::(X,.row 76 7 [.agg [sA (Dw n),AM false w1,AM false w2,AM false w3,AM false w4,.sl A 0 m,.lst false 42 2 (sp.map (AG false))]])::(R,Su)::(G,Bd b.2)::Sf⟩) ?_ ?_
    ·refine AWP.cond rfl (λhg=>?_) (λhg=>?_)
     ·have htw:C7 d=true:=by
       unfold C7;simp only[Bool.or_eq_true,Bool.and_eq_true,AE]at hg⊢;omega
      have hap2:=hap q2;have ha2:=hao q2;refine KK ?_;refine AOps.g_callv ?_;refine AOps.q0 (h:=(hap2 ..)) (k:=?_);refine KK ?_;exact jn ((FJ ks (w3++w4) q2).1,(FJ ks (w3++w4) q2).2) (by rw[if_pos htw];exact ha2)
     ·have htw:C7 d=false:=by
       unfold C7;simp only[Bool.or_eq_false_iff,Bool.and_eq_false_iff,AN]at hg⊢;omega
      refine WK ?_;exact jn (Fl,q2) (by rw[htw];rfl)
    ·rintro⟨b,q3⟩ hb
     dsimp only at hb⊢;refine UW (λb:Op×List Comp×List Int=>OpOK ks w3 w4 b.1/\(b.2.1=[]\/∃q,b.2.1=(Cg ks q).1)) (λb=>⟨[(3,.fp [Ag false false ks]),(4,.fp [.ptr G 0 0]),(6,.ptr R 0 0),(7,.ptr X 0 0),(10,.fn 172 [.fp [.ptr G 0 0],.fp [AM false (w3++w4)],.fp [Ag false false ks]]),(11,.ptr O 0 0),(82,iA c),(83,iA j)],(O,.row 195 11 [opA b.1])::(A,.row 195 11 M)::(X,.row 76 7 [.agg [sA (Dw n),AM false w1,AM false w2,AM false w3,AM false w4,.sl A 0 m,.lst false 42 2 (b.2.1.map (AG false))]])::(R,Su)::(G,Bd b.2.2)::Sf⟩) ?_ ?_
     ·refine KK ?_
      refine AWP.cond rfl (λhg=>?_) (λhg=>?_)
      ·have hap3:=hap q3
       have ha3:=hao q3;refine JM ?_;refine RGo.g_callv ?_;refine RGo.q0 (h:=(hap3 ..)) (k:=?_);refine JH ?_;refine RGo.nil (by kernel_rfl) ?_;refine WK ?_;exact jn (⟨12,⟨0,0⟩,a,(FJ ks (w3++w4) q3).1⟩,sp,(FJ ks (w3++w4) q3).2) ⟨⟨by dsimp only;omega,by dsimp only;omega,ha,ha3,λh=>by dsimp only at h;omega,λh=>by dsimp only at h;omega,λ_=>rfl⟩,hsp⟩
      ·have hg':¬(d<=7/\w4.length=0):=by
        simp only[Bool.and_eq_false_iff,AN,AB]at hg;omega
       refine KK ?_;refine AWP.cond rfl (λhs=>?_) (λhs=>?_)
       ·have hs:d<=7:=by simpa using hs
        have hw0:0<w4.length:=by omega
        have hv:=Af q3 (n:=w4.length) (by omega);obtain⟨i,hi⟩:∃i:Nat,Ao q3 w4.length=i:=⟨(Ao q3 w4.length).toNat,by omega⟩;have hil:i<w4.length:=by omega
        obtain⟨k,hk4⟩:∃k:Nat,w4[i]=k:=⟨w4[i].toNat,by have:=hr4 _ (AU hil);omega⟩;have hkl:k<ks.length:=by have:=hr4 _ (AU hil);omega
        have hkm:(k:Int)∈w4:=by rw[<-hk4];exact AU hil
        have hkf:=(hk.2 _ (AU hkl)).1;have hfd:=NU (ks:=ks) (i:=k) rfl hkl;have hfp:0<ks[k].fields.length:=List.length_pos_iff.2 (hf _ (AU hkl))
        have hon:PO Tryz.prog 52 [.ptr G 0 0,iA (w4.map iA).length] G (Bd q3) (iA i) (Bd (Ae q3 w4.length)):=by
         have:=CP G q3 w4.length (by omega);rw[hi]at this;rw[AB];exact this
        have hon2:=CP G (Ae q3 w4.length) (ks[k].fields.map fieldA).length (by rw[AB];omega);have hv2:=Af (Ae q3 w4.length) (n:=(ks[k].fields.map fieldA).length) (by rw[AB];omega);refine JM ?_;refine RGo.g_callf ?_;refine RGo.o2 (h:=(hon ..)) (k:=?_);(iterate 3 refine RK ?_);refine RGo.nil (by kernel_rfl) ?_;rw[hk4];refine JM ?_;refine RGo.g_callf ?_;refine RGo.o2 (h:=(hon2 ..)) (k:=?_);(iterate 3 refine RK ?_);refine RGo.nil (by kernel_rfl) ?_;refine WK ?_;refine jn (⟨d,⟨k,Ao (Ae q3 w4.length) (ks[k].fields.map fieldA).length⟩,a,b⟩,sp,_) ⟨⟨by dsimp only;omega,by dsimp only;omega,ha,hb,λ_=>⟨⟨by dsimp only;omega,by dsimp only;omega,hv2.1,by dsimp only;rw[hfd];exact hv2.2⟩,hkm⟩,λh=>by dsimp only at h;omega,λh=>by dsimp only at h;omega⟩,hsp⟩
       ·have hs:¬d<=7:=by simpa using hs
        refine KK ?_;refine AWP.cond rfl (λhu=>?_) (λhu=>?_)
        ·have hu:d=8\/d=9:=by simpa using hu
         have hon:=CP G q3 (ks.map (A7 false)).length (by rw[AB];omega);have hv:=Af q3 (n:=(ks.map (A7 false)).length) (by rw[AB];omega);have hv2:=hv.2;rw[AB]at hv2;refine KK ?_;refine AOps.g_callf ?_;refine AOps.o2 (h:=(hon ..)) (k:=?_);refine KK ?_;refine jn (⟨d,⟨Ao q3 (ks.map (A7 false)).length,0⟩,a,b⟩,sp,_) ⟨⟨by dsimp only;omega,by dsimp only;omega,ha,hb,λh=>by dsimp only at h;omega,λ_=>⟨hv.1,by dsimp only;rw[AB];exact hv2,rfl⟩,λh=>by dsimp only at h;omega⟩,hsp⟩
        ·have hu:¬(d=8\/d=9):=by simpa using hu
         refine KK ?_;refine AWP.cond rfl (λhx=>?_) (λhx=>?_)
         ·have hcp:=On G ks q3 hk
          refine KK ?_;refine AOps.g_callf ?_;refine AOps.o2 (h:=(hcp ..)) (k:=?_);refine KK ?_;refine jn (⟨d,⟨0,0⟩,a,b⟩,(Cg ks q3).1,(Cg ks q3).2) ⟨⟨by dsimp only;omega,by dsimp only;omega,ha,hb,λh=>by dsimp only at h;omega,λh=>by dsimp only at h;omega,λ_=>rfl⟩,.inr ⟨q3,rfl⟩⟩
         ·refine KK ?_
          refine jn (⟨d,⟨0,0⟩,a,b⟩,sp,q3) ⟨⟨by dsimp only;omega,by dsimp only;omega,ha,hb,λh=>by dsimp only at h;omega,λh=>by dsimp only at h;omega,λ_=>rfl⟩,hsp⟩
     ·rintro⟨o,sp',q4⟩ ⟨ho,hsp'⟩
      dsimp only at ho hsp'⊢;have hm1:m+1<=1099511627776:=by omega
      (iterate 4 refine WK ?_);refine AOps.g_lit ?_;refine AOps.goL (opA o) ?_;refine WK ?_;refine Ay λY=>?_;refine KK ?_
      refine Ab (⟨j+1,Y,m+1,M++[opA o],sp',q4⟩:Sys2) ⟨hjc,⟨ops++[o],by dsimp only;rw[hM,List.map_append];rfl,λo' ho'=>?_⟩,by dsimp only;rw[AP,hm];rfl,by dsimp only;omega,hsp'⟩ (by dsimp only;omega);rcases List.mem_append.1 ho' with h|h
      ·exact hO o' h
      ·rw[List.mem_singleton.1 h];exact ho
   ·have hjc:j=c:=by rw[AN]at hd;omega
    subst hjc;have fM:AV.frzs M=ops.map opA:=by rw[hM];exact Frzs.h
    refine FL ?_;refine AWP.iceX A (ops.map opA) fM (.cons (.agg (.cons .same (.cons .same (.cons .same (.cons .same (.cons .same (.cons (.base .sl) (.cons .same .nil)))))))) .nil) ?_;refine JA ?_;have hlen:ops.length<=5:=by rw[hM,AB]at hm;omega
    exact⟨[CA false ⟨Dw n,w1,w2,w3,w4,ops,sp⟩],[CA false ⟨Dw n,w1,w2,w3,w4,ops,sp⟩],_,[(G,Bd q)],.cons (.cell rfl (by exact At.f) TAg.h TSize.h rfl rfl) rfl .nil,Lh _ _,by exact Sub.f,(⟨Dw n,w1,w2,w3,w4,ops,sp⟩,q),⟨rfl,hL,hne,hlen,hO,hsp⟩,rfl,rfl⟩
def Wz:Arg:=⟨true,0,⟨0,0⟩⟩
def olderS:Sys:=⟨[111,108,100,101,114],[0],[],[],[0],[⟨1,⟨0,0⟩,Wz,⟨false,1,⟨0,0⟩⟩⟩,⟨12,⟨0,0⟩,⟨false,1,⟨0,0⟩⟩,Wz⟩],[]⟩
theorem Oa(l:List Int):0<(DE l).kinds.length/\(DE l).kinds.length<=4:=⟨H5 l,(Kv l).1⟩
theorem Q7{ks:List Kind}{rd wr:List Int}{a:Arg}(h:Mt ks (rd++wr) a):ArgG ks rd wr a:=by
 refine⟨λe=>?_,λe=>?_⟩
 ·obtain⟨h1,h2,h3⟩:=h.1 e
  refine⟨h1,h2,?_⟩;rw[CY]at h3;rcases h3 with h3|h3
  ·exact .inl (by simpa using h3)
  ·exact .inr (by simpa using h3)
 ·obtain⟨h1,h2,h3⟩:=h.2 e
  exact⟨by omega,by omega,h3⟩
theorem TB{ks:List Kind}{rd wr:List Int}{o:Op}(h:OpOK ks rd wr o):OpG ks rd wr o:=by
 refine⟨h.lo,h.hi,Q7 h.a,?_,?_,?_,h.puts,h.none⟩
 ·have hb:=h.b
  split at hb
  ·exact Q7 hb
  ·rw[hb]
   exact⟨λe=>(by cases e),λ_=>⟨by decide,by decide,rfl⟩⟩
 ·intro e
  have hb:=h.b;rw[if_neg (by rw[e];decide)]at hb;exact hb
 ·intro e
  have:o.act<=7:=by unfold DZ at e;simp at e;exact e.2
  obtain⟨h1,h2⟩:=h.sets this;exact⟨h1,by simpa using h2⟩
theorem OT:∀(l:List Int) (a n:Int),l.Pairwise (· < ·)->(∀x∈l,a<=x/\x<n)->a<=n->(l.length:Int)<=n-a
 |[],a,n,_,_,h=>by simp;omega
 |x::l,a,n,hp,hr,h=>by
  obtain⟨h1,h2⟩:=List.pairwise_cons.1 hp;obtain⟨h3,h4⟩:=hr x (by simp)
  have:=OT l (x+1) n h2 (λy hy=>by
   have e1:=h1 y hy;have e2:=(hr y (by simp[hy])).2;omega) (by omega)
  rw[Bs];omega
theorem Qj{ks:List Kind}{n:Nat}{s:Sys}(hk:Al ks=0)(hg:KsGood ks)(hn:n<6)(h:SysOK ks n s):SysG ks s:=by
 have h16:=(Bt hk).1;have hl:=h.lists
 have hin:∀l:List Int,l.Pairwise (· < ·)->(∀x∈l,0<=x/\x<(ks.length:Int))->l.length<=16:=λl h1 h2=>by
  have:=OT l 0 ks.length h1 h2 (by omega);omega
 have r3:∀x∈s.reads,0<=x/\x<(ks.length:Int):=λx hx=>hl.r1 x (hl.s3 x hx)
 have r4:∀x∈s.writes,0<=x/\x<(ks.length:Int):=λx hx=>hl.r1 x (hl.s4 x hx)
 have hsp:(CL ks s.spawn).2=0/\s.spawn.length<=1099511627776:=by
  rcases h.spawn with e|⟨q,e⟩
  ·rw[e];exact⟨by rw[IS hk (by rfl)],by simp⟩
  ·rw[e]
   have hh:=HF hg q;have:=(ED hk hh).1;exact⟨by rw[IS hk hh],by omega⟩
 refine⟨?_,by have:=h.len;omega,?_,?_,?_,hsp.1,hsp.2,λo ho=>TB (h.ops o ho)⟩
 ·rw[h.name]
  rcases(show n=0\/n=1\/n=2\/n=3\/n=4\/n=5 by omega)with rfl|rfl|rfl|rfl|rfl|rfl<;>decide
 ·intro l hl'
  simp only[BR,List.not_mem_nil,or_false]at hl';rcases hl' with rfl|rfl|rfl|rfl
  ·exact⟨hl.o1,hl.r1,hin _ hl.o1 hl.r1⟩
  ·exact⟨hl.o2,hl.r2,hin _ hl.o2 hl.r2⟩
  ·exact⟨hl.o3,r3,hin _ hl.o3 r3⟩
  ·exact⟨hl.o4,r4,hin _ hl.o4 r4⟩
 ·rw[List.any_eq_false]
  intro x hx;have:=hl.d x hx;simpa using this
 ·rw[List.any_eq_false]
  intro x hx;rw[CY]at hx;have:x∈s.wth:=by exact hx.elim (hl.s3 x) (hl.s4 x)
  simpa using this
theorem Pn:∀o∈olderS.ops,OpOK baseWd.kinds olderS.reads olderS.writes o:=by
 intro o ho;simp only[olderS,BR,List.not_mem_nil,or_false]at ho;rcases ho with rfl|rfl
 ·refine⟨by decide,by decide,⟨λ_=>⟨rfl,by unfold IK;decide,by decide⟩,λe=>(by cases e)⟩,?_,λ_=>⟨by unfold IK;decide,by decide⟩,λe=>?_,λe=>?_⟩
  ·rw[if_pos (by decide)]
   exact⟨λe=>(by cases e),λ_=>⟨by decide,by decide,rfl⟩⟩
  ·rcases e with e|e<;>simp at e
  ·simp at e
 ·refine⟨by decide,by decide,⟨λe=>(by cases e),λ_=>⟨by decide,by decide,rfl⟩⟩,?_,λe=>?_,λe=>?_,λe=>rfl⟩
  ·rw[if_pos (by decide)]
   exact⟨λ_=>⟨rfl,by unfold IK;decide,by decide⟩,λe=>(by cases e)⟩
  ·simp at e
  ·rcases e with e|e<;>simp at e
theorem Pm:SysG baseWd.kinds olderS:=by
 refine⟨by decide,by decide,by decide,by decide,by decide,by decide,by decide,λo ho=>TB (Pn o ho)⟩
theorem VR:WdOK baseWd:=(BL _).1 (by decide)
theorem Jc(l:List Int):(DE l).kinds≠[]/\∀k∈(DE l).kinds,k.fields≠[]:=by
 have hp:=H5 l;refine⟨λe=>?_,?_⟩
 ·have e':(As l).1=[]:=e
  rw[e']at hp;simp at hp
 ·show∀k∈(As l).1,k.fields≠[]
  rw[ET];intro k hk
  have:∀i q,∀k∈(kAt i q).1,k.fields≠[]:=by
   intro i q
   induction i with
   |zero=>intro k hk;cases hk
   |succ i ih=>
    intro k hk;rcases List.mem_append.1 hk with hk|hk
    ·exact ih k hk
    ·rw[List.mem_singleton.1 hk]
     show(Bb 0 (1+Ao (kAt i q).2 3).toNat (Ae (kAt i q).2 3)).1≠[]
     have h3:=Af (kAt i q).2 (n:=3) (by decide);rw[Fz];intro e;have:=congrArg List.length e;rw[Q3]at this;simp at this;omega
  exact this _ _ k hk
theorem olderT:TickG baseWd [olderS]:=⟨VR,by decide,λs hs=>(List.mem_singleton.1 hs).symm▸Pm,by decide⟩
theorem L4(a b:List Kind)(f:FuncId)(cap:List AV)(p:Kind->Kind->Bool)(hs:B6 cap=true)(hl:a.length<=4611686018427387904)(hf:∀x∈a,∀y∈b,PS Tryz.prog f ((A7 false) x::(A7 false) y::cap) (bA (p x y))):
  PS Tryz.prog 104 [.lst false 118 2 (a.map (A7 false)),.lst false 118 2 (b.map (A7 false)),.fn f cap] (bA (eqF p a b)):=by
 refine Sp (nt:=32) (res:=[.tmp 6]) Tryz.func104 λSf=>?_
 refine KK ?_;refine AWP.cond rfl (λhb=>?_) (λhb=>?_)
 ·have hb:a.length≠b.length:=by simp at hb;omega
  refine JA ?_;refine AF ?_;rw[IC hb]
 ·have hb:a.length=b.length:=by simp at hb;omega
  refine KK ?_;refine Az (λi:Nat=>⟨[(0,.lst false 118 2 (a.map (A7 false))),(1,.lst false 118 2 (b.map (A7 false))),(2,.fn f cap),(15,.lst false 118 2 (a.map (A7 false))),(16,iA (a.map (A7 false)).length),(17,iA i)],Sf⟩) (λi=>i<=a.length/\∀j (h:j<a.length),j<i->p a[j] (b[j]'(by omega))=true) (λi=>a.length-i) 0 ⟨Nat.zero_le _,λj h hj=>absurd hj (by omega)⟩ ?_;rintro i ⟨hi,he⟩;refine KK ?_;refine AWP.cond rfl (λhc=>?_) (λhc=>?_)
  ·have h:i<a.length:=by simpa using hc
   have h':i<b.length:=by omega
   refine KK ?_;refine Ai λX=>?_;refine KK ?_;refine Ai λX=>?_;refine KK ?_;refine AOps.g_callv ?_;refine AOps.k2 (h:=(hf _ (AU h) _ (AU h'))) (k:=?_);refine KK ?_
   refine AWP.cond rfl (λhd=>?_) (λhd=>?_)
   ·have hd:p a[i] b[i]=false:=by simpa using hd
    refine JA ?_;refine AF ?_;rw[LE hb h hd]
   ·have hd:p a[i] b[i]=true:=by simpa using hd
    refine KK ?_;refine Ab (i+1) ⟨h,λj h1 h2=>?_⟩;by_cases e:j=i
    ·subst e;exact hd
    ·exact he j h1 (by omega)
  ·have h:¬i<a.length:=by simpa using hc
   refine JA ?_;refine AF ?_;rw[IB hb λj hj=>he j hj (by omega)]
theorem SE(a b:List Field)(hl:a.length<=1099511627776):PS Tryz.prog 106 [Ef false a,Ef false b] (bA (decide (a=b))):=by
 refine Sp (nt:=26) (res:=[.tmp 4]) Tryz.func106 λSf=>?_
 refine KK ?_;refine AWP.cond rfl (λhb=>?_) (λhb=>?_)
 ·have hb:a.length≠b.length:=by simp at hb;omega
  refine JA ?_;refine AF ?_;rw[AK λe=>hb (by rw[e])]
 ·have hb:a.length=b.length:=by simp at hb;omega
  refine KK ?_;refine Az (λi:Nat=>⟨[(0,Ef false a),(1,Ef false b),(12,iA (a.map fieldA).length),(13,iA i)],Sf⟩) (λi=>i<=a.length/\∀j (h:j<a.length),j<i->a[j]=b[j]'(by omega)) (λi=>a.length-i) 0 ⟨Nat.zero_le _,λj h hj=>absurd hj (by omega)⟩ ?_;rintro i ⟨hi,he⟩;refine KK ?_;refine AWP.cond rfl (λhc=>?_) (λhc=>?_)
  ·have h:i<a.length:=by simpa using hc
   have h':i<b.length:=by omega
   obtain⟨f,hf⟩:=nm (a[i]);obtain⟨g,hg⟩:=nm (b[i]);have haf:(a.map fieldA)[i]?=some (fieldA f):=by rw[AH,AI h,hf];rfl
   have hag:(b.map fieldA)[i]?=some (fieldA g):=by rw[AH,AI h',hg];rfl
   refine KK ?_;refine RU ?_;(iterate 8 refine RK ?_);refine RGo.gN ?_;refine RGo.p (W.neP _ _ (by kernel_rfl) (Tp f g) rfl rfl) rfl ?_;refine RGo.nil (by kernel_rfl) ?_;refine WK ?_;refine AWP.cond rfl (λhd=>?_) (λhd=>?_)
   ·have hd:f≠g:=by simpa using hd
    refine JA ?_;refine AF ?_;rw[AK λe=>hd (by subst e;rw[<-hf,<-hg])]
   ·have hd:f=g:=by simpa using hd
    refine KK ?_;refine Ab (i+1) ⟨h,λj h1 h2=>?_⟩;by_cases e:j=i
    ·subst e;rw[hf,hg,hd]
    ·exact he j h1 (by omega)
  ·have h:¬i<a.length:=by simpa using hc
   refine JA ?_;refine AF ?_;rw[Ah (List.ext_getElem hb λj h1 h2=>he j h1 (by omega))]
theorem WB(x y:Kind):(decide (x.name=y.name)&&decide (x.fields=y.fields))=decide (x=y):=by
 obtain⟨k,v⟩:=x;obtain⟨k',v'⟩:=y;rw[Bool.eq_iff_iff];simp
theorem WI{P:Program}{t te:TypeId}(h1:P.underlying t=some (.struct (P.fieldsOf t)))(h2:P.stoodInHeld t=false)(h:ev3 P t te=true)(g1:P.underlying te=some (.struct (P.fieldsOf te)))(g2:P.stoodInHeld te=false)(g3:Sn P te=true)
  (hp:∀(a b c d:Int) (w:World),(part te #[.int .i64 a,.int .i64 b,.int .i64 c,.int .i64 d] 1).run P w= .ok (.agg #[.int .i64 b,.int .i64 c]) w) (a b c d a' b' c' d':Int) (w:World):
  (Op.equalIn 10000 t (.agg #[.int .i64 a,.int .i64 b,.int .i64 c,.int .i64 d]) (.agg #[.int .i64 a',.int .i64 b',.int .i64 c',.int .i64 d'])).run P w= .ok (decide (a=a')&&(decide (b=b')&&decide (c=c'))&&decide (d=d')) w:=by
 rw[show(10000:Nat)=9999+1 from rfl,run_equalIn_agg w 9999 t _ _ h1 h2];unfold ev3 at h;split at h
 ·rename_i f1 f2 f3 hf
  simp only[Bool.and_eq_true,bne_iff_ne,ne_eq,beq_iff_eq]at h;obtain⟨⟨⟨⟨⟨⟨⟨n1,n2⟩,n3⟩,o1⟩,o2⟩,o3⟩,o4⟩,hu⟩:=h;have o4:=Nat.eq_of_beq_eq_true o4;subst o4;split at hu
  ·rename_i k1 k3 u1 u3
   have p1:∀a b c d:Int,(part f1.type #[.int .i64 a,.int .i64 b,.int .i64 c,.int .i64 d] f1.offset).run P w= .ok (.int .i64 a) w:=λa b c d=>DN u1 (by rw[o1];rfl) w
   have p2:∀a b c d:Int,(part f2.type #[.int .i64 a,.int .i64 b,.int .i64 c,.int .i64 d] f2.offset).run P w= .ok (.agg #[.int .i64 b,.int .i64 c]) w:=λa b c d=>by rw[o2];exact hp a b c d w
   have p3:∀a b c d:Int,(part f3.type #[.int .i64 a,.int .i64 b,.int .i64 c,.int .i64 d] f3.offset).run P w= .ok (.int .i64 d) w:=λa b c d=>DN u3 (by rw[o3];rfl) w
   have q1:∀a c:Int,(Op.equalIn 9999 f1.type (.int .i64 a) (.int .i64 c)).run P w= .ok (a==c) w:=λa c=>run_equalIn_int (P:=P) w 9998 f1.type .i64 k1 a c u1
   have q2:∀a b c d:Int,(Op.equalIn 9999 f2.type (.agg #[.int .i64 a,.int .i64 b]) (.agg #[.int .i64 c,.int .i64 d])).run P w= .ok (decide (a=c)&&decide (b=d)) w:=λa b c d=>VL 9997 g1 g2 g3 a b c d w
   have q3:∀a c:Int,(Op.equalIn 9999 f3.type (.int .i64 a) (.int .i64 c)).run P w= .ok (a==c) w:=λa c=>run_equalIn_int (P:=P) w 9998 f3.type .i64 k3 a c u3
   rw[hf];by_cases e1:a=a'
   ·by_cases e2:b=b'
    ·by_cases e4:c=c'
     ·by_cases e3:d=d'
      ·simp[Op.eqFields,n1,n2,n3,Sem.run_bind,p1,p2,p3,q1,q2,q3,e1,e2,e3,e4,Sem.run_pure,Sem.run_ite,Result.andThen_ok]
      ·simp[Op.eqFields,n1,n2,n3,Sem.run_bind,p1,p2,p3,q1,q2,q3,e1,e2,e3,e4,Sem.run_pure,Sem.run_ite,Result.andThen_ok]
     ·simp[Op.eqFields,n1,n2,Sem.run_bind,p1,p2,q1,q2,e1,e2,e4,Sem.run_pure,Sem.run_ite,Result.andThen_ok]
    ·simp[Op.eqFields,n1,n2,Sem.run_bind,p1,p2,q1,q2,e1,e2,Sem.run_pure,Sem.run_ite,Result.andThen_ok]
   ·simp[Op.eqFields,n1,Sem.run_bind,p1,q1,e1,Sem.run_pure,Sem.run_ite,Result.andThen_ok]
  ·cases hu
 ·cases h
theorem VI(a b c d:Int)(w:World):(binOp .neq 86 (.agg [Value.int .i64 a,Value.int .i64 b,Value.int .i64 c,Value.int .i64 d].toArray) (.agg [Value.int .i64 a,Value.int .i64 b,Value.int .i64 c,Value.int .i64 d].toArray)).run Tryz.prog w= .ok (.bool false) w:=by
 have h:=WI (P:=Tryz.prog) (t:=86) (te:=32) (by kernel_rfl) (by kernel_rfl) (by kernel_rfl) (by kernel_rfl) (by kernel_rfl) (by kernel_rfl) (λa b c d w=>by kernel_rfl) a b c d a b c d w;rw[run_neq_struct];have e:(Op.equalIn 10000 86 (.agg [Value.int .i64 a,Value.int .i64 b,Value.int .i64 c,Value.int .i64 d].toArray) (.agg [Value.int .i64 a,Value.int .i64 b,Value.int .i64 c,Value.int .i64 d].toArray)).run Tryz.prog w=_:=h;rw[e,Result.andThen_ok];simp
theorem Hh(l:List Evt)(hl:l.length<=1099511627776):PS Tryz.prog 41 [.lst false 86 4 (l.map Cw),.lst false 86 4 (l.map Cw)] (bA true):=by
 refine Sp (nt:=26) (res:=[.tmp 4]) Tryz.func41 λSf=>?_
 refine KK ?_;refine AA rfl (by simp) ?_;refine KK ?_;refine Az (λi:Nat=>⟨[(0,.lst false 86 4 (l.map Cw)),(1,.lst false 86 4 (l.map Cw)),(12,iA (l.map Cw).length),(13,iA i)],Sf⟩) (λi=>i<=l.length) (λi=>l.length-i) 0 (Nat.zero_le _) ?_;rintro i hi;refine KK ?_;refine AWP.cond rfl (λhc=>?_) (λhc=>?_)
 ·have h:i<l.length:=by rw[AE,AB]at hc;omega
  obtain⟨⟨es,⟨en,eg⟩,ev⟩,hx⟩:=nm (l[i]);have hat:(l.map Cw)[i]?=some (Cw ⟨es,⟨en,eg⟩,ev⟩):=by rw[AH,AI h,hx];rfl
  refine KK ?_;refine RU ?_;(iterate 8 refine RK ?_);refine RGo.gN ?_;refine RGo.p (W.neP _ _ (by kernel_rfl) (VI es en eg ev) rfl rfl) rfl ?_;refine RGo.nil (by kernel_rfl) ?_;refine WK ?_;refine AA rfl rfl ?_;refine KK ?_;refine Ab (i+1) h
 ·refine KK ?_
  refine RT ?_;refine AF ?_;rfl
theorem Rg:PS Tryz.prog 92 [] (wdA false baseWd):=by
 refine Sp (nt:=14) (res:=[.cell 0 26]) Tryz.func92 λSf=>?_
 refine KK ?_;refine Ai λX=>?_;refine KK ?_
 refine RT ?_;refine GD (rs:=[wdA false baseWd]) rfl (.cons (.cell (p:=0) rfl .here TAg.h TSize.h rfl rfl) rfl .nil)
theorem PZ:PS Tryz.prog 93 [] (CA false olderS):=by
 refine Sp (nt:=13) (res:=[.cell 0 76]) Tryz.func93 λSf=>?_
 refine JF ?_;refine Ai λR=>?_;refine NL ?_
 refine KK ?_;refine Ai λX=>?_;refine KK ?_
 refine AWP.nilIn 3 1 (Y:=R) (.cons (.agg (.cons .same (.cons .same (.cons (.base .nil) (.cons (.base .nil) (.cons .same (.cons .same (.cons .same .nil)))))))) .nil) ?_;refine AWP.nilIn 42 2 (Y:=R) (.cons (.agg (.cons .same (.cons .same (.cons .same (.cons .same (.cons .same (.cons .same (.cons (.base .nil) .nil)))))))) .nil) ?_;refine RT ?_;exact GD (rs:=[CA false olderS]) rfl (.cons (.cell rfl (by exact At.f) TAg.h TSize.h rfl rfl) rfl .nil)
theorem PY(x y:Comp)(hl:x.vals.length<=1099511627776):PS Tryz.prog 103 [AG false x,AG false y] (bA (decide (x=y))):=by
 have heq:=Gu x.vals y.vals hl;rw[<-T4];refine Sp (nt:=17) (res:=[.tmp 4]) Tryz.func103 λSf=>?_
 refine RG ?_;refine AOps.g_box ?_;refine Ad ?_;refine AOps.g_box ?_;refine Ad ?_;refine JB ?_;rcases Bool.eq_false_or_eq_true (decide (x.kind=y.kind))with g|g
 ·rw[g]
  refine KK ?_;refine AOps.g_callf ?_;refine AOps.c2 (h:=(heq ..)) (k:=?_);refine JA ?_;refine AF ?_;rfl
 ·rw[g]
  refine JA ?_;refine AF ?_;rfl
theorem PW(x y:Kind)(hl:x.fields.length<=1099511627776):PS Tryz.prog 105 [A7 false x,A7 false y] (bA (decide (x=y))):=by
 have heq:=SE x.fields y.fields hl;rw[<-WB];refine Sp (nt:=17) (res:=[.tmp 4]) Tryz.func105 λSf=>?_
 refine RG ?_;refine AOps.g_box ?_;refine Ad ?_;refine AOps.g_box ?_;refine Ad ?_;refine JB ?_;rcases Bool.eq_false_or_eq_true (decide (x.name=y.name))with g|g
 ·rw[g]
  refine KK ?_;refine AOps.g_callf ?_;refine AOps.c2 (h:=(heq ..)) (k:=?_);refine JA ?_;refine AF ?_;rfl
 ·rw[g]
  refine JA ?_;refine AF ?_;rfl
theorem PV(x y:Item)(hl:CsL x.comps):PS Tryz.prog 108 [AD false x,AD false y,.fp [.fn 103 []]] (bA (decide (x=y))):=by
 have h:=HI x.comps y.comps 103 [] (λx y=>decide (x=y)) rfl (by have:=hl.1;omega) (λu hu v _=>PY u v (hl.2 u hu));rw[Hi λ_ _ _ _=>rfl]at h;rw[<-WD];refine Sp (nt:=19) (res:=[.tmp 5]) Tryz.func108 λSf=>?_
 refine RG ?_;refine AOps.g_box ?_;refine Ad ?_;refine AOps.g_box ?_;refine Ad ?_;refine JB ?_;have hE:=Ir x.ent.n x.ent.gen y.ent.n y.ent.gen;rw[show(decide (x.ent.n=y.ent.n)&&decide (x.ent.gen=y.ent.gen))=MI x.ent y.ent from rfl]at hE;cases hb:MI x.ent y.ent
 ·rw[hb]at hE
  (iterate 6 refine WK ?_);refine AOps.gN ?_;refine AOps.p (W.eqP _ _ (by kernel_rfl) hE rfl rfl) rfl ?_;refine KK ?_
  refine RT ?_;refine AF ?_;rfl
 ·rw[hb]at hE
  (iterate 6 refine WK ?_);refine AOps.gN ?_;refine AOps.p (W.eqP _ _ (by kernel_rfl) hE rfl rfl) rfl ?_;refine KK ?_;refine AOps.g_callf ?_;refine C5 (h:=(h ..)) (k:=?_);refine KK ?_
  refine RT ?_;refine AF ?_;rfl
theorem Rf(a b:Wd)(hl:WdL a):PS Tryz.prog 39 [wdA false a,wdA false b] (bA (decide (a=b))):=by
 have h1:=L4 a.kinds b.kinds 105 [] (λx y=>decide (x=y)) rfl (by have:=hl.ks.1;omega) (λx hx y _=>PW x y (hl.ks.2 x hx));rw[Hi λ_ _ _ _=>rfl]at h1;have h2:=Gu a.gens b.gens hl.gens;have h3:=L3 a.items b.items 108 [.fp [.fn 103 []]] (λx y=>decide (x=y)) rfl (by have:=hl.items.1;omega) (λx hx y _=>PV x y (hl.items.2 x hx));rw[Hi λ_ _ _ _=>rfl]at h3;rw[<-W7];refine Sp (nt:=28) (res:=[.tmp 4]) Tryz.func39 λSf=>?_
 refine RG ?_;refine AOps.g_box ?_;refine Ad ?_;refine AOps.g_box ?_;refine Ad ?_;refine JB ?_;obtain⟨b1,e1⟩:=nm (decide (a.kinds=b.kinds));obtain⟨b2,e2⟩:=nm (decide (a.gens=b.gens));rw[e1]at h1⊢;rw[e2]at h2⊢;refine JJ ?_;refine Ai λC=>?_;refine JB ?_
 refine FL ?_;refine AWP.iceP [5] (by exact At.f) ?_ (λd hd=>by rw[List.mem_singleton.1 hd];rfl);cases b1
 ·refine KK ?_;refine AOps.g_callf ?_;refine C5 (h:=(h1 ..)) (k:=?_);refine KK ?_
  refine RT ?_;refine AF ?_;rfl
 ·cases b2
  ·refine KK ?_;refine AOps.g_callf ?_;refine C5 (h:=(h1 ..)) (k:=?_);refine KK ?_;refine AOps.g_callf ?_;refine AOps.c2 (h:=(h2 ..)) (k:=?_);refine KK ?_
   refine RT ?_;refine AF ?_;rfl
  ·refine KK ?_;refine AOps.g_callf ?_;refine C5 (h:=(h1 ..)) (k:=?_);refine KK ?_;refine AOps.g_callf ?_;refine AOps.c2 (h:=(h2 ..)) (k:=?_);refine KK ?_;refine AOps.g_callf ?_;refine C5 (h:=(h3 ..)) (k:=?_);refine KK ?_
   refine RT ?_;refine AF ?_;rfl
theorem Uj:(Hs baseWd [olderS] 0 0).2=[⟨0,⟨0,0⟩,10⟩]:=by kernel_rfl
theorem Vs:OY (Hs baseWd [olderS] 0 0).1 ⟨0,0⟩ 0=([10],0):=by kernel_rfl
theorem Pa:PS Tryz.prog 35 [] (bA true):=by
 have hb:=Rg;have ho:=PZ;have hr:=PE baseWd [olderS] 0 0 olderT;have hw:=(olderT.tick 0 0).1.ok.wl;have hg:=Vs;rw[Uj]at hr;obtain⟨v,hv⟩:=nm ((Hs baseWd [olderS] 0 0).1);rw[hv]at hr hw hg;have hgt:=WG v ⟨0,0⟩ 0 hw;rw[hg]at hgt;have he:=Hh [⟨0,⟨0,0⟩,10⟩] (by decide);have hi:=Gu [10] [10] (by decide);rw[Ah rfl]at hi;refine Sp (nt:=36) (res:=[.tmp 0]) Tryz.func35 λSf=>?_
 refine R1 ?_;refine JD ?_;refine AOps.g_callf ?_;refine Nl (h:=(hb ..)) (k:=?_);refine AOps.g_callf ?_;refine Nl (h:=(ho ..)) (k:=?_);refine WO ?_;refine AOps.g_callf ?_;refine Vl (h:=(hr ..)) (k:=?_);refine KO ?_;refine Ai λV=>?_;refine JE ?_
 refine JI ?_;refine AOps.g_callf ?_;refine AOps.c2 (h:=(he ..)) (k:=?_);refine JE ?_;refine AA rfl rfl ?_;refine JI ?_;refine AOps.g_callf ?_;refine C5 (h:=(hgt ..)) (k:=?_);refine JE ?_;refine JI ?_;refine AOps.g_callf ?_;refine AOps.c2 (h:=(hi ..)) (k:=?_);refine JE ?_;refine RT ?_;refine AF ?_;rfl
theorem VM(ks:List Kind)(s:Sys)(index:Int)(e:Ent)(o:Op)(c:List Comp)(r:UInt64×UInt64)(cm:List Cmd)(ev:List Evt):
  doM ks s index e o ⟨c,r,cm,ev⟩=⟨(doM ks s index e o ⟨c,r,[],[]⟩).comps,(doM ks s index e o ⟨c,r,[],[]⟩).r,cm++(doM ks s index e o ⟨c,r,[],[]⟩).cmds,ev++(doM ks s index e o ⟨c,r,[],[]⟩).evs⟩:=by
 unfold doM;dsimp only;split
 ·simp
 ·split
  ·simp
  ·split<;>simp
theorem KU(ks:List Kind)(s:Sys)(index:Int)(e:Ent):∀(os:List Op) (c:List Comp) (r:UInt64×UInt64) (cm:List Cmd) (ev:List Evt),
  C6 ks s index e os ⟨c,r,cm,ev⟩=⟨(C6 ks s index e os ⟨c,r,[],[]⟩).comps,(C6 ks s index e os ⟨c,r,[],[]⟩).r,cm++(C6 ks s index e os ⟨c,r,[],[]⟩).cmds,ev++(C6 ks s index e os ⟨c,r,[],[]⟩).evs⟩
 |[],c,r,cm,ev=>by simp[C6]
 |o::os,c,r,cm,ev=>by
  have h1:C6 ks s index e (o::os) ⟨c,r,cm,ev⟩=C6 ks s index e os (doM ks s index e o ⟨c,r,cm,ev⟩):=rfl;have h2:C6 ks s index e (o::os) ⟨c,r,[],[]⟩=C6 ks s index e os (doM ks s index e o ⟨c,r,[],[]⟩):=rfl;rw[h1,h2,VM];obtain⟨⟨c',r',cm',ev'⟩,hd⟩:=nm (doM ks s index e o ⟨c,r,[],[]⟩);rw[hd];dsimp only;rw[KU ks s index e os c' r' (cm++cm'),KU ks s index e os c' r' cm'];simp
abbrev FS(ks:List Kind)(s:Sys)(index seed tick:Int)(x:Item):Rn:=Da ks s index seed tick x [] []
theorem Tt(ks:List Kind)(s:Sys)(index seed tick:Int)(x:Item)(cm:List Cmd)(ev:List Evt):(Da ks s index seed tick x cm ev).comps=(FS ks s index seed tick x).comps/\(Da ks s index seed tick x cm ev).cmds=cm++(FS ks s index seed tick x).cmds/\(Da ks s index seed tick x cm ev).evs=ev++(FS ks s index seed tick x).evs:=by
 unfold FS Da;rw[KU];exact⟨rfl,rfl,rfl⟩
theorem FD(ks:List Kind)(s:Sys)(index seed tick:Int):∀(qs:List (Nat×Item)) (b:List Item×List Cmd×List Evt),EP ks s index seed tick qs b=
  (qs.foldl (λits q=>its.set q.1 ⟨q.2.ent,(FS ks s index seed tick q.2).comps⟩) b.1,b.2.1++(qs.map (·.2)).flatMap (λx=>(FS ks s index seed tick x).cmds),b.2.2++(qs.map (·.2)).flatMap (λx=>(FS ks s index seed tick x).evs))
 |[],b=>by simp[EP]
 |q::qs,b=>by
  obtain⟨h1,h2,h3⟩:=Tt ks s index seed tick q.2 b.2.1 b.2.2;show EP ks s index seed tick qs (b.1.set q.1 ⟨q.2.ent,(Da ks s index seed tick q.2 b.2.1 b.2.2).comps⟩,(Da ks s index seed tick q.2 b.2.1 b.2.2).cmds,(Da ks s index seed tick q.2 b.2.1 b.2.2).evs)=_
  rw[FD ks s index seed tick qs,h1,h2,h3];simp
theorem JT(l:List Item)(wth wout:List Int):∀i,i<=l.length->(DS l wth wout i).map (·.2)=(l.take i).filter λx=>Ba x wth wout
 |0,_=>by simp[DS]
 |i+1,h=>by
  have hi:i<l.length:=by omega
  rw[List.take_succ_eq_append_getElem hi,List.filter_append,<-JT l wth wout i (by omega)];cases hm:Ba l[i] wth wout with
  |true=>rw[Iu hi hm];simp[hm]
  |false=>rw[Oz hi hm];simp[hm]
theorem JU(l:List Item)(wth wout:List Int):(DH l wth wout).map (·.2)=l.filter λx=>Ba x wth wout:=by
 unfold DH;rw[JT l wth wout _ (Nat.le_refl _),List.take_length]
theorem O0{l:List Item}{wth wout:List Int}{j:Nat}{x:Item}(hj:l[j]?=some x)(hm:Ba x wth wout=true):∀i,j<i->i<=l.length->(j,x)∈DS l wth wout i
 |0,h,_=>absurd h (Nat.not_lt_zero _)
 |i+1,h,hi=>by
  by_cases e:j=i
  ·subst e
   have hl:j<l.length:=by omega
   have hx:l[j]=x:=by have:=AI hl;rw[hj]at this;injection this with this;exact this.symm
   rw[Iu hl (by rw[hx];exact hm),hx];simp
  ·have:=O0 hj hm i (by omega) (by omega)
   unfold DS;exact List.mem_append_left _ this
theorem Oe{f:Item->Item}{l0:List Item}:∀(qs:List (Nat×Item)) (its:List Item),(∀q∈qs,l0[q.1]?=some q.2)->its.length=l0.length->∀(i:Nat) (x:Item),l0[i]?=some x->
  (qs.foldl (λits q=>its.set q.1 (f q.2)) its)[i]?=if(i,x)∈qs then some (f x)else its[i]?
 |[],its,_,_,i,x,_=>by simp
 |q::qs,its,hq,hl,i,x,hx=>by
  have h0:=hq q (by simp);rw[List.foldl_cons,Oe qs _ (λq' h'=>hq q' (by simp[h'])) (by rw[List.length_set];exact hl) i x hx];have hil:i<l0.length:=(List.getElem?_eq_some_iff.1 hx).1;by_cases e:(i,x)∈qs
  ·rw[if_pos e,if_pos (List.mem_cons_of_mem _ e)]
  ·rw[if_neg e]
   by_cases e2:q.1=i
   ·subst e2
    rw[hx]at h0;injection h0 with h0
    rw[if_pos (by rw[h0];simp),List.getElem?_set_self (by omega),h0]
   ·rw[if_neg (by
     intro h;rcases List.mem_cons.1 h with h|h
     ·exact e2 (by rw[<-h])
     ·exact e h),List.getElem?_set_ne e2]
def CH(ks:List Kind)(s:Sys)(index seed tick:Int)(x:Item):Item:=if Ba x s.wth s.wout then⟨x.ent,(FS ks s index seed tick x).comps⟩else x
theorem Uk{w:Wd}{s:Sys}{index seed tick:Int}{i:Nat}{x:Item}(h:w.items[i]?=some x):(CU w s index seed tick).1[i]?=some (CH w.kinds s index seed tick x):=by
 unfold CU;rw[FD];dsimp only;rw[Oe (f:=λx=>⟨x.ent,(FS w.kinds s index seed tick x).comps⟩) (l0:=w.items) (DH w.items s.wth s.wout) _ (λq hq=>(EW hq).1) rfl i x h];unfold CH;have hil:=(List.getElem?_eq_some_iff.1 h).1;cases hm:Ba x s.wth s.wout with
 |true=>
  have hin:(i,x)∈DH w.items s.wth s.wout:=O0 h hm _ hil (Nat.le_refl _);rw[if_pos hin];rfl
 |false=>
  rw[if_neg λhq=>?_,h]
  ·rfl
  ·rw[(EW hq).2]at hm
   cases hm
theorem Gl(w:Wd)(s:Sys)(index seed tick:Int):(CU w s index seed tick).2.1=(w.items.filter λx=>Ba x s.wth s.wout).flatMap λx=>(FS w.kinds s index seed tick x).cmds:=by
 unfold CU;rw[FD,JU];rfl
theorem Hx(w:Wd)(s:Sys)(index seed tick:Int):(CU w s index seed tick).2.2=(w.items.filter λx=>Ba x s.wth s.wout).flatMap λx=>(FS w.kinds s index seed tick x).evs:=by
 unfold CU;rw[FD,JU];rfl
def HY(x y:List Int):Bool:=x.any λk=>y.contains k
def ID(a b:Sys):Bool:=HY a.writes b.writes||HY a.writes b.reads||HY a.reads b.writes
theorem SK(y:List Int)(k:Int)(hl:y.length<=4611686018427387904):PS Tryz.prog 97 [iA k,.fp [AM false y]] (bA (y.contains k)):=by
 refine Sp (nt:=7) (res:=[.tmp 3]) Tryz.func97 λSf=>?_
 refine KK ?_;refine AOps.g_callf ?_;refine AOps.c2 (h:=(BX y k hl)) (k:=?_);refine JA ?_;refine AF ?_;rfl
theorem LK(x y:List Int)(hx:x.length<=4611686018427387904)(hl:y.length<=4611686018427387904):PS Tryz.prog 95 [AM false x,AM false y] (bA (HY x y)):=by
 refine Sp (nt:=8) (res:=[.tmp 4]) Tryz.func95 λSf=>?_
 refine WK ?_;refine WK ?_;refine AOps.g_box ?_;refine Ad ?_;refine KK ?_;refine AOps.g_callf ?_;refine AOps.c2 (h:=(Co x 97 [.fp [AM false y]] (λk=>y.contains k) rfl hx (λk _=>SK y k hl))) (k:=?_);refine JA ?_;refine AF ?_;rfl
def UQ(s:Sys):Prop:=s.reads.length<=4611686018427387904/\s.writes.length<=4611686018427387904
theorem Ol(a b:Sys)(ha:UQ a)(hb:UQ b):PS Tryz.prog 37 [CA false a,CA false b] (bA (ID a b)):=by
 have c1:=LK a.writes b.writes ha.2 hb.2;have c2:=LK a.writes b.reads ha.2 hb.1;have c3:=LK a.reads b.writes ha.1 hb.2;unfold ID;obtain⟨b1,e1⟩:=nm (HY a.writes b.writes);obtain⟨b2,e2⟩:=nm (HY a.writes b.reads);obtain⟨b3,e3⟩:=nm (HY a.reads b.writes);rw[e1]at c1⊢;rw[e2]at c2⊢;rw[e3]at c3⊢;refine Sp (nt:=28) (res:=[.tmp 4]) Tryz.func37 λSf=>?_
 cases b1
 ·cases b2
  ·(repeat first|(refine AOps.gN ?_;first|(refine AOps.g_callv ?_;first|refine AOps.k2 (h:=(c1 ..)) (k:=?_)|refine AOps.k2 (h:=(c2 ..)) (k:=?_)|refine AOps.k2 (h:=(c3 ..)) (k:=?_))|(refine AOps.g_box ?_;refine Ad ?_))|refine WK ?_|refine Ai λX=>?_|refine Ay λY=>?_)
   refine RT ?_;refine AF ?_;rfl
  ·refine WK ?_;refine WK ?_;refine AOps.g_box ?_;refine Ad ?_;refine AOps.g_box ?_;refine Ad ?_;refine KK ?_;refine AOps.g_callv ?_;refine AOps.k2 (h:=(c1 ..)) (k:=?_);refine KK ?_;refine AOps.g_callv ?_;refine AOps.k2 (h:=(c2 ..)) (k:=?_);refine KK ?_
   refine RT ?_;refine AF ?_;rfl
 ·refine WK ?_;refine WK ?_;refine AOps.g_box ?_;refine Ad ?_;refine AOps.g_box ?_;refine Ad ?_;refine KK ?_;refine AOps.g_callv ?_;refine AOps.k2 (h:=(c1 ..)) (k:=?_);refine KK ?_
  refine RT ?_;refine AF ?_;rfl
section
theorem GX{cs:List Comp}(hs:CZ cs)(k:Int)(f:Nat)(v:Int)(q:Int):BH (KC cs k f v) q=if q=k then(BH cs k).map λc=>⟨c.kind,c.vals.set f v⟩else BH cs q:=by
 cases hc:BH cs k with
 |none=>
  have e:KC cs k f v=cs:=by unfold KC;rw[hc]
  rw[e];split
  ·rename_i h;subst h;exact hc
  ·rfl
 |some c=>
  obtain⟨e1,e2⟩:=Hw hs hc f v;obtain⟨g1,g2⟩:=Pw (key:=Comp.kind) hs e1 (z:=⟨c.kind,c.vals.set f v⟩) rfl;obtain⟨_,hck⟩:=(B0 hs).1 hc;rw[e2];split
  ·rename_i h
   subst h;exact(B0 g1).2 ⟨(g2 _).2 (.inl rfl),hck⟩
  ·rename_i h
   refine Option.ext λd=>?_
   rw[B0 g1,B0 hs,g2];constructor
   ·rintro⟨rfl|⟨a,b⟩,e⟩
    ·exact absurd (e.symm.trans hck) h
    ·exact⟨a,e⟩
   ·rintro⟨a,e⟩
    exact⟨.inr ⟨a,λe3=>h (e.symm.trans (e3.trans hck))⟩,e⟩
def GE(s:Sys)(k:Int):Bool:=s.reads.contains k||s.writes.contains k
def Gd(s:Sys)(cs ds:List Comp):Prop:=∀k,GE s k=true->BH cs k=BH ds k
theorem LX{ks:List Kind}{s:Sys}{cs ds:List Comp}(h:Gd s cs ds){a:Arg}(ha:ArgG ks s.reads s.writes a):Ga cs a=Ga ds a:=by
 unfold Ga;cases hb:a.has
 ·rfl
 ·obtain⟨_,_,h3⟩:=ha.yes hb
  have:BH cs a.ref.kind=BH ds a.ref.kind:=h _ (by unfold GE;rw[Bool.or_eq_true];exact h3);unfold GL;rw[this]
theorem SJ{ks:List Kind}{s:Sys}{index:Int}{e:Ent}{o:Op}{x y:Rn}(hx:RnG ks s x)(hy:RnG ks s y)(ho:OpG ks s.reads s.writes o)(h:Gd s x.comps y.comps)(hr:x.r=y.r)(hc:x.cmds=y.cmds)(he:x.evs=y.evs):
  Gd s (doM ks s index e o x).comps (doM ks s index e o y).comps/\(doM ks s index e o x).r=(doM ks s index e o y).r/\(doM ks s index e o x).cmds=(doM ks s index e o y).cmds/\(doM ks s index e o x).evs=(doM ks s index e o y).evs:=by
 have sx:=(held_iff.1 hx.held).1;have sy:=(held_iff.1 hy.held).1;have ha:=LX h ho.a;have hb:=LX h ho.b;unfold doM;rw[<-ha,<-hb,<-hr,<-hc,<-he];split
 ·refine⟨λk hk=>?_,rfl,rfl,rfl⟩
  dsimp only;rw[GX sx,GX sy];split
  ·rename_i e1
   subst e1;rw[h _ hk]
  ·exact h k hk
 ·split
  ·exact⟨h,hr,hc,he⟩
  ·split
   ·exact⟨h,rfl,rfl,rfl⟩
   ·exact⟨h,rfl,rfl,rfl⟩
theorem SI{ks:List Kind}{s:Sys}{index:Int}{e:Ent}{o:Op}{x:Rn}(hx:RnG ks s x)(ho:OpG ks s.reads s.writes o){k:Int}(hk:s.writes.contains k=false):BH (doM ks s index e o x).comps k=BH x.comps k:=by
 have sx:=(held_iff.1 hx.held).1;unfold doM;split
 ·rename_i hs
  obtain⟨_,h2⟩:=ho.sets hs;dsimp only;rw[GX sx,if_neg λe=>by rw[e,h2]at hk;cases hk]
 ·split
  ·rfl
  ·split<;>rfl
theorem KV{ks:List Kind}{s:Sys}{index:Int}{e:Ent}(hk:Al ks=0):∀(os:List Op) {x y:Rn},RnG ks s x->RnG ks s y->(∀o∈os,OpG ks s.reads s.writes o)->Gd s x.comps y.comps->x.r=y.r->x.cmds=y.cmds->x.evs=y.evs->
  Gd s (C6 ks s index e os x).comps (C6 ks s index e os y).comps/\(C6 ks s index e os x).cmds=(C6 ks s index e os y).cmds/\(C6 ks s index e os x).evs=(C6 ks s index e os y).evs
 |[],x,y,_,_,_,h,_,hc,he=>⟨h,hc,he⟩
 |o::os,x,y,hx,hy,ho,h,hr,hc,he=>by
  have h1:=ho o (List.mem_cons_self ..);obtain⟨a1,a2,a3,a4⟩:=SJ (index:=index) (e:=e) hx hy h1 h hr hc he;exact KV hk os (LG hk hx h1).1 (LG hk hy h1).1 (λq hq=>ho q (List.mem_cons_of_mem _ hq)) a1 a2 a3 a4
theorem KT{ks:List Kind}{s:Sys}{index:Int}{e:Ent}(hk:Al ks=0){k:Int}(hw:s.writes.contains k=false):∀(os:List Op) {x:Rn},RnG ks s x->(∀o∈os,OpG ks s.reads s.writes o)->BH (C6 ks s index e os x).comps k=BH x.comps k
 |[],x,_,_=>rfl
 |o::os,x,hx,ho=>by
  have h1:=ho o (List.mem_cons_self ..);have h2:=KT (index:=index) (e:=e) hk hw os (LG (index:=index) (e:=e) hk hx h1).1 (λq hq=>ho q (List.mem_cons_of_mem _ hq));exact h2.trans (SI hx h1 hw)
theorem Hk{α:Type}{p q:α->Bool}:∀{l:List α},(∀x∈l,p x=q x)->l.any p=l.any q
 |[],_=>rfl
 |x::l,h=>by rw[List.any_cons,List.any_cons,h x (List.mem_cons_self ..),Hk λy hy=>h y (List.mem_cons_of_mem _ hy)]
theorem I9{cs ds:List Comp}(h:cs.map Comp.kind=ds.map Comp.kind)(k:Int):Il cs k=Il ds k:=by
 have e:∀l:List Comp,Il l k=(l.map Comp.kind).any λx=>decide (x=k):=λl=>by unfold Il;rw[List.any_map];rfl
 rw[e,e,h]
theorem HA{x y:Item}(h:x.comps.map Comp.kind=y.comps.map Comp.kind)(wth wout:List Int):Ba x wth wout=Ba y wth wout:=by
 unfold Ba;rw[Hk λk _=>by rw[I9 h k],Hk (l:=wout) λk _=>I9 h k]
theorem Gn{ks:List Kind}{s:Sys}{seed tick index:Int}{x:Item}(hs:SysG ks s)(hh:A8 ks x.comps=true)(hm:Ba x s.wth s.wout=true):RnG ks s ⟨x.comps,Ex [seed,tick,index,x.ent.n],[],[]⟩:=⟨hh,Fc hs hm,Gm _⟩
section
variable {ks:List Kind}{s:Sys}{index seed tick:Int}
theorem D8(x:Item):(CH ks s index seed tick x).ent=x.ent:=by unfold CH;split<;>rfl
theorem Eu(hk:Al ks=0)(hs:SysG ks s){x:Item}(hh:A8 ks x.comps=true):A8 ks (CH ks s index seed tick x).comps=true/\(CH ks s index seed tick x).comps.map Comp.kind=x.comps.map Comp.kind:=by
 unfold CH;cases hm:Ba x s.wth s.wout with
 |false=>exact⟨hh,rfl⟩
 |true=>
  have h0:=Gn (seed:=seed) (tick:=tick) (index:=index) hs hh hm;exact⟨(Jo hk s.ops h0 hs.ops).1.held,(Ia hk s.ops h0 hs.ops).1⟩
theorem Dk(hk:Al ks=0)(hs:SysG ks s){x:Item}(hh:A8 ks x.comps=true){k:Int}(hw:s.writes.contains k=false):BH (CH ks s index seed tick x).comps k=BH x.comps k:=by
 unfold CH;cases hm:Ba x s.wth s.wout with
 |false=>rfl
 |true=>exact KT hk hw s.ops (Gn hs hh hm) hs.ops
theorem GO(hk:Al ks=0)(hs:SysG ks s){x y:Item}(hx:A8 ks x.comps=true)(hy:A8 ks y.comps=true)(he:y.ent=x.ent)(hkd:y.comps.map Comp.kind=x.comps.map Comp.kind)(h:Gd s x.comps y.comps):
  Gd s (CH ks s index seed tick x).comps (CH ks s index seed tick y).comps/\(Ba x s.wth s.wout=true->(FS ks s index seed tick x).cmds=(FS ks s index seed tick y).cmds/\(FS ks s index seed tick x).evs=(FS ks s index seed tick y).evs):=by
 have hm2:=HA hkd s.wth s.wout;unfold CH;rw[hm2];cases hm:Ba x s.wth s.wout with
 |false=>exact⟨h,λe=>by cases e⟩
 |true=>
  have h0:=Gn (seed:=seed) (tick:=tick) (index:=index) hs hx hm;have h1:=Gn (seed:=seed) (tick:=tick) (index:=index) hs hy (hm2.trans hm);have h2:FS ks s index seed tick y=C6 ks s index x.ent s.ops ⟨y.comps,Ex [seed,tick,index,x.ent.n],[],[]⟩:=by unfold FS Da;rw[he]
  rw[he]at h1;obtain⟨a1,a2,a3⟩:=KV (index:=index) (e:=x.ent) hk s.ops h0 h1 hs.ops h rfl rfl rfl;rw[h2];exact⟨a1,λ_=>⟨a2,a3⟩⟩
theorem DA(w:Wd)(s:Sys)(index seed tick:Int):(CU w s index seed tick).1=w.items.map (CH w.kinds s index seed tick):=by
 refine List.ext_getElem? λi=>?_
 rw[AH];cases h:w.items[i]? with
 |some x=>rw[Uk h];rfl
 |none=>
  rw[List.getElem?_eq_none_iff]at h;exact List.getElem?_eq_none_iff.2 (by rw[KG];exact h)
end
theorem Jq{x y:List Int}(h:HY x y=false){k:Int}(hx:x.contains k=true):y.contains k=false:=by
 unfold HY at h;rw[List.any_eq_false]at h;have:=h k (by simpa using hx);simpa using this
theorem LJ{a b:Sys}(h:ID a b=false){k:Int}(hw:a.writes.contains k=true):GE b k=false:=by
 unfold ID at h;rw[Bool.or_eq_false_iff,Bool.or_eq_false_iff]at h;unfold GE;rw[Jq h.1.2 hw,Jq h.1.1 hw];rfl
theorem Mg{a b:Sys}(h:ID a b=false){k:Int}(hw:b.writes.contains k=true):GE a k=false:=by
 unfold ID at h;rw[Bool.or_eq_false_iff,Bool.or_eq_false_iff]at h;unfold GE;rw[Bool.or_eq_false_iff];constructor
 ·cases hr:a.reads.contains k with
  |false=>rfl
  |true=>rw[Jq h.2 hr]at hw;cases hw
 ·cases hr:a.writes.contains k with
  |false=>rfl
  |true=>rw[Jq h.1.1 hr]at hw;cases hw
theorem N4{s:Sys}{k:Int}(h:GE s k=false):s.writes.contains k=false:=by
 unfold GE at h;rw[Bool.or_eq_false_iff]at h;exact h.2
theorem SM{cs ds:List Comp}(h1:CZ cs)(h2:CZ ds)(h:∀k,BH cs k=BH ds k):cs=ds:=MF h1 h2 λc=>by
 constructor
 ·intro hc
  exact((B0 h2).1 (by rw[<-h];exact(B0 h1).2 ⟨hc,rfl⟩)).1
 ·intro hc
  exact((B0 h1).1 (by rw[h];exact(B0 h2).2 ⟨hc,rfl⟩)).1
section
variable {ks:List Kind}{a b:Sys}{i j seed tick:Int}
theorem Hl(hk:Al ks=0)(ha:SysG ks a)(hn:∀k,a.writes.contains k=true->GE b k=false){x:Item}(hh:A8 ks x.comps=true):Gd b x.comps (CH ks a i seed tick x).comps:=λk hb=>by
 refine(Dk hk ha hh ?_).symm;cases hw:a.writes.contains k with
 |false=>rfl
 |true=>rw[hn k hw]at hb;cases hb
theorem Sr(hk:Al ks=0)(ha:SysG ks a)(hb:SysG ks b)(hn:ID a b=false){x:Item}(hh:A8 ks x.comps=true):
  CH ks b j seed tick (CH ks a i seed tick x)=CH ks a i seed tick (CH ks b j seed tick x):=by
 obtain⟨a1,a2⟩:=Eu (index:=i) (seed:=seed) (tick:=tick) hk ha hh;obtain⟨b1,b2⟩:=Eu (index:=j) (seed:=seed) (tick:=tick) hk hb hh;obtain⟨c1,c2⟩:=Eu (index:=j) (seed:=seed) (tick:=tick) hk hb a1;obtain⟨d1,d2⟩:=Eu (index:=i) (seed:=seed) (tick:=tick) hk ha b1;have e1:=(GO (index:=j) (seed:=seed) (tick:=tick) hk hb hh a1 (D8 x) a2 (Hl hk ha (λk=>LJ hn) hh)).1;have e2:=(GO (index:=i) (seed:=seed) (tick:=tick) hk ha hh b1 (D8 x) b2 (Hl hk hb (λk=>Mg hn) hh)).1;have he:(CH ks b j seed tick (CH ks a i seed tick x)).ent=(CH ks a i seed tick (CH ks b j seed tick x)).ent:=by rw[D8,D8,D8,D8]
 have hc:(CH ks b j seed tick (CH ks a i seed tick x)).comps=(CH ks a i seed tick (CH ks b j seed tick x)).comps:=SM (held_iff.1 c1).1 (held_iff.1 d1).1 λk=>by
  cases hwa:a.writes.contains k with
  |true=>
   have hs:=LJ hn hwa;rw[Dk hk hb a1 (N4 hs)];exact e2 k (by unfold GE;rw[hwa];simp)
  |false=>
   rw[Dk hk ha b1 hwa];cases hwb:b.writes.contains k with
   |true=>exact(e1 k (by unfold GE;rw[hwb];simp)).symm
   |false=>rw[Dk hk hb a1 hwb,Dk hk ha hh hwa,Dk hk hb hh hwb]
 obtain⟨p,q⟩:=nm (CH ks b j seed tick (CH ks a i seed tick x));obtain⟨p',q'⟩:∃p',CH ks a i seed tick (CH ks b j seed tick x)=p':=⟨_,rfl⟩;rw[q,q']at he hc⊢;cases p;cases p';simp only at he hc;rw[he,hc]
theorem K0(hk:Al ks=0)(ha:SysG ks a)(hb:SysG ks b)(hn:∀k,a.writes.contains k=true->GE b k=false):∀(l:List Item),(∀x∈l,A8 ks x.comps=true)->
  (((l.map (CH ks a i seed tick)).filter λx=>Ba x b.wth b.wout).flatMap λx=>(FS ks b j seed tick x).cmds)=((l.filter λx=>Ba x b.wth b.wout).flatMap λx=>(FS ks b j seed tick x).cmds)/\
  (((l.map (CH ks a i seed tick)).filter λx=>Ba x b.wth b.wout).flatMap λx=>(FS ks b j seed tick x).evs)=((l.filter λx=>Ba x b.wth b.wout).flatMap λx=>(FS ks b j seed tick x).evs)
 |[],_=>⟨rfl,rfl⟩
 |x::l,h=>by
  have hh:=h x (List.mem_cons_self ..);obtain⟨i1,i2⟩:=K0 hk ha hb hn l λy hy=>h y (List.mem_cons_of_mem _ hy)
  obtain⟨a1,a2⟩:=Eu (index:=i) (seed:=seed) (tick:=tick) hk ha hh;have e1:=(GO (index:=j) (seed:=seed) (tick:=tick) hk hb hh a1 (D8 x) a2 (Hl hk ha hn hh)).2;rw[List.map_cons,List.filter_cons,List.filter_cons,HA a2];cases hm:Ba x b.wth b.wout with
  |false=>exact⟨i1,i2⟩
  |true=>
   obtain⟨g1,g2⟩:=e1 hm;rw[if_pos rfl,if_pos rfl,List.flatMap_cons,List.flatMap_cons,List.flatMap_cons,List.flatMap_cons,i1,i2,g1,g2];exact⟨rfl,rfl⟩
end
abbrev wdT(w:Wd)(s:Sys)(index seed tick:Int):Wd:=⟨w.kinds,w.gens,(CU w s index seed tick).1⟩
theorem Tq{w:Wd}{a b:Sys}{i j seed tick:Int}(hk:Al w.kinds=0)(hh:∀x∈w.items,A8 w.kinds x.comps=true)(ha:SysG w.kinds a)(hb:SysG w.kinds b)(hn:ID a b=false):
  (CU (wdT w a i seed tick) b j seed tick).1=(CU (wdT w b j seed tick) a i seed tick).1/\
  (CU (wdT w a i seed tick) b j seed tick).2=(CU w b j seed tick).2/\(CU (wdT w b j seed tick) a i seed tick).2=(CU w a i seed tick).2:=by
 refine⟨?_,?_,?_⟩
 ·rw[DA,DA]
  show(CU w a i seed tick).1.map (CH w.kinds b j seed tick)=(CU w b j seed tick).1.map (CH w.kinds a i seed tick)
  rw[DA,DA,List.map_map,List.map_map];exact List.map_congr_left λx hx=>Sr hk ha hb hn (hh x hx)
 ·obtain⟨f1,f2⟩:=K0 (i:=i) (j:=j) (seed:=seed) (tick:=tick) hk ha hb (λk=>LJ hn) w.items hh
  refine Prod.ext ?_ ?_
  ·rw[Gl,Gl]
   show((CU w a i seed tick).1.filter _).flatMap _=_
   rw[DA];exact f1
  ·rw[Hx,Hx]
   show((CU w a i seed tick).1.filter _).flatMap _=_
   rw[DA];exact f2
 ·obtain⟨f1,f2⟩:=K0 (i:=j) (j:=i) (seed:=seed) (tick:=tick) hk hb ha (λk=>Mg hn) w.items hh
  refine Prod.ext ?_ ?_
  ·rw[Gl,Gl]
   show((CU w b j seed tick).1.filter _).flatMap _=_
   rw[DA];exact f1
  ·rw[Hx,Hx]
   show((CU w b j seed tick).1.filter _).flatMap _=_
   rw[DA];exact f2
end
theorem Hr(ks:List Kind)(l:List Int)(hk:FR ks)(hf:∀k∈ks,k.fields≠[])(h0:ks≠[]):Spec Tryz.prog 36 [Ag false false ks,AM false l] [] λr S'=>∃b:Sys,SysOK ks 0 b/\r=CA false b/\S'=[]:=by
 refine Sp (nt:=10) (res:=[.cell 4 76]) Tryz.func36 λSf=>?_
 refine JF ?_;refine Ai λR=>?_;refine NL ?_
 refine FL ?_;refine AWP.region ?_;refine WO ?_;refine WO ?_;refine WO ?_;refine AOps.rs λG=>AOps.s (W.box rfl .here rfl) rfl ?_
 refine UY (h:=Ra G ks l 0 hk hf h0 (by omega)) λb hb=>?_
 refine WO ?_;refine FL ?_;refine RT ?_;exact Ends.sp [CA false b.1] [] ⟨b.1,hb,rfl,rfl⟩
def G5:Sys:=⟨Dw 0,[0],[],[],[0],[],[]⟩
theorem Qk{ks:List Kind}(h:ks≠[]):SysOK ks 0 G5:=by
 have h1:=List.length_pos_iff.2 h;refine⟨rfl,⟨by simp[G5],by simp[G5],by simp[G5],by simp[G5],?_,by simp[G5],by simp[G5],by simp[G5],by simp[G5],by simp[G5]⟩,by simp[G5],by simp[G5],by simp[G5],.inl rfl⟩;intro x hx;simp only[G5,BO]at hx;subst hx;omega
structure RunG(w:Wd)(s:Sys):Prop where
 wl:WdL w
 ok:WdOK w
 k12:w.kinds.length<=12
 sg:SysG w.kinds s
 n:(DH w.items s.wth s.wout).length*s.ops.length<=1099511627775
theorem RunG.run{w:Wd}{s:Sys}(h:RunG w s)(index seed tick:Int):PS Tryz.prog 38 [wdA false w,CA false s,iA index,iA seed,iA tick] (.tup [wdH ⟨w.kinds,w.gens,(CU w s index seed tick).1⟩,.lst false 159 5 ((CU w s index seed tick).2.1.map Bp),.lst false 86 4 ((CU w s index seed tick).2.2.map Cw),iA 0]):=
 Sy w s index seed tick h.wl ((BL w).2 h.ok) h.k12 h.sg h.ok.ks (λit hit=>(h.ok.it it hit).2.2.2.2) h.n
theorem RunG.okR{w:Wd}{s:Sys}(h:RunG w s)(index seed tick:Int):WdOK ⟨w.kinds,w.gens,(CU w s index seed tick).1⟩:=(BL _).1 (Qn ((BL w).2 h.ok) h.sg)
section
open Go.RowKit
def HL(w:World):Mem:=⟨λ_=>none,λ_=>False,w,λb=>b<w.heap.size⟩
theorem QL(w:World):Good (HL w) (HL w) 0 [] []:=
 ⟨λz hz=>(by cases hz),.nil,λb hb=>(by cases hb),λb h=>h,.nil,λx hx=>(by cases hx),λx h=>h.elim,.refl _,rfl,rfl,rfl,Nat.le_refl _⟩
theorem Good.bel{w:World}{m':Mem}{N:Nat}{Z:Zs}{br:List Nat}(G:Good (HL w) m' N Z br):Below w.heap.size w m'.w:=
 ⟨G.os,G.tape,G.output,G.size,λk hk=>(G.le.F k hk).2⟩
theorem PS.calls_bool{P:Program}{f:FuncId}{args:List AV}{b:Bool}(h:PS P f args (bA b)){w:World}{vals:Array Value}(hv:VTs (HL w) args vals.toList []):
  Calls P f vals w λe w'=>e= .returned (.bool b)/\Below w.heap.size w w':=
 (h.run [] (HL w) 0 [] vals rfl (QL w) hv).mono λe w' ⟨v,r,S',m',N',Z',br,h1,h2,h3,G,h4,h5,h6⟩=>by
  subst h1 h2 h5;refine⟨?_,G.bel⟩;obtain⟨⟨h7,_⟩,_⟩:=h4;injection h7 with h7
  rw[h7]
theorem Mi{α:Type}{m:Mem}{C:List Value->α->Prop}{sz:Nat}{f:α->AV}(hC:∀c x,C c x->VC m (f x) c []):∀{l:List α} {xs:List Value},Cells C sz xs l->VCs m (l.map f) xs []
 |[],_,h=>⟨h,rfl⟩
 |x::l,_,⟨c,ys,h1,h2,h3,h4⟩=>⟨c,ys,[],[],h1,rfl,hC c x h3,Mi hC h4⟩
theorem LU{w:World}{b o:Nat}{u:Value}(h:w.cell? ⟨b,o,none⟩=some u):∃arr t r,w.heap[b]?=some (.cells arr t r)/\arr[o]?=some u:=by
 unfold World.cell? at h;cases hb:w.heap[b]? with
 |none=>simp only[hb]at h;cases h
 |some blk=>
  cases blk with
  |cells c t r=>simp only[hb]at h;exact⟨c,t,r,rfl,by simpa using h⟩
  |_=>simp only[hb]at h;cases h
theorem WZ{α:Type}{w:World}{C:World->Reg->List Value->α->Prop}{sz:Nat}{f:α->AV}{t:TypeId}{v:Value}{l:List α}(hsz:0<sz)(hC:∀c x,C w (Lt w) c x->VC (HL w) (f x) c [])(hw:∀x,(f x).width=sz)(h:Sl w (Lt w) sz C v l):VC (HL w) (.lst false t sz (l.map f)) [v] []:=by
 obtain⟨xs,⟨h1,A,cap,rfl,hn,hr⟩,hc⟩:=h;refine⟨rfl,A,cap,by simp,by simpa using hn,λe he=>by obtain⟨x,_,rfl⟩:=List.mem_map.1 he;exact hw x,λh0=>?_⟩;have h0:0<l.length:=by simpa using h0
 obtain⟨b,off,rfl,hb,hcell⟩:=hr h0;have hx:0<xs.length:=by rw[h1];exact Nat.mul_pos h0 hsz
 obtain⟨arr,t',r,h2,h3⟩:=LU (hcell 0 xs[0] (by simp));refine⟨b,off,arr,t',r,rfl,hb,h2,?_⟩
 have e:(arr.toList.drop off).take ((l.map f).length*sz)=xs:=by
  apply List.ext_getElem?;intro j;rw[List.getElem?_take];split
  ·rename_i hj
   have hj:j<xs.length:=by rw[h1];simpa using hj
   obtain⟨arr2,t2,r2,h4,h5⟩:=LU (hcell j xs[j] (by simp));rw[h2]at h4;injection h4 with h4
   injection h4 with h4
   subst h4;rw[List.getElem?_drop,AI hj];simpa using h5
  ·rename_i hj
   rw[List.getElem?_eq_none];rw[h1];simpa using hj
 rw[e];exact Mi hC hc
theorem U3{w:World}{v:Value}{l:List Int}(h:QZ w (Lt w) v l):VC (HL w) (AM false l) [v] []:=
 WZ (f:=iA) (by decide) (λc x hc=>⟨⟨hc,rfl⟩,rfl⟩) (λ_=>rfl) h
theorem Ue{m:Mem}:VTs m [] [] []:=⟨rfl,rfl⟩
theorem Qf{m:Mem}{l:List AV}{us:List Value}{x:Int}(k:VTs m l us []):VTs m (iA x::l) (.int .i64 x::us) []:=(Bj rfl).2 ⟨_,_,[],[],rfl,rfl,⟨⟨rfl,rfl⟩,rfl⟩,k⟩
theorem J1{w:World}{v:Value}{z:List Int}{l:List AV}{us:List Value}(h:QZ w (Lt w) v z)(k:VTs (HL w) l us []):VTs (HL w) (AM false z::l) (v::us) []:=(Bj rfl).2 ⟨_,_,[],[],rfl,rfl,U3 h,k⟩
end
section
open Go.RowKit
theorem SysOK.sm{ks:List Kind}{n:Nat}{s:Sys}(h:SysOK ks n s)(hk:FR ks):UQ s:=by
 have:=hk.1;have h3:=KN h.lists.o3 (λx hx=>h.lists.r1 x (h.lists.s3 x hx)) (by omega);have h4:=KN h.lists.o4 (λx hx=>h.lists.r1 x (h.lists.s4 x hx)) (by omega);exact⟨by omega,by omega⟩
end
section
open Go.RowKit
theorem Jn{w:Wd}{s:Sys}(h:WdOK w)(h12:w.kinds.length<=12)(hs:SysG w.kinds s):RunG w s:=by
 refine⟨h.wl,h,h12,hs,?_⟩;have h1:=Iv w.items s.wth s.wout;have h2:=hs.len;have h3:=h.il;have h4:=h.gl;exact Nat.le_trans (Nat.mul_le_mul (show _<=256 by omega) h2) (by decide)
theorem J2(l m o:List Int)(s t:Int):PS Tryz.prog 7 [AM false l,AM false m,AM false o,iA s,iA t] (bA true):=by
 have hwp:=Sd l;have hok:=OZ l;obtain⟨hk0,hk4⟩:=Oa l;have hko:FR (DE l).kinds:=Fy l;have hkg:KsGood (DE l).kinds:=HD l;obtain⟨hkn,hkf⟩:=Jc l;obtain⟨w,hw⟩:=nm (DE l);rw[hw]at hwp hok hk0 hk4 hko hkg hkn hkf;clear hw;have hs1:=Hr w.kinds m hko hkf hkn;have hs2:=Hr w.kinds o hko hkf hkn;refine Sp (nt:=124) (res:=[.tmp 10]) Tryz.func7 λSf=>?_
 refine R1 ?_;refine JD ?_;refine AOps.g_callf ?_;refine Nl (h:=(Pa ..)) (k:=?_);refine JB ?_;refine AA rfl rfl ?_;refine JJ ?_;refine AOps.g_callf ?_;refine AOps.c1 (h:=(hwp ..)) (k:=?_);refine WO ?_;refine Ai λV1=>?_;refine JB ?_
 refine FL ?_;refine AWP.rs λV2=>?_
 refine AWP.rs λV3=>?_
 refine Ji (A:={s//SysOK w.kinds 0 s}) (B:={s//SysOK w.kinds 0 s}) ?_ ?_ 3 7 (by kernel_rfl) (by kernel_rfl) ?_
 rotate_left
 rotate_left
 ·refine RGoM.g ?_
  refine RGoM.g ?_;refine RGoM.g ?_;refine RGoM.c1 hs1 ?_;refine RGoM.g ?_;refine RGoM.g ?_;refine RGoM.g ?_;refine RGoM.c2 hs2 ?_;refine RGoM.r ?_;refine RGoM.r ?_;refine RGoM.g ?_;refine RGoM.g ?_;refine RGoM.nil (λb=>by kernel_rfl) ?_ ?_ ?_
  ·rintro⟨⟨a,ha⟩,⟨b,hb⟩⟩ ⟨⟨a',ha'⟩,⟨b',hb'⟩⟩
   exact .same (.same (.same (.at (.same (.same (.same (.later (by kernel_rfl) (.same (.same (.later (by kernel_rfl) (.later (by kernel_rfl) (.nil))))))))))))
  ·rintro⟨a,ha⟩ ⟨b,hb⟩ ⟨b',hb'⟩
   exact .same (.same (.same (.same (.same (.same (.same (.at (.same (.same (.same (.later (by kernel_rfl) (.nil))))))))))))
  rintro⟨⟨a,ha⟩,⟨b,hb⟩⟩;dsimp only;have hc:=Ol a b (ha.sm hko) (hb.sm hko);rcases Bool.eq_false_or_eq_true (ID a b)with g|g
  ·rw[g]at hc
   refine JI ?_;refine AOps.g_callf ?_;refine AOps.c2 (h:=(hc ..)) (k:=?_);refine NL ?_;refine AL rfl rfl ?_;refine JA ?_;refine AF ?_;rfl
  rw[g]at hc;have hga:=Jn hok (by omega) (Qj hok.ks hkg (by omega) ha);have hgb:=Jn hok (by omega) (Qj hok.ks hkg (by omega) hb)
  have hT:TickG w [a,b]:=⟨hok,by omega,λx hx=>by
   rcases List.mem_cons.1 hx with rfl|hx
   ·exact hga.sg
   ·rw[List.mem_singleton.1 hx];exact hgb.sg,by simp⟩
  obtain⟨c1,c2,c3⟩:=hT.cmds (s:=a) (by simp) 0 s t;obtain⟨d1,d2,d3⟩:=hT.cmds (s:=b) (by simp) 1 s t;have c1:=(CmdG.sl c1).2;have d1:=(CmdG.sl d1).2;obtain⟨e1,e2,e3⟩:=Tq (i:=0) (j:=1) (seed:=s) (tick:=t) hok.ks (λit h=>(hok.it it h).2.2.2.2) hga.sg hgb.sg g;have r1:=hga.run 0 s t;have r3:=hgb.run 1 s t;have hgb2:=Jn (w:=wdT w a 0 s t) (hga.okR 0 s t) (by dsimp only;omega) hgb.sg;have hga2:=Jn (w:=wdT w b 1 s t) (hgb.okR 1 s t) (by dsimp only;omega) hga.sg;have r2:=hgb2.run 1 s t;have r4:=hga2.run 0 s t;have hwl:=(hgb2.okR 1 s t).wl;rw[e2]at r2;rw[e3,<-e1]at r4;dsimp only[wdT]at r1 r2 r3 r4 hwl;clear e1 e2 e3 hga hgb hgb2 hga2 hT;obtain⟨ia,hia⟩:=nm ((CU w a 0 s t).1);obtain⟨ib,hib⟩:=nm ((CU w b 1 s t).1);rw[hia]at r1 r2 r4 hwl;rw[hib]at r3 r4;obtain⟨ic,hic⟩:=nm ((CU ⟨w.kinds,w.gens,ia⟩ b 1 s t).1);rw[hic]at r2 r4 hwl;obtain⟨ca,hca⟩:=nm ((CU w a 0 s t).2.1);obtain⟨ea,hea⟩:=nm ((CU w a 0 s t).2.2);obtain⟨cb,hcb⟩:=nm ((CU w b 1 s t).2.1);obtain⟨eb,heb⟩:=nm ((CU w b 1 s t).2.2);rw[hca,hea]at r1 r4;rw[hcb,heb]at r2 r3;rw[hca]at c1 c2;rw[hcb]at d1 d2;rw[hea]at c3;rw[heb]at d3;clear hia hib hic hca hea hcb heb;have s1:=Rf _ ⟨w.kinds,w.gens,ic⟩ hwl;rw[Ah rfl]at s1;have s2:=LO ca ca (by omega) c1;rw[Hi λ_ _ _ _=>rfl,Ah rfl]at s2;have s3:=LO cb cb (by omega) d1;rw[Hi λ_ _ _ _=>rfl,Ah rfl]at s3;have s4:=Hh ea (by omega);have s5:=Hh eb (by omega);refine JI ?_;refine AOps.g_callf ?_;refine AOps.c2 (h:=(hc ..)) (k:=?_);refine NL ?_;refine AA rfl rfl ?_;refine JI ?_;refine AOps.g_callf ?_;refine IR (h:=(r1 ..)) (k:=?_);refine KO ?_;refine Ai λV4=>?_;refine JE ?_
  refine JI ?_;refine AOps.g_callf ?_;refine IR (h:=(r2 ..)) (k:=?_);refine JE ?_;refine JI ?_;refine AOps.g_callf ?_;refine IR (h:=(r3 ..)) (k:=?_);refine KO ?_;refine Ai λV5=>?_;refine JE ?_
  refine JI ?_;refine AOps.g_callf ?_;refine IR (h:=(r4 ..)) (k:=?_);refine JE ?_;refine JC ?_;refine JD ?_;(repeat first|(refine AOps.gN ?_;first|(refine AOps.g_callf ?_;first|refine AOps.c2 (h:=(s1 ..)) (k:=?_)|refine AOps.c2 (h:=(s2 ..)) (k:=?_)|refine AOps.c2 (h:=(s3 ..)) (k:=?_)|refine AOps.c2 (h:=(s4 ..)) (k:=?_)|refine AOps.c2 (h:=(s5 ..)) (k:=?_)))|refine WO ?_|refine Ai λX=>?_|refine Ay λY=>?_);refine NL ?_;refine RT ?_;refine AF ?_;rfl
 ·exact⟨G5,Qk hkn⟩
 ·exact⟨G5,Qk hkn⟩
theorem Qh(z0:List Int)(A0:Option Addr)(n0 cap0:Nat)(z1:List Int)(A1:Option Addr)(n1 cap1:Nat)(z2:List Int)(A2:Option Addr)(n2 cap2:Nat)(z3:Int)(z4:Int)(w:World)(h0:QZ w (Lt w) (.slice A0 n0 cap0) z0)(hlen0:z0.length*8<=140737488351232)(h1:QZ w (Lt w) (.slice A1 n1 cap1) z1)(hlen1:z1.length*8<=140737488351232)(h2:QZ w (Lt w) (.slice A2 n2 cap2) z2)(hlen2:z2.length*8<=140737488351232)(hx3:I64 z3)(hx4:I64 z4):
  Calls Tryz.prog 7 #[.slice A0 n0 cap0,.slice A1 n1 cap1,.slice A2 n2 cap2,.int .i64 z3,.int .i64 z4] w λe w'=>e= .returned (.bool true)/\Below w.heap.size w w':=
 (J2 z0 z1 z2 z3 z4).calls_bool (J1 h0 (J1 h1 (J1 h2 (Qf (Qf (Ue))))))
end
end Go.Proofs.YtiidbamlcgbpnaaGreat
