/-
  Part 8 of the texts under the law TickValid: the layer of abstract values, walks and plain laws. Conditions: those that each theorem names.
-/
import Derived.Below
import Derived.Conc.Holds
import Derived.Leaving
import Derived.Test.YtoohajbhpbjpcaaGreatTickValidP7
namespace Go.Proofs.YtoohajbhpbjpcaaGreat
set_option linter.unusedVariables false
set_option linter.unusedSimpArgs false
set_option linter.defProp false
set_option maxRecDepth 10000
set_option maxHeartbeats 4000000
abbrev TZ(b:Bool)(l:List Bool):AV:=.lst b 4 1 (l.map bA)
theorem ArFor.sorted{a:Ar}{w:Wd}(h:ArFor a w){L:List Item}(hp:L.Perm (Au a.ts))(hs:L.Pairwise λx y=>x.ent.n<=y.ent.n):L=w.items:=by
 refine List.Perm.eq_of_pairwise (le:=λx y=>x.ent.n<=y.ent.n) (λx y hx hy h1 h2=>?_) hs (h.wok.so.imp λh=>by omega) (hp.trans h.items);exact MY (key:=λx:Item=>x.ent.n) h.wok.so ((hp.trans h.items).mem_iff.1 hx) hy (by omega)
theorem We{d:List Bool}{i n:Nat}{b:Bool}(hd:d.length=i)(h:i<n):((d++List.replicate (n-i) false).map bA).set i (bA b)=((d++[b])++List.replicate (n-(i+1)) false).map bA:=by
 rw[<-List.map_set]
 congr 1
 rw[List.set_append_right _ _ (by omega),hd,Nat.sub_self,show n-i=(n-(i+1))+1 by omega,List.replicate_succ,List.set_cons_zero,AM];rfl
structure CmdsL(ks:List Kind)(l:List Cmd):Prop where
 ok:∀c∈l,(Cg ks c).2=0
 n:∀c∈l,I64 c.ent.n
 l:∀c∈l,c.comps.length<=1099511627776
theorem Ry{w v:Wd}{l:List Cmd}{i:Nat}{c:Cmd}{es:List Ent}{ds:List Bool}(h:i<l.length)(hc:l[i]=c)(he:DI w l=((DI v (l.drop i)).1,es++(DI v (l.drop i)).2.1,ds++(DI v (l.drop i)).2.2)):
  DI w l=((DI (Ee v c).1 (l.drop (i+1))).1,(if(Ee v c).2.2=true/\c.act=3 then es++[(Ee v c).2.1]else es)++(DI (Ee v c).1 (l.drop (i+1))).2.1,(ds++[(Ee v c).2.2])++(DI (Ee v c).1 (l.drop (i+1))).2.2):=by
 rw[he,By h,hc,DI];dsimp only;split
 ·simp
 ·simp
theorem Rk(w:Wd)(l:List Cmd)(hw:WdOK w)(h12:w.kinds.length<=12)(hl:l.length<=131072)(hc:CmdsL w.kinds l):PS Tryz.prog 78 [wdA false w,CZ false l] (.tup [wdA false (DI w l).1,.lst true 51 2 ((DI w l).2.1.map A8),TZ true (DI w l).2.2]):=by
 have hof:=V9 w hw;have hlm:(l.map B5).length=l.length:=AB _;refine Sp (nt:=58) (res:=[.cell 4 27,.tmp 5,.tmp 6]) Tryz.func78 λSf=>?_
 refine RG ?_;refine AOps.g_box ?_;refine Aj ?_;refine WO ?_;refine Ai λP=>?_;refine KO ?_;refine NL ?_
 refine FL ?_;refine RG ?_;refine WO ?_;refine AOps.gN ?_;refine Qb [_] (h:=hof) (k:=λa ha=>?_);refine KO ?_;refine NL ?_;obtain⟨a1,a2,a3,a4,a5⟩:=ha;have hf:ArFor a w:=⟨a1,a2,a3,a4,a5,hw⟩;refine FL ?_;refine R1 ?_;refine AA rfl rfl ?_;refine FL ?_;refine R1 ?_;refine FL ?_;refine RG ?_;refine WO ?_;refine WO ?_;refine DE ?_;refine E3 (bA false) λK=>?_;refine WO ?_;refine NL ?_
 refine FL ?_;refine R1 ?_;refine FL ?_;refine AWP.adopt (d:=9) 51 2 rfl λO=>?_
 refine DZ (λ(i Y:Nat) (z:Ar×Wd×List Ent×List Bool)=>⟨[(2,.fp (wdA false w).cells),(4,.ptr P 0 0),(7,.ptr a.A 0 0),(9,.sl Y 0 z.2.2.1.length),(10,.sl K 0 (l.map B5).length),(26,CZ false l),(27,iA (l.map B5).length),(28,iA i)],(Y,.row 51 2 (z.2.2.1.map A8))::(K,.row 4 1 ((z.2.2.2++List.replicate (l.length-i) false).map bA))::(P,.row 27 3 [.agg [.prim (.slice none 0 0),.prim (.slice none 0 0),.prim (.slice none 0 0)]])::(arS z.1++Sf)⟩) (λi Y z=>i<=l.length/\ArFor z.1 z.2.1/\z.1.A=a.A/\z.2.1.kinds=w.kinds/\z.2.2.1.length<=i/\z.2.2.2.length=i/\DI w l=((DI z.2.1 (l.drop i)).1,z.2.2.1++(DI z.2.1 (l.drop i)).2.1,z.2.2.2++(DI z.2.1 (l.drop i)).2.2)) (λi _ _=>l.length-i) 0 O (a,w,[],[]) ⟨Nat.zero_le _,hf,rfl,rfl,Nat.le_refl _,rfl,rfl⟩ ?_ (h0:=⟨by exact Lk.f,by rw[hlm,Nat.sub_zero,BA,List.map_replicate];exact Sub.f⟩);rintro i Y ⟨z,v,es,ds⟩ ⟨hi,hz,hzA,hvk,hes,hds,hrun⟩;dsimp only at hz hzA hvk hes hds hrun⊢;refine R1 ?_;refine FL ?_;refine AWP.cond rfl (λhb=>?_) (λhb=>?_)
 ·have h:i<l.length:=by rw[AD,hlm]at hb;omega
  obtain⟨c,hcc⟩:∃c,l[i]=c:=⟨_,rfl⟩;have hcm:c∈l:=by rw[<-hcc];exact AY h
  have hat:(l.map B5)[i]?=some (B5 c):=by rw[AF,AG h,hcc];rfl
  have hact:=Vt hz (by rw[hvk];exact h12) c (by rw[hvk];exact hc.ok c hcm) (hc.n c hcm) (hc.l c hcm);have hnx:=Ry h hcc hrun;obtain⟨⟨v2,x,ok⟩,hv2⟩:∃q,Ee v c=q:=⟨_,rfl⟩;rw[hv2]at hact hnx;dsimp only at hact hnx;have hnl:i<((ds++List.replicate (l.length-i) false).map bA).length:=by rw[AB,AI,List.length_replicate];omega
  have hset:=We (b:=ok) hds h
  have hvk2:v2.kinds=w.kinds:=by
   have:=(Mp hz.wok (c:=c) (by rw[hvk];exact hc.ok c hcm)).2;rw[hv2]at this;exact this.trans hvk
  rw[<-hzA];refine FL ?_;refine RG ?_;refine KO ?_;refine Ai λC=>?_;refine KO ?_;refine NL ?_
  refine FL ?_;refine RG ?_;refine WO ?_;refine WO ?_;refine AOps.gN ?_;refine JN [_,_,_,_] (h:=hact) (k:=λb hb2=>?_);refine KO ?_;refine Ai λV=>?_;refine KO ?_;refine NL ?_
  obtain⟨hb1,hb2⟩:=hb2;refine FL ?_;refine R1 ?_;dsimp only[AW,List.set_cons_zero,List.set_cons_succ,BF,BA];rw[hset];refine FL ?_;have hEl:(es.map A8).length=es.length:=AB _;cases ok with
  |false=>
   rw[if_neg (by simp)]at hnx;refine R1 ?_;refine AA rfl rfl ?_;refine FL ?_;refine R1 ?_;exact CK (i+1) Y (b,v2,es,ds++[false]) ⟨h,hb1,hb2,hvk2,by dsimp only;omega,by rw[AI,hds];rfl,hnx⟩ (by omega)
  |true=>
   refine R1 ?_;refine AWP.cond rfl (λh3=>?_) (λh3=>?_)
   ·have h3:c.act=3:=of_decide_eq_true h3
    rw[if_pos ⟨rfl,h3⟩]at hnx;refine FL ?_;have hb1':(es.map A8).length+1<=1099511627776:=by omega
    refine RG ?_;refine WO ?_;refine WO ?_;refine AOps.g_lit ?_;refine AOps.goL (A8 x) ?_;refine WO ?_;refine Ay λY=>?_;refine WO ?_;refine NL ?_
    refine FL ?_;dsimp only[AW,List.set_cons_zero,List.set_cons_succ,BF,BA];have hm1:es.map A8++[A8 x]=(es++[x]).map A8:=by rw[List.map_append];rfl
    have hm2:es.length+[A8 x].length=(es++[x]).length:=by rw[AI];rfl
    rw[hm1,hm2];refine R1 ?_;exact CK (i+1) Y (b,v2,es++[x],ds++[true]) ⟨h,hb1,hb2,hvk2,by rw[AI];show es.length+1<=i+1;omega,by rw[AI,hds];rfl,hnx⟩ (by omega)
   ·have h3:¬c.act=3:=of_decide_eq_false h3
    rw[if_neg (λe=>h3 e.2)]at hnx;refine FL ?_;refine R1 ?_;exact CK (i+1) Y (b,v2,es,ds++[true]) ⟨h,hb1,hb2,hvk2,by dsimp only;omega,by rw[AI,hds];rfl,hnx⟩ (by omega)
 ·have h:i=l.length:=by rw[AL,hlm]at hb;omega
  subst h;rw[List.drop_length]at hrun;simp only[DI,List.append_nil]at hrun;have hkk:=Bk hz.wok.ks;have har:=Pf z hz.ok hz.ne (by rw[hz.kinds];exact hkk.1) (λk hk=>(C8 (hkk.2 k (by rw[<-hz.kinds];exact hk))).2.1) (by rw[hz.gens];exact hz.wok.gl) (λit hit=>(hz.wok.wl.items.2 it (hz.items.mem_iff.1 hit)));rw[<-hzA];refine FL ?_;refine RG ?_;refine WO ?_;refine AOps.gN ?_;refine Qb [_,_,_] (h:=har) (k:=λL hL=>?_);refine KO ?_;refine NL ?_;have hLe:=hz.sorted hL.1 hL.2;refine RT ?_;rw[hrun];have hv:(⟨z.kinds,z.gens,L⟩:Wd)=v:=by rw[hz.kinds,hz.gens,hLe]
  rw[hv,Nat.sub_self,List.replicate_zero,List.append_nil];dsimp only[AW,List.set_cons_zero,List.set_cons_succ,BF,BA];exact Br [wdA false v,.sl Y 0 es.length,.sl K 0 (l.map B5).length] [wdA false v,.lst true 51 2 (es.map A8),TZ true ds] (.cons (.cell .same) (.cons (.cell (.sl (p:=0) .here (by rw[AB]))) (.cons (.cell (.sl (p:=0) .here (by rw[hlm,AB,hds]))) .nil))) (hS:=by repeat (first|exact List.sublist_append_right _ _|apply List.Sublist.cons))
theorem Th(w:Wd)(l:List Cmd)(hw:WdOK w)(h12:w.kinds.length<=12)(hl:l.length<=131072)(hc:CmdsL w.kinds l):PS Tryz.prog 42 [wdA false w,CZ false l] (.tup [wdA false (DI w l).1,Ka (DI w l).2.1,iA 0]):=by
 have hck:=OE w l hw.wl h12 (by omega) hc.l;rw[cmdErr_iff.2 ⟨hw,hl,hc.ok⟩]at hck;have hrn:=Rk w l hw h12 hl hc;refine Sp (nt:=27) (res:=[.cell 4 27,.tmp 5,.tmp 6]) Tryz.func42 λSf=>?_
 refine RG ?_;refine AOps.g_box ?_;refine Aj ?_;refine WO ?_;refine Ai λP=>?_;refine KO ?_;refine NL ?_
 refine FL ?_;refine RG ?_;refine KO ?_;refine AOps.g_callf ?_;refine AOps.c2 (h:=(hck ..)) (k:=?_);refine WO ?_;refine NL ?_;refine FL ?_;refine R1 ?_;refine AA rfl rfl ?_;refine FL ?_;refine RG ?_;refine KO ?_;refine AOps.g_callf ?_;refine AOps.c2 (h:=(hrn ..)) (k:=?_);refine KO ?_;refine Ai λV=>?_;refine KO ?_;refine NL ?_
 refine FL ?_;refine R1 ?_;refine RT ?_;exact GF (rs:=[wdA false (DI w l).1,Ka (DI w l).2.1,iA 0]) rfl
def Ds(s:List UInt8):List Int:=(s.length:Int)::s.map λb=>(b.toNat:Int)
abbrev O3(l:List Int):AO:=.row 22 1 [AQ true l]
theorem SY{s:List UInt8}{i:Nat}(h:i<s.length):(Ds s).take (i+2)=(Ds s).take (i+1)++[((s.getD i 0).toNat:Int)]:=by
 have hn:i+1<(Ds s).length:=by simp[Ds];omega
 rw[List.take_succ_eq_append_getElem hn]
 congr 2
 simp[Ds,Bx,h]
theorem Iv(X:Nat)(l:List Int)(s:List UInt8)(hl:(l++Ds s).length*8<=140737488351232):PO Tryz.prog 90 [sA s,.ptr X 0 0] X (O3 l) (.tup []) (O3 (l++Ds s)):=by
 refine Sp (nt:=22) (res:=[]) Tryz.func90 λSf=>?_
 have hnl:(Ds s).length=s.length+1:=by simp[Ds]
 rw[AI,hnl]at hl;refine AWP.thawIn .here (λY=>.head .here) λK=>?_
 have hb:((l.map iA).length+[iA (s.length:Int)].length)*8<=140737488355328:=by simp;omega
 (iterate 5 refine WK ?_);refine AOps.g_lit ?_;refine AOps.goL (iA (s.length:Int)) ?_;refine WK ?_;refine Ay λY=>?_;refine KK ?_
 refine GG (λ(i K n:Nat) (M:List AV)=>⟨[(0,sA s),(1,.ptr X 0 0),(10,iA s.length),(11,iA i)],(K,.row 3 1 M)::(X,.row 22 1 [.sl K 0 n])::Sf⟩) (λi _ n M=>i<=s.length/\n=M.length/\M=(l++(Ds s).take (i+1)).map iA) (λi _ _ _=>s.length-i) 0 Y _ _ ⟨Nat.zero_le _,?_,?_⟩ ?_
 ·simp
 ·rw[List.map_append];rfl
 rintro i K n M ⟨hi,hn,hM⟩;refine KK ?_;refine AWP.cond rfl (λhc=>?_) (λhc=>?_)
 ·have h:i<s.length:=by rw[AD]at hc;omega
  have hMl:n=l.length+(i+1):=by rw[hn,hM,AB,AI,Ag,hnl];omega
  have hb:(n+[iA ((s.getD i 0).toNat:Int)].length)*8<=140737488355328:=by simp;omega
  refine KK ?_;refine AWP.rs λY=>?_
  have hw:IntKind.i64.wrap ((s.getD i 0).toNat:Int)=((s.getD i 0).toNat:Int):=DT (by omega) (by have:=(s.getD i 0).toNat_lt;omega);refine RU ?_;(iterate 4 refine RK ?_);refine RGo.gN ?_;refine RGo.p (W.conv .u8 .i64 (by kernel_rfl) (by kernel_rfl) rfl hw) rfl ?_;refine RGo.g_lit ?_;refine RGo.goL (iA ((s.getD i 0).toNat:Int)) ?_;refine RK ?_;refine RK ?_;refine RGo.nil (by kernel_rfl) ?_;refine KK ?_;refine Du (i+1) Y _ _ ⟨h,?_,?_⟩
  ·rw[AI,<-hn]
  ·rw[SY h,hM,<-AM,List.map_append (l₂:=[_])];rfl
 ·have h:i=s.length:=by rw[AL]at hc;omega
  subst h;rw[List.take_of_length_le (by omega)]at hM;subst hM;refine AWP.closeIn (X:=K) .here (.next .here) rfl hn (.head .here) ?_;refine KK ?_;refine C6 ?_;exact BM [(X,O3 (l++Ds s))] ⟨rfl,rfl⟩
def FO(f:Field):List Int:=Ds f.name++[f.bits,f.low]
def Iu(k:Kind):List Int:=Ds k.name++(k.fields.length:Int)::k.fields.flatMap FO
def Iz(c:Comp):List Int:=c.kind::(c.vals.length:Int)::c.vals
def GV(it:Item):List Int:=it.ent.n::it.ent.gen::(it.comps.length:Int)::it.comps.flatMap Iz
def FN(w:Wd):List Int:=(w.kinds.length:Int)::(w.kinds.flatMap Iu++((w.gens.length:Int)::(w.gens++((w.items.length:Int)::w.items.flatMap GV))))
theorem QR{α:Type}{f:α->List Int}{l:List α}{i:Nat}{x:α}(h:i<l.length)(e:l[i]=x):(l.drop i).flatMap f=f x++(l.drop (i+1)).flatMap f:=by
 rw[By h,e,List.flatMap_cons]
theorem LI{A B R:List Int}(hl:R.length*8<=140737488351232)(e:A++B=R):A.length*8<=140737488351232:=by
 have:A.length+B.length=R.length:=by rw[<-e,AI]
 omega
theorem Uf(w:Wd)(hl:(FN w).length*8<=140737488351232)(hw:WdL w):PS Tryz.prog 58 [wdA false w] (AQ true (FN w)):=by
 obtain⟨R,hR⟩:∃R,FN w=R:=⟨_,rfl⟩;have hin:=hR;unfold FN at hin;rw[hR]at hl⊢;obtain⟨ks,gens,items⟩:=w;obtain⟨⟨hk0,hk1⟩,hg,⟨hi0,hi1⟩⟩:=hw;dsimp only at hin hk0 hk1 hg hi0 hi1;obtain⟨tail,htail⟩:∃tail,((gens.length:Int)::(gens++((items.length:Int)::items.flatMap GV)))=tail:=⟨_,rfl⟩;rw[htail]at hin;refine Sp (nt:=112) (res:=[.tmp 2]) Tryz.func58 λSf=>?_
 have hkm:(ks.map (Av false)).length=ks.length:=AB _;have hgm:(gens.map iA).length=gens.length:=AB _;have him:(items.map (AE false)).length=items.length:=AB _;refine RG ?_;refine AOps.g_box ?_;refine Aj ?_;refine WO ?_;refine NL ?_;refine AWP.rs λK0=>?_
 refine RG ?_;(iterate 3 refine WO ?_);refine AOps.gN ?_;refine AOps.s (W.lit1 (X:=K0) (l:=[iA ((ks.map (Av false)).length:Int)]) (by exact rfl) (by exact At.f) (by exact rfl) (by exact .inr rfl) (by decide) (by decide) (by exact rfl)) rfl ?_;refine WO ?_;refine Ai λX=>?_;refine WO ?_;refine NL ?_
 rw[hkm];refine AWP.closeIn (X:=K0) (Y:=X) (.next .here) .here rfl rfl (.head .here) ?_;refine KK ?_;refine BV (λ(i:Nat) (L:List Int)=>⟨[(1,.fp (wdA false ⟨ks,gens,items⟩).cells),(3,.ptr X 0 0),(4,.fn 90 [.ptr X 0 0]),(19,Ae false false ks),(20,iA (ks.map (Av false)).length),(21,iA i)],(X,O3 L)::Sf⟩) (λi L=>i<=ks.length/\L++((ks.drop i).flatMap Iu++tail)=R) (λi _=>ks.length-i) 0 [(ks.length:Int)] ⟨Nat.zero_le _,hin⟩ ?_;rintro i L ⟨hi,he⟩;refine KK ?_;refine AWP.cond rfl (λhc=>?_) (λhc=>?_)
 ·have h:i<ks.length:=by rw[AD,hkm]at hc;omega
  obtain⟨⟨kn,kf⟩,hk⟩:∃k,ks[i]=k:=⟨_,rfl⟩;have hat:(ks.map (Av false))[i]?=some (Av false ⟨kn,kf⟩):=by rw[AF,AG h,hk];rfl
  have hkl:=hk1 _ (hk▸AY h);dsimp only at hkl;rw[QR h hk,Iu,<-AM,<-AM,<-AM]at he;have hkfm:(kf.map fieldA).length=kf.length:=AB _;dsimp only at he;have he1:(L++Ds kn)++([(kf.length:Int)]++(kf.flatMap FO++((ks.drop (i+1)).flatMap Iu++tail)))=R:=by rw[<-he];simp
  have hcn:=Iv X L kn (LI hl he1);refine RG ?_;refine KO ?_;refine Ai λV=>?_;refine WO ?_;refine NL ?_
  refine RG ?_;refine KO ?_;refine AOps.g_callv ?_;refine OR (h:=hcn) (hT:=.frz) (k:=?_);refine NL ?_;obtain⟨L1,hL1⟩:∃L1,L++Ds kn=L1:=⟨_,rfl⟩;rw[hL1]at he1⊢;have he2:(L1++[(kf.length:Int)])++(kf.flatMap FO++((ks.drop (i+1)).flatMap Iu++tail))=R:=by rw[<-he1,AM]
  refine AWP.thawIn (Y:=X) (.next .here) (λ_=>.head .here) λK=>?_
  have hb:((L1.map iA).length+([iA ((kf.map fieldA).length:Int)]).length)*8<=140737488355328:=by have:=LI hl he2;simp at this⊢;omega
  refine RG ?_;(iterate 4 refine WO ?_);refine AOps.g_lit ?_;refine AOps.goL (iA (kf.map fieldA).length) ?_;refine WO ?_;refine Ay λY=>?_;refine WO ?_;refine NL ?_
  have hrow:L1.map iA++[iA ((kf.map fieldA).length:Int)]=(L1++[(kf.length:Int)]).map iA:=by first|(rw[List.map_append,hkfm];rfl)|rw[List.map_append,hkfm]
  rw[hrow];clear hrow hb;refine AWP.closeIn (X:=Y) (Y:=X) .here (.next (.next .here)) rfl (by simp) (.head .here) ?_;obtain⟨T2,hT2⟩:∃T2,(ks.drop (i+1)).flatMap Iu++tail=T2:=⟨_,rfl⟩;rw[hT2]at he2;clear he he1 hcn hL1 hin;refine KK ?_;refine BV (λ(j:Nat) (L:List Int)=>⟨[(1,.fp (wdA false ⟨ks,gens,items⟩).cells),(3,.ptr X 0 0),(4,.fn 90 [.ptr X 0 0]),(19,Ae false false ks),(20,iA (ks.map (Av false)).length),(21,iA i),(36,EH false kf),(37,iA (kf.map fieldA).length),(38,iA j)],(X,O3 L)::Sf⟩) (λj L=>j<=kf.length/\L++((kf.drop j).flatMap FO++T2)=R) (λj _=>kf.length-j) 0 (L1++[(kf.length:Int)]) ⟨Nat.zero_le _,he2⟩ ?_;clear he2 L1 L;rintro j L ⟨hj,he⟩;refine KK ?_;refine AWP.cond rfl (λhd=>?_) (λhd=>?_)
  ·have h':j<kf.length:=by rw[AD,hkfm]at hd;omega
   obtain⟨⟨fn,fb,fl⟩,hf⟩:∃f,kf[j]=f:=⟨_,rfl⟩;have hat2:(kf.map fieldA)[j]?=some (fieldA ⟨fn,fb,fl⟩):=by rw[AF,AG h',hf];rfl
   rw[QR h' hf,FO]at he;dsimp only at he;have he1:(L++Ds fn)++([fb,fl]++((kf.drop (j+1)).flatMap FO++T2))=R:=by rw[<-he];simp
   have hcn:=Iv X L fn (LI hl he1);refine RG ?_;refine KO ?_;refine Ai λV2=>?_;refine WO ?_;refine NL ?_
   refine RG ?_;refine KO ?_;refine AOps.g_callv ?_;refine OR (h:=hcn) (hT:=.frz) (k:=?_);refine NL ?_;obtain⟨L1,hL1⟩:∃L1,L++Ds fn=L1:=⟨_,rfl⟩;rw[hL1]at he1⊢;have he2:(L1++[fb,fl])++((kf.drop (j+1)).flatMap FO++T2)=R:=by rw[<-he1,AM]
   refine AWP.thawIn (Y:=X) (.next .here) (λ_=>.head .here) λK=>?_
   have hb:((L1.map iA).length+([iA fb,iA fl]).length)*8<=140737488355328:=by have:=LI hl he2;simp at this⊢;omega
   refine RG ?_;refine KO ?_;refine Ay λY=>?_;refine WO ?_;refine NL ?_
   have hrow:L1.map iA++[iA fb,iA fl]=(L1++[fb,fl]).map iA:=by first|(rw[List.map_append];rfl)|rw[List.map_append]
   rw[hrow];clear hrow hb;refine AWP.closeIn (X:=Y) (Y:=X) .here (.next (.next .here)) rfl (by simp) (.head .here) ?_;refine KK ?_;refine A9 (j+1) _ ⟨h',he2⟩
  ·have h':j=kf.length:=by rw[AL,hkfm]at hd;omega
   rw[h',List.drop_length]at he;refine KK ?_;refine A9 (i+1) L ⟨h,by rw[hT2];exact he⟩
 clear hin;have h:i=ks.length:=by rw[AL,hkm]at hc;omega
 rw[h,List.drop_length,<-htail]at he;clear h hc hi;have he2:(L++[(gens.length:Int)])++(gens++((items.length:Int)::items.flatMap GV))=R:=by rw[<-he];simp
 refine FL ?_;refine AWP.thawIn (Y:=X) .here (λ_=>.head .here) λK=>?_
 have hb:((L.map iA).length+([iA ((gens.map iA).length:Int)]).length)*8<=140737488355328:=by have:=LI hl he2;simp at this⊢;omega
 refine RG ?_;(iterate 4 refine WO ?_);refine AOps.g_lit ?_;refine AOps.goL (iA (gens.map iA).length) ?_;refine WO ?_;refine Ay λY=>?_;refine WO ?_;refine NL ?_
 have hrow:L.map iA++[iA ((gens.map iA).length:Int)]=(L++[(gens.length:Int)]).map iA:=by first|(rw[List.map_append,hgm];rfl)|rw[List.map_append,hgm]
 rw[hrow];clear hrow hb;refine AWP.closeIn (X:=Y) (Y:=X) .here (.next .here) rfl (by simp) (.head .here) ?_;obtain⟨L1,hL1⟩:∃L1,L++[(gens.length:Int)]=L1:=⟨_,rfl⟩;rw[hL1]at he2⊢;have he3:(L1++gens)++((items.length:Int)::items.flatMap GV)=R:=by rw[<-he2,AM]
 refine AWP.thawIn (Y:=X) (.next .here) (λ_=>.head .here) λK=>?_
 have hb:((L1.map iA).length+(gens.map iA).length)*8<=140737488355328:=by have:=LI hl he3;simp at this⊢;omega
 refine RG ?_;refine KO ?_;refine Ay λY=>?_;refine WO ?_;refine NL ?_
 have hrow:L1.map iA++gens.map iA=(L1++gens).map iA:=by first|(rw[List.map_append];rfl)|rw[List.map_append]
 rw[hrow];clear hrow hb;refine AWP.closeIn (X:=Y) (Y:=X) .here (.next (.next .here)) rfl (by simp) (.head .here) ?_;obtain⟨L2,hL2⟩:∃L2,L1++gens=L2:=⟨_,rfl⟩;rw[hL2]at he3⊢;have he4:(L2++[(items.length:Int)])++items.flatMap GV=R:=by rw[<-he3,AM];rfl
 refine AWP.thawIn (Y:=X) (.next (.next .here)) (λ_=>.head .here) λK=>?_
 have hb:((L2.map iA).length+([iA ((items.map (AE false)).length:Int)]).length)*8<=140737488355328:=by have:=LI hl he4;simp at this⊢;omega
 refine RG ?_;(iterate 4 refine WO ?_);refine AOps.g_lit ?_;refine AOps.goL (iA (items.map (AE false)).length) ?_;refine WO ?_;refine Ay λY=>?_;refine WO ?_;refine NL ?_
 have hrow:L2.map iA++[iA ((items.map (AE false)).length:Int)]=(L2++[(items.length:Int)]).map iA:=by first|(rw[List.map_append,him];rfl)|rw[List.map_append,him]
 rw[hrow];clear hrow hb;refine AWP.closeIn (X:=Y) (Y:=X) .here (.next (.next (.next .here))) rfl (by simp) (.head .here) ?_;clear he he2 he3 hL1 hL2 htail hk0 hk1;refine KK ?_;refine BV (λ(i:Nat) (L:List Int)=>⟨[(1,.fp (wdA false ⟨ks,gens,items⟩).cells),(3,.ptr X 0 0),(72,Fv false false items),(73,iA (items.map (AE false)).length),(74,iA i)],(X,O3 L)::Sf⟩) (λi L=>i<=items.length/\L++(items.drop i).flatMap GV=R) (λi _=>items.length-i) 0 (L2++[(items.length:Int)]) ⟨Nat.zero_le _,he4⟩ ?_;clear he4 L2 L1 L;rintro i L ⟨hi,he⟩;refine KK ?_;refine AWP.cond rfl (λhc=>?_) (λhc=>?_)
 ·have h:i<items.length:=by rw[AD,him]at hc;omega
  obtain⟨⟨⟨en,eg⟩,cs⟩,hit⟩:∃it,items[i]=it:=⟨_,rfl⟩;have hat:(items.map (AE false))[i]?=some (AE false ⟨⟨en,eg⟩,cs⟩):=by rw[AF,AG h,hit];rfl
  have hcl:=hi1 _ (hit▸AY h);dsimp only at hcl;obtain⟨hcl0,hcl1⟩:=hcl;have hcm:(cs.map (AH false)).length=cs.length:=AB _;rw[QR h hit,GV]at he;dsimp only at he;have he2:(L++[en,eg,(cs.length:Int)])++(cs.flatMap Iz++(items.drop (i+1)).flatMap GV)=R:=by rw[<-he];simp
  refine RG ?_;refine KO ?_;refine Ai λV=>?_;refine WO ?_;refine NL ?_
  refine AWP.thawIn (Y:=X) (.next .here) (λ_=>.head .here) λK=>?_
  have hb:((L.map iA).length+([iA en,iA eg,iA ((cs.map (AH false)).length:Int)]).length)*8<=140737488355328:=by have:=LI hl he2;simp at this⊢;omega
  refine RG ?_;refine KO ?_;refine Ay λY=>?_;refine WO ?_;refine NL ?_
  have hrow:L.map iA++[iA en,iA eg,iA ((cs.map (AH false)).length:Int)]=(L++[en,eg,(cs.length:Int)]).map iA:=by first|(rw[List.map_append,hcm];rfl)|rw[List.map_append,hcm]
  rw[hrow];clear hrow hb;refine AWP.closeIn (X:=Y) (Y:=X) .here (.next (.next .here)) rfl (by simp) (.head .here) ?_;obtain⟨T2,hT2⟩:∃T2,(items.drop (i+1)).flatMap GV=T2:=⟨_,rfl⟩;rw[hT2]at he2;refine KK ?_;refine BV (λ(j:Nat) (L:List Int)=>⟨[(1,.fp (wdA false ⟨ks,gens,items⟩).cells),(3,.ptr X 0 0),(72,Fv false false items),(73,iA (items.map (AE false)).length),(74,iA i),(91,Aw false false cs),(92,iA (cs.map (AH false)).length),(93,iA j)],(X,O3 L)::Sf⟩) (λj L=>j<=cs.length/\L++((cs.drop j).flatMap Iz++T2)=R) (λj _=>cs.length-j) 0 _ ⟨Nat.zero_le _,he2⟩ ?_;clear he2 he L;rintro j L ⟨hj,he⟩;refine KK ?_;refine AWP.cond rfl (λhd=>?_) (λhd=>?_)
  ·have h':j<cs.length:=by rw[AD,hcm]at hd;omega
   obtain⟨⟨ck,cv⟩,hf⟩:∃c,cs[j]=c:=⟨_,rfl⟩;have hat2:(cs.map (AH false))[j]?=some (AH false ⟨ck,cv⟩):=by rw[AF,AG h',hf];rfl
   have hvm:(cv.map iA).length=cv.length:=AB _;rw[QR h' hf,Iz]at he;dsimp only at he;have he2:(L++[ck,(cv.length:Int)])++(cv++((cs.drop (j+1)).flatMap Iz++T2))=R:=by rw[<-he];simp
   refine RG ?_;refine KO ?_;refine Ai λV2=>?_;refine WO ?_;refine NL ?_
   refine AWP.thawIn (Y:=X) (.next .here) (λ_=>.head .here) λK=>?_
   have hb:((L.map iA).length+([iA ck,iA ((cv.map iA).length:Int)]).length)*8<=140737488355328:=by have:=LI hl he2;simp at this⊢;omega
   refine RG ?_;refine KO ?_;refine Ay λY=>?_;refine WO ?_;refine NL ?_
   have hrow:L.map iA++[iA ck,iA ((cv.map iA).length:Int)]=(L++[ck,(cv.length:Int)]).map iA:=by first|(rw[List.map_append,hvm];rfl)|rw[List.map_append,hvm]
   rw[hrow];clear hrow hb;refine AWP.closeIn (X:=Y) (Y:=X) .here (.next (.next .here)) rfl (by simp) (.head .here) ?_;obtain⟨L1,hL1⟩:∃L1,L++[ck,(cv.length:Int)]=L1:=⟨_,rfl⟩;rw[hL1]at he2⊢;have he3:(L1++cv)++((cs.drop (j+1)).flatMap Iz++T2)=R:=by rw[<-he2,AM]
   refine AWP.thawIn (Y:=X) (.next (.next .here)) (λ_=>.head .here) λK=>?_
   have hb:((L1.map iA).length+(cv.map iA).length)*8<=140737488355328:=by have:=LI hl he3;simp at this⊢;omega
   refine RG ?_;refine KO ?_;refine Ay λY=>?_;refine WO ?_;refine NL ?_
   have hrow:L1.map iA++cv.map iA=(L1++cv).map iA:=by first|(rw[List.map_append];rfl)|rw[List.map_append]
   rw[hrow];clear hrow hb;refine AWP.closeIn (X:=Y) (Y:=X) .here (.next (.next (.next .here))) rfl (by simp) (.head .here) ?_;refine KK ?_;refine A9 (j+1) _ ⟨h',he3⟩
  ·have h':j=cs.length:=by rw[AL,hcm]at hd;omega
   rw[h',List.drop_length]at he;refine KK ?_;refine A9 (i+1) L ⟨h,by rw[hT2];exact he⟩
 ·have h:i=items.length:=by rw[AL,him]at hc;omega
  rw[h,List.drop_length]at he;have he:L=R:=by simpa using he
  subst he;refine AWP.thawIn (Y:=X) .here (λ_=>.head .here) λK=>?_
  refine KK ?_;refine RT ?_;exact⟨[.sl K 0 (L.map iA).length],[AQ true L],_,[],.cons (.tmp rfl) rfl .nil,.cons (.cell (.sl (p:=0) .here rfl)) .nil,by exact Sub.f,rfl,rfl⟩
theorem Hz{α:Type}{f:α->List Int}{m:Nat}:∀{l:List α},(∀x∈l,(f x).length<=m)->(l.flatMap f).length<=l.length*m
 |[],_=>by simp
 |x::l,h=>by
  have h1:=h x (by simp);have h2:=Hz (f:=f) (m:=m) (l:=l) λy hy=>h y (by simp[hy])
  rw[List.flatMap_cons,AI,BU,Nat.add_mul];omega
theorem Jq{s:List UInt8}(h:Ca s=true):s.length<=16:=by
 unfold Ca at h;simp only[Bool.and_eq_true,AD]at h;exact h.1.2
theorem Me{w:Wd}(h:WdOK w):(FN w).length<=65536:=by
 obtain⟨h16,ho⟩:=Bk h.ks
 have hf:∀f:Field,Ca f.name=true->(FO f).length<=19:=λf hf=>by
  have:=Jq hf;simp[FO,Ds];omega
 have hk:∀k∈w.kinds,(Iu k).length<=170:=λk hk=>by
  obtain⟨h1,h2,h3⟩:=C8 (ho k hk);have:=Jq h1;have h4:=Hz (f:=FO) (m:=19) (l:=k.fields) λf hfm=>hf f ((DL f).1 (h3 f hfm)).1
  simp only[Iu,Ds,AI,BU,AB];omega
 have hc:∀it∈w.items,(GV it).length<=163:=λit hit=>by
  obtain⟨h1,h2⟩:=Db h.ks (h.it it hit).2.2.2.2;have h4:=Hz (f:=Iz) (m:=10) (l:=it.comps) λc hc=>by have:=h2 c hc;simp only[Iz,BU];omega
  simp only[GV,BU];omega
 have k1:=Hz hk;have k2:=Hz hc;have:=h.gl;have:=h.il;simp only[FN,BU,AI];omega
theorem Rh(w:Wd)(h:WdOK w):PS Tryz.prog 63 [wdA false w] (uA (UI (FN w))):=by
 have hs:=Me h;have h1:=Uf w (by omega) h.wl;have h2:=UH (FN w) (by omega);refine Sp (nt:=6) (res:=[.tmp 2]) Tryz.func63 λSf=>?_
 refine RG ?_;refine AOps.g_box ?_;refine Aj ?_;refine WO ?_;refine NL ?_;refine RG ?_;refine WO ?_;refine AOps.g_callf ?_;refine AOps.c1 (h:=(h1 ..)) (k:=?_);refine AOps.g_callf ?_;refine AOps.c1 (h:=(h2 ..)) (k:=?_);refine WO ?_;refine NL ?_;refine RT ?_;refine AN ?_;rfl
structure CmdG(ks:List Kind)(c:Cmd):Prop where
 ok:(Cg ks c).2=0
 n:I64 c.ent.n
 l:c.comps.length<=16
 v:∀d∈c.comps,d.vals.length<=8
theorem CmdG.of{ks:List Kind}(hk:Az ks=0){c:Cmd}(h:(Cg ks c).2=0)(hn:I64 c.ent.n)(hc:∃l,BJ ks c.comps=true\/c.comps=l/\BJ ks l=true):CmdG ks c:=by
 have hh:BJ ks c.comps=true:=by
  obtain⟨l,h|⟨h1,h2⟩⟩:=hc
  ·exact h
  ·rw[h1];exact h2
 obtain⟨h1,h2⟩:=Db hk hh;exact⟨h,hn,h1,h2⟩
theorem Ns(ks:List Kind):BJ ks []=true:=rfl
theorem TS{ks:List Kind}{s:Sys}{index:Int}{e:Ent}{o:Op}{st:Rn}(hk:Az ks=0)(hs:SysG ks s)(hn:I64 e.n)(ho:OpG ks s.reads s.writes o)(h:∀c∈st.cmds,CmdG ks c):∀c∈(doM ks s index e o st).cmds,CmdG ks c:=by
 unfold doM;split
 ·exact h
 ·rename_i hset
  split
  ·exact h
  ·split
   ·exact h
   ·rename_i h12
    intro c hc;rcases List.mem_append.1 hc with hc|hc
    ·exact h c hc
    ·rw[BN]at hc
     subst hc;split
     ·rename_i h8
      obtain⟨p1,p2,_⟩:=ho.puts (.inl h8);obtain⟨k,hkk⟩:∃k:Nat,o.to.kind=k:=⟨o.to.kind.toNat,by omega⟩;have hkl:k<ks.length:=by omega
      have hka:ks[k]?=some ks[k]:=AG hkl;have hone:=(Bk hk).2 _ (AY hkl);have hde:Kc ks o.to.kind=(BY ks[k] (List.replicate ks[k].fields.length 0)).1:=by unfold Kc;rw[hkk,Int.toNat_natCast,hka]
      have hf0:=H0 hone (vals:=List.replicate ks[k].fields.length 0) (by simp);have hho:=Dj (k:=ks[k]) (v:=List.replicate ks[k].fields.length 0) (by rw[hf0]);have hfo:IC ks ⟨o.to.kind,Kc ks o.to.kind⟩:=⟨p1,p2,ks[k],by dsimp only;rw[hkk,Int.toNat_natCast,hka],by rw[hde,Di hho.1]⟩
      have hld:BJ ks [⟨o.to.kind,Kc ks o.to.kind⟩]=true:=by
       refine held_iff.2 ⟨List.pairwise_singleton ..,λd hd=>?_⟩;rw[BN]at hd;subst hd;exact⟨p1,p2,ks[k],by dsimp only;rw[hkk,Int.toNat_natCast,hka],by rw[hde];exact hho.1⟩
      refine .of hk ?_ hn ⟨[],.inl hld⟩;show(CG ks [_]).2=0
      rw[JR hk hfo]
     ·rename_i h8
      split
      ·rename_i h9
       obtain⟨p1,p2,_⟩:=ho.puts (.inr h9);refine .of hk ?_ hn ⟨[],.inl (Ns ks)⟩;show(if o.to.kind<0\/(ks.length:Int)<=o.to.kind then(([],1):List Comp×Int)else([],0)).2=0
       rw[if_neg (by omega)]
      ·split
       ·exact .of hk rfl hn ⟨[],.inl (Ns ks)⟩
       ·have hld:=GM hs.spawn
        refine .of hk ?_ ⟨by show(-9223372036854775808:Int)<=0;decide,by show(0:Int)<=9223372036854775807;decide⟩ ⟨[],.inl hld⟩;show(CG ks (CG ks s.spawn).1).2=0
        rw[IE hk hld]
theorem LY{ks:List Kind}{s:Sys}{index:Int}{e:Ent}(hk:Az ks=0)(hs:SysG ks s)(hn:I64 e.n):∀(os:List Op) {st:Rn} (ho:∀o∈os,OpG ks s.reads s.writes o) (h:∀c∈st.cmds,CmdG ks c),∀c∈(DP ks s index e os st).cmds,CmdG ks c
 |[],st,ho,h=>h
 |o::os,st,ho,h=>LY hk hs hn os (λo' h'=>ho o' (by simp[h'])) (TS (index:=index) hk hs hn (ho o (by simp)) h)
theorem Jj{ks:List Kind}{s:Sys}{index seed tick:Int}(hk:Az ks=0)(hs:SysG ks s):∀(qs:List (Nat×Item)) (b:List Item×List Cmd×List Evt),(∀q∈qs,I64 q.2.ent.n)->(∀c∈b.2.1,CmdG ks c)->∀c∈(EO ks s index seed tick qs b).2.1,CmdG ks c
 |[],b,_,h=>h
 |q::qs,b,hq,h=>Jj hk hs qs (b.1.set q.1 ⟨q.2.ent,(Dc ks s index seed tick q.2 b.2.1 b.2.2).comps⟩,(Dc ks s index seed tick q.2 b.2.1 b.2.2).cmds,(Dc ks s index seed tick q.2 b.2.1 b.2.2).evs) (λq' h'=>hq q' (by simp[h'])) (LY hk hs (hq q (by simp)) s.ops hs.ops h)
abbrev wdR(w:Wd)(s:Sys)(index seed tick:Int):Wd:=⟨w.kinds,w.gens,(Fr w s index seed tick).1⟩
def DG(seed tick:Int):Wd->Nat->List Sys->Wd×List (List Cmd)×List Evt
 |w,i,[]=>(w,[],[])
 |w,i,s::l=>((DG seed tick (wdR w s i seed tick) (i+1) l).1,(Fr w s i seed tick).2.1::(DG seed tick (wdR w s i seed tick) (i+1) l).2.1,(Fr w s i seed tick).2.2++(DG seed tick (wdR w s i seed tick) (i+1) l).2.2)
def E4(w:Wd)(l:List Sys)(seed tick:Int):Wd×List Evt:=((DI (DG seed tick w 0 l).1 (DG seed tick w 0 l).2.1.flatten).1,(DG seed tick w 0 l).2.2.take 256)
def Er(l:List Sys)(seed:Int):Wd->Int->Nat->Wd×List UInt64
 |w,t,0=>(w,[])
 |w,t,n+1=>((Er l seed (E4 w l seed t).1 (t+1) n).1,UI (FN (E4 w l seed t).1)::(Er l seed (E4 w l seed t).1 (t+1) n).2)
structure TickG(w:Wd)(l:List Sys):Prop where
 ok:WdOK w
 k12:w.kinds.length<=12
 sg:∀s∈l,SysG w.kinds s
 l24:l.length<=24
theorem TickG.n{w:Wd}{l:List Sys}(h:TickG w l){s:Sys}(hs:s∈l):(Dn w.items s.wth s.wout).length*s.ops.length<=5120:=by
 have h1:=L6 w.items s.wth s.wout;have h2:=(h.sg s hs).len;have h3:=h.ok.il;have h4:=h.ok.gl;exact Nat.le_trans (Nat.mul_le_mul (show _<=256 by omega) h2) (by decide)
theorem TickG.r{w:Wd}{l:List Sys}(h:TickG w l){s:Sys}(hs:s∈l)(i seed tick:Int):WdOK (wdR w s i seed tick):=(BG _).1 (UL ((BG w).2 h.ok) (h.sg s hs))
theorem TickG.cmds{w:Wd}{l:List Sys}(h:TickG w l){s:Sys}(hs:s∈l)(i seed tick:Int):(∀c∈(Fr w s i seed tick).2.1,CmdG w.kinds c)/\(Fr w s i seed tick).2.1.length<=5120/\(Fr w s i seed tick).2.2.length<=5120:=by
 have hm:∀q∈Dn w.items s.wth s.wout,q.2∈w.items:=λq hq=>L4 hq
 refine⟨Jj h.ok.ks (h.sg s hs) _ _ (λq hq=>?_) (λc hc=>by cases hc),?_⟩
 ·have h1:=h.ok.it q.2 (hm q hq)
  have h2:=h.ok.gl;constructor<;>omega
 ·have hr:=Hl (ks:=w.kinds) (s:=s) (index:=i) (seed:=seed) (tick:=tick) h.ok.ks (h.sg s hs).ops (Dn w.items s.wth s.wout) (w.items,[],[]) (λq hq=>?_)
  ·have:=h.n hs
   obtain⟨r1,r2,_⟩:=hr;simp only[List.length_nil,Nat.zero_add]at r1 r2;exact⟨Nat.le_trans r1 this,Nat.le_trans r2 this⟩
  ·exact(L7 (h.sg s hs) (λit hit=>(h.ok.it it hit).2.2.2.2) q hq).2
theorem CmdG.sl{ks:List Kind}{l:List Cmd}(h:∀c∈l,CmdG ks c):CmdsL ks l/\∀c∈l,CsL c.comps:=
 ⟨⟨λc hc=>(h c hc).ok,λc hc=>(h c hc).n,λc hc=>by have:=(h c hc).l;omega⟩,λc hc=>⟨by have:=(h c hc).l;omega,λd hd=>by have:=(h c hc).v d hd;omega⟩⟩
theorem Hh{seed tick:Int}:∀(l:List Sys) (w:Wd) (i:Nat),TickG w l->WdOK (DG seed tick w i l).1/\(DG seed tick w i l).1.kinds=w.kinds/\(DG seed tick w i l).1.gens=w.gens/\(DG seed tick w i l).2.1.length=l.length/\(DG seed tick w i l).2.1.flatten.length<=5120*l.length/\(DG seed tick w i l).2.2.length<=5120*l.length/\∀x∈(DG seed tick w i l).2.1,∀c∈x,CmdG w.kinds c
 |[],w,i,h=>⟨h.ok,rfl,rfl,rfl,Nat.le_refl _,Nat.le_refl _,λx hx=>by cases hx⟩
 |s::l,w,i,h=>by
  have hm:s∈s::l:=by simp
  obtain⟨g1,g2,g3⟩:=h.cmds hm i seed tick;have hr:=h.r hm i seed tick;have hl:=h.l24;obtain⟨k1,k2,k3,k4,k5,k6,k7⟩:=Hh (seed:=seed) (tick:=tick) l (wdR w s i seed tick) (i+1) ⟨hr,h.k12,λt ht=>h.sg t (by simp[ht]),by rw[BU]at hl;omega⟩;refine⟨k1,k2,k3,?_,?_,?_,λx hx=>?_⟩
  ·rw[DG,BU,BU,k4]
  ·rw[DG,List.flatten_cons,AI,BU];omega
  ·rw[DG,AI,BU];omega
  ·rw[DG]at hx
   rcases List.mem_cons.1 hx with rfl|hx
   ·exact g1
   ·exact k7 x hx
theorem TickG.all{w:Wd}{l:List Sys}(h:TickG w l)(seed tick:Int):∀c∈(DG seed tick w 0 l).2.1.flatten,CmdG w.kinds c:=λc hc=>by
 obtain⟨x,hx,hcx⟩:=List.mem_flatten.1 hc;exact(Hh (seed:=seed) (tick:=tick) l w 0 h).2.2.2.2.2.2 x hx c hcx
theorem TickG.tick{w:Wd}{l:List Sys}(h:TickG w l)(seed tick:Int):TickG (E4 w l seed tick).1 l/\(E4 w l seed tick).1.kinds=w.kinds:=by
 obtain⟨k1,k2,_⟩:=Hh (seed:=seed) (tick:=tick) l w 0 h;have ha:=h.all seed tick;obtain⟨r1,r2⟩:=P6 k1 (l:=(DG seed tick w 0 l).2.1.flatten) λc hc=>by rw[k2];exact(ha c hc).ok
 have hk:(E4 w l seed tick).1.kinds=w.kinds:=r2.trans k2;exact⟨⟨r1,by rw[hk];exact h.k12,λs hs=>by rw[hk];exact h.sg s hs,h.l24⟩,hk⟩
theorem Ks{l:List Sys}{seed:Int}:∀(n:Nat) (w:Wd) (t:Int),TickG w l->TickG (Er l seed w t n).1 l/\(Er l seed w t n).1.kinds=w.kinds
 |0,w,t,h=>⟨h,rfl⟩
 |n+1,w,t,h=>by
  obtain⟨h1,h2⟩:=h.tick seed t;obtain⟨h3,h4⟩:=Ks n _ (t+1) h1;exact⟨h3,h4.trans h2⟩
theorem Pc(c:Cmd)(hl:c.comps.length<=1099511627776)(hv:∀d∈c.comps,d.vals.length<=1099511627776):PS Tryz.prog 149 [B5 c] (B5 c):=by
 have hcp:=Dy c.comps hl hv;refine Sp (nt:=8) (res:=[.cell 2 95]) Tryz.func149 λSf=>?_
 refine RG ?_;refine WO ?_;refine Ai λP=>?_;refine WO ?_;refine Ai λP=>?_;refine NL ?_
 refine FL ?_;refine RG ?_;refine KO ?_;refine AOps.g_callf ?_;refine AOps.c1 (h:=(hcp ..)) (k:=?_);refine KO ?_;refine NL ?_;refine FL ?_;refine R1 ?_;refine RT ?_;exact GF (rs:=[B5 c]) rfl
theorem HA(L:List (List Cmd))(i:Nat):(L.take i).flatten.length<=L.flatten.length:=by
 conv=>rhs;rw[<-List.take_append_drop i L,List.flatten_append,AI]
 omega
theorem Ln{L:List (List Cmd)}{i:Nat}{x:List Cmd}(h:L[i]?=some x):(L.take (i+1)).flatten=(L.take i).flatten++x:=by
 rw[List.take_add_one,h,Option.toList_some,List.flatten_append];simp
theorem Pb(L:List (List Cmd))(h2:L.length<=1000)(hl:L.flatten.length<=131072)(hc:∀x∈L,∀c∈x,CsL c.comps):PS Tryz.prog 103 [.lst false 91 1 (L.map (CZ false))] (.tup [CZ true L.flatten,iA 0]):=by
 have hLm:(L.map (CZ false)).length=L.length:=AB _;refine Sp (nt:=45) (res:=[.tmp 2,.tmp 3]) Tryz.func103 λSf=>?_
 refine R1 ?_;refine FL ?_;refine R1 ?_;refine FL ?_;refine R1 ?_;refine FL ?_;refine BB (λ(i:Nat)=>⟨[(0,.lst false 91 1 (L.map (CZ false))),(4,iA ((L.take i).flatten.length:Nat)),(12,.lst false 91 1 (L.map (CZ false))),(13,iA (L.map (CZ false)).length),(14,iA i)],Sf⟩) (λi=>i<=L.length) (λi=>L.length-i) 0 (Nat.zero_le _) ?_;rintro i hi;refine R1 ?_;refine FL ?_;refine AWP.cond rfl (λhb=>?_) (λhb=>?_)
 ·have h:i<L.length:=by rw[AD,hLm]at hb;omega
  obtain⟨x,hx⟩:∃x,L[i]?=some x:=⟨_,AG h⟩;have hat:(L.map (CZ false))[i]?=some (CZ false x):=by rw[AF,hx];rfl
  have hnx:=congrArg List.length (Ln hx);rw[AI]at hnx;have hle:=HA L (i+1);have hxm:(x.map B5).length=x.length:=AB _;refine FL ?_;refine R1 ?_;refine FL ?_;refine RG ?_;(iterate 3 refine WO ?_);refine AOps.gN ?_;refine AOps.go (h:=Bb ((((L.take i).flatten.length:Nat):Int)+((x.map B5).length:Nat)) (by omega) (by omega) rfl rfl) (k:=?_);refine WO ?_;refine NL ?_;rw[show((((L.take i).flatten.length:Nat):Int)+((x.map B5).length:Nat))=(((L.take (i+1)).flatten.length:Nat):Int) by omega];refine FL ?_;refine R1 ?_;refine AA rfl (AK (by omega)) ?_;refine FL ?_;refine R1 ?_;exact Ab (i+1) h (by omega)
 ·clear hb hi
  refine FL ?_;refine R1 ?_;refine FL ?_;refine R1 ?_;refine FL ?_;refine AWP.adopt (d:=7) 95 5 rfl λO=>?_
  refine BV (λ(i O:Nat)=>⟨[(7,.sl O 0 (L.take i).flatten.length),(25,.lst false 91 1 (L.map (CZ false))),(26,iA (L.map (CZ false)).length),(27,iA i)],(O,.row 95 5 ((L.take i).flatten.map B5))::Sf⟩) (λi _=>i<=L.length) (λi _=>L.length-i) 0 O (Nat.zero_le _) ?_;rintro i O hi;refine R1 ?_;refine FL ?_;refine AWP.cond rfl (λhb=>?_) (λhb=>?_)
  ·have h:i<L.length:=by rw[AD,hLm]at hb;omega
   obtain⟨x,hx⟩:∃x,L[i]?=some x:=⟨_,AG h⟩;have hat:(L.map (CZ false))[i]?=some (CZ false x):=by rw[AF,hx];rfl
   have hnx:=Ln hx;have hle:=HA L (i+1);rw[hnx,AI]at hle;have hxm:(x.map B5).length=x.length:=AB _;have hxc:=hc x (Ao hx);obtain⟨P0,hP0⟩:∃P0,(L.take i).flatten=P0:=⟨_,rfl⟩;rw[hP0]at hle hnx⊢;refine FL ?_;refine R1 ?_;refine FL ?_;refine R1 ?_;refine FL ?_;refine BV (λ(j O:Nat)=>⟨[(7,.sl O 0 (P0++x.take j).length),(25,.lst false 91 1 (L.map (CZ false))),(26,iA (L.map (CZ false)).length),(27,iA i),(31,CZ false x),(32,iA (x.map B5).length),(33,iA j)],(O,.row 95 5 ((P0++x.take j).map B5))::Sf⟩) (λj _=>j<=x.length) (λj _=>x.length-j) 0 O (Nat.zero_le _) ?_ (h0:=⟨by rw[List.take_zero,List.append_nil];exact Lk.f,by rw[List.take_zero,List.append_nil];exact Sub.f⟩);rintro j O hj;refine R1 ?_;refine FL ?_;refine AWP.cond rfl (λhb2=>?_) (λhb2=>?_)
   ·have h2:j<x.length:=by rw[AD,hxm]at hb2;omega
    obtain⟨c,hcc⟩:∃c,x[j]=c:=⟨_,rfl⟩;have hcm:c∈x:=by rw[<-hcc];exact AY h2
    have hat2:(x.map B5)[j]?=some (B5 c):=by rw[AF,AG h2,hcc];rfl
    have hcp:=Pc c (hxc c hcm).1 (hxc c hcm).2;have hnx2:P0++x.take (j+1)=(P0++x.take j)++[c]:=by rw[List.take_succ_eq_append_getElem h2,hcc,AM]
    have hpl:(P0++x.take j).length<=131072:=by rw[AI,Ag];omega
    obtain⟨M,hM⟩:∃M,P0++x.take j=M:=⟨_,rfl⟩;rw[hM]at hnx2 hpl⊢;have hml:(M.map B5).length=M.length:=AB _;have hb1:(M.map B5).length+1<=1099511627776:=by omega
    have hm1:M.map B5++[B5 c]=(P0++x.take (j+1)).map B5:=by rw[hnx2,List.map_append];rfl
    have hm2:M.length+[B5 c].length=(P0++x.take (j+1)).length:=by rw[hnx2,AI];rfl
    refine FL ?_;refine RG ?_;refine KO ?_;refine Ai λX=>?_;refine WO ?_;refine NL ?_
    refine FL ?_;refine RG ?_;refine KO ?_;refine AOps.g_callf ?_;refine AOps.c1 (h:=(hcp ..)) (k:=?_);refine AOps.g_lit ?_;refine AOps.goL (B5 c) ?_;refine WO ?_;refine Ay λY=>?_;refine WO ?_;refine NL ?_
    dsimp only[AW,List.set_cons_zero,List.set_cons_succ,BF,BA];rw[hm1,hm2];refine FL ?_;refine R1 ?_;exact A9 (j+1) Y h2 (by omega)
   ·have h2:j=x.length:=by rw[AL,hxm]at hb2;omega
    subst h2;rw[List.take_length,<-hnx];refine FL ?_;refine R1 ?_;exact A9 (i+1) O h (by omega)
  ·have h:i=L.length:=by rw[AL,hLm]at hb;omega
   subst h;rw[List.take_length];refine FL ?_;refine R1 ?_;refine RT ?_;exact Br [.sl O 0 L.flatten.length,iA 0] [CZ true L.flatten,iA 0] (.cons (.cell (.sl (p:=0) .here (by rw[AB]))) (.cons (.cell .same) .nil))
abbrev Ra(b:Bool)(l:List Evt):AV:=.lst b 73 4 (l.map C3)
theorem Hf(w:Wd)(l:List Sys)(h:TickG w l):PS Tryz.prog 62 [wdA false w,Hg false l] (iA 0):=by
 have hL:=h.ok.wl;have hck:=ED w hL.gens hL.items.1 (λit hit=>(hL.items.2 it hit).1);rw[(BG w).2 h.ok]at hck;have hlm:(l.map (CE false)).length=l.length:=AB _;have h24:=h.l24;refine Sp (nt:=31) (res:=[.tmp 4]) Tryz.func62 λSf=>?_
 refine RG ?_;refine AOps.g_box ?_;refine Aj ?_;refine WO ?_;refine NL ?_;refine FL ?_;refine RG ?_;refine WO ?_;refine AOps.g_callf ?_;refine AOps.c1 (h:=(hck ..)) (k:=?_);refine WO ?_;refine NL ?_;refine FL ?_;refine R1 ?_;refine AA rfl rfl ?_;refine FL ?_;refine R1 ?_;refine AA rfl (AK (by omega)) ?_;refine FL ?_;refine R1 ?_;refine FL ?_;refine BB (λ(i:Nat)=>⟨[(2,.fp (wdA false w).cells),(17,Hg false l),(18,iA (l.map (CE false)).length),(19,iA i)],Sf⟩) (λi=>i<=l.length) (λi=>l.length-i) 0 (Nat.zero_le _) ?_;rintro i hi;refine R1 ?_;refine FL ?_;refine AWP.cond rfl (λhb=>?_) (λhb=>?_)
 ·have hi2:i<l.length:=by rw[AD,hlm]at hb;omega
  obtain⟨s,hs⟩:∃s,l[i]=s:=⟨_,rfl⟩;have hsm:s∈l:=by rw[<-hs];exact AY hi2
  have hat:(l.map (CE false))[i]?=some (CE false s):=by rw[AF,AG hi2,hs];rfl
  have hsc:=Io w.kinds s h.ok.ks h.k12 (h.sg s hsm);refine FL ?_;refine RG ?_;refine KO ?_;refine Ai λX=>?_;refine WO ?_;refine NL ?_
  refine FL ?_;refine RG ?_;refine KO ?_;refine AOps.g_callf ?_;refine AOps.c2 (h:=(hsc ..)) (k:=?_);refine WO ?_;refine NL ?_;refine FL ?_;refine R1 ?_;refine AA rfl rfl ?_;refine FL ?_;refine R1 ?_;exact Ab (i+1) hi2 (by omega)
 ·refine FL ?_
  refine R1 ?_;refine RT ?_;refine AN ?_;rfl
theorem Oc(w:Wd)(cs:List (List Cmd))(ev:List Evt)(hw:WdOK w)(h12:w.kinds.length<=12)(hn:cs.length<=1000)(hl:cs.flatten.length<=131072)(hc:∀c∈cs.flatten,CmdG w.kinds c)(he:ev.length<=1099511627776):PS Tryz.prog 66 [wdA false w,.lst false 91 1 (cs.map (CZ false)),Ra false ev] (.tup [wdA false (DI w cs.flatten).1,Ra true (ev.take 256),iA 0]):=by
 have hL:=hw.wl;have hck:=ED w hL.gens hL.items.1 (λit hit=>(hL.items.2 it hit).1);rw[(BG w).2 hw]at hck;obtain⟨g1,g2⟩:=CmdG.sl hc;have hj:=Pb cs hn hl (λx hx c hcx=>g2 c (List.mem_flatten.2 ⟨x,hx,hcx⟩));have hap:=Th w cs.flatten hw h12 hl g1;have hem:(ev.map C3).length=ev.length:=AB _
 obtain⟨k,hk⟩:∃k:Nat,(if(256:Int)<((ev.map C3).length:Nat)then(256:Int)else((ev.map C3).length:Nat))=(k:Nat):=by
  by_cases h:(256:Int)<((ev.map C3).length:Nat)
  ·exact⟨256,by rw[if_pos h];rfl⟩
  ·exact⟨_,by rw[if_neg h]⟩
 have hk1:k<=ev.length/\ev.take k=ev.take 256:=by
  by_cases h:(256:Int)<((ev.map C3).length:Nat)
  ·rw[if_pos h]at hk
   have:k=256:=by omega
   subst this;exact⟨by omega,rfl⟩
  ·rw[if_neg h]at hk
   have:k=ev.length:=by omega
   subst this;exact⟨Nat.le_refl _,by rw[List.take_length,List.take_of_length_le (by omega)]⟩
 obtain⟨hk1,hk2⟩:=hk1;have htk:(ev.map C3).take k=(ev.take 256).map C3:=by rw[<-List.map_take,hk2]
 have htl:((ev.map C3).take k).length<=256:=by rw[htk,AB,Ag];omega
 refine Sp (nt:=47) (res:=[.cell 6 27,.tmp 7,.tmp 8]) Tryz.func66 λSf=>?_
 refine RG ?_;refine AOps.g_box ?_;refine Aj ?_;refine WO ?_;refine Ai λR=>?_;refine KO ?_;refine NL ?_
 refine FL ?_;refine RG ?_;refine WO ?_;refine AOps.g_callf ?_;refine AOps.c1 (h:=(hck ..)) (k:=?_);refine WO ?_;refine NL ?_;refine FL ?_;refine R1 ?_;refine AA rfl rfl ?_;refine FL ?_;refine RG ?_;refine WO ?_;refine AOps.g_callf ?_;refine AOps.c1 (h:=(hj ..)) (k:=?_);refine KO ?_;refine NL ?_;refine FL ?_;refine R1 ?_;refine AA rfl rfl ?_;refine FL ?_;refine RG ?_;refine KO ?_;refine AOps.g_callf ?_;refine AOps.c2 (h:=(hap ..)) (k:=?_);refine KO ?_;refine Ai λV=>?_;refine KO ?_;refine NL ?_
 refine FL ?_;refine R1 ?_;refine AA rfl rfl ?_;refine FL ?_;refine AWP.rs λY=>?_
 refine RU ?_;(iterate 5 refine RK ?_);refine RGo.gN ?_;refine RGo.go (h:=W.hiL (a:=k) rfl rfl hk (by omega)) (k:=?_);refine RGo.gN ?_;refine RGo.s (Tu (by omega) (by unfold maxLen;omega) rfl rfl (by exact At.f)) rfl ?_;(iterate 3 refine RK ?_);refine RGo.nil (by kernel_rfl) ?_;refine RT ?_;exact Br [wdA false (DI w cs.flatten).1,.sl Y 0 ((ev.map C3).take k).length,iA 0] [wdA false (DI w cs.flatten).1,.lst true 73 4 ((ev.map C3).take k),iA 0] (.cons (.cell .same) (.cons (.cell (.sl (p:=0) .here rfl)) (.cons (.cell .same) .nil))) (e:=by rw[htk];rfl)
theorem JT(w:Wd)(l:List Sys)(seed tick:Int)(h:TickG w l):PS Tryz.prog 29 [wdA false w,Hg false l,iA seed,iA tick] (.tup [wdA false (E4 w l seed tick).1,Ra false (E4 w l seed tick).2,iA 0]):=by
 have hck:=Hf w l h;have h24:=h.l24;obtain⟨k1,k2,k3,k4,k5,k6,k7⟩:=Hh (seed:=seed) (tick:=tick) l w 0 h;have hall:=h.all seed tick;have hend:=Oc (DG seed tick w 0 l).1 (DG seed tick w 0 l).2.1 (DG seed tick w 0 l).2.2 k1 (by rw[k2];exact h.k12) (by omega) (by omega) (by rw[k2];exact hall) (by omega);have htm:E4 w l seed tick=((DI (DG seed tick w 0 l).1 (DG seed tick w 0 l).2.1.flatten).1,(DG seed tick w 0 l).2.2.take 256):=rfl;rw[htm];dsimp only;obtain⟨⟨v,cs,ev⟩,hq⟩:∃q,DG seed tick w 0 l=q:=⟨_,rfl⟩;rw[hq]at hend k4 k6⊢;dsimp only at hend k4 k6⊢;have hlm:(l.map (CE false)).length=l.length:=AB _;refine Sp (nt:=65) (res:=[.cell 8 27,.tmp 9,.tmp 10]) Tryz.func29 λSf=>?_
 refine RG ?_;refine Fj λB=>?_
 refine Fj λR=>?_
 refine KO ?_;refine FL ?_;refine RG ?_;refine KO ?_;refine AOps.g_callf ?_;refine AOps.c2 (h:=(hck ..)) (k:=?_);refine WO ?_;refine NL ?_;refine FL ?_;refine R1 ?_;refine AA rfl rfl ?_;refine FL ?_;refine R1 ?_;refine FL ?_;refine R1 ?_;refine FL ?_;refine R1 ?_;refine FL ?_;refine AWP.adopt (d:=13) 73 4 rfl λE0=>?_
 refine AWP.adopt (d:=12) 91 1 rfl λC0=>?_
 refine GG (λ(i C E:Nat) (z:Wd×List (List Cmd)×List Evt)=>⟨[(1,Hg false l),(2,iA seed),(3,iA tick),(4,.ptr B 0 0),(8,.ptr R 0 0),(12,.sl C 0 z.2.1.length),(13,.sl E 0 z.2.2.length),(27,Hg false l),(28,iA (l.map (CE false)).length),(29,iA i)],(C,.row 91 1 (z.2.1.map (CZ false)))::(E,.row 73 4 (z.2.2.map C3))::(R,.row 27 3 [.agg [.prim (.slice none 0 0),.prim (.slice none 0 0),.prim (.slice none 0 0)]])::(B,.row 27 3 [wdA false z.1])::Sf⟩) (λi _ _ z=>i<=l.length/\TickG z.1 l/\z.1.kinds=w.kinds/\(v,cs,ev)=((DG seed tick z.1 i (l.drop i)).1,z.2.1++(DG seed tick z.1 i (l.drop i)).2.1,z.2.2++(DG seed tick z.1 i (l.drop i)).2.2)) (λi _ _ _=>l.length-i) 0 C0 E0 (w,[],[]) ⟨Nat.zero_le _,h,rfl,hq.symm⟩ ?_;rintro i C E ⟨z,zc,ze⟩ ⟨hi,hz,hzk,hrun⟩;dsimp only at hz hzk hrun⊢
 have hcl:zc.length<=24:=by
  have:=congrArg (λq=>q.2.1.length) hrun;dsimp only at this;rw[AI]at this;omega
 have hel:ze.length<=122880:=by
  have:=congrArg (λq=>q.2.2.length) hrun;dsimp only at this;rw[AI]at this;omega
 have hcm:(zc.map (CZ false)).length=zc.length:=AB _;have hem:(ze.map C3).length=ze.length:=AB _;refine R1 ?_;refine FL ?_;refine AWP.cond rfl (λhb=>?_) (λhb=>?_)
 ·have h2:i<l.length:=by rw[AD,hlm]at hb;omega
  obtain⟨s,hs⟩:∃s,l[i]=s:=⟨_,rfl⟩;have hsm:s∈l:=by rw[<-hs];exact AY h2
  have hat:(l.map (CE false))[i]?=some (CE false s):=by rw[AF,AG h2,hs];rfl
  have hsr:=VQ z s i seed tick hz.ok.wl ((BG z).2 hz.ok) hz.k12 (hz.sg s hsm) hz.ok.ks (λit hit=>(hz.ok.it it hit).2.2.2.2) (Nat.le_trans (hz.n hsm) (by decide));have hr:=hz.r hsm i seed tick;obtain⟨_,q2,q3⟩:=hz.cmds hsm i seed tick;rw[By h2,hs,DG]at hrun;unfold wdR at hrun hr;obtain⟨⟨ri,rc,re⟩,hrm⟩:∃q,Fr z s i seed tick=q:=⟨_,rfl⟩;rw[hrm]at hsr hr q2 q3 hrun;dsimp only at hsr hr q2 q3 hrun;have hg2:TickG ⟨z.kinds,z.gens,ri⟩ l:=⟨hr,hz.k12,hz.sg,hz.l24⟩;have hrcl:(rc.map B5).length=rc.length:=AB _;have hrel:(re.map C3).length=re.length:=AB _;refine FL ?_;refine RG ?_;refine KO ?_;refine Ai λX=>?_;refine KO ?_;refine NL ?_
  refine FL ?_;refine RG ?_;refine KO ?_;refine AOps.g_callf ?_;refine Qc (h:=(hsr ..)) (k:=?_);refine KO ?_;refine Ai λV=>?_;refine KO ?_;refine NL ?_
  refine FL ?_;refine R1 ?_;refine AA rfl rfl ?_;refine FL ?_;refine R1 ?_;refine FL ?_;have hm1:zc.map (CZ false)++[CZ false rc]=(zc++[rc]).map (CZ false):=by rw[List.map_append];rfl
  have hm2:zc.length+[CZ false rc].length=(zc++[rc]).length:=by rw[AI];rfl
  have hm3:ze.map C3++re.map C3=(ze++re).map C3:=by rw[List.map_append]
  have hm4:ze.length+(re.map C3).length=(ze++re).length:=by rw[AI,hrel]
  refine RG ?_;(repeat first|(refine AOps.gN ?_;first|(refine AOps.g_lit ?_;refine AOps.goL (CZ false rc) ?_))|refine WO ?_|refine Ai λX=>?_|refine Ay λY=>?_);refine NL ?_;dsimp only[AW,List.set_cons_zero,List.set_cons_succ,BF,BA];rw[hm1,hm2,hm3,hm4];refine FL ?_;refine R1 ?_;refine Du (i+1) ?_ ?_ (⟨z.kinds,z.gens,ri⟩,zc++[rc],ze++re) ⟨h2,hg2,hzk,by rw[hrun];dsimp only;rw[AM,AM];rfl⟩ (by omega)
 ·have h2:i=l.length:=by rw[AL,hlm]at hb;omega
  subst h2;rw[List.drop_length,DG,List.append_nil,List.append_nil]at hrun;injection hrun with e1 e2
  injection e2 with e2 e3
  subst e1 e2 e3;refine FL ?_;refine Gd 12 _ (Fc (CZ false) (λ_=>Frz.h) _) (hn:=hcm.symm) ?_;refine Gd 13 _ (Fc C3 (λ_=>Frz.h) _) (hn:=hem.symm) ?_;refine RG ?_;refine KO ?_;refine AOps.g_callf ?_;refine FJ (h:=(hend ..)) (k:=?_);refine KO ?_;refine NL ?_;refine RT ?_;exact GF (rs:=[wdA false (DI v cs.flatten).1,Ra false (ev.take 256),iA 0]) rfl
abbrev WL(b:Bool)(l:List UInt64):AV:=.lst b 64 1 (l.map uA)
theorem IM(l:List Sys)(seed:Int):∀(n:Nat) (w:Wd) (t:Int),(Er l seed w t n).2.length=n
 |0,w,t=>rfl
 |n+1,w,t=>by rw[Er,BU,IM l seed n]
theorem NA(w:Wd)(l:List Sys)(seed fr:Int)(n:Nat)(h:TickG w l)(h0:0<=fr)(h1:fr+n<=2000):PS Tryz.prog 26 [wdA false w,Hg false l,iA seed,iA fr,iA n] (.tup [wdA false (Er l seed w fr n).1,WL true (Er l seed w fr n).2,iA 0]):=by
 have hck:=Hf w l h;have hcp:=QS w h.ok.wl;have hpl:=IM l seed n w fr;obtain⟨⟨v,ds⟩,hq⟩:∃q,Er l seed w fr n=q:=⟨_,rfl⟩;rw[hq]at hpl⊢;dsimp only at hpl⊢;refine Sp (nt:=73) (res:=[.cell 10 27,.tmp 11,.tmp 12]) Tryz.func26 λSf=>?_
 refine RG ?_;refine Fj λB=>?_
 refine Fj λR=>?_
 refine KO ?_;refine FL ?_;refine RG ?_;refine KO ?_;refine AOps.g_callf ?_;refine AOps.c2 (h:=(hck ..)) (k:=?_);refine WO ?_;refine NL ?_;refine FL ?_;refine R1 ?_;refine AA rfl rfl ?_;refine FL ?_;have hf1:¬(fr<0):=by omega
 have hf2:¬(2000<fr):=by omega
 have hf3:¬((n:Int)<0):=by omega
 have hf4:¬(2000-fr<(n:Int)):=by omega
 refine R1 ?_;refine AA rfl (by simp only[hf1,hf2,hf3,hf4,decide_false,Bool.or_false]) ?_;refine FL ?_;refine RG ?_;refine WO ?_;refine AOps.g_callf ?_;refine AOps.c1 (h:=(hcp ..)) (k:=?_);refine WO ?_;refine NL ?_;refine FL ?_;refine R1 ?_;refine FL ?_;refine R1 ?_;refine FL ?_;refine AWP.adopt (d:=14) 64 1 rfl λD0=>?_
 refine DZ (λ(i D:Nat) (z:Wd×List UInt64)=>⟨[(1,Hg false l),(2,iA seed),(3,iA fr),(5,.ptr B 0 0),(10,.ptr R 0 0),(14,.sl D 0 z.2.length),(45,iA n),(46,iA i)],(D,.row 64 1 (z.2.map uA))::(R,.row 27 3 [.agg [.prim (.slice none 0 0),.prim (.slice none 0 0),.prim (.slice none 0 0)]])::(B,.row 27 3 [wdA false z.1])::Sf⟩) (λi _ z=>i<=n/\TickG z.1 l/\(v,ds)=((Er l seed z.1 (fr+i) (n-i)).1,z.2++(Er l seed z.1 (fr+i) (n-i)).2)) (λi _ _=>n-i) 0 D0 (w,[]) ⟨Nat.zero_le _,h,by rw[show fr+((0:Nat):Int)=fr by omega,Nat.sub_zero,<-hq];rfl⟩ ?_;rintro i D ⟨z,zd⟩ ⟨hi,hz,hrun⟩;dsimp only at hz hrun⊢
 have hdl:zd.length<=n:=by
  have:=congrArg (λq=>q.2.length) hrun;dsimp only at this;rw[AI]at this;omega
 have hdm:(zd.map uA).length=zd.length:=AB _;refine R1 ?_;refine FL ?_;refine AWP.cond rfl (λhb=>?_) (λhb=>?_)
 ·have h2:i<n:=by rw[AD]at hb;omega
  have htr:=JT z l seed (fr+i) hz;obtain⟨hzt,_⟩:=hz.tick seed (fr+i);have hdg:=Rh _ hzt.ok;rw[show n-i=(n-(i+1))+1 by omega,Er]at hrun;obtain⟨⟨tv,te⟩,hte⟩:∃q,E4 z l seed (fr+i)=q:=⟨_,rfl⟩;rw[hte]at htr hzt hdg hrun;dsimp only at htr hzt hdg hrun;obtain⟨sm,hsm⟩:∃q,UI (FN tv)=q:=⟨_,rfl⟩;rw[hsm]at hdg hrun;have hm1:zd.map uA++[uA sm]=(zd++[sm]).map uA:=by rw[List.map_append];rfl
  have hm2:zd.length+[uA sm].length=(zd++[sm]).length:=by rw[AI];rfl
  refine FL ?_;refine R1 ?_;refine FL ?_;refine RG ?_;(iterate 5 refine WO ?_);refine AOps.gN ?_;refine AOps.go (h:=Bb (fr+i) (by omega) (by omega) rfl rfl) (k:=?_);refine AOps.g_callf ?_;refine VI (h:=(htr ..)) (k:=?_);refine KO ?_;refine Ai λV=>?_;refine KO ?_;refine NL ?_
  refine FL ?_;refine R1 ?_;refine AA rfl rfl ?_;refine FL ?_;refine R1 ?_;refine FL ?_;refine RG ?_;refine KO ?_;refine AOps.g_callf ?_;refine AOps.c1 (h:=(hdg ..)) (k:=?_);refine AOps.g_lit ?_;refine AOps.goL (uA sm) ?_;refine WO ?_;refine Ay λY=>?_;refine WO ?_;refine NL ?_
  dsimp only[AW,List.set_cons_zero,List.set_cons_succ,BF,BA];rw[hm1,hm2];refine FL ?_;refine R1 ?_;exact CK (i+1) _ (tv,zd++[sm]) ⟨h2,hzt,by rw[hrun,AM];dsimp only;rw[show fr+((i+1:Nat):Int)=fr+i+1 by omega];rfl⟩ (by omega)
 ·have h2:i=n:=by rw[AL]at hb;omega
  subst h2;rw[Nat.sub_self,Er,List.append_nil]at hrun;injection hrun with e1 e2
  subst e1 e2;refine FL ?_;refine R1 ?_;refine RT ?_;exact Br [wdA false v,.sl D 0 ds.length,iA 0] [wdA false v,WL true ds,iA 0] (.cons (.cell .same) (.cons (.cell (.sl (p:=0) .here hdm.symm)) (.cons (.cell .same) .nil)))
theorem J9(X:Nat)(l:List Int)(f:FuncId)(cap:List AV)(p:Int->Bool)(hs:B4 cap=true)(hl:l.length<=4611686018427387904)(hf:∀x∈l,PS Tryz.prog f (iA x::cap) (bA (p x))):PO Tryz.prog 129 [.sl X 0 l.length,.fn f cap] X (.row 3 1 (l.map iA)) (iA (EP l p)) (.row 3 1 (l.map iA)):=by
 refine Sp (nt:=19) (res:=[.tmp 4]) Tryz.func129 λSf=>?_
 refine KK ?_;refine BB (λi:Nat=>⟨[(0,.sl X 0 l.length),(1,.fn f cap),(7,iA l.length),(8,iA i)],(X,.row 3 1 (l.map iA))::Sf⟩) (λi=>i<=l.length/\∀j (h:j<l.length),j<i->p l[j]=false) (λi=>l.length-i) 0 ⟨Nat.zero_le _,λj h hj=>absurd hj (by omega)⟩ ?_;rintro i ⟨hi,he⟩;refine KK ?_;refine AWP.cond rfl (λhc=>?_) (λhc=>?_)
 ·have h:i<l.length:=by simpa using hc
  refine KK ?_;refine AOps.g_callv ?_;refine Gw (h:=(hf _ (AY h))) (k:=?_);refine KK ?_;refine AWP.cond rfl (λhd=>?_) (λhd=>?_)
  ·refine KK ?_
   refine RT ?_;refine QY ?_ ?_
   ·rw[El h hd λj hj=>he j (by omega) hj]
   ·rfl
  ·refine KK ?_
   refine Ab (i+1) ⟨h,λj h1 h2=>?_⟩;by_cases e:j=i
   ·subst e;exact hd
   ·exact he j h1 (by omega)
 ·have h:¬i<l.length:=by simpa using hc
  refine KK ?_;refine RT ?_;refine QY ?_ ?_
  ·rw[Em λj hj=>he j hj (by omega)]
  ·rfl
theorem Kb(X:Nat)(l:List Int)(f:FuncId)(cap:List AV)(p:Int->Bool)(hs:B4 cap=true)(hl:l.length<=4611686018427387903)(hf:∀x∈l,PS Tryz.prog f (iA x::cap) (bA (p x))):Spec Tryz.prog 94 [.sl X 0 l.length,.fn f cap] [(X,.row 3 1 (l.map iA))] λr S'=>r= .lst true 3 1 ((l.filter λx=>!p x).map iA)/\S'=[]:=by
 refine Sp (nt:=42) (res:=[.tmp 4]) Tryz.func94 λSf=>?_
 have h0:=J9 X l f cap p hs (by omega) hf;have hr:=KB l p;obtain⟨v,hv⟩:∃v,EP l p=v:=⟨_,rfl⟩;rw[hv]at h0 hr;refine KK ?_;refine AOps.g_callf ?_;refine AOps.o2 (h:=(h0 ..)) (k:=?_);refine KK ?_;refine AWP.cond rfl (λhc=>?_) (λhc=>?_)
 ·have hc:v= -1:=by simpa using hc
  have hall:(l.filter λx=>!p x)=l:=by
   rw[List.filter_eq_self];intro x hx
   have h1:l.findIdx? p=none:=by
    unfold EP at hv;split at hv
    ·omega
    ·assumption
   rw[List.findIdx?_eq_none_iff]at h1;simp[h1 x hx]
  rw[hall];refine KK ?_;refine RT ?_;exact⟨[.sl X 0 l.length],[.lst true 3 1 (l.map iA)],_,[],.cons (.tmp rfl) rfl .nil,.cons (.cell (.sl (p:=0) .here (by simp))) .nil,by exact Sub.f,rfl,rfl⟩
 ·have hc:v≠-1:=by simpa using hc
  obtain⟨i0,hi0⟩:∃i0:Nat,v=i0:=⟨v.toNat,by omega⟩;subst hi0
  have hfi:l.findIdx? p=some i0:=by
   unfold EP at hv;split at hv
   ·rename_i i hi;rw[hi];congr 1;omega
   ·omega
  obtain⟨hil,hpi,hmin⟩:=List.findIdx?_eq_some_iff_getElem.1 hfi
  have ht0:(l.take (i0+1)).filter (λx=>!p x)=l.take i0:=by
   rw[List.take_succ_eq_append_getElem hil,List.filter_append];rw[show([l[i0]].filter λx=>!p x)=[] by simp[hpi],List.append_nil,List.filter_eq_self];intro x hx;obtain⟨j,hj,rfl⟩:=List.mem_take_iff_getElem.1 hx;have:=hmin j (by omega);simp at this⊢;exact this
  refine KK ?_;refine DZ (λ(i j:Nat) (M:List AV)=>⟨[(0,.sl X 0 l.length),(1,.fn f cap),(5,iA i),(6,iA j)],(X,.row 3 1 M)::Sf⟩) (λi j M=>i<j/\j<=l.length/\∃K:List Int,M=K.map iA/\K.length=l.length/\K.take i=((l.take j).filter λx=>!p x)/\K.drop j=l.drop j) (λi j _=>l.length-j) i0 (i0+1) (l.map iA) ⟨by omega,hil,l,rfl,rfl,ht0.symm,rfl⟩ ?_;rintro i j M ⟨hij,hj,K,rfl,hM,h1,h2⟩;refine KK ?_;refine AWP.cond rfl (λhd=>?_) (λhd=>?_)
  ·have h:j<l.length:=by simpa using hd
   have hKj:K[j]?=some l[j]:=by
    have:=congrArg (λz=>z[0]?) h2;simpa[h]using this
   have hat:(K.map iA)[j]?=some (iA l[j]):=by rw[AF,hKj];rfl
   have hKi:i<K.length:=by omega
   obtain⟨b,hb⟩:∃b,p l[j]=b:=⟨_,rfl⟩;have hfj:=hf _ (AY h);rw[hb]at hfj
   have htk:(l.take (j+1)).filter (λx=>!p x)=(l.take j).filter (λx=>!p x)++if b then[]else[l[j]]:=by
    rw[List.take_succ_eq_append_getElem h,List.filter_append]
    congr 1
    cases b<;>simp[hb]
   refine KK ?_;refine AOps.g_callv ?_;refine Gw (h:=(hfj ..)) (k:=?_);refine KK ?_;cases b
   ·refine AP rfl rfl ?_
    refine KK ?_;refine CK (i+1) (j+1) _ ⟨by omega,h,K.set i l[j],by rw[List.map_set],by simpa using hM,?_,?_⟩
    ·rw[htk,<-h1,List.take_add_one,List.take_set,List.set_eq_of_length_le (by rw[Ag];omega),List.getElem?_set_self hKi]
     simp
    ·rw[List.drop_set_of_lt (by omega),<-List.drop_drop,h2,List.drop_drop]
   ·refine AA rfl rfl ?_
    refine KK ?_;refine CK i (j+1) _ ⟨by omega,h,K,rfl,hM,?_,?_⟩
    ·rw[h1,htk];simp
    ·rw[<-List.drop_drop,h2,List.drop_drop]
  ·have h:j=l.length:=by rw[AL]at hd;omega
   subst h;have h1':K.take i=l.filter λx=>!p x:=by rw[h1,List.take_length]
   have hKl:(K.map iA).length=l.length:=by rw[AB,hM]
   have hki:∀A B,(List.take (0+i) (K.map iA)++A++B).take i=(l.filter λx=>!p x).map iA:=λA B=>by
    rw[Nat.zero_add,AM,List.take_append_of_le_length (by rw[Ag];omega),List.take_take,Nat.min_self,<-List.map_take,h1']
   have hfl:i=((l.filter λx=>!p x).map iA).length:=by
    rw[<-h1',AB,Ag];omega
   (repeat first|(refine AOps.gN ?_;first|refine AOps.s (W.slice_lo rfl rfl (by exact At.f) rfl (by omega)) rfl ?_|refine AOps.s (W.clear rfl (by exact At.f) (by first|exact .inl rfl|exact .inr rfl) rfl (by omega)) rfl ?_|refine AOps.p (W.hi rfl rfl (by exact At.f) rfl (by omega)) rfl ?_)|refine WK ?_|refine Ai λX=>?_|refine Ay λY=>?_);refine AWP.shrink (X:=X) i ?_;rw[hki];refine RT ?_;exact⟨[.sl X 0 i],[.lst true 3 1 ((l.filter λx=>!p x).map iA)],_,[],.cons (.tmp rfl) rfl .nil,.cons (.cell (.sl (p:=0) .here hfl)) .nil,by exact Sub.f,rfl,rfl⟩
theorem Mi{ks:List Kind}{i:Int}{j:Nat}(hi:i=j)(hj:j<ks.length):LB ks i=(ks[j].fields.map fieldA).length:=by
 unfold LB;rw[hi,show((j:Int)).toNat=j from rfl,AG hj,AB]
theorem Vq(G:Nat)(ks:List Kind)(seen l:List Int)(hk:GE ks)(h0:seen≠[])(hs:∀x∈seen,0<=x/\x<ks.length)(hl:seen.length<=4398046511104):PO Tryz.prog 97 [.fp [.ptr G 0 0],.fp [AQ false seen],.fp [Ae false false ks]] G (Bc l) (As (FC ks seen l).1) (Bc (FC ks seen l).2):=by
 refine Sp (nt:=30) (res:=[.cell 3 153]) Tryz.func97 λSf=>?_
 have h2:=Af l (n:=2) (by decide);have hn0:0<seen.length:=List.length_pos_iff.2 h0;have hv:=Af (Ad l 2) (n:=seen.length) (by omega);obtain⟨i,hi⟩:∃i:Nat,Al (Ad l 2) seen.length=i:=⟨(Al (Ad l 2) seen.length).toNat,by omega⟩;have hil:i<seen.length:=by omega
 obtain⟨j,hj⟩:∃j:Nat,seen[i]=j:=⟨seen[i].toNat,by have:=hs _ (AY hil);omega⟩;have hjl:j<ks.length:=by have:=hs _ (AY hil);omega
 obtain⟨hk0,hk1⟩:=hk;have hfl:=(hk1 _ (AY hjl)).1;refine KK ?_;refine Ai λR=>?_;refine KK ?_;refine AOps.g_callf ?_;refine AOps.o2 (h:=(CH G _ _ (by decide))) (k:=?_);refine KK ?_
 refine AWP.cond rfl (λhb=>?_) (λhb=>?_)
 ·have hb:Al l 2=0:=by simpa using hb
  have h20:=Af (Ad l 2) (n:=20) (by decide);refine KK ?_;refine AOps.g_callf ?_;refine AOps.o2 (h:=(CH G _ _ (by decide))) (k:=?_);refine KK ?_;refine RT ?_;have he:FC ks seen l=(⟨false,Al (Ad l 2) 20-6,⟨0,0⟩⟩,Ad (Ad l 2) 20):=by rw[FC,if_pos hb]
  rw[he];exact OQ (rs:=[As ⟨false,Al (Ad l 2) 20-6,⟨0,0⟩⟩]) rfl rfl (.cons (.cell (p:=0) rfl .here TAg.h TSize.h rfl rfl) rfl .nil)
 ·have hb:Al l 2≠0:=by simpa using hb
  obtain⟨l1,hl1⟩:∃l1,Ad l 2=l1:=⟨_,rfl⟩;rw[hl1]at hi hv⊢;have hfd:=Mi (ks:=ks) hj hjl;have hsd:seen.getD (Al l1 seen.length).toNat 0=seen[i]:=by rw[hi];simp[hil]
  have he:FC ks seen l=(⟨true,0,⟨seen[i],Al (Ad l1 seen.length) (LB ks seen[i])⟩⟩,Ad (Ad l1 seen.length) (LB ks seen[i])):=by rw[FC,if_neg hb,hl1,hsd]
  rw[he,hfd]
  have hon:PO Tryz.prog 38 [.ptr G 0 0,iA (seen.map iA).length] G (Bc l1) (iA i) (Bc (Ad l1 seen.length)):=by
   have:=CH G l1 seen.length (by omega);rw[hi]at this;rw[AB];exact this
  have hon2:=CH G (Ad l1 seen.length) (ks[j].fields.map fieldA).length (by rw[AB];omega);rw[hj]at he⊢;refine RU ?_;refine KR ?_;refine RGo.g_callf ?_;refine RGo.o2 (h:=(hon ..)) (k:=?_);(iterate 3 refine RK ?_);refine RGo.nil (by kernel_rfl) ?_;rw[hj];refine RU ?_;refine KR ?_;refine RGo.g_callf ?_;refine RGo.o2 (h:=(hon2 ..)) (k:=?_);(iterate 3 refine RK ?_);refine RGo.nil (by kernel_rfl) ?_;refine WK ?_;refine RT ?_;exact OQ (rs:=[As ⟨true,0,⟨j,Al (Ad l1 seen.length) (ks[j].fields.map fieldA).length⟩⟩]) rfl rfl (.cons (.cell (p:=0) rfl .here TAg.h TSize.h rfl rfl) rfl .nil)
theorem Tg(ks:List Kind)(seen l:List Int)(hk:GE ks)(hf:∀k∈ks,k.fields≠[])(h0:seen≠[])(hs:∀x∈seen,0<=x/\x<ks.length):MB ks seen (FC ks seen l).1:=by
 have hn0:0<seen.length:=List.length_pos_iff.2 h0;have hv:=Af (Ad l 2) (n:=seen.length) (by omega);have h20:=Af (Ad l 2) (n:=20) (by decide);unfold FC MB;split
 ·exact⟨λh=>(by cases h),λ_=>⟨by show-6<=Al (Ad l 2) 20-6;omega,by show Al (Ad l 2) 20-6<=13;omega,rfl⟩⟩
 ·obtain⟨i,hi⟩:∃i:Nat,Al (Ad l 2) seen.length=i:=⟨(Al (Ad l 2) seen.length).toNat,by omega⟩
  have hil:i<seen.length:=by omega
  have hsd:seen.getD (Al (Ad l 2) seen.length).toNat 0=seen[i]:=by rw[hi];simp[hil]
  obtain⟨j,hj⟩:∃j:Nat,seen[i]=j:=⟨seen[i].toNat,by have:=hs _ (AY hil);omega⟩;have hjl:j<ks.length:=by have:=hs _ (AY hil);omega
  have hfd:=Mi (ks:=ks) hj hjl;have hfp:0<ks[j].fields.length:=List.length_pos_iff.2 (hf _ (AY hjl));rw[AB]at hfd;have hv2:=Af (Ad (Ad l 2) seen.length) (n:=LB ks seen[i]) (by omega);rw[hsd];exact⟨λ_=>⟨rfl,⟨(hs _ (AY hil)).1,(hs _ (AY hil)).2,hv2.1,hv2.2⟩,AY hil⟩,λh=>(by cases h)⟩
theorem O0:∀{l:List Int} {a n:Int},l.Pairwise (· < ·)->(∀x∈l,a<=x/\x<n)->a<=n->(l.length:Int)<=n-a
 |[],a,n,_,_,h=>by simp;omega
 |x::l,a,n,hp,hr,_=>by
  have hx:=hr x (by simp);rw[List.pairwise_cons]at hp;have:=O0 (a:=x+1) (n:=n) hp.2 (λy hy=>⟨by have:=hp.1 y hy;omega,(hr y (by simp[hy])).2⟩) (by omega);simp only[BU];omega
structure Sys2 where
 j:Nat
 A:Nat
 m:Nat
 M:List AV
 sp:List Comp
 q:List Int
structure Sys2.OK(ks:List Kind)(w3 w4:List Int)(c:Nat)(b:Sys2):Prop where
 le:b.j<=c
 e:∃ops:List Op,b.M=ops.map opA/\∀o∈ops,OpOK ks w3 w4 o
 m:b.m=b.M.length
 mj:b.m=b.j
 sp:b.sp=[]\/∃q,b.sp=(Cc ks q).1
structure Sys1 where
 i:Nat
 A1:Nat
 A2:Nat
 A3:Nat
 A4:Nat
 n1:Nat
 n2:Nat
 n3:Nat
 n4:Nat
 M1:List AV
 M2:List AV
 M3:List AV
 M4:List AV
 q:List Int
structure Sys1.OK(ks:List Kind)(b:Sys1):Prop where
 le:b.i<=ks.length
 e:∃w1 w2 w3 w4,b.M1=w1.map iA/\b.M2=w2.map iA/\b.M3=w3.map iA/\b.M4=w4.map iA/\SysL w1 w2 w3 w4 b.i
 n1:b.n1=b.M1.length
 n2:b.n2=b.M2.length
 n3:b.n3=b.M3.length
 n4:b.n4=b.M4.length
 b1:b.n1<=b.i
 b2:b.n2<=b.i
 b3:b.n3<=b.i
 b4:b.n4<=b.i
theorem NF{i:Nat}(h:i<6):[sA [111,110,101],sA [116,119,111],sA [116,104,114,101,101],sA [102,111,117,114],sA [102,105,118,101],sA [115,105,120]][i]?=some (sA (EG i)):=by
 have:i=0\/i=1\/i=2\/i=3\/i=4\/i=5:=by omega
 rcases this with rfl|rfl|rfl|rfl|rfl|rfl<;>rfl
theorem RL(x:Int):PS Tryz.prog 95 [iA x] (bA (decide (x=0))):=by
 refine Sp (nt:=5) (res:=[.tmp 2]) Tryz.func95 λSf=>?_
 refine KK ?_;refine RT ?_;refine AN ?_;rfl
abbrev SF:AO:=.row 80 7 [.agg [.prim (.string ByteArray.empty),.prim (.slice none 0 0),.prim (.slice none 0 0),.prim (.slice none 0 0),.prim (.slice none 0 0),.prim (.slice none 0 0),.prim (.slice none 0 0)]]
theorem Qs(G:Nat)(ks:List Kind)(l:List Int)(n:Nat)(hk:GE ks)(hf:∀k∈ks,k.fields≠[])(h0:ks≠[])(hn:n<6):Spec Tryz.prog 61 [Ae false false ks,.ptr G 0 0,iA n] [(G,Bc l)] λr S'=>∃b:Sys×List Int,SysOK ks n b.1/\r=CE false b.1/\S'=[(G,Bc b.2)]:=by
 refine Sp (nt:=187) (res:=[.cell 6 80]) Tryz.func61 λSf=>?_
 have hkn:=NF hn;have hks:=hk.1;have hk1:0<ks.length:=List.length_pos_iff.2 h0;refine RG ?_;refine AOps.g_box ?_;refine Aj ?_;refine AOps.g_box ?_;refine Aj ?_;refine WO ?_;refine Ai λR=>?_;refine NL ?_
 refine RG ?_;refine KO ?_;refine Ai λX=>?_;refine WO ?_;refine NL ?_
 refine AWP.nilIn 85 2 (Y:=X) (.cons (.agg (.cons .same (.cons .same (.cons .same (.cons .same (.cons .same (.cons .same (.cons (.base .nil) .nil)))))))) .nil) ?_;refine AWP.adoptIn (Y:=X) 155 11 (by exact At.f) (λF=>.cons (.agg (.cons .same (.cons .same (.cons .same (.cons .same (.cons .same (.cons (.base .nil) (.cons .same .nil)))))))) .nil) λA5=>?_
 refine AWP.adoptIn (Y:=X) 3 1 (by exact At.f) (λF=>.cons (.agg (.cons .same (.cons .same (.cons .same (.cons .same (.cons (.base .nil) (.cons .same (.cons .same .nil)))))))) .nil) λA4=>?_
 refine AWP.adoptIn (Y:=X) 3 1 (by exact At.f) (λF=>.cons (.agg (.cons .same (.cons .same (.cons .same (.cons (.base .nil) (.cons .same (.cons .same (.cons .same .nil)))))))) .nil) λA3=>?_
 refine AWP.adoptIn (Y:=X) 3 1 (by exact At.f) (λF=>.cons (.agg (.cons .same (.cons .same (.cons (.base .nil) (.cons .same (.cons .same (.cons .same (.cons .same .nil)))))))) .nil) λA2=>?_
 refine AWP.adoptIn (Y:=X) 3 1 (by exact At.f) (λF=>.cons (.agg (.cons .same (.cons (.base .nil) (.cons .same (.cons .same (.cons .same (.cons .same (.cons .same .nil)))))))) .nil) λA1=>?_
 refine R1 ?_;refine FL ?_;refine BB (λb:Sys1=>⟨[(3,.fp [Ae false false ks]),(4,.fp [.ptr G 0 0]),(6,.ptr R 0 0),(7,.ptr X 0 0),(19,iA (ks.map (Av false)).length),(20,iA b.i)],(b.A1,.row 3 1 b.M1)::(b.A2,.row 3 1 b.M2)::(b.A3,.row 3 1 b.M3)::(b.A4,.row 3 1 b.M4)::(A5,.row 155 11 [])::(X,.row 80 7 [.agg [sA (EG n),.sl b.A1 0 b.n1,.sl b.A2 0 b.n2,.sl b.A3 0 b.n3,.sl b.A4 0 b.n4,.sl A5 0 0,.lst false 85 2 []]])::(R,SF)::(G,Bc b.q)::Sf⟩) (Sys1.OK ks) (λb=>ks.length-b.i) ⟨0,A1,A2,A3,A4,0,0,0,0,[],[],[],[],l⟩ ⟨Nat.zero_le _,⟨[],[],[],[],rfl,rfl,rfl,rfl,SysL.nil _⟩,rfl,rfl,rfl,rfl,Nat.le_refl _,Nat.le_refl _,Nat.le_refl _,Nat.le_refl _⟩ ?_;rintro⟨i,A1,A2,A3,A4,n1,n2,n3,n4,M1,M2,M3,M4,q⟩ ⟨hi,⟨w1,w2,w3,w4,h1,h2,h3,h4,hL⟩,e1,e2,e3,e4,b1,b2,b3,b4⟩;dsimp only at hi h1 h2 h3 h4 hL e1 e2 e3 e4 b1 b2 b3 b4⊢;have hi40:i<=1099511627775\/i=ks.length:=by omega
 refine KK ?_;refine AWP.cond rfl (λhc=>?_) (λhc=>?_)
 ·have h:i<ks.length:=by simpa using hc
  have h4':=Af q (n:=4) (by decide);have c1:n1+1<=1099511627776:=by omega
  have c2:n2+1<=1099511627776:=by omega
  have c3:n3+1<=1099511627776:=by omega
  have c4:n4+1<=1099511627776:=by omega
  have ap:∀w:List Int,w.map iA++[iA (i:Int)]=(w++[(i:Int)]).map iA:=λw=>by rw[List.map_append];rfl
  have al:∀(m:Nat) (M:List AV),m=M.length->m+1=(M++[iA (i:Int)]).length:=λm M hm=>by rw[AI,hm];rfl
  refine KK ?_;refine AOps.g_callf ?_;refine AOps.o2 (h:=(CH G _ _ (by decide))) (k:=?_);refine KK ?_;refine AWP.cond rfl (λhd=>?_) (λhd=>?_)
  ·refine AWP.rs λY1=>AWP.rs λY3=>?_
   refine RU ?_;(iterate 14 refine RK ?_);refine RGo.nil (by kernel_rfl) ?_;refine KK ?_;refine Ab (⟨i+1,Y3,A2,Y1,A4,n1+1,n2,n3+1,n4,M1++[iA i],M2,M3++[iA i],M4,Ad q 4⟩:Sys1) ⟨h,⟨w1++[(i:Int)],w2,w3++[(i:Int)],w4,?_,h2,?_,h4,hL.read (by omega)⟩,al _ _ e1,e2,al _ _ e3,e4,?_,?_,?_,?_⟩ (by dsimp only;omega)
   ·dsimp only;rw[h1,ap]
   ·dsimp only;rw[h3,ap]
   all_goals (dsimp only;omega)
  ·refine KK ?_
   refine AWP.cond rfl (λhe=>?_) (λhe=>?_)
   ·refine AWP.rs λY1=>AWP.rs λY3=>?_
    refine RU ?_;(iterate 14 refine RK ?_);refine RGo.nil (by kernel_rfl) ?_;refine KK ?_;refine Ab (⟨i+1,Y3,A2,A3,Y1,n1+1,n2,n3,n4+1,M1++[iA i],M2,M3,M4++[iA i],Ad q 4⟩:Sys1) ⟨h,⟨w1++[(i:Int)],w2,w3,w4++[(i:Int)],?_,h2,h3,?_,hL.write (by omega)⟩,al _ _ e1,e2,e3,al _ _ e4,?_,?_,?_,?_⟩ (by dsimp only;omega)
    ·dsimp only;rw[h1,ap]
    ·dsimp only;rw[h4,ap]
    all_goals (dsimp only;omega)
   ·refine KK ?_
    refine AWP.cond rfl (λhg=>?_) (λhg=>?_)
    ·refine KK ?_;refine Ay λY=>?_;refine KK ?_
     refine Ab (⟨i+1,A1,Y,A3,A4,n1,n2+1,n3,n4,M1,M2++[iA i],M3,M4,Ad q 4⟩:Sys1) ⟨h,⟨w1,w2++[(i:Int)],w3,w4,h1,?_,h3,h4,hL.without (by omega)⟩,e1,al _ _ e2,e3,e4,?_,?_,?_,?_⟩ (by dsimp only;omega)
     ·dsimp only;rw[h2,ap]
     all_goals (dsimp only;omega)
    ·refine KK ?_
     refine Ab (⟨i+1,A1,A2,A3,A4,n1,n2,n3,n4,M1,M2,M3,M4,Ad q 4⟩:Sys1) ⟨h,⟨w1,w2,w3,w4,h1,h2,h3,h4,hL.weaken (by dsimp only;omega)⟩,e1,e2,e3,e4,?_,?_,?_,?_⟩ (by dsimp only;omega)
     all_goals (dsimp only;omega)
 ·have h:i=ks.length:=by rw[AL,AB]at hc;omega
  subst h;clear hc b1 b3 b4 hi40 hi;have f1:AV.frzs M1=w1.map iA:=by rw[h1];exact Frzs.h
  have f2:AV.frzs M2=w2.map iA:=by rw[h2];exact Frzs.h
  have f3:AV.frzs M3=w3.map iA:=by rw[h3];exact Frzs.h
  have f4:AV.frzs M4=w4.map iA:=by rw[h4];exact Frzs.h
  refine R1 ?_;refine Bl (λb:List Int×List Int×List Int×List Int=>SysL b.1 b.2.1 b.2.2.1 b.2.2.2 ks.length/\b.1≠[]) (λb=>⟨[(3,.fp [Ae false false ks]),(4,.fp [.ptr G 0 0]),(6,.ptr R 0 0),(7,.ptr X 0 0)],(A5,.row 155 11 [])::(X,.row 80 7 [.agg [sA (EG n),AQ false b.1,AQ false b.2.1,AQ false b.2.2.1,AQ false b.2.2.2,.sl A5 0 0,.lst false 85 2 []]])::(R,SF)::(G,Bc q)::Sf⟩) ?_ ?_
  ·refine AWP.cond rfl (λhd=>?_) (λhd=>?_)
   ·have hd:n1=0:=by rw[AD]at hd;omega
    have hw1:w1=[]:=List.eq_nil_of_length_eq_zero (by have:=congrArg List.length h1;rw[AB]at this;omega);have hn2:n2=w2.length:=by rw[e2,h2,AB]
    have hw2:w2.length<=1099511627776:=by omega
    have hz:=Kb A2 w2 95 [] (λx=>decide (x=0)) rfl (by omega) (λx _=>RL x);subst hn2 h2 hw1;refine AWP.rs λY2=>?_
    refine RG ?_;refine KO ?_;refine AOps.g_callf ?_;refine AOps.z2 (h:=hz.used) (hT:=.ls (Y:=Y2)) (k:=?_);refine KO ?_;have g2:AV.frzs ((w2.filter λx=>!decide (x=0)).map iA)=(w2.filter λx=>!decide (x=0)).map iA:=Frzs.h;refine AOps.iceX Y2 ((w2.filter λx=>!decide (x=0)).map iA) g2 (.cons (.agg (.cons .same (.cons .same (.cons (.base .sl) (.cons .same (.cons .same (.cons .same (.cons .same .nil)))))))) .nil) ?_;refine AOps.iceX A3 (w3.map iA) f3 (.cons (.agg (.cons .same (.cons .same (.cons .same (.cons (.base .sl) (.cons .same (.cons .same (.cons .same .nil)))))))) .nil) ?_;refine WK ?_;exact jn ([0],w2.filter λx=>!decide (x=0),w3,[0]) ⟨hL.zero (by omega),by simp⟩
   ·have hd:n1≠0:=by rw[AL]at hd;omega
    have hw1:w1≠[]:=by rintro rfl;rw[h1]at e1;exact hd e1
    refine AWP.iceX A1 (w1.map iA) f1 (.cons (.agg (.cons .same (.cons (.base .sl) (.cons .same (.cons .same (.cons .same (.cons .same (.cons .same .nil)))))))) .nil) ?_;refine AWP.iceX A2 (w2.map iA) f2 (.cons (.agg (.cons .same (.cons .same (.cons (.base .sl) (.cons .same (.cons .same (.cons .same (.cons .same .nil)))))))) .nil) ?_;refine AWP.iceX A3 (w3.map iA) f3 (.cons (.agg (.cons .same (.cons .same (.cons .same (.cons (.base .sl) (.cons .same (.cons .same (.cons .same .nil)))))))) .nil) ?_;refine AWP.iceX A4 (w4.map iA) f4 (.cons (.agg (.cons .same (.cons .same (.cons .same (.cons .same (.cons (.base .sl) (.cons .same (.cons .same .nil)))))))) .nil) ?_;refine WK ?_;exact jn (w1,w2,w3,w4) ⟨hL,hw1⟩
  ·rintro⟨w1,w2,w3,w4⟩ ⟨hL,hne⟩
   dsimp only at hL hne⊢;have hr3:∀x∈w3,0<=x/\x<ks.length:=λx hx=>hL.r1 x (hL.s3 x hx)
   have hr4:∀x∈w4,0<=x/\x<ks.length:=λx hx=>hL.r1 x (hL.s4 x hx)
   have hl3:=O0 hL.o3 hr3 (by omega);have hl4:=O0 hL.o4 hr4 (by omega);have hfl:[w3,w4].flatten=w3++w4:=by simp
   have hcc:=Kd [w3,w4] (by simp) (by rw[hfl,AI];omega);rw[hfl]at hcc;have hsr:∀x∈w3++w4,0<=x/\x<ks.length:=λx hx=>by rcases List.mem_append.1 hx with h|h;exact hr3 x h;exact hr4 x h
   have hsn:w3++w4≠[]:=by
    intro e0;obtain⟨x,hx⟩:=List.exists_mem_of_ne_nil _ hne;rcases hL.all x hx with h|h
    ·have:x∈w3++w4:=by simp[h]
     rw[e0]at this;cases this
    ·have:x∈w3++w4:=by simp[h]
     rw[e0]at this;cases this
   have hap:=λl=>Vq G ks (w3++w4) l hk hsn hsr (by rw[AI];omega)
   have hao:=λl=>Tg ks (w3++w4) l hk hf hsn hsr
   have hw4:0<=Al q 6/\Al q 6<6:=Af q (by decide);obtain⟨c,hc⟩:∃c:Nat,Al q 6=c:=⟨(Al q 6).toNat,by omega⟩;obtain⟨q0,hq0⟩:∃q0,Ad q 6=q0:=⟨_,rfl⟩;refine RG ?_;refine KO ?_;refine AOps.g_callf ?_;refine AOps.c1 (h:=(hcc ..)) (k:=?_);refine WO ?_;refine Ai λV=>?_;refine WO ?_;refine NL ?_
   refine AWP.iceP [9] (X:=V) (by exact At.f) ?_ (by intro d hd;simp only[BN]at hd;subst hd;rfl);refine R1 ?_;refine RG ?_;refine WO ?_;refine AOps.g_callf ?_;refine AOps.o2 (h:=(CH G _ _ (by decide))) (k:=?_);refine WO ?_;refine NL ?_;rw[hc,hq0];refine FL ?_;refine BB (λb:Sys2=>⟨[(3,.fp [Ae false false ks]),(4,.fp [.ptr G 0 0]),(6,.ptr R 0 0),(7,.ptr X 0 0),(10,.fn 97 [.fp [.ptr G 0 0],.fp [AQ false (w3++w4)],.fp [Ae false false ks]]),(82,iA c),(83,iA b.j)],(b.A,.row 155 11 b.M)::(X,.row 80 7 [.agg [sA (EG n),AQ false w1,AQ false w2,AQ false w3,AQ false w4,.sl b.A 0 b.m,.lst false 85 2 (b.sp.map (AH false))]])::(R,SF)::(G,Bc b.q)::Sf⟩) (Sys2.OK ks w3 w4 c) (λb=>c-b.j) ⟨0,A5,0,[],[],q0⟩ ⟨Nat.zero_le _,⟨[],rfl,by simp⟩,rfl,rfl,.inl rfl⟩ ?_;rintro⟨j,A,m,M,sp,q⟩ ⟨hj,⟨ops,hM,hO⟩,hm,hmj,hsp⟩;dsimp only at hj hM hm hmj hsp⊢;refine KK ?_;refine AWP.cond rfl (λhd=>?_) (λhd=>?_)
   ·have hjc:j<c:=by rw[AD]at hd;omega
    have hd13:=Af q (n:=13) (by decide);obtain⟨d,hdd⟩:∃d,Al q 13=d:=⟨_,rfl⟩;obtain⟨q1,hq1⟩:∃q1,Ad q 13=q1:=⟨_,rfl⟩;have ha:=hao q1;have hap1:=hap q1;obtain⟨a,haa⟩:∃a,(FC ks (w3++w4) q1).1=a:=⟨_,rfl⟩;obtain⟨q2,hq2⟩:∃q2,(FC ks (w3++w4) q1).2=q2:=⟨_,rfl⟩;rw[haa]at ha hap1;rw[hq2]at hap1;have hn13:=CH G q 13 (by decide);rw[hdd,hq1]at hn13;rw[hdd]at hd13;refine RG ?_;refine WO ?_;refine AOps.g_callf ?_;refine AOps.o2 (h:=(hn13 ..)) (k:=?_);refine WO ?_;refine AOps.g_callv ?_;refine AOps.q0 (h:=(hap1 ..)) (k:=?_);refine KO ?_;refine Ai λO=>?_;refine WO ?_;refine NL ?_
    refine R1 ?_;refine Bl (λb:Arg×List Int=>if C4 d then MB ks (w3++w4) b.1 else b.1=Fh) (λb=>⟨[(3,.fp [Ae false false ks]),(4,.fp [.ptr G 0 0]),(6,.ptr R 0 0),(7,.ptr X 0 0),(10,.fn 97 [.fp [.ptr G 0 0],.fp [AQ false (w3++w4)],.fp [Ae false false ks]]),(11,.ptr O 0 0),(82,iA c),(83,iA j)],(O,.row 155 11 [opA ⟨d,⟨0,0⟩,a,b.1⟩])::(A,.row 155 11 M)::(X,.row 80 7 [.agg [sA (EG n),AQ false w1,AQ false w2,AQ false w3,AQ false w4,.sl A 0 m,.lst false 85 2 (sp.map (AH false))]])::(R,SF)::(G,Bc b.2)::Sf⟩) ?_ ?_
    ·refine AWP.cond rfl (λhg=>?_) (λhg=>?_)
     ·have htw:C4 d=true:=by
       unfold C4;simp only[Bool.or_eq_true,Bool.and_eq_true,AD]at hg⊢;omega
      have hap2:=hap q2;have ha2:=hao q2;refine KK ?_;refine AOps.g_callv ?_;refine AOps.q0 (h:=(hap2 ..)) (k:=?_);refine KK ?_;exact jn ((FC ks (w3++w4) q2).1,(FC ks (w3++w4) q2).2) (by rw[if_pos htw];exact ha2)
     ·have htw:C4 d=false:=by
       unfold C4;simp only[Bool.or_eq_false_iff,Bool.and_eq_false_iff,AL]at hg⊢;omega
      refine WK ?_;exact jn (Fh,q2) (by rw[htw];rfl)
    ·rintro⟨b,q3⟩ hb
     dsimp only at hb⊢;refine T4 (λb:Op×List Comp×List Int=>OpOK ks w3 w4 b.1/\(b.2.1=[]\/∃q,b.2.1=(Cc ks q).1)) (λb=>⟨[(3,.fp [Ae false false ks]),(4,.fp [.ptr G 0 0]),(6,.ptr R 0 0),(7,.ptr X 0 0),(10,.fn 97 [.fp [.ptr G 0 0],.fp [AQ false (w3++w4)],.fp [Ae false false ks]]),(11,.ptr O 0 0),(82,iA c),(83,iA j)],(O,.row 155 11 [opA b.1])::(A,.row 155 11 M)::(X,.row 80 7 [.agg [sA (EG n),AQ false w1,AQ false w2,AQ false w3,AQ false w4,.sl A 0 m,.lst false 85 2 (b.2.1.map (AH false))]])::(R,SF)::(G,Bc b.2.2)::Sf⟩) ?_ ?_
     ·refine KK ?_
      refine AWP.cond rfl (λhg=>?_) (λhg=>?_)
      ·have hap3:=hap q3
       have ha3:=hao q3;refine RU ?_;refine KR ?_;refine RGo.g_callv ?_;refine RGo.q0 (h:=(hap3 ..)) (k:=?_);refine RK ?_;refine RK ?_;refine RGo.nil (by kernel_rfl) ?_;refine WK ?_;exact jn (⟨12,⟨0,0⟩,a,(FC ks (w3++w4) q3).1⟩,sp,(FC ks (w3++w4) q3).2) ⟨⟨by dsimp only;omega,by dsimp only;omega,ha,ha3,λh=>by dsimp only at h;omega,λh=>by dsimp only at h;omega,λ_=>rfl⟩,hsp⟩
      ·have hg':¬(d<=7/\w4.length=0):=by
        simp only[Bool.and_eq_false_iff,AL,AB]at hg;omega
       refine KK ?_;refine AWP.cond rfl (λhs=>?_) (λhs=>?_)
       ·have hs:d<=7:=by simpa using hs
        have hw0:0<w4.length:=by omega
        have hv:=Af q3 (n:=w4.length) (by omega);obtain⟨i,hi⟩:∃i:Nat,Al q3 w4.length=i:=⟨(Al q3 w4.length).toNat,by omega⟩;have hil:i<w4.length:=by omega
        obtain⟨k,hk4⟩:∃k:Nat,w4[i]=k:=⟨w4[i].toNat,by have:=hr4 _ (AY hil);omega⟩;have hkl:k<ks.length:=by have:=hr4 _ (AY hil);omega
        have hkm:(k:Int)∈w4:=by rw[<-hk4];exact AY hil
        have hkf:=(hk.2 _ (AY hkl)).1;have hfd:=Mi (ks:=ks) (i:=k) rfl hkl;have hfp:0<ks[k].fields.length:=List.length_pos_iff.2 (hf _ (AY hkl))
        have hon:PO Tryz.prog 38 [.ptr G 0 0,iA (w4.map iA).length] G (Bc q3) (iA i) (Bc (Ad q3 w4.length)):=by
         have:=CH G q3 w4.length (by omega);rw[hi]at this;rw[AB];exact this
        have hon2:=CH G (Ad q3 w4.length) (ks[k].fields.map fieldA).length (by rw[AB];omega);have hv2:=Af (Ad q3 w4.length) (n:=(ks[k].fields.map fieldA).length) (by rw[AB];omega);refine RU ?_;refine KR ?_;refine RGo.g_callf ?_;refine RGo.o2 (h:=(hon ..)) (k:=?_);(iterate 3 refine RK ?_);refine RGo.nil (by kernel_rfl) ?_;rw[hk4];refine RU ?_;refine KR ?_;refine RGo.g_callf ?_;refine RGo.o2 (h:=(hon2 ..)) (k:=?_);(iterate 3 refine RK ?_);refine RGo.nil (by kernel_rfl) ?_;refine WK ?_;refine jn (⟨d,⟨k,Al (Ad q3 w4.length) (ks[k].fields.map fieldA).length⟩,a,b⟩,sp,_) ⟨⟨by dsimp only;omega,by dsimp only;omega,ha,hb,λ_=>⟨⟨by dsimp only;omega,by dsimp only;omega,hv2.1,by dsimp only;rw[hfd];exact hv2.2⟩,hkm⟩,λh=>by dsimp only at h;omega,λh=>by dsimp only at h;omega⟩,hsp⟩
       ·have hs:¬d<=7:=by simpa using hs
        refine KK ?_;refine AWP.cond rfl (λhu=>?_) (λhu=>?_)
        ·have hu:d=8\/d=9:=by simpa using hu
         have hon:=CH G q3 (ks.map (Av false)).length (by rw[AB];omega);have hv:=Af q3 (n:=(ks.map (Av false)).length) (by rw[AB];omega);have hv2:=hv.2;rw[AB]at hv2;refine KK ?_;refine AOps.g_callf ?_;refine AOps.o2 (h:=(hon ..)) (k:=?_);refine KK ?_;refine jn (⟨d,⟨Al q3 (ks.map (Av false)).length,0⟩,a,b⟩,sp,_) ⟨⟨by dsimp only;omega,by dsimp only;omega,ha,hb,λh=>by dsimp only at h;omega,λ_=>⟨hv.1,by dsimp only;rw[AB];exact hv2,rfl⟩,λh=>by dsimp only at h;omega⟩,hsp⟩
        ·have hu:¬(d=8\/d=9):=by simpa using hu
         refine KK ?_;refine AWP.cond rfl (λhx=>?_) (λhx=>?_)
         ·have hcp:=OA G ks q3 hk
          refine KK ?_;refine AOps.g_callf ?_;refine AOps.o2 (h:=(hcp ..)) (k:=?_);refine KK ?_;refine jn (⟨d,⟨0,0⟩,a,b⟩,(Cc ks q3).1,(Cc ks q3).2) ⟨⟨by dsimp only;omega,by dsimp only;omega,ha,hb,λh=>by dsimp only at h;omega,λh=>by dsimp only at h;omega,λ_=>rfl⟩,.inr ⟨q3,rfl⟩⟩
         ·refine KK ?_
          refine jn (⟨d,⟨0,0⟩,a,b⟩,sp,q3) ⟨⟨by dsimp only;omega,by dsimp only;omega,ha,hb,λh=>by dsimp only at h;omega,λh=>by dsimp only at h;omega,λ_=>rfl⟩,hsp⟩
     ·rintro⟨o,sp',q4⟩ ⟨ho,hsp'⟩
      dsimp only at ho hsp'⊢;have hm1:m+1<=1099511627776:=by omega
      (iterate 4 refine WK ?_);refine AOps.g_lit ?_;refine AOps.goL (opA o) ?_;refine WK ?_;refine Ay λY=>?_;refine KK ?_
      refine Ab (⟨j+1,Y,m+1,M++[opA o],sp',q4⟩:Sys2) ⟨hjc,⟨ops++[o],by dsimp only;rw[hM,List.map_append];rfl,λo' ho'=>?_⟩,by dsimp only;rw[AI,hm];rfl,by dsimp only;omega,hsp'⟩ (by dsimp only;omega);rcases List.mem_append.1 ho' with h|h
      ·exact hO o' h
      ·rw[List.mem_singleton.1 h];exact ho
   ·have hjc:j=c:=by rw[AL]at hd;omega
    subst hjc;have fM:AV.frzs M=ops.map opA:=by rw[hM];exact Frzs.h
    refine FL ?_;refine AWP.iceX A (ops.map opA) fM (.cons (.agg (.cons .same (.cons .same (.cons .same (.cons .same (.cons .same (.cons (.base .sl) (.cons .same .nil)))))))) .nil) ?_;refine KK ?_;refine RT ?_;have hlen:ops.length<=5:=by rw[hM,AB]at hm;omega
    exact⟨[CE false ⟨EG n,w1,w2,w3,w4,ops,sp⟩],[CE false ⟨EG n,w1,w2,w3,w4,ops,sp⟩],_,[(G,Bc q)],.cons (.cell rfl (by exact At.f) TAg.h TSize.h rfl rfl) rfl .nil,Kv _ _,by exact Sub.f,(⟨EG n,w1,w2,w3,w4,ops,sp⟩,q),⟨rfl,hL,hne,hlen,hO,hsp⟩,rfl,rfl⟩
def WY:Arg:=⟨true,0,⟨0,0⟩⟩
def olderS:Sys:=⟨[111,108,100,101,114],[0],[],[],[0],[⟨1,⟨0,0⟩,WY,⟨false,1,⟨0,0⟩⟩⟩,⟨12,⟨0,0⟩,⟨false,1,⟨0,0⟩⟩,WY⟩],[]⟩
theorem SV:PS Tryz.prog 35 [] (CE false olderS):=by
 refine Sp (nt:=13) (res:=[.cell 0 80]) Tryz.func35 λSf=>?_
 refine RG ?_;refine WO ?_;refine Ai λR=>?_;refine NL ?_
 refine KK ?_;refine Ai λX=>?_;refine KK ?_
 refine AWP.nilIn 3 1 (Y:=R) (.cons (.agg (.cons .same (.cons .same (.cons (.base .nil) (.cons (.base .nil) (.cons .same (.cons .same (.cons .same .nil)))))))) .nil) ?_;refine AWP.nilIn 85 2 (Y:=R) (.cons (.agg (.cons .same (.cons .same (.cons .same (.cons .same (.cons .same (.cons .same (.cons (.base .nil) .nil)))))))) .nil) ?_;refine RT ?_;exact GF (rs:=[CE false olderS]) rfl (.cons (.cell rfl (by exact At.f) TAg.h TSize.h rfl rfl) rfl .nil)
theorem Nx(l:List Int):0<(DB l).kinds.length/\(DB l).kinds.length<=4:=⟨Hw l,(KF l).1⟩
theorem QV{ks:List Kind}{rd wr:List Int}{a:Arg}(h:MB ks (rd++wr) a):ArgG ks rd wr a:=by
 refine⟨λe=>?_,λe=>?_⟩
 ·obtain⟨h1,h2,h3⟩:=h.1 e
  refine⟨h1,h2,?_⟩;rw[CT]at h3;rcases h3 with h3|h3
  ·exact .inl (by simpa using h3)
  ·exact .inr (by simpa using h3)
 ·obtain⟨h1,h2,h3⟩:=h.2 e
  exact⟨by omega,by omega,h3⟩
theorem ST{ks:List Kind}{rd wr:List Int}{o:Op}(h:OpOK ks rd wr o):OpG ks rd wr o:=by
 refine⟨h.lo,h.hi,QV h.a,?_,?_,?_,h.puts,h.none⟩
 ·have hb:=h.b
  split at hb
  ·exact QV hb
  ·rw[hb]
   exact⟨λe=>(by cases e),λ_=>⟨by decide,by decide,rfl⟩⟩
 ·intro e
  have hb:=h.b;rw[if_neg (by rw[e];decide)]at hb;exact hb
 ·intro e
  have:o.act<=7:=by unfold DS at e;simp at e;exact e.2
  obtain⟨h1,h2⟩:=h.sets this;exact⟨h1,by simpa using h2⟩
theorem Np:∀(l:List Int) (a n:Int),l.Pairwise (· < ·)->(∀x∈l,a<=x/\x<n)->a<=n->(l.length:Int)<=n-a
 |[],a,n,_,_,h=>by simp;omega
 |x::l,a,n,hp,hr,h=>by
  obtain⟨h1,h2⟩:=List.pairwise_cons.1 hp;obtain⟨h3,h4⟩:=hr x (by simp)
  have:=Np l (x+1) n h2 (λy hy=>by
   have e1:=h1 y hy;have e2:=(hr y (by simp[hy])).2;omega) (by omega)
  rw[BU];omega
theorem UG{ks:List Kind}{n:Nat}{s:Sys}(hk:Az ks=0)(hg:KsGood ks)(hn:n<6)(h:SysOK ks n s):SysG ks s:=by
 have h16:=(Bk hk).1;have hl:=h.lists
 have hin:∀l:List Int,l.Pairwise (· < ·)->(∀x∈l,0<=x/\x<(ks.length:Int))->l.length<=16:=λl h1 h2=>by
  have:=Np l 0 ks.length h1 h2 (by omega);omega
 have r3:∀x∈s.reads,0<=x/\x<(ks.length:Int):=λx hx=>hl.r1 x (hl.s3 x hx)
 have r4:∀x∈s.writes,0<=x/\x<(ks.length:Int):=λx hx=>hl.r1 x (hl.s4 x hx)
 have hsp:(CG ks s.spawn).2=0/\s.spawn.length<=1099511627776:=by
  rcases h.spawn with e|⟨q,e⟩
  ·rw[e];exact⟨by rw[IE hk (by rfl)],by simp⟩
  ·rw[e]
   have hh:=G9 hg q;have:=(Db hk hh).1;exact⟨by rw[IE hk hh],by omega⟩
 refine⟨?_,by have:=h.len;omega,?_,?_,?_,hsp.1,hsp.2,λo ho=>ST (h.ops o ho)⟩
 ·rw[h.name]
  rcases(show n=0\/n=1\/n=2\/n=3\/n=4\/n=5 by omega)with rfl|rfl|rfl|rfl|rfl|rfl<;>decide
 ·intro l hl'
  simp only[BQ,List.not_mem_nil,or_false]at hl';rcases hl' with rfl|rfl|rfl|rfl
  ·exact⟨hl.o1,hl.r1,hin _ hl.o1 hl.r1⟩
  ·exact⟨hl.o2,hl.r2,hin _ hl.o2 hl.r2⟩
  ·exact⟨hl.o3,r3,hin _ hl.o3 r3⟩
  ·exact⟨hl.o4,r4,hin _ hl.o4 r4⟩
 ·rw[List.any_eq_false]
  intro x hx;have:=hl.d x hx;simpa using this
 ·rw[List.any_eq_false]
  intro x hx;rw[CT]at hx;have:x∈s.wth:=by exact hx.elim (hl.s3 x) (hl.s4 x)
  simpa using this
theorem O6:∀o∈olderS.ops,OpOK baseWd.kinds olderS.reads olderS.writes o:=by
 intro o ho;simp only[olderS,BQ,List.not_mem_nil,or_false]at ho;rcases ho with rfl|rfl
 ·refine⟨by decide,by decide,⟨λ_=>⟨rfl,by unfold H9;decide,by decide⟩,λe=>(by cases e)⟩,?_,λ_=>⟨by unfold H9;decide,by decide⟩,λe=>?_,λe=>?_⟩
  ·rw[if_pos (by decide)]
   exact⟨λe=>(by cases e),λ_=>⟨by decide,by decide,rfl⟩⟩
  ·rcases e with e|e<;>simp at e
  ·simp at e
 ·refine⟨by decide,by decide,⟨λe=>(by cases e),λ_=>⟨by decide,by decide,rfl⟩⟩,?_,λe=>?_,λe=>?_,λe=>rfl⟩
  ·rw[if_pos (by decide)]
   exact⟨λ_=>⟨rfl,by unfold H9;decide,by decide⟩,λe=>(by cases e)⟩
  ·simp at e
  ·rcases e with e|e<;>simp at e
theorem O4:SysG baseWd.kinds olderS:=by
 refine⟨by decide,by decide,by decide,by decide,by decide,by decide,by decide,λo ho=>ST (O6 o ho)⟩
theorem Uz:WdOK baseWd:=(BG _).1 (by decide)
def SyssOK(ks:List Kind)(l:List Sys):Prop:=l.length<=5/\∀i (h:i<l.length),SysOK ks i l[i]
theorem Oi(ks:List Kind)(l:List Int)(hk:GE ks)(hf:∀k∈ks,k.fields≠[])(h0:ks≠[]):Spec Tryz.prog 24 [Ae false false ks,AQ false l] [] λr S'=>∃b:List Sys,SyssOK ks b/\r=Hg true b/\S'=[]:=by
 refine Sp (nt:=25) (res:=[.tmp 4]) Tryz.func24 λSf=>?_
 have h6:=Af l (n:=6) (by decide);obtain⟨c,hc⟩:∃c:Nat,Al l 6=c:=⟨(Al l 6).toNat,by omega⟩;obtain⟨q0,hq0⟩:∃q0,Ad l 6=q0:=⟨_,rfl⟩;refine KK ?_;refine Ai λG=>?_;refine KK ?_;refine AOps.g_callf ?_;refine AOps.o2 (h:=(CH G _ _ (by decide))) (k:=?_);refine KK ?_
 rw[hc,hq0];refine AWP.adopt (d:=6) 80 7 rfl λK=>?_
 refine Mv (λ(i K m:Nat) (M:List AV) (q:List Int)=>⟨[(0,Ae false false ks),(5,.ptr G 0 0),(6,.sl K 0 m),(12,iA c),(13,iA i)],(K,.row 80 7 M)::(G,Bc q)::Sf⟩) (λi _ m M _=>i<=c/\m=i/\∃b:List Sys,M=b.map (CE false)/\b.length=i/\∀j (h:j<b.length),SysOK ks j b[j]) (λi _ _ _ _=>c-i) 0 K 0 [] q0 ⟨Nat.zero_le _,rfl,[],rfl,rfl,λj h=>absurd h (by simp)⟩ ?_;rintro i K m M q ⟨hi,hm,b,hM,hb,hO⟩;refine KK ?_;refine AWP.cond rfl (λhd=>?_) (λhd=>?_)
 ·have h:i<c:=by rw[AD]at hd;omega
  have hs:=Qs G ks q i hk hf h0 (by omega);have hm1:m+1<=1099511627776:=by omega
  have hml:m=M.length:=by rw[hM,AB,hb,hm]
  refine R1 ?_;refine AWP.region ?_;refine AOps.go ?_;refine AOps.go ?_;refine AOps.go ?_;refine AOps.go ?_;refine T6 (h:=hs) λs hsO=>?_
  refine AOps.g_lit ?_;refine AOps.goL (CE false s.1) ?_;refine WK ?_;refine Ay λY=>?_;refine KK ?_
  refine Hs (i+1) Y (m+1) (M++[CE false s.1]) s.2 ⟨h,by rw[hm],b++[s.1],by rw[hM,List.map_append];rfl,by rw[AI,hb];rfl,λj hj=>?_⟩;rw[AI]at hj;by_cases hjb:j<b.length
  ·rw[List.getElem_append_left hjb];exact hO j hjb
  ·have:j=b.length:=by simp at hj;omega
   subst this;rw[List.getElem_append_right (Nat.le_refl _)];simp only[Nat.sub_self,List.getElem_cons_zero];rw[hb];exact hsO
 ·have h:i=c:=by rw[AL]at hd;omega
  subst h;refine KK ?_;refine RT ?_;subst hM;have hml:m=(b.map (CE false)).length:=by rw[AB,hb,hm]
  exact⟨[.sl K 0 m],[Hg true b],_,[],.cons (.tmp rfl) rfl .nil,.cons (.cell (.sl (p:=0) .here hml)) .nil,by exact Sub.f,b,⟨by omega,hO⟩,rfl,rfl⟩
theorem JB(l:List Int):(DB l).kinds≠[]/\∀k∈(DB l).kinds,k.fields≠[]:=by
 have hp:=Hw l;refine⟨λe=>?_,?_⟩
 ·have e':(Ap l).1=[]:=e
  rw[e']at hp;simp at hp
 ·show∀k∈(Ap l).1,k.fields≠[]
  rw[EQ];intro k hk
  have:∀i q,∀k∈(kAt i q).1,k.fields≠[]:=by
   intro i q
   induction i with
   |zero=>intro k hk;cases hk
   |succ i ih=>
    intro k hk;rcases List.mem_append.1 hk with hk|hk
    ·exact ih k hk
    ·rw[List.mem_singleton.1 hk]
     show(Ba 0 (1+Al (kAt i q).2 3).toNat (Ad (kAt i q).2 3)).1≠[]
     have h3:=Af (kAt i q).2 (n:=3) (by decide);rw[F4];intro e;have:=congrArg List.length e;rw[QN]at this;simp at this;omega
  exact this _ _ k hk
theorem SW:TickG baseWd [olderS]:=⟨Uz,by decide,λs hs=>(List.mem_singleton.1 hs).symm▸O4,by decide⟩
theorem O5:Nv (Er [olderS] 0 baseWd 0 3).1 ⟨0,0⟩ 0=([12],0):=by kernel_rfl
theorem Q0:PS Tryz.prog 23 [] (bA true):=by
 have hb:=Uy;have ho:=SV;have hp:=NA baseWd [olderS] 0 0 3 SW (by decide) (by decide);have hl:=IM [olderS] 0 3 baseWd 0;have hg:=O5;have hw:=(Ks (seed:=0) 3 baseWd 0 SW).1.ok.wl;obtain⟨⟨v,ds⟩,hq⟩:∃q,Er [olderS] 0 baseWd 0 3=q:=⟨_,rfl⟩;rw[hq]at hp hl hg hw;dsimp only at hp hl hg hw;have hgt:=Vn v ⟨0,0⟩ 0 hw;rw[hg]at hgt;have he:=Rb [12] [12] (by decide);rw[Ah rfl]at he;have hdm:(ds.map uA).length=3:=by rw[AB,hl]
 refine Sp (nt:=34) (res:=[.tmp 0]) Tryz.func23 λSf=>?_
 refine R1 ?_;refine FL ?_;refine RG ?_;refine AOps.g_callf ?_;refine M0 (h:=(hb ..)) (k:=?_);refine AOps.g_callf ?_;refine M0 (h:=(ho ..)) (k:=?_);refine WO ?_;refine AOps.g_callf ?_;refine Qc (h:=(hp ..)) (k:=?_);refine KO ?_;refine Ai λV=>?_;refine KO ?_;refine NL ?_
 refine FL ?_;refine R1 ?_;refine AA rfl (by rw[hdm];rfl) ?_;refine FL ?_;refine RG ?_;refine KO ?_;refine AOps.g_callf ?_;refine FJ (h:=(hgt ..)) (k:=?_);refine KO ?_;refine NL ?_;refine FL ?_;refine RG ?_;refine KO ?_;refine AOps.g_callf ?_;refine AOps.c2 (h:=(he ..)) (k:=?_);refine KO ?_;refine NL ?_;refine RT ?_;refine AN ?_;rfl
theorem SyssOK.gs{w:Wd}{b:List Sys}(hw:WdOK w)(hg:KsGood w.kinds)(h4:w.kinds.length<=4)(h:SyssOK w.kinds b):TickG w b:=
 ⟨hw,by omega,λs hs=>by
  obtain⟨i,hi,rfl⟩:=List.getElem_of_mem hs;have:=h.1;exact UG hw.ks hg (by omega) (h.2 i hi),by have:=h.1;omega⟩
theorem Uu(ks:List Kind)(s:Sys)(index:Int)(e:Ent)(o:Op)(c:List Comp)(r:UInt64×UInt64)(cm:List Cmd)(ev:List Evt):
  doM ks s index e o ⟨c,r,cm,ev⟩=⟨(doM ks s index e o ⟨c,r,[],[]⟩).comps,(doM ks s index e o ⟨c,r,[],[]⟩).r,cm++(doM ks s index e o ⟨c,r,[],[]⟩).cmds,ev++(doM ks s index e o ⟨c,r,[],[]⟩).evs⟩:=by
 unfold doM;dsimp only;split
 ·simp
 ·split
  ·simp
  ·split<;>simp
theorem Hq(ks:List Kind)(s:Sys)(index:Int)(e:Ent):∀(os:List Op) (c:List Comp) (r:UInt64×UInt64) (cm:List Cmd) (ev:List Evt),
  DP ks s index e os ⟨c,r,cm,ev⟩=⟨(DP ks s index e os ⟨c,r,[],[]⟩).comps,(DP ks s index e os ⟨c,r,[],[]⟩).r,cm++(DP ks s index e os ⟨c,r,[],[]⟩).cmds,ev++(DP ks s index e os ⟨c,r,[],[]⟩).evs⟩
 |[],c,r,cm,ev=>by simp[DP]
 |o::os,c,r,cm,ev=>by
  have h1:DP ks s index e (o::os) ⟨c,r,cm,ev⟩=DP ks s index e os (doM ks s index e o ⟨c,r,cm,ev⟩):=rfl;have h2:DP ks s index e (o::os) ⟨c,r,[],[]⟩=DP ks s index e os (doM ks s index e o ⟨c,r,[],[]⟩):=rfl;rw[h1,h2,Uu];obtain⟨⟨c',r',cm',ev'⟩,hd⟩:∃x,doM ks s index e o ⟨c,r,[],[]⟩=x:=⟨_,rfl⟩;rw[hd];dsimp only;rw[Hq ks s index e os c' r' (cm++cm'),Hq ks s index e os c' r' cm'];simp
theorem TQ(ks:List Kind)(s:Sys)(index:Int)(e:Ent)(o:Op)(c:List Comp)(r:UInt64×UInt64):(∀x∈(doM ks s index e o ⟨c,r,[],[]⟩).cmds,x.act=3\/x.ent=e)/\∀x∈(doM ks s index e o ⟨c,r,[],[]⟩).evs,x.ent=e:=by
 unfold doM;dsimp only;split
 ·simp
 ·split
  ·simp
  ·split
   ·simp
   ·refine⟨λx hx=>?_,by simp⟩
    simp only[BA,BN]at hx;subst hx;split
    ·exact .inr rfl
    ·split
     ·exact .inr rfl
     ·split
      ·exact .inr rfl
      ·exact .inl rfl
theorem LX(ks:List Kind)(s:Sys)(index:Int)(e:Ent):∀(os:List Op) (c:List Comp) (r:UInt64×UInt64),(∀x∈(DP ks s index e os ⟨c,r,[],[]⟩).cmds,x.act=3\/x.ent=e)/\∀x∈(DP ks s index e os ⟨c,r,[],[]⟩).evs,x.ent=e
 |[],c,r=>by simp[DP]
 |o::os,c,r=>by
  have h2:DP ks s index e (o::os) ⟨c,r,[],[]⟩=DP ks s index e os (doM ks s index e o ⟨c,r,[],[]⟩):=rfl;obtain⟨d1,d2⟩:=TQ ks s index e o c r;rw[h2];obtain⟨⟨c',r',cm',ev'⟩,hd⟩:∃x,doM ks s index e o ⟨c,r,[],[]⟩=x:=⟨_,rfl⟩;rw[hd]at d1 d2⊢;rw[Hq];obtain⟨i1,i2⟩:=LX ks s index e os c' r';refine⟨λx hx=>?_,λx hx=>?_⟩
  ·rcases List.mem_append.1 hx with hx|hx
   ·exact d1 x hx
   ·exact i1 x hx
  ·rcases List.mem_append.1 hx with hx|hx
   ·exact d2 x hx
   ·exact i2 x hx
abbrev K1(ks:List Kind)(s:Sys)(index seed tick:Int)(x:Item):Rn:=Dc ks s index seed tick x [] []
theorem TI(ks:List Kind)(s:Sys)(index seed tick:Int)(x:Item)(cm:List Cmd)(ev:List Evt):(Dc ks s index seed tick x cm ev).comps=(K1 ks s index seed tick x).comps/\(Dc ks s index seed tick x cm ev).cmds=cm++(K1 ks s index seed tick x).cmds/\(Dc ks s index seed tick x cm ev).evs=ev++(K1 ks s index seed tick x).evs:=by
 unfold K1 Dc;rw[Hq];exact⟨rfl,rfl,rfl⟩
theorem Q4(ks:List Kind)(s:Sys)(index seed tick:Int)(x:Item):(∀c∈(K1 ks s index seed tick x).cmds,c.act=3\/c.ent=x.ent)/\∀v∈(K1 ks s index seed tick x).evs,v.ent=x.ent:=LX ks s index x.ent s.ops _ _
theorem Ir(ks:List Kind)(s:Sys)(index seed tick:Int):∀(qs:List (Nat×Item)) (b:List Item×List Cmd×List Evt),EO ks s index seed tick qs b=
  (qs.foldl (λits q=>its.set q.1 ⟨q.2.ent,(K1 ks s index seed tick q.2).comps⟩) b.1,b.2.1++(qs.map (·.2)).flatMap (λx=>(K1 ks s index seed tick x).cmds),b.2.2++(qs.map (·.2)).flatMap (λx=>(K1 ks s index seed tick x).evs))
 |[],b=>by simp[EO]
 |q::qs,b=>by
  obtain⟨h1,h2,h3⟩:=TI ks s index seed tick q.2 b.2.1 b.2.2;show EO ks s index seed tick qs (b.1.set q.1 ⟨q.2.ent,(Dc ks s index seed tick q.2 b.2.1 b.2.2).comps⟩,(Dc ks s index seed tick q.2 b.2.1 b.2.2).cmds,(Dc ks s index seed tick q.2 b.2.1 b.2.2).evs)=_
  rw[Ir ks s index seed tick qs,h1,h2,h3];simp
theorem I2(l:List Item)(wth wout:List Int):∀i,i<=l.length->(Dm l wth wout i).map (·.2)=(l.take i).filter λx=>DJ x wth wout
 |0,_=>by simp[Dm]
 |i+1,h=>by
  have hi:i<l.length:=by omega
  rw[List.take_succ_eq_append_getElem hi,List.filter_append,<-I2 l wth wout i (by omega)];cases hm:DJ l[i] wth wout with
  |true=>rw[L3 hi hm];simp[hm]
  |false=>rw[OJ hi hm];simp[hm]
theorem OL(l:List Item)(wth wout:List Int):(Dn l wth wout).map (·.2)=l.filter λx=>DJ x wth wout:=by
 unfold Dn;rw[I2 l wth wout _ (Nat.le_refl _),List.take_length]
theorem SK(w:Wd)(s:Sys)(index seed tick:Int):(Fr w s index seed tick).2.2=(w.items.filter λx=>DJ x s.wth s.wout).flatMap λx=>(K1 w.kinds s index seed tick x).evs:=by
 unfold Fr;rw[Ir,OL];rfl
def GLe(a b:List Int):Prop:=∀(i:Nat) (x:Int),a[i]?=some x->∃y,b[i]?=some y/\x<=y
theorem IB(a:List Int):GLe a a:=λi x h=>⟨x,h,Int.le_refl _⟩
theorem GLe.trans'{a b c:List Int}(h:GLe a b)(k:GLe b c):GLe a c:=λi x hx=>by
 obtain⟨y,hy,h1⟩:=h i x hx;obtain⟨z,hz,h2⟩:=k i y hy;exact⟨z,hz,Int.le_trans h1 h2⟩
theorem GLe.len{a b:List Int}(h:GLe a b):a.length<=b.length:=by
 rcases Nat.eq_zero_or_pos a.length with h0|h0
 ·omega
 ·obtain⟨y,hy,_⟩:=h (a.length-1) a[a.length-1] (AG (by omega))
  have:=(List.getElem?_eq_some_iff.1 hy).1;omega
theorem GLe.set{a:List Int}(n:Nat):GLe a (a.set n (a.getD n 0+1)):=λi x h=>by
 by_cases e:n=i
 ·subst e
  have hl:=(List.getElem?_eq_some_iff.1 h).1;refine⟨x+1,?_,by omega⟩;rw[List.getElem?_set_self hl,Bx,h];rfl
 ·exact⟨x,by rw[List.getElem?_set_ne e];exact h,Int.le_refl _⟩
theorem T1{a:List Int}(n:Nat):GLe a (CY a n):=λi x h=>by
 unfold CY;split
 ·exact⟨x,by rw[List.getElem?_append_left (List.getElem?_eq_some_iff.1 h).1];exact h,Int.le_refl _⟩
 ·exact⟨x,h,Int.le_refl _⟩
theorem Rv{w:Wd}(hw:WdOK w){c:Cmd}(hc:(Cg w.kinds c).2=0):GLe w.gens (Ee w c).1.gens:=by
 have hs:∀v e,(e=0->GLe w.gens v.gens)->GLe w.gens (EY w v e).gens:=λv e h=>by
  unfold EY;split
  ·rename_i h1;exact h h1
  ·exact IB _
 have hf:∀e,(CD w.items e<0)\/∃(i:Nat) (it:Item),w.items[i]?=some it/\it.ent=e:=λe=>by
  by_cases hlt:CD w.items e<0
  ·exact .inl hlt
  ·obtain⟨m,hm⟩:∃m:Nat,CD w.items e=m:=⟨(CD w.items e).toNat,by omega⟩
   obtain⟨x,hx,_,rfl⟩:=Ex hm;exact .inr ⟨m,x,hx,rfl⟩
 unfold Ee;unfold Cg at hc;split
 ·rename_i h1
  rw[if_pos h1]at hc;split at hc
  ·rename_i h2
   obtain⟨d,hd⟩:=List.length_eq_one_iff.1 h2;rw[hd]at hc⊢;refine hs _ _ λhe=>?_
   rcases hf c.ent with h|⟨i,it,hi,rfl'⟩
   ·exfalso
    replace he:(Ct w c.ent d).2=0:=he;unfold Ct at he;rw[if_neg (by simp[(BG w).2 hw]),if_pos h]at he;cases he
   ·rw[<-rfl']
    have hfo:=IF hw.ks hc;show GLe w.gens (Ct w it.ent d).1.gens
    rw[NU hw hi hfo];exact IB _
  ·cases hc
 ·rename_i h1
  rw[if_neg h1]at hc;split
  ·rename_i h2
   refine hs _ _ λhe=>?_
   rcases hf c.ent with h|⟨i,it,hi,rfl'⟩
   ·exfalso
    unfold EX at he;rw[if_neg (by simp[(BG w).2 hw]),if_pos h]at he;cases he
   ·rw[<-rfl']at he⊢
    rw[Ie hw hi]at he⊢;split at he
    ·rename_i h3
     rw[if_pos h3];exact IB _
    ·cases he
  ·rename_i h2
   rw[if_neg h2]at hc;split
   ·rename_i h3
    refine hs _ _ λhe=>?_
    rcases hf c.ent with h|⟨i,it,hi,rfl'⟩
    ·exfalso
     unfold Dw at he;rw[if_neg (by simp[(BG w).2 hw]),if_pos h]at he;cases he
    ·rw[<-rfl']at he⊢
     rw[IR hw hi];exact GLe.set _
   ·rename_i h3
    rw[if_neg h3]at hc;split at hc
    ·refine hs _ _ λhe=>?_
     obtain⟨cs,hcs⟩:∃cs,CG w.kinds c.comps=(cs,0):=⟨(CG w.kinds c.comps).1,Prod.ext rfl hc⟩;cases hfr:(Bf w).2 with
     |true=>
      rw[Jb hw hfr hcs];exact T1 _
     |false=>
      exfalso;unfold Cz at he;rw[if_neg (by simp[(BG w).2 hw]),if_neg (by simp[hc]),if_pos hfr]at he;cases he
    ·cases hc
theorem LU:∀{l:List Cmd} {w:Wd},WdOK w->(∀c∈l,(Cg w.kinds c).2=0)->GLe w.gens (DI w l).1.gens
 |[],w,hw,_=>IB _
 |c::l,w,hw,hc=>by
  obtain⟨h1,h2⟩:=Mp hw (hc c (by simp));exact(Rv hw (hc c (by simp))).trans' (LU (l:=l) h1 λd hd=>by rw[h2];exact hc d (by simp[hd]))
theorem TickG.gens{w:Wd}{l:List Sys}(h:TickG w l)(seed tick:Int):GLe w.gens (E4 w l seed tick).1.gens:=by
 obtain⟨k1,k2,k3,_⟩:=Hh (seed:=seed) (tick:=tick) l w 0 h;have ha:=h.all seed tick;have:=LU k1 (l:=(DG seed tick w 0 l).2.1.flatten) λc hc=>by rw[k2];exact(ha c hc).ok
 rw[k3]at this;exact this
theorem P3{seed tick:Int}:∀(l:List Sys) (w:Wd) (i:Nat),∀e∈(DG seed tick w i l).2.2,e.ent∈w.items.map Item.ent
 |[],w,i,e,he=>by cases he
 |s::l,w,i,e,he=>by
  rw[DG]at he;rcases List.mem_append.1 he with he|he
  ·rw[SK]at he
   obtain⟨x,hx,hex⟩:=List.mem_flatMap.1 he;rw[(Q4 w.kinds s i seed tick x).2 e hex];exact List.mem_map.2 ⟨x,(List.mem_filter.1 hx).1,rfl⟩
  ·have:=P3 l _ (i+1) e he
   rwa[show(wdR w s i seed tick).items=(Fr w s i seed tick).1 from rfl,IJ]at this
theorem TickG.ev{w:Wd}{l:List Sys}(h:TickG w l)(seed tick:Int):∀e∈(E4 w l seed tick).2,0<=CD w.items e.ent:=λe he=>by
 have h1:=P3 l w 0 e (List.mem_of_mem_take he);obtain⟨it,hit,hie⟩:=List.mem_map.1 h1;obtain⟨i,hi⟩:=List.getElem?_of_mem hit;rw[<-hie,GY h.ok.so hi];omega
theorem LG(a b:List Kind)(f:FuncId)(cap:List AV)(p:Kind->Kind->Bool)(hs:B4 cap=true)(hl:a.length<=4611686018427387904)(hf:∀x∈a,∀y∈b,PS Tryz.prog f ((Av false) x::(Av false) y::cap) (bA (p x y))):
  PS Tryz.prog 69 [.lst false 133 2 (a.map (Av false)),.lst false 133 2 (b.map (Av false)),.fn f cap] (bA (eqF p a b)):=by
 refine Sp (nt:=32) (res:=[.tmp 6]) Tryz.func69 λSf=>?_
 refine KK ?_;refine AWP.cond rfl (λhb=>?_) (λhb=>?_)
 ·have hb:a.length≠b.length:=by simp at hb;omega
  refine KK ?_;refine RT ?_;refine AN ?_;rw[QP hb]
 ·have hb:a.length=b.length:=by simp at hb;omega
  refine KK ?_;refine BB (λi:Nat=>⟨[(0,.lst false 133 2 (a.map (Av false))),(1,.lst false 133 2 (b.map (Av false))),(2,.fn f cap),(15,.lst false 133 2 (a.map (Av false))),(16,iA (a.map (Av false)).length),(17,iA i)],Sf⟩) (λi=>i<=a.length/\∀j (h:j<a.length),j<i->p a[j] (b[j]'(by omega))=true) (λi=>a.length-i) 0 ⟨Nat.zero_le _,λj h hj=>absurd hj (by omega)⟩ ?_;rintro i ⟨hi,he⟩;refine KK ?_;refine AWP.cond rfl (λhc=>?_) (λhc=>?_)
  ·have h:i<a.length:=by simpa using hc
   have h':i<b.length:=by omega
   refine KK ?_;refine Ai λX=>?_;refine KK ?_;refine Ai λX=>?_;refine KK ?_;refine AOps.g_callv ?_;refine AOps.k2 (h:=(hf _ (AY h) _ (AY h'))) (k:=?_);refine KK ?_
   refine AWP.cond rfl (λhd=>?_) (λhd=>?_)
   ·have hd:p a[i] b[i]=false:=by simpa using hd
    refine KK ?_;refine RT ?_;refine AN ?_;rw[TG hb h hd]
   ·have hd:p a[i] b[i]=true:=by simpa using hd
    refine KK ?_;refine Ab (i+1) ⟨h,λj h1 h2=>?_⟩;by_cases e:j=i
    ·subst e;exact hd
    ·exact he j h1 (by omega)
  ·have h:¬i<a.length:=by simpa using hc
   refine KK ?_;refine RT ?_;refine AN ?_;rw[QO hb λj hj=>he j hj (by omega)]
theorem Rc(a b:List Field)(hl:a.length<=1099511627776):PS Tryz.prog 71 [EH false a,EH false b] (bA (decide (a=b))):=by
 refine Sp (nt:=26) (res:=[.tmp 4]) Tryz.func71 λSf=>?_
 refine KK ?_;refine AWP.cond rfl (λhb=>?_) (λhb=>?_)
 ·have hb:a.length≠b.length:=by simp at hb;omega
  refine KK ?_;refine RT ?_;refine AN ?_;rw[AK λe=>hb (by rw[e])]
 ·have hb:a.length=b.length:=by simp at hb;omega
  refine KK ?_;refine BB (λi:Nat=>⟨[(0,EH false a),(1,EH false b),(12,iA (a.map fieldA).length),(13,iA i)],Sf⟩) (λi=>i<=a.length/\∀j (h:j<a.length),j<i->a[j]=b[j]'(by omega)) (λi=>a.length-i) 0 ⟨Nat.zero_le _,λj h hj=>absurd hj (by omega)⟩ ?_;rintro i ⟨hi,he⟩;refine KK ?_;refine AWP.cond rfl (λhc=>?_) (λhc=>?_)
  ·have h:i<a.length:=by simpa using hc
   have h':i<b.length:=by omega
   obtain⟨f,hf⟩:∃f,a[i]=f:=⟨_,rfl⟩;obtain⟨g,hg⟩:∃g,b[i]=g:=⟨_,rfl⟩;have haf:(a.map fieldA)[i]?=some (fieldA f):=by rw[AF,AG h,hf];rfl
   have hag:(b.map fieldA)[i]?=some (fieldA g):=by rw[AF,AG h',hg];rfl
   refine KK ?_;refine RU ?_;(iterate 8 refine RK ?_);refine RGo.gN ?_;refine RGo.p (W.neP _ _ (by kernel_rfl) (TD f g) rfl rfl) rfl ?_;refine RGo.nil (by kernel_rfl) ?_;refine WK ?_;refine AWP.cond rfl (λhd=>?_) (λhd=>?_)
   ·have hd:f≠g:=by simpa using hd
    refine KK ?_;refine RT ?_;refine AN ?_;rw[AK λe=>hd (by subst e;rw[<-hf,<-hg])]
   ·have hd:f=g:=by simpa using hd
    refine KK ?_;refine Ab (i+1) ⟨h,λj h1 h2=>?_⟩;by_cases e:j=i
    ·subst e;rw[hf,hg,hd]
    ·exact he j h1 (by omega)
  ·have h:¬i<a.length:=by simpa using hc
   refine KK ?_;refine RT ?_;refine AN ?_;rw[Ah (List.ext_getElem hb λj h1 h2=>he j h1 (by omega))]
theorem Vk(x y:Kind):(decide (x.name=y.name)&&decide (x.fields=y.fields))=decide (x=y):=by
 obtain⟨k,v⟩:=x;obtain⟨k',v'⟩:=y;rw[Bool.eq_iff_iff];simp
theorem Je(x y:Kind)(hl:x.fields.length<=1099511627776):PS Tryz.prog 70 [Av false x,Av false y] (bA (decide (x=y))):=by
 have heq:=Rc x.fields y.fields hl;rw[<-Vk];refine Sp (nt:=17) (res:=[.tmp 4]) Tryz.func70 λSf=>?_
 refine RG ?_;refine AOps.g_box ?_;refine Aj ?_;refine AOps.g_box ?_;refine Aj ?_;refine WO ?_;refine NL ?_;rcases Bool.eq_false_or_eq_true (decide (x.name=y.name))with g|g
 ·rw[g]
  refine KK ?_;refine AOps.g_callf ?_;refine AOps.c2 (h:=(heq ..)) (k:=?_);refine KK ?_;refine RT ?_;refine AN ?_;rfl
 ·rw[g]
  refine KK ?_;refine RT ?_;refine AN ?_;rfl
theorem Ky(a b:List Kind)(hl:KsL a):PS Tryz.prog 31 [Ae false false a,Ae false false b] (bA (decide (a=b))):=by
 have h:=LG a b 70 [] (λx y=>decide (x=y)) rfl (by have:=hl.1;omega) (λx hx y _=>Je x y (hl.2 x hx));rw[TH λ_ _ _ _=>rfl]at h;refine Sp (nt:=8) (res:=[.tmp 4]) Tryz.func31 λSf=>?_
 refine KK ?_;refine AOps.g_callf ?_;refine FJ (h:=(h ..)) (k:=?_);refine KK ?_;refine RT ?_;refine AN ?_;rfl
section
open Go.RowKit
def HF(w:World):Mem:=⟨λ_=>none,λ_=>False,w,λb=>b<w.heap.size⟩
theorem Pe(w:World):Good (HF w) (HF w) 0 [] []:=
 ⟨λz hz=>(by cases hz),.nil,λb hb=>(by cases hb),λb h=>h,.nil,λx hx=>(by cases hx),λx h=>h.elim,.refl _,rfl,rfl,rfl,Nat.le_refl _⟩
theorem Good.bel{w:World}{m':Mem}{N:Nat}{Z:Zs}{br:List Nat}(G:Good (HF w) m' N Z br):Below w.heap.size w m'.w:=
 ⟨G.os,G.tape,G.output,G.size,λk hk=>(G.le.F k hk).2⟩
theorem PS.calls_bool{P:Program}{f:FuncId}{args:List AV}{b:Bool}(h:PS P f args (bA b)){w:World}{vals:Array Value}(hv:VTs (HF w) args vals.toList []):
  Calls P f vals w λe w'=>e= .returned (.bool b)/\Below w.heap.size w w':=
 (h.run [] (HF w) 0 [] vals rfl (Pe w) hv).mono λe w' ⟨v,r,S',m',N',Z',br,h1,h2,h3,G,h4,h5,h6⟩=>by
  subst h1 h2 h5;refine⟨?_,G.bel⟩;obtain⟨⟨h7,_⟩,_⟩:=h4;injection h7 with h7
  rw[h7]
theorem Lv{α:Type}{m:Mem}{C:List Value->α->Prop}{sz:Nat}{f:α->AV}(hC:∀c x,C c x->VC m (f x) c []):∀{l:List α} {xs:List Value},Cells C sz xs l->VCs m (l.map f) xs []
 |[],_,h=>⟨h,rfl⟩
 |x::l,_,⟨c,ys,h1,h2,h3,h4⟩=>⟨c,ys,[],[],h1,rfl,hC c x h3,Lv hC h4⟩
theorem Kl{w:World}{b o:Nat}{u:Value}(h:w.cell? ⟨b,o,none⟩=some u):∃arr t r,w.heap[b]?=some (.cells arr t r)/\arr[o]?=some u:=by
 unfold World.cell? at h;cases hb:w.heap[b]? with
 |none=>simp only[hb]at h;cases h
 |some blk=>
  cases blk with
  |cells c t r=>simp only[hb]at h;exact⟨c,t,r,rfl,by simpa using h⟩
  |_=>simp only[hb]at h;cases h
theorem V4{α:Type}{w:World}{C:World->Reg->List Value->α->Prop}{sz:Nat}{f:α->AV}{t:TypeId}{v:Value}{l:List α}(hsz:0<sz)(hC:∀c x,C w (Lt w) c x->VC (HF w) (f x) c [])(hw:∀x,(f x).width=sz)(h:Sl w (Lt w) sz C v l):VC (HF w) (.lst false t sz (l.map f)) [v] []:=by
 obtain⟨xs,⟨h1,A,cap,rfl,hn,hr⟩,hc⟩:=h;refine⟨rfl,A,cap,by simp,by simpa using hn,λe he=>by obtain⟨x,_,rfl⟩:=List.mem_map.1 he;exact hw x,λh0=>?_⟩;have h0:0<l.length:=by simpa using h0
 obtain⟨b,off,rfl,hb,hcell⟩:=hr h0;have hx:0<xs.length:=by rw[h1];exact Nat.mul_pos h0 hsz
 obtain⟨arr,t',r,h2,h3⟩:=Kl (hcell 0 xs[0] (by simp));refine⟨b,off,arr,t',r,rfl,hb,h2,?_⟩
 have e:(arr.toList.drop off).take ((l.map f).length*sz)=xs:=by
  apply List.ext_getElem?;intro j;rw[List.getElem?_take];split
  ·rename_i hj
   have hj:j<xs.length:=by rw[h1];simpa using hj
   obtain⟨arr2,t2,r2,h4,h5⟩:=Kl (hcell j xs[j] (by simp));rw[h2]at h4;injection h4 with h4
   injection h4 with h4
   subst h4;rw[List.getElem?_drop,AG hj];simpa using h5
  ·rename_i hj
   rw[List.getElem?_eq_none];rw[h1];simpa using hj
 rw[e];exact Lv hC hc
theorem Ue{w:World}{v:Value}{l:List Int}(h:Rx w (Lt w) v l):VC (HF w) (AQ false l) [v] []:=
 V4 (f:=iA) (by decide) (λc x hc=>⟨⟨hc,rfl⟩,rfl⟩) (λ_=>rfl) h
theorem UD{m:Mem}:VTs m [] [] []:=⟨rfl,rfl⟩
theorem Pz{m:Mem}{l:List AV}{us:List Value}{x:Int}(k:VTs m l us []):VTs m (iA x::l) (.int .i64 x::us) []:=(Bi rfl).2 ⟨_,_,[],[],rfl,rfl,⟨⟨rfl,rfl⟩,rfl⟩,k⟩
theorem M8{w:World}{v:Value}{z:List Int}{l:List AV}{us:List Value}(h:Rx w (Lt w) v z)(k:VTs (HF w) l us []):VTs (HF w) (AQ false z::l) (v::us) []:=(Bi rfl).2 ⟨_,_,[],[],rfl,rfl,Ue h,k⟩
end
section
open Go.RowKit
theorem MF(l m:List Int)(s a:Int):PS Tryz.prog 7 [AQ false l,AQ false m,iA s,iA a] (bA true):=by
 have hwp:=R5 l;have hok:=Nw l;obtain⟨hk0,hk4⟩:=Nx l;have hko:GE (DB l).kinds:=Fz l;have hkg:KsGood (DB l).kinds:=G7 l;obtain⟨hkn,hkf⟩:=JB l;obtain⟨w,hw⟩:∃w,DB l=w:=⟨_,rfl⟩;rw[hw]at hwp hok hk0 hk4 hko hkg hkn hkf;clear hw;have hsp:=Oi w.kinds m hko hkf hkn;have hb0:SyssOK w.kinds []:=⟨Nat.zero_le _,λi h=>absurd h (Nat.not_lt_zero i)⟩;refine Sp (nt:=90) (res:=[.tmp 8]) Tryz.func7 λSf=>?_
 refine R1 ?_;refine FL ?_;refine RG ?_;refine AOps.g_callf ?_;refine M0 (h:=(Q0 ..)) (k:=?_);refine WO ?_;refine NL ?_;refine AA rfl rfl ?_;refine FL ?_;refine RG ?_;refine WO ?_;refine AOps.g_callf ?_;refine AOps.c1 (h:=(hwp ..)) (k:=?_);refine WO ?_;refine Ai λV1=>?_;refine WO ?_;refine NL ?_
 refine FL ?_;refine AWP.rs λV2=>?_
 refine GL (by kernel_rfl) (by kernel_rfl) ?_;refine RGoE.go ?_;refine RGoE.go ?_;refine RGoE.go ?_;refine RGoE.go ?_;refine Tw [] hb0 hsp ?_;refine RGoB.go ?_;refine RGoB.go ?_;refine EV (n:=7) (h:=λb=>W.callF4 rfl rfl rfl rfl (JT w b.1 s a (b.2.gs hok hkg hk4)) rfl Frz.h) ?_;refine EV (n:=8) ?_;refine EV (n:=9) ?_;refine EV (n:=10) ?_;refine EV (n:=11) ?_;refine RGoB.goR ?_;refine EV (n:=13) ?_;refine EV (n:=14) ?_;refine EV (n:=15) ?_;refine RGoB.nil (λb=>by kernel_rfl) ?_ (λb=>Nat.le_of_ble_eq_true (by kernel_rfl));rintro⟨ss,hss⟩;dsimp only;have hT:=hss.gs hok hkg hk4;obtain⟨hT2,hvk⟩:=hT.tick s a;have hge:=hT.gens s a;have hev:=hT.ev s a
 have hel:(E4 w ss s a).2.length<=256:=by
  show(List.take 256 _).length<=256
  rw[Ag];omega
 obtain⟨⟨v,es⟩,hv⟩:∃x,E4 w ss s a=x:=⟨_,rfl⟩;rw[hv]at hT2 hvk hge hev hel⊢;dsimp only at hT2 hvk hge hev hel⊢;have hgl:=hge.len;have hL:=hT2.ok.wl;have hck:=ED v hL.gens hL.items.1 (λit hit=>(hL.items.2 it hit).1);rw[(BG v).2 hT2.ok]at hck;have hsk:=Ky v.kinds w.kinds hL.ks;rw[Ah hvk]at hsk;have hvm:(v.gens.map iA).length=v.gens.length:=AB _;have hwm:(w.gens.map iA).length=w.gens.length:=AB _;have hem:(es.map C3).length=es.length:=AB _;have hlt:decide (((v.gens.map iA).length:Int)<(w.gens.map iA).length)=false:=AK (by omega);have hgl0:=hok.gl;have hgt:decide (((es.map C3).length:Int)>256)=false:=AK (by omega);refine FL ?_;refine RG ?_;refine KO ?_;refine AOps.g_callf ?_;refine AOps.c1 (h:=(hck ..)) (k:=?_);refine KO ?_;refine AOps.g_callf ?_;refine AOps.c2 (h:=(hsk ..)) (k:=?_);refine KO ?_;refine NL ?_;refine AA rfl (by first|assumption|rfl|exact hgt) ?_;refine FL ?_;refine R1 ?_;refine FL ?_;refine BB (λ(i:Nat)=>⟨[(9,.ptr V1 0 0),(10,.ptr V2 0 0),(11,Ra false es),(63,AQ false w.gens),(64,iA (w.gens.map iA).length),(65,iA i)],(V2,.row 27 3 [wdA false v])::(V1,.row 27 3 [wdA false w])::Sf⟩) (λi=>i<=w.gens.length) (λi=>w.gens.length-i) 0 (Nat.zero_le _) ?_;rintro i hi;refine R1 ?_;refine FL ?_;refine AWP.cond rfl (λhb=>?_) (λhb=>?_)
 ·have hi2:i<w.gens.length:=by rw[AD,hwm]at hb;omega
  obtain⟨x,hx⟩:∃x,w.gens[i]?=some x:=⟨_,AG hi2⟩;obtain⟨y,hy,hxy⟩:=hge i x hx;have hat1:(w.gens.map iA)[i]?=some (iA x):=by rw[AF,hx];rfl
  have hat2:(v.gens.map iA)[i]?=some (iA y):=by rw[AF,hy];rfl
  have hyx:decide (y<x)=false:=AK (by omega);refine FL ?_;refine R1 ?_;refine FL ?_;refine R1 ?_;refine AA rfl hyx ?_;refine FL ?_;refine R1 ?_;exact Ab (i+1) hi2 (by omega)
 ·refine FL ?_
  refine R1 ?_;refine FL ?_;refine BB (λ(i:Nat)=>⟨[(9,.ptr V1 0 0),(78,Ra false es),(79,iA (es.map C3).length),(80,iA i)],(V1,.row 27 3 [wdA false w])::Sf⟩) (λi=>i<=es.length) (λi=>es.length-i) 0 (Nat.zero_le _) ?_;rintro i hi;refine R1 ?_;refine FL ?_;refine AWP.cond rfl (λhb=>?_) (λhb=>?_)
  ·have hi2:i<es.length:=by rw[AD,hem]at hb;omega
   obtain⟨e,he⟩:∃e,es[i]=e:=⟨_,rfl⟩;have hf:=hev e (by rw[<-he];exact AY hi2);have hat:(es.map C3)[i]?=some (C3 e):=by rw[AF,AG hi2,he];rfl
   have hfd:=N2 w e.ent (by have:=hok.il;have:=hok.gl;omega);have hfn:decide (CD w.items e.ent<0)=false:=AK (by omega);refine FL ?_;refine RG ?_;refine KO ?_;refine Ai λE=>?_;refine WO ?_;refine NL ?_
   refine FL ?_;refine RG ?_;refine KO ?_;refine AOps.g_callf ?_;refine AOps.c2 (h:=(hfd ..)) (k:=?_);refine WO ?_;refine NL ?_;refine AA rfl hfn ?_;refine FL ?_;refine R1 ?_;exact Ab (i+1) hi2 (by omega)
  ·refine FL ?_
   refine R1 ?_;refine RT ?_;refine AN ?_;rfl
theorem R4(z0:List Int)(A0:Option Addr)(n0 cap0:Nat)(z1:List Int)(A1:Option Addr)(n1 cap1:Nat)(z2:Int)(z3:Int)(w:World)(h0:Rx w (Lt w) (.slice A0 n0 cap0) z0)(hlen0:z0.length*8<=140737488351232)(h1:Rx w (Lt w) (.slice A1 n1 cap1) z1)(hlen1:z1.length*8<=140737488351232)(hx2:I64 z2)(hx3:I64 z3):
  Calls Tryz.prog 7 #[.slice A0 n0 cap0,.slice A1 n1 cap1,.int .i64 z2,.int .i64 z3] w λe w'=>e= .returned (.bool true)/\Below w.heap.size w w':=
 (MF z0 z1 z2 z3).calls_bool (M8 h0 (M8 h1 (Pz (Pz (UD)))))
end
theorem QF{a:Assume}{C:Checked}{os:Os}{f:FuncId}{r:Reach}{Pre:World->Array Value->Prop}{Post:World->Array Value->Value->World->Prop}(h:ReturnsInHanded a C os f r Pre Post):ReturnsInLeavingWide a C os f r Pre Post:=λe=>by
 obtain⟨a1,a2,a3,a4,k⟩:=h e;refine⟨a1,a2,a3,a4,λw t i hf=>?_⟩;obtain⟨n,v,w',b1,b2,b3,b4,⟨j,last,c1,c2,c3⟩,b5⟩:=k w t i hf;exact⟨n,v,w',b1,b2,b3,b4,⟨j,last,c1,c2,c3.2.1,onlyLeaving_of_quiet c3.1,c3.2.2⟩,b5⟩
end Go.Proofs.YtoohajbhpbjpcaaGreat
