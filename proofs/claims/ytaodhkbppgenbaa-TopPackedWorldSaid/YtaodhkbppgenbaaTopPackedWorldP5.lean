/-
  Part 5 of the texts under the law TopPackedWorld: the layer of abstract values, walks and plain laws. Conditions: those that each theorem names.
-/
import Derived.Sort.AssemblyPlain
import Derived.Below
import Derived.Test.YtaodhkbppgenbaaTopPackedWorldP4
namespace Go.Proofs.Ytaodhkbppgenbaa
set_option linter.unusedVariables false
set_option linter.unusedSimpArgs false
set_option linter.defProp false
set_option maxRecDepth 10000
set_option maxHeartbeats 4000000
set_option maxRecDepth 8000 in
theorem Hx(ks:List Kind)(gens:List Int)(its:List Item)(hil:its.length<=1099511627776)(hcl:∀it∈its,it.comps.length<=1099511627776)(hvl:∀it∈its,∀c∈it.comps,c.vals.length<=1099511627776)(f:FuncId)(cap:List AV)(hst:BN cap=true)(I A B:Nat)(oA oB:Nat->AO)(nv:Nat->Int)(hs:∀it∈its,∀c∈it.comps,CSh ks c)
  (H:∀t fd x,(its.flatMap (fvI ks))[t]?=some (fd,x)->∀V (l:List Int) k,k<l.length->Spec Try.prog f (fieldA fd:: .ptr V k 0::cap) [(V,.row 3 1 (l.map iA)),(A,oA t),(B,oB t)] λr S'=>r=bA true/\S'=[(V,.row 3 1 ((l.set k (nv t)).map iA)),(A,oA (t+1)),(B,oB (t+1))]):
  Spec Try.prog 18 [.agg [AS false false ks,Af false gens,.sl I 0 its.length],.fn f cap] [(I,.row 53 3 (its.map (AH true))),(A,oA 0),(B,oB 0)] λr S'=>r=bA true/\S'=[(I,.row 53 3 ((nvI nv 0 its).map (AH true))),(A,oA (its.flatMap (fvI ks)).length),(B,oB (its.flatMap (fvI ks)).length)]:=by
 have him:(its.map (AH true)).length=its.length:=List.length_map _;obtain⟨FV,hFV⟩:∃FV,its.flatMap (fvI ks)=FV:=⟨_,rfl⟩;obtain⟨TI,hTI⟩:∃TI,nvI nv 0 its=TI:=⟨_,rfl⟩;have hTl:TI.length=its.length:=by rw[<-hTI,GU]
 rw[hFV]at H⊢;rw[hTI];refine AC (nt:=50) (res:=[.tmp 4]) Try.func18 rfl (by kernel_rfl) rfl rfl rfl λSf=>?_
 refine RG ?_;(repeat first|(refine AOps.gN ?_;first|(refine AOps.g_box ?_;refine BG ?_))|refine WO ?_|refine Ai λX=>?_|refine Ay λY=>?_);refine NL ?_;refine FL ?_;refine RG ?_;(repeat first|refine WO ?_|refine Ai λX=>?_|refine Ay λY=>?_);refine NL ?_;rw[show its.map (AH true)=(TI.take 0++its.drop 0).map (AH true) by simp];refine FL ?_;refine A3 (λ(i t:Nat)=>⟨[(1,.fn f cap),(2,.fp [AS false false ks,Af false gens,.sl I 0 its.length]),(11,.sl I 0 its.length),(12,iA (its.length:Nat)),(13,iA (i:Nat))],(I,.row 53 3 ((TI.take i++its.drop i).map (AH true)))::(A,oA t)::(B,oB t)::Sf⟩) (λi t=>i<=its.length/\t<=FV.length/\FV.drop t=(its.drop i).flatMap (fvI ks)/\TI.drop i=nvI nv t (its.drop i)) (λi t=>its.length-i) 0 0 ⟨Nat.zero_le _,Nat.zero_le _,hFV.symm,hTI.symm⟩ ?_;rintro i t ⟨hi,htl,ht,hT⟩;refine RG ?_;(repeat first|refine WO ?_|refine Ai λX=>?_|refine Ay λY=>?_);refine NL ?_;refine FL ?_;refine AWP.cond rfl (λhc=>?_) (λhc=>?_)
 ·have h:i<its.length:=by have:=of_decide_eq_true hc;omega
  have him2:=List.getElem_mem h;obtain⟨it,hit⟩:∃it,its[i]=it:=⟨_,rfl⟩;have hit2:its[i]?=some it:=by rw[List.getElem?_eq_getElem h,hit]
  rw[List.drop_eq_getElem_cons h,hit]at ht hT;rw[List.flatMap_cons]at ht;rw[hit]at him2;have hcl2:=hcl it him2;have hvl2:=hvl it him2;have hsh:=hs it him2;obtain⟨rest,hrest⟩:∃r,(its.drop (i+1)).flatMap (fvI ks)=r:=⟨_,rfl⟩;rw[hrest]at ht;obtain⟨⟨en,eg⟩,cs⟩:=it;dsimp only at hcl2 hvl2 hsh;rw[nvI]at hT;obtain⟨hT1,hT2⟩:=Cd hT;dsimp only at hT1 hT2;obtain⟨M,hM⟩:∃M,(TI.take i++its.drop i).map (AH true)=M:=⟨_,rfl⟩;have hMl:M.length=its.length:=by rw[<-hM,List.length_map,GX hTl hi]
  have hat:M[i]?=some (.agg [iA en,iA eg,.lst true 55 2 (cs.map (AE true))]):=by rw[<-hM,List.getElem?_map,K5 hTl hit2];rfl
  have hMn:M.set i (AH true ⟨⟨en,eg⟩,nvC nv t cs⟩)=(TI.take (i+1)++its.drop (i+1)).map (AH true):=by rw[<-hM,<-List.map_set,GW hTl hT1]
  rw[hM];have hcm:(cs.map (AE true)).length=cs.length:=List.length_map _;refine AWP.thawIn (Y:=I) .here (λC=>DQ hat (.agg (.tail (.tail (.head .here))))) λC=>?_
  rw[hcm];have hat1:(M.set i (.agg [iA en,iA eg,.sl C 0 cs.length]))[i]?=some (.agg [iA en,iA eg,.sl C 0 cs.length]):=List.getElem?_set_self (by omega);have hM1:(M.set i (.agg [iA en,iA eg,.sl C 0 cs.length])).length=its.length:=by rw[List.length_set,hMl]
  have hM2:(M.set i (.agg [iA en,iA eg,.sl C 0 cs.length])).set i (AH true ⟨⟨en,eg⟩,nvC nv t cs⟩)=M.set i (AH true ⟨⟨en,eg⟩,nvC nv t cs⟩):=List.set_set ..;obtain⟨MI,hMI⟩:∃MI,M.set i (.agg [iA en,iA eg,.sl C 0 cs.length])=MI:=⟨_,rfl⟩;rw[hMI]at hat1 hM1 hM2;rw[hMn]at hM2;dsimp only[List.set_cons_zero];rw[hMI];have hi1:i<MI.length:=by omega
  refine FL ?_;refine RG ?_;(repeat first|refine WO ?_|refine Ai λP6=>?_|refine Ay λY=>?_);refine NL ?_;refine FL ?_;refine RG ?_;(repeat first|refine WO ?_|refine Ai λX=>?_|refine Ay λY=>?_);refine NL ?_;obtain⟨TC,hTC⟩:∃TC,nvC nv t cs=TC:=⟨_,rfl⟩;have hTCl:TC.length=cs.length:=by rw[<-hTC,GV]
  have hct:∃t2,t2=t+FH cs:=⟨_,rfl⟩;obtain⟨t2,ht2⟩:=hct;rw[<-ht2]at hT2;rw[hTC]at hM2 hT1;rw[show cs.map (AE true)=(TC.take 0++cs.drop 0).map (AE true) by simp];refine FL ?_;refine A3 (λ(j t:Nat)=>⟨[(1,.fn f cap),(2,.fp [AS false false ks,Af false gens,.sl I 0 its.length]),(11,.sl I 0 its.length),(12,iA (its.length:Nat)),(13,iA (i:Nat)),(18,.sl C 0 cs.length),(19,iA (cs.length:Nat)),(20,iA (j:Nat))],(C,.row 55 2 ((TC.take j++cs.drop j).map (AE true)))::(I,.row 53 3 MI)::(A,oA t)::(B,oB t)::Sf⟩) (λj t=>j<=cs.length/\t<=FV.length/\FV.drop t=(cs.drop j).flatMap (fvC ks)++rest/\TC.drop j=nvC nv t (cs.drop j)/\t+FH (cs.drop j)=t2) (λj t=>cs.length-j) 0 t ⟨Nat.zero_le _,htl,ht,hTC.symm,ht2.symm⟩ ?_;clear ht htl hT hT1 hTC ht2 hMn hM t;rintro j t ⟨hj,htl,ht,hTj,hcn⟩;refine RG ?_;(repeat first|refine WO ?_|refine Ai λX=>?_|refine Ay λY=>?_);refine NL ?_;refine FL ?_;refine AWP.cond rfl (λhd=>?_) (λhd=>?_)
  ·have h2:j<cs.length:=by have:=of_decide_eq_true hd;omega
   have hcm2:=List.getElem_mem h2;obtain⟨c,hcc⟩:∃c,cs[j]=c:=⟨_,rfl⟩;have hcc2:cs[j]?=some c:=by rw[List.getElem?_eq_getElem h2,hcc]
   rw[List.drop_eq_getElem_cons h2,hcc]at ht hTj hcn;rw[List.flatMap_cons,List.append_assoc]at ht;rw[hcc]at hcm2;have hvl3:=hvl2 c hcm2;obtain⟨hck,k,hk,hkf⟩:=hsh c hcm2;rw[Cx hk]at ht;obtain⟨rest2,hrest2⟩:∃r,(cs.drop (j+1)).flatMap (fvC ks)++rest=r:=⟨_,rfl⟩;rw[hrest2]at ht;obtain⟨ck,vs⟩:=c;dsimp only at hck hk hkf hvl3;obtain⟨n,rfl⟩:∃n:Nat,ck=n:=⟨ck.toNat,by omega⟩;have hkat:(ks.map (AU false))[n]?=some (AU false k):=by rw[List.getElem?_map,show ks[n]?=some k from hk];rfl
   have hkn:n<(ks.map (AU false)).length:=(List.getElem?_eq_some_iff.1 hkat).1;rw[nvC]at hTj;obtain⟨hTj1,hTj2⟩:=Cd hTj;dsimp only at hTj1 hTj2;have hcn2:t+vs.length+FH (cs.drop (j+1))=t2:=by rw[<-hcn];simp only[FH,List.map_cons,List.sum_cons];omega
   obtain⟨M,hM⟩:∃M,(TC.take j++cs.drop j).map (AE true)=M:=⟨_,rfl⟩;have hMl:M.length=cs.length:=by rw[<-hM,List.length_map,GX hTCl hj]
   have hat2:M[j]?=some (.agg [iA (n:Nat),.lst true 3 1 (vs.map iA)]):=by rw[<-hM,List.getElem?_map,K5 hTCl hcc2];rfl
   have hMn:M.set j (AE true ⟨n,nvV nv t vs.length⟩)=(TC.take (j+1)++cs.drop (j+1)).map (AE true):=by rw[<-hM,<-List.map_set,GW hTCl hTj1]
   rw[hM];have hvm:(vs.map iA).length=vs.length:=List.length_map _;refine AWP.thawIn (Y:=C) .here (λV=>DQ hat2 (.agg (.tail (.head .here)))) λV=>?_
   rw[hvm];have hat3:(M.set j (.agg [iA (n:Nat),.sl V 0 vs.length]))[j]?=some (.agg [iA (n:Nat),.sl V 0 vs.length]):=List.getElem?_set_self (by omega);have hM3:(M.set j (.agg [iA (n:Nat),.sl V 0 vs.length])).length=cs.length:=by rw[List.length_set,hMl]
   have hM4:(M.set j (.agg [iA (n:Nat),.sl V 0 vs.length])).set j (AE true ⟨n,nvV nv t vs.length⟩)=M.set j (AE true ⟨n,nvV nv t vs.length⟩):=List.set_set ..;obtain⟨MC,hMC⟩:∃MC,M.set j (.agg [iA (n:Nat),.sl V 0 vs.length])=MC:=⟨_,rfl⟩;rw[hMC]at hat3 hM3 hM4;rw[hMn]at hM4;dsimp only[List.set_cons_zero];rw[hMC];have hj1:j<MC.length:=by omega
   refine FL ?_;refine RG ?_;(repeat first|refine WO ?_|refine Ai λP8=>?_|refine Ay λY=>?_);refine NL ?_;refine FL ?_;refine RG ?_;(repeat first|refine WO ?_|refine Ai λX=>?_|refine Ay λY=>?_);refine NL ?_;obtain⟨TV,hTV⟩:∃TV,nvV nv t vs.length=TV:=⟨_,rfl⟩;have hTVl:TV.length=vs.length:=by rw[<-hTV,CZ]
   have hTVa:∀q,q<vs.length->TV[q]?=some (nv (t+q)):=λq hq=>by rw[<-hTV];exact Mx nv t hq
   rw[hTV]at hM4 hTj1;rw[show vs.map iA=(TV.take 0++vs.drop 0).map iA by simp];refine FL ?_;refine Bq (λ(q:Nat)=>⟨[(1,.fn f cap),(2,.fp [AS false false ks,Af false gens,.sl I 0 its.length]),(8,.ptr P8 0 0),(11,.sl I 0 its.length),(12,iA (its.length:Nat)),(13,iA (i:Nat)),(18,.sl C 0 cs.length),(19,iA (cs.length:Nat)),(20,iA (j:Nat)),(26,iA (vs.length:Nat)),(27,iA (q:Nat))],(P8,.row 55 2 [.agg [iA (n:Nat),.sl V 0 vs.length]])::(V,.row 3 1 ((TV.take q++vs.drop q).map iA))::(C,.row 55 2 MC)::(I,.row 53 3 MI)::(A,oA (t+q))::(B,oB (t+q))::Sf⟩) (λq=>q<=vs.length/\t+q<=FV.length/\FV.drop (t+q)=(k.fields.zip vs).drop q++rest2) (λq=>vs.length-q) 0 ⟨Nat.zero_le _,htl,ht⟩ ?_;rintro q ⟨hq,htl,ht⟩;refine RG ?_;(repeat first|refine WO ?_|refine Ai λX=>?_|refine Ay λY=>?_);refine NL ?_;refine FL ?_;refine AWP.cond rfl (λhe=>?_) (λhe=>?_)
   ·have h3:q<vs.length:=by have:=of_decide_eq_true he;omega
    have h4:q<k.fields.length:=by omega
    rw[Gz h4 h3]at ht;obtain⟨ht1,ht2⟩:=Cd ht;have hfat:(k.fields.map fieldA)[q]?=some (fieldA k.fields[q]):=Aj _ h4;obtain⟨fd,hfd⟩:∃x,k.fields[q]=x:=⟨_,rfl⟩;rw[hfd]at hfat ht1;have hml:(TV.take q++vs.drop q).length=vs.length:=GX hTVl hq;have hvl4:((TV.take q++vs.drop q).map iA).length=vs.length:=by rw[List.length_map,hml]
    have hH:=H (t+q) fd _ ht1 V (TV.take q++vs.drop q) q (by omega);rw[GW hTVl (hTVa q h3)]at hH;have ht3:t+q<FV.length:=(List.getElem?_eq_some_iff.1 ht1).1;refine FL ?_;refine RG ?_;(repeat first|refine WO ?_|refine Ai λX=>?_|refine Ay λY=>?_);refine NL ?_;refine FL ?_;refine RU ?_;(repeat first|(refine RGo.gN ?_;first|refine RGo.zc2 (h:=hH) (hT:=.fz) (hs:=hst) (k:=?_))|(refine AX ?_;first|refine RGo.zc2 (h:=hH) (hT:=.fz) (hs:=hst) (k:=?_))|refine RK ?_|refine RGo.nil (by kernel_rfl) ?_);refine AN rfl rfl ?_;refine FL ?_;refine RG ?_;(repeat first|refine WO ?_|refine Ai λX=>?_|refine Ay λY=>?_);refine NL ?_;refine Br (q+1) ⟨by omega,by omega,ht2⟩
   ·have h3:q=vs.length:=by have:=of_decide_eq_false he;omega
    subst h3;have hz:(k.fields.zip vs).drop vs.length=[]:=List.drop_eq_nil_of_le (by rw[List.length_zip];omega);have hzt:TV.take vs.length++vs.drop vs.length=TV:=by rw[List.take_of_length_le (by omega),List.drop_length,List.append_nil]
    rw[hz,List.nil_append,<-hrest2]at ht;rw[hzt];refine FL ?_;refine AWP.closeIn (X:=V) (Y:=C) (n:=vs.length) (ll:=TV.map iA) (by exact At.f) (by exact At.f) (by rfl) (by simp[hTVl]) (DQ hat3 (.agg (.tail (.head .here)))) ?_;rw[show MC.set j (.agg [iA (n:Nat),.lst true 3 1 (TV.map iA)])=(TC.take (j+1)++cs.drop (j+1)).map (AE true)from hM4];refine FL ?_;refine RG ?_;(repeat first|refine WO ?_|refine Ai λX=>?_|refine Ay λY=>?_);refine NL ?_;refine Ae (j+1) (t+vs.length) ⟨by omega,htl,ht,hTj2,hcn2⟩
  ·have h2:j=cs.length:=by have:=of_decide_eq_false hd;omega
   subst h2;have hzt:TC.take cs.length++cs.drop cs.length=TC:=by rw[List.take_of_length_le (by omega),List.drop_length,List.append_nil]
   rw[List.drop_length]at ht hcn;rw[List.flatMap_nil,List.nil_append,<-hrest]at ht;have hcn:t=t2:=hcn;subst hcn;rw[hzt];refine FL ?_;refine AWP.closeIn (X:=C) (Y:=I) (n:=cs.length) (ll:=TC.map (AE true)) (by exact At.f) (by exact At.f) (by rfl) (by simp[hTCl]) (DQ hat1 (.agg (.tail (.tail (.head .here))))) ?_;rw[show MI.set i (.agg [iA en,iA eg,.lst true 55 2 (TC.map (AE true))])=(TI.take (i+1)++its.drop (i+1)).map (AH true)from hM2];refine FL ?_;refine RG ?_;(repeat first|refine WO ?_|refine Ai λX=>?_|refine Ay λY=>?_);refine NL ?_;refine Ae (i+1) t ⟨by omega,htl,ht,hT2⟩
 ·have h:i=its.length:=by have:=of_decide_eq_false hc;omega
  subst h;have hzt:TI.take its.length++its.drop its.length=TI:=by rw[List.take_of_length_le (by omega),List.drop_length,List.append_nil]
  rw[List.drop_length,List.flatMap_nil,List.drop_eq_nil_iff]at ht;obtain rfl:t=FV.length:=by omega
  rw[hzt];refine FL ?_;refine RG ?_;(repeat first|refine WO ?_|refine Ai λX=>?_|refine Ay λY=>?_);refine NL ?_;refine RT ?_;exact BL [bA true] [(I,_),(A,_),(B,_)] ⟨rfl,rfl⟩
def Li(p:Field×Int):Prop:=(1<=p.1.bits/\p.1.bits<=32)/\(-4294967296<=p.1.low/\p.1.low<=4294967296)/\p.1.low<=p.2/\p.2-p.1.low<2^p.1.bits.toNat
def pk1(p:Field×Int):List Bool:=Bm (UInt64.ofInt (p.2-p.1.low)) p.1.bits.toNat
def pk(l:List (Field×Int)):List Bool:=l.flatMap pk1
theorem GS{l:List (Field×Int)}{t:Nat}{p:Field×Int}(h:l[t]?=some p):pk (l.take (t+1))=pk (l.take t)++pk1 p:=by
 unfold pk;rw[List.take_add_one,h,List.flatMap_append];simp
theorem Ku{l:List (Field×Int)}{t:Nat}{p:Field×Int}(h:l[t]?=some p):pk l=pk (l.take t)++pk1 p++pk (l.drop (t+1)):=by
 rw[<-GS h];unfold pk;rw[<-List.flatMap_append,List.take_append_drop]
theorem GT{p:Field×Int}(h:Li p):((pk1 p).length:Int)=p.1.bits:=by
 unfold pk1;rw[EA];have:=h.1;omega
theorem Kv:∀{l:List (Field×Int)},(∀p∈l,Li p)->(pk l).length<=32*l.length
 |[],_=>Nat.zero_le _
 |p::l,h=>by
  have h1:=GT (h p (by simp));have h2:=(h p (by simp)).1;have h3:=Kv (l:=l) λq hq=>h q (by simp[hq])
  unfold pk at h3⊢;rw[List.flatMap_cons,List.length_append,List.length_cons];omega
theorem I2{l:List (Field×Int)}(t:Nat):(pk (l.take t)).length<=(pk l).length:=by
 have:pk l=pk (l.take t)++pk (l.drop t):=by unfold pk;rw[<-List.flatMap_append,List.take_append_drop]
 rw[this,List.length_append];omega
theorem L6{p:Field×Int}(h:Li p):(UInt64.ofInt (p.2-p.1.low)).toNat=(p.2-p.1.low).toNat/\(p.2-p.1.low).toNat<2^p.1.bits.toNat:=by
 obtain⟨⟨h1,h2⟩,_,h5,h6⟩:=h;have hp:∀n,n<=32->(2:Int)^n<=4294967296:=by decide
 have:=hp p.1.bits.toNat (by omega);refine⟨Kx (by omega) (by omega),?_⟩;have:((2^p.1.bits.toNat:Nat):Int)=(2:Int)^p.1.bits.toNat:=by rw[Int.natCast_pow];rfl
 omega
theorem Mw{l:List (Field×Int)}{t:Nat}{p:Field×Int}(h:l[t]?=some p)(hp:Li p):
  (C7 (Ah (pk l)) p.1.bits.toNat (pk (l.take t)).length).2=(0,(pk (l.take (t+1))).length)/\p.1.low+((C7 (Ah (pk l)) p.1.bits.toNat (pk (l.take t)).length).1.toNat:Int)=p.2:=by
 have h1:=Ku h;have h2:=GS h;obtain⟨hv,hlt⟩:=L6 hp;have hl:=GT hp;have hb:=hp.1;have hr:=hp.2.2.1;have hlen:(Ah (pk l)).length=((pk l).length+7)/8:=Bn _
 have hle:(pk (l.take t)).length+p.1.bits.toNat<=(pk l).length:=by
  rw[h1,List.length_append,List.length_append];omega
 have hg:EX (Ah (pk l)) (pk (l.take t)).length p.1.bits.toNat=UInt64.ofInt (p.2-p.1.low):=by
  rw[h1];exact LH (by omega) (by rw[hv];exact hlt)
 unfold C7;rw[if_neg (by omega)];dsimp only;rw[hg,hv,h2,List.length_append];refine⟨by congr 1;omega,by omega⟩
theorem KZ{w:Wd}(h:WdOK w):∀it∈w.items,∀c∈it.comps,CSh w.kinds c:=λit hit c hc=>by
 obtain⟨h1,_,k,h2,h3⟩:=((Dt h).it it hit).2.2.2.it c hc;exact⟨by simpa using h1,k,by simpa using h2,h3.1.symm⟩
theorem Lr{w:Wd}(h:WdOK w):∀p∈fvW w,Li p:=λp hp=>by
 obtain⟨it,hit,hp⟩:=List.mem_flatMap.1 hp;obtain⟨c,hc,hp⟩:=List.mem_flatMap.1 hp;obtain⟨h1,_,k,h2,h3⟩:=((Dt h).it it hit).2.2.2.it c hc;have h2':w.kinds[c.kind.toNat]?=some k:=by simpa using h2
 rw[Cx h2']at hp;have hk:=GZ ((BE h.ks).2 k (List.mem_of_getElem? h2'));have hf:=(BV p.1).1 (hk.fs p.1 (List.of_mem_zip hp).1);obtain⟨g1,g2,g3,g4⟩:=h3.2 p hp;exact⟨⟨g1,g2⟩,⟨hf.2.2.2.1,hf.2.2.2.2⟩,g3,g4⟩
theorem II{α:Type}(f:α->Nat)(n:Nat):∀l:List α,(∀x∈l,f x<=n)->(l.map f).sum<=n*l.length
 |[],_=>Nat.zero_le _
 |x::l,h=>by
  have h1:=h x (by simp);have h2:=II f n l λy hy=>h y (by simp[hy])
  rw[List.map_cons,List.sum_cons,List.length_cons,Nat.mul_succ];omega
theorem KY{w:Wd}(h:WdOK w)(h4:w.kinds.length<=4):(fvW w).length<=8192:=by
 have hkl:=(BE h.ks).1;have hil:=h.il;have hgl:=h.gl;unfold fvW;rw[List.length_flatMap]
 have h1:∀it∈w.items,(fvI w.kinds it).length<=32:=λit hit=>by
  have hcl:=JP ((Dt h).it it hit).2.2.2;unfold fvI;rw[List.length_flatMap]
  have:=II (λc=>(fvC w.kinds c).length) 8 it.comps λc hc=>by
   obtain⟨_,_,k,h2,h3⟩:=((Dt h).it it hit).2.2.2.it c hc;have h2':w.kinds[c.kind.toNat]?=some k:=by simpa using h2
   have hk:=GZ ((BE h.ks).2 k (List.mem_of_getElem? h2'));have:=hk.len;show(fvC w.kinds c).length<=8
   rw[Cx h2',List.length_zip];omega
  omega
 have:=II (λit=>(fvI w.kinds it).length) 32 w.items h1;omega
theorem Lq{w:Wd}(h:WdOK w):(∀it∈w.items,it.comps.length<=1099511627776)/\∀it∈w.items,∀c∈it.comps,c.vals.length<=1099511627776:=by
 refine⟨λit hit=>?_,λit hit c hc=>?_⟩
 ·have:=JP ((Dt h).it it hit).2.2.2
  have:=(BE h.ks).1;omega
 ·obtain⟨_,_,k,h2,h3⟩:=((Dt h).it it hit).2.2.2.it c hc
  have h2':w.kinds[c.kind.toNat]?=some k:=by simpa using h2
  have:=(GZ ((BE h.ks).2 k (List.mem_of_getElem? h2'))).len;have:=h3.1;omega
def Kz(l:List (Field×Int))(t:Nat):Int:=((l[t]?).map (·.2)).getD 0
theorem Js{w:Wd}(h:WdOK w):nvI (Kz (fvW w)) 0 w.items=w.items:=
 HU (KZ h) λi p hp=>by
  unfold Kz;rw[Nat.zero_add,show(fvW w)[i]?=some p from hp];rfl
def EW(ks:List Kind)(i:Nat):List AV:=(ks.take i).map (AU true)++List.replicate (ks.length-i) (.agg [sA [],.prim (.slice none 0 0)])
theorem K9(ks:List Kind)(i:Nat)(h:i<=ks.length):(EW ks i).length=ks.length:=by simp[EW];omega
theorem MA{ks:List Kind}{i:Nat}(h:i<ks.length):(EW ks i)[i]?=some (.agg [sA [],.prim (.slice none 0 0)]):=by
 unfold EW;rw[List.getElem?_append_right (by simp;omega),List.getElem?_replicate,if_pos (by simp;omega)]
theorem K8{ks:List Kind}{i:Nat}(h:i<ks.length):(EW ks i).set i (AU true ks[i])=EW ks (i+1):=by
 unfold EW;rw[List.set_append_right _ _ (by simp;omega),List.length_map,List.length_take,Nat.min_eq_left (by omega),Nat.sub_self];rw[show ks.length-i=(ks.length-(i+1))+1 from by omega,List.replicate_succ,List.set_cons_zero];rw[List.take_succ_eq_append_getElem h,List.map_append,List.append_assoc];rfl
theorem EJ(ks:List Kind)(hl:ks.length<=1099511627776)(hf:∀k∈ks,k.fields.length<=1099511627776):PS Try.prog 42 [AS false false ks] (AS true true ks):=by
 refine AC (nt:=27) (res:=[.tmp 2]) Try.func42 rfl (by kernel_rfl) rfl rfl rfl λSf=>?_
 have hkm:(ks.map (AU false)).length=ks.length:=List.length_map _;have hz0:List.replicate (ks.map (AU false)).length (.agg [sA [],.prim (.slice none 0 0)])=EW ks 0:=by simp[EW]
 (repeat first|(refine AOps.gN ?_;first|(refine CG ?_;refine Dn ((.agg [sA [],.prim (.slice none 0 0)])) λK=>?_))|refine WK ?_|refine Ai λX=>?_|refine Ay λY=>?_);rw[hz0];refine A3 (λ(i:Nat) (M:List AV)=>⟨[(3,.sl K 0 (ks.map (AU false)).length),(9,AS false false ks),(10,iA (ks.map (AU false)).length),(11,iA i)],(K,.row 58 2 M)::Sf⟩) (λi M=>i<=ks.length/\M=EW ks i) (λi _=>ks.length-i) 0 _ ⟨Nat.zero_le _,rfl⟩ ?_;rintro i M ⟨hi,hM⟩;(repeat first|refine WK ?_|refine Ai λX=>?_|refine Ay λY=>?_);refine AWP.cond rfl (λhc=>?_) (λhc=>?_)
 ·have h:i<ks.length:=by rw[decide_eq_true_eq,hkm]at hc;omega
  have hset:=K8 h;have hMat:M[i]?=some (.agg [sA [],.prim (.slice none 0 0)]):=by rw[hM];exact MA h
  have hMl:M.length=ks.length:=by rw[hM];exact K9 ks i hi
  have hfl:=hf _ (List.getElem_mem h);obtain⟨⟨kn,fs⟩,hk⟩:∃k,ks[i]=k:=⟨_,rfl⟩;rw[hk]at hset hfl;dsimp only at hfl;have hat:(ks.map (AU false))[i]?=some (AU false ⟨kn,fs⟩):=by rw[List.getElem?_map,List.getElem?_eq_getElem h,hk];rfl
  have hil:i<(ks.map (AU false)).length:=by omega
  have hfm:(fs.map fieldA).length=fs.length:=List.length_map _;(repeat first|refine WK ?_|refine Ai λV=>?_|refine Ay λY=>?_);refine AWP.rs λY=>?_
  refine RU ?_;(repeat first|(refine RGo.gN ?_;first|refine RGo.s (Gt (by rw[hfm];omega) (by rw[hfm];unfold maxLen;omega) rfl rfl (by exact At.f)) rfl ?_)|(refine AX ?_;first|refine RGo.s (Gt (by rw[hfm];omega) (by rw[hfm];unfold maxLen;omega) rfl rfl (by exact At.f)) rfl ?_)|refine RK ?_|refine RGo.nil (by kernel_rfl) ?_);(repeat refine WF ?_);have hMs:(M.set i (.agg [sA kn,.sl Y 0 (fs.map fieldA).length]))[i]?=some (.agg [sA kn,.sl Y 0 (fs.map fieldA).length]):=by rw[List.getElem?_set_self (by omega)]
  refine AWP.closeIn (X:=Y) (Y:=K) .here (.next (.next .here)) rfl rfl (DQ hMs (.agg (.tail (.head .here)))) ?_;rw[List.set_set];(repeat first|refine WK ?_|refine Ai λX=>?_|refine Ay λY=>?_);refine Ae (i+1) _ ⟨h,?_⟩;rw[hM];exact hset
 ·have h:i=ks.length:=by rw[decide_eq_false_iff_not,hkm]at hc;omega
  subst h;have hfin:EW ks ks.length=ks.map (AU true):=by simp[EW]
  rw[hfin]at hM;subst hM;(repeat first|refine WK ?_|refine Ai λX=>?_|refine Ay λY=>?_);refine RT ?_;exact⟨[.sl K 0 (ks.map (AU false)).length],[AS true true ks],_,[],.cons (.tmp rfl) rfl .nil,.cons (.cell (.sl (p:=0) .here (by simp))) .nil,by exact Sub.f,rfl,rfl⟩
def CP(x:Item):AV:=.agg [iA x.ent.n,iA x.ent.gen,Az true false x.comps]
instance {x:Item}:Frz (CP x) (AH false x):=⟨by unfold CP AH;exact Frz.h⟩
abbrev M3(o:Bool)(l:List Item):AV:=.lst o 53 3 (l.map CP)
def Ls(w:Wd):AV:=.agg [AS true true w.kinds,Af true w.gens,M3 true w.items]
instance {w:Wd}:Frz (Ls w) (wdA false w):=⟨by unfold Ls wdA;exact Frz.h⟩
abbrev JG:AV:=.agg [iA 0,iA 0,.prim (.slice none 0 0)]
set_option maxRecDepth 8000 in
set_option maxHeartbeats 2000000 in
theorem JO(w:Wd)(hw:WdL w):PS Try.prog 19 [wdA false w] (Ls w):=by
 obtain⟨ks,gens,items⟩:=w;obtain⟨⟨hk0,hk1⟩,hg,hi0,hi1⟩:=hw;dsimp only at hk0 hk1 hg hi0 hi1;have hkc:=EJ ks hk0 hk1;have hgc:=D7 gens (by omega);have hgm:(gens.map iA).length=gens.length:=List.length_map _;have him:(items.map (AH false)).length=items.length:=List.length_map _;refine AC (nt:=37) (res:=[.cell 2 43]) Try.func19 rfl (by kernel_rfl) rfl rfl rfl λSf=>?_
 refine RG ?_;(repeat first|(refine AOps.gN ?_;first|(refine AOps.g_box ?_;refine BG ?_))|refine WO ?_|refine Ai λR=>?_|refine Ay λY=>?_);refine NL ?_;(repeat refine WF ?_);refine AWP.rs λW3=>AWP.rs λI=>AWP.rs λG=>AWP.rs λK=>?_
 refine RU ?_;(repeat first|(refine RGo.gN ?_;first|refine ED (h:=hkc) (k:=?_)|refine ED (h:=hgc) (k:=?_)|refine RGo.s (W.make rfl rfl (by exact At.f) rfl (.inl rfl) rfl rfl (Nat.le_refl _) (by rw[him];omega) (by rw[him];unfold maxLen;omega)) rfl ?_)|(refine AX ?_;first|refine ED (h:=hkc) (k:=?_)|refine ED (h:=hgc) (k:=?_)|refine RGo.s (W.make rfl rfl (by exact At.f) rfl (.inl rfl) rfl rfl (Nat.le_refl _) (by rw[him];omega) (by rw[him];unfold maxLen;omega)) rfl ?_)|refine RK ?_|refine RGo.nil (by kernel_rfl) ?_);have hz0:List.replicate (items.map (AH false)).length (zAV [.int .i64 0,.int .i64 0,.slice none 0 0] true)=BX CP JG items 0:=by rw[Cs,him];rfl
 rw[hz0];refine FL ?_;refine RG ?_;(repeat first|refine WO ?_|refine Ai λX=>?_|refine Ay λY=>?_);refine NL ?_;refine FL ?_;refine A3 (λ(i:Nat) (M:List AV)=>⟨[(2,.ptr R 0 0),(3,.ptr W3 0 0),(18,BJ false false items),(19,iA (items.map (AH false)).length),(20,iA i)],(K,.row 58 2 (ks.map (AU true)))::(G,.row 3 1 (gens.map iA))::(I,.row 53 3 M)::(W3,.row 43 3 [.agg [.sl K 0 (ks.map (AU true)).length,.sl G 0 (gens.map iA).length,.sl I 0 (items.map (AH false)).length]])::(R,.row 43 3 [.agg [.prim (.slice none 0 0),.prim (.slice none 0 0),.prim (.slice none 0 0)]])::Sf⟩) (λi M=>i<=items.length/\M=BX CP JG items i) (λi _=>items.length-i) 0 _ ⟨Nat.zero_le _,rfl⟩ ?_;rintro i M ⟨hi,hM⟩;(repeat first|refine WK ?_|refine Ai λX=>?_|refine Ay λY=>?_);refine AWP.cond rfl (λhc=>?_) (λhc=>?_)
 ·have h:i<items.length:=by rw[decide_eq_true_eq,him]at hc;omega
  have hset:=DL CP JG items h;have hMat:M[i]?=some JG:=by rw[hM];exact D2 _ _ _ h
  have hMl:M.length=items.length:=by rw[hM];exact If _ _ _ _ hi
  have hcl:=hi1 _ (List.getElem_mem h);obtain⟨⟨⟨en,eg⟩,cs⟩,hit⟩:∃it,items[i]=it:=⟨_,rfl⟩;rw[hit]at hset hcl;have hat:(items.map (AH false))[i]?=some (AH false ⟨⟨en,eg⟩,cs⟩):=by rw[List.getElem?_map,List.getElem?_eq_getElem h,hit];rfl
  have hil:i<(items.map (AH false)).length:=by omega
  have hcc:=Gm cs hcl.1 hcl.2;have hcm:(cs.map (AE false)).length=cs.length:=List.length_map _;(repeat first|refine WK ?_|refine Ai λV=>?_|refine Ay λY=>?_);refine AWP.rs λY=>?_
  refine RU ?_;(repeat first|(refine RGo.gN ?_;first|refine ED (h:=hcc) (k:=?_))|(refine AX ?_;first|refine ED (h:=hcc) (k:=?_))|refine RK ?_|refine RGo.nil (by kernel_rfl) ?_);(repeat refine WF ?_);have hMs:(M.set i (.agg [iA en,iA eg,.sl Y 0 (cs.map (AE false)).length]))[i]?=some (.agg [iA en,iA eg,.sl Y 0 (cs.map (AE false)).length]):=by rw[List.getElem?_set_self (by omega)]
  refine AWP.closeIn (X:=Y) (Y:=I) (by exact At.f) (by exact At.f) rfl rfl (DQ hMs (.agg (.tail (.tail (.head .here))))) ?_;rw[List.set_set];(repeat first|refine WK ?_|refine Ai λX=>?_|refine Ay λY=>?_);refine Ae (i+1) _ ⟨h,?_⟩;rw[hM];exact hset
 ·have h:i=items.length:=by rw[decide_eq_false_iff_not,him]at hc;omega
  subst h;rw[DM _ _ _ (Nat.le_refl _)]at hM;subst hM;have hkl:(ks.map (AU true)).length=(ks.map (AU true)).length:=rfl;have hI:(items.map (AH false)).length=(items.map CP).length:=by simp
  (repeat first|refine WK ?_|refine Ai λX=>?_|refine Ay λY=>?_);refine RT ?_;exact⟨[.agg [.sl K 0 (ks.map (AU true)).length,.sl G 0 (gens.map iA).length,.sl I 0 (items.map (AH false)).length]],[Ls ⟨ks,gens,items⟩],_,[],.cons (.cell (p:=4) rfl (by exact At.f) TAg.h TSize.h rfl rfl) rfl .nil,.cons (.agg (.cons (.sl (p:=0) .here rfl) (.cons (.sl (p:=0) .here rfl) (.cons (.sl (p:=0) .here hI) .nil)))) .nil,by exact Sub.f,rfl,rfl⟩
abbrev wdE:Wd:=⟨[],[],[]⟩
theorem TW.fz{a b:AV}[h:Frz a b]:TW a b []:=h.h▸ .frz
theorem IW(l:List Item):AV.frzs (l.map CP)=l.map (AH false):=(inferInstance:Frzs (l.map CP) (l.map (AH false))).h
theorem NH(c:Comp):FreeE (AE false c):=.agg λx hx=>by
 simp only[List.mem_cons,List.not_mem_nil,or_false]at hx;rcases hx with rfl|rfl
 ·exact .prim _
 ·exact λm c bs k=>k.1
theorem F4(c:Item):FreeE (AH false c):=.agg λx hx=>by
 simp only[List.mem_cons,List.not_mem_nil,or_false]at hx;rcases hx with rfl|rfl|rfl
 ·exact .prim _
 ·exact .prim _
 ·exact λm c bs k=>k.1
theorem IX(l:List Item):FreeL (l.map (AH false)):=λx hx=>by obtain⟨y,_,rfl⟩:=List.mem_map.1 hx;exact F4 y
theorem J3(l:List Item):∀x∈l.map (AH false),x.width=3:=λx hx=>by obtain⟨y,_,rfl⟩:=List.mem_map.1 hx;rfl
section
open Go.Sort
theorem Iq{α:Type}[Inhabited α](f:α->AV){d:Array α}{i:Nat}(h:i<d.size):(d.toList.map f)[i]?=some (f d[i]!):=by
 rw[List.getElem?_map,List.getElem?_eq_getElem (by simpa using h)];simp[getElem!_pos d i h]
theorem MX{α:Type}[Inhabited α](f:α->AV){d:Array α}{i j:Nat}(hi:i<d.size)(hj:j<d.size):((d.toList.map f).set i (f d[j]!)).set j (f d[i]!)=(swp d i j).toList.map f:=by
 unfold swp;simp[Array.toList_setIfInBounds,List.map_set]
theorem LT{α:Type}[Inhabited α](f:α->AV){d:Array α}{i j:Nat}(hj:j<d.size)(x:α):∃y,((d.toList.map f).set i (f x))[j]?=some (f y):=by
 by_cases e:i=j
 ·subst e;exact⟨x,List.getElem?_set_self (by simpa using hj)⟩
 ·exact⟨d[j]!,by rw[List.getElem?_set_ne e];exact Iq f hj⟩
def CN{α:Type}(cf:α->α->Int)(x y:α):Bool:=decide (cf x y<0)
instance:Inhabited Comp:=⟨⟨0,[]⟩⟩
end
section
open Go.Sort
set_option maxHeartbeats 1000000 in
theorem MF(f:FuncId)(cap:List AV)(cf:Comp->Comp->Int)(hst:BN cap=true)(hcf:∀x y,PS Try.prog f ((AE false) x::(AE false) y::cap) (iA (cf x y)))(X n:Nat)(d:Array Comp)(a b:Nat)(hn:n=d.size)(hab:a<=b)(hb:b<=d.size)(hz:d.size<=1099511627776):PO Try.prog 107 [.sl X 0 n,iA a,iA b,.fn f cap] X (.row 55 2 (d.toList.map (AE false))) (.tup []) (.row 55 2 ((insertionSort (CN cf) d a b).toList.map (AE false))):=by
 obtain⟨r,hr⟩:∃r,insertionSort (CN cf) d a b=r:=⟨_,rfl⟩;rw[hr];unfold insertionSort at hr;refine AC (nt:=53) (res:=[]) Try.func107 rfl (by kernel_rfl) rfl rfl rfl λSf=>?_
 (repeat first|refine WK ?_|refine Ai λX=>?_|refine Ay λY=>?_);refine A3 (λ(i:Nat) (e:Array Comp)=>⟨[(0,.sl X 0 n),(1,iA a),(2,iA b),(3,.fn f cap),(8,iA i)],(X,.row 55 2 (e.toList.map (AE false)))::Sf⟩) (λi e=>i<=max b (a+1)/\a<i/\e.size=d.size/\insOuter (CN cf) a b i e=r) (λi _=>b-i) (a+1) d ⟨by omega,by omega,rfl,hr⟩ ?_;rintro i e ⟨hi,hai,he,hfold⟩;rw[insOuter]at hfold;(repeat first|refine WK ?_|refine Ai λX=>?_|refine Ay λY=>?_);refine AWP.cond rfl (λhc=>?_) (λhc=>?_)
 ·have h:i<b:=by have:=of_decide_eq_true hc;omega
  rw[if_pos h]at hfold;(repeat first|refine WK ?_|refine Ai λX=>?_|refine Ay λY=>?_);refine A3 (λ(j:Nat) (u:Array Comp)=>⟨[(0,.sl X 0 n),(1,iA a),(2,iA b),(3,.fn f cap),(8,iA i),(9,iA j)],(X,.row 55 2 (u.toList.map (AE false)))::Sf⟩) (λj u=>j<=i/\u.size=d.size/\insInner (CN cf) a j u=insInner (CN cf) a i e) (λj _=>j) i e ⟨Nat.le_refl _,he,rfl⟩ ?_;rintro j u ⟨hj,hu,hin⟩;rcases Bool.eq_false_or_eq_true (decide ((a:Int)<(j:Int)))with g|g
  ·have hja:a<j:=by have:=of_decide_eq_true g;omega
   obtain⟨q,rfl⟩:∃q,j=q+1:=⟨j-1,by omega⟩;have h1:=Iq (AE false) (d:=u) (i:=q+1) (by omega);have h2:=Iq (AE false) (d:=u) (i:=q) (by omega);have hl:=hcf (u[q+1]!) (u[q]!);rw[insInner]at hin;(repeat refine WF ?_);refine RU ?_;(repeat first|(refine RGo.gN ?_;first|(refine RGo.g_callv ?_;first|refine RGo.k2 (h:=(hl ..)) (k:=?_))|refine RGo.go (h:=Bu (q:Int) (by omega) (by omega) rfl rfl) (k:=?_))|(refine AX ?_;first|(refine RGo.g_callv ?_;first|refine RGo.k2 (h:=(hl ..)) (k:=?_))|refine RGo.go (h:=Bu (q:Int) (by omega) (by omega) rfl rfl) (k:=?_))|refine RK ?_|refine RGo.nil (by kernel_rfl) ?_);(repeat refine WF ?_);refine AWP.cond rfl (λhd=>?_) (λhd=>?_)
   ·have hd:(CN cf) u[q+1]! u[q]! =true:=by simpa[g,CN]using hd
    rw[hd,if_pos (by simp;omega)]at hin;obtain⟨y,hy⟩:=LT (AE false) (d:=u) (i:=q+1) (j:=q) (by omega) u[q]!;(repeat refine WF ?_);refine RU ?_;(repeat first|(refine RGo.gN ?_;first|refine RGo.go (h:=Bu (q:Int) (by omega) (by omega) rfl rfl) (k:=?_)|refine RGo.s (W.store rfl rfl (by exact At.f) hy (by exact rfl)) rfl ?_)|(refine AX ?_;first|refine RGo.go (h:=Bu (q:Int) (by omega) (by omega) rfl rfl) (k:=?_)|refine RGo.s (W.store rfl rfl (by exact At.f) hy (by exact rfl)) rfl ?_)|refine RK ?_|refine RGo.nil (by kernel_rfl) ?_);(repeat first|(refine AOps.gN ?_;first|refine AOps.p (Bu (q:Int) (by omega) (by omega) rfl rfl) rfl ?_)|refine WK ?_|refine Ai λX=>?_|refine Ay λY=>?_);refine Ae q (swp u (q+1) q) ⟨by omega,by rw[size_swp];exact hu,hin⟩ (h0:=by rw[<-MX (AE false) (by omega) (by omega)];exact⟨by exact Lk.f,by exact Sub.f⟩)
   ·have hd:(CN cf) u[q+1]! u[q]! =false:=by simpa[g,CN]using hd
    rw[hd,if_neg (by simp)]at hin;(repeat first|refine WK ?_|refine Ai λX=>?_|refine Ay λY=>?_);refine Ae (i+1) u ⟨by omega,by omega,hu,by rw[hin];exact hfold⟩
  ·have hja:j<=a:=by have:=of_decide_eq_false g;omega
   have hin2:insInner (CN cf) a j u=u:=by
    cases j with
    |zero=>rfl
    |succ q=>rw[insInner,if_neg (by simp;omega)]
   rw[hin2]at hin;(repeat refine WF ?_);refine RU ?_;(repeat first|refine RK ?_|refine RGo.nil (by kernel_rfl) ?_);(repeat refine WF ?_);refine AN rfl (by simp[g]) ?_;(repeat first|refine WK ?_|refine Ai λX=>?_|refine Ay λY=>?_);refine Ae (i+1) u ⟨by omega,by omega,hu,by rw[hin];exact hfold⟩
 ·have h:¬i<b:=by have:=of_decide_eq_false hc;omega
  rw[if_neg h]at hfold;subst hfold;(repeat first|refine WK ?_|refine Ai λX=>?_|refine Ay λY=>?_);refine IM ?_;exact C5 [(X,.row 55 2 (e.toList.map (AE false)))] ⟨rfl,rfl⟩
end
section
open Go.Sort
def lenTab:List UInt8:=(List.range 256).map λn=>UInt8.ofNat (if n=0 then 0 else Nat.log2 n+1)
theorem J1{n:Nat}(h:n<256):((lenTab.getD n 0).toNat:Int)=bitsLen n:=by
 have h1:lenTab.getD n 0=UInt8.ofNat (bitsLen n):=by
  unfold lenTab;rw[List.getD_eq_getElem?_getD,List.getElem?_map,List.getElem?_range h];rfl
 have h2:bitsLen n<=8:=(bitsLen_le_iff n 8).2 (by omega);rw[h1,UInt8.toNat_ofNat'];omega
theorem IV:lenTab.length=256:=by simp[lenTab]
theorem FM{x:Nat}(h:256<=x):bitsLen (x/256)+8=bitsLen x:=by
 have a:=(bitsLen_le_iff (x/256) (bitsLen x-8)).2 (by
  have h1:=lt_two_pow_bitsLen x
  have h2:8<bitsLen x:=by
   have:=(bitsLen_le_iff x 8);omega
  have h3:2^bitsLen x=2^(bitsLen x-8)*256:=by rw[show(256:Nat)=2^8 from rfl,<-Nat.pow_add];congr 1;omega
  omega)
 have b:=(bitsLen_le_iff x (bitsLen (x/256)+8)).2 (by
  have h1:=lt_two_pow_bitsLen (x/256);rw[Nat.pow_add];omega)
 have h2:8<bitsLen x:=by
  have:=(bitsLen_le_iff x 8);omega
 omega
set_option maxRecDepth 100000 in
theorem K7(x:UInt64)(hx:x.toNat<65536):PS Try.prog 93 [uA x] (iA (bitsLen x.toNat)):=by
 refine AC (nt:=25) (res:=[.tmp 2]) Try.func93 rfl (by kernel_rfl) rfl rfl rfl λSf=>?_
 (repeat first|refine WK ?_|refine Ai λX=>?_|refine Ay λY=>?_);refine AN rfl (decide_eq_false (by omega)) ?_;(repeat first|refine WK ?_|refine Ai λX=>?_|refine Ay λY=>?_);refine AN rfl (decide_eq_false (by omega)) ?_;(repeat first|refine WK ?_|refine Ai λX=>?_|refine Ay λY=>?_);refine GK (λb:UInt64×Nat=>b.1.toNat<256/\bitsLen b.1.toNat+b.2=bitsLen x.toNat/\b.2<=8) (λb=>⟨[(0,uA b.1),(2,iA b.2)],Sf⟩) ?_ ?_
 ·refine AWP.cond rfl (λh=>?_) (λh=>?_)
  ·have h:256<=x.toNat:=by have:=of_decide_eq_true h;omega
   have hs:(x>>>UInt64.ofNat 8).toNat=x.toNat/256:=by
    rw[UInt64.toNat_shiftRight,UInt64.toNat_ofNat',show 8%2^64%64=8 from rfl,Nat.shiftRight_eq_div_pow]
   (repeat first|(refine AOps.gN ?_;first|refine AOps.p (Ce 8 (by omega) rfl rfl rfl) rfl ?_)|refine WK ?_|refine Ai λX=>?_|refine Ay λY=>?_);refine jn (x>>>UInt64.ofNat 8,8) ⟨by dsimp only;omega,?_,by(try dsimp only);omega⟩;dsimp only;rw[hs];exact FM h
  ·have h:¬256<=x.toNat:=by have:=of_decide_eq_false h;omega
   (repeat first|refine WK ?_|refine Ai λX=>?_|refine Ay λY=>?_);exact jn (x,0) ⟨by dsimp only;omega,rfl,by(try dsimp only);omega⟩
 ·rintro⟨u,m⟩ ⟨h1,h2,h3⟩
  dsimp only at h1 h2 h3⊢;have hw:IntKind.u8.wrap ((u.toNat:Nat):Int)=((u.toNat:Nat):Int):=by rw[IntKind.wrap_u8'];omega
  have hat:=J1 h1;have hb8:bitsLen u.toNat<=8:=(bitsLen_le_iff _ 8).2 (by omega);have hw2:IntKind.i64.wrap ((lenTab.getD u.toNat 0).toNat:Int)=((bitsLen u.toNat:Nat):Int):=by rw[hat];exact Ba (by omega) (by omega)
  (repeat first|(refine AOps.gN ?_;first|refine AOps.p (W.convW .u64 .u8 _ (by kernel_rfl) (by kernel_rfl) hw rfl) rfl ?_|refine AOps.p (W.idxStr (s:=lenTab) (a:=u.toNat) (by kernel_rfl) rfl rfl (by rw[IV];exact h1)) rfl ?_|refine AOps.p (W.convW .u8 .i64 _ (by kernel_rfl) (by kernel_rfl) hw2 rfl) rfl ?_|refine AOps.p (Bj ((bitsLen x.toNat:Nat):Int) (by omega) (by omega) rfl rfl) rfl ?_)|refine WK ?_|refine Ai λX=>?_|refine Ay λY=>?_);refine RT ?_;refine AF ?_;rfl
theorem M2(x:UInt64)(hx:x.toNat<65536):PS Try.prog 72 [uA x] (iA (bitsLen x.toNat)):=by
 have h:=K7 x hx;refine AC (nt:=8) (res:=[.tmp 2]) Try.func72 rfl (by kernel_rfl) rfl rfl rfl λSf=>?_
 (repeat first|refine WK ?_|refine Ai λX=>?_|refine Ay λY=>?_);refine AN rfl rfl ?_;(repeat first|(refine AOps.gN ?_;first|(refine AOps.g_callf ?_;first|refine AOps.c1 (h:=(h ..)) (k:=?_)))|refine WK ?_|refine Ai λX=>?_|refine Ay λY=>?_);refine RT ?_;refine AF ?_;rfl
end
section
open Go.Sort
theorem IP(f:FuncId)(cap:List AV)(cf:Comp->Comp->Int)(hst:BN cap=true)(hf:∀x y,PS Try.prog f (AE false x::AE false y::cap) (iA (cf x y)))(X n limit:Nat)(d:Array Comp)(hn:n=d.size)(h12:d.size<=12):PO Try.prog 99 [.sl X 0 n,iA 0,iA n,iA limit,.fn f cap] X (.row 55 2 (d.toList.map (AE false))) (.tup []) (.row 55 2 ((insertionSort (CN cf) d 0 d.size).toList.map (AE false))):=by
 have hs:=MF f cap cf hst hf X n d 0 d.size hn (Nat.zero_le _) (Nat.le_refl _) (by omega);rw[<-hn]at hs;have hsz:d.size=n:=hn.symm;refine AC (nt:=148) (res:=[]) Try.func99 rfl (by kernel_rfl) rfl rfl rfl λSf=>?_
 (repeat first|refine WK ?_|refine Ai λX=>?_|refine Ay λY=>?_);refine Bq (λ_:Unit=>⟨[(0,.sl X 0 n),(1,iA 0),(2,iA n),(3,iA limit),(4,.fn f cap)],(X,.row 55 2 (d.toList.map (AE false)))::Sf⟩) (λ_=>True) (λ_=>0) () trivial ?_;rintro _ _;refine AWP.block ?_;(repeat first|(refine AOps.gN ?_;first|refine AOps.p (Bu (n:Int) (by omega) (by omega) rfl rfl) rfl ?_)|refine WK ?_|refine Ai λX=>?_|refine Ay λY=>?_);refine Ac rfl (decide_eq_true (by omega)) ?_;(repeat first|(refine AOps.gN ?_;first|(refine AOps.g_callf ?_;first|refine Me (h:=(hs ..)) (k:=?_)))|refine WK ?_|refine Ai λX=>?_|refine Ay λY=>?_);refine RT ?_;rw[hsz];exact C5 [(X,_)] ⟨rfl,rfl⟩
theorem HQ{α:Type}[Inhabited α]{d u:Array α}(h:PermIn 0 d.size d u):u.toList.Perm d.toList:=by
 obtain⟨h1,_,h3⟩:=h;have e1:u.extract 0 d.size=u:=by rw[<-h1];exact Array.extract_size
 rwa[e1,Array.extract_size]at h3
theorem FZ{α:Type}[Inhabited α]{lt:α->α->Bool}{u:Array α}{n:Nat}(hn:n=u.size)(h:SortedIn lt 0 n u):u.toList.Pairwise λa b=>lt b a=false:=by
 rw[List.pairwise_iff_getElem];intro i j hi hj hij;have hi':i<u.size:=by simpa using hi
 have hj':j<u.size:=by simpa using hj
 have:=h i j (Nat.zero_le _) hij (by omega);rw[getElem!_pos u j hj',getElem!_pos u i hi']at this;simpa using this
set_option maxRecDepth 8000 in
theorem GQ(f:FuncId)(cap:List AV)(cf:Comp->Comp->Int)(hst:BN cap=true)(hS:SWO (CN cf))(hf:∀x y,PS Try.prog f (AE false x::AE false y::cap) (iA (cf x y)))(X n:Nat)(l:List Comp)(hn:n=l.length)(h12:l.length<=12):
  ∃u:List Comp,(u.Perm l/\u.Pairwise λa b=>CN cf b a=false)/\PO Try.prog 79 [.sl X 0 n,.fn f cap] X (.row 55 2 (l.map (AE false))) (.tup []) (.row 55 2 (u.map (AE false))):=by
 obtain⟨p1,p2⟩:=insertionSort_holds (lt:=CN cf) hS l.toArray 0 l.toArray.size (Nat.zero_le _) (Nat.le_refl _);have e1:(UInt64.ofNat n).toNat=n:=by rw[UInt64.toNat_ofNat'];omega
 have hlen:=M2 (UInt64.ofNat n) (by rw[e1];omega);rw[e1]at hlen;have hs:=IP f cap cf hst hf X n (bitsLen n) l.toArray (by simpa using hn) (by simpa using h12);obtain⟨u,hu⟩:∃u,insertionSort (CN cf) l.toArray 0 l.toArray.size=u:=⟨_,rfl⟩;rw[hu]at p1 p2 hs;refine⟨u.toList,⟨by simpa using HQ p1,FZ p1.1.symm p2⟩,?_⟩;simp only[List.toList_toArray]at hs;refine AC (nt:=14) (res:=[]) Try.func79 rfl (by kernel_rfl) rfl rfl rfl λSf=>?_
 (repeat first|(refine AOps.gN ?_;first|(refine AOps.g_callf ?_;first|refine AOps.c1 (h:=(hlen ..)) (k:=?_)|refine Md (h:=(hs ..)) (k:=?_))|refine AOps.p (Is .i64 n rfl (by omega) (by kernel_rfl) (by kernel_rfl) rfl) rfl ?_)|refine WK ?_|refine Ai λX=>?_|refine Ay λY=>?_);refine IM ?_;exact C5 [(X,_)] ⟨rfl,rfl⟩
theorem Dj(a b:Int):DN a b<0↔a<b:=by
 unfold DN;split
 ·simp;assumption
 ·split<;>simp<;>omega
theorem Lw{α:Type}(key:α->Int):SWO (CN λx y=>DN (key x) (key y))where
 irrefl x:=by simp only[CN,decide_eq_false_iff_not,Dj];omega
 trans x y z h1 h2:=by simp only[CN,decide_eq_true_eq,Dj]at*;omega
 ntrans x y z h1 h2:=by simp only[CN,decide_eq_false_iff_not,Dj]at*;omega
end
theorem Ff(l:List Comp)(f:FuncId)(cap:List AV)(p:Comp->Bool)(hs:BN cap=true)(hl:l.length<=4611686018427387904)(hf:∀x∈l,PS Try.prog f ((AE false) x::cap) (bA (p x))):PS Try.prog 97 [.lst false 55 2 (l.map (AE false)),.fn f cap] (iA (IZ l p)):=by
 refine AC (nt:=19) (res:=[.tmp 4]) Try.func97 rfl (by kernel_rfl) rfl rfl rfl λSf=>?_
 (repeat first|refine WK ?_|refine Ai λX=>?_|refine Ay λY=>?_);refine Bq (λi:Nat=>⟨[(0,.lst false 55 2 (l.map (AE false))),(1,.fn f cap),(7,iA (l.map (AE false)).length),(8,iA i)],Sf⟩) (λi=>i<=l.length/\∀j (h:j<l.length),j<i->p l[j]=false) (λi=>l.length-i) 0 ⟨Nat.zero_le _,λj h hj=>absurd hj (by omega)⟩ ?_;rintro i ⟨hi,he⟩;(repeat first|refine WK ?_|refine Ai λX=>?_|refine Ay λY=>?_);refine AWP.cond rfl (λhc=>?_) (λhc=>?_)
 ·have h:i<l.length:=by simpa using hc
  (repeat first|(refine AOps.gN ?_;first|(refine AOps.g_callv ?_;first|refine Mf (h:=(hf _ (List.getElem_mem h))) (k:=?_)))|refine WK ?_|refine Ai λX=>?_|refine Ay λY=>?_);refine AWP.cond rfl (λhd=>?_) (λhd=>?_)
  ·(repeat first|refine WK ?_|refine Ai λX=>?_|refine Ay λY=>?_)
   refine RT ?_;refine AF ?_;rw[J6 h hd λj hj=>he j (by omega) hj]
  ·(repeat first|refine WK ?_|refine Ai λX=>?_|refine Ay λY=>?_)
   refine Br (i+1) ⟨h,λj h1 h2=>?_⟩;by_cases e:j=i
   ·subst e;exact hd
   ·exact he j h1 (by omega)
 ·have h:¬i<l.length:=by simpa using hc
  (repeat first|refine WK ?_|refine Ai λX=>?_|refine Ay λY=>?_);refine RT ?_;refine AF ?_;rw[J7 λj hj=>he j hj (by omega)]
theorem D5(l:List Comp)(f:FuncId)(cap:List AV)(p:Comp->Bool)(hs:BN cap=true)(hl:l.length<=4611686018427387904)(hf:∀x∈l,PS Try.prog f ((AE false) x::cap) (bA (p x))):PS Try.prog 76 [.lst false 55 2 (l.map (AE false)),.fn f cap] (bA (l.any p)):=by
 refine AC (nt:=9) (res:=[.tmp 4]) Try.func76 rfl (by kernel_rfl) rfl rfl rfl λSf=>?_
 (repeat first|(refine AOps.gN ?_;first|(refine AOps.g_callf ?_;first|refine AOps.c2 (h:=(Ff l f cap p hs hl hf)) (k:=?_)))|refine WK ?_|refine Ai λX=>?_|refine Ay λY=>?_);refine RT ?_;refine AF ?_;rw[<-LC]
section
open Go.Sort
theorem MP(o c:Comp):PS Try.prog 77 [AE false o,.fp (AE false c).cells] (bA (decide (o.kind=c.kind))):=by
 refine AC (nt:=9) (res:=[.tmp 3]) Try.func77 rfl (by kernel_rfl) rfl rfl rfl λSf=>?_
 (repeat first|(refine AOps.gN ?_;first|(refine AOps.g_box ?_;refine BG ?_))|refine WK ?_|refine Ai λX=>?_|refine Ay λY=>?_);refine RT ?_;refine AF ?_;rfl
theorem MO(a b:Comp):PS Try.prog 80 [AE false a,AE false b] (iA (DN a.kind b.kind)):=by
 refine AC (nt:=10) (res:=[.tmp 4]) Try.func80 rfl (by kernel_rfl) rfl rfl rfl λSf=>?_
 (repeat first|(refine AOps.gN ?_;first|(refine AOps.g_callf ?_;first|refine AOps.c2 (h:=(FG a.kind b.kind)) (k:=?_))|(refine AOps.g_box ?_;refine BG ?_))|refine WK ?_|refine Ai λX=>?_|refine Ay λY=>?_);refine RT ?_;refine AF ?_;rfl
set_option maxRecDepth 8000 in
set_option maxHeartbeats 2000000 in
theorem Lp(ks:List Kind)(l:List Comp)(h12:ks.length<=12)(hl:l.length<=1099511627776):PS Try.prog 59 [AS false false ks,Az false false l] (.tup [Az true false (Dr ks l).1,iA (Dr ks l).2]):=by
 have hck:=FI ks;obtain⟨r,hr⟩:∃r,Dr ks l=r:=⟨_,rfl⟩;rw[hr];unfold Dr at hr;have hlm:(l.map (AE false)).length=l.length:=List.length_map _;have hkm:(ks.map (AU false)).length=ks.length:=List.length_map _;refine AC (nt:=64) (res:=[.tmp 4,.tmp 5]) Try.func59 rfl (by kernel_rfl) rfl rfl rfl λSf=>?_
 (repeat first|(refine AOps.gN ?_;first|(refine AOps.g_callf ?_;first|refine AOps.c1 (h:=(hck ..)) (k:=?_)))|refine WK ?_|refine Ai λX=>?_|refine Ay λY=>?_);refine AWP.cond rfl (λhc=>?_) (λhc=>?_)
 ·have hc:Ag ks≠0:=by simpa using hc
  rw[if_pos hc]at hr;subst hr;(repeat first|refine WK ?_|refine Ai λX=>?_|refine Ay λY=>?_);refine RT ?_;exact Bl [.prim (.slice none 0 0),iA (Ag ks)] [Az true false [],iA (Ag ks)] (.cons (.cell .nil) (.cons (.cell .same) .nil))
 have hc:Ag ks=0:=by simpa using hc
 rw[if_neg (by simp[hc])]at hr;have hgo:=λh=>Ht (ks:=ks) (l:=l) (pre:=[]) (out:=[]) h (by simp) (by simp) (by simp)
 obtain⟨g,hg⟩:∃g,B4 ks [] [] l=g:=⟨_,rfl⟩;rw[hg]at hr hgo;(repeat first|refine WK ?_|refine Ai λX=>?_|refine Ay λY=>?_);refine AWP.adopt (d:=7) 55 2 rfl λO=>?_
 refine Ek (λ(q Y m:Nat) (M:List AV)=>⟨[(0,AS false false ks),(1,Az false false l),(7,.sl Y 0 m),(17,Az false false l),(18,iA (l.map (AE false)).length),(19,iA q)],(Y,.row 55 2 M)::Sf⟩) (λq _ m M=>q<=l.length/\m=M.length/\m=q/\∃out:List Comp,M=out.map (AE false)/\B4 ks (l.take q) out (l.drop q)=g) (λq _ _ _=>l.length-q) 0 O 0 [] ⟨Nat.zero_le _,rfl,rfl,[],rfl,hg⟩ ?_;rintro q Y m M ⟨hq,hm,hmq,out,hM,hfold⟩;(repeat first|refine WK ?_|refine Ai λX=>?_|refine Ay λY=>?_);refine AWP.cond rfl (λhe=>?_) (λhe=>?_)
 ·have h:q<l.length:=by rw[decide_eq_true_eq,hlm]at he;omega
  obtain⟨c,hcq⟩:∃c,l[q]=c:=⟨_,rfl⟩;have hat:(l.map (AE false))[q]?=some (AE false c):=by rw[List.getElem?_map,List.getElem?_eq_getElem h,hcq];rfl
  rw[List.drop_eq_getElem_cons h,hcq,B4]at hfold;have hcf:=D5 (l.take q) 77 [.fp (AE false c).cells] (λo=>decide (o.kind=c.kind)) rfl (by rw[List.length_take];omega) (λo _=>MP o c);obtain⟨ck,cv⟩:=c;dsimp only at hfold hcf;rw[List.map_take]at hcf;(repeat first|refine WK ?_|refine Ai λV=>?_|refine Ay λY=>?_);refine AWP.cond rfl (λhd=>?_) (λhd=>?_)
  ·have hb:ck<0\/(ks.length:Int)<=ck:=by simpa using hd
   rw[if_pos hb]at hfold;subst hfold;rw[if_pos (by decide)]at hr;subst hr;(repeat first|refine WK ?_|refine Ai λX=>?_|refine Ay λY=>?_);refine RT ?_;exact Bl [.prim (.slice none 0 0),iA 1] [Az true false [],iA 1] (.cons (.cell .nil) (.cons (.cell .same) .nil))
  have hb:¬(ck<0\/(ks.length:Int)<=ck):=by simpa using hd
  rw[if_neg hb]at hfold;obtain⟨j,hj⟩:∃j:Nat,ck=j:=⟨ck.toNat,by omega⟩;subst hj;have hjl:j<ks.length:=by omega
  rw[Int.toNat_natCast,List.getElem?_eq_getElem hjl]at hfold;obtain⟨k,hk⟩:∃k,ks[j]=k:=⟨_,rfl⟩;rw[hk]at hfold;dsimp only at hfold;have hatk:(ks.map (AU false))[j]?=some (AU false k):=by rw[List.getElem?_map,List.getElem?_eq_getElem hjl,hk];rfl
  have hft:=LI k cv;refine AWP.iceP [9] (X:=V) (by exact At.f) (b:=AE false ⟨j,cv⟩) (hf:=⟨by show(AV.agg [iA (j:Int),Af false cv]).frz=_;exact Frz.h⟩) ?_ (by intro d hd;simp only[List.mem_singleton]at hd;subst hd;rfl);(repeat first|(refine AOps.gN ?_;first|(refine AOps.g_callf ?_;first|refine AOps.c2 (h:=(hcf ..)) (k:=?_))|refine AOps.p (W.hiL rfl rfl rfl (by rw[hlm];exact hq)) rfl ?_)|refine WK ?_|refine Ai λX=>?_|refine Ay λY=>?_);refine AWP.cond rfl (λhd2=>?_) (λhd2=>?_)
  ·rw[if_pos hd2]at hfold
   subst hfold;rw[if_pos (by decide)]at hr;subst hr;(repeat first|refine WK ?_|refine Ai λX=>?_|refine Ay λY=>?_);refine RT ?_;exact Bl [.prim (.slice none 0 0),iA 5] [Az true false [],iA 5] (.cons (.cell .nil) (.cons (.cell .same) .nil))
  rw[if_neg (by simp[hd2])]at hfold;refine RU ?_;(repeat first|(refine RGo.gN ?_;first|refine RGo.c2 (h:=hft) (k:=?_))|(refine AX ?_;first|refine RGo.c2 (h:=hft) (k:=?_))|refine RK ?_|refine RGo.nil (by kernel_rfl) ?_);(repeat first|refine WK ?_|refine Ai λX=>?_|refine Ay λY=>?_);refine AWP.cond rfl (λhd3=>?_) (λhd3=>?_)
  ·have hd3:(Ak k cv).2≠0:=by simpa using hd3
   rw[if_pos hd3]at hfold;subst hfold;rw[if_pos hd3]at hr;subst hr;(repeat first|refine WK ?_|refine Ai λX=>?_|refine Ay λY=>?_);refine RT ?_;exact Bl [.prim (.slice none 0 0),iA _] [Az true false [],iA _] (.cons (.cell .nil) (.cons (.cell .same) .nil))
  have hd3:(Ak k cv).2=0:=by simpa using hd3
  rw[if_neg (by simp[hd3])]at hfold;have hm1:m+1<=1099511627776:=by omega
  (repeat first|(refine AOps.gN ?_;first|(refine AOps.g_lit ?_;refine AOps.goL (AE false ⟨j,(Ak k cv).1⟩) ?_))|refine WK ?_|refine Ai λX=>?_|refine Ay λY=>?_);refine Co (q+1) Y (m+1) (M++[AE false ⟨j,(Ak k cv).1⟩]) ⟨h,by rw[List.length_append,hm];rfl,by omega,out++[⟨j,(Ak k cv).1⟩],by rw[hM,List.map_append];rfl,?_⟩;rw[List.take_succ_eq_append_getElem h,hcq];exact hfold
 ·have h:q=l.length:=by rw[decide_eq_false_iff_not,hlm]at he;omega
  rw[h,List.take_length,List.drop_length,B4]at hfold;subst hfold;dsimp only at hr hgo;rw[if_neg (by simp)]at hr;subst hr;obtain⟨hg1,hg2⟩:=hgo rfl;have hlen:out.length<=12:=Nat.le_trans (HZ Comp.kind _ _ hg1 hg2) h12;obtain⟨u,⟨hu1,hu2⟩,hsf⟩:=GQ 80 [] (λx y=>DN x.kind y.kind) rfl (Lw Comp.kind) (λx y=>MO x y) Y m out (by rw[hm,hM,List.length_map]) hlen;rw[<-hM]at hsf;(repeat first|(refine AOps.gN ?_;first|(refine AOps.g_callf ?_;first|refine AOps.o2 (h:=(hsf ..)) (k:=?_)))|refine WK ?_|refine Ai λX=>?_|refine Ay λY=>?_);have hu:u=F3 out:=E1 hg1 hu1 (hu2.imp λ{a b} hab=>by simp only[CN,decide_eq_false_iff_not,Dj]at hab;omega);have hul:m=(u.map (AE false)).length:=by rw[hm,hM,List.length_map,List.length_map,hu1.length_eq]
  refine RT ?_;rw[<-hu];exact Bl [.sl Y 0 m,iA 0] [Az true false u,iA 0] (.cons (.cell (.sl (p:=0) .here hul)) (.cons (.cell .same) .nil))
end
set_option maxHeartbeats 1000000 in
theorem IY(X V n i:Nat)(l:List AV)(e:AV)(hn:n=l.length)(hi:i<=n)(hb:(n+1)*40<=140737488355328)(hfr:FreeL l)(hfe:FreeE e)(hw:∀x∈l,x.width=3)(hwe:e.width=3)(hze:AV.frzs [e]=[e]):
  Spec Try.prog 64 [.sl X 0 n,iA i,.sl V 0 1] [(X,.row 53 3 l),(V,.row 53 3 [e])] λr S'=>r= .lst true 53 3 (l.take i++e::l.drop i)/\S'=[]:=by
 refine AC (nt:=95) (res:=[.tmp 6]) Try.func64 rfl (by kernel_rfl) rfl rfl rfl λSf=>?_
 have hfV:FreeL [e]:=λx hx=>by rw[List.mem_singleton.1 hx];exact hfe
 have hwV:∀x∈[e],x.width=3:=λx hx=>by rw[List.mem_singleton.1 hx];exact hwe
 refine RG ?_;(repeat first|refine WO ?_|refine Ai λX=>?_|refine Ay λY=>?_);refine NL ?_;refine RG ?_;(repeat first|(refine AOps.gN ?_;first|refine AOps.p (W.slice_lo rfl rfl (by exact At.f) rfl (by omega)) rfl ?_)|refine WO ?_|refine Ai λX=>?_|refine Ay λY=>?_);refine NL ?_;refine RG ?_;(repeat first|refine WO ?_|refine Ai λX=>?_|refine Ay λY=>?_);refine NL ?_;refine RG ?_;(repeat first|refine WO ?_|refine Ai λX=>?_|refine Ay λY=>?_);refine NL ?_;refine AN rfl rfl ?_;refine RG ?_;(repeat first|refine WO ?_|refine Ai λX=>?_|refine Ay λY=>?_);refine NL ?_;refine RG ?_;(repeat first|refine WO ?_|refine Ai λX=>?_|refine Ay λY=>?_);refine NL ?_;by_cases hin:i=n
 ·refine Ac rfl (decide_eq_true (by omega)) ?_
  refine IC 2 [e] hze ?_;have hbb:(n+[e].length)*40<=140737488355328:=hb;(repeat first|refine WK ?_|refine Ai λX=>?_|refine Ay λY=>?_);refine RT ?_;have hm:n+[e].length=(l++[e]).length:=by rw[List.length_append,hn]
  have hr:l++[e]=l.take i++e::l.drop i:=by rw[hin,hn,List.take_length,List.drop_length]
  rw[<-hr];exact⟨[.sl Y 0 (n+[e].length)],[.lst true 53 3 (l++[e])],_,[],.cons (.tmp rfl) rfl .nil,.cons (.cell (.sl (p:=0) .here hm)) .nil,by exact Sub.f,rfl,rfl⟩
 ·refine AN rfl (decide_eq_false (by omega)) ?_
  refine AWP.cap X λZ c u0 hc hnc=>?_
  refine RG ?_;(repeat first|(refine AOps.gN ?_;first|refine AOps.p (W.cap hc rfl (by exact At.f) (by exact At.f)) rfl ?_)|refine WO ?_|refine Ai λX=>?_|refine Ay λY=>?_);refine NL ?_;refine AWP.cond rfl (λhg=>?_) (λhg=>?_)
  ·have hcn:c<n+1:=by rw[decide_eq_true_eq]at hg;omega
   refine AWP.rs λY=>?_
   refine RG ?_;(repeat first|(refine AOps.gN ?_;first|refine AOps.p (W.hi (a:=i) rfl rfl (by exact At.f) rfl hi) rfl ?_|refine AOps.p (Bu ((n+1-i:Nat):Int) (by omega) (by omega) rfl rfl) rfl ?_|refine AOps.s (MZ (n+1-i) hc rfl rfl (by exact At.f) (by exact At.f) (by exact At.f) rfl (by exact .inl rfl) (by rfl) (by kernel_rfl) (by omega) (by omega) (by decide) (by omega) (by omega) hfr) rfl ?_)|refine WO ?_|refine Ai λX=>?_|refine Ay λY=>?_);have hsum:i+(n+1-i)=n+1:=by omega
   obtain⟨l1,hl1⟩:∃l1,l.take i++List.replicate (n+1-i) (zAV [.int .i64 0,.int .i64 0,.slice none 0 0] true)=l1:=⟨_,rfl⟩;have hti:(l.take i).length=i:=by rw[List.length_take];omega
   have hl1n:l1.length=n+1:=by rw[<-hl1,List.length_append,hti,List.length_replicate,hsum]
   have hfr1:FreeL l1:=λx hx=>by
    rw[<-hl1]at hx;rcases List.mem_append.1 hx with hx|hx
    ·exact hfr x (List.mem_of_mem_take hx)
    ·rw[List.eq_of_mem_replicate hx]
     exact FreeE.agg (us:=[.prim (.int .i64 0),.prim (.int .i64 0),.prim (.slice none 0 0)]) λy hy=>by
      simp only[List.mem_cons,List.not_mem_nil,or_false]at hy;rcases hy with rfl|rfl|rfl<;>exact FreeE.prim _
   have htk:l1.take i=l.take i:=by rw[<-hl1,List.take_left' hti]
   rw[hl1,hsum];refine FL ?_;refine RG ?_;(repeat first|(refine AOps.gN ?_;first|refine AOps.p (W.slice_lo rfl rfl (by exact At.f) rfl (by omega)) rfl ?_|refine AOps.s (W.copyO 1 rfl rfl (by exact At.f) (by exact At.f) (by rfl) (by omega) (by omega) (by omega) (by omega) (by exact Nat.le_refl _) hfr1 hfV hwV) rfl ?_)|refine WO ?_|refine Ai λX=>?_|refine Ay λY=>?_);obtain⟨l2,hl2⟩:∃l2,l1.take (0+i)++([e].drop 0).take 1++l1.drop (0+i+1)=l2:=⟨_,rfl⟩;rw[hl2];have hl2n:l2.length=n+1:=by rw[<-hl2];simp only[List.length_append,List.length_take,List.length_drop,List.length_singleton];omega
   have hfr2:FreeL l2:=λx hx=>by
    rw[<-hl2]at hx;rcases List.mem_append.1 hx with hx|hx
    ·rcases List.mem_append.1 hx with hx|hx
     ·exact hfr1 x (List.mem_of_mem_take hx)
     ·exact hfV x (List.mem_of_mem_drop (List.mem_of_mem_take hx))
    ·exact hfr1 x (List.mem_of_mem_drop hx)
   have htk2:l2.take (0+(i+1))=l.take i++[e]:=by
    rw[<-hl2,Nat.zero_add,Nat.zero_add,htk];exact List.take_left' (by simp[hti])
   refine FL ?_;refine RU ?_;(repeat first|(refine RGo.gN ?_;first|refine RGo.go (h:=Bj ((i+1:Nat):Int) (by omega) (by omega) rfl rfl) (k:=?_)|refine RGo.go (h:=W.slice_lo rfl rfl (by exact At.f) rfl (by omega)) (k:=?_)|refine RGo.goS (h:=W.copyO (n-i) rfl rfl (by exact At.f) (by exact At.f) (by rfl) (by omega) (by omega) (by omega) (by omega) (by omega) hfr2 hfr hw) (k:=?_))|(refine AX ?_;first|refine RGo.go (h:=Bj ((i+1:Nat):Int) (by omega) (by omega) rfl rfl) (k:=?_)|refine RGo.go (h:=W.slice_lo rfl rfl (by exact At.f) rfl (by omega)) (k:=?_)|refine RGo.goS (h:=W.copyO (n-i) rfl rfl (by exact At.f) (by exact At.f) (by rfl) (by omega) (by omega) (by omega) (by omega) (by omega) hfr2 hfr hw) (k:=?_))|refine RK ?_|refine RGo.nil (by kernel_rfl) ?_);obtain⟨l3,hl3⟩:∃l3,l2.take (0+(i+1))++(l.drop (0+i)).take (n-i)++l2.drop (0+(i+1)+(n-i))=l3:=⟨_,rfl⟩;rw[hl3]
   have hr:l3=l.take i++e::l.drop i:=by
    have e1:l2.drop (0+(i+1)+(n-i))=[]:=List.drop_of_length_le (by omega);have e2:(l.drop (0+i)).take (n-i)=l.drop i:=by rw[Nat.zero_add];exact List.take_of_length_le (by rw[List.length_drop];omega)
    rw[<-hl3,htk2,e1,e2,List.append_nil,List.append_assoc];rfl
   have hm:n+1=l3.length:=by
    rw[hr];simp only[List.length_append,List.length_cons,List.length_drop,hti];omega
   (repeat first|refine WK ?_|refine Ai λX=>?_|refine Ay λY=>?_);refine RT ?_;rw[<-hr];exact⟨[.sl Y 0 (n+1)],[.lst true 53 3 l3],_,[],.cons (.tmp rfl) rfl .nil,.cons (.cell (.sl (p:=0) .here hm)) .nil,by exact Sub.f,rfl,rfl⟩
  ·have hcn:n+1<=c:=by rw[decide_eq_false_iff_not]at hg;omega
   refine RG ?_;(repeat first|(refine AOps.gN ?_;first|refine AOps.p (LW (n+1) hc rfl rfl (by exact At.f) (by exact At.f) (by omega) hcn) rfl ?_)|refine WO ?_|refine Ai λX=>?_|refine Ay λY=>?_);refine NL ?_;refine RG ?_;(repeat first|(refine AOps.gN ?_;first|refine AOps.p (Bj ((i+1:Nat):Int) (by omega) (by omega) rfl rfl) rfl ?_|refine AOps.p (W.slice_lo rfl rfl (by exact At.f) rfl (by omega)) rfl ?_)|refine WO ?_|refine Ai λX=>?_|refine Ay λY=>?_);refine AOps.p (W.over (t:=41) (tR:=4) Try.func81 (by kernel_rfl) (by kernel_rfl) (by kernel_rfl) (by kernel_rfl) rfl rfl (by exact At.f) (by exact At.f) (by rfl) (by decide) (by omega) (by omega)) rfl ?_;(repeat first|refine WO ?_|refine Ai λX=>?_|refine Ay λY=>?_);refine FL ?_;refine Ac rfl rfl ?_;refine RU ?_;(repeat first|(refine RGo.gN ?_;first|refine RGo.go (h:=Bj ((i+1:Nat):Int) (by omega) (by omega) rfl rfl) (k:=?_)|refine RGo.go (h:=W.slice_lo rfl rfl (by exact At.f) rfl (by omega)) (k:=?_)|refine RGo.goS (h:=W.copyS (n-i) rfl rfl (by exact At.f) (by omega) (by omega) (by omega) (by omega) (by omega) hfr hw) (k:=?_))|(refine AX ?_;first|refine RGo.go (h:=Bj ((i+1:Nat):Int) (by omega) (by omega) rfl rfl) (k:=?_)|refine RGo.go (h:=W.slice_lo rfl rfl (by exact At.f) rfl (by omega)) (k:=?_)|refine RGo.goS (h:=W.copyS (n-i) rfl rfl (by exact At.f) (by omega) (by omega) (by omega) (by omega) (by omega) hfr hw) (k:=?_))|refine RK ?_|refine RGo.nil (by kernel_rfl) ?_);have hti:(l.take i).length=i:=by rw[List.length_take];omega
   obtain⟨l1,hl1⟩:∃l1,l.take (0+(i+1))++(l.drop (0+i)).take (n-i)++l.drop (0+(i+1)+(n-i))=l1:=⟨_,rfl⟩;rw[hl1];have hti1:(l.take (i+1)).length=i+1:=by rw[List.length_take];omega
   have hl1e:l1=l.take (i+1)++l.drop i:=by
    have e1:l.drop (0+(i+1)+(n-i))=[]:=List.drop_of_length_le (by omega);have e2:(l.drop (0+i)).take (n-i)=l.drop i:=by rw[Nat.zero_add];exact List.take_of_length_le (by rw[List.length_drop];omega)
    rw[<-hl1,e1,e2,List.append_nil,Nat.zero_add]
   have hfr1:FreeL l1:=λx hx=>by
    rw[hl1e]at hx;rcases List.mem_append.1 hx with hx|hx
    ·exact hfr x (List.mem_of_mem_take hx)
    ·exact hfr x (List.mem_of_mem_drop hx)
   have hl1n:l1.length=n+1:=by rw[hl1e,List.length_append,hti1,List.length_drop];omega
   have htk:l1.take i=l.take i:=by rw[hl1e,List.take_append_of_le_length (by omega),List.take_take,Nat.min_eq_left (by omega)]
   have hdr:l1.drop (i+1)=l.drop i:=by rw[hl1e,List.drop_left' hti1]
   refine RG ?_;(repeat first|(refine AOps.gN ?_;first|refine AOps.p (W.slice_lo rfl rfl (by exact At.f) rfl (by omega)) rfl ?_|refine AOps.s (W.copyO 1 rfl rfl (by exact At.f) (by exact At.f) (by rfl) (by omega) (by omega) (by omega) (by omega) (by exact Nat.le_refl _) hfr1 hfV hwV) rfl ?_)|refine WO ?_|refine Ai λX=>?_|refine Ay λY=>?_);obtain⟨l2,hl2⟩:∃l2,l1.take (0+i)++([e].drop 0).take 1++l1.drop (0+i+1)=l2:=⟨_,rfl⟩;rw[hl2]
   have hr:l2=l.take i++e::l.drop i:=by
    rw[<-hl2,Nat.zero_add,htk,hdr,List.append_assoc];rfl
   have hm:n+1=l2.length:=by
    rw[hr];simp only[List.length_append,List.length_cons,List.length_drop,hti];omega
   refine FL ?_;(repeat first|refine WK ?_|refine Ai λX=>?_|refine Ay λY=>?_);refine RT ?_;rw[<-hr];exact⟨[.sl X 0 (n+1)],[.lst true 53 3 l2],_,[],.cons (.tmp rfl) rfl .nil,.cons (.cell (.sl (p:=1) (.next .here) hm)) .nil,by exact Sub.f,rfl,rfl⟩
theorem HL(l:List Item)(t:AV)(f:FuncId)(cap:List AV)(g:Item->Int)(t0:Int)(ht:t=iA t0)(hs:BN cap=true)(hl:l.length<=4611686018427387904)(hf:∀x∈l,PS Try.prog f (AH false x::t::cap) (iA (g x))):
  Spec Try.prog 61 [BJ false false l,t,.fn f cap] [] λr S'=>∃b,Found g l b/\r= .tup [iA b.1,bA b.2]/\S'=[]:=by
 subst ht;refine AC (nt:=49) (res:=[.tmp 6,.tmp 7]) Try.func61 rfl (by kernel_rfl) rfl rfl rfl λSf=>?_
 have hlm:(l.map (AH false)).length=l.length:=List.length_map _;(repeat first|refine WK ?_|refine Ai λX=>?_|refine Ay λY=>?_);refine A3 (λ(i j:Nat)=>⟨[(0,BJ false false l),(1,iA t0),(2,.fn f cap),(8,iA (l.map (AH false)).length),(9,iA i),(10,iA j)],Sf⟩) (λi j=>i<=j/\j<=l.length/\(IB g l->Spl g l i j)) (λi j=>j-i) 0 (l.map (AH false)).length ⟨Nat.zero_le _,by omega,λ_=>⟨λk x h=>absurd h (by omega),λk x h hx=>by have:=(List.getElem?_eq_some_iff.1 hx).1;omega⟩⟩ ?_;rintro i j ⟨hij,hjn,hmono⟩;(repeat first|refine WK ?_|refine Ai λX=>?_|refine Ay λY=>?_);refine AWP.cond rfl (λhc=>?_) (λhc=>?_)
 ·have h:i<j:=by rw[decide_eq_true_eq]at hc;omega
  have hmid:((i:Int)+j).fdiv (2^1)=(((i+j)/2:Nat):Int):=by
   rw[Int.fdiv_eq_ediv_of_nonneg _ (by decide)];omega
  have hw1:IntKind.u64.wrap ((i:Int)+j)=i+j:=by rw[IntKind.wrap_u64];omega
  have hw2:IntKind.i64.wrap (((i:Int)+j).fdiv (2^1))=((i:Int)+j).fdiv (2^1):=by
   rw[IntKind.wrap_i64,hmid];omega
  refine RG ?_;(repeat first|(refine AOps.gN ?_;first|refine AOps.p (W.conv .i64 .u64 (by kernel_rfl) (by kernel_rfl) rfl hw1) rfl ?_|refine AOps.p (W.shr 1 rfl rfl rfl (by decide)) rfl ?_|refine AOps.p (W.conv .u64 .i64 (by kernel_rfl) (by kernel_rfl) rfl hw2) rfl ?_)|refine WO ?_|refine Ai λX=>?_|refine Ay λY=>?_);refine NL ?_;rw[hmid];obtain⟨m,hm⟩:∃m,(i+j)/2=m:=⟨_,rfl⟩;rw[hm];have hml:m<l.length:=by omega
  obtain⟨y,hy⟩:∃y,l[m]=y:=⟨_,rfl⟩;have hya:l[m]?=some y:=by rw[List.getElem?_eq_getElem hml,hy]
  have hat:(l.map (AH false))[m]?=some (AH false y):=by rw[List.getElem?_map,hya];rfl
  have hfy:=hf y (by rw[<-hy];exact List.getElem_mem hml);refine RG ?_;(repeat first|(refine AOps.gN ?_;first|(refine AOps.g_callv ?_;first|refine AOps.k2 (h:=(hfy ..)) (k:=?_)))|refine WO ?_|refine Ai λX=>?_|refine Ay λY=>?_);refine NL ?_;refine AWP.cond rfl (λhe=>?_) (λhe=>?_)
  ·have he:g y<0:=by simpa using he
   (repeat first|refine WK ?_|refine Ai λX=>?_|refine Ay λY=>?_);refine Ae (m+1) j ⟨by omega,hjn,λhM=>(hmono hM).lo hM hya he⟩
  ·have he:¬g y<0:=by simpa using he
   (repeat first|refine WK ?_|refine Ai λX=>?_|refine Ay λY=>?_);refine Ae i m ⟨by omega,by omega,λhM=>(hmono hM).hi hM hya he⟩
 ·have h:i=j:=by rw[decide_eq_false_iff_not]at hc;omega
  subst h;by_cases hin:i<l.length
  ·have hil:i<l.length:=by omega
   have g1:decide ((i:Int)<(l.map (AH false)).length)=true:=decide_eq_true (by omega);obtain⟨y,hy⟩:∃y,l[i]=y:=⟨_,rfl⟩;have hya:l[i]?=some y:=by rw[List.getElem?_eq_getElem hil,hy]
   have hat:(l.map (AH false))[i]?=some (AH false y):=by rw[List.getElem?_map,hya];rfl
   have hfy:=hf y (by rw[<-hy];exact List.getElem_mem hil);(repeat first|(refine AOps.gN ?_;first|(refine AOps.g_callv ?_;first|refine AOps.k2 (h:=(hfy ..)) (k:=?_)))|refine WK ?_|refine Ai λX=>?_|refine Ay λY=>?_);refine RT ?_;exact⟨[iA i,bA (decide (g y=0))],[iA i,bA (decide (g y=0))],_,[],.cons (.tmp rfl) rfl (.cons (.tmp rfl) rfl .nil),.cons (.cell .same) (.cons (.cell .same) .nil),by exact Sub.f,(i,decide (g y=0)),⟨by simp;omega,by simp[hya],hmono⟩,rfl,rfl⟩
  ·have g1:decide ((i:Int)<(l.map (AH false)).length)=false:=decide_eq_false (by omega)
   (repeat first|refine WK ?_|refine Ai λX=>?_|refine Ay λY=>?_);refine RT ?_;exact⟨[iA i,bA false],[iA i,bA false],_,[],.cons (.tmp rfl) rfl (.cons (.tmp rfl) rfl .nil),.cons (.cell .same) (.cons (.cell .same) .nil),by exact Sub.f,(i,false),⟨by simp;omega,by simp[List.getElem?_eq_none (show l.length<=i by omega)],hmono⟩,rfl,rfl⟩
theorem Ji(x:Item)(k:Int):PS Try.prog 62 [AH false x,iA k] (iA (DN x.ent.n k)):=by
 refine AC (nt:=10) (res:=[.tmp 4]) Try.func62 rfl (by kernel_rfl) rfl rfl rfl λSf=>?_
 (repeat first|(refine AOps.gN ?_;first|(refine AOps.g_callf ?_;first|refine AOps.c2 (h:=(FG x.ent.n k)) (k:=?_))|(refine AOps.g_box ?_;refine BG ?_))|refine WK ?_|refine Ai λX=>?_|refine Ay λY=>?_);refine RT ?_;refine AF ?_;rfl
def wdS(w:Wd):AV:=.agg [AS false false w.kinds,Af true w.gens,BJ true false w.items]
instance {w:Wd}:Frz (wdS w) (wdA false w):=⟨by unfold wdS wdA;exact Frz.h⟩
set_option maxHeartbeats 1000000 in
theorem Kk(w:Wd)(l:List Comp)(hw:WdL w)(h12:w.kinds.length<=12)(hl:l.length<=1099511627776):PS Try.prog 35 [wdA false w,Az false false l] (.tup [wdS (CX w l).1,Ec (CX w l).2.1,iA (CX w l).2.2]):=by
 have hck:=KL w hw.gens hw.items.1 (λit hit=>(hw.items.2 it hit).1);have hft:=Lp w.kinds l h12 hl;have hfr:=ML w hw.gens hw.items.1;have hcp:=JO w hw;obtain⟨r,hr⟩:∃r,CX w l=r:=⟨_,rfl⟩;rw[hr];unfold CX at hr;obtain⟨we,hwe⟩:∃we,EG w=we:=⟨_,rfl⟩;rw[hwe]at hck hr;refine AC (nt:=80) (res:=[.cell 4 43,.cell 5 50,.tmp 6]) Try.func35 rfl (by kernel_rfl) rfl rfl rfl λSf=>?_
 (repeat refine WF ?_);refine AWP.region ?_;refine Do λP=>?_
 refine Do λR=>?_
 refine Do λQ=>?_
 (repeat first|refine WO ?_|refine Ai λX=>?_|refine Ay λY=>?_);refine FL ?_;(repeat first|(refine AOps.gN ?_;first|(refine AOps.g_callf ?_;first|refine AOps.c1 (h:=(hck ..)) (k:=?_)))|refine WK ?_|refine Ai λX=>?_|refine Ay λY=>?_);by_cases hd:we≠0
 ·rw[if_pos hd]at hr
  subst hr;refine Ac rfl (decide_eq_true hd) ?_;(repeat first|refine WK ?_|refine Ai λX=>?_|refine Ay λY=>?_);refine RT ?_;exact Bl [.agg [.prim (.slice none 0 0),.prim (.slice none 0 0),.prim (.slice none 0 0)],Ec ⟨0,0⟩,iA we] [wdS wdE,Ec ⟨0,0⟩,iA we] (.cons (.agg (.cons .nil (.cons .nil (.cons .nil .nil)))) (.cons (.agg (.cons .same (.cons .same .nil))) (.cons (.cell .same) .nil)))
 rw[if_neg hd]at hr;refine AN rfl (decide_eq_false hd) ?_;(repeat first|(refine AOps.gN ?_;first|(refine AOps.g_callf ?_;first|refine AOps.c2 (h:=(hft ..)) (k:=?_)))|refine WK ?_|refine Ai λX=>?_|refine Ay λY=>?_);by_cases hf:(Dr w.kinds l).2≠0
 ·rw[if_pos hf]at hr
  subst hr;refine Ac rfl (decide_eq_true hf) ?_;(repeat first|refine WK ?_|refine Ai λX=>?_|refine Ay λY=>?_);refine RT ?_;exact Bl [.agg [.prim (.slice none 0 0),.prim (.slice none 0 0),.prim (.slice none 0 0)],Ec ⟨0,0⟩,iA _] [wdS wdE,Ec ⟨0,0⟩,iA _] (.cons (.agg (.cons .nil (.cons .nil (.cons .nil .nil)))) (.cons (.agg (.cons .same (.cons .same .nil))) (.cons (.cell .same) .nil)))
 rw[if_neg hf]at hr;obtain⟨cs,hcs⟩:∃cs,(Dr w.kinds l).1=cs:=⟨_,rfl⟩;rw[hcs]at hr;refine AN rfl (decide_eq_false hf) ?_;(repeat first|(refine AOps.gN ?_;first|(refine AOps.g_callf ?_;first|refine AOps.c1 (h:=(hfr ..)) (k:=?_)))|refine WK ?_|refine Ai λX=>?_|refine Ay λY=>?_);have hok:=(Dq w).1 (hwe.trans (by simpa using hd));by_cases hb:(A9 w).2=false
 ·rw[if_pos hb]at hr
  subst hr;refine Ac rfl (by rw[hb];rfl) ?_;(repeat first|refine WK ?_|refine Ai λX=>?_|refine Ay λY=>?_);refine RT ?_;exact Bl [.agg [.prim (.slice none 0 0),.prim (.slice none 0 0),.prim (.slice none 0 0)],Ec ⟨0,0⟩,iA 6] [wdS wdE,Ec ⟨0,0⟩,iA 6] (.cons (.agg (.cons .nil (.cons .nil (.cons .nil .nil)))) (.cons (.agg (.cons .same (.cons .same .nil))) (.cons (.cell .same) .nil)))
 rw[if_neg hb]at hr;have hb:(A9 w).2=true:=by simpa using hb
 obtain⟨f1,f2,f3,f4⟩:=Id hok hb;refine AN rfl (by rw[hb];rfl) ?_;obtain⟨n,hn⟩:∃n,(A9 w).1=n:=⟨_,rfl⟩;rw[hn]at hr f1 f2 f3 f4⊢;obtain⟨g1,g2,g3,g4,g5,g6⟩:=LG f1;refine AWP.rs λI=>AWP.rs λG=>?_
 refine RG ?_;(repeat first|(refine AOps.gN ?_;first|(refine AOps.g_callf ?_;first|refine AOps.z1 (h:=hcp) (hT:=.v (.agg (.cons .fz (.cons (.lst (Y:=G) rfl) (.cons (.lst (Y:=I) rfl) .nil))))) (k:=?_)))|refine WO ?_|refine Ai λX=>?_|refine Ay λY=>?_);refine NL ?_;have hgm:(w.gens.map iA).length=w.gens.length:=List.length_map _;have him:(w.items.map CP).length=w.items.length:=List.length_map _;have hgl:=hok.gl;have hil:=hw.items.1;refine RG ?_;(repeat first|refine WO ?_|refine Ai λX=>?_|refine Ay λY=>?_);refine NL ?_;refine GK (λb:Nat×Nat×List AV=>b.2.1=b.2.2.length/\b.2.2=(B2 w.gens n).map iA) (λb=>⟨[(2,.ptr P 0 0),(4,.ptr R 0 0),(5,.ptr Q 0 0),(8,Az false false (Dr w.kinds l).1),(10,iA n)],(b.1,.row 3 1 b.2.2)::(I,.row 53 3 (w.items.map CP))::(Q,.row 50 2 [Ec ⟨0,0⟩])::(R,.row 43 3 [.agg [.prim (.slice none 0 0),.prim (.slice none 0 0),.prim (.slice none 0 0)]])::(P,.row 43 3 [.agg [AS false false w.kinds,.sl b.1 0 b.2.1,.sl I 0 (w.items.map CP).length]])::Sf⟩) ?_ ?_
 ·by_cases hc:n=w.gens.length
  ·refine Ac rfl (decide_eq_true (by omega)) ?_
   have hb1:(w.gens.map iA).length+1<=1099511627776:=by omega
   (repeat first|(refine AOps.gN ?_;first|(refine AOps.g_lit ?_;refine AOps.goL (iA 0) ?_))|refine WK ?_|refine Ai λX=>?_|refine Ay λY=>?_);exact jn (Y,(w.gens.map iA).length+1,w.gens.map iA++[iA 0]) ⟨by simp,by unfold B2;rw[if_pos hc,List.map_append];rfl⟩
  ·refine AN rfl (decide_eq_false (by omega)) ?_
   (repeat first|refine WK ?_|refine Ai λX=>?_|refine Ay λY=>?_);exact jn (G,(w.gens.map iA).length,w.gens.map iA) ⟨rfl,by unfold B2;rw[if_neg hc]⟩
 ·rintro⟨G,m,L⟩ ⟨hm,hL⟩
  dsimp only at hm hL⊢;obtain⟨gens,hgens⟩:∃gens,B2 w.gens n=gens:=⟨_,rfl⟩;rw[hgens]at hL g1 g2 hr;obtain⟨g,hg⟩:∃g,gens.getD n 0=g:=⟨_,rfl⟩;rw[hg]at g2 hr;have hat:L[n]?=some (iA g):=by rw[hL,List.getElem?_map,g2];rfl
  have hnm:n<m:=by rw[hm,hL,List.length_map];exact g1
  refine RG ?_;(repeat first|refine WO ?_|refine Ai λE=>?_|refine Ay λY=>?_);refine NL ?_;have hse:=HL w.items (iA n) 62 [] (λx=>DN x.ent.n n) n rfl rfl (by omega) (λx _=>Ji x n);refine RG ?_;(repeat first|refine WO ?_|refine Ai λX=>?_|refine Ay λY=>?_);refine Lo (h:=hse) (l0:=Ld.row) (l1:=.frz) (l2:=.frz) (k:=λb hb=>?_);have hbi:=KF hok.so hb;have hbl:=hb.le;obtain⟨bi,bb⟩:=b;dsimp only at hbi hbl⊢;(repeat first|refine WO ?_|refine Ai λX=>?_|refine Ay λY=>?_);refine FL ?_;refine AWP.frzRow I (w.items.map (AH false)) (IW w.items) ?_;refine AWP.rs λY=>AWP.rs λK2=>?_
  rw[hcs];have hin2:=(IY I K2 (w.items.map CP).length bi (w.items.map (AH false)) (AH false ⟨⟨n,g⟩,cs⟩) (by simp) (by omega) (by omega) (IX w.items) (F4 _) (J3 w.items) rfl (by show[(AH false ⟨⟨n,g⟩,cs⟩).frz]=_;rw[(inferInstance:Frz (AH false ⟨⟨n,g⟩,cs⟩) (AH false ⟨⟨n,g⟩,cs⟩)).h])).used2;refine RG ?_;(repeat first|(refine AOps.gN ?_;first|(refine AOps.g_callf ?_;first|refine AOps.z3 (h:=hin2) (hT:=.ls (Y:=Y)) (k:=?_))|refine AOps.s (W.lit1 (X:=K2) (l:=[AH false ⟨⟨n,g⟩,cs⟩]) (by exact rfl) (by exact At.f) (by exact rfl) (by exact .inl rfl) (by decide) (by decide) (by exact rfl)) rfl ?_)|refine WO ?_|refine Ai λX=>?_|refine Ay λY=>?_);refine NL ?_;refine RU ?_;(repeat first|refine RK ?_|refine RGo.nil (by kernel_rfl) ?_);refine RT ?_
  have hI:(w.items.map (AH false)).take bi++AH false ⟨⟨n,g⟩,cs⟩::(w.items.map (AH false)).drop bi=(Gg w.items ⟨⟨n,g⟩,cs⟩).map (AH false):=by
   rw[JH,hbi,List.map_append,List.map_cons,List.map_take,List.map_drop]
  rw[hI];subst hr;subst hL;have hlI:((Gg w.items ⟨⟨n,g⟩,cs⟩).map (AH false)).length=((Gg w.items ⟨⟨n,g⟩,cs⟩).map (AH false)).length:=rfl;exact Bl [.agg [AS false false w.kinds,.sl G 0 m,.sl Y 0 ((Gg w.items ⟨⟨n,g⟩,cs⟩).map (AH false)).length],Ec ⟨n,g⟩,iA 0] [wdS ⟨w.kinds,gens,Gg w.items ⟨⟨n,g⟩,cs⟩⟩,Ec ⟨n,g⟩,iA 0] (.cons (.agg (.cons .same (.cons (.sl (p:=3) (by exact At.f) hm) (.cons (.sl (p:=1) (by exact At.f) rfl) .nil)))) (.cons (.agg (.cons .same (.cons .same .nil))) (.cons (.cell .same) .nil)))
def Be(s:List UInt8):List Int:=(s.length:Int)::s.map λb=>(b.toNat:Int)
abbrev IR(l:List Int):AO:=.row 22 1 [Af true l]
theorem K1{s:List UInt8}{i:Nat}(h:i<s.length):(Be s).take (i+2)=(Be s).take (i+1)++[((s.getD i 0).toNat:Int)]:=by
 have hn:i+1<(Be s).length:=by simp[Be];omega
 rw[List.take_succ_eq_append_getElem hn]
 congr 2
 simp[Be,List.getD_eq_getElem?_getD,h]
theorem EK(X:Nat)(l:List Int)(s:List UInt8)(hl:(l++Be s).length*8<=140737488351232):PO Try.prog 69 [sA s,.ptr X 0 0] X (IR l) (.tup []) (IR (l++Be s)):=by
 refine AC (nt:=22) (res:=[]) Try.func69 rfl (by kernel_rfl) rfl rfl rfl λSf=>?_
 have hnl:(Be s).length=s.length+1:=by simp[Be]
 rw[List.length_append,hnl]at hl;refine AWP.thawIn .here (λY=>.head .here) λK=>?_
 have hb:((l.map iA).length+[iA (s.length:Int)].length)*8<=140737488355328:=by simp;omega
 (repeat first|(refine AOps.gN ?_;first|(refine AOps.g_lit ?_;refine AOps.goL (iA (s.length:Int)) ?_))|refine WK ?_|refine Ai λX=>?_|refine Ay λY=>?_);refine Ek (λ(i K n:Nat) (M:List AV)=>⟨[(0,sA s),(1,.ptr X 0 0),(10,iA s.length),(11,iA i)],(K,.row 3 1 M)::(X,.row 22 1 [.sl K 0 n])::Sf⟩) (λi _ n M=>i<=s.length/\n=M.length/\M=(l++(Be s).take (i+1)).map iA) (λi _ _ _=>s.length-i) 0 Y _ _ ⟨Nat.zero_le _,?_,?_⟩ ?_
 ·simp
 ·rw[List.map_append];rfl
 rintro i K n M ⟨hi,hn,hM⟩;(repeat first|refine WK ?_|refine Ai λX=>?_|refine Ay λY=>?_);refine AWP.cond rfl (λhc=>?_) (λhc=>?_)
 ·have h:i<s.length:=by rw[decide_eq_true_eq]at hc;omega
  have hMl:n=l.length+(i+1):=by rw[hn,hM,List.length_map,List.length_append,List.length_take,hnl];omega
  have hb:(n+[iA ((s.getD i 0).toNat:Int)].length)*8<=140737488355328:=by simp;omega
  (repeat first|refine WK ?_|refine Ai λX=>?_|refine Ay λY=>?_);refine AWP.rs λY=>?_
  have hw:IntKind.i64.wrap ((s.getD i 0).toNat:Int)=((s.getD i 0).toNat:Int):=Ba (by omega) (by have:=(s.getD i 0).toNat_lt;omega);refine RU ?_;(repeat first|(refine RGo.gN ?_;first|refine RGo.p (W.conv .u8 .i64 (by kernel_rfl) (by kernel_rfl) rfl hw) rfl ?_|(refine RGo.g_lit ?_;refine RGo.goL (iA ((s.getD i 0).toNat:Int)) ?_))|(refine AX ?_;first|refine RGo.p (W.conv .u8 .i64 (by kernel_rfl) (by kernel_rfl) rfl hw) rfl ?_|(refine RGo.g_lit ?_;refine RGo.goL (iA ((s.getD i 0).toNat:Int)) ?_))|refine RK ?_|refine RGo.nil (by kernel_rfl) ?_);(repeat first|refine WK ?_|refine Ai λX=>?_|refine Ay λY=>?_);refine Co (i+1) Y _ _ ⟨h,?_,?_⟩
  ·rw[List.length_append,<-hn]
  ·rw[K1 h,hM,<-List.append_assoc,List.map_append (l₂:=[_])];rfl
 ·have h:i=s.length:=by rw[decide_eq_false_iff_not]at hc;omega
  subst h;rw[List.take_of_length_le (by omega)]at hM;subst hM;refine AWP.closeIn (X:=K) .here (.next .here) rfl hn (.head .here) ?_;(repeat first|refine WK ?_|refine Ai λX=>?_|refine Ay λY=>?_);refine IM ?_;exact C5 [(X,IR (l++Be s))] ⟨rfl,rfl⟩
def CK(f:Field):List Int:=Be f.name++[f.bits,f.low]
def EI(k:Kind):List Int:=Be k.name++(k.fields.length:Int)::k.fields.flatMap CK
def EO(c:Comp):List Int:=c.kind::(c.vals.length:Int)::c.vals
def Cq(it:Item):List Int:=it.ent.n::it.ent.gen::(it.comps.length:Int)::it.comps.flatMap EO
def Bt(w:Wd):List Int:=(w.kinds.length:Int)::(w.kinds.flatMap EI++((w.gens.length:Int)::(w.gens++((w.items.length:Int)::w.items.flatMap Cq))))
theorem JN{α:Type}{f:α->List Int}{l:List α}{i:Nat}{x:α}(h:i<l.length)(e:l[i]=x):(l.drop i).flatMap f=f x++(l.drop (i+1)).flatMap f:=by
 rw[List.drop_eq_getElem_cons h,e,List.flatMap_cons]
theorem Fp{A B R:List Int}(hl:R.length*8<=140737488351232)(e:A++B=R):A.length*8<=140737488351232:=by
 have:A.length+B.length=R.length:=by rw[<-e,List.length_append]
 omega
set_option maxHeartbeats 4000000 in
set_option maxRecDepth 4000 in
theorem ME(w:Wd)(hl:(Bt w).length*8<=140737488351232)(hw:WdL w):PS Try.prog 52 [wdA false w] (Af true (Bt w)):=by
 obtain⟨R,hR⟩:∃R,Bt w=R:=⟨_,rfl⟩;have hin:=hR;unfold Bt at hin;rw[hR]at hl⊢;obtain⟨ks,gens,items⟩:=w;obtain⟨⟨hk0,hk1⟩,hg,⟨hi0,hi1⟩⟩:=hw;dsimp only at hin hk0 hk1 hg hi0 hi1;obtain⟨tail,htail⟩:∃tail,((gens.length:Int)::(gens++((items.length:Int)::items.flatMap Cq)))=tail:=⟨_,rfl⟩;rw[htail]at hin;refine AC (nt:=112) (res:=[.tmp 2]) Try.func52 rfl (by kernel_rfl) rfl rfl rfl λSf=>?_
 have hkm:(ks.map (AU false)).length=ks.length:=List.length_map _;have hgm:(gens.map iA).length=gens.length:=List.length_map _;have him:(items.map (AH false)).length=items.length:=List.length_map _;refine RG ?_;(repeat first|(refine AOps.gN ?_;first|(refine AOps.g_box ?_;refine BG ?_))|refine WO ?_|refine Ai λX=>?_|refine Ay λY=>?_);refine NL ?_;refine AWP.rs λK0=>?_
 refine RG ?_;(repeat first|(refine AOps.gN ?_;first|refine AOps.s (W.lit1 (X:=K0) (l:=[iA ((ks.map (AU false)).length:Int)]) (by exact rfl) (by exact At.f) (by exact rfl) (by exact .inr rfl) (by decide) (by decide) (by exact rfl)) rfl ?_)|refine WO ?_|refine Ai λX=>?_|refine Ay λY=>?_);refine NL ?_;rw[hkm];refine AWP.closeIn (X:=K0) (Y:=X) (.next .here) .here rfl rfl (.head .here) ?_;(repeat first|refine WK ?_|refine Ai λX=>?_|refine Ay λY=>?_);refine A3 (λ(i:Nat) (L:List Int)=>⟨[(1,.fp (wdA false ⟨ks,gens,items⟩).cells),(3,.ptr X 0 0),(4,.fn 69 [.ptr X 0 0]),(19,AS false false ks),(20,iA (ks.map (AU false)).length),(21,iA i)],(X,IR L)::Sf⟩) (λi L=>i<=ks.length/\L++((ks.drop i).flatMap EI++tail)=R) (λi _=>ks.length-i) 0 [(ks.length:Int)] ⟨Nat.zero_le _,hin⟩ ?_;rintro i L ⟨hi,he⟩;(repeat first|refine WK ?_|refine Ai λX=>?_|refine Ay λY=>?_);refine AWP.cond rfl (λhc=>?_) (λhc=>?_)
 ·have h:i<ks.length:=by rw[decide_eq_true_eq,hkm]at hc;omega
  obtain⟨⟨kn,kf⟩,hk⟩:∃k,ks[i]=k:=⟨_,rfl⟩;have hat:(ks.map (AU false))[i]?=some (AU false ⟨kn,kf⟩):=by rw[List.getElem?_map,List.getElem?_eq_getElem h,hk];rfl
  have hkl:=hk1 _ (hk▸List.getElem_mem h);dsimp only at hkl;rw[JN h hk,EI,<-List.append_assoc,<-List.append_assoc,<-List.append_assoc]at he;have hkfm:(kf.map fieldA).length=kf.length:=List.length_map _;dsimp only at he;have he1:(L++Be kn)++([(kf.length:Int)]++(kf.flatMap CK++((ks.drop (i+1)).flatMap EI++tail)))=R:=by rw[<-he];simp
  have hcn:=EK X L kn (Fp hl he1);refine RG ?_;(repeat first|refine WO ?_|refine Ai λV=>?_|refine Ay λY=>?_);refine NL ?_;refine RG ?_;(repeat first|(refine AOps.gN ?_;first|(refine AOps.g_callv ?_;first|refine ID (h:=hcn) (hT:=.frz) (k:=?_)))|refine WO ?_|refine Ai λX=>?_|refine Ay λY=>?_);refine NL ?_;obtain⟨L1,hL1⟩:∃L1,L++Be kn=L1:=⟨_,rfl⟩;rw[hL1]at he1⊢;have he2:(L1++[(kf.length:Int)])++(kf.flatMap CK++((ks.drop (i+1)).flatMap EI++tail))=R:=by rw[<-he1,List.append_assoc]
  refine AWP.thawIn (Y:=X) (.next .here) (λ_=>.head .here) λK=>?_
  have hb:((L1.map iA).length+([iA ((kf.map fieldA).length:Int)]).length)*8<=140737488355328:=by have:=Fp hl he2;simp at this⊢;omega
  refine RG ?_;(repeat first|(refine AOps.gN ?_;first|(refine AOps.g_lit ?_;refine AOps.goL (iA (kf.map fieldA).length) ?_))|refine WO ?_|refine Ai λX=>?_|refine Ay λY=>?_);refine NL ?_;have hrow:L1.map iA++[iA ((kf.map fieldA).length:Int)]=(L1++[(kf.length:Int)]).map iA:=by first|(rw[List.map_append,hkfm];rfl)|rw[List.map_append,hkfm]
  rw[hrow];clear hrow hb;refine AWP.closeIn (X:=Y) (Y:=X) .here (.next (.next .here)) rfl (by simp) (.head .here) ?_;obtain⟨T2,hT2⟩:∃T2,(ks.drop (i+1)).flatMap EI++tail=T2:=⟨_,rfl⟩;rw[hT2]at he2;clear he he1 hcn hL1 hin;(repeat first|refine WK ?_|refine Ai λX=>?_|refine Ay λY=>?_);refine A3 (λ(j:Nat) (L:List Int)=>⟨[(1,.fp (wdA false ⟨ks,gens,items⟩).cells),(3,.ptr X 0 0),(4,.fn 69 [.ptr X 0 0]),(19,AS false false ks),(20,iA (ks.map (AU false)).length),(21,iA i),(36,Cc false kf),(37,iA (kf.map fieldA).length),(38,iA j)],(X,IR L)::Sf⟩) (λj L=>j<=kf.length/\L++((kf.drop j).flatMap CK++T2)=R) (λj _=>kf.length-j) 0 (L1++[(kf.length:Int)]) ⟨Nat.zero_le _,he2⟩ ?_;clear he2 L1 L;rintro j L ⟨hj,he⟩;(repeat first|refine WK ?_|refine Ai λX=>?_|refine Ay λY=>?_);refine AWP.cond rfl (λhd=>?_) (λhd=>?_)
  ·have h':j<kf.length:=by rw[decide_eq_true_eq,hkfm]at hd;omega
   obtain⟨⟨fn,fb,fl⟩,hf⟩:∃f,kf[j]=f:=⟨_,rfl⟩;have hat2:(kf.map fieldA)[j]?=some (fieldA ⟨fn,fb,fl⟩):=by rw[List.getElem?_map,List.getElem?_eq_getElem h',hf];rfl
   rw[JN h' hf,CK]at he;dsimp only at he;have he1:(L++Be fn)++([fb,fl]++((kf.drop (j+1)).flatMap CK++T2))=R:=by rw[<-he];simp
   have hcn:=EK X L fn (Fp hl he1);refine RG ?_;(repeat first|refine WO ?_|refine Ai λV2=>?_|refine Ay λY=>?_);refine NL ?_;refine RG ?_;(repeat first|(refine AOps.gN ?_;first|(refine AOps.g_callv ?_;first|refine ID (h:=hcn) (hT:=.frz) (k:=?_)))|refine WO ?_|refine Ai λX=>?_|refine Ay λY=>?_);refine NL ?_;obtain⟨L1,hL1⟩:∃L1,L++Be fn=L1:=⟨_,rfl⟩;rw[hL1]at he1⊢;have he2:(L1++[fb,fl])++((kf.drop (j+1)).flatMap CK++T2)=R:=by rw[<-he1,List.append_assoc]
   refine AWP.thawIn (Y:=X) (.next .here) (λ_=>.head .here) λK=>?_
   have hb:((L1.map iA).length+([iA fb,iA fl]).length)*8<=140737488355328:=by have:=Fp hl he2;simp at this⊢;omega
   refine RG ?_;(repeat first|refine WO ?_|refine Ai λX=>?_|refine Ay λY=>?_);refine NL ?_;have hrow:L1.map iA++[iA fb,iA fl]=(L1++[fb,fl]).map iA:=by first|(rw[List.map_append];rfl)|rw[List.map_append]
   rw[hrow];clear hrow hb;refine AWP.closeIn (X:=Y) (Y:=X) .here (.next (.next .here)) rfl (by simp) (.head .here) ?_;(repeat first|refine WK ?_|refine Ai λX=>?_|refine Ay λY=>?_);refine Ae (j+1) _ ⟨h',he2⟩
  ·have h':j=kf.length:=by rw[decide_eq_false_iff_not,hkfm]at hd;omega
   rw[h',List.drop_length]at he;(repeat first|refine WK ?_|refine Ai λX=>?_|refine Ay λY=>?_);refine Ae (i+1) L ⟨h,by rw[hT2];exact he⟩
 clear hin;have h:i=ks.length:=by rw[decide_eq_false_iff_not,hkm]at hc;omega
 rw[h,List.drop_length,<-htail]at he;clear h hc hi;have he2:(L++[(gens.length:Int)])++(gens++((items.length:Int)::items.flatMap Cq))=R:=by rw[<-he];simp
 refine FL ?_;refine AWP.thawIn (Y:=X) .here (λ_=>.head .here) λK=>?_
 have hb:((L.map iA).length+([iA ((gens.map iA).length:Int)]).length)*8<=140737488355328:=by have:=Fp hl he2;simp at this⊢;omega
 refine RG ?_;(repeat first|(refine AOps.gN ?_;first|(refine AOps.g_lit ?_;refine AOps.goL (iA (gens.map iA).length) ?_))|refine WO ?_|refine Ai λX=>?_|refine Ay λY=>?_);refine NL ?_;have hrow:L.map iA++[iA ((gens.map iA).length:Int)]=(L++[(gens.length:Int)]).map iA:=by first|(rw[List.map_append,hgm];rfl)|rw[List.map_append,hgm]
 rw[hrow];clear hrow hb;refine AWP.closeIn (X:=Y) (Y:=X) .here (.next .here) rfl (by simp) (.head .here) ?_;obtain⟨L1,hL1⟩:∃L1,L++[(gens.length:Int)]=L1:=⟨_,rfl⟩;rw[hL1]at he2⊢;have he3:(L1++gens)++((items.length:Int)::items.flatMap Cq)=R:=by rw[<-he2,List.append_assoc]
 refine AWP.thawIn (Y:=X) (.next .here) (λ_=>.head .here) λK=>?_
 have hb:((L1.map iA).length+(gens.map iA).length)*8<=140737488355328:=by have:=Fp hl he3;simp at this⊢;omega
 refine RG ?_;(repeat first|refine WO ?_|refine Ai λX=>?_|refine Ay λY=>?_);refine NL ?_;have hrow:L1.map iA++gens.map iA=(L1++gens).map iA:=by first|(rw[List.map_append];rfl)|rw[List.map_append]
 rw[hrow];clear hrow hb;refine AWP.closeIn (X:=Y) (Y:=X) .here (.next (.next .here)) rfl (by simp) (.head .here) ?_;obtain⟨L2,hL2⟩:∃L2,L1++gens=L2:=⟨_,rfl⟩;rw[hL2]at he3⊢;have he4:(L2++[(items.length:Int)])++items.flatMap Cq=R:=by rw[<-he3,List.append_assoc];rfl
 refine AWP.thawIn (Y:=X) (.next (.next .here)) (λ_=>.head .here) λK=>?_
 have hb:((L2.map iA).length+([iA ((items.map (AH false)).length:Int)]).length)*8<=140737488355328:=by have:=Fp hl he4;simp at this⊢;omega
 refine RG ?_;(repeat first|(refine AOps.gN ?_;first|(refine AOps.g_lit ?_;refine AOps.goL (iA (items.map (AH false)).length) ?_))|refine WO ?_|refine Ai λX=>?_|refine Ay λY=>?_);refine NL ?_;have hrow:L2.map iA++[iA ((items.map (AH false)).length:Int)]=(L2++[(items.length:Int)]).map iA:=by first|(rw[List.map_append,him];rfl)|rw[List.map_append,him]
 rw[hrow];clear hrow hb;refine AWP.closeIn (X:=Y) (Y:=X) .here (.next (.next (.next .here))) rfl (by simp) (.head .here) ?_;clear he he2 he3 hL1 hL2 htail hk0 hk1;(repeat first|refine WK ?_|refine Ai λX=>?_|refine Ay λY=>?_);refine A3 (λ(i:Nat) (L:List Int)=>⟨[(1,.fp (wdA false ⟨ks,gens,items⟩).cells),(3,.ptr X 0 0),(72,BJ false false items),(73,iA (items.map (AH false)).length),(74,iA i)],(X,IR L)::Sf⟩) (λi L=>i<=items.length/\L++(items.drop i).flatMap Cq=R) (λi _=>items.length-i) 0 (L2++[(items.length:Int)]) ⟨Nat.zero_le _,he4⟩ ?_;clear he4 L2 L1 L;rintro i L ⟨hi,he⟩;(repeat first|refine WK ?_|refine Ai λX=>?_|refine Ay λY=>?_);refine AWP.cond rfl (λhc=>?_) (λhc=>?_)
 ·have h:i<items.length:=by rw[decide_eq_true_eq,him]at hc;omega
  obtain⟨⟨⟨en,eg⟩,cs⟩,hit⟩:∃it,items[i]=it:=⟨_,rfl⟩;have hat:(items.map (AH false))[i]?=some (AH false ⟨⟨en,eg⟩,cs⟩):=by rw[List.getElem?_map,List.getElem?_eq_getElem h,hit];rfl
  have hcl:=hi1 _ (hit▸List.getElem_mem h);dsimp only at hcl;obtain⟨hcl0,hcl1⟩:=hcl;have hcm:(cs.map (AE false)).length=cs.length:=List.length_map _;rw[JN h hit,Cq]at he;dsimp only at he;have he2:(L++[en,eg,(cs.length:Int)])++(cs.flatMap EO++(items.drop (i+1)).flatMap Cq)=R:=by rw[<-he];simp
  refine RG ?_;(repeat first|refine WO ?_|refine Ai λV=>?_|refine Ay λY=>?_);refine NL ?_;refine AWP.thawIn (Y:=X) (.next .here) (λ_=>.head .here) λK=>?_
  have hb:((L.map iA).length+([iA en,iA eg,iA ((cs.map (AE false)).length:Int)]).length)*8<=140737488355328:=by have:=Fp hl he2;simp at this⊢;omega
  refine RG ?_;(repeat first|refine WO ?_|refine Ai λX=>?_|refine Ay λY=>?_);refine NL ?_;have hrow:L.map iA++[iA en,iA eg,iA ((cs.map (AE false)).length:Int)]=(L++[en,eg,(cs.length:Int)]).map iA:=by first|(rw[List.map_append,hcm];rfl)|rw[List.map_append,hcm]
  rw[hrow];clear hrow hb;refine AWP.closeIn (X:=Y) (Y:=X) .here (.next (.next .here)) rfl (by simp) (.head .here) ?_;obtain⟨T2,hT2⟩:∃T2,(items.drop (i+1)).flatMap Cq=T2:=⟨_,rfl⟩;rw[hT2]at he2;(repeat first|refine WK ?_|refine Ai λX=>?_|refine Ay λY=>?_);refine A3 (λ(j:Nat) (L:List Int)=>⟨[(1,.fp (wdA false ⟨ks,gens,items⟩).cells),(3,.ptr X 0 0),(72,BJ false false items),(73,iA (items.map (AH false)).length),(74,iA i),(91,Az false false cs),(92,iA (cs.map (AE false)).length),(93,iA j)],(X,IR L)::Sf⟩) (λj L=>j<=cs.length/\L++((cs.drop j).flatMap EO++T2)=R) (λj _=>cs.length-j) 0 _ ⟨Nat.zero_le _,he2⟩ ?_;clear he2 he L;rintro j L ⟨hj,he⟩;(repeat first|refine WK ?_|refine Ai λX=>?_|refine Ay λY=>?_);refine AWP.cond rfl (λhd=>?_) (λhd=>?_)
  ·have h':j<cs.length:=by rw[decide_eq_true_eq,hcm]at hd;omega
   obtain⟨⟨ck,cv⟩,hf⟩:∃c,cs[j]=c:=⟨_,rfl⟩;have hat2:(cs.map (AE false))[j]?=some (AE false ⟨ck,cv⟩):=by rw[List.getElem?_map,List.getElem?_eq_getElem h',hf];rfl
   have hvm:(cv.map iA).length=cv.length:=List.length_map _;rw[JN h' hf,EO]at he;dsimp only at he;have he2:(L++[ck,(cv.length:Int)])++(cv++((cs.drop (j+1)).flatMap EO++T2))=R:=by rw[<-he];simp
   refine RG ?_;(repeat first|refine WO ?_|refine Ai λV2=>?_|refine Ay λY=>?_);refine NL ?_;refine AWP.thawIn (Y:=X) (.next .here) (λ_=>.head .here) λK=>?_
   have hb:((L.map iA).length+([iA ck,iA ((cv.map iA).length:Int)]).length)*8<=140737488355328:=by have:=Fp hl he2;simp at this⊢;omega
   refine RG ?_;(repeat first|refine WO ?_|refine Ai λX=>?_|refine Ay λY=>?_);refine NL ?_;have hrow:L.map iA++[iA ck,iA ((cv.map iA).length:Int)]=(L++[ck,(cv.length:Int)]).map iA:=by first|(rw[List.map_append,hvm];rfl)|rw[List.map_append,hvm]
   rw[hrow];clear hrow hb;refine AWP.closeIn (X:=Y) (Y:=X) .here (.next (.next .here)) rfl (by simp) (.head .here) ?_;obtain⟨L1,hL1⟩:∃L1,L++[ck,(cv.length:Int)]=L1:=⟨_,rfl⟩;rw[hL1]at he2⊢;have he3:(L1++cv)++((cs.drop (j+1)).flatMap EO++T2)=R:=by rw[<-he2,List.append_assoc]
   refine AWP.thawIn (Y:=X) (.next (.next .here)) (λ_=>.head .here) λK=>?_
   have hb:((L1.map iA).length+(cv.map iA).length)*8<=140737488355328:=by have:=Fp hl he3;simp at this⊢;omega
   refine RG ?_;(repeat first|refine WO ?_|refine Ai λX=>?_|refine Ay λY=>?_);refine NL ?_;have hrow:L1.map iA++cv.map iA=(L1++cv).map iA:=by first|(rw[List.map_append];rfl)|rw[List.map_append]
   rw[hrow];clear hrow hb;refine AWP.closeIn (X:=Y) (Y:=X) .here (.next (.next (.next .here))) rfl (by simp) (.head .here) ?_;(repeat first|refine WK ?_|refine Ai λX=>?_|refine Ay λY=>?_);refine Ae (j+1) _ ⟨h',he3⟩
  ·have h':j=cs.length:=by rw[decide_eq_false_iff_not,hcm]at hd;omega
   rw[h',List.drop_length]at he;(repeat first|refine WK ?_|refine Ai λX=>?_|refine Ay λY=>?_);refine Ae (i+1) L ⟨h,by rw[hT2];exact he⟩
 ·have h:i=items.length:=by rw[decide_eq_false_iff_not,him]at hc;omega
  rw[h,List.drop_length]at he;have he:L=R:=by simpa using he
  subst he;refine AWP.thawIn (Y:=X) .here (λ_=>.head .here) λK=>?_
  (repeat first|refine WK ?_|refine Ai λX=>?_|refine Ay λY=>?_);refine RT ?_;exact⟨[.sl K 0 (L.map iA).length],[Af true L],_,[],.cons (.tmp rfl) rfl .nil,.cons (.cell (.sl (p:=0) .here rfl)) .nil,by exact Sub.f,rfl,rfl⟩
theorem Dh{α:Type}{f:α->List Int}{m:Nat}:∀{l:List α},(∀x∈l,(f x).length<=m)->(l.flatMap f).length<=l.length*m
 |[],_=>by simp
 |x::l,h=>by
  have h1:=h x (by simp);have h2:=Dh (f:=f) (m:=m) (l:=l) λy hy=>h y (by simp[hy])
  rw[List.flatMap_cons,List.length_append,List.length_cons,Nat.add_mul];omega
theorem Ey{s:List UInt8}(h:A6 s=true):s.length<=16:=by
 unfold A6 at h;simp only[Bool.and_eq_true,decide_eq_true_eq]at h;exact h.1.2
theorem Gf{w:Wd}(h:WdOK w):(Bt w).length<=65536:=by
 obtain⟨h16,ho⟩:=BE h.ks
 have hf:∀f:Field,A6 f.name=true->(CK f).length<=19:=λf hf=>by
  have:=Ey hf;simp[CK,Be];omega
 have hk:∀k∈w.kinds,(EI k).length<=170:=λk hk=>by
  obtain⟨h1,h2,h3⟩:=B7 (ho k hk);have:=Ey h1;have h4:=Dh (f:=CK) (m:=19) (l:=k.fields) λf hfm=>hf f ((BV f).1 (h3 f hfm)).1
  simp only[EI,Be,List.length_append,List.length_cons,List.length_map];omega
 have hc:∀it∈w.items,(Cq it).length<=163:=λit hit=>by
  obtain⟨h1,h2⟩:=E3 h.ks (h.it it hit).2.2.2.2;have h4:=Dh (f:=EO) (m:=10) (l:=it.comps) λc hc=>by have:=h2 c hc;simp only[EO,List.length_cons];omega
  simp only[Cq,List.length_cons];omega
 have k1:=Dh hk;have k2:=Dh hc;have:=h.gl;have:=h.il;simp only[Bt,List.length_cons,List.length_append];omega
theorem D4(w:Wd)(h:WdOK w):PS Try.prog 29 [wdA false w] (uA (Jg (Bt w))):=by
 have hs:=Gf h;have h1:=ME w (by omega) h.wl;have h2:=Lx (Bt w) (by omega);refine AC (nt:=6) (res:=[.tmp 2]) Try.func29 rfl (by kernel_rfl) rfl rfl rfl λSf=>?_
 refine RG ?_;(repeat first|(refine AOps.gN ?_;first|(refine AOps.g_box ?_;refine BG ?_))|refine WO ?_|refine Ai λX=>?_|refine Ay λY=>?_);refine NL ?_;refine RG ?_;(repeat first|(refine AOps.gN ?_;first|(refine AOps.g_callf ?_;first|refine AOps.c1 (h:=(h1 ..)) (k:=?_)|refine AOps.c1 (h:=(h2 ..)) (k:=?_)))|refine WO ?_|refine Ai λX=>?_|refine Ay λY=>?_);refine NL ?_;refine RT ?_;refine AF ?_;rfl
theorem G9(ks:List Kind)(hk:Ag ks=0)(hl:KsL ks):PS Try.prog 34 [AS false false ks] (.tup [wdS ⟨ks,[],[]⟩,iA 0]):=by
 have h1:=FI ks;rw[hk]at h1;have h2:=EJ ks hl.1 hl.2;refine AC (nt:=14) (res:=[.cell 2 43,.tmp 3]) Try.func34 rfl (by kernel_rfl) rfl rfl rfl λSf=>?_
 refine RG ?_;(repeat first|refine WO ?_|refine Ai λR=>?_|refine Ay λY=>?_);refine NL ?_;refine RG ?_;(repeat first|(refine AOps.gN ?_;first|(refine AOps.g_callf ?_;first|refine AOps.c1 (h:=(h1 ..)) (k:=?_)))|refine WO ?_|refine Ai λX=>?_|refine Ay λY=>?_);refine NL ?_;(repeat first|refine WK ?_|refine Ai λX=>?_|refine Ay λY=>?_);refine AN rfl rfl ?_;(repeat first|(refine AOps.gN ?_;first|(refine AOps.g_callf ?_;first|refine AOps.c1 (h:=(h2 ..)) (k:=?_)))|refine WK ?_|refine Ai λX=>?_|refine Ay λY=>?_);refine RT ?_;exact Bl [.agg [AS false false ks,.prim (.slice none 0 0),.prim (.slice none 0 0)],iA 0] [wdS ⟨ks,[],[]⟩,iA 0] (.cons (.agg (.cons .same (.cons .nil (.cons .nil .nil)))) (.cons (.cell .same) .nil))
theorem HB:PS Try.prog 36 [.prim (.slice none 0 0)] (uA (Dp [])):=PS.lend (HA [] (by decide)) rfl (.cons .nil .nil)
theorem Gq:PS Try.prog 37 [.lst false 5 1 []] (uA (DA 11170449401992604703 0)):=by
 have h1:=Gd 11170449401992604703 0;obtain⟨d,hd⟩:∃d,DA 11170449401992604703 0=d:=⟨_,rfl⟩;rw[hd]at h1⊢;refine AC (nt:=42) (res:=[.tmp 2]) Try.func37 rfl (by kernel_rfl) rfl rfl rfl λSf=>?_
 refine RG ?_;(repeat first|refine WO ?_|refine Ai λX=>?_|refine Ay λY=>?_);refine NL ?_;(repeat first|(refine AOps.gN ?_;first|(refine AOps.g_callf ?_;first|refine AOps.c2 (h:=(h1 ..)) (k:=?_))|refine AOps.p (Is .i64 0 rfl (by omega) (by kernel_rfl) (by kernel_rfl) rfl) rfl ?_)|refine WK ?_|refine Ai λX=>?_|refine Ay λY=>?_);refine Bq (λ_:Unit=>⟨[(0,.lst false 5 1 []),(3,uA d)],Sf⟩) (λ_=>True) (λ_=>0) () trivial ?_;rintro _ _;(repeat first|refine WK ?_|refine Ai λX=>?_|refine Ay λY=>?_);refine AN rfl rfl ?_;(repeat first|refine WK ?_|refine Ai λX=>?_|refine Ay λY=>?_);refine RT ?_;refine AF ?_;rfl
theorem H4:PS Try.prog 37 [.prim (.slice none 0 0)] (uA (DA 11170449401992604703 0)):=PS.lend Gq rfl (.cons .nil .nil)
abbrev M8:List Kind:=[⟨[97],[⟨[120],4,0⟩]⟩]
abbrev h6W:Wd:=⟨M8,[],[]⟩
abbrev h6V:Wd:=⟨M8,[0],[⟨⟨0,0⟩,[⟨0,[3]⟩]⟩]⟩
theorem LF:CX h6W [⟨0,[3]⟩]=(h6V,⟨0,0⟩,0):=by
 unfold CX;rw[JX (by decide) (by decide)];decide
theorem h6W_ok:WdOK h6W:=(Dq _).1 (by decide)
theorem M7:WdOK h6V:=(Dq _).1 (by decide)
theorem KB:Jg (Bt h6V)≠Jg (Bt h6W):=of_decide_eq_true (by kernel_rfl)
theorem M6:Dp []≠DA 11170449401992604703 0:=by decide
set_option maxRecDepth 8000 in
set_option maxHeartbeats 1000000 in
theorem Ia:PS Try.prog 15 [] (bA true):=by
 have h1:=G9 M8 (by decide) ⟨by decide,λk hk=>by rw[List.mem_singleton.1 hk];decide⟩;have h2:=Kk h6W [⟨0,[3]⟩] h6W_ok.wl (by decide) (by decide);rw[LF]at h2;have h3:=D4 h6V M7;have h4:=D4 h6W h6W_ok;have h5:=HB;have h6:=H4;have n1:=KB;have n2:=M6;obtain⟨a,ha⟩:∃a,Jg (Bt h6V)=a:=⟨_,rfl⟩;obtain⟨b,hb⟩:∃a,Jg (Bt h6W)=a:=⟨_,rfl⟩;obtain⟨c,hc⟩:∃a,Dp []=a:=⟨_,rfl⟩;obtain⟨d,hd⟩:∃a,DA 11170449401992604703 0=a:=⟨_,rfl⟩;rw[ha]at h3 n1;rw[hb]at h4 n1;rw[hc]at h5 n2;rw[hd]at h6 n2;clear ha hb hc hd;have m1:decide ((a.toNat:Int)≠(b.toNat:Int))=true:=decide_eq_true λe=>n1 (UInt64.toNat_inj.1 (Int.ofNat_inj.1 e))
 have m2:decide ((c.toNat:Int)≠(d.toNat:Int))=true:=decide_eq_true λe=>n2 (UInt64.toNat_inj.1 (Int.ofNat_inj.1 e))
 refine AC (nt:=44) (res:=[.tmp 0]) Try.func15 rfl (by kernel_rfl) rfl rfl rfl λSf=>?_
 refine RG ?_;(repeat first|refine WO ?_|refine Ai λX=>?_|refine Ay λY=>?_);refine NL ?_;refine FL ?_;refine RG ?_;(repeat first|(refine AOps.gN ?_;first|(refine AOps.g_callf ?_;first|refine AOps.c1 (h:=(h1 ..)) (k:=?_)))|refine WO ?_|refine Ai λR1=>?_|refine Ay λY=>?_);refine NL ?_;(repeat first|refine WK ?_|refine Ai λX=>?_|refine Ay λY=>?_);refine AN rfl rfl ?_;refine FL ?_;refine RG ?_;(repeat first|(refine AOps.gN ?_;first|(refine AOps.g_callf ?_;first|refine AOps.c2 (h:=(h2 ..)) (k:=?_)))|refine WO ?_|refine Ai λR3=>?_|refine Ay λY=>?_);refine NL ?_;refine FL ?_;refine RU ?_;(repeat first|(refine RGo.gN ?_;first|(refine RGo.g_callf ?_;first|refine RGo.c1 (h:=(h3 ..)) (k:=?_)|refine RGo.c1 (h:=(h4 ..)) (k:=?_)|refine RGo.c1 (h:=(h5 ..)) (k:=?_)|refine RGo.c1 (h:=(h6 ..)) (k:=?_))|refine RGo.go (h:=W.eqP _ _ (by kernel_rfl) (Il 0 0 0 0) rfl rfl) (k:=?_))|(refine AX ?_;first|(refine RGo.g_callf ?_;first|refine RGo.c1 (h:=(h3 ..)) (k:=?_)|refine RGo.c1 (h:=(h4 ..)) (k:=?_)|refine RGo.c1 (h:=(h5 ..)) (k:=?_)|refine RGo.c1 (h:=(h6 ..)) (k:=?_))|refine RGo.go (h:=W.eqP _ _ (by kernel_rfl) (Il 0 0 0 0) rfl rfl) (k:=?_))|refine RK ?_|refine RGo.nil (by kernel_rfl) ?_);refine FL ?_;refine RT ?_;refine AF ?_;exact congrArg bA m2
theorem Hm(l:List Int):0<(BY l).kinds.length/\(BY l).kinds.length<=4:=⟨Gh l,(E6 l).1⟩
section
open Go.RowKit
def DD(w:World):Mem:=⟨λ_=>none,λ_=>False,w,λb=>b<w.heap.size⟩
theorem Ip(w:World):Good (DD w) (DD w) 0 [] []:=
 ⟨λz hz=>(by cases hz),.nil,λb hb=>(by cases hb),λb h=>h,.nil,λx hx=>(by cases hx),λx h=>h.elim,.refl _,rfl,rfl,rfl,Nat.le_refl _⟩
theorem Good.bel{w:World}{m':Mem}{N:Nat}{Z:Zs}{br:List Nat}(G:Good (DD w) m' N Z br):Below w.heap.size w m'.w:=
 ⟨G.os,G.tape,G.output,G.size,λk hk=>(G.le.F k hk).2⟩
theorem PS.calls_bool{P:Program}{f:FuncId}{args:List AV}{b:Bool}(h:PS P f args (bA b)){w:World}{vals:Array Value}(hv:VTs (DD w) args vals.toList []):
  Calls P f vals w λe w'=>e= .returned (.bool b)/\Below w.heap.size w w':=
 (h.run [] (DD w) 0 [] vals rfl (Ip w) hv).mono λe w' ⟨v,r,S',m',N',Z',br,h1,h2,h3,G,h4,h5,h6⟩=>by
  subst h1 h2 h5;refine⟨?_,G.bel⟩;obtain⟨⟨h7,_⟩,_⟩:=h4;injection h7 with h7
  rw[h7]
theorem GB{α:Type}{m:Mem}{C:List Value->α->Prop}{sz:Nat}{f:α->AV}(hC:∀c x,C c x->VC m (f x) c []):∀{l:List α} {xs:List Value},Cells C sz xs l->VCs m (l.map f) xs []
 |[],_,h=>⟨h,rfl⟩
 |x::l,_,⟨c,ys,h1,h2,h3,h4⟩=>⟨c,ys,[],[],h1,rfl,hC c x h3,GB hC h4⟩
theorem FK{w:World}{b o:Nat}{u:Value}(h:w.cell? ⟨b,o,none⟩=some u):∃arr t r,w.heap[b]?=some (.cells arr t r)/\arr[o]?=some u:=by
 unfold World.cell? at h;cases hb:w.heap[b]? with
 |none=>simp only[hb]at h;cases h
 |some blk=>
  cases blk with
  |cells c t r=>simp only[hb]at h;exact⟨c,t,r,rfl,by simpa using h⟩
  |_=>simp only[hb]at h;cases h
theorem NK{α:Type}{w:World}{C:World->Reg->List Value->α->Prop}{sz:Nat}{f:α->AV}{t:TypeId}{v:Value}{l:List α}(hsz:0<sz)(hC:∀c x,C w (Lt w) c x->VC (DD w) (f x) c [])(hw:∀x,(f x).width=sz)(h:Sl w (Lt w) sz C v l):VC (DD w) (.lst false t sz (l.map f)) [v] []:=by
 obtain⟨xs,⟨h1,A,cap,rfl,hn,hr⟩,hc⟩:=h;refine⟨rfl,A,cap,by simp,by simpa using hn,λe he=>by obtain⟨x,_,rfl⟩:=List.mem_map.1 he;exact hw x,λh0=>?_⟩;have h0:0<l.length:=by simpa using h0
 obtain⟨b,off,rfl,hb,hcell⟩:=hr h0;have hx:0<xs.length:=by rw[h1];exact Nat.mul_pos h0 hsz
 obtain⟨arr,t',r,h2,h3⟩:=FK (hcell 0 xs[0] (by simp));refine⟨b,off,arr,t',r,rfl,hb,h2,?_⟩
 have e:(arr.toList.drop off).take ((l.map f).length*sz)=xs:=by
  apply List.ext_getElem?;intro j;rw[List.getElem?_take];split
  ·rename_i hj
   have hj:j<xs.length:=by rw[h1];simpa using hj
   obtain⟨arr2,t2,r2,h4,h5⟩:=FK (hcell j xs[j] (by simp));rw[h2]at h4;injection h4 with h4
   injection h4 with h4
   subst h4;rw[List.getElem?_drop,List.getElem?_eq_getElem hj];simpa using h5
  ·rename_i hj
   rw[List.getElem?_eq_none];rw[h1];simpa using hj
 rw[e];exact GB hC hc
theorem MD{w:World}{v:Value}{l:List Int}(h:Lg w (Lt w) v l):VC (DD w) (Af false l) [v] []:=
 NK (f:=iA) (by decide) (λc x hc=>⟨⟨hc,rfl⟩,rfl⟩) (λ_=>rfl) h
theorem Lu{m:Mem}:VTs m [] [] []:=⟨rfl,rfl⟩
theorem Kc{w:World}{v:Value}{z:List Int}{l:List AV}{us:List Value}(h:Lg w (Lt w) v z)(k:VTs (DD w) l us []):VTs (DD w) (Af false z::l) (v::us) []:=(Av rfl).2 ⟨_,_,[],[],rfl,rfl,MD h,k⟩
end
section
open Go.RowKit
theorem Ks:PS Try.prog 16 [fieldA ⟨[],3,-2⟩,iA 9] (iA 5):=by
 have hc:=D8 (-2) (by decide);have hw:IntKind.i64.wrap (1*2^3)=8:=by decide
 refine AC (nt:=21) (res:=[.tmp 4]) Try.func16 rfl (by kernel_rfl) rfl rfl rfl λSf=>?_
 refine RG ?_;(repeat first|refine WO ?_|refine Ai λB=>?_|refine Ay λY=>?_);refine NL ?_;refine FL ?_;refine RG ?_;(repeat first|(refine AOps.gN ?_;first|(refine AOps.g_callf ?_;first|refine AOps.c1 (h:=(hc ..)) (k:=?_)))|refine WO ?_|refine Ai λX=>?_|refine Ay λY=>?_);refine NL ?_;refine FL ?_;refine RG ?_;(repeat first|(refine AOps.gN ?_;first|refine AOps.go (h:=LZ 3 8 hw (by rfl) (by decide) rfl rfl) (k:=?_)|refine AOps.go (h:=Bj (-2+8) rfl (by omega) rfl rfl) (k:=?_)|refine AOps.go (h:=Bu (-2+8-1) rfl (by omega) rfl rfl) (k:=?_))|refine WO ?_|refine Ai λX=>?_|refine Ay λY=>?_);refine NL ?_;refine RT ?_;refine AF ?_;rfl
set_option maxRecDepth 8000 in
theorem DU(l:List Int)(hl:l.length*8<=140737488351232):PS Try.prog 4 [Af false l] (bA true):=by
 have h6:=Ia;have hq9:=Ks;have hwp:=KW l;have hwd:=JW l;have hok:=Hl l;have hk4:=(Hm l).2;obtain⟨w,hw⟩:∃w,BY l=w:=⟨_,rfl⟩;rw[hw]at hwp hwd hok hk4;have hwl:=hok.wl;have hcp:=JO w hwl;have hsm:=L3 w w hwl;rw[decide_eq_true rfl]at hsm;have hdg:=D4 w hok;have hcs:=KZ hok;have hfv:=Lr hok;have hfl:=KY hok hk4;have hpl:=Kv hfv;obtain⟨hb1,hb2⟩:=Lq hok;refine AC (nt:=62) (res:=[.tmp 2]) Try.func4 rfl (by kernel_rfl) rfl rfl rfl λSf=>?_
 refine RG ?_;(repeat first|refine WO ?_|refine Ai λX=>?_|refine Ay λY=>?_);refine NL ?_;refine FL ?_;refine RG ?_;(repeat first|(refine AOps.gN ?_;first|(refine AOps.g_callf ?_;first|refine Mg (h:=(h6 ..)) (k:=?_)|refine AOps.c2 (h:=(hq9 ..)) (k:=?_)))|refine WO ?_|refine Ai λX=>?_|refine Ay λY=>?_);refine NL ?_;refine AN rfl rfl ?_;refine FL ?_;refine RG ?_;(repeat first|(refine AOps.gN ?_;first|(refine AOps.g_callf ?_;first|refine AOps.c1 (h:=(hwp ..)) (k:=?_)))|refine WO ?_|refine Ai λW0=>?_|refine Ay λY=>?_);refine NL ?_;refine FL ?_;refine RG ?_;(repeat first|refine WO ?_|refine Ai λX=>?_|refine Ay λY=>?_);refine NL ?_;refine AWP.nilO 5 1 (Y:=X) (.cons (.agg (.cons (.base .nil) (.cons .same .nil))) .nil) ?_;refine FL ?_;refine RG ?_;(repeat first|refine WO ?_|refine Ai λN=>?_|refine Ay λY=>?_);refine NL ?_;refine FL ?_;refine RG ?_;(repeat first|refine WO ?_|refine Ai λX=>?_|refine Ay λY=>?_);refine NL ?_;refine FL ?_;refine RG ?_;(repeat first|(refine AOps.gN ?_;first|(refine AOps.g_callf ?_;first|refine AOps.c1 (h:=(hcp ..)) (k:=?_)))|refine WO ?_|refine Ai λV0=>?_|refine Ay λY=>?_);refine NL ?_
 have he1:=LO w hwl 21 [.ptr N 0 0,.ptr X 0 0] rfl N X (λt=>.row 3 1 [iA (pk ((fvW w).take t)).length]) (λt=>wrC (pk ((fvW w).take t))) hcs (λt fd x ht=>by
  have h1:=hfv _ (List.mem_of_getElem? ht);have h2:=I2 (l:=fvW w) t;have h3:=GT h1;dsimp only at h3;have h4:=Ms N X (pk ((fvW w).take t)).length x fd (pk ((fvW w).take t)) h1.1.1 h1.1.2 h1.2.1.1 h1.2.1.2 h1.2.2.1 h1.2.2.2 (by omega) (by omega);have h5:=GS ht;rw[show Bm (UInt64.ofInt (x-fd.low)) fd.bits.toNat=pk1 (fd,x)from rfl,<-h5,show((pk ((fvW w).take t)).length:Int)+fd.bits=((pk ((fvW w).take (t+1))).length:Nat) by rw[h5,List.length_append];omega]at h4;exact h4)
 rw[List.take_length]at he1;rw[show pk ((fvW w).take 0)=[]from rfl]at he1;have hln:=KX X (pk (fvW w));have hq:decide (((pk (fvW w)).length:Int)≠((pk (fvW w)).length:Nat))=false:=decide_eq_false λh=>h rfl
 refine FL ?_;refine RU ?_;(repeat first|(refine RGo.gN ?_;first|(refine RGo.g_callf ?_;first|refine RGo.c2 (h:=(hsm ..)) (k:=?_))|refine RGo.zc2 (cap:=[]) (h:=he1) (hT:=.fz) (k:=?_)|refine RGo.z1 (h:=hln) (hT:=.fz) (k:=?_))|(refine AX ?_;first|(refine RGo.g_callf ?_;first|refine RGo.c2 (h:=(hsm ..)) (k:=?_))|refine RGo.zc2 (cap:=[]) (h:=he1) (hT:=.fz) (k:=?_)|refine RGo.z1 (h:=hln) (hT:=.fz) (k:=?_))|refine RK ?_|refine RGo.nil (by kernel_rfl) ?_);refine AN rfl hq ?_;have hwd:PS Try.prog 17 [Af false l] (.agg [AS false false w.kinds,Af true w.gens,BJ true true w.items]):=hwd;refine FL ?_;refine AWP.rs λI=>?_
 refine RG ?_;(repeat first|(refine AOps.gN ?_;first|(refine AOps.g_callf ?_;first|refine AOps.z1 (h:=hwd) (hT:=.v (.agg (.cons .fz (.cons .fz (.cons (.lst (Y:=I) rfl) .nil))))) (k:=?_)))|refine WO ?_|refine Ai λU=>?_|refine Ay λY=>?_);refine NL ?_;rw[List.length_map];obtain⟨nv3,hn3⟩:∃nv:Nat->Int,nv=λt=>(((fvW w)[t]?).map λp=>p.1.low).getD 0:=⟨_,rfl⟩
 have he3:=Hx w.kinds w.gens w.items hwl.items.1 hb1 hb2 24 [] rfl I N X (λ_=>.row 3 1 [iA (pk (fvW w)).length]) (λ_=>wrC (pk (fvW w))) nv3 hcs (λt fd x ht V l k hk=>by
  have h1:=(Mr V k l fd hk).beside [(N,.row 3 1 [iA (pk (fvW w)).length]),(X,wrC (pk (fvW w)))];refine h1.mono λr S' ⟨S1,e1,e2,e3⟩=>⟨e2,?_⟩
  have h2:nv3 t=fd.low:=by
   rw[hn3];dsimp only;rw[show(fvW w)[t]?=some (fd,x)from ht];rfl
  rw[e1,e3,h2];rfl)
 obtain⟨its,hits⟩:∃x,nvI nv3 0 w.items=x:=⟨_,rfl⟩;have hitl:its.length=w.items.length:=by rw[<-hits,GU]
 rw[hits]at he3;refine FL ?_;refine RG ?_;(repeat first|(refine AOps.gN ?_;first|(refine AOps.g_callv ?_;first|refine AOps.zc2 (cap:=[]) (h:=he3) (hT:=.fz) (k:=?_)))|refine WO ?_|refine Ai λX=>?_|refine Ay λY=>?_);refine NL ?_;have hby:=IE X (pk (fvW w)) (by omega);have hbl:(Ah (pk (fvW w))).length<=65536:=by rw[Bn];omega
 have hnw:=Io (Ah (pk (fvW w))) hbl;refine FL ?_;refine AWP.rs λRB=>?_
 refine RG ?_;(repeat first|(refine AOps.gN ?_;first|(refine AOps.g_callf ?_;first|refine AOps.z1 (h:=hby) (hT:=.fz) (k:=?_)|refine AOps.z1 (h:=hnw) (hT:=.v (.cell (.bx (Y:=RB) rfl) rfl rfl)) (k:=?_)))|refine WO ?_|refine Ai λR9=>?_|refine Ay λY=>?_);refine NL ?_;have hfst:(its.flatMap (fvI w.kinds)).map (·.1)=(fvW w).map (·.1):=by rw[<-hits];exact I4 nv3 hcs
 have he4:=Hx w.kinds w.gens its (by rw[hitl];exact hwl.items.1) (by rw[<-hits];exact HW nv3 hb1) (by rw[<-hits];exact HV nv3 hb2) 27 [.ptr R9 0 0] rfl I R9 RB (λ_=>.row 65 1 [.ptr RB 0 0]) (λt=>brO (Ah (pk (fvW w))) (pk ((fvW w).take t)).length) (Kz (fvW w)) (by rw[<-hits];exact I5 nv3 hcs) (λt fd x ht V l k hk=>by
  have h0:((its.flatMap (fvI w.kinds)).map (·.1))[t]?=((fvW w).map (·.1))[t]?:=by rw[hfst]
  rw[List.getElem?_map,List.getElem?_map,ht]at h0;obtain⟨⟨fd2,y⟩,hy,e⟩:=Option.map_eq_some_iff.1 h0.symm;dsimp only at e;subst e;have h1:=hfv _ (List.mem_of_getElem? hy);obtain⟨h2,h3⟩:=Mw hy h1;have h5:=I2 (l:=fvW w) t;have h6:(Ah (pk (fvW w))).length=((pk (fvW w)).length+7)/8:=Bn _;have h4:=Mq V k R9 RB l fd2 (Ah (pk (fvW w))) (pk ((fvW w).take t)).length _ y hk h1.1.1 h1.1.2 h1.2.1.1 h1.2.1.2 hbl (by omega) h2 h3;rw[show Kz (fvW w) t=y by unfold Kz;rw[hy];rfl];exact h4)
 have hfl2:(its.flatMap (fvI w.kinds)).length=(fvW w).length:=by have:=congrArg List.length hfst;simpa using this
 rw[hfl2,List.take_length,show pk ((fvW w).take 0)=[]from rfl,<-hits,I3,Js hok,hits,hitl]at he4;refine FL ?_;refine RG ?_;(repeat first|(refine AOps.gN ?_;first|(refine AOps.g_callv ?_;first|refine AOps.zc2 (cap:=[]) (h:=he4) (hT:=.fz) (k:=?_)))|refine WO ?_|refine Ai λX=>?_|refine Ay λY=>?_);refine NL ?_;have hlu:Ld [(I,AO.row 53 3 (w.items.map (AH true)))] (.agg [AS false false w.kinds,Af false w.gens,.sl I 0 w.items.length]) (wdA false w):=.agg (.cons Ld.fz (.cons Ld.fz (.cons (Ld.row (h:=.here) (hn:=(List.length_map _).symm)) .nil)));have hsm2:=PS.lend hsm rfl (.cons hlu (.cons (Ld.fz (a:=wdA false w)) .nil));have hdg2:=PS.lend hdg rfl (.cons hlu .nil);refine FL ?_;refine RU ?_;(repeat first|(refine RGo.gN ?_;first|(refine RGo.g_callf ?_;first|refine RGo.c1 (h:=(hdg ..)) (k:=?_))|refine RGo.z2 (h:=hsm2) (hT:=.fz) (k:=?_)|refine RGo.z1 (h:=hdg2) (hT:=.fz) (k:=?_))|(refine AX ?_;first|(refine RGo.g_callf ?_;first|refine RGo.c1 (h:=(hdg ..)) (k:=?_))|refine RGo.z2 (h:=hsm2) (hT:=.fz) (k:=?_)|refine RGo.z1 (h:=hdg2) (hT:=.fz) (k:=?_))|refine RK ?_|refine RGo.nil (by kernel_rfl) ?_);refine RT ?_;refine AF ?_;show bA (decide (_=_))=_
 rw[decide_eq_true rfl]
theorem HD(z0:List Int)(A0:Option Addr)(n0 cap0:Nat)(w:World)(h0:Lg w (Lt w) (.slice A0 n0 cap0) z0)(hlen0:z0.length*8<=140737488351232):
  Calls Try.prog 4 #[.slice A0 n0 cap0] w λe w'=>e= .returned (.bool true)/\Below w.heap.size w w':=
 (DU z0 hlen0).calls_bool (Kc h0 (Lu))
end
end Go.Proofs.Ytaodhkbppgenbaa
