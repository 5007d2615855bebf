/-
  Part 7 of the texts under the law TopExchange: the layer of abstract values, walks and plain laws. Conditions: those that each theorem names.
-/
import Derived.Test.YtiidbamlcgbpnaaGreatTopExchangeP6
namespace Go.Proofs.YtiidbamlcgbpnaaGreat
set_option linter.unusedVariables false
set_option linter.unusedSimpArgs false
set_option linter.defProp false
set_option maxRecDepth 10000
set_option maxHeartbeats 4000000
theorem T5(k:StK)(l:List (Int×Ent)):Spec Tryz.prog 299 [.ptr k.X 0 0] (stE k l) λr S'=>r=iA (l.length:Nat)/\S'=stE k l:=by
 refine Sp (nt:=8) (res:=[.tmp 2]) Tryz.func299 λSf=>?_
 refine R1 ?_;refine JK ?_;exact Ends.sp [iA (l.length:Nat)] (stE k l) ⟨rfl,rfl⟩
theorem Th(k:StK)(l:List (Int×Ent))(hl:ColOK l)(n:Int)(hn:I64 n)(v:Ent)(hg:Cx l n=some v):Spec Tryz.prog 294 [.ptr k.X 0 0,iA n] (stE k l) λr S'=>r= .tup [BA v,bA true]/\S'=stE k l:=by
 have hlen:=hl.len;have hk:n∈AJ l:=Classical.byContradiction λh=>by rw[EA h]at hg;cases hg
 obtain⟨u,hv⟩:=E4 hk;have hi:=E3 hk;have hg2:Cx l n=some u:=by unfold Cx;rw[hv];rfl
 rw[hg]at hg2;injection hg2 with hg2
 subst hg2;have hat:(l.map λe=>BA e.2)[(AJ l).idxOf n]?=some (BA v):=by rw[AH,hv];rfl
 have hix:=C4 hk;obtain⟨i,hi2⟩:=nm ((AJ l).idxOf n);rw[hi2]at hi hat hix;have h1:(ixG (AJ l) n).getD (.int .i64 0)= .int .i64 (i:Nat):=by rw[hix];rfl
 have h2:(ixG (AJ l) n).isSome=true:=by rw[hix];rfl
 refine Sp (nt:=28) (res:=[.cell 4 32,.tmp 5]) Tryz.func294 λSf=>?_
 refine JF ?_;refine Ai λZ=>?_;refine JB ?_
 refine JD ?_;(iterate 5 refine WO ?_);refine AOps.gN ?_;refine AOps.go (h:=EK _ _ h1 h2 hn rfl rfl (by exact At.f)) (k:=?_);refine JE ?_;refine JL ?_;refine AA rfl rfl ?_;refine JD ?_;(iterate 5 refine WO ?_);refine AOps.gN ?_;refine AOps.go (h:=W.idx rfl rfl (by exact At.f) rfl (by omega) (Nat.zero_add _)) (k:=?_);refine JE ?_;refine RT ?_;exact Ends.sp [BA v,bA true] (stE k l) ⟨rfl,rfl⟩
theorem Ty(k:StK)(l:List (Int×Ent))(hl:ColOK l)(n:Int)(hn:I64 n):Spec Tryz.prog 297 [.ptr k.X 0 0,iA n] (stE k l) λr S'=>r=iA (if n∈AJ l then 0 else 4)/\S'=stE k (BW l n):=by
 have hlen:=hl.len;by_cases hk:n∈AJ l
 ·rw[if_pos hk]
  obtain⟨u,hu⟩:=E4 hk;have hi:=E3 hk;obtain⟨⟨en,ev⟩,he⟩:=Jp (l:=l) (by omega);have hdl:=J6 hk;have hdr:BW l n=(l.set ((AJ l).idxOf n) (en,ev)).take (l.length-1):=by unfold BW;rw[if_pos hk,he]
  rw[hdr]at hdl⊢;have hix:=C4 hk;obtain⟨i,hi2⟩:=nm ((AJ l).idxOf n);rw[hi2]at hi hu hix hdl⊢;have hkl:(AJ l).length=l.length:=AB _;have hki:(AJ l)[i]?=some n:=by rw[AJ,AH,hu];rfl
  have hke:(AJ l)[(AJ l).length-1]?=some en:=by rw[hkl,AJ,AH,he];rfl
  have hgd:=OR hl.nd hki hke;have h1:(ixG (AJ l) n).getD (.int .i64 0)= .int .i64 (i:Nat):=by rw[hix];rfl
  have h2:(ixG (AJ l) n).isSome=true:=by rw[hix];rfl
  have hem:en∈AJ l:=Aq hke;have hen:=hl.lt en hem;have h3:(ixG (AJ l) en).isSome=true:=by rw[C4 hem];rfl
  have hsz:(if(ixG (AJ l) en).isSome then l.length else l.length+1)=l.length:=by rw[h3];rfl
  have h4:(EN (ixG (AJ l)) en (.int .i64 (i:Nat)) n).isSome=true:=by
   unfold EN;split
   ·rfl
   ·exact h2
  have hsz2:(if(EN (ixG (AJ l)) en (.int .i64 (i:Nat)) n).isSome then l.length else l.length)=l.length:=by split<;>rfl
  have hsz3:(if(EN (ixG (AJ l)) en (.int .i64 (i:Nat)) n).isSome then l.length-1 else l.length)=l.length-1:=by rw[h4];rfl
  have hmx:l.length<maxLen:=by unfold maxLen;omega
  have hmi:i<maxLen:=by unfold maxLen;omega
  have hr1:(l.map λe=>iA e.1)[l.length-1]?=some (iA en):=by rw[AH,he];rfl
  have hv1:(l.map λe=>BA e.2)[l.length-1]?=some (BA ev):=by rw[AH,he];rfl
  have hrs:(l.map λe=>iA e.1).set i (iA en)=(l.set i (en,ev)).map λe=>iA e.1:=by rw[List.map_set]
  have hvs:(l.map λe=>BA e.2).set i (BA ev)=(l.set i (en,ev)).map λe=>BA e.2:=by rw[List.map_set]
  have hri:((l.set i (en,ev)).map λe=>iA e.1)[i]?=some (iA en):=by rw[AH,List.getElem?_set_self hi];rfl
  have hrl:(l.map λe=>iA e.1).length=l.length:=AB _;have hvl:(l.map λe=>BA e.2).length=l.length:=AB _
  have hvz:((l.map λe=>BA e.2).set i (BA ev))[l.length-1]?=some (BA ev):=by
   rw[hvs];rw[AH];by_cases h:i=l.length-1
   ·rw[<-h,List.getElem?_set_self hi];rfl
   ·rw[List.getElem?_set_ne h,he];rfl
  have hvt:(((l.map λe=>BA e.2).set i (BA ev)).set (l.length-1) (BA ⟨0,0⟩)).take (l.length-1)=((l.set i (en,ev)).take (l.length-1)).map λe=>BA e.2:=by
   rw[hvs];rw[List.take_set_of_le (Nat.le_refl _),List.map_take]
  have hrt:((l.set i (en,ev)).map λe=>iA e.1).take (l.length-1)=((l.set i (en,ev)).take (l.length-1)).map λe=>iA e.1:=by rw[List.map_take]
  have hkt:ixG (((AJ l).set i en).take ((AJ l).length-1))=ixG (AJ ((l.set i (en,ev)).take (l.length-1))):=by
   rw[hkl,AJ,AJ,List.map_take,List.map_set]
  refine Sp (nt:=94) (res:=[.tmp 4]) Tryz.func297 λSf=>?_
  refine R1 ?_;refine JD ?_;(iterate 5 refine WO ?_);refine AOps.gN ?_;refine AOps.go (h:=EK _ _ h1 h2 hn rfl rfl (by exact At.f)) (k:=?_);refine JE ?_;refine JL ?_;refine AA rfl rfl ?_;refine JD ?_;(iterate 5 refine WO ?_);refine AOps.gN ?_;refine AOps.go (h:=A9 ((l.length-1:Nat):Int) (by omega) (by omega) rfl rfl) (k:=?_);refine JB ?_;refine FL ?_;refine RU ?_;(repeat first|(refine RGo.gN ?_;first|refine RGo.go (h:=W.idx (a:=l.length-1) rfl rfl (by exact At.f) rfl (by omega) (Nat.zero_add _)) (k:=?_)|refine RGo.go (h:=W.idx (a:=i) rfl rfl (by exact At.f) rfl (by omega) (Nat.zero_add _)) (k:=?_))|(refine RGo.gQ ?_;first|refine RGo.go (h:=W.idx (a:=l.length-1) rfl rfl (by exact At.f) rfl (by omega) (Nat.zero_add _)) (k:=?_)|refine RGo.go (h:=W.idx (a:=i) rfl rfl (by exact At.f) rfl (by omega) (Nat.zero_add _)) (k:=?_))|refine RK ?_|refine RGo.nil (by kernel_rfl) ?_);rw[hrs];refine FL ?_;refine RU ?_;(iterate 9 refine RK ?_);refine RGo.gN ?_;refine RGo.go (h:=W.idx (a:=i) rfl rfl (by exact At.f) rfl (by omega) (Nat.zero_add _)) (k:=?_);refine JH ?_;refine RGo.gN ?_;refine RGo.goS (h:=W.mapUpd (PlainV.int (by kernel_rfl) (GU (by omega))) (by omega) hmx rfl rfl rfl (by exact At.f)) (k:=?_);refine RGo.nil (by kernel_rfl) ?_;rw[hsz];refine JD ?_;(iterate 5 refine WO ?_);refine AOps.gN ?_;refine AOps.goS (h:=W.mapDel hn rfl rfl (by exact At.f)) (k:=?_);refine NL ?_;rw[hsz3,hgd];refine JJ ?_;refine Ai λZ=>?_;refine NL ?_
  refine FL ?_;refine RU ?_;(iterate 6 refine RK ?_);refine RGo.gN ?_;refine RGo.go (h:=W.idx (a:=l.length-1) rfl rfl (by exact At.f) rfl (by omega) (Nat.zero_add _)) (k:=?_);refine RK ?_;refine RGo.nil (by kernel_rfl) ?_;refine FL ?_;refine RU ?_;(repeat first|(refine RGo.gN ?_;first|refine RGo.go (h:=W.hi (a:=l.length-1) rfl rfl (by exact At.f) rfl (by omega)) (k:=?_))|(refine RGo.gQ ?_;first|refine RGo.go (h:=W.hi (a:=l.length-1) rfl rfl (by exact At.f) rfl (by omega)) (k:=?_))|refine RK ?_|refine RGo.nil (by kernel_rfl) ?_);refine JC ?_;refine AWP.shrink (X:=k.V) (l.length-1) ?_;refine AWP.shrink (X:=k.R) (l.length-1) ?_;refine AWP.front k.M ?_;refine AWP.front k.R ?_;refine AWP.front k.V ?_;refine AWP.front k.X ?_;refine RT ?_;exact Ends.sp [iA 0] _ ⟨rfl,PM (n:=l.length-1) (m:=l.length-1) (c:=l.length-1) hdl.symm hdl.symm hvt hrt hkt hdl.symm⟩
 ·rw[if_neg hk,FY hk]
  have hix:=Fu hk;have h1:(ixG (AJ l) n).getD (.int .i64 0)= .int .i64 0:=by rw[hix];rfl
  have h2:(ixG (AJ l) n).isSome=false:=by rw[hix];rfl
  refine Sp (nt:=94) (res:=[.tmp 4]) Tryz.func297 λSf=>?_
  refine R1 ?_;refine JD ?_;(iterate 5 refine WO ?_);refine AOps.gN ?_;refine AOps.go (h:=EK _ _ h1 h2 hn rfl rfl (by exact At.f)) (k:=?_);refine JE ?_;refine JL ?_;refine AL rfl rfl ?_;refine JA ?_;exact Ends.sp [iA 4] (stE k l) ⟨rfl,rfl⟩
theorem Tw(k:StK)(l:List (Int×List Int))(hl:ColOK l)(n:Int)(hn:I64 n):Spec Tryz.prog 298 [.ptr k.X 0 0,iA n] (stS k l) λr S'=>r=iA (if n∈AJ l then 0 else 4)/\S'=stS k (BW l n):=by
 have hlen:=hl.len;by_cases hk:n∈AJ l
 ·rw[if_pos hk]
  obtain⟨u,hu⟩:=E4 hk;have hi:=E3 hk;obtain⟨⟨en,ev⟩,he⟩:=Jp (l:=l) (by omega);have hdl:=J6 hk;have hdr:BW l n=(l.set ((AJ l).idxOf n) (en,ev)).take (l.length-1):=by unfold BW;rw[if_pos hk,he]
  rw[hdr]at hdl⊢;have hix:=C4 hk;obtain⟨i,hi2⟩:=nm ((AJ l).idxOf n);rw[hi2]at hi hu hix hdl⊢;have hkl:(AJ l).length=l.length:=AB _;have hki:(AJ l)[i]?=some n:=by rw[AJ,AH,hu];rfl
  have hke:(AJ l)[(AJ l).length-1]?=some en:=by rw[hkl,AJ,AH,he];rfl
  have hgd:=OR hl.nd hki hke;have h1:(ixG (AJ l) n).getD (.int .i64 0)= .int .i64 (i:Nat):=by rw[hix];rfl
  have h2:(ixG (AJ l) n).isSome=true:=by rw[hix];rfl
  have hem:en∈AJ l:=Aq hke;have hen:=hl.lt en hem;have h3:(ixG (AJ l) en).isSome=true:=by rw[C4 hem];rfl
  have hsz:(if(ixG (AJ l) en).isSome then l.length else l.length+1)=l.length:=by rw[h3];rfl
  have h4:(EN (ixG (AJ l)) en (.int .i64 (i:Nat)) n).isSome=true:=by
   unfold EN;split
   ·rfl
   ·exact h2
  have hsz2:(if(EN (ixG (AJ l)) en (.int .i64 (i:Nat)) n).isSome then l.length else l.length)=l.length:=by split<;>rfl
  have hsz3:(if(EN (ixG (AJ l)) en (.int .i64 (i:Nat)) n).isSome then l.length-1 else l.length)=l.length-1:=by rw[h4];rfl
  have hmx:l.length<maxLen:=by unfold maxLen;omega
  have hmi:i<maxLen:=by unfold maxLen;omega
  have hr1:(l.map λe=>iA e.1)[l.length-1]?=some (iA en):=by rw[AH,he];rfl
  have hv1:(l.map λe=>AM false e.2)[l.length-1]?=some (AM false ev):=by rw[AH,he];rfl
  have hrs:(l.map λe=>iA e.1).set i (iA en)=(l.set i (en,ev)).map λe=>iA e.1:=by rw[List.map_set]
  have hvs:(l.map λe=>AM false e.2).set i (AM false ev)=(l.set i (en,ev)).map λe=>AM false e.2:=by rw[List.map_set]
  have hri:((l.set i (en,ev)).map λe=>iA e.1)[i]?=some (iA en):=by rw[AH,List.getElem?_set_self hi];rfl
  have hrl:(l.map λe=>iA e.1).length=l.length:=AB _;have hvl:(l.map λe=>AM false e.2).length=l.length:=AB _
  have hvz:((l.set i (en,ev)).map λe=>AM false e.2)[l.length-1]?=some (AM false ev):=by
   rw[AH];by_cases h:i=l.length-1
   ·rw[<-h,List.getElem?_set_self hi];rfl
   ·rw[List.getElem?_set_ne h,he];rfl
  have hvt:(((l.set i (en,ev)).map λe=>AM false e.2).set (l.length-1) (.prim (.slice none 0 0))).take (l.length-1)=((l.set i (en,ev)).take (l.length-1)).map λe=>AM false e.2:=by
   rw[List.take_set_of_le (Nat.le_refl _),List.map_take]
  have hrt:((l.set i (en,ev)).map λe=>iA e.1).take (l.length-1)=((l.set i (en,ev)).take (l.length-1)).map λe=>iA e.1:=by rw[List.map_take]
  have hkt:ixG (((AJ l).set i en).take ((AJ l).length-1))=ixG (AJ ((l.set i (en,ev)).take (l.length-1))):=by
   rw[hkl,AJ,AJ,List.map_take,List.map_set]
  refine Sp (nt:=94) (res:=[.tmp 4]) Tryz.func298 λSf=>?_
  refine R1 ?_;refine JD ?_;(iterate 5 refine WO ?_);refine AOps.gN ?_;refine AOps.go (h:=EK _ _ h1 h2 hn rfl rfl (by exact At.f)) (k:=?_);refine JE ?_;refine JL ?_;refine AA rfl rfl ?_;refine JD ?_;(iterate 5 refine WO ?_);refine AOps.gN ?_;refine AOps.go (h:=A9 ((l.length-1:Nat):Int) (by omega) (by omega) rfl rfl) (k:=?_);refine JB ?_;refine FL ?_;refine RU ?_;(repeat first|(refine RGo.gN ?_;first|refine RGo.go (h:=W.idx (a:=l.length-1) rfl rfl (by exact At.f) rfl (by omega) (Nat.zero_add _)) (k:=?_)|refine RGo.go (h:=W.idx (a:=i) rfl rfl (by exact At.f) rfl (by omega) (Nat.zero_add _)) (k:=?_))|(refine RGo.gQ ?_;first|refine RGo.go (h:=W.idx (a:=l.length-1) rfl rfl (by exact At.f) rfl (by omega) (Nat.zero_add _)) (k:=?_)|refine RGo.go (h:=W.idx (a:=i) rfl rfl (by exact At.f) rfl (by omega) (Nat.zero_add _)) (k:=?_))|refine RK ?_|refine RGo.nil (by kernel_rfl) ?_);rw[hrs,hvs];refine FL ?_;refine RU ?_;(iterate 9 refine RK ?_);refine RGo.gN ?_;refine RGo.go (h:=W.idx (a:=i) rfl rfl (by exact At.f) rfl (by omega) (Nat.zero_add _)) (k:=?_);refine JH ?_;refine RGo.gN ?_;refine RGo.goS (h:=W.mapUpd (PlainV.int (by kernel_rfl) (GU (by omega))) (by omega) hmx rfl rfl rfl (by exact At.f)) (k:=?_);refine RGo.nil (by kernel_rfl) ?_;rw[hsz];refine JD ?_;(iterate 5 refine WO ?_);refine AOps.gN ?_;refine AOps.goS (h:=W.mapDel hn rfl rfl (by exact At.f)) (k:=?_);refine NL ?_;rw[hsz3,hgd];refine JC ?_;refine JD ?_;(iterate 6 refine WO ?_);refine AOps.gN ?_;refine AOps.go (h:=W.idx (a:=l.length-1) rfl rfl (by exact At.f) rfl (by omega) (Nat.zero_add _)) (k:=?_);refine JB ?_;refine FL ?_;refine RU ?_;(repeat first|(refine RGo.gN ?_;first|refine RGo.go (h:=W.hi (a:=l.length-1) rfl rfl (by exact At.f) rfl (by omega)) (k:=?_))|(refine RGo.gQ ?_;first|refine RGo.go (h:=W.hi (a:=l.length-1) rfl rfl (by exact At.f) rfl (by omega)) (k:=?_))|refine RK ?_|refine RGo.nil (by kernel_rfl) ?_);refine JC ?_;refine AWP.shrink (X:=k.V) (l.length-1) ?_;refine AWP.shrink (X:=k.R) (l.length-1) ?_;refine AWP.front k.M ?_;refine AWP.front k.R ?_;refine AWP.front k.V ?_;refine AWP.front k.X ?_;refine RT ?_;exact Ends.sp [iA 0] _ ⟨rfl,PL (n:=l.length-1) (m:=l.length-1) (c:=l.length-1) hdl.symm hdl.symm hvt hrt hkt hdl.symm⟩
 ·rw[if_neg hk,FY hk]
  have hix:=Fu hk;have h1:(ixG (AJ l) n).getD (.int .i64 0)= .int .i64 0:=by rw[hix];rfl
  have h2:(ixG (AJ l) n).isSome=false:=by rw[hix];rfl
  refine Sp (nt:=94) (res:=[.tmp 4]) Tryz.func298 λSf=>?_
  refine R1 ?_;refine JD ?_;(iterate 5 refine WO ?_);refine AOps.gN ?_;refine AOps.go (h:=EK _ _ h1 h2 hn rfl rfl (by exact At.f)) (k:=?_);refine JE ?_;refine JL ?_;refine AL rfl rfl ?_;refine JA ?_;exact Ends.sp [iA 4] (stS k l) ⟨rfl,rfl⟩
theorem P2(X V n i:Nat)(l:List AV)(e:AV)(hn:n=l.length)(hi:i<=n)(hb:(n+1)*8<=140737488355328)(hfr:FreeL l)(hfe:FreeE e)(hw:∀x∈l,x.width=1)(hwe:e.width=1)(hze:AV.frzs [e]=[e]):
  Spec Tryz.prog 151 [.sl X 0 n,iA i,.sl V 0 1] [(X,.row 145 1 l),(V,.row 145 1 [e])] λr S'=>r= .lst true 145 1 (l.take i++e::l.drop i)/\S'=[]:=by
 refine Sp (nt:=95) (res:=[.tmp 6]) Tryz.func151 λSf=>?_
 have hfV:FreeL [e]:=λx hx=>by rw[List.mem_singleton.1 hx];exact hfe
 have hwV:∀x∈[e],x.width=1:=λx hx=>by rw[List.mem_singleton.1 hx];exact hwe
 refine R1 ?_;refine JF ?_;refine WO ?_;refine AOps.gN ?_;refine AOps.p (W.slice_lo rfl rfl (by exact At.f) rfl (by omega)) rfl ?_;refine NL ?_;refine R1 ?_;refine R1 ?_;refine AA rfl rfl ?_;refine R1 ?_;refine R1 ?_;by_cases hin:i=n
 ·refine AL rfl (Ah (by omega)) ?_
  refine IN 2 [e] hze ?_;have hbb:(n+[e].length)*8<=140737488355328:=hb;refine KK ?_;refine Ay λY=>?_;refine KK ?_
  refine RT ?_;have hm:n+[e].length=(l++[e]).length:=by rw[AP,hn]
  have hr:l++[e]=l.take i++e::l.drop i:=by rw[hin,hn,List.take_length,List.drop_length]
  rw[<-hr];exact⟨[.sl Y 0 (n+[e].length)],[.lst true 145 1 (l++[e])],_,[],.cons (.tmp rfl) rfl .nil,.cons (.cell (.sl (p:=0) .here hm)) .nil,by exact Sub.f,rfl,rfl⟩
 ·refine AA rfl (AK (by omega)) ?_
  refine AWP.cap X λZ c u0 hc hnc=>?_
  refine RG ?_;(iterate 4 refine WO ?_);refine AOps.gN ?_;refine AOps.p (W.cap hc rfl (by exact At.f) (by exact At.f)) rfl ?_;refine JB ?_;refine AWP.cond rfl (λhg=>?_) (λhg=>?_)
  ·have hcn:c<n+1:=by rw[AE]at hg;omega
   refine AWP.rs λY=>?_
   refine RG ?_;(repeat first|(refine AOps.gN ?_;first|refine AOps.p (W.hi (a:=i) rfl rfl (by exact At.f) rfl hi) rfl ?_|refine AOps.p (A9 ((n+1-i:Nat):Int) (by omega) (by omega) rfl rfl) rfl ?_|refine AOps.s (VX (n+1-i) hc rfl rfl (by exact At.f) (by exact At.f) (by exact At.f) rfl (by exact .inr rfl) (by rfl) (by kernel_rfl) (by omega) (by omega) (by decide) (by omega) (by omega) hfr) rfl ?_)|refine WO ?_|refine Ai λX=>?_|refine Ay λY=>?_);have hsum:i+(n+1-i)=n+1:=by omega
   obtain⟨l1,hl1⟩:=nm (l.take i++List.replicate (n+1-i) (zAV [.pointer none] false));have hti:(l.take i).length=i:=by rw[Aj];omega
   have hl1n:l1.length=n+1:=by rw[<-hl1,AP,hti,List.length_replicate,hsum]
   have hfr1:FreeL l1:=λx hx=>by
    rw[<-hl1]at hx;rcases List.mem_append.1 hx with hx|hx
    ·exact hfr x (List.mem_of_mem_take hx)
    ·rw[List.eq_of_mem_replicate hx]
     exact FreeE.prim _
   have htk:l1.take i=l.take i:=by rw[<-hl1,List.take_left' hti]
   rw[hl1,hsum];refine JJ ?_;refine WO ?_;refine AOps.gN ?_;refine AOps.p (W.slice_lo rfl rfl (by exact At.f) rfl (by omega)) rfl ?_;refine WO ?_;refine AOps.gN ?_;refine AOps.s (W.copyO 1 rfl rfl (by exact At.f) (by exact At.f) (by rfl) (by omega) (by omega) (by omega) (by omega) (by exact Nat.le_refl _) hfr1 hfV hwV) rfl ?_;obtain⟨l2,hl2⟩:=nm (l1.take (0+i)++([e].drop 0).take 1++l1.drop (0+i+1));rw[hl2];have hl2n:l2.length=n+1:=by rw[<-hl2];simp only[AP,Aj,Bi,List.length_singleton];omega
   have hfr2:FreeL l2:=λx hx=>by
    rw[<-hl2]at hx;rcases List.mem_append.1 hx with hx|hx
    ·rcases List.mem_append.1 hx with hx|hx
     ·exact hfr1 x (List.mem_of_mem_take hx)
     ·exact hfV x (List.mem_of_mem_drop (List.mem_of_mem_take hx))
    ·exact hfr1 x (List.mem_of_mem_drop hx)
   have htk2:l2.take (0+(i+1))=l.take i++[e]:=by
    rw[<-hl2,Nat.zero_add,Nat.zero_add,htk];exact List.take_left' (by simp[hti])
   refine FL ?_;refine RU ?_;(iterate 3 refine RK ?_);refine RGo.gN ?_;refine RGo.go (h:=Bc ((i+1:Nat):Int) (by omega) (by omega) rfl rfl) (k:=?_);refine RGo.gN ?_;refine RGo.go (h:=W.slice_lo rfl rfl (by exact At.f) rfl (by omega)) (k:=?_);refine JH ?_;refine RGo.gN ?_;refine RGo.go (h:=W.slice_lo rfl rfl (by exact At.f) rfl (by omega)) (k:=?_);refine RGo.gN ?_;refine RGo.goS (h:=W.copyO (n-i) rfl rfl (by exact At.f) (by exact At.f) (by rfl) (by omega) (by omega) (by omega) (by omega) (by omega) hfr2 hfr hw) (k:=?_);refine RGo.nil (by kernel_rfl) ?_;obtain⟨l3,hl3⟩:=nm (l2.take (0+(i+1))++(l.drop (0+i)).take (n-i)++l2.drop (0+(i+1)+(n-i)));rw[hl3]
   have hr:l3=l.take i++e::l.drop i:=by
    have e1:l2.drop (0+(i+1)+(n-i))=[]:=List.drop_of_length_le (by omega);have e2:(l.drop (0+i)).take (n-i)=l.drop i:=by rw[Nat.zero_add];exact List.take_of_length_le (by rw[Bi];omega)
    rw[<-hl3,htk2,e1,e2,List.append_nil,AT];rfl
   have hm:n+1=l3.length:=by
    rw[hr];simp only[AP,Bs,Bi,hti];omega
   refine JA ?_;rw[<-hr];exact⟨[.sl Y 0 (n+1)],[.lst true 145 1 l3],_,[],.cons (.tmp rfl) rfl .nil,.cons (.cell (.sl (p:=0) .here hm)) .nil,by exact Sub.f,rfl,rfl⟩
  ·have hcn:n+1<=c:=by rw[AN]at hg;omega
   refine RG ?_;(iterate 4 refine WO ?_);refine AOps.gN ?_;refine AOps.p (UI (n+1) hc rfl rfl (by exact At.f) (by exact At.f) (by omega) hcn) rfl ?_;refine JB ?_;refine RG ?_;(iterate 4 refine WO ?_);refine AOps.gN ?_;refine AOps.p (Bc ((i+1:Nat):Int) (by omega) (by omega) rfl rfl) rfl ?_;refine AOps.gN ?_;refine AOps.p (W.slice_lo rfl rfl (by exact At.f) rfl (by omega)) rfl ?_;refine AOps.p (W.over (t:=141) (tR:=4) Tryz.func210 (by kernel_rfl) (by kernel_rfl) (by kernel_rfl) (by kernel_rfl) rfl rfl (by exact At.f) (by exact At.f) (by rfl) (by decide) (by omega) (by omega)) rfl ?_;refine WO ?_;refine FL ?_;refine AL rfl rfl ?_;refine RU ?_;(iterate 3 refine RK ?_);refine RGo.gN ?_;refine RGo.go (h:=Bc ((i+1:Nat):Int) (by omega) (by omega) rfl rfl) (k:=?_);refine RGo.gN ?_;refine RGo.go (h:=W.slice_lo rfl rfl (by exact At.f) rfl (by omega)) (k:=?_);refine JH ?_;refine RGo.gN ?_;refine RGo.go (h:=W.slice_lo rfl rfl (by exact At.f) rfl (by omega)) (k:=?_);refine RGo.gN ?_;refine RGo.goS (h:=W.copyS (n-i) rfl rfl (by exact At.f) (by omega) (by omega) (by omega) (by omega) (by omega) hfr hw) (k:=?_);refine RGo.nil (by kernel_rfl) ?_;have hti:(l.take i).length=i:=by rw[Aj];omega
   obtain⟨l1,hl1⟩:=nm (l.take (0+(i+1))++(l.drop (0+i)).take (n-i)++l.drop (0+(i+1)+(n-i)));rw[hl1];have hti1:(l.take (i+1)).length=i+1:=by rw[Aj];omega
   have hl1e:l1=l.take (i+1)++l.drop i:=by
    have e1:l.drop (0+(i+1)+(n-i))=[]:=List.drop_of_length_le (by omega);have e2:(l.drop (0+i)).take (n-i)=l.drop i:=by rw[Nat.zero_add];exact List.take_of_length_le (by rw[Bi];omega)
    rw[<-hl1,e1,e2,List.append_nil,Nat.zero_add]
   have hfr1:FreeL l1:=λx hx=>by
    rw[hl1e]at hx;rcases List.mem_append.1 hx with hx|hx
    ·exact hfr x (List.mem_of_mem_take hx)
    ·exact hfr x (List.mem_of_mem_drop hx)
   have hl1n:l1.length=n+1:=by rw[hl1e,AP,hti1,Bi];omega
   have htk:l1.take i=l.take i:=by rw[hl1e,List.take_append_of_le_length (by omega),List.take_take,Nat.min_eq_left (by omega)]
   have hdr:l1.drop (i+1)=l.drop i:=by rw[hl1e,List.drop_left' hti1]
   refine JF ?_;refine WO ?_;refine AOps.gN ?_;refine AOps.p (W.slice_lo rfl rfl (by exact At.f) rfl (by omega)) rfl ?_;refine WO ?_;refine AOps.gN ?_;refine AOps.s (W.copyO 1 rfl rfl (by exact At.f) (by exact At.f) (by rfl) (by omega) (by omega) (by omega) (by omega) (by exact Nat.le_refl _) hfr1 hfV hwV) rfl ?_;obtain⟨l2,hl2⟩:=nm (l1.take (0+i)++([e].drop 0).take 1++l1.drop (0+i+1));rw[hl2]
   have hr:l2=l.take i++e::l.drop i:=by
    rw[<-hl2,Nat.zero_add,htk,hdr,AT];rfl
   have hm:n+1=l2.length:=by
    rw[hr];simp only[AP,Bs,Bi,hti];omega
   refine FL ?_;refine JA ?_;rw[<-hr];exact⟨[.sl X 0 (n+1)],[.lst true 145 1 l2],_,[],.cons (.tmp rfl) rfl .nil,.cons (.cell (.sl (p:=1) (.next .here) hm)) .nil,by exact Sub.f,rfl,rfl⟩
instance tPtrT:TPtr Tryz.prog 145:=⟨151,by kernel_rfl,by kernel_rfl⟩
instance mapIT:TMap Tryz.prog 140 3 145 (.pointer none):=⟨by kernel_rfl,by kernel_rfl,λw=>by kernel_rfl,PlainV.nil (te:=151) (by kernel_rfl)⟩
theorem OA(x:Nat):FreeE (.ptr x 0 0):=λm c bs k=>by
 simp only[VC]at k;exact k.1
theorem S9(A B1 B2 C Z:List AC):(A++(B1++(B2++(C++Z)))).Perm (B1++(B2++((C++(A++[]))++Z))):=by
 rw[List.append_nil];have:=B7 A (B1++(B2++C)) Z;simpa[AT]using this
theorem Spec.tt{P:Program}{f:FuncId}{args:List AV}{S:List AC}{β:Type}{r:β->AV}{So:β->List AC}(h:Spec P f args S λr' S'=>∃q,r'=r q/\S'=So q):Spec P f args S λr' S'=>∃q,(λ_:β=>True) q/\r'=r q/\S'=So q:=h.mono λr' S' ⟨q,h⟩=>⟨q,trivial,h⟩
theorem RP{ts:List Tab}{t:Tab}(h:t∈ts):∃R,(BM ts).Perm ([D6 t]++R):=by
 obtain⟨l1,l2,rfl⟩:=List.append_of_mem h;refine⟨(stE t.ek t.es++Bh t.cs)++(BM l1++BM l2),?_⟩;have:=DJ (l1:=l1) (l2:=l2) (t:=t) [];simp only[List.append_nil]at this;exact this
theorem UG(ts:List Tab)(t:Tab)(ht:t∈ts)(ks:List Int)(hl:t.ks.length<=1099511627776):Spec Tryz.prog 147 [.ptr t.X 0 0,AM false ks] (BM ts) λr S'=>r=iA (Ca t.ks ks)/\S'=BM ts:=by
 obtain⟨R,hp⟩:=RP ht;refine Spec.perm ((VU t ks hl).beside R) hp λr S' hq=>?_
 obtain⟨S1,e1,e2,e3⟩:=hq;refine⟨BM ts,?_,e2,rfl⟩;rw[e1,e3];exact hp.symm
theorem LY(a:Ar)(e:Ent)(l:List Comp)(ha:ArOK a)(hne:Ek a.ts)(hn:0<=e.n/\e.n<256)(hf:e.n∉BQ a.ts)(hl:l.length<=16):
  Spec Tryz.prog 73 [.ptr a.A 0 0,BA e,Ax false false l] (arS a) λr S'=>∃b:Ar,(ArOK b/\Ek b.ts/\b.A=a.A/\b.kinds=a.kinds/\b.gens=a.gens/\(Aw b.ts).Perm (⟨e,l⟩::Aw a.ts))/\r= .tup []/\S'=arS b:=by
 obtain⟨ks,hks⟩:=nm (l.map (·.kind));have hkl:ks.length=l.length:=by rw[<-hks,AB]
 have hkm:(ks.map iA).length=ks.length:=AB _;have hko:=Px l (by omega);rw[hks]at hko;have htl:=ha.ts_le hne;have hsr:=PT a.Tb a.ts Tab.X (BM a.ts) ks 147 (λt:Tab=>Ca t.ks ks) (by omega) (λt ht=>UG a.ts t ht ks (by have:=(ha.tab t ht).ks;omega));refine Sp (nt:=98) (res:=[]) Tryz.func73 λSf=>?_
 refine JF ?_;refine Ai λB=>?_;refine NL ?_
 refine JJ ?_;refine AOps.g_callf ?_;refine AOps.c1 (h:=(hko ..)) (k:=?_);refine JB ?_;refine JD ?_;(iterate 5 refine WO ?_);refine AOps.gN ?_;refine D5 [_,_,_,_,_] (h:=hsr) λb hb=>?_;refine KO ?_
 obtain⟨i,fd⟩:=b;dsimp only
 skip
 refine AOps.nil ?_;refine JL ?_;refine I1 (λz:Ar×List Tab×Tab×List Tab=>ArOK z.1/\z.1.ts=z.2.1++z.2.2.1::z.2.2.2/\z.2.2.1.ks=ks/\Ek z.2.1/\Ek z.2.2.2/\z.2.1.length=i/\z.1.A=a.A/\z.1.kinds=a.kinds/\z.1.gens=a.gens/\BQ z.1.ts=BQ a.ts/\Aw z.1.ts=Aw a.ts) (λz=>⟨[(0,.ptr a.A 0 0),(2,Ax false false l),(4,.ptr B 0 0),(7,iA i)],(B,.row 32 2 [BA e])::(arS z.1++Sf)⟩) ?_ ?_
 ·cases fd with
  |true=>
   refine AA rfl rfl ?_;obtain⟨t,ht,hz⟩:=hb.eq.1 rfl;obtain⟨hi,rfl⟩:=List.getElem?_eq_some_iff.1 ht;obtain⟨l1,l2,e1,e2⟩:=FZ hi;have h1:Ek l1:=λu hu=>hne u (by rw[e1];simp[hu])
   have h2:Ek l2:=λu hu=>hne u (by rw[e1];simp[hu])
   refine KK ?_;refine jnR (a,l1,a.ts[i],l2) ⟨ha,e1,cmpL_zero.1 hz,h1,h2,e2,rfl,rfl,rfl,rfl,rfl⟩ ⟨by exact Lk.f,?_⟩;simp only[arS,BJ,BD];exact List.Sublist.refl _
  |false=>
   refine AL rfl rfl ?_;refine JJ ?_;refine AOps.gN ?_;refine Vi (C:=λ_=>True) [] (h:=newE_sp.mono λr' S' ⟨k,e1,e2⟩=>⟨k,trivial,e1,e2⟩) λek _=>?_;refine KO ?_;refine Ai λX=>?_;refine WO ?_
   refine AOps.nil ?_;refine FL ?_;refine AWP.adoptIn (Y:=X) 252 1 .here (λC=>.cons (.agg (.cons .same (.cons .same (.cons (.base .nil) .nil)))) .nil) λC=>?_
   refine JN ?_;refine AWP.front ek.M ?_;refine AWP.front ek.R ?_;refine AWP.front ek.V ?_;refine AWP.front ek.X ?_;refine AWP.front B ?_;refine AWP.front X ?_;refine AWP.front C ?_;refine D4 (λ(j C:Nat) (cs:List (StK×List (Int×List Int)))=>⟨[(0,.ptr a.A 0 0),(2,Ax false false l),(4,.ptr B 0 0),(6,AM false ks),(7,iA i),(9,.ptr X 0 0),(31,iA (ks.map iA).length),(32,iA j)],(C,.row 252 1 (cs.map λc=>.ptr c.1.X 0 0))::(X,.row 151 3 [.agg [AM false ks,.ptr ek.X 0 0,.sl C 0 cs.length]])::(B,.row 32 2 [BA e])::(stE ek []++(arH a++(Bh cs++(BM a.ts++Sf))))⟩) (λj C cs=>j<=ks.length/\cs.length=j/\∀c∈cs,c.2=[]) (λj _ _=>ks.length-j) 0 C [] ⟨by omega,rfl,by simp⟩ ?_;rintro j C cs ⟨hj,hcl,hce⟩;have hpl:(cs.map λc=>AV.ptr c.1.X 0 0).length=cs.length:=AB _;refine JN ?_;refine AWP.cond rfl (λh=>?_) (λh=>?_)
   ·have h:j<ks.length:=by rw[AE,hkm]at h;omega
    refine FL ?_;refine AWP.rs λY1=>AWP.rs λY2=>AWP.rs λY3=>AWP.rs λY4=>AWP.rs λY5=>?_
    (repeat refine WF ?_);refine Jk (by kernel_rfl) (by kernel_rfl) ?_;(repeat refine RGoE.go ?_);refine VY Y1 Y2 Y3 Y4 ⟨0,0,0,0⟩ Uw λk=>?_
    refine RGo.g_lit ?_;refine RGo.goL (AV.ptr k.X 0 0) ?_;(iterate 4 refine RK ?_);refine RGo.nil (by kernel_rfl) ?_;have hma:(cs.map λc=>AV.ptr c.1.X 0 0)++[AV.ptr k.X 0 0]=(cs++[(k,([]:List (Int×List Int)))]).map λc=>AV.ptr c.1.X 0 0:=by rw[List.map_append];rfl
    have hml:cs.length+[AV.ptr k.X 0 0].length=(cs++[(k,([]:List (Int×List Int)))]).length:=by rw[AP];rfl
    rw[hma,hml];refine FL ?_;refine AWP.front k.M ?_;refine AWP.front k.R ?_;refine AWP.front k.V ?_;refine AWP.front k.X ?_;refine AWP.front B ?_;refine AWP.front C ?_;refine AWP.front X ?_;refine AWP.front Y5 ?_;refine AWP.perm (S':=(Y5,.row 252 1 ((cs++[(k,([]:List (Int×List Int)))]).map λc=>AV.ptr c.1.X 0 0))::(X,.row 151 3 [.agg [AM false ks,.ptr ek.X 0 0,.sl Y5 0 (cs++[(k,([]:List (Int×List Int)))]).length]])::(C,.used)::(B,.row 32 2 [BA e])::(stE ek []++(arH a++(Bh (cs++[(k,([]:List (Int×List Int)))])++(BM a.ts++Sf))))) ?_ ?_
    ·refine List.Perm.cons _ (List.Perm.cons _ (List.Perm.cons _ (List.Perm.cons _ ?_)))
     rw[DP,DG];exact S9 (stS k []) (stE ek []) (arH a) (Bh cs) (BM a.ts++Sf)
    ·refine R1 ?_
     exact CW (j+1) Y5 (cs++[(k,[])]) ⟨by omega,by rw[AP,hcl];rfl,λc hc=>by
      rcases List.mem_append.1 hc with hc|hc
      ·exact hce c hc
      ·rw[BO]at hc;subst hc;rfl⟩ (by omega)
   ·have h:j=ks.length:=by rw[AN,hkm]at h;omega
    have hF:AV.frzs (((cs.map λc=>AV.ptr c.1.X 0 0).drop 0).take cs.length)=cs.map λc=>AV.ptr c.1.X 0 0:=by
     rw[List.drop_zero,List.take_of_length_le (by omega),EU,List.map_map];rfl
    refine FL ?_;refine AWP.iceIn (X:=C) (Y:=X) .here (.next .here) rfl (.cons (.agg (.cons .same (.cons .same (.cons (.base (.sl (by omega))) .nil)))) .nil) ?_;rw[hF];have hi:=hb.le;dsimp only at hi;have hpt:(ptrs Tab.X a.ts).length=a.ts.length:=AB _;refine AWP.rs λY=>AWP.rs λK2=>?_
    refine RG ?_;(iterate 7 refine WO ?_);refine AOps.gN ?_;refine AOps.s (W.lit1 (X:=K2) (l:=[.ptr X 0 0]) (by exact rfl) (by exact At.f) (by exact rfl) (by exact .inr rfl) (by decide) (by decide) (by exact rfl)) rfl ?_;have hfq:FreeL (ptrs Tab.X a.ts):=λx hx=>by obtain⟨y,_,rfl⟩:=List.mem_map.1 hx;exact OA _
    have hwq:∀x∈ptrs Tab.X a.ts,x.width=1:=λx hx=>by obtain⟨y,_,rfl⟩:=List.mem_map.1 hx;rfl
    have hins:=(P2 a.Tb K2 a.ts.length i (ptrs Tab.X a.ts) (.ptr X 0 0) hpt.symm hi (by omega) hfq (OA _) hwq rfl rfl).used2;refine Ve (h:=hins) (hT:=.ls (Y:=Y)) (k:=?_);refine KO ?_;obtain⟨t',ht'⟩:∃t':Tab,t'=⟨X,ks,ek,[],cs⟩:=⟨_,rfl⟩
    have hrow:(ptrs Tab.X a.ts).take i++ .ptr X 0 0::(ptrs Tab.X a.ts).drop i=ptrs Tab.X (a.ts.take i++t'::a.ts.drop i):=by
     rw[ptrs,ptrs,List.map_append,List.map_take,List.map_cons,List.map_drop,ht']
    have hrl:(ptrs Tab.X (a.ts.take i++t'::a.ts.drop i)).length=(a.ts.take i++t'::a.ts.drop i).length:=AB _;rw[hrow,hrl];dsimp only[AX,List.set_cons_zero,List.set_cons_succ,BJ,BD];refine AOps.front ek.M ?_;refine AOps.front ek.R ?_;refine AOps.front ek.V ?_;refine AOps.front ek.X ?_;refine AOps.front X ?_;refine AOps.front Y ?_;refine AOps.front a.Tv ?_;refine AOps.front a.O ?_;refine AOps.front a.G ?_;refine AOps.front a.A ?_;refine AOps.front B ?_;refine AOps.front a.Tb ?_;refine AOps.front C ?_;refine AOps.front K2 ?_;obtain⟨a',ha'⟩:∃a':Ar,a'={a with Tb:=Y,ts:=a.ts.take i++t'::a.ts.drop i}:=⟨_,rfl⟩
    have htok:TabOK t':=by
     rw[ht'];exact⟨by dsimp only;omega,by dsimp only;omega,⟨List.nodup_nil,by simp⟩,λc hc=>by rw[hce c hc];exact⟨List.nodup_nil,by simp⟩,λc hc n=>by rw[hce c hc];exact Iff.rfl⟩
    have hte:t'.es=[]:=by rw[ht']
    have htk:t'.ks=ks:=by rw[ht']
    have hb':Found (λu:Tab=>Ca u.ks t'.ks) a.ts (i,false):=by rw[htk];exact hb
    have hok:ArOK a':=by rw[ha'];exact ha.newT htok hte hb'
    refine AOps.perm (S':=(K2,.used)::(C,.used)::(a.Tb,.used)::(B,.row 32 2 [BA e])::(arS a'++Sf)) ?_ ?_
    ·refine List.Perm.cons _ (List.Perm.cons _ (List.Perm.cons _ (List.Perm.cons _ ?_)))
     subst ha';refine List.Perm.cons _ (List.Perm.cons _ (List.Perm.cons _ (List.Perm.cons _ (List.Perm.cons _ ?_))));have hz:=DJ (l1:=a.ts.take i) (l2:=a.ts.drop i) (t:=t') Sf;have hz2:BM (a.ts.take i)++(BM (a.ts.drop i)++Sf)=BM a.ts++Sf:=by rw[<-AT,<-Gi,List.take_append_drop]
     rw[hz2]at hz;subst ht';exact hz.symm
    ·refine AOps.nil ?_
     refine FL ?_;subst ha';refine jnR ({a with Tb:=Y,ts:=a.ts.take i++t'::a.ts.drop i},a.ts.take i,t',a.ts.drop i) ⟨hok,rfl,htk,λu hu=>hne u (List.mem_of_mem_take hu),λu hu=>hne u (List.mem_of_mem_drop hu),by rw[Aj];omega,rfl,rfl,rfl,Ry hte,Py hte⟩ ⟨by exact Lk.f,?_⟩;exact .cons _ (.cons _ (.cons _ (.refl _)))
 ·rintro⟨a',l1,t,l2⟩ ⟨hok,hts,htk,hn1,hn2,hil,hA,hki,hge,hke,hit⟩
  dsimp only at hok hts htk hn1 hn2 hil hA hki hge hke hit⊢;rw[<-hA];obtain⟨Z,hZ⟩:=nm (BM l1++(BM l2++Sf));have hop:=DJ (l1:=l1) (l2:=l2) (t:=t) Sf;rw[<-hts,hZ]at hop;refine AWP.perm (S':=(B,.row 32 2 [BA e])::(arH a'++(Ec t++Z))) ?_ ?_
  ·refine List.Perm.cons _ ?_
   rw[arS,AT];exact hop.append_left _
  have htm:t∈a'.ts:=by rw[hts];simp
  have hto:=hok.tab t htm
  have hat:(ptrs Tab.X a'.ts)[i]?=some (.ptr t.X 0 0):=by
   rw[AH,hts,List.getElem?_append_right (by omega),hil,Nat.sub_self];rfl
  have hil2:i<a'.ts.length:=by rw[hts,AP,Bs];omega
  have hft:e.n∉AJ t.es:=λhm=>hf (by rw[<-hke];exact List.mem_flatMap.2 ⟨t,htm,hm⟩)
  have hpe:=(T3 t.ek t.es hto.es e.n e hn).tt;have hlm:(l.map (AG false)).length=l.length:=AB _;have hlc:t.cs.length=l.length:=by rw[<-hto.len,htk,hkl]
  refine JD ?_;(iterate 5 refine WO ?_);refine AOps.gN ?_;refine AOps.go (h:=W.idx rfl rfl (by exact At.f) rfl (by omega) (Nat.zero_add _)) (k:=?_);refine JE ?_;refine FL ?_;(repeat refine WF ?_);refine De 7 (by kernel_rfl) (by kernel_rfl) (by kernel_rfl) ?_;dsimp only[List.take,List.drop];(iterate 7 refine RK ?_);refine RGo.nil (by kernel_rfl) ?_;refine D5 [_,_,_,_,_,_,_] (h:=hpe) λq _=>?_
  refine AOps.nil ?_;obtain⟨k',hk'⟩:∃k':StK,k'=⟨t.ek.X,q.1,q.2,t.ek.M⟩:=⟨_,rfl⟩;rw[<-hk'];refine JL ?_;refine Bq (λ(j:Nat) (cs:List (StK×List (Int×List Int)))=>⟨[(0,.ptr a'.A 0 0),(4,.ptr B 0 0),(10,.ptr t.X 0 0),(71,Ax false false l),(72,iA (l.map (AG false)).length),(73,iA j)],(B,.row 32 2 [BA e])::(arH a'++(D6 t::(stE k' (Bn t.es e.n e)++(Bh cs++Z))))⟩) (λj cs=>j<=l.length/\CsUp e.n l j t.cs cs) (λj _=>l.length-j) 0 t.cs ⟨by omega,.zero _ _ _⟩ ?_;rintro j cs ⟨hj,hcs⟩;have hcl:=hcs.len;have hcp:=hcs.ptrs;refine JN ?_;refine AWP.cond rfl (λh=>?_) (λh=>?_)
  ·have h:j<l.length:=by rw[AE,hlm]at h;omega
   have hjc:j<cs.length:=by omega
   have hjt:j<t.cs.length:=by omega
   have hlat:(l.map (AG false))[j]?=some (AG false l[j]):=BF _ h;have hlil:j<(l.map (AG false)).length:=by omega
   have hcat:(t.cs.map λc=>AV.ptr c.1.X 0 0)[j]?=some (.ptr cs[j].1.X 0 0):=by rw[<-hcp];exact BF _ hjc
   have hcil:j<(t.cs.map λc=>AV.ptr c.1.X 0 0).length:=by rw[AB];omega
   have hcj:cs[j].2=t.cs[j].2:=by rw[hcs.c j hjt hjc,if_neg (by omega)]
   have hcok:ColOK cs[j].2:=by rw[hcj];exact hto.cs _ (AU hjt)
   obtain⟨m1,m2,hsp,hm1⟩:=FZ hjc;have hlj:l[j]?=some l[j]:=AI h;obtain⟨⟨ck,cv⟩,hce⟩:=nm (l[j]);rw[hce]at hlat hlj;obtain⟨c,hcc⟩:=nm (cs[j]);rw[hcc]at hcat hcok hsp;have hpu:=(Ok c.1 c.2 hcok e.n cv hn).tt;refine JI ?_;refine Ai λC=>?_;refine JE ?_
   refine FL ?_
   have heq:(C,AO.row 42 2 [AG false ⟨ck,cv⟩])::(B,AO.row 32 2 [BA e])::(arH a'++(D6 t::(stE k' (Bn t.es e.n e)++(Bh cs++Z))))=((C,AO.row 42 2 [AG false ⟨ck,cv⟩])::(B,AO.row 32 2 [BA e])::(arH a'++(D6 t::(stE k' (Bn t.es e.n e)++Bh m1))))++(stS c.1 c.2++(Bh m2++Z)):=by
    rw[hsp,DP,DG];simp only[BJ,AT,BD]
   (repeat refine WF ?_);refine De 11 (by kernel_rfl) (by kernel_rfl) (by kernel_rfl) ?_;dsimp only[List.take,List.drop];(iterate 11 refine RK ?_);refine RGo.nil (by kernel_rfl) ?_;refine D5 _ (h:=hpu) (k:=λq2 _=>?_) (hp:=heq)
   have heq2:((C,AO.row 42 2 [AG false ⟨ck,cv⟩])::(B,AO.row 32 2 [BA e])::(arH a'++(D6 t::(stE k' (Bn t.es e.n e)++Bh m1))))++(stS ⟨c.1.X,q2.1,q2.2,c.1.M⟩ (Bn c.2 e.n cv)++(Bh m2++Z))=(C,AO.row 42 2 [AG false ⟨ck,cv⟩])::(B,AO.row 32 2 [BA e])::(arH a'++(D6 t::(stE k' (Bn t.es e.n e)++(Bh (m1++((⟨c.1.X,q2.1,q2.2,c.1.M⟩:StK),Bn c.2 e.n cv)::m2)++Z)))):=by
    rw[DP,DG];simp only[BJ,AT,BD]
   refine AOps.perm (List.Perm.of_eq heq2) ?_;refine AOps.nil ?_;refine JC ?_;exact BK (j+1) (m1++((⟨c.1.X,q2.1,q2.2,c.1.M⟩:StK),Bn c.2 e.n cv)::m2) ⟨by omega,hcs.next hsp hm1 (by rw[hlj];rfl) _ rfl⟩ (by omega)
  ·have h:j=l.length:=by rw[AN,hlm]at h;omega
   subst h;rw[<-hlc]at hcs;have hfa:e.n∉BQ a'.ts:=by rw[hke];exact hf
   have hgn:a'.g e.n=none:=by
    cases hg:a'.g e.n with
    |none=>rfl
    |some u=>
     obtain⟨w,hw,h2,_⟩:=hok.g _ _ hg;exact absurd (List.mem_flatMap.2 ⟨w,hw,h2⟩) hfa
   have hsz:(if(a'.g e.n).isSome then a'.c else a'.c+1)=a'.c+1:=by rw[hgn];rfl
   have hmx:a'.c<maxLen:=by have:=hok.c_le;unfold maxLen;omega
   refine FL ?_;refine AWP.namePtr (X:=t.X) 10 (λb=>?_);obtain⟨K',hK'⟩:∃K':AV->Value->Prop,K'=λv u=>a'.K v u\/(v= .ptr t.X 0 0/\u= .pointer (some ⟨b,0,none⟩)):=⟨_,rfl⟩
   rw[<-hK'];refine AWP.perm (S':=(B,.row 32 2 [BA e])::(arH {a' with ts:=l1++upT t k' e cs::l2,K:=K'}++(BM (l1++upT t k' e cs::l2)++Sf))) ?_ ?_
   ·refine List.Perm.cons _ ?_
    have hln:(l1++upT t k' e cs::l2).length=a'.ts.length:=by rw[hts];simp
    have hpr:ptrs Tab.X (l1++upT t k' e cs::l2)=ptrs Tab.X a'.ts:=by rw[hts,ptrs,ptrs,List.map_append,List.map_append,List.map_cons,List.map_cons]
    show List.Perm ([(a'.A,.row 143 4 [.agg [Ag false false a'.kinds,.sl a'.G 0 a'.gens.length,.sl a'.Tb 0 a'.ts.length,.mp a'.O]]),(a'.G,.row 3 1 (a'.gens.map iA)),(a'.O,.ob (MapF Tryz.prog 3 145 a'.g a'.c)),(a'.Tv,.tv K'),(a'.Tb,.row 145 1 (ptrs Tab.X a'.ts))]++(D6 t::(stE k' (Bn t.es e.n e)++(Bh cs++Z)))) ([(a'.A,.row 143 4 [.agg [Ag false false a'.kinds,.sl a'.G 0 a'.gens.length,.sl a'.Tb 0 (l1++upT t k' e cs::l2).length,.mp a'.O]]),(a'.G,.row 3 1 (a'.gens.map iA)),(a'.O,.ob (MapF Tryz.prog 3 145 a'.g a'.c)),(a'.Tv,.tv K'),(a'.Tb,.row 145 1 (ptrs Tab.X (l1++upT t k' e cs::l2)))]++(BM (l1++upT t k' e cs::l2)++Sf))
    rw[hln,hpr];refine List.Perm.append_left _ ?_;refine List.Perm.trans ?_ (DJ (l1:=l1) (l2:=l2) (t:=upT t k' e cs) Sf).symm;rw[hZ];refine List.Perm.of_eq ?_;have hkx:k'.X=t.ek.X:=by rw[hk']
    show _=((t.X,AO.row 151 3 [.agg [AM false t.ks,.ptr k'.X 0 0,Or cs]])::(stE k' (Bn t.es e.n e)++Bh cs))++Z
    rw[hkx,Or,hcp];rfl
   ·refine RU ?_;(iterate 7 refine RK ?_);refine RGo.gN ?_;refine RGo.goS (h:=W.mapUpd (PlainV.ptr (te:=151) (by kernel_rfl) b) (by omega) hmx rfl rfl rfl (by exact At.f)) (k:=?_);refine RGo.nil (by kernel_rfl) ?_
    rw[hsz];have hup:ArOK {a' with ts:=l1++upT t k' e cs::l2,K:=K',g:=EN a'.g e.n (.pointer (some ⟨b,0,none⟩)),c:=a'.c+1}:=hok.up hts hn hfa hcs (λv u h=>by rw[hK'];exact .inl h) (by rw[hK'];exact .inr ⟨rfl,rfl⟩);have hitm:=TU (l1:=l1) (l2:=l2) (k:=k') hto hn hft (htk.trans hks.symm) hcs;rw[<-hts,hit]at hitm;refine DU ?_;exact Ends.sp [] (arS {a' with ts:=l1++upT t k' e cs::l2,K:=K',g:=EN a'.g e.n (.pointer (some ⟨b,0,none⟩)),c:=a'.c+1}) ⟨_,⟨hup,Wg hn1 hn2 hft,rfl,hki,hge,hitm⟩,rfl,rfl⟩
def E1(a:Ar)(l1 l2:List Tab)(t:Tab)(n:Int)(Y:Nat):Ar:=if(BW t.es n).length=0 then{a with Tb:=Y,ts:=l1++l2,g:=Fj a.g n,c:=a.c-1}else{a with ts:=l1++Ds t n::l2,g:=Fj a.g n,c:=a.c-1}
theorem Kf{a:Ar}(h:ArOK a)(hne:Ek a.ts){l1 l2:List Tab}{t:Tab}(hts:a.ts=l1++t::l2){n:Int}{e:Ent}(hm:(n,e)∈t.es)(Y:Nat):ArOK (E1 a l1 l2 t n Y)/\Ek (E1 a l1 l2 t n Y).ts/\(E1 a l1 l2 t n Y).A=a.A/\(E1 a l1 l2 t n Y).kinds=a.kinds/\(E1 a l1 l2 t n Y).gens=a.gens/\(Aw a.ts).Perm (⟨e,Aa t n⟩::Aw (E1 a l1 l2 t n Y).ts):=by
 have h1:=h.down hts hm;have h2:=Kl h hts hm;unfold E1;split
 ·rename_i h0
  have h0:(Ds t n).es=[]:=List.eq_nil_of_length_eq_zero h0;refine⟨h1.less (Y:=Y) rfl h0,λu hu=>hne u ?_,rfl,rfl,rfl,by rw[Pz h0]at h2;exact h2⟩;rw[hts];rcases List.mem_append.1 hu with hu|hu<;>simp[hu]
 ·rename_i h0
  refine⟨h1,λu hu=>?_,rfl,rfl,rfl,h2⟩;rcases List.mem_append.1 hu with hu|hu
  ·exact hne u (by rw[hts];simp[hu])
  ·rcases List.mem_cons.1 hu with rfl|hu
   ·exact λe2=>h0 (by rw[show BW t.es n=[]from e2];rfl)
   ·exact hne u (by rw[hts];simp[hu])
theorem RN(P X:Nat)(l:List AV)(h0:0<l.length)(R:List AC):Spec Tryz.prog 301 [.ptr X 0 0,.ptr P 0 0] ((P,.row 145 1 [.ptr X 0 0])::(X,.row 151 3 l)::R) λr S'=>r=bA true/\S'=(P,.row 145 1 [.ptr X 0 0])::(X,.row 151 3 l)::R:=by
 refine Sp (nt:=7) (res:=[.tmp 3]) Tryz.func301 λSf=>?_
 refine R1 ?_;refine JJ ?_;refine WO ?_;refine AOps.gN ?_;refine AOps.go (h:=W.eqPtrS h0 rfl rfl (by exact At.f)) (k:=?_);refine JB ?_;refine RT ?_;exact Ends.sp [bA true] ((P,.row 145 1 [.ptr X 0 0])::(X,.row 151 3 l)::R) ⟨rfl,rfl⟩
theorem Ss(P X Y:Nat)(l l2:List AV)(h0:0<l.length)(h1:0<l2.length)(R:List AC):Spec Tryz.prog 301 [.ptr Y 0 0,.ptr P 0 0] ((P,.row 145 1 [.ptr X 0 0])::(X,.row 151 3 l)::(Y,.row 151 3 l2)::R) λr S'=>r=bA false/\S'=(P,.row 145 1 [.ptr X 0 0])::(X,.row 151 3 l)::(Y,.row 151 3 l2)::R:=by
 refine Sp (nt:=7) (res:=[.tmp 3]) Tryz.func301 λSf=>?_
 refine R1 ?_;refine JJ ?_;refine WO ?_;refine AOps.gN ?_;refine AOps.go (h:=W.eqPtrD (p:=2) (q:=1) h1 h0 rfl rfl (.next (.next .here)) (.next .here) (by decide)) (k:=?_);refine JB ?_;refine RT ?_;exact Ends.sp [bA false] ((P,.row 145 1 [.ptr X 0 0])::(X,.row 151 3 l)::(Y,.row 151 3 l2)::R) ⟨rfl,rfl⟩
theorem RQ{us:List Tab}{x:Tab}(h:x∈us):∃Z,(BM us).Perm (D6 x::Z):=by
 obtain⟨m1,m2,rfl⟩:=List.append_of_mem h;have:=DJ (l1:=m1) (l2:=m2) (t:=x) [];rw[List.append_nil]at this;exact⟨_,this⟩
theorem RO(P:Nat)(l1 l2:List Tab)(t:Tab)(ho:(l1++t::l2).Pairwise λx y:Tab=>Ca x.ks y.ks<0):∀x∈l1++t::l2,Spec Tryz.prog 301 (.ptr x.X 0 0::[.ptr P 0 0]) ((P,.row 145 1 [.ptr t.X 0 0])::(Ec t++(BM l1++BM l2))) λr S'=>r=bA (decide (x.ks=t.ks))/\S'=(P,.row 145 1 [.ptr t.X 0 0])::(Ec t++(BM l1++BM l2)):=by
 intro x hx
 have hd:x∈l1++l2->x.ks≠t.ks:=λh e=>by
  have h1:Ca x.ks t.ks=0:=cmpL_zero.2 e;have h2:Ca t.ks x.ks=0:=cmpL_zero.2 e.symm;rw[List.pairwise_append]at ho;rcases List.mem_append.1 h with h|h
  ·have:=ho.2.2 x h t (by simp);omega
  ·have:=(List.pairwise_cons.1 ho.2.1).1 x h;omega
 have hc:x=t\/x∈l1++l2:=by
  rcases List.mem_append.1 hx with h|h
  ·exact .inr (by simp[h])
  ·rcases List.mem_cons.1 h with h|h
   ·exact .inl h
   ·exact .inr (by simp[h])
 rcases hc with rfl|hc
 ·rw[Ah rfl]
  exact RN P x.X _ (by exact Nat.zero_lt_succ _) _
 ·rw[AK (hd hc)]
  obtain⟨Z,hZ⟩:=RQ hc;rw[Gi]at hZ
  have hp:((P,AO.row 145 1 [.ptr t.X 0 0])::(Ec t++(BM l1++BM l2))).Perm ((P,.row 145 1 [.ptr t.X 0 0])::D6 t::D6 x::((stE t.ek t.es++Bh t.cs)++Z)):=by
   refine List.Perm.cons _ (List.Perm.cons _ ?_);refine(hZ.append_left (stE t.ek t.es++Bh t.cs)).trans ?_;exact B7 (stE t.ek t.es++Bh t.cs) [D6 x] Z
  exact(Ss P t.X x.X _ _ (by exact Nat.zero_lt_succ _) (by exact Nat.zero_lt_succ _) _).perm hp λr S' ⟨h1,h2⟩=>⟨_,by rw[h2];exact hp.symm,h1,rfl⟩
theorem My(a:Ar)(ha:ArOK a)(hne:Ek a.ts){l1 l2:List Tab}{t:Tab}(hts:a.ts=l1++t::l2){n:Int}(hnk:n∈AJ t.es):Spec Tryz.prog 286 [.ptr a.A 0 0,iA n] (arS a) λr S'=>∃Y:Nat,True/\r= .lst true 42 2 ((Aa t n).map (AG false))/\S'=arS (E1 a l1 l2 t n Y):=by
 have htm:t∈a.ts:=by rw[hts];simp
 have hto:=ha.tab t htm;have hnl:=hto.es.lt n hnk;have hn:I64 n:=by constructor<;>omega
 have hsm:=ha.gn n (List.mem_flatMap.2 ⟨t,htm,hnk⟩);obtain⟨u,hu⟩:∃u,a.g n=some u:=Option.isSome_iff_exists.1 hsm;obtain⟨w,hw,hwn,hK,b,hb⟩:=ha.g n u hu;have hwt:=ha.uniq hw htm hwn hnk;subst hwt;have hgd:(a.g n).getD (.pointer none)=u:=by rw[hu];rfl
 have hone:u.oneCell'=true:=by rw[hb];rfl
 have hcs:=Om w n hto hn hnk;have hdE:=Ty w.ek w.es hto.es n hn;have hlE:=T5 w.ek (BW w.es n);have hc16:w.cs.length<=16:=by have:=hto.ks;have:=hto.len;omega
 have hcpl:(w.cs.map λc=>AV.ptr c.1.X 0 0).length=w.cs.length:=AB _;have hsz:(if(a.g n).isSome then a.c-1 else a.c)=a.c-1:=by rw[hsm];rfl
 obtain⟨⟨m,e⟩,hm,he⟩:=List.mem_map.1 hnk;have he:m=n:=he;rw[he]at hm;have hdn:=ha.down hts hm;obtain⟨w',hw'⟩:∃w',w'=Ds w n:=⟨_,rfl⟩;have htl:=ha.ts_le hne;have hhd:D6 w=D6 w':=by rw[hw'];show(w.X,AO.row 151 3 [.agg [AM false w.ks,.ptr w.ek.X 0 0,Or w.cs]])=(w.X,AO.row 151 3 [.agg [AM false w.ks,.ptr w.ek.X 0 0,Or (w.cs.map (GH n))]]);rw[Or,Or,List.map_map];rfl
 have hln:a.ts.length=(l1++w'::l2).length:=by rw[hts];simp
 have hpr:ptrs Tab.X a.ts=ptrs Tab.X (l1++w'::l2):=by rw[hts,hw',ptrs,ptrs,List.map_append,List.map_append,List.map_cons,List.map_cons]
 have hflt:(l1++w'::l2).filter (λx=>!decide (x.ks=w'.ks))=l1++l2:=by
  have ho:(l1++w'::l2).Pairwise λx y:Tab=>Ca x.ks y.ks<0:=by rw[hw'];exact hdn.ord
  have hd:∀x∈l1++l2,x.ks≠w'.ks:=λx h e=>by
   have h1:Ca x.ks w'.ks=0:=cmpL_zero.2 e;have h2:Ca w'.ks x.ks=0:=cmpL_zero.2 e.symm;rw[List.pairwise_append]at ho;rcases List.mem_append.1 h with h|h
   ·have:=ho.2.2 x h w' (by simp);omega
   ·have:=(List.pairwise_cons.1 ho.2.1).1 x h;omega
  rw[List.filter_append,List.filter_cons_of_neg (by simp),<-List.filter_append,List.filter_eq_self];intro x hx;simp[hd x hx]
 refine Sp (nt:=58) (res:=[.tmp 4]) Tryz.func286 λSf=>?_
 obtain⟨Z,hZ⟩:=nm (BM l1++(BM l2++Sf));have hop:=DJ (l1:=l1) (l2:=l2) (t:=w) Sf;rw[<-hts,hZ]at hop;refine R1 ?_;refine AWP.perm (S':=arH a++(Ec w++Z)) ?_ ?_
 ·rw[arS,AT]
  exact hop.append_left _
 refine JD ?_;(repeat first|(refine AOps.gN ?_;first|refine AOps.asPtr 14 (.ptr w.X 0 0) hK ?_|refine AOps.go (h:=IG _ hgd hn rfl rfl (by exact At.f) hone) (k:=?_))|refine WO ?_|refine Ai λP5=>?_|refine Ay λY=>?_);refine NL ?_;refine JJ ?_;refine WO ?_;refine AOps.gN ?_;refine O7 [_,_,_,_,_,_] (h:=hcs) (k:=λK=>?_);refine JB ?_;refine AWP.perm (S':=(K,.row 42 2 ((Aa w n).map (AG false)))::(P5,.row 145 1 [.ptr w.X 0 0])::(arH a++(D6 w::(stE w.ek w.es++(Bh w.cs++Z))))) (List.Perm.of_eq (by first|rfl|(simp only[BJ,AT,BD];done)|(simp only[BJ,AT,BD];rfl))) ?_;rw[AB];refine JD ?_;(iterate 5 refine WO ?_);refine AOps.gN ?_;refine EM [_,_,_,_,_,_,_,_] (h:=hdE) (k:=?_);refine NL ?_;refine JL ?_;refine Az (λ(j:Nat)=>⟨[(0,.ptr a.A 0 0),(1,iA n),(5,.ptr P5 0 0),(6,.sl K 0 (Aa w n).length),(27,Or w.cs),(28,iA (w.cs.map λc=>AV.ptr c.1.X 0 0).length),(29,iA j)],(K,.row 42 2 ((Aa w n).map (AG false)))::(P5,.row 145 1 [.ptr w.X 0 0])::(arH a++(D6 w::(stE w.ek (BW w.es n)++(Bh ((w.cs.take j).map (GH n)++w.cs.drop j)++Z))))⟩) (λj=>j<=w.cs.length) (λj=>w.cs.length-j) 0 (by omega) ?_;rintro j hj;refine JN ?_;refine AWP.cond rfl (λh=>?_) (λh=>?_)
 ·have h:j<w.cs.length:=by rw[AE,hcpl]at h;omega
  have hcat:(w.cs.map λc=>AV.ptr c.1.X 0 0)[j]?=some (.ptr w.cs[j].1.X 0 0):=BF _ h;have hcil:j<(w.cs.map λc=>AV.ptr c.1.X 0 0).length:=by omega
  have hcok:=hto.cs _ (AU h);have hdj:w.cs.drop j=w.cs[j]::w.cs.drop (j+1):=(List.getElem_cons_drop h).symm;have htj:(w.cs.take (j+1)).map (GH n)=(w.cs.take j).map (GH n)++[GH n w.cs[j]]:=by rw[List.take_succ_eq_append_getElem h,List.map_append];rfl
  obtain⟨c,hcc⟩:=nm (w.cs[j]);rw[hcc]at hcat hcok hdj htj;have hdS:=Tw c.1 c.2 hcok n hn
  have heq:(K,AO.row 42 2 ((Aa w n).map (AG false)))::(P5,AO.row 145 1 [.ptr w.X 0 0])::(arH a++(D6 w::(stE w.ek (BW w.es n)++(Bh ((w.cs.take j).map (GH n)++w.cs.drop j)++Z))))=((K,AO.row 42 2 ((Aa w n).map (AG false)))::(P5,AO.row 145 1 [.ptr w.X 0 0])::(arH a++(D6 w::(stE w.ek (BW w.es n)++Bh ((w.cs.take j).map (GH n))))))++(stS c.1 c.2++(Bh (w.cs.drop (j+1))++Z)):=by
   rw[hdj,DP,DG];simp only[BJ,AT,BD]
  have heq2:((K,AO.row 42 2 ((Aa w n).map (AG false)))::(P5,AO.row 145 1 [.ptr w.X 0 0])::(arH a++(D6 w::(stE w.ek (BW w.es n)++Bh ((w.cs.take j).map (GH n))))))++(stS c.1 (BW c.2 n)++(Bh (w.cs.drop (j+1))++Z))=(K,AO.row 42 2 ((Aa w n).map (AG false)))::(P5,AO.row 145 1 [.ptr w.X 0 0])::(arH a++(D6 w::(stE w.ek (BW w.es n)++(Bh ((w.cs.take (j+1)).map (GH n)++w.cs.drop (j+1))++Z)))):=by
   rw[htj,DP,DP,DG];simp only[BJ,AT,BD,Bh,List.flatMap_nil]
  refine JC ?_;refine JJ ?_;refine WO ?_;refine AOps.gN ?_;refine EM _ (h:=hdS) (k:=?_) (hp:=heq);refine NL ?_;refine AWP.perm (List.Perm.of_eq heq2) ?_;refine R1 ?_;exact Ab (j+1) (by omega)
 ·have h:j=w.cs.length:=by rw[AN,hcpl]at h;omega
  subst h;rw[List.take_length,List.drop_length,List.append_nil];refine JD ?_;(iterate 5 refine WO ?_);refine AOps.gN ?_;refine AOps.goS (h:=W.mapDel hn rfl rfl (by exact At.f)) (k:=?_);refine NL ?_;rw[hsz];refine JD ?_;(iterate 4 refine WO ?_);refine AOps.gN ?_;refine RE [_,_,_,_,_,_,_,_] (h:=hlE) (k:=?_);refine JB ?_;have hst:stE w.ek (BW w.es n)++(Bh (w.cs.map (GH n))++Z)=(stE w'.ek w'.es++Bh w'.cs)++Z:=by rw[hw',AT]
  have hXX:w.X=w'.X:=by rw[hw']
  have hlw:(BW w.es n).length=w'.es.length:=by rw[hw']
  rw[hst,hhd,hln,hpr,hXX];refine AWP.cond rfl (λh0=>?_) (λh0=>?_)
  ·have h0:(BW w.es n).length=0:=by rw[AE]at h0;omega
   have hdel:=QD a.Tb (l1++w'::l2) Tab.X ((P5,.row 145 1 [.ptr w'.X 0 0])::(Ec w'++(BM l1++BM l2))) 301 [.ptr P5 0 0] (λx=>decide (x.ks=w'.ks)) rfl (by rw[<-hln];omega) (RO P5 l1 l2 w' (by rw[hw'];exact hdn.ord));rw[hflt]at hdel;rw[<-hZ];refine AWP.perm (S':=(K,.row 42 2 ((Aa w n).map (AG false)))::(a.A,.row 143 4 [.agg [Ag false false a.kinds,.sl a.G 0 a.gens.length,.sl a.Tb 0 (l1++w'::l2).length,.mp a.O]])::(a.G,.row 3 1 (a.gens.map iA))::(a.O,.ob (MapF Tryz.prog 3 145 (Fj a.g n) (a.c-1)))::(a.Tv,.tv a.K)::(((a.Tb,.row 145 1 (ptrs Tab.X (l1++w'::l2)))::((P5,.row 145 1 [.ptr w'.X 0 0])::(Ec w'++(BM l1++BM l2))))++Sf)) ?_ ?_
   ·refine List.Perm.cons _ ?_
    have h1:=B7 [(a.A,AO.row 143 4 [.agg [Ag false false a.kinds,.sl a.G 0 a.gens.length,.sl a.Tb 0 (l1++w'::l2).length,.mp a.O]]),(a.G,.row 3 1 (a.gens.map iA)),(a.O,.ob (MapF Tryz.prog 3 145 (Fj a.g n) (a.c-1))),(a.Tv,.tv a.K),(a.Tb,.row 145 1 (ptrs Tab.X (l1++w'::l2)))] [(P5,.row 145 1 [.ptr w'.X 0 0])] (Ec w'++(BM l1++(BM l2++Sf)));refine List.Perm.trans (List.Perm.of_eq ?_) (h1.symm.trans (List.Perm.of_eq ?_))
    ·simp only[BJ,AT,BD]
     rfl
    ·simp only[BJ,AT,BD]
   refine JD ?_;(iterate 6 refine WO ?_);refine AOps.gN ?_;refine O7 [_,_,_,_,_] (h:=hdel) (k:=λY=>?_);refine JE ?_;dsimp only[AX,List.set_cons_zero,List.set_cons_succ,BJ,BD];refine AWP.front Y ?_;refine AWP.front a.Tv ?_;refine AWP.front a.O ?_;refine AWP.front a.G ?_;refine AWP.front a.A ?_;refine AWP.front P5 ?_;refine AWP.front K ?_;have hla:E1 a l1 l2 w n Y={a with Tb:=Y,ts:=l1++l2,g:=Fj a.g n,c:=a.c-1}:=if_pos h0;rw[show(ptrs Tab.X (l1++l2)).length=(l1++l2).length from AB _];refine R1 ?_;refine RT ?_;refine⟨[.sl K 0 (Aa w n).length],[.lst true 42 2 ((Aa w n).map (AG false))],_,arS (E1 a l1 l2 w n Y),.cons (.tmp rfl) rfl .nil,.cons (.cell (.sl (p:=0) .here (by simp))) .nil,?_,Y,trivial,rfl,rfl⟩;rw[hla]
   have hsub:(BM (l1++l2)++Sf).Sublist ((Ec w'++(BM l1++BM l2))++Sf):=by
    rw[Gi];exact(List.sublist_append_right _ _).append_right _
   exact .cons _ (.cons_cons _ (.cons_cons _ (.cons_cons _ (.cons_cons _ (.cons_cons _ hsub)))))
  ·have h0:¬(BW w.es n).length=0:=by rw[AN]at h0;omega
   have hla:E1 a l1 l2 w n 0={a with ts:=l1++w'::l2,g:=Fj a.g n,c:=a.c-1}:=by rw[hw'];exact if_neg h0
   have hop2:=DJ (l1:=l1) (l2:=l2) (t:=w') Sf;rw[hZ]at hop2;refine AWP.perm (S':=(K,.row 42 2 ((Aa w n).map (AG false)))::(P5,.row 145 1 [.ptr w'.X 0 0])::(arH {a with ts:=l1++w'::l2,g:=Fj a.g n,c:=a.c-1}++(BM (l1++w'::l2)++Sf))) (List.Perm.cons _ (List.Perm.cons _ (hop2.symm.append_left (arH {a with ts:=l1++w'::l2,g:=Fj a.g n,c:=a.c-1})))) ?_;rw[<-AT];refine JK ?_;refine⟨[.sl K 0 (Aa w n).length],[.lst true 42 2 ((Aa w n).map (AG false))],_,arS (E1 a l1 l2 w n 0),.cons (.tmp rfl) rfl .nil,.cons (.cell (.sl (p:=0) .here (by simp))) .nil,?_,0,trivial,rfl,rfl⟩;rw[hla];exact .cons _ (List.Sublist.refl _)
theorem EV{a:Ar}{l1 l2:List Tab}{t:Tab}(h:a.ts=l1++t::l2)(Sf:List AC):(arS a++Sf).Perm (arH a++(D6 t::(stE t.ek t.es++(Bh t.cs++(BM l1++(BM l2++Sf)))))):=by
 rw[arS,AT];refine List.Perm.append_left _ ?_;rw[h];exact(DJ Sf).trans (List.Perm.of_eq (by simp only[BJ,AT]))
def Fv(a:Ar)(e:Ent):Bool:=decide (e∈(Aw a.ts).map (·.ent))
theorem Td{a:Ar}(h:ArOK a){e:Ent}{t:Tab}(ht:t∈a.ts){v:Ent}(hm:(e.n,v)∈t.es):Fv a e=decide (v=e):=by
 unfold Fv;refine decide_eq_decide.2 ⟨λhe=>?_,λhe=>?_⟩
 ·obtain⟨it,hit,rfl⟩:=List.mem_map.1 he
  obtain⟨u,hu,hit⟩:=List.mem_flatMap.1 hit;obtain⟨p,hp,rfl⟩:=List.mem_map.1 hit;have hpn:=h.ent u hu p hp;have h1:p.2.n∈AJ u.es:=List.mem_map.2 ⟨p,hp,hpn⟩;have h2:p.2.n∈AJ t.es:=List.mem_map.2 ⟨_,hm,rfl⟩;have:=h.uniq ht hu h2 h1;subst this;have hto:=h.tab t ht;have h3:=(CS hto.es).2 hm;have h4:=(CS hto.es).2 (show(p.2.n,p.2)∈t.es by rw[<-hpn];exact hp);rw[h3]at h4;injection h4
 ·subst he
  refine List.mem_map.2 ⟨⟨v,Aa t v.n⟩,List.mem_flatMap.2 ⟨t,ht,List.mem_map.2 ⟨_,hm,rfl⟩⟩,rfl⟩
theorem U8{a:Ar}(h:ArOK a){e:Ent}(hg:a.g e.n=none):Fv a e=false:=by
 unfold Fv;refine AK λhe=>?_
 obtain⟨it,hit,rfl⟩:=List.mem_map.1 he;obtain⟨u,hu,hit⟩:=List.mem_flatMap.1 hit;obtain⟨p,hp,rfl⟩:=List.mem_map.1 hit;have hpn:=h.ent u hu p hp;have:=h.gn p.2.n (List.mem_flatMap.2 ⟨u,hu,List.mem_map.2 ⟨p,hp,hpn⟩⟩);rw[hg]at this;cases this
theorem Ik(a:Ar)(ha:ArOK a)(e:Ent)(hn:I64 e.n):Spec Tryz.prog 284 [.ptr a.A 0 0,BA e] (arS a) λr S'=>r=bA (Fv a e)/\S'=arS a:=by
 refine Sp (nt:=30) (res:=[.tmp 4]) Tryz.func284 λSf=>?_
 cases hg:a.g e.n with
 |none=>
  have hgd:(a.g e.n).getD (.pointer none)= .pointer none:=by rw[hg];rfl
  rw[U8 ha hg];refine JF ?_;refine Ai λB=>?_;refine JB ?_
  refine FL ?_;refine RU ?_;(iterate 6 refine RK ?_);refine RGo.gN ?_;refine RGo.go (h:=IG _ hgd hn rfl rfl (by exact At.f)) (k:=?_);refine RK ?_;refine RGo.nil (by kernel_rfl) ?_;refine JJ ?_;refine AOps.gN ?_;refine AOps.go (h:=W.eqNil true (.inl ⟨rfl,rfl⟩) rfl rfl) (k:=?_);refine NL ?_;refine AL rfl rfl ?_;refine JK ?_;exact Ends.sp [bA false] (arS a) ⟨rfl,rfl⟩
 |some u=>
  obtain⟨t,ht,htn,hK,b,hb⟩:=ha.g e.n u hg;have hto:=ha.tab t ht;obtain⟨⟨m,v⟩,hm,hme⟩:=List.mem_map.1 htn;have hme:m=e.n:=hme;subst hme;rw[Td ha ht hm];have hgt:=Th t.ek t.es hto.es e.n hn v ((CS hto.es).2 hm);have hgd:(a.g e.n).getD (.pointer none)=u:=by rw[hg];rfl
  have hone:u.oneCell'=true:=by rw[hb];rfl
  obtain⟨l1,l2,hts⟩:=List.append_of_mem ht;refine JF ?_;refine Ai λB=>?_;refine JB ?_
  refine FL ?_;refine RU ?_;(iterate 6 refine RK ?_);refine RGo.gN ?_;refine RGo.go (h:=IG _ hgd hn rfl rfl (by exact At.f) hone) (k:=?_);refine RK ?_;refine RGo.nil (by kernel_rfl) ?_;refine JJ ?_;refine AOps.gN ?_;refine AOps.go (h:=W.eqNil false (.inr ⟨b,hb,rfl⟩) rfl rfl) (k:=?_);refine NL ?_;refine AA rfl rfl ?_;refine FL ?_;refine AWP.asPtr 5 (.ptr t.X 0 0) hK ?_;refine AWP.perm (List.Perm.cons _ (EV hts Sf)) ?_;refine AWP.rs λY=>?_
  (repeat refine WF ?_);refine GI 8 (by kernel_rfl) (by kernel_rfl) ?_;refine RGoT.go ?_;refine RGoT.go ?_;refine RGoT.go ?_;refine RGoT.go ?_;refine RGoT.go ?_;refine RGoT.go ?_;refine RGoT.callK (xs:=[(.tmp 21,.ptr t.ek.X 0 0),(.tmp 23,iA e.n)]) (L:=[_,_,_,_,_,_,_,_]) (R:=Bh t.cs++(BM l1++(BM l2++Sf))) hgt (.fz (v:=.tup [BA v,bA true])) rfl (Nat.le_refl 8) (.cons rfl (.cons rfl .nil)) rfl rfl ?_;refine RGoT.go ?_;refine RGoT.go ?_;refine RGoT.go ?_;refine RGoT.goS (h:=W.alloc .here (.inl rfl)) ?_;refine RGoT.goS ?_;refine RGoT.go ?_;refine RGoT.nil (by kernel_rfl) ?_;dsimp only[AX,List.set_cons_zero,List.set_cons_succ,BJ,BD];refine Mu Y (show _=[BA v]from rfl) ?_;dsimp only[List.set_cons_zero]
  have hd:decide (v=e)=(decide (v.n=e.n)&&decide (v.gen=e.gen)):=by
   cases v;cases e;simp only[Ent.mk.injEq,Bool.decide_and]
  rw[hd];refine JJ ?_;refine WO ?_;refine AOps.gN ?_;refine AOps.go (h:=W.eqP _ _ (by kernel_rfl) (Ir v.n v.gen e.n e.gen) rfl rfl) (k:=?_);refine JB ?_;refine FL ?_;refine AWP.perm (List.Perm.cons _ (List.Perm.cons _ (EV hts Sf).symm)) ?_;refine RT ?_;exact Ends.sp [bA (decide (v.n=e.n)&&decide (v.gen=e.gen))] (arS a) ⟨rfl,rfl⟩
theorem Jr{a:Ar}(h:ArOK a){e:Ent}(hh:Fv a e=true):∃l1 l2 t,a.ts=l1++t::l2/\(e.n,e)∈t.es:=by
 unfold Fv at hh;obtain⟨it,hit,rfl⟩:=List.mem_map.1 (of_decide_eq_true hh);obtain⟨u,hu,hit⟩:=List.mem_flatMap.1 hit;obtain⟨p,hp,rfl⟩:=List.mem_map.1 hit;obtain⟨l1,l2,hl⟩:=List.append_of_mem hu;refine⟨l1,l2,u,hl,?_⟩;have:=h.ent u hu p hp;show(p.2.n,p.2)∈u.es
 rw[<-this];exact hp
structure KillR(a:Ar)(e:Ent)(b:Ar):Prop where
 ok:ArOK b
 ne:Ek b.ts
 A:b.A=a.A
 kinds:b.kinds=a.kinds
 gens:b.gens=a.gens.set e.n.toNat ((a.gens[e.n.toNat]?).getD 0+1)
 items:∃l,(Aw a.ts).Perm (⟨e,l⟩::Aw b.ts)
theorem U0(a:Ar)(ha:ArOK a)(e:Ent)(hn:I64 e.n)(hh:Fv a e=false):Spec Tryz.prog 269 [.ptr a.A 0 0,BA e] (arS a) λr S'=>r=iA 4/\S'=arS a:=by
 have hs:=Ik a ha e hn;rw[hh]at hs;refine Sp (nt:=23) (res:=[.tmp 4]) Tryz.func269 λSf=>?_
 refine JF ?_;refine Ai λB=>?_;refine JB ?_
 refine JJ ?_;refine WO ?_;refine AOps.gN ?_;refine EM [_] (h:=hs) (k:=?_);refine JB ?_;refine AL rfl rfl ?_;refine JK ?_;exact Ends.sp [iA 4] (arS a) ⟨rfl,rfl⟩
theorem TO(a:Ar)(ha:ArOK a)(hne:Ek a.ts)(e:Ent)(hn:I64 e.n)(hh:Fv a e=true)(hg:e.n.toNat<a.gens.length)(hgl:a.gens.length<=256)(hgb:∀g∈a.gens,0<=g/\g<=1073741824):Spec Tryz.prog 269 [.ptr a.A 0 0,BA e] (arS a) λr S'=>∃b:Ar,KillR a e b/\r=iA 0/\S'=arS b:=by
 obtain⟨l1,l2,t,hts,hm⟩:=Jr ha hh;have hto:=ha.tab t (by rw[hts];simp);have hnk:e.n∈AJ t.es:=List.mem_map.2 ⟨_,hm,rfl⟩;have hnl:=hto.es.lt _ hnk;have hs:=Ik a ha e hn;rw[hh]at hs;have htk:=My a ha hne hts hnk;obtain⟨⟨n,g⟩,he⟩:∃e',e=e':=⟨_,rfl⟩;subst he;dsimp only at hn hg hm hnk hnl hs htk;obtain⟨i,hi⟩:∃i:Nat,n=i:=⟨n.toNat,by omega⟩;subst hi;rw[Int.toNat_natCast]at hg;refine Sp (nt:=23) (res:=[.tmp 4]) Tryz.func269 λSf=>?_
 refine JF ?_;refine Ai λB=>?_;refine JB ?_
 refine JJ ?_;refine WO ?_;refine AOps.gN ?_;refine EM [_] (h:=hs) (k:=?_);refine JB ?_;refine AA rfl rfl ?_;refine JD ?_;(iterate 3 refine WO ?_);refine AOps.gN ?_;refine Li [_] (h:=htk) (k:=λY _ K=>?_);refine NL ?_;obtain⟨hok,hne2,hA,hki,hge,hit⟩:=Kf ha hne hts hm Y;obtain⟨b,hb⟩:∃b,E1 a l1 l2 t (i:Nat) Y=b:=⟨_,rfl⟩;rw[hb]at hok hne2 hA hki hge hit⊢;rw[<-hA];have hgm:a.gens[i]∈a.gens:=AU hg;have hgr:=hgb _ hgm;rw[<-hge]at hg hgl;have hgq:a.gens[i]=b.gens[i]:=by simp only[hge]
 rw[hgq]at hgr;have hat:(b.gens.map iA)[i]?=some (iA b.gens[i]):=BF _ hg;have hgml:(b.gens.map iA).length=b.gens.length:=AB _;refine FL ?_;refine RU ?_;(repeat first|(refine RGo.gN ?_;first|refine RGo.go (h:=W.idx (a:=i) rfl rfl (by exact At.f) rfl (by omega) (Nat.zero_add _)) (k:=?_))|(refine RGo.gQ ?_;first|refine RGo.go (h:=W.idx (a:=i) rfl rfl (by exact At.f) rfl (by omega) (Nat.zero_add _)) (k:=?_))|refine RK ?_|refine RGo.nil (by kernel_rfl) ?_);dsimp only[AX,List.set_cons_zero,List.set_cons_succ,BJ,BD];have hset:(b.gens.map iA).set i (iA (b.gens[i]+1))=(b.gens.set i (b.gens[i]+1)).map iA:=(List.map_set ..).symm;rw[hset];have hsl:b.gens.length=(b.gens.set i (b.gens[i]+1)).length:=List.length_set.symm;obtain⟨b',hb'⟩:∃b':Ar,b'={b with gens:=b.gens.set i (b.gens[i]+1)}:=⟨_,rfl⟩;refine AWP.perm (S':=(K,.row 42 2 ((Aa t (i:Nat)).map (AG false)))::(B,.row 32 2 [BA ⟨i,g⟩])::(arS b'++Sf)) (List.Perm.of_eq (by rw[hb'];show _=(K,_)::(B,_)::((arH {b with gens:=b.gens.set i (b.gens[i]+1)}++BM b.ts)++Sf);rw[arH];dsimp only;rw[<-hsl];rfl)) ?_;refine R1 ?_;refine RT ?_;have hgd:(a.gens[i]?).getD 0=b.gens[i]:=by rw[<-hge,AI hg];rfl
 have hk:KillR a ⟨i,g⟩ b':=by
  rw[hb'];exact⟨⟨hok.tab,hok.ord,hok.keys,hok.ent,hok.g,hok.gn,hok.cnt⟩,hne2,hA,hki,by show b.gens.set i _=a.gens.set ((i:Int).toNat) _;rw[Int.toNat_natCast,hgd];exact congrArg (λx=>x.set i (b.gens[i]+1)) hge,⟨_,hit⟩⟩
 exact Ends.sp [iA 0] (arS b') ⟨b',hk,rfl,rfl⟩
theorem Ux(a:Int):PS Tryz.prog 296 [iA a] (bA false):=by
 refine Sp (nt:=6) (res:=[.tmp 2]) Tryz.func296 λSf=>?_
 refine JA ?_;refine AF ?_;have:decide (a≠a)=false:=AK (by simp);rw[this]
theorem Uy(a b:Int):PS Tryz.prog 295 [iA a,iA b] (bA (decide (a<b))):=by
 refine Sp (nt:=17) (res:=[.tmp 4]) Tryz.func295 λSf=>?_
 refine R1 ?_;refine JJ ?_;refine AOps.g_callf ?_;refine AOps.c1 (h:=(Km a)) (k:=?_);refine JE ?_;refine RT ?_;exact Ends.sp [bA (decide (a<b))] [] ⟨rfl,rfl⟩
def Kd(l:List Int)(n:Int):Nat:=(l.filter λx=>decide (x<n)).length
theorem Qu{l:List Int}{n:Int}{i:Nat}(hi:i<=l.length)(h1:∀k (h:k<l.length),k<i->l[k]<n)(h2:∀k (h:k<l.length),i<=k->n<=l[k]):Kd l n=i:=by
 unfold Kd
 have e:l.filter (λx=>decide (x<n))=l.take i:=by
  conv=>lhs;rw[<-List.take_append_drop i l]
  rw[List.filter_append,List.filter_eq_self.2,List.filter_eq_nil_iff.2,List.append_nil]
  ·intro x hx
   obtain⟨k,hk,rfl⟩:=List.mem_iff_getElem.1 hx;rw[Bi]at hk;rw[List.getElem_drop];have:=h2 (i+k) (by omega) (by omega);simp;omega
  ·intro x hx
   obtain⟨k,hk,rfl⟩:=List.mem_take_iff_getElem.1 hx;have:=h1 k (by omega) (by omega);simp;omega
 rw[e,Aj];omega
theorem Q6(l:List Int)(n:Int)(hs:l.Pairwise (· < ·))(hl:l.length<=1099511627776):PS Tryz.prog 285 [AM false l,iA n] (.tup [iA (Kd l n:Nat),bA (decide (n∈l))]):=by
 have hml:(l.map iA).length=l.length:=AB _;have hsp:=List.pairwise_iff_getElem.1 hs;refine Sp (nt:=54) (res:=[.tmp 4,.tmp 5]) Tryz.func285 λSf=>?_
 refine R1 ?_;refine JC ?_;refine JL ?_;rw[hml];refine Bq (λ(i j:Nat)=>⟨[(0,AM false l),(1,iA n),(6,iA l.length),(7,iA i),(8,iA j)],Sf⟩) (λi j=>i<=j/\j<=l.length/\(∀k (h:k<l.length),k<i->l[k]<n)/\∀k (h:k<l.length),j<=k->n<=l[k]) (λi j=>j-i) 0 l.length ⟨Nat.zero_le _,Nat.le_refl _,λk h1 h2=>absurd h2 (by omega),λk h1 h2=>absurd h2 (by omega)⟩ ?_;rintro i j ⟨hij,hjn,hlo,hhi⟩;refine JN ?_;refine AWP.cond rfl (λhc=>?_) (λhc=>?_)
 ·have h:i<j:=by rw[AE]at hc;omega
  have hmid:((i:Int)+j).fdiv (2^1)=(((i+j)/2:Nat):Int):=by
   rw[Int.fdiv_eq_ediv_of_nonneg _ (by decide)];omega
  have hw1:IntKind.u64.wrap ((i:Int)+j)=i+j:=by rw[IntKind.wrap_u64];omega
  have hw2:IntKind.i64.wrap (((i:Int)+j).fdiv (2^1))=((i:Int)+j).fdiv (2^1):=by
   rw[IntKind.wrap_i64,hmid];omega
  refine JD ?_;(iterate 3 refine WO ?_);refine AOps.gN ?_;refine AOps.p (W.conv .i64 .u64 (by kernel_rfl) (by kernel_rfl) rfl hw1) rfl ?_;refine AOps.gN ?_;refine AOps.p (W.shr 1 rfl rfl rfl (by decide)) rfl ?_;refine AOps.gN ?_;refine AOps.p (W.conv .u64 .i64 (by kernel_rfl) (by kernel_rfl) rfl hw2) rfl ?_;refine JB ?_;rw[hmid];obtain⟨m,hm⟩:=nm ((i+j)/2);rw[hm];have hml2:m<l.length:=by omega
  have hmm:m<(l.map iA).length:=by omega
  have hat:(l.map iA)[m]?=some (iA l[m]):=by rw[AH,AI hml2];rfl
  have hls:=Uy l[m] n;refine JI ?_;refine AOps.g_callf ?_;refine AOps.c2 (h:=(hls ..)) (k:=?_);refine NL ?_;refine FL ?_;refine AWP.cond rfl (λhe=>?_) (λhe=>?_)
  ·have he:l[m]<n:=of_decide_eq_true he
   refine JC ?_;refine BK (m+1) j ⟨by omega,hjn,λk h1 h2=>?_,hhi⟩;by_cases e:k=m
   ·subst e;exact he
   ·have:=hsp k m h1 hml2 (by omega);omega
  ·have he:¬l[m]<n:=of_decide_eq_false he
   refine JC ?_;refine BK i m ⟨by omega,by omega,hlo,λk h1 h2=>?_⟩;by_cases e:k=m
   ·subst e;omega
   ·have:=hsp m k hml2 h1 (by omega);omega
 ·have h:i=j:=by rw[AN]at hc;omega
  subst h;have hlw:=Qu hjn hlo hhi;refine FL ?_;by_cases hin:i<l.length
  ·have g1:decide ((i:Int)<(l.length:Nat))=true:=Ah (by omega)
   have hmm:i<(l.map iA).length:=by omega
   have hat:(l.map iA)[i]?=some (iA l[i]):=by rw[AH,AI hin];rfl
   by_cases he:l[i]=n
   ·have g2:decide (l[i]=n)=true:=Ah he
    have hmem:decide (n∈l)=true:=Ah (by rw[<-he];exact AU hin);rw[hlw,hmem];refine RG ?_;(repeat first|(refine AOps.gQ ?_;first|refine AOps.goNU ?_|refine AOps.goNV ?_)|refine WO ?_|refine Ai λX=>?_|refine Ay λY=>?_);refine NL ?_;refine RT ?_;rw[g1,g2];exact Ends.sp [iA i,bA true] [] ⟨rfl,rfl⟩
   ·have g2:decide (l[i]=n)=false:=AK he
    have hmem:decide (n∈l)=false:=AK λhm=>by
     obtain⟨k,hk,rfl⟩:=List.mem_iff_getElem.1 hm;rcases Nat.lt_or_ge k i with h|h
     ·have:=hlo k hk h;omega
     ·have h3:k≠i:=λe=>he (by subst e;rfl)
      have:=hsp i k hin hk (by omega);have:=hhi i hin (Nat.le_refl _);omega
    rw[hlw,hmem];refine JG ?_;refine AOps.g_callf ?_;refine AOps.c1 (h:=(Ux l[i])) (k:=?_);refine JE ?_;refine RT ?_;rw[g1,g2];exact Ends.sp [iA i,bA false] [] ⟨rfl,rfl⟩
  ·have g1:decide ((i:Int)<(l.length:Nat))=false:=AK (by omega)
   have hmem:decide (n∈l)=false:=AK λhm=>by
    obtain⟨k,hk,rfl⟩:=List.mem_iff_getElem.1 hm;have:=hlo k hk (by omega);omega
   rw[hlw,hmem];refine RG ?_;(repeat first|(refine AOps.gQ ?_;first|refine AOps.goNU ?_|refine AOps.goNV ?_)|refine WO ?_|refine Ai λX=>?_|refine Ay λY=>?_);refine NL ?_;refine RT ?_;rw[g1];exact Ends.sp [iA i,bA false] [] ⟨rfl,rfl⟩
theorem LD{α:Type}{l:List α}{i:Nat}(h:i<l.length)(z:List α):(l.take i++(l.drop (i+1)).take (l.length-(i+1))++z).take (i+(l.length-(i+1)))=l.eraseIdx i:=by
 rw[List.take_of_length_le (l:=l.drop (i+1)) (by rw[Bi];omega),List.eraseIdx_eq_take_drop_succ];rw[List.take_append_of_le_length (by simp;omega),List.take_of_length_le (by simp;omega)]
theorem QE(X n i:Nat)(l:List AV)(hn:n=l.length)(hi:i<n)(hl:n<=1099511627776)(hfr:FreeL l)(hw:∀e∈l,e.width=2):
  Spec Tryz.prog 72 [.sl X 0 n,iA i,iA ((i:Int)+1)] [(X,.row 42 2 l)] λr S'=>r= .lst true 42 2 (l.eraseIdx i)/\S'=[]:=by
 subst hn;refine Sp (nt:=33) (res:=[.tmp 6]) Tryz.func72 λSf=>?_
 have h1:((i:Int)+1)=((i+1:Nat):Int):=by omega
 refine R1 ?_;refine RG ?_;(iterate 5 refine WO ?_);refine AOps.gN ?_;refine AOps.p (W.slice3 (lo:=i) (hi:=i+1) (mx:=l.length) rfl rfl rfl rfl (by exact At.f) rfl h1 rfl (by omega) (by omega) (Nat.le_refl _)) rfl ?_;refine NL ?_;refine R1 ?_;refine AA rfl (AK (by omega)) ?_;refine R1 ?_;have hel:(l.eraseIdx i).length=l.length-1:=List.length_eraseIdx_of_lt hi;rcases Nat.lt_or_ge (i+1) l.length with hj|hj
 ·have hp:=LD hi
  refine RU ?_;refine JH ?_;refine RGo.gN ?_;refine RGo.p (W.hi rfl rfl (by exact At.f) rfl (by omega)) rfl ?_;refine JH ?_;refine RGo.gN ?_;refine RGo.p (W.slice_lo (lo:=i+1) rfl rfl (by exact At.f) h1 (by omega)) rfl ?_;refine RGo.gN ?_;refine RGo.s (W.appS (l.length-(i+1)) (by omega) (by omega) (by omega) hfr hw rfl rfl (by exact At.f)) rfl ?_;refine RK ?_;refine RGo.nil (by kernel_rfl) ?_;rw[Nat.zero_add];have hln:i+(l.length-(i+1))=l.length-1:=by omega
  have hLl:(l.take i++(l.drop (i+1)).take (l.length-(i+1))++l.drop (i+(l.length-(i+1)))).length=l.length:=by simp only[AP,Aj,Bi];omega
  have hLp:=hp (l.drop (i+(l.length-(i+1))));obtain⟨L',hL'⟩:∃L',l.take i++(l.drop (i+1)).take (l.length-(i+1))++l.drop (i+(l.length-(i+1)))=L':=⟨_,rfl⟩;rw[hL']at hLl hLp⊢
  have key:∀Z D,((L'.take (i+(l.length-(i+1)))++Z)++D).take (i+(l.length-(i+1)))=l.eraseIdx i:=λZ D=>by
   rw[AT,List.take_append_of_le_length (by rw[Aj];omega),List.take_take,Nat.min_self,hLp]
  refine RG ?_;(iterate 4 refine WO ?_);refine AOps.gN ?_;refine AOps.p (UJ (lo:=i+(l.length-(i+1))) (hi:=l.length) rfl rfl rfl (by exact At.f) rfl rfl (by omega) (by omega)) rfl ?_;refine AOps.gN ?_;refine AOps.s (W.clear rfl (by exact At.f) (by first|exact .inl rfl|exact .inr rfl) rfl (by omega)) rfl ?_;refine NL ?_;refine R1 ?_;refine AWP.shrink (X:=X) (i+(l.length-(i+1))) ?_;rw[Nat.zero_add,key];refine RT ?_;exact⟨[.sl X 0 (i+(l.length-(i+1)))],[.lst true 42 2 (l.eraseIdx i)],_,[],.cons (.tmp rfl) rfl .nil,.cons (.cell (.sl (p:=0) .here (by rw[hel];omega))) .nil,by exact Sub.f,rfl,rfl⟩
 ·have hie:i=l.length-1:=by omega
  have hl0:l.length-(i+1)=0:=by omega
  have hle:l.eraseIdx i=l.take i:=by rw[List.eraseIdx_eq_take_drop_succ,List.drop_of_length_le (by omega),List.append_nil]
  have key:∀Z D,((l.take i++Z)++D).take i=l.eraseIdx i:=λZ D=>by
   rw[AT,List.take_append_of_le_length (by rw[Aj];omega),List.take_take,Nat.min_self,hle]
  refine RU ?_;refine JH ?_;refine RGo.gN ?_;refine RGo.p (W.hi rfl rfl (by exact At.f) rfl (by omega)) rfl ?_;refine JH ?_;refine RGo.gN ?_;refine RGo.p (W.slice_lo (lo:=i+1) rfl rfl (by exact At.f) h1 (by omega)) rfl ?_;rw[hl0];refine RGo.gN ?_;refine RGo.p (W.app0 rfl rfl (by exact At.f)) rfl ?_;refine RK ?_;refine RGo.nil (by kernel_rfl) ?_;refine RG ?_;(iterate 4 refine WO ?_);refine AOps.gN ?_;refine AOps.p (UJ (lo:=i) (hi:=l.length) rfl rfl rfl (by exact At.f) rfl rfl (by omega) (by omega)) rfl ?_;refine AOps.gN ?_;refine AOps.s (W.clear rfl (by exact At.f) (by first|exact .inl rfl|exact .inr rfl) rfl (by omega)) rfl ?_;refine NL ?_;refine R1 ?_;refine AWP.shrink (X:=X) i ?_;simp only[Nat.zero_add];rw[key];refine RT ?_;exact⟨[.sl X 0 i],[.lst true 42 2 (l.eraseIdx i)],_,[],.cons (.tmp rfl) rfl .nil,.cons (.cell (.sl (p:=0) .here (by rw[hel];omega))) .nil,by exact Sub.f,rfl,rfl⟩
theorem SR(l:List Ent)(hl:l.length*16<=140737488355328):PS Tryz.prog 154 [.lst false 32 2 (l.map BA)] (.lst true 32 2 (l.map BA)):=by
 refine Sp (nt:=8) (res:=[.tmp 2]) Tryz.func154 λSf=>?_
 (iterate 8 refine WK ?_);refine AOps.gN ?_;refine AOps.isNil λb hb=>?_;refine KK ?_
 refine AWP.cond rfl (λhc=>?_) (λhc=>?_)
 ·rw[hb hc]
  refine JA ?_;exact⟨[.prim (.slice none 0 0)],[.lst true 32 2 []],_,[],.cons (.tmp rfl) rfl .nil,.cons (.cell .nil) .nil,by exact Sub.f,rfl,rfl⟩
 ·have hl':(0+(l.map BA).length)*16<=140737488355328:=by simpa using hl
  clear hl
  (iterate 3 refine WK ?_);refine AOps.g_lit ?_;refine Mv λK=>?_;refine KK ?_;refine Ay λY=>?_;refine KK ?_
  refine RT ?_;exact⟨[.sl Y 0 (0+(l.map BA).length)],[.lst true 32 2 (l.map BA)],_,[],.cons (.tmp rfl) rfl .nil,.cons (.cell (.sl (p:=0) .here (by simp))) .nil,by exact Sub.f,rfl,rfl⟩
theorem OS(S:List AC):∀b:List Int,Lds S (b.map iA) (b.map iA)
 |[]=>.nil
 |x::b=>.cons (show Ld S (iA x) (iA x)from .frz (a:=iA x)) (OS S b)
theorem Oh(S:List AC):∀b:List Ent,Lds S (b.map BA) (b.map BA)
 |[]=>.nil
 |x::b=>.cons (show Ld S (BA x) (BA x)from .frz (a:=BA x)) (Oh S b)
theorem LQ(X:Nat)(l:List Int)(n:Nat)(hn:n=l.length)(hl:l.length*8<=140737488355328):Spec Tryz.prog 58 [.sl X 0 n] [(X,.row 3 1 (l.map iA))] λr S'=>r= .lst true 3 1 (l.map iA)/\S'=[(X,.row 3 1 (l.map iA))]:=by
 subst hn;refine PS.lend (Es l hl) (by show CD _=true;rw[HW (λ_=>rfl)]) (.cons (.sl .here (by simp) ?_) .nil);rw[List.drop_zero,List.take_of_length_le (by simp)];exact OS _ _
theorem QK(X:Nat)(l:List Ent)(n:Nat)(hn:n=l.length)(hl:l.length*16<=140737488355328):Spec Tryz.prog 154 [.sl X 0 n] [(X,.row 32 2 (l.map BA))] λr S'=>r= .lst true 32 2 (l.map BA)/\S'=[(X,.row 32 2 (l.map BA))]:=by
 subst hn;refine PS.lend (SR l hl) (by show CD _=true;rw[HW (λ_=>rfl)]) (.cons (.sl .here (by simp) ?_) .nil);rw[List.drop_zero,List.take_of_length_le (by simp)];exact Oh _ _
abbrev LF(l:List Ent):AV:=.lst false 32 2 (l.map BA)
theorem VT(k:StK)(l:List (Int×Ent))(hl:ColOK l):Spec Tryz.prog 74 [.ptr k.X 0 0] (stE k l) λr S'=>r= .fn 155 [.fp [AM false (AJ l)],.fp [LF (l.map (·.2))]]/\S'=stE k l:=by
 have hlen:=hl.len;have h1:=LQ k.R (AJ l) l.length (by simp) (by rw[AB];omega);have h2:=QK k.V (l.map (·.2)) l.length (by simp) (by rw[AB];omega);have e1:(AJ l).map iA=l.map λe=>iA e.1:=List.map_map
 have e2:(l.map (·.2)).map BA=l.map λe=>BA e.2:=List.map_map
 rw[e1]at h1;rw[e2]at h2;refine Sp (nt:=16) (res:=[.tmp 2]) Tryz.func74 λSf=>?_
 refine JN ?_;refine AWP.rs λA=>AWP.rs λB=>?_
 refine JM ?_;refine RGo.g_callf ?_;refine RGo.z1 (h:=h1) (hT:=.fz) (k:=?_);refine KR ?_;refine RGo.g_callf ?_;refine RGo.z1 (h:=h2) (hT:=.fz) (k:=?_);(iterate 4 refine RK ?_);refine RGo.nil (by kernel_rfl) ?_;refine FL ?_;refine AWP.iceP [3] .here ?_ (by intro d hd;simp only[BO]at hd;subst hd;rfl);refine AWP.iceP [4] (.next .here) ?_ (by intro d hd;simp only[BO]at hd;subst hd;rfl);refine R1 ?_;have er:AV.fn 155 [.fp [AM false (AJ l)],.fp [LF (l.map (·.2))]]=AV.fn 155 [.fp [.lst false 3 1 (l.map λe=>iA e.1)],.fp [.lst false 32 2 (l.map λe=>BA e.2)]]:=by rw[AM,LF,e1,e2]
 rw[er];refine RT ?_;exact Ends.sp [AV.fn 155 [.fp [.lst false 3 1 (l.map λe=>iA e.1)],.fp [.lst false 32 2 (l.map λe=>BA e.2)]]] (stE k l) ⟨rfl,rfl⟩
theorem UF(ks:List Int)(es:List Ent)(hl:ks.length=es.length)(h0:ks.length<=1099511627776):Itr Tryz.prog 155 [.fp [AM false ks],.fp [LF es]] ((ks.zip es).map λq=>[iA q.1,BA q.2]):=by
 have hkm:(ks.map iA).length=ks.length:=AB _;have hem:(es.map BA).length=es.length:=AB _;refine⟨by kernel_rfl,λy J Jx hY Sl hJ0=>?_⟩;refine Sp (nt:=22) (res:=[]) Tryz.func155 λSf=>?_
 refine JN ?_;refine Bq (λ(i:Nat) (Sl:List AC)=>⟨[(0,.prim y),(2,.fp [LF es]),(6,AM false ks),(7,iA (ks.map iA).length),(8,iA i)],Sl++Sf⟩) (λi Sl=>i<=ks.length/\J i Sl) (λi _=>ks.length-i) 0 Sl ⟨Nat.zero_le _,hJ0⟩ ?_;rintro i Sl ⟨hi,hJ⟩;refine JN ?_;refine AWP.cond rfl (λhc=>?_) (λhc=>?_)
 ·have h:i<ks.length:=by rw[AE,hkm]at hc;omega
  have he:i<es.length:=by omega
  have hat:(ks.map iA)[i]?=some (iA ks[i]):=BF _ h;have hil:i<(ks.map iA).length:=by omega
  have hat2:(es.map BA)[i]?=some (BA es[i]):=BF _ he;have hil2:i<(es.map BA).length:=by omega
  have hyi:((ks.zip es).map λq=>[iA q.1,BA q.2])[i]?=some [iA ks[i],BA es[i]]:=by
   rw[AH,AI (by rw[List.length_zip];omega),List.getElem_zip];rfl
  obtain⟨k,hk⟩:=nm (ks[i]);obtain⟨e,hee⟩:=nm (es[i]);rw[hk]at hat hyi;rw[hee]at hat2 hyi;refine JC ?_;refine JI ?_;refine O6 (Si:=[]) hY hJ hyi (λSl' hk=>?_) (λSl' hk=>?_)
  ·refine WO ?_
   refine AOps.nil ?_;refine FL ?_;refine AA rfl rfl ?_;refine KK ?_;refine BK (i+1) Sl' ⟨h,hk⟩
  ·refine WO ?_
   refine AOps.nil ?_;refine FL ?_;refine AL rfl rfl ?_
   skip
   refine RT ?_;exact BN Sl' (.inr hk)
 ·have h:i=ks.length:=by rw[AN,hkm]at hc;omega
  subst h;refine KK ?_;refine DU ?_;exact BN Sl (.inl (by rw[AB,List.length_zip,<-hl,Nat.min_self];exact hJ))
theorem W.makeMap{P:Program}{ty t k e:TypeId}{pos:String}{after:Array Edge}{dst:Option Tmp}{c:Option (List Bool)}{g:Option (Nat×Bool)}{T:List (Nat×AV)}{S:List AC}{X p:Nat}{z0:Value}[TMap P t k e z0](hS:At S p (X,.gone)):Stp c P ⟨dst,.makeMap t none,ty,pos,after,g⟩ T S [] [(p,(X,.gone))] (.mp X) [(p,(X,.ob (MapF P k e (λ_=>none) 0)))]:=⟨.makeMap (TMap.h (z0:=z0)),.nil,.cons hS .nil⟩
theorem ArOK.keys_items{a:Ar}(h:ArOK a):BQ a.ts=(Aw a.ts).map (·.ent.n):=by
 rw[BQ,Aw,List.map_flatMap]
 have:∀ts:List Tab,(∀t∈ts,∀e∈t.es,e.1=e.2.n)->(ts.flatMap λt=>AJ t.es)=ts.flatMap λt=>(B5 t).map (·.ent.n):=by
  intro ts
  induction ts with
  |nil=>intro _;rfl
  |cons t ts ih=>
   intro hh;rw[List.flatMap_cons,List.flatMap_cons,ih λu hu=>hh u (by simp[hu])]
   congr 1
   rw[B5,List.map_map];exact List.map_congr_left λe he=>hh t (by simp) e he
 exact this a.ts h.ent
theorem WdOK.cl{w:Wd}(h:WdOK w):∀it∈w.items,it.comps.length<=16:=λit hi=>by
 obtain⟨_,_,_,_,e⟩:=h.it it hi;obtain⟨h1,h2⟩:=held_iff.1 e;have h16:=(Bt h.ks).1;have:=GQ (λc:Comp=>c.kind) w.kinds.length it.comps (h1.imp λ{a b} hab e=>by omega) (λc hc=>⟨(h2 c hc).1,(h2 c hc).2.1⟩);omega
theorem Wf(w:Wd)(hw:WdOK w):Spec Tryz.prog 21 [wdA false w] [] λr S'=>∃b:Ar,(ArOK b/\Ek b.ts/\b.kinds=w.kinds/\b.gens=w.gens/\(Aw b.ts).Perm w.items)/\r= .tup [.ptr b.A 0 0,iA 0]/\S'=arS b:=by
 have hL:=hw.wl;have hgl:=hw.gl;have hil:=hw.il;have hsok:=hw.so;have hit:=hw.it;have hkp:=GT w.kinds (by have:=(Bt hw.ks).1;omega) (λk hk=>by have:=(Dn ((Bt hw.ks).2 k hk)).2.1;omega);have hcl:=Es w.gens (by omega);have hck:=Et w (by omega) (by omega) (λit hi=>(hL.items.2 it hi).1);rw[(BL w).2 hw]at hck;have hcc:=hw.cl;have hcp:∀it∈w.items,PS Tryz.prog 59 [Ax false false it.comps] (Ax true false it.comps):=λit hi=>D0 it.comps (hL.items.2 it hi).1 (hL.items.2 it hi).2
 have hime:(w.items.map (AD false)).length=w.items.length:=AB _;obtain⟨ks,gs,its⟩:=w;dsimp only at*;refine Sp (nt:=38) (res:=[.tmp 2,.tmp 3]) Tryz.func21 λSf=>?_
 refine JF ?_;refine Ai λD=>?_;refine JE ?_
 refine JJ ?_;refine AOps.g_callf ?_;refine AOps.c1 (h:=(hck ..)) (k:=?_);refine JB ?_;refine JL ?_;refine AA rfl rfl ?_;refine FL ?_;have hgm:(gs.map iA).length=gs.length:=AB _;refine AWP.rs λA=>AWP.rs λG=>AWP.rs λO=>?_
 refine JM ?_;refine RGo.g_callf ?_;refine RGo.c1 (h:=(hkp ..)) (k:=?_);refine KR ?_;refine RGo.g_callf ?_;refine RGo.z1 (h:=hcl) (hT:=.ls (Y:=G)) (k:=?_);refine RGo.gN ?_;refine RGo.goS (h:=W.makeMap (X:=O) (by exact At.f)) (k:=?_);refine RK ?_;refine RGo.gN ?_;refine RGo.goS (h:=W.box (X:=A) rfl (by exact At.f) rfl) (k:=?_);refine RK ?_;refine RGo.nil (by kernel_rfl) ?_;refine FL ?_;refine AWP.adoptIn (Y:=A) 145 1 (by exact At.f) (λTb=>.cons (.agg (.cons .same (.cons .same (.cons (.base .nil) (.cons .same .nil))))) .nil) λTb=>?_
 rw[hgm];refine AWP.note (λ_ _=>False) (λ_ _ h=>h) λTv=>?_
 refine JN ?_;refine AWP.front Tb ?_;refine AWP.front Tv ?_;refine AWP.front O ?_;refine AWP.front G ?_;refine AWP.front A ?_;refine AWP.front D ?_;refine Bq (λ(i:Nat) (b:Ar)=>⟨[(5,.ptr A 0 0),(23,HX false false its),(24,iA (its.map (AD false)).length),(25,iA i)],(D,.row 26 3 [wdA false ⟨ks,gs,its⟩])::(arS b++Sf)⟩) (λi b=>i<=its.length/\ArOK b/\Ek b.ts/\b.A=A/\b.kinds=ks/\b.gens=gs/\(Aw b.ts).Perm (its.take i)) (λi _=>its.length-i) 0 ⟨A,G,Tb,O,Tv,λ_ _=>False,λ_=>none,0,ks,gs,[]⟩ ⟨by omega,⟨by simp,.nil,.nil,by simp,by simp,by simp,rfl⟩,(by intro t ht;cases ht),rfl,rfl,rfl,.refl _⟩ ?_;rintro i b ⟨hi,hok,hne,hA,hbk,hbg,hpm⟩;subst hA;refine JN ?_;refine AWP.cond rfl (λh=>?_) (λh=>?_)
 ·have h:i<its.length:=by rw[AE,hime]at h;omega
  have hat:(its.map (AD false))[i]?=some (AD false its[i]):=BF _ h;have hil:i<(its.map (AD false)).length:=by omega
  have him:=AU h;obtain⟨it1,it2,_⟩:=hit _ him;have hcpi:=hcp _ him
  have hfr:its[i].ent.n∉BQ b.ts:=by
   rw[hok.keys_items];intro hm;obtain⟨x,hx,e⟩:=List.mem_map.1 hm;have hx:=hpm.mem_iff.1 hx;obtain⟨j,hj,rfl⟩:=List.mem_take_iff_getElem.1 hx;have:=List.pairwise_iff_getElem.1 hsok j i (by omega) h (by omega);omega
  have had:=LY b its[i].ent its[i].comps hok hne ⟨it1,by omega⟩ hfr (hcc _ him);have htk:its.take (i+1)=its.take i++[its[i]]:=List.take_succ_eq_append_getElem h;obtain⟨⟨ie,ic⟩,hie⟩:=nm (its[i]);rw[hie]at hat hcpi had htk;refine JI ?_;refine Ai λC=>?_;refine JB ?_
  refine FL ?_;(repeat refine WF ?_);refine De 6 (by kernel_rfl) (by kernel_rfl) (by kernel_rfl) ?_;dsimp only[List.take,List.drop];refine KR ?_;refine RGo.g_callf ?_;refine RGo.c1 (h:=(hcpi ..)) (k:=?_);refine RGo.nil (by kernel_rfl) ?_;refine D5 [_,_] (h:=had) λb' hb'=>?_
  obtain⟨k1,k2,k3,k4,k5,k6⟩:=hb';refine AOps.nil ?_;refine JC ?_
  exact BK (i+1) b' ⟨by omega,k1,k2,k3,k4.trans hbk,k5.trans hbg,by
   rw[htk];exact k6.trans ((hpm.cons _).trans (List.perm_append_singleton _ _).symm)⟩ (by omega)
 ·have h:i=its.length:=by rw[AN,hime]at h;omega
  subst h;rw[List.take_length]at hpm;refine JK ?_;exact Ends.sp [.ptr b.A 0 0,iA 0] (arS b) ⟨b,⟨hok,hne,hbk,hbg,hpm⟩,rfl,rfl⟩
theorem Tx(a:Ar)(ha:ArOK a)(e:Ent)(k:Int)(hn:I64 e.n)(hh:Fv a e=false):Spec Tryz.prog 268 [.ptr a.A 0 0,BA e,iA k] (arS a) λr S'=>r=iA 4/\S'=arS a:=by
 have hs:=Ik a ha e hn;rw[hh]at hs;refine Sp (nt:=41) (res:=[.tmp 6]) Tryz.func268 λSf=>?_
 refine JF ?_;refine Ai λB=>?_;refine JB ?_
 refine JJ ?_;refine WO ?_;refine AOps.gN ?_;refine EM [_] (h:=hs) (k:=?_);refine JB ?_;refine AL rfl rfl ?_;refine JK ?_;exact Ends.sp [iA 4] (arS a) ⟨rfl,rfl⟩
theorem ArOK.ptr{a:Ar}(h:ArOK a){t:Tab}(ht:t∈a.ts){n:Int}(hn:n∈AJ t.es):∃u,(a.g n).getD (.pointer none)=u/\u.oneCell'=true/\a.K (.ptr t.X 0 0) u:=by
 have hsm:=h.gn n (List.mem_flatMap.2 ⟨t,ht,hn⟩);obtain⟨u,hu⟩:∃u,a.g n=some u:=Option.isSome_iff_exists.1 hsm;obtain⟨w,hw,hwn,hK,b,hb⟩:=h.g n u hu;have:=h.uniq hw ht hwn hn;subst this;exact⟨u,by rw[hu];rfl,by rw[hb];rfl,hK⟩
theorem Kz{a b:Ar}(ha:ArOK a)(hb:ArOK b){e:Ent}{l:List Comp}(hit:(Aw a.ts).Perm (⟨e,l⟩::Aw b.ts)):e.n∉BQ b.ts:=by
 have h1:=ha.keys;rw[ha.keys_items]at h1;have h2:=(hit.map λit:Item=>it.ent.n).nodup_iff.1 h1;rw[hb.keys_items];exact(List.nodup_cons.1 h2).1
theorem OM{l:List Int}{k:Int}(hs:l.Pairwise (· < ·))(h:k∈l):∃hl:Kd l k<l.length,l[Kd l k]=k:=by
 obtain⟨i,hi,rfl⟩:=List.mem_iff_getElem.1 h;have hsp:=List.pairwise_iff_getElem.1 hs
 have e:=Qu (l:=l) (n:=l[i]) (i:=i) (by omega) (λj hj hlt=>hsp j i hj hi hlt) (λj hj hle=>by
  rcases Nat.lt_or_eq_of_le hle with h|rfl
  ·have:=hsp i j hi hj h;omega
  ·exact Int.le_refl _)
 exact⟨by rw[e];exact hi,by simp only[e]⟩
structure SwapR(a:Ar)(e:Ent)(l l':List Comp)(b:Ar):Prop where
 ok:ArOK b
 ne:Ek b.ts
 A:b.A=a.A
 kinds:b.kinds=a.kinds
 gens:b.gens=a.gens
 items:∃r,(Aw a.ts).Perm (⟨e,l⟩::r)/\(Aw b.ts).Perm (⟨e,l'⟩::r)
theorem SF(a:Ar)(ha:ArOK a)(hne:Ek a.ts)(e:Ent)(k:Int)(hn:I64 e.n)(hkl:I64 k)(hh:Fv a e=true){l1 l2:List Tab}{t:Tab}(hts:a.ts=l1++t::l2)(hm:(e.n,e)∈t.es)(hks:t.ks.Pairwise (· < ·)):Spec Tryz.prog 268 [.ptr a.A 0 0,BA e,iA k] (arS a) λr S'=>∃b:Ar,(if k∈t.ks then SwapR a e (Aa t e.n) ((Aa t e.n).eraseIdx (Kd t.ks k)) b else b=a)/\r=iA (if k∈t.ks then 0 else 4)/\S'=arS b:=by
 have htm:t∈a.ts:=by rw[hts];simp
 have hto:=ha.tab t htm;have hnk:e.n∈AJ t.es:=List.mem_map.2 ⟨_,hm,rfl⟩;have hnl:=hto.es.lt _ hnk;have hs:=Ik a ha e hn;rw[hh]at hs;have hbs:=Q6 t.ks k hks (by have:=hto.ks;omega);obtain⟨u,hgd,hone,hK⟩:=ha.ptr htm hnk;refine Sp (nt:=41) (res:=[.tmp 6]) Tryz.func268 λSf=>?_
 refine JF ?_;refine Ai λB=>?_;refine JB ?_
 refine JJ ?_;refine WO ?_;refine AOps.gN ?_;refine EM [_] (h:=hs) (k:=?_);refine JB ?_;refine AA rfl rfl ?_;refine FL ?_;refine AWP.perm (List.Perm.cons _ (EV hts Sf)) ?_;refine RU ?_;(iterate 6 refine RK ?_);refine RGo.gN ?_;refine RGo.go (h:=W.lookP (.ptr t.X 0 0) hgd hn hone hK rfl rfl (by exact At.f) (by exact At.f)) (k:=?_);refine KR ?_;refine RGo.g_callf ?_;refine RGo.c2 (h:=(hbs ..)) (k:=?_);(iterate 5 refine RK ?_);refine RGo.nil (by kernel_rfl) ?_;by_cases hk:k∈t.ks
 ·rw[Ah hk]
  simp only[if_pos hk];refine JC ?_;refine AA rfl rfl ?_;refine FL ?_;refine AWP.perm (List.Perm.cons _ (EV hts Sf).symm) ?_;(repeat refine WF ?_);have htk:=My a ha hne hts hnk;obtain⟨i,hi⟩:=nm (Kd t.ks k);rw[hi];obtain⟨hil,hik⟩:=OM hks hk;rw[hi]at hil;have htl:(Aa t e.n).length=t.ks.length:=by unfold Aa;rw[AB,List.length_zip];have:=hto.len;omega
  have h16:=hto.ks;refine Df (n:=1) [(B,.row 32 2 [BA e])] (arS a++Sf) rfl (by kernel_rfl) (by kernel_rfl) ?_;refine RGoH.go ?_;refine RGoH.go ?_;refine RGoH.go ?_;refine RGoH.go ?_;refine RGoH.go ?_;refine RGoH.skip [32,34] ?_;refine RGoH.go ?_;refine RGoH.go ?_;refine RGoH.go (h:=Bc ((i:Int)+1) (by omega) (by omega) rfl rfl) ?_;refine RGoH.skip [35,36,38] ?_;refine RGoH.skip [30,31,39] ?_;refine RGoH.nil (by kernel_rfl) (by kernel_rfl) (by kernel_rfl) ?_;refine HC.step [(32,.ptr a.A 0 0),(34,iA e.n)] ⟨rfl,rfl,rfl,rfl,trivial⟩ λT F=>?_
  refine Li F (h:=htk) (k:=λY _ K=>?_);obtain⟨hok,hne2,hA,hki,hge,hit⟩:=Kf ha hne hts hm Y;obtain⟨b,hb⟩:=nm (E1 a l1 l2 t e.n Y);rw[hb]at hok hne2 hA hki hge hit⊢;refine AOps.perm List.perm_middle.symm ?_;refine AOps.nil ⟨rfl,_,_,⟨λd v h=>h,.refl _⟩,?_⟩;have hdl:=QE K (Aa t e.n).length i ((Aa t e.n).map (AG false)) (AB _).symm (by omega) (by omega) (QG _) (SL _);rw[<-Fd]at hdl;refine HC.step [(35,.sl K 0 ((Aa t e.n).map (AG false)).length),(36,iA i),(38,iA ((i:Int)+1))] ⟨rfl,rfl,rfl,rfl,rfl,rfl,trivial⟩ λT2 F2=>?_
  rw[AB];refine Vf F2 (h:=hdl) (k:=?_) (R:=arS b++Sf);refine AOps.nil ⟨rfl,_,_,⟨λd v h=>h,.refl _⟩,?_⟩;rw[<-hA];refine HC.step [(30,.ptr b.A 0 0),(31,BA e),(39,Ax false false ((Aa t e.n).eraseIdx i))] ⟨rfl,rfl,rfl,rfl,rfl,rfl,trivial⟩ λT3 F3=>?_
  have had:=LY b e ((Aa t e.n).eraseIdx i) hok hne2 hnl (Kz ha hok hit) (by rw[List.length_eraseIdx];split<;>omega);refine D5 F3 (h:=had) (k:=λb2 hb2=>?_);refine AOps.nil ⟨rfl,_,_,⟨λd v h=>h,.refl _⟩,?_⟩;show andThen _ _ _ _
  refine JK ?_;obtain⟨g1,g2,g3,g4,g5,g6⟩:=hb2;exact Ends.sp [iA 0] (arS b2) ⟨b2,⟨g1,g2,g3.trans hA,g4.trans hki,g5.trans hge,_,hit,g6⟩,rfl,rfl⟩
 ·rw[AK hk]
  simp only[if_neg hk];refine JC ?_;refine AL rfl rfl ?_;refine FL ?_;refine AWP.perm (List.Perm.cons _ (EV hts Sf).symm) ?_;refine R1 ?_;refine RT ?_;exact Ends.sp [iA 4] (arS a) ⟨a,rfl,rfl,rfl⟩
section
abbrev setT(t:Tab)(m1 m2:List (StK×List (Int×List Int)))(k:StK)(l:List (Int×List Int))(n:Int)(v:List Int):Tab:=⟨t.X,t.ks,t.ek,t.es,m1++(k,Bn l n v)::m2⟩
section
variable {t:Tab}{m1 m2:List (StK×List (Int×List Int))}{c:StK×List (Int×List Int)}{k:StK}{n:Int}{v:List Int}
theorem TabOK.setT(h:TabOK t)(hcs:t.cs=m1++c::m2)(hn:n∈AJ t.es):TabOK (setT t m1 m2 k c.2 n v):=by
 have hcm:c∈t.cs:=by rw[hcs];simp
 have hnl:=h.es.lt n hn
 have hmem:∀d,d∈m1++(k,Bn c.2 n v)::m2->d=(k,Bn c.2 n v)\/d∈t.cs:=λd hd=>by
  rw[hcs];rcases List.mem_append.1 hd with hd|hd
  ·exact .inr (by simp[hd])
  ·rcases List.mem_cons.1 hd with hd|hd
   ·exact .inl hd
   ·exact .inr (by simp[hd])
 refine⟨by have:=h.len;rw[hcs]at this;simpa using this,h.ks,h.es,λd hd=>?_,λd hd m=>?_⟩
 ·rcases hmem d hd with rfl|hd
  ·exact(h.cs c hcm).put hnl v
  ·exact h.cs d hd
 ·rcases hmem d hd with rfl|hd
  ·show m∈AJ (Bn c.2 n v)↔_
   rw[Ev ((h.keys c hcm n).2 hn)];exact h.keys c hcm m
  ·exact h.keys d hd m
theorem N0{β γ:Type}{ks:List β}{m1 m2:List γ}{c d:γ}{f:β×γ->Comp}:(ks.zip (m1++d::m2)).map f=match ks[m1.length]? with|some k=>((ks.zip (m1++c::m2)).map f).set m1.length (f (k,d))|none=>(ks.zip (m1++c::m2)).map f:=by
 induction m1 generalizing ks with
 |nil=>cases ks<;>rfl
 |cons x m1 ih=>
  cases ks with
  |nil=>rfl
  |cons y ks=>
   simp only[BJ,List.zip_cons_cons,List.map_cons,Bs,List.getElem?_cons_succ];rw[ih];cases ks[m1.length]? with
   |none=>rfl
   |some k=>rfl
theorem Nu(h:TabOK t)(hcs:t.cs=m1++c::m2)(hn:n∈AJ t.es){z:Int}(hz:t.ks[m1.length]?=some z):Aa (setT t m1 m2 k c.2 n v) n=(Aa t n).set m1.length ⟨z,v⟩:=by
 unfold Aa;rw[N0 (c:=c) (d:=(k,Bn c.2 n v)),hcs,hz];dsimp only;rw[Gk (h.cs c (by rw[hcs];simp)) (h.es.lt n hn),if_pos rfl];rfl
theorem Nt(h:TabOK t)(hcs:t.cs=m1++c::m2)(hn:n∈AJ t.es){m:Int}(hne:m≠n):Aa (setT t m1 m2 k c.2 n v) m=Aa t m:=by
 unfold Aa;rw[N0 (c:=c) (d:=(k,Bn c.2 n v)),hcs];cases hz:t.ks[m1.length]? with
 |none=>rfl
 |some z=>
  dsimp only;rw[Gk (h.cs c (by rw[hcs];simp)) (h.es.lt n hn),if_neg hne];refine List.ext_getElem? λj=>?_
  rw[List.getElem?_set];split
  ·rename_i e
   subst e;split
   ·rw[AH,(List.getElem?_zip_eq_some (z:=(z,c))).2 ⟨hz,by simp⟩]
    rfl
   ·rename_i hlt
    rw[List.getElem?_eq_none (by omega)]
  ·rfl
theorem PH(h:TabOK t)(hcs:t.cs=m1++c::m2){e:Ent}(hm:(n,e)∈t.es){z:Int}(hz:t.ks[m1.length]?=some z):(B5 (setT t m1 m2 k c.2 n v)).Perm (⟨e,(Aa t n).set m1.length ⟨z,v⟩⟩::B5 (Ds t n)):=by
 have hn:n∈AJ t.es:=List.mem_map.2 ⟨_,hm,rfl⟩;have hp:=C9 h.es hm;have h1:=hp.map λp:Int×Ent=>(⟨p.2,Aa (setT t m1 m2 k c.2 n v) p.1⟩:Item)
 refine h1.trans ?_;rw[List.map_cons,Nu h hcs hn hz];refine List.Perm.cons _ (List.Perm.of_eq ?_);show _=(BW t.es n).map λp=>(⟨p.2,Aa (Ds t n) p.1⟩:Item)
 refine List.map_congr_left λp hp'=>?_
 have hk:p.1∈AJ (BW t.es n):=List.mem_map.2 ⟨p,hp',rfl⟩;have hne:=((Dl h.es).1 hk).2;rw[I2 h hne,Nt h hcs hn hne]
end
section
variable {a:Ar}{l1 l2:List Tab}{t:Tab}{m1 m2:List (StK×List (Int×List Int))}{c:StK×List (Int×List Int)}{k:StK}{n:Int}{v:List Int}
theorem TQ:BQ (l1++setT t m1 m2 k c.2 n v::l2)=BQ (l1++t::l2):=by
 rw[CR,Ch,CR,Ch]
theorem ArOK.setT(h:ArOK a)(hts:a.ts=l1++t::l2)(hcs:t.cs=m1++c::m2)(hn:n∈AJ t.es):ArOK {a with ts:=l1++Go.Proofs.YtiidbamlcgbpnaaGreat.setT t m1 m2 k c.2 n v::l2}:=by
 have htm:t∈a.ts:=by rw[hts];simp
 have hmem:∀u,u∈l1++Go.Proofs.YtiidbamlcgbpnaaGreat.setT t m1 m2 k c.2 n v::l2->u=Go.Proofs.YtiidbamlcgbpnaaGreat.setT t m1 m2 k c.2 n v\/u∈a.ts:=λu hu=>by
  rw[hts];rcases List.mem_append.1 hu with hu|hu
  ·exact .inr (by simp[hu])
  ·rcases List.mem_cons.1 hu with hu|hu
   ·exact .inl hu
   ·exact .inr (by simp[hu])
 have hk:BQ (l1++Go.Proofs.YtiidbamlcgbpnaaGreat.setT t m1 m2 k c.2 n v::l2)=BQ a.ts:=by rw[hts,TQ]
 refine⟨λu hu=>?_,?_,by show(BQ _).Nodup;rw[hk];exact h.keys,λu hu=>?_,λm u hg=>?_,λm hm'=>h.gn m (by rw[<-hk];exact hm'),by show a.c=(BQ _).length;rw[hk];exact h.cnt⟩
 ·rcases hmem u hu with rfl|hu
  ·exact(h.tab t htm).setT hcs hn
  ·exact h.tab u hu
 ·have ho:=h.ord
  rw[hts]at ho;rw[List.pairwise_append,List.pairwise_cons]at ho⊢
  exact⟨ho.1,⟨λx hx=>ho.2.1.1 x hx,ho.2.1.2⟩,λx hx y hy=>by
   rcases List.mem_cons.1 hy with rfl|hy
   ·exact ho.2.2 x hx t (by simp)
   ·exact ho.2.2 x hx y (by simp[hy])⟩
 ·rcases hmem u hu with rfl|hu
  ·exact h.ent t htm
  ·exact h.ent u hu
 ·obtain⟨w,hw,h2,h3,h4⟩:=h.g m u hg
  rw[hts]at hw;rcases List.mem_append.1 hw with hw|hw
  ·exact⟨w,by simp[hw],h2,h3,h4⟩
  ·rcases List.mem_cons.1 hw with rfl|hw
   ·exact⟨Go.Proofs.YtiidbamlcgbpnaaGreat.setT w m1 m2 k c.2 n v,by simp,h2,h3,h4⟩
   ·exact⟨w,by simp[hw],h2,h3,h4⟩
theorem Rz(h:ArOK a)(hts:a.ts=l1++t::l2)(hcs:t.cs=m1++c::m2){e:Ent}(hm:(n,e)∈t.es){z:Int}(hz:t.ks[m1.length]?=some z):(Aw (l1++Go.Proofs.YtiidbamlcgbpnaaGreat.setT t m1 m2 k c.2 n v::l2)).Perm (⟨e,(Aa t n).set m1.length ⟨z,v⟩⟩::Aw (l1++Ds t n::l2)):=by
 have hto:=h.tab t (by rw[hts];simp);rw[B4,CE,B4,CE];refine(((PH hto hcs hm hz).append_right _).append_left _).trans ?_;exact B7 (Aw l1) [(⟨e,(Aa t n).set m1.length ⟨z,v⟩⟩:Item)] (B5 (Ds t n)++Aw l2)
theorem V5(hne:Ek a.ts)(hts:a.ts=l1++t::l2):Ek (l1++Go.Proofs.YtiidbamlcgbpnaaGreat.setT t m1 m2 k c.2 n v::l2):=λu hu=>by
 have h:∀w∈l1++t::l2,w.es≠[]:=by rw[<-hts];exact hne
 rcases List.mem_append.1 hu with hu|hu
 ·exact h u (by simp[hu])
 ·rcases List.mem_cons.1 hu with rfl|hu
  ·exact h t (by simp)
  ·exact h u (by simp[hu])
end
end
section
structure ArFor(a:Ar)(w:Wd):Prop where
 ok:ArOK a
 ne:Ek a.ts
 kinds:a.kinds=w.kinds
 gens:a.gens=w.gens
 items:(Aw a.ts).Perm w.items
 wok:WdOK w
theorem Kc{k:Int}:∀{l:List Comp},CZ l->Kd (l.map (·.kind)) k=Ci l k
 |[],_=>rfl
 |x::l,h=>by
  obtain⟨h1,h2⟩:=List.pairwise_cons.1 h;have ih:=Kc (k:=k) h2;unfold Kd at ih⊢;unfold Ci at ih⊢;rw[List.map_cons,List.filter_cons,List.takeWhile_cons];by_cases e:x.kind<k
  ·simp only[e,decide_true,if_true,Bs,ih]
  ·simp only[e,decide_false,Bool.false_eq_true,if_false,List.length_nil]
   rw[List.length_eq_zero_iff,List.filter_eq_nil_iff];intro y hy;obtain⟨c,hc,rfl⟩:=List.mem_map.1 hy;have:=h1 c hc;simp only[AE];omega
theorem LN{l:List Comp}(h:CZ l){k:Int}:(BH l k).isSome=true↔k∈l.map (·.kind):=by
 constructor
 ·intro e
  obtain⟨c,hc⟩:=Option.isSome_iff_exists.1 e;obtain⟨hm,hk⟩:=(B0 h).1 hc;exact List.mem_map.2 ⟨c,hm,hk⟩
 ·intro e
  obtain⟨c,hm,hk⟩:=List.mem_map.1 e;rw[(B0 h).2 ⟨hm,hk⟩];rfl
theorem Ct{t:Tab}(h:TabOK t)(n:Int):(Aa t n).map (·.kind)=t.ks:=by
 have hl:=h.len;refine List.ext_getElem (by simp[Aa];omega) λi h1 h2=>?_
 rw[List.getElem_map,D9 (by simpa using h1) h2 (by omega)]
section
variable {a:Ar}{w:Wd}
theorem ArFor.item(h:ArFor a w){t:Tab}(ht:t∈a.ts){e:Ent}(hm:(e.n,e)∈t.es):∃i:Nat,w.items[i]?=some ⟨e,Aa t e.n⟩:=by
 have h1:(⟨e,Aa t e.n⟩:Item)∈Aw a.ts:=List.mem_flatMap.2 ⟨t,ht,List.mem_map.2 ⟨_,hm,rfl⟩⟩;obtain⟨i,hi,e1⟩:=List.getElem_of_mem (h.items.mem_iff.1 h1);exact⟨i,by rw[AI hi,e1]⟩
theorem ArFor.held(h:ArFor a w){t:Tab}(ht:t∈a.ts){e:Ent}(hm:(e.n,e)∈t.es):A8 w.kinds (Aa t e.n)=true:=by
 obtain⟨i,hi⟩:=h.item ht hm;exact(h.wok.it _ (Aq hi)).2.2.2.2
theorem ArFor.sort(h:ArFor a w){t:Tab}(ht:t∈a.ts){e:Ent}(hm:(e.n,e)∈t.es):CZ (Aa t e.n):=(held_iff.1 (h.held ht hm)).1
theorem KA{t:Tab}(ht:TabOK t){n:Int}(hs:CZ (Aa t n)):t.ks.Pairwise (· < ·):=by
 rw[<-Ct ht n];exact List.pairwise_map.2 hs
theorem ArFor.hasE(h:ArFor a w){e:Ent}(hh:Fv a e=false):Cd w.items e<0:=by
 by_cases hlt:Cd w.items e<0
 ·exact hlt
 ·obtain⟨m,hm⟩:∃m:Nat,Cd w.items e=m:=⟨(Cd w.items e).toNat,by omega⟩
  obtain⟨x,hx,_,rfl⟩:=F4 hm;unfold Fv at hh;rw[AN]at hh;exact absurd (List.mem_map.2 ⟨x,h.items.mem_iff.2 (Aq hx),rfl⟩) hh
theorem S8{w:List Item}{i:Nat}{x y:Item}(h:w[i]?=some x){l r:List Item}(h1:l.Perm (x::r))(h2:l.Perm w):(y::r).Perm (w.set i y):=by
 obtain⟨hl,_⟩:=List.getElem?_eq_some_iff.1 h;have e1:=J8 h;have e2:w.set i y=w.take i++y::w.drop (i+1):=List.set_eq_take_append_cons_drop.trans (if_pos hl);rw[e2];refine List.Perm.trans ?_ List.perm_middle.symm;refine List.Perm.cons _ ?_;have h3:(x::r).Perm (x::(w.take i++w.drop (i+1))):=h1.symm.trans (h2.trans ((List.Perm.of_eq e1).trans List.perm_middle));exact h3.cons_inv
theorem OC{w:List Item}{i:Nat}{x:Item}(h:w[i]?=some x){l r:List Item}(h1:l.Perm (x::r))(h2:l.Perm w):r.Perm (w.eraseIdx i):=by
 have e1:=J8 h;have h3:(x::r).Perm (x::(w.take i++w.drop (i+1))):=h1.symm.trans (h2.trans ((List.Perm.of_eq e1).trans List.perm_middle));rw[List.eraseIdx_eq_take_drop_succ];exact h3.cons_inv
theorem ArFor.swap(h:ArFor a w){e:Ent}{l l':List Comp}{b:Ar}(hs:SwapR a e l l' b){i:Nat}(hi:w.items[i]?=some ⟨e,l⟩)(hc:A8 w.kinds l'=true):ArFor b (Db w i l'):=by
 obtain⟨r,h1,h2⟩:=hs.items;have hk:(Db w i l').kinds=w.kinds:=rfl;refine⟨hs.ok,hs.ne,by rw[hs.kinds,h.kinds];rfl,by rw[hs.gens,h.gens];rfl,?_,HO h.wok hi hc⟩;rw[HP hi];exact h2.trans (S8 hi h1 h.items)
theorem ArFor.kill(h:ArFor a w){e:Ent}{b:Ar}(hs:KillR a e b)(hh:Fv a e=true):(EB w e).2=0/\ArFor b (EB w e).1:=by
 obtain⟨l,h1⟩:=hs.items;have hm:(⟨e,l⟩:Item)∈w.items:=h.items.mem_iff.1 (h1.mem_iff.2 (by simp));obtain⟨i,hi,e1⟩:=List.getElem_of_mem hm;have hi:w.items[i]?=some ⟨e,l⟩:=by rw[AI hi,e1]
 have hk:=MT h.wok hi;have hw:=Qw h.wok hi;dsimp only at hk hw;rw[hk];refine⟨rfl,hs.ok,hs.ne,by rw[hs.kinds,h.kinds],?_,OC hi h1 h.items,hw⟩;rw[hs.gens,h.gens,CF]
theorem ArFor.used(h:ArFor a w)(n:Nat):(a.g n).isSome=GM w.items n:=by
 have hk:(n:Int)∈BQ a.ts↔GM w.items n=true:=by
  rw[h.ok.keys_items];unfold GM;rw[List.any_eq_true];constructor
  ·intro hm
   obtain⟨x,hx,e⟩:=List.mem_map.1 hm;exact⟨x,h.items.mem_iff.1 hx,by simpa using e⟩
  ·rintro⟨x,hx,e⟩
   exact List.mem_map.2 ⟨x,h.items.mem_iff.2 hx,by simpa using e⟩
 by_cases hu:(n:Int)∈BQ a.ts
 ·rw[h.ok.gn _ hu,hk.1 hu]
 ·have h2:GM w.items n=false:=by rw[<-Bool.not_eq_true];exact λe=>hu (hk.2 e)
  rw[h2];cases hg:a.g n with
  |none=>rfl
  |some u=>
   obtain⟨t,ht,hm,_⟩:=h.ok.g _ _ hg;exact absurd (List.mem_flatMap.2 ⟨t,ht,hm⟩) hu
end
end
theorem Vv(a:Ar)(ha:ArOK a)(e:Ent)(c:Comp)(hn:I64 e.n)(hh:Fv a e=false):Spec Tryz.prog 267 [.ptr a.A 0 0,BA e,AG false c] (arS a) λr S'=>r=iA 4/\S'=arS a:=by
 have hs:=Ik a ha e hn;rw[hh]at hs;refine Sp (nt:=77) (res:=[.tmp 6]) Tryz.func267 λSf=>?_
 refine RG ?_;(repeat first|refine WO ?_|refine Ai λB=>?_|refine Ay λY=>?_);refine NL ?_;refine JJ ?_;refine WO ?_;refine AOps.gN ?_;refine EM [_,_] (h:=hs) (k:=?_);refine JB ?_;refine AL rfl rfl ?_;refine JK ?_;exact Ends.sp [iA 4] (arS a) ⟨rfl,rfl⟩
theorem Uq(a b:Comp):PS Tryz.prog 287 [AG false a,AG false b] (iA (Cp a.kind b.kind)):=by
 refine Sp (nt:=10) (res:=[.tmp 4]) Tryz.func287 λSf=>?_
 refine WK ?_;refine WK ?_;refine AOps.g_box ?_;refine Ad ?_;refine AOps.g_box ?_;refine Ad ?_;refine KK ?_;refine AOps.g_callf ?_;refine AOps.c2 (h:=(E8 a.kind b.kind)) (k:=?_);refine JA ?_;refine AF ?_;rfl
theorem Se{ks:List Kind}{c:Comp}{fl:List Comp}(h:CL ks [c]=(fl,0)):∃v,fl=[⟨c.kind,v⟩]:=by
 unfold CL at h;split at h
 ·rename_i h1;injection h with h2 h3;exact absurd h3 h1
 split at h
 ·rename_i h1;injection h with h2 h3;exact absurd h3 h1
 rename_i h0 h1;injection h with h2 h3
 have h1:(Cn ks [] [] [c]).2=0:=Decidable.not_not.1 h1;rw[<-h2];rw[Cn]at h1⊢;split at h1
 ·cases h1
 ·rename_i g1
  rw[if_neg g1];split at h1
  ·cases h1
  ·rename_i g2
   rw[if_neg g2];split at h1
   ·cases h1
   ·rename_i k hk
    split at h1
    ·rename_i g3;exact absurd h1 g3
    ·rename_i g3
     simp only[if_neg g3,Cn,GG,BD,List.mergeSort_singleton];exact⟨_,rfl⟩
def WS(a:Ar)(e:Ent)(l:List Comp)(c:Comp)(b:Ar):Prop:=((CL a.kinds [c]).2≠0/\b=a)\/∃d,CL a.kinds [c]=([d],0)/\SwapR a e l (Fg l d) b
theorem Pj{l u:List Comp}{d:Comp}(hl:CZ l)(hd:d.kind∉l.map (·.kind))(hp:u.Perm (l++[d]))(hs:u.Pairwise λa b=>AZ (λx y:Comp=>Cp x.kind y.kind) b a=false):u=Fg l d:=by
 have hle:u.Pairwise λa b=>a.kind<=b.kind:=hs.imp λ{x y} h=>by
  unfold AZ at h;simp only[AN]at h;have:¬y.kind<x.kind:=λe=>h (cmpI_ltz.2 e)
  omega
 have hne:(l++[d]).Pairwise λa b=>a.kind≠b.kind:=by
  rw[List.pairwise_append];refine⟨hl.imp λh=>by omega,by simp,λa ha b hb e=>?_⟩;rw[BO]at hb;subst hb;exact hd (List.mem_map.2 ⟨a,ha,e⟩)
 have hne2:u.Pairwise λa b=>a.kind≠b.kind:=hp.symm.pairwise hne λh=>Ne.symm h
 refine MF ((hle.and hne2).imp λh=>by obtain⟨x,y⟩:=h;omega) (Ii hl) λx=>?_
 rw[hp.mem_iff,H4 hl,CY,BO];constructor
 ·rintro(h|rfl)
  ·exact .inr ⟨h,λe=>hd (List.mem_map.2 ⟨x,h,e⟩)⟩
  ·exact .inl rfl
 ·rintro(rfl|h)
  ·exact .inr rfl
  ·exact .inl h.1
theorem Uo(a:Ar)(ha:ArOK a)(hne:Ek a.ts)(e:Ent)(c:Comp)(hn:I64 e.n)(hkl:I64 c.kind)(h12:a.kinds.length<=12)(hh:Fv a e=true){l1 l2:List Tab}{t:Tab}(hts:a.ts=l1++t::l2)(hm:(e.n,e)∈t.es)(hso:CZ (Aa t e.n))(h11:(CL a.kinds [c]).2=0->c.kind∉t.ks->t.ks.length<=11):Spec Tryz.prog 267 [.ptr a.A 0 0,BA e,AG false c] (arS a) λr S'=>∃b:Ar,WS a e (Aa t e.n) c b/\r=iA (CL a.kinds [c]).2/\S'=arS b:=by
 have htm:t∈a.ts:=by rw[hts];simp
 have hto:=ha.tab t htm;have hks:=KA hto hso;have hnk:e.n∈AJ t.es:=List.mem_map.2 ⟨_,hm,rfl⟩;have hnl:=hto.es.lt _ hnk;have hs:=Ik a ha e hn;rw[hh]at hs;have hbs:=Q6 t.ks c.kind hks (by have:=hto.ks;omega);have hft:=Hq a.kinds [c] h12 (by simp);obtain⟨u,hgd,hone,hK⟩:=ha.ptr htm hnk;obtain⟨⟨fl,fe⟩,hfe⟩:=nm (CL a.kinds [c]);unfold WS;rw[hfe]at hft h11⊢;dsimp only at hft h11⊢;refine Sp (nt:=77) (res:=[.tmp 6]) Tryz.func267 λSf=>?_
 refine RG ?_;(repeat first|refine WO ?_|refine Ai λB=>?_|refine Ay λY=>?_);refine NL ?_;rename_i Be;refine JJ ?_;refine WO ?_;refine AOps.gN ?_;refine EM [_,_] (h:=hs) (k:=?_);refine JB ?_;refine AA rfl rfl ?_;refine FL ?_;refine RU ?_;(iterate 5 refine RK ?_);refine RGo.gN ?_;refine RGo.go (v:=.lst false 42 2 [AG false c]) (h:=W.litF1 (v0:=AG false c) rfl rfl (.inl rfl) (by decide) (by decide) rfl) ?_;refine RGo.g_callf ?_;refine RGo.c2 (h:=(hft ..)) (k:=?_);(iterate 5 refine RK ?_);refine RGo.nil (by kernel_rfl) ?_;refine JC ?_;refine AWP.cond rfl (λh0=>?_) (λh0=>?_)
 ·refine FL ?_
  refine R1 ?_;refine RT ?_;exact Ends.sp [iA fe] (arS a) ⟨a,.inl ⟨by simpa using h0,rfl⟩,rfl,rfl⟩
 have h0:fe=0:=by simpa using h0
 subst h0;obtain⟨v,rfl⟩:∃v,fl=[⟨c.kind,v⟩]:=Se hfe;refine FL ?_;refine AWP.perm (List.Perm.cons _ (List.Perm.cons _ (EV hts Sf))) ?_;refine RU ?_;(iterate 6 refine RK ?_);refine RGo.gN ?_;refine RGo.go (h:=W.lookP (.ptr t.X 0 0) hgd hn hone hK rfl rfl (by exact At.f) (by exact At.f)) (k:=?_);refine RK ?_;refine RGo.nil (by kernel_rfl) ?_;refine FL ?_;refine JM ?_;refine RGo.g_callf ?_;refine RGo.c2 (h:=(hbs ..)) (k:=?_);(iterate 5 refine RK ?_);refine RGo.nil (by kernel_rfl) ?_;refine FL ?_;by_cases hk:c.kind∈t.ks
 ·rw[Ah hk]
  refine R1 ?_;refine AL rfl rfl ?_;obtain⟨hil,hik⟩:=OM hks hk;obtain⟨i,hi⟩:=nm (Kd t.ks c.kind);have hca:Ci (Aa t e.n) c.kind=i:=by rw[<-hi,<-Kc hso,Ct hto]
  rw[hi]at hil⊢;have hic:i<t.cs.length:=by rw[<-hto.len];exact hil
  obtain⟨m1,m2,hsp,hm1⟩:=FZ hic;have hcat:(t.cs.map λc=>AV.ptr c.1.X 0 0)[i]?=some (.ptr t.cs[i].1.X 0 0):=BF _ hic;have hcil:i<(t.cs.map λc=>AV.ptr c.1.X 0 0).length:=by rw[AB];exact hic
  obtain⟨col,hce⟩:=nm (t.cs[i]);rw[hce]at hsp hcat;have hcok:ColOK col.2:=hto.cs _ (by rw[hsp];simp);have hpu:=(Ok col.1 col.2 hcok e.n v hnl).tt;refine FL ?_;(repeat refine WF ?_);refine Df (n:=8) ([(B,.row 42 2 [AG false c]),(Be,.row 32 2 [BA e])]++(arH a++[D6 t])) (stE t.ek t.es++(Bh t.cs++(BM l1++(BM l2++Sf)))) rfl (by kernel_rfl) (by kernel_rfl) ?_;refine RGoH.go ?_;refine RGoH.go ?_;refine RGoH.go ?_;refine RGoH.go ?_;refine RGoH.go ?_;refine RGoH.go (h:=W.idxL (a:=i) rfl rfl rfl hcat) ?_;refine RGoH.go ?_;refine RGoH.go ?_;refine RGoH.go ?_;refine RGoH.go ?_;refine RGoH.go (h:=W.idxL (a:=0) (e:=AG false ⟨c.kind,v⟩) rfl rfl rfl rfl) ?_;refine RGoH.go ?_;refine RGoH.go ?_;refine RGoH.skip [54,56,60] ?_;refine RGoH.nil (by kernel_rfl) (by kernel_rfl) (by kernel_rfl) ?_;refine HC.step [(54,.ptr col.1.X 0 0),(56,iA e.n),(60,AM false v)] ⟨rfl,rfl,rfl,rfl,rfl,rfl,trivial⟩ λT F=>?_
  have heq:F++(stE t.ek t.es++(Bh t.cs++(BM l1++(BM l2++Sf))))=(F++(stE t.ek t.es++Bh m1))++(stS col.1 col.2++(Bh m2++(BM l1++(BM l2++Sf)))):=by
   rw[hsp,DP,DG];simp only[AT]
  refine D5 _ (h:=hpu) (k:=λq2 _=>?_) (hp:=heq);obtain⟨k2,hk2⟩:∃k2:StK,k2=⟨col.1.X,q2.1,q2.2,col.1.M⟩:=⟨_,rfl⟩;have hkx:k2.X=col.1.X:=by rw[hk2]
  rw[<-hk2]
  have heq2:(F++(stE t.ek t.es++Bh m1))++(stS k2 (Bn col.2 e.n v)++(Bh m2++(BM l1++(BM l2++Sf))))=F++(stE t.ek t.es++(Bh (m1++(k2,Bn col.2 e.n v)::m2)++(BM l1++(BM l2++Sf)))):=by
   rw[DP,DG];simp only[AT]
  refine AOps.perm (List.Perm.of_eq heq2) ?_;refine AOps.nil ⟨rfl,_,_,⟨λd v h=>h,.refl _⟩,?_⟩;obtain⟨b,hb⟩:∃b:Ar,b={a with ts:=l1++setT t m1 m2 k2 col.2 e.n v::l2}:=⟨_,rfl⟩;have hbt:b.ts=l1++setT t m1 m2 k2 col.2 e.n v::l2:=by rw[hb]
  have hbl:b.ts.length=a.ts.length:=by rw[hbt,hts,AP,AP];rfl
  have hbp:ptrs Tab.X b.ts=ptrs Tab.X a.ts:=by rw[hbt,hts,ptrs,ptrs,List.map_append,List.map_append];rfl
  have hH:arH b=arH a:=by
   show[_,_,_,_,_]=[_,_,_,_,_]
   rw[hbl,hbp,hb]
  have hT:D6 (setT t m1 m2 k2 col.2 e.n v)=D6 t:=by
   show(t.X,AO.row _ _ [AV.agg [AM false t.ks,_,.lst false _ _ ((m1++(k2,Bn col.2 e.n v)::m2).map λc=>AV.ptr c.1.X 0 0)]])=(t.X,AO.row _ _ [AV.agg [AM false t.ks,_,.lst false _ _ (t.cs.map λc=>AV.ptr c.1.X 0 0)]])
   rw[hsp,List.map_append,List.map_append,List.map_cons,List.map_cons,hkx]
  have hfr:=EV hbt Sf;rw[hH,hT]at hfr;show andThen _ _ _ _
  refine AWP.perm (S':=(B,.row 42 2 [AG false c])::(Be,.row 32 2 [BA e])::(arS b++Sf)) ?_ ?_
  ·refine List.Perm.trans (List.Perm.of_eq ?_) (List.Perm.cons _ (List.Perm.cons _ hfr.symm))
   simp only[BJ,BD]
  refine JK ?_
  have hins:Fg (Aa t e.n) ⟨c.kind,v⟩=(Aa t e.n).set m1.length ⟨c.kind,v⟩:=by
   rw[Q1 hso,if_pos ((LN hso).2 (by rw[Ct hto];exact hk)),hca,hm1]
  have hz:t.ks[m1.length]?=some c.kind:=by rw[hm1,AI hil];congr 1;simpa only[hi]using hik
  refine Ends.sp [iA 0] (arS b) ⟨b,.inr ⟨⟨c.kind,v⟩,rfl,?_⟩,rfl,rfl⟩;rw[hins,hb];exact⟨ha.setT hts hsp hnk,V5 hne hts,rfl,rfl,rfl,_,Kl ha hts hm,Rz ha hts hsp hm hz⟩
 ·rw[AK hk]
  refine R1 ?_;refine AA rfl rfl ?_;refine FL ?_;refine AWP.perm (List.Perm.cons _ (List.Perm.cons _ (EV hts Sf).symm)) ?_;(repeat refine WF ?_);have htk:=My a ha hne hts hnk;have htl:(Aa t e.n).length=t.ks.length:=by unfold Aa;rw[AB,List.length_zip];have:=hto.len;omega
  have h16:=hto.ks;refine Df (n:=2) [(B,.row 42 2 [AG false c]),(Be,.row 32 2 [BA e])] (arS a++Sf) rfl (by kernel_rfl) (by kernel_rfl) ?_;refine RGoH.go ?_;refine RGoH.go ?_;refine RGoH.go ?_;refine RGoH.skip [62,64] ?_;refine RGoH.go ?_;refine RGoH.go (h:=W.idxL (a:=0) (e:=AG false ⟨c.kind,v⟩) rfl rfl rfl rfl) ?_;refine RGoH.go ?_;refine RGoH.go (v:=.lst false 42 2 [AG false ⟨c.kind,v⟩]) (h:=W.litF1 (v0:=AG false ⟨c.kind,v⟩) rfl rfl (.inl rfl) (by decide) (by decide) rfl) ?_;refine RGoH.skip [65,69] ?_;refine RGoH.skip [70] ?_;refine RGoH.nil (by kernel_rfl) (by kernel_rfl) (by kernel_rfl) ?_;refine HC.step [(62,.ptr a.A 0 0),(64,iA e.n)] ⟨rfl,rfl,rfl,rfl,trivial⟩ λT F=>?_
  refine Li F (h:=htk) (k:=λY _ K=>?_);obtain⟨hok,hne2,hA,hki,hge,hit⟩:=Kf ha hne hts hm Y;obtain⟨b,hb⟩:=nm (E1 a l1 l2 t e.n Y);rw[hb]at hok hne2 hA hki hge hit⊢;refine AOps.perm List.perm_middle.symm ?_;refine AOps.nil ⟨rfl,_,_,⟨λd v h=>h,.refl _⟩,?_⟩;refine HC.step [(65,.sl K 0 ((Aa t e.n).map (AG false)).length),(69,.lst false 42 2 [AG false ⟨c.kind,v⟩])] ⟨rfl,rfl,rfl,rfl,trivial⟩ λT2 F2=>?_
  refine AOps.perm List.perm_middle ?_;refine AOps.rs λZ=>?_
  refine AOps.goS (h:=W.app (X:=K) (Y:=Z) rfl rfl (by exact At.f) (by exact At.f) (by rw[AB]) (by rw[AB];show(_+1)*32<=_;omega) (by rw[AB];unfold maxLen;show _+1<=_;omega) (by decide)) (k:=?_);dsimp only[AX,List.set_cons_zero,List.set_cons_succ];refine AOps.perm (List.Perm.cons _ List.perm_middle.symm) ?_;refine AOps.nil ⟨rfl,_,_,⟨λd v h=>h,.cons _ (.refl _)⟩,?_⟩;refine HC.step [(70,.sl Z 0 (((Aa t e.n).map (AG false)).length+1))] ⟨rfl,rfl,trivial⟩ λT3 F3=>?_
  (repeat refine WO ?_);refine AOps.nil ⟨rfl,_,_,⟨λd v h=>h,.refl _⟩,?_⟩;show andThen _ _ _ _
  refine AWP.weak (st':=⟨[(0,.ptr a.A 0 0),(4,.ptr Be 0 0),(12,.sl Z 0 (((Aa t e.n).map (AG false)).length+1))],[(Be,.row 32 2 [BA e]),(Z,.row 42 2 ((Aa t e.n).map (AG false)++[AG false ⟨c.kind,v⟩]))]++(arS b++Sf)⟩) ⟨.cons rfl (.cons rfl (.cons rfl .nil)),.cons _ (.refl _)⟩ ?_;obtain⟨cl,hcl⟩:∃cl,Aa t e.n++[(⟨c.kind,v⟩:Comp)]=cl:=⟨_,rfl⟩;have hcm:(Aa t e.n).map (AG false)++[AG false ⟨c.kind,v⟩]=cl.map (AG false):=by rw[<-hcl,List.map_append];rfl
  have hcn:((Aa t e.n).map (AG false)).length+1=cl.length:=by rw[<-hcl,AP,AB];rfl
  rw[hcm,hcn];obtain⟨su,⟨hu1,hu2⟩,hsf⟩:=Hu 287 [] (λx y=>Cp x.kind y.kind) rfl (M6 Comp.kind) (λx y=>Uq x y) Z cl.length cl rfl (by have:=h11 rfl hk;rw[<-hcl,AP,htl];show _+1<=12;omega);refine JJ ?_;refine AOps.g_callf ?_;refine AOps.o2 (h:=(hsf ..)) (k:=?_);refine NL ?_;dsimp only[AX,List.set_cons_zero,List.set_cons_succ,BJ,BD];rw[<-hu1.length_eq];have hF:AV.frzs (su.map (AG false))=su.map (AG false):=Frzs.h;have hsl:su.length=(su.map (AG false)).length:=(AB _).symm;rw[hsl];refine IN 12 _ hF ?_;rw[<-hA];have had:=LY b e su hok hne2 hnl (Kz ha hok hit) (by have:=h11 rfl hk;rw[hu1.length_eq,<-hcl,AP,htl];show _+1<=16;omega);refine JD ?_;(iterate 3 refine WO ?_);refine AOps.gN ?_;refine D5 [_,_] (h:=had) (k:=λb2 hb2=>?_);refine NL ?_;refine JK ?_;obtain⟨g1,g2,g3,g4,g5,g6⟩:=hb2;have hsu:su=Fg (Aa t e.n) ⟨c.kind,v⟩:=Pj hso (by rw[Ct hto];exact hk) (by rw[hcl];exact hu1) hu2;rw[hsu]at g6;exact Ends.sp [iA 0] (arS b2) ⟨b2,.inr ⟨_,rfl,g1,g2,g3.trans hA,g4.trans hki,g5.trans hge,_,hit,g6⟩,rfl,rfl⟩
theorem SA{w:Wd}{j:Nat}(h1:∀q<j,(!GM w.items (q:Nat)&&decide (w.gens.getD q 0<1073741824))=false)(h2:j<w.gens.length)(h3:(!GM w.items (j:Nat)&&decide (w.gens.getD j 0<1073741824))=true):Bg w=(j,true):=by
 have:MY w=some j:=by
  unfold MY;rw[List.find?_eq_some_iff_getElem];exact⟨h3,j,by simpa using h2,by simp,λq hq=>by have:=h1 q hq;simp only[List.getElem_range];rw[this];rfl⟩
 unfold Bg;rw[this]
theorem Ig:∀(l:List Item) (it:Item),(Ih l it).Perm (it::l)
 |[],it=>.refl _
 |x::l,it=>by
  rw[Ih];split
  ·exact((Ig l it).cons x).trans (.swap ..)
  ·exact .refl _
theorem R9{w:Wd}(h1:∀q<w.gens.length,(!GM w.items (q:Nat)&&decide (w.gens.getD q 0<1073741824))=false):Bg w=(w.gens.length,decide ((w.gens.length:Int)<256)):=by
 have:MY w=none:=by
  unfold MY;rw[List.find?_eq_none];intro q hq;have:=h1 q (by simpa using hq);rw[this];simp
 unfold Bg;rw[this]
theorem QN(a:Ar)(w:Wd)(h:ArFor a w)(h12:w.kinds.length<=12)(l:List Comp)(hl:l.length<=1099511627776):Spec Tryz.prog 270 [.ptr a.A 0 0,Ax false false l] (arS a) λr S'=>∃b:Ar,(ArFor b (FC w (DL w l).1 (DL w l).2.2)/\b.A=a.A)/\r= .tup [BA (DL w l).2.1,iA (DL w l).2.2]/\S'=arS b:=by
 have hft:=Hq a.kinds l (by rw[h.kinds];exact h12) hl;obtain⟨r,hr⟩:=nm (DL w l);rw[hr];unfold DL at hr;rw[if_neg (by simp[(BL w).2 h.wok])]at hr;rw[h.kinds]at hft;obtain⟨⟨cs,f⟩,hcs⟩:=nm (CL w.kinds l);have hheld:f=0->A8 w.kinds cs=true:=λe=>by have:=GK (ks:=w.kinds) (l:=l) (by rw[hcs];exact e);rwa[hcs]at this
 rw[hcs]at hr hft;dsimp only at hr hft;have hgl:=h.wok.gl;rw[<-h.gens]at hgl;refine Sp (nt:=84) (res:=[.cell 4 32,.tmp 5]) Tryz.func270 λSf=>?_
 refine JF ?_;refine Ai λP=>?_;refine JB ?_
 refine FL ?_;rw[<-h.kinds]at hft;refine JG ?_;refine AOps.g_callf ?_;refine AOps.c2 (h:=(hft ..)) (k:=?_);refine JE ?_;refine JC ?_;by_cases hf:f≠0
 ·rw[if_pos hf]at hr
  subst hr;refine AL rfl (Ah hf) ?_;refine JK ?_;exact Ends.sp [BA ⟨0,0⟩,iA f] (arS a) ⟨a,⟨by unfold FC;rw[if_neg hf];exact h,rfl⟩,rfl,rfl⟩
 have hf:f=0:=Decidable.not_not.1 hf;subst hf;rw[if_neg (by simp)]at hr;refine AA rfl rfl ?_;refine JL ?_;refine Az (λ(j:Nat)=>⟨[(0,.ptr a.A 0 0),(4,.ptr P 0 0),(6,Ax false false cs),(8,iA j)],(P,.row 32 2 [BA ⟨0,0⟩])::(arS a++Sf)⟩) (λj=>j<=a.gens.length/\∀q<j,(!GM w.items (q:Nat)&&decide (w.gens.getD q 0<1073741824))=false) (λj=>a.gens.length-j) 0 ⟨Nat.zero_le _,λq hq=>absurd hq (by omega)⟩ ?_;rintro j ⟨hj,hall⟩;have hjI:I64 (j:Int):=by constructor<;>omega
 by_cases hjl:j<a.gens.length
 ·have hd:decide ((j:Int)<(a.gens.length:Nat))=true:=Ah (by omega)
  have hat:(a.gens.map iA)[j]?=some (iA a.gens[j]):=BF _ hjl;have hmem:=h.wok.gs a.gens[j] (by rw[<-h.gens];exact AU hjl);have hgd:w.gens.getD j 0=a.gens[j]:=by rw[<-h.gens,CF,AI hjl];rfl
  have hus:=h.used j
  have hus0:a.g j=none->¬a.gens[j]=1073741824->Bg w=(j,true):=λe1 e2=>by
   refine SA hall (by rw[<-h.gens];exact hjl) ?_;rw[<-hus,e1,hgd,Ah (by omega)];rfl
  cases hg:a.g j with
  |none=>
   have hgp:(a.g j).getD (.pointer none)= .pointer none:=by rw[hg];rfl
   refine RG ?_;(iterate 19 refine WO ?_);refine AOps.gN ?_;refine AOps.go (h:=IG _ hgp hjI rfl rfl (by exact At.f)) (k:=?_);refine WO ?_;refine AOps.gN ?_;refine AOps.go (h:=W.neNil false (.inl ⟨rfl,rfl⟩) rfl rfl) (k:=?_);refine JE ?_;refine AWP.cond rfl (λhc=>?_) (λhc=>?_)
   ·have hc:a.gens[j]=1073741824:=of_decide_eq_true hc
    refine JC ?_;refine Ab (j+1) ⟨by omega,λq hq=>?_⟩ (by omega);by_cases hqj:q=j
    ·subst hqj
     rw[hgd,hc];simp
    ·exact hall q (by omega)
   ·have hc:¬a.gens[j]=1073741824:=of_decide_eq_false hc
    have hfr:=hus0 hg hc;obtain⟨f1,f2,f3,f4⟩:=Hc h.wok (by rw[hfr]);have hv:=J9 h.wok (by rw[hfr]) (hheld rfl);rw[hfr]at hr f1 f2 f3 f4 hv;dsimp only at hr f1 f2 f3 f4 hv;rw[if_neg (by simp)]at hr;have hgz:a.gens=Ck w.gens j:=by unfold Ck;rw[if_neg (by rw[<-h.gens];omega),h.gens]
    obtain⟨g,hge⟩:=nm ((Ck w.gens j).getD j 0);rw[hge]at hr hv;have hge:a.gens[j]=g:=by rw[<-hge,<-hgz,CF,AI hjl];rfl
    rw[hge]at hat;subst hr
    have hfk:((j:Nat):Int)∉BQ a.ts:=λhm=>by
     rw[h.ok.keys_items]at hm;obtain⟨x,hx,e⟩:=List.mem_map.1 hm;exact f2 x (h.items.mem_iff.1 hx) e
    have had:=LY a ⟨(j:Nat),g⟩ cs h.ok h.ne (by dsimp only;omega) hfk (ED h.wok.ks (hheld rfl)).1;have hd2:decide ((j:Int)=256)=false:=AK (by omega);have hd3:decide ((j:Int)=(a.gens.length:Nat))=false:=AK (by omega);refine JC ?_;refine AA rfl hd2 ?_;refine JC ?_;refine AA rfl hd3 ?_;refine JI ?_;refine Ai λE=>?_;refine JB ?_
    refine JD ?_;(iterate 3 refine WO ?_);refine AOps.gN ?_;refine D5 [_,_] (h:=had) (k:=λb2 hb2=>?_);refine NL ?_;refine JK ?_;obtain⟨q1,q2,q3,q4,q5,q6⟩:=hb2;exact Ends.sp [BA ⟨(j:Nat),g⟩,iA 0] (arS b2) ⟨b2,⟨⟨q1,q2,q4.trans h.kinds,q5.trans hgz,q6.trans ((h.items.cons _).trans (Ig _ _).symm),hv⟩,q3⟩,rfl,rfl⟩
  |some u=>
   have hgp:(a.g j).getD (.pointer none)=u:=by rw[hg];rfl
   obtain⟨t,ht,htn,hK,b,hb⟩:=h.ok.g j u hg;have hone:u.oneCell'=true:=by rw[hb];rfl
   refine RG ?_;(iterate 19 refine WO ?_);refine AOps.gN ?_;refine AOps.go (h:=IG _ hgp hjI rfl rfl (by exact At.f) hone) (k:=?_);refine WO ?_;refine AOps.gN ?_;refine AOps.go (h:=W.neNil true (.inr ⟨b,hb,rfl⟩) rfl rfl) (k:=?_);refine JE ?_;refine AL rfl rfl ?_;refine JC ?_;refine Ab (j+1) ⟨by omega,λq hq=>?_⟩ (by omega);by_cases hqj:q=j
   ·subst hqj
    rw[<-hus,hg];rfl
   ·exact hall q (by omega)
 ·have hjl:j=a.gens.length:=by omega
  have hd:decide ((j:Int)<(a.gens.length:Nat))=false:=AK (by omega);have hfr:=R9 (w:=w) λq hq=>hall q (by rw[hjl,h.gens];exact hq)
  rw[<-h.gens,<-hjl]at hfr;refine RG ?_;(repeat first|(refine AOps.gQ ?_;first|refine AOps.goNU ?_|refine AOps.goNV ?_)|refine WO ?_|refine Ai λX=>?_|refine Ay λY=>?_);refine NL ?_;refine AA rfl rfl ?_;refine JC ?_;refine AWP.cond rfl (λhc=>?_) (λhc=>?_)
  ·have hc:(j:Int)=256:=of_decide_eq_true hc
   rw[hfr,if_pos (AK (by omega))]at hr;subst hr;refine JK ?_;exact Ends.sp [BA ⟨0,0⟩,iA 6] (arS a) ⟨a,⟨h,rfl⟩,rfl,rfl⟩
  ·have hc:¬(j:Int)=256:=of_decide_eq_false hc
   have hfr:Bg w=(j,true):=by rw[hfr,Ah (by omega)]
   obtain⟨f1,f2,f3,f4⟩:=Hc h.wok (by rw[hfr]);have hv:=J9 h.wok (by rw[hfr]) (hheld rfl);rw[hfr]at hr f1 f2 f3 f4 hv;dsimp only at hr f1 f2 f3 f4 hv;rw[if_neg (by simp)]at hr;have hgr:Ck w.gens j=a.gens++[0]:=by unfold Ck;rw[if_pos (by rw[<-h.gens];exact hjl),h.gens]
   obtain⟨g,hge⟩:=nm ((Ck w.gens j).getD j 0);rw[hge]at hr hv;have hge:g=0:=by rw[<-hge,hgr,hjl,CF];simp
   subst hge;subst hr;have hd3:decide ((j:Int)=(a.gens.length:Nat))=true:=Ah (by omega);refine JC ?_;refine AL rfl hd3 ?_;refine JD ?_;(iterate 5 refine WO ?_);refine AOps.g_lit ?_;refine AOps.goL (iA 0) ?_;refine WO ?_;refine Ay λY=>?_;refine KO ?_
   dsimp only[AX,List.set_cons_zero,List.set_cons_succ,BJ,BD];refine AOps.nil ?_;refine FL ?_;have hm1:a.gens.map iA++[iA 0]=(a.gens++[0]).map iA:=by rw[List.map_append];rfl
   have hm2:a.gens.length+[iA 0].length=(a.gens++[0]).length:=by rw[AP];rfl
   rw[hm1,hm2];obtain⟨z,hz⟩:∃z:Ar,z={a with G:=Y,gens:=a.gens++[0]}:=⟨_,rfl⟩;have hzA:z.A=a.A:=by rw[hz]
   have hzg:z.gens=a.gens++[0]:=by rw[hz]
   have hzt:z.ts=a.ts:=by rw[hz]
   have hzo:ArOK z:=by rw[hz];exact⟨h.ok.tab,h.ok.ord,h.ok.keys,h.ok.ent,h.ok.g,h.ok.gn,h.ok.cnt⟩
   refine AWP.weak (st':=⟨[(0,.ptr a.A 0 0),(4,.ptr P 0 0),(6,Ax false false cs),(8,iA j)],(P,.row 32 2 [BA ⟨0,0⟩])::(arS z++Sf)⟩) ⟨by exact Lk.f,?_⟩ ?_
   ·rw[hz]
    simp only[arS,BJ,BD];exact List.Sublist.refl _
   have hat:(z.gens.map iA)[j]?=some (iA 0):=by rw[hzg,AH,hjl];simp
   have hjz:j<z.gens.length:=by rw[hzg,AP,hjl];show a.gens.length<_+1;omega
   have hfk:((j:Nat):Int)∉BQ z.ts:=λhm=>by
    rw[hzt,h.ok.keys_items]at hm;obtain⟨x,hx,e⟩:=List.mem_map.1 hm;exact f2 x (h.items.mem_iff.1 hx) e
   have had:=LY z ⟨(j:Nat),0⟩ cs hzo (by rw[hzt];exact h.ne) (by dsimp only;omega) hfk (ED h.wok.ks (hheld rfl)).1;rw[hzt]at had;rw[<-hzA];refine JG ?_;refine Ai λE=>?_;refine JB ?_
   refine JD ?_;(iterate 3 refine WO ?_);refine AOps.gN ?_;refine D5 [_,_] (h:=had) (k:=λb2 hb2=>?_);refine NL ?_;refine JK ?_;obtain⟨q1,q2,q3,q4,q5,q6⟩:=hb2;exact Ends.sp [BA ⟨(j:Nat),0⟩,iA 0] (arS b2) ⟨b2,⟨⟨q1,q2,(q4.trans (by rw[hz])).trans h.kinds,(q5.trans hzg).trans hgr.symm,q6.trans ((h.items.cons _).trans (Ig _ _).symm),hv⟩,q3⟩,rfl,rfl⟩
section
section
variable {a:Ar}{w:Wd}
theorem Tm{e:Ent}{l:List Comp}{i:Nat}(hw:WdOK w)(hi:w.items[i]?=some ⟨e,l⟩):Cd w.items e=i:=H9 hw.so hi
theorem Up(h:ArFor a w)(h12:w.kinds.length<=12)(e:Ent)(c:Comp)(hn:I64 e.n)(hk:I64 c.kind):Spec Tryz.prog 267 [.ptr a.A 0 0,BA e,AG false c] (arS a) λr S'=>∃b:Ar,(ArFor b (FC w (DR w e c).1 (DR w e c).2)/\b.A=a.A)/\r=iA (DR w e c).2/\S'=arS b:=by
 have hwe:=(BL w).2 h.wok;cases hh:Fv a e with
 |false=>
  have hf:=h.hasE hh;have hp:DR w e c=(⟨[],[],[]⟩,4):=by unfold DR;rw[if_neg (by simp[hwe]),if_pos hf]
  rw[hp];exact(Vv a h.ok e c hn hh).mono λr S' ⟨e1,e2⟩=>⟨a,⟨h,rfl⟩,e1,e2⟩
 |true=>
  obtain⟨l1,l2,t,hts,hm⟩:=Jr h.ok hh;have htm:t∈a.ts:=by rw[hts];simp
  obtain⟨i,hi⟩:=h.item htm hm;have hso:=h.sort htm hm;have hhe:=h.held htm hm;have hfi:=Tm h.wok hi;have hto:=h.ok.tab t htm
  have h11:(CL a.kinds [c]).2=0->c.kind∉t.ks->t.ks.length<=11:=λe1 e2=>by
   obtain⟨d,_,_,g1,g2⟩:=L8 e1;rw[h.kinds]at g2
   have h1:(c.kind::t.ks).length<=w.kinds.length:=GQ (λx=>x) _ _ (List.pairwise_cons.2 ⟨λx hx e=>e2 (by subst e;exact hx),(KA hto hso).imp λh=>by omega⟩) λx hx=>by
    rcases List.mem_cons.1 hx with rfl|hx
    ·exact⟨g1,g2⟩
    ·rw[<-Ct hto e.n]at hx
     obtain⟨d,hd,rfl⟩:=List.mem_map.1 hx;have:=(held_iff.1 hhe).2 d hd;exact⟨this.1,this.2.1⟩
   rw[Bs]at h1;omega
  refine(Uo a h.ok h.ne e c hn hk (by rw[h.kinds];exact h12) hh hts hm hso h11).mono λr S' ⟨b,hb,e1,e2⟩=>?_
  unfold WS at hb;rw[h.kinds]at hb e1;rcases hb with⟨hne,rfl⟩|⟨d,hd,hs⟩
  ·have hp:DR w e c=(⟨[],[],[]⟩,(CL w.kinds [c]).2):=by unfold DR;rw[if_neg (by simp[hwe]),hfi,if_neg (by omega),if_pos hne]
   rw[hp];exact⟨b,⟨by unfold FC;rw[if_neg hne];exact h,rfl⟩,e1,e2⟩
  ·have hp:DR w e c=(Db w i (Fg (Aa t e.n) d),0):=by unfold DR;rw[if_neg (by simp[hwe]),hfi,if_neg (by omega),hd,if_neg (by simp),Int.toNat_natCast,hi]
   rw[hd]at e1;rw[hp];have hfo:=MA h.wok.ks (by rw[hd]);have hdc:=Jz h.wok.ks hfo;rw[hd]at hdc;injection hdc with hdc
   injection hdc with hdc
   have hpo:=S4 h.wok hi hfo
   have hhl:A8 w.kinds (Fg (Aa t e.n) d)=true:=by
    rw[hdc]
    have hii:(Db w i (Fg (Aa t e.n) (He w.kinds c))).items[i]?=some ⟨e,Fg (Aa t e.n) (He w.kinds c)⟩:=by
     rw[HP hi];exact List.getElem?_set_self (List.getElem?_eq_some_iff.1 hi).1
    exact(hpo.it _ (Aq hii)).2.2.2.2
   exact⟨b,⟨h.swap hs hi hhl,hs.A⟩,e1,e2⟩
theorem Tu(h:ArFor a w)(e:Ent)(k:Int)(hn:I64 e.n)(hk:I64 k):Spec Tryz.prog 268 [.ptr a.A 0 0,BA e,iA k] (arS a) λr S'=>∃b:Ar,(ArFor b (FC w (E6 w e k).1 (E6 w e k).2)/\b.A=a.A)/\r=iA (E6 w e k).2/\S'=arS b:=by
 have hwe:=(BL w).2 h.wok;cases hh:Fv a e with
 |false=>
  have hf:=h.hasE hh;have hp:E6 w e k=(⟨[],[],[]⟩,4):=by unfold E6;rw[if_neg (by simp[hwe]),if_pos hf]
  rw[hp];exact(Tx a h.ok e k hn hh).mono λr S' ⟨e1,e2⟩=>⟨a,⟨h,rfl⟩,e1,e2⟩
 |true=>
  obtain⟨l1,l2,t,hts,hm⟩:=Jr h.ok hh;have htm:t∈a.ts:=by rw[hts];simp
  obtain⟨i,hi⟩:=h.item htm hm;have hso:=h.sort htm hm;have hhe:=h.held htm hm;have hto:=h.ok.tab t htm;have hp:=Me h.wok hi k;dsimp only at hp;have hcm:(BH (Aa t e.n) k).isSome=true↔k∈t.ks:=by rw[LN hso,Ct hto]
  refine(SF a h.ok h.ne e k hn hk hh hts hm (KA hto hso)).mono λr S' ⟨b,hb,e1,e2⟩=>?_
  by_cases hkm:k∈t.ks
  ·have hcs:=hcm.2 hkm
   rw[if_pos hkm]at hb e1;rw[if_pos hcs]at hp;rw[hp];have hl:Kd t.ks k=Ci (Aa t e.n) k:=by rw[<-Kc hso,Ct hto]
   rw[hl,<-Oj hso hcs]at hb;exact⟨b,⟨h.swap hb hi (MX hhe),hb.A⟩,e1,e2⟩
  ·rw[if_neg hkm]at hb e1
   rw[if_neg λe=>hkm (hcm.1 e)]at hp;rw[hp];subst hb;exact⟨b,⟨h,rfl⟩,e1,e2⟩
theorem TP(h:ArFor a w)(e:Ent)(hn:I64 e.n):Spec Tryz.prog 269 [.ptr a.A 0 0,BA e] (arS a) λr S'=>∃b:Ar,(ArFor b (FC w (EB w e).1 (EB w e).2)/\b.A=a.A)/\r=iA (EB w e).2/\S'=arS b:=by
 have hwe:=(BL w).2 h.wok;cases hh:Fv a e with
 |false=>
  have hf:=h.hasE hh;have hp:EB w e=(⟨[],[],[]⟩,4):=by unfold EB;rw[if_neg (by simp[hwe]),if_pos hf]
  rw[hp];exact(U0 a h.ok e hn hh).mono λr S' ⟨e1,e2⟩=>⟨a,⟨h,rfl⟩,e1,e2⟩
 |true=>
  obtain⟨l1,l2,t,hts,hm⟩:=Jr h.ok hh;have htm:t∈a.ts:=by rw[hts];simp
  obtain⟨i,hi⟩:=h.item htm hm;have hit:=h.wok.it _ (Aq hi);dsimp only at hit;refine(TO a h.ok h.ne e hn hh (by rw[h.gens];omega) (by rw[h.gens];exact h.wok.gl) (by rw[h.gens];exact h.wok.gs)).mono λr S' ⟨b,hb,e1,e2⟩=>?_
  obtain⟨g1,g2⟩:=h.kill hb hh;rw[g1];exact⟨b,⟨g2,hb.A⟩,e1,e2⟩
end
end
abbrev CQ(b:Bool)(l:List Cmd):AV:=.lst b 159 5 (l.map Bp)
theorem SP(ks:List Kind)(c:Cmd)(h12:ks.length<=12)(hl:c.comps.length<=1099511627776):PS Tryz.prog 223 [Ag false false ks,Bp c] (.tup [Ax false false (C2 ks c).1,iA (C2 ks c).2]):=by
 have hft:=Hq ks c.comps h12 hl;obtain⟨act,ent,kind,comps⟩:=c;dsimp only at hft hl;obtain⟨r,hr⟩:=nm (C2 ks ⟨act,ent,kind,comps⟩);rw[hr];unfold C2 at hr;dsimp only at hr;refine Sp (nt:=42) (res:=[.tmp 4,.tmp 5]) Tryz.func223 λSf=>?_
 have hlm:(comps.map (AG false)).length=comps.length:=AB _;have hkm:(ks.map (A7 false)).length=ks.length:=AB _;refine JF ?_;refine Ai λB=>?_;refine JE ?_
 refine JC ?_;refine JC ?_;refine AWP.cond rfl (λh0=>?_) (λh0=>?_)
 ·rw[if_pos (of_decide_eq_true h0)]at hr
  refine JC ?_;refine AWP.cond rfl (λh1=>?_) (λh1=>?_)
  ·have h1:((comps.map (AG false)).length:Int)≠1:=of_decide_eq_true h1
   rw[if_neg (by omega)]at hr;subst hr;refine JK ?_;exact Bw [.prim (.slice none 0 0),iA 3] [Ax false false [],iA 3] (.cons (.cell .nil) (.cons (.cell .same) .nil))
  ·have h1:¬((comps.map (AG false)).length:Int)≠1:=of_decide_eq_false h1
   rw[if_pos (by omega)]at hr;subst hr;refine JI ?_;refine AOps.g_callf ?_;refine AOps.c2 (h:=(hft ..)) (k:=?_);refine JE ?_;refine RT ?_;exact GD (rs:=[Ax false false (CL ks comps).1,iA (CL ks comps).2]) rfl
 rw[if_neg (of_decide_eq_false h0)]at hr;refine JC ?_;refine AWP.cond rfl (λh1=>?_) (λh1=>?_)
 ·rw[if_pos (of_decide_eq_true h1)]at hr
  refine FL ?_;cases g1:decide (kind<0)with
  |true=>
   rw[if_pos (.inl (of_decide_eq_true g1))]at hr;subst hr;refine R1 ?_;refine AL rfl (by first|rfl|assumption) ?_;refine JK ?_;exact Bw [.prim (.slice none 0 0),iA 1] [Ax false false [],iA 1] (.cons (.cell .nil) (.cons (.cell .same) .nil))
  |false=>
   refine R1 ?_;refine AWP.cond rfl (λg2=>?_) (λg2=>?_)
   ·rw[hkm]at g2
    rw[if_pos (.inr (of_decide_eq_true g2))]at hr;subst hr;refine JK ?_;exact Bw [.prim (.slice none 0 0),iA 1] [Ax false false [],iA 1] (.cons (.cell .nil) (.cons (.cell .same) .nil))
   ·rw[hkm]at g2
    have g1:=of_decide_eq_false g1;have g2:¬(ks.length:Int)<=kind:=of_decide_eq_false g2;rw[if_neg (by omega)]at hr;subst hr;refine JK ?_;exact Bw [.prim (.slice none 0 0),iA 0] [Ax false false [],iA 0] (.cons (.cell .nil) (.cons (.cell .same) .nil))
 rw[if_neg (of_decide_eq_false h1)]at hr;refine JC ?_;refine AWP.cond rfl (λh2=>?_) (λh2=>?_)
 ·rw[if_pos (of_decide_eq_true h2)]at hr
  subst hr;refine JK ?_;exact Bw [.prim (.slice none 0 0),iA 0] [Ax false false [],iA 0] (.cons (.cell .nil) (.cons (.cell .same) .nil))
 rw[if_neg (of_decide_eq_false h2)]at hr;refine JC ?_;refine AWP.cond rfl (λh3=>?_) (λh3=>?_)
 ·rw[if_pos (of_decide_eq_true h3)]at hr
  subst hr;refine JI ?_;refine AOps.g_callf ?_;refine AOps.c2 (h:=(hft ..)) (k:=?_);refine JE ?_;refine RT ?_;exact GD (rs:=[Ax false false (CL ks comps).1,iA (CL ks comps).2]) rfl
 rw[if_neg (of_decide_eq_false h3)]at hr;subst hr;refine JK ?_;exact Bw [.prim (.slice none 0 0),iA 1] [Ax false false [],iA 1] (.cons (.cell .nil) (.cons (.cell .same) .nil))
theorem SQ{ks:List Kind}{l:List Cmd}{i:Nat}{c:Cmd}(h:i<l.length)(hc:l[i]=c):EJ ks (l.drop i)=if(C2 ks c).2=0 then EJ ks (l.drop (i+1))else(C2 ks c).2:=by
 rw[CG h,EJ,hc]
theorem Ou(w:Wd)(l:List Cmd)(hw:WdL w)(h12:w.kinds.length<=12)(hl:l.length<=1099511627776)(hc:∀c∈l,c.comps.length<=1099511627776):PS Tryz.prog 162 [wdA false w,CQ false l] (iA (LP w l)):=by
 have hck:=Et w hw.gens hw.items.1 (λit hit=>(hw.items.2 it hit).1);obtain⟨r,hr⟩:=nm (LP w l);rw[hr];unfold LP at hr;obtain⟨we,hwe⟩:=nm (Cr w);rw[hwe]at hck hr;have hlm:(l.map Bp).length=l.length:=AB _;refine Sp (nt:=35) (res:=[.tmp 4]) Tryz.func162 λSf=>?_
 refine RG ?_;refine AOps.g_box ?_;refine Ad ?_;refine JB ?_;refine JJ ?_;refine AOps.g_callf ?_;refine AOps.c1 (h:=(hck ..)) (k:=?_);refine JB ?_;refine JC ?_;refine AWP.cond rfl (λh0=>?_) (λh0=>?_)
 ·rw[if_pos (of_decide_eq_true h0)]at hr
  subst hr;refine JK ?_;refine AF ?_;rfl
 rw[if_neg (of_decide_eq_false h0)]at hr;refine JC ?_;refine AWP.cond rfl (λh1=>?_) (λh1=>?_)
 ·have h1:=of_decide_eq_true h1
  rw[if_pos (by omega)]at hr;subst hr;refine JK ?_;refine AF ?_;rfl
 have h1:=of_decide_eq_false h1;rw[if_neg (by omega)]at hr;subst hr;refine JL ?_;refine Az (λ(i:Nat)=>⟨[(2,.fp (wdA false w).cells),(18,CQ false l),(19,iA (l.map Bp).length),(20,iA i)],Sf⟩) (λi=>i<=l.length/\EJ w.kinds (l.drop i)=EJ w.kinds l) (λi=>l.length-i) 0 ⟨Nat.zero_le _,rfl⟩ ?_;rintro i ⟨hi,he⟩;refine JN ?_;refine AWP.cond rfl (λhc2=>?_) (λhc2=>?_)
 ·have h:i<l.length:=by rw[AE,hlm]at hc2;omega
  obtain⟨c,hcc⟩:=nm (l[i]);have hat:(l.map Bp)[i]?=some (Bp c):=by rw[AH,AI h,hcc];rfl
  have ho:=SP w.kinds c h12 (hc c (by rw[<-hcc];exact AU h));rw[SQ h hcc]at he;refine JI ?_;refine Ai λV=>?_;refine JB ?_
  refine JI ?_;refine AOps.g_callf ?_;refine AOps.c2 (h:=(ho ..)) (k:=?_);refine JE ?_;refine JC ?_;refine AWP.cond rfl (λh3=>?_) (λh3=>?_)
  ·rw[if_neg (of_decide_eq_true h3)]at he
   refine JK ?_;refine AF ?_;exact congrArg iA he
  ·rw[if_pos (Decidable.not_not.1 (of_decide_eq_false h3))]at he
   refine JC ?_;exact Ab (i+1) ⟨h,he⟩ (by omega)
 ·have h:i=l.length:=by rw[AN,hlm]at hc2;omega
  rw[h,List.drop_length]at he;refine JK ?_;refine AF ?_;exact congrArg iA he
theorem WQ{a:Ar}{w:Wd}(h:ArFor a w)(h12:w.kinds.length<=12)(c:Cmd)(hc:(C2 w.kinds c).2=0)(hn:I64 c.ent.n)(hl:c.comps.length<=1099511627776):Spec Tryz.prog 224 [.ptr a.A 0 0,Bp c] (arS a) λr S'=>∃b:Ar,(ArFor b (FA w c).1/\b.A=a.A)/\r= .tup [BA (FA w c).2.1,bA (FA w c).2.2]/\S'=arS b:=by
 obtain⟨act,ent,kind,comps⟩:=c;dsimp only at hn hl;unfold C2 at hc;dsimp only at hc;obtain⟨r,hr⟩:=nm (FA w ⟨act,ent,kind,comps⟩);rw[hr];unfold FA at hr;dsimp only at hr;refine Sp (nt:=50) (res:=[.cell 4 32,.tmp 5]) Tryz.func224 λSf=>?_
 refine RG ?_;refine AOps.g_box ?_;refine Ad ?_;refine WO ?_;refine Ai λP=>?_;refine JB ?_
 refine JC ?_;refine JC ?_;refine AWP.cond rfl (λh0=>?_) (λh0=>?_)
 ·rw[if_pos (of_decide_eq_true h0)]at hr hc
  split at hc
  ·rename_i h1
   obtain⟨d,rfl⟩:=List.length_eq_one_iff.1 h1;obtain⟨_,_,_,d1,d2⟩:=L8 hc;have h16:=(Bt h.wok.ks).1;have hp:=Up h h12 ent d hn ⟨by omega,by omega⟩;replace hr:(FC w (DR w ent d).1 (DR w ent d).2,(⟨0,0⟩:Ent),decide ((DR w ent d).2=0))=r:=hr;subst hr;refine FL ?_;obtain⟨err,herr⟩:=nm ((DR w ent d).2);rw[herr]at hp⊢;refine Df (n:=1) [(P,.row 32 2 [BA ⟨0,0⟩])] (arS a++Sf) rfl (by kernel_rfl) (by kernel_rfl) ?_;refine RGoH.go ?_;refine RGoH.go ?_;refine RGoH.go ?_;refine RGoH.go ?_;refine RGoH.go ?_;refine RGoH.go ?_;refine RGoH.go (h:=W.idxL (a:=0) (e:=AG false d) rfl rfl rfl rfl) ?_;refine RGoH.go ?_;refine RGoH.skip [13,15,19] ?_;refine RGoH.skip [20] ?_;refine RGoH.goS ?_;refine RGoH.skip [21] ?_;refine RGoH.nil (by kernel_rfl) (by kernel_rfl) (by kernel_rfl) ?_;refine HC.step [(13,.ptr a.A 0 0),(15,BA ent),(19,AG false d)] ⟨rfl,rfl,rfl,rfl,rfl,rfl,trivial⟩ λT F=>?_
   refine D5 F (h:=hp) (k:=λb hb=>?_);refine AOps.nil ⟨rfl,_,_,⟨λd v h=>h,.refl _⟩,?_⟩;refine HC.step [(20,iA err)] ⟨rfl,rfl,trivial⟩ λT2 F2=>?_
   (repeat refine WO ?_);refine AOps.nil ⟨rfl,_,_,⟨λd v h=>h,.refl _⟩,?_⟩;refine HC.step [(21,bA (decide (err=0)))] ⟨rfl,rfl,trivial⟩ λT3 F3=>?_
   (repeat refine WO ?_);refine AOps.nil ⟨rfl,_,_,⟨λd v h=>h,.refl _⟩,?_⟩;show andThen _ _ _ _
   refine FL ?_;refine RT ?_;exact Ends.sp [BA ⟨0,0⟩,bA (decide (err=0))] (arS b) ⟨b,⟨by rw[<-herr];rw[<-herr]at hb;exact hb.1,hb.2⟩,rfl,rfl⟩
  ·cases hc
 rw[if_neg (of_decide_eq_false h0)]at hr hc;refine JC ?_;refine AWP.cond rfl (λh1=>?_) (λh1=>?_)
 ·rw[if_pos (of_decide_eq_true h1)]at hr hc
  have hk:0<=kind/\kind<w.kinds.length:=by
   split at hc
   ·cases hc
   ·omega
  have h16:=(Bt h.wok.ks).1;have hp:=Tu h ent kind hn ⟨by omega,by omega⟩;subst hr;refine JD ?_;(iterate 6 refine WO ?_);refine AOps.gN ?_;refine D5 [_] (h:=hp) (k:=λb hb=>?_);refine JE ?_;refine FL ?_;refine RT ?_;exact Ends.sp [BA ⟨0,0⟩,bA _] (arS b) ⟨b,hb,rfl,rfl⟩
 rw[if_neg (of_decide_eq_false h1)]at hr hc;refine JC ?_;refine AWP.cond rfl (λh2=>?_) (λh2=>?_)
 ·rw[if_pos (of_decide_eq_true h2)]at hr hc
  have hp:=TP h ent hn;subst hr;refine JD ?_;(iterate 4 refine WO ?_);refine AOps.gN ?_;refine Ju [_] (h:=hp) (k:=λb hb=>?_);refine JE ?_;refine FL ?_;refine RT ?_;exact Ends.sp [BA ⟨0,0⟩,bA _] (arS b) ⟨b,hb,rfl,rfl⟩
 rw[if_neg (of_decide_eq_false h2)]at hr hc;have hp:=QN a w h h12 comps hl;subst hr;refine JD ?_;(iterate 3 refine WO ?_);refine AOps.gN ?_;refine Ju [_] (h:=hp) (k:=λb hb=>?_);refine KO ?_;refine Ai λV=>?_;refine JE ?_
 refine JK ?_;exact Ends.sp [BA _,bA _] (arS b) ⟨b,hb,rfl,rfl⟩
section
open Go.Sort
theorem U4(f:FuncId)(cap:List AV)(cf:Item->Item->Int)(hst:B6 cap=true)(hcf:∀x y,PS Tryz.prog f ((AD false) x::(AD false) y::cap) (iA (cf x y)))(X n:Nat)(d:Array Item)(a b:Nat)(hn:n=d.size)(hab:a<=b)(hb:b<=d.size)(hz:d.size<=1099511627776):PO Tryz.prog 212 [.sl X 0 n,iA a,iA b,.fn f cap] X (.row 71 3 (d.toList.map (AD false))) (.tup []) (.row 71 3 ((insertionSort (AZ cf) d a b).toList.map (AD false))):=by
 obtain⟨r,hr⟩:=nm (insertionSort (AZ cf) d a b);rw[hr];unfold insertionSort at hr;refine Sp (nt:=53) (res:=[]) Tryz.func212 λSf=>?_
 refine KK ?_;refine Bq (λ(i:Nat) (e:Array Item)=>⟨[(0,.sl X 0 n),(1,iA a),(2,iA b),(3,.fn f cap),(8,iA i)],(X,.row 71 3 (e.toList.map (AD false)))::Sf⟩) (λi e=>i<=max b (a+1)/\a<i/\e.size=d.size/\insOuter (AZ cf) a b i e=r) (λi _=>b-i) (a+1) d ⟨by omega,by omega,rfl,hr⟩ ?_;rintro i e ⟨hi,hai,he,hfold⟩;rw[insOuter]at hfold;refine KK ?_;refine AWP.cond rfl (λhc=>?_) (λhc=>?_)
 ·have h:i<b:=by have:=of_decide_eq_true hc;omega
  rw[if_pos h]at hfold;refine KK ?_;refine Bq (λ(j:Nat) (u:Array Item)=>⟨[(0,.sl X 0 n),(1,iA a),(2,iA b),(3,.fn f cap),(8,iA i),(9,iA j)],(X,.row 71 3 (u.toList.map (AD false)))::Sf⟩) (λj u=>j<=i/\u.size=d.size/\insInner (AZ cf) a j u=insInner (AZ cf) a i e) (λj _=>j) i e ⟨Nat.le_refl _,he,rfl⟩ ?_;rintro j u ⟨hj,hu,hin⟩;rcases Bool.eq_false_or_eq_true (decide ((a:Int)<(j:Int)))with g|g
  ·have hja:a<j:=by have:=of_decide_eq_true g;omega
   obtain⟨q,rfl⟩:∃q,j=q+1:=⟨j-1,by omega⟩;have h1:=BC (AD false) (d:=u) (i:=q+1) (by omega);have h2:=BC (AD false) (d:=u) (i:=q) (by omega);have hl:=hcf (u[q+1]!) (u[q]!);rw[insInner]at hin;(repeat refine WF ?_);refine RU ?_;(iterate 11 refine RK ?_);refine RGo.gQ ?_;refine RGo.go (h:=A9 (q:Int) (by omega) (by omega) rfl rfl) (k:=?_);refine KR ?_;refine RGo.g_callv ?_;refine RGo.k2 (h:=(hl ..)) (k:=?_);refine JH ?_;refine RGo.nil (by kernel_rfl) ?_;(repeat refine WF ?_);refine AWP.cond rfl (λhd=>?_) (λhd=>?_)
   ·have hd:(AZ cf) u[q+1]! u[q]! =true:=by simpa[g,AZ]using hd
    rw[hd,if_pos (by simp;omega)]at hin;obtain⟨y,hy⟩:=CN (AD false) (d:=u) (i:=q+1) (j:=q) (by omega) u[q]!;(repeat refine WF ?_);refine RU ?_;(iterate 4 refine RK ?_);refine RGo.gN ?_;refine RGo.go (h:=A9 (q:Int) (by omega) (by omega) rfl rfl) (k:=?_);refine JH ?_;refine RGo.gN ?_;refine RGo.go (h:=A9 (q:Int) (by omega) (by omega) rfl rfl) (k:=?_);(iterate 9 refine RK ?_);refine RGo.gN ?_;refine RGo.s (W.store rfl rfl (by exact At.f) hy (by exact rfl)) rfl ?_;refine RGo.nil (by kernel_rfl) ?_
    (iterate 4 refine WK ?_);refine AOps.gN ?_;refine AOps.p (A9 (q:Int) (by omega) (by omega) rfl rfl) rfl ?_;refine KK ?_
    refine BK q (swp u (q+1) q) ⟨by omega,by rw[size_swp];exact hu,hin⟩ (h0:=by rw[<-Cl (AD false) (by omega) (by omega)];exact⟨by exact Lk.f,by exact Sub.f⟩)
   ·have hd:(AZ cf) u[q+1]! u[q]! =false:=by simpa[g,AZ]using hd
    rw[hd,if_neg (by simp)]at hin;refine KK ?_;refine BK (i+1) u ⟨by omega,by omega,hu,by rw[hin];exact hfold⟩
  ·have hja:j<=a:=by have:=of_decide_eq_false g;omega
   have hin2:insInner (AZ cf) a j u=u:=by
    cases j with
    |zero=>rfl
    |succ q=>rw[insInner,if_neg (by simp;omega)]
   rw[hin2]at hin;(repeat refine WF ?_);refine RU ?_;(iterate 17 refine RK ?_);refine RGo.nil (by kernel_rfl) ?_;(repeat refine WF ?_);refine AA rfl (by simp[g]) ?_;refine KK ?_;refine BK (i+1) u ⟨by omega,by omega,hu,by rw[hin];exact hfold⟩
 ·have h:¬i<b:=by have:=of_decide_eq_false hc;omega
  rw[if_neg h]at hfold;subst hfold;refine KK ?_;refine DU ?_;exact BN [(X,.row 71 3 (e.toList.map (AD false)))] ⟨rfl,rfl⟩
end
section
open Go.Sort
theorem Nz(f:FuncId)(cap:List AV)(cf:Item->Item->Int)(hst:B6 cap=true)(hcf:∀x y,PS Tryz.prog f ((AD false) x::(AD false) y::cap) (iA (cf x y)))(X n:Nat)(d:Array Item)(lo hi first:Nat)(hn:n=d.size)(hb:first+hi<=d.size)(hlo:lo<=1099511627776)(hz:d.size<=1099511627776):PO Tryz.prog 262 [.sl X 0 n,iA lo,iA hi,iA first,.fn f cap] X (.row 71 3 (d.toList.map (AD false))) (.tup []) (.row 71 3 ((siftDown (AZ cf) hi first lo d).toList.map (AD false))):=by
 obtain⟨r,hr⟩:=nm (siftDown (AZ cf) hi first lo d);rw[hr];refine Sp (nt:=82) (res:=[]) Tryz.func262 λSf=>?_
 refine KK ?_;refine Bq (λ(root:Nat) (u:Array Item)=>⟨[(0,.sl X 0 n),(2,iA hi),(3,iA first),(4,.fn f cap),(10,iA root)],(X,.row 71 3 (u.toList.map (AD false)))::Sf⟩) (λroot u=>root<=max hi lo/\u.size=d.size/\siftDown (AZ cf) hi first root u=r) (λroot _=>hi-root) lo d ⟨by omega,rfl,hr⟩ ?_;rintro root u ⟨hro,hu,hfold⟩;rw[siftDown]at hfold
 (iterate 4 refine WK ?_);refine AOps.gN ?_;refine AOps.p (Ix ((2*root:Nat):Int) (by omega) (by omega) rfl rfl) rfl ?_;refine AOps.gN ?_;refine AOps.p (Bc (((2*root+1:Nat):Int)) (by omega) (by omega) rfl rfl) rfl ?_;refine KK ?_
 refine AWP.cond rfl (λhc=>?_) (λhc=>?_)
 ·have h:2*root+1>=hi:=by have:=of_decide_eq_true hc;omega
  rw[dif_pos h]at hfold;subst hfold;refine KK ?_;refine DU ?_;exact BN [(X,.row 71 3 (u.toList.map (AD false)))] ⟨rfl,rfl⟩
 have h:¬2*root+1>=hi:=by have:=of_decide_eq_false hc;omega
 rw[dif_neg h]at hfold;refine AWP.skip ?_;refine CT ?_;refine AWP.seq ?_;refine Bl (λc:Nat=>c<hi/\root<c/\(if !(AZ cf) u[first+root]! u[first+c]! then u else siftDown (AZ cf) hi first c (swp u (first+root) (first+c)))=r) (λc=>⟨[(0,.sl X 0 n),(2,iA hi),(3,iA first),(4,.fn f cap),(10,iA root),(11,iA c)],(X,.row 71 3 (u.toList.map (AD false)))::Sf⟩) ?_ ?_
 ·rcases Bool.eq_false_or_eq_true (decide (((2*root+1+1:Nat):Int)<(hi:Int)))with g|g
  ·have hg:2*root+1+1<hi:=by have:=of_decide_eq_true g;omega
   have h1:=BC (AD false) (d:=u) (i:=first+(2*root+1)) (by omega);have h2:=BC (AD false) (d:=u) (i:=first+(2*root+1)+1) (by omega);have hl:=hcf (u[first+(2*root+1)]!) (u[first+(2*root+1)+1]!);refine RU ?_;refine RK ?_;refine RGo.gN ?_;refine RGo.go (h:=Bc (((2*root+1+1:Nat):Int)) (by omega) (by omega) rfl rfl) (k:=?_);(iterate 7 refine RK ?_);refine RGo.gQ ?_;refine RGo.go (h:=Bc (((first+(2*root+1):Nat):Int)) (by omega) (by omega) rfl rfl) (k:=?_);(iterate 5 refine RK ?_);refine RGo.gQ ?_;refine RGo.go (h:=Bc (((first+(2*root+1):Nat):Int)) (by omega) (by omega) rfl rfl) (k:=?_);refine RGo.gQ ?_;refine RGo.go (h:=Bc (((first+(2*root+1)+1:Nat):Int)) (by omega) (by omega) rfl rfl) (k:=?_);refine KR ?_;refine RGo.g_callv ?_;refine RGo.k2 (h:=(hl ..)) (k:=?_);refine JH ?_;refine RGo.nil (by kernel_rfl) ?_;(repeat refine WF ?_);refine AWP.cond rfl (λhd=>?_) (λhd=>?_)
   ·have hd:(AZ cf) u[first+(2*root+1)]! u[first+(2*root+1)+1]! =true:=by simpa[g,AZ]using hd
    rw[hd,if_pos (by simp;omega)]at hfold;refine WK ?_;refine WK ?_;refine AOps.gN ?_;refine AOps.p (Bc (((2*root+2:Nat):Int)) (by omega) (by omega) rfl rfl) rfl ?_;refine KK ?_;refine jn (2*root+2) ⟨by omega,by omega,?_⟩;split at hfold
    ·rename_i hx;rw[if_pos hx];exact hfold
    ·rename_i hx;rw[if_neg hx];first|exact hfold|(rw[dif_pos (by omega)]at hfold;exact hfold)
   ·have hd:(AZ cf) u[first+(2*root+1)]! u[first+(2*root+1)+1]! =false:=by simpa[g,AZ]using hd
    rw[hd,if_neg (by simp)]at hfold;refine WK ?_;exact jn (2*root+1) ⟨by omega,by omega,hfold⟩
  ·have hg:¬2*root+1+1<hi:=by have:=of_decide_eq_false g;omega
   rw[if_neg (by simp[hg])]at hfold;refine RU ?_;refine RK ?_;refine RGo.gN ?_;refine RGo.go (h:=Bc (((2*root+1+1:Nat):Int)) (by omega) (by omega) rfl rfl) (k:=?_);(iterate 20 refine RK ?_);refine RGo.nil (by kernel_rfl) ?_;(repeat refine WF ?_);refine AA rfl (by simp[g]) ?_;refine WK ?_;exact jn (2*root+1) ⟨by omega,by omega,hfold⟩
 ·rintro c ⟨hch,hrc,hfold⟩
  have h1:=BC (AD false) (d:=u) (i:=first+root) (by omega);have h2:=BC (AD false) (d:=u) (i:=first+c) (by omega);have hl:=hcf (u[first+root]!) (u[first+c]!);(repeat refine WF ?_);refine RU ?_;(iterate 4 refine RK ?_);refine RGo.gN ?_;refine RGo.go (h:=Bc (((first+root:Nat):Int)) (by omega) (by omega) rfl rfl) (k:=?_);(iterate 5 refine RK ?_);refine RGo.gN ?_;refine RGo.go (h:=Bc (((first+c:Nat):Int)) (by omega) (by omega) rfl rfl) (k:=?_);refine KR ?_;refine RGo.g_callv ?_;refine RGo.k2 (h:=(hl ..)) (k:=?_);refine JH ?_;refine RGo.nil (by kernel_rfl) ?_;(repeat refine WF ?_);refine AWP.cond rfl (λhd=>?_) (λhd=>?_)
  ·have hd:(!(AZ cf) u[first+root]! u[first+c]!)=true:=by simpa[AZ]using hd
   rw[if_pos hd]at hfold;subst hfold;refine RT ?_;exact BN [(X,.row 71 3 (u.toList.map (AD false)))] ⟨rfl,rfl⟩
  ·have hd:(!(AZ cf) u[first+root]! u[first+c]!)=false:=by simpa[AZ]using hd
   rw[if_neg (by rw[hd];simp)]at hfold;obtain⟨y,hy⟩:=CN (AD false) (d:=u) (i:=first+root) (j:=first+c) (by omega) u[first+c]!;(repeat refine WF ?_);refine RU ?_;(repeat first|(refine RGo.gN ?_;first|refine RGo.go (h:=Bc (((first+root:Nat):Int)) (by omega) (by omega) rfl rfl) (k:=?_)|refine RGo.go (h:=Bc (((first+c:Nat):Int)) (by omega) (by omega) rfl rfl) (k:=?_)|refine RGo.s (W.store rfl rfl (by exact At.f) hy (by exact rfl)) rfl ?_)|(refine RGo.gQ ?_;first|refine RGo.go (h:=Bc (((first+root:Nat):Int)) (by omega) (by omega) rfl rfl) (k:=?_)|refine RGo.go (h:=Bc (((first+c:Nat):Int)) (by omega) (by omega) rfl rfl) (k:=?_)|refine RGo.s (W.store rfl rfl (by exact At.f) hy (by exact rfl)) rfl ?_)|refine RK ?_|refine RGo.nil (by kernel_rfl) ?_);refine KK ?_;refine BK c (swp u (first+root) (first+c)) ⟨by omega,by rw[size_swp];exact hu,hfold⟩ (h0:=by rw[<-Cl (AD false) (by omega) (by omega)];exact⟨by exact Lk.f,by exact Sub.f⟩)
theorem Dx(lt:Item->Item->Bool)(hi first:Nat):∀(k root:Nat) (d:Array Item),hi-root<=k->(siftDown lt hi first root d).size=d.size
 |0,root,d,h=>by rw[siftDown,dif_pos (by omega)]
 |k+1,root,d,h=>by
  rw[siftDown];split
  ·rfl
  ·split
   ·split
    ·rfl
    ·split
     ·rw[Dx lt hi first k _ _ (by omega),size_swp]
     ·rfl
   ·split
    ·rfl
    ·rw[Dx lt hi first k _ _ (by omega),size_swp]
theorem Ta(f:FuncId)(cap:List AV)(cf:Item->Item->Int)(hst:B6 cap=true)(hcf:∀x y,PS Tryz.prog f ((AD false) x::(AD false) y::cap) (iA (cf x y)))(X n:Nat)(d:Array Item)(a b:Nat)(hn:n=d.size)(hab:a<b)(hb:b<=d.size)(hz:d.size<=1099511627776):PO Tryz.prog 213 [.sl X 0 n,iA a,iA b,.fn f cap] X (.row 71 3 (d.toList.map (AD false))) (.tup []) (.row 71 3 ((heapSort (AZ cf) d a b).toList.map (AD false))):=by
 obtain⟨r,hr⟩:=nm (heapSort (AZ cf) d a b);rw[hr];unfold heapSort at hr;obtain⟨m,hm⟩:=nm (b-a);rw[hm]at hr;refine Sp (nt:=60) (res:=[]) Tryz.func213 λSf=>?_
 (repeat first|(refine AOps.gN ?_;first|refine AOps.p (A9 ((m:Int)) (by omega) (by omega) rfl rfl) rfl ?_|refine AOps.p (A9 (((m-1:Nat):Int)) (by omega) (by omega) rfl rfl) rfl ?_|refine AOps.p (La (m-1) 2 ((m-1)/2) rfl rfl (by omega) rfl (by omega) rfl rfl) rfl ?_)|refine WK ?_|refine Ai λX=>?_|refine Ay λY=>?_);refine Bq (λ(k:Nat) (u:Array Item)=>⟨[(0,.sl X 0 n),(3,.fn f cap),(8,iA a),(9,iA 0),(10,iA m),(11,iA ((k:Int)-1))],(X,.row 71 3 (u.toList.map (AD false)))::Sf⟩) (λk u=>k<=m/\u.size=d.size/\heapPop (AZ cf) a m (heapBuild (AZ cf) m a k u)=r) (λk _=>k) ((m-1)/2+1) d ⟨by omega,rfl,hr⟩ ?_ (h0:=by rw[show((((m-1)/2+1:Nat):Int)-1)=(((m-1)/2:Nat):Int) by omega];exact⟨by exact Lk.f,by exact Sub.f⟩);rintro k u ⟨hk,hu,hfold⟩;refine KK ?_;refine AWP.cond rfl (λhc=>?_) (λhc=>?_)
 ·obtain⟨q,rfl⟩:∃q,k=q+1:=⟨k-1,by have:=of_decide_eq_true hc;omega⟩
  rw[heapBuild]at hfold;have hs:=Nz f cap cf hst hcf X n u q m a (by omega) (by omega) (by omega) (by omega);have hsz:=Dx (AZ cf) m a _ q u (Nat.le_refl _);rw[show(((q+1:Nat):Int)-1)=(q:Int) by omega];refine KK ?_;refine AOps.g_callf ?_;refine IP (h:=(hs ..)) (k:=?_);(iterate 5 refine WK ?_);refine AOps.gN ?_;refine AOps.p (A9 ((q:Int)-1) (by omega) (by omega) rfl rfl) rfl ?_;refine KK ?_;exact BK q (siftDown (AZ cf) m a q u) ⟨by omega,by omega,hfold⟩
 ·obtain rfl:k=0:=by have:=of_decide_eq_false hc;omega
  rw[heapBuild]at hfold
  (iterate 4 refine WK ?_);refine AOps.gN ?_;refine AOps.p (A9 ((m:Int)-1) (by omega) (by omega) rfl rfl) rfl ?_;refine KK ?_
  clear hc hk;refine Bq (λ(k:Nat) (u:Array Item)=>⟨[(0,.sl X 0 n),(3,.fn f cap),(8,iA a),(9,iA 0),(10,iA m),(12,iA ((k:Int)-1))],(X,.row 71 3 (u.toList.map (AD false)))::Sf⟩) (λk u=>k<=m/\u.size=d.size/\heapPop (AZ cf) a k u=r) (λk _=>k) m u ⟨by omega,hu,hfold⟩ ?_;clear hfold hu;rintro k u ⟨hk,hu,hfold⟩;refine KK ?_;refine AWP.cond rfl (λhc=>?_) (λhc=>?_)
  ·obtain⟨q,rfl⟩:∃q,k=q+1:=⟨k-1,by have:=of_decide_eq_true hc;omega⟩
   rw[heapPop]at hfold;have h1:=BC (AD false) (d:=u) (i:=a) (by omega);have h2:=BC (AD false) (d:=u) (i:=a+q) (by omega);have hs:=Nz f cap cf hst hcf X n (swp u a (a+q)) 0 q a (by rw[size_swp];omega) (by rw[size_swp];omega) (by omega) (by rw[size_swp];omega);have hsz:=Dx (AZ cf) q a _ 0 (swp u a (a+q)) (Nat.le_refl _);rw[size_swp]at hsz;rw[show(((q+1:Nat):Int)-1)=(q:Int) by omega];obtain⟨y,hy⟩:=CN (AD false) (d:=u) (i:=a) (j:=a+q) (by omega) u[a+q]!;have hrow:=Cl (AD false) (d:=u) (i:=a) (j:=a+q) (by omega) (by omega);(repeat refine WF ?_);refine RU ?_;(iterate 5 refine RK ?_);refine RGo.gN ?_;refine RGo.go (h:=Bc (((a+q:Nat):Int)) (by omega) (by omega) rfl rfl) (k:=?_);(iterate 3 refine RK ?_);refine RGo.gN ?_;refine RGo.go (h:=Bc (((a+q:Nat):Int)) (by omega) (by omega) rfl rfl) (k:=?_);(iterate 9 refine RK ?_);refine RGo.gN ?_;refine RGo.s (W.store rfl rfl (by exact At.f) hy (by exact rfl)) rfl ?_;refine RGo.nil (by kernel_rfl) ?_;refine Nh [(0,.sl X 0 n),(3,.fn f cap),(8,iA a),(9,iA 0),(10,iA m),(12,iA q)] ((X,.row 71 3 ((swp u a (a+q)).toList.map (AD false)))::Sf) ?_ (h:=by rw[<-hrow];exact⟨by exact Lk.f,by exact Sub.f⟩);refine KK ?_;refine AOps.g_callf ?_;refine IP (h:=(hs ..)) (k:=?_);(iterate 5 refine WK ?_);refine AOps.gN ?_;refine AOps.p (A9 ((q:Int)-1) (by omega) (by omega) rfl rfl) rfl ?_;refine KK ?_;exact BK q (siftDown (AZ cf) q a 0 (swp u a (a+q))) ⟨by omega,by omega,hfold⟩
  ·obtain rfl:k=0:=by have:=of_decide_eq_false hc;omega
   rw[heapPop]at hfold;subst hfold;refine KK ?_;refine DU ?_;exact BN [(X,.row 71 3 (u.toList.map (AD false)))] ⟨rfl,rfl⟩
theorem Ul{f:FuncId}{cap:List AV}(X n:Nat)(d:Array Item)(a b:Nat)(hn:n=d.size)(hab:a<b)(hb:b<=d.size)(hz:d.size<=1099511627776):PO Tryz.prog 216 [.sl X 0 n,iA a,iA b,.fn f cap] X (.row 71 3 (d.toList.map (AD false))) (.tup []) (.row 71 3 ((reverseRange d a b).toList.map (AD false))):=by
 obtain⟨r,hr⟩:=nm (reverseRange d a b);rw[hr];unfold reverseRange at hr;refine Sp (nt:=34) (res:=[]) Tryz.func216 λSf=>?_
 (iterate 8 refine WK ?_);refine AOps.gN ?_;refine AOps.p (A9 (((b-1:Nat):Int)) (by omega) (by omega) rfl rfl) rfl ?_;refine KK ?_
 refine D4 (λ(i j:Nat) (u:Array Item)=>⟨[(0,.sl X 0 n),(8,iA i),(9,iA j)],(X,.row 71 3 (u.toList.map (AD false)))::Sf⟩) (λi j u=>i<=d.size/\j<d.size/\u.size=d.size/\reverseLoop i j u=r) (λi j _=>j-i) a (b-1) d ⟨by omega,by omega,rfl,hr⟩ ?_;rintro i j u ⟨hi,hj,hu,hfold⟩;rw[reverseLoop]at hfold;refine KK ?_;refine AWP.cond rfl (λhc=>?_) (λhc=>?_)
 ·have h:i<j:=by have:=of_decide_eq_true hc;omega
  rw[if_pos h]at hfold;have h1:=BC (AD false) (d:=u) (i:=i) (by omega);have h2:=BC (AD false) (d:=u) (i:=j) (by omega);obtain⟨y,hy⟩:=CN (AD false) (d:=u) (i:=i) (j:=j) (by omega) u[j]!;(repeat refine WF ?_);refine RU ?_;(iterate 15 refine RK ?_);refine RGo.gN ?_;refine RGo.s (W.store rfl rfl (by exact At.f) hy (by exact rfl)) rfl ?_;refine RGo.nil (by kernel_rfl) ?_
  (iterate 9 refine WK ?_);refine AOps.gN ?_;refine AOps.p (A9 (((j-1:Nat):Int)) (by omega) (by omega) rfl rfl) rfl ?_;refine KK ?_
  refine CW (i+1) (j-1) (swp u i j) ⟨by omega,by omega,by rw[size_swp];exact hu,hfold⟩ (h0:=by rw[<-Cl (AD false) (by omega) (by omega)];exact⟨by exact Lk.f,by exact Sub.f⟩)
 ·have h:¬i<j:=by have:=of_decide_eq_false hc;omega
  rw[if_neg h]at hfold;subst hfold;refine KK ?_;refine DU ?_;exact BN [(X,.row 71 3 (u.toList.map (AD false)))] ⟨rfl,rfl⟩
end
section
open Go.Sort
theorem HR(p:Item->Bool)(d:Array Item)(j i:Nat):scanUp p d j i<=max i (j+1):=by
 obtain⟨m,hm⟩:=nm (j+1-i)
 induction m generalizing i with
 |zero=>rw[scanUp,if_neg (λe=>by rw[Bool.and_eq_true]at e;have:=of_decide_eq_true e.1;omega)];omega
 |succ m ih=>
  rw[scanUp];split
  ·have:=ih (i+1) (by omega)
   omega
  ·omega
theorem Ur(f:FuncId)(cap:List AV)(cf:Item->Item->Int)(hst:B6 cap=true)(hcf:∀x y,PS Tryz.prog f ((AD false) x::(AD false) y::cap) (iA (cf x y)))(X n:Nat)(d:Array Item)(a b pivot:Nat)(hn:n=d.size)(ha:a<=pivot)(hp:pivot<b)(hb:b<=d.size)(hz:d.size<=1099511627776):PO Tryz.prog 218 [.sl X 0 n,iA a,iA b,iA pivot,.fn f cap] X (.row 71 3 (d.toList.map (AD false))) (iA (partitionEqual (AZ cf) d a b pivot).1) (.row 71 3 ((partitionEqual (AZ cf) d a b pivot).2.toList.map (AD false))):=by
 obtain⟨r,hr⟩:=nm (partitionEqual (AZ cf) d a b pivot);rw[hr];unfold partitionEqual at hr;refine Sp (nt:=90) (res:=[.tmp 10]) Tryz.func218 λSf=>?_
 have h1:=BC (AD false) (d:=d) (i:=a) (by omega);have h2:=BC (AD false) (d:=d) (i:=pivot) (by omega);obtain⟨y,hy⟩:=CN (AD false) (d:=d) (i:=a) (j:=pivot) (by omega) d[pivot]!;refine R1 ?_;refine RU ?_;(iterate 15 refine RK ?_);refine RGo.gN ?_;refine RGo.s (W.store rfl rfl (by exact At.f) hy (by exact rfl)) rfl ?_;refine RGo.nil (by kernel_rfl) ?_
 (iterate 5 refine WK ?_);refine AOps.gN ?_;refine AOps.p (A9 (((b-1:Nat):Int)) (by omega) (by omega) rfl rfl) rfl ?_;refine KK ?_
 refine D4 (λ(i j:Nat) (u:Array Item)=>⟨[(0,.sl X 0 n),(1,iA a),(4,.fn f cap),(11,iA i),(12,iA j)],(X,.row 71 3 (u.toList.map (AD false)))::Sf⟩) (λi j u=>a<i/\i<=j+2/\j<b/\u.size=d.size/\partEqLoop (AZ cf) a i j u=r) (λi j _=>j+1-i) (a+1) (b-1) (swp d a pivot) ⟨by omega,by omega,by omega,by rw[size_swp],hr⟩ ?_ (h0:=by rw[<-Cl (AD false) (by omega) (by omega)];exact⟨by exact Lk.f,by exact Sub.f⟩);rintro i j u ⟨hai,hij,hjb,hu,hfold⟩;rw[partEqLoop_eq]at hfold;obtain⟨i2,hi2⟩:=nm (scanUp (λx=>!(AZ cf) u[a]! x) u j i);rw[hi2]at hfold;obtain⟨j2,hj2⟩:=nm (scanDown (λx=>(AZ cf) u[a]! x) u i2 j);rw[hj2]at hfold;have hge:=scanUp_ge (λx=>!(AZ cf) u[a]! x) u j i;have hle:=scanDown_le (λx=>(AZ cf) u[a]! x) u i2 j;rw[hi2]at hge;rw[hj2]at hle;have hge2:i2<=max i (j+1):=by rw[<-hi2];exact HR _ _ _ _
 refine AWP.block ?_
 (repeat (first|refine AWP.skip ?_|refine CT ?_|refine AWP.seq ?_))
 refine Bl (λk:Nat=>k=i2) (λk=>⟨[(0,.sl X 0 n),(1,iA a),(4,.fn f cap),(11,iA k),(12,iA j)],(X,.row 71 3 (u.toList.map (AD false)))::Sf⟩) ?_ ?_
 ·refine AWP.block ?_
  refine Az (λ(k:Nat)=>⟨[(0,.sl X 0 n),(1,iA a),(4,.fn f cap),(11,iA k),(12,iA j)],(X,.row 71 3 (u.toList.map (AD false)))::Sf⟩) (λk=>i<=k/\k<=max i (j+1)/\scanUp (λx=>!(AZ cf) u[a]! x) u j k=i2) (λk=>j+1-k) i ⟨Nat.le_refl _,by omega,hi2⟩ ?_;rintro k ⟨hk1,hk2,hk⟩;rw[scanUp]at hk;rcases Bool.eq_false_or_eq_true (decide ((k:Int)<=(j:Int)))with g|g
  ·have hg:k<=j:=by have:=of_decide_eq_true g;omega
   have h1:=BC (AD false) (d:=u) (i:=k) (by omega);have h2:=BC (AD false) (d:=u) (i:=a) (by omega);have hl:=hcf (u[a]!) (u[k]!);(repeat refine WF ?_);refine JM ?_;refine RGo.g_callv ?_;refine RGo.k2 (h:=(hl ..)) (k:=?_);(iterate 3 refine RK ?_);refine RGo.nil (by kernel_rfl) ?_;(repeat refine WF ?_);refine AWP.cond rfl (λhd=>?_) (λhd=>?_)
   ·have hd:(!(AZ cf) u[a]! u[k]!)=true:=by simpa[g,AZ]using hd
    rw[if_pos (by rw[Bool.and_eq_true];exact⟨Ah (by omega),hd⟩)]at hk;refine KK ?_;exact Ab (k+1) ⟨by omega,by omega,hk⟩
   ·have hd:(!(AZ cf) u[a]! u[k]!)=false:=by simpa[g,AZ]using hd
    rw[if_neg (λe=>by rw[Bool.and_eq_true]at e;have e2:=e.2;rw[hd]at e2;cases e2)]at hk;refine KK ?_;exact jn k hk
  ·have hg:¬k<=j:=by have:=of_decide_eq_false g;omega
   rw[if_neg (λe=>by rw[Bool.and_eq_true]at e;have:=of_decide_eq_true e.1;omega)]at hk;(repeat refine WF ?_);refine RU ?_;(iterate 17 refine RK ?_);refine RGo.nil (by kernel_rfl) ?_;(repeat refine WF ?_);refine AA rfl (by simp[g]) ?_;refine KK ?_;exact jn k hk
 rintro k hk0;rw[hk0];clear hk0 k
 (repeat (first|refine AWP.skip ?_|refine CT ?_|refine AWP.seq ?_))
 refine Bl (λk:Nat=>k=j2) (λk=>⟨[(0,.sl X 0 n),(1,iA a),(4,.fn f cap),(11,iA i2),(12,iA k)],(X,.row 71 3 (u.toList.map (AD false)))::Sf⟩) ?_ ?_
 ·refine AWP.block ?_
  refine Az (λ(k:Nat)=>⟨[(0,.sl X 0 n),(1,iA a),(4,.fn f cap),(11,iA i2),(12,iA k)],(X,.row 71 3 (u.toList.map (AD false)))::Sf⟩) (λk=>k<=j/\scanDown (λx=>(AZ cf) u[a]! x) u i2 k=j2) (λk=>k) j ⟨Nat.le_refl _,hj2⟩ ?_;rintro k ⟨hk1,hk⟩;rcases Bool.eq_false_or_eq_true (decide ((i2:Int)<=(k:Int)))with g|g
  ·have hg:i2<=k:=by have:=of_decide_eq_true g;omega
   obtain⟨q,rfl⟩:∃q,k=q+1:=⟨k-1,by omega⟩;rw[scanDown]at hk;have h1:=BC (AD false) (d:=u) (i:=q+1) (by omega);have h2:=BC (AD false) (d:=u) (i:=a) (by omega);have hl:=hcf (u[a]!) (u[q+1]!);(repeat refine WF ?_);refine JM ?_;refine RGo.g_callv ?_;refine RGo.k2 (h:=(hl ..)) (k:=?_);refine JH ?_;refine RGo.nil (by kernel_rfl) ?_;(repeat refine WF ?_);refine AWP.cond rfl (λhd=>?_) (λhd=>?_)
   ·have hd:((AZ cf) u[a]! u[q+1]!)=true:=by simpa[g,AZ]using hd
    rw[if_pos (by rw[Bool.and_eq_true];exact⟨Ah (by omega),hd⟩)]at hk
    (iterate 4 refine WK ?_);refine AOps.gN ?_;refine AOps.p (A9 ((q:Int)) (by omega) (by omega) rfl rfl) rfl ?_;refine KK ?_
    exact Ab q ⟨by omega,hk⟩
   ·have hd:((AZ cf) u[a]! u[q+1]!)=false:=by simpa[g,AZ]using hd
    rw[if_neg (λe=>by rw[Bool.and_eq_true]at e;have e2:=e.2;rw[hd]at e2;cases e2)]at hk;refine KK ?_;exact jn (q+1) hk
  ·have hg:¬i2<=k:=by have:=of_decide_eq_false g;omega
   have hk3:scanDown (λx=>(AZ cf) u[a]! x) u i2 k=k:=by
    cases k with
    |zero=>rfl
    |succ q=>rw[scanDown,if_neg (λe=>by rw[Bool.and_eq_true]at e;have:=of_decide_eq_true e.1;omega)]
   rw[hk3]at hk;(repeat refine WF ?_);refine RU ?_;(iterate 16 refine RK ?_);refine RGo.nil (by kernel_rfl) ?_;(repeat refine WF ?_);refine AA rfl (by simp[g]) ?_;refine KK ?_;exact jn k hk
 rintro k hk0;rw[hk0];clear hk0 k;refine KK ?_;refine AWP.cond rfl (λhc=>?_) (λhc=>?_)
 ·have h:i2>j2:=by have:=of_decide_eq_true hc;omega
  rw[if_pos h]at hfold;subst hfold;refine JA ?_;exact Ends.sp [iA i2] [(X,_)] ⟨rfl,rfl⟩
 ·have h:¬i2>j2:=by have:=of_decide_eq_false hc;omega
  rw[if_neg h]at hfold;have h1:=BC (AD false) (d:=u) (i:=i2) (by omega);have h2:=BC (AD false) (d:=u) (i:=j2) (by omega);obtain⟨y,hy⟩:=CN (AD false) (d:=u) (i:=i2) (j:=j2) (by omega) u[j2]!;(repeat refine WF ?_);refine RU ?_;(iterate 15 refine RK ?_);refine RGo.gN ?_;refine RGo.s (W.store rfl rfl (by exact At.f) hy (by exact rfl)) rfl ?_;refine RGo.nil (by kernel_rfl) ?_
  (iterate 9 refine WK ?_);refine AOps.gN ?_;refine AOps.p (A9 (((j2-1:Nat):Int)) (by omega) (by omega) rfl rfl) rfl ?_;refine KK ?_
  refine CW (i2+1) (j2-1) (swp u i2 j2) ⟨by omega,by omega,by omega,by rw[size_swp];exact hu,hfold⟩ (h0:=by rw[<-Cl (AD false) (by omega) (by omega)];exact⟨by exact Lk.f,by exact Sub.f⟩)
theorem TA(f:FuncId)(cap:List AV)(cf:Item->Item->Int)(hst:B6 cap=true)(hcf:∀x y,PS Tryz.prog f ((AD false) x::(AD false) y::cap) (iA (cf x y)))(X n:Nat)(d:Array Item)(a b pivot:Nat)(hn:n=d.size)(ha:a<=pivot)(hp:pivot<b)(hb:b<=d.size)(hz:d.size<=1099511627776):PO Tryz.prog 219 [.sl X 0 n,iA a,iA b,iA pivot,.fn f cap] X (.row 71 3 (d.toList.map (AD false))) (.tup [iA (partition (AZ cf) d a b pivot).1,bA (partition (AZ cf) d a b pivot).2.1]) (.row 71 3 ((partition (AZ cf) d a b pivot).2.2.toList.map (AD false))):=by
 obtain⟨r,hr⟩:=nm (partition (AZ cf) d a b pivot);rw[hr];dsimp only[partition]at hr;refine Sp (nt:=178) (res:=[.tmp 10,.tmp 11]) Tryz.func219 λSf=>?_
 have h1:=BC (AD false) (d:=d) (i:=a) (by omega);have h2:=BC (AD false) (d:=d) (i:=pivot) (by omega);have hrow:=Cl (AD false) (d:=d) (i:=a) (j:=pivot) (by omega) (by omega);obtain⟨y,hy⟩:=CN (AD false) (d:=d) (i:=a) (j:=pivot) (by omega) d[pivot]!;refine R1 ?_;refine RU ?_;(iterate 15 refine RK ?_);refine RGo.gN ?_;refine RGo.s (W.store rfl rfl (by exact At.f) hy (by exact rfl)) rfl ?_;refine RGo.nil (by kernel_rfl) ?_;have hsz:(swp d a pivot).size=d.size:=size_swp _ _ _;obtain⟨u,hu0⟩:=nm (swp d a pivot);rw[hu0]at hr hrow hsz;obtain⟨j,hj⟩:=nm (b-1);obtain⟨i,hi⟩:=nm (a+1);rw[hj,hi]at hr;refine JF ?_;refine AOps.gN ?_;refine AOps.p (Bc (((i:Nat):Int)) (by omega) (by omega) rfl rfl) rfl ?_;refine WO ?_;refine AOps.gN ?_;refine AOps.p (A9 ((j:Int)) (by omega) (by omega) rfl rfl) rfl ?_;refine JE ?_
 (repeat (first|refine AWP.skip ?_|refine CT ?_|refine AWP.seq ?_))
 refine Nh [(0,.sl X 0 n),(1,iA a),(4,.fn f cap),(12,iA i),(13,iA j)] ((X,.row 71 3 (u.toList.map (AD false)))::Sf) ?_ (h:=by rw[<-hrow];exact⟨by exact Lk.f,by exact Sub.f⟩);have hu:u.size=d.size:=hsz;have hfold:=hr;obtain⟨i2,hi2⟩:=nm (scanUp (λx=>(AZ cf) x u[a]!) u j i);rw[hi2]at hfold;obtain⟨j2,hj2⟩:=nm (scanDown (λx=>!(AZ cf) x u[a]!) u i2 j);rw[hj2]at hfold;have hge:=scanUp_ge (λx=>(AZ cf) x u[a]!) u j i;have hle:=scanDown_le (λx=>!(AZ cf) x u[a]!) u i2 j;rw[hi2]at hge;rw[hj2]at hle;have hge2:i2<=max i (j+1):=by rw[<-hi2];exact HR _ _ _ _
 refine Bl (λk:Nat=>k=i2) (λk=>⟨[(0,.sl X 0 n),(1,iA a),(4,.fn f cap),(12,iA k),(13,iA j)],(X,.row 71 3 (u.toList.map (AD false)))::Sf⟩) ?_ ?_
 ·refine AWP.block ?_
  refine Az (λ(k:Nat)=>⟨[(0,.sl X 0 n),(1,iA a),(4,.fn f cap),(12,iA k),(13,iA j)],(X,.row 71 3 (u.toList.map (AD false)))::Sf⟩) (λk=>i<=k/\k<=max i (j+1)/\scanUp (λx=>(AZ cf) x u[a]!) u j k=i2) (λk=>j+1-k) i ⟨Nat.le_refl _,by omega,hi2⟩ ?_;rintro k ⟨hk1,hk2,hk⟩;rw[scanUp]at hk;rcases Bool.eq_false_or_eq_true (decide ((k:Int)<=(j:Int)))with g|g
  ·have hg:k<=j:=by have:=of_decide_eq_true g;omega
   have h1:=BC (AD false) (d:=u) (i:=k) (by omega);have h2:=BC (AD false) (d:=u) (i:=a) (by omega);have hl:=hcf (u[k]!) (u[a]!);(repeat refine WF ?_);refine JM ?_;refine RGo.g_callv ?_;refine RGo.k2 (h:=(hl ..)) (k:=?_);refine JH ?_;refine RGo.nil (by kernel_rfl) ?_;(repeat refine WF ?_);refine AWP.cond rfl (λhd=>?_) (λhd=>?_)
   ·have hd:((AZ cf) u[k]! u[a]!)=true:=by simpa[g,AZ]using hd
    rw[if_pos (by rw[Bool.and_eq_true];exact⟨Ah (by omega),hd⟩)]at hk;refine KK ?_;exact Ab (k+1) ⟨by omega,by omega,hk⟩
   ·have hd:((AZ cf) u[k]! u[a]!)=false:=by simpa[g,AZ]using hd
    rw[if_neg (λe=>by rw[Bool.and_eq_true]at e;have e2:=e.2;rw[hd]at e2;cases e2)]at hk;refine KK ?_;exact jn k hk
  ·have hg:¬k<=j:=by have:=of_decide_eq_false g;omega
   rw[if_neg (λe=>by rw[Bool.and_eq_true]at e;have:=of_decide_eq_true e.1;omega)]at hk;(repeat refine WF ?_);refine RU ?_;(iterate 16 refine RK ?_);refine RGo.nil (by kernel_rfl) ?_;(repeat refine WF ?_);refine AA rfl (by simp[g]) ?_;refine KK ?_;exact jn k hk
 rintro k hk0;rw[hk0];clear hk0 k
 (repeat (first|refine AWP.skip ?_|refine CT ?_|refine AWP.seq ?_))
 refine Bl (λk:Nat=>k=j2) (λk=>⟨[(0,.sl X 0 n),(1,iA a),(4,.fn f cap),(12,iA i2),(13,iA k)],(X,.row 71 3 (u.toList.map (AD false)))::Sf⟩) ?_ ?_
 ·refine AWP.block ?_
  refine Az (λ(k:Nat)=>⟨[(0,.sl X 0 n),(1,iA a),(4,.fn f cap),(12,iA i2),(13,iA k)],(X,.row 71 3 (u.toList.map (AD false)))::Sf⟩) (λk=>k<=j/\scanDown (λx=>!(AZ cf) x u[a]!) u i2 k=j2) (λk=>k) j ⟨Nat.le_refl _,hj2⟩ ?_;rintro k ⟨hk1,hk⟩;rcases Bool.eq_false_or_eq_true (decide ((i2:Int)<=(k:Int)))with g|g
  ·have hg:i2<=k:=by have:=of_decide_eq_true g;omega
   obtain⟨q,rfl⟩:∃q,k=q+1:=⟨k-1,by omega⟩;rw[scanDown]at hk;have h1:=BC (AD false) (d:=u) (i:=q+1) (by omega);have h2:=BC (AD false) (d:=u) (i:=a) (by omega);have hl:=hcf (u[q+1]!) (u[a]!);(repeat refine WF ?_);refine JM ?_;refine RGo.g_callv ?_;refine RGo.k2 (h:=(hl ..)) (k:=?_);(iterate 3 refine RK ?_);refine RGo.nil (by kernel_rfl) ?_;(repeat refine WF ?_);refine AWP.cond rfl (λhd=>?_) (λhd=>?_)
   ·have hd:(!(AZ cf) u[q+1]! u[a]!)=true:=by simpa[g,AZ]using hd
    rw[if_pos (by rw[Bool.and_eq_true];exact⟨Ah (by omega),hd⟩)]at hk
    (iterate 4 refine WK ?_);refine AOps.gN ?_;refine AOps.p (A9 ((q:Int)) (by omega) (by omega) rfl rfl) rfl ?_;refine KK ?_
    exact Ab q ⟨by omega,hk⟩
   ·have hd:(!(AZ cf) u[q+1]! u[a]!)=false:=by simpa[g,AZ]using hd
    rw[if_neg (λe=>by rw[Bool.and_eq_true]at e;have e2:=e.2;rw[hd]at e2;cases e2)]at hk;refine KK ?_;exact jn (q+1) hk
  ·have hg:¬i2<=k:=by have:=of_decide_eq_false g;omega
   have hk3:scanDown (λx=>!(AZ cf) x u[a]!) u i2 k=k:=by
    cases k with
    |zero=>rfl
    |succ q=>rw[scanDown,if_neg (λe=>by rw[Bool.and_eq_true]at e;have:=of_decide_eq_true e.1;omega)]
   rw[hk3]at hk;(repeat refine WF ?_);refine RU ?_;(iterate 17 refine RK ?_);refine RGo.nil (by kernel_rfl) ?_;(repeat refine WF ?_);refine AA rfl (by simp[g]) ?_;refine KK ?_;exact jn k hk
 rintro k hk0;rw[hk0];clear hk0 k;refine KK ?_;refine AWP.cond rfl (λhc=>?_) (λhc=>?_)
 ·have h:i2>j2:=by have:=of_decide_eq_true hc;omega
  rw[if_pos h]at hfold;subst hfold;have h1:=BC (AD false) (d:=u) (i:=j2) (by omega);have h2:=BC (AD false) (d:=u) (i:=a) (by omega);have hrow2:=Cl (AD false) (d:=u) (i:=j2) (j:=a) (by omega) (by omega);obtain⟨y,hy⟩:=CN (AD false) (d:=u) (i:=j2) (j:=a) (by omega) u[a]!;(repeat refine WF ?_);refine RU ?_;(iterate 15 refine RK ?_);refine RGo.gN ?_;refine RGo.s (W.store rfl rfl (by exact At.f) hy (by exact rfl)) rfl ?_;refine RGo.nil (by kernel_rfl) ?_;refine JA ?_;exact Ends.sp [iA j2,bA true] [(X,_)] ⟨rfl,by rw[<-hrow2]⟩
 have h:¬i2>j2:=by have:=of_decide_eq_false hc;omega
 rw[if_neg h]at hfold;obtain⟨pr,hpr⟩:=nm (partLoop (AZ cf) a (i2+1) (j2-1) (swp u i2 j2));rw[hpr]at hfold;have h1:=BC (AD false) (d:=u) (i:=i2) (by omega);have h2:=BC (AD false) (d:=u) (i:=j2) (by omega);clear y hy;obtain⟨y,hy⟩:=CN (AD false) (d:=u) (i:=i2) (j:=j2) (by omega) u[j2]!;(repeat refine WF ?_);refine RU ?_;(iterate 15 refine RK ?_);refine RGo.gN ?_;refine RGo.s (W.store rfl rfl (by exact At.f) hy (by exact rfl)) rfl ?_;refine RGo.nil (by kernel_rfl) ?_
 (iterate 9 refine WK ?_);refine AOps.gN ?_;refine AOps.p (A9 (((j2-1:Nat):Int)) (by omega) (by omega) rfl rfl) rfl ?_;refine KK ?_
 refine D4 (λ(i j:Nat) (u:Array Item)=>⟨[(0,.sl X 0 n),(1,iA a),(4,.fn f cap),(12,iA i),(13,iA j)],(X,.row 71 3 (u.toList.map (AD false)))::Sf⟩) (λi j u=>a<i/\i<=j+2/\j<b/\u.size=d.size/\partLoop (AZ cf) a i j u=pr) (λi j _=>j+1-i) (i2+1) (j2-1) (swp u i2 j2) ⟨by omega,by omega,by omega,by rw[size_swp];exact hu,hpr⟩ ?_ (h0:=by rw[<-Cl (AD false) (by omega) (by omega)];exact⟨by exact Lk.f,by exact Sub.f⟩);subst hfold;clear hc h h1 h2 hpr hi2 hj2 hge hle hge2 hr hrow hu0 hu hsz hi hj hy y i2 j2 i j u;rintro i j u ⟨hai,hij,hjb,hu,hfold⟩;rw[partLoop_eq]at hfold;obtain⟨i2,hi2⟩:=nm (scanUp (λx=>(AZ cf) x u[a]!) u j i);rw[hi2]at hfold;obtain⟨j2,hj2⟩:=nm (scanDown (λx=>!(AZ cf) x u[a]!) u i2 j);rw[hj2]at hfold;have hge:=scanUp_ge (λx=>(AZ cf) x u[a]!) u j i;have hle:=scanDown_le (λx=>!(AZ cf) x u[a]!) u i2 j;rw[hi2]at hge;rw[hj2]at hle;have hge2:i2<=max i (j+1):=by rw[<-hi2];exact HR _ _ _ _
 refine AWP.block ?_
 (repeat (first|refine AWP.skip ?_|refine CT ?_|refine AWP.seq ?_))
 refine Bl (λk:Nat=>k=i2) (λk=>⟨[(0,.sl X 0 n),(1,iA a),(4,.fn f cap),(12,iA k),(13,iA j)],(X,.row 71 3 (u.toList.map (AD false)))::Sf⟩) ?_ ?_
 ·refine AWP.block ?_
  refine Az (λ(k:Nat)=>⟨[(0,.sl X 0 n),(1,iA a),(4,.fn f cap),(12,iA k),(13,iA j)],(X,.row 71 3 (u.toList.map (AD false)))::Sf⟩) (λk=>i<=k/\k<=max i (j+1)/\scanUp (λx=>(AZ cf) x u[a]!) u j k=i2) (λk=>j+1-k) i ⟨Nat.le_refl _,by omega,hi2⟩ ?_;rintro k ⟨hk1,hk2,hk⟩;rw[scanUp]at hk;rcases Bool.eq_false_or_eq_true (decide ((k:Int)<=(j:Int)))with g|g
  ·have hg:k<=j:=by have:=of_decide_eq_true g;omega
   have h1:=BC (AD false) (d:=u) (i:=k) (by omega);have h2:=BC (AD false) (d:=u) (i:=a) (by omega);have hl:=hcf (u[k]!) (u[a]!);(repeat refine WF ?_);refine JM ?_;refine RGo.g_callv ?_;refine RGo.k2 (h:=(hl ..)) (k:=?_);refine JH ?_;refine RGo.nil (by kernel_rfl) ?_;(repeat refine WF ?_);refine AWP.cond rfl (λhd=>?_) (λhd=>?_)
   ·have hd:((AZ cf) u[k]! u[a]!)=true:=by simpa[g,AZ]using hd
    rw[if_pos (by rw[Bool.and_eq_true];exact⟨Ah (by omega),hd⟩)]at hk;refine KK ?_;exact Ab (k+1) ⟨by omega,by omega,hk⟩
   ·have hd:((AZ cf) u[k]! u[a]!)=false:=by simpa[g,AZ]using hd
    rw[if_neg (λe=>by rw[Bool.and_eq_true]at e;have e2:=e.2;rw[hd]at e2;cases e2)]at hk;refine KK ?_;exact jn k hk
  ·have hg:¬k<=j:=by have:=of_decide_eq_false g;omega
   rw[if_neg (λe=>by rw[Bool.and_eq_true]at e;have:=of_decide_eq_true e.1;omega)]at hk;(repeat refine WF ?_);refine RU ?_;(iterate 16 refine RK ?_);refine RGo.nil (by kernel_rfl) ?_;(repeat refine WF ?_);refine AA rfl (by simp[g]) ?_;refine KK ?_;exact jn k hk
 rintro k hk0;rw[hk0];clear hk0 k
 (repeat (first|refine AWP.skip ?_|refine CT ?_|refine AWP.seq ?_))
 refine Bl (λk:Nat=>k=j2) (λk=>⟨[(0,.sl X 0 n),(1,iA a),(4,.fn f cap),(12,iA i2),(13,iA k)],(X,.row 71 3 (u.toList.map (AD false)))::Sf⟩) ?_ ?_
 ·refine AWP.block ?_
  refine Az (λ(k:Nat)=>⟨[(0,.sl X 0 n),(1,iA a),(4,.fn f cap),(12,iA i2),(13,iA k)],(X,.row 71 3 (u.toList.map (AD false)))::Sf⟩) (λk=>k<=j/\scanDown (λx=>!(AZ cf) x u[a]!) u i2 k=j2) (λk=>k) j ⟨Nat.le_refl _,hj2⟩ ?_;rintro k ⟨hk1,hk⟩;rcases Bool.eq_false_or_eq_true (decide ((i2:Int)<=(k:Int)))with g|g
  ·have hg:i2<=k:=by have:=of_decide_eq_true g;omega
   obtain⟨q,rfl⟩:∃q,k=q+1:=⟨k-1,by omega⟩;rw[scanDown]at hk;have h1:=BC (AD false) (d:=u) (i:=q+1) (by omega);have h2:=BC (AD false) (d:=u) (i:=a) (by omega);have hl:=hcf (u[q+1]!) (u[a]!);(repeat refine WF ?_);refine JM ?_;refine RGo.g_callv ?_;refine RGo.k2 (h:=(hl ..)) (k:=?_);(iterate 3 refine RK ?_);refine RGo.nil (by kernel_rfl) ?_;(repeat refine WF ?_);refine AWP.cond rfl (λhd=>?_) (λhd=>?_)
   ·have hd:(!(AZ cf) u[q+1]! u[a]!)=true:=by simpa[g,AZ]using hd
    rw[if_pos (by rw[Bool.and_eq_true];exact⟨Ah (by omega),hd⟩)]at hk
    (iterate 4 refine WK ?_);refine AOps.gN ?_;refine AOps.p (A9 ((q:Int)) (by omega) (by omega) rfl rfl) rfl ?_;refine KK ?_
    exact Ab q ⟨by omega,hk⟩
   ·have hd:(!(AZ cf) u[q+1]! u[a]!)=false:=by simpa[g,AZ]using hd
    rw[if_neg (λe=>by rw[Bool.and_eq_true]at e;have e2:=e.2;rw[hd]at e2;cases e2)]at hk;refine KK ?_;exact jn (q+1) hk
  ·have hg:¬i2<=k:=by have:=of_decide_eq_false g;omega
   have hk3:scanDown (λx=>!(AZ cf) x u[a]!) u i2 k=k:=by
    cases k with
    |zero=>rfl
    |succ q=>rw[scanDown,if_neg (λe=>by rw[Bool.and_eq_true]at e;have:=of_decide_eq_true e.1;omega)]
   rw[hk3]at hk;(repeat refine WF ?_);refine RU ?_;(iterate 17 refine RK ?_);refine RGo.nil (by kernel_rfl) ?_;(repeat refine WF ?_);refine AA rfl (by simp[g]) ?_;refine KK ?_;exact jn k hk
 rintro k hk0;rw[hk0];clear hk0 k;refine KK ?_;refine AWP.cond rfl (λhc=>?_) (λhc=>?_)
 ·have h:i2>j2:=by have:=of_decide_eq_true hc;omega
  rw[if_pos h]at hfold;subst hfold;have h1:=BC (AD false) (d:=u) (i:=j2) (by omega);have h2:=BC (AD false) (d:=u) (i:=a) (by omega);have hrow2:=Cl (AD false) (d:=u) (i:=j2) (j:=a) (by omega) (by omega);obtain⟨y,hy⟩:=CN (AD false) (d:=u) (i:=j2) (j:=a) (by omega) u[a]!;(repeat refine WF ?_);refine RU ?_;(iterate 15 refine RK ?_);refine RGo.gN ?_;refine RGo.s (W.store rfl rfl (by exact At.f) hy (by exact rfl)) rfl ?_;refine RGo.nil (by kernel_rfl) ?_;refine JA ?_;exact Ends.sp [iA j2,bA false] [(X,_)] ⟨rfl,by rw[<-hrow2]⟩
 ·have h:¬i2>j2:=by have:=of_decide_eq_false hc;omega
  rw[if_neg h]at hfold;have h1:=BC (AD false) (d:=u) (i:=i2) (by omega);have h2:=BC (AD false) (d:=u) (i:=j2) (by omega);obtain⟨y,hy⟩:=CN (AD false) (d:=u) (i:=i2) (j:=j2) (by omega) u[j2]!;(repeat refine WF ?_);refine RU ?_;(iterate 15 refine RK ?_);refine RGo.gN ?_;refine RGo.s (W.store rfl rfl (by exact At.f) hy (by exact rfl)) rfl ?_;refine RGo.nil (by kernel_rfl) ?_
  (iterate 9 refine WK ?_);refine AOps.gN ?_;refine AOps.p (A9 (((j2-1:Nat):Int)) (by omega) (by omega) rfl rfl) rfl ?_;refine KK ?_
  refine CW (i2+1) (j2-1) (swp u i2 j2) ⟨by omega,by omega,by omega,by rw[size_swp];exact hu,hfold⟩ (h0:=by rw[<-Cl (AD false) (by omega) (by omega)];exact⟨by exact Lk.f,by exact Sub.f⟩)
end
section
open Go.Sort
theorem JY(lt:Item->Item->Bool)(d:Array Item)(b i:Nat):i<=scanSorted lt d b i/\scanSorted lt d b i<=max i b:=by
 obtain⟨m,hm⟩:=nm (b-i)
 induction m generalizing i with
 |zero=>rw[scanSorted,if_neg (λe=>by rw[Bool.and_eq_true]at e;have:=of_decide_eq_true e.1;omega)];omega
 |succ m ih=>
  rw[scanSorted];split
  ·have:=ih (i+1) (by omega)
   omega
  ·omega
theorem S7(f:FuncId)(cap:List AV)(cf:Item->Item->Int)(hst:B6 cap=true)(hcf:∀x y,PS Tryz.prog f ((AD false) x::(AD false) y::cap) (iA (cf x y)))(X n:Nat)(d:Array Item)(a b:Nat)(hn:n=d.size)(hab:a<b)(hb:b<=d.size)(hz:d.size<=1099511627776):PO Tryz.prog 217 [.sl X 0 n,iA a,iA b,.fn f cap] X (.row 71 3 (d.toList.map (AD false))) (bA (partialInsertionSort (AZ cf) d a b).2) (.row 71 3 ((partialInsertionSort (AZ cf) d a b).1.toList.map (AD false))):=by
 obtain⟨r,hr⟩:=nm (partialInsertionSort (AZ cf) d a b);rw[hr];unfold partialInsertionSort at hr;refine Sp (nt:=141) (res:=[.tmp 8]) Tryz.func217 λSf=>?_
 (iterate 7 refine WK ?_);refine AOps.gN ?_;refine AOps.p (Bc (((a+1:Nat):Int)) (by omega) (by omega) rfl rfl) rfl ?_;refine KK ?_
 refine D4 (λ(c i:Nat) (u:Array Item)=>⟨[(0,.sl X 0 n),(1,iA a),(2,iA b),(3,.fn f cap),(9,iA i),(10,iA c)],(X,.row 71 3 (u.toList.map (AD false)))::Sf⟩) (λc i u=>c<=5/\a<i/\i<=b/\u.size=d.size/\partialIns (AZ cf) a b (5-c) i u=r) (λc _ _=>5-c) 0 (a+1) d ⟨by omega,by omega,by omega,rfl,hr⟩ ?_;rintro c i u ⟨hc5,hai,hib,hu,hfold⟩;refine KK ?_;refine AWP.cond rfl (λhc=>?_) (λhc=>?_)
 ·have h:c<5:=by have:=of_decide_eq_true hc;omega
  obtain⟨s,hs⟩:∃s,5-c=s+1:=⟨4-c,by omega⟩;rw[hs,partialIns_succ]at hfold;obtain⟨i2,hi2⟩:=nm (scanSorted (AZ cf) u b i);rw[hi2]at hfold;have hrg:=JY (AZ cf) u b i;rw[hi2]at hrg
  (repeat (first|refine AWP.skip ?_|refine CT ?_|refine AWP.seq ?_))
  refine AWP.block ?_
  (repeat (first|refine AWP.skip ?_|refine CT ?_|refine AWP.seq ?_))
  refine Bl (λk:Nat=>k=i2) (λk=>⟨[(0,.sl X 0 n),(1,iA a),(2,iA b),(3,.fn f cap),(9,iA k),(10,iA c)],(X,.row 71 3 (u.toList.map (AD false)))::Sf⟩) ?_ ?_
  ·refine AWP.block ?_
   refine Az (λ(k:Nat)=>⟨[(0,.sl X 0 n),(1,iA a),(2,iA b),(3,.fn f cap),(9,iA k),(10,iA c)],(X,.row 71 3 (u.toList.map (AD false)))::Sf⟩) (λk=>i<=k/\k<=b/\scanSorted (AZ cf) u b k=i2) (λk=>b-k) i ⟨Nat.le_refl _,hib,hi2⟩ ?_;rintro k ⟨hk1,hk2,hk⟩;rw[scanSorted]at hk;rcases Bool.eq_false_or_eq_true (decide ((k:Int)<(b:Int)))with g|g
   ·have hg:k<b:=by have:=of_decide_eq_true g;omega
    have h1:=BC (AD false) (d:=u) (i:=k) (by omega);have h2:=BC (AD false) (d:=u) (i:=k-1) (by omega);have hl:=hcf (u[k]!) (u[k-1]!);(repeat refine WF ?_);refine RU ?_;(iterate 11 refine RK ?_);refine RGo.gQ ?_;refine RGo.go (h:=A9 (((k-1:Nat):Int)) (by omega) (by omega) rfl rfl) (k:=?_);refine KR ?_;refine RGo.g_callv ?_;refine RGo.k2 (h:=(hl ..)) (k:=?_);(iterate 3 refine RK ?_);refine RGo.nil (by kernel_rfl) ?_;(repeat refine WF ?_);refine AWP.cond rfl (λhd=>?_) (λhd=>?_)
    ·have hd:(!(AZ cf) u[k]! u[k-1]!)=true:=by simpa[g,AZ]using hd
     rw[if_pos (by rw[Bool.and_eq_true];exact⟨Ah (by omega),hd⟩)]at hk;refine KK ?_;exact Ab (k+1) ⟨by omega,by omega,hk⟩
    ·have hd:(!(AZ cf) u[k]! u[k-1]!)=false:=by simpa[g,AZ]using hd
     rw[if_neg (λe=>by rw[Bool.and_eq_true]at e;have e2:=e.2;rw[hd]at e2;cases e2)]at hk;refine KK ?_;exact jn k hk
   ·have hg:¬k<b:=by have:=of_decide_eq_false g;omega
    rw[if_neg (λe=>by rw[Bool.and_eq_true]at e;have:=of_decide_eq_true e.1;omega)]at hk;(repeat refine WF ?_);refine RU ?_;(iterate 18 refine RK ?_);refine RGo.nil (by kernel_rfl) ?_;(repeat refine WF ?_);refine AA rfl (by simp[g]) ?_;refine KK ?_;exact jn k hk
  rintro k hk0;rw[hk0];clear hk0 k;refine KK ?_;refine AWP.cond rfl (λhd=>?_) (λhd=>?_)
  ·have hd:i2=b:=by have:=of_decide_eq_true hd;omega
   rw[if_pos hd]at hfold;subst hfold;refine JA ?_;exact Ends.sp [bA true] [(X,_)] ⟨rfl,rfl⟩
  have hd:¬i2=b:=by have:=of_decide_eq_false hd;omega
  rw[if_neg hd]at hfold
  (iterate 6 refine WK ?_);refine AOps.gN ?_;refine AOps.p (A9 (((b-a:Nat):Int)) (by omega) (by omega) rfl rfl) rfl ?_;refine KK ?_
  refine AWP.cond rfl (λhe=>?_) (λhe=>?_)
  ·have he:b-a<50:=by have:=of_decide_eq_true he;omega
   rw[if_pos he]at hfold;subst hfold;refine JA ?_;exact Ends.sp [bA false] [(X,_)] ⟨rfl,rfl⟩
  have he:¬b-a<50:=by have:=of_decide_eq_false he;omega
  rw[if_neg he]at hfold;have h1:=BC (AD false) (d:=u) (i:=i2) (by omega);have h2:=BC (AD false) (d:=u) (i:=i2-1) (by omega);have hrow:=Cl (AD false) (d:=u) (i:=i2) (j:=i2-1) (by omega) (by omega);obtain⟨y,hy⟩:=CN (AD false) (d:=u) (i:=i2) (j:=i2-1) (by omega) u[i2-1]!;have hvs:(swp u i2 (i2-1)).size=d.size:=by rw[size_swp];exact hu
  (repeat refine WF ?_);refine RU ?_;(iterate 4 refine RK ?_);refine RGo.gN ?_;refine RGo.go (h:=A9 (((i2-1:Nat):Int)) (by omega) (by omega) rfl rfl) (k:=?_);refine JH ?_;refine RGo.gN ?_;refine RGo.go (h:=A9 (((i2-1:Nat):Int)) (by omega) (by omega) rfl rfl) (k:=?_);(iterate 9 refine RK ?_);refine RGo.gN ?_;refine RGo.s (W.store rfl rfl (by exact At.f) hy (by exact rfl)) rfl ?_;refine RGo.nil (by kernel_rfl) ?_;obtain⟨v,hv⟩:=nm (swp u i2 (i2-1));rw[hv]at hrow hvs hfold;refine Nh [(0,.sl X 0 n),(1,iA a),(2,iA b),(3,.fn f cap),(9,iA i2),(10,iA c)] ((X,.row 71 3 (v.toList.map (AD false)))::Sf) ?_ (h:=by rw[<-hrow];exact⟨by exact Lk.f,by exact Sub.f⟩)
  (iterate 5 refine WK ?_);refine AOps.gN ?_;refine AOps.p (A9 (((i2-a:Nat):Int)) (by omega) (by omega) rfl rfl) rfl ?_;refine KK ?_
  refine Bl (λw:Array Item=>w.size=d.size/\w=fixDown (AZ cf) a i2 v) (λw=>⟨[(0,.sl X 0 n),(1,iA a),(2,iA b),(3,.fn f cap),(9,iA i2),(10,iA c)],(X,.row 71 3 (w.toList.map (AD false)))::Sf⟩) ?_ ?_
  ·unfold fixDown
   refine AWP.cond rfl (λhf=>?_) (λhf=>?_)
   ·have hf:i2-a>=2:=by have:=of_decide_eq_true hf;omega
    rw[if_pos hf]
    (iterate 3 refine WK ?_);refine AOps.gN ?_;refine AOps.p (A9 (((i2-1:Nat):Int)) (by omega) (by omega) rfl rfl) rfl ?_;refine KK ?_
    refine Bq (λ(k:Nat) (w:Array Item)=>⟨[(0,.sl X 0 n),(1,iA a),(2,iA b),(3,.fn f cap),(9,iA i2),(10,iA c),(11,iA k)],(X,.row 71 3 (w.toList.map (AD false)))::Sf⟩) (λk w=>k<b/\w.size=d.size/\shiftDown (AZ cf) k w=shiftDown (AZ cf) (i2-1) v) (λk _=>k) (i2-1) v ⟨by omega,hvs,rfl⟩ ?_;rintro k w ⟨hkb,hw,hk⟩;refine KK ?_;refine AWP.cond rfl (λhg=>?_) (λhg=>?_)
    ·obtain⟨q,rfl⟩:∃q,k=q+1:=⟨k-1,by have:=of_decide_eq_true hg;omega⟩
     rw[shiftDown]at hk;have h1:=BC (AD false) (d:=w) (i:=q+1) (by omega);have h2:=BC (AD false) (d:=w) (i:=q) (by omega);have hl:=hcf (w[q+1]!) (w[q]!);(repeat refine WF ?_);refine RU ?_;(iterate 7 refine RK ?_);refine RGo.gN ?_;refine RGo.go (h:=A9 ((q:Int)) (by omega) (by omega) rfl rfl) (k:=?_);refine KR ?_;refine RGo.g_callv ?_;refine RGo.k2 (h:=(hl ..)) (k:=?_);refine JH ?_;refine RGo.nil (by kernel_rfl) ?_;(repeat refine WF ?_);refine AWP.cond rfl (λhd=>?_) (λhd=>?_)
     ·have hd:(!(AZ cf) w[q+1]! w[q]!)=true:=by simpa[AZ]using hd
      rw[if_pos hd]at hk;refine KK ?_;exact jn w ⟨hw,hk⟩
     ·have hd:(!(AZ cf) w[q+1]! w[q]!)=false:=by simpa[AZ]using hd
      rw[if_neg (by rw[hd];simp)]at hk;clear y hy;obtain⟨y,hy⟩:=CN (AD false) (d:=w) (i:=q+1) (j:=q) (by omega) w[q]!;(repeat refine WF ?_);refine RU ?_;(iterate 4 refine RK ?_);refine RGo.gN ?_;refine RGo.go (h:=A9 ((q:Int)) (by omega) (by omega) rfl rfl) (k:=?_);refine JH ?_;refine RGo.gN ?_;refine RGo.go (h:=A9 ((q:Int)) (by omega) (by omega) rfl rfl) (k:=?_);(iterate 9 refine RK ?_);refine RGo.gN ?_;refine RGo.s (W.store rfl rfl (by exact At.f) hy (by exact rfl)) rfl ?_;refine RGo.nil (by kernel_rfl) ?_
      (iterate 4 refine WK ?_);refine AOps.gN ?_;refine AOps.p (A9 ((q:Int)) (by omega) (by omega) rfl rfl) rfl ?_;refine KK ?_
      refine BK q (swp w (q+1) q) ⟨by omega,by rw[size_swp];exact hw,hk⟩ (h0:=by rw[<-Cl (AD false) (by omega) (by omega)];exact⟨by exact Lk.f,by exact Sub.f⟩)
    ·obtain rfl:k=0:=by have:=of_decide_eq_false hg;omega
     rw[shiftDown]at hk;refine KK ?_;exact jn w ⟨hw,hk⟩
   ·have hf:¬i2-a>=2:=by have:=of_decide_eq_false hf;omega
    rw[if_neg hf];refine WK ?_;exact jn v ⟨hvs,rfl⟩
  rintro w ⟨hws,hw0⟩;rw[<-hw0]at hfold;clear hw0 hrow y hy h1 h2
  (iterate 4 refine WK ?_);refine AOps.gN ?_;refine AOps.p (A9 (((b-i2:Nat):Int)) (by omega) (by omega) rfl rfl) rfl ?_;refine KK ?_
  refine Sa (λz:Array Item=>z.size=d.size/\z=fixUp (AZ cf) b i2 w) (λz=>⟨[(0,.sl X 0 n),(1,iA a),(2,iA b),(3,.fn f cap),(9,iA i2),(10,iA c)],(X,.row 71 3 (z.toList.map (AD false)))::Sf⟩) ?_ ?_
  ·unfold fixUp
   refine AWP.cond rfl (λhf=>?_) (λhf=>?_)
   ·have hf:b-i2>=2:=by have:=of_decide_eq_true hf;omega
    rw[if_pos hf]
    (iterate 3 refine WK ?_);refine AOps.gN ?_;refine AOps.p (Bc (((i2+1:Nat):Int)) (by omega) (by omega) rfl rfl) rfl ?_;refine KK ?_
    refine Bq (λ(k:Nat) (z:Array Item)=>⟨[(0,.sl X 0 n),(1,iA a),(2,iA b),(3,.fn f cap),(9,iA i2),(10,iA c),(12,iA k)],(X,.row 71 3 (z.toList.map (AD false)))::Sf⟩) (λk z=>i2<k/\k<=b/\z.size=d.size/\shiftUp (AZ cf) b k z=shiftUp (AZ cf) b (i2+1) w) (λk _=>b-k) (i2+1) w ⟨by omega,by omega,hws,rfl⟩ ?_;rintro k z ⟨hik,hkb,hz1,hk⟩;rw[shiftUp]at hk;refine KK ?_;refine AWP.cond rfl (λhg=>?_) (λhg=>?_)
    ·have hg:k<b:=by have:=of_decide_eq_true hg;omega
     rw[if_pos hg]at hk;have h1:=BC (AD false) (d:=z) (i:=k) (by omega);have h2:=BC (AD false) (d:=z) (i:=k-1) (by omega);have hl:=hcf (z[k]!) (z[k-1]!);(repeat refine WF ?_);refine RU ?_;(iterate 7 refine RK ?_);refine RGo.gN ?_;refine RGo.go (h:=A9 (((k-1:Nat):Int)) (by omega) (by omega) rfl rfl) (k:=?_);refine KR ?_;refine RGo.g_callv ?_;refine RGo.k2 (h:=(hl ..)) (k:=?_);refine JH ?_;refine RGo.nil (by kernel_rfl) ?_;(repeat refine WF ?_);refine AWP.cond rfl (λhd=>?_) (λhd=>?_)
     ·have hd:(!(AZ cf) z[k]! z[k-1]!)=true:=by simpa[AZ]using hd
      rw[if_pos hd]at hk;refine KK ?_;exact jn z ⟨hz1,hk⟩
     ·have hd:(!(AZ cf) z[k]! z[k-1]!)=false:=by simpa[AZ]using hd
      rw[if_neg (by rw[hd];simp)]at hk;obtain⟨y,hy⟩:=CN (AD false) (d:=z) (i:=k) (j:=k-1) (by omega) z[k-1]!;(repeat refine WF ?_);refine RU ?_;(iterate 4 refine RK ?_);refine RGo.gN ?_;refine RGo.go (h:=A9 (((k-1:Nat):Int)) (by omega) (by omega) rfl rfl) (k:=?_);refine JH ?_;refine RGo.gN ?_;refine RGo.go (h:=A9 (((k-1:Nat):Int)) (by omega) (by omega) rfl rfl) (k:=?_);(iterate 9 refine RK ?_);refine RGo.gN ?_;refine RGo.s (W.store rfl rfl (by exact At.f) hy (by exact rfl)) rfl ?_;refine RGo.nil (by kernel_rfl) ?_;refine KK ?_;refine BK (k+1) (swp z k (k-1)) ⟨by omega,by omega,by rw[size_swp];exact hz1,hk⟩ (h0:=by rw[<-Cl (AD false) (by omega) (by omega)];exact⟨by exact Lk.f,by exact Sub.f⟩)
    ·have hg:¬k<b:=by have:=of_decide_eq_false hg;omega
     rw[if_neg hg]at hk;refine KK ?_;exact jn z ⟨hz1,hk⟩
   ·have hf:¬b-i2>=2:=by have:=of_decide_eq_false hf;omega
    rw[if_neg hf];refine WK ?_;exact jn w ⟨hws,rfl⟩
  rintro z ⟨hzs,hz0⟩;rw[<-hz0]at hfold;refine KK ?_;refine CW (c+1) i2 z ⟨by omega,by omega,by omega,hzs,by rw[show 5-(c+1)=s by omega];exact hfold⟩
 ·have h:c=5:=by have:=of_decide_eq_false hc;omega
  subst h;rw[show 5-5=0 from rfl,partialIns]at hfold;subst hfold;refine JA ?_;exact Ends.sp [bA false] [(X,_)] ⟨rfl,rfl⟩
end
section
open Go.Sort
theorem VQ{f:FuncId}{cap:List AV}(X n:Nat)(d:Array Item)(a b:Nat)(hn:n=d.size)(hab:a<=b)(hb:b<=d.size)(hz:d.size<65536):Spec Tryz.prog 214 [.sl X 0 n,iA a,iA b,.fn f cap] [(X,.row 71 3 (d.toList.map (AD false)))] λr S'=>∃u:Array Item,PermIn a b d u/\r= .tup []/\S'=[(X,.row 71 3 (u.toList.map (AD false)))]:=by
 obtain⟨l,hl⟩:=nm (b-a);refine Sp (nt:=67) (res:=[]) Tryz.func214 λSf=>?_
 (iterate 4 refine WK ?_);refine AOps.gN ?_;refine AOps.p (A9 ((l:Int)) (by omega) (by omega) rfl rfl) rfl ?_;refine KK ?_
 refine AWP.cond rfl (λh8=>?_) (λh8=>?_)
 ·have h8:8<=l:=by have:=of_decide_eq_true h8;omega
  have hnp:=Po l (by omega);have hbl:bitsLen l<=16:=(bitsLen_le_iff l 16).2 (by omega);have hm2:=two_pow_bitsLen_le (n:=l) (by omega);obtain⟨m,hm⟩:∃m,(1:UInt64)<<<UInt64.ofNat (bitsLen l)=m:=⟨_,rfl⟩
  have hmn:m.toNat=2^bitsLen l:=by
   have:2^bitsLen l<=2^16:=Nat.pow_le_pow_right (by decide) hbl;rw[<-hm,UInt64.toNat_shiftLeft,UInt64.toNat_ofNat',show bitsLen l%2^64%64=bitsLen l by omega,Nat.shiftLeft_eq,show(1:UInt64).toNat=1 from rfl];omega
  rw[hm]at hnp;have hp1:1<=2^bitsLen l:=Nat.one_le_two_pow;(repeat first|(refine AOps.gN ?_;first|(refine AOps.g_callf ?_;first|refine AOps.c1 (h:=(hnp ..)) (k:=?_))|refine AOps.p (F7 .i64 l rfl (by omega) (by kernel_rfl) (by kernel_rfl) rfl) rfl ?_|refine AOps.p (La l 4 (l/4) rfl rfl (by omega) rfl (by omega) rfl rfl) rfl ?_|refine AOps.p (Ix ((l/4*2:Nat):Int) (by omega) (by omega) rfl rfl) rfl ?_|refine AOps.p (Bc (((a+l/4*2:Nat):Int)) (by omega) (by omega) rfl rfl) rfl ?_|refine AOps.p (A9 (((a+l/4*2-1:Nat):Int)) (by omega) (by omega) rfl rfl) rfl ?_)|refine WK ?_|refine Ai λV=>?_|refine Ay λY=>?_);refine D4 (λ(k:Nat) (s:UInt64) (u:Array Item)=>⟨[(0,.sl X 0 n),(1,iA a),(3,.fn f cap),(8,iA l),(9,.ptr V 0 0),(10,uA m),(11,iA k)],(V,.row 355 1 [uA s])::(X,.row 71 3 (u.toList.map (AD false)))::Sf⟩) (λk s u=>a<=k/\k<=a+l/4*2+2/\PermIn a b d u) (λk _ _=>a+l/4*2+2-k) (a+l/4*2-1) (UInt64.ofNat l) d ⟨by omega,by omega,permIn_refl _ _ _⟩ ?_;rintro k s u ⟨hak,hkl,hP⟩;have hu:u.size=d.size:=hP.1;(repeat first|(refine AOps.gN ?_;first|refine AOps.p (La l 4 (l/4) rfl rfl (by omega) rfl (by omega) rfl rfl) rfl ?_|refine AOps.p (Ix ((l/4*2:Nat):Int) (by omega) (by omega) rfl rfl) rfl ?_|refine AOps.p (Bc (((a+l/4*2:Nat):Int)) (by omega) (by omega) rfl rfl) rfl ?_|refine AOps.p (Bc (((a+l/4*2+1:Nat):Int)) (by omega) (by omega) rfl rfl) rfl ?_)|refine WK ?_|refine Ai λX=>?_|refine Ay λY=>?_);refine AWP.cond rfl (λhc=>?_) (λhc=>?_)
  ·have hk1:k<=a+l/4*2+1:=by have:=of_decide_eq_true hc;omega
   have hkb:k<b:=by omega
   refine AWP.skip ?_;refine CT ?_;refine AWP.seq ?_;refine AWP.block ?_;refine AWP.seq ?_;refine RG ?_;refine AOps.g_callf ?_;refine UZ (h:=PC V s) (k:=λv _=>?_);refine WO ?_
   have hvb:(v&&&(m-1)).toNat<2*l:=by
    rw[UInt64.toNat_and,UInt64.toNat_sub_of_le _ _ (by rw[UInt64.le_iff_toNat_le,hmn];exact hp1),hmn];have:=Nat.and_le_right (n:=v.toNat) (m:=2^bitsLen l-(1:UInt64).toNat);have e:(1:UInt64).toNat=1:=rfl;omega
   refine AOps.gN ?_;refine AOps.p (F8 (b:=1) rfl rfl) rfl ?_;refine AOps.gN ?_;refine AOps.p (Iy rfl rfl) rfl ?_;refine AOps.gN ?_;refine AOps.p (QU .u64 (by omega) (by kernel_rfl) (by kernel_rfl) rfl) rfl ?_;refine WO ?_;refine AOps.nil ?_
   (repeat (first|refine AWP.skip ?_|refine CT ?_|refine AWP.seq ?_))
   obtain⟨o,ho⟩:=nm ((v&&&(m-1)).toNat);refine Nh [(0,.sl X 0 n),(1,iA a),(3,.fn f cap),(8,iA l),(9,.ptr V 0 0),(10,uA m),(11,iA k),(12,iA o)] ((V,.row 355 1 [uA v])::(X,.row 71 3 (u.toList.map (AD false)))::Sf) ?_ (h:=by rw[<-ho];exact⟨by exact Lk.f,by exact Sub.f⟩);rw[ho]at hvb;refine KK ?_;refine Bl (λo:Nat=>o<l) (λo=>⟨[(0,.sl X 0 n),(1,iA a),(3,.fn f cap),(8,iA l),(9,.ptr V 0 0),(10,uA m),(11,iA k),(12,iA o)],(V,.row 355 1 [uA v])::(X,.row 71 3 (u.toList.map (AD false)))::Sf⟩) ?_ ?_
   ·refine AWP.cond rfl (λhd=>?_) (λhd=>?_)
    ·have hd:l<=o:=by have:=of_decide_eq_true hd;omega
     (iterate 3 refine WK ?_);refine AOps.gN ?_;refine AOps.p (A9 (((o-l:Nat):Int)) (by omega) (by omega) rfl rfl) rfl ?_;refine KK ?_
     exact jn (o-l) (by omega)
    ·have hd:¬l<=o:=by have:=of_decide_eq_false hd;omega
     refine WK ?_;exact jn o (by omega)
   rintro o hol;have h1:=BC (AD false) (d:=u) (i:=k) (by omega);have h2:=BC (AD false) (d:=u) (i:=a+o) (by omega);obtain⟨y,hy⟩:=CN (AD false) (d:=u) (i:=k) (j:=a+o) (by omega) u[a+o]!;(repeat refine WF ?_);refine RU ?_;(iterate 5 refine RK ?_);refine RGo.gN ?_;refine RGo.go (h:=Bc (((a+o:Nat):Int)) (by omega) (by omega) rfl rfl) (k:=?_);(iterate 3 refine RK ?_);refine RGo.gN ?_;refine RGo.go (h:=Bc (((a+o:Nat):Int)) (by omega) (by omega) rfl rfl) (k:=?_);(iterate 9 refine RK ?_);refine RGo.gN ?_;refine RGo.s (W.store rfl rfl (by exact At.f) hy (by exact rfl)) rfl ?_;refine RGo.nil (by kernel_rfl) ?_;refine KK ?_;refine CW (k+1) v (swp u k (a+o)) ⟨by omega,by omega,permIn_trans _ _ _ _ _ hP (swp_permIn _ _ _ _ _ (by omega) (by omega) (by omega) (by omega) (by omega))⟩ (h0:=by rw[<-Cl (AD false) (by omega) (by omega)];exact⟨by exact Lk.f,by exact Sub.f⟩)
  ·refine KK ?_
   refine DU ?_;exact BN [(X,.row 71 3 (u.toList.map (AD false)))] ⟨u,hP,rfl,rfl⟩
 ·refine WK ?_
  refine DU ?_;exact BN [(X,.row 71 3 (d.toList.map (AD false)))] ⟨d,permIn_refl _ _ _,rfl,rfl⟩
end
section
open Go.Sort
theorem HT(f:FuncId)(cap:List AV)(cf:Item->Item->Int)(hst:B6 cap=true)(hcf:∀x y,PS Tryz.prog f ((AD false) x::(AD false) y::cap) (iA (cf x y)))(X Y n:Nat)(d:Array Item)(a b s:Nat)(hn:n=d.size)(ha:a<d.size)(hb:b<d.size)(hs:s<=1099511627776):Spec Tryz.prog 283 [.sl X 0 n,iA a,iA b,.ptr Y 0 0,.fn f cap] [(X,.row 71 3 (d.toList.map (AD false))),(Y,.row 3 1 [iA s])] λr S'=>r= .tup [iA (order2 (AZ cf) d a b s).1,iA (order2 (AZ cf) d a b s).2.1]/\S'=[(X,.row 71 3 (d.toList.map (AD false))),(Y,.row 3 1 [iA (order2 (AZ cf) d a b s).2.2])]:=by
 subst hn;have h1:=BC (AD false) ha;have h2:=BC (AD false) hb;have hl:=hcf (d[b]!) (d[a]!);refine Sp (nt:=32) (res:=[.tmp 10,.tmp 11]) Tryz.func283 λSf=>?_
 unfold order2;refine R1 ?_;refine JM ?_;refine RGo.g_callv ?_;refine RGo.k2 (h:=(hl ..)) (k:=?_);refine RK ?_;refine RGo.nil (by kernel_rfl) ?_;(repeat refine WF ?_);refine AWP.cond rfl (λhc=>?_) (λhc=>?_)
 ·have hc:(AZ cf) d[b]! d[a]! =true:=by simpa[AZ]using hc
  rw[if_pos hc];refine JA ?_;exact Ends.sp [iA b,iA a] [(X,_),(Y,_)] ⟨rfl,rfl⟩
 ·have hc:(AZ cf) d[b]! d[a]! =false:=by simpa[AZ]using hc
  rw[if_neg (by simp[hc])];refine JA ?_;exact Ends.sp [iA a,iA b] [(X,_),(Y,_)] ⟨rfl,rfl⟩
theorem KY(f:FuncId)(cap:List AV)(cf:Item->Item->Int)(hst:B6 cap=true)(hcf:∀x y,PS Tryz.prog f ((AD false) x::(AD false) y::cap) (iA (cf x y)))(X Y n:Nat)(d:Array Item)(a b c s:Nat)(hn:n=d.size)(ha:a<d.size)(hb:b<d.size)(hc:c<d.size)(hs:s<=1099511627000):Spec Tryz.prog 266 [.sl X 0 n,iA a,iA b,iA c,.ptr Y 0 0,.fn f cap] [(X,.row 71 3 (d.toList.map (AD false))),(Y,.row 3 1 [iA s])] λr S'=>r=iA (median (AZ cf) d a b c s).1/\S'=[(X,.row 71 3 (d.toList.map (AD false))),(Y,.row 3 1 [iA (median (AZ cf) d a b c s).2])]:=by
 obtain⟨m,hm⟩:=nm (median (AZ cf) d a b c s);rw[hm];unfold median at hm;have l1:=IZ (AZ cf) d a b s _ ha hb;have e1:=Fb (AZ cf) d a b s;have h1:=HT f cap cf hst hcf X Y n d a b s hn ha hb (by omega);obtain⟨⟨a1,b1,s1⟩,hr1⟩:=nm (order2 (AZ cf) d a b s);rw[hr1]at h1 hm l1 e1;dsimp only at h1 hm l1 e1;have l2:=IZ (AZ cf) d b1 c s1 _ l1.2 hc;have e2:=Fb (AZ cf) d b1 c s1;have h2:=HT f cap cf hst hcf X Y n d b1 c s1 hn l1.2 hc (by omega);obtain⟨⟨b2,c2,s2⟩,hr2⟩:=nm (order2 (AZ cf) d b1 c s1);rw[hr2]at h2 hm l2 e2;dsimp only at h2 hm l2 e2;have l3:=IZ (AZ cf) d a1 b2 s2 _ l1.1 l2.1;have h3:=HT f cap cf hst hcf X Y n d a1 b2 s2 hn l1.1 l2.1 (by omega);obtain⟨⟨a3,b3,s3⟩,hr3⟩:=nm (order2 (AZ cf) d a1 b2 s2);rw[hr3]at h3 hm l3;dsimp only at h3 hm l3;subst hm;refine Sp (nt:=41) (res:=[.tmp 12]) Tryz.func266 λSf=>?_
 refine KK ?_;refine AOps.g_callf ?_;refine Ni (h:=h1) (hT:=.fz) (k:=?_);refine KK ?_;refine AOps.g_callf ?_;refine Ni (h:=h2) (hT:=.fz) (k:=?_);refine KK ?_;refine AOps.g_callf ?_;refine Ni (h:=h3) (hT:=.fz) (k:=?_);refine JA ?_;exact Ends.sp [iA b3] [(X,_),(Y,_)] ⟨rfl,rfl⟩
theorem HV(f:FuncId)(cap:List AV)(cf:Item->Item->Int)(hst:B6 cap=true)(hcf:∀x y,PS Tryz.prog f ((AD false) x::(AD false) y::cap) (iA (cf x y)))(X Y n:Nat)(d:Array Item)(a s:Nat)(hn:n=d.size)(ha:a+1<d.size)(h0:0<a)(hz:d.size<=1099511627776)(hs:s<=1099511627000):Spec Tryz.prog 265 [.sl X 0 n,iA a,.ptr Y 0 0,.fn f cap] [(X,.row 71 3 (d.toList.map (AD false))),(Y,.row 3 1 [iA s])] λr S'=>r=iA (medianAdjacent (AZ cf) d a s).1/\S'=[(X,.row 71 3 (d.toList.map (AD false))),(Y,.row 3 1 [iA (medianAdjacent (AZ cf) d a s).2])]:=by
 have h1:=KY f cap cf hst hcf X Y n d (a-1) a (a+1) s hn (by omega) (by omega) ha hs;unfold medianAdjacent;refine Sp (nt:=18) (res:=[.tmp 8]) Tryz.func265 λSf=>?_
 (iterate 8 refine WK ?_);refine AOps.gN ?_;refine AOps.p (A9 ((a-1:Nat):Int) (by omega) (by omega) rfl rfl) rfl ?_;refine WK ?_;refine WK ?_;refine AOps.gN ?_;refine AOps.p (Bc ((a+1:Nat):Int) (by omega) (by omega) rfl rfl) rfl ?_;refine KK ?_;refine AOps.g_callf ?_;refine RD (h:=h1) (hT:=.fz) (k:=?_);refine KK ?_
 refine RT ?_;exact Ends.sp [iA _] [(X,_),(Y,_)] ⟨rfl,rfl⟩
theorem Jh(f:FuncId)(cap:List AV)(cf:Item->Item->Int)(hst:B6 cap=true)(hcf:∀x y,PS Tryz.prog f ((AD false) x::(AD false) y::cap) (iA (cf x y)))(X n:Nat)(d:Array Item)(a b:Nat)(hn:n=d.size)(hab:a<b)(hb:b<=d.size)(hz:d.size<=1099511627776):PO Tryz.prog 215 [.sl X 0 n,iA a,iA b,.fn f cap] X (.row 71 3 (d.toList.map (AD false))) (.tup [iA (choosePivot (AZ cf) d a b).1,iA (Vo (choosePivot (AZ cf) d a b).2)]) (.row 71 3 (d.toList.map (AD false))):=by
 obtain⟨c,hc⟩:=nm (choosePivot (AZ cf) d a b);rw[hc];unfold choosePivot at hc;obtain⟨l,hl⟩:=nm (b-a);obtain⟨i,hi⟩:=nm (a+l/4*1);obtain⟨j,hj⟩:=nm (a+l/4*2);obtain⟨k,hk⟩:=nm (a+l/4*3);rw[hl]at hc;dsimp only at hc;rw[hi,hj,hk]at hc;refine Sp (nt:=63) (res:=[.tmp 8,.tmp 9]) Tryz.func215 λSf=>?_
 have hlb:l<=1099511627776:=by omega
 (repeat first|(refine AOps.gN ?_;first|refine AOps.p (A9 (l:Int) (by omega) (by omega) rfl rfl) rfl ?_|refine AOps.p (La l 4 (l/4) rfl rfl (by omega) rfl (by omega) rfl rfl) rfl ?_|refine AOps.p (Ix ((l/4*1:Nat):Int) (by omega) (by omega) rfl rfl) rfl ?_|refine AOps.p (Ix ((l/4*2:Nat):Int) (by omega) (by omega) rfl rfl) rfl ?_|refine AOps.p (Ix ((l/4*3:Nat):Int) (by omega) (by omega) rfl rfl) rfl ?_|refine AOps.p (Bc (i:Int) (by omega) (by omega) rfl rfl) rfl ?_|refine AOps.p (Bc (j:Int) (by omega) (by omega) rfl rfl) rfl ?_|refine AOps.p (Bc (k:Int) (by omega) (by omega) rfl rfl) rfl ?_)|refine WK ?_|refine Ai λV=>?_|refine Ay λY=>?_);refine Bl (λb:Nat×Nat=>c=(b.1,if b.2=0 then Hint.increasing else if b.2=12 then Hint.decreasing else Hint.unknown)) (λb=>⟨[(0,.sl X 0 n),(3,.fn f cap),(11,.ptr V 0 0),(13,iA b.1)],(V,.row 3 1 [iA b.2])::(X,.row 71 3 (d.toList.map (AD false)))::Sf⟩) ?_ ?_
 ·refine AWP.cond rfl (λh8=>?_) (λh8=>?_)
  ·have h8:l>=8:=by have:=of_decide_eq_true h8;omega
   rw[if_pos h8]at hc;refine KK ?_;refine Bl (λb:Nat×Nat×Nat×Nat=>b.1<d.size/\b.2.1<d.size/\b.2.2.1<d.size/\b.2.2.2<=100/\(if l>=50 then median (AZ cf) d (medianAdjacent (AZ cf) d i 0).1 (medianAdjacent (AZ cf) d j (medianAdjacent (AZ cf) d i 0).2).1 (medianAdjacent (AZ cf) d k (medianAdjacent (AZ cf) d j (medianAdjacent (AZ cf) d i 0).2).2).1 (medianAdjacent (AZ cf) d k (medianAdjacent (AZ cf) d j (medianAdjacent (AZ cf) d i 0).2).2).2 else median (AZ cf) d i j k 0)=median (AZ cf) d b.1 b.2.1 b.2.2.1 b.2.2.2) (λb=>⟨[(0,.sl X 0 n),(3,.fn f cap),(11,.ptr V 0 0),(12,iA b.1),(13,iA b.2.1),(14,iA b.2.2.1)],(V,.row 3 1 [iA b.2.2.2])::(X,.row 71 3 (d.toList.map (AD false)))::Sf⟩) ?_ ?_
   ·refine AWP.cond rfl (λh50=>?_) (λh50=>?_)
    ·have h50:l>=50:=by have:=of_decide_eq_true h50;omega
     have a1:=Id (AZ cf) d i 0 _ (show i+1<d.size by omega);have b1:=Ib (AZ cf) d (i-1) i (i+1) 0;have s1:=HV f cap cf hst hcf X V n d i 0 hn (by omega) (by omega) hz (by omega);rw[if_pos h50];have e1:(median (AZ cf) d (i-1) i (i+1) 0).2=(medianAdjacent (AZ cf) d i 0).2:=rfl;rw[e1]at b1;obtain⟨⟨p1,q1⟩,r1⟩:=nm (medianAdjacent (AZ cf) d i 0);rw[r1]at a1 b1 s1⊢;dsimp only at a1 b1 s1⊢;have a2:=Id (AZ cf) d j q1 _ (show j+1<d.size by omega);have b2:=Ib (AZ cf) d (j-1) j (j+1) q1;have s2:=HV f cap cf hst hcf X V n d j q1 hn (by omega) (by omega) hz (by omega);have e2:(median (AZ cf) d (j-1) j (j+1) q1).2=(medianAdjacent (AZ cf) d j q1).2:=rfl;rw[e2]at b2;obtain⟨⟨p2,q2⟩,r2⟩:=nm (medianAdjacent (AZ cf) d j q1);rw[r2]at a2 b2 s2⊢;dsimp only at a2 b2 s2⊢;have a3:=Id (AZ cf) d k q2 _ (show k+1<d.size by omega);have b3:=Ib (AZ cf) d (k-1) k (k+1) q2;have s3:=HV f cap cf hst hcf X V n d k q2 hn (by omega) (by omega) hz (by omega);have e3:(median (AZ cf) d (k-1) k (k+1) q2).2=(medianAdjacent (AZ cf) d k q2).2:=rfl;rw[e3]at b3;obtain⟨⟨p3,q3⟩,r3⟩:=nm (medianAdjacent (AZ cf) d k q2);rw[r3]at a3 b3 s3⊢;dsimp only at a3 b3 s3⊢;refine KK ?_;refine AOps.g_callf ?_;refine Nj (h:=s1) (hT:=.fz) (k:=?_);refine KK ?_;refine AOps.g_callf ?_;refine Nj (h:=s2) (hT:=.fz) (k:=?_);refine KK ?_;refine AOps.g_callf ?_;refine Nj (h:=s3) (hT:=.fz) (k:=?_);refine KK ?_;refine jn (p1,p2,p3,q3) ⟨a1,a2,a3,by dsimp only;omega,rfl⟩
    ·have h50:¬l>=50:=by have:=of_decide_eq_false h50;omega
     rw[if_neg h50];refine WK ?_;refine jn (i,j,k,0) ⟨by dsimp only;omega,by dsimp only;omega,by dsimp only;omega,by dsimp only;omega,rfl⟩
   ·rintro⟨p1,p2,p3,q⟩ ⟨l1,l2,l3,lq,e⟩
    dsimp only at l1 l2 l3 lq e⊢;rw[e]at hc;have h1:=KY f cap cf hst hcf X V n d p1 p2 p3 q hn l1 l2 l3 (by omega);obtain⟨⟨r1,r2⟩,hr⟩:=nm (median (AZ cf) d p1 p2 p3 q);rw[hr]at hc h1;dsimp only at h1;refine KK ?_;refine AOps.g_callf ?_;refine RD (h:=h1) (hT:=.fz) (k:=?_);refine KK ?_;refine jn (r1,r2) hc.symm
  ·have h8:¬l>=8:=by have:=of_decide_eq_false h8;omega
   rw[if_neg h8]at hc;refine WK ?_;refine jn (j,0) hc.symm
 ·rintro⟨p,s⟩ hc
  dsimp only at hc⊢;subst hc;refine KK ?_;refine AWP.cond rfl (λh0=>?_) (λh0=>?_)
  ·have h0:s=0:=by have:=of_decide_eq_true h0;omega
   rw[if_pos h0];refine JA ?_;exact Ends.sp [iA p,iA 1] [(X,_)] ⟨rfl,rfl⟩
  ·have h0:¬s=0:=by have:=of_decide_eq_false h0;omega
   rw[if_neg h0];refine KK ?_;refine AWP.cond rfl (λh1=>?_) (λh1=>?_)
   ·have h1:s=12:=by have:=of_decide_eq_true h1;omega
    rw[if_pos h1];refine JA ?_;exact Ends.sp [iA p,iA 2] [(X,_)] ⟨rfl,rfl⟩
   ·have h1:¬s=12:=by have:=of_decide_eq_false h1;omega
    rw[if_neg h1];refine JA ?_;exact Ends.sp [iA p,iA 0] [(X,_)] ⟨rfl,rfl⟩
end
section
open Go.Sort
theorem Us(f:FuncId)(cap:List AV)(cf:Item->Item->Int)(hst:B6 cap=true)(hcf:∀x y,PS Tryz.prog f ((AD false) x::(AD false) y::cap) (iA (cf x y)))(hS:SWO (AZ cf)):∀(m X n:Nat) (d:Array Item) (a b limit:Nat),b-a<=m->n=d.size->a<=b->b<=d.size->d.size<65536->limit<=1000->Below (AZ cf) a b d->Spec Tryz.prog 157 [.sl X 0 n,iA a,iA b,iA limit,.fn f cap] [(X,.row 71 3 (d.toList.map (AD false)))] λr S'=>∃u:Array Item,(PermIn a b d u/\SortedIn (AZ cf) a b u)/\r= .tup []/\S'=[(X,.row 71 3 (u.toList.map (AD false)))]:=by
 intro m
 induction m using Nat.strongRecOn with
 |_ m ih=>
 intro X n d a b limit hm hn hab hb hz hlim hB;refine Sp (nt:=148) (res:=[]) Tryz.func157 λSf=>?_
 refine KK ?_;refine Vd (λ(a b limit:Nat) (wb wp:Bool) (u:Array Item)=>⟨[(0,.sl X 0 n),(1,iA a),(2,iA b),(3,iA limit),(4,.fn f cap),(10,bA wb),(11,bA wp)],(X,.row 71 3 (u.toList.map (AD false)))::Sf⟩) (λa' b' limit wb wp u=>a' <=b' /\b' <=d.size/\b'-a' <=b-a/\limit<=1000/\u.size=d.size/\Below (AZ cf) a' b' u/\∀R,PermIn a' b' u R->SortedIn (AZ cf) a' b' R->PermIn a b d R/\SortedIn (AZ cf) a b R) (λa b _ _ _ _=>b-a) a b limit true true d ⟨hab,hb,Nat.le_refl _,hlim,rfl,hB,λR h1 h2=>⟨h1,h2⟩⟩ ?_;rintro a' b' limit wb wp u ⟨hab',hb',hmm,hlim,hu,hB',hG⟩;obtain⟨l,hl⟩:=nm (b'-a');refine AWP.block ?_
 (iterate 4 refine WK ?_);refine AOps.gN ?_;refine AOps.p (A9 ((l:Int)) (by omega) (by omega) rfl rfl) rfl ?_;refine KK ?_
 refine AWP.cond rfl (λhc=>?_) (λhc=>?_)
 ·have hs:=U4 f cap cf hst hcf X n u a' b' (by omega) hab' (by omega) (by omega)
  obtain⟨p1,p2⟩:=insertionSort_holds (lt:=(AZ cf)) hS u a' b' hab' (by omega);refine KK ?_;refine AOps.g_callf ?_;refine AOps.o4 (h:=(hs ..)) (k:=?_);refine JA ?_;exact BN [(X,_)] ⟨_,hG _ p1 p2,rfl,rfl⟩
 have hl12:12<l:=by have:=of_decide_eq_false hc;omega
 refine KK ?_;refine AWP.cond rfl (λhc=>?_) (λhc=>?_)
 ·have hs:=Ta f cap cf hst hcf X n u a' b' (by omega) (by omega) (by omega) (by omega)
  obtain⟨p1,p2⟩:=heapSort_holds (lt:=(AZ cf)) hS u a' b' hab' (by omega);refine KK ?_;refine AOps.g_callf ?_;refine AOps.o4 (h:=(hs ..)) (k:=?_);refine JA ?_;exact BN [(X,_)] ⟨_,hG _ p1 p2,rfl,rfl⟩
 have hl0:0<limit:=by have:=of_decide_eq_false hc;omega
 refine KK ?_;refine Bl (λb:Nat×Array Item=>b.1<=1000/\PermIn a' b' u b.2) (λb=>⟨[(0,.sl X 0 n),(1,iA a'),(2,iA b'),(3,iA b.1),(4,.fn f cap),(10,bA wb),(11,bA wp),(12,iA l)],(X,.row 71 3 (b.2.toList.map (AD false)))::Sf⟩) ?_ ?_
 ·refine AWP.cond rfl (λhd=>?_) (λhd=>?_)
  ·have hs:=VQ (f:=f) (cap:=cap) X n u a' b' (by omega) hab' (by omega) (by omega)
   refine KK ?_;refine AOps.g_callf ?_;refine UX (h:=hs) (k:=λv hv=>?_);(iterate 4 refine WK ?_);refine AOps.gN ?_;refine AOps.p (A9 (((limit-1:Nat):Int)) (by omega) (by omega) rfl rfl) rfl ?_;refine KK ?_;exact jn (limit-1,v) ⟨by dsimp only;omega,hv⟩
  ·refine WK ?_
   exact jn (limit,u) ⟨hlim,permIn_refl _ _ _⟩
 rintro⟨lim1,u1⟩ ⟨hlim1,hP1⟩;dsimp only at hlim1 hP1⊢;have hu1:u1.size=d.size:=hP1.1.trans hu;have hpv:=Jh f cap cf hst hcf X n u1 a' b' (by omega) (by omega) (by omega) (by omega);obtain⟨c1,c2⟩:=choosePivot_holds (AZ cf) u1 a' b' (by omega);obtain⟨⟨p,h⟩,hp⟩:=nm (choosePivot (AZ cf) u1 a' b');rw[hp]at hpv c1 c2;dsimp only at hpv c1 c2;obtain⟨hnum,hhn⟩:=nm (Vo h);rw[hhn]at hpv;refine KK ?_;refine AOps.g_callf ?_;refine AOps.o4 (h:=(hpv ..)) (k:=?_);refine KK ?_;refine Bl (λb:Nat×Int×Array Item=>a' <=b.1/\b.1<b' /\PermIn a' b' u b.2.2) (λb=>⟨[(0,.sl X 0 n),(1,iA a'),(2,iA b'),(3,iA lim1),(4,.fn f cap),(10,bA wb),(11,bA wp),(12,iA l),(13,iA b.1),(14,iA b.2.1)],(X,.row 71 3 (b.2.2.toList.map (AD false)))::Sf⟩) ?_ ?_
 ·refine AWP.cond rfl (λhd=>?_) (λhd=>?_)
  ·have hs:=Ul (f:=f) (cap:=cap) X n u1 a' b' (by omega) (by omega) (by omega) (by omega)
   have hrp:=reverseRange_holds u1 a' b' hab' (by omega);(repeat first|(refine AOps.gN ?_;first|(refine AOps.g_callf ?_;first|refine AOps.o4 (h:=(hs ..)) (k:=?_))|refine AOps.p (A9 (((b'-1:Nat):Int)) (by omega) (by omega) rfl rfl) rfl ?_|refine AOps.p (A9 (((p-a':Nat):Int)) (by omega) (by omega) rfl rfl) rfl ?_|refine AOps.p (A9 (((b'-1-(p-a'):Nat):Int)) (by omega) (by omega) rfl rfl) rfl ?_)|refine WK ?_|refine Ai λX=>?_|refine Ay λY=>?_);exact jn (b'-1-(p-a'),1,_) ⟨by dsimp only;omega,by dsimp only;omega,permIn_trans _ _ _ _ _ hP1 hrp⟩
  ·refine WK ?_
   exact jn (p,hnum,u1) ⟨c1,c2,hP1⟩
 rintro⟨pv,hn2,u2⟩ ⟨c3,c4,hP2⟩;dsimp only at c3 c4 hP2⊢;have hu2:u2.size=d.size:=hP2.1.trans hu;have hB2:=hB'.perm (by omega) hP2;clear hpv hp hhn c1 c2 p h hnum;refine AWP.seq ?_;refine I1 (λv:Array Item=>PermIn a' b' u v) (λv=>⟨[(0,.sl X 0 n),(1,iA a'),(2,iA b'),(3,iA lim1),(4,.fn f cap),(10,bA wb),(11,bA wp),(12,iA l),(13,iA pv)],(X,.row 71 3 (v.toList.map (AD false)))::Sf⟩) ?_ ?_
 ·refine KK ?_
  refine AWP.cond rfl (λ_=>?_) (λ_=>?_)
  ·have hs:=S7 f cap cf hst hcf X n u2 a' b' (by omega) (by omega) (by omega) (by omega)
   have hpi:=partialInsertionSort_holds (lt:=(AZ cf)) hS u2 a' b' (by omega) (by omega) hB2;obtain⟨⟨v,fl⟩,hv⟩:=nm (partialInsertionSort (AZ cf) u2 a' b');rw[hv]at hs hpi;dsimp only at hs hpi;refine KK ?_;refine AOps.g_callf ?_;refine AOps.o4 (h:=(hs ..)) (k:=?_);refine KK ?_;refine AWP.cond rfl (λhe=>?_) (λhe=>?_)
   ·refine RT ?_
    exact BN [(X,_)] ⟨v,hG v (permIn_trans _ _ _ _ _ hP2 hpi.1) (hpi.2 he),rfl,rfl⟩
   ·refine KK ?_
    exact jnR v (permIn_trans _ _ _ _ _ hP2 hpi.1)
  ·refine KK ?_
   exact jnR u2 hP2
 rintro u3 hP3;have hu3:u3.size=d.size:=hP3.1.trans hu;have hB3:=hB'.perm (by omega) hP3;have hg3:∀R,PermIn a' b' u3 R->SortedIn (AZ cf) a' b' R->PermIn a b d R/\SortedIn (AZ cf) a b R:=λR h1 h2=>hG R (permIn_trans _ _ _ _ _ hP3 h1) h2
 clear hB2 hP2 hu2 u2 hP1 hu1 u1 hG hB' hn2;refine AWP.seq ?_;refine I1 (λ_:Unit=>True) (λ_=>⟨[(0,.sl X 0 n),(1,iA a'),(2,iA b'),(3,iA lim1),(4,.fn f cap),(10,bA wb),(11,bA wp),(12,iA l),(13,iA pv)],(X,.row 71 3 (u3.toList.map (AD false)))::Sf⟩) ?_ ?_
 ·rcases Bool.eq_false_or_eq_true (decide ((0:Int)<(a':Int)))with g|g
  ·have hg:0<a':=by have:=of_decide_eq_true g;omega
   have h1:=BC (AD false) (d:=u3) (i:=a'-1) (by omega);have h2:=BC (AD false) (d:=u3) (i:=pv) (by omega);have hl2:=hcf (u3[a'-1]!) (u3[pv]!);(repeat refine WF ?_);refine RU ?_;(iterate 6 refine RK ?_);refine RGo.gQ ?_;refine RGo.go (h:=A9 (((a'-1:Nat):Int)) (by omega) (by omega) rfl rfl) (k:=?_);refine KR ?_;refine RGo.g_callv ?_;refine RGo.k2 (h:=(hl2 ..)) (k:=?_);(iterate 3 refine RK ?_);refine RGo.nil (by kernel_rfl) ?_;(repeat refine WF ?_);refine AWP.cond rfl (λhd=>?_) (λhd=>?_)
   ·have hd:(!(AZ cf) u3[a'-1]! u3[pv]!)=true:=by simpa[g,AZ]using hd
    have hd:(AZ cf) u3[a'-1]! u3[pv]! =false:=by simpa[AZ]using hd
    have hs:=Ur f cap cf hst hcf X n u3 a' b' pv (by omega) c3 c4 (by omega) (by omega);obtain⟨⟨mid,d4⟩,hx⟩:=nm (partitionEqual (AZ cf) u3 a' b' pv);rw[hx]at hs;dsimp only at hs;obtain⟨q1,q2,q3,q4,q5⟩:=round_eq (lt:=(AZ cf)) hS (partitionEqual_holds (AZ cf)) hg c3 c4 (by omega) hB3 hd hx;refine KK ?_;refine AOps.g_callf ?_;refine IP (h:=(hs ..)) (k:=?_);refine KK ?_;refine Ka mid b' lim1 wb wp d4 ⟨q2,hb',by omega,hlim1,q3.trans hu3,q4,λR k1 k2=>?_⟩;obtain⟨k3,k4⟩:=q5 R k1 k2;exact hg3 R k3 k4
   ·refine KK ?_
    exact jnR () trivial
  ·(repeat refine WF ?_)
   refine RU ?_;(iterate 17 refine RK ?_);refine RGo.nil (by kernel_rfl) ?_;(repeat refine WF ?_);refine AA rfl (by simp[g]) ?_;refine KK ?_;exact jnR () trivial
 rintro _ _;have hs:=TA f cap cf hst hcf X n u3 a' b' pv (by omega) c3 c4 (by omega) (by omega);obtain⟨⟨mid,ap,d4⟩,hx⟩:=nm (partition (AZ cf) u3 a' b' pv);rw[hx]at hs;dsimp only at hs;obtain⟨r1,r2,r3,r4,r5,r6,r7⟩:=round_part (lt:=(AZ cf)) hS (partition_holds (AZ cf)) c3 c4 (by omega) hB3 hx;(repeat first|(refine AOps.gN ?_;first|(refine AOps.g_callf ?_;first|refine IP (h:=(hs ..)) (k:=?_))|refine AOps.p (A9 (((mid-a':Nat):Int)) (by omega) (by omega) rfl rfl) rfl ?_|refine AOps.p (A9 (((b'-mid:Nat):Int)) (by omega) (by omega) rfl rfl) rfl ?_|refine AOps.p (La l 8 (l/8) rfl rfl (by omega) rfl (by omega) rfl rfl) rfl ?_)|refine WK ?_|refine Ai λX=>?_|refine Ay λY=>?_);refine AWP.cond rfl (λhd=>?_) (λhd=>?_)
 ·have hrec:=ih (mid-a') (by omega) X n d4 a' mid lim1 (Nat.le_refl _) (by omega) r1 (by omega) (by omega) hlim1 r4
  refine KK ?_;refine AOps.g_callf ?_;refine PB (h:=hrec) (k:=λv hv=>?_);(iterate 4 refine WK ?_);refine AOps.gN ?_;refine AOps.p (Bc (((mid+1:Nat):Int)) (by omega) (by omega) rfl rfl) rfl ?_;refine KK ?_;obtain⟨v1,v2⟩:=hv;obtain⟨s1,s2⟩:=r6 v v1 v2;refine Ka (mid+1) b' lim1 _ ap v ⟨by omega,hb',by omega,hlim1,v1.1.trans (r3.trans hu3),s1,λR k1 k2=>?_⟩;obtain⟨k3,k4⟩:=s2 R k1 k2;exact hg3 R k3 k4
 ·have hrec:=ih (b'-(mid+1)) (by omega) X n d4 (mid+1) b' lim1 (Nat.le_refl _) (by omega) (by omega) (by omega) (by omega) hlim1 r5
  (iterate 11 refine WK ?_);refine AOps.gN ?_;refine AOps.p (Bc (((mid+1:Nat):Int)) (by omega) (by omega) rfl rfl) rfl ?_;refine KK ?_;refine AOps.g_callf ?_;refine PB (h:=hrec) (k:=λv hv=>?_);refine KK ?_
  obtain⟨v1,v2⟩:=hv;obtain⟨s1,s2⟩:=r7 v v1 v2;refine Ka a' mid lim1 _ ap v ⟨by omega,by omega,by omega,hlim1,v1.1.trans (r3.trans hu3),s1,λR k1 k2=>?_⟩;obtain⟨k3,k4⟩:=s2 R k1 k2;exact hg3 R k3 k4
end
section
open Go.Sort
theorem M7(f:FuncId)(cap:List AV)(cf:Item->Item->Int)(hst:B6 cap=true)(hS:SWO (AZ cf))(hf:∀x y,PS Tryz.prog f (AD false x::AD false y::cap) (iA (cf x y)))(X n:Nat)(l:List Item)(hn:n=l.length)(hlt:l.length<65536):
  Spec Tryz.prog 76 [.sl X 0 n,.fn f cap] [(X,.row 71 3 (l.map (AD false)))] λr S'=>∃u:List Item,(u.Perm l/\u.Pairwise λa b=>AZ cf b a=false)/\r= .tup []/\S'=[(X,.row 71 3 (u.map (AD false)))]:=by
 have e1:(UInt64.ofNat n).toNat=n:=by rw[UInt64.toNat_ofNat'];omega
 have hlen:=Pt (UInt64.ofNat n) (by rw[e1];omega);rw[e1]at hlen;have hsz:l.toArray.size=l.length:=by simp
 have hb:bitsLen n<=1000:=Nat.le_trans ((bitsLen_le_iff n 16).2 (by show n<65536;omega)) (by decide);have hs:=Us f cap cf hst hf hS n X n l.toArray 0 n (bitsLen n) (by omega) (by omega) (Nat.zero_le _) (by omega) (by omega) hb (.inl rfl);simp only[List.toList_toArray]at hs;refine Sp (nt:=14) (res:=[]) Tryz.func76 λSf=>?_
 (iterate 11 refine WK ?_);refine AOps.gN ?_;refine AOps.p (F7 .i64 n rfl (by omega) (by kernel_rfl) (by kernel_rfl) rfl) rfl ?_;refine AOps.g_callf ?_;refine AOps.c1 (h:=(hlen ..)) (k:=?_);refine WK ?_;refine AOps.gN ?_;refine Vh [] (h:=hs) (λu hu=>?_);refine WK ?_
 refine DU ?_;obtain⟨h1,h2⟩:=hu;have h1':PermIn 0 l.toArray.size l.toArray u:=by rw[hsz,<-hn];exact h1
 have hus:n=u.size:=by rw[h1'.1,hsz];exact hn
 exact BN [(X,_)] ⟨u.toList,⟨by simpa using I6 h1',G8 hus h2⟩,rfl,rfl⟩
end
theorem RI(x y:Item):PS Tryz.prog 77 [AD false x,AD false y] (iA (Cp x.ent.n y.ent.n)):=by
 have h:=E8 x.ent.n y.ent.n;obtain⟨⟨xn,xg⟩,xc⟩:=x;obtain⟨⟨yn,yg⟩,yc⟩:=y;refine Sp (nt:=12) (res:=[.tmp 4]) Tryz.func77 λSf=>?_
 refine RG ?_;refine AOps.g_box ?_;refine Ad ?_;refine AOps.g_box ?_;refine Ad ?_;refine JB ?_;refine JI ?_;refine AOps.g_callf ?_;refine AOps.c2 (h:=(h ..)) (k:=?_);refine JB ?_;refine RT ?_;refine AF ?_;rfl
theorem UO{P:Program}{ty:TypeId}{pos:String}{after:Array Edge}{dst:Option Tmp}{c:Option (List Bool)}{g:Option (Nat×Bool)}{T:List (Nat×AV)}{S:List AC}{x0:Operand}{v0:AV}{f:FuncId}{ats:Array TypeId}{r v:AV}[hf:Frz r v](h0:Rd c T x0 v0)(h:PS P f [v0] r)(ht:An [(x0,v0)]=true):Stp c P ⟨dst,.call ⟨.value (.func f),#[x0],ats⟩,ty,pos,after,g⟩ T S [(x0,v0)] [] v []:=hf.h▸W.call1 h0 h ht
theorem J4(t:Tab):(B5 t).length=t.es.length:=AB _
theorem RY{t:Tab}{i:Nat}(h:i<t.es.length):(B5 t)[i]?=some ⟨t.es[i].2,Aa t t.es[i].1⟩:=by
 rw[B5,AH,AI h];rfl
theorem QM(a:Ar)(ha:ArOK a)(hne:Ek a.ts)(hk16:a.kinds.length<=16)(hkf:∀k∈a.kinds,k.fields.length<=8)(hgl:a.gens.length<=256)(hcv:∀it∈Aw a.ts,CsL it.comps):
  Spec Tryz.prog 22 [.ptr a.A 0 0] (arS a) λr S'=>∃L:List Item,(L.Perm (Aw a.ts)/\L.Pairwise λx y=>x.ent.n<=y.ent.n)/\r=wdA false ⟨a.kinds,a.gens,L⟩/\S'=arS a:=by
 have hkp:=GT a.kinds (by omega) (λk hk=>by have:=hkf k hk;omega);have hcl:=LQ a.G a.gens a.gens.length rfl (by omega);have htl:=ha.ts_le hne;have hpt:(ptrs Tab.X a.ts).length=a.ts.length:=AB _;refine Sp (nt:=51) (res:=[.cell 2 26]) Tryz.func22 λSf=>?_
 refine JF ?_;refine Ai λZ=>?_;refine NL ?_
 refine FL ?_;refine AWP.rs λV=>?_
 refine JM ?_;refine RGo.g_callf ?_;refine RGo.c1 (h:=(hkp ..)) (k:=?_);refine KR ?_;refine RGo.g_callf ?_;refine RGo.z1 (h:=hcl) (hT:=.fz) (k:=?_);(iterate 3 refine RK ?_);refine RGo.nil (by kernel_rfl) ?_;refine FL ?_;refine AWP.adoptIn (Y:=V) 71 3 (by exact At.f) (λI=>.cons (.agg (.cons .same (.cons .same (.cons (.base .nil) .nil)))) .nil) λI=>?_
 refine JN ?_;refine D4 (λ(j I:Nat) (its:List Item)=>⟨[(2,.ptr Z 0 0),(3,.ptr V 0 0),(22,.sl a.Tb 0 a.ts.length),(23,iA (a.ts.length:Nat)),(24,iA j)],(I,.row 71 3 (its.map (AD false)))::(V,.row 26 3 [.agg [Ag false false a.kinds,AM false a.gens,.sl I 0 its.length]])::(Z,.row 26 3 [.agg [.prim (.slice none 0 0),.prim (.slice none 0 0),.prim (.slice none 0 0)]])::(arS a++Sf)⟩) (λj _ its=>j<=a.ts.length/\its=Aw (a.ts.take j)) (λj _ _=>a.ts.length-j) 0 I [] ⟨by omega,rfl⟩ ?_;rintro j I its ⟨hj,HY⟩;refine JN ?_;refine AWP.cond rfl (λh=>?_) (λh=>?_)
 ·have h:j<a.ts.length:=by rw[AE]at h;omega
  obtain⟨l1,l2,hsp,hl1⟩:=FZ h;have htm:=AU h;have hto:=ha.tab _ htm;have hten:=ha.ent _ htm;have hat:(ptrs Tab.X a.ts)[j]?=some (.ptr a.ts[j].X 0 0):=BF _ h
  have hnext:Aw (a.ts.take (j+1))=its++B5 a.ts[j]:=by
   rw[List.take_succ_eq_append_getElem h,B4,<-HY,CE];simp[Aw]
  have hcvt:∀it∈B5 a.ts[j],CsL it.comps:=λit hi=>hcv it (List.mem_flatMap.2 ⟨_,htm,hi⟩)
  have hbnd:its.length+(B5 a.ts[j]).length<=256:=by
   have h1:=ha.c_le;rw[ha.cnt,ha.keys_items,AB]at h1
   have h2:Aw a.ts=its++B5 a.ts[j]++Aw l2:=by
    conv=>lhs;rw[hsp]
    rw[B4,CE,HY,<-AT]
    have:l1=a.ts.take j:=by
     have:=congrArg (List.take j) hsp;rw[List.take_left' hl1]at this;exact this.symm
    rw[this]
   rw[h2,AP,AP]at h1;omega
  obtain⟨t,ht⟩:=nm (a.ts[j]);rw[ht]at hsp hto hten hat hnext hcvt hbnd;obtain⟨Z2,hZ2⟩:=nm (BM l1++(BM l2++Sf));have hop:=DJ (l1:=l1) (l2:=l2) (t:=t) Sf;rw[<-hsp,hZ2]at hop;refine JD ?_;refine AOps.gN ?_;refine AOps.go (h:=W.idx rfl rfl (by exact At.f) rfl (by omega) (Nat.zero_add _)) (k:=?_);refine KO ?_;refine Ai λP5=>?_;refine JB ?_
  refine FL ?_;refine AWP.perm (S':=(I,.row 71 3 (its.map (AD false)))::(P5,.row 145 1 [.ptr t.X 0 0])::(V,.row 26 3 [.agg [Ag false false a.kinds,AM false a.gens,.sl I 0 its.length]])::(Ec t++((Z,.row 26 3 [.agg [.prim (.slice none 0 0),.prim (.slice none 0 0),.prim (.slice none 0 0)]])::(arH a++Z2)))) ?_ ?_
  ·refine(List.Perm.swap _ _ _).trans (List.Perm.cons _ (List.Perm.cons _ (List.Perm.cons _ ?_)))
   have h1:=hop.append_left ((Z,AO.row 26 3 [.agg [.prim (.slice none 0 0),.prim (.slice none 0 0),.prim (.slice none 0 0)]])::arH a);refine(List.Perm.of_eq ?_).trans (h1.trans (B7 ((Z,AO.row 26 3 [.agg [.prim (.slice none 0 0),.prim (.slice none 0 0),.prim (.slice none 0 0)]])::arH a) (Ec t) Z2));rw[arS];simp only[BJ,BD]
  have hal:=VT t.ek t.es hto.es;have hI:=UF (AJ t.es) (t.es.map (·.2)) (by simp) (by have:=hto.es.len;rw[AB];omega);refine RG ?_;(iterate 4 refine WO ?_);refine AOps.gN ?_;refine RE [_,_,_,_] (h:=hal) (k:=?_);refine NL ?_;refine FL ?_;refine Qb (Sf:=(Z,.row 26 3 [.agg [.prim (.slice none 0 0),.prim (.slice none 0 0),.prim (.slice none 0 0)]])::(arH a++Z2)) hI (λb:Nat×List Item=>(b.1,AO.row 71 3 (b.2.map (AD false)))::(P5,.row 145 1 [.ptr t.X 0 0])::(V,.row 26 3 [.agg [Ag false false a.kinds,AM false a.gens,.sl b.1 0 b.2.length]])::Ec t) (λi b=>b.2=its++(B5 t).take i) (I,its) (by simp) ?_ ?_ rfl rfl rfl ?_ ?_
  ·rintro i vs ⟨I,is⟩ l F1 F2 hi hb
   dsimp only at hb
   have hn:i<t.es.length:=by
    have:=(List.getElem?_eq_some_iff.1 hi).1;simpa using this
   have hiv:[iA t.es[i].1,BA t.es[i].2]=vs:=by
    rw[AH,AI (by simpa using hn),List.getElem_zip]at hi;simpa using hi
   subst hiv;have hem:=AU hn;have hnk:t.es[i].1∈AJ t.es:=List.mem_map.2 ⟨_,hem,rfl⟩;have hnl:=hto.es.lt _ hnk;have hcs:=Om t t.es[i].1 hto (by constructor<;>omega) hnk;have hti:=RY hn;have hci:=hcvt _ (Aq hti);have hcc:=D0 (Aa t t.es[i].1) hci.1 hci.2;have hil:i<(B5 t).length:=by rw[J4];exact hn
   have hnx:is++[⟨t.es[i].2,Aa t t.es[i].1⟩]=its++(B5 t).take (i+1):=by
    rw[hb,List.take_add_one,hti,AT];rfl
   have hisl:is.length<=256:=by rw[hb,AP,Aj];omega
   obtain⟨⟨en,ee⟩,hee⟩:=nm (t.es[i]);rw[hee]at hcs hcc hnx;rw[hee];dsimp only at hcs hcc hnx⊢;obtain⟨lc,hlc⟩:=nm (Aa t en);rw[hlc]at hcs hcc hnx;have hma:is.map (AD false)++[AD false ⟨ee,lc⟩]=(is++[(⟨ee,lc⟩:Item)]).map (AD false):=by rw[List.map_append];rfl
   have hml:is.length+[AD false ⟨ee,lc⟩].length=(is++[(⟨ee,lc⟩:Item)]).length:=by rw[AP];rfl
   refine JC ?_;refine JJ ?_;refine Ai λE7=>?_;refine JB ?_
   refine⟨(E7,.row 32 2 [BA ee])::(I,.row 71 3 (is.map (AD false)))::(P5,AO.row 145 1 [.ptr t.X 0 0])::(V,.row 26 3 [.agg [Ag false false a.kinds,AM false a.gens,.sl I 0 is.length]])::Ec t,.refl _,?_⟩;refine FL ?_;refine AWP.rs λY=>?_
   (repeat refine WF ?_);refine GI 5 (by kernel_rfl) (by kernel_rfl) ?_;refine RGoT.go ?_;refine RGoT.go ?_;refine RGoT.go ?_;refine RGoT.go ?_;refine RGoT.go ?_;refine RGoT.callK (xs:=[(.tmp 38,.ptr t.X 0 0),(.tmp 39,iA en)]) (L:=[_,_,_,_,_]) (R:=F2) hcs (.fz (v:=Ax false false lc)) rfl (Nat.le_refl 5) (.cons rfl (.cons rfl .nil)) rfl rfl ?_;refine RGoT.go (h:=UO (v:=Ax false false lc) rfl hcc rfl) ?_;refine RGoT.go ?_;refine RGoT.go (v:=.lst false 71 3 [AD false ⟨ee,lc⟩]) (h:=W.litF1 (v0:=AD false ⟨ee,lc⟩) rfl rfl (.inl rfl) (by decide) (by decide) rfl) ?_;refine RGoT.goS (h:=W.app (X:=I) (Y:=Y) rfl rfl (by exact At.f) (by exact At.f) (by rw[AB]) (by rw[AB];show(is.length+1)*40<=_;omega) (by rw[AB];unfold maxLen;show is.length+1<=_;omega) (by decide)) ?_;refine RGoT.go ?_;refine RGoT.goS ?_;refine RGoT.nil (by kernel_rfl) ?_;rw[hma,hml];refine⟨(Y,.row 71 3 ((is++[(⟨ee,lc⟩:Item)]).map (AD false)))::(P5,AO.row 145 1 [.ptr t.X 0 0])::(V,.row 26 3 [.agg [Ag false false a.kinds,AM false a.gens,.sl Y 0 (is++[(⟨ee,lc⟩:Item)]).length]])::Ec t,?_,(Y,is++[(⟨ee,lc⟩:Item)]),hnx,rfl⟩;exact .cons _ (.cons _ (.refl _))
  ·rintro⟨I,is⟩ hb
   dsimp only at hb;have hxl:((AJ t.es).zip (t.es.map (·.2))).length=t.es.length:=by simp
   rw[AB,hxl,<-J4,List.take_length]at hb;refine FL ?_;refine AWP.perm (S':=(P5,.row 145 1 [.ptr t.X 0 0])::(I,.row 71 3 (is.map (AD false)))::(V,.row 26 3 [.agg [Ag false false a.kinds,AM false a.gens,.sl I 0 is.length]])::(Z,.row 26 3 [.agg [.prim (.slice none 0 0),.prim (.slice none 0 0),.prim (.slice none 0 0)]])::(arS a++Sf)) ?_ ?_
   ·refine(List.Perm.swap _ _ _).trans (List.Perm.cons _ (List.Perm.cons _ (List.Perm.cons _ ?_)))
    have h1:=hop.append_left ((Z,AO.row 26 3 [.agg [.prim (.slice none 0 0),.prim (.slice none 0 0),.prim (.slice none 0 0)]])::arH a);refine List.Perm.trans (B7 (Ec t) ((Z,AO.row 26 3 [.agg [.prim (.slice none 0 0),.prim (.slice none 0 0),.prim (.slice none 0 0)]])::arH a) Z2) (h1.symm.trans (List.Perm.of_eq ?_));rw[arS];simp only[BJ,BD]
   ·refine R1 ?_
    exact CW (j+1) I is ⟨by omega,by rw[hb,hnext]⟩ (by omega)
  ·intro vs hvs
   obtain⟨q,_,rfl⟩:=List.mem_map.1 hvs;rfl
  ·exact .refl _
 ·have h:j=a.ts.length:=by rw[AN]at h;omega
  subst h;rw[List.take_length]at HY
  have hilen:its.length<=256:=by
   have h1:=ha.c_le;rw[ha.cnt,ha.keys_items,AB]at h1;rw[HY];omega
  have hso:=M7 77 [] (λx y=>Cp x.ent.n y.ent.n) rfl (M6 λx:Item=>x.ent.n) RI I its.length its rfl (by omega);refine JJ ?_;refine WO ?_;refine AOps.gN ?_;refine Ju [] (h:=hso) (λu hu=>?_);refine NL ?_;obtain⟨hu1,hu2⟩:=hu;have hul:=hu1.length_eq
  have hF:AV.frzs (((u.map (AD false)).drop 0).take its.length)=u.map (AD false):=by
   rw[List.drop_zero,List.take_of_length_le (by rw[AB];omega)];exact Frzs.h
  refine FL ?_;refine AWP.iceIn (X:=I) (Y:=V) .here (.next .here) rfl (.cons (.agg (.cons .same (.cons .same (.cons (.base (.sl (by rw[AB];omega))) .nil)))) .nil) ?_;rw[hF];refine R1 ?_;refine RT ?_
  exact Ends.sp [wdA false ⟨a.kinds,a.gens,u⟩] (arS a) ⟨u,⟨by rw[<-HY];exact hu1,hu2.imp λ{x y} h=>by
   simp only[AZ,AN,GY]at h;omega⟩,rfl,rfl⟩
end Go.Proofs.YtiidbamlcgbpnaaGreat
