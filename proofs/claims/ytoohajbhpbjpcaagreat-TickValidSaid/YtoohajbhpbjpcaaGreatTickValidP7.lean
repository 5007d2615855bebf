/-
  Part 7 of the texts under the law TickValid: the layer of abstract values, walks and plain laws. Conditions: those that each theorem names.
-/
import Derived.Test.YtoohajbhpbjpcaaGreatTickValidP6
namespace Go.Proofs.YtoohajbhpbjpcaaGreat
set_option linter.unusedVariables false
set_option linter.unusedSimpArgs false
set_option linter.defProp false
set_option maxRecDepth 10000
set_option maxHeartbeats 4000000
theorem TX(k:StK)(l:List (Int×Ent)):Spec Tryz.prog 236 [.ptr k.X 0 0] (stE k l) λr S'=>r=iA (l.length:Nat)/\S'=stE k l:=by
 refine Sp (nt:=8) (res:=[.tmp 2]) Tryz.func236 λSf=>?_
 refine R1 ?_;refine FL ?_;refine R1 ?_;refine RT ?_;exact Ends.sp [iA (l.length:Nat)] (stE k l) ⟨rfl,rfl⟩
theorem S7(k:StK)(l:List (Int×Ent))(hl:ColOK l)(n:Int)(hn:I64 n)(v:Ent)(hg:Cs l n=some v):Spec Tryz.prog 231 [.ptr k.X 0 0,iA n] (stE k l) λr S'=>r= .tup [A8 v,bA true]/\S'=stE k l:=by
 have hlen:=hl.len;have hk:n∈AJ l:=Classical.byContradiction λh=>by rw[D8 h]at hg;cases hg
 obtain⟨u,hv⟩:=Ew hk;have hi:=Ev hk;have hg2:Cs l n=some u:=by unfold Cs;rw[hv];rfl
 rw[hg]at hg2;injection hg2 with hg2
 subst hg2;have hat:(l.map λe=>A8 e.2)[(AJ l).idxOf n]?=some (A8 v):=by rw[AF,hv];rfl
 have hix:=C2 hk;obtain⟨i,hi2⟩:∃i,(AJ l).idxOf n=i:=⟨_,rfl⟩;rw[hi2]at hi hat hix;have h1:(ixG (AJ l) n).getD (.int .i64 0)= .int .i64 (i:Nat):=by rw[hix];rfl
 have h2:(ixG (AJ l) n).isSome=true:=by rw[hix];rfl
 refine Sp (nt:=28) (res:=[.cell 4 51,.tmp 5]) Tryz.func231 λSf=>?_
 refine RG ?_;refine WO ?_;refine Ai λZ=>?_;refine WO ?_;refine NL ?_
 refine FL ?_;refine RG ?_;(iterate 5 refine WO ?_);refine AOps.gN ?_;refine AOps.go (h:=EJ _ _ h1 h2 hn rfl rfl (by exact At.f)) (k:=?_);refine KO ?_;refine NL ?_;refine FL ?_;refine R1 ?_;refine FL ?_;refine AA rfl rfl ?_;refine FL ?_;refine RG ?_;(iterate 5 refine WO ?_);refine AOps.gN ?_;refine AOps.go (h:=W.idx rfl rfl (by exact At.f) rfl (by omega) (Nat.zero_add _)) (k:=?_);refine KO ?_;refine NL ?_;refine RT ?_;exact Ends.sp [A8 v,bA true] (stE k l) ⟨rfl,rfl⟩
theorem TN(k:StK)(l:List (Int×Ent))(hl:ColOK l)(n:Int)(hn:I64 n):Spec Tryz.prog 234 [.ptr k.X 0 0,iA n] (stE k l) λr S'=>r=iA (if n∈AJ l then 0 else 4)/\S'=stE k (BX l n):=by
 have hlen:=hl.len;by_cases hk:n∈AJ l
 ·rw[if_pos hk]
  obtain⟨u,hu⟩:=Ew hk;have hi:=Ev hk;obtain⟨⟨en,ev⟩,he⟩:=JJ (l:=l) (by omega);have hdl:=JX hk;have hdr:BX l n=(l.set ((AJ l).idxOf n) (en,ev)).take (l.length-1):=by unfold BX;rw[if_pos hk,he]
  rw[hdr]at hdl⊢;have hix:=C2 hk;obtain⟨i,hi2⟩:∃i,(AJ l).idxOf n=i:=⟨_,rfl⟩;rw[hi2]at hi hu hix hdl⊢;have hkl:(AJ l).length=l.length:=AB _;have hki:(AJ l)[i]?=some n:=by rw[AJ,AF,hu];rfl
  have hke:(AJ l)[(AJ l).length-1]?=some en:=by rw[hkl,AJ,AF,he];rfl
  have hgd:=Nn hl.nd hki hke;have h1:(ixG (AJ l) n).getD (.int .i64 0)= .int .i64 (i:Nat):=by rw[hix];rfl
  have h2:(ixG (AJ l) n).isSome=true:=by rw[hix];rfl
  have hem:en∈AJ l:=Ao hke;have hen:=hl.lt en hem;have h3:(ixG (AJ l) en).isSome=true:=by rw[C2 hem];rfl
  have hsz:(if(ixG (AJ l) en).isSome then l.length else l.length+1)=l.length:=by rw[h3];rfl
  have h4:(EM (ixG (AJ l)) en (.int .i64 (i:Nat)) n).isSome=true:=by
   unfold EM;split
   ·rfl
   ·exact h2
  have hsz2:(if(EM (ixG (AJ l)) en (.int .i64 (i:Nat)) n).isSome then l.length else l.length)=l.length:=by split<;>rfl
  have hsz3:(if(EM (ixG (AJ l)) en (.int .i64 (i:Nat)) n).isSome then l.length-1 else l.length)=l.length-1:=by rw[h4];rfl
  have hmx:l.length<maxLen:=by unfold maxLen;omega
  have hmi:i<maxLen:=by unfold maxLen;omega
  have hr1:(l.map λe=>iA e.1)[l.length-1]?=some (iA en):=by rw[AF,he];rfl
  have hv1:(l.map λe=>A8 e.2)[l.length-1]?=some (A8 ev):=by rw[AF,he];rfl
  have hrs:(l.map λe=>iA e.1).set i (iA en)=(l.set i (en,ev)).map λe=>iA e.1:=by rw[List.map_set]
  have hvs:(l.map λe=>A8 e.2).set i (A8 ev)=(l.set i (en,ev)).map λe=>A8 e.2:=by rw[List.map_set]
  have hri:((l.set i (en,ev)).map λe=>iA e.1)[i]?=some (iA en):=by rw[AF,List.getElem?_set_self hi];rfl
  have hrl:(l.map λe=>iA e.1).length=l.length:=AB _;have hvl:(l.map λe=>A8 e.2).length=l.length:=AB _
  have hvz:((l.map λe=>A8 e.2).set i (A8 ev))[l.length-1]?=some (A8 ev):=by
   rw[hvs];rw[AF];by_cases h:i=l.length-1
   ·rw[<-h,List.getElem?_set_self hi];rfl
   ·rw[List.getElem?_set_ne h,he];rfl
  have hvt:(((l.map λe=>A8 e.2).set i (A8 ev)).set (l.length-1) (A8 ⟨0,0⟩)).take (l.length-1)=((l.set i (en,ev)).take (l.length-1)).map λe=>A8 e.2:=by
   rw[hvs];rw[List.take_set_of_le (Nat.le_refl _),List.map_take]
  have hrt:((l.set i (en,ev)).map λe=>iA e.1).take (l.length-1)=((l.set i (en,ev)).take (l.length-1)).map λe=>iA e.1:=by rw[List.map_take]
  have hkt:ixG (((AJ l).set i en).take ((AJ l).length-1))=ixG (AJ ((l.set i (en,ev)).take (l.length-1))):=by
   rw[hkl,AJ,AJ,List.map_take,List.map_set]
  refine Sp (nt:=94) (res:=[.tmp 4]) Tryz.func234 λSf=>?_
  refine R1 ?_;refine FL ?_;refine RG ?_;(iterate 5 refine WO ?_);refine AOps.gN ?_;refine AOps.go (h:=EJ _ _ h1 h2 hn rfl rfl (by exact At.f)) (k:=?_);refine KO ?_;refine NL ?_;refine FL ?_;refine R1 ?_;refine FL ?_;refine AA rfl rfl ?_;refine FL ?_;refine RG ?_;(iterate 5 refine WO ?_);refine AOps.gN ?_;refine AOps.go (h:=A7 ((l.length-1:Nat):Int) (by omega) (by omega) rfl rfl) (k:=?_);refine WO ?_;refine NL ?_;refine FL ?_;refine RU ?_;(repeat first|(refine RGo.gN ?_;first|refine RGo.go (h:=W.idx (a:=l.length-1) rfl rfl (by exact At.f) rfl (by omega) (Nat.zero_add _)) (k:=?_)|refine RGo.go (h:=W.idx (a:=i) rfl rfl (by exact At.f) rfl (by omega) (Nat.zero_add _)) (k:=?_))|(refine RGo.gQ ?_;first|refine RGo.go (h:=W.idx (a:=l.length-1) rfl rfl (by exact At.f) rfl (by omega) (Nat.zero_add _)) (k:=?_)|refine RGo.go (h:=W.idx (a:=i) rfl rfl (by exact At.f) rfl (by omega) (Nat.zero_add _)) (k:=?_))|refine RK ?_|refine RGo.nil (by kernel_rfl) ?_);rw[hrs];refine FL ?_;refine RU ?_;(iterate 9 refine RK ?_);refine RGo.gN ?_;refine RGo.go (h:=W.idx (a:=i) rfl rfl (by exact At.f) rfl (by omega) (Nat.zero_add _)) (k:=?_);refine RK ?_;refine RK ?_;refine RGo.gN ?_;refine RGo.goS (h:=W.mapUpd (PlainV.int (by kernel_rfl) (GW (by omega))) (by omega) hmx rfl rfl rfl (by exact At.f)) (k:=?_);refine RGo.nil (by kernel_rfl) ?_;rw[hsz];refine FL ?_;refine RG ?_;(iterate 5 refine WO ?_);refine AOps.gN ?_;refine AOps.goS (h:=W.mapDel hn rfl rfl (by exact At.f)) (k:=?_);refine NL ?_;rw[hsz3,hgd];refine FL ?_;refine RG ?_;refine WO ?_;refine Ai λZ=>?_;refine NL ?_
  refine FL ?_;refine RU ?_;(iterate 6 refine RK ?_);refine RGo.gN ?_;refine RGo.go (h:=W.idx (a:=l.length-1) rfl rfl (by exact At.f) rfl (by omega) (Nat.zero_add _)) (k:=?_);refine RK ?_;refine RGo.nil (by kernel_rfl) ?_;refine FL ?_;refine RU ?_;(repeat first|(refine RGo.gN ?_;first|refine RGo.go (h:=W.hi (a:=l.length-1) rfl rfl (by exact At.f) rfl (by omega)) (k:=?_))|(refine RGo.gQ ?_;first|refine RGo.go (h:=W.hi (a:=l.length-1) rfl rfl (by exact At.f) rfl (by omega)) (k:=?_))|refine RK ?_|refine RGo.nil (by kernel_rfl) ?_);refine FL ?_;refine R1 ?_;refine AWP.shrink (X:=k.V) (l.length-1) ?_;refine AWP.shrink (X:=k.R) (l.length-1) ?_;refine AWP.front k.M ?_;refine AWP.front k.R ?_;refine AWP.front k.V ?_;refine AWP.front k.X ?_;refine RT ?_;exact Ends.sp [iA 0] _ ⟨rfl,Ok (n:=l.length-1) (m:=l.length-1) (c:=l.length-1) hdl.symm hdl.symm hvt hrt hkt hdl.symm⟩
 ·rw[if_neg hk,FT hk]
  have hix:=Fu hk;have h1:(ixG (AJ l) n).getD (.int .i64 0)= .int .i64 0:=by rw[hix];rfl
  have h2:(ixG (AJ l) n).isSome=false:=by rw[hix];rfl
  refine Sp (nt:=94) (res:=[.tmp 4]) Tryz.func234 λSf=>?_
  refine R1 ?_;refine FL ?_;refine RG ?_;(iterate 5 refine WO ?_);refine AOps.gN ?_;refine AOps.go (h:=EJ _ _ h1 h2 hn rfl rfl (by exact At.f)) (k:=?_);refine KO ?_;refine NL ?_;refine FL ?_;refine R1 ?_;refine FL ?_;refine AP rfl rfl ?_;refine KK ?_;refine RT ?_;exact Ends.sp [iA 4] (stE k l) ⟨rfl,rfl⟩
theorem TL(k:StK)(l:List (Int×List Int))(hl:ColOK l)(n:Int)(hn:I64 n):Spec Tryz.prog 235 [.ptr k.X 0 0,iA n] (stS k l) λr S'=>r=iA (if n∈AJ l then 0 else 4)/\S'=stS k (BX l n):=by
 have hlen:=hl.len;by_cases hk:n∈AJ l
 ·rw[if_pos hk]
  obtain⟨u,hu⟩:=Ew hk;have hi:=Ev hk;obtain⟨⟨en,ev⟩,he⟩:=JJ (l:=l) (by omega);have hdl:=JX hk;have hdr:BX l n=(l.set ((AJ l).idxOf n) (en,ev)).take (l.length-1):=by unfold BX;rw[if_pos hk,he]
  rw[hdr]at hdl⊢;have hix:=C2 hk;obtain⟨i,hi2⟩:∃i,(AJ l).idxOf n=i:=⟨_,rfl⟩;rw[hi2]at hi hu hix hdl⊢;have hkl:(AJ l).length=l.length:=AB _;have hki:(AJ l)[i]?=some n:=by rw[AJ,AF,hu];rfl
  have hke:(AJ l)[(AJ l).length-1]?=some en:=by rw[hkl,AJ,AF,he];rfl
  have hgd:=Nn hl.nd hki hke;have h1:(ixG (AJ l) n).getD (.int .i64 0)= .int .i64 (i:Nat):=by rw[hix];rfl
  have h2:(ixG (AJ l) n).isSome=true:=by rw[hix];rfl
  have hem:en∈AJ l:=Ao hke;have hen:=hl.lt en hem;have h3:(ixG (AJ l) en).isSome=true:=by rw[C2 hem];rfl
  have hsz:(if(ixG (AJ l) en).isSome then l.length else l.length+1)=l.length:=by rw[h3];rfl
  have h4:(EM (ixG (AJ l)) en (.int .i64 (i:Nat)) n).isSome=true:=by
   unfold EM;split
   ·rfl
   ·exact h2
  have hsz2:(if(EM (ixG (AJ l)) en (.int .i64 (i:Nat)) n).isSome then l.length else l.length)=l.length:=by split<;>rfl
  have hsz3:(if(EM (ixG (AJ l)) en (.int .i64 (i:Nat)) n).isSome then l.length-1 else l.length)=l.length-1:=by rw[h4];rfl
  have hmx:l.length<maxLen:=by unfold maxLen;omega
  have hmi:i<maxLen:=by unfold maxLen;omega
  have hr1:(l.map λe=>iA e.1)[l.length-1]?=some (iA en):=by rw[AF,he];rfl
  have hv1:(l.map λe=>AQ false e.2)[l.length-1]?=some (AQ false ev):=by rw[AF,he];rfl
  have hrs:(l.map λe=>iA e.1).set i (iA en)=(l.set i (en,ev)).map λe=>iA e.1:=by rw[List.map_set]
  have hvs:(l.map λe=>AQ false e.2).set i (AQ false ev)=(l.set i (en,ev)).map λe=>AQ false e.2:=by rw[List.map_set]
  have hri:((l.set i (en,ev)).map λe=>iA e.1)[i]?=some (iA en):=by rw[AF,List.getElem?_set_self hi];rfl
  have hrl:(l.map λe=>iA e.1).length=l.length:=AB _;have hvl:(l.map λe=>AQ false e.2).length=l.length:=AB _
  have hvz:((l.set i (en,ev)).map λe=>AQ false e.2)[l.length-1]?=some (AQ false ev):=by
   rw[AF];by_cases h:i=l.length-1
   ·rw[<-h,List.getElem?_set_self hi];rfl
   ·rw[List.getElem?_set_ne h,he];rfl
  have hvt:(((l.set i (en,ev)).map λe=>AQ false e.2).set (l.length-1) (.prim (.slice none 0 0))).take (l.length-1)=((l.set i (en,ev)).take (l.length-1)).map λe=>AQ false e.2:=by
   rw[List.take_set_of_le (Nat.le_refl _),List.map_take]
  have hrt:((l.set i (en,ev)).map λe=>iA e.1).take (l.length-1)=((l.set i (en,ev)).take (l.length-1)).map λe=>iA e.1:=by rw[List.map_take]
  have hkt:ixG (((AJ l).set i en).take ((AJ l).length-1))=ixG (AJ ((l.set i (en,ev)).take (l.length-1))):=by
   rw[hkl,AJ,AJ,List.map_take,List.map_set]
  refine Sp (nt:=94) (res:=[.tmp 4]) Tryz.func235 λSf=>?_
  refine R1 ?_;refine FL ?_;refine RG ?_;(iterate 5 refine WO ?_);refine AOps.gN ?_;refine AOps.go (h:=EJ _ _ h1 h2 hn rfl rfl (by exact At.f)) (k:=?_);refine KO ?_;refine NL ?_;refine FL ?_;refine R1 ?_;refine FL ?_;refine AA rfl rfl ?_;refine FL ?_;refine RG ?_;(iterate 5 refine WO ?_);refine AOps.gN ?_;refine AOps.go (h:=A7 ((l.length-1:Nat):Int) (by omega) (by omega) rfl rfl) (k:=?_);refine WO ?_;refine NL ?_;refine FL ?_;refine RU ?_;(repeat first|(refine RGo.gN ?_;first|refine RGo.go (h:=W.idx (a:=l.length-1) rfl rfl (by exact At.f) rfl (by omega) (Nat.zero_add _)) (k:=?_)|refine RGo.go (h:=W.idx (a:=i) rfl rfl (by exact At.f) rfl (by omega) (Nat.zero_add _)) (k:=?_))|(refine RGo.gQ ?_;first|refine RGo.go (h:=W.idx (a:=l.length-1) rfl rfl (by exact At.f) rfl (by omega) (Nat.zero_add _)) (k:=?_)|refine RGo.go (h:=W.idx (a:=i) rfl rfl (by exact At.f) rfl (by omega) (Nat.zero_add _)) (k:=?_))|refine RK ?_|refine RGo.nil (by kernel_rfl) ?_);rw[hrs,hvs];refine FL ?_;refine RU ?_;(iterate 9 refine RK ?_);refine RGo.gN ?_;refine RGo.go (h:=W.idx (a:=i) rfl rfl (by exact At.f) rfl (by omega) (Nat.zero_add _)) (k:=?_);refine RK ?_;refine RK ?_;refine RGo.gN ?_;refine RGo.goS (h:=W.mapUpd (PlainV.int (by kernel_rfl) (GW (by omega))) (by omega) hmx rfl rfl rfl (by exact At.f)) (k:=?_);refine RGo.nil (by kernel_rfl) ?_;rw[hsz];refine FL ?_;refine RG ?_;(iterate 5 refine WO ?_);refine AOps.gN ?_;refine AOps.goS (h:=W.mapDel hn rfl rfl (by exact At.f)) (k:=?_);refine NL ?_;rw[hsz3,hgd];refine FL ?_;refine R1 ?_;refine FL ?_;refine RG ?_;(iterate 6 refine WO ?_);refine AOps.gN ?_;refine AOps.go (h:=W.idx (a:=l.length-1) rfl rfl (by exact At.f) rfl (by omega) (Nat.zero_add _)) (k:=?_);refine WO ?_;refine NL ?_;refine FL ?_;refine RU ?_;(repeat first|(refine RGo.gN ?_;first|refine RGo.go (h:=W.hi (a:=l.length-1) rfl rfl (by exact At.f) rfl (by omega)) (k:=?_))|(refine RGo.gQ ?_;first|refine RGo.go (h:=W.hi (a:=l.length-1) rfl rfl (by exact At.f) rfl (by omega)) (k:=?_))|refine RK ?_|refine RGo.nil (by kernel_rfl) ?_);refine FL ?_;refine R1 ?_;refine AWP.shrink (X:=k.V) (l.length-1) ?_;refine AWP.shrink (X:=k.R) (l.length-1) ?_;refine AWP.front k.M ?_;refine AWP.front k.R ?_;refine AWP.front k.V ?_;refine AWP.front k.X ?_;refine RT ?_;exact Ends.sp [iA 0] _ ⟨rfl,Oj (n:=l.length-1) (m:=l.length-1) (c:=l.length-1) hdl.symm hdl.symm hvt hrt hkt hdl.symm⟩
 ·rw[if_neg hk,FT hk]
  have hix:=Fu hk;have h1:(ixG (AJ l) n).getD (.int .i64 0)= .int .i64 0:=by rw[hix];rfl
  have h2:(ixG (AJ l) n).isSome=false:=by rw[hix];rfl
  refine Sp (nt:=94) (res:=[.tmp 4]) Tryz.func235 λSf=>?_
  refine R1 ?_;refine FL ?_;refine RG ?_;(iterate 5 refine WO ?_);refine AOps.gN ?_;refine AOps.go (h:=EJ _ _ h1 h2 hn rfl rfl (by exact At.f)) (k:=?_);refine KO ?_;refine NL ?_;refine FL ?_;refine R1 ?_;refine FL ?_;refine AP rfl rfl ?_;refine KK ?_;refine RT ?_;exact Ends.sp [iA 4] (stS k l) ⟨rfl,rfl⟩
theorem PJ(X V n i:Nat)(l:List AV)(e:AV)(hn:n=l.length)(hi:i<=n)(hb:(n+1)*8<=140737488355328)(hfr:FreeL l)(hfe:FreeE e)(hw:∀x∈l,x.width=1)(hwe:e.width=1)(hze:AV.frzs [e]=[e]):
  Spec Tryz.prog 212 [.sl X 0 n,iA i,.sl V 0 1] [(X,.row 271 1 l),(V,.row 271 1 [e])] λr S'=>r= .lst true 271 1 (l.take i++e::l.drop i)/\S'=[]:=by
 refine Sp (nt:=95) (res:=[.tmp 6]) Tryz.func212 λSf=>?_
 have hfV:FreeL [e]:=λx hx=>by rw[List.mem_singleton.1 hx];exact hfe
 have hwV:∀x∈[e],x.width=1:=λx hx=>by rw[List.mem_singleton.1 hx];exact hwe
 refine R1 ?_;refine RG ?_;refine WO ?_;refine WO ?_;refine AOps.gN ?_;refine AOps.p (W.slice_lo rfl rfl (by exact At.f) rfl (by omega)) rfl ?_;refine NL ?_;refine R1 ?_;refine R1 ?_;refine AA rfl rfl ?_;refine R1 ?_;refine R1 ?_;by_cases hin:i=n
 ·refine AP rfl (Ah (by omega)) ?_
  refine Gd 2 [e] hze ?_;have hbb:(n+[e].length)*8<=140737488355328:=hb;refine KK ?_;refine Ay λY=>?_;refine KK ?_
  refine RT ?_;have hm:n+[e].length=(l++[e]).length:=by rw[AI,hn]
  have hr:l++[e]=l.take i++e::l.drop i:=by rw[hin,hn,List.take_length,List.drop_length]
  rw[<-hr];exact⟨[.sl Y 0 (n+[e].length)],[.lst true 271 1 (l++[e])],_,[],.cons (.tmp rfl) rfl .nil,.cons (.cell (.sl (p:=0) .here hm)) .nil,by exact Sub.f,rfl,rfl⟩
 ·refine AA rfl (AK (by omega)) ?_
  refine AWP.cap X λZ c u0 hc hnc=>?_
  refine RG ?_;(iterate 4 refine WO ?_);refine AOps.gN ?_;refine AOps.p (W.cap hc rfl (by exact At.f) (by exact At.f)) rfl ?_;refine WO ?_;refine NL ?_;refine AWP.cond rfl (λhg=>?_) (λhg=>?_)
  ·have hcn:c<n+1:=by rw[AD]at hg;omega
   refine AWP.rs λY=>?_
   refine RG ?_;(repeat first|(refine AOps.gN ?_;first|refine AOps.p (W.hi (a:=i) rfl rfl (by exact At.f) rfl hi) rfl ?_|refine AOps.p (A7 ((n+1-i:Nat):Int) (by omega) (by omega) rfl rfl) rfl ?_|refine AOps.s (U4 (n+1-i) hc rfl rfl (by exact At.f) (by exact At.f) (by exact At.f) rfl (by exact .inr rfl) (by rfl) (by kernel_rfl) (by omega) (by omega) (by decide) (by omega) (by omega) hfr) rfl ?_)|refine WO ?_|refine Ai λX=>?_|refine Ay λY=>?_);have hsum:i+(n+1-i)=n+1:=by omega
   obtain⟨l1,hl1⟩:∃l1,l.take i++List.replicate (n+1-i) (zAV [.pointer none] false)=l1:=⟨_,rfl⟩;have hti:(l.take i).length=i:=by rw[Ag];omega
   have hl1n:l1.length=n+1:=by rw[<-hl1,AI,hti,List.length_replicate,hsum]
   have hfr1:FreeL l1:=λx hx=>by
    rw[<-hl1]at hx;rcases List.mem_append.1 hx with hx|hx
    ·exact hfr x (List.mem_of_mem_take hx)
    ·rw[List.eq_of_mem_replicate hx]
     exact FreeE.prim _
   have htk:l1.take i=l.take i:=by rw[<-hl1,List.take_left' hti]
   rw[hl1,hsum];refine FL ?_;refine RG ?_;refine WO ?_;refine WO ?_;refine AOps.gN ?_;refine AOps.p (W.slice_lo rfl rfl (by exact At.f) rfl (by omega)) rfl ?_;refine WO ?_;refine AOps.gN ?_;refine AOps.s (W.copyO 1 rfl rfl (by exact At.f) (by exact At.f) (by rfl) (by omega) (by omega) (by omega) (by omega) (by exact Nat.le_refl _) hfr1 hfV hwV) rfl ?_;obtain⟨l2,hl2⟩:∃l2,l1.take (0+i)++([e].drop 0).take 1++l1.drop (0+i+1)=l2:=⟨_,rfl⟩;rw[hl2];have hl2n:l2.length=n+1:=by rw[<-hl2];simp only[AI,Ag,Bh,List.length_singleton];omega
   have hfr2:FreeL l2:=λx hx=>by
    rw[<-hl2]at hx;rcases List.mem_append.1 hx with hx|hx
    ·rcases List.mem_append.1 hx with hx|hx
     ·exact hfr1 x (List.mem_of_mem_take hx)
     ·exact hfV x (List.mem_of_mem_drop (List.mem_of_mem_take hx))
    ·exact hfr1 x (List.mem_of_mem_drop hx)
   have htk2:l2.take (0+(i+1))=l.take i++[e]:=by
    rw[<-hl2,Nat.zero_add,Nat.zero_add,htk];exact List.take_left' (by simp[hti])
   refine FL ?_;refine RU ?_;(iterate 3 refine RK ?_);refine RGo.gN ?_;refine RGo.go (h:=Bb ((i+1:Nat):Int) (by omega) (by omega) rfl rfl) (k:=?_);refine RGo.gN ?_;refine RGo.go (h:=W.slice_lo rfl rfl (by exact At.f) rfl (by omega)) (k:=?_);refine RK ?_;refine RK ?_;refine RGo.gN ?_;refine RGo.go (h:=W.slice_lo rfl rfl (by exact At.f) rfl (by omega)) (k:=?_);refine RGo.gN ?_;refine RGo.goS (h:=W.copyO (n-i) rfl rfl (by exact At.f) (by exact At.f) (by rfl) (by omega) (by omega) (by omega) (by omega) (by omega) hfr2 hfr hw) (k:=?_);refine RGo.nil (by kernel_rfl) ?_;obtain⟨l3,hl3⟩:∃l3,l2.take (0+(i+1))++(l.drop (0+i)).take (n-i)++l2.drop (0+(i+1)+(n-i))=l3:=⟨_,rfl⟩;rw[hl3]
   have hr:l3=l.take i++e::l.drop i:=by
    have e1:l2.drop (0+(i+1)+(n-i))=[]:=List.drop_of_length_le (by omega);have e2:(l.drop (0+i)).take (n-i)=l.drop i:=by rw[Nat.zero_add];exact List.take_of_length_le (by rw[Bh];omega)
    rw[<-hl3,htk2,e1,e2,List.append_nil,AM];rfl
   have hm:n+1=l3.length:=by
    rw[hr];simp only[AI,BU,Bh,hti];omega
   refine KK ?_;refine RT ?_;rw[<-hr];exact⟨[.sl Y 0 (n+1)],[.lst true 271 1 l3],_,[],.cons (.tmp rfl) rfl .nil,.cons (.cell (.sl (p:=0) .here hm)) .nil,by exact Sub.f,rfl,rfl⟩
  ·have hcn:n+1<=c:=by rw[AL]at hg;omega
   refine RG ?_;(iterate 4 refine WO ?_);refine AOps.gN ?_;refine AOps.p (Tm (n+1) hc rfl rfl (by exact At.f) (by exact At.f) (by omega) hcn) rfl ?_;refine WO ?_;refine NL ?_;refine RG ?_;(iterate 4 refine WO ?_);refine AOps.gN ?_;refine AOps.p (Bb ((i+1:Nat):Int) (by omega) (by omega) rfl rfl) rfl ?_;refine AOps.gN ?_;refine AOps.p (W.slice_lo rfl rfl (by exact At.f) rfl (by omega)) rfl ?_;refine AOps.p (W.over (t:=262) (tR:=4) Tryz.func229 (by kernel_rfl) (by kernel_rfl) (by kernel_rfl) (by kernel_rfl) rfl rfl (by exact At.f) (by exact At.f) (by rfl) (by decide) (by omega) (by omega)) rfl ?_;refine WO ?_;refine FL ?_;refine AP rfl rfl ?_;refine RU ?_;(iterate 3 refine RK ?_);refine RGo.gN ?_;refine RGo.go (h:=Bb ((i+1:Nat):Int) (by omega) (by omega) rfl rfl) (k:=?_);refine RGo.gN ?_;refine RGo.go (h:=W.slice_lo rfl rfl (by exact At.f) rfl (by omega)) (k:=?_);refine RK ?_;refine RK ?_;refine RGo.gN ?_;refine RGo.go (h:=W.slice_lo rfl rfl (by exact At.f) rfl (by omega)) (k:=?_);refine RGo.gN ?_;refine RGo.goS (h:=W.copyS (n-i) rfl rfl (by exact At.f) (by omega) (by omega) (by omega) (by omega) (by omega) hfr hw) (k:=?_);refine RGo.nil (by kernel_rfl) ?_;have hti:(l.take i).length=i:=by rw[Ag];omega
   obtain⟨l1,hl1⟩:∃l1,l.take (0+(i+1))++(l.drop (0+i)).take (n-i)++l.drop (0+(i+1)+(n-i))=l1:=⟨_,rfl⟩;rw[hl1];have hti1:(l.take (i+1)).length=i+1:=by rw[Ag];omega
   have hl1e:l1=l.take (i+1)++l.drop i:=by
    have e1:l.drop (0+(i+1)+(n-i))=[]:=List.drop_of_length_le (by omega);have e2:(l.drop (0+i)).take (n-i)=l.drop i:=by rw[Nat.zero_add];exact List.take_of_length_le (by rw[Bh];omega)
    rw[<-hl1,e1,e2,List.append_nil,Nat.zero_add]
   have hfr1:FreeL l1:=λx hx=>by
    rw[hl1e]at hx;rcases List.mem_append.1 hx with hx|hx
    ·exact hfr x (List.mem_of_mem_take hx)
    ·exact hfr x (List.mem_of_mem_drop hx)
   have hl1n:l1.length=n+1:=by rw[hl1e,AI,hti1,Bh];omega
   have htk:l1.take i=l.take i:=by rw[hl1e,List.take_append_of_le_length (by omega),List.take_take,Nat.min_eq_left (by omega)]
   have hdr:l1.drop (i+1)=l.drop i:=by rw[hl1e,List.drop_left' hti1]
   refine RG ?_;refine WO ?_;refine WO ?_;refine AOps.gN ?_;refine AOps.p (W.slice_lo rfl rfl (by exact At.f) rfl (by omega)) rfl ?_;refine WO ?_;refine AOps.gN ?_;refine AOps.s (W.copyO 1 rfl rfl (by exact At.f) (by exact At.f) (by rfl) (by omega) (by omega) (by omega) (by omega) (by exact Nat.le_refl _) hfr1 hfV hwV) rfl ?_;obtain⟨l2,hl2⟩:∃l2,l1.take (0+i)++([e].drop 0).take 1++l1.drop (0+i+1)=l2:=⟨_,rfl⟩;rw[hl2]
   have hr:l2=l.take i++e::l.drop i:=by
    rw[<-hl2,Nat.zero_add,htk,hdr,AM];rfl
   have hm:n+1=l2.length:=by
    rw[hr];simp only[AI,BU,Bh,hti];omega
   refine FL ?_;refine KK ?_;refine RT ?_;rw[<-hr];exact⟨[.sl X 0 (n+1)],[.lst true 271 1 l2],_,[],.cons (.tmp rfl) rfl .nil,.cons (.cell (.sl (p:=1) (.next .here) hm)) .nil,by exact Sub.f,rfl,rfl⟩
instance tPtrT:TPtr Tryz.prog 271:=⟨277,by kernel_rfl,by kernel_rfl⟩
instance mapIT:TMap Tryz.prog 261 3 271 (.pointer none):=⟨by kernel_rfl,by kernel_rfl,λw=>by kernel_rfl,PlainV.nil (te:=277) (by kernel_rfl)⟩
theorem NV(x:Nat):FreeE (.ptr x 0 0):=λm c bs k=>by
 simp only[VC]at k;exact k.1
theorem SR(A B1 B2 C Z:List AC):(A++(B1++(B2++(C++Z)))).Perm (B1++(B2++((C++(A++[]))++Z))):=by
 rw[List.append_nil];have:=B6 A (B1++(B2++C)) Z;simpa[AM]using this
theorem Spec.tt{P:Program}{f:FuncId}{args:List AV}{S:List AC}{β:Type}{r:β->AV}{So:β->List AC}(h:Spec P f args S λr' S'=>∃q,r'=r q/\S'=So q):Spec P f args S λr' S'=>∃q,(λ_:β=>True) q/\r'=r q/\S'=So q:=h.mono λr' S' ⟨q,h⟩=>⟨q,trivial,h⟩
theorem Qk{ts:List Tab}{t:Tab}(h:t∈ts):∃R,(BK ts).Perm ([D6 t]++R):=by
 obtain⟨l1,l2,rfl⟩:=List.append_of_mem h;refine⟨(stE t.ek t.es++Bg t.cs)++(BK l1++BK l2),?_⟩;have:=DF (l1:=l1) (l2:=l2) (t:=t) [];simp only[List.append_nil]at this;exact this
theorem Tk(ts:List Tab)(t:Tab)(ht:t∈ts)(ks:List Int)(hl:t.ks.length<=1099511627776):Spec Tryz.prog 208 [.ptr t.X 0 0,AQ false ks] (BK ts) λr S'=>r=iA (CU t.ks ks)/\S'=BK ts:=by
 obtain⟨R,hp⟩:=Qk ht;refine Spec.perm ((U2 t ks hl).beside R) hp λr S' hq=>?_
 obtain⟨S1,e1,e2,e3⟩:=hq;refine⟨BK ts,?_,e2,rfl⟩;rw[e1,e3];exact hp.symm
theorem Ko(a:Ar)(e:Ent)(l:List Comp)(ha:ArOK a)(hne:Eh a.ts)(hn:0<=e.n/\e.n<256)(hf:e.n∉BP a.ts)(hl:l.length<=16):
  Spec Tryz.prog 171 [.ptr a.A 0 0,A8 e,Aw false false l] (arS a) λr S'=>∃b:Ar,(ArOK b/\Eh b.ts/\b.A=a.A/\b.kinds=a.kinds/\b.gens=a.gens/\(Au b.ts).Perm (⟨e,l⟩::Au a.ts))/\r= .tup []/\S'=arS b:=by
 obtain⟨ks,hks⟩:∃ks,l.map (·.kind)=ks:=⟨_,rfl⟩;have hkl:ks.length=l.length:=by rw[<-hks,AB]
 have hkm:(ks.map iA).length=ks.length:=AB _;have hko:=PF l (by omega);rw[hks]at hko;have htl:=ha.ts_le hne;have hsr:=Oo a.Tb a.ts Tab.X (BK a.ts) ks 208 (λt:Tab=>CU t.ks ks) (by omega) (λt ht=>Tk a.ts t ht ks (by have:=(ha.tab t ht).ks;omega));refine Sp (nt:=98) (res:=[]) Tryz.func171 λSf=>?_
 refine RG ?_;refine WO ?_;refine Ai λB=>?_;refine NL ?_
 refine FL ?_;refine RG ?_;refine WO ?_;refine AOps.g_callf ?_;refine AOps.c1 (h:=(hko ..)) (k:=?_);refine WO ?_;refine NL ?_;refine FL ?_;refine RG ?_;(iterate 5 refine WO ?_);refine AOps.gN ?_;refine D5 [_,_,_,_,_] (h:=hsr) λb hb=>?_;refine KO ?_
 obtain⟨i,fd⟩:=b;dsimp only
 skip
 refine AOps.nil ?_;refine FL ?_;refine R1 ?_;refine FL ?_;refine Im (λz:Ar×List Tab×Tab×List Tab=>ArOK z.1/\z.1.ts=z.2.1++z.2.2.1::z.2.2.2/\z.2.2.1.ks=ks/\Eh z.2.1/\Eh z.2.2.2/\z.2.1.length=i/\z.1.A=a.A/\z.1.kinds=a.kinds/\z.1.gens=a.gens/\BP z.1.ts=BP a.ts/\Au z.1.ts=Au a.ts) (λz=>⟨[(0,.ptr a.A 0 0),(2,Aw false false l),(4,.ptr B 0 0),(7,iA i)],(B,.row 51 2 [A8 e])::(arS z.1++Sf)⟩) ?_ ?_
 ·cases fd with
  |true=>
   refine AA rfl rfl ?_;obtain⟨t,ht,hz⟩:=hb.eq.1 rfl;obtain⟨hi,rfl⟩:=List.getElem?_eq_some_iff.1 ht;obtain⟨l1,l2,e1,e2⟩:=FU hi;have h1:Eh l1:=λu hu=>hne u (by rw[e1];simp[hu])
   have h2:Eh l2:=λu hu=>hne u (by rw[e1];simp[hu])
   refine KK ?_;refine jnR (a,l1,a.ts[i],l2) ⟨ha,e1,cmpL_zero.1 hz,h1,h2,e2,rfl,rfl,rfl,rfl,rfl⟩ ⟨by exact Lk.f,?_⟩;simp only[arS,BF,BA];exact List.Sublist.refl _
  |false=>
   refine AP rfl rfl ?_;refine FL ?_;refine RG ?_;refine WO ?_;refine AOps.gN ?_;refine VF (C:=λ_=>True) [] (h:=newE_sp.mono λr' S' ⟨k,e1,e2⟩=>⟨k,trivial,e1,e2⟩) λek _=>?_;refine KO ?_;refine Ai λX=>?_;refine WO ?_
   refine AOps.nil ?_;refine FL ?_;refine AWP.adoptIn (Y:=X) 309 1 .here (λC=>.cons (.agg (.cons .same (.cons .same (.cons (.base .nil) .nil)))) .nil) λC=>?_
   refine R1 ?_;refine FL ?_;refine AWP.front ek.M ?_;refine AWP.front ek.R ?_;refine AWP.front ek.V ?_;refine AWP.front ek.X ?_;refine AWP.front B ?_;refine AWP.front X ?_;refine AWP.front C ?_;refine DZ (λ(j C:Nat) (cs:List (StK×List (Int×List Int)))=>⟨[(0,.ptr a.A 0 0),(2,Aw false false l),(4,.ptr B 0 0),(6,AQ false ks),(7,iA i),(9,.ptr X 0 0),(31,iA (ks.map iA).length),(32,iA j)],(C,.row 309 1 (cs.map λc=>.ptr c.1.X 0 0))::(X,.row 277 3 [.agg [AQ false ks,.ptr ek.X 0 0,.sl C 0 cs.length]])::(B,.row 51 2 [A8 e])::(stE ek []++(arH a++(Bg cs++(BK a.ts++Sf))))⟩) (λj C cs=>j<=ks.length/\cs.length=j/\∀c∈cs,c.2=[]) (λj _ _=>ks.length-j) 0 C [] ⟨by omega,rfl,by simp⟩ ?_;rintro j C cs ⟨hj,hcl,hce⟩;have hpl:(cs.map λc=>AV.ptr c.1.X 0 0).length=cs.length:=AB _;refine R1 ?_;refine FL ?_;refine AWP.cond rfl (λh=>?_) (λh=>?_)
   ·have h:j<ks.length:=by rw[AD,hkm]at h;omega
    refine FL ?_;refine AWP.rs λY1=>AWP.rs λY2=>AWP.rs λY3=>AWP.rs λY4=>AWP.rs λY5=>?_
    (repeat refine WF ?_);refine GL (by kernel_rfl) (by kernel_rfl) ?_;(repeat refine RGoE.go ?_);refine U5 Y1 Y2 Y3 Y4 ⟨0,0,0,0⟩ UX λk=>?_
    refine RGo.g_lit ?_;refine RGo.goL (AV.ptr k.X 0 0) ?_;(iterate 4 refine RK ?_);refine RGo.nil (by kernel_rfl) ?_;have hma:(cs.map λc=>AV.ptr c.1.X 0 0)++[AV.ptr k.X 0 0]=(cs++[(k,([]:List (Int×List Int)))]).map λc=>AV.ptr c.1.X 0 0:=by rw[List.map_append];rfl
    have hml:cs.length+[AV.ptr k.X 0 0].length=(cs++[(k,([]:List (Int×List Int)))]).length:=by rw[AI];rfl
    rw[hma,hml];refine FL ?_;refine AWP.front k.M ?_;refine AWP.front k.R ?_;refine AWP.front k.V ?_;refine AWP.front k.X ?_;refine AWP.front B ?_;refine AWP.front C ?_;refine AWP.front X ?_;refine AWP.front Y5 ?_;refine AWP.perm (S':=(Y5,.row 309 1 ((cs++[(k,([]:List (Int×List Int)))]).map λc=>AV.ptr c.1.X 0 0))::(X,.row 277 3 [.agg [AQ false ks,.ptr ek.X 0 0,.sl Y5 0 (cs++[(k,([]:List (Int×List Int)))]).length]])::(C,.used)::(B,.row 51 2 [A8 e])::(stE ek []++(arH a++(Bg (cs++[(k,([]:List (Int×List Int)))])++(BK a.ts++Sf))))) ?_ ?_
    ·refine List.Perm.cons _ (List.Perm.cons _ (List.Perm.cons _ (List.Perm.cons _ ?_)))
     rw[DN,DD];exact SR (stS k []) (stE ek []) (arH a) (Bg cs) (BK a.ts++Sf)
    ·refine R1 ?_
     exact CK (j+1) Y5 (cs++[(k,[])]) ⟨by omega,by rw[AI,hcl];rfl,λc hc=>by
      rcases List.mem_append.1 hc with hc|hc
      ·exact hce c hc
      ·rw[BN]at hc;subst hc;rfl⟩ (by omega)
   ·have h:j=ks.length:=by rw[AL,hkm]at h;omega
    have hF:AV.frzs (((cs.map λc=>AV.ptr c.1.X 0 0).drop 0).take cs.length)=cs.map λc=>AV.ptr c.1.X 0 0:=by
     rw[List.drop_zero,List.take_of_length_le (by omega),ER,List.map_map];rfl
    refine FL ?_;refine AWP.iceIn (X:=C) (Y:=X) .here (.next .here) rfl (.cons (.agg (.cons .same (.cons .same (.cons (.base (.sl (by omega))) .nil)))) .nil) ?_;rw[hF];have hi:=hb.le;dsimp only at hi;have hpt:(ptrs Tab.X a.ts).length=a.ts.length:=AB _;refine AWP.rs λY=>AWP.rs λK2=>?_
    refine RG ?_;(iterate 7 refine WO ?_);refine AOps.gN ?_;refine AOps.s (W.lit1 (X:=K2) (l:=[.ptr X 0 0]) (by exact rfl) (by exact At.f) (by exact rfl) (by exact .inr rfl) (by decide) (by decide) (by exact rfl)) rfl ?_;have hfq:FreeL (ptrs Tab.X a.ts):=λx hx=>by obtain⟨y,_,rfl⟩:=List.mem_map.1 hx;exact NV _
    have hwq:∀x∈ptrs Tab.X a.ts,x.width=1:=λx hx=>by obtain⟨y,_,rfl⟩:=List.mem_map.1 hx;rfl
    have hins:=(PJ a.Tb K2 a.ts.length i (ptrs Tab.X a.ts) (.ptr X 0 0) hpt.symm hi (by omega) hfq (NV _) hwq rfl rfl).used2;refine VA (h:=hins) (hT:=.ls (Y:=Y)) (k:=?_);refine KO ?_;obtain⟨t',ht'⟩:∃t':Tab,t'=⟨X,ks,ek,[],cs⟩:=⟨_,rfl⟩
    have hrow:(ptrs Tab.X a.ts).take i++ .ptr X 0 0::(ptrs Tab.X a.ts).drop i=ptrs Tab.X (a.ts.take i++t'::a.ts.drop i):=by
     rw[ptrs,ptrs,List.map_append,List.map_take,List.map_cons,List.map_drop,ht']
    have hrl:(ptrs Tab.X (a.ts.take i++t'::a.ts.drop i)).length=(a.ts.take i++t'::a.ts.drop i).length:=AB _;rw[hrow,hrl];dsimp only[AW,List.set_cons_zero,List.set_cons_succ,BF,BA];refine AOps.front ek.M ?_;refine AOps.front ek.R ?_;refine AOps.front ek.V ?_;refine AOps.front ek.X ?_;refine AOps.front X ?_;refine AOps.front Y ?_;refine AOps.front a.Tv ?_;refine AOps.front a.O ?_;refine AOps.front a.G ?_;refine AOps.front a.A ?_;refine AOps.front B ?_;refine AOps.front a.Tb ?_;refine AOps.front C ?_;refine AOps.front K2 ?_;obtain⟨a',ha'⟩:∃a':Ar,a'={a with Tb:=Y,ts:=a.ts.take i++t'::a.ts.drop i}:=⟨_,rfl⟩
    have htok:TabOK t':=by
     rw[ht'];exact⟨by dsimp only;omega,by dsimp only;omega,⟨List.nodup_nil,by simp⟩,λc hc=>by rw[hce c hc];exact⟨List.nodup_nil,by simp⟩,λc hc n=>by rw[hce c hc];exact Iff.rfl⟩
    have hte:t'.es=[]:=by rw[ht']
    have htk:t'.ks=ks:=by rw[ht']
    have hb':Found (λu:Tab=>CU u.ks t'.ks) a.ts (i,false):=by rw[htk];exact hb
    have hok:ArOK a':=by rw[ha'];exact ha.newT htok hte hb'
    refine AOps.perm (S':=(K2,.used)::(C,.used)::(a.Tb,.used)::(B,.row 51 2 [A8 e])::(arS a'++Sf)) ?_ ?_
    ·refine List.Perm.cons _ (List.Perm.cons _ (List.Perm.cons _ (List.Perm.cons _ ?_)))
     subst ha';refine List.Perm.cons _ (List.Perm.cons _ (List.Perm.cons _ (List.Perm.cons _ (List.Perm.cons _ ?_))));have hz:=DF (l1:=a.ts.take i) (l2:=a.ts.drop i) (t:=t') Sf;have hz2:BK (a.ts.take i)++(BK (a.ts.drop i)++Sf)=BK a.ts++Sf:=by rw[<-AM,<-Gh,List.take_append_drop]
     rw[hz2]at hz;subst ht';exact hz.symm
    ·refine AOps.nil ?_
     refine FL ?_;subst ha';refine jnR ({a with Tb:=Y,ts:=a.ts.take i++t'::a.ts.drop i},a.ts.take i,t',a.ts.drop i) ⟨hok,rfl,htk,λu hu=>hne u (List.mem_of_mem_take hu),λu hu=>hne u (List.mem_of_mem_drop hu),by rw[Ag];omega,rfl,rfl,rfl,RI hte,PG hte⟩ ⟨by exact Lk.f,?_⟩;exact .cons _ (.cons _ (.cons _ (.refl _)))
 ·rintro⟨a',l1,t,l2⟩ ⟨hok,hts,htk,hn1,hn2,hil,hA,hki,hge,hke,hit⟩
  dsimp only at hok hts htk hn1 hn2 hil hA hki hge hke hit⊢;rw[<-hA];obtain⟨Z,hZ⟩:∃Z,BK l1++(BK l2++Sf)=Z:=⟨_,rfl⟩;have hop:=DF (l1:=l1) (l2:=l2) (t:=t) Sf;rw[<-hts,hZ]at hop;refine AWP.perm (S':=(B,.row 51 2 [A8 e])::(arH a'++(Ea t++Z))) ?_ ?_
  ·refine List.Perm.cons _ ?_
   rw[arS,AM];exact hop.append_left _
  have htm:t∈a'.ts:=by rw[hts];simp
  have hto:=hok.tab t htm
  have hat:(ptrs Tab.X a'.ts)[i]?=some (.ptr t.X 0 0):=by
   rw[AF,hts,List.getElem?_append_right (by omega),hil,Nat.sub_self];rfl
  have hil2:i<a'.ts.length:=by rw[hts,AI,BU];omega
  have hft:e.n∉AJ t.es:=λhm=>hf (by rw[<-hke];exact List.mem_flatMap.2 ⟨t,htm,hm⟩)
  have hpe:=(TU t.ek t.es hto.es e.n e hn).tt;have hlm:(l.map (AH false)).length=l.length:=AB _;have hlc:t.cs.length=l.length:=by rw[<-hto.len,htk,hkl]
  refine FL ?_;refine RG ?_;(iterate 5 refine WO ?_);refine AOps.gN ?_;refine AOps.go (h:=W.idx rfl rfl (by exact At.f) rfl (by omega) (Nat.zero_add _)) (k:=?_);refine KO ?_;refine NL ?_;refine FL ?_;(repeat refine WF ?_);refine DX 7 (by kernel_rfl) (by kernel_rfl) (by kernel_rfl) ?_;dsimp only[List.take,List.drop];(iterate 7 refine RK ?_);refine RGo.nil (by kernel_rfl) ?_;refine D5 [_,_,_,_,_,_,_] (h:=hpe) λq _=>?_
  refine AOps.nil ?_;obtain⟨k',hk'⟩:∃k':StK,k'=⟨t.ek.X,q.1,q.2,t.ek.M⟩:=⟨_,rfl⟩;rw[<-hk'];refine FL ?_;refine R1 ?_;refine FL ?_;refine BV (λ(j:Nat) (cs:List (StK×List (Int×List Int)))=>⟨[(0,.ptr a'.A 0 0),(4,.ptr B 0 0),(10,.ptr t.X 0 0),(71,Aw false false l),(72,iA (l.map (AH false)).length),(73,iA j)],(B,.row 51 2 [A8 e])::(arH a'++(D6 t::(stE k' (Bn t.es e.n e)++(Bg cs++Z))))⟩) (λj cs=>j<=l.length/\CsUp e.n l j t.cs cs) (λj _=>l.length-j) 0 t.cs ⟨by omega,.zero _ _ _⟩ ?_;rintro j cs ⟨hj,hcs⟩;have hcl:=hcs.len;have hcp:=hcs.ptrs;refine R1 ?_;refine FL ?_;refine AWP.cond rfl (λh=>?_) (λh=>?_)
  ·have h:j<l.length:=by rw[AD,hlm]at h;omega
   have hjc:j<cs.length:=by omega
   have hjt:j<t.cs.length:=by omega
   have hlat:(l.map (AH false))[j]?=some (AH false l[j]):=BH _ h;have hlil:j<(l.map (AH false)).length:=by omega
   have hcat:(t.cs.map λc=>AV.ptr c.1.X 0 0)[j]?=some (.ptr cs[j].1.X 0 0):=by rw[<-hcp];exact BH _ hjc
   have hcil:j<(t.cs.map λc=>AV.ptr c.1.X 0 0).length:=by rw[AB];omega
   have hcj:cs[j].2=t.cs[j].2:=by rw[hcs.c j hjt hjc,if_neg (by omega)]
   have hcok:ColOK cs[j].2:=by rw[hcj];exact hto.cs _ (AY hjt)
   obtain⟨m1,m2,hsp,hm1⟩:=FU hjc;have hlj:l[j]?=some l[j]:=AG h;obtain⟨⟨ck,cv⟩,hce⟩:∃c,l[j]=c:=⟨_,rfl⟩;rw[hce]at hlat hlj;obtain⟨c,hcc⟩:∃c,cs[j]=c:=⟨_,rfl⟩;rw[hcc]at hcat hcok hsp;have hpu:=(N8 c.1 c.2 hcok e.n cv hn).tt;refine FL ?_;refine RG ?_;refine KO ?_;refine Ai λC=>?_;refine KO ?_;refine NL ?_
   refine FL ?_
   have heq:(C,AO.row 85 2 [AH false ⟨ck,cv⟩])::(B,AO.row 51 2 [A8 e])::(arH a'++(D6 t::(stE k' (Bn t.es e.n e)++(Bg cs++Z))))=((C,AO.row 85 2 [AH false ⟨ck,cv⟩])::(B,AO.row 51 2 [A8 e])::(arH a'++(D6 t::(stE k' (Bn t.es e.n e)++Bg m1))))++(stS c.1 c.2++(Bg m2++Z)):=by
    rw[hsp,DN,DD];simp only[BF,AM,BA]
   (repeat refine WF ?_);refine DX 11 (by kernel_rfl) (by kernel_rfl) (by kernel_rfl) ?_;dsimp only[List.take,List.drop];(iterate 11 refine RK ?_);refine RGo.nil (by kernel_rfl) ?_;refine D5 _ (h:=hpu) (k:=λq2 _=>?_) (hp:=heq)
   have heq2:((C,AO.row 85 2 [AH false ⟨ck,cv⟩])::(B,AO.row 51 2 [A8 e])::(arH a'++(D6 t::(stE k' (Bn t.es e.n e)++Bg m1))))++(stS ⟨c.1.X,q2.1,q2.2,c.1.M⟩ (Bn c.2 e.n cv)++(Bg m2++Z))=(C,AO.row 85 2 [AH false ⟨ck,cv⟩])::(B,AO.row 51 2 [A8 e])::(arH a'++(D6 t::(stE k' (Bn t.es e.n e)++(Bg (m1++((⟨c.1.X,q2.1,q2.2,c.1.M⟩:StK),Bn c.2 e.n cv)::m2)++Z)))):=by
    rw[DN,DD];simp only[BF,AM,BA]
   refine AOps.perm (List.Perm.of_eq heq2) ?_;refine AOps.nil ?_;refine FL ?_;refine R1 ?_;exact A9 (j+1) (m1++((⟨c.1.X,q2.1,q2.2,c.1.M⟩:StK),Bn c.2 e.n cv)::m2) ⟨by omega,hcs.next hsp hm1 (by rw[hlj];rfl) _ rfl⟩ (by omega)
  ·have h:j=l.length:=by rw[AL,hlm]at h;omega
   subst h;rw[<-hlc]at hcs;have hfa:e.n∉BP a'.ts:=by rw[hke];exact hf
   have hgn:a'.g e.n=none:=by
    cases hg:a'.g e.n with
    |none=>rfl
    |some u=>
     obtain⟨w,hw,h2,_⟩:=hok.g _ _ hg;exact absurd (List.mem_flatMap.2 ⟨w,hw,h2⟩) hfa
   have hsz:(if(a'.g e.n).isSome then a'.c else a'.c+1)=a'.c+1:=by rw[hgn];rfl
   have hmx:a'.c<maxLen:=by have:=hok.c_le;unfold maxLen;omega
   refine FL ?_;refine AWP.namePtr (X:=t.X) 10 (λb=>?_);obtain⟨K',hK'⟩:∃K':AV->Value->Prop,K'=λv u=>a'.K v u\/(v= .ptr t.X 0 0/\u= .pointer (some ⟨b,0,none⟩)):=⟨_,rfl⟩
   rw[<-hK'];refine AWP.perm (S':=(B,.row 51 2 [A8 e])::(arH {a' with ts:=l1++upT t k' e cs::l2,K:=K'}++(BK (l1++upT t k' e cs::l2)++Sf))) ?_ ?_
   ·refine List.Perm.cons _ ?_
    have hln:(l1++upT t k' e cs::l2).length=a'.ts.length:=by rw[hts];simp
    have hpr:ptrs Tab.X (l1++upT t k' e cs::l2)=ptrs Tab.X a'.ts:=by rw[hts,ptrs,ptrs,List.map_append,List.map_append,List.map_cons,List.map_cons]
    show List.Perm ([(a'.A,.row 264 4 [.agg [Ae false false a'.kinds,.sl a'.G 0 a'.gens.length,.sl a'.Tb 0 a'.ts.length,.mp a'.O]]),(a'.G,.row 3 1 (a'.gens.map iA)),(a'.O,.ob (MapF Tryz.prog 3 271 a'.g a'.c)),(a'.Tv,.tv K'),(a'.Tb,.row 271 1 (ptrs Tab.X a'.ts))]++(D6 t::(stE k' (Bn t.es e.n e)++(Bg cs++Z)))) ([(a'.A,.row 264 4 [.agg [Ae false false a'.kinds,.sl a'.G 0 a'.gens.length,.sl a'.Tb 0 (l1++upT t k' e cs::l2).length,.mp a'.O]]),(a'.G,.row 3 1 (a'.gens.map iA)),(a'.O,.ob (MapF Tryz.prog 3 271 a'.g a'.c)),(a'.Tv,.tv K'),(a'.Tb,.row 271 1 (ptrs Tab.X (l1++upT t k' e cs::l2)))]++(BK (l1++upT t k' e cs::l2)++Sf))
    rw[hln,hpr];refine List.Perm.append_left _ ?_;refine List.Perm.trans ?_ (DF (l1:=l1) (l2:=l2) (t:=upT t k' e cs) Sf).symm;rw[hZ];refine List.Perm.of_eq ?_;have hkx:k'.X=t.ek.X:=by rw[hk']
    show _=((t.X,AO.row 277 3 [.agg [AQ false t.ks,.ptr k'.X 0 0,OD cs]])::(stE k' (Bn t.es e.n e)++Bg cs))++Z
    rw[hkx,OD,hcp];rfl
   ·refine RU ?_;(iterate 7 refine RK ?_);refine RGo.gN ?_;refine RGo.goS (h:=W.mapUpd (PlainV.ptr (te:=277) (by kernel_rfl) b) (by omega) hmx rfl rfl rfl (by exact At.f)) (k:=?_);refine RGo.nil (by kernel_rfl) ?_
    rw[hsz];have hup:ArOK {a' with ts:=l1++upT t k' e cs::l2,K:=K',g:=EM a'.g e.n (.pointer (some ⟨b,0,none⟩)),c:=a'.c+1}:=hok.up hts hn hfa hcs (λv u h=>by rw[hK'];exact .inl h) (by rw[hK'];exact .inr ⟨rfl,rfl⟩);have hitm:=Sv (l1:=l1) (l2:=l2) (k:=k') hto hn hft (htk.trans hks.symm) hcs;rw[<-hts,hit]at hitm;refine C6 ?_;exact Ends.sp [] (arS {a' with ts:=l1++upT t k' e cs::l2,K:=K',g:=EM a'.g e.n (.pointer (some ⟨b,0,none⟩)),c:=a'.c+1}) ⟨_,⟨hup,WA hn1 hn2 hft,rfl,hki,hge,hitm⟩,rfl,rfl⟩
def Eu(a:Ar)(l1 l2:List Tab)(t:Tab)(n:Int)(Y:Nat):Ar:=if(BX t.es n).length=0 then{a with Tb:=Y,ts:=l1++l2,g:=Fe a.g n,c:=a.c-1}else{a with ts:=l1++Dl t n::l2,g:=Fe a.g n,c:=a.c-1}
theorem Jz{a:Ar}(h:ArOK a)(hne:Eh a.ts){l1 l2:List Tab}{t:Tab}(hts:a.ts=l1++t::l2){n:Int}{e:Ent}(hm:(n,e)∈t.es)(Y:Nat):ArOK (Eu a l1 l2 t n Y)/\Eh (Eu a l1 l2 t n Y).ts/\(Eu a l1 l2 t n Y).A=a.A/\(Eu a l1 l2 t n Y).kinds=a.kinds/\(Eu a l1 l2 t n Y).gens=a.gens/\(Au a.ts).Perm (⟨e,Aa t n⟩::Au (Eu a l1 l2 t n Y).ts):=by
 have h1:=h.down hts hm;have h2:=J5 h hts hm;unfold Eu;split
 ·rename_i h0
  have h0:(Dl t n).es=[]:=List.eq_nil_of_length_eq_zero h0;refine⟨h1.less (Y:=Y) rfl h0,λu hu=>hne u ?_,rfl,rfl,rfl,by rw[PH h0]at h2;exact h2⟩;rw[hts];rcases List.mem_append.1 hu with hu|hu<;>simp[hu]
 ·rename_i h0
  refine⟨h1,λu hu=>?_,rfl,rfl,rfl,h2⟩;rcases List.mem_append.1 hu with hu|hu
  ·exact hne u (by rw[hts];simp[hu])
  ·rcases List.mem_cons.1 hu with rfl|hu
   ·exact λe2=>h0 (by rw[show BX t.es n=[]from e2];rfl)
   ·exact hne u (by rw[hts];simp[hu])
theorem Qi(P X:Nat)(l:List AV)(h0:0<l.length)(R:List AC):Spec Tryz.prog 238 [.ptr X 0 0,.ptr P 0 0] ((P,.row 271 1 [.ptr X 0 0])::(X,.row 277 3 l)::R) λr S'=>r=bA true/\S'=(P,.row 271 1 [.ptr X 0 0])::(X,.row 277 3 l)::R:=by
 refine Sp (nt:=7) (res:=[.tmp 3]) Tryz.func238 λSf=>?_
 refine R1 ?_;refine FL ?_;refine RG ?_;refine WO ?_;refine WO ?_;refine AOps.gN ?_;refine AOps.go (h:=W.eqPtrS h0 rfl rfl (by exact At.f)) (k:=?_);refine WO ?_;refine NL ?_;refine RT ?_;exact Ends.sp [bA true] ((P,.row 271 1 [.ptr X 0 0])::(X,.row 277 3 l)::R) ⟨rfl,rfl⟩
theorem SE(P X Y:Nat)(l l2:List AV)(h0:0<l.length)(h1:0<l2.length)(R:List AC):Spec Tryz.prog 238 [.ptr Y 0 0,.ptr P 0 0] ((P,.row 271 1 [.ptr X 0 0])::(X,.row 277 3 l)::(Y,.row 277 3 l2)::R) λr S'=>r=bA false/\S'=(P,.row 271 1 [.ptr X 0 0])::(X,.row 277 3 l)::(Y,.row 277 3 l2)::R:=by
 refine Sp (nt:=7) (res:=[.tmp 3]) Tryz.func238 λSf=>?_
 refine R1 ?_;refine FL ?_;refine RG ?_;refine WO ?_;refine WO ?_;refine AOps.gN ?_;refine AOps.go (h:=W.eqPtrD (p:=2) (q:=1) h1 h0 rfl rfl (.next (.next .here)) (.next .here) (by decide)) (k:=?_);refine WO ?_;refine NL ?_;refine RT ?_;exact Ends.sp [bA false] ((P,.row 271 1 [.ptr X 0 0])::(X,.row 277 3 l)::(Y,.row 277 3 l2)::R) ⟨rfl,rfl⟩
theorem Ql{us:List Tab}{x:Tab}(h:x∈us):∃Z,(BK us).Perm (D6 x::Z):=by
 obtain⟨m1,m2,rfl⟩:=List.append_of_mem h;have:=DF (l1:=m1) (l2:=m2) (t:=x) [];rw[List.append_nil]at this;exact⟨_,this⟩
theorem Qj(P:Nat)(l1 l2:List Tab)(t:Tab)(ho:(l1++t::l2).Pairwise λx y:Tab=>CU x.ks y.ks<0):∀x∈l1++t::l2,Spec Tryz.prog 238 (.ptr x.X 0 0::[.ptr P 0 0]) ((P,.row 271 1 [.ptr t.X 0 0])::(Ea t++(BK l1++BK l2))) λr S'=>r=bA (decide (x.ks=t.ks))/\S'=(P,.row 271 1 [.ptr t.X 0 0])::(Ea t++(BK l1++BK l2)):=by
 intro x hx
 have hd:x∈l1++l2->x.ks≠t.ks:=λh e=>by
  have h1:CU x.ks t.ks=0:=cmpL_zero.2 e;have h2:CU t.ks x.ks=0:=cmpL_zero.2 e.symm;rw[List.pairwise_append]at ho;rcases List.mem_append.1 h with h|h
  ·have:=ho.2.2 x h t (by simp);omega
  ·have:=(List.pairwise_cons.1 ho.2.1).1 x h;omega
 have hc:x=t\/x∈l1++l2:=by
  rcases List.mem_append.1 hx with h|h
  ·exact .inr (by simp[h])
  ·rcases List.mem_cons.1 h with h|h
   ·exact .inl h
   ·exact .inr (by simp[h])
 rcases hc with rfl|hc
 ·rw[Ah rfl]
  exact Qi P x.X _ (by exact Nat.zero_lt_succ _) _
 ·rw[AK (hd hc)]
  obtain⟨Z,hZ⟩:=Ql hc;rw[Gh]at hZ
  have hp:((P,AO.row 271 1 [.ptr t.X 0 0])::(Ea t++(BK l1++BK l2))).Perm ((P,.row 271 1 [.ptr t.X 0 0])::D6 t::D6 x::((stE t.ek t.es++Bg t.cs)++Z)):=by
   refine List.Perm.cons _ (List.Perm.cons _ ?_);refine(hZ.append_left (stE t.ek t.es++Bg t.cs)).trans ?_;exact B6 (stE t.ek t.es++Bg t.cs) [D6 x] Z
  exact(SE P t.X x.X _ _ (by exact Nat.zero_lt_succ _) (by exact Nat.zero_lt_succ _) _).perm hp λr S' ⟨h1,h2⟩=>⟨_,by rw[h2];exact hp.symm,h1,rfl⟩
theorem MG(a:Ar)(ha:ArOK a)(hne:Eh a.ts){l1 l2:List Tab}{t:Tab}(hts:a.ts=l1++t::l2){n:Int}(hnk:n∈AJ t.es):Spec Tryz.prog 217 [.ptr a.A 0 0,iA n] (arS a) λr S'=>∃Y:Nat,True/\r= .lst true 85 2 ((Aa t n).map (AH false))/\S'=arS (Eu a l1 l2 t n Y):=by
 have htm:t∈a.ts:=by rw[hts];simp
 have hto:=ha.tab t htm;have hnl:=hto.es.lt n hnk;have hn:I64 n:=by constructor<;>omega
 have hsm:=ha.gn n (List.mem_flatMap.2 ⟨t,htm,hnk⟩);obtain⟨u,hu⟩:∃u,a.g n=some u:=Option.isSome_iff_exists.1 hsm;obtain⟨w,hw,hwn,hK,b,hb⟩:=ha.g n u hu;have hwt:=ha.uniq hw htm hwn hnk;subst hwt;have hgd:(a.g n).getD (.pointer none)=u:=by rw[hu];rfl
 have hone:u.oneCell'=true:=by rw[hb];rfl
 have hcs:=N9 w n hto hn hnk;have hdE:=TN w.ek w.es hto.es n hn;have hlE:=TX w.ek (BX w.es n);have hc16:w.cs.length<=16:=by have:=hto.ks;have:=hto.len;omega
 have hcpl:(w.cs.map λc=>AV.ptr c.1.X 0 0).length=w.cs.length:=AB _;have hsz:(if(a.g n).isSome then a.c-1 else a.c)=a.c-1:=by rw[hsm];rfl
 obtain⟨⟨m,e⟩,hm,he⟩:=List.mem_map.1 hnk;have he:m=n:=he;rw[he]at hm;have hdn:=ha.down hts hm;obtain⟨w',hw'⟩:∃w',w'=Dl w n:=⟨_,rfl⟩;have htl:=ha.ts_le hne;have hhd:D6 w=D6 w':=by rw[hw'];show(w.X,AO.row 277 3 [.agg [AQ false w.ks,.ptr w.ek.X 0 0,OD w.cs]])=(w.X,AO.row 277 3 [.agg [AQ false w.ks,.ptr w.ek.X 0 0,OD (w.cs.map (GJ n))]]);rw[OD,OD,List.map_map];rfl
 have hln:a.ts.length=(l1++w'::l2).length:=by rw[hts];simp
 have hpr:ptrs Tab.X a.ts=ptrs Tab.X (l1++w'::l2):=by rw[hts,hw',ptrs,ptrs,List.map_append,List.map_append,List.map_cons,List.map_cons]
 have hflt:(l1++w'::l2).filter (λx=>!decide (x.ks=w'.ks))=l1++l2:=by
  have ho:(l1++w'::l2).Pairwise λx y:Tab=>CU x.ks y.ks<0:=by rw[hw'];exact hdn.ord
  have hd:∀x∈l1++l2,x.ks≠w'.ks:=λx h e=>by
   have h1:CU x.ks w'.ks=0:=cmpL_zero.2 e;have h2:CU w'.ks x.ks=0:=cmpL_zero.2 e.symm;rw[List.pairwise_append]at ho;rcases List.mem_append.1 h with h|h
   ·have:=ho.2.2 x h w' (by simp);omega
   ·have:=(List.pairwise_cons.1 ho.2.1).1 x h;omega
  rw[List.filter_append,List.filter_cons_of_neg (by simp),<-List.filter_append,List.filter_eq_self];intro x hx;simp[hd x hx]
 refine Sp (nt:=58) (res:=[.tmp 4]) Tryz.func217 λSf=>?_
 obtain⟨Z,hZ⟩:∃Z,BK l1++(BK l2++Sf)=Z:=⟨_,rfl⟩;have hop:=DF (l1:=l1) (l2:=l2) (t:=w) Sf;rw[<-hts,hZ]at hop;refine R1 ?_;refine AWP.perm (S':=arH a++(Ea w++Z)) ?_ ?_
 ·rw[arS,AM]
  exact hop.append_left _
 refine FL ?_;refine RG ?_;(repeat first|(refine AOps.gN ?_;first|refine AOps.asPtr 14 (.ptr w.X 0 0) hK ?_|refine AOps.go (h:=H5 _ hgd hn rfl rfl (by exact At.f) hone) (k:=?_))|refine WO ?_|refine Ai λP5=>?_|refine Ay λY=>?_);refine NL ?_;refine FL ?_;refine RG ?_;refine WO ?_;refine WO ?_;refine AOps.gN ?_;refine OU [_,_,_,_,_,_] (h:=hcs) (k:=λK=>?_);refine WO ?_;refine NL ?_;refine AWP.perm (S':=(K,.row 85 2 ((Aa w n).map (AH false)))::(P5,.row 271 1 [.ptr w.X 0 0])::(arH a++(D6 w::(stE w.ek w.es++(Bg w.cs++Z))))) (List.Perm.of_eq (by first|rfl|(simp only[BF,AM,BA];done)|(simp only[BF,AM,BA];rfl))) ?_;rw[AB];refine FL ?_;refine RG ?_;(iterate 5 refine WO ?_);refine AOps.gN ?_;refine EL [_,_,_,_,_,_,_,_] (h:=hdE) (k:=?_);refine NL ?_;refine FL ?_;refine R1 ?_;refine FL ?_;refine BB (λ(j:Nat)=>⟨[(0,.ptr a.A 0 0),(1,iA n),(5,.ptr P5 0 0),(6,.sl K 0 (Aa w n).length),(27,OD w.cs),(28,iA (w.cs.map λc=>AV.ptr c.1.X 0 0).length),(29,iA j)],(K,.row 85 2 ((Aa w n).map (AH false)))::(P5,.row 271 1 [.ptr w.X 0 0])::(arH a++(D6 w::(stE w.ek (BX w.es n)++(Bg ((w.cs.take j).map (GJ n)++w.cs.drop j)++Z))))⟩) (λj=>j<=w.cs.length) (λj=>w.cs.length-j) 0 (by omega) ?_;rintro j hj;refine R1 ?_;refine FL ?_;refine AWP.cond rfl (λh=>?_) (λh=>?_)
 ·have h:j<w.cs.length:=by rw[AD,hcpl]at h;omega
  have hcat:(w.cs.map λc=>AV.ptr c.1.X 0 0)[j]?=some (.ptr w.cs[j].1.X 0 0):=BH _ h;have hcil:j<(w.cs.map λc=>AV.ptr c.1.X 0 0).length:=by omega
  have hcok:=hto.cs _ (AY h);have hdj:w.cs.drop j=w.cs[j]::w.cs.drop (j+1):=(List.getElem_cons_drop h).symm;have htj:(w.cs.take (j+1)).map (GJ n)=(w.cs.take j).map (GJ n)++[GJ n w.cs[j]]:=by rw[List.take_succ_eq_append_getElem h,List.map_append];rfl
  obtain⟨c,hcc⟩:∃c,w.cs[j]=c:=⟨_,rfl⟩;rw[hcc]at hcat hcok hdj htj;have hdS:=TL c.1 c.2 hcok n hn
  have heq:(K,AO.row 85 2 ((Aa w n).map (AH false)))::(P5,AO.row 271 1 [.ptr w.X 0 0])::(arH a++(D6 w::(stE w.ek (BX w.es n)++(Bg ((w.cs.take j).map (GJ n)++w.cs.drop j)++Z))))=((K,AO.row 85 2 ((Aa w n).map (AH false)))::(P5,AO.row 271 1 [.ptr w.X 0 0])::(arH a++(D6 w::(stE w.ek (BX w.es n)++Bg ((w.cs.take j).map (GJ n))))))++(stS c.1 c.2++(Bg (w.cs.drop (j+1))++Z)):=by
   rw[hdj,DN,DD];simp only[BF,AM,BA]
  have heq2:((K,AO.row 85 2 ((Aa w n).map (AH false)))::(P5,AO.row 271 1 [.ptr w.X 0 0])::(arH a++(D6 w::(stE w.ek (BX w.es n)++Bg ((w.cs.take j).map (GJ n))))))++(stS c.1 (BX c.2 n)++(Bg (w.cs.drop (j+1))++Z))=(K,AO.row 85 2 ((Aa w n).map (AH false)))::(P5,AO.row 271 1 [.ptr w.X 0 0])::(arH a++(D6 w::(stE w.ek (BX w.es n)++(Bg ((w.cs.take (j+1)).map (GJ n)++w.cs.drop (j+1))++Z)))):=by
   rw[htj,DN,DN,DD];simp only[BF,AM,BA,Bg,List.flatMap_nil]
  refine FL ?_;refine R1 ?_;refine FL ?_;refine RG ?_;refine WO ?_;refine WO ?_;refine AOps.gN ?_;refine EL _ (h:=hdS) (k:=?_) (hp:=heq);refine NL ?_;refine AWP.perm (List.Perm.of_eq heq2) ?_;refine R1 ?_;exact Ab (j+1) (by omega)
 ·have h:j=w.cs.length:=by rw[AL,hcpl]at h;omega
  subst h;rw[List.take_length,List.drop_length,List.append_nil];refine FL ?_;refine RG ?_;(iterate 5 refine WO ?_);refine AOps.gN ?_;refine AOps.goS (h:=W.mapDel hn rfl rfl (by exact At.f)) (k:=?_);refine NL ?_;rw[hsz];refine FL ?_;refine RG ?_;(iterate 4 refine WO ?_);refine AOps.gN ?_;refine Qa [_,_,_,_,_,_,_,_] (h:=hlE) (k:=?_);refine WO ?_;refine NL ?_;have hst:stE w.ek (BX w.es n)++(Bg (w.cs.map (GJ n))++Z)=(stE w'.ek w'.es++Bg w'.cs)++Z:=by rw[hw',AM]
  have hXX:w.X=w'.X:=by rw[hw']
  have hlw:(BX w.es n).length=w'.es.length:=by rw[hw']
  rw[hst,hhd,hln,hpr,hXX];refine AWP.cond rfl (λh0=>?_) (λh0=>?_)
  ·have h0:(BX w.es n).length=0:=by rw[AD]at h0;omega
   have hdel:=PV a.Tb (l1++w'::l2) Tab.X ((P5,.row 271 1 [.ptr w'.X 0 0])::(Ea w'++(BK l1++BK l2))) 238 [.ptr P5 0 0] (λx=>decide (x.ks=w'.ks)) rfl (by rw[<-hln];omega) (Qj P5 l1 l2 w' (by rw[hw'];exact hdn.ord));rw[hflt]at hdel;rw[<-hZ];refine AWP.perm (S':=(K,.row 85 2 ((Aa w n).map (AH false)))::(a.A,.row 264 4 [.agg [Ae false false a.kinds,.sl a.G 0 a.gens.length,.sl a.Tb 0 (l1++w'::l2).length,.mp a.O]])::(a.G,.row 3 1 (a.gens.map iA))::(a.O,.ob (MapF Tryz.prog 3 271 (Fe a.g n) (a.c-1)))::(a.Tv,.tv a.K)::(((a.Tb,.row 271 1 (ptrs Tab.X (l1++w'::l2)))::((P5,.row 271 1 [.ptr w'.X 0 0])::(Ea w'++(BK l1++BK l2))))++Sf)) ?_ ?_
   ·refine List.Perm.cons _ ?_
    have h1:=B6 [(a.A,AO.row 264 4 [.agg [Ae false false a.kinds,.sl a.G 0 a.gens.length,.sl a.Tb 0 (l1++w'::l2).length,.mp a.O]]),(a.G,.row 3 1 (a.gens.map iA)),(a.O,.ob (MapF Tryz.prog 3 271 (Fe a.g n) (a.c-1))),(a.Tv,.tv a.K),(a.Tb,.row 271 1 (ptrs Tab.X (l1++w'::l2)))] [(P5,.row 271 1 [.ptr w'.X 0 0])] (Ea w'++(BK l1++(BK l2++Sf)));refine List.Perm.trans (List.Perm.of_eq ?_) (h1.symm.trans (List.Perm.of_eq ?_))
    ·simp only[BF,AM,BA]
     rfl
    ·simp only[BF,AM,BA]
   refine FL ?_;refine RG ?_;(iterate 6 refine WO ?_);refine AOps.gN ?_;refine OU [_,_,_,_,_] (h:=hdel) (k:=λY=>?_);refine KO ?_;refine NL ?_;dsimp only[AW,List.set_cons_zero,List.set_cons_succ,BF,BA];refine AWP.front Y ?_;refine AWP.front a.Tv ?_;refine AWP.front a.O ?_;refine AWP.front a.G ?_;refine AWP.front a.A ?_;refine AWP.front P5 ?_;refine AWP.front K ?_;have hla:Eu a l1 l2 w n Y={a with Tb:=Y,ts:=l1++l2,g:=Fe a.g n,c:=a.c-1}:=if_pos h0;rw[show(ptrs Tab.X (l1++l2)).length=(l1++l2).length from AB _];refine R1 ?_;refine RT ?_;refine⟨[.sl K 0 (Aa w n).length],[.lst true 85 2 ((Aa w n).map (AH false))],_,arS (Eu a l1 l2 w n Y),.cons (.tmp rfl) rfl .nil,.cons (.cell (.sl (p:=0) .here (by simp))) .nil,?_,Y,trivial,rfl,rfl⟩;rw[hla]
   have hsub:(BK (l1++l2)++Sf).Sublist ((Ea w'++(BK l1++BK l2))++Sf):=by
    rw[Gh];exact(List.sublist_append_right _ _).append_right _
   exact .cons _ (.cons_cons _ (.cons_cons _ (.cons_cons _ (.cons_cons _ (.cons_cons _ hsub)))))
  ·have h0:¬(BX w.es n).length=0:=by rw[AL]at h0;omega
   have hla:Eu a l1 l2 w n 0={a with ts:=l1++w'::l2,g:=Fe a.g n,c:=a.c-1}:=by rw[hw'];exact if_neg h0
   have hop2:=DF (l1:=l1) (l2:=l2) (t:=w') Sf;rw[hZ]at hop2;refine AWP.perm (S':=(K,.row 85 2 ((Aa w n).map (AH false)))::(P5,.row 271 1 [.ptr w'.X 0 0])::(arH {a with ts:=l1++w'::l2,g:=Fe a.g n,c:=a.c-1}++(BK (l1++w'::l2)++Sf))) (List.Perm.cons _ (List.Perm.cons _ (hop2.symm.append_left (arH {a with ts:=l1++w'::l2,g:=Fe a.g n,c:=a.c-1})))) ?_;rw[<-AM];refine FL ?_;refine R1 ?_;refine RT ?_;refine⟨[.sl K 0 (Aa w n).length],[.lst true 85 2 ((Aa w n).map (AH false))],_,arS (Eu a l1 l2 w n 0),.cons (.tmp rfl) rfl .nil,.cons (.cell (.sl (p:=0) .here (by simp))) .nil,?_,0,trivial,rfl,rfl⟩;rw[hla];exact .cons _ (List.Sublist.refl _)
theorem ES{a:Ar}{l1 l2:List Tab}{t:Tab}(h:a.ts=l1++t::l2)(Sf:List AC):(arS a++Sf).Perm (arH a++(D6 t::(stE t.ek t.es++(Bg t.cs++(BK l1++(BK l2++Sf)))))):=by
 rw[arS,AM];refine List.Perm.append_left _ ?_;rw[h];exact(DF Sf).trans (List.Perm.of_eq (by simp only[BF,AM]))
def Fw(a:Ar)(e:Ent):Bool:=decide (e∈(Au a.ts).map (·.ent))
theorem S4{a:Ar}(h:ArOK a){e:Ent}{t:Tab}(ht:t∈a.ts){v:Ent}(hm:(e.n,v)∈t.es):Fw a e=decide (v=e):=by
 unfold Fw;refine decide_eq_decide.2 ⟨λhe=>?_,λhe=>?_⟩
 ·obtain⟨it,hit,rfl⟩:=List.mem_map.1 he
  obtain⟨u,hu,hit⟩:=List.mem_flatMap.1 hit;obtain⟨p,hp,rfl⟩:=List.mem_map.1 hit;have hpn:=h.ent u hu p hp;have h1:p.2.n∈AJ u.es:=List.mem_map.2 ⟨p,hp,hpn⟩;have h2:p.2.n∈AJ t.es:=List.mem_map.2 ⟨_,hm,rfl⟩;have:=h.uniq ht hu h2 h1;subst this;have hto:=h.tab t ht;have h3:=(CQ hto.es).2 hm;have h4:=(CQ hto.es).2 (show(p.2.n,p.2)∈t.es by rw[<-hpn];exact hp);rw[h3]at h4;injection h4
 ·subst he
  refine List.mem_map.2 ⟨⟨v,Aa t v.n⟩,List.mem_flatMap.2 ⟨t,ht,List.mem_map.2 ⟨_,hm,rfl⟩⟩,rfl⟩
theorem Uk{a:Ar}(h:ArOK a){e:Ent}(hg:a.g e.n=none):Fw a e=false:=by
 unfold Fw;refine AK λhe=>?_
 obtain⟨it,hit,rfl⟩:=List.mem_map.1 he;obtain⟨u,hu,hit⟩:=List.mem_flatMap.1 hit;obtain⟨p,hp,rfl⟩:=List.mem_map.1 hit;have hpn:=h.ent u hu p hp;have:=h.gn p.2.n (List.mem_flatMap.2 ⟨u,hu,List.mem_map.2 ⟨p,hp,hpn⟩⟩);rw[hg]at this;cases this
theorem IY(a:Ar)(ha:ArOK a)(e:Ent)(hn:I64 e.n):Spec Tryz.prog 215 [.ptr a.A 0 0,A8 e] (arS a) λr S'=>r=bA (Fw a e)/\S'=arS a:=by
 refine Sp (nt:=30) (res:=[.tmp 4]) Tryz.func215 λSf=>?_
 cases hg:a.g e.n with
 |none=>
  have hgd:(a.g e.n).getD (.pointer none)= .pointer none:=by rw[hg];rfl
  rw[Uk ha hg];refine RG ?_;refine WO ?_;refine Ai λB=>?_;refine WO ?_;refine NL ?_
  refine FL ?_;refine RU ?_;(iterate 6 refine RK ?_);refine RGo.gN ?_;refine RGo.go (h:=H5 _ hgd hn rfl rfl (by exact At.f)) (k:=?_);refine RK ?_;refine RGo.nil (by kernel_rfl) ?_;refine FL ?_;refine RG ?_;refine WO ?_;refine AOps.gN ?_;refine AOps.go (h:=W.eqNil true (.inl ⟨rfl,rfl⟩) rfl rfl) (k:=?_);refine NL ?_;refine AP rfl rfl ?_;refine FL ?_;refine R1 ?_;refine RT ?_;exact Ends.sp [bA false] (arS a) ⟨rfl,rfl⟩
 |some u=>
  obtain⟨t,ht,htn,hK,b,hb⟩:=ha.g e.n u hg;have hto:=ha.tab t ht;obtain⟨⟨m,v⟩,hm,hme⟩:=List.mem_map.1 htn;have hme:m=e.n:=hme;subst hme;rw[S4 ha ht hm];have hgt:=S7 t.ek t.es hto.es e.n hn v ((CQ hto.es).2 hm);have hgd:(a.g e.n).getD (.pointer none)=u:=by rw[hg];rfl
  have hone:u.oneCell'=true:=by rw[hb];rfl
  obtain⟨l1,l2,hts⟩:=List.append_of_mem ht;refine RG ?_;refine WO ?_;refine Ai λB=>?_;refine WO ?_;refine NL ?_
  refine FL ?_;refine RU ?_;(iterate 6 refine RK ?_);refine RGo.gN ?_;refine RGo.go (h:=H5 _ hgd hn rfl rfl (by exact At.f) hone) (k:=?_);refine RK ?_;refine RGo.nil (by kernel_rfl) ?_;refine FL ?_;refine RG ?_;refine WO ?_;refine AOps.gN ?_;refine AOps.go (h:=W.eqNil false (.inr ⟨b,hb,rfl⟩) rfl rfl) (k:=?_);refine NL ?_;refine AA rfl rfl ?_;refine FL ?_;refine AWP.asPtr 5 (.ptr t.X 0 0) hK ?_;refine AWP.perm (List.Perm.cons _ (ES hts Sf)) ?_;refine AWP.rs λY=>?_
  (repeat refine WF ?_);refine GK 8 (by kernel_rfl) (by kernel_rfl) ?_;refine RGoT.go ?_;refine RGoT.go ?_;refine RGoT.go ?_;refine RGoT.go ?_;refine RGoT.go ?_;refine RGoT.go ?_;refine RGoT.callK (xs:=[(.tmp 21,.ptr t.ek.X 0 0),(.tmp 23,iA e.n)]) (L:=[_,_,_,_,_,_,_,_]) (R:=Bg t.cs++(BK l1++(BK l2++Sf))) hgt (.fz (v:=.tup [A8 v,bA true])) rfl (Nat.le_refl 8) (.cons rfl (.cons rfl .nil)) rfl rfl ?_;refine RGoT.go ?_;refine RGoT.go ?_;refine RGoT.go ?_;refine RGoT.goS (h:=W.alloc .here (.inl rfl)) ?_;refine RGoT.goS ?_;refine RGoT.go ?_;refine RGoT.nil (by kernel_rfl) ?_;dsimp only[AW,List.set_cons_zero,List.set_cons_succ,BF,BA];refine MC Y (show _=[A8 v]from rfl) ?_;dsimp only[List.set_cons_zero]
  have hd:decide (v=e)=(decide (v.n=e.n)&&decide (v.gen=e.gen)):=by
   cases v;cases e;simp only[Ent.mk.injEq,Bool.decide_and]
  rw[hd];refine FL ?_;refine RG ?_;refine WO ?_;refine WO ?_;refine AOps.gN ?_;refine AOps.go (h:=W.eqP _ _ (by kernel_rfl) (TJ v.n v.gen e.n e.gen) rfl rfl) (k:=?_);refine WO ?_;refine NL ?_;refine FL ?_;refine AWP.perm (List.Perm.cons _ (List.Perm.cons _ (ES hts Sf).symm)) ?_;refine RT ?_;exact Ends.sp [bA (decide (v.n=e.n)&&decide (v.gen=e.gen))] (arS a) ⟨rfl,rfl⟩
theorem JK{a:Ar}(h:ArOK a){e:Ent}(hh:Fw a e=true):∃l1 l2 t,a.ts=l1++t::l2/\(e.n,e)∈t.es:=by
 unfold Fw at hh;obtain⟨it,hit,rfl⟩:=List.mem_map.1 (of_decide_eq_true hh);obtain⟨u,hu,hit⟩:=List.mem_flatMap.1 hit;obtain⟨p,hp,rfl⟩:=List.mem_map.1 hit;obtain⟨l1,l2,hl⟩:=List.append_of_mem hu;refine⟨l1,l2,u,hl,?_⟩;have:=h.ent u hu p hp;show(p.2.n,p.2)∈u.es
 rw[<-this];exact hp
structure KillR(a:Ar)(e:Ent)(b:Ar):Prop where
 ok:ArOK b
 ne:Eh b.ts
 A:b.A=a.A
 kinds:b.kinds=a.kinds
 gens:b.gens=a.gens.set e.n.toNat ((a.gens[e.n.toNat]?).getD 0+1)
 items:∃l,(Au a.ts).Perm (⟨e,l⟩::Au b.ts)
theorem Ub(a:Ar)(ha:ArOK a)(e:Ent)(hn:I64 e.n)(hh:Fw a e=false):Spec Tryz.prog 174 [.ptr a.A 0 0,A8 e] (arS a) λr S'=>r=iA 4/\S'=arS a:=by
 have hs:=IY a ha e hn;rw[hh]at hs;refine Sp (nt:=23) (res:=[.tmp 4]) Tryz.func174 λSf=>?_
 refine RG ?_;refine WO ?_;refine Ai λB=>?_;refine WO ?_;refine NL ?_
 refine FL ?_;refine RG ?_;refine WO ?_;refine WO ?_;refine AOps.gN ?_;refine EL [_] (h:=hs) (k:=?_);refine WO ?_;refine NL ?_;refine AP rfl rfl ?_;refine FL ?_;refine R1 ?_;refine RT ?_;exact Ends.sp [iA 4] (arS a) ⟨rfl,rfl⟩
theorem Sn(a:Ar)(ha:ArOK a)(hne:Eh a.ts)(e:Ent)(hn:I64 e.n)(hh:Fw a e=true)(hg:e.n.toNat<a.gens.length)(hgl:a.gens.length<=256)(hgb:∀g∈a.gens,0<=g/\g<=1073741824):Spec Tryz.prog 174 [.ptr a.A 0 0,A8 e] (arS a) λr S'=>∃b:Ar,KillR a e b/\r=iA 0/\S'=arS b:=by
 obtain⟨l1,l2,t,hts,hm⟩:=JK ha hh;have hto:=ha.tab t (by rw[hts];simp);have hnk:e.n∈AJ t.es:=List.mem_map.2 ⟨_,hm,rfl⟩;have hnl:=hto.es.lt _ hnk;have hs:=IY a ha e hn;rw[hh]at hs;have htk:=MG a ha hne hts hnk;obtain⟨⟨n,g⟩,he⟩:∃e',e=e':=⟨_,rfl⟩;subst he;dsimp only at hn hg hm hnk hnl hs htk;obtain⟨i,hi⟩:∃i:Nat,n=i:=⟨n.toNat,by omega⟩;subst hi;rw[Int.toNat_natCast]at hg;refine Sp (nt:=23) (res:=[.tmp 4]) Tryz.func174 λSf=>?_
 refine RG ?_;refine WO ?_;refine Ai λB=>?_;refine WO ?_;refine NL ?_
 refine FL ?_;refine RG ?_;refine WO ?_;refine WO ?_;refine AOps.gN ?_;refine EL [_] (h:=hs) (k:=?_);refine WO ?_;refine NL ?_;refine AA rfl rfl ?_;refine FL ?_;refine RG ?_;(iterate 3 refine WO ?_);refine AOps.gN ?_;refine Kw [_] (h:=htk) (k:=λY _ K=>?_);refine NL ?_;obtain⟨hok,hne2,hA,hki,hge,hit⟩:=Jz ha hne hts hm Y;obtain⟨b,hb⟩:∃b,Eu a l1 l2 t (i:Nat) Y=b:=⟨_,rfl⟩;rw[hb]at hok hne2 hA hki hge hit⊢;rw[<-hA];have hgm:a.gens[i]∈a.gens:=AY hg;have hgr:=hgb _ hgm;rw[<-hge]at hg hgl;have hgq:a.gens[i]=b.gens[i]:=by simp only[hge]
 rw[hgq]at hgr;have hat:(b.gens.map iA)[i]?=some (iA b.gens[i]):=BH _ hg;have hgml:(b.gens.map iA).length=b.gens.length:=AB _;refine FL ?_;refine RU ?_;(repeat first|(refine RGo.gN ?_;first|refine RGo.go (h:=W.idx (a:=i) rfl rfl (by exact At.f) rfl (by omega) (Nat.zero_add _)) (k:=?_))|(refine RGo.gQ ?_;first|refine RGo.go (h:=W.idx (a:=i) rfl rfl (by exact At.f) rfl (by omega) (Nat.zero_add _)) (k:=?_))|refine RK ?_|refine RGo.nil (by kernel_rfl) ?_);dsimp only[AW,List.set_cons_zero,List.set_cons_succ,BF,BA];have hset:(b.gens.map iA).set i (iA (b.gens[i]+1))=(b.gens.set i (b.gens[i]+1)).map iA:=(List.map_set ..).symm;rw[hset];have hsl:b.gens.length=(b.gens.set i (b.gens[i]+1)).length:=List.length_set.symm;obtain⟨b',hb'⟩:∃b':Ar,b'={b with gens:=b.gens.set i (b.gens[i]+1)}:=⟨_,rfl⟩;refine AWP.perm (S':=(K,.row 85 2 ((Aa t (i:Nat)).map (AH false)))::(B,.row 51 2 [A8 ⟨i,g⟩])::(arS b'++Sf)) (List.Perm.of_eq (by rw[hb'];show _=(K,_)::(B,_)::((arH {b with gens:=b.gens.set i (b.gens[i]+1)}++BK b.ts)++Sf);rw[arH];dsimp only;rw[<-hsl];rfl)) ?_;refine R1 ?_;refine RT ?_;have hgd:(a.gens[i]?).getD 0=b.gens[i]:=by rw[<-hge,AG hg];rfl
 have hk:KillR a ⟨i,g⟩ b':=by
  rw[hb'];exact⟨⟨hok.tab,hok.ord,hok.keys,hok.ent,hok.g,hok.gn,hok.cnt⟩,hne2,hA,hki,by show b.gens.set i _=a.gens.set ((i:Int).toNat) _;rw[Int.toNat_natCast,hgd];exact congrArg (λx=>x.set i (b.gens[i]+1)) hge,⟨_,hit⟩⟩
 exact Ends.sp [iA 0] (arS b') ⟨b',hk,rfl,rfl⟩
theorem UY(a:Int):PS Tryz.prog 233 [iA a] (bA false):=by
 refine Sp (nt:=6) (res:=[.tmp 2]) Tryz.func233 λSf=>?_
 refine KK ?_;refine RT ?_;refine AN ?_;have:decide (a≠a)=false:=AK (by simp);rw[this]
theorem UZ(a b:Int):PS Tryz.prog 232 [iA a,iA b] (bA (decide (a<b))):=by
 refine Sp (nt:=17) (res:=[.tmp 4]) Tryz.func232 λSf=>?_
 refine R1 ?_;refine FL ?_;refine RG ?_;refine WO ?_;refine AOps.g_callf ?_;refine AOps.c1 (h:=(J6 a)) (k:=?_);refine KO ?_;refine NL ?_;refine RT ?_;exact Ends.sp [bA (decide (a<b))] [] ⟨rfl,rfl⟩
def Jw(l:List Int)(n:Int):Nat:=(l.filter λx=>decide (x<n)).length
theorem QD{l:List Int}{n:Int}{i:Nat}(hi:i<=l.length)(h1:∀k (h:k<l.length),k<i->l[k]<n)(h2:∀k (h:k<l.length),i<=k->n<=l[k]):Jw l n=i:=by
 unfold Jw
 have e:l.filter (λx=>decide (x<n))=l.take i:=by
  conv=>lhs;rw[<-List.take_append_drop i l]
  rw[List.filter_append,List.filter_eq_self.2,List.filter_eq_nil_iff.2,List.append_nil]
  ·intro x hx
   obtain⟨k,hk,rfl⟩:=List.mem_iff_getElem.1 hx;rw[Bh]at hk;rw[List.getElem_drop];have:=h2 (i+k) (by omega) (by omega);simp;omega
  ·intro x hx
   obtain⟨k,hk,rfl⟩:=List.mem_take_iff_getElem.1 hx;have:=h1 k (by omega) (by omega);simp;omega
 rw[e,Ag];omega
theorem QU(l:List Int)(n:Int)(hs:l.Pairwise (· < ·))(hl:l.length<=1099511627776):PS Tryz.prog 216 [AQ false l,iA n] (.tup [iA (Jw l n:Nat),bA (decide (n∈l))]):=by
 have hml:(l.map iA).length=l.length:=AB _;have hsp:=List.pairwise_iff_getElem.1 hs;refine Sp (nt:=54) (res:=[.tmp 4,.tmp 5]) Tryz.func216 λSf=>?_
 refine R1 ?_;refine FL ?_;refine R1 ?_;refine FL ?_;refine R1 ?_;refine FL ?_;rw[hml];refine BV (λ(i j:Nat)=>⟨[(0,AQ false l),(1,iA n),(6,iA l.length),(7,iA i),(8,iA j)],Sf⟩) (λi j=>i<=j/\j<=l.length/\(∀k (h:k<l.length),k<i->l[k]<n)/\∀k (h:k<l.length),j<=k->n<=l[k]) (λi j=>j-i) 0 l.length ⟨Nat.zero_le _,Nat.le_refl _,λk h1 h2=>absurd h2 (by omega),λk h1 h2=>absurd h2 (by omega)⟩ ?_;rintro i j ⟨hij,hjn,hlo,hhi⟩;refine R1 ?_;refine FL ?_;refine AWP.cond rfl (λhc=>?_) (λhc=>?_)
 ·have h:i<j:=by rw[AD]at hc;omega
  have hmid:((i:Int)+j).fdiv (2^1)=(((i+j)/2:Nat):Int):=by
   rw[Int.fdiv_eq_ediv_of_nonneg _ (by decide)];omega
  have hw1:IntKind.u64.wrap ((i:Int)+j)=i+j:=by rw[IntKind.wrap_u64];omega
  have hw2:IntKind.i64.wrap (((i:Int)+j).fdiv (2^1))=((i:Int)+j).fdiv (2^1):=by
   rw[IntKind.wrap_i64,hmid];omega
  refine FL ?_;refine RG ?_;(iterate 3 refine WO ?_);refine AOps.gN ?_;refine AOps.p (W.conv .i64 .u64 (by kernel_rfl) (by kernel_rfl) rfl hw1) rfl ?_;refine AOps.gN ?_;refine AOps.p (W.shr 1 rfl rfl rfl (by decide)) rfl ?_;refine AOps.gN ?_;refine AOps.p (W.conv .u64 .i64 (by kernel_rfl) (by kernel_rfl) rfl hw2) rfl ?_;refine WO ?_;refine NL ?_;rw[hmid];obtain⟨m,hm⟩:∃m,(i+j)/2=m:=⟨_,rfl⟩;rw[hm];have hml2:m<l.length:=by omega
  have hmm:m<(l.map iA).length:=by omega
  have hat:(l.map iA)[m]?=some (iA l[m]):=by rw[AF,AG hml2];rfl
  have hls:=UZ l[m] n;refine FL ?_;refine RG ?_;refine KO ?_;refine AOps.g_callf ?_;refine AOps.c2 (h:=(hls ..)) (k:=?_);refine NL ?_;refine FL ?_;refine AWP.cond rfl (λhe=>?_) (λhe=>?_)
  ·have he:l[m]<n:=of_decide_eq_true he
   refine FL ?_;refine R1 ?_;refine A9 (m+1) j ⟨by omega,hjn,λk h1 h2=>?_,hhi⟩;by_cases e:k=m
   ·subst e;exact he
   ·have:=hsp k m h1 hml2 (by omega);omega
  ·have he:¬l[m]<n:=of_decide_eq_false he
   refine FL ?_;refine R1 ?_;refine A9 i m ⟨by omega,by omega,hlo,λk h1 h2=>?_⟩;by_cases e:k=m
   ·subst e;omega
   ·have:=hsp m k hml2 h1 (by omega);omega
 ·have h:i=j:=by rw[AL]at hc;omega
  subst h;have hlw:=QD hjn hlo hhi;refine FL ?_;by_cases hin:i<l.length
  ·have g1:decide ((i:Int)<(l.length:Nat))=true:=Ah (by omega)
   have hmm:i<(l.map iA).length:=by omega
   have hat:(l.map iA)[i]?=some (iA l[i]):=by rw[AF,AG hin];rfl
   by_cases he:l[i]=n
   ·have g2:decide (l[i]=n)=true:=Ah he
    have hmem:decide (n∈l)=true:=Ah (by rw[<-he];exact AY hin);rw[hlw,hmem];refine RG ?_;(repeat first|(refine AOps.gQ ?_;first|refine AOps.goNU ?_|refine AOps.goNV ?_)|refine WO ?_|refine Ai λX=>?_|refine Ay λY=>?_);refine NL ?_;refine RT ?_;rw[g1,g2];exact Ends.sp [iA i,bA true] [] ⟨rfl,rfl⟩
   ·have g2:decide (l[i]=n)=false:=AK he
    have hmem:decide (n∈l)=false:=AK λhm=>by
     obtain⟨k,hk,rfl⟩:=List.mem_iff_getElem.1 hm;rcases Nat.lt_or_ge k i with h|h
     ·have:=hlo k hk h;omega
     ·have h3:k≠i:=λe=>he (by subst e;rfl)
      have:=hsp i k hin hk (by omega);have:=hhi i hin (Nat.le_refl _);omega
    rw[hlw,hmem];refine RG ?_;refine KO ?_;refine AOps.g_callf ?_;refine AOps.c1 (h:=(UY l[i])) (k:=?_);refine KO ?_;refine NL ?_;refine RT ?_;rw[g1,g2];exact Ends.sp [iA i,bA false] [] ⟨rfl,rfl⟩
  ·have g1:decide ((i:Int)<(l.length:Nat))=false:=AK (by omega)
   have hmem:decide (n∈l)=false:=AK λhm=>by
    obtain⟨k,hk,rfl⟩:=List.mem_iff_getElem.1 hm;have:=hlo k hk (by omega);omega
   rw[hlw,hmem];refine RG ?_;(repeat first|(refine AOps.gQ ?_;first|refine AOps.goNU ?_|refine AOps.goNV ?_)|refine WO ?_|refine Ai λX=>?_|refine Ay λY=>?_);refine NL ?_;refine RT ?_;rw[g1];exact Ends.sp [iA i,bA false] [] ⟨rfl,rfl⟩
theorem KZ{α:Type}{l:List α}{i:Nat}(h:i<l.length)(z:List α):(l.take i++(l.drop (i+1)).take (l.length-(i+1))++z).take (i+(l.length-(i+1)))=l.eraseIdx i:=by
 rw[List.take_of_length_le (l:=l.drop (i+1)) (by rw[Bh];omega),List.eraseIdx_eq_take_drop_succ];rw[List.take_append_of_le_length (by simp;omega),List.take_of_length_le (by simp;omega)]
theorem PW(X n i:Nat)(l:List AV)(hn:n=l.length)(hi:i<n)(hl:n<=1099511627776)(hfr:FreeL l)(hw:∀e∈l,e.width=2):
  Spec Tryz.prog 219 [.sl X 0 n,iA i,iA ((i:Int)+1)] [(X,.row 85 2 l)] λr S'=>r= .lst true 85 2 (l.eraseIdx i)/\S'=[]:=by
 subst hn;refine Sp (nt:=33) (res:=[.tmp 6]) Tryz.func219 λSf=>?_
 have h1:((i:Int)+1)=((i+1:Nat):Int):=by omega
 refine R1 ?_;refine RG ?_;(iterate 5 refine WO ?_);refine AOps.gN ?_;refine AOps.p (W.slice3 (lo:=i) (hi:=i+1) (mx:=l.length) rfl rfl rfl rfl (by exact At.f) rfl h1 rfl (by omega) (by omega) (Nat.le_refl _)) rfl ?_;refine NL ?_;refine R1 ?_;refine AA rfl (AK (by omega)) ?_;refine R1 ?_;have hel:(l.eraseIdx i).length=l.length-1:=List.length_eraseIdx_of_lt hi;rcases Nat.lt_or_ge (i+1) l.length with hj|hj
 ·have hp:=KZ hi
  refine RU ?_;refine RK ?_;refine RK ?_;refine RGo.gN ?_;refine RGo.p (W.hi rfl rfl (by exact At.f) rfl (by omega)) rfl ?_;refine RK ?_;refine RK ?_;refine RGo.gN ?_;refine RGo.p (W.slice_lo (lo:=i+1) rfl rfl (by exact At.f) h1 (by omega)) rfl ?_;refine RGo.gN ?_;refine RGo.s (W.appS (l.length-(i+1)) (by omega) (by omega) (by omega) hfr hw rfl rfl (by exact At.f)) rfl ?_;refine RK ?_;refine RGo.nil (by kernel_rfl) ?_;rw[Nat.zero_add];have hln:i+(l.length-(i+1))=l.length-1:=by omega
  have hLl:(l.take i++(l.drop (i+1)).take (l.length-(i+1))++l.drop (i+(l.length-(i+1)))).length=l.length:=by simp only[AI,Ag,Bh];omega
  have hLp:=hp (l.drop (i+(l.length-(i+1))));obtain⟨L',hL'⟩:∃L',l.take i++(l.drop (i+1)).take (l.length-(i+1))++l.drop (i+(l.length-(i+1)))=L':=⟨_,rfl⟩;rw[hL']at hLl hLp⊢
  have key:∀Z D,((L'.take (i+(l.length-(i+1)))++Z)++D).take (i+(l.length-(i+1)))=l.eraseIdx i:=λZ D=>by
   rw[AM,List.take_append_of_le_length (by rw[Ag];omega),List.take_take,Nat.min_self,hLp]
  refine RG ?_;(iterate 4 refine WO ?_);refine AOps.gN ?_;refine AOps.p (Tn (lo:=i+(l.length-(i+1))) (hi:=l.length) rfl rfl rfl (by exact At.f) rfl rfl (by omega) (by omega)) rfl ?_;refine AOps.gN ?_;refine AOps.s (W.clear rfl (by exact At.f) (by first|exact .inl rfl|exact .inr rfl) rfl (by omega)) rfl ?_;refine NL ?_;refine R1 ?_;refine AWP.shrink (X:=X) (i+(l.length-(i+1))) ?_;rw[Nat.zero_add,key];refine RT ?_;exact⟨[.sl X 0 (i+(l.length-(i+1)))],[.lst true 85 2 (l.eraseIdx i)],_,[],.cons (.tmp rfl) rfl .nil,.cons (.cell (.sl (p:=0) .here (by rw[hel];omega))) .nil,by exact Sub.f,rfl,rfl⟩
 ·have hie:i=l.length-1:=by omega
  have hl0:l.length-(i+1)=0:=by omega
  have hle:l.eraseIdx i=l.take i:=by rw[List.eraseIdx_eq_take_drop_succ,List.drop_of_length_le (by omega),List.append_nil]
  have key:∀Z D,((l.take i++Z)++D).take i=l.eraseIdx i:=λZ D=>by
   rw[AM,List.take_append_of_le_length (by rw[Ag];omega),List.take_take,Nat.min_self,hle]
  refine RU ?_;refine RK ?_;refine RK ?_;refine RGo.gN ?_;refine RGo.p (W.hi rfl rfl (by exact At.f) rfl (by omega)) rfl ?_;refine RK ?_;refine RK ?_;refine RGo.gN ?_;refine RGo.p (W.slice_lo (lo:=i+1) rfl rfl (by exact At.f) h1 (by omega)) rfl ?_;rw[hl0];refine RGo.gN ?_;refine RGo.p (W.app0 rfl rfl (by exact At.f)) rfl ?_;refine RK ?_;refine RGo.nil (by kernel_rfl) ?_;refine RG ?_;(iterate 4 refine WO ?_);refine AOps.gN ?_;refine AOps.p (Tn (lo:=i) (hi:=l.length) rfl rfl rfl (by exact At.f) rfl rfl (by omega) (by omega)) rfl ?_;refine AOps.gN ?_;refine AOps.s (W.clear rfl (by exact At.f) (by first|exact .inl rfl|exact .inr rfl) rfl (by omega)) rfl ?_;refine NL ?_;refine R1 ?_;refine AWP.shrink (X:=X) i ?_;simp only[Nat.zero_add];rw[key];refine RT ?_;exact⟨[.sl X 0 i],[.lst true 85 2 (l.eraseIdx i)],_,[],.cons (.tmp rfl) rfl .nil,.cons (.cell (.sl (p:=0) .here (by rw[hel];omega))) .nil,by exact Sub.f,rfl,rfl⟩
theorem Ro(l:List Ent)(hl:l.length*16<=140737488355328):PS Tryz.prog 220 [.lst false 51 2 (l.map A8)] (.lst true 51 2 (l.map A8)):=by
 refine Sp (nt:=8) (res:=[.tmp 2]) Tryz.func220 λSf=>?_
 (iterate 8 refine WK ?_);refine AOps.gN ?_;refine AOps.isNil λb hb=>?_;refine KK ?_
 refine AWP.cond rfl (λhc=>?_) (λhc=>?_)
 ·rw[hb hc]
  refine KK ?_;refine RT ?_;exact⟨[.prim (.slice none 0 0)],[.lst true 51 2 []],_,[],.cons (.tmp rfl) rfl .nil,.cons (.cell .nil) .nil,by exact Sub.f,rfl,rfl⟩
 ·have hl':(0+(l.map A8).length)*16<=140737488355328:=by simpa using hl
  clear hl
  (iterate 3 refine WK ?_);refine AOps.g_lit ?_;refine MD λK=>?_;refine KK ?_;refine Ay λY=>?_;refine KK ?_
  refine RT ?_;exact⟨[.sl Y 0 (0+(l.map A8).length)],[.lst true 51 2 (l.map A8)],_,[],.cons (.tmp rfl) rfl .nil,.cons (.cell (.sl (p:=0) .here (by simp))) .nil,by exact Sub.f,rfl,rfl⟩
theorem No(S:List AC):∀b:List Int,Lds S (b.map iA) (b.map iA)
 |[]=>.nil
 |x::b=>.cons (show Ld S (iA x) (iA x)from .frz (a:=iA x)) (No S b)
theorem N5(S:List AC):∀b:List Ent,Lds S (b.map A8) (b.map A8)
 |[]=>.nil
 |x::b=>.cons (show Ld S (A8 x) (A8 x)from .frz (a:=A8 x)) (N5 S b)
theorem Kh(X:Nat)(l:List Int)(n:Nat)(hn:n=l.length)(hl:l.length*8<=140737488355328):Spec Tryz.prog 47 [.sl X 0 n] [(X,.row 3 1 (l.map iA))] λr S'=>r= .lst true 3 1 (l.map iA)/\S'=[(X,.row 3 1 (l.map iA))]:=by
 subst hn;refine PS.lend (Eo l hl) (by show CB _=true;rw[HQ (λ_=>rfl)]) (.cons (.sl .here (by simp) ?_) .nil);rw[List.drop_zero,List.take_of_length_le (by simp)];exact No _ _
theorem Pd(X:Nat)(l:List Ent)(n:Nat)(hn:n=l.length)(hl:l.length*16<=140737488355328):Spec Tryz.prog 220 [.sl X 0 n] [(X,.row 51 2 (l.map A8))] λr S'=>r= .lst true 51 2 (l.map A8)/\S'=[(X,.row 51 2 (l.map A8))]:=by
 subst hn;refine PS.lend (Ro l hl) (by show CB _=true;rw[HQ (λ_=>rfl)]) (.cons (.sl .here (by simp) ?_) .nil);rw[List.drop_zero,List.take_of_length_le (by simp)];exact N5 _ _
abbrev Ka(l:List Ent):AV:=.lst false 51 2 (l.map A8)
theorem U1(k:StK)(l:List (Int×Ent))(hl:ColOK l):Spec Tryz.prog 176 [.ptr k.X 0 0] (stE k l) λr S'=>r= .fn 221 [.fp [AQ false (AJ l)],.fp [Ka (l.map (·.2))]]/\S'=stE k l:=by
 have hlen:=hl.len;have h1:=Kh k.R (AJ l) l.length (by simp) (by rw[AB];omega);have h2:=Pd k.V (l.map (·.2)) l.length (by simp) (by rw[AB];omega);have e1:(AJ l).map iA=l.map λe=>iA e.1:=List.map_map
 have e2:(l.map (·.2)).map A8=l.map λe=>A8 e.2:=List.map_map
 rw[e1]at h1;rw[e2]at h2;refine Sp (nt:=16) (res:=[.tmp 2]) Tryz.func176 λSf=>?_
 refine R1 ?_;refine FL ?_;refine AWP.rs λA=>AWP.rs λB=>?_
 refine RU ?_;refine KR ?_;refine RGo.g_callf ?_;refine RGo.z1 (h:=h1) (hT:=.fz) (k:=?_);refine KR ?_;refine RGo.g_callf ?_;refine RGo.z1 (h:=h2) (hT:=.fz) (k:=?_);(iterate 4 refine RK ?_);refine RGo.nil (by kernel_rfl) ?_;refine FL ?_;refine AWP.iceP [3] .here ?_ (by intro d hd;simp only[BN]at hd;subst hd;rfl);refine AWP.iceP [4] (.next .here) ?_ (by intro d hd;simp only[BN]at hd;subst hd;rfl);refine R1 ?_;have er:AV.fn 221 [.fp [AQ false (AJ l)],.fp [Ka (l.map (·.2))]]=AV.fn 221 [.fp [.lst false 3 1 (l.map λe=>iA e.1)],.fp [.lst false 51 2 (l.map λe=>A8 e.2)]]:=by rw[AQ,Ka,e1,e2]
 rw[er];refine RT ?_;exact Ends.sp [AV.fn 221 [.fp [.lst false 3 1 (l.map λe=>iA e.1)],.fp [.lst false 51 2 (l.map λe=>A8 e.2)]]] (stE k l) ⟨rfl,rfl⟩
theorem Tj(ks:List Int)(es:List Ent)(hl:ks.length=es.length)(h0:ks.length<=1099511627776):Itr Tryz.prog 221 [.fp [AQ false ks],.fp [Ka es]] ((ks.zip es).map λq=>[iA q.1,A8 q.2]):=by
 have hkm:(ks.map iA).length=ks.length:=AB _;have hem:(es.map A8).length=es.length:=AB _;refine⟨by kernel_rfl,λy J Jx hY Sl hJ0=>?_⟩;refine Sp (nt:=22) (res:=[]) Tryz.func221 λSf=>?_
 refine R1 ?_;refine FL ?_;refine BV (λ(i:Nat) (Sl:List AC)=>⟨[(0,.prim y),(2,.fp [Ka es]),(6,AQ false ks),(7,iA (ks.map iA).length),(8,iA i)],Sl++Sf⟩) (λi Sl=>i<=ks.length/\J i Sl) (λi _=>ks.length-i) 0 Sl ⟨Nat.zero_le _,hJ0⟩ ?_;rintro i Sl ⟨hi,hJ⟩;refine R1 ?_;refine FL ?_;refine AWP.cond rfl (λhc=>?_) (λhc=>?_)
 ·have h:i<ks.length:=by rw[AD,hkm]at hc;omega
  have he:i<es.length:=by omega
  have hat:(ks.map iA)[i]?=some (iA ks[i]):=BH _ h;have hil:i<(ks.map iA).length:=by omega
  have hat2:(es.map A8)[i]?=some (A8 es[i]):=BH _ he;have hil2:i<(es.map A8).length:=by omega
  have hyi:((ks.zip es).map λq=>[iA q.1,A8 q.2])[i]?=some [iA ks[i],A8 es[i]]:=by
   rw[AF,AG (by rw[List.length_zip];omega),List.getElem_zip];rfl
  obtain⟨k,hk⟩:∃k,ks[i]=k:=⟨_,rfl⟩;obtain⟨e,hee⟩:∃e,es[i]=e:=⟨_,rfl⟩;rw[hk]at hat hyi;rw[hee]at hat2 hyi;refine FL ?_;refine R1 ?_;refine FL ?_;refine RG ?_;refine KO ?_;refine OT (Si:=[]) hY hJ hyi (λSl' hk=>?_) (λSl' hk=>?_)
  ·refine WO ?_
   refine AOps.nil ?_;refine FL ?_;refine AA rfl rfl ?_;refine KK ?_;refine A9 (i+1) Sl' ⟨h,hk⟩
  ·refine WO ?_
   refine AOps.nil ?_;refine FL ?_;refine AP rfl rfl ?_
   skip
   refine RT ?_;exact BM Sl' (.inr hk)
 ·have h:i=ks.length:=by rw[AL,hkm]at hc;omega
  subst h;refine KK ?_;refine C6 ?_;exact BM Sl (.inl (by rw[AB,List.length_zip,<-hl,Nat.min_self];exact hJ))
theorem W.makeMap{P:Program}{ty t k e:TypeId}{pos:String}{after:Array Edge}{dst:Option Tmp}{c:Option (List Bool)}{g:Option (Nat×Bool)}{T:List (Nat×AV)}{S:List AC}{X p:Nat}{z0:Value}[TMap P t k e z0](hS:At S p (X,.gone)):Stp c P ⟨dst,.makeMap t none,ty,pos,after,g⟩ T S [] [(p,(X,.gone))] (.mp X) [(p,(X,.ob (MapF P k e (λ_=>none) 0)))]:=⟨.makeMap (TMap.h (z0:=z0)),.nil,.cons hS .nil⟩
theorem ArOK.keys_items{a:Ar}(h:ArOK a):BP a.ts=(Au a.ts).map (·.ent.n):=by
 rw[BP,Au,List.map_flatMap]
 have:∀ts:List Tab,(∀t∈ts,∀e∈t.es,e.1=e.2.n)->(ts.flatMap λt=>AJ t.es)=ts.flatMap λt=>(B3 t).map (·.ent.n):=by
  intro ts
  induction ts with
  |nil=>intro _;rfl
  |cons t ts ih=>
   intro hh;rw[List.flatMap_cons,List.flatMap_cons,ih λu hu=>hh u (by simp[hu])]
   congr 1
   rw[B3,List.map_map];exact List.map_congr_left λe he=>hh t (by simp) e he
 exact this a.ts h.ent
theorem WdOK.cl{w:Wd}(h:WdOK w):∀it∈w.items,it.comps.length<=16:=λit hi=>by
 obtain⟨_,_,_,_,e⟩:=h.it it hi;obtain⟨h1,h2⟩:=held_iff.1 e;have h16:=(Bk h.ks).1;have:=GR (λc:Comp=>c.kind) w.kinds.length it.comps (h1.imp λ{a b} hab e=>by omega) (λc hc=>⟨(h2 c hc).1,(h2 c hc).2.1⟩);omega
theorem V9(w:Wd)(hw:WdOK w):Spec Tryz.prog 113 [wdA false w] [] λr S'=>∃b:Ar,(ArOK b/\Eh b.ts/\b.kinds=w.kinds/\b.gens=w.gens/\(Au b.ts).Perm w.items)/\r= .tup [.ptr b.A 0 0,iA 0]/\S'=arS b:=by
 have hL:=hw.wl;have hgl:=hw.gl;have hil:=hw.il;have hsok:=hw.so;have hit:=hw.it;have hkp:=GU w.kinds (by have:=(Bk hw.ks).1;omega) (λk hk=>by have:=(C8 ((Bk hw.ks).2 k hk)).2.1;omega);have hcl:=Eo w.gens (by omega);have hck:=ED w (by omega) (by omega) (λit hi=>(hL.items.2 it hi).1);rw[(BG w).2 hw]at hck;have hcc:=hw.cl;have hcp:∀it∈w.items,PS Tryz.prog 51 [Aw false false it.comps] (Aw true false it.comps):=λit hi=>Dy it.comps (hL.items.2 it hi).1 (hL.items.2 it hi).2
 have hime:(w.items.map (AE false)).length=w.items.length:=AB _;obtain⟨ks,gs,its⟩:=w;dsimp only at*;refine Sp (nt:=38) (res:=[.tmp 2,.tmp 3]) Tryz.func113 λSf=>?_
 refine RG ?_;refine WO ?_;refine Ai λD=>?_;refine KO ?_;refine NL ?_
 refine FL ?_;refine RG ?_;refine WO ?_;refine AOps.g_callf ?_;refine AOps.c1 (h:=(hck ..)) (k:=?_);refine WO ?_;refine NL ?_;refine FL ?_;refine R1 ?_;refine FL ?_;refine AA rfl rfl ?_;refine FL ?_;have hgm:(gs.map iA).length=gs.length:=AB _;refine AWP.rs λA=>AWP.rs λG=>AWP.rs λO=>?_
 refine RU ?_;refine KR ?_;refine RGo.g_callf ?_;refine RGo.c1 (h:=(hkp ..)) (k:=?_);refine KR ?_;refine RGo.g_callf ?_;refine RGo.z1 (h:=hcl) (hT:=.ls (Y:=G)) (k:=?_);refine RGo.gN ?_;refine RGo.goS (h:=W.makeMap (X:=O) (by exact At.f)) (k:=?_);refine RK ?_;refine RGo.gN ?_;refine RGo.goS (h:=W.box (X:=A) rfl (by exact At.f) rfl) (k:=?_);refine RK ?_;refine RGo.nil (by kernel_rfl) ?_;refine FL ?_;refine AWP.adoptIn (Y:=A) 271 1 (by exact At.f) (λTb=>.cons (.agg (.cons .same (.cons .same (.cons (.base .nil) (.cons .same .nil))))) .nil) λTb=>?_
 rw[hgm];refine AWP.note (λ_ _=>False) (λ_ _ h=>h) λTv=>?_
 refine R1 ?_;refine FL ?_;refine AWP.front Tb ?_;refine AWP.front Tv ?_;refine AWP.front O ?_;refine AWP.front G ?_;refine AWP.front A ?_;refine AWP.front D ?_;refine BV (λ(i:Nat) (b:Ar)=>⟨[(5,.ptr A 0 0),(23,Fv false false its),(24,iA (its.map (AE false)).length),(25,iA i)],(D,.row 27 3 [wdA false ⟨ks,gs,its⟩])::(arS b++Sf)⟩) (λi b=>i<=its.length/\ArOK b/\Eh b.ts/\b.A=A/\b.kinds=ks/\b.gens=gs/\(Au b.ts).Perm (its.take i)) (λi _=>its.length-i) 0 ⟨A,G,Tb,O,Tv,λ_ _=>False,λ_=>none,0,ks,gs,[]⟩ ⟨by omega,⟨by simp,.nil,.nil,by simp,by simp,by simp,rfl⟩,(by intro t ht;cases ht),rfl,rfl,rfl,.refl _⟩ ?_;rintro i b ⟨hi,hok,hne,hA,hbk,hbg,hpm⟩;subst hA;refine R1 ?_;refine FL ?_;refine AWP.cond rfl (λh=>?_) (λh=>?_)
 ·have h:i<its.length:=by rw[AD,hime]at h;omega
  have hat:(its.map (AE false))[i]?=some (AE false its[i]):=BH _ h;have hil:i<(its.map (AE false)).length:=by omega
  have him:=AY h;obtain⟨it1,it2,_⟩:=hit _ him;have hcpi:=hcp _ him
  have hfr:its[i].ent.n∉BP b.ts:=by
   rw[hok.keys_items];intro hm;obtain⟨x,hx,e⟩:=List.mem_map.1 hm;have hx:=hpm.mem_iff.1 hx;obtain⟨j,hj,rfl⟩:=List.mem_take_iff_getElem.1 hx;have:=List.pairwise_iff_getElem.1 hsok j i (by omega) h (by omega);omega
  have had:=Ko b its[i].ent its[i].comps hok hne ⟨it1,by omega⟩ hfr (hcc _ him);have htk:its.take (i+1)=its.take i++[its[i]]:=List.take_succ_eq_append_getElem h;obtain⟨⟨ie,ic⟩,hie⟩:∃it,its[i]=it:=⟨_,rfl⟩;rw[hie]at hat hcpi had htk;refine FL ?_;refine RG ?_;refine KO ?_;refine Ai λC=>?_;refine WO ?_;refine NL ?_
  refine FL ?_;(repeat refine WF ?_);refine DX 6 (by kernel_rfl) (by kernel_rfl) (by kernel_rfl) ?_;dsimp only[List.take,List.drop];refine KR ?_;refine RGo.g_callf ?_;refine RGo.c1 (h:=(hcpi ..)) (k:=?_);refine RGo.nil (by kernel_rfl) ?_;refine D5 [_,_] (h:=had) λb' hb'=>?_
  obtain⟨k1,k2,k3,k4,k5,k6⟩:=hb';refine AOps.nil ?_;refine FL ?_;refine R1 ?_
  exact A9 (i+1) b' ⟨by omega,k1,k2,k3,k4.trans hbk,k5.trans hbg,by
   rw[htk];exact k6.trans ((hpm.cons _).trans (List.perm_append_singleton _ _).symm)⟩ (by omega)
 ·have h:i=its.length:=by rw[AL,hime]at h;omega
  subst h;rw[List.take_length]at hpm;refine FL ?_;refine R1 ?_;refine RT ?_;exact Ends.sp [.ptr b.A 0 0,iA 0] (arS b) ⟨b,⟨hok,hne,hbk,hbg,hpm⟩,rfl,rfl⟩
theorem TM(a:Ar)(ha:ArOK a)(e:Ent)(k:Int)(hn:I64 e.n)(hh:Fw a e=false):Spec Tryz.prog 173 [.ptr a.A 0 0,A8 e,iA k] (arS a) λr S'=>r=iA 4/\S'=arS a:=by
 have hs:=IY a ha e hn;rw[hh]at hs;refine Sp (nt:=41) (res:=[.tmp 6]) Tryz.func173 λSf=>?_
 refine RG ?_;refine WO ?_;refine Ai λB=>?_;refine WO ?_;refine NL ?_
 refine FL ?_;refine RG ?_;refine WO ?_;refine WO ?_;refine AOps.gN ?_;refine EL [_] (h:=hs) (k:=?_);refine WO ?_;refine NL ?_;refine AP rfl rfl ?_;refine FL ?_;refine R1 ?_;refine RT ?_;exact Ends.sp [iA 4] (arS a) ⟨rfl,rfl⟩
theorem ArOK.ptr{a:Ar}(h:ArOK a){t:Tab}(ht:t∈a.ts){n:Int}(hn:n∈AJ t.es):∃u,(a.g n).getD (.pointer none)=u/\u.oneCell'=true/\a.K (.ptr t.X 0 0) u:=by
 have hsm:=h.gn n (List.mem_flatMap.2 ⟨t,ht,hn⟩);obtain⟨u,hu⟩:∃u,a.g n=some u:=Option.isSome_iff_exists.1 hsm;obtain⟨w,hw,hwn,hK,b,hb⟩:=h.g n u hu;have:=h.uniq hw ht hwn hn;subst this;exact⟨u,by rw[hu];rfl,by rw[hb];rfl,hK⟩
theorem KJ{a b:Ar}(ha:ArOK a)(hb:ArOK b){e:Ent}{l:List Comp}(hit:(Au a.ts).Perm (⟨e,l⟩::Au b.ts)):e.n∉BP b.ts:=by
 have h1:=ha.keys;rw[ha.keys_items]at h1;have h2:=(hit.map λit:Item=>it.ent.n).nodup_iff.1 h1;rw[hb.keys_items];exact(List.nodup_cons.1 h2).1
theorem Nh{l:List Int}{k:Int}(hs:l.Pairwise (· < ·))(h:k∈l):∃hl:Jw l k<l.length,l[Jw l k]=k:=by
 obtain⟨i,hi,rfl⟩:=List.mem_iff_getElem.1 h;have hsp:=List.pairwise_iff_getElem.1 hs
 have e:=QD (l:=l) (n:=l[i]) (i:=i) (by omega) (λj hj hlt=>hsp j i hj hi hlt) (λj hj hle=>by
  rcases Nat.lt_or_eq_of_le hle with h|rfl
  ·have:=hsp i j hi hj h;omega
  ·exact Int.le_refl _)
 exact⟨by rw[e];exact hi,by simp only[e]⟩
structure SwapR(a:Ar)(e:Ent)(l l':List Comp)(b:Ar):Prop where
 ok:ArOK b
 ne:Eh b.ts
 A:b.A=a.A
 kinds:b.kinds=a.kinds
 gens:b.gens=a.gens
 items:∃r,(Au a.ts).Perm (⟨e,l⟩::r)/\(Au b.ts).Perm (⟨e,l'⟩::r)
theorem Re(a:Ar)(ha:ArOK a)(hne:Eh a.ts)(e:Ent)(k:Int)(hn:I64 e.n)(hkl:I64 k)(hh:Fw a e=true){l1 l2:List Tab}{t:Tab}(hts:a.ts=l1++t::l2)(hm:(e.n,e)∈t.es)(hks:t.ks.Pairwise (· < ·)):Spec Tryz.prog 173 [.ptr a.A 0 0,A8 e,iA k] (arS a) λr S'=>∃b:Ar,(if k∈t.ks then SwapR a e (Aa t e.n) ((Aa t e.n).eraseIdx (Jw t.ks k)) b else b=a)/\r=iA (if k∈t.ks then 0 else 4)/\S'=arS b:=by
 have htm:t∈a.ts:=by rw[hts];simp
 have hto:=ha.tab t htm;have hnk:e.n∈AJ t.es:=List.mem_map.2 ⟨_,hm,rfl⟩;have hnl:=hto.es.lt _ hnk;have hs:=IY a ha e hn;rw[hh]at hs;have hbs:=QU t.ks k hks (by have:=hto.ks;omega);obtain⟨u,hgd,hone,hK⟩:=ha.ptr htm hnk;refine Sp (nt:=41) (res:=[.tmp 6]) Tryz.func173 λSf=>?_
 refine RG ?_;refine WO ?_;refine Ai λB=>?_;refine WO ?_;refine NL ?_
 refine FL ?_;refine RG ?_;refine WO ?_;refine WO ?_;refine AOps.gN ?_;refine EL [_] (h:=hs) (k:=?_);refine WO ?_;refine NL ?_;refine AA rfl rfl ?_;refine FL ?_;refine AWP.perm (List.Perm.cons _ (ES hts Sf)) ?_;refine RU ?_;(iterate 6 refine RK ?_);refine RGo.gN ?_;refine RGo.go (h:=W.lookP (.ptr t.X 0 0) hgd hn hone hK rfl rfl (by exact At.f) (by exact At.f)) (k:=?_);refine KR ?_;refine RGo.g_callf ?_;refine RGo.c2 (h:=(hbs ..)) (k:=?_);(iterate 5 refine RK ?_);refine RGo.nil (by kernel_rfl) ?_;by_cases hk:k∈t.ks
 ·rw[Ah hk]
  simp only[if_pos hk];refine FL ?_;refine R1 ?_;refine AA rfl rfl ?_;refine FL ?_;refine AWP.perm (List.Perm.cons _ (ES hts Sf).symm) ?_;(repeat refine WF ?_);have htk:=MG a ha hne hts hnk;obtain⟨i,hi⟩:∃i,Jw t.ks k=i:=⟨_,rfl⟩;rw[hi];obtain⟨hil,hik⟩:=Nh hks hk;rw[hi]at hil;have htl:(Aa t e.n).length=t.ks.length:=by unfold Aa;rw[AB,List.length_zip];have:=hto.len;omega
  have h16:=hto.ks;refine DY (n:=1) [(B,.row 51 2 [A8 e])] (arS a++Sf) rfl (by kernel_rfl) (by kernel_rfl) ?_;refine RGoH.go ?_;refine RGoH.go ?_;refine RGoH.go ?_;refine RGoH.go ?_;refine RGoH.go ?_;refine RGoH.skip [32,34] ?_;refine RGoH.go ?_;refine RGoH.go ?_;refine RGoH.go (h:=Bb ((i:Int)+1) (by omega) (by omega) rfl rfl) ?_;refine RGoH.skip [35,36,38] ?_;refine RGoH.skip [30,31,39] ?_;refine RGoH.nil (by kernel_rfl) (by kernel_rfl) (by kernel_rfl) ?_;refine HC.step [(32,.ptr a.A 0 0),(34,iA e.n)] ⟨rfl,rfl,rfl,rfl,trivial⟩ λT F=>?_
  refine Kw F (h:=htk) (k:=λY _ K=>?_);obtain⟨hok,hne2,hA,hki,hge,hit⟩:=Jz ha hne hts hm Y;obtain⟨b,hb⟩:∃b,Eu a l1 l2 t e.n Y=b:=⟨_,rfl⟩;rw[hb]at hok hne2 hA hki hge hit⊢;refine AOps.perm List.perm_middle.symm ?_;refine AOps.nil ⟨rfl,_,_,⟨λd v h=>h,.refl _⟩,?_⟩;have hdl:=PW K (Aa t e.n).length i ((Aa t e.n).map (AH false)) (AB _).symm (by omega) (by omega) (PZ _) (Ri _);rw[<-FZ]at hdl;refine HC.step [(35,.sl K 0 ((Aa t e.n).map (AH false)).length),(36,iA i),(38,iA ((i:Int)+1))] ⟨rfl,rfl,rfl,rfl,rfl,rfl,trivial⟩ λT2 F2=>?_
  rw[AB];refine VB F2 (h:=hdl) (k:=?_) (R:=arS b++Sf);refine AOps.nil ⟨rfl,_,_,⟨λd v h=>h,.refl _⟩,?_⟩;rw[<-hA];refine HC.step [(30,.ptr b.A 0 0),(31,A8 e),(39,Aw false false ((Aa t e.n).eraseIdx i))] ⟨rfl,rfl,rfl,rfl,rfl,rfl,trivial⟩ λT3 F3=>?_
  have had:=Ko b e ((Aa t e.n).eraseIdx i) hok hne2 hnl (KJ ha hok hit) (by rw[List.length_eraseIdx];split<;>omega);refine D5 F3 (h:=had) (k:=λb2 hb2=>?_);refine AOps.nil ⟨rfl,_,_,⟨λd v h=>h,.refl _⟩,?_⟩;show andThen _ _ _ _
  refine FL ?_;refine R1 ?_;refine RT ?_;obtain⟨g1,g2,g3,g4,g5,g6⟩:=hb2;exact Ends.sp [iA 0] (arS b2) ⟨b2,⟨g1,g2,g3.trans hA,g4.trans hki,g5.trans hge,_,hit,g6⟩,rfl,rfl⟩
 ·rw[AK hk]
  simp only[if_neg hk];refine FL ?_;refine R1 ?_;refine AP rfl rfl ?_;refine FL ?_;refine AWP.perm (List.Perm.cons _ (ES hts Sf).symm) ?_;refine R1 ?_;refine RT ?_;exact Ends.sp [iA 4] (arS a) ⟨a,rfl,rfl,rfl⟩
section
abbrev setT(t:Tab)(m1 m2:List (StK×List (Int×List Int)))(k:StK)(l:List (Int×List Int))(n:Int)(v:List Int):Tab:=⟨t.X,t.ks,t.ek,t.es,m1++(k,Bn l n v)::m2⟩
section
variable {t:Tab}{m1 m2:List (StK×List (Int×List Int))}{c:StK×List (Int×List Int)}{k:StK}{n:Int}{v:List Int}
theorem TabOK.setT(h:TabOK t)(hcs:t.cs=m1++c::m2)(hn:n∈AJ t.es):TabOK (setT t m1 m2 k c.2 n v):=by
 have hcm:c∈t.cs:=by rw[hcs];simp
 have hnl:=h.es.lt n hn
 have hmem:∀d,d∈m1++(k,Bn c.2 n v)::m2->d=(k,Bn c.2 n v)\/d∈t.cs:=λd hd=>by
  rw[hcs];rcases List.mem_append.1 hd with hd|hd
  ·exact .inr (by simp[hd])
  ·rcases List.mem_cons.1 hd with hd|hd
   ·exact .inl hd
   ·exact .inr (by simp[hd])
 refine⟨by have:=h.len;rw[hcs]at this;simpa using this,h.ks,h.es,λd hd=>?_,λd hd m=>?_⟩
 ·rcases hmem d hd with rfl|hd
  ·exact(h.cs c hcm).put hnl v
  ·exact h.cs d hd
 ·rcases hmem d hd with rfl|hd
  ·show m∈AJ (Bn c.2 n v)↔_
   rw[Ep ((h.keys c hcm n).2 hn)];exact h.keys c hcm m
  ·exact h.keys d hd m
theorem NK{β γ:Type}{ks:List β}{m1 m2:List γ}{c d:γ}{f:β×γ->Comp}:(ks.zip (m1++d::m2)).map f=match ks[m1.length]? with|some k=>((ks.zip (m1++c::m2)).map f).set m1.length (f (k,d))|none=>(ks.zip (m1++c::m2)).map f:=by
 induction m1 generalizing ks with
 |nil=>cases ks<;>rfl
 |cons x m1 ih=>
  cases ks with
  |nil=>rfl
  |cons y ks=>
   simp only[BF,List.zip_cons_cons,List.map_cons,BU,List.getElem?_cons_succ];rw[ih];cases ks[m1.length]? with
   |none=>rfl
   |some k=>rfl
theorem NE(h:TabOK t)(hcs:t.cs=m1++c::m2)(hn:n∈AJ t.es){z:Int}(hz:t.ks[m1.length]?=some z):Aa (setT t m1 m2 k c.2 n v) n=(Aa t n).set m1.length ⟨z,v⟩:=by
 unfold Aa;rw[NK (c:=c) (d:=(k,Bn c.2 n v)),hcs,hz];dsimp only;rw[Gk (h.cs c (by rw[hcs];simp)) (h.es.lt n hn),if_pos rfl];rfl
theorem ND(h:TabOK t)(hcs:t.cs=m1++c::m2)(hn:n∈AJ t.es){m:Int}(hne:m≠n):Aa (setT t m1 m2 k c.2 n v) m=Aa t m:=by
 unfold Aa;rw[NK (c:=c) (d:=(k,Bn c.2 n v)),hcs];cases hz:t.ks[m1.length]? with
 |none=>rfl
 |some z=>
  dsimp only;rw[Gk (h.cs c (by rw[hcs];simp)) (h.es.lt n hn),if_neg hne];refine List.ext_getElem? λj=>?_
  rw[List.getElem?_set];split
  ·rename_i e
   subst e;split
   ·rw[AF,(List.getElem?_zip_eq_some (z:=(z,c))).2 ⟨hz,by simp⟩]
    rfl
   ·rename_i hlt
    rw[List.getElem?_eq_none (by omega)]
  ·rfl
theorem Oe(h:TabOK t)(hcs:t.cs=m1++c::m2){e:Ent}(hm:(n,e)∈t.es){z:Int}(hz:t.ks[m1.length]?=some z):(B3 (setT t m1 m2 k c.2 n v)).Perm (⟨e,(Aa t n).set m1.length ⟨z,v⟩⟩::B3 (Dl t n)):=by
 have hn:n∈AJ t.es:=List.mem_map.2 ⟨_,hm,rfl⟩;have hp:=C5 h.es hm;have h1:=hp.map λp:Int×Ent=>(⟨p.2,Aa (setT t m1 m2 k c.2 n v) p.1⟩:Item)
 refine h1.trans ?_;rw[List.map_cons,NE h hcs hn hz];refine List.Perm.cons _ (List.Perm.of_eq ?_);show _=(BX t.es n).map λp=>(⟨p.2,Aa (Dl t n) p.1⟩:Item)
 refine List.map_congr_left λp hp'=>?_
 have hk:p.1∈AJ (BX t.es n):=List.mem_map.2 ⟨p,hp',rfl⟩;have hne:=((Df h.es).1 hk).2;rw[In h hne,ND h hcs hn hne]
end
section
variable {a:Ar}{l1 l2:List Tab}{t:Tab}{m1 m2:List (StK×List (Int×List Int))}{c:StK×List (Int×List Int)}{k:StK}{n:Int}{v:List Int}
theorem Sr:BP (l1++setT t m1 m2 k c.2 n v::l2)=BP (l1++t::l2):=by
 rw[CP,Cd,CP,Cd]
theorem ArOK.setT(h:ArOK a)(hts:a.ts=l1++t::l2)(hcs:t.cs=m1++c::m2)(hn:n∈AJ t.es):ArOK {a with ts:=l1++Go.Proofs.YtoohajbhpbjpcaaGreat.setT t m1 m2 k c.2 n v::l2}:=by
 have htm:t∈a.ts:=by rw[hts];simp
 have hmem:∀u,u∈l1++Go.Proofs.YtoohajbhpbjpcaaGreat.setT t m1 m2 k c.2 n v::l2->u=Go.Proofs.YtoohajbhpbjpcaaGreat.setT t m1 m2 k c.2 n v\/u∈a.ts:=λu hu=>by
  rw[hts];rcases List.mem_append.1 hu with hu|hu
  ·exact .inr (by simp[hu])
  ·rcases List.mem_cons.1 hu with hu|hu
   ·exact .inl hu
   ·exact .inr (by simp[hu])
 have hk:BP (l1++Go.Proofs.YtoohajbhpbjpcaaGreat.setT t m1 m2 k c.2 n v::l2)=BP a.ts:=by rw[hts,Sr]
 refine⟨λu hu=>?_,?_,by show(BP _).Nodup;rw[hk];exact h.keys,λu hu=>?_,λm u hg=>?_,λm hm'=>h.gn m (by rw[<-hk];exact hm'),by show a.c=(BP _).length;rw[hk];exact h.cnt⟩
 ·rcases hmem u hu with rfl|hu
  ·exact(h.tab t htm).setT hcs hn
  ·exact h.tab u hu
 ·have ho:=h.ord
  rw[hts]at ho;rw[List.pairwise_append,List.pairwise_cons]at ho⊢
  exact⟨ho.1,⟨λx hx=>ho.2.1.1 x hx,ho.2.1.2⟩,λx hx y hy=>by
   rcases List.mem_cons.1 hy with rfl|hy
   ·exact ho.2.2 x hx t (by simp)
   ·exact ho.2.2 x hx y (by simp[hy])⟩
 ·rcases hmem u hu with rfl|hu
  ·exact h.ent t htm
  ·exact h.ent u hu
 ·obtain⟨w,hw,h2,h3,h4⟩:=h.g m u hg
  rw[hts]at hw;rcases List.mem_append.1 hw with hw|hw
  ·exact⟨w,by simp[hw],h2,h3,h4⟩
  ·rcases List.mem_cons.1 hw with rfl|hw
   ·exact⟨Go.Proofs.YtoohajbhpbjpcaaGreat.setT w m1 m2 k c.2 n v,by simp,h2,h3,h4⟩
   ·exact⟨w,by simp[hw],h2,h3,h4⟩
theorem RJ(h:ArOK a)(hts:a.ts=l1++t::l2)(hcs:t.cs=m1++c::m2){e:Ent}(hm:(n,e)∈t.es){z:Int}(hz:t.ks[m1.length]?=some z):(Au (l1++Go.Proofs.YtoohajbhpbjpcaaGreat.setT t m1 m2 k c.2 n v::l2)).Perm (⟨e,(Aa t n).set m1.length ⟨z,v⟩⟩::Au (l1++Dl t n::l2)):=by
 have hto:=h.tab t (by rw[hts];simp);rw[B0,CF,B0,CF];refine(((Oe hto hcs hm hz).append_right _).append_left _).trans ?_;exact B6 (Au l1) [(⟨e,(Aa t n).set m1.length ⟨z,v⟩⟩:Item)] (B3 (Dl t n)++Au l2)
theorem Ve(hne:Eh a.ts)(hts:a.ts=l1++t::l2):Eh (l1++Go.Proofs.YtoohajbhpbjpcaaGreat.setT t m1 m2 k c.2 n v::l2):=λu hu=>by
 have h:∀w∈l1++t::l2,w.es≠[]:=by rw[<-hts];exact hne
 rcases List.mem_append.1 hu with hu|hu
 ·exact h u (by simp[hu])
 ·rcases List.mem_cons.1 hu with rfl|hu
  ·exact h t (by simp)
  ·exact h u (by simp[hu])
end
end
section
structure ArFor(a:Ar)(w:Wd):Prop where
 ok:ArOK a
 ne:Eh a.ts
 kinds:a.kinds=w.kinds
 gens:a.gens=w.gens
 items:(Au a.ts).Perm w.items
 wok:WdOK w
theorem Jv{k:Int}:∀{l:List Comp},Ci l->Jw (l.map (·.kind)) k=Cf l k
 |[],_=>rfl
 |x::l,h=>by
  obtain⟨h1,h2⟩:=List.pairwise_cons.1 h;have ih:=Jv (k:=k) h2;unfold Jw at ih⊢;unfold Cf at ih⊢;rw[List.map_cons,List.filter_cons,List.takeWhile_cons];by_cases e:x.kind<k
  ·simp only[e,decide_true,if_true,BU,ih]
  ·simp only[e,decide_false,Bool.false_eq_true,if_false,List.length_nil]
   rw[List.length_eq_zero_iff,List.filter_eq_nil_iff];intro y hy;obtain⟨c,hc,rfl⟩:=List.mem_map.1 hy;have:=h1 c hc;simp only[AD];omega
theorem Kf{l:List Comp}(h:Ci l){k:Int}:(Bp l k).isSome=true↔k∈l.map (·.kind):=by
 constructor
 ·intro e
  obtain⟨c,hc⟩:=Option.isSome_iff_exists.1 e;obtain⟨hm,hk⟩:=(EC h).1 hc;exact List.mem_map.2 ⟨c,hm,hk⟩
 ·intro e
  obtain⟨c,hm,hk⟩:=List.mem_map.1 e;rw[(EC h).2 ⟨hm,hk⟩];rfl
theorem Cr{t:Tab}(h:TabOK t)(n:Int):(Aa t n).map (·.kind)=t.ks:=by
 have hl:=h.len;refine List.ext_getElem (by simp[Aa];omega) λi h1 h2=>?_
 rw[List.getElem_map,D7 (by simpa using h1) h2 (by omega)]
section
variable {a:Ar}{w:Wd}
theorem ArFor.item(h:ArFor a w){t:Tab}(ht:t∈a.ts){e:Ent}(hm:(e.n,e)∈t.es):∃i:Nat,w.items[i]?=some ⟨e,Aa t e.n⟩:=by
 have h1:(⟨e,Aa t e.n⟩:Item)∈Au a.ts:=List.mem_flatMap.2 ⟨t,ht,List.mem_map.2 ⟨_,hm,rfl⟩⟩;obtain⟨i,hi,e1⟩:=List.getElem_of_mem (h.items.mem_iff.1 h1);exact⟨i,by rw[AG hi,e1]⟩
theorem ArFor.held(h:ArFor a w){t:Tab}(ht:t∈a.ts){e:Ent}(hm:(e.n,e)∈t.es):BJ w.kinds (Aa t e.n)=true:=by
 obtain⟨i,hi⟩:=h.item ht hm;exact(h.wok.it _ (Ao hi)).2.2.2.2
theorem ArFor.sort(h:ArFor a w){t:Tab}(ht:t∈a.ts){e:Ent}(hm:(e.n,e)∈t.es):Ci (Aa t e.n):=(held_iff.1 (h.held ht hm)).1
theorem Jc{t:Tab}(ht:TabOK t){n:Int}(hs:Ci (Aa t n)):t.ks.Pairwise (· < ·):=by
 rw[<-Cr ht n];exact List.pairwise_map.2 hs
theorem ArFor.hasE(h:ArFor a w){e:Ent}(hh:Fw a e=false):CD w.items e<0:=by
 by_cases hlt:CD w.items e<0
 ·exact hlt
 ·obtain⟨m,hm⟩:∃m:Nat,CD w.items e=m:=⟨(CD w.items e).toNat,by omega⟩
  obtain⟨x,hx,_,rfl⟩:=Ex hm;unfold Fw at hh;rw[AL]at hh;exact absurd (List.mem_map.2 ⟨x,h.items.mem_iff.2 (Ao hx),rfl⟩) hh
theorem SQ{w:List Item}{i:Nat}{x y:Item}(h:w[i]?=some x){l r:List Item}(h1:l.Perm (x::r))(h2:l.Perm w):(y::r).Perm (w.set i y):=by
 obtain⟨hl,_⟩:=List.getElem?_eq_some_iff.1 h;have e1:=JZ h;have e2:w.set i y=w.take i++y::w.drop (i+1):=List.set_eq_take_append_cons_drop.trans (if_pos hl);rw[e2];refine List.Perm.trans ?_ List.perm_middle.symm;refine List.Perm.cons _ ?_;have h3:(x::r).Perm (x::(w.take i++w.drop (i+1))):=h1.symm.trans (h2.trans ((List.Perm.of_eq e1).trans List.perm_middle));exact h3.cons_inv
theorem NX{w:List Item}{i:Nat}{x:Item}(h:w[i]?=some x){l r:List Item}(h1:l.Perm (x::r))(h2:l.Perm w):r.Perm (w.eraseIdx i):=by
 have e1:=JZ h;have h3:(x::r).Perm (x::(w.take i++w.drop (i+1))):=h1.symm.trans (h2.trans ((List.Perm.of_eq e1).trans List.perm_middle));rw[List.eraseIdx_eq_take_drop_succ];exact h3.cons_inv
theorem ArFor.swap(h:ArFor a w){e:Ent}{l l':List Comp}{b:Ar}(hs:SwapR a e l l' b){i:Nat}(hi:w.items[i]?=some ⟨e,l⟩)(hc:BJ w.kinds l'=true):ArFor b (DU w i l'):=by
 obtain⟨r,h1,h2⟩:=hs.items;have hk:(DU w i l').kinds=w.kinds:=rfl;refine⟨hs.ok,hs.ne,by rw[hs.kinds,h.kinds];rfl,by rw[hs.gens,h.gens];rfl,?_,HI h.wok hi hc⟩;rw[HJ hi];exact h2.trans (SQ hi h1 h.items)
theorem ArFor.kill(h:ArFor a w){e:Ent}{b:Ar}(hs:KillR a e b)(hh:Fw a e=true):(Dw w e).2=0/\ArFor b (Dw w e).1:=by
 obtain⟨l,h1⟩:=hs.items;have hm:(⟨e,l⟩:Item)∈w.items:=h.items.mem_iff.1 (h1.mem_iff.2 (by simp));obtain⟨i,hi,e1⟩:=List.getElem_of_mem hm;have hi:w.items[i]?=some ⟨e,l⟩:=by rw[AG hi,e1]
 have hk:=IR h.wok hi;have hw:=QG h.wok hi;dsimp only at hk hw;rw[hk];refine⟨rfl,hs.ok,hs.ne,by rw[hs.kinds,h.kinds],?_,NX hi h1 h.items,hw⟩;rw[hs.gens,h.gens,Bx]
theorem ArFor.used(h:ArFor a w)(n:Nat):(a.g n).isSome=GN w.items n:=by
 have hk:(n:Int)∈BP a.ts↔GN w.items n=true:=by
  rw[h.ok.keys_items];unfold GN;rw[List.any_eq_true];constructor
  ·intro hm
   obtain⟨x,hx,e⟩:=List.mem_map.1 hm;exact⟨x,h.items.mem_iff.1 hx,by simpa using e⟩
  ·rintro⟨x,hx,e⟩
   exact List.mem_map.2 ⟨x,h.items.mem_iff.2 hx,by simpa using e⟩
 by_cases hu:(n:Int)∈BP a.ts
 ·rw[h.ok.gn _ hu,hk.1 hu]
 ·have h2:GN w.items n=false:=by rw[<-Bool.not_eq_true];exact λe=>hu (hk.2 e)
  rw[h2];cases hg:a.g n with
  |none=>rfl
  |some u=>
   obtain⟨t,ht,hm,_⟩:=h.ok.g _ _ hg;exact absurd (List.mem_flatMap.2 ⟨t,ht,hm⟩) hu
end
end
theorem VT(a:Ar)(ha:ArOK a)(e:Ent)(c:Comp)(hn:I64 e.n)(hh:Fw a e=false):Spec Tryz.prog 172 [.ptr a.A 0 0,A8 e,AH false c] (arS a) λr S'=>r=iA 4/\S'=arS a:=by
 have hs:=IY a ha e hn;rw[hh]at hs;refine Sp (nt:=77) (res:=[.tmp 6]) Tryz.func172 λSf=>?_
 refine RG ?_;(repeat first|refine WO ?_|refine Ai λB=>?_|refine Ay λY=>?_);refine NL ?_;refine FL ?_;refine RG ?_;refine WO ?_;refine WO ?_;refine AOps.gN ?_;refine EL [_,_] (h:=hs) (k:=?_);refine WO ?_;refine NL ?_;refine AP rfl rfl ?_;refine FL ?_;refine R1 ?_;refine RT ?_;exact Ends.sp [iA 4] (arS a) ⟨rfl,rfl⟩
theorem UR(a b:Comp):PS Tryz.prog 218 [AH false a,AH false b] (iA (Cn a.kind b.kind)):=by
 refine Sp (nt:=10) (res:=[.tmp 4]) Tryz.func218 λSf=>?_
 refine WK ?_;refine WK ?_;refine AOps.g_box ?_;refine Aj ?_;refine AOps.g_box ?_;refine Aj ?_;refine KK ?_;refine AOps.g_callf ?_;refine AOps.c2 (h:=(Ez a.kind b.kind)) (k:=?_);refine KK ?_;refine RT ?_;refine AN ?_;rfl
theorem R7{ks:List Kind}{c:Comp}{fl:List Comp}(h:CG ks [c]=(fl,0)):∃v,fl=[⟨c.kind,v⟩]:=by
 unfold CG at h;split at h
 ·rename_i h1;injection h with h2 h3;exact absurd h3 h1
 split at h
 ·rename_i h1;injection h with h2 h3;exact absurd h3 h1
 rename_i h0 h1;injection h with h2 h3
 have h1:(Cm ks [] [] [c]).2=0:=Decidable.not_not.1 h1;rw[<-h2];rw[Cm]at h1⊢;split at h1
 ·cases h1
 ·rename_i g1
  rw[if_neg g1];split at h1
  ·cases h1
  ·rename_i g2
   rw[if_neg g2];split at h1
   ·cases h1
   ·rename_i k hk
    split at h1
    ·rename_i g3;exact absurd h1 g3
    ·rename_i g3
     simp only[if_neg g3,Cm,GI,BA,List.mergeSort_singleton];exact⟨_,rfl⟩
def Vv(a:Ar)(e:Ent)(l:List Comp)(c:Comp)(b:Ar):Prop:=((CG a.kinds [c]).2≠0/\b=a)\/∃d,CG a.kinds [c]=([d],0)/\SwapR a e l (Fb l d) b
theorem O1{l u:List Comp}{d:Comp}(hl:Ci l)(hd:d.kind∉l.map (·.kind))(hp:u.Perm (l++[d]))(hs:u.Pairwise λa b=>AZ (λx y:Comp=>Cn x.kind y.kind) b a=false):u=Fb l d:=by
 have hle:u.Pairwise λa b=>a.kind<=b.kind:=hs.imp λ{x y} h=>by
  unfold AZ at h;simp only[AL]at h;have:¬y.kind<x.kind:=λe=>h (cmpI_ltz.2 e)
  omega
 have hne:(l++[d]).Pairwise λa b=>a.kind≠b.kind:=by
  rw[List.pairwise_append];refine⟨hl.imp λh=>by omega,by simp,λa ha b hb e=>?_⟩;rw[BN]at hb;subst hb;exact hd (List.mem_map.2 ⟨a,ha,e⟩)
 have hne2:u.Pairwise λa b=>a.kind≠b.kind:=hp.symm.pairwise hne λh=>Ne.symm h
 refine Qt ((hle.and hne2).imp λh=>by obtain⟨x,y⟩:=h;omega) (IW hl) λx=>?_
 rw[hp.mem_iff,Hu hl,CT,BN];constructor
 ·rintro(h|rfl)
  ·exact .inr ⟨h,λe=>hd (List.mem_map.2 ⟨x,h,e⟩)⟩
  ·exact .inl rfl
 ·rintro(rfl|h)
  ·exact .inr rfl
  ·exact .inl h.1
theorem UP(a:Ar)(ha:ArOK a)(hne:Eh a.ts)(e:Ent)(c:Comp)(hn:I64 e.n)(hkl:I64 c.kind)(h12:a.kinds.length<=12)(hh:Fw a e=true){l1 l2:List Tab}{t:Tab}(hts:a.ts=l1++t::l2)(hm:(e.n,e)∈t.es)(hso:Ci (Aa t e.n))(h11:(CG a.kinds [c]).2=0->c.kind∉t.ks->t.ks.length<=11):Spec Tryz.prog 172 [.ptr a.A 0 0,A8 e,AH false c] (arS a) λr S'=>∃b:Ar,Vv a e (Aa t e.n) c b/\r=iA (CG a.kinds [c]).2/\S'=arS b:=by
 have htm:t∈a.ts:=by rw[hts];simp
 have hto:=ha.tab t htm;have hks:=Jc hto hso;have hnk:e.n∈AJ t.es:=List.mem_map.2 ⟨_,hm,rfl⟩;have hnl:=hto.es.lt _ hnk;have hs:=IY a ha e hn;rw[hh]at hs;have hbs:=QU t.ks c.kind hks (by have:=hto.ks;omega);have hft:=Hc a.kinds [c] h12 (by simp);obtain⟨u,hgd,hone,hK⟩:=ha.ptr htm hnk;obtain⟨⟨fl,fe⟩,hfe⟩:∃q,CG a.kinds [c]=q:=⟨_,rfl⟩;unfold Vv;rw[hfe]at hft h11⊢;dsimp only at hft h11⊢;refine Sp (nt:=77) (res:=[.tmp 6]) Tryz.func172 λSf=>?_
 refine RG ?_;(repeat first|refine WO ?_|refine Ai λB=>?_|refine Ay λY=>?_);refine NL ?_;rename_i Be;refine FL ?_;refine RG ?_;refine WO ?_;refine WO ?_;refine AOps.gN ?_;refine EL [_,_] (h:=hs) (k:=?_);refine WO ?_;refine NL ?_;refine AA rfl rfl ?_;refine FL ?_;refine RU ?_;(iterate 5 refine RK ?_);refine RGo.gN ?_;refine RGo.go (v:=.lst false 85 2 [AH false c]) (h:=W.litF1 (v0:=AH false c) rfl rfl (.inl rfl) (by decide) (by decide) rfl) ?_;refine RGo.g_callf ?_;refine RGo.c2 (h:=(hft ..)) (k:=?_);(iterate 5 refine RK ?_);refine RGo.nil (by kernel_rfl) ?_;refine FL ?_;refine R1 ?_;refine AWP.cond rfl (λh0=>?_) (λh0=>?_)
 ·refine FL ?_
  refine R1 ?_;refine RT ?_;exact Ends.sp [iA fe] (arS a) ⟨a,.inl ⟨by simpa using h0,rfl⟩,rfl,rfl⟩
 have h0:fe=0:=by simpa using h0
 subst h0;obtain⟨v,rfl⟩:∃v,fl=[⟨c.kind,v⟩]:=R7 hfe;refine FL ?_;refine AWP.perm (List.Perm.cons _ (List.Perm.cons _ (ES hts Sf))) ?_;refine RU ?_;(iterate 6 refine RK ?_);refine RGo.gN ?_;refine RGo.go (h:=W.lookP (.ptr t.X 0 0) hgd hn hone hK rfl rfl (by exact At.f) (by exact At.f)) (k:=?_);refine RK ?_;refine RGo.nil (by kernel_rfl) ?_;refine FL ?_;refine RU ?_;refine KR ?_;refine RGo.g_callf ?_;refine RGo.c2 (h:=(hbs ..)) (k:=?_);(iterate 5 refine RK ?_);refine RGo.nil (by kernel_rfl) ?_;refine FL ?_;by_cases hk:c.kind∈t.ks
 ·rw[Ah hk]
  refine R1 ?_;refine AP rfl rfl ?_;obtain⟨hil,hik⟩:=Nh hks hk;obtain⟨i,hi⟩:∃i,Jw t.ks c.kind=i:=⟨_,rfl⟩;have hca:Cf (Aa t e.n) c.kind=i:=by rw[<-hi,<-Jv hso,Cr hto]
  rw[hi]at hil⊢;have hic:i<t.cs.length:=by rw[<-hto.len];exact hil
  obtain⟨m1,m2,hsp,hm1⟩:=FU hic;have hcat:(t.cs.map λc=>AV.ptr c.1.X 0 0)[i]?=some (.ptr t.cs[i].1.X 0 0):=BH _ hic;have hcil:i<(t.cs.map λc=>AV.ptr c.1.X 0 0).length:=by rw[AB];exact hic
  obtain⟨col,hce⟩:∃d,t.cs[i]=d:=⟨_,rfl⟩;rw[hce]at hsp hcat;have hcok:ColOK col.2:=hto.cs _ (by rw[hsp];simp);have hpu:=(N8 col.1 col.2 hcok e.n v hnl).tt;refine FL ?_;(repeat refine WF ?_);refine DY (n:=8) ([(B,.row 85 2 [AH false c]),(Be,.row 51 2 [A8 e])]++(arH a++[D6 t])) (stE t.ek t.es++(Bg t.cs++(BK l1++(BK l2++Sf)))) rfl (by kernel_rfl) (by kernel_rfl) ?_;refine RGoH.go ?_;refine RGoH.go ?_;refine RGoH.go ?_;refine RGoH.go ?_;refine RGoH.go ?_;refine RGoH.go (h:=W.idxL (a:=i) rfl rfl rfl hcat) ?_;refine RGoH.go ?_;refine RGoH.go ?_;refine RGoH.go ?_;refine RGoH.go ?_;refine RGoH.go (h:=W.idxL (a:=0) (e:=AH false ⟨c.kind,v⟩) rfl rfl rfl rfl) ?_;refine RGoH.go ?_;refine RGoH.go ?_;refine RGoH.skip [54,56,60] ?_;refine RGoH.nil (by kernel_rfl) (by kernel_rfl) (by kernel_rfl) ?_;refine HC.step [(54,.ptr col.1.X 0 0),(56,iA e.n),(60,AQ false v)] ⟨rfl,rfl,rfl,rfl,rfl,rfl,trivial⟩ λT F=>?_
  have heq:F++(stE t.ek t.es++(Bg t.cs++(BK l1++(BK l2++Sf))))=(F++(stE t.ek t.es++Bg m1))++(stS col.1 col.2++(Bg m2++(BK l1++(BK l2++Sf)))):=by
   rw[hsp,DN,DD];simp only[AM]
  refine D5 _ (h:=hpu) (k:=λq2 _=>?_) (hp:=heq);obtain⟨k2,hk2⟩:∃k2:StK,k2=⟨col.1.X,q2.1,q2.2,col.1.M⟩:=⟨_,rfl⟩;have hkx:k2.X=col.1.X:=by rw[hk2]
  rw[<-hk2]
  have heq2:(F++(stE t.ek t.es++Bg m1))++(stS k2 (Bn col.2 e.n v)++(Bg m2++(BK l1++(BK l2++Sf))))=F++(stE t.ek t.es++(Bg (m1++(k2,Bn col.2 e.n v)::m2)++(BK l1++(BK l2++Sf)))):=by
   rw[DN,DD];simp only[AM]
  refine AOps.perm (List.Perm.of_eq heq2) ?_;refine AOps.nil ⟨rfl,_,_,⟨λd v h=>h,.refl _⟩,?_⟩;obtain⟨b,hb⟩:∃b:Ar,b={a with ts:=l1++setT t m1 m2 k2 col.2 e.n v::l2}:=⟨_,rfl⟩;have hbt:b.ts=l1++setT t m1 m2 k2 col.2 e.n v::l2:=by rw[hb]
  have hbl:b.ts.length=a.ts.length:=by rw[hbt,hts,AI,AI];rfl
  have hbp:ptrs Tab.X b.ts=ptrs Tab.X a.ts:=by rw[hbt,hts,ptrs,ptrs,List.map_append,List.map_append];rfl
  have hH:arH b=arH a:=by
   show[_,_,_,_,_]=[_,_,_,_,_]
   rw[hbl,hbp,hb]
  have hT:D6 (setT t m1 m2 k2 col.2 e.n v)=D6 t:=by
   show(t.X,AO.row _ _ [AV.agg [AQ false t.ks,_,.lst false _ _ ((m1++(k2,Bn col.2 e.n v)::m2).map λc=>AV.ptr c.1.X 0 0)]])=(t.X,AO.row _ _ [AV.agg [AQ false t.ks,_,.lst false _ _ (t.cs.map λc=>AV.ptr c.1.X 0 0)]])
   rw[hsp,List.map_append,List.map_append,List.map_cons,List.map_cons,hkx]
  have hfr:=ES hbt Sf;rw[hH,hT]at hfr;show andThen _ _ _ _
  refine AWP.perm (S':=(B,.row 85 2 [AH false c])::(Be,.row 51 2 [A8 e])::(arS b++Sf)) ?_ ?_
  ·refine List.Perm.trans (List.Perm.of_eq ?_) (List.Perm.cons _ (List.Perm.cons _ hfr.symm))
   simp only[BF,BA]
  refine FL ?_;refine R1 ?_;refine RT ?_
  have hins:Fb (Aa t e.n) ⟨c.kind,v⟩=(Aa t e.n).set m1.length ⟨c.kind,v⟩:=by
   rw[QM hso,if_pos ((Kf hso).2 (by rw[Cr hto];exact hk)),hca,hm1]
  have hz:t.ks[m1.length]?=some c.kind:=by rw[hm1,AG hil];congr 1;simpa only[hi]using hik
  refine Ends.sp [iA 0] (arS b) ⟨b,.inr ⟨⟨c.kind,v⟩,rfl,?_⟩,rfl,rfl⟩;rw[hins,hb];exact⟨ha.setT hts hsp hnk,Ve hne hts,rfl,rfl,rfl,_,J5 ha hts hm,RJ ha hts hsp hm hz⟩
 ·rw[AK hk]
  refine R1 ?_;refine AA rfl rfl ?_;refine FL ?_;refine AWP.perm (List.Perm.cons _ (List.Perm.cons _ (ES hts Sf).symm)) ?_;(repeat refine WF ?_);have htk:=MG a ha hne hts hnk;have htl:(Aa t e.n).length=t.ks.length:=by unfold Aa;rw[AB,List.length_zip];have:=hto.len;omega
  have h16:=hto.ks;refine DY (n:=2) [(B,.row 85 2 [AH false c]),(Be,.row 51 2 [A8 e])] (arS a++Sf) rfl (by kernel_rfl) (by kernel_rfl) ?_;refine RGoH.go ?_;refine RGoH.go ?_;refine RGoH.go ?_;refine RGoH.skip [62,64] ?_;refine RGoH.go ?_;refine RGoH.go (h:=W.idxL (a:=0) (e:=AH false ⟨c.kind,v⟩) rfl rfl rfl rfl) ?_;refine RGoH.go ?_;refine RGoH.go (v:=.lst false 85 2 [AH false ⟨c.kind,v⟩]) (h:=W.litF1 (v0:=AH false ⟨c.kind,v⟩) rfl rfl (.inl rfl) (by decide) (by decide) rfl) ?_;refine RGoH.skip [65,69] ?_;refine RGoH.skip [70] ?_;refine RGoH.nil (by kernel_rfl) (by kernel_rfl) (by kernel_rfl) ?_;refine HC.step [(62,.ptr a.A 0 0),(64,iA e.n)] ⟨rfl,rfl,rfl,rfl,trivial⟩ λT F=>?_
  refine Kw F (h:=htk) (k:=λY _ K=>?_);obtain⟨hok,hne2,hA,hki,hge,hit⟩:=Jz ha hne hts hm Y;obtain⟨b,hb⟩:∃b,Eu a l1 l2 t e.n Y=b:=⟨_,rfl⟩;rw[hb]at hok hne2 hA hki hge hit⊢;refine AOps.perm List.perm_middle.symm ?_;refine AOps.nil ⟨rfl,_,_,⟨λd v h=>h,.refl _⟩,?_⟩;refine HC.step [(65,.sl K 0 ((Aa t e.n).map (AH false)).length),(69,.lst false 85 2 [AH false ⟨c.kind,v⟩])] ⟨rfl,rfl,rfl,rfl,trivial⟩ λT2 F2=>?_
  refine AOps.perm List.perm_middle ?_;refine AOps.rs λZ=>?_
  refine AOps.goS (h:=W.app (X:=K) (Y:=Z) rfl rfl (by exact At.f) (by exact At.f) (by rw[AB]) (by rw[AB];show(_+1)*32<=_;omega) (by rw[AB];unfold maxLen;show _+1<=_;omega) (by decide)) (k:=?_);dsimp only[AW,List.set_cons_zero,List.set_cons_succ];refine AOps.perm (List.Perm.cons _ List.perm_middle.symm) ?_;refine AOps.nil ⟨rfl,_,_,⟨λd v h=>h,.cons _ (.refl _)⟩,?_⟩;refine HC.step [(70,.sl Z 0 (((Aa t e.n).map (AH false)).length+1))] ⟨rfl,rfl,trivial⟩ λT3 F3=>?_
  (repeat refine WO ?_);refine AOps.nil ⟨rfl,_,_,⟨λd v h=>h,.refl _⟩,?_⟩;show andThen _ _ _ _
  refine AWP.weak (st':=⟨[(0,.ptr a.A 0 0),(4,.ptr Be 0 0),(12,.sl Z 0 (((Aa t e.n).map (AH false)).length+1))],[(Be,.row 51 2 [A8 e]),(Z,.row 85 2 ((Aa t e.n).map (AH false)++[AH false ⟨c.kind,v⟩]))]++(arS b++Sf)⟩) ⟨.cons rfl (.cons rfl (.cons rfl .nil)),.cons _ (.refl _)⟩ ?_;obtain⟨cl,hcl⟩:∃cl,Aa t e.n++[(⟨c.kind,v⟩:Comp)]=cl:=⟨_,rfl⟩;have hcm:(Aa t e.n).map (AH false)++[AH false ⟨c.kind,v⟩]=cl.map (AH false):=by rw[<-hcl,List.map_append];rfl
  have hcn:((Aa t e.n).map (AH false)).length+1=cl.length:=by rw[<-hcl,AI,AB];rfl
  rw[hcm,hcn];obtain⟨su,⟨hu1,hu2⟩,hsf⟩:=Hj 218 [] (λx y=>Cn x.kind y.kind) rfl (MK Comp.kind) (λx y=>UR x y) Z cl.length cl rfl (by have:=h11 rfl hk;rw[<-hcl,AI,htl];show _+1<=12;omega);refine FL ?_;refine RG ?_;refine WO ?_;refine AOps.g_callf ?_;refine AOps.o2 (h:=(hsf ..)) (k:=?_);refine NL ?_;dsimp only[AW,List.set_cons_zero,List.set_cons_succ,BF,BA];rw[<-hu1.length_eq];have hF:AV.frzs (su.map (AH false))=su.map (AH false):=Frzs.h;have hsl:su.length=(su.map (AH false)).length:=(AB _).symm;rw[hsl];refine Gd 12 _ hF ?_;rw[<-hA];have had:=Ko b e su hok hne2 hnl (KJ ha hok hit) (by have:=h11 rfl hk;rw[hu1.length_eq,<-hcl,AI,htl];show _+1<=16;omega);refine FL ?_;refine RG ?_;(iterate 3 refine WO ?_);refine AOps.gN ?_;refine D5 [_,_] (h:=had) (k:=λb2 hb2=>?_);refine NL ?_;refine FL ?_;refine R1 ?_;refine RT ?_;obtain⟨g1,g2,g3,g4,g5,g6⟩:=hb2;have hsu:su=Fb (Aa t e.n) ⟨c.kind,v⟩:=O1 hso (by rw[Cr hto];exact hk) (by rw[hcl];exact hu1) hu2;rw[hsu]at g6;exact Ends.sp [iA 0] (arS b2) ⟨b2,.inr ⟨_,rfl,g1,g2,g3.trans hA,g4.trans hki,g5.trans hge,_,hit,g6⟩,rfl,rfl⟩
theorem RW{w:Wd}{j:Nat}(h1:∀q<j,(!GN w.items (q:Nat)&&decide (w.gens.getD q 0<1073741824))=false)(h2:j<w.gens.length)(h3:(!GN w.items (j:Nat)&&decide (w.gens.getD j 0<1073741824))=true):Bf w=(j,true):=by
 have:Lm w=some j:=by
  unfold Lm;rw[List.find?_eq_some_iff_getElem];exact⟨h3,j,by simpa using h2,by simp,λq hq=>by have:=h1 q hq;simp only[List.getElem_range];rw[this];rfl⟩
 unfold Bf;rw[this]
theorem IU:∀(l:List Item) (it:Item),(IV l it).Perm (it::l)
 |[],it=>.refl _
 |x::l,it=>by
  rw[IV];split
  ·exact((IU l it).cons x).trans (.swap ..)
  ·exact .refl _
theorem RV{w:Wd}(h1:∀q<w.gens.length,(!GN w.items (q:Nat)&&decide (w.gens.getD q 0<1073741824))=false):Bf w=(w.gens.length,decide ((w.gens.length:Int)<256)):=by
 have:Lm w=none:=by
  unfold Lm;rw[List.find?_eq_none];intro q hq;have:=h1 q (by simpa using hq);rw[this];simp
 unfold Bf;rw[this]
theorem Pg(a:Ar)(w:Wd)(h:ArFor a w)(h12:w.kinds.length<=12)(l:List Comp)(hl:l.length<=1099511627776):Spec Tryz.prog 175 [.ptr a.A 0 0,Aw false false l] (arS a) λr S'=>∃b:Ar,(ArFor b (EY w (Cz w l).1 (Cz w l).2.2)/\b.A=a.A)/\r= .tup [A8 (Cz w l).2.1,iA (Cz w l).2.2]/\S'=arS b:=by
 have hft:=Hc a.kinds l (by rw[h.kinds];exact h12) hl;obtain⟨r,hr⟩:∃r,Cz w l=r:=⟨_,rfl⟩;rw[hr];unfold Cz at hr;rw[if_neg (by simp[(BG w).2 h.wok])]at hr;rw[h.kinds]at hft;obtain⟨⟨cs,f⟩,hcs⟩:∃q,CG w.kinds l=q:=⟨_,rfl⟩;have hheld:f=0->BJ w.kinds cs=true:=λe=>by have:=GM (ks:=w.kinds) (l:=l) (by rw[hcs];exact e);rwa[hcs]at this
 rw[hcs]at hr hft;dsimp only at hr hft;have hgl:=h.wok.gl;rw[<-h.gens]at hgl;refine Sp (nt:=84) (res:=[.cell 4 51,.tmp 5]) Tryz.func175 λSf=>?_
 refine RG ?_;refine WO ?_;refine Ai λP=>?_;refine WO ?_;refine NL ?_
 refine FL ?_;rw[<-h.kinds]at hft;refine RG ?_;refine KO ?_;refine AOps.g_callf ?_;refine AOps.c2 (h:=(hft ..)) (k:=?_);refine KO ?_;refine NL ?_;refine FL ?_;refine R1 ?_;by_cases hf:f≠0
 ·rw[if_pos hf]at hr
  subst hr;refine AP rfl (Ah hf) ?_;refine FL ?_;refine R1 ?_;refine RT ?_;exact Ends.sp [A8 ⟨0,0⟩,iA f] (arS a) ⟨a,⟨by unfold EY;rw[if_neg hf];exact h,rfl⟩,rfl,rfl⟩
 have hf:f=0:=Decidable.not_not.1 hf;subst hf;rw[if_neg (by simp)]at hr;refine AA rfl rfl ?_;refine FL ?_;refine R1 ?_;refine FL ?_;refine BB (λ(j:Nat)=>⟨[(0,.ptr a.A 0 0),(4,.ptr P 0 0),(6,Aw false false cs),(8,iA j)],(P,.row 51 2 [A8 ⟨0,0⟩])::(arS a++Sf)⟩) (λj=>j<=a.gens.length/\∀q<j,(!GN w.items (q:Nat)&&decide (w.gens.getD q 0<1073741824))=false) (λj=>a.gens.length-j) 0 ⟨Nat.zero_le _,λq hq=>absurd hq (by omega)⟩ ?_;rintro j ⟨hj,hall⟩;have hjI:I64 (j:Int):=by constructor<;>omega
 by_cases hjl:j<a.gens.length
 ·have hd:decide ((j:Int)<(a.gens.length:Nat))=true:=Ah (by omega)
  have hat:(a.gens.map iA)[j]?=some (iA a.gens[j]):=BH _ hjl;have hmem:=h.wok.gs a.gens[j] (by rw[<-h.gens];exact AY hjl);have hgd:w.gens.getD j 0=a.gens[j]:=by rw[<-h.gens,Bx,AG hjl];rfl
  have hus:=h.used j
  have hus0:a.g j=none->¬a.gens[j]=1073741824->Bf w=(j,true):=λe1 e2=>by
   refine RW hall (by rw[<-h.gens];exact hjl) ?_;rw[<-hus,e1,hgd,Ah (by omega)];rfl
  cases hg:a.g j with
  |none=>
   have hgp:(a.g j).getD (.pointer none)= .pointer none:=by rw[hg];rfl
   refine RG ?_;(iterate 19 refine WO ?_);refine AOps.gN ?_;refine AOps.go (h:=H5 _ hgp hjI rfl rfl (by exact At.f)) (k:=?_);refine WO ?_;refine AOps.gN ?_;refine AOps.go (h:=W.neNil false (.inl ⟨rfl,rfl⟩) rfl rfl) (k:=?_);refine KO ?_;refine NL ?_;refine AWP.cond rfl (λhc=>?_) (λhc=>?_)
   ·have hc:a.gens[j]=1073741824:=of_decide_eq_true hc
    refine FL ?_;refine R1 ?_;refine Ab (j+1) ⟨by omega,λq hq=>?_⟩ (by omega);by_cases hqj:q=j
    ·subst hqj
     rw[hgd,hc];simp
    ·exact hall q (by omega)
   ·have hc:¬a.gens[j]=1073741824:=of_decide_eq_false hc
    have hfr:=hus0 hg hc;obtain⟨f1,f2,f3,f4⟩:=HU h.wok (by rw[hfr]);have hv:=Ja h.wok (by rw[hfr]) (hheld rfl);rw[hfr]at hr f1 f2 f3 f4 hv;dsimp only at hr f1 f2 f3 f4 hv;rw[if_neg (by simp)]at hr;have hgz:a.gens=CY w.gens j:=by unfold CY;rw[if_neg (by rw[<-h.gens];omega),h.gens]
    obtain⟨g,hge⟩:∃g,(CY w.gens j).getD j 0=g:=⟨_,rfl⟩;rw[hge]at hr hv;have hge:a.gens[j]=g:=by rw[<-hge,<-hgz,Bx,AG hjl];rfl
    rw[hge]at hat;subst hr
    have hfk:((j:Nat):Int)∉BP a.ts:=λhm=>by
     rw[h.ok.keys_items]at hm;obtain⟨x,hx,e⟩:=List.mem_map.1 hm;exact f2 x (h.items.mem_iff.1 hx) e
    have had:=Ko a ⟨(j:Nat),g⟩ cs h.ok h.ne (by dsimp only;omega) hfk (Db h.wok.ks (hheld rfl)).1;have hd2:decide ((j:Int)=256)=false:=AK (by omega);have hd3:decide ((j:Int)=(a.gens.length:Nat))=false:=AK (by omega);refine FL ?_;refine R1 ?_;refine AA rfl hd2 ?_;refine FL ?_;refine R1 ?_;refine AA rfl hd3 ?_;refine FL ?_;refine RG ?_;refine KO ?_;refine Ai λE=>?_;refine WO ?_;refine NL ?_
    refine FL ?_;refine RG ?_;(iterate 3 refine WO ?_);refine AOps.gN ?_;refine D5 [_,_] (h:=had) (k:=λb2 hb2=>?_);refine NL ?_;refine FL ?_;refine R1 ?_;refine RT ?_;obtain⟨q1,q2,q3,q4,q5,q6⟩:=hb2;exact Ends.sp [A8 ⟨(j:Nat),g⟩,iA 0] (arS b2) ⟨b2,⟨⟨q1,q2,q4.trans h.kinds,q5.trans hgz,q6.trans ((h.items.cons _).trans (IU _ _).symm),hv⟩,q3⟩,rfl,rfl⟩
  |some u=>
   have hgp:(a.g j).getD (.pointer none)=u:=by rw[hg];rfl
   obtain⟨t,ht,htn,hK,b,hb⟩:=h.ok.g j u hg;have hone:u.oneCell'=true:=by rw[hb];rfl
   refine RG ?_;(iterate 19 refine WO ?_);refine AOps.gN ?_;refine AOps.go (h:=H5 _ hgp hjI rfl rfl (by exact At.f) hone) (k:=?_);refine WO ?_;refine AOps.gN ?_;refine AOps.go (h:=W.neNil true (.inr ⟨b,hb,rfl⟩) rfl rfl) (k:=?_);refine KO ?_;refine NL ?_;refine AP rfl rfl ?_;refine FL ?_;refine R1 ?_;refine Ab (j+1) ⟨by omega,λq hq=>?_⟩ (by omega);by_cases hqj:q=j
   ·subst hqj
    rw[<-hus,hg];rfl
   ·exact hall q (by omega)
 ·have hjl:j=a.gens.length:=by omega
  have hd:decide ((j:Int)<(a.gens.length:Nat))=false:=AK (by omega);have hfr:=RV (w:=w) λq hq=>hall q (by rw[hjl,h.gens];exact hq)
  rw[<-h.gens,<-hjl]at hfr;refine RG ?_;(repeat first|(refine AOps.gQ ?_;first|refine AOps.goNU ?_|refine AOps.goNV ?_)|refine WO ?_|refine Ai λX=>?_|refine Ay λY=>?_);refine NL ?_;refine AA rfl rfl ?_;refine FL ?_;refine R1 ?_;refine AWP.cond rfl (λhc=>?_) (λhc=>?_)
  ·have hc:(j:Int)=256:=of_decide_eq_true hc
   rw[hfr,if_pos (AK (by omega))]at hr;subst hr;refine FL ?_;refine R1 ?_;refine RT ?_;exact Ends.sp [A8 ⟨0,0⟩,iA 6] (arS a) ⟨a,⟨h,rfl⟩,rfl,rfl⟩
  ·have hc:¬(j:Int)=256:=of_decide_eq_false hc
   have hfr:Bf w=(j,true):=by rw[hfr,Ah (by omega)]
   obtain⟨f1,f2,f3,f4⟩:=HU h.wok (by rw[hfr]);have hv:=Ja h.wok (by rw[hfr]) (hheld rfl);rw[hfr]at hr f1 f2 f3 f4 hv;dsimp only at hr f1 f2 f3 f4 hv;rw[if_neg (by simp)]at hr;have hgr:CY w.gens j=a.gens++[0]:=by unfold CY;rw[if_pos (by rw[<-h.gens];exact hjl),h.gens]
   obtain⟨g,hge⟩:∃g,(CY w.gens j).getD j 0=g:=⟨_,rfl⟩;rw[hge]at hr hv;have hge:g=0:=by rw[<-hge,hgr,hjl,Bx];simp
   subst hge;subst hr;have hd3:decide ((j:Int)=(a.gens.length:Nat))=true:=Ah (by omega);refine FL ?_;refine R1 ?_;refine AP rfl hd3 ?_;refine FL ?_;refine RG ?_;(iterate 5 refine WO ?_);refine AOps.g_lit ?_;refine AOps.goL (iA 0) ?_;refine WO ?_;refine Ay λY=>?_;refine KO ?_
   dsimp only[AW,List.set_cons_zero,List.set_cons_succ,BF,BA];refine AOps.nil ?_;refine FL ?_;have hm1:a.gens.map iA++[iA 0]=(a.gens++[0]).map iA:=by rw[List.map_append];rfl
   have hm2:a.gens.length+[iA 0].length=(a.gens++[0]).length:=by rw[AI];rfl
   rw[hm1,hm2];obtain⟨z,hz⟩:∃z:Ar,z={a with G:=Y,gens:=a.gens++[0]}:=⟨_,rfl⟩;have hzA:z.A=a.A:=by rw[hz]
   have hzg:z.gens=a.gens++[0]:=by rw[hz]
   have hzt:z.ts=a.ts:=by rw[hz]
   have hzo:ArOK z:=by rw[hz];exact⟨h.ok.tab,h.ok.ord,h.ok.keys,h.ok.ent,h.ok.g,h.ok.gn,h.ok.cnt⟩
   refine AWP.weak (st':=⟨[(0,.ptr a.A 0 0),(4,.ptr P 0 0),(6,Aw false false cs),(8,iA j)],(P,.row 51 2 [A8 ⟨0,0⟩])::(arS z++Sf)⟩) ⟨by exact Lk.f,?_⟩ ?_
   ·rw[hz]
    simp only[arS,BF,BA];exact List.Sublist.refl _
   have hat:(z.gens.map iA)[j]?=some (iA 0):=by rw[hzg,AF,hjl];simp
   have hjz:j<z.gens.length:=by rw[hzg,AI,hjl];show a.gens.length<_+1;omega
   have hfk:((j:Nat):Int)∉BP z.ts:=λhm=>by
    rw[hzt,h.ok.keys_items]at hm;obtain⟨x,hx,e⟩:=List.mem_map.1 hm;exact f2 x (h.items.mem_iff.1 hx) e
   have had:=Ko z ⟨(j:Nat),0⟩ cs hzo (by rw[hzt];exact h.ne) (by dsimp only;omega) hfk (Db h.wok.ks (hheld rfl)).1;rw[hzt]at had;rw[<-hzA];refine RG ?_;refine KO ?_;refine Ai λE=>?_;refine WO ?_;refine NL ?_
   refine FL ?_;refine RG ?_;(iterate 3 refine WO ?_);refine AOps.gN ?_;refine D5 [_,_] (h:=had) (k:=λb2 hb2=>?_);refine NL ?_;refine FL ?_;refine R1 ?_;refine RT ?_;obtain⟨q1,q2,q3,q4,q5,q6⟩:=hb2;exact Ends.sp [A8 ⟨(j:Nat),0⟩,iA 0] (arS b2) ⟨b2,⟨⟨q1,q2,(q4.trans (by rw[hz])).trans h.kinds,(q5.trans hzg).trans hgr.symm,q6.trans ((h.items.cons _).trans (IU _ _).symm),hv⟩,q3⟩,rfl,rfl⟩
section
section
variable {a:Ar}{w:Wd}
theorem TB{e:Ent}{l:List Comp}{i:Nat}(hw:WdOK w)(hi:w.items[i]?=some ⟨e,l⟩):CD w.items e=i:=GY hw.so hi
theorem UQ(h:ArFor a w)(h12:w.kinds.length<=12)(e:Ent)(c:Comp)(hn:I64 e.n)(hk:I64 c.kind):Spec Tryz.prog 172 [.ptr a.A 0 0,A8 e,AH false c] (arS a) λr S'=>∃b:Ar,(ArFor b (EY w (Ct w e c).1 (Ct w e c).2)/\b.A=a.A)/\r=iA (Ct w e c).2/\S'=arS b:=by
 have hwe:=(BG w).2 h.wok;cases hh:Fw a e with
 |false=>
  have hf:=h.hasE hh;have hp:Ct w e c=(⟨[],[],[]⟩,4):=by unfold Ct;rw[if_neg (by simp[hwe]),if_pos hf]
  rw[hp];exact(VT a h.ok e c hn hh).mono λr S' ⟨e1,e2⟩=>⟨a,⟨h,rfl⟩,e1,e2⟩
 |true=>
  obtain⟨l1,l2,t,hts,hm⟩:=JK h.ok hh;have htm:t∈a.ts:=by rw[hts];simp
  obtain⟨i,hi⟩:=h.item htm hm;have hso:=h.sort htm hm;have hhe:=h.held htm hm;have hfi:=TB h.wok hi;have hto:=h.ok.tab t htm
  have h11:(CG a.kinds [c]).2=0->c.kind∉t.ks->t.ks.length<=11:=λe1 e2=>by
   obtain⟨d,_,_,g1,g2⟩:=LK e1;rw[h.kinds]at g2
   have h1:(c.kind::t.ks).length<=w.kinds.length:=GR (λx=>x) _ _ (List.pairwise_cons.2 ⟨λx hx e=>e2 (by subst e;exact hx),(Jc hto hso).imp λh=>by omega⟩) λx hx=>by
    rcases List.mem_cons.1 hx with rfl|hx
    ·exact⟨g1,g2⟩
    ·rw[<-Cr hto e.n]at hx
     obtain⟨d,hd,rfl⟩:=List.mem_map.1 hx;have:=(held_iff.1 hhe).2 d hd;exact⟨this.1,this.2.1⟩
   rw[BU]at h1;omega
  refine(UP a h.ok h.ne e c hn hk (by rw[h.kinds];exact h12) hh hts hm hso h11).mono λr S' ⟨b,hb,e1,e2⟩=>?_
  unfold Vv at hb;rw[h.kinds]at hb e1;rcases hb with⟨hne,rfl⟩|⟨d,hd,hs⟩
  ·have hp:Ct w e c=(⟨[],[],[]⟩,(CG w.kinds [c]).2):=by unfold Ct;rw[if_neg (by simp[hwe]),hfi,if_neg (by omega),if_pos hne]
   rw[hp];exact⟨b,⟨by unfold EY;rw[if_neg hne];exact h,rfl⟩,e1,e2⟩
  ·have hp:Ct w e c=(DU w i (Fb (Aa t e.n) d),0):=by unfold Ct;rw[if_neg (by simp[hwe]),hfi,if_neg (by omega),hd,if_neg (by simp),Int.toNat_natCast,hi]
   rw[hd]at e1;rw[hp];have hfo:=IF h.wok.ks (by rw[hd]);have hdc:=JR h.wok.ks hfo;rw[hd]at hdc;injection hdc with hdc
   injection hdc with hdc
   have hpo:=SN h.wok hi hfo
   have hhl:BJ w.kinds (Fb (Aa t e.n) d)=true:=by
    rw[hdc]
    have hii:(DU w i (Fb (Aa t e.n) (HV w.kinds c))).items[i]?=some ⟨e,Fb (Aa t e.n) (HV w.kinds c)⟩:=by
     rw[HJ hi];exact List.getElem?_set_self (List.getElem?_eq_some_iff.1 hi).1
    exact(hpo.it _ (Ao hii)).2.2.2.2
   exact⟨b,⟨h.swap hs hi hhl,hs.A⟩,e1,e2⟩
theorem TK(h:ArFor a w)(e:Ent)(k:Int)(hn:I64 e.n)(hk:I64 k):Spec Tryz.prog 173 [.ptr a.A 0 0,A8 e,iA k] (arS a) λr S'=>∃b:Ar,(ArFor b (EY w (EX w e k).1 (EX w e k).2)/\b.A=a.A)/\r=iA (EX w e k).2/\S'=arS b:=by
 have hwe:=(BG w).2 h.wok;cases hh:Fw a e with
 |false=>
  have hf:=h.hasE hh;have hp:EX w e k=(⟨[],[],[]⟩,4):=by unfold EX;rw[if_neg (by simp[hwe]),if_pos hf]
  rw[hp];exact(TM a h.ok e k hn hh).mono λr S' ⟨e1,e2⟩=>⟨a,⟨h,rfl⟩,e1,e2⟩
 |true=>
  obtain⟨l1,l2,t,hts,hm⟩:=JK h.ok hh;have htm:t∈a.ts:=by rw[hts];simp
  obtain⟨i,hi⟩:=h.item htm hm;have hso:=h.sort htm hm;have hhe:=h.held htm hm;have hto:=h.ok.tab t htm;have hp:=Ie h.wok hi k;dsimp only at hp;have hcm:(Bp (Aa t e.n) k).isSome=true↔k∈t.ks:=by rw[Kf hso,Cr hto]
  refine(Re a h.ok h.ne e k hn hk hh hts hm (Jc hto hso)).mono λr S' ⟨b,hb,e1,e2⟩=>?_
  by_cases hkm:k∈t.ks
  ·have hcs:=hcm.2 hkm
   rw[if_pos hkm]at hb e1;rw[if_pos hcs]at hp;rw[hp];have hl:Jw t.ks k=Cf (Aa t e.n) k:=by rw[<-Jv hso,Cr hto]
   rw[hl,<-N7 hso hcs]at hb;exact⟨b,⟨h.swap hb hi (Ll hhe),hb.A⟩,e1,e2⟩
  ·rw[if_neg hkm]at hb e1
   rw[if_neg λe=>hkm (hcm.1 e)]at hp;rw[hp];subst hb;exact⟨b,⟨h,rfl⟩,e1,e2⟩
theorem Sq(h:ArFor a w)(e:Ent)(hn:I64 e.n):Spec Tryz.prog 174 [.ptr a.A 0 0,A8 e] (arS a) λr S'=>∃b:Ar,(ArFor b (EY w (Dw w e).1 (Dw w e).2)/\b.A=a.A)/\r=iA (Dw w e).2/\S'=arS b:=by
 have hwe:=(BG w).2 h.wok;cases hh:Fw a e with
 |false=>
  have hf:=h.hasE hh;have hp:Dw w e=(⟨[],[],[]⟩,4):=by unfold Dw;rw[if_neg (by simp[hwe]),if_pos hf]
  rw[hp];exact(Ub a h.ok e hn hh).mono λr S' ⟨e1,e2⟩=>⟨a,⟨h,rfl⟩,e1,e2⟩
 |true=>
  obtain⟨l1,l2,t,hts,hm⟩:=JK h.ok hh;have htm:t∈a.ts:=by rw[hts];simp
  obtain⟨i,hi⟩:=h.item htm hm;have hit:=h.wok.it _ (Ao hi);dsimp only at hit;refine(Sn a h.ok h.ne e hn hh (by rw[h.gens];omega) (by rw[h.gens];exact h.wok.gl) (by rw[h.gens];exact h.wok.gs)).mono λr S' ⟨b,hb,e1,e2⟩=>?_
  obtain⟨g1,g2⟩:=h.kill hb hh;rw[g1];exact⟨b,⟨g2,hb.A⟩,e1,e2⟩
end
end
abbrev CZ(b:Bool)(l:List Cmd):AV:=.lst b 95 5 (l.map B5)
theorem Rl(ks:List Kind)(c:Cmd)(h12:ks.length<=12)(hl:c.comps.length<=1099511627776):PS Tryz.prog 112 [Ae false false ks,B5 c] (.tup [Aw false false (Cg ks c).1,iA (Cg ks c).2]):=by
 have hft:=Hc ks c.comps h12 hl;obtain⟨act,ent,kind,comps⟩:=c;dsimp only at hft hl;obtain⟨r,hr⟩:∃r,Cg ks ⟨act,ent,kind,comps⟩=r:=⟨_,rfl⟩;rw[hr];unfold Cg at hr;dsimp only at hr;refine Sp (nt:=42) (res:=[.tmp 4,.tmp 5]) Tryz.func112 λSf=>?_
 have hlm:(comps.map (AH false)).length=comps.length:=AB _;have hkm:(ks.map (Av false)).length=ks.length:=AB _;refine RG ?_;refine WO ?_;refine Ai λB=>?_;refine KO ?_;refine NL ?_
 refine FL ?_;refine R1 ?_;refine FL ?_;refine R1 ?_;refine AWP.cond rfl (λh0=>?_) (λh0=>?_)
 ·rw[if_pos (of_decide_eq_true h0)]at hr
  refine FL ?_;refine R1 ?_;refine AWP.cond rfl (λh1=>?_) (λh1=>?_)
  ·have h1:((comps.map (AH false)).length:Int)≠1:=of_decide_eq_true h1
   rw[if_neg (by omega)]at hr;subst hr;refine FL ?_;refine R1 ?_;refine RT ?_;exact Br [.prim (.slice none 0 0),iA 3] [Aw false false [],iA 3] (.cons (.cell .nil) (.cons (.cell .same) .nil))
  ·have h1:¬((comps.map (AH false)).length:Int)≠1:=of_decide_eq_false h1
   rw[if_pos (by omega)]at hr;subst hr;refine FL ?_;refine RG ?_;refine KO ?_;refine AOps.g_callf ?_;refine AOps.c2 (h:=(hft ..)) (k:=?_);refine KO ?_;refine NL ?_;refine RT ?_;exact GF (rs:=[Aw false false (CG ks comps).1,iA (CG ks comps).2]) rfl
 rw[if_neg (of_decide_eq_false h0)]at hr;refine FL ?_;refine R1 ?_;refine AWP.cond rfl (λh1=>?_) (λh1=>?_)
 ·rw[if_pos (of_decide_eq_true h1)]at hr
  refine FL ?_;cases g1:decide (kind<0)with
  |true=>
   rw[if_pos (.inl (of_decide_eq_true g1))]at hr;subst hr;refine R1 ?_;refine AP rfl (by first|rfl|assumption) ?_;refine FL ?_;refine R1 ?_;refine RT ?_;exact Br [.prim (.slice none 0 0),iA 1] [Aw false false [],iA 1] (.cons (.cell .nil) (.cons (.cell .same) .nil))
  |false=>
   refine R1 ?_;refine AWP.cond rfl (λg2=>?_) (λg2=>?_)
   ·rw[hkm]at g2
    rw[if_pos (.inr (of_decide_eq_true g2))]at hr;subst hr;refine FL ?_;refine R1 ?_;refine RT ?_;exact Br [.prim (.slice none 0 0),iA 1] [Aw false false [],iA 1] (.cons (.cell .nil) (.cons (.cell .same) .nil))
   ·rw[hkm]at g2
    have g1:=of_decide_eq_false g1;have g2:¬(ks.length:Int)<=kind:=of_decide_eq_false g2;rw[if_neg (by omega)]at hr;subst hr;refine FL ?_;refine R1 ?_;refine RT ?_;exact Br [.prim (.slice none 0 0),iA 0] [Aw false false [],iA 0] (.cons (.cell .nil) (.cons (.cell .same) .nil))
 rw[if_neg (of_decide_eq_false h1)]at hr;refine FL ?_;refine R1 ?_;refine AWP.cond rfl (λh2=>?_) (λh2=>?_)
 ·rw[if_pos (of_decide_eq_true h2)]at hr
  subst hr;refine FL ?_;refine R1 ?_;refine RT ?_;exact Br [.prim (.slice none 0 0),iA 0] [Aw false false [],iA 0] (.cons (.cell .nil) (.cons (.cell .same) .nil))
 rw[if_neg (of_decide_eq_false h2)]at hr;refine FL ?_;refine R1 ?_;refine AWP.cond rfl (λh3=>?_) (λh3=>?_)
 ·rw[if_pos (of_decide_eq_true h3)]at hr
  subst hr;refine FL ?_;refine RG ?_;refine KO ?_;refine AOps.g_callf ?_;refine AOps.c2 (h:=(hft ..)) (k:=?_);refine KO ?_;refine NL ?_;refine RT ?_;exact GF (rs:=[Aw false false (CG ks comps).1,iA (CG ks comps).2]) rfl
 rw[if_neg (of_decide_eq_false h3)]at hr;subst hr;refine FL ?_;refine R1 ?_;refine RT ?_;exact Br [.prim (.slice none 0 0),iA 1] [Aw false false [],iA 1] (.cons (.cell .nil) (.cons (.cell .same) .nil))
theorem Rm{ks:List Kind}{l:List Cmd}{i:Nat}{c:Cmd}(h:i<l.length)(hc:l[i]=c):EI ks (l.drop i)=if(Cg ks c).2=0 then EI ks (l.drop (i+1))else(Cg ks c).2:=by
 rw[By h,EI,hc]
theorem OE(w:Wd)(l:List Cmd)(hw:WdL w)(h12:w.kinds.length<=12)(hl:l.length<=1099511627776)(hc:∀c∈l,c.comps.length<=1099511627776):PS Tryz.prog 77 [wdA false w,CZ false l] (iA (Kg w l)):=by
 have hck:=ED w hw.gens hw.items.1 (λit hit=>(hw.items.2 it hit).1);obtain⟨r,hr⟩:∃r,Kg w l=r:=⟨_,rfl⟩;rw[hr];unfold Kg at hr;obtain⟨we,hwe⟩:∃we,Cp w=we:=⟨_,rfl⟩;rw[hwe]at hck hr;have hlm:(l.map B5).length=l.length:=AB _;refine Sp (nt:=35) (res:=[.tmp 4]) Tryz.func77 λSf=>?_
 refine RG ?_;refine AOps.g_box ?_;refine Aj ?_;refine WO ?_;refine NL ?_;refine FL ?_;refine RG ?_;refine WO ?_;refine AOps.g_callf ?_;refine AOps.c1 (h:=(hck ..)) (k:=?_);refine WO ?_;refine NL ?_;refine FL ?_;refine R1 ?_;refine AWP.cond rfl (λh0=>?_) (λh0=>?_)
 ·rw[if_pos (of_decide_eq_true h0)]at hr
  subst hr;refine FL ?_;refine R1 ?_;refine RT ?_;refine AN ?_;rfl
 rw[if_neg (of_decide_eq_false h0)]at hr;refine FL ?_;refine R1 ?_;refine AWP.cond rfl (λh1=>?_) (λh1=>?_)
 ·have h1:=of_decide_eq_true h1
  rw[if_pos (by omega)]at hr;subst hr;refine FL ?_;refine R1 ?_;refine RT ?_;refine AN ?_;rfl
 have h1:=of_decide_eq_false h1;rw[if_neg (by omega)]at hr;subst hr;refine FL ?_;refine R1 ?_;refine FL ?_;refine BB (λ(i:Nat)=>⟨[(2,.fp (wdA false w).cells),(18,CZ false l),(19,iA (l.map B5).length),(20,iA i)],Sf⟩) (λi=>i<=l.length/\EI w.kinds (l.drop i)=EI w.kinds l) (λi=>l.length-i) 0 ⟨Nat.zero_le _,rfl⟩ ?_;rintro i ⟨hi,he⟩;refine R1 ?_;refine FL ?_;refine AWP.cond rfl (λhc2=>?_) (λhc2=>?_)
 ·have h:i<l.length:=by rw[AD,hlm]at hc2;omega
  obtain⟨c,hcc⟩:∃c,l[i]=c:=⟨_,rfl⟩;have hat:(l.map B5)[i]?=some (B5 c):=by rw[AF,AG h,hcc];rfl
  have ho:=Rl w.kinds c h12 (hc c (by rw[<-hcc];exact AY h));rw[Rm h hcc]at he;refine FL ?_;refine RG ?_;refine KO ?_;refine Ai λV=>?_;refine WO ?_;refine NL ?_
  refine FL ?_;refine RG ?_;refine KO ?_;refine AOps.g_callf ?_;refine AOps.c2 (h:=(ho ..)) (k:=?_);refine KO ?_;refine NL ?_;refine FL ?_;refine R1 ?_;refine AWP.cond rfl (λh3=>?_) (λh3=>?_)
  ·rw[if_neg (of_decide_eq_true h3)]at he
   refine FL ?_;refine R1 ?_;refine RT ?_;refine AN ?_;exact congrArg iA he
  ·rw[if_pos (Decidable.not_not.1 (of_decide_eq_false h3))]at he
   refine FL ?_;refine R1 ?_;exact Ab (i+1) ⟨h,he⟩ (by omega)
 ·have h:i=l.length:=by rw[AL,hlm]at hc2;omega
  rw[h,List.drop_length]at he;refine FL ?_;refine R1 ?_;refine RT ?_;refine AN ?_;exact congrArg iA he
theorem Vt{a:Ar}{w:Wd}(h:ArFor a w)(h12:w.kinds.length<=12)(c:Cmd)(hc:(Cg w.kinds c).2=0)(hn:I64 c.ent.n)(hl:c.comps.length<=1099511627776):Spec Tryz.prog 114 [.ptr a.A 0 0,B5 c] (arS a) λr S'=>∃b:Ar,(ArFor b (Ee w c).1/\b.A=a.A)/\r= .tup [A8 (Ee w c).2.1,bA (Ee w c).2.2]/\S'=arS b:=by
 obtain⟨act,ent,kind,comps⟩:=c;dsimp only at hn hl;unfold Cg at hc;dsimp only at hc;obtain⟨r,hr⟩:∃r,Ee w ⟨act,ent,kind,comps⟩=r:=⟨_,rfl⟩;rw[hr];unfold Ee at hr;dsimp only at hr;refine Sp (nt:=50) (res:=[.cell 4 51,.tmp 5]) Tryz.func114 λSf=>?_
 refine RG ?_;refine AOps.g_box ?_;refine Aj ?_;refine WO ?_;refine Ai λP=>?_;refine WO ?_;refine NL ?_
 refine FL ?_;refine R1 ?_;refine FL ?_;refine R1 ?_;refine AWP.cond rfl (λh0=>?_) (λh0=>?_)
 ·rw[if_pos (of_decide_eq_true h0)]at hr hc
  split at hc
  ·rename_i h1
   obtain⟨d,rfl⟩:=List.length_eq_one_iff.1 h1;obtain⟨_,_,_,d1,d2⟩:=LK hc;have h16:=(Bk h.wok.ks).1;have hp:=UQ h h12 ent d hn ⟨by omega,by omega⟩;replace hr:(EY w (Ct w ent d).1 (Ct w ent d).2,(⟨0,0⟩:Ent),decide ((Ct w ent d).2=0))=r:=hr;subst hr;refine FL ?_;obtain⟨err,herr⟩:∃e,(Ct w ent d).2=e:=⟨_,rfl⟩;rw[herr]at hp⊢;refine DY (n:=1) [(P,.row 51 2 [A8 ⟨0,0⟩])] (arS a++Sf) rfl (by kernel_rfl) (by kernel_rfl) ?_;refine RGoH.go ?_;refine RGoH.go ?_;refine RGoH.go ?_;refine RGoH.go ?_;refine RGoH.go ?_;refine RGoH.go ?_;refine RGoH.go (h:=W.idxL (a:=0) (e:=AH false d) rfl rfl rfl rfl) ?_;refine RGoH.go ?_;refine RGoH.skip [13,15,19] ?_;refine RGoH.skip [20] ?_;refine RGoH.goS ?_;refine RGoH.skip [21] ?_;refine RGoH.nil (by kernel_rfl) (by kernel_rfl) (by kernel_rfl) ?_;refine HC.step [(13,.ptr a.A 0 0),(15,A8 ent),(19,AH false d)] ⟨rfl,rfl,rfl,rfl,rfl,rfl,trivial⟩ λT F=>?_
   refine D5 F (h:=hp) (k:=λb hb=>?_);refine AOps.nil ⟨rfl,_,_,⟨λd v h=>h,.refl _⟩,?_⟩;refine HC.step [(20,iA err)] ⟨rfl,rfl,trivial⟩ λT2 F2=>?_
   (repeat refine WO ?_);refine AOps.nil ⟨rfl,_,_,⟨λd v h=>h,.refl _⟩,?_⟩;refine HC.step [(21,bA (decide (err=0)))] ⟨rfl,rfl,trivial⟩ λT3 F3=>?_
   (repeat refine WO ?_);refine AOps.nil ⟨rfl,_,_,⟨λd v h=>h,.refl _⟩,?_⟩;show andThen _ _ _ _
   refine FL ?_;refine RT ?_;exact Ends.sp [A8 ⟨0,0⟩,bA (decide (err=0))] (arS b) ⟨b,⟨by rw[<-herr];rw[<-herr]at hb;exact hb.1,hb.2⟩,rfl,rfl⟩
  ·cases hc
 rw[if_neg (of_decide_eq_false h0)]at hr hc;refine FL ?_;refine R1 ?_;refine AWP.cond rfl (λh1=>?_) (λh1=>?_)
 ·rw[if_pos (of_decide_eq_true h1)]at hr hc
  have hk:0<=kind/\kind<w.kinds.length:=by
   split at hc
   ·cases hc
   ·omega
  have h16:=(Bk h.wok.ks).1;have hp:=TK h ent kind hn ⟨by omega,by omega⟩;subst hr;refine FL ?_;refine RG ?_;(iterate 6 refine WO ?_);refine AOps.gN ?_;refine D5 [_] (h:=hp) (k:=λb hb=>?_);refine KO ?_;refine NL ?_;refine FL ?_;refine RT ?_;exact Ends.sp [A8 ⟨0,0⟩,bA _] (arS b) ⟨b,hb,rfl,rfl⟩
 rw[if_neg (of_decide_eq_false h1)]at hr hc;refine FL ?_;refine R1 ?_;refine AWP.cond rfl (λh2=>?_) (λh2=>?_)
 ·rw[if_pos (of_decide_eq_true h2)]at hr hc
  have hp:=Sq h ent hn;subst hr;refine FL ?_;refine RG ?_;(iterate 4 refine WO ?_);refine AOps.gN ?_;refine JN [_] (h:=hp) (k:=λb hb=>?_);refine KO ?_;refine NL ?_;refine FL ?_;refine RT ?_;exact Ends.sp [A8 ⟨0,0⟩,bA _] (arS b) ⟨b,hb,rfl,rfl⟩
 rw[if_neg (of_decide_eq_false h2)]at hr hc;have hp:=Pg a w h h12 comps hl;subst hr;refine FL ?_;refine RG ?_;(iterate 3 refine WO ?_);refine AOps.gN ?_;refine JN [_] (h:=hp) (k:=λb hb=>?_);refine KO ?_;refine Ai λV=>?_;refine KO ?_;refine NL ?_
 refine FL ?_;refine R1 ?_;refine RT ?_;exact Ends.sp [A8 _,bA _] (arS b) ⟨b,hb,rfl,rfl⟩
section
open Go.Sort
theorem Ug(f:FuncId)(cap:List AV)(cf:Item->Item->Int)(hst:B4 cap=true)(hcf:∀x y,PS Tryz.prog f ((AE false) x::(AE false) y::cap) (iA (cf x y)))(X n:Nat)(d:Array Item)(a b:Nat)(hn:n=d.size)(hab:a<=b)(hb:b<=d.size)(hz:d.size<=1099511627776):PO Tryz.prog 239 [.sl X 0 n,iA a,iA b,.fn f cap] X (.row 54 3 (d.toList.map (AE false))) (.tup []) (.row 54 3 ((insertionSort (AZ cf) d a b).toList.map (AE false))):=by
 obtain⟨r,hr⟩:∃r,insertionSort (AZ cf) d a b=r:=⟨_,rfl⟩;rw[hr];unfold insertionSort at hr;refine Sp (nt:=53) (res:=[]) Tryz.func239 λSf=>?_
 refine KK ?_;refine BV (λ(i:Nat) (e:Array Item)=>⟨[(0,.sl X 0 n),(1,iA a),(2,iA b),(3,.fn f cap),(8,iA i)],(X,.row 54 3 (e.toList.map (AE false)))::Sf⟩) (λi e=>i<=max b (a+1)/\a<i/\e.size=d.size/\insOuter (AZ cf) a b i e=r) (λi _=>b-i) (a+1) d ⟨by omega,by omega,rfl,hr⟩ ?_;rintro i e ⟨hi,hai,he,hfold⟩;rw[insOuter]at hfold;refine KK ?_;refine AWP.cond rfl (λhc=>?_) (λhc=>?_)
 ·have h:i<b:=by have:=of_decide_eq_true hc;omega
  rw[if_pos h]at hfold;refine KK ?_;refine BV (λ(j:Nat) (u:Array Item)=>⟨[(0,.sl X 0 n),(1,iA a),(2,iA b),(3,.fn f cap),(8,iA i),(9,iA j)],(X,.row 54 3 (u.toList.map (AE false)))::Sf⟩) (λj u=>j<=i/\u.size=d.size/\insInner (AZ cf) a j u=insInner (AZ cf) a i e) (λj _=>j) i e ⟨Nat.le_refl _,he,rfl⟩ ?_;rintro j u ⟨hj,hu,hin⟩;rcases Bool.eq_false_or_eq_true (decide ((a:Int)<(j:Int)))with g|g
  ·have hja:a<j:=by have:=of_decide_eq_true g;omega
   obtain⟨q,rfl⟩:∃q,j=q+1:=⟨j-1,by omega⟩;have h1:=BD (AE false) (d:=u) (i:=q+1) (by omega);have h2:=BD (AE false) (d:=u) (i:=q) (by omega);have hl:=hcf (u[q+1]!) (u[q]!);rw[insInner]at hin;(repeat refine WF ?_);refine RU ?_;(iterate 11 refine RK ?_);refine RGo.gQ ?_;refine RGo.go (h:=A7 (q:Int) (by omega) (by omega) rfl rfl) (k:=?_);refine KR ?_;refine RGo.g_callv ?_;refine RGo.k2 (h:=(hl ..)) (k:=?_);refine RK ?_;refine RK ?_;refine RGo.nil (by kernel_rfl) ?_;(repeat refine WF ?_);refine AWP.cond rfl (λhd=>?_) (λhd=>?_)
   ·have hd:(AZ cf) u[q+1]! u[q]! =true:=by simpa[g,AZ]using hd
    rw[hd,if_pos (by simp;omega)]at hin;obtain⟨y,hy⟩:=CM (AE false) (d:=u) (i:=q+1) (j:=q) (by omega) u[q]!;(repeat refine WF ?_);refine RU ?_;(iterate 4 refine RK ?_);refine RGo.gN ?_;refine RGo.go (h:=A7 (q:Int) (by omega) (by omega) rfl rfl) (k:=?_);refine RK ?_;refine RK ?_;refine RGo.gN ?_;refine RGo.go (h:=A7 (q:Int) (by omega) (by omega) rfl rfl) (k:=?_);(iterate 9 refine RK ?_);refine RGo.gN ?_;refine RGo.s (W.store rfl rfl (by exact At.f) hy (by exact rfl)) rfl ?_;refine RGo.nil (by kernel_rfl) ?_
    (iterate 4 refine WK ?_);refine AOps.gN ?_;refine AOps.p (A7 (q:Int) (by omega) (by omega) rfl rfl) rfl ?_;refine KK ?_
    refine A9 q (swp u (q+1) q) ⟨by omega,by rw[size_swp];exact hu,hin⟩ (h0:=by rw[<-Ck (AE false) (by omega) (by omega)];exact⟨by exact Lk.f,by exact Sub.f⟩)
   ·have hd:(AZ cf) u[q+1]! u[q]! =false:=by simpa[g,AZ]using hd
    rw[hd,if_neg (by simp)]at hin;refine KK ?_;refine A9 (i+1) u ⟨by omega,by omega,hu,by rw[hin];exact hfold⟩
  ·have hja:j<=a:=by have:=of_decide_eq_false g;omega
   have hin2:insInner (AZ cf) a j u=u:=by
    cases j with
    |zero=>rfl
    |succ q=>rw[insInner,if_neg (by simp;omega)]
   rw[hin2]at hin;(repeat refine WF ?_);refine RU ?_;(iterate 17 refine RK ?_);refine RGo.nil (by kernel_rfl) ?_;(repeat refine WF ?_);refine AA rfl (by simp[g]) ?_;refine KK ?_;refine A9 (i+1) u ⟨by omega,by omega,hu,by rw[hin];exact hfold⟩
 ·have h:¬i<b:=by have:=of_decide_eq_false hc;omega
  rw[if_neg h]at hfold;subst hfold;refine KK ?_;refine C6 ?_;exact BM [(X,.row 54 3 (e.toList.map (AE false)))] ⟨rfl,rfl⟩
end
section
open Go.Sort
theorem NI(f:FuncId)(cap:List AV)(cf:Item->Item->Int)(hst:B4 cap=true)(hcf:∀x y,PS Tryz.prog f ((AE false) x::(AE false) y::cap) (iA (cf x y)))(X n:Nat)(d:Array Item)(lo hi first:Nat)(hn:n=d.size)(hb:first+hi<=d.size)(hlo:lo<=1099511627776)(hz:d.size<=1099511627776):PO Tryz.prog 261 [.sl X 0 n,iA lo,iA hi,iA first,.fn f cap] X (.row 54 3 (d.toList.map (AE false))) (.tup []) (.row 54 3 ((siftDown (AZ cf) hi first lo d).toList.map (AE false))):=by
 obtain⟨r,hr⟩:∃r,siftDown (AZ cf) hi first lo d=r:=⟨_,rfl⟩
 rw[hr];refine Sp (nt:=82) (res:=[]) Tryz.func261 λSf=>?_
 refine KK ?_;refine BV (λ(root:Nat) (u:Array Item)=>⟨[(0,.sl X 0 n),(2,iA hi),(3,iA first),(4,.fn f cap),(10,iA root)],(X,.row 54 3 (u.toList.map (AE false)))::Sf⟩) (λroot u=>root<=max hi lo/\u.size=d.size/\siftDown (AZ cf) hi first root u=r) (λroot _=>hi-root) lo d ⟨by omega,rfl,hr⟩ ?_;rintro root u ⟨hro,hu,hfold⟩;rw[siftDown]at hfold
 (iterate 4 refine WK ?_);refine AOps.gN ?_;refine AOps.p (Ii ((2*root:Nat):Int) (by omega) (by omega) rfl rfl) rfl ?_;refine AOps.gN ?_;refine AOps.p (Bb (((2*root+1:Nat):Int)) (by omega) (by omega) rfl rfl) rfl ?_;refine KK ?_
 refine AWP.cond rfl (λhc=>?_) (λhc=>?_)
 ·have h:2*root+1>=hi:=by have:=of_decide_eq_true hc;omega
  rw[dif_pos h]at hfold;subst hfold;refine KK ?_;refine C6 ?_;exact BM [(X,.row 54 3 (u.toList.map (AE false)))] ⟨rfl,rfl⟩
 have h:¬2*root+1>=hi:=by have:=of_decide_eq_false hc;omega
 rw[dif_neg h]at hfold;refine AWP.skip ?_;refine CR ?_;refine AWP.seq ?_;refine Bl (λc:Nat=>c<hi/\root<c/\(if !(AZ cf) u[first+root]! u[first+c]! then u else siftDown (AZ cf) hi first c (swp u (first+root) (first+c)))=r) (λc=>⟨[(0,.sl X 0 n),(2,iA hi),(3,iA first),(4,.fn f cap),(10,iA root),(11,iA c)],(X,.row 54 3 (u.toList.map (AE false)))::Sf⟩) ?_ ?_
 ·rcases Bool.eq_false_or_eq_true (decide (((2*root+1+1:Nat):Int)<(hi:Int)))with g|g
  ·have hg:2*root+1+1<hi:=by have:=of_decide_eq_true g;omega
   have h1:=BD (AE false) (d:=u) (i:=first+(2*root+1)) (by omega);have h2:=BD (AE false) (d:=u) (i:=first+(2*root+1)+1) (by omega);have hl:=hcf (u[first+(2*root+1)]!) (u[first+(2*root+1)+1]!);refine RU ?_;refine RK ?_;refine RGo.gN ?_;refine RGo.go (h:=Bb (((2*root+1+1:Nat):Int)) (by omega) (by omega) rfl rfl) (k:=?_);(iterate 7 refine RK ?_);refine RGo.gQ ?_;refine RGo.go (h:=Bb (((first+(2*root+1):Nat):Int)) (by omega) (by omega) rfl rfl) (k:=?_);(iterate 5 refine RK ?_);refine RGo.gQ ?_;refine RGo.go (h:=Bb (((first+(2*root+1):Nat):Int)) (by omega) (by omega) rfl rfl) (k:=?_);refine RGo.gQ ?_;refine RGo.go (h:=Bb (((first+(2*root+1)+1:Nat):Int)) (by omega) (by omega) rfl rfl) (k:=?_);refine KR ?_;refine RGo.g_callv ?_;refine RGo.k2 (h:=(hl ..)) (k:=?_);refine RK ?_;refine RK ?_;refine RGo.nil (by kernel_rfl) ?_;(repeat refine WF ?_);refine AWP.cond rfl (λhd=>?_) (λhd=>?_)
   ·have hd:(AZ cf) u[first+(2*root+1)]! u[first+(2*root+1)+1]! =true:=by simpa[g,AZ]using hd
    rw[hd,if_pos (by simp;omega)]at hfold;refine WK ?_;refine WK ?_;refine AOps.gN ?_;refine AOps.p (Bb (((2*root+2:Nat):Int)) (by omega) (by omega) rfl rfl) rfl ?_;refine KK ?_;refine jn (2*root+2) ⟨by omega,by omega,?_⟩;split at hfold
    ·rename_i hx;rw[if_pos hx];exact hfold
    ·rename_i hx;rw[if_neg hx];first|exact hfold|(rw[dif_pos (by omega)]at hfold;exact hfold)
   ·have hd:(AZ cf) u[first+(2*root+1)]! u[first+(2*root+1)+1]! =false:=by simpa[g,AZ]using hd
    rw[hd,if_neg (by simp)]at hfold;refine WK ?_;exact jn (2*root+1) ⟨by omega,by omega,hfold⟩
  ·have hg:¬2*root+1+1<hi:=by have:=of_decide_eq_false g;omega
   rw[if_neg (by simp[hg])]at hfold;refine RU ?_;refine RK ?_;refine RGo.gN ?_;refine RGo.go (h:=Bb (((2*root+1+1:Nat):Int)) (by omega) (by omega) rfl rfl) (k:=?_);(iterate 20 refine RK ?_);refine RGo.nil (by kernel_rfl) ?_;(repeat refine WF ?_);refine AA rfl (by simp[g]) ?_;refine WK ?_;exact jn (2*root+1) ⟨by omega,by omega,hfold⟩
 ·rintro c ⟨hch,hrc,hfold⟩
  have h1:=BD (AE false) (d:=u) (i:=first+root) (by omega);have h2:=BD (AE false) (d:=u) (i:=first+c) (by omega);have hl:=hcf (u[first+root]!) (u[first+c]!);(repeat refine WF ?_);refine RU ?_;(iterate 4 refine RK ?_);refine RGo.gN ?_;refine RGo.go (h:=Bb (((first+root:Nat):Int)) (by omega) (by omega) rfl rfl) (k:=?_);(iterate 5 refine RK ?_);refine RGo.gN ?_;refine RGo.go (h:=Bb (((first+c:Nat):Int)) (by omega) (by omega) rfl rfl) (k:=?_);refine KR ?_;refine RGo.g_callv ?_;refine RGo.k2 (h:=(hl ..)) (k:=?_);refine RK ?_;refine RK ?_;refine RGo.nil (by kernel_rfl) ?_;(repeat refine WF ?_);refine AWP.cond rfl (λhd=>?_) (λhd=>?_)
  ·have hd:(!(AZ cf) u[first+root]! u[first+c]!)=true:=by simpa[AZ]using hd
   rw[if_pos hd]at hfold;subst hfold;refine RT ?_;exact BM [(X,.row 54 3 (u.toList.map (AE false)))] ⟨rfl,rfl⟩
  ·have hd:(!(AZ cf) u[first+root]! u[first+c]!)=false:=by simpa[AZ]using hd
   rw[if_neg (by rw[hd];simp)]at hfold;obtain⟨y,hy⟩:=CM (AE false) (d:=u) (i:=first+root) (j:=first+c) (by omega) u[first+c]!;(repeat refine WF ?_);refine RU ?_;(repeat first|(refine RGo.gN ?_;first|refine RGo.go (h:=Bb (((first+root:Nat):Int)) (by omega) (by omega) rfl rfl) (k:=?_)|refine RGo.go (h:=Bb (((first+c:Nat):Int)) (by omega) (by omega) rfl rfl) (k:=?_)|refine RGo.s (W.store rfl rfl (by exact At.f) hy (by exact rfl)) rfl ?_)|(refine RGo.gQ ?_;first|refine RGo.go (h:=Bb (((first+root:Nat):Int)) (by omega) (by omega) rfl rfl) (k:=?_)|refine RGo.go (h:=Bb (((first+c:Nat):Int)) (by omega) (by omega) rfl rfl) (k:=?_)|refine RGo.s (W.store rfl rfl (by exact At.f) hy (by exact rfl)) rfl ?_)|refine RK ?_|refine RGo.nil (by kernel_rfl) ?_);refine KK ?_;refine A9 c (swp u (first+root) (first+c)) ⟨by omega,by rw[size_swp];exact hu,hfold⟩ (h0:=by rw[<-Ck (AE false) (by omega) (by omega)];exact⟨by exact Lk.f,by exact Sub.f⟩)
theorem Dr(lt:Item->Item->Bool)(hi first:Nat):∀(k root:Nat) (d:Array Item),hi-root<=k->(siftDown lt hi first root d).size=d.size
 |0,root,d,h=>by rw[siftDown,dif_pos (by omega)]
 |k+1,root,d,h=>by
  rw[siftDown];split
  ·rfl
  ·split
   ·split
    ·rfl
    ·split
     ·rw[Dr lt hi first k _ _ (by omega),size_swp]
     ·rfl
   ·split
    ·rfl
    ·rw[Dr lt hi first k _ _ (by omega),size_swp]
theorem Sz(f:FuncId)(cap:List AV)(cf:Item->Item->Int)(hst:B4 cap=true)(hcf:∀x y,PS Tryz.prog f ((AE false) x::(AE false) y::cap) (iA (cf x y)))(X n:Nat)(d:Array Item)(a b:Nat)(hn:n=d.size)(hab:a<b)(hb:b<=d.size)(hz:d.size<=1099511627776):PO Tryz.prog 240 [.sl X 0 n,iA a,iA b,.fn f cap] X (.row 54 3 (d.toList.map (AE false))) (.tup []) (.row 54 3 ((heapSort (AZ cf) d a b).toList.map (AE false))):=by
 obtain⟨r,hr⟩:∃r,heapSort (AZ cf) d a b=r:=⟨_,rfl⟩;rw[hr];unfold heapSort at hr;obtain⟨m,hm⟩:∃m,b-a=m:=⟨_,rfl⟩;rw[hm]at hr;refine Sp (nt:=60) (res:=[]) Tryz.func240 λSf=>?_
 (repeat first|(refine AOps.gN ?_;first|refine AOps.p (A7 ((m:Int)) (by omega) (by omega) rfl rfl) rfl ?_|refine AOps.p (A7 (((m-1:Nat):Int)) (by omega) (by omega) rfl rfl) rfl ?_|refine AOps.p (Kq (m-1) 2 ((m-1)/2) rfl rfl (by omega) rfl (by omega) rfl rfl) rfl ?_)|refine WK ?_|refine Ai λX=>?_|refine Ay λY=>?_);refine BV (λ(k:Nat) (u:Array Item)=>⟨[(0,.sl X 0 n),(3,.fn f cap),(8,iA a),(9,iA 0),(10,iA m),(11,iA ((k:Int)-1))],(X,.row 54 3 (u.toList.map (AE false)))::Sf⟩) (λk u=>k<=m/\u.size=d.size/\heapPop (AZ cf) a m (heapBuild (AZ cf) m a k u)=r) (λk _=>k) ((m-1)/2+1) d ⟨by omega,rfl,hr⟩ ?_ (h0:=by rw[show((((m-1)/2+1:Nat):Int)-1)=(((m-1)/2:Nat):Int) by omega];exact⟨by exact Lk.f,by exact Sub.f⟩);rintro k u ⟨hk,hu,hfold⟩;refine KK ?_;refine AWP.cond rfl (λhc=>?_) (λhc=>?_)
 ·obtain⟨q,rfl⟩:∃q,k=q+1:=⟨k-1,by have:=of_decide_eq_true hc;omega⟩
  rw[heapBuild]at hfold;have hs:=NI f cap cf hst hcf X n u q m a (by omega) (by omega) (by omega) (by omega);have hsz:=Dr (AZ cf) m a _ q u (Nat.le_refl _);rw[show(((q+1:Nat):Int)-1)=(q:Int) by omega];refine KK ?_;refine AOps.g_callf ?_;refine ID (h:=(hs ..)) (k:=?_);(iterate 5 refine WK ?_);refine AOps.gN ?_;refine AOps.p (A7 ((q:Int)-1) (by omega) (by omega) rfl rfl) rfl ?_;refine KK ?_;exact A9 q (siftDown (AZ cf) m a q u) ⟨by omega,by omega,hfold⟩
 ·obtain rfl:k=0:=by have:=of_decide_eq_false hc;omega
  rw[heapBuild]at hfold
  (iterate 4 refine WK ?_);refine AOps.gN ?_;refine AOps.p (A7 ((m:Int)-1) (by omega) (by omega) rfl rfl) rfl ?_;refine KK ?_
  clear hc hk;refine BV (λ(k:Nat) (u:Array Item)=>⟨[(0,.sl X 0 n),(3,.fn f cap),(8,iA a),(9,iA 0),(10,iA m),(12,iA ((k:Int)-1))],(X,.row 54 3 (u.toList.map (AE false)))::Sf⟩) (λk u=>k<=m/\u.size=d.size/\heapPop (AZ cf) a k u=r) (λk _=>k) m u ⟨by omega,hu,hfold⟩ ?_;clear hfold hu;rintro k u ⟨hk,hu,hfold⟩;refine KK ?_;refine AWP.cond rfl (λhc=>?_) (λhc=>?_)
  ·obtain⟨q,rfl⟩:∃q,k=q+1:=⟨k-1,by have:=of_decide_eq_true hc;omega⟩
   rw[heapPop]at hfold;have h1:=BD (AE false) (d:=u) (i:=a) (by omega);have h2:=BD (AE false) (d:=u) (i:=a+q) (by omega);have hs:=NI f cap cf hst hcf X n (swp u a (a+q)) 0 q a (by rw[size_swp];omega) (by rw[size_swp];omega) (by omega) (by rw[size_swp];omega);have hsz:=Dr (AZ cf) q a _ 0 (swp u a (a+q)) (Nat.le_refl _);rw[size_swp]at hsz;rw[show(((q+1:Nat):Int)-1)=(q:Int) by omega];obtain⟨y,hy⟩:=CM (AE false) (d:=u) (i:=a) (j:=a+q) (by omega) u[a+q]!;have hrow:=Ck (AE false) (d:=u) (i:=a) (j:=a+q) (by omega) (by omega);(repeat refine WF ?_);refine RU ?_;(iterate 5 refine RK ?_);refine RGo.gN ?_;refine RGo.go (h:=Bb (((a+q:Nat):Int)) (by omega) (by omega) rfl rfl) (k:=?_);(iterate 3 refine RK ?_);refine RGo.gN ?_;refine RGo.go (h:=Bb (((a+q:Nat):Int)) (by omega) (by omega) rfl rfl) (k:=?_);(iterate 9 refine RK ?_);refine RGo.gN ?_;refine RGo.s (W.store rfl rfl (by exact At.f) hy (by exact rfl)) rfl ?_;refine RGo.nil (by kernel_rfl) ?_;refine Mw [(0,.sl X 0 n),(3,.fn f cap),(8,iA a),(9,iA 0),(10,iA m),(12,iA q)] ((X,.row 54 3 ((swp u a (a+q)).toList.map (AE false)))::Sf) ?_ (h:=by rw[<-hrow];exact⟨by exact Lk.f,by exact Sub.f⟩);refine KK ?_;refine AOps.g_callf ?_;refine ID (h:=(hs ..)) (k:=?_);(iterate 5 refine WK ?_);refine AOps.gN ?_;refine AOps.p (A7 ((q:Int)-1) (by omega) (by omega) rfl rfl) rfl ?_;refine KK ?_;exact A9 q (siftDown (AZ cf) q a 0 (swp u a (a+q))) ⟨by omega,by omega,hfold⟩
  ·obtain rfl:k=0:=by have:=of_decide_eq_false hc;omega
   rw[heapPop]at hfold;subst hfold;refine KK ?_;refine C6 ?_;exact BM [(X,.row 54 3 (u.toList.map (AE false)))] ⟨rfl,rfl⟩
theorem UM{f:FuncId}{cap:List AV}(X n:Nat)(d:Array Item)(a b:Nat)(hn:n=d.size)(hab:a<b)(hb:b<=d.size)(hz:d.size<=1099511627776):PO Tryz.prog 243 [.sl X 0 n,iA a,iA b,.fn f cap] X (.row 54 3 (d.toList.map (AE false))) (.tup []) (.row 54 3 ((reverseRange d a b).toList.map (AE false))):=by
 obtain⟨r,hr⟩:∃r,reverseRange d a b=r:=⟨_,rfl⟩;rw[hr];unfold reverseRange at hr;refine Sp (nt:=34) (res:=[]) Tryz.func243 λSf=>?_
 (iterate 8 refine WK ?_);refine AOps.gN ?_;refine AOps.p (A7 (((b-1:Nat):Int)) (by omega) (by omega) rfl rfl) rfl ?_;refine KK ?_
 refine DZ (λ(i j:Nat) (u:Array Item)=>⟨[(0,.sl X 0 n),(8,iA i),(9,iA j)],(X,.row 54 3 (u.toList.map (AE false)))::Sf⟩) (λi j u=>i<=d.size/\j<d.size/\u.size=d.size/\reverseLoop i j u=r) (λi j _=>j-i) a (b-1) d ⟨by omega,by omega,rfl,hr⟩ ?_;rintro i j u ⟨hi,hj,hu,hfold⟩;rw[reverseLoop]at hfold;refine KK ?_;refine AWP.cond rfl (λhc=>?_) (λhc=>?_)
 ·have h:i<j:=by have:=of_decide_eq_true hc;omega
  rw[if_pos h]at hfold;have h1:=BD (AE false) (d:=u) (i:=i) (by omega);have h2:=BD (AE false) (d:=u) (i:=j) (by omega);obtain⟨y,hy⟩:=CM (AE false) (d:=u) (i:=i) (j:=j) (by omega) u[j]!;(repeat refine WF ?_);refine RU ?_;(iterate 15 refine RK ?_);refine RGo.gN ?_;refine RGo.s (W.store rfl rfl (by exact At.f) hy (by exact rfl)) rfl ?_;refine RGo.nil (by kernel_rfl) ?_
  (iterate 9 refine WK ?_);refine AOps.gN ?_;refine AOps.p (A7 (((j-1:Nat):Int)) (by omega) (by omega) rfl rfl) rfl ?_;refine KK ?_
  refine CK (i+1) (j-1) (swp u i j) ⟨by omega,by omega,by rw[size_swp];exact hu,hfold⟩ (h0:=by rw[<-Ck (AE false) (by omega) (by omega)];exact⟨by exact Lk.f,by exact Sub.f⟩)
 ·have h:¬i<j:=by have:=of_decide_eq_false hc;omega
  rw[if_neg h]at hfold;subst hfold;refine KK ?_;refine C6 ?_;exact BM [(X,.row 54 3 (u.toList.map (AE false)))] ⟨rfl,rfl⟩
end
section
open Go.Sort
theorem HL(p:Item->Bool)(d:Array Item)(j i:Nat):scanUp p d j i<=max i (j+1):=by
 obtain⟨m,hm⟩:∃m,j+1-i=m:=⟨_,rfl⟩
 induction m generalizing i with
 |zero=>rw[scanUp,if_neg (λe=>by rw[Bool.and_eq_true]at e;have:=of_decide_eq_true e.1;omega)];omega
 |succ m ih=>
  rw[scanUp];split
  ·have:=ih (i+1) (by omega)
   omega
  ·omega
theorem US(f:FuncId)(cap:List AV)(cf:Item->Item->Int)(hst:B4 cap=true)(hcf:∀x y,PS Tryz.prog f ((AE false) x::(AE false) y::cap) (iA (cf x y)))(X n:Nat)(d:Array Item)(a b pivot:Nat)(hn:n=d.size)(ha:a<=pivot)(hp:pivot<b)(hb:b<=d.size)(hz:d.size<=1099511627776):PO Tryz.prog 245 [.sl X 0 n,iA a,iA b,iA pivot,.fn f cap] X (.row 54 3 (d.toList.map (AE false))) (iA (partitionEqual (AZ cf) d a b pivot).1) (.row 54 3 ((partitionEqual (AZ cf) d a b pivot).2.toList.map (AE false))):=by
 obtain⟨r,hr⟩:∃r,partitionEqual (AZ cf) d a b pivot=r:=⟨_,rfl⟩;rw[hr];unfold partitionEqual at hr;refine Sp (nt:=90) (res:=[.tmp 10]) Tryz.func245 λSf=>?_
 have h1:=BD (AE false) (d:=d) (i:=a) (by omega);have h2:=BD (AE false) (d:=d) (i:=pivot) (by omega);obtain⟨y,hy⟩:=CM (AE false) (d:=d) (i:=a) (j:=pivot) (by omega) d[pivot]!;refine R1 ?_;refine RU ?_;(iterate 15 refine RK ?_);refine RGo.gN ?_;refine RGo.s (W.store rfl rfl (by exact At.f) hy (by exact rfl)) rfl ?_;refine RGo.nil (by kernel_rfl) ?_
 (iterate 5 refine WK ?_);refine AOps.gN ?_;refine AOps.p (A7 (((b-1:Nat):Int)) (by omega) (by omega) rfl rfl) rfl ?_;refine KK ?_
 refine DZ (λ(i j:Nat) (u:Array Item)=>⟨[(0,.sl X 0 n),(1,iA a),(4,.fn f cap),(11,iA i),(12,iA j)],(X,.row 54 3 (u.toList.map (AE false)))::Sf⟩) (λi j u=>a<i/\i<=j+2/\j<b/\u.size=d.size/\partEqLoop (AZ cf) a i j u=r) (λi j _=>j+1-i) (a+1) (b-1) (swp d a pivot) ⟨by omega,by omega,by omega,by rw[size_swp],hr⟩ ?_ (h0:=by rw[<-Ck (AE false) (by omega) (by omega)];exact⟨by exact Lk.f,by exact Sub.f⟩);rintro i j u ⟨hai,hij,hjb,hu,hfold⟩;rw[partEqLoop_eq]at hfold;obtain⟨i2,hi2⟩:∃i2,scanUp (λx=>!(AZ cf) u[a]! x) u j i=i2:=⟨_,rfl⟩;rw[hi2]at hfold;obtain⟨j2,hj2⟩:∃j2,scanDown (λx=>(AZ cf) u[a]! x) u i2 j=j2:=⟨_,rfl⟩;rw[hj2]at hfold;have hge:=scanUp_ge (λx=>!(AZ cf) u[a]! x) u j i;have hle:=scanDown_le (λx=>(AZ cf) u[a]! x) u i2 j;rw[hi2]at hge;rw[hj2]at hle;have hge2:i2<=max i (j+1):=by rw[<-hi2];exact HL _ _ _ _
 refine AWP.block ?_
 (repeat (first|refine AWP.skip ?_|refine CR ?_|refine AWP.seq ?_))
 refine Bl (λk:Nat=>k=i2) (λk=>⟨[(0,.sl X 0 n),(1,iA a),(4,.fn f cap),(11,iA k),(12,iA j)],(X,.row 54 3 (u.toList.map (AE false)))::Sf⟩) ?_ ?_
 ·refine AWP.block ?_
  refine BB (λ(k:Nat)=>⟨[(0,.sl X 0 n),(1,iA a),(4,.fn f cap),(11,iA k),(12,iA j)],(X,.row 54 3 (u.toList.map (AE false)))::Sf⟩) (λk=>i<=k/\k<=max i (j+1)/\scanUp (λx=>!(AZ cf) u[a]! x) u j k=i2) (λk=>j+1-k) i ⟨Nat.le_refl _,by omega,hi2⟩ ?_;rintro k ⟨hk1,hk2,hk⟩;rw[scanUp]at hk;rcases Bool.eq_false_or_eq_true (decide ((k:Int)<=(j:Int)))with g|g
  ·have hg:k<=j:=by have:=of_decide_eq_true g;omega
   have h1:=BD (AE false) (d:=u) (i:=k) (by omega);have h2:=BD (AE false) (d:=u) (i:=a) (by omega);have hl:=hcf (u[a]!) (u[k]!);(repeat refine WF ?_);refine RU ?_;refine KR ?_;refine RGo.g_callv ?_;refine RGo.k2 (h:=(hl ..)) (k:=?_);(iterate 3 refine RK ?_);refine RGo.nil (by kernel_rfl) ?_;(repeat refine WF ?_);refine AWP.cond rfl (λhd=>?_) (λhd=>?_)
   ·have hd:(!(AZ cf) u[a]! u[k]!)=true:=by simpa[g,AZ]using hd
    rw[if_pos (by rw[Bool.and_eq_true];exact⟨Ah (by omega),hd⟩)]at hk;refine KK ?_;exact Ab (k+1) ⟨by omega,by omega,hk⟩
   ·have hd:(!(AZ cf) u[a]! u[k]!)=false:=by simpa[g,AZ]using hd
    rw[if_neg (λe=>by rw[Bool.and_eq_true]at e;have e2:=e.2;rw[hd]at e2;cases e2)]at hk;refine KK ?_;exact jn k hk
  ·have hg:¬k<=j:=by have:=of_decide_eq_false g;omega
   rw[if_neg (λe=>by rw[Bool.and_eq_true]at e;have:=of_decide_eq_true e.1;omega)]at hk;(repeat refine WF ?_);refine RU ?_;(iterate 17 refine RK ?_);refine RGo.nil (by kernel_rfl) ?_;(repeat refine WF ?_);refine AA rfl (by simp[g]) ?_;refine KK ?_;exact jn k hk
 rintro k hk0;rw[hk0];clear hk0 k
 (repeat (first|refine AWP.skip ?_|refine CR ?_|refine AWP.seq ?_))
 refine Bl (λk:Nat=>k=j2) (λk=>⟨[(0,.sl X 0 n),(1,iA a),(4,.fn f cap),(11,iA i2),(12,iA k)],(X,.row 54 3 (u.toList.map (AE false)))::Sf⟩) ?_ ?_
 ·refine AWP.block ?_
  refine BB (λ(k:Nat)=>⟨[(0,.sl X 0 n),(1,iA a),(4,.fn f cap),(11,iA i2),(12,iA k)],(X,.row 54 3 (u.toList.map (AE false)))::Sf⟩) (λk=>k<=j/\scanDown (λx=>(AZ cf) u[a]! x) u i2 k=j2) (λk=>k) j ⟨Nat.le_refl _,hj2⟩ ?_;rintro k ⟨hk1,hk⟩;rcases Bool.eq_false_or_eq_true (decide ((i2:Int)<=(k:Int)))with g|g
  ·have hg:i2<=k:=by have:=of_decide_eq_true g;omega
   obtain⟨q,rfl⟩:∃q,k=q+1:=⟨k-1,by omega⟩;rw[scanDown]at hk;have h1:=BD (AE false) (d:=u) (i:=q+1) (by omega);have h2:=BD (AE false) (d:=u) (i:=a) (by omega);have hl:=hcf (u[a]!) (u[q+1]!);(repeat refine WF ?_);refine RU ?_;refine KR ?_;refine RGo.g_callv ?_;refine RGo.k2 (h:=(hl ..)) (k:=?_);refine RK ?_;refine RK ?_;refine RGo.nil (by kernel_rfl) ?_;(repeat refine WF ?_);refine AWP.cond rfl (λhd=>?_) (λhd=>?_)
   ·have hd:((AZ cf) u[a]! u[q+1]!)=true:=by simpa[g,AZ]using hd
    rw[if_pos (by rw[Bool.and_eq_true];exact⟨Ah (by omega),hd⟩)]at hk
    (iterate 4 refine WK ?_);refine AOps.gN ?_;refine AOps.p (A7 ((q:Int)) (by omega) (by omega) rfl rfl) rfl ?_;refine KK ?_
    exact Ab q ⟨by omega,hk⟩
   ·have hd:((AZ cf) u[a]! u[q+1]!)=false:=by simpa[g,AZ]using hd
    rw[if_neg (λe=>by rw[Bool.and_eq_true]at e;have e2:=e.2;rw[hd]at e2;cases e2)]at hk;refine KK ?_;exact jn (q+1) hk
  ·have hg:¬i2<=k:=by have:=of_decide_eq_false g;omega
   have hk3:scanDown (λx=>(AZ cf) u[a]! x) u i2 k=k:=by
    cases k with
    |zero=>rfl
    |succ q=>rw[scanDown,if_neg (λe=>by rw[Bool.and_eq_true]at e;have:=of_decide_eq_true e.1;omega)]
   rw[hk3]at hk;(repeat refine WF ?_);refine RU ?_;(iterate 16 refine RK ?_);refine RGo.nil (by kernel_rfl) ?_;(repeat refine WF ?_);refine AA rfl (by simp[g]) ?_;refine KK ?_;exact jn k hk
 rintro k hk0;rw[hk0];clear hk0 k;refine KK ?_;refine AWP.cond rfl (λhc=>?_) (λhc=>?_)
 ·have h:i2>j2:=by have:=of_decide_eq_true hc;omega
  rw[if_pos h]at hfold;subst hfold;refine KK ?_;refine RT ?_;exact Ends.sp [iA i2] [(X,_)] ⟨rfl,rfl⟩
 ·have h:¬i2>j2:=by have:=of_decide_eq_false hc;omega
  rw[if_neg h]at hfold;have h1:=BD (AE false) (d:=u) (i:=i2) (by omega);have h2:=BD (AE false) (d:=u) (i:=j2) (by omega);obtain⟨y,hy⟩:=CM (AE false) (d:=u) (i:=i2) (j:=j2) (by omega) u[j2]!;(repeat refine WF ?_);refine RU ?_;(iterate 15 refine RK ?_);refine RGo.gN ?_;refine RGo.s (W.store rfl rfl (by exact At.f) hy (by exact rfl)) rfl ?_;refine RGo.nil (by kernel_rfl) ?_
  (iterate 9 refine WK ?_);refine AOps.gN ?_;refine AOps.p (A7 (((j2-1:Nat):Int)) (by omega) (by omega) rfl rfl) rfl ?_;refine KK ?_
  refine CK (i2+1) (j2-1) (swp u i2 j2) ⟨by omega,by omega,by omega,by rw[size_swp];exact hu,hfold⟩ (h0:=by rw[<-Ck (AE false) (by omega) (by omega)];exact⟨by exact Lk.f,by exact Sub.f⟩)
theorem SS(f:FuncId)(cap:List AV)(cf:Item->Item->Int)(hst:B4 cap=true)(hcf:∀x y,PS Tryz.prog f ((AE false) x::(AE false) y::cap) (iA (cf x y)))(X n:Nat)(d:Array Item)(a b pivot:Nat)(hn:n=d.size)(ha:a<=pivot)(hp:pivot<b)(hb:b<=d.size)(hz:d.size<=1099511627776):PO Tryz.prog 246 [.sl X 0 n,iA a,iA b,iA pivot,.fn f cap] X (.row 54 3 (d.toList.map (AE false))) (.tup [iA (partition (AZ cf) d a b pivot).1,bA (partition (AZ cf) d a b pivot).2.1]) (.row 54 3 ((partition (AZ cf) d a b pivot).2.2.toList.map (AE false))):=by
 obtain⟨r,hr⟩:∃r,partition (AZ cf) d a b pivot=r:=⟨_,rfl⟩;rw[hr];dsimp only[partition]at hr;refine Sp (nt:=178) (res:=[.tmp 10,.tmp 11]) Tryz.func246 λSf=>?_
 have h1:=BD (AE false) (d:=d) (i:=a) (by omega);have h2:=BD (AE false) (d:=d) (i:=pivot) (by omega);have hrow:=Ck (AE false) (d:=d) (i:=a) (j:=pivot) (by omega) (by omega);obtain⟨y,hy⟩:=CM (AE false) (d:=d) (i:=a) (j:=pivot) (by omega) d[pivot]!;refine R1 ?_;refine RU ?_;(iterate 15 refine RK ?_);refine RGo.gN ?_;refine RGo.s (W.store rfl rfl (by exact At.f) hy (by exact rfl)) rfl ?_;refine RGo.nil (by kernel_rfl) ?_;have hsz:(swp d a pivot).size=d.size:=size_swp _ _ _;obtain⟨u,hu0⟩:∃u,swp d a pivot=u:=⟨_,rfl⟩;rw[hu0]at hr hrow hsz;obtain⟨j,hj⟩:∃j,b-1=j:=⟨_,rfl⟩;obtain⟨i,hi⟩:∃i,a+1=i:=⟨_,rfl⟩;rw[hj,hi]at hr;refine RG ?_;refine WO ?_;refine AOps.gN ?_;refine AOps.p (Bb (((i:Nat):Int)) (by omega) (by omega) rfl rfl) rfl ?_;refine WO ?_;refine AOps.gN ?_;refine AOps.p (A7 ((j:Int)) (by omega) (by omega) rfl rfl) rfl ?_;refine KO ?_;refine NL ?_
 (repeat (first|refine AWP.skip ?_|refine CR ?_|refine AWP.seq ?_))
 refine Mw [(0,.sl X 0 n),(1,iA a),(4,.fn f cap),(12,iA i),(13,iA j)] ((X,.row 54 3 (u.toList.map (AE false)))::Sf) ?_ (h:=by rw[<-hrow];exact⟨by exact Lk.f,by exact Sub.f⟩);have hu:u.size=d.size:=hsz;have hfold:=hr;obtain⟨i2,hi2⟩:∃i2,scanUp (λx=>(AZ cf) x u[a]!) u j i=i2:=⟨_,rfl⟩;rw[hi2]at hfold;obtain⟨j2,hj2⟩:∃j2,scanDown (λx=>!(AZ cf) x u[a]!) u i2 j=j2:=⟨_,rfl⟩;rw[hj2]at hfold;have hge:=scanUp_ge (λx=>(AZ cf) x u[a]!) u j i;have hle:=scanDown_le (λx=>!(AZ cf) x u[a]!) u i2 j;rw[hi2]at hge;rw[hj2]at hle;have hge2:i2<=max i (j+1):=by rw[<-hi2];exact HL _ _ _ _
 refine Bl (λk:Nat=>k=i2) (λk=>⟨[(0,.sl X 0 n),(1,iA a),(4,.fn f cap),(12,iA k),(13,iA j)],(X,.row 54 3 (u.toList.map (AE false)))::Sf⟩) ?_ ?_
 ·refine AWP.block ?_
  refine BB (λ(k:Nat)=>⟨[(0,.sl X 0 n),(1,iA a),(4,.fn f cap),(12,iA k),(13,iA j)],(X,.row 54 3 (u.toList.map (AE false)))::Sf⟩) (λk=>i<=k/\k<=max i (j+1)/\scanUp (λx=>(AZ cf) x u[a]!) u j k=i2) (λk=>j+1-k) i ⟨Nat.le_refl _,by omega,hi2⟩ ?_;rintro k ⟨hk1,hk2,hk⟩;rw[scanUp]at hk;rcases Bool.eq_false_or_eq_true (decide ((k:Int)<=(j:Int)))with g|g
  ·have hg:k<=j:=by have:=of_decide_eq_true g;omega
   have h1:=BD (AE false) (d:=u) (i:=k) (by omega);have h2:=BD (AE false) (d:=u) (i:=a) (by omega);have hl:=hcf (u[k]!) (u[a]!);(repeat refine WF ?_);refine RU ?_;refine KR ?_;refine RGo.g_callv ?_;refine RGo.k2 (h:=(hl ..)) (k:=?_);refine RK ?_;refine RK ?_;refine RGo.nil (by kernel_rfl) ?_;(repeat refine WF ?_);refine AWP.cond rfl (λhd=>?_) (λhd=>?_)
   ·have hd:((AZ cf) u[k]! u[a]!)=true:=by simpa[g,AZ]using hd
    rw[if_pos (by rw[Bool.and_eq_true];exact⟨Ah (by omega),hd⟩)]at hk;refine KK ?_;exact Ab (k+1) ⟨by omega,by omega,hk⟩
   ·have hd:((AZ cf) u[k]! u[a]!)=false:=by simpa[g,AZ]using hd
    rw[if_neg (λe=>by rw[Bool.and_eq_true]at e;have e2:=e.2;rw[hd]at e2;cases e2)]at hk;refine KK ?_;exact jn k hk
  ·have hg:¬k<=j:=by have:=of_decide_eq_false g;omega
   rw[if_neg (λe=>by rw[Bool.and_eq_true]at e;have:=of_decide_eq_true e.1;omega)]at hk;(repeat refine WF ?_);refine RU ?_;(iterate 16 refine RK ?_);refine RGo.nil (by kernel_rfl) ?_;(repeat refine WF ?_);refine AA rfl (by simp[g]) ?_;refine KK ?_;exact jn k hk
 rintro k hk0;rw[hk0];clear hk0 k
 (repeat (first|refine AWP.skip ?_|refine CR ?_|refine AWP.seq ?_))
 refine Bl (λk:Nat=>k=j2) (λk=>⟨[(0,.sl X 0 n),(1,iA a),(4,.fn f cap),(12,iA i2),(13,iA k)],(X,.row 54 3 (u.toList.map (AE false)))::Sf⟩) ?_ ?_
 ·refine AWP.block ?_
  refine BB (λ(k:Nat)=>⟨[(0,.sl X 0 n),(1,iA a),(4,.fn f cap),(12,iA i2),(13,iA k)],(X,.row 54 3 (u.toList.map (AE false)))::Sf⟩) (λk=>k<=j/\scanDown (λx=>!(AZ cf) x u[a]!) u i2 k=j2) (λk=>k) j ⟨Nat.le_refl _,hj2⟩ ?_;rintro k ⟨hk1,hk⟩;rcases Bool.eq_false_or_eq_true (decide ((i2:Int)<=(k:Int)))with g|g
  ·have hg:i2<=k:=by have:=of_decide_eq_true g;omega
   obtain⟨q,rfl⟩:∃q,k=q+1:=⟨k-1,by omega⟩;rw[scanDown]at hk;have h1:=BD (AE false) (d:=u) (i:=q+1) (by omega);have h2:=BD (AE false) (d:=u) (i:=a) (by omega);have hl:=hcf (u[q+1]!) (u[a]!);(repeat refine WF ?_);refine RU ?_;refine KR ?_;refine RGo.g_callv ?_;refine RGo.k2 (h:=(hl ..)) (k:=?_);(iterate 3 refine RK ?_);refine RGo.nil (by kernel_rfl) ?_;(repeat refine WF ?_);refine AWP.cond rfl (λhd=>?_) (λhd=>?_)
   ·have hd:(!(AZ cf) u[q+1]! u[a]!)=true:=by simpa[g,AZ]using hd
    rw[if_pos (by rw[Bool.and_eq_true];exact⟨Ah (by omega),hd⟩)]at hk
    (iterate 4 refine WK ?_);refine AOps.gN ?_;refine AOps.p (A7 ((q:Int)) (by omega) (by omega) rfl rfl) rfl ?_;refine KK ?_
    exact Ab q ⟨by omega,hk⟩
   ·have hd:(!(AZ cf) u[q+1]! u[a]!)=false:=by simpa[g,AZ]using hd
    rw[if_neg (λe=>by rw[Bool.and_eq_true]at e;have e2:=e.2;rw[hd]at e2;cases e2)]at hk;refine KK ?_;exact jn (q+1) hk
  ·have hg:¬i2<=k:=by have:=of_decide_eq_false g;omega
   have hk3:scanDown (λx=>!(AZ cf) x u[a]!) u i2 k=k:=by
    cases k with
    |zero=>rfl
    |succ q=>rw[scanDown,if_neg (λe=>by rw[Bool.and_eq_true]at e;have:=of_decide_eq_true e.1;omega)]
   rw[hk3]at hk;(repeat refine WF ?_);refine RU ?_;(iterate 17 refine RK ?_);refine RGo.nil (by kernel_rfl) ?_;(repeat refine WF ?_);refine AA rfl (by simp[g]) ?_;refine KK ?_;exact jn k hk
 rintro k hk0;rw[hk0];clear hk0 k;refine KK ?_;refine AWP.cond rfl (λhc=>?_) (λhc=>?_)
 ·have h:i2>j2:=by have:=of_decide_eq_true hc;omega
  rw[if_pos h]at hfold;subst hfold;have h1:=BD (AE false) (d:=u) (i:=j2) (by omega);have h2:=BD (AE false) (d:=u) (i:=a) (by omega);have hrow2:=Ck (AE false) (d:=u) (i:=j2) (j:=a) (by omega) (by omega);obtain⟨y,hy⟩:=CM (AE false) (d:=u) (i:=j2) (j:=a) (by omega) u[a]!;(repeat refine WF ?_);refine RU ?_;(iterate 15 refine RK ?_);refine RGo.gN ?_;refine RGo.s (W.store rfl rfl (by exact At.f) hy (by exact rfl)) rfl ?_;refine RGo.nil (by kernel_rfl) ?_;refine KK ?_;refine RT ?_;exact Ends.sp [iA j2,bA true] [(X,_)] ⟨rfl,by rw[<-hrow2]⟩
 have h:¬i2>j2:=by have:=of_decide_eq_false hc;omega
 rw[if_neg h]at hfold;obtain⟨pr,hpr⟩:∃pr,partLoop (AZ cf) a (i2+1) (j2-1) (swp u i2 j2)=pr:=⟨_,rfl⟩;rw[hpr]at hfold;have h1:=BD (AE false) (d:=u) (i:=i2) (by omega);have h2:=BD (AE false) (d:=u) (i:=j2) (by omega);clear y hy;obtain⟨y,hy⟩:=CM (AE false) (d:=u) (i:=i2) (j:=j2) (by omega) u[j2]!;(repeat refine WF ?_);refine RU ?_;(iterate 15 refine RK ?_);refine RGo.gN ?_;refine RGo.s (W.store rfl rfl (by exact At.f) hy (by exact rfl)) rfl ?_;refine RGo.nil (by kernel_rfl) ?_
 (iterate 9 refine WK ?_);refine AOps.gN ?_;refine AOps.p (A7 (((j2-1:Nat):Int)) (by omega) (by omega) rfl rfl) rfl ?_;refine KK ?_
 refine DZ (λ(i j:Nat) (u:Array Item)=>⟨[(0,.sl X 0 n),(1,iA a),(4,.fn f cap),(12,iA i),(13,iA j)],(X,.row 54 3 (u.toList.map (AE false)))::Sf⟩) (λi j u=>a<i/\i<=j+2/\j<b/\u.size=d.size/\partLoop (AZ cf) a i j u=pr) (λi j _=>j+1-i) (i2+1) (j2-1) (swp u i2 j2) ⟨by omega,by omega,by omega,by rw[size_swp];exact hu,hpr⟩ ?_ (h0:=by rw[<-Ck (AE false) (by omega) (by omega)];exact⟨by exact Lk.f,by exact Sub.f⟩);subst hfold;clear hc h h1 h2 hpr hi2 hj2 hge hle hge2 hr hrow hu0 hu hsz hi hj hy y i2 j2 i j u;rintro i j u ⟨hai,hij,hjb,hu,hfold⟩;rw[partLoop_eq]at hfold;obtain⟨i2,hi2⟩:∃i2,scanUp (λx=>(AZ cf) x u[a]!) u j i=i2:=⟨_,rfl⟩;rw[hi2]at hfold;obtain⟨j2,hj2⟩:∃j2,scanDown (λx=>!(AZ cf) x u[a]!) u i2 j=j2:=⟨_,rfl⟩;rw[hj2]at hfold;have hge:=scanUp_ge (λx=>(AZ cf) x u[a]!) u j i;have hle:=scanDown_le (λx=>!(AZ cf) x u[a]!) u i2 j;rw[hi2]at hge;rw[hj2]at hle;have hge2:i2<=max i (j+1):=by rw[<-hi2];exact HL _ _ _ _
 refine AWP.block ?_
 (repeat (first|refine AWP.skip ?_|refine CR ?_|refine AWP.seq ?_))
 refine Bl (λk:Nat=>k=i2) (λk=>⟨[(0,.sl X 0 n),(1,iA a),(4,.fn f cap),(12,iA k),(13,iA j)],(X,.row 54 3 (u.toList.map (AE false)))::Sf⟩) ?_ ?_
 ·refine AWP.block ?_
  refine BB (λ(k:Nat)=>⟨[(0,.sl X 0 n),(1,iA a),(4,.fn f cap),(12,iA k),(13,iA j)],(X,.row 54 3 (u.toList.map (AE false)))::Sf⟩) (λk=>i<=k/\k<=max i (j+1)/\scanUp (λx=>(AZ cf) x u[a]!) u j k=i2) (λk=>j+1-k) i ⟨Nat.le_refl _,by omega,hi2⟩ ?_;rintro k ⟨hk1,hk2,hk⟩;rw[scanUp]at hk;rcases Bool.eq_false_or_eq_true (decide ((k:Int)<=(j:Int)))with g|g
  ·have hg:k<=j:=by have:=of_decide_eq_true g;omega
   have h1:=BD (AE false) (d:=u) (i:=k) (by omega);have h2:=BD (AE false) (d:=u) (i:=a) (by omega);have hl:=hcf (u[k]!) (u[a]!);(repeat refine WF ?_);refine RU ?_;refine KR ?_;refine RGo.g_callv ?_;refine RGo.k2 (h:=(hl ..)) (k:=?_);refine RK ?_;refine RK ?_;refine RGo.nil (by kernel_rfl) ?_;(repeat refine WF ?_);refine AWP.cond rfl (λhd=>?_) (λhd=>?_)
   ·have hd:((AZ cf) u[k]! u[a]!)=true:=by simpa[g,AZ]using hd
    rw[if_pos (by rw[Bool.and_eq_true];exact⟨Ah (by omega),hd⟩)]at hk;refine KK ?_;exact Ab (k+1) ⟨by omega,by omega,hk⟩
   ·have hd:((AZ cf) u[k]! u[a]!)=false:=by simpa[g,AZ]using hd
    rw[if_neg (λe=>by rw[Bool.and_eq_true]at e;have e2:=e.2;rw[hd]at e2;cases e2)]at hk;refine KK ?_;exact jn k hk
  ·have hg:¬k<=j:=by have:=of_decide_eq_false g;omega
   rw[if_neg (λe=>by rw[Bool.and_eq_true]at e;have:=of_decide_eq_true e.1;omega)]at hk;(repeat refine WF ?_);refine RU ?_;(iterate 16 refine RK ?_);refine RGo.nil (by kernel_rfl) ?_;(repeat refine WF ?_);refine AA rfl (by simp[g]) ?_;refine KK ?_;exact jn k hk
 rintro k hk0;rw[hk0];clear hk0 k
 (repeat (first|refine AWP.skip ?_|refine CR ?_|refine AWP.seq ?_))
 refine Bl (λk:Nat=>k=j2) (λk=>⟨[(0,.sl X 0 n),(1,iA a),(4,.fn f cap),(12,iA i2),(13,iA k)],(X,.row 54 3 (u.toList.map (AE false)))::Sf⟩) ?_ ?_
 ·refine AWP.block ?_
  refine BB (λ(k:Nat)=>⟨[(0,.sl X 0 n),(1,iA a),(4,.fn f cap),(12,iA i2),(13,iA k)],(X,.row 54 3 (u.toList.map (AE false)))::Sf⟩) (λk=>k<=j/\scanDown (λx=>!(AZ cf) x u[a]!) u i2 k=j2) (λk=>k) j ⟨Nat.le_refl _,hj2⟩ ?_;rintro k ⟨hk1,hk⟩;rcases Bool.eq_false_or_eq_true (decide ((i2:Int)<=(k:Int)))with g|g
  ·have hg:i2<=k:=by have:=of_decide_eq_true g;omega
   obtain⟨q,rfl⟩:∃q,k=q+1:=⟨k-1,by omega⟩;rw[scanDown]at hk;have h1:=BD (AE false) (d:=u) (i:=q+1) (by omega);have h2:=BD (AE false) (d:=u) (i:=a) (by omega);have hl:=hcf (u[q+1]!) (u[a]!);(repeat refine WF ?_);refine RU ?_;refine KR ?_;refine RGo.g_callv ?_;refine RGo.k2 (h:=(hl ..)) (k:=?_);(iterate 3 refine RK ?_);refine RGo.nil (by kernel_rfl) ?_;(repeat refine WF ?_);refine AWP.cond rfl (λhd=>?_) (λhd=>?_)
   ·have hd:(!(AZ cf) u[q+1]! u[a]!)=true:=by simpa[g,AZ]using hd
    rw[if_pos (by rw[Bool.and_eq_true];exact⟨Ah (by omega),hd⟩)]at hk
    (iterate 4 refine WK ?_);refine AOps.gN ?_;refine AOps.p (A7 ((q:Int)) (by omega) (by omega) rfl rfl) rfl ?_;refine KK ?_
    exact Ab q ⟨by omega,hk⟩
   ·have hd:(!(AZ cf) u[q+1]! u[a]!)=false:=by simpa[g,AZ]using hd
    rw[if_neg (λe=>by rw[Bool.and_eq_true]at e;have e2:=e.2;rw[hd]at e2;cases e2)]at hk;refine KK ?_;exact jn (q+1) hk
  ·have hg:¬i2<=k:=by have:=of_decide_eq_false g;omega
   have hk3:scanDown (λx=>!(AZ cf) x u[a]!) u i2 k=k:=by
    cases k with
    |zero=>rfl
    |succ q=>rw[scanDown,if_neg (λe=>by rw[Bool.and_eq_true]at e;have:=of_decide_eq_true e.1;omega)]
   rw[hk3]at hk;(repeat refine WF ?_);refine RU ?_;(iterate 17 refine RK ?_);refine RGo.nil (by kernel_rfl) ?_;(repeat refine WF ?_);refine AA rfl (by simp[g]) ?_;refine KK ?_;exact jn k hk
 rintro k hk0;rw[hk0];clear hk0 k;refine KK ?_;refine AWP.cond rfl (λhc=>?_) (λhc=>?_)
 ·have h:i2>j2:=by have:=of_decide_eq_true hc;omega
  rw[if_pos h]at hfold;subst hfold;have h1:=BD (AE false) (d:=u) (i:=j2) (by omega);have h2:=BD (AE false) (d:=u) (i:=a) (by omega);have hrow2:=Ck (AE false) (d:=u) (i:=j2) (j:=a) (by omega) (by omega);obtain⟨y,hy⟩:=CM (AE false) (d:=u) (i:=j2) (j:=a) (by omega) u[a]!;(repeat refine WF ?_);refine RU ?_;(iterate 15 refine RK ?_);refine RGo.gN ?_;refine RGo.s (W.store rfl rfl (by exact At.f) hy (by exact rfl)) rfl ?_;refine RGo.nil (by kernel_rfl) ?_;refine KK ?_;refine RT ?_;exact Ends.sp [iA j2,bA false] [(X,_)] ⟨rfl,by rw[<-hrow2]⟩
 ·have h:¬i2>j2:=by have:=of_decide_eq_false hc;omega
  rw[if_neg h]at hfold;have h1:=BD (AE false) (d:=u) (i:=i2) (by omega);have h2:=BD (AE false) (d:=u) (i:=j2) (by omega);obtain⟨y,hy⟩:=CM (AE false) (d:=u) (i:=i2) (j:=j2) (by omega) u[j2]!;(repeat refine WF ?_);refine RU ?_;(iterate 15 refine RK ?_);refine RGo.gN ?_;refine RGo.s (W.store rfl rfl (by exact At.f) hy (by exact rfl)) rfl ?_;refine RGo.nil (by kernel_rfl) ?_
  (iterate 9 refine WK ?_);refine AOps.gN ?_;refine AOps.p (A7 (((j2-1:Nat):Int)) (by omega) (by omega) rfl rfl) rfl ?_;refine KK ?_
  refine CK (i2+1) (j2-1) (swp u i2 j2) ⟨by omega,by omega,by omega,by rw[size_swp];exact hu,hfold⟩ (h0:=by rw[<-Ck (AE false) (by omega) (by omega)];exact⟨by exact Lk.f,by exact Sub.f⟩)
end
section
open Go.Sort
theorem I7(lt:Item->Item->Bool)(d:Array Item)(b i:Nat):i<=scanSorted lt d b i/\scanSorted lt d b i<=max i b:=by
 obtain⟨m,hm⟩:∃m,b-i=m:=⟨_,rfl⟩
 induction m generalizing i with
 |zero=>rw[scanSorted,if_neg (λe=>by rw[Bool.and_eq_true]at e;have:=of_decide_eq_true e.1;omega)];omega
 |succ m ih=>
  rw[scanSorted];split
  ·have:=ih (i+1) (by omega)
   omega
  ·omega
theorem SP(f:FuncId)(cap:List AV)(cf:Item->Item->Int)(hst:B4 cap=true)(hcf:∀x y,PS Tryz.prog f ((AE false) x::(AE false) y::cap) (iA (cf x y)))(X n:Nat)(d:Array Item)(a b:Nat)(hn:n=d.size)(hab:a<b)(hb:b<=d.size)(hz:d.size<=1099511627776):PO Tryz.prog 244 [.sl X 0 n,iA a,iA b,.fn f cap] X (.row 54 3 (d.toList.map (AE false))) (bA (partialInsertionSort (AZ cf) d a b).2) (.row 54 3 ((partialInsertionSort (AZ cf) d a b).1.toList.map (AE false))):=by
 obtain⟨r,hr⟩:∃r,partialInsertionSort (AZ cf) d a b=r:=⟨_,rfl⟩;rw[hr];unfold partialInsertionSort at hr;refine Sp (nt:=141) (res:=[.tmp 8]) Tryz.func244 λSf=>?_
 (iterate 7 refine WK ?_);refine AOps.gN ?_;refine AOps.p (Bb (((a+1:Nat):Int)) (by omega) (by omega) rfl rfl) rfl ?_;refine KK ?_
 refine DZ (λ(c i:Nat) (u:Array Item)=>⟨[(0,.sl X 0 n),(1,iA a),(2,iA b),(3,.fn f cap),(9,iA i),(10,iA c)],(X,.row 54 3 (u.toList.map (AE false)))::Sf⟩) (λc i u=>c<=5/\a<i/\i<=b/\u.size=d.size/\partialIns (AZ cf) a b (5-c) i u=r) (λc _ _=>5-c) 0 (a+1) d ⟨by omega,by omega,by omega,rfl,hr⟩ ?_;rintro c i u ⟨hc5,hai,hib,hu,hfold⟩;refine KK ?_;refine AWP.cond rfl (λhc=>?_) (λhc=>?_)
 ·have h:c<5:=by have:=of_decide_eq_true hc;omega
  obtain⟨s,hs⟩:∃s,5-c=s+1:=⟨4-c,by omega⟩;rw[hs,partialIns_succ]at hfold;obtain⟨i2,hi2⟩:∃i2,scanSorted (AZ cf) u b i=i2:=⟨_,rfl⟩;rw[hi2]at hfold;have hrg:=I7 (AZ cf) u b i;rw[hi2]at hrg
  (repeat (first|refine AWP.skip ?_|refine CR ?_|refine AWP.seq ?_))
  refine AWP.block ?_
  (repeat (first|refine AWP.skip ?_|refine CR ?_|refine AWP.seq ?_))
  refine Bl (λk:Nat=>k=i2) (λk=>⟨[(0,.sl X 0 n),(1,iA a),(2,iA b),(3,.fn f cap),(9,iA k),(10,iA c)],(X,.row 54 3 (u.toList.map (AE false)))::Sf⟩) ?_ ?_
  ·refine AWP.block ?_
   refine BB (λ(k:Nat)=>⟨[(0,.sl X 0 n),(1,iA a),(2,iA b),(3,.fn f cap),(9,iA k),(10,iA c)],(X,.row 54 3 (u.toList.map (AE false)))::Sf⟩) (λk=>i<=k/\k<=b/\scanSorted (AZ cf) u b k=i2) (λk=>b-k) i ⟨Nat.le_refl _,hib,hi2⟩ ?_;rintro k ⟨hk1,hk2,hk⟩;rw[scanSorted]at hk;rcases Bool.eq_false_or_eq_true (decide ((k:Int)<(b:Int)))with g|g
   ·have hg:k<b:=by have:=of_decide_eq_true g;omega
    have h1:=BD (AE false) (d:=u) (i:=k) (by omega);have h2:=BD (AE false) (d:=u) (i:=k-1) (by omega);have hl:=hcf (u[k]!) (u[k-1]!);(repeat refine WF ?_);refine RU ?_;(iterate 11 refine RK ?_);refine RGo.gQ ?_;refine RGo.go (h:=A7 (((k-1:Nat):Int)) (by omega) (by omega) rfl rfl) (k:=?_);refine KR ?_;refine RGo.g_callv ?_;refine RGo.k2 (h:=(hl ..)) (k:=?_);(iterate 3 refine RK ?_);refine RGo.nil (by kernel_rfl) ?_;(repeat refine WF ?_);refine AWP.cond rfl (λhd=>?_) (λhd=>?_)
    ·have hd:(!(AZ cf) u[k]! u[k-1]!)=true:=by simpa[g,AZ]using hd
     rw[if_pos (by rw[Bool.and_eq_true];exact⟨Ah (by omega),hd⟩)]at hk;refine KK ?_;exact Ab (k+1) ⟨by omega,by omega,hk⟩
    ·have hd:(!(AZ cf) u[k]! u[k-1]!)=false:=by simpa[g,AZ]using hd
     rw[if_neg (λe=>by rw[Bool.and_eq_true]at e;have e2:=e.2;rw[hd]at e2;cases e2)]at hk;refine KK ?_;exact jn k hk
   ·have hg:¬k<b:=by have:=of_decide_eq_false g;omega
    rw[if_neg (λe=>by rw[Bool.and_eq_true]at e;have:=of_decide_eq_true e.1;omega)]at hk;(repeat refine WF ?_);refine RU ?_;(iterate 18 refine RK ?_);refine RGo.nil (by kernel_rfl) ?_;(repeat refine WF ?_);refine AA rfl (by simp[g]) ?_;refine KK ?_;exact jn k hk
  rintro k hk0;rw[hk0];clear hk0 k;refine KK ?_;refine AWP.cond rfl (λhd=>?_) (λhd=>?_)
  ·have hd:i2=b:=by have:=of_decide_eq_true hd;omega
   rw[if_pos hd]at hfold;subst hfold;refine KK ?_;refine RT ?_;exact Ends.sp [bA true] [(X,_)] ⟨rfl,rfl⟩
  have hd:¬i2=b:=by have:=of_decide_eq_false hd;omega
  rw[if_neg hd]at hfold
  (iterate 6 refine WK ?_);refine AOps.gN ?_;refine AOps.p (A7 (((b-a:Nat):Int)) (by omega) (by omega) rfl rfl) rfl ?_;refine KK ?_
  refine AWP.cond rfl (λhe=>?_) (λhe=>?_)
  ·have he:b-a<50:=by have:=of_decide_eq_true he;omega
   rw[if_pos he]at hfold;subst hfold;refine KK ?_;refine RT ?_;exact Ends.sp [bA false] [(X,_)] ⟨rfl,rfl⟩
  have he:¬b-a<50:=by have:=of_decide_eq_false he;omega
  rw[if_neg he]at hfold;have h1:=BD (AE false) (d:=u) (i:=i2) (by omega);have h2:=BD (AE false) (d:=u) (i:=i2-1) (by omega);have hrow:=Ck (AE false) (d:=u) (i:=i2) (j:=i2-1) (by omega) (by omega);obtain⟨y,hy⟩:=CM (AE false) (d:=u) (i:=i2) (j:=i2-1) (by omega) u[i2-1]!;have hvs:(swp u i2 (i2-1)).size=d.size:=by rw[size_swp];exact hu
  (repeat refine WF ?_);refine RU ?_;(iterate 4 refine RK ?_);refine RGo.gN ?_;refine RGo.go (h:=A7 (((i2-1:Nat):Int)) (by omega) (by omega) rfl rfl) (k:=?_);refine RK ?_;refine RK ?_;refine RGo.gN ?_;refine RGo.go (h:=A7 (((i2-1:Nat):Int)) (by omega) (by omega) rfl rfl) (k:=?_);(iterate 9 refine RK ?_);refine RGo.gN ?_;refine RGo.s (W.store rfl rfl (by exact At.f) hy (by exact rfl)) rfl ?_;refine RGo.nil (by kernel_rfl) ?_;obtain⟨v,hv⟩:∃v,swp u i2 (i2-1)=v:=⟨_,rfl⟩;rw[hv]at hrow hvs hfold;refine Mw [(0,.sl X 0 n),(1,iA a),(2,iA b),(3,.fn f cap),(9,iA i2),(10,iA c)] ((X,.row 54 3 (v.toList.map (AE false)))::Sf) ?_ (h:=by rw[<-hrow];exact⟨by exact Lk.f,by exact Sub.f⟩)
  (iterate 5 refine WK ?_);refine AOps.gN ?_;refine AOps.p (A7 (((i2-a:Nat):Int)) (by omega) (by omega) rfl rfl) rfl ?_;refine KK ?_
  refine Bl (λw:Array Item=>w.size=d.size/\w=fixDown (AZ cf) a i2 v) (λw=>⟨[(0,.sl X 0 n),(1,iA a),(2,iA b),(3,.fn f cap),(9,iA i2),(10,iA c)],(X,.row 54 3 (w.toList.map (AE false)))::Sf⟩) ?_ ?_
  ·unfold fixDown
   refine AWP.cond rfl (λhf=>?_) (λhf=>?_)
   ·have hf:i2-a>=2:=by have:=of_decide_eq_true hf;omega
    rw[if_pos hf]
    (iterate 3 refine WK ?_);refine AOps.gN ?_;refine AOps.p (A7 (((i2-1:Nat):Int)) (by omega) (by omega) rfl rfl) rfl ?_;refine KK ?_
    refine BV (λ(k:Nat) (w:Array Item)=>⟨[(0,.sl X 0 n),(1,iA a),(2,iA b),(3,.fn f cap),(9,iA i2),(10,iA c),(11,iA k)],(X,.row 54 3 (w.toList.map (AE false)))::Sf⟩) (λk w=>k<b/\w.size=d.size/\shiftDown (AZ cf) k w=shiftDown (AZ cf) (i2-1) v) (λk _=>k) (i2-1) v ⟨by omega,hvs,rfl⟩ ?_;rintro k w ⟨hkb,hw,hk⟩;refine KK ?_;refine AWP.cond rfl (λhg=>?_) (λhg=>?_)
    ·obtain⟨q,rfl⟩:∃q,k=q+1:=⟨k-1,by have:=of_decide_eq_true hg;omega⟩
     rw[shiftDown]at hk;have h1:=BD (AE false) (d:=w) (i:=q+1) (by omega);have h2:=BD (AE false) (d:=w) (i:=q) (by omega);have hl:=hcf (w[q+1]!) (w[q]!);(repeat refine WF ?_);refine RU ?_;(iterate 7 refine RK ?_);refine RGo.gN ?_;refine RGo.go (h:=A7 ((q:Int)) (by omega) (by omega) rfl rfl) (k:=?_);refine KR ?_;refine RGo.g_callv ?_;refine RGo.k2 (h:=(hl ..)) (k:=?_);refine RK ?_;refine RK ?_;refine RGo.nil (by kernel_rfl) ?_;(repeat refine WF ?_);refine AWP.cond rfl (λhd=>?_) (λhd=>?_)
     ·have hd:(!(AZ cf) w[q+1]! w[q]!)=true:=by simpa[AZ]using hd
      rw[if_pos hd]at hk;refine KK ?_;exact jn w ⟨hw,hk⟩
     ·have hd:(!(AZ cf) w[q+1]! w[q]!)=false:=by simpa[AZ]using hd
      rw[if_neg (by rw[hd];simp)]at hk;clear y hy;obtain⟨y,hy⟩:=CM (AE false) (d:=w) (i:=q+1) (j:=q) (by omega) w[q]!;(repeat refine WF ?_);refine RU ?_;(iterate 4 refine RK ?_);refine RGo.gN ?_;refine RGo.go (h:=A7 ((q:Int)) (by omega) (by omega) rfl rfl) (k:=?_);refine RK ?_;refine RK ?_;refine RGo.gN ?_;refine RGo.go (h:=A7 ((q:Int)) (by omega) (by omega) rfl rfl) (k:=?_);(iterate 9 refine RK ?_);refine RGo.gN ?_;refine RGo.s (W.store rfl rfl (by exact At.f) hy (by exact rfl)) rfl ?_;refine RGo.nil (by kernel_rfl) ?_
      (iterate 4 refine WK ?_);refine AOps.gN ?_;refine AOps.p (A7 ((q:Int)) (by omega) (by omega) rfl rfl) rfl ?_;refine KK ?_
      refine A9 q (swp w (q+1) q) ⟨by omega,by rw[size_swp];exact hw,hk⟩ (h0:=by rw[<-Ck (AE false) (by omega) (by omega)];exact⟨by exact Lk.f,by exact Sub.f⟩)
    ·obtain rfl:k=0:=by have:=of_decide_eq_false hg;omega
     rw[shiftDown]at hk;refine KK ?_;exact jn w ⟨hw,hk⟩
   ·have hf:¬i2-a>=2:=by have:=of_decide_eq_false hf;omega
    rw[if_neg hf];refine WK ?_;exact jn v ⟨hvs,rfl⟩
  rintro w ⟨hws,hw0⟩;rw[<-hw0]at hfold;clear hw0 hrow y hy h1 h2
  (iterate 4 refine WK ?_);refine AOps.gN ?_;refine AOps.p (A7 (((b-i2:Nat):Int)) (by omega) (by omega) rfl rfl) rfl ?_;refine KK ?_
  refine Rz (λz:Array Item=>z.size=d.size/\z=fixUp (AZ cf) b i2 w) (λz=>⟨[(0,.sl X 0 n),(1,iA a),(2,iA b),(3,.fn f cap),(9,iA i2),(10,iA c)],(X,.row 54 3 (z.toList.map (AE false)))::Sf⟩) ?_ ?_
  ·unfold fixUp
   refine AWP.cond rfl (λhf=>?_) (λhf=>?_)
   ·have hf:b-i2>=2:=by have:=of_decide_eq_true hf;omega
    rw[if_pos hf]
    (iterate 3 refine WK ?_);refine AOps.gN ?_;refine AOps.p (Bb (((i2+1:Nat):Int)) (by omega) (by omega) rfl rfl) rfl ?_;refine KK ?_
    refine BV (λ(k:Nat) (z:Array Item)=>⟨[(0,.sl X 0 n),(1,iA a),(2,iA b),(3,.fn f cap),(9,iA i2),(10,iA c),(12,iA k)],(X,.row 54 3 (z.toList.map (AE false)))::Sf⟩) (λk z=>i2<k/\k<=b/\z.size=d.size/\shiftUp (AZ cf) b k z=shiftUp (AZ cf) b (i2+1) w) (λk _=>b-k) (i2+1) w ⟨by omega,by omega,hws,rfl⟩ ?_;rintro k z ⟨hik,hkb,hz1,hk⟩;rw[shiftUp]at hk;refine KK ?_;refine AWP.cond rfl (λhg=>?_) (λhg=>?_)
    ·have hg:k<b:=by have:=of_decide_eq_true hg;omega
     rw[if_pos hg]at hk;have h1:=BD (AE false) (d:=z) (i:=k) (by omega);have h2:=BD (AE false) (d:=z) (i:=k-1) (by omega);have hl:=hcf (z[k]!) (z[k-1]!);(repeat refine WF ?_);refine RU ?_;(iterate 7 refine RK ?_);refine RGo.gN ?_;refine RGo.go (h:=A7 (((k-1:Nat):Int)) (by omega) (by omega) rfl rfl) (k:=?_);refine KR ?_;refine RGo.g_callv ?_;refine RGo.k2 (h:=(hl ..)) (k:=?_);refine RK ?_;refine RK ?_;refine RGo.nil (by kernel_rfl) ?_;(repeat refine WF ?_);refine AWP.cond rfl (λhd=>?_) (λhd=>?_)
     ·have hd:(!(AZ cf) z[k]! z[k-1]!)=true:=by simpa[AZ]using hd
      rw[if_pos hd]at hk;refine KK ?_;exact jn z ⟨hz1,hk⟩
     ·have hd:(!(AZ cf) z[k]! z[k-1]!)=false:=by simpa[AZ]using hd
      rw[if_neg (by rw[hd];simp)]at hk;obtain⟨y,hy⟩:=CM (AE false) (d:=z) (i:=k) (j:=k-1) (by omega) z[k-1]!;(repeat refine WF ?_);refine RU ?_;(iterate 4 refine RK ?_);refine RGo.gN ?_;refine RGo.go (h:=A7 (((k-1:Nat):Int)) (by omega) (by omega) rfl rfl) (k:=?_);refine RK ?_;refine RK ?_;refine RGo.gN ?_;refine RGo.go (h:=A7 (((k-1:Nat):Int)) (by omega) (by omega) rfl rfl) (k:=?_);(iterate 9 refine RK ?_);refine RGo.gN ?_;refine RGo.s (W.store rfl rfl (by exact At.f) hy (by exact rfl)) rfl ?_;refine RGo.nil (by kernel_rfl) ?_;refine KK ?_;refine A9 (k+1) (swp z k (k-1)) ⟨by omega,by omega,by rw[size_swp];exact hz1,hk⟩ (h0:=by rw[<-Ck (AE false) (by omega) (by omega)];exact⟨by exact Lk.f,by exact Sub.f⟩)
    ·have hg:¬k<b:=by have:=of_decide_eq_false hg;omega
     rw[if_neg hg]at hk;refine KK ?_;exact jn z ⟨hz1,hk⟩
   ·have hf:¬b-i2>=2:=by have:=of_decide_eq_false hf;omega
    rw[if_neg hf];refine WK ?_;exact jn w ⟨hws,rfl⟩
  rintro z ⟨hzs,hz0⟩;rw[<-hz0]at hfold;refine KK ?_;refine CK (c+1) i2 z ⟨by omega,by omega,by omega,hzs,by rw[show 5-(c+1)=s by omega];exact hfold⟩
 ·have h:c=5:=by have:=of_decide_eq_false hc;omega
  subst h;rw[show 5-5=0 from rfl,partialIns]at hfold;subst hfold;refine KK ?_;refine RT ?_;exact Ends.sp [bA false] [(X,_)] ⟨rfl,rfl⟩
end
section
open Go.Sort
theorem Ux{f:FuncId}{cap:List AV}(X n:Nat)(d:Array Item)(a b:Nat)(hn:n=d.size)(hab:a<=b)(hb:b<=d.size)(hz:d.size<65536):Spec Tryz.prog 241 [.sl X 0 n,iA a,iA b,.fn f cap] [(X,.row 54 3 (d.toList.map (AE false)))] λr S'=>∃u:Array Item,PermIn a b d u/\r= .tup []/\S'=[(X,.row 54 3 (u.toList.map (AE false)))]:=by
 obtain⟨l,hl⟩:∃l,b-a=l:=⟨_,rfl⟩;refine Sp (nt:=67) (res:=[]) Tryz.func241 λSf=>?_
 (iterate 4 refine WK ?_);refine AOps.gN ?_;refine AOps.p (A7 ((l:Int)) (by omega) (by omega) rfl rfl) rfl ?_;refine KK ?_
 refine AWP.cond rfl (λh8=>?_) (λh8=>?_)
 ·have h8:8<=l:=by have:=of_decide_eq_true h8;omega
  have hnp:=O7 l (by omega);have hbl:bitsLen l<=16:=(bitsLen_le_iff l 16).2 (by omega);have hm2:=two_pow_bitsLen_le (n:=l) (by omega);obtain⟨m,hm⟩:∃m,(1:UInt64)<<<UInt64.ofNat (bitsLen l)=m:=⟨_,rfl⟩
  have hmn:m.toNat=2^bitsLen l:=by
   have:2^bitsLen l<=2^16:=Nat.pow_le_pow_right (by decide) hbl;rw[<-hm,UInt64.toNat_shiftLeft,UInt64.toNat_ofNat',show bitsLen l%2^64%64=bitsLen l by omega,Nat.shiftLeft_eq,show(1:UInt64).toNat=1 from rfl];omega
  rw[hm]at hnp;have hp1:1<=2^bitsLen l:=Nat.one_le_two_pow;(repeat first|(refine AOps.gN ?_;first|(refine AOps.g_callf ?_;first|refine AOps.c1 (h:=(hnp ..)) (k:=?_))|refine AOps.p (FQ .i64 l rfl (by omega) (by kernel_rfl) (by kernel_rfl) rfl) rfl ?_|refine AOps.p (Kq l 4 (l/4) rfl rfl (by omega) rfl (by omega) rfl rfl) rfl ?_|refine AOps.p (Ii ((l/4*2:Nat):Int) (by omega) (by omega) rfl rfl) rfl ?_|refine AOps.p (Bb (((a+l/4*2:Nat):Int)) (by omega) (by omega) rfl rfl) rfl ?_|refine AOps.p (A7 (((a+l/4*2-1:Nat):Int)) (by omega) (by omega) rfl rfl) rfl ?_)|refine WK ?_|refine Ai λV=>?_|refine Ay λY=>?_);refine DZ (λ(k:Nat) (s:UInt64) (u:Array Item)=>⟨[(0,.sl X 0 n),(1,iA a),(3,.fn f cap),(8,iA l),(9,.ptr V 0 0),(10,uA m),(11,iA k)],(V,.row 282 1 [uA s])::(X,.row 54 3 (u.toList.map (AE false)))::Sf⟩) (λk s u=>a<=k/\k<=a+l/4*2+2/\PermIn a b d u) (λk _ _=>a+l/4*2+2-k) (a+l/4*2-1) (UInt64.ofNat l) d ⟨by omega,by omega,permIn_refl _ _ _⟩ ?_;rintro k s u ⟨hak,hkl,hP⟩;have hu:u.size=d.size:=hP.1;(repeat first|(refine AOps.gN ?_;first|refine AOps.p (Kq l 4 (l/4) rfl rfl (by omega) rfl (by omega) rfl rfl) rfl ?_|refine AOps.p (Ii ((l/4*2:Nat):Int) (by omega) (by omega) rfl rfl) rfl ?_|refine AOps.p (Bb (((a+l/4*2:Nat):Int)) (by omega) (by omega) rfl rfl) rfl ?_|refine AOps.p (Bb (((a+l/4*2+1:Nat):Int)) (by omega) (by omega) rfl rfl) rfl ?_)|refine WK ?_|refine Ai λX=>?_|refine Ay λY=>?_);refine AWP.cond rfl (λhc=>?_) (λhc=>?_)
  ·have hk1:k<=a+l/4*2+1:=by have:=of_decide_eq_true hc;omega
   have hkb:k<b:=by omega
   refine AWP.skip ?_;refine CR ?_;refine AWP.seq ?_;refine AWP.block ?_;refine AWP.seq ?_;refine RG ?_;refine AOps.g_callf ?_;refine T7 (h:=OZ V s) (k:=λv _=>?_);refine WO ?_
   have hvb:(v&&&(m-1)).toNat<2*l:=by
    rw[UInt64.toNat_and,UInt64.toNat_sub_of_le _ _ (by rw[UInt64.le_iff_toNat_le,hmn];exact hp1),hmn];have:=Nat.and_le_right (n:=v.toNat) (m:=2^bitsLen l-(1:UInt64).toNat);have e:(1:UInt64).toNat=1:=rfl;omega
   refine AOps.gN ?_;refine AOps.p (F9 (b:=1) rfl rfl) rfl ?_;refine AOps.gN ?_;refine AOps.p (Ij rfl rfl) rfl ?_;refine AOps.gN ?_;refine AOps.p (Pn .u64 (by omega) (by kernel_rfl) (by kernel_rfl) rfl) rfl ?_;refine WO ?_;refine AOps.nil ?_
   (repeat (first|refine AWP.skip ?_|refine CR ?_|refine AWP.seq ?_))
   obtain⟨o,ho⟩:∃o,(v&&&(m-1)).toNat=o:=⟨_,rfl⟩;refine Mw [(0,.sl X 0 n),(1,iA a),(3,.fn f cap),(8,iA l),(9,.ptr V 0 0),(10,uA m),(11,iA k),(12,iA o)] ((V,.row 282 1 [uA v])::(X,.row 54 3 (u.toList.map (AE false)))::Sf) ?_ (h:=by rw[<-ho];exact⟨by exact Lk.f,by exact Sub.f⟩);rw[ho]at hvb;refine KK ?_;refine Bl (λo:Nat=>o<l) (λo=>⟨[(0,.sl X 0 n),(1,iA a),(3,.fn f cap),(8,iA l),(9,.ptr V 0 0),(10,uA m),(11,iA k),(12,iA o)],(V,.row 282 1 [uA v])::(X,.row 54 3 (u.toList.map (AE false)))::Sf⟩) ?_ ?_
   ·refine AWP.cond rfl (λhd=>?_) (λhd=>?_)
    ·have hd:l<=o:=by have:=of_decide_eq_true hd;omega
     (iterate 3 refine WK ?_);refine AOps.gN ?_;refine AOps.p (A7 (((o-l:Nat):Int)) (by omega) (by omega) rfl rfl) rfl ?_;refine KK ?_
     exact jn (o-l) (by omega)
    ·have hd:¬l<=o:=by have:=of_decide_eq_false hd;omega
     refine WK ?_;exact jn o (by omega)
   rintro o hol;have h1:=BD (AE false) (d:=u) (i:=k) (by omega);have h2:=BD (AE false) (d:=u) (i:=a+o) (by omega);obtain⟨y,hy⟩:=CM (AE false) (d:=u) (i:=k) (j:=a+o) (by omega) u[a+o]!;(repeat refine WF ?_);refine RU ?_;(iterate 5 refine RK ?_);refine RGo.gN ?_;refine RGo.go (h:=Bb (((a+o:Nat):Int)) (by omega) (by omega) rfl rfl) (k:=?_);(iterate 3 refine RK ?_);refine RGo.gN ?_;refine RGo.go (h:=Bb (((a+o:Nat):Int)) (by omega) (by omega) rfl rfl) (k:=?_);(iterate 9 refine RK ?_);refine RGo.gN ?_;refine RGo.s (W.store rfl rfl (by exact At.f) hy (by exact rfl)) rfl ?_;refine RGo.nil (by kernel_rfl) ?_;refine KK ?_;refine CK (k+1) v (swp u k (a+o)) ⟨by omega,by omega,permIn_trans _ _ _ _ _ hP (swp_permIn _ _ _ _ _ (by omega) (by omega) (by omega) (by omega) (by omega))⟩ (h0:=by rw[<-Ck (AE false) (by omega) (by omega)];exact⟨by exact Lk.f,by exact Sub.f⟩)
  ·refine KK ?_
   refine C6 ?_;exact BM [(X,.row 54 3 (u.toList.map (AE false)))] ⟨u,hP,rfl,rfl⟩
 ·refine WK ?_
  refine C6 ?_;exact BM [(X,.row 54 3 (d.toList.map (AE false)))] ⟨d,permIn_refl _ _ _,rfl,rfl⟩
end
section
open Go.Sort
theorem HN(f:FuncId)(cap:List AV)(cf:Item->Item->Int)(hst:B4 cap=true)(hcf:∀x y,PS Tryz.prog f ((AE false) x::(AE false) y::cap) (iA (cf x y)))(X Y n:Nat)(d:Array Item)(a b s:Nat)(hn:n=d.size)(ha:a<d.size)(hb:b<d.size)(hs:s<=1099511627776):Spec Tryz.prog 269 [.sl X 0 n,iA a,iA b,.ptr Y 0 0,.fn f cap] [(X,.row 54 3 (d.toList.map (AE false))),(Y,.row 3 1 [iA s])] λr S'=>r= .tup [iA (order2 (AZ cf) d a b s).1,iA (order2 (AZ cf) d a b s).2.1]/\S'=[(X,.row 54 3 (d.toList.map (AE false))),(Y,.row 3 1 [iA (order2 (AZ cf) d a b s).2.2])]:=by
 subst hn;have h1:=BD (AE false) ha;have h2:=BD (AE false) hb;have hl:=hcf (d[b]!) (d[a]!);refine Sp (nt:=32) (res:=[.tmp 10,.tmp 11]) Tryz.func269 λSf=>?_
 unfold order2;refine R1 ?_;refine RU ?_;refine KR ?_;refine RGo.g_callv ?_;refine RGo.k2 (h:=(hl ..)) (k:=?_);refine RK ?_;refine RGo.nil (by kernel_rfl) ?_;(repeat refine WF ?_);refine AWP.cond rfl (λhc=>?_) (λhc=>?_)
 ·have hc:(AZ cf) d[b]! d[a]! =true:=by simpa[AZ]using hc
  rw[if_pos hc];refine KK ?_;refine RT ?_;exact Ends.sp [iA b,iA a] [(X,_),(Y,_)] ⟨rfl,rfl⟩
 ·have hc:(AZ cf) d[b]! d[a]! =false:=by simpa[AZ]using hc
  rw[if_neg (by simp[hc])];refine KK ?_;refine RT ?_;exact Ends.sp [iA a,iA b] [(X,_),(Y,_)] ⟨rfl,rfl⟩
theorem Js(f:FuncId)(cap:List AV)(cf:Item->Item->Int)(hst:B4 cap=true)(hcf:∀x y,PS Tryz.prog f ((AE false) x::(AE false) y::cap) (iA (cf x y)))(X Y n:Nat)(d:Array Item)(a b c s:Nat)(hn:n=d.size)(ha:a<d.size)(hb:b<d.size)(hc:c<d.size)(hs:s<=1099511627000):Spec Tryz.prog 263 [.sl X 0 n,iA a,iA b,iA c,.ptr Y 0 0,.fn f cap] [(X,.row 54 3 (d.toList.map (AE false))),(Y,.row 3 1 [iA s])] λr S'=>r=iA (median (AZ cf) d a b c s).1/\S'=[(X,.row 54 3 (d.toList.map (AE false))),(Y,.row 3 1 [iA (median (AZ cf) d a b c s).2])]:=by
 obtain⟨m,hm⟩:∃m,median (AZ cf) d a b c s=m:=⟨_,rfl⟩;rw[hm];unfold median at hm;have l1:=IN (AZ cf) d a b s _ ha hb;have e1:=FY (AZ cf) d a b s;have h1:=HN f cap cf hst hcf X Y n d a b s hn ha hb (by omega);obtain⟨⟨a1,b1,s1⟩,hr1⟩:∃r,order2 (AZ cf) d a b s=r:=⟨_,rfl⟩;rw[hr1]at h1 hm l1 e1;dsimp only at h1 hm l1 e1;have l2:=IN (AZ cf) d b1 c s1 _ l1.2 hc;have e2:=FY (AZ cf) d b1 c s1;have h2:=HN f cap cf hst hcf X Y n d b1 c s1 hn l1.2 hc (by omega);obtain⟨⟨b2,c2,s2⟩,hr2⟩:∃r,order2 (AZ cf) d b1 c s1=r:=⟨_,rfl⟩;rw[hr2]at h2 hm l2 e2;dsimp only at h2 hm l2 e2;have l3:=IN (AZ cf) d a1 b2 s2 _ l1.1 l2.1;have h3:=HN f cap cf hst hcf X Y n d a1 b2 s2 hn l1.1 l2.1 (by omega);obtain⟨⟨a3,b3,s3⟩,hr3⟩:∃r,order2 (AZ cf) d a1 b2 s2=r:=⟨_,rfl⟩;rw[hr3]at h3 hm l3;dsimp only at h3 hm l3;subst hm;refine Sp (nt:=41) (res:=[.tmp 12]) Tryz.func263 λSf=>?_
 refine KK ?_;refine AOps.g_callf ?_;refine Mx (h:=h1) (hT:=.fz) (k:=?_);refine KK ?_;refine AOps.g_callf ?_;refine Mx (h:=h2) (hT:=.fz) (k:=?_);refine KK ?_;refine AOps.g_callf ?_;refine Mx (h:=h3) (hT:=.fz) (k:=?_);refine KK ?_;refine RT ?_;exact Ends.sp [iA b3] [(X,_),(Y,_)] ⟨rfl,rfl⟩
theorem HP(f:FuncId)(cap:List AV)(cf:Item->Item->Int)(hst:B4 cap=true)(hcf:∀x y,PS Tryz.prog f ((AE false) x::(AE false) y::cap) (iA (cf x y)))(X Y n:Nat)(d:Array Item)(a s:Nat)(hn:n=d.size)(ha:a+1<d.size)(h0:0<a)(hz:d.size<=1099511627776)(hs:s<=1099511627000):Spec Tryz.prog 262 [.sl X 0 n,iA a,.ptr Y 0 0,.fn f cap] [(X,.row 54 3 (d.toList.map (AE false))),(Y,.row 3 1 [iA s])] λr S'=>r=iA (medianAdjacent (AZ cf) d a s).1/\S'=[(X,.row 54 3 (d.toList.map (AE false))),(Y,.row 3 1 [iA (medianAdjacent (AZ cf) d a s).2])]:=by
 have h1:=Js f cap cf hst hcf X Y n d (a-1) a (a+1) s hn (by omega) (by omega) ha hs;unfold medianAdjacent;refine Sp (nt:=18) (res:=[.tmp 8]) Tryz.func262 λSf=>?_
 (iterate 8 refine WK ?_);refine AOps.gN ?_;refine AOps.p (A7 ((a-1:Nat):Int) (by omega) (by omega) rfl rfl) rfl ?_;refine WK ?_;refine WK ?_;refine AOps.gN ?_;refine AOps.p (Bb ((a+1:Nat):Int) (by omega) (by omega) rfl rfl) rfl ?_;refine KK ?_;refine AOps.g_callf ?_;refine QZ (h:=h1) (hT:=.fz) (k:=?_);refine KK ?_
 refine RT ?_;exact Ends.sp [iA _] [(X,_),(Y,_)] ⟨rfl,rfl⟩
theorem JG(f:FuncId)(cap:List AV)(cf:Item->Item->Int)(hst:B4 cap=true)(hcf:∀x y,PS Tryz.prog f ((AE false) x::(AE false) y::cap) (iA (cf x y)))(X n:Nat)(d:Array Item)(a b:Nat)(hn:n=d.size)(hab:a<b)(hb:b<=d.size)(hz:d.size<=1099511627776):PO Tryz.prog 242 [.sl X 0 n,iA a,iA b,.fn f cap] X (.row 54 3 (d.toList.map (AE false))) (.tup [iA (choosePivot (AZ cf) d a b).1,iA (VL (choosePivot (AZ cf) d a b).2)]) (.row 54 3 (d.toList.map (AE false))):=by
 obtain⟨c,hc⟩:∃c,choosePivot (AZ cf) d a b=c:=⟨_,rfl⟩;rw[hc];unfold choosePivot at hc;obtain⟨l,hl⟩:∃l,b-a=l:=⟨_,rfl⟩;obtain⟨i,hi⟩:∃i,a+l/4*1=i:=⟨_,rfl⟩;obtain⟨j,hj⟩:∃i,a+l/4*2=i:=⟨_,rfl⟩;obtain⟨k,hk⟩:∃i,a+l/4*3=i:=⟨_,rfl⟩;rw[hl]at hc;dsimp only at hc;rw[hi,hj,hk]at hc;refine Sp (nt:=63) (res:=[.tmp 8,.tmp 9]) Tryz.func242 λSf=>?_
 have hlb:l<=1099511627776:=by omega
 (repeat first|(refine AOps.gN ?_;first|refine AOps.p (A7 (l:Int) (by omega) (by omega) rfl rfl) rfl ?_|refine AOps.p (Kq l 4 (l/4) rfl rfl (by omega) rfl (by omega) rfl rfl) rfl ?_|refine AOps.p (Ii ((l/4*1:Nat):Int) (by omega) (by omega) rfl rfl) rfl ?_|refine AOps.p (Ii ((l/4*2:Nat):Int) (by omega) (by omega) rfl rfl) rfl ?_|refine AOps.p (Ii ((l/4*3:Nat):Int) (by omega) (by omega) rfl rfl) rfl ?_|refine AOps.p (Bb (i:Int) (by omega) (by omega) rfl rfl) rfl ?_|refine AOps.p (Bb (j:Int) (by omega) (by omega) rfl rfl) rfl ?_|refine AOps.p (Bb (k:Int) (by omega) (by omega) rfl rfl) rfl ?_)|refine WK ?_|refine Ai λV=>?_|refine Ay λY=>?_);refine Bl (λb:Nat×Nat=>c=(b.1,if b.2=0 then Hint.increasing else if b.2=12 then Hint.decreasing else Hint.unknown)) (λb=>⟨[(0,.sl X 0 n),(3,.fn f cap),(11,.ptr V 0 0),(13,iA b.1)],(V,.row 3 1 [iA b.2])::(X,.row 54 3 (d.toList.map (AE false)))::Sf⟩) ?_ ?_
 ·refine AWP.cond rfl (λh8=>?_) (λh8=>?_)
  ·have h8:l>=8:=by have:=of_decide_eq_true h8;omega
   rw[if_pos h8]at hc;refine KK ?_;refine Bl (λb:Nat×Nat×Nat×Nat=>b.1<d.size/\b.2.1<d.size/\b.2.2.1<d.size/\b.2.2.2<=100/\(if l>=50 then median (AZ cf) d (medianAdjacent (AZ cf) d i 0).1 (medianAdjacent (AZ cf) d j (medianAdjacent (AZ cf) d i 0).2).1 (medianAdjacent (AZ cf) d k (medianAdjacent (AZ cf) d j (medianAdjacent (AZ cf) d i 0).2).2).1 (medianAdjacent (AZ cf) d k (medianAdjacent (AZ cf) d j (medianAdjacent (AZ cf) d i 0).2).2).2 else median (AZ cf) d i j k 0)=median (AZ cf) d b.1 b.2.1 b.2.2.1 b.2.2.2) (λb=>⟨[(0,.sl X 0 n),(3,.fn f cap),(11,.ptr V 0 0),(12,iA b.1),(13,iA b.2.1),(14,iA b.2.2.1)],(V,.row 3 1 [iA b.2.2.2])::(X,.row 54 3 (d.toList.map (AE false)))::Sf⟩) ?_ ?_
   ·refine AWP.cond rfl (λh50=>?_) (λh50=>?_)
    ·have h50:l>=50:=by have:=of_decide_eq_true h50;omega
     have a1:=IQ (AZ cf) d i 0 _ (show i+1<d.size by omega);have b1:=IP (AZ cf) d (i-1) i (i+1) 0;have s1:=HP f cap cf hst hcf X V n d i 0 hn (by omega) (by omega) hz (by omega);rw[if_pos h50];have e1:(median (AZ cf) d (i-1) i (i+1) 0).2=(medianAdjacent (AZ cf) d i 0).2:=rfl;rw[e1]at b1;obtain⟨⟨p1,q1⟩,r1⟩:∃r,medianAdjacent (AZ cf) d i 0=r:=⟨_,rfl⟩;rw[r1]at a1 b1 s1⊢;dsimp only at a1 b1 s1⊢;have a2:=IQ (AZ cf) d j q1 _ (show j+1<d.size by omega);have b2:=IP (AZ cf) d (j-1) j (j+1) q1;have s2:=HP f cap cf hst hcf X V n d j q1 hn (by omega) (by omega) hz (by omega);have e2:(median (AZ cf) d (j-1) j (j+1) q1).2=(medianAdjacent (AZ cf) d j q1).2:=rfl;rw[e2]at b2;obtain⟨⟨p2,q2⟩,r2⟩:∃r,medianAdjacent (AZ cf) d j q1=r:=⟨_,rfl⟩;rw[r2]at a2 b2 s2⊢;dsimp only at a2 b2 s2⊢;have a3:=IQ (AZ cf) d k q2 _ (show k+1<d.size by omega);have b3:=IP (AZ cf) d (k-1) k (k+1) q2;have s3:=HP f cap cf hst hcf X V n d k q2 hn (by omega) (by omega) hz (by omega);have e3:(median (AZ cf) d (k-1) k (k+1) q2).2=(medianAdjacent (AZ cf) d k q2).2:=rfl;rw[e3]at b3;obtain⟨⟨p3,q3⟩,r3⟩:∃r,medianAdjacent (AZ cf) d k q2=r:=⟨_,rfl⟩;rw[r3]at a3 b3 s3⊢;dsimp only at a3 b3 s3⊢;refine KK ?_;refine AOps.g_callf ?_;refine My (h:=s1) (hT:=.fz) (k:=?_);refine KK ?_;refine AOps.g_callf ?_;refine My (h:=s2) (hT:=.fz) (k:=?_);refine KK ?_;refine AOps.g_callf ?_;refine My (h:=s3) (hT:=.fz) (k:=?_);refine KK ?_;refine jn (p1,p2,p3,q3) ⟨a1,a2,a3,by dsimp only;omega,rfl⟩
    ·have h50:¬l>=50:=by have:=of_decide_eq_false h50;omega
     rw[if_neg h50];refine WK ?_;refine jn (i,j,k,0) ⟨by dsimp only;omega,by dsimp only;omega,by dsimp only;omega,by dsimp only;omega,rfl⟩
   ·rintro⟨p1,p2,p3,q⟩ ⟨l1,l2,l3,lq,e⟩
    dsimp only at l1 l2 l3 lq e⊢;rw[e]at hc;have h1:=Js f cap cf hst hcf X V n d p1 p2 p3 q hn l1 l2 l3 (by omega);obtain⟨⟨r1,r2⟩,hr⟩:∃r,median (AZ cf) d p1 p2 p3 q=r:=⟨_,rfl⟩;rw[hr]at hc h1;dsimp only at h1;refine KK ?_;refine AOps.g_callf ?_;refine QZ (h:=h1) (hT:=.fz) (k:=?_);refine KK ?_;refine jn (r1,r2) hc.symm
  ·have h8:¬l>=8:=by have:=of_decide_eq_false h8;omega
   rw[if_neg h8]at hc;refine WK ?_;refine jn (j,0) hc.symm
 ·rintro⟨p,s⟩ hc
  dsimp only at hc⊢;subst hc;refine KK ?_;refine AWP.cond rfl (λh0=>?_) (λh0=>?_)
  ·have h0:s=0:=by have:=of_decide_eq_true h0;omega
   rw[if_pos h0];refine KK ?_;refine RT ?_;exact Ends.sp [iA p,iA 1] [(X,_)] ⟨rfl,rfl⟩
  ·have h0:¬s=0:=by have:=of_decide_eq_false h0;omega
   rw[if_neg h0];refine KK ?_;refine AWP.cond rfl (λh1=>?_) (λh1=>?_)
   ·have h1:s=12:=by have:=of_decide_eq_true h1;omega
    rw[if_pos h1];refine KK ?_;refine RT ?_;exact Ends.sp [iA p,iA 2] [(X,_)] ⟨rfl,rfl⟩
   ·have h1:¬s=12:=by have:=of_decide_eq_false h1;omega
    rw[if_neg h1];refine KK ?_;refine RT ?_;exact Ends.sp [iA p,iA 0] [(X,_)] ⟨rfl,rfl⟩
end
section
open Go.Sort
theorem UT(f:FuncId)(cap:List AV)(cf:Item->Item->Int)(hst:B4 cap=true)(hcf:∀x y,PS Tryz.prog f ((AE false) x::(AE false) y::cap) (iA (cf x y)))(hS:SWO (AZ cf)):∀(m X n:Nat) (d:Array Item) (a b limit:Nat),b-a<=m->n=d.size->a<=b->b<=d.size->d.size<65536->limit<=1000->Below (AZ cf) a b d->Spec Tryz.prog 223 [.sl X 0 n,iA a,iA b,iA limit,.fn f cap] [(X,.row 54 3 (d.toList.map (AE false)))] λr S'=>∃u:Array Item,(PermIn a b d u/\SortedIn (AZ cf) a b u)/\r= .tup []/\S'=[(X,.row 54 3 (u.toList.map (AE false)))]:=by
 intro m
 induction m using Nat.strongRecOn with
 |_ m ih=>
 intro X n d a b limit hm hn hab hb hz hlim hB;refine Sp (nt:=148) (res:=[]) Tryz.func223 λSf=>?_
 refine KK ?_;refine U9 (λ(a b limit:Nat) (wb wp:Bool) (u:Array Item)=>⟨[(0,.sl X 0 n),(1,iA a),(2,iA b),(3,iA limit),(4,.fn f cap),(10,bA wb),(11,bA wp)],(X,.row 54 3 (u.toList.map (AE false)))::Sf⟩) (λa' b' limit wb wp u=>a' <=b' /\b' <=d.size/\b'-a' <=b-a/\limit<=1000/\u.size=d.size/\Below (AZ cf) a' b' u/\∀R,PermIn a' b' u R->SortedIn (AZ cf) a' b' R->PermIn a b d R/\SortedIn (AZ cf) a b R) (λa b _ _ _ _=>b-a) a b limit true true d ⟨hab,hb,Nat.le_refl _,hlim,rfl,hB,λR h1 h2=>⟨h1,h2⟩⟩ ?_;rintro a' b' limit wb wp u ⟨hab',hb',hmm,hlim,hu,hB',hG⟩;obtain⟨l,hl⟩:∃l,b'-a'=l:=⟨_,rfl⟩;refine AWP.block ?_
 (iterate 4 refine WK ?_);refine AOps.gN ?_;refine AOps.p (A7 ((l:Int)) (by omega) (by omega) rfl rfl) rfl ?_;refine KK ?_
 refine AWP.cond rfl (λhc=>?_) (λhc=>?_)
 ·have hs:=Ug f cap cf hst hcf X n u a' b' (by omega) hab' (by omega) (by omega)
  obtain⟨p1,p2⟩:=insertionSort_holds (lt:=(AZ cf)) hS u a' b' hab' (by omega);refine KK ?_;refine AOps.g_callf ?_;refine AOps.o4 (h:=(hs ..)) (k:=?_);refine KK ?_;refine RT ?_;exact BM [(X,_)] ⟨_,hG _ p1 p2,rfl,rfl⟩
 have hl12:12<l:=by have:=of_decide_eq_false hc;omega
 refine KK ?_;refine AWP.cond rfl (λhc=>?_) (λhc=>?_)
 ·have hs:=Sz f cap cf hst hcf X n u a' b' (by omega) (by omega) (by omega) (by omega)
  obtain⟨p1,p2⟩:=heapSort_holds (lt:=(AZ cf)) hS u a' b' hab' (by omega);refine KK ?_;refine AOps.g_callf ?_;refine AOps.o4 (h:=(hs ..)) (k:=?_);refine KK ?_;refine RT ?_;exact BM [(X,_)] ⟨_,hG _ p1 p2,rfl,rfl⟩
 have hl0:0<limit:=by have:=of_decide_eq_false hc;omega
 refine KK ?_;refine Bl (λb:Nat×Array Item=>b.1<=1000/\PermIn a' b' u b.2) (λb=>⟨[(0,.sl X 0 n),(1,iA a'),(2,iA b'),(3,iA b.1),(4,.fn f cap),(10,bA wb),(11,bA wp),(12,iA l)],(X,.row 54 3 (b.2.toList.map (AE false)))::Sf⟩) ?_ ?_
 ·refine AWP.cond rfl (λhd=>?_) (λhd=>?_)
  ·have hs:=Ux (f:=f) (cap:=cap) X n u a' b' (by omega) hab' (by omega) (by omega)
   refine KK ?_;refine AOps.g_callf ?_;refine T5 (h:=hs) (k:=λv hv=>?_);(iterate 4 refine WK ?_);refine AOps.gN ?_;refine AOps.p (A7 (((limit-1:Nat):Int)) (by omega) (by omega) rfl rfl) rfl ?_;refine KK ?_;exact jn (limit-1,v) ⟨by dsimp only;omega,hv⟩
  ·refine WK ?_
   exact jn (limit,u) ⟨hlim,permIn_refl _ _ _⟩
 rintro⟨lim1,u1⟩ ⟨hlim1,hP1⟩;dsimp only at hlim1 hP1⊢;have hu1:u1.size=d.size:=hP1.1.trans hu;have hpv:=JG f cap cf hst hcf X n u1 a' b' (by omega) (by omega) (by omega) (by omega);obtain⟨c1,c2⟩:=choosePivot_holds (AZ cf) u1 a' b' (by omega);obtain⟨⟨p,h⟩,hp⟩:∃c,choosePivot (AZ cf) u1 a' b'=c:=⟨_,rfl⟩;rw[hp]at hpv c1 c2;dsimp only at hpv c1 c2;obtain⟨hnum,hhn⟩:∃hnum,VL h=hnum:=⟨_,rfl⟩;rw[hhn]at hpv;refine KK ?_;refine AOps.g_callf ?_;refine AOps.o4 (h:=(hpv ..)) (k:=?_);refine KK ?_;refine Bl (λb:Nat×Int×Array Item=>a' <=b.1/\b.1<b' /\PermIn a' b' u b.2.2) (λb=>⟨[(0,.sl X 0 n),(1,iA a'),(2,iA b'),(3,iA lim1),(4,.fn f cap),(10,bA wb),(11,bA wp),(12,iA l),(13,iA b.1),(14,iA b.2.1)],(X,.row 54 3 (b.2.2.toList.map (AE false)))::Sf⟩) ?_ ?_
 ·refine AWP.cond rfl (λhd=>?_) (λhd=>?_)
  ·have hs:=UM (f:=f) (cap:=cap) X n u1 a' b' (by omega) (by omega) (by omega) (by omega)
   have hrp:=reverseRange_holds u1 a' b' hab' (by omega);(repeat first|(refine AOps.gN ?_;first|(refine AOps.g_callf ?_;first|refine AOps.o4 (h:=(hs ..)) (k:=?_))|refine AOps.p (A7 (((b'-1:Nat):Int)) (by omega) (by omega) rfl rfl) rfl ?_|refine AOps.p (A7 (((p-a':Nat):Int)) (by omega) (by omega) rfl rfl) rfl ?_|refine AOps.p (A7 (((b'-1-(p-a'):Nat):Int)) (by omega) (by omega) rfl rfl) rfl ?_)|refine WK ?_|refine Ai λX=>?_|refine Ay λY=>?_);exact jn (b'-1-(p-a'),1,_) ⟨by dsimp only;omega,by dsimp only;omega,permIn_trans _ _ _ _ _ hP1 hrp⟩
  ·refine WK ?_
   exact jn (p,hnum,u1) ⟨c1,c2,hP1⟩
 rintro⟨pv,hn2,u2⟩ ⟨c3,c4,hP2⟩;dsimp only at c3 c4 hP2⊢;have hu2:u2.size=d.size:=hP2.1.trans hu;have hB2:=hB'.perm (by omega) hP2;clear hpv hp hhn c1 c2 p h hnum;refine AWP.seq ?_;refine Im (λv:Array Item=>PermIn a' b' u v) (λv=>⟨[(0,.sl X 0 n),(1,iA a'),(2,iA b'),(3,iA lim1),(4,.fn f cap),(10,bA wb),(11,bA wp),(12,iA l),(13,iA pv)],(X,.row 54 3 (v.toList.map (AE false)))::Sf⟩) ?_ ?_
 ·refine KK ?_
  refine AWP.cond rfl (λ_=>?_) (λ_=>?_)
  ·have hs:=SP f cap cf hst hcf X n u2 a' b' (by omega) (by omega) (by omega) (by omega)
   have hpi:=partialInsertionSort_holds (lt:=(AZ cf)) hS u2 a' b' (by omega) (by omega) hB2;obtain⟨⟨v,fl⟩,hv⟩:∃v,partialInsertionSort (AZ cf) u2 a' b'=v:=⟨_,rfl⟩;rw[hv]at hs hpi;dsimp only at hs hpi;refine KK ?_;refine AOps.g_callf ?_;refine AOps.o4 (h:=(hs ..)) (k:=?_);refine KK ?_;refine AWP.cond rfl (λhe=>?_) (λhe=>?_)
   ·refine RT ?_
    exact BM [(X,_)] ⟨v,hG v (permIn_trans _ _ _ _ _ hP2 hpi.1) (hpi.2 he),rfl,rfl⟩
   ·refine KK ?_
    exact jnR v (permIn_trans _ _ _ _ _ hP2 hpi.1)
  ·refine KK ?_
   exact jnR u2 hP2
 rintro u3 hP3;have hu3:u3.size=d.size:=hP3.1.trans hu;have hB3:=hB'.perm (by omega) hP3;have hg3:∀R,PermIn a' b' u3 R->SortedIn (AZ cf) a' b' R->PermIn a b d R/\SortedIn (AZ cf) a b R:=λR h1 h2=>hG R (permIn_trans _ _ _ _ _ hP3 h1) h2
 clear hB2 hP2 hu2 u2 hP1 hu1 u1 hG hB' hn2;refine AWP.seq ?_;refine Im (λ_:Unit=>True) (λ_=>⟨[(0,.sl X 0 n),(1,iA a'),(2,iA b'),(3,iA lim1),(4,.fn f cap),(10,bA wb),(11,bA wp),(12,iA l),(13,iA pv)],(X,.row 54 3 (u3.toList.map (AE false)))::Sf⟩) ?_ ?_
 ·rcases Bool.eq_false_or_eq_true (decide ((0:Int)<(a':Int)))with g|g
  ·have hg:0<a':=by have:=of_decide_eq_true g;omega
   have h1:=BD (AE false) (d:=u3) (i:=a'-1) (by omega);have h2:=BD (AE false) (d:=u3) (i:=pv) (by omega);have hl2:=hcf (u3[a'-1]!) (u3[pv]!);(repeat refine WF ?_);refine RU ?_;(iterate 6 refine RK ?_);refine RGo.gQ ?_;refine RGo.go (h:=A7 (((a'-1:Nat):Int)) (by omega) (by omega) rfl rfl) (k:=?_);refine KR ?_;refine RGo.g_callv ?_;refine RGo.k2 (h:=(hl2 ..)) (k:=?_);(iterate 3 refine RK ?_);refine RGo.nil (by kernel_rfl) ?_;(repeat refine WF ?_);refine AWP.cond rfl (λhd=>?_) (λhd=>?_)
   ·have hd:(!(AZ cf) u3[a'-1]! u3[pv]!)=true:=by simpa[g,AZ]using hd
    have hd:(AZ cf) u3[a'-1]! u3[pv]! =false:=by simpa[AZ]using hd
    have hs:=US f cap cf hst hcf X n u3 a' b' pv (by omega) c3 c4 (by omega) (by omega);obtain⟨⟨mid,d4⟩,hx⟩:∃x,partitionEqual (AZ cf) u3 a' b' pv=x:=⟨_,rfl⟩;rw[hx]at hs;dsimp only at hs;obtain⟨q1,q2,q3,q4,q5⟩:=round_eq (lt:=(AZ cf)) hS (partitionEqual_holds (AZ cf)) hg c3 c4 (by omega) hB3 hd hx;refine KK ?_;refine AOps.g_callf ?_;refine ID (h:=(hs ..)) (k:=?_);refine KK ?_;refine Ju mid b' lim1 wb wp d4 ⟨q2,hb',by omega,hlim1,q3.trans hu3,q4,λR k1 k2=>?_⟩;obtain⟨k3,k4⟩:=q5 R k1 k2;exact hg3 R k3 k4
   ·refine KK ?_
    exact jnR () trivial
  ·(repeat refine WF ?_)
   refine RU ?_;(iterate 17 refine RK ?_);refine RGo.nil (by kernel_rfl) ?_;(repeat refine WF ?_);refine AA rfl (by simp[g]) ?_;refine KK ?_;exact jnR () trivial
 rintro _ _;have hs:=SS f cap cf hst hcf X n u3 a' b' pv (by omega) c3 c4 (by omega) (by omega);obtain⟨⟨mid,ap,d4⟩,hx⟩:∃x,partition (AZ cf) u3 a' b' pv=x:=⟨_,rfl⟩;rw[hx]at hs;dsimp only at hs;obtain⟨r1,r2,r3,r4,r5,r6,r7⟩:=round_part (lt:=(AZ cf)) hS (partition_holds (AZ cf)) c3 c4 (by omega) hB3 hx;(repeat first|(refine AOps.gN ?_;first|(refine AOps.g_callf ?_;first|refine ID (h:=(hs ..)) (k:=?_))|refine AOps.p (A7 (((mid-a':Nat):Int)) (by omega) (by omega) rfl rfl) rfl ?_|refine AOps.p (A7 (((b'-mid:Nat):Int)) (by omega) (by omega) rfl rfl) rfl ?_|refine AOps.p (Kq l 8 (l/8) rfl rfl (by omega) rfl (by omega) rfl rfl) rfl ?_)|refine WK ?_|refine Ai λX=>?_|refine Ay λY=>?_);refine AWP.cond rfl (λhd=>?_) (λhd=>?_)
 ·have hrec:=ih (mid-a') (by omega) X n d4 a' mid lim1 (Nat.le_refl _) (by omega) r1 (by omega) (by omega) hlim1 r4
  refine KK ?_;refine AOps.g_callf ?_;refine OY (h:=hrec) (k:=λv hv=>?_);(iterate 4 refine WK ?_);refine AOps.gN ?_;refine AOps.p (Bb (((mid+1:Nat):Int)) (by omega) (by omega) rfl rfl) rfl ?_;refine KK ?_;obtain⟨v1,v2⟩:=hv;obtain⟨s1,s2⟩:=r6 v v1 v2;refine Ju (mid+1) b' lim1 _ ap v ⟨by omega,hb',by omega,hlim1,v1.1.trans (r3.trans hu3),s1,λR k1 k2=>?_⟩;obtain⟨k3,k4⟩:=s2 R k1 k2;exact hg3 R k3 k4
 ·have hrec:=ih (b'-(mid+1)) (by omega) X n d4 (mid+1) b' lim1 (Nat.le_refl _) (by omega) (by omega) (by omega) (by omega) hlim1 r5
  (iterate 11 refine WK ?_);refine AOps.gN ?_;refine AOps.p (Bb (((mid+1:Nat):Int)) (by omega) (by omega) rfl rfl) rfl ?_;refine KK ?_;refine AOps.g_callf ?_;refine OY (h:=hrec) (k:=λv hv=>?_);refine KK ?_
  obtain⟨v1,v2⟩:=hv;obtain⟨s1,s2⟩:=r7 v v1 v2;refine Ju a' mid lim1 _ ap v ⟨by omega,by omega,by omega,hlim1,v1.1.trans (r3.trans hu3),s1,λR k1 k2=>?_⟩;obtain⟨k3,k4⟩:=s2 R k1 k2;exact hg3 R k3 k4
end
section
open Go.Sort
theorem ML(f:FuncId)(cap:List AV)(cf:Item->Item->Int)(hst:B4 cap=true)(hS:SWO (AZ cf))(hf:∀x y,PS Tryz.prog f (AE false x::AE false y::cap) (iA (cf x y)))(X n:Nat)(l:List Item)(hn:n=l.length)(hlt:l.length<65536):
  Spec Tryz.prog 178 [.sl X 0 n,.fn f cap] [(X,.row 54 3 (l.map (AE false)))] λr S'=>∃u:List Item,(u.Perm l/\u.Pairwise λa b=>AZ cf b a=false)/\r= .tup []/\S'=[(X,.row 54 3 (u.map (AE false)))]:=by
 have e1:(UInt64.ofNat n).toNat=n:=by rw[UInt64.toNat_ofNat'];omega
 have hlen:=PC (UInt64.ofNat n) (by rw[e1];omega);rw[e1]at hlen;have hsz:l.toArray.size=l.length:=by simp
 have hb:bitsLen n<=1000:=Nat.le_trans ((bitsLen_le_iff n 16).2 (by show n<65536;omega)) (by decide);have hs:=UT f cap cf hst hf hS n X n l.toArray 0 n (bitsLen n) (by omega) (by omega) (Nat.zero_le _) (by omega) (by omega) hb (.inl rfl);simp only[List.toList_toArray]at hs;refine Sp (nt:=14) (res:=[]) Tryz.func178 λSf=>?_
 (iterate 11 refine WK ?_);refine AOps.gN ?_;refine AOps.p (FQ .i64 n rfl (by omega) (by kernel_rfl) (by kernel_rfl) rfl) rfl ?_;refine AOps.g_callf ?_;refine AOps.c1 (h:=(hlen ..)) (k:=?_);refine WK ?_;refine AOps.gN ?_;refine VE [] (h:=hs) (λu hu=>?_);refine WK ?_
 refine C6 ?_;obtain⟨h1,h2⟩:=hu;have h1':PermIn 0 l.toArray.size l.toArray u:=by rw[hsz,<-hn];exact h1
 have hus:n=u.size:=by rw[h1'.1,hsz];exact hn
 exact BM [(X,_)] ⟨u.toList,⟨by simpa using Is h1',Gz hus h2⟩,rfl,rfl⟩
end
theorem Qe(x y:Item):PS Tryz.prog 179 [AE false x,AE false y] (iA (Cn x.ent.n y.ent.n)):=by
 have h:=Ez x.ent.n y.ent.n;obtain⟨⟨xn,xg⟩,xc⟩:=x;obtain⟨⟨yn,yg⟩,yc⟩:=y;refine Sp (nt:=12) (res:=[.tmp 4]) Tryz.func179 λSf=>?_
 refine RG ?_;refine AOps.g_box ?_;refine Aj ?_;refine AOps.g_box ?_;refine Aj ?_;refine WO ?_;refine NL ?_;refine FL ?_;refine RG ?_;refine KO ?_;refine AOps.g_callf ?_;refine AOps.c2 (h:=(h ..)) (k:=?_);refine WO ?_;refine NL ?_;refine RT ?_;refine AN ?_;rfl
theorem Tt{P:Program}{ty:TypeId}{pos:String}{after:Array Edge}{dst:Option Tmp}{c:Option (List Bool)}{g:Option (Nat×Bool)}{T:List (Nat×AV)}{S:List AC}{x0:Operand}{v0:AV}{f:FuncId}{ats:Array TypeId}{r v:AV}[hf:Frz r v](h0:Rd c T x0 v0)(h:PS P f [v0] r)(ht:Ak [(x0,v0)]=true):Stp c P ⟨dst,.call ⟨.value (.func f),#[x0],ats⟩,ty,pos,after,g⟩ T S [(x0,v0)] [] v []:=hf.h▸W.call1 h0 h ht
theorem JV(t:Tab):(B3 t).length=t.es.length:=AB _
theorem Qq{t:Tab}{i:Nat}(h:i<t.es.length):(B3 t)[i]?=some ⟨t.es[i].2,Aa t t.es[i].1⟩:=by
 rw[B3,AF,AG h];rfl
theorem Pf(a:Ar)(ha:ArOK a)(hne:Eh a.ts)(hk16:a.kinds.length<=16)(hkf:∀k∈a.kinds,k.fields.length<=8)(hgl:a.gens.length<=256)(hcv:∀it∈Au a.ts,CsL it.comps):
  Spec Tryz.prog 115 [.ptr a.A 0 0] (arS a) λr S'=>∃L:List Item,(L.Perm (Au a.ts)/\L.Pairwise λx y=>x.ent.n<=y.ent.n)/\r=wdA false ⟨a.kinds,a.gens,L⟩/\S'=arS a:=by
 have hkp:=GU a.kinds (by omega) (λk hk=>by have:=hkf k hk;omega);have hcl:=Kh a.G a.gens a.gens.length rfl (by omega);have htl:=ha.ts_le hne;have hpt:(ptrs Tab.X a.ts).length=a.ts.length:=AB _;refine Sp (nt:=51) (res:=[.cell 2 27]) Tryz.func115 λSf=>?_
 refine RG ?_;refine WO ?_;refine Ai λZ=>?_;refine NL ?_
 refine FL ?_;refine AWP.rs λV=>?_
 refine RU ?_;refine KR ?_;refine RGo.g_callf ?_;refine RGo.c1 (h:=(hkp ..)) (k:=?_);refine KR ?_;refine RGo.g_callf ?_;refine RGo.z1 (h:=hcl) (hT:=.fz) (k:=?_);(iterate 3 refine RK ?_);refine RGo.nil (by kernel_rfl) ?_;refine FL ?_;refine AWP.adoptIn (Y:=V) 54 3 (by exact At.f) (λI=>.cons (.agg (.cons .same (.cons .same (.cons (.base .nil) .nil)))) .nil) λI=>?_
 refine R1 ?_;refine FL ?_;refine DZ (λ(j I:Nat) (its:List Item)=>⟨[(2,.ptr Z 0 0),(3,.ptr V 0 0),(22,.sl a.Tb 0 a.ts.length),(23,iA (a.ts.length:Nat)),(24,iA j)],(I,.row 54 3 (its.map (AE false)))::(V,.row 27 3 [.agg [Ae false false a.kinds,AQ false a.gens,.sl I 0 its.length]])::(Z,.row 27 3 [.agg [.prim (.slice none 0 0),.prim (.slice none 0 0),.prim (.slice none 0 0)]])::(arS a++Sf)⟩) (λj _ its=>j<=a.ts.length/\its=Au (a.ts.take j)) (λj _ _=>a.ts.length-j) 0 I [] ⟨by omega,rfl⟩ ?_;rintro j I its ⟨hj,hits⟩;refine R1 ?_;refine FL ?_;refine AWP.cond rfl (λh=>?_) (λh=>?_)
 ·have h:j<a.ts.length:=by rw[AD]at h;omega
  obtain⟨l1,l2,hsp,hl1⟩:=FU h;have htm:=AY h;have hto:=ha.tab _ htm;have hten:=ha.ent _ htm;have hat:(ptrs Tab.X a.ts)[j]?=some (.ptr a.ts[j].X 0 0):=BH _ h
  have hnext:Au (a.ts.take (j+1))=its++B3 a.ts[j]:=by
   rw[List.take_succ_eq_append_getElem h,B0,<-hits,CF];simp[Au]
  have hcvt:∀it∈B3 a.ts[j],CsL it.comps:=λit hi=>hcv it (List.mem_flatMap.2 ⟨_,htm,hi⟩)
  have hbnd:its.length+(B3 a.ts[j]).length<=256:=by
   have h1:=ha.c_le;rw[ha.cnt,ha.keys_items,AB]at h1
   have h2:Au a.ts=its++B3 a.ts[j]++Au l2:=by
    conv=>lhs;rw[hsp]
    rw[B0,CF,hits,<-AM]
    have:l1=a.ts.take j:=by
     have:=congrArg (List.take j) hsp;rw[List.take_left' hl1]at this;exact this.symm
    rw[this]
   rw[h2,AI,AI]at h1;omega
  obtain⟨t,ht⟩:∃t,a.ts[j]=t:=⟨_,rfl⟩;rw[ht]at hsp hto hten hat hnext hcvt hbnd;obtain⟨Z2,hZ2⟩:∃Z2,BK l1++(BK l2++Sf)=Z2:=⟨_,rfl⟩;have hop:=DF (l1:=l1) (l2:=l2) (t:=t) Sf;rw[<-hsp,hZ2]at hop;refine FL ?_;refine RG ?_;refine AOps.gN ?_;refine AOps.go (h:=W.idx rfl rfl (by exact At.f) rfl (by omega) (Nat.zero_add _)) (k:=?_);refine KO ?_;refine Ai λP5=>?_;refine WO ?_;refine NL ?_
  refine FL ?_;refine AWP.perm (S':=(I,.row 54 3 (its.map (AE false)))::(P5,.row 271 1 [.ptr t.X 0 0])::(V,.row 27 3 [.agg [Ae false false a.kinds,AQ false a.gens,.sl I 0 its.length]])::(Ea t++((Z,.row 27 3 [.agg [.prim (.slice none 0 0),.prim (.slice none 0 0),.prim (.slice none 0 0)]])::(arH a++Z2)))) ?_ ?_
  ·refine(List.Perm.swap _ _ _).trans (List.Perm.cons _ (List.Perm.cons _ (List.Perm.cons _ ?_)))
   have h1:=hop.append_left ((Z,AO.row 27 3 [.agg [.prim (.slice none 0 0),.prim (.slice none 0 0),.prim (.slice none 0 0)]])::arH a);refine(List.Perm.of_eq ?_).trans (h1.trans (B6 ((Z,AO.row 27 3 [.agg [.prim (.slice none 0 0),.prim (.slice none 0 0),.prim (.slice none 0 0)]])::arH a) (Ea t) Z2));rw[arS];simp only[BF,BA]
  have hal:=U1 t.ek t.es hto.es;have hI:=Tj (AJ t.es) (t.es.map (·.2)) (by simp) (by have:=hto.es.len;rw[AB];omega);refine RG ?_;(iterate 4 refine WO ?_);refine AOps.gN ?_;refine Qa [_,_,_,_] (h:=hal) (k:=?_);refine NL ?_;refine FL ?_;refine Pv (Sf:=(Z,.row 27 3 [.agg [.prim (.slice none 0 0),.prim (.slice none 0 0),.prim (.slice none 0 0)]])::(arH a++Z2)) hI (λb:Nat×List Item=>(b.1,AO.row 54 3 (b.2.map (AE false)))::(P5,.row 271 1 [.ptr t.X 0 0])::(V,.row 27 3 [.agg [Ae false false a.kinds,AQ false a.gens,.sl b.1 0 b.2.length]])::Ea t) (λi b=>b.2=its++(B3 t).take i) (I,its) (by simp) ?_ ?_ rfl rfl rfl ?_ ?_
  ·rintro i vs ⟨I,is⟩ l F1 F2 hi hb
   dsimp only at hb
   have hn:i<t.es.length:=by
    have:=(List.getElem?_eq_some_iff.1 hi).1;simpa using this
   have hiv:[iA t.es[i].1,A8 t.es[i].2]=vs:=by
    rw[AF,AG (by simpa using hn),List.getElem_zip]at hi;simpa using hi
   subst hiv;have hem:=AY hn;have hnk:t.es[i].1∈AJ t.es:=List.mem_map.2 ⟨_,hem,rfl⟩;have hnl:=hto.es.lt _ hnk;have hcs:=N9 t t.es[i].1 hto (by constructor<;>omega) hnk;have hti:=Qq hn;have hci:=hcvt _ (Ao hti);have hcc:=Dy (Aa t t.es[i].1) hci.1 hci.2;have hil:i<(B3 t).length:=by rw[JV];exact hn
   have hnx:is++[⟨t.es[i].2,Aa t t.es[i].1⟩]=its++(B3 t).take (i+1):=by
    rw[hb,List.take_add_one,hti,AM];rfl
   have hisl:is.length<=256:=by rw[hb,AI,Ag];omega
   obtain⟨⟨en,ee⟩,hee⟩:∃e,t.es[i]=e:=⟨_,rfl⟩;rw[hee]at hcs hcc hnx;rw[hee];dsimp only at hcs hcc hnx⊢;obtain⟨lc,hlc⟩:∃lc,Aa t en=lc:=⟨_,rfl⟩;rw[hlc]at hcs hcc hnx;have hma:is.map (AE false)++[AE false ⟨ee,lc⟩]=(is++[(⟨ee,lc⟩:Item)]).map (AE false):=by rw[List.map_append];rfl
   have hml:is.length+[AE false ⟨ee,lc⟩].length=(is++[(⟨ee,lc⟩:Item)]).length:=by rw[AI];rfl
   refine FL ?_;refine R1 ?_;refine FL ?_;refine RG ?_;refine WO ?_;refine Ai λE7=>?_;refine WO ?_;refine NL ?_
   refine⟨(E7,.row 51 2 [A8 ee])::(I,.row 54 3 (is.map (AE false)))::(P5,AO.row 271 1 [.ptr t.X 0 0])::(V,.row 27 3 [.agg [Ae false false a.kinds,AQ false a.gens,.sl I 0 is.length]])::Ea t,.refl _,?_⟩;refine FL ?_;refine AWP.rs λY=>?_
   (repeat refine WF ?_);refine GK 5 (by kernel_rfl) (by kernel_rfl) ?_;refine RGoT.go ?_;refine RGoT.go ?_;refine RGoT.go ?_;refine RGoT.go ?_;refine RGoT.go ?_;refine RGoT.callK (xs:=[(.tmp 38,.ptr t.X 0 0),(.tmp 39,iA en)]) (L:=[_,_,_,_,_]) (R:=F2) hcs (.fz (v:=Aw false false lc)) rfl (Nat.le_refl 5) (.cons rfl (.cons rfl .nil)) rfl rfl ?_;refine RGoT.go (h:=Tt (v:=Aw false false lc) rfl hcc rfl) ?_;refine RGoT.go ?_;refine RGoT.go (v:=.lst false 54 3 [AE false ⟨ee,lc⟩]) (h:=W.litF1 (v0:=AE false ⟨ee,lc⟩) rfl rfl (.inl rfl) (by decide) (by decide) rfl) ?_;refine RGoT.goS (h:=W.app (X:=I) (Y:=Y) rfl rfl (by exact At.f) (by exact At.f) (by rw[AB]) (by rw[AB];show(is.length+1)*40<=_;omega) (by rw[AB];unfold maxLen;show is.length+1<=_;omega) (by decide)) ?_;refine RGoT.go ?_;refine RGoT.goS ?_;refine RGoT.nil (by kernel_rfl) ?_;rw[hma,hml];refine⟨(Y,.row 54 3 ((is++[(⟨ee,lc⟩:Item)]).map (AE false)))::(P5,AO.row 271 1 [.ptr t.X 0 0])::(V,.row 27 3 [.agg [Ae false false a.kinds,AQ false a.gens,.sl Y 0 (is++[(⟨ee,lc⟩:Item)]).length]])::Ea t,?_,(Y,is++[(⟨ee,lc⟩:Item)]),hnx,rfl⟩;exact .cons _ (.cons _ (.refl _))
  ·rintro⟨I,is⟩ hb
   dsimp only at hb;have hxl:((AJ t.es).zip (t.es.map (·.2))).length=t.es.length:=by simp
   rw[AB,hxl,<-JV,List.take_length]at hb;refine FL ?_;refine AWP.perm (S':=(P5,.row 271 1 [.ptr t.X 0 0])::(I,.row 54 3 (is.map (AE false)))::(V,.row 27 3 [.agg [Ae false false a.kinds,AQ false a.gens,.sl I 0 is.length]])::(Z,.row 27 3 [.agg [.prim (.slice none 0 0),.prim (.slice none 0 0),.prim (.slice none 0 0)]])::(arS a++Sf)) ?_ ?_
   ·refine(List.Perm.swap _ _ _).trans (List.Perm.cons _ (List.Perm.cons _ (List.Perm.cons _ ?_)))
    have h1:=hop.append_left ((Z,AO.row 27 3 [.agg [.prim (.slice none 0 0),.prim (.slice none 0 0),.prim (.slice none 0 0)]])::arH a);refine List.Perm.trans (B6 (Ea t) ((Z,AO.row 27 3 [.agg [.prim (.slice none 0 0),.prim (.slice none 0 0),.prim (.slice none 0 0)]])::arH a) Z2) (h1.symm.trans (List.Perm.of_eq ?_));rw[arS];simp only[BF,BA]
   ·refine R1 ?_
    exact CK (j+1) I is ⟨by omega,by rw[hb,hnext]⟩ (by omega)
  ·intro vs hvs
   obtain⟨q,_,rfl⟩:=List.mem_map.1 hvs;rfl
  ·exact .refl _
 ·have h:j=a.ts.length:=by rw[AL]at h;omega
  subst h;rw[List.take_length]at hits
  have hilen:its.length<=256:=by
   have h1:=ha.c_le;rw[ha.cnt,ha.keys_items,AB]at h1;rw[hits];omega
  have hso:=ML 179 [] (λx y=>Cn x.ent.n y.ent.n) rfl (MK λx:Item=>x.ent.n) Qe I its.length its rfl (by omega);refine FL ?_;refine RG ?_;refine WO ?_;refine WO ?_;refine AOps.gN ?_;refine JN [] (h:=hso) (λu hu=>?_);refine NL ?_;obtain⟨hu1,hu2⟩:=hu;have hul:=hu1.length_eq
  have hF:AV.frzs (((u.map (AE false)).drop 0).take its.length)=u.map (AE false):=by
   rw[List.drop_zero,List.take_of_length_le (by rw[AB];omega)];exact Frzs.h
  refine FL ?_;refine AWP.iceIn (X:=I) (Y:=V) .here (.next .here) rfl (.cons (.agg (.cons .same (.cons .same (.cons (.base (.sl (by rw[AB];omega))) .nil)))) .nil) ?_;rw[hF];refine R1 ?_;refine RT ?_
  exact Ends.sp [wdA false ⟨a.kinds,a.gens,u⟩] (arS a) ⟨u,⟨by rw[<-hits];exact hu1,hu2.imp λ{x y} h=>by
   simp only[AZ,AL,GZ]at h;omega⟩,rfl,rfl⟩
end Go.Proofs.YtoohajbhpbjpcaaGreat
