/-
  Part 8 of the texts under the law TopLayers: the layer of abstract values, walks and plain laws. Conditions: those that each theorem names.
-/
import Derived.Below
import Derived.Test.YtiidbamlcgbpnaaGreatTopLayersP7
namespace Go.Proofs.YtiidbamlcgbpnaaGreat
set_option linter.unusedVariables false
set_option linter.unusedSimpArgs false
set_option linter.defProp false
set_option maxRecDepth 10000
set_option maxHeartbeats 4000000
abbrev Vn(b:Bool)(l:List Evt):AV:=.lst b 86 4 (l.map Cr)
theorem M5(w:Wd)(l:List Sys)(h:TickG w l):PS Tryz.prog 115 [wdA false w,Ea false l] (iA 0):=by
 have hL:=h.ok.wl;have hck:=Es w hL.gens hL.items.1 (λit hit=>(hL.items.2 it hit).1);rw[(BK w).2 h.ok]at hck;have hlm:(l.map (Bs false)).length=l.length:=AB _;have h24:=h.l24;refine Sp (nt:=31) (res:=[.tmp 4]) Tryz.func115 λSf=>?_
 refine RG ?_;refine AOps.g_box ?_;refine Aj ?_;refine JD ?_;refine JB ?_;refine WO ?_;refine AOps.g_callf ?_;refine AOps.c1 (h:=(hck ..)) (k:=?_);refine JD ?_;refine JC ?_;refine AA rfl rfl ?_;refine JC ?_;refine AA rfl (AY (by omega)) ?_;refine JJ ?_;refine BJ (λ(i:Nat)=>⟨[(2,.fp (wdA false w).cells),(17,Ea false l),(18,iA (l.map (Bs false)).length),(19,iA i)],Sf⟩) (λi=>i<=l.length) (λi=>l.length-i) 0 (Nat.zero_le _) ?_;rintro i hi;refine JM ?_;refine AWP.cond rfl (λhb=>?_) (λhb=>?_)
 ·have hi2:i<l.length:=by rw[AF,hlm]at hb;omega
  obtain⟨s,hs⟩:=nm (l[i]);have hsm:s∈l:=by rw[<-hs];exact AK hi2
  have hat:(l.map (Bs false))[i]?=some (Bs false s):=by rw[AG,AE hi2,hs];rfl
  have hsc:=Iw w.kinds s h.ok.ks h.k12 (h.sg s hsm);refine JK ?_;refine Ai λX=>?_;refine JD ?_
  refine JK ?_;refine AOps.g_callf ?_;refine AOps.c2 (h:=(hsc ..)) (k:=?_);refine JD ?_;refine JC ?_;refine AA rfl rfl ?_;refine JC ?_;exact Af (i+1) hi2 (by omega)
 ·refine FL ?_
  refine R1 ?_;refine RT ?_;refine AI ?_;rfl
theorem PQ(w:Wd)(cs:List (List Cmd))(ev:List Evt)(hw:WdOK w)(h12:w.kinds.length<=12)(hn:cs.length<=1000)(hl:cs.flatten.length<=131072)(hc:∀c∈cs.flatten,CmdG w.kinds c)(he:ev.length<=1099511627776):PS Tryz.prog 116 [wdA false w,.lst false 79 1 (cs.map (CZ false)),Vn false ev] (.tup [wdA false (DQ w cs.flatten).1,Vn true (ev.take 256),iA 0]):=by
 have hL:=hw.wl;have hck:=Es w hL.gens hL.items.1 (λit hit=>(hL.items.2 it hit).1);rw[(BK w).2 hw]at hck;obtain⟨g1,g2⟩:=CmdG.sl hc;have hj:=QX cs hn hl (λx hx c hcx=>g2 c (List.mem_flatten.2 ⟨x,hx,hcx⟩));have hap:=Ub w cs.flatten hw h12 hl g1;have hem:(ev.map Cr).length=ev.length:=AB _
 obtain⟨k,hk⟩:∃k:Nat,(if(256:Int)<((ev.map Cr).length:Nat)then(256:Int)else((ev.map Cr).length:Nat))=(k:Nat):=by
  by_cases h:(256:Int)<((ev.map Cr).length:Nat)
  ·exact⟨256,by rw[if_pos h];rfl⟩
  ·exact⟨_,by rw[if_neg h]⟩
 have hk1:k<=ev.length/\ev.take k=ev.take 256:=by
  by_cases h:(256:Int)<((ev.map Cr).length:Nat)
  ·rw[if_pos h]at hk
   have:k=256:=by omega
   subst this;exact⟨by omega,rfl⟩
  ·rw[if_neg h]at hk
   have:k=ev.length:=by omega
   subst this;exact⟨Nat.le_refl _,by rw[List.take_length,List.take_of_length_le (by omega)]⟩
 obtain⟨hk1,hk2⟩:=hk1;have htk:(ev.map Cr).take k=(ev.take 256).map Cr:=by rw[<-List.map_take,hk2]
 have htl:((ev.map Cr).take k).length<=256:=by rw[htk,AB,Ah];omega
 refine Sp (nt:=47) (res:=[.cell 6 26,.tmp 7,.tmp 8]) Tryz.func116 λSf=>?_
 refine RG ?_;refine AOps.g_box ?_;refine Aj ?_;refine WO ?_;refine Ai λR=>?_;refine JF ?_
 refine JB ?_;refine WO ?_;refine AOps.g_callf ?_;refine AOps.c1 (h:=(hck ..)) (k:=?_);refine JD ?_;refine JC ?_;refine AA rfl rfl ?_;refine JB ?_;refine WO ?_;refine AOps.g_callf ?_;refine AOps.c1 (h:=(hj ..)) (k:=?_);refine JF ?_;refine JC ?_;refine AA rfl rfl ?_;refine JK ?_;refine AOps.g_callf ?_;refine AOps.c2 (h:=(hap ..)) (k:=?_);refine KO ?_;refine Ai λV=>?_;refine JF ?_
 refine JC ?_;refine AA rfl rfl ?_;refine FL ?_;refine AWP.rs λY=>?_
 refine RU ?_;(iterate 5 refine RK ?_);refine RGo.gN ?_;refine RGo.go (h:=W.hiL (a:=k) rfl rfl hk (by omega)) (k:=?_);refine RGo.gN ?_;refine RGo.s (Uq (by omega) (by unfold maxLen;omega) rfl rfl (by exact At.f)) rfl ?_;(iterate 3 refine RK ?_);refine RGo.nil (by kernel_rfl) ?_;refine RT ?_;exact Br [wdA false (DQ w cs.flatten).1,.sl Y 0 ((ev.map Cr).take k).length,iA 0] [wdA false (DQ w cs.flatten).1,.lst true 86 4 ((ev.map Cr).take k),iA 0] (.cons (.cell .same) (.cons (.cell (.sl (p:=0) .here rfl)) (.cons (.cell .same) .nil))) (e:=by rw[htk];rfl)
theorem PP(w:Wd)(l:List Sys)(seed tick:Int)(h:TickG w l):PS Tryz.prog 45 [wdA false w,Ea false l,iA seed,iA tick] (.tup [wdA false (Hr w l seed tick).1,Vn false (Hr w l seed tick).2,iA 0]):=by
 have hck:=M5 w l h;have h24:=h.l24;obtain⟨k1,k2,k3,k4,k5,k6,k7⟩:=Jg (seed:=seed) (tick:=tick) l w 0 h;have hall:=h.all seed tick;have hend:=PQ (Df seed tick w 0 l).1 (Df seed tick w 0 l).2.1 (Df seed tick w 0 l).2.2 k1 (by rw[k2];exact h.k12) (by omega) (by omega) (by rw[k2];exact hall) (by omega);have htm:Hr w l seed tick=((DQ (Df seed tick w 0 l).1 (Df seed tick w 0 l).2.1.flatten).1,(Df seed tick w 0 l).2.2.take 256):=rfl;rw[htm];dsimp only;obtain⟨⟨v,cs,ev⟩,hq⟩:=nm (Df seed tick w 0 l);rw[hq]at hend k4 k6⊢;dsimp only at hend k4 k6⊢;have hlm:(l.map (Bs false)).length=l.length:=AB _;refine Sp (nt:=65) (res:=[.cell 8 26,.tmp 9,.tmp 10]) Tryz.func45 λSf=>?_
 refine RG ?_;refine IL λB=>?_
 refine IL λR=>?_
 refine KO ?_;refine JK ?_;refine AOps.g_callf ?_;refine AOps.c2 (h:=(hck ..)) (k:=?_);refine JD ?_;refine JC ?_;refine AA rfl rfl ?_;refine JC ?_;refine JC ?_;refine JJ ?_;refine AWP.adopt (d:=13) 86 4 rfl λE0=>?_
 refine AWP.adopt (d:=12) 79 1 rfl λC0=>?_
 refine FU (λ(i C E:Nat) (z:Wd×List (List Cmd)×List Evt)=>⟨[(1,Ea false l),(2,iA seed),(3,iA tick),(4,.ptr B 0 0),(8,.ptr R 0 0),(12,.sl C 0 z.2.1.length),(13,.sl E 0 z.2.2.length),(27,Ea false l),(28,iA (l.map (Bs false)).length),(29,iA i)],(C,.row 79 1 (z.2.1.map (CZ false)))::(E,.row 86 4 (z.2.2.map Cr))::(R,.row 26 3 [.agg [.prim (.slice none 0 0),.prim (.slice none 0 0),.prim (.slice none 0 0)]])::(B,.row 26 3 [wdA false z.1])::Sf⟩) (λi _ _ z=>i<=l.length/\TickG z.1 l/\z.1.kinds=w.kinds/\(v,cs,ev)=((Df seed tick z.1 i (l.drop i)).1,z.2.1++(Df seed tick z.1 i (l.drop i)).2.1,z.2.2++(Df seed tick z.1 i (l.drop i)).2.2)) (λi _ _ _=>l.length-i) 0 C0 E0 (w,[],[]) ⟨Nat.zero_le _,h,rfl,hq.symm⟩ ?_;rintro i C E ⟨z,zc,ze⟩ ⟨hi,hz,hzk,hrun⟩;dsimp only at hz hzk hrun⊢
 have hcl:zc.length<=24:=by
  have:=congrArg (λq=>q.2.1.length) hrun;dsimp only at this;rw[AL]at this;omega
 have hel:ze.length<=122880:=by
  have:=congrArg (λq=>q.2.2.length) hrun;dsimp only at this;rw[AL]at this;omega
 have hcm:(zc.map (CZ false)).length=zc.length:=AB _;have hem:(ze.map Cr).length=ze.length:=AB _;refine JM ?_;refine AWP.cond rfl (λhb=>?_) (λhb=>?_)
 ·have h2:i<l.length:=by rw[AF,hlm]at hb;omega
  obtain⟨s,hs⟩:=nm (l[i]);have hsm:s∈l:=by rw[<-hs];exact AK h2
  have hat:(l.map (Bs false))[i]?=some (Bs false s):=by rw[AG,AE h2,hs];rfl
  have hsr:=TL z s i seed tick hz.ok.wl ((BK z).2 hz.ok) hz.k12 (hz.sg s hsm) hz.ok.ks (λit hit=>(hz.ok.it it hit).2.2.2.2) (Nat.le_trans (hz.n hsm) (by decide));have hr:=hz.r hsm i seed tick;obtain⟨_,q2,q3⟩:=hz.cmds hsm i seed tick;rw[CD h2,hs,Df]at hrun;unfold wdR at hrun hr;obtain⟨⟨ri,rc,re⟩,hrm⟩:=nm (Ex z s i seed tick);rw[hrm]at hsr hr q2 q3 hrun;dsimp only at hsr hr q2 q3 hrun;have hg2:TickG ⟨z.kinds,z.gens,ri⟩ l:=⟨hr,hz.k12,hz.sg,hz.l24⟩;have hrcl:(rc.map Bx).length=rc.length:=AB _;have hrel:(re.map Cr).length=re.length:=AB _;refine JK ?_;refine Ai λX=>?_;refine JF ?_
  refine JK ?_;refine AOps.g_callf ?_;refine AOps.c5 (h:=(hsr ..)) (k:=?_);refine KO ?_;refine Ai λV=>?_;refine JF ?_
  refine JC ?_;refine AA rfl rfl ?_;refine JJ ?_;have hm1:zc.map (CZ false)++[CZ false rc]=(zc++[rc]).map (CZ false):=by rw[List.map_append];rfl
  have hm2:zc.length+[CZ false rc].length=(zc++[rc]).length:=by rw[AL];rfl
  have hm3:ze.map Cr++re.map Cr=(ze++re).map Cr:=by rw[List.map_append]
  have hm4:ze.length+(re.map Cr).length=(ze++re).length:=by rw[AL,hrel]
  refine RG ?_;(repeat first|(refine AOps.gN ?_;first|(refine AOps.g_lit ?_;refine AOps.goL (CZ false rc) ?_))|refine WO ?_|refine Ai λX=>?_|refine Ay λY=>?_);refine NL ?_;dsimp only[AX,List.set_cons_zero,List.set_cons_succ,BF,BD];rw[hm1,hm2,hm3,hm4];refine JC ?_;refine DU (i+1) ?_ ?_ (⟨z.kinds,z.gens,ri⟩,zc++[rc],ze++re) ⟨h2,hg2,hzk,by rw[hrun];dsimp only;rw[AP,AP];rfl⟩ (by omega)
 ·have h2:i=l.length:=by rw[AQ,hlm]at hb;omega
  subst h2;rw[List.drop_length,Df,List.append_nil,List.append_nil]at hrun;injection hrun with e1 e2
  injection e2 with e2 e3
  subst e1 e2 e3;refine FL ?_;refine IJ 12 _ (Fj (CZ false) (λ_=>Frz.h) _) (hn:=hcm.symm) ?_;refine IJ 13 _ (Fj Cr (λ_=>Frz.h) _) (hn:=hem.symm) ?_;refine JN ?_;refine AOps.g_callf ?_;refine De (h:=(hend ..)) (k:=?_);refine JF ?_;refine RT ?_;exact FT (rs:=[wdA false (DQ v cs.flatten).1,Vn false (ev.take 256),iA 0]) rfl
theorem Kj(X:Nat)(l:List Int)(f:FuncId)(cap:List AV)(p:Int->Bool)(hs:B4 cap=true)(hl:l.length<=4611686018427387904)(hf:∀x∈l,PS Tryz.prog f (iA x::cap) (bA (p x))):PO Tryz.prog 173 [.sl X 0 l.length,.fn f cap] X (.row 3 1 (l.map iA)) (iA (ER l p)) (.row 3 1 (l.map iA)):=by
 refine Sp (nt:=19) (res:=[.tmp 4]) Tryz.func173 λSf=>?_
 refine KK ?_;refine BJ (λi:Nat=>⟨[(0,.sl X 0 l.length),(1,.fn f cap),(7,iA l.length),(8,iA i)],(X,.row 3 1 (l.map iA))::Sf⟩) (λi=>i<=l.length/\∀j (h:j<l.length),j<i->p l[j]=false) (λi=>l.length-i) 0 ⟨Nat.zero_le _,λj h hj=>absurd hj (by omega)⟩ ?_;rintro i ⟨hi,he⟩;refine KK ?_;refine AWP.cond rfl (λhc=>?_) (λhc=>?_)
 ·have h:i<l.length:=by simpa using hc
  refine KK ?_;refine AOps.g_callv ?_;refine G6 (h:=(hf _ (AK h))) (k:=?_);refine KK ?_;refine AWP.cond rfl (λhd=>?_) (λhd=>?_)
  ·refine KK ?_
   refine RT ?_;refine RQ ?_ ?_
   ·rw[Eo h hd λj hj=>he j (by omega) hj]
   ·rfl
  ·refine KK ?_
   refine Af (i+1) ⟨h,λj h1 h2=>?_⟩;by_cases e:j=i
   ·subst e;exact hd
   ·exact he j h1 (by omega)
 ·have h:¬i<l.length:=by simpa using hc
  refine JA ?_;refine RQ ?_ ?_
  ·rw[Ep λj hj=>he j hj (by omega)]
  ·rfl
theorem LA(X:Nat)(l:List Int)(f:FuncId)(cap:List AV)(p:Int->Bool)(hs:B4 cap=true)(hl:l.length<=4611686018427387903)(hf:∀x∈l,PS Tryz.prog f (iA x::cap) (bA (p x))):Spec Tryz.prog 169 [.sl X 0 l.length,.fn f cap] [(X,.row 3 1 (l.map iA))] λr S'=>r= .lst true 3 1 ((l.filter λx=>!p x).map iA)/\S'=[]:=by
 refine Sp (nt:=42) (res:=[.tmp 4]) Tryz.func169 λSf=>?_
 have h0:=Kj X l f cap p hs (by omega) hf;have hr:=Kl l p;obtain⟨v,hv⟩:=nm (ER l p);rw[hv]at h0 hr;refine KK ?_;refine AOps.g_callf ?_;refine AOps.o2 (h:=(h0 ..)) (k:=?_);refine KK ?_;refine AWP.cond rfl (λhc=>?_) (λhc=>?_)
 ·have hc:v= -1:=by simpa using hc
  have hall:(l.filter λx=>!p x)=l:=by
   rw[List.filter_eq_self];intro x hx
   have h1:l.findIdx? p=none:=by
    unfold ER at hv;split at hv
    ·omega
    ·assumption
   rw[List.findIdx?_eq_none_iff]at h1;simp[h1 x hx]
  rw[hall];refine JA ?_;exact⟨[.sl X 0 l.length],[.lst true 3 1 (l.map iA)],_,[],.cons (.tmp rfl) rfl .nil,.cons (.cell (.sl (p:=0) .here (by simp))) .nil,by exact Sub.f,rfl,rfl⟩
 ·have hc:v≠-1:=by simpa using hc
  obtain⟨i0,hi0⟩:∃i0:Nat,v=i0:=⟨v.toNat,by omega⟩;subst hi0
  have hfi:l.findIdx? p=some i0:=by
   unfold ER at hv;split at hv
   ·rename_i i hi;rw[hi];congr 1;omega
   ·omega
  obtain⟨hil,hpi,hmin⟩:=List.findIdx?_eq_some_iff_getElem.1 hfi
  have ht0:(l.take (i0+1)).filter (λx=>!p x)=l.take i0:=by
   rw[List.take_succ_eq_append_getElem hil,List.filter_append];rw[show([l[i0]].filter λx=>!p x)=[] by simp[hpi],List.append_nil,List.filter_eq_self];intro x hx;obtain⟨j,hj,rfl⟩:=List.mem_take_iff_getElem.1 hx;have:=hmin j (by omega);simp at this⊢;exact this
  refine KK ?_;refine Dd (λ(i j:Nat) (M:List AV)=>⟨[(0,.sl X 0 l.length),(1,.fn f cap),(5,iA i),(6,iA j)],(X,.row 3 1 M)::Sf⟩) (λi j M=>i<j/\j<=l.length/\∃K:List Int,M=K.map iA/\K.length=l.length/\K.take i=((l.take j).filter λx=>!p x)/\K.drop j=l.drop j) (λi j _=>l.length-j) i0 (i0+1) (l.map iA) ⟨by omega,hil,l,rfl,rfl,ht0.symm,rfl⟩ ?_;rintro i j M ⟨hij,hj,K,rfl,hM,h1,h2⟩;refine KK ?_;refine AWP.cond rfl (λhd=>?_) (λhd=>?_)
  ·have h:j<l.length:=by simpa using hd
   have hKj:K[j]?=some l[j]:=by
    have:=congrArg (λz=>z[0]?) h2;simpa[h]using this
   have hat:(K.map iA)[j]?=some (iA l[j]):=by rw[AG,hKj];rfl
   have hKi:i<K.length:=by omega
   obtain⟨b,hb⟩:=nm (p l[j]);have hfj:=hf _ (AK h);rw[hb]at hfj
   have htk:(l.take (j+1)).filter (λx=>!p x)=(l.take j).filter (λx=>!p x)++if b then[]else[l[j]]:=by
    rw[List.take_succ_eq_append_getElem h,List.filter_append]
    congr 1
    cases b<;>simp[hb]
   refine KK ?_;refine AOps.g_callv ?_;refine G6 (h:=(hfj ..)) (k:=?_);refine KK ?_;cases b
   ·refine AM rfl rfl ?_
    refine KK ?_;refine CK (i+1) (j+1) _ ⟨by omega,h,K.set i l[j],by rw[List.map_set],by simpa using hM,?_,?_⟩
    ·rw[htk,<-h1,List.take_add_one,List.take_set,List.set_eq_of_length_le (by rw[Ah];omega),List.getElem?_set_self hKi]
     simp
    ·rw[List.drop_set_of_lt (by omega),<-List.drop_drop,h2,List.drop_drop]
   ·refine AA rfl rfl ?_
    refine KK ?_;refine CK i (j+1) _ ⟨by omega,h,K,rfl,hM,?_,?_⟩
    ·rw[h1,htk];simp
    ·rw[<-List.drop_drop,h2,List.drop_drop]
  ·have h:j=l.length:=by rw[AQ]at hd;omega
   subst h;have h1':K.take i=l.filter λx=>!p x:=by rw[h1,List.take_length]
   have hKl:(K.map iA).length=l.length:=by rw[AB,hM]
   have hki:∀A B,(List.take (0+i) (K.map iA)++A++B).take i=(l.filter λx=>!p x).map iA:=λA B=>by
    rw[Nat.zero_add,AP,List.take_append_of_le_length (by rw[Ah];omega),List.take_take,Nat.min_self,<-List.map_take,h1']
   have hfl:i=((l.filter λx=>!p x).map iA).length:=by
    rw[<-h1',AB,Ah];omega
   (repeat first|(refine AOps.gN ?_;first|refine AOps.s (W.slice_lo rfl rfl (by exact At.f) rfl (by omega)) rfl ?_|refine AOps.s (W.clear rfl (by exact At.f) (by first|exact .inl rfl|exact .inr rfl) rfl (by omega)) rfl ?_|refine AOps.p (W.hi rfl rfl (by exact At.f) rfl (by omega)) rfl ?_)|refine WK ?_|refine Ai λX=>?_|refine Ay λY=>?_);refine AWP.shrink (X:=X) i ?_;rw[hki];refine RT ?_;exact⟨[.sl X 0 i],[.lst true 3 1 ((l.filter λx=>!p x).map iA)],_,[],.cons (.tmp rfl) rfl .nil,.cons (.cell (.sl (p:=0) .here hfl)) .nil,by exact Sub.f,rfl,rfl⟩
theorem NZ{ks:List Kind}{i:Int}{j:Nat}(hi:i=j)(hj:j<ks.length):Lr ks i=(ks[j].fields.map fieldA).length:=by
 unfold Lr;rw[hi,show((j:Int)).toNat=j from rfl,AE hj,AB]
theorem Wo(G:Nat)(ks:List Kind)(seen l:List Int)(hk:FS ks)(h0:seen≠[])(hs:∀x∈seen,0<=x/\x<ks.length)(hl:seen.length<=4398046511104):PO Tryz.prog 172 [.fp [.ptr G 0 0],.fp [AN false seen],.fp [An false false ks]] G (Bb l) (By (FJ ks seen l).1) (Bb (FJ ks seen l).2):=by
 refine Sp (nt:=30) (res:=[.cell 3 193]) Tryz.func172 λSf=>?_
 have h2:=Ad l (n:=2) (by decide);have hn0:0<seen.length:=List.length_pos_iff.2 h0;have hv:=Ad (Ac l 2) (n:=seen.length) (by omega);obtain⟨i,hi⟩:∃i:Nat,Ak (Ac l 2) seen.length=i:=⟨(Ak (Ac l 2) seen.length).toNat,by omega⟩;have hil:i<seen.length:=by omega
 obtain⟨j,hj⟩:∃j:Nat,seen[i]=j:=⟨seen[i].toNat,by have:=hs _ (AK hil);omega⟩;have hjl:j<ks.length:=by have:=hs _ (AK hil);omega
 obtain⟨hk0,hk1⟩:=hk;have hfl:=(hk1 _ (AK hjl)).1;refine KK ?_;refine Ai λR=>?_;refine KK ?_;refine AOps.g_callf ?_;refine AOps.o2 (h:=(CE G _ _ (by decide))) (k:=?_);refine KK ?_
 refine AWP.cond rfl (λhb=>?_) (λhb=>?_)
 ·have hb:Ak l 2=0:=by simpa using hb
  have h20:=Ad (Ac l 2) (n:=20) (by decide);refine KK ?_;refine AOps.g_callf ?_;refine AOps.o2 (h:=(CE G _ _ (by decide))) (k:=?_);refine JA ?_;have he:FJ ks seen l=(⟨false,Ak (Ac l 2) 20-6,⟨0,0⟩⟩,Ac (Ac l 2) 20):=by rw[FJ,if_pos hb]
  rw[he];exact PF (rs:=[By ⟨false,Ak (Ac l 2) 20-6,⟨0,0⟩⟩]) rfl rfl (.cons (.cell (p:=0) rfl .here TAg.h TSize.h rfl rfl) rfl .nil)
 ·have hb:Ak l 2≠0:=by simpa using hb
  obtain⟨l1,hl1⟩:=nm (Ac l 2);rw[hl1]at hi hv⊢;have hfd:=NZ (ks:=ks) hj hjl;have hsd:seen.getD (Ak l1 seen.length).toNat 0=seen[i]:=by rw[hi];simp[hil]
  have he:FJ ks seen l=(⟨true,0,⟨seen[i],Ak (Ac l1 seen.length) (Lr ks seen[i])⟩⟩,Ac (Ac l1 seen.length) (Lr ks seen[i])):=by rw[FJ,if_neg hb,hl1,hsd]
  rw[he,hfd]
  have hon:PO Tryz.prog 52 [.ptr G 0 0,iA (seen.map iA).length] G (Bb l1) (iA i) (Bb (Ac l1 seen.length)):=by
   have:=CE G l1 seen.length (by omega);rw[hi]at this;rw[AB];exact this
  have hon2:=CE G (Ac l1 seen.length) (ks[j].fields.map fieldA).length (by rw[AB];omega);rw[hj]at he⊢;refine JL ?_;refine RGo.g_callf ?_;refine RGo.o2 (h:=(hon ..)) (k:=?_);(iterate 3 refine RK ?_);refine RGo.nil (by kernel_rfl) ?_;rw[hj];refine JL ?_;refine RGo.g_callf ?_;refine RGo.o2 (h:=(hon2 ..)) (k:=?_);(iterate 3 refine RK ?_);refine RGo.nil (by kernel_rfl) ?_;refine WK ?_;refine RT ?_;exact PF (rs:=[By ⟨true,0,⟨j,Ak (Ac l1 seen.length) (ks[j].fields.map fieldA).length⟩⟩]) rfl rfl (.cons (.cell (p:=0) rfl .here TAg.h TSize.h rfl rfl) rfl .nil)
theorem Ua(ks:List Kind)(seen l:List Int)(hk:FS ks)(hf:∀k∈ks,k.fields≠[])(h0:seen≠[])(hs:∀x∈seen,0<=x/\x<ks.length):Mw ks seen (FJ ks seen l).1:=by
 have hn0:0<seen.length:=List.length_pos_iff.2 h0;have hv:=Ad (Ac l 2) (n:=seen.length) (by omega);have h20:=Ad (Ac l 2) (n:=20) (by decide);unfold FJ Mw;split
 ·exact⟨λh=>(by cases h),λ_=>⟨by show-6<=Ak (Ac l 2) 20-6;omega,by show Ak (Ac l 2) 20-6<=13;omega,rfl⟩⟩
 ·obtain⟨i,hi⟩:∃i:Nat,Ak (Ac l 2) seen.length=i:=⟨(Ak (Ac l 2) seen.length).toNat,by omega⟩
  have hil:i<seen.length:=by omega
  have hsd:seen.getD (Ak (Ac l 2) seen.length).toNat 0=seen[i]:=by rw[hi];simp[hil]
  obtain⟨j,hj⟩:∃j:Nat,seen[i]=j:=⟨seen[i].toNat,by have:=hs _ (AK hil);omega⟩;have hjl:j<ks.length:=by have:=hs _ (AK hil);omega
  have hfd:=NZ (ks:=ks) hj hjl;have hfp:0<ks[j].fields.length:=List.length_pos_iff.2 (hf _ (AK hjl));rw[AB]at hfd;have hv2:=Ad (Ac (Ac l 2) seen.length) (n:=Lr ks seen[i]) (by omega);rw[hsd];exact⟨λ_=>⟨rfl,⟨(hs _ (AK hil)).1,(hs _ (AK hil)).2,hv2.1,hv2.2⟩,AK hil⟩,λh=>(by cases h)⟩
theorem KH:∀{l:List Int} {a n:Int},l.Pairwise (· < ·)->(∀x∈l,a<=x/\x<n)->a<=n->(l.length:Int)<=n-a
 |[],a,n,_,_,h=>by simp;omega
 |x::l,a,n,hp,hr,_=>by
  have hx:=hr x (by simp);rw[List.pairwise_cons]at hp;have:=KH (a:=x+1) (n:=n) hp.2 (λy hy=>⟨by have:=hp.1 y hy;omega,(hr y (by simp[hy])).2⟩) (by omega);simp only[Bm];omega
structure Sys2 where
 j:Nat
 A:Nat
 m:Nat
 M:List AV
 sp:List Comp
 q:List Int
structure Sys2.OK(ks:List Kind)(w3 w4:List Int)(c:Nat)(b:Sys2):Prop where
 le:b.j<=c
 e:∃ops:List Op,b.M=ops.map opA/\∀o∈ops,OpOK ks w3 w4 o
 m:b.m=b.M.length
 mj:b.m=b.j
 sp:b.sp=[]\/∃q,b.sp=(Cd ks q).1
structure Sys1 where
 i:Nat
 A1:Nat
 A2:Nat
 A3:Nat
 A4:Nat
 n1:Nat
 n2:Nat
 n3:Nat
 n4:Nat
 M1:List AV
 M2:List AV
 M3:List AV
 M4:List AV
 q:List Int
structure Sys1.OK(ks:List Kind)(b:Sys1):Prop where
 le:b.i<=ks.length
 e:∃w1 w2 w3 w4,b.M1=w1.map iA/\b.M2=w2.map iA/\b.M3=w3.map iA/\b.M4=w4.map iA/\SysL w1 w2 w3 w4 b.i
 n1:b.n1=b.M1.length
 n2:b.n2=b.M2.length
 n3:b.n3=b.M3.length
 n4:b.n4=b.M4.length
 b1:b.n1<=b.i
 b2:b.n2<=b.i
 b3:b.n3<=b.i
 b4:b.n4<=b.i
theorem N5{i:Nat}(h:i<6):[sA [111,110,101],sA [116,119,111],sA [116,104,114,101,101],sA [102,111,117,114],sA [102,105,118,101],sA [115,105,120]][i]?=some (sA (EJ i)):=by
 have:i=0\/i=1\/i=2\/i=3\/i=4\/i=5:=by omega
 rcases this with rfl|rfl|rfl|rfl|rfl|rfl<;>rfl
theorem SI(x:Int):PS Tryz.prog 170 [iA x] (bA (decide (x=0))):=by
 refine Sp (nt:=5) (res:=[.tmp 2]) Tryz.func170 λSf=>?_
 refine JA ?_;refine AI ?_;rfl
abbrev TH:AO:=.row 76 7 [.agg [.prim (.string ByteArray.empty),.prim (.slice none 0 0),.prim (.slice none 0 0),.prim (.slice none 0 0),.prim (.slice none 0 0),.prim (.slice none 0 0),.prim (.slice none 0 0)]]
theorem Rp(G:Nat)(ks:List Kind)(l:List Int)(n:Nat)(hk:FS ks)(hf:∀k∈ks,k.fields≠[])(h0:ks≠[])(hn:n<6):Spec Tryz.prog 94 [An false false ks,.ptr G 0 0,iA n] [(G,Bb l)] λr S'=>∃b:Sys×List Int,SysOK ks n b.1/\r=Bs false b.1/\S'=[(G,Bb b.2)]:=by
 refine Sp (nt:=187) (res:=[.cell 6 76]) Tryz.func94 λSf=>?_
 have hkn:=N5 hn;have hks:=hk.1;have hk1:0<ks.length:=List.length_pos_iff.2 h0;refine RG ?_;refine AOps.g_box ?_;refine Aj ?_;refine AOps.g_box ?_;refine Aj ?_;refine WO ?_;refine Ai λR=>?_;refine NL ?_
 refine JN ?_;refine Ai λX=>?_;refine JD ?_
 refine AWP.nilIn 42 2 (Y:=X) (.cons (.agg (.cons .same (.cons .same (.cons .same (.cons .same (.cons .same (.cons .same (.cons (.base .nil) .nil)))))))) .nil) ?_;refine AWP.adoptIn (Y:=X) 195 11 (by exact At.f) (λF=>.cons (.agg (.cons .same (.cons .same (.cons .same (.cons .same (.cons .same (.cons (.base .nil) (.cons .same .nil)))))))) .nil) λA5=>?_
 refine AWP.adoptIn (Y:=X) 3 1 (by exact At.f) (λF=>.cons (.agg (.cons .same (.cons .same (.cons .same (.cons .same (.cons (.base .nil) (.cons .same (.cons .same .nil)))))))) .nil) λA4=>?_
 refine AWP.adoptIn (Y:=X) 3 1 (by exact At.f) (λF=>.cons (.agg (.cons .same (.cons .same (.cons .same (.cons (.base .nil) (.cons .same (.cons .same (.cons .same .nil)))))))) .nil) λA3=>?_
 refine AWP.adoptIn (Y:=X) 3 1 (by exact At.f) (λF=>.cons (.agg (.cons .same (.cons .same (.cons (.base .nil) (.cons .same (.cons .same (.cons .same (.cons .same .nil)))))))) .nil) λA2=>?_
 refine AWP.adoptIn (Y:=X) 3 1 (by exact At.f) (λF=>.cons (.agg (.cons .same (.cons (.base .nil) (.cons .same (.cons .same (.cons .same (.cons .same (.cons .same .nil)))))))) .nil) λA1=>?_
 refine JM ?_;refine BJ (λb:Sys1=>⟨[(3,.fp [An false false ks]),(4,.fp [.ptr G 0 0]),(6,.ptr R 0 0),(7,.ptr X 0 0),(19,iA (ks.map (BA false)).length),(20,iA b.i)],(b.A1,.row 3 1 b.M1)::(b.A2,.row 3 1 b.M2)::(b.A3,.row 3 1 b.M3)::(b.A4,.row 3 1 b.M4)::(A5,.row 195 11 [])::(X,.row 76 7 [.agg [sA (EJ n),.sl b.A1 0 b.n1,.sl b.A2 0 b.n2,.sl b.A3 0 b.n3,.sl b.A4 0 b.n4,.sl A5 0 0,.lst false 42 2 []]])::(R,TH)::(G,Bb b.q)::Sf⟩) (Sys1.OK ks) (λb=>ks.length-b.i) ⟨0,A1,A2,A3,A4,0,0,0,0,[],[],[],[],l⟩ ⟨Nat.zero_le _,⟨[],[],[],[],rfl,rfl,rfl,rfl,SysL.nil _⟩,rfl,rfl,rfl,rfl,Nat.le_refl _,Nat.le_refl _,Nat.le_refl _,Nat.le_refl _⟩ ?_;rintro⟨i,A1,A2,A3,A4,n1,n2,n3,n4,M1,M2,M3,M4,q⟩ ⟨hi,⟨w1,w2,w3,w4,h1,h2,h3,h4,hL⟩,e1,e2,e3,e4,b1,b2,b3,b4⟩;dsimp only at hi h1 h2 h3 h4 hL e1 e2 e3 e4 b1 b2 b3 b4⊢;have hi40:i<=1099511627775\/i=ks.length:=by omega
 refine KK ?_;refine AWP.cond rfl (λhc=>?_) (λhc=>?_)
 ·have h:i<ks.length:=by simpa using hc
  have h4':=Ad q (n:=4) (by decide);have c1:n1+1<=1099511627776:=by omega
  have c2:n2+1<=1099511627776:=by omega
  have c3:n3+1<=1099511627776:=by omega
  have c4:n4+1<=1099511627776:=by omega
  have ap:∀w:List Int,w.map iA++[iA (i:Int)]=(w++[(i:Int)]).map iA:=λw=>by rw[List.map_append];rfl
  have al:∀(m:Nat) (M:List AV),m=M.length->m+1=(M++[iA (i:Int)]).length:=λm M hm=>by rw[AL,hm];rfl
  refine KK ?_;refine AOps.g_callf ?_;refine AOps.o2 (h:=(CE G _ _ (by decide))) (k:=?_);refine KK ?_;refine AWP.cond rfl (λhd=>?_) (λhd=>?_)
  ·refine AWP.rs λY1=>AWP.rs λY3=>?_
   refine RU ?_;(iterate 14 refine RK ?_);refine RGo.nil (by kernel_rfl) ?_;refine KK ?_;refine Af (⟨i+1,Y3,A2,Y1,A4,n1+1,n2,n3+1,n4,M1++[iA i],M2,M3++[iA i],M4,Ac q 4⟩:Sys1) ⟨h,⟨w1++[(i:Int)],w2,w3++[(i:Int)],w4,?_,h2,?_,h4,hL.read (by omega)⟩,al _ _ e1,e2,al _ _ e3,e4,?_,?_,?_,?_⟩ (by dsimp only;omega)
   ·dsimp only;rw[h1,ap]
   ·dsimp only;rw[h3,ap]
   all_goals (dsimp only;omega)
  ·refine KK ?_
   refine AWP.cond rfl (λhe=>?_) (λhe=>?_)
   ·refine AWP.rs λY1=>AWP.rs λY3=>?_
    refine RU ?_;(iterate 14 refine RK ?_);refine RGo.nil (by kernel_rfl) ?_;refine KK ?_;refine Af (⟨i+1,Y3,A2,A3,Y1,n1+1,n2,n3,n4+1,M1++[iA i],M2,M3,M4++[iA i],Ac q 4⟩:Sys1) ⟨h,⟨w1++[(i:Int)],w2,w3,w4++[(i:Int)],?_,h2,h3,?_,hL.write (by omega)⟩,al _ _ e1,e2,e3,al _ _ e4,?_,?_,?_,?_⟩ (by dsimp only;omega)
    ·dsimp only;rw[h1,ap]
    ·dsimp only;rw[h4,ap]
    all_goals (dsimp only;omega)
   ·refine KK ?_
    refine AWP.cond rfl (λhg=>?_) (λhg=>?_)
    ·refine KK ?_;refine Ay λY=>?_;refine KK ?_
     refine Af (⟨i+1,A1,Y,A3,A4,n1,n2+1,n3,n4,M1,M2++[iA i],M3,M4,Ac q 4⟩:Sys1) ⟨h,⟨w1,w2++[(i:Int)],w3,w4,h1,?_,h3,h4,hL.without (by omega)⟩,e1,al _ _ e2,e3,e4,?_,?_,?_,?_⟩ (by dsimp only;omega)
     ·dsimp only;rw[h2,ap]
     all_goals (dsimp only;omega)
    ·refine KK ?_
     refine Af (⟨i+1,A1,A2,A3,A4,n1,n2,n3,n4,M1,M2,M3,M4,Ac q 4⟩:Sys1) ⟨h,⟨w1,w2,w3,w4,h1,h2,h3,h4,hL.weaken (by dsimp only;omega)⟩,e1,e2,e3,e4,?_,?_,?_,?_⟩ (by dsimp only;omega)
     all_goals (dsimp only;omega)
 ·have h:i=ks.length:=by rw[AQ,AB]at hc;omega
  subst h;clear hc b1 b3 b4 hi40 hi;have f1:AV.frzs M1=w1.map iA:=by rw[h1];exact Frzs.h
  have f2:AV.frzs M2=w2.map iA:=by rw[h2];exact Frzs.h
  have f3:AV.frzs M3=w3.map iA:=by rw[h3];exact Frzs.h
  have f4:AV.frzs M4=w4.map iA:=by rw[h4];exact Frzs.h
  refine R1 ?_;refine Bk (λb:List Int×List Int×List Int×List Int=>SysL b.1 b.2.1 b.2.2.1 b.2.2.2 ks.length/\b.1≠[]) (λb=>⟨[(3,.fp [An false false ks]),(4,.fp [.ptr G 0 0]),(6,.ptr R 0 0),(7,.ptr X 0 0)],(A5,.row 195 11 [])::(X,.row 76 7 [.agg [sA (EJ n),AN false b.1,AN false b.2.1,AN false b.2.2.1,AN false b.2.2.2,.sl A5 0 0,.lst false 42 2 []]])::(R,TH)::(G,Bb q)::Sf⟩) ?_ ?_
  ·refine AWP.cond rfl (λhd=>?_) (λhd=>?_)
   ·have hd:n1=0:=by rw[AF]at hd;omega
    have hw1:w1=[]:=List.eq_nil_of_length_eq_zero (by have:=congrArg List.length h1;rw[AB]at this;omega);have hn2:n2=w2.length:=by rw[e2,h2,AB]
    have hw2:w2.length<=1099511627776:=by omega
    have hz:=LA A2 w2 170 [] (λx=>decide (x=0)) rfl (by omega) (λx _=>SI x);subst hn2 h2 hw1;refine AWP.rs λY2=>?_
    refine JN ?_;refine AOps.g_callf ?_;refine AOps.z2 (h:=hz.used) (hT:=.ls (Y:=Y2)) (k:=?_);refine KO ?_;have g2:AV.frzs ((w2.filter λx=>!decide (x=0)).map iA)=(w2.filter λx=>!decide (x=0)).map iA:=Frzs.h;refine AOps.iceX Y2 ((w2.filter λx=>!decide (x=0)).map iA) g2 (.cons (.agg (.cons .same (.cons .same (.cons (.base .sl) (.cons .same (.cons .same (.cons .same (.cons .same .nil)))))))) .nil) ?_;refine AOps.iceX A3 (w3.map iA) f3 (.cons (.agg (.cons .same (.cons .same (.cons .same (.cons (.base .sl) (.cons .same (.cons .same (.cons .same .nil)))))))) .nil) ?_;refine WK ?_;exact jn ([0],w2.filter λx=>!decide (x=0),w3,[0]) ⟨hL.zero (by omega),by simp⟩
   ·have hd:n1≠0:=by rw[AQ]at hd;omega
    have hw1:w1≠[]:=by rintro rfl;rw[h1]at e1;exact hd e1
    refine AWP.iceX A1 (w1.map iA) f1 (.cons (.agg (.cons .same (.cons (.base .sl) (.cons .same (.cons .same (.cons .same (.cons .same (.cons .same .nil)))))))) .nil) ?_;refine AWP.iceX A2 (w2.map iA) f2 (.cons (.agg (.cons .same (.cons .same (.cons (.base .sl) (.cons .same (.cons .same (.cons .same (.cons .same .nil)))))))) .nil) ?_;refine AWP.iceX A3 (w3.map iA) f3 (.cons (.agg (.cons .same (.cons .same (.cons .same (.cons (.base .sl) (.cons .same (.cons .same (.cons .same .nil)))))))) .nil) ?_;refine AWP.iceX A4 (w4.map iA) f4 (.cons (.agg (.cons .same (.cons .same (.cons .same (.cons .same (.cons (.base .sl) (.cons .same (.cons .same .nil)))))))) .nil) ?_;refine WK ?_;exact jn (w1,w2,w3,w4) ⟨hL,hw1⟩
  ·rintro⟨w1,w2,w3,w4⟩ ⟨hL,hne⟩
   dsimp only at hL hne⊢;have hr3:∀x∈w3,0<=x/\x<ks.length:=λx hx=>hL.r1 x (hL.s3 x hx)
   have hr4:∀x∈w4,0<=x/\x<ks.length:=λx hx=>hL.r1 x (hL.s4 x hx)
   have hl3:=KH hL.o3 hr3 (by omega);have hl4:=KH hL.o4 hr4 (by omega);have hfl:[w3,w4].flatten=w3++w4:=by simp
   have hcc:=LD [w3,w4] (by simp) (by rw[hfl,AL];omega);rw[hfl]at hcc;have hsr:∀x∈w3++w4,0<=x/\x<ks.length:=λx hx=>by rcases List.mem_append.1 hx with h|h;exact hr3 x h;exact hr4 x h
   have hsn:w3++w4≠[]:=by
    intro e0;obtain⟨x,hx⟩:=List.exists_mem_of_ne_nil _ hne;rcases hL.all x hx with h|h
    ·have:x∈w3++w4:=by simp[h]
     rw[e0]at this;cases this
    ·have:x∈w3++w4:=by simp[h]
     rw[e0]at this;cases this
   have hap:=λl=>Wo G ks (w3++w4) l hk hsn hsr (by rw[AL];omega)
   have hao:=λl=>Ua ks (w3++w4) l hk hf hsn hsr
   have hw4:0<=Ak q 6/\Ak q 6<6:=Ad q (by decide);obtain⟨c,hc⟩:∃c:Nat,Ak q 6=c:=⟨(Ak q 6).toNat,by omega⟩;obtain⟨q0,hq0⟩:=nm (Ac q 6);refine JN ?_;refine AOps.g_callf ?_;refine AOps.c1 (h:=(hcc ..)) (k:=?_);refine WO ?_;refine Ai λV=>?_;refine JD ?_
   refine AWP.iceP [9] (X:=V) (by exact At.f) ?_ (by intro d hd;simp only[BP]at hd;subst hd;rfl);refine R1 ?_;refine JE ?_;refine AOps.g_callf ?_;refine AOps.o2 (h:=(CE G _ _ (by decide))) (k:=?_);refine JD ?_;rw[hc,hq0];refine FL ?_;refine BJ (λb:Sys2=>⟨[(3,.fp [An false false ks]),(4,.fp [.ptr G 0 0]),(6,.ptr R 0 0),(7,.ptr X 0 0),(10,.fn 172 [.fp [.ptr G 0 0],.fp [AN false (w3++w4)],.fp [An false false ks]]),(82,iA c),(83,iA b.j)],(b.A,.row 195 11 b.M)::(X,.row 76 7 [.agg [sA (EJ n),AN false w1,AN false w2,AN false w3,AN false w4,.sl b.A 0 b.m,.lst false 42 2 (b.sp.map (AH false))]])::(R,TH)::(G,Bb b.q)::Sf⟩) (Sys2.OK ks w3 w4 c) (λb=>c-b.j) ⟨0,A5,0,[],[],q0⟩ ⟨Nat.zero_le _,⟨[],rfl,by simp⟩,rfl,rfl,.inl rfl⟩ ?_;rintro⟨j,A,m,M,sp,q⟩ ⟨hj,⟨ops,hM,hO⟩,hm,hmj,hsp⟩;dsimp only at hj hM hm hmj hsp⊢;refine KK ?_;refine AWP.cond rfl (λhd=>?_) (λhd=>?_)
   ·have hjc:j<c:=by rw[AF]at hd;omega
    have hd13:=Ad q (n:=13) (by decide);obtain⟨d,hdd⟩:=nm (Ak q 13);obtain⟨q1,hq1⟩:=nm (Ac q 13);have ha:=hao q1;have hap1:=hap q1;obtain⟨a,haa⟩:=nm ((FJ ks (w3++w4) q1).1);obtain⟨q2,hq2⟩:=nm ((FJ ks (w3++w4) q1).2);rw[haa]at ha hap1;rw[hq2]at hap1;have hn13:=CE G q 13 (by decide);rw[hdd,hq1]at hn13;rw[hdd]at hd13;refine JE ?_;refine AOps.g_callf ?_;refine AOps.o2 (h:=(hn13 ..)) (k:=?_);refine WO ?_;refine AOps.g_callv ?_;refine AOps.q0 (h:=(hap1 ..)) (k:=?_);refine KO ?_;refine Ai λO=>?_;refine JD ?_
    refine R1 ?_;refine Bk (λb:Arg×List Int=>if G9 d then Mw ks (w3++w4) b.1 else b.1=Fq) (λb=>⟨[(3,.fp [An false false ks]),(4,.fp [.ptr G 0 0]),(6,.ptr R 0 0),(7,.ptr X 0 0),(10,.fn 172 [.fp [.ptr G 0 0],.fp [AN false (w3++w4)],.fp [An false false ks]]),(11,.ptr O 0 0),(82,iA c),(83,iA j)],(O,.row 195 11 [opA ⟨d,⟨0,0⟩,a,b.1⟩])::(A,.row 195 11 M)::(X,.row 76 7 [.agg [sA (EJ n),AN false w1,AN false w2,AN false w3,AN false w4,.sl A 0 m,.lst false 42 2 (sp.map (AH false))]])::(R,TH)::(G,Bb b.2)::Sf⟩) ?_ ?_
    ·refine AWP.cond rfl (λhg=>?_) (λhg=>?_)
     ·have htw:G9 d=true:=by
       unfold G9;simp only[Bool.or_eq_true,Bool.and_eq_true,AF]at hg⊢;omega
      have hap2:=hap q2;have ha2:=hao q2;refine KK ?_;refine AOps.g_callv ?_;refine AOps.q0 (h:=(hap2 ..)) (k:=?_);refine KK ?_;exact jn ((FJ ks (w3++w4) q2).1,(FJ ks (w3++w4) q2).2) (by rw[if_pos htw];exact ha2)
     ·have htw:G9 d=false:=by
       unfold G9;simp only[Bool.or_eq_false_iff,Bool.and_eq_false_iff,AQ]at hg⊢;omega
      refine WK ?_;exact jn (Fq,q2) (by rw[htw];rfl)
    ·rintro⟨b,q3⟩ hb
     dsimp only at hb⊢;refine Uv (λb:Op×List Comp×List Int=>OpOK ks w3 w4 b.1/\(b.2.1=[]\/∃q,b.2.1=(Cd ks q).1)) (λb=>⟨[(3,.fp [An false false ks]),(4,.fp [.ptr G 0 0]),(6,.ptr R 0 0),(7,.ptr X 0 0),(10,.fn 172 [.fp [.ptr G 0 0],.fp [AN false (w3++w4)],.fp [An false false ks]]),(11,.ptr O 0 0),(82,iA c),(83,iA j)],(O,.row 195 11 [opA b.1])::(A,.row 195 11 M)::(X,.row 76 7 [.agg [sA (EJ n),AN false w1,AN false w2,AN false w3,AN false w4,.sl A 0 m,.lst false 42 2 (b.2.1.map (AH false))]])::(R,TH)::(G,Bb b.2.2)::Sf⟩) ?_ ?_
     ·refine KK ?_
      refine AWP.cond rfl (λhg=>?_) (λhg=>?_)
      ·have hap3:=hap q3
       have ha3:=hao q3;refine JL ?_;refine RGo.g_callv ?_;refine RGo.q0 (h:=(hap3 ..)) (k:=?_);refine JG ?_;refine RGo.nil (by kernel_rfl) ?_;refine WK ?_;exact jn (⟨12,⟨0,0⟩,a,(FJ ks (w3++w4) q3).1⟩,sp,(FJ ks (w3++w4) q3).2) ⟨⟨by dsimp only;omega,by dsimp only;omega,ha,ha3,λh=>by dsimp only at h;omega,λh=>by dsimp only at h;omega,λ_=>rfl⟩,hsp⟩
      ·have hg':¬(d<=7/\w4.length=0):=by
        simp only[Bool.and_eq_false_iff,AQ,AB]at hg;omega
       refine KK ?_;refine AWP.cond rfl (λhs=>?_) (λhs=>?_)
       ·have hs:d<=7:=by simpa using hs
        have hw0:0<w4.length:=by omega
        have hv:=Ad q3 (n:=w4.length) (by omega);obtain⟨i,hi⟩:∃i:Nat,Ak q3 w4.length=i:=⟨(Ak q3 w4.length).toNat,by omega⟩;have hil:i<w4.length:=by omega
        obtain⟨k,hk4⟩:∃k:Nat,w4[i]=k:=⟨w4[i].toNat,by have:=hr4 _ (AK hil);omega⟩;have hkl:k<ks.length:=by have:=hr4 _ (AK hil);omega
        have hkm:(k:Int)∈w4:=by rw[<-hk4];exact AK hil
        have hkf:=(hk.2 _ (AK hkl)).1;have hfd:=NZ (ks:=ks) (i:=k) rfl hkl;have hfp:0<ks[k].fields.length:=List.length_pos_iff.2 (hf _ (AK hkl))
        have hon:PO Tryz.prog 52 [.ptr G 0 0,iA (w4.map iA).length] G (Bb q3) (iA i) (Bb (Ac q3 w4.length)):=by
         have:=CE G q3 w4.length (by omega);rw[hi]at this;rw[AB];exact this
        have hon2:=CE G (Ac q3 w4.length) (ks[k].fields.map fieldA).length (by rw[AB];omega);have hv2:=Ad (Ac q3 w4.length) (n:=(ks[k].fields.map fieldA).length) (by rw[AB];omega);refine JL ?_;refine RGo.g_callf ?_;refine RGo.o2 (h:=(hon ..)) (k:=?_);(iterate 3 refine RK ?_);refine RGo.nil (by kernel_rfl) ?_;rw[hk4];refine JL ?_;refine RGo.g_callf ?_;refine RGo.o2 (h:=(hon2 ..)) (k:=?_);(iterate 3 refine RK ?_);refine RGo.nil (by kernel_rfl) ?_;refine WK ?_;refine jn (⟨d,⟨k,Ak (Ac q3 w4.length) (ks[k].fields.map fieldA).length⟩,a,b⟩,sp,_) ⟨⟨by dsimp only;omega,by dsimp only;omega,ha,hb,λ_=>⟨⟨by dsimp only;omega,by dsimp only;omega,hv2.1,by dsimp only;rw[hfd];exact hv2.2⟩,hkm⟩,λh=>by dsimp only at h;omega,λh=>by dsimp only at h;omega⟩,hsp⟩
       ·have hs:¬d<=7:=by simpa using hs
        refine KK ?_;refine AWP.cond rfl (λhu=>?_) (λhu=>?_)
        ·have hu:d=8\/d=9:=by simpa using hu
         have hon:=CE G q3 (ks.map (BA false)).length (by rw[AB];omega);have hv:=Ad q3 (n:=(ks.map (BA false)).length) (by rw[AB];omega);have hv2:=hv.2;rw[AB]at hv2;refine KK ?_;refine AOps.g_callf ?_;refine AOps.o2 (h:=(hon ..)) (k:=?_);refine KK ?_;refine jn (⟨d,⟨Ak q3 (ks.map (BA false)).length,0⟩,a,b⟩,sp,_) ⟨⟨by dsimp only;omega,by dsimp only;omega,ha,hb,λh=>by dsimp only at h;omega,λ_=>⟨hv.1,by dsimp only;rw[AB];exact hv2,rfl⟩,λh=>by dsimp only at h;omega⟩,hsp⟩
        ·have hu:¬(d=8\/d=9):=by simpa using hu
         refine KK ?_;refine AWP.cond rfl (λhx=>?_) (λhx=>?_)
         ·have hcp:=O0 G ks q3 hk
          refine KK ?_;refine AOps.g_callf ?_;refine AOps.o2 (h:=(hcp ..)) (k:=?_);refine KK ?_;refine jn (⟨d,⟨0,0⟩,a,b⟩,(Cd ks q3).1,(Cd ks q3).2) ⟨⟨by dsimp only;omega,by dsimp only;omega,ha,hb,λh=>by dsimp only at h;omega,λh=>by dsimp only at h;omega,λ_=>rfl⟩,.inr ⟨q3,rfl⟩⟩
         ·refine KK ?_
          refine jn (⟨d,⟨0,0⟩,a,b⟩,sp,q3) ⟨⟨by dsimp only;omega,by dsimp only;omega,ha,hb,λh=>by dsimp only at h;omega,λh=>by dsimp only at h;omega,λ_=>rfl⟩,hsp⟩
     ·rintro⟨o,sp',q4⟩ ⟨ho,hsp'⟩
      dsimp only at ho hsp'⊢;have hm1:m+1<=1099511627776:=by omega
      (iterate 4 refine WK ?_);refine AOps.g_lit ?_;refine AOps.goL (opA o) ?_;refine WK ?_;refine Ay λY=>?_;refine KK ?_
      refine Af (⟨j+1,Y,m+1,M++[opA o],sp',q4⟩:Sys2) ⟨hjc,⟨ops++[o],by dsimp only;rw[hM,List.map_append];rfl,λo' ho'=>?_⟩,by dsimp only;rw[AL,hm];rfl,by dsimp only;omega,hsp'⟩ (by dsimp only;omega);rcases List.mem_append.1 ho' with h|h
      ·exact hO o' h
      ·rw[List.mem_singleton.1 h];exact ho
   ·have hjc:j=c:=by rw[AQ]at hd;omega
    subst hjc;have fM:AV.frzs M=ops.map opA:=by rw[hM];exact Frzs.h
    refine FL ?_;refine AWP.iceX A (ops.map opA) fM (.cons (.agg (.cons .same (.cons .same (.cons .same (.cons .same (.cons .same (.cons (.base .sl) (.cons .same .nil)))))))) .nil) ?_;refine JA ?_;have hlen:ops.length<=5:=by rw[hM,AB]at hm;omega
    exact⟨[Bs false ⟨EJ n,w1,w2,w3,w4,ops,sp⟩],[Bs false ⟨EJ n,w1,w2,w3,w4,ops,sp⟩],_,[(G,Bb q)],.cons (.cell rfl (by exact At.f) TAg.h TSize.h rfl rfl) rfl .nil,LZ _ _,by exact Sub.f,(⟨EJ n,w1,w2,w3,w4,ops,sp⟩,q),⟨rfl,hL,hne,hlen,hO,hsp⟩,rfl,rfl⟩
def XT:Arg:=⟨true,0,⟨0,0⟩⟩
def olderS:Sys:=⟨[111,108,100,101,114],[0],[],[],[0],[⟨1,⟨0,0⟩,XT,⟨false,1,⟨0,0⟩⟩⟩,⟨12,⟨0,0⟩,⟨false,1,⟨0,0⟩⟩,XT⟩],[]⟩
theorem Ok(l:List Int):0<(DC l).kinds.length/\(DC l).kinds.length<=4:=⟨H3 l,(Kp l).1⟩
theorem RM{ks:List Kind}{rd wr:List Int}{a:Arg}(h:Mw ks (rd++wr) a):ArgG ks rd wr a:=by
 refine⟨λe=>?_,λe=>?_⟩
 ·obtain⟨h1,h2,h3⟩:=h.1 e
  refine⟨h1,h2,?_⟩;rw[CS]at h3;rcases h3 with h3|h3
  ·exact .inl (by simpa using h3)
  ·exact .inr (by simpa using h3)
 ·obtain⟨h1,h2,h3⟩:=h.2 e
  exact⟨by omega,by omega,h3⟩
theorem TZ{ks:List Kind}{rd wr:List Int}{o:Op}(h:OpOK ks rd wr o):OpG ks rd wr o:=by
 refine⟨h.lo,h.hi,RM h.a,?_,?_,?_,h.puts,h.none⟩
 ·have hb:=h.b
  split at hb
  ·exact RM hb
  ·rw[hb]
   exact⟨λe=>(by cases e),λ_=>⟨by decide,by decide,rfl⟩⟩
 ·intro e
  have hb:=h.b;rw[if_neg (by rw[e];decide)]at hb;exact hb
 ·intro e
  have:o.act<=7:=by unfold GO at e;simp at e;exact e.2
  obtain⟨h1,h2⟩:=h.sets this;exact⟨h1,by simpa using h2⟩
theorem Od:∀(l:List Int) (a n:Int),l.Pairwise (· < ·)->(∀x∈l,a<=x/\x<n)->a<=n->(l.length:Int)<=n-a
 |[],a,n,_,_,h=>by simp;omega
 |x::l,a,n,hp,hr,h=>by
  obtain⟨h1,h2⟩:=List.pairwise_cons.1 hp;obtain⟨h3,h4⟩:=hr x (by simp)
  have:=Od l (x+1) n h2 (λy hy=>by
   have e1:=h1 y hy;have e2:=(hr y (by simp[hy])).2;omega) (by omega)
  rw[Bm];omega
theorem U6{ks:List Kind}{n:Nat}{s:Sys}(hk:Ag ks=0)(hg:KsGood ks)(hn:n<6)(h:SysOK ks n s):SysG ks s:=by
 have h16:=(Bn hk).1;have hl:=h.lists
 have hin:∀l:List Int,l.Pairwise (· < ·)->(∀x∈l,0<=x/\x<(ks.length:Int))->l.length<=16:=λl h1 h2=>by
  have:=Od l 0 ks.length h1 h2 (by omega);omega
 have r3:∀x∈s.reads,0<=x/\x<(ks.length:Int):=λx hx=>hl.r1 x (hl.s3 x hx)
 have r4:∀x∈s.writes,0<=x/\x<(ks.length:Int):=λx hx=>hl.r1 x (hl.s4 x hx)
 have hsp:(CH ks s.spawn).2=0/\s.spawn.length<=1099511627776:=by
  rcases h.spawn with e|⟨q,e⟩
  ·rw[e];exact⟨by rw[IM hk (by rfl)],by simp⟩
  ·rw[e]
   have hh:=HG hg q;have:=(ED hk hh).1;exact⟨by rw[IM hk hh],by omega⟩
 refine⟨?_,by have:=h.len;omega,?_,?_,?_,hsp.1,hsp.2,λo ho=>TZ (h.ops o ho)⟩
 ·rw[h.name]
  rcases(show n=0\/n=1\/n=2\/n=3\/n=4\/n=5 by omega)with rfl|rfl|rfl|rfl|rfl|rfl<;>decide
 ·intro l hl'
  simp only[BO,List.not_mem_nil,or_false]at hl';rcases hl' with rfl|rfl|rfl|rfl
  ·exact⟨hl.o1,hl.r1,hin _ hl.o1 hl.r1⟩
  ·exact⟨hl.o2,hl.r2,hin _ hl.o2 hl.r2⟩
  ·exact⟨hl.o3,r3,hin _ hl.o3 r3⟩
  ·exact⟨hl.o4,r4,hin _ hl.o4 r4⟩
 ·rw[List.any_eq_false]
  intro x hx;have:=hl.d x hx;simpa using this
 ·rw[List.any_eq_false]
  intro x hx;rw[CS]at hx;have:x∈s.wth:=by exact hx.elim (hl.s3 x) (hl.s4 x)
  simpa using this
theorem Pz:∀o∈olderS.ops,OpOK baseWd.kinds olderS.reads olderS.writes o:=by
 intro o ho;simp only[olderS,BO,List.not_mem_nil,or_false]at ho;rcases ho with rfl|rfl
 ·refine⟨by decide,by decide,⟨λ_=>⟨rfl,by unfold IG;decide,by decide⟩,λe=>(by cases e)⟩,?_,λ_=>⟨by unfold IG;decide,by decide⟩,λe=>?_,λe=>?_⟩
  ·rw[if_pos (by decide)]
   exact⟨λe=>(by cases e),λ_=>⟨by decide,by decide,rfl⟩⟩
  ·rcases e with e|e<;>simp at e
  ·simp at e
 ·refine⟨by decide,by decide,⟨λe=>(by cases e),λ_=>⟨by decide,by decide,rfl⟩⟩,?_,λe=>?_,λe=>?_,λe=>rfl⟩
  ·rw[if_pos (by decide)]
   exact⟨λ_=>⟨rfl,by unfold IG;decide,by decide⟩,λe=>(by cases e)⟩
  ·simp at e
  ·rcases e with e|e<;>simp at e
theorem Py:SysG baseWd.kinds olderS:=by
 refine⟨by decide,by decide,by decide,by decide,by decide,by decide,by decide,λo ho=>TZ (Pz o ho)⟩
theorem Vv:WdOK baseWd:=(BK _).1 (by decide)
def SyssOK(ks:List Kind)(l:List Sys):Prop:=l.length<=5/\∀i (h:i<l.length),SysOK ks i l[i]
theorem PY(ks:List Kind)(l:List Int)(hk:FS ks)(hf:∀k∈ks,k.fields≠[])(h0:ks≠[]):Spec Tryz.prog 42 [An false false ks,AN false l] [] λr S'=>∃b:List Sys,SyssOK ks b/\r=Ea true b/\S'=[]:=by
 refine Sp (nt:=25) (res:=[.tmp 4]) Tryz.func42 λSf=>?_
 have h6:=Ad l (n:=6) (by decide);obtain⟨c,hc⟩:∃c:Nat,Ak l 6=c:=⟨(Ak l 6).toNat,by omega⟩;obtain⟨q0,hq0⟩:=nm (Ac l 6);refine KK ?_;refine Ai λG=>?_;refine KK ?_;refine AOps.g_callf ?_;refine AOps.o2 (h:=(CE G _ _ (by decide))) (k:=?_);refine KK ?_
 rw[hc,hq0];refine AWP.adopt (d:=6) 76 7 rfl λK=>?_
 refine Nn (λ(i K m:Nat) (M:List AV) (q:List Int)=>⟨[(0,An false false ks),(5,.ptr G 0 0),(6,.sl K 0 m),(12,iA c),(13,iA i)],(K,.row 76 7 M)::(G,Bb q)::Sf⟩) (λi _ m M _=>i<=c/\m=i/\∃b:List Sys,M=b.map (Bs false)/\b.length=i/\∀j (h:j<b.length),SysOK ks j b[j]) (λi _ _ _ _=>c-i) 0 K 0 [] q0 ⟨Nat.zero_le _,rfl,[],rfl,rfl,λj h=>absurd h (by simp)⟩ ?_;rintro i K m M q ⟨hi,hm,b,hM,hb,hO⟩;refine KK ?_;refine AWP.cond rfl (λhd=>?_) (λhd=>?_)
 ·have h:i<c:=by rw[AF]at hd;omega
  have hs:=Rp G ks q i hk hf h0 (by omega);have hm1:m+1<=1099511627776:=by omega
  have hml:m=M.length:=by rw[hM,AB,hb,hm]
  refine R1 ?_;refine AWP.region ?_;refine AOps.go ?_;refine AOps.go ?_;refine AOps.go ?_;refine AOps.go ?_;refine Ux (h:=hs) λs hsO=>?_
  refine AOps.g_lit ?_;refine AOps.goL (Bs false s.1) ?_;refine WK ?_;refine Ay λY=>?_;refine KK ?_
  refine H0 (i+1) Y (m+1) (M++[Bs false s.1]) s.2 ⟨h,by rw[hm],b++[s.1],by rw[hM,List.map_append];rfl,by rw[AL,hb];rfl,λj hj=>?_⟩;rw[AL]at hj;by_cases hjb:j<b.length
  ·rw[List.getElem_append_left hjb];exact hO j hjb
  ·have:j=b.length:=by simp at hj;omega
   subst this;rw[List.getElem_append_right (Nat.le_refl _)];simp only[Nat.sub_self,List.getElem_cons_zero];rw[hb];exact hsO
 ·have h:i=c:=by rw[AQ]at hd;omega
  subst h;refine JA ?_;subst hM;have hml:m=(b.map (Bs false)).length:=by rw[AB,hb,hm]
  exact⟨[.sl K 0 m],[Ea true b],_,[],.cons (.tmp rfl) rfl .nil,.cons (.cell (.sl (p:=0) .here hml)) .nil,by exact Sub.f,b,⟨by omega,hO⟩,rfl,rfl⟩
theorem JX(l:List Int):(DC l).kinds≠[]/\∀k∈(DC l).kinds,k.fields≠[]:=by
 have hp:=H3 l;refine⟨λe=>?_,?_⟩
 ·have e':(Ap l).1=[]:=e
  rw[e']at hp;simp at hp
 ·show∀k∈(Ap l).1,k.fields≠[]
  rw[ES];intro k hk
  have:∀i q,∀k∈(kAt i q).1,k.fields≠[]:=by
   intro i q
   induction i with
   |zero=>intro k hk;cases hk
   |succ i ih=>
    intro k hk;rcases List.mem_append.1 hk with hk|hk
    ·exact ih k hk
    ·rw[List.mem_singleton.1 hk]
     show(Ba 0 (1+Ak (kAt i q).2 3).toNat (Ac (kAt i q).2 3)).1≠[]
     have h3:=Ad (kAt i q).2 (n:=3) (by decide);rw[F5];intro e;have:=congrArg List.length e;rw[RH]at this;simp at this;omega
  exact this _ _ k hk
theorem olderT:TickG baseWd [olderS]:=⟨Vv,by decide,λs hs=>(List.mem_singleton.1 hs).symm▸Py,by decide⟩
theorem SyssOK.gs{w:Wd}{b:List Sys}(hw:WdOK w)(hg:KsGood w.kinds)(h4:w.kinds.length<=4)(h:SyssOK w.kinds b):TickG w b:=
 ⟨hw,by omega,λs hs=>by
  obtain⟨i,hi,rfl⟩:=List.getElem_of_mem hs;have:=h.1;exact U6 hw.ks hg (by omega) (h.2 i hi),by have:=h.1;omega⟩
theorem Ly(a b:List Kind)(f:FuncId)(cap:List AV)(p:Kind->Kind->Bool)(hs:B4 cap=true)(hl:a.length<=4611686018427387904)(hf:∀x∈a,∀y∈b,PS Tryz.prog f ((BA false) x::(BA false) y::cap) (bA (p x y))):
  PS Tryz.prog 104 [.lst false 118 2 (a.map (BA false)),.lst false 118 2 (b.map (BA false)),.fn f cap] (bA (eqF p a b)):=by
 refine Sp (nt:=32) (res:=[.tmp 6]) Tryz.func104 λSf=>?_
 refine KK ?_;refine AWP.cond rfl (λhb=>?_) (λhb=>?_)
 ·have hb:a.length≠b.length:=by simp at hb;omega
  refine JA ?_;refine AI ?_;rw[Jm hb]
 ·have hb:a.length=b.length:=by simp at hb;omega
  refine KK ?_;refine BJ (λi:Nat=>⟨[(0,.lst false 118 2 (a.map (BA false))),(1,.lst false 118 2 (b.map (BA false))),(2,.fn f cap),(15,.lst false 118 2 (a.map (BA false))),(16,iA (a.map (BA false)).length),(17,iA i)],Sf⟩) (λi=>i<=a.length/\∀j (h:j<a.length),j<i->p a[j] (b[j]'(by omega))=true) (λi=>a.length-i) 0 ⟨Nat.zero_le _,λj h hj=>absurd hj (by omega)⟩ ?_;rintro i ⟨hi,he⟩;refine KK ?_;refine AWP.cond rfl (λhc=>?_) (λhc=>?_)
  ·have h:i<a.length:=by simpa using hc
   have h':i<b.length:=by omega
   refine KK ?_;refine Ai λX=>?_;refine KK ?_;refine Ai λX=>?_;refine KK ?_;refine AOps.g_callv ?_;refine AOps.k2 (h:=(hf _ (AK h) _ (AK h'))) (k:=?_);refine KK ?_
   refine AWP.cond rfl (λhd=>?_) (λhd=>?_)
   ·have hd:p a[i] b[i]=false:=by simpa using hd
    refine JA ?_;refine AI ?_;rw[Nb hb h hd]
   ·have hd:p a[i] b[i]=true:=by simpa using hd
    refine KK ?_;refine Af (i+1) ⟨h,λj h1 h2=>?_⟩;by_cases e:j=i
    ·subst e;exact hd
    ·exact he j h1 (by omega)
  ·have h:¬i<a.length:=by simpa using hc
   refine JA ?_;refine AI ?_;rw[Jl hb λj hj=>he j hj (by omega)]
theorem SU(a b:List Field)(hl:a.length<=1099511627776):PS Tryz.prog 106 [Ee false a,Ee false b] (bA (decide (a=b))):=by
 refine Sp (nt:=26) (res:=[.tmp 4]) Tryz.func106 λSf=>?_
 refine KK ?_;refine AWP.cond rfl (λhb=>?_) (λhb=>?_)
 ·have hb:a.length≠b.length:=by simp at hb;omega
  refine JA ?_;refine AI ?_;rw[AY λe=>hb (by rw[e])]
 ·have hb:a.length=b.length:=by simp at hb;omega
  refine KK ?_;refine BJ (λi:Nat=>⟨[(0,Ee false a),(1,Ee false b),(12,iA (a.map fieldA).length),(13,iA i)],Sf⟩) (λi=>i<=a.length/\∀j (h:j<a.length),j<i->a[j]=b[j]'(by omega)) (λi=>a.length-i) 0 ⟨Nat.zero_le _,λj h hj=>absurd hj (by omega)⟩ ?_;rintro i ⟨hi,he⟩;refine KK ?_;refine AWP.cond rfl (λhc=>?_) (λhc=>?_)
  ·have h:i<a.length:=by simpa using hc
   have h':i<b.length:=by omega
   obtain⟨f,hf⟩:=nm (a[i]);obtain⟨g,hg⟩:=nm (b[i]);have haf:(a.map fieldA)[i]?=some (fieldA f):=by rw[AG,AE h,hf];rfl
   have hag:(b.map fieldA)[i]?=some (fieldA g):=by rw[AG,AE h',hg];rfl
   refine KK ?_;refine RU ?_;(iterate 8 refine RK ?_);refine RGo.gN ?_;refine RGo.p (W.neP _ _ (by kernel_rfl) (UF f g) rfl rfl) rfl ?_;refine RGo.nil (by kernel_rfl) ?_;refine WK ?_;refine AWP.cond rfl (λhd=>?_) (λhd=>?_)
   ·have hd:f≠g:=by simpa using hd
    refine JA ?_;refine AI ?_;rw[AY λe=>hd (by subst e;rw[<-hf,<-hg])]
   ·have hd:f=g:=by simpa using hd
    refine KK ?_;refine Af (i+1) ⟨h,λj h1 h2=>?_⟩;by_cases e:j=i
    ·subst e;rw[hf,hg,hd]
    ·exact he j h1 (by omega)
  ·have h:¬i<a.length:=by simpa using hc
   refine JA ?_;refine AI ?_;rw[Ae (List.ext_getElem hb λj h1 h2=>he j h1 (by omega))]
theorem We(x y:Kind):(decide (x.name=y.name)&&decide (x.fields=y.fields))=decide (x=y):=by
 obtain⟨k,v⟩:=x;obtain⟨k',v'⟩:=y;rw[Bool.eq_iff_iff];simp
theorem Wk{P:Program}{t te:TypeId}(h1:P.underlying t=some (.struct (P.fieldsOf t)))(h2:P.stoodInHeld t=false)(h:ev3 P t te=true)(g1:P.underlying te=some (.struct (P.fieldsOf te)))(g2:P.stoodInHeld te=false)(g3:TD P te=true)
  (hp:∀(a b c d:Int) (w:World),(part te #[.int .i64 a,.int .i64 b,.int .i64 c,.int .i64 d] 1).run P w= .ok (.agg #[.int .i64 b,.int .i64 c]) w) (a b c d a' b' c' d':Int) (w:World):
  (Op.equalIn 10000 t (.agg #[.int .i64 a,.int .i64 b,.int .i64 c,.int .i64 d]) (.agg #[.int .i64 a',.int .i64 b',.int .i64 c',.int .i64 d'])).run P w= .ok (decide (a=a')&&(decide (b=b')&&decide (c=c'))&&decide (d=d')) w:=by
 rw[show(10000:Nat)=9999+1 from rfl,run_equalIn_agg w 9999 t _ _ h1 h2];unfold ev3 at h;split at h
 ·rename_i f1 f2 f3 hf
  simp only[Bool.and_eq_true,bne_iff_ne,ne_eq,beq_iff_eq]at h;obtain⟨⟨⟨⟨⟨⟨⟨n1,n2⟩,n3⟩,o1⟩,o2⟩,o3⟩,o4⟩,hu⟩:=h;have o4:=Nat.eq_of_beq_eq_true o4;subst o4;split at hu
  ·rename_i k1 k3 u1 u3
   have p1:∀a b c d:Int,(part f1.type #[.int .i64 a,.int .i64 b,.int .i64 c,.int .i64 d] f1.offset).run P w= .ok (.int .i64 a) w:=λa b c d=>DK u1 (by rw[o1];rfl) w
   have p2:∀a b c d:Int,(part f2.type #[.int .i64 a,.int .i64 b,.int .i64 c,.int .i64 d] f2.offset).run P w= .ok (.agg #[.int .i64 b,.int .i64 c]) w:=λa b c d=>by rw[o2];exact hp a b c d w
   have p3:∀a b c d:Int,(part f3.type #[.int .i64 a,.int .i64 b,.int .i64 c,.int .i64 d] f3.offset).run P w= .ok (.int .i64 d) w:=λa b c d=>DK u3 (by rw[o3];rfl) w
   have q1:∀a c:Int,(Op.equalIn 9999 f1.type (.int .i64 a) (.int .i64 c)).run P w= .ok (a==c) w:=λa c=>run_equalIn_int (P:=P) w 9998 f1.type .i64 k1 a c u1
   have q2:∀a b c d:Int,(Op.equalIn 9999 f2.type (.agg #[.int .i64 a,.int .i64 b]) (.agg #[.int .i64 c,.int .i64 d])).run P w= .ok (decide (a=c)&&decide (b=d)) w:=λa b c d=>Vp 9997 g1 g2 g3 a b c d w
   have q3:∀a c:Int,(Op.equalIn 9999 f3.type (.int .i64 a) (.int .i64 c)).run P w= .ok (a==c) w:=λa c=>run_equalIn_int (P:=P) w 9998 f3.type .i64 k3 a c u3
   rw[hf];by_cases e1:a=a'
   ·by_cases e2:b=b'
    ·by_cases e4:c=c'
     ·by_cases e3:d=d'
      ·simp[Op.eqFields,n1,n2,n3,Sem.run_bind,p1,p2,p3,q1,q2,q3,e1,e2,e3,e4,Sem.run_pure,Sem.run_ite,Result.andThen_ok]
      ·simp[Op.eqFields,n1,n2,n3,Sem.run_bind,p1,p2,p3,q1,q2,q3,e1,e2,e3,e4,Sem.run_pure,Sem.run_ite,Result.andThen_ok]
     ·simp[Op.eqFields,n1,n2,Sem.run_bind,p1,p2,q1,q2,e1,e2,e4,Sem.run_pure,Sem.run_ite,Result.andThen_ok]
    ·simp[Op.eqFields,n1,n2,Sem.run_bind,p1,p2,q1,q2,e1,e2,Sem.run_pure,Sem.run_ite,Result.andThen_ok]
   ·simp[Op.eqFields,n1,Sem.run_bind,p1,q1,e1,Sem.run_pure,Sem.run_ite,Result.andThen_ok]
  ·cases hu
 ·cases h
theorem Vm(a b c d:Int)(w:World):(binOp .neq 86 (.agg [Value.int .i64 a,Value.int .i64 b,Value.int .i64 c,Value.int .i64 d].toArray) (.agg [Value.int .i64 a,Value.int .i64 b,Value.int .i64 c,Value.int .i64 d].toArray)).run Tryz.prog w= .ok (.bool false) w:=by
 have h:=Wk (P:=Tryz.prog) (t:=86) (te:=32) (by kernel_rfl) (by kernel_rfl) (by kernel_rfl) (by kernel_rfl) (by kernel_rfl) (by kernel_rfl) (λa b c d w=>by kernel_rfl) a b c d a b c d w;rw[run_neq_struct];have e:(Op.equalIn 10000 86 (.agg [Value.int .i64 a,Value.int .i64 b,Value.int .i64 c,Value.int .i64 d].toArray) (.agg [Value.int .i64 a,Value.int .i64 b,Value.int .i64 c,Value.int .i64 d].toArray)).run Tryz.prog w=_:=h;rw[e,Result.andThen_ok];simp
theorem QP(l:List Evt)(hl:l.length<=1099511627776):PS Tryz.prog 41 [.lst false 86 4 (l.map Cr),.lst false 86 4 (l.map Cr)] (bA true):=by
 refine Sp (nt:=26) (res:=[.tmp 4]) Tryz.func41 λSf=>?_
 refine KK ?_;refine AA rfl (by simp) ?_;refine KK ?_;refine BJ (λi:Nat=>⟨[(0,.lst false 86 4 (l.map Cr)),(1,.lst false 86 4 (l.map Cr)),(12,iA (l.map Cr).length),(13,iA i)],Sf⟩) (λi=>i<=l.length) (λi=>l.length-i) 0 (Nat.zero_le _) ?_;rintro i hi;refine KK ?_;refine AWP.cond rfl (λhc=>?_) (λhc=>?_)
 ·have h:i<l.length:=by rw[AF,AB]at hc;omega
  obtain⟨⟨es,⟨en,eg⟩,ev⟩,hx⟩:=nm (l[i]);have hat:(l.map Cr)[i]?=some (Cr ⟨es,⟨en,eg⟩,ev⟩):=by rw[AG,AE h,hx];rfl
  refine KK ?_;refine RU ?_;(iterate 8 refine RK ?_);refine RGo.gN ?_;refine RGo.p (W.neP _ _ (by kernel_rfl) (Vm es en eg ev) rfl rfl) rfl ?_;refine RGo.nil (by kernel_rfl) ?_;refine WK ?_;refine AA rfl rfl ?_;refine KK ?_;refine Af (i+1) h
 ·refine KK ?_
  refine RT ?_;refine AI ?_;rfl
theorem Ru:PS Tryz.prog 92 [] (wdA false baseWd):=by
 refine Sp (nt:=14) (res:=[.cell 0 26]) Tryz.func92 λSf=>?_
 refine KK ?_;refine Ai λX=>?_;refine KK ?_
 refine RT ?_;refine FT (rs:=[wdA false baseWd]) rfl (.cons (.cell (p:=0) rfl .here TAg.h TSize.h rfl rfl) rfl .nil)
theorem Pn:PS Tryz.prog 93 [] (Bs false olderS):=by
 refine Sp (nt:=13) (res:=[.cell 0 76]) Tryz.func93 λSf=>?_
 refine JE ?_;refine Ai λR=>?_;refine NL ?_
 refine KK ?_;refine Ai λX=>?_;refine KK ?_
 refine AWP.nilIn 3 1 (Y:=R) (.cons (.agg (.cons .same (.cons .same (.cons (.base .nil) (.cons (.base .nil) (.cons .same (.cons .same (.cons .same .nil)))))))) .nil) ?_;refine AWP.nilIn 42 2 (Y:=R) (.cons (.agg (.cons .same (.cons .same (.cons .same (.cons .same (.cons .same (.cons .same (.cons (.base .nil) .nil)))))))) .nil) ?_;refine RT ?_;exact FT (rs:=[Bs false olderS]) rfl (.cons (.cell rfl (by exact At.f) TAg.h TSize.h rfl rfl) rfl .nil)
theorem Pm(x y:Comp)(hl:x.vals.length<=1099511627776):PS Tryz.prog 103 [AH false x,AH false y] (bA (decide (x=y))):=by
 have heq:=Ik x.vals y.vals hl;rw[<-Wm];refine Sp (nt:=17) (res:=[.tmp 4]) Tryz.func103 λSf=>?_
 refine RG ?_;refine AOps.g_box ?_;refine Aj ?_;refine AOps.g_box ?_;refine Aj ?_;refine JD ?_;rcases Bool.eq_false_or_eq_true (decide (x.kind=y.kind))with g|g
 ·rw[g]
  refine KK ?_;refine AOps.g_callf ?_;refine AOps.c2 (h:=(heq ..)) (k:=?_);refine JA ?_;refine AI ?_;rfl
 ·rw[g]
  refine JA ?_;refine AI ?_;rfl
theorem Pk(x y:Kind)(hl:x.fields.length<=1099511627776):PS Tryz.prog 105 [BA false x,BA false y] (bA (decide (x=y))):=by
 have heq:=SU x.fields y.fields hl;rw[<-We];refine Sp (nt:=17) (res:=[.tmp 4]) Tryz.func105 λSf=>?_
 refine RG ?_;refine AOps.g_box ?_;refine Aj ?_;refine AOps.g_box ?_;refine Aj ?_;refine JD ?_;rcases Bool.eq_false_or_eq_true (decide (x.name=y.name))with g|g
 ·rw[g]
  refine KK ?_;refine AOps.g_callf ?_;refine AOps.c2 (h:=(heq ..)) (k:=?_);refine JA ?_;refine AI ?_;rfl
 ·rw[g]
  refine JA ?_;refine AI ?_;rfl
theorem Pj(x y:Item)(hl:CsL x.comps):PS Tryz.prog 108 [AD false x,AD false y,.fp [.fn 103 []]] (bA (decide (x=y))):=by
 have h:=Lz x.comps y.comps 103 [] (λx y=>decide (x=y)) rfl (by have:=hl.1;omega) (λu hu v _=>Pm u v (hl.2 u hu));rw[Nc λ_ _ _ _=>rfl]at h;rw[<-Wg];refine Sp (nt:=19) (res:=[.tmp 5]) Tryz.func108 λSf=>?_
 refine RG ?_;refine AOps.g_box ?_;refine Aj ?_;refine AOps.g_box ?_;refine Aj ?_;refine JD ?_;have hE:=QQ x.ent.n x.ent.gen y.ent.n y.ent.gen;rw[show(decide (x.ent.n=y.ent.n)&&decide (x.ent.gen=y.ent.gen))=MG x.ent y.ent from rfl]at hE;cases hb:MG x.ent y.ent
 ·rw[hb]at hE
  (iterate 6 refine WK ?_);refine AOps.gN ?_;refine AOps.p (W.eqP _ _ (by kernel_rfl) hE rfl rfl) rfl ?_;refine KK ?_
  refine RT ?_;refine AI ?_;rfl
 ·rw[hb]at hE
  (iterate 6 refine WK ?_);refine AOps.gN ?_;refine AOps.p (W.eqP _ _ (by kernel_rfl) hE rfl rfl) rfl ?_;refine KK ?_;refine AOps.g_callf ?_;refine De (h:=(h ..)) (k:=?_);refine KK ?_
  refine RT ?_;refine AI ?_;rfl
theorem Rt(a b:Wd)(hl:WdL a):PS Tryz.prog 39 [wdA false a,wdA false b] (bA (decide (a=b))):=by
 have h1:=Ly a.kinds b.kinds 105 [] (λx y=>decide (x=y)) rfl (by have:=hl.ks.1;omega) (λx hx y _=>Pk x y (hl.ks.2 x hx));rw[Nc λ_ _ _ _=>rfl]at h1;have h2:=Ik a.gens b.gens hl.gens;have h3:=Lx a.items b.items 108 [.fp [.fn 103 []]] (λx y=>decide (x=y)) rfl (by have:=hl.items.1;omega) (λx hx y _=>Pj x y (hl.items.2 x hx));rw[Nc λ_ _ _ _=>rfl]at h3;rw[<-XZ];refine Sp (nt:=28) (res:=[.tmp 4]) Tryz.func39 λSf=>?_
 refine RG ?_;refine AOps.g_box ?_;refine Aj ?_;refine AOps.g_box ?_;refine Aj ?_;refine JD ?_;obtain⟨b1,e1⟩:=nm (decide (a.kinds=b.kinds));obtain⟨b2,e2⟩:=nm (decide (a.gens=b.gens));rw[e1]at h1⊢;rw[e2]at h2⊢;refine JB ?_;refine WO ?_;refine Ai λC=>?_;refine JD ?_
 refine FL ?_;refine AWP.iceP [5] (by exact At.f) ?_ (λd hd=>by rw[List.mem_singleton.1 hd];rfl);cases b1
 ·refine KK ?_;refine AOps.g_callf ?_;refine De (h:=(h1 ..)) (k:=?_);refine KK ?_
  refine RT ?_;refine AI ?_;rfl
 ·cases b2
  ·refine KK ?_;refine AOps.g_callf ?_;refine De (h:=(h1 ..)) (k:=?_);refine KK ?_;refine AOps.g_callf ?_;refine AOps.c2 (h:=(h2 ..)) (k:=?_);refine KK ?_
   refine RT ?_;refine AI ?_;rfl
  ·refine KK ?_;refine AOps.g_callf ?_;refine De (h:=(h1 ..)) (k:=?_);refine KK ?_;refine AOps.g_callf ?_;refine AOps.c2 (h:=(h2 ..)) (k:=?_);refine KK ?_;refine AOps.g_callf ?_;refine De (h:=(h3 ..)) (k:=?_);refine KK ?_
   refine RT ?_;refine AI ?_;rfl
theorem VA:(Hr baseWd [olderS] 0 0).2=[⟨0,⟨0,0⟩,10⟩]:=by kernel_rfl
theorem WP:Oi (Hr baseWd [olderS] 0 0).1 ⟨0,0⟩ 0=([10],0):=by kernel_rfl
theorem Po:PS Tryz.prog 35 [] (bA true):=by
 have hb:=Ru;have ho:=Pn;have hr:=PP baseWd [olderS] 0 0 olderT;have hw:=(olderT.tick 0 0).1.ok.wl;have hg:=WP;rw[VA]at hr;obtain⟨v,hv⟩:=nm ((Hr baseWd [olderS] 0 0).1);rw[hv]at hr hw hg;have hgt:=Wi v ⟨0,0⟩ 0 hw;rw[hg]at hgt;have he:=QP [⟨0,⟨0,0⟩,10⟩] (by decide);have hi:=Ik [10] [10] (by decide);rw[Ae rfl]at hi;refine Sp (nt:=36) (res:=[.tmp 0]) Tryz.func35 λSf=>?_
 refine R1 ?_;refine JB ?_;refine AOps.g_callf ?_;refine Nu (h:=(hb ..)) (k:=?_);refine AOps.g_callf ?_;refine Nu (h:=(ho ..)) (k:=?_);refine WO ?_;refine AOps.g_callf ?_;refine WD (h:=(hr ..)) (k:=?_);refine KO ?_;refine Ai λV=>?_;refine JF ?_
 refine JK ?_;refine AOps.g_callf ?_;refine AOps.c2 (h:=(he ..)) (k:=?_);refine JF ?_;refine AA rfl rfl ?_;refine JK ?_;refine AOps.g_callf ?_;refine De (h:=(hgt ..)) (k:=?_);refine JF ?_;refine JK ?_;refine AOps.g_callf ?_;refine AOps.c2 (h:=(hi ..)) (k:=?_);refine JF ?_;refine RT ?_;refine AI ?_;rfl
theorem Vq(ks:List Kind)(s:Sys)(index:Int)(e:Ent)(o:Op)(c:List Comp)(r:UInt64×UInt64)(cm:List Cmd)(ev:List Evt):
  doM ks s index e o ⟨c,r,cm,ev⟩=⟨(doM ks s index e o ⟨c,r,[],[]⟩).comps,(doM ks s index e o ⟨c,r,[],[]⟩).r,cm++(doM ks s index e o ⟨c,r,[],[]⟩).cmds,ev++(doM ks s index e o ⟨c,r,[],[]⟩).evs⟩:=by
 unfold doM;dsimp only;split
 ·simp
 ·split
  ·simp
  ·split<;>simp
theorem KM(ks:List Kind)(s:Sys)(index:Int)(e:Ent):∀(os:List Op) (c:List Comp) (r:UInt64×UInt64) (cm:List Cmd) (ev:List Evt),
  C7 ks s index e os ⟨c,r,cm,ev⟩=⟨(C7 ks s index e os ⟨c,r,[],[]⟩).comps,(C7 ks s index e os ⟨c,r,[],[]⟩).r,cm++(C7 ks s index e os ⟨c,r,[],[]⟩).cmds,ev++(C7 ks s index e os ⟨c,r,[],[]⟩).evs⟩
 |[],c,r,cm,ev=>by simp[C7]
 |o::os,c,r,cm,ev=>by
  have h1:C7 ks s index e (o::os) ⟨c,r,cm,ev⟩=C7 ks s index e os (doM ks s index e o ⟨c,r,cm,ev⟩):=rfl;have h2:C7 ks s index e (o::os) ⟨c,r,[],[]⟩=C7 ks s index e os (doM ks s index e o ⟨c,r,[],[]⟩):=rfl;rw[h1,h2,Vq];obtain⟨⟨c',r',cm',ev'⟩,hd⟩:=nm (doM ks s index e o ⟨c,r,[],[]⟩);rw[hd];dsimp only;rw[KM ks s index e os c' r' (cm++cm'),KM ks s index e os c' r' cm'];simp
abbrev HT(ks:List Kind)(s:Sys)(index seed tick:Int)(x:Item):Rn:=DV ks s index seed tick x [] []
theorem UI(ks:List Kind)(s:Sys)(index seed tick:Int)(x:Item)(cm:List Cmd)(ev:List Evt):(DV ks s index seed tick x cm ev).comps=(HT ks s index seed tick x).comps/\(DV ks s index seed tick x cm ev).cmds=cm++(HT ks s index seed tick x).cmds/\(DV ks s index seed tick x cm ev).evs=ev++(HT ks s index seed tick x).evs:=by
 unfold HT DV;rw[KM];exact⟨rfl,rfl,rfl⟩
theorem Iz(ks:List Kind)(s:Sys)(index seed tick:Int):∀(qs:List (Nat×Item)) (b:List Item×List Cmd×List Evt),EP ks s index seed tick qs b=
  (qs.foldl (λits q=>its.set q.1 ⟨q.2.ent,(HT ks s index seed tick q.2).comps⟩) b.1,b.2.1++(qs.map (·.2)).flatMap (λx=>(HT ks s index seed tick x).cmds),b.2.2++(qs.map (·.2)).flatMap (λx=>(HT ks s index seed tick x).evs))
 |[],b=>by simp[EP]
 |q::qs,b=>by
  obtain⟨h1,h2,h3⟩:=UI ks s index seed tick q.2 b.2.1 b.2.2;show EP ks s index seed tick qs (b.1.set q.1 ⟨q.2.ent,(DV ks s index seed tick q.2 b.2.1 b.2.2).comps⟩,(DV ks s index seed tick q.2 b.2.1 b.2.2).cmds,(DV ks s index seed tick q.2 b.2.1 b.2.2).evs)=_
  rw[Iz ks s index seed tick qs,h1,h2,h3];simp
theorem PA{l:List Item}{wth wout:List Int}{j:Nat}{x:Item}(hj:l[j]?=some x)(hm:CF x wth wout=true):∀i,j<i->i<=l.length->(j,x)∈Dt l wth wout i
 |0,h,_=>absurd h (Nat.not_lt_zero _)
 |i+1,h,hi=>by
  by_cases e:j=i
  ·subst e
   have hl:j<l.length:=by omega
   have hx:l[j]=x:=by have:=AE hl;rw[hj]at this;injection this with this;exact this.symm
   rw[Mo hl (by rw[hx];exact hm),hx];simp
  ·have:=PA hj hm i (by omega) (by omega)
   unfold Dt;exact List.mem_append_left _ this
theorem Oo{f:Item->Item}{l0:List Item}:∀(qs:List (Nat×Item)) (its:List Item),(∀q∈qs,l0[q.1]?=some q.2)->its.length=l0.length->∀(i:Nat) (x:Item),l0[i]?=some x->
  (qs.foldl (λits q=>its.set q.1 (f q.2)) its)[i]?=if(i,x)∈qs then some (f x)else its[i]?
 |[],its,_,_,i,x,_=>by simp
 |q::qs,its,hq,hl,i,x,hx=>by
  have h0:=hq q (by simp);rw[List.foldl_cons,Oo qs _ (λq' h'=>hq q' (by simp[h'])) (by rw[List.length_set];exact hl) i x hx];have hil:i<l0.length:=(List.getElem?_eq_some_iff.1 hx).1;by_cases e:(i,x)∈qs
  ·rw[if_pos e,if_pos (List.mem_cons_of_mem _ e)]
  ·rw[if_neg e]
   by_cases e2:q.1=i
   ·subst e2
    rw[hx]at h0;injection h0 with h0
    rw[if_pos (by rw[h0];simp),List.getElem?_set_self (by omega),h0]
   ·rw[if_neg (by
     intro h;rcases List.mem_cons.1 h with h|h
     ·exact e2 (by rw[<-h])
     ·exact e h),List.getElem?_set_ne e2]
def CI(ks:List Kind)(s:Sys)(index seed tick:Int)(x:Item):Item:=if CF x s.wth s.wout then⟨x.ent,(HT ks s index seed tick x).comps⟩else x
theorem VB{w:Wd}{s:Sys}{index seed tick:Int}{i:Nat}{x:Item}(h:w.items[i]?=some x):(Ex w s index seed tick).1[i]?=some (CI w.kinds s index seed tick x):=by
 unfold Ex;rw[Iz];dsimp only;rw[Oo (f:=λx=>⟨x.ent,(HT w.kinds s index seed tick x).comps⟩) (l0:=w.items) (DX w.items s.wth s.wout) _ (λq hq=>(EV hq).1) rfl i x h];unfold CI;have hil:=(List.getElem?_eq_some_iff.1 h).1;cases hm:CF x s.wth s.wout with
 |true=>
  have hin:(i,x)∈DX w.items s.wth s.wout:=PA h hm _ hil (Nat.le_refl _);rw[if_pos hin];rfl
 |false=>
  rw[if_neg λhq=>?_,h]
  ·rfl
  ·rw[(EV hq).2]at hm
   cases hm
def Fw(x y:List Int):Bool:=x.any λk=>y.contains k
def Fp(a b:Sys):Bool:=Fw a.writes b.writes||Fw a.writes b.reads||Fw a.reads b.writes
theorem Sc(y:List Int)(k:Int)(hl:y.length<=4611686018427387904):PS Tryz.prog 97 [iA k,.fp [AN false y]] (bA (y.contains k)):=by
 refine Sp (nt:=7) (res:=[.tmp 3]) Tryz.func97 λSf=>?_
 refine KK ?_;refine AOps.g_callf ?_;refine AOps.c2 (h:=(D1 y k hl)) (k:=?_);refine JA ?_;refine AI ?_;rfl
theorem LC(x y:List Int)(hx:x.length<=4611686018427387904)(hl:y.length<=4611686018427387904):PS Tryz.prog 95 [AN false x,AN false y] (bA (Fw x y)):=by
 refine Sp (nt:=8) (res:=[.tmp 4]) Tryz.func95 λSf=>?_
 refine WK ?_;refine WK ?_;refine AOps.g_box ?_;refine Aj ?_;refine KK ?_;refine AOps.g_callf ?_;refine AOps.c2 (h:=(Co x 97 [.fp [AN false y]] (λk=>y.contains k) rfl hx (λk _=>Sc y k hl))) (k:=?_);refine JA ?_;refine AI ?_;rfl
def Mt(s:Sys):Prop:=s.reads.length<=4611686018427387904/\s.writes.length<=4611686018427387904
theorem Ox(a b:Sys)(ha:Mt a)(hb:Mt b):PS Tryz.prog 37 [Bs false a,Bs false b] (bA (Fp a b)):=by
 have c1:=LC a.writes b.writes ha.2 hb.2;have c2:=LC a.writes b.reads ha.2 hb.1;have c3:=LC a.reads b.writes ha.1 hb.2;unfold Fp;obtain⟨b1,e1⟩:=nm (Fw a.writes b.writes);obtain⟨b2,e2⟩:=nm (Fw a.writes b.reads);obtain⟨b3,e3⟩:=nm (Fw a.reads b.writes);rw[e1]at c1⊢;rw[e2]at c2⊢;rw[e3]at c3⊢;refine Sp (nt:=28) (res:=[.tmp 4]) Tryz.func37 λSf=>?_
 cases b1
 ·cases b2
  ·(repeat first|(refine AOps.gN ?_;first|(refine AOps.g_callv ?_;first|refine AOps.k2 (h:=(c1 ..)) (k:=?_)|refine AOps.k2 (h:=(c2 ..)) (k:=?_)|refine AOps.k2 (h:=(c3 ..)) (k:=?_))|(refine AOps.g_box ?_;refine Aj ?_))|refine WK ?_|refine Ai λX=>?_|refine Ay λY=>?_)
   refine RT ?_;refine AI ?_;rfl
  ·refine WK ?_;refine WK ?_;refine AOps.g_box ?_;refine Aj ?_;refine AOps.g_box ?_;refine Aj ?_;refine KK ?_;refine AOps.g_callv ?_;refine AOps.k2 (h:=(c1 ..)) (k:=?_);refine KK ?_;refine AOps.g_callv ?_;refine AOps.k2 (h:=(c2 ..)) (k:=?_);refine KK ?_
   refine RT ?_;refine AI ?_;rfl
 ·refine WK ?_;refine WK ?_;refine AOps.g_box ?_;refine Aj ?_;refine AOps.g_box ?_;refine Aj ?_;refine KK ?_;refine AOps.g_callv ?_;refine AOps.k2 (h:=(c1 ..)) (k:=?_);refine KK ?_
  refine RT ?_;refine AI ?_;rfl
def Cy(ls:List Sys)(j i:Nat):Bool:=match ls[j]?,ls[i]? with
 |some a,some b=>Fp a b
 |_,_=>false
theorem Eq{ls:List Sys}{i j:Nat}(hi:i<ls.length)(hj:j<ls.length):Cy ls j i=Fp ls[j] ls[i]:=by
 simp[Cy,hi,hj]
def D2(ls:List Sys)(pre:List Int)(i:Nat):Nat->Int
 |0=>1
 |j+1=>if Cy ls j i then max (D2 ls pre i j) (pre.getD j 0+1)else D2 ls pre i j
def Ci(ls:List Sys):Nat->List Int
 |0=>[]
 |i+1=>Ci ls i++[D2 ls (Ci ls i) i i]
theorem DW(ls:List Sys)(i:Nat):(Ci ls i).length=i:=by
 induction i with
 |zero=>rfl
 |succ i ih=>simp[Ci,ih]
theorem LS{ls:List Sys}{pre:List Int}{n:Int}(hn:0<=n)(h:∀x∈pre,1<=x/\x<=n)(i:Nat):∀j,j<=pre.length->1<=D2 ls pre i j/\D2 ls pre i j<=n+1:=by
 intro j
 induction j with
 |zero=>intro _;simp[D2];omega
 |succ j ih=>
  intro hj;have:=ih (by omega);rw[D2];split
  ·have hx:=h (pre.getD j 0) (by simp[show j<pre.length by omega])
   omega
  ·exact this
theorem Gx(ls:List Sys)(i:Nat):∀x∈Ci ls i,1<=x/\x<=i:=by
 induction i with
 |zero=>intro x hx;cases hx
 |succ i ih=>
  intro x hx;rw[Ci]at hx;rcases List.mem_append.1 hx with hx|hx
  ·have:=ih x hx;omega
  ·rw[List.mem_singleton.1 hx]
   have:=LS (ls:=ls) (n:=i) (by omega) ih i i (by rw[DW];omega);omega
theorem U8(a b:List Int)(x y:Int):((a++x::b).map iA).set a.length (iA y)=(a++y::b).map iA:=by
 rw[<-List.map_set (f:=iA),List.set_append_right _ _ (Nat.le_refl _),Nat.sub_self];rfl
theorem Vd(a b:List Int)(x:Int):((a++x::b).map iA)[a.length]?=some (iA x):=by
 rw[AG,List.getElem?_append_right (Nat.le_refl _),Nat.sub_self];rfl
theorem Sa(ls:List Sys)(hl:ls.length<=1099511627776)(hs:∀s∈ls,Mt s):PS Tryz.prog 113 [Ea false ls] (AN true (Ci ls ls.length)):=by
 refine Sp (nt:=46) (res:=[.tmp 2]) Tryz.func113 λSf=>?_
 have hlm:(ls.map (Bs false)).length<=1099511627776:=by simpa using hl
 (iterate 8 refine WK ?_);refine DG ?_;refine FB (iA 0) λK=>?_;refine KK ?_
 have hrep:List.replicate (ls.map (Bs false)).length (iA 0)=(List.replicate ls.length (0:Int)).map iA:=by rw[List.map_replicate,AB]
 rw[hrep];refine BZ (λ(i:Nat) (K':List AV)=>⟨[(0,Ea false ls),(3,.sl K 0 (ls.map (Bs false)).length),(10,iA (ls.map (Bs false)).length),(11,iA i)],(K,.row 3 1 K')::Sf⟩) (λi K'=>i<=ls.length/\K'=(Ci ls i++List.replicate (ls.length-i) 0).map iA) (λi _=>ls.length-i) 0 _ ⟨Nat.zero_le _,rfl⟩ ?_;rintro i K' ⟨hi,rfl⟩;refine KK ?_;refine AWP.cond rfl (λhc=>?_) (λhc=>?_)
 ·have h:i<ls.length:=by simpa using hc
  have hd:=DW ls i;have hdl:=Gx ls i
  have e0:(Ci ls i++List.replicate (ls.length-i) 0)=Ci ls i++0::List.replicate (ls.length-i-1) 0:=by
   congr 1
   rw[show ls.length-i=(ls.length-i-1)+1 by omega,List.replicate_succ];rfl
  have hsm:=U8 (Ci ls i) (List.replicate (ls.length-i-1) 0);rw[hd]at hsm;have hgm:=Vd (Ci ls i) (List.replicate (ls.length-i-1) 0);rw[hd]at hgm;have hg0:=hgm 0;rw[e0];refine KK ?_;refine BZ (λ(j:Nat) (K':List AV)=>⟨[(0,Ea false ls),(3,.sl K 0 (ls.map (Bs false)).length),(4,iA i),(10,iA (ls.map (Bs false)).length),(11,iA i),(17,iA i),(18,iA j)],(K,.row 3 1 K')::Sf⟩) (λj K'=>j<=i/\K'=(Ci ls i++D2 ls (Ci ls i) i j::List.replicate (ls.length-i-1) 0).map iA) (λj _=>i-j) 0 _ ⟨Nat.zero_le _,hsm 0 1⟩ ?_;rintro j K' ⟨hj,rfl⟩;have hac:=LS (ls:=ls) (n:=i) (by omega) hdl i j (by rw[hd];exact hj);refine KK ?_;refine AWP.cond rfl (λhe=>?_) (λhe=>?_)
  ·have hj':j<i:=by rw[AF]at he;omega
   have hjl:j<ls.length:=by omega
   have hjd:j<(Ci ls i).length:=by omega
   obtain⟨y,hy⟩:=nm ((Ci ls i)[j]);have hyb:=hdl _ (AK hjd);rw[hy]at hyb;have hca:=Eq (ls:=ls) h hjl;have hcf:=Ox ls[j] ls[i] (hs _ (AK hjl)) (hs _ (AK h));obtain⟨b,hb⟩:=nm (Fp ls[j] ls[i]);rw[hb]at hca hcf;obtain⟨ac,hacc⟩:=nm (D2 ls (Ci ls i) i j);rw[hacc]at hac⊢;have hgi:=hgm ac
   have hgj:((Ci ls i++ac::List.replicate (ls.length-i-1) 0).map iA)[j]?=some (iA y):=by
    rw[AG,List.getElem?_append_left hjd,AE hjd,hy];rfl
   have hnx:D2 ls (Ci ls i) i (j+1)=if b then max ac (y+1)else ac:=by
    rw[D2,hca,hacc];simp[List.getD,hjd,hy]
   refine KK ?_;refine JL ?_;refine RGo.g_callf ?_;refine RGo.c2 (h:=(hcf ..)) (k:=?_);refine RGo.nil (by kernel_rfl) ?_;cases b
   ·refine AA rfl rfl ?_
    refine KK ?_;refine A8 (j+1) _ ⟨hj',?_⟩;rw[hnx];rfl
   ·refine AM rfl rfl ?_
    refine RU ?_;(iterate 14 refine RK ?_);refine RGo.nil (by kernel_rfl) ?_;refine KK ?_;refine A8 (j+1) _ ⟨hj',?_⟩;rw[hnx,if_pos rfl,show max ac (y+1)=if ac<y+1 then y+1 else ac by split<;>omega];exact hsm ac _
  ·have hj':j=i:=by rw[AQ]at he;omega
   subst hj';refine KK ?_;refine A8 (j+1) _ ⟨h,?_⟩;rw[Ci,AP];rfl
 ·have h:i=ls.length:=by rw[AQ,AB]at hc;omega
  subst h;rw[Nat.sub_self,List.replicate_zero,List.append_nil];refine JA ?_;exact⟨[.sl K 0 (ls.map (Bs false)).length],[AN true (Ci ls ls.length)],_,[],.cons (.tmp rfl) rfl .nil,.cons (.cell (.sl (p:=0) .here (by simp[DW]))) .nil,by exact Sub.f,rfl,rfl⟩
section
theorem GY{cs:List Comp}(hs:CT cs)(k:Int)(f:Nat)(v:Int)(q:Int):BH (J5 cs k f v) q=if q=k then(BH cs k).map λc=>⟨c.kind,c.vals.set f v⟩else BH cs q:=by
 cases hc:BH cs k with
 |none=>
  have e:J5 cs k f v=cs:=by unfold J5;rw[hc]
  rw[e];split
  ·rename_i h;subst h;exact hc
  ·rfl
 |some c=>
  obtain⟨e1,e2⟩:=Hu hs hc f v;obtain⟨g1,g2⟩:=QB (key:=Comp.kind) hs e1 (z:=⟨c.kind,c.vals.set f v⟩) rfl;obtain⟨_,hck⟩:=(Bw hs).1 hc;rw[e2];split
  ·rename_i h
   subst h;exact(Bw g1).2 ⟨(g2 _).2 (.inl rfl),hck⟩
  ·rename_i h
   refine Option.ext λd=>?_
   rw[Bw g1,Bw hs,g2];constructor
   ·rintro⟨rfl|⟨a,b⟩,e⟩
    ·exact absurd (e.symm.trans hck) h
    ·exact⟨a,e⟩
   ·rintro⟨a,e⟩
    exact⟨.inr ⟨a,λe3=>h (e.symm.trans (e3.trans hck))⟩,e⟩
def GP(s:Sys)(k:Int):Bool:=s.reads.contains k||s.writes.contains k
def Gd(s:Sys)(cs ds:List Comp):Prop:=∀k,GP s k=true->BH cs k=BH ds k
theorem LP{ks:List Kind}{s:Sys}{cs ds:List Comp}(h:Gd s cs ds){a:Arg}(ha:ArgG ks s.reads s.writes a):Gb cs a=Gb ds a:=by
 unfold Gb;cases hb:a.has
 ·rfl
 ·obtain⟨_,_,h3⟩:=ha.yes hb
  have:BH cs a.ref.kind=BH ds a.ref.kind:=h _ (by unfold GP;rw[Bool.or_eq_true];exact h3);unfold GJ;rw[this]
theorem SZ{ks:List Kind}{s:Sys}{index:Int}{e:Ent}{o:Op}{x y:Rn}(hx:RnG ks s x)(hy:RnG ks s y)(ho:OpG ks s.reads s.writes o)(h:Gd s x.comps y.comps)(hr:x.r=y.r)(hc:x.cmds=y.cmds)(he:x.evs=y.evs):
  Gd s (doM ks s index e o x).comps (doM ks s index e o y).comps/\(doM ks s index e o x).r=(doM ks s index e o y).r/\(doM ks s index e o x).cmds=(doM ks s index e o y).cmds/\(doM ks s index e o x).evs=(doM ks s index e o y).evs:=by
 have sx:=(held_iff.1 hx.held).1;have sy:=(held_iff.1 hy.held).1;have ha:=LP h ho.a;have hb:=LP h ho.b;unfold doM;rw[<-ha,<-hb,<-hr,<-hc,<-he];split
 ·refine⟨λk hk=>?_,rfl,rfl,rfl⟩
  dsimp only;rw[GY sx,GY sy];split
  ·rename_i e1
   subst e1;rw[h _ hk]
  ·exact h k hk
 ·split
  ·exact⟨h,hr,hc,he⟩
  ·split
   ·exact⟨h,rfl,rfl,rfl⟩
   ·exact⟨h,rfl,rfl,rfl⟩
theorem SY{ks:List Kind}{s:Sys}{index:Int}{e:Ent}{o:Op}{x:Rn}(hx:RnG ks s x)(ho:OpG ks s.reads s.writes o){k:Int}(hk:s.writes.contains k=false):BH (doM ks s index e o x).comps k=BH x.comps k:=by
 have sx:=(held_iff.1 hx.held).1;unfold doM;split
 ·rename_i hs
  obtain⟨_,h2⟩:=ho.sets hs;dsimp only;rw[GY sx,if_neg λe=>by rw[e,h2]at hk;cases hk]
 ·split
  ·rfl
  ·split<;>rfl
theorem KN{ks:List Kind}{s:Sys}{index:Int}{e:Ent}(hk:Ag ks=0):∀(os:List Op) {x y:Rn},RnG ks s x->RnG ks s y->(∀o∈os,OpG ks s.reads s.writes o)->Gd s x.comps y.comps->x.r=y.r->x.cmds=y.cmds->x.evs=y.evs->
  Gd s (C7 ks s index e os x).comps (C7 ks s index e os y).comps/\(C7 ks s index e os x).cmds=(C7 ks s index e os y).cmds/\(C7 ks s index e os x).evs=(C7 ks s index e os y).evs
 |[],x,y,_,_,_,h,_,hc,he=>⟨h,hc,he⟩
 |o::os,x,y,hx,hy,ho,h,hr,hc,he=>by
  have h1:=ho o (List.mem_cons_self ..);obtain⟨a1,a2,a3,a4⟩:=SZ (index:=index) (e:=e) hx hy h1 h hr hc he;exact KN hk os (K8 hk hx h1).1 (K8 hk hy h1).1 (λq hq=>ho q (List.mem_cons_of_mem _ hq)) a1 a2 a3 a4
theorem KL{ks:List Kind}{s:Sys}{index:Int}{e:Ent}(hk:Ag ks=0){k:Int}(hw:s.writes.contains k=false):∀(os:List Op) {x:Rn},RnG ks s x->(∀o∈os,OpG ks s.reads s.writes o)->BH (C7 ks s index e os x).comps k=BH x.comps k
 |[],x,_,_=>rfl
 |o::os,x,hx,ho=>by
  have h1:=ho o (List.mem_cons_self ..);have h2:=KL (index:=index) (e:=e) hk hw os (K8 (index:=index) (e:=e) hk hx h1).1 (λq hq=>ho q (List.mem_cons_of_mem _ hq));exact h2.trans (SY hx h1 hw)
theorem Hk{α:Type}{p q:α->Bool}:∀{l:List α},(∀x∈l,p x=q x)->l.any p=l.any q
 |[],_=>rfl
 |x::l,h=>by rw[List.any_cons,List.any_cons,h x (List.mem_cons_self ..),Hk λy hy=>h y (List.mem_cons_of_mem _ hy)]
theorem I3{cs ds:List Comp}(h:cs.map Comp.kind=ds.map Comp.kind)(k:Int):Ie cs k=Ie ds k:=by
 have e:∀l:List Comp,Ie l k=(l.map Comp.kind).any λx=>decide (x=k):=λl=>by unfold Ie;rw[List.any_map];rfl
 rw[e,e,h]
theorem Lg{x y:Item}(h:x.comps.map Comp.kind=y.comps.map Comp.kind)(wth wout:List Int):CF x wth wout=CF y wth wout:=by
 unfold CF;rw[Hk λk _=>by rw[I3 h k],Hk (l:=wout) λk _=>I3 h k]
theorem Gq{ks:List Kind}{s:Sys}{seed tick index:Int}{x:Item}(hs:SysG ks s)(hh:A7 ks x.comps=true)(hm:CF x s.wth s.wout=true):RnG ks s ⟨x.comps,Ey [seed,tick,index,x.ent.n],[],[]⟩:=⟨hh,Fe hs hm,Gp _⟩
section
variable {ks:List Kind}{s:Sys}{index seed tick:Int}
theorem Ek(x:Item):(CI ks s index seed tick x).ent=x.ent:=by unfold CI;split<;>rfl
theorem Et(hk:Ag ks=0)(hs:SysG ks s){x:Item}(hh:A7 ks x.comps=true):A7 ks (CI ks s index seed tick x).comps=true/\(CI ks s index seed tick x).comps.map Comp.kind=x.comps.map Comp.kind:=by
 unfold CI;cases hm:CF x s.wth s.wout with
 |false=>exact⟨hh,rfl⟩
 |true=>
  have h0:=Gq (seed:=seed) (tick:=tick) (index:=index) hs hh hm;exact⟨(Jh hk s.ops h0 hs.ops).1.held,(IS hk s.ops h0 hs.ops).1⟩
theorem Dk(hk:Ag ks=0)(hs:SysG ks s){x:Item}(hh:A7 ks x.comps=true){k:Int}(hw:s.writes.contains k=false):BH (CI ks s index seed tick x).comps k=BH x.comps k:=by
 unfold CI;cases hm:CF x s.wth s.wout with
 |false=>rfl
 |true=>exact KL hk hw s.ops (Gq hs hh hm) hs.ops
theorem Iu(hk:Ag ks=0)(hs:SysG ks s){x y:Item}(hx:A7 ks x.comps=true)(hy:A7 ks y.comps=true)(he:y.ent=x.ent)(hkd:y.comps.map Comp.kind=x.comps.map Comp.kind)(h:Gd s x.comps y.comps):
  Gd s (CI ks s index seed tick x).comps (CI ks s index seed tick y).comps/\(CF x s.wth s.wout=true->(HT ks s index seed tick x).cmds=(HT ks s index seed tick y).cmds/\(HT ks s index seed tick x).evs=(HT ks s index seed tick y).evs):=by
 have hm2:=Lg hkd s.wth s.wout;unfold CI;rw[hm2];cases hm:CF x s.wth s.wout with
 |false=>exact⟨h,λe=>by cases e⟩
 |true=>
  have h0:=Gq (seed:=seed) (tick:=tick) (index:=index) hs hx hm;have h1:=Gq (seed:=seed) (tick:=tick) (index:=index) hs hy (hm2.trans hm);have h2:HT ks s index seed tick y=C7 ks s index x.ent s.ops ⟨y.comps,Ey [seed,tick,index,x.ent.n],[],[]⟩:=by unfold HT DV;rw[he]
  rw[he]at h1;obtain⟨a1,a2,a3⟩:=KN (index:=index) (e:=x.ent) hk s.ops h0 h1 hs.ops h rfl rfl rfl;rw[h2];exact⟨a1,λ_=>⟨a2,a3⟩⟩
theorem KA(w:Wd)(s:Sys)(index seed tick:Int):(Ex w s index seed tick).1=w.items.map (CI w.kinds s index seed tick):=by
 refine List.ext_getElem? λi=>?_
 rw[AG];cases h:w.items[i]? with
 |some x=>rw[VB h];rfl
 |none=>
  rw[List.getElem?_eq_none_iff]at h;exact List.getElem?_eq_none_iff.2 (by rw[J9];exact h)
end
theorem Mg(a b:Sys):Fp a b=Fp b a:=by
 have h:∀x y:List Int,Fw x y=Fw y x:=λx y=>by
  unfold Fw;rw[Bool.eq_iff_iff,List.any_eq_true,List.any_eq_true];constructor
  ·rintro⟨k,h1,h2⟩
   exact⟨k,by simpa using h2,by simpa using h1⟩
  ·rintro⟨k,h1,h2⟩
   exact⟨k,by simpa using h2,by simpa using h1⟩
 unfold Fp;rw[h a.writes b.writes,h a.writes b.reads,h a.reads b.writes,Bool.or_assoc,Bool.or_assoc,Bool.or_comm (Fw b.reads a.writes)]
theorem Jj{x y:List Int}(h:Fw x y=false){k:Int}(hx:x.contains k=true):y.contains k=false:=by
 unfold Fw at h;rw[List.any_eq_false]at h;have:=h k (by simpa using hx);simpa using this
theorem Oy{a b:Sys}(h:Fp a b=false){k:Int}(hw:a.writes.contains k=true):GP b k=false:=by
 unfold Fp at h;rw[Bool.or_eq_false_iff,Bool.or_eq_false_iff]at h;unfold GP;rw[Jj h.1.2 hw,Jj h.1.1 hw];rfl
theorem Sb{a b:Sys}(h:Fp a b=false){k:Int}(hw:b.writes.contains k=true):GP a k=false:=by
 unfold Fp at h;rw[Bool.or_eq_false_iff,Bool.or_eq_false_iff]at h;unfold GP;rw[Bool.or_eq_false_iff];constructor
 ·cases hr:a.reads.contains k with
  |false=>rfl
  |true=>rw[Jj h.2 hr]at hw;cases hw
 ·cases hr:a.writes.contains k with
  |false=>rfl
  |true=>rw[Jj h.1.1 hr]at hw;cases hw
theorem OC{s:Sys}{k:Int}(h:GP s k=false):s.writes.contains k=false:=by
 unfold GP at h;rw[Bool.or_eq_false_iff]at h;exact h.2
theorem Se{cs ds:List Comp}(h1:CT cs)(h2:CT ds)(h:∀k,BH cs k=BH ds k):cs=ds:=MD h1 h2 λc=>by
 constructor
 ·intro hc
  exact((Bw h2).1 (by rw[<-h];exact(Bw h1).2 ⟨hc,rfl⟩)).1
 ·intro hc
  exact((Bw h1).1 (by rw[h];exact(Bw h2).2 ⟨hc,rfl⟩)).1
section
variable {ks:List Kind}{a b:Sys}{i j seed tick:Int}
theorem LQ(hk:Ag ks=0)(ha:SysG ks a)(hn:∀k,a.writes.contains k=true->GP b k=false){x:Item}(hh:A7 ks x.comps=true):Gd b x.comps (CI ks a i seed tick x).comps:=λk hb=>by
 refine(Dk hk ha hh ?_).symm;cases hw:a.writes.contains k with
 |false=>rfl
 |true=>rw[hn k hw]at hb;cases hb
theorem TF(hk:Ag ks=0)(ha:SysG ks a)(hb:SysG ks b)(hn:Fp a b=false){x:Item}(hh:A7 ks x.comps=true):
  CI ks b j seed tick (CI ks a i seed tick x)=CI ks a i seed tick (CI ks b j seed tick x):=by
 obtain⟨a1,a2⟩:=Et (index:=i) (seed:=seed) (tick:=tick) hk ha hh;obtain⟨b1,b2⟩:=Et (index:=j) (seed:=seed) (tick:=tick) hk hb hh;obtain⟨c1,c2⟩:=Et (index:=j) (seed:=seed) (tick:=tick) hk hb a1;obtain⟨d1,d2⟩:=Et (index:=i) (seed:=seed) (tick:=tick) hk ha b1;have e1:=(Iu (index:=j) (seed:=seed) (tick:=tick) hk hb hh a1 (Ek x) a2 (LQ hk ha (λk=>Oy hn) hh)).1;have e2:=(Iu (index:=i) (seed:=seed) (tick:=tick) hk ha hh b1 (Ek x) b2 (LQ hk hb (λk=>Sb hn) hh)).1;have he:(CI ks b j seed tick (CI ks a i seed tick x)).ent=(CI ks a i seed tick (CI ks b j seed tick x)).ent:=by rw[Ek,Ek,Ek,Ek]
 have hc:(CI ks b j seed tick (CI ks a i seed tick x)).comps=(CI ks a i seed tick (CI ks b j seed tick x)).comps:=Se (held_iff.1 c1).1 (held_iff.1 d1).1 λk=>by
  cases hwa:a.writes.contains k with
  |true=>
   have hs:=Oy hn hwa;rw[Dk hk hb a1 (OC hs)];exact e2 k (by unfold GP;rw[hwa];simp)
  |false=>
   rw[Dk hk ha b1 hwa];cases hwb:b.writes.contains k with
   |true=>exact(e1 k (by unfold GP;rw[hwb];simp)).symm
   |false=>rw[Dk hk hb a1 hwb,Dk hk ha hh hwa,Dk hk hb hh hwb]
 obtain⟨p,q⟩:=nm (CI ks b j seed tick (CI ks a i seed tick x));obtain⟨p',q'⟩:∃p',CI ks a i seed tick (CI ks b j seed tick x)=p':=⟨_,rfl⟩;rw[q,q']at he hc⊢;cases p;cases p';simp only at he hc;rw[he,hc]
end
end
def Cl(ds:List Int):Nat->List (List Int)
 |0=>[]
 |i+1=>match ds[i]? with
  |some d=>((Cl ds i++List.replicate (d.toNat-(Cl ds i).length) []).modify (d.toNat-1) (· ++[(i:Int)]))
  |none=>Cl ds i
abbrev IW(o:Bool)(l:List Int):AV:=.lst o 3 1 (l.map iA)
abbrev VR(o o':Bool)(l:List (List Int)):AV:=.lst o 22 1 (l.map (IW o'))
theorem P3{α:Type}{L:List α}{k:Nat}{g:α->α}{x:α}(h:x∈L.modify k g):x∈L\/∃y∈L,x=g y:=by
 obtain⟨q,hq,rfl⟩:=List.getElem_of_mem h;rw[List.length_modify]at hq;rw[List.getElem_modify];split
 ·exact .inr ⟨_,AK hq,rfl⟩
 ·exact .inl (AK hq)
theorem Pf{α β:Type}(f:α->β)(g:α->α){L:List α}{k:Nat}(h:k<L.length):(L.map f).set k (f (g L[k]))=(L.modify k g).map f:=by
 apply List.ext_getElem (by simp);intro q h1 h2;rw[List.getElem_map,List.getElem_modify,List.getElem_set];split
 ·rename_i e;subst e;rfl
 ·rw[List.getElem_map]
theorem Tn(ds:List Int)(i:Nat):∀x∈Cl ds i,x.length<=i:=by
 induction i with
 |zero=>intro x hx;cases hx
 |succ i ih=>
  intro x hx;rw[Cl]at hx;split at hx
  ·rcases P3 hx with h|⟨y,h,rfl⟩
   ·rcases List.mem_append.1 h with h|h
    ·have:=ih x h;omega
    ·rw[List.eq_of_mem_replicate h];simp
   ·rcases List.mem_append.1 h with h|h
    ·have:=ih y h;simp;omega
    ·rw[List.eq_of_mem_replicate h];simp
  ·have:=ih x hx;omega
theorem SD(ls:List Sys)(hl:ls.length<=24)(hs:∀s∈ls,Mt s):PS Tryz.prog 43 [Ea false ls] (.tup [VR true true (Cl (Ci ls ls.length) ls.length),iA 0]):=by
 refine Sp (nt:=39) (res:=[.tmp 2,.tmp 3]) Tryz.func43 λSf=>?_
 have hdp:=Sa ls (by omega) hs;have hdl:=DW ls ls.length;have hdb:=Gx ls ls.length;obtain⟨ds,hds⟩:=nm (Ci ls ls.length);obtain⟨n,hn⟩:=nm (ls.length);rw[hds]at hdp hdl hdb⊢;have hlm:(ls.map (Bs false)).length=n:=by rw[AB,hn]
 rw[hn]at hdl hdb hl⊢;refine KK ?_;refine AA rfl (AY (by omega)) ?_;refine R1 ?_;refine AWP.adopt (d:=4) 22 1 rfl λK=>?_
 refine JE ?_;refine AOps.g_callf ?_;refine AOps.c1 (h:=(hdp ..)) (k:=?_);refine JF ?_;refine FL ?_;refine FU (λ(i K m:Nat) (M:List AV)=>⟨[(4,.sl K 0 m),(11,AN false ds),(12,iA (ds.map iA).length),(13,iA i)],(K,.row 22 1 M)::Sf⟩) (λi _ m M=>i<=n/\m=M.length/\M=(Cl ds i).map (IW true)/\m<=n) (λi _ _ _=>n-i) 0 K 0 [] ⟨Nat.zero_le _,rfl,rfl,Nat.zero_le _⟩ ?_;rintro i K m M ⟨hi,hm,hM,hmn⟩;refine KK ?_;refine AWP.cond rfl (λhc=>?_) (λhc=>?_)
 ·have h:i<n:=by rw[AF,AB]at hc;omega
  have hid:i<ds.length:=by omega
  obtain⟨d,hd⟩:∃d:Nat,ds[i]=d:=⟨ds[i].toNat,by have:=hdb _ (AK hid);omega⟩;have hdr:=hdb _ (AK hid);rw[hd]at hdr;have hat:(ds.map iA)[i]?=some (iA d):=by rw[AG,AE hid,hd];rfl
  refine KK ?_;refine FU (λ(j K m:Nat) (M:List AV)=>⟨[(4,.sl K 0 m),(5,iA i),(6,iA d),(11,AN false ds),(12,iA (ds.map iA).length),(13,iA i)],(K,.row 22 1 M)::Sf⟩) (λj _ m M=>m=M.length/\M=(Cl ds i++List.replicate j []).map (IW true)/\m<=n/\(0<j->m<=d)) (λ_ _ m _=>d-m) 0 K m M ⟨hm,by simpa using hM,hmn,λh0=>absurd h0 (by omega)⟩ ?_;clear hm hM hmn K m M;rintro j K m M ⟨hm,hM,hmn,hmd⟩;refine KK ?_;refine AWP.cond rfl (λhe=>?_) (λhe=>?_)
  ·have he:m<d:=by rw[AF]at he;omega
   have hm1:m+1<=1099511627776:=by omega
   refine JN ?_;refine Ay λY=>?_;refine WO ?_
   have hx:(M++[AV.prim (.slice none 0 0)])[M.length]?=some (.prim (.slice none 0 0)):=by simp
   refine AOps.nilO (Y:=Y) 3 1 (Ics.at hx (.base .nil)) ?_;refine KK ?_;refine DU (j+1) Y (m+1) _ ⟨?_,?_,by omega,λ_=>by omega⟩
   ·rw[List.length_set,AL,hm];rfl
   ·rw[List.set_append_right _ _ (Nat.le_refl _),Nat.sub_self,List.replicate_succ',<-AP,List.map_append,<-hM];rfl
  ·have he:d<=m:=by rw[AQ]at he;omega
   obtain⟨LL,hLL⟩:=nm (Cl ds i++List.replicate j []);have hlm2:LL.length=m:=by rw[hm,hM,AB,hLL]
   have hjl:List.replicate j ([]:List Int)=List.replicate (d-(Cl ds i).length) []:=by
    congr 1
    have:m=(Cl ds i).length+j:=by rw[<-hlm2,<-hLL];simp
    rcases Nat.eq_zero_or_pos j with h0|h0
    ·omega
    ·have:=hmd h0;omega
   have hnext:Cl ds (i+1)=LL.modify (d-1) (· ++[(i:Int)]):=by
    rw[Cl,AE hid,hd];simp only[Int.toNat_natCast];rw[<-hjl,hLL]
   rw[hLL]at hM;have hdl1:d-1<LL.length:=by omega
   have hk:M[d-1]?=some (IW true LL[d-1]):=by rw[hM,AG,AE hdl1];rfl
   refine Qo K (d-1) hk λA=>?_
   have hlk:d-1<M.length:=by omega
   have hk2:(M.set (d-1) (.sl A 0 (LL[d-1].map iA).length))[d-1]?=some (.sl A 0 (LL[d-1].map iA).length):=by rw[List.getElem?_set_self hlk]
   have hkm:d-1<m:=by omega
   have hap:(LL[d-1].map iA).length+1<=1099511627776:=by
    have:=Tn ds i LL[d-1];rw[AB];have hmem:LL[d-1]∈Cl ds i++List.replicate j []:=by rw[hLL];exact AK hdl1
    rcases List.mem_append.1 hmem with h1|h1
    ·have:=this h1;omega
    ·rw[List.eq_of_mem_replicate h1];simp
   refine RG ?_;(repeat first|(refine AOps.gN ?_;first|refine AOps.p (Ax ((d-1:Nat):Int) (by omega) (by omega) rfl rfl) rfl ?_)|refine WO ?_|refine Ai λX=>?_|refine Ay λY=>?_);have hk3:((M.set (d-1) (.sl A 0 (LL[d-1].map iA).length)).set (d-1) (.sl Y 0 ((LL[d-1].map iA).length+1)))[d-1]?=some (.sl Y 0 ((LL[d-1].map iA).length+1)):=by rw[List.getElem?_set_self (by rw[List.length_set];exact hlk)]
   refine Nt Y K (d-1) hk3 ?_;refine KK ?_;refine DU (i+1) K m _ ⟨h,?_,?_,hmn⟩
   ·rw[List.length_set,List.length_set,List.length_set,hm]
   ·rw[List.set_set,List.set_set,hnext,hM,<-Pf (IW true) (· ++[(i:Int)]) hdl1]
    congr 1
    show _=IW true (LL[d-1]++[(i:Int)])
    unfold IW;rw[List.map_append];rfl
 ·have h:i=n:=by rw[AQ,AB]at hc;omega
  subst h;refine JA ?_;subst hM;exact⟨[.sl K 0 m,iA 0],[VR true true (Cl ds i),iA 0],_,[],.cons (.tmp rfl) rfl (.cons (.tmp rfl) rfl .nil),.cons (.cell (.sl (p:=0) .here hm)) (.cons (.cell .same) .nil),by exact Sub.f,rfl,rfl⟩
theorem K9(ls:List Sys){i n:Nat}(h:i<n):(Ci ls n)[i]?=some (D2 ls (Ci ls i) i i):=by
 induction n with
 |zero=>omega
 |succ n ih=>
  rw[Ci];by_cases e:i=n
  ·subst e
   rw[List.getElem?_append_right (by rw[DW];exact Nat.le_refl _),DW,Nat.sub_self];rfl
  ·rw[List.getElem?_append_left (by rw[DW];omega)]
   exact ih (by omega)
theorem UQ(ls:List Sys){i j n:Nat}(h:j<i)(hn:i<=n):(Ci ls i)[j]?=(Ci ls n)[j]?:=by
 rw[K9 ls h,K9 ls (by omega)]
structure DepOK(n:Nat)(cf:Nat->Nat->Bool)(d:Nat->Int):Prop where
 pos:∀i,i<n->1<=d i
 up:∀j i,j<i->i<n->cf j i=true->d j+1<=d i
 by_:∀i,i<n->d i=1\/∃j,j<i/\cf j i=true/\d i=d j+1
theorem Ug(ls:List Sys)(pre:List Int)(i:Nat):∀t j,j<t->Cy ls j i=true->pre.getD j 0+1<=D2 ls pre i t:=by
 intro t
 induction t with
 |zero=>intro j hj;omega
 |succ t ih=>
  intro j hj hc;rw[D2];by_cases e:j=t
  ·subst e;rw[if_pos hc];omega
  ·have:=ih j (by omega) hc
   split<;>omega
theorem Uh(ls:List Sys)(pre:List Int)(i:Nat):∀t,D2 ls pre i t=1\/∃j,j<t/\Cy ls j i=true/\D2 ls pre i t=pre.getD j 0+1:=by
 intro t
 induction t with
 |zero=>exact .inl rfl
 |succ t ih=>
  rw[D2];split
  ·rename_i hc
   by_cases h:D2 ls pre i t<=pre.getD t 0+1
   ·exact .inr ⟨t,by omega,hc,by omega⟩
   ·rcases ih with h1|⟨j,h1,h2,h3⟩
    ·exact .inl (by omega)
    ·exact .inr ⟨j,by omega,h2,by omega⟩
  ·rcases ih with h1|⟨j,h1,h2,h3⟩
   ·exact .inl h1
   ·exact .inr ⟨j,by omega,h2,h3⟩
theorem Wl(ls:List Sys):DepOK ls.length (Cy ls) λi=>(Ci ls ls.length).getD i 0:=by
 obtain⟨n,hn⟩:=nm (ls.length);rw[hn]
 have hg:∀i,i<n->(Ci ls n).getD i 0=D2 ls (Ci ls i) i i:=λi hi=>by
  rw[Bp,K9 ls hi];rfl
 have hp:∀i j,j<i->i<n->(Ci ls i).getD j 0=(Ci ls n).getD j 0:=λi j hj hi=>by
  rw[Bp,Bp,UQ ls (n:=n) hj (by omega)]
 refine⟨λi hi=>?_,λj i hj hi hc=>?_,λi hi=>?_⟩
 ·rw[hg i hi]
  exact(LS (ls:=ls) (n:=i) (by omega) (Gx ls i) i i (by rw[DW];omega)).1
 ·rw[hg i hi,<-hp i j hj hi]
  exact Ug ls _ i i j hj hc
 ·rw[hg i hi]
  rcases Uh ls (Ci ls i) i i with h|⟨j,h1,h2,h3⟩
  ·exact .inl h
  ·exact .inr ⟨j,h1,h2,by rw[h3,hp i j h1 hi]⟩
def NM(l:List Int):Int:=l.foldr max 0
theorem OT(l:List Int):0<=NM l:=by
 induction l with
 |nil=>exact Int.le_refl _
 |cons y l ih=>show 0<=max y (NM l);omega
def Xc(ls:List Sys)(rs:List Int)(best:Int)(o:List Nat)(i:Nat):Bool:=
 (decide ((o.length:Int)<best)&&decide (rs.getD i 0=best-o.length))&&(match o.getLast? with|none=>true|some k=>Cy ls k i)
structure LayOK(ds:List Int)(i:Nat)(L:List (List Int)):Prop where
 inc:∀d (h:d<L.length),(L[d]).Pairwise (· < ·)
 val:∀d (h:d<L.length),∀x∈L[d],∃k:Nat,x=k/\k<i/\ds[k]?=some ((d+1:Nat):Int)
 sum:(L.map List.length).sum=i
 all:∀k,k<i->∃d,ds[k]?=some ((d+1:Nat):Int)/\∃h:d<L.length,(k:Int)∈L[d]
theorem PZ(L:List (List Int))(k:Nat)(x:Int)(h:k<L.length):((L.modify k (· ++[x])).map List.length).sum=(L.map List.length).sum+1:=by
 induction L generalizing k with
 |nil=>simp at h
 |cons l L ih=>
  cases k with
  |zero=>simp;omega
  |succ k=>
   simp only[List.modify_succ_cons,List.map_cons,List.sum_cons];rw[ih k (by simpa using h)];omega
theorem Tm(ds:List Int)(h1:∀x∈ds,1<=x):∀i,i<=ds.length->LayOK ds i (Cl ds i):=by
 intro i
 induction i with
 |zero=>intro _;exact⟨λd h=>absurd h (by simp[Cl]),λd h=>absurd h (by simp[Cl]),rfl,λk hk=>absurd hk (by omega)⟩
 |succ i ih=>
  intro hi;obtain⟨hinc,hval,hsum,hall⟩:=ih (by omega);have hil:i<ds.length:=hi;obtain⟨d,hd⟩:∃d:Nat,ds[i]=((d+1:Nat):Int):=⟨(ds[i]-1).toNat,by have:=h1 _ (AK hil);omega⟩;have hdi:ds[i]?=some ((d+1:Nat):Int):=by rw[AE hil,hd]
  have hlt:Cl ds (i+1)=(Cl ds i++List.replicate (d+1-(Cl ds i).length) []).modify d (· ++[(i:Int)]):=by
   rw[Cl,hdi];simp only[Int.toNat_natCast,Nat.add_sub_cancel]
  obtain⟨L,hL⟩:=nm (Cl ds i);rw[hL]at hinc hval hsum hall hlt;rw[hlt];obtain⟨M,hM⟩:=nm (L++List.replicate (d+1-L.length) [])
  have hMl:L.length<=M.length/\d<M.length:=by
   rw[<-hM,AL,List.length_replicate];omega
  have hMget:∀q (h:q<M.length),M[q]=if h2:q<L.length then L[q]else[]:=λq h=>by
   subst hM;rw[List.getElem_append];split<;>simp
  have hMinc:∀q (h:q<M.length),(M[q]).Pairwise (· < ·):=λq h=>by
   rw[hMget q h];split
   ·exact hinc q _
   ·exact .nil
  have hMval:∀q (h:q<M.length),∀x∈M[q],∃k:Nat,x=k/\k<i/\ds[k]?=some ((q+1:Nat):Int):=λq h x hx=>by
   rw[hMget q h]at hx;split at hx
   ·exact hval q _ x hx
   ·cases hx
  have hMsum:(M.map List.length).sum=i:=by
   rw[<-hM,List.map_append,List.sum_append,hsum];simp
  rw[hM];refine⟨λq h=>?_,λq h x hx=>?_,?_,λk hk=>?_⟩
  ·rw[List.length_modify]at h
   rw[List.getElem_modify];split
   ·exact Gs (hMinc q h) λx hx=>by obtain⟨k,rfl,hk,_⟩:=hMval q h x hx;omega
   ·exact hMinc q h
  ·rw[List.length_modify]at h
   rw[List.getElem_modify]at hx;split at hx
   ·rename_i e
    subst e;rcases List.mem_append.1 hx with hx|hx
    ·obtain⟨k,h2,h3,h4⟩:=hMval d h x hx
     exact⟨k,h2,by omega,h4⟩
    ·exact⟨i,List.mem_singleton.1 hx,by omega,hdi⟩
   ·obtain⟨k,h2,h3,h4⟩:=hMval q h x hx
    exact⟨k,h2,by omega,h4⟩
  ·rw[PZ _ _ _ hMl.2,hMsum]
  ·by_cases e:k=i
   ·subst e
    refine⟨d,hdi,by rw[List.length_modify];exact hMl.2,?_⟩;rw[List.getElem_modify,if_pos rfl];simp
   ·obtain⟨q,h2,h3,h4⟩:=hall k (by omega)
    have hqM:q<M.length:=by omega
    refine⟨q,h2,by rw[List.length_modify];exact hqM,?_⟩;rw[List.getElem_modify];have:(k:Int)∈M[q]:=by rw[hMget q hqM,dif_pos h3];exact h4
    split
    ·exact List.mem_append_left _ this
    ·exact this
theorem SE(ds:List Int)(h1:∀x∈ds,1<=x):∀i,i<=ds.length->(Cl ds i).length=(NM (ds.take i)).toNat:=by
 intro i
 induction i with
 |zero=>intro _;rfl
 |succ i ih=>
  intro hi;have hil:i<ds.length:=hi;have h2:=h1 _ (AK hil)
  have happ:∀l:List Int,∀x,0<=x->NM (l++[x])=max (NM l) x:=by
   intro l x hx
   induction l with
   |nil=>show max x 0=max 0 x;omega
   |cons y l ih2=>show max y (NM (l++[x]))=max (max y (NM l)) x;omega
  have h0:=OT (ds.take i);rw[Cl,AE hil,List.take_succ_eq_append_getElem hil,happ _ _ (by omega)];simp only[List.length_modify,AL,List.length_replicate];rw[ih (by omega)];omega
section
def Dh(ks:List Kind)(ss:List Sys)(seed tick:Int)(L:List Nat)(its:List Item):List Item:=L.foldl (λits (i:Nat)=>match ss[i]? with
 |some s=>its.map (CI ks s i seed tick)
 |none=>its) its
section
variable {ks:List Kind}{ss:List Sys}{seed tick:Int}
theorem Qd(its:List Item):Dh ks ss seed tick [] its=its:=rfl
theorem Cu{i:Nat}{s:Sys}(h:ss[i]?=some s)(L:List Nat)(its:List Item):Dh ks ss seed tick (i::L) its=Dh ks ss seed tick L (its.map (CI ks s i seed tick)):=by
 unfold Dh;rw[List.foldl_cons,h]
theorem Hj(L M:List Nat)(its:List Item):Dh ks ss seed tick (L++M) its=Dh ks ss seed tick M (Dh ks ss seed tick L its):=List.foldl_append
abbrev PE(ks:List Kind)(its:List Item):Prop:=∀x∈its,A7 ks x.comps=true
theorem MW(hk:Ag ks=0){s:Sys}(hs:SysG ks s){i:Int}{its:List Item}(h:PE ks its):PE ks (its.map (CI ks s i seed tick)):=λx hx=>by
 obtain⟨y,hy,rfl⟩:=List.mem_map.1 hx;exact(Et hk hs (h y hy)).1
theorem IB(hk:Ag ks=0)(hs:∀s∈ss,SysG ks s){i:Nat}(hi:i<ss.length):∀(L:List Nat) (its:List Item),(∀j∈L,j<ss.length/\Cy ss j i=false)->PE ks its->
  Dh ks ss seed tick (L++[i]) its=Dh ks ss seed tick (i::L) its
 |[],its,_,_=>rfl
 |j::L,its,h,hh=>by
  obtain⟨hj,hc⟩:=h j (List.mem_cons_self ..);have ei:=AE hi;have ej:=AE hj;have gi:=hs _ (AK hi);have gj:=hs _ (AK hj);rw[Eq hi hj]at hc;rw[BF,Cu ej,IB hk hs hi L _ (λq hq=>h q (List.mem_cons_of_mem _ hq)) (MW hk gj hh),Cu ei,Cu ei,Cu ej,List.map_map,List.map_map]
  congr 1
  exact List.map_congr_left λx hx=>TF hk gj gi hc (hh x hx)
theorem I8(hk:Ag ks=0)(hs:∀s∈ss,SysG ks s):∀(L M:List Nat) (its:List Item),L.Perm M->(∀i∈L,i<ss.length)->L.Pairwise (λa b=>Cy ss a b=true->a<b)->M.Pairwise (λa b=>Cy ss a b=true->a<b)->PE ks its->
  Dh ks ss seed tick L its=Dh ks ss seed tick M its
 |[],M,its,hp,_,_,_,_=>by rw[List.nil_perm.1 hp]
 |i::L,M,its,hp,hl,h1,h2,hh=>by
  obtain⟨p,q,rfl⟩:=List.append_of_mem (hp.mem_iff.1 (List.mem_cons_self ..));have hi:=hl i (List.mem_cons_self ..);have ei:=AE hi;obtain⟨g1,g2⟩:=List.pairwise_cons.1 h1;have hp2:L.Perm (p++q):=List.Perm.cons_inv (hp.trans List.perm_middle);obtain⟨k1,k2,k3⟩:=List.pairwise_append.1 h2;have k2':=(List.pairwise_cons.1 k2).2;have hM2:(p++q).Pairwise (λa b=>Cy ss a b=true->a<b):=List.pairwise_append.2 ⟨k1,k2',λa ha b hb=>k3 a ha b (List.mem_cons_of_mem _ hb)⟩
  have hpc:∀j∈p,j<ss.length/\Cy ss j i=false:=λj hj=>by
   have hjL:j∈L:=hp2.mem_iff.2 (List.mem_append_left _ hj);have hjl:=hl j (List.mem_cons_of_mem _ hjL);refine⟨hjl,?_⟩;cases hc:Cy ss j i with
   |false=>rfl
   |true=>
    have e1:=k3 j hj i (List.mem_cons_self ..) hc;have hc2:Cy ss i j=true:=by rw[Eq hjl hi,Mg,<-Eq hi hjl];exact hc
    have e2:=g1 j hjL hc2;omega
  have e:p++i::q=(p++[i])++q:=by rw[AP];rfl
  rw[e,Hj,IB hk hs hi p its hpc hh,<-Hj,BF,Cu ei,Cu ei];exact I8 hk hs L (p++q) _ hp2 (λj hj=>hl j (List.mem_cons_of_mem _ hj)) g2 hM2 (MW hk (hs _ (AK hi)) hh)
end
def BY(L:List (List Int)):List Nat:=(L.map λrow=>row.reverse.map Int.toNat).flatten
theorem Q9{ls:List Sys}{L:List (List Int)}(h:LayOK (Ci ls ls.length) ls.length L):(BY L).Perm (List.range ls.length)/\(BY L).Pairwise (λa b=>Cy ls a b=true->a<b)/\∀k∈BY L,k<ls.length:=by
 have hd':=Wl ls
 have hv:∀row∈L.map (λrow:List Int=>row.reverse.map Int.toNat),∃d,∃hd:d<L.length,row=(L[d]).reverse.map Int.toNat:=λrow hr=>by
  obtain⟨r,hr2,rfl⟩:=List.mem_map.1 hr;obtain⟨d,hd,hre⟩:=List.getElem_of_mem hr2;exact⟨d,hd,by rw[hre]⟩
 have hdep:∀d (hd:d<L.length),∀k∈(L[d]).reverse.map Int.toNat,k<ls.length/\(Ci ls ls.length).getD k 0=((d+1:Nat):Int):=λd hd k hk=>by
  obtain⟨x,hx,rfl⟩:=List.mem_map.1 hk;obtain⟨q,rfl,h1,h2⟩:=h.val d hd x (List.mem_reverse.1 hx);rw[Int.toNat_natCast];exact⟨h1,by rw[Bp,h2];rfl⟩
 have hrow:∀d (hd:d<L.length),((L[d]).reverse.map Int.toNat).Pairwise (λa b=>b<a):=λd hd=>by
  have h1:((L[d]).reverse).Pairwise (λa b=>b<a):=List.pairwise_reverse.2 (h.inc d hd)
  have h2:((L[d]).reverse).Pairwise (λa b=>a.toNat>b.toNat):=by
   refine List.Pairwise.imp_of_mem (λ{a b} ha hb hab=>?_) h1;obtain⟨p,rfl,_⟩:=h.val d hd a (List.mem_reverse.1 ha);obtain⟨q,rfl,_⟩:=h.val d hd b (List.mem_reverse.1 hb);rw[Int.toNat_natCast,Int.toNat_natCast];omega
  exact h2.map Int.toNat λa b hab=>hab
 have hsym:∀a b,a<ls.length->b<ls.length->Cy ls a b=Cy ls b a:=λa b ha hb=>by rw[Eq hb ha,Eq ha hb,Mg]
 have hac:∀(d e:Nat) (hd1:d<L.length) (he1:e<L.length),d<e->∀a∈(L[d]).reverse.map Int.toNat,∀b∈(L[e]).reverse.map Int.toNat,a≠b/\(Cy ls a b=true->a<b):=λd e hd1 he1 hde a ha b hb=>by
  obtain⟨a1,a2⟩:=hdep d hd1 a ha;obtain⟨b1,b2⟩:=hdep e he1 b hb;have hne:a≠b:=λe=>by rw[e,b2]at a2;omega
  refine⟨hne,λhc=>?_⟩;rcases Nat.lt_or_ge a b with hl|hl
  ·exact hl
  ·have:=hd'.up b a (by omega) a1 (by rw[hsym b a b1 a1];exact hc)
   rw[a2,b2]at this;omega
 have hpw:∀R:Nat->Nat->Prop,(∀d (hd:d<L.length),((L[d]).reverse.map Int.toNat).Pairwise R)->(∀(d e:Nat) (hd1:d<L.length) (he1:e<L.length),d<e->∀a∈(L[d]).reverse.map Int.toNat,∀b∈(L[e]).reverse.map Int.toNat,R a b)->(BY L).Pairwise R:=λR r1 r2=>by
  unfold BY;rw[List.pairwise_flatten];refine⟨λrow hr=>?_,?_⟩
  ·obtain⟨d,hd,rfl⟩:=hv row hr
   exact r1 d hd
  ·rw[List.pairwise_iff_getElem]
   intro i j hi hj hij;rw[AB]at hi hj;rw[List.getElem_map,List.getElem_map];exact r2 i j hi hj hij
 have hmem:∀k,k∈BY L↔k<ls.length:=λk=>by
  unfold BY;rw[List.mem_flatten];constructor
  ·rintro⟨row,hr,hk⟩
   obtain⟨d,hd,rfl⟩:=hv row hr;exact(hdep d hd k hk).1
  ·intro hk
   obtain⟨d,_,hd,hm⟩:=h.all k hk;exact⟨_,List.mem_map.2 ⟨_,AK hd,rfl⟩,List.mem_map.2 ⟨(k:Int),List.mem_reverse.2 hm,Int.toNat_natCast k⟩⟩
 have hnd:(BY L).Nodup:=hpw (λa b=>a≠b) (λd hd=>(hrow d hd).imp λh e=>by omega) (λd e h1 h2 h3 a ha b hb=>(hac d e h1 h2 h3 a ha b hb).1);refine⟨(List.perm_ext_iff_of_nodup hnd List.nodup_range).2 λk=>by rw[hmem,List.mem_range],hpw _ (λd hd=>?_) (λd e h1 h2 h3 a ha b hb=>(hac d e h1 h2 h3 a ha b hb).2),λk hk=>(hmem k).1 hk⟩;refine List.Pairwise.imp_of_mem (λ{a b} ha hb hab hc=>?_) (hrow d hd);obtain⟨a1,a2⟩:=hdep d hd a ha;obtain⟨b1,b2⟩:=hdep d hd b hb;have:=hd'.up b a hab a1 (by rw[hsym b a b1 a1];exact hc);rw[a2,b2]at this;omega
theorem OY{ks:List Kind}{ss:List Sys}{seed tick:Int}{L:List (List Int)}(hk:Ag ks=0)(hs:∀s∈ss,SysG ks s)(h:LayOK (Ci ss ss.length) ss.length L){its:List Item}(hh:PE ks its):Dh ks ss seed tick (List.range ss.length) its=Dh ks ss seed tick (BY L) its:=by
 obtain⟨h1,h2,h3⟩:=Q9 h;exact I8 hk hs _ _ its h1.symm (λi hi=>List.mem_range.1 hi) (List.Pairwise.imp (λ{a b} (h:a<b) (_:Cy ss a b=true)=>h) List.pairwise_lt_range) h2 hh
end
structure RunG(w:Wd)(s:Sys):Prop where
 wl:WdL w
 ok:WdOK w
 k12:w.kinds.length<=12
 sg:SysG w.kinds s
 n:(DX w.items s.wth s.wout).length*s.ops.length<=1099511627775
theorem RunG.run{w:Wd}{s:Sys}(h:RunG w s)(index seed tick:Int):PS Tryz.prog 38 [wdA false w,Bs false s,iA index,iA seed,iA tick] (.tup [wdH ⟨w.kinds,w.gens,(Ex w s index seed tick).1⟩,.lst false 159 5 ((Ex w s index seed tick).2.1.map Bx),.lst false 86 4 ((Ex w s index seed tick).2.2.map Cr),iA 0]):=
 TL w s index seed tick h.wl ((BK w).2 h.ok) h.k12 h.sg h.ok.ks (λit hit=>(h.ok.it it hit).2.2.2.2) h.n
section
open Go.RowKit
def HL(w:World):Mem:=⟨λ_=>none,λ_=>False,w,λb=>b<w.heap.size⟩
theorem Qa(w:World):Good (HL w) (HL w) 0 [] []:=
 ⟨λz hz=>(by cases hz),.nil,λb hb=>(by cases hb),λb h=>h,.nil,λx hx=>(by cases hx),λx h=>h.elim,.refl _,rfl,rfl,rfl,Nat.le_refl _⟩
theorem Good.bel{w:World}{m':Mem}{N:Nat}{Z:Zs}{br:List Nat}(G:Good (HL w) m' N Z br):Below w.heap.size w m'.w:=
 ⟨G.os,G.tape,G.output,G.size,λk hk=>(G.le.F k hk).2⟩
theorem PS.calls_bool{P:Program}{f:FuncId}{args:List AV}{b:Bool}(h:PS P f args (bA b)){w:World}{vals:Array Value}(hv:VTs (HL w) args vals.toList []):
  Calls P f vals w λe w'=>e= .returned (.bool b)/\Below w.heap.size w w':=
 (h.run [] (HL w) 0 [] vals rfl (Qa w) hv).mono λe w' ⟨v,r,S',m',N',Z',br,h1,h2,h3,G,h4,h5,h6⟩=>by
  subst h1 h2 h5;refine⟨?_,G.bel⟩;obtain⟨⟨h7,_⟩,_⟩:=h4;injection h7 with h7
  rw[h7]
theorem Mi{α:Type}{m:Mem}{C:List Value->α->Prop}{sz:Nat}{f:α->AV}(hC:∀c x,C c x->VC m (f x) c []):∀{l:List α} {xs:List Value},Cells C sz xs l->VCs m (l.map f) xs []
 |[],_,h=>⟨h,rfl⟩
 |x::l,_,⟨c,ys,h1,h2,h3,h4⟩=>⟨c,ys,[],[],h1,rfl,hC c x h3,Mi hC h4⟩
theorem LM{w:World}{b o:Nat}{u:Value}(h:w.cell? ⟨b,o,none⟩=some u):∃arr t r,w.heap[b]?=some (.cells arr t r)/\arr[o]?=some u:=by
 unfold World.cell? at h;cases hb:w.heap[b]? with
 |none=>simp only[hb]at h;cases h
 |some blk=>
  cases blk with
  |cells c t r=>simp only[hb]at h;exact⟨c,t,r,rfl,by simpa using h⟩
  |_=>simp only[hb]at h;cases h
theorem W0{α:Type}{w:World}{C:World->Reg->List Value->α->Prop}{sz:Nat}{f:α->AV}{t:TypeId}{v:Value}{l:List α}(hsz:0<sz)(hC:∀c x,C w (Lt w) c x->VC (HL w) (f x) c [])(hw:∀x,(f x).width=sz)(h:Sl w (Lt w) sz C v l):VC (HL w) (.lst false t sz (l.map f)) [v] []:=by
 obtain⟨xs,⟨h1,A,cap,rfl,hn,hr⟩,hc⟩:=h;refine⟨rfl,A,cap,by simp,by simpa using hn,λe he=>by obtain⟨x,_,rfl⟩:=List.mem_map.1 he;exact hw x,λh0=>?_⟩;have h0:0<l.length:=by simpa using h0
 obtain⟨b,off,rfl,hb,hcell⟩:=hr h0;have hx:0<xs.length:=by rw[h1];exact Nat.mul_pos h0 hsz
 obtain⟨arr,t',r,h2,h3⟩:=LM (hcell 0 xs[0] (by simp));refine⟨b,off,arr,t',r,rfl,hb,h2,?_⟩
 have e:(arr.toList.drop off).take ((l.map f).length*sz)=xs:=by
  apply List.ext_getElem?;intro j;rw[List.getElem?_take];split
  ·rename_i hj
   have hj:j<xs.length:=by rw[h1];simpa using hj
   obtain⟨arr2,t2,r2,h4,h5⟩:=LM (hcell j xs[j] (by simp));rw[h2]at h4;injection h4 with h4
   injection h4 with h4
   subst h4;rw[List.getElem?_drop,AE hj];simpa using h5
  ·rename_i hj
   rw[List.getElem?_eq_none];rw[h1];simpa using hj
 rw[e];exact Mi hC hc
theorem VX{w:World}{v:Value}{l:List Int}(h:Sx w (Lt w) v l):VC (HL w) (AN false l) [v] []:=
 W0 (f:=iA) (by decide) (λc x hc=>⟨⟨hc,rfl⟩,rfl⟩) (λ_=>rfl) h
theorem U3{m:Mem}:VTs m [] [] []:=⟨rfl,rfl⟩
theorem Qt{m:Mem}{l:List AV}{us:List Value}{x:Int}(k:VTs m l us []):VTs m (iA x::l) (.int .i64 x::us) []:=(Bi rfl).2 ⟨_,_,[],[],rfl,rfl,⟨⟨rfl,rfl⟩,rfl⟩,k⟩
theorem Ny{w:World}{v:Value}{z:List Int}{l:List AV}{us:List Value}(h:Sx w (Lt w) v z)(k:VTs (HL w) l us []):VTs (HL w) (AN false z::l) (v::us) []:=(Bi rfl).2 ⟨_,_,[],[],rfl,rfl,VX h,k⟩
end
section
open Go.RowKit
theorem SysOK.sm{ks:List Kind}{n:Nat}{s:Sys}(h:SysOK ks n s)(hk:FS ks):Mt s:=by
 have:=hk.1;have h3:=KH h.lists.o3 (λx hx=>h.lists.r1 x (h.lists.s3 x hx)) (by omega);have h4:=KH h.lists.o4 (λx hx=>h.lists.r1 x (h.lists.s4 x hx)) (by omega);exact⟨by omega,by omega⟩
end
abbrev UX(l:List Int):List (List AV):=l.reverse.mapIdx λi x=>[iA ((l.length-1-i:Nat):Int),iA x]
theorem O9(l:List Int):PS Tryz.prog 44 [AN false l] (.fn 114 [.fp [AN false l]]):=by
 refine Spec.of (nt:=4) (res:=[.tmp 2]) Tryz.func44 rfl (by kernel_rfl) rfl rfl rfl λSf=>?_
 refine RG ?_;(repeat first|(refine AOps.gN ?_;first|(refine AOps.g_box ?_;refine Aj ?_))|refine WO ?_|refine Ai λX=>?_|refine Ay λY=>?_);refine NL ?_;refine JB ?_;(repeat first|refine WO ?_|refine Ai λX=>?_|refine Ay λY=>?_);refine NL ?_;refine RT ?_;refine AI ?_;rfl
theorem L3(l:List Int)(h0:l.length<=1099511627776):Itr Tryz.prog 114 [.fp [AN false l]] (UX l):=by
 have hlm:(l.map iA).length=l.length:=AB _;refine⟨by kernel_rfl,λy J Jx hY Sl hJ0=>?_⟩;refine Spec.of (nt:=19) (res:=[]) Tryz.func114 rfl (by kernel_rfl) rfl rfl rfl λSf=>?_
 refine RG ?_;(repeat first|(refine AOps.gN ?_;first|refine AOps.go (h:=Ax ((l.length:Int)-1-(0:Nat)) (by rw[hlm];omega) (by omega) rfl rfl) (k:=?_))|refine WO ?_|refine Ai λX=>?_|refine Ay λY=>?_);refine NL ?_;refine FL ?_;refine BZ (λ(i:Nat) (Sl:List AC)=>⟨[(0,.prim y),(1,.fp [AN false l]),(3,iA ((l.length:Int)-1-i))],Sl++Sf⟩) (λi Sl=>i<=l.length/\J i Sl) (λi _=>l.length-i) 0 Sl ⟨Nat.zero_le _,hJ0⟩ ?_;rintro i Sl ⟨hi,hJ⟩;obtain⟨v,hv⟩:∃v:Int,(l.length:Int)-1-i=v:=⟨_,rfl⟩;rw[hv];refine RG ?_;(repeat first|refine WO ?_|refine Ai λX=>?_|refine Ay λY=>?_);refine NL ?_;refine FL ?_;refine AWP.cond rfl (λhc=>?_) (λhc=>?_)
 ·have h:v>=0:=of_decide_eq_true hc
  obtain⟨j,rfl⟩:∃j:Nat,v=j:=⟨v.toNat,by omega⟩;have hj:j<l.length:=by omega
  have hat:(l.map iA)[j]?=some (iA l[j]):=BB _ hj;have hil:j<(l.map iA).length:=by omega
  have hyi:(UX l)[i]?=some [iA (j:Nat),iA l[j]]:=by
   rw[List.getElem?_mapIdx,List.getElem?_reverse (by omega),show l.length-1-i=j by omega,AE hj];rfl
  obtain⟨e,hee⟩:=nm (l[j]);rw[hee]at hat hyi;refine JB ?_;(repeat first|refine WO ?_|refine Ai λX=>?_|refine Ay λY=>?_);refine JR (Si:=[]) hY hJ hyi (λSl' hk=>?_) (λSl' hk=>?_)
  ·(repeat first|refine WO ?_|refine Ai λX=>?_|refine Ay λY=>?_)
   refine AOps.nil ?_;refine FL ?_;refine AA rfl rfl ?_;refine JB ?_;(repeat first|(refine AOps.gN ?_;first|refine AOps.go (h:=Ax ((l.length:Int)-1-(i+1:Nat)) (by omega) (by omega) rfl rfl) (k:=?_))|refine WO ?_|refine Ai λX=>?_|refine Ay λY=>?_);refine NL ?_;refine A8 (i+1) Sl' ⟨by omega,hk⟩
  ·(repeat first|refine WO ?_|refine Ai λX=>?_|refine Ay λY=>?_)
   refine AOps.nil ?_;refine FL ?_;refine AM rfl rfl ?_;(repeat first|refine WK ?_|refine Ai λX=>?_|refine Ay λY=>?_);refine RT ?_;exact BI Sl' (.inr hk)
 ·have h:i=l.length:=by have:=of_decide_eq_false hc;omega
  subst h;(repeat first|refine WK ?_|refine Ai λX=>?_|refine Ay λY=>?_);refine C9 ?_;exact BI Sl (.inl (by rw[List.length_mapIdx,List.length_reverse];exact hJ))
section
open Go.RowKit
theorem TM{w:Wd}{s:Sys}(h:WdOK w)(h12:w.kinds.length<=12)(hs:SysG w.kinds s):RunG w s:=by
 refine⟨h.wl,h,h12,hs,?_⟩;have h1:=In w.items s.wth s.wout;have h2:=hs.len;have h3:=h.il;have h4:=h.gl;exact Nat.le_trans (Nat.mul_le_mul (show _<=256 by omega) h2) (by decide)
theorem Ml{ks:List Kind}{gs:List Int}{ss:List Sys}{s t:Int}(hs:∀i (h:i<ss.length),SysG ks ss[i]):∀(M:List Nat) (its:List Item),(∀k∈M,k<ss.length)->WdOK ⟨ks,gs,its⟩->WdOK ⟨ks,gs,Dh ks ss s t M its⟩
 |[],its,_,h=>h
 |i::M,its,hM,h=>by
  have hi:=hM i (List.mem_cons_self ..);rw[Cu (AE hi)];refine Ml hs M _ (λk hk=>hM k (List.mem_cons_of_mem _ hk)) ?_;have h1:=Qz (s:=ss[i]) (index:=i) (seed:=s) (tick:=t) ((BK _).2 h) (hs i hi);rw[KA]at h1;exact(BK _).1 h1
theorem Th{l:List Int}{n:Int}(h:∀x∈l,x<=n)(h0:0<=n):NM l<=n:=by
 induction l with
 |nil=>exact h0
 |cons y l ih=>
  have h1:=h y (by simp);have h2:=ih λx hx=>h x (by simp[hx])
  show max y (NM l)<=n
  omega
theorem NP(L M:List (List Int)):BY (L++M)=BY L++BY M:=by
 unfold BY;rw[List.map_append,List.flatten_append]
theorem Lj{L:List (List Int)}{d:Nat}(h:d<L.length):BY (L.take (d+1))=BY (L.take d)++L[d].reverse.map Int.toNat:=by
 unfold BY;rw[List.take_succ_eq_append_getElem h,List.map_append,List.flatten_append];simp
set_option maxRecDepth 8000 in
set_option maxHeartbeats 2000000 in
theorem M0(l m:List Int)(s t:Int):PS Tryz.prog 8 [AN false l,AN false m,iA s,iA t] (bA true):=by
 have hwp:=S6 l;have hok:=Oj l;obtain⟨hk0,hk4⟩:=Ok l;have hko:FS (DC l).kinds:=F4 l;have hkg:KsGood (DC l).kinds:=HE l;obtain⟨hkn,hkf⟩:=JX l;obtain⟨w,hw⟩:=nm (DC l);rw[hw]at hwp hok hk0 hk4 hko hkg hkn hkf;clear hw;have hsp:=PY w.kinds m hko hkf hkn;refine Spec.of (nt:=116) (res:=[.cell 8 4]) Tryz.func8 rfl (by kernel_rfl) rfl rfl rfl λSf=>?_
 refine RG ?_;(repeat first|(refine AOps.gN ?_;first|(refine AOps.g_box ?_;refine Aj ?_))|refine WO ?_|refine Ai λR8=>?_|refine Ay λY=>?_);refine NL ?_;refine JB ?_;(repeat first|(refine AOps.gN ?_;first|(refine AOps.g_callf ?_;first|refine Nu (h:=(Po ..)) (k:=?_)))|refine WO ?_|refine Ai λX=>?_|refine Ay λY=>?_);refine NL ?_;refine AA rfl rfl ?_;refine JB ?_;(repeat first|(refine AOps.gN ?_;first|(refine AOps.g_callf ?_;first|refine AOps.c1 (h:=(hwp ..)) (k:=?_)))|refine WO ?_|refine Ai λR9=>?_|refine Ay λY=>?_);refine NL ?_;refine JB ?_;(repeat first|refine WO ?_|refine Ai λX=>?_|refine Ay λY=>?_);refine RX (h:=hsp) λss hss=>?_
 have hT:=hss.gs hok hkg hk4
 have hsm:∀x∈ss,Mt x:=λx hx=>by
  obtain⟨i,hi,rfl⟩:=List.mem_iff_getElem.1 hx;exact(hss.2 i hi).sm hko
 have hly:=SD ss hT.l24 hsm;have hLO:=Tm (Ci ss ss.length) (λx hx=>(Gx ss _ x hx).1) ss.length (by rw[DW];exact Nat.le_refl _)
 have hLn:(Cl (Ci ss ss.length) ss.length).length<=24:=by
  have h1:=SE (Ci ss ss.length) (λx hx=>(Gx ss _ x hx).1) ss.length (by rw[DW];exact Nat.le_refl _);have h2:=Th (l:=(Ci ss ss.length).take ss.length) (n:=ss.length) (λx hx=>(Gx ss _ x (List.mem_of_mem_take hx)).2) (by omega);have:=hT.l24;omega
 obtain⟨L,hL⟩:=nm (Cl (Ci ss ss.length) ss.length);rw[hL]at hly hLO hLn;(repeat first|refine WO ?_|refine Ai λR10=>?_|refine Ay λY=>?_);refine JB ?_;(repeat first|(refine AOps.gN ?_;first|(refine AOps.g_callf ?_;first|refine AOps.c1 (h:=(hly ..)) (k:=?_)))|refine WO ?_|refine Ai λX=>?_|refine Ay λY=>?_);refine NL ?_;refine JB ?_;(repeat first|refine WO ?_|refine Ai λX=>?_|refine Ay λY=>?_);refine NL ?_;refine AA rfl rfl ?_;refine FL ?_;refine AWP.rs λR14=>?_
 refine AWP.rs λR13=>?_
 refine RU ?_;(repeat first|refine RK ?_|refine RGo.nil (by kernel_rfl) ?_);refine JB ?_;(repeat first|refine WO ?_|refine Ai λX=>?_|refine Ay λY=>?_);refine NL ?_;refine FL ?_;have hsg:∀i (h:i<ss.length),SysG w.kinds ss[i]:=λi h=>hT.sg _ (AK h)
 obtain⟨A,hA⟩:∃A:List Nat->Wd,A=λM=>⟨w.kinds,w.gens,Dh w.kinds ss s t M w.items⟩:=⟨_,rfl⟩
 have hA0:A []=w:=by rw[hA];rfl
 have hAok:∀M,(∀k∈M,k<ss.length)->WdOK (A M):=λM hM=>by rw[hA];exact Ml hsg M w.items hM hok
 have hrun:∀M i (h:i<ss.length),(∀k∈M,k<ss.length)->∃(cm:List Cmd) (ev:List Evt),PS Tryz.prog 38 [wdA false (A M),Bs false ss[i],iA i,iA s,iA t] (.tup [wdH (A (M++[i])),.lst false 159 5 (cm.map Bx),.lst false 86 4 (ev.map Cr),iA 0]):=λM i h hM=>by
  have hw:=hAok M hM;have hk:(A M).kinds=w.kinds:=by rw[hA]
  have hr:=(TM hw (by rw[hk];omega) (by rw[hk];exact hsg i h)).run i s t
  have e:(⟨(A M).kinds,(A M).gens,(Ex (A M) ss[i] i s t).1⟩:Wd)=A (M++[i]):=by
   rw[hA];dsimp only;rw[KA,Hj,Cu (AE h),Qd]
  rw[e]at hr;exact⟨_,_,hr⟩
 have hsame:A (List.range ss.length)=A (BY L):=by
  rw[hA];dsimp only;rw[OY (ss:=ss) hok.ks (λx hx=>by obtain⟨i,hi,rfl⟩:=List.mem_iff_getElem.1 hx;exact hsg i hi) hLO (λx hx=>(hok.it x hx).2.2.2.2)]
 obtain⟨hperm,_,hlt⟩:=Q9 hLO;have hlen:(BY L).length=ss.length:=by rw[hperm.length_eq,List.length_range]
 clear hsg hsm hwp hsp hly;have h24:=hT.l24;have hssm:(ss.map (Bs false)).length=ss.length:=AB _;have hLm:(L.map (IW false)).length=L.length:=AB _;refine BZ (λ(i:Nat) (x:Wd)=>⟨[(6,.fp [iA s]),(7,.fp [iA t]),(8,.ptr R8 0 0),(10,.ptr R10 0 0),(11,VR false false L),(13,.ptr R13 0 0),(14,.ptr R14 0 0),(47,iA (ss.map (Bs false)).length),(48,iA i)],(R13,.row 26 3 [wdA false x])::(R14,.row 26 3 [wdA false w])::(R10,.row 88 1 [Ea false ss])::(R8,.row 4 1 [bA false])::Sf⟩) (λi x=>i<=ss.length/\x=A (List.range i)) (λi _=>ss.length-i) 0 w ⟨Nat.zero_le _,hA0.symm⟩ ?_;rintro i x ⟨hi,hx⟩;refine RG ?_;(repeat first|refine WO ?_|refine Ai λX=>?_|refine Ay λY=>?_);refine NL ?_;refine FL ?_;refine AWP.cond rfl (λhc=>?_) (λhc=>?_)
 ·have h:i<ss.length:=by rw[AF,hssm]at hc;omega
  obtain⟨cm,ev,hr⟩:=hrun (List.range i) i h (λk hk=>by have:=List.mem_range.1 hk;omega);rw[<-hx,<-List.range_succ]at hr;have hat:(ss.map (Bs false))[i]?=some (Bs false ss[i]):=BB _ h;have hil:i<(ss.map (Bs false)).length:=by omega
  obtain⟨e,he⟩:=nm (ss[i]);rw[he]at hr hat;obtain⟨y,hy⟩:=nm (A (List.range (i+1)));rw[hy]at hr;refine JB ?_;(repeat first|refine WO ?_|refine Ai λX=>?_|refine Ay λY=>?_);refine NL ?_;refine FL ?_;refine AWP.rs λR16=>?_
  refine RU ?_;(repeat first|(refine RGo.gN ?_;first|(refine RGo.g_callf ?_;first|refine RGo.c5 (h:=(hr ..)) (k:=?_)))|(refine RGo.gQ ?_;first|(refine RGo.g_callf ?_;first|refine RGo.c5 (h:=(hr ..)) (k:=?_)))|refine RK ?_|refine RGo.nil (by kernel_rfl) ?_);refine JB ?_;(repeat first|refine WO ?_|refine Ai λX=>?_|refine Ay λY=>?_);refine NL ?_;refine AA rfl rfl ?_;refine JB ?_;(repeat first|refine WO ?_|refine Ai λX=>?_|refine Ay λY=>?_);refine NL ?_;refine JB ?_;(repeat first|refine WO ?_|refine Ai λX=>?_|refine Ay λY=>?_);refine NL ?_;refine A8 (i+1) y ⟨h,hy.symm⟩
 ·have h:i=ss.length:=by rw[AQ,hssm]at hc;omega
  subst h;refine JB ?_;(repeat first|refine WO ?_|refine Ai λR20=>?_|refine Ay λY=>?_);refine NL ?_;refine JB ?_;(repeat first|refine WO ?_|refine Ai λX=>?_|refine Ay λY=>?_);refine NL ?_;refine FL ?_;refine Dd (λ(d c:Nat) (y:Wd)=>⟨[(6,.fp [iA s]),(7,.fp [iA t]),(8,.ptr R8 0 0),(10,.ptr R10 0 0),(13,.ptr R13 0 0),(14,.ptr R14 0 0),(20,.ptr R20 0 0),(69,VR false false L),(70,iA (L.map (IW false)).length),(71,iA d)],(R20,.row 3 1 [iA c])::(R13,.row 26 3 [wdA false x])::(R14,.row 26 3 [wdA false y])::(R10,.row 88 1 [Ea false ss])::(R8,.row 4 1 [bA false])::Sf⟩) (λd c y=>d<=L.length/\c=(BY (L.take d)).length/\y=A (BY (L.take d))) (λd _ _=>L.length-d) 0 0 w ⟨Nat.zero_le _,rfl,hA0.symm⟩ ?_;rintro d c y ⟨hd,hc2,hy⟩;refine RG ?_;(repeat first|refine WO ?_|refine Ai λX=>?_|refine Ay λY=>?_);refine NL ?_;refine FL ?_;refine AWP.cond rfl (λhc=>?_) (λhc=>?_)
  ·have h:d<L.length:=by rw[AF,hLm]at hc;omega
   have hat:(L.map (IW false))[d]?=some (IW false L[d]):=BB _ h;have hil:d<(L.map (IW false)).length:=by omega
   have hvl:=hLO.val d h;have hnx:=Lj h;have happ:=NP (L.take (d+1)) (L.drop (d+1));rw[List.take_append_drop]at happ;have hlt1:∀k∈BY (L.take (d+1)),k<ss.length:=λk hk=>hlt k (by rw[happ];exact List.mem_append_left _ hk)
   have hlt2:(BY (L.take (d+1))).length<=ss.length:=by
    rw[<-hlen,happ,AL];omega
   obtain⟨row,hrow⟩:=nm (L[d]);rw[hrow]at hat hvl hnx;rw[hnx]at hlt1 hlt2;rw[AL,AB,List.length_reverse]at hlt2;have hrl:row.length<=24:=by omega
   have hI:=L3 row (by omega);have hbk:=O9 row;change PS _ _ [IW false row] _ at hbk;refine JB ?_;(repeat first|refine WO ?_|refine Ai λX=>?_|refine Ay λY=>?_);refine NL ?_;refine JB ?_;(repeat first|(refine AOps.gN ?_;first|(refine AOps.g_callf ?_;first|refine AOps.c1 (h:=(hbk ..)) (k:=?_)))|refine WO ?_|refine Ai λX=>?_|refine Ay λY=>?_);refine NL ?_;refine FL ?_;refine La (Sf:=(R8,.row 4 1 [bA false])::Sf) hI (λb:Nat×Wd=>[(R20,.row 3 1 [iA b.1]),(R13,.row 26 3 [wdA false x]),(R14,.row 26 3 [wdA false b.2]),(R10,.row 88 1 [Ea false ss])]) (λi b=>b.1=c+i/\b.2=A (BY (L.take d)++(row.reverse.map Int.toNat).take i)) (c,y) ⟨rfl,by rw[List.take_zero,List.append_nil];exact hy⟩ ?_ ?_ rfl rfl rfl ?_ ?_
   ·rintro i vs ⟨c',y'⟩ lx F1 F2 hi ⟨hb1,hb2⟩
    dsimp only at hb1 hb2;subst hb1
    have hn:i<row.reverse.length:=by
     have:=(List.getElem?_eq_some_iff.1 hi).1;simpa using this
    obtain⟨k,hk1,hk2,_⟩:=hvl row.reverse[i] (List.mem_reverse.1 (AK hn))
    have hiv:[iA ((row.length-1-i:Nat):Int),iA k]=vs:=by
     rw[List.getElem?_mapIdx,AE hn,hk1]at hi;simpa using hi
    subst hiv;have hni:i<(row.reverse.map Int.toNat).length:=by simpa using hn
    obtain⟨cm,ev,hr⟩:=hrun (BY (L.take d)++(row.reverse.map Int.toNat).take i) k hk2 (λq hq=>hlt1 q (by
     rcases List.mem_append.1 hq with hq|hq
     ·exact List.mem_append_left _ hq
     ·exact List.mem_append_right _ (List.mem_of_mem_take hq)))
    have hnt:(row.reverse.map Int.toNat).take (i+1)=(row.reverse.map Int.toNat).take i++[k]:=by
     rw[List.take_succ_eq_append_getElem hni,List.getElem_map,hk1];rfl
    rw[<-hb2,AP,<-hnt]at hr;have hat2:(ss.map (Bs false))[k]?=some (Bs false ss[k]):=BB _ hk2;have hil2:k<(ss.map (Bs false)).length:=by omega
    obtain⟨e,he⟩:=nm (ss[k]);rw[he]at hr hat2;obtain⟨z,hz⟩:=nm (A (BY (L.take d)++(row.reverse.map Int.toNat).take (i+1)));rw[hz]at hr;have q1:decide ((k:Int)<0)=false:=AY (by omega);have q2:decide ((k:Int)>=((ss.map (Bs false)).length:Int))=false:=AY (by omega)
    have hci:c+i<=24:=by
     rw[List.length_reverse]at hn;omega
    refine JB ?_;(repeat first|refine WO ?_|refine Ai λX=>?_|refine Ay λY=>?_);refine NL ?_;refine⟨[(R20,.row 3 1 [iA (c+i:Nat)]),(R13,.row 26 3 [wdA false x]),(R14,.row 26 3 [wdA false y']),(R10,.row 88 1 [Ea false ss])],.refl _,?_⟩;refine JB ?_;(repeat first|refine WO ?_|refine Ai λX=>?_|refine Ay λY=>?_);refine NL ?_;refine AA rfl (by exact q2) ?_;refine FL ?_;refine AWP.rs λR25=>?_
    refine RU ?_;(repeat first|(refine RGo.gN ?_;first|(refine RGo.g_callf ?_;first|refine RGo.c5 (h:=(hr ..)) (k:=?_)))|(refine RGo.gQ ?_;first|(refine RGo.g_callf ?_;first|refine RGo.c5 (h:=(hr ..)) (k:=?_)))|refine RK ?_|refine RGo.nil (by kernel_rfl) ?_);refine JB ?_;(repeat first|refine WO ?_|refine Ai λX=>?_|refine Ay λY=>?_);refine NL ?_;refine AA rfl rfl ?_;refine JB ?_;(repeat first|refine WO ?_|refine Ai λX=>?_|refine Ay λY=>?_);refine NL ?_;refine JB ?_;(repeat first|refine WO ?_|refine Ai λX=>?_|refine Ay λY=>?_);refine NL ?_;refine⟨[(R20,.row 3 1 [iA (c+(i+1):Nat)]),(R13,.row 26 3 [wdA false x]),(R14,.row 26 3 [wdA false z]),(R10,.row 88 1 [Ea false ss])],?_,(c+(i+1),z),⟨rfl,hz.symm⟩,rfl⟩;exact .cons _ (.refl _)
   ·rintro⟨c',y'⟩ ⟨hb1,hb2⟩
    dsimp only at hb1 hb2;subst hb1;rw[List.length_mapIdx,List.length_reverse,List.take_of_length_le (l:=row.reverse.map Int.toNat) (i:=row.length) (by rw[AB,List.length_reverse];exact Nat.le_refl _),<-hnx]at hb2;refine JB ?_;(repeat first|refine WO ?_|refine Ai λX=>?_|refine Ay λY=>?_);refine NL ?_;refine CK (d+1) (c+(UX row).length) y' ⟨h,by rw[hnx,AL,AB,List.length_reverse,List.length_mapIdx,List.length_reverse,hc2],hb2⟩
   ·intro vs hvs
    obtain⟨j,hj,rfl⟩:=List.mem_iff_getElem.1 hvs;rw[List.getElem_mapIdx];rfl
   ·exact .refl _
  ·have h:d=L.length:=by rw[AQ,hLm]at hc;omega
   subst h;rw[List.take_length]at hc2 hy;rw[hlen]at hc2;have hok2:=(hAok (List.range ss.length) λk hk=>List.mem_range.1 hk).wl;rw[<-hx]at hok2;have hxy:y=x:=by rw[hy,hx,hsame]
   subst hxy hc2;have hsa:=Rt y y hok2;rw[Ae rfl]at hsa;have q1:decide (((ss.length:Nat):Int)=((ss.map (Bs false)).length:Nat))=true:=Ae (by omega);refine JB ?_;(repeat first|(refine AOps.gN ?_;first|(refine AOps.g_callf ?_;first|refine AOps.c2 (h:=(hsa ..)) (k:=?_)))|refine WO ?_|refine Ai λX=>?_|refine Ay λY=>?_);refine NL ?_;refine RT ?_;exact FT (rs:=[bA true]) rfl (.cons (.cell (p:=4) rfl (by exact At.f) TAg.h TSize.h rfl rfl) rfl .nil)
theorem S5(z0:List Int)(A0:Option Addr)(n0 cap0:Nat)(z1:List Int)(A1:Option Addr)(n1 cap1:Nat)(z2:Int)(z3:Int)(w:World)(h0:Sx w (Lt w) (.slice A0 n0 cap0) z0)(hlen0:z0.length*8<=140737488351232)(h1:Sx w (Lt w) (.slice A1 n1 cap1) z1)(hlen1:z1.length*8<=140737488351232)(hx2:I64 z2)(hx3:I64 z3):
  Calls Tryz.prog 8 #[.slice A0 n0 cap0,.slice A1 n1 cap1,.int .i64 z2,.int .i64 z3] w λe w'=>e= .returned (.bool true)/\Below w.heap.size w w':=
 (M0 z0 z1 z2 z3).calls_bool (Ny h0 (Ny h1 (Qt (Qt (U3)))))
end
end Go.Proofs.YtiidbamlcgbpnaaGreat
