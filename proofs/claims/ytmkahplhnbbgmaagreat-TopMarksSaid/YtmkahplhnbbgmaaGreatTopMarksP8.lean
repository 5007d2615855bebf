/-
  Part 8 of the texts under the law TopMarks: the layer of abstract values, walks and plain laws. Conditions: those that each theorem names.
-/
import Derived.Below
import Derived.Test.YtmkahplhnbbgmaaGreatTopMarksP7
namespace Go.Proofs.YtmkahplhnbbgmaaGreat
open Tryz
set_option linter.unusedVariables false
set_option linter.unusedSimpArgs false
set_option linter.defProp false
set_option maxRecDepth 10000
set_option maxHeartbeats 4000000
variable {ks:List Kind}
variable {l:List Item}
variable {w:World}
abbrev dM(b:Bool)(l:List Evt):AV:=.lst b 136 4 (l.map FT)
theorem SE(w:Wd)(l:List Sys)(h:TickG w l):PS prog 66 [wdA false w,Oi false l] (iA 0):=by
 have hL:=h.ok.wl;have hck:=F9 w hL.gens hL.items.1 (λit hit=>(hL.items.2 it hit).1);rw[(Cg w).2 h.ok]at hck;have hlm:(l.map (FJ false)).length=l.length:=AH _;have h24:=h.l24;refine Sp (nt:=31) (res:=[.tmp 4]) func66 λSf=>?_
 refine RG ?_;refine BS ?_;refine JC ?_;refine JK ?_;refine BU (h:=(hck ..)) (k:=?_);refine JC ?_;refine JB ?_;refine AB rfl rfl ?_;refine JB ?_;refine AB rfl (Az (by omega)) ?_;refine JJ ?_;refine B8 (λ(i:Nat)=>⟨[(2,.fp (wdA false w).cells),(17,Oi false l),(18,iA (l.map (FJ false)).length),(19,iA i)],Sf⟩) (λi=>i<=l.length) (λi=>l.length-i) 0 (Ap _) ?_;rintro i hi;refine JN ?_;refine AC rfl (λhb=>?_) (λhb=>?_)
 ·have hi2:i<l.length:=by rw[Aj,hlm]at hb;omega
  obtain⟨s,hs⟩:=nm (l[i]);have hsm:s∈l:=by rw[<-hs];exact Ax hi2
  have hat:(l.map (FJ false))[i]?=some (FJ false s):=by rw[Ae,Af hi2,hs];rfl
  have hsc:=Nh w.kinds s h.ok.ks h.k12 (h.sg s hsm);refine JH ?_;refine Ai λX=>?_;refine JC ?_
  refine JH ?_;refine BP (h:=(hsc ..)) (k:=?_);refine JC ?_;refine JB ?_;refine AB rfl rfl ?_;refine JB ?_;exact BM (i+1) hi2 (by omega)
 ·refine FL ?_
  refine R1 ?_;refine RT ?_;refine Ag ?_;rfl
theorem Uw(w:Wd)(cs:List (List Cmd))(ev:List Evt)(hw:WdOK w)(h12:w.kinds.length<=12)(hn:cs.length<=1000)(hl:cs.flatten.length<=131072)(hc:∀c∈cs.flatten,CmdG w.kinds c)(he:ev.length<=1099511627776):PS prog 68 [wdA false w,.lst false 139 1 (cs.map (En false)),dM false ev] (.tup [wdA false (GE w cs.flatten).1,dM true (ev.take 256),iA 0]):=by
 have hL:=hw.wl;have hck:=F9 w hL.gens hL.items.1 (λit hit=>(hL.items.2 it hit).1);rw[(Cg w).2 hw]at hck;obtain⟨g1,g2⟩:=CmdG.sl hc;have hj:=V5 cs hn hl (λx hx c hcx=>g2 c (List.mem_flatten.2 ⟨x,hx,hcx⟩));have hap:=bB w cs.flatten hw h12 hl g1;have hem:(ev.map FT).length=ev.length:=AH _
 obtain⟨k,hk⟩:∃k:Nat,(if(256:Int)<((ev.map FT).length:Nat)then(256:Int)else((ev.map FT).length:Nat))=(k:Nat):=by
  by_cases h:(256:Int)<((ev.map FT).length:Nat)
  ·exact⟨256,by rw[AY h];rfl⟩
  ·exact⟨_,by rw[AM h]⟩
 have hk1:k<=ev.length/\ev.take k=ev.take 256:=by
  by_cases h:(256:Int)<((ev.map FT).length:Nat)
  ·rw[AY h]at hk
   have:k=256:=by omega
   subst this;exact⟨by omega,rfl⟩
  ·rw[AM h]at hk
   have:k=ev.length:=by omega
   subst this;exact⟨AP _,by rw[B9,BB (by omega)]⟩
 obtain⟨hk1,hk2⟩:=hk1;have htk:(ev.map FT).take k=(ev.take 256).map FT:=by rw[<-EK,hk2]
 have htl:((ev.map FT).take k).length<=256:=by rw[htk,AH,BZ];omega
 refine Sp (nt:=47) (res:=[.cell 6 26,.tmp 7,.tmp 8]) func68 λSf=>?_
 refine RG ?_;refine BS ?_;refine WO ?_;refine Ai λR=>?_;refine JE ?_
 refine JK ?_;refine BU (h:=(hck ..)) (k:=?_);refine JC ?_;refine JB ?_;refine AB rfl rfl ?_;refine JK ?_;refine BU (h:=(hj ..)) (k:=?_);refine JE ?_;refine JB ?_;refine AB rfl rfl ?_;refine JH ?_;refine BP (h:=(hap ..)) (k:=?_);refine KO ?_;refine Ai λV=>?_;refine JE ?_
 refine JB ?_;refine AB rfl rfl ?_;refine FL ?_;refine CN λY=>?_
 refine RU ?_;(iterate 5 refine RK ?_);refine BO ?_ (W.hiL (a:=k) rfl rfl hk (by omega));refine RGo.s (bQ (by omega) (by unfold maxLen;omega) rfl rfl (by exact As)) rfl ?_;(iterate 3 refine RK ?_);refine RGo.nil (by kernel_rfl) ?_;refine RT ?_;exact DA [wdA false (GE w cs.flatten).1,.sl Y 0 ((ev.map FT).take k).length,iA 0] [wdA false (GE w cs.flatten).1,.lst true 136 4 ((ev.map FT).take k),iA 0] (.cons (.cell .same) (.cons (.cell (.sl (p:=0) .here rfl)) (.cons (.cell .same) .nil))) (e:=by rw[htk];rfl)
theorem Of(w:Wd)(l:List Sys)(seed tick:Int)(h:TickG w l):PS prog 20 [wdA false w,Oi false l,iA seed,iA tick] (.tup [wdA false (LV w l seed tick).1,dM false (LV w l seed tick).2,iA 0]):=by
 have hck:=SE w l h;have h24:=h.l24;obtain⟨k1,k2,k3,k4,k5,k6,k7⟩:=OL (seed:=seed) (tick:=tick) l w 0 h;have hall:=h.all seed tick;have hend:=Uw (GS seed tick w 0 l).1 (GS seed tick w 0 l).2.1 (GS seed tick w 0 l).2.2 k1 (by rw[k2];exact h.k12) (by omega) (by omega) (by rw[k2];exact hall) (by omega);have htm:LV w l seed tick=((GE (GS seed tick w 0 l).1 (GS seed tick w 0 l).2.1.flatten).1,(GS seed tick w 0 l).2.2.take 256):=rfl;rw[htm];dsimp only;obtain⟨⟨v,cs,ev⟩,hq⟩:=nm (GS seed tick w 0 l);rw[hq]at hend k4 k6⊢;dsimp only at hend k4 k6⊢;have hlm:(l.map (FJ false)).length=l.length:=AH _;refine Sp (nt:=65) (res:=[.cell 8 26,.tmp 9,.tmp 10]) func20 λSf=>?_
 refine RG ?_;refine M9 λB=>?_
 refine M9 λR=>?_
 refine KO ?_;refine JH ?_;refine BP (h:=(hck ..)) (k:=?_);refine JC ?_;refine JB ?_;refine AB rfl rfl ?_;refine JB ?_;refine JB ?_;refine JJ ?_;refine AWP.adopt (d:=13) 136 4 rfl λE0=>?_
 refine AWP.adopt (d:=12) 139 1 rfl λC0=>?_
 refine LP (λ(i C E:Nat) (z:Wd×List (List Cmd)×List Evt)=>⟨[(1,Oi false l),(2,iA seed),(3,iA tick),(4,.ptr B 0 0),(8,.ptr R 0 0),(12,.sl C 0 z.2.1.length),(13,.sl E 0 z.2.2.length),(27,Oi false l),(28,iA (l.map (FJ false)).length),(29,iA i)],(C,.row 139 1 (z.2.1.map (En false)))::(E,.row 136 4 (z.2.2.map FT))::(R,.row 26 3 [.agg [.prim (.slice none 0 0),.prim (.slice none 0 0),.prim (.slice none 0 0)]])::(B,.row 26 3 [wdA false z.1])::Sf⟩) (λi _ _ z=>i<=l.length/\TickG z.1 l/\z.1.kinds=w.kinds/\(v,cs,ev)=((GS seed tick z.1 i (l.drop i)).1,z.2.1++(GS seed tick z.1 i (l.drop i)).2.1,z.2.2++(GS seed tick z.1 i (l.drop i)).2.2)) (λi _ _ _=>l.length-i) 0 C0 E0 (w,[],[]) ⟨Ap _,h,rfl,hq.symm⟩ ?_;rintro i C E ⟨z,zc,ze⟩ ⟨hi,hz,hzk,hrun⟩;dsimp only at hz hzk hrun⊢
 have hcl:zc.length<=24:=by
  have:=EI (λq=>q.2.1.length) hrun;dsimp only at this;rw[Ak]at this;omega
 have hel:ze.length<=122880:=by
  have:=EI (λq=>q.2.2.length) hrun;dsimp only at this;rw[Ak]at this;omega
 have hcm:(zc.map (En false)).length=zc.length:=AH _;have hem:(ze.map FT).length=ze.length:=AH _;refine JN ?_;refine AC rfl (λhb=>?_) (λhb=>?_)
 ·have h2:i<l.length:=by rw[Aj,hlm]at hb;omega
  obtain⟨s,hs⟩:=nm (l[i]);have hsm:s∈l:=by rw[<-hs];exact Ax h2
  have hat:(l.map (FJ false))[i]?=some (FJ false s):=by rw[Ae,Af h2,hs];rfl
  have hsr:=eH z s i seed tick hz.ok.wl ((Cg z).2 hz.ok) hz.k12 (hz.sg s hsm) hz.ok.ks (λit hit=>(hz.ok.it it hit).2.2.2.2) (B7 (hz.n hsm) (by decide));have hr:=hz.r hsm i seed tick;obtain⟨_,q2,q3⟩:=hz.cmds hsm i seed tick;rw[D9 h2,hs,GS]at hrun;unfold wdR at hrun hr;obtain⟨⟨ri,rc,re⟩,hrm⟩:=nm (LS z s i seed tick);rw[hrm]at hsr hr q2 q3 hrun;dsimp only at hsr hr q2 q3 hrun;have hg2:TickG ⟨z.kinds,z.gens,ri⟩ l:=⟨hr,hz.k12,hz.sg,hz.l24⟩;have hrcl:(rc.map D3).length=rc.length:=AH _;have hrel:(re.map FT).length=re.length:=AH _;refine JH ?_;refine Ai λX=>?_;refine JE ?_
  refine JH ?_;refine d5 (h:=(hsr ..)) (k:=?_);refine KO ?_;refine Ai λV=>?_;refine JE ?_
  refine JB ?_;refine AB rfl rfl ?_;refine JJ ?_;have hm1:zc.map (En false)++[En false rc]=(zc++[rc]).map (En false):=by rw[AT];rfl
  have hm2:zc.length+[En false rc].length=(zc++[rc]).length:=by rw[Ak];rfl
  have hm3:ze.map FT++re.map FT=(ze++re).map FT:=by rw[AT]
  have hm4:ze.length+(re.map FT).length=(ze++re).length:=by rw[Ak,hrel]
  refine RG ?_;(repeat first|(refine Bk ?_;first|(refine QU ?_;refine Eg (En false rc) ?_))|refine WO ?_|refine Ai λX=>?_|refine Ay λY=>?_);refine NL ?_;dsimp only[BE,List.set_cons_zero,List.set_cons_succ,CI,CD];rw[hm1,hm2,hm3,hm4];refine JB ?_;refine Hh (i+1) ?_ ?_ (⟨z.kinds,z.gens,ri⟩,zc++[rc],ze++re) ⟨h2,hg2,hzk,by rw[hrun];dsimp only;rw[Bg,Bg];rfl⟩ (by omega)
 ·have h2:i=l.length:=by rw[Ao,hlm]at hb;omega
  subst h2;rw[Dk,GS,BD,BD]at hrun;injection hrun with e1 e2
  injection e2 with e2 e3
  subst e1 e2 e3;refine FL ?_;refine M7 12 _ (Jo (En false) (λ_=>Frz.h) _) (hn:=hcm.symm) ?_;refine M7 13 _ (Jo FT (λ_=>Frz.h) _) (hn:=hem.symm) ?_;refine JI ?_;refine Fi (h:=(hend ..)) (k:=?_);refine JE ?_;refine RT ?_;exact KJ (rs:=[wdA false (GE v cs.flatten).1,dM false (ev.take 256),iA 0]) rfl
theorem PT(X:Nat)(l:List Int)(f:FuncId)(cap:List AV)(p:Int->Bool)(hs:DH cap=true)(hl:l.length<=4611686018427387904)(hf:∀x∈l,PS prog f (iA x::cap) (bA (p x))):PO prog 202 [.sl X 0 l.length,.fn f cap] X (.row 3 1 (l.map iA)) (iA (HM l p)) (.row 3 1 (l.map iA)):=by
 refine Sp (nt:=19) (res:=[.tmp 4]) func202 λSf=>?_
 refine KK ?_;refine B8 (λi:Nat=>⟨[(0,.sl X 0 l.length),(1,.fn f cap),(7,iA l.length),(8,iA i)],(X,.row 3 1 (l.map iA))::Sf⟩) (λi=>i<=l.length/\∀j (h:j<l.length),j<i->p l[j]=false) (λi=>l.length-i) 0 ⟨Ap _,λj h hj=>absurd hj (by omega)⟩ ?_;rintro i ⟨hi,he⟩;refine KK ?_;refine AC rfl (λhc=>?_) (λhc=>?_)
 ·have h:i<l.length:=by simpa using hc
  refine KK ?_;refine KP (h:=(hf _ (Ax h))) (k:=?_);refine KK ?_;refine AC rfl (λhd=>?_) (λhd=>?_)
  ·refine KK ?_
   refine RT ?_;refine XD ?_ ?_
   ·rw[HK h hd λj hj=>he j (by omega) hj]
   ·rfl
  ·refine KK ?_
   refine BM (i+1) ⟨h,λj h1 h2=>?_⟩;by_cases e:j=i
   ·subst e;exact hd
   ·exact he j h1 (by omega)
 ·have h:¬i<l.length:=by simpa using hc
  refine JA ?_;refine XD ?_ ?_
  ·rw[HL λj hj=>he j hj (by omega)]
  ·rfl
theorem Pt(X:Nat)(l:List Int)(f:FuncId)(cap:List AV)(p:Int->Bool)(hs:DH cap=true)(hl:l.length<=4611686018427387903)(hf:∀x∈l,PS prog f (iA x::cap) (bA (p x))):Spec prog 140 [.sl X 0 l.length,.fn f cap] [(X,.row 3 1 (l.map iA))] λr S'=>r= .lst true 3 1 ((l.filter λx=>!p x).map iA)/\S'=[]:=by
 refine Sp (nt:=42) (res:=[.tmp 4]) func140 λSf=>?_
 have h0:=PT X l f cap p hs (by omega) hf;have hr:=PV l p;obtain⟨v,hv⟩:=nm (HM l p);rw[hv]at h0 hr;refine KK ?_;refine AOps.o2 (h:=(h0 ..)) (k:=?_);refine KK ?_;refine AC rfl (λhc=>?_) (λhc=>?_)
 ·have hc:v= -1:=by simpa using hc
  have hall:(l.filter λx=>!p x)=l:=by
   rw[ES];intro x hx
   have h1:l.findIdx? p=none:=by
    unfold HM at hv;split at hv
    ·omega
    ·assumption
   rw[Dz]at h1;simp[h1 x hx]
  rw[hall];refine JA ?_;exact⟨[.sl X 0 l.length],[.lst true 3 1 (l.map iA)],_,[],.cons (.tmp rfl) rfl .nil,.cons (.cell (.sl (p:=0) .here (by simp))) .nil,by exact BH,rfl,rfl⟩
 ·have hc:v≠-1:=by simpa using hc
  obtain⟨i0,hi0⟩:∃i0:Nat,v=i0:=⟨v.toNat,by omega⟩;subst hi0
  have hfi:l.findIdx? p=some i0:=by
   unfold HM at hv;split at hv
   ·rename_i i hi;rw[hi];congr 1;omega
   ·omega
  obtain⟨hil,hpi,hmin⟩:=Cz.1 hfi
  have ht0:(l.take (i0+1)).filter (λx=>!p x)=l.take i0:=by
   rw[A6 hil,Dr];rw[show([l[i0]].filter λx=>!p x)=[] by simp[hpi],BD,ES];intro x hx;obtain⟨j,hj,rfl⟩:=EX.1 hx;have:=hmin j (by omega);simp at this⊢;exact this
  refine KK ?_;refine Ev (λ(i j:Nat) (M:List AV)=>⟨[(0,.sl X 0 l.length),(1,.fn f cap),(5,iA i),(6,iA j)],(X,.row 3 1 M)::Sf⟩) (λi j M=>i<j/\j<=l.length/\∃K:List Int,M=K.map iA/\K.length=l.length/\K.take i=((l.take j).filter λx=>!p x)/\K.drop j=l.drop j) (λi j _=>l.length-j) i0 (i0+1) (l.map iA) ⟨by omega,hil,l,rfl,rfl,ht0.symm,rfl⟩ ?_;rintro i j M ⟨hij,hj,K,rfl,hM,h1,h2⟩;refine KK ?_;refine AC rfl (λhd=>?_) (λhd=>?_)
  ·have h:j<l.length:=by simpa using hd
   have hKj:K[j]?=some l[j]:=by
    have:=EI (λz=>z[0]?) h2;simpa[h]using this
   have hat:(K.map iA)[j]?=some (iA l[j]):=by rw[Ae,hKj];rfl
   have hKi:i<K.length:=by omega
   obtain⟨b,hb⟩:=nm (p l[j]);have hfj:=hf _ (Ax h);rw[hb]at hfj
   have htk:(l.take (j+1)).filter (λx=>!p x)=(l.take j).filter (λx=>!p x)++if b then[]else[l[j]]:=by
    rw[A6 h,Dr]
    congr 1
    cases b<;>simp[hb]
   refine KK ?_;refine KP (h:=(hfj ..)) (k:=?_);refine KK ?_;cases b
   ·refine Aq rfl rfl ?_
    refine KK ?_;refine Dc (i+1) (j+1) _ ⟨by omega,h,K.set i l[j],by rw[BC],by simpa using hM,?_,?_⟩
    ·rw[htk,<-h1,E5,List.take_set,List.set_eq_of_length_le (by rw[BZ];omega),BY hKi]
     simp
    ·rw[List.drop_set_of_lt (by omega),<-Cq,h2,Cq]
   ·refine AB rfl rfl ?_
    refine KK ?_;refine Dc i (j+1) _ ⟨by omega,h,K,rfl,hM,?_,?_⟩
    ·rw[h1,htk];simp
    ·rw[<-Cq,h2,Cq]
  ·have h:j=l.length:=by rw[Ao]at hd;omega
   subst h;have h1':K.take i=l.filter λx=>!p x:=by rw[h1,B9]
   have hKl:(K.map iA).length=l.length:=by rw[AH,hM]
   have hki:∀A B,(List.take (0+i) (K.map iA)++A++B).take i=(l.filter λx=>!p x).map iA:=λA B=>by
    rw[An,Bg,DP (by rw[BZ];omega),Dy,QW,<-EK,h1']
   have hfl:i=((l.filter λx=>!p x).map iA).length:=by
    rw[<-h1',AH,BZ];omega
   (repeat first|(refine Bk ?_;first|refine Dl (W.slice_lo rfl rfl (by exact As) rfl (by omega)) rfl ?_|refine Dl (W.clear rfl (by exact As) (by first|exact .inl rfl|exact .inr rfl) rfl (by omega)) rfl ?_|refine AI (W.hi rfl rfl (by exact As) rfl (by omega)) rfl ?_)|refine WK ?_|refine Ai λX=>?_|refine Ay λY=>?_);refine FP (X:=X) i ?_;rw[hki];refine RT ?_;exact⟨[.sl X 0 i],[.lst true 3 1 ((l.filter λx=>!p x).map iA)],_,[],.cons (.tmp rfl) rfl .nil,.cons (.cell (.sl (p:=0) .here hfl)) .nil,by exact BH,rfl,rfl⟩
theorem Ss{i:Int}{j:Nat}(hi:i=j)(hj:j<ks.length):Qo ks i=(ks[j].fields.map fieldA).length:=by
 unfold Qo;rw[hi,show((j:Int)).toNat=j from rfl,Af hj,AH]
theorem ew(G:Nat)(ks:List Kind)(seen l:List Int)(hk:KI ks)(h0:seen≠[])(hs:∀x∈seen,0<=x/\x<ks.length)(hl:seen.length<=4398046511104):PO prog 143 [.fp [.ptr G 0 0],.fp [Av false seen],.fp [Ba false false ks]] G (DD l) (Dt (Iz ks seen l).1) (DD (Iz ks seen l).2):=by
 refine Sp (nt:=30) (res:=[.cell 3 227]) func143 λSf=>?_
 have h2:=BX l (n:=2) (by decide);have hn0:0<seen.length:=GI.2 h0;have hv:=BX (BW l 2) (n:=seen.length) (by omega);obtain⟨i,hi⟩:∃i:Nat,Bh (BW l 2) seen.length=i:=⟨(Bh (BW l 2) seen.length).toNat,by omega⟩;have hil:i<seen.length:=by omega
 obtain⟨j,hj⟩:∃j:Nat,seen[i]=j:=⟨seen[i].toNat,by have:=hs _ (Ax hil);omega⟩;have hjl:j<ks.length:=by have:=hs _ (Ax hil);omega
 obtain⟨hk0,hk1⟩:=hk;have hfl:=(hk1 _ (Ax hjl)).1;refine KK ?_;refine Ai λR=>?_;refine KK ?_;refine AOps.o2 (h:=(EL G _ _ (by decide))) (k:=?_);refine KK ?_
 refine AC rfl (λhb=>?_) (λhb=>?_)
 ·have hb:Bh l 2=0:=by simpa using hb
  have h20:=BX (BW l 2) (n:=20) (by decide);refine KK ?_;refine AOps.o2 (h:=(EL G _ _ (by decide))) (k:=?_);refine JA ?_;have he:Iz ks seen l=(⟨false,Bh (BW l 2) 20-6,⟨0,0⟩⟩,BW (BW l 2) 20):=by rw[Iz,AY hb]
  rw[he];exact Ui (rs:=[Dt ⟨false,Bh (BW l 2) 20-6,⟨0,0⟩⟩]) rfl rfl (.cons (.cell (p:=0) rfl .here TAg.h TSize.h rfl rfl) rfl .nil)
 ·have hb:Bh l 2≠0:=by simpa using hb
  obtain⟨l1,hl1⟩:=nm (BW l 2);rw[hl1]at hi hv⊢;have hfd:=Ss (ks:=ks) hj hjl;have hsd:seen.getD (Bh l1 seen.length).toNat 0=seen[i]:=by rw[hi];simp[hil]
  have he:Iz ks seen l=(⟨true,0,⟨seen[i],Bh (BW l1 seen.length) (Qo ks seen[i])⟩⟩,BW (BW l1 seen.length) (Qo ks seen[i])):=by rw[Iz,AM hb,hl1,hsd]
  rw[he,hfd]
  have hon:PO prog 33 [.ptr G 0 0,iA (seen.map iA).length] G (DD l1) (iA i) (DD (BW l1 seen.length)):=by
   have:=EL G l1 seen.length (by omega);rw[hi]at this;rw[AH];exact this
  have hon2:=EL G (BW l1 seen.length) (ks[j].fields.map fieldA).length (by rw[AH];omega);rw[hj]at he⊢;refine JM ?_;refine RGo.o2 (h:=(hon ..)) (k:=?_);(iterate 3 refine RK ?_);refine RGo.nil (by kernel_rfl) ?_;rw[hj];refine JM ?_;refine RGo.o2 (h:=(hon2 ..)) (k:=?_);(iterate 3 refine RK ?_);refine RGo.nil (by kernel_rfl) ?_;refine WK ?_;refine RT ?_;exact Ui (rs:=[Dt ⟨true,0,⟨j,Bh (BW l1 seen.length) (ks[j].fields.map fieldA).length⟩⟩]) rfl rfl (.cons (.cell (p:=0) rfl .here TAg.h TSize.h rfl rfl) rfl .nil)
theorem a9(ks:List Kind)(seen l:List Int)(hk:KI ks)(hf:∀k∈ks,k.fields≠[])(h0:seen≠[])(hs:∀x∈seen,0<=x/\x<ks.length):R7 ks seen (Iz ks seen l).1:=by
 have hn0:0<seen.length:=GI.2 h0;have hv:=BX (BW l 2) (n:=seen.length) (by omega);have h20:=BX (BW l 2) (n:=20) (by decide);unfold Iz R7;split
 ·exact⟨λh=>(by cases h),λ_=>⟨by show-6<=Bh (BW l 2) 20-6;omega,by show Bh (BW l 2) 20-6<=13;omega,rfl⟩⟩
 ·obtain⟨i,hi⟩:∃i:Nat,Bh (BW l 2) seen.length=i:=⟨(Bh (BW l 2) seen.length).toNat,by omega⟩
  have hil:i<seen.length:=by omega
  have hsd:seen.getD (Bh (BW l 2) seen.length).toNat 0=seen[i]:=by rw[hi];simp[hil]
  obtain⟨j,hj⟩:∃j:Nat,seen[i]=j:=⟨seen[i].toNat,by have:=hs _ (Ax hil);omega⟩;have hjl:j<ks.length:=by have:=hs _ (Ax hil);omega
  have hfd:=Ss (ks:=ks) hj hjl;have hfp:0<ks[j].fields.length:=GI.2 (hf _ (Ax hjl));rw[AH]at hfd;have hv2:=BX (BW (BW l 2) seen.length) (n:=Qo ks seen[i]) (by omega);rw[hsd];exact⟨λ_=>⟨rfl,⟨(hs _ (Ax hil)).1,(hs _ (Ax hil)).2,hv2.1,hv2.2⟩,Ax hil⟩,λh=>(by cases h)⟩
theorem VO:∀{l:List Int} {a n:Int},l.Pairwise (· < ·)->(∀x∈l,a<=x/\x<n)->a<=n->(l.length:Int)<=n-a
 |[],a,n,_,_,h=>by simp;omega
 |x::l,a,n,hp,hr,_=>by
  have hx:=hr x (by simp);rw[Al]at hp;have:=VO (a:=x+1) (n:=n) hp.2 (λy hy=>⟨by have:=hp.1 y hy;omega,(hr y (by simp[hy])).2⟩) (by omega);simp only[DM];omega
structure Sys2 where
 j:Nat
 A:Nat
 m:Nat
 M:List AV
 sp:List Comp
 q:List Int
structure Sys2.OK(ks:List Kind)(w3 w4:List Int)(c:Nat)(b:Sys2):Prop where
 le:b.j<=c
 e:∃ops:List Op,b.M=ops.map opA/\∀o∈ops,OpOK ks w3 w4 o
 m:b.m=b.M.length
 mj:b.m=b.j
 sp:b.sp=[]\/∃q,b.sp=(Eu ks q).1
structure Sys1 where
 i:Nat
 A1:Nat
 A2:Nat
 A3:Nat
 A4:Nat
 n1:Nat
 n2:Nat
 n3:Nat
 n4:Nat
 M1:List AV
 M2:List AV
 M3:List AV
 M4:List AV
 q:List Int
structure Sys1.OK(ks:List Kind)(b:Sys1):Prop where
 le:b.i<=ks.length
 e:∃w1 w2 w3 w4,b.M1=w1.map iA/\b.M2=w2.map iA/\b.M3=w3.map iA/\b.M4=w4.map iA/\SysL w1 w2 w3 w4 b.i
 n1:b.n1=b.M1.length
 n2:b.n2=b.M2.length
 n3:b.n3=b.M3.length
 n4:b.n4=b.M4.length
 b1:b.n1<=b.i
 b2:b.n2<=b.i
 b3:b.n3<=b.i
 b4:b.n4<=b.i
theorem TO{i:Nat}(h:i<6):[sA [111,110,101],sA [116,119,111],sA [116,104,114,101,101],sA [102,111,117,114],sA [102,105,118,101],sA [115,105,120]][i]?=some (sA (HW i)):=by
 have:i=0\/i=1\/i=2\/i=3\/i=4\/i=5:=by omega
 rcases this with rfl|rfl|rfl|rfl|rfl|rfl<;>rfl
theorem YB(x:Int):PS prog 141 [iA x] (bA (decide (x=0))):=by
 refine Sp (nt:=5) (res:=[.tmp 2]) func141 λSf=>?_
 refine JA ?_;refine Ag ?_;rfl
abbrev ZK:AO:=.row 132 7 [.agg [.prim (.string ByteArray.empty),.prim (.slice none 0 0),.prim (.slice none 0 0),.prim (.slice none 0 0),.prim (.slice none 0 0),.prim (.slice none 0 0),.prim (.slice none 0 0)]]
theorem Xd(G:Nat)(ks:List Kind)(l:List Int)(n:Nat)(hk:KI ks)(hf:∀k∈ks,k.fields≠[])(h0:ks≠[])(hn:n<6):Spec prog 69 [Ba false false ks,.ptr G 0 0,iA n] [(G,DD l)] λr S'=>∃b:Sys×List Int,SysOK ks n b.1/\r=FJ false b.1/\S'=[(G,DD b.2)]:=by
 refine Sp (nt:=187) (res:=[.cell 6 132]) func69 λSf=>?_
 have hkn:=TO hn;have hks:=hk.1;have hk1:0<ks.length:=GI.2 h0;refine RG ?_;refine BS ?_;refine BS ?_;refine WO ?_;refine Ai λR=>?_;refine NL ?_
 refine JI ?_;refine Ai λX=>?_;refine JC ?_
 refine IS 42 2 (Y:=X) (.cons (.agg (.s (.s (.s (.s (.s (.s (.cons (.base .nil) .nil)))))))) .nil) ?_;refine CY (Y:=X) 229 11 (by exact As) (λF=>.cons (.agg (.s (.s (.s (.s (.s (.cons (.base .nil) .r))))))) .nil) λA5=>?_
 refine CY (Y:=X) 3 1 (by exact As) (λF=>.cons (.agg (.s (.s (.s (.s (.cons (.base .nil) .r)))))) .nil) λA4=>?_
 refine CY (Y:=X) 3 1 (by exact As) (λF=>.cons (.agg (.s (.s (.s (.cons (.base .nil) .r))))) .nil) λA3=>?_
 refine CY (Y:=X) 3 1 (by exact As) (λF=>.cons (.agg (.s (.s (.cons (.base .nil) .r)))) .nil) λA2=>?_
 refine CY (Y:=X) 3 1 (by exact As) (λF=>.cons (.agg (.s (.cons (.base .nil) .r))) .nil) λA1=>?_
 refine JN ?_;refine B8 (λb:Sys1=>⟨[(3,.fp [Ba false false ks]),(4,.fp [.ptr G 0 0]),(6,.ptr R 0 0),(7,.ptr X 0 0),(19,iA (ks.map (CF false)).length),(20,iA b.i)],(b.A1,.row 3 1 b.M1)::(b.A2,.row 3 1 b.M2)::(b.A3,.row 3 1 b.M3)::(b.A4,.row 3 1 b.M4)::(A5,.row 229 11 [])::(X,.row 132 7 [.agg [sA (HW n),.sl b.A1 0 b.n1,.sl b.A2 0 b.n2,.sl b.A3 0 b.n3,.sl b.A4 0 b.n4,.sl A5 0 0,.lst false 42 2 []]])::(R,ZK)::(G,DD b.q)::Sf⟩) (Sys1.OK ks) (λb=>ks.length-b.i) ⟨0,A1,A2,A3,A4,0,0,0,0,[],[],[],[],l⟩ ⟨Ap _,⟨[],[],[],[],rfl,rfl,rfl,rfl,SysL.nil _⟩,rfl,rfl,rfl,rfl,AP _,AP _,AP _,AP _⟩ ?_;rintro⟨i,A1,A2,A3,A4,n1,n2,n3,n4,M1,M2,M3,M4,q⟩ ⟨hi,⟨w1,w2,w3,w4,h1,h2,h3,h4,hL⟩,e1,e2,e3,e4,b1,b2,b3,b4⟩;dsimp only at hi h1 h2 h3 h4 hL e1 e2 e3 e4 b1 b2 b3 b4⊢;have hi40:i<=1099511627775\/i=ks.length:=by omega
 refine KK ?_;refine AC rfl (λhc=>?_) (λhc=>?_)
 ·have h:i<ks.length:=by simpa using hc
  have h4':=BX q (n:=4) (by decide);have c1:n1+1<=1099511627776:=by omega
  have c2:n2+1<=1099511627776:=by omega
  have c3:n3+1<=1099511627776:=by omega
  have c4:n4+1<=1099511627776:=by omega
  have ap:∀w:List Int,w.map iA++[iA (i:Int)]=(w++[(i:Int)]).map iA:=λw=>by rw[AT];rfl
  have al:∀(m:Nat) (M:List AV),m=M.length->m+1=(M++[iA (i:Int)]).length:=λm M hm=>by rw[Ak,hm];rfl
  refine KK ?_;refine AOps.o2 (h:=(EL G _ _ (by decide))) (k:=?_);refine KK ?_;refine AC rfl (λhd=>?_) (λhd=>?_)
  ·refine CN λY1=>CN λY3=>?_
   refine RU ?_;(iterate 14 refine RK ?_);refine RGo.nil (by kernel_rfl) ?_;refine KK ?_;refine BM (⟨i+1,Y3,A2,Y1,A4,n1+1,n2,n3+1,n4,M1++[iA i],M2,M3++[iA i],M4,BW q 4⟩:Sys1) ⟨h,⟨w1++[(i:Int)],w2,w3++[(i:Int)],w4,?_,h2,?_,h4,hL.read (by omega)⟩,al _ _ e1,e2,al _ _ e3,e4,?_,?_,?_,?_⟩ (by dsimp only;omega)
   ·dsimp only;rw[h1,ap]
   ·dsimp only;rw[h3,ap]
   all_goals (dsimp only;omega)
  ·refine KK ?_
   refine AC rfl (λhe=>?_) (λhe=>?_)
   ·refine CN λY1=>CN λY3=>?_
    refine RU ?_;(iterate 14 refine RK ?_);refine RGo.nil (by kernel_rfl) ?_;refine KK ?_;refine BM (⟨i+1,Y3,A2,A3,Y1,n1+1,n2,n3,n4+1,M1++[iA i],M2,M3,M4++[iA i],BW q 4⟩:Sys1) ⟨h,⟨w1++[(i:Int)],w2,w3,w4++[(i:Int)],?_,h2,h3,?_,hL.write (by omega)⟩,al _ _ e1,e2,e3,al _ _ e4,?_,?_,?_,?_⟩ (by dsimp only;omega)
    ·dsimp only;rw[h1,ap]
    ·dsimp only;rw[h4,ap]
    all_goals (dsimp only;omega)
   ·refine KK ?_
    refine AC rfl (λhg=>?_) (λhg=>?_)
    ·refine KK ?_;refine Ay λY=>?_;refine KK ?_
     refine BM (⟨i+1,A1,Y,A3,A4,n1,n2+1,n3,n4,M1,M2++[iA i],M3,M4,BW q 4⟩:Sys1) ⟨h,⟨w1,w2++[(i:Int)],w3,w4,h1,?_,h3,h4,hL.without (by omega)⟩,e1,al _ _ e2,e3,e4,?_,?_,?_,?_⟩ (by dsimp only;omega)
     ·dsimp only;rw[h2,ap]
     all_goals (dsimp only;omega)
    ·refine KK ?_
     refine BM (⟨i+1,A1,A2,A3,A4,n1,n2,n3,n4,M1,M2,M3,M4,BW q 4⟩:Sys1) ⟨h,⟨w1,w2,w3,w4,h1,h2,h3,h4,hL.weaken (by dsimp only;omega)⟩,e1,e2,e3,e4,?_,?_,?_,?_⟩ (by dsimp only;omega)
     all_goals (dsimp only;omega)
 ·have h:i=ks.length:=by rw[Ao,AH]at hc;omega
  subst h;clear hc b1 b3 b4 hi40 hi;have f1:AV.frzs M1=w1.map iA:=by rw[h1];exact Frzs.h
  have f2:AV.frzs M2=w2.map iA:=by rw[h2];exact Frzs.h
  have f3:AV.frzs M3=w3.map iA:=by rw[h3];exact Frzs.h
  have f4:AV.frzs M4=w4.map iA:=by rw[h4];exact Frzs.h
  refine R1 ?_;refine Bz (λb:List Int×List Int×List Int×List Int=>SysL b.1 b.2.1 b.2.2.1 b.2.2.2 ks.length/\b.1≠[]) (λb=>⟨[(3,.fp [Ba false false ks]),(4,.fp [.ptr G 0 0]),(6,.ptr R 0 0),(7,.ptr X 0 0)],(A5,.row 229 11 [])::(X,.row 132 7 [.agg [sA (HW n),Av false b.1,Av false b.2.1,Av false b.2.2.1,Av false b.2.2.2,.sl A5 0 0,.lst false 42 2 []]])::(R,ZK)::(G,DD q)::Sf⟩) ?_ ?_
  ·refine AC rfl (λhd=>?_) (λhd=>?_)
   ·have hd:n1=0:=by rw[Aj]at hd;omega
    have hw1:w1=[]:=Ct (by have:=EI List.length h1;rw[AH]at this;omega);have hn2:n2=w2.length:=by rw[e2,h2,AH]
    have hw2:w2.length<=1099511627776:=by omega
    have hz:=Pt A2 w2 141 [] (λx=>decide (x=0)) rfl (by omega) (λx _=>YB x);subst hn2 h2 hw1;refine CN λY2=>?_
    refine JI ?_;refine XG hz.used (.ls (Y:=Y2)) ?_;refine KO ?_;have g2:AV.frzs ((w2.filter λx=>!decide (x=0)).map iA)=(w2.filter λx=>!decide (x=0)).map iA:=Frzs.h;refine SA Y2 ((w2.filter λx=>!decide (x=0)).map iA) g2 (.cons (.agg (.s (.s (.cons (.base .sl) .r)))) .nil) ?_;refine SA A3 (w3.map iA) f3 (.cons (.agg (.s (.s (.s (.cons (.base .sl) .r))))) .nil) ?_;refine WK ?_;exact jn ([0],w2.filter λx=>!decide (x=0),w3,[0]) ⟨hL.zero (by omega),by simp⟩
   ·have hd:n1≠0:=by rw[Ao]at hd;omega
    have hw1:w1≠[]:=by rintro rfl;rw[h1]at e1;exact hd e1
    refine K3 A1 (w1.map iA) f1 (.cons (.agg (.s (.cons (.base .sl) .r))) .nil) ?_;refine K3 A2 (w2.map iA) f2 (.cons (.agg (.s (.s (.cons (.base .sl) .r)))) .nil) ?_;refine K3 A3 (w3.map iA) f3 (.cons (.agg (.s (.s (.s (.cons (.base .sl) .r))))) .nil) ?_;refine K3 A4 (w4.map iA) f4 (.cons (.agg (.s (.s (.s (.s (.cons (.base .sl) .r)))))) .nil) ?_;refine WK ?_;exact jn (w1,w2,w3,w4) ⟨hL,hw1⟩
  ·rintro⟨w1,w2,w3,w4⟩ ⟨hL,hne⟩
   dsimp only at hL hne⊢;have hr3:∀x∈w3,0<=x/\x<ks.length:=λx hx=>hL.r1 x (hL.s3 x hx)
   have hr4:∀x∈w4,0<=x/\x<ks.length:=λx hx=>hL.r1 x (hL.s4 x hx)
   have hl3:=VO hL.o3 hr3 (by omega);have hl4:=VO hL.o4 hr4 (by omega);have hfl:[w3,w4].flatten=w3++w4:=by simp
   have hcc:=Pv [w3,w4] (by simp) (by rw[hfl,Ak];omega);rw[hfl]at hcc;have hsr:∀x∈w3++w4,0<=x/\x<ks.length:=λx hx=>by rcases AL.1 hx with h|h;exact hr3 x h;exact hr4 x h
   have hsn:w3++w4≠[]:=by
    intro e0;obtain⟨x,hx⟩:=List.exists_mem_of_ne_nil _ hne;rcases hL.all x hx with h|h
    ·have:x∈w3++w4:=by simp[h]
     rw[e0]at this;cases this
    ·have:x∈w3++w4:=by simp[h]
     rw[e0]at this;cases this
   have hap:=λl=>ew G ks (w3++w4) l hk hsn hsr (by rw[Ak];omega)
   have hao:=λl=>a9 ks (w3++w4) l hk hf hsn hsr
   have hw4:0<=Bh q 6/\Bh q 6<6:=BX q (by decide);obtain⟨c,hc⟩:∃c:Nat,Bh q 6=c:=⟨(Bh q 6).toNat,by omega⟩;obtain⟨q0,hq0⟩:=nm (BW q 6);refine JI ?_;refine BU (h:=(hcc ..)) (k:=?_);refine WO ?_;refine Ai λV=>?_;refine JC ?_
   refine Gw [9] (X:=V) (by exact As) ?_ (by intro d hd;simp only[CX]at hd;subst hd;rfl);refine R1 ?_;refine JF ?_;refine AOps.o2 (h:=(EL G _ _ (by decide))) (k:=?_);refine JC ?_;rw[hc,hq0];refine FL ?_;refine B8 (λb:Sys2=>⟨[(3,.fp [Ba false false ks]),(4,.fp [.ptr G 0 0]),(6,.ptr R 0 0),(7,.ptr X 0 0),(10,.fn 143 [.fp [.ptr G 0 0],.fp [Av false (w3++w4)],.fp [Ba false false ks]]),(82,iA c),(83,iA b.j)],(b.A,.row 229 11 b.M)::(X,.row 132 7 [.agg [sA (HW n),Av false w1,Av false w2,Av false w3,Av false w4,.sl b.A 0 b.m,.lst false 42 2 (b.sp.map (AZ false))]])::(R,ZK)::(G,DD b.q)::Sf⟩) (Sys2.OK ks w3 w4 c) (λb=>c-b.j) ⟨0,A5,0,[],[],q0⟩ ⟨Ap _,⟨[],rfl,by simp⟩,rfl,rfl,.inl rfl⟩ ?_;rintro⟨j,A,m,M,sp,q⟩ ⟨hj,⟨ops,hM,hO⟩,hm,hmj,hsp⟩;dsimp only at hj hM hm hmj hsp⊢;refine KK ?_;refine AC rfl (λhd=>?_) (λhd=>?_)
   ·have hjc:j<c:=by rw[Aj]at hd;omega
    have hd13:=BX q (n:=13) (by decide);obtain⟨d,hdd⟩:=nm (Bh q 13);obtain⟨q1,hq1⟩:=nm (BW q 13);have ha:=hao q1;have hap1:=hap q1;obtain⟨a,haa⟩:=nm ((Iz ks (w3++w4) q1).1);obtain⟨q2,hq2⟩:=nm ((Iz ks (w3++w4) q1).2);rw[haa]at ha hap1;rw[hq2]at hap1;have hn13:=EL G q 13 (by decide);rw[hdd,hq1]at hn13;rw[hdd]at hd13;refine JF ?_;refine AOps.o2 (h:=(hn13 ..)) (k:=?_);refine WO ?_;refine XI (h:=(hap1 ..)) (k:=?_);refine KO ?_;refine Ai λO=>?_;refine JC ?_
    refine R1 ?_;refine Bz (λb:Arg×List Int=>if LU d then R7 ks (w3++w4) b.1 else b.1=Ju) (λb=>⟨[(3,.fp [Ba false false ks]),(4,.fp [.ptr G 0 0]),(6,.ptr R 0 0),(7,.ptr X 0 0),(10,.fn 143 [.fp [.ptr G 0 0],.fp [Av false (w3++w4)],.fp [Ba false false ks]]),(11,.ptr O 0 0),(82,iA c),(83,iA j)],(O,.row 229 11 [opA ⟨d,⟨0,0⟩,a,b.1⟩])::(A,.row 229 11 M)::(X,.row 132 7 [.agg [sA (HW n),Av false w1,Av false w2,Av false w3,Av false w4,.sl A 0 m,.lst false 42 2 (sp.map (AZ false))]])::(R,ZK)::(G,DD b.2)::Sf⟩) ?_ ?_
    ·refine AC rfl (λhg=>?_) (λhg=>?_)
     ·have htw:LU d=true:=by
       unfold LU;simp only[Cf,AF,Aj]at hg⊢;omega
      have hap2:=hap q2;have ha2:=hao q2;refine KK ?_;refine XI (h:=(hap2 ..)) (k:=?_);refine KK ?_;exact jn ((Iz ks (w3++w4) q2).1,(Iz ks (w3++w4) q2).2) (by rw[AY htw];exact ha2)
     ·have htw:LU d=false:=by
       unfold LU;simp only[Dq,Fb,Ao]at hg⊢;omega
      refine WK ?_;exact jn (Ju,q2) (by rw[htw];rfl)
    ·rintro⟨b,q3⟩ hb
     dsimp only at hb⊢;refine bg (λb:Op×List Comp×List Int=>OpOK ks w3 w4 b.1/\(b.2.1=[]\/∃q,b.2.1=(Eu ks q).1)) (λb=>⟨[(3,.fp [Ba false false ks]),(4,.fp [.ptr G 0 0]),(6,.ptr R 0 0),(7,.ptr X 0 0),(10,.fn 143 [.fp [.ptr G 0 0],.fp [Av false (w3++w4)],.fp [Ba false false ks]]),(11,.ptr O 0 0),(82,iA c),(83,iA j)],(O,.row 229 11 [opA b.1])::(A,.row 229 11 M)::(X,.row 132 7 [.agg [sA (HW n),Av false w1,Av false w2,Av false w3,Av false w4,.sl A 0 m,.lst false 42 2 (b.2.1.map (AZ false))]])::(R,ZK)::(G,DD b.2.2)::Sf⟩) ?_ ?_
     ·refine KK ?_
      refine AC rfl (λhg=>?_) (λhg=>?_)
      ·have hap3:=hap q3
       have ha3:=hao q3;refine JM ?_;refine fE (h:=(hap3 ..)) (k:=?_);refine JG ?_;refine RGo.nil (by kernel_rfl) ?_;refine WK ?_;exact jn (⟨12,⟨0,0⟩,a,(Iz ks (w3++w4) q3).1⟩,sp,(Iz ks (w3++w4) q3).2) ⟨⟨by dsimp only;omega,by dsimp only;omega,ha,ha3,λh=>by dsimp only at h;omega,λh=>by dsimp only at h;omega,λ_=>rfl⟩,hsp⟩
      ·have hg':¬(d<=7/\w4.length=0):=by
        simp only[Fb,Ao,AH]at hg;omega
       refine KK ?_;refine AC rfl (λhs=>?_) (λhs=>?_)
       ·have hs:d<=7:=by simpa using hs
        have hw0:0<w4.length:=by omega
        have hv:=BX q3 (n:=w4.length) (by omega);obtain⟨i,hi⟩:∃i:Nat,Bh q3 w4.length=i:=⟨(Bh q3 w4.length).toNat,by omega⟩;have hil:i<w4.length:=by omega
        obtain⟨k,hk4⟩:∃k:Nat,w4[i]=k:=⟨w4[i].toNat,by have:=hr4 _ (Ax hil);omega⟩;have hkl:k<ks.length:=by have:=hr4 _ (Ax hil);omega
        have hkm:(k:Int)∈w4:=by rw[<-hk4];exact Ax hil
        have hkf:=(hk.2 _ (Ax hkl)).1;have hfd:=Ss (ks:=ks) (i:=k) rfl hkl;have hfp:0<ks[k].fields.length:=GI.2 (hf _ (Ax hkl))
        have hon:PO prog 33 [.ptr G 0 0,iA (w4.map iA).length] G (DD q3) (iA i) (DD (BW q3 w4.length)):=by
         have:=EL G q3 w4.length (by omega);rw[hi]at this;rw[AH];exact this
        have hon2:=EL G (BW q3 w4.length) (ks[k].fields.map fieldA).length (by rw[AH];omega);have hv2:=BX (BW q3 w4.length) (n:=(ks[k].fields.map fieldA).length) (by rw[AH];omega);refine JM ?_;refine RGo.o2 (h:=(hon ..)) (k:=?_);(iterate 3 refine RK ?_);refine RGo.nil (by kernel_rfl) ?_;rw[hk4];refine JM ?_;refine RGo.o2 (h:=(hon2 ..)) (k:=?_);(iterate 3 refine RK ?_);refine RGo.nil (by kernel_rfl) ?_;refine WK ?_;refine jn (⟨d,⟨k,Bh (BW q3 w4.length) (ks[k].fields.map fieldA).length⟩,a,b⟩,sp,_) ⟨⟨by dsimp only;omega,by dsimp only;omega,ha,hb,λ_=>⟨⟨by dsimp only;omega,by dsimp only;omega,hv2.1,by dsimp only;rw[hfd];exact hv2.2⟩,hkm⟩,λh=>by dsimp only at h;omega,λh=>by dsimp only at h;omega⟩,hsp⟩
       ·have hs:¬d<=7:=by simpa using hs
        refine KK ?_;refine AC rfl (λhu=>?_) (λhu=>?_)
        ·have hu:d=8\/d=9:=by simpa using hu
         have hon:=EL G q3 (ks.map (CF false)).length (by rw[AH];omega);have hv:=BX q3 (n:=(ks.map (CF false)).length) (by rw[AH];omega);have hv2:=hv.2;rw[AH]at hv2;refine KK ?_;refine AOps.o2 (h:=(hon ..)) (k:=?_);refine KK ?_;refine jn (⟨d,⟨Bh q3 (ks.map (CF false)).length,0⟩,a,b⟩,sp,_) ⟨⟨by dsimp only;omega,by dsimp only;omega,ha,hb,λh=>by dsimp only at h;omega,λ_=>⟨hv.1,by dsimp only;rw[AH];exact hv2,rfl⟩,λh=>by dsimp only at h;omega⟩,hsp⟩
        ·have hu:¬(d=8\/d=9):=by simpa using hu
         refine KK ?_;refine AC rfl (λhx=>?_) (λhx=>?_)
         ·have hcp:=UT G ks q3 hk
          refine KK ?_;refine AOps.o2 (h:=(hcp ..)) (k:=?_);refine KK ?_;refine jn (⟨d,⟨0,0⟩,a,b⟩,(Eu ks q3).1,(Eu ks q3).2) ⟨⟨by dsimp only;omega,by dsimp only;omega,ha,hb,λh=>by dsimp only at h;omega,λh=>by dsimp only at h;omega,λ_=>rfl⟩,.inr ⟨q3,rfl⟩⟩
         ·refine KK ?_
          refine jn (⟨d,⟨0,0⟩,a,b⟩,sp,q3) ⟨⟨by dsimp only;omega,by dsimp only;omega,ha,hb,λh=>by dsimp only at h;omega,λh=>by dsimp only at h;omega,λ_=>rfl⟩,hsp⟩
     ·rintro⟨o,sp',q4⟩ ⟨ho,hsp'⟩
      dsimp only at ho hsp'⊢;have hm1:m+1<=1099511627776:=by omega
      (iterate 4 refine WK ?_);refine Eg (opA o) ?_;refine WK ?_;refine Ay λY=>?_;refine KK ?_
      refine BM (⟨j+1,Y,m+1,M++[opA o],sp',q4⟩:Sys2) ⟨hjc,⟨ops++[o],by dsimp only;rw[hM,AT];rfl,λo' ho'=>?_⟩,by dsimp only;rw[Ak,hm];rfl,by dsimp only;omega,hsp'⟩ (by dsimp only;omega);rcases AL.1 ho' with h|h
      ·exact hO o' h
      ·rw[AW.1 h];exact ho
   ·have hjc:j=c:=by rw[Ao]at hd;omega
    subst hjc;have fM:AV.frzs M=ops.map opA:=by rw[hM];exact Frzs.h
    refine FL ?_;refine K3 A (ops.map opA) fM (.cons (.agg (.s (.s (.s (.s (.s (.cons (.base .sl) .r))))))) .nil) ?_;refine JA ?_;have hlen:ops.length<=5:=by rw[hM,AH]at hm;omega
    exact⟨[FJ false ⟨HW n,w1,w2,w3,w4,ops,sp⟩],[FJ false ⟨HW n,w1,w2,w3,w4,ops,sp⟩],_,[(G,DD q)],.cons (.cell rfl (by exact As) TAg.h TSize.h rfl rfl) rfl .nil,QQ _ _,by exact BH,(⟨HW n,w1,w2,w3,w4,ops,sp⟩,q),⟨rfl,hL,hne,hlen,hO,hsp⟩,rfl,rfl⟩
def f9:Arg:=⟨true,0,⟨0,0⟩⟩
def olderS:Sys:=⟨[111,108,100,101,114],[0],[],[],[0],[⟨1,⟨0,0⟩,f9,⟨false,1,⟨0,0⟩⟩⟩,⟨12,⟨0,0⟩,⟨false,1,⟨0,0⟩⟩,f9⟩],[]⟩
theorem UH(l:List Int):0<(Fo l).kinds.length/\(Fo l).kinds.length<=4:=⟨Mi l,(PZ l).1⟩
theorem W6{rd wr:List Int}{a:Arg}(h:R7 ks (rd++wr) a):ArgG ks rd wr a:=by
 refine⟨λe=>?_,λe=>?_⟩
 ·obtain⟨h1,h2,h3⟩:=h.1 e
  refine⟨h1,h2,?_⟩;rw[Du]at h3;rcases h3 with h3|h3
  ·exact .inl (by simpa using h3)
  ·exact .inr (by simpa using h3)
 ·obtain⟨h1,h2,h3⟩:=h.2 e
  exact⟨by omega,by omega,h3⟩
theorem Zt{rd wr:List Int}{o:Op}(h:OpOK ks rd wr o):OpG ks rd wr o:=by
 refine⟨h.lo,h.hi,W6 h.a,?_,?_,?_,h.puts,h.none⟩
 ·have hb:=h.b
  split at hb
  ·exact W6 hb
  ·rw[hb]
   exact⟨λe=>(by cases e),λ_=>⟨by decide,by decide,rfl⟩⟩
 ·intro e
  have hb:=h.b;rw[AM (by rw[e];decide)]at hb;exact hb
 ·intro e
  have:o.act<=7:=by unfold Ki at e;simp at e;exact e.2
  obtain⟨h1,h2⟩:=h.sets this;exact⟨h1,by simpa using h2⟩
theorem UA:∀(l:List Int) (a n:Int),l.Pairwise (· < ·)->(∀x∈l,a<=x/\x<n)->a<=n->(l.length:Int)<=n-a
 |[],a,n,_,_,h=>by simp;omega
 |x::l,a,n,hp,hr,h=>by
  obtain⟨h1,h2⟩:=Al.1 hp;obtain⟨h3,h4⟩:=hr x (by simp)
  have:=UA l (x+1) n h2 (λy hy=>by
   have e1:=h1 y hy;have e2:=(hr y (by simp[hy])).2;omega) (by omega)
  rw[DM];omega
theorem cH{n:Nat}{s:Sys}(hk:CB ks=0)(hg:KsGood ks)(hn:n<6)(h:SysOK ks n s):SysG ks s:=by
 have h16:=(DX hk).1;have hl:=h.lists
 have hin:∀l:List Int,l.Pairwise (· < ·)->(∀x∈l,0<=x/\x<(ks.length:Int))->l.length<=16:=λl h1 h2=>by
  have:=UA l 0 ks.length h1 h2 (by omega);omega
 have r3:∀x∈s.reads,0<=x/\x<(ks.length:Int):=λx hx=>hl.r1 x (hl.s3 x hx)
 have r4:∀x∈s.writes,0<=x/\x<(ks.length:Int):=λx hx=>hl.r1 x (hl.s4 x hx)
 have hsp:(EO ks s.spawn).2=0/\s.spawn.length<=1099511627776:=by
  rcases h.spawn with e|⟨q,e⟩
  ·rw[e];exact⟨by rw[NF hk (by rfl)],by simp⟩
  ·rw[e]
   have hh:=Lb hg q;have:=(HO hk hh).1;exact⟨by rw[NF hk hh],by omega⟩
 refine⟨?_,by have:=h.len;omega,?_,?_,?_,hsp.1,hsp.2,λo ho=>Zt (h.ops o ho)⟩
 ·rw[h.name]
  rcases(show n=0\/n=1\/n=2\/n=3\/n=4\/n=5 by omega)with rfl|rfl|rfl|rfl|rfl|rfl<;>decide
 ·intro l hl'
  simp only[Cl,D1,KY]at hl';rcases hl' with rfl|rfl|rfl|rfl
  ·exact⟨hl.o1,hl.r1,hin _ hl.o1 hl.r1⟩
  ·exact⟨hl.o2,hl.r2,hin _ hl.o2 hl.r2⟩
  ·exact⟨hl.o3,r3,hin _ hl.o3 r3⟩
  ·exact⟨hl.o4,r4,hin _ hl.o4 r4⟩
 ·rw[CQ]
  intro x hx;have:=hl.d x hx;simpa using this
 ·rw[CQ]
  intro x hx;rw[Du]at hx;have:x∈s.wth:=by exact hx.elim (hl.s3 x) (hl.s4 x)
  simpa using this
theorem VU:∀o∈olderS.ops,OpOK baseWd.kinds olderS.reads olderS.writes o:=by
 intro o ho;simp only[olderS,Cl,D1,KY]at ho;rcases ho with rfl|rfl
 ·refine⟨by decide,by decide,⟨λ_=>⟨rfl,by unfold Mv;decide,by decide⟩,λe=>(by cases e)⟩,?_,λ_=>⟨by unfold Mv;decide,by decide⟩,λe=>?_,λe=>?_⟩
  ·rw[AY (by decide)]
   exact⟨λe=>(by cases e),λ_=>⟨by decide,by decide,rfl⟩⟩
  ·rcases e with e|e<;>simp at e
  ·simp at e
 ·refine⟨by decide,by decide,⟨λe=>(by cases e),λ_=>⟨by decide,by decide,rfl⟩⟩,?_,λe=>?_,λe=>?_,λe=>rfl⟩
  ·rw[AY (by decide)]
   exact⟨λ_=>⟨rfl,by unfold Mv;decide,by decide⟩,λe=>(by cases e)⟩
  ·simp at e
  ·rcases e with e|e<;>simp at e
theorem VT:SysG baseWd.kinds olderS:=by
 refine⟨by decide,by decide,by decide,by decide,by decide,by decide,by decide,λo ho=>Zt (VU o ho)⟩
theorem dT:WdOK baseWd:=(Cg _).1 (by decide)
def SyssOK(ks:List Kind)(l:List Sys):Prop:=l.length<=5/\∀i (h:i<l.length),SysOK ks i l[i]
theorem U2(ks:List Kind)(l:List Int)(hk:KI ks)(hf:∀k∈ks,k.fields≠[])(h0:ks≠[]):Spec prog 21 [Ba false false ks,Av false l] [] λr S'=>∃b:List Sys,SyssOK ks b/\r=Oi true b/\S'=[]:=by
 refine Sp (nt:=25) (res:=[.tmp 4]) func21 λSf=>?_
 have h6:=BX l (n:=6) (by decide);obtain⟨c,hc⟩:∃c:Nat,Bh l 6=c:=⟨(Bh l 6).toNat,by omega⟩;obtain⟨q0,hq0⟩:=nm (BW l 6);refine KK ?_;refine Ai λG=>?_;refine KK ?_;refine AOps.o2 (h:=(EL G _ _ (by decide))) (k:=?_);refine KK ?_
 rw[hc,hq0];refine AWP.adopt (d:=6) 132 7 rfl λK=>?_
 refine S7 (λ(i K m:Nat) (M:List AV) (q:List Int)=>⟨[(0,Ba false false ks),(5,.ptr G 0 0),(6,.sl K 0 m),(12,iA c),(13,iA i)],(K,.row 132 7 M)::(G,DD q)::Sf⟩) (λi _ m M _=>i<=c/\m=i/\∃b:List Sys,M=b.map (FJ false)/\b.length=i/\∀j (h:j<b.length),SysOK ks j b[j]) (λi _ _ _ _=>c-i) 0 K 0 [] q0 ⟨Ap _,rfl,[],rfl,rfl,λj h=>absurd h (by simp)⟩ ?_;rintro i K m M q ⟨hi,hm,b,hM,hb,hO⟩;refine KK ?_;refine AC rfl (λhd=>?_) (λhd=>?_)
 ·have h:i<c:=by rw[Aj]at hd;omega
  have hs:=Xd G ks q i hk hf h0 (by omega);have hm1:m+1<=1099511627776:=by omega
  have hml:m=M.length:=by rw[hM,AH,hb,hm]
  refine R1 ?_;refine KL ?_;refine BT ?_;refine BT ?_;refine BT ?_;refine BT ?_;refine bz (h:=hs) λs hsO=>?_
  refine Eg (FJ false s.1) ?_;refine WK ?_;refine Ay λY=>?_;refine KK ?_
  refine Md (i+1) Y (m+1) (M++[FJ false s.1]) s.2 ⟨h,by rw[hm],b++[s.1],by rw[hM,AT];rfl,by rw[Ak,hb];rfl,λj hj=>?_⟩;rw[Ak]at hj;by_cases hjb:j<b.length
  ·rw[List.getElem_append_left hjb];exact hO j hjb
  ·have:j=b.length:=by simp at hj;omega
   subst this;rw[List.getElem_append_right (AP _)];simp only[DY,List.getElem_cons_zero];rw[hb];exact hsO
 ·have h:i=c:=by rw[Ao]at hd;omega
  subst h;refine JA ?_;subst hM;have hml:m=(b.map (FJ false)).length:=by rw[AH,hb,hm]
  exact⟨[.sl K 0 m],[Oi true b],_,[],.cons (.tmp rfl) rfl .nil,.cons (.cell (.sl (p:=0) .here hml)) .nil,by exact BH,b,⟨by omega,hO⟩,rfl,rfl⟩
theorem N9(l:List Int):(Fo l).kinds≠[]/\∀k∈(Fo l).kinds,k.fields≠[]:=by
 have hp:=Mi l;refine⟨λe=>?_,?_⟩
 ·have e':(Bu l).1=[]:=e
  rw[e']at hp;simp at hp
 ·show∀k∈(Bu l).1,k.fields≠[]
  rw[Hi];intro k hk
  have:∀i q,∀k∈(kAt i q).1,k.fields≠[]:=by
   intro i q
   induction i with
   |zero=>intro k hk;cases hk
   |succ i ih=>
    intro k hk;rcases AL.1 hk with hk|hk
    ·exact ih k hk
    ·rw[AW.1 hk]
     show(DB 0 (1+Bh (kAt i q).2 3).toNat (BW (kAt i q).2 3)).1≠[]
     have h3:=BX (kAt i q).2 (n:=3) (by decide);rw[KE];intro e;have:=EI List.length e;rw[Wy]at this;simp at this;omega
  exact this _ _ k hk
theorem olderT:TickG baseWd [olderS]:=⟨dT,by decide,λs hs=>(AW.1 hs).symm▸VT,by decide⟩
theorem SyssOK.gs{w:Wd}{b:List Sys}(hw:WdOK w)(hg:KsGood w.kinds)(h4:w.kinds.length<=4)(h:SyssOK w.kinds b):TickG w b:=
 ⟨hw,by omega,λs hs=>by
  obtain⟨i,hi,rfl⟩:=Br hs;have:=h.1;exact cH hw.ks hg (by omega) (h.2 i hi),by have:=h.1;omega⟩
theorem Qu(a b:List Kind)(f:FuncId)(cap:List AV)(p:Kind->Kind->Bool)(hs:DH cap=true)(hl:a.length<=4611686018427387904)(hf:∀x∈a,∀y∈b,PS prog f ((CF false) x::(CF false) y::cap) (bA (p x y))):
  PS prog 80 [.lst false 90 2 (a.map (CF false)),.lst false 90 2 (b.map (CF false)),.fn f cap] (bA (eqF p a b)):=by
 refine Sp (nt:=32) (res:=[.tmp 6]) func80 λSf=>?_
 refine KK ?_;refine AC rfl (λhb=>?_) (λhb=>?_)
 ·have hb:a.length≠b.length:=by simp at hb;omega
  refine JA ?_;refine Ag ?_;rw[OT hb]
 ·have hb:a.length=b.length:=by simp at hb;omega
  refine KK ?_;refine B8 (λi:Nat=>⟨[(0,.lst false 90 2 (a.map (CF false))),(1,.lst false 90 2 (b.map (CF false))),(2,.fn f cap),(15,.lst false 90 2 (a.map (CF false))),(16,iA (a.map (CF false)).length),(17,iA i)],Sf⟩) (λi=>i<=a.length/\∀j (h:j<a.length),j<i->p a[j] (b[j]'(by omega))=true) (λi=>a.length-i) 0 ⟨Ap _,λj h hj=>absurd hj (by omega)⟩ ?_;rintro i ⟨hi,he⟩;refine KK ?_;refine AC rfl (λhc=>?_) (λhc=>?_)
  ·have h:i<a.length:=by simpa using hc
   have h':i<b.length:=by omega
   refine KK ?_;refine Ai λX=>?_;refine KK ?_;refine Ai λX=>?_;refine KK ?_;refine KN (h:=(hf _ (Ax h) _ (Ax h'))) (k:=?_);refine KK ?_
   refine AC rfl (λhd=>?_) (λhd=>?_)
   ·have hd:p a[i] b[i]=false:=by simpa using hd
    refine JA ?_;refine Ag ?_;rw[Sv hb h hd]
   ·have hd:p a[i] b[i]=true:=by simpa using hd
    refine KK ?_;refine BM (i+1) ⟨h,λj h1 h2=>?_⟩;by_cases e:j=i
    ·subst e;exact hd
    ·exact he j h1 (by omega)
  ·have h:¬i<a.length:=by simpa using hc
   refine JA ?_;refine Ag ?_;rw[OS hb λj hj=>he j hj (by omega)]
theorem YN(a b:List Field)(hl:a.length<=1099511627776):PS prog 82 [IA false a,IA false b] (bA (decide (a=b))):=by
 refine Sp (nt:=26) (res:=[.tmp 4]) func82 λSf=>?_
 refine KK ?_;refine AC rfl (λhb=>?_) (λhb=>?_)
 ·have hb:a.length≠b.length:=by simp at hb;omega
  refine JA ?_;refine Ag ?_;rw[Az λe=>hb (by rw[e])]
 ·have hb:a.length=b.length:=by simp at hb;omega
  refine KK ?_;refine B8 (λi:Nat=>⟨[(0,IA false a),(1,IA false b),(12,iA (a.map fieldA).length),(13,iA i)],Sf⟩) (λi=>i<=a.length/\∀j (h:j<a.length),j<i->a[j]=b[j]'(by omega)) (λi=>a.length-i) 0 ⟨Ap _,λj h hj=>absurd hj (by omega)⟩ ?_;rintro i ⟨hi,he⟩;refine KK ?_;refine AC rfl (λhc=>?_) (λhc=>?_)
  ·have h:i<a.length:=by simpa using hc
   have h':i<b.length:=by omega
   obtain⟨f,hf⟩:=nm (a[i]);obtain⟨g,hg⟩:=nm (b[i]);have haf:(a.map fieldA)[i]?=some (fieldA f):=by rw[Ae,Af h,hf];rfl
   have hag:(b.map fieldA)[i]?=some (fieldA g):=by rw[Ae,Af h',hg];rfl
   refine KK ?_;refine RU ?_;(iterate 8 refine RK ?_);refine RGo.p (W.neP _ _ (by kernel_rfl) (UM f g) rfl rfl) rfl ?_;refine RGo.nil (by kernel_rfl) ?_;refine WK ?_;refine AC rfl (λhd=>?_) (λhd=>?_)
   ·have hd:f≠g:=by simpa using hd
    refine JA ?_;refine Ag ?_;rw[Az λe=>hd (by subst e;rw[<-hf,<-hg])]
   ·have hd:f=g:=by simpa using hd
    refine KK ?_;refine BM (i+1) ⟨h,λj h1 h2=>?_⟩;by_cases e:j=i
    ·subst e;rw[hf,hg,hd]
    ·exact he j h1 (by omega)
  ·have h:¬i<a.length:=by simpa using hc
   refine JA ?_;refine Ag ?_;rw[BG (Dj hb λj h1 h2=>he j h1 (by omega))]
theorem eW(x y:Kind):(decide (x.name=y.name)&&decide (x.fields=y.fields))=decide (x=y):=by
 obtain⟨k,v⟩:=x;obtain⟨k',v'⟩:=y;rw[Ej];simp
theorem et{P:Program}{t te:TypeId}(h1:P.underlying t=some (.struct (P.fieldsOf t)))(h2:P.stoodInHeld t=false)(h:ev3 P t te=true)(g1:P.underlying te=some (.struct (P.fieldsOf te)))(g2:P.stoodInHeld te=false)(g3:ZG P te=true)
  (hp:∀(a b c d:Int) (w:World),(part te #[.int .i64 a,.int .i64 b,.int .i64 c,.int .i64 d] 1).run P w= .ok (.agg #[.int .i64 b,.int .i64 c]) w) (a b c d a' b' c' d':Int) (w:World):
  (Op.equalIn 10000 t (.agg #[.int .i64 a,.int .i64 b,.int .i64 c,.int .i64 d]) (.agg #[.int .i64 a',.int .i64 b',.int .i64 c',.int .i64 d'])).run P w= .ok (decide (a=a')&&(decide (b=b')&&decide (c=c'))&&decide (d=d')) w:=by
 rw[show(10000:Nat)=9999+1 from rfl,SP w 9999 t _ _ h1 h2];unfold ev3 at h;split at h
 ·rename_i f1 f2 f3 hf
  simp only[AF,bne_iff_ne,ne_eq,Qw]at h;obtain⟨⟨⟨⟨⟨⟨⟨n1,n2⟩,n3⟩,o1⟩,o2⟩,o3⟩,o4⟩,hu⟩:=h;have o4:=DF o4;subst o4;split at hu
  ·rename_i k1 k3 u1 u3
   have p1:∀a b c d:Int,(part f1.type #[.int .i64 a,.int .i64 b,.int .i64 c,.int .i64 d] f1.offset).run P w= .ok (.int .i64 a) w:=λa b c d=>F4 u1 (by rw[o1];rfl) w
   have p2:∀a b c d:Int,(part f2.type #[.int .i64 a,.int .i64 b,.int .i64 c,.int .i64 d] f2.offset).run P w= .ok (.agg #[.int .i64 b,.int .i64 c]) w:=λa b c d=>by rw[o2];exact hp a b c d w
   have p3:∀a b c d:Int,(part f3.type #[.int .i64 a,.int .i64 b,.int .i64 c,.int .i64 d] f3.offset).run P w= .ok (.int .i64 d) w:=λa b c d=>F4 u3 (by rw[o3];rfl) w
   have q1:∀a c:Int,(Op.equalIn 9999 f1.type (.int .i64 a) (.int .i64 c)).run P w= .ok (a==c) w:=λa c=>GD (P:=P) w 9998 f1.type .i64 k1 a c u1
   have q2:∀a b c d:Int,(Op.equalIn 9999 f2.type (.agg #[.int .i64 a,.int .i64 b]) (.agg #[.int .i64 c,.int .i64 d])).run P w= .ok (decide (a=c)&&decide (b=d)) w:=λa b c d=>Wz 9997 g1 g2 g3 a b c d w
   have q3:∀a c:Int,(Op.equalIn 9999 f3.type (.int .i64 a) (.int .i64 c)).run P w= .ok (a==c) w:=λa c=>GD (P:=P) w 9998 f3.type .i64 k3 a c u3
   rw[hf];by_cases e1:a=a'
   ·by_cases e2:b=b'
    ·by_cases e4:c=c'
     ·by_cases e3:d=d'
      ·simp[Op.eqFields,n1,n2,n3,AJ,p1,p2,p3,q1,q2,q3,e1,e2,e3,e4,AK,Ef,AA]
      ·simp[Op.eqFields,n1,n2,n3,AJ,p1,p2,p3,q1,q2,q3,e1,e2,e3,e4,AK,Ef,AA]
     ·simp[Op.eqFields,n1,n2,AJ,p1,p2,q1,q2,e1,e2,e4,AK,Ef,AA]
    ·simp[Op.eqFields,n1,n2,AJ,p1,p2,q1,q2,e1,e2,AK,Ef,AA]
   ·simp[Op.eqFields,n1,AJ,p1,q1,e1,AK,Ef,AA]
  ·cases hu
 ·cases h
theorem dK(a b c d:Int)(w:World):(binOp .neq 136 (.agg [Value.int .i64 a,Value.int .i64 b,Value.int .i64 c,Value.int .i64 d].toArray) (.agg [Value.int .i64 a,Value.int .i64 b,Value.int .i64 c,Value.int .i64 d].toArray)).run prog w= .ok (.bool false) w:=by
 have h:=et (P:=prog) (t:=136) (te:=32) (by kernel_rfl) (by kernel_rfl) (by kernel_rfl) (by kernel_rfl) (by kernel_rfl) (by kernel_rfl) (λa b c d w=>by kernel_rfl) a b c d a b c d w;rw[run_neq_struct];have e:(Op.equalIn 10000 136 (.agg [Value.int .i64 a,Value.int .i64 b,Value.int .i64 c,Value.int .i64 d].toArray) (.agg [Value.int .i64 a,Value.int .i64 b,Value.int .i64 c,Value.int .i64 d].toArray)).run prog w=_:=h;rw[e,AA];simp
theorem Vt(l:List Evt)(hl:l.length<=1099511627776):PS prog 65 [.lst false 136 4 (l.map FT),.lst false 136 4 (l.map FT)] (bA true):=by
 refine Sp (nt:=26) (res:=[.tmp 4]) func65 λSf=>?_
 refine KK ?_;refine AB rfl (by simp) ?_;refine KK ?_;refine B8 (λi:Nat=>⟨[(0,.lst false 136 4 (l.map FT)),(1,.lst false 136 4 (l.map FT)),(12,iA (l.map FT).length),(13,iA i)],Sf⟩) (λi=>i<=l.length) (λi=>l.length-i) 0 (Ap _) ?_;rintro i hi;refine KK ?_;refine AC rfl (λhc=>?_) (λhc=>?_)
 ·have h:i<l.length:=by rw[Aj,AH]at hc;omega
  obtain⟨⟨es,⟨en,eg⟩,ev⟩,hx⟩:=nm (l[i]);have hat:(l.map FT)[i]?=some (FT ⟨es,⟨en,eg⟩,ev⟩):=by rw[Ae,Af h,hx];rfl
  refine KK ?_;refine RU ?_;(iterate 8 refine RK ?_);refine RGo.p (W.neP _ _ (by kernel_rfl) (dK es en eg ev) rfl rfl) rfl ?_;refine RGo.nil (by kernel_rfl) ?_;refine WK ?_;refine AB rfl rfl ?_;refine KK ?_;refine BM (i+1) h
 ·refine KK ?_
  refine RT ?_;refine Ag ?_;rfl
theorem Xk:PS prog 63 [] (wdA false baseWd):=by
 refine Sp (nt:=14) (res:=[.cell 0 26]) func63 λSf=>?_
 refine KK ?_;refine Ai λX=>?_;refine KK ?_
 refine RT ?_;refine KJ (rs:=[wdA false baseWd]) rfl (.cons (.cell (p:=0) rfl .here TAg.h TSize.h rfl rfl) rfl .nil)
theorem VG:PS prog 64 [] (FJ false olderS):=by
 refine Sp (nt:=13) (res:=[.cell 0 132]) func64 λSf=>?_
 refine JF ?_;refine Ai λR=>?_;refine NL ?_
 refine KK ?_;refine Ai λX=>?_;refine KK ?_
 refine IS 3 1 (Y:=R) (.cons (.agg (.s (.s (.cons (.base .nil) (.cons (.base .nil) .r))))) .nil) ?_;refine IS 42 2 (Y:=R) (.cons (.agg (.s (.s (.s (.s (.s (.s (.cons (.base .nil) .nil)))))))) .nil) ?_;refine RT ?_;exact KJ (rs:=[FJ false olderS]) rfl (.cons (.cell rfl (by exact As) TAg.h TSize.h rfl rfl) rfl .nil)
theorem VF(x y:Comp)(hl:x.vals.length<=1099511627776):PS prog 79 [AZ false x,AZ false y] (bA (decide (x=y))):=by
 have heq:=LG x.vals y.vals hl;rw[<-au];refine Sp (nt:=17) (res:=[.tmp 4]) func79 λSf=>?_
 refine RG ?_;refine BS ?_;refine BS ?_;refine JC ?_;rcases Ah (decide (x.kind=y.kind))with g|g
 ·rw[g]
  refine KK ?_;refine BP (h:=(heq ..)) (k:=?_);refine JA ?_;refine Ag ?_;rfl
 ·rw[g]
  refine JA ?_;refine Ag ?_;rfl
theorem VE(x y:Kind)(hl:x.fields.length<=1099511627776):PS prog 81 [CF false x,CF false y] (bA (decide (x=y))):=by
 have heq:=YN x.fields y.fields hl;rw[<-eW];refine Sp (nt:=17) (res:=[.tmp 4]) func81 λSf=>?_
 refine RG ?_;refine BS ?_;refine BS ?_;refine JC ?_;rcases Ah (decide (x.name=y.name))with g|g
 ·rw[g]
  refine KK ?_;refine BP (h:=(heq ..)) (k:=?_);refine JA ?_;refine Ag ?_;rfl
 ·rw[g]
  refine JA ?_;refine Ag ?_;rfl
theorem VD(x y:Item)(hl:CsL x.comps):PS prog 84 [AN false x,AN false y,.fp [.fn 79 []]] (bA (decide (x=y))):=by
 have h:=Lg x.comps y.comps 79 [] (λx y=>decide (x=y)) rfl (by have:=hl.1;omega) (λu hu v _=>VF u v (hl.2 u hu));rw[Pr λ_ _ _ _=>rfl]at h;rw[<-eY];refine Sp (nt:=19) (res:=[.tmp 5]) func84 λSf=>?_
 refine RG ?_;refine BS ?_;refine BS ?_;refine JC ?_;have hE:=Vw x.ent.n x.ent.gen y.ent.n y.ent.gen;rw[show(decide (x.ent.n=y.ent.n)&&decide (x.ent.gen=y.ent.gen))=RD x.ent y.ent from rfl]at hE;cases hb:RD x.ent y.ent
 ·rw[hb]at hE
  (iterate 6 refine WK ?_);refine AI (W.eqP _ _ (by kernel_rfl) hE rfl rfl) rfl ?_;refine KK ?_
  refine RT ?_;refine Ag ?_;rfl
 ·rw[hb]at hE
  (iterate 6 refine WK ?_);refine AI (W.eqP _ _ (by kernel_rfl) hE rfl rfl) rfl ?_;refine KK ?_;refine Fi (h:=(h ..)) (k:=?_);refine KK ?_
  refine RT ?_;refine Ag ?_;rfl
theorem Xj(a b:Wd)(hl:WdL a):PS prog 26 [wdA false a,wdA false b] (bA (decide (a=b))):=by
 have h1:=Qu a.kinds b.kinds 81 [] (λx y=>decide (x=y)) rfl (by have:=hl.ks.1;omega) (λx hx y _=>VE x y (hl.ks.2 x hx));rw[Pr λ_ _ _ _=>rfl]at h1;have h2:=LG a.gens b.gens hl.gens;have h3:=Qt a.items b.items 84 [.fp [.fn 79 []]] (λx y=>decide (x=y)) rfl (by have:=hl.items.1;omega) (λx hx y _=>VD x y (hl.items.2 x hx));rw[Pr λ_ _ _ _=>rfl]at h3;rw[<-gF];refine Sp (nt:=28) (res:=[.tmp 4]) func26 λSf=>?_
 refine RG ?_;refine BS ?_;refine BS ?_;refine JC ?_;obtain⟨b1,e1⟩:=nm (decide (a.kinds=b.kinds));obtain⟨b2,e2⟩:=nm (decide (a.gens=b.gens));rw[e1]at h1⊢;rw[e2]at h2⊢;refine JK ?_;refine Ai λC=>?_;refine JC ?_
 refine FL ?_;refine Gw [5] (by exact As) ?_ (λd hd=>by rw[AW.1 hd];rfl);cases b1
 ·refine KK ?_;refine Fi (h:=(h1 ..)) (k:=?_);refine KK ?_
  refine RT ?_;refine Ag ?_;rfl
 ·cases b2
  ·refine KK ?_;refine Fi (h:=(h1 ..)) (k:=?_);refine KK ?_;refine BP (h:=(h2 ..)) (k:=?_);refine KK ?_
   refine RT ?_;refine Ag ?_;rfl
  ·refine KK ?_;refine Fi (h:=(h1 ..)) (k:=?_);refine KK ?_;refine BP (h:=(h2 ..)) (k:=?_);refine KK ?_;refine Fi (h:=(h3 ..)) (k:=?_);refine KK ?_
   refine RT ?_;refine Ag ?_;rfl
theorem cK:(LV baseWd [olderS] 0 0).2=[⟨0,⟨0,0⟩,10⟩]:=by kernel_rfl
theorem eG:UF (LV baseWd [olderS] 0 0).1 ⟨0,0⟩ 0=([10],0):=by kernel_rfl
theorem VH:PS prog 19 [] (bA true):=by
 have hb:=Xk;have ho:=VG;have hr:=Of baseWd [olderS] 0 0 olderT;have hw:=(olderT.tick 0 0).1.ok.wl;have hg:=eG;rw[cK]at hr;obtain⟨v,hv⟩:=nm ((LV baseWd [olderS] 0 0).1);rw[hv]at hr hw hg;have hgt:=eh v ⟨0,0⟩ 0 hw;rw[hg]at hgt;have he:=Vt [⟨0,⟨0,0⟩,10⟩] (by decide);have hi:=LG [10] [10] (by decide);rw[BG rfl]at hi;refine Sp (nt:=36) (res:=[.tmp 0]) func19 λSf=>?_
 refine R1 ?_;refine JD ?_;refine TC (h:=(hb ..)) (k:=?_);refine TC (h:=(ho ..)) (k:=?_);refine WO ?_;refine d6 (h:=(hr ..)) (k:=?_);refine KO ?_;refine Ai λV=>?_;refine JE ?_
 refine JH ?_;refine BP (h:=(he ..)) (k:=?_);refine JE ?_;refine AB rfl rfl ?_;refine JH ?_;refine Fi (h:=(hgt ..)) (k:=?_);refine JE ?_;refine JH ?_;refine BP (h:=(hi ..)) (k:=?_);refine JE ?_;refine RT ?_;refine Ag ?_;rfl
structure Mark where
 n:Int
 kind:Int
 tick:Int
deriving DecidableEq,Inhabited
def Ci(l:List Item)(n:Int):Item:=(l.find? λit=>decide (it.ent.n=n)).getD ⟨⟨-1,0⟩,[]⟩
def DK(it:Item)(k:Int):List Comp:=match it.comps.find? λc=>decide (c.kind=k)with
 |some c=>[c]
 |none=>[]
def Kt(a b:Item)(k:Int):Bool:=decide ((DK a k).length≠(DK b k).length)||(decide ((DK a k).length=1)&&(decide (a.ent≠b.ent)||decide (DK a k≠DK b k)))
def LX(a b:Item)(n:Int)(i:Nat):List Mark:=((List.range i).filter λ(k:Nat)=>Kt a b k).map λ(k:Nat)=>⟨n,k,0⟩
def G9(a b:Item)(n:Int):List Mark:=(if a.ent≠b.ent then[(⟨n,-1,0⟩:Mark)]else[])++LX a b n 16
def FG(a b:List Item)(i:Nat):List Mark:=(List.range i).flatMap λ(n:Nat)=>G9 (Ci a n) (Ci b n) n
def EG(a b:Wd):Nat:=max a.gens.length b.gens.length
def H3(a b:Wd):List Mark:=FG a.items b.items (EG a b)
def Ht(x y:Item)(n:Int)(l:List Mark):Item:=⟨if l.any (λm=>decide (m.n=n)&&decide (m.kind= -1))then y.ent else x.ent,(List.range 16).flatMap λ(k:Nat)=>DK (if l.any (λm=>decide (m.n=n)&&decide (m.kind=(k:Nat)))then y else x) k⟩
def FK(a b:List Item)(l:List Mark)(i:Nat):List Item:=((List.range i).map λ(n:Nat)=>Ht (Ci a n) (Ci b n) n l).filter λit=>decide (0<=it.ent.n)
def H7(a b:Wd)(l:List Mark):Wd:=⟨a.kinds,b.gens,FK a.items b.items l (EG a b)⟩
theorem chg_mem{a b:List Item}{i:Nat}{m:Mark}:m∈FG a b i↔∃n:Nat,n<i/\m∈G9 (Ci a n) (Ci b n) n:=by
 unfold FG;rw[CA];constructor
 ·rintro⟨n,hn,hm⟩
  exact⟨n,CK.1 hn,hm⟩
 ·rintro⟨n,hn,hm⟩
  exact⟨n,CK.2 hn,hm⟩
theorem slotM_mem{a b:Item}{n:Int}{m:Mark}:m∈G9 a b n↔m.n=n/\m.tick=0/\((m.kind= -1/\a.ent≠b.ent)\/∃k:Nat,k<16/\m.kind=k/\Kt a b k=true):=by
 obtain⟨mn,mk,mt⟩:=m;unfold G9 LX;rw[Du,Ad];constructor
 ·rintro(h|⟨k,hk,h⟩)
  ·split at h
   ·rename_i hne
    rw[CX]at h;injection h with h1 h2 h3
    exact⟨h1,h3,.inl ⟨h2,hne⟩⟩
   ·cases h
  ·obtain⟨h1,h2⟩:=Cy.1 hk
   injection h with h3 h4 h5
   exact⟨h3.symm,h5.symm,.inr ⟨k,CK.1 h1,h4.symm,h2⟩⟩
 ·rintro⟨h1,h2,⟨h3,h4⟩|⟨k,h3,h4,h5⟩⟩
  ·dsimp only at h1 h2 h3
   subst h1 h2 h3;exact .inl (by rw[AY h4];simp)
  ·dsimp only at h1 h2 h4
   subst h1 h2 h4;exact .inr ⟨k,Cy.2 ⟨CK.2 h3,h5⟩,rfl⟩
theorem Yd{a b:List Item}{i n:Nat}(hn:n<i):(FG a b i).any (λm=>decide (m.n=(n:Nat))&&decide (m.kind= -1))=decide ((Ci a n).ent≠(Ci b n).ent):=by
 rw[Ej,Es,Aj];constructor
 ·rintro⟨m,hm,h⟩
  simp only[AF,Aj]at h;obtain⟨n2,_,hs⟩:=chg_mem.1 hm;obtain⟨h1,_,⟨_,h3⟩|⟨k,_,h4,_⟩⟩:=slotM_mem.1 hs
  ·have:n2=n:=by omega
   subst this;exact h3
  ·omega
 ·intro h
  exact⟨⟨(n:Nat),-1,0⟩,chg_mem.2 ⟨n,hn,slotM_mem.2 ⟨rfl,rfl,.inl ⟨rfl,h⟩⟩⟩,by simp⟩
theorem bC{a b:List Item}{i n k:Nat}(hn:n<i)(hk:k<16):(FG a b i).any (λm=>decide (m.n=(n:Nat))&&decide (m.kind=(k:Nat)))=Kt (Ci a n) (Ci b n) k:=by
 rw[Ej,Es];constructor
 ·rintro⟨m,hm,h⟩
  simp only[AF,Aj]at h;obtain⟨n2,_,hs⟩:=chg_mem.1 hm;obtain⟨h1,_,⟨h2,_⟩|⟨k2,_,h4,h5⟩⟩:=slotM_mem.1 hs
  ·omega
  ·have:n2=n:=by omega
   subst this;have:k2=k:=by omega
   subst this;exact h5
 ·intro h
  exact⟨⟨(n:Nat),k,0⟩,chg_mem.2 ⟨n,hn,slotM_mem.2 ⟨rfl,rfl,.inr ⟨k,hk,rfl,h⟩⟩⟩,by simp⟩
theorem Jt(it:Item)(k:Int):(DK it k).length<=1:=by unfold DK;split<;>simp
theorem V4{a b:Item}{k:Int}(h:Kt a b k=false):DK a k=DK b k:=by
 unfold Kt at h;rw[Dq,Fb,Ao,Ao,Dq,Ao,Ao]at h;obtain⟨h1,h2⟩:=h;rcases h2 with h2|⟨_,h2⟩
 ·have h3:=Jt a k
  have h4:DK a k=[]:=GJ.1 (by omega);have h5:DK b k=[]:=GJ.1 (by omega);rw[h4,h5]
 ·exact DU.1 h2
theorem Ml{α β:Type}{l:List α}{f g:α->List β}(h:∀x∈l,f x=g x):l.flatMap f=l.flatMap g:=by
 induction l with
 |nil=>rfl
 |cons x l ih=>rw[CP,CP,h x (by simp),ih λy hy=>h y (by simp[hy])]
theorem VS{a b:List Item}{i n:Nat}(hn:n<i):Ht (Ci a n) (Ci b n) n (FG a b i)=⟨(Ci b n).ent,(List.range 16).flatMap λ(k:Nat)=>DK (Ci b n) k⟩:=by
 unfold Ht;rw[Yd hn]
 congr 1
 ·by_cases h:(Ci a n).ent=(Ci b n).ent
  ·rw[AM (by simp[h]),h]
  ·rw[AY (by simp[h])]
 ·refine Ml λk hk=>?_
  rw[bC hn (CK.1 hk)];cases h:Kt (Ci a n) (Ci b n) k
  ·rw[AM (by simp)]
   exact V4 h
  ·rw[AY rfl]
theorem Rk{it:Item}(hs:Ee it.comps){k:Int}{c:Comp}:c∈DK it k↔c∈it.comps/\c.kind=k:=by
 have h:=GU hs (k:=k) (c:=c);unfold DW at h;rw[<-h];unfold DK;cases it.comps.find? λc=>decide (c.kind=k)with
 |none=>simp
 |some d=>simp[eq_comm]
theorem V2{it:Item}(hs:Ee it.comps)(h16:∀c∈it.comps,0<=c.kind/\c.kind<16):((List.range 16).flatMap λ(k:Nat)=>DK it k)=it.comps:=by
 have h:∀m:Nat,Ee ((List.range m).flatMap λ(k:Nat)=>DK it k)/\∀c,c∈((List.range m).flatMap λ(k:Nat)=>DK it k)↔c∈it.comps/\0<=c.kind/\c.kind<m:=by
  intro m
  induction m with
  |zero=>exact⟨.nil,λc=>⟨λh=>(by cases h),λh=>(by omega)⟩⟩
  |succ m ih=>
   obtain⟨h1,h2⟩:=ih;have e:((List.range (m+1)).flatMap λ(k:Nat)=>DK it k)=((List.range m).flatMap λ(k:Nat)=>DK it k)++DK it m:=by rw[G6,D5,JU]
   rw[e];refine⟨Bi.2 ⟨h1,?_,λx hx y hy=>?_⟩,λc=>?_⟩
   ·unfold DK;split<;>simp
   ·have:=((h2 x).1 hx).2.2
    have:=((Rk hs).1 hy).2;omega
   ·rw[Du,h2,Rk hs]
    constructor
    ·rintro(⟨a,b,c⟩|⟨a,b⟩)
     ·exact⟨a,b,by omega⟩
     ·exact⟨a,by omega,by omega⟩
    ·rintro⟨a,b,_⟩
     by_cases h:c.kind<m
     ·exact .inl ⟨a,b,h⟩
     ·exact .inr ⟨a,by omega⟩
 obtain⟨h1,h2⟩:=h 16;refine Q9 h1 hs λc=>?_
 rw[h2];exact⟨λh=>h.1,λh=>⟨h,h16 c h⟩⟩
theorem Hf(hs:Kz l)(n:Int):(Ci l n∈l/\(Ci l n).ent.n=n)\/(Ci l n=⟨⟨-1,0⟩,[]⟩/\∀it∈l,it.ent.n≠n):=by
 unfold Ci;cases h:l.find? λit=>decide (it.ent.n=n)with
 |some it=>exact .inl ⟨EY h,by simpa using LN h⟩
 |none=>
  rw[Eo]at h;exact .inr ⟨rfl,λit hit=>by simpa using h it hit⟩
theorem ZN(hs:Kz l){it:Item}(h:it∈l):Ci l it.ent.n=it:=by
 rcases Hf hs it.ent.n with⟨h1,h2⟩|⟨_,h2⟩
 ·exact Me (key:=λx:Item=>x.ent.n) hs h1 h h2
 ·exact absurd rfl (h2 it h)
theorem Vj(hs:Kz l)(h0:∀it∈l,0<=it.ent.n):∀m:Nat,Kz (((List.range m).map λ(n:Nat)=>Ci l n).filter λit=>decide (0<=it.ent.n))/\∀it,it∈(((List.range m).map λ(n:Nat)=>Ci l n).filter λit=>decide (0<=it.ent.n))↔it∈l/\it.ent.n<m:=by
 intro m
 induction m with
 |zero=>exact⟨.nil,λit=>⟨λh=>(by cases h),λ⟨h1,h2⟩=>(by have:=h0 it h1;omega)⟩⟩
 |succ m ih=>
  obtain⟨h1,h2⟩:=ih;rw[G6,AT,Dr]
  have e:(List.filter (λit:Item=>decide (0<=it.ent.n)) (List.map (λ(n:Nat)=>Ci l n) [m]))=if 0<=(Ci l m).ent.n then[Ci l m]else[]:=by
   rw[List.map_singleton];by_cases h:0<=(Ci l m).ent.n
   ·rw[AY h,FU,AY (BG h)];rfl
   ·rw[AM h,FU,AM (by simpa using h)];rfl
  rw[e];rcases Hf hs (m:Int)with⟨g1,g2⟩|⟨g1,g2⟩
  ·rw[AY (by omega)]
   refine⟨Bi.2 ⟨h1,Bx ..,λx hx y hy=>?_⟩,λit=>?_⟩
   ·have:=((h2 x).1 hx).2
    rw[AW.1 hy];show x.ent.n<(Ci l m).ent.n
    omega
   ·rw[Du,h2,CX]
    constructor
    ·rintro(⟨a,b⟩|rfl)
     ·exact⟨a,by omega⟩
     ·exact⟨g1,by omega⟩
    ·rintro⟨a,b⟩
     by_cases h:it.ent.n<m
     ·exact .inl ⟨a,h⟩
     ·exact .inr (Me (key:=λx:Item=>x.ent.n) hs a g1 (by omega))
  ·rw[AM (by rw[g1];decide),BD]
   refine⟨h1,λit=>?_⟩;rw[h2];exact⟨λ⟨a,b⟩=>⟨a,by omega⟩,λ⟨a,b⟩=>⟨a,by have:=g2 it a;omega⟩⟩
theorem Xp{a b:Wd}(hb:WdOK b)(hk:a.kinds=b.kinds):H7 a b (H3 a b)=b:=by
 have h16:=(DX hb.ks).1
 have hi:FK a.items b.items (H3 a b) (EG a b)=b.items:=by
  unfold FK H3
  have e:((List.range (EG a b)).map λ(n:Nat)=>Ht (Ci a.items n) (Ci b.items n) n (FG a.items b.items (EG a b)))=(List.range (EG a b)).map λ(n:Nat)=>Ci b.items n:=by
   refine D4 λn hn=>?_
   rw[VS (CK.1 hn)];rcases Hf hb.so (n:Int)with⟨g1,g2⟩|⟨g1,g2⟩
   ·obtain⟨hs,hm⟩:=held_iff.1 (hb.it _ g1).2.2.2.2
    rw[V2 hs λc hc=>by have:=hm c hc;omega]
   ·rw[g1];rfl
  rw[e];obtain⟨h1,h2⟩:=Vj hb.so (λit hit=>(hb.it it hit).1) (EG a b);refine Vd (key:=λx:Item=>x.ent.n) h1 hb.so λit=>?_
  rw[h2];refine⟨λh=>h.1,λh=>⟨h,?_⟩⟩;have:=(hb.it it h).2.1;unfold EG;omega
 unfold H7;rw[hi,hk]
def Ab(m:Mark):AV:=.agg [iA m.n,iA m.kind,iA m.tick]
abbrev HI(b:Bool)(l:List Mark):AV:=.lst b 150 3 (l.map Ab)
abbrev ce:AV:=.agg [.prim (.slice none 0 0),.prim (.slice none 0 0),.prim (.slice none 0 0)]
instance {m:Mark}:Frz (Ab m) (Ab m):=⟨rfl⟩
theorem Rj{it:Item}{k:Int}{c:Comp}(h:c∈DK it k):c∈it.comps:=by
 unfold DK at h;split at h
 ·rename_i d hd
  rw[CX]at h;subst h;exact EY hd
 ·cases h
theorem TS(hs:Kz l){n:Int}{b:Nat×Bool}(h:Found (λx:Item=>EN x.ent.n n) l b):(b.2=true->l[b.1]?=some (Ci l n))/\(b.2=false->Ci l n=⟨⟨-1,0⟩,[]⟩):=by
 have hm:Lm (λx:Item=>EN x.ent.n n) l:=by
  intro a b x y hab hx hy hy0;rw[LH]at hy0⊢;by_cases e:a=b
  ·subst e;rw[hx]at hy;cases hy;exact hy0
  ·obtain⟨ha,rfl⟩:=AE.1 hx
   obtain⟨hb,rfl⟩:=AE.1 hy;have:(l[a]).ent.n<(l[b]).ent.n:=Bt.1 hs a b ha hb (by omega);omega
 obtain⟨h1,h2⟩:=h.mono hm;refine⟨λhb=>?_,λhb=>?_⟩
 ·obtain⟨x,hx,h0⟩:=h.eq.1 hb
  have he:=cmpI_eq.1 h0;rw[hx,<-he,ZN hs (Bb hx)]
 ·rcases Hf hs n with⟨g1,g2⟩|⟨g1,_⟩
  ·exfalso
   obtain⟨j,hj,hje⟩:=Br g1;have hne:¬∃x,l[b.1]?=some x/\EN x.ent.n n=0:=λhx=>by rw[h.eq.2 hx]at hb;cases hb
   have hj2:=Af hj;rw[hje]at hj2
   have hjb:b.1<=j:=by
    rcases Gz j b.1 with hlt|hge
    ·have:=h1 j _ hlt hj2
     rw[LH]at this;omega
    ·exact hge
   by_cases e2:j=b.1
   ·subst e2
    exact hne ⟨_,hj2,cmpI_eq.2 g2⟩
   ·have hbl:b.1<l.length:=by omega
    have h3:=h2 b.1 _ (AP _) (Af hbl);rw[LH]at h3;have:(l[b.1]).ent.n<(l[j]).ent.n:=Bt.1 hs b.1 j hbl hj (by omega);rw[hje]at this;omega
  ·exact g1
theorem aI(x:Item)(n:Int):PS prog 146 [AN false x,iA n] (iA (EN x.ent.n n)):=by
 refine Sp (nt:=10) (res:=[.tmp 4]) func146 λSf=>?_
 refine WK ?_;refine WK ?_;refine BS ?_;refine KK ?_;refine BP (h:=(Fq x.ent.n n)) (k:=?_);refine JA ?_;refine Ag ?_;rfl
theorem Iu(w:Wd)(n:Int)(hs:Kz w.items)(hl:w.items.length<=4611686018427387904):PS prog 74 [wdA false w,iA n] (AN false (Ci w.items n)):=by
 have h:=Td w.items (iA n) 146 [] (λx=>EN x.ent.n n) n rfl rfl hl (λx _=>aI x n);refine Sp (nt:=23) (res:=[.cell 4 83]) func74 λSf=>?_
 refine RG ?_;refine BS ?_;refine WO ?_;refine Ai λP=>?_;refine NL ?_
 refine JH ?_;refine XN (h:=h) λb hb=>?_
 obtain⟨hy,hn⟩:=TS hs hb;obtain⟨i,q⟩:=b;dsimp only at hy hn;refine KO ?_;refine FL ?_;cases q with
 |false=>
  rw[hn rfl];refine R1 ?_;refine Aq rfl rfl ?_;refine R1 ?_;refine RT ?_;exact DA [.agg [iA (-1),iA 0,.prim (.slice none 0 0)]] [AN false ⟨⟨-1,0⟩,[]⟩] (.cons (.agg (.s (.s (.cons .nil .nil)))) .nil)
 |true=>
  have hat:(w.items.map (AN false))[i]?=some (AN false (Ci w.items n)):=by rw[Ae,hy rfl];rfl
  obtain⟨it,hit⟩:=nm (Ci w.items n);rw[hit]at hat⊢;refine R1 ?_;refine AB rfl rfl ?_;refine JD ?_;(iterate 3 refine WO ?_);refine BT ?_ (W.idxL rfl rfl rfl hat);refine JE ?_;refine RT ?_;exact DA [AN false it] [AN false it] (.cons (.cell .same) .nil)
theorem Ko(it:Item)(k:Int)(hl:it.comps.length<=1099511627776):PS prog 78 [AN false it,iA k] (B3 false false (DK it k)):=by
 have hcm:(it.comps.map (AZ false)).length=it.comps.length:=AH _;refine Sp (nt:=26) (res:=[.tmp 4]) func78 λSf=>?_
 refine RG ?_;refine BS ?_;refine JC ?_;refine JJ ?_;refine B8 (λ(i:Nat)=>⟨[(1,iA k),(2,.fp (AN false it).cells),(8,B3 false false it.comps),(9,iA (it.comps.map (AZ false)).length),(10,iA i)],Sf⟩) (λi=>i<=it.comps.length/\∀j (h:j<it.comps.length),j<i->decide (it.comps[j].kind=k)=false) (λi=>it.comps.length-i) 0 ⟨Ap _,λj h hj=>absurd hj (by omega)⟩ ?_;rintro i ⟨hi,he⟩;refine JN ?_;refine AC rfl (λhb=>?_) (λhb=>?_)
 ·have h:i<it.comps.length:=by rw[Aj,hcm]at hb;omega
  obtain⟨c,hcc⟩:=nm (it.comps[i]);have hat:(it.comps.map (AZ false))[i]?=some (AZ false c):=by rw[Ae,Af h,hcc];rfl
  refine JH ?_;refine Ai λC=>?_;refine JE ?_
  refine JB ?_;refine AC rfl (λhd=>?_) (λhd=>?_)
  ·have hf:DK it k=[c]:=by
    unfold DK;rw[GH.2 ⟨by rw[hcc]at*;exact hd,i,h,hcc,λj hj=>by simpa using he j (by omega) hj⟩]
   have hst:((it.comps.map (AZ false)).take (i+1)).drop i=(DK it k).map (AZ false):=by
    rw[hf,<-EK,<-List.map_drop,A6 h,List.drop_append_of_le_length (by rw[BZ];omega),Cm (by rw[BZ];omega),hcc];rfl
   refine JD ?_;(iterate 4 refine WO ?_);refine BT ?_ (Bw ((i:Int)+1) (by omega) (by omega) rfl rfl);refine BT ?_ (fA i (i+1) rfl rfl rfl rfl (by omega) (by omega) (by omega));refine JC ?_;rw[hst];refine RT ?_;refine Ag ?_;rfl
  ·refine FL ?_
   refine R1 ?_;refine BM (i+1) ⟨h,λj h1 h2=>?_⟩ (by omega);by_cases e:j=i
   ·subst e;rw[hcc];exact hd
   ·exact he j h1 (by omega)
 ·have h:i=it.comps.length:=by rw[Ao,hcm]at hb;omega
  subst h
  have hf:DK it k=[]:=by
   unfold DK
   rw[Eo.2 λc hc=>by
    obtain⟨j,hj,rfl⟩:=Br hc;simpa using he j hj hj]
  rw[hf];refine JL ?_;exact DA [.prim (.slice none 0 0)] [B3 false false []] (.cons (.cell .nil) .nil)
def EQ(a b:Item)(n:Int)(i:Nat):List Mark:=(if a.ent≠b.ent then[(⟨n,-1,0⟩:Mark)]else[])++LX a b n i
theorem Oq(a b:Item)(n:Int)(i:Nat):(EQ a b n i).length<=i+1:=by
 unfold EQ LX;rw[Ak,AH];have:=G7 (λ(k:Nat)=>Kt a b k) (List.range i);rw[XA]at this;split<;>simp<;>omega
theorem TQ(a b:Item)(n:Int)(i:Nat):EQ a b n (i+1)=if Kt a b i then EQ a b n i++[⟨n,i,0⟩]else EQ a b n i:=by
 unfold EQ LX;rw[G6,Dr,AT,<-Bg];by_cases h:Kt a b i=true
 ·rw[AY h,FU,AY h];rfl
 ·rw[AM h,FU,AM h];simp
theorem Tw(a b:Item)(n:Int)(ha:CsL a.comps)(hb:CsL b.comps):PS prog 144 [AN false a,AN false b,iA n] (HI true (G9 a b n)):=by
 refine Sp (nt:=61) (res:=[.tmp 6]) func144 λSf=>?_
 refine RG ?_;refine BS ?_;refine BS ?_;refine JC ?_;refine JJ ?_;refine AWP.adopt (d:=7) 150 3 rfl λO=>?_
 refine RG ?_;(iterate 4 refine WO ?_);refine BT ?_ (W.neP _ _ (by kernel_rfl) (Vv a.ent.n a.ent.gen b.ent.n b.ent.gen) rfl rfl);refine NL ?_;rw[Vu];refine Bz (λO:Nat=>True) (λO=>⟨[(2,iA n),(3,.fp (AN false a).cells),(4,.fp (AN false b).cells),(7,.sl O 0 (EQ a b n 0).length)],(O,.row 150 3 ((EQ a b n 0).map Ab))::Sf⟩) ?_ ?_
 ·refine AC rfl (λhc=>?_) (λhc=>?_)
  ·have hc:=AD hc
   have h0:EQ a b n 0=[⟨n,-1,0⟩]:=by unfold EQ LX;rw[AY hc];rfl
   rw[h0];refine FL ?_;have hb1:([]:List AV).length+1<=1099511627776:=by decide
   refine RG ?_;(iterate 3 refine WO ?_);refine Eg (Ab ⟨n,-1,0⟩) ?_;refine WO ?_;refine Ay λY=>?_;refine JC ?_
   exact jn Y CZ
  ·have hc:=AG hc
   have h0:EQ a b n 0=[]:=by unfold EQ LX;rw[AM hc];rfl
   rw[h0];refine FL ?_;exact jn O CZ
 rintro O _;refine JJ ?_;refine Ca (λ(i O:Nat)=>⟨[(2,iA n),(3,.fp (AN false a).cells),(4,.fp (AN false b).cells),(7,.sl O 0 (EQ a b n i).length),(21,iA i)],(O,.row 150 3 ((EQ a b n i).map Ab))::Sf⟩) (λi _=>i<=16) (λi _=>16-i) 0 O (Ap _) ?_;rintro i O hi;refine JN ?_;refine AC rfl (λhc=>?_) (λhc=>?_)
 ·have h:i<16:=by rw[Aj]at hc;omega
  have hca:=Ko a i ha.1;have hcb:=Ko b i hb.1;have hnx:=TQ a b n i;have hln:=Oq a b n i;have hsc:=SM (DK a i) (DK b i) ⟨by have:=Jt a i;omega,λc hc=>ha.2 c (Rj hc)⟩
  have hd:Kt a b i=(decide ((DK a i).length≠(DK b i).length)||(decide ((DK a i).length=1)&&(decide (a.ent≠b.ent)|| !decide (DK a i=DK b i)))):=by
   unfold Kt;rw[decide_not (p:=DK a i=DK b i)]
  rw[hd]at hnx;obtain⟨x,hx⟩:=nm (DK a i);obtain⟨y,hy⟩:=nm (DK b i);rw[hx]at hca hsc hnx;rw[hy]at hcb hsc hnx;refine JJ ?_;refine JM ?_;refine FO (h:=(hca ..)) (k:=?_);refine KR ?_;refine FO (h:=(hcb ..)) (k:=?_);refine JG ?_;refine RGo.nil (by kernel_rfl) ?_;have hxm:(x.map (AZ false)).length=x.length:=AH _;have hym:(y.map (AZ false)).length=y.length:=AH _;have hcl:((EQ a b n i).map Ab).length=(EQ a b n i).length:=AH _;refine Ck ?_;refine C7 ?_;refine Bz (λq:Bool=>q=(decide (x.length≠y.length)||decide (x.length=1)&&(decide (a.ent≠b.ent)|| !decide (x=y)))) (λq=>⟨[(2,iA n),(3,.fp (AN false a).cells),(4,.fp (AN false b).cells),(7,.sl O 0 (EQ a b n i).length),(8,iA i),(21,iA i),(52,bA q)],(O,.row 150 3 ((EQ a b n i).map Ab))::Sf⟩) ?_ ?_
  ·cases g1:decide (((x.map (AZ false)).length:Int)≠((y.map (AZ false)).length:Nat))with
   |true=>
    refine RG ?_;(repeat first|(refine CS ?_;first|refine Bp ?_|refine Bo ?_)|refine WO ?_|refine Ai λX=>?_|refine Ay λY=>?_);refine NL ?_;have e1:x.length≠y.length:=by have:=AD g1;omega
    exact jn true (by rw[BG e1];rfl)
   |false=>
    have e1:¬x.length≠y.length:=by have:=AG g1;omega
    cases g2:decide (((x.map (AZ false)).length:Int)=1)with
    |false=>
     refine RG ?_;(repeat first|(refine CS ?_;first|refine Bp ?_|refine Bo ?_)|refine WO ?_|refine Ai λX=>?_|refine Ay λY=>?_);refine NL ?_;have e2:¬x.length=1:=by have:=AG g2;omega
     exact jn false (by rw[Az e1,Az e2];rfl)
    |true=>
     have e2:x.length=1:=by have:=AD g2;omega
     cases g3:(!(decide (a.ent.n=b.ent.n)&&decide (a.ent.gen=b.ent.gen)))with
     |true=>
      refine RG ?_;(repeat first|(refine Bk ?_;first|refine BT ?_ (W.neP _ _ (by kernel_rfl) (Vv a.ent.n a.ent.gen b.ent.n b.ent.gen) rfl rfl))|(refine CS ?_;first|refine Bp ?_|refine Bo ?_)|refine WO ?_|refine Ai λX=>?_|refine Ay λY=>?_);refine NL ?_;rw[Vu]at g3;exact jn true (by rw[Az e1,BG e2,g3];rfl)
     |false=>
      obtain⟨q,hq⟩:=nm (decide (x=y));rw[hq]at hsc⊢;refine RG ?_;(iterate 23 refine WO ?_);refine BT ?_ (W.neP _ _ (by kernel_rfl) (Vv a.ent.n a.ent.gen b.ent.n b.ent.gen) rfl rfl);refine KO ?_;refine BP (h:=(hsc ..)) (k:=?_);refine JE ?_;rw[Vu]at g3;exact jn (!q) (by rw[Az e1,BG e2,g3];cases q<;>rfl)
  rintro q hq;rw[<-hq]at hnx;cases q with
  |true=>
   rw[AY rfl]at hnx;refine Aq rfl rfl ?_;refine FL ?_;have hb1:((EQ a b n i).map Ab).length+1<=1099511627776:=by omega
   have hm1:(EQ a b n i).map Ab++[Ab ⟨n,i,0⟩]=(EQ a b n (i+1)).map Ab:=by rw[hnx,AT];rfl
   have hm2:(EQ a b n i).length+[Ab ⟨n,i,0⟩].length=(EQ a b n (i+1)).length:=by rw[hnx,Ak];rfl
   refine RG ?_;(iterate 4 refine WO ?_);refine Eg (Ab ⟨n,i,0⟩) ?_;refine WO ?_;refine Ay λY=>?_;refine JC ?_
   dsimp only[BE,List.set_cons_zero,List.set_cons_succ,CI,CD];rw[hm1,hm2];refine JB ?_;exact Bn (i+1) Y h (by omega)
  |false=>
   rw[AM (by simp)]at hnx;refine AB rfl rfl ?_;rw[<-hnx];refine JB ?_;exact Bn (i+1) O h (by omega)
 ·have h:i=16:=by rw[Ao]at hc;omega
  subst h;have h0:EQ a b n 16=G9 a b n:=rfl;rw[h0];refine JL ?_;exact DA [.sl O 0 (G9 a b n).length] [HI true (G9 a b n)] (.cons (.cell (.sl (p:=0) .here (by rw[AH]))) .nil)
theorem RA(a b:Item)(n:Int):(G9 a b n).length<=17:=Oq a b n 16
theorem P2(a b:List Item)(i:Nat):FG a b (i+1)=FG a b i++G9 (Ci a i) (Ci b i) i:=by
 unfold FG;rw[G6,D5,JU]
theorem LI(a b:List Item):∀i:Nat,(FG a b i).length<=i*17
 |0=>AP _
 |i+1=>by
  have h1:=LI a b i;have h2:=RA (Ci a i) (Ci b i) i;rw[P2,Ak];omega
theorem LB(hs:Kz l)(h:ItL l)(n:Int):CsL (Ci l n).comps:=by
 rcases Hf hs n with⟨g1,_⟩|⟨g1,_⟩
 ·exact h.2 _ g1
 ·rw[g1];exact⟨Ap _,λc hc=>by cases hc⟩
theorem Wo(m n:Nat):(if(m:Int)<n then(n:Int)else m)=((max m n:Nat):Int):=by
 split<;>omega
theorem P4(a b:Wd)(ha:WdOK a)(hb:WdOK b)(hk:a.kinds=b.kinds):PS prog 70 [wdA false a,wdA false b] (.tup [HI true (H3 a b),iA 0]):=by
 have hLa:=ha.wl;have hLb:=hb.wl;have hca:=F9 a hLa.gens hLa.items.1 (λit hit=>(hLa.items.2 it hit).1);have hcb:=F9 b hLb.gens hLb.items.1 (λit hit=>(hLb.items.2 it hit).1);rw[(Cg a).2 ha]at hca;rw[(Cg b).2 hb]at hcb;have hks:=T6 a.kinds b.kinds hLa.ks;rw[BG hk]at hks;have hma:(a.gens.map iA).length=a.gens.length:=AH _;have hmb:(b.gens.map iA).length=b.gens.length:=AH _;have hga:=ha.gl;have hgb:=hb.gl;have hmx:(if((a.gens.map iA).length:Int)<((b.gens.map iA).length:Nat)then(((b.gens.map iA).length:Nat):Int)else((a.gens.map iA).length:Nat))=(EG a b:Nat):=by rw[hma,hmb];exact Wo _ _
 have hN:EG a b<=1048576:=by unfold EG;omega
 unfold H3;obtain⟨N,hNe⟩:=nm (EG a b);rw[hNe]at hmx hN⊢;refine Sp (nt:=53) (res:=[.tmp 4,.tmp 5]) func70 λSf=>?_
 refine RG ?_;refine BS ?_;refine BS ?_;refine JE ?_;refine JJ ?_;refine B8 (λ(i:Nat)=>⟨[(2,.fp (wdA false a).cells),(3,.fp (wdA false b).cells),(13,.lst false 26 3 [wdA false a,wdA false b]),(14,iA 2),(15,iA i)],Sf⟩) (λi=>i<=2) (λi=>2-i) 0 (Ap _) ?_;rintro i hi;refine JN ?_;refine AC rfl (λhc=>?_) (λhc=>?_)
 ·have h:i<2:=by rw[Aj]at hc;omega
  have hat:∃v:Wd,[wdA false a,wdA false b][i]?=some (wdA false v)/\PS prog 43 [wdA false v] (iA 0):=by
   match i,h with
   |0,_=>exact⟨a,rfl,hca⟩
   |1,_=>exact⟨b,rfl,hcb⟩
  obtain⟨v,hat,hcv⟩:=hat;refine JD ?_;refine BT ?_ (W.idxL rfl rfl rfl hat);refine KO ?_;refine Ai λV=>?_;refine JC ?_
  refine JK ?_;refine BU (h:=(hcv ..)) (k:=?_);refine JC ?_;refine JB ?_;refine AB rfl rfl ?_;refine JB ?_;exact BM (i+1) h (by omega)
 ·refine FL ?_
  refine JI ?_;refine BP (h:=(hks ..)) (k:=?_);refine JC ?_;refine AB rfl rfl ?_;refine JB ?_;refine JB ?_;rw[hmx];refine FL ?_;refine AWP.adopt (d:=9) 150 3 rfl λO=>?_
  refine Ca (λ(i O:Nat)=>⟨[(2,.fp (wdA false a).cells),(3,.fp (wdA false b).cells),(9,.sl O 0 (FG a.items b.items i).length),(37,iA N),(38,iA i)],(O,.row 150 3 ((FG a.items b.items i).map Ab))::Sf⟩) (λi _=>i<=N) (λi _=>N-i) 0 O (Ap _) ?_;rintro i O hi;refine JN ?_;refine AC rfl (λhc=>?_) (λhc=>?_)
  ·have h:i<N:=by rw[Aj]at hc;omega
   have hia:=Iu a i ha.so (by have:=hLa.items.1;omega);have hib:=Iu b i hb.so (by have:=hLb.items.1;omega);have hsl:=Tw (Ci a.items i) (Ci b.items i) i (LB ha.so hLa.items i) (LB hb.so hLb.items i);have hnx:=P2 a.items b.items i;have hl1:=LI a.items b.items i;have hl2:=RA (Ci a.items i) (Ci b.items i) i;obtain⟨x,hx⟩:=nm (Ci a.items i);obtain⟨y,hy⟩:=nm (Ci b.items i);rw[hx]at hia hsl hnx hl2;rw[hy]at hib hsl hnx hl2;have hcl:((FG a.items b.items i).map Ab).length=(FG a.items b.items i).length:=AH _;have hsml:((G9 x y i).map Ab).length=(G9 x y i).length:=AH _;refine JJ ?_;refine CN λY=>?_
   refine JM ?_;refine FO (h:=(hia ..)) (k:=?_);refine KR ?_;refine FO (h:=(hib ..)) (k:=?_);refine RK ?_;refine fH (h:=(hsl ..)) (k:=?_);refine JG ?_;refine RGo.nil (by kernel_rfl) ?_;have hm1:(FG a.items b.items i).map Ab++(G9 x y i).map Ab=(FG a.items b.items (i+1)).map Ab:=by rw[hnx,AT]
   have hm2:(FG a.items b.items i).length+((G9 x y i).map Ab).length=(FG a.items b.items (i+1)).length:=by rw[hnx,Ak,hsml]
   rw[hm1,hm2];(repeat refine WF ?_);refine R1 ?_;exact Bn (i+1) Y h (by omega)
  ·have h:i=N:=by rw[Ao]at hc;omega
   subst h;refine JL ?_;exact DA [.sl O 0 (FG a.items b.items i).length,iA 0] [HI true (FG a.items b.items i),iA 0] (.cons (.cell (.sl (p:=0) .here (by rw[AH]))) (.cons (.cell .same) .nil))
def ltM(a b:Mark):Prop:=a.n<b.n\/(a.n=b.n/\a.kind<b.kind)
abbrev GN(l:List Mark):Prop:=l.Pairwise ltM
def E3(m:Mark):Int×Int:=(m.n,m.kind)
theorem Sa(a:Mark):¬ltM a a:=λh=>by unfold ltM at h;omega
theorem L4{a b:Mark}(h:ltM a b):E3 a≠E3 b:=λe=>by
 unfold E3 at e;unfold ltM at h;injection e with e1 e2
 omega
theorem PD{a b c:Mark}(h:ltM a b)(k:ltM b c):ltM a c:=by unfold ltM at*;omega
theorem OP(a b:Mark):ltM a b\/E3 a=E3 b\/ltM b a:=by
 unfold ltM E3;by_cases h1:a.n<b.n
 ·exact .inl (.inl h1)
 by_cases h2:b.n<a.n
 ·exact .inr (.inr (.inl h2))
 by_cases h3:a.kind<b.kind
 ·exact .inl (.inr ⟨by omega,h3⟩)
 by_cases h4:b.kind<a.kind
 ·exact .inr (.inr (.inr ⟨by omega,h4⟩))
 ·exact .inr (.inl (Prod.ext (by dsimp only;omega) (by dsimp only;omega)))
theorem Kh{l:List Mark}(h:GN l):l.Nodup:=List.Pairwise.imp (λ{a b} (h:ltM a b) (e:a=b)=>Sa b (e▸h)) h
theorem Lp{l:List Mark}(h:GN l){a b:Mark}(ha:a∈l)(hb:b∈l)(e:E3 a=E3 b):a=b:=by
 induction l with
 |nil=>cases ha
 |cons x l ih=>
  obtain⟨h1,h2⟩:=Al.1 h;rcases AQ.1 ha with rfl|ha<;>rcases AQ.1 hb with rfl|hb
  ·rfl
  ·exact absurd e (L4 (h1 b ‹b∈l›))
  ·exact absurd e.symm (L4 (h1 a ‹a∈l›))
  ·exact ih h2 ‹a∈l› ‹b∈l›
theorem Q8{a b:List Mark}(ha:GN a)(hb:GN b)(h:∀m,m∈a↔m∈b):a=b:=by
 refine ND (le:=ltM) (λx y _ _ h1 h2=>absurd (PD h1 h2) (Sa x)) ha hb ?_;exact(List.perm_ext_iff_of_nodup (Kh ha) (Kh hb)).2 h
def gM(l:List Mark):Int×Int->Option Value:=λx=>(l.find? λm=>decide (E3 m=x)).map λm=>.int .i64 m.tick
theorem Sr{l:List Mark}(h:GN l){x:Int×Int}{v:Value}:gM l x=some v↔∃m∈l,E3 m=x/\v= .int .i64 m.tick:=by
 unfold gM;rw[DZ];constructor
 ·rintro⟨m,hm,rfl⟩
  exact⟨m,EY hm,by simpa using LN hm,rfl⟩
 ·rintro⟨m,hm,hk,rfl⟩
  cases hf:l.find? λm=>decide (E3 m=x)with
  |none=>
   rw[Eo]at hf;exact absurd hk (by simpa using hf m hm)
  |some m2=>
   have h2:E3 m2=x:=by simpa using LN hf
   exact⟨m2,rfl,by rw[Lp h (EY hf) hm (h2.trans hk.symm)]⟩
theorem gM_some{l:List Mark}{x:Int×Int}:(gM l x).isSome=true↔∃m∈l,E3 m=x:=by
 unfold gM;rw[Option.isSome_map,List.find?_isSome];simp
theorem eo{l:List Mark}{g:Int×Int->Option Value}(h:GN l)(k:∀x v,g x=some v↔∃m∈l,E3 m=x/\v= .int .i64 m.tick):g=gM l:=funext λx=>Option.ext λv=>(k x v).trans (Sr h).symm
def L8:List Mark->Mark->List Mark
 |[],m=>[m]
 |x::l,m=>if x.n<m.n\/(x.n=m.n/\x.kind<m.kind)then x::L8 l m else if E3 x=E3 m then m::l else m::x::l
theorem Jm{m y:Mark}:∀{l:List Mark},GN l->(y∈L8 l m↔y=m\/(y∈l/\E3 y≠E3 m))
 |[],_=>by simp[L8]
 |x::l,h=>by
  obtain⟨h1,h2⟩:=Al.1 h;have ih:=Jm (m:=m) (y:=y) h2;rw[L8];split
  ·rename_i c
   have c:ltM x m:=c;rw[Cl,ih,Cl];constructor
   ·rintro(rfl|rfl|⟨a,b⟩)
    ·exact .inr ⟨.inl rfl,L4 c⟩
    ·exact .inl rfl
    ·exact .inr ⟨.inr a,b⟩
   ·rintro(rfl|⟨rfl|a,b⟩)
    ·exact .inr (.inl rfl)
    ·exact .inl rfl
    ·exact .inr (.inr ⟨a,b⟩)
  ·rename_i c
   split
   ·rename_i e
    rw[Cl,Cl];constructor
    ·rintro(rfl|a)
     ·exact .inl rfl
     ·exact .inr ⟨.inr a,λe2=>L4 (h1 y a) (e.trans e2.symm)⟩
    ·rintro(rfl|⟨rfl|a,b⟩)
     ·exact .inl rfl
     ·exact absurd e b
     ·exact .inr a
   ·rename_i e
    have hmx:ltM m x:=by
     rcases OP x m with h|h|h
     ·exact absurd h c
     ·exact absurd h e
     ·exact h
    rw[Cl,Cl];constructor
    ·rintro(rfl|rfl|a)
     ·exact .inl rfl
     ·exact .inr ⟨.inl rfl,e⟩
     ·exact .inr ⟨.inr a,λe2=>L4 (PD hmx (h1 y a)) e2.symm⟩
    ·rintro(rfl|⟨a,b⟩)
     ·exact .inl rfl
     ·exact .inr a
theorem NN{m:Mark}:∀{l:List Mark},GN l->GN (L8 l m)
 |[],_=>Bx ..
 |x::l,h=>by
  obtain⟨h1,h2⟩:=Al.1 h;rw[L8];split
  ·rename_i c
   refine Al.2 ⟨λy hy=>?_,NN h2⟩;rcases(Jm h2).1 hy with rfl|⟨a,_⟩
   ·exact c
   ·exact h1 y a
  ·rename_i c
   split
   ·rename_i e
    refine Al.2 ⟨λy hy=>?_,h2⟩;have:=h1 y hy;unfold E3 at e;unfold ltM at*;injection e with e1 e2
    omega
   ·rename_i e
    have hmx:ltM m x:=by
     rcases OP x m with h|h|h
     ·exact absurd h c
     ·exact absurd h e
     ·exact h
    exact Al.2 ⟨λy hy=>by
     rcases AQ.1 hy with rfl|hy
     ·exact hmx
     ·exact PD hmx (h1 y hy),h⟩
theorem PQ{m:Mark}:∀{l:List Mark},GN l->(L8 l m).length=if(gM l (E3 m)).isSome then l.length else l.length+1
 |[],_=>rfl
 |x::l,h=>by
  obtain⟨h1,h2⟩:=Al.1 h;have ih:=PQ (m:=m) h2;rw[L8];split
  ·rename_i c
   have c:ltM x m:=c;rw[DM,ih]
   have e:(gM (x::l) (E3 m)).isSome=(gM l (E3 m)).isSome:=by
    rw[Ej,gM_some,gM_some];constructor
    ·rintro⟨y,hy,e⟩
     rcases AQ.1 hy with rfl|hy
     ·exact absurd e (L4 c)
     ·exact⟨y,hy,e⟩
    ·rintro⟨y,hy,e⟩
     exact⟨y,Cd _ hy,e⟩
   rw[e];split<;>rfl
  ·rename_i c
   split
   ·rename_i e
    rw[AY (gM_some.2 ⟨x,Au ..,e⟩)];rfl
   ·rename_i e
    have hmx:ltM m x:=by
     rcases OP x m with h|h|h
     ·exact absurd h c
     ·exact absurd h e
     ·exact h
    rw[AM]
    ·rfl
    ·rw[gM_some]
     rintro⟨y,hy,e2⟩;rcases AQ.1 hy with rfl|hy
     ·exact e e2
     ·exact L4 (PD hmx (h1 y hy)) e2.symm
theorem eZ{l:List Mark}(h:GN l)(m:Mark):gM (L8 l m)=Qc (gM l) (E3 m) (.int .i64 m.tick):=by
 refine(eo (NN h) λx v=>?_).symm;unfold Qc;constructor
 ·intro hv
  split at hv
  ·rename_i e
   exact⟨m,(Jm h).2 (.inl rfl),e.symm,(DO hv).symm⟩
  ·rename_i e
   obtain⟨y,hy,rfl,rfl⟩:=(Sr h).1 hv;exact⟨y,(Jm h).2 (.inr ⟨hy,e⟩),rfl,rfl⟩
 ·rintro⟨y,hy,rfl,rfl⟩
  rcases(Jm h).1 hy with rfl|⟨a,b⟩
  ·rw[AY rfl]
  ·rw[AM b]
   exact(Sr h).2 ⟨y,a,rfl,rfl⟩
def GZ(t:Int)(l ms:List Mark):List Mark:=ms.foldl (λl m=>L8 l ⟨m.n,m.kind,t⟩) l
theorem Xt(t:Int)(l ms:List Mark)(m:Mark):GZ t l (ms++[m])=L8 (GZ t l ms) ⟨m.n,m.kind,t⟩:=by unfold GZ;rw[XB];rfl
theorem O7(t:Int):∀(ms l:List Mark),GN l->GN (GZ t l ms)/\(GZ t l ms).length<=l.length+ms.length/\∀y,y∈GZ t l ms↔(∃m∈ms,y=⟨m.n,m.kind,t⟩)\/(y∈l/\∀m∈ms,E3 y≠E3 m)
 |[],l,h=>⟨h,AP _,λy=>by simp[GZ]⟩
 |m::ms,l,h=>by
  obtain⟨h1,h2,h3⟩:=O7 t ms (L8 l ⟨m.n,m.kind,t⟩) (NN h);have hl:=PQ (m:=⟨m.n,m.kind,t⟩) h;refine⟨h1,?_,λy=>?_⟩
  ·have:GZ t l (m::ms)=GZ t (L8 l ⟨m.n,m.kind,t⟩) ms:=rfl
   rw[this,DM];split at hl<;>omega
  ·have:GZ t l (m::ms)=GZ t (L8 l ⟨m.n,m.kind,t⟩) ms:=rfl
   rw[this,h3,Jm h];have hk:E3 ⟨m.n,m.kind,t⟩=E3 m:=rfl;rw[hk];constructor
   ·rintro(⟨x,hx,rfl⟩|⟨rfl|⟨a,b⟩,c⟩)
    ·exact .inl ⟨x,Cd _ hx,rfl⟩
    ·exact .inl ⟨m,Au ..,rfl⟩
    ·exact .inr ⟨a,λx hx=>by
      rcases AQ.1 hx with rfl|hx
      ·exact b
      ·exact c x hx⟩
   ·rintro(⟨x,hx,rfl⟩|⟨a,b⟩)
    ·rcases AQ.1 hx with rfl|hx
     ·by_cases c:∃z∈ms,E3 z=E3 x
      ·obtain⟨z,hz,e⟩:=c
       unfold E3 at e;injection e with e1 e2
       exact .inl ⟨z,hz,by rw[e1,e2]⟩
      ·exact .inr ⟨.inl rfl,λz hz e=>c ⟨z,hz,e.symm⟩⟩
     ·exact .inl ⟨x,hx,rfl⟩
    ·exact .inr ⟨.inr ⟨a,b m (Au ..)⟩,λx hx=>b x (Cd _ hx)⟩
theorem Vf(a b:Item)(n:Int)(i:Nat):GN (LX a b n i)/\∀m∈LX a b n i,m.n=n/\0<=m.kind/\m.kind<i/\m.tick=0:=by
 unfold LX;refine⟨?_,λm hm=>?_⟩
 ·refine List.Pairwise.map _ (λ(x y:Nat) (h:x<y)=>(.inr ⟨rfl,by show(x:Int)<y;omega⟩:ltM ⟨n,x,0⟩ ⟨n,y,0⟩)) ?_
  exact(List.Pairwise.filter _ List.pairwise_lt_range).imp λh=>h
 ·obtain⟨k,hk,rfl⟩:=Ad.1 hm
  have:=CK.1 (Cy.1 hk).1;exact⟨rfl,by dsimp only;omega,by dsimp only;omega,rfl⟩
theorem U8(a b:Item)(n:Int):GN (G9 a b n)/\∀m∈G9 a b n,m.n=n/\ -1<=m.kind/\m.kind<16/\m.tick=0:=by
 obtain⟨h1,h2⟩:=Vf a b n 16;unfold G9;split
 ·refine⟨Bi.2 ⟨Bx ..,h1,λx hx y hy=>?_⟩,λm hm=>?_⟩
  ·rw[CX]at hx
   subst hx;have:=h2 y hy;exact .inr ⟨this.1.symm,by dsimp only;omega⟩
  ·rcases AL.1 hm with hm|hm
   ·rw[CX]at hm
    subst hm;exact⟨rfl,by dsimp only;omega,by dsimp only;omega,rfl⟩
   ·have:=h2 m hm
    exact⟨this.1,by omega,by omega,this.2.2.2⟩
 ·rw[CD]
  exact⟨h1,λm hm=>by have:=h2 m hm;exact⟨this.1,by omega,by omega,this.2.2.2⟩⟩
theorem P1(a b:List Item):∀i:Nat,GN (FG a b i)/\∀m∈FG a b i,0<=m.n/\m.n<i/\ -1<=m.kind/\m.kind<16/\m.tick=0
 |0=>⟨.nil,λm hm=>by cases hm⟩
 |i+1=>by
  obtain⟨h1,h2⟩:=P1 a b i;obtain⟨h3,h4⟩:=U8 (Ci a i) (Ci b i) i
  have e:FG a b (i+1)=FG a b i++G9 (Ci a i) (Ci b i) i:=by
   unfold FG;rw[G6,D5,JU]
  rw[e];refine⟨Bi.2 ⟨h1,h3,λx hx y hy=>?_⟩,λm hm=>?_⟩
  ·have:=h2 x hx
   have:=h4 y hy;exact .inl (by omega)
  ·rcases AL.1 hm with hm|hm
   ·have:=h2 m hm
    exact⟨by omega,by omega,by omega,by omega,this.2.2.2.2⟩
   ·have:=h4 m hm
    exact⟨by omega,by omega,by omega,by omega,this.2.2.2⟩
section
open Go.Sort
theorem cx(f:FuncId)(cap:List AV)(cf:Mark->Mark->Int)(hst:DH cap=true)(hcf:∀x y,PS prog f (Ab x::Ab y::cap) (iA (cf x y)))(X n:Nat)(d:Array Mark)(a b:Nat)(hn:n=d.size)(hab:a<=b)(hb:b<=d.size)(hz:d.size<=1099511627776):PO prog 204 [.sl X 0 n,iA a,iA b,.fn f cap] X (.row 150 3 (d.toList.map Ab)) (.tup []) (.row 150 3 ((insertionSort (AU cf) d a b).toList.map Ab)):=by
 obtain⟨r,hr⟩:=nm (insertionSort (AU cf) d a b);rw[hr];unfold insertionSort at hr;refine Sp (nt:=53) (res:=[]) func204 λSf=>?_
 refine KK ?_;refine Ca (λ(i:Nat) (e:Array Mark)=>⟨[(0,.sl X 0 n),(1,iA a),(2,iA b),(3,.fn f cap),(8,iA i)],(X,.row 150 3 (e.toList.map Ab))::Sf⟩) (λi e=>i<=max b (a+1)/\a<i/\e.size=d.size/\insOuter (AU cf) a b i e=r) (λi _=>b-i) (a+1) d ⟨by omega,by omega,rfl,hr⟩ ?_;rintro i e ⟨hi,hai,he,hfold⟩;rw[insOuter]at hfold;refine KK ?_;refine AC rfl (λhc=>?_) (λhc=>?_)
 ·have h:i<b:=by have:=AD hc;omega
  rw[AY h]at hfold;refine KK ?_;refine Ca (λ(j:Nat) (u:Array Mark)=>⟨[(0,.sl X 0 n),(1,iA a),(2,iA b),(3,.fn f cap),(8,iA i),(9,iA j)],(X,.row 150 3 (u.toList.map Ab))::Sf⟩) (λj u=>j<=i/\u.size=d.size/\insInner (AU cf) a j u=insInner (AU cf) a i e) (λj _=>j) i e ⟨AP _,he,rfl⟩ ?_;rintro j u ⟨hj,hu,hin⟩;rcases Ah (decide ((a:Int)<(j:Int)))with g|g
  ·have hja:a<j:=by have:=AD g;omega
   obtain⟨q,rfl⟩:∃q,j=q+1:=⟨j-1,by omega⟩;have h1:=BI Ab (d:=u) (i:=q+1) (by omega);have h2:=BI Ab (d:=u) (i:=q) (by omega);have hl:=hcf (u[q+1]!) (u[q]!);rw[insInner]at hin;(repeat refine WF ?_);refine RU ?_;(iterate 11 refine RK ?_);refine BO ?_ (BJ (q:Int) (by omega) (by omega) rfl rfl);refine KR ?_;refine Dv (h:=(hl ..)) (k:=?_);refine JG ?_;refine RGo.nil (by kernel_rfl) ?_;(repeat refine WF ?_);refine AC rfl (λhd=>?_) (λhd=>?_)
   ·have hd:(AU cf) u[q+1]! u[q]! =true:=by simpa[g,AU]using hd
    rw[hd,AY (by simp;omega)]at hin;obtain⟨y,hy⟩:=Cc Ab (d:=u) (i:=q+1) (j:=q) (by omega) u[q]!;(repeat refine WF ?_);refine RU ?_;(iterate 4 refine RK ?_);refine BO ?_ (BJ (q:Int) (by omega) (by omega) rfl rfl);refine JG ?_;refine BO ?_ (BJ (q:Int) (by omega) (by omega) rfl rfl);(iterate 9 refine RK ?_);refine RGo.s (W.store rfl rfl (by exact As) hy (by exact rfl)) rfl ?_;refine RGo.nil (by kernel_rfl) ?_
    (iterate 4 refine WK ?_);refine AI (BJ (q:Int) (by omega) (by omega) rfl rfl) rfl ?_;refine KK ?_
    refine Bn q (swp u (q+1) q) ⟨by omega,by rw[size_swp];exact hu,hin⟩ (h0:=by rw[<-C6 Ab (by omega) (by omega)];exact⟨by exact EF,by exact BH⟩)
   ·have hd:(AU cf) u[q+1]! u[q]! =false:=by simpa[g,AU]using hd
    rw[hd,AM (by simp)]at hin;refine KK ?_;refine Bn (i+1) u ⟨by omega,by omega,hu,by rw[hin];exact hfold⟩
  ·have hja:j<=a:=by have:=AG g;omega
   have hin2:insInner (AU cf) a j u=u:=by
    cases j with
    |zero=>rfl
    |succ q=>rw[insInner,AM (by simp;omega)]
   rw[hin2]at hin;(repeat refine WF ?_);refine RU ?_;(iterate 17 refine RK ?_);refine RGo.nil (by kernel_rfl) ?_;(repeat refine WF ?_);refine AB rfl (by simp[g]) ?_;refine KK ?_;refine Bn (i+1) u ⟨by omega,by omega,hu,by rw[hin];exact hfold⟩
 ·have h:¬i<b:=by have:=AG hc;omega
  rw[AM h]at hfold;subst hfold;refine KK ?_;refine Eb ?_;exact B4 [(X,.row 150 3 (e.toList.map Ab))] ⟨rfl,rfl⟩
end
section
open Go.Sort
theorem TX(f:FuncId)(cap:List AV)(cf:Mark->Mark->Int)(hst:DH cap=true)(hcf:∀x y,PS prog f (Ab x::Ab y::cap) (iA (cf x y)))(X n:Nat)(d:Array Mark)(lo hi first:Nat)(hn:n=d.size)(hb:first+hi<=d.size)(hlo:lo<=1099511627776)(hz:d.size<=1099511627776):PO prog 247 [.sl X 0 n,iA lo,iA hi,iA first,.fn f cap] X (.row 150 3 (d.toList.map Ab)) (.tup []) (.row 150 3 ((siftDown (AU cf) hi first lo d).toList.map Ab)):=by
 obtain⟨r,hr⟩:=nm (siftDown (AU cf) hi first lo d);rw[hr];refine Sp (nt:=82) (res:=[]) func247 λSf=>?_
 refine KK ?_;refine Ca (λ(root:Nat) (u:Array Mark)=>⟨[(0,.sl X 0 n),(2,iA hi),(3,iA first),(4,.fn f cap),(10,iA root)],(X,.row 150 3 (u.toList.map Ab))::Sf⟩) (λroot u=>root<=max hi lo/\u.size=d.size/\siftDown (AU cf) hi first root u=r) (λroot _=>hi-root) lo d ⟨by omega,rfl,hr⟩ ?_;rintro root u ⟨hro,hu,hfold⟩;rw[siftDown]at hfold
 (iterate 4 refine WK ?_);refine AI (Hw ((2*root:Nat):Int) (by omega) (by omega) rfl rfl) rfl ?_;refine AI (Bw (((2*root+1:Nat):Int)) (by omega) (by omega) rfl rfl) rfl ?_;refine KK ?_
 refine AC rfl (λhc=>?_) (λhc=>?_)
 ·have h:2*root+1>=hi:=by have:=AD hc;omega
  rw[dif_pos h]at hfold;subst hfold;refine KK ?_;refine Eb ?_;exact B4 [(X,.row 150 3 (u.toList.map Ab))] ⟨rfl,rfl⟩
 have h:¬2*root+1>=hi:=by have:=AG hc;omega
 rw[dif_neg h]at hfold;refine DN ?_;refine Ck ?_;refine C7 ?_;refine Bz (λc:Nat=>c<hi/\root<c/\(if !(AU cf) u[first+root]! u[first+c]! then u else siftDown (AU cf) hi first c (swp u (first+root) (first+c)))=r) (λc=>⟨[(0,.sl X 0 n),(2,iA hi),(3,iA first),(4,.fn f cap),(10,iA root),(11,iA c)],(X,.row 150 3 (u.toList.map Ab))::Sf⟩) ?_ ?_
 ·rcases Ah (decide (((2*root+1+1:Nat):Int)<(hi:Int)))with g|g
  ·have hg:2*root+1+1<hi:=by have:=AD g;omega
   have h1:=BI Ab (d:=u) (i:=first+(2*root+1)) (by omega);have h2:=BI Ab (d:=u) (i:=first+(2*root+1)+1) (by omega);have hl:=hcf (u[first+(2*root+1)]!) (u[first+(2*root+1)+1]!);refine RU ?_;refine RK ?_;refine BO ?_ (Bw (((2*root+1+1:Nat):Int)) (by omega) (by omega) rfl rfl);(iterate 7 refine RK ?_);refine BO ?_ (Bw (((first+(2*root+1):Nat):Int)) (by omega) (by omega) rfl rfl);(iterate 5 refine RK ?_);refine BO ?_ (Bw (((first+(2*root+1):Nat):Int)) (by omega) (by omega) rfl rfl);refine BO ?_ (Bw (((first+(2*root+1)+1:Nat):Int)) (by omega) (by omega) rfl rfl);refine KR ?_;refine Dv (h:=(hl ..)) (k:=?_);refine JG ?_;refine RGo.nil (by kernel_rfl) ?_;(repeat refine WF ?_);refine AC rfl (λhd=>?_) (λhd=>?_)
   ·have hd:(AU cf) u[first+(2*root+1)]! u[first+(2*root+1)+1]! =true:=by simpa[g,AU]using hd
    rw[hd,AY (by simp;omega)]at hfold;refine WK ?_;refine WK ?_;refine AI (Bw (((2*root+2:Nat):Int)) (by omega) (by omega) rfl rfl) rfl ?_;refine KK ?_;refine jn (2*root+2) ⟨by omega,by omega,?_⟩;split at hfold
    ·rename_i hx;rw[AY hx];exact hfold
    ·rename_i hx;rw[AM hx];first|exact hfold|(rw[dif_pos (by omega)]at hfold;exact hfold)
   ·have hd:(AU cf) u[first+(2*root+1)]! u[first+(2*root+1)+1]! =false:=by simpa[g,AU]using hd
    rw[hd,AM (by simp)]at hfold;refine WK ?_;exact jn (2*root+1) ⟨by omega,by omega,hfold⟩
  ·have hg:¬2*root+1+1<hi:=by have:=AG g;omega
   rw[AM (by simp[hg])]at hfold;refine RU ?_;refine RK ?_;refine BO ?_ (Bw (((2*root+1+1:Nat):Int)) (by omega) (by omega) rfl rfl);(iterate 20 refine RK ?_);refine RGo.nil (by kernel_rfl) ?_;(repeat refine WF ?_);refine AB rfl (by simp[g]) ?_;refine WK ?_;exact jn (2*root+1) ⟨by omega,by omega,hfold⟩
 ·rintro c ⟨hch,hrc,hfold⟩
  have h1:=BI Ab (d:=u) (i:=first+root) (by omega);have h2:=BI Ab (d:=u) (i:=first+c) (by omega);have hl:=hcf (u[first+root]!) (u[first+c]!);(repeat refine WF ?_);refine RU ?_;(iterate 4 refine RK ?_);refine BO ?_ (Bw (((first+root:Nat):Int)) (by omega) (by omega) rfl rfl);(iterate 5 refine RK ?_);refine BO ?_ (Bw (((first+c:Nat):Int)) (by omega) (by omega) rfl rfl);refine KR ?_;refine Dv (h:=(hl ..)) (k:=?_);refine JG ?_;refine RGo.nil (by kernel_rfl) ?_;(repeat refine WF ?_);refine AC rfl (λhd=>?_) (λhd=>?_)
  ·have hd:(!(AU cf) u[first+root]! u[first+c]!)=true:=by simpa[AU]using hd
   rw[AY hd]at hfold;subst hfold;refine RT ?_;exact B4 [(X,.row 150 3 (u.toList.map Ab))] ⟨rfl,rfl⟩
  ·have hd:(!(AU cf) u[first+root]! u[first+c]!)=false:=by simpa[AU]using hd
   rw[AM (by rw[hd];simp)]at hfold;obtain⟨y,hy⟩:=Cc Ab (d:=u) (i:=first+root) (j:=first+c) (by omega) u[first+c]!;(repeat refine WF ?_);refine RU ?_;(repeat first|(refine MK ?_;first|refine BO ?_ (Bw (((first+root:Nat):Int)) (by omega) (by omega) rfl rfl)|refine BO ?_ (Bw (((first+c:Nat):Int)) (by omega) (by omega) rfl rfl)|refine RGo.s (W.store rfl rfl (by exact As) hy (by exact rfl)) rfl ?_)|(refine HU ?_;first|refine BO ?_ (Bw (((first+root:Nat):Int)) (by omega) (by omega) rfl rfl)|refine BO ?_ (Bw (((first+c:Nat):Int)) (by omega) (by omega) rfl rfl)|refine RGo.s (W.store rfl rfl (by exact As) hy (by exact rfl)) rfl ?_)|refine RK ?_|refine RGo.nil (by kernel_rfl) ?_);refine KK ?_;refine Bn c (swp u (first+root) (first+c)) ⟨by omega,by rw[size_swp];exact hu,hfold⟩ (h0:=by rw[<-C6 Ab (by omega) (by omega)];exact⟨by exact EF,by exact BH⟩)
theorem Gp(lt:Mark->Mark->Bool)(hi first:Nat):∀(k root:Nat) (d:Array Mark),hi-root<=k->(siftDown lt hi first root d).size=d.size
 |0,root,d,h=>by rw[siftDown,dif_pos (by omega)]
 |k+1,root,d,h=>by
  rw[siftDown];split
  ·rfl
  ·split
   ·split
    ·rfl
    ·split
     ·rw[Gp lt hi first k _ _ (by omega),size_swp]
     ·rfl
   ·split
    ·rfl
    ·rw[Gp lt hi first k _ _ (by omega),size_swp]
theorem aN(f:FuncId)(cap:List AV)(cf:Mark->Mark->Int)(hst:DH cap=true)(hcf:∀x y,PS prog f (Ab x::Ab y::cap) (iA (cf x y)))(X n:Nat)(d:Array Mark)(a b:Nat)(hn:n=d.size)(hab:a<b)(hb:b<=d.size)(hz:d.size<=1099511627776):PO prog 205 [.sl X 0 n,iA a,iA b,.fn f cap] X (.row 150 3 (d.toList.map Ab)) (.tup []) (.row 150 3 ((heapSort (AU cf) d a b).toList.map Ab)):=by
 obtain⟨r,hr⟩:=nm (heapSort (AU cf) d a b);rw[hr];unfold heapSort at hr;obtain⟨m,hm⟩:=nm (b-a);rw[hm]at hr;refine Sp (nt:=60) (res:=[]) func205 λSf=>?_
 (repeat first|(refine Bk ?_;first|refine AI (BJ ((m:Int)) (by omega) (by omega) rfl rfl) rfl ?_|refine AI (BJ (((m-1:Nat):Int)) (by omega) (by omega) rfl rfl) rfl ?_|refine AI (JQ (m-1) 2 ((m-1)/2) rfl rfl (by omega) rfl (by omega) rfl rfl) rfl ?_)|refine WK ?_|refine Ai λX=>?_|refine Ay λY=>?_);refine Ca (λ(k:Nat) (u:Array Mark)=>⟨[(0,.sl X 0 n),(3,.fn f cap),(8,iA a),(9,iA 0),(10,iA m),(11,iA ((k:Int)-1))],(X,.row 150 3 (u.toList.map Ab))::Sf⟩) (λk u=>k<=m/\u.size=d.size/\heapPop (AU cf) a m (heapBuild (AU cf) m a k u)=r) (λk _=>k) ((m-1)/2+1) d ⟨by omega,rfl,hr⟩ ?_ (h0:=by rw[show((((m-1)/2+1:Nat):Int)-1)=(((m-1)/2:Nat):Int) by omega];exact⟨by exact EF,by exact BH⟩);rintro k u ⟨hk,hu,hfold⟩;refine KK ?_;refine AC rfl (λhc=>?_) (λhc=>?_)
 ·obtain⟨q,rfl⟩:∃q,k=q+1:=⟨k-1,by have:=AD hc;omega⟩
  rw[heapBuild]at hfold;have hs:=TX f cap cf hst hcf X n u q m a (by omega) (by omega) (by omega) (by omega);have hsz:=Gp (AU cf) m a _ q u (AP _);rw[show(((q+1:Nat):Int)-1)=(q:Int) by omega];refine KK ?_;refine IJ (h:=(hs ..)) (k:=?_);(iterate 5 refine WK ?_);refine AI (BJ ((q:Int)-1) (by omega) (by omega) rfl rfl) rfl ?_;refine KK ?_;exact Bn q (siftDown (AU cf) m a q u) ⟨by omega,by omega,hfold⟩
 ·obtain rfl:k=0:=by have:=AG hc;omega
  rw[heapBuild]at hfold
  (iterate 4 refine WK ?_);refine AI (BJ ((m:Int)-1) (by omega) (by omega) rfl rfl) rfl ?_;refine KK ?_
  clear hc hk;refine Ca (λ(k:Nat) (u:Array Mark)=>⟨[(0,.sl X 0 n),(3,.fn f cap),(8,iA a),(9,iA 0),(10,iA m),(12,iA ((k:Int)-1))],(X,.row 150 3 (u.toList.map Ab))::Sf⟩) (λk u=>k<=m/\u.size=d.size/\heapPop (AU cf) a k u=r) (λk _=>k) m u ⟨by omega,hu,hfold⟩ ?_;clear hfold hu;rintro k u ⟨hk,hu,hfold⟩;refine KK ?_;refine AC rfl (λhc=>?_) (λhc=>?_)
  ·obtain⟨q,rfl⟩:∃q,k=q+1:=⟨k-1,by have:=AD hc;omega⟩
   rw[heapPop]at hfold;have h1:=BI Ab (d:=u) (i:=a) (by omega);have h2:=BI Ab (d:=u) (i:=a+q) (by omega);have hs:=TX f cap cf hst hcf X n (swp u a (a+q)) 0 q a (by rw[size_swp];omega) (by rw[size_swp];omega) (by omega) (by rw[size_swp];omega);have hsz:=Gp (AU cf) q a _ 0 (swp u a (a+q)) (AP _);rw[size_swp]at hsz;rw[show(((q+1:Nat):Int)-1)=(q:Int) by omega];obtain⟨y,hy⟩:=Cc Ab (d:=u) (i:=a) (j:=a+q) (by omega) u[a+q]!;have hrow:=C6 Ab (d:=u) (i:=a) (j:=a+q) (by omega) (by omega);(repeat refine WF ?_);refine RU ?_;(iterate 5 refine RK ?_);refine BO ?_ (Bw (((a+q:Nat):Int)) (by omega) (by omega) rfl rfl);(iterate 3 refine RK ?_);refine BO ?_ (Bw (((a+q:Nat):Int)) (by omega) (by omega) rfl rfl);(iterate 9 refine RK ?_);refine RGo.s (W.store rfl rfl (by exact As) hy (by exact rfl)) rfl ?_;refine RGo.nil (by kernel_rfl) ?_;refine K4 [(0,.sl X 0 n),(3,.fn f cap),(8,iA a),(9,iA 0),(10,iA m),(12,iA q)] ((X,.row 150 3 ((swp u a (a+q)).toList.map Ab))::Sf) ?_ (h:=by rw[<-hrow];exact⟨by exact EF,by exact BH⟩);refine KK ?_;refine IJ (h:=(hs ..)) (k:=?_);(iterate 5 refine WK ?_);refine AI (BJ ((q:Int)-1) (by omega) (by omega) rfl rfl) rfl ?_;refine KK ?_;exact Bn q (siftDown (AU cf) q a 0 (swp u a (a+q))) ⟨by omega,by omega,hfold⟩
  ·obtain rfl:k=0:=by have:=AG hc;omega
   rw[heapPop]at hfold;subst hfold;refine KK ?_;refine Eb ?_;exact B4 [(X,.row 150 3 (u.toList.map Ab))] ⟨rfl,rfl⟩
theorem cO{f:FuncId}{cap:List AV}(X n:Nat)(d:Array Mark)(a b:Nat)(hn:n=d.size)(hab:a<b)(hb:b<=d.size)(hz:d.size<=1099511627776):PO prog 208 [.sl X 0 n,iA a,iA b,.fn f cap] X (.row 150 3 (d.toList.map Ab)) (.tup []) (.row 150 3 ((reverseRange d a b).toList.map Ab)):=by
 obtain⟨r,hr⟩:=nm (reverseRange d a b);rw[hr];unfold reverseRange at hr;refine Sp (nt:=34) (res:=[]) func208 λSf=>?_
 (iterate 8 refine WK ?_);refine AI (BJ (((b-1:Nat):Int)) (by omega) (by omega) rfl rfl) rfl ?_;refine KK ?_
 refine Ev (λ(i j:Nat) (u:Array Mark)=>⟨[(0,.sl X 0 n),(8,iA i),(9,iA j)],(X,.row 150 3 (u.toList.map Ab))::Sf⟩) (λi j u=>i<=d.size/\j<d.size/\u.size=d.size/\reverseLoop i j u=r) (λi j _=>j-i) a (b-1) d ⟨by omega,by omega,rfl,hr⟩ ?_;rintro i j u ⟨hi,hj,hu,hfold⟩;rw[reverseLoop]at hfold;refine KK ?_;refine AC rfl (λhc=>?_) (λhc=>?_)
 ·have h:i<j:=by have:=AD hc;omega
  rw[AY h]at hfold;have h1:=BI Ab (d:=u) (i:=i) (by omega);have h2:=BI Ab (d:=u) (i:=j) (by omega);obtain⟨y,hy⟩:=Cc Ab (d:=u) (i:=i) (j:=j) (by omega) u[j]!;(repeat refine WF ?_);refine RU ?_;(iterate 15 refine RK ?_);refine RGo.s (W.store rfl rfl (by exact As) hy (by exact rfl)) rfl ?_;refine RGo.nil (by kernel_rfl) ?_
  (iterate 9 refine WK ?_);refine AI (BJ (((j-1:Nat):Int)) (by omega) (by omega) rfl rfl) rfl ?_;refine KK ?_
  refine Dc (i+1) (j-1) (swp u i j) ⟨by omega,by omega,by rw[size_swp];exact hu,hfold⟩ (h0:=by rw[<-C6 Ab (by omega) (by omega)];exact⟨by exact EF,by exact BH⟩)
 ·have h:¬i<j:=by have:=AG hc;omega
  rw[AM h]at hfold;subst hfold;refine KK ?_;refine Eb ?_;exact B4 [(X,.row 150 3 (u.toList.map Ab))] ⟨rfl,rfl⟩
end
section
open Go.Sort
theorem Lv(p:Mark->Bool)(d:Array Mark)(j i:Nat):scanUp p d j i<=max i (j+1):=by
 obtain⟨m,hm⟩:=nm (j+1-i)
 induction m generalizing i with
 |zero=>rw[scanUp,AM (λe=>by rw[AF]at e;have:=AD e.1;omega)];omega
 |succ m ih=>
  rw[scanUp];split
  ·have:=ih (i+1) (by omega)
   omega
  ·omega
theorem cV(f:FuncId)(cap:List AV)(cf:Mark->Mark->Int)(hst:DH cap=true)(hcf:∀x y,PS prog f (Ab x::Ab y::cap) (iA (cf x y)))(X n:Nat)(d:Array Mark)(a b pivot:Nat)(hn:n=d.size)(ha:a<=pivot)(hp:pivot<b)(hb:b<=d.size)(hz:d.size<=1099511627776):PO prog 210 [.sl X 0 n,iA a,iA b,iA pivot,.fn f cap] X (.row 150 3 (d.toList.map Ab)) (iA (partitionEqual (AU cf) d a b pivot).1) (.row 150 3 ((partitionEqual (AU cf) d a b pivot).2.toList.map Ab)):=by
 obtain⟨r,hr⟩:=nm (partitionEqual (AU cf) d a b pivot);rw[hr];unfold partitionEqual at hr;refine Sp (nt:=90) (res:=[.tmp 10]) func210 λSf=>?_
 have h1:=BI Ab (d:=d) (i:=a) (by omega);have h2:=BI Ab (d:=d) (i:=pivot) (by omega);obtain⟨y,hy⟩:=Cc Ab (d:=d) (i:=a) (j:=pivot) (by omega) d[pivot]!;refine R1 ?_;refine RU ?_;(iterate 15 refine RK ?_);refine RGo.s (W.store rfl rfl (by exact As) hy (by exact rfl)) rfl ?_;refine RGo.nil (by kernel_rfl) ?_
 (iterate 5 refine WK ?_);refine AI (BJ (((b-1:Nat):Int)) (by omega) (by omega) rfl rfl) rfl ?_;refine KK ?_
 refine Ev (λ(i j:Nat) (u:Array Mark)=>⟨[(0,.sl X 0 n),(1,iA a),(4,.fn f cap),(11,iA i),(12,iA j)],(X,.row 150 3 (u.toList.map Ab))::Sf⟩) (λi j u=>a<i/\i<=j+2/\j<b/\u.size=d.size/\partEqLoop (AU cf) a i j u=r) (λi j _=>j+1-i) (a+1) (b-1) (swp d a pivot) ⟨by omega,by omega,by omega,by rw[size_swp],hr⟩ ?_ (h0:=by rw[<-C6 Ab (by omega) (by omega)];exact⟨by exact EF,by exact BH⟩);rintro i j u ⟨hai,hij,hjb,hu,hfold⟩;rw[partEqLoop_eq]at hfold;obtain⟨i2,hi2⟩:=nm (scanUp (λx=>!(AU cf) u[a]! x) u j i);rw[hi2]at hfold;obtain⟨j2,hj2⟩:=nm (scanDown (λx=>(AU cf) u[a]! x) u i2 j);rw[hj2]at hfold;have hge:=scanUp_ge (λx=>!(AU cf) u[a]! x) u j i;have hle:=scanDown_le (λx=>(AU cf) u[a]! x) u i2 j;rw[hi2]at hge;rw[hj2]at hle;have hge2:i2<=max i (j+1):=by rw[<-hi2];exact Lv _ _ _ _
 refine AWP.block ?_
 (repeat (first|refine DN ?_|refine Ck ?_|refine C7 ?_))
 refine Bz (λk:Nat=>k=i2) (λk=>⟨[(0,.sl X 0 n),(1,iA a),(4,.fn f cap),(11,iA k),(12,iA j)],(X,.row 150 3 (u.toList.map Ab))::Sf⟩) ?_ ?_
 ·refine AWP.block ?_
  refine B8 (λ(k:Nat)=>⟨[(0,.sl X 0 n),(1,iA a),(4,.fn f cap),(11,iA k),(12,iA j)],(X,.row 150 3 (u.toList.map Ab))::Sf⟩) (λk=>i<=k/\k<=max i (j+1)/\scanUp (λx=>!(AU cf) u[a]! x) u j k=i2) (λk=>j+1-k) i ⟨AP _,by omega,hi2⟩ ?_;rintro k ⟨hk1,hk2,hk⟩;rw[scanUp]at hk;rcases Ah (decide ((k:Int)<=(j:Int)))with g|g
  ·have hg:k<=j:=by have:=AD g;omega
   have h1:=BI Ab (d:=u) (i:=k) (by omega);have h2:=BI Ab (d:=u) (i:=a) (by omega);have hl:=hcf (u[a]!) (u[k]!);(repeat refine WF ?_);refine JM ?_;refine Dv (h:=(hl ..)) (k:=?_);(iterate 3 refine RK ?_);refine RGo.nil (by kernel_rfl) ?_;(repeat refine WF ?_);refine AC rfl (λhd=>?_) (λhd=>?_)
   ·have hd:(!(AU cf) u[a]! u[k]!)=true:=by simpa[g,AU]using hd
    rw[AY (by rw[AF];exact⟨BG (by omega),hd⟩)]at hk;refine KK ?_;exact BM (k+1) ⟨by omega,by omega,hk⟩
   ·have hd:(!(AU cf) u[a]! u[k]!)=false:=by simpa[g,AU]using hd
    rw[AM (λe=>by rw[AF]at e;have e2:=e.2;rw[hd]at e2;cases e2)]at hk;refine KK ?_;exact jn k hk
  ·have hg:¬k<=j:=by have:=AG g;omega
   rw[AM (λe=>by rw[AF]at e;have:=AD e.1;omega)]at hk;(repeat refine WF ?_);refine RU ?_;(iterate 17 refine RK ?_);refine RGo.nil (by kernel_rfl) ?_;(repeat refine WF ?_);refine AB rfl (by simp[g]) ?_;refine KK ?_;exact jn k hk
 rintro k hk0;rw[hk0];clear hk0 k
 (repeat (first|refine DN ?_|refine Ck ?_|refine C7 ?_))
 refine Bz (λk:Nat=>k=j2) (λk=>⟨[(0,.sl X 0 n),(1,iA a),(4,.fn f cap),(11,iA i2),(12,iA k)],(X,.row 150 3 (u.toList.map Ab))::Sf⟩) ?_ ?_
 ·refine AWP.block ?_
  refine B8 (λ(k:Nat)=>⟨[(0,.sl X 0 n),(1,iA a),(4,.fn f cap),(11,iA i2),(12,iA k)],(X,.row 150 3 (u.toList.map Ab))::Sf⟩) (λk=>k<=j/\scanDown (λx=>(AU cf) u[a]! x) u i2 k=j2) (λk=>k) j ⟨AP _,hj2⟩ ?_;rintro k ⟨hk1,hk⟩;rcases Ah (decide ((i2:Int)<=(k:Int)))with g|g
  ·have hg:i2<=k:=by have:=AD g;omega
   obtain⟨q,rfl⟩:∃q,k=q+1:=⟨k-1,by omega⟩;rw[scanDown]at hk;have h1:=BI Ab (d:=u) (i:=q+1) (by omega);have h2:=BI Ab (d:=u) (i:=a) (by omega);have hl:=hcf (u[a]!) (u[q+1]!);(repeat refine WF ?_);refine JM ?_;refine Dv (h:=(hl ..)) (k:=?_);refine JG ?_;refine RGo.nil (by kernel_rfl) ?_;(repeat refine WF ?_);refine AC rfl (λhd=>?_) (λhd=>?_)
   ·have hd:((AU cf) u[a]! u[q+1]!)=true:=by simpa[g,AU]using hd
    rw[AY (by rw[AF];exact⟨BG (by omega),hd⟩)]at hk
    (iterate 4 refine WK ?_);refine AI (BJ ((q:Int)) (by omega) (by omega) rfl rfl) rfl ?_;refine KK ?_
    exact BM q ⟨by omega,hk⟩
   ·have hd:((AU cf) u[a]! u[q+1]!)=false:=by simpa[g,AU]using hd
    rw[AM (λe=>by rw[AF]at e;have e2:=e.2;rw[hd]at e2;cases e2)]at hk;refine KK ?_;exact jn (q+1) hk
  ·have hg:¬i2<=k:=by have:=AG g;omega
   have hk3:scanDown (λx=>(AU cf) u[a]! x) u i2 k=k:=by
    cases k with
    |zero=>rfl
    |succ q=>rw[scanDown,AM (λe=>by rw[AF]at e;have:=AD e.1;omega)]
   rw[hk3]at hk;(repeat refine WF ?_);refine RU ?_;(iterate 16 refine RK ?_);refine RGo.nil (by kernel_rfl) ?_;(repeat refine WF ?_);refine AB rfl (by simp[g]) ?_;refine KK ?_;exact jn k hk
 rintro k hk0;rw[hk0];clear hk0 k;refine KK ?_;refine AC rfl (λhc=>?_) (λhc=>?_)
 ·have h:i2>j2:=by have:=AD hc;omega
  rw[AY h]at hfold;subst hfold;refine JA ?_;exact Ends.sp [iA i2] [(X,_)] ⟨rfl,rfl⟩
 ·have h:¬i2>j2:=by have:=AG hc;omega
  rw[AM h]at hfold;have h1:=BI Ab (d:=u) (i:=i2) (by omega);have h2:=BI Ab (d:=u) (i:=j2) (by omega);obtain⟨y,hy⟩:=Cc Ab (d:=u) (i:=i2) (j:=j2) (by omega) u[j2]!;(repeat refine WF ?_);refine RU ?_;(iterate 15 refine RK ?_);refine RGo.s (W.store rfl rfl (by exact As) hy (by exact rfl)) rfl ?_;refine RGo.nil (by kernel_rfl) ?_
  (iterate 9 refine WK ?_);refine AI (BJ (((j2-1:Nat):Int)) (by omega) (by omega) rfl rfl) rfl ?_;refine KK ?_
  refine Dc (i2+1) (j2-1) (swp u i2 j2) ⟨by omega,by omega,by omega,by rw[size_swp];exact hu,hfold⟩ (h0:=by rw[<-C6 Ab (by omega) (by omega)];exact⟨by exact EF,by exact BH⟩)
theorem Zj(f:FuncId)(cap:List AV)(cf:Mark->Mark->Int)(hst:DH cap=true)(hcf:∀x y,PS prog f (Ab x::Ab y::cap) (iA (cf x y)))(X n:Nat)(d:Array Mark)(a b pivot:Nat)(hn:n=d.size)(ha:a<=pivot)(hp:pivot<b)(hb:b<=d.size)(hz:d.size<=1099511627776):PO prog 211 [.sl X 0 n,iA a,iA b,iA pivot,.fn f cap] X (.row 150 3 (d.toList.map Ab)) (.tup [iA (partition (AU cf) d a b pivot).1,bA (partition (AU cf) d a b pivot).2.1]) (.row 150 3 ((partition (AU cf) d a b pivot).2.2.toList.map Ab)):=by
 obtain⟨r,hr⟩:=nm (partition (AU cf) d a b pivot);rw[hr];dsimp only[partition]at hr;refine Sp (nt:=178) (res:=[.tmp 10,.tmp 11]) func211 λSf=>?_
 have h1:=BI Ab (d:=d) (i:=a) (by omega);have h2:=BI Ab (d:=d) (i:=pivot) (by omega);have hrow:=C6 Ab (d:=d) (i:=a) (j:=pivot) (by omega) (by omega);obtain⟨y,hy⟩:=Cc Ab (d:=d) (i:=a) (j:=pivot) (by omega) d[pivot]!;refine R1 ?_;refine RU ?_;(iterate 15 refine RK ?_);refine RGo.s (W.store rfl rfl (by exact As) hy (by exact rfl)) rfl ?_;refine RGo.nil (by kernel_rfl) ?_;have hsz:(swp d a pivot).size=d.size:=size_swp _ _ _;obtain⟨u,hu0⟩:=nm (swp d a pivot);rw[hu0]at hr hrow hsz;obtain⟨j,hj⟩:=nm (b-1);obtain⟨i,hi⟩:=nm (a+1);rw[hj,hi]at hr;refine JF ?_;refine AI (Bw (((i:Nat):Int)) (by omega) (by omega) rfl rfl) rfl ?_;refine WO ?_;refine AI (BJ ((j:Int)) (by omega) (by omega) rfl rfl) rfl ?_;refine JE ?_
 (repeat (first|refine DN ?_|refine Ck ?_|refine C7 ?_))
 refine K4 [(0,.sl X 0 n),(1,iA a),(4,.fn f cap),(12,iA i),(13,iA j)] ((X,.row 150 3 (u.toList.map Ab))::Sf) ?_ (h:=by rw[<-hrow];exact⟨by exact EF,by exact BH⟩);have hu:u.size=d.size:=hsz;have hfold:=hr;obtain⟨i2,hi2⟩:=nm (scanUp (λx=>(AU cf) x u[a]!) u j i);rw[hi2]at hfold;obtain⟨j2,hj2⟩:=nm (scanDown (λx=>!(AU cf) x u[a]!) u i2 j);rw[hj2]at hfold;have hge:=scanUp_ge (λx=>(AU cf) x u[a]!) u j i;have hle:=scanDown_le (λx=>!(AU cf) x u[a]!) u i2 j;rw[hi2]at hge;rw[hj2]at hle;have hge2:i2<=max i (j+1):=by rw[<-hi2];exact Lv _ _ _ _
 refine Bz (λk:Nat=>k=i2) (λk=>⟨[(0,.sl X 0 n),(1,iA a),(4,.fn f cap),(12,iA k),(13,iA j)],(X,.row 150 3 (u.toList.map Ab))::Sf⟩) ?_ ?_
 ·refine AWP.block ?_
  refine B8 (λ(k:Nat)=>⟨[(0,.sl X 0 n),(1,iA a),(4,.fn f cap),(12,iA k),(13,iA j)],(X,.row 150 3 (u.toList.map Ab))::Sf⟩) (λk=>i<=k/\k<=max i (j+1)/\scanUp (λx=>(AU cf) x u[a]!) u j k=i2) (λk=>j+1-k) i ⟨AP _,by omega,hi2⟩ ?_;rintro k ⟨hk1,hk2,hk⟩;rw[scanUp]at hk;rcases Ah (decide ((k:Int)<=(j:Int)))with g|g
  ·have hg:k<=j:=by have:=AD g;omega
   have h1:=BI Ab (d:=u) (i:=k) (by omega);have h2:=BI Ab (d:=u) (i:=a) (by omega);have hl:=hcf (u[k]!) (u[a]!);(repeat refine WF ?_);refine JM ?_;refine Dv (h:=(hl ..)) (k:=?_);refine JG ?_;refine RGo.nil (by kernel_rfl) ?_;(repeat refine WF ?_);refine AC rfl (λhd=>?_) (λhd=>?_)
   ·have hd:((AU cf) u[k]! u[a]!)=true:=by simpa[g,AU]using hd
    rw[AY (by rw[AF];exact⟨BG (by omega),hd⟩)]at hk;refine KK ?_;exact BM (k+1) ⟨by omega,by omega,hk⟩
   ·have hd:((AU cf) u[k]! u[a]!)=false:=by simpa[g,AU]using hd
    rw[AM (λe=>by rw[AF]at e;have e2:=e.2;rw[hd]at e2;cases e2)]at hk;refine KK ?_;exact jn k hk
  ·have hg:¬k<=j:=by have:=AG g;omega
   rw[AM (λe=>by rw[AF]at e;have:=AD e.1;omega)]at hk;(repeat refine WF ?_);refine RU ?_;(iterate 16 refine RK ?_);refine RGo.nil (by kernel_rfl) ?_;(repeat refine WF ?_);refine AB rfl (by simp[g]) ?_;refine KK ?_;exact jn k hk
 rintro k hk0;rw[hk0];clear hk0 k
 (repeat (first|refine DN ?_|refine Ck ?_|refine C7 ?_))
 refine Bz (λk:Nat=>k=j2) (λk=>⟨[(0,.sl X 0 n),(1,iA a),(4,.fn f cap),(12,iA i2),(13,iA k)],(X,.row 150 3 (u.toList.map Ab))::Sf⟩) ?_ ?_
 ·refine AWP.block ?_
  refine B8 (λ(k:Nat)=>⟨[(0,.sl X 0 n),(1,iA a),(4,.fn f cap),(12,iA i2),(13,iA k)],(X,.row 150 3 (u.toList.map Ab))::Sf⟩) (λk=>k<=j/\scanDown (λx=>!(AU cf) x u[a]!) u i2 k=j2) (λk=>k) j ⟨AP _,hj2⟩ ?_;rintro k ⟨hk1,hk⟩;rcases Ah (decide ((i2:Int)<=(k:Int)))with g|g
  ·have hg:i2<=k:=by have:=AD g;omega
   obtain⟨q,rfl⟩:∃q,k=q+1:=⟨k-1,by omega⟩;rw[scanDown]at hk;have h1:=BI Ab (d:=u) (i:=q+1) (by omega);have h2:=BI Ab (d:=u) (i:=a) (by omega);have hl:=hcf (u[q+1]!) (u[a]!);(repeat refine WF ?_);refine JM ?_;refine Dv (h:=(hl ..)) (k:=?_);(iterate 3 refine RK ?_);refine RGo.nil (by kernel_rfl) ?_;(repeat refine WF ?_);refine AC rfl (λhd=>?_) (λhd=>?_)
   ·have hd:(!(AU cf) u[q+1]! u[a]!)=true:=by simpa[g,AU]using hd
    rw[AY (by rw[AF];exact⟨BG (by omega),hd⟩)]at hk
    (iterate 4 refine WK ?_);refine AI (BJ ((q:Int)) (by omega) (by omega) rfl rfl) rfl ?_;refine KK ?_
    exact BM q ⟨by omega,hk⟩
   ·have hd:(!(AU cf) u[q+1]! u[a]!)=false:=by simpa[g,AU]using hd
    rw[AM (λe=>by rw[AF]at e;have e2:=e.2;rw[hd]at e2;cases e2)]at hk;refine KK ?_;exact jn (q+1) hk
  ·have hg:¬i2<=k:=by have:=AG g;omega
   have hk3:scanDown (λx=>!(AU cf) x u[a]!) u i2 k=k:=by
    cases k with
    |zero=>rfl
    |succ q=>rw[scanDown,AM (λe=>by rw[AF]at e;have:=AD e.1;omega)]
   rw[hk3]at hk;(repeat refine WF ?_);refine RU ?_;(iterate 17 refine RK ?_);refine RGo.nil (by kernel_rfl) ?_;(repeat refine WF ?_);refine AB rfl (by simp[g]) ?_;refine KK ?_;exact jn k hk
 rintro k hk0;rw[hk0];clear hk0 k;refine KK ?_;refine AC rfl (λhc=>?_) (λhc=>?_)
 ·have h:i2>j2:=by have:=AD hc;omega
  rw[AY h]at hfold;subst hfold;have h1:=BI Ab (d:=u) (i:=j2) (by omega);have h2:=BI Ab (d:=u) (i:=a) (by omega);have hrow2:=C6 Ab (d:=u) (i:=j2) (j:=a) (by omega) (by omega);obtain⟨y,hy⟩:=Cc Ab (d:=u) (i:=j2) (j:=a) (by omega) u[a]!;(repeat refine WF ?_);refine RU ?_;(iterate 15 refine RK ?_);refine RGo.s (W.store rfl rfl (by exact As) hy (by exact rfl)) rfl ?_;refine RGo.nil (by kernel_rfl) ?_;refine JA ?_;exact Ends.sp [iA j2,bA true] [(X,_)] ⟨rfl,by rw[<-hrow2]⟩
 have h:¬i2>j2:=by have:=AG hc;omega
 rw[AM h]at hfold;obtain⟨pr,hpr⟩:=nm (partLoop (AU cf) a (i2+1) (j2-1) (swp u i2 j2));rw[hpr]at hfold;have h1:=BI Ab (d:=u) (i:=i2) (by omega);have h2:=BI Ab (d:=u) (i:=j2) (by omega);clear y hy;obtain⟨y,hy⟩:=Cc Ab (d:=u) (i:=i2) (j:=j2) (by omega) u[j2]!;(repeat refine WF ?_);refine RU ?_;(iterate 15 refine RK ?_);refine RGo.s (W.store rfl rfl (by exact As) hy (by exact rfl)) rfl ?_;refine RGo.nil (by kernel_rfl) ?_
 (iterate 9 refine WK ?_);refine AI (BJ (((j2-1:Nat):Int)) (by omega) (by omega) rfl rfl) rfl ?_;refine KK ?_
 refine Ev (λ(i j:Nat) (u:Array Mark)=>⟨[(0,.sl X 0 n),(1,iA a),(4,.fn f cap),(12,iA i),(13,iA j)],(X,.row 150 3 (u.toList.map Ab))::Sf⟩) (λi j u=>a<i/\i<=j+2/\j<b/\u.size=d.size/\partLoop (AU cf) a i j u=pr) (λi j _=>j+1-i) (i2+1) (j2-1) (swp u i2 j2) ⟨by omega,by omega,by omega,by rw[size_swp];exact hu,hpr⟩ ?_ (h0:=by rw[<-C6 Ab (by omega) (by omega)];exact⟨by exact EF,by exact BH⟩);subst hfold;clear hc h h1 h2 hpr hi2 hj2 hge hle hge2 hr hrow hu0 hu hsz hi hj hy y i2 j2 i j u;rintro i j u ⟨hai,hij,hjb,hu,hfold⟩;rw[partLoop_eq]at hfold;obtain⟨i2,hi2⟩:=nm (scanUp (λx=>(AU cf) x u[a]!) u j i);rw[hi2]at hfold;obtain⟨j2,hj2⟩:=nm (scanDown (λx=>!(AU cf) x u[a]!) u i2 j);rw[hj2]at hfold;have hge:=scanUp_ge (λx=>(AU cf) x u[a]!) u j i;have hle:=scanDown_le (λx=>!(AU cf) x u[a]!) u i2 j;rw[hi2]at hge;rw[hj2]at hle;have hge2:i2<=max i (j+1):=by rw[<-hi2];exact Lv _ _ _ _
 refine AWP.block ?_
 (repeat (first|refine DN ?_|refine Ck ?_|refine C7 ?_))
 refine Bz (λk:Nat=>k=i2) (λk=>⟨[(0,.sl X 0 n),(1,iA a),(4,.fn f cap),(12,iA k),(13,iA j)],(X,.row 150 3 (u.toList.map Ab))::Sf⟩) ?_ ?_
 ·refine AWP.block ?_
  refine B8 (λ(k:Nat)=>⟨[(0,.sl X 0 n),(1,iA a),(4,.fn f cap),(12,iA k),(13,iA j)],(X,.row 150 3 (u.toList.map Ab))::Sf⟩) (λk=>i<=k/\k<=max i (j+1)/\scanUp (λx=>(AU cf) x u[a]!) u j k=i2) (λk=>j+1-k) i ⟨AP _,by omega,hi2⟩ ?_;rintro k ⟨hk1,hk2,hk⟩;rw[scanUp]at hk;rcases Ah (decide ((k:Int)<=(j:Int)))with g|g
  ·have hg:k<=j:=by have:=AD g;omega
   have h1:=BI Ab (d:=u) (i:=k) (by omega);have h2:=BI Ab (d:=u) (i:=a) (by omega);have hl:=hcf (u[k]!) (u[a]!);(repeat refine WF ?_);refine JM ?_;refine Dv (h:=(hl ..)) (k:=?_);refine JG ?_;refine RGo.nil (by kernel_rfl) ?_;(repeat refine WF ?_);refine AC rfl (λhd=>?_) (λhd=>?_)
   ·have hd:((AU cf) u[k]! u[a]!)=true:=by simpa[g,AU]using hd
    rw[AY (by rw[AF];exact⟨BG (by omega),hd⟩)]at hk;refine KK ?_;exact BM (k+1) ⟨by omega,by omega,hk⟩
   ·have hd:((AU cf) u[k]! u[a]!)=false:=by simpa[g,AU]using hd
    rw[AM (λe=>by rw[AF]at e;have e2:=e.2;rw[hd]at e2;cases e2)]at hk;refine KK ?_;exact jn k hk
  ·have hg:¬k<=j:=by have:=AG g;omega
   rw[AM (λe=>by rw[AF]at e;have:=AD e.1;omega)]at hk;(repeat refine WF ?_);refine RU ?_;(iterate 16 refine RK ?_);refine RGo.nil (by kernel_rfl) ?_;(repeat refine WF ?_);refine AB rfl (by simp[g]) ?_;refine KK ?_;exact jn k hk
 rintro k hk0;rw[hk0];clear hk0 k
 (repeat (first|refine DN ?_|refine Ck ?_|refine C7 ?_))
 refine Bz (λk:Nat=>k=j2) (λk=>⟨[(0,.sl X 0 n),(1,iA a),(4,.fn f cap),(12,iA i2),(13,iA k)],(X,.row 150 3 (u.toList.map Ab))::Sf⟩) ?_ ?_
 ·refine AWP.block ?_
  refine B8 (λ(k:Nat)=>⟨[(0,.sl X 0 n),(1,iA a),(4,.fn f cap),(12,iA i2),(13,iA k)],(X,.row 150 3 (u.toList.map Ab))::Sf⟩) (λk=>k<=j/\scanDown (λx=>!(AU cf) x u[a]!) u i2 k=j2) (λk=>k) j ⟨AP _,hj2⟩ ?_;rintro k ⟨hk1,hk⟩;rcases Ah (decide ((i2:Int)<=(k:Int)))with g|g
  ·have hg:i2<=k:=by have:=AD g;omega
   obtain⟨q,rfl⟩:∃q,k=q+1:=⟨k-1,by omega⟩;rw[scanDown]at hk;have h1:=BI Ab (d:=u) (i:=q+1) (by omega);have h2:=BI Ab (d:=u) (i:=a) (by omega);have hl:=hcf (u[q+1]!) (u[a]!);(repeat refine WF ?_);refine JM ?_;refine Dv (h:=(hl ..)) (k:=?_);(iterate 3 refine RK ?_);refine RGo.nil (by kernel_rfl) ?_;(repeat refine WF ?_);refine AC rfl (λhd=>?_) (λhd=>?_)
   ·have hd:(!(AU cf) u[q+1]! u[a]!)=true:=by simpa[g,AU]using hd
    rw[AY (by rw[AF];exact⟨BG (by omega),hd⟩)]at hk
    (iterate 4 refine WK ?_);refine AI (BJ ((q:Int)) (by omega) (by omega) rfl rfl) rfl ?_;refine KK ?_
    exact BM q ⟨by omega,hk⟩
   ·have hd:(!(AU cf) u[q+1]! u[a]!)=false:=by simpa[g,AU]using hd
    rw[AM (λe=>by rw[AF]at e;have e2:=e.2;rw[hd]at e2;cases e2)]at hk;refine KK ?_;exact jn (q+1) hk
  ·have hg:¬i2<=k:=by have:=AG g;omega
   have hk3:scanDown (λx=>!(AU cf) x u[a]!) u i2 k=k:=by
    cases k with
    |zero=>rfl
    |succ q=>rw[scanDown,AM (λe=>by rw[AF]at e;have:=AD e.1;omega)]
   rw[hk3]at hk;(repeat refine WF ?_);refine RU ?_;(iterate 17 refine RK ?_);refine RGo.nil (by kernel_rfl) ?_;(repeat refine WF ?_);refine AB rfl (by simp[g]) ?_;refine KK ?_;exact jn k hk
 rintro k hk0;rw[hk0];clear hk0 k;refine KK ?_;refine AC rfl (λhc=>?_) (λhc=>?_)
 ·have h:i2>j2:=by have:=AD hc;omega
  rw[AY h]at hfold;subst hfold;have h1:=BI Ab (d:=u) (i:=j2) (by omega);have h2:=BI Ab (d:=u) (i:=a) (by omega);have hrow2:=C6 Ab (d:=u) (i:=j2) (j:=a) (by omega) (by omega);obtain⟨y,hy⟩:=Cc Ab (d:=u) (i:=j2) (j:=a) (by omega) u[a]!;(repeat refine WF ?_);refine RU ?_;(iterate 15 refine RK ?_);refine RGo.s (W.store rfl rfl (by exact As) hy (by exact rfl)) rfl ?_;refine RGo.nil (by kernel_rfl) ?_;refine JA ?_;exact Ends.sp [iA j2,bA false] [(X,_)] ⟨rfl,by rw[<-hrow2]⟩
 ·have h:¬i2>j2:=by have:=AG hc;omega
  rw[AM h]at hfold;have h1:=BI Ab (d:=u) (i:=i2) (by omega);have h2:=BI Ab (d:=u) (i:=j2) (by omega);obtain⟨y,hy⟩:=Cc Ab (d:=u) (i:=i2) (j:=j2) (by omega) u[j2]!;(repeat refine WF ?_);refine RU ?_;(iterate 15 refine RK ?_);refine RGo.s (W.store rfl rfl (by exact As) hy (by exact rfl)) rfl ?_;refine RGo.nil (by kernel_rfl) ?_
  (iterate 9 refine WK ?_);refine AI (BJ (((j2-1:Nat):Int)) (by omega) (by omega) rfl rfl) rfl ?_;refine KK ?_
  refine Dc (i2+1) (j2-1) (swp u i2 j2) ⟨by omega,by omega,by omega,by rw[size_swp];exact hu,hfold⟩ (h0:=by rw[<-C6 Ab (by omega) (by omega)];exact⟨by exact EF,by exact BH⟩)
end
section
open Go.Sort
theorem N3(lt:Mark->Mark->Bool)(d:Array Mark)(b i:Nat):i<=scanSorted lt d b i/\scanSorted lt d b i<=max i b:=by
 obtain⟨m,hm⟩:=nm (b-i)
 induction m generalizing i with
 |zero=>rw[scanSorted,AM (λe=>by rw[AF]at e;have:=AD e.1;omega)];omega
 |succ m ih=>
  rw[scanSorted];split
  ·have:=ih (i+1) (by omega)
   omega
  ·omega
theorem ZX(f:FuncId)(cap:List AV)(cf:Mark->Mark->Int)(hst:DH cap=true)(hcf:∀x y,PS prog f (Ab x::Ab y::cap) (iA (cf x y)))(X n:Nat)(d:Array Mark)(a b:Nat)(hn:n=d.size)(hab:a<b)(hb:b<=d.size)(hz:d.size<=1099511627776):PO prog 209 [.sl X 0 n,iA a,iA b,.fn f cap] X (.row 150 3 (d.toList.map Ab)) (bA (partialInsertionSort (AU cf) d a b).2) (.row 150 3 ((partialInsertionSort (AU cf) d a b).1.toList.map Ab)):=by
 obtain⟨r,hr⟩:=nm (partialInsertionSort (AU cf) d a b);rw[hr];unfold partialInsertionSort at hr;refine Sp (nt:=141) (res:=[.tmp 8]) func209 λSf=>?_
 (iterate 7 refine WK ?_);refine AI (Bw (((a+1:Nat):Int)) (by omega) (by omega) rfl rfl) rfl ?_;refine KK ?_
 refine Ev (λ(c i:Nat) (u:Array Mark)=>⟨[(0,.sl X 0 n),(1,iA a),(2,iA b),(3,.fn f cap),(9,iA i),(10,iA c)],(X,.row 150 3 (u.toList.map Ab))::Sf⟩) (λc i u=>c<=5/\a<i/\i<=b/\u.size=d.size/\partialIns (AU cf) a b (5-c) i u=r) (λc _ _=>5-c) 0 (a+1) d ⟨by omega,by omega,by omega,rfl,hr⟩ ?_;rintro c i u ⟨hc5,hai,hib,hu,hfold⟩;refine KK ?_;refine AC rfl (λhc=>?_) (λhc=>?_)
 ·have h:c<5:=by have:=AD hc;omega
  obtain⟨s,hs⟩:∃s,5-c=s+1:=⟨4-c,by omega⟩;rw[hs,partialIns_succ]at hfold;obtain⟨i2,hi2⟩:=nm (scanSorted (AU cf) u b i);rw[hi2]at hfold;have hrg:=N3 (AU cf) u b i;rw[hi2]at hrg
  (repeat (first|refine DN ?_|refine Ck ?_|refine C7 ?_))
  refine AWP.block ?_
  (repeat (first|refine DN ?_|refine Ck ?_|refine C7 ?_))
  refine Bz (λk:Nat=>k=i2) (λk=>⟨[(0,.sl X 0 n),(1,iA a),(2,iA b),(3,.fn f cap),(9,iA k),(10,iA c)],(X,.row 150 3 (u.toList.map Ab))::Sf⟩) ?_ ?_
  ·refine AWP.block ?_
   refine B8 (λ(k:Nat)=>⟨[(0,.sl X 0 n),(1,iA a),(2,iA b),(3,.fn f cap),(9,iA k),(10,iA c)],(X,.row 150 3 (u.toList.map Ab))::Sf⟩) (λk=>i<=k/\k<=b/\scanSorted (AU cf) u b k=i2) (λk=>b-k) i ⟨AP _,hib,hi2⟩ ?_;rintro k ⟨hk1,hk2,hk⟩;rw[scanSorted]at hk;rcases Ah (decide ((k:Int)<(b:Int)))with g|g
   ·have hg:k<b:=by have:=AD g;omega
    have h1:=BI Ab (d:=u) (i:=k) (by omega);have h2:=BI Ab (d:=u) (i:=k-1) (by omega);have hl:=hcf (u[k]!) (u[k-1]!);(repeat refine WF ?_);refine RU ?_;(iterate 11 refine RK ?_);refine BO ?_ (BJ (((k-1:Nat):Int)) (by omega) (by omega) rfl rfl);refine KR ?_;refine Dv (h:=(hl ..)) (k:=?_);(iterate 3 refine RK ?_);refine RGo.nil (by kernel_rfl) ?_;(repeat refine WF ?_);refine AC rfl (λhd=>?_) (λhd=>?_)
    ·have hd:(!(AU cf) u[k]! u[k-1]!)=true:=by simpa[g,AU]using hd
     rw[AY (by rw[AF];exact⟨BG (by omega),hd⟩)]at hk;refine KK ?_;exact BM (k+1) ⟨by omega,by omega,hk⟩
    ·have hd:(!(AU cf) u[k]! u[k-1]!)=false:=by simpa[g,AU]using hd
     rw[AM (λe=>by rw[AF]at e;have e2:=e.2;rw[hd]at e2;cases e2)]at hk;refine KK ?_;exact jn k hk
   ·have hg:¬k<b:=by have:=AG g;omega
    rw[AM (λe=>by rw[AF]at e;have:=AD e.1;omega)]at hk;(repeat refine WF ?_);refine RU ?_;(iterate 18 refine RK ?_);refine RGo.nil (by kernel_rfl) ?_;(repeat refine WF ?_);refine AB rfl (by simp[g]) ?_;refine KK ?_;exact jn k hk
  rintro k hk0;rw[hk0];clear hk0 k;refine KK ?_;refine AC rfl (λhd=>?_) (λhd=>?_)
  ·have hd:i2=b:=by have:=AD hd;omega
   rw[AY hd]at hfold;subst hfold;refine JA ?_;exact Ends.sp [bA true] [(X,_)] ⟨rfl,rfl⟩
  have hd:¬i2=b:=by have:=AG hd;omega
  rw[AM hd]at hfold
  (iterate 6 refine WK ?_);refine AI (BJ (((b-a:Nat):Int)) (by omega) (by omega) rfl rfl) rfl ?_;refine KK ?_
  refine AC rfl (λhe=>?_) (λhe=>?_)
  ·have he:b-a<50:=by have:=AD he;omega
   rw[AY he]at hfold;subst hfold;refine JA ?_;exact Ends.sp [bA false] [(X,_)] ⟨rfl,rfl⟩
  have he:¬b-a<50:=by have:=AG he;omega
  rw[AM he]at hfold;have h1:=BI Ab (d:=u) (i:=i2) (by omega);have h2:=BI Ab (d:=u) (i:=i2-1) (by omega);have hrow:=C6 Ab (d:=u) (i:=i2) (j:=i2-1) (by omega) (by omega);obtain⟨y,hy⟩:=Cc Ab (d:=u) (i:=i2) (j:=i2-1) (by omega) u[i2-1]!;have hvs:(swp u i2 (i2-1)).size=d.size:=by rw[size_swp];exact hu
  (repeat refine WF ?_);refine RU ?_;(iterate 4 refine RK ?_);refine BO ?_ (BJ (((i2-1:Nat):Int)) (by omega) (by omega) rfl rfl);refine JG ?_;refine BO ?_ (BJ (((i2-1:Nat):Int)) (by omega) (by omega) rfl rfl);(iterate 9 refine RK ?_);refine RGo.s (W.store rfl rfl (by exact As) hy (by exact rfl)) rfl ?_;refine RGo.nil (by kernel_rfl) ?_;obtain⟨v,hv⟩:=nm (swp u i2 (i2-1));rw[hv]at hrow hvs hfold;refine K4 [(0,.sl X 0 n),(1,iA a),(2,iA b),(3,.fn f cap),(9,iA i2),(10,iA c)] ((X,.row 150 3 (v.toList.map Ab))::Sf) ?_ (h:=by rw[<-hrow];exact⟨by exact EF,by exact BH⟩)
  (iterate 5 refine WK ?_);refine AI (BJ (((i2-a:Nat):Int)) (by omega) (by omega) rfl rfl) rfl ?_;refine KK ?_
  refine Bz (λw:Array Mark=>w.size=d.size/\w=fixDown (AU cf) a i2 v) (λw=>⟨[(0,.sl X 0 n),(1,iA a),(2,iA b),(3,.fn f cap),(9,iA i2),(10,iA c)],(X,.row 150 3 (w.toList.map Ab))::Sf⟩) ?_ ?_
  ·unfold fixDown
   refine AC rfl (λhf=>?_) (λhf=>?_)
   ·have hf:i2-a>=2:=by have:=AD hf;omega
    rw[AY hf]
    (iterate 3 refine WK ?_);refine AI (BJ (((i2-1:Nat):Int)) (by omega) (by omega) rfl rfl) rfl ?_;refine KK ?_
    refine Ca (λ(k:Nat) (w:Array Mark)=>⟨[(0,.sl X 0 n),(1,iA a),(2,iA b),(3,.fn f cap),(9,iA i2),(10,iA c),(11,iA k)],(X,.row 150 3 (w.toList.map Ab))::Sf⟩) (λk w=>k<b/\w.size=d.size/\shiftDown (AU cf) k w=shiftDown (AU cf) (i2-1) v) (λk _=>k) (i2-1) v ⟨by omega,hvs,rfl⟩ ?_;rintro k w ⟨hkb,hw,hk⟩;refine KK ?_;refine AC rfl (λhg=>?_) (λhg=>?_)
    ·obtain⟨q,rfl⟩:∃q,k=q+1:=⟨k-1,by have:=AD hg;omega⟩
     rw[shiftDown]at hk;have h1:=BI Ab (d:=w) (i:=q+1) (by omega);have h2:=BI Ab (d:=w) (i:=q) (by omega);have hl:=hcf (w[q+1]!) (w[q]!);(repeat refine WF ?_);refine RU ?_;(iterate 7 refine RK ?_);refine BO ?_ (BJ ((q:Int)) (by omega) (by omega) rfl rfl);refine KR ?_;refine Dv (h:=(hl ..)) (k:=?_);refine JG ?_;refine RGo.nil (by kernel_rfl) ?_;(repeat refine WF ?_);refine AC rfl (λhd=>?_) (λhd=>?_)
     ·have hd:(!(AU cf) w[q+1]! w[q]!)=true:=by simpa[AU]using hd
      rw[AY hd]at hk;refine KK ?_;exact jn w ⟨hw,hk⟩
     ·have hd:(!(AU cf) w[q+1]! w[q]!)=false:=by simpa[AU]using hd
      rw[AM (by rw[hd];simp)]at hk;clear y hy;obtain⟨y,hy⟩:=Cc Ab (d:=w) (i:=q+1) (j:=q) (by omega) w[q]!;(repeat refine WF ?_);refine RU ?_;(iterate 4 refine RK ?_);refine BO ?_ (BJ ((q:Int)) (by omega) (by omega) rfl rfl);refine JG ?_;refine BO ?_ (BJ ((q:Int)) (by omega) (by omega) rfl rfl);(iterate 9 refine RK ?_);refine RGo.s (W.store rfl rfl (by exact As) hy (by exact rfl)) rfl ?_;refine RGo.nil (by kernel_rfl) ?_
      (iterate 4 refine WK ?_);refine AI (BJ ((q:Int)) (by omega) (by omega) rfl rfl) rfl ?_;refine KK ?_
      refine Bn q (swp w (q+1) q) ⟨by omega,by rw[size_swp];exact hw,hk⟩ (h0:=by rw[<-C6 Ab (by omega) (by omega)];exact⟨by exact EF,by exact BH⟩)
    ·obtain rfl:k=0:=by have:=AG hg;omega
     rw[shiftDown]at hk;refine KK ?_;exact jn w ⟨hw,hk⟩
   ·have hf:¬i2-a>=2:=by have:=AG hf;omega
    rw[AM hf];refine WK ?_;exact jn v ⟨hvs,rfl⟩
  rintro w ⟨hws,hw0⟩;rw[<-hw0]at hfold;clear hw0 hrow y hy h1 h2
  (iterate 4 refine WK ?_);refine AI (BJ (((b-i2:Nat):Int)) (by omega) (by omega) rfl rfl) rfl ?_;refine KK ?_
  refine R9 (λz:Array Mark=>z.size=d.size/\z=fixUp (AU cf) b i2 w) (λz=>⟨[(0,.sl X 0 n),(1,iA a),(2,iA b),(3,.fn f cap),(9,iA i2),(10,iA c)],(X,.row 150 3 (z.toList.map Ab))::Sf⟩) ?_ ?_
  ·unfold fixUp
   refine AC rfl (λhf=>?_) (λhf=>?_)
   ·have hf:b-i2>=2:=by have:=AD hf;omega
    rw[AY hf]
    (iterate 3 refine WK ?_);refine AI (Bw (((i2+1:Nat):Int)) (by omega) (by omega) rfl rfl) rfl ?_;refine KK ?_
    refine Ca (λ(k:Nat) (z:Array Mark)=>⟨[(0,.sl X 0 n),(1,iA a),(2,iA b),(3,.fn f cap),(9,iA i2),(10,iA c),(12,iA k)],(X,.row 150 3 (z.toList.map Ab))::Sf⟩) (λk z=>i2<k/\k<=b/\z.size=d.size/\shiftUp (AU cf) b k z=shiftUp (AU cf) b (i2+1) w) (λk _=>b-k) (i2+1) w ⟨by omega,by omega,hws,rfl⟩ ?_;rintro k z ⟨hik,hkb,hz1,hk⟩;rw[shiftUp]at hk;refine KK ?_;refine AC rfl (λhg=>?_) (λhg=>?_)
    ·have hg:k<b:=by have:=AD hg;omega
     rw[AY hg]at hk;have h1:=BI Ab (d:=z) (i:=k) (by omega);have h2:=BI Ab (d:=z) (i:=k-1) (by omega);have hl:=hcf (z[k]!) (z[k-1]!);(repeat refine WF ?_);refine RU ?_;(iterate 7 refine RK ?_);refine BO ?_ (BJ (((k-1:Nat):Int)) (by omega) (by omega) rfl rfl);refine KR ?_;refine Dv (h:=(hl ..)) (k:=?_);refine JG ?_;refine RGo.nil (by kernel_rfl) ?_;(repeat refine WF ?_);refine AC rfl (λhd=>?_) (λhd=>?_)
     ·have hd:(!(AU cf) z[k]! z[k-1]!)=true:=by simpa[AU]using hd
      rw[AY hd]at hk;refine KK ?_;exact jn z ⟨hz1,hk⟩
     ·have hd:(!(AU cf) z[k]! z[k-1]!)=false:=by simpa[AU]using hd
      rw[AM (by rw[hd];simp)]at hk;obtain⟨y,hy⟩:=Cc Ab (d:=z) (i:=k) (j:=k-1) (by omega) z[k-1]!;(repeat refine WF ?_);refine RU ?_;(iterate 4 refine RK ?_);refine BO ?_ (BJ (((k-1:Nat):Int)) (by omega) (by omega) rfl rfl);refine JG ?_;refine BO ?_ (BJ (((k-1:Nat):Int)) (by omega) (by omega) rfl rfl);(iterate 9 refine RK ?_);refine RGo.s (W.store rfl rfl (by exact As) hy (by exact rfl)) rfl ?_;refine RGo.nil (by kernel_rfl) ?_;refine KK ?_;refine Bn (k+1) (swp z k (k-1)) ⟨by omega,by omega,by rw[size_swp];exact hz1,hk⟩ (h0:=by rw[<-C6 Ab (by omega) (by omega)];exact⟨by exact EF,by exact BH⟩)
    ·have hg:¬k<b:=by have:=AG hg;omega
     rw[AM hg]at hk;refine KK ?_;exact jn z ⟨hz1,hk⟩
   ·have hf:¬b-i2>=2:=by have:=AG hf;omega
    rw[AM hf];refine WK ?_;exact jn w ⟨hws,rfl⟩
  rintro z ⟨hzs,hz0⟩;rw[<-hz0]at hfold;refine KK ?_;refine Dc (c+1) i2 z ⟨by omega,by omega,by omega,hzs,by rw[show 5-(c+1)=s by omega];exact hfold⟩
 ·have h:c=5:=by have:=AG hc;omega
  subst h;rw[show 5-5=0 from rfl,partialIns]at hfold;subst hfold;refine JA ?_;exact Ends.sp [bA false] [(X,_)] ⟨rfl,rfl⟩
end
section
open Go.Sort
theorem dS{f:FuncId}{cap:List AV}(X n:Nat)(d:Array Mark)(a b:Nat)(hn:n=d.size)(hab:a<=b)(hb:b<=d.size)(hz:d.size<65536):Spec prog 206 [.sl X 0 n,iA a,iA b,.fn f cap] [(X,.row 150 3 (d.toList.map Ab))] λr S'=>∃u:Array Mark,PermIn a b d u/\r= .tup []/\S'=[(X,.row 150 3 (u.toList.map Ab))]:=by
 obtain⟨l,hl⟩:=nm (b-a);refine Sp (nt:=67) (res:=[]) func206 λSf=>?_
 (iterate 4 refine WK ?_);refine AI (BJ ((l:Int)) (by omega) (by omega) rfl rfl) rfl ?_;refine KK ?_
 refine AC rfl (λh8=>?_) (λh8=>?_)
 ·have h8:8<=l:=by have:=AD h8;omega
  have hnp:=O8 l (by omega);have hbl:bitsLen l<=16:=(bitsLen_le_iff l 16).2 (by omega);have hm2:=two_pow_bitsLen_le (n:=l) (by omega);obtain⟨m,hm⟩:∃m,(1:UInt64)<<<UInt64.ofNat (bitsLen l)=m:=⟨_,rfl⟩
  have hmn:m.toNat=2^bitsLen l:=by
   have:2^bitsLen l<=2^16:=R3 (by decide) hbl;rw[<-hm,JR,CO,show bitsLen l%2^64%64=bitsLen l by omega,OG,show(1:UInt64).toNat=1 from rfl];omega
  rw[hm]at hnp;have hp1:1<=2^bitsLen l:=Nat.one_le_two_pow;(repeat first|(refine Bk ?_;first|(refine Bc ?_;first|refine BU (h:=(hnp ..)) (k:=?_))|refine AI (Ig .i64 l rfl (by omega) (by kernel_rfl) (by kernel_rfl) rfl) rfl ?_|refine AI (JQ l 4 (l/4) rfl rfl (by omega) rfl (by omega) rfl rfl) rfl ?_|refine AI (Hw ((l/4*2:Nat):Int) (by omega) (by omega) rfl rfl) rfl ?_|refine AI (Bw (((a+l/4*2:Nat):Int)) (by omega) (by omega) rfl rfl) rfl ?_|refine AI (BJ (((a+l/4*2-1:Nat):Int)) (by omega) (by omega) rfl rfl) rfl ?_)|refine WK ?_|refine Ai λV=>?_|refine Ay λY=>?_);refine Ev (λ(k:Nat) (s:UInt64) (u:Array Mark)=>⟨[(0,.sl X 0 n),(1,iA a),(3,.fn f cap),(8,iA l),(9,.ptr V 0 0),(10,uA m),(11,iA k)],(V,.row 331 1 [uA s])::(X,.row 150 3 (u.toList.map Ab))::Sf⟩) (λk s u=>a<=k/\k<=a+l/4*2+2/\PermIn a b d u) (λk _ _=>a+l/4*2+2-k) (a+l/4*2-1) (UInt64.ofNat l) d ⟨by omega,by omega,permIn_refl _ _ _⟩ ?_;rintro k s u ⟨hak,hkl,hP⟩;have hu:u.size=d.size:=hP.1;(repeat first|(refine Bk ?_;first|refine AI (JQ l 4 (l/4) rfl rfl (by omega) rfl (by omega) rfl rfl) rfl ?_|refine AI (Hw ((l/4*2:Nat):Int) (by omega) (by omega) rfl rfl) rfl ?_|refine AI (Bw (((a+l/4*2:Nat):Int)) (by omega) (by omega) rfl rfl) rfl ?_|refine AI (Bw (((a+l/4*2+1:Nat):Int)) (by omega) (by omega) rfl rfl) rfl ?_)|refine WK ?_|refine Ai λX=>?_|refine Ay λY=>?_);refine AC rfl (λhc=>?_) (λhc=>?_)
  ·have hk1:k<=a+l/4*2+1:=by have:=AD hc;omega
   have hkb:k<b:=by omega
   refine DN ?_;refine Ck ?_;refine C7 ?_;refine AWP.block ?_;refine C7 ?_;refine RG ?_;refine Ur (OZ V s) λv _=>?_;refine WO ?_
   have hvb:(v&&&(m-1)).toNat<2*l:=by
    rw[Yz,UInt64.toNat_sub_of_le _ _ (by rw[Gf,hmn];exact hp1),hmn];have:=Nat.and_le_right (n:=v.toNat) (m:=2^bitsLen l-(1:UInt64).toNat);have e:(1:UInt64).toNat=1:=rfl;omega
   refine AI (JO (b:=1) rfl rfl) rfl ?_;refine AI (MI rfl rfl) rfl ?_;refine AI (S3 .u64 (by omega) (by kernel_rfl) (by kernel_rfl) rfl) rfl ?_;refine WO ?_;refine AOps.nil ?_
   (repeat (first|refine DN ?_|refine Ck ?_|refine C7 ?_))
   obtain⟨o,ho⟩:=nm ((v&&&(m-1)).toNat);refine K4 [(0,.sl X 0 n),(1,iA a),(3,.fn f cap),(8,iA l),(9,.ptr V 0 0),(10,uA m),(11,iA k),(12,iA o)] ((V,.row 331 1 [uA v])::(X,.row 150 3 (u.toList.map Ab))::Sf) ?_ (h:=by rw[<-ho];exact⟨by exact EF,by exact BH⟩);rw[ho]at hvb;refine KK ?_;refine Bz (λo:Nat=>o<l) (λo=>⟨[(0,.sl X 0 n),(1,iA a),(3,.fn f cap),(8,iA l),(9,.ptr V 0 0),(10,uA m),(11,iA k),(12,iA o)],(V,.row 331 1 [uA v])::(X,.row 150 3 (u.toList.map Ab))::Sf⟩) ?_ ?_
   ·refine AC rfl (λhd=>?_) (λhd=>?_)
    ·have hd:l<=o:=by have:=AD hd;omega
     (iterate 3 refine WK ?_);refine AI (BJ (((o-l:Nat):Int)) (by omega) (by omega) rfl rfl) rfl ?_;refine KK ?_
     exact jn (o-l) (by omega)
    ·have hd:¬l<=o:=by have:=AG hd;omega
     refine WK ?_;exact jn o (by omega)
   rintro o hol;have h1:=BI Ab (d:=u) (i:=k) (by omega);have h2:=BI Ab (d:=u) (i:=a+o) (by omega);obtain⟨y,hy⟩:=Cc Ab (d:=u) (i:=k) (j:=a+o) (by omega) u[a+o]!;(repeat refine WF ?_);refine RU ?_;(iterate 5 refine RK ?_);refine BO ?_ (Bw (((a+o:Nat):Int)) (by omega) (by omega) rfl rfl);(iterate 3 refine RK ?_);refine BO ?_ (Bw (((a+o:Nat):Int)) (by omega) (by omega) rfl rfl);(iterate 9 refine RK ?_);refine RGo.s (W.store rfl rfl (by exact As) hy (by exact rfl)) rfl ?_;refine RGo.nil (by kernel_rfl) ?_;refine KK ?_;refine Dc (k+1) v (swp u k (a+o)) ⟨by omega,by omega,permIn_trans _ _ _ _ _ hP (swp_permIn _ _ _ _ _ (by omega) (by omega) (by omega) (by omega) (by omega))⟩ (h0:=by rw[<-C6 Ab (by omega) (by omega)];exact⟨by exact EF,by exact BH⟩)
  ·refine KK ?_
   refine Eb ?_;exact B4 [(X,.row 150 3 (u.toList.map Ab))] ⟨u,hP,rfl,rfl⟩
 ·refine WK ?_
  refine Eb ?_;exact B4 [(X,.row 150 3 (d.toList.map Ab))] ⟨d,permIn_refl _ _ _,rfl,rfl⟩
end
section
open Go.Sort
theorem Ly(f:FuncId)(cap:List AV)(cf:Mark->Mark->Int)(hst:DH cap=true)(hcf:∀x y,PS prog f (Ab x::Ab y::cap) (iA (cf x y)))(X Y n:Nat)(d:Array Mark)(a b s:Nat)(hn:n=d.size)(ha:a<d.size)(hb:b<d.size)(hs:s<=1099511627776):Spec prog 264 [.sl X 0 n,iA a,iA b,.ptr Y 0 0,.fn f cap] [(X,.row 150 3 (d.toList.map Ab)),(Y,.row 3 1 [iA s])] λr S'=>r= .tup [iA (order2 (AU cf) d a b s).1,iA (order2 (AU cf) d a b s).2.1]/\S'=[(X,.row 150 3 (d.toList.map Ab)),(Y,.row 3 1 [iA (order2 (AU cf) d a b s).2.2])]:=by
 subst hn;have h1:=BI Ab ha;have h2:=BI Ab hb;have hl:=hcf (d[b]!) (d[a]!);refine Sp (nt:=32) (res:=[.tmp 10,.tmp 11]) func264 λSf=>?_
 unfold order2;refine R1 ?_;refine JM ?_;refine Dv (h:=(hl ..)) (k:=?_);refine RK ?_;refine RGo.nil (by kernel_rfl) ?_;(repeat refine WF ?_);refine AC rfl (λhc=>?_) (λhc=>?_)
 ·have hc:(AU cf) d[b]! d[a]! =true:=by simpa[AU]using hc
  rw[AY hc];refine JA ?_;exact Ends.sp [iA b,iA a] [(X,_),(Y,_)] ⟨rfl,rfl⟩
 ·have hc:(AU cf) d[b]! d[a]! =false:=by simpa[AU]using hc
  rw[AM (by simp[hc])];refine JA ?_;exact Ends.sp [iA a,iA b] [(X,_),(Y,_)] ⟨rfl,rfl⟩
theorem PB(f:FuncId)(cap:List AV)(cf:Mark->Mark->Int)(hst:DH cap=true)(hcf:∀x y,PS prog f (Ab x::Ab y::cap) (iA (cf x y)))(X Y n:Nat)(d:Array Mark)(a b c s:Nat)(hn:n=d.size)(ha:a<d.size)(hb:b<d.size)(hc:c<d.size)(hs:s<=1099511627000):Spec prog 249 [.sl X 0 n,iA a,iA b,iA c,.ptr Y 0 0,.fn f cap] [(X,.row 150 3 (d.toList.map Ab)),(Y,.row 3 1 [iA s])] λr S'=>r=iA (median (AU cf) d a b c s).1/\S'=[(X,.row 150 3 (d.toList.map Ab)),(Y,.row 3 1 [iA (median (AU cf) d a b c s).2])]:=by
 obtain⟨m,hm⟩:=nm (median (AU cf) d a b c s);rw[hm];unfold median at hm;have l1:=IN (AU cf) d a b s _ ha hb;have e1:=HH (AU cf) d a b s;have h1:=Ly f cap cf hst hcf X Y n d a b s hn ha hb (by omega);obtain⟨⟨a1,b1,s1⟩,hr1⟩:=nm (order2 (AU cf) d a b s);rw[hr1]at h1 hm l1 e1;dsimp only at h1 hm l1 e1;have l2:=IN (AU cf) d b1 c s1 _ l1.2 hc;have e2:=HH (AU cf) d b1 c s1;have h2:=Ly f cap cf hst hcf X Y n d b1 c s1 hn l1.2 hc (by omega);obtain⟨⟨b2,c2,s2⟩,hr2⟩:=nm (order2 (AU cf) d b1 c s1);rw[hr2]at h2 hm l2 e2;dsimp only at h2 hm l2 e2;have l3:=IN (AU cf) d a1 b2 s2 _ l1.1 l2.1;have h3:=Ly f cap cf hst hcf X Y n d a1 b2 s2 hn l1.1 l2.1 (by omega);obtain⟨⟨a3,b3,s3⟩,hr3⟩:=nm (order2 (AU cf) d a1 b2 s2);rw[hr3]at h3 hm l3;dsimp only at h3 hm l3;subst hm;refine Sp (nt:=41) (res:=[.tmp 12]) func249 λSf=>?_
 refine KK ?_;refine LQ h1 .fz ?_;refine KK ?_;refine LQ h2 .fz ?_;refine KK ?_;refine LQ h3 .fz ?_;refine JA ?_;exact Ends.sp [iA b3] [(X,_),(Y,_)] ⟨rfl,rfl⟩
theorem L3(f:FuncId)(cap:List AV)(cf:Mark->Mark->Int)(hst:DH cap=true)(hcf:∀x y,PS prog f (Ab x::Ab y::cap) (iA (cf x y)))(X Y n:Nat)(d:Array Mark)(a s:Nat)(hn:n=d.size)(ha:a+1<d.size)(h0:0<a)(hz:d.size<=1099511627776)(hs:s<=1099511627000):Spec prog 248 [.sl X 0 n,iA a,.ptr Y 0 0,.fn f cap] [(X,.row 150 3 (d.toList.map Ab)),(Y,.row 3 1 [iA s])] λr S'=>r=iA (medianAdjacent (AU cf) d a s).1/\S'=[(X,.row 150 3 (d.toList.map Ab)),(Y,.row 3 1 [iA (medianAdjacent (AU cf) d a s).2])]:=by
 have h1:=PB f cap cf hst hcf X Y n d (a-1) a (a+1) s hn (by omega) (by omega) ha hs;unfold medianAdjacent;refine Sp (nt:=18) (res:=[.tmp 8]) func248 λSf=>?_
 (iterate 8 refine WK ?_);refine AI (BJ ((a-1:Nat):Int) (by omega) (by omega) rfl rfl) rfl ?_;refine WK ?_;refine WK ?_;refine AI (Bw ((a+1:Nat):Int) (by omega) (by omega) rfl rfl) rfl ?_;refine KK ?_;refine OY h1 .fz ?_;refine KK ?_
 refine RT ?_;exact Ends.sp [iA _] [(X,_),(Y,_)] ⟨rfl,rfl⟩
theorem OF(f:FuncId)(cap:List AV)(cf:Mark->Mark->Int)(hst:DH cap=true)(hcf:∀x y,PS prog f (Ab x::Ab y::cap) (iA (cf x y)))(X n:Nat)(d:Array Mark)(a b:Nat)(hn:n=d.size)(hab:a<b)(hb:b<=d.size)(hz:d.size<=1099511627776):PO prog 207 [.sl X 0 n,iA a,iA b,.fn f cap] X (.row 150 3 (d.toList.map Ab)) (.tup [iA (choosePivot (AU cf) d a b).1,iA (Wx (choosePivot (AU cf) d a b).2)]) (.row 150 3 (d.toList.map Ab)):=by
 obtain⟨c,hc⟩:=nm (choosePivot (AU cf) d a b);rw[hc];unfold choosePivot at hc;obtain⟨l,hl⟩:=nm (b-a);obtain⟨i,hi⟩:=nm (a+l/4*1);obtain⟨j,hj⟩:=nm (a+l/4*2);obtain⟨k,hk⟩:=nm (a+l/4*3);rw[hl]at hc;dsimp only at hc;rw[hi,hj,hk]at hc;refine Sp (nt:=63) (res:=[.tmp 8,.tmp 9]) func207 λSf=>?_
 have hlb:l<=1099511627776:=by omega
 (repeat first|(refine Bk ?_;first|refine AI (BJ (l:Int) (by omega) (by omega) rfl rfl) rfl ?_|refine AI (JQ l 4 (l/4) rfl rfl (by omega) rfl (by omega) rfl rfl) rfl ?_|refine AI (Hw ((l/4*1:Nat):Int) (by omega) (by omega) rfl rfl) rfl ?_|refine AI (Hw ((l/4*2:Nat):Int) (by omega) (by omega) rfl rfl) rfl ?_|refine AI (Hw ((l/4*3:Nat):Int) (by omega) (by omega) rfl rfl) rfl ?_|refine AI (Bw (i:Int) (by omega) (by omega) rfl rfl) rfl ?_|refine AI (Bw (j:Int) (by omega) (by omega) rfl rfl) rfl ?_|refine AI (Bw (k:Int) (by omega) (by omega) rfl rfl) rfl ?_)|refine WK ?_|refine Ai λV=>?_|refine Ay λY=>?_);refine Bz (λb:Nat×Nat=>c=(b.1,if b.2=0 then Hint.increasing else if b.2=12 then Hint.decreasing else Hint.unknown)) (λb=>⟨[(0,.sl X 0 n),(3,.fn f cap),(11,.ptr V 0 0),(13,iA b.1)],(V,.row 3 1 [iA b.2])::(X,.row 150 3 (d.toList.map Ab))::Sf⟩) ?_ ?_
 ·refine AC rfl (λh8=>?_) (λh8=>?_)
  ·have h8:l>=8:=by have:=AD h8;omega
   rw[AY h8]at hc;refine KK ?_;refine Bz (λb:Nat×Nat×Nat×Nat=>b.1<d.size/\b.2.1<d.size/\b.2.2.1<d.size/\b.2.2.2<=100/\(if l>=50 then median (AU cf) d (medianAdjacent (AU cf) d i 0).1 (medianAdjacent (AU cf) d j (medianAdjacent (AU cf) d i 0).2).1 (medianAdjacent (AU cf) d k (medianAdjacent (AU cf) d j (medianAdjacent (AU cf) d i 0).2).2).1 (medianAdjacent (AU cf) d k (medianAdjacent (AU cf) d j (medianAdjacent (AU cf) d i 0).2).2).2 else median (AU cf) d i j k 0)=median (AU cf) d b.1 b.2.1 b.2.2.1 b.2.2.2) (λb=>⟨[(0,.sl X 0 n),(3,.fn f cap),(11,.ptr V 0 0),(12,iA b.1),(13,iA b.2.1),(14,iA b.2.2.1)],(V,.row 3 1 [iA b.2.2.2])::(X,.row 150 3 (d.toList.map Ab))::Sf⟩) ?_ ?_
   ·refine AC rfl (λh50=>?_) (λh50=>?_)
    ·have h50:l>=50:=by have:=AD h50;omega
     have a1:=IQ (AU cf) d i 0 _ (show i+1<d.size by omega);have b1:=IP (AU cf) d (i-1) i (i+1) 0;have s1:=L3 f cap cf hst hcf X V n d i 0 hn (by omega) (by omega) hz (by omega);rw[AY h50];have e1:(median (AU cf) d (i-1) i (i+1) 0).2=(medianAdjacent (AU cf) d i 0).2:=rfl;rw[e1]at b1;obtain⟨⟨p1,q1⟩,r1⟩:=nm (medianAdjacent (AU cf) d i 0);rw[r1]at a1 b1 s1⊢;dsimp only at a1 b1 s1⊢;have a2:=IQ (AU cf) d j q1 _ (show j+1<d.size by omega);have b2:=IP (AU cf) d (j-1) j (j+1) q1;have s2:=L3 f cap cf hst hcf X V n d j q1 hn (by omega) (by omega) hz (by omega);have e2:(median (AU cf) d (j-1) j (j+1) q1).2=(medianAdjacent (AU cf) d j q1).2:=rfl;rw[e2]at b2;obtain⟨⟨p2,q2⟩,r2⟩:=nm (medianAdjacent (AU cf) d j q1);rw[r2]at a2 b2 s2⊢;dsimp only at a2 b2 s2⊢;have a3:=IQ (AU cf) d k q2 _ (show k+1<d.size by omega);have b3:=IP (AU cf) d (k-1) k (k+1) q2;have s3:=L3 f cap cf hst hcf X V n d k q2 hn (by omega) (by omega) hz (by omega);have e3:(median (AU cf) d (k-1) k (k+1) q2).2=(medianAdjacent (AU cf) d k q2).2:=rfl;rw[e3]at b3;obtain⟨⟨p3,q3⟩,r3⟩:=nm (medianAdjacent (AU cf) d k q2);rw[r3]at a3 b3 s3⊢;dsimp only at a3 b3 s3⊢;refine KK ?_;refine KM s1 .fz ?_;refine KK ?_;refine KM s2 .fz ?_;refine KK ?_;refine KM s3 .fz ?_;refine KK ?_;refine jn (p1,p2,p3,q3) ⟨a1,a2,a3,by dsimp only;omega,rfl⟩
    ·have h50:¬l>=50:=by have:=AG h50;omega
     rw[AM h50];refine WK ?_;refine jn (i,j,k,0) ⟨by dsimp only;omega,by dsimp only;omega,by dsimp only;omega,by dsimp only;omega,rfl⟩
   ·rintro⟨p1,p2,p3,q⟩ ⟨l1,l2,l3,lq,e⟩
    dsimp only at l1 l2 l3 lq e⊢;rw[e]at hc;have h1:=PB f cap cf hst hcf X V n d p1 p2 p3 q hn l1 l2 l3 (by omega);obtain⟨⟨r1,r2⟩,hr⟩:=nm (median (AU cf) d p1 p2 p3 q);rw[hr]at hc h1;dsimp only at h1;refine KK ?_;refine OY h1 .fz ?_;refine KK ?_;refine jn (r1,r2) hc.symm
  ·have h8:¬l>=8:=by have:=AG h8;omega
   rw[AM h8]at hc;refine WK ?_;refine jn (j,0) hc.symm
 ·rintro⟨p,s⟩ hc
  dsimp only at hc⊢;subst hc;refine KK ?_;refine AC rfl (λh0=>?_) (λh0=>?_)
  ·have h0:s=0:=by have:=AD h0;omega
   rw[AY h0];refine JA ?_;exact Ends.sp [iA p,iA 1] [(X,_)] ⟨rfl,rfl⟩
  ·have h0:¬s=0:=by have:=AG h0;omega
   rw[AM h0];refine KK ?_;refine AC rfl (λh1=>?_) (λh1=>?_)
   ·have h1:s=12:=by have:=AD h1;omega
    rw[AY h1];refine JA ?_;exact Ends.sp [iA p,iA 2] [(X,_)] ⟨rfl,rfl⟩
   ·have h1:¬s=12:=by have:=AG h1;omega
    rw[AM h1];refine JA ?_;exact Ends.sp [iA p,iA 0] [(X,_)] ⟨rfl,rfl⟩
end
section
open Go.Sort
theorem cX(f:FuncId)(cap:List AV)(cf:Mark->Mark->Int)(hst:DH cap=true)(hcf:∀x y,PS prog f (Ab x::Ab y::cap) (iA (cf x y)))(hS:SWO (AU cf)):∀(m X n:Nat) (d:Array Mark) (a b limit:Nat),b-a<=m->n=d.size->a<=b->b<=d.size->d.size<65536->limit<=1000->Below (AU cf) a b d->Spec prog 145 [.sl X 0 n,iA a,iA b,iA limit,.fn f cap] [(X,.row 150 3 (d.toList.map Ab))] λr S'=>∃u:Array Mark,(PermIn a b d u/\SortedIn (AU cf) a b u)/\r= .tup []/\S'=[(X,.row 150 3 (u.toList.map Ab))]:=by
 intro m
 induction m using Nat.strongRecOn with
 |_ m ih=>
 intro X n d a b limit hm hn hab hb hz hlim hB;refine Sp (nt:=148) (res:=[]) func145 λSf=>?_
 refine KK ?_;refine XF (λ(a b limit:Nat) (wb wp:Bool) (u:Array Mark)=>⟨[(0,.sl X 0 n),(1,iA a),(2,iA b),(3,iA limit),(4,.fn f cap),(10,bA wb),(11,bA wp)],(X,.row 150 3 (u.toList.map Ab))::Sf⟩) (λa' b' limit wb wp u=>a' <=b' /\b' <=d.size/\b'-a' <=b-a/\limit<=1000/\u.size=d.size/\Below (AU cf) a' b' u/\∀R,PermIn a' b' u R->SortedIn (AU cf) a' b' R->PermIn a b d R/\SortedIn (AU cf) a b R) (λa b _ _ _ _=>b-a) a b limit true true d ⟨hab,hb,AP _,hlim,rfl,hB,λR h1 h2=>⟨h1,h2⟩⟩ ?_;rintro a' b' limit wb wp u ⟨hab',hb',hmm,hlim,hu,hB',hG⟩;obtain⟨l,hl⟩:=nm (b'-a');refine AWP.block ?_
 (iterate 4 refine WK ?_);refine AI (BJ ((l:Int)) (by omega) (by omega) rfl rfl) rfl ?_;refine KK ?_
 refine AC rfl (λhc=>?_) (λhc=>?_)
 ·have hs:=cx f cap cf hst hcf X n u a' b' (by omega) hab' (by omega) (by omega)
  obtain⟨p1,p2⟩:=insertionSort_holds (lt:=(AU cf)) hS u a' b' hab' (by omega);refine KK ?_;refine AOps.o4 (h:=(hs ..)) (k:=?_);refine JA ?_;exact B4 [(X,_)] ⟨_,hG _ p1 p2,rfl,rfl⟩
 have hl12:12<l:=by have:=AG hc;omega
 refine KK ?_;refine AC rfl (λhc=>?_) (λhc=>?_)
 ·have hs:=aN f cap cf hst hcf X n u a' b' (by omega) (by omega) (by omega) (by omega)
  obtain⟨p1,p2⟩:=heapSort_holds (lt:=(AU cf)) hS u a' b' hab' (by omega);refine KK ?_;refine AOps.o4 (h:=(hs ..)) (k:=?_);refine JA ?_;exact B4 [(X,_)] ⟨_,hG _ p1 p2,rfl,rfl⟩
 have hl0:0<limit:=by have:=AG hc;omega
 refine KK ?_;refine Bz (λb:Nat×Array Mark=>b.1<=1000/\PermIn a' b' u b.2) (λb=>⟨[(0,.sl X 0 n),(1,iA a'),(2,iA b'),(3,iA b.1),(4,.fn f cap),(10,bA wb),(11,bA wp),(12,iA l)],(X,.row 150 3 (b.2.toList.map Ab))::Sf⟩) ?_ ?_
 ·refine AC rfl (λhd=>?_) (λhd=>?_)
  ·have hs:=dS (f:=f) (cap:=cap) X n u a' b' (by omega) hab' (by omega) (by omega)
   refine KK ?_;refine Uq hs λv hv=>?_;(iterate 4 refine WK ?_);refine AI (BJ (((limit-1:Nat):Int)) (by omega) (by omega) rfl rfl) rfl ?_;refine KK ?_;exact jn (limit-1,v) ⟨by dsimp only;omega,hv⟩
  ·refine WK ?_
   exact jn (limit,u) ⟨hlim,permIn_refl _ _ _⟩
 rintro⟨lim1,u1⟩ ⟨hlim1,hP1⟩;dsimp only at hlim1 hP1⊢;have hu1:u1.size=d.size:=hP1.1.trans hu;have hpv:=OF f cap cf hst hcf X n u1 a' b' (by omega) (by omega) (by omega) (by omega);obtain⟨c1,c2⟩:=choosePivot_holds (AU cf) u1 a' b' (by omega);obtain⟨⟨p,h⟩,hp⟩:=nm (choosePivot (AU cf) u1 a' b');rw[hp]at hpv c1 c2;dsimp only at hpv c1 c2;obtain⟨hnum,hhn⟩:=nm (Wx h);rw[hhn]at hpv;refine KK ?_;refine AOps.o4 (h:=(hpv ..)) (k:=?_);refine KK ?_;refine Bz (λb:Nat×Int×Array Mark=>a' <=b.1/\b.1<b' /\PermIn a' b' u b.2.2) (λb=>⟨[(0,.sl X 0 n),(1,iA a'),(2,iA b'),(3,iA lim1),(4,.fn f cap),(10,bA wb),(11,bA wp),(12,iA l),(13,iA b.1),(14,iA b.2.1)],(X,.row 150 3 (b.2.2.toList.map Ab))::Sf⟩) ?_ ?_
 ·refine AC rfl (λhd=>?_) (λhd=>?_)
  ·have hs:=cO (f:=f) (cap:=cap) X n u1 a' b' (by omega) (by omega) (by omega) (by omega)
   have hrp:=reverseRange_holds u1 a' b' hab' (by omega);(repeat first|(refine Bk ?_;first|(refine Bc ?_;first|refine AOps.o4 (h:=(hs ..)) (k:=?_))|refine AI (BJ (((b'-1:Nat):Int)) (by omega) (by omega) rfl rfl) rfl ?_|refine AI (BJ (((p-a':Nat):Int)) (by omega) (by omega) rfl rfl) rfl ?_|refine AI (BJ (((b'-1-(p-a'):Nat):Int)) (by omega) (by omega) rfl rfl) rfl ?_)|refine WK ?_|refine Ai λX=>?_|refine Ay λY=>?_);exact jn (b'-1-(p-a'),1,_) ⟨by dsimp only;omega,by dsimp only;omega,permIn_trans _ _ _ _ _ hP1 hrp⟩
  ·refine WK ?_
   exact jn (p,hnum,u1) ⟨c1,c2,hP1⟩
 rintro⟨pv,hn2,u2⟩ ⟨c3,c4,hP2⟩;dsimp only at c3 c4 hP2⊢;have hu2:u2.size=d.size:=hP2.1.trans hu;have hB2:=hB'.perm (by omega) hP2;clear hpv hp hhn c1 c2 p h hnum;refine C7 ?_;refine J0 (λv:Array Mark=>PermIn a' b' u v) (λv=>⟨[(0,.sl X 0 n),(1,iA a'),(2,iA b'),(3,iA lim1),(4,.fn f cap),(10,bA wb),(11,bA wp),(12,iA l),(13,iA pv)],(X,.row 150 3 (v.toList.map Ab))::Sf⟩) ?_ ?_
 ·refine KK ?_
  refine AC rfl (λ_=>?_) (λ_=>?_)
  ·have hs:=ZX f cap cf hst hcf X n u2 a' b' (by omega) (by omega) (by omega) (by omega)
   have hpi:=partialInsertionSort_holds (lt:=(AU cf)) hS u2 a' b' (by omega) (by omega) hB2;obtain⟨⟨v,fl⟩,hv⟩:=nm (partialInsertionSort (AU cf) u2 a' b');rw[hv]at hs hpi;dsimp only at hs hpi;refine KK ?_;refine AOps.o4 (h:=(hs ..)) (k:=?_);refine KK ?_;refine AC rfl (λhe=>?_) (λhe=>?_)
   ·refine RT ?_
    exact B4 [(X,_)] ⟨v,hG v (permIn_trans _ _ _ _ _ hP2 hpi.1) (hpi.2 he),rfl,rfl⟩
   ·refine KK ?_
    exact jnR v (permIn_trans _ _ _ _ _ hP2 hpi.1)
  ·refine KK ?_
   exact jnR u2 hP2
 rintro u3 hP3;have hu3:u3.size=d.size:=hP3.1.trans hu;have hB3:=hB'.perm (by omega) hP3;have hg3:∀R,PermIn a' b' u3 R->SortedIn (AU cf) a' b' R->PermIn a b d R/\SortedIn (AU cf) a b R:=λR h1 h2=>hG R (permIn_trans _ _ _ _ _ hP3 h1) h2
 clear hB2 hP2 hu2 u2 hP1 hu1 u1 hG hB' hn2;refine C7 ?_;refine J0 (λ_:Unit=>True) (λ_=>⟨[(0,.sl X 0 n),(1,iA a'),(2,iA b'),(3,iA lim1),(4,.fn f cap),(10,bA wb),(11,bA wp),(12,iA l),(13,iA pv)],(X,.row 150 3 (u3.toList.map Ab))::Sf⟩) ?_ ?_
 ·rcases Ah (decide ((0:Int)<(a':Int)))with g|g
  ·have hg:0<a':=by have:=AD g;omega
   have h1:=BI Ab (d:=u3) (i:=a'-1) (by omega);have h2:=BI Ab (d:=u3) (i:=pv) (by omega);have hl2:=hcf (u3[a'-1]!) (u3[pv]!);(repeat refine WF ?_);refine RU ?_;(iterate 6 refine RK ?_);refine BO ?_ (BJ (((a'-1:Nat):Int)) (by omega) (by omega) rfl rfl);refine KR ?_;refine Dv (h:=(hl2 ..)) (k:=?_);(iterate 3 refine RK ?_);refine RGo.nil (by kernel_rfl) ?_;(repeat refine WF ?_);refine AC rfl (λhd=>?_) (λhd=>?_)
   ·have hd:(!(AU cf) u3[a'-1]! u3[pv]!)=true:=by simpa[g,AU]using hd
    have hd:(AU cf) u3[a'-1]! u3[pv]! =false:=by simpa[AU]using hd
    have hs:=cV f cap cf hst hcf X n u3 a' b' pv (by omega) c3 c4 (by omega) (by omega);obtain⟨⟨mid,d4⟩,hx⟩:=nm (partitionEqual (AU cf) u3 a' b' pv);rw[hx]at hs;dsimp only at hs;obtain⟨q1,q2,q3,q4,q5⟩:=round_eq (lt:=(AU cf)) hS (partitionEqual_holds (AU cf)) hg c3 c4 (by omega) hB3 hd hx;refine KK ?_;refine IJ (h:=(hs ..)) (k:=?_);refine KK ?_;refine Jl mid b' lim1 wb wp d4 ⟨q2,hb',by omega,hlim1,q3.trans hu3,q4,λR k1 k2=>?_⟩;obtain⟨k3,k4⟩:=q5 R k1 k2;exact hg3 R k3 k4
   ·refine KK ?_
    exact jnR () CZ
  ·(repeat refine WF ?_)
   refine RU ?_;(iterate 17 refine RK ?_);refine RGo.nil (by kernel_rfl) ?_;(repeat refine WF ?_);refine AB rfl (by simp[g]) ?_;refine KK ?_;exact jnR () CZ
 rintro _ _;have hs:=Zj f cap cf hst hcf X n u3 a' b' pv (by omega) c3 c4 (by omega) (by omega);obtain⟨⟨mid,ap,d4⟩,hx⟩:=nm (partition (AU cf) u3 a' b' pv);rw[hx]at hs;dsimp only at hs;obtain⟨r1,r2,r3,r4,r5,r6,r7⟩:=round_part (lt:=(AU cf)) hS (partition_holds (AU cf)) c3 c4 (by omega) hB3 hx;(repeat first|(refine Bk ?_;first|(refine Bc ?_;first|refine IJ (h:=(hs ..)) (k:=?_))|refine AI (BJ (((mid-a':Nat):Int)) (by omega) (by omega) rfl rfl) rfl ?_|refine AI (BJ (((b'-mid:Nat):Int)) (by omega) (by omega) rfl rfl) rfl ?_|refine AI (JQ l 8 (l/8) rfl rfl (by omega) rfl (by omega) rfl rfl) rfl ?_)|refine WK ?_|refine Ai λX=>?_|refine Ay λY=>?_);refine AC rfl (λhd=>?_) (λhd=>?_)
 ·have hrec:=ih (mid-a') (by omega) X n d4 a' mid lim1 (AP _) (by omega) r1 (by omega) (by omega) hlim1 r4
  refine KK ?_;refine NA hrec λv hv=>?_;(iterate 4 refine WK ?_);refine AI (Bw (((mid+1:Nat):Int)) (by omega) (by omega) rfl rfl) rfl ?_;refine KK ?_;obtain⟨v1,v2⟩:=hv;obtain⟨s1,s2⟩:=r6 v v1 v2;refine Jl (mid+1) b' lim1 _ ap v ⟨by omega,hb',by omega,hlim1,v1.1.trans (r3.trans hu3),s1,λR k1 k2=>?_⟩;obtain⟨k3,k4⟩:=s2 R k1 k2;exact hg3 R k3 k4
 ·have hrec:=ih (b'-(mid+1)) (by omega) X n d4 (mid+1) b' lim1 (AP _) (by omega) (by omega) (by omega) (by omega) hlim1 r5
  (iterate 11 refine WK ?_);refine AI (Bw (((mid+1:Nat):Int)) (by omega) (by omega) rfl rfl) rfl ?_;refine KK ?_;refine NA hrec λv hv=>?_;refine KK ?_
  obtain⟨v1,v2⟩:=hv;obtain⟨s1,s2⟩:=r7 v v1 v2;refine Jl a' mid lim1 _ ap v ⟨by omega,by omega,by omega,hlim1,v1.1.trans (r3.trans hu3),s1,λR k1 k2=>?_⟩;obtain⟨k3,k4⟩:=s2 R k1 k2;exact hg3 R k3 k4
end
section
open Go.Sort
theorem SL(f:FuncId)(cap:List AV)(cf:Mark->Mark->Int)(hst:DH cap=true)(hS:SWO (AU cf))(hf:∀x y,PS prog f (Ab x::Ab y::cap) (iA (cf x y)))(X n:Nat)(l:List Mark)(hn:n=l.length)(hlt:l.length<65536):
  Spec prog 71 [.sl X 0 n,.fn f cap] [(X,.row 150 3 (l.map Ab))] λr S'=>∃u:List Mark,(u.Perm l/\u.Pairwise λa b=>AU cf b a=false)/\r= .tup []/\S'=[(X,.row 150 3 (u.map Ab))]:=by
 have e1:(UInt64.ofNat n).toNat=n:=by rw[CO];omega
 have hlen:=Sb (UInt64.ofNat n) (by rw[e1];omega);rw[e1]at hlen;have hsz:l.toArray.size=l.length:=by simp
 have hb:bitsLen n<=1000:=B7 ((bitsLen_le_iff n 16).2 (by show n<65536;omega)) (by decide);have hs:=cX f cap cf hst hf hS n X n l.toArray 0 n (bitsLen n) (by omega) (by omega) (Ap _) (by omega) (by omega) hb (.inl rfl);simp only[List.toList_toArray]at hs;refine Sp (nt:=14) (res:=[]) func71 λSf=>?_
 (iterate 11 refine WK ?_);refine AI (Ig .i64 n rfl (by omega) (by kernel_rfl) (by kernel_rfl) rfl) rfl ?_;refine BU (h:=(hlen ..)) (k:=?_);refine WK ?_;refine XJ [] (h:=hs) (λu hu=>?_);refine WK ?_
 refine Eb ?_;obtain⟨h1,h2⟩:=hu;have h1':PermIn 0 l.toArray.size l.toArray u:=by rw[hsz,<-hn];exact h1
 have hus:n=u.size:=by rw[h1'.1,hsz];exact hn
 exact B4 [(X,_)] ⟨u.toList,⟨by simpa using Kk h1',I6 hus h2⟩,rfl,rfl⟩
end
def orI:List Int->Int
 |[]=>0
 |x::l=>if x=0 then orI l else x
theorem Zm(l:List Int)(i:Nat)(h:i<l.length):orI (l.drop i)=if l[i]=0 then orI (l.drop (i+1))else l[i]:=by
 rw[D9 h,orI]
theorem fV(l:List Int)(hl:l.length<=1099511627776):PS prog 73 [Av false l] (iA (orI l)):=by
 refine Sp (nt:=18) (res:=[.tmp 2]) func73 λSf=>?_
 refine KK ?_;refine B8 (λi:Nat=>⟨[(0,Av false l),(3,iA 0),(6,Av false l),(7,iA (l.map iA).length),(8,iA i)],Sf⟩) (λi=>i<=l.length/\orI (l.drop i)=orI l) (λi=>l.length-i) 0 ⟨Ap _,rfl⟩ ?_;rintro i ⟨hi,ho⟩;refine KK ?_;refine AC rfl (λhc=>?_) (λhc=>?_)
 ·have h:i<l.length:=by rw[Aj,AH]at hc;omega
  obtain⟨y,hy⟩:=nm (l[i]);have hat:(l.map iA)[i]?=some (iA y):=by rw[Ae,Af h,hy];rfl
  have hd:=Zm l i h;rw[hy]at hd;refine KK ?_;refine AC rfl (λhe=>?_) (λhe=>?_)
  ·have he:y≠0:=by simpa using he
   refine JA ?_;refine Ag ?_;rw[<-ho,hd,AM he]
  ·have he:y=0:=by simpa using he
   refine KK ?_;exact BM (i+1) ⟨h,by rw[<-ho,hd,AY he]⟩
 ·have h:i=l.length:=by rw[Ao,AH]at hc;omega
  refine JA ?_;refine Ag ?_;rw[<-ho,h,Dk];rfl
section
open Go.RowKit Go.Sort
theorem ff:laidOutB prog=true:=by kernel_rfl
noncomputable def keyP:KeyC prog 151 (Int×Int):=fU prog 151 3 (prog.types.size-1) (by kernel_rfl) (by kernel_rfl) (by kernel_rfl) (by kernel_rfl) (by kernel_rfl) (by kernel_rfl) (Maps.Keyed.of_law (deep_law_laid ff (m:=2) (by omega) (AD (by kernel_rfl)) (by kernel_rfl) (by kernel_rfl)))
instance mapPI:TMapK prog 144 151 3 (.int .i64 0):=⟨by kernel_rfl,λw=>by kernel_rfl,PlainV.int (by kernel_rfl) rfl⟩
theorem cq{m:Mark}(h:I64 m.n/\I64 m.kind):keyP.ok (E3 m):=h
theorem eM{n:Int}(h:I64 n):PlainV prog 3 (.int .i64 n):=PlainV.int (by kernel_rfl) (GT h)
theorem ZQ(a b:Int)(w:World):(Instr.build 151 #[(0,.int .i64 a),(1,.int .i64 b)]).run prog w= .ok (.agg #[.int .i64 a,.int .i64 b]) w:=by kernel_rfl
abbrev mkO(X K:Nat)(last:Int)(l:List Mark):List AS:=[(X,.row 146 2 [.agg [.mp K,iA last]]),(K,.ob (MapKF keyP 3 (gM l) l.length))]
theorem markNew_sp:Spec prog 22 [] [] λr S'=>∃b:Nat×Nat,r= .ptr b.1 0 0/\S'=mkO b.1 b.2 0 []:=by
 refine Sp (nt:=4) (res:=[.tmp 0]) func22 λSf=>?_
 refine R1 ?_;refine JD ?_;refine Uo keyP λK=>?_;refine KO ?_;refine Ai λX=>?_;refine JC ?_
 refine RT ?_;exact Ends.sp [.ptr X 0 0] (mkO X K 0 []) ⟨(X,K),rfl,rfl⟩
theorem Tx(X K:Nat)(last t:Int)(l:List Mark)(a b:Wd)(ha:WdOK a)(hb:WdOK b)(hk:a.kinds=b.kinds)(hs:GN l)(hl:l.length<=65536)(h0:0<=t)(hlast:last<=t)(ht:I64 t):
  Spec prog 23 [.ptr X 0 0,iA t,wdA false a,wdA false b] (mkO X K last l) λr S'=>r= .tup [iA (H3 a b).length,iA 0]/\S'=mkO X K t (GZ t l (H3 a b)):=by
 have hch:=P4 a b ha hb hk;have hcl:(H3 a b).length<=4352:=B7 (LI a.items b.items (EG a b)) (by have:=ha.gl;have:=hb.gl;unfold EG;omega);obtain⟨hsr,hrg⟩:=P1 a.items b.items (EG a b);have hN:EG a b<=256:=by have:=ha.gl;have:=hb.gl;unfold EG;omega
 change ∀m∈H3 a b,_ at hrg;obtain⟨ms,hms⟩:=nm (H3 a b);rw[hms]at hch hcl hrg⊢;have hmm:(ms.map Ab).length=ms.length:=AH _;refine Sp (nt:=54) (res:=[.tmp 8,.tmp 9]) func23 λSf=>?_
 refine RG ?_;refine BS ?_;refine BS ?_;refine JE ?_;refine JB ?_;refine AB rfl (Az (by omega)) ?_;refine JB ?_;refine AB rfl (Az (by omega)) ?_;refine JH ?_;refine BP (h:=(hch ..)) (k:=?_);refine JE ?_;refine JB ?_;refine AB rfl rfl ?_;refine JB ?_;refine JJ ?_;refine B8 (λ(i:Nat)=>⟨[(0,.ptr X 0 0),(1,iA t),(10,HI false ms),(35,HI false ms),(36,iA (ms.map Ab).length),(37,iA i)],mkO X K t (GZ t l (ms.take i))++Sf⟩) (λi=>i<=ms.length) (λi=>ms.length-i) 0 (Ap _) ?_;rintro i hi;refine JN ?_;refine AC rfl (λhc=>?_) (λhc=>?_)
 ·have h:i<ms.length:=by rw[Aj,hmm]at hc;omega
  obtain⟨m,hm⟩:=nm (ms[i]);have hmem:m∈ms:=by rw[<-hm];exact Ax h
  have hat:(ms.map Ab)[i]?=some (Ab m):=by rw[Ae,Af h,hm];rfl
  have hr:=hrg m hmem;have hok:keyP.ok (m.n,m.kind):=⟨⟨by dsimp only;omega,by dsimp only;omega⟩,⟨by dsimp only;omega,by dsimp only;omega⟩⟩;obtain⟨n1,n2,_⟩:=O7 t (ms.take i) l hs
  have hnx:GZ t l (ms.take (i+1))=L8 (GZ t l (ms.take i)) ⟨m.n,m.kind,t⟩:=by
   rw[A6 h,Xt,hm]
  have hln:=PQ (m:=⟨m.n,m.kind,t⟩) n1;have hgg:=eZ n1 ⟨m.n,m.kind,t⟩;rw[<-hnx]at hln hgg;have htk:(ms.take i).length<=ms.length:=by rw[BZ];omega
  obtain⟨L,hL⟩:=nm (GZ t l (ms.take i));rw[hL]at n2 hln hgg⊢;have hsz:L.length<maxLen:=by unfold maxLen;omega
  refine JH ?_;refine Ai λE=>?_;refine JC ?_
  refine FL ?_;refine RU ?_;(iterate 8 refine RK ?_);refine RGo.p (W.buildV (ZQ m.n m.kind) rfl rfl) rfl ?_;refine RK ?_;refine RGo.s (W.mapUpdK (C:=keyP) (m.n,m.kind) (eM ht) hok hsz rfl rfl rfl (by exact As)) rfl ?_;refine RGo.nil (by kernel_rfl) ?_;(repeat refine WF ?_);have hgg':Qc (gM L) (m.n,m.kind) (.int .i64 t)=gM (GZ t l (ms.take (i+1))):=hgg.symm;have hln':(if(gM L (m.n,m.kind)).isSome then L.length else L.length+1)=(GZ t l (ms.take (i+1))).length:=hln.symm;rw[hgg',hln'];refine R1 ?_;exact BM (i+1) h (by omega)
 ·have h:i=ms.length:=by rw[Ao,hmm]at hc;omega
  subst h;rw[B9];refine JL ?_;rw[hmm];exact Ends.sp [iA ms.length,iA 0] (mkO X K t (GZ t l ms)) ⟨rfl,rfl⟩
def Zk(x y:Mark):Int:=orI [EN x.n y.n,EN x.kind y.kind]
theorem OO{x y:Mark}:Zk x y<0↔ltM x y:=by
 unfold Zk ltM orI orI orI EN;by_cases h1:x.n<y.n
 ·simp[h1]
 ·by_cases h2:y.n<x.n
  ·have h3:¬x.n=y.n:=by omega
   simp[h1,h2,h3]
  ·have h3:x.n=y.n:=by omega
   by_cases h4:x.kind<y.kind
   ·simp[h3,h4]
   ·by_cases h5:y.kind<x.kind
    ·simp[h3,h4,h5]
    ·simp[h3,h4,h5]
theorem ZL:SWO (AU Zk)where
 irrefl x:=by simp only[AU,Ao,OO];exact Sa x
 trans x y z h1 h2:=by simp only[AU,Aj,OO]at*;exact PD h1 h2
 ntrans x y z h1 h2:=by simp only[AU,Ao,OO]at*;unfold ltM at*;omega
theorem Xf(x y:Mark):PS prog 72 [Ab x,Ab y] (iA (Zk x y)):=by
 have h1:=Fq x.n y.n;have h2:=Fq x.kind y.kind;have h3:=fV [EN x.n y.n,EN x.kind y.kind] (by show 2<=1099511627776;decide);refine Sp (nt:=17) (res:=[.tmp 4]) func72 λSf=>?_
 refine RG ?_;refine BS ?_;refine BS ?_;refine JC ?_;refine FL ?_;refine JM ?_;refine FO (h:=(h1 ..)) (k:=?_);refine KR ?_;refine FO (h:=(h2 ..)) (k:=?_);refine RK ?_;refine JS (h:=(h3 ..)) (k:=?_);refine RK ?_;refine RGo.nil (by kernel_rfl) ?_;refine RT ?_;refine Ag ?_;rfl
theorem el{l:List Mark}(x:Int×Int)(v:Value)(h:gM l x=some v):v.oneCell'=true:=by
 unfold gM at h;obtain⟨m,_,rfl⟩:=DZ.1 h;rfl
theorem SY(X K:Nat)(last t:Int)(l:List Mark)(hs:GN l)(hl:l.length<65536)(hok:∀m∈l,I64 m.n/\I64 m.kind):
  Spec prog 24 [.ptr X 0 0,iA t] (mkO X K last l) λr S'=>r=HI true (l.filter λm=>decide (t<=m.tick))/\S'=mkO X K last l:=by
 refine Sp (nt:=33) (res:=[.tmp 4]) func24 λSf=>?_
 refine R1 ?_;refine JB ?_;refine JH ?_;refine AOps.range keyP rfl (by exact As) rfl λb r M I Y Z cnt hR=>?_
 refine AOps.nil ?_;refine FL ?_;refine AWP.adopt (d:=5) 150 3 rfl λO=>?_
 refine Ev (λ(O cnt:Nat) (z:Obj×(Int×Int->Bool)×List Mark)=>⟨[(0,.ptr X 0 0),(1,iA t),(5,.sl O 0 z.2.2.length),(12,.prim (.pointer (some ⟨r,0,none⟩)))],(O,.row 150 3 (z.2.2.map Ab))::(Y,lkA K b)::(Z,.raw r z.1)::(X,.row 146 2 [.agg [.mp K,iA last]])::(K,exA M)::Sf⟩) (λO cnt z=>Rng keyP 3 (gM l) l.length b z.2.1 cnt M z.1/\z.2.2.Nodup/\∀m,m∈z.2.2↔m∈l/\t<=m.tick/\z.2.1 (E3 m)=false) (λO cnt z=>cnt) O cnt (I,λx=>(gM l x).isSome,[]) ⟨hR,.nil,λm=>⟨λh=>by(cases h),λ⟨h1,_,h3⟩=>by(have:=gM_some.2 ⟨m,h1,rfl⟩;dsimp only at h3;rw[this]at h3;cases h3)⟩⟩ ?_;rintro O cnt ⟨I,left,out⟩ ⟨hR,hnd,hmem⟩;dsimp only at hR hnd hmem⊢
 have hperm:out.Perm (l.filter λm=>decide (t<=m.tick)&& !left (E3 m)):=(List.perm_ext_iff_of_nodup hnd ((Kh hs).filter _)).2 λm=>by
  rw[hmem,Cy];simp
 have hol:out.length<=l.length:=by rw[hperm.length_eq];exact G7 _ _
 have hom:(out.map Ab).length=out.length:=AH _;refine RG ?_;refine AOps.next hR rfl (by exact As) (by exact As) (by exact As) rfl el (λhdone=>?_) (λx v I' cnt' c1 c2 c3 c4 c5 c6 c7=>?_)
 ·refine WO ?_
  refine AOps.nil ?_;refine FL ?_;refine AB rfl rfl ?_;have hsf:=SL 72 [] Zk rfl ZL (λx y=>Xf x y) O out.length out rfl (by omega);refine JK ?_;refine M8 [] hsf λu hu=>?_;refine NL ?_;obtain⟨hu1,hu2⟩:=hu
  have hue:u=l.filter λm=>decide (t<=m.tick):=by
   have hf:(l.filter λm=>decide (t<=m.tick)&& !left (E3 m))=l.filter λm=>decide (t<=m.tick):=by
    refine List.filter_congr λm hm=>?_
    rw[hdone (E3 m) (cq (hok m hm))];simp
   rw[hf]at hperm;have hup:=hu1.trans hperm;refine Q8 ?_ (hs.filter _) λm=>hup.mem_iff
   have hun:u.Nodup:=hu1.nodup_iff.2 hnd;have h3:=List.pairwise_and_iff.2 ⟨hu2,hun⟩;refine(List.pairwise_iff_forall_sublist.2 λ{a b} hab=>?_);have h4:=List.pairwise_iff_forall_sublist.1 h3 hab;have ha:a∈l:=(Cy.1 (hup.mem_iff.1 (hab.subset (by simp)))).1;have hb:b∈l:=(Cy.1 (hup.mem_iff.1 (hab.subset (by simp)))).1;obtain⟨h5,h6⟩:=h4;unfold AU at h5;simp only[Ao,OO]at h5;rcases OP a b with h|h|h
   ·exact h
   ·exact absurd (Lp hs ha hb h) h6
   ·exact absurd h h5
  subst hue;have hul:=hu1.length_eq;refine FL ?_;refine dk (K:=λo=>o=M) (K':=MapKF keyP 3 (gM l) l.length) K (λo ho=>ho▸hR.map) (by exact As) ?_;refine R1 ?_;refine RT ?_;exact⟨[.sl O 0 out.length],[HI true (l.filter λm=>decide (t<=m.tick))],_,mkO X K last l,.cons (.tmp rfl) rfl .nil,.cons (.cell (.sl (p:=0) .here (by rw[AH,hul]))) .nil,by exact BH,rfl,rfl⟩
 ·obtain⟨m,hm,rfl,rfl⟩:=(Sr hs).1 c3
  have hav:keyP.av (E3 m)= .agg [iA m.n,iA m.kind]:=rfl;rw[hav];have hmk:∀y,E3 y=E3 m->y∈l->y=m:=λy hy hyl=>Lp hs hyl hm hy
  refine WO ?_;refine AOps.nil ?_;refine FL ?_;refine Aq rfl rfl ?_;refine JD ?_;refine BT ?_ (W.entry (.agg [iA m.n,iA m.kind]) c7 rfl rfl (by exact As) (by exact As) (by exact As));refine KO ?_;refine Ai λE=>?_;refine JE ?_
  refine JB ?_;refine AC rfl (λhc=>?_) (λhc=>?_)
  ·have hc:t<=m.tick:=by rw[Aj]at hc;omega
   have hb1:(out.map Ab).length+1<=1099511627776:=by omega
   refine JD ?_;(repeat first|(refine Bk ?_;first|refine BT ?_ (W.indexArr 0 (n:=2) (te:=3) (sz1:=1) (by kernel_rfl) (by kernel_rfl) (by decide) rfl rfl (by exact As) (by exact ML _) rfl)|refine BT ?_ (W.indexArr 1 (n:=2) (te:=3) (sz1:=1) (by kernel_rfl) (by kernel_rfl) (by decide) rfl rfl (by exact As) (by exact ML _) rfl)|(refine QU ?_;refine Eg (Ab m) ?_))|refine WO ?_|refine Ai λX=>?_|refine Ay λY=>?_);refine NL ?_;dsimp only[BE,List.set_cons_zero,List.set_cons_succ,CI,CD];have hm1:out.map Ab++[Ab m]=(out++[m]).map Ab:=by rw[AT];rfl
   have hm2:out.length+[Ab m].length=(out++[m]).length:=by rw[Ak];rfl
   rw[hm1,hm2];refine FL ?_;refine Dc ?_ cnt' (I',λy=>left y&& !decide (y=E3 m),out++[m]) ⟨c6,AX.2 ⟨hnd,Bx ..,λa ha b hb e=>?_⟩,λy=>?_⟩ c5
   ·rw[CX]at hb
    subst e hb;have:=((hmem a).1 ha).2.2;rw[c2]at this;cases this
   ·rw[Du,CX,hmem]
    constructor
    ·rintro(⟨a1,a2,a3⟩|rfl)
     ·exact⟨a1,a2,by dsimp only;rw[a3];rfl⟩
     ·exact⟨hm,hc,by dsimp only;rw[BG rfl];simp⟩
    ·rintro⟨a1,a2,a3⟩
     dsimp only at a3;cases hly:left (E3 y)with
     |false=>exact .inl ⟨a1,a2,rfl⟩
     |true=>
      rw[hly]at a3;simp only[GK,Bool.not_eq_false',Aj]at a3;exact .inr (hmk y a3 a1)
  ·have hc:¬t<=m.tick:=by rw[Ao]at hc;omega
   refine FL ?_;refine Dc O cnt' (I',λy=>left y&& !decide (y=E3 m),out) ⟨c6,hnd,λy=>?_⟩ c5;rw[hmem];constructor
   ·rintro⟨a1,a2,a3⟩
    exact⟨a1,a2,by dsimp only;rw[a3];rfl⟩
   ·rintro⟨a1,a2,a3⟩
    refine⟨a1,a2,?_⟩;dsimp only at a3;cases hly:left (E3 y)with
    |false=>rfl
    |true=>
     rw[hly]at a3;simp only[GK,Bool.not_eq_false',Aj]at a3;have:=hmk y a3 a1;subst this;exact absurd a2 hc
end
theorem Qk(l:List Mark)(f:FuncId)(cap:List AV)(p:Mark->Bool)(hs:DH cap=true)(hl:l.length<=4611686018427387904)(hf:∀x∈l,PS prog f (Ab x::cap) (bA (p x))):PS prog 147 [.lst false 150 3 (l.map Ab),.fn f cap] (iA (HM l p)):=by
 refine Sp (nt:=19) (res:=[.tmp 4]) func147 λSf=>?_
 refine KK ?_;refine B8 (λi:Nat=>⟨[(0,.lst false 150 3 (l.map Ab)),(1,.fn f cap),(7,iA (l.map Ab).length),(8,iA i)],Sf⟩) (λi=>i<=l.length/\∀j (h:j<l.length),j<i->p l[j]=false) (λi=>l.length-i) 0 ⟨Ap _,λj h hj=>absurd hj (by omega)⟩ ?_;rintro i ⟨hi,he⟩;refine KK ?_;refine AC rfl (λhc=>?_) (λhc=>?_)
 ·have h:i<l.length:=by simpa using hc
  refine KK ?_;refine KP (h:=(hf _ (Ax h))) (k:=?_);refine KK ?_;refine AC rfl (λhd=>?_) (λhd=>?_)
  ·refine KK ?_
   refine RT ?_;refine Ag ?_;rw[HK h hd λj hj=>he j (by omega) hj]
  ·refine KK ?_
   refine BM (i+1) ⟨h,λj h1 h2=>?_⟩;by_cases e:j=i
   ·subst e;exact hd
   ·exact he j h1 (by omega)
 ·have h:¬i<l.length:=by simpa using hc
  refine JA ?_;refine Ag ?_;rw[HL λj hj=>he j hj (by omega)]
theorem Jr(l:List Mark)(f:FuncId)(cap:List AV)(p:Mark->Bool)(hs:DH cap=true)(hl:l.length<=4611686018427387904)(hf:∀x∈l,PS prog f (Ab x::cap) (bA (p x))):PS prog 75 [.lst false 150 3 (l.map Ab),.fn f cap] (bA (l.any p)):=by
 refine Sp (nt:=9) (res:=[.tmp 4]) func75 λSf=>?_
 refine KK ?_;refine BP (h:=(Qk l f cap p hs hl hf)) (k:=?_);refine JA ?_;refine Ag ?_;rw[<-Mh]
theorem Xr(m:Mark)(n:Int):PS prog 76 [Ab m,.fp [iA n]] (bA (decide (m.n=n)&&decide (m.kind= -1))):=by
 refine Sp (nt:=13) (res:=[.tmp 3]) func76 λSf=>?_
 cases g:decide (m.n=n)with
 |true=>
  refine RG ?_;refine BS ?_;refine JC ?_;refine JL ?_;refine Ag ?_;rfl
 |false=>
  refine RG ?_;refine BS ?_;refine JC ?_;refine JD ?_;(repeat first|(refine CS ?_;first|refine Bp ?_|refine Bo ?_)|refine WO ?_|refine Ai λX=>?_|refine Ay λY=>?_);refine NL ?_;refine RT ?_;refine Ag ?_;rfl
theorem Xq(m:Mark)(n k:Int):PS prog 77 [Ab m,.fp [iA n],.fp [iA k]] (bA (decide (m.n=n)&&decide (m.kind=k))):=by
 refine Sp (nt:=15) (res:=[.tmp 4]) func77 λSf=>?_
 cases g:decide (m.n=n)with
 |true=>
  refine RG ?_;refine BS ?_;refine JC ?_;refine JL ?_;refine Ag ?_;rfl
 |false=>
  refine RG ?_;refine BS ?_;refine JC ?_;refine JD ?_;(repeat first|(refine CS ?_;first|refine Bp ?_|refine Bo ?_)|refine WO ?_|refine Ai λX=>?_|refine Ay λY=>?_);refine NL ?_;refine RT ?_;refine Ag ?_;rfl
def GP(x y:Item)(n:Int)(l:List Mark)(i:Nat):List Comp:=(List.range i).flatMap λ(k:Nat)=>DK (if l.any (λm=>decide (m.n=n)&&decide (m.kind=(k:Nat)))then y else x) k
theorem Mc(x y:Item)(n:Int)(l:List Mark)(i:Nat):GP x y n l (i+1)=GP x y n l i++DK (if l.any (λm=>decide (m.n=n)&&decide (m.kind=(i:Nat)))then y else x) i:=by
 unfold GP;rw[G6,D5,JU]
theorem Kl(x y:Item)(n:Int)(l:List Mark):∀i:Nat,(GP x y n l i).length<=i
 |0=>AP _
 |i+1=>by
  have h1:=Kl x y n l i;have h2:=Jt (if l.any (λm=>decide (m.n=n)&&decide (m.kind=(i:Nat)))then y else x) i;rw[Mc,Ak];omega
theorem Mb(a b:List Item)(l:List Mark)(i:Nat):FK a b l (i+1)=FK a b l i++if 0<=(Ht (Ci a i) (Ci b i) i l).ent.n then[Ht (Ci a i) (Ci b i) i l]else[]:=by
 unfold FK;rw[G6,AT,Dr,List.map_singleton]
 congr 1
 by_cases h:0<=(Ht (Ci a i) (Ci b i) i l).ent.n
 ·rw[AY h,FU,AY (BG h)];rfl
 ·rw[AM h,FU,AM (by simpa using h)];rfl
theorem Nl(a b:List Item)(l:List Mark):∀i:Nat,(FK a b l i).length<=i
 |0=>AP _
 |i+1=>by
  have h1:=Nl a b l i;rw[Mb,Ak];split<;>simp<;>omega
theorem Ze(a b:Wd)(l:List Mark)(ha:WdOK a)(hb:WdOK b)(hk:a.kinds=b.kinds)(hp:WdOK (H7 a b l))(hl:l.length<=4611686018427387904):PS prog 25 [wdA false a,wdA false b,HI false l] (.tup [wdA false (H7 a b l),iA 0]):=by
 have hLa:=ha.wl;have hLb:=hb.wl;have hLp:=hp.wl;have hch:=P4 a b ha hb hk;have hcp:=F9 (H7 a b l) hLp.gens hLp.items.1 (λit hit=>(hLp.items.2 it hit).1);rw[(Cg _).2 hp]at hcp;have hcy:=W1 a hLa;have hgc:=HR b.gens (by have:=hb.gl;omega);have hma:(a.gens.map iA).length=a.gens.length:=AH _;have hmb:(b.gens.map iA).length=b.gens.length:=AH _;have hga:=ha.gl;have hgb:=hb.gl;have hmx:(if((a.gens.map iA).length:Int)<((b.gens.map iA).length:Nat)then(((b.gens.map iA).length:Nat):Int)else((a.gens.map iA).length:Nat))=(EG a b:Nat):=by rw[hma,hmb];exact Wo _ _
 have hN:EG a b<=1048576:=by unfold EG;omega
 have hpo:H7 a b l=⟨a.kinds,b.gens,FK a.items b.items l (EG a b)⟩:=rfl;obtain⟨N,hNe⟩:=nm (EG a b);rw[hNe]at hmx hN hpo;refine Sp (nt:=95) (res:=[.cell 6 26,.tmp 7]) func25 λSf=>?_
 refine RG ?_;refine BS ?_;refine BS ?_;refine WO ?_;refine Ai λR=>?_;refine JC ?_
 refine JH ?_;refine BP (h:=(hch ..)) (k:=?_);refine JE ?_;refine JB ?_;refine AB rfl rfl ?_;refine JK ?_;refine BU (h:=(hcy ..)) (k:=?_);refine WO ?_;refine Ai λV=>?_;refine JC ?_
 refine JH ?_;refine BU (h:=(hgc ..)) (k:=?_);refine JE ?_;refine JJ ?_;refine CY (Y:=V) 83 3 .here (λF=>.cons (.agg (.s (.s (.cons (.base .nil) .nil)))) .nil) λI=>?_
 refine R1 ?_;rw[hmx];refine FL ?_;refine Ca (λ(i I:Nat)=>⟨[(2,HI false l),(3,.fp (wdA false a).cells),(4,.fp (wdA false b).cells),(6,.ptr R 0 0),(10,.ptr V 0 0),(41,iA N),(42,iA i)],(I,.row 83 3 ((FK a.items b.items l i).map (AN false)))::(V,.row 26 3 [.agg [Ba false false a.kinds,Av false b.gens,.sl I 0 (FK a.items b.items l i).length]])::(R,.row 26 3 [ce])::Sf⟩) (λi _=>i<=N) (λi _=>N-i) 0 I (Ap _) ?_;rintro i I hi;refine JN ?_;refine AC rfl (λhc=>?_) (λhc=>?_)
 ·have h:i<N:=by rw[Aj]at hc;omega
  have hia:=Iu a i ha.so (by have:=hLa.items.1;omega);have hib:=Iu b i hb.so (by have:=hLb.items.1;omega);have hnx:=Mb a.items b.items l i;have hln:=Nl a.items b.items l i;have hxl:=LB ha.so hLa.items i;have hyl:=LB hb.so hLb.items i;obtain⟨x,hx⟩:=nm (Ci a.items i);obtain⟨y,hy⟩:=nm (Ci b.items i);rw[hx]at hia hnx hxl;rw[hy]at hib hnx hyl;have hcf:=Jr l 76 [.fp [iA i]] (λm=>decide (m.n=(i:Nat))&&decide (m.kind= -1)) rfl hl (λm _=>Xr m i);obtain⟨q,hq⟩:=nm ((l.any λm=>decide (m.n=(i:Nat))&&decide (m.kind= -1)));rw[hq]at hcf;obtain⟨⟨xn,xg⟩,xc⟩:=x;obtain⟨⟨yn,yg⟩,yc⟩:=y
  have hpi:Ht ⟨⟨xn,xg⟩,xc⟩ ⟨⟨yn,yg⟩,yc⟩ i l=⟨if q then⟨yn,yg⟩else⟨xn,xg⟩,GP ⟨⟨xn,xg⟩,xc⟩ ⟨⟨yn,yg⟩,yc⟩ i l 16⟩:=by
   unfold Ht GP;rw[hq]
  rw[hpi]at hnx;dsimp only at hnx;obtain⟨M,hM⟩:=nm (FK a.items b.items l i);rw[hM]at hnx hln⊢;have hMl:(M.map (AN false)).length=M.length:=AH _;refine JH ?_;refine Ai λX=>?_;refine JC ?_
  refine FL ?_;refine Gw [11] (by exact As) ?_ (λd hd=>by rw[AW.1 hd];rfl);refine CN λX1=>CN λY1=>?_
  refine JM ?_;refine FO (h:=(hia ..)) (k:=?_);refine KR ?_;refine FO (h:=(hib ..)) (k:=?_);(iterate 4 refine RK ?_);refine RGo.nil (by kernel_rfl) ?_;(repeat refine WF ?_);refine JI ?_;refine BP (h:=(hcf ..)) (k:=?_);refine NL ?_;refine Bz (λe:Ent=>e=if q then⟨yn,yg⟩else⟨xn,xg⟩) (λe=>⟨[(2,HI false l),(3,.fp (wdA false a).cells),(4,.fp (wdA false b).cells),(6,.ptr R 0 0),(10,.ptr V 0 0),(11,.fp [iA i]),(12,.ptr Y1 0 0),(13,.ptr X1 0 0),(41,iA N),(42,iA i)],(Y1,.row 83 3 [AN false ⟨e,xc⟩])::(X1,.row 83 3 [AN false ⟨⟨yn,yg⟩,yc⟩])::(I,.row 83 3 (M.map (AN false)))::(V,.row 26 3 [.agg [Ba false false a.kinds,Av false b.gens,.sl I 0 M.length]])::(R,.row 26 3 [ce])::Sf⟩) ?_ ?_
  ·cases q with
   |true=>
    refine Aq rfl rfl ?_;refine JB ?_;exact jn ⟨yn,yg⟩ rfl
   |false=>
    refine AB rfl rfl ?_;refine FL ?_;exact jn ⟨xn,xg⟩ rfl
  rintro e he;rw[<-he]at hnx;clear he hpi;obtain⟨en,eg⟩:=e;dsimp only at hnx;refine JB ?_;refine AC rfl (λh0=>?_) (λh0=>?_)
  ·have h0:en<0:=AD h0
   rw[AM (by omega),BD]at hnx;rw[<-hnx];refine JB ?_;exact Bn (i+1) I h (by omega)
  ·have h0:¬en<0:=AG h0
   rw[AY (by omega)]at hnx;refine JH ?_;refine Ai λD=>?_;refine JC ?_
   refine FL ?_;refine CY (Y:=D) 42 2 .here (λF=>.cons (.agg (.s (.s (.cons (.base .nil) .nil)))) .nil) λC=>?_
   refine JN ?_;refine Ca (λ(k C:Nat)=>⟨[(2,HI false l),(3,.fp (wdA false a).cells),(4,.fp (wdA false b).cells),(6,.ptr R 0 0),(10,.ptr V 0 0),(11,.fp [iA i]),(12,.ptr Y1 0 0),(13,.ptr X1 0 0),(14,.ptr D 0 0),(41,iA N),(42,iA i),(64,iA k)],(C,.row 42 2 ((GP ⟨⟨xn,xg⟩,xc⟩ ⟨⟨yn,yg⟩,yc⟩ i l k).map (AZ false)))::(D,.row 83 3 [.agg [iA en,iA eg,.sl C 0 (GP ⟨⟨xn,xg⟩,xc⟩ ⟨⟨yn,yg⟩,yc⟩ i l k).length]])::(Y1,.row 83 3 [AN false ⟨⟨en,eg⟩,xc⟩])::(X1,.row 83 3 [AN false ⟨⟨yn,yg⟩,yc⟩])::(I,.row 83 3 (M.map (AN false)))::(V,.row 26 3 [.agg [Ba false false a.kinds,Av false b.gens,.sl I 0 M.length]])::(R,.row 26 3 [ce])::Sf⟩) (λk _=>k<=16) (λk _=>16-k) 0 C (Ap _) ?_;rintro k C hk16;refine JN ?_;refine AC rfl (λhd=>?_) (λhd=>?_)
   ·have hk:k<16:=by rw[Aj]at hd;omega
    have hcf2:=Jr l 77 [.fp [iA i],.fp [iA k]] (λm=>decide (m.n=(i:Nat))&&decide (m.kind=(k:Nat))) rfl hl (λm _=>Xq m i k);have hcn:=Mc ⟨⟨xn,xg⟩,xc⟩ ⟨⟨yn,yg⟩,yc⟩ i l k;have hcl:=Kl ⟨⟨xn,xg⟩,xc⟩ ⟨⟨yn,yg⟩,yc⟩ i l k;obtain⟨p,hpe⟩:=nm ((l.any λm=>decide (m.n=(i:Nat))&&decide (m.kind=(k:Nat))));rw[hpe]at hcf2 hcn;obtain⟨L,hL⟩:=nm (GP ⟨⟨xn,xg⟩,xc⟩ ⟨⟨yn,yg⟩,yc⟩ i l k);rw[hL]at hcn hcl⊢;have hLm:(L.map (AZ false)).length=L.length:=AH _;refine JH ?_;refine Ai λK=>?_;refine JC ?_
    refine FL ?_;refine Gw [15] (by exact As) ?_ (λd hd=>by rw[AW.1 hd];rfl);refine JI ?_;refine Ai λQ=>?_;refine JC ?_
    refine JH ?_;refine BP (h:=(hcf2 ..)) (k:=?_);refine NL ?_;refine Bz (λz:Item=>CsL z.comps/\DK z k=DK (if p then⟨⟨yn,yg⟩,yc⟩else⟨⟨xn,xg⟩,xc⟩) k) (λz=>⟨[(2,HI false l),(3,.fp (wdA false a).cells),(4,.fp (wdA false b).cells),(6,.ptr R 0 0),(10,.ptr V 0 0),(11,.fp [iA i]),(12,.ptr Y1 0 0),(13,.ptr X1 0 0),(14,.ptr D 0 0),(15,.fp [iA k]),(16,.ptr Q 0 0),(41,iA N),(42,iA i),(64,iA k)],(Q,.row 83 3 [AN false z])::(C,.row 42 2 (L.map (AZ false)))::(D,.row 83 3 [.agg [iA en,iA eg,.sl C 0 L.length]])::(Y1,.row 83 3 [AN false ⟨⟨en,eg⟩,xc⟩])::(X1,.row 83 3 [AN false ⟨⟨yn,yg⟩,yc⟩])::(I,.row 83 3 (M.map (AN false)))::(V,.row 26 3 [.agg [Ba false false a.kinds,Av false b.gens,.sl I 0 M.length]])::(R,.row 26 3 [ce])::Sf⟩) ?_ ?_
    ·cases p with
     |true=>
      refine Aq rfl rfl ?_;refine JB ?_;exact jn ⟨⟨yn,yg⟩,yc⟩ ⟨hyl,rfl⟩
     |false=>
      refine AB rfl rfl ?_;refine FL ?_;exact jn ⟨⟨en,eg⟩,xc⟩ ⟨hxl,rfl⟩
    rintro z ⟨hzl,hzk⟩;rw[<-hzk]at hcn;have hmc:=Ko z k hzl.1;have hcc:=F6 (DK z k) (by have:=Jt z k;omega) (λc hc=>hzl.2 c (Rj hc));have hkl:=Jt z k;obtain⟨K2,hK2⟩:=nm (DK z k);rw[hK2]at hmc hcc hcn hkl;have hK2m:(K2.map (AZ false)).length=K2.length:=AH _;have hb1:(L.map (AZ false)).length+(K2.map (AZ false)).length<=1099511627776:=by omega
    refine FL ?_;refine CN λC2=>?_
    refine JM ?_;refine FO (h:=(hmc ..)) (k:=?_);refine JS (h:=(hcc ..)) (k:=?_);(iterate 3 refine RK ?_);refine RGo.nil (by kernel_rfl) ?_;have hm1:L.map (AZ false)++K2.map (AZ false)=(GP ⟨⟨xn,xg⟩,xc⟩ ⟨⟨yn,yg⟩,yc⟩ i l (k+1)).map (AZ false):=by rw[hcn,AT]
    have hm2:L.length+(K2.map (AZ false)).length=(GP ⟨⟨xn,xg⟩,xc⟩ ⟨⟨yn,yg⟩,yc⟩ i l (k+1)).length:=by rw[hcn,Ak,hK2m]
    dsimp only[BE,List.set_cons_zero,List.set_cons_succ,CI,CD];rw[hm1,hm2];(repeat refine WF ?_);refine R1 ?_;exact Bn (k+1) C2 hk (by omega)
   ·have hk:k=16:=by rw[Ao]at hd;omega
    subst hk;have hcl:=Kl ⟨⟨xn,xg⟩,xc⟩ ⟨⟨yn,yg⟩,yc⟩ i l 16;obtain⟨L,hL⟩:=nm (GP ⟨⟨xn,xg⟩,xc⟩ ⟨⟨yn,yg⟩,yc⟩ i l 16);rw[hL]at hnx hcl⊢;have hLm:(L.map (AZ false)).length=L.length:=AH _;refine FL ?_;refine E9 (X:=C) (Y:=D) .here (.next .here) rfl (.cons (.agg (.s (.s (.cons (.base (.sl (by omega))) .nil)))) .nil) ?_
    have hC:AV.frzs (((L.map (AZ false)).drop 0).take L.length)=L.map (AZ false):=by
     rw[Cp,BB (by omega)];exact Frzs.h
    rw[hC];have hb1:(M.map (AN false)).length+1<=1099511627776:=by omega
    have hm1:M.map (AN false)++[AN false ⟨⟨en,eg⟩,L⟩]=(FK a.items b.items l (i+1)).map (AN false):=by rw[hnx,AT];rfl
    have hm2:M.length+[AN false ⟨⟨en,eg⟩,L⟩].length=(FK a.items b.items l (i+1)).length:=by rw[hnx,Ak];rfl
    refine RG ?_;(iterate 3 refine WO ?_);refine Eg (AN false ⟨⟨en,eg⟩,L⟩) ?_;refine WO ?_;refine Ay λY=>?_;refine JE ?_
    dsimp only[BE,List.set_cons_zero,List.set_cons_succ,CI,CD];rw[hm1,hm2];refine JB ?_;exact Bn (i+1) Y h (by omega)
 ·have h:i=N:=by rw[Ao]at hc;omega
  subst h;obtain⟨M,hM⟩:=nm (FK a.items b.items l i);rw[hM]at hpo⊢;rw[hpo]at hcp⊢;have hMl:(M.map (AN false)).length=M.length:=AH _;refine FL ?_;refine E9 (X:=I) (Y:=V) .here (.next .here) rfl (.cons (.agg (.s (.s (.cons (.base (.sl (by omega))) .nil)))) .nil) ?_
  have hI:AV.frzs (((M.map (AN false)).drop 0).take M.length)=M.map (AN false):=by
   rw[Cp,BB (by omega)];exact Frzs.h
  rw[hI];refine JF ?_;refine BU (h:=(hcp ..)) (k:=?_);refine JC ?_;refine JB ?_;refine AB rfl rfl ?_;refine JL ?_;exact DA [wdA false ⟨a.kinds,b.gens,M⟩,iA 0] [wdA false ⟨a.kinds,b.gens,M⟩,iA 0] (.cons (.cell .same) (.cons (.cell .same) .nil))
section
open Go.RowKit
def Lj(w:World):Mem:=⟨λ_=>none,λ_=>False,w,λb=>b<w.heap.size⟩
theorem V8(w:World):Good (Lj w) (Lj w) 0 [] []:=
 ⟨λz hz=>(by cases hz),.nil,λb hb=>(by cases hb),λb h=>h,.nil,λx hx=>(by cases hx),λx h=>h.elim,.refl _,rfl,rfl,rfl,AP _⟩
theorem Good.bel{m':Mem}{N:Nat}{Z:Zs}{br:List Nat}(G:Good (Lj w) m' N Z br):Below w.heap.size w m'.w:=
 ⟨G.os,G.tape,G.output,G.size,λk hk=>(G.le.F k hk).2⟩
theorem PS.calls_bool{P:Program}{f:FuncId}{args:List AV}{b:Bool}(h:PS P f args (bA b)){vals:Array Value}(hv:VTs (Lj w) args vals.toList []):
  Calls P f vals w λe w'=>e= .returned (.bool b)/\Below w.heap.size w w':=
 (h.run [] (Lj w) 0 [] vals rfl (V8 w) hv).mono λe w' ⟨v,r,S',m',N',Z',br,h1,h2,h3,G,h4,h5,h6⟩=>by
  subst h1 h2 h5;refine⟨?_,G.bel⟩;obtain⟨⟨h7,_⟩,_⟩:=h4;injection h7 with h7
  rw[h7]
theorem Rm{α:Type}{m:Mem}{C:List Value->α->Prop}{sz:Nat}{f:α->AV}(hC:∀c x,C c x->VC m (f x) c []):∀{l:List α} {xs:List Value},Cells C sz xs l->VCs m (l.map f) xs []
 |[],_,h=>⟨h,rfl⟩
 |x::l,_,⟨c,ys,h1,h2,h3,h4⟩=>⟨c,ys,[],[],h1,rfl,hC c x h3,Rm hC h4⟩
theorem P8{b o:Nat}{u:Value}(h:w.cell? ⟨b,o,none⟩=some u):∃arr t r,w.heap[b]?=some (.cells arr t r)/\arr[o]?=some u:=by
 unfold World.cell? at h;cases hb:w.heap[b]? with
 |none=>simp only[hb]at h;cases h
 |some blk=>
  cases blk with
  |cells c t r=>simp only[hb]at h;exact⟨c,t,r,rfl,by simpa using h⟩
  |_=>simp only[hb]at h;cases h
theorem fR{α:Type}{C:World->Reg->List Value->α->Prop}{sz:Nat}{f:α->AV}{t:TypeId}{v:Value}{l:List α}(hsz:0<sz)(hC:∀c x,C w (Lt w) c x->VC (Lj w) (f x) c [])(hw:∀x,(f x).width=sz)(h:Sl w (Lt w) sz C v l):VC (Lj w) (.lst false t sz (l.map f)) [v] []:=by
 obtain⟨xs,⟨h1,A,cap,rfl,hn,hr⟩,hc⟩:=h;refine⟨rfl,A,cap,by simp,by simpa using hn,λe he=>by obtain⟨x,_,rfl⟩:=Ad.1 he;exact hw x,λh0=>?_⟩;have h0:0<l.length:=by simpa using h0
 obtain⟨b,off,rfl,hb,hcell⟩:=hr h0;have hx:0<xs.length:=by rw[h1];exact Nat.mul_pos h0 hsz
 obtain⟨arr,t',r,h2,h3⟩:=P8 (hcell 0 xs[0] (by simp));refine⟨b,off,arr,t',r,rfl,hb,h2,?_⟩
 have e:(arr.toList.drop off).take ((l.map f).length*sz)=xs:=by
  apply Fu;intro j;rw[De];split
  ·rename_i hj
   have hj:j<xs.length:=by rw[h1];simpa using hj
   obtain⟨arr2,t2,r2,h4,h5⟩:=P8 (hcell j xs[j] (by simp));rw[h2]at h4;injection h4 with h4
   injection h4 with h4
   subst h4;rw[Df,Af hj];simpa using h5
  ·rename_i hj
   rw[CT];rw[h1];simpa using hj
 rw[e];exact Rm hC hc
theorem cu{v:Value}{l:List Int}(h:Yp w (Lt w) v l):VC (Lj w) (Av false l) [v] []:=
 fR (f:=iA) (by decide) (λc x hc=>⟨⟨hc,rfl⟩,rfl⟩) (λ_=>rfl) h
theorem cE{m:Mem}:VTs m [] [] []:=⟨rfl,rfl⟩
theorem Wa{m:Mem}{l:List AV}{us:List Value}{x:Int}(k:VTs m l us []):VTs m (iA x::l) (.int .i64 x::us) []:=(Co rfl).2 ⟨_,_,[],[],rfl,rfl,⟨⟨rfl,rfl⟩,rfl⟩,k⟩
theorem TH{v:Value}{z:List Int}{l:List AV}{us:List Value}(h:Yp w (Lt w) v z)(k:VTs (Lj w) l us []):VTs (Lj w) (Av false z::l) (v::us) []:=(Co rfl).2 ⟨_,_,[],[],rfl,rfl,cu h,k⟩
end
section
open Go.RowKit
instance tPtrM2:TPtr prog 56:=⟨146,by kernel_rfl,by kernel_rfl⟩
theorem VW(t:Int)(ms:List Mark)(h:GN ms):GZ t [] ms=ms.map λm=>⟨m.n,m.kind,t⟩:=by
 obtain⟨h1,_,h3⟩:=O7 t ms [] .nil;refine Q8 h1 (List.Pairwise.map _ (λa b h=>h) h) λy=>?_
 rw[h3,Ad];constructor
 ·rintro(⟨m,hm,rfl⟩|⟨h,_⟩)
  ·exact⟨m,hm,rfl⟩
  ·cases h
 ·rintro⟨m,hm,rfl⟩
  exact .inl ⟨m,hm,rfl⟩
theorem VR(a b:Wd)(l:List Mark)(t:Int):H7 a b (l.map λm=>⟨m.n,m.kind,t⟩)=H7 a b l:=by
 have h:∀(x y:Item) (n:Int),Ht x y n (l.map λm=>⟨m.n,m.kind,t⟩)=Ht x y n l:=λx y n=>by
  unfold Ht;rw[List.any_map]
  congr 1
  refine Ml λk _=>?_
  rw[List.any_map];rfl
 unfold H7 FK;simp only[h]
theorem TJ(l m:List Int)(s a:Int):PS prog 4 [Av false l,Av false m,iA s,iA a] (bA true):=by
 have hwp:=Y7 l;have hok:=UG l;obtain⟨hk0,hk4⟩:=UH l;have hko:KI (Fo l).kinds:=KD l;have hkg:KsGood (Fo l).kinds:=LZ l;obtain⟨hkn,hkf⟩:=N9 l;obtain⟨w,hw⟩:=nm (Fo l);rw[hw]at hwp hok hk0 hk4 hko hkg hkn hkf;clear hw;have hsp:=U2 w.kinds m hko hkf hkn;have hb0:SyssOK w.kinds []:=⟨Ap _,λi h=>absurd h (Nat.not_lt_zero i)⟩;refine Sp (nt:=73) (res:=[.tmp 8]) func4 λSf=>?_
 refine R1 ?_;refine JD ?_;refine TC (h:=(VH ..)) (k:=?_);refine JC ?_;refine AB rfl rfl ?_;refine JK ?_;refine BU (h:=(hwp ..)) (k:=?_);refine WO ?_;refine Ai λV1=>?_;refine JC ?_
 refine FL ?_;refine CN λV2=>?_
 refine AWP.region_runE (by kernel_rfl) (by kernel_rfl) ?_;refine Mx ?_;refine Mx ?_;refine Mx ?_;refine Mx ?_;refine bS [] hb0 hsp ?_;refine W8 ?_;refine W8 ?_;refine Hn (n:=7) (h:=λb=>W.callF4 rfl rfl rfl rfl (Of w b.1 s a (b.2.gs hok hkg hk4)) rfl Frz.h) ?_;refine Hn (n:=8) ?_;refine Hn (n:=9) ?_;refine Hn (n:=10) ?_;refine Hn (n:=11) ?_;refine bT ?_;refine Hn (n:=13) ?_;refine Hn (n:=14) ?_;refine Hn (n:=15) ?_;refine RGoB.nil (λb=>by kernel_rfl) ?_ (λb=>G5 (by kernel_rfl));rintro⟨ss,hss⟩;dsimp only;have hT:=hss.gs hok hkg hk4;obtain⟨hT2,hvk⟩:=hT.tick s a;obtain⟨⟨v,es⟩,hv⟩:=nm (LV w ss s a);rw[hv]at hT2 hvk⊢;dsimp only at hT2 hvk⊢;have hvo:=hT2.ok;have hN:EG w v<=256:=by have:=hok.gl;have:=hvo.gl;unfold EG;omega
 have hxl:(H3 w v).length<=4352:=B7 (LI w.items v.items (EG w v)) (by omega);obtain⟨hxs,hxr⟩:=P1 w.items v.items (EG w v);change GN (H3 w v)at hxs;change ∀m∈H3 w v,_ at hxr;have hn:=λX K=>Tx X K 0 7 [] w v hok hvo hvk.symm .nil (by decide) (by decide) (by decide) ⟨by decide,by decide⟩
 have hnf:=VW 7 (H3 w v) hxs;have hpt:=VR w v (H3 w v) 7;rw[Xp hvo hvk.symm]at hpt;obtain⟨c,hc⟩:=nm (H3 w v);rw[hc]at hxl hxs hxr hn hnf hpt;rw[hnf]at hn;have hcs:GN (c.map λm=>(⟨m.n,m.kind,7⟩:Mark)):=List.Pairwise.map _ (λa b h=>h) hxs;have hc7l:(c.map λm=>(⟨m.n,m.kind,7⟩:Mark)).length=c.length:=AH _
 have hc7k:∀y∈c.map (λm=>(⟨m.n,m.kind,7⟩:Mark)),I64 y.n/\I64 y.kind:=λy hy=>by
  obtain⟨q,hq,rfl⟩:=Ad.1 hy;have:=hxr q hq;exact⟨⟨by dsimp only;omega,by dsimp only;omega⟩,⟨by dsimp only;omega,by dsimp only;omega⟩⟩
 have hcf:((c.map λm=>(⟨m.n,m.kind,7⟩:Mark)).filter λm=>decide (7<=m.tick))=c.map λm=>⟨m.n,m.kind,7⟩:=by
  rw[ES];intro y hy;obtain⟨q,_,rfl⟩:=Ad.1 hy;rfl
 obtain⟨d,hd⟩:=nm ((c.map λm=>(⟨m.n,m.kind,7⟩:Mark)));rw[hd]at hn hpt hcs hc7l hc7k hcf;have hsn:=λX K=>SY X K 7 7 d hcs (by omega) hc7k
 rw[hcf]at hsn;have hpp:=Ze w v d hok hvo hvk.symm (by rw[hpt];exact hvo) (by omega);rw[hpt]at hpp;have hsm:=Xj v v hvo.wl;rw[BG rfl]at hsm;have hdm:(d.map Ab).length=d.length:=AH _;have q1:decide (((c.length:Nat):Int)=((d.map Ab).length:Nat))=true:=BG (by omega);have hnew:=markNew_sp.tt;refine JB ?_;refine AB rfl rfl ?_;refine JD ?_;refine XM [] hnew λk _=>?_;refine JC ?_;obtain⟨X,K⟩:=k;dsimp only;refine JK ?_;refine BT ?_ (W.eqPtrN rfl rfl (by exact As) (by exact ML _));refine NL ?_;refine AB rfl rfl ?_;refine JH ?_;refine KM (hn X K) .fz ?_;refine JE ?_;refine JK ?_;refine XG (hsn X K) .fz ?_;refine JC ?_;refine JH ?_;refine Fi (h:=(hpp ..)) (k:=?_);refine KO ?_;refine Ai λV3=>?_;refine JE ?_
 refine JH ?_;refine BP (h:=(hsm ..)) (k:=?_);refine JE ?_;refine RT ?_;refine Ag ?_;rfl
theorem ZI(z0:List Int)(A0:Option Addr)(n0 cap0:Nat)(z1:List Int)(A1:Option Addr)(n1 cap1:Nat)(z2:Int)(z3:Int)(w:World)(h0:Yp w (Lt w) (.slice A0 n0 cap0) z0)(hlen0:z0.length*8<=140737488351232)(h1:Yp w (Lt w) (.slice A1 n1 cap1) z1)(hlen1:z1.length*8<=140737488351232)(hx2:I64 z2)(hx3:I64 z3):
  Calls prog 4 #[.slice A0 n0 cap0,.slice A1 n1 cap1,.int .i64 z2,.int .i64 z3] w λe w'=>e= .returned (.bool true)/\Below w.heap.size w w':=
 (TJ z0 z1 z2 z3).calls_bool (TH h0 (TH h1 (Wa (Wa (cE)))))
end
end Go.Proofs.YtmkahplhnbbgmaaGreat
