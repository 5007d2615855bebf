/-
  Part 7 of the texts under the law TopSaved: the layer of abstract values, walks and plain laws. Conditions: those that each theorem names.
-/
import Derived.Test.YtmkahplhnbbgmaaGreatTopSavedP6
namespace Go.Proofs.YtmkahplhnbbgmaaGreat
open Tryz
set_option linter.unusedVariables false
set_option linter.unusedSimpArgs false
set_option linter.defProp false
set_option maxRecDepth 10000
set_option maxHeartbeats 4000000
variable {t:Tab}
variable {a:Ar}
variable {e:Ent}
variable {i:Nat}
instance tPtrT:TPtr prog 117:=⟨123,by kernel_rfl,by kernel_rfl⟩
instance mapIT:TMap prog 112 3 117 (.pointer none):=⟨by kernel_rfl,by kernel_rfl,λw=>by kernel_rfl,PlainV.nil (te:=123) (by kernel_rfl)⟩
theorem U9(x:Nat):FreeE (.ptr x 0 0):=λm c bs k=>by
 simp only[VC]at k;exact k.1
theorem cZ(A B1 B2 C Z:List AR):(A++(B1++(B2++(C++Z)))).Perm (B1++(B2++((C++(A++[]))++Z))):=by
 rw[A8];have:=EG A (B1++(B2++C)) Z;simpa[Aq]using this
theorem Spec.tt{P:Program}{f:FuncId}{args:List AV}{S:List AR}{β:Type}{r:β->AV}{So:β->List AR}(h:Spec P f args S λr' S'=>∃q,r'=r q/\S'=So q):Spec P f args S λr' S'=>∃q,(λ_:β=>True) q/\r'=r q/\S'=So q:=h.mono λr' S' ⟨q,h⟩=>⟨q,CZ,h⟩
theorem ZV{ts:List Tab}(h:t∈ts):∃R,(Cl ts).Perm ([Ha t]++R):=by
 obtain⟨l1,l2,rfl⟩:=JU h;refine⟨(stE t.ek t.es++DU t.cs)++(Cl l1++Cl l2),?_⟩;have:=GO (l1:=l1) (l2:=l2) (t:=t) [];simp only[A8]at this;exact this
theorem eD(ts:List Tab)(t:Tab)(ht:t∈ts)(ks:List Int)(hl:t.ks.length<=1099511627776):Spec prog 119 [.ptr t.X 0 0,Av false ks] (Cl ts) λr S'=>r=iA (Ew t.ks ks)/\S'=Cl ts:=by
 obtain⟨R,hp⟩:=ZV ht;refine Spec.perm ((g0 t ks hl).beside R) hp λr S' hq=>?_
 obtain⟨S1,e1,e2,e3⟩:=hq;refine⟨Cl ts,?_,e2,rfl⟩;rw[e1,e3];exact hp.symm
theorem Q4(a:Ar)(e:Ent)(l:List Comp)(ha:ArOK a)(hne:If a.ts)(hn:0<=e.n/\e.n<256)(hf:e.n∉Cw a.ts)(hl:l.length<=16):
  Spec prog 56 [.ptr a.A 0 0,CI e,B3 false false l] (arS a) λr S'=>∃b:Ar,(ArOK b/\If b.ts/\b.A=a.A/\b.kinds=a.kinds/\b.gens=a.gens/\(B5 b.ts).Perm (⟨e,l⟩::B5 a.ts))/\r= .tup []/\S'=arS b:=by
 obtain⟨ks,hks⟩:=nm (l.map (·.kind));have hkl:ks.length=l.length:=by rw[<-hks,AD]
 have hkm:(ks.map iA).length=ks.length:=AD _;have hko:=XN l (by omega);rw[hks]at hko;have htl:=ha.ts_le hne;have hsr:=Wm a.Tb a.ts Tab.X (Cl a.ts) ks 119 (λt:Tab=>Ew t.ks ks) (by omega) (λt ht=>eD a.ts t ht ks (by have:=(ha.tab t ht).ks;omega));refine Sp (nt:=98) (res:=[]) func56 λSf=>?_
 refine JG ?_;refine Ai λB=>?_;refine NL ?_
 refine JI ?_;refine BE (h:=(hko ..)) (k:=?_);refine JB ?_;refine JD ?_;(iterate 5 refine WO ?_);refine HT [_,_,_,_,_] (h:=hsr) λb hb=>?_;refine KO ?_
 obtain⟨i,fd⟩:=b;dsimp only
 skip
 refine AOps.nil ?_;refine JA ?_;refine OU (λz:Ar×List Tab×Tab×List Tab=>ArOK z.1/\z.1.ts=z.2.1++z.2.2.1::z.2.2.2/\z.2.2.1.ks=ks/\If z.2.1/\If z.2.2.2/\z.2.1.length=i/\z.1.A=a.A/\z.1.kinds=a.kinds/\z.1.gens=a.gens/\Cw z.1.ts=Cw a.ts/\B5 z.1.ts=B5 a.ts) (λz=>⟨[(0,.ptr a.A 0 0),(2,B3 false false l),(4,.ptr B 0 0),(7,iA i)],(B,.row 32 2 [CI e])::(arS z.1++Sf)⟩) ?_ ?_
 ·cases fd with
  |true=>
   refine AB rfl rfl ?_;obtain⟨t,ht,hz⟩:=hb.eq.1 rfl;obtain⟨hi,rfl⟩:=AE.1 ht;obtain⟨l1,l2,e1,e2⟩:=KB hi;have h1:If l1:=λu hu=>hne u (by rw[e1];simp[hu])
   have h2:If l2:=λu hu=>hne u (by rw[e1];simp[hu])
   refine KK ?_;refine jnR (a,l1,a.ts[i],l2) ⟨ha,e1,cmpL_zero.1 hz,h1,h2,e2,rfl,rfl,rfl,rfl,rfl⟩ ⟨by exact FE,?_⟩;simp only[arS,CT,Bz];exact DY _
  |false=>
   refine An rfl rfl ?_;refine JI ?_;refine iT (C:=λ_=>True) [] (h:=newE_sp.mono λr' S' ⟨k,e1,e2⟩=>⟨k,CZ,e1,e2⟩) λek _=>?_;refine KO ?_;refine Ai λX=>?_;refine WO ?_
   refine AOps.nil ?_;refine FL ?_;refine CM (Y:=X) 209 1 .here (λC=>.cons (.agg (.s (.s (.cons (.base .nil) .nil)))) .nil) λC=>?_
   refine JH ?_;refine BQ ek.M ?_;refine BQ ek.R ?_;refine BQ ek.V ?_;refine BQ ek.X ?_;refine BQ B ?_;refine BQ X ?_;refine BQ C ?_;refine ET (λ(j C:Nat) (cs:List (StK×List (Int×List Int)))=>⟨[(0,.ptr a.A 0 0),(2,B3 false false l),(4,.ptr B 0 0),(6,Av false ks),(7,iA i),(9,.ptr X 0 0),(31,iA (ks.map iA).length),(32,iA j)],(C,.row 209 1 (cs.map λc=>.ptr c.1.X 0 0))::(X,.row 123 3 [.agg [Av false ks,.ptr ek.X 0 0,.sl C 0 cs.length]])::(B,.row 32 2 [CI e])::(stE ek []++(arH a++(DU cs++(Cl a.ts++Sf))))⟩) (λj C cs=>j<=ks.length/\cs.length=j/\∀c∈cs,c.2=[]) (λj _ _=>ks.length-j) 0 C [] ⟨by omega,rfl,by simp⟩ ?_;rintro j C cs ⟨hj,hcl,hce⟩;have hpl:(cs.map λc=>AV.ptr c.1.X 0 0).length=cs.length:=AD _;refine JH ?_;refine AC rfl (λh=>?_) (λh=>?_)
   ·have h:j<ks.length:=by rw[AS,hkm]at h;omega
    refine FL ?_;refine CN λY1=>CN λY2=>CN λY3=>CN λY4=>CN λY5=>?_
    (repeat refine WF ?_);refine AWP.region_runE (by kernel_rfl) (by kernel_rfl) ?_;(repeat refine PT ?_);refine iC Y1 Y2 Y3 Y4 ⟨0,0,0,0⟩ f9 λk=>?_
    refine H1 (AV.ptr k.X 0 0) ?_;(iterate 4 refine RK ?_);refine RGo.nil (by kernel_rfl) ?_;have hma:(cs.map λc=>AV.ptr c.1.X 0 0)++[AV.ptr k.X 0 0]=(cs++[(k,([]:List (Int×List Int)))]).map λc=>AV.ptr c.1.X 0 0:=by rw[AK];rfl
    have hml:cs.length+[AV.ptr k.X 0 0].length=(cs++[(k,([]:List (Int×List Int)))]).length:=by rw[AJ];rfl
    rw[hma,hml];refine FL ?_;refine BQ k.M ?_;refine BQ k.R ?_;refine BQ k.V ?_;refine BQ k.X ?_;refine BQ B ?_;refine BQ C ?_;refine BQ X ?_;refine BQ Y5 ?_;refine AWP.perm (S':=(Y5,.row 209 1 ((cs++[(k,([]:List (Int×List Int)))]).map λc=>AV.ptr c.1.X 0 0))::(X,.row 123 3 [.agg [Av false ks,.ptr ek.X 0 0,.sl Y5 0 (cs++[(k,([]:List (Int×List Int)))]).length]])::(C,.used)::(B,.row 32 2 [CI e])::(stE ek []++(arH a++(DU (cs++[(k,([]:List (Int×List Int)))])++(Cl a.ts++Sf))))) ?_ ?_
    ·refine A9 _ (A9 _ (A9 _ (A9 _ ?_)))
     rw[GW,GI];exact cZ (stS k []) (stE ek []) (arH a) (DU cs) (Cl a.ts++Sf)
    ·refine R1 ?_
     exact Cs (j+1) Y5 (cs++[(k,[])]) ⟨by omega,by rw[AJ,hcl];rfl,λc hc=>by
      rcases AL.1 hc with hc|hc
      ·exact hce c hc
      ·rw[DC]at hc;subst hc;rfl⟩ (by omega)
   ·have h:j=ks.length:=by rw[AZ,hkm]at h;omega
    have hF:AV.frzs (((cs.map λc=>AV.ptr c.1.X 0 0).drop 0).take cs.length)=cs.map λc=>AV.ptr c.1.X 0 0:=by
     rw[B7,Aj (by omega),H9,Ch];rfl
    refine FL ?_;refine D7 (X:=C) (Y:=X) .here (.next .here) rfl (.cons (.agg (.s (.s (.cons (.base (.sl (by omega))) .nil)))) .nil) ?_;rw[hF];have hi:=hb.le;dsimp only at hi;have hpt:(ptrs Tab.X a.ts).length=a.ts.length:=AD _;refine CN λY=>CN λK2=>?_
    refine RG ?_;(iterate 7 refine WO ?_);refine DO (W.lit1 (X:=K2) (l:=[.ptr X 0 0]) (by exact rfl) (by exact Az) (by exact rfl) (by exact .inr rfl) (by decide) (by decide) (by exact rfl)) rfl ?_;have hfq:FreeL (ptrs Tab.X a.ts):=λx hx=>by obtain⟨y,_,rfl⟩:=Ag.1 hx;exact U9 _
    have hwq:∀x∈ptrs Tab.X a.ts,x.width=1:=λx hx=>by obtain⟨y,_,rfl⟩:=Ag.1 hx;rfl
    have hins:=(XR a.Tb K2 a.ts.length i (ptrs Tab.X a.ts) (.ptr X 0 0) hpt.symm hi (by omega) hfq (U9 _) hwq rfl rfl).used2;refine iO hins (.ls (Y:=Y)) ?_;refine KO ?_;obtain⟨t',ht'⟩:∃t':Tab,t'=⟨X,ks,ek,[],cs⟩:=⟨_,rfl⟩
    have hrow:(ptrs Tab.X a.ts).take i++ .ptr X 0 0::(ptrs Tab.X a.ts).drop i=ptrs Tab.X (a.ts.take i++t'::a.ts.drop i):=by
     rw[ptrs,ptrs,AK,D9,Aa,List.map_drop,ht']
    have hrl:(ptrs Tab.X (a.ts.take i++t'::a.ts.drop i)).length=(a.ts.take i++t'::a.ts.drop i).length:=AD _;rw[hrow,hrl];dsimp only[BA,List.set_cons_zero,List.set_cons_succ,CT,Bz];refine D1 ek.M ?_;refine D1 ek.R ?_;refine D1 ek.V ?_;refine D1 ek.X ?_;refine D1 X ?_;refine D1 Y ?_;refine D1 a.Tv ?_;refine D1 a.O ?_;refine D1 a.G ?_;refine D1 a.A ?_;refine D1 B ?_;refine D1 a.Tb ?_;refine D1 C ?_;refine D1 K2 ?_;obtain⟨a',ha'⟩:∃a':Ar,a'={a with Tb:=Y,ts:=a.ts.take i++t'::a.ts.drop i}:=⟨_,rfl⟩
    have htok:TabOK t':=by
     rw[ht'];exact⟨by dsimp only;omega,by dsimp only;omega,⟨UP,by simp⟩,λc hc=>by rw[hce c hc];exact⟨UP,by simp⟩,λc hc n=>by rw[hce c hc];exact Iff.rfl⟩
    have hte:t'.es=[]:=by rw[ht']
    have htk:t'.ks=ks:=by rw[ht']
    have hb':Found (λu:Tab=>Ew u.ks t'.ks) a.ts (i,false):=by rw[htk];exact hb
    have hok:ArOK a':=by rw[ha'];exact ha.newT htok hte hb'
    refine AOps.perm (S':=(K2,.used)::(C,.used)::(a.Tb,.used)::(B,.row 32 2 [CI e])::(arS a'++Sf)) ?_ ?_
    ·refine A9 _ (A9 _ (A9 _ (A9 _ ?_)))
     subst ha';refine A9 _ (A9 _ (A9 _ (A9 _ (A9 _ ?_))));have hz:=GO (l1:=a.ts.take i) (l2:=a.ts.drop i) (t:=t') Sf;have hz2:Cl (a.ts.take i)++(Cl (a.ts.drop i)++Sf)=Cl a.ts++Sf:=by rw[<-Aq,<-Ls,B8]
     rw[hz2]at hz;subst ht';exact hz.symm
    ·refine AOps.nil ?_
     refine FL ?_;subst ha';refine jnR ({a with Tb:=Y,ts:=a.ts.take i++t'::a.ts.drop i},a.ts.take i,t',a.ts.drop i) ⟨hok,rfl,htk,λu hu=>hne u (BN hu),λu hu=>hne u (BW hu),by rw[Ba];omega,rfl,rfl,rfl,aX hte,XO hte⟩ ⟨by exact FE,?_⟩;exact .cons _ (.cons _ (.cons _ (.refl _)))
 ·rintro⟨a',l1,t,l2⟩ ⟨hok,hts,htk,hn1,hn2,hil,hA,hki,hge,hke,hit⟩
  dsimp only at hok hts htk hn1 hn2 hil hA hki hge hke hit⊢;rw[<-hA];obtain⟨Z,hZ⟩:=nm (Cl l1++(Cl l2++Sf));have hop:=GO (l1:=l1) (l2:=l2) (t:=t) Sf;rw[<-hts,hZ]at hop;refine AWP.perm (S':=(B,.row 32 2 [CI e])::(arH a'++(IP t++Z))) ?_ ?_
  ·refine A9 _ ?_
   rw[arS,Aq];exact hop.append_left _
  have htm:t∈a'.ts:=by rw[hts];simp
  have hto:=hok.tab t htm
  have hat:(ptrs Tab.X a'.ts)[i]?=some (.ptr t.X 0 0):=by
   rw[Ac,hts,BX (by omega),hil,Co];rfl
  have hil2:i<a'.ts.length:=by rw[hts,AJ,Bl];omega
  have hft:e.n∉Am t.es:=λhm=>hf (by rw[<-hke];exact CG.2 ⟨t,htm,hm⟩)
  have hpe:=(du t.ek t.es hto.es e.n e hn).tt;have hlm:(l.map (Ae false)).length=l.length:=AD _;have hlc:t.cs.length=l.length:=by rw[<-hto.len,htk,hkl]
  refine JD ?_;(iterate 5 refine WO ?_);refine Ad ?_ (W.idx rfl rfl (by exact Az) rfl (by omega) (Ao _));refine JE ?_;refine FL ?_;(repeat refine WF ?_);refine Gs 7 (by kernel_rfl) (by kernel_rfl) (by kernel_rfl) ?_;dsimp only[List.take,List.drop];(iterate 7 refine RK ?_);refine RGo.nil (by kernel_rfl) ?_;refine HT [_,_,_,_,_,_,_] (h:=hpe) λq _=>?_
  refine AOps.nil ?_;obtain⟨k',hk'⟩:∃k':StK,k'=⟨t.ek.X,q.1,q.2,t.ek.M⟩:=⟨_,rfl⟩;rw[<-hk'];refine JA ?_;refine Cq (λ(j:Nat) (cs:List (StK×List (Int×List Int)))=>⟨[(0,.ptr a'.A 0 0),(4,.ptr B 0 0),(10,.ptr t.X 0 0),(71,B3 false false l),(72,iA (l.map (Ae false)).length),(73,iA j)],(B,.row 32 2 [CI e])::(arH a'++(Ha t::(stE k' (Dd t.es e.n e)++(DU cs++Z))))⟩) (λj cs=>j<=l.length/\CsUp e.n l j t.cs cs) (λj _=>l.length-j) 0 t.cs ⟨by omega,.zero _ _ _⟩ ?_;rintro j cs ⟨hj,hcs⟩;have hcl:=hcs.len;have hcp:=hcs.ptrs;refine JH ?_;refine AC rfl (λh=>?_) (λh=>?_)
  ·have h:j<l.length:=by rw[AS,hlm]at h;omega
   have hjc:j<cs.length:=by omega
   have hjt:j<t.cs.length:=by omega
   have hlat:(l.map (Ae false))[j]?=some (Ae false l[j]):=DK _ h;have hlil:j<(l.map (Ae false)).length:=by omega
   have hcat:(t.cs.map λc=>AV.ptr c.1.X 0 0)[j]?=some (.ptr cs[j].1.X 0 0):=by rw[<-hcp];exact DK _ hjc
   have hcil:j<(t.cs.map λc=>AV.ptr c.1.X 0 0).length:=by rw[AD];omega
   have hcj:cs[j].2=t.cs[j].2:=by rw[hcs.c j hjt hjc,AI (by omega)]
   have hcok:ColOK cs[j].2:=by rw[hcj];exact hto.cs _ (As hjt)
   obtain⟨m1,m2,hsp,hm1⟩:=KB hjc;have hlj:l[j]?=some l[j]:=AX h;obtain⟨⟨ck,cv⟩,hce⟩:=nm (l[j]);rw[hce]at hlat hlj;obtain⟨c,hcc⟩:=nm (cs[j]);rw[hcc]at hcat hcok hsp;have hpu:=(Vr c.1 c.2 hcok e.n cv hn).tt;refine JL ?_;refine Ai λC=>?_;refine JE ?_
   refine FL ?_
   have heq:(C,AO.row 42 2 [Ae false ⟨ck,cv⟩])::(B,AO.row 32 2 [CI e])::(arH a'++(Ha t::(stE k' (Dd t.es e.n e)++(DU cs++Z))))=((C,AO.row 42 2 [Ae false ⟨ck,cv⟩])::(B,AO.row 32 2 [CI e])::(arH a'++(Ha t::(stE k' (Dd t.es e.n e)++DU m1))))++(stS c.1 c.2++(DU m2++Z)):=by
    rw[hsp,GW,GI];simp only[CT,Aq,Bz]
   (repeat refine WF ?_);refine Gs 11 (by kernel_rfl) (by kernel_rfl) (by kernel_rfl) ?_;dsimp only[List.take,List.drop];(iterate 11 refine RK ?_);refine RGo.nil (by kernel_rfl) ?_;refine HT _ hpu (λq2 _=>?_) (hp:=heq)
   have heq2:((C,AO.row 42 2 [Ae false ⟨ck,cv⟩])::(B,AO.row 32 2 [CI e])::(arH a'++(Ha t::(stE k' (Dd t.es e.n e)++DU m1))))++(stS ⟨c.1.X,q2.1,q2.2,c.1.M⟩ (Dd c.2 e.n cv)++(DU m2++Z))=(C,AO.row 42 2 [Ae false ⟨ck,cv⟩])::(B,AO.row 32 2 [CI e])::(arH a'++(Ha t::(stE k' (Dd t.es e.n e)++(DU (m1++((⟨c.1.X,q2.1,q2.2,c.1.M⟩:StK),Dd c.2 e.n cv)::m2)++Z)))):=by
    rw[GW,GI];simp only[CT,Aq,Bz]
   refine AOps.perm (C8 heq2) ?_;refine AOps.nil ?_;refine JF ?_;exact CA (j+1) (m1++((⟨c.1.X,q2.1,q2.2,c.1.M⟩:StK),Dd c.2 e.n cv)::m2) ⟨by omega,hcs.next hsp hm1 (by rw[hlj];rfl) _ rfl⟩ (by omega)
  ·have h:j=l.length:=by rw[AZ,hlm]at h;omega
   subst h;rw[<-hlc]at hcs;have hfa:e.n∉Cw a'.ts:=by rw[hke];exact hf
   have hgn:a'.g e.n=none:=by
    cases hg:a'.g e.n with
    |none=>rfl
    |some u=>
     obtain⟨w,hw,h2,_⟩:=hok.g _ _ hg;exact absurd (CG.2 ⟨w,hw,h2⟩) hfa
   have hsz:(if(a'.g e.n).isSome then a'.c else a'.c+1)=a'.c+1:=by rw[hgn];rfl
   have hmx:a'.c<maxLen:=by have:=hok.c_le;unfold maxLen;omega
   refine FL ?_;refine WC (X:=t.X) 10 (λb=>?_);obtain⟨K',hK'⟩:∃K':AV->Value->Prop,K'=λv u=>a'.K v u\/(v= .ptr t.X 0 0/\u= .pointer (some ⟨b,0,none⟩)):=⟨_,rfl⟩
   rw[<-hK'];refine AWP.perm (S':=(B,.row 32 2 [CI e])::(arH {a' with ts:=l1++upT t k' e cs::l2,K:=K'}++(Cl (l1++upT t k' e cs::l2)++Sf))) ?_ ?_
   ·refine A9 _ ?_
    have hln:(l1++upT t k' e cs::l2).length=a'.ts.length:=by rw[hts];simp
    have hpr:ptrs Tab.X (l1++upT t k' e cs::l2)=ptrs Tab.X a'.ts:=by rw[hts,ptrs,ptrs,AK,AK,Aa,Aa]
    show List.Perm ([(a'.A,.row 115 4 [.agg [BZ false false a'.kinds,.sl a'.G 0 a'.gens.length,.sl a'.Tb 0 a'.ts.length,.mp a'.O]]),(a'.G,.row 3 1 (a'.gens.map iA)),(a'.O,.ob (MapF prog 3 117 a'.g a'.c)),(a'.Tv,.tv K'),(a'.Tb,.row 117 1 (ptrs Tab.X a'.ts))]++(Ha t::(stE k' (Dd t.es e.n e)++(DU cs++Z)))) ([(a'.A,.row 115 4 [.agg [BZ false false a'.kinds,.sl a'.G 0 a'.gens.length,.sl a'.Tb 0 (l1++upT t k' e cs::l2).length,.mp a'.O]]),(a'.G,.row 3 1 (a'.gens.map iA)),(a'.O,.ob (MapF prog 3 117 a'.g a'.c)),(a'.Tv,.tv K'),(a'.Tb,.row 117 1 (ptrs Tab.X (l1++upT t k' e cs::l2)))]++(Cl (l1++upT t k' e cs::l2)++Sf))
    rw[hln,hpr];refine B9 _ ?_;refine MD ?_ (GO (l1:=l1) (l2:=l2) (t:=upT t k' e cs) Sf).symm;rw[hZ];refine C8 ?_;have hkx:k'.X=t.ek.X:=by rw[hk']
    show _=((t.X,AO.row 123 3 [.agg [Av false t.ks,.ptr k'.X 0 0,Vw cs]])::(stE k' (Dd t.es e.n e)++DU cs))++Z
    rw[hkx,Vw,hcp];rfl
   ·refine RU ?_;(iterate 7 refine RK ?_);refine H0 ?_ (W.mapUpd (PlainV.ptr (te:=123) (by kernel_rfl) b) (by omega) hmx rfl rfl rfl (by exact Az));refine RGo.nil (by kernel_rfl) ?_
    rw[hsz];have hup:ArOK {a' with ts:=l1++upT t k' e cs::l2,K:=K',g:=H4 a'.g e.n (.pointer (some ⟨b,0,none⟩)),c:=a'.c+1}:=hok.up hts hn hfa hcs (λv u h=>by rw[hK'];exact .inl h) (by rw[hK'];exact .inr ⟨rfl,rfl⟩);have hitm:=dN (l1:=l1) (l2:=l2) (k:=k') hto hn hft (htk.trans hks.symm) hcs;rw[<-hts,hit]at hitm;refine Eo ?_;exact Ends.sp [] (arS {a' with ts:=l1++upT t k' e cs::l2,K:=K',g:=H4 a'.g e.n (.pointer (some ⟨b,0,none⟩)),c:=a'.c+1}) ⟨_,⟨hup,j9 hn1 hn2 hft,rfl,hki,hge,hitm⟩,rfl,rfl⟩
def Iw(a:Ar)(l1 l2:List Tab)(t:Tab)(n:Int)(Y:Nat):Ar:=if(DD t.es n).length=0 then{a with Tb:=Y,ts:=l1++l2,g:=KL a.g n,c:=a.c-1}else{a with ts:=l1++HA t n::l2,g:=KL a.g n,c:=a.c-1}
theorem QB(h:ArOK a)(hne:If a.ts){l1 l2:List Tab}(hts:a.ts=l1++t::l2){n:Int}(hm:(n,e)∈t.es)(Y:Nat):ArOK (Iw a l1 l2 t n Y)/\If (Iw a l1 l2 t n Y).ts/\(Iw a l1 l2 t n Y).A=a.A/\(Iw a l1 l2 t n Y).kinds=a.kinds/\(Iw a l1 l2 t n Y).gens=a.gens/\(B5 a.ts).Perm (⟨e,BH t n⟩::B5 (Iw a l1 l2 t n Y).ts):=by
 have h1:=h.down hts hm;have h2:=QL h hts hm;unfold Iw;split
 ·rename_i h0
  have h0:(HA t n).es=[]:=CP h0;refine⟨h1.less (Y:=Y) rfl h0,λu hu=>hne u ?_,rfl,rfl,rfl,by rw[XP h0]at h2;exact h2⟩;rw[hts];rcases AL.1 hu with hu|hu<;>simp[hu]
 ·rename_i h0
  refine⟨h1,λu hu=>?_,rfl,rfl,rfl,h2⟩;rcases AL.1 hu with hu|hu
  ·exact hne u (by rw[hts];simp[hu])
  ·rcases AP.1 hu with rfl|hu
   ·exact λe2=>h0 (by rw[show DD t.es n=[]from e2];rfl)
   ·exact hne u (by rw[hts];simp[hu])
theorem ZT(P X:Nat)(l:List AV)(h0:0<l.length)(R:List AR):Spec prog 282 [.ptr X 0 0,.ptr P 0 0] ((P,.row 117 1 [.ptr X 0 0])::(X,.row 123 3 l)::R) λr S'=>r=bA true/\S'=(P,.row 117 1 [.ptr X 0 0])::(X,.row 123 3 l)::R:=by
 refine Sp (nt:=7) (res:=[.tmp 3]) func282 λSf=>?_
 refine R1 ?_;refine JI ?_;refine WO ?_;refine Ad ?_ (W.eqPtrS h0 rfl rfl (by exact Az));refine JB ?_;refine RT ?_;exact Ends.sp [bA true] ((P,.row 117 1 [.ptr X 0 0])::(X,.row 123 3 l)::R) ⟨rfl,rfl⟩
theorem cK(P X Y:Nat)(l l2:List AV)(h0:0<l.length)(h1:0<l2.length)(R:List AR):Spec prog 282 [.ptr Y 0 0,.ptr P 0 0] ((P,.row 117 1 [.ptr X 0 0])::(X,.row 123 3 l)::(Y,.row 123 3 l2)::R) λr S'=>r=bA false/\S'=(P,.row 117 1 [.ptr X 0 0])::(X,.row 123 3 l)::(Y,.row 123 3 l2)::R:=by
 refine Sp (nt:=7) (res:=[.tmp 3]) func282 λSf=>?_
 refine R1 ?_;refine JI ?_;refine WO ?_;refine Ad ?_ (W.eqPtrD (p:=2) (q:=1) h1 h0 rfl rfl (.next (.next .here)) (.next .here) (by decide));refine JB ?_;refine RT ?_;exact Ends.sp [bA false] ((P,.row 117 1 [.ptr X 0 0])::(X,.row 123 3 l)::(Y,.row 123 3 l2)::R) ⟨rfl,rfl⟩
theorem ZW{us:List Tab}{x:Tab}(h:x∈us):∃Z,(Cl us).Perm (Ha x::Z):=by
 obtain⟨m1,m2,rfl⟩:=JU h;have:=GO (l1:=m1) (l2:=m2) (t:=x) [];rw[A8]at this;exact⟨_,this⟩
theorem ZU(P:Nat)(l1 l2:List Tab)(t:Tab)(ho:(l1++t::l2).Pairwise λx y:Tab=>Ew x.ks y.ks<0):∀x∈l1++t::l2,Spec prog 282 (.ptr x.X 0 0::[.ptr P 0 0]) ((P,.row 117 1 [.ptr t.X 0 0])::(IP t++(Cl l1++Cl l2))) λr S'=>r=bA (decide (x.ks=t.ks))/\S'=(P,.row 117 1 [.ptr t.X 0 0])::(IP t++(Cl l1++Cl l2)):=by
 intro x hx
 have hd:x∈l1++l2->x.ks≠t.ks:=λh e=>by
  have h1:Ew x.ks t.ks=0:=cmpL_zero.2 e;have h2:Ew t.ks x.ks=0:=cmpL_zero.2 e.symm;rw[CL]at ho;rcases AL.1 h with h|h
  ·have:=ho.2.2 x h t (by simp);omega
  ·have:=(Al.1 ho.2.1).1 x h;omega
 have hc:x=t\/x∈l1++l2:=by
  rcases AL.1 hx with h|h
  ·exact .inr (by simp[h])
  ·rcases AP.1 h with h|h
   ·exact .inl h
   ·exact .inr (by simp[h])
 rcases hc with rfl|hc
 ·rw[BP rfl]
  exact ZT P x.X _ (by exact Nat.zero_lt_succ _) _
 ·rw[Au (hd hc)]
  obtain⟨Z,hZ⟩:=ZW hc;rw[Ls]at hZ
  have hp:((P,AO.row 117 1 [.ptr t.X 0 0])::(IP t++(Cl l1++Cl l2))).Perm ((P,.row 117 1 [.ptr t.X 0 0])::Ha t::Ha x::((stE t.ek t.es++DU t.cs)++Z)):=by
   refine A9 _ (A9 _ ?_);refine(hZ.append_left (stE t.ek t.es++DU t.cs)).trans ?_;exact EG (stE t.ek t.es++DU t.cs) [Ha x] Z
  exact(cK P t.X x.X _ _ (by exact Nat.zero_lt_succ _) (by exact Nat.zero_lt_succ _) _).perm hp λr S' ⟨h1,h2⟩=>⟨_,by rw[h2];exact hp.symm,h1,rfl⟩
theorem TT(a:Ar)(ha:ArOK a)(hne:If a.ts){l1 l2:List Tab}(hts:a.ts=l1++t::l2){n:Int}(hnk:n∈Am t.es):Spec prog 272 [.ptr a.A 0 0,iA n] (arS a) λr S'=>∃Y:Nat,True/\r= .lst true 42 2 ((BH t n).map (Ae false))/\S'=arS (Iw a l1 l2 t n Y):=by
 have htm:t∈a.ts:=by rw[hts];simp
 have hto:=ha.tab t htm;have hnl:=hto.es.lt n hnk;have hn:I64 n:=by constructor<;>omega
 have hsm:=ha.gn n (CG.2 ⟨t,htm,hnk⟩);obtain⟨u,hu⟩:∃u,a.g n=some u:=IZ.1 hsm;obtain⟨w,hw,hwn,hK,b,hb⟩:=ha.g n u hu;have hwt:=ha.uniq hw htm hwn hnk;subst hwt;have hgd:(a.g n).getD (.pointer none)=u:=by rw[hu];rfl
 have hone:u.oneCell'=true:=by rw[hb];rfl
 have hcs:=Vs w n hto hn hnk;have hdE:=dm w.ek w.es hto.es n hn;have hlE:=dv w.ek (DD w.es n);have hc16:w.cs.length<=16:=by have:=hto.ks;have:=hto.len;omega
 have hcpl:(w.cs.map λc=>AV.ptr c.1.X 0 0).length=w.cs.length:=AD _;have hsz:(if(a.g n).isSome then a.c-1 else a.c)=a.c-1:=by rw[hsm];rfl
 obtain⟨⟨m,e⟩,hm,he⟩:=Ag.1 hnk;have he:m=n:=he;rw[he]at hm;have hdn:=ha.down hts hm;obtain⟨w',hw'⟩:∃w',w'=HA w n:=⟨_,rfl⟩;have htl:=ha.ts_le hne;have hhd:Ha w=Ha w':=by rw[hw'];show(w.X,AO.row 123 3 [.agg [Av false w.ks,.ptr w.ek.X 0 0,Vw w.cs]])=(w.X,AO.row 123 3 [.agg [Av false w.ks,.ptr w.ek.X 0 0,Vw (w.cs.map (LC n))]]);rw[Vw,Vw,Ch];rfl
 have hln:a.ts.length=(l1++w'::l2).length:=by rw[hts];simp
 have hpr:ptrs Tab.X a.ts=ptrs Tab.X (l1++w'::l2):=by rw[hts,hw',ptrs,ptrs,AK,AK,Aa,Aa]
 have hflt:(l1++w'::l2).filter (λx=>!decide (x.ks=w'.ks))=l1++l2:=by
  have ho:(l1++w'::l2).Pairwise λx y:Tab=>Ew x.ks y.ks<0:=by rw[hw'];exact hdn.ord
  have hd:∀x∈l1++l2,x.ks≠w'.ks:=λx h e=>by
   have h1:Ew x.ks w'.ks=0:=cmpL_zero.2 e;have h2:Ew w'.ks x.ks=0:=cmpL_zero.2 e.symm;rw[CL]at ho;rcases AL.1 h with h|h
   ·have:=ho.2.2 x h w' (by simp);omega
   ·have:=(Al.1 ho.2.1).1 x h;omega
  rw[Fw,List.filter_cons_of_neg (by simp),<-Fw,FX];intro x hx;simp[hd x hx]
 refine Sp (nt:=58) (res:=[.tmp 4]) func272 λSf=>?_
 obtain⟨Z,hZ⟩:=nm (Cl l1++(Cl l2++Sf));have hop:=GO (l1:=l1) (l2:=l2) (t:=w) Sf;rw[<-hts,hZ]at hop;refine R1 ?_;refine AWP.perm (S':=arH a++(IP w++Z)) ?_ ?_
 ·rw[arS,Aq]
  exact hop.append_left _
 refine JD ?_;(repeat first|(refine Bm ?_;first|refine YE 14 (.ptr w.X 0 0) hK ?_|refine Ad ?_ (Nj _ hgd hn rfl rfl (by exact Az) hone))|refine WO ?_|refine Ai λP5=>?_|refine Ay λY=>?_);refine NL ?_;refine JI ?_;refine WO ?_;refine WG [_,_,_,_,_,_] hcs λK=>?_;refine JB ?_;refine AWP.perm (S':=(K,.row 42 2 ((BH w n).map (Ae false)))::(P5,.row 117 1 [.ptr w.X 0 0])::(arH a++(Ha w::(stE w.ek w.es++(DU w.cs++Z))))) (C8 (by first|rfl|(simp only[CT,Aq,Bz];done)|(simp only[CT,Aq,Bz];rfl))) ?_;rw[AD];refine JD ?_;(iterate 5 refine WO ?_);refine H3 [_,_,_,_,_,_,_,_] hdE ?_;refine NL ?_;refine JA ?_;refine Cd (λ(j:Nat)=>⟨[(0,.ptr a.A 0 0),(1,iA n),(5,.ptr P5 0 0),(6,.sl K 0 (BH w n).length),(27,Vw w.cs),(28,iA (w.cs.map λc=>AV.ptr c.1.X 0 0).length),(29,iA j)],(K,.row 42 2 ((BH w n).map (Ae false)))::(P5,.row 117 1 [.ptr w.X 0 0])::(arH a++(Ha w::(stE w.ek (DD w.es n)++(DU ((w.cs.take j).map (LC n)++w.cs.drop j)++Z))))⟩) (λj=>j<=w.cs.length) (λj=>w.cs.length-j) 0 (by omega) ?_;rintro j hj;refine JH ?_;refine AC rfl (λh=>?_) (λh=>?_)
 ·have h:j<w.cs.length:=by rw[AS,hcpl]at h;omega
  have hcat:(w.cs.map λc=>AV.ptr c.1.X 0 0)[j]?=some (.ptr w.cs[j].1.X 0 0):=DK _ h;have hcil:j<(w.cs.map λc=>AV.ptr c.1.X 0 0).length:=by omega
  have hcok:=hto.cs _ (As h);have hdj:w.cs.drop j=w.cs[j]::w.cs.drop (j+1):=(List.getElem_cons_drop h).symm;have htj:(w.cs.take (j+1)).map (LC n)=(w.cs.take j).map (LC n)++[LC n w.cs[j]]:=by rw[Aw h,AK];rfl
  obtain⟨c,hcc⟩:=nm (w.cs[j]);rw[hcc]at hcat hcok hdj htj;have hdS:=dk c.1 c.2 hcok n hn
  have heq:(K,AO.row 42 2 ((BH w n).map (Ae false)))::(P5,AO.row 117 1 [.ptr w.X 0 0])::(arH a++(Ha w::(stE w.ek (DD w.es n)++(DU ((w.cs.take j).map (LC n)++w.cs.drop j)++Z))))=((K,AO.row 42 2 ((BH w n).map (Ae false)))::(P5,AO.row 117 1 [.ptr w.X 0 0])::(arH a++(Ha w::(stE w.ek (DD w.es n)++DU ((w.cs.take j).map (LC n))))))++(stS c.1 c.2++(DU (w.cs.drop (j+1))++Z)):=by
   rw[hdj,GW,GI];simp only[CT,Aq,Bz]
  have heq2:((K,AO.row 42 2 ((BH w n).map (Ae false)))::(P5,AO.row 117 1 [.ptr w.X 0 0])::(arH a++(Ha w::(stE w.ek (DD w.es n)++DU ((w.cs.take j).map (LC n))))))++(stS c.1 (DD c.2 n)++(DU (w.cs.drop (j+1))++Z))=(K,AO.row 42 2 ((BH w n).map (Ae false)))::(P5,AO.row 117 1 [.ptr w.X 0 0])::(arH a++(Ha w::(stE w.ek (DD w.es n)++(DU ((w.cs.take (j+1)).map (LC n)++w.cs.drop (j+1))++Z)))):=by
   rw[htj,GW,GW,GI];simp only[CT,Aq,Bz,DU,IJ]
  refine JA ?_;refine JG ?_;refine WO ?_;refine H3 _ hdS ?_ (hp:=heq);refine NL ?_;refine AWP.perm (C8 heq2) ?_;refine R1 ?_;exact Bb (j+1) (by omega)
 ·have h:j=w.cs.length:=by rw[AZ,hcpl]at h;omega
  subst h;rw[Bg,CY,A8];refine JD ?_;(iterate 5 refine WO ?_);refine Lo ?_ (W.mapDel hn rfl rfl (by exact Az));refine NL ?_;rw[hsz];refine JD ?_;(iterate 4 refine WO ?_);refine ZD [_,_,_,_,_,_,_,_] hlE ?_;refine JB ?_;have hst:stE w.ek (DD w.es n)++(DU (w.cs.map (LC n))++Z)=(stE w'.ek w'.es++DU w'.cs)++Z:=by rw[hw',Aq]
  have hXX:w.X=w'.X:=by rw[hw']
  have hlw:(DD w.es n).length=w'.es.length:=by rw[hw']
  rw[hst,hhd,hln,hpr,hXX];refine AC rfl (λh0=>?_) (λh0=>?_)
  ·have h0:(DD w.es n).length=0:=by rw[AS]at h0;omega
   have hdel:=Xf a.Tb (l1++w'::l2) Tab.X ((P5,.row 117 1 [.ptr w'.X 0 0])::(IP w'++(Cl l1++Cl l2))) 282 [.ptr P5 0 0] (λx=>decide (x.ks=w'.ks)) rfl (by rw[<-hln];omega) (ZU P5 l1 l2 w' (by rw[hw'];exact hdn.ord));rw[hflt]at hdel;rw[<-hZ];refine AWP.perm (S':=(K,.row 42 2 ((BH w n).map (Ae false)))::(a.A,.row 115 4 [.agg [BZ false false a.kinds,.sl a.G 0 a.gens.length,.sl a.Tb 0 (l1++w'::l2).length,.mp a.O]])::(a.G,.row 3 1 (a.gens.map iA))::(a.O,.ob (MapF prog 3 117 (KL a.g n) (a.c-1)))::(a.Tv,.tv a.K)::(((a.Tb,.row 117 1 (ptrs Tab.X (l1++w'::l2)))::((P5,.row 117 1 [.ptr w'.X 0 0])::(IP w'++(Cl l1++Cl l2))))++Sf)) ?_ ?_
   ·refine A9 _ ?_
    have h1:=EG [(a.A,AO.row 115 4 [.agg [BZ false false a.kinds,.sl a.G 0 a.gens.length,.sl a.Tb 0 (l1++w'::l2).length,.mp a.O]]),(a.G,.row 3 1 (a.gens.map iA)),(a.O,.ob (MapF prog 3 117 (KL a.g n) (a.c-1))),(a.Tv,.tv a.K),(a.Tb,.row 117 1 (ptrs Tab.X (l1++w'::l2)))] [(P5,.row 117 1 [.ptr w'.X 0 0])] (IP w'++(Cl l1++(Cl l2++Sf)));refine MD (C8 ?_) (h1.symm.trans (C8 ?_))
    ·simp only[CT,Aq,Bz]
     rfl
    ·simp only[CT,Aq,Bz]
   refine JD ?_;(iterate 6 refine WO ?_);refine WG [_,_,_,_,_] hdel λY=>?_;refine JE ?_;dsimp only[BA,List.set_cons_zero,List.set_cons_succ,CT,Bz];refine BQ Y ?_;refine BQ a.Tv ?_;refine BQ a.O ?_;refine BQ a.G ?_;refine BQ a.A ?_;refine BQ P5 ?_;refine BQ K ?_;have hla:Iw a l1 l2 w n Y={a with Tb:=Y,ts:=l1++l2,g:=KL a.g n,c:=a.c-1}:=Ab h0;rw[show(ptrs Tab.X (l1++l2)).length=(l1++l2).length from AD _];refine R1 ?_;refine RT ?_;refine⟨[.sl K 0 (BH w n).length],[.lst true 42 2 ((BH w n).map (Ae false))],_,arS (Iw a l1 l2 w n Y),.cons (.tmp rfl) rfl .nil,.cons (.cell (.sl (p:=0) .here (by simp))) .nil,?_,Y,CZ,rfl,rfl⟩;rw[hla]
   have hsub:(Cl (l1++l2)++Sf).Sublist ((IP w'++(Cl l1++Cl l2))++Sf):=by
    rw[Ls];exact(ID _ _).append_right _
   exact .cons _ (.cons_cons _ (.cons_cons _ (.cons_cons _ (.cons_cons _ (.cons_cons _ hsub)))))
  ·have h0:¬(DD w.es n).length=0:=by rw[AZ]at h0;omega
   have hla:Iw a l1 l2 w n 0={a with ts:=l1++w'::l2,g:=KL a.g n,c:=a.c-1}:=by rw[hw'];exact AI h0
   have hop2:=GO (l1:=l1) (l2:=l2) (t:=w') Sf;rw[hZ]at hop2;refine AWP.perm (S':=(K,.row 42 2 ((BH w n).map (Ae false)))::(P5,.row 117 1 [.ptr w'.X 0 0])::(arH {a with ts:=l1++w'::l2,g:=KL a.g n,c:=a.c-1}++(Cl (l1++w'::l2)++Sf))) (A9 _ (A9 _ (hop2.symm.append_left (arH {a with ts:=l1++w'::l2,g:=KL a.g n,c:=a.c-1})))) ?_;rw[<-Aq];refine JM ?_;refine⟨[.sl K 0 (BH w n).length],[.lst true 42 2 ((BH w n).map (Ae false))],_,arS (Iw a l1 l2 w n 0),.cons (.tmp rfl) rfl .nil,.cons (.cell (.sl (p:=0) .here (by simp))) .nil,?_,0,CZ,rfl,rfl⟩;rw[hla];exact .cons _ (DY _)
theorem IA{l1 l2:List Tab}(h:a.ts=l1++t::l2)(Sf:List AR):(arS a++Sf).Perm (arH a++(Ha t::(stE t.ek t.es++(DU t.cs++(Cl l1++(Cl l2++Sf)))))):=by
 rw[arS,Aq];refine B9 _ ?_;rw[h];exact(GO Sf).trans (C8 (by simp only[CT,Aq]))
def Kn(a:Ar)(e:Ent):Bool:=decide (e∈(B5 a.ts).map (·.ent))
theorem dV(h:ArOK a)(ht:t∈a.ts){v:Ent}(hm:(e.n,v)∈t.es):Kn a e=decide (v=e):=by
 unfold Kn;refine decide_eq_decide.2 ⟨λhe=>?_,λhe=>?_⟩
 ·obtain⟨it,hit,rfl⟩:=Ag.1 he
  obtain⟨u,hu,hit⟩:=CG.1 hit;obtain⟨p,hp,rfl⟩:=Ag.1 hit;have hpn:=h.ent u hu p hp;have h1:p.2.n∈Am u.es:=Ag.2 ⟨p,hp,hpn⟩;have h2:p.2.n∈Am t.es:=Ag.2 ⟨_,hm,rfl⟩;have:=h.uniq ht hu h2 h1;subst this;have hto:=h.tab t ht;have h3:=(Ej hto.es).2 hm;have h4:=(Ej hto.es).2 (show(p.2.n,p.2)∈t.es by rw[<-hpn];exact hp);rw[h3]at h4;injection h4
 ·subst he
  refine Ag.2 ⟨⟨v,BH t v.n⟩,CG.2 ⟨t,ht,Ag.2 ⟨_,hm,rfl⟩⟩,rfl⟩
theorem gS(h:ArOK a)(hg:a.g e.n=none):Kn a e=false:=by
 unfold Kn;refine Au λhe=>?_
 obtain⟨it,hit,rfl⟩:=Ag.1 he;obtain⟨u,hu,hit⟩:=CG.1 hit;obtain⟨p,hp,rfl⟩:=Ag.1 hit;have hpn:=h.ent u hu p hp;have:=h.gn p.2.n (CG.2 ⟨u,hu,Ag.2 ⟨p,hp,hpn⟩⟩);rw[hg]at this;cases this
theorem OH(a:Ar)(ha:ArOK a)(e:Ent)(hn:I64 e.n):Spec prog 270 [.ptr a.A 0 0,CI e] (arS a) λr S'=>r=bA (Kn a e)/\S'=arS a:=by
 refine Sp (nt:=30) (res:=[.tmp 4]) func270 λSf=>?_
 cases hg:a.g e.n with
 |none=>
  have hgd:(a.g e.n).getD (.pointer none)= .pointer none:=by rw[hg];rfl
  rw[gS ha hg];refine JG ?_;refine Ai λB=>?_;refine JB ?_
  refine FL ?_;refine RU ?_;(iterate 6 refine RK ?_);refine BT ?_ (Nj _ hgd hn rfl rfl (by exact Az));refine RK ?_;refine RGo.nil (by kernel_rfl) ?_;refine JI ?_;refine Ad ?_ (W.eqNil true (.inl ⟨rfl,rfl⟩) rfl rfl);refine NL ?_;refine An rfl rfl ?_;refine JM ?_;exact Ends.sp [bA false] (arS a) ⟨rfl,rfl⟩
 |some u=>
  obtain⟨t,ht,htn,hK,b,hb⟩:=ha.g e.n u hg;have hto:=ha.tab t ht;obtain⟨⟨m,v⟩,hm,hme⟩:=Ag.1 htn;have hme:m=e.n:=hme;subst hme;rw[dV ha ht hm];have hgt:=dZ t.ek t.es hto.es e.n hn v ((Ej hto.es).2 hm);have hgd:(a.g e.n).getD (.pointer none)=u:=by rw[hg];rfl
  have hone:u.oneCell'=true:=by rw[hb];rfl
  obtain⟨l1,l2,hts⟩:=JU ht;refine JG ?_;refine Ai λB=>?_;refine JB ?_
  refine FL ?_;refine RU ?_;(iterate 6 refine RK ?_);refine BT ?_ (Nj _ hgd hn rfl rfl (by exact Az) hone);refine RK ?_;refine RGo.nil (by kernel_rfl) ?_;refine JI ?_;refine Ad ?_ (W.eqNil false (.inr ⟨b,hb,rfl⟩) rfl rfl);refine NL ?_;refine AB rfl rfl ?_;refine FL ?_;refine bk 5 (.ptr t.X 0 0) hK ?_;refine AWP.perm (A9 _ (IA hts Sf)) ?_;refine CN λY=>?_
  (repeat refine WF ?_);refine AWP.region_runT 8 (by kernel_rfl) (by kernel_rfl) ?_;refine Eh ?_;refine Eh ?_;refine Eh ?_;refine Eh ?_;refine Eh ?_;refine Eh ?_;refine RD (xs:=[(.tmp 21,.ptr t.ek.X 0 0),(.tmp 23,iA e.n)]) (L:=[_,_,_,_,_,_,_,_]) (R:=DU t.cs++(Cl l1++(Cl l2++Sf))) hgt (.fz (v:=.tup [CI v,bA true])) rfl (AT 8) (.cons rfl (.cons rfl .nil)) rfl rfl ?_;refine Eh ?_;refine Eh ?_;refine Eh ?_;refine No (h:=W.alloc .here (.inl rfl)) ?_;refine No ?_;refine Eh ?_;refine RGoT.nil (by kernel_rfl) ?_;dsimp only[BA,List.set_cons_zero,List.set_cons_succ,CT,Bz];refine TM Y (show _=[CI v]from rfl) ?_;dsimp only[List.set_cons_zero]
  have hd:decide (v=e)=(decide (v.n=e.n)&&decide (v.gen=e.gen)):=by
   cases v;cases e;simp only[Ent.mk.injEq,Bool.decide_and]
  rw[hd];refine JI ?_;refine WO ?_;refine Ad ?_ (W.eqP _ _ (by kernel_rfl) (Xd v.n v.gen e.n e.gen) rfl rfl);refine JB ?_;refine FL ?_;refine AWP.perm (A9 _ (A9 _ (IA hts Sf).symm)) ?_;refine RT ?_;exact Ends.sp [bA (decide (v.n=e.n)&&decide (v.gen=e.gen))] (arS a) ⟨rfl,rfl⟩
theorem PL(h:ArOK a)(hh:Kn a e=true):∃l1 l2 t,a.ts=l1++t::l2/\(e.n,e)∈t.es:=by
 unfold Kn at hh;obtain⟨it,hit,rfl⟩:=Ag.1 (AM hh);obtain⟨u,hu,hit⟩:=CG.1 hit;obtain⟨p,hp,rfl⟩:=Ag.1 hit;obtain⟨l1,l2,hl⟩:=JU hu;refine⟨l1,l2,u,hl,?_⟩;have:=h.ent u hu p hp;show(p.2.n,p.2)∈u.es
 rw[<-this];exact hp
structure KillR(a:Ar)(e:Ent)(b:Ar):Prop where
 ok:ArOK b
 ne:If b.ts
 A:b.A=a.A
 kinds:b.kinds=a.kinds
 gens:b.gens=a.gens.set e.n.toNat ((a.gens[e.n.toNat]?).getD 0+1)
 items:∃l,(B5 a.ts).Perm (⟨e,l⟩::B5 b.ts)
theorem gF(a:Ar)(ha:ArOK a)(e:Ent)(hn:I64 e.n)(hh:Kn a e=false):Spec prog 262 [.ptr a.A 0 0,CI e] (arS a) λr S'=>r=iA 4/\S'=arS a:=by
 have hs:=OH a ha e hn;rw[hh]at hs;refine Sp (nt:=23) (res:=[.tmp 4]) func262 λSf=>?_
 refine JG ?_;refine Ai λB=>?_;refine JB ?_
 refine JI ?_;refine WO ?_;refine H3 [_] hs ?_;refine JB ?_;refine An rfl rfl ?_;refine JM ?_;exact Ends.sp [iA 4] (arS a) ⟨rfl,rfl⟩
theorem dH(a:Ar)(ha:ArOK a)(hne:If a.ts)(e:Ent)(hn:I64 e.n)(hh:Kn a e=true)(hg:e.n.toNat<a.gens.length)(hgl:a.gens.length<=256)(hgb:∀g∈a.gens,0<=g/\g<=1073741824):Spec prog 262 [.ptr a.A 0 0,CI e] (arS a) λr S'=>∃b:Ar,KillR a e b/\r=iA 0/\S'=arS b:=by
 obtain⟨l1,l2,t,hts,hm⟩:=PL ha hh;have hto:=ha.tab t (by rw[hts];simp);have hnk:e.n∈Am t.es:=Ag.2 ⟨_,hm,rfl⟩;have hnl:=hto.es.lt _ hnk;have hs:=OH a ha e hn;rw[hh]at hs;have htk:=TT a ha hne hts hnk;obtain⟨⟨n,g⟩,he⟩:∃e',e=e':=⟨_,rfl⟩;subst he;dsimp only at hn hg hm hnk hnl hs htk;obtain⟨i,hi⟩:∃i:Nat,n=i:=⟨n.toNat,by omega⟩;subst hi;rw[B4]at hg;refine Sp (nt:=23) (res:=[.tmp 4]) func262 λSf=>?_
 refine JG ?_;refine Ai λB=>?_;refine JB ?_
 refine JI ?_;refine WO ?_;refine H3 [_] hs ?_;refine JB ?_;refine AB rfl rfl ?_;refine JD ?_;(iterate 3 refine WO ?_);refine RP [_] htk λY _ K=>?_;refine NL ?_;obtain⟨hok,hne2,hA,hki,hge,hit⟩:=QB ha hne hts hm Y;obtain⟨b,hb⟩:∃b,Iw a l1 l2 t (i:Nat) Y=b:=⟨_,rfl⟩;rw[hb]at hok hne2 hA hki hge hit⊢;rw[<-hA];have hgm:a.gens[i]∈a.gens:=As hg;have hgr:=hgb _ hgm;rw[<-hge]at hg hgl;have hgq:a.gens[i]=b.gens[i]:=by simp only[hge]
 rw[hgq]at hgr;have hat:(b.gens.map iA)[i]?=some (iA b.gens[i]):=DK _ hg;have hgml:(b.gens.map iA).length=b.gens.length:=AD _;refine FL ?_;refine RU ?_;(repeat first|(refine OR ?_;first|refine BT ?_ (W.idx (a:=i) rfl rfl (by exact Az) rfl (by omega) (Ao _)))|(refine IH ?_;first|refine BT ?_ (W.idx (a:=i) rfl rfl (by exact Az) rfl (by omega) (Ao _)))|refine RK ?_|refine RGo.nil (by kernel_rfl) ?_);dsimp only[BA,List.set_cons_zero,List.set_cons_succ,CT,Bz];have hset:(b.gens.map iA).set i (iA (b.gens[i]+1))=(b.gens.set i (b.gens[i]+1)).map iA:=(BK ..).symm;rw[hset];have hsl:b.gens.length=(b.gens.set i (b.gens[i]+1)).length:=List.length_set.symm;obtain⟨b',hb'⟩:∃b':Ar,b'={b with gens:=b.gens.set i (b.gens[i]+1)}:=⟨_,rfl⟩;refine AWP.perm (S':=(K,.row 42 2 ((BH t (i:Nat)).map (Ae false)))::(B,.row 32 2 [CI ⟨i,g⟩])::(arS b'++Sf)) (C8 (by rw[hb'];show _=(K,_)::(B,_)::((arH {b with gens:=b.gens.set i (b.gens[i]+1)}++Cl b.ts)++Sf);rw[arH];dsimp only;rw[<-hsl];rfl)) ?_;refine R1 ?_;refine RT ?_;have hgd:(a.gens[i]?).getD 0=b.gens[i]:=by rw[<-hge,AX hg];rfl
 have hk:KillR a ⟨i,g⟩ b':=by
  rw[hb'];exact⟨⟨hok.tab,hok.ord,hok.keys,hok.ent,hok.g,hok.gn,hok.cnt⟩,hne2,hA,hki,by show b.gens.set i _=a.gens.set ((i:Int).toNat) _;rw[B4,hgd];exact Dh (λx=>x.set i (b.gens[i]+1)) hge,⟨_,hit⟩⟩
 exact Ends.sp [iA 0] (arS b') ⟨b',hk,rfl,rfl⟩
theorem gA(a:Int):PS prog 277 [iA a] (bA false):=by
 refine Sp (nt:=6) (res:=[.tmp 2]) func277 λSf=>?_
 refine JC ?_;refine Ah ?_;have:decide (a≠a)=false:=Au (by simp);rw[this]
theorem gD(a b:Int):PS prog 276 [iA a,iA b] (bA (decide (a<b))):=by
 refine Sp (nt:=17) (res:=[.tmp 4]) func276 λSf=>?_
 refine R1 ?_;refine JI ?_;refine BE (h:=(QM a)) (k:=?_);refine JE ?_;refine RT ?_;exact Ends.sp [bA (decide (a<b))] [] ⟨rfl,rfl⟩
def P8(l:List Int)(n:Int):Nat:=(l.filter λx=>decide (x<n)).length
theorem YZ{l:List Int}{n:Int}(hi:i<=l.length)(h1:∀k (h:k<l.length),k<i->l[k]<n)(h2:∀k (h:k<l.length),i<=k->n<=l[k]):P8 l n=i:=by
 unfold P8
 have e:l.filter (λx=>decide (x<n))=l.take i:=by
  conv=>lhs;rw[<-B8 i l]
  rw[Fw,FX.2,J1.2,A8]
  ·intro x hx
   obtain⟨k,hk,rfl⟩:=H2.1 hx;rw[Cx]at hk;rw[List.getElem_drop];have:=h2 (i+k) (by omega) (by omega);simp;omega
  ·intro x hx
   obtain⟨k,hk,rfl⟩:=Em.1 hx;have:=h1 k (by omega) (by omega);simp;omega
 rw[e,Ba];omega
theorem Yv(l:List Int)(n:Int)(hs:l.Pairwise (· < ·))(hl:l.length<=1099511627776):PS prog 271 [Av false l,iA n] (.tup [iA (P8 l n:Nat),bA (decide (n∈l))]):=by
 have hml:(l.map iA).length=l.length:=AD _;have hsp:=CJ.1 hs;refine Sp (nt:=54) (res:=[.tmp 4,.tmp 5]) func271 λSf=>?_
 refine R1 ?_;refine JA ?_;refine JH ?_;rw[hml];refine Cq (λ(i j:Nat)=>⟨[(0,Av false l),(1,iA n),(6,iA l.length),(7,iA i),(8,iA j)],Sf⟩) (λi j=>i<=j/\j<=l.length/\(∀k (h:k<l.length),k<i->l[k]<n)/\∀k (h:k<l.length),j<=k->n<=l[k]) (λi j=>j-i) 0 l.length ⟨Ap _,AT _,λk h1 h2=>absurd h2 (by omega),λk h1 h2=>absurd h2 (by omega)⟩ ?_;rintro i j ⟨hij,hjn,hlo,hhi⟩;refine JH ?_;refine AC rfl (λhc=>?_) (λhc=>?_)
 ·have h:i<j:=by rw[AS]at hc;omega
  have hmid:((i:Int)+j).fdiv (2^1)=(((i+j)/2:Nat):Int):=by
   rw[Ef _ (by decide)];omega
  have hw1:IntKind.u64.wrap ((i:Int)+j)=i+j:=by rw[Rb];omega
  have hw2:IntKind.i64.wrap (((i:Int)+j).fdiv (2^1))=((i:Int)+j).fdiv (2^1):=by
   rw[Rc,hmid];omega
  refine JD ?_;(iterate 3 refine WO ?_);refine AOps.p (W.conv .i64 .u64 (by kernel_rfl) (by kernel_rfl) rfl hw1) rfl ?_;refine AOps.p (W.shr 1 rfl rfl rfl (by decide)) rfl ?_;refine AOps.p (W.conv .u64 .i64 (by kernel_rfl) (by kernel_rfl) rfl hw2) rfl ?_;refine JB ?_;rw[hmid];obtain⟨m,hm⟩:=nm ((i+j)/2);rw[hm];have hml2:m<l.length:=by omega
  have hmm:m<(l.map iA).length:=by omega
  have hat:(l.map iA)[m]?=some (iA l[m]):=by rw[Ac,AX hml2];rfl
  have hls:=gD l[m] n;refine JL ?_;refine BO (h:=(hls ..)) (k:=?_);refine NL ?_;refine FL ?_;refine AC rfl (λhe=>?_) (λhe=>?_)
  ·have he:l[m]<n:=AM he
   refine JF ?_;refine CA (m+1) j ⟨by omega,hjn,λk h1 h2=>?_,hhi⟩;by_cases e:k=m
   ·subst e;exact he
   ·have:=hsp k m h1 hml2 (by omega);omega
  ·have he:¬l[m]<n:=AU he
   refine JF ?_;refine CA i m ⟨by omega,by omega,hlo,λk h1 h2=>?_⟩;by_cases e:k=m
   ·subst e;omega
   ·have:=hsp m k hml2 h1 (by omega);omega
 ·have h:i=j:=by rw[AZ]at hc;omega
  subst h;have hlw:=YZ hjn hlo hhi;refine FL ?_;by_cases hin:i<l.length
  ·have g1:decide ((i:Int)<(l.length:Nat))=true:=BP (by omega)
   have hmm:i<(l.map iA).length:=by omega
   have hat:(l.map iA)[i]?=some (iA l[i]):=by rw[Ac,AX hin];rfl
   by_cases he:l[i]=n
   ·have g2:decide (l[i]=n)=true:=BP he
    have hmem:decide (n∈l)=true:=BP (by rw[<-he];exact As hin);rw[hlw,hmem];refine RG ?_;(repeat first|(refine Cg ?_;first|refine Bp ?_|refine Bx ?_)|refine WO ?_|refine Ai λX=>?_|refine Ay λY=>?_);refine NL ?_;refine RT ?_;rw[g1,g2];exact Ends.sp [iA i,bA true] [] ⟨rfl,rfl⟩
   ·have g2:decide (l[i]=n)=false:=Au he
    have hmem:decide (n∈l)=false:=Au λhm=>by
     obtain⟨k,hk,rfl⟩:=H2.1 hm;rcases Ib k i with h|h
     ·have:=hlo k hk h;omega
     ·have h3:k≠i:=λe=>he (by subst e;rfl)
      have:=hsp i k hin hk (by omega);have:=hhi i hin (AT _);omega
    rw[hlw,hmem];refine JJ ?_;refine BE (h:=(gA l[i])) (k:=?_);refine JE ?_;refine RT ?_;rw[g1,g2];exact Ends.sp [iA i,bA false] [] ⟨rfl,rfl⟩
  ·have g1:decide ((i:Int)<(l.length:Nat))=false:=Au (by omega)
   have hmem:decide (n∈l)=false:=Au λhm=>by
    obtain⟨k,hk,rfl⟩:=H2.1 hm;have:=hlo k hk (by omega);omega
   rw[hlw,hmem];refine RG ?_;(repeat first|(refine Cg ?_;first|refine Bp ?_|refine Bx ?_)|refine WO ?_|refine Ai λX=>?_|refine Ay λY=>?_);refine NL ?_;refine RT ?_;rw[g1];exact Ends.sp [iA i,bA false] [] ⟨rfl,rfl⟩
theorem Qn{α:Type}{l:List α}(h:i<l.length)(z:List α):(l.take i++(l.drop (i+1)).take (l.length-(i+1))++z).take (i+(l.length-(i+1)))=l.eraseIdx i:=by
 rw[Aj (l:=l.drop (i+1)) (by rw[Cx];omega),GM];rw[DV (by simp;omega),Aj (by simp;omega)]
theorem Xg(X n i:Nat)(l:List AV)(hn:n=l.length)(hi:i<n)(hl:n<=1099511627776)(hfr:FreeL l)(hw:∀e∈l,e.width=2):
  Spec prog 55 [.sl X 0 n,iA i,iA ((i:Int)+1)] [(X,.row 42 2 l)] λr S'=>r= .lst true 42 2 (l.eraseIdx i)/\S'=[]:=by
 subst hn;refine Sp (nt:=33) (res:=[.tmp 6]) func55 λSf=>?_
 have h1:((i:Int)+1)=((i+1:Nat):Int):=by omega
 refine R1 ?_;refine RG ?_;(iterate 5 refine WO ?_);refine AOps.p (W.slice3 (lo:=i) (hi:=i+1) (mx:=l.length) rfl rfl rfl rfl (by exact Az) rfl h1 rfl (by omega) (by omega) (AT _)) rfl ?_;refine NL ?_;refine R1 ?_;refine AB rfl (Au (by omega)) ?_;refine R1 ?_;have hel:(l.eraseIdx i).length=l.length-1:=List.length_eraseIdx_of_lt hi;rcases Ib (i+1) l.length with hj|hj
 ·have hp:=Qn hi
  refine RU ?_;refine JK ?_;refine RGo.p (W.hi rfl rfl (by exact Az) rfl (by omega)) rfl ?_;refine JK ?_;refine RGo.p (W.slice_lo (lo:=i+1) rfl rfl (by exact Az) h1 (by omega)) rfl ?_;refine RGo.s (W.appS (l.length-(i+1)) (by omega) (by omega) (by omega) hfr hw rfl rfl (by exact Az)) rfl ?_;refine RK ?_;refine RGo.nil (by kernel_rfl) ?_;rw[Ao];have hln:i+(l.length-(i+1))=l.length-1:=by omega
  have hLl:(l.take i++(l.drop (i+1)).take (l.length-(i+1))++l.drop (i+(l.length-(i+1)))).length=l.length:=by simp only[AJ,Ba,Cx];omega
  have hLp:=hp (l.drop (i+(l.length-(i+1))));obtain⟨L',hL'⟩:∃L',l.take i++(l.drop (i+1)).take (l.length-(i+1))++l.drop (i+(l.length-(i+1)))=L':=⟨_,rfl⟩;rw[hL']at hLl hLp⊢
  have key:∀Z D,((L'.take (i+(l.length-(i+1)))++Z)++D).take (i+(l.length-(i+1)))=l.eraseIdx i:=λZ D=>by
   rw[Aq,DV (by rw[Ba];omega),EP,RW,hLp]
  refine RG ?_;(iterate 4 refine WO ?_);refine AOps.p (eJ (lo:=i+(l.length-(i+1))) (hi:=l.length) rfl rfl rfl (by exact Az) rfl rfl (by omega) (by omega)) rfl ?_;refine DO (W.clear rfl (by exact Az) (by first|exact .inl rfl|exact .inr rfl) rfl (by omega)) rfl ?_;refine NL ?_;refine R1 ?_;refine FF (X:=X) (i+(l.length-(i+1))) ?_;rw[Ao,key];refine RT ?_;exact⟨[.sl X 0 (i+(l.length-(i+1)))],[.lst true 42 2 (l.eraseIdx i)],_,[],.cons (.tmp rfl) rfl .nil,.cons (.cell (.sl (p:=0) .here (by rw[hel];omega))) .nil,by exact BL,rfl,rfl⟩
 ·have hie:i=l.length-1:=by omega
  have hl0:l.length-(i+1)=0:=by omega
  have hle:l.eraseIdx i=l.take i:=by rw[GM,DF (by omega),A8]
  have key:∀Z D,((l.take i++Z)++D).take i=l.eraseIdx i:=λZ D=>by
   rw[Aq,DV (by rw[Ba];omega),EP,RW,hle]
  refine RU ?_;refine JK ?_;refine RGo.p (W.hi rfl rfl (by exact Az) rfl (by omega)) rfl ?_;refine JK ?_;refine RGo.p (W.slice_lo (lo:=i+1) rfl rfl (by exact Az) h1 (by omega)) rfl ?_;rw[hl0];refine RGo.p (W.app0 rfl rfl (by exact Az)) rfl ?_;refine RK ?_;refine RGo.nil (by kernel_rfl) ?_;refine RG ?_;(iterate 4 refine WO ?_);refine AOps.p (eJ (lo:=i) (hi:=l.length) rfl rfl rfl (by exact Az) rfl rfl (by omega) (by omega)) rfl ?_;refine DO (W.clear rfl (by exact Az) (by first|exact .inl rfl|exact .inr rfl) rfl (by omega)) rfl ?_;refine NL ?_;refine R1 ?_;refine FF (X:=X) i ?_;simp only[Ao];rw[key];refine RT ?_;exact⟨[.sl X 0 i],[.lst true 42 2 (l.eraseIdx i)],_,[],.cons (.tmp rfl) rfl .nil,.cons (.cell (.sl (p:=0) .here (by rw[hel];omega))) .nil,by exact BL,rfl,rfl⟩
theorem bK(l:List Ent)(hl:l.length*16<=140737488355328):PS prog 126 [.lst false 32 2 (l.map CI)] (.lst true 32 2 (l.map CI)):=by
 refine Sp (nt:=8) (res:=[.tmp 2]) func126 λSf=>?_
 (iterate 8 refine WK ?_);refine AOps.isNil λb hb=>?_;refine KK ?_
 refine AC rfl (λhc=>?_) (λhc=>?_)
 ·rw[hb hc]
  refine JC ?_;exact⟨[.prim (.slice none 0 0)],[.lst true 32 2 []],_,[],.cons (.tmp rfl) rfl .nil,.cons (.cell .nil) .nil,by exact BL,rfl,rfl⟩
 ·have hl':(0+(l.map CI).length)*16<=140737488355328:=by simpa using hl
  clear hl
  (iterate 3 refine WK ?_);refine TP λK=>?_;refine KK ?_;refine Ay λY=>?_;refine KK ?_
  refine RT ?_;exact⟨[.sl Y 0 (0+(l.map CI).length)],[.lst true 32 2 (l.map CI)],_,[],.cons (.tmp rfl) rfl .nil,.cons (.cell (.sl (p:=0) .here (by simp))) .nil,by exact BL,rfl,rfl⟩
theorem VY(S:List AR):∀b:List Int,Lds S (b.map iA) (b.map iA)
 |[]=>.nil
 |x::b=>.cons (show Ld S (iA x) (iA x)from .frz (a:=iA x)) (VY S b)
theorem Vo(S:List AR):∀b:List Ent,Lds S (b.map CI) (b.map CI)
 |[]=>.nil
 |x::b=>.cons (show Ld S (CI x) (CI x)from .frz (a:=CI x)) (Vo S b)
theorem Qv(X:Nat)(l:List Int)(n:Nat)(hn:n=l.length)(hl:l.length*8<=140737488355328):Spec prog 41 [.sl X 0 n] [(X,.row 3 1 (l.map iA))] λr S'=>r= .lst true 3 1 (l.map iA)/\S'=[(X,.row 3 1 (l.map iA))]:=by
 subst hn;refine PS.lend (In l hl) (by show EN _=true;rw[Kj (λ_=>rfl)]) (.cons (.sl .here (by simp) ?_) .nil);rw[B7,Aj (by simp)];exact VY _ _
theorem Xn(X:Nat)(l:List Ent)(n:Nat)(hn:n=l.length)(hl:l.length*16<=140737488355328):Spec prog 126 [.sl X 0 n] [(X,.row 32 2 (l.map CI))] λr S'=>r= .lst true 32 2 (l.map CI)/\S'=[(X,.row 32 2 (l.map CI))]:=by
 subst hn;refine PS.lend (bK l hl) (by show EN _=true;rw[Kj (λ_=>rfl)]) (.cons (.sl .here (by simp) ?_) .nil);rw[B7,Aj (by simp)];exact Vo _ _
abbrev Qo(l:List Ent):AV:=.lst false 32 2 (l.map CI)
theorem gy(k:StK)(l:List (Int×Ent))(hl:ColOK l):Spec prog 57 [.ptr k.X 0 0] (stE k l) λr S'=>r= .fn 127 [.fp [Av false (Am l)],.fp [Qo (l.map (·.2))]]/\S'=stE k l:=by
 have hlen:=hl.len;have h1:=Qv k.R (Am l) l.length (by simp) (by rw[AD];omega);have h2:=Xn k.V (l.map (·.2)) l.length (by simp) (by rw[AD];omega);have e1:(Am l).map iA=l.map λe=>iA e.1:=Ch
 have e2:(l.map (·.2)).map CI=l.map λe=>CI e.2:=Ch
 rw[e1]at h1;rw[e2]at h2;refine Sp (nt:=16) (res:=[.tmp 2]) func57 λSf=>?_
 refine JH ?_;refine CN λA=>CN λB=>?_
 refine JN ?_;refine UN h1 .fz ?_;refine KR ?_;refine UN h2 .fz ?_;(iterate 4 refine RK ?_);refine RGo.nil (by kernel_rfl) ?_;refine FL ?_;refine I7 [3] .here ?_ (by intro d hd;simp only[DC]at hd;subst hd;rfl);refine I7 [4] (.next .here) ?_ (by intro d hd;simp only[DC]at hd;subst hd;rfl);refine R1 ?_;have er:AV.fn 127 [.fp [Av false (Am l)],.fp [Qo (l.map (·.2))]]=AV.fn 127 [.fp [.lst false 3 1 (l.map λe=>iA e.1)],.fp [.lst false 32 2 (l.map λe=>CI e.2)]]:=by rw[Av,Qo,e1,e2]
 rw[er];refine RT ?_;exact Ends.sp [AV.fn 127 [.fp [.lst false 3 1 (l.map λe=>iA e.1)],.fp [.lst false 32 2 (l.map λe=>CI e.2)]]] (stE k l) ⟨rfl,rfl⟩
theorem eC(ks:List Int)(es:List Ent)(hl:ks.length=es.length)(h0:ks.length<=1099511627776):Itr prog 127 [.fp [Av false ks],.fp [Qo es]] ((ks.zip es).map λq=>[iA q.1,CI q.2]):=by
 have hkm:(ks.map iA).length=ks.length:=AD _;have hem:(es.map CI).length=es.length:=AD _;refine⟨by kernel_rfl,λy J Jx hY Sl hJ0=>?_⟩;refine Sp (nt:=22) (res:=[]) func127 λSf=>?_
 refine JH ?_;refine Cq (λ(i:Nat) (Sl:List AR)=>⟨[(0,.prim y),(2,.fp [Qo es]),(6,Av false ks),(7,iA (ks.map iA).length),(8,iA i)],Sl++Sf⟩) (λi Sl=>i<=ks.length/\J i Sl) (λi _=>ks.length-i) 0 Sl ⟨Ap _,hJ0⟩ ?_;rintro i Sl ⟨hi,hJ⟩;refine JH ?_;refine AC rfl (λhc=>?_) (λhc=>?_)
 ·have h:i<ks.length:=by rw[AS,hkm]at hc;omega
  have he:i<es.length:=by omega
  have hat:(ks.map iA)[i]?=some (iA ks[i]):=DK _ h;have hil:i<(ks.map iA).length:=by omega
  have hat2:(es.map CI)[i]?=some (CI es[i]):=DK _ he;have hil2:i<(es.map CI).length:=by omega
  have hyi:((ks.zip es).map λq=>[iA q.1,CI q.2])[i]?=some [iA ks[i],CI es[i]]:=by
   rw[Ac,AX (by rw[GK];omega),List.getElem_zip];rfl
  obtain⟨k,hk⟩:=nm (ks[i]);obtain⟨e,hee⟩:=nm (es[i]);rw[hk]at hat hyi;rw[hee]at hat2 hyi;refine JA ?_;refine JJ ?_;refine WE (Si:=[]) hY hJ hyi (λSl' hk=>?_) (λSl' hk=>?_)
  ·refine WO ?_
   refine AOps.nil ?_;refine FL ?_;refine AB rfl rfl ?_;refine KK ?_;refine CA (i+1) Sl' ⟨h,hk⟩
  ·refine WO ?_
   refine AOps.nil ?_;refine FL ?_;refine An rfl rfl ?_
   skip
   refine RT ?_;exact CH Sl' (.inr hk)
 ·have h:i=ks.length:=by rw[AZ,hkm]at hc;omega
  subst h;refine KK ?_;refine Eo ?_;exact CH Sl (.inl (by rw[AD,GK,<-hl,RW];exact hJ))
theorem W.makeMap{P:Program}{ty t k e:TypeId}{pos:String}{after:Array Edge}{dst:Option Tmp}{c:Option (List Bool)}{g:Option (Nat×Bool)}{T:List (Nat×AV)}{S:List AR}{X p:Nat}{z0:Value}[TMap P t k e z0](hS:At S p (X,.gone)):Stp c P ⟨dst,.makeMap t none,ty,pos,after,g⟩ T S [] [(p,(X,.gone))] (.mp X) [(p,(X,.ob (MapF P k e (λ_=>none) 0)))]:=⟨.makeMap (TMap.h (z0:=z0)),.nil,.cons hS .nil⟩
theorem ArOK.keys_items(h:ArOK a):Cw a.ts=(B5 a.ts).map (·.ent.n):=by
 rw[Cw,B5,List.map_flatMap]
 have:∀ts:List Tab,(∀t∈ts,∀e∈t.es,e.1=e.2.n)->(ts.flatMap λt=>Am t.es)=ts.flatMap λt=>(EB t).map (·.ent.n):=by
  intro ts
  induction ts with
  |nil=>intro _;rfl
  |cons t ts ih=>
   intro hh;rw[Bj,Bj,ih λu hu=>hh u (by simp[hu])]
   congr 1
   rw[EB,Ch];exact EF λe he=>hh t (by simp) e he
 exact this a.ts h.ent
theorem WdOK.cl{w:Wd}(h:WdOK w):∀it∈w.items,it.comps.length<=16:=λit hi=>by
 obtain⟨_,_,_,_,e⟩:=h.it it hi;obtain⟨h1,h2⟩:=held_iff.1 e;have h16:=(CQ h.ks).1;have:=LT (λc:Comp=>c.kind) w.kinds.length it.comps (h1.imp λ{a b} hab e=>by omega) (λc hc=>⟨(h2 c hc).1,(h2 c hc).2.1⟩);omega
theorem j8(w:Wd)(hw:WdOK w):Spec prog 16 [wdA false w] [] λr S'=>∃b:Ar,(ArOK b/\If b.ts/\b.kinds=w.kinds/\b.gens=w.gens/\(B5 b.ts).Perm w.items)/\r= .tup [.ptr b.A 0 0,iA 0]/\S'=arS b:=by
 have hL:=hw.wl;have hgl:=hw.gl;have hil:=hw.il;have hsok:=hw.so;have hit:=hw.it;have hkp:=LW w.kinds (by have:=(CQ hw.ks).1;omega) (λk hk=>by have:=(GB ((CQ hw.ks).2 k hk)).2.1;omega);have hcl:=In w.gens (by omega);have hck:=Hr w (by omega) (by omega) (λit hi=>(hL.items.2 it hi).1);rw[(Ck w).2 hw]at hck;have hcc:=hw.cl;have hcp:∀it∈w.items,PS prog 42 [B3 false false it.comps] (B3 true false it.comps):=λit hi=>HO it.comps (hL.items.2 it hi).1 (hL.items.2 it hi).2
 have hime:(w.items.map (AQ false)).length=w.items.length:=AD _;obtain⟨ks,gs,its⟩:=w;dsimp only at*;refine Sp (nt:=38) (res:=[.tmp 2,.tmp 3]) func16 λSf=>?_
 refine JG ?_;refine Ai λD=>?_;refine JE ?_
 refine JI ?_;refine BE (h:=(hck ..)) (k:=?_);refine JB ?_;refine JA ?_;refine AB rfl rfl ?_;refine FL ?_;have hgm:(gs.map iA).length=gs.length:=AD _;refine CN λA=>CN λG=>CN λO=>?_
 refine JN ?_;refine K7 (h:=(hkp ..)) (k:=?_);refine KR ?_;refine UN hcl (.ls (Y:=G)) ?_;refine H0 ?_ (W.makeMap (X:=O) (by exact Az));refine RK ?_;refine H0 ?_ (W.box (X:=A) rfl (by exact Az) rfl);refine RK ?_;refine RGo.nil (by kernel_rfl) ?_;refine FL ?_;refine CM (Y:=A) 117 1 (by exact Az) (λTb=>.cons (.agg (.s (.s (.cons (.base .nil) .r)))) .nil) λTb=>?_
 rw[hgm];refine AWP.note (λ_ _=>False) (λ_ _ h=>h) λTv=>?_
 refine JH ?_;refine BQ Tb ?_;refine BQ Tv ?_;refine BQ O ?_;refine BQ G ?_;refine BQ A ?_;refine BQ D ?_;refine Cq (λ(i:Nat) (b:Ar)=>⟨[(5,.ptr A 0 0),(23,Km false false its),(24,iA (its.map (AQ false)).length),(25,iA i)],(D,.row 26 3 [wdA false ⟨ks,gs,its⟩])::(arS b++Sf)⟩) (λi b=>i<=its.length/\ArOK b/\If b.ts/\b.A=A/\b.kinds=ks/\b.gens=gs/\(B5 b.ts).Perm (its.take i)) (λi _=>its.length-i) 0 ⟨A,G,Tb,O,Tv,λ_ _=>False,λ_=>none,0,ks,gs,[]⟩ ⟨by omega,⟨by simp,.nil,.nil,by simp,by simp,by simp,rfl⟩,(by intro t ht;cases ht),rfl,rfl,rfl,.refl _⟩ ?_;rintro i b ⟨hi,hok,hne,hA,hbk,hbg,hpm⟩;subst hA;refine JH ?_;refine AC rfl (λh=>?_) (λh=>?_)
 ·have h:i<its.length:=by rw[AS,hime]at h;omega
  have hat:(its.map (AQ false))[i]?=some (AQ false its[i]):=DK _ h;have hil:i<(its.map (AQ false)).length:=by omega
  have him:=As h;obtain⟨it1,it2,_⟩:=hit _ him;have hcpi:=hcp _ him
  have hfr:its[i].ent.n∉Cw b.ts:=by
   rw[hok.keys_items];intro hm;obtain⟨x,hx,e⟩:=Ag.1 hm;have hx:=hpm.mem_iff.1 hx;obtain⟨j,hj,rfl⟩:=Em.1 hx;have:=CJ.1 hsok j i (by omega) h (by omega);omega
  have had:=Q4 b its[i].ent its[i].comps hok hne ⟨it1,by omega⟩ hfr (hcc _ him);have htk:its.take (i+1)=its.take i++[its[i]]:=Aw h;obtain⟨⟨ie,ic⟩,hie⟩:=nm (its[i]);rw[hie]at hat hcpi had htk;refine JL ?_;refine Ai λC=>?_;refine JB ?_
  refine FL ?_;(repeat refine WF ?_);refine Gs 6 (by kernel_rfl) (by kernel_rfl) (by kernel_rfl) ?_;dsimp only[List.take,List.drop];refine KR ?_;refine K7 (h:=(hcpi ..)) (k:=?_);refine RGo.nil (by kernel_rfl) ?_;refine HT [_,_] (h:=had) λb' hb'=>?_
  obtain⟨k1,k2,k3,k4,k5,k6⟩:=hb';refine AOps.nil ?_;refine JF ?_
  exact CA (i+1) b' ⟨by omega,k1,k2,k3,k4.trans hbk,k5.trans hbg,by
   rw[htk];exact k6.trans ((hpm.cons _).trans (List.perm_append_singleton _ _).symm)⟩ (by omega)
 ·have h:i=its.length:=by rw[AZ,hime]at h;omega
  subst h;rw[Bg]at hpm;refine JM ?_;exact Ends.sp [.ptr b.A 0 0,iA 0] (arS b) ⟨b,⟨hok,hne,hbk,hbg,hpm⟩,rfl,rfl⟩
theorem dl(a:Ar)(ha:ArOK a)(e:Ent)(k:Int)(hn:I64 e.n)(hh:Kn a e=false):Spec prog 261 [.ptr a.A 0 0,CI e,iA k] (arS a) λr S'=>r=iA 4/\S'=arS a:=by
 have hs:=OH a ha e hn;rw[hh]at hs;refine Sp (nt:=41) (res:=[.tmp 6]) func261 λSf=>?_
 refine JG ?_;refine Ai λB=>?_;refine JB ?_
 refine JI ?_;refine WO ?_;refine H3 [_] hs ?_;refine JB ?_;refine An rfl rfl ?_;refine JM ?_;exact Ends.sp [iA 4] (arS a) ⟨rfl,rfl⟩
theorem ArOK.ptr(h:ArOK a)(ht:t∈a.ts){n:Int}(hn:n∈Am t.es):∃u,(a.g n).getD (.pointer none)=u/\u.oneCell'=true/\a.K (.ptr t.X 0 0) u:=by
 have hsm:=h.gn n (CG.2 ⟨t,ht,hn⟩);obtain⟨u,hu⟩:∃u,a.g n=some u:=IZ.1 hsm;obtain⟨w,hw,hwn,hK,b,hb⟩:=h.g n u hu;have:=h.uniq hw ht hwn hn;subst this;exact⟨u,by rw[hu];rfl,by rw[hb];rfl,hK⟩
theorem Qa{a b:Ar}(ha:ArOK a)(hb:ArOK b){l:List Comp}(hit:(B5 a.ts).Perm (⟨e,l⟩::B5 b.ts)):e.n∉Cw b.ts:=by
 have h1:=ha.keys;rw[ha.keys_items]at h1;have h2:=(hit.map λit:Item=>it.ent.n).nodup_iff.1 h1;rw[hb.keys_items];exact(Bu.1 h2).1
theorem VQ{l:List Int}{k:Int}(hs:l.Pairwise (· < ·))(h:k∈l):∃hl:P8 l k<l.length,l[P8 l k]=k:=by
 obtain⟨i,hi,rfl⟩:=H2.1 h;have hsp:=CJ.1 hs
 have e:=YZ (l:=l) (n:=l[i]) (i:=i) (by omega) (λj hj hlt=>hsp j i hj hi hlt) (λj hj hle=>by
  rcases Nat.lt_or_eq_of_le hle with h|rfl
  ·have:=hsp i j hi hj h;omega
  ·exact Int.le_refl _)
 exact⟨by rw[e];exact hi,by simp only[e]⟩
structure SwapR(a:Ar)(e:Ent)(l l':List Comp)(b:Ar):Prop where
 ok:ArOK b
 ne:If b.ts
 A:b.A=a.A
 kinds:b.kinds=a.kinds
 gens:b.gens=a.gens
 items:∃r,(B5 a.ts).Perm (⟨e,l⟩::r)/\(B5 b.ts).Perm (⟨e,l'⟩::r)
theorem a9(a:Ar)(ha:ArOK a)(hne:If a.ts)(e:Ent)(k:Int)(hn:I64 e.n)(hkl:I64 k)(hh:Kn a e=true){l1 l2:List Tab}(hts:a.ts=l1++t::l2)(hm:(e.n,e)∈t.es)(hks:t.ks.Pairwise (· < ·)):Spec prog 261 [.ptr a.A 0 0,CI e,iA k] (arS a) λr S'=>∃b:Ar,(if k∈t.ks then SwapR a e (BH t e.n) ((BH t e.n).eraseIdx (P8 t.ks k)) b else b=a)/\r=iA (if k∈t.ks then 0 else 4)/\S'=arS b:=by
 have htm:t∈a.ts:=by rw[hts];simp
 have hto:=ha.tab t htm;have hnk:e.n∈Am t.es:=Ag.2 ⟨_,hm,rfl⟩;have hnl:=hto.es.lt _ hnk;have hs:=OH a ha e hn;rw[hh]at hs;have hbs:=Yv t.ks k hks (by have:=hto.ks;omega);obtain⟨u,hgd,hone,hK⟩:=ha.ptr htm hnk;refine Sp (nt:=41) (res:=[.tmp 6]) func261 λSf=>?_
 refine JG ?_;refine Ai λB=>?_;refine JB ?_
 refine JI ?_;refine WO ?_;refine H3 [_] hs ?_;refine JB ?_;refine AB rfl rfl ?_;refine FL ?_;refine AWP.perm (A9 _ (IA hts Sf)) ?_;refine RU ?_;(iterate 6 refine RK ?_);refine BT ?_ (W.lookP (.ptr t.X 0 0) hgd hn hone hK rfl rfl (by exact Az) (by exact Az));refine KR ?_;refine I6 (h:=(hbs ..)) (k:=?_);(iterate 5 refine RK ?_);refine RGo.nil (by kernel_rfl) ?_;by_cases hk:k∈t.ks
 ·rw[BP hk]
  simp only[Ab hk];refine JF ?_;refine AB rfl rfl ?_;refine FL ?_;refine AWP.perm (A9 _ (IA hts Sf).symm) ?_;(repeat refine WF ?_);have htk:=TT a ha hne hts hnk;obtain⟨i,hi⟩:=nm (P8 t.ks k);rw[hi];obtain⟨hil,hik⟩:=VQ hks hk;rw[hi]at hil;have htl:(BH t e.n).length=t.ks.length:=by unfold BH;rw[AD,GK];have:=hto.len;omega
  have h16:=hto.ks;refine AWP.region_runH (n:=1) [(B,.row 32 2 [CI e])] (arS a++Sf) rfl (by kernel_rfl) (by kernel_rfl) ?_;refine Cn ?_;refine Cn ?_;refine Cn ?_;refine Cn ?_;refine Cn ?_;refine Fs [32,34] ?_;refine Cn ?_;refine Cn ?_;refine Cn (h:=Cc ((i:Int)+1) (by omega) (by omega) rfl rfl) ?_;refine Fs [35,36,38] ?_;refine Fs [30,31,39] ?_;refine RGoH.nil (by kernel_rfl) (by kernel_rfl) (by kernel_rfl) ?_;refine HC.step [(32,.ptr a.A 0 0),(34,iA e.n)] ⟨rfl,rfl,rfl,rfl,CZ⟩ λT F=>?_
  refine RP F htk λY _ K=>?_;obtain⟨hok,hne2,hA,hki,hge,hit⟩:=QB ha hne hts hm Y;obtain⟨b,hb⟩:=nm (Iw a l1 l2 t e.n Y);rw[hb]at hok hne2 hA hki hge hit⊢;refine AOps.perm List.perm_middle.symm ?_;refine AOps.nil ⟨rfl,_,_,⟨λd v h=>h,.refl _⟩,?_⟩;have hdl:=Xg K (BH t e.n).length i ((BH t e.n).map (Ae false)) (AD _).symm (by omega) (by omega) (Xj _) (bF _);rw[<-KH]at hdl;refine HC.step [(35,.sl K 0 ((BH t e.n).map (Ae false)).length),(36,iA i),(38,iA ((i:Int)+1))] ⟨rfl,rfl,rfl,rfl,rfl,rfl,CZ⟩ λT2 F2=>?_
  rw[AD];refine iP F2 hdl ?_ (R:=arS b++Sf);refine AOps.nil ⟨rfl,_,_,⟨λd v h=>h,.refl _⟩,?_⟩;rw[<-hA];refine HC.step [(30,.ptr b.A 0 0),(31,CI e),(39,B3 false false ((BH t e.n).eraseIdx i))] ⟨rfl,rfl,rfl,rfl,rfl,rfl,CZ⟩ λT3 F3=>?_
  have had:=Q4 b e ((BH t e.n).eraseIdx i) hok hne2 hnl (Qa ha hok hit) (by rw[List.length_eraseIdx];split<;>omega);refine HT F3 had λb2 hb2=>?_;refine AOps.nil ⟨rfl,_,_,⟨λd v h=>h,.refl _⟩,?_⟩;show andThen _ _ _ _
  refine JM ?_;obtain⟨g1,g2,g3,g4,g5,g6⟩:=hb2;exact Ends.sp [iA 0] (arS b2) ⟨b2,⟨g1,g2,g3.trans hA,g4.trans hki,g5.trans hge,_,hit,g6⟩,rfl,rfl⟩
 ·rw[Au hk]
  simp only[AI hk];refine JF ?_;refine An rfl rfl ?_;refine FL ?_;refine AWP.perm (A9 _ (IA hts Sf).symm) ?_;refine R1 ?_;refine RT ?_;exact Ends.sp [iA 4] (arS a) ⟨a,rfl,rfl,rfl⟩
section
abbrev setT(t:Tab)(m1 m2:List (StK×List (Int×List Int)))(k:StK)(l:List (Int×List Int))(n:Int)(v:List Int):Tab:=⟨t.X,t.ks,t.ek,t.es,m1++(k,Dd l n v)::m2⟩
section
variable {t:Tab}{m1 m2:List (StK×List (Int×List Int))}{c:StK×List (Int×List Int)}{k:StK}{n:Int}{v:List Int}
theorem TabOK.setT(h:TabOK t)(hcs:t.cs=m1++c::m2)(hn:n∈Am t.es):TabOK (setT t m1 m2 k c.2 n v):=by
 have hcm:c∈t.cs:=by rw[hcs];simp
 have hnl:=h.es.lt n hn
 have hmem:∀d,d∈m1++(k,Dd c.2 n v)::m2->d=(k,Dd c.2 n v)\/d∈t.cs:=λd hd=>by
  rw[hcs];rcases AL.1 hd with hd|hd
  ·exact .inr (by simp[hd])
  ·rcases AP.1 hd with hd|hd
   ·exact .inl hd
   ·exact .inr (by simp[hd])
 refine⟨by have:=h.len;rw[hcs]at this;simpa using this,h.ks,h.es,λd hd=>?_,λd hd m=>?_⟩
 ·rcases hmem d hd with rfl|hd
  ·exact(h.cs c hcm).put hnl v
  ·exact h.cs d hd
 ·rcases hmem d hd with rfl|hd
  ·show m∈Am (Dd c.2 n v)↔_
   rw[Iq ((h.keys c hcm n).2 hn)];exact h.keys c hcm m
  ·exact h.keys d hd m
theorem Uy{β γ:Type}{ks:List β}{m1 m2:List γ}{c d:γ}{f:β×γ->Comp}:(ks.zip (m1++d::m2)).map f=match ks[m1.length]? with|some k=>((ks.zip (m1++c::m2)).map f).set m1.length (f (k,d))|none=>(ks.zip (m1++c::m2)).map f:=by
 induction m1 generalizing ks with
 |nil=>cases ks<;>rfl
 |cons x m1 ih=>
  cases ks with
  |nil=>rfl
  |cons y ks=>
   simp only[CT,List.zip_cons_cons,Aa,Bl,List.getElem?_cons_succ];rw[ih];cases ks[m1.length]? with
   |none=>rfl
   |some k=>rfl
theorem Up(h:TabOK t)(hcs:t.cs=m1++c::m2)(hn:n∈Am t.es){z:Int}(hz:t.ks[m1.length]?=some z):BH (setT t m1 m2 k c.2 n v) n=(BH t n).set m1.length ⟨z,v⟩:=by
 unfold BH;rw[Uy (c:=c) (d:=(k,Dd c.2 n v)),hcs,hz];dsimp only;rw[Lu (h.cs c (by rw[hcs];simp)) (h.es.lt n hn),Ab rfl];rfl
theorem Uo(h:TabOK t)(hcs:t.cs=m1++c::m2)(hn:n∈Am t.es){m:Int}(hne:m≠n):BH (setT t m1 m2 k c.2 n v) m=BH t m:=by
 unfold BH;rw[Uy (c:=c) (d:=(k,Dd c.2 n v)),hcs];cases hz:t.ks[m1.length]? with
 |none=>rfl
 |some z=>
  dsimp only;rw[Lu (h.cs c (by rw[hcs];simp)) (h.es.lt n hn),AI hne];refine GL λj=>?_
  rw[List.getElem?_set];split
  ·rename_i e
   subst e;split
   ·rw[Ac,(List.getElem?_zip_eq_some (z:=(z,c))).2 ⟨hz,by simp⟩]
    rfl
   ·rename_i hlt
    rw[CD (by omega)]
  ·rfl
theorem WZ(h:TabOK t)(hcs:t.cs=m1++c::m2)(hm:(n,e)∈t.es){z:Int}(hz:t.ks[m1.length]?=some z):(EB (setT t m1 m2 k c.2 n v)).Perm (⟨e,(BH t n).set m1.length ⟨z,v⟩⟩::EB (HA t n)):=by
 have hn:n∈Am t.es:=Ag.2 ⟨_,hm,rfl⟩;have hp:=F9 h.es hm;have h1:=hp.map λp:Int×Ent=>(⟨p.2,BH (setT t m1 m2 k c.2 n v) p.1⟩:Item)
 refine h1.trans ?_;rw[Aa,Up h hcs hn hz];refine A9 _ (C8 ?_);show _=(DD t.es n).map λp=>(⟨p.2,BH (HA t n) p.1⟩:Item)
 refine EF λp hp'=>?_
 have hk:p.1∈Am (DD t.es n):=Ag.2 ⟨p,hp',rfl⟩;have hne:=((G5 h.es).1 hk).2;rw[OV h hne,Uo h hcs hn hne]
end
section
variable {a:Ar}{l1 l2:List Tab}{t:Tab}{m1 m2:List (StK×List (Int×List Int))}{c:StK×List (Int×List Int)}{k:StK}{n:Int}{v:List Int}
theorem dJ:Cw (l1++setT t m1 m2 k c.2 n v::l2)=Cw (l1++t::l2):=by
 rw[Ei,FC,Ei,FC]
theorem ArOK.setT(h:ArOK a)(hts:a.ts=l1++t::l2)(hcs:t.cs=m1++c::m2)(hn:n∈Am t.es):ArOK {a with ts:=l1++Go.Proofs.YtmkahplhnbbgmaaGreat.setT t m1 m2 k c.2 n v::l2}:=by
 have htm:t∈a.ts:=by rw[hts];simp
 have hmem:∀u,u∈l1++Go.Proofs.YtmkahplhnbbgmaaGreat.setT t m1 m2 k c.2 n v::l2->u=Go.Proofs.YtmkahplhnbbgmaaGreat.setT t m1 m2 k c.2 n v\/u∈a.ts:=λu hu=>by
  rw[hts];rcases AL.1 hu with hu|hu
  ·exact .inr (by simp[hu])
  ·rcases AP.1 hu with hu|hu
   ·exact .inl hu
   ·exact .inr (by simp[hu])
 have hk:Cw (l1++Go.Proofs.YtmkahplhnbbgmaaGreat.setT t m1 m2 k c.2 n v::l2)=Cw a.ts:=by rw[hts,dJ]
 refine⟨λu hu=>?_,?_,by show(Cw _).Nodup;rw[hk];exact h.keys,λu hu=>?_,λm u hg=>?_,λm hm'=>h.gn m (by rw[<-hk];exact hm'),by show a.c=(Cw _).length;rw[hk];exact h.cnt⟩
 ·rcases hmem u hu with rfl|hu
  ·exact(h.tab t htm).setT hcs hn
  ·exact h.tab u hu
 ·have ho:=h.ord
  rw[hts]at ho;rw[CL,Al]at ho⊢
  exact⟨ho.1,⟨λx hx=>ho.2.1.1 x hx,ho.2.1.2⟩,λx hx y hy=>by
   rcases AP.1 hy with rfl|hy
   ·exact ho.2.2 x hx t (by simp)
   ·exact ho.2.2 x hx y (by simp[hy])⟩
 ·rcases hmem u hu with rfl|hu
  ·exact h.ent t htm
  ·exact h.ent u hu
 ·obtain⟨w,hw,h2,h3,h4⟩:=h.g m u hg
  rw[hts]at hw;rcases AL.1 hw with hw|hw
  ·exact⟨w,by simp[hw],h2,h3,h4⟩
  ·rcases AP.1 hw with rfl|hw
   ·exact⟨Go.Proofs.YtmkahplhnbbgmaaGreat.setT w m1 m2 k c.2 n v,by simp,h2,h3,h4⟩
   ·exact⟨w,by simp[hw],h2,h3,h4⟩
theorem aY(h:ArOK a)(hts:a.ts=l1++t::l2)(hcs:t.cs=m1++c::m2)(hm:(n,e)∈t.es){z:Int}(hz:t.ks[m1.length]?=some z):(B5 (l1++Go.Proofs.YtmkahplhnbbgmaaGreat.setT t m1 m2 k c.2 n v::l2)).Perm (⟨e,(BH t n).set m1.length ⟨z,v⟩⟩::B5 (l1++HA t n::l2)):=by
 have hto:=h.tab t (by rw[hts];simp);rw[D8,EO,D8,EO];refine(((WZ hto hcs hm hz).append_right _).append_left _).trans ?_;exact EG (B5 l1) [(⟨e,(BH t n).set m1.length ⟨z,v⟩⟩:Item)] (EB (HA t n)++B5 l2)
theorem i7(hne:If a.ts)(hts:a.ts=l1++t::l2):If (l1++Go.Proofs.YtmkahplhnbbgmaaGreat.setT t m1 m2 k c.2 n v::l2):=λu hu=>by
 have h:∀w∈l1++t::l2,w.es≠[]:=by rw[<-hts];exact hne
 rcases AL.1 hu with hu|hu
 ·exact h u (by simp[hu])
 ·rcases AP.1 hu with rfl|hu
  ·exact h t (by simp)
  ·exact h u (by simp[hu])
end
end
section
structure ArFor(a:Ar)(w:Wd):Prop where
 ok:ArOK a
 ne:If a.ts
 kinds:a.kinds=w.kinds
 gens:a.gens=w.gens
 items:(B5 a.ts).Perm w.items
 wok:WdOK w
theorem P7{k:Int}:∀{l:List Comp},FI l->P8 (l.map (·.kind)) k=FD l k
 |[],_=>rfl
 |x::l,h=>by
  obtain⟨h1,h2⟩:=Al.1 h;have ih:=P7 (k:=k) h2;unfold P8 at ih⊢;unfold FD at ih⊢;rw[Aa,List.filter_cons,IM];by_cases e:x.kind<k
  ·simp only[e,decide_true,Hx,Bl,ih]
  ·simp only[e,decide_false,WQ,if_false,D5]
   rw[Oz,J1];intro y hy;obtain⟨c,hc,rfl⟩:=Ag.1 hy;have:=h1 c hc;simp only[AS];omega
theorem Qt{l:List Comp}(h:FI l){k:Int}:(Dj l k).isSome=true↔k∈l.map (·.kind):=by
 constructor
 ·intro e
  obtain⟨c,hc⟩:=IZ.1 e;obtain⟨hm,hk⟩:=(Hp h).1 hc;exact Ag.2 ⟨c,hm,hk⟩
 ·intro e
  obtain⟨c,hm,hk⟩:=Ag.1 e;rw[(Hp h).2 ⟨hm,hk⟩];rfl
theorem Fh(h:TabOK t)(n:Int):(BH t n).map (·.kind)=t.ks:=by
 have hl:=h.len;refine EA (by simp[BH];omega) λi h1 h2=>?_
 rw[Gp,Hg (by simpa using h1) h2 (by omega)]
section
variable {a:Ar}{w:Wd}
theorem ArFor.item(h:ArFor a w)(ht:t∈a.ts)(hm:(e.n,e)∈t.es):∃i:Nat,w.items[i]?=some ⟨e,BH t e.n⟩:=by
 have h1:(⟨e,BH t e.n⟩:Item)∈B5 a.ts:=CG.2 ⟨t,ht,Ag.2 ⟨_,hm,rfl⟩⟩;obtain⟨i,hi,e1⟩:=Bv (h.items.mem_iff.1 h1);exact⟨i,by rw[AX hi,e1]⟩
theorem ArFor.held(h:ArFor a w)(ht:t∈a.ts)(hm:(e.n,e)∈t.es):Ce w.kinds (BH t e.n)=true:=by
 obtain⟨i,hi⟩:=h.item ht hm;exact(h.wok.it _ (B0 hi)).2.2.2.2
theorem ArFor.sort(h:ArFor a w)(ht:t∈a.ts)(hm:(e.n,e)∈t.es):FI (BH t e.n):=(held_iff.1 (h.held ht hm)).1
theorem Pk(ht:TabOK t){n:Int}(hs:FI (BH t n)):t.ks.Pairwise (· < ·):=by
 rw[<-Fh ht n];exact He.2 hs
theorem ArFor.hasE(h:ArFor a w)(hh:Kn a e=false):Ez w.items e<0:=by
 by_cases hlt:Ez w.items e<0
 ·exact hlt
 ·obtain⟨m,hm⟩:∃m:Nat,Ez w.items e=m:=⟨(Ez w.items e).toNat,by omega⟩
  obtain⟨x,hx,_,rfl⟩:=Kt hm;unfold Kn at hh;rw[AZ]at hh;exact absurd (Ag.2 ⟨x,h.items.mem_iff.2 (B0 hx),rfl⟩) hh
theorem cY{w:List Item}{x y:Item}(h:w[i]?=some x){l r:List Item}(h1:l.Perm (x::r))(h2:l.Perm w):(y::r).Perm (w.set i y):=by
 obtain⟨hl,_⟩:=AE.1 h;have e1:=Pi h;have e2:w.set i y=w.take i++y::w.drop (i+1):=List.set_eq_take_append_cons_drop.trans (Ab hl);rw[e2];refine MD ?_ List.perm_middle.symm;refine A9 _ ?_;have h3:(x::r).Perm (x::(w.take i++w.drop (i+1))):=h1.symm.trans (h2.trans ((C8 e1).trans PF));exact h3.cons_inv
theorem VB{w:List Item}{x:Item}(h:w[i]?=some x){l r:List Item}(h1:l.Perm (x::r))(h2:l.Perm w):r.Perm (w.eraseIdx i):=by
 have e1:=Pi h;have h3:(x::r).Perm (x::(w.take i++w.drop (i+1))):=h1.symm.trans (h2.trans ((C8 e1).trans PF));rw[GM];exact h3.cons_inv
theorem ArFor.swap(h:ArFor a w){l l':List Comp}{b:Ar}(hs:SwapR a e l l' b)(hi:w.items[i]?=some ⟨e,l⟩)(hc:Ce w.kinds l'=true):ArFor b (Gl w i l'):=by
 obtain⟨r,h1,h2⟩:=hs.items;have hk:(Gl w i l').kinds=w.kinds:=rfl;refine⟨hs.ok,hs.ne,by rw[hs.kinds,h.kinds];rfl,by rw[hs.gens,h.gens];rfl,?_,Mb h.wok hi hc⟩;rw[Mc hi];exact h2.trans (cY hi h1 h.items)
theorem ArFor.kill(h:ArFor a w){b:Ar}(hs:KillR a e b)(hh:Kn a e=true):(Hk w e).2=0/\ArFor b (Hk w e).1:=by
 obtain⟨l,h1⟩:=hs.items;have hm:(⟨e,l⟩:Item)∈w.items:=h.items.mem_iff.1 (h1.mem_iff.2 (by simp));obtain⟨i,hi,e1⟩:=Bv hm;have hi:w.items[i]?=some ⟨e,l⟩:=by rw[AX hi,e1]
 have hk:=Sb h.wok hi;have hw:=Yc h.wok hi;dsimp only at hk hw;rw[hk];refine⟨rfl,hs.ok,hs.ne,by rw[hs.kinds,h.kinds],?_,VB hi h1 h.items,hw⟩;rw[hs.gens,h.gens,Ct]
theorem ArFor.used(h:ArFor a w)(n:Nat):(a.g n).isSome=LK w.items n:=by
 have hk:(n:Int)∈Cw a.ts↔LK w.items n=true:=by
  rw[h.ok.keys_items];unfold LK;rw[Gq];constructor
  ·intro hm
   obtain⟨x,hx,e⟩:=Ag.1 hm;exact⟨x,h.items.mem_iff.1 hx,by simpa using e⟩
  ·rintro⟨x,hx,e⟩
   exact Ag.2 ⟨x,h.items.mem_iff.2 hx,by simpa using e⟩
 by_cases hu:(n:Int)∈Cw a.ts
 ·rw[h.ok.gn _ hu,hk.1 hu]
 ·have h2:LK w.items n=false:=by rw[<-PG];exact λe=>hu (hk.2 e)
  rw[h2];cases hg:a.g n with
  |none=>rfl
  |some u=>
   obtain⟨t,ht,hm,_⟩:=h.ok.g _ _ hg;exact absurd (CG.2 ⟨t,ht,hm⟩) hu
end
end
theorem i1(a:Ar)(ha:ArOK a)(e:Ent)(c:Comp)(hn:I64 e.n)(hh:Kn a e=false):Spec prog 260 [.ptr a.A 0 0,CI e,Ae false c] (arS a) λr S'=>r=iA 4/\S'=arS a:=by
 have hs:=OH a ha e hn;rw[hh]at hs;refine Sp (nt:=77) (res:=[.tmp 6]) func260 λSf=>?_
 refine RG ?_;(repeat first|refine WO ?_|refine Ai λB=>?_|refine Ay λY=>?_);refine NL ?_;refine JI ?_;refine WO ?_;refine H3 [_,_] hs ?_;refine JB ?_;refine An rfl rfl ?_;refine JM ?_;exact Ends.sp [iA 4] (arS a) ⟨rfl,rfl⟩
theorem fw(a b:Comp):PS prog 273 [Ae false a,Ae false b] (iA (FU a.kind b.kind)):=by
 refine Sp (nt:=10) (res:=[.tmp 4]) func273 λSf=>?_
 refine WK ?_;refine WK ?_;refine Bt ?_;refine Bt ?_;refine KK ?_;refine BO (h:=(I3 a.kind b.kind)) (k:=?_);refine JC ?_;refine Ah ?_;rfl
theorem cA{ks:List Kind}{c:Comp}{fl:List Comp}(h:Eb ks [c]=(fl,0)):∃v,fl=[⟨c.kind,v⟩]:=by
 unfold Eb at h;split at h
 ·rename_i h1;injection h with h2 h3;exact absurd h3 h1
 split at h
 ·rename_i h1;injection h with h2 h3;exact absurd h3 h1
 rename_i h0 h1;injection h with h2 h3
 have h1:(FR ks [] [] [c]).2=0:=Da.1 h1;rw[<-h2];rw[FR]at h1⊢;split at h1
 ·cases h1
 ·rename_i g1
  rw[AI g1];split at h1
  ·cases h1
  ·rename_i g2
   rw[AI g2];split at h1
   ·cases h1
   ·rename_i k hk
    split at h1
    ·rename_i g3;exact absurd h1 g3
    ·rename_i g3
     simp only[AI g3,FR,LB,Bz,List.mergeSort_singleton];exact⟨_,rfl⟩
def jl(a:Ar)(e:Ent)(l:List Comp)(c:Comp)(b:Ar):Prop:=((Eb a.kinds [c]).2≠0/\b=a)\/∃d,Eb a.kinds [c]=([d],0)/\SwapR a e l (KI l d) b
theorem W6{l u:List Comp}{d:Comp}(hl:FI l)(hd:d.kind∉l.map (·.kind))(hp:u.Perm (l++[d]))(hs:u.Pairwise λa b=>BF (λx y:Comp=>FU x.kind y.kind) b a=false):u=KI l d:=by
 have hle:u.Pairwise λa b=>a.kind<=b.kind:=hs.imp λ{x y} h=>by
  unfold BF at h;simp only[AZ]at h;have:¬y.kind<x.kind:=λe=>h (cmpI_ltz.2 e)
  omega
 have hne:(l++[d]).Pairwise λa b=>a.kind≠b.kind:=by
  rw[CL];refine⟨hl.imp λh=>by omega,by simp,λa ha b hb e=>?_⟩;rw[DC]at hb;subst hb;exact hd (Ag.2 ⟨a,ha,e⟩)
 have hne2:u.Pairwise λa b=>a.kind≠b.kind:=hp.symm.pairwise hne λh=>Ne.symm h
 refine Zt ((hle.and hne2).imp λh=>by obtain⟨x,y⟩:=h;omega) (OF hl) λx=>?_
 rw[hp.mem_iff,NX hl,Eq,DC];constructor
 ·rintro(h|rfl)
  ·exact .inr ⟨h,λe=>hd (Ag.2 ⟨x,h,e⟩)⟩
  ·exact .inl rfl
 ·rintro(rfl|h)
  ·exact .inr rfl
  ·exact .inl h.1
theorem fq(a:Ar)(ha:ArOK a)(hne:If a.ts)(e:Ent)(c:Comp)(hn:I64 e.n)(hkl:I64 c.kind)(h12:a.kinds.length<=12)(hh:Kn a e=true){l1 l2:List Tab}(hts:a.ts=l1++t::l2)(hm:(e.n,e)∈t.es)(hso:FI (BH t e.n))(h11:(Eb a.kinds [c]).2=0->c.kind∉t.ks->t.ks.length<=11):Spec prog 260 [.ptr a.A 0 0,CI e,Ae false c] (arS a) λr S'=>∃b:Ar,jl a e (BH t e.n) c b/\r=iA (Eb a.kinds [c]).2/\S'=arS b:=by
 have htm:t∈a.ts:=by rw[hts];simp
 have hto:=ha.tab t htm;have hks:=Pk hto hso;have hnk:e.n∈Am t.es:=Ag.2 ⟨_,hm,rfl⟩;have hnl:=hto.es.lt _ hnk;have hs:=OH a ha e hn;rw[hh]at hs;have hbs:=Yv t.ks c.kind hks (by have:=hto.ks;omega);have hft:=ND a.kinds [c] h12 (by simp);obtain⟨u,hgd,hone,hK⟩:=ha.ptr htm hnk;obtain⟨⟨fl,fe⟩,hfe⟩:=nm (Eb a.kinds [c]);unfold jl;rw[hfe]at hft h11⊢;dsimp only at hft h11⊢;refine Sp (nt:=77) (res:=[.tmp 6]) func260 λSf=>?_
 refine RG ?_;(repeat first|refine WO ?_|refine Ai λB=>?_|refine Ay λY=>?_);refine NL ?_;rename_i Be;refine JI ?_;refine WO ?_;refine H3 [_,_] hs ?_;refine JB ?_;refine AB rfl rfl ?_;refine FL ?_;refine RU ?_;(iterate 5 refine RK ?_);refine BT (v:=.lst false 42 2 [Ae false c]) (h:=W.litF1 (v0:=Ae false c) rfl rfl (.inl rfl) (by decide) (by decide) rfl) ?_;refine I6 (h:=(hft ..)) (k:=?_);(iterate 5 refine RK ?_);refine RGo.nil (by kernel_rfl) ?_;refine JF ?_;refine AC rfl (λh0=>?_) (λh0=>?_)
 ·refine FL ?_
  refine R1 ?_;refine RT ?_;exact Ends.sp [iA fe] (arS a) ⟨a,.inl ⟨by simpa using h0,rfl⟩,rfl,rfl⟩
 have h0:fe=0:=by simpa using h0
 subst h0;obtain⟨v,rfl⟩:∃v,fl=[⟨c.kind,v⟩]:=cA hfe;refine FL ?_;refine AWP.perm (A9 _ (A9 _ (IA hts Sf))) ?_;refine RU ?_;(iterate 6 refine RK ?_);refine BT ?_ (W.lookP (.ptr t.X 0 0) hgd hn hone hK rfl rfl (by exact Az) (by exact Az));refine RK ?_;refine RGo.nil (by kernel_rfl) ?_;refine FL ?_;refine JN ?_;refine I6 (h:=(hbs ..)) (k:=?_);(iterate 5 refine RK ?_);refine RGo.nil (by kernel_rfl) ?_;refine FL ?_;by_cases hk:c.kind∈t.ks
 ·rw[BP hk]
  refine R1 ?_;refine An rfl rfl ?_;obtain⟨hil,hik⟩:=VQ hks hk;obtain⟨i,hi⟩:=nm (P8 t.ks c.kind);have hca:FD (BH t e.n) c.kind=i:=by rw[<-hi,<-P7 hso,Fh hto]
  rw[hi]at hil⊢;have hic:i<t.cs.length:=by rw[<-hto.len];exact hil
  obtain⟨m1,m2,hsp,hm1⟩:=KB hic;have hcat:(t.cs.map λc=>AV.ptr c.1.X 0 0)[i]?=some (.ptr t.cs[i].1.X 0 0):=DK _ hic;have hcil:i<(t.cs.map λc=>AV.ptr c.1.X 0 0).length:=by rw[AD];exact hic
  obtain⟨col,hce⟩:=nm (t.cs[i]);rw[hce]at hsp hcat;have hcok:ColOK col.2:=hto.cs _ (by rw[hsp];simp);have hpu:=(Vr col.1 col.2 hcok e.n v hnl).tt;refine FL ?_;(repeat refine WF ?_);refine AWP.region_runH (n:=8) ([(B,.row 42 2 [Ae false c]),(Be,.row 32 2 [CI e])]++(arH a++[Ha t])) (stE t.ek t.es++(DU t.cs++(Cl l1++(Cl l2++Sf)))) rfl (by kernel_rfl) (by kernel_rfl) ?_;refine Cn ?_;refine Cn ?_;refine Cn ?_;refine Cn ?_;refine Cn ?_;refine Cn (h:=W.idxL (a:=i) rfl rfl rfl hcat) ?_;refine Cn ?_;refine Cn ?_;refine Cn ?_;refine Cn ?_;refine Cn (h:=W.idxL (a:=0) (e:=Ae false ⟨c.kind,v⟩) rfl rfl rfl rfl) ?_;refine Cn ?_;refine Cn ?_;refine Fs [54,56,60] ?_;refine RGoH.nil (by kernel_rfl) (by kernel_rfl) (by kernel_rfl) ?_;refine HC.step [(54,.ptr col.1.X 0 0),(56,iA e.n),(60,Av false v)] ⟨rfl,rfl,rfl,rfl,rfl,rfl,CZ⟩ λT F=>?_
  have heq:F++(stE t.ek t.es++(DU t.cs++(Cl l1++(Cl l2++Sf))))=(F++(stE t.ek t.es++DU m1))++(stS col.1 col.2++(DU m2++(Cl l1++(Cl l2++Sf)))):=by
   rw[hsp,GW,GI];simp only[Aq]
  refine HT _ hpu (λq2 _=>?_) (hp:=heq);obtain⟨k2,hk2⟩:∃k2:StK,k2=⟨col.1.X,q2.1,q2.2,col.1.M⟩:=⟨_,rfl⟩;have hkx:k2.X=col.1.X:=by rw[hk2]
  rw[<-hk2]
  have heq2:(F++(stE t.ek t.es++DU m1))++(stS k2 (Dd col.2 e.n v)++(DU m2++(Cl l1++(Cl l2++Sf))))=F++(stE t.ek t.es++(DU (m1++(k2,Dd col.2 e.n v)::m2)++(Cl l1++(Cl l2++Sf)))):=by
   rw[GW,GI];simp only[Aq]
  refine AOps.perm (C8 heq2) ?_;refine AOps.nil ⟨rfl,_,_,⟨λd v h=>h,.refl _⟩,?_⟩;obtain⟨b,hb⟩:∃b:Ar,b={a with ts:=l1++setT t m1 m2 k2 col.2 e.n v::l2}:=⟨_,rfl⟩;have hbt:b.ts=l1++setT t m1 m2 k2 col.2 e.n v::l2:=by rw[hb]
  have hbl:b.ts.length=a.ts.length:=by rw[hbt,hts,AJ,AJ];rfl
  have hbp:ptrs Tab.X b.ts=ptrs Tab.X a.ts:=by rw[hbt,hts,ptrs,ptrs,AK,AK];rfl
  have hH:arH b=arH a:=by
   show[_,_,_,_,_]=[_,_,_,_,_]
   rw[hbl,hbp,hb]
  have hT:Ha (setT t m1 m2 k2 col.2 e.n v)=Ha t:=by
   show(t.X,AO.row _ _ [AV.agg [Av false t.ks,_,.lst false _ _ ((m1++(k2,Dd col.2 e.n v)::m2).map λc=>AV.ptr c.1.X 0 0)]])=(t.X,AO.row _ _ [AV.agg [Av false t.ks,_,.lst false _ _ (t.cs.map λc=>AV.ptr c.1.X 0 0)]])
   rw[hsp,AK,AK,Aa,Aa,hkx]
  have hfr:=IA hbt Sf;rw[hH,hT]at hfr;show andThen _ _ _ _
  refine AWP.perm (S':=(B,.row 42 2 [Ae false c])::(Be,.row 32 2 [CI e])::(arS b++Sf)) ?_ ?_
  ·refine MD (C8 ?_) (A9 _ (A9 _ hfr.symm))
   simp only[CT,Bz]
  refine JM ?_
  have hins:KI (BH t e.n) ⟨c.kind,v⟩=(BH t e.n).set m1.length ⟨c.kind,v⟩:=by
   rw[Yi hso,Ab ((Qt hso).2 (by rw[Fh hto];exact hk)),hca,hm1]
  have hz:t.ks[m1.length]?=some c.kind:=by rw[hm1,AX hil];congr 1;simpa only[hi]using hik
  refine Ends.sp [iA 0] (arS b) ⟨b,.inr ⟨⟨c.kind,v⟩,rfl,?_⟩,rfl,rfl⟩;rw[hins,hb];exact⟨ha.setT hts hsp hnk,i7 hne hts,rfl,rfl,rfl,_,QL ha hts hm,aY ha hts hsp hm hz⟩
 ·rw[Au hk]
  refine R1 ?_;refine AB rfl rfl ?_;refine FL ?_;refine AWP.perm (A9 _ (A9 _ (IA hts Sf).symm)) ?_;(repeat refine WF ?_);have htk:=TT a ha hne hts hnk;have htl:(BH t e.n).length=t.ks.length:=by unfold BH;rw[AD,GK];have:=hto.len;omega
  have h16:=hto.ks;refine AWP.region_runH (n:=2) [(B,.row 42 2 [Ae false c]),(Be,.row 32 2 [CI e])] (arS a++Sf) rfl (by kernel_rfl) (by kernel_rfl) ?_;refine Cn ?_;refine Cn ?_;refine Cn ?_;refine Fs [62,64] ?_;refine Cn ?_;refine Cn (h:=W.idxL (a:=0) (e:=Ae false ⟨c.kind,v⟩) rfl rfl rfl rfl) ?_;refine Cn ?_;refine Cn (v:=.lst false 42 2 [Ae false ⟨c.kind,v⟩]) (h:=W.litF1 (v0:=Ae false ⟨c.kind,v⟩) rfl rfl (.inl rfl) (by decide) (by decide) rfl) ?_;refine Fs [65,69] ?_;refine Fs [70] ?_;refine RGoH.nil (by kernel_rfl) (by kernel_rfl) (by kernel_rfl) ?_;refine HC.step [(62,.ptr a.A 0 0),(64,iA e.n)] ⟨rfl,rfl,rfl,rfl,CZ⟩ λT F=>?_
  refine RP F htk λY _ K=>?_;obtain⟨hok,hne2,hA,hki,hge,hit⟩:=QB ha hne hts hm Y;obtain⟨b,hb⟩:=nm (Iw a l1 l2 t e.n Y);rw[hb]at hok hne2 hA hki hge hit⊢;refine AOps.perm List.perm_middle.symm ?_;refine AOps.nil ⟨rfl,_,_,⟨λd v h=>h,.refl _⟩,?_⟩;refine HC.step [(65,.sl K 0 ((BH t e.n).map (Ae false)).length),(69,.lst false 42 2 [Ae false ⟨c.kind,v⟩])] ⟨rfl,rfl,rfl,rfl,CZ⟩ λT2 F2=>?_
  refine AOps.perm PF ?_;refine Fk λZ=>?_
  refine Lo ?_ (W.app (X:=K) (Y:=Z) rfl rfl (by exact Az) (by exact Az) (by rw[AD]) (by rw[AD];show(_+1)*32<=_;omega) (by rw[AD];unfold maxLen;show _+1<=_;omega) (by decide));dsimp only[BA,List.set_cons_zero,List.set_cons_succ];refine AOps.perm (A9 _ List.perm_middle.symm) ?_;refine AOps.nil ⟨rfl,_,_,⟨λd v h=>h,.cons _ (.refl _)⟩,?_⟩;refine HC.step [(70,.sl Z 0 (((BH t e.n).map (Ae false)).length+1))] ⟨rfl,rfl,CZ⟩ λT3 F3=>?_
  (repeat refine WO ?_);refine AOps.nil ⟨rfl,_,_,⟨λd v h=>h,.refl _⟩,?_⟩;show andThen _ _ _ _
  refine AWP.weak (st':=⟨[(0,.ptr a.A 0 0),(4,.ptr Be 0 0),(12,.sl Z 0 (((BH t e.n).map (Ae false)).length+1))],[(Be,.row 32 2 [CI e]),(Z,.row 42 2 ((BH t e.n).map (Ae false)++[Ae false ⟨c.kind,v⟩]))]++(arS b++Sf)⟩) ⟨.cons rfl (.cons rfl (.cons rfl .nil)),.cons _ (.refl _)⟩ ?_;obtain⟨cl,hcl⟩:∃cl,BH t e.n++[(⟨c.kind,v⟩:Comp)]=cl:=⟨_,rfl⟩;have hcm:(BH t e.n).map (Ae false)++[Ae false ⟨c.kind,v⟩]=cl.map (Ae false):=by rw[<-hcl,AK];rfl
  have hcn:((BH t e.n).map (Ae false)).length+1=cl.length:=by rw[<-hcl,AJ,AD];rfl
  rw[hcm,hcn];obtain⟨su,⟨hu1,hu2⟩,hsf⟩:=NJ 273 [] (λx y=>FU x.kind y.kind) rfl (TZ Comp.kind) (λx y=>fw x y) Z cl.length cl rfl (by have:=h11 rfl hk;rw[<-hcl,AJ,htl];show _+1<=12;omega);refine JI ?_;refine AOps.o2 (h:=(hsf ..)) (k:=?_);refine NL ?_;dsimp only[BA,List.set_cons_zero,List.set_cons_succ,CT,Bz];rw[<-hu1.length_eq];have hF:AV.frzs (su.map (Ae false))=su.map (Ae false):=Frzs.h;have hsl:su.length=(su.map (Ae false)).length:=(AD _).symm;rw[hsl];refine KW 12 _ hF ?_;rw[<-hA];have had:=Q4 b e su hok hne2 hnl (Qa ha hok hit) (by have:=h11 rfl hk;rw[hu1.length_eq,<-hcl,AJ,htl];show _+1<=16;omega);refine JD ?_;(iterate 3 refine WO ?_);refine HT [_,_] had λb2 hb2=>?_;refine NL ?_;refine JM ?_;obtain⟨g1,g2,g3,g4,g5,g6⟩:=hb2;have hsu:su=KI (BH t e.n) ⟨c.kind,v⟩:=W6 hso (by rw[Fh hto];exact hk) (by rw[hcl];exact hu1) hu2;rw[hsu]at g6;exact Ends.sp [iA 0] (arS b2) ⟨b2,.inr ⟨_,rfl,g1,g2,g3.trans hA,g4.trans hki,g5.trans hge,_,hit,g6⟩,rfl,rfl⟩
theorem aq{w:Wd}{j:Nat}(h1:∀q<j,(!LK w.items (q:Nat)&&decide (w.gens.getD q 0<1073741824))=false)(h2:j<w.gens.length)(h3:(!LK w.items (j:Nat)&&decide (w.gens.getD j 0<1073741824))=true):DS w=(j,true):=by
 have:Sh w=some j:=by
  unfold Sh;rw[Ka];exact⟨h3,j,by simpa using h2,by simp,λq hq=>by have:=h1 q hq;simp only[List.getElem_range];rw[this];rfl⟩
 unfold DS;rw[this]
theorem OD:∀(l:List Item) (it:Item),(OE l it).Perm (it::l)
 |[],it=>.refl _
 |x::l,it=>by
  rw[OE];split
  ·exact((OD l it).cons x).trans (.swap ..)
  ·exact .refl _
theorem ao{w:Wd}(h1:∀q<w.gens.length,(!LK w.items (q:Nat)&&decide (w.gens.getD q 0<1073741824))=false):DS w=(w.gens.length,decide ((w.gens.length:Int)<256)):=by
 have:Sh w=none:=by
  unfold Sh;rw[JT];intro q hq;have:=h1 q (by simpa using hq);rw[this];simp
 unfold DS;rw[this]
theorem Xt(a:Ar)(w:Wd)(h:ArFor a w)(h12:w.kinds.length<=12)(l:List Comp)(hl:l.length<=1099511627776):Spec prog 263 [.ptr a.A 0 0,B3 false false l] (arS a) λr S'=>∃b:Ar,(ArFor b (Ja w (GP w l).1 (GP w l).2.2)/\b.A=a.A)/\r= .tup [CI (GP w l).2.1,iA (GP w l).2.2]/\S'=arS b:=by
 have hft:=ND a.kinds l (by rw[h.kinds];exact h12) hl;obtain⟨r,hr⟩:=nm (GP w l);rw[hr];unfold GP at hr;rw[AI (by simp[(Ck w).2 h.wok])]at hr;rw[h.kinds]at hft;obtain⟨⟨cs,f⟩,hcs⟩:=nm (Eb w.kinds l);have hheld:f=0->Ce w.kinds cs=true:=λe=>by have:=LJ (ks:=w.kinds) (l:=l) (by rw[hcs];exact e);rwa[hcs]at this
 rw[hcs]at hr hft;dsimp only at hr hft;have hgl:=h.wok.gl;rw[<-h.gens]at hgl;refine Sp (nt:=84) (res:=[.cell 4 32,.tmp 5]) func263 λSf=>?_
 refine JG ?_;refine Ai λP=>?_;refine JB ?_
 refine FL ?_;rw[<-h.kinds]at hft;refine JJ ?_;refine BO (h:=(hft ..)) (k:=?_);refine JE ?_;refine JF ?_;by_cases hf:f≠0
 ·rw[Ab hf]at hr
  subst hr;refine An rfl (BP hf) ?_;refine JM ?_;exact Ends.sp [CI ⟨0,0⟩,iA f] (arS a) ⟨a,⟨by unfold Ja;rw[AI hf];exact h,rfl⟩,rfl,rfl⟩
 have hf:f=0:=Da.1 hf;subst hf;rw[AI (by simp)]at hr;refine AB rfl rfl ?_;refine JA ?_;refine Cd (λ(j:Nat)=>⟨[(0,.ptr a.A 0 0),(4,.ptr P 0 0),(6,B3 false false cs),(8,iA j)],(P,.row 32 2 [CI ⟨0,0⟩])::(arS a++Sf)⟩) (λj=>j<=a.gens.length/\∀q<j,(!LK w.items (q:Nat)&&decide (w.gens.getD q 0<1073741824))=false) (λj=>a.gens.length-j) 0 ⟨Ap _,λq hq=>absurd hq (by omega)⟩ ?_;rintro j ⟨hj,hall⟩;have hjI:I64 (j:Int):=by constructor<;>omega
 by_cases hjl:j<a.gens.length
 ·have hd:decide ((j:Int)<(a.gens.length:Nat))=true:=BP (by omega)
  have hat:(a.gens.map iA)[j]?=some (iA a.gens[j]):=DK _ hjl;have hmem:=h.wok.gs a.gens[j] (by rw[<-h.gens];exact As hjl);have hgd:w.gens.getD j 0=a.gens[j]:=by rw[<-h.gens,Ct,AX hjl];rfl
  have hus:=h.used j
  have hus0:a.g j=none->¬a.gens[j]=1073741824->DS w=(j,true):=λe1 e2=>by
   refine aq hall (by rw[<-h.gens];exact hjl) ?_;rw[<-hus,e1,hgd,BP (by omega)];rfl
  cases hg:a.g j with
  |none=>
   have hgp:(a.g j).getD (.pointer none)= .pointer none:=by rw[hg];rfl
   refine RG ?_;(iterate 19 refine WO ?_);refine Ad ?_ (Nj _ hgp hjI rfl rfl (by exact Az));refine WO ?_;refine Ad ?_ (W.neNil false (.inl ⟨rfl,rfl⟩) rfl rfl);refine JE ?_;refine AC rfl (λhc=>?_) (λhc=>?_)
   ·have hc:a.gens[j]=1073741824:=AM hc
    refine JF ?_;refine Bb (j+1) ⟨by omega,λq hq=>?_⟩ (by omega);by_cases hqj:q=j
    ·subst hqj
     rw[hgd,hc];simp
    ·exact hall q (by omega)
   ·have hc:¬a.gens[j]=1073741824:=AU hc
    have hfr:=hus0 hg hc;obtain⟨f1,f2,f3,f4⟩:=Ms h.wok (by rw[hfr]);have hv:=Pj h.wok (by rw[hfr]) (hheld rfl);rw[hfr]at hr f1 f2 f3 f4 hv;dsimp only at hr f1 f2 f3 f4 hv;rw[AI (by simp)]at hr;have hgz:a.gens=FH w.gens j:=by unfold FH;rw[AI (by rw[<-h.gens];omega),h.gens]
    obtain⟨g,hge⟩:=nm ((FH w.gens j).getD j 0);rw[hge]at hr hv;have hge:a.gens[j]=g:=by rw[<-hge,<-hgz,Ct,AX hjl];rfl
    rw[hge]at hat;subst hr
    have hfk:((j:Nat):Int)∉Cw a.ts:=λhm=>by
     rw[h.ok.keys_items]at hm;obtain⟨x,hx,e⟩:=Ag.1 hm;exact f2 x (h.items.mem_iff.1 hx) e
    have had:=Q4 a ⟨(j:Nat),g⟩ cs h.ok h.ne (by dsimp only;omega) hfk (Gx h.wok.ks (hheld rfl)).1;have hd2:decide ((j:Int)=256)=false:=Au (by omega);have hd3:decide ((j:Int)=(a.gens.length:Nat))=false:=Au (by omega);refine JF ?_;refine AB rfl hd2 ?_;refine JF ?_;refine AB rfl hd3 ?_;refine JL ?_;refine Ai λE=>?_;refine JB ?_
    refine JD ?_;(iterate 3 refine WO ?_);refine HT [_,_] had λb2 hb2=>?_;refine NL ?_;refine JM ?_;obtain⟨q1,q2,q3,q4,q5,q6⟩:=hb2;exact Ends.sp [CI ⟨(j:Nat),g⟩,iA 0] (arS b2) ⟨b2,⟨⟨q1,q2,q4.trans h.kinds,q5.trans hgz,q6.trans ((h.items.cons _).trans (OD _ _).symm),hv⟩,q3⟩,rfl,rfl⟩
  |some u=>
   have hgp:(a.g j).getD (.pointer none)=u:=by rw[hg];rfl
   obtain⟨t,ht,htn,hK,b,hb⟩:=h.ok.g j u hg;have hone:u.oneCell'=true:=by rw[hb];rfl
   refine RG ?_;(iterate 19 refine WO ?_);refine Ad ?_ (Nj _ hgp hjI rfl rfl (by exact Az) hone);refine WO ?_;refine Ad ?_ (W.neNil true (.inr ⟨b,hb,rfl⟩) rfl rfl);refine JE ?_;refine An rfl rfl ?_;refine JF ?_;refine Bb (j+1) ⟨by omega,λq hq=>?_⟩ (by omega);by_cases hqj:q=j
   ·subst hqj
    rw[<-hus,hg];rfl
   ·exact hall q (by omega)
 ·have hjl:j=a.gens.length:=by omega
  have hd:decide ((j:Int)<(a.gens.length:Nat))=false:=Au (by omega);have hfr:=ao (w:=w) λq hq=>hall q (by rw[hjl,h.gens];exact hq)
  rw[<-h.gens,<-hjl]at hfr;refine RG ?_;(repeat first|(refine Cg ?_;first|refine Bp ?_|refine Bx ?_)|refine WO ?_|refine Ai λX=>?_|refine Ay λY=>?_);refine NL ?_;refine AB rfl rfl ?_;refine JF ?_;refine AC rfl (λhc=>?_) (λhc=>?_)
  ·have hc:(j:Int)=256:=AM hc
   rw[hfr,Ab (Au (by omega))]at hr;subst hr;refine JM ?_;exact Ends.sp [CI ⟨0,0⟩,iA 6] (arS a) ⟨a,⟨h,rfl⟩,rfl,rfl⟩
  ·have hc:¬(j:Int)=256:=AU hc
   have hfr:DS w=(j,true):=by rw[hfr,BP (by omega)]
   obtain⟨f1,f2,f3,f4⟩:=Ms h.wok (by rw[hfr]);have hv:=Pj h.wok (by rw[hfr]) (hheld rfl);rw[hfr]at hr f1 f2 f3 f4 hv;dsimp only at hr f1 f2 f3 f4 hv;rw[AI (by simp)]at hr;have hgr:FH w.gens j=a.gens++[0]:=by unfold FH;rw[Ab (by rw[<-h.gens];exact hjl),h.gens]
   obtain⟨g,hge⟩:=nm ((FH w.gens j).getD j 0);rw[hge]at hr hv;have hge:g=0:=by rw[<-hge,hgr,hjl,Ct];simp
   subst hge;subst hr;have hd3:decide ((j:Int)=(a.gens.length:Nat))=true:=BP (by omega);refine JF ?_;refine An rfl hd3 ?_;refine JD ?_;(iterate 5 refine WO ?_);refine Dq (iA 0) ?_;refine WO ?_;refine Ay λY=>?_;refine KO ?_
   dsimp only[BA,List.set_cons_zero,List.set_cons_succ,CT,Bz];refine AOps.nil ?_;refine FL ?_;have hm1:a.gens.map iA++[iA 0]=(a.gens++[0]).map iA:=by rw[AK];rfl
   have hm2:a.gens.length+[iA 0].length=(a.gens++[0]).length:=by rw[AJ];rfl
   rw[hm1,hm2];obtain⟨z,hz⟩:∃z:Ar,z={a with G:=Y,gens:=a.gens++[0]}:=⟨_,rfl⟩;have hzA:z.A=a.A:=by rw[hz]
   have hzg:z.gens=a.gens++[0]:=by rw[hz]
   have hzt:z.ts=a.ts:=by rw[hz]
   have hzo:ArOK z:=by rw[hz];exact⟨h.ok.tab,h.ok.ord,h.ok.keys,h.ok.ent,h.ok.g,h.ok.gn,h.ok.cnt⟩
   refine AWP.weak (st':=⟨[(0,.ptr a.A 0 0),(4,.ptr P 0 0),(6,B3 false false cs),(8,iA j)],(P,.row 32 2 [CI ⟨0,0⟩])::(arS z++Sf)⟩) ⟨by exact FE,?_⟩ ?_
   ·rw[hz]
    simp only[arS,CT,Bz];exact DY _
   have hat:(z.gens.map iA)[j]?=some (iA 0):=by rw[hzg,Ac,hjl];simp
   have hjz:j<z.gens.length:=by rw[hzg,AJ,hjl];show a.gens.length<_+1;omega
   have hfk:((j:Nat):Int)∉Cw z.ts:=λhm=>by
    rw[hzt,h.ok.keys_items]at hm;obtain⟨x,hx,e⟩:=Ag.1 hm;exact f2 x (h.items.mem_iff.1 hx) e
   have had:=Q4 z ⟨(j:Nat),0⟩ cs hzo (by rw[hzt];exact h.ne) (by dsimp only;omega) hfk (Gx h.wok.ks (hheld rfl)).1;rw[hzt]at had;rw[<-hzA];refine JJ ?_;refine Ai λE=>?_;refine JB ?_
   refine JD ?_;(iterate 3 refine WO ?_);refine HT [_,_] had λb2 hb2=>?_;refine NL ?_;refine JM ?_;obtain⟨q1,q2,q3,q4,q5,q6⟩:=hb2;exact Ends.sp [CI ⟨(j:Nat),0⟩,iA 0] (arS b2) ⟨b2,⟨⟨q1,q2,(q4.trans (by rw[hz])).trans h.kinds,(q5.trans hzg).trans hgr.symm,q6.trans ((h.items.cons _).trans (OD _ _).symm),hv⟩,q3⟩,rfl,rfl⟩
section
section
variable {a:Ar}{w:Wd}
theorem de{l:List Comp}(hw:WdOK w)(hi:w.items[i]?=some ⟨e,l⟩):Ez w.items e=i:=Nd hw.so hi
theorem fv(h:ArFor a w)(h12:w.kinds.length<=12)(e:Ent)(c:Comp)(hn:I64 e.n)(hk:I64 c.kind):Spec prog 260 [.ptr a.A 0 0,CI e,Ae false c] (arS a) λr S'=>∃b:Ar,(ArFor b (Ja w (Ga w e c).1 (Ga w e c).2)/\b.A=a.A)/\r=iA (Ga w e c).2/\S'=arS b:=by
 have hwe:=(Ck w).2 h.wok;cases hh:Kn a e with
 |false=>
  have hf:=h.hasE hh;have hp:Ga w e c=(⟨[],[],[]⟩,4):=by unfold Ga;rw[AI (by simp[hwe]),Ab hf]
  rw[hp];exact(i1 a h.ok e c hn hh).mono λr S' ⟨e1,e2⟩=>⟨a,⟨h,rfl⟩,e1,e2⟩
 |true=>
  obtain⟨l1,l2,t,hts,hm⟩:=PL h.ok hh;have htm:t∈a.ts:=by rw[hts];simp
  obtain⟨i,hi⟩:=h.item htm hm;have hso:=h.sort htm hm;have hhe:=h.held htm hm;have hfi:=de h.wok hi;have hto:=h.ok.tab t htm
  have h11:(Eb a.kinds [c]).2=0->c.kind∉t.ks->t.ks.length<=11:=λe1 e2=>by
   obtain⟨d,_,_,g1,g2⟩:=R5 e1;rw[h.kinds]at g2
   have h1:(c.kind::t.ks).length<=w.kinds.length:=LT (λx=>x) _ _ (Al.2 ⟨λx hx e=>e2 (by subst e;exact hx),(Pk hto hso).imp λh=>by omega⟩) λx hx=>by
    rcases AP.1 hx with rfl|hx
    ·exact⟨g1,g2⟩
    ·rw[<-Fh hto e.n]at hx
     obtain⟨d,hd,rfl⟩:=Ag.1 hx;have:=(held_iff.1 hhe).2 d hd;exact⟨this.1,this.2.1⟩
   rw[Bl]at h1;omega
  refine(fq a h.ok h.ne e c hn hk (by rw[h.kinds];exact h12) hh hts hm hso h11).mono λr S' ⟨b,hb,e1,e2⟩=>?_
  unfold jl at hb;rw[h.kinds]at hb e1;rcases hb with⟨hne,rfl⟩|⟨d,hd,hs⟩
  ·have hp:Ga w e c=(⟨[],[],[]⟩,(Eb w.kinds [c]).2):=by unfold Ga;rw[AI (by simp[hwe]),hfi,AI (by omega),Ab hne]
   rw[hp];exact⟨b,⟨by unfold Ja;rw[AI hne];exact h,rfl⟩,e1,e2⟩
  ·have hp:Ga w e c=(Gl w i (KI (BH t e.n) d),0):=by unfold Ga;rw[AI (by simp[hwe]),hfi,AI (by omega),hd,AI (by simp),B4,hi]
   rw[hd]at e1;rw[hp];have hfo:=R7 h.wok.ks (by rw[hd]);have hdc:=Pa h.wok.ks hfo;rw[hd]at hdc;injection hdc with hdc
   injection hdc with hdc
   have hpo:=cU h.wok hi hfo
   have hhl:Ce w.kinds (KI (BH t e.n) d)=true:=by
    rw[hdc]
    have hii:(Gl w i (KI (BH t e.n) (Mu w.kinds c))).items[i]?=some ⟨e,KI (BH t e.n) (Mu w.kinds c)⟩:=by
     rw[Mc hi];exact BU (AE.1 hi).1
    exact(hpo.it _ (B0 hii)).2.2.2.2
   exact⟨b,⟨h.swap hs hi hhl,hs.A⟩,e1,e2⟩
theorem dj(h:ArFor a w)(e:Ent)(k:Int)(hn:I64 e.n)(hk:I64 k):Spec prog 261 [.ptr a.A 0 0,CI e,iA k] (arS a) λr S'=>∃b:Ar,(ArFor b (Ja w (I2 w e k).1 (I2 w e k).2)/\b.A=a.A)/\r=iA (I2 w e k).2/\S'=arS b:=by
 have hwe:=(Ck w).2 h.wok;cases hh:Kn a e with
 |false=>
  have hf:=h.hasE hh;have hp:I2 w e k=(⟨[],[],[]⟩,4):=by unfold I2;rw[AI (by simp[hwe]),Ab hf]
  rw[hp];exact(dl a h.ok e k hn hh).mono λr S' ⟨e1,e2⟩=>⟨a,⟨h,rfl⟩,e1,e2⟩
 |true=>
  obtain⟨l1,l2,t,hts,hm⟩:=PL h.ok hh;have htm:t∈a.ts:=by rw[hts];simp
  obtain⟨i,hi⟩:=h.item htm hm;have hso:=h.sort htm hm;have hhe:=h.held htm hm;have hto:=h.ok.tab t htm;have hp:=Su h.wok hi k;dsimp only at hp;have hcm:(Dj (BH t e.n) k).isSome=true↔k∈t.ks:=by rw[Qt hso,Fh hto]
  refine(a9 a h.ok h.ne e k hn hk hh hts hm (Pk hto hso)).mono λr S' ⟨b,hb,e1,e2⟩=>?_
  by_cases hkm:k∈t.ks
  ·have hcs:=hcm.2 hkm
   rw[Ab hkm]at hb e1;rw[Ab hcs]at hp;rw[hp];have hl:P8 t.ks k=FD (BH t e.n) k:=by rw[<-P7 hso,Fh hto]
   rw[hl,<-Vq hso hcs]at hb;exact⟨b,⟨h.swap hb hi (Sg hhe),hb.A⟩,e1,e2⟩
  ·rw[AI hkm]at hb e1
   rw[AI λe=>hkm (hcm.1 e)]at hp;rw[hp];subst hb;exact⟨b,⟨h,rfl⟩,e1,e2⟩
theorem dI(h:ArFor a w)(e:Ent)(hn:I64 e.n):Spec prog 262 [.ptr a.A 0 0,CI e] (arS a) λr S'=>∃b:Ar,(ArFor b (Ja w (Hk w e).1 (Hk w e).2)/\b.A=a.A)/\r=iA (Hk w e).2/\S'=arS b:=by
 have hwe:=(Ck w).2 h.wok;cases hh:Kn a e with
 |false=>
  have hf:=h.hasE hh;have hp:Hk w e=(⟨[],[],[]⟩,4):=by unfold Hk;rw[AI (by simp[hwe]),Ab hf]
  rw[hp];exact(gF a h.ok e hn hh).mono λr S' ⟨e1,e2⟩=>⟨a,⟨h,rfl⟩,e1,e2⟩
 |true=>
  obtain⟨l1,l2,t,hts,hm⟩:=PL h.ok hh;have htm:t∈a.ts:=by rw[hts];simp
  obtain⟨i,hi⟩:=h.item htm hm;have hit:=h.wok.it _ (B0 hi);dsimp only at hit;refine(dH a h.ok h.ne e hn hh (by rw[h.gens];omega) (by rw[h.gens];exact h.wok.gl) (by rw[h.gens];exact h.wok.gs)).mono λr S' ⟨b,hb,e1,e2⟩=>?_
  obtain⟨g1,g2⟩:=h.kill hb hh;rw[g1];exact⟨b,⟨g2,hb.A⟩,e1,e2⟩
end
end
abbrev E1(b:Bool)(l:List Cmd):AV:=.lst b 303 5 (l.map ED)
theorem bI(ks:List Kind)(c:Cmd)(h12:ks.length<=12)(hl:c.comps.length<=1099511627776):PS prog 245 [BZ false false ks,ED c] (.tup [B3 false false (F4 ks c).1,iA (F4 ks c).2]):=by
 have hft:=ND ks c.comps h12 hl;obtain⟨act,ent,kind,comps⟩:=c;dsimp only at hft hl;obtain⟨r,hr⟩:=nm (F4 ks ⟨act,ent,kind,comps⟩);rw[hr];unfold F4 at hr;dsimp only at hr;refine Sp (nt:=42) (res:=[.tmp 4,.tmp 5]) func245 λSf=>?_
 have hlm:(comps.map (Ae false)).length=comps.length:=AD _;have hkm:(ks.map (Bd false)).length=ks.length:=AD _;refine JG ?_;refine Ai λB=>?_;refine JE ?_
 refine JA ?_;refine R1 ?_;refine AC rfl (λh0=>?_) (λh0=>?_)
 ·rw[Ab (AM h0)]at hr
  refine JF ?_;refine AC rfl (λh1=>?_) (λh1=>?_)
  ·have h1:((comps.map (Ae false)).length:Int)≠1:=AM h1
   rw[AI (by omega)]at hr;subst hr;refine JM ?_;exact Cp [.prim (.slice none 0 0),iA 3] [B3 false false [],iA 3] (.cons (.cell .nil) (.cons (.cell .same) .nil))
  ·have h1:¬((comps.map (Ae false)).length:Int)≠1:=AU h1
   rw[Ab (by omega)]at hr;subst hr;refine JL ?_;refine BO (h:=(hft ..)) (k:=?_);refine JE ?_;refine RT ?_;exact K9 (rs:=[B3 false false (Eb ks comps).1,iA (Eb ks comps).2]) rfl
 rw[AI (AU h0)]at hr;refine JF ?_;refine AC rfl (λh1=>?_) (λh1=>?_)
 ·rw[Ab (AM h1)]at hr
  refine FL ?_;cases g1:decide (kind<0)with
  |true=>
   rw[Ab (.inl (AM g1))]at hr;subst hr;refine R1 ?_;refine An rfl (by first|rfl|assumption) ?_;refine JM ?_;exact Cp [.prim (.slice none 0 0),iA 1] [B3 false false [],iA 1] (.cons (.cell .nil) (.cons (.cell .same) .nil))
  |false=>
   refine R1 ?_;refine AC rfl (λg2=>?_) (λg2=>?_)
   ·rw[hkm]at g2
    rw[Ab (.inr (AM g2))]at hr;subst hr;refine JM ?_;exact Cp [.prim (.slice none 0 0),iA 1] [B3 false false [],iA 1] (.cons (.cell .nil) (.cons (.cell .same) .nil))
   ·rw[hkm]at g2
    have g1:=AU g1;have g2:¬(ks.length:Int)<=kind:=AU g2;rw[AI (by omega)]at hr;subst hr;refine JM ?_;exact Cp [.prim (.slice none 0 0),iA 0] [B3 false false [],iA 0] (.cons (.cell .nil) (.cons (.cell .same) .nil))
 rw[AI (AU h1)]at hr;refine JF ?_;refine AC rfl (λh2=>?_) (λh2=>?_)
 ·rw[Ab (AM h2)]at hr
  subst hr;refine JM ?_;exact Cp [.prim (.slice none 0 0),iA 0] [B3 false false [],iA 0] (.cons (.cell .nil) (.cons (.cell .same) .nil))
 rw[AI (AU h2)]at hr;refine JF ?_;refine AC rfl (λh3=>?_) (λh3=>?_)
 ·rw[Ab (AM h3)]at hr
  subst hr;refine JL ?_;refine BO (h:=(hft ..)) (k:=?_);refine JE ?_;refine RT ?_;exact K9 (rs:=[B3 false false (Eb ks comps).1,iA (Eb ks comps).2]) rfl
 rw[AI (AU h3)]at hr;subst hr;refine JM ?_;exact Cp [.prim (.slice none 0 0),iA 1] [B3 false false [],iA 1] (.cons (.cell .nil) (.cons (.cell .same) .nil))
theorem bJ{ks:List Kind}{l:List Cmd}{c:Cmd}(h:i<l.length)(hc:l[i]=c):Hy ks (l.drop i)=if(F4 ks c).2=0 then Hy ks (l.drop (i+1))else(F4 ks c).2:=by
 rw[Dp h,Hy,hc]
theorem Vx(w:Wd)(l:List Cmd)(hw:WdL w)(h12:w.kinds.length<=12)(hl:l.length<=1099511627776)(hc:∀c∈l,c.comps.length<=1099511627776):PS prog 200 [wdA false w,E1 false l] (iA (Qu w l)):=by
 have hck:=Hr w hw.gens hw.items.1 (λit hit=>(hw.items.2 it hit).1);obtain⟨r,hr⟩:=nm (Qu w l);rw[hr];unfold Qu at hr;obtain⟨we,hwe⟩:=nm (E6 w);rw[hwe]at hck hr;have hlm:(l.map ED).length=l.length:=AD _;refine Sp (nt:=35) (res:=[.tmp 4]) func200 λSf=>?_
 refine RG ?_;refine Bt ?_;refine JB ?_;refine JI ?_;refine BE (h:=(hck ..)) (k:=?_);refine JB ?_;refine JF ?_;refine AC rfl (λh0=>?_) (λh0=>?_)
 ·rw[Ab (AM h0)]at hr
  subst hr;refine JM ?_;refine Ah ?_;rfl
 rw[AI (AU h0)]at hr;refine JF ?_;refine AC rfl (λh1=>?_) (λh1=>?_)
 ·have h1:=AM h1
  rw[Ab (by omega)]at hr;subst hr;refine JM ?_;refine Ah ?_;rfl
 have h1:=AU h1;rw[AI (by omega)]at hr;subst hr;refine JA ?_;refine Cd (λ(i:Nat)=>⟨[(2,.fp (wdA false w).cells),(18,E1 false l),(19,iA (l.map ED).length),(20,iA i)],Sf⟩) (λi=>i<=l.length/\Hy w.kinds (l.drop i)=Hy w.kinds l) (λi=>l.length-i) 0 ⟨Ap _,rfl⟩ ?_;rintro i ⟨hi,he⟩;refine JH ?_;refine AC rfl (λhc2=>?_) (λhc2=>?_)
 ·have h:i<l.length:=by rw[AS,hlm]at hc2;omega
  obtain⟨c,hcc⟩:=nm (l[i]);have hat:(l.map ED)[i]?=some (ED c):=by rw[Ac,AX h,hcc];rfl
  have ho:=bI w.kinds c h12 (hc c (by rw[<-hcc];exact As h));rw[bJ h hcc]at he;refine JL ?_;refine Ai λV=>?_;refine JB ?_
  refine JL ?_;refine BO (h:=(ho ..)) (k:=?_);refine JE ?_;refine JF ?_;refine AC rfl (λh3=>?_) (λh3=>?_)
  ·rw[AI (AM h3)]at he
   refine JM ?_;refine Ah ?_;exact Dh iA he
  ·rw[Ab (Da.1 (AU h3))]at he
   refine JF ?_;exact Bb (i+1) ⟨h,he⟩ (by omega)
 ·have h:i=l.length:=by rw[AZ,hlm]at hc2;omega
  rw[h,CY]at he;refine JM ?_;refine Ah ?_;exact Dh iA he
theorem jY{w:Wd}(h:ArFor a w)(h12:w.kinds.length<=12)(c:Cmd)(hc:(F4 w.kinds c).2=0)(hn:I64 c.ent.n)(hl:c.comps.length<=1099511627776):Spec prog 246 [.ptr a.A 0 0,ED c] (arS a) λr S'=>∃b:Ar,(ArFor b (JZ w c).1/\b.A=a.A)/\r= .tup [CI (JZ w c).2.1,bA (JZ w c).2.2]/\S'=arS b:=by
 obtain⟨act,ent,kind,comps⟩:=c;dsimp only at hn hl;unfold F4 at hc;dsimp only at hc;obtain⟨r,hr⟩:=nm (JZ w ⟨act,ent,kind,comps⟩);rw[hr];unfold JZ at hr;dsimp only at hr;refine Sp (nt:=50) (res:=[.cell 4 32,.tmp 5]) func246 λSf=>?_
 refine RG ?_;refine Bt ?_;refine WO ?_;refine Ai λP=>?_;refine JB ?_
 refine JA ?_;refine R1 ?_;refine AC rfl (λh0=>?_) (λh0=>?_)
 ·rw[Ab (AM h0)]at hr hc
  split at hc
  ·rename_i h1
   obtain⟨d,rfl⟩:=HD.1 h1;obtain⟨_,_,_,d1,d2⟩:=R5 hc;have h16:=(CQ h.wok.ks).1;have hp:=fv h h12 ent d hn ⟨by omega,by omega⟩;replace hr:(Ja w (Ga w ent d).1 (Ga w ent d).2,(⟨0,0⟩:Ent),decide ((Ga w ent d).2=0))=r:=hr;subst hr;refine FL ?_;obtain⟨err,herr⟩:=nm ((Ga w ent d).2);rw[herr]at hp⊢;refine AWP.region_runH (n:=1) [(P,.row 32 2 [CI ⟨0,0⟩])] (arS a++Sf) rfl (by kernel_rfl) (by kernel_rfl) ?_;refine Cn ?_;refine Cn ?_;refine Cn ?_;refine Cn ?_;refine Cn ?_;refine Cn ?_;refine Cn (h:=W.idxL (a:=0) (e:=Ae false d) rfl rfl rfl rfl) ?_;refine Cn ?_;refine Fs [13,15,19] ?_;refine Fs [20] ?_;refine eP ?_;refine Fs [21] ?_;refine RGoH.nil (by kernel_rfl) (by kernel_rfl) (by kernel_rfl) ?_;refine HC.step [(13,.ptr a.A 0 0),(15,CI ent),(19,Ae false d)] ⟨rfl,rfl,rfl,rfl,rfl,rfl,CZ⟩ λT F=>?_
   refine HT F hp λb hb=>?_;refine AOps.nil ⟨rfl,_,_,⟨λd v h=>h,.refl _⟩,?_⟩;refine HC.step [(20,iA err)] ⟨rfl,rfl,CZ⟩ λT2 F2=>?_
   (repeat refine WO ?_);refine AOps.nil ⟨rfl,_,_,⟨λd v h=>h,.refl _⟩,?_⟩;refine HC.step [(21,bA (decide (err=0)))] ⟨rfl,rfl,CZ⟩ λT3 F3=>?_
   (repeat refine WO ?_);refine AOps.nil ⟨rfl,_,_,⟨λd v h=>h,.refl _⟩,?_⟩;show andThen _ _ _ _
   refine FL ?_;refine RT ?_;exact Ends.sp [CI ⟨0,0⟩,bA (decide (err=0))] (arS b) ⟨b,⟨by rw[<-herr];rw[<-herr]at hb;exact hb.1,hb.2⟩,rfl,rfl⟩
  ·cases hc
 rw[AI (AU h0)]at hr hc;refine JF ?_;refine AC rfl (λh1=>?_) (λh1=>?_)
 ·rw[Ab (AM h1)]at hr hc
  have hk:0<=kind/\kind<w.kinds.length:=by
   split at hc
   ·cases hc
   ·omega
  have h16:=(CQ h.wok.ks).1;have hp:=dj h ent kind hn ⟨by omega,by omega⟩;subst hr;refine JD ?_;(iterate 6 refine WO ?_);refine HT [_] hp λb hb=>?_;refine JE ?_;refine FL ?_;refine RT ?_;exact Ends.sp [CI ⟨0,0⟩,bA _] (arS b) ⟨b,hb,rfl,rfl⟩
 rw[AI (AU h1)]at hr hc;refine JF ?_;refine AC rfl (λh2=>?_) (λh2=>?_)
 ·rw[Ab (AM h2)]at hr hc
  have hp:=dI h ent hn;subst hr;refine JD ?_;(iterate 4 refine WO ?_);refine PW [_] hp λb hb=>?_;refine JE ?_;refine FL ?_;refine RT ?_;exact Ends.sp [CI ⟨0,0⟩,bA _] (arS b) ⟨b,hb,rfl,rfl⟩
 rw[AI (AU h2)]at hr hc;have hp:=Xt a w h h12 comps hl;subst hr;refine JD ?_;(iterate 3 refine WO ?_);refine PW [_] hp λb hb=>?_;refine KO ?_;refine Ai λV=>?_;refine JE ?_
 refine JM ?_;exact Ends.sp [CI _,bA _] (arS b) ⟨b,hb,rfl,rfl⟩
section
open Go.Sort
theorem gL(f:FuncId)(cap:List AV)(cf:Item->Item->Int)(hst:Dw cap=true)(hcf:∀x y,PS prog f ((AQ false) x::(AQ false) y::cap) (iA (cf x y)))(X n:Nat)(d:Array Item)(a b:Nat)(hn:n=d.size)(hab:a<=b)(hb:b<=d.size)(hz:d.size<=1099511627776):PO prog 173 [.sl X 0 n,iA a,iA b,.fn f cap] X (.row 83 3 (d.toList.map (AQ false))) (.tup []) (.row 83 3 ((insertionSort (BF cf) d a b).toList.map (AQ false))):=by
 obtain⟨r,hr⟩:=nm (insertionSort (BF cf) d a b);rw[hr];unfold insertionSort at hr;refine Sp (nt:=53) (res:=[]) func173 λSf=>?_
 refine KK ?_;refine Cq (λ(i:Nat) (e:Array Item)=>⟨[(0,.sl X 0 n),(1,iA a),(2,iA b),(3,.fn f cap),(8,iA i)],(X,.row 83 3 (e.toList.map (AQ false)))::Sf⟩) (λi e=>i<=max b (a+1)/\a<i/\e.size=d.size/\insOuter (BF cf) a b i e=r) (λi _=>b-i) (a+1) d ⟨by omega,by omega,rfl,hr⟩ ?_;rintro i e ⟨hi,hai,he,hfold⟩;rw[insOuter]at hfold;refine KK ?_;refine AC rfl (λhc=>?_) (λhc=>?_)
 ·have h:i<b:=by have:=AM hc;omega
  rw[Ab h]at hfold;refine KK ?_;refine Cq (λ(j:Nat) (u:Array Item)=>⟨[(0,.sl X 0 n),(1,iA a),(2,iA b),(3,.fn f cap),(8,iA i),(9,iA j)],(X,.row 83 3 (u.toList.map (AQ false)))::Sf⟩) (λj u=>j<=i/\u.size=d.size/\insInner (BF cf) a j u=insInner (BF cf) a i e) (λj _=>j) i e ⟨AT _,he,rfl⟩ ?_;rintro j u ⟨hj,hu,hin⟩;rcases BI (decide ((a:Int)<(j:Int)))with g|g
  ·have hja:a<j:=by have:=AM g;omega
   obtain⟨q,rfl⟩:∃q,j=q+1:=⟨j-1,by omega⟩;have h1:=CR (AQ false) (d:=u) (i:=q+1) (by omega);have h2:=CR (AQ false) (d:=u) (i:=q) (by omega);have hl:=hcf (u[q+1]!) (u[q]!);rw[insInner]at hin;(repeat refine WF ?_);refine RU ?_;(iterate 11 refine RK ?_);refine BT ?_ (CB (q:Int) (by omega) (by omega) rfl rfl);refine KR ?_;refine Gy (h:=(hl ..)) (k:=?_);refine JK ?_;refine RGo.nil (by kernel_rfl) ?_;(repeat refine WF ?_);refine AC rfl (λhd=>?_) (λhd=>?_)
   ·have hd:(BF cf) u[q+1]! u[q]! =true:=by simpa[g,BF]using hd
    rw[hd,Ab (by simp;omega)]at hin;obtain⟨y,hy⟩:=Ed (AQ false) (d:=u) (i:=q+1) (j:=q) (by omega) u[q]!;(repeat refine WF ?_);refine RU ?_;(iterate 4 refine RK ?_);refine BT ?_ (CB (q:Int) (by omega) (by omega) rfl rfl);refine JK ?_;refine BT ?_ (CB (q:Int) (by omega) (by omega) rfl rfl);(iterate 9 refine RK ?_);refine RGo.s (W.store rfl rfl (by exact Az) hy (by exact rfl)) rfl ?_;refine RGo.nil (by kernel_rfl) ?_
    (iterate 4 refine WK ?_);refine AOps.p (CB (q:Int) (by omega) (by omega) rfl rfl) rfl ?_;refine KK ?_
    refine CA q (swp u (q+1) q) ⟨by omega,by rw[size_swp];exact hu,hin⟩ (h0:=by rw[<-FM (AQ false) (by omega) (by omega)];exact⟨by exact FE,by exact BL⟩)
   ·have hd:(BF cf) u[q+1]! u[q]! =false:=by simpa[g,BF]using hd
    rw[hd,AI (by simp)]at hin;refine KK ?_;refine CA (i+1) u ⟨by omega,by omega,hu,by rw[hin];exact hfold⟩
  ·have hja:j<=a:=by have:=AU g;omega
   have hin2:insInner (BF cf) a j u=u:=by
    cases j with
    |zero=>rfl
    |succ q=>rw[insInner,AI (by simp;omega)]
   rw[hin2]at hin;(repeat refine WF ?_);refine RU ?_;(iterate 17 refine RK ?_);refine RGo.nil (by kernel_rfl) ?_;(repeat refine WF ?_);refine AB rfl (by simp[g]) ?_;refine KK ?_;refine CA (i+1) u ⟨by omega,by omega,hu,by rw[hin];exact hfold⟩
 ·have h:¬i<b:=by have:=AU hc;omega
  rw[AI h]at hfold;subst hfold;refine KK ?_;refine Eo ?_;exact CH [(X,.row 83 3 (e.toList.map (AQ false)))] ⟨rfl,rfl⟩
end
section
open Go.Sort
theorem Uw(f:FuncId)(cap:List AV)(cf:Item->Item->Int)(hst:Dw cap=true)(hcf:∀x y,PS prog f ((AQ false) x::(AQ false) y::cap) (iA (cf x y)))(X n:Nat)(d:Array Item)(lo hi first:Nat)(hn:n=d.size)(hb:first+hi<=d.size)(hlo:lo<=1099511627776)(hz:d.size<=1099511627776):PO prog 232 [.sl X 0 n,iA lo,iA hi,iA first,.fn f cap] X (.row 83 3 (d.toList.map (AQ false))) (.tup []) (.row 83 3 ((siftDown (BF cf) hi first lo d).toList.map (AQ false))):=by
 obtain⟨r,hr⟩:=nm (siftDown (BF cf) hi first lo d);rw[hr];refine Sp (nt:=82) (res:=[]) func232 λSf=>?_
 refine KK ?_;refine Cq (λ(root:Nat) (u:Array Item)=>⟨[(0,.sl X 0 n),(2,iA hi),(3,iA first),(4,.fn f cap),(10,iA root)],(X,.row 83 3 (u.toList.map (AQ false)))::Sf⟩) (λroot u=>root<=max hi lo/\u.size=d.size/\siftDown (BF cf) hi first root u=r) (λroot _=>hi-root) lo d ⟨by omega,rfl,hr⟩ ?_;rintro root u ⟨hro,hu,hfold⟩;rw[siftDown]at hfold
 (iterate 4 refine WK ?_);refine AOps.p (HP ((2*root:Nat):Int) (by omega) (by omega) rfl rfl) rfl ?_;refine AOps.p (Cc (((2*root+1:Nat):Int)) (by omega) (by omega) rfl rfl) rfl ?_;refine KK ?_
 refine AC rfl (λhc=>?_) (λhc=>?_)
 ·have h:2*root+1>=hi:=by have:=AM hc;omega
  rw[dif_pos h]at hfold;subst hfold;refine KK ?_;refine Eo ?_;exact CH [(X,.row 83 3 (u.toList.map (AQ false)))] ⟨rfl,rfl⟩
 have h:¬2*root+1>=hi:=by have:=AU hc;omega
 rw[dif_neg h]at hfold;refine Fo ?_;refine Ek ?_;refine FO ?_;refine DR (λc:Nat=>c<hi/\root<c/\(if !(BF cf) u[first+root]! u[first+c]! then u else siftDown (BF cf) hi first c (swp u (first+root) (first+c)))=r) (λc=>⟨[(0,.sl X 0 n),(2,iA hi),(3,iA first),(4,.fn f cap),(10,iA root),(11,iA c)],(X,.row 83 3 (u.toList.map (AQ false)))::Sf⟩) ?_ ?_
 ·rcases BI (decide (((2*root+1+1:Nat):Int)<(hi:Int)))with g|g
  ·have hg:2*root+1+1<hi:=by have:=AM g;omega
   have h1:=CR (AQ false) (d:=u) (i:=first+(2*root+1)) (by omega);have h2:=CR (AQ false) (d:=u) (i:=first+(2*root+1)+1) (by omega);have hl:=hcf (u[first+(2*root+1)]!) (u[first+(2*root+1)+1]!);refine RU ?_;refine RK ?_;refine BT ?_ (Cc (((2*root+1+1:Nat):Int)) (by omega) (by omega) rfl rfl);(iterate 7 refine RK ?_);refine BT ?_ (Cc (((first+(2*root+1):Nat):Int)) (by omega) (by omega) rfl rfl);(iterate 5 refine RK ?_);refine BT ?_ (Cc (((first+(2*root+1):Nat):Int)) (by omega) (by omega) rfl rfl);refine BT ?_ (Cc (((first+(2*root+1)+1:Nat):Int)) (by omega) (by omega) rfl rfl);refine KR ?_;refine Gy (h:=(hl ..)) (k:=?_);refine JK ?_;refine RGo.nil (by kernel_rfl) ?_;(repeat refine WF ?_);refine AC rfl (λhd=>?_) (λhd=>?_)
   ·have hd:(BF cf) u[first+(2*root+1)]! u[first+(2*root+1)+1]! =true:=by simpa[g,BF]using hd
    rw[hd,Ab (by simp;omega)]at hfold;refine WK ?_;refine WK ?_;refine AOps.p (Cc (((2*root+2:Nat):Int)) (by omega) (by omega) rfl rfl) rfl ?_;refine KK ?_;refine jn (2*root+2) ⟨by omega,by omega,?_⟩;split at hfold
    ·rename_i hx;rw[Ab hx];exact hfold
    ·rename_i hx;rw[AI hx];first|exact hfold|(rw[dif_pos (by omega)]at hfold;exact hfold)
   ·have hd:(BF cf) u[first+(2*root+1)]! u[first+(2*root+1)+1]! =false:=by simpa[g,BF]using hd
    rw[hd,AI (by simp)]at hfold;refine WK ?_;exact jn (2*root+1) ⟨by omega,by omega,hfold⟩
  ·have hg:¬2*root+1+1<hi:=by have:=AU g;omega
   rw[AI (by simp[hg])]at hfold;refine RU ?_;refine RK ?_;refine BT ?_ (Cc (((2*root+1+1:Nat):Int)) (by omega) (by omega) rfl rfl);(iterate 20 refine RK ?_);refine RGo.nil (by kernel_rfl) ?_;(repeat refine WF ?_);refine AB rfl (by simp[g]) ?_;refine WK ?_;exact jn (2*root+1) ⟨by omega,by omega,hfold⟩
 ·rintro c ⟨hch,hrc,hfold⟩
  have h1:=CR (AQ false) (d:=u) (i:=first+root) (by omega);have h2:=CR (AQ false) (d:=u) (i:=first+c) (by omega);have hl:=hcf (u[first+root]!) (u[first+c]!);(repeat refine WF ?_);refine RU ?_;(iterate 4 refine RK ?_);refine BT ?_ (Cc (((first+root:Nat):Int)) (by omega) (by omega) rfl rfl);(iterate 5 refine RK ?_);refine BT ?_ (Cc (((first+c:Nat):Int)) (by omega) (by omega) rfl rfl);refine KR ?_;refine Gy (h:=(hl ..)) (k:=?_);refine JK ?_;refine RGo.nil (by kernel_rfl) ?_;(repeat refine WF ?_);refine AC rfl (λhd=>?_) (λhd=>?_)
  ·have hd:(!(BF cf) u[first+root]! u[first+c]!)=true:=by simpa[BF]using hd
   rw[Ab hd]at hfold;subst hfold;refine RT ?_;exact CH [(X,.row 83 3 (u.toList.map (AQ false)))] ⟨rfl,rfl⟩
  ·have hd:(!(BF cf) u[first+root]! u[first+c]!)=false:=by simpa[BF]using hd
   rw[AI (by rw[hd];simp)]at hfold;obtain⟨y,hy⟩:=Ed (AQ false) (d:=u) (i:=first+root) (j:=first+c) (by omega) u[first+c]!;(repeat refine WF ?_);refine RU ?_;(repeat first|(refine OR ?_;first|refine BT ?_ (Cc (((first+root:Nat):Int)) (by omega) (by omega) rfl rfl)|refine BT ?_ (Cc (((first+c:Nat):Int)) (by omega) (by omega) rfl rfl)|refine RGo.s (W.store rfl rfl (by exact Az) hy (by exact rfl)) rfl ?_)|(refine IH ?_;first|refine BT ?_ (Cc (((first+root:Nat):Int)) (by omega) (by omega) rfl rfl)|refine BT ?_ (Cc (((first+c:Nat):Int)) (by omega) (by omega) rfl rfl)|refine RGo.s (W.store rfl rfl (by exact Az) hy (by exact rfl)) rfl ?_)|refine RK ?_|refine RGo.nil (by kernel_rfl) ?_);refine KK ?_;refine CA c (swp u (first+root) (first+c)) ⟨by omega,by rw[size_swp];exact hu,hfold⟩ (h0:=by rw[<-FM (AQ false) (by omega) (by omega)];exact⟨by exact FE,by exact BL⟩)
theorem HH(lt:Item->Item->Bool)(hi first:Nat):∀(k root:Nat) (d:Array Item),hi-root<=k->(siftDown lt hi first root d).size=d.size
 |0,root,d,h=>by rw[siftDown,dif_pos (by omega)]
 |k+1,root,d,h=>by
  rw[siftDown];split
  ·rfl
  ·split
   ·split
    ·rfl
    ·split
     ·rw[HH lt hi first k _ _ (by omega),size_swp]
     ·rfl
   ·split
    ·rfl
    ·rw[HH lt hi first k _ _ (by omega),size_swp]
theorem dS(f:FuncId)(cap:List AV)(cf:Item->Item->Int)(hst:Dw cap=true)(hcf:∀x y,PS prog f ((AQ false) x::(AQ false) y::cap) (iA (cf x y)))(X n:Nat)(d:Array Item)(a b:Nat)(hn:n=d.size)(hab:a<b)(hb:b<=d.size)(hz:d.size<=1099511627776):PO prog 174 [.sl X 0 n,iA a,iA b,.fn f cap] X (.row 83 3 (d.toList.map (AQ false))) (.tup []) (.row 83 3 ((heapSort (BF cf) d a b).toList.map (AQ false))):=by
 obtain⟨r,hr⟩:=nm (heapSort (BF cf) d a b);rw[hr];unfold heapSort at hr;obtain⟨m,hm⟩:=nm (b-a);rw[hm]at hr;refine Sp (nt:=60) (res:=[]) func174 λSf=>?_
 (repeat first|(refine Bm ?_;first|refine AOps.p (CB ((m:Int)) (by omega) (by omega) rfl rfl) rfl ?_|refine AOps.p (CB (((m-1:Nat):Int)) (by omega) (by omega) rfl rfl) rfl ?_|refine AOps.p (Li (m-1) 2 ((m-1)/2) rfl rfl (by omega) rfl (by omega) rfl rfl) rfl ?_)|refine WK ?_|refine Ai λX=>?_|refine Ay λY=>?_);refine Cq (λ(k:Nat) (u:Array Item)=>⟨[(0,.sl X 0 n),(3,.fn f cap),(8,iA a),(9,iA 0),(10,iA m),(11,iA ((k:Int)-1))],(X,.row 83 3 (u.toList.map (AQ false)))::Sf⟩) (λk u=>k<=m/\u.size=d.size/\heapPop (BF cf) a m (heapBuild (BF cf) m a k u)=r) (λk _=>k) ((m-1)/2+1) d ⟨by omega,rfl,hr⟩ ?_ (h0:=by rw[show((((m-1)/2+1:Nat):Int)-1)=(((m-1)/2:Nat):Int) by omega];exact⟨by exact FE,by exact BL⟩);rintro k u ⟨hk,hu,hfold⟩;refine KK ?_;refine AC rfl (λhc=>?_) (λhc=>?_)
 ·obtain⟨q,rfl⟩:∃q,k=q+1:=⟨k-1,by have:=AM hc;omega⟩
  rw[heapBuild]at hfold;have hs:=Uw f cap cf hst hcf X n u q m a (by omega) (by omega) (by omega) (by omega);have hsz:=HH (BF cf) m a _ q u (AT _);rw[show(((q+1:Nat):Int)-1)=(q:Int) by omega];refine KK ?_;refine Nt (h:=(hs ..)) (k:=?_);(iterate 5 refine WK ?_);refine AOps.p (CB ((q:Int)-1) (by omega) (by omega) rfl rfl) rfl ?_;refine KK ?_;exact CA q (siftDown (BF cf) m a q u) ⟨by omega,by omega,hfold⟩
 ·obtain rfl:k=0:=by have:=AU hc;omega
  rw[heapBuild]at hfold
  (iterate 4 refine WK ?_);refine AOps.p (CB ((m:Int)-1) (by omega) (by omega) rfl rfl) rfl ?_;refine KK ?_
  clear hc hk;refine Cq (λ(k:Nat) (u:Array Item)=>⟨[(0,.sl X 0 n),(3,.fn f cap),(8,iA a),(9,iA 0),(10,iA m),(12,iA ((k:Int)-1))],(X,.row 83 3 (u.toList.map (AQ false)))::Sf⟩) (λk u=>k<=m/\u.size=d.size/\heapPop (BF cf) a k u=r) (λk _=>k) m u ⟨by omega,hu,hfold⟩ ?_;clear hfold hu;rintro k u ⟨hk,hu,hfold⟩;refine KK ?_;refine AC rfl (λhc=>?_) (λhc=>?_)
  ·obtain⟨q,rfl⟩:∃q,k=q+1:=⟨k-1,by have:=AM hc;omega⟩
   rw[heapPop]at hfold;have h1:=CR (AQ false) (d:=u) (i:=a) (by omega);have h2:=CR (AQ false) (d:=u) (i:=a+q) (by omega);have hs:=Uw f cap cf hst hcf X n (swp u a (a+q)) 0 q a (by rw[size_swp];omega) (by rw[size_swp];omega) (by omega) (by rw[size_swp];omega);have hsz:=HH (BF cf) q a _ 0 (swp u a (a+q)) (AT _);rw[size_swp]at hsz;rw[show(((q+1:Nat):Int)-1)=(q:Int) by omega];obtain⟨y,hy⟩:=Ed (AQ false) (d:=u) (i:=a) (j:=a+q) (by omega) u[a+q]!;have hrow:=FM (AQ false) (d:=u) (i:=a) (j:=a+q) (by omega) (by omega);(repeat refine WF ?_);refine RU ?_;(iterate 5 refine RK ?_);refine BT ?_ (Cc (((a+q:Nat):Int)) (by omega) (by omega) rfl rfl);(iterate 3 refine RK ?_);refine BT ?_ (Cc (((a+q:Nat):Int)) (by omega) (by omega) rfl rfl);(iterate 9 refine RK ?_);refine RGo.s (W.store rfl rfl (by exact Az) hy (by exact rfl)) rfl ?_;refine RGo.nil (by kernel_rfl) ?_;refine US [(0,.sl X 0 n),(3,.fn f cap),(8,iA a),(9,iA 0),(10,iA m),(12,iA q)] ((X,.row 83 3 ((swp u a (a+q)).toList.map (AQ false)))::Sf) ?_ (h:=by rw[<-hrow];exact⟨by exact FE,by exact BL⟩);refine KK ?_;refine Nt (h:=(hs ..)) (k:=?_);(iterate 5 refine WK ?_);refine AOps.p (CB ((q:Int)-1) (by omega) (by omega) rfl rfl) rfl ?_;refine KK ?_;exact CA q (siftDown (BF cf) q a 0 (swp u a (a+q))) ⟨by omega,by omega,hfold⟩
  ·obtain rfl:k=0:=by have:=AU hc;omega
   rw[heapPop]at hfold;subst hfold;refine KK ?_;refine Eo ?_;exact CH [(X,.row 83 3 (u.toList.map (AQ false)))] ⟨rfl,rfl⟩
theorem fa{f:FuncId}{cap:List AV}(X n:Nat)(d:Array Item)(a b:Nat)(hn:n=d.size)(hab:a<b)(hb:b<=d.size)(hz:d.size<=1099511627776):PO prog 177 [.sl X 0 n,iA a,iA b,.fn f cap] X (.row 83 3 (d.toList.map (AQ false))) (.tup []) (.row 83 3 ((reverseRange d a b).toList.map (AQ false))):=by
 obtain⟨r,hr⟩:=nm (reverseRange d a b);rw[hr];unfold reverseRange at hr;refine Sp (nt:=34) (res:=[]) func177 λSf=>?_
 (iterate 8 refine WK ?_);refine AOps.p (CB (((b-1:Nat):Int)) (by omega) (by omega) rfl rfl) rfl ?_;refine KK ?_
 refine ET (λ(i j:Nat) (u:Array Item)=>⟨[(0,.sl X 0 n),(8,iA i),(9,iA j)],(X,.row 83 3 (u.toList.map (AQ false)))::Sf⟩) (λi j u=>i<=d.size/\j<d.size/\u.size=d.size/\reverseLoop i j u=r) (λi j _=>j-i) a (b-1) d ⟨by omega,by omega,rfl,hr⟩ ?_;rintro i j u ⟨hi,hj,hu,hfold⟩;rw[reverseLoop]at hfold;refine KK ?_;refine AC rfl (λhc=>?_) (λhc=>?_)
 ·have h:i<j:=by have:=AM hc;omega
  rw[Ab h]at hfold;have h1:=CR (AQ false) (d:=u) (i:=i) (by omega);have h2:=CR (AQ false) (d:=u) (i:=j) (by omega);obtain⟨y,hy⟩:=Ed (AQ false) (d:=u) (i:=i) (j:=j) (by omega) u[j]!;(repeat refine WF ?_);refine RU ?_;(iterate 15 refine RK ?_);refine RGo.s (W.store rfl rfl (by exact Az) hy (by exact rfl)) rfl ?_;refine RGo.nil (by kernel_rfl) ?_
  (iterate 9 refine WK ?_);refine AOps.p (CB (((j-1:Nat):Int)) (by omega) (by omega) rfl rfl) rfl ?_;refine KK ?_
  refine Cs (i+1) (j-1) (swp u i j) ⟨by omega,by omega,by rw[size_swp];exact hu,hfold⟩ (h0:=by rw[<-FM (AQ false) (by omega) (by omega)];exact⟨by exact FE,by exact BL⟩)
 ·have h:¬i<j:=by have:=AU hc;omega
  rw[AI h]at hfold;subst hfold;refine KK ?_;refine Eo ?_;exact CH [(X,.row 83 3 (u.toList.map (AQ false)))] ⟨rfl,rfl⟩
end
section
open Go.Sort
theorem Me(p:Item->Bool)(d:Array Item)(j i:Nat):scanUp p d j i<=max i (j+1):=by
 obtain⟨m,hm⟩:=nm (j+1-i)
 induction m generalizing i with
 |zero=>rw[scanUp,AI (λe=>by rw[AH]at e;have:=AM e.1;omega)];omega
 |succ m ih=>
  rw[scanUp];split
  ·have:=ih (i+1) (by omega)
   omega
  ·omega
theorem fx(f:FuncId)(cap:List AV)(cf:Item->Item->Int)(hst:Dw cap=true)(hcf:∀x y,PS prog f ((AQ false) x::(AQ false) y::cap) (iA (cf x y)))(X n:Nat)(d:Array Item)(a b pivot:Nat)(hn:n=d.size)(ha:a<=pivot)(hp:pivot<b)(hb:b<=d.size)(hz:d.size<=1099511627776):PO prog 179 [.sl X 0 n,iA a,iA b,iA pivot,.fn f cap] X (.row 83 3 (d.toList.map (AQ false))) (iA (partitionEqual (BF cf) d a b pivot).1) (.row 83 3 ((partitionEqual (BF cf) d a b pivot).2.toList.map (AQ false))):=by
 obtain⟨r,hr⟩:=nm (partitionEqual (BF cf) d a b pivot);rw[hr];unfold partitionEqual at hr;refine Sp (nt:=90) (res:=[.tmp 10]) func179 λSf=>?_
 have h1:=CR (AQ false) (d:=d) (i:=a) (by omega);have h2:=CR (AQ false) (d:=d) (i:=pivot) (by omega);obtain⟨y,hy⟩:=Ed (AQ false) (d:=d) (i:=a) (j:=pivot) (by omega) d[pivot]!;refine R1 ?_;refine RU ?_;(iterate 15 refine RK ?_);refine RGo.s (W.store rfl rfl (by exact Az) hy (by exact rfl)) rfl ?_;refine RGo.nil (by kernel_rfl) ?_
 (iterate 5 refine WK ?_);refine AOps.p (CB (((b-1:Nat):Int)) (by omega) (by omega) rfl rfl) rfl ?_;refine KK ?_
 refine ET (λ(i j:Nat) (u:Array Item)=>⟨[(0,.sl X 0 n),(1,iA a),(4,.fn f cap),(11,iA i),(12,iA j)],(X,.row 83 3 (u.toList.map (AQ false)))::Sf⟩) (λi j u=>a<i/\i<=j+2/\j<b/\u.size=d.size/\partEqLoop (BF cf) a i j u=r) (λi j _=>j+1-i) (a+1) (b-1) (swp d a pivot) ⟨by omega,by omega,by omega,by rw[size_swp],hr⟩ ?_ (h0:=by rw[<-FM (AQ false) (by omega) (by omega)];exact⟨by exact FE,by exact BL⟩);rintro i j u ⟨hai,hij,hjb,hu,hfold⟩;rw[partEqLoop_eq]at hfold;obtain⟨i2,hi2⟩:=nm (scanUp (λx=>!(BF cf) u[a]! x) u j i);rw[hi2]at hfold;obtain⟨j2,hj2⟩:=nm (scanDown (λx=>(BF cf) u[a]! x) u i2 j);rw[hj2]at hfold;have hge:=scanUp_ge (λx=>!(BF cf) u[a]! x) u j i;have hle:=scanDown_le (λx=>(BF cf) u[a]! x) u i2 j;rw[hi2]at hge;rw[hj2]at hle;have hge2:i2<=max i (j+1):=by rw[<-hi2];exact Me _ _ _ _
 refine AWP.block ?_
 (repeat (first|refine Fo ?_|refine Ek ?_|refine FO ?_))
 refine DR (λk:Nat=>k=i2) (λk=>⟨[(0,.sl X 0 n),(1,iA a),(4,.fn f cap),(11,iA k),(12,iA j)],(X,.row 83 3 (u.toList.map (AQ false)))::Sf⟩) ?_ ?_
 ·refine AWP.block ?_
  refine Cd (λ(k:Nat)=>⟨[(0,.sl X 0 n),(1,iA a),(4,.fn f cap),(11,iA k),(12,iA j)],(X,.row 83 3 (u.toList.map (AQ false)))::Sf⟩) (λk=>i<=k/\k<=max i (j+1)/\scanUp (λx=>!(BF cf) u[a]! x) u j k=i2) (λk=>j+1-k) i ⟨AT _,by omega,hi2⟩ ?_;rintro k ⟨hk1,hk2,hk⟩;rw[scanUp]at hk;rcases BI (decide ((k:Int)<=(j:Int)))with g|g
  ·have hg:k<=j:=by have:=AM g;omega
   have h1:=CR (AQ false) (d:=u) (i:=k) (by omega);have h2:=CR (AQ false) (d:=u) (i:=a) (by omega);have hl:=hcf (u[a]!) (u[k]!);(repeat refine WF ?_);refine JN ?_;refine Gy (h:=(hl ..)) (k:=?_);(iterate 3 refine RK ?_);refine RGo.nil (by kernel_rfl) ?_;(repeat refine WF ?_);refine AC rfl (λhd=>?_) (λhd=>?_)
   ·have hd:(!(BF cf) u[a]! u[k]!)=true:=by simpa[g,BF]using hd
    rw[Ab (by rw[AH];exact⟨BP (by omega),hd⟩)]at hk;refine KK ?_;exact Bb (k+1) ⟨by omega,by omega,hk⟩
   ·have hd:(!(BF cf) u[a]! u[k]!)=false:=by simpa[g,BF]using hd
    rw[AI (λe=>by rw[AH]at e;have e2:=e.2;rw[hd]at e2;cases e2)]at hk;refine KK ?_;exact jn k hk
  ·have hg:¬k<=j:=by have:=AU g;omega
   rw[AI (λe=>by rw[AH]at e;have:=AM e.1;omega)]at hk;(repeat refine WF ?_);refine RU ?_;(iterate 17 refine RK ?_);refine RGo.nil (by kernel_rfl) ?_;(repeat refine WF ?_);refine AB rfl (by simp[g]) ?_;refine KK ?_;exact jn k hk
 rintro k hk0;rw[hk0];clear hk0 k
 (repeat (first|refine Fo ?_|refine Ek ?_|refine FO ?_))
 refine DR (λk:Nat=>k=j2) (λk=>⟨[(0,.sl X 0 n),(1,iA a),(4,.fn f cap),(11,iA i2),(12,iA k)],(X,.row 83 3 (u.toList.map (AQ false)))::Sf⟩) ?_ ?_
 ·refine AWP.block ?_
  refine Cd (λ(k:Nat)=>⟨[(0,.sl X 0 n),(1,iA a),(4,.fn f cap),(11,iA i2),(12,iA k)],(X,.row 83 3 (u.toList.map (AQ false)))::Sf⟩) (λk=>k<=j/\scanDown (λx=>(BF cf) u[a]! x) u i2 k=j2) (λk=>k) j ⟨AT _,hj2⟩ ?_;rintro k ⟨hk1,hk⟩;rcases BI (decide ((i2:Int)<=(k:Int)))with g|g
  ·have hg:i2<=k:=by have:=AM g;omega
   obtain⟨q,rfl⟩:∃q,k=q+1:=⟨k-1,by omega⟩;rw[scanDown]at hk;have h1:=CR (AQ false) (d:=u) (i:=q+1) (by omega);have h2:=CR (AQ false) (d:=u) (i:=a) (by omega);have hl:=hcf (u[a]!) (u[q+1]!);(repeat refine WF ?_);refine JN ?_;refine Gy (h:=(hl ..)) (k:=?_);refine JK ?_;refine RGo.nil (by kernel_rfl) ?_;(repeat refine WF ?_);refine AC rfl (λhd=>?_) (λhd=>?_)
   ·have hd:((BF cf) u[a]! u[q+1]!)=true:=by simpa[g,BF]using hd
    rw[Ab (by rw[AH];exact⟨BP (by omega),hd⟩)]at hk
    (iterate 4 refine WK ?_);refine AOps.p (CB ((q:Int)) (by omega) (by omega) rfl rfl) rfl ?_;refine KK ?_
    exact Bb q ⟨by omega,hk⟩
   ·have hd:((BF cf) u[a]! u[q+1]!)=false:=by simpa[g,BF]using hd
    rw[AI (λe=>by rw[AH]at e;have e2:=e.2;rw[hd]at e2;cases e2)]at hk;refine KK ?_;exact jn (q+1) hk
  ·have hg:¬i2<=k:=by have:=AU g;omega
   have hk3:scanDown (λx=>(BF cf) u[a]! x) u i2 k=k:=by
    cases k with
    |zero=>rfl
    |succ q=>rw[scanDown,AI (λe=>by rw[AH]at e;have:=AM e.1;omega)]
   rw[hk3]at hk;(repeat refine WF ?_);refine RU ?_;(iterate 16 refine RK ?_);refine RGo.nil (by kernel_rfl) ?_;(repeat refine WF ?_);refine AB rfl (by simp[g]) ?_;refine KK ?_;exact jn k hk
 rintro k hk0;rw[hk0];clear hk0 k;refine KK ?_;refine AC rfl (λhc=>?_) (λhc=>?_)
 ·have h:i2>j2:=by have:=AM hc;omega
  rw[Ab h]at hfold;subst hfold;refine JC ?_;exact Ends.sp [iA i2] [(X,_)] ⟨rfl,rfl⟩
 ·have h:¬i2>j2:=by have:=AU hc;omega
  rw[AI h]at hfold;have h1:=CR (AQ false) (d:=u) (i:=i2) (by omega);have h2:=CR (AQ false) (d:=u) (i:=j2) (by omega);obtain⟨y,hy⟩:=Ed (AQ false) (d:=u) (i:=i2) (j:=j2) (by omega) u[j2]!;(repeat refine WF ?_);refine RU ?_;(iterate 15 refine RK ?_);refine RGo.s (W.store rfl rfl (by exact Az) hy (by exact rfl)) rfl ?_;refine RGo.nil (by kernel_rfl) ?_
  (iterate 9 refine WK ?_);refine AOps.p (CB (((j2-1:Nat):Int)) (by omega) (by omega) rfl rfl) rfl ?_;refine KK ?_
  refine Cs (i2+1) (j2-1) (swp u i2 j2) ⟨by omega,by omega,by omega,by rw[size_swp];exact hu,hfold⟩ (h0:=by rw[<-FM (AQ false) (by omega) (by omega)];exact⟨by exact FE,by exact BL⟩)
theorem cb(f:FuncId)(cap:List AV)(cf:Item->Item->Int)(hst:Dw cap=true)(hcf:∀x y,PS prog f ((AQ false) x::(AQ false) y::cap) (iA (cf x y)))(X n:Nat)(d:Array Item)(a b pivot:Nat)(hn:n=d.size)(ha:a<=pivot)(hp:pivot<b)(hb:b<=d.size)(hz:d.size<=1099511627776):PO prog 180 [.sl X 0 n,iA a,iA b,iA pivot,.fn f cap] X (.row 83 3 (d.toList.map (AQ false))) (.tup [iA (partition (BF cf) d a b pivot).1,bA (partition (BF cf) d a b pivot).2.1]) (.row 83 3 ((partition (BF cf) d a b pivot).2.2.toList.map (AQ false))):=by
 obtain⟨r,hr⟩:=nm (partition (BF cf) d a b pivot);rw[hr];dsimp only[partition]at hr;refine Sp (nt:=178) (res:=[.tmp 10,.tmp 11]) func180 λSf=>?_
 have h1:=CR (AQ false) (d:=d) (i:=a) (by omega);have h2:=CR (AQ false) (d:=d) (i:=pivot) (by omega);have hrow:=FM (AQ false) (d:=d) (i:=a) (j:=pivot) (by omega) (by omega);obtain⟨y,hy⟩:=Ed (AQ false) (d:=d) (i:=a) (j:=pivot) (by omega) d[pivot]!;refine R1 ?_;refine RU ?_;(iterate 15 refine RK ?_);refine RGo.s (W.store rfl rfl (by exact Az) hy (by exact rfl)) rfl ?_;refine RGo.nil (by kernel_rfl) ?_;have hsz:(swp d a pivot).size=d.size:=size_swp _ _ _;obtain⟨u,hu0⟩:=nm (swp d a pivot);rw[hu0]at hr hrow hsz;obtain⟨j,hj⟩:=nm (b-1);obtain⟨i,hi⟩:=nm (a+1);rw[hj,hi]at hr;refine JG ?_;refine AOps.p (Cc (((i:Nat):Int)) (by omega) (by omega) rfl rfl) rfl ?_;refine WO ?_;refine AOps.p (CB ((j:Int)) (by omega) (by omega) rfl rfl) rfl ?_;refine JE ?_
 (repeat (first|refine Fo ?_|refine Ek ?_|refine FO ?_))
 refine US [(0,.sl X 0 n),(1,iA a),(4,.fn f cap),(12,iA i),(13,iA j)] ((X,.row 83 3 (u.toList.map (AQ false)))::Sf) ?_ (h:=by rw[<-hrow];exact⟨by exact FE,by exact BL⟩);have hu:u.size=d.size:=hsz;have hfold:=hr;obtain⟨i2,hi2⟩:=nm (scanUp (λx=>(BF cf) x u[a]!) u j i);rw[hi2]at hfold;obtain⟨j2,hj2⟩:=nm (scanDown (λx=>!(BF cf) x u[a]!) u i2 j);rw[hj2]at hfold;have hge:=scanUp_ge (λx=>(BF cf) x u[a]!) u j i;have hle:=scanDown_le (λx=>!(BF cf) x u[a]!) u i2 j;rw[hi2]at hge;rw[hj2]at hle;have hge2:i2<=max i (j+1):=by rw[<-hi2];exact Me _ _ _ _
 refine DR (λk:Nat=>k=i2) (λk=>⟨[(0,.sl X 0 n),(1,iA a),(4,.fn f cap),(12,iA k),(13,iA j)],(X,.row 83 3 (u.toList.map (AQ false)))::Sf⟩) ?_ ?_
 ·refine AWP.block ?_
  refine Cd (λ(k:Nat)=>⟨[(0,.sl X 0 n),(1,iA a),(4,.fn f cap),(12,iA k),(13,iA j)],(X,.row 83 3 (u.toList.map (AQ false)))::Sf⟩) (λk=>i<=k/\k<=max i (j+1)/\scanUp (λx=>(BF cf) x u[a]!) u j k=i2) (λk=>j+1-k) i ⟨AT _,by omega,hi2⟩ ?_;rintro k ⟨hk1,hk2,hk⟩;rw[scanUp]at hk;rcases BI (decide ((k:Int)<=(j:Int)))with g|g
  ·have hg:k<=j:=by have:=AM g;omega
   have h1:=CR (AQ false) (d:=u) (i:=k) (by omega);have h2:=CR (AQ false) (d:=u) (i:=a) (by omega);have hl:=hcf (u[k]!) (u[a]!);(repeat refine WF ?_);refine JN ?_;refine Gy (h:=(hl ..)) (k:=?_);refine JK ?_;refine RGo.nil (by kernel_rfl) ?_;(repeat refine WF ?_);refine AC rfl (λhd=>?_) (λhd=>?_)
   ·have hd:((BF cf) u[k]! u[a]!)=true:=by simpa[g,BF]using hd
    rw[Ab (by rw[AH];exact⟨BP (by omega),hd⟩)]at hk;refine KK ?_;exact Bb (k+1) ⟨by omega,by omega,hk⟩
   ·have hd:((BF cf) u[k]! u[a]!)=false:=by simpa[g,BF]using hd
    rw[AI (λe=>by rw[AH]at e;have e2:=e.2;rw[hd]at e2;cases e2)]at hk;refine KK ?_;exact jn k hk
  ·have hg:¬k<=j:=by have:=AU g;omega
   rw[AI (λe=>by rw[AH]at e;have:=AM e.1;omega)]at hk;(repeat refine WF ?_);refine RU ?_;(iterate 16 refine RK ?_);refine RGo.nil (by kernel_rfl) ?_;(repeat refine WF ?_);refine AB rfl (by simp[g]) ?_;refine KK ?_;exact jn k hk
 rintro k hk0;rw[hk0];clear hk0 k
 (repeat (first|refine Fo ?_|refine Ek ?_|refine FO ?_))
 refine DR (λk:Nat=>k=j2) (λk=>⟨[(0,.sl X 0 n),(1,iA a),(4,.fn f cap),(12,iA i2),(13,iA k)],(X,.row 83 3 (u.toList.map (AQ false)))::Sf⟩) ?_ ?_
 ·refine AWP.block ?_
  refine Cd (λ(k:Nat)=>⟨[(0,.sl X 0 n),(1,iA a),(4,.fn f cap),(12,iA i2),(13,iA k)],(X,.row 83 3 (u.toList.map (AQ false)))::Sf⟩) (λk=>k<=j/\scanDown (λx=>!(BF cf) x u[a]!) u i2 k=j2) (λk=>k) j ⟨AT _,hj2⟩ ?_;rintro k ⟨hk1,hk⟩;rcases BI (decide ((i2:Int)<=(k:Int)))with g|g
  ·have hg:i2<=k:=by have:=AM g;omega
   obtain⟨q,rfl⟩:∃q,k=q+1:=⟨k-1,by omega⟩;rw[scanDown]at hk;have h1:=CR (AQ false) (d:=u) (i:=q+1) (by omega);have h2:=CR (AQ false) (d:=u) (i:=a) (by omega);have hl:=hcf (u[q+1]!) (u[a]!);(repeat refine WF ?_);refine JN ?_;refine Gy (h:=(hl ..)) (k:=?_);(iterate 3 refine RK ?_);refine RGo.nil (by kernel_rfl) ?_;(repeat refine WF ?_);refine AC rfl (λhd=>?_) (λhd=>?_)
   ·have hd:(!(BF cf) u[q+1]! u[a]!)=true:=by simpa[g,BF]using hd
    rw[Ab (by rw[AH];exact⟨BP (by omega),hd⟩)]at hk
    (iterate 4 refine WK ?_);refine AOps.p (CB ((q:Int)) (by omega) (by omega) rfl rfl) rfl ?_;refine KK ?_
    exact Bb q ⟨by omega,hk⟩
   ·have hd:(!(BF cf) u[q+1]! u[a]!)=false:=by simpa[g,BF]using hd
    rw[AI (λe=>by rw[AH]at e;have e2:=e.2;rw[hd]at e2;cases e2)]at hk;refine KK ?_;exact jn (q+1) hk
  ·have hg:¬i2<=k:=by have:=AU g;omega
   have hk3:scanDown (λx=>!(BF cf) x u[a]!) u i2 k=k:=by
    cases k with
    |zero=>rfl
    |succ q=>rw[scanDown,AI (λe=>by rw[AH]at e;have:=AM e.1;omega)]
   rw[hk3]at hk;(repeat refine WF ?_);refine RU ?_;(iterate 17 refine RK ?_);refine RGo.nil (by kernel_rfl) ?_;(repeat refine WF ?_);refine AB rfl (by simp[g]) ?_;refine KK ?_;exact jn k hk
 rintro k hk0;rw[hk0];clear hk0 k;refine KK ?_;refine AC rfl (λhc=>?_) (λhc=>?_)
 ·have h:i2>j2:=by have:=AM hc;omega
  rw[Ab h]at hfold;subst hfold;have h1:=CR (AQ false) (d:=u) (i:=j2) (by omega);have h2:=CR (AQ false) (d:=u) (i:=a) (by omega);have hrow2:=FM (AQ false) (d:=u) (i:=j2) (j:=a) (by omega) (by omega);obtain⟨y,hy⟩:=Ed (AQ false) (d:=u) (i:=j2) (j:=a) (by omega) u[a]!;(repeat refine WF ?_);refine RU ?_;(iterate 15 refine RK ?_);refine RGo.s (W.store rfl rfl (by exact Az) hy (by exact rfl)) rfl ?_;refine RGo.nil (by kernel_rfl) ?_;refine JC ?_;exact Ends.sp [iA j2,bA true] [(X,_)] ⟨rfl,by rw[<-hrow2]⟩
 have h:¬i2>j2:=by have:=AU hc;omega
 rw[AI h]at hfold;obtain⟨pr,hpr⟩:=nm (partLoop (BF cf) a (i2+1) (j2-1) (swp u i2 j2));rw[hpr]at hfold;have h1:=CR (AQ false) (d:=u) (i:=i2) (by omega);have h2:=CR (AQ false) (d:=u) (i:=j2) (by omega);clear y hy;obtain⟨y,hy⟩:=Ed (AQ false) (d:=u) (i:=i2) (j:=j2) (by omega) u[j2]!;(repeat refine WF ?_);refine RU ?_;(iterate 15 refine RK ?_);refine RGo.s (W.store rfl rfl (by exact Az) hy (by exact rfl)) rfl ?_;refine RGo.nil (by kernel_rfl) ?_
 (iterate 9 refine WK ?_);refine AOps.p (CB (((j2-1:Nat):Int)) (by omega) (by omega) rfl rfl) rfl ?_;refine KK ?_
 refine ET (λ(i j:Nat) (u:Array Item)=>⟨[(0,.sl X 0 n),(1,iA a),(4,.fn f cap),(12,iA i),(13,iA j)],(X,.row 83 3 (u.toList.map (AQ false)))::Sf⟩) (λi j u=>a<i/\i<=j+2/\j<b/\u.size=d.size/\partLoop (BF cf) a i j u=pr) (λi j _=>j+1-i) (i2+1) (j2-1) (swp u i2 j2) ⟨by omega,by omega,by omega,by rw[size_swp];exact hu,hpr⟩ ?_ (h0:=by rw[<-FM (AQ false) (by omega) (by omega)];exact⟨by exact FE,by exact BL⟩);subst hfold;clear hc h h1 h2 hpr hi2 hj2 hge hle hge2 hr hrow hu0 hu hsz hi hj hy y i2 j2 i j u;rintro i j u ⟨hai,hij,hjb,hu,hfold⟩;rw[partLoop_eq]at hfold;obtain⟨i2,hi2⟩:=nm (scanUp (λx=>(BF cf) x u[a]!) u j i);rw[hi2]at hfold;obtain⟨j2,hj2⟩:=nm (scanDown (λx=>!(BF cf) x u[a]!) u i2 j);rw[hj2]at hfold;have hge:=scanUp_ge (λx=>(BF cf) x u[a]!) u j i;have hle:=scanDown_le (λx=>!(BF cf) x u[a]!) u i2 j;rw[hi2]at hge;rw[hj2]at hle;have hge2:i2<=max i (j+1):=by rw[<-hi2];exact Me _ _ _ _
 refine AWP.block ?_
 (repeat (first|refine Fo ?_|refine Ek ?_|refine FO ?_))
 refine DR (λk:Nat=>k=i2) (λk=>⟨[(0,.sl X 0 n),(1,iA a),(4,.fn f cap),(12,iA k),(13,iA j)],(X,.row 83 3 (u.toList.map (AQ false)))::Sf⟩) ?_ ?_
 ·refine AWP.block ?_
  refine Cd (λ(k:Nat)=>⟨[(0,.sl X 0 n),(1,iA a),(4,.fn f cap),(12,iA k),(13,iA j)],(X,.row 83 3 (u.toList.map (AQ false)))::Sf⟩) (λk=>i<=k/\k<=max i (j+1)/\scanUp (λx=>(BF cf) x u[a]!) u j k=i2) (λk=>j+1-k) i ⟨AT _,by omega,hi2⟩ ?_;rintro k ⟨hk1,hk2,hk⟩;rw[scanUp]at hk;rcases BI (decide ((k:Int)<=(j:Int)))with g|g
  ·have hg:k<=j:=by have:=AM g;omega
   have h1:=CR (AQ false) (d:=u) (i:=k) (by omega);have h2:=CR (AQ false) (d:=u) (i:=a) (by omega);have hl:=hcf (u[k]!) (u[a]!);(repeat refine WF ?_);refine JN ?_;refine Gy (h:=(hl ..)) (k:=?_);refine JK ?_;refine RGo.nil (by kernel_rfl) ?_;(repeat refine WF ?_);refine AC rfl (λhd=>?_) (λhd=>?_)
   ·have hd:((BF cf) u[k]! u[a]!)=true:=by simpa[g,BF]using hd
    rw[Ab (by rw[AH];exact⟨BP (by omega),hd⟩)]at hk;refine KK ?_;exact Bb (k+1) ⟨by omega,by omega,hk⟩
   ·have hd:((BF cf) u[k]! u[a]!)=false:=by simpa[g,BF]using hd
    rw[AI (λe=>by rw[AH]at e;have e2:=e.2;rw[hd]at e2;cases e2)]at hk;refine KK ?_;exact jn k hk
  ·have hg:¬k<=j:=by have:=AU g;omega
   rw[AI (λe=>by rw[AH]at e;have:=AM e.1;omega)]at hk;(repeat refine WF ?_);refine RU ?_;(iterate 16 refine RK ?_);refine RGo.nil (by kernel_rfl) ?_;(repeat refine WF ?_);refine AB rfl (by simp[g]) ?_;refine KK ?_;exact jn k hk
 rintro k hk0;rw[hk0];clear hk0 k
 (repeat (first|refine Fo ?_|refine Ek ?_|refine FO ?_))
 refine DR (λk:Nat=>k=j2) (λk=>⟨[(0,.sl X 0 n),(1,iA a),(4,.fn f cap),(12,iA i2),(13,iA k)],(X,.row 83 3 (u.toList.map (AQ false)))::Sf⟩) ?_ ?_
 ·refine AWP.block ?_
  refine Cd (λ(k:Nat)=>⟨[(0,.sl X 0 n),(1,iA a),(4,.fn f cap),(12,iA i2),(13,iA k)],(X,.row 83 3 (u.toList.map (AQ false)))::Sf⟩) (λk=>k<=j/\scanDown (λx=>!(BF cf) x u[a]!) u i2 k=j2) (λk=>k) j ⟨AT _,hj2⟩ ?_;rintro k ⟨hk1,hk⟩;rcases BI (decide ((i2:Int)<=(k:Int)))with g|g
  ·have hg:i2<=k:=by have:=AM g;omega
   obtain⟨q,rfl⟩:∃q,k=q+1:=⟨k-1,by omega⟩;rw[scanDown]at hk;have h1:=CR (AQ false) (d:=u) (i:=q+1) (by omega);have h2:=CR (AQ false) (d:=u) (i:=a) (by omega);have hl:=hcf (u[q+1]!) (u[a]!);(repeat refine WF ?_);refine JN ?_;refine Gy (h:=(hl ..)) (k:=?_);(iterate 3 refine RK ?_);refine RGo.nil (by kernel_rfl) ?_;(repeat refine WF ?_);refine AC rfl (λhd=>?_) (λhd=>?_)
   ·have hd:(!(BF cf) u[q+1]! u[a]!)=true:=by simpa[g,BF]using hd
    rw[Ab (by rw[AH];exact⟨BP (by omega),hd⟩)]at hk
    (iterate 4 refine WK ?_);refine AOps.p (CB ((q:Int)) (by omega) (by omega) rfl rfl) rfl ?_;refine KK ?_
    exact Bb q ⟨by omega,hk⟩
   ·have hd:(!(BF cf) u[q+1]! u[a]!)=false:=by simpa[g,BF]using hd
    rw[AI (λe=>by rw[AH]at e;have e2:=e.2;rw[hd]at e2;cases e2)]at hk;refine KK ?_;exact jn (q+1) hk
  ·have hg:¬i2<=k:=by have:=AU g;omega
   have hk3:scanDown (λx=>!(BF cf) x u[a]!) u i2 k=k:=by
    cases k with
    |zero=>rfl
    |succ q=>rw[scanDown,AI (λe=>by rw[AH]at e;have:=AM e.1;omega)]
   rw[hk3]at hk;(repeat refine WF ?_);refine RU ?_;(iterate 17 refine RK ?_);refine RGo.nil (by kernel_rfl) ?_;(repeat refine WF ?_);refine AB rfl (by simp[g]) ?_;refine KK ?_;exact jn k hk
 rintro k hk0;rw[hk0];clear hk0 k;refine KK ?_;refine AC rfl (λhc=>?_) (λhc=>?_)
 ·have h:i2>j2:=by have:=AM hc;omega
  rw[Ab h]at hfold;subst hfold;have h1:=CR (AQ false) (d:=u) (i:=j2) (by omega);have h2:=CR (AQ false) (d:=u) (i:=a) (by omega);have hrow2:=FM (AQ false) (d:=u) (i:=j2) (j:=a) (by omega) (by omega);obtain⟨y,hy⟩:=Ed (AQ false) (d:=u) (i:=j2) (j:=a) (by omega) u[a]!;(repeat refine WF ?_);refine RU ?_;(iterate 15 refine RK ?_);refine RGo.s (W.store rfl rfl (by exact Az) hy (by exact rfl)) rfl ?_;refine RGo.nil (by kernel_rfl) ?_;refine JC ?_;exact Ends.sp [iA j2,bA false] [(X,_)] ⟨rfl,by rw[<-hrow2]⟩
 ·have h:¬i2>j2:=by have:=AU hc;omega
  rw[AI h]at hfold;have h1:=CR (AQ false) (d:=u) (i:=i2) (by omega);have h2:=CR (AQ false) (d:=u) (i:=j2) (by omega);obtain⟨y,hy⟩:=Ed (AQ false) (d:=u) (i:=i2) (j:=j2) (by omega) u[j2]!;(repeat refine WF ?_);refine RU ?_;(iterate 15 refine RK ?_);refine RGo.s (W.store rfl rfl (by exact Az) hy (by exact rfl)) rfl ?_;refine RGo.nil (by kernel_rfl) ?_
  (iterate 9 refine WK ?_);refine AOps.p (CB (((j2-1:Nat):Int)) (by omega) (by omega) rfl rfl) rfl ?_;refine KK ?_
  refine Cs (i2+1) (j2-1) (swp u i2 j2) ⟨by omega,by omega,by omega,by rw[size_swp];exact hu,hfold⟩ (h0:=by rw[<-FM (AQ false) (by omega) (by omega)];exact⟨by exact FE,by exact BL⟩)
end
section
open Go.Sort
theorem O3(lt:Item->Item->Bool)(d:Array Item)(b i:Nat):i<=scanSorted lt d b i/\scanSorted lt d b i<=max i b:=by
 obtain⟨m,hm⟩:=nm (b-i)
 induction m generalizing i with
 |zero=>rw[scanSorted,AI (λe=>by rw[AH]at e;have:=AM e.1;omega)];omega
 |succ m ih=>
  rw[scanSorted];split
  ·have:=ih (i+1) (by omega)
   omega
  ·omega
theorem cX(f:FuncId)(cap:List AV)(cf:Item->Item->Int)(hst:Dw cap=true)(hcf:∀x y,PS prog f ((AQ false) x::(AQ false) y::cap) (iA (cf x y)))(X n:Nat)(d:Array Item)(a b:Nat)(hn:n=d.size)(hab:a<b)(hb:b<=d.size)(hz:d.size<=1099511627776):PO prog 178 [.sl X 0 n,iA a,iA b,.fn f cap] X (.row 83 3 (d.toList.map (AQ false))) (bA (partialInsertionSort (BF cf) d a b).2) (.row 83 3 ((partialInsertionSort (BF cf) d a b).1.toList.map (AQ false))):=by
 obtain⟨r,hr⟩:=nm (partialInsertionSort (BF cf) d a b);rw[hr];unfold partialInsertionSort at hr;refine Sp (nt:=141) (res:=[.tmp 8]) func178 λSf=>?_
 (iterate 7 refine WK ?_);refine AOps.p (Cc (((a+1:Nat):Int)) (by omega) (by omega) rfl rfl) rfl ?_;refine KK ?_
 refine ET (λ(c i:Nat) (u:Array Item)=>⟨[(0,.sl X 0 n),(1,iA a),(2,iA b),(3,.fn f cap),(9,iA i),(10,iA c)],(X,.row 83 3 (u.toList.map (AQ false)))::Sf⟩) (λc i u=>c<=5/\a<i/\i<=b/\u.size=d.size/\partialIns (BF cf) a b (5-c) i u=r) (λc _ _=>5-c) 0 (a+1) d ⟨by omega,by omega,by omega,rfl,hr⟩ ?_;rintro c i u ⟨hc5,hai,hib,hu,hfold⟩;refine KK ?_;refine AC rfl (λhc=>?_) (λhc=>?_)
 ·have h:c<5:=by have:=AM hc;omega
  obtain⟨s,hs⟩:∃s,5-c=s+1:=⟨4-c,by omega⟩;rw[hs,partialIns_succ]at hfold;obtain⟨i2,hi2⟩:=nm (scanSorted (BF cf) u b i);rw[hi2]at hfold;have hrg:=O3 (BF cf) u b i;rw[hi2]at hrg
  (repeat (first|refine Fo ?_|refine Ek ?_|refine FO ?_))
  refine AWP.block ?_
  (repeat (first|refine Fo ?_|refine Ek ?_|refine FO ?_))
  refine DR (λk:Nat=>k=i2) (λk=>⟨[(0,.sl X 0 n),(1,iA a),(2,iA b),(3,.fn f cap),(9,iA k),(10,iA c)],(X,.row 83 3 (u.toList.map (AQ false)))::Sf⟩) ?_ ?_
  ·refine AWP.block ?_
   refine Cd (λ(k:Nat)=>⟨[(0,.sl X 0 n),(1,iA a),(2,iA b),(3,.fn f cap),(9,iA k),(10,iA c)],(X,.row 83 3 (u.toList.map (AQ false)))::Sf⟩) (λk=>i<=k/\k<=b/\scanSorted (BF cf) u b k=i2) (λk=>b-k) i ⟨AT _,hib,hi2⟩ ?_;rintro k ⟨hk1,hk2,hk⟩;rw[scanSorted]at hk;rcases BI (decide ((k:Int)<(b:Int)))with g|g
   ·have hg:k<b:=by have:=AM g;omega
    have h1:=CR (AQ false) (d:=u) (i:=k) (by omega);have h2:=CR (AQ false) (d:=u) (i:=k-1) (by omega);have hl:=hcf (u[k]!) (u[k-1]!);(repeat refine WF ?_);refine RU ?_;(iterate 11 refine RK ?_);refine BT ?_ (CB (((k-1:Nat):Int)) (by omega) (by omega) rfl rfl);refine KR ?_;refine Gy (h:=(hl ..)) (k:=?_);(iterate 3 refine RK ?_);refine RGo.nil (by kernel_rfl) ?_;(repeat refine WF ?_);refine AC rfl (λhd=>?_) (λhd=>?_)
    ·have hd:(!(BF cf) u[k]! u[k-1]!)=true:=by simpa[g,BF]using hd
     rw[Ab (by rw[AH];exact⟨BP (by omega),hd⟩)]at hk;refine KK ?_;exact Bb (k+1) ⟨by omega,by omega,hk⟩
    ·have hd:(!(BF cf) u[k]! u[k-1]!)=false:=by simpa[g,BF]using hd
     rw[AI (λe=>by rw[AH]at e;have e2:=e.2;rw[hd]at e2;cases e2)]at hk;refine KK ?_;exact jn k hk
   ·have hg:¬k<b:=by have:=AU g;omega
    rw[AI (λe=>by rw[AH]at e;have:=AM e.1;omega)]at hk;(repeat refine WF ?_);refine RU ?_;(iterate 18 refine RK ?_);refine RGo.nil (by kernel_rfl) ?_;(repeat refine WF ?_);refine AB rfl (by simp[g]) ?_;refine KK ?_;exact jn k hk
  rintro k hk0;rw[hk0];clear hk0 k;refine KK ?_;refine AC rfl (λhd=>?_) (λhd=>?_)
  ·have hd:i2=b:=by have:=AM hd;omega
   rw[Ab hd]at hfold;subst hfold;refine JC ?_;exact Ends.sp [bA true] [(X,_)] ⟨rfl,rfl⟩
  have hd:¬i2=b:=by have:=AU hd;omega
  rw[AI hd]at hfold
  (iterate 6 refine WK ?_);refine AOps.p (CB (((b-a:Nat):Int)) (by omega) (by omega) rfl rfl) rfl ?_;refine KK ?_
  refine AC rfl (λhe=>?_) (λhe=>?_)
  ·have he:b-a<50:=by have:=AM he;omega
   rw[Ab he]at hfold;subst hfold;refine JC ?_;exact Ends.sp [bA false] [(X,_)] ⟨rfl,rfl⟩
  have he:¬b-a<50:=by have:=AU he;omega
  rw[AI he]at hfold;have h1:=CR (AQ false) (d:=u) (i:=i2) (by omega);have h2:=CR (AQ false) (d:=u) (i:=i2-1) (by omega);have hrow:=FM (AQ false) (d:=u) (i:=i2) (j:=i2-1) (by omega) (by omega);obtain⟨y,hy⟩:=Ed (AQ false) (d:=u) (i:=i2) (j:=i2-1) (by omega) u[i2-1]!;have hvs:(swp u i2 (i2-1)).size=d.size:=by rw[size_swp];exact hu
  (repeat refine WF ?_);refine RU ?_;(iterate 4 refine RK ?_);refine BT ?_ (CB (((i2-1:Nat):Int)) (by omega) (by omega) rfl rfl);refine JK ?_;refine BT ?_ (CB (((i2-1:Nat):Int)) (by omega) (by omega) rfl rfl);(iterate 9 refine RK ?_);refine RGo.s (W.store rfl rfl (by exact Az) hy (by exact rfl)) rfl ?_;refine RGo.nil (by kernel_rfl) ?_;obtain⟨v,hv⟩:=nm (swp u i2 (i2-1));rw[hv]at hrow hvs hfold;refine US [(0,.sl X 0 n),(1,iA a),(2,iA b),(3,.fn f cap),(9,iA i2),(10,iA c)] ((X,.row 83 3 (v.toList.map (AQ false)))::Sf) ?_ (h:=by rw[<-hrow];exact⟨by exact FE,by exact BL⟩)
  (iterate 5 refine WK ?_);refine AOps.p (CB (((i2-a:Nat):Int)) (by omega) (by omega) rfl rfl) rfl ?_;refine KK ?_
  refine DR (λw:Array Item=>w.size=d.size/\w=fixDown (BF cf) a i2 v) (λw=>⟨[(0,.sl X 0 n),(1,iA a),(2,iA b),(3,.fn f cap),(9,iA i2),(10,iA c)],(X,.row 83 3 (w.toList.map (AQ false)))::Sf⟩) ?_ ?_
  ·unfold fixDown
   refine AC rfl (λhf=>?_) (λhf=>?_)
   ·have hf:i2-a>=2:=by have:=AM hf;omega
    rw[Ab hf]
    (iterate 3 refine WK ?_);refine AOps.p (CB (((i2-1:Nat):Int)) (by omega) (by omega) rfl rfl) rfl ?_;refine KK ?_
    refine Cq (λ(k:Nat) (w:Array Item)=>⟨[(0,.sl X 0 n),(1,iA a),(2,iA b),(3,.fn f cap),(9,iA i2),(10,iA c),(11,iA k)],(X,.row 83 3 (w.toList.map (AQ false)))::Sf⟩) (λk w=>k<b/\w.size=d.size/\shiftDown (BF cf) k w=shiftDown (BF cf) (i2-1) v) (λk _=>k) (i2-1) v ⟨by omega,hvs,rfl⟩ ?_;rintro k w ⟨hkb,hw,hk⟩;refine KK ?_;refine AC rfl (λhg=>?_) (λhg=>?_)
    ·obtain⟨q,rfl⟩:∃q,k=q+1:=⟨k-1,by have:=AM hg;omega⟩
     rw[shiftDown]at hk;have h1:=CR (AQ false) (d:=w) (i:=q+1) (by omega);have h2:=CR (AQ false) (d:=w) (i:=q) (by omega);have hl:=hcf (w[q+1]!) (w[q]!);(repeat refine WF ?_);refine RU ?_;(iterate 7 refine RK ?_);refine BT ?_ (CB ((q:Int)) (by omega) (by omega) rfl rfl);refine KR ?_;refine Gy (h:=(hl ..)) (k:=?_);refine JK ?_;refine RGo.nil (by kernel_rfl) ?_;(repeat refine WF ?_);refine AC rfl (λhd=>?_) (λhd=>?_)
     ·have hd:(!(BF cf) w[q+1]! w[q]!)=true:=by simpa[BF]using hd
      rw[Ab hd]at hk;refine KK ?_;exact jn w ⟨hw,hk⟩
     ·have hd:(!(BF cf) w[q+1]! w[q]!)=false:=by simpa[BF]using hd
      rw[AI (by rw[hd];simp)]at hk;clear y hy;obtain⟨y,hy⟩:=Ed (AQ false) (d:=w) (i:=q+1) (j:=q) (by omega) w[q]!;(repeat refine WF ?_);refine RU ?_;(iterate 4 refine RK ?_);refine BT ?_ (CB ((q:Int)) (by omega) (by omega) rfl rfl);refine JK ?_;refine BT ?_ (CB ((q:Int)) (by omega) (by omega) rfl rfl);(iterate 9 refine RK ?_);refine RGo.s (W.store rfl rfl (by exact Az) hy (by exact rfl)) rfl ?_;refine RGo.nil (by kernel_rfl) ?_
      (iterate 4 refine WK ?_);refine AOps.p (CB ((q:Int)) (by omega) (by omega) rfl rfl) rfl ?_;refine KK ?_
      refine CA q (swp w (q+1) q) ⟨by omega,by rw[size_swp];exact hw,hk⟩ (h0:=by rw[<-FM (AQ false) (by omega) (by omega)];exact⟨by exact FE,by exact BL⟩)
    ·obtain rfl:k=0:=by have:=AU hg;omega
     rw[shiftDown]at hk;refine KK ?_;exact jn w ⟨hw,hk⟩
   ·have hf:¬i2-a>=2:=by have:=AU hf;omega
    rw[AI hf];refine WK ?_;exact jn v ⟨hvs,rfl⟩
  rintro w ⟨hws,hw0⟩;rw[<-hw0]at hfold;clear hw0 hrow y hy h1 h2
  (iterate 4 refine WK ?_);refine AOps.p (CB (((b-i2:Nat):Int)) (by omega) (by omega) rfl rfl) rfl ?_;refine KK ?_
  refine bj (λz:Array Item=>z.size=d.size/\z=fixUp (BF cf) b i2 w) (λz=>⟨[(0,.sl X 0 n),(1,iA a),(2,iA b),(3,.fn f cap),(9,iA i2),(10,iA c)],(X,.row 83 3 (z.toList.map (AQ false)))::Sf⟩) ?_ ?_
  ·unfold fixUp
   refine AC rfl (λhf=>?_) (λhf=>?_)
   ·have hf:b-i2>=2:=by have:=AM hf;omega
    rw[Ab hf]
    (iterate 3 refine WK ?_);refine AOps.p (Cc (((i2+1:Nat):Int)) (by omega) (by omega) rfl rfl) rfl ?_;refine KK ?_
    refine Cq (λ(k:Nat) (z:Array Item)=>⟨[(0,.sl X 0 n),(1,iA a),(2,iA b),(3,.fn f cap),(9,iA i2),(10,iA c),(12,iA k)],(X,.row 83 3 (z.toList.map (AQ false)))::Sf⟩) (λk z=>i2<k/\k<=b/\z.size=d.size/\shiftUp (BF cf) b k z=shiftUp (BF cf) b (i2+1) w) (λk _=>b-k) (i2+1) w ⟨by omega,by omega,hws,rfl⟩ ?_;rintro k z ⟨hik,hkb,hz1,hk⟩;rw[shiftUp]at hk;refine KK ?_;refine AC rfl (λhg=>?_) (λhg=>?_)
    ·have hg:k<b:=by have:=AM hg;omega
     rw[Ab hg]at hk;have h1:=CR (AQ false) (d:=z) (i:=k) (by omega);have h2:=CR (AQ false) (d:=z) (i:=k-1) (by omega);have hl:=hcf (z[k]!) (z[k-1]!);(repeat refine WF ?_);refine RU ?_;(iterate 7 refine RK ?_);refine BT ?_ (CB (((k-1:Nat):Int)) (by omega) (by omega) rfl rfl);refine KR ?_;refine Gy (h:=(hl ..)) (k:=?_);refine JK ?_;refine RGo.nil (by kernel_rfl) ?_;(repeat refine WF ?_);refine AC rfl (λhd=>?_) (λhd=>?_)
     ·have hd:(!(BF cf) z[k]! z[k-1]!)=true:=by simpa[BF]using hd
      rw[Ab hd]at hk;refine KK ?_;exact jn z ⟨hz1,hk⟩
     ·have hd:(!(BF cf) z[k]! z[k-1]!)=false:=by simpa[BF]using hd
      rw[AI (by rw[hd];simp)]at hk;obtain⟨y,hy⟩:=Ed (AQ false) (d:=z) (i:=k) (j:=k-1) (by omega) z[k-1]!;(repeat refine WF ?_);refine RU ?_;(iterate 4 refine RK ?_);refine BT ?_ (CB (((k-1:Nat):Int)) (by omega) (by omega) rfl rfl);refine JK ?_;refine BT ?_ (CB (((k-1:Nat):Int)) (by omega) (by omega) rfl rfl);(iterate 9 refine RK ?_);refine RGo.s (W.store rfl rfl (by exact Az) hy (by exact rfl)) rfl ?_;refine RGo.nil (by kernel_rfl) ?_;refine KK ?_;refine CA (k+1) (swp z k (k-1)) ⟨by omega,by omega,by rw[size_swp];exact hz1,hk⟩ (h0:=by rw[<-FM (AQ false) (by omega) (by omega)];exact⟨by exact FE,by exact BL⟩)
    ·have hg:¬k<b:=by have:=AU hg;omega
     rw[AI hg]at hk;refine KK ?_;exact jn z ⟨hz1,hk⟩
   ·have hf:¬b-i2>=2:=by have:=AU hf;omega
    rw[AI hf];refine WK ?_;exact jn w ⟨hws,rfl⟩
  rintro z ⟨hzs,hz0⟩;rw[<-hz0]at hfold;refine KK ?_;refine Cs (c+1) i2 z ⟨by omega,by omega,by omega,hzs,by rw[show 5-(c+1)=s by omega];exact hfold⟩
 ·have h:c=5:=by have:=AU hc;omega
  subst h;rw[show 5-5=0 from rfl,partialIns]at hfold;subst hfold;refine JC ?_;exact Ends.sp [bA false] [(X,_)] ⟨rfl,rfl⟩
end
section
open Go.Sort
theorem gq{f:FuncId}{cap:List AV}(X n:Nat)(d:Array Item)(a b:Nat)(hn:n=d.size)(hab:a<=b)(hb:b<=d.size)(hz:d.size<65536):Spec prog 175 [.sl X 0 n,iA a,iA b,.fn f cap] [(X,.row 83 3 (d.toList.map (AQ false)))] λr S'=>∃u:Array Item,PermIn a b d u/\r= .tup []/\S'=[(X,.row 83 3 (u.toList.map (AQ false)))]:=by
 obtain⟨l,hl⟩:=nm (b-a);refine Sp (nt:=67) (res:=[]) func175 λSf=>?_
 (iterate 4 refine WK ?_);refine AOps.p (CB ((l:Int)) (by omega) (by omega) rfl rfl) rfl ?_;refine KK ?_
 refine AC rfl (λh8=>?_) (λh8=>?_)
 ·have h8:8<=l:=by have:=AM h8;omega
  have hnp:=XD l (by omega);have hbl:bitsLen l<=16:=(bitsLen_le_iff l 16).2 (by omega);have hm2:=two_pow_bitsLen_le (n:=l) (by omega);obtain⟨m,hm⟩:∃m,(1:UInt64)<<<UInt64.ofNat (bitsLen l)=m:=⟨_,rfl⟩
  have hmn:m.toNat=2^bitsLen l:=by
   have:2^bitsLen l<=2^16:=FA (by decide) hbl;rw[<-hm,FZ,Ax,show bitsLen l%2^64%64=bitsLen l by omega,Gn,show(1:UInt64).toNat=1 from rfl];omega
  rw[hm]at hnp;have hp1:1<=2^bitsLen l:=Nat.one_le_two_pow;(repeat first|(refine Bm ?_;first|(refine Bq ?_;first|refine BE (h:=(hnp ..)) (k:=?_))|refine AOps.p (Ge .i64 l rfl (by omega) (by kernel_rfl) (by kernel_rfl) rfl) rfl ?_|refine AOps.p (Li l 4 (l/4) rfl rfl (by omega) rfl (by omega) rfl rfl) rfl ?_|refine AOps.p (HP ((l/4*2:Nat):Int) (by omega) (by omega) rfl rfl) rfl ?_|refine AOps.p (Cc (((a+l/4*2:Nat):Int)) (by omega) (by omega) rfl rfl) rfl ?_|refine AOps.p (CB (((a+l/4*2-1:Nat):Int)) (by omega) (by omega) rfl rfl) rfl ?_)|refine WK ?_|refine Ai λV=>?_|refine Ay λY=>?_);refine ET (λ(k:Nat) (s:UInt64) (u:Array Item)=>⟨[(0,.sl X 0 n),(1,iA a),(3,.fn f cap),(8,iA l),(9,.ptr V 0 0),(10,uA m),(11,iA k)],(V,.row 331 1 [uA s])::(X,.row 83 3 (u.toList.map (AQ false)))::Sf⟩) (λk s u=>a<=k/\k<=a+l/4*2+2/\PermIn a b d u) (λk _ _=>a+l/4*2+2-k) (a+l/4*2-1) (UInt64.ofNat l) d ⟨by omega,by omega,permIn_refl _ _ _⟩ ?_;rintro k s u ⟨hak,hkl,hP⟩;have hu:u.size=d.size:=hP.1;(repeat first|(refine Bm ?_;first|refine AOps.p (Li l 4 (l/4) rfl rfl (by omega) rfl (by omega) rfl rfl) rfl ?_|refine AOps.p (HP ((l/4*2:Nat):Int) (by omega) (by omega) rfl rfl) rfl ?_|refine AOps.p (Cc (((a+l/4*2:Nat):Int)) (by omega) (by omega) rfl rfl) rfl ?_|refine AOps.p (Cc (((a+l/4*2+1:Nat):Int)) (by omega) (by omega) rfl rfl) rfl ?_)|refine WK ?_|refine Ai λX=>?_|refine Ay λY=>?_);refine AC rfl (λhc=>?_) (λhc=>?_)
  ·have hk1:k<=a+l/4*2+1:=by have:=AM hc;omega
   have hkb:k<b:=by omega
   refine Fo ?_;refine Ek ?_;refine FO ?_;refine AWP.block ?_;refine FO ?_;refine RG ?_;refine fE (WT V s) λv _=>?_;refine WO ?_
   have hvb:(v&&&(m-1)).toNat<2*l:=by
    rw[Gm,UInt64.toNat_sub_of_le _ _ (by rw[Jz,hmn];exact hp1),hmn];have:=Nat.and_le_right (n:=v.toNat) (m:=2^bitsLen l-(1:UInt64).toNat);have e:(1:UInt64).toNat=1:=rfl;omega
   refine AOps.p (K4 (b:=1) rfl rfl) rfl ?_;refine AOps.p (Ht rfl rfl) rfl ?_;refine AOps.p (Mx .u64 (by omega) (by kernel_rfl) (by kernel_rfl) rfl) rfl ?_;refine WO ?_;refine AOps.nil ?_
   (repeat (first|refine Fo ?_|refine Ek ?_|refine FO ?_))
   obtain⟨o,ho⟩:=nm ((v&&&(m-1)).toNat);refine US [(0,.sl X 0 n),(1,iA a),(3,.fn f cap),(8,iA l),(9,.ptr V 0 0),(10,uA m),(11,iA k),(12,iA o)] ((V,.row 331 1 [uA v])::(X,.row 83 3 (u.toList.map (AQ false)))::Sf) ?_ (h:=by rw[<-ho];exact⟨by exact FE,by exact BL⟩);rw[ho]at hvb;refine KK ?_;refine DR (λo:Nat=>o<l) (λo=>⟨[(0,.sl X 0 n),(1,iA a),(3,.fn f cap),(8,iA l),(9,.ptr V 0 0),(10,uA m),(11,iA k),(12,iA o)],(V,.row 331 1 [uA v])::(X,.row 83 3 (u.toList.map (AQ false)))::Sf⟩) ?_ ?_
   ·refine AC rfl (λhd=>?_) (λhd=>?_)
    ·have hd:l<=o:=by have:=AM hd;omega
     (iterate 3 refine WK ?_);refine AOps.p (CB (((o-l:Nat):Int)) (by omega) (by omega) rfl rfl) rfl ?_;refine KK ?_
     exact jn (o-l) (by omega)
    ·have hd:¬l<=o:=by have:=AU hd;omega
     refine WK ?_;exact jn o (by omega)
   rintro o hol;have h1:=CR (AQ false) (d:=u) (i:=k) (by omega);have h2:=CR (AQ false) (d:=u) (i:=a+o) (by omega);obtain⟨y,hy⟩:=Ed (AQ false) (d:=u) (i:=k) (j:=a+o) (by omega) u[a+o]!;(repeat refine WF ?_);refine RU ?_;(iterate 5 refine RK ?_);refine BT ?_ (Cc (((a+o:Nat):Int)) (by omega) (by omega) rfl rfl);(iterate 3 refine RK ?_);refine BT ?_ (Cc (((a+o:Nat):Int)) (by omega) (by omega) rfl rfl);(iterate 9 refine RK ?_);refine RGo.s (W.store rfl rfl (by exact Az) hy (by exact rfl)) rfl ?_;refine RGo.nil (by kernel_rfl) ?_;refine KK ?_;refine Cs (k+1) v (swp u k (a+o)) ⟨by omega,by omega,permIn_trans _ _ _ _ _ hP (swp_permIn _ _ _ _ _ (by omega) (by omega) (by omega) (by omega) (by omega))⟩ (h0:=by rw[<-FM (AQ false) (by omega) (by omega)];exact⟨by exact FE,by exact BL⟩)
  ·refine KK ?_
   refine Eo ?_;exact CH [(X,.row 83 3 (u.toList.map (AQ false)))] ⟨u,hP,rfl,rfl⟩
 ·refine WK ?_
  refine Eo ?_;exact CH [(X,.row 83 3 (d.toList.map (AQ false)))] ⟨d,permIn_refl _ _ _,rfl,rfl⟩
end
section
open Go.Sort
theorem Mg(f:FuncId)(cap:List AV)(cf:Item->Item->Int)(hst:Dw cap=true)(hcf:∀x y,PS prog f ((AQ false) x::(AQ false) y::cap) (iA (cf x y)))(X Y n:Nat)(d:Array Item)(a b s:Nat)(hn:n=d.size)(ha:a<d.size)(hb:b<d.size)(hs:s<=1099511627776):Spec prog 257 [.sl X 0 n,iA a,iA b,.ptr Y 0 0,.fn f cap] [(X,.row 83 3 (d.toList.map (AQ false))),(Y,.row 3 1 [iA s])] λr S'=>r= .tup [iA (order2 (BF cf) d a b s).1,iA (order2 (BF cf) d a b s).2.1]/\S'=[(X,.row 83 3 (d.toList.map (AQ false))),(Y,.row 3 1 [iA (order2 (BF cf) d a b s).2.2])]:=by
 subst hn;have h1:=CR (AQ false) ha;have h2:=CR (AQ false) hb;have hl:=hcf (d[b]!) (d[a]!);refine Sp (nt:=32) (res:=[.tmp 10,.tmp 11]) func257 λSf=>?_
 unfold order2;refine R1 ?_;refine JN ?_;refine Gy (h:=(hl ..)) (k:=?_);refine RK ?_;refine RGo.nil (by kernel_rfl) ?_;(repeat refine WF ?_);refine AC rfl (λhc=>?_) (λhc=>?_)
 ·have hc:(BF cf) d[b]! d[a]! =true:=by simpa[BF]using hc
  rw[Ab hc];refine JC ?_;exact Ends.sp [iA b,iA a] [(X,_),(Y,_)] ⟨rfl,rfl⟩
 ·have hc:(BF cf) d[b]! d[a]! =false:=by simpa[BF]using hc
  rw[AI (by simp[hc])];refine JC ?_;exact Ends.sp [iA a,iA b] [(X,_),(Y,_)] ⟨rfl,rfl⟩
theorem P3(f:FuncId)(cap:List AV)(cf:Item->Item->Int)(hst:Dw cap=true)(hcf:∀x y,PS prog f ((AQ false) x::(AQ false) y::cap) (iA (cf x y)))(X Y n:Nat)(d:Array Item)(a b c s:Nat)(hn:n=d.size)(ha:a<d.size)(hb:b<d.size)(hc:c<d.size)(hs:s<=1099511627000):Spec prog 236 [.sl X 0 n,iA a,iA b,iA c,.ptr Y 0 0,.fn f cap] [(X,.row 83 3 (d.toList.map (AQ false))),(Y,.row 3 1 [iA s])] λr S'=>r=iA (median (BF cf) d a b c s).1/\S'=[(X,.row 83 3 (d.toList.map (AQ false))),(Y,.row 3 1 [iA (median (BF cf) d a b c s).2])]:=by
 obtain⟨m,hm⟩:=nm (median (BF cf) d a b c s);rw[hm];unfold median at hm;have l1:=N7 (BF cf) d a b s _ ha hb;have e1:=KE (BF cf) d a b s;have h1:=Mg f cap cf hst hcf X Y n d a b s hn ha hb (by omega);obtain⟨⟨a1,b1,s1⟩,hr1⟩:=nm (order2 (BF cf) d a b s);rw[hr1]at h1 hm l1 e1;dsimp only at h1 hm l1 e1;have l2:=N7 (BF cf) d b1 c s1 _ l1.2 hc;have e2:=KE (BF cf) d b1 c s1;have h2:=Mg f cap cf hst hcf X Y n d b1 c s1 hn l1.2 hc (by omega);obtain⟨⟨b2,c2,s2⟩,hr2⟩:=nm (order2 (BF cf) d b1 c s1);rw[hr2]at h2 hm l2 e2;dsimp only at h2 hm l2 e2;have l3:=N7 (BF cf) d a1 b2 s2 _ l1.1 l2.1;have h3:=Mg f cap cf hst hcf X Y n d a1 b2 s2 hn l1.1 l2.1 (by omega);obtain⟨⟨a3,b3,s3⟩,hr3⟩:=nm (order2 (BF cf) d a1 b2 s2);rw[hr3]at h3 hm l3;dsimp only at h3 hm l3;subst hm;refine Sp (nt:=41) (res:=[.tmp 12]) func236 λSf=>?_
 refine KK ?_;refine UT h1 .fz ?_;refine KK ?_;refine UT h2 .fz ?_;refine KK ?_;refine UT h3 .fz ?_;refine JC ?_;exact Ends.sp [iA b3] [(X,_),(Y,_)] ⟨rfl,rfl⟩
theorem Ml(f:FuncId)(cap:List AV)(cf:Item->Item->Int)(hst:Dw cap=true)(hcf:∀x y,PS prog f ((AQ false) x::(AQ false) y::cap) (iA (cf x y)))(X Y n:Nat)(d:Array Item)(a s:Nat)(hn:n=d.size)(ha:a+1<d.size)(h0:0<a)(hz:d.size<=1099511627776)(hs:s<=1099511627000):Spec prog 235 [.sl X 0 n,iA a,.ptr Y 0 0,.fn f cap] [(X,.row 83 3 (d.toList.map (AQ false))),(Y,.row 3 1 [iA s])] λr S'=>r=iA (medianAdjacent (BF cf) d a s).1/\S'=[(X,.row 83 3 (d.toList.map (AQ false))),(Y,.row 3 1 [iA (medianAdjacent (BF cf) d a s).2])]:=by
 have h1:=P3 f cap cf hst hcf X Y n d (a-1) a (a+1) s hn (by omega) (by omega) ha hs;unfold medianAdjacent;refine Sp (nt:=18) (res:=[.tmp 8]) func235 λSf=>?_
 (iterate 8 refine WK ?_);refine AOps.p (CB ((a-1:Nat):Int) (by omega) (by omega) rfl rfl) rfl ?_;refine WK ?_;refine WK ?_;refine AOps.p (Cc ((a+1:Nat):Int) (by omega) (by omega) rfl rfl) rfl ?_;refine KK ?_;refine ZC h1 .fz ?_;refine KK ?_
 refine RT ?_;exact Ends.sp [iA _] [(X,_),(Y,_)] ⟨rfl,rfl⟩
theorem PE(f:FuncId)(cap:List AV)(cf:Item->Item->Int)(hst:Dw cap=true)(hcf:∀x y,PS prog f ((AQ false) x::(AQ false) y::cap) (iA (cf x y)))(X n:Nat)(d:Array Item)(a b:Nat)(hn:n=d.size)(hab:a<b)(hb:b<=d.size)(hz:d.size<=1099511627776):PO prog 176 [.sl X 0 n,iA a,iA b,.fn f cap] X (.row 83 3 (d.toList.map (AQ false))) (.tup [iA (choosePivot (BF cf) d a b).1,iA (ig (choosePivot (BF cf) d a b).2)]) (.row 83 3 (d.toList.map (AQ false))):=by
 obtain⟨c,hc⟩:=nm (choosePivot (BF cf) d a b);rw[hc];unfold choosePivot at hc;obtain⟨l,hl⟩:=nm (b-a);obtain⟨i,hi⟩:=nm (a+l/4*1);obtain⟨j,hj⟩:=nm (a+l/4*2);obtain⟨k,hk⟩:=nm (a+l/4*3);rw[hl]at hc;dsimp only at hc;rw[hi,hj,hk]at hc;refine Sp (nt:=63) (res:=[.tmp 8,.tmp 9]) func176 λSf=>?_
 have hlb:l<=1099511627776:=by omega
 (repeat first|(refine Bm ?_;first|refine AOps.p (CB (l:Int) (by omega) (by omega) rfl rfl) rfl ?_|refine AOps.p (Li l 4 (l/4) rfl rfl (by omega) rfl (by omega) rfl rfl) rfl ?_|refine AOps.p (HP ((l/4*1:Nat):Int) (by omega) (by omega) rfl rfl) rfl ?_|refine AOps.p (HP ((l/4*2:Nat):Int) (by omega) (by omega) rfl rfl) rfl ?_|refine AOps.p (HP ((l/4*3:Nat):Int) (by omega) (by omega) rfl rfl) rfl ?_|refine AOps.p (Cc (i:Int) (by omega) (by omega) rfl rfl) rfl ?_|refine AOps.p (Cc (j:Int) (by omega) (by omega) rfl rfl) rfl ?_|refine AOps.p (Cc (k:Int) (by omega) (by omega) rfl rfl) rfl ?_)|refine WK ?_|refine Ai λV=>?_|refine Ay λY=>?_);refine DR (λb:Nat×Nat=>c=(b.1,if b.2=0 then Hint.increasing else if b.2=12 then Hint.decreasing else Hint.unknown)) (λb=>⟨[(0,.sl X 0 n),(3,.fn f cap),(11,.ptr V 0 0),(13,iA b.1)],(V,.row 3 1 [iA b.2])::(X,.row 83 3 (d.toList.map (AQ false)))::Sf⟩) ?_ ?_
 ·refine AC rfl (λh8=>?_) (λh8=>?_)
  ·have h8:l>=8:=by have:=AM h8;omega
   rw[Ab h8]at hc;refine KK ?_;refine DR (λb:Nat×Nat×Nat×Nat=>b.1<d.size/\b.2.1<d.size/\b.2.2.1<d.size/\b.2.2.2<=100/\(if l>=50 then median (BF cf) d (medianAdjacent (BF cf) d i 0).1 (medianAdjacent (BF cf) d j (medianAdjacent (BF cf) d i 0).2).1 (medianAdjacent (BF cf) d k (medianAdjacent (BF cf) d j (medianAdjacent (BF cf) d i 0).2).2).1 (medianAdjacent (BF cf) d k (medianAdjacent (BF cf) d j (medianAdjacent (BF cf) d i 0).2).2).2 else median (BF cf) d i j k 0)=median (BF cf) d b.1 b.2.1 b.2.2.1 b.2.2.2) (λb=>⟨[(0,.sl X 0 n),(3,.fn f cap),(11,.ptr V 0 0),(12,iA b.1),(13,iA b.2.1),(14,iA b.2.2.1)],(V,.row 3 1 [iA b.2.2.2])::(X,.row 83 3 (d.toList.map (AQ false)))::Sf⟩) ?_ ?_
   ·refine AC rfl (λh50=>?_) (λh50=>?_)
    ·have h50:l>=50:=by have:=AM h50;omega
     have a1:=OB (BF cf) d i 0 _ (show i+1<d.size by omega);have b1:=OA (BF cf) d (i-1) i (i+1) 0;have s1:=Ml f cap cf hst hcf X V n d i 0 hn (by omega) (by omega) hz (by omega);rw[Ab h50];have e1:(median (BF cf) d (i-1) i (i+1) 0).2=(medianAdjacent (BF cf) d i 0).2:=rfl;rw[e1]at b1;obtain⟨⟨p1,q1⟩,r1⟩:=nm (medianAdjacent (BF cf) d i 0);rw[r1]at a1 b1 s1⊢;dsimp only at a1 b1 s1⊢;have a2:=OB (BF cf) d j q1 _ (show j+1<d.size by omega);have b2:=OA (BF cf) d (j-1) j (j+1) q1;have s2:=Ml f cap cf hst hcf X V n d j q1 hn (by omega) (by omega) hz (by omega);have e2:(median (BF cf) d (j-1) j (j+1) q1).2=(medianAdjacent (BF cf) d j q1).2:=rfl;rw[e2]at b2;obtain⟨⟨p2,q2⟩,r2⟩:=nm (medianAdjacent (BF cf) d j q1);rw[r2]at a2 b2 s2⊢;dsimp only at a2 b2 s2⊢;have a3:=OB (BF cf) d k q2 _ (show k+1<d.size by omega);have b3:=OA (BF cf) d (k-1) k (k+1) q2;have s3:=Ml f cap cf hst hcf X V n d k q2 hn (by omega) (by omega) hz (by omega);have e3:(median (BF cf) d (k-1) k (k+1) q2).2=(medianAdjacent (BF cf) d k q2).2:=rfl;rw[e3]at b3;obtain⟨⟨p3,q3⟩,r3⟩:=nm (medianAdjacent (BF cf) d k q2);rw[r3]at a3 b3 s3⊢;dsimp only at a3 b3 s3⊢;refine KK ?_;refine UU s1 .fz ?_;refine KK ?_;refine UU s2 .fz ?_;refine KK ?_;refine UU s3 .fz ?_;refine KK ?_;refine jn (p1,p2,p3,q3) ⟨a1,a2,a3,by dsimp only;omega,rfl⟩
    ·have h50:¬l>=50:=by have:=AU h50;omega
     rw[AI h50];refine WK ?_;refine jn (i,j,k,0) ⟨by dsimp only;omega,by dsimp only;omega,by dsimp only;omega,by dsimp only;omega,rfl⟩
   ·rintro⟨p1,p2,p3,q⟩ ⟨l1,l2,l3,lq,e⟩
    dsimp only at l1 l2 l3 lq e⊢;rw[e]at hc;have h1:=P3 f cap cf hst hcf X V n d p1 p2 p3 q hn l1 l2 l3 (by omega);obtain⟨⟨r1,r2⟩,hr⟩:=nm (median (BF cf) d p1 p2 p3 q);rw[hr]at hc h1;dsimp only at h1;refine KK ?_;refine ZC h1 .fz ?_;refine KK ?_;refine jn (r1,r2) hc.symm
  ·have h8:¬l>=8:=by have:=AU h8;omega
   rw[AI h8]at hc;refine WK ?_;refine jn (j,0) hc.symm
 ·rintro⟨p,s⟩ hc
  dsimp only at hc⊢;subst hc;refine KK ?_;refine AC rfl (λh0=>?_) (λh0=>?_)
  ·have h0:s=0:=by have:=AM h0;omega
   rw[Ab h0];refine JC ?_;exact Ends.sp [iA p,iA 1] [(X,_)] ⟨rfl,rfl⟩
  ·have h0:¬s=0:=by have:=AU h0;omega
   rw[AI h0];refine KK ?_;refine AC rfl (λh1=>?_) (λh1=>?_)
   ·have h1:s=12:=by have:=AM h1;omega
    rw[Ab h1];refine JC ?_;exact Ends.sp [iA p,iA 2] [(X,_)] ⟨rfl,rfl⟩
   ·have h1:¬s=12:=by have:=AU h1;omega
    rw[AI h1];refine JC ?_;exact Ends.sp [iA p,iA 0] [(X,_)] ⟨rfl,rfl⟩
end
section
open Go.Sort
theorem fy(f:FuncId)(cap:List AV)(cf:Item->Item->Int)(hst:Dw cap=true)(hcf:∀x y,PS prog f ((AQ false) x::(AQ false) y::cap) (iA (cf x y)))(hS:SWO (BF cf)):∀(m X n:Nat) (d:Array Item) (a b limit:Nat),b-a<=m->n=d.size->a<=b->b<=d.size->d.size<65536->limit<=1000->Below (BF cf) a b d->Spec prog 129 [.sl X 0 n,iA a,iA b,iA limit,.fn f cap] [(X,.row 83 3 (d.toList.map (AQ false)))] λr S'=>∃u:Array Item,(PermIn a b d u/\SortedIn (BF cf) a b u)/\r= .tup []/\S'=[(X,.row 83 3 (u.toList.map (AQ false)))]:=by
 intro m
 induction m using Nat.strongRecOn with
 |_ m ih=>
 intro X n d a b limit hm hn hab hb hz hlim hB;refine Sp (nt:=148) (res:=[]) func129 λSf=>?_
 refine KK ?_;refine iN (λ(a b limit:Nat) (wb wp:Bool) (u:Array Item)=>⟨[(0,.sl X 0 n),(1,iA a),(2,iA b),(3,iA limit),(4,.fn f cap),(10,bA wb),(11,bA wp)],(X,.row 83 3 (u.toList.map (AQ false)))::Sf⟩) (λa' b' limit wb wp u=>a' <=b' /\b' <=d.size/\b'-a' <=b-a/\limit<=1000/\u.size=d.size/\Below (BF cf) a' b' u/\∀R,PermIn a' b' u R->SortedIn (BF cf) a' b' R->PermIn a b d R/\SortedIn (BF cf) a b R) (λa b _ _ _ _=>b-a) a b limit true true d ⟨hab,hb,AT _,hlim,rfl,hB,λR h1 h2=>⟨h1,h2⟩⟩ ?_;rintro a' b' limit wb wp u ⟨hab',hb',hmm,hlim,hu,hB',hG⟩;obtain⟨l,hl⟩:=nm (b'-a');refine AWP.block ?_
 (iterate 4 refine WK ?_);refine AOps.p (CB ((l:Int)) (by omega) (by omega) rfl rfl) rfl ?_;refine KK ?_
 refine AC rfl (λhc=>?_) (λhc=>?_)
 ·have hs:=gL f cap cf hst hcf X n u a' b' (by omega) hab' (by omega) (by omega)
  obtain⟨p1,p2⟩:=insertionSort_holds (lt:=(BF cf)) hS u a' b' hab' (by omega);refine KK ?_;refine AOps.o4 (h:=(hs ..)) (k:=?_);refine JC ?_;exact CH [(X,_)] ⟨_,hG _ p1 p2,rfl,rfl⟩
 have hl12:12<l:=by have:=AU hc;omega
 refine KK ?_;refine AC rfl (λhc=>?_) (λhc=>?_)
 ·have hs:=dS f cap cf hst hcf X n u a' b' (by omega) (by omega) (by omega) (by omega)
  obtain⟨p1,p2⟩:=heapSort_holds (lt:=(BF cf)) hS u a' b' hab' (by omega);refine KK ?_;refine AOps.o4 (h:=(hs ..)) (k:=?_);refine JC ?_;exact CH [(X,_)] ⟨_,hG _ p1 p2,rfl,rfl⟩
 have hl0:0<limit:=by have:=AU hc;omega
 refine KK ?_;refine DR (λb:Nat×Array Item=>b.1<=1000/\PermIn a' b' u b.2) (λb=>⟨[(0,.sl X 0 n),(1,iA a'),(2,iA b'),(3,iA b.1),(4,.fn f cap),(10,bA wb),(11,bA wp),(12,iA l)],(X,.row 83 3 (b.2.toList.map (AQ false)))::Sf⟩) ?_ ?_
 ·refine AC rfl (λhd=>?_) (λhd=>?_)
  ·have hs:=gq (f:=f) (cap:=cap) X n u a' b' (by omega) hab' (by omega) (by omega)
   refine KK ?_;refine fC hs λv hv=>?_;(iterate 4 refine WK ?_);refine AOps.p (CB (((limit-1:Nat):Int)) (by omega) (by omega) rfl rfl) rfl ?_;refine KK ?_;exact jn (limit-1,v) ⟨by dsimp only;omega,hv⟩
  ·refine WK ?_
   exact jn (limit,u) ⟨hlim,permIn_refl _ _ _⟩
 rintro⟨lim1,u1⟩ ⟨hlim1,hP1⟩;dsimp only at hlim1 hP1⊢;have hu1:u1.size=d.size:=hP1.1.trans hu;have hpv:=PE f cap cf hst hcf X n u1 a' b' (by omega) (by omega) (by omega) (by omega);obtain⟨c1,c2⟩:=choosePivot_holds (BF cf) u1 a' b' (by omega);obtain⟨⟨p,h⟩,hp⟩:=nm (choosePivot (BF cf) u1 a' b');rw[hp]at hpv c1 c2;dsimp only at hpv c1 c2;obtain⟨hnum,hhn⟩:=nm (ig h);rw[hhn]at hpv;refine KK ?_;refine AOps.o4 (h:=(hpv ..)) (k:=?_);refine KK ?_;refine DR (λb:Nat×Int×Array Item=>a' <=b.1/\b.1<b' /\PermIn a' b' u b.2.2) (λb=>⟨[(0,.sl X 0 n),(1,iA a'),(2,iA b'),(3,iA lim1),(4,.fn f cap),(10,bA wb),(11,bA wp),(12,iA l),(13,iA b.1),(14,iA b.2.1)],(X,.row 83 3 (b.2.2.toList.map (AQ false)))::Sf⟩) ?_ ?_
 ·refine AC rfl (λhd=>?_) (λhd=>?_)
  ·have hs:=fa (f:=f) (cap:=cap) X n u1 a' b' (by omega) (by omega) (by omega) (by omega)
   have hrp:=reverseRange_holds u1 a' b' hab' (by omega);(repeat first|(refine Bm ?_;first|(refine Bq ?_;first|refine AOps.o4 (h:=(hs ..)) (k:=?_))|refine AOps.p (CB (((b'-1:Nat):Int)) (by omega) (by omega) rfl rfl) rfl ?_|refine AOps.p (CB (((p-a':Nat):Int)) (by omega) (by omega) rfl rfl) rfl ?_|refine AOps.p (CB (((b'-1-(p-a'):Nat):Int)) (by omega) (by omega) rfl rfl) rfl ?_)|refine WK ?_|refine Ai λX=>?_|refine Ay λY=>?_);exact jn (b'-1-(p-a'),1,_) ⟨by dsimp only;omega,by dsimp only;omega,permIn_trans _ _ _ _ _ hP1 hrp⟩
  ·refine WK ?_
   exact jn (p,hnum,u1) ⟨c1,c2,hP1⟩
 rintro⟨pv,hn2,u2⟩ ⟨c3,c4,hP2⟩;dsimp only at c3 c4 hP2⊢;have hu2:u2.size=d.size:=hP2.1.trans hu;have hB2:=hB'.perm (by omega) hP2;clear hpv hp hhn c1 c2 p h hnum;refine FO ?_;refine OU (λv:Array Item=>PermIn a' b' u v) (λv=>⟨[(0,.sl X 0 n),(1,iA a'),(2,iA b'),(3,iA lim1),(4,.fn f cap),(10,bA wb),(11,bA wp),(12,iA l),(13,iA pv)],(X,.row 83 3 (v.toList.map (AQ false)))::Sf⟩) ?_ ?_
 ·refine KK ?_
  refine AC rfl (λ_=>?_) (λ_=>?_)
  ·have hs:=cX f cap cf hst hcf X n u2 a' b' (by omega) (by omega) (by omega) (by omega)
   have hpi:=partialInsertionSort_holds (lt:=(BF cf)) hS u2 a' b' (by omega) (by omega) hB2;obtain⟨⟨v,fl⟩,hv⟩:=nm (partialInsertionSort (BF cf) u2 a' b');rw[hv]at hs hpi;dsimp only at hs hpi;refine KK ?_;refine AOps.o4 (h:=(hs ..)) (k:=?_);refine KK ?_;refine AC rfl (λhe=>?_) (λhe=>?_)
   ·refine RT ?_
    exact CH [(X,_)] ⟨v,hG v (permIn_trans _ _ _ _ _ hP2 hpi.1) (hpi.2 he),rfl,rfl⟩
   ·refine KK ?_
    exact jnR v (permIn_trans _ _ _ _ _ hP2 hpi.1)
  ·refine KK ?_
   exact jnR u2 hP2
 rintro u3 hP3;have hu3:u3.size=d.size:=hP3.1.trans hu;have hB3:=hB'.perm (by omega) hP3;have hg3:∀R,PermIn a' b' u3 R->SortedIn (BF cf) a' b' R->PermIn a b d R/\SortedIn (BF cf) a b R:=λR h1 h2=>hG R (permIn_trans _ _ _ _ _ hP3 h1) h2
 clear hB2 hP2 hu2 u2 hP1 hu1 u1 hG hB' hn2;refine FO ?_;refine OU (λ_:Unit=>True) (λ_=>⟨[(0,.sl X 0 n),(1,iA a'),(2,iA b'),(3,iA lim1),(4,.fn f cap),(10,bA wb),(11,bA wp),(12,iA l),(13,iA pv)],(X,.row 83 3 (u3.toList.map (AQ false)))::Sf⟩) ?_ ?_
 ·rcases BI (decide ((0:Int)<(a':Int)))with g|g
  ·have hg:0<a':=by have:=AM g;omega
   have h1:=CR (AQ false) (d:=u3) (i:=a'-1) (by omega);have h2:=CR (AQ false) (d:=u3) (i:=pv) (by omega);have hl2:=hcf (u3[a'-1]!) (u3[pv]!);(repeat refine WF ?_);refine RU ?_;(iterate 6 refine RK ?_);refine BT ?_ (CB (((a'-1:Nat):Int)) (by omega) (by omega) rfl rfl);refine KR ?_;refine Gy (h:=(hl2 ..)) (k:=?_);(iterate 3 refine RK ?_);refine RGo.nil (by kernel_rfl) ?_;(repeat refine WF ?_);refine AC rfl (λhd=>?_) (λhd=>?_)
   ·have hd:(!(BF cf) u3[a'-1]! u3[pv]!)=true:=by simpa[g,BF]using hd
    have hd:(BF cf) u3[a'-1]! u3[pv]! =false:=by simpa[BF]using hd
    have hs:=fx f cap cf hst hcf X n u3 a' b' pv (by omega) c3 c4 (by omega) (by omega);obtain⟨⟨mid,d4⟩,hx⟩:=nm (partitionEqual (BF cf) u3 a' b' pv);rw[hx]at hs;dsimp only at hs;obtain⟨q1,q2,q3,q4,q5⟩:=round_eq (lt:=(BF cf)) hS (partitionEqual_holds (BF cf)) hg c3 c4 (by omega) hB3 hd hx;refine KK ?_;refine Nt (h:=(hs ..)) (k:=?_);refine KK ?_;refine P6 mid b' lim1 wb wp d4 ⟨q2,hb',by omega,hlim1,q3.trans hu3,q4,λR k1 k2=>?_⟩;obtain⟨k3,k4⟩:=q5 R k1 k2;exact hg3 R k3 k4
   ·refine KK ?_
    exact jnR () CZ
  ·(repeat refine WF ?_)
   refine RU ?_;(iterate 17 refine RK ?_);refine RGo.nil (by kernel_rfl) ?_;(repeat refine WF ?_);refine AB rfl (by simp[g]) ?_;refine KK ?_;exact jnR () CZ
 rintro _ _;have hs:=cb f cap cf hst hcf X n u3 a' b' pv (by omega) c3 c4 (by omega) (by omega);obtain⟨⟨mid,ap,d4⟩,hx⟩:=nm (partition (BF cf) u3 a' b' pv);rw[hx]at hs;dsimp only at hs;obtain⟨r1,r2,r3,r4,r5,r6,r7⟩:=round_part (lt:=(BF cf)) hS (partition_holds (BF cf)) c3 c4 (by omega) hB3 hx;(repeat first|(refine Bm ?_;first|(refine Bq ?_;first|refine Nt (h:=(hs ..)) (k:=?_))|refine AOps.p (CB (((mid-a':Nat):Int)) (by omega) (by omega) rfl rfl) rfl ?_|refine AOps.p (CB (((b'-mid:Nat):Int)) (by omega) (by omega) rfl rfl) rfl ?_|refine AOps.p (Li l 8 (l/8) rfl rfl (by omega) rfl (by omega) rfl rfl) rfl ?_)|refine WK ?_|refine Ai λX=>?_|refine Ay λY=>?_);refine AC rfl (λhd=>?_) (λhd=>?_)
 ·have hrec:=ih (mid-a') (by omega) X n d4 a' mid lim1 (AT _) (by omega) r1 (by omega) (by omega) hlim1 r4
  refine KK ?_;refine WJ hrec λv hv=>?_;(iterate 4 refine WK ?_);refine AOps.p (Cc (((mid+1:Nat):Int)) (by omega) (by omega) rfl rfl) rfl ?_;refine KK ?_;obtain⟨v1,v2⟩:=hv;obtain⟨s1,s2⟩:=r6 v v1 v2;refine P6 (mid+1) b' lim1 _ ap v ⟨by omega,hb',by omega,hlim1,v1.1.trans (r3.trans hu3),s1,λR k1 k2=>?_⟩;obtain⟨k3,k4⟩:=s2 R k1 k2;exact hg3 R k3 k4
 ·have hrec:=ih (b'-(mid+1)) (by omega) X n d4 (mid+1) b' lim1 (AT _) (by omega) (by omega) (by omega) (by omega) hlim1 r5
  (iterate 11 refine WK ?_);refine AOps.p (Cc (((mid+1:Nat):Int)) (by omega) (by omega) rfl rfl) rfl ?_;refine KK ?_;refine WJ hrec λv hv=>?_;refine KK ?_
  obtain⟨v1,v2⟩:=hv;obtain⟨s1,s2⟩:=r7 v v1 v2;refine P6 a' mid lim1 _ ap v ⟨by omega,by omega,by omega,hlim1,v1.1.trans (r3.trans hu3),s1,λR k1 k2=>?_⟩;obtain⟨k3,k4⟩:=s2 R k1 k2;exact hg3 R k3 k4
end
section
open Go.Sort
theorem Ta(f:FuncId)(cap:List AV)(cf:Item->Item->Int)(hst:Dw cap=true)(hS:SWO (BF cf))(hf:∀x y,PS prog f (AQ false x::AQ false y::cap) (iA (cf x y)))(X n:Nat)(l:List Item)(hn:n=l.length)(hlt:l.length<65536):
  Spec prog 59 [.sl X 0 n,.fn f cap] [(X,.row 83 3 (l.map (AQ false)))] λr S'=>∃u:List Item,(u.Perm l/\u.Pairwise λa b=>BF cf b a=false)/\r= .tup []/\S'=[(X,.row 83 3 (u.map (AQ false)))]:=by
 have e1:(UInt64.ofNat n).toNat=n:=by rw[Ax];omega
 have hlen:=XK (UInt64.ofNat n) (by rw[e1];omega);rw[e1]at hlen;have hsz:l.toArray.size=l.length:=by simp
 have hb:bitsLen n<=1000:=Bh ((bitsLen_le_iff n 16).2 (by show n<65536;omega)) (by decide);have hs:=fy f cap cf hst hf hS n X n l.toArray 0 n (bitsLen n) (by omega) (by omega) (Ap _) (by omega) (by omega) hb (.inl rfl);simp only[List.toList_toArray]at hs;refine Sp (nt:=14) (res:=[]) func59 λSf=>?_
 (iterate 11 refine WK ?_);refine AOps.p (Ge .i64 n rfl (by omega) (by kernel_rfl) (by kernel_rfl) rfl) rfl ?_;refine BE (h:=(hlen ..)) (k:=?_);refine WK ?_;refine iS [] (h:=hs) (λu hu=>?_);refine WK ?_
 refine Eo ?_;obtain⟨h1,h2⟩:=hu;have h1':PermIn 0 l.toArray.size l.toArray u:=by rw[hsz,<-hn];exact h1
 have hus:n=u.size:=by rw[h1'.1,hsz];exact hn
 exact CH [(X,_)] ⟨u.toList,⟨by simpa using Oa h1',ML hus h2⟩,rfl,rfl⟩
end
theorem ZL(x y:Item):PS prog 60 [AQ false x,AQ false y] (iA (FU x.ent.n y.ent.n)):=by
 have h:=I3 x.ent.n y.ent.n;obtain⟨⟨xn,xg⟩,xc⟩:=x;obtain⟨⟨yn,yg⟩,yc⟩:=y;refine Sp (nt:=12) (res:=[.tmp 4]) func60 λSf=>?_
 refine RG ?_;refine Bt ?_;refine Bt ?_;refine JB ?_;refine JL ?_;refine BO (h:=(h ..)) (k:=?_);refine JB ?_;refine RT ?_;refine Ah ?_;rfl
theorem eO{P:Program}{ty:TypeId}{pos:String}{after:Array Edge}{dst:Option Tmp}{c:Option (List Bool)}{g:Option (Nat×Bool)}{T:List (Nat×AV)}{S:List AR}{x0:Operand}{v0:AV}{f:FuncId}{ats:Array TypeId}{r v:AV}[hf:Frz r v](h0:Rd c T x0 v0)(h:PS P f [v0] r)(ht:Bi [(x0,v0)]=true):Stp c P ⟨dst,.call ⟨.value (.func f),#[x0],ats⟩,ty,pos,after,g⟩ T S [(x0,v0)] [] v []:=hf.h▸W.call1 h0 h ht
theorem Pe(t:Tab):(EB t).length=t.es.length:=AD _
theorem Zh(h:i<t.es.length):(EB t)[i]?=some ⟨t.es[i].2,BH t t.es[i].1⟩:=by
 rw[EB,Ac,AX h];rfl
theorem Xs(a:Ar)(ha:ArOK a)(hne:If a.ts)(hk16:a.kinds.length<=16)(hkf:∀k∈a.kinds,k.fields.length<=8)(hgl:a.gens.length<=256)(hcv:∀it∈B5 a.ts,CsL it.comps):
  Spec prog 17 [.ptr a.A 0 0] (arS a) λr S'=>∃L:List Item,(L.Perm (B5 a.ts)/\L.Pairwise λx y=>x.ent.n<=y.ent.n)/\r=wdA false ⟨a.kinds,a.gens,L⟩/\S'=arS a:=by
 have hkp:=LW a.kinds (by omega) (λk hk=>by have:=hkf k hk;omega);have hcl:=Qv a.G a.gens a.gens.length rfl (by omega);have htl:=ha.ts_le hne;have hpt:(ptrs Tab.X a.ts).length=a.ts.length:=AD _;refine Sp (nt:=51) (res:=[.cell 2 26]) func17 λSf=>?_
 refine JG ?_;refine Ai λZ=>?_;refine NL ?_
 refine FL ?_;refine CN λV=>?_
 refine JN ?_;refine K7 (h:=(hkp ..)) (k:=?_);refine KR ?_;refine UN hcl .fz ?_;(iterate 3 refine RK ?_);refine RGo.nil (by kernel_rfl) ?_;refine FL ?_;refine CM (Y:=V) 83 3 (by exact Az) (λI=>.cons (.agg (.s (.s (.cons (.base .nil) .nil)))) .nil) λI=>?_
 refine JH ?_;refine ET (λ(j I:Nat) (its:List Item)=>⟨[(2,.ptr Z 0 0),(3,.ptr V 0 0),(22,.sl a.Tb 0 a.ts.length),(23,iA (a.ts.length:Nat)),(24,iA j)],(I,.row 83 3 (its.map (AQ false)))::(V,.row 26 3 [.agg [BZ false false a.kinds,Av false a.gens,.sl I 0 its.length]])::(Z,.row 26 3 [.agg [.prim (.slice none 0 0),.prim (.slice none 0 0),.prim (.slice none 0 0)]])::(arS a++Sf)⟩) (λj _ its=>j<=a.ts.length/\its=B5 (a.ts.take j)) (λj _ _=>a.ts.length-j) 0 I [] ⟨by omega,rfl⟩ ?_;rintro j I its ⟨hj,hits⟩;refine JH ?_;refine AC rfl (λh=>?_) (λh=>?_)
 ·have h:j<a.ts.length:=by rw[AS]at h;omega
  obtain⟨l1,l2,hsp,hl1⟩:=KB h;have htm:=As h;have hto:=ha.tab _ htm;have hten:=ha.ent _ htm;have hat:(ptrs Tab.X a.ts)[j]?=some (.ptr a.ts[j].X 0 0):=DK _ h
  have hnext:B5 (a.ts.take (j+1))=its++EB a.ts[j]:=by
   rw[Aw h,D8,<-hits,EO];simp[B5]
  have hcvt:∀it∈EB a.ts[j],CsL it.comps:=λit hi=>hcv it (CG.2 ⟨_,htm,hi⟩)
  have hbnd:its.length+(EB a.ts[j]).length<=256:=by
   have h1:=ha.c_le;rw[ha.cnt,ha.keys_items,AD]at h1
   have h2:B5 a.ts=its++EB a.ts[j]++B5 l2:=by
    conv=>lhs;rw[hsp]
    rw[D8,EO,hits,<-Aq]
    have:l1=a.ts.take j:=by
     have:=Dh (List.take j) hsp;rw[D4 hl1]at this;exact this.symm
    rw[this]
   rw[h2,AJ,AJ]at h1;omega
  obtain⟨t,ht⟩:=nm (a.ts[j]);rw[ht]at hsp hto hten hat hnext hcvt hbnd;obtain⟨Z2,hZ2⟩:=nm (Cl l1++(Cl l2++Sf));have hop:=GO (l1:=l1) (l2:=l2) (t:=t) Sf;rw[<-hsp,hZ2]at hop;refine JD ?_;refine Ad ?_ (W.idx rfl rfl (by exact Az) rfl (by omega) (Ao _));refine KO ?_;refine Ai λP5=>?_;refine JB ?_
  refine FL ?_;refine AWP.perm (S':=(I,.row 83 3 (its.map (AQ false)))::(P5,.row 117 1 [.ptr t.X 0 0])::(V,.row 26 3 [.agg [BZ false false a.kinds,Av false a.gens,.sl I 0 its.length]])::(IP t++((Z,.row 26 3 [.agg [.prim (.slice none 0 0),.prim (.slice none 0 0),.prim (.slice none 0 0)]])::(arH a++Z2)))) ?_ ?_
  ·refine(En _ _ _).trans (A9 _ (A9 _ (A9 _ ?_)))
   have h1:=hop.append_left ((Z,AO.row 26 3 [.agg [.prim (.slice none 0 0),.prim (.slice none 0 0),.prim (.slice none 0 0)]])::arH a);refine(C8 ?_).trans (h1.trans (EG ((Z,AO.row 26 3 [.agg [.prim (.slice none 0 0),.prim (.slice none 0 0),.prim (.slice none 0 0)]])::arH a) (IP t) Z2));rw[arS];simp only[CT,Bz]
  have hal:=gy t.ek t.es hto.es;have hI:=eC (Am t.es) (t.es.map (·.2)) (by simp) (by have:=hto.es.len;rw[AD];omega);refine RG ?_;(iterate 4 refine WO ?_);refine ZD [_,_,_,_] hal ?_;refine NL ?_;refine FL ?_;refine X4 (Sf:=(Z,.row 26 3 [.agg [.prim (.slice none 0 0),.prim (.slice none 0 0),.prim (.slice none 0 0)]])::(arH a++Z2)) hI (λb:Nat×List Item=>(b.1,AO.row 83 3 (b.2.map (AQ false)))::(P5,.row 117 1 [.ptr t.X 0 0])::(V,.row 26 3 [.agg [BZ false false a.kinds,Av false a.gens,.sl b.1 0 b.2.length]])::IP t) (λi b=>b.2=its++(EB t).take i) (I,its) (by simp) ?_ ?_ rfl rfl rfl ?_ ?_
  ·rintro i vs ⟨I,is⟩ l F1 F2 hi hb
   dsimp only at hb
   have hn:i<t.es.length:=by
    have:=(AE.1 hi).1;simpa using this
   have hiv:[iA t.es[i].1,CI t.es[i].2]=vs:=by
    rw[Ac,AX (by simpa using hn),List.getElem_zip]at hi;simpa using hi
   subst hiv;have hem:=As hn;have hnk:t.es[i].1∈Am t.es:=Ag.2 ⟨_,hem,rfl⟩;have hnl:=hto.es.lt _ hnk;have hcs:=Vs t t.es[i].1 hto (by constructor<;>omega) hnk;have hti:=Zh hn;have hci:=hcvt _ (B0 hti);have hcc:=HO (BH t t.es[i].1) hci.1 hci.2;have hil:i<(EB t).length:=by rw[Pe];exact hn
   have hnx:is++[⟨t.es[i].2,BH t t.es[i].1⟩]=its++(EB t).take (i+1):=by
    rw[hb,EJ,hti,Aq];rfl
   have hisl:is.length<=256:=by rw[hb,AJ,Ba];omega
   obtain⟨⟨en,ee⟩,hee⟩:=nm (t.es[i]);rw[hee]at hcs hcc hnx;rw[hee];dsimp only at hcs hcc hnx⊢;obtain⟨lc,hlc⟩:=nm (BH t en);rw[hlc]at hcs hcc hnx;have hma:is.map (AQ false)++[AQ false ⟨ee,lc⟩]=(is++[(⟨ee,lc⟩:Item)]).map (AQ false):=by rw[AK];rfl
   have hml:is.length+[AQ false ⟨ee,lc⟩].length=(is++[(⟨ee,lc⟩:Item)]).length:=by rw[AJ];rfl
   refine JA ?_;refine JG ?_;refine Ai λE7=>?_;refine JB ?_
   refine⟨(E7,.row 32 2 [CI ee])::(I,.row 83 3 (is.map (AQ false)))::(P5,AO.row 117 1 [.ptr t.X 0 0])::(V,.row 26 3 [.agg [BZ false false a.kinds,Av false a.gens,.sl I 0 is.length]])::IP t,.refl _,?_⟩;refine FL ?_;refine CN λY=>?_
   (repeat refine WF ?_);refine AWP.region_runT 5 (by kernel_rfl) (by kernel_rfl) ?_;refine Eh ?_;refine Eh ?_;refine Eh ?_;refine Eh ?_;refine Eh ?_;refine RD (xs:=[(.tmp 38,.ptr t.X 0 0),(.tmp 39,iA en)]) (L:=[_,_,_,_,_]) (R:=F2) hcs (.fz (v:=B3 false false lc)) rfl (AT 5) (.cons rfl (.cons rfl .nil)) rfl rfl ?_;refine Eh (h:=eO (v:=B3 false false lc) rfl hcc rfl) ?_;refine Eh ?_;refine Eh (v:=.lst false 83 3 [AQ false ⟨ee,lc⟩]) (h:=W.litF1 (v0:=AQ false ⟨ee,lc⟩) rfl rfl (.inl rfl) (by decide) (by decide) rfl) ?_;refine No (h:=W.app (X:=I) (Y:=Y) rfl rfl (by exact Az) (by exact Az) (by rw[AD]) (by rw[AD];show(is.length+1)*40<=_;omega) (by rw[AD];unfold maxLen;show is.length+1<=_;omega) (by decide)) ?_;refine Eh ?_;refine No ?_;refine RGoT.nil (by kernel_rfl) ?_;rw[hma,hml];refine⟨(Y,.row 83 3 ((is++[(⟨ee,lc⟩:Item)]).map (AQ false)))::(P5,AO.row 117 1 [.ptr t.X 0 0])::(V,.row 26 3 [.agg [BZ false false a.kinds,Av false a.gens,.sl Y 0 (is++[(⟨ee,lc⟩:Item)]).length]])::IP t,?_,(Y,is++[(⟨ee,lc⟩:Item)]),hnx,rfl⟩;exact .cons _ (.cons _ (.refl _))
  ·rintro⟨I,is⟩ hb
   dsimp only at hb;have hxl:((Am t.es).zip (t.es.map (·.2))).length=t.es.length:=by simp
   rw[AD,hxl,<-Pe,Bg]at hb;refine FL ?_;refine AWP.perm (S':=(P5,.row 117 1 [.ptr t.X 0 0])::(I,.row 83 3 (is.map (AQ false)))::(V,.row 26 3 [.agg [BZ false false a.kinds,Av false a.gens,.sl I 0 is.length]])::(Z,.row 26 3 [.agg [.prim (.slice none 0 0),.prim (.slice none 0 0),.prim (.slice none 0 0)]])::(arS a++Sf)) ?_ ?_
   ·refine(En _ _ _).trans (A9 _ (A9 _ (A9 _ ?_)))
    have h1:=hop.append_left ((Z,AO.row 26 3 [.agg [.prim (.slice none 0 0),.prim (.slice none 0 0),.prim (.slice none 0 0)]])::arH a);refine MD (EG (IP t) ((Z,AO.row 26 3 [.agg [.prim (.slice none 0 0),.prim (.slice none 0 0),.prim (.slice none 0 0)]])::arH a) Z2) (h1.symm.trans (C8 ?_));rw[arS];simp only[CT,Bz]
   ·refine R1 ?_
    exact Cs (j+1) I is ⟨by omega,by rw[hb,hnext]⟩ (by omega)
  ·intro vs hvs
   obtain⟨q,_,rfl⟩:=Ag.1 hvs;rfl
  ·exact .refl _
 ·have h:j=a.ts.length:=by rw[AZ]at h;omega
  subst h;rw[Bg]at hits
  have hilen:its.length<=256:=by
   have h1:=ha.c_le;rw[ha.cnt,ha.keys_items,AD]at h1;rw[hits];omega
  have hso:=Ta 60 [] (λx y=>FU x.ent.n y.ent.n) rfl (TZ λx:Item=>x.ent.n) ZL I its.length its rfl (by omega);refine JI ?_;refine WO ?_;refine PW [] (h:=hso) (λu hu=>?_);refine NL ?_;obtain⟨hu1,hu2⟩:=hu;have hul:=hu1.length_eq
  have hF:AV.frzs (((u.map (AQ false)).drop 0).take its.length)=u.map (AQ false):=by
   rw[B7,Aj (by rw[AD];omega)];exact Frzs.h
  refine FL ?_;refine D7 (X:=I) (Y:=V) .here (.next .here) rfl (.cons (.agg (.s (.s (.cons (.base (.sl (by rw[AD];omega))) .nil)))) .nil) ?_;rw[hF];refine R1 ?_;refine RT ?_
  exact Ends.sp [wdA false ⟨a.kinds,a.gens,u⟩] (arS a) ⟨u,⟨by rw[<-hits];exact hu1,hu2.imp λ{x y} h=>by
   simp only[BF,AZ,Lf]at h;omega⟩,rfl,rfl⟩
abbrev dy(b:Bool)(l:List Bool):AV:=.lst b 4 1 (l.map bA)
theorem ArFor.sorted{w:Wd}(h:ArFor a w){L:List Item}(hp:L.Perm (B5 a.ts))(hs:L.Pairwise λx y=>x.ent.n<=y.ent.n):L=w.items:=by
 refine jm (le:=λx y=>x.ent.n<=y.ent.n) (λx y hx hy h1 h2=>?_) hs (h.wok.so.imp λh=>by omega) (hp.trans h.items);exact Ts (key:=λx:Item=>x.ent.n) h.wok.so ((hp.trans h.items).mem_iff.1 hx) hy (by omega)
theorem kd{d:List Bool}{i n:Nat}{b:Bool}(hd:d.length=i)(h:i<n):((d++List.replicate (n-i) false).map bA).set i (bA b)=((d++[b])++List.replicate (n-(i+1)) false).map bA:=by
 rw[<-BK]
 congr 1
 rw[Fv _ _ (by omega),hd,Co,show n-i=(n-(i+1))+1 by omega,IN,HE,Aq];rfl
structure CmdsL(ks:List Kind)(l:List Cmd):Prop where
 ok:∀c∈l,(F4 ks c).2=0
 n:∀c∈l,I64 c.ent.n
 l:∀c∈l,c.comps.length<=1099511627776
theorem bh{w v:Wd}{l:List Cmd}{c:Cmd}{es:List Ent}{ds:List Bool}(h:i<l.length)(hc:l[i]=c)(he:Gc w l=((Gc v (l.drop i)).1,es++(Gc v (l.drop i)).2.1,ds++(Gc v (l.drop i)).2.2)):
  Gc w l=((Gc (JZ v c).1 (l.drop (i+1))).1,(if(JZ v c).2.2=true/\c.act=3 then es++[(JZ v c).2.1]else es)++(Gc (JZ v c).1 (l.drop (i+1))).2.1,(ds++[(JZ v c).2.2])++(Gc (JZ v c).1 (l.drop (i+1))).2.2):=by
 rw[he,Dp h,hc,Gc];dsimp only;split
 ·simp
 ·simp
theorem bH(w:Wd)(l:List Cmd)(hw:WdOK w)(h12:w.kinds.length<=12)(hl:l.length<=131072)(hc:CmdsL w.kinds l):PS prog 201 [wdA false w,E1 false l] (.tup [wdA false (Gc w l).1,.lst true 32 2 ((Gc w l).2.1.map CI),dy true (Gc w l).2.2]):=by
 have hof:=j8 w hw;have hlm:(l.map ED).length=l.length:=AD _;refine Sp (nt:=58) (res:=[.cell 4 26,.tmp 5,.tmp 6]) func201 λSf=>?_
 refine RG ?_;refine Bt ?_;refine WO ?_;refine Ai λP=>?_;refine JE ?_
 refine JI ?_;refine ZG [_] hof λa ha=>?_;refine JE ?_;obtain⟨a1,a2,a3,a4,a5⟩:=ha;have hf:ArFor a w:=⟨a1,a2,a3,a4,a5,hw⟩;refine JF ?_;refine AB rfl rfl ?_;refine JA ?_;refine JG ?_;refine WO ?_;refine I9 (bA false) λK=>?_;refine JB ?_
 refine JA ?_;refine AWP.adopt (d:=9) 32 2 rfl λO=>?_
 refine ET (λ(i Y:Nat) (z:Ar×Wd×List Ent×List Bool)=>⟨[(2,.fp (wdA false w).cells),(4,.ptr P 0 0),(7,.ptr a.A 0 0),(9,.sl Y 0 z.2.2.1.length),(10,.sl K 0 (l.map ED).length),(26,E1 false l),(27,iA (l.map ED).length),(28,iA i)],(Y,.row 32 2 (z.2.2.1.map CI))::(K,.row 4 1 ((z.2.2.2++List.replicate (l.length-i) false).map bA))::(P,.row 26 3 [.agg [.prim (.slice none 0 0),.prim (.slice none 0 0),.prim (.slice none 0 0)]])::(arS z.1++Sf)⟩) (λi Y z=>i<=l.length/\ArFor z.1 z.2.1/\z.1.A=a.A/\z.2.1.kinds=w.kinds/\z.2.2.1.length<=i/\z.2.2.2.length=i/\Gc w l=((Gc z.2.1 (l.drop i)).1,z.2.2.1++(Gc z.2.1 (l.drop i)).2.1,z.2.2.2++(Gc z.2.1 (l.drop i)).2.2)) (λi _ _=>l.length-i) 0 O (a,w,[],[]) ⟨Ap _,hf,rfl,rfl,AT _,rfl,rfl⟩ ?_ (h0:=⟨by exact FE,by rw[hlm,HW,Bz,List.map_replicate];exact BL⟩);rintro i Y ⟨z,v,es,ds⟩ ⟨hi,hz,hzA,hvk,hes,hds,hrun⟩;dsimp only at hz hzA hvk hes hds hrun⊢;refine JH ?_;refine AC rfl (λhb=>?_) (λhb=>?_)
 ·have h:i<l.length:=by rw[AS,hlm]at hb;omega
  obtain⟨c,hcc⟩:=nm (l[i]);have hcm:c∈l:=by rw[<-hcc];exact As h
  have hat:(l.map ED)[i]?=some (ED c):=by rw[Ac,AX h,hcc];rfl
  have hact:=jY hz (by rw[hvk];exact h12) c (by rw[hvk];exact hc.ok c hcm) (hc.n c hcm) (hc.l c hcm);have hnx:=bh h hcc hrun;obtain⟨⟨v2,x,ok⟩,hv2⟩:=nm (JZ v c);rw[hv2]at hact hnx;dsimp only at hact hnx;have hnl:i<((ds++List.replicate (l.length-i) false).map bA).length:=by rw[AD,AJ,Dr];omega
  have hset:=kd (b:=ok) hds h
  have hvk2:v2.kinds=w.kinds:=by
   have:=(Yy hz.wok (c:=c) (by rw[hvk];exact hc.ok c hcm)).2;rw[hv2]at this;exact this.trans hvk
  rw[<-hzA];refine JL ?_;refine Ai λC=>?_;refine JE ?_
  refine JI ?_;refine WO ?_;refine PW [_,_,_,_] hact λb hb2=>?_;refine KO ?_;refine Ai λV=>?_;refine JE ?_
  obtain⟨hb1,hb2⟩:=hb2;refine JF ?_;dsimp only[BA,List.set_cons_zero,List.set_cons_succ,CT,Bz];rw[hset];refine FL ?_;have hEl:(es.map CI).length=es.length:=AD _;cases ok with
  |false=>
   rw[AI (by simp)]at hnx;refine R1 ?_;refine AB rfl rfl ?_;refine JF ?_;exact Cs (i+1) Y (b,v2,es,ds++[false]) ⟨h,hb1,hb2,hvk2,by dsimp only;omega,by rw[AJ,hds];rfl,hnx⟩ (by omega)
  |true=>
   refine R1 ?_;refine AC rfl (λh3=>?_) (λh3=>?_)
   ·have h3:c.act=3:=AM h3
    rw[Ab ⟨rfl,h3⟩]at hnx;refine FL ?_;have hb1':(es.map CI).length+1<=1099511627776:=by omega
    refine JG ?_;refine WO ?_;refine Dq (CI x) ?_;refine WO ?_;refine Ay λY=>?_;refine JB ?_
    refine FL ?_;dsimp only[BA,List.set_cons_zero,List.set_cons_succ,CT,Bz];have hm1:es.map CI++[CI x]=(es++[x]).map CI:=by rw[AK];rfl
    have hm2:es.length+[CI x].length=(es++[x]).length:=by rw[AJ];rfl
    rw[hm1,hm2];refine R1 ?_;exact Cs (i+1) Y (b,v2,es++[x],ds++[true]) ⟨h,hb1,hb2,hvk2,by rw[AJ];show es.length+1<=i+1;omega,by rw[AJ,hds];rfl,hnx⟩ (by omega)
   ·have h3:¬c.act=3:=AU h3
    rw[AI (λe=>h3 e.2)]at hnx;refine JF ?_;exact Cs (i+1) Y (b,v2,es,ds++[true]) ⟨h,hb1,hb2,hvk2,by dsimp only;omega,by rw[AJ,hds];rfl,hnx⟩ (by omega)
 ·have h:i=l.length:=by rw[AZ,hlm]at hb;omega
  subst h;rw[CY]at hrun;simp only[Gc,A8]at hrun;have hkk:=CQ hz.wok.ks;have har:=Xs z hz.ok hz.ne (by rw[hz.kinds];exact hkk.1) (λk hk=>(GB (hkk.2 k (by rw[<-hz.kinds];exact hk))).2.1) (by rw[hz.gens];exact hz.wok.gl) (λit hit=>(hz.wok.wl.items.2 it (hz.items.mem_iff.1 hit)));rw[<-hzA];refine JI ?_;refine ZG [_,_,_] har λL hL=>?_;refine JE ?_;have hLe:=hz.sorted hL.1 hL.2;refine RT ?_;rw[hrun];have hv:(⟨z.kinds,z.gens,L⟩:Wd)=v:=by rw[hz.kinds,hz.gens,hLe]
  rw[hv,Co,List.replicate_zero,A8];dsimp only[BA,List.set_cons_zero,List.set_cons_succ,CT,Bz];exact Cp [wdA false v,.sl Y 0 es.length,.sl K 0 (l.map ED).length] [wdA false v,.lst true 32 2 (es.map CI),dy true ds] (.cons (.cell .same) (.cons (.cell (.sl (p:=0) .here (by rw[AD]))) (.cons (.cell (.sl (p:=0) .here (by rw[hlm,AD,hds]))) .nil))) (hS:=by repeat (first|exact ID _ _|apply J3))
theorem eA(w:Wd)(l:List Cmd)(hw:WdOK w)(h12:w.kinds.length<=12)(hl:l.length<=131072)(hc:CmdsL w.kinds l):PS prog 139 [wdA false w,E1 false l] (.tup [wdA false (Gc w l).1,Qo (Gc w l).2.1,iA 0]):=by
 have hck:=Vx w l hw.wl h12 (by omega) hc.l;rw[cmdErr_iff.2 ⟨hw,hl,hc.ok⟩]at hck;have hrn:=bH w l hw h12 hl hc;refine Sp (nt:=27) (res:=[.cell 4 26,.tmp 5,.tmp 6]) func139 λSf=>?_
 refine RG ?_;refine Bt ?_;refine WO ?_;refine Ai λP=>?_;refine JE ?_
 refine JL ?_;refine BO (h:=(hck ..)) (k:=?_);refine JB ?_;refine JF ?_;refine AB rfl rfl ?_;refine JL ?_;refine BO (h:=(hrn ..)) (k:=?_);refine KO ?_;refine Ai λV=>?_;refine JE ?_
 refine JM ?_;exact K9 (rs:=[wdA false (Gc w l).1,Qo (Gc w l).2.1,iA 0]) rfl
def HJ(s:List UInt8):List Int:=(s.length:Int)::s.map λb=>(b.toNat:Int)
abbrev W9(l:List Int):AO:=.row 22 1 [Av true l]
theorem cq{s:List UInt8}(h:i<s.length):(HJ s).take (i+2)=(HJ s).take (i+1)++[((s.getD i 0).toNat:Int)]:=by
 have hn:i+1<(HJ s).length:=by simp[HJ];omega
 rw[Aw hn]
 congr 2
 simp[HJ,Ct,h]
theorem Of(X:Nat)(l:List Int)(s:List UInt8)(hl:(l++HJ s).length*8<=140737488351232):PO prog 99 [sA s,.ptr X 0 0] X (W9 l) (.tup []) (W9 (l++HJ s)):=by
 refine Sp (nt:=22) (res:=[]) func99 λSf=>?_
 have hnl:(HJ s).length=s.length+1:=by simp[HJ]
 rw[AJ,hnl]at hl;refine Es .here (λY=>.head .here) λK=>?_
 have hb:((l.map iA).length+[iA (s.length:Int)].length)*8<=140737488355328:=by simp;omega
 (iterate 5 refine WK ?_);refine Dq (iA (s.length:Int)) ?_;refine WK ?_;refine Ay λY=>?_;refine KK ?_
 refine FP (λ(i K n:Nat) (M:List AV)=>⟨[(0,sA s),(1,.ptr X 0 0),(10,iA s.length),(11,iA i)],(K,.row 3 1 M)::(X,.row 22 1 [.sl K 0 n])::Sf⟩) (λi _ n M=>i<=s.length/\n=M.length/\M=(l++(HJ s).take (i+1)).map iA) (λi _ _ _=>s.length-i) 0 Y _ _ ⟨Ap _,?_,?_⟩ ?_
 ·simp
 ·rw[AK];rfl
 rintro i K n M ⟨hi,hn,hM⟩;refine KK ?_;refine AC rfl (λhc=>?_) (λhc=>?_)
 ·have h:i<s.length:=by rw[AS]at hc;omega
  have hMl:n=l.length+(i+1):=by rw[hn,hM,AD,AJ,Ba,hnl];omega
  have hb:(n+[iA ((s.getD i 0).toNat:Int)].length)*8<=140737488355328:=by simp;omega
  refine KK ?_;refine CN λY=>?_
  have hw:IntKind.i64.wrap ((s.getD i 0).toNat:Int)=((s.getD i 0).toNat:Int):=GN (by omega) (by have:=(s.getD i 0).toNat_lt;omega);refine RU ?_;(iterate 4 refine RK ?_);refine RGo.p (W.conv .u8 .i64 (by kernel_rfl) (by kernel_rfl) rfl hw) rfl ?_;refine H1 (iA ((s.getD i 0).toNat:Int)) ?_;refine JK ?_;refine RGo.nil (by kernel_rfl) ?_;refine KK ?_;refine DH (i+1) Y _ _ ⟨h,?_,?_⟩
  ·rw[AJ,<-hn]
  ·rw[cq h,hM,<-Aq,AK (l₂:=[_])];rfl
 ·have h:i=s.length:=by rw[AZ]at hc;omega
  subst h;rw[Aj (by omega)]at hM;subst hM;refine Dm (X:=K) .here (.next .here) rfl hn (.head .here) ?_;refine KK ?_;refine Eo ?_;exact CH [(X,W9 (l++HJ s))] ⟨rfl,rfl⟩
def Jv(f:Field):List Int:=HJ f.name++[f.bits,f.low]
def Oe(k:Kind):List Int:=HJ k.name++(k.fields.length:Int)::k.fields.flatMap Jv
def Ok(c:Comp):List Int:=c.kind::(c.vals.length:Int)::c.vals
def LX(it:Item):List Int:=it.ent.n::it.ent.gen::(it.comps.length:Int)::it.comps.flatMap Ok
def Ju(w:Wd):List Int:=(w.kinds.length:Int)::(w.kinds.flatMap Oe++((w.gens.length:Int)::(w.gens++((w.items.length:Int)::w.items.flatMap LX))))
theorem Yo{α:Type}{f:α->List Int}{l:List α}{x:α}(h:i<l.length)(e:l[i]=x):(l.drop i).flatMap f=f x++(l.drop (i+1)).flatMap f:=by
 rw[Dp h,e,Bj]
theorem Rz{A B R:List Int}(hl:R.length*8<=140737488351232)(e:A++B=R):A.length*8<=140737488351232:=by
 have:A.length+B.length=R.length:=by rw[<-e,AJ]
 omega
theorem gJ(w:Wd)(hl:(Ju w).length*8<=140737488351232)(hw:WdL w):PS prog 38 [wdA false w] (Av true (Ju w)):=by
 obtain⟨R,hR⟩:=nm (Ju w);have hin:=hR;unfold Ju at hin;rw[hR]at hl⊢;obtain⟨ks,gens,items⟩:=w;obtain⟨⟨hk0,hk1⟩,hg,⟨hi0,hi1⟩⟩:=hw;dsimp only at hin hk0 hk1 hg hi0 hi1;obtain⟨tail,htail⟩:∃tail,((gens.length:Int)::(gens++((items.length:Int)::items.flatMap LX)))=tail:=⟨_,rfl⟩;rw[htail]at hin;refine Sp (nt:=112) (res:=[.tmp 2]) func38 λSf=>?_
 have hkm:(ks.map (Bd false)).length=ks.length:=AD _;have hgm:(gens.map iA).length=gens.length:=AD _;have him:(items.map (AQ false)).length=items.length:=AD _;refine RG ?_;refine Bt ?_;refine JB ?_;refine CN λK0=>?_
 refine RG ?_;(iterate 3 refine WO ?_);refine DO (W.lit1 (X:=K0) (l:=[iA ((ks.map (Bd false)).length:Int)]) (by exact rfl) (by exact Az) (by exact rfl) (by exact .inr rfl) (by decide) (by decide) (by exact rfl)) rfl ?_;refine WO ?_;refine Ai λX=>?_;refine JB ?_
 rw[hkm];refine Dm (X:=K0) (Y:=X) (.next .here) .here rfl rfl (.head .here) ?_;refine KK ?_;refine Cq (λ(i:Nat) (L:List Int)=>⟨[(1,.fp (wdA false ⟨ks,gens,items⟩).cells),(3,.ptr X 0 0),(4,.fn 99 [.ptr X 0 0]),(19,BZ false false ks),(20,iA (ks.map (Bd false)).length),(21,iA i)],(X,W9 L)::Sf⟩) (λi L=>i<=ks.length/\L++((ks.drop i).flatMap Oe++tail)=R) (λi _=>ks.length-i) 0 [(ks.length:Int)] ⟨Ap _,hin⟩ ?_;rintro i L ⟨hi,he⟩;refine KK ?_;refine AC rfl (λhc=>?_) (λhc=>?_)
 ·have h:i<ks.length:=by rw[AS,hkm]at hc;omega
  obtain⟨⟨kn,kf⟩,hk⟩:=nm (ks[i]);have hat:(ks.map (Bd false))[i]?=some (Bd false ⟨kn,kf⟩):=by rw[Ac,AX h,hk];rfl
  have hkl:=hk1 _ (hk▸As h);dsimp only at hkl;rw[Yo h hk,Oe,<-Aq,<-Aq,<-Aq]at he;have hkfm:(kf.map fieldA).length=kf.length:=AD _;dsimp only at he;have he1:(L++HJ kn)++([(kf.length:Int)]++(kf.flatMap Jv++((ks.drop (i+1)).flatMap Oe++tail)))=R:=by rw[<-he];simp
  have hcn:=Of X L kn (Rz hl he1);refine JJ ?_;refine Ai λV=>?_;refine JB ?_
  refine JJ ?_;refine WD hcn .frz ?_;refine NL ?_;obtain⟨L1,hL1⟩:=nm (L++HJ kn);rw[hL1]at he1⊢;have he2:(L1++[(kf.length:Int)])++(kf.flatMap Jv++((ks.drop (i+1)).flatMap Oe++tail))=R:=by rw[<-he1,Aq]
  refine Es (Y:=X) (.next .here) (λ_=>.head .here) λK=>?_
  have hb:((L1.map iA).length+([iA ((kf.map fieldA).length:Int)]).length)*8<=140737488355328:=by have:=Rz hl he2;simp at this⊢;omega
  refine RG ?_;(iterate 4 refine WO ?_);refine Dq (iA (kf.map fieldA).length) ?_;refine WO ?_;refine Ay λY=>?_;refine JB ?_
  have hrow:L1.map iA++[iA ((kf.map fieldA).length:Int)]=(L1++[(kf.length:Int)]).map iA:=by first|(rw[AK,hkfm];rfl)|rw[AK,hkfm]
  rw[hrow];clear hrow hb;refine Dm (X:=Y) (Y:=X) .here (.next (.next .here)) rfl (by simp) (.head .here) ?_;obtain⟨T2,hT2⟩:=nm ((ks.drop (i+1)).flatMap Oe++tail);rw[hT2]at he2;clear he he1 hcn hL1 hin;refine KK ?_;refine Cq (λ(j:Nat) (L:List Int)=>⟨[(1,.fp (wdA false ⟨ks,gens,items⟩).cells),(3,.ptr X 0 0),(4,.fn 99 [.ptr X 0 0]),(19,BZ false false ks),(20,iA (ks.map (Bd false)).length),(21,iA i),(36,GT false kf),(37,iA (kf.map fieldA).length),(38,iA j)],(X,W9 L)::Sf⟩) (λj L=>j<=kf.length/\L++((kf.drop j).flatMap Jv++T2)=R) (λj _=>kf.length-j) 0 (L1++[(kf.length:Int)]) ⟨Ap _,he2⟩ ?_;clear he2 L1 L;rintro j L ⟨hj,he⟩;refine KK ?_;refine AC rfl (λhd=>?_) (λhd=>?_)
  ·have h':j<kf.length:=by rw[AS,hkfm]at hd;omega
   obtain⟨⟨fn,fb,fl⟩,hf⟩:=nm (kf[j]);have hat2:(kf.map fieldA)[j]?=some (fieldA ⟨fn,fb,fl⟩):=by rw[Ac,AX h',hf];rfl
   rw[Yo h' hf,Jv]at he;dsimp only at he;have he1:(L++HJ fn)++([fb,fl]++((kf.drop (j+1)).flatMap Jv++T2))=R:=by rw[<-he];simp
   have hcn:=Of X L fn (Rz hl he1);refine JJ ?_;refine Ai λV2=>?_;refine JB ?_
   refine JJ ?_;refine WD hcn .frz ?_;refine NL ?_;obtain⟨L1,hL1⟩:=nm (L++HJ fn);rw[hL1]at he1⊢;have he2:(L1++[fb,fl])++((kf.drop (j+1)).flatMap Jv++T2)=R:=by rw[<-he1,Aq]
   refine Es (Y:=X) (.next .here) (λ_=>.head .here) λK=>?_
   have hb:((L1.map iA).length+([iA fb,iA fl]).length)*8<=140737488355328:=by have:=Rz hl he2;simp at this⊢;omega
   refine JJ ?_;refine Ay λY=>?_;refine JB ?_
   have hrow:L1.map iA++[iA fb,iA fl]=(L1++[fb,fl]).map iA:=by first|(rw[AK];rfl)|rw[AK]
   rw[hrow];clear hrow hb;refine Dm (X:=Y) (Y:=X) .here (.next (.next .here)) rfl (by simp) (.head .here) ?_;refine KK ?_;refine CA (j+1) _ ⟨h',he2⟩
  ·have h':j=kf.length:=by rw[AZ,hkfm]at hd;omega
   rw[h',CY]at he;refine KK ?_;refine CA (i+1) L ⟨h,by rw[hT2];exact he⟩
 clear hin;have h:i=ks.length:=by rw[AZ,hkm]at hc;omega
 rw[h,CY,<-htail]at he;clear h hc hi;have he2:(L++[(gens.length:Int)])++(gens++((items.length:Int)::items.flatMap LX))=R:=by rw[<-he];simp
 refine FL ?_;refine Es (Y:=X) .here (λ_=>.head .here) λK=>?_
 have hb:((L.map iA).length+([iA ((gens.map iA).length:Int)]).length)*8<=140737488355328:=by have:=Rz hl he2;simp at this⊢;omega
 refine RG ?_;(iterate 4 refine WO ?_);refine Dq (iA (gens.map iA).length) ?_;refine WO ?_;refine Ay λY=>?_;refine JB ?_
 have hrow:L.map iA++[iA ((gens.map iA).length:Int)]=(L++[(gens.length:Int)]).map iA:=by first|(rw[AK,hgm];rfl)|rw[AK,hgm]
 rw[hrow];clear hrow hb;refine Dm (X:=Y) (Y:=X) .here (.next .here) rfl (by simp) (.head .here) ?_;obtain⟨L1,hL1⟩:∃L1,L++[(gens.length:Int)]=L1:=⟨_,rfl⟩;rw[hL1]at he2⊢;have he3:(L1++gens)++((items.length:Int)::items.flatMap LX)=R:=by rw[<-he2,Aq]
 refine Es (Y:=X) (.next .here) (λ_=>.head .here) λK=>?_
 have hb:((L1.map iA).length+(gens.map iA).length)*8<=140737488355328:=by have:=Rz hl he3;simp at this⊢;omega
 refine JJ ?_;refine Ay λY=>?_;refine JB ?_
 have hrow:L1.map iA++gens.map iA=(L1++gens).map iA:=by first|(rw[AK];rfl)|rw[AK]
 rw[hrow];clear hrow hb;refine Dm (X:=Y) (Y:=X) .here (.next (.next .here)) rfl (by simp) (.head .here) ?_;obtain⟨L2,hL2⟩:=nm (L1++gens);rw[hL2]at he3⊢;have he4:(L2++[(items.length:Int)])++items.flatMap LX=R:=by rw[<-he3,Aq];rfl
 refine Es (Y:=X) (.next (.next .here)) (λ_=>.head .here) λK=>?_
 have hb:((L2.map iA).length+([iA ((items.map (AQ false)).length:Int)]).length)*8<=140737488355328:=by have:=Rz hl he4;simp at this⊢;omega
 refine RG ?_;(iterate 4 refine WO ?_);refine Dq (iA (items.map (AQ false)).length) ?_;refine WO ?_;refine Ay λY=>?_;refine JB ?_
 have hrow:L2.map iA++[iA ((items.map (AQ false)).length:Int)]=(L2++[(items.length:Int)]).map iA:=by first|(rw[AK,him];rfl)|rw[AK,him]
 rw[hrow];clear hrow hb;refine Dm (X:=Y) (Y:=X) .here (.next (.next (.next .here))) rfl (by simp) (.head .here) ?_;clear he he2 he3 hL1 hL2 htail hk0 hk1;refine KK ?_;refine Cq (λ(i:Nat) (L:List Int)=>⟨[(1,.fp (wdA false ⟨ks,gens,items⟩).cells),(3,.ptr X 0 0),(72,Km false false items),(73,iA (items.map (AQ false)).length),(74,iA i)],(X,W9 L)::Sf⟩) (λi L=>i<=items.length/\L++(items.drop i).flatMap LX=R) (λi _=>items.length-i) 0 (L2++[(items.length:Int)]) ⟨Ap _,he4⟩ ?_;clear he4 L2 L1 L;rintro i L ⟨hi,he⟩;refine KK ?_;refine AC rfl (λhc=>?_) (λhc=>?_)
 ·have h:i<items.length:=by rw[AS,him]at hc;omega
  obtain⟨⟨⟨en,eg⟩,cs⟩,hit⟩:=nm (items[i]);have hat:(items.map (AQ false))[i]?=some (AQ false ⟨⟨en,eg⟩,cs⟩):=by rw[Ac,AX h,hit];rfl
  have hcl:=hi1 _ (hit▸As h);dsimp only at hcl;obtain⟨hcl0,hcl1⟩:=hcl;have hcm:(cs.map (Ae false)).length=cs.length:=AD _;rw[Yo h hit,LX]at he;dsimp only at he;have he2:(L++[en,eg,(cs.length:Int)])++(cs.flatMap Ok++(items.drop (i+1)).flatMap LX)=R:=by rw[<-he];simp
  refine JJ ?_;refine Ai λV=>?_;refine JB ?_
  refine Es (Y:=X) (.next .here) (λ_=>.head .here) λK=>?_
  have hb:((L.map iA).length+([iA en,iA eg,iA ((cs.map (Ae false)).length:Int)]).length)*8<=140737488355328:=by have:=Rz hl he2;simp at this⊢;omega
  refine JJ ?_;refine Ay λY=>?_;refine JB ?_
  have hrow:L.map iA++[iA en,iA eg,iA ((cs.map (Ae false)).length:Int)]=(L++[en,eg,(cs.length:Int)]).map iA:=by first|(rw[AK,hcm];rfl)|rw[AK,hcm]
  rw[hrow];clear hrow hb;refine Dm (X:=Y) (Y:=X) .here (.next (.next .here)) rfl (by simp) (.head .here) ?_;obtain⟨T2,hT2⟩:=nm ((items.drop (i+1)).flatMap LX);rw[hT2]at he2;refine KK ?_;refine Cq (λ(j:Nat) (L:List Int)=>⟨[(1,.fp (wdA false ⟨ks,gens,items⟩).cells),(3,.ptr X 0 0),(72,Km false false items),(73,iA (items.map (AQ false)).length),(74,iA i),(91,B3 false false cs),(92,iA (cs.map (Ae false)).length),(93,iA j)],(X,W9 L)::Sf⟩) (λj L=>j<=cs.length/\L++((cs.drop j).flatMap Ok++T2)=R) (λj _=>cs.length-j) 0 _ ⟨Ap _,he2⟩ ?_;clear he2 he L;rintro j L ⟨hj,he⟩;refine KK ?_;refine AC rfl (λhd=>?_) (λhd=>?_)
  ·have h':j<cs.length:=by rw[AS,hcm]at hd;omega
   obtain⟨⟨ck,cv⟩,hf⟩:=nm (cs[j]);have hat2:(cs.map (Ae false))[j]?=some (Ae false ⟨ck,cv⟩):=by rw[Ac,AX h',hf];rfl
   have hvm:(cv.map iA).length=cv.length:=AD _;rw[Yo h' hf,Ok]at he;dsimp only at he;have he2:(L++[ck,(cv.length:Int)])++(cv++((cs.drop (j+1)).flatMap Ok++T2))=R:=by rw[<-he];simp
   refine JJ ?_;refine Ai λV2=>?_;refine JB ?_
   refine Es (Y:=X) (.next .here) (λ_=>.head .here) λK=>?_
   have hb:((L.map iA).length+([iA ck,iA ((cv.map iA).length:Int)]).length)*8<=140737488355328:=by have:=Rz hl he2;simp at this⊢;omega
   refine JJ ?_;refine Ay λY=>?_;refine JB ?_
   have hrow:L.map iA++[iA ck,iA ((cv.map iA).length:Int)]=(L++[ck,(cv.length:Int)]).map iA:=by first|(rw[AK,hvm];rfl)|rw[AK,hvm]
   rw[hrow];clear hrow hb;refine Dm (X:=Y) (Y:=X) .here (.next (.next .here)) rfl (by simp) (.head .here) ?_;obtain⟨L1,hL1⟩:∃L1,L++[ck,(cv.length:Int)]=L1:=⟨_,rfl⟩;rw[hL1]at he2⊢;have he3:(L1++cv)++((cs.drop (j+1)).flatMap Ok++T2)=R:=by rw[<-he2,Aq]
   refine Es (Y:=X) (.next (.next .here)) (λ_=>.head .here) λK=>?_
   have hb:((L1.map iA).length+(cv.map iA).length)*8<=140737488355328:=by have:=Rz hl he3;simp at this⊢;omega
   refine JJ ?_;refine Ay λY=>?_;refine JB ?_
   have hrow:L1.map iA++cv.map iA=(L1++cv).map iA:=by first|(rw[AK];rfl)|rw[AK]
   rw[hrow];clear hrow hb;refine Dm (X:=Y) (Y:=X) .here (.next (.next (.next .here))) rfl (by simp) (.head .here) ?_;refine KK ?_;refine CA (j+1) _ ⟨h',he3⟩
  ·have h':j=cs.length:=by rw[AZ,hcm]at hd;omega
   rw[h',CY]at he;refine KK ?_;refine CA (i+1) L ⟨h,by rw[hT2];exact he⟩
 ·have h:i=items.length:=by rw[AZ,him]at hc;omega
  rw[h,CY]at he;have he:L=R:=by simpa using he
  subst he;refine Es (Y:=X) .here (λ_=>.head .here) λK=>?_
  refine JC ?_;exact⟨[.sl K 0 (L.map iA).length],[Av true L],_,[],.cons (.tmp rfl) rfl .nil,.cons (.cell (.sl (p:=0) .here rfl)) .nil,by exact BL,rfl,rfl⟩
theorem Nb{α:Type}{f:α->List Int}{m:Nat}:∀{l:List α},(∀x∈l,(f x).length<=m)->(l.flatMap f).length<=l.length*m
 |[],_=>by simp
 |x::l,h=>by
  have h1:=h x (by simp);have h2:=Nb (f:=f) (m:=m) (l:=l) λy hy=>h y (by simp[hy])
  rw[Bj,AJ,Bl,C2];omega
theorem P1{s:List UInt8}(h:Dx s=true):s.length<=16:=by
 unfold Dx at h;simp only[AH,AS]at h;exact h.1.2
theorem Tz{w:Wd}(h:WdOK w):(Ju w).length<=65536:=by
 obtain⟨h16,ho⟩:=CQ h.ks
 have hf:∀f:Field,Dx f.name=true->(Jv f).length<=19:=λf hf=>by
  have:=P1 hf;simp[Jv,HJ];omega
 have hk:∀k∈w.kinds,(Oe k).length<=170:=λk hk=>by
  obtain⟨h1,h2,h3⟩:=GB (ho k hk);have:=P1 h1;have h4:=Nb (f:=Jv) (m:=19) (l:=k.fields) λf hfm=>hf f ((GU f).1 (h3 f hfm)).1
  simp only[Oe,HJ,AJ,Bl,AD];omega
 have hc:∀it∈w.items,(LX it).length<=163:=λit hit=>by
  obtain⟨h1,h2⟩:=Gx h.ks (h.it it hit).2.2.2.2;have h4:=Nb (f:=Ok) (m:=10) (l:=it.comps) λc hc=>by have:=h2 c hc;simp only[Ok,Bl];omega
  simp only[LX,Bl];omega
 have k1:=Nb hk;have k2:=Nb hc;have:=h.gl;have:=h.il;simp only[Ju,Bl,AJ];omega
theorem bE(w:Wd)(h:WdOK w):PS prog 86 [wdA false w] (uA (fU (Ju w))):=by
 have hs:=Tz h;have h1:=gJ w (by omega) h.wl;have h2:=fT (Ju w) (by omega);refine Sp (nt:=6) (res:=[.tmp 2]) func86 λSf=>?_
 refine RG ?_;refine Bt ?_;refine JB ?_;refine JG ?_;refine BE (h:=(h1 ..)) (k:=?_);refine BE (h:=(h2 ..)) (k:=?_);refine JB ?_;refine RT ?_;refine Ah ?_;rfl
end Go.Proofs.YtmkahplhnbbgmaaGreat
