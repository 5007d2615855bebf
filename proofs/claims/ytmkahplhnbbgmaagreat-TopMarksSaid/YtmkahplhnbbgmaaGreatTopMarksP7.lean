/-
  Part 7 of the texts under the law TopMarks: the layer of abstract values, walks and plain laws. Conditions: those that each theorem names.
-/
import Derived.Test.YtmkahplhnbbgmaaGreatTopMarksP6
namespace Go.Proofs.YtmkahplhnbbgmaaGreat
open Tryz
set_option linter.unusedVariables false
set_option linter.unusedSimpArgs false
set_option linter.defProp false
set_option maxRecDepth 10000
set_option maxHeartbeats 4000000
variable {t:Tab}
variable {a:Ar}
variable {e:Ent}
variable {i:Nat}
variable {w:Wd}
variable {ks:List Kind}
variable {s:Sys}
variable {l:List Sys}
instance tPtrT:TPtr prog 117:=⟨123,by kernel_rfl,by kernel_rfl⟩
instance mapIT:TMap prog 112 3 117 (.pointer none):=⟨by kernel_rfl,by kernel_rfl,λw=>by kernel_rfl,PlainV.nil (te:=123) (by kernel_rfl)⟩
theorem Tk(x:Nat):FreeE (.ptr x 0 0):=λm c bs k=>by
 simp only[VC]at k;exact k.1
theorem ZZ(A B1 B2 C Z:List AS):(A++(B1++(B2++(C++Z)))).Perm (B1++(B2++((C++(A++[]))++Z))):=by
 rw[BD];have:=D6 A (B1++(B2++C)) Z;simpa[Bg]using this
theorem Spec.tt{P:Program}{f:FuncId}{args:List AV}{S:List AS}{β:Type}{r:β->AV}{So:β->List AS}(h:Spec P f args S λr' S'=>∃q,r'=r q/\S'=So q):Spec P f args S λr' S'=>∃q,(λ_:β=>True) q/\r'=r q/\S'=So q:=h.mono λr' S' ⟨q,h⟩=>⟨q,CZ,h⟩
theorem XV{ts:List Tab}(h:t∈ts):∃R,(Ch ts).Perm ([G8 t]++R):=by
 obtain⟨l1,l2,rfl⟩:=In h;refine⟨(stE t.ek t.es++DL t.cs)++(Ch l1++Ch l2),?_⟩;have:=Fw (l1:=l1) (l2:=l2) (t:=t) [];simp only[BD]at this;exact this
theorem bF(ts:List Tab)(t:Tab)(ht:t∈ts)(ks:List Int)(hl:t.ks.length<=1099511627776):Spec prog 119 [.ptr t.X 0 0,Av false ks] (Ch ts) λr S'=>r=iA (Ek t.ks ks)/\S'=Ch ts:=by
 obtain⟨R,hp⟩:=XV ht;refine Spec.perm ((dX t ks hl).beside R) hp λr S' hq=>?_
 obtain⟨S1,e1,e2,e3⟩:=hq;refine⟨Ch ts,?_,e2,rfl⟩;rw[e1,e3];exact hp.symm
theorem QC(a:Ar)(e:Ent)(l:List Comp)(ha:ArOK a)(hne:II a.ts)(hn:0<=e.n/\e.n<256)(hf:e.n∉Cn a.ts)(hl:l.length<=16):
  Spec prog 56 [.ptr a.A 0 0,CG e,B3 false false l] (arS a) λr S'=>∃b:Ar,(ArOK b/\II b.ts/\b.A=a.A/\b.kinds=a.kinds/\b.gens=a.gens/\(B0 b.ts).Perm (⟨e,l⟩::B0 a.ts))/\r= .tup []/\S'=arS b:=by
 obtain⟨ks,hks⟩:=nm (l.map (·.kind));have hkl:ks.length=l.length:=by rw[<-hks,AH]
 have hkm:(ks.map iA).length=ks.length:=AH _;have hko:=Ve l (by omega);rw[hks]at hko;have htl:=ha.ts_le hne;have hsr:=VA a.Tb a.ts Tab.X (Ch a.ts) ks 119 (λt:Tab=>Ek t.ks ks) (by omega) (λt ht=>bF a.ts t ht ks (by have:=(ha.tab t ht).ks;omega));refine Sp (nt:=98) (res:=[]) func56 λSf=>?_
 refine JF ?_;refine Ai λB=>?_;refine NL ?_
 refine JK ?_;refine BU (h:=(hko ..)) (k:=?_);refine JC ?_;refine JD ?_;(iterate 5 refine WO ?_);refine Gx [_,_,_,_,_] (h:=hsr) λb hb=>?_;refine KO ?_
 obtain⟨i,fd⟩:=b;dsimp only
 skip
 refine AOps.nil ?_;refine JJ ?_;refine J0 (λz:Ar×List Tab×Tab×List Tab=>ArOK z.1/\z.1.ts=z.2.1++z.2.2.1::z.2.2.2/\z.2.2.1.ks=ks/\II z.2.1/\II z.2.2.2/\z.2.1.length=i/\z.1.A=a.A/\z.1.kinds=a.kinds/\z.1.gens=a.gens/\Cn z.1.ts=Cn a.ts/\B0 z.1.ts=B0 a.ts) (λz=>⟨[(0,.ptr a.A 0 0),(2,B3 false false l),(4,.ptr B 0 0),(7,iA i)],(B,.row 32 2 [CG e])::(arS z.1++Sf)⟩) ?_ ?_
 ·cases fd with
  |true=>
   refine AB rfl rfl ?_;obtain⟨t,ht,hz⟩:=hb.eq.1 rfl;obtain⟨hi,rfl⟩:=AE.1 ht;obtain⟨l1,l2,e1,e2⟩:=Jd hi;have h1:II l1:=λu hu=>hne u (by rw[e1];simp[hu])
   have h2:II l2:=λu hu=>hne u (by rw[e1];simp[hu])
   refine KK ?_;refine jnR (a,l1,a.ts[i],l2) ⟨ha,e1,cmpL_zero.1 hz,h1,h2,e2,rfl,rfl,rfl,rfl,rfl⟩ ⟨by exact EF,?_⟩;simp only[arS,CI,CD];exact DT _
  |false=>
   refine Aq rfl rfl ?_;refine JK ?_;refine XM (C:=λ_=>True) [] (h:=newE_sp.mono λr' S' ⟨k,e1,e2⟩=>⟨k,CZ,e1,e2⟩) λek _=>?_;refine KO ?_;refine Ai λX=>?_;refine WO ?_
   refine AOps.nil ?_;refine FL ?_;refine CY (Y:=X) 209 1 .here (λC=>.cons (.agg (.s (.s (.cons (.base .nil) .nil)))) .nil) λC=>?_
   refine JN ?_;refine BV ek.M ?_;refine BV ek.R ?_;refine BV ek.V ?_;refine BV ek.X ?_;refine BV B ?_;refine BV X ?_;refine BV C ?_;refine Ev (λ(j C:Nat) (cs:List (StK×List (Int×List Int)))=>⟨[(0,.ptr a.A 0 0),(2,B3 false false l),(4,.ptr B 0 0),(6,Av false ks),(7,iA i),(9,.ptr X 0 0),(31,iA (ks.map iA).length),(32,iA j)],(C,.row 209 1 (cs.map λc=>.ptr c.1.X 0 0))::(X,.row 123 3 [.agg [Av false ks,.ptr ek.X 0 0,.sl C 0 cs.length]])::(B,.row 32 2 [CG e])::(stE ek []++(arH a++(DL cs++(Ch a.ts++Sf))))⟩) (λj C cs=>j<=ks.length/\cs.length=j/\∀c∈cs,c.2=[]) (λj _ _=>ks.length-j) 0 C [] ⟨by omega,rfl,by simp⟩ ?_;rintro j C cs ⟨hj,hcl,hce⟩;have hpl:(cs.map λc=>AV.ptr c.1.X 0 0).length=cs.length:=AH _;refine JN ?_;refine AC rfl (λh=>?_) (λh=>?_)
   ·have h:j<ks.length:=by rw[Aj,hkm]at h;omega
    refine FL ?_;refine CN λY1=>CN λY2=>CN λY3=>CN λY4=>CN λY5=>?_
    (repeat refine WF ?_);refine AWP.region_runE (by kernel_rfl) (by kernel_rfl) ?_;(repeat refine Mx ?_);refine dZ Y1 Y2 Y3 Y4 ⟨0,0,0,0⟩ cg λk=>?_
    refine I0 (AV.ptr k.X 0 0) ?_;(iterate 4 refine RK ?_);refine RGo.nil (by kernel_rfl) ?_;have hma:(cs.map λc=>AV.ptr c.1.X 0 0)++[AV.ptr k.X 0 0]=(cs++[(k,([]:List (Int×List Int)))]).map λc=>AV.ptr c.1.X 0 0:=by rw[AT];rfl
    have hml:cs.length+[AV.ptr k.X 0 0].length=(cs++[(k,([]:List (Int×List Int)))]).length:=by rw[Ak];rfl
    rw[hma,hml];refine FL ?_;refine BV k.M ?_;refine BV k.R ?_;refine BV k.V ?_;refine BV k.X ?_;refine BV B ?_;refine BV C ?_;refine BV X ?_;refine BV Y5 ?_;refine AWP.perm (S':=(Y5,.row 209 1 ((cs++[(k,([]:List (Int×List Int)))]).map λc=>AV.ptr c.1.X 0 0))::(X,.row 123 3 [.agg [Av false ks,.ptr ek.X 0 0,.sl Y5 0 (cs++[(k,([]:List (Int×List Int)))]).length]])::(C,.used)::(B,.row 32 2 [CG e])::(stE ek []++(arH a++(DL (cs++[(k,([]:List (Int×List Int)))])++(Ch a.ts++Sf))))) ?_ ?_
    ·refine A9 _ (A9 _ (A9 _ (A9 _ ?_)))
     rw[F8,Fr];exact ZZ (stS k []) (stE ek []) (arH a) (DL cs) (Ch a.ts++Sf)
    ·refine R1 ?_
     exact Dc (j+1) Y5 (cs++[(k,[])]) ⟨by omega,by rw[Ak,hcl];rfl,λc hc=>by
      rcases AL.1 hc with hc|hc
      ·exact hce c hc
      ·rw[CX]at hc;subst hc;rfl⟩ (by omega)
   ·have h:j=ks.length:=by rw[Ao,hkm]at h;omega
    have hF:AV.frzs (((cs.map λc=>AV.ptr c.1.X 0 0).drop 0).take cs.length)=cs.map λc=>AV.ptr c.1.X 0 0:=by
     rw[Cp,BB (by omega),Hj,Dh];rfl
    refine FL ?_;refine E9 (X:=C) (Y:=X) .here (.next .here) rfl (.cons (.agg (.s (.s (.cons (.base (.sl (by omega))) .nil)))) .nil) ?_;rw[hF];have hi:=hb.le;dsimp only at hi;have hpt:(ptrs Tab.X a.ts).length=a.ts.length:=AH _;refine CN λY=>CN λK2=>?_
    refine RG ?_;(iterate 7 refine WO ?_);refine Dl (W.lit1 (X:=K2) (l:=[.ptr X 0 0]) (by exact rfl) (by exact As) (by exact rfl) (by exact .inr rfl) (by decide) (by decide) (by exact rfl)) rfl ?_;have hfq:FreeL (ptrs Tab.X a.ts):=λx hx=>by obtain⟨y,_,rfl⟩:=Ad.1 hx;exact Tk _
    have hwq:∀x∈ptrs Tab.X a.ts,x.width=1:=λx hx=>by obtain⟨y,_,rfl⟩:=Ad.1 hx;rfl
    have hins:=(Vk a.Tb K2 a.ts.length i (ptrs Tab.X a.ts) (.ptr X 0 0) hpt.symm hi (by omega) hfq (Tk _) hwq rfl rfl).used2;refine dp hins (.ls (Y:=Y)) ?_;refine KO ?_;obtain⟨t',ht'⟩:∃t':Tab,t'=⟨X,ks,ek,[],cs⟩:=⟨_,rfl⟩
    have hrow:(ptrs Tab.X a.ts).take i++ .ptr X 0 0::(ptrs Tab.X a.ts).drop i=ptrs Tab.X (a.ts.take i++t'::a.ts.drop i):=by
     rw[ptrs,ptrs,AT,EK,Aa,List.map_drop,ht']
    have hrl:(ptrs Tab.X (a.ts.take i++t'::a.ts.drop i)).length=(a.ts.take i++t'::a.ts.drop i).length:=AH _;rw[hrow,hrl];dsimp only[BE,List.set_cons_zero,List.set_cons_succ,CI,CD];refine Dw ek.M ?_;refine Dw ek.R ?_;refine Dw ek.V ?_;refine Dw ek.X ?_;refine Dw X ?_;refine Dw Y ?_;refine Dw a.Tv ?_;refine Dw a.O ?_;refine Dw a.G ?_;refine Dw a.A ?_;refine Dw B ?_;refine Dw a.Tb ?_;refine Dw C ?_;refine Dw K2 ?_;obtain⟨a',ha'⟩:∃a':Ar,a'={a with Tb:=Y,ts:=a.ts.take i++t'::a.ts.drop i}:=⟨_,rfl⟩
    have htok:TabOK t':=by
     rw[ht'];exact⟨by dsimp only;omega,by dsimp only;omega,⟨S6,by simp⟩,λc hc=>by rw[hce c hc];exact⟨S6,by simp⟩,λc hc n=>by rw[hce c hc];exact Iff.rfl⟩
    have hte:t'.es=[]:=by rw[ht']
    have htk:t'.ks=ks:=by rw[ht']
    have hb':Found (λu:Tab=>Ek u.ks t'.ks) a.ts (i,false):=by rw[htk];exact hb
    have hok:ArOK a':=by rw[ha'];exact ha.newT htok hte hb'
    refine AOps.perm (S':=(K2,.used)::(C,.used)::(a.Tb,.used)::(B,.row 32 2 [CG e])::(arS a'++Sf)) ?_ ?_
    ·refine A9 _ (A9 _ (A9 _ (A9 _ ?_)))
     subst ha';refine A9 _ (A9 _ (A9 _ (A9 _ (A9 _ ?_))));have hz:=Fw (l1:=a.ts.take i) (l2:=a.ts.drop i) (t:=t') Sf;have hz2:Ch (a.ts.take i)++(Ch (a.ts.drop i)++Sf)=Ch a.ts++Sf:=by rw[<-Bg,<-K8,CJ]
     rw[hz2]at hz;subst ht';exact hz.symm
    ·refine AOps.nil ?_
     refine FL ?_;subst ha';refine jnR ({a with Tb:=Y,ts:=a.ts.take i++t'::a.ts.drop i},a.ts.take i,t',a.ts.drop i) ⟨hok,rfl,htk,λu hu=>hne u (BK hu),λu hu=>hne u (BR hu),by rw[BZ];omega,rfl,rfl,rfl,X9 hte,Vg hte⟩ ⟨by exact EF,?_⟩;exact .cons _ (.cons _ (.cons _ (.refl _)))
 ·rintro⟨a',l1,t,l2⟩ ⟨hok,hts,htk,hn1,hn2,hil,hA,hki,hge,hke,hit⟩
  dsimp only at hok hts htk hn1 hn2 hil hA hki hge hke hit⊢;rw[<-hA];obtain⟨Z,hZ⟩:=nm (Ch l1++(Ch l2++Sf));have hop:=Fw (l1:=l1) (l2:=l2) (t:=t) Sf;rw[<-hts,hZ]at hop;refine AWP.perm (S':=(B,.row 32 2 [CG e])::(arH a'++(H6 t++Z))) ?_ ?_
  ·refine A9 _ ?_
   rw[arS,Bg];exact hop.append_left _
  have htm:t∈a'.ts:=by rw[hts];simp
  have hto:=hok.tab t htm
  have hat:(ptrs Tab.X a'.ts)[i]?=some (.ptr t.X 0 0):=by
   rw[Ae,hts,Bd (by omega),hil,DY];rfl
  have hil2:i<a'.ts.length:=by rw[hts,Ak,DM];omega
  have hft:e.n∉Am t.es:=λhm=>hf (by rw[<-hke];exact CA.2 ⟨t,htm,hm⟩)
  have hpe:=(aq t.ek t.es hto.es e.n e hn).tt;have hlm:(l.map (AZ false)).length=l.length:=AH _;have hlc:t.cs.length=l.length:=by rw[<-hto.len,htk,hkl]
  refine JD ?_;(iterate 5 refine WO ?_);refine BT ?_ (W.idx rfl rfl (by exact As) rfl (by omega) (An _));refine JE ?_;refine FL ?_;(repeat refine WF ?_);refine GR 7 (by kernel_rfl) (by kernel_rfl) (by kernel_rfl) ?_;dsimp only[List.take,List.drop];(iterate 7 refine RK ?_);refine RGo.nil (by kernel_rfl) ?_;refine Gx [_,_,_,_,_,_,_] (h:=hpe) λq _=>?_
  refine AOps.nil ?_;obtain⟨k',hk'⟩:∃k':StK,k'=⟨t.ek.X,q.1,q.2,t.ek.M⟩:=⟨_,rfl⟩;rw[<-hk'];refine JJ ?_;refine Ca (λ(j:Nat) (cs:List (StK×List (Int×List Int)))=>⟨[(0,.ptr a'.A 0 0),(4,.ptr B 0 0),(10,.ptr t.X 0 0),(71,B3 false false l),(72,iA (l.map (AZ false)).length),(73,iA j)],(B,.row 32 2 [CG e])::(arH a'++(G8 t::(stE k' (Db t.es e.n e)++(DL cs++Z))))⟩) (λj cs=>j<=l.length/\CsUp e.n l j t.cs cs) (λj _=>l.length-j) 0 t.cs ⟨by omega,.zero _ _ _⟩ ?_;rintro j cs ⟨hj,hcs⟩;have hcl:=hcs.len;have hcp:=hcs.ptrs;refine JN ?_;refine AC rfl (λh=>?_) (λh=>?_)
  ·have h:j<l.length:=by rw[Aj,hlm]at h;omega
   have hjc:j<cs.length:=by omega
   have hjt:j<t.cs.length:=by omega
   have hlat:(l.map (AZ false))[j]?=some (AZ false l[j]):=DC _ h;have hlil:j<(l.map (AZ false)).length:=by omega
   have hcat:(t.cs.map λc=>AV.ptr c.1.X 0 0)[j]?=some (.ptr cs[j].1.X 0 0):=by rw[<-hcp];exact DC _ hjc
   have hcil:j<(t.cs.map λc=>AV.ptr c.1.X 0 0).length:=by rw[AH];omega
   have hcj:cs[j].2=t.cs[j].2:=by rw[hcs.c j hjt hjc,AM (by omega)]
   have hcok:ColOK cs[j].2:=by rw[hcj];exact hto.cs _ (Ax hjt)
   obtain⟨m1,m2,hsp,hm1⟩:=Jd hjc;have hlj:l[j]?=some l[j]:=Af h;obtain⟨⟨ck,cv⟩,hce⟩:=nm (l[j]);rw[hce]at hlat hlj;obtain⟨c,hcc⟩:=nm (cs[j]);rw[hcc]at hcat hcok hsp;have hpu:=(UR c.1 c.2 hcok e.n cv hn).tt;refine JH ?_;refine Ai λC=>?_;refine JE ?_
   refine FL ?_
   have heq:(C,AO.row 42 2 [AZ false ⟨ck,cv⟩])::(B,AO.row 32 2 [CG e])::(arH a'++(G8 t::(stE k' (Db t.es e.n e)++(DL cs++Z))))=((C,AO.row 42 2 [AZ false ⟨ck,cv⟩])::(B,AO.row 32 2 [CG e])::(arH a'++(G8 t::(stE k' (Db t.es e.n e)++DL m1))))++(stS c.1 c.2++(DL m2++Z)):=by
    rw[hsp,F8,Fr];simp only[CI,Bg,CD]
   (repeat refine WF ?_);refine GR 11 (by kernel_rfl) (by kernel_rfl) (by kernel_rfl) ?_;dsimp only[List.take,List.drop];(iterate 11 refine RK ?_);refine RGo.nil (by kernel_rfl) ?_;refine Gx _ hpu (λq2 _=>?_) (hp:=heq)
   have heq2:((C,AO.row 42 2 [AZ false ⟨ck,cv⟩])::(B,AO.row 32 2 [CG e])::(arH a'++(G8 t::(stE k' (Db t.es e.n e)++DL m1))))++(stS ⟨c.1.X,q2.1,q2.2,c.1.M⟩ (Db c.2 e.n cv)++(DL m2++Z))=(C,AO.row 42 2 [AZ false ⟨ck,cv⟩])::(B,AO.row 32 2 [CG e])::(arH a'++(G8 t::(stE k' (Db t.es e.n e)++(DL (m1++((⟨c.1.X,q2.1,q2.2,c.1.M⟩:StK),Db c.2 e.n cv)::m2)++Z)))):=by
    rw[F8,Fr];simp only[CI,Bg,CD]
   refine AOps.perm (C1 heq2) ?_;refine AOps.nil ?_;refine JB ?_;exact Bn (j+1) (m1++((⟨c.1.X,q2.1,q2.2,c.1.M⟩:StK),Db c.2 e.n cv)::m2) ⟨by omega,hcs.next hsp hm1 (by rw[hlj];rfl) _ rfl⟩ (by omega)
  ·have h:j=l.length:=by rw[Ao,hlm]at h;omega
   subst h;rw[<-hlc]at hcs;have hfa:e.n∉Cn a'.ts:=by rw[hke];exact hf
   have hgn:a'.g e.n=none:=by
    cases hg:a'.g e.n with
    |none=>rfl
    |some u=>
     obtain⟨w,hw,h2,_⟩:=hok.g _ _ hg;exact absurd (CA.2 ⟨w,hw,h2⟩) hfa
   have hsz:(if(a'.g e.n).isSome then a'.c else a'.c+1)=a'.c+1:=by rw[hgn];rfl
   have hmx:a'.c<maxLen:=by have:=hok.c_le;unfold maxLen;omega
   refine FL ?_;refine Uj (X:=t.X) 10 (λb=>?_);obtain⟨K',hK'⟩:∃K':AV->Value->Prop,K'=λv u=>a'.K v u\/(v= .ptr t.X 0 0/\u= .pointer (some ⟨b,0,none⟩)):=⟨_,rfl⟩
   rw[<-hK'];refine AWP.perm (S':=(B,.row 32 2 [CG e])::(arH {a' with ts:=l1++upT t k' e cs::l2,K:=K'}++(Ch (l1++upT t k' e cs::l2)++Sf))) ?_ ?_
   ·refine A9 _ ?_
    have hln:(l1++upT t k' e cs::l2).length=a'.ts.length:=by rw[hts];simp
    have hpr:ptrs Tab.X (l1++upT t k' e cs::l2)=ptrs Tab.X a'.ts:=by rw[hts,ptrs,ptrs,AT,AT,Aa,Aa]
    show List.Perm ([(a'.A,.row 115 4 [.agg [Ba false false a'.kinds,.sl a'.G 0 a'.gens.length,.sl a'.Tb 0 a'.ts.length,.mp a'.O]]),(a'.G,.row 3 1 (a'.gens.map iA)),(a'.O,.ob (MapF prog 3 117 a'.g a'.c)),(a'.Tv,.tv K'),(a'.Tb,.row 117 1 (ptrs Tab.X a'.ts))]++(G8 t::(stE k' (Db t.es e.n e)++(DL cs++Z)))) ([(a'.A,.row 115 4 [.agg [Ba false false a'.kinds,.sl a'.G 0 a'.gens.length,.sl a'.Tb 0 (l1++upT t k' e cs::l2).length,.mp a'.O]]),(a'.G,.row 3 1 (a'.gens.map iA)),(a'.O,.ob (MapF prog 3 117 a'.g a'.c)),(a'.Tv,.tv K'),(a'.Tb,.row 117 1 (ptrs Tab.X (l1++upT t k' e cs::l2)))]++(Ch (l1++upT t k' e cs::l2)++Sf))
    rw[hln,hpr];refine B5 _ ?_;refine LO ?_ (Fw (l1:=l1) (l2:=l2) (t:=upT t k' e cs) Sf).symm;rw[hZ];refine C1 ?_;have hkx:k'.X=t.ek.X:=by rw[hk']
    show _=((t.X,AO.row 123 3 [.agg [Av false t.ks,.ptr k'.X 0 0,UW cs]])::(stE k' (Db t.es e.n e)++DL cs))++Z
    rw[hkx,UW,hcp];rfl
   ·refine RU ?_;(iterate 7 refine RK ?_);refine HZ ?_ (W.mapUpd (PlainV.ptr (te:=123) (by kernel_rfl) b) (by omega) hmx rfl rfl rfl (by exact As));refine RGo.nil (by kernel_rfl) ?_
    rw[hsz];have hup:ArOK {a' with ts:=l1++upT t k' e cs::l2,K:=K',g:=Hc a'.g e.n (.pointer (some ⟨b,0,none⟩)),c:=a'.c+1}:=hok.up hts hn hfa hcs (λv u h=>by rw[hK'];exact .inl h) (by rw[hK'];exact .inr ⟨rfl,rfl⟩);have hitm:=aH (l1:=l1) (l2:=l2) (k:=k') hto hn hft (htk.trans hks.symm) hcs;rw[<-hts,hit]at hitm;refine Eb ?_;exact Ends.sp [] (arS {a' with ts:=l1++upT t k' e cs::l2,K:=K',g:=Hc a'.g e.n (.pointer (some ⟨b,0,none⟩)),c:=a'.c+1}) ⟨_,⟨hup,fa hn1 hn2 hft,rfl,hki,hge,hitm⟩,rfl,rfl⟩
def IZ(a:Ar)(l1 l2:List Tab)(t:Tab)(n:Int)(Y:Nat):Ar:=if(C5 t.es n).length=0 then{a with Tb:=Y,ts:=l1++l2,g:=Jq a.g n,c:=a.c-1}else{a with ts:=l1++Ge t n::l2,g:=Jq a.g n,c:=a.c-1}
theorem PH(h:ArOK a)(hne:II a.ts){l1 l2:List Tab}(hts:a.ts=l1++t::l2){n:Int}(hm:(n,e)∈t.es)(Y:Nat):ArOK (IZ a l1 l2 t n Y)/\II (IZ a l1 l2 t n Y).ts/\(IZ a l1 l2 t n Y).A=a.A/\(IZ a l1 l2 t n Y).kinds=a.kinds/\(IZ a l1 l2 t n Y).gens=a.gens/\(B0 a.ts).Perm (⟨e,BF t n⟩::B0 (IZ a l1 l2 t n Y).ts):=by
 have h1:=h.down hts hm;have h2:=PN h hts hm;unfold IZ;split
 ·rename_i h0
  have h0:(Ge t n).es=[]:=Ct h0;refine⟨h1.less (Y:=Y) rfl h0,λu hu=>hne u ?_,rfl,rfl,rfl,by rw[Vh h0]at h2;exact h2⟩;rw[hts];rcases AL.1 hu with hu|hu<;>simp[hu]
 ·rename_i h0
  refine⟨h1,λu hu=>?_,rfl,rfl,rfl,h2⟩;rcases AL.1 hu with hu|hu
  ·exact hne u (by rw[hts];simp[hu])
  ·rcases AQ.1 hu with rfl|hu
   ·exact λe2=>h0 (by rw[show C5 t.es n=[]from e2];rfl)
   ·exact hne u (by rw[hts];simp[hu])
theorem XT(P X:Nat)(l:List AV)(h0:0<l.length)(R:List AS):Spec prog 282 [.ptr X 0 0,.ptr P 0 0] ((P,.row 117 1 [.ptr X 0 0])::(X,.row 123 3 l)::R) λr S'=>r=bA true/\S'=(P,.row 117 1 [.ptr X 0 0])::(X,.row 123 3 l)::R:=by
 refine Sp (nt:=7) (res:=[.tmp 3]) func282 λSf=>?_
 refine R1 ?_;refine JK ?_;refine WO ?_;refine BT ?_ (W.eqPtrS h0 rfl rfl (by exact As));refine JC ?_;refine RT ?_;exact Ends.sp [bA true] ((P,.row 117 1 [.ptr X 0 0])::(X,.row 123 3 l)::R) ⟨rfl,rfl⟩
theorem ZJ(P X Y:Nat)(l l2:List AV)(h0:0<l.length)(h1:0<l2.length)(R:List AS):Spec prog 282 [.ptr Y 0 0,.ptr P 0 0] ((P,.row 117 1 [.ptr X 0 0])::(X,.row 123 3 l)::(Y,.row 123 3 l2)::R) λr S'=>r=bA false/\S'=(P,.row 117 1 [.ptr X 0 0])::(X,.row 123 3 l)::(Y,.row 123 3 l2)::R:=by
 refine Sp (nt:=7) (res:=[.tmp 3]) func282 λSf=>?_
 refine R1 ?_;refine JK ?_;refine WO ?_;refine BT ?_ (W.eqPtrD (p:=2) (q:=1) h1 h0 rfl rfl (.next (.next .here)) (.next .here) (by decide));refine JC ?_;refine RT ?_;exact Ends.sp [bA false] ((P,.row 117 1 [.ptr X 0 0])::(X,.row 123 3 l)::(Y,.row 123 3 l2)::R) ⟨rfl,rfl⟩
theorem XW{us:List Tab}{x:Tab}(h:x∈us):∃Z,(Ch us).Perm (G8 x::Z):=by
 obtain⟨m1,m2,rfl⟩:=In h;have:=Fw (l1:=m1) (l2:=m2) (t:=x) [];rw[BD]at this;exact⟨_,this⟩
theorem XU(P:Nat)(l1 l2:List Tab)(t:Tab)(ho:(l1++t::l2).Pairwise λx y:Tab=>Ek x.ks y.ks<0):∀x∈l1++t::l2,Spec prog 282 (.ptr x.X 0 0::[.ptr P 0 0]) ((P,.row 117 1 [.ptr t.X 0 0])::(H6 t++(Ch l1++Ch l2))) λr S'=>r=bA (decide (x.ks=t.ks))/\S'=(P,.row 117 1 [.ptr t.X 0 0])::(H6 t++(Ch l1++Ch l2)):=by
 intro x hx
 have hd:x∈l1++l2->x.ks≠t.ks:=λh e=>by
  have h1:Ek x.ks t.ks=0:=cmpL_zero.2 e;have h2:Ek t.ks x.ks=0:=cmpL_zero.2 e.symm;rw[Bi]at ho;rcases AL.1 h with h|h
  ·have:=ho.2.2 x h t (by simp);omega
  ·have:=(Al.1 ho.2.1).1 x h;omega
 have hc:x=t\/x∈l1++l2:=by
  rcases AL.1 hx with h|h
  ·exact .inr (by simp[h])
  ·rcases AQ.1 h with h|h
   ·exact .inl h
   ·exact .inr (by simp[h])
 rcases hc with rfl|hc
 ·rw[BG rfl]
  exact XT P x.X _ (by exact Nat.zero_lt_succ _) _
 ·rw[Az (hd hc)]
  obtain⟨Z,hZ⟩:=XW hc;rw[K8]at hZ
  have hp:((P,AO.row 117 1 [.ptr t.X 0 0])::(H6 t++(Ch l1++Ch l2))).Perm ((P,.row 117 1 [.ptr t.X 0 0])::G8 t::G8 x::((stE t.ek t.es++DL t.cs)++Z)):=by
   refine A9 _ (A9 _ ?_);refine(hZ.append_left (stE t.ek t.es++DL t.cs)).trans ?_;exact D6 (stE t.ek t.es++DL t.cs) [G8 x] Z
  exact(ZJ P t.X x.X _ _ (by exact Nat.zero_lt_succ _) (by exact Nat.zero_lt_succ _) _).perm hp λr S' ⟨h1,h2⟩=>⟨_,by rw[h2];exact hp.symm,h1,rfl⟩
theorem SF(a:Ar)(ha:ArOK a)(hne:II a.ts){l1 l2:List Tab}(hts:a.ts=l1++t::l2){n:Int}(hnk:n∈Am t.es):Spec prog 272 [.ptr a.A 0 0,iA n] (arS a) λr S'=>∃Y:Nat,True/\r= .lst true 42 2 ((BF t n).map (AZ false))/\S'=arS (IZ a l1 l2 t n Y):=by
 have htm:t∈a.ts:=by rw[hts];simp
 have hto:=ha.tab t htm;have hnl:=hto.es.lt n hnk;have hn:I64 n:=by constructor<;>omega
 have hsm:=ha.gn n (CA.2 ⟨t,htm,hnk⟩);obtain⟨u,hu⟩:∃u,a.g n=some u:=IE.1 hsm;obtain⟨w,hw,hwn,hK,b,hb⟩:=ha.g n u hu;have hwt:=ha.uniq hw htm hwn hnk;subst hwt;have hgd:(a.g n).getD (.pointer none)=u:=by rw[hu];rfl
 have hone:u.oneCell'=true:=by rw[hb];rfl
 have hcs:=US w n hto hn hnk;have hdE:=ai w.ek w.es hto.es n hn;have hlE:=aw w.ek (C5 w.es n);have hc16:w.cs.length<=16:=by have:=hto.ks;have:=hto.len;omega
 have hcpl:(w.cs.map λc=>AV.ptr c.1.X 0 0).length=w.cs.length:=AH _;have hsz:(if(a.g n).isSome then a.c-1 else a.c)=a.c-1:=by rw[hsm];rfl
 obtain⟨⟨m,e⟩,hm,he⟩:=Ad.1 hnk;have he:m=n:=he;rw[he]at hm;have hdn:=ha.down hts hm;obtain⟨w',hw'⟩:∃w',w'=Ge w n:=⟨_,rfl⟩;have htl:=ha.ts_le hne;have hhd:G8 w=G8 w':=by rw[hw'];show(w.X,AO.row 123 3 [.agg [Av false w.ks,.ptr w.ek.X 0 0,UW w.cs]])=(w.X,AO.row 123 3 [.agg [Av false w.ks,.ptr w.ek.X 0 0,UW (w.cs.map (KT n))]]);rw[UW,UW,Dh];rfl
 have hln:a.ts.length=(l1++w'::l2).length:=by rw[hts];simp
 have hpr:ptrs Tab.X a.ts=ptrs Tab.X (l1++w'::l2):=by rw[hts,hw',ptrs,ptrs,AT,AT,Aa,Aa]
 have hflt:(l1++w'::l2).filter (λx=>!decide (x.ks=w'.ks))=l1++l2:=by
  have ho:(l1++w'::l2).Pairwise λx y:Tab=>Ek x.ks y.ks<0:=by rw[hw'];exact hdn.ord
  have hd:∀x∈l1++l2,x.ks≠w'.ks:=λx h e=>by
   have h1:Ek x.ks w'.ks=0:=cmpL_zero.2 e;have h2:Ek w'.ks x.ks=0:=cmpL_zero.2 e.symm;rw[Bi]at ho;rcases AL.1 h with h|h
   ·have:=ho.2.2 x h w' (by simp);omega
   ·have:=(Al.1 ho.2.1).1 x h;omega
  rw[Dr,List.filter_cons_of_neg (by simp),<-Dr,ES];intro x hx;simp[hd x hx]
 refine Sp (nt:=58) (res:=[.tmp 4]) func272 λSf=>?_
 obtain⟨Z,hZ⟩:=nm (Ch l1++(Ch l2++Sf));have hop:=Fw (l1:=l1) (l2:=l2) (t:=w) Sf;rw[<-hts,hZ]at hop;refine R1 ?_;refine AWP.perm (S':=arH a++(H6 w++Z)) ?_ ?_
 ·rw[arS,Bg]
  exact hop.append_left _
 refine JD ?_;(repeat first|(refine Bk ?_;first|refine WW 14 (.ptr w.X 0 0) hK ?_|refine BT ?_ (Mr _ hgd hn rfl rfl (by exact As) hone))|refine WO ?_|refine Ai λP5=>?_|refine Ay λY=>?_);refine NL ?_;refine JK ?_;refine WO ?_;refine Ul [_,_,_,_,_,_] hcs λK=>?_;refine JC ?_;refine AWP.perm (S':=(K,.row 42 2 ((BF w n).map (AZ false)))::(P5,.row 117 1 [.ptr w.X 0 0])::(arH a++(G8 w::(stE w.ek w.es++(DL w.cs++Z))))) (C1 (by first|rfl|(simp only[CI,Bg,CD];done)|(simp only[CI,Bg,CD];rfl))) ?_;rw[AH];refine JD ?_;(iterate 5 refine WO ?_);refine Hb [_,_,_,_,_,_,_,_] hdE ?_;refine NL ?_;refine JJ ?_;refine B8 (λ(j:Nat)=>⟨[(0,.ptr a.A 0 0),(1,iA n),(5,.ptr P5 0 0),(6,.sl K 0 (BF w n).length),(27,UW w.cs),(28,iA (w.cs.map λc=>AV.ptr c.1.X 0 0).length),(29,iA j)],(K,.row 42 2 ((BF w n).map (AZ false)))::(P5,.row 117 1 [.ptr w.X 0 0])::(arH a++(G8 w::(stE w.ek (C5 w.es n)++(DL ((w.cs.take j).map (KT n)++w.cs.drop j)++Z))))⟩) (λj=>j<=w.cs.length) (λj=>w.cs.length-j) 0 (by omega) ?_;rintro j hj;refine JN ?_;refine AC rfl (λh=>?_) (λh=>?_)
 ·have h:j<w.cs.length:=by rw[Aj,hcpl]at h;omega
  have hcat:(w.cs.map λc=>AV.ptr c.1.X 0 0)[j]?=some (.ptr w.cs[j].1.X 0 0):=DC _ h;have hcil:j<(w.cs.map λc=>AV.ptr c.1.X 0 0).length:=by omega
  have hcok:=hto.cs _ (Ax h);have hdj:w.cs.drop j=w.cs[j]::w.cs.drop (j+1):=(List.getElem_cons_drop h).symm;have htj:(w.cs.take (j+1)).map (KT n)=(w.cs.take j).map (KT n)++[KT n w.cs[j]]:=by rw[A6 h,AT];rfl
  obtain⟨c,hcc⟩:=nm (w.cs[j]);rw[hcc]at hcat hcok hdj htj;have hdS:=ae c.1 c.2 hcok n hn
  have heq:(K,AO.row 42 2 ((BF w n).map (AZ false)))::(P5,AO.row 117 1 [.ptr w.X 0 0])::(arH a++(G8 w::(stE w.ek (C5 w.es n)++(DL ((w.cs.take j).map (KT n)++w.cs.drop j)++Z))))=((K,AO.row 42 2 ((BF w n).map (AZ false)))::(P5,AO.row 117 1 [.ptr w.X 0 0])::(arH a++(G8 w::(stE w.ek (C5 w.es n)++DL ((w.cs.take j).map (KT n))))))++(stS c.1 c.2++(DL (w.cs.drop (j+1))++Z)):=by
   rw[hdj,F8,Fr];simp only[CI,Bg,CD]
  have heq2:((K,AO.row 42 2 ((BF w n).map (AZ false)))::(P5,AO.row 117 1 [.ptr w.X 0 0])::(arH a++(G8 w::(stE w.ek (C5 w.es n)++DL ((w.cs.take j).map (KT n))))))++(stS c.1 (C5 c.2 n)++(DL (w.cs.drop (j+1))++Z))=(K,AO.row 42 2 ((BF w n).map (AZ false)))::(P5,AO.row 117 1 [.ptr w.X 0 0])::(arH a++(G8 w::(stE w.ek (C5 w.es n)++(DL ((w.cs.take (j+1)).map (KT n)++w.cs.drop (j+1))++Z)))):=by
   rw[htj,F8,F8,Fr];simp only[CI,Bg,CD,DL,H0]
  refine JB ?_;refine JK ?_;refine WO ?_;refine Hb _ hdS ?_ (hp:=heq);refine NL ?_;refine AWP.perm (C1 heq2) ?_;refine R1 ?_;exact BM (j+1) (by omega)
 ·have h:j=w.cs.length:=by rw[Ao,hcpl]at h;omega
  subst h;rw[B9,Dk,BD];refine JD ?_;(iterate 5 refine WO ?_);refine K5 ?_ (W.mapDel hn rfl rfl (by exact As));refine NL ?_;rw[hsz];refine JD ?_;(iterate 4 refine WO ?_);refine XH [_,_,_,_,_,_,_,_] hlE ?_;refine JC ?_;have hst:stE w.ek (C5 w.es n)++(DL (w.cs.map (KT n))++Z)=(stE w'.ek w'.es++DL w'.cs)++Z:=by rw[hw',Bg]
  have hXX:w.X=w'.X:=by rw[hw']
  have hlw:(C5 w.es n).length=w'.es.length:=by rw[hw']
  rw[hst,hhd,hln,hpr,hXX];refine AC rfl (λh0=>?_) (λh0=>?_)
  ·have h0:(C5 w.es n).length=0:=by rw[Aj]at h0;omega
   have hdel:=Vy a.Tb (l1++w'::l2) Tab.X ((P5,.row 117 1 [.ptr w'.X 0 0])::(H6 w'++(Ch l1++Ch l2))) 282 [.ptr P5 0 0] (λx=>decide (x.ks=w'.ks)) rfl (by rw[<-hln];omega) (XU P5 l1 l2 w' (by rw[hw'];exact hdn.ord));rw[hflt]at hdel;rw[<-hZ];refine AWP.perm (S':=(K,.row 42 2 ((BF w n).map (AZ false)))::(a.A,.row 115 4 [.agg [Ba false false a.kinds,.sl a.G 0 a.gens.length,.sl a.Tb 0 (l1++w'::l2).length,.mp a.O]])::(a.G,.row 3 1 (a.gens.map iA))::(a.O,.ob (MapF prog 3 117 (Jq a.g n) (a.c-1)))::(a.Tv,.tv a.K)::(((a.Tb,.row 117 1 (ptrs Tab.X (l1++w'::l2)))::((P5,.row 117 1 [.ptr w'.X 0 0])::(H6 w'++(Ch l1++Ch l2))))++Sf)) ?_ ?_
   ·refine A9 _ ?_
    have h1:=D6 [(a.A,AO.row 115 4 [.agg [Ba false false a.kinds,.sl a.G 0 a.gens.length,.sl a.Tb 0 (l1++w'::l2).length,.mp a.O]]),(a.G,.row 3 1 (a.gens.map iA)),(a.O,.ob (MapF prog 3 117 (Jq a.g n) (a.c-1))),(a.Tv,.tv a.K),(a.Tb,.row 117 1 (ptrs Tab.X (l1++w'::l2)))] [(P5,.row 117 1 [.ptr w'.X 0 0])] (H6 w'++(Ch l1++(Ch l2++Sf)));refine LO (C1 ?_) (h1.symm.trans (C1 ?_))
    ·simp only[CI,Bg,CD]
     rfl
    ·simp only[CI,Bg,CD]
   refine JD ?_;(iterate 6 refine WO ?_);refine Ul [_,_,_,_,_] hdel λY=>?_;refine JE ?_;dsimp only[BE,List.set_cons_zero,List.set_cons_succ,CI,CD];refine BV Y ?_;refine BV a.Tv ?_;refine BV a.O ?_;refine BV a.G ?_;refine BV a.A ?_;refine BV P5 ?_;refine BV K ?_;have hla:IZ a l1 l2 w n Y={a with Tb:=Y,ts:=l1++l2,g:=Jq a.g n,c:=a.c-1}:=AY h0;rw[show(ptrs Tab.X (l1++l2)).length=(l1++l2).length from AH _];refine R1 ?_;refine RT ?_;refine⟨[.sl K 0 (BF w n).length],[.lst true 42 2 ((BF w n).map (AZ false))],_,arS (IZ a l1 l2 w n Y),.cons (.tmp rfl) rfl .nil,.cons (.cell (.sl (p:=0) .here (by simp))) .nil,?_,Y,CZ,rfl,rfl⟩;rw[hla]
   have hsub:(Ch (l1++l2)++Sf).Sublist ((H6 w'++(Ch l1++Ch l2))++Sf):=by
    rw[K8];exact(Hq _ _).append_right _
   exact .cons _ (.cons_cons _ (.cons_cons _ (.cons_cons _ (.cons_cons _ (.cons_cons _ hsub)))))
  ·have h0:¬(C5 w.es n).length=0:=by rw[Ao]at h0;omega
   have hla:IZ a l1 l2 w n 0={a with ts:=l1++w'::l2,g:=Jq a.g n,c:=a.c-1}:=by rw[hw'];exact AM h0
   have hop2:=Fw (l1:=l1) (l2:=l2) (t:=w') Sf;rw[hZ]at hop2;refine AWP.perm (S':=(K,.row 42 2 ((BF w n).map (AZ false)))::(P5,.row 117 1 [.ptr w'.X 0 0])::(arH {a with ts:=l1++w'::l2,g:=Jq a.g n,c:=a.c-1}++(Ch (l1++w'::l2)++Sf))) (A9 _ (A9 _ (hop2.symm.append_left (arH {a with ts:=l1++w'::l2,g:=Jq a.g n,c:=a.c-1})))) ?_;rw[<-Bg];refine JL ?_;refine⟨[.sl K 0 (BF w n).length],[.lst true 42 2 ((BF w n).map (AZ false))],_,arS (IZ a l1 l2 w n 0),.cons (.tmp rfl) rfl .nil,.cons (.cell (.sl (p:=0) .here (by simp))) .nil,?_,0,CZ,rfl,rfl⟩;rw[hla];exact .cons _ (DT _)
theorem Hk{l1 l2:List Tab}(h:a.ts=l1++t::l2)(Sf:List AS):(arS a++Sf).Perm (arH a++(G8 t::(stE t.ek t.es++(DL t.cs++(Ch l1++(Ch l2++Sf)))))):=by
 rw[arS,Bg];refine B5 _ ?_;rw[h];exact(Fw Sf).trans (C1 (by simp only[CI,Bg]))
def KA(a:Ar)(e:Ent):Bool:=decide (e∈(B0 a.ts).map (·.ent))
theorem aP(h:ArOK a)(ht:t∈a.ts){v:Ent}(hm:(e.n,v)∈t.es):KA a e=decide (v=e):=by
 unfold KA;refine decide_eq_decide.2 ⟨λhe=>?_,λhe=>?_⟩
 ·obtain⟨it,hit,rfl⟩:=Ad.1 he
  obtain⟨u,hu,hit⟩:=CA.1 hit;obtain⟨p,hp,rfl⟩:=Ad.1 hit;have hpn:=h.ent u hu p hp;have h1:p.2.n∈Am u.es:=Ad.2 ⟨p,hp,hpn⟩;have h2:p.2.n∈Am t.es:=Ad.2 ⟨_,hm,rfl⟩;have:=h.uniq ht hu h2 h1;subst this;have hto:=h.tab t ht;have h3:=(EV hto.es).2 hm;have h4:=(EV hto.es).2 (show(p.2.n,p.2)∈t.es by rw[<-hpn];exact hp);rw[h3]at h4;injection h4
 ·subst he
  refine Ad.2 ⟨⟨v,BF t v.n⟩,CA.2 ⟨t,ht,Ad.2 ⟨_,hm,rfl⟩⟩,rfl⟩
theorem dB(h:ArOK a)(hg:a.g e.n=none):KA a e=false:=by
 unfold KA;refine Az λhe=>?_
 obtain⟨it,hit,rfl⟩:=Ad.1 he;obtain⟨u,hu,hit⟩:=CA.1 hit;obtain⟨p,hp,rfl⟩:=Ad.1 hit;have hpn:=h.ent u hu p hp;have:=h.gn p.2.n (CA.2 ⟨u,hu,Ad.2 ⟨p,hp,hpn⟩⟩);rw[hg]at this;cases this
theorem NT(a:Ar)(ha:ArOK a)(e:Ent)(hn:I64 e.n):Spec prog 270 [.ptr a.A 0 0,CG e] (arS a) λr S'=>r=bA (KA a e)/\S'=arS a:=by
 refine Sp (nt:=30) (res:=[.tmp 4]) func270 λSf=>?_
 cases hg:a.g e.n with
 |none=>
  have hgd:(a.g e.n).getD (.pointer none)= .pointer none:=by rw[hg];rfl
  rw[dB ha hg];refine JF ?_;refine Ai λB=>?_;refine JC ?_
  refine FL ?_;refine RU ?_;(iterate 6 refine RK ?_);refine BO ?_ (Mr _ hgd hn rfl rfl (by exact As));refine RK ?_;refine RGo.nil (by kernel_rfl) ?_;refine JK ?_;refine BT ?_ (W.eqNil true (.inl ⟨rfl,rfl⟩) rfl rfl);refine NL ?_;refine Aq rfl rfl ?_;refine JL ?_;exact Ends.sp [bA false] (arS a) ⟨rfl,rfl⟩
 |some u=>
  obtain⟨t,ht,htn,hK,b,hb⟩:=ha.g e.n u hg;have hto:=ha.tab t ht;obtain⟨⟨m,v⟩,hm,hme⟩:=Ad.1 htn;have hme:m=e.n:=hme;subst hme;rw[aP ha ht hm];have hgt:=aS t.ek t.es hto.es e.n hn v ((EV hto.es).2 hm);have hgd:(a.g e.n).getD (.pointer none)=u:=by rw[hg];rfl
  have hone:u.oneCell'=true:=by rw[hb];rfl
  obtain⟨l1,l2,hts⟩:=In ht;refine JF ?_;refine Ai λB=>?_;refine JC ?_
  refine FL ?_;refine RU ?_;(iterate 6 refine RK ?_);refine BO ?_ (Mr _ hgd hn rfl rfl (by exact As) hone);refine RK ?_;refine RGo.nil (by kernel_rfl) ?_;refine JK ?_;refine BT ?_ (W.eqNil false (.inr ⟨b,hb,rfl⟩) rfl rfl);refine NL ?_;refine AB rfl rfl ?_;refine FL ?_;refine Yr 5 (.ptr t.X 0 0) hK ?_;refine AWP.perm (A9 _ (Hk hts Sf)) ?_;refine CN λY=>?_
  (repeat refine WF ?_);refine AWP.region_runT 8 (by kernel_rfl) (by kernel_rfl) ?_;refine ER ?_;refine ER ?_;refine ER ?_;refine ER ?_;refine ER ?_;refine ER ?_;refine QK (xs:=[(.tmp 21,.ptr t.ek.X 0 0),(.tmp 23,iA e.n)]) (L:=[_,_,_,_,_,_,_,_]) (R:=DL t.cs++(Ch l1++(Ch l2++Sf))) hgt (.fz (v:=.tup [CG v,bA true])) rfl (AP 8) (.cons rfl (.cons rfl .nil)) rfl rfl ?_;refine ER ?_;refine ER ?_;refine ER ?_;refine Mw (h:=W.alloc .here (.inl rfl)) ?_;refine Mw ?_;refine ER ?_;refine RGoT.nil (by kernel_rfl) ?_;dsimp only[BE,List.set_cons_zero,List.set_cons_succ,CI,CD];refine R8 Y (show _=[CG v]from rfl) ?_;dsimp only[List.set_cons_zero]
  have hd:decide (v=e)=(decide (v.n=e.n)&&decide (v.gen=e.gen)):=by
   cases v;cases e;simp only[Ent.mk.injEq,Bool.decide_and]
  rw[hd];refine JK ?_;refine WO ?_;refine BT ?_ (W.eqP _ _ (by kernel_rfl) (Vw v.n v.gen e.n e.gen) rfl rfl);refine JC ?_;refine FL ?_;refine AWP.perm (A9 _ (A9 _ (Hk hts Sf).symm)) ?_;refine RT ?_;exact Ends.sp [bA (decide (v.n=e.n)&&decide (v.gen=e.gen))] (arS a) ⟨rfl,rfl⟩
theorem OR(h:ArOK a)(hh:KA a e=true):∃l1 l2 t,a.ts=l1++t::l2/\(e.n,e)∈t.es:=by
 unfold KA at hh;obtain⟨it,hit,rfl⟩:=Ad.1 (AD hh);obtain⟨u,hu,hit⟩:=CA.1 hit;obtain⟨p,hp,rfl⟩:=Ad.1 hit;obtain⟨l1,l2,hl⟩:=In hu;refine⟨l1,l2,u,hl,?_⟩;have:=h.ent u hu p hp;show(p.2.n,p.2)∈u.es
 rw[<-this];exact hp
structure KillR(a:Ar)(e:Ent)(b:Ar):Prop where
 ok:ArOK b
 ne:II b.ts
 A:b.A=a.A
 kinds:b.kinds=a.kinds
 gens:b.gens=a.gens.set e.n.toNat ((a.gens[e.n.toNat]?).getD 0+1)
 items:∃l,(B0 a.ts).Perm (⟨e,l⟩::B0 b.ts)
theorem cp(a:Ar)(ha:ArOK a)(e:Ent)(hn:I64 e.n)(hh:KA a e=false):Spec prog 262 [.ptr a.A 0 0,CG e] (arS a) λr S'=>r=iA 4/\S'=arS a:=by
 have hs:=NT a ha e hn;rw[hh]at hs;refine Sp (nt:=23) (res:=[.tmp 4]) func262 λSf=>?_
 refine JF ?_;refine Ai λB=>?_;refine JC ?_
 refine JK ?_;refine WO ?_;refine Hb [_] hs ?_;refine JC ?_;refine Aq rfl rfl ?_;refine JL ?_;exact Ends.sp [iA 4] (arS a) ⟨rfl,rfl⟩
theorem aC(a:Ar)(ha:ArOK a)(hne:II a.ts)(e:Ent)(hn:I64 e.n)(hh:KA a e=true)(hg:e.n.toNat<a.gens.length)(hgl:a.gens.length<=256)(hgb:∀g∈a.gens,0<=g/\g<=1073741824):Spec prog 262 [.ptr a.A 0 0,CG e] (arS a) λr S'=>∃b:Ar,KillR a e b/\r=iA 0/\S'=arS b:=by
 obtain⟨l1,l2,t,hts,hm⟩:=OR ha hh;have hto:=ha.tab t (by rw[hts];simp);have hnk:e.n∈Am t.es:=Ad.2 ⟨_,hm,rfl⟩;have hnl:=hto.es.lt _ hnk;have hs:=NT a ha e hn;rw[hh]at hs;have htk:=SF a ha hne hts hnk;obtain⟨⟨n,g⟩,he⟩:∃e',e=e':=⟨_,rfl⟩;subst he;dsimp only at hn hg hm hnk hnl hs htk;obtain⟨i,hi⟩:∃i:Nat,n=i:=⟨n.toNat,by omega⟩;subst hi;rw[By]at hg;refine Sp (nt:=23) (res:=[.tmp 4]) func262 λSf=>?_
 refine JF ?_;refine Ai λB=>?_;refine JC ?_
 refine JK ?_;refine WO ?_;refine Hb [_] hs ?_;refine JC ?_;refine AB rfl rfl ?_;refine JD ?_;(iterate 3 refine WO ?_);refine QS [_] htk λY _ K=>?_;refine NL ?_;obtain⟨hok,hne2,hA,hki,hge,hit⟩:=PH ha hne hts hm Y;obtain⟨b,hb⟩:∃b,IZ a l1 l2 t (i:Nat) Y=b:=⟨_,rfl⟩;rw[hb]at hok hne2 hA hki hge hit⊢;rw[<-hA];have hgm:a.gens[i]∈a.gens:=Ax hg;have hgr:=hgb _ hgm;rw[<-hge]at hg hgl;have hgq:a.gens[i]=b.gens[i]:=by simp only[hge]
 rw[hgq]at hgr;have hat:(b.gens.map iA)[i]?=some (iA b.gens[i]):=DC _ hg;have hgml:(b.gens.map iA).length=b.gens.length:=AH _;refine FL ?_;refine RU ?_;(repeat first|(refine MK ?_;first|refine BO ?_ (W.idx (a:=i) rfl rfl (by exact As) rfl (by omega) (An _)))|(refine HU ?_;first|refine BO ?_ (W.idx (a:=i) rfl rfl (by exact As) rfl (by omega) (An _)))|refine RK ?_|refine RGo.nil (by kernel_rfl) ?_);dsimp only[BE,List.set_cons_zero,List.set_cons_succ,CI,CD];have hset:(b.gens.map iA).set i (iA (b.gens[i]+1))=(b.gens.set i (b.gens[i]+1)).map iA:=(BC ..).symm;rw[hset];have hsl:b.gens.length=(b.gens.set i (b.gens[i]+1)).length:=List.length_set.symm;obtain⟨b',hb'⟩:∃b':Ar,b'={b with gens:=b.gens.set i (b.gens[i]+1)}:=⟨_,rfl⟩;refine AWP.perm (S':=(K,.row 42 2 ((BF t (i:Nat)).map (AZ false)))::(B,.row 32 2 [CG ⟨i,g⟩])::(arS b'++Sf)) (C1 (by rw[hb'];show _=(K,_)::(B,_)::((arH {b with gens:=b.gens.set i (b.gens[i]+1)}++Ch b.ts)++Sf);rw[arH];dsimp only;rw[<-hsl];rfl)) ?_;refine R1 ?_;refine RT ?_;have hgd:(a.gens[i]?).getD 0=b.gens[i]:=by rw[<-hge,Af hg];rfl
 have hk:KillR a ⟨i,g⟩ b':=by
  rw[hb'];exact⟨⟨hok.tab,hok.ord,hok.keys,hok.ent,hok.g,hok.gn,hok.cnt⟩,hne2,hA,hki,by show b.gens.set i _=a.gens.set ((i:Int).toNat) _;rw[By,hgd];exact EI (λx=>x.set i (b.gens[i]+1)) hge,⟨_,hit⟩⟩
 exact Ends.sp [iA 0] (arS b') ⟨b',hk,rfl,rfl⟩
theorem cj(a:Int):PS prog 277 [iA a] (bA false):=by
 refine Sp (nt:=6) (res:=[.tmp 2]) func277 λSf=>?_
 refine JA ?_;refine Ag ?_;have:decide (a≠a)=false:=Az (by simp);rw[this]
theorem cn(a b:Int):PS prog 276 [iA a,iA b] (bA (decide (a<b))):=by
 refine Sp (nt:=17) (res:=[.tmp 4]) func276 λSf=>?_
 refine R1 ?_;refine JK ?_;refine BU (h:=(PP a)) (k:=?_);refine JE ?_;refine RT ?_;exact Ends.sp [bA (decide (a<b))] [] ⟨rfl,rfl⟩
def PF(l:List Int)(n:Int):Nat:=(l.filter λx=>decide (x<n)).length
theorem Wp{l:List Int}{n:Int}(hi:i<=l.length)(h1:∀k (h:k<l.length),k<i->l[k]<n)(h2:∀k (h:k<l.length),i<=k->n<=l[k]):PF l n=i:=by
 unfold PF
 have e:l.filter (λx=>decide (x<n))=l.take i:=by
  conv=>lhs;rw[<-CJ i l]
  rw[Dr,ES.2,JV.2,BD]
  ·intro x hx
   obtain⟨k,hk,rfl⟩:=Ha.1 hx;rw[DE]at hk;rw[List.getElem_drop];have:=h2 (i+k) (by omega) (by omega);simp;omega
  ·intro x hx
   obtain⟨k,hk,rfl⟩:=EX.1 hx;have:=h1 k (by omega) (by omega);simp;omega
 rw[e,BZ];omega
theorem W5(l:List Int)(n:Int)(hs:l.Pairwise (· < ·))(hl:l.length<=1099511627776):PS prog 271 [Av false l,iA n] (.tup [iA (PF l n:Nat),bA (decide (n∈l))]):=by
 have hml:(l.map iA).length=l.length:=AH _;have hsp:=Bt.1 hs;refine Sp (nt:=54) (res:=[.tmp 4,.tmp 5]) func271 λSf=>?_
 refine R1 ?_;refine JB ?_;refine JJ ?_;rw[hml];refine Ca (λ(i j:Nat)=>⟨[(0,Av false l),(1,iA n),(6,iA l.length),(7,iA i),(8,iA j)],Sf⟩) (λi j=>i<=j/\j<=l.length/\(∀k (h:k<l.length),k<i->l[k]<n)/\∀k (h:k<l.length),j<=k->n<=l[k]) (λi j=>j-i) 0 l.length ⟨Ap _,AP _,λk h1 h2=>absurd h2 (by omega),λk h1 h2=>absurd h2 (by omega)⟩ ?_;rintro i j ⟨hij,hjn,hlo,hhi⟩;refine JN ?_;refine AC rfl (λhc=>?_) (λhc=>?_)
 ·have h:i<j:=by rw[Aj]at hc;omega
  have hmid:((i:Int)+j).fdiv (2^1)=(((i+j)/2:Nat):Int):=by
   rw[FR _ (by decide)];omega
  have hw1:IntKind.u64.wrap ((i:Int)+j)=i+j:=by rw[K0];omega
  have hw2:IntKind.i64.wrap (((i:Int)+j).fdiv (2^1))=((i:Int)+j).fdiv (2^1):=by
   rw[QZ,hmid];omega
  refine JD ?_;(iterate 3 refine WO ?_);refine AI (W.conv .i64 .u64 (by kernel_rfl) (by kernel_rfl) rfl hw1) rfl ?_;refine AI (W.shr 1 rfl rfl rfl (by decide)) rfl ?_;refine AI (W.conv .u64 .i64 (by kernel_rfl) (by kernel_rfl) rfl hw2) rfl ?_;refine JC ?_;rw[hmid];obtain⟨m,hm⟩:=nm ((i+j)/2);rw[hm];have hml2:m<l.length:=by omega
  have hmm:m<(l.map iA).length:=by omega
  have hat:(l.map iA)[m]?=some (iA l[m]):=by rw[Ae,Af hml2];rfl
  have hls:=cn l[m] n;refine JH ?_;refine BP (h:=(hls ..)) (k:=?_);refine NL ?_;refine FL ?_;refine AC rfl (λhe=>?_) (λhe=>?_)
  ·have he:l[m]<n:=AD he
   refine JB ?_;refine Bn (m+1) j ⟨by omega,hjn,λk h1 h2=>?_,hhi⟩;by_cases e:k=m
   ·subst e;exact he
   ·have:=hsp k m h1 hml2 (by omega);omega
  ·have he:¬l[m]<n:=AG he
   refine JB ?_;refine Bn i m ⟨by omega,by omega,hlo,λk h1 h2=>?_⟩;by_cases e:k=m
   ·subst e;omega
   ·have:=hsp m k hml2 h1 (by omega);omega
 ·have h:i=j:=by rw[Ao]at hc;omega
  subst h;have hlw:=Wp hjn hlo hhi;refine FL ?_;by_cases hin:i<l.length
  ·have g1:decide ((i:Int)<(l.length:Nat))=true:=BG (by omega)
   have hmm:i<(l.map iA).length:=by omega
   have hat:(l.map iA)[i]?=some (iA l[i]):=by rw[Ae,Af hin];rfl
   by_cases he:l[i]=n
   ·have g2:decide (l[i]=n)=true:=BG he
    have hmem:decide (n∈l)=true:=BG (by rw[<-he];exact Ax hin);rw[hlw,hmem];refine RG ?_;(repeat first|(refine CS ?_;first|refine Bp ?_|refine Bo ?_)|refine WO ?_|refine Ai λX=>?_|refine Ay λY=>?_);refine NL ?_;refine RT ?_;rw[g1,g2];exact Ends.sp [iA i,bA true] [] ⟨rfl,rfl⟩
   ·have g2:decide (l[i]=n)=false:=Az he
    have hmem:decide (n∈l)=false:=Az λhm=>by
     obtain⟨k,hk,rfl⟩:=Ha.1 hm;rcases Gz k i with h|h
     ·have:=hlo k hk h;omega
     ·have h3:k≠i:=λe=>he (by subst e;rfl)
      have:=hsp i k hin hk (by omega);have:=hhi i hin (AP _);omega
    rw[hlw,hmem];refine JI ?_;refine BU (h:=(cj l[i])) (k:=?_);refine JE ?_;refine RT ?_;rw[g1,g2];exact Ends.sp [iA i,bA false] [] ⟨rfl,rfl⟩
  ·have g1:decide ((i:Int)<(l.length:Nat))=false:=Az (by omega)
   have hmem:decide (n∈l)=false:=Az λhm=>by
    obtain⟨k,hk,rfl⟩:=Ha.1 hm;have:=hlo k hk (by omega);omega
   rw[hlw,hmem];refine RG ?_;(repeat first|(refine CS ?_;first|refine Bp ?_|refine Bo ?_)|refine WO ?_|refine Ai λX=>?_|refine Ay λY=>?_);refine NL ?_;refine RT ?_;rw[g1];exact Ends.sp [iA i,bA false] [] ⟨rfl,rfl⟩
theorem Pq{α:Type}{l:List α}(h:i<l.length)(z:List α):(l.take i++(l.drop (i+1)).take (l.length-(i+1))++z).take (i+(l.length-(i+1)))=l.eraseIdx i:=by
 rw[BB (l:=l.drop (i+1)) (by rw[DE];omega),Fv];rw[DP (by simp;omega),BB (by simp;omega)]
theorem Vz(X n i:Nat)(l:List AV)(hn:n=l.length)(hi:i<n)(hl:n<=1099511627776)(hfr:FreeL l)(hw:∀e∈l,e.width=2):
  Spec prog 55 [.sl X 0 n,iA i,iA ((i:Int)+1)] [(X,.row 42 2 l)] λr S'=>r= .lst true 42 2 (l.eraseIdx i)/\S'=[]:=by
 subst hn;refine Sp (nt:=33) (res:=[.tmp 6]) func55 λSf=>?_
 have h1:((i:Int)+1)=((i+1:Nat):Int):=by omega
 refine R1 ?_;refine RG ?_;(iterate 5 refine WO ?_);refine AI (W.slice3 (lo:=i) (hi:=i+1) (mx:=l.length) rfl rfl rfl rfl (by exact As) rfl h1 rfl (by omega) (by omega) (AP _)) rfl ?_;refine NL ?_;refine R1 ?_;refine AB rfl (Az (by omega)) ?_;refine R1 ?_;have hel:(l.eraseIdx i).length=l.length-1:=List.length_eraseIdx_of_lt hi;rcases Gz (i+1) l.length with hj|hj
 ·have hp:=Pq hi
  refine RU ?_;refine JG ?_;refine RGo.p (W.hi rfl rfl (by exact As) rfl (by omega)) rfl ?_;refine JG ?_;refine RGo.p (W.slice_lo (lo:=i+1) rfl rfl (by exact As) h1 (by omega)) rfl ?_;refine RGo.s (W.appS (l.length-(i+1)) (by omega) (by omega) (by omega) hfr hw rfl rfl (by exact As)) rfl ?_;refine RK ?_;refine RGo.nil (by kernel_rfl) ?_;rw[An];have hln:i+(l.length-(i+1))=l.length-1:=by omega
  have hLl:(l.take i++(l.drop (i+1)).take (l.length-(i+1))++l.drop (i+(l.length-(i+1)))).length=l.length:=by simp only[Ak,BZ,DE];omega
  have hLp:=hp (l.drop (i+(l.length-(i+1))));obtain⟨L',hL'⟩:∃L',l.take i++(l.drop (i+1)).take (l.length-(i+1))++l.drop (i+(l.length-(i+1)))=L':=⟨_,rfl⟩;rw[hL']at hLl hLp⊢
  have key:∀Z D,((L'.take (i+(l.length-(i+1)))++Z)++D).take (i+(l.length-(i+1)))=l.eraseIdx i:=λZ D=>by
   rw[Bg,DP (by rw[BZ];omega),Dy,QW,hLp]
  refine RG ?_;(iterate 4 refine WO ?_);refine AI (bK (lo:=i+(l.length-(i+1))) (hi:=l.length) rfl rfl rfl (by exact As) rfl rfl (by omega) (by omega)) rfl ?_;refine Dl (W.clear rfl (by exact As) (by first|exact .inl rfl|exact .inr rfl) rfl (by omega)) rfl ?_;refine NL ?_;refine R1 ?_;refine FP (X:=X) (i+(l.length-(i+1))) ?_;rw[An,key];refine RT ?_;exact⟨[.sl X 0 (i+(l.length-(i+1)))],[.lst true 42 2 (l.eraseIdx i)],_,[],.cons (.tmp rfl) rfl .nil,.cons (.cell (.sl (p:=0) .here (by rw[hel];omega))) .nil,by exact BH,rfl,rfl⟩
 ·have hie:i=l.length-1:=by omega
  have hl0:l.length-(i+1)=0:=by omega
  have hle:l.eraseIdx i=l.take i:=by rw[Fv,Cm (by omega),BD]
  have key:∀Z D,((l.take i++Z)++D).take i=l.eraseIdx i:=λZ D=>by
   rw[Bg,DP (by rw[BZ];omega),Dy,QW,hle]
  refine RU ?_;refine JG ?_;refine RGo.p (W.hi rfl rfl (by exact As) rfl (by omega)) rfl ?_;refine JG ?_;refine RGo.p (W.slice_lo (lo:=i+1) rfl rfl (by exact As) h1 (by omega)) rfl ?_;rw[hl0];refine RGo.p (W.app0 rfl rfl (by exact As)) rfl ?_;refine RK ?_;refine RGo.nil (by kernel_rfl) ?_;refine RG ?_;(iterate 4 refine WO ?_);refine AI (bK (lo:=i) (hi:=l.length) rfl rfl rfl (by exact As) rfl rfl (by omega) (by omega)) rfl ?_;refine Dl (W.clear rfl (by exact As) (by first|exact .inl rfl|exact .inr rfl) rfl (by omega)) rfl ?_;refine NL ?_;refine R1 ?_;refine FP (X:=X) i ?_;simp only[An];rw[key];refine RT ?_;exact⟨[.sl X 0 i],[.lst true 42 2 (l.eraseIdx i)],_,[],.cons (.tmp rfl) rfl .nil,.cons (.cell (.sl (p:=0) .here (by rw[hel];omega))) .nil,by exact BH,rfl,rfl⟩
theorem YY(l:List Ent)(hl:l.length*16<=140737488355328):PS prog 126 [.lst false 32 2 (l.map CG)] (.lst true 32 2 (l.map CG)):=by
 refine Sp (nt:=8) (res:=[.tmp 2]) func126 λSf=>?_
 (iterate 8 refine WK ?_);refine AOps.isNil λb hb=>?_;refine KK ?_
 refine AC rfl (λhc=>?_) (λhc=>?_)
 ·rw[hb hc]
  refine JA ?_;exact⟨[.prim (.slice none 0 0)],[.lst true 32 2 []],_,[],.cons (.tmp rfl) rfl .nil,.cons (.cell .nil) .nil,by exact BH,rfl,rfl⟩
 ·have hl':(0+(l.map CG).length)*16<=140737488355328:=by simpa using hl
  clear hl
  (iterate 3 refine WK ?_);refine SB λK=>?_;refine KK ?_;refine Ay λY=>?_;refine KK ?_
  refine RT ?_;exact⟨[.sl Y 0 (0+(l.map CG).length)],[.lst true 32 2 (l.map CG)],_,[],.cons (.tmp rfl) rfl .nil,.cons (.cell (.sl (p:=0) .here (by simp))) .nil,by exact BH,rfl,rfl⟩
theorem T9(S:List AS):∀b:List Int,Lds S (b.map iA) (b.map iA)
 |[]=>.nil
 |x::b=>.cons (show Ld S (iA x) (iA x)from .frz (a:=iA x)) (T9 S b)
theorem UO(S:List AS):∀b:List Ent,Lds S (b.map CG) (b.map CG)
 |[]=>.nil
 |x::b=>.cons (show Ld S (CG x) (CG x)from .frz (a:=CG x)) (UO S b)
theorem Pz(X:Nat)(l:List Int)(n:Nat)(hn:n=l.length)(hl:l.length*8<=140737488355328):Spec prog 41 [.sl X 0 n] [(X,.row 3 1 (l.map iA))] λr S'=>r= .lst true 3 1 (l.map iA)/\S'=[(X,.row 3 1 (l.map iA))]:=by
 subst hn;refine PS.lend (HR l hl) (by show ED _=true;rw[L5 (λ_=>rfl)]) (.cons (.sl .here (by simp) ?_) .nil);rw[Cp,BB (by simp)];exact T9 _ _
theorem V7(X:Nat)(l:List Ent)(n:Nat)(hn:n=l.length)(hl:l.length*16<=140737488355328):Spec prog 126 [.sl X 0 n] [(X,.row 32 2 (l.map CG))] λr S'=>r= .lst true 32 2 (l.map CG)/\S'=[(X,.row 32 2 (l.map CG))]:=by
 subst hn;refine PS.lend (YY l hl) (by show ED _=true;rw[L5 (λ_=>rfl)]) (.cons (.sl .here (by simp) ?_) .nil);rw[Cp,BB (by simp)];exact UO _ _
abbrev Ps(l:List Ent):AV:=.lst false 32 2 (l.map CG)
theorem dW(k:StK)(l:List (Int×Ent))(hl:ColOK l):Spec prog 57 [.ptr k.X 0 0] (stE k l) λr S'=>r= .fn 127 [.fp [Av false (Am l)],.fp [Ps (l.map (·.2))]]/\S'=stE k l:=by
 have hlen:=hl.len;have h1:=Pz k.R (Am l) l.length (by simp) (by rw[AH];omega);have h2:=V7 k.V (l.map (·.2)) l.length (by simp) (by rw[AH];omega);have e1:(Am l).map iA=l.map λe=>iA e.1:=Dh
 have e2:(l.map (·.2)).map CG=l.map λe=>CG e.2:=Dh
 rw[e1]at h1;rw[e2]at h2;refine Sp (nt:=16) (res:=[.tmp 2]) func57 λSf=>?_
 refine JN ?_;refine CN λA=>CN λB=>?_
 refine JM ?_;refine S4 h1 .fz ?_;refine KR ?_;refine S4 h2 .fz ?_;(iterate 4 refine RK ?_);refine RGo.nil (by kernel_rfl) ?_;refine FL ?_;refine Gw [3] .here ?_ (by intro d hd;simp only[CX]at hd;subst hd;rfl);refine Gw [4] (.next .here) ?_ (by intro d hd;simp only[CX]at hd;subst hd;rfl);refine R1 ?_;have er:AV.fn 127 [.fp [Av false (Am l)],.fp [Ps (l.map (·.2))]]=AV.fn 127 [.fp [.lst false 3 1 (l.map λe=>iA e.1)],.fp [.lst false 32 2 (l.map λe=>CG e.2)]]:=by rw[Av,Ps,e1,e2]
 rw[er];refine RT ?_;exact Ends.sp [AV.fn 127 [.fp [.lst false 3 1 (l.map λe=>iA e.1)],.fp [.lst false 32 2 (l.map λe=>CG e.2)]]] (stE k l) ⟨rfl,rfl⟩
theorem bE(ks:List Int)(es:List Ent)(hl:ks.length=es.length)(h0:ks.length<=1099511627776):Itr prog 127 [.fp [Av false ks],.fp [Ps es]] ((ks.zip es).map λq=>[iA q.1,CG q.2]):=by
 have hkm:(ks.map iA).length=ks.length:=AH _;have hem:(es.map CG).length=es.length:=AH _;refine⟨by kernel_rfl,λy J Jx hY Sl hJ0=>?_⟩;refine Sp (nt:=22) (res:=[]) func127 λSf=>?_
 refine JN ?_;refine Ca (λ(i:Nat) (Sl:List AS)=>⟨[(0,.prim y),(2,.fp [Ps es]),(6,Av false ks),(7,iA (ks.map iA).length),(8,iA i)],Sl++Sf⟩) (λi Sl=>i<=ks.length/\J i Sl) (λi _=>ks.length-i) 0 Sl ⟨Ap _,hJ0⟩ ?_;rintro i Sl ⟨hi,hJ⟩;refine JN ?_;refine AC rfl (λhc=>?_) (λhc=>?_)
 ·have h:i<ks.length:=by rw[Aj,hkm]at hc;omega
  have he:i<es.length:=by omega
  have hat:(ks.map iA)[i]?=some (iA ks[i]):=DC _ h;have hil:i<(ks.map iA).length:=by omega
  have hat2:(es.map CG)[i]?=some (CG es[i]):=DC _ he;have hil2:i<(es.map CG).length:=by omega
  have hyi:((ks.zip es).map λq=>[iA q.1,CG q.2])[i]?=some [iA ks[i],CG es[i]]:=by
   rw[Ae,Af (by rw[LM];omega),List.getElem_zip];rfl
  obtain⟨k,hk⟩:=nm (ks[i]);obtain⟨e,hee⟩:=nm (es[i]);rw[hk]at hat hyi;rw[hee]at hat2 hyi;refine JB ?_;refine JH ?_;refine Uk (Si:=[]) hY hJ hyi (λSl' hk=>?_) (λSl' hk=>?_)
  ·refine WO ?_
   refine AOps.nil ?_;refine FL ?_;refine AB rfl rfl ?_;refine KK ?_;refine Bn (i+1) Sl' ⟨h,hk⟩
  ·refine WO ?_
   refine AOps.nil ?_;refine FL ?_;refine Aq rfl rfl ?_
   skip
   refine RT ?_;exact B4 Sl' (.inr hk)
 ·have h:i=ks.length:=by rw[Ao,hkm]at hc;omega
  subst h;refine KK ?_;refine Eb ?_;exact B4 Sl (.inl (by rw[AH,LM,<-hl,QW];exact hJ))
theorem W.makeMap{P:Program}{ty t k e:TypeId}{pos:String}{after:Array Edge}{dst:Option Tmp}{c:Option (List Bool)}{g:Option (Nat×Bool)}{T:List (Nat×AV)}{S:List AS}{X p:Nat}{z0:Value}[TMap P t k e z0](hS:At S p (X,.gone)):Stp c P ⟨dst,.makeMap t none,ty,pos,after,g⟩ T S [] [(p,(X,.gone))] (.mp X) [(p,(X,.ob (MapF P k e (λ_=>none) 0)))]:=⟨.makeMap (TMap.h (z0:=z0)),.nil,.cons hS .nil⟩
theorem ArOK.keys_items(h:ArOK a):Cn a.ts=(B0 a.ts).map (·.ent.n):=by
 rw[Cn,B0,List.map_flatMap]
 have:∀ts:List Tab,(∀t∈ts,∀e∈t.es,e.1=e.2.n)->(ts.flatMap λt=>Am t.es)=ts.flatMap λt=>(D2 t).map (·.ent.n):=by
  intro ts
  induction ts with
  |nil=>intro _;rfl
  |cons t ts ih=>
   intro hh;rw[CP,CP,ih λu hu=>hh u (by simp[hu])]
   congr 1
   rw[D2,Dh];exact D4 λe he=>hh t (by simp) e he
 exact this a.ts h.ent
theorem WdOK.cl(h:WdOK w):∀it∈w.items,it.comps.length<=16:=λit hi=>by
 obtain⟨_,_,_,_,e⟩:=h.it it hi;obtain⟨h1,h2⟩:=held_iff.1 e;have h16:=(DX h.ks).1;have:=Km (λc:Comp=>c.kind) w.kinds.length it.comps (h1.imp λ{a b} hab e=>by omega) (λc hc=>⟨(h2 c hc).1,(h2 c hc).2.1⟩);omega
theorem fZ(w:Wd)(hw:WdOK w):Spec prog 16 [wdA false w] [] λr S'=>∃b:Ar,(ArOK b/\II b.ts/\b.kinds=w.kinds/\b.gens=w.gens/\(B0 b.ts).Perm w.items)/\r= .tup [.ptr b.A 0 0,iA 0]/\S'=arS b:=by
 have hL:=hw.wl;have hgl:=hw.gl;have hil:=hw.il;have hsok:=hw.so;have hit:=hw.it;have hkp:=Kq w.kinds (by have:=(DX hw.ks).1;omega) (λk hk=>by have:=(GY ((DX hw.ks).2 k hk)).2.1;omega);have hcl:=HR w.gens (by omega);have hck:=F9 w (by omega) (by omega) (λit hi=>(hL.items.2 it hi).1);rw[(Cg w).2 hw]at hck;have hcc:=hw.cl;have hcp:∀it∈w.items,PS prog 42 [B3 false false it.comps] (B3 true false it.comps):=λit hi=>F6 it.comps (hL.items.2 it hi).1 (hL.items.2 it hi).2
 have hime:(w.items.map (AN false)).length=w.items.length:=AH _;obtain⟨ks,gs,its⟩:=w;dsimp only at*;refine Sp (nt:=38) (res:=[.tmp 2,.tmp 3]) func16 λSf=>?_
 refine JF ?_;refine Ai λD=>?_;refine JE ?_
 refine JK ?_;refine BU (h:=(hck ..)) (k:=?_);refine JC ?_;refine JJ ?_;refine AB rfl rfl ?_;refine FL ?_;have hgm:(gs.map iA).length=gs.length:=AH _;refine CN λA=>CN λG=>CN λO=>?_
 refine JM ?_;refine JS (h:=(hkp ..)) (k:=?_);refine KR ?_;refine S4 hcl (.ls (Y:=G)) ?_;refine HZ ?_ (W.makeMap (X:=O) (by exact As));refine RK ?_;refine HZ ?_ (W.box (X:=A) rfl (by exact As) rfl);refine RK ?_;refine RGo.nil (by kernel_rfl) ?_;refine FL ?_;refine CY (Y:=A) 117 1 (by exact As) (λTb=>.cons (.agg (.s (.s (.cons (.base .nil) .r)))) .nil) λTb=>?_
 rw[hgm];refine AWP.note (λ_ _=>False) (λ_ _ h=>h) λTv=>?_
 refine JN ?_;refine BV Tb ?_;refine BV Tv ?_;refine BV O ?_;refine BV G ?_;refine BV A ?_;refine BV D ?_;refine Ca (λ(i:Nat) (b:Ar)=>⟨[(5,.ptr A 0 0),(23,J9 false false its),(24,iA (its.map (AN false)).length),(25,iA i)],(D,.row 26 3 [wdA false ⟨ks,gs,its⟩])::(arS b++Sf)⟩) (λi b=>i<=its.length/\ArOK b/\II b.ts/\b.A=A/\b.kinds=ks/\b.gens=gs/\(B0 b.ts).Perm (its.take i)) (λi _=>its.length-i) 0 ⟨A,G,Tb,O,Tv,λ_ _=>False,λ_=>none,0,ks,gs,[]⟩ ⟨by omega,⟨by simp,.nil,.nil,by simp,by simp,by simp,rfl⟩,(by intro t ht;cases ht),rfl,rfl,rfl,.refl _⟩ ?_;rintro i b ⟨hi,hok,hne,hA,hbk,hbg,hpm⟩;subst hA;refine JN ?_;refine AC rfl (λh=>?_) (λh=>?_)
 ·have h:i<its.length:=by rw[Aj,hime]at h;omega
  have hat:(its.map (AN false))[i]?=some (AN false its[i]):=DC _ h;have hil:i<(its.map (AN false)).length:=by omega
  have him:=Ax h;obtain⟨it1,it2,_⟩:=hit _ him;have hcpi:=hcp _ him
  have hfr:its[i].ent.n∉Cn b.ts:=by
   rw[hok.keys_items];intro hm;obtain⟨x,hx,e⟩:=Ad.1 hm;have hx:=hpm.mem_iff.1 hx;obtain⟨j,hj,rfl⟩:=EX.1 hx;have:=Bt.1 hsok j i (by omega) h (by omega);omega
  have had:=QC b its[i].ent its[i].comps hok hne ⟨it1,by omega⟩ hfr (hcc _ him);have htk:its.take (i+1)=its.take i++[its[i]]:=A6 h;obtain⟨⟨ie,ic⟩,hie⟩:=nm (its[i]);rw[hie]at hat hcpi had htk;refine JH ?_;refine Ai λC=>?_;refine JC ?_
  refine FL ?_;(repeat refine WF ?_);refine GR 6 (by kernel_rfl) (by kernel_rfl) (by kernel_rfl) ?_;dsimp only[List.take,List.drop];refine KR ?_;refine JS (h:=(hcpi ..)) (k:=?_);refine RGo.nil (by kernel_rfl) ?_;refine Gx [_,_] (h:=had) λb' hb'=>?_
  obtain⟨k1,k2,k3,k4,k5,k6⟩:=hb';refine AOps.nil ?_;refine JB ?_
  exact Bn (i+1) b' ⟨by omega,k1,k2,k3,k4.trans hbk,k5.trans hbg,by
   rw[htk];exact k6.trans ((hpm.cons _).trans (List.perm_append_singleton _ _).symm)⟩ (by omega)
 ·have h:i=its.length:=by rw[Ao,hime]at h;omega
  subst h;rw[B9]at hpm;refine JL ?_;exact Ends.sp [.ptr b.A 0 0,iA 0] (arS b) ⟨b,⟨hok,hne,hbk,hbg,hpm⟩,rfl,rfl⟩
theorem af(a:Ar)(ha:ArOK a)(e:Ent)(k:Int)(hn:I64 e.n)(hh:KA a e=false):Spec prog 261 [.ptr a.A 0 0,CG e,iA k] (arS a) λr S'=>r=iA 4/\S'=arS a:=by
 have hs:=NT a ha e hn;rw[hh]at hs;refine Sp (nt:=41) (res:=[.tmp 6]) func261 λSf=>?_
 refine JF ?_;refine Ai λB=>?_;refine JC ?_
 refine JK ?_;refine WO ?_;refine Hb [_] hs ?_;refine JC ?_;refine Aq rfl rfl ?_;refine JL ?_;exact Ends.sp [iA 4] (arS a) ⟨rfl,rfl⟩
theorem ArOK.ptr(h:ArOK a)(ht:t∈a.ts){n:Int}(hn:n∈Am t.es):∃u,(a.g n).getD (.pointer none)=u/\u.oneCell'=true/\a.K (.ptr t.X 0 0) u:=by
 have hsm:=h.gn n (CA.2 ⟨t,ht,hn⟩);obtain⟨u,hu⟩:∃u,a.g n=some u:=IE.1 hsm;obtain⟨w,hw,hwn,hK,b,hb⟩:=h.g n u hu;have:=h.uniq hw ht hwn hn;subst this;exact⟨u,by rw[hu];rfl,by rw[hb];rfl,hK⟩
theorem Pd{a b:Ar}(ha:ArOK a)(hb:ArOK b){l:List Comp}(hit:(B0 a.ts).Perm (⟨e,l⟩::B0 b.ts)):e.n∉Cn b.ts:=by
 have h1:=ha.keys;rw[ha.keys_items]at h1;have h2:=(hit.map λit:Item=>it.ent.n).nodup_iff.1 h1;rw[hb.keys_items];exact(Bq.1 h2).1
theorem T1{l:List Int}{k:Int}(hs:l.Pairwise (· < ·))(h:k∈l):∃hl:PF l k<l.length,l[PF l k]=k:=by
 obtain⟨i,hi,rfl⟩:=Ha.1 h;have hsp:=Bt.1 hs
 have e:=Wp (l:=l) (n:=l[i]) (i:=i) (by omega) (λj hj hlt=>hsp j i hj hi hlt) (λj hj hle=>by
  rcases Nat.lt_or_eq_of_le hle with h|rfl
  ·have:=hsp i j hi hj h;omega
  ·exact Int.le_refl _)
 exact⟨by rw[e];exact hi,by simp only[e]⟩
structure SwapR(a:Ar)(e:Ent)(l l':List Comp)(b:Ar):Prop where
 ok:ArOK b
 ne:II b.ts
 A:b.A=a.A
 kinds:b.kinds=a.kinds
 gens:b.gens=a.gens
 items:∃r,(B0 a.ts).Perm (⟨e,l⟩::r)/\(B0 b.ts).Perm (⟨e,l'⟩::r)
theorem YP(a:Ar)(ha:ArOK a)(hne:II a.ts)(e:Ent)(k:Int)(hn:I64 e.n)(hkl:I64 k)(hh:KA a e=true){l1 l2:List Tab}(hts:a.ts=l1++t::l2)(hm:(e.n,e)∈t.es)(hks:t.ks.Pairwise (· < ·)):Spec prog 261 [.ptr a.A 0 0,CG e,iA k] (arS a) λr S'=>∃b:Ar,(if k∈t.ks then SwapR a e (BF t e.n) ((BF t e.n).eraseIdx (PF t.ks k)) b else b=a)/\r=iA (if k∈t.ks then 0 else 4)/\S'=arS b:=by
 have htm:t∈a.ts:=by rw[hts];simp
 have hto:=ha.tab t htm;have hnk:e.n∈Am t.es:=Ad.2 ⟨_,hm,rfl⟩;have hnl:=hto.es.lt _ hnk;have hs:=NT a ha e hn;rw[hh]at hs;have hbs:=W5 t.ks k hks (by have:=hto.ks;omega);obtain⟨u,hgd,hone,hK⟩:=ha.ptr htm hnk;refine Sp (nt:=41) (res:=[.tmp 6]) func261 λSf=>?_
 refine JF ?_;refine Ai λB=>?_;refine JC ?_
 refine JK ?_;refine WO ?_;refine Hb [_] hs ?_;refine JC ?_;refine AB rfl rfl ?_;refine FL ?_;refine AWP.perm (A9 _ (Hk hts Sf)) ?_;refine RU ?_;(iterate 6 refine RK ?_);refine BO ?_ (W.lookP (.ptr t.X 0 0) hgd hn hone hK rfl rfl (by exact As) (by exact As));refine KR ?_;refine FO (h:=(hbs ..)) (k:=?_);(iterate 5 refine RK ?_);refine RGo.nil (by kernel_rfl) ?_;by_cases hk:k∈t.ks
 ·rw[BG hk]
  simp only[AY hk];refine JB ?_;refine AB rfl rfl ?_;refine FL ?_;refine AWP.perm (A9 _ (Hk hts Sf).symm) ?_;(repeat refine WF ?_);have htk:=SF a ha hne hts hnk;obtain⟨i,hi⟩:=nm (PF t.ks k);rw[hi];obtain⟨hil,hik⟩:=T1 hks hk;rw[hi]at hil;have htl:(BF t e.n).length=t.ks.length:=by unfold BF;rw[AH,LM];have:=hto.len;omega
  have h16:=hto.ks;refine AWP.region_runH (n:=1) [(B,.row 32 2 [CG e])] (arS a++Sf) rfl (by kernel_rfl) (by kernel_rfl) ?_;refine Cj ?_;refine Cj ?_;refine Cj ?_;refine Cj ?_;refine Cj ?_;refine FY [32,34] ?_;refine Cj ?_;refine Cj ?_;refine Cj (h:=Bw ((i:Int)+1) (by omega) (by omega) rfl rfl) ?_;refine FY [35,36,38] ?_;refine FY [30,31,39] ?_;refine RGoH.nil (by kernel_rfl) (by kernel_rfl) (by kernel_rfl) ?_;refine HC.step [(32,.ptr a.A 0 0),(34,iA e.n)] ⟨rfl,rfl,rfl,rfl,CZ⟩ λT F=>?_
  refine QS F htk λY _ K=>?_;obtain⟨hok,hne2,hA,hki,hge,hit⟩:=PH ha hne hts hm Y;obtain⟨b,hb⟩:=nm (IZ a l1 l2 t e.n Y);rw[hb]at hok hne2 hA hki hge hit⊢;refine AOps.perm List.perm_middle.symm ?_;refine AOps.nil ⟨rfl,_,_,⟨λd v h=>h,.refl _⟩,?_⟩;have hdl:=Vz K (BF t e.n).length i ((BF t e.n).map (AZ false)) (AH _).symm (by omega) (by omega) (V1 _) (YT _);rw[<-Jj]at hdl;refine HC.step [(35,.sl K 0 ((BF t e.n).map (AZ false)).length),(36,iA i),(38,iA ((i:Int)+1))] ⟨rfl,rfl,rfl,rfl,rfl,rfl,CZ⟩ λT2 F2=>?_
  rw[AH];refine dr F2 hdl ?_ (R:=arS b++Sf);refine AOps.nil ⟨rfl,_,_,⟨λd v h=>h,.refl _⟩,?_⟩;rw[<-hA];refine HC.step [(30,.ptr b.A 0 0),(31,CG e),(39,B3 false false ((BF t e.n).eraseIdx i))] ⟨rfl,rfl,rfl,rfl,rfl,rfl,CZ⟩ λT3 F3=>?_
  have had:=QC b e ((BF t e.n).eraseIdx i) hok hne2 hnl (Pd ha hok hit) (by rw[List.length_eraseIdx];split<;>omega);refine Gx F3 had λb2 hb2=>?_;refine AOps.nil ⟨rfl,_,_,⟨λd v h=>h,.refl _⟩,?_⟩;show andThen _ _ _ _
  refine JL ?_;obtain⟨g1,g2,g3,g4,g5,g6⟩:=hb2;exact Ends.sp [iA 0] (arS b2) ⟨b2,⟨g1,g2,g3.trans hA,g4.trans hki,g5.trans hge,_,hit,g6⟩,rfl,rfl⟩
 ·rw[Az hk]
  simp only[AM hk];refine JB ?_;refine Aq rfl rfl ?_;refine FL ?_;refine AWP.perm (A9 _ (Hk hts Sf).symm) ?_;refine R1 ?_;refine RT ?_;exact Ends.sp [iA 4] (arS a) ⟨a,rfl,rfl,rfl⟩
section
abbrev setT(t:Tab)(m1 m2:List (StK×List (Int×List Int)))(k:StK)(l:List (Int×List Int))(n:Int)(v:List Int):Tab:=⟨t.X,t.ks,t.ek,t.es,m1++(k,Db l n v)::m2⟩
section
variable {t:Tab}{m1 m2:List (StK×List (Int×List Int))}{c:StK×List (Int×List Int)}{k:StK}{n:Int}{v:List Int}
theorem TabOK.setT(h:TabOK t)(hcs:t.cs=m1++c::m2)(hn:n∈Am t.es):TabOK (setT t m1 m2 k c.2 n v):=by
 have hcm:c∈t.cs:=by rw[hcs];simp
 have hnl:=h.es.lt n hn
 have hmem:∀d,d∈m1++(k,Db c.2 n v)::m2->d=(k,Db c.2 n v)\/d∈t.cs:=λd hd=>by
  rw[hcs];rcases AL.1 hd with hd|hd
  ·exact .inr (by simp[hd])
  ·rcases AQ.1 hd with hd|hd
   ·exact .inl hd
   ·exact .inr (by simp[hd])
 refine⟨by have:=h.len;rw[hcs]at this;simpa using this,h.ks,h.es,λd hd=>?_,λd hd m=>?_⟩
 ·rcases hmem d hd with rfl|hd
  ·exact(h.cs c hcm).put hnl v
  ·exact h.cs d hd
 ·rcases hmem d hd with rfl|hd
  ·show m∈Am (Db c.2 n v)↔_
   rw[IU ((h.keys c hcm n).2 hn)];exact h.keys c hcm m
  ·exact h.keys d hd m
theorem TZ{β γ:Type}{ks:List β}{m1 m2:List γ}{c d:γ}{f:β×γ->Comp}:(ks.zip (m1++d::m2)).map f=match ks[m1.length]? with|some k=>((ks.zip (m1++c::m2)).map f).set m1.length (f (k,d))|none=>(ks.zip (m1++c::m2)).map f:=by
 induction m1 generalizing ks with
 |nil=>cases ks<;>rfl
 |cons x m1 ih=>
  cases ks with
  |nil=>rfl
  |cons y ks=>
   simp only[CI,List.zip_cons_cons,Aa,DM,List.getElem?_cons_succ];rw[ih];cases ks[m1.length]? with
   |none=>rfl
   |some k=>rfl
theorem TN(h:TabOK t)(hcs:t.cs=m1++c::m2)(hn:n∈Am t.es){z:Int}(hz:t.ks[m1.length]?=some z):BF (setT t m1 m2 k c.2 n v) n=(BF t n).set m1.length ⟨z,v⟩:=by
 unfold BF;rw[TZ (c:=c) (d:=(k,Db c.2 n v)),hcs,hz];dsimp only;rw[LA (h.cs c (by rw[hcs];simp)) (h.es.lt n hn),AY rfl];rfl
theorem TM(h:TabOK t)(hcs:t.cs=m1++c::m2)(hn:n∈Am t.es){m:Int}(hne:m≠n):BF (setT t m1 m2 k c.2 n v) m=BF t m:=by
 unfold BF;rw[TZ (c:=c) (d:=(k,Db c.2 n v)),hcs];cases hz:t.ks[m1.length]? with
 |none=>rfl
 |some z=>
  dsimp only;rw[LA (h.cs c (by rw[hcs];simp)) (h.es.lt n hn),AM hne];refine Fu λj=>?_
  rw[List.getElem?_set];split
  ·rename_i e
   subst e;split
   ·rw[Ae,(List.getElem?_zip_eq_some (z:=(z,c))).2 ⟨hz,by simp⟩]
    rfl
   ·rename_i hlt
    rw[CT (by omega)]
  ·rfl
theorem Uy(h:TabOK t)(hcs:t.cs=m1++c::m2)(hm:(n,e)∈t.es){z:Int}(hz:t.ks[m1.length]?=some z):(D2 (setT t m1 m2 k c.2 n v)).Perm (⟨e,(BF t n).set m1.length ⟨z,v⟩⟩::D2 (Ge t n)):=by
 have hn:n∈Am t.es:=Ad.2 ⟨_,hm,rfl⟩;have hp:=Fj h.es hm;have h1:=hp.map λp:Int×Ent=>(⟨p.2,BF (setT t m1 m2 k c.2 n v) p.1⟩:Item)
 refine h1.trans ?_;rw[Aa,TN h hcs hn hz];refine A9 _ (C1 ?_);show _=(C5 t.es n).map λp=>(⟨p.2,BF (Ge t n) p.1⟩:Item)
 refine D4 λp hp'=>?_
 have hk:p.1∈Am (C5 t.es n):=Ad.2 ⟨p,hp',rfl⟩;have hne:=((GX h.es).1 hk).2;rw[Ng h hne,TM h hcs hn hne]
end
section
variable {a:Ar}{l1 l2:List Tab}{t:Tab}{m1 m2:List (StK×List (Int×List Int))}{c:StK×List (Int×List Int)}{k:StK}{n:Int}{v:List Int}
theorem aE:Cn (l1++setT t m1 m2 k c.2 n v::l2)=Cn (l1++t::l2):=by
 rw[EU,Ew,EU,Ew]
theorem ArOK.setT(h:ArOK a)(hts:a.ts=l1++t::l2)(hcs:t.cs=m1++c::m2)(hn:n∈Am t.es):ArOK {a with ts:=l1++Go.Proofs.YtmkahplhnbbgmaaGreat.setT t m1 m2 k c.2 n v::l2}:=by
 have htm:t∈a.ts:=by rw[hts];simp
 have hmem:∀u,u∈l1++Go.Proofs.YtmkahplhnbbgmaaGreat.setT t m1 m2 k c.2 n v::l2->u=Go.Proofs.YtmkahplhnbbgmaaGreat.setT t m1 m2 k c.2 n v\/u∈a.ts:=λu hu=>by
  rw[hts];rcases AL.1 hu with hu|hu
  ·exact .inr (by simp[hu])
  ·rcases AQ.1 hu with hu|hu
   ·exact .inl hu
   ·exact .inr (by simp[hu])
 have hk:Cn (l1++Go.Proofs.YtmkahplhnbbgmaaGreat.setT t m1 m2 k c.2 n v::l2)=Cn a.ts:=by rw[hts,aE]
 refine⟨λu hu=>?_,?_,by show(Cn _).Nodup;rw[hk];exact h.keys,λu hu=>?_,λm u hg=>?_,λm hm'=>h.gn m (by rw[<-hk];exact hm'),by show a.c=(Cn _).length;rw[hk];exact h.cnt⟩
 ·rcases hmem u hu with rfl|hu
  ·exact(h.tab t htm).setT hcs hn
  ·exact h.tab u hu
 ·have ho:=h.ord
  rw[hts]at ho;rw[Bi,Al]at ho⊢
  exact⟨ho.1,⟨λx hx=>ho.2.1.1 x hx,ho.2.1.2⟩,λx hx y hy=>by
   rcases AQ.1 hy with rfl|hy
   ·exact ho.2.2 x hx t (by simp)
   ·exact ho.2.2 x hx y (by simp[hy])⟩
 ·rcases hmem u hu with rfl|hu
  ·exact h.ent t htm
  ·exact h.ent u hu
 ·obtain⟨w,hw,h2,h3,h4⟩:=h.g m u hg
  rw[hts]at hw;rcases AL.1 hw with hw|hw
  ·exact⟨w,by simp[hw],h2,h3,h4⟩
  ·rcases AQ.1 hw with rfl|hw
   ·exact⟨Go.Proofs.YtmkahplhnbbgmaaGreat.setT w m1 m2 k c.2 n v,by simp,h2,h3,h4⟩
   ·exact⟨w,by simp[hw],h2,h3,h4⟩
theorem YA(h:ArOK a)(hts:a.ts=l1++t::l2)(hcs:t.cs=m1++c::m2)(hm:(n,e)∈t.es){z:Int}(hz:t.ks[m1.length]?=some z):(B0 (l1++Go.Proofs.YtmkahplhnbbgmaaGreat.setT t m1 m2 k c.2 n v::l2)).Perm (⟨e,(BF t n).set m1.length ⟨z,v⟩⟩::B0 (l1++Ge t n::l2)):=by
 have hto:=h.tab t (by rw[hts];simp);rw[D0,EE,D0,EE];refine(((Uy hto hcs hm hz).append_right _).append_left _).trans ?_;exact D6 (B0 l1) [(⟨e,(BF t n).set m1.length ⟨z,v⟩⟩:Item)] (D2 (Ge t n)++B0 l2)
theorem eQ(hne:II a.ts)(hts:a.ts=l1++t::l2):II (l1++Go.Proofs.YtmkahplhnbbgmaaGreat.setT t m1 m2 k c.2 n v::l2):=λu hu=>by
 have h:∀w∈l1++t::l2,w.es≠[]:=by rw[<-hts];exact hne
 rcases AL.1 hu with hu|hu
 ·exact h u (by simp[hu])
 ·rcases AQ.1 hu with rfl|hu
  ·exact h t (by simp)
  ·exact h u (by simp[hu])
end
end
section
structure ArFor(a:Ar)(w:Wd):Prop where
 ok:ArOK a
 ne:II a.ts
 kinds:a.kinds=w.kinds
 gens:a.gens=w.gens
 items:(B0 a.ts).Perm w.items
 wok:WdOK w
theorem PE{k:Int}:∀{l:List Comp},Ee l->PF (l.map (·.kind)) k=Ey l k
 |[],_=>rfl
 |x::l,h=>by
  obtain⟨h1,h2⟩:=Al.1 h;have ih:=PE (k:=k) h2;unfold PF at ih⊢;unfold Ey at ih⊢;rw[Aa,FU,H4];by_cases e:x.kind<k
  ·simp only[e,decide_true,Ga,DM,ih]
  ·simp only[e,decide_false,Ut,if_false,Ei]
   rw[GJ,JV];intro y hy;obtain⟨c,hc,rfl⟩:=Ad.1 hy;have:=h1 c hc;simp only[Aj];omega
theorem Px{l:List Comp}(h:Ee l){k:Int}:(DW l k).isSome=true↔k∈l.map (·.kind):=by
 constructor
 ·intro e
  obtain⟨c,hc⟩:=IE.1 e;obtain⟨hm,hk⟩:=(GU h).1 hc;exact Ad.2 ⟨c,hm,hk⟩
 ·intro e
  obtain⟨c,hm,hk⟩:=Ad.1 e;rw[(GU h).2 ⟨hm,hk⟩];rfl
theorem FI(h:TabOK t)(n:Int):(BF t n).map (·.kind)=t.ks:=by
 have hl:=h.len;refine Dj (by simp[BF];omega) λi h1 h2=>?_
 rw[GQ,HF (by simpa using h1) h2 (by omega)]
section
variable {a:Ar}{w:Wd}
theorem ArFor.item(h:ArFor a w)(ht:t∈a.ts)(hm:(e.n,e)∈t.es):∃i:Nat,w.items[i]?=some ⟨e,BF t e.n⟩:=by
 have h1:(⟨e,BF t e.n⟩:Item)∈B0 a.ts:=CA.2 ⟨t,ht,Ad.2 ⟨_,hm,rfl⟩⟩;obtain⟨i,hi,e1⟩:=Br (h.items.mem_iff.1 h1);exact⟨i,by rw[Af hi,e1]⟩
theorem ArFor.held(h:ArFor a w)(ht:t∈a.ts)(hm:(e.n,e)∈t.es):Cb w.kinds (BF t e.n)=true:=by
 obtain⟨i,hi⟩:=h.item ht hm;exact(h.wok.it _ (Bb hi)).2.2.2.2
theorem ArFor.sort(h:ArFor a w)(ht:t∈a.ts)(hm:(e.n,e)∈t.es):Ee (BF t e.n):=(held_iff.1 (h.held ht hm)).1
theorem Oo(ht:TabOK t){n:Int}(hs:Ee (BF t n)):t.ks.Pairwise (· < ·):=by
 rw[<-FI ht n];exact HE.2 hs
theorem ArFor.hasE(h:ArFor a w)(hh:KA a e=false):Em w.items e<0:=by
 by_cases hlt:Em w.items e<0
 ·exact hlt
 ·obtain⟨m,hm⟩:∃m:Nat,Em w.items e=m:=⟨(Em w.items e).toNat,by omega⟩
  obtain⟨x,hx,_,rfl⟩:=KF hm;unfold KA at hh;rw[Ao]at hh;exact absurd (Ad.2 ⟨x,h.items.mem_iff.2 (Bb hx),rfl⟩) hh
theorem ZY{w:List Item}{x y:Item}(h:w[i]?=some x){l r:List Item}(h1:l.Perm (x::r))(h2:l.Perm w):(y::r).Perm (w.set i y):=by
 obtain⟨hl,_⟩:=AE.1 h;have e1:=Om h;have e2:w.set i y=w.take i++y::w.drop (i+1):=List.set_eq_take_append_cons_drop.trans (AY hl);rw[e2];refine LO ?_ List.perm_middle.symm;refine A9 _ ?_;have h3:(x::r).Perm (x::(w.take i++w.drop (i+1))):=h1.symm.trans (h2.trans ((C1 e1).trans OH));exact h3.cons_inv
theorem Tm{w:List Item}{x:Item}(h:w[i]?=some x){l r:List Item}(h1:l.Perm (x::r))(h2:l.Perm w):r.Perm (w.eraseIdx i):=by
 have e1:=Om h;have h3:(x::r).Perm (x::(w.take i++w.drop (i+1))):=h1.symm.trans (h2.trans ((C1 e1).trans OH));rw[Fv];exact h3.cons_inv
theorem ArFor.swap(h:ArFor a w){l l':List Comp}{b:Ar}(hs:SwapR a e l l' b)(hi:w.items[i]?=some ⟨e,l⟩)(hc:Cb w.kinds l'=true):ArFor b (GO w i l'):=by
 obtain⟨r,h1,h2⟩:=hs.items;have hk:(GO w i l').kinds=w.kinds:=rfl;refine⟨hs.ok,hs.ne,by rw[hs.kinds,h.kinds];rfl,by rw[hs.gens,h.gens];rfl,?_,Lq h.wok hi hc⟩;rw[Lr hi];exact h2.trans (ZY hi h1 h.items)
theorem ArFor.kill(h:ArFor a w){b:Ar}(hs:KillR a e b)(hh:KA a e=true):(HJ w e).2=0/\ArFor b (HJ w e).1:=by
 obtain⟨l,h1⟩:=hs.items;have hm:(⟨e,l⟩:Item)∈w.items:=h.items.mem_iff.1 (h1.mem_iff.2 (by simp));obtain⟨i,hi,e1⟩:=Br hm;have hi:w.items[i]?=some ⟨e,l⟩:=by rw[Af hi,e1]
 have hk:=RV h.wok hi;have hw:=Wr h.wok hi;dsimp only at hk hw;rw[hk];refine⟨rfl,hs.ok,hs.ne,by rw[hs.kinds,h.kinds],?_,Tm hi h1 h.items,hw⟩;rw[hs.gens,h.gens,EH]
theorem ArFor.used(h:ArFor a w)(n:Nat):(a.g n).isSome=Kc w.items n:=by
 have hk:(n:Int)∈Cn a.ts↔Kc w.items n=true:=by
  rw[h.ok.keys_items];unfold Kc;rw[Es];constructor
  ·intro hm
   obtain⟨x,hx,e⟩:=Ad.1 hm;exact⟨x,h.items.mem_iff.1 hx,by simpa using e⟩
  ·rintro⟨x,hx,e⟩
   exact Ad.2 ⟨x,h.items.mem_iff.2 hx,by simpa using e⟩
 by_cases hu:(n:Int)∈Cn a.ts
 ·rw[h.ok.gn _ hu,hk.1 hu]
 ·have h2:Kc w.items n=false:=by rw[<-OI];exact λe=>hu (hk.2 e)
  rw[h2];cases hg:a.g n with
  |none=>rfl
  |some u=>
   obtain⟨t,ht,hm,_⟩:=h.ok.g _ _ hg;exact absurd (CA.2 ⟨t,ht,hm⟩) hu
end
end
theorem eK(a:Ar)(ha:ArOK a)(e:Ent)(c:Comp)(hn:I64 e.n)(hh:KA a e=false):Spec prog 260 [.ptr a.A 0 0,CG e,AZ false c] (arS a) λr S'=>r=iA 4/\S'=arS a:=by
 have hs:=NT a ha e hn;rw[hh]at hs;refine Sp (nt:=77) (res:=[.tmp 6]) func260 λSf=>?_
 refine RG ?_;(repeat first|refine WO ?_|refine Ai λB=>?_|refine Ay λY=>?_);refine NL ?_;refine JK ?_;refine WO ?_;refine Hb [_,_] hs ?_;refine JC ?_;refine Aq rfl rfl ?_;refine JL ?_;exact Ends.sp [iA 4] (arS a) ⟨rfl,rfl⟩
theorem cT(a b:Comp):PS prog 273 [AZ false a,AZ false b] (iA (EN a.kind b.kind)):=by
 refine Sp (nt:=10) (res:=[.tmp 4]) func273 λSf=>?_
 refine WK ?_;refine WK ?_;refine BS ?_;refine BS ?_;refine KK ?_;refine BP (h:=(Fq a.kind b.kind)) (k:=?_);refine JA ?_;refine Ag ?_;rfl
theorem Y8{c:Comp}{fl:List Comp}(h:EO ks [c]=(fl,0)):∃v,fl=[⟨c.kind,v⟩]:=by
 unfold EO at h;split at h
 ·rename_i h1;injection h with h2 h3;exact absurd h3 h1
 split at h
 ·rename_i h1;injection h with h2 h3;exact absurd h3 h1
 rename_i h0 h1;injection h with h2 h3
 have h1:(E8 ks [] [] [c]).2=0:=DU.1 h1;rw[<-h2];rw[E8]at h1⊢;split at h1
 ·cases h1
 ·rename_i g1
  rw[AM g1];split at h1
  ·cases h1
  ·rename_i g2
   rw[AM g2];split at h1
   ·cases h1
   ·rename_i k hk
    split at h1
    ·rename_i g3;exact absurd h1 g3
    ·rename_i g3
     simp only[AM g3,E8,KQ,CD,List.mergeSort_singleton];exact⟨_,rfl⟩
def fI(a:Ar)(e:Ent)(l:List Comp)(c:Comp)(b:Ar):Prop:=((EO a.kinds [c]).2≠0/\b=a)\/∃d,EO a.kinds [c]=([d],0)/\SwapR a e l (Jn l d) b
theorem VP{l u:List Comp}{d:Comp}(hl:Ee l)(hd:d.kind∉l.map (·.kind))(hp:u.Perm (l++[d]))(hs:u.Pairwise λa b=>AU (λx y:Comp=>EN x.kind y.kind) b a=false):u=Jn l d:=by
 have hle:u.Pairwise λa b=>a.kind<=b.kind:=hs.imp λ{x y} h=>by
  unfold AU at h;simp only[Ao]at h;have:¬y.kind<x.kind:=λe=>h (cmpI_ltz.2 e)
  omega
 have hne:(l++[d]).Pairwise λa b=>a.kind≠b.kind:=by
  rw[Bi];refine⟨hl.imp λh=>by omega,by simp,λa ha b hb e=>?_⟩;rw[CX]at hb;subst hb;exact hd (Ad.2 ⟨a,ha,e⟩)
 have hne2:u.Pairwise λa b=>a.kind≠b.kind:=hp.symm.pairwise hne λh=>Ne.symm h
 refine Q9 ((hle.and hne2).imp λh=>by obtain⟨x,y⟩:=h;omega) (NQ hl) λx=>?_
 rw[hp.mem_iff,Mg hl,Du,CX];constructor
 ·rintro(h|rfl)
  ·exact .inr ⟨h,λe=>hd (Ad.2 ⟨x,h,e⟩)⟩
  ·exact .inl rfl
 ·rintro(rfl|h)
  ·exact .inr rfl
  ·exact .inl h.1
theorem cR(a:Ar)(ha:ArOK a)(hne:II a.ts)(e:Ent)(c:Comp)(hn:I64 e.n)(hkl:I64 c.kind)(h12:a.kinds.length<=12)(hh:KA a e=true){l1 l2:List Tab}(hts:a.ts=l1++t::l2)(hm:(e.n,e)∈t.es)(hso:Ee (BF t e.n))(h11:(EO a.kinds [c]).2=0->c.kind∉t.ks->t.ks.length<=11):Spec prog 260 [.ptr a.A 0 0,CG e,AZ false c] (arS a) λr S'=>∃b:Ar,fI a e (BF t e.n) c b/\r=iA (EO a.kinds [c]).2/\S'=arS b:=by
 have htm:t∈a.ts:=by rw[hts];simp
 have hto:=ha.tab t htm;have hks:=Oo hto hso;have hnk:e.n∈Am t.es:=Ad.2 ⟨_,hm,rfl⟩;have hnl:=hto.es.lt _ hnk;have hs:=NT a ha e hn;rw[hh]at hs;have hbs:=W5 t.ks c.kind hks (by have:=hto.ks;omega);have hft:=MR a.kinds [c] h12 (by simp);obtain⟨u,hgd,hone,hK⟩:=ha.ptr htm hnk;obtain⟨⟨fl,fe⟩,hfe⟩:=nm (EO a.kinds [c]);unfold fI;rw[hfe]at hft h11⊢;dsimp only at hft h11⊢;refine Sp (nt:=77) (res:=[.tmp 6]) func260 λSf=>?_
 refine RG ?_;(repeat first|refine WO ?_|refine Ai λB=>?_|refine Ay λY=>?_);refine NL ?_;rename_i Be;refine JK ?_;refine WO ?_;refine Hb [_,_] hs ?_;refine JC ?_;refine AB rfl rfl ?_;refine FL ?_;refine RU ?_;(iterate 5 refine RK ?_);refine BO (v:=.lst false 42 2 [AZ false c]) (h:=W.litF1 (v0:=AZ false c) rfl rfl (.inl rfl) (by decide) (by decide) rfl) ?_;refine FO (h:=(hft ..)) (k:=?_);(iterate 5 refine RK ?_);refine RGo.nil (by kernel_rfl) ?_;refine JB ?_;refine AC rfl (λh0=>?_) (λh0=>?_)
 ·refine FL ?_
  refine R1 ?_;refine RT ?_;exact Ends.sp [iA fe] (arS a) ⟨a,.inl ⟨by simpa using h0,rfl⟩,rfl,rfl⟩
 have h0:fe=0:=by simpa using h0
 subst h0;obtain⟨v,rfl⟩:∃v,fl=[⟨c.kind,v⟩]:=Y8 hfe;refine FL ?_;refine AWP.perm (A9 _ (A9 _ (Hk hts Sf))) ?_;refine RU ?_;(iterate 6 refine RK ?_);refine BO ?_ (W.lookP (.ptr t.X 0 0) hgd hn hone hK rfl rfl (by exact As) (by exact As));refine RK ?_;refine RGo.nil (by kernel_rfl) ?_;refine FL ?_;refine JM ?_;refine FO (h:=(hbs ..)) (k:=?_);(iterate 5 refine RK ?_);refine RGo.nil (by kernel_rfl) ?_;refine FL ?_;by_cases hk:c.kind∈t.ks
 ·rw[BG hk]
  refine R1 ?_;refine Aq rfl rfl ?_;obtain⟨hil,hik⟩:=T1 hks hk;obtain⟨i,hi⟩:=nm (PF t.ks c.kind);have hca:Ey (BF t e.n) c.kind=i:=by rw[<-hi,<-PE hso,FI hto]
  rw[hi]at hil⊢;have hic:i<t.cs.length:=by rw[<-hto.len];exact hil
  obtain⟨m1,m2,hsp,hm1⟩:=Jd hic;have hcat:(t.cs.map λc=>AV.ptr c.1.X 0 0)[i]?=some (.ptr t.cs[i].1.X 0 0):=DC _ hic;have hcil:i<(t.cs.map λc=>AV.ptr c.1.X 0 0).length:=by rw[AH];exact hic
  obtain⟨col,hce⟩:=nm (t.cs[i]);rw[hce]at hsp hcat;have hcok:ColOK col.2:=hto.cs _ (by rw[hsp];simp);have hpu:=(UR col.1 col.2 hcok e.n v hnl).tt;refine FL ?_;(repeat refine WF ?_);refine AWP.region_runH (n:=8) ([(B,.row 42 2 [AZ false c]),(Be,.row 32 2 [CG e])]++(arH a++[G8 t])) (stE t.ek t.es++(DL t.cs++(Ch l1++(Ch l2++Sf)))) rfl (by kernel_rfl) (by kernel_rfl) ?_;refine Cj ?_;refine Cj ?_;refine Cj ?_;refine Cj ?_;refine Cj ?_;refine Cj (h:=W.idxL (a:=i) rfl rfl rfl hcat) ?_;refine Cj ?_;refine Cj ?_;refine Cj ?_;refine Cj ?_;refine Cj (h:=W.idxL (a:=0) (e:=AZ false ⟨c.kind,v⟩) rfl rfl rfl rfl) ?_;refine Cj ?_;refine Cj ?_;refine FY [54,56,60] ?_;refine RGoH.nil (by kernel_rfl) (by kernel_rfl) (by kernel_rfl) ?_;refine HC.step [(54,.ptr col.1.X 0 0),(56,iA e.n),(60,Av false v)] ⟨rfl,rfl,rfl,rfl,rfl,rfl,CZ⟩ λT F=>?_
  have heq:F++(stE t.ek t.es++(DL t.cs++(Ch l1++(Ch l2++Sf))))=(F++(stE t.ek t.es++DL m1))++(stS col.1 col.2++(DL m2++(Ch l1++(Ch l2++Sf)))):=by
   rw[hsp,F8,Fr];simp only[Bg]
  refine Gx _ hpu (λq2 _=>?_) (hp:=heq);obtain⟨k2,hk2⟩:∃k2:StK,k2=⟨col.1.X,q2.1,q2.2,col.1.M⟩:=⟨_,rfl⟩;have hkx:k2.X=col.1.X:=by rw[hk2]
  rw[<-hk2]
  have heq2:(F++(stE t.ek t.es++DL m1))++(stS k2 (Db col.2 e.n v)++(DL m2++(Ch l1++(Ch l2++Sf))))=F++(stE t.ek t.es++(DL (m1++(k2,Db col.2 e.n v)::m2)++(Ch l1++(Ch l2++Sf)))):=by
   rw[F8,Fr];simp only[Bg]
  refine AOps.perm (C1 heq2) ?_;refine AOps.nil ⟨rfl,_,_,⟨λd v h=>h,.refl _⟩,?_⟩;obtain⟨b,hb⟩:∃b:Ar,b={a with ts:=l1++setT t m1 m2 k2 col.2 e.n v::l2}:=⟨_,rfl⟩;have hbt:b.ts=l1++setT t m1 m2 k2 col.2 e.n v::l2:=by rw[hb]
  have hbl:b.ts.length=a.ts.length:=by rw[hbt,hts,Ak,Ak];rfl
  have hbp:ptrs Tab.X b.ts=ptrs Tab.X a.ts:=by rw[hbt,hts,ptrs,ptrs,AT,AT];rfl
  have hH:arH b=arH a:=by
   show[_,_,_,_,_]=[_,_,_,_,_]
   rw[hbl,hbp,hb]
  have hT:G8 (setT t m1 m2 k2 col.2 e.n v)=G8 t:=by
   show(t.X,AO.row _ _ [AV.agg [Av false t.ks,_,.lst false _ _ ((m1++(k2,Db col.2 e.n v)::m2).map λc=>AV.ptr c.1.X 0 0)]])=(t.X,AO.row _ _ [AV.agg [Av false t.ks,_,.lst false _ _ (t.cs.map λc=>AV.ptr c.1.X 0 0)]])
   rw[hsp,AT,AT,Aa,Aa,hkx]
  have hfr:=Hk hbt Sf;rw[hH,hT]at hfr;show andThen _ _ _ _
  refine AWP.perm (S':=(B,.row 42 2 [AZ false c])::(Be,.row 32 2 [CG e])::(arS b++Sf)) ?_ ?_
  ·refine LO (C1 ?_) (A9 _ (A9 _ hfr.symm))
   simp only[CI,CD]
  refine JL ?_
  have hins:Jn (BF t e.n) ⟨c.kind,v⟩=(BF t e.n).set m1.length ⟨c.kind,v⟩:=by
   rw[Ww hso,AY ((Px hso).2 (by rw[FI hto];exact hk)),hca,hm1]
  have hz:t.ks[m1.length]?=some c.kind:=by rw[hm1,Af hil];congr 1;simpa only[hi]using hik
  refine Ends.sp [iA 0] (arS b) ⟨b,.inr ⟨⟨c.kind,v⟩,rfl,?_⟩,rfl,rfl⟩;rw[hins,hb];exact⟨ha.setT hts hsp hnk,eQ hne hts,rfl,rfl,rfl,_,PN ha hts hm,YA ha hts hsp hm hz⟩
 ·rw[Az hk]
  refine R1 ?_;refine AB rfl rfl ?_;refine FL ?_;refine AWP.perm (A9 _ (A9 _ (Hk hts Sf).symm)) ?_;(repeat refine WF ?_);have htk:=SF a ha hne hts hnk;have htl:(BF t e.n).length=t.ks.length:=by unfold BF;rw[AH,LM];have:=hto.len;omega
  have h16:=hto.ks;refine AWP.region_runH (n:=2) [(B,.row 42 2 [AZ false c]),(Be,.row 32 2 [CG e])] (arS a++Sf) rfl (by kernel_rfl) (by kernel_rfl) ?_;refine Cj ?_;refine Cj ?_;refine Cj ?_;refine FY [62,64] ?_;refine Cj ?_;refine Cj (h:=W.idxL (a:=0) (e:=AZ false ⟨c.kind,v⟩) rfl rfl rfl rfl) ?_;refine Cj ?_;refine Cj (v:=.lst false 42 2 [AZ false ⟨c.kind,v⟩]) (h:=W.litF1 (v0:=AZ false ⟨c.kind,v⟩) rfl rfl (.inl rfl) (by decide) (by decide) rfl) ?_;refine FY [65,69] ?_;refine FY [70] ?_;refine RGoH.nil (by kernel_rfl) (by kernel_rfl) (by kernel_rfl) ?_;refine HC.step [(62,.ptr a.A 0 0),(64,iA e.n)] ⟨rfl,rfl,rfl,rfl,CZ⟩ λT F=>?_
  refine QS F htk λY _ K=>?_;obtain⟨hok,hne2,hA,hki,hge,hit⟩:=PH ha hne hts hm Y;obtain⟨b,hb⟩:=nm (IZ a l1 l2 t e.n Y);rw[hb]at hok hne2 hA hki hge hit⊢;refine AOps.perm List.perm_middle.symm ?_;refine AOps.nil ⟨rfl,_,_,⟨λd v h=>h,.refl _⟩,?_⟩;refine HC.step [(65,.sl K 0 ((BF t e.n).map (AZ false)).length),(69,.lst false 42 2 [AZ false ⟨c.kind,v⟩])] ⟨rfl,rfl,rfl,rfl,CZ⟩ λT2 F2=>?_
  refine AOps.perm OH ?_;refine FQ λZ=>?_
  refine K5 ?_ (W.app (X:=K) (Y:=Z) rfl rfl (by exact As) (by exact As) (by rw[AH]) (by rw[AH];show(_+1)*32<=_;omega) (by rw[AH];unfold maxLen;show _+1<=_;omega) (by decide));dsimp only[BE,List.set_cons_zero,List.set_cons_succ];refine AOps.perm (A9 _ List.perm_middle.symm) ?_;refine AOps.nil ⟨rfl,_,_,⟨λd v h=>h,.cons _ (.refl _)⟩,?_⟩;refine HC.step [(70,.sl Z 0 (((BF t e.n).map (AZ false)).length+1))] ⟨rfl,rfl,CZ⟩ λT3 F3=>?_
  (repeat refine WO ?_);refine AOps.nil ⟨rfl,_,_,⟨λd v h=>h,.refl _⟩,?_⟩;show andThen _ _ _ _
  refine AWP.weak (st':=⟨[(0,.ptr a.A 0 0),(4,.ptr Be 0 0),(12,.sl Z 0 (((BF t e.n).map (AZ false)).length+1))],[(Be,.row 32 2 [CG e]),(Z,.row 42 2 ((BF t e.n).map (AZ false)++[AZ false ⟨c.kind,v⟩]))]++(arS b++Sf)⟩) ⟨.cons rfl (.cons rfl (.cons rfl .nil)),.cons _ (.refl _)⟩ ?_;obtain⟨cl,hcl⟩:∃cl,BF t e.n++[(⟨c.kind,v⟩:Comp)]=cl:=⟨_,rfl⟩;have hcm:(BF t e.n).map (AZ false)++[AZ false ⟨c.kind,v⟩]=cl.map (AZ false):=by rw[<-hcl,AT];rfl
  have hcn:((BF t e.n).map (AZ false)).length+1=cl.length:=by rw[<-hcl,Ak,AH];rfl
  rw[hcm,hcn];obtain⟨su,⟨hu1,hu2⟩,hsf⟩:=MV 273 [] (λx y=>EN x.kind y.kind) rfl (SJ Comp.kind) (λx y=>cT x y) Z cl.length cl rfl (by have:=h11 rfl hk;rw[<-hcl,Ak,htl];show _+1<=12;omega);refine JK ?_;refine AOps.o2 (h:=(hsf ..)) (k:=?_);refine NL ?_;dsimp only[BE,List.set_cons_zero,List.set_cons_succ,CI,CD];rw[<-hu1.length_eq];have hF:AV.frzs (su.map (AZ false))=su.map (AZ false):=Frzs.h;have hsl:su.length=(su.map (AZ false)).length:=(AH _).symm;rw[hsl];refine M7 12 _ hF ?_;rw[<-hA];have had:=QC b e su hok hne2 hnl (Pd ha hok hit) (by have:=h11 rfl hk;rw[hu1.length_eq,<-hcl,Ak,htl];show _+1<=16;omega);refine JD ?_;(iterate 3 refine WO ?_);refine Gx [_,_] had λb2 hb2=>?_;refine NL ?_;refine JL ?_;obtain⟨g1,g2,g3,g4,g5,g6⟩:=hb2;have hsu:su=Jn (BF t e.n) ⟨c.kind,v⟩:=VP hso (by rw[FI hto];exact hk) (by rw[hcl];exact hu1) hu2;rw[hsu]at g6;exact Ends.sp [iA 0] (arS b2) ⟨b2,.inr ⟨_,rfl,g1,g2,g3.trans hA,g4.trans hki,g5.trans hge,_,hit,g6⟩,rfl,rfl⟩
theorem YJ{j:Nat}(h1:∀q<j,(!Kc w.items (q:Nat)&&decide (w.gens.getD q 0<1073741824))=false)(h2:j<w.gens.length)(h3:(!Kc w.items (j:Nat)&&decide (w.gens.getD j 0<1073741824))=true):DI w=(j,true):=by
 have:Ra w=some j:=by
  unfold Ra;rw[GH];exact⟨h3,j,by simpa using h2,by simp,λq hq=>by have:=h1 q hq;simp only[List.getElem_range];rw[this];rfl⟩
 unfold DI;rw[this]
theorem NO:∀(l:List Item) (it:Item),(NP l it).Perm (it::l)
 |[],it=>.refl _
 |x::l,it=>by
  rw[NP];split
  ·exact((NO l it).cons x).trans (.swap ..)
  ·exact .refl _
theorem YI(h1:∀q<w.gens.length,(!Kc w.items (q:Nat)&&decide (w.gens.getD q 0<1073741824))=false):DI w=(w.gens.length,decide ((w.gens.length:Int)<256)):=by
 have:Ra w=none:=by
  unfold Ra;rw[Eo];intro q hq;have:=h1 q (by simpa using hq);rw[this];simp
 unfold DI;rw[this]
theorem WA(a:Ar)(w:Wd)(h:ArFor a w)(h12:w.kinds.length<=12)(l:List Comp)(hl:l.length<=1099511627776):Spec prog 263 [.ptr a.A 0 0,B3 false false l] (arS a) λr S'=>∃b:Ar,(ArFor b (Ir w (Fy w l).1 (Fy w l).2.2)/\b.A=a.A)/\r= .tup [CG (Fy w l).2.1,iA (Fy w l).2.2]/\S'=arS b:=by
 have hft:=MR a.kinds l (by rw[h.kinds];exact h12) hl;obtain⟨r,hr⟩:=nm (Fy w l);rw[hr];unfold Fy at hr;rw[AM (by simp[(Cg w).2 h.wok])]at hr;rw[h.kinds]at hft;obtain⟨⟨cs,f⟩,hcs⟩:=nm (EO w.kinds l);have hheld:f=0->Cb w.kinds cs=true:=λe=>by have:=Kb (ks:=w.kinds) (l:=l) (by rw[hcs];exact e);rwa[hcs]at this
 rw[hcs]at hr hft;dsimp only at hr hft;have hgl:=h.wok.gl;rw[<-h.gens]at hgl;refine Sp (nt:=84) (res:=[.cell 4 32,.tmp 5]) func263 λSf=>?_
 refine JF ?_;refine Ai λP=>?_;refine JC ?_
 refine FL ?_;rw[<-h.kinds]at hft;refine JI ?_;refine BP (h:=(hft ..)) (k:=?_);refine JE ?_;refine JB ?_;by_cases hf:f≠0
 ·rw[AY hf]at hr
  subst hr;refine Aq rfl (BG hf) ?_;refine JL ?_;exact Ends.sp [CG ⟨0,0⟩,iA f] (arS a) ⟨a,⟨by unfold Ir;rw[AM hf];exact h,rfl⟩,rfl,rfl⟩
 have hf:f=0:=DU.1 hf;subst hf;rw[AM (by simp)]at hr;refine AB rfl rfl ?_;refine JJ ?_;refine B8 (λ(j:Nat)=>⟨[(0,.ptr a.A 0 0),(4,.ptr P 0 0),(6,B3 false false cs),(8,iA j)],(P,.row 32 2 [CG ⟨0,0⟩])::(arS a++Sf)⟩) (λj=>j<=a.gens.length/\∀q<j,(!Kc w.items (q:Nat)&&decide (w.gens.getD q 0<1073741824))=false) (λj=>a.gens.length-j) 0 ⟨Ap _,λq hq=>absurd hq (by omega)⟩ ?_;rintro j ⟨hj,hall⟩;have hjI:I64 (j:Int):=by constructor<;>omega
 by_cases hjl:j<a.gens.length
 ·have hd:decide ((j:Int)<(a.gens.length:Nat))=true:=BG (by omega)
  have hat:(a.gens.map iA)[j]?=some (iA a.gens[j]):=DC _ hjl;have hmem:=h.wok.gs a.gens[j] (by rw[<-h.gens];exact Ax hjl);have hgd:w.gens.getD j 0=a.gens[j]:=by rw[<-h.gens,EH,Af hjl];rfl
  have hus:=h.used j
  have hus0:a.g j=none->¬a.gens[j]=1073741824->DI w=(j,true):=λe1 e2=>by
   refine YJ hall (by rw[<-h.gens];exact hjl) ?_;rw[<-hus,e1,hgd,BG (by omega)];rfl
  cases hg:a.g j with
  |none=>
   have hgp:(a.g j).getD (.pointer none)= .pointer none:=by rw[hg];rfl
   refine RG ?_;(iterate 19 refine WO ?_);refine BT ?_ (Mr _ hgp hjI rfl rfl (by exact As));refine WO ?_;refine BT ?_ (W.neNil false (.inl ⟨rfl,rfl⟩) rfl rfl);refine JE ?_;refine AC rfl (λhc=>?_) (λhc=>?_)
   ·have hc:a.gens[j]=1073741824:=AD hc
    refine JB ?_;refine BM (j+1) ⟨by omega,λq hq=>?_⟩ (by omega);by_cases hqj:q=j
    ·subst hqj
     rw[hgd,hc];simp
    ·exact hall q (by omega)
   ·have hc:¬a.gens[j]=1073741824:=AG hc
    have hfr:=hus0 hg hc;obtain⟨f1,f2,f3,f4⟩:=MC h.wok (by rw[hfr]);have hv:=On h.wok (by rw[hfr]) (hheld rfl);rw[hfr]at hr f1 f2 f3 f4 hv;dsimp only at hr f1 f2 f3 f4 hv;rw[AM (by simp)]at hr;have hgz:a.gens=E1 w.gens j:=by unfold E1;rw[AM (by rw[<-h.gens];omega),h.gens]
    obtain⟨g,hge⟩:=nm ((E1 w.gens j).getD j 0);rw[hge]at hr hv;have hge:a.gens[j]=g:=by rw[<-hge,<-hgz,EH,Af hjl];rfl
    rw[hge]at hat;subst hr
    have hfk:((j:Nat):Int)∉Cn a.ts:=λhm=>by
     rw[h.ok.keys_items]at hm;obtain⟨x,hx,e⟩:=Ad.1 hm;exact f2 x (h.items.mem_iff.1 hx) e
    have had:=QC a ⟨(j:Nat),g⟩ cs h.ok h.ne (by dsimp only;omega) hfk (HO h.wok.ks (hheld rfl)).1;have hd2:decide ((j:Int)=256)=false:=Az (by omega);have hd3:decide ((j:Int)=(a.gens.length:Nat))=false:=Az (by omega);refine JB ?_;refine AB rfl hd2 ?_;refine JB ?_;refine AB rfl hd3 ?_;refine JH ?_;refine Ai λE=>?_;refine JC ?_
    refine JD ?_;(iterate 3 refine WO ?_);refine Gx [_,_] had λb2 hb2=>?_;refine NL ?_;refine JL ?_;obtain⟨q1,q2,q3,q4,q5,q6⟩:=hb2;exact Ends.sp [CG ⟨(j:Nat),g⟩,iA 0] (arS b2) ⟨b2,⟨⟨q1,q2,q4.trans h.kinds,q5.trans hgz,q6.trans ((h.items.cons _).trans (NO _ _).symm),hv⟩,q3⟩,rfl,rfl⟩
  |some u=>
   have hgp:(a.g j).getD (.pointer none)=u:=by rw[hg];rfl
   obtain⟨t,ht,htn,hK,b,hb⟩:=h.ok.g j u hg;have hone:u.oneCell'=true:=by rw[hb];rfl
   refine RG ?_;(iterate 19 refine WO ?_);refine BT ?_ (Mr _ hgp hjI rfl rfl (by exact As) hone);refine WO ?_;refine BT ?_ (W.neNil true (.inr ⟨b,hb,rfl⟩) rfl rfl);refine JE ?_;refine Aq rfl rfl ?_;refine JB ?_;refine BM (j+1) ⟨by omega,λq hq=>?_⟩ (by omega);by_cases hqj:q=j
   ·subst hqj
    rw[<-hus,hg];rfl
   ·exact hall q (by omega)
 ·have hjl:j=a.gens.length:=by omega
  have hd:decide ((j:Int)<(a.gens.length:Nat))=false:=Az (by omega);have hfr:=YI (w:=w) λq hq=>hall q (by rw[hjl,h.gens];exact hq)
  rw[<-h.gens,<-hjl]at hfr;refine RG ?_;(repeat first|(refine CS ?_;first|refine Bp ?_|refine Bo ?_)|refine WO ?_|refine Ai λX=>?_|refine Ay λY=>?_);refine NL ?_;refine AB rfl rfl ?_;refine JB ?_;refine AC rfl (λhc=>?_) (λhc=>?_)
  ·have hc:(j:Int)=256:=AD hc
   rw[hfr,AY (Az (by omega))]at hr;subst hr;refine JL ?_;exact Ends.sp [CG ⟨0,0⟩,iA 6] (arS a) ⟨a,⟨h,rfl⟩,rfl,rfl⟩
  ·have hc:¬(j:Int)=256:=AG hc
   have hfr:DI w=(j,true):=by rw[hfr,BG (by omega)]
   obtain⟨f1,f2,f3,f4⟩:=MC h.wok (by rw[hfr]);have hv:=On h.wok (by rw[hfr]) (hheld rfl);rw[hfr]at hr f1 f2 f3 f4 hv;dsimp only at hr f1 f2 f3 f4 hv;rw[AM (by simp)]at hr;have hgr:E1 w.gens j=a.gens++[0]:=by unfold E1;rw[AY (by rw[<-h.gens];exact hjl),h.gens]
   obtain⟨g,hge⟩:=nm ((E1 w.gens j).getD j 0);rw[hge]at hr hv;have hge:g=0:=by rw[<-hge,hgr,hjl,EH];simp
   subst hge;subst hr;have hd3:decide ((j:Int)=(a.gens.length:Nat))=true:=BG (by omega);refine JB ?_;refine Aq rfl hd3 ?_;refine JD ?_;(iterate 5 refine WO ?_);refine Eg (iA 0) ?_;refine WO ?_;refine Ay λY=>?_;refine KO ?_
   dsimp only[BE,List.set_cons_zero,List.set_cons_succ,CI,CD];refine AOps.nil ?_;refine FL ?_;have hm1:a.gens.map iA++[iA 0]=(a.gens++[0]).map iA:=by rw[AT];rfl
   have hm2:a.gens.length+[iA 0].length=(a.gens++[0]).length:=by rw[Ak];rfl
   rw[hm1,hm2];obtain⟨z,hz⟩:∃z:Ar,z={a with G:=Y,gens:=a.gens++[0]}:=⟨_,rfl⟩;have hzA:z.A=a.A:=by rw[hz]
   have hzg:z.gens=a.gens++[0]:=by rw[hz]
   have hzt:z.ts=a.ts:=by rw[hz]
   have hzo:ArOK z:=by rw[hz];exact⟨h.ok.tab,h.ok.ord,h.ok.keys,h.ok.ent,h.ok.g,h.ok.gn,h.ok.cnt⟩
   refine AWP.weak (st':=⟨[(0,.ptr a.A 0 0),(4,.ptr P 0 0),(6,B3 false false cs),(8,iA j)],(P,.row 32 2 [CG ⟨0,0⟩])::(arS z++Sf)⟩) ⟨by exact EF,?_⟩ ?_
   ·rw[hz]
    simp only[arS,CI,CD];exact DT _
   have hat:(z.gens.map iA)[j]?=some (iA 0):=by rw[hzg,Ae,hjl];simp
   have hjz:j<z.gens.length:=by rw[hzg,Ak,hjl];show a.gens.length<_+1;omega
   have hfk:((j:Nat):Int)∉Cn z.ts:=λhm=>by
    rw[hzt,h.ok.keys_items]at hm;obtain⟨x,hx,e⟩:=Ad.1 hm;exact f2 x (h.items.mem_iff.1 hx) e
   have had:=QC z ⟨(j:Nat),0⟩ cs hzo (by rw[hzt];exact h.ne) (by dsimp only;omega) hfk (HO h.wok.ks (hheld rfl)).1;rw[hzt]at had;rw[<-hzA];refine JI ?_;refine Ai λE=>?_;refine JC ?_
   refine JD ?_;(iterate 3 refine WO ?_);refine Gx [_,_] had λb2 hb2=>?_;refine NL ?_;refine JL ?_;obtain⟨q1,q2,q3,q4,q5,q6⟩:=hb2;exact Ends.sp [CG ⟨(j:Nat),0⟩,iA 0] (arS b2) ⟨b2,⟨⟨q1,q2,(q4.trans (by rw[hz])).trans h.kinds,(q5.trans hzg).trans hgr.symm,q6.trans ((h.items.cons _).trans (NO _ _).symm),hv⟩,q3⟩,rfl,rfl⟩
section
section
variable {a:Ar}{w:Wd}
theorem aX{l:List Comp}(hw:WdOK w)(hi:w.items[i]?=some ⟨e,l⟩):Em w.items e=i:=Mn hw.so hi
theorem cS(h:ArFor a w)(h12:w.kinds.length<=12)(e:Ent)(c:Comp)(hn:I64 e.n)(hk:I64 c.kind):Spec prog 260 [.ptr a.A 0 0,CG e,AZ false c] (arS a) λr S'=>∃b:Ar,(ArFor b (Ir w (GC w e c).1 (GC w e c).2)/\b.A=a.A)/\r=iA (GC w e c).2/\S'=arS b:=by
 have hwe:=(Cg w).2 h.wok;cases hh:KA a e with
 |false=>
  have hf:=h.hasE hh;have hp:GC w e c=(⟨[],[],[]⟩,4):=by unfold GC;rw[AM (by simp[hwe]),AY hf]
  rw[hp];exact(eK a h.ok e c hn hh).mono λr S' ⟨e1,e2⟩=>⟨a,⟨h,rfl⟩,e1,e2⟩
 |true=>
  obtain⟨l1,l2,t,hts,hm⟩:=OR h.ok hh;have htm:t∈a.ts:=by rw[hts];simp
  obtain⟨i,hi⟩:=h.item htm hm;have hso:=h.sort htm hm;have hhe:=h.held htm hm;have hfi:=aX h.wok hi;have hto:=h.ok.tab t htm
  have h11:(EO a.kinds [c]).2=0->c.kind∉t.ks->t.ks.length<=11:=λe1 e2=>by
   obtain⟨d,_,_,g1,g2⟩:=Qz e1;rw[h.kinds]at g2
   have h1:(c.kind::t.ks).length<=w.kinds.length:=Km (λx=>x) _ _ (Al.2 ⟨λx hx e=>e2 (by subst e;exact hx),(Oo hto hso).imp λh=>by omega⟩) λx hx=>by
    rcases AQ.1 hx with rfl|hx
    ·exact⟨g1,g2⟩
    ·rw[<-FI hto e.n]at hx
     obtain⟨d,hd,rfl⟩:=Ad.1 hx;have:=(held_iff.1 hhe).2 d hd;exact⟨this.1,this.2.1⟩
   rw[DM]at h1;omega
  refine(cR a h.ok h.ne e c hn hk (by rw[h.kinds];exact h12) hh hts hm hso h11).mono λr S' ⟨b,hb,e1,e2⟩=>?_
  unfold fI at hb;rw[h.kinds]at hb e1;rcases hb with⟨hne,rfl⟩|⟨d,hd,hs⟩
  ·have hp:GC w e c=(⟨[],[],[]⟩,(EO w.kinds [c]).2):=by unfold GC;rw[AM (by simp[hwe]),hfi,AM (by omega),AY hne]
   rw[hp];exact⟨b,⟨by unfold Ir;rw[AM hne];exact h,rfl⟩,e1,e2⟩
  ·have hp:GC w e c=(GO w i (Jn (BF t e.n) d),0):=by unfold GC;rw[AM (by simp[hwe]),hfi,AM (by omega),hd,AM (by simp),By,hi]
   rw[hd]at e1;rw[hp];have hfo:=Q1 h.wok.ks (by rw[hd]);have hdc:=Od h.wok.ks hfo;rw[hd]at hdc;injection hdc with hdc
   injection hdc with hdc
   have hpo:=ZT h.wok hi hfo
   have hhl:Cb w.kinds (Jn (BF t e.n) d)=true:=by
    rw[hdc]
    have hii:(GO w i (Jn (BF t e.n) (MD w.kinds c))).items[i]?=some ⟨e,Jn (BF t e.n) (MD w.kinds c)⟩:=by
     rw[Lr hi];exact BY (AE.1 hi).1
    exact(hpo.it _ (Bb hii)).2.2.2.2
   exact⟨b,⟨h.swap hs hi hhl,hs.A⟩,e1,e2⟩
theorem ab(h:ArFor a w)(e:Ent)(k:Int)(hn:I64 e.n)(hk:I64 k):Spec prog 261 [.ptr a.A 0 0,CG e,iA k] (arS a) λr S'=>∃b:Ar,(ArFor b (Ir w (Ie w e k).1 (Ie w e k).2)/\b.A=a.A)/\r=iA (Ie w e k).2/\S'=arS b:=by
 have hwe:=(Cg w).2 h.wok;cases hh:KA a e with
 |false=>
  have hf:=h.hasE hh;have hp:Ie w e k=(⟨[],[],[]⟩,4):=by unfold Ie;rw[AM (by simp[hwe]),AY hf]
  rw[hp];exact(af a h.ok e k hn hh).mono λr S' ⟨e1,e2⟩=>⟨a,⟨h,rfl⟩,e1,e2⟩
 |true=>
  obtain⟨l1,l2,t,hts,hm⟩:=OR h.ok hh;have htm:t∈a.ts:=by rw[hts];simp
  obtain⟨i,hi⟩:=h.item htm hm;have hso:=h.sort htm hm;have hhe:=h.held htm hm;have hto:=h.ok.tab t htm;have hp:=Rh h.wok hi k;dsimp only at hp;have hcm:(DW (BF t e.n) k).isSome=true↔k∈t.ks:=by rw[Px hso,FI hto]
  refine(YP a h.ok h.ne e k hn hk hh hts hm (Oo hto hso)).mono λr S' ⟨b,hb,e1,e2⟩=>?_
  by_cases hkm:k∈t.ks
  ·have hcs:=hcm.2 hkm
   rw[AY hkm]at hb e1;rw[AY hcs]at hp;rw[hp];have hl:PF t.ks k=Ey (BF t e.n) k:=by rw[<-PE hso,FI hto]
   rw[hl,<-UQ hso hcs]at hb;exact⟨b,⟨h.swap hb hi (RZ hhe),hb.A⟩,e1,e2⟩
  ·rw[AM hkm]at hb e1
   rw[AM λe=>hkm (hcm.1 e)]at hp;rw[hp];subst hb;exact⟨b,⟨h,rfl⟩,e1,e2⟩
theorem aD(h:ArFor a w)(e:Ent)(hn:I64 e.n):Spec prog 262 [.ptr a.A 0 0,CG e] (arS a) λr S'=>∃b:Ar,(ArFor b (Ir w (HJ w e).1 (HJ w e).2)/\b.A=a.A)/\r=iA (HJ w e).2/\S'=arS b:=by
 have hwe:=(Cg w).2 h.wok;cases hh:KA a e with
 |false=>
  have hf:=h.hasE hh;have hp:HJ w e=(⟨[],[],[]⟩,4):=by unfold HJ;rw[AM (by simp[hwe]),AY hf]
  rw[hp];exact(cp a h.ok e hn hh).mono λr S' ⟨e1,e2⟩=>⟨a,⟨h,rfl⟩,e1,e2⟩
 |true=>
  obtain⟨l1,l2,t,hts,hm⟩:=OR h.ok hh;have htm:t∈a.ts:=by rw[hts];simp
  obtain⟨i,hi⟩:=h.item htm hm;have hit:=h.wok.it _ (Bb hi);dsimp only at hit;refine(aC a h.ok h.ne e hn hh (by rw[h.gens];omega) (by rw[h.gens];exact h.wok.gl) (by rw[h.gens];exact h.wok.gs)).mono λr S' ⟨b,hb,e1,e2⟩=>?_
  obtain⟨g1,g2⟩:=h.kill hb hh;rw[g1];exact⟨b,⟨g2,hb.A⟩,e1,e2⟩
end
end
abbrev En(b:Bool)(l:List Cmd):AV:=.lst b 303 5 (l.map D3)
theorem YW(ks:List Kind)(c:Cmd)(h12:ks.length<=12)(hl:c.comps.length<=1099511627776):PS prog 245 [Ba false false ks,D3 c] (.tup [B3 false false (Fc ks c).1,iA (Fc ks c).2]):=by
 have hft:=MR ks c.comps h12 hl;obtain⟨act,ent,kind,comps⟩:=c;dsimp only at hft hl;obtain⟨r,hr⟩:=nm (Fc ks ⟨act,ent,kind,comps⟩);rw[hr];unfold Fc at hr;dsimp only at hr;refine Sp (nt:=42) (res:=[.tmp 4,.tmp 5]) func245 λSf=>?_
 have hlm:(comps.map (AZ false)).length=comps.length:=AH _;have hkm:(ks.map (CF false)).length=ks.length:=AH _;refine JF ?_;refine Ai λB=>?_;refine JE ?_
 refine JB ?_;refine JB ?_;refine AC rfl (λh0=>?_) (λh0=>?_)
 ·rw[AY (AD h0)]at hr
  refine JB ?_;refine AC rfl (λh1=>?_) (λh1=>?_)
  ·have h1:((comps.map (AZ false)).length:Int)≠1:=AD h1
   rw[AM (by omega)]at hr;subst hr;refine JL ?_;exact DA [.prim (.slice none 0 0),iA 3] [B3 false false [],iA 3] (.cons (.cell .nil) (.cons (.cell .same) .nil))
  ·have h1:¬((comps.map (AZ false)).length:Int)≠1:=AG h1
   rw[AY (by omega)]at hr;subst hr;refine JH ?_;refine BP (h:=(hft ..)) (k:=?_);refine JE ?_;refine RT ?_;exact KJ (rs:=[B3 false false (EO ks comps).1,iA (EO ks comps).2]) rfl
 rw[AM (AG h0)]at hr;refine JB ?_;refine AC rfl (λh1=>?_) (λh1=>?_)
 ·rw[AY (AD h1)]at hr
  refine FL ?_;cases g1:decide (kind<0)with
  |true=>
   rw[AY (.inl (AD g1))]at hr;subst hr;refine R1 ?_;refine Aq rfl (by first|rfl|assumption) ?_;refine JL ?_;exact DA [.prim (.slice none 0 0),iA 1] [B3 false false [],iA 1] (.cons (.cell .nil) (.cons (.cell .same) .nil))
  |false=>
   refine R1 ?_;refine AC rfl (λg2=>?_) (λg2=>?_)
   ·rw[hkm]at g2
    rw[AY (.inr (AD g2))]at hr;subst hr;refine JL ?_;exact DA [.prim (.slice none 0 0),iA 1] [B3 false false [],iA 1] (.cons (.cell .nil) (.cons (.cell .same) .nil))
   ·rw[hkm]at g2
    have g1:=AG g1;have g2:¬(ks.length:Int)<=kind:=AG g2;rw[AM (by omega)]at hr;subst hr;refine JL ?_;exact DA [.prim (.slice none 0 0),iA 0] [B3 false false [],iA 0] (.cons (.cell .nil) (.cons (.cell .same) .nil))
 rw[AM (AG h1)]at hr;refine JB ?_;refine AC rfl (λh2=>?_) (λh2=>?_)
 ·rw[AY (AD h2)]at hr
  subst hr;refine JL ?_;exact DA [.prim (.slice none 0 0),iA 0] [B3 false false [],iA 0] (.cons (.cell .nil) (.cons (.cell .same) .nil))
 rw[AM (AG h2)]at hr;refine JB ?_;refine AC rfl (λh3=>?_) (λh3=>?_)
 ·rw[AY (AD h3)]at hr
  subst hr;refine JH ?_;refine BP (h:=(hft ..)) (k:=?_);refine JE ?_;refine RT ?_;exact KJ (rs:=[B3 false false (EO ks comps).1,iA (EO ks comps).2]) rfl
 rw[AM (AG h3)]at hr;subst hr;refine JL ?_;exact DA [.prim (.slice none 0 0),iA 1] [B3 false false [],iA 1] (.cons (.cell .nil) (.cons (.cell .same) .nil))
theorem YX{l:List Cmd}{c:Cmd}(h:i<l.length)(hc:l[i]=c):HX ks (l.drop i)=if(Fc ks c).2=0 then HX ks (l.drop (i+1))else(Fc ks c).2:=by
 rw[D9 h,HX,hc]
theorem UX(w:Wd)(l:List Cmd)(hw:WdL w)(h12:w.kinds.length<=12)(hl:l.length<=1099511627776)(hc:∀c∈l,c.comps.length<=1099511627776):PS prog 200 [wdA false w,En false l] (iA (Py w l)):=by
 have hck:=F9 w hw.gens hw.items.1 (λit hit=>(hw.items.2 it hit).1);obtain⟨r,hr⟩:=nm (Py w l);rw[hr];unfold Py at hr;obtain⟨we,hwe⟩:=nm (FD w);rw[hwe]at hck hr;have hlm:(l.map D3).length=l.length:=AH _;refine Sp (nt:=35) (res:=[.tmp 4]) func200 λSf=>?_
 refine RG ?_;refine BS ?_;refine JC ?_;refine JK ?_;refine BU (h:=(hck ..)) (k:=?_);refine JC ?_;refine JB ?_;refine AC rfl (λh0=>?_) (λh0=>?_)
 ·rw[AY (AD h0)]at hr
  subst hr;refine JL ?_;refine Ag ?_;rfl
 rw[AM (AG h0)]at hr;refine JB ?_;refine AC rfl (λh1=>?_) (λh1=>?_)
 ·have h1:=AD h1
  rw[AY (by omega)]at hr;subst hr;refine JL ?_;refine Ag ?_;rfl
 have h1:=AG h1;rw[AM (by omega)]at hr;subst hr;refine JJ ?_;refine B8 (λ(i:Nat)=>⟨[(2,.fp (wdA false w).cells),(18,En false l),(19,iA (l.map D3).length),(20,iA i)],Sf⟩) (λi=>i<=l.length/\HX w.kinds (l.drop i)=HX w.kinds l) (λi=>l.length-i) 0 ⟨Ap _,rfl⟩ ?_;rintro i ⟨hi,he⟩;refine JN ?_;refine AC rfl (λhc2=>?_) (λhc2=>?_)
 ·have h:i<l.length:=by rw[Aj,hlm]at hc2;omega
  obtain⟨c,hcc⟩:=nm (l[i]);have hat:(l.map D3)[i]?=some (D3 c):=by rw[Ae,Af h,hcc];rfl
  have ho:=YW w.kinds c h12 (hc c (by rw[<-hcc];exact Ax h));rw[YX h hcc]at he;refine JH ?_;refine Ai λV=>?_;refine JC ?_
  refine JH ?_;refine BP (h:=(ho ..)) (k:=?_);refine JE ?_;refine JB ?_;refine AC rfl (λh3=>?_) (λh3=>?_)
  ·rw[AM (AD h3)]at he
   refine JL ?_;refine Ag ?_;exact EI iA he
  ·rw[AY (DU.1 (AG h3))]at he
   refine JB ?_;exact BM (i+1) ⟨h,he⟩ (by omega)
 ·have h:i=l.length:=by rw[Ao,hlm]at hc2;omega
  rw[h,Dk]at he;refine JL ?_;refine Ag ?_;exact EI iA he
theorem e9(h:ArFor a w)(h12:w.kinds.length<=12)(c:Cmd)(hc:(Fc w.kinds c).2=0)(hn:I64 c.ent.n)(hl:c.comps.length<=1099511627776):Spec prog 246 [.ptr a.A 0 0,D3 c] (arS a) λr S'=>∃b:Ar,(ArFor b (Iq w c).1/\b.A=a.A)/\r= .tup [CG (Iq w c).2.1,bA (Iq w c).2.2]/\S'=arS b:=by
 obtain⟨act,ent,kind,comps⟩:=c;dsimp only at hn hl;unfold Fc at hc;dsimp only at hc;obtain⟨r,hr⟩:=nm (Iq w ⟨act,ent,kind,comps⟩);rw[hr];unfold Iq at hr;dsimp only at hr;refine Sp (nt:=50) (res:=[.cell 4 32,.tmp 5]) func246 λSf=>?_
 refine RG ?_;refine BS ?_;refine WO ?_;refine Ai λP=>?_;refine JC ?_
 refine JB ?_;refine JB ?_;refine AC rfl (λh0=>?_) (λh0=>?_)
 ·rw[AY (AD h0)]at hr hc
  split at hc
  ·rename_i h1
   obtain⟨d,rfl⟩:=Gh.1 h1;obtain⟨_,_,_,d1,d2⟩:=Qz hc;have h16:=(DX h.wok.ks).1;have hp:=cS h h12 ent d hn ⟨by omega,by omega⟩;replace hr:(Ir w (GC w ent d).1 (GC w ent d).2,(⟨0,0⟩:Ent),decide ((GC w ent d).2=0))=r:=hr;subst hr;refine FL ?_;obtain⟨err,herr⟩:=nm ((GC w ent d).2);rw[herr]at hp⊢;refine AWP.region_runH (n:=1) [(P,.row 32 2 [CG ⟨0,0⟩])] (arS a++Sf) rfl (by kernel_rfl) (by kernel_rfl) ?_;refine Cj ?_;refine Cj ?_;refine Cj ?_;refine Cj ?_;refine Cj ?_;refine Cj ?_;refine Cj (h:=W.idxL (a:=0) (e:=AZ false d) rfl rfl rfl rfl) ?_;refine Cj ?_;refine FY [13,15,19] ?_;refine FY [20] ?_;refine bR ?_;refine FY [21] ?_;refine RGoH.nil (by kernel_rfl) (by kernel_rfl) (by kernel_rfl) ?_;refine HC.step [(13,.ptr a.A 0 0),(15,CG ent),(19,AZ false d)] ⟨rfl,rfl,rfl,rfl,rfl,rfl,CZ⟩ λT F=>?_
   refine Gx F hp λb hb=>?_;refine AOps.nil ⟨rfl,_,_,⟨λd v h=>h,.refl _⟩,?_⟩;refine HC.step [(20,iA err)] ⟨rfl,rfl,CZ⟩ λT2 F2=>?_
   (repeat refine WO ?_);refine AOps.nil ⟨rfl,_,_,⟨λd v h=>h,.refl _⟩,?_⟩;refine HC.step [(21,bA (decide (err=0)))] ⟨rfl,rfl,CZ⟩ λT3 F3=>?_
   (repeat refine WO ?_);refine AOps.nil ⟨rfl,_,_,⟨λd v h=>h,.refl _⟩,?_⟩;show andThen _ _ _ _
   refine FL ?_;refine RT ?_;exact Ends.sp [CG ⟨0,0⟩,bA (decide (err=0))] (arS b) ⟨b,⟨by rw[<-herr];rw[<-herr]at hb;exact hb.1,hb.2⟩,rfl,rfl⟩
  ·cases hc
 rw[AM (AG h0)]at hr hc;refine JB ?_;refine AC rfl (λh1=>?_) (λh1=>?_)
 ·rw[AY (AD h1)]at hr hc
  have hk:0<=kind/\kind<w.kinds.length:=by
   split at hc
   ·cases hc
   ·omega
  have h16:=(DX h.wok.ks).1;have hp:=ab h ent kind hn ⟨by omega,by omega⟩;subst hr;refine JD ?_;(iterate 6 refine WO ?_);refine Gx [_] hp λb hb=>?_;refine JE ?_;refine FL ?_;refine RT ?_;exact Ends.sp [CG ⟨0,0⟩,bA _] (arS b) ⟨b,hb,rfl,rfl⟩
 rw[AM (AG h1)]at hr hc;refine JB ?_;refine AC rfl (λh2=>?_) (λh2=>?_)
 ·rw[AY (AD h2)]at hr hc
  have hp:=aD h ent hn;subst hr;refine JD ?_;(iterate 4 refine WO ?_);refine M8 [_] hp λb hb=>?_;refine JE ?_;refine FL ?_;refine RT ?_;exact Ends.sp [CG ⟨0,0⟩,bA _] (arS b) ⟨b,hb,rfl,rfl⟩
 rw[AM (AG h2)]at hr hc;have hp:=WA a w h h12 comps hl;subst hr;refine JD ?_;(iterate 3 refine WO ?_);refine M8 [_] hp λb hb=>?_;refine KO ?_;refine Ai λV=>?_;refine JE ?_
 refine JL ?_;exact Ends.sp [CG _,bA _] (arS b) ⟨b,hb,rfl,rfl⟩
section
open Go.Sort
theorem cw(f:FuncId)(cap:List AV)(cf:Item->Item->Int)(hst:DH cap=true)(hcf:∀x y,PS prog f ((AN false) x::(AN false) y::cap) (iA (cf x y)))(X n:Nat)(d:Array Item)(a b:Nat)(hn:n=d.size)(hab:a<=b)(hb:b<=d.size)(hz:d.size<=1099511627776):PO prog 173 [.sl X 0 n,iA a,iA b,.fn f cap] X (.row 83 3 (d.toList.map (AN false))) (.tup []) (.row 83 3 ((insertionSort (AU cf) d a b).toList.map (AN false))):=by
 obtain⟨r,hr⟩:=nm (insertionSort (AU cf) d a b);rw[hr];unfold insertionSort at hr;refine Sp (nt:=53) (res:=[]) func173 λSf=>?_
 refine KK ?_;refine Ca (λ(i:Nat) (e:Array Item)=>⟨[(0,.sl X 0 n),(1,iA a),(2,iA b),(3,.fn f cap),(8,iA i)],(X,.row 83 3 (e.toList.map (AN false)))::Sf⟩) (λi e=>i<=max b (a+1)/\a<i/\e.size=d.size/\insOuter (AU cf) a b i e=r) (λi _=>b-i) (a+1) d ⟨by omega,by omega,rfl,hr⟩ ?_;rintro i e ⟨hi,hai,he,hfold⟩;rw[insOuter]at hfold;refine KK ?_;refine AC rfl (λhc=>?_) (λhc=>?_)
 ·have h:i<b:=by have:=AD hc;omega
  rw[AY h]at hfold;refine KK ?_;refine Ca (λ(j:Nat) (u:Array Item)=>⟨[(0,.sl X 0 n),(1,iA a),(2,iA b),(3,.fn f cap),(8,iA i),(9,iA j)],(X,.row 83 3 (u.toList.map (AN false)))::Sf⟩) (λj u=>j<=i/\u.size=d.size/\insInner (AU cf) a j u=insInner (AU cf) a i e) (λj _=>j) i e ⟨AP _,he,rfl⟩ ?_;rintro j u ⟨hj,hu,hin⟩;rcases Ah (decide ((a:Int)<(j:Int)))with g|g
  ·have hja:a<j:=by have:=AD g;omega
   obtain⟨q,rfl⟩:∃q,j=q+1:=⟨j-1,by omega⟩;have h1:=BI (AN false) (d:=u) (i:=q+1) (by omega);have h2:=BI (AN false) (d:=u) (i:=q) (by omega);have hl:=hcf (u[q+1]!) (u[q]!);rw[insInner]at hin;(repeat refine WF ?_);refine RU ?_;(iterate 11 refine RK ?_);refine BO ?_ (BJ (q:Int) (by omega) (by omega) rfl rfl);refine KR ?_;refine Dv (h:=(hl ..)) (k:=?_);refine JG ?_;refine RGo.nil (by kernel_rfl) ?_;(repeat refine WF ?_);refine AC rfl (λhd=>?_) (λhd=>?_)
   ·have hd:(AU cf) u[q+1]! u[q]! =true:=by simpa[g,AU]using hd
    rw[hd,AY (by simp;omega)]at hin;obtain⟨y,hy⟩:=Cc (AN false) (d:=u) (i:=q+1) (j:=q) (by omega) u[q]!;(repeat refine WF ?_);refine RU ?_;(iterate 4 refine RK ?_);refine BO ?_ (BJ (q:Int) (by omega) (by omega) rfl rfl);refine JG ?_;refine BO ?_ (BJ (q:Int) (by omega) (by omega) rfl rfl);(iterate 9 refine RK ?_);refine RGo.s (W.store rfl rfl (by exact As) hy (by exact rfl)) rfl ?_;refine RGo.nil (by kernel_rfl) ?_
    (iterate 4 refine WK ?_);refine AI (BJ (q:Int) (by omega) (by omega) rfl rfl) rfl ?_;refine KK ?_
    refine Bn q (swp u (q+1) q) ⟨by omega,by rw[size_swp];exact hu,hin⟩ (h0:=by rw[<-C6 (AN false) (by omega) (by omega)];exact⟨by exact EF,by exact BH⟩)
   ·have hd:(AU cf) u[q+1]! u[q]! =false:=by simpa[g,AU]using hd
    rw[hd,AM (by simp)]at hin;refine KK ?_;refine Bn (i+1) u ⟨by omega,by omega,hu,by rw[hin];exact hfold⟩
  ·have hja:j<=a:=by have:=AG g;omega
   have hin2:insInner (AU cf) a j u=u:=by
    cases j with
    |zero=>rfl
    |succ q=>rw[insInner,AM (by simp;omega)]
   rw[hin2]at hin;(repeat refine WF ?_);refine RU ?_;(iterate 17 refine RK ?_);refine RGo.nil (by kernel_rfl) ?_;(repeat refine WF ?_);refine AB rfl (by simp[g]) ?_;refine KK ?_;refine Bn (i+1) u ⟨by omega,by omega,hu,by rw[hin];exact hfold⟩
 ·have h:¬i<b:=by have:=AG hc;omega
  rw[AM h]at hfold;subst hfold;refine KK ?_;refine Eb ?_;exact B4 [(X,.row 83 3 (e.toList.map (AN false)))] ⟨rfl,rfl⟩
end
section
open Go.Sort
theorem TU(f:FuncId)(cap:List AV)(cf:Item->Item->Int)(hst:DH cap=true)(hcf:∀x y,PS prog f ((AN false) x::(AN false) y::cap) (iA (cf x y)))(X n:Nat)(d:Array Item)(lo hi first:Nat)(hn:n=d.size)(hb:first+hi<=d.size)(hlo:lo<=1099511627776)(hz:d.size<=1099511627776):PO prog 232 [.sl X 0 n,iA lo,iA hi,iA first,.fn f cap] X (.row 83 3 (d.toList.map (AN false))) (.tup []) (.row 83 3 ((siftDown (AU cf) hi first lo d).toList.map (AN false))):=by
 obtain⟨r,hr⟩:=nm (siftDown (AU cf) hi first lo d);rw[hr];refine Sp (nt:=82) (res:=[]) func232 λSf=>?_
 refine KK ?_;refine Ca (λ(root:Nat) (u:Array Item)=>⟨[(0,.sl X 0 n),(2,iA hi),(3,iA first),(4,.fn f cap),(10,iA root)],(X,.row 83 3 (u.toList.map (AN false)))::Sf⟩) (λroot u=>root<=max hi lo/\u.size=d.size/\siftDown (AU cf) hi first root u=r) (λroot _=>hi-root) lo d ⟨by omega,rfl,hr⟩ ?_;rintro root u ⟨hro,hu,hfold⟩;rw[siftDown]at hfold
 (iterate 4 refine WK ?_);refine AI (Hw ((2*root:Nat):Int) (by omega) (by omega) rfl rfl) rfl ?_;refine AI (Bw (((2*root+1:Nat):Int)) (by omega) (by omega) rfl rfl) rfl ?_;refine KK ?_
 refine AC rfl (λhc=>?_) (λhc=>?_)
 ·have h:2*root+1>=hi:=by have:=AD hc;omega
  rw[dif_pos h]at hfold;subst hfold;refine KK ?_;refine Eb ?_;exact B4 [(X,.row 83 3 (u.toList.map (AN false)))] ⟨rfl,rfl⟩
 have h:¬2*root+1>=hi:=by have:=AG hc;omega
 rw[dif_neg h]at hfold;refine DN ?_;refine Ck ?_;refine C7 ?_;refine Bz (λc:Nat=>c<hi/\root<c/\(if !(AU cf) u[first+root]! u[first+c]! then u else siftDown (AU cf) hi first c (swp u (first+root) (first+c)))=r) (λc=>⟨[(0,.sl X 0 n),(2,iA hi),(3,iA first),(4,.fn f cap),(10,iA root),(11,iA c)],(X,.row 83 3 (u.toList.map (AN false)))::Sf⟩) ?_ ?_
 ·rcases Ah (decide (((2*root+1+1:Nat):Int)<(hi:Int)))with g|g
  ·have hg:2*root+1+1<hi:=by have:=AD g;omega
   have h1:=BI (AN false) (d:=u) (i:=first+(2*root+1)) (by omega);have h2:=BI (AN false) (d:=u) (i:=first+(2*root+1)+1) (by omega);have hl:=hcf (u[first+(2*root+1)]!) (u[first+(2*root+1)+1]!);refine RU ?_;refine RK ?_;refine BO ?_ (Bw (((2*root+1+1:Nat):Int)) (by omega) (by omega) rfl rfl);(iterate 7 refine RK ?_);refine BO ?_ (Bw (((first+(2*root+1):Nat):Int)) (by omega) (by omega) rfl rfl);(iterate 5 refine RK ?_);refine BO ?_ (Bw (((first+(2*root+1):Nat):Int)) (by omega) (by omega) rfl rfl);refine BO ?_ (Bw (((first+(2*root+1)+1:Nat):Int)) (by omega) (by omega) rfl rfl);refine KR ?_;refine Dv (h:=(hl ..)) (k:=?_);refine JG ?_;refine RGo.nil (by kernel_rfl) ?_;(repeat refine WF ?_);refine AC rfl (λhd=>?_) (λhd=>?_)
   ·have hd:(AU cf) u[first+(2*root+1)]! u[first+(2*root+1)+1]! =true:=by simpa[g,AU]using hd
    rw[hd,AY (by simp;omega)]at hfold;refine WK ?_;refine WK ?_;refine AI (Bw (((2*root+2:Nat):Int)) (by omega) (by omega) rfl rfl) rfl ?_;refine KK ?_;refine jn (2*root+2) ⟨by omega,by omega,?_⟩;split at hfold
    ·rename_i hx;rw[AY hx];exact hfold
    ·rename_i hx;rw[AM hx];first|exact hfold|(rw[dif_pos (by omega)]at hfold;exact hfold)
   ·have hd:(AU cf) u[first+(2*root+1)]! u[first+(2*root+1)+1]! =false:=by simpa[g,AU]using hd
    rw[hd,AM (by simp)]at hfold;refine WK ?_;exact jn (2*root+1) ⟨by omega,by omega,hfold⟩
  ·have hg:¬2*root+1+1<hi:=by have:=AG g;omega
   rw[AM (by simp[hg])]at hfold;refine RU ?_;refine RK ?_;refine BO ?_ (Bw (((2*root+1+1:Nat):Int)) (by omega) (by omega) rfl rfl);(iterate 20 refine RK ?_);refine RGo.nil (by kernel_rfl) ?_;(repeat refine WF ?_);refine AB rfl (by simp[g]) ?_;refine WK ?_;exact jn (2*root+1) ⟨by omega,by omega,hfold⟩
 ·rintro c ⟨hch,hrc,hfold⟩
  have h1:=BI (AN false) (d:=u) (i:=first+root) (by omega);have h2:=BI (AN false) (d:=u) (i:=first+c) (by omega);have hl:=hcf (u[first+root]!) (u[first+c]!);(repeat refine WF ?_);refine RU ?_;(iterate 4 refine RK ?_);refine BO ?_ (Bw (((first+root:Nat):Int)) (by omega) (by omega) rfl rfl);(iterate 5 refine RK ?_);refine BO ?_ (Bw (((first+c:Nat):Int)) (by omega) (by omega) rfl rfl);refine KR ?_;refine Dv (h:=(hl ..)) (k:=?_);refine JG ?_;refine RGo.nil (by kernel_rfl) ?_;(repeat refine WF ?_);refine AC rfl (λhd=>?_) (λhd=>?_)
  ·have hd:(!(AU cf) u[first+root]! u[first+c]!)=true:=by simpa[AU]using hd
   rw[AY hd]at hfold;subst hfold;refine RT ?_;exact B4 [(X,.row 83 3 (u.toList.map (AN false)))] ⟨rfl,rfl⟩
  ·have hd:(!(AU cf) u[first+root]! u[first+c]!)=false:=by simpa[AU]using hd
   rw[AM (by rw[hd];simp)]at hfold;obtain⟨y,hy⟩:=Cc (AN false) (d:=u) (i:=first+root) (j:=first+c) (by omega) u[first+c]!;(repeat refine WF ?_);refine RU ?_;(repeat first|(refine MK ?_;first|refine BO ?_ (Bw (((first+root:Nat):Int)) (by omega) (by omega) rfl rfl)|refine BO ?_ (Bw (((first+c:Nat):Int)) (by omega) (by omega) rfl rfl)|refine RGo.s (W.store rfl rfl (by exact As) hy (by exact rfl)) rfl ?_)|(refine HU ?_;first|refine BO ?_ (Bw (((first+root:Nat):Int)) (by omega) (by omega) rfl rfl)|refine BO ?_ (Bw (((first+c:Nat):Int)) (by omega) (by omega) rfl rfl)|refine RGo.s (W.store rfl rfl (by exact As) hy (by exact rfl)) rfl ?_)|refine RK ?_|refine RGo.nil (by kernel_rfl) ?_);refine KK ?_;refine Bn c (swp u (first+root) (first+c)) ⟨by omega,by rw[size_swp];exact hu,hfold⟩ (h0:=by rw[<-C6 (AN false) (by omega) (by omega)];exact⟨by exact EF,by exact BH⟩)
theorem Gn(lt:Item->Item->Bool)(hi first:Nat):∀(k root:Nat) (d:Array Item),hi-root<=k->(siftDown lt hi first root d).size=d.size
 |0,root,d,h=>by rw[siftDown,dif_pos (by omega)]
 |k+1,root,d,h=>by
  rw[siftDown];split
  ·rfl
  ·split
   ·split
    ·rfl
    ·split
     ·rw[Gn lt hi first k _ _ (by omega),size_swp]
     ·rfl
   ·split
    ·rfl
    ·rw[Gn lt hi first k _ _ (by omega),size_swp]
theorem aM(f:FuncId)(cap:List AV)(cf:Item->Item->Int)(hst:DH cap=true)(hcf:∀x y,PS prog f ((AN false) x::(AN false) y::cap) (iA (cf x y)))(X n:Nat)(d:Array Item)(a b:Nat)(hn:n=d.size)(hab:a<b)(hb:b<=d.size)(hz:d.size<=1099511627776):PO prog 174 [.sl X 0 n,iA a,iA b,.fn f cap] X (.row 83 3 (d.toList.map (AN false))) (.tup []) (.row 83 3 ((heapSort (AU cf) d a b).toList.map (AN false))):=by
 obtain⟨r,hr⟩:=nm (heapSort (AU cf) d a b);rw[hr];unfold heapSort at hr;obtain⟨m,hm⟩:=nm (b-a);rw[hm]at hr;refine Sp (nt:=60) (res:=[]) func174 λSf=>?_
 (repeat first|(refine Bk ?_;first|refine AI (BJ ((m:Int)) (by omega) (by omega) rfl rfl) rfl ?_|refine AI (BJ (((m-1:Nat):Int)) (by omega) (by omega) rfl rfl) rfl ?_|refine AI (JQ (m-1) 2 ((m-1)/2) rfl rfl (by omega) rfl (by omega) rfl rfl) rfl ?_)|refine WK ?_|refine Ai λX=>?_|refine Ay λY=>?_);refine Ca (λ(k:Nat) (u:Array Item)=>⟨[(0,.sl X 0 n),(3,.fn f cap),(8,iA a),(9,iA 0),(10,iA m),(11,iA ((k:Int)-1))],(X,.row 83 3 (u.toList.map (AN false)))::Sf⟩) (λk u=>k<=m/\u.size=d.size/\heapPop (AU cf) a m (heapBuild (AU cf) m a k u)=r) (λk _=>k) ((m-1)/2+1) d ⟨by omega,rfl,hr⟩ ?_ (h0:=by rw[show((((m-1)/2+1:Nat):Int)-1)=(((m-1)/2:Nat):Int) by omega];exact⟨by exact EF,by exact BH⟩);rintro k u ⟨hk,hu,hfold⟩;refine KK ?_;refine AC rfl (λhc=>?_) (λhc=>?_)
 ·obtain⟨q,rfl⟩:∃q,k=q+1:=⟨k-1,by have:=AD hc;omega⟩
  rw[heapBuild]at hfold;have hs:=TU f cap cf hst hcf X n u q m a (by omega) (by omega) (by omega) (by omega);have hsz:=Gn (AU cf) m a _ q u (AP _);rw[show(((q+1:Nat):Int)-1)=(q:Int) by omega];refine KK ?_;refine IJ (h:=(hs ..)) (k:=?_);(iterate 5 refine WK ?_);refine AI (BJ ((q:Int)-1) (by omega) (by omega) rfl rfl) rfl ?_;refine KK ?_;exact Bn q (siftDown (AU cf) m a q u) ⟨by omega,by omega,hfold⟩
 ·obtain rfl:k=0:=by have:=AG hc;omega
  rw[heapBuild]at hfold
  (iterate 4 refine WK ?_);refine AI (BJ ((m:Int)-1) (by omega) (by omega) rfl rfl) rfl ?_;refine KK ?_
  clear hc hk;refine Ca (λ(k:Nat) (u:Array Item)=>⟨[(0,.sl X 0 n),(3,.fn f cap),(8,iA a),(9,iA 0),(10,iA m),(12,iA ((k:Int)-1))],(X,.row 83 3 (u.toList.map (AN false)))::Sf⟩) (λk u=>k<=m/\u.size=d.size/\heapPop (AU cf) a k u=r) (λk _=>k) m u ⟨by omega,hu,hfold⟩ ?_;clear hfold hu;rintro k u ⟨hk,hu,hfold⟩;refine KK ?_;refine AC rfl (λhc=>?_) (λhc=>?_)
  ·obtain⟨q,rfl⟩:∃q,k=q+1:=⟨k-1,by have:=AD hc;omega⟩
   rw[heapPop]at hfold;have h1:=BI (AN false) (d:=u) (i:=a) (by omega);have h2:=BI (AN false) (d:=u) (i:=a+q) (by omega);have hs:=TU f cap cf hst hcf X n (swp u a (a+q)) 0 q a (by rw[size_swp];omega) (by rw[size_swp];omega) (by omega) (by rw[size_swp];omega);have hsz:=Gn (AU cf) q a _ 0 (swp u a (a+q)) (AP _);rw[size_swp]at hsz;rw[show(((q+1:Nat):Int)-1)=(q:Int) by omega];obtain⟨y,hy⟩:=Cc (AN false) (d:=u) (i:=a) (j:=a+q) (by omega) u[a+q]!;have hrow:=C6 (AN false) (d:=u) (i:=a) (j:=a+q) (by omega) (by omega);(repeat refine WF ?_);refine RU ?_;(iterate 5 refine RK ?_);refine BO ?_ (Bw (((a+q:Nat):Int)) (by omega) (by omega) rfl rfl);(iterate 3 refine RK ?_);refine BO ?_ (Bw (((a+q:Nat):Int)) (by omega) (by omega) rfl rfl);(iterate 9 refine RK ?_);refine RGo.s (W.store rfl rfl (by exact As) hy (by exact rfl)) rfl ?_;refine RGo.nil (by kernel_rfl) ?_;refine K4 [(0,.sl X 0 n),(3,.fn f cap),(8,iA a),(9,iA 0),(10,iA m),(12,iA q)] ((X,.row 83 3 ((swp u a (a+q)).toList.map (AN false)))::Sf) ?_ (h:=by rw[<-hrow];exact⟨by exact EF,by exact BH⟩);refine KK ?_;refine IJ (h:=(hs ..)) (k:=?_);(iterate 5 refine WK ?_);refine AI (BJ ((q:Int)-1) (by omega) (by omega) rfl rfl) rfl ?_;refine KK ?_;exact Bn q (siftDown (AU cf) q a 0 (swp u a (a+q))) ⟨by omega,by omega,hfold⟩
  ·obtain rfl:k=0:=by have:=AG hc;omega
   rw[heapPop]at hfold;subst hfold;refine KK ?_;refine Eb ?_;exact B4 [(X,.row 83 3 (u.toList.map (AN false)))] ⟨rfl,rfl⟩
theorem cN{f:FuncId}{cap:List AV}(X n:Nat)(d:Array Item)(a b:Nat)(hn:n=d.size)(hab:a<b)(hb:b<=d.size)(hz:d.size<=1099511627776):PO prog 177 [.sl X 0 n,iA a,iA b,.fn f cap] X (.row 83 3 (d.toList.map (AN false))) (.tup []) (.row 83 3 ((reverseRange d a b).toList.map (AN false))):=by
 obtain⟨r,hr⟩:=nm (reverseRange d a b);rw[hr];unfold reverseRange at hr;refine Sp (nt:=34) (res:=[]) func177 λSf=>?_
 (iterate 8 refine WK ?_);refine AI (BJ (((b-1:Nat):Int)) (by omega) (by omega) rfl rfl) rfl ?_;refine KK ?_
 refine Ev (λ(i j:Nat) (u:Array Item)=>⟨[(0,.sl X 0 n),(8,iA i),(9,iA j)],(X,.row 83 3 (u.toList.map (AN false)))::Sf⟩) (λi j u=>i<=d.size/\j<d.size/\u.size=d.size/\reverseLoop i j u=r) (λi j _=>j-i) a (b-1) d ⟨by omega,by omega,rfl,hr⟩ ?_;rintro i j u ⟨hi,hj,hu,hfold⟩;rw[reverseLoop]at hfold;refine KK ?_;refine AC rfl (λhc=>?_) (λhc=>?_)
 ·have h:i<j:=by have:=AD hc;omega
  rw[AY h]at hfold;have h1:=BI (AN false) (d:=u) (i:=i) (by omega);have h2:=BI (AN false) (d:=u) (i:=j) (by omega);obtain⟨y,hy⟩:=Cc (AN false) (d:=u) (i:=i) (j:=j) (by omega) u[j]!;(repeat refine WF ?_);refine RU ?_;(iterate 15 refine RK ?_);refine RGo.s (W.store rfl rfl (by exact As) hy (by exact rfl)) rfl ?_;refine RGo.nil (by kernel_rfl) ?_
  (iterate 9 refine WK ?_);refine AI (BJ (((j-1:Nat):Int)) (by omega) (by omega) rfl rfl) rfl ?_;refine KK ?_
  refine Dc (i+1) (j-1) (swp u i j) ⟨by omega,by omega,by rw[size_swp];exact hu,hfold⟩ (h0:=by rw[<-C6 (AN false) (by omega) (by omega)];exact⟨by exact EF,by exact BH⟩)
 ·have h:¬i<j:=by have:=AG hc;omega
  rw[AM h]at hfold;subst hfold;refine KK ?_;refine Eb ?_;exact B4 [(X,.row 83 3 (u.toList.map (AN false)))] ⟨rfl,rfl⟩
end
section
open Go.Sort
theorem Lu(p:Item->Bool)(d:Array Item)(j i:Nat):scanUp p d j i<=max i (j+1):=by
 obtain⟨m,hm⟩:=nm (j+1-i)
 induction m generalizing i with
 |zero=>rw[scanUp,AM (λe=>by rw[AF]at e;have:=AD e.1;omega)];omega
 |succ m ih=>
  rw[scanUp];split
  ·have:=ih (i+1) (by omega)
   omega
  ·omega
theorem cU(f:FuncId)(cap:List AV)(cf:Item->Item->Int)(hst:DH cap=true)(hcf:∀x y,PS prog f ((AN false) x::(AN false) y::cap) (iA (cf x y)))(X n:Nat)(d:Array Item)(a b pivot:Nat)(hn:n=d.size)(ha:a<=pivot)(hp:pivot<b)(hb:b<=d.size)(hz:d.size<=1099511627776):PO prog 179 [.sl X 0 n,iA a,iA b,iA pivot,.fn f cap] X (.row 83 3 (d.toList.map (AN false))) (iA (partitionEqual (AU cf) d a b pivot).1) (.row 83 3 ((partitionEqual (AU cf) d a b pivot).2.toList.map (AN false))):=by
 obtain⟨r,hr⟩:=nm (partitionEqual (AU cf) d a b pivot);rw[hr];unfold partitionEqual at hr;refine Sp (nt:=90) (res:=[.tmp 10]) func179 λSf=>?_
 have h1:=BI (AN false) (d:=d) (i:=a) (by omega);have h2:=BI (AN false) (d:=d) (i:=pivot) (by omega);obtain⟨y,hy⟩:=Cc (AN false) (d:=d) (i:=a) (j:=pivot) (by omega) d[pivot]!;refine R1 ?_;refine RU ?_;(iterate 15 refine RK ?_);refine RGo.s (W.store rfl rfl (by exact As) hy (by exact rfl)) rfl ?_;refine RGo.nil (by kernel_rfl) ?_
 (iterate 5 refine WK ?_);refine AI (BJ (((b-1:Nat):Int)) (by omega) (by omega) rfl rfl) rfl ?_;refine KK ?_
 refine Ev (λ(i j:Nat) (u:Array Item)=>⟨[(0,.sl X 0 n),(1,iA a),(4,.fn f cap),(11,iA i),(12,iA j)],(X,.row 83 3 (u.toList.map (AN false)))::Sf⟩) (λi j u=>a<i/\i<=j+2/\j<b/\u.size=d.size/\partEqLoop (AU cf) a i j u=r) (λi j _=>j+1-i) (a+1) (b-1) (swp d a pivot) ⟨by omega,by omega,by omega,by rw[size_swp],hr⟩ ?_ (h0:=by rw[<-C6 (AN false) (by omega) (by omega)];exact⟨by exact EF,by exact BH⟩);rintro i j u ⟨hai,hij,hjb,hu,hfold⟩;rw[partEqLoop_eq]at hfold;obtain⟨i2,hi2⟩:=nm (scanUp (λx=>!(AU cf) u[a]! x) u j i);rw[hi2]at hfold;obtain⟨j2,hj2⟩:=nm (scanDown (λx=>(AU cf) u[a]! x) u i2 j);rw[hj2]at hfold;have hge:=scanUp_ge (λx=>!(AU cf) u[a]! x) u j i;have hle:=scanDown_le (λx=>(AU cf) u[a]! x) u i2 j;rw[hi2]at hge;rw[hj2]at hle;have hge2:i2<=max i (j+1):=by rw[<-hi2];exact Lu _ _ _ _
 refine AWP.block ?_
 (repeat (first|refine DN ?_|refine Ck ?_|refine C7 ?_))
 refine Bz (λk:Nat=>k=i2) (λk=>⟨[(0,.sl X 0 n),(1,iA a),(4,.fn f cap),(11,iA k),(12,iA j)],(X,.row 83 3 (u.toList.map (AN false)))::Sf⟩) ?_ ?_
 ·refine AWP.block ?_
  refine B8 (λ(k:Nat)=>⟨[(0,.sl X 0 n),(1,iA a),(4,.fn f cap),(11,iA k),(12,iA j)],(X,.row 83 3 (u.toList.map (AN false)))::Sf⟩) (λk=>i<=k/\k<=max i (j+1)/\scanUp (λx=>!(AU cf) u[a]! x) u j k=i2) (λk=>j+1-k) i ⟨AP _,by omega,hi2⟩ ?_;rintro k ⟨hk1,hk2,hk⟩;rw[scanUp]at hk;rcases Ah (decide ((k:Int)<=(j:Int)))with g|g
  ·have hg:k<=j:=by have:=AD g;omega
   have h1:=BI (AN false) (d:=u) (i:=k) (by omega);have h2:=BI (AN false) (d:=u) (i:=a) (by omega);have hl:=hcf (u[a]!) (u[k]!);(repeat refine WF ?_);refine JM ?_;refine Dv (h:=(hl ..)) (k:=?_);(iterate 3 refine RK ?_);refine RGo.nil (by kernel_rfl) ?_;(repeat refine WF ?_);refine AC rfl (λhd=>?_) (λhd=>?_)
   ·have hd:(!(AU cf) u[a]! u[k]!)=true:=by simpa[g,AU]using hd
    rw[AY (by rw[AF];exact⟨BG (by omega),hd⟩)]at hk;refine KK ?_;exact BM (k+1) ⟨by omega,by omega,hk⟩
   ·have hd:(!(AU cf) u[a]! u[k]!)=false:=by simpa[g,AU]using hd
    rw[AM (λe=>by rw[AF]at e;have e2:=e.2;rw[hd]at e2;cases e2)]at hk;refine KK ?_;exact jn k hk
  ·have hg:¬k<=j:=by have:=AG g;omega
   rw[AM (λe=>by rw[AF]at e;have:=AD e.1;omega)]at hk;(repeat refine WF ?_);refine RU ?_;(iterate 17 refine RK ?_);refine RGo.nil (by kernel_rfl) ?_;(repeat refine WF ?_);refine AB rfl (by simp[g]) ?_;refine KK ?_;exact jn k hk
 rintro k hk0;rw[hk0];clear hk0 k
 (repeat (first|refine DN ?_|refine Ck ?_|refine C7 ?_))
 refine Bz (λk:Nat=>k=j2) (λk=>⟨[(0,.sl X 0 n),(1,iA a),(4,.fn f cap),(11,iA i2),(12,iA k)],(X,.row 83 3 (u.toList.map (AN false)))::Sf⟩) ?_ ?_
 ·refine AWP.block ?_
  refine B8 (λ(k:Nat)=>⟨[(0,.sl X 0 n),(1,iA a),(4,.fn f cap),(11,iA i2),(12,iA k)],(X,.row 83 3 (u.toList.map (AN false)))::Sf⟩) (λk=>k<=j/\scanDown (λx=>(AU cf) u[a]! x) u i2 k=j2) (λk=>k) j ⟨AP _,hj2⟩ ?_;rintro k ⟨hk1,hk⟩;rcases Ah (decide ((i2:Int)<=(k:Int)))with g|g
  ·have hg:i2<=k:=by have:=AD g;omega
   obtain⟨q,rfl⟩:∃q,k=q+1:=⟨k-1,by omega⟩;rw[scanDown]at hk;have h1:=BI (AN false) (d:=u) (i:=q+1) (by omega);have h2:=BI (AN false) (d:=u) (i:=a) (by omega);have hl:=hcf (u[a]!) (u[q+1]!);(repeat refine WF ?_);refine JM ?_;refine Dv (h:=(hl ..)) (k:=?_);refine JG ?_;refine RGo.nil (by kernel_rfl) ?_;(repeat refine WF ?_);refine AC rfl (λhd=>?_) (λhd=>?_)
   ·have hd:((AU cf) u[a]! u[q+1]!)=true:=by simpa[g,AU]using hd
    rw[AY (by rw[AF];exact⟨BG (by omega),hd⟩)]at hk
    (iterate 4 refine WK ?_);refine AI (BJ ((q:Int)) (by omega) (by omega) rfl rfl) rfl ?_;refine KK ?_
    exact BM q ⟨by omega,hk⟩
   ·have hd:((AU cf) u[a]! u[q+1]!)=false:=by simpa[g,AU]using hd
    rw[AM (λe=>by rw[AF]at e;have e2:=e.2;rw[hd]at e2;cases e2)]at hk;refine KK ?_;exact jn (q+1) hk
  ·have hg:¬i2<=k:=by have:=AG g;omega
   have hk3:scanDown (λx=>(AU cf) u[a]! x) u i2 k=k:=by
    cases k with
    |zero=>rfl
    |succ q=>rw[scanDown,AM (λe=>by rw[AF]at e;have:=AD e.1;omega)]
   rw[hk3]at hk;(repeat refine WF ?_);refine RU ?_;(iterate 16 refine RK ?_);refine RGo.nil (by kernel_rfl) ?_;(repeat refine WF ?_);refine AB rfl (by simp[g]) ?_;refine KK ?_;exact jn k hk
 rintro k hk0;rw[hk0];clear hk0 k;refine KK ?_;refine AC rfl (λhc=>?_) (λhc=>?_)
 ·have h:i2>j2:=by have:=AD hc;omega
  rw[AY h]at hfold;subst hfold;refine JA ?_;exact Ends.sp [iA i2] [(X,_)] ⟨rfl,rfl⟩
 ·have h:¬i2>j2:=by have:=AG hc;omega
  rw[AM h]at hfold;have h1:=BI (AN false) (d:=u) (i:=i2) (by omega);have h2:=BI (AN false) (d:=u) (i:=j2) (by omega);obtain⟨y,hy⟩:=Cc (AN false) (d:=u) (i:=i2) (j:=j2) (by omega) u[j2]!;(repeat refine WF ?_);refine RU ?_;(iterate 15 refine RK ?_);refine RGo.s (W.store rfl rfl (by exact As) hy (by exact rfl)) rfl ?_;refine RGo.nil (by kernel_rfl) ?_
  (iterate 9 refine WK ?_);refine AI (BJ (((j2-1:Nat):Int)) (by omega) (by omega) rfl rfl) rfl ?_;refine KK ?_
  refine Dc (i2+1) (j2-1) (swp u i2 j2) ⟨by omega,by omega,by omega,by rw[size_swp];exact hu,hfold⟩ (h0:=by rw[<-C6 (AN false) (by omega) (by omega)];exact⟨by exact EF,by exact BH⟩)
theorem Zh(f:FuncId)(cap:List AV)(cf:Item->Item->Int)(hst:DH cap=true)(hcf:∀x y,PS prog f ((AN false) x::(AN false) y::cap) (iA (cf x y)))(X n:Nat)(d:Array Item)(a b pivot:Nat)(hn:n=d.size)(ha:a<=pivot)(hp:pivot<b)(hb:b<=d.size)(hz:d.size<=1099511627776):PO prog 180 [.sl X 0 n,iA a,iA b,iA pivot,.fn f cap] X (.row 83 3 (d.toList.map (AN false))) (.tup [iA (partition (AU cf) d a b pivot).1,bA (partition (AU cf) d a b pivot).2.1]) (.row 83 3 ((partition (AU cf) d a b pivot).2.2.toList.map (AN false))):=by
 obtain⟨r,hr⟩:=nm (partition (AU cf) d a b pivot);rw[hr];dsimp only[partition]at hr;refine Sp (nt:=178) (res:=[.tmp 10,.tmp 11]) func180 λSf=>?_
 have h1:=BI (AN false) (d:=d) (i:=a) (by omega);have h2:=BI (AN false) (d:=d) (i:=pivot) (by omega);have hrow:=C6 (AN false) (d:=d) (i:=a) (j:=pivot) (by omega) (by omega);obtain⟨y,hy⟩:=Cc (AN false) (d:=d) (i:=a) (j:=pivot) (by omega) d[pivot]!;refine R1 ?_;refine RU ?_;(iterate 15 refine RK ?_);refine RGo.s (W.store rfl rfl (by exact As) hy (by exact rfl)) rfl ?_;refine RGo.nil (by kernel_rfl) ?_;have hsz:(swp d a pivot).size=d.size:=size_swp _ _ _;obtain⟨u,hu0⟩:=nm (swp d a pivot);rw[hu0]at hr hrow hsz;obtain⟨j,hj⟩:=nm (b-1);obtain⟨i,hi⟩:=nm (a+1);rw[hj,hi]at hr;refine JF ?_;refine AI (Bw (((i:Nat):Int)) (by omega) (by omega) rfl rfl) rfl ?_;refine WO ?_;refine AI (BJ ((j:Int)) (by omega) (by omega) rfl rfl) rfl ?_;refine JE ?_
 (repeat (first|refine DN ?_|refine Ck ?_|refine C7 ?_))
 refine K4 [(0,.sl X 0 n),(1,iA a),(4,.fn f cap),(12,iA i),(13,iA j)] ((X,.row 83 3 (u.toList.map (AN false)))::Sf) ?_ (h:=by rw[<-hrow];exact⟨by exact EF,by exact BH⟩);have hu:u.size=d.size:=hsz;have hfold:=hr;obtain⟨i2,hi2⟩:=nm (scanUp (λx=>(AU cf) x u[a]!) u j i);rw[hi2]at hfold;obtain⟨j2,hj2⟩:=nm (scanDown (λx=>!(AU cf) x u[a]!) u i2 j);rw[hj2]at hfold;have hge:=scanUp_ge (λx=>(AU cf) x u[a]!) u j i;have hle:=scanDown_le (λx=>!(AU cf) x u[a]!) u i2 j;rw[hi2]at hge;rw[hj2]at hle;have hge2:i2<=max i (j+1):=by rw[<-hi2];exact Lu _ _ _ _
 refine Bz (λk:Nat=>k=i2) (λk=>⟨[(0,.sl X 0 n),(1,iA a),(4,.fn f cap),(12,iA k),(13,iA j)],(X,.row 83 3 (u.toList.map (AN false)))::Sf⟩) ?_ ?_
 ·refine AWP.block ?_
  refine B8 (λ(k:Nat)=>⟨[(0,.sl X 0 n),(1,iA a),(4,.fn f cap),(12,iA k),(13,iA j)],(X,.row 83 3 (u.toList.map (AN false)))::Sf⟩) (λk=>i<=k/\k<=max i (j+1)/\scanUp (λx=>(AU cf) x u[a]!) u j k=i2) (λk=>j+1-k) i ⟨AP _,by omega,hi2⟩ ?_;rintro k ⟨hk1,hk2,hk⟩;rw[scanUp]at hk;rcases Ah (decide ((k:Int)<=(j:Int)))with g|g
  ·have hg:k<=j:=by have:=AD g;omega
   have h1:=BI (AN false) (d:=u) (i:=k) (by omega);have h2:=BI (AN false) (d:=u) (i:=a) (by omega);have hl:=hcf (u[k]!) (u[a]!);(repeat refine WF ?_);refine JM ?_;refine Dv (h:=(hl ..)) (k:=?_);refine JG ?_;refine RGo.nil (by kernel_rfl) ?_;(repeat refine WF ?_);refine AC rfl (λhd=>?_) (λhd=>?_)
   ·have hd:((AU cf) u[k]! u[a]!)=true:=by simpa[g,AU]using hd
    rw[AY (by rw[AF];exact⟨BG (by omega),hd⟩)]at hk;refine KK ?_;exact BM (k+1) ⟨by omega,by omega,hk⟩
   ·have hd:((AU cf) u[k]! u[a]!)=false:=by simpa[g,AU]using hd
    rw[AM (λe=>by rw[AF]at e;have e2:=e.2;rw[hd]at e2;cases e2)]at hk;refine KK ?_;exact jn k hk
  ·have hg:¬k<=j:=by have:=AG g;omega
   rw[AM (λe=>by rw[AF]at e;have:=AD e.1;omega)]at hk;(repeat refine WF ?_);refine RU ?_;(iterate 16 refine RK ?_);refine RGo.nil (by kernel_rfl) ?_;(repeat refine WF ?_);refine AB rfl (by simp[g]) ?_;refine KK ?_;exact jn k hk
 rintro k hk0;rw[hk0];clear hk0 k
 (repeat (first|refine DN ?_|refine Ck ?_|refine C7 ?_))
 refine Bz (λk:Nat=>k=j2) (λk=>⟨[(0,.sl X 0 n),(1,iA a),(4,.fn f cap),(12,iA i2),(13,iA k)],(X,.row 83 3 (u.toList.map (AN false)))::Sf⟩) ?_ ?_
 ·refine AWP.block ?_
  refine B8 (λ(k:Nat)=>⟨[(0,.sl X 0 n),(1,iA a),(4,.fn f cap),(12,iA i2),(13,iA k)],(X,.row 83 3 (u.toList.map (AN false)))::Sf⟩) (λk=>k<=j/\scanDown (λx=>!(AU cf) x u[a]!) u i2 k=j2) (λk=>k) j ⟨AP _,hj2⟩ ?_;rintro k ⟨hk1,hk⟩;rcases Ah (decide ((i2:Int)<=(k:Int)))with g|g
  ·have hg:i2<=k:=by have:=AD g;omega
   obtain⟨q,rfl⟩:∃q,k=q+1:=⟨k-1,by omega⟩;rw[scanDown]at hk;have h1:=BI (AN false) (d:=u) (i:=q+1) (by omega);have h2:=BI (AN false) (d:=u) (i:=a) (by omega);have hl:=hcf (u[q+1]!) (u[a]!);(repeat refine WF ?_);refine JM ?_;refine Dv (h:=(hl ..)) (k:=?_);(iterate 3 refine RK ?_);refine RGo.nil (by kernel_rfl) ?_;(repeat refine WF ?_);refine AC rfl (λhd=>?_) (λhd=>?_)
   ·have hd:(!(AU cf) u[q+1]! u[a]!)=true:=by simpa[g,AU]using hd
    rw[AY (by rw[AF];exact⟨BG (by omega),hd⟩)]at hk
    (iterate 4 refine WK ?_);refine AI (BJ ((q:Int)) (by omega) (by omega) rfl rfl) rfl ?_;refine KK ?_
    exact BM q ⟨by omega,hk⟩
   ·have hd:(!(AU cf) u[q+1]! u[a]!)=false:=by simpa[g,AU]using hd
    rw[AM (λe=>by rw[AF]at e;have e2:=e.2;rw[hd]at e2;cases e2)]at hk;refine KK ?_;exact jn (q+1) hk
  ·have hg:¬i2<=k:=by have:=AG g;omega
   have hk3:scanDown (λx=>!(AU cf) x u[a]!) u i2 k=k:=by
    cases k with
    |zero=>rfl
    |succ q=>rw[scanDown,AM (λe=>by rw[AF]at e;have:=AD e.1;omega)]
   rw[hk3]at hk;(repeat refine WF ?_);refine RU ?_;(iterate 17 refine RK ?_);refine RGo.nil (by kernel_rfl) ?_;(repeat refine WF ?_);refine AB rfl (by simp[g]) ?_;refine KK ?_;exact jn k hk
 rintro k hk0;rw[hk0];clear hk0 k;refine KK ?_;refine AC rfl (λhc=>?_) (λhc=>?_)
 ·have h:i2>j2:=by have:=AD hc;omega
  rw[AY h]at hfold;subst hfold;have h1:=BI (AN false) (d:=u) (i:=j2) (by omega);have h2:=BI (AN false) (d:=u) (i:=a) (by omega);have hrow2:=C6 (AN false) (d:=u) (i:=j2) (j:=a) (by omega) (by omega);obtain⟨y,hy⟩:=Cc (AN false) (d:=u) (i:=j2) (j:=a) (by omega) u[a]!;(repeat refine WF ?_);refine RU ?_;(iterate 15 refine RK ?_);refine RGo.s (W.store rfl rfl (by exact As) hy (by exact rfl)) rfl ?_;refine RGo.nil (by kernel_rfl) ?_;refine JA ?_;exact Ends.sp [iA j2,bA true] [(X,_)] ⟨rfl,by rw[<-hrow2]⟩
 have h:¬i2>j2:=by have:=AG hc;omega
 rw[AM h]at hfold;obtain⟨pr,hpr⟩:=nm (partLoop (AU cf) a (i2+1) (j2-1) (swp u i2 j2));rw[hpr]at hfold;have h1:=BI (AN false) (d:=u) (i:=i2) (by omega);have h2:=BI (AN false) (d:=u) (i:=j2) (by omega);clear y hy;obtain⟨y,hy⟩:=Cc (AN false) (d:=u) (i:=i2) (j:=j2) (by omega) u[j2]!;(repeat refine WF ?_);refine RU ?_;(iterate 15 refine RK ?_);refine RGo.s (W.store rfl rfl (by exact As) hy (by exact rfl)) rfl ?_;refine RGo.nil (by kernel_rfl) ?_
 (iterate 9 refine WK ?_);refine AI (BJ (((j2-1:Nat):Int)) (by omega) (by omega) rfl rfl) rfl ?_;refine KK ?_
 refine Ev (λ(i j:Nat) (u:Array Item)=>⟨[(0,.sl X 0 n),(1,iA a),(4,.fn f cap),(12,iA i),(13,iA j)],(X,.row 83 3 (u.toList.map (AN false)))::Sf⟩) (λi j u=>a<i/\i<=j+2/\j<b/\u.size=d.size/\partLoop (AU cf) a i j u=pr) (λi j _=>j+1-i) (i2+1) (j2-1) (swp u i2 j2) ⟨by omega,by omega,by omega,by rw[size_swp];exact hu,hpr⟩ ?_ (h0:=by rw[<-C6 (AN false) (by omega) (by omega)];exact⟨by exact EF,by exact BH⟩);subst hfold;clear hc h h1 h2 hpr hi2 hj2 hge hle hge2 hr hrow hu0 hu hsz hi hj hy y i2 j2 i j u;rintro i j u ⟨hai,hij,hjb,hu,hfold⟩;rw[partLoop_eq]at hfold;obtain⟨i2,hi2⟩:=nm (scanUp (λx=>(AU cf) x u[a]!) u j i);rw[hi2]at hfold;obtain⟨j2,hj2⟩:=nm (scanDown (λx=>!(AU cf) x u[a]!) u i2 j);rw[hj2]at hfold;have hge:=scanUp_ge (λx=>(AU cf) x u[a]!) u j i;have hle:=scanDown_le (λx=>!(AU cf) x u[a]!) u i2 j;rw[hi2]at hge;rw[hj2]at hle;have hge2:i2<=max i (j+1):=by rw[<-hi2];exact Lu _ _ _ _
 refine AWP.block ?_
 (repeat (first|refine DN ?_|refine Ck ?_|refine C7 ?_))
 refine Bz (λk:Nat=>k=i2) (λk=>⟨[(0,.sl X 0 n),(1,iA a),(4,.fn f cap),(12,iA k),(13,iA j)],(X,.row 83 3 (u.toList.map (AN false)))::Sf⟩) ?_ ?_
 ·refine AWP.block ?_
  refine B8 (λ(k:Nat)=>⟨[(0,.sl X 0 n),(1,iA a),(4,.fn f cap),(12,iA k),(13,iA j)],(X,.row 83 3 (u.toList.map (AN false)))::Sf⟩) (λk=>i<=k/\k<=max i (j+1)/\scanUp (λx=>(AU cf) x u[a]!) u j k=i2) (λk=>j+1-k) i ⟨AP _,by omega,hi2⟩ ?_;rintro k ⟨hk1,hk2,hk⟩;rw[scanUp]at hk;rcases Ah (decide ((k:Int)<=(j:Int)))with g|g
  ·have hg:k<=j:=by have:=AD g;omega
   have h1:=BI (AN false) (d:=u) (i:=k) (by omega);have h2:=BI (AN false) (d:=u) (i:=a) (by omega);have hl:=hcf (u[k]!) (u[a]!);(repeat refine WF ?_);refine JM ?_;refine Dv (h:=(hl ..)) (k:=?_);refine JG ?_;refine RGo.nil (by kernel_rfl) ?_;(repeat refine WF ?_);refine AC rfl (λhd=>?_) (λhd=>?_)
   ·have hd:((AU cf) u[k]! u[a]!)=true:=by simpa[g,AU]using hd
    rw[AY (by rw[AF];exact⟨BG (by omega),hd⟩)]at hk;refine KK ?_;exact BM (k+1) ⟨by omega,by omega,hk⟩
   ·have hd:((AU cf) u[k]! u[a]!)=false:=by simpa[g,AU]using hd
    rw[AM (λe=>by rw[AF]at e;have e2:=e.2;rw[hd]at e2;cases e2)]at hk;refine KK ?_;exact jn k hk
  ·have hg:¬k<=j:=by have:=AG g;omega
   rw[AM (λe=>by rw[AF]at e;have:=AD e.1;omega)]at hk;(repeat refine WF ?_);refine RU ?_;(iterate 16 refine RK ?_);refine RGo.nil (by kernel_rfl) ?_;(repeat refine WF ?_);refine AB rfl (by simp[g]) ?_;refine KK ?_;exact jn k hk
 rintro k hk0;rw[hk0];clear hk0 k
 (repeat (first|refine DN ?_|refine Ck ?_|refine C7 ?_))
 refine Bz (λk:Nat=>k=j2) (λk=>⟨[(0,.sl X 0 n),(1,iA a),(4,.fn f cap),(12,iA i2),(13,iA k)],(X,.row 83 3 (u.toList.map (AN false)))::Sf⟩) ?_ ?_
 ·refine AWP.block ?_
  refine B8 (λ(k:Nat)=>⟨[(0,.sl X 0 n),(1,iA a),(4,.fn f cap),(12,iA i2),(13,iA k)],(X,.row 83 3 (u.toList.map (AN false)))::Sf⟩) (λk=>k<=j/\scanDown (λx=>!(AU cf) x u[a]!) u i2 k=j2) (λk=>k) j ⟨AP _,hj2⟩ ?_;rintro k ⟨hk1,hk⟩;rcases Ah (decide ((i2:Int)<=(k:Int)))with g|g
  ·have hg:i2<=k:=by have:=AD g;omega
   obtain⟨q,rfl⟩:∃q,k=q+1:=⟨k-1,by omega⟩;rw[scanDown]at hk;have h1:=BI (AN false) (d:=u) (i:=q+1) (by omega);have h2:=BI (AN false) (d:=u) (i:=a) (by omega);have hl:=hcf (u[q+1]!) (u[a]!);(repeat refine WF ?_);refine JM ?_;refine Dv (h:=(hl ..)) (k:=?_);(iterate 3 refine RK ?_);refine RGo.nil (by kernel_rfl) ?_;(repeat refine WF ?_);refine AC rfl (λhd=>?_) (λhd=>?_)
   ·have hd:(!(AU cf) u[q+1]! u[a]!)=true:=by simpa[g,AU]using hd
    rw[AY (by rw[AF];exact⟨BG (by omega),hd⟩)]at hk
    (iterate 4 refine WK ?_);refine AI (BJ ((q:Int)) (by omega) (by omega) rfl rfl) rfl ?_;refine KK ?_
    exact BM q ⟨by omega,hk⟩
   ·have hd:(!(AU cf) u[q+1]! u[a]!)=false:=by simpa[g,AU]using hd
    rw[AM (λe=>by rw[AF]at e;have e2:=e.2;rw[hd]at e2;cases e2)]at hk;refine KK ?_;exact jn (q+1) hk
  ·have hg:¬i2<=k:=by have:=AG g;omega
   have hk3:scanDown (λx=>!(AU cf) x u[a]!) u i2 k=k:=by
    cases k with
    |zero=>rfl
    |succ q=>rw[scanDown,AM (λe=>by rw[AF]at e;have:=AD e.1;omega)]
   rw[hk3]at hk;(repeat refine WF ?_);refine RU ?_;(iterate 17 refine RK ?_);refine RGo.nil (by kernel_rfl) ?_;(repeat refine WF ?_);refine AB rfl (by simp[g]) ?_;refine KK ?_;exact jn k hk
 rintro k hk0;rw[hk0];clear hk0 k;refine KK ?_;refine AC rfl (λhc=>?_) (λhc=>?_)
 ·have h:i2>j2:=by have:=AD hc;omega
  rw[AY h]at hfold;subst hfold;have h1:=BI (AN false) (d:=u) (i:=j2) (by omega);have h2:=BI (AN false) (d:=u) (i:=a) (by omega);have hrow2:=C6 (AN false) (d:=u) (i:=j2) (j:=a) (by omega) (by omega);obtain⟨y,hy⟩:=Cc (AN false) (d:=u) (i:=j2) (j:=a) (by omega) u[a]!;(repeat refine WF ?_);refine RU ?_;(iterate 15 refine RK ?_);refine RGo.s (W.store rfl rfl (by exact As) hy (by exact rfl)) rfl ?_;refine RGo.nil (by kernel_rfl) ?_;refine JA ?_;exact Ends.sp [iA j2,bA false] [(X,_)] ⟨rfl,by rw[<-hrow2]⟩
 ·have h:¬i2>j2:=by have:=AG hc;omega
  rw[AM h]at hfold;have h1:=BI (AN false) (d:=u) (i:=i2) (by omega);have h2:=BI (AN false) (d:=u) (i:=j2) (by omega);obtain⟨y,hy⟩:=Cc (AN false) (d:=u) (i:=i2) (j:=j2) (by omega) u[j2]!;(repeat refine WF ?_);refine RU ?_;(iterate 15 refine RK ?_);refine RGo.s (W.store rfl rfl (by exact As) hy (by exact rfl)) rfl ?_;refine RGo.nil (by kernel_rfl) ?_
  (iterate 9 refine WK ?_);refine AI (BJ (((j2-1:Nat):Int)) (by omega) (by omega) rfl rfl) rfl ?_;refine KK ?_
  refine Dc (i2+1) (j2-1) (swp u i2 j2) ⟨by omega,by omega,by omega,by rw[size_swp];exact hu,hfold⟩ (h0:=by rw[<-C6 (AN false) (by omega) (by omega)];exact⟨by exact EF,by exact BH⟩)
end
section
open Go.Sort
theorem N2(lt:Item->Item->Bool)(d:Array Item)(b i:Nat):i<=scanSorted lt d b i/\scanSorted lt d b i<=max i b:=by
 obtain⟨m,hm⟩:=nm (b-i)
 induction m generalizing i with
 |zero=>rw[scanSorted,AM (λe=>by rw[AF]at e;have:=AD e.1;omega)];omega
 |succ m ih=>
  rw[scanSorted];split
  ·have:=ih (i+1) (by omega)
   omega
  ·omega
theorem ZW(f:FuncId)(cap:List AV)(cf:Item->Item->Int)(hst:DH cap=true)(hcf:∀x y,PS prog f ((AN false) x::(AN false) y::cap) (iA (cf x y)))(X n:Nat)(d:Array Item)(a b:Nat)(hn:n=d.size)(hab:a<b)(hb:b<=d.size)(hz:d.size<=1099511627776):PO prog 178 [.sl X 0 n,iA a,iA b,.fn f cap] X (.row 83 3 (d.toList.map (AN false))) (bA (partialInsertionSort (AU cf) d a b).2) (.row 83 3 ((partialInsertionSort (AU cf) d a b).1.toList.map (AN false))):=by
 obtain⟨r,hr⟩:=nm (partialInsertionSort (AU cf) d a b);rw[hr];unfold partialInsertionSort at hr;refine Sp (nt:=141) (res:=[.tmp 8]) func178 λSf=>?_
 (iterate 7 refine WK ?_);refine AI (Bw (((a+1:Nat):Int)) (by omega) (by omega) rfl rfl) rfl ?_;refine KK ?_
 refine Ev (λ(c i:Nat) (u:Array Item)=>⟨[(0,.sl X 0 n),(1,iA a),(2,iA b),(3,.fn f cap),(9,iA i),(10,iA c)],(X,.row 83 3 (u.toList.map (AN false)))::Sf⟩) (λc i u=>c<=5/\a<i/\i<=b/\u.size=d.size/\partialIns (AU cf) a b (5-c) i u=r) (λc _ _=>5-c) 0 (a+1) d ⟨by omega,by omega,by omega,rfl,hr⟩ ?_;rintro c i u ⟨hc5,hai,hib,hu,hfold⟩;refine KK ?_;refine AC rfl (λhc=>?_) (λhc=>?_)
 ·have h:c<5:=by have:=AD hc;omega
  obtain⟨s,hs⟩:∃s,5-c=s+1:=⟨4-c,by omega⟩;rw[hs,partialIns_succ]at hfold;obtain⟨i2,hi2⟩:=nm (scanSorted (AU cf) u b i);rw[hi2]at hfold;have hrg:=N2 (AU cf) u b i;rw[hi2]at hrg
  (repeat (first|refine DN ?_|refine Ck ?_|refine C7 ?_))
  refine AWP.block ?_
  (repeat (first|refine DN ?_|refine Ck ?_|refine C7 ?_))
  refine Bz (λk:Nat=>k=i2) (λk=>⟨[(0,.sl X 0 n),(1,iA a),(2,iA b),(3,.fn f cap),(9,iA k),(10,iA c)],(X,.row 83 3 (u.toList.map (AN false)))::Sf⟩) ?_ ?_
  ·refine AWP.block ?_
   refine B8 (λ(k:Nat)=>⟨[(0,.sl X 0 n),(1,iA a),(2,iA b),(3,.fn f cap),(9,iA k),(10,iA c)],(X,.row 83 3 (u.toList.map (AN false)))::Sf⟩) (λk=>i<=k/\k<=b/\scanSorted (AU cf) u b k=i2) (λk=>b-k) i ⟨AP _,hib,hi2⟩ ?_;rintro k ⟨hk1,hk2,hk⟩;rw[scanSorted]at hk;rcases Ah (decide ((k:Int)<(b:Int)))with g|g
   ·have hg:k<b:=by have:=AD g;omega
    have h1:=BI (AN false) (d:=u) (i:=k) (by omega);have h2:=BI (AN false) (d:=u) (i:=k-1) (by omega);have hl:=hcf (u[k]!) (u[k-1]!);(repeat refine WF ?_);refine RU ?_;(iterate 11 refine RK ?_);refine BO ?_ (BJ (((k-1:Nat):Int)) (by omega) (by omega) rfl rfl);refine KR ?_;refine Dv (h:=(hl ..)) (k:=?_);(iterate 3 refine RK ?_);refine RGo.nil (by kernel_rfl) ?_;(repeat refine WF ?_);refine AC rfl (λhd=>?_) (λhd=>?_)
    ·have hd:(!(AU cf) u[k]! u[k-1]!)=true:=by simpa[g,AU]using hd
     rw[AY (by rw[AF];exact⟨BG (by omega),hd⟩)]at hk;refine KK ?_;exact BM (k+1) ⟨by omega,by omega,hk⟩
    ·have hd:(!(AU cf) u[k]! u[k-1]!)=false:=by simpa[g,AU]using hd
     rw[AM (λe=>by rw[AF]at e;have e2:=e.2;rw[hd]at e2;cases e2)]at hk;refine KK ?_;exact jn k hk
   ·have hg:¬k<b:=by have:=AG g;omega
    rw[AM (λe=>by rw[AF]at e;have:=AD e.1;omega)]at hk;(repeat refine WF ?_);refine RU ?_;(iterate 18 refine RK ?_);refine RGo.nil (by kernel_rfl) ?_;(repeat refine WF ?_);refine AB rfl (by simp[g]) ?_;refine KK ?_;exact jn k hk
  rintro k hk0;rw[hk0];clear hk0 k;refine KK ?_;refine AC rfl (λhd=>?_) (λhd=>?_)
  ·have hd:i2=b:=by have:=AD hd;omega
   rw[AY hd]at hfold;subst hfold;refine JA ?_;exact Ends.sp [bA true] [(X,_)] ⟨rfl,rfl⟩
  have hd:¬i2=b:=by have:=AG hd;omega
  rw[AM hd]at hfold
  (iterate 6 refine WK ?_);refine AI (BJ (((b-a:Nat):Int)) (by omega) (by omega) rfl rfl) rfl ?_;refine KK ?_
  refine AC rfl (λhe=>?_) (λhe=>?_)
  ·have he:b-a<50:=by have:=AD he;omega
   rw[AY he]at hfold;subst hfold;refine JA ?_;exact Ends.sp [bA false] [(X,_)] ⟨rfl,rfl⟩
  have he:¬b-a<50:=by have:=AG he;omega
  rw[AM he]at hfold;have h1:=BI (AN false) (d:=u) (i:=i2) (by omega);have h2:=BI (AN false) (d:=u) (i:=i2-1) (by omega);have hrow:=C6 (AN false) (d:=u) (i:=i2) (j:=i2-1) (by omega) (by omega);obtain⟨y,hy⟩:=Cc (AN false) (d:=u) (i:=i2) (j:=i2-1) (by omega) u[i2-1]!;have hvs:(swp u i2 (i2-1)).size=d.size:=by rw[size_swp];exact hu
  (repeat refine WF ?_);refine RU ?_;(iterate 4 refine RK ?_);refine BO ?_ (BJ (((i2-1:Nat):Int)) (by omega) (by omega) rfl rfl);refine JG ?_;refine BO ?_ (BJ (((i2-1:Nat):Int)) (by omega) (by omega) rfl rfl);(iterate 9 refine RK ?_);refine RGo.s (W.store rfl rfl (by exact As) hy (by exact rfl)) rfl ?_;refine RGo.nil (by kernel_rfl) ?_;obtain⟨v,hv⟩:=nm (swp u i2 (i2-1));rw[hv]at hrow hvs hfold;refine K4 [(0,.sl X 0 n),(1,iA a),(2,iA b),(3,.fn f cap),(9,iA i2),(10,iA c)] ((X,.row 83 3 (v.toList.map (AN false)))::Sf) ?_ (h:=by rw[<-hrow];exact⟨by exact EF,by exact BH⟩)
  (iterate 5 refine WK ?_);refine AI (BJ (((i2-a:Nat):Int)) (by omega) (by omega) rfl rfl) rfl ?_;refine KK ?_
  refine Bz (λw:Array Item=>w.size=d.size/\w=fixDown (AU cf) a i2 v) (λw=>⟨[(0,.sl X 0 n),(1,iA a),(2,iA b),(3,.fn f cap),(9,iA i2),(10,iA c)],(X,.row 83 3 (w.toList.map (AN false)))::Sf⟩) ?_ ?_
  ·unfold fixDown
   refine AC rfl (λhf=>?_) (λhf=>?_)
   ·have hf:i2-a>=2:=by have:=AD hf;omega
    rw[AY hf]
    (iterate 3 refine WK ?_);refine AI (BJ (((i2-1:Nat):Int)) (by omega) (by omega) rfl rfl) rfl ?_;refine KK ?_
    refine Ca (λ(k:Nat) (w:Array Item)=>⟨[(0,.sl X 0 n),(1,iA a),(2,iA b),(3,.fn f cap),(9,iA i2),(10,iA c),(11,iA k)],(X,.row 83 3 (w.toList.map (AN false)))::Sf⟩) (λk w=>k<b/\w.size=d.size/\shiftDown (AU cf) k w=shiftDown (AU cf) (i2-1) v) (λk _=>k) (i2-1) v ⟨by omega,hvs,rfl⟩ ?_;rintro k w ⟨hkb,hw,hk⟩;refine KK ?_;refine AC rfl (λhg=>?_) (λhg=>?_)
    ·obtain⟨q,rfl⟩:∃q,k=q+1:=⟨k-1,by have:=AD hg;omega⟩
     rw[shiftDown]at hk;have h1:=BI (AN false) (d:=w) (i:=q+1) (by omega);have h2:=BI (AN false) (d:=w) (i:=q) (by omega);have hl:=hcf (w[q+1]!) (w[q]!);(repeat refine WF ?_);refine RU ?_;(iterate 7 refine RK ?_);refine BO ?_ (BJ ((q:Int)) (by omega) (by omega) rfl rfl);refine KR ?_;refine Dv (h:=(hl ..)) (k:=?_);refine JG ?_;refine RGo.nil (by kernel_rfl) ?_;(repeat refine WF ?_);refine AC rfl (λhd=>?_) (λhd=>?_)
     ·have hd:(!(AU cf) w[q+1]! w[q]!)=true:=by simpa[AU]using hd
      rw[AY hd]at hk;refine KK ?_;exact jn w ⟨hw,hk⟩
     ·have hd:(!(AU cf) w[q+1]! w[q]!)=false:=by simpa[AU]using hd
      rw[AM (by rw[hd];simp)]at hk;clear y hy;obtain⟨y,hy⟩:=Cc (AN false) (d:=w) (i:=q+1) (j:=q) (by omega) w[q]!;(repeat refine WF ?_);refine RU ?_;(iterate 4 refine RK ?_);refine BO ?_ (BJ ((q:Int)) (by omega) (by omega) rfl rfl);refine JG ?_;refine BO ?_ (BJ ((q:Int)) (by omega) (by omega) rfl rfl);(iterate 9 refine RK ?_);refine RGo.s (W.store rfl rfl (by exact As) hy (by exact rfl)) rfl ?_;refine RGo.nil (by kernel_rfl) ?_
      (iterate 4 refine WK ?_);refine AI (BJ ((q:Int)) (by omega) (by omega) rfl rfl) rfl ?_;refine KK ?_
      refine Bn q (swp w (q+1) q) ⟨by omega,by rw[size_swp];exact hw,hk⟩ (h0:=by rw[<-C6 (AN false) (by omega) (by omega)];exact⟨by exact EF,by exact BH⟩)
    ·obtain rfl:k=0:=by have:=AG hg;omega
     rw[shiftDown]at hk;refine KK ?_;exact jn w ⟨hw,hk⟩
   ·have hf:¬i2-a>=2:=by have:=AG hf;omega
    rw[AM hf];refine WK ?_;exact jn v ⟨hvs,rfl⟩
  rintro w ⟨hws,hw0⟩;rw[<-hw0]at hfold;clear hw0 hrow y hy h1 h2
  (iterate 4 refine WK ?_);refine AI (BJ (((b-i2:Nat):Int)) (by omega) (by omega) rfl rfl) rfl ?_;refine KK ?_
  refine R9 (λz:Array Item=>z.size=d.size/\z=fixUp (AU cf) b i2 w) (λz=>⟨[(0,.sl X 0 n),(1,iA a),(2,iA b),(3,.fn f cap),(9,iA i2),(10,iA c)],(X,.row 83 3 (z.toList.map (AN false)))::Sf⟩) ?_ ?_
  ·unfold fixUp
   refine AC rfl (λhf=>?_) (λhf=>?_)
   ·have hf:b-i2>=2:=by have:=AD hf;omega
    rw[AY hf]
    (iterate 3 refine WK ?_);refine AI (Bw (((i2+1:Nat):Int)) (by omega) (by omega) rfl rfl) rfl ?_;refine KK ?_
    refine Ca (λ(k:Nat) (z:Array Item)=>⟨[(0,.sl X 0 n),(1,iA a),(2,iA b),(3,.fn f cap),(9,iA i2),(10,iA c),(12,iA k)],(X,.row 83 3 (z.toList.map (AN false)))::Sf⟩) (λk z=>i2<k/\k<=b/\z.size=d.size/\shiftUp (AU cf) b k z=shiftUp (AU cf) b (i2+1) w) (λk _=>b-k) (i2+1) w ⟨by omega,by omega,hws,rfl⟩ ?_;rintro k z ⟨hik,hkb,hz1,hk⟩;rw[shiftUp]at hk;refine KK ?_;refine AC rfl (λhg=>?_) (λhg=>?_)
    ·have hg:k<b:=by have:=AD hg;omega
     rw[AY hg]at hk;have h1:=BI (AN false) (d:=z) (i:=k) (by omega);have h2:=BI (AN false) (d:=z) (i:=k-1) (by omega);have hl:=hcf (z[k]!) (z[k-1]!);(repeat refine WF ?_);refine RU ?_;(iterate 7 refine RK ?_);refine BO ?_ (BJ (((k-1:Nat):Int)) (by omega) (by omega) rfl rfl);refine KR ?_;refine Dv (h:=(hl ..)) (k:=?_);refine JG ?_;refine RGo.nil (by kernel_rfl) ?_;(repeat refine WF ?_);refine AC rfl (λhd=>?_) (λhd=>?_)
     ·have hd:(!(AU cf) z[k]! z[k-1]!)=true:=by simpa[AU]using hd
      rw[AY hd]at hk;refine KK ?_;exact jn z ⟨hz1,hk⟩
     ·have hd:(!(AU cf) z[k]! z[k-1]!)=false:=by simpa[AU]using hd
      rw[AM (by rw[hd];simp)]at hk;obtain⟨y,hy⟩:=Cc (AN false) (d:=z) (i:=k) (j:=k-1) (by omega) z[k-1]!;(repeat refine WF ?_);refine RU ?_;(iterate 4 refine RK ?_);refine BO ?_ (BJ (((k-1:Nat):Int)) (by omega) (by omega) rfl rfl);refine JG ?_;refine BO ?_ (BJ (((k-1:Nat):Int)) (by omega) (by omega) rfl rfl);(iterate 9 refine RK ?_);refine RGo.s (W.store rfl rfl (by exact As) hy (by exact rfl)) rfl ?_;refine RGo.nil (by kernel_rfl) ?_;refine KK ?_;refine Bn (k+1) (swp z k (k-1)) ⟨by omega,by omega,by rw[size_swp];exact hz1,hk⟩ (h0:=by rw[<-C6 (AN false) (by omega) (by omega)];exact⟨by exact EF,by exact BH⟩)
    ·have hg:¬k<b:=by have:=AG hg;omega
     rw[AM hg]at hk;refine KK ?_;exact jn z ⟨hz1,hk⟩
   ·have hf:¬b-i2>=2:=by have:=AG hf;omega
    rw[AM hf];refine WK ?_;exact jn w ⟨hws,rfl⟩
  rintro z ⟨hzs,hz0⟩;rw[<-hz0]at hfold;refine KK ?_;refine Dc (c+1) i2 z ⟨by omega,by omega,by omega,hzs,by rw[show 5-(c+1)=s by omega];exact hfold⟩
 ·have h:c=5:=by have:=AG hc;omega
  subst h;rw[show 5-5=0 from rfl,partialIns]at hfold;subst hfold;refine JA ?_;exact Ends.sp [bA false] [(X,_)] ⟨rfl,rfl⟩
end
section
open Go.Sort
theorem dQ{f:FuncId}{cap:List AV}(X n:Nat)(d:Array Item)(a b:Nat)(hn:n=d.size)(hab:a<=b)(hb:b<=d.size)(hz:d.size<65536):Spec prog 175 [.sl X 0 n,iA a,iA b,.fn f cap] [(X,.row 83 3 (d.toList.map (AN false)))] λr S'=>∃u:Array Item,PermIn a b d u/\r= .tup []/\S'=[(X,.row 83 3 (u.toList.map (AN false)))]:=by
 obtain⟨l,hl⟩:=nm (b-a);refine Sp (nt:=67) (res:=[]) func175 λSf=>?_
 (iterate 4 refine WK ?_);refine AI (BJ ((l:Int)) (by omega) (by omega) rfl rfl) rfl ?_;refine KK ?_
 refine AC rfl (λh8=>?_) (λh8=>?_)
 ·have h8:8<=l:=by have:=AD h8;omega
  have hnp:=O8 l (by omega);have hbl:bitsLen l<=16:=(bitsLen_le_iff l 16).2 (by omega);have hm2:=two_pow_bitsLen_le (n:=l) (by omega);obtain⟨m,hm⟩:∃m,(1:UInt64)<<<UInt64.ofNat (bitsLen l)=m:=⟨_,rfl⟩
  have hmn:m.toNat=2^bitsLen l:=by
   have:2^bitsLen l<=2^16:=R3 (by decide) hbl;rw[<-hm,JR,CO,show bitsLen l%2^64%64=bitsLen l by omega,OG,show(1:UInt64).toNat=1 from rfl];omega
  rw[hm]at hnp;have hp1:1<=2^bitsLen l:=Nat.one_le_two_pow;(repeat first|(refine Bk ?_;first|(refine Bc ?_;first|refine BU (h:=(hnp ..)) (k:=?_))|refine AI (Ig .i64 l rfl (by omega) (by kernel_rfl) (by kernel_rfl) rfl) rfl ?_|refine AI (JQ l 4 (l/4) rfl rfl (by omega) rfl (by omega) rfl rfl) rfl ?_|refine AI (Hw ((l/4*2:Nat):Int) (by omega) (by omega) rfl rfl) rfl ?_|refine AI (Bw (((a+l/4*2:Nat):Int)) (by omega) (by omega) rfl rfl) rfl ?_|refine AI (BJ (((a+l/4*2-1:Nat):Int)) (by omega) (by omega) rfl rfl) rfl ?_)|refine WK ?_|refine Ai λV=>?_|refine Ay λY=>?_);refine Ev (λ(k:Nat) (s:UInt64) (u:Array Item)=>⟨[(0,.sl X 0 n),(1,iA a),(3,.fn f cap),(8,iA l),(9,.ptr V 0 0),(10,uA m),(11,iA k)],(V,.row 331 1 [uA s])::(X,.row 83 3 (u.toList.map (AN false)))::Sf⟩) (λk s u=>a<=k/\k<=a+l/4*2+2/\PermIn a b d u) (λk _ _=>a+l/4*2+2-k) (a+l/4*2-1) (UInt64.ofNat l) d ⟨by omega,by omega,permIn_refl _ _ _⟩ ?_;rintro k s u ⟨hak,hkl,hP⟩;have hu:u.size=d.size:=hP.1;(repeat first|(refine Bk ?_;first|refine AI (JQ l 4 (l/4) rfl rfl (by omega) rfl (by omega) rfl rfl) rfl ?_|refine AI (Hw ((l/4*2:Nat):Int) (by omega) (by omega) rfl rfl) rfl ?_|refine AI (Bw (((a+l/4*2:Nat):Int)) (by omega) (by omega) rfl rfl) rfl ?_|refine AI (Bw (((a+l/4*2+1:Nat):Int)) (by omega) (by omega) rfl rfl) rfl ?_)|refine WK ?_|refine Ai λX=>?_|refine Ay λY=>?_);refine AC rfl (λhc=>?_) (λhc=>?_)
  ·have hk1:k<=a+l/4*2+1:=by have:=AD hc;omega
   have hkb:k<b:=by omega
   refine DN ?_;refine Ck ?_;refine C7 ?_;refine AWP.block ?_;refine C7 ?_;refine RG ?_;refine Ur (OZ V s) λv _=>?_;refine WO ?_
   have hvb:(v&&&(m-1)).toNat<2*l:=by
    rw[Yz,UInt64.toNat_sub_of_le _ _ (by rw[Gf,hmn];exact hp1),hmn];have:=Nat.and_le_right (n:=v.toNat) (m:=2^bitsLen l-(1:UInt64).toNat);have e:(1:UInt64).toNat=1:=rfl;omega
   refine AI (JO (b:=1) rfl rfl) rfl ?_;refine AI (MI rfl rfl) rfl ?_;refine AI (S3 .u64 (by omega) (by kernel_rfl) (by kernel_rfl) rfl) rfl ?_;refine WO ?_;refine AOps.nil ?_
   (repeat (first|refine DN ?_|refine Ck ?_|refine C7 ?_))
   obtain⟨o,ho⟩:=nm ((v&&&(m-1)).toNat);refine K4 [(0,.sl X 0 n),(1,iA a),(3,.fn f cap),(8,iA l),(9,.ptr V 0 0),(10,uA m),(11,iA k),(12,iA o)] ((V,.row 331 1 [uA v])::(X,.row 83 3 (u.toList.map (AN false)))::Sf) ?_ (h:=by rw[<-ho];exact⟨by exact EF,by exact BH⟩);rw[ho]at hvb;refine KK ?_;refine Bz (λo:Nat=>o<l) (λo=>⟨[(0,.sl X 0 n),(1,iA a),(3,.fn f cap),(8,iA l),(9,.ptr V 0 0),(10,uA m),(11,iA k),(12,iA o)],(V,.row 331 1 [uA v])::(X,.row 83 3 (u.toList.map (AN false)))::Sf⟩) ?_ ?_
   ·refine AC rfl (λhd=>?_) (λhd=>?_)
    ·have hd:l<=o:=by have:=AD hd;omega
     (iterate 3 refine WK ?_);refine AI (BJ (((o-l:Nat):Int)) (by omega) (by omega) rfl rfl) rfl ?_;refine KK ?_
     exact jn (o-l) (by omega)
    ·have hd:¬l<=o:=by have:=AG hd;omega
     refine WK ?_;exact jn o (by omega)
   rintro o hol;have h1:=BI (AN false) (d:=u) (i:=k) (by omega);have h2:=BI (AN false) (d:=u) (i:=a+o) (by omega);obtain⟨y,hy⟩:=Cc (AN false) (d:=u) (i:=k) (j:=a+o) (by omega) u[a+o]!;(repeat refine WF ?_);refine RU ?_;(iterate 5 refine RK ?_);refine BO ?_ (Bw (((a+o:Nat):Int)) (by omega) (by omega) rfl rfl);(iterate 3 refine RK ?_);refine BO ?_ (Bw (((a+o:Nat):Int)) (by omega) (by omega) rfl rfl);(iterate 9 refine RK ?_);refine RGo.s (W.store rfl rfl (by exact As) hy (by exact rfl)) rfl ?_;refine RGo.nil (by kernel_rfl) ?_;refine KK ?_;refine Dc (k+1) v (swp u k (a+o)) ⟨by omega,by omega,permIn_trans _ _ _ _ _ hP (swp_permIn _ _ _ _ _ (by omega) (by omega) (by omega) (by omega) (by omega))⟩ (h0:=by rw[<-C6 (AN false) (by omega) (by omega)];exact⟨by exact EF,by exact BH⟩)
  ·refine KK ?_
   refine Eb ?_;exact B4 [(X,.row 83 3 (u.toList.map (AN false)))] ⟨u,hP,rfl,rfl⟩
 ·refine WK ?_
  refine Eb ?_;exact B4 [(X,.row 83 3 (d.toList.map (AN false)))] ⟨d,permIn_refl _ _ _,rfl,rfl⟩
end
section
open Go.Sort
theorem Lx(f:FuncId)(cap:List AV)(cf:Item->Item->Int)(hst:DH cap=true)(hcf:∀x y,PS prog f ((AN false) x::(AN false) y::cap) (iA (cf x y)))(X Y n:Nat)(d:Array Item)(a b s:Nat)(hn:n=d.size)(ha:a<d.size)(hb:b<d.size)(hs:s<=1099511627776):Spec prog 257 [.sl X 0 n,iA a,iA b,.ptr Y 0 0,.fn f cap] [(X,.row 83 3 (d.toList.map (AN false))),(Y,.row 3 1 [iA s])] λr S'=>r= .tup [iA (order2 (AU cf) d a b s).1,iA (order2 (AU cf) d a b s).2.1]/\S'=[(X,.row 83 3 (d.toList.map (AN false))),(Y,.row 3 1 [iA (order2 (AU cf) d a b s).2.2])]:=by
 subst hn;have h1:=BI (AN false) ha;have h2:=BI (AN false) hb;have hl:=hcf (d[b]!) (d[a]!);refine Sp (nt:=32) (res:=[.tmp 10,.tmp 11]) func257 λSf=>?_
 unfold order2;refine R1 ?_;refine JM ?_;refine Dv (h:=(hl ..)) (k:=?_);refine RK ?_;refine RGo.nil (by kernel_rfl) ?_;(repeat refine WF ?_);refine AC rfl (λhc=>?_) (λhc=>?_)
 ·have hc:(AU cf) d[b]! d[a]! =true:=by simpa[AU]using hc
  rw[AY hc];refine JA ?_;exact Ends.sp [iA b,iA a] [(X,_),(Y,_)] ⟨rfl,rfl⟩
 ·have hc:(AU cf) d[b]! d[a]! =false:=by simpa[AU]using hc
  rw[AM (by simp[hc])];refine JA ?_;exact Ends.sp [iA a,iA b] [(X,_),(Y,_)] ⟨rfl,rfl⟩
theorem PA(f:FuncId)(cap:List AV)(cf:Item->Item->Int)(hst:DH cap=true)(hcf:∀x y,PS prog f ((AN false) x::(AN false) y::cap) (iA (cf x y)))(X Y n:Nat)(d:Array Item)(a b c s:Nat)(hn:n=d.size)(ha:a<d.size)(hb:b<d.size)(hc:c<d.size)(hs:s<=1099511627000):Spec prog 236 [.sl X 0 n,iA a,iA b,iA c,.ptr Y 0 0,.fn f cap] [(X,.row 83 3 (d.toList.map (AN false))),(Y,.row 3 1 [iA s])] λr S'=>r=iA (median (AU cf) d a b c s).1/\S'=[(X,.row 83 3 (d.toList.map (AN false))),(Y,.row 3 1 [iA (median (AU cf) d a b c s).2])]:=by
 obtain⟨m,hm⟩:=nm (median (AU cf) d a b c s);rw[hm];unfold median at hm;have l1:=IN (AU cf) d a b s _ ha hb;have e1:=HH (AU cf) d a b s;have h1:=Lx f cap cf hst hcf X Y n d a b s hn ha hb (by omega);obtain⟨⟨a1,b1,s1⟩,hr1⟩:=nm (order2 (AU cf) d a b s);rw[hr1]at h1 hm l1 e1;dsimp only at h1 hm l1 e1;have l2:=IN (AU cf) d b1 c s1 _ l1.2 hc;have e2:=HH (AU cf) d b1 c s1;have h2:=Lx f cap cf hst hcf X Y n d b1 c s1 hn l1.2 hc (by omega);obtain⟨⟨b2,c2,s2⟩,hr2⟩:=nm (order2 (AU cf) d b1 c s1);rw[hr2]at h2 hm l2 e2;dsimp only at h2 hm l2 e2;have l3:=IN (AU cf) d a1 b2 s2 _ l1.1 l2.1;have h3:=Lx f cap cf hst hcf X Y n d a1 b2 s2 hn l1.1 l2.1 (by omega);obtain⟨⟨a3,b3,s3⟩,hr3⟩:=nm (order2 (AU cf) d a1 b2 s2);rw[hr3]at h3 hm l3;dsimp only at h3 hm l3;subst hm;refine Sp (nt:=41) (res:=[.tmp 12]) func236 λSf=>?_
 refine KK ?_;refine LQ h1 .fz ?_;refine KK ?_;refine LQ h2 .fz ?_;refine KK ?_;refine LQ h3 .fz ?_;refine JA ?_;exact Ends.sp [iA b3] [(X,_),(Y,_)] ⟨rfl,rfl⟩
theorem L0(f:FuncId)(cap:List AV)(cf:Item->Item->Int)(hst:DH cap=true)(hcf:∀x y,PS prog f ((AN false) x::(AN false) y::cap) (iA (cf x y)))(X Y n:Nat)(d:Array Item)(a s:Nat)(hn:n=d.size)(ha:a+1<d.size)(h0:0<a)(hz:d.size<=1099511627776)(hs:s<=1099511627000):Spec prog 235 [.sl X 0 n,iA a,.ptr Y 0 0,.fn f cap] [(X,.row 83 3 (d.toList.map (AN false))),(Y,.row 3 1 [iA s])] λr S'=>r=iA (medianAdjacent (AU cf) d a s).1/\S'=[(X,.row 83 3 (d.toList.map (AN false))),(Y,.row 3 1 [iA (medianAdjacent (AU cf) d a s).2])]:=by
 have h1:=PA f cap cf hst hcf X Y n d (a-1) a (a+1) s hn (by omega) (by omega) ha hs;unfold medianAdjacent;refine Sp (nt:=18) (res:=[.tmp 8]) func235 λSf=>?_
 (iterate 8 refine WK ?_);refine AI (BJ ((a-1:Nat):Int) (by omega) (by omega) rfl rfl) rfl ?_;refine WK ?_;refine WK ?_;refine AI (Bw ((a+1:Nat):Int) (by omega) (by omega) rfl rfl) rfl ?_;refine KK ?_;refine OY h1 .fz ?_;refine KK ?_
 refine RT ?_;exact Ends.sp [iA _] [(X,_),(Y,_)] ⟨rfl,rfl⟩
theorem OE(f:FuncId)(cap:List AV)(cf:Item->Item->Int)(hst:DH cap=true)(hcf:∀x y,PS prog f ((AN false) x::(AN false) y::cap) (iA (cf x y)))(X n:Nat)(d:Array Item)(a b:Nat)(hn:n=d.size)(hab:a<b)(hb:b<=d.size)(hz:d.size<=1099511627776):PO prog 176 [.sl X 0 n,iA a,iA b,.fn f cap] X (.row 83 3 (d.toList.map (AN false))) (.tup [iA (choosePivot (AU cf) d a b).1,iA (Wx (choosePivot (AU cf) d a b).2)]) (.row 83 3 (d.toList.map (AN false))):=by
 obtain⟨c,hc⟩:=nm (choosePivot (AU cf) d a b);rw[hc];unfold choosePivot at hc;obtain⟨l,hl⟩:=nm (b-a);obtain⟨i,hi⟩:=nm (a+l/4*1);obtain⟨j,hj⟩:=nm (a+l/4*2);obtain⟨k,hk⟩:=nm (a+l/4*3);rw[hl]at hc;dsimp only at hc;rw[hi,hj,hk]at hc;refine Sp (nt:=63) (res:=[.tmp 8,.tmp 9]) func176 λSf=>?_
 have hlb:l<=1099511627776:=by omega
 (repeat first|(refine Bk ?_;first|refine AI (BJ (l:Int) (by omega) (by omega) rfl rfl) rfl ?_|refine AI (JQ l 4 (l/4) rfl rfl (by omega) rfl (by omega) rfl rfl) rfl ?_|refine AI (Hw ((l/4*1:Nat):Int) (by omega) (by omega) rfl rfl) rfl ?_|refine AI (Hw ((l/4*2:Nat):Int) (by omega) (by omega) rfl rfl) rfl ?_|refine AI (Hw ((l/4*3:Nat):Int) (by omega) (by omega) rfl rfl) rfl ?_|refine AI (Bw (i:Int) (by omega) (by omega) rfl rfl) rfl ?_|refine AI (Bw (j:Int) (by omega) (by omega) rfl rfl) rfl ?_|refine AI (Bw (k:Int) (by omega) (by omega) rfl rfl) rfl ?_)|refine WK ?_|refine Ai λV=>?_|refine Ay λY=>?_);refine Bz (λb:Nat×Nat=>c=(b.1,if b.2=0 then Hint.increasing else if b.2=12 then Hint.decreasing else Hint.unknown)) (λb=>⟨[(0,.sl X 0 n),(3,.fn f cap),(11,.ptr V 0 0),(13,iA b.1)],(V,.row 3 1 [iA b.2])::(X,.row 83 3 (d.toList.map (AN false)))::Sf⟩) ?_ ?_
 ·refine AC rfl (λh8=>?_) (λh8=>?_)
  ·have h8:l>=8:=by have:=AD h8;omega
   rw[AY h8]at hc;refine KK ?_;refine Bz (λb:Nat×Nat×Nat×Nat=>b.1<d.size/\b.2.1<d.size/\b.2.2.1<d.size/\b.2.2.2<=100/\(if l>=50 then median (AU cf) d (medianAdjacent (AU cf) d i 0).1 (medianAdjacent (AU cf) d j (medianAdjacent (AU cf) d i 0).2).1 (medianAdjacent (AU cf) d k (medianAdjacent (AU cf) d j (medianAdjacent (AU cf) d i 0).2).2).1 (medianAdjacent (AU cf) d k (medianAdjacent (AU cf) d j (medianAdjacent (AU cf) d i 0).2).2).2 else median (AU cf) d i j k 0)=median (AU cf) d b.1 b.2.1 b.2.2.1 b.2.2.2) (λb=>⟨[(0,.sl X 0 n),(3,.fn f cap),(11,.ptr V 0 0),(12,iA b.1),(13,iA b.2.1),(14,iA b.2.2.1)],(V,.row 3 1 [iA b.2.2.2])::(X,.row 83 3 (d.toList.map (AN false)))::Sf⟩) ?_ ?_
   ·refine AC rfl (λh50=>?_) (λh50=>?_)
    ·have h50:l>=50:=by have:=AD h50;omega
     have a1:=IQ (AU cf) d i 0 _ (show i+1<d.size by omega);have b1:=IP (AU cf) d (i-1) i (i+1) 0;have s1:=L0 f cap cf hst hcf X V n d i 0 hn (by omega) (by omega) hz (by omega);rw[AY h50];have e1:(median (AU cf) d (i-1) i (i+1) 0).2=(medianAdjacent (AU cf) d i 0).2:=rfl;rw[e1]at b1;obtain⟨⟨p1,q1⟩,r1⟩:=nm (medianAdjacent (AU cf) d i 0);rw[r1]at a1 b1 s1⊢;dsimp only at a1 b1 s1⊢;have a2:=IQ (AU cf) d j q1 _ (show j+1<d.size by omega);have b2:=IP (AU cf) d (j-1) j (j+1) q1;have s2:=L0 f cap cf hst hcf X V n d j q1 hn (by omega) (by omega) hz (by omega);have e2:(median (AU cf) d (j-1) j (j+1) q1).2=(medianAdjacent (AU cf) d j q1).2:=rfl;rw[e2]at b2;obtain⟨⟨p2,q2⟩,r2⟩:=nm (medianAdjacent (AU cf) d j q1);rw[r2]at a2 b2 s2⊢;dsimp only at a2 b2 s2⊢;have a3:=IQ (AU cf) d k q2 _ (show k+1<d.size by omega);have b3:=IP (AU cf) d (k-1) k (k+1) q2;have s3:=L0 f cap cf hst hcf X V n d k q2 hn (by omega) (by omega) hz (by omega);have e3:(median (AU cf) d (k-1) k (k+1) q2).2=(medianAdjacent (AU cf) d k q2).2:=rfl;rw[e3]at b3;obtain⟨⟨p3,q3⟩,r3⟩:=nm (medianAdjacent (AU cf) d k q2);rw[r3]at a3 b3 s3⊢;dsimp only at a3 b3 s3⊢;refine KK ?_;refine KM s1 .fz ?_;refine KK ?_;refine KM s2 .fz ?_;refine KK ?_;refine KM s3 .fz ?_;refine KK ?_;refine jn (p1,p2,p3,q3) ⟨a1,a2,a3,by dsimp only;omega,rfl⟩
    ·have h50:¬l>=50:=by have:=AG h50;omega
     rw[AM h50];refine WK ?_;refine jn (i,j,k,0) ⟨by dsimp only;omega,by dsimp only;omega,by dsimp only;omega,by dsimp only;omega,rfl⟩
   ·rintro⟨p1,p2,p3,q⟩ ⟨l1,l2,l3,lq,e⟩
    dsimp only at l1 l2 l3 lq e⊢;rw[e]at hc;have h1:=PA f cap cf hst hcf X V n d p1 p2 p3 q hn l1 l2 l3 (by omega);obtain⟨⟨r1,r2⟩,hr⟩:=nm (median (AU cf) d p1 p2 p3 q);rw[hr]at hc h1;dsimp only at h1;refine KK ?_;refine OY h1 .fz ?_;refine KK ?_;refine jn (r1,r2) hc.symm
  ·have h8:¬l>=8:=by have:=AG h8;omega
   rw[AM h8]at hc;refine WK ?_;refine jn (j,0) hc.symm
 ·rintro⟨p,s⟩ hc
  dsimp only at hc⊢;subst hc;refine KK ?_;refine AC rfl (λh0=>?_) (λh0=>?_)
  ·have h0:s=0:=by have:=AD h0;omega
   rw[AY h0];refine JA ?_;exact Ends.sp [iA p,iA 1] [(X,_)] ⟨rfl,rfl⟩
  ·have h0:¬s=0:=by have:=AG h0;omega
   rw[AM h0];refine KK ?_;refine AC rfl (λh1=>?_) (λh1=>?_)
   ·have h1:s=12:=by have:=AD h1;omega
    rw[AY h1];refine JA ?_;exact Ends.sp [iA p,iA 2] [(X,_)] ⟨rfl,rfl⟩
   ·have h1:¬s=12:=by have:=AG h1;omega
    rw[AM h1];refine JA ?_;exact Ends.sp [iA p,iA 0] [(X,_)] ⟨rfl,rfl⟩
end
section
open Go.Sort
theorem cW(f:FuncId)(cap:List AV)(cf:Item->Item->Int)(hst:DH cap=true)(hcf:∀x y,PS prog f ((AN false) x::(AN false) y::cap) (iA (cf x y)))(hS:SWO (AU cf)):∀(m X n:Nat) (d:Array Item) (a b limit:Nat),b-a<=m->n=d.size->a<=b->b<=d.size->d.size<65536->limit<=1000->Below (AU cf) a b d->Spec prog 129 [.sl X 0 n,iA a,iA b,iA limit,.fn f cap] [(X,.row 83 3 (d.toList.map (AN false)))] λr S'=>∃u:Array Item,(PermIn a b d u/\SortedIn (AU cf) a b u)/\r= .tup []/\S'=[(X,.row 83 3 (u.toList.map (AN false)))]:=by
 intro m
 induction m using Nat.strongRecOn with
 |_ m ih=>
 intro X n d a b limit hm hn hab hb hz hlim hB;refine Sp (nt:=148) (res:=[]) func129 λSf=>?_
 refine KK ?_;refine XF (λ(a b limit:Nat) (wb wp:Bool) (u:Array Item)=>⟨[(0,.sl X 0 n),(1,iA a),(2,iA b),(3,iA limit),(4,.fn f cap),(10,bA wb),(11,bA wp)],(X,.row 83 3 (u.toList.map (AN false)))::Sf⟩) (λa' b' limit wb wp u=>a' <=b' /\b' <=d.size/\b'-a' <=b-a/\limit<=1000/\u.size=d.size/\Below (AU cf) a' b' u/\∀R,PermIn a' b' u R->SortedIn (AU cf) a' b' R->PermIn a b d R/\SortedIn (AU cf) a b R) (λa b _ _ _ _=>b-a) a b limit true true d ⟨hab,hb,AP _,hlim,rfl,hB,λR h1 h2=>⟨h1,h2⟩⟩ ?_;rintro a' b' limit wb wp u ⟨hab',hb',hmm,hlim,hu,hB',hG⟩;obtain⟨l,hl⟩:=nm (b'-a');refine AWP.block ?_
 (iterate 4 refine WK ?_);refine AI (BJ ((l:Int)) (by omega) (by omega) rfl rfl) rfl ?_;refine KK ?_
 refine AC rfl (λhc=>?_) (λhc=>?_)
 ·have hs:=cw f cap cf hst hcf X n u a' b' (by omega) hab' (by omega) (by omega)
  obtain⟨p1,p2⟩:=insertionSort_holds (lt:=(AU cf)) hS u a' b' hab' (by omega);refine KK ?_;refine AOps.o4 (h:=(hs ..)) (k:=?_);refine JA ?_;exact B4 [(X,_)] ⟨_,hG _ p1 p2,rfl,rfl⟩
 have hl12:12<l:=by have:=AG hc;omega
 refine KK ?_;refine AC rfl (λhc=>?_) (λhc=>?_)
 ·have hs:=aM f cap cf hst hcf X n u a' b' (by omega) (by omega) (by omega) (by omega)
  obtain⟨p1,p2⟩:=heapSort_holds (lt:=(AU cf)) hS u a' b' hab' (by omega);refine KK ?_;refine AOps.o4 (h:=(hs ..)) (k:=?_);refine JA ?_;exact B4 [(X,_)] ⟨_,hG _ p1 p2,rfl,rfl⟩
 have hl0:0<limit:=by have:=AG hc;omega
 refine KK ?_;refine Bz (λb:Nat×Array Item=>b.1<=1000/\PermIn a' b' u b.2) (λb=>⟨[(0,.sl X 0 n),(1,iA a'),(2,iA b'),(3,iA b.1),(4,.fn f cap),(10,bA wb),(11,bA wp),(12,iA l)],(X,.row 83 3 (b.2.toList.map (AN false)))::Sf⟩) ?_ ?_
 ·refine AC rfl (λhd=>?_) (λhd=>?_)
  ·have hs:=dQ (f:=f) (cap:=cap) X n u a' b' (by omega) hab' (by omega) (by omega)
   refine KK ?_;refine Uq hs λv hv=>?_;(iterate 4 refine WK ?_);refine AI (BJ (((limit-1:Nat):Int)) (by omega) (by omega) rfl rfl) rfl ?_;refine KK ?_;exact jn (limit-1,v) ⟨by dsimp only;omega,hv⟩
  ·refine WK ?_
   exact jn (limit,u) ⟨hlim,permIn_refl _ _ _⟩
 rintro⟨lim1,u1⟩ ⟨hlim1,hP1⟩;dsimp only at hlim1 hP1⊢;have hu1:u1.size=d.size:=hP1.1.trans hu;have hpv:=OE f cap cf hst hcf X n u1 a' b' (by omega) (by omega) (by omega) (by omega);obtain⟨c1,c2⟩:=choosePivot_holds (AU cf) u1 a' b' (by omega);obtain⟨⟨p,h⟩,hp⟩:=nm (choosePivot (AU cf) u1 a' b');rw[hp]at hpv c1 c2;dsimp only at hpv c1 c2;obtain⟨hnum,hhn⟩:=nm (Wx h);rw[hhn]at hpv;refine KK ?_;refine AOps.o4 (h:=(hpv ..)) (k:=?_);refine KK ?_;refine Bz (λb:Nat×Int×Array Item=>a' <=b.1/\b.1<b' /\PermIn a' b' u b.2.2) (λb=>⟨[(0,.sl X 0 n),(1,iA a'),(2,iA b'),(3,iA lim1),(4,.fn f cap),(10,bA wb),(11,bA wp),(12,iA l),(13,iA b.1),(14,iA b.2.1)],(X,.row 83 3 (b.2.2.toList.map (AN false)))::Sf⟩) ?_ ?_
 ·refine AC rfl (λhd=>?_) (λhd=>?_)
  ·have hs:=cN (f:=f) (cap:=cap) X n u1 a' b' (by omega) (by omega) (by omega) (by omega)
   have hrp:=reverseRange_holds u1 a' b' hab' (by omega);(repeat first|(refine Bk ?_;first|(refine Bc ?_;first|refine AOps.o4 (h:=(hs ..)) (k:=?_))|refine AI (BJ (((b'-1:Nat):Int)) (by omega) (by omega) rfl rfl) rfl ?_|refine AI (BJ (((p-a':Nat):Int)) (by omega) (by omega) rfl rfl) rfl ?_|refine AI (BJ (((b'-1-(p-a'):Nat):Int)) (by omega) (by omega) rfl rfl) rfl ?_)|refine WK ?_|refine Ai λX=>?_|refine Ay λY=>?_);exact jn (b'-1-(p-a'),1,_) ⟨by dsimp only;omega,by dsimp only;omega,permIn_trans _ _ _ _ _ hP1 hrp⟩
  ·refine WK ?_
   exact jn (p,hnum,u1) ⟨c1,c2,hP1⟩
 rintro⟨pv,hn2,u2⟩ ⟨c3,c4,hP2⟩;dsimp only at c3 c4 hP2⊢;have hu2:u2.size=d.size:=hP2.1.trans hu;have hB2:=hB'.perm (by omega) hP2;clear hpv hp hhn c1 c2 p h hnum;refine C7 ?_;refine J0 (λv:Array Item=>PermIn a' b' u v) (λv=>⟨[(0,.sl X 0 n),(1,iA a'),(2,iA b'),(3,iA lim1),(4,.fn f cap),(10,bA wb),(11,bA wp),(12,iA l),(13,iA pv)],(X,.row 83 3 (v.toList.map (AN false)))::Sf⟩) ?_ ?_
 ·refine KK ?_
  refine AC rfl (λ_=>?_) (λ_=>?_)
  ·have hs:=ZW f cap cf hst hcf X n u2 a' b' (by omega) (by omega) (by omega) (by omega)
   have hpi:=partialInsertionSort_holds (lt:=(AU cf)) hS u2 a' b' (by omega) (by omega) hB2;obtain⟨⟨v,fl⟩,hv⟩:=nm (partialInsertionSort (AU cf) u2 a' b');rw[hv]at hs hpi;dsimp only at hs hpi;refine KK ?_;refine AOps.o4 (h:=(hs ..)) (k:=?_);refine KK ?_;refine AC rfl (λhe=>?_) (λhe=>?_)
   ·refine RT ?_
    exact B4 [(X,_)] ⟨v,hG v (permIn_trans _ _ _ _ _ hP2 hpi.1) (hpi.2 he),rfl,rfl⟩
   ·refine KK ?_
    exact jnR v (permIn_trans _ _ _ _ _ hP2 hpi.1)
  ·refine KK ?_
   exact jnR u2 hP2
 rintro u3 hP3;have hu3:u3.size=d.size:=hP3.1.trans hu;have hB3:=hB'.perm (by omega) hP3;have hg3:∀R,PermIn a' b' u3 R->SortedIn (AU cf) a' b' R->PermIn a b d R/\SortedIn (AU cf) a b R:=λR h1 h2=>hG R (permIn_trans _ _ _ _ _ hP3 h1) h2
 clear hB2 hP2 hu2 u2 hP1 hu1 u1 hG hB' hn2;refine C7 ?_;refine J0 (λ_:Unit=>True) (λ_=>⟨[(0,.sl X 0 n),(1,iA a'),(2,iA b'),(3,iA lim1),(4,.fn f cap),(10,bA wb),(11,bA wp),(12,iA l),(13,iA pv)],(X,.row 83 3 (u3.toList.map (AN false)))::Sf⟩) ?_ ?_
 ·rcases Ah (decide ((0:Int)<(a':Int)))with g|g
  ·have hg:0<a':=by have:=AD g;omega
   have h1:=BI (AN false) (d:=u3) (i:=a'-1) (by omega);have h2:=BI (AN false) (d:=u3) (i:=pv) (by omega);have hl2:=hcf (u3[a'-1]!) (u3[pv]!);(repeat refine WF ?_);refine RU ?_;(iterate 6 refine RK ?_);refine BO ?_ (BJ (((a'-1:Nat):Int)) (by omega) (by omega) rfl rfl);refine KR ?_;refine Dv (h:=(hl2 ..)) (k:=?_);(iterate 3 refine RK ?_);refine RGo.nil (by kernel_rfl) ?_;(repeat refine WF ?_);refine AC rfl (λhd=>?_) (λhd=>?_)
   ·have hd:(!(AU cf) u3[a'-1]! u3[pv]!)=true:=by simpa[g,AU]using hd
    have hd:(AU cf) u3[a'-1]! u3[pv]! =false:=by simpa[AU]using hd
    have hs:=cU f cap cf hst hcf X n u3 a' b' pv (by omega) c3 c4 (by omega) (by omega);obtain⟨⟨mid,d4⟩,hx⟩:=nm (partitionEqual (AU cf) u3 a' b' pv);rw[hx]at hs;dsimp only at hs;obtain⟨q1,q2,q3,q4,q5⟩:=round_eq (lt:=(AU cf)) hS (partitionEqual_holds (AU cf)) hg c3 c4 (by omega) hB3 hd hx;refine KK ?_;refine IJ (h:=(hs ..)) (k:=?_);refine KK ?_;refine Jl mid b' lim1 wb wp d4 ⟨q2,hb',by omega,hlim1,q3.trans hu3,q4,λR k1 k2=>?_⟩;obtain⟨k3,k4⟩:=q5 R k1 k2;exact hg3 R k3 k4
   ·refine KK ?_
    exact jnR () CZ
  ·(repeat refine WF ?_)
   refine RU ?_;(iterate 17 refine RK ?_);refine RGo.nil (by kernel_rfl) ?_;(repeat refine WF ?_);refine AB rfl (by simp[g]) ?_;refine KK ?_;exact jnR () CZ
 rintro _ _;have hs:=Zh f cap cf hst hcf X n u3 a' b' pv (by omega) c3 c4 (by omega) (by omega);obtain⟨⟨mid,ap,d4⟩,hx⟩:=nm (partition (AU cf) u3 a' b' pv);rw[hx]at hs;dsimp only at hs;obtain⟨r1,r2,r3,r4,r5,r6,r7⟩:=round_part (lt:=(AU cf)) hS (partition_holds (AU cf)) c3 c4 (by omega) hB3 hx;(repeat first|(refine Bk ?_;first|(refine Bc ?_;first|refine IJ (h:=(hs ..)) (k:=?_))|refine AI (BJ (((mid-a':Nat):Int)) (by omega) (by omega) rfl rfl) rfl ?_|refine AI (BJ (((b'-mid:Nat):Int)) (by omega) (by omega) rfl rfl) rfl ?_|refine AI (JQ l 8 (l/8) rfl rfl (by omega) rfl (by omega) rfl rfl) rfl ?_)|refine WK ?_|refine Ai λX=>?_|refine Ay λY=>?_);refine AC rfl (λhd=>?_) (λhd=>?_)
 ·have hrec:=ih (mid-a') (by omega) X n d4 a' mid lim1 (AP _) (by omega) r1 (by omega) (by omega) hlim1 r4
  refine KK ?_;refine NA hrec λv hv=>?_;(iterate 4 refine WK ?_);refine AI (Bw (((mid+1:Nat):Int)) (by omega) (by omega) rfl rfl) rfl ?_;refine KK ?_;obtain⟨v1,v2⟩:=hv;obtain⟨s1,s2⟩:=r6 v v1 v2;refine Jl (mid+1) b' lim1 _ ap v ⟨by omega,hb',by omega,hlim1,v1.1.trans (r3.trans hu3),s1,λR k1 k2=>?_⟩;obtain⟨k3,k4⟩:=s2 R k1 k2;exact hg3 R k3 k4
 ·have hrec:=ih (b'-(mid+1)) (by omega) X n d4 (mid+1) b' lim1 (AP _) (by omega) (by omega) (by omega) (by omega) hlim1 r5
  (iterate 11 refine WK ?_);refine AI (Bw (((mid+1:Nat):Int)) (by omega) (by omega) rfl rfl) rfl ?_;refine KK ?_;refine NA hrec λv hv=>?_;refine KK ?_
  obtain⟨v1,v2⟩:=hv;obtain⟨s1,s2⟩:=r7 v v1 v2;refine Jl a' mid lim1 _ ap v ⟨by omega,by omega,by omega,hlim1,v1.1.trans (r3.trans hu3),s1,λR k1 k2=>?_⟩;obtain⟨k3,k4⟩:=s2 R k1 k2;exact hg3 R k3 k4
end
section
open Go.Sort
theorem SK(f:FuncId)(cap:List AV)(cf:Item->Item->Int)(hst:DH cap=true)(hS:SWO (AU cf))(hf:∀x y,PS prog f (AN false x::AN false y::cap) (iA (cf x y)))(X n:Nat)(l:List Item)(hn:n=l.length)(hlt:l.length<65536):
  Spec prog 59 [.sl X 0 n,.fn f cap] [(X,.row 83 3 (l.map (AN false)))] λr S'=>∃u:List Item,(u.Perm l/\u.Pairwise λa b=>AU cf b a=false)/\r= .tup []/\S'=[(X,.row 83 3 (u.map (AN false)))]:=by
 have e1:(UInt64.ofNat n).toNat=n:=by rw[CO];omega
 have hlen:=Sb (UInt64.ofNat n) (by rw[e1];omega);rw[e1]at hlen;have hsz:l.toArray.size=l.length:=by simp
 have hb:bitsLen n<=1000:=B7 ((bitsLen_le_iff n 16).2 (by show n<65536;omega)) (by decide);have hs:=cW f cap cf hst hf hS n X n l.toArray 0 n (bitsLen n) (by omega) (by omega) (Ap _) (by omega) (by omega) hb (.inl rfl);simp only[List.toList_toArray]at hs;refine Sp (nt:=14) (res:=[]) func59 λSf=>?_
 (iterate 11 refine WK ?_);refine AI (Ig .i64 n rfl (by omega) (by kernel_rfl) (by kernel_rfl) rfl) rfl ?_;refine BU (h:=(hlen ..)) (k:=?_);refine WK ?_;refine XJ [] (h:=hs) (λu hu=>?_);refine WK ?_
 refine Eb ?_;obtain⟨h1,h2⟩:=hu;have h1':PermIn 0 l.toArray.size l.toArray u:=by rw[hsz,<-hn];exact h1
 have hus:n=u.size:=by rw[h1'.1,hsz];exact hn
 exact B4 [(X,_)] ⟨u.toList,⟨by simpa using Kk h1',I6 hus h2⟩,rfl,rfl⟩
end
theorem XP(x y:Item):PS prog 60 [AN false x,AN false y] (iA (EN x.ent.n y.ent.n)):=by
 have h:=Fq x.ent.n y.ent.n;obtain⟨⟨xn,xg⟩,xc⟩:=x;obtain⟨⟨yn,yg⟩,yc⟩:=y;refine Sp (nt:=12) (res:=[.tmp 4]) func60 λSf=>?_
 refine RG ?_;refine BS ?_;refine BS ?_;refine JC ?_;refine JH ?_;refine BP (h:=(h ..)) (k:=?_);refine JC ?_;refine RT ?_;refine Ag ?_;rfl
theorem bP{P:Program}{ty:TypeId}{pos:String}{after:Array Edge}{dst:Option Tmp}{c:Option (List Bool)}{g:Option (Nat×Bool)}{T:List (Nat×AV)}{S:List AS}{x0:Operand}{v0:AV}{f:FuncId}{ats:Array TypeId}{r v:AV}[hf:Frz r v](h0:Rd c T x0 v0)(h:PS P f [v0] r)(ht:Bm [(x0,v0)]=true):Stp c P ⟨dst,.call ⟨.value (.func f),#[x0],ats⟩,ty,pos,after,g⟩ T S [(x0,v0)] [] v []:=hf.h▸W.call1 h0 h ht
theorem Oh(t:Tab):(D2 t).length=t.es.length:=AH _
theorem Xb(h:i<t.es.length):(D2 t)[i]?=some ⟨t.es[i].2,BF t t.es[i].1⟩:=by
 rw[D2,Ae,Af h];rfl
theorem V9(a:Ar)(ha:ArOK a)(hne:II a.ts)(hk16:a.kinds.length<=16)(hkf:∀k∈a.kinds,k.fields.length<=8)(hgl:a.gens.length<=256)(hcv:∀it∈B0 a.ts,CsL it.comps):
  Spec prog 17 [.ptr a.A 0 0] (arS a) λr S'=>∃L:List Item,(L.Perm (B0 a.ts)/\L.Pairwise λx y=>x.ent.n<=y.ent.n)/\r=wdA false ⟨a.kinds,a.gens,L⟩/\S'=arS a:=by
 have hkp:=Kq a.kinds (by omega) (λk hk=>by have:=hkf k hk;omega);have hcl:=Pz a.G a.gens a.gens.length rfl (by omega);have htl:=ha.ts_le hne;have hpt:(ptrs Tab.X a.ts).length=a.ts.length:=AH _;refine Sp (nt:=51) (res:=[.cell 2 26]) func17 λSf=>?_
 refine JF ?_;refine Ai λZ=>?_;refine NL ?_
 refine FL ?_;refine CN λV=>?_
 refine JM ?_;refine JS (h:=(hkp ..)) (k:=?_);refine KR ?_;refine S4 hcl .fz ?_;(iterate 3 refine RK ?_);refine RGo.nil (by kernel_rfl) ?_;refine FL ?_;refine CY (Y:=V) 83 3 (by exact As) (λI=>.cons (.agg (.s (.s (.cons (.base .nil) .nil)))) .nil) λI=>?_
 refine JN ?_;refine Ev (λ(j I:Nat) (its:List Item)=>⟨[(2,.ptr Z 0 0),(3,.ptr V 0 0),(22,.sl a.Tb 0 a.ts.length),(23,iA (a.ts.length:Nat)),(24,iA j)],(I,.row 83 3 (its.map (AN false)))::(V,.row 26 3 [.agg [Ba false false a.kinds,Av false a.gens,.sl I 0 its.length]])::(Z,.row 26 3 [.agg [.prim (.slice none 0 0),.prim (.slice none 0 0),.prim (.slice none 0 0)]])::(arS a++Sf)⟩) (λj _ its=>j<=a.ts.length/\its=B0 (a.ts.take j)) (λj _ _=>a.ts.length-j) 0 I [] ⟨by omega,rfl⟩ ?_;rintro j I its ⟨hj,hits⟩;refine JN ?_;refine AC rfl (λh=>?_) (λh=>?_)
 ·have h:j<a.ts.length:=by rw[Aj]at h;omega
  obtain⟨l1,l2,hsp,hl1⟩:=Jd h;have htm:=Ax h;have hto:=ha.tab _ htm;have hten:=ha.ent _ htm;have hat:(ptrs Tab.X a.ts)[j]?=some (.ptr a.ts[j].X 0 0):=DC _ h
  have hnext:B0 (a.ts.take (j+1))=its++D2 a.ts[j]:=by
   rw[A6 h,D0,<-hits,EE];simp[B0]
  have hcvt:∀it∈D2 a.ts[j],CsL it.comps:=λit hi=>hcv it (CA.2 ⟨_,htm,hi⟩)
  have hbnd:its.length+(D2 a.ts[j]).length<=256:=by
   have h1:=ha.c_le;rw[ha.cnt,ha.keys_items,AH]at h1
   have h2:B0 a.ts=its++D2 a.ts[j]++B0 l2:=by
    conv=>lhs;rw[hsp]
    rw[D0,EE,hits,<-Bg]
    have:l1=a.ts.take j:=by
     have:=EI (List.take j) hsp;rw[EJ hl1]at this;exact this.symm
    rw[this]
   rw[h2,Ak,Ak]at h1;omega
  obtain⟨t,ht⟩:=nm (a.ts[j]);rw[ht]at hsp hto hten hat hnext hcvt hbnd;obtain⟨Z2,hZ2⟩:=nm (Ch l1++(Ch l2++Sf));have hop:=Fw (l1:=l1) (l2:=l2) (t:=t) Sf;rw[<-hsp,hZ2]at hop;refine JD ?_;refine BT ?_ (W.idx rfl rfl (by exact As) rfl (by omega) (An _));refine KO ?_;refine Ai λP5=>?_;refine JC ?_
  refine FL ?_;refine AWP.perm (S':=(I,.row 83 3 (its.map (AN false)))::(P5,.row 117 1 [.ptr t.X 0 0])::(V,.row 26 3 [.agg [Ba false false a.kinds,Av false a.gens,.sl I 0 its.length]])::(H6 t++((Z,.row 26 3 [.agg [.prim (.slice none 0 0),.prim (.slice none 0 0),.prim (.slice none 0 0)]])::(arH a++Z2)))) ?_ ?_
  ·refine(EZ _ _ _).trans (A9 _ (A9 _ (A9 _ ?_)))
   have h1:=hop.append_left ((Z,AO.row 26 3 [.agg [.prim (.slice none 0 0),.prim (.slice none 0 0),.prim (.slice none 0 0)]])::arH a);refine(C1 ?_).trans (h1.trans (D6 ((Z,AO.row 26 3 [.agg [.prim (.slice none 0 0),.prim (.slice none 0 0),.prim (.slice none 0 0)]])::arH a) (H6 t) Z2));rw[arS];simp only[CI,CD]
  have hal:=dW t.ek t.es hto.es;have hI:=bE (Am t.es) (t.es.map (·.2)) (by simp) (by have:=hto.es.len;rw[AH];omega);refine RG ?_;(iterate 4 refine WO ?_);refine XH [_,_,_,_] hal ?_;refine NL ?_;refine FL ?_;refine WP (Sf:=(Z,.row 26 3 [.agg [.prim (.slice none 0 0),.prim (.slice none 0 0),.prim (.slice none 0 0)]])::(arH a++Z2)) hI (λb:Nat×List Item=>(b.1,AO.row 83 3 (b.2.map (AN false)))::(P5,.row 117 1 [.ptr t.X 0 0])::(V,.row 26 3 [.agg [Ba false false a.kinds,Av false a.gens,.sl b.1 0 b.2.length]])::H6 t) (λi b=>b.2=its++(D2 t).take i) (I,its) (by simp) ?_ ?_ rfl rfl rfl ?_ ?_
  ·rintro i vs ⟨I,is⟩ l F1 F2 hi hb
   dsimp only at hb
   have hn:i<t.es.length:=by
    have:=(AE.1 hi).1;simpa using this
   have hiv:[iA t.es[i].1,CG t.es[i].2]=vs:=by
    rw[Ae,Af (by simpa using hn),List.getElem_zip]at hi;simpa using hi
   subst hiv;have hem:=Ax hn;have hnk:t.es[i].1∈Am t.es:=Ad.2 ⟨_,hem,rfl⟩;have hnl:=hto.es.lt _ hnk;have hcs:=US t t.es[i].1 hto (by constructor<;>omega) hnk;have hti:=Xb hn;have hci:=hcvt _ (Bb hti);have hcc:=F6 (BF t t.es[i].1) hci.1 hci.2;have hil:i<(D2 t).length:=by rw[Oh];exact hn
   have hnx:is++[⟨t.es[i].2,BF t t.es[i].1⟩]=its++(D2 t).take (i+1):=by
    rw[hb,E5,hti,Bg];rfl
   have hisl:is.length<=256:=by rw[hb,Ak,BZ];omega
   obtain⟨⟨en,ee⟩,hee⟩:=nm (t.es[i]);rw[hee]at hcs hcc hnx;rw[hee];dsimp only at hcs hcc hnx⊢;obtain⟨lc,hlc⟩:=nm (BF t en);rw[hlc]at hcs hcc hnx;have hma:is.map (AN false)++[AN false ⟨ee,lc⟩]=(is++[(⟨ee,lc⟩:Item)]).map (AN false):=by rw[AT];rfl
   have hml:is.length+[AN false ⟨ee,lc⟩].length=(is++[(⟨ee,lc⟩:Item)]).length:=by rw[Ak];rfl
   refine JB ?_;refine JK ?_;refine Ai λE7=>?_;refine JC ?_
   refine⟨(E7,.row 32 2 [CG ee])::(I,.row 83 3 (is.map (AN false)))::(P5,AO.row 117 1 [.ptr t.X 0 0])::(V,.row 26 3 [.agg [Ba false false a.kinds,Av false a.gens,.sl I 0 is.length]])::H6 t,.refl _,?_⟩;refine FL ?_;refine CN λY=>?_
   (repeat refine WF ?_);refine AWP.region_runT 5 (by kernel_rfl) (by kernel_rfl) ?_;refine ER ?_;refine ER ?_;refine ER ?_;refine ER ?_;refine ER ?_;refine QK (xs:=[(.tmp 38,.ptr t.X 0 0),(.tmp 39,iA en)]) (L:=[_,_,_,_,_]) (R:=F2) hcs (.fz (v:=B3 false false lc)) rfl (AP 5) (.cons rfl (.cons rfl .nil)) rfl rfl ?_;refine ER (h:=bP (v:=B3 false false lc) rfl hcc rfl) ?_;refine ER ?_;refine ER (v:=.lst false 83 3 [AN false ⟨ee,lc⟩]) (h:=W.litF1 (v0:=AN false ⟨ee,lc⟩) rfl rfl (.inl rfl) (by decide) (by decide) rfl) ?_;refine Mw (h:=W.app (X:=I) (Y:=Y) rfl rfl (by exact As) (by exact As) (by rw[AH]) (by rw[AH];show(is.length+1)*40<=_;omega) (by rw[AH];unfold maxLen;show is.length+1<=_;omega) (by decide)) ?_;refine ER ?_;refine Mw ?_;refine RGoT.nil (by kernel_rfl) ?_;rw[hma,hml];refine⟨(Y,.row 83 3 ((is++[(⟨ee,lc⟩:Item)]).map (AN false)))::(P5,AO.row 117 1 [.ptr t.X 0 0])::(V,.row 26 3 [.agg [Ba false false a.kinds,Av false a.gens,.sl Y 0 (is++[(⟨ee,lc⟩:Item)]).length]])::H6 t,?_,(Y,is++[(⟨ee,lc⟩:Item)]),hnx,rfl⟩;exact .cons _ (.cons _ (.refl _))
  ·rintro⟨I,is⟩ hb
   dsimp only at hb;have hxl:((Am t.es).zip (t.es.map (·.2))).length=t.es.length:=by simp
   rw[AH,hxl,<-Oh,B9]at hb;refine FL ?_;refine AWP.perm (S':=(P5,.row 117 1 [.ptr t.X 0 0])::(I,.row 83 3 (is.map (AN false)))::(V,.row 26 3 [.agg [Ba false false a.kinds,Av false a.gens,.sl I 0 is.length]])::(Z,.row 26 3 [.agg [.prim (.slice none 0 0),.prim (.slice none 0 0),.prim (.slice none 0 0)]])::(arS a++Sf)) ?_ ?_
   ·refine(EZ _ _ _).trans (A9 _ (A9 _ (A9 _ ?_)))
    have h1:=hop.append_left ((Z,AO.row 26 3 [.agg [.prim (.slice none 0 0),.prim (.slice none 0 0),.prim (.slice none 0 0)]])::arH a);refine LO (D6 (H6 t) ((Z,AO.row 26 3 [.agg [.prim (.slice none 0 0),.prim (.slice none 0 0),.prim (.slice none 0 0)]])::arH a) Z2) (h1.symm.trans (C1 ?_));rw[arS];simp only[CI,CD]
   ·refine R1 ?_
    exact Dc (j+1) I is ⟨by omega,by rw[hb,hnext]⟩ (by omega)
  ·intro vs hvs
   obtain⟨q,_,rfl⟩:=Ad.1 hvs;rfl
  ·exact .refl _
 ·have h:j=a.ts.length:=by rw[Ao]at h;omega
  subst h;rw[B9]at hits
  have hilen:its.length<=256:=by
   have h1:=ha.c_le;rw[ha.cnt,ha.keys_items,AH]at h1;rw[hits];omega
  have hso:=SK 60 [] (λx y=>EN x.ent.n y.ent.n) rfl (SJ λx:Item=>x.ent.n) XP I its.length its rfl (by omega);refine JK ?_;refine WO ?_;refine M8 [] (h:=hso) (λu hu=>?_);refine NL ?_;obtain⟨hu1,hu2⟩:=hu;have hul:=hu1.length_eq
  have hF:AV.frzs (((u.map (AN false)).drop 0).take its.length)=u.map (AN false):=by
   rw[Cp,BB (by rw[AH];omega)];exact Frzs.h
  refine FL ?_;refine E9 (X:=I) (Y:=V) .here (.next .here) rfl (.cons (.agg (.s (.s (.cons (.base (.sl (by rw[AH];omega))) .nil)))) .nil) ?_;rw[hF];refine R1 ?_;refine RT ?_
  exact Ends.sp [wdA false ⟨a.kinds,a.gens,u⟩] (arS a) ⟨u,⟨by rw[<-hits];exact hu1,hu2.imp λ{x y} h=>by
   simp only[AU,Ao,Ku]at h;omega⟩,rfl,rfl⟩
abbrev ay(b:Bool)(l:List Bool):AV:=.lst b 4 1 (l.map bA)
theorem ArFor.sorted(h:ArFor a w){L:List Item}(hp:L.Perm (B0 a.ts))(hs:L.Pairwise λx y=>x.ent.n<=y.ent.n):L=w.items:=by
 refine ND (le:=λx y=>x.ent.n<=y.ent.n) (λx y hx hy h1 h2=>?_) hs (h.wok.so.imp λh=>by omega) (hp.trans h.items);exact Me (key:=λx:Item=>x.ent.n) h.wok.so ((hp.trans h.items).mem_iff.1 hx) hy (by omega)
theorem gG{d:List Bool}{i n:Nat}{b:Bool}(hd:d.length=i)(h:i<n):((d++List.replicate (n-i) false).map bA).set i (bA b)=((d++[b])++List.replicate (n-(i+1)) false).map bA:=by
 rw[<-BC]
 congr 1
 rw[Fa _ _ (by omega),hd,DY,show n-i=(n-(i+1))+1 by omega,H5,Gj,Bg];rfl
structure CmdsL(ks:List Kind)(l:List Cmd):Prop where
 ok:∀c∈l,(Fc ks c).2=0
 n:∀c∈l,I64 c.ent.n
 l:∀c∈l,c.comps.length<=1099511627776
theorem Yq{w v:Wd}{l:List Cmd}{c:Cmd}{es:List Ent}{ds:List Bool}(h:i<l.length)(hc:l[i]=c)(he:GE w l=((GE v (l.drop i)).1,es++(GE v (l.drop i)).2.1,ds++(GE v (l.drop i)).2.2)):
  GE w l=((GE (Iq v c).1 (l.drop (i+1))).1,(if(Iq v c).2.2=true/\c.act=3 then es++[(Iq v c).2.1]else es)++(GE (Iq v c).1 (l.drop (i+1))).2.1,(ds++[(Iq v c).2.2])++(GE (Iq v c).1 (l.drop (i+1))).2.2):=by
 rw[he,D9 h,hc,GE];dsimp only;split
 ·simp
 ·simp
theorem YV(w:Wd)(l:List Cmd)(hw:WdOK w)(h12:w.kinds.length<=12)(hl:l.length<=131072)(hc:CmdsL w.kinds l):PS prog 201 [wdA false w,En false l] (.tup [wdA false (GE w l).1,.lst true 32 2 ((GE w l).2.1.map CG),ay true (GE w l).2.2]):=by
 have hof:=fZ w hw;have hlm:(l.map D3).length=l.length:=AH _;refine Sp (nt:=58) (res:=[.cell 4 26,.tmp 5,.tmp 6]) func201 λSf=>?_
 refine RG ?_;refine BS ?_;refine WO ?_;refine Ai λP=>?_;refine JE ?_
 refine JK ?_;refine XK [_] hof λa ha=>?_;refine JE ?_;obtain⟨a1,a2,a3,a4,a5⟩:=ha;have hf:ArFor a w:=⟨a1,a2,a3,a4,a5,hw⟩;refine JB ?_;refine AB rfl rfl ?_;refine JB ?_;refine JK ?_;refine WO ?_;refine J1 (bA false) λK=>?_;refine JC ?_
 refine JJ ?_;refine AWP.adopt (d:=9) 32 2 rfl λO=>?_
 refine Ev (λ(i Y:Nat) (z:Ar×Wd×List Ent×List Bool)=>⟨[(2,.fp (wdA false w).cells),(4,.ptr P 0 0),(7,.ptr a.A 0 0),(9,.sl Y 0 z.2.2.1.length),(10,.sl K 0 (l.map D3).length),(26,En false l),(27,iA (l.map D3).length),(28,iA i)],(Y,.row 32 2 (z.2.2.1.map CG))::(K,.row 4 1 ((z.2.2.2++List.replicate (l.length-i) false).map bA))::(P,.row 26 3 [.agg [.prim (.slice none 0 0),.prim (.slice none 0 0),.prim (.slice none 0 0)]])::(arS z.1++Sf)⟩) (λi Y z=>i<=l.length/\ArFor z.1 z.2.1/\z.1.A=a.A/\z.2.1.kinds=w.kinds/\z.2.2.1.length<=i/\z.2.2.2.length=i/\GE w l=((GE z.2.1 (l.drop i)).1,z.2.2.1++(GE z.2.1 (l.drop i)).2.1,z.2.2.2++(GE z.2.1 (l.drop i)).2.2)) (λi _ _=>l.length-i) 0 O (a,w,[],[]) ⟨Ap _,hf,rfl,rfl,AP _,rfl,rfl⟩ ?_ (h0:=⟨by exact EF,by rw[hlm,IF,CD,List.map_replicate];exact BH⟩);rintro i Y ⟨z,v,es,ds⟩ ⟨hi,hz,hzA,hvk,hes,hds,hrun⟩;dsimp only at hz hzA hvk hes hds hrun⊢;refine JN ?_;refine AC rfl (λhb=>?_) (λhb=>?_)
 ·have h:i<l.length:=by rw[Aj,hlm]at hb;omega
  obtain⟨c,hcc⟩:=nm (l[i]);have hcm:c∈l:=by rw[<-hcc];exact Ax h
  have hat:(l.map D3)[i]?=some (D3 c):=by rw[Ae,Af h,hcc];rfl
  have hact:=e9 hz (by rw[hvk];exact h12) c (by rw[hvk];exact hc.ok c hcm) (hc.n c hcm) (hc.l c hcm);have hnx:=Yq h hcc hrun;obtain⟨⟨v2,x,ok⟩,hv2⟩:=nm (Iq v c);rw[hv2]at hact hnx;dsimp only at hact hnx;have hnl:i<((ds++List.replicate (l.length-i) false).map bA).length:=by rw[AH,Ak,Di];omega
  have hset:=gG (b:=ok) hds h
  have hvk2:v2.kinds=w.kinds:=by
   have:=(W7 hz.wok (c:=c) (by rw[hvk];exact hc.ok c hcm)).2;rw[hv2]at this;exact this.trans hvk
  rw[<-hzA];refine JH ?_;refine Ai λC=>?_;refine JE ?_
  refine JK ?_;refine WO ?_;refine M8 [_,_,_,_] hact λb hb2=>?_;refine KO ?_;refine Ai λV=>?_;refine JE ?_
  obtain⟨hb1,hb2⟩:=hb2;refine JB ?_;dsimp only[BE,List.set_cons_zero,List.set_cons_succ,CI,CD];rw[hset];refine FL ?_;have hEl:(es.map CG).length=es.length:=AH _;cases ok with
  |false=>
   rw[AM (by simp)]at hnx;refine R1 ?_;refine AB rfl rfl ?_;refine JB ?_;exact Dc (i+1) Y (b,v2,es,ds++[false]) ⟨h,hb1,hb2,hvk2,by dsimp only;omega,by rw[Ak,hds];rfl,hnx⟩ (by omega)
  |true=>
   refine R1 ?_;refine AC rfl (λh3=>?_) (λh3=>?_)
   ·have h3:c.act=3:=AD h3
    rw[AY ⟨rfl,h3⟩]at hnx;refine FL ?_;have hb1':(es.map CG).length+1<=1099511627776:=by omega
    refine JF ?_;refine WO ?_;refine Eg (CG x) ?_;refine WO ?_;refine Ay λY=>?_;refine JC ?_
    refine FL ?_;dsimp only[BE,List.set_cons_zero,List.set_cons_succ,CI,CD];have hm1:es.map CG++[CG x]=(es++[x]).map CG:=by rw[AT];rfl
    have hm2:es.length+[CG x].length=(es++[x]).length:=by rw[Ak];rfl
    rw[hm1,hm2];refine R1 ?_;exact Dc (i+1) Y (b,v2,es++[x],ds++[true]) ⟨h,hb1,hb2,hvk2,by rw[Ak];show es.length+1<=i+1;omega,by rw[Ak,hds];rfl,hnx⟩ (by omega)
   ·have h3:¬c.act=3:=AG h3
    rw[AM (λe=>h3 e.2)]at hnx;refine JB ?_;exact Dc (i+1) Y (b,v2,es,ds++[true]) ⟨h,hb1,hb2,hvk2,by dsimp only;omega,by rw[Ak,hds];rfl,hnx⟩ (by omega)
 ·have h:i=l.length:=by rw[Ao,hlm]at hb;omega
  subst h;rw[Dk]at hrun;simp only[GE,BD]at hrun;have hkk:=DX hz.wok.ks;have har:=V9 z hz.ok hz.ne (by rw[hz.kinds];exact hkk.1) (λk hk=>(GY (hkk.2 k (by rw[<-hz.kinds];exact hk))).2.1) (by rw[hz.gens];exact hz.wok.gl) (λit hit=>(hz.wok.wl.items.2 it (hz.items.mem_iff.1 hit)));rw[<-hzA];refine JK ?_;refine XK [_,_,_] har λL hL=>?_;refine JE ?_;have hLe:=hz.sorted hL.1 hL.2;refine RT ?_;rw[hrun];have hv:(⟨z.kinds,z.gens,L⟩:Wd)=v:=by rw[hz.kinds,hz.gens,hLe]
  rw[hv,DY,List.replicate_zero,BD];dsimp only[BE,List.set_cons_zero,List.set_cons_succ,CI,CD];exact DA [wdA false v,.sl Y 0 es.length,.sl K 0 (l.map D3).length] [wdA false v,.lst true 32 2 (es.map CG),ay true ds] (.cons (.cell .same) (.cons (.cell (.sl (p:=0) .here (by rw[AH]))) (.cons (.cell (.sl (p:=0) .here (by rw[hlm,AH,hds]))) .nil))) (hS:=by repeat (first|exact Hq _ _|apply JY))
theorem bB(w:Wd)(l:List Cmd)(hw:WdOK w)(h12:w.kinds.length<=12)(hl:l.length<=131072)(hc:CmdsL w.kinds l):PS prog 139 [wdA false w,En false l] (.tup [wdA false (GE w l).1,Ps (GE w l).2.1,iA 0]):=by
 have hck:=UX w l hw.wl h12 (by omega) hc.l;rw[cmdErr_iff.2 ⟨hw,hl,hc.ok⟩]at hck;have hrn:=YV w l hw h12 hl hc;refine Sp (nt:=27) (res:=[.cell 4 26,.tmp 5,.tmp 6]) func139 λSf=>?_
 refine RG ?_;refine BS ?_;refine WO ?_;refine Ai λP=>?_;refine JE ?_
 refine JH ?_;refine BP (h:=(hck ..)) (k:=?_);refine JC ?_;refine JB ?_;refine AB rfl rfl ?_;refine JH ?_;refine BP (h:=(hrn ..)) (k:=?_);refine KO ?_;refine Ai λV=>?_;refine JE ?_
 refine JL ?_;exact KJ (rs:=[wdA false (GE w l).1,Ps (GE w l).2.1,iA 0]) rfl
structure CmdG(ks:List Kind)(c:Cmd):Prop where
 ok:(Fc ks c).2=0
 n:I64 c.ent.n
 l:c.comps.length<=16
 v:∀d∈c.comps,d.vals.length<=8
theorem CmdG.of(hk:CB ks=0){c:Cmd}(h:(Fc ks c).2=0)(hn:I64 c.ent.n)(hc:∃l,Cb ks c.comps=true\/c.comps=l/\Cb ks l=true):CmdG ks c:=by
 have hh:Cb ks c.comps=true:=by
  obtain⟨l,h|⟨h1,h2⟩⟩:=hc
  ·exact h
  ·rw[h1];exact h2
 obtain⟨h1,h2⟩:=HO hk hh;exact⟨h,hn,h1,h2⟩
theorem UC(ks:List Kind):Cb ks []=true:=rfl
theorem am{index:Int}{o:Op}{st:Rn}(hk:CB ks=0)(hs:SysG ks s)(hn:I64 e.n)(ho:OpG ks s.reads s.writes o)(h:∀c∈st.cmds,CmdG ks c):∀c∈(doM ks s index e o st).cmds,CmdG ks c:=by
 unfold doM;split
 ·exact h
 ·rename_i hset
  split
  ·exact h
  ·split
   ·exact h
   ·rename_i h12
    intro c hc;rcases AL.1 hc with hc|hc
    ·exact h c hc
    ·rw[CX]at hc
     subst hc;split
     ·rename_i h8
      obtain⟨p1,p2,_⟩:=ho.puts (.inl h8);obtain⟨k,hkk⟩:∃k:Nat,o.to.kind=k:=⟨o.to.kind.toNat,by omega⟩;have hkl:k<ks.length:=by omega
      have hka:ks[k]?=some ks[k]:=Af hkl;have hone:=(DX hk).2 _ (Ax hkl);have hde:Pu ks o.to.kind=(C8 ks[k] (List.replicate ks[k].fields.length 0)).1:=by unfold Pu;rw[hkk,By,hka]
      have hf0:=Mm hone (vals:=List.replicate ks[k].fields.length 0) (by simp);have hho:=Gc (k:=ks[k]) (v:=List.replicate ks[k].fields.length 0) (by rw[hf0]);have hfo:M6 ks ⟨o.to.kind,Pu ks o.to.kind⟩:=⟨p1,p2,ks[k],by dsimp only;rw[hkk,By,hka],by rw[hde,Gb hho.1]⟩
      have hld:Cb ks [⟨o.to.kind,Pu ks o.to.kind⟩]=true:=by
       refine held_iff.2 ⟨Bx ..,λd hd=>?_⟩;rw[CX]at hd;subst hd;exact⟨p1,p2,ks[k],by dsimp only;rw[hkk,By,hka],by rw[hde];exact hho.1⟩
      refine .of hk ?_ hn ⟨[],.inl hld⟩;show(EO ks [_]).2=0
      rw[Od hk hfo]
     ·rename_i h8
      split
      ·rename_i h9
       obtain⟨p1,p2,_⟩:=ho.puts (.inr h9);refine .of hk ?_ hn ⟨[],.inl (UC ks)⟩;show(if o.to.kind<0\/(ks.length:Int)<=o.to.kind then(([],1):List Comp×Int)else([],0)).2=0
       rw[AM (by omega)]
      ·split
       ·exact .of hk rfl hn ⟨[],.inl (UC ks)⟩
       ·have hld:=Kb hs.spawn
        refine .of hk ?_ ⟨by show(-9223372036854775808:Int)<=0;decide,by show(0:Int)<=9223372036854775807;decide⟩ ⟨[],.inl hld⟩;show(EO ks (EO ks s.spawn).1).2=0
        rw[NF hk hld]
theorem RL{index:Int}(hk:CB ks=0)(hs:SysG ks s)(hn:I64 e.n):∀(os:List Op) {st:Rn} (ho:∀o∈os,OpG ks s.reads s.writes o) (h:∀c∈st.cmds,CmdG ks c),∀c∈(KX ks s index e os st).cmds,CmdG ks c
 |[],st,ho,h=>h
 |o::os,st,ho,h=>RL hk hs hn os (λo' h'=>ho o' (by simp[h'])) (am (index:=index) hk hs hn (ho o (by simp)) h)
theorem Oy{index seed tick:Int}(hk:CB ks=0)(hs:SysG ks s):∀(qs:List (Nat×Item)) (b:List Item×List Cmd×List Evt),(∀q∈qs,I64 q.2.ent.n)->(∀c∈b.2.1,CmdG ks c)->∀c∈(Is ks s index seed tick qs b).2.1,CmdG ks c
 |[],b,_,h=>h
 |q::qs,b,hq,h=>Oy hk hs qs (b.1.set q.1 ⟨q.2.ent,(Id ks s index seed tick q.2 b.2.1 b.2.2).comps⟩,(Id ks s index seed tick q.2 b.2.1 b.2.2).cmds,(Id ks s index seed tick q.2 b.2.1 b.2.2).evs) (λq' h'=>hq q' (by simp[h'])) (RL hk hs (hq q (by simp)) s.ops hs.ops h)
abbrev wdR(w:Wd)(s:Sys)(index seed tick:Int):Wd:=⟨w.kinds,w.gens,(LS w s index seed tick).1⟩
def GS(seed tick:Int):Wd->Nat->List Sys->Wd×List (List Cmd)×List Evt
 |w,i,[]=>(w,[],[])
 |w,i,s::l=>((GS seed tick (wdR w s i seed tick) (i+1) l).1,(LS w s i seed tick).2.1::(GS seed tick (wdR w s i seed tick) (i+1) l).2.1,(LS w s i seed tick).2.2++(GS seed tick (wdR w s i seed tick) (i+1) l).2.2)
def LV(w:Wd)(l:List Sys)(seed tick:Int):Wd×List Evt:=((GE (GS seed tick w 0 l).1 (GS seed tick w 0 l).2.1.flatten).1,(GS seed tick w 0 l).2.2.take 256)
structure TickG(w:Wd)(l:List Sys):Prop where
 ok:WdOK w
 k12:w.kinds.length<=12
 sg:∀s∈l,SysG w.kinds s
 l24:l.length<=24
theorem TickG.n(h:TickG w l)(hs:s∈l):(HB w.items s.wth s.wout).length*s.ops.length<=5120:=by
 have h1:=Rt w.items s.wth s.wout;have h2:=(h.sg s hs).len;have h3:=h.ok.il;have h4:=h.ok.gl;exact B7 (Nat.mul_le_mul (show _<=256 by omega) h2) (by decide)
theorem TickG.r(h:TickG w l)(hs:s∈l)(i seed tick:Int):WdOK (wdR w s i seed tick):=(Cg _).1 (cL ((Cg w).2 h.ok) (h.sg s hs))
theorem TickG.cmds(h:TickG w l)(hs:s∈l)(i seed tick:Int):(∀c∈(LS w s i seed tick).2.1,CmdG w.kinds c)/\(LS w s i seed tick).2.1.length<=5120/\(LS w s i seed tick).2.2.length<=5120:=by
 have hm:∀q∈HB w.items s.wth s.wout,q.2∈w.items:=λq hq=>Rr hq
 refine⟨Oy h.ok.ks (h.sg s hs) _ _ (λq hq=>?_) (λc hc=>by cases hc),?_⟩
 ·have h1:=h.ok.it q.2 (hm q hq)
  have h2:=h.ok.gl;constructor<;>omega
 ·have hr:=MX (ks:=w.kinds) (s:=s) (index:=i) (seed:=seed) (tick:=tick) h.ok.ks (h.sg s hs).ops (HB w.items s.wth s.wout) (w.items,[],[]) (λq hq=>?_)
  ·have:=h.n hs
   obtain⟨r1,r2,_⟩:=hr;simp only[Ei,An]at r1 r2;exact⟨B7 r1 this,B7 r2 this⟩
  ·exact(Ru (h.sg s hs) (λit hit=>(h.ok.it it hit).2.2.2.2) q hq).2
theorem CmdG.sl{l:List Cmd}(h:∀c∈l,CmdG ks c):CmdsL ks l/\∀c∈l,CsL c.comps:=
 ⟨⟨λc hc=>(h c hc).ok,λc hc=>(h c hc).n,λc hc=>by have:=(h c hc).l;omega⟩,λc hc=>⟨by have:=(h c hc).l;omega,λd hd=>by have:=(h c hc).v d hd;omega⟩⟩
theorem OL{seed tick:Int}:∀(l:List Sys) (w:Wd) (i:Nat),TickG w l->WdOK (GS seed tick w i l).1/\(GS seed tick w i l).1.kinds=w.kinds/\(GS seed tick w i l).1.gens=w.gens/\(GS seed tick w i l).2.1.length=l.length/\(GS seed tick w i l).2.1.flatten.length<=5120*l.length/\(GS seed tick w i l).2.2.length<=5120*l.length/\∀x∈(GS seed tick w i l).2.1,∀c∈x,CmdG w.kinds c
 |[],w,i,h=>⟨h.ok,rfl,rfl,rfl,AP _,AP _,λx hx=>by cases hx⟩
 |s::l,w,i,h=>by
  have hm:s∈s::l:=by simp
  obtain⟨g1,g2,g3⟩:=h.cmds hm i seed tick;have hr:=h.r hm i seed tick;have hl:=h.l24;obtain⟨k1,k2,k3,k4,k5,k6,k7⟩:=OL (seed:=seed) (tick:=tick) l (wdR w s i seed tick) (i+1) ⟨hr,h.k12,λt ht=>h.sg t (by simp[ht]),by rw[DM]at hl;omega⟩;refine⟨k1,k2,k3,?_,?_,?_,λx hx=>?_⟩
  ·rw[GS,DM,DM,k4]
  ·rw[GS,List.flatten_cons,Ak,DM];omega
  ·rw[GS,Ak,DM];omega
  ·rw[GS]at hx
   rcases AQ.1 hx with rfl|hx
   ·exact g1
   ·exact k7 x hx
theorem TickG.all(h:TickG w l)(seed tick:Int):∀c∈(GS seed tick w 0 l).2.1.flatten,CmdG w.kinds c:=λc hc=>by
 obtain⟨x,hx,hcx⟩:=List.mem_flatten.1 hc;exact(OL (seed:=seed) (tick:=tick) l w 0 h).2.2.2.2.2.2 x hx c hcx
theorem TickG.tick(h:TickG w l)(seed tick:Int):TickG (LV w l seed tick).1 l/\(LV w l seed tick).1.kinds=w.kinds:=by
 obtain⟨k1,k2,_⟩:=OL (seed:=seed) (tick:=tick) l w 0 h;have ha:=h.all seed tick;obtain⟨r1,r2⟩:=Wh k1 (l:=(GS seed tick w 0 l).2.1.flatten) λc hc=>by rw[k2];exact(ha c hc).ok
 have hk:(LV w l seed tick).1.kinds=w.kinds:=r2.trans k2;exact⟨⟨r1,by rw[hk];exact h.k12,λs hs=>by rw[hk];exact h.sg s hs,h.l24⟩,hk⟩
theorem Vv(a b c d:Int)(w:World):(binOp .neq 32 (.agg [Value.int .i64 a,Value.int .i64 b].toArray) (.agg [Value.int .i64 c,Value.int .i64 d].toArray)).run prog w= .ok (.bool (!(decide (a=c)&&decide (b=d)))) w:=by
 have h:=Wz (P:=prog) (t:=32) 9998 (by kernel_rfl) (by kernel_rfl) (by kernel_rfl) a b c d w;rw[run_neq_struct];have e:(Op.equalIn 10000 32 (.agg [Value.int .i64 a,Value.int .i64 b].toArray) (.agg [Value.int .i64 c,Value.int .i64 d].toArray)).run prog w=_:=h;rw[e,AA]
theorem Vu(a b:Ent):(!(decide (a.n=b.n)&&decide (a.gen=b.gen)))=decide (a≠b):=by
 cases a;cases b;simp only[ne_eq,Ent.mk.injEq];rw[decide_not,Bool.decide_and]
theorem V6(c:Cmd)(hl:c.comps.length<=1099511627776)(hv:∀d∈c.comps,d.vals.length<=1099511627776):PS prog 199 [D3 c] (D3 c):=by
 have hcp:=F6 c.comps hl hv;refine Sp (nt:=8) (res:=[.cell 2 303]) func199 λSf=>?_
 refine JF ?_;refine Ai λP=>?_;refine WO ?_;refine Ai λP=>?_;refine NL ?_
 refine JH ?_;refine BU (h:=(hcp ..)) (k:=?_);refine JE ?_;refine JL ?_;exact KJ (rs:=[D3 c]) rfl
theorem Lc(L:List (List Cmd))(i:Nat):(L.take i).flatten.length<=L.flatten.length:=by
 conv=>rhs;rw[<-CJ i L,FC,Ak]
 omega
theorem Rb{L:List (List Cmd)}{x:List Cmd}(h:L[i]?=some x):(L.take (i+1)).flatten=(L.take i).flatten++x:=by
 rw[E5,h,gL,FC];simp
theorem V5(L:List (List Cmd))(h2:L.length<=1000)(hl:L.flatten.length<=131072)(hc:∀x∈L,∀c∈x,CsL c.comps):PS prog 138 [.lst false 139 1 (L.map (En false))] (.tup [En true L.flatten,iA 0]):=by
 have hLm:(L.map (En false)).length=L.length:=AH _;refine Sp (nt:=45) (res:=[.tmp 2,.tmp 3]) func138 λSf=>?_
 refine R1 ?_;refine JB ?_;refine JJ ?_;refine B8 (λ(i:Nat)=>⟨[(0,.lst false 139 1 (L.map (En false))),(4,iA ((L.take i).flatten.length:Nat)),(12,.lst false 139 1 (L.map (En false))),(13,iA (L.map (En false)).length),(14,iA i)],Sf⟩) (λi=>i<=L.length) (λi=>L.length-i) 0 (Ap _) ?_;rintro i hi;refine JN ?_;refine AC rfl (λhb=>?_) (λhb=>?_)
 ·have h:i<L.length:=by rw[Aj,hLm]at hb;omega
  obtain⟨x,hx⟩:∃x,L[i]?=some x:=⟨_,Af h⟩;have hat:(L.map (En false))[i]?=some (En false x):=by rw[Ae,hx];rfl
  have hnx:=EI List.length (Rb hx);rw[Ak]at hnx;have hle:=Lc L (i+1);have hxm:(x.map D3).length=x.length:=AH _;refine JB ?_;refine JD ?_;(iterate 3 refine WO ?_);refine BT ?_ (Bw ((((L.take i).flatten.length:Nat):Int)+((x.map D3).length:Nat)) (by omega) (by omega) rfl rfl);refine JC ?_;rw[show((((L.take i).flatten.length:Nat):Int)+((x.map D3).length:Nat))=(((L.take (i+1)).flatten.length:Nat):Int) by omega];refine JB ?_;refine AB rfl (Az (by omega)) ?_;refine JB ?_;exact BM (i+1) h (by omega)
 ·clear hb hi
  refine JB ?_;refine JJ ?_;refine AWP.adopt (d:=7) 303 5 rfl λO=>?_
  refine Ca (λ(i O:Nat)=>⟨[(7,.sl O 0 (L.take i).flatten.length),(25,.lst false 139 1 (L.map (En false))),(26,iA (L.map (En false)).length),(27,iA i)],(O,.row 303 5 ((L.take i).flatten.map D3))::Sf⟩) (λi _=>i<=L.length) (λi _=>L.length-i) 0 O (Ap _) ?_;rintro i O hi;refine JN ?_;refine AC rfl (λhb=>?_) (λhb=>?_)
  ·have h:i<L.length:=by rw[Aj,hLm]at hb;omega
   obtain⟨x,hx⟩:∃x,L[i]?=some x:=⟨_,Af h⟩;have hat:(L.map (En false))[i]?=some (En false x):=by rw[Ae,hx];rfl
   have hnx:=Rb hx;have hle:=Lc L (i+1);rw[hnx,Ak]at hle;have hxm:(x.map D3).length=x.length:=AH _;have hxc:=hc x (Bb hx);obtain⟨P0,hP0⟩:=nm ((L.take i).flatten);rw[hP0]at hle hnx⊢;refine JB ?_;refine JJ ?_;refine Ca (λ(j O:Nat)=>⟨[(7,.sl O 0 (P0++x.take j).length),(25,.lst false 139 1 (L.map (En false))),(26,iA (L.map (En false)).length),(27,iA i),(31,En false x),(32,iA (x.map D3).length),(33,iA j)],(O,.row 303 5 ((P0++x.take j).map D3))::Sf⟩) (λj _=>j<=x.length) (λj _=>x.length-j) 0 O (Ap _) ?_ (h0:=⟨by rw[List.take_zero,BD];exact EF,by rw[List.take_zero,BD];exact BH⟩);rintro j O hj;refine JN ?_;refine AC rfl (λhb2=>?_) (λhb2=>?_)
   ·have h2:j<x.length:=by rw[Aj,hxm]at hb2;omega
    obtain⟨c,hcc⟩:=nm (x[j]);have hcm:c∈x:=by rw[<-hcc];exact Ax h2
    have hat2:(x.map D3)[j]?=some (D3 c):=by rw[Ae,Af h2,hcc];rfl
    have hcp:=V6 c (hxc c hcm).1 (hxc c hcm).2;have hnx2:P0++x.take (j+1)=(P0++x.take j)++[c]:=by rw[A6 h2,hcc,Bg]
    have hpl:(P0++x.take j).length<=131072:=by rw[Ak,BZ];omega
    obtain⟨M,hM⟩:=nm (P0++x.take j);rw[hM]at hnx2 hpl⊢;have hml:(M.map D3).length=M.length:=AH _;have hb1:(M.map D3).length+1<=1099511627776:=by omega
    have hm1:M.map D3++[D3 c]=(P0++x.take (j+1)).map D3:=by rw[hnx2,AT];rfl
    have hm2:M.length+[D3 c].length=(P0++x.take (j+1)).length:=by rw[hnx2,Ak];rfl
    refine JH ?_;refine Ai λX=>?_;refine JC ?_
    refine JH ?_;refine BU (h:=(hcp ..)) (k:=?_);refine Eg (D3 c) ?_;refine WO ?_;refine Ay λY=>?_;refine JC ?_
    dsimp only[BE,List.set_cons_zero,List.set_cons_succ,CI,CD];rw[hm1,hm2];refine JB ?_;exact Bn (j+1) Y h2 (by omega)
   ·have h2:j=x.length:=by rw[Ao,hxm]at hb2;omega
    subst h2;rw[B9,<-hnx];refine JB ?_;exact Bn (i+1) O h (by omega)
  ·have h:i=L.length:=by rw[Ao,hLm]at hb;omega
   subst h;rw[B9];refine JL ?_;exact DA [.sl O 0 L.flatten.length,iA 0] [En true L.flatten,iA 0] (.cons (.cell (.sl (p:=0) .here (by rw[AH]))) (.cons (.cell .same) .nil))
end Go.Proofs.YtmkahplhnbbgmaaGreat
