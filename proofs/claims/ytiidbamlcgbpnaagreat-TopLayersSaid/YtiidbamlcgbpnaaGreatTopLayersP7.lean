/-
  Part 7 of the texts under the law TopLayers: the layer of abstract values, walks and plain laws. Conditions: those that each theorem names.
-/
import Derived.Test.YtiidbamlcgbpnaaGreatTopLayersP6
namespace Go.Proofs.YtiidbamlcgbpnaaGreat
set_option linter.unusedVariables false
set_option linter.unusedSimpArgs false
set_option linter.defProp false
set_option maxRecDepth 10000
set_option maxHeartbeats 4000000
instance tPtrT:TPtr Tryz.prog 145:=⟨151,by kernel_rfl,by kernel_rfl⟩
instance mapIT:TMap Tryz.prog 140 3 145 (.pointer none):=⟨by kernel_rfl,by kernel_rfl,λw=>by kernel_rfl,PlainV.nil (te:=151) (by kernel_rfl)⟩
theorem OI(x:Nat):FreeE (.ptr x 0 0):=λm c bs k=>by
 simp only[VC]at k;exact k.1
theorem TX(A B1 B2 C Z:List AC):(A++(B1++(B2++(C++Z)))).Perm (B1++(B2++((C++(A++[]))++Z))):=by
 rw[List.append_nil];have:=B5 A (B1++(B2++C)) Z;simpa[AP]using this
theorem Spec.tt{P:Program}{f:FuncId}{args:List AV}{S:List AC}{β:Type}{r:β->AV}{So:β->List AC}(h:Spec P f args S λr' S'=>∃q,r'=r q/\S'=So q):Spec P f args S λr' S'=>∃q,(λ_:β=>True) q/\r'=r q/\S'=So q:=h.mono λr' S' ⟨q,h⟩=>⟨q,trivial,h⟩
theorem Rg{ts:List Tab}{t:Tab}(h:t∈ts):∃R,(BL ts).Perm ([D7 t]++R):=by
 obtain⟨l1,l2,rfl⟩:=List.append_of_mem h;refine⟨(stE t.ek t.es++Bg t.cs)++(BL l1++BL l2),?_⟩;have:=DH (l1:=l1) (l2:=l2) (t:=t) [];simp only[List.append_nil]at this;exact this
theorem Uf(ts:List Tab)(t:Tab)(ht:t∈ts)(ks:List Int)(hl:t.ks.length<=1099511627776):Spec Tryz.prog 147 [.ptr t.X 0 0,AN false ks] (BL ts) λr S'=>r=iA (CU t.ks ks)/\S'=BL ts:=by
 obtain⟨R,hp⟩:=Rg ht;refine Spec.perm ((Vy t ks hl).beside R) hp λr S' hq=>?_
 obtain⟨S1,e1,e2,e3⟩:=hq;refine⟨BL ts,?_,e2,rfl⟩;rw[e1,e3];exact hp.symm
theorem LR(a:Ar)(e:Ent)(l:List Comp)(ha:ArOK a)(hne:Ej a.ts)(hn:0<=e.n/\e.n<256)(hf:e.n∉BN a.ts)(hl:l.length<=16):
  Spec Tryz.prog 73 [.ptr a.A 0 0,A6 e,Aw false false l] (arS a) λr S'=>∃b:Ar,(ArOK b/\Ej b.ts/\b.A=a.A/\b.kinds=a.kinds/\b.gens=a.gens/\(As b.ts).Perm (⟨e,l⟩::As a.ts))/\r= .tup []/\S'=arS b:=by
 obtain⟨ks,hks⟩:=nm (l.map (·.kind));have hkl:ks.length=l.length:=by rw[<-hks,AB]
 have hkm:(ks.map iA).length=ks.length:=AB _;have hko:=QC l (by omega);rw[hks]at hko;have htl:=ha.ts_le hne;have hsr:=Ph a.Tb a.ts Tab.X (BL a.ts) ks 147 (λt:Tab=>CU t.ks ks) (by omega) (λt ht=>Uf a.ts t ht ks (by have:=(ha.tab t ht).ks;omega));refine Sp (nt:=98) (res:=[]) Tryz.func73 λSf=>?_
 refine JE ?_;refine Ai λB=>?_;refine NL ?_
 refine JB ?_;refine WO ?_;refine AOps.g_callf ?_;refine AOps.c1 (h:=(hko ..)) (k:=?_);refine JD ?_;refine JB ?_;(iterate 5 refine WO ?_);refine AOps.gN ?_;refine D6 [_,_,_,_,_] (h:=hsr) λb hb=>?_;refine KO ?_
 obtain⟨i,fd⟩:=b;dsimp only
 skip
 refine AOps.nil ?_;refine JJ ?_;refine It (λz:Ar×List Tab×Tab×List Tab=>ArOK z.1/\z.1.ts=z.2.1++z.2.2.1::z.2.2.2/\z.2.2.1.ks=ks/\Ej z.2.1/\Ej z.2.2.2/\z.2.1.length=i/\z.1.A=a.A/\z.1.kinds=a.kinds/\z.1.gens=a.gens/\BN z.1.ts=BN a.ts/\As z.1.ts=As a.ts) (λz=>⟨[(0,.ptr a.A 0 0),(2,Aw false false l),(4,.ptr B 0 0),(7,iA i)],(B,.row 32 2 [A6 e])::(arS z.1++Sf)⟩) ?_ ?_
 ·cases fd with
  |true=>
   refine AA rfl rfl ?_;obtain⟨t,ht,hz⟩:=hb.eq.1 rfl;obtain⟨hi,rfl⟩:=List.getElem?_eq_some_iff.1 ht;obtain⟨l1,l2,e1,e2⟩:=Fb hi;have h1:Ej l1:=λu hu=>hne u (by rw[e1];simp[hu])
   have h2:Ej l2:=λu hu=>hne u (by rw[e1];simp[hu])
   refine KK ?_;refine jnR (a,l1,a.ts[i],l2) ⟨ha,e1,cmpL_zero.1 hz,h1,h2,e2,rfl,rfl,rfl,rfl,rfl⟩ ⟨by exact Lk.f,?_⟩;simp only[arS,BF,BD];exact List.Sublist.refl _
  |false=>
   refine AM rfl rfl ?_;refine JB ?_;refine WO ?_;refine AOps.gN ?_;refine WB (C:=λ_=>True) [] (h:=newE_sp.mono λr' S' ⟨k,e1,e2⟩=>⟨k,trivial,e1,e2⟩) λek _=>?_;refine KO ?_;refine Ai λX=>?_;refine WO ?_
   refine AOps.nil ?_;refine FL ?_;refine AWP.adoptIn (Y:=X) 252 1 .here (λC=>.cons (.agg (.cons .same (.cons .same (.cons (.base .nil) .nil)))) .nil) λC=>?_
   refine JM ?_;refine AWP.front ek.M ?_;refine AWP.front ek.R ?_;refine AWP.front ek.V ?_;refine AWP.front ek.X ?_;refine AWP.front B ?_;refine AWP.front X ?_;refine AWP.front C ?_;refine Dd (λ(j C:Nat) (cs:List (StK×List (Int×List Int)))=>⟨[(0,.ptr a.A 0 0),(2,Aw false false l),(4,.ptr B 0 0),(6,AN false ks),(7,iA i),(9,.ptr X 0 0),(31,iA (ks.map iA).length),(32,iA j)],(C,.row 252 1 (cs.map λc=>.ptr c.1.X 0 0))::(X,.row 151 3 [.agg [AN false ks,.ptr ek.X 0 0,.sl C 0 cs.length]])::(B,.row 32 2 [A6 e])::(stE ek []++(arH a++(Bg cs++(BL a.ts++Sf))))⟩) (λj C cs=>j<=ks.length/\cs.length=j/\∀c∈cs,c.2=[]) (λj _ _=>ks.length-j) 0 C [] ⟨by omega,rfl,by simp⟩ ?_;rintro j C cs ⟨hj,hcl,hce⟩;have hpl:(cs.map λc=>AV.ptr c.1.X 0 0).length=cs.length:=AB _;refine JM ?_;refine AWP.cond rfl (λh=>?_) (λh=>?_)
   ·have h:j<ks.length:=by rw[AF,hkm]at h;omega
    refine FL ?_;refine AWP.rs λY1=>AWP.rs λY2=>AWP.rs λY3=>AWP.rs λY4=>AWP.rs λY5=>?_
    (repeat refine WF ?_);refine Je (by kernel_rfl) (by kernel_rfl) ?_;(repeat refine RGoE.go ?_);refine V1 Y1 Y2 Y3 Y4 ⟨0,0,0,0⟩ VO λk=>?_
    refine RGo.g_lit ?_;refine RGo.goL (AV.ptr k.X 0 0) ?_;(iterate 4 refine RK ?_);refine RGo.nil (by kernel_rfl) ?_;have hma:(cs.map λc=>AV.ptr c.1.X 0 0)++[AV.ptr k.X 0 0]=(cs++[(k,([]:List (Int×List Int)))]).map λc=>AV.ptr c.1.X 0 0:=by rw[List.map_append];rfl
    have hml:cs.length+[AV.ptr k.X 0 0].length=(cs++[(k,([]:List (Int×List Int)))]).length:=by rw[AL];rfl
    rw[hma,hml];refine FL ?_;refine AWP.front k.M ?_;refine AWP.front k.R ?_;refine AWP.front k.V ?_;refine AWP.front k.X ?_;refine AWP.front B ?_;refine AWP.front C ?_;refine AWP.front X ?_;refine AWP.front Y5 ?_;refine AWP.perm (S':=(Y5,.row 252 1 ((cs++[(k,([]:List (Int×List Int)))]).map λc=>AV.ptr c.1.X 0 0))::(X,.row 151 3 [.agg [AN false ks,.ptr ek.X 0 0,.sl Y5 0 (cs++[(k,([]:List (Int×List Int)))]).length]])::(C,.used)::(B,.row 32 2 [A6 e])::(stE ek []++(arH a++(Bg (cs++[(k,([]:List (Int×List Int)))])++(BL a.ts++Sf))))) ?_ ?_
    ·refine List.Perm.cons _ (List.Perm.cons _ (List.Perm.cons _ (List.Perm.cons _ ?_)))
     rw[DM,DE];exact TX (stS k []) (stE ek []) (arH a) (Bg cs) (BL a.ts++Sf)
    ·refine R1 ?_
     exact CK (j+1) Y5 (cs++[(k,[])]) ⟨by omega,by rw[AL,hcl];rfl,λc hc=>by
      rcases List.mem_append.1 hc with hc|hc
      ·exact hce c hc
      ·rw[BP]at hc;subst hc;rfl⟩ (by omega)
   ·have h:j=ks.length:=by rw[AQ,hkm]at h;omega
    have hF:AV.frzs (((cs.map λc=>AV.ptr c.1.X 0 0).drop 0).take cs.length)=cs.map λc=>AV.ptr c.1.X 0 0:=by
     rw[List.drop_zero,List.take_of_length_le (by omega),ET,List.map_map];rfl
    refine FL ?_;refine AWP.iceIn (X:=C) (Y:=X) .here (.next .here) rfl (.cons (.agg (.cons .same (.cons .same (.cons (.base (.sl (by omega))) .nil)))) .nil) ?_;rw[hF];have hi:=hb.le;dsimp only at hi;have hpt:(ptrs Tab.X a.ts).length=a.ts.length:=AB _;refine AWP.rs λY=>AWP.rs λK2=>?_
    refine RG ?_;(iterate 7 refine WO ?_);refine AOps.gN ?_;refine AOps.s (W.lit1 (X:=K2) (l:=[.ptr X 0 0]) (by exact rfl) (by exact At.f) (by exact rfl) (by exact .inr rfl) (by decide) (by decide) (by exact rfl)) rfl ?_;have hfq:FreeL (ptrs Tab.X a.ts):=λx hx=>by obtain⟨y,_,rfl⟩:=List.mem_map.1 hx;exact OI _
    have hwq:∀x∈ptrs Tab.X a.ts,x.width=1:=λx hx=>by obtain⟨y,_,rfl⟩:=List.mem_map.1 hx;rfl
    have hins:=(QG a.Tb K2 a.ts.length i (ptrs Tab.X a.ts) (.ptr X 0 0) hpt.symm hi (by omega) hfq (OI _) hwq rfl rfl).used2;refine V7 (h:=hins) (hT:=.ls (Y:=Y)) (k:=?_);refine KO ?_;obtain⟨t',ht'⟩:∃t':Tab,t'=⟨X,ks,ek,[],cs⟩:=⟨_,rfl⟩
    have hrow:(ptrs Tab.X a.ts).take i++ .ptr X 0 0::(ptrs Tab.X a.ts).drop i=ptrs Tab.X (a.ts.take i++t'::a.ts.drop i):=by
     rw[ptrs,ptrs,List.map_append,List.map_take,List.map_cons,List.map_drop,ht']
    have hrl:(ptrs Tab.X (a.ts.take i++t'::a.ts.drop i)).length=(a.ts.take i++t'::a.ts.drop i).length:=AB _;rw[hrow,hrl];dsimp only[AX,List.set_cons_zero,List.set_cons_succ,BF,BD];refine AOps.front ek.M ?_;refine AOps.front ek.R ?_;refine AOps.front ek.V ?_;refine AOps.front ek.X ?_;refine AOps.front X ?_;refine AOps.front Y ?_;refine AOps.front a.Tv ?_;refine AOps.front a.O ?_;refine AOps.front a.G ?_;refine AOps.front a.A ?_;refine AOps.front B ?_;refine AOps.front a.Tb ?_;refine AOps.front C ?_;refine AOps.front K2 ?_;obtain⟨a',ha'⟩:∃a':Ar,a'={a with Tb:=Y,ts:=a.ts.take i++t'::a.ts.drop i}:=⟨_,rfl⟩
    have htok:TabOK t':=by
     rw[ht'];exact⟨by dsimp only;omega,by dsimp only;omega,⟨List.nodup_nil,by simp⟩,λc hc=>by rw[hce c hc];exact⟨List.nodup_nil,by simp⟩,λc hc n=>by rw[hce c hc];exact Iff.rfl⟩
    have hte:t'.es=[]:=by rw[ht']
    have htk:t'.ks=ks:=by rw[ht']
    have hb':Found (λu:Tab=>CU u.ks t'.ks) a.ts (i,false):=by rw[htk];exact hb
    have hok:ArOK a':=by rw[ha'];exact ha.newT htok hte hb'
    refine AOps.perm (S':=(K2,.used)::(C,.used)::(a.Tb,.used)::(B,.row 32 2 [A6 e])::(arS a'++Sf)) ?_ ?_
    ·refine List.Perm.cons _ (List.Perm.cons _ (List.Perm.cons _ (List.Perm.cons _ ?_)))
     subst ha';refine List.Perm.cons _ (List.Perm.cons _ (List.Perm.cons _ (List.Perm.cons _ (List.Perm.cons _ ?_))));have hz:=DH (l1:=a.ts.take i) (l2:=a.ts.drop i) (t:=t') Sf;have hz2:BL (a.ts.take i)++(BL (a.ts.drop i)++Sf)=BL a.ts++Sf:=by rw[<-AP,<-Gj,List.take_append_drop]
     rw[hz2]at hz;subst ht';exact hz.symm
    ·refine AOps.nil ?_
     refine FL ?_;subst ha';refine jnR ({a with Tb:=Y,ts:=a.ts.take i++t'::a.ts.drop i},a.ts.take i,t',a.ts.drop i) ⟨hok,rfl,htk,λu hu=>hne u (List.mem_of_mem_take hu),λu hu=>hne u (List.mem_of_mem_drop hu),by rw[Ah];omega,rfl,rfl,rfl,SG hte,QD hte⟩ ⟨by exact Lk.f,?_⟩;exact .cons _ (.cons _ (.cons _ (.refl _)))
 ·rintro⟨a',l1,t,l2⟩ ⟨hok,hts,htk,hn1,hn2,hil,hA,hki,hge,hke,hit⟩
  dsimp only at hok hts htk hn1 hn2 hil hA hki hge hke hit⊢;rw[<-hA];obtain⟨Z,hZ⟩:=nm (BL l1++(BL l2++Sf));have hop:=DH (l1:=l1) (l2:=l2) (t:=t) Sf;rw[<-hts,hZ]at hop;refine AWP.perm (S':=(B,.row 32 2 [A6 e])::(arH a'++(Ec t++Z))) ?_ ?_
  ·refine List.Perm.cons _ ?_
   rw[arS,AP];exact hop.append_left _
  have htm:t∈a'.ts:=by rw[hts];simp
  have hto:=hok.tab t htm
  have hat:(ptrs Tab.X a'.ts)[i]?=some (.ptr t.X 0 0):=by
   rw[AG,hts,List.getElem?_append_right (by omega),hil,Nat.sub_self];rfl
  have hil2:i<a'.ts.length:=by rw[hts,AL,Bm];omega
  have hft:e.n∉AJ t.es:=λhm=>hf (by rw[<-hke];exact List.mem_flatMap.2 ⟨t,htm,hm⟩)
  have hpe:=(UR t.ek t.es hto.es e.n e hn).tt;have hlm:(l.map (AH false)).length=l.length:=AB _;have hlc:t.cs.length=l.length:=by rw[<-hto.len,htk,hkl]
  refine JB ?_;(iterate 5 refine WO ?_);refine AOps.gN ?_;refine AOps.go (h:=W.idx rfl rfl (by exact At.f) rfl (by omega) (Nat.zero_add _)) (k:=?_);refine JF ?_;refine FL ?_;(repeat refine WF ?_);refine Db 7 (by kernel_rfl) (by kernel_rfl) (by kernel_rfl) ?_;dsimp only[List.take,List.drop];(iterate 7 refine RK ?_);refine RGo.nil (by kernel_rfl) ?_;refine D6 [_,_,_,_,_,_,_] (h:=hpe) λq _=>?_
  refine AOps.nil ?_;obtain⟨k',hk'⟩:∃k':StK,k'=⟨t.ek.X,q.1,q.2,t.ek.M⟩:=⟨_,rfl⟩;rw[<-hk'];refine JJ ?_;refine BZ (λ(j:Nat) (cs:List (StK×List (Int×List Int)))=>⟨[(0,.ptr a'.A 0 0),(4,.ptr B 0 0),(10,.ptr t.X 0 0),(71,Aw false false l),(72,iA (l.map (AH false)).length),(73,iA j)],(B,.row 32 2 [A6 e])::(arH a'++(D7 t::(stE k' (Bl t.es e.n e)++(Bg cs++Z))))⟩) (λj cs=>j<=l.length/\CsUp e.n l j t.cs cs) (λj _=>l.length-j) 0 t.cs ⟨by omega,.zero _ _ _⟩ ?_;rintro j cs ⟨hj,hcs⟩;have hcl:=hcs.len;have hcp:=hcs.ptrs;refine JM ?_;refine AWP.cond rfl (λh=>?_) (λh=>?_)
  ·have h:j<l.length:=by rw[AF,hlm]at h;omega
   have hjc:j<cs.length:=by omega
   have hjt:j<t.cs.length:=by omega
   have hlat:(l.map (AH false))[j]?=some (AH false l[j]):=BB _ h;have hlil:j<(l.map (AH false)).length:=by omega
   have hcat:(t.cs.map λc=>AV.ptr c.1.X 0 0)[j]?=some (.ptr cs[j].1.X 0 0):=by rw[<-hcp];exact BB _ hjc
   have hcil:j<(t.cs.map λc=>AV.ptr c.1.X 0 0).length:=by rw[AB];omega
   have hcj:cs[j].2=t.cs[j].2:=by rw[hcs.c j hjt hjc,if_neg (by omega)]
   have hcok:ColOK cs[j].2:=by rw[hcj];exact hto.cs _ (AK hjt)
   obtain⟨m1,m2,hsp,hm1⟩:=Fb hjc;have hlj:l[j]?=some l[j]:=AE h;obtain⟨⟨ck,cv⟩,hce⟩:=nm (l[j]);rw[hce]at hlat hlj;obtain⟨c,hcc⟩:=nm (cs[j]);rw[hcc]at hcat hcok hsp;have hpu:=(Ow c.1 c.2 hcok e.n cv hn).tt;refine JK ?_;refine Ai λC=>?_;refine JF ?_
   refine FL ?_
   have heq:(C,AO.row 42 2 [AH false ⟨ck,cv⟩])::(B,AO.row 32 2 [A6 e])::(arH a'++(D7 t::(stE k' (Bl t.es e.n e)++(Bg cs++Z))))=((C,AO.row 42 2 [AH false ⟨ck,cv⟩])::(B,AO.row 32 2 [A6 e])::(arH a'++(D7 t::(stE k' (Bl t.es e.n e)++Bg m1))))++(stS c.1 c.2++(Bg m2++Z)):=by
    rw[hsp,DM,DE];simp only[BF,AP,BD]
   (repeat refine WF ?_);refine Db 11 (by kernel_rfl) (by kernel_rfl) (by kernel_rfl) ?_;dsimp only[List.take,List.drop];(iterate 11 refine RK ?_);refine RGo.nil (by kernel_rfl) ?_;refine D6 _ (h:=hpu) (k:=λq2 _=>?_) (hp:=heq)
   have heq2:((C,AO.row 42 2 [AH false ⟨ck,cv⟩])::(B,AO.row 32 2 [A6 e])::(arH a'++(D7 t::(stE k' (Bl t.es e.n e)++Bg m1))))++(stS ⟨c.1.X,q2.1,q2.2,c.1.M⟩ (Bl c.2 e.n cv)++(Bg m2++Z))=(C,AO.row 42 2 [AH false ⟨ck,cv⟩])::(B,AO.row 32 2 [A6 e])::(arH a'++(D7 t::(stE k' (Bl t.es e.n e)++(Bg (m1++((⟨c.1.X,q2.1,q2.2,c.1.M⟩:StK),Bl c.2 e.n cv)::m2)++Z)))):=by
    rw[DM,DE];simp only[BF,AP,BD]
   refine AOps.perm (List.Perm.of_eq heq2) ?_;refine AOps.nil ?_;refine JC ?_;exact A8 (j+1) (m1++((⟨c.1.X,q2.1,q2.2,c.1.M⟩:StK),Bl c.2 e.n cv)::m2) ⟨by omega,hcs.next hsp hm1 (by rw[hlj];rfl) _ rfl⟩ (by omega)
  ·have h:j=l.length:=by rw[AQ,hlm]at h;omega
   subst h;rw[<-hlc]at hcs;have hfa:e.n∉BN a'.ts:=by rw[hke];exact hf
   have hgn:a'.g e.n=none:=by
    cases hg:a'.g e.n with
    |none=>rfl
    |some u=>
     obtain⟨w,hw,h2,_⟩:=hok.g _ _ hg;exact absurd (List.mem_flatMap.2 ⟨w,hw,h2⟩) hfa
   have hsz:(if(a'.g e.n).isSome then a'.c else a'.c+1)=a'.c+1:=by rw[hgn];rfl
   have hmx:a'.c<maxLen:=by have:=hok.c_le;unfold maxLen;omega
   refine FL ?_;refine AWP.namePtr (X:=t.X) 10 (λb=>?_);obtain⟨K',hK'⟩:∃K':AV->Value->Prop,K'=λv u=>a'.K v u\/(v= .ptr t.X 0 0/\u= .pointer (some ⟨b,0,none⟩)):=⟨_,rfl⟩
   rw[<-hK'];refine AWP.perm (S':=(B,.row 32 2 [A6 e])::(arH {a' with ts:=l1++upT t k' e cs::l2,K:=K'}++(BL (l1++upT t k' e cs::l2)++Sf))) ?_ ?_
   ·refine List.Perm.cons _ ?_
    have hln:(l1++upT t k' e cs::l2).length=a'.ts.length:=by rw[hts];simp
    have hpr:ptrs Tab.X (l1++upT t k' e cs::l2)=ptrs Tab.X a'.ts:=by rw[hts,ptrs,ptrs,List.map_append,List.map_append,List.map_cons,List.map_cons]
    show List.Perm ([(a'.A,.row 143 4 [.agg [An false false a'.kinds,.sl a'.G 0 a'.gens.length,.sl a'.Tb 0 a'.ts.length,.mp a'.O]]),(a'.G,.row 3 1 (a'.gens.map iA)),(a'.O,.ob (MapF Tryz.prog 3 145 a'.g a'.c)),(a'.Tv,.tv K'),(a'.Tb,.row 145 1 (ptrs Tab.X a'.ts))]++(D7 t::(stE k' (Bl t.es e.n e)++(Bg cs++Z)))) ([(a'.A,.row 143 4 [.agg [An false false a'.kinds,.sl a'.G 0 a'.gens.length,.sl a'.Tb 0 (l1++upT t k' e cs::l2).length,.mp a'.O]]),(a'.G,.row 3 1 (a'.gens.map iA)),(a'.O,.ob (MapF Tryz.prog 3 145 a'.g a'.c)),(a'.Tv,.tv K'),(a'.Tb,.row 145 1 (ptrs Tab.X (l1++upT t k' e cs::l2)))]++(BL (l1++upT t k' e cs::l2)++Sf))
    rw[hln,hpr];refine List.Perm.append_left _ ?_;refine List.Perm.trans ?_ (DH (l1:=l1) (l2:=l2) (t:=upT t k' e cs) Sf).symm;rw[hZ];refine List.Perm.of_eq ?_;have hkx:k'.X=t.ek.X:=by rw[hk']
    show _=((t.X,AO.row 151 3 [.agg [AN false t.ks,.ptr k'.X 0 0,O3 cs]])::(stE k' (Bl t.es e.n e)++Bg cs))++Z
    rw[hkx,O3,hcp];rfl
   ·refine RU ?_;(iterate 7 refine RK ?_);refine RGo.gN ?_;refine RGo.goS (h:=W.mapUpd (PlainV.ptr (te:=151) (by kernel_rfl) b) (by omega) hmx rfl rfl rfl (by exact At.f)) (k:=?_);refine RGo.nil (by kernel_rfl) ?_
    rw[hsz];have hup:ArOK {a' with ts:=l1++upT t k' e cs::l2,K:=K',g:=EO a'.g e.n (.pointer (some ⟨b,0,none⟩)),c:=a'.c+1}:=hok.up hts hn hfa hcs (λv u h=>by rw[hK'];exact .inl h) (by rw[hK'];exact .inr ⟨rfl,rfl⟩);have hitm:=Ty (l1:=l1) (l2:=l2) (k:=k') hto hn hft (htk.trans hks.symm) hcs;rw[<-hts,hit]at hitm;refine C9 ?_;exact Ends.sp [] (arS {a' with ts:=l1++upT t k' e cs::l2,K:=K',g:=EO a'.g e.n (.pointer (some ⟨b,0,none⟩)),c:=a'.c+1}) ⟨_,⟨hup,W9 hn1 hn2 hft,rfl,hki,hge,hitm⟩,rfl,rfl⟩
def E3(a:Ar)(l1 l2:List Tab)(t:Tab)(n:Int)(Y:Nat):Ar:=if(BV t.es n).length=0 then{a with Tb:=Y,ts:=l1++l2,g:=Fm a.g n,c:=a.c-1}else{a with ts:=l1++Ds t n::l2,g:=Fm a.g n,c:=a.c-1}
theorem KZ{a:Ar}(h:ArOK a)(hne:Ej a.ts){l1 l2:List Tab}{t:Tab}(hts:a.ts=l1++t::l2){n:Int}{e:Ent}(hm:(n,e)∈t.es)(Y:Nat):ArOK (E3 a l1 l2 t n Y)/\Ej (E3 a l1 l2 t n Y).ts/\(E3 a l1 l2 t n Y).A=a.A/\(E3 a l1 l2 t n Y).kinds=a.kinds/\(E3 a l1 l2 t n Y).gens=a.gens/\(As a.ts).Perm (⟨e,Aa t n⟩::As (E3 a l1 l2 t n Y).ts):=by
 have h1:=h.down hts hm;have h2:=Kf h hts hm;unfold E3;split
 ·rename_i h0
  have h0:(Ds t n).es=[]:=List.eq_nil_of_length_eq_zero h0;refine⟨h1.less (Y:=Y) rfl h0,λu hu=>hne u ?_,rfl,rfl,rfl,by rw[QE h0]at h2;exact h2⟩;rw[hts];rcases List.mem_append.1 hu with hu|hu<;>simp[hu]
 ·rename_i h0
  refine⟨h1,λu hu=>?_,rfl,rfl,rfl,h2⟩;rcases List.mem_append.1 hu with hu|hu
  ·exact hne u (by rw[hts];simp[hu])
  ·rcases List.mem_cons.1 hu with rfl|hu
   ·exact λe2=>h0 (by rw[show BV t.es n=[]from e2];rfl)
   ·exact hne u (by rw[hts];simp[hu])
theorem Re(P X:Nat)(l:List AV)(h0:0<l.length)(R:List AC):Spec Tryz.prog 301 [.ptr X 0 0,.ptr P 0 0] ((P,.row 145 1 [.ptr X 0 0])::(X,.row 151 3 l)::R) λr S'=>r=bA true/\S'=(P,.row 145 1 [.ptr X 0 0])::(X,.row 151 3 l)::R:=by
 refine Sp (nt:=7) (res:=[.tmp 3]) Tryz.func301 λSf=>?_
 refine R1 ?_;refine JH ?_;refine AOps.gN ?_;refine AOps.go (h:=W.eqPtrS h0 rfl rfl (by exact At.f)) (k:=?_);refine JD ?_;refine RT ?_;exact Ends.sp [bA true] ((P,.row 145 1 [.ptr X 0 0])::(X,.row 151 3 l)::R) ⟨rfl,rfl⟩
theorem TG(P X Y:Nat)(l l2:List AV)(h0:0<l.length)(h1:0<l2.length)(R:List AC):Spec Tryz.prog 301 [.ptr Y 0 0,.ptr P 0 0] ((P,.row 145 1 [.ptr X 0 0])::(X,.row 151 3 l)::(Y,.row 151 3 l2)::R) λr S'=>r=bA false/\S'=(P,.row 145 1 [.ptr X 0 0])::(X,.row 151 3 l)::(Y,.row 151 3 l2)::R:=by
 refine Sp (nt:=7) (res:=[.tmp 3]) Tryz.func301 λSf=>?_
 refine R1 ?_;refine JH ?_;refine AOps.gN ?_;refine AOps.go (h:=W.eqPtrD (p:=2) (q:=1) h1 h0 rfl rfl (.next (.next .here)) (.next .here) (by decide)) (k:=?_);refine JD ?_;refine RT ?_;exact Ends.sp [bA false] ((P,.row 145 1 [.ptr X 0 0])::(X,.row 151 3 l)::(Y,.row 151 3 l2)::R) ⟨rfl,rfl⟩
theorem Rh{us:List Tab}{x:Tab}(h:x∈us):∃Z,(BL us).Perm (D7 x::Z):=by
 obtain⟨m1,m2,rfl⟩:=List.append_of_mem h;have:=DH (l1:=m1) (l2:=m2) (t:=x) [];rw[List.append_nil]at this;exact⟨_,this⟩
theorem Rf(P:Nat)(l1 l2:List Tab)(t:Tab)(ho:(l1++t::l2).Pairwise λx y:Tab=>CU x.ks y.ks<0):∀x∈l1++t::l2,Spec Tryz.prog 301 (.ptr x.X 0 0::[.ptr P 0 0]) ((P,.row 145 1 [.ptr t.X 0 0])::(Ec t++(BL l1++BL l2))) λr S'=>r=bA (decide (x.ks=t.ks))/\S'=(P,.row 145 1 [.ptr t.X 0 0])::(Ec t++(BL l1++BL l2)):=by
 intro x hx
 have hd:x∈l1++l2->x.ks≠t.ks:=λh e=>by
  have h1:CU x.ks t.ks=0:=cmpL_zero.2 e;have h2:CU t.ks x.ks=0:=cmpL_zero.2 e.symm;rw[List.pairwise_append]at ho;rcases List.mem_append.1 h with h|h
  ·have:=ho.2.2 x h t (by simp);omega
  ·have:=(List.pairwise_cons.1 ho.2.1).1 x h;omega
 have hc:x=t\/x∈l1++l2:=by
  rcases List.mem_append.1 hx with h|h
  ·exact .inr (by simp[h])
  ·rcases List.mem_cons.1 h with h|h
   ·exact .inl h
   ·exact .inr (by simp[h])
 rcases hc with rfl|hc
 ·rw[Ae rfl]
  exact Re P x.X _ (by exact Nat.zero_lt_succ _) _
 ·rw[AY (hd hc)]
  obtain⟨Z,hZ⟩:=Rh hc;rw[Gj]at hZ
  have hp:((P,AO.row 145 1 [.ptr t.X 0 0])::(Ec t++(BL l1++BL l2))).Perm ((P,.row 145 1 [.ptr t.X 0 0])::D7 t::D7 x::((stE t.ek t.es++Bg t.cs)++Z)):=by
   refine List.Perm.cons _ (List.Perm.cons _ ?_);refine(hZ.append_left (stE t.ek t.es++Bg t.cs)).trans ?_;exact B5 (stE t.ek t.es++Bg t.cs) [D7 x] Z
  exact(TG P t.X x.X _ _ (by exact Nat.zero_lt_succ _) (by exact Nat.zero_lt_succ _) _).perm hp λr S' ⟨h1,h2⟩=>⟨_,by rw[h2];exact hp.symm,h1,rfl⟩
theorem M6(a:Ar)(ha:ArOK a)(hne:Ej a.ts){l1 l2:List Tab}{t:Tab}(hts:a.ts=l1++t::l2){n:Int}(hnk:n∈AJ t.es):Spec Tryz.prog 286 [.ptr a.A 0 0,iA n] (arS a) λr S'=>∃Y:Nat,True/\r= .lst true 42 2 ((Aa t n).map (AH false))/\S'=arS (E3 a l1 l2 t n Y):=by
 have htm:t∈a.ts:=by rw[hts];simp
 have hto:=ha.tab t htm;have hnl:=hto.es.lt n hnk;have hn:I64 n:=by constructor<;>omega
 have hsm:=ha.gn n (List.mem_flatMap.2 ⟨t,htm,hnk⟩);obtain⟨u,hu⟩:∃u,a.g n=some u:=Option.isSome_iff_exists.1 hsm;obtain⟨w,hw,hwn,hK,b,hb⟩:=ha.g n u hu;have hwt:=ha.uniq hw htm hwn hnk;subst hwt;have hgd:(a.g n).getD (.pointer none)=u:=by rw[hu];rfl
 have hone:u.oneCell'=true:=by rw[hb];rfl
 have hcs:=Oz w n hto hn hnk;have hdE:=UM w.ek w.es hto.es n hn;have hlE:=US w.ek (BV w.es n);have hc16:w.cs.length<=16:=by have:=hto.ks;have:=hto.len;omega
 have hcpl:(w.cs.map λc=>AV.ptr c.1.X 0 0).length=w.cs.length:=AB _;have hsz:(if(a.g n).isSome then a.c-1 else a.c)=a.c-1:=by rw[hsm];rfl
 obtain⟨⟨m,e⟩,hm,he⟩:=List.mem_map.1 hnk;have he:m=n:=he;rw[he]at hm;have hdn:=ha.down hts hm;obtain⟨w',hw'⟩:∃w',w'=Ds w n:=⟨_,rfl⟩;have htl:=ha.ts_le hne;have hhd:D7 w=D7 w':=by rw[hw'];show(w.X,AO.row 151 3 [.agg [AN false w.ks,.ptr w.ek.X 0 0,O3 w.cs]])=(w.X,AO.row 151 3 [.agg [AN false w.ks,.ptr w.ek.X 0 0,O3 (w.cs.map (GG n))]]);rw[O3,O3,List.map_map];rfl
 have hln:a.ts.length=(l1++w'::l2).length:=by rw[hts];simp
 have hpr:ptrs Tab.X a.ts=ptrs Tab.X (l1++w'::l2):=by rw[hts,hw',ptrs,ptrs,List.map_append,List.map_append,List.map_cons,List.map_cons]
 have hflt:(l1++w'::l2).filter (λx=>!decide (x.ks=w'.ks))=l1++l2:=by
  have ho:(l1++w'::l2).Pairwise λx y:Tab=>CU x.ks y.ks<0:=by rw[hw'];exact hdn.ord
  have hd:∀x∈l1++l2,x.ks≠w'.ks:=λx h e=>by
   have h1:CU x.ks w'.ks=0:=cmpL_zero.2 e;have h2:CU w'.ks x.ks=0:=cmpL_zero.2 e.symm;rw[List.pairwise_append]at ho;rcases List.mem_append.1 h with h|h
   ·have:=ho.2.2 x h w' (by simp);omega
   ·have:=(List.pairwise_cons.1 ho.2.1).1 x h;omega
  rw[List.filter_append,List.filter_cons_of_neg (by simp),<-List.filter_append,List.filter_eq_self];intro x hx;simp[hd x hx]
 refine Sp (nt:=58) (res:=[.tmp 4]) Tryz.func286 λSf=>?_
 obtain⟨Z,hZ⟩:=nm (BL l1++(BL l2++Sf));have hop:=DH (l1:=l1) (l2:=l2) (t:=w) Sf;rw[<-hts,hZ]at hop;refine R1 ?_;refine AWP.perm (S':=arH a++(Ec w++Z)) ?_ ?_
 ·rw[arS,AP]
  exact hop.append_left _
 refine JB ?_;(repeat first|(refine AOps.gN ?_;first|refine AOps.asPtr 14 (.ptr w.X 0 0) hK ?_|refine AOps.go (h:=IC _ hgd hn rfl rfl (by exact At.f) hone) (k:=?_))|refine WO ?_|refine Ai λP5=>?_|refine Ay λY=>?_);refine NL ?_;refine JH ?_;refine AOps.gN ?_;refine PH [_,_,_,_,_,_] (h:=hcs) (k:=λK=>?_);refine JD ?_;refine AWP.perm (S':=(K,.row 42 2 ((Aa w n).map (AH false)))::(P5,.row 145 1 [.ptr w.X 0 0])::(arH a++(D7 w::(stE w.ek w.es++(Bg w.cs++Z))))) (List.Perm.of_eq (by first|rfl|(simp only[BF,AP,BD];done)|(simp only[BF,AP,BD];rfl))) ?_;rw[AB];refine JB ?_;(iterate 5 refine WO ?_);refine AOps.gN ?_;refine EN [_,_,_,_,_,_,_,_] (h:=hdE) (k:=?_);refine NL ?_;refine JJ ?_;refine BJ (λ(j:Nat)=>⟨[(0,.ptr a.A 0 0),(1,iA n),(5,.ptr P5 0 0),(6,.sl K 0 (Aa w n).length),(27,O3 w.cs),(28,iA (w.cs.map λc=>AV.ptr c.1.X 0 0).length),(29,iA j)],(K,.row 42 2 ((Aa w n).map (AH false)))::(P5,.row 145 1 [.ptr w.X 0 0])::(arH a++(D7 w::(stE w.ek (BV w.es n)++(Bg ((w.cs.take j).map (GG n)++w.cs.drop j)++Z))))⟩) (λj=>j<=w.cs.length) (λj=>w.cs.length-j) 0 (by omega) ?_;rintro j hj;refine JM ?_;refine AWP.cond rfl (λh=>?_) (λh=>?_)
 ·have h:j<w.cs.length:=by rw[AF,hcpl]at h;omega
  have hcat:(w.cs.map λc=>AV.ptr c.1.X 0 0)[j]?=some (.ptr w.cs[j].1.X 0 0):=BB _ h;have hcil:j<(w.cs.map λc=>AV.ptr c.1.X 0 0).length:=by omega
  have hcok:=hto.cs _ (AK h);have hdj:w.cs.drop j=w.cs[j]::w.cs.drop (j+1):=(List.getElem_cons_drop h).symm;have htj:(w.cs.take (j+1)).map (GG n)=(w.cs.take j).map (GG n)++[GG n w.cs[j]]:=by rw[List.take_succ_eq_append_getElem h,List.map_append];rfl
  obtain⟨c,hcc⟩:=nm (w.cs[j]);rw[hcc]at hcat hcok hdj htj;have hdS:=UK c.1 c.2 hcok n hn
  have heq:(K,AO.row 42 2 ((Aa w n).map (AH false)))::(P5,AO.row 145 1 [.ptr w.X 0 0])::(arH a++(D7 w::(stE w.ek (BV w.es n)++(Bg ((w.cs.take j).map (GG n)++w.cs.drop j)++Z))))=((K,AO.row 42 2 ((Aa w n).map (AH false)))::(P5,AO.row 145 1 [.ptr w.X 0 0])::(arH a++(D7 w::(stE w.ek (BV w.es n)++Bg ((w.cs.take j).map (GG n))))))++(stS c.1 c.2++(Bg (w.cs.drop (j+1))++Z)):=by
   rw[hdj,DM,DE];simp only[BF,AP,BD]
  have heq2:((K,AO.row 42 2 ((Aa w n).map (AH false)))::(P5,AO.row 145 1 [.ptr w.X 0 0])::(arH a++(D7 w::(stE w.ek (BV w.es n)++Bg ((w.cs.take j).map (GG n))))))++(stS c.1 (BV c.2 n)++(Bg (w.cs.drop (j+1))++Z))=(K,AO.row 42 2 ((Aa w n).map (AH false)))::(P5,AO.row 145 1 [.ptr w.X 0 0])::(arH a++(D7 w::(stE w.ek (BV w.es n)++(Bg ((w.cs.take (j+1)).map (GG n)++w.cs.drop (j+1))++Z)))):=by
   rw[htj,DM,DM,DE];simp only[BF,AP,BD,Bg,List.flatMap_nil]
  refine JC ?_;refine JH ?_;refine AOps.gN ?_;refine EN _ (h:=hdS) (k:=?_) (hp:=heq);refine NL ?_;refine AWP.perm (List.Perm.of_eq heq2) ?_;refine R1 ?_;exact Af (j+1) (by omega)
 ·have h:j=w.cs.length:=by rw[AQ,hcpl]at h;omega
  subst h;rw[List.take_length,List.drop_length,List.append_nil];refine JB ?_;(iterate 5 refine WO ?_);refine AOps.gN ?_;refine AOps.goS (h:=W.mapDel hn rfl rfl (by exact At.f)) (k:=?_);refine NL ?_;rw[hsz];refine JB ?_;(iterate 4 refine WO ?_);refine AOps.gN ?_;refine RV [_,_,_,_,_,_,_,_] (h:=hlE) (k:=?_);refine JD ?_;have hst:stE w.ek (BV w.es n)++(Bg (w.cs.map (GG n))++Z)=(stE w'.ek w'.es++Bg w'.cs)++Z:=by rw[hw',AP]
  have hXX:w.X=w'.X:=by rw[hw']
  have hlw:(BV w.es n).length=w'.es.length:=by rw[hw']
  rw[hst,hhd,hln,hpr,hXX];refine AWP.cond rfl (λh0=>?_) (λh0=>?_)
  ·have h0:(BV w.es n).length=0:=by rw[AF]at h0;omega
   have hdel:=QS a.Tb (l1++w'::l2) Tab.X ((P5,.row 145 1 [.ptr w'.X 0 0])::(Ec w'++(BL l1++BL l2))) 301 [.ptr P5 0 0] (λx=>decide (x.ks=w'.ks)) rfl (by rw[<-hln];omega) (Rf P5 l1 l2 w' (by rw[hw'];exact hdn.ord));rw[hflt]at hdel;rw[<-hZ];refine AWP.perm (S':=(K,.row 42 2 ((Aa w n).map (AH false)))::(a.A,.row 143 4 [.agg [An false false a.kinds,.sl a.G 0 a.gens.length,.sl a.Tb 0 (l1++w'::l2).length,.mp a.O]])::(a.G,.row 3 1 (a.gens.map iA))::(a.O,.ob (MapF Tryz.prog 3 145 (Fm a.g n) (a.c-1)))::(a.Tv,.tv a.K)::(((a.Tb,.row 145 1 (ptrs Tab.X (l1++w'::l2)))::((P5,.row 145 1 [.ptr w'.X 0 0])::(Ec w'++(BL l1++BL l2))))++Sf)) ?_ ?_
   ·refine List.Perm.cons _ ?_
    have h1:=B5 [(a.A,AO.row 143 4 [.agg [An false false a.kinds,.sl a.G 0 a.gens.length,.sl a.Tb 0 (l1++w'::l2).length,.mp a.O]]),(a.G,.row 3 1 (a.gens.map iA)),(a.O,.ob (MapF Tryz.prog 3 145 (Fm a.g n) (a.c-1))),(a.Tv,.tv a.K),(a.Tb,.row 145 1 (ptrs Tab.X (l1++w'::l2)))] [(P5,.row 145 1 [.ptr w'.X 0 0])] (Ec w'++(BL l1++(BL l2++Sf)));refine List.Perm.trans (List.Perm.of_eq ?_) (h1.symm.trans (List.Perm.of_eq ?_))
    ·simp only[BF,AP,BD]
     rfl
    ·simp only[BF,AP,BD]
   refine JB ?_;(iterate 6 refine WO ?_);refine AOps.gN ?_;refine PH [_,_,_,_,_] (h:=hdel) (k:=λY=>?_);refine JF ?_;dsimp only[AX,List.set_cons_zero,List.set_cons_succ,BF,BD];refine AWP.front Y ?_;refine AWP.front a.Tv ?_;refine AWP.front a.O ?_;refine AWP.front a.G ?_;refine AWP.front a.A ?_;refine AWP.front P5 ?_;refine AWP.front K ?_;have hla:E3 a l1 l2 w n Y={a with Tb:=Y,ts:=l1++l2,g:=Fm a.g n,c:=a.c-1}:=if_pos h0;rw[show(ptrs Tab.X (l1++l2)).length=(l1++l2).length from AB _];refine R1 ?_;refine RT ?_;refine⟨[.sl K 0 (Aa w n).length],[.lst true 42 2 ((Aa w n).map (AH false))],_,arS (E3 a l1 l2 w n Y),.cons (.tmp rfl) rfl .nil,.cons (.cell (.sl (p:=0) .here (by simp))) .nil,?_,Y,trivial,rfl,rfl⟩;rw[hla]
   have hsub:(BL (l1++l2)++Sf).Sublist ((Ec w'++(BL l1++BL l2))++Sf):=by
    rw[Gj];exact(List.sublist_append_right _ _).append_right _
   exact .cons _ (.cons_cons _ (.cons_cons _ (.cons_cons _ (.cons_cons _ (.cons_cons _ hsub)))))
  ·have h0:¬(BV w.es n).length=0:=by rw[AQ]at h0;omega
   have hla:E3 a l1 l2 w n 0={a with ts:=l1++w'::l2,g:=Fm a.g n,c:=a.c-1}:=by rw[hw'];exact if_neg h0
   have hop2:=DH (l1:=l1) (l2:=l2) (t:=w') Sf;rw[hZ]at hop2;refine AWP.perm (S':=(K,.row 42 2 ((Aa w n).map (AH false)))::(P5,.row 145 1 [.ptr w'.X 0 0])::(arH {a with ts:=l1++w'::l2,g:=Fm a.g n,c:=a.c-1}++(BL (l1++w'::l2)++Sf))) (List.Perm.cons _ (List.Perm.cons _ (hop2.symm.append_left (arH {a with ts:=l1++w'::l2,g:=Fm a.g n,c:=a.c-1})))) ?_;rw[<-AP];refine JI ?_;refine⟨[.sl K 0 (Aa w n).length],[.lst true 42 2 ((Aa w n).map (AH false))],_,arS (E3 a l1 l2 w n 0),.cons (.tmp rfl) rfl .nil,.cons (.cell (.sl (p:=0) .here (by simp))) .nil,?_,0,trivial,rfl,rfl⟩;rw[hla];exact .cons _ (List.Sublist.refl _)
theorem EU{a:Ar}{l1 l2:List Tab}{t:Tab}(h:a.ts=l1++t::l2)(Sf:List AC):(arS a++Sf).Perm (arH a++(D7 t::(stE t.ek t.es++(Bg t.cs++(BL l1++(BL l2++Sf)))))):=by
 rw[arS,AP];refine List.Perm.append_left _ ?_;rw[h];exact(DH Sf).trans (List.Perm.of_eq (by simp only[BF,AP]))
def Fx(a:Ar)(e:Ent):Bool:=decide (e∈(As a.ts).map (·.ent))
theorem T5{a:Ar}(h:ArOK a){e:Ent}{t:Tab}(ht:t∈a.ts){v:Ent}(hm:(e.n,v)∈t.es):Fx a e=decide (v=e):=by
 unfold Fx;refine decide_eq_decide.2 ⟨λhe=>?_,λhe=>?_⟩
 ·obtain⟨it,hit,rfl⟩:=List.mem_map.1 he
  obtain⟨u,hu,hit⟩:=List.mem_flatMap.1 hit;obtain⟨p,hp,rfl⟩:=List.mem_map.1 hit;have hpn:=h.ent u hu p hp;have h1:p.2.n∈AJ u.es:=List.mem_map.2 ⟨p,hp,hpn⟩;have h2:p.2.n∈AJ t.es:=List.mem_map.2 ⟨_,hm,rfl⟩;have:=h.uniq ht hu h2 h1;subst this;have hto:=h.tab t ht;have h3:=(CO hto.es).2 hm;have h4:=(CO hto.es).2 (show(p.2.n,p.2)∈t.es by rw[<-hpn];exact hp);rw[h3]at h4;injection h4
 ·subst he
  refine List.mem_map.2 ⟨⟨v,Aa t v.n⟩,List.mem_flatMap.2 ⟨t,ht,List.mem_map.2 ⟨_,hm,rfl⟩⟩,rfl⟩
theorem Vc{a:Ar}(h:ArOK a){e:Ent}(hg:a.g e.n=none):Fx a e=false:=by
 unfold Fx;refine AY λhe=>?_
 obtain⟨it,hit,rfl⟩:=List.mem_map.1 he;obtain⟨u,hu,hit⟩:=List.mem_flatMap.1 hit;obtain⟨p,hp,rfl⟩:=List.mem_map.1 hit;have hpn:=h.ent u hu p hp;have:=h.gn p.2.n (List.mem_flatMap.2 ⟨u,hu,List.mem_map.2 ⟨p,hp,hpn⟩⟩);rw[hg]at this;cases this
theorem Id(a:Ar)(ha:ArOK a)(e:Ent)(hn:I64 e.n):Spec Tryz.prog 284 [.ptr a.A 0 0,A6 e] (arS a) λr S'=>r=bA (Fx a e)/\S'=arS a:=by
 refine Sp (nt:=30) (res:=[.tmp 4]) Tryz.func284 λSf=>?_
 cases hg:a.g e.n with
 |none=>
  have hgd:(a.g e.n).getD (.pointer none)= .pointer none:=by rw[hg];rfl
  rw[Vc ha hg];refine JE ?_;refine Ai λB=>?_;refine JD ?_
  refine FL ?_;refine RU ?_;(iterate 6 refine RK ?_);refine RGo.gN ?_;refine RGo.go (h:=IC _ hgd hn rfl rfl (by exact At.f)) (k:=?_);refine RK ?_;refine RGo.nil (by kernel_rfl) ?_;refine JB ?_;refine WO ?_;refine AOps.gN ?_;refine AOps.go (h:=W.eqNil true (.inl ⟨rfl,rfl⟩) rfl rfl) (k:=?_);refine NL ?_;refine AM rfl rfl ?_;refine JI ?_;exact Ends.sp [bA false] (arS a) ⟨rfl,rfl⟩
 |some u=>
  obtain⟨t,ht,htn,hK,b,hb⟩:=ha.g e.n u hg;have hto:=ha.tab t ht;obtain⟨⟨m,v⟩,hm,hme⟩:=List.mem_map.1 htn;have hme:m=e.n:=hme;subst hme;rw[T5 ha ht hm];have hgt:=T8 t.ek t.es hto.es e.n hn v ((CO hto.es).2 hm);have hgd:(a.g e.n).getD (.pointer none)=u:=by rw[hg];rfl
  have hone:u.oneCell'=true:=by rw[hb];rfl
  obtain⟨l1,l2,hts⟩:=List.append_of_mem ht;refine JE ?_;refine Ai λB=>?_;refine JD ?_
  refine FL ?_;refine RU ?_;(iterate 6 refine RK ?_);refine RGo.gN ?_;refine RGo.go (h:=IC _ hgd hn rfl rfl (by exact At.f) hone) (k:=?_);refine RK ?_;refine RGo.nil (by kernel_rfl) ?_;refine JB ?_;refine WO ?_;refine AOps.gN ?_;refine AOps.go (h:=W.eqNil false (.inr ⟨b,hb,rfl⟩) rfl rfl) (k:=?_);refine NL ?_;refine AA rfl rfl ?_;refine FL ?_;refine AWP.asPtr 5 (.ptr t.X 0 0) hK ?_;refine AWP.perm (List.Perm.cons _ (EU hts Sf)) ?_;refine AWP.rs λY=>?_
  (repeat refine WF ?_);refine GH 8 (by kernel_rfl) (by kernel_rfl) ?_;refine RGoT.go ?_;refine RGoT.go ?_;refine RGoT.go ?_;refine RGoT.go ?_;refine RGoT.go ?_;refine RGoT.go ?_;refine RGoT.callK (xs:=[(.tmp 21,.ptr t.ek.X 0 0),(.tmp 23,iA e.n)]) (L:=[_,_,_,_,_,_,_,_]) (R:=Bg t.cs++(BL l1++(BL l2++Sf))) hgt (.fz (v:=.tup [A6 v,bA true])) rfl (Nat.le_refl 8) (.cons rfl (.cons rfl .nil)) rfl rfl ?_;refine RGoT.go ?_;refine RGoT.go ?_;refine RGoT.go ?_;refine RGoT.goS (h:=W.alloc .here (.inl rfl)) ?_;refine RGoT.goS ?_;refine RGoT.go ?_;refine RGoT.nil (by kernel_rfl) ?_;dsimp only[AX,List.set_cons_zero,List.set_cons_succ,BF,BD];refine Mx Y (show _=[A6 v]from rfl) ?_;dsimp only[List.set_cons_zero]
  have hd:decide (v=e)=(decide (v.n=e.n)&&decide (v.gen=e.gen)):=by
   cases v;cases e;simp only[Ent.mk.injEq,Bool.decide_and]
  rw[hd];refine JH ?_;refine AOps.gN ?_;refine AOps.go (h:=W.eqP _ _ (by kernel_rfl) (QQ v.n v.gen e.n e.gen) rfl rfl) (k:=?_);refine JD ?_;refine FL ?_;refine AWP.perm (List.Perm.cons _ (List.Perm.cons _ (EU hts Sf).symm)) ?_;refine RT ?_;exact Ends.sp [bA (decide (v.n=e.n)&&decide (v.gen=e.gen))] (arS a) ⟨rfl,rfl⟩
theorem Jk{a:Ar}(h:ArOK a){e:Ent}(hh:Fx a e=true):∃l1 l2 t,a.ts=l1++t::l2/\(e.n,e)∈t.es:=by
 unfold Fx at hh;obtain⟨it,hit,rfl⟩:=List.mem_map.1 (of_decide_eq_true hh);obtain⟨u,hu,hit⟩:=List.mem_flatMap.1 hit;obtain⟨p,hp,rfl⟩:=List.mem_map.1 hit;obtain⟨l1,l2,hl⟩:=List.append_of_mem hu;refine⟨l1,l2,u,hl,?_⟩;have:=h.ent u hu p hp;show(p.2.n,p.2)∈u.es
 rw[<-this];exact hp
structure KillR(a:Ar)(e:Ent)(b:Ar):Prop where
 ok:ArOK b
 ne:Ej b.ts
 A:b.A=a.A
 kinds:b.kinds=a.kinds
 gens:b.gens=a.gens.set e.n.toNat ((a.gens[e.n.toNat]?).getD 0+1)
 items:∃l,(As a.ts).Perm (⟨e,l⟩::As b.ts)
theorem VT(a:Ar)(ha:ArOK a)(e:Ent)(hn:I64 e.n)(hh:Fx a e=false):Spec Tryz.prog 269 [.ptr a.A 0 0,A6 e] (arS a) λr S'=>r=iA 4/\S'=arS a:=by
 have hs:=Id a ha e hn;rw[hh]at hs;refine Sp (nt:=23) (res:=[.tmp 4]) Tryz.func269 λSf=>?_
 refine JE ?_;refine Ai λB=>?_;refine JD ?_
 refine JH ?_;refine AOps.gN ?_;refine EN [_] (h:=hs) (k:=?_);refine JD ?_;refine AM rfl rfl ?_;refine JI ?_;exact Ends.sp [iA 4] (arS a) ⟨rfl,rfl⟩
theorem Ts(a:Ar)(ha:ArOK a)(hne:Ej a.ts)(e:Ent)(hn:I64 e.n)(hh:Fx a e=true)(hg:e.n.toNat<a.gens.length)(hgl:a.gens.length<=256)(hgb:∀g∈a.gens,0<=g/\g<=1073741824):Spec Tryz.prog 269 [.ptr a.A 0 0,A6 e] (arS a) λr S'=>∃b:Ar,KillR a e b/\r=iA 0/\S'=arS b:=by
 obtain⟨l1,l2,t,hts,hm⟩:=Jk ha hh;have hto:=ha.tab t (by rw[hts];simp);have hnk:e.n∈AJ t.es:=List.mem_map.2 ⟨_,hm,rfl⟩;have hnl:=hto.es.lt _ hnk;have hs:=Id a ha e hn;rw[hh]at hs;have htk:=M6 a ha hne hts hnk;obtain⟨⟨n,g⟩,he⟩:∃e',e=e':=⟨_,rfl⟩;subst he;dsimp only at hn hg hm hnk hnl hs htk;obtain⟨i,hi⟩:∃i:Nat,n=i:=⟨n.toNat,by omega⟩;subst hi;rw[Int.toNat_natCast]at hg;refine Sp (nt:=23) (res:=[.tmp 4]) Tryz.func269 λSf=>?_
 refine JE ?_;refine Ai λB=>?_;refine JD ?_
 refine JH ?_;refine AOps.gN ?_;refine EN [_] (h:=hs) (k:=?_);refine JD ?_;refine AA rfl rfl ?_;refine JB ?_;(iterate 3 refine WO ?_);refine AOps.gN ?_;refine Lb [_] (h:=htk) (k:=λY _ K=>?_);refine NL ?_;obtain⟨hok,hne2,hA,hki,hge,hit⟩:=KZ ha hne hts hm Y;obtain⟨b,hb⟩:∃b,E3 a l1 l2 t (i:Nat) Y=b:=⟨_,rfl⟩;rw[hb]at hok hne2 hA hki hge hit⊢;rw[<-hA];have hgm:a.gens[i]∈a.gens:=AK hg;have hgr:=hgb _ hgm;rw[<-hge]at hg hgl;have hgq:a.gens[i]=b.gens[i]:=by simp only[hge]
 rw[hgq]at hgr;have hat:(b.gens.map iA)[i]?=some (iA b.gens[i]):=BB _ hg;have hgml:(b.gens.map iA).length=b.gens.length:=AB _;refine FL ?_;refine RU ?_;(repeat first|(refine RGo.gN ?_;first|refine RGo.go (h:=W.idx (a:=i) rfl rfl (by exact At.f) rfl (by omega) (Nat.zero_add _)) (k:=?_))|(refine RGo.gQ ?_;first|refine RGo.go (h:=W.idx (a:=i) rfl rfl (by exact At.f) rfl (by omega) (Nat.zero_add _)) (k:=?_))|refine RK ?_|refine RGo.nil (by kernel_rfl) ?_);dsimp only[AX,List.set_cons_zero,List.set_cons_succ,BF,BD];have hset:(b.gens.map iA).set i (iA (b.gens[i]+1))=(b.gens.set i (b.gens[i]+1)).map iA:=(List.map_set ..).symm;rw[hset];have hsl:b.gens.length=(b.gens.set i (b.gens[i]+1)).length:=List.length_set.symm;obtain⟨b',hb'⟩:∃b':Ar,b'={b with gens:=b.gens.set i (b.gens[i]+1)}:=⟨_,rfl⟩;refine AWP.perm (S':=(K,.row 42 2 ((Aa t (i:Nat)).map (AH false)))::(B,.row 32 2 [A6 ⟨i,g⟩])::(arS b'++Sf)) (List.Perm.of_eq (by rw[hb'];show _=(K,_)::(B,_)::((arH {b with gens:=b.gens.set i (b.gens[i]+1)}++BL b.ts)++Sf);rw[arH];dsimp only;rw[<-hsl];rfl)) ?_;refine R1 ?_;refine RT ?_;have hgd:(a.gens[i]?).getD 0=b.gens[i]:=by rw[<-hge,AE hg];rfl
 have hk:KillR a ⟨i,g⟩ b':=by
  rw[hb'];exact⟨⟨hok.tab,hok.ord,hok.keys,hok.ent,hok.g,hok.gn,hok.cnt⟩,hne2,hA,hki,by show b.gens.set i _=a.gens.set ((i:Int).toNat) _;rw[Int.toNat_natCast,hgd];exact congrArg (λx=>x.set i (b.gens[i]+1)) hge,⟨_,hit⟩⟩
 exact Ends.sp [iA 0] (arS b') ⟨b',hk,rfl,rfl⟩
theorem VP(a:Int):PS Tryz.prog 296 [iA a] (bA false):=by
 refine Sp (nt:=6) (res:=[.tmp 2]) Tryz.func296 λSf=>?_
 refine JA ?_;refine AI ?_;have:decide (a≠a)=false:=AY (by simp);rw[this]
theorem VQ(a b:Int):PS Tryz.prog 295 [iA a,iA b] (bA (decide (a<b))):=by
 refine Sp (nt:=17) (res:=[.tmp 4]) Tryz.func295 λSf=>?_
 refine R1 ?_;refine JB ?_;refine WO ?_;refine AOps.g_callf ?_;refine AOps.c1 (h:=(Kg a)) (k:=?_);refine JF ?_;refine RT ?_;exact Ends.sp [bA (decide (a<b))] [] ⟨rfl,rfl⟩
def KX(l:List Int)(n:Int):Nat:=(l.filter λx=>decide (x<n)).length
theorem Q7{l:List Int}{n:Int}{i:Nat}(hi:i<=l.length)(h1:∀k (h:k<l.length),k<i->l[k]<n)(h2:∀k (h:k<l.length),i<=k->n<=l[k]):KX l n=i:=by
 unfold KX
 have e:l.filter (λx=>decide (x<n))=l.take i:=by
  conv=>lhs;rw[<-List.take_append_drop i l]
  rw[List.filter_append,List.filter_eq_self.2,List.filter_eq_nil_iff.2,List.append_nil]
  ·intro x hx
   obtain⟨k,hk,rfl⟩:=List.mem_iff_getElem.1 hx;rw[Bh]at hk;rw[List.getElem_drop];have:=h2 (i+k) (by omega) (by omega);simp;omega
  ·intro x hx
   obtain⟨k,hk,rfl⟩:=List.mem_take_iff_getElem.1 hx;have:=h1 k (by omega) (by omega);simp;omega
 rw[e,Ah];omega
theorem RL(l:List Int)(n:Int)(hs:l.Pairwise (· < ·))(hl:l.length<=1099511627776):PS Tryz.prog 285 [AN false l,iA n] (.tup [iA (KX l n:Nat),bA (decide (n∈l))]):=by
 have hml:(l.map iA).length=l.length:=AB _;have hsp:=List.pairwise_iff_getElem.1 hs;refine Sp (nt:=54) (res:=[.tmp 4,.tmp 5]) Tryz.func285 λSf=>?_
 refine R1 ?_;refine JC ?_;refine JJ ?_;rw[hml];refine BZ (λ(i j:Nat)=>⟨[(0,AN false l),(1,iA n),(6,iA l.length),(7,iA i),(8,iA j)],Sf⟩) (λi j=>i<=j/\j<=l.length/\(∀k (h:k<l.length),k<i->l[k]<n)/\∀k (h:k<l.length),j<=k->n<=l[k]) (λi j=>j-i) 0 l.length ⟨Nat.zero_le _,Nat.le_refl _,λk h1 h2=>absurd h2 (by omega),λk h1 h2=>absurd h2 (by omega)⟩ ?_;rintro i j ⟨hij,hjn,hlo,hhi⟩;refine JM ?_;refine AWP.cond rfl (λhc=>?_) (λhc=>?_)
 ·have h:i<j:=by rw[AF]at hc;omega
  have hmid:((i:Int)+j).fdiv (2^1)=(((i+j)/2:Nat):Int):=by
   rw[Int.fdiv_eq_ediv_of_nonneg _ (by decide)];omega
  have hw1:IntKind.u64.wrap ((i:Int)+j)=i+j:=by rw[IntKind.wrap_u64];omega
  have hw2:IntKind.i64.wrap (((i:Int)+j).fdiv (2^1))=((i:Int)+j).fdiv (2^1):=by
   rw[IntKind.wrap_i64,hmid];omega
  refine JB ?_;(iterate 3 refine WO ?_);refine AOps.gN ?_;refine AOps.p (W.conv .i64 .u64 (by kernel_rfl) (by kernel_rfl) rfl hw1) rfl ?_;refine AOps.gN ?_;refine AOps.p (W.shr 1 rfl rfl rfl (by decide)) rfl ?_;refine AOps.gN ?_;refine AOps.p (W.conv .u64 .i64 (by kernel_rfl) (by kernel_rfl) rfl hw2) rfl ?_;refine JD ?_;rw[hmid];obtain⟨m,hm⟩:=nm ((i+j)/2);rw[hm];have hml2:m<l.length:=by omega
  have hmm:m<(l.map iA).length:=by omega
  have hat:(l.map iA)[m]?=some (iA l[m]):=by rw[AG,AE hml2];rfl
  have hls:=VQ l[m] n;refine JK ?_;refine AOps.g_callf ?_;refine AOps.c2 (h:=(hls ..)) (k:=?_);refine NL ?_;refine FL ?_;refine AWP.cond rfl (λhe=>?_) (λhe=>?_)
  ·have he:l[m]<n:=of_decide_eq_true he
   refine JC ?_;refine A8 (m+1) j ⟨by omega,hjn,λk h1 h2=>?_,hhi⟩;by_cases e:k=m
   ·subst e;exact he
   ·have:=hsp k m h1 hml2 (by omega);omega
  ·have he:¬l[m]<n:=of_decide_eq_false he
   refine JC ?_;refine A8 i m ⟨by omega,by omega,hlo,λk h1 h2=>?_⟩;by_cases e:k=m
   ·subst e;omega
   ·have:=hsp m k hml2 h1 (by omega);omega
 ·have h:i=j:=by rw[AQ]at hc;omega
  subst h;have hlw:=Q7 hjn hlo hhi;refine FL ?_;by_cases hin:i<l.length
  ·have g1:decide ((i:Int)<(l.length:Nat))=true:=Ae (by omega)
   have hmm:i<(l.map iA).length:=by omega
   have hat:(l.map iA)[i]?=some (iA l[i]):=by rw[AG,AE hin];rfl
   by_cases he:l[i]=n
   ·have g2:decide (l[i]=n)=true:=Ae he
    have hmem:decide (n∈l)=true:=Ae (by rw[<-he];exact AK hin);rw[hlw,hmem];refine RG ?_;(repeat first|(refine AOps.gQ ?_;first|refine AOps.goNU ?_|refine AOps.goNV ?_)|refine WO ?_|refine Ai λX=>?_|refine Ay λY=>?_);refine NL ?_;refine RT ?_;rw[g1,g2];exact Ends.sp [iA i,bA true] [] ⟨rfl,rfl⟩
   ·have g2:decide (l[i]=n)=false:=AY he
    have hmem:decide (n∈l)=false:=AY λhm=>by
     obtain⟨k,hk,rfl⟩:=List.mem_iff_getElem.1 hm;rcases Nat.lt_or_ge k i with h|h
     ·have:=hlo k hk h;omega
     ·have h3:k≠i:=λe=>he (by subst e;rfl)
      have:=hsp i k hin hk (by omega);have:=hhi i hin (Nat.le_refl _);omega
    rw[hlw,hmem];refine JN ?_;refine AOps.g_callf ?_;refine AOps.c1 (h:=(VP l[i])) (k:=?_);refine JF ?_;refine RT ?_;rw[g1,g2];exact Ends.sp [iA i,bA false] [] ⟨rfl,rfl⟩
  ·have g1:decide ((i:Int)<(l.length:Nat))=false:=AY (by omega)
   have hmem:decide (n∈l)=false:=AY λhm=>by
    obtain⟨k,hk,rfl⟩:=List.mem_iff_getElem.1 hm;have:=hlo k hk (by omega);omega
   rw[hlw,hmem];refine RG ?_;(repeat first|(refine AOps.gQ ?_;first|refine AOps.goNU ?_|refine AOps.goNV ?_)|refine WO ?_|refine Ai λX=>?_|refine Ay λY=>?_);refine NL ?_;refine RT ?_;rw[g1];exact Ends.sp [iA i,bA false] [] ⟨rfl,rfl⟩
theorem K6{α:Type}{l:List α}{i:Nat}(h:i<l.length)(z:List α):(l.take i++(l.drop (i+1)).take (l.length-(i+1))++z).take (i+(l.length-(i+1)))=l.eraseIdx i:=by
 rw[List.take_of_length_le (l:=l.drop (i+1)) (by rw[Bh];omega),List.eraseIdx_eq_take_drop_succ];rw[List.take_append_of_le_length (by simp;omega),List.take_of_length_le (by simp;omega)]
theorem QT(X n i:Nat)(l:List AV)(hn:n=l.length)(hi:i<n)(hl:n<=1099511627776)(hfr:FreeL l)(hw:∀e∈l,e.width=2):
  Spec Tryz.prog 72 [.sl X 0 n,iA i,iA ((i:Int)+1)] [(X,.row 42 2 l)] λr S'=>r= .lst true 42 2 (l.eraseIdx i)/\S'=[]:=by
 subst hn;refine Sp (nt:=33) (res:=[.tmp 6]) Tryz.func72 λSf=>?_
 have h1:((i:Int)+1)=((i+1:Nat):Int):=by omega
 refine R1 ?_;refine RG ?_;(iterate 5 refine WO ?_);refine AOps.gN ?_;refine AOps.p (W.slice3 (lo:=i) (hi:=i+1) (mx:=l.length) rfl rfl rfl rfl (by exact At.f) rfl h1 rfl (by omega) (by omega) (Nat.le_refl _)) rfl ?_;refine NL ?_;refine R1 ?_;refine AA rfl (AY (by omega)) ?_;refine R1 ?_;have hel:(l.eraseIdx i).length=l.length-1:=List.length_eraseIdx_of_lt hi;rcases Nat.lt_or_ge (i+1) l.length with hj|hj
 ·have hp:=K6 hi
  refine RU ?_;refine JG ?_;refine RGo.gN ?_;refine RGo.p (W.hi rfl rfl (by exact At.f) rfl (by omega)) rfl ?_;refine JG ?_;refine RGo.gN ?_;refine RGo.p (W.slice_lo (lo:=i+1) rfl rfl (by exact At.f) h1 (by omega)) rfl ?_;refine RGo.gN ?_;refine RGo.s (W.appS (l.length-(i+1)) (by omega) (by omega) (by omega) hfr hw rfl rfl (by exact At.f)) rfl ?_;refine RK ?_;refine RGo.nil (by kernel_rfl) ?_;rw[Nat.zero_add];have hln:i+(l.length-(i+1))=l.length-1:=by omega
  have hLl:(l.take i++(l.drop (i+1)).take (l.length-(i+1))++l.drop (i+(l.length-(i+1)))).length=l.length:=by simp only[AL,Ah,Bh];omega
  have hLp:=hp (l.drop (i+(l.length-(i+1))));obtain⟨L',hL'⟩:∃L',l.take i++(l.drop (i+1)).take (l.length-(i+1))++l.drop (i+(l.length-(i+1)))=L':=⟨_,rfl⟩;rw[hL']at hLl hLp⊢
  have key:∀Z D,((L'.take (i+(l.length-(i+1)))++Z)++D).take (i+(l.length-(i+1)))=l.eraseIdx i:=λZ D=>by
   rw[AP,List.take_append_of_le_length (by rw[Ah];omega),List.take_take,Nat.min_self,hLp]
  refine RG ?_;(iterate 4 refine WO ?_);refine AOps.gN ?_;refine AOps.p (Uk (lo:=i+(l.length-(i+1))) (hi:=l.length) rfl rfl rfl (by exact At.f) rfl rfl (by omega) (by omega)) rfl ?_;refine AOps.gN ?_;refine AOps.s (W.clear rfl (by exact At.f) (by first|exact .inl rfl|exact .inr rfl) rfl (by omega)) rfl ?_;refine NL ?_;refine R1 ?_;refine AWP.shrink (X:=X) (i+(l.length-(i+1))) ?_;rw[Nat.zero_add,key];refine RT ?_;exact⟨[.sl X 0 (i+(l.length-(i+1)))],[.lst true 42 2 (l.eraseIdx i)],_,[],.cons (.tmp rfl) rfl .nil,.cons (.cell (.sl (p:=0) .here (by rw[hel];omega))) .nil,by exact Sub.f,rfl,rfl⟩
 ·have hie:i=l.length-1:=by omega
  have hl0:l.length-(i+1)=0:=by omega
  have hle:l.eraseIdx i=l.take i:=by rw[List.eraseIdx_eq_take_drop_succ,List.drop_of_length_le (by omega),List.append_nil]
  have key:∀Z D,((l.take i++Z)++D).take i=l.eraseIdx i:=λZ D=>by
   rw[AP,List.take_append_of_le_length (by rw[Ah];omega),List.take_take,Nat.min_self,hle]
  refine RU ?_;refine JG ?_;refine RGo.gN ?_;refine RGo.p (W.hi rfl rfl (by exact At.f) rfl (by omega)) rfl ?_;refine JG ?_;refine RGo.gN ?_;refine RGo.p (W.slice_lo (lo:=i+1) rfl rfl (by exact At.f) h1 (by omega)) rfl ?_;rw[hl0];refine RGo.gN ?_;refine RGo.p (W.app0 rfl rfl (by exact At.f)) rfl ?_;refine RK ?_;refine RGo.nil (by kernel_rfl) ?_;refine RG ?_;(iterate 4 refine WO ?_);refine AOps.gN ?_;refine AOps.p (Uk (lo:=i) (hi:=l.length) rfl rfl rfl (by exact At.f) rfl rfl (by omega) (by omega)) rfl ?_;refine AOps.gN ?_;refine AOps.s (W.clear rfl (by exact At.f) (by first|exact .inl rfl|exact .inr rfl) rfl (by omega)) rfl ?_;refine NL ?_;refine R1 ?_;refine AWP.shrink (X:=X) i ?_;simp only[Nat.zero_add];rw[key];refine RT ?_;exact⟨[.sl X 0 i],[.lst true 42 2 (l.eraseIdx i)],_,[],.cons (.tmp rfl) rfl .nil,.cons (.cell (.sl (p:=0) .here (by rw[hel];omega))) .nil,by exact Sub.f,rfl,rfl⟩
theorem Sm(l:List Ent)(hl:l.length*16<=140737488355328):PS Tryz.prog 154 [.lst false 32 2 (l.map A6)] (.lst true 32 2 (l.map A6)):=by
 refine Sp (nt:=8) (res:=[.tmp 2]) Tryz.func154 λSf=>?_
 (iterate 8 refine WK ?_);refine AOps.gN ?_;refine AOps.isNil λb hb=>?_;refine KK ?_
 refine AWP.cond rfl (λhc=>?_) (λhc=>?_)
 ·rw[hb hc]
  refine JA ?_;exact⟨[.prim (.slice none 0 0)],[.lst true 32 2 []],_,[],.cons (.tmp rfl) rfl .nil,.cons (.cell .nil) .nil,by exact Sub.f,rfl,rfl⟩
 ·have hl':(0+(l.map A6).length)*16<=140737488355328:=by simpa using hl
  clear hl
  (iterate 3 refine WK ?_);refine AOps.g_lit ?_;refine My λK=>?_;refine KK ?_;refine Ay λY=>?_;refine KK ?_
  refine RT ?_;exact⟨[.sl Y 0 (0+(l.map A6).length)],[.lst true 32 2 (l.map A6)],_,[],.cons (.tmp rfl) rfl .nil,.cons (.cell (.sl (p:=0) .here (by simp))) .nil,by exact Sub.f,rfl,rfl⟩
theorem Oc(S:List AC):∀b:List Int,Lds S (b.map iA) (b.map iA)
 |[]=>.nil
 |x::b=>.cons (show Ld S (iA x) (iA x)from .frz (a:=iA x)) (Oc S b)
theorem Ot(S:List AC):∀b:List Ent,Lds S (b.map A6) (b.map A6)
 |[]=>.nil
 |x::b=>.cons (show Ld S (A6 x) (A6 x)from .frz (a:=A6 x)) (Ot S b)
theorem LH(X:Nat)(l:List Int)(n:Nat)(hn:n=l.length)(hl:l.length*8<=140737488355328):Spec Tryz.prog 58 [.sl X 0 n] [(X,.row 3 1 (l.map iA))] λr S'=>r= .lst true 3 1 (l.map iA)/\S'=[(X,.row 3 1 (l.map iA))]:=by
 subst hn;refine PS.lend (Er l hl) (by show CA _=true;rw[HW (λ_=>rfl)]) (.cons (.sl .here (by simp) ?_) .nil);rw[List.drop_zero,List.take_of_length_le (by simp)];exact Oc _ _
theorem QZ(X:Nat)(l:List Ent)(n:Nat)(hn:n=l.length)(hl:l.length*16<=140737488355328):Spec Tryz.prog 154 [.sl X 0 n] [(X,.row 32 2 (l.map A6))] λr S'=>r= .lst true 32 2 (l.map A6)/\S'=[(X,.row 32 2 (l.map A6))]:=by
 subst hn;refine PS.lend (Sm l hl) (by show CA _=true;rw[HW (λ_=>rfl)]) (.cons (.sl .here (by simp) ?_) .nil);rw[List.drop_zero,List.take_of_length_le (by simp)];exact Ot _ _
abbrev K7(l:List Ent):AV:=.lst false 32 2 (l.map A6)
theorem Vx(k:StK)(l:List (Int×Ent))(hl:ColOK l):Spec Tryz.prog 74 [.ptr k.X 0 0] (stE k l) λr S'=>r= .fn 155 [.fp [AN false (AJ l)],.fp [K7 (l.map (·.2))]]/\S'=stE k l:=by
 have hlen:=hl.len;have h1:=LH k.R (AJ l) l.length (by simp) (by rw[AB];omega);have h2:=QZ k.V (l.map (·.2)) l.length (by simp) (by rw[AB];omega);have e1:(AJ l).map iA=l.map λe=>iA e.1:=List.map_map
 have e2:(l.map (·.2)).map A6=l.map λe=>A6 e.2:=List.map_map
 rw[e1]at h1;rw[e2]at h2;refine Sp (nt:=16) (res:=[.tmp 2]) Tryz.func74 λSf=>?_
 refine JM ?_;refine AWP.rs λA=>AWP.rs λB=>?_
 refine JL ?_;refine RGo.g_callf ?_;refine RGo.z1 (h:=h1) (hT:=.fz) (k:=?_);refine KR ?_;refine RGo.g_callf ?_;refine RGo.z1 (h:=h2) (hT:=.fz) (k:=?_);(iterate 4 refine RK ?_);refine RGo.nil (by kernel_rfl) ?_;refine FL ?_;refine AWP.iceP [3] .here ?_ (by intro d hd;simp only[BP]at hd;subst hd;rfl);refine AWP.iceP [4] (.next .here) ?_ (by intro d hd;simp only[BP]at hd;subst hd;rfl);refine R1 ?_;have er:AV.fn 155 [.fp [AN false (AJ l)],.fp [K7 (l.map (·.2))]]=AV.fn 155 [.fp [.lst false 3 1 (l.map λe=>iA e.1)],.fp [.lst false 32 2 (l.map λe=>A6 e.2)]]:=by rw[AN,K7,e1,e2]
 rw[er];refine RT ?_;exact Ends.sp [AV.fn 155 [.fp [.lst false 3 1 (l.map λe=>iA e.1)],.fp [.lst false 32 2 (l.map λe=>A6 e.2)]]] (stE k l) ⟨rfl,rfl⟩
theorem Ue(ks:List Int)(es:List Ent)(hl:ks.length=es.length)(h0:ks.length<=1099511627776):Itr Tryz.prog 155 [.fp [AN false ks],.fp [K7 es]] ((ks.zip es).map λq=>[iA q.1,A6 q.2]):=by
 have hkm:(ks.map iA).length=ks.length:=AB _;have hem:(es.map A6).length=es.length:=AB _;refine⟨by kernel_rfl,λy J Jx hY Sl hJ0=>?_⟩;refine Sp (nt:=22) (res:=[]) Tryz.func155 λSf=>?_
 refine JM ?_;refine BZ (λ(i:Nat) (Sl:List AC)=>⟨[(0,.prim y),(2,.fp [K7 es]),(6,AN false ks),(7,iA (ks.map iA).length),(8,iA i)],Sl++Sf⟩) (λi Sl=>i<=ks.length/\J i Sl) (λi _=>ks.length-i) 0 Sl ⟨Nat.zero_le _,hJ0⟩ ?_;rintro i Sl ⟨hi,hJ⟩;refine JM ?_;refine AWP.cond rfl (λhc=>?_) (λhc=>?_)
 ·have h:i<ks.length:=by rw[AF,hkm]at hc;omega
  have he:i<es.length:=by omega
  have hat:(ks.map iA)[i]?=some (iA ks[i]):=BB _ h;have hil:i<(ks.map iA).length:=by omega
  have hat2:(es.map A6)[i]?=some (A6 es[i]):=BB _ he;have hil2:i<(es.map A6).length:=by omega
  have hyi:((ks.zip es).map λq=>[iA q.1,A6 q.2])[i]?=some [iA ks[i],A6 es[i]]:=by
   rw[AG,AE (by rw[List.length_zip];omega),List.getElem_zip];rfl
  obtain⟨k,hk⟩:=nm (ks[i]);obtain⟨e,hee⟩:=nm (es[i]);rw[hk]at hat hyi;rw[hee]at hat2 hyi;refine JC ?_;refine JK ?_;refine JR (Si:=[]) hY hJ hyi (λSl' hk=>?_) (λSl' hk=>?_)
  ·refine WO ?_
   refine AOps.nil ?_;refine FL ?_;refine AA rfl rfl ?_;refine KK ?_;refine A8 (i+1) Sl' ⟨h,hk⟩
  ·refine WO ?_
   refine AOps.nil ?_;refine FL ?_;refine AM rfl rfl ?_
   skip
   refine RT ?_;exact BI Sl' (.inr hk)
 ·have h:i=ks.length:=by rw[AQ,hkm]at hc;omega
  subst h;refine KK ?_;refine C9 ?_;exact BI Sl (.inl (by rw[AB,List.length_zip,<-hl,Nat.min_self];exact hJ))
theorem W.makeMap{P:Program}{ty t k e:TypeId}{pos:String}{after:Array Edge}{dst:Option Tmp}{c:Option (List Bool)}{g:Option (Nat×Bool)}{T:List (Nat×AV)}{S:List AC}{X p:Nat}{z0:Value}[TMap P t k e z0](hS:At S p (X,.gone)):Stp c P ⟨dst,.makeMap t none,ty,pos,after,g⟩ T S [] [(p,(X,.gone))] (.mp X) [(p,(X,.ob (MapF P k e (λ_=>none) 0)))]:=⟨.makeMap (TMap.h (z0:=z0)),.nil,.cons hS .nil⟩
theorem ArOK.keys_items{a:Ar}(h:ArOK a):BN a.ts=(As a.ts).map (·.ent.n):=by
 rw[BN,As,List.map_flatMap]
 have:∀ts:List Tab,(∀t∈ts,∀e∈t.es,e.1=e.2.n)->(ts.flatMap λt=>AJ t.es)=ts.flatMap λt=>(B3 t).map (·.ent.n):=by
  intro ts
  induction ts with
  |nil=>intro _;rfl
  |cons t ts ih=>
   intro hh;rw[List.flatMap_cons,List.flatMap_cons,ih λu hu=>hh u (by simp[hu])]
   congr 1
   rw[B3,List.map_map];exact List.map_congr_left λe he=>hh t (by simp) e he
 exact this a.ts h.ent
theorem WdOK.cl{w:Wd}(h:WdOK w):∀it∈w.items,it.comps.length<=16:=λit hi=>by
 obtain⟨_,_,_,_,e⟩:=h.it it hi;obtain⟨h1,h2⟩:=held_iff.1 e;have h16:=(Bn h.ks).1;have:=GR (λc:Comp=>c.kind) w.kinds.length it.comps (h1.imp λ{a b} hab e=>by omega) (λc hc=>⟨(h2 c hc).1,(h2 c hc).2.1⟩);omega
theorem W8(w:Wd)(hw:WdOK w):Spec Tryz.prog 21 [wdA false w] [] λr S'=>∃b:Ar,(ArOK b/\Ej b.ts/\b.kinds=w.kinds/\b.gens=w.gens/\(As b.ts).Perm w.items)/\r= .tup [.ptr b.A 0 0,iA 0]/\S'=arS b:=by
 have hL:=hw.wl;have hgl:=hw.gl;have hil:=hw.il;have hsok:=hw.so;have hit:=hw.it;have hkp:=GU w.kinds (by have:=(Bn hw.ks).1;omega) (λk hk=>by have:=(Do ((Bn hw.ks).2 k hk)).2.1;omega);have hcl:=Er w.gens (by omega);have hck:=Es w (by omega) (by omega) (λit hi=>(hL.items.2 it hi).1);rw[(BK w).2 hw]at hck;have hcc:=hw.cl;have hcp:∀it∈w.items,PS Tryz.prog 59 [Aw false false it.comps] (Aw true false it.comps):=λit hi=>D0 it.comps (hL.items.2 it hi).1 (hL.items.2 it hi).2
 have hime:(w.items.map (AD false)).length=w.items.length:=AB _;obtain⟨ks,gs,its⟩:=w;dsimp only at*;refine Sp (nt:=38) (res:=[.tmp 2,.tmp 3]) Tryz.func21 λSf=>?_
 refine JE ?_;refine Ai λD=>?_;refine JF ?_
 refine JB ?_;refine WO ?_;refine AOps.g_callf ?_;refine AOps.c1 (h:=(hck ..)) (k:=?_);refine JD ?_;refine JJ ?_;refine AA rfl rfl ?_;refine FL ?_;have hgm:(gs.map iA).length=gs.length:=AB _;refine AWP.rs λA=>AWP.rs λG=>AWP.rs λO=>?_
 refine JL ?_;refine RGo.g_callf ?_;refine RGo.c1 (h:=(hkp ..)) (k:=?_);refine KR ?_;refine RGo.g_callf ?_;refine RGo.z1 (h:=hcl) (hT:=.ls (Y:=G)) (k:=?_);refine RGo.gN ?_;refine RGo.goS (h:=W.makeMap (X:=O) (by exact At.f)) (k:=?_);refine RK ?_;refine RGo.gN ?_;refine RGo.goS (h:=W.box (X:=A) rfl (by exact At.f) rfl) (k:=?_);refine RK ?_;refine RGo.nil (by kernel_rfl) ?_;refine FL ?_;refine AWP.adoptIn (Y:=A) 145 1 (by exact At.f) (λTb=>.cons (.agg (.cons .same (.cons .same (.cons (.base .nil) (.cons .same .nil))))) .nil) λTb=>?_
 rw[hgm];refine AWP.note (λ_ _=>False) (λ_ _ h=>h) λTv=>?_
 refine JM ?_;refine AWP.front Tb ?_;refine AWP.front Tv ?_;refine AWP.front O ?_;refine AWP.front G ?_;refine AWP.front A ?_;refine AWP.front D ?_;refine BZ (λ(i:Nat) (b:Ar)=>⟨[(5,.ptr A 0 0),(23,HX false false its),(24,iA (its.map (AD false)).length),(25,iA i)],(D,.row 26 3 [wdA false ⟨ks,gs,its⟩])::(arS b++Sf)⟩) (λi b=>i<=its.length/\ArOK b/\Ej b.ts/\b.A=A/\b.kinds=ks/\b.gens=gs/\(As b.ts).Perm (its.take i)) (λi _=>its.length-i) 0 ⟨A,G,Tb,O,Tv,λ_ _=>False,λ_=>none,0,ks,gs,[]⟩ ⟨by omega,⟨by simp,.nil,.nil,by simp,by simp,by simp,rfl⟩,(by intro t ht;cases ht),rfl,rfl,rfl,.refl _⟩ ?_;rintro i b ⟨hi,hok,hne,hA,hbk,hbg,hpm⟩;subst hA;refine JM ?_;refine AWP.cond rfl (λh=>?_) (λh=>?_)
 ·have h:i<its.length:=by rw[AF,hime]at h;omega
  have hat:(its.map (AD false))[i]?=some (AD false its[i]):=BB _ h;have hil:i<(its.map (AD false)).length:=by omega
  have him:=AK h;obtain⟨it1,it2,_⟩:=hit _ him;have hcpi:=hcp _ him
  have hfr:its[i].ent.n∉BN b.ts:=by
   rw[hok.keys_items];intro hm;obtain⟨x,hx,e⟩:=List.mem_map.1 hm;have hx:=hpm.mem_iff.1 hx;obtain⟨j,hj,rfl⟩:=List.mem_take_iff_getElem.1 hx;have:=List.pairwise_iff_getElem.1 hsok j i (by omega) h (by omega);omega
  have had:=LR b its[i].ent its[i].comps hok hne ⟨it1,by omega⟩ hfr (hcc _ him);have htk:its.take (i+1)=its.take i++[its[i]]:=List.take_succ_eq_append_getElem h;obtain⟨⟨ie,ic⟩,hie⟩:=nm (its[i]);rw[hie]at hat hcpi had htk;refine JK ?_;refine Ai λC=>?_;refine JD ?_
  refine FL ?_;(repeat refine WF ?_);refine Db 6 (by kernel_rfl) (by kernel_rfl) (by kernel_rfl) ?_;dsimp only[List.take,List.drop];refine KR ?_;refine RGo.g_callf ?_;refine RGo.c1 (h:=(hcpi ..)) (k:=?_);refine RGo.nil (by kernel_rfl) ?_;refine D6 [_,_] (h:=had) λb' hb'=>?_
  obtain⟨k1,k2,k3,k4,k5,k6⟩:=hb';refine AOps.nil ?_;refine JC ?_
  exact A8 (i+1) b' ⟨by omega,k1,k2,k3,k4.trans hbk,k5.trans hbg,by
   rw[htk];exact k6.trans ((hpm.cons _).trans (List.perm_append_singleton _ _).symm)⟩ (by omega)
 ·have h:i=its.length:=by rw[AQ,hime]at h;omega
  subst h;rw[List.take_length]at hpm;refine JI ?_;exact Ends.sp [.ptr b.A 0 0,iA 0] (arS b) ⟨b,⟨hok,hne,hbk,hbg,hpm⟩,rfl,rfl⟩
theorem UL(a:Ar)(ha:ArOK a)(e:Ent)(k:Int)(hn:I64 e.n)(hh:Fx a e=false):Spec Tryz.prog 268 [.ptr a.A 0 0,A6 e,iA k] (arS a) λr S'=>r=iA 4/\S'=arS a:=by
 have hs:=Id a ha e hn;rw[hh]at hs;refine Sp (nt:=41) (res:=[.tmp 6]) Tryz.func268 λSf=>?_
 refine JE ?_;refine Ai λB=>?_;refine JD ?_
 refine JH ?_;refine AOps.gN ?_;refine EN [_] (h:=hs) (k:=?_);refine JD ?_;refine AM rfl rfl ?_;refine JI ?_;exact Ends.sp [iA 4] (arS a) ⟨rfl,rfl⟩
theorem ArOK.ptr{a:Ar}(h:ArOK a){t:Tab}(ht:t∈a.ts){n:Int}(hn:n∈AJ t.es):∃u,(a.g n).getD (.pointer none)=u/\u.oneCell'=true/\a.K (.ptr t.X 0 0) u:=by
 have hsm:=h.gn n (List.mem_flatMap.2 ⟨t,ht,hn⟩);obtain⟨u,hu⟩:∃u,a.g n=some u:=Option.isSome_iff_exists.1 hsm;obtain⟨w,hw,hwn,hK,b,hb⟩:=h.g n u hu;have:=h.uniq hw ht hwn hn;subst this;exact⟨u,by rw[hu];rfl,by rw[hb];rfl,hK⟩
theorem Kt{a b:Ar}(ha:ArOK a)(hb:ArOK b){e:Ent}{l:List Comp}(hit:(As a.ts).Perm (⟨e,l⟩::As b.ts)):e.n∉BN b.ts:=by
 have h1:=ha.keys;rw[ha.keys_items]at h1;have h2:=(hit.map λit:Item=>it.ent.n).nodup_iff.1 h1;rw[hb.keys_items];exact(List.nodup_cons.1 h2).1
theorem OV{l:List Int}{k:Int}(hs:l.Pairwise (· < ·))(h:k∈l):∃hl:KX l k<l.length,l[KX l k]=k:=by
 obtain⟨i,hi,rfl⟩:=List.mem_iff_getElem.1 h;have hsp:=List.pairwise_iff_getElem.1 hs
 have e:=Q7 (l:=l) (n:=l[i]) (i:=i) (by omega) (λj hj hlt=>hsp j i hj hi hlt) (λj hj hle=>by
  rcases Nat.lt_or_eq_of_le hle with h|rfl
  ·have:=hsp i j hi hj h;omega
  ·exact Int.le_refl _)
 exact⟨by rw[e];exact hi,by simp only[e]⟩
structure SwapR(a:Ar)(e:Ent)(l l':List Comp)(b:Ar):Prop where
 ok:ArOK b
 ne:Ej b.ts
 A:b.A=a.A
 kinds:b.kinds=a.kinds
 gens:b.gens=a.gens
 items:∃r,(As a.ts).Perm (⟨e,l⟩::r)/\(As b.ts).Perm (⟨e,l'⟩::r)
theorem SV(a:Ar)(ha:ArOK a)(hne:Ej a.ts)(e:Ent)(k:Int)(hn:I64 e.n)(hkl:I64 k)(hh:Fx a e=true){l1 l2:List Tab}{t:Tab}(hts:a.ts=l1++t::l2)(hm:(e.n,e)∈t.es)(hks:t.ks.Pairwise (· < ·)):Spec Tryz.prog 268 [.ptr a.A 0 0,A6 e,iA k] (arS a) λr S'=>∃b:Ar,(if k∈t.ks then SwapR a e (Aa t e.n) ((Aa t e.n).eraseIdx (KX t.ks k)) b else b=a)/\r=iA (if k∈t.ks then 0 else 4)/\S'=arS b:=by
 have htm:t∈a.ts:=by rw[hts];simp
 have hto:=ha.tab t htm;have hnk:e.n∈AJ t.es:=List.mem_map.2 ⟨_,hm,rfl⟩;have hnl:=hto.es.lt _ hnk;have hs:=Id a ha e hn;rw[hh]at hs;have hbs:=RL t.ks k hks (by have:=hto.ks;omega);obtain⟨u,hgd,hone,hK⟩:=ha.ptr htm hnk;refine Sp (nt:=41) (res:=[.tmp 6]) Tryz.func268 λSf=>?_
 refine JE ?_;refine Ai λB=>?_;refine JD ?_
 refine JH ?_;refine AOps.gN ?_;refine EN [_] (h:=hs) (k:=?_);refine JD ?_;refine AA rfl rfl ?_;refine FL ?_;refine AWP.perm (List.Perm.cons _ (EU hts Sf)) ?_;refine RU ?_;(iterate 6 refine RK ?_);refine RGo.gN ?_;refine RGo.go (h:=W.lookP (.ptr t.X 0 0) hgd hn hone hK rfl rfl (by exact At.f) (by exact At.f)) (k:=?_);refine KR ?_;refine RGo.g_callf ?_;refine RGo.c2 (h:=(hbs ..)) (k:=?_);(iterate 5 refine RK ?_);refine RGo.nil (by kernel_rfl) ?_;by_cases hk:k∈t.ks
 ·rw[Ae hk]
  simp only[if_pos hk];refine JC ?_;refine AA rfl rfl ?_;refine FL ?_;refine AWP.perm (List.Perm.cons _ (EU hts Sf).symm) ?_;(repeat refine WF ?_);have htk:=M6 a ha hne hts hnk;obtain⟨i,hi⟩:=nm (KX t.ks k);rw[hi];obtain⟨hil,hik⟩:=OV hks hk;rw[hi]at hil;have htl:(Aa t e.n).length=t.ks.length:=by unfold Aa;rw[AB,List.length_zip];have:=hto.len;omega
  have h16:=hto.ks;refine Dc (n:=1) [(B,.row 32 2 [A6 e])] (arS a++Sf) rfl (by kernel_rfl) (by kernel_rfl) ?_;refine RGoH.go ?_;refine RGoH.go ?_;refine RGoH.go ?_;refine RGoH.go ?_;refine RGoH.go ?_;refine RGoH.skip [32,34] ?_;refine RGoH.go ?_;refine RGoH.go ?_;refine RGoH.go (h:=Bc ((i:Int)+1) (by omega) (by omega) rfl rfl) ?_;refine RGoH.skip [35,36,38] ?_;refine RGoH.skip [30,31,39] ?_;refine RGoH.nil (by kernel_rfl) (by kernel_rfl) (by kernel_rfl) ?_;refine HC.step [(32,.ptr a.A 0 0),(34,iA e.n)] ⟨rfl,rfl,rfl,rfl,trivial⟩ λT F=>?_
  refine Lb F (h:=htk) (k:=λY _ K=>?_);obtain⟨hok,hne2,hA,hki,hge,hit⟩:=KZ ha hne hts hm Y;obtain⟨b,hb⟩:=nm (E3 a l1 l2 t e.n Y);rw[hb]at hok hne2 hA hki hge hit⊢;refine AOps.perm List.perm_middle.symm ?_;refine AOps.nil ⟨rfl,_,_,⟨λd v h=>h,.refl _⟩,?_⟩;have hdl:=QT K (Aa t e.n).length i ((Aa t e.n).map (AH false)) (AB _).symm (by omega) (by omega) (QV _) (Sd _);rw[<-Fg]at hdl;refine HC.step [(35,.sl K 0 ((Aa t e.n).map (AH false)).length),(36,iA i),(38,iA ((i:Int)+1))] ⟨rfl,rfl,rfl,rfl,rfl,rfl,trivial⟩ λT2 F2=>?_
  rw[AB];refine V8 F2 (h:=hdl) (k:=?_) (R:=arS b++Sf);refine AOps.nil ⟨rfl,_,_,⟨λd v h=>h,.refl _⟩,?_⟩;rw[<-hA];refine HC.step [(30,.ptr b.A 0 0),(31,A6 e),(39,Aw false false ((Aa t e.n).eraseIdx i))] ⟨rfl,rfl,rfl,rfl,rfl,rfl,trivial⟩ λT3 F3=>?_
  have had:=LR b e ((Aa t e.n).eraseIdx i) hok hne2 hnl (Kt ha hok hit) (by rw[List.length_eraseIdx];split<;>omega);refine D6 F3 (h:=had) (k:=λb2 hb2=>?_);refine AOps.nil ⟨rfl,_,_,⟨λd v h=>h,.refl _⟩,?_⟩;show andThen _ _ _ _
  refine JI ?_;obtain⟨g1,g2,g3,g4,g5,g6⟩:=hb2;exact Ends.sp [iA 0] (arS b2) ⟨b2,⟨g1,g2,g3.trans hA,g4.trans hki,g5.trans hge,_,hit,g6⟩,rfl,rfl⟩
 ·rw[AY hk]
  simp only[if_neg hk];refine JC ?_;refine AM rfl rfl ?_;refine FL ?_;refine AWP.perm (List.Perm.cons _ (EU hts Sf).symm) ?_;refine R1 ?_;refine RT ?_;exact Ends.sp [iA 4] (arS a) ⟨a,rfl,rfl,rfl⟩
section
abbrev setT(t:Tab)(m1 m2:List (StK×List (Int×List Int)))(k:StK)(l:List (Int×List Int))(n:Int)(v:List Int):Tab:=⟨t.X,t.ks,t.ek,t.es,m1++(k,Bl l n v)::m2⟩
section
variable {t:Tab}{m1 m2:List (StK×List (Int×List Int))}{c:StK×List (Int×List Int)}{k:StK}{n:Int}{v:List Int}
theorem TabOK.setT(h:TabOK t)(hcs:t.cs=m1++c::m2)(hn:n∈AJ t.es):TabOK (setT t m1 m2 k c.2 n v):=by
 have hcm:c∈t.cs:=by rw[hcs];simp
 have hnl:=h.es.lt n hn
 have hmem:∀d,d∈m1++(k,Bl c.2 n v)::m2->d=(k,Bl c.2 n v)\/d∈t.cs:=λd hd=>by
  rw[hcs];rcases List.mem_append.1 hd with hd|hd
  ·exact .inr (by simp[hd])
  ·rcases List.mem_cons.1 hd with hd|hd
   ·exact .inl hd
   ·exact .inr (by simp[hd])
 refine⟨by have:=h.len;rw[hcs]at this;simpa using this,h.ks,h.es,λd hd=>?_,λd hd m=>?_⟩
 ·rcases hmem d hd with rfl|hd
  ·exact(h.cs c hcm).put hnl v
  ·exact h.cs d hd
 ·rcases hmem d hd with rfl|hd
  ·show m∈AJ (Bl c.2 n v)↔_
   rw[Ev ((h.keys c hcm n).2 hn)];exact h.keys c hcm m
  ·exact h.keys d hd m
theorem N9{β γ:Type}{ks:List β}{m1 m2:List γ}{c d:γ}{f:β×γ->Comp}:(ks.zip (m1++d::m2)).map f=match ks[m1.length]? with|some k=>((ks.zip (m1++c::m2)).map f).set m1.length (f (k,d))|none=>(ks.zip (m1++c::m2)).map f:=by
 induction m1 generalizing ks with
 |nil=>cases ks<;>rfl
 |cons x m1 ih=>
  cases ks with
  |nil=>rfl
  |cons y ks=>
   simp only[BF,List.zip_cons_cons,List.map_cons,Bm,List.getElem?_cons_succ];rw[ih];cases ks[m1.length]? with
   |none=>rfl
   |some k=>rfl
theorem N4(h:TabOK t)(hcs:t.cs=m1++c::m2)(hn:n∈AJ t.es){z:Int}(hz:t.ks[m1.length]?=some z):Aa (setT t m1 m2 k c.2 n v) n=(Aa t n).set m1.length ⟨z,v⟩:=by
 unfold Aa;rw[N9 (c:=c) (d:=(k,Bl c.2 n v)),hcs,hz];dsimp only;rw[Gn (h.cs c (by rw[hcs];simp)) (h.es.lt n hn),if_pos rfl];rfl
theorem N3(h:TabOK t)(hcs:t.cs=m1++c::m2)(hn:n∈AJ t.es){m:Int}(hne:m≠n):Aa (setT t m1 m2 k c.2 n v) m=Aa t m:=by
 unfold Aa;rw[N9 (c:=c) (d:=(k,Bl c.2 n v)),hcs];cases hz:t.ks[m1.length]? with
 |none=>rfl
 |some z=>
  dsimp only;rw[Gn (h.cs c (by rw[hcs];simp)) (h.es.lt n hn),if_neg hne];refine List.ext_getElem? λj=>?_
  rw[List.getElem?_set];split
  ·rename_i e
   subst e;split
   ·rw[AG,(List.getElem?_zip_eq_some (z:=(z,c))).2 ⟨hz,by simp⟩]
    rfl
   ·rename_i hlt
    rw[List.getElem?_eq_none (by omega)]
  ·rfl
theorem PT(h:TabOK t)(hcs:t.cs=m1++c::m2){e:Ent}(hm:(n,e)∈t.es){z:Int}(hz:t.ks[m1.length]?=some z):(B3 (setT t m1 m2 k c.2 n v)).Perm (⟨e,(Aa t n).set m1.length ⟨z,v⟩⟩::B3 (Ds t n)):=by
 have hn:n∈AJ t.es:=List.mem_map.2 ⟨_,hm,rfl⟩;have hp:=C8 h.es hm;have h1:=hp.map λp:Int×Ent=>(⟨p.2,Aa (setT t m1 m2 k c.2 n v) p.1⟩:Item)
 refine h1.trans ?_;rw[List.map_cons,N4 h hcs hn hz];refine List.Perm.cons _ (List.Perm.of_eq ?_);show _=(BV t.es n).map λp=>(⟨p.2,Aa (Ds t n) p.1⟩:Item)
 refine List.map_congr_left λp hp'=>?_
 have hk:p.1∈AJ (BV t.es n):=List.mem_map.2 ⟨p,hp',rfl⟩;have hne:=((Dl h.es).1 hk).2;rw[Iv h hne,N3 h hcs hn hne]
end
section
variable {a:Ar}{l1 l2:List Tab}{t:Tab}{m1 m2:List (StK×List (Int×List Int))}{c:StK×List (Int×List Int)}{k:StK}{n:Int}{v:List Int}
theorem Tu:BN (l1++setT t m1 m2 k c.2 n v::l2)=BN (l1++t::l2):=by
 rw[CN,Ce,CN,Ce]
theorem ArOK.setT(h:ArOK a)(hts:a.ts=l1++t::l2)(hcs:t.cs=m1++c::m2)(hn:n∈AJ t.es):ArOK {a with ts:=l1++Go.Proofs.YtiidbamlcgbpnaaGreat.setT t m1 m2 k c.2 n v::l2}:=by
 have htm:t∈a.ts:=by rw[hts];simp
 have hmem:∀u,u∈l1++Go.Proofs.YtiidbamlcgbpnaaGreat.setT t m1 m2 k c.2 n v::l2->u=Go.Proofs.YtiidbamlcgbpnaaGreat.setT t m1 m2 k c.2 n v\/u∈a.ts:=λu hu=>by
  rw[hts];rcases List.mem_append.1 hu with hu|hu
  ·exact .inr (by simp[hu])
  ·rcases List.mem_cons.1 hu with hu|hu
   ·exact .inl hu
   ·exact .inr (by simp[hu])
 have hk:BN (l1++Go.Proofs.YtiidbamlcgbpnaaGreat.setT t m1 m2 k c.2 n v::l2)=BN a.ts:=by rw[hts,Tu]
 refine⟨λu hu=>?_,?_,by show(BN _).Nodup;rw[hk];exact h.keys,λu hu=>?_,λm u hg=>?_,λm hm'=>h.gn m (by rw[<-hk];exact hm'),by show a.c=(BN _).length;rw[hk];exact h.cnt⟩
 ·rcases hmem u hu with rfl|hu
  ·exact(h.tab t htm).setT hcs hn
  ·exact h.tab u hu
 ·have ho:=h.ord
  rw[hts]at ho;rw[List.pairwise_append,List.pairwise_cons]at ho⊢
  exact⟨ho.1,⟨λx hx=>ho.2.1.1 x hx,ho.2.1.2⟩,λx hx y hy=>by
   rcases List.mem_cons.1 hy with rfl|hy
   ·exact ho.2.2 x hx t (by simp)
   ·exact ho.2.2 x hx y (by simp[hy])⟩
 ·rcases hmem u hu with rfl|hu
  ·exact h.ent t htm
  ·exact h.ent u hu
 ·obtain⟨w,hw,h2,h3,h4⟩:=h.g m u hg
  rw[hts]at hw;rcases List.mem_append.1 hw with hw|hw
  ·exact⟨w,by simp[hw],h2,h3,h4⟩
  ·rcases List.mem_cons.1 hw with rfl|hw
   ·exact⟨Go.Proofs.YtiidbamlcgbpnaaGreat.setT w m1 m2 k c.2 n v,by simp,h2,h3,h4⟩
   ·exact⟨w,by simp[hw],h2,h3,h4⟩
theorem SH(h:ArOK a)(hts:a.ts=l1++t::l2)(hcs:t.cs=m1++c::m2){e:Ent}(hm:(n,e)∈t.es){z:Int}(hz:t.ks[m1.length]?=some z):(As (l1++Go.Proofs.YtiidbamlcgbpnaaGreat.setT t m1 m2 k c.2 n v::l2)).Perm (⟨e,(Aa t n).set m1.length ⟨z,v⟩⟩::As (l1++Ds t n::l2)):=by
 have hto:=h.tab t (by rw[hts];simp);rw[B0,CB,B0,CB];refine(((PT hto hcs hm hz).append_right _).append_left _).trans ?_;exact B5 (As l1) [(⟨e,(Aa t n).set m1.length ⟨z,v⟩⟩:Item)] (B3 (Ds t n)++As l2)
theorem WX(hne:Ej a.ts)(hts:a.ts=l1++t::l2):Ej (l1++Go.Proofs.YtiidbamlcgbpnaaGreat.setT t m1 m2 k c.2 n v::l2):=λu hu=>by
 have h:∀w∈l1++t::l2,w.es≠[]:=by rw[<-hts];exact hne
 rcases List.mem_append.1 hu with hu|hu
 ·exact h u (by simp[hu])
 ·rcases List.mem_cons.1 hu with rfl|hu
  ·exact h t (by simp)
  ·exact h u (by simp[hu])
end
end
section
structure ArFor(a:Ar)(w:Wd):Prop where
 ok:ArOK a
 ne:Ej a.ts
 kinds:a.kinds=w.kinds
 gens:a.gens=w.gens
 items:(As a.ts).Perm w.items
 wok:WdOK w
theorem KW{k:Int}:∀{l:List Comp},CT l->KX (l.map (·.kind)) k=Cf l k
 |[],_=>rfl
 |x::l,h=>by
  obtain⟨h1,h2⟩:=List.pairwise_cons.1 h;have ih:=KW (k:=k) h2;unfold KX at ih⊢;unfold Cf at ih⊢;rw[List.map_cons,List.filter_cons,List.takeWhile_cons];by_cases e:x.kind<k
  ·simp only[e,decide_true,if_true,Bm,ih]
  ·simp only[e,decide_false,Bool.false_eq_true,if_false,List.length_nil]
   rw[List.length_eq_zero_iff,List.filter_eq_nil_iff];intro y hy;obtain⟨c,hc,rfl⟩:=List.mem_map.1 hy;have:=h1 c hc;simp only[AF];omega
theorem LF{l:List Comp}(h:CT l){k:Int}:(BH l k).isSome=true↔k∈l.map (·.kind):=by
 constructor
 ·intro e
  obtain⟨c,hc⟩:=Option.isSome_iff_exists.1 e;obtain⟨hm,hk⟩:=(Bw h).1 hc;exact List.mem_map.2 ⟨c,hm,hk⟩
 ·intro e
  obtain⟨c,hm,hk⟩:=List.mem_map.1 e;rw[(Bw h).2 ⟨hm,hk⟩];rfl
theorem Cv{t:Tab}(h:TabOK t)(n:Int):(Aa t n).map (·.kind)=t.ks:=by
 have hl:=h.len;refine List.ext_getElem (by simp[Aa];omega) λi h1 h2=>?_
 rw[List.getElem_map,D9 (by simpa using h1) h2 (by omega)]
section
variable {a:Ar}{w:Wd}
theorem ArFor.item(h:ArFor a w){t:Tab}(ht:t∈a.ts){e:Ent}(hm:(e.n,e)∈t.es):∃i:Nat,w.items[i]?=some ⟨e,Aa t e.n⟩:=by
 have h1:(⟨e,Aa t e.n⟩:Item)∈As a.ts:=List.mem_flatMap.2 ⟨t,ht,List.mem_map.2 ⟨_,hm,rfl⟩⟩;obtain⟨i,hi,e1⟩:=List.getElem_of_mem (h.items.mem_iff.1 h1);exact⟨i,by rw[AE hi,e1]⟩
theorem ArFor.held(h:ArFor a w){t:Tab}(ht:t∈a.ts){e:Ent}(hm:(e.n,e)∈t.es):A7 w.kinds (Aa t e.n)=true:=by
 obtain⟨i,hi⟩:=h.item ht hm;exact(h.wok.it _ (Ao hi)).2.2.2.2
theorem ArFor.sort(h:ArFor a w){t:Tab}(ht:t∈a.ts){e:Ent}(hm:(e.n,e)∈t.es):CT (Aa t e.n):=(held_iff.1 (h.held ht hm)).1
theorem J3{t:Tab}(ht:TabOK t){n:Int}(hs:CT (Aa t n)):t.ks.Pairwise (· < ·):=by
 rw[<-Cv ht n];exact List.pairwise_map.2 hs
theorem ArFor.hasE(h:ArFor a w){e:Ent}(hh:Fx a e=false):CY w.items e<0:=by
 by_cases hlt:CY w.items e<0
 ·exact hlt
 ·obtain⟨m,hm⟩:∃m:Nat,CY w.items e=m:=⟨(CY w.items e).toNat,by omega⟩
  obtain⟨x,hx,_,rfl⟩:=F6 hm;unfold Fx at hh;rw[AQ]at hh;exact absurd (List.mem_map.2 ⟨x,h.items.mem_iff.2 (Ao hx),rfl⟩) hh
theorem TU{w:List Item}{i:Nat}{x y:Item}(h:w[i]?=some x){l r:List Item}(h1:l.Perm (x::r))(h2:l.Perm w):(y::r).Perm (w.set i y):=by
 obtain⟨hl,_⟩:=List.getElem?_eq_some_iff.1 h;have e1:=J1 h;have e2:w.set i y=w.take i++y::w.drop (i+1):=List.set_eq_take_append_cons_drop.trans (if_pos hl);rw[e2];refine List.Perm.trans ?_ List.perm_middle.symm;refine List.Perm.cons _ ?_;have h3:(x::r).Perm (x::(w.take i++w.drop (i+1))):=h1.symm.trans (h2.trans ((List.Perm.of_eq e1).trans List.perm_middle));exact h3.cons_inv
theorem OL{w:List Item}{i:Nat}{x:Item}(h:w[i]?=some x){l r:List Item}(h1:l.Perm (x::r))(h2:l.Perm w):r.Perm (w.eraseIdx i):=by
 have e1:=J1 h;have h3:(x::r).Perm (x::(w.take i++w.drop (i+1))):=h1.symm.trans (h2.trans ((List.Perm.of_eq e1).trans List.perm_middle));rw[List.eraseIdx_eq_take_drop_succ];exact h3.cons_inv
theorem ArFor.swap(h:ArFor a w){e:Ent}{l l':List Comp}{b:Ar}(hs:SwapR a e l l' b){i:Nat}(hi:w.items[i]?=some ⟨e,l⟩)(hc:A7 w.kinds l'=true):ArFor b (DY w i l'):=by
 obtain⟨r,h1,h2⟩:=hs.items;have hk:(DY w i l').kinds=w.kinds:=rfl;refine⟨hs.ok,hs.ne,by rw[hs.kinds,h.kinds];rfl,by rw[hs.gens,h.gens];rfl,?_,HN h.wok hi hc⟩;rw[HO hi];exact h2.trans (TU hi h1 h.items)
theorem ArFor.kill(h:ArFor a w){e:Ent}{b:Ar}(hs:KillR a e b)(hh:Fx a e=true):(EB w e).2=0/\ArFor b (EB w e).1:=by
 obtain⟨l,h1⟩:=hs.items;have hm:(⟨e,l⟩:Item)∈w.items:=h.items.mem_iff.1 (h1.mem_iff.2 (by simp));obtain⟨i,hi,e1⟩:=List.getElem_of_mem hm;have hi:w.items[i]?=some ⟨e,l⟩:=by rw[AE hi,e1]
 have hk:=MS h.wok hi;have hw:=RA h.wok hi;dsimp only at hk hw;rw[hk];refine⟨rfl,hs.ok,hs.ne,by rw[hs.kinds,h.kinds],?_,OL hi h1 h.items,hw⟩;rw[hs.gens,h.gens,Bp]
theorem ArFor.used(h:ArFor a w)(n:Nat):(a.g n).isSome=GK w.items n:=by
 have hk:(n:Int)∈BN a.ts↔GK w.items n=true:=by
  rw[h.ok.keys_items];unfold GK;rw[List.any_eq_true];constructor
  ·intro hm
   obtain⟨x,hx,e⟩:=List.mem_map.1 hm;exact⟨x,h.items.mem_iff.1 hx,by simpa using e⟩
  ·rintro⟨x,hx,e⟩
   exact List.mem_map.2 ⟨x,h.items.mem_iff.2 hx,by simpa using e⟩
 by_cases hu:(n:Int)∈BN a.ts
 ·rw[h.ok.gn _ hu,hk.1 hu]
 ·have h2:GK w.items n=false:=by rw[<-Bool.not_eq_true];exact λe=>hu (hk.2 e)
  rw[h2];cases hg:a.g n with
  |none=>rfl
  |some u=>
   obtain⟨t,ht,hm,_⟩:=h.ok.g _ _ hg;exact absurd (List.mem_flatMap.2 ⟨t,ht,hm⟩) hu
end
end
theorem WS(a:Ar)(ha:ArOK a)(e:Ent)(c:Comp)(hn:I64 e.n)(hh:Fx a e=false):Spec Tryz.prog 267 [.ptr a.A 0 0,A6 e,AH false c] (arS a) λr S'=>r=iA 4/\S'=arS a:=by
 have hs:=Id a ha e hn;rw[hh]at hs;refine Sp (nt:=77) (res:=[.tmp 6]) Tryz.func267 λSf=>?_
 refine RG ?_;(repeat first|refine WO ?_|refine Ai λB=>?_|refine Ay λY=>?_);refine NL ?_;refine JH ?_;refine AOps.gN ?_;refine EN [_,_] (h:=hs) (k:=?_);refine JD ?_;refine AM rfl rfl ?_;refine JI ?_;exact Ends.sp [iA 4] (arS a) ⟨rfl,rfl⟩
theorem VI(a b:Comp):PS Tryz.prog 287 [AH false a,AH false b] (iA (Cp a.kind b.kind)):=by
 refine Sp (nt:=10) (res:=[.tmp 4]) Tryz.func287 λSf=>?_
 refine WK ?_;refine WK ?_;refine AOps.g_box ?_;refine Aj ?_;refine AOps.g_box ?_;refine Aj ?_;refine KK ?_;refine AOps.g_callf ?_;refine AOps.c2 (h:=(E9 a.kind b.kind)) (k:=?_);refine JA ?_;refine AI ?_;rfl
theorem S7{ks:List Kind}{c:Comp}{fl:List Comp}(h:CH ks [c]=(fl,0)):∃v,fl=[⟨c.kind,v⟩]:=by
 unfold CH at h;split at h
 ·rename_i h1;injection h with h2 h3;exact absurd h3 h1
 split at h
 ·rename_i h1;injection h with h2 h3;exact absurd h3 h1
 rename_i h0 h1;injection h with h2 h3
 have h1:(Cn ks [] [] [c]).2=0:=Decidable.not_not.1 h1;rw[<-h2];rw[Cn]at h1⊢;split at h1
 ·cases h1
 ·rename_i g1
  rw[if_neg g1];split at h1
  ·cases h1
  ·rename_i g2
   rw[if_neg g2];split at h1
   ·cases h1
   ·rename_i k hk
    split at h1
    ·rename_i g3;exact absurd h1 g3
    ·rename_i g3
     simp only[if_neg g3,Cn,GF,BD,List.mergeSort_singleton];exact⟨_,rfl⟩
def Wt(a:Ar)(e:Ent)(l:List Comp)(c:Comp)(b:Ar):Prop:=((CH a.kinds [c]).2≠0/\b=a)\/∃d,CH a.kinds [c]=([d],0)/\SwapR a e l (Fi l d) b
theorem Pw{l u:List Comp}{d:Comp}(hl:CT l)(hd:d.kind∉l.map (·.kind))(hp:u.Perm (l++[d]))(hs:u.Pairwise λa b=>AZ (λx y:Comp=>Cp x.kind y.kind) b a=false):u=Fi l d:=by
 have hle:u.Pairwise λa b=>a.kind<=b.kind:=hs.imp λ{x y} h=>by
  unfold AZ at h;simp only[AQ]at h;have:¬y.kind<x.kind:=λe=>h (cmpI_ltz.2 e)
  omega
 have hne:(l++[d]).Pairwise λa b=>a.kind≠b.kind:=by
  rw[List.pairwise_append];refine⟨hl.imp λh=>by omega,by simp,λa ha b hb e=>?_⟩;rw[BP]at hb;subst hb;exact hd (List.mem_map.2 ⟨a,ha,e⟩)
 have hne2:u.Pairwise λa b=>a.kind≠b.kind:=hp.symm.pairwise hne λh=>Ne.symm h
 refine MD ((hle.and hne2).imp λh=>by obtain⟨x,y⟩:=h;omega) (Ia hl) λx=>?_
 rw[hp.mem_iff,H2 hl,CS,BP];constructor
 ·rintro(h|rfl)
  ·exact .inr ⟨h,λe=>hd (List.mem_map.2 ⟨x,h,e⟩)⟩
  ·exact .inl rfl
 ·rintro(rfl|h)
  ·exact .inr rfl
  ·exact .inl h.1
theorem VG(a:Ar)(ha:ArOK a)(hne:Ej a.ts)(e:Ent)(c:Comp)(hn:I64 e.n)(hkl:I64 c.kind)(h12:a.kinds.length<=12)(hh:Fx a e=true){l1 l2:List Tab}{t:Tab}(hts:a.ts=l1++t::l2)(hm:(e.n,e)∈t.es)(hso:CT (Aa t e.n))(h11:(CH a.kinds [c]).2=0->c.kind∉t.ks->t.ks.length<=11):Spec Tryz.prog 267 [.ptr a.A 0 0,A6 e,AH false c] (arS a) λr S'=>∃b:Ar,Wt a e (Aa t e.n) c b/\r=iA (CH a.kinds [c]).2/\S'=arS b:=by
 have htm:t∈a.ts:=by rw[hts];simp
 have hto:=ha.tab t htm;have hks:=J3 hto hso;have hnk:e.n∈AJ t.es:=List.mem_map.2 ⟨_,hm,rfl⟩;have hnl:=hto.es.lt _ hnk;have hs:=Id a ha e hn;rw[hh]at hs;have hbs:=RL t.ks c.kind hks (by have:=hto.ks;omega);have hft:=Hq a.kinds [c] h12 (by simp);obtain⟨u,hgd,hone,hK⟩:=ha.ptr htm hnk;obtain⟨⟨fl,fe⟩,hfe⟩:=nm (CH a.kinds [c]);unfold Wt;rw[hfe]at hft h11⊢;dsimp only at hft h11⊢;refine Sp (nt:=77) (res:=[.tmp 6]) Tryz.func267 λSf=>?_
 refine RG ?_;(repeat first|refine WO ?_|refine Ai λB=>?_|refine Ay λY=>?_);refine NL ?_;rename_i Be;refine JH ?_;refine AOps.gN ?_;refine EN [_,_] (h:=hs) (k:=?_);refine JD ?_;refine AA rfl rfl ?_;refine FL ?_;refine RU ?_;(iterate 5 refine RK ?_);refine RGo.gN ?_;refine RGo.go (v:=.lst false 42 2 [AH false c]) (h:=W.litF1 (v0:=AH false c) rfl rfl (.inl rfl) (by decide) (by decide) rfl) ?_;refine RGo.g_callf ?_;refine RGo.c2 (h:=(hft ..)) (k:=?_);(iterate 5 refine RK ?_);refine RGo.nil (by kernel_rfl) ?_;refine JC ?_;refine AWP.cond rfl (λh0=>?_) (λh0=>?_)
 ·refine FL ?_
  refine R1 ?_;refine RT ?_;exact Ends.sp [iA fe] (arS a) ⟨a,.inl ⟨by simpa using h0,rfl⟩,rfl,rfl⟩
 have h0:fe=0:=by simpa using h0
 subst h0;obtain⟨v,rfl⟩:∃v,fl=[⟨c.kind,v⟩]:=S7 hfe;refine FL ?_;refine AWP.perm (List.Perm.cons _ (List.Perm.cons _ (EU hts Sf))) ?_;refine RU ?_;(iterate 6 refine RK ?_);refine RGo.gN ?_;refine RGo.go (h:=W.lookP (.ptr t.X 0 0) hgd hn hone hK rfl rfl (by exact At.f) (by exact At.f)) (k:=?_);refine RK ?_;refine RGo.nil (by kernel_rfl) ?_;refine FL ?_;refine JL ?_;refine RGo.g_callf ?_;refine RGo.c2 (h:=(hbs ..)) (k:=?_);(iterate 5 refine RK ?_);refine RGo.nil (by kernel_rfl) ?_;refine FL ?_;by_cases hk:c.kind∈t.ks
 ·rw[Ae hk]
  refine R1 ?_;refine AM rfl rfl ?_;obtain⟨hil,hik⟩:=OV hks hk;obtain⟨i,hi⟩:=nm (KX t.ks c.kind);have hca:Cf (Aa t e.n) c.kind=i:=by rw[<-hi,<-KW hso,Cv hto]
  rw[hi]at hil⊢;have hic:i<t.cs.length:=by rw[<-hto.len];exact hil
  obtain⟨m1,m2,hsp,hm1⟩:=Fb hic;have hcat:(t.cs.map λc=>AV.ptr c.1.X 0 0)[i]?=some (.ptr t.cs[i].1.X 0 0):=BB _ hic;have hcil:i<(t.cs.map λc=>AV.ptr c.1.X 0 0).length:=by rw[AB];exact hic
  obtain⟨col,hce⟩:=nm (t.cs[i]);rw[hce]at hsp hcat;have hcok:ColOK col.2:=hto.cs _ (by rw[hsp];simp);have hpu:=(Ow col.1 col.2 hcok e.n v hnl).tt;refine FL ?_;(repeat refine WF ?_);refine Dc (n:=8) ([(B,.row 42 2 [AH false c]),(Be,.row 32 2 [A6 e])]++(arH a++[D7 t])) (stE t.ek t.es++(Bg t.cs++(BL l1++(BL l2++Sf)))) rfl (by kernel_rfl) (by kernel_rfl) ?_;refine RGoH.go ?_;refine RGoH.go ?_;refine RGoH.go ?_;refine RGoH.go ?_;refine RGoH.go ?_;refine RGoH.go (h:=W.idxL (a:=i) rfl rfl rfl hcat) ?_;refine RGoH.go ?_;refine RGoH.go ?_;refine RGoH.go ?_;refine RGoH.go ?_;refine RGoH.go (h:=W.idxL (a:=0) (e:=AH false ⟨c.kind,v⟩) rfl rfl rfl rfl) ?_;refine RGoH.go ?_;refine RGoH.go ?_;refine RGoH.skip [54,56,60] ?_;refine RGoH.nil (by kernel_rfl) (by kernel_rfl) (by kernel_rfl) ?_;refine HC.step [(54,.ptr col.1.X 0 0),(56,iA e.n),(60,AN false v)] ⟨rfl,rfl,rfl,rfl,rfl,rfl,trivial⟩ λT F=>?_
  have heq:F++(stE t.ek t.es++(Bg t.cs++(BL l1++(BL l2++Sf))))=(F++(stE t.ek t.es++Bg m1))++(stS col.1 col.2++(Bg m2++(BL l1++(BL l2++Sf)))):=by
   rw[hsp,DM,DE];simp only[AP]
  refine D6 _ (h:=hpu) (k:=λq2 _=>?_) (hp:=heq);obtain⟨k2,hk2⟩:∃k2:StK,k2=⟨col.1.X,q2.1,q2.2,col.1.M⟩:=⟨_,rfl⟩;have hkx:k2.X=col.1.X:=by rw[hk2]
  rw[<-hk2]
  have heq2:(F++(stE t.ek t.es++Bg m1))++(stS k2 (Bl col.2 e.n v)++(Bg m2++(BL l1++(BL l2++Sf))))=F++(stE t.ek t.es++(Bg (m1++(k2,Bl col.2 e.n v)::m2)++(BL l1++(BL l2++Sf)))):=by
   rw[DM,DE];simp only[AP]
  refine AOps.perm (List.Perm.of_eq heq2) ?_;refine AOps.nil ⟨rfl,_,_,⟨λd v h=>h,.refl _⟩,?_⟩;obtain⟨b,hb⟩:∃b:Ar,b={a with ts:=l1++setT t m1 m2 k2 col.2 e.n v::l2}:=⟨_,rfl⟩;have hbt:b.ts=l1++setT t m1 m2 k2 col.2 e.n v::l2:=by rw[hb]
  have hbl:b.ts.length=a.ts.length:=by rw[hbt,hts,AL,AL];rfl
  have hbp:ptrs Tab.X b.ts=ptrs Tab.X a.ts:=by rw[hbt,hts,ptrs,ptrs,List.map_append,List.map_append];rfl
  have hH:arH b=arH a:=by
   show[_,_,_,_,_]=[_,_,_,_,_]
   rw[hbl,hbp,hb]
  have hT:D7 (setT t m1 m2 k2 col.2 e.n v)=D7 t:=by
   show(t.X,AO.row _ _ [AV.agg [AN false t.ks,_,.lst false _ _ ((m1++(k2,Bl col.2 e.n v)::m2).map λc=>AV.ptr c.1.X 0 0)]])=(t.X,AO.row _ _ [AV.agg [AN false t.ks,_,.lst false _ _ (t.cs.map λc=>AV.ptr c.1.X 0 0)]])
   rw[hsp,List.map_append,List.map_append,List.map_cons,List.map_cons,hkx]
  have hfr:=EU hbt Sf;rw[hH,hT]at hfr;show andThen _ _ _ _
  refine AWP.perm (S':=(B,.row 42 2 [AH false c])::(Be,.row 32 2 [A6 e])::(arS b++Sf)) ?_ ?_
  ·refine List.Perm.trans (List.Perm.of_eq ?_) (List.Perm.cons _ (List.Perm.cons _ hfr.symm))
   simp only[BF,BD]
  refine JI ?_
  have hins:Fi (Aa t e.n) ⟨c.kind,v⟩=(Aa t e.n).set m1.length ⟨c.kind,v⟩:=by
   rw[RF hso,if_pos ((LF hso).2 (by rw[Cv hto];exact hk)),hca,hm1]
  have hz:t.ks[m1.length]?=some c.kind:=by rw[hm1,AE hil];congr 1;simpa only[hi]using hik
  refine Ends.sp [iA 0] (arS b) ⟨b,.inr ⟨⟨c.kind,v⟩,rfl,?_⟩,rfl,rfl⟩;rw[hins,hb];exact⟨ha.setT hts hsp hnk,WX hne hts,rfl,rfl,rfl,_,Kf ha hts hm,SH ha hts hsp hm hz⟩
 ·rw[AY hk]
  refine R1 ?_;refine AA rfl rfl ?_;refine FL ?_;refine AWP.perm (List.Perm.cons _ (List.Perm.cons _ (EU hts Sf).symm)) ?_;(repeat refine WF ?_);have htk:=M6 a ha hne hts hnk;have htl:(Aa t e.n).length=t.ks.length:=by unfold Aa;rw[AB,List.length_zip];have:=hto.len;omega
  have h16:=hto.ks;refine Dc (n:=2) [(B,.row 42 2 [AH false c]),(Be,.row 32 2 [A6 e])] (arS a++Sf) rfl (by kernel_rfl) (by kernel_rfl) ?_;refine RGoH.go ?_;refine RGoH.go ?_;refine RGoH.go ?_;refine RGoH.skip [62,64] ?_;refine RGoH.go ?_;refine RGoH.go (h:=W.idxL (a:=0) (e:=AH false ⟨c.kind,v⟩) rfl rfl rfl rfl) ?_;refine RGoH.go ?_;refine RGoH.go (v:=.lst false 42 2 [AH false ⟨c.kind,v⟩]) (h:=W.litF1 (v0:=AH false ⟨c.kind,v⟩) rfl rfl (.inl rfl) (by decide) (by decide) rfl) ?_;refine RGoH.skip [65,69] ?_;refine RGoH.skip [70] ?_;refine RGoH.nil (by kernel_rfl) (by kernel_rfl) (by kernel_rfl) ?_;refine HC.step [(62,.ptr a.A 0 0),(64,iA e.n)] ⟨rfl,rfl,rfl,rfl,trivial⟩ λT F=>?_
  refine Lb F (h:=htk) (k:=λY _ K=>?_);obtain⟨hok,hne2,hA,hki,hge,hit⟩:=KZ ha hne hts hm Y;obtain⟨b,hb⟩:=nm (E3 a l1 l2 t e.n Y);rw[hb]at hok hne2 hA hki hge hit⊢;refine AOps.perm List.perm_middle.symm ?_;refine AOps.nil ⟨rfl,_,_,⟨λd v h=>h,.refl _⟩,?_⟩;refine HC.step [(65,.sl K 0 ((Aa t e.n).map (AH false)).length),(69,.lst false 42 2 [AH false ⟨c.kind,v⟩])] ⟨rfl,rfl,rfl,rfl,trivial⟩ λT2 F2=>?_
  refine AOps.perm List.perm_middle ?_;refine AOps.rs λZ=>?_
  refine AOps.goS (h:=W.app (X:=K) (Y:=Z) rfl rfl (by exact At.f) (by exact At.f) (by rw[AB]) (by rw[AB];show(_+1)*32<=_;omega) (by rw[AB];unfold maxLen;show _+1<=_;omega) (by decide)) (k:=?_);dsimp only[AX,List.set_cons_zero,List.set_cons_succ];refine AOps.perm (List.Perm.cons _ List.perm_middle.symm) ?_;refine AOps.nil ⟨rfl,_,_,⟨λd v h=>h,.cons _ (.refl _)⟩,?_⟩;refine HC.step [(70,.sl Z 0 (((Aa t e.n).map (AH false)).length+1))] ⟨rfl,rfl,trivial⟩ λT3 F3=>?_
  (repeat refine WO ?_);refine AOps.nil ⟨rfl,_,_,⟨λd v h=>h,.refl _⟩,?_⟩;show andThen _ _ _ _
  refine AWP.weak (st':=⟨[(0,.ptr a.A 0 0),(4,.ptr Be 0 0),(12,.sl Z 0 (((Aa t e.n).map (AH false)).length+1))],[(Be,.row 32 2 [A6 e]),(Z,.row 42 2 ((Aa t e.n).map (AH false)++[AH false ⟨c.kind,v⟩]))]++(arS b++Sf)⟩) ⟨.cons rfl (.cons rfl (.cons rfl .nil)),.cons _ (.refl _)⟩ ?_;obtain⟨cl,hcl⟩:∃cl,Aa t e.n++[(⟨c.kind,v⟩:Comp)]=cl:=⟨_,rfl⟩;have hcm:(Aa t e.n).map (AH false)++[AH false ⟨c.kind,v⟩]=cl.map (AH false):=by rw[<-hcl,List.map_append];rfl
  have hcn:((Aa t e.n).map (AH false)).length+1=cl.length:=by rw[<-hcl,AL,AB];rfl
  rw[hcm,hcn];obtain⟨su,⟨hu1,hu2⟩,hsf⟩:=Ht 287 [] (λx y=>Cp x.kind y.kind) rfl (NA Comp.kind) (λx y=>VI x y) Z cl.length cl rfl (by have:=h11 rfl hk;rw[<-hcl,AL,htl];show _+1<=12;omega);refine JB ?_;refine WO ?_;refine AOps.g_callf ?_;refine AOps.o2 (h:=(hsf ..)) (k:=?_);refine NL ?_;dsimp only[AX,List.set_cons_zero,List.set_cons_succ,BF,BD];rw[<-hu1.length_eq];have hF:AV.frzs (su.map (AH false))=su.map (AH false):=Frzs.h;have hsl:su.length=(su.map (AH false)).length:=(AB _).symm;rw[hsl];refine IJ 12 _ hF ?_;rw[<-hA];have had:=LR b e su hok hne2 hnl (Kt ha hok hit) (by have:=h11 rfl hk;rw[hu1.length_eq,<-hcl,AL,htl];show _+1<=16;omega);refine JB ?_;(iterate 3 refine WO ?_);refine AOps.gN ?_;refine D6 [_,_] (h:=had) (k:=λb2 hb2=>?_);refine NL ?_;refine JI ?_;obtain⟨g1,g2,g3,g4,g5,g6⟩:=hb2;have hsu:su=Fi (Aa t e.n) ⟨c.kind,v⟩:=Pw hso (by rw[Cv hto];exact hk) (by rw[hcl];exact hu1) hu2;rw[hsu]at g6;exact Ends.sp [iA 0] (arS b2) ⟨b2,.inr ⟨_,rfl,g1,g2,g3.trans hA,g4.trans hki,g5.trans hge,_,hit,g6⟩,rfl,rfl⟩
theorem SQ{w:Wd}{j:Nat}(h1:∀q<j,(!GK w.items (q:Nat)&&decide (w.gens.getD q 0<1073741824))=false)(h2:j<w.gens.length)(h3:(!GK w.items (j:Nat)&&decide (w.gens.getD j 0<1073741824))=true):Bf w=(j,true):=by
 have:MY w=some j:=by
  unfold MY;rw[List.find?_eq_some_iff_getElem];exact⟨h3,j,by simpa using h2,by simp,λq hq=>by have:=h1 q hq;simp only[List.getElem_range];rw[this];rfl⟩
 unfold Bf;rw[this]
theorem IY:∀(l:List Item) (it:Item),(IZ l it).Perm (it::l)
 |[],it=>.refl _
 |x::l,it=>by
  rw[IZ];split
  ·exact((IY l it).cons x).trans (.swap ..)
  ·exact .refl _
theorem SP{w:Wd}(h1:∀q<w.gens.length,(!GK w.items (q:Nat)&&decide (w.gens.getD q 0<1073741824))=false):Bf w=(w.gens.length,decide ((w.gens.length:Int)<256)):=by
 have:MY w=none:=by
  unfold MY;rw[List.find?_eq_none];intro q hq;have:=h1 q (by simpa using hq);rw[this];simp
 unfold Bf;rw[this]
theorem Qc(a:Ar)(w:Wd)(h:ArFor a w)(h12:w.kinds.length<=12)(l:List Comp)(hl:l.length<=1099511627776):Spec Tryz.prog 270 [.ptr a.A 0 0,Aw false false l] (arS a) λr S'=>∃b:Ar,(ArFor b (FD w (DJ w l).1 (DJ w l).2.2)/\b.A=a.A)/\r= .tup [A6 (DJ w l).2.1,iA (DJ w l).2.2]/\S'=arS b:=by
 have hft:=Hq a.kinds l (by rw[h.kinds];exact h12) hl;obtain⟨r,hr⟩:=nm (DJ w l);rw[hr];unfold DJ at hr;rw[if_neg (by simp[(BK w).2 h.wok])]at hr;rw[h.kinds]at hft;obtain⟨⟨cs,f⟩,hcs⟩:=nm (CH w.kinds l);have hheld:f=0->A7 w.kinds cs=true:=λe=>by have:=GI (ks:=w.kinds) (l:=l) (by rw[hcs];exact e);rwa[hcs]at this
 rw[hcs]at hr hft;dsimp only at hr hft;have hgl:=h.wok.gl;rw[<-h.gens]at hgl;refine Sp (nt:=84) (res:=[.cell 4 32,.tmp 5]) Tryz.func270 λSf=>?_
 refine JE ?_;refine Ai λP=>?_;refine JD ?_
 refine FL ?_;rw[<-h.kinds]at hft;refine JN ?_;refine AOps.g_callf ?_;refine AOps.c2 (h:=(hft ..)) (k:=?_);refine JF ?_;refine JC ?_;by_cases hf:f≠0
 ·rw[if_pos hf]at hr
  subst hr;refine AM rfl (Ae hf) ?_;refine JI ?_;exact Ends.sp [A6 ⟨0,0⟩,iA f] (arS a) ⟨a,⟨by unfold FD;rw[if_neg hf];exact h,rfl⟩,rfl,rfl⟩
 have hf:f=0:=Decidable.not_not.1 hf;subst hf;rw[if_neg (by simp)]at hr;refine AA rfl rfl ?_;refine JJ ?_;refine BJ (λ(j:Nat)=>⟨[(0,.ptr a.A 0 0),(4,.ptr P 0 0),(6,Aw false false cs),(8,iA j)],(P,.row 32 2 [A6 ⟨0,0⟩])::(arS a++Sf)⟩) (λj=>j<=a.gens.length/\∀q<j,(!GK w.items (q:Nat)&&decide (w.gens.getD q 0<1073741824))=false) (λj=>a.gens.length-j) 0 ⟨Nat.zero_le _,λq hq=>absurd hq (by omega)⟩ ?_;rintro j ⟨hj,hall⟩;have hjI:I64 (j:Int):=by constructor<;>omega
 by_cases hjl:j<a.gens.length
 ·have hd:decide ((j:Int)<(a.gens.length:Nat))=true:=Ae (by omega)
  have hat:(a.gens.map iA)[j]?=some (iA a.gens[j]):=BB _ hjl;have hmem:=h.wok.gs a.gens[j] (by rw[<-h.gens];exact AK hjl);have hgd:w.gens.getD j 0=a.gens[j]:=by rw[<-h.gens,Bp,AE hjl];rfl
  have hus:=h.used j
  have hus0:a.g j=none->¬a.gens[j]=1073741824->Bf w=(j,true):=λe1 e2=>by
   refine SQ hall (by rw[<-h.gens];exact hjl) ?_;rw[<-hus,e1,hgd,Ae (by omega)];rfl
  cases hg:a.g j with
  |none=>
   have hgp:(a.g j).getD (.pointer none)= .pointer none:=by rw[hg];rfl
   refine RG ?_;(iterate 19 refine WO ?_);refine AOps.gN ?_;refine AOps.go (h:=IC _ hgp hjI rfl rfl (by exact At.f)) (k:=?_);refine WO ?_;refine AOps.gN ?_;refine AOps.go (h:=W.neNil false (.inl ⟨rfl,rfl⟩) rfl rfl) (k:=?_);refine JF ?_;refine AWP.cond rfl (λhc=>?_) (λhc=>?_)
   ·have hc:a.gens[j]=1073741824:=of_decide_eq_true hc
    refine JC ?_;refine Af (j+1) ⟨by omega,λq hq=>?_⟩ (by omega);by_cases hqj:q=j
    ·subst hqj
     rw[hgd,hc];simp
    ·exact hall q (by omega)
   ·have hc:¬a.gens[j]=1073741824:=of_decide_eq_false hc
    have hfr:=hus0 hg hc;obtain⟨f1,f2,f3,f4⟩:=Hc h.wok (by rw[hfr]);have hv:=J2 h.wok (by rw[hfr]) (hheld rfl);rw[hfr]at hr f1 f2 f3 f4 hv;dsimp only at hr f1 f2 f3 f4 hv;rw[if_neg (by simp)]at hr;have hgz:a.gens=Ch w.gens j:=by unfold Ch;rw[if_neg (by rw[<-h.gens];omega),h.gens]
    obtain⟨g,hge⟩:=nm ((Ch w.gens j).getD j 0);rw[hge]at hr hv;have hge:a.gens[j]=g:=by rw[<-hge,<-hgz,Bp,AE hjl];rfl
    rw[hge]at hat;subst hr
    have hfk:((j:Nat):Int)∉BN a.ts:=λhm=>by
     rw[h.ok.keys_items]at hm;obtain⟨x,hx,e⟩:=List.mem_map.1 hm;exact f2 x (h.items.mem_iff.1 hx) e
    have had:=LR a ⟨(j:Nat),g⟩ cs h.ok h.ne (by dsimp only;omega) hfk (ED h.wok.ks (hheld rfl)).1;have hd2:decide ((j:Int)=256)=false:=AY (by omega);have hd3:decide ((j:Int)=(a.gens.length:Nat))=false:=AY (by omega);refine JC ?_;refine AA rfl hd2 ?_;refine JC ?_;refine AA rfl hd3 ?_;refine JK ?_;refine Ai λE=>?_;refine JD ?_
    refine JB ?_;(iterate 3 refine WO ?_);refine AOps.gN ?_;refine D6 [_,_] (h:=had) (k:=λb2 hb2=>?_);refine NL ?_;refine JI ?_;obtain⟨q1,q2,q3,q4,q5,q6⟩:=hb2;exact Ends.sp [A6 ⟨(j:Nat),g⟩,iA 0] (arS b2) ⟨b2,⟨⟨q1,q2,q4.trans h.kinds,q5.trans hgz,q6.trans ((h.items.cons _).trans (IY _ _).symm),hv⟩,q3⟩,rfl,rfl⟩
  |some u=>
   have hgp:(a.g j).getD (.pointer none)=u:=by rw[hg];rfl
   obtain⟨t,ht,htn,hK,b,hb⟩:=h.ok.g j u hg;have hone:u.oneCell'=true:=by rw[hb];rfl
   refine RG ?_;(iterate 19 refine WO ?_);refine AOps.gN ?_;refine AOps.go (h:=IC _ hgp hjI rfl rfl (by exact At.f) hone) (k:=?_);refine WO ?_;refine AOps.gN ?_;refine AOps.go (h:=W.neNil true (.inr ⟨b,hb,rfl⟩) rfl rfl) (k:=?_);refine JF ?_;refine AM rfl rfl ?_;refine JC ?_;refine Af (j+1) ⟨by omega,λq hq=>?_⟩ (by omega);by_cases hqj:q=j
   ·subst hqj
    rw[<-hus,hg];rfl
   ·exact hall q (by omega)
 ·have hjl:j=a.gens.length:=by omega
  have hd:decide ((j:Int)<(a.gens.length:Nat))=false:=AY (by omega);have hfr:=SP (w:=w) λq hq=>hall q (by rw[hjl,h.gens];exact hq)
  rw[<-h.gens,<-hjl]at hfr;refine RG ?_;(repeat first|(refine AOps.gQ ?_;first|refine AOps.goNU ?_|refine AOps.goNV ?_)|refine WO ?_|refine Ai λX=>?_|refine Ay λY=>?_);refine NL ?_;refine AA rfl rfl ?_;refine JC ?_;refine AWP.cond rfl (λhc=>?_) (λhc=>?_)
  ·have hc:(j:Int)=256:=of_decide_eq_true hc
   rw[hfr,if_pos (AY (by omega))]at hr;subst hr;refine JI ?_;exact Ends.sp [A6 ⟨0,0⟩,iA 6] (arS a) ⟨a,⟨h,rfl⟩,rfl,rfl⟩
  ·have hc:¬(j:Int)=256:=of_decide_eq_false hc
   have hfr:Bf w=(j,true):=by rw[hfr,Ae (by omega)]
   obtain⟨f1,f2,f3,f4⟩:=Hc h.wok (by rw[hfr]);have hv:=J2 h.wok (by rw[hfr]) (hheld rfl);rw[hfr]at hr f1 f2 f3 f4 hv;dsimp only at hr f1 f2 f3 f4 hv;rw[if_neg (by simp)]at hr;have hgr:Ch w.gens j=a.gens++[0]:=by unfold Ch;rw[if_pos (by rw[<-h.gens];exact hjl),h.gens]
   obtain⟨g,hge⟩:=nm ((Ch w.gens j).getD j 0);rw[hge]at hr hv;have hge:g=0:=by rw[<-hge,hgr,hjl,Bp];simp
   subst hge;subst hr;have hd3:decide ((j:Int)=(a.gens.length:Nat))=true:=Ae (by omega);refine JC ?_;refine AM rfl hd3 ?_;refine JB ?_;(iterate 5 refine WO ?_);refine AOps.g_lit ?_;refine AOps.goL (iA 0) ?_;refine WO ?_;refine Ay λY=>?_;refine KO ?_
   dsimp only[AX,List.set_cons_zero,List.set_cons_succ,BF,BD];refine AOps.nil ?_;refine FL ?_;have hm1:a.gens.map iA++[iA 0]=(a.gens++[0]).map iA:=by rw[List.map_append];rfl
   have hm2:a.gens.length+[iA 0].length=(a.gens++[0]).length:=by rw[AL];rfl
   rw[hm1,hm2];obtain⟨z,hz⟩:∃z:Ar,z={a with G:=Y,gens:=a.gens++[0]}:=⟨_,rfl⟩;have hzA:z.A=a.A:=by rw[hz]
   have hzg:z.gens=a.gens++[0]:=by rw[hz]
   have hzt:z.ts=a.ts:=by rw[hz]
   have hzo:ArOK z:=by rw[hz];exact⟨h.ok.tab,h.ok.ord,h.ok.keys,h.ok.ent,h.ok.g,h.ok.gn,h.ok.cnt⟩
   refine AWP.weak (st':=⟨[(0,.ptr a.A 0 0),(4,.ptr P 0 0),(6,Aw false false cs),(8,iA j)],(P,.row 32 2 [A6 ⟨0,0⟩])::(arS z++Sf)⟩) ⟨by exact Lk.f,?_⟩ ?_
   ·rw[hz]
    simp only[arS,BF,BD];exact List.Sublist.refl _
   have hat:(z.gens.map iA)[j]?=some (iA 0):=by rw[hzg,AG,hjl];simp
   have hjz:j<z.gens.length:=by rw[hzg,AL,hjl];show a.gens.length<_+1;omega
   have hfk:((j:Nat):Int)∉BN z.ts:=λhm=>by
    rw[hzt,h.ok.keys_items]at hm;obtain⟨x,hx,e⟩:=List.mem_map.1 hm;exact f2 x (h.items.mem_iff.1 hx) e
   have had:=LR z ⟨(j:Nat),0⟩ cs hzo (by rw[hzt];exact h.ne) (by dsimp only;omega) hfk (ED h.wok.ks (hheld rfl)).1;rw[hzt]at had;rw[<-hzA];refine JN ?_;refine Ai λE=>?_;refine JD ?_
   refine JB ?_;(iterate 3 refine WO ?_);refine AOps.gN ?_;refine D6 [_,_] (h:=had) (k:=λb2 hb2=>?_);refine NL ?_;refine JI ?_;obtain⟨q1,q2,q3,q4,q5,q6⟩:=hb2;exact Ends.sp [A6 ⟨(j:Nat),0⟩,iA 0] (arS b2) ⟨b2,⟨⟨q1,q2,(q4.trans (by rw[hz])).trans h.kinds,(q5.trans hzg).trans hgr.symm,q6.trans ((h.items.cons _).trans (IY _ _).symm),hv⟩,q3⟩,rfl,rfl⟩
section
section
variable {a:Ar}{w:Wd}
theorem UD{e:Ent}{l:List Comp}{i:Nat}(hw:WdOK w)(hi:w.items[i]?=some ⟨e,l⟩):CY w.items e=i:=H7 hw.so hi
theorem VH(h:ArFor a w)(h12:w.kinds.length<=12)(e:Ent)(c:Comp)(hn:I64 e.n)(hk:I64 c.kind):Spec Tryz.prog 267 [.ptr a.A 0 0,A6 e,AH false c] (arS a) λr S'=>∃b:Ar,(ArFor b (FD w (DP w e c).1 (DP w e c).2)/\b.A=a.A)/\r=iA (DP w e c).2/\S'=arS b:=by
 have hwe:=(BK w).2 h.wok;cases hh:Fx a e with
 |false=>
  have hf:=h.hasE hh;have hp:DP w e c=(⟨[],[],[]⟩,4):=by unfold DP;rw[if_neg (by simp[hwe]),if_pos hf]
  rw[hp];exact(WS a h.ok e c hn hh).mono λr S' ⟨e1,e2⟩=>⟨a,⟨h,rfl⟩,e1,e2⟩
 |true=>
  obtain⟨l1,l2,t,hts,hm⟩:=Jk h.ok hh;have htm:t∈a.ts:=by rw[hts];simp
  obtain⟨i,hi⟩:=h.item htm hm;have hso:=h.sort htm hm;have hhe:=h.held htm hm;have hfi:=UD h.wok hi;have hto:=h.ok.tab t htm
  have h11:(CH a.kinds [c]).2=0->c.kind∉t.ks->t.ks.length<=11:=λe1 e2=>by
   obtain⟨d,_,_,g1,g2⟩:=L5 e1;rw[h.kinds]at g2
   have h1:(c.kind::t.ks).length<=w.kinds.length:=GR (λx=>x) _ _ (List.pairwise_cons.2 ⟨λx hx e=>e2 (by subst e;exact hx),(J3 hto hso).imp λh=>by omega⟩) λx hx=>by
    rcases List.mem_cons.1 hx with rfl|hx
    ·exact⟨g1,g2⟩
    ·rw[<-Cv hto e.n]at hx
     obtain⟨d,hd,rfl⟩:=List.mem_map.1 hx;have:=(held_iff.1 hhe).2 d hd;exact⟨this.1,this.2.1⟩
   rw[Bm]at h1;omega
  refine(VG a h.ok h.ne e c hn hk (by rw[h.kinds];exact h12) hh hts hm hso h11).mono λr S' ⟨b,hb,e1,e2⟩=>?_
  unfold Wt at hb;rw[h.kinds]at hb e1;rcases hb with⟨hne,rfl⟩|⟨d,hd,hs⟩
  ·have hp:DP w e c=(⟨[],[],[]⟩,(CH w.kinds [c]).2):=by unfold DP;rw[if_neg (by simp[hwe]),hfi,if_neg (by omega),if_pos hne]
   rw[hp];exact⟨b,⟨by unfold FD;rw[if_neg hne];exact h,rfl⟩,e1,e2⟩
  ·have hp:DP w e c=(DY w i (Fi (Aa t e.n) d),0):=by unfold DP;rw[if_neg (by simp[hwe]),hfi,if_neg (by omega),hd,if_neg (by simp),Int.toNat_natCast,hi]
   rw[hd]at e1;rw[hp];have hfo:=L7 h.wok.ks (by rw[hd]);have hdc:=Jt h.wok.ks hfo;rw[hd]at hdc;injection hdc with hdc
   injection hdc with hdc
   have hpo:=TP h.wok hi hfo
   have hhl:A7 w.kinds (Fi (Aa t e.n) d)=true:=by
    rw[hdc]
    have hii:(DY w i (Fi (Aa t e.n) (He w.kinds c))).items[i]?=some ⟨e,Fi (Aa t e.n) (He w.kinds c)⟩:=by
     rw[HO hi];exact List.getElem?_set_self (List.getElem?_eq_some_iff.1 hi).1
    exact(hpo.it _ (Ao hii)).2.2.2.2
   exact⟨b,⟨h.swap hs hi hhl,hs.A⟩,e1,e2⟩
theorem UJ(h:ArFor a w)(e:Ent)(k:Int)(hn:I64 e.n)(hk:I64 k):Spec Tryz.prog 268 [.ptr a.A 0 0,A6 e,iA k] (arS a) λr S'=>∃b:Ar,(ArFor b (FD w (E8 w e k).1 (E8 w e k).2)/\b.A=a.A)/\r=iA (E8 w e k).2/\S'=arS b:=by
 have hwe:=(BK w).2 h.wok;cases hh:Fx a e with
 |false=>
  have hf:=h.hasE hh;have hp:E8 w e k=(⟨[],[],[]⟩,4):=by unfold E8;rw[if_neg (by simp[hwe]),if_pos hf]
  rw[hp];exact(UL a h.ok e k hn hh).mono λr S' ⟨e1,e2⟩=>⟨a,⟨h,rfl⟩,e1,e2⟩
 |true=>
  obtain⟨l1,l2,t,hts,hm⟩:=Jk h.ok hh;have htm:t∈a.ts:=by rw[hts];simp
  obtain⟨i,hi⟩:=h.item htm hm;have hso:=h.sort htm hm;have hhe:=h.held htm hm;have hto:=h.ok.tab t htm;have hp:=Me h.wok hi k;dsimp only at hp;have hcm:(BH (Aa t e.n) k).isSome=true↔k∈t.ks:=by rw[LF hso,Cv hto]
  refine(SV a h.ok h.ne e k hn hk hh hts hm (J3 hto hso)).mono λr S' ⟨b,hb,e1,e2⟩=>?_
  by_cases hkm:k∈t.ks
  ·have hcs:=hcm.2 hkm
   rw[if_pos hkm]at hb e1;rw[if_pos hcs]at hp;rw[hp];have hl:KX t.ks k=Cf (Aa t e.n) k:=by rw[<-KW hso,Cv hto]
   rw[hl,<-Ov hso hcs]at hb;exact⟨b,⟨h.swap hb hi (MX hhe),hb.A⟩,e1,e2⟩
  ·rw[if_neg hkm]at hb e1
   rw[if_neg λe=>hkm (hcm.1 e)]at hp;rw[hp];subst hb;exact⟨b,⟨h,rfl⟩,e1,e2⟩
theorem Tt(h:ArFor a w)(e:Ent)(hn:I64 e.n):Spec Tryz.prog 269 [.ptr a.A 0 0,A6 e] (arS a) λr S'=>∃b:Ar,(ArFor b (FD w (EB w e).1 (EB w e).2)/\b.A=a.A)/\r=iA (EB w e).2/\S'=arS b:=by
 have hwe:=(BK w).2 h.wok;cases hh:Fx a e with
 |false=>
  have hf:=h.hasE hh;have hp:EB w e=(⟨[],[],[]⟩,4):=by unfold EB;rw[if_neg (by simp[hwe]),if_pos hf]
  rw[hp];exact(VT a h.ok e hn hh).mono λr S' ⟨e1,e2⟩=>⟨a,⟨h,rfl⟩,e1,e2⟩
 |true=>
  obtain⟨l1,l2,t,hts,hm⟩:=Jk h.ok hh;have htm:t∈a.ts:=by rw[hts];simp
  obtain⟨i,hi⟩:=h.item htm hm;have hit:=h.wok.it _ (Ao hi);dsimp only at hit;refine(Ts a h.ok h.ne e hn hh (by rw[h.gens];omega) (by rw[h.gens];exact h.wok.gl) (by rw[h.gens];exact h.wok.gs)).mono λr S' ⟨b,hb,e1,e2⟩=>?_
  obtain⟨g1,g2⟩:=h.kill hb hh;rw[g1];exact⟨b,⟨g2,hb.A⟩,e1,e2⟩
end
end
abbrev CZ(b:Bool)(l:List Cmd):AV:=.lst b 159 5 (l.map Bx)
theorem Sj(ks:List Kind)(c:Cmd)(h12:ks.length<=12)(hl:c.comps.length<=1099511627776):PS Tryz.prog 223 [An false false ks,Bx c] (.tup [Aw false false (C4 ks c).1,iA (C4 ks c).2]):=by
 have hft:=Hq ks c.comps h12 hl;obtain⟨act,ent,kind,comps⟩:=c;dsimp only at hft hl;obtain⟨r,hr⟩:=nm (C4 ks ⟨act,ent,kind,comps⟩);rw[hr];unfold C4 at hr;dsimp only at hr;refine Sp (nt:=42) (res:=[.tmp 4,.tmp 5]) Tryz.func223 λSf=>?_
 have hlm:(comps.map (AH false)).length=comps.length:=AB _;have hkm:(ks.map (BA false)).length=ks.length:=AB _;refine JE ?_;refine Ai λB=>?_;refine JF ?_
 refine JC ?_;refine JC ?_;refine AWP.cond rfl (λh0=>?_) (λh0=>?_)
 ·rw[if_pos (of_decide_eq_true h0)]at hr
  refine JC ?_;refine AWP.cond rfl (λh1=>?_) (λh1=>?_)
  ·have h1:((comps.map (AH false)).length:Int)≠1:=of_decide_eq_true h1
   rw[if_neg (by omega)]at hr;subst hr;refine JI ?_;exact Br [.prim (.slice none 0 0),iA 3] [Aw false false [],iA 3] (.cons (.cell .nil) (.cons (.cell .same) .nil))
  ·have h1:¬((comps.map (AH false)).length:Int)≠1:=of_decide_eq_false h1
   rw[if_pos (by omega)]at hr;subst hr;refine JK ?_;refine AOps.g_callf ?_;refine AOps.c2 (h:=(hft ..)) (k:=?_);refine JF ?_;refine RT ?_;exact FT (rs:=[Aw false false (CH ks comps).1,iA (CH ks comps).2]) rfl
 rw[if_neg (of_decide_eq_false h0)]at hr;refine JC ?_;refine AWP.cond rfl (λh1=>?_) (λh1=>?_)
 ·rw[if_pos (of_decide_eq_true h1)]at hr
  refine FL ?_;cases g1:decide (kind<0)with
  |true=>
   rw[if_pos (.inl (of_decide_eq_true g1))]at hr;subst hr;refine R1 ?_;refine AM rfl (by first|rfl|assumption) ?_;refine JI ?_;exact Br [.prim (.slice none 0 0),iA 1] [Aw false false [],iA 1] (.cons (.cell .nil) (.cons (.cell .same) .nil))
  |false=>
   refine R1 ?_;refine AWP.cond rfl (λg2=>?_) (λg2=>?_)
   ·rw[hkm]at g2
    rw[if_pos (.inr (of_decide_eq_true g2))]at hr;subst hr;refine JI ?_;exact Br [.prim (.slice none 0 0),iA 1] [Aw false false [],iA 1] (.cons (.cell .nil) (.cons (.cell .same) .nil))
   ·rw[hkm]at g2
    have g1:=of_decide_eq_false g1;have g2:¬(ks.length:Int)<=kind:=of_decide_eq_false g2;rw[if_neg (by omega)]at hr;subst hr;refine JI ?_;exact Br [.prim (.slice none 0 0),iA 0] [Aw false false [],iA 0] (.cons (.cell .nil) (.cons (.cell .same) .nil))
 rw[if_neg (of_decide_eq_false h1)]at hr;refine JC ?_;refine AWP.cond rfl (λh2=>?_) (λh2=>?_)
 ·rw[if_pos (of_decide_eq_true h2)]at hr
  subst hr;refine JI ?_;exact Br [.prim (.slice none 0 0),iA 0] [Aw false false [],iA 0] (.cons (.cell .nil) (.cons (.cell .same) .nil))
 rw[if_neg (of_decide_eq_false h2)]at hr;refine JC ?_;refine AWP.cond rfl (λh3=>?_) (λh3=>?_)
 ·rw[if_pos (of_decide_eq_true h3)]at hr
  subst hr;refine JK ?_;refine AOps.g_callf ?_;refine AOps.c2 (h:=(hft ..)) (k:=?_);refine JF ?_;refine RT ?_;exact FT (rs:=[Aw false false (CH ks comps).1,iA (CH ks comps).2]) rfl
 rw[if_neg (of_decide_eq_false h3)]at hr;subst hr;refine JI ?_;exact Br [.prim (.slice none 0 0),iA 1] [Aw false false [],iA 1] (.cons (.cell .nil) (.cons (.cell .same) .nil))
theorem Sk{ks:List Kind}{l:List Cmd}{i:Nat}{c:Cmd}(h:i<l.length)(hc:l[i]=c):EK ks (l.drop i)=if(C4 ks c).2=0 then EK ks (l.drop (i+1))else(C4 ks c).2:=by
 rw[CD h,EK,hc]
theorem O4(w:Wd)(l:List Cmd)(hw:WdL w)(h12:w.kinds.length<=12)(hl:l.length<=1099511627776)(hc:∀c∈l,c.comps.length<=1099511627776):PS Tryz.prog 162 [wdA false w,CZ false l] (iA (LG w l)):=by
 have hck:=Es w hw.gens hw.items.1 (λit hit=>(hw.items.2 it hit).1);obtain⟨r,hr⟩:=nm (LG w l);rw[hr];unfold LG at hr;obtain⟨we,hwe⟩:=nm (Cs w);rw[hwe]at hck hr;have hlm:(l.map Bx).length=l.length:=AB _;refine Sp (nt:=35) (res:=[.tmp 4]) Tryz.func162 λSf=>?_
 refine RG ?_;refine AOps.g_box ?_;refine Aj ?_;refine JD ?_;refine JB ?_;refine WO ?_;refine AOps.g_callf ?_;refine AOps.c1 (h:=(hck ..)) (k:=?_);refine JD ?_;refine JC ?_;refine AWP.cond rfl (λh0=>?_) (λh0=>?_)
 ·rw[if_pos (of_decide_eq_true h0)]at hr
  subst hr;refine JI ?_;refine AI ?_;rfl
 rw[if_neg (of_decide_eq_false h0)]at hr;refine JC ?_;refine AWP.cond rfl (λh1=>?_) (λh1=>?_)
 ·have h1:=of_decide_eq_true h1
  rw[if_pos (by omega)]at hr;subst hr;refine JI ?_;refine AI ?_;rfl
 have h1:=of_decide_eq_false h1;rw[if_neg (by omega)]at hr;subst hr;refine JJ ?_;refine BJ (λ(i:Nat)=>⟨[(2,.fp (wdA false w).cells),(18,CZ false l),(19,iA (l.map Bx).length),(20,iA i)],Sf⟩) (λi=>i<=l.length/\EK w.kinds (l.drop i)=EK w.kinds l) (λi=>l.length-i) 0 ⟨Nat.zero_le _,rfl⟩ ?_;rintro i ⟨hi,he⟩;refine JM ?_;refine AWP.cond rfl (λhc2=>?_) (λhc2=>?_)
 ·have h:i<l.length:=by rw[AF,hlm]at hc2;omega
  obtain⟨c,hcc⟩:=nm (l[i]);have hat:(l.map Bx)[i]?=some (Bx c):=by rw[AG,AE h,hcc];rfl
  have ho:=Sj w.kinds c h12 (hc c (by rw[<-hcc];exact AK h));rw[Sk h hcc]at he;refine JK ?_;refine Ai λV=>?_;refine JD ?_
  refine JK ?_;refine AOps.g_callf ?_;refine AOps.c2 (h:=(ho ..)) (k:=?_);refine JF ?_;refine JC ?_;refine AWP.cond rfl (λh3=>?_) (λh3=>?_)
  ·rw[if_neg (of_decide_eq_true h3)]at he
   refine JI ?_;refine AI ?_;exact congrArg iA he
  ·rw[if_pos (Decidable.not_not.1 (of_decide_eq_false h3))]at he
   refine JC ?_;exact Af (i+1) ⟨h,he⟩ (by omega)
 ·have h:i=l.length:=by rw[AQ,hlm]at hc2;omega
  rw[h,List.drop_length]at he;refine JI ?_;refine AI ?_;exact congrArg iA he
theorem Wr{a:Ar}{w:Wd}(h:ArFor a w)(h12:w.kinds.length<=12)(c:Cmd)(hc:(C4 w.kinds c).2=0)(hn:I64 c.ent.n)(hl:c.comps.length<=1099511627776):Spec Tryz.prog 224 [.ptr a.A 0 0,Bx c] (arS a) λr S'=>∃b:Ar,(ArFor b (FC w c).1/\b.A=a.A)/\r= .tup [A6 (FC w c).2.1,bA (FC w c).2.2]/\S'=arS b:=by
 obtain⟨act,ent,kind,comps⟩:=c;dsimp only at hn hl;unfold C4 at hc;dsimp only at hc;obtain⟨r,hr⟩:=nm (FC w ⟨act,ent,kind,comps⟩);rw[hr];unfold FC at hr;dsimp only at hr;refine Sp (nt:=50) (res:=[.cell 4 32,.tmp 5]) Tryz.func224 λSf=>?_
 refine RG ?_;refine AOps.g_box ?_;refine Aj ?_;refine WO ?_;refine Ai λP=>?_;refine JD ?_
 refine JC ?_;refine JC ?_;refine AWP.cond rfl (λh0=>?_) (λh0=>?_)
 ·rw[if_pos (of_decide_eq_true h0)]at hr hc
  split at hc
  ·rename_i h1
   obtain⟨d,rfl⟩:=List.length_eq_one_iff.1 h1;obtain⟨_,_,_,d1,d2⟩:=L5 hc;have h16:=(Bn h.wok.ks).1;have hp:=VH h h12 ent d hn ⟨by omega,by omega⟩;replace hr:(FD w (DP w ent d).1 (DP w ent d).2,(⟨0,0⟩:Ent),decide ((DP w ent d).2=0))=r:=hr;subst hr;refine FL ?_;obtain⟨err,herr⟩:=nm ((DP w ent d).2);rw[herr]at hp⊢;refine Dc (n:=1) [(P,.row 32 2 [A6 ⟨0,0⟩])] (arS a++Sf) rfl (by kernel_rfl) (by kernel_rfl) ?_;refine RGoH.go ?_;refine RGoH.go ?_;refine RGoH.go ?_;refine RGoH.go ?_;refine RGoH.go ?_;refine RGoH.go ?_;refine RGoH.go (h:=W.idxL (a:=0) (e:=AH false d) rfl rfl rfl rfl) ?_;refine RGoH.go ?_;refine RGoH.skip [13,15,19] ?_;refine RGoH.skip [20] ?_;refine RGoH.goS ?_;refine RGoH.skip [21] ?_;refine RGoH.nil (by kernel_rfl) (by kernel_rfl) (by kernel_rfl) ?_;refine HC.step [(13,.ptr a.A 0 0),(15,A6 ent),(19,AH false d)] ⟨rfl,rfl,rfl,rfl,rfl,rfl,trivial⟩ λT F=>?_
   refine D6 F (h:=hp) (k:=λb hb=>?_);refine AOps.nil ⟨rfl,_,_,⟨λd v h=>h,.refl _⟩,?_⟩;refine HC.step [(20,iA err)] ⟨rfl,rfl,trivial⟩ λT2 F2=>?_
   (repeat refine WO ?_);refine AOps.nil ⟨rfl,_,_,⟨λd v h=>h,.refl _⟩,?_⟩;refine HC.step [(21,bA (decide (err=0)))] ⟨rfl,rfl,trivial⟩ λT3 F3=>?_
   (repeat refine WO ?_);refine AOps.nil ⟨rfl,_,_,⟨λd v h=>h,.refl _⟩,?_⟩;show andThen _ _ _ _
   refine FL ?_;refine RT ?_;exact Ends.sp [A6 ⟨0,0⟩,bA (decide (err=0))] (arS b) ⟨b,⟨by rw[<-herr];rw[<-herr]at hb;exact hb.1,hb.2⟩,rfl,rfl⟩
  ·cases hc
 rw[if_neg (of_decide_eq_false h0)]at hr hc;refine JC ?_;refine AWP.cond rfl (λh1=>?_) (λh1=>?_)
 ·rw[if_pos (of_decide_eq_true h1)]at hr hc
  have hk:0<=kind/\kind<w.kinds.length:=by
   split at hc
   ·cases hc
   ·omega
  have h16:=(Bn h.wok.ks).1;have hp:=UJ h ent kind hn ⟨by omega,by omega⟩;subst hr;refine JB ?_;(iterate 6 refine WO ?_);refine AOps.gN ?_;refine D6 [_] (h:=hp) (k:=λb hb=>?_);refine JF ?_;refine FL ?_;refine RT ?_;exact Ends.sp [A6 ⟨0,0⟩,bA _] (arS b) ⟨b,hb,rfl,rfl⟩
 rw[if_neg (of_decide_eq_false h1)]at hr hc;refine JC ?_;refine AWP.cond rfl (λh2=>?_) (λh2=>?_)
 ·rw[if_pos (of_decide_eq_true h2)]at hr hc
  have hp:=Tt h ent hn;subst hr;refine JB ?_;(iterate 4 refine WO ?_);refine AOps.gN ?_;refine Jp [_] (h:=hp) (k:=λb hb=>?_);refine JF ?_;refine FL ?_;refine RT ?_;exact Ends.sp [A6 ⟨0,0⟩,bA _] (arS b) ⟨b,hb,rfl,rfl⟩
 rw[if_neg (of_decide_eq_false h2)]at hr hc;have hp:=Qc a w h h12 comps hl;subst hr;refine JB ?_;(iterate 3 refine WO ?_);refine AOps.gN ?_;refine Jp [_] (h:=hp) (k:=λb hb=>?_);refine KO ?_;refine Ai λV=>?_;refine JF ?_
 refine JI ?_;exact Ends.sp [A6 _,bA _] (arS b) ⟨b,hb,rfl,rfl⟩
section
open Go.Sort
theorem VY(f:FuncId)(cap:List AV)(cf:Item->Item->Int)(hst:B4 cap=true)(hcf:∀x y,PS Tryz.prog f ((AD false) x::(AD false) y::cap) (iA (cf x y)))(X n:Nat)(d:Array Item)(a b:Nat)(hn:n=d.size)(hab:a<=b)(hb:b<=d.size)(hz:d.size<=1099511627776):PO Tryz.prog 212 [.sl X 0 n,iA a,iA b,.fn f cap] X (.row 71 3 (d.toList.map (AD false))) (.tup []) (.row 71 3 ((insertionSort (AZ cf) d a b).toList.map (AD false))):=by
 obtain⟨r,hr⟩:=nm (insertionSort (AZ cf) d a b);rw[hr];unfold insertionSort at hr;refine Sp (nt:=53) (res:=[]) Tryz.func212 λSf=>?_
 refine KK ?_;refine BZ (λ(i:Nat) (e:Array Item)=>⟨[(0,.sl X 0 n),(1,iA a),(2,iA b),(3,.fn f cap),(8,iA i)],(X,.row 71 3 (e.toList.map (AD false)))::Sf⟩) (λi e=>i<=max b (a+1)/\a<i/\e.size=d.size/\insOuter (AZ cf) a b i e=r) (λi _=>b-i) (a+1) d ⟨by omega,by omega,rfl,hr⟩ ?_;rintro i e ⟨hi,hai,he,hfold⟩;rw[insOuter]at hfold;refine KK ?_;refine AWP.cond rfl (λhc=>?_) (λhc=>?_)
 ·have h:i<b:=by have:=of_decide_eq_true hc;omega
  rw[if_pos h]at hfold;refine KK ?_;refine BZ (λ(j:Nat) (u:Array Item)=>⟨[(0,.sl X 0 n),(1,iA a),(2,iA b),(3,.fn f cap),(8,iA i),(9,iA j)],(X,.row 71 3 (u.toList.map (AD false)))::Sf⟩) (λj u=>j<=i/\u.size=d.size/\insInner (AZ cf) a j u=insInner (AZ cf) a i e) (λj _=>j) i e ⟨Nat.le_refl _,he,rfl⟩ ?_;rintro j u ⟨hj,hu,hin⟩;rcases Bool.eq_false_or_eq_true (decide ((a:Int)<(j:Int)))with g|g
  ·have hja:a<j:=by have:=of_decide_eq_true g;omega
   obtain⟨q,rfl⟩:∃q,j=q+1:=⟨j-1,by omega⟩;have h1:=BC (AD false) (d:=u) (i:=q+1) (by omega);have h2:=BC (AD false) (d:=u) (i:=q) (by omega);have hl:=hcf (u[q+1]!) (u[q]!);rw[insInner]at hin;(repeat refine WF ?_);refine RU ?_;(iterate 11 refine RK ?_);refine RGo.gQ ?_;refine RGo.go (h:=Ax (q:Int) (by omega) (by omega) rfl rfl) (k:=?_);refine KR ?_;refine RGo.g_callv ?_;refine RGo.k2 (h:=(hl ..)) (k:=?_);refine JG ?_;refine RGo.nil (by kernel_rfl) ?_;(repeat refine WF ?_);refine AWP.cond rfl (λhd=>?_) (λhd=>?_)
   ·have hd:(AZ cf) u[q+1]! u[q]! =true:=by simpa[g,AZ]using hd
    rw[hd,if_pos (by simp;omega)]at hin;obtain⟨y,hy⟩:=CM (AD false) (d:=u) (i:=q+1) (j:=q) (by omega) u[q]!;(repeat refine WF ?_);refine RU ?_;(iterate 4 refine RK ?_);refine RGo.gN ?_;refine RGo.go (h:=Ax (q:Int) (by omega) (by omega) rfl rfl) (k:=?_);refine JG ?_;refine RGo.gN ?_;refine RGo.go (h:=Ax (q:Int) (by omega) (by omega) rfl rfl) (k:=?_);(iterate 9 refine RK ?_);refine RGo.gN ?_;refine RGo.s (W.store rfl rfl (by exact At.f) hy (by exact rfl)) rfl ?_;refine RGo.nil (by kernel_rfl) ?_
    (iterate 4 refine WK ?_);refine AOps.gN ?_;refine AOps.p (Ax (q:Int) (by omega) (by omega) rfl rfl) rfl ?_;refine KK ?_
    refine A8 q (swp u (q+1) q) ⟨by omega,by rw[size_swp];exact hu,hin⟩ (h0:=by rw[<-Ck (AD false) (by omega) (by omega)];exact⟨by exact Lk.f,by exact Sub.f⟩)
   ·have hd:(AZ cf) u[q+1]! u[q]! =false:=by simpa[g,AZ]using hd
    rw[hd,if_neg (by simp)]at hin;refine KK ?_;refine A8 (i+1) u ⟨by omega,by omega,hu,by rw[hin];exact hfold⟩
  ·have hja:j<=a:=by have:=of_decide_eq_false g;omega
   have hin2:insInner (AZ cf) a j u=u:=by
    cases j with
    |zero=>rfl
    |succ q=>rw[insInner,if_neg (by simp;omega)]
   rw[hin2]at hin;(repeat refine WF ?_);refine RU ?_;(iterate 17 refine RK ?_);refine RGo.nil (by kernel_rfl) ?_;(repeat refine WF ?_);refine AA rfl (by simp[g]) ?_;refine KK ?_;refine A8 (i+1) u ⟨by omega,by omega,hu,by rw[hin];exact hfold⟩
 ·have h:¬i<b:=by have:=of_decide_eq_false hc;omega
  rw[if_neg h]at hfold;subst hfold;refine KK ?_;refine C9 ?_;exact BI [(X,.row 71 3 (e.toList.map (AD false)))] ⟨rfl,rfl⟩
end
section
open Go.Sort
theorem N8(f:FuncId)(cap:List AV)(cf:Item->Item->Int)(hst:B4 cap=true)(hcf:∀x y,PS Tryz.prog f ((AD false) x::(AD false) y::cap) (iA (cf x y)))(X n:Nat)(d:Array Item)(lo hi first:Nat)(hn:n=d.size)(hb:first+hi<=d.size)(hlo:lo<=1099511627776)(hz:d.size<=1099511627776):PO Tryz.prog 262 [.sl X 0 n,iA lo,iA hi,iA first,.fn f cap] X (.row 71 3 (d.toList.map (AD false))) (.tup []) (.row 71 3 ((siftDown (AZ cf) hi first lo d).toList.map (AD false))):=by
 obtain⟨r,hr⟩:=nm (siftDown (AZ cf) hi first lo d);rw[hr];refine Sp (nt:=82) (res:=[]) Tryz.func262 λSf=>?_
 refine KK ?_;refine BZ (λ(root:Nat) (u:Array Item)=>⟨[(0,.sl X 0 n),(2,iA hi),(3,iA first),(4,.fn f cap),(10,iA root)],(X,.row 71 3 (u.toList.map (AD false)))::Sf⟩) (λroot u=>root<=max hi lo/\u.size=d.size/\siftDown (AZ cf) hi first root u=r) (λroot _=>hi-root) lo d ⟨by omega,rfl,hr⟩ ?_;rintro root u ⟨hro,hu,hfold⟩;rw[siftDown]at hfold
 (iterate 4 refine WK ?_);refine AOps.gN ?_;refine AOps.p (Ip ((2*root:Nat):Int) (by omega) (by omega) rfl rfl) rfl ?_;refine AOps.gN ?_;refine AOps.p (Bc (((2*root+1:Nat):Int)) (by omega) (by omega) rfl rfl) rfl ?_;refine KK ?_
 refine AWP.cond rfl (λhc=>?_) (λhc=>?_)
 ·have h:2*root+1>=hi:=by have:=of_decide_eq_true hc;omega
  rw[dif_pos h]at hfold;subst hfold;refine KK ?_;refine C9 ?_;exact BI [(X,.row 71 3 (u.toList.map (AD false)))] ⟨rfl,rfl⟩
 have h:¬2*root+1>=hi:=by have:=of_decide_eq_false hc;omega
 rw[dif_neg h]at hfold;refine AWP.skip ?_;refine CP ?_;refine AWP.seq ?_;refine Bk (λc:Nat=>c<hi/\root<c/\(if !(AZ cf) u[first+root]! u[first+c]! then u else siftDown (AZ cf) hi first c (swp u (first+root) (first+c)))=r) (λc=>⟨[(0,.sl X 0 n),(2,iA hi),(3,iA first),(4,.fn f cap),(10,iA root),(11,iA c)],(X,.row 71 3 (u.toList.map (AD false)))::Sf⟩) ?_ ?_
 ·rcases Bool.eq_false_or_eq_true (decide (((2*root+1+1:Nat):Int)<(hi:Int)))with g|g
  ·have hg:2*root+1+1<hi:=by have:=of_decide_eq_true g;omega
   have h1:=BC (AD false) (d:=u) (i:=first+(2*root+1)) (by omega);have h2:=BC (AD false) (d:=u) (i:=first+(2*root+1)+1) (by omega);have hl:=hcf (u[first+(2*root+1)]!) (u[first+(2*root+1)+1]!);refine RU ?_;refine RK ?_;refine RGo.gN ?_;refine RGo.go (h:=Bc (((2*root+1+1:Nat):Int)) (by omega) (by omega) rfl rfl) (k:=?_);(iterate 7 refine RK ?_);refine RGo.gQ ?_;refine RGo.go (h:=Bc (((first+(2*root+1):Nat):Int)) (by omega) (by omega) rfl rfl) (k:=?_);(iterate 5 refine RK ?_);refine RGo.gQ ?_;refine RGo.go (h:=Bc (((first+(2*root+1):Nat):Int)) (by omega) (by omega) rfl rfl) (k:=?_);refine RGo.gQ ?_;refine RGo.go (h:=Bc (((first+(2*root+1)+1:Nat):Int)) (by omega) (by omega) rfl rfl) (k:=?_);refine KR ?_;refine RGo.g_callv ?_;refine RGo.k2 (h:=(hl ..)) (k:=?_);refine JG ?_;refine RGo.nil (by kernel_rfl) ?_;(repeat refine WF ?_);refine AWP.cond rfl (λhd=>?_) (λhd=>?_)
   ·have hd:(AZ cf) u[first+(2*root+1)]! u[first+(2*root+1)+1]! =true:=by simpa[g,AZ]using hd
    rw[hd,if_pos (by simp;omega)]at hfold;refine WK ?_;refine WK ?_;refine AOps.gN ?_;refine AOps.p (Bc (((2*root+2:Nat):Int)) (by omega) (by omega) rfl rfl) rfl ?_;refine KK ?_;refine jn (2*root+2) ⟨by omega,by omega,?_⟩;split at hfold
    ·rename_i hx;rw[if_pos hx];exact hfold
    ·rename_i hx;rw[if_neg hx];first|exact hfold|(rw[dif_pos (by omega)]at hfold;exact hfold)
   ·have hd:(AZ cf) u[first+(2*root+1)]! u[first+(2*root+1)+1]! =false:=by simpa[g,AZ]using hd
    rw[hd,if_neg (by simp)]at hfold;refine WK ?_;exact jn (2*root+1) ⟨by omega,by omega,hfold⟩
  ·have hg:¬2*root+1+1<hi:=by have:=of_decide_eq_false g;omega
   rw[if_neg (by simp[hg])]at hfold;refine RU ?_;refine RK ?_;refine RGo.gN ?_;refine RGo.go (h:=Bc (((2*root+1+1:Nat):Int)) (by omega) (by omega) rfl rfl) (k:=?_);(iterate 20 refine RK ?_);refine RGo.nil (by kernel_rfl) ?_;(repeat refine WF ?_);refine AA rfl (by simp[g]) ?_;refine WK ?_;exact jn (2*root+1) ⟨by omega,by omega,hfold⟩
 ·rintro c ⟨hch,hrc,hfold⟩
  have h1:=BC (AD false) (d:=u) (i:=first+root) (by omega);have h2:=BC (AD false) (d:=u) (i:=first+c) (by omega);have hl:=hcf (u[first+root]!) (u[first+c]!);(repeat refine WF ?_);refine RU ?_;(iterate 4 refine RK ?_);refine RGo.gN ?_;refine RGo.go (h:=Bc (((first+root:Nat):Int)) (by omega) (by omega) rfl rfl) (k:=?_);(iterate 5 refine RK ?_);refine RGo.gN ?_;refine RGo.go (h:=Bc (((first+c:Nat):Int)) (by omega) (by omega) rfl rfl) (k:=?_);refine KR ?_;refine RGo.g_callv ?_;refine RGo.k2 (h:=(hl ..)) (k:=?_);refine JG ?_;refine RGo.nil (by kernel_rfl) ?_;(repeat refine WF ?_);refine AWP.cond rfl (λhd=>?_) (λhd=>?_)
  ·have hd:(!(AZ cf) u[first+root]! u[first+c]!)=true:=by simpa[AZ]using hd
   rw[if_pos hd]at hfold;subst hfold;refine RT ?_;exact BI [(X,.row 71 3 (u.toList.map (AD false)))] ⟨rfl,rfl⟩
  ·have hd:(!(AZ cf) u[first+root]! u[first+c]!)=false:=by simpa[AZ]using hd
   rw[if_neg (by rw[hd];simp)]at hfold;obtain⟨y,hy⟩:=CM (AD false) (d:=u) (i:=first+root) (j:=first+c) (by omega) u[first+c]!;(repeat refine WF ?_);refine RU ?_;(repeat first|(refine RGo.gN ?_;first|refine RGo.go (h:=Bc (((first+root:Nat):Int)) (by omega) (by omega) rfl rfl) (k:=?_)|refine RGo.go (h:=Bc (((first+c:Nat):Int)) (by omega) (by omega) rfl rfl) (k:=?_)|refine RGo.s (W.store rfl rfl (by exact At.f) hy (by exact rfl)) rfl ?_)|(refine RGo.gQ ?_;first|refine RGo.go (h:=Bc (((first+root:Nat):Int)) (by omega) (by omega) rfl rfl) (k:=?_)|refine RGo.go (h:=Bc (((first+c:Nat):Int)) (by omega) (by omega) rfl rfl) (k:=?_)|refine RGo.s (W.store rfl rfl (by exact At.f) hy (by exact rfl)) rfl ?_)|refine RK ?_|refine RGo.nil (by kernel_rfl) ?_);refine KK ?_;refine A8 c (swp u (first+root) (first+c)) ⟨by omega,by rw[size_swp];exact hu,hfold⟩ (h0:=by rw[<-Ck (AD false) (by omega) (by omega)];exact⟨by exact Lk.f,by exact Sub.f⟩)
theorem Dx(lt:Item->Item->Bool)(hi first:Nat):∀(k root:Nat) (d:Array Item),hi-root<=k->(siftDown lt hi first root d).size=d.size
 |0,root,d,h=>by rw[siftDown,dif_pos (by omega)]
 |k+1,root,d,h=>by
  rw[siftDown];split
  ·rfl
  ·split
   ·split
    ·rfl
    ·split
     ·rw[Dx lt hi first k _ _ (by omega),size_swp]
     ·rfl
   ·split
    ·rfl
    ·rw[Dx lt hi first k _ _ (by omega),size_swp]
theorem T3(f:FuncId)(cap:List AV)(cf:Item->Item->Int)(hst:B4 cap=true)(hcf:∀x y,PS Tryz.prog f ((AD false) x::(AD false) y::cap) (iA (cf x y)))(X n:Nat)(d:Array Item)(a b:Nat)(hn:n=d.size)(hab:a<b)(hb:b<=d.size)(hz:d.size<=1099511627776):PO Tryz.prog 213 [.sl X 0 n,iA a,iA b,.fn f cap] X (.row 71 3 (d.toList.map (AD false))) (.tup []) (.row 71 3 ((heapSort (AZ cf) d a b).toList.map (AD false))):=by
 obtain⟨r,hr⟩:=nm (heapSort (AZ cf) d a b);rw[hr];unfold heapSort at hr;obtain⟨m,hm⟩:=nm (b-a);rw[hm]at hr;refine Sp (nt:=60) (res:=[]) Tryz.func213 λSf=>?_
 (repeat first|(refine AOps.gN ?_;first|refine AOps.p (Ax ((m:Int)) (by omega) (by omega) rfl rfl) rfl ?_|refine AOps.p (Ax (((m-1:Nat):Int)) (by omega) (by omega) rfl rfl) rfl ?_|refine AOps.p (LU (m-1) 2 ((m-1)/2) rfl rfl (by omega) rfl (by omega) rfl rfl) rfl ?_)|refine WK ?_|refine Ai λX=>?_|refine Ay λY=>?_);refine BZ (λ(k:Nat) (u:Array Item)=>⟨[(0,.sl X 0 n),(3,.fn f cap),(8,iA a),(9,iA 0),(10,iA m),(11,iA ((k:Int)-1))],(X,.row 71 3 (u.toList.map (AD false)))::Sf⟩) (λk u=>k<=m/\u.size=d.size/\heapPop (AZ cf) a m (heapBuild (AZ cf) m a k u)=r) (λk _=>k) ((m-1)/2+1) d ⟨by omega,rfl,hr⟩ ?_ (h0:=by rw[show((((m-1)/2+1:Nat):Int)-1)=(((m-1)/2:Nat):Int) by omega];exact⟨by exact Lk.f,by exact Sub.f⟩);rintro k u ⟨hk,hu,hfold⟩;refine KK ?_;refine AWP.cond rfl (λhc=>?_) (λhc=>?_)
 ·obtain⟨q,rfl⟩:∃q,k=q+1:=⟨k-1,by have:=of_decide_eq_true hc;omega⟩
  rw[heapBuild]at hfold;have hs:=N8 f cap cf hst hcf X n u q m a (by omega) (by omega) (by omega) (by omega);have hsz:=Dx (AZ cf) m a _ q u (Nat.le_refl _);rw[show(((q+1:Nat):Int)-1)=(q:Int) by omega];refine KK ?_;refine AOps.g_callf ?_;refine IK (h:=(hs ..)) (k:=?_);(iterate 5 refine WK ?_);refine AOps.gN ?_;refine AOps.p (Ax ((q:Int)-1) (by omega) (by omega) rfl rfl) rfl ?_;refine KK ?_;exact A8 q (siftDown (AZ cf) m a q u) ⟨by omega,by omega,hfold⟩
 ·obtain rfl:k=0:=by have:=of_decide_eq_false hc;omega
  rw[heapBuild]at hfold
  (iterate 4 refine WK ?_);refine AOps.gN ?_;refine AOps.p (Ax ((m:Int)-1) (by omega) (by omega) rfl rfl) rfl ?_;refine KK ?_
  clear hc hk;refine BZ (λ(k:Nat) (u:Array Item)=>⟨[(0,.sl X 0 n),(3,.fn f cap),(8,iA a),(9,iA 0),(10,iA m),(12,iA ((k:Int)-1))],(X,.row 71 3 (u.toList.map (AD false)))::Sf⟩) (λk u=>k<=m/\u.size=d.size/\heapPop (AZ cf) a k u=r) (λk _=>k) m u ⟨by omega,hu,hfold⟩ ?_;clear hfold hu;rintro k u ⟨hk,hu,hfold⟩;refine KK ?_;refine AWP.cond rfl (λhc=>?_) (λhc=>?_)
  ·obtain⟨q,rfl⟩:∃q,k=q+1:=⟨k-1,by have:=of_decide_eq_true hc;omega⟩
   rw[heapPop]at hfold;have h1:=BC (AD false) (d:=u) (i:=a) (by omega);have h2:=BC (AD false) (d:=u) (i:=a+q) (by omega);have hs:=N8 f cap cf hst hcf X n (swp u a (a+q)) 0 q a (by rw[size_swp];omega) (by rw[size_swp];omega) (by omega) (by rw[size_swp];omega);have hsz:=Dx (AZ cf) q a _ 0 (swp u a (a+q)) (Nat.le_refl _);rw[size_swp]at hsz;rw[show(((q+1:Nat):Int)-1)=(q:Int) by omega];obtain⟨y,hy⟩:=CM (AD false) (d:=u) (i:=a) (j:=a+q) (by omega) u[a+q]!;have hrow:=Ck (AD false) (d:=u) (i:=a) (j:=a+q) (by omega) (by omega);(repeat refine WF ?_);refine RU ?_;(iterate 5 refine RK ?_);refine RGo.gN ?_;refine RGo.go (h:=Bc (((a+q:Nat):Int)) (by omega) (by omega) rfl rfl) (k:=?_);(iterate 3 refine RK ?_);refine RGo.gN ?_;refine RGo.go (h:=Bc (((a+q:Nat):Int)) (by omega) (by omega) rfl rfl) (k:=?_);(iterate 9 refine RK ?_);refine RGo.gN ?_;refine RGo.s (W.store rfl rfl (by exact At.f) hy (by exact rfl)) rfl ?_;refine RGo.nil (by kernel_rfl) ?_;refine No [(0,.sl X 0 n),(3,.fn f cap),(8,iA a),(9,iA 0),(10,iA m),(12,iA q)] ((X,.row 71 3 ((swp u a (a+q)).toList.map (AD false)))::Sf) ?_ (h:=by rw[<-hrow];exact⟨by exact Lk.f,by exact Sub.f⟩);refine KK ?_;refine AOps.g_callf ?_;refine IK (h:=(hs ..)) (k:=?_);(iterate 5 refine WK ?_);refine AOps.gN ?_;refine AOps.p (Ax ((q:Int)-1) (by omega) (by omega) rfl rfl) rfl ?_;refine KK ?_;exact A8 q (siftDown (AZ cf) q a 0 (swp u a (a+q))) ⟨by omega,by omega,hfold⟩
  ·obtain rfl:k=0:=by have:=of_decide_eq_false hc;omega
   rw[heapPop]at hfold;subst hfold;refine KK ?_;refine C9 ?_;exact BI [(X,.row 71 3 (u.toList.map (AD false)))] ⟨rfl,rfl⟩
theorem VD{f:FuncId}{cap:List AV}(X n:Nat)(d:Array Item)(a b:Nat)(hn:n=d.size)(hab:a<b)(hb:b<=d.size)(hz:d.size<=1099511627776):PO Tryz.prog 216 [.sl X 0 n,iA a,iA b,.fn f cap] X (.row 71 3 (d.toList.map (AD false))) (.tup []) (.row 71 3 ((reverseRange d a b).toList.map (AD false))):=by
 obtain⟨r,hr⟩:=nm (reverseRange d a b);rw[hr];unfold reverseRange at hr;refine Sp (nt:=34) (res:=[]) Tryz.func216 λSf=>?_
 (iterate 8 refine WK ?_);refine AOps.gN ?_;refine AOps.p (Ax (((b-1:Nat):Int)) (by omega) (by omega) rfl rfl) rfl ?_;refine KK ?_
 refine Dd (λ(i j:Nat) (u:Array Item)=>⟨[(0,.sl X 0 n),(8,iA i),(9,iA j)],(X,.row 71 3 (u.toList.map (AD false)))::Sf⟩) (λi j u=>i<=d.size/\j<d.size/\u.size=d.size/\reverseLoop i j u=r) (λi j _=>j-i) a (b-1) d ⟨by omega,by omega,rfl,hr⟩ ?_;rintro i j u ⟨hi,hj,hu,hfold⟩;rw[reverseLoop]at hfold;refine KK ?_;refine AWP.cond rfl (λhc=>?_) (λhc=>?_)
 ·have h:i<j:=by have:=of_decide_eq_true hc;omega
  rw[if_pos h]at hfold;have h1:=BC (AD false) (d:=u) (i:=i) (by omega);have h2:=BC (AD false) (d:=u) (i:=j) (by omega);obtain⟨y,hy⟩:=CM (AD false) (d:=u) (i:=i) (j:=j) (by omega) u[j]!;(repeat refine WF ?_);refine RU ?_;(iterate 15 refine RK ?_);refine RGo.gN ?_;refine RGo.s (W.store rfl rfl (by exact At.f) hy (by exact rfl)) rfl ?_;refine RGo.nil (by kernel_rfl) ?_
  (iterate 9 refine WK ?_);refine AOps.gN ?_;refine AOps.p (Ax (((j-1:Nat):Int)) (by omega) (by omega) rfl rfl) rfl ?_;refine KK ?_
  refine CK (i+1) (j-1) (swp u i j) ⟨by omega,by omega,by rw[size_swp];exact hu,hfold⟩ (h0:=by rw[<-Ck (AD false) (by omega) (by omega)];exact⟨by exact Lk.f,by exact Sub.f⟩)
 ·have h:¬i<j:=by have:=of_decide_eq_false hc;omega
  rw[if_neg h]at hfold;subst hfold;refine KK ?_;refine C9 ?_;exact BI [(X,.row 71 3 (u.toList.map (AD false)))] ⟨rfl,rfl⟩
end
section
open Go.Sort
theorem HQ(p:Item->Bool)(d:Array Item)(j i:Nat):scanUp p d j i<=max i (j+1):=by
 obtain⟨m,hm⟩:=nm (j+1-i)
 induction m generalizing i with
 |zero=>rw[scanUp,if_neg (λe=>by rw[Bool.and_eq_true]at e;have:=of_decide_eq_true e.1;omega)];omega
 |succ m ih=>
  rw[scanUp];split
  ·have:=ih (i+1) (by omega)
   omega
  ·omega
theorem VJ(f:FuncId)(cap:List AV)(cf:Item->Item->Int)(hst:B4 cap=true)(hcf:∀x y,PS Tryz.prog f ((AD false) x::(AD false) y::cap) (iA (cf x y)))(X n:Nat)(d:Array Item)(a b pivot:Nat)(hn:n=d.size)(ha:a<=pivot)(hp:pivot<b)(hb:b<=d.size)(hz:d.size<=1099511627776):PO Tryz.prog 218 [.sl X 0 n,iA a,iA b,iA pivot,.fn f cap] X (.row 71 3 (d.toList.map (AD false))) (iA (partitionEqual (AZ cf) d a b pivot).1) (.row 71 3 ((partitionEqual (AZ cf) d a b pivot).2.toList.map (AD false))):=by
 obtain⟨r,hr⟩:=nm (partitionEqual (AZ cf) d a b pivot);rw[hr];unfold partitionEqual at hr;refine Sp (nt:=90) (res:=[.tmp 10]) Tryz.func218 λSf=>?_
 have h1:=BC (AD false) (d:=d) (i:=a) (by omega);have h2:=BC (AD false) (d:=d) (i:=pivot) (by omega);obtain⟨y,hy⟩:=CM (AD false) (d:=d) (i:=a) (j:=pivot) (by omega) d[pivot]!;refine R1 ?_;refine RU ?_;(iterate 15 refine RK ?_);refine RGo.gN ?_;refine RGo.s (W.store rfl rfl (by exact At.f) hy (by exact rfl)) rfl ?_;refine RGo.nil (by kernel_rfl) ?_
 (iterate 5 refine WK ?_);refine AOps.gN ?_;refine AOps.p (Ax (((b-1:Nat):Int)) (by omega) (by omega) rfl rfl) rfl ?_;refine KK ?_
 refine Dd (λ(i j:Nat) (u:Array Item)=>⟨[(0,.sl X 0 n),(1,iA a),(4,.fn f cap),(11,iA i),(12,iA j)],(X,.row 71 3 (u.toList.map (AD false)))::Sf⟩) (λi j u=>a<i/\i<=j+2/\j<b/\u.size=d.size/\partEqLoop (AZ cf) a i j u=r) (λi j _=>j+1-i) (a+1) (b-1) (swp d a pivot) ⟨by omega,by omega,by omega,by rw[size_swp],hr⟩ ?_ (h0:=by rw[<-Ck (AD false) (by omega) (by omega)];exact⟨by exact Lk.f,by exact Sub.f⟩);rintro i j u ⟨hai,hij,hjb,hu,hfold⟩;rw[partEqLoop_eq]at hfold;obtain⟨i2,hi2⟩:=nm (scanUp (λx=>!(AZ cf) u[a]! x) u j i);rw[hi2]at hfold;obtain⟨j2,hj2⟩:=nm (scanDown (λx=>(AZ cf) u[a]! x) u i2 j);rw[hj2]at hfold;have hge:=scanUp_ge (λx=>!(AZ cf) u[a]! x) u j i;have hle:=scanDown_le (λx=>(AZ cf) u[a]! x) u i2 j;rw[hi2]at hge;rw[hj2]at hle;have hge2:i2<=max i (j+1):=by rw[<-hi2];exact HQ _ _ _ _
 refine AWP.block ?_
 (repeat (first|refine AWP.skip ?_|refine CP ?_|refine AWP.seq ?_))
 refine Bk (λk:Nat=>k=i2) (λk=>⟨[(0,.sl X 0 n),(1,iA a),(4,.fn f cap),(11,iA k),(12,iA j)],(X,.row 71 3 (u.toList.map (AD false)))::Sf⟩) ?_ ?_
 ·refine AWP.block ?_
  refine BJ (λ(k:Nat)=>⟨[(0,.sl X 0 n),(1,iA a),(4,.fn f cap),(11,iA k),(12,iA j)],(X,.row 71 3 (u.toList.map (AD false)))::Sf⟩) (λk=>i<=k/\k<=max i (j+1)/\scanUp (λx=>!(AZ cf) u[a]! x) u j k=i2) (λk=>j+1-k) i ⟨Nat.le_refl _,by omega,hi2⟩ ?_;rintro k ⟨hk1,hk2,hk⟩;rw[scanUp]at hk;rcases Bool.eq_false_or_eq_true (decide ((k:Int)<=(j:Int)))with g|g
  ·have hg:k<=j:=by have:=of_decide_eq_true g;omega
   have h1:=BC (AD false) (d:=u) (i:=k) (by omega);have h2:=BC (AD false) (d:=u) (i:=a) (by omega);have hl:=hcf (u[a]!) (u[k]!);(repeat refine WF ?_);refine JL ?_;refine RGo.g_callv ?_;refine RGo.k2 (h:=(hl ..)) (k:=?_);(iterate 3 refine RK ?_);refine RGo.nil (by kernel_rfl) ?_;(repeat refine WF ?_);refine AWP.cond rfl (λhd=>?_) (λhd=>?_)
   ·have hd:(!(AZ cf) u[a]! u[k]!)=true:=by simpa[g,AZ]using hd
    rw[if_pos (by rw[Bool.and_eq_true];exact⟨Ae (by omega),hd⟩)]at hk;refine KK ?_;exact Af (k+1) ⟨by omega,by omega,hk⟩
   ·have hd:(!(AZ cf) u[a]! u[k]!)=false:=by simpa[g,AZ]using hd
    rw[if_neg (λe=>by rw[Bool.and_eq_true]at e;have e2:=e.2;rw[hd]at e2;cases e2)]at hk;refine KK ?_;exact jn k hk
  ·have hg:¬k<=j:=by have:=of_decide_eq_false g;omega
   rw[if_neg (λe=>by rw[Bool.and_eq_true]at e;have:=of_decide_eq_true e.1;omega)]at hk;(repeat refine WF ?_);refine RU ?_;(iterate 17 refine RK ?_);refine RGo.nil (by kernel_rfl) ?_;(repeat refine WF ?_);refine AA rfl (by simp[g]) ?_;refine KK ?_;exact jn k hk
 rintro k hk0;rw[hk0];clear hk0 k
 (repeat (first|refine AWP.skip ?_|refine CP ?_|refine AWP.seq ?_))
 refine Bk (λk:Nat=>k=j2) (λk=>⟨[(0,.sl X 0 n),(1,iA a),(4,.fn f cap),(11,iA i2),(12,iA k)],(X,.row 71 3 (u.toList.map (AD false)))::Sf⟩) ?_ ?_
 ·refine AWP.block ?_
  refine BJ (λ(k:Nat)=>⟨[(0,.sl X 0 n),(1,iA a),(4,.fn f cap),(11,iA i2),(12,iA k)],(X,.row 71 3 (u.toList.map (AD false)))::Sf⟩) (λk=>k<=j/\scanDown (λx=>(AZ cf) u[a]! x) u i2 k=j2) (λk=>k) j ⟨Nat.le_refl _,hj2⟩ ?_;rintro k ⟨hk1,hk⟩;rcases Bool.eq_false_or_eq_true (decide ((i2:Int)<=(k:Int)))with g|g
  ·have hg:i2<=k:=by have:=of_decide_eq_true g;omega
   obtain⟨q,rfl⟩:∃q,k=q+1:=⟨k-1,by omega⟩;rw[scanDown]at hk;have h1:=BC (AD false) (d:=u) (i:=q+1) (by omega);have h2:=BC (AD false) (d:=u) (i:=a) (by omega);have hl:=hcf (u[a]!) (u[q+1]!);(repeat refine WF ?_);refine JL ?_;refine RGo.g_callv ?_;refine RGo.k2 (h:=(hl ..)) (k:=?_);refine JG ?_;refine RGo.nil (by kernel_rfl) ?_;(repeat refine WF ?_);refine AWP.cond rfl (λhd=>?_) (λhd=>?_)
   ·have hd:((AZ cf) u[a]! u[q+1]!)=true:=by simpa[g,AZ]using hd
    rw[if_pos (by rw[Bool.and_eq_true];exact⟨Ae (by omega),hd⟩)]at hk
    (iterate 4 refine WK ?_);refine AOps.gN ?_;refine AOps.p (Ax ((q:Int)) (by omega) (by omega) rfl rfl) rfl ?_;refine KK ?_
    exact Af q ⟨by omega,hk⟩
   ·have hd:((AZ cf) u[a]! u[q+1]!)=false:=by simpa[g,AZ]using hd
    rw[if_neg (λe=>by rw[Bool.and_eq_true]at e;have e2:=e.2;rw[hd]at e2;cases e2)]at hk;refine KK ?_;exact jn (q+1) hk
  ·have hg:¬i2<=k:=by have:=of_decide_eq_false g;omega
   have hk3:scanDown (λx=>(AZ cf) u[a]! x) u i2 k=k:=by
    cases k with
    |zero=>rfl
    |succ q=>rw[scanDown,if_neg (λe=>by rw[Bool.and_eq_true]at e;have:=of_decide_eq_true e.1;omega)]
   rw[hk3]at hk;(repeat refine WF ?_);refine RU ?_;(iterate 16 refine RK ?_);refine RGo.nil (by kernel_rfl) ?_;(repeat refine WF ?_);refine AA rfl (by simp[g]) ?_;refine KK ?_;exact jn k hk
 rintro k hk0;rw[hk0];clear hk0 k;refine KK ?_;refine AWP.cond rfl (λhc=>?_) (λhc=>?_)
 ·have h:i2>j2:=by have:=of_decide_eq_true hc;omega
  rw[if_pos h]at hfold;subst hfold;refine JA ?_;exact Ends.sp [iA i2] [(X,_)] ⟨rfl,rfl⟩
 ·have h:¬i2>j2:=by have:=of_decide_eq_false hc;omega
  rw[if_neg h]at hfold;have h1:=BC (AD false) (d:=u) (i:=i2) (by omega);have h2:=BC (AD false) (d:=u) (i:=j2) (by omega);obtain⟨y,hy⟩:=CM (AD false) (d:=u) (i:=i2) (j:=j2) (by omega) u[j2]!;(repeat refine WF ?_);refine RU ?_;(iterate 15 refine RK ?_);refine RGo.gN ?_;refine RGo.s (W.store rfl rfl (by exact At.f) hy (by exact rfl)) rfl ?_;refine RGo.nil (by kernel_rfl) ?_
  (iterate 9 refine WK ?_);refine AOps.gN ?_;refine AOps.p (Ax (((j2-1:Nat):Int)) (by omega) (by omega) rfl rfl) rfl ?_;refine KK ?_
  refine CK (i2+1) (j2-1) (swp u i2 j2) ⟨by omega,by omega,by omega,by rw[size_swp];exact hu,hfold⟩ (h0:=by rw[<-Ck (AD false) (by omega) (by omega)];exact⟨by exact Lk.f,by exact Sub.f⟩)
theorem TY(f:FuncId)(cap:List AV)(cf:Item->Item->Int)(hst:B4 cap=true)(hcf:∀x y,PS Tryz.prog f ((AD false) x::(AD false) y::cap) (iA (cf x y)))(X n:Nat)(d:Array Item)(a b pivot:Nat)(hn:n=d.size)(ha:a<=pivot)(hp:pivot<b)(hb:b<=d.size)(hz:d.size<=1099511627776):PO Tryz.prog 219 [.sl X 0 n,iA a,iA b,iA pivot,.fn f cap] X (.row 71 3 (d.toList.map (AD false))) (.tup [iA (partition (AZ cf) d a b pivot).1,bA (partition (AZ cf) d a b pivot).2.1]) (.row 71 3 ((partition (AZ cf) d a b pivot).2.2.toList.map (AD false))):=by
 obtain⟨r,hr⟩:=nm (partition (AZ cf) d a b pivot);rw[hr];dsimp only[partition]at hr;refine Sp (nt:=178) (res:=[.tmp 10,.tmp 11]) Tryz.func219 λSf=>?_
 have h1:=BC (AD false) (d:=d) (i:=a) (by omega);have h2:=BC (AD false) (d:=d) (i:=pivot) (by omega);have hrow:=Ck (AD false) (d:=d) (i:=a) (j:=pivot) (by omega) (by omega);obtain⟨y,hy⟩:=CM (AD false) (d:=d) (i:=a) (j:=pivot) (by omega) d[pivot]!;refine R1 ?_;refine RU ?_;(iterate 15 refine RK ?_);refine RGo.gN ?_;refine RGo.s (W.store rfl rfl (by exact At.f) hy (by exact rfl)) rfl ?_;refine RGo.nil (by kernel_rfl) ?_;have hsz:(swp d a pivot).size=d.size:=size_swp _ _ _;obtain⟨u,hu0⟩:=nm (swp d a pivot);rw[hu0]at hr hrow hsz;obtain⟨j,hj⟩:=nm (b-1);obtain⟨i,hi⟩:=nm (a+1);rw[hj,hi]at hr;refine JE ?_;refine AOps.gN ?_;refine AOps.p (Bc (((i:Nat):Int)) (by omega) (by omega) rfl rfl) rfl ?_;refine WO ?_;refine AOps.gN ?_;refine AOps.p (Ax ((j:Int)) (by omega) (by omega) rfl rfl) rfl ?_;refine JF ?_
 (repeat (first|refine AWP.skip ?_|refine CP ?_|refine AWP.seq ?_))
 refine No [(0,.sl X 0 n),(1,iA a),(4,.fn f cap),(12,iA i),(13,iA j)] ((X,.row 71 3 (u.toList.map (AD false)))::Sf) ?_ (h:=by rw[<-hrow];exact⟨by exact Lk.f,by exact Sub.f⟩);have hu:u.size=d.size:=hsz;have hfold:=hr;obtain⟨i2,hi2⟩:=nm (scanUp (λx=>(AZ cf) x u[a]!) u j i);rw[hi2]at hfold;obtain⟨j2,hj2⟩:=nm (scanDown (λx=>!(AZ cf) x u[a]!) u i2 j);rw[hj2]at hfold;have hge:=scanUp_ge (λx=>(AZ cf) x u[a]!) u j i;have hle:=scanDown_le (λx=>!(AZ cf) x u[a]!) u i2 j;rw[hi2]at hge;rw[hj2]at hle;have hge2:i2<=max i (j+1):=by rw[<-hi2];exact HQ _ _ _ _
 refine Bk (λk:Nat=>k=i2) (λk=>⟨[(0,.sl X 0 n),(1,iA a),(4,.fn f cap),(12,iA k),(13,iA j)],(X,.row 71 3 (u.toList.map (AD false)))::Sf⟩) ?_ ?_
 ·refine AWP.block ?_
  refine BJ (λ(k:Nat)=>⟨[(0,.sl X 0 n),(1,iA a),(4,.fn f cap),(12,iA k),(13,iA j)],(X,.row 71 3 (u.toList.map (AD false)))::Sf⟩) (λk=>i<=k/\k<=max i (j+1)/\scanUp (λx=>(AZ cf) x u[a]!) u j k=i2) (λk=>j+1-k) i ⟨Nat.le_refl _,by omega,hi2⟩ ?_;rintro k ⟨hk1,hk2,hk⟩;rw[scanUp]at hk;rcases Bool.eq_false_or_eq_true (decide ((k:Int)<=(j:Int)))with g|g
  ·have hg:k<=j:=by have:=of_decide_eq_true g;omega
   have h1:=BC (AD false) (d:=u) (i:=k) (by omega);have h2:=BC (AD false) (d:=u) (i:=a) (by omega);have hl:=hcf (u[k]!) (u[a]!);(repeat refine WF ?_);refine JL ?_;refine RGo.g_callv ?_;refine RGo.k2 (h:=(hl ..)) (k:=?_);refine JG ?_;refine RGo.nil (by kernel_rfl) ?_;(repeat refine WF ?_);refine AWP.cond rfl (λhd=>?_) (λhd=>?_)
   ·have hd:((AZ cf) u[k]! u[a]!)=true:=by simpa[g,AZ]using hd
    rw[if_pos (by rw[Bool.and_eq_true];exact⟨Ae (by omega),hd⟩)]at hk;refine KK ?_;exact Af (k+1) ⟨by omega,by omega,hk⟩
   ·have hd:((AZ cf) u[k]! u[a]!)=false:=by simpa[g,AZ]using hd
    rw[if_neg (λe=>by rw[Bool.and_eq_true]at e;have e2:=e.2;rw[hd]at e2;cases e2)]at hk;refine KK ?_;exact jn k hk
  ·have hg:¬k<=j:=by have:=of_decide_eq_false g;omega
   rw[if_neg (λe=>by rw[Bool.and_eq_true]at e;have:=of_decide_eq_true e.1;omega)]at hk;(repeat refine WF ?_);refine RU ?_;(iterate 16 refine RK ?_);refine RGo.nil (by kernel_rfl) ?_;(repeat refine WF ?_);refine AA rfl (by simp[g]) ?_;refine KK ?_;exact jn k hk
 rintro k hk0;rw[hk0];clear hk0 k
 (repeat (first|refine AWP.skip ?_|refine CP ?_|refine AWP.seq ?_))
 refine Bk (λk:Nat=>k=j2) (λk=>⟨[(0,.sl X 0 n),(1,iA a),(4,.fn f cap),(12,iA i2),(13,iA k)],(X,.row 71 3 (u.toList.map (AD false)))::Sf⟩) ?_ ?_
 ·refine AWP.block ?_
  refine BJ (λ(k:Nat)=>⟨[(0,.sl X 0 n),(1,iA a),(4,.fn f cap),(12,iA i2),(13,iA k)],(X,.row 71 3 (u.toList.map (AD false)))::Sf⟩) (λk=>k<=j/\scanDown (λx=>!(AZ cf) x u[a]!) u i2 k=j2) (λk=>k) j ⟨Nat.le_refl _,hj2⟩ ?_;rintro k ⟨hk1,hk⟩;rcases Bool.eq_false_or_eq_true (decide ((i2:Int)<=(k:Int)))with g|g
  ·have hg:i2<=k:=by have:=of_decide_eq_true g;omega
   obtain⟨q,rfl⟩:∃q,k=q+1:=⟨k-1,by omega⟩;rw[scanDown]at hk;have h1:=BC (AD false) (d:=u) (i:=q+1) (by omega);have h2:=BC (AD false) (d:=u) (i:=a) (by omega);have hl:=hcf (u[q+1]!) (u[a]!);(repeat refine WF ?_);refine JL ?_;refine RGo.g_callv ?_;refine RGo.k2 (h:=(hl ..)) (k:=?_);(iterate 3 refine RK ?_);refine RGo.nil (by kernel_rfl) ?_;(repeat refine WF ?_);refine AWP.cond rfl (λhd=>?_) (λhd=>?_)
   ·have hd:(!(AZ cf) u[q+1]! u[a]!)=true:=by simpa[g,AZ]using hd
    rw[if_pos (by rw[Bool.and_eq_true];exact⟨Ae (by omega),hd⟩)]at hk
    (iterate 4 refine WK ?_);refine AOps.gN ?_;refine AOps.p (Ax ((q:Int)) (by omega) (by omega) rfl rfl) rfl ?_;refine KK ?_
    exact Af q ⟨by omega,hk⟩
   ·have hd:(!(AZ cf) u[q+1]! u[a]!)=false:=by simpa[g,AZ]using hd
    rw[if_neg (λe=>by rw[Bool.and_eq_true]at e;have e2:=e.2;rw[hd]at e2;cases e2)]at hk;refine KK ?_;exact jn (q+1) hk
  ·have hg:¬i2<=k:=by have:=of_decide_eq_false g;omega
   have hk3:scanDown (λx=>!(AZ cf) x u[a]!) u i2 k=k:=by
    cases k with
    |zero=>rfl
    |succ q=>rw[scanDown,if_neg (λe=>by rw[Bool.and_eq_true]at e;have:=of_decide_eq_true e.1;omega)]
   rw[hk3]at hk;(repeat refine WF ?_);refine RU ?_;(iterate 17 refine RK ?_);refine RGo.nil (by kernel_rfl) ?_;(repeat refine WF ?_);refine AA rfl (by simp[g]) ?_;refine KK ?_;exact jn k hk
 rintro k hk0;rw[hk0];clear hk0 k;refine KK ?_;refine AWP.cond rfl (λhc=>?_) (λhc=>?_)
 ·have h:i2>j2:=by have:=of_decide_eq_true hc;omega
  rw[if_pos h]at hfold;subst hfold;have h1:=BC (AD false) (d:=u) (i:=j2) (by omega);have h2:=BC (AD false) (d:=u) (i:=a) (by omega);have hrow2:=Ck (AD false) (d:=u) (i:=j2) (j:=a) (by omega) (by omega);obtain⟨y,hy⟩:=CM (AD false) (d:=u) (i:=j2) (j:=a) (by omega) u[a]!;(repeat refine WF ?_);refine RU ?_;(iterate 15 refine RK ?_);refine RGo.gN ?_;refine RGo.s (W.store rfl rfl (by exact At.f) hy (by exact rfl)) rfl ?_;refine RGo.nil (by kernel_rfl) ?_;refine JA ?_;exact Ends.sp [iA j2,bA true] [(X,_)] ⟨rfl,by rw[<-hrow2]⟩
 have h:¬i2>j2:=by have:=of_decide_eq_false hc;omega
 rw[if_neg h]at hfold;obtain⟨pr,hpr⟩:=nm (partLoop (AZ cf) a (i2+1) (j2-1) (swp u i2 j2));rw[hpr]at hfold;have h1:=BC (AD false) (d:=u) (i:=i2) (by omega);have h2:=BC (AD false) (d:=u) (i:=j2) (by omega);clear y hy;obtain⟨y,hy⟩:=CM (AD false) (d:=u) (i:=i2) (j:=j2) (by omega) u[j2]!;(repeat refine WF ?_);refine RU ?_;(iterate 15 refine RK ?_);refine RGo.gN ?_;refine RGo.s (W.store rfl rfl (by exact At.f) hy (by exact rfl)) rfl ?_;refine RGo.nil (by kernel_rfl) ?_
 (iterate 9 refine WK ?_);refine AOps.gN ?_;refine AOps.p (Ax (((j2-1:Nat):Int)) (by omega) (by omega) rfl rfl) rfl ?_;refine KK ?_
 refine Dd (λ(i j:Nat) (u:Array Item)=>⟨[(0,.sl X 0 n),(1,iA a),(4,.fn f cap),(12,iA i),(13,iA j)],(X,.row 71 3 (u.toList.map (AD false)))::Sf⟩) (λi j u=>a<i/\i<=j+2/\j<b/\u.size=d.size/\partLoop (AZ cf) a i j u=pr) (λi j _=>j+1-i) (i2+1) (j2-1) (swp u i2 j2) ⟨by omega,by omega,by omega,by rw[size_swp];exact hu,hpr⟩ ?_ (h0:=by rw[<-Ck (AD false) (by omega) (by omega)];exact⟨by exact Lk.f,by exact Sub.f⟩);subst hfold;clear hc h h1 h2 hpr hi2 hj2 hge hle hge2 hr hrow hu0 hu hsz hi hj hy y i2 j2 i j u;rintro i j u ⟨hai,hij,hjb,hu,hfold⟩;rw[partLoop_eq]at hfold;obtain⟨i2,hi2⟩:=nm (scanUp (λx=>(AZ cf) x u[a]!) u j i);rw[hi2]at hfold;obtain⟨j2,hj2⟩:=nm (scanDown (λx=>!(AZ cf) x u[a]!) u i2 j);rw[hj2]at hfold;have hge:=scanUp_ge (λx=>(AZ cf) x u[a]!) u j i;have hle:=scanDown_le (λx=>!(AZ cf) x u[a]!) u i2 j;rw[hi2]at hge;rw[hj2]at hle;have hge2:i2<=max i (j+1):=by rw[<-hi2];exact HQ _ _ _ _
 refine AWP.block ?_
 (repeat (first|refine AWP.skip ?_|refine CP ?_|refine AWP.seq ?_))
 refine Bk (λk:Nat=>k=i2) (λk=>⟨[(0,.sl X 0 n),(1,iA a),(4,.fn f cap),(12,iA k),(13,iA j)],(X,.row 71 3 (u.toList.map (AD false)))::Sf⟩) ?_ ?_
 ·refine AWP.block ?_
  refine BJ (λ(k:Nat)=>⟨[(0,.sl X 0 n),(1,iA a),(4,.fn f cap),(12,iA k),(13,iA j)],(X,.row 71 3 (u.toList.map (AD false)))::Sf⟩) (λk=>i<=k/\k<=max i (j+1)/\scanUp (λx=>(AZ cf) x u[a]!) u j k=i2) (λk=>j+1-k) i ⟨Nat.le_refl _,by omega,hi2⟩ ?_;rintro k ⟨hk1,hk2,hk⟩;rw[scanUp]at hk;rcases Bool.eq_false_or_eq_true (decide ((k:Int)<=(j:Int)))with g|g
  ·have hg:k<=j:=by have:=of_decide_eq_true g;omega
   have h1:=BC (AD false) (d:=u) (i:=k) (by omega);have h2:=BC (AD false) (d:=u) (i:=a) (by omega);have hl:=hcf (u[k]!) (u[a]!);(repeat refine WF ?_);refine JL ?_;refine RGo.g_callv ?_;refine RGo.k2 (h:=(hl ..)) (k:=?_);refine JG ?_;refine RGo.nil (by kernel_rfl) ?_;(repeat refine WF ?_);refine AWP.cond rfl (λhd=>?_) (λhd=>?_)
   ·have hd:((AZ cf) u[k]! u[a]!)=true:=by simpa[g,AZ]using hd
    rw[if_pos (by rw[Bool.and_eq_true];exact⟨Ae (by omega),hd⟩)]at hk;refine KK ?_;exact Af (k+1) ⟨by omega,by omega,hk⟩
   ·have hd:((AZ cf) u[k]! u[a]!)=false:=by simpa[g,AZ]using hd
    rw[if_neg (λe=>by rw[Bool.and_eq_true]at e;have e2:=e.2;rw[hd]at e2;cases e2)]at hk;refine KK ?_;exact jn k hk
  ·have hg:¬k<=j:=by have:=of_decide_eq_false g;omega
   rw[if_neg (λe=>by rw[Bool.and_eq_true]at e;have:=of_decide_eq_true e.1;omega)]at hk;(repeat refine WF ?_);refine RU ?_;(iterate 16 refine RK ?_);refine RGo.nil (by kernel_rfl) ?_;(repeat refine WF ?_);refine AA rfl (by simp[g]) ?_;refine KK ?_;exact jn k hk
 rintro k hk0;rw[hk0];clear hk0 k
 (repeat (first|refine AWP.skip ?_|refine CP ?_|refine AWP.seq ?_))
 refine Bk (λk:Nat=>k=j2) (λk=>⟨[(0,.sl X 0 n),(1,iA a),(4,.fn f cap),(12,iA i2),(13,iA k)],(X,.row 71 3 (u.toList.map (AD false)))::Sf⟩) ?_ ?_
 ·refine AWP.block ?_
  refine BJ (λ(k:Nat)=>⟨[(0,.sl X 0 n),(1,iA a),(4,.fn f cap),(12,iA i2),(13,iA k)],(X,.row 71 3 (u.toList.map (AD false)))::Sf⟩) (λk=>k<=j/\scanDown (λx=>!(AZ cf) x u[a]!) u i2 k=j2) (λk=>k) j ⟨Nat.le_refl _,hj2⟩ ?_;rintro k ⟨hk1,hk⟩;rcases Bool.eq_false_or_eq_true (decide ((i2:Int)<=(k:Int)))with g|g
  ·have hg:i2<=k:=by have:=of_decide_eq_true g;omega
   obtain⟨q,rfl⟩:∃q,k=q+1:=⟨k-1,by omega⟩;rw[scanDown]at hk;have h1:=BC (AD false) (d:=u) (i:=q+1) (by omega);have h2:=BC (AD false) (d:=u) (i:=a) (by omega);have hl:=hcf (u[q+1]!) (u[a]!);(repeat refine WF ?_);refine JL ?_;refine RGo.g_callv ?_;refine RGo.k2 (h:=(hl ..)) (k:=?_);(iterate 3 refine RK ?_);refine RGo.nil (by kernel_rfl) ?_;(repeat refine WF ?_);refine AWP.cond rfl (λhd=>?_) (λhd=>?_)
   ·have hd:(!(AZ cf) u[q+1]! u[a]!)=true:=by simpa[g,AZ]using hd
    rw[if_pos (by rw[Bool.and_eq_true];exact⟨Ae (by omega),hd⟩)]at hk
    (iterate 4 refine WK ?_);refine AOps.gN ?_;refine AOps.p (Ax ((q:Int)) (by omega) (by omega) rfl rfl) rfl ?_;refine KK ?_
    exact Af q ⟨by omega,hk⟩
   ·have hd:(!(AZ cf) u[q+1]! u[a]!)=false:=by simpa[g,AZ]using hd
    rw[if_neg (λe=>by rw[Bool.and_eq_true]at e;have e2:=e.2;rw[hd]at e2;cases e2)]at hk;refine KK ?_;exact jn (q+1) hk
  ·have hg:¬i2<=k:=by have:=of_decide_eq_false g;omega
   have hk3:scanDown (λx=>!(AZ cf) x u[a]!) u i2 k=k:=by
    cases k with
    |zero=>rfl
    |succ q=>rw[scanDown,if_neg (λe=>by rw[Bool.and_eq_true]at e;have:=of_decide_eq_true e.1;omega)]
   rw[hk3]at hk;(repeat refine WF ?_);refine RU ?_;(iterate 17 refine RK ?_);refine RGo.nil (by kernel_rfl) ?_;(repeat refine WF ?_);refine AA rfl (by simp[g]) ?_;refine KK ?_;exact jn k hk
 rintro k hk0;rw[hk0];clear hk0 k;refine KK ?_;refine AWP.cond rfl (λhc=>?_) (λhc=>?_)
 ·have h:i2>j2:=by have:=of_decide_eq_true hc;omega
  rw[if_pos h]at hfold;subst hfold;have h1:=BC (AD false) (d:=u) (i:=j2) (by omega);have h2:=BC (AD false) (d:=u) (i:=a) (by omega);have hrow2:=Ck (AD false) (d:=u) (i:=j2) (j:=a) (by omega) (by omega);obtain⟨y,hy⟩:=CM (AD false) (d:=u) (i:=j2) (j:=a) (by omega) u[a]!;(repeat refine WF ?_);refine RU ?_;(iterate 15 refine RK ?_);refine RGo.gN ?_;refine RGo.s (W.store rfl rfl (by exact At.f) hy (by exact rfl)) rfl ?_;refine RGo.nil (by kernel_rfl) ?_;refine JA ?_;exact Ends.sp [iA j2,bA false] [(X,_)] ⟨rfl,by rw[<-hrow2]⟩
 ·have h:¬i2>j2:=by have:=of_decide_eq_false hc;omega
  rw[if_neg h]at hfold;have h1:=BC (AD false) (d:=u) (i:=i2) (by omega);have h2:=BC (AD false) (d:=u) (i:=j2) (by omega);obtain⟨y,hy⟩:=CM (AD false) (d:=u) (i:=i2) (j:=j2) (by omega) u[j2]!;(repeat refine WF ?_);refine RU ?_;(iterate 15 refine RK ?_);refine RGo.gN ?_;refine RGo.s (W.store rfl rfl (by exact At.f) hy (by exact rfl)) rfl ?_;refine RGo.nil (by kernel_rfl) ?_
  (iterate 9 refine WK ?_);refine AOps.gN ?_;refine AOps.p (Ax (((j2-1:Nat):Int)) (by omega) (by omega) rfl rfl) rfl ?_;refine KK ?_
  refine CK (i2+1) (j2-1) (swp u i2 j2) ⟨by omega,by omega,by omega,by rw[size_swp];exact hu,hfold⟩ (h0:=by rw[<-Ck (AD false) (by omega) (by omega)];exact⟨by exact Lk.f,by exact Sub.f⟩)
end
section
open Go.Sort
theorem JT(lt:Item->Item->Bool)(d:Array Item)(b i:Nat):i<=scanSorted lt d b i/\scanSorted lt d b i<=max i b:=by
 obtain⟨m,hm⟩:=nm (b-i)
 induction m generalizing i with
 |zero=>rw[scanSorted,if_neg (λe=>by rw[Bool.and_eq_true]at e;have:=of_decide_eq_true e.1;omega)];omega
 |succ m ih=>
  rw[scanSorted];split
  ·have:=ih (i+1) (by omega)
   omega
  ·omega
theorem TT(f:FuncId)(cap:List AV)(cf:Item->Item->Int)(hst:B4 cap=true)(hcf:∀x y,PS Tryz.prog f ((AD false) x::(AD false) y::cap) (iA (cf x y)))(X n:Nat)(d:Array Item)(a b:Nat)(hn:n=d.size)(hab:a<b)(hb:b<=d.size)(hz:d.size<=1099511627776):PO Tryz.prog 217 [.sl X 0 n,iA a,iA b,.fn f cap] X (.row 71 3 (d.toList.map (AD false))) (bA (partialInsertionSort (AZ cf) d a b).2) (.row 71 3 ((partialInsertionSort (AZ cf) d a b).1.toList.map (AD false))):=by
 obtain⟨r,hr⟩:=nm (partialInsertionSort (AZ cf) d a b);rw[hr];unfold partialInsertionSort at hr;refine Sp (nt:=141) (res:=[.tmp 8]) Tryz.func217 λSf=>?_
 (iterate 7 refine WK ?_);refine AOps.gN ?_;refine AOps.p (Bc (((a+1:Nat):Int)) (by omega) (by omega) rfl rfl) rfl ?_;refine KK ?_
 refine Dd (λ(c i:Nat) (u:Array Item)=>⟨[(0,.sl X 0 n),(1,iA a),(2,iA b),(3,.fn f cap),(9,iA i),(10,iA c)],(X,.row 71 3 (u.toList.map (AD false)))::Sf⟩) (λc i u=>c<=5/\a<i/\i<=b/\u.size=d.size/\partialIns (AZ cf) a b (5-c) i u=r) (λc _ _=>5-c) 0 (a+1) d ⟨by omega,by omega,by omega,rfl,hr⟩ ?_;rintro c i u ⟨hc5,hai,hib,hu,hfold⟩;refine KK ?_;refine AWP.cond rfl (λhc=>?_) (λhc=>?_)
 ·have h:c<5:=by have:=of_decide_eq_true hc;omega
  obtain⟨s,hs⟩:∃s,5-c=s+1:=⟨4-c,by omega⟩;rw[hs,partialIns_succ]at hfold;obtain⟨i2,hi2⟩:=nm (scanSorted (AZ cf) u b i);rw[hi2]at hfold;have hrg:=JT (AZ cf) u b i;rw[hi2]at hrg
  (repeat (first|refine AWP.skip ?_|refine CP ?_|refine AWP.seq ?_))
  refine AWP.block ?_
  (repeat (first|refine AWP.skip ?_|refine CP ?_|refine AWP.seq ?_))
  refine Bk (λk:Nat=>k=i2) (λk=>⟨[(0,.sl X 0 n),(1,iA a),(2,iA b),(3,.fn f cap),(9,iA k),(10,iA c)],(X,.row 71 3 (u.toList.map (AD false)))::Sf⟩) ?_ ?_
  ·refine AWP.block ?_
   refine BJ (λ(k:Nat)=>⟨[(0,.sl X 0 n),(1,iA a),(2,iA b),(3,.fn f cap),(9,iA k),(10,iA c)],(X,.row 71 3 (u.toList.map (AD false)))::Sf⟩) (λk=>i<=k/\k<=b/\scanSorted (AZ cf) u b k=i2) (λk=>b-k) i ⟨Nat.le_refl _,hib,hi2⟩ ?_;rintro k ⟨hk1,hk2,hk⟩;rw[scanSorted]at hk;rcases Bool.eq_false_or_eq_true (decide ((k:Int)<(b:Int)))with g|g
   ·have hg:k<b:=by have:=of_decide_eq_true g;omega
    have h1:=BC (AD false) (d:=u) (i:=k) (by omega);have h2:=BC (AD false) (d:=u) (i:=k-1) (by omega);have hl:=hcf (u[k]!) (u[k-1]!);(repeat refine WF ?_);refine RU ?_;(iterate 11 refine RK ?_);refine RGo.gQ ?_;refine RGo.go (h:=Ax (((k-1:Nat):Int)) (by omega) (by omega) rfl rfl) (k:=?_);refine KR ?_;refine RGo.g_callv ?_;refine RGo.k2 (h:=(hl ..)) (k:=?_);(iterate 3 refine RK ?_);refine RGo.nil (by kernel_rfl) ?_;(repeat refine WF ?_);refine AWP.cond rfl (λhd=>?_) (λhd=>?_)
    ·have hd:(!(AZ cf) u[k]! u[k-1]!)=true:=by simpa[g,AZ]using hd
     rw[if_pos (by rw[Bool.and_eq_true];exact⟨Ae (by omega),hd⟩)]at hk;refine KK ?_;exact Af (k+1) ⟨by omega,by omega,hk⟩
    ·have hd:(!(AZ cf) u[k]! u[k-1]!)=false:=by simpa[g,AZ]using hd
     rw[if_neg (λe=>by rw[Bool.and_eq_true]at e;have e2:=e.2;rw[hd]at e2;cases e2)]at hk;refine KK ?_;exact jn k hk
   ·have hg:¬k<b:=by have:=of_decide_eq_false g;omega
    rw[if_neg (λe=>by rw[Bool.and_eq_true]at e;have:=of_decide_eq_true e.1;omega)]at hk;(repeat refine WF ?_);refine RU ?_;(iterate 18 refine RK ?_);refine RGo.nil (by kernel_rfl) ?_;(repeat refine WF ?_);refine AA rfl (by simp[g]) ?_;refine KK ?_;exact jn k hk
  rintro k hk0;rw[hk0];clear hk0 k;refine KK ?_;refine AWP.cond rfl (λhd=>?_) (λhd=>?_)
  ·have hd:i2=b:=by have:=of_decide_eq_true hd;omega
   rw[if_pos hd]at hfold;subst hfold;refine JA ?_;exact Ends.sp [bA true] [(X,_)] ⟨rfl,rfl⟩
  have hd:¬i2=b:=by have:=of_decide_eq_false hd;omega
  rw[if_neg hd]at hfold
  (iterate 6 refine WK ?_);refine AOps.gN ?_;refine AOps.p (Ax (((b-a:Nat):Int)) (by omega) (by omega) rfl rfl) rfl ?_;refine KK ?_
  refine AWP.cond rfl (λhe=>?_) (λhe=>?_)
  ·have he:b-a<50:=by have:=of_decide_eq_true he;omega
   rw[if_pos he]at hfold;subst hfold;refine JA ?_;exact Ends.sp [bA false] [(X,_)] ⟨rfl,rfl⟩
  have he:¬b-a<50:=by have:=of_decide_eq_false he;omega
  rw[if_neg he]at hfold;have h1:=BC (AD false) (d:=u) (i:=i2) (by omega);have h2:=BC (AD false) (d:=u) (i:=i2-1) (by omega);have hrow:=Ck (AD false) (d:=u) (i:=i2) (j:=i2-1) (by omega) (by omega);obtain⟨y,hy⟩:=CM (AD false) (d:=u) (i:=i2) (j:=i2-1) (by omega) u[i2-1]!;have hvs:(swp u i2 (i2-1)).size=d.size:=by rw[size_swp];exact hu
  (repeat refine WF ?_);refine RU ?_;(iterate 4 refine RK ?_);refine RGo.gN ?_;refine RGo.go (h:=Ax (((i2-1:Nat):Int)) (by omega) (by omega) rfl rfl) (k:=?_);refine JG ?_;refine RGo.gN ?_;refine RGo.go (h:=Ax (((i2-1:Nat):Int)) (by omega) (by omega) rfl rfl) (k:=?_);(iterate 9 refine RK ?_);refine RGo.gN ?_;refine RGo.s (W.store rfl rfl (by exact At.f) hy (by exact rfl)) rfl ?_;refine RGo.nil (by kernel_rfl) ?_;obtain⟨v,hv⟩:=nm (swp u i2 (i2-1));rw[hv]at hrow hvs hfold;refine No [(0,.sl X 0 n),(1,iA a),(2,iA b),(3,.fn f cap),(9,iA i2),(10,iA c)] ((X,.row 71 3 (v.toList.map (AD false)))::Sf) ?_ (h:=by rw[<-hrow];exact⟨by exact Lk.f,by exact Sub.f⟩)
  (iterate 5 refine WK ?_);refine AOps.gN ?_;refine AOps.p (Ax (((i2-a:Nat):Int)) (by omega) (by omega) rfl rfl) rfl ?_;refine KK ?_
  refine Bk (λw:Array Item=>w.size=d.size/\w=fixDown (AZ cf) a i2 v) (λw=>⟨[(0,.sl X 0 n),(1,iA a),(2,iA b),(3,.fn f cap),(9,iA i2),(10,iA c)],(X,.row 71 3 (w.toList.map (AD false)))::Sf⟩) ?_ ?_
  ·unfold fixDown
   refine AWP.cond rfl (λhf=>?_) (λhf=>?_)
   ·have hf:i2-a>=2:=by have:=of_decide_eq_true hf;omega
    rw[if_pos hf]
    (iterate 3 refine WK ?_);refine AOps.gN ?_;refine AOps.p (Ax (((i2-1:Nat):Int)) (by omega) (by omega) rfl rfl) rfl ?_;refine KK ?_
    refine BZ (λ(k:Nat) (w:Array Item)=>⟨[(0,.sl X 0 n),(1,iA a),(2,iA b),(3,.fn f cap),(9,iA i2),(10,iA c),(11,iA k)],(X,.row 71 3 (w.toList.map (AD false)))::Sf⟩) (λk w=>k<b/\w.size=d.size/\shiftDown (AZ cf) k w=shiftDown (AZ cf) (i2-1) v) (λk _=>k) (i2-1) v ⟨by omega,hvs,rfl⟩ ?_;rintro k w ⟨hkb,hw,hk⟩;refine KK ?_;refine AWP.cond rfl (λhg=>?_) (λhg=>?_)
    ·obtain⟨q,rfl⟩:∃q,k=q+1:=⟨k-1,by have:=of_decide_eq_true hg;omega⟩
     rw[shiftDown]at hk;have h1:=BC (AD false) (d:=w) (i:=q+1) (by omega);have h2:=BC (AD false) (d:=w) (i:=q) (by omega);have hl:=hcf (w[q+1]!) (w[q]!);(repeat refine WF ?_);refine RU ?_;(iterate 7 refine RK ?_);refine RGo.gN ?_;refine RGo.go (h:=Ax ((q:Int)) (by omega) (by omega) rfl rfl) (k:=?_);refine KR ?_;refine RGo.g_callv ?_;refine RGo.k2 (h:=(hl ..)) (k:=?_);refine JG ?_;refine RGo.nil (by kernel_rfl) ?_;(repeat refine WF ?_);refine AWP.cond rfl (λhd=>?_) (λhd=>?_)
     ·have hd:(!(AZ cf) w[q+1]! w[q]!)=true:=by simpa[AZ]using hd
      rw[if_pos hd]at hk;refine KK ?_;exact jn w ⟨hw,hk⟩
     ·have hd:(!(AZ cf) w[q+1]! w[q]!)=false:=by simpa[AZ]using hd
      rw[if_neg (by rw[hd];simp)]at hk;clear y hy;obtain⟨y,hy⟩:=CM (AD false) (d:=w) (i:=q+1) (j:=q) (by omega) w[q]!;(repeat refine WF ?_);refine RU ?_;(iterate 4 refine RK ?_);refine RGo.gN ?_;refine RGo.go (h:=Ax ((q:Int)) (by omega) (by omega) rfl rfl) (k:=?_);refine JG ?_;refine RGo.gN ?_;refine RGo.go (h:=Ax ((q:Int)) (by omega) (by omega) rfl rfl) (k:=?_);(iterate 9 refine RK ?_);refine RGo.gN ?_;refine RGo.s (W.store rfl rfl (by exact At.f) hy (by exact rfl)) rfl ?_;refine RGo.nil (by kernel_rfl) ?_
      (iterate 4 refine WK ?_);refine AOps.gN ?_;refine AOps.p (Ax ((q:Int)) (by omega) (by omega) rfl rfl) rfl ?_;refine KK ?_
      refine A8 q (swp w (q+1) q) ⟨by omega,by rw[size_swp];exact hw,hk⟩ (h0:=by rw[<-Ck (AD false) (by omega) (by omega)];exact⟨by exact Lk.f,by exact Sub.f⟩)
    ·obtain rfl:k=0:=by have:=of_decide_eq_false hg;omega
     rw[shiftDown]at hk;refine KK ?_;exact jn w ⟨hw,hk⟩
   ·have hf:¬i2-a>=2:=by have:=of_decide_eq_false hf;omega
    rw[if_neg hf];refine WK ?_;exact jn v ⟨hvs,rfl⟩
  rintro w ⟨hws,hw0⟩;rw[<-hw0]at hfold;clear hw0 hrow y hy h1 h2
  (iterate 4 refine WK ?_);refine AOps.gN ?_;refine AOps.p (Ax (((b-i2:Nat):Int)) (by omega) (by omega) rfl rfl) rfl ?_;refine KK ?_
  refine Sz (λz:Array Item=>z.size=d.size/\z=fixUp (AZ cf) b i2 w) (λz=>⟨[(0,.sl X 0 n),(1,iA a),(2,iA b),(3,.fn f cap),(9,iA i2),(10,iA c)],(X,.row 71 3 (z.toList.map (AD false)))::Sf⟩) ?_ ?_
  ·unfold fixUp
   refine AWP.cond rfl (λhf=>?_) (λhf=>?_)
   ·have hf:b-i2>=2:=by have:=of_decide_eq_true hf;omega
    rw[if_pos hf]
    (iterate 3 refine WK ?_);refine AOps.gN ?_;refine AOps.p (Bc (((i2+1:Nat):Int)) (by omega) (by omega) rfl rfl) rfl ?_;refine KK ?_
    refine BZ (λ(k:Nat) (z:Array Item)=>⟨[(0,.sl X 0 n),(1,iA a),(2,iA b),(3,.fn f cap),(9,iA i2),(10,iA c),(12,iA k)],(X,.row 71 3 (z.toList.map (AD false)))::Sf⟩) (λk z=>i2<k/\k<=b/\z.size=d.size/\shiftUp (AZ cf) b k z=shiftUp (AZ cf) b (i2+1) w) (λk _=>b-k) (i2+1) w ⟨by omega,by omega,hws,rfl⟩ ?_;rintro k z ⟨hik,hkb,hz1,hk⟩;rw[shiftUp]at hk;refine KK ?_;refine AWP.cond rfl (λhg=>?_) (λhg=>?_)
    ·have hg:k<b:=by have:=of_decide_eq_true hg;omega
     rw[if_pos hg]at hk;have h1:=BC (AD false) (d:=z) (i:=k) (by omega);have h2:=BC (AD false) (d:=z) (i:=k-1) (by omega);have hl:=hcf (z[k]!) (z[k-1]!);(repeat refine WF ?_);refine RU ?_;(iterate 7 refine RK ?_);refine RGo.gN ?_;refine RGo.go (h:=Ax (((k-1:Nat):Int)) (by omega) (by omega) rfl rfl) (k:=?_);refine KR ?_;refine RGo.g_callv ?_;refine RGo.k2 (h:=(hl ..)) (k:=?_);refine JG ?_;refine RGo.nil (by kernel_rfl) ?_;(repeat refine WF ?_);refine AWP.cond rfl (λhd=>?_) (λhd=>?_)
     ·have hd:(!(AZ cf) z[k]! z[k-1]!)=true:=by simpa[AZ]using hd
      rw[if_pos hd]at hk;refine KK ?_;exact jn z ⟨hz1,hk⟩
     ·have hd:(!(AZ cf) z[k]! z[k-1]!)=false:=by simpa[AZ]using hd
      rw[if_neg (by rw[hd];simp)]at hk;obtain⟨y,hy⟩:=CM (AD false) (d:=z) (i:=k) (j:=k-1) (by omega) z[k-1]!;(repeat refine WF ?_);refine RU ?_;(iterate 4 refine RK ?_);refine RGo.gN ?_;refine RGo.go (h:=Ax (((k-1:Nat):Int)) (by omega) (by omega) rfl rfl) (k:=?_);refine JG ?_;refine RGo.gN ?_;refine RGo.go (h:=Ax (((k-1:Nat):Int)) (by omega) (by omega) rfl rfl) (k:=?_);(iterate 9 refine RK ?_);refine RGo.gN ?_;refine RGo.s (W.store rfl rfl (by exact At.f) hy (by exact rfl)) rfl ?_;refine RGo.nil (by kernel_rfl) ?_;refine KK ?_;refine A8 (k+1) (swp z k (k-1)) ⟨by omega,by omega,by rw[size_swp];exact hz1,hk⟩ (h0:=by rw[<-Ck (AD false) (by omega) (by omega)];exact⟨by exact Lk.f,by exact Sub.f⟩)
    ·have hg:¬k<b:=by have:=of_decide_eq_false hg;omega
     rw[if_neg hg]at hk;refine KK ?_;exact jn z ⟨hz1,hk⟩
   ·have hf:¬b-i2>=2:=by have:=of_decide_eq_false hf;omega
    rw[if_neg hf];refine WK ?_;exact jn w ⟨hws,rfl⟩
  rintro z ⟨hzs,hz0⟩;rw[<-hz0]at hfold;refine KK ?_;refine CK (c+1) i2 z ⟨by omega,by omega,by omega,hzs,by rw[show 5-(c+1)=s by omega];exact hfold⟩
 ·have h:c=5:=by have:=of_decide_eq_false hc;omega
  subst h;rw[show 5-5=0 from rfl,partialIns]at hfold;subst hfold;refine JA ?_;exact Ends.sp [bA false] [(X,_)] ⟨rfl,rfl⟩
end
section
open Go.Sort
theorem Vu{f:FuncId}{cap:List AV}(X n:Nat)(d:Array Item)(a b:Nat)(hn:n=d.size)(hab:a<=b)(hb:b<=d.size)(hz:d.size<65536):Spec Tryz.prog 214 [.sl X 0 n,iA a,iA b,.fn f cap] [(X,.row 71 3 (d.toList.map (AD false)))] λr S'=>∃u:Array Item,PermIn a b d u/\r= .tup []/\S'=[(X,.row 71 3 (u.toList.map (AD false)))]:=by
 obtain⟨l,hl⟩:=nm (b-a);refine Sp (nt:=67) (res:=[]) Tryz.func214 λSf=>?_
 (iterate 4 refine WK ?_);refine AOps.gN ?_;refine AOps.p (Ax ((l:Int)) (by omega) (by omega) rfl rfl) rfl ?_;refine KK ?_
 refine AWP.cond rfl (λh8=>?_) (λh8=>?_)
 ·have h8:8<=l:=by have:=of_decide_eq_true h8;omega
  have hnp:=P1 l (by omega);have hbl:bitsLen l<=16:=(bitsLen_le_iff l 16).2 (by omega);have hm2:=two_pow_bitsLen_le (n:=l) (by omega);obtain⟨m,hm⟩:∃m,(1:UInt64)<<<UInt64.ofNat (bitsLen l)=m:=⟨_,rfl⟩
  have hmn:m.toNat=2^bitsLen l:=by
   have:2^bitsLen l<=2^16:=Nat.pow_le_pow_right (by decide) hbl;rw[<-hm,UInt64.toNat_shiftLeft,UInt64.toNat_ofNat',show bitsLen l%2^64%64=bitsLen l by omega,Nat.shiftLeft_eq,show(1:UInt64).toNat=1 from rfl];omega
  rw[hm]at hnp;have hp1:1<=2^bitsLen l:=Nat.one_le_two_pow;(repeat first|(refine AOps.gN ?_;first|(refine AOps.g_callf ?_;first|refine AOps.c1 (h:=(hnp ..)) (k:=?_))|refine AOps.p (F8 .i64 l rfl (by omega) (by kernel_rfl) (by kernel_rfl) rfl) rfl ?_|refine AOps.p (LU l 4 (l/4) rfl rfl (by omega) rfl (by omega) rfl rfl) rfl ?_|refine AOps.p (Ip ((l/4*2:Nat):Int) (by omega) (by omega) rfl rfl) rfl ?_|refine AOps.p (Bc (((a+l/4*2:Nat):Int)) (by omega) (by omega) rfl rfl) rfl ?_|refine AOps.p (Ax (((a+l/4*2-1:Nat):Int)) (by omega) (by omega) rfl rfl) rfl ?_)|refine WK ?_|refine Ai λV=>?_|refine Ay λY=>?_);refine Dd (λ(k:Nat) (s:UInt64) (u:Array Item)=>⟨[(0,.sl X 0 n),(1,iA a),(3,.fn f cap),(8,iA l),(9,.ptr V 0 0),(10,uA m),(11,iA k)],(V,.row 355 1 [uA s])::(X,.row 71 3 (u.toList.map (AD false)))::Sf⟩) (λk s u=>a<=k/\k<=a+l/4*2+2/\PermIn a b d u) (λk _ _=>a+l/4*2+2-k) (a+l/4*2-1) (UInt64.ofNat l) d ⟨by omega,by omega,permIn_refl _ _ _⟩ ?_;rintro k s u ⟨hak,hkl,hP⟩;have hu:u.size=d.size:=hP.1;(repeat first|(refine AOps.gN ?_;first|refine AOps.p (LU l 4 (l/4) rfl rfl (by omega) rfl (by omega) rfl rfl) rfl ?_|refine AOps.p (Ip ((l/4*2:Nat):Int) (by omega) (by omega) rfl rfl) rfl ?_|refine AOps.p (Bc (((a+l/4*2:Nat):Int)) (by omega) (by omega) rfl rfl) rfl ?_|refine AOps.p (Bc (((a+l/4*2+1:Nat):Int)) (by omega) (by omega) rfl rfl) rfl ?_)|refine WK ?_|refine Ai λX=>?_|refine Ay λY=>?_);refine AWP.cond rfl (λhc=>?_) (λhc=>?_)
  ·have hk1:k<=a+l/4*2+1:=by have:=of_decide_eq_true hc;omega
   have hkb:k<b:=by omega
   refine AWP.skip ?_;refine CP ?_;refine AWP.seq ?_;refine AWP.block ?_;refine AWP.seq ?_;refine RG ?_;refine AOps.g_callf ?_;refine Uy (h:=PM V s) (k:=λv _=>?_);refine WO ?_
   have hvb:(v&&&(m-1)).toNat<2*l:=by
    rw[UInt64.toNat_and,UInt64.toNat_sub_of_le _ _ (by rw[UInt64.le_iff_toNat_le,hmn];exact hp1),hmn];have:=Nat.and_le_right (n:=v.toNat) (m:=2^bitsLen l-(1:UInt64).toNat);have e:(1:UInt64).toNat=1:=rfl;omega
   refine AOps.gN ?_;refine AOps.p (F9 (b:=1) rfl rfl) rfl ?_;refine AOps.gN ?_;refine AOps.p (Iq rfl rfl) rfl ?_;refine AOps.gN ?_;refine AOps.p (Qj .u64 (by omega) (by kernel_rfl) (by kernel_rfl) rfl) rfl ?_;refine WO ?_;refine AOps.nil ?_
   (repeat (first|refine AWP.skip ?_|refine CP ?_|refine AWP.seq ?_))
   obtain⟨o,ho⟩:=nm ((v&&&(m-1)).toNat);refine No [(0,.sl X 0 n),(1,iA a),(3,.fn f cap),(8,iA l),(9,.ptr V 0 0),(10,uA m),(11,iA k),(12,iA o)] ((V,.row 355 1 [uA v])::(X,.row 71 3 (u.toList.map (AD false)))::Sf) ?_ (h:=by rw[<-ho];exact⟨by exact Lk.f,by exact Sub.f⟩);rw[ho]at hvb;refine KK ?_;refine Bk (λo:Nat=>o<l) (λo=>⟨[(0,.sl X 0 n),(1,iA a),(3,.fn f cap),(8,iA l),(9,.ptr V 0 0),(10,uA m),(11,iA k),(12,iA o)],(V,.row 355 1 [uA v])::(X,.row 71 3 (u.toList.map (AD false)))::Sf⟩) ?_ ?_
   ·refine AWP.cond rfl (λhd=>?_) (λhd=>?_)
    ·have hd:l<=o:=by have:=of_decide_eq_true hd;omega
     (iterate 3 refine WK ?_);refine AOps.gN ?_;refine AOps.p (Ax (((o-l:Nat):Int)) (by omega) (by omega) rfl rfl) rfl ?_;refine KK ?_
     exact jn (o-l) (by omega)
    ·have hd:¬l<=o:=by have:=of_decide_eq_false hd;omega
     refine WK ?_;exact jn o (by omega)
   rintro o hol;have h1:=BC (AD false) (d:=u) (i:=k) (by omega);have h2:=BC (AD false) (d:=u) (i:=a+o) (by omega);obtain⟨y,hy⟩:=CM (AD false) (d:=u) (i:=k) (j:=a+o) (by omega) u[a+o]!;(repeat refine WF ?_);refine RU ?_;(iterate 5 refine RK ?_);refine RGo.gN ?_;refine RGo.go (h:=Bc (((a+o:Nat):Int)) (by omega) (by omega) rfl rfl) (k:=?_);(iterate 3 refine RK ?_);refine RGo.gN ?_;refine RGo.go (h:=Bc (((a+o:Nat):Int)) (by omega) (by omega) rfl rfl) (k:=?_);(iterate 9 refine RK ?_);refine RGo.gN ?_;refine RGo.s (W.store rfl rfl (by exact At.f) hy (by exact rfl)) rfl ?_;refine RGo.nil (by kernel_rfl) ?_;refine KK ?_;refine CK (k+1) v (swp u k (a+o)) ⟨by omega,by omega,permIn_trans _ _ _ _ _ hP (swp_permIn _ _ _ _ _ (by omega) (by omega) (by omega) (by omega) (by omega))⟩ (h0:=by rw[<-Ck (AD false) (by omega) (by omega)];exact⟨by exact Lk.f,by exact Sub.f⟩)
  ·refine KK ?_
   refine C9 ?_;exact BI [(X,.row 71 3 (u.toList.map (AD false)))] ⟨u,hP,rfl,rfl⟩
 ·refine WK ?_
  refine C9 ?_;exact BI [(X,.row 71 3 (d.toList.map (AD false)))] ⟨d,permIn_refl _ _ _,rfl,rfl⟩
end
section
open Go.Sort
theorem HS(f:FuncId)(cap:List AV)(cf:Item->Item->Int)(hst:B4 cap=true)(hcf:∀x y,PS Tryz.prog f ((AD false) x::(AD false) y::cap) (iA (cf x y)))(X Y n:Nat)(d:Array Item)(a b s:Nat)(hn:n=d.size)(ha:a<d.size)(hb:b<d.size)(hs:s<=1099511627776):Spec Tryz.prog 283 [.sl X 0 n,iA a,iA b,.ptr Y 0 0,.fn f cap] [(X,.row 71 3 (d.toList.map (AD false))),(Y,.row 3 1 [iA s])] λr S'=>r= .tup [iA (order2 (AZ cf) d a b s).1,iA (order2 (AZ cf) d a b s).2.1]/\S'=[(X,.row 71 3 (d.toList.map (AD false))),(Y,.row 3 1 [iA (order2 (AZ cf) d a b s).2.2])]:=by
 subst hn;have h1:=BC (AD false) ha;have h2:=BC (AD false) hb;have hl:=hcf (d[b]!) (d[a]!);refine Sp (nt:=32) (res:=[.tmp 10,.tmp 11]) Tryz.func283 λSf=>?_
 unfold order2;refine R1 ?_;refine JL ?_;refine RGo.g_callv ?_;refine RGo.k2 (h:=(hl ..)) (k:=?_);refine RK ?_;refine RGo.nil (by kernel_rfl) ?_;(repeat refine WF ?_);refine AWP.cond rfl (λhc=>?_) (λhc=>?_)
 ·have hc:(AZ cf) d[b]! d[a]! =true:=by simpa[AZ]using hc
  rw[if_pos hc];refine JA ?_;exact Ends.sp [iA b,iA a] [(X,_),(Y,_)] ⟨rfl,rfl⟩
 ·have hc:(AZ cf) d[b]! d[a]! =false:=by simpa[AZ]using hc
  rw[if_neg (by simp[hc])];refine JA ?_;exact Ends.sp [iA a,iA b] [(X,_),(Y,_)] ⟨rfl,rfl⟩
theorem KT(f:FuncId)(cap:List AV)(cf:Item->Item->Int)(hst:B4 cap=true)(hcf:∀x y,PS Tryz.prog f ((AD false) x::(AD false) y::cap) (iA (cf x y)))(X Y n:Nat)(d:Array Item)(a b c s:Nat)(hn:n=d.size)(ha:a<d.size)(hb:b<d.size)(hc:c<d.size)(hs:s<=1099511627000):Spec Tryz.prog 266 [.sl X 0 n,iA a,iA b,iA c,.ptr Y 0 0,.fn f cap] [(X,.row 71 3 (d.toList.map (AD false))),(Y,.row 3 1 [iA s])] λr S'=>r=iA (median (AZ cf) d a b c s).1/\S'=[(X,.row 71 3 (d.toList.map (AD false))),(Y,.row 3 1 [iA (median (AZ cf) d a b c s).2])]:=by
 obtain⟨m,hm⟩:=nm (median (AZ cf) d a b c s);rw[hm];unfold median at hm;have l1:=IR (AZ cf) d a b s _ ha hb;have e1:=Fd (AZ cf) d a b s;have h1:=HS f cap cf hst hcf X Y n d a b s hn ha hb (by omega);obtain⟨⟨a1,b1,s1⟩,hr1⟩:=nm (order2 (AZ cf) d a b s);rw[hr1]at h1 hm l1 e1;dsimp only at h1 hm l1 e1;have l2:=IR (AZ cf) d b1 c s1 _ l1.2 hc;have e2:=Fd (AZ cf) d b1 c s1;have h2:=HS f cap cf hst hcf X Y n d b1 c s1 hn l1.2 hc (by omega);obtain⟨⟨b2,c2,s2⟩,hr2⟩:=nm (order2 (AZ cf) d b1 c s1);rw[hr2]at h2 hm l2 e2;dsimp only at h2 hm l2 e2;have l3:=IR (AZ cf) d a1 b2 s2 _ l1.1 l2.1;have h3:=HS f cap cf hst hcf X Y n d a1 b2 s2 hn l1.1 l2.1 (by omega);obtain⟨⟨a3,b3,s3⟩,hr3⟩:=nm (order2 (AZ cf) d a1 b2 s2);rw[hr3]at h3 hm l3;dsimp only at h3 hm l3;subst hm;refine Sp (nt:=41) (res:=[.tmp 12]) Tryz.func266 λSf=>?_
 refine KK ?_;refine AOps.g_callf ?_;refine Np (h:=h1) (hT:=.fz) (k:=?_);refine KK ?_;refine AOps.g_callf ?_;refine Np (h:=h2) (hT:=.fz) (k:=?_);refine KK ?_;refine AOps.g_callf ?_;refine Np (h:=h3) (hT:=.fz) (k:=?_);refine JA ?_;exact Ends.sp [iA b3] [(X,_),(Y,_)] ⟨rfl,rfl⟩
theorem HV(f:FuncId)(cap:List AV)(cf:Item->Item->Int)(hst:B4 cap=true)(hcf:∀x y,PS Tryz.prog f ((AD false) x::(AD false) y::cap) (iA (cf x y)))(X Y n:Nat)(d:Array Item)(a s:Nat)(hn:n=d.size)(ha:a+1<d.size)(h0:0<a)(hz:d.size<=1099511627776)(hs:s<=1099511627000):Spec Tryz.prog 265 [.sl X 0 n,iA a,.ptr Y 0 0,.fn f cap] [(X,.row 71 3 (d.toList.map (AD false))),(Y,.row 3 1 [iA s])] λr S'=>r=iA (medianAdjacent (AZ cf) d a s).1/\S'=[(X,.row 71 3 (d.toList.map (AD false))),(Y,.row 3 1 [iA (medianAdjacent (AZ cf) d a s).2])]:=by
 have h1:=KT f cap cf hst hcf X Y n d (a-1) a (a+1) s hn (by omega) (by omega) ha hs;unfold medianAdjacent;refine Sp (nt:=18) (res:=[.tmp 8]) Tryz.func265 λSf=>?_
 (iterate 8 refine WK ?_);refine AOps.gN ?_;refine AOps.p (Ax ((a-1:Nat):Int) (by omega) (by omega) rfl rfl) rfl ?_;refine WK ?_;refine WK ?_;refine AOps.gN ?_;refine AOps.p (Bc ((a+1:Nat):Int) (by omega) (by omega) rfl rfl) rfl ?_;refine KK ?_;refine AOps.g_callf ?_;refine RR (h:=h1) (hT:=.fz) (k:=?_);refine KK ?_
 refine RT ?_;exact Ends.sp [iA _] [(X,_),(Y,_)] ⟨rfl,rfl⟩
theorem Jc(f:FuncId)(cap:List AV)(cf:Item->Item->Int)(hst:B4 cap=true)(hcf:∀x y,PS Tryz.prog f ((AD false) x::(AD false) y::cap) (iA (cf x y)))(X n:Nat)(d:Array Item)(a b:Nat)(hn:n=d.size)(hab:a<b)(hb:b<=d.size)(hz:d.size<=1099511627776):PO Tryz.prog 215 [.sl X 0 n,iA a,iA b,.fn f cap] X (.row 71 3 (d.toList.map (AD false))) (.tup [iA (choosePivot (AZ cf) d a b).1,iA (WH (choosePivot (AZ cf) d a b).2)]) (.row 71 3 (d.toList.map (AD false))):=by
 obtain⟨c,hc⟩:=nm (choosePivot (AZ cf) d a b);rw[hc];unfold choosePivot at hc;obtain⟨l,hl⟩:=nm (b-a);obtain⟨i,hi⟩:=nm (a+l/4*1);obtain⟨j,hj⟩:=nm (a+l/4*2);obtain⟨k,hk⟩:=nm (a+l/4*3);rw[hl]at hc;dsimp only at hc;rw[hi,hj,hk]at hc;refine Sp (nt:=63) (res:=[.tmp 8,.tmp 9]) Tryz.func215 λSf=>?_
 have hlb:l<=1099511627776:=by omega
 (repeat first|(refine AOps.gN ?_;first|refine AOps.p (Ax (l:Int) (by omega) (by omega) rfl rfl) rfl ?_|refine AOps.p (LU l 4 (l/4) rfl rfl (by omega) rfl (by omega) rfl rfl) rfl ?_|refine AOps.p (Ip ((l/4*1:Nat):Int) (by omega) (by omega) rfl rfl) rfl ?_|refine AOps.p (Ip ((l/4*2:Nat):Int) (by omega) (by omega) rfl rfl) rfl ?_|refine AOps.p (Ip ((l/4*3:Nat):Int) (by omega) (by omega) rfl rfl) rfl ?_|refine AOps.p (Bc (i:Int) (by omega) (by omega) rfl rfl) rfl ?_|refine AOps.p (Bc (j:Int) (by omega) (by omega) rfl rfl) rfl ?_|refine AOps.p (Bc (k:Int) (by omega) (by omega) rfl rfl) rfl ?_)|refine WK ?_|refine Ai λV=>?_|refine Ay λY=>?_);refine Bk (λb:Nat×Nat=>c=(b.1,if b.2=0 then Hint.increasing else if b.2=12 then Hint.decreasing else Hint.unknown)) (λb=>⟨[(0,.sl X 0 n),(3,.fn f cap),(11,.ptr V 0 0),(13,iA b.1)],(V,.row 3 1 [iA b.2])::(X,.row 71 3 (d.toList.map (AD false)))::Sf⟩) ?_ ?_
 ·refine AWP.cond rfl (λh8=>?_) (λh8=>?_)
  ·have h8:l>=8:=by have:=of_decide_eq_true h8;omega
   rw[if_pos h8]at hc;refine KK ?_;refine Bk (λb:Nat×Nat×Nat×Nat=>b.1<d.size/\b.2.1<d.size/\b.2.2.1<d.size/\b.2.2.2<=100/\(if l>=50 then median (AZ cf) d (medianAdjacent (AZ cf) d i 0).1 (medianAdjacent (AZ cf) d j (medianAdjacent (AZ cf) d i 0).2).1 (medianAdjacent (AZ cf) d k (medianAdjacent (AZ cf) d j (medianAdjacent (AZ cf) d i 0).2).2).1 (medianAdjacent (AZ cf) d k (medianAdjacent (AZ cf) d j (medianAdjacent (AZ cf) d i 0).2).2).2 else median (AZ cf) d i j k 0)=median (AZ cf) d b.1 b.2.1 b.2.2.1 b.2.2.2) (λb=>⟨[(0,.sl X 0 n),(3,.fn f cap),(11,.ptr V 0 0),(12,iA b.1),(13,iA b.2.1),(14,iA b.2.2.1)],(V,.row 3 1 [iA b.2.2.2])::(X,.row 71 3 (d.toList.map (AD false)))::Sf⟩) ?_ ?_
   ·refine AWP.cond rfl (λh50=>?_) (λh50=>?_)
    ·have h50:l>=50:=by have:=of_decide_eq_true h50;omega
     have a1:=IV (AZ cf) d i 0 _ (show i+1<d.size by omega);have b1:=IU (AZ cf) d (i-1) i (i+1) 0;have s1:=HV f cap cf hst hcf X V n d i 0 hn (by omega) (by omega) hz (by omega);rw[if_pos h50];have e1:(median (AZ cf) d (i-1) i (i+1) 0).2=(medianAdjacent (AZ cf) d i 0).2:=rfl;rw[e1]at b1;obtain⟨⟨p1,q1⟩,r1⟩:=nm (medianAdjacent (AZ cf) d i 0);rw[r1]at a1 b1 s1⊢;dsimp only at a1 b1 s1⊢;have a2:=IV (AZ cf) d j q1 _ (show j+1<d.size by omega);have b2:=IU (AZ cf) d (j-1) j (j+1) q1;have s2:=HV f cap cf hst hcf X V n d j q1 hn (by omega) (by omega) hz (by omega);have e2:(median (AZ cf) d (j-1) j (j+1) q1).2=(medianAdjacent (AZ cf) d j q1).2:=rfl;rw[e2]at b2;obtain⟨⟨p2,q2⟩,r2⟩:=nm (medianAdjacent (AZ cf) d j q1);rw[r2]at a2 b2 s2⊢;dsimp only at a2 b2 s2⊢;have a3:=IV (AZ cf) d k q2 _ (show k+1<d.size by omega);have b3:=IU (AZ cf) d (k-1) k (k+1) q2;have s3:=HV f cap cf hst hcf X V n d k q2 hn (by omega) (by omega) hz (by omega);have e3:(median (AZ cf) d (k-1) k (k+1) q2).2=(medianAdjacent (AZ cf) d k q2).2:=rfl;rw[e3]at b3;obtain⟨⟨p3,q3⟩,r3⟩:=nm (medianAdjacent (AZ cf) d k q2);rw[r3]at a3 b3 s3⊢;dsimp only at a3 b3 s3⊢;refine KK ?_;refine AOps.g_callf ?_;refine Nq (h:=s1) (hT:=.fz) (k:=?_);refine KK ?_;refine AOps.g_callf ?_;refine Nq (h:=s2) (hT:=.fz) (k:=?_);refine KK ?_;refine AOps.g_callf ?_;refine Nq (h:=s3) (hT:=.fz) (k:=?_);refine KK ?_;refine jn (p1,p2,p3,q3) ⟨a1,a2,a3,by dsimp only;omega,rfl⟩
    ·have h50:¬l>=50:=by have:=of_decide_eq_false h50;omega
     rw[if_neg h50];refine WK ?_;refine jn (i,j,k,0) ⟨by dsimp only;omega,by dsimp only;omega,by dsimp only;omega,by dsimp only;omega,rfl⟩
   ·rintro⟨p1,p2,p3,q⟩ ⟨l1,l2,l3,lq,e⟩
    dsimp only at l1 l2 l3 lq e⊢;rw[e]at hc;have h1:=KT f cap cf hst hcf X V n d p1 p2 p3 q hn l1 l2 l3 (by omega);obtain⟨⟨r1,r2⟩,hr⟩:=nm (median (AZ cf) d p1 p2 p3 q);rw[hr]at hc h1;dsimp only at h1;refine KK ?_;refine AOps.g_callf ?_;refine RR (h:=h1) (hT:=.fz) (k:=?_);refine KK ?_;refine jn (r1,r2) hc.symm
  ·have h8:¬l>=8:=by have:=of_decide_eq_false h8;omega
   rw[if_neg h8]at hc;refine WK ?_;refine jn (j,0) hc.symm
 ·rintro⟨p,s⟩ hc
  dsimp only at hc⊢;subst hc;refine KK ?_;refine AWP.cond rfl (λh0=>?_) (λh0=>?_)
  ·have h0:s=0:=by have:=of_decide_eq_true h0;omega
   rw[if_pos h0];refine JA ?_;exact Ends.sp [iA p,iA 1] [(X,_)] ⟨rfl,rfl⟩
  ·have h0:¬s=0:=by have:=of_decide_eq_false h0;omega
   rw[if_neg h0];refine KK ?_;refine AWP.cond rfl (λh1=>?_) (λh1=>?_)
   ·have h1:s=12:=by have:=of_decide_eq_true h1;omega
    rw[if_pos h1];refine JA ?_;exact Ends.sp [iA p,iA 2] [(X,_)] ⟨rfl,rfl⟩
   ·have h1:¬s=12:=by have:=of_decide_eq_false h1;omega
    rw[if_neg h1];refine JA ?_;exact Ends.sp [iA p,iA 0] [(X,_)] ⟨rfl,rfl⟩
end
section
open Go.Sort
theorem VK(f:FuncId)(cap:List AV)(cf:Item->Item->Int)(hst:B4 cap=true)(hcf:∀x y,PS Tryz.prog f ((AD false) x::(AD false) y::cap) (iA (cf x y)))(hS:SWO (AZ cf)):∀(m X n:Nat) (d:Array Item) (a b limit:Nat),b-a<=m->n=d.size->a<=b->b<=d.size->d.size<65536->limit<=1000->Below (AZ cf) a b d->Spec Tryz.prog 157 [.sl X 0 n,iA a,iA b,iA limit,.fn f cap] [(X,.row 71 3 (d.toList.map (AD false)))] λr S'=>∃u:Array Item,(PermIn a b d u/\SortedIn (AZ cf) a b u)/\r= .tup []/\S'=[(X,.row 71 3 (u.toList.map (AD false)))]:=by
 intro m
 induction m using Nat.strongRecOn with
 |_ m ih=>
 intro X n d a b limit hm hn hab hb hz hlim hB;refine Sp (nt:=148) (res:=[]) Tryz.func157 λSf=>?_
 refine KK ?_;refine V6 (λ(a b limit:Nat) (wb wp:Bool) (u:Array Item)=>⟨[(0,.sl X 0 n),(1,iA a),(2,iA b),(3,iA limit),(4,.fn f cap),(10,bA wb),(11,bA wp)],(X,.row 71 3 (u.toList.map (AD false)))::Sf⟩) (λa' b' limit wb wp u=>a' <=b' /\b' <=d.size/\b'-a' <=b-a/\limit<=1000/\u.size=d.size/\Below (AZ cf) a' b' u/\∀R,PermIn a' b' u R->SortedIn (AZ cf) a' b' R->PermIn a b d R/\SortedIn (AZ cf) a b R) (λa b _ _ _ _=>b-a) a b limit true true d ⟨hab,hb,Nat.le_refl _,hlim,rfl,hB,λR h1 h2=>⟨h1,h2⟩⟩ ?_;rintro a' b' limit wb wp u ⟨hab',hb',hmm,hlim,hu,hB',hG⟩;obtain⟨l,hl⟩:=nm (b'-a');refine AWP.block ?_
 (iterate 4 refine WK ?_);refine AOps.gN ?_;refine AOps.p (Ax ((l:Int)) (by omega) (by omega) rfl rfl) rfl ?_;refine KK ?_
 refine AWP.cond rfl (λhc=>?_) (λhc=>?_)
 ·have hs:=VY f cap cf hst hcf X n u a' b' (by omega) hab' (by omega) (by omega)
  obtain⟨p1,p2⟩:=insertionSort_holds (lt:=(AZ cf)) hS u a' b' hab' (by omega);refine KK ?_;refine AOps.g_callf ?_;refine AOps.o4 (h:=(hs ..)) (k:=?_);refine JA ?_;exact BI [(X,_)] ⟨_,hG _ p1 p2,rfl,rfl⟩
 have hl12:12<l:=by have:=of_decide_eq_false hc;omega
 refine KK ?_;refine AWP.cond rfl (λhc=>?_) (λhc=>?_)
 ·have hs:=T3 f cap cf hst hcf X n u a' b' (by omega) (by omega) (by omega) (by omega)
  obtain⟨p1,p2⟩:=heapSort_holds (lt:=(AZ cf)) hS u a' b' hab' (by omega);refine KK ?_;refine AOps.g_callf ?_;refine AOps.o4 (h:=(hs ..)) (k:=?_);refine JA ?_;exact BI [(X,_)] ⟨_,hG _ p1 p2,rfl,rfl⟩
 have hl0:0<limit:=by have:=of_decide_eq_false hc;omega
 refine KK ?_;refine Bk (λb:Nat×Array Item=>b.1<=1000/\PermIn a' b' u b.2) (λb=>⟨[(0,.sl X 0 n),(1,iA a'),(2,iA b'),(3,iA b.1),(4,.fn f cap),(10,bA wb),(11,bA wp),(12,iA l)],(X,.row 71 3 (b.2.toList.map (AD false)))::Sf⟩) ?_ ?_
 ·refine AWP.cond rfl (λhd=>?_) (λhd=>?_)
  ·have hs:=Vu (f:=f) (cap:=cap) X n u a' b' (by omega) hab' (by omega) (by omega)
   refine KK ?_;refine AOps.g_callf ?_;refine Uw (h:=hs) (k:=λv hv=>?_);(iterate 4 refine WK ?_);refine AOps.gN ?_;refine AOps.p (Ax (((limit-1:Nat):Int)) (by omega) (by omega) rfl rfl) rfl ?_;refine KK ?_;exact jn (limit-1,v) ⟨by dsimp only;omega,hv⟩
  ·refine WK ?_
   exact jn (limit,u) ⟨hlim,permIn_refl _ _ _⟩
 rintro⟨lim1,u1⟩ ⟨hlim1,hP1⟩;dsimp only at hlim1 hP1⊢;have hu1:u1.size=d.size:=hP1.1.trans hu;have hpv:=Jc f cap cf hst hcf X n u1 a' b' (by omega) (by omega) (by omega) (by omega);obtain⟨c1,c2⟩:=choosePivot_holds (AZ cf) u1 a' b' (by omega);obtain⟨⟨p,h⟩,hp⟩:=nm (choosePivot (AZ cf) u1 a' b');rw[hp]at hpv c1 c2;dsimp only at hpv c1 c2;obtain⟨hnum,hhn⟩:=nm (WH h);rw[hhn]at hpv;refine KK ?_;refine AOps.g_callf ?_;refine AOps.o4 (h:=(hpv ..)) (k:=?_);refine KK ?_;refine Bk (λb:Nat×Int×Array Item=>a' <=b.1/\b.1<b' /\PermIn a' b' u b.2.2) (λb=>⟨[(0,.sl X 0 n),(1,iA a'),(2,iA b'),(3,iA lim1),(4,.fn f cap),(10,bA wb),(11,bA wp),(12,iA l),(13,iA b.1),(14,iA b.2.1)],(X,.row 71 3 (b.2.2.toList.map (AD false)))::Sf⟩) ?_ ?_
 ·refine AWP.cond rfl (λhd=>?_) (λhd=>?_)
  ·have hs:=VD (f:=f) (cap:=cap) X n u1 a' b' (by omega) (by omega) (by omega) (by omega)
   have hrp:=reverseRange_holds u1 a' b' hab' (by omega);(repeat first|(refine AOps.gN ?_;first|(refine AOps.g_callf ?_;first|refine AOps.o4 (h:=(hs ..)) (k:=?_))|refine AOps.p (Ax (((b'-1:Nat):Int)) (by omega) (by omega) rfl rfl) rfl ?_|refine AOps.p (Ax (((p-a':Nat):Int)) (by omega) (by omega) rfl rfl) rfl ?_|refine AOps.p (Ax (((b'-1-(p-a'):Nat):Int)) (by omega) (by omega) rfl rfl) rfl ?_)|refine WK ?_|refine Ai λX=>?_|refine Ay λY=>?_);exact jn (b'-1-(p-a'),1,_) ⟨by dsimp only;omega,by dsimp only;omega,permIn_trans _ _ _ _ _ hP1 hrp⟩
  ·refine WK ?_
   exact jn (p,hnum,u1) ⟨c1,c2,hP1⟩
 rintro⟨pv,hn2,u2⟩ ⟨c3,c4,hP2⟩;dsimp only at c3 c4 hP2⊢;have hu2:u2.size=d.size:=hP2.1.trans hu;have hB2:=hB'.perm (by omega) hP2;clear hpv hp hhn c1 c2 p h hnum;refine AWP.seq ?_;refine It (λv:Array Item=>PermIn a' b' u v) (λv=>⟨[(0,.sl X 0 n),(1,iA a'),(2,iA b'),(3,iA lim1),(4,.fn f cap),(10,bA wb),(11,bA wp),(12,iA l),(13,iA pv)],(X,.row 71 3 (v.toList.map (AD false)))::Sf⟩) ?_ ?_
 ·refine KK ?_
  refine AWP.cond rfl (λ_=>?_) (λ_=>?_)
  ·have hs:=TT f cap cf hst hcf X n u2 a' b' (by omega) (by omega) (by omega) (by omega)
   have hpi:=partialInsertionSort_holds (lt:=(AZ cf)) hS u2 a' b' (by omega) (by omega) hB2;obtain⟨⟨v,fl⟩,hv⟩:=nm (partialInsertionSort (AZ cf) u2 a' b');rw[hv]at hs hpi;dsimp only at hs hpi;refine KK ?_;refine AOps.g_callf ?_;refine AOps.o4 (h:=(hs ..)) (k:=?_);refine KK ?_;refine AWP.cond rfl (λhe=>?_) (λhe=>?_)
   ·refine RT ?_
    exact BI [(X,_)] ⟨v,hG v (permIn_trans _ _ _ _ _ hP2 hpi.1) (hpi.2 he),rfl,rfl⟩
   ·refine KK ?_
    exact jnR v (permIn_trans _ _ _ _ _ hP2 hpi.1)
  ·refine KK ?_
   exact jnR u2 hP2
 rintro u3 hP3;have hu3:u3.size=d.size:=hP3.1.trans hu;have hB3:=hB'.perm (by omega) hP3;have hg3:∀R,PermIn a' b' u3 R->SortedIn (AZ cf) a' b' R->PermIn a b d R/\SortedIn (AZ cf) a b R:=λR h1 h2=>hG R (permIn_trans _ _ _ _ _ hP3 h1) h2
 clear hB2 hP2 hu2 u2 hP1 hu1 u1 hG hB' hn2;refine AWP.seq ?_;refine It (λ_:Unit=>True) (λ_=>⟨[(0,.sl X 0 n),(1,iA a'),(2,iA b'),(3,iA lim1),(4,.fn f cap),(10,bA wb),(11,bA wp),(12,iA l),(13,iA pv)],(X,.row 71 3 (u3.toList.map (AD false)))::Sf⟩) ?_ ?_
 ·rcases Bool.eq_false_or_eq_true (decide ((0:Int)<(a':Int)))with g|g
  ·have hg:0<a':=by have:=of_decide_eq_true g;omega
   have h1:=BC (AD false) (d:=u3) (i:=a'-1) (by omega);have h2:=BC (AD false) (d:=u3) (i:=pv) (by omega);have hl2:=hcf (u3[a'-1]!) (u3[pv]!);(repeat refine WF ?_);refine RU ?_;(iterate 6 refine RK ?_);refine RGo.gQ ?_;refine RGo.go (h:=Ax (((a'-1:Nat):Int)) (by omega) (by omega) rfl rfl) (k:=?_);refine KR ?_;refine RGo.g_callv ?_;refine RGo.k2 (h:=(hl2 ..)) (k:=?_);(iterate 3 refine RK ?_);refine RGo.nil (by kernel_rfl) ?_;(repeat refine WF ?_);refine AWP.cond rfl (λhd=>?_) (λhd=>?_)
   ·have hd:(!(AZ cf) u3[a'-1]! u3[pv]!)=true:=by simpa[g,AZ]using hd
    have hd:(AZ cf) u3[a'-1]! u3[pv]! =false:=by simpa[AZ]using hd
    have hs:=VJ f cap cf hst hcf X n u3 a' b' pv (by omega) c3 c4 (by omega) (by omega);obtain⟨⟨mid,d4⟩,hx⟩:=nm (partitionEqual (AZ cf) u3 a' b' pv);rw[hx]at hs;dsimp only at hs;obtain⟨q1,q2,q3,q4,q5⟩:=round_eq (lt:=(AZ cf)) hS (partitionEqual_holds (AZ cf)) hg c3 c4 (by omega) hB3 hd hx;refine KK ?_;refine AOps.g_callf ?_;refine IK (h:=(hs ..)) (k:=?_);refine KK ?_;refine KV mid b' lim1 wb wp d4 ⟨q2,hb',by omega,hlim1,q3.trans hu3,q4,λR k1 k2=>?_⟩;obtain⟨k3,k4⟩:=q5 R k1 k2;exact hg3 R k3 k4
   ·refine KK ?_
    exact jnR () trivial
  ·(repeat refine WF ?_)
   refine RU ?_;(iterate 17 refine RK ?_);refine RGo.nil (by kernel_rfl) ?_;(repeat refine WF ?_);refine AA rfl (by simp[g]) ?_;refine KK ?_;exact jnR () trivial
 rintro _ _;have hs:=TY f cap cf hst hcf X n u3 a' b' pv (by omega) c3 c4 (by omega) (by omega);obtain⟨⟨mid,ap,d4⟩,hx⟩:=nm (partition (AZ cf) u3 a' b' pv);rw[hx]at hs;dsimp only at hs;obtain⟨r1,r2,r3,r4,r5,r6,r7⟩:=round_part (lt:=(AZ cf)) hS (partition_holds (AZ cf)) c3 c4 (by omega) hB3 hx;(repeat first|(refine AOps.gN ?_;first|(refine AOps.g_callf ?_;first|refine IK (h:=(hs ..)) (k:=?_))|refine AOps.p (Ax (((mid-a':Nat):Int)) (by omega) (by omega) rfl rfl) rfl ?_|refine AOps.p (Ax (((b'-mid:Nat):Int)) (by omega) (by omega) rfl rfl) rfl ?_|refine AOps.p (LU l 8 (l/8) rfl rfl (by omega) rfl (by omega) rfl rfl) rfl ?_)|refine WK ?_|refine Ai λX=>?_|refine Ay λY=>?_);refine AWP.cond rfl (λhd=>?_) (λhd=>?_)
 ·have hrec:=ih (mid-a') (by omega) X n d4 a' mid lim1 (Nat.le_refl _) (by omega) r1 (by omega) (by omega) hlim1 r4
  refine KK ?_;refine AOps.g_callf ?_;refine PL (h:=hrec) (k:=λv hv=>?_);(iterate 4 refine WK ?_);refine AOps.gN ?_;refine AOps.p (Bc (((mid+1:Nat):Int)) (by omega) (by omega) rfl rfl) rfl ?_;refine KK ?_;obtain⟨v1,v2⟩:=hv;obtain⟨s1,s2⟩:=r6 v v1 v2;refine KV (mid+1) b' lim1 _ ap v ⟨by omega,hb',by omega,hlim1,v1.1.trans (r3.trans hu3),s1,λR k1 k2=>?_⟩;obtain⟨k3,k4⟩:=s2 R k1 k2;exact hg3 R k3 k4
 ·have hrec:=ih (b'-(mid+1)) (by omega) X n d4 (mid+1) b' lim1 (Nat.le_refl _) (by omega) (by omega) (by omega) (by omega) hlim1 r5
  (iterate 11 refine WK ?_);refine AOps.gN ?_;refine AOps.p (Bc (((mid+1:Nat):Int)) (by omega) (by omega) rfl rfl) rfl ?_;refine KK ?_;refine AOps.g_callf ?_;refine PL (h:=hrec) (k:=λv hv=>?_);refine KK ?_
  obtain⟨v1,v2⟩:=hv;obtain⟨s1,s2⟩:=r7 v v1 v2;refine KV a' mid lim1 _ ap v ⟨by omega,by omega,by omega,hlim1,v1.1.trans (r3.trans hu3),s1,λR k1 k2=>?_⟩;obtain⟨k3,k4⟩:=s2 R k1 k2;exact hg3 R k3 k4
end
section
open Go.Sort
theorem NB(f:FuncId)(cap:List AV)(cf:Item->Item->Int)(hst:B4 cap=true)(hS:SWO (AZ cf))(hf:∀x y,PS Tryz.prog f (AD false x::AD false y::cap) (iA (cf x y)))(X n:Nat)(l:List Item)(hn:n=l.length)(hlt:l.length<65536):
  Spec Tryz.prog 76 [.sl X 0 n,.fn f cap] [(X,.row 71 3 (l.map (AD false)))] λr S'=>∃u:List Item,(u.Perm l/\u.Pairwise λa b=>AZ cf b a=false)/\r= .tup []/\S'=[(X,.row 71 3 (u.map (AD false)))]:=by
 have e1:(UInt64.ofNat n).toNat=n:=by rw[UInt64.toNat_ofNat'];omega
 have hlen:=P8 (UInt64.ofNat n) (by rw[e1];omega);rw[e1]at hlen;have hsz:l.toArray.size=l.length:=by simp
 have hb:bitsLen n<=1000:=Nat.le_trans ((bitsLen_le_iff n 16).2 (by show n<65536;omega)) (by decide);have hs:=VK f cap cf hst hf hS n X n l.toArray 0 n (bitsLen n) (by omega) (by omega) (Nat.zero_le _) (by omega) (by omega) hb (.inl rfl);simp only[List.toList_toArray]at hs;refine Sp (nt:=14) (res:=[]) Tryz.func76 λSf=>?_
 (iterate 11 refine WK ?_);refine AOps.gN ?_;refine AOps.p (F8 .i64 n rfl (by omega) (by kernel_rfl) (by kernel_rfl) rfl) rfl ?_;refine AOps.g_callf ?_;refine AOps.c1 (h:=(hlen ..)) (k:=?_);refine WK ?_;refine AOps.gN ?_;refine WA [] (h:=hs) (λu hu=>?_);refine WK ?_
 refine C9 ?_;obtain⟨h1,h2⟩:=hu;have h1':PermIn 0 l.toArray.size l.toArray u:=by rw[hsz,<-hn];exact h1
 have hus:n=u.size:=by rw[h1'.1,hsz];exact hn
 exact BI [(X,_)] ⟨u.toList,⟨by simpa using I0 h1',HA hus h2⟩,rfl,rfl⟩
end
theorem RZ(x y:Item):PS Tryz.prog 77 [AD false x,AD false y] (iA (Cp x.ent.n y.ent.n)):=by
 have h:=E9 x.ent.n y.ent.n;obtain⟨⟨xn,xg⟩,xc⟩:=x;obtain⟨⟨yn,yg⟩,yc⟩:=y;refine Sp (nt:=12) (res:=[.tmp 4]) Tryz.func77 λSf=>?_
 refine RG ?_;refine AOps.g_box ?_;refine Aj ?_;refine AOps.g_box ?_;refine Aj ?_;refine JD ?_;refine JK ?_;refine AOps.g_callf ?_;refine AOps.c2 (h:=(h ..)) (k:=?_);refine JD ?_;refine RT ?_;refine AI ?_;rfl
theorem Up{P:Program}{ty:TypeId}{pos:String}{after:Array Edge}{dst:Option Tmp}{c:Option (List Bool)}{g:Option (Nat×Bool)}{T:List (Nat×AV)}{S:List AC}{x0:Operand}{v0:AV}{f:FuncId}{ats:Array TypeId}{r v:AV}[hf:Frz r v](h0:Rd c T x0 v0)(h:PS P f [v0] r)(ht:Am [(x0,v0)]=true):Stp c P ⟨dst,.call ⟨.value (.func f),#[x0],ats⟩,ty,pos,after,g⟩ T S [(x0,v0)] [] v []:=hf.h▸W.call1 h0 h ht
theorem Jw(t:Tab):(B3 t).length=t.es.length:=AB _
theorem Rm{t:Tab}{i:Nat}(h:i<t.es.length):(B3 t)[i]?=some ⟨t.es[i].2,Aa t t.es[i].1⟩:=by
 rw[B3,AG,AE h];rfl
theorem Qb(a:Ar)(ha:ArOK a)(hne:Ej a.ts)(hk16:a.kinds.length<=16)(hkf:∀k∈a.kinds,k.fields.length<=8)(hgl:a.gens.length<=256)(hcv:∀it∈As a.ts,CsL it.comps):
  Spec Tryz.prog 22 [.ptr a.A 0 0] (arS a) λr S'=>∃L:List Item,(L.Perm (As a.ts)/\L.Pairwise λx y=>x.ent.n<=y.ent.n)/\r=wdA false ⟨a.kinds,a.gens,L⟩/\S'=arS a:=by
 have hkp:=GU a.kinds (by omega) (λk hk=>by have:=hkf k hk;omega);have hcl:=LH a.G a.gens a.gens.length rfl (by omega);have htl:=ha.ts_le hne;have hpt:(ptrs Tab.X a.ts).length=a.ts.length:=AB _;refine Sp (nt:=51) (res:=[.cell 2 26]) Tryz.func22 λSf=>?_
 refine JE ?_;refine Ai λZ=>?_;refine NL ?_
 refine FL ?_;refine AWP.rs λV=>?_
 refine JL ?_;refine RGo.g_callf ?_;refine RGo.c1 (h:=(hkp ..)) (k:=?_);refine KR ?_;refine RGo.g_callf ?_;refine RGo.z1 (h:=hcl) (hT:=.fz) (k:=?_);(iterate 3 refine RK ?_);refine RGo.nil (by kernel_rfl) ?_;refine FL ?_;refine AWP.adoptIn (Y:=V) 71 3 (by exact At.f) (λI=>.cons (.agg (.cons .same (.cons .same (.cons (.base .nil) .nil)))) .nil) λI=>?_
 refine JM ?_;refine Dd (λ(j I:Nat) (its:List Item)=>⟨[(2,.ptr Z 0 0),(3,.ptr V 0 0),(22,.sl a.Tb 0 a.ts.length),(23,iA (a.ts.length:Nat)),(24,iA j)],(I,.row 71 3 (its.map (AD false)))::(V,.row 26 3 [.agg [An false false a.kinds,AN false a.gens,.sl I 0 its.length]])::(Z,.row 26 3 [.agg [.prim (.slice none 0 0),.prim (.slice none 0 0),.prim (.slice none 0 0)]])::(arS a++Sf)⟩) (λj _ its=>j<=a.ts.length/\its=As (a.ts.take j)) (λj _ _=>a.ts.length-j) 0 I [] ⟨by omega,rfl⟩ ?_;rintro j I its ⟨hj,Fw⟩;refine JM ?_;refine AWP.cond rfl (λh=>?_) (λh=>?_)
 ·have h:j<a.ts.length:=by rw[AF]at h;omega
  obtain⟨l1,l2,hsp,hl1⟩:=Fb h;have htm:=AK h;have hto:=ha.tab _ htm;have hten:=ha.ent _ htm;have hat:(ptrs Tab.X a.ts)[j]?=some (.ptr a.ts[j].X 0 0):=BB _ h
  have hnext:As (a.ts.take (j+1))=its++B3 a.ts[j]:=by
   rw[List.take_succ_eq_append_getElem h,B0,<-Fw,CB];simp[As]
  have hcvt:∀it∈B3 a.ts[j],CsL it.comps:=λit hi=>hcv it (List.mem_flatMap.2 ⟨_,htm,hi⟩)
  have hbnd:its.length+(B3 a.ts[j]).length<=256:=by
   have h1:=ha.c_le;rw[ha.cnt,ha.keys_items,AB]at h1
   have h2:As a.ts=its++B3 a.ts[j]++As l2:=by
    conv=>lhs;rw[hsp]
    rw[B0,CB,Fw,<-AP]
    have:l1=a.ts.take j:=by
     have:=congrArg (List.take j) hsp;rw[List.take_left' hl1]at this;exact this.symm
    rw[this]
   rw[h2,AL,AL]at h1;omega
  obtain⟨t,ht⟩:=nm (a.ts[j]);rw[ht]at hsp hto hten hat hnext hcvt hbnd;obtain⟨Z2,hZ2⟩:=nm (BL l1++(BL l2++Sf));have hop:=DH (l1:=l1) (l2:=l2) (t:=t) Sf;rw[<-hsp,hZ2]at hop;refine JB ?_;refine AOps.gN ?_;refine AOps.go (h:=W.idx rfl rfl (by exact At.f) rfl (by omega) (Nat.zero_add _)) (k:=?_);refine KO ?_;refine Ai λP5=>?_;refine JD ?_
  refine FL ?_;refine AWP.perm (S':=(I,.row 71 3 (its.map (AD false)))::(P5,.row 145 1 [.ptr t.X 0 0])::(V,.row 26 3 [.agg [An false false a.kinds,AN false a.gens,.sl I 0 its.length]])::(Ec t++((Z,.row 26 3 [.agg [.prim (.slice none 0 0),.prim (.slice none 0 0),.prim (.slice none 0 0)]])::(arH a++Z2)))) ?_ ?_
  ·refine(List.Perm.swap _ _ _).trans (List.Perm.cons _ (List.Perm.cons _ (List.Perm.cons _ ?_)))
   have h1:=hop.append_left ((Z,AO.row 26 3 [.agg [.prim (.slice none 0 0),.prim (.slice none 0 0),.prim (.slice none 0 0)]])::arH a);refine(List.Perm.of_eq ?_).trans (h1.trans (B5 ((Z,AO.row 26 3 [.agg [.prim (.slice none 0 0),.prim (.slice none 0 0),.prim (.slice none 0 0)]])::arH a) (Ec t) Z2));rw[arS];simp only[BF,BD]
  have hal:=Vx t.ek t.es hto.es;have hI:=Ue (AJ t.es) (t.es.map (·.2)) (by simp) (by have:=hto.es.len;rw[AB];omega);refine RG ?_;(iterate 4 refine WO ?_);refine AOps.gN ?_;refine RV [_,_,_,_] (h:=hal) (k:=?_);refine NL ?_;refine FL ?_;refine La (Sf:=(Z,.row 26 3 [.agg [.prim (.slice none 0 0),.prim (.slice none 0 0),.prim (.slice none 0 0)]])::(arH a++Z2)) hI (λb:Nat×List Item=>(b.1,AO.row 71 3 (b.2.map (AD false)))::(P5,.row 145 1 [.ptr t.X 0 0])::(V,.row 26 3 [.agg [An false false a.kinds,AN false a.gens,.sl b.1 0 b.2.length]])::Ec t) (λi b=>b.2=its++(B3 t).take i) (I,its) (by simp) ?_ ?_ rfl rfl rfl ?_ ?_
  ·rintro i vs ⟨I,is⟩ l F1 F2 hi hb
   dsimp only at hb
   have hn:i<t.es.length:=by
    have:=(List.getElem?_eq_some_iff.1 hi).1;simpa using this
   have hiv:[iA t.es[i].1,A6 t.es[i].2]=vs:=by
    rw[AG,AE (by simpa using hn),List.getElem_zip]at hi;simpa using hi
   subst hiv;have hem:=AK hn;have hnk:t.es[i].1∈AJ t.es:=List.mem_map.2 ⟨_,hem,rfl⟩;have hnl:=hto.es.lt _ hnk;have hcs:=Oz t t.es[i].1 hto (by constructor<;>omega) hnk;have hti:=Rm hn;have hci:=hcvt _ (Ao hti);have hcc:=D0 (Aa t t.es[i].1) hci.1 hci.2;have hil:i<(B3 t).length:=by rw[Jw];exact hn
   have hnx:is++[⟨t.es[i].2,Aa t t.es[i].1⟩]=its++(B3 t).take (i+1):=by
    rw[hb,List.take_add_one,hti,AP];rfl
   have hisl:is.length<=256:=by rw[hb,AL,Ah];omega
   obtain⟨⟨en,ee⟩,hee⟩:=nm (t.es[i]);rw[hee]at hcs hcc hnx;rw[hee];dsimp only at hcs hcc hnx⊢;obtain⟨lc,hlc⟩:=nm (Aa t en);rw[hlc]at hcs hcc hnx;have hma:is.map (AD false)++[AD false ⟨ee,lc⟩]=(is++[(⟨ee,lc⟩:Item)]).map (AD false):=by rw[List.map_append];rfl
   have hml:is.length+[AD false ⟨ee,lc⟩].length=(is++[(⟨ee,lc⟩:Item)]).length:=by rw[AL];rfl
   refine JC ?_;refine JB ?_;refine WO ?_;refine Ai λE7=>?_;refine JD ?_
   refine⟨(E7,.row 32 2 [A6 ee])::(I,.row 71 3 (is.map (AD false)))::(P5,AO.row 145 1 [.ptr t.X 0 0])::(V,.row 26 3 [.agg [An false false a.kinds,AN false a.gens,.sl I 0 is.length]])::Ec t,.refl _,?_⟩;refine FL ?_;refine AWP.rs λY=>?_
   (repeat refine WF ?_);refine GH 5 (by kernel_rfl) (by kernel_rfl) ?_;refine RGoT.go ?_;refine RGoT.go ?_;refine RGoT.go ?_;refine RGoT.go ?_;refine RGoT.go ?_;refine RGoT.callK (xs:=[(.tmp 38,.ptr t.X 0 0),(.tmp 39,iA en)]) (L:=[_,_,_,_,_]) (R:=F2) hcs (.fz (v:=Aw false false lc)) rfl (Nat.le_refl 5) (.cons rfl (.cons rfl .nil)) rfl rfl ?_;refine RGoT.go (h:=Up (v:=Aw false false lc) rfl hcc rfl) ?_;refine RGoT.go ?_;refine RGoT.go (v:=.lst false 71 3 [AD false ⟨ee,lc⟩]) (h:=W.litF1 (v0:=AD false ⟨ee,lc⟩) rfl rfl (.inl rfl) (by decide) (by decide) rfl) ?_;refine RGoT.goS (h:=W.app (X:=I) (Y:=Y) rfl rfl (by exact At.f) (by exact At.f) (by rw[AB]) (by rw[AB];show(is.length+1)*40<=_;omega) (by rw[AB];unfold maxLen;show is.length+1<=_;omega) (by decide)) ?_;refine RGoT.go ?_;refine RGoT.goS ?_;refine RGoT.nil (by kernel_rfl) ?_;rw[hma,hml];refine⟨(Y,.row 71 3 ((is++[(⟨ee,lc⟩:Item)]).map (AD false)))::(P5,AO.row 145 1 [.ptr t.X 0 0])::(V,.row 26 3 [.agg [An false false a.kinds,AN false a.gens,.sl Y 0 (is++[(⟨ee,lc⟩:Item)]).length]])::Ec t,?_,(Y,is++[(⟨ee,lc⟩:Item)]),hnx,rfl⟩;exact .cons _ (.cons _ (.refl _))
  ·rintro⟨I,is⟩ hb
   dsimp only at hb;have hxl:((AJ t.es).zip (t.es.map (·.2))).length=t.es.length:=by simp
   rw[AB,hxl,<-Jw,List.take_length]at hb;refine FL ?_;refine AWP.perm (S':=(P5,.row 145 1 [.ptr t.X 0 0])::(I,.row 71 3 (is.map (AD false)))::(V,.row 26 3 [.agg [An false false a.kinds,AN false a.gens,.sl I 0 is.length]])::(Z,.row 26 3 [.agg [.prim (.slice none 0 0),.prim (.slice none 0 0),.prim (.slice none 0 0)]])::(arS a++Sf)) ?_ ?_
   ·refine(List.Perm.swap _ _ _).trans (List.Perm.cons _ (List.Perm.cons _ (List.Perm.cons _ ?_)))
    have h1:=hop.append_left ((Z,AO.row 26 3 [.agg [.prim (.slice none 0 0),.prim (.slice none 0 0),.prim (.slice none 0 0)]])::arH a);refine List.Perm.trans (B5 (Ec t) ((Z,AO.row 26 3 [.agg [.prim (.slice none 0 0),.prim (.slice none 0 0),.prim (.slice none 0 0)]])::arH a) Z2) (h1.symm.trans (List.Perm.of_eq ?_));rw[arS];simp only[BF,BD]
   ·refine R1 ?_
    exact CK (j+1) I is ⟨by omega,by rw[hb,hnext]⟩ (by omega)
  ·intro vs hvs
   obtain⟨q,_,rfl⟩:=List.mem_map.1 hvs;rfl
  ·exact .refl _
 ·have h:j=a.ts.length:=by rw[AQ]at h;omega
  subst h;rw[List.take_length]at Fw
  have hilen:its.length<=256:=by
   have h1:=ha.c_le;rw[ha.cnt,ha.keys_items,AB]at h1;rw[Fw];omega
  have hso:=NB 77 [] (λx y=>Cp x.ent.n y.ent.n) rfl (NA λx:Item=>x.ent.n) RZ I its.length its rfl (by omega);refine JH ?_;refine AOps.gN ?_;refine Jp [] (h:=hso) (λu hu=>?_);refine NL ?_;obtain⟨hu1,hu2⟩:=hu;have hul:=hu1.length_eq
  have hF:AV.frzs (((u.map (AD false)).drop 0).take its.length)=u.map (AD false):=by
   rw[List.drop_zero,List.take_of_length_le (by rw[AB];omega)];exact Frzs.h
  refine FL ?_;refine AWP.iceIn (X:=I) (Y:=V) .here (.next .here) rfl (.cons (.agg (.cons .same (.cons .same (.cons (.base (.sl (by rw[AB];omega))) .nil)))) .nil) ?_;rw[hF];refine R1 ?_;refine RT ?_
  exact Ends.sp [wdA false ⟨a.kinds,a.gens,u⟩] (arS a) ⟨u,⟨by rw[<-Fw];exact hu1,hu2.imp λ{x y} h=>by
   simp only[AZ,AQ,GZ]at h;omega⟩,rfl,rfl⟩
abbrev UU(b:Bool)(l:List Bool):AV:=.lst b 4 1 (l.map bA)
theorem ArFor.sorted{a:Ar}{w:Wd}(h:ArFor a w){L:List Item}(hp:L.Perm (As a.ts))(hs:L.Pairwise λx y=>x.ent.n<=y.ent.n):L=w.items:=by
 refine List.Perm.eq_of_pairwise (le:=λx y=>x.ent.n<=y.ent.n) (λx y hx hy h1 h2=>?_) hs (h.wok.so.imp λh=>by omega) (hp.trans h.items);exact NR (key:=λx:Item=>x.ent.n) h.wok.so ((hp.trans h.items).mem_iff.1 hx) hy (by omega)
theorem Xa{d:List Bool}{i n:Nat}{b:Bool}(hd:d.length=i)(h:i<n):((d++List.replicate (n-i) false).map bA).set i (bA b)=((d++[b])++List.replicate (n-(i+1)) false).map bA:=by
 rw[<-List.map_set]
 congr 1
 rw[List.set_append_right _ _ (by omega),hd,Nat.sub_self,show n-i=(n-(i+1))+1 by omega,List.replicate_succ,List.set_cons_zero,AP];rfl
structure CmdsL(ks:List Kind)(l:List Cmd):Prop where
 ok:∀c∈l,(C4 ks c).2=0
 n:∀c∈l,I64 c.ent.n
 l:∀c∈l,c.comps.length<=1099511627776
theorem Sy{w v:Wd}{l:List Cmd}{i:Nat}{c:Cmd}{es:List Ent}{ds:List Bool}(h:i<l.length)(hc:l[i]=c)(he:DQ w l=((DQ v (l.drop i)).1,es++(DQ v (l.drop i)).2.1,ds++(DQ v (l.drop i)).2.2)):
  DQ w l=((DQ (FC v c).1 (l.drop (i+1))).1,(if(FC v c).2.2=true/\c.act=3 then es++[(FC v c).2.1]else es)++(DQ (FC v c).1 (l.drop (i+1))).2.1,(ds++[(FC v c).2.2])++(DQ (FC v c).1 (l.drop (i+1))).2.2):=by
 rw[he,CD h,hc,DQ];dsimp only;split
 ·simp
 ·simp
theorem Sh(w:Wd)(l:List Cmd)(hw:WdOK w)(h12:w.kinds.length<=12)(hl:l.length<=131072)(hc:CmdsL w.kinds l):PS Tryz.prog 163 [wdA false w,CZ false l] (.tup [wdA false (DQ w l).1,.lst true 32 2 ((DQ w l).2.1.map A6),UU true (DQ w l).2.2]):=by
 have hof:=W8 w hw;have hlm:(l.map Bx).length=l.length:=AB _;refine Sp (nt:=58) (res:=[.cell 4 26,.tmp 5,.tmp 6]) Tryz.func163 λSf=>?_
 refine RG ?_;refine AOps.g_box ?_;refine Aj ?_;refine WO ?_;refine Ai λP=>?_;refine JF ?_
 refine JB ?_;refine WO ?_;refine AOps.gN ?_;refine RW [_] (h:=hof) (k:=λa ha=>?_);refine JF ?_;obtain⟨a1,a2,a3,a4,a5⟩:=ha;have hf:ArFor a w:=⟨a1,a2,a3,a4,a5,hw⟩;refine JC ?_;refine AA rfl rfl ?_;refine JC ?_;refine JH ?_;refine DG ?_;refine FB (bA false) λK=>?_;refine JD ?_
 refine JJ ?_;refine AWP.adopt (d:=9) 32 2 rfl λO=>?_
 refine Dd (λ(i Y:Nat) (z:Ar×Wd×List Ent×List Bool)=>⟨[(2,.fp (wdA false w).cells),(4,.ptr P 0 0),(7,.ptr a.A 0 0),(9,.sl Y 0 z.2.2.1.length),(10,.sl K 0 (l.map Bx).length),(26,CZ false l),(27,iA (l.map Bx).length),(28,iA i)],(Y,.row 32 2 (z.2.2.1.map A6))::(K,.row 4 1 ((z.2.2.2++List.replicate (l.length-i) false).map bA))::(P,.row 26 3 [.agg [.prim (.slice none 0 0),.prim (.slice none 0 0),.prim (.slice none 0 0)]])::(arS z.1++Sf)⟩) (λi Y z=>i<=l.length/\ArFor z.1 z.2.1/\z.1.A=a.A/\z.2.1.kinds=w.kinds/\z.2.2.1.length<=i/\z.2.2.2.length=i/\DQ w l=((DQ z.2.1 (l.drop i)).1,z.2.2.1++(DQ z.2.1 (l.drop i)).2.1,z.2.2.2++(DQ z.2.1 (l.drop i)).2.2)) (λi _ _=>l.length-i) 0 O (a,w,[],[]) ⟨Nat.zero_le _,hf,rfl,rfl,Nat.le_refl _,rfl,rfl⟩ ?_ (h0:=⟨by exact Lk.f,by rw[hlm,Nat.sub_zero,BD,List.map_replicate];exact Sub.f⟩);rintro i Y ⟨z,v,es,ds⟩ ⟨hi,hz,hzA,hvk,hes,hds,hrun⟩;dsimp only at hz hzA hvk hes hds hrun⊢;refine JM ?_;refine AWP.cond rfl (λhb=>?_) (λhb=>?_)
 ·have h:i<l.length:=by rw[AF,hlm]at hb;omega
  obtain⟨c,hcc⟩:=nm (l[i]);have hcm:c∈l:=by rw[<-hcc];exact AK h
  have hat:(l.map Bx)[i]?=some (Bx c):=by rw[AG,AE h,hcc];rfl
  have hact:=Wr hz (by rw[hvk];exact h12) c (by rw[hvk];exact hc.ok c hcm) (hc.n c hcm) (hc.l c hcm);have hnx:=Sy h hcc hrun;obtain⟨⟨v2,x,ok⟩,hv2⟩:=nm (FC v c);rw[hv2]at hact hnx;dsimp only at hact hnx;have hnl:i<((ds++List.replicate (l.length-i) false).map bA).length:=by rw[AB,AL,List.length_replicate];omega
  have hset:=Xa (b:=ok) hds h
  have hvk2:v2.kinds=w.kinds:=by
   have:=(RN hz.wok (c:=c) (by rw[hvk];exact hc.ok c hcm)).2;rw[hv2]at this;exact this.trans hvk
  rw[<-hzA];refine JK ?_;refine Ai λC=>?_;refine JF ?_
  refine JH ?_;refine AOps.gN ?_;refine Jp [_,_,_,_] (h:=hact) (k:=λb hb2=>?_);refine KO ?_;refine Ai λV=>?_;refine JF ?_
  obtain⟨hb1,hb2⟩:=hb2;refine JC ?_;dsimp only[AX,List.set_cons_zero,List.set_cons_succ,BF,BD];rw[hset];refine FL ?_;have hEl:(es.map A6).length=es.length:=AB _;cases ok with
  |false=>
   rw[if_neg (by simp)]at hnx;refine R1 ?_;refine AA rfl rfl ?_;refine JC ?_;exact CK (i+1) Y (b,v2,es,ds++[false]) ⟨h,hb1,hb2,hvk2,by dsimp only;omega,by rw[AL,hds];rfl,hnx⟩ (by omega)
  |true=>
   refine R1 ?_;refine AWP.cond rfl (λh3=>?_) (λh3=>?_)
   ·have h3:c.act=3:=of_decide_eq_true h3
    rw[if_pos ⟨rfl,h3⟩]at hnx;refine FL ?_;have hb1':(es.map A6).length+1<=1099511627776:=by omega
    refine JE ?_;refine WO ?_;refine AOps.g_lit ?_;refine AOps.goL (A6 x) ?_;refine WO ?_;refine Ay λY=>?_;refine JD ?_
    refine FL ?_;dsimp only[AX,List.set_cons_zero,List.set_cons_succ,BF,BD];have hm1:es.map A6++[A6 x]=(es++[x]).map A6:=by rw[List.map_append];rfl
    have hm2:es.length+[A6 x].length=(es++[x]).length:=by rw[AL];rfl
    rw[hm1,hm2];refine R1 ?_;exact CK (i+1) Y (b,v2,es++[x],ds++[true]) ⟨h,hb1,hb2,hvk2,by rw[AL];show es.length+1<=i+1;omega,by rw[AL,hds];rfl,hnx⟩ (by omega)
   ·have h3:¬c.act=3:=of_decide_eq_false h3
    rw[if_neg (λe=>h3 e.2)]at hnx;refine JC ?_;exact CK (i+1) Y (b,v2,es,ds++[true]) ⟨h,hb1,hb2,hvk2,by dsimp only;omega,by rw[AL,hds];rfl,hnx⟩ (by omega)
 ·have h:i=l.length:=by rw[AQ,hlm]at hb;omega
  subst h;rw[List.drop_length]at hrun;simp only[DQ,List.append_nil]at hrun;have hkk:=Bn hz.wok.ks;have har:=Qb z hz.ok hz.ne (by rw[hz.kinds];exact hkk.1) (λk hk=>(Do (hkk.2 k (by rw[<-hz.kinds];exact hk))).2.1) (by rw[hz.gens];exact hz.wok.gl) (λit hit=>(hz.wok.wl.items.2 it (hz.items.mem_iff.1 hit)));rw[<-hzA];refine JB ?_;refine WO ?_;refine AOps.gN ?_;refine RW [_,_,_] (h:=har) (k:=λL hL=>?_);refine JF ?_;have hLe:=hz.sorted hL.1 hL.2;refine RT ?_;rw[hrun];have hv:(⟨z.kinds,z.gens,L⟩:Wd)=v:=by rw[hz.kinds,hz.gens,hLe]
  rw[hv,Nat.sub_self,List.replicate_zero,List.append_nil];dsimp only[AX,List.set_cons_zero,List.set_cons_succ,BF,BD];exact Br [wdA false v,.sl Y 0 es.length,.sl K 0 (l.map Bx).length] [wdA false v,.lst true 32 2 (es.map A6),UU true ds] (.cons (.cell .same) (.cons (.cell (.sl (p:=0) .here (by rw[AB]))) (.cons (.cell (.sl (p:=0) .here (by rw[hlm,AB,hds]))) .nil))) (hS:=by repeat (first|exact List.sublist_append_right _ _|apply List.Sublist.cons))
theorem Ub(w:Wd)(l:List Cmd)(hw:WdOK w)(h12:w.kinds.length<=12)(hl:l.length<=131072)(hc:CmdsL w.kinds l):PS Tryz.prog 80 [wdA false w,CZ false l] (.tup [wdA false (DQ w l).1,K7 (DQ w l).2.1,iA 0]):=by
 have hck:=O4 w l hw.wl h12 (by omega) hc.l;rw[cmdErr_iff.2 ⟨hw,hl,hc.ok⟩]at hck;have hrn:=Sh w l hw h12 hl hc;refine Sp (nt:=27) (res:=[.cell 4 26,.tmp 5,.tmp 6]) Tryz.func80 λSf=>?_
 refine RG ?_;refine AOps.g_box ?_;refine Aj ?_;refine WO ?_;refine Ai λP=>?_;refine JF ?_
 refine JK ?_;refine AOps.g_callf ?_;refine AOps.c2 (h:=(hck ..)) (k:=?_);refine JD ?_;refine JC ?_;refine AA rfl rfl ?_;refine JK ?_;refine AOps.g_callf ?_;refine AOps.c2 (h:=(hrn ..)) (k:=?_);refine KO ?_;refine Ai λV=>?_;refine JF ?_
 refine JI ?_;exact FT (rs:=[wdA false (DQ w l).1,K7 (DQ w l).2.1,iA 0]) rfl
structure CmdG(ks:List Kind)(c:Cmd):Prop where
 ok:(C4 ks c).2=0
 n:I64 c.ent.n
 l:c.comps.length<=16
 v:∀d∈c.comps,d.vals.length<=8
theorem CmdG.of{ks:List Kind}(hk:Ag ks=0){c:Cmd}(h:(C4 ks c).2=0)(hn:I64 c.ent.n)(hc:∃l,A7 ks c.comps=true\/c.comps=l/\A7 ks l=true):CmdG ks c:=by
 have hh:A7 ks c.comps=true:=by
  obtain⟨l,h|⟨h1,h2⟩⟩:=hc
  ·exact h
  ·rw[h1];exact h2
 obtain⟨h1,h2⟩:=ED hk hh;exact⟨h,hn,h1,h2⟩
theorem Of(ks:List Kind):A7 ks []=true:=rfl
theorem UO{ks:List Kind}{s:Sys}{index:Int}{e:Ent}{o:Op}{st:Rn}(hk:Ag ks=0)(hs:SysG ks s)(hn:I64 e.n)(ho:OpG ks s.reads s.writes o)(h:∀c∈st.cmds,CmdG ks c):∀c∈(doM ks s index e o st).cmds,CmdG ks c:=by
 unfold doM;split
 ·exact h
 ·rename_i hset
  split
  ·exact h
  ·split
   ·exact h
   ·rename_i h12
    intro c hc;rcases List.mem_append.1 hc with hc|hc
    ·exact h c hc
    ·rw[BP]at hc
     subst hc;split
     ·rename_i h8
      obtain⟨p1,p2,_⟩:=ho.puts (.inl h8);obtain⟨k,hkk⟩:∃k:Nat,o.to.kind=k:=⟨o.to.kind.toNat,by omega⟩;have hkl:k<ks.length:=by omega
      have hka:ks[k]?=some ks[k]:=AE hkl;have hone:=(Bn hk).2 _ (AK hkl);have hde:LB ks o.to.kind=(BW ks[k] (List.replicate ks[k].fields.length 0)).1:=by unfold LB;rw[hkk,Int.toNat_natCast,hka]
      have hf0:=H6 hone (vals:=List.replicate ks[k].fields.length 0) (by simp);have hho:=Dq (k:=ks[k]) (v:=List.replicate ks[k].fields.length 0) (by rw[hf0]);have hfo:II ks ⟨o.to.kind,LB ks o.to.kind⟩:=⟨p1,p2,ks[k],by dsimp only;rw[hkk,Int.toNat_natCast,hka],by rw[hde,Dp hho.1]⟩
      have hld:A7 ks [⟨o.to.kind,LB ks o.to.kind⟩]=true:=by
       refine held_iff.2 ⟨List.pairwise_singleton ..,λd hd=>?_⟩;rw[BP]at hd;subst hd;exact⟨p1,p2,ks[k],by dsimp only;rw[hkk,Int.toNat_natCast,hka],by rw[hde];exact hho.1⟩
      refine .of hk ?_ hn ⟨[],.inl hld⟩;show(CH ks [_]).2=0
      rw[Jt hk hfo]
     ·rename_i h8
      split
      ·rename_i h9
       obtain⟨p1,p2,_⟩:=ho.puts (.inr h9);refine .of hk ?_ hn ⟨[],.inl (Of ks)⟩;show(if o.to.kind<0\/(ks.length:Int)<=o.to.kind then(([],1):List Comp×Int)else([],0)).2=0
       rw[if_neg (by omega)]
      ·split
       ·exact .of hk rfl hn ⟨[],.inl (Of ks)⟩
       ·have hld:=GI hs.spawn
        refine .of hk ?_ ⟨by show(-9223372036854775808:Int)<=0;decide,by show(0:Int)<=9223372036854775807;decide⟩ ⟨[],.inl hld⟩;show(CH ks (CH ks s.spawn).1).2=0
        rw[IM hk hld]
theorem ML{ks:List Kind}{s:Sys}{index:Int}{e:Ent}(hk:Ag ks=0)(hs:SysG ks s)(hn:I64 e.n):∀(os:List Op) {st:Rn} (ho:∀o∈os,OpG ks s.reads s.writes o) (h:∀c∈st.cmds,CmdG ks c),∀c∈(C7 ks s index e os st).cmds,CmdG ks c
 |[],st,ho,h=>h
 |o::os,st,ho,h=>ML hk hs hn os (λo' h'=>ho o' (by simp[h'])) (UO (index:=index) hk hs hn (ho o (by simp)) h)
theorem KC{ks:List Kind}{s:Sys}{index seed tick:Int}(hk:Ag ks=0)(hs:SysG ks s):∀(qs:List (Nat×Item)) (b:List Item×List Cmd×List Evt),(∀q∈qs,I64 q.2.ent.n)->(∀c∈b.2.1,CmdG ks c)->∀c∈(EP ks s index seed tick qs b).2.1,CmdG ks c
 |[],b,_,h=>h
 |q::qs,b,hq,h=>KC hk hs qs (b.1.set q.1 ⟨q.2.ent,(DV ks s index seed tick q.2 b.2.1 b.2.2).comps⟩,(DV ks s index seed tick q.2 b.2.1 b.2.2).cmds,(DV ks s index seed tick q.2 b.2.1 b.2.2).evs) (λq' h'=>hq q' (by simp[h'])) (ML hk hs (hq q (by simp)) s.ops hs.ops h)
abbrev wdR(w:Wd)(s:Sys)(index seed tick:Int):Wd:=⟨w.kinds,w.gens,(Ex w s index seed tick).1⟩
def Df(seed tick:Int):Wd->Nat->List Sys->Wd×List (List Cmd)×List Evt
 |w,i,[]=>(w,[],[])
 |w,i,s::l=>((Df seed tick (wdR w s i seed tick) (i+1) l).1,(Ex w s i seed tick).2.1::(Df seed tick (wdR w s i seed tick) (i+1) l).2.1,(Ex w s i seed tick).2.2++(Df seed tick (wdR w s i seed tick) (i+1) l).2.2)
def Hr(w:Wd)(l:List Sys)(seed tick:Int):Wd×List Evt:=((DQ (Df seed tick w 0 l).1 (Df seed tick w 0 l).2.1.flatten).1,(Df seed tick w 0 l).2.2.take 256)
structure TickG(w:Wd)(l:List Sys):Prop where
 ok:WdOK w
 k12:w.kinds.length<=12
 sg:∀s∈l,SysG w.kinds s
 l24:l.length<=24
theorem TickG.n{w:Wd}{l:List Sys}(h:TickG w l){s:Sys}(hs:s∈l):(DX w.items s.wth s.wout).length*s.ops.length<=5120:=by
 have h1:=In w.items s.wth s.wout;have h2:=(h.sg s hs).len;have h3:=h.ok.il;have h4:=h.ok.gl;exact Nat.le_trans (Nat.mul_le_mul (show _<=256 by omega) h2) (by decide)
theorem TickG.r{w:Wd}{l:List Sys}(h:TickG w l){s:Sys}(hs:s∈l)(i seed tick:Int):WdOK (wdR w s i seed tick):=(BK _).1 (Qz ((BK w).2 h.ok) (h.sg s hs))
theorem TickG.cmds{w:Wd}{l:List Sys}(h:TickG w l){s:Sys}(hs:s∈l)(i seed tick:Int):(∀c∈(Ex w s i seed tick).2.1,CmdG w.kinds c)/\(Ex w s i seed tick).2.1.length<=5120/\(Ex w s i seed tick).2.2.length<=5120:=by
 have hm:∀q∈DX w.items s.wth s.wout,q.2∈w.items:=λq hq=>Mp hq
 refine⟨KC h.ok.ks (h.sg s hs) _ _ (λq hq=>?_) (λc hc=>by cases hc),?_⟩
 ·have h1:=h.ok.it q.2 (hm q hq)
  have h2:=h.ok.gl;constructor<;>omega
 ·have hr:=Hw (ks:=w.kinds) (s:=s) (index:=i) (seed:=seed) (tick:=tick) h.ok.ks (h.sg s hs).ops (DX w.items s.wth s.wout) (w.items,[],[]) (λq hq=>?_)
  ·have:=h.n hs
   obtain⟨r1,r2,_⟩:=hr;simp only[List.length_nil,Nat.zero_add]at r1 r2;exact⟨Nat.le_trans r1 this,Nat.le_trans r2 this⟩
  ·exact(Mr (h.sg s hs) (λit hit=>(h.ok.it it hit).2.2.2.2) q hq).2
theorem CmdG.sl{ks:List Kind}{l:List Cmd}(h:∀c∈l,CmdG ks c):CmdsL ks l/\∀c∈l,CsL c.comps:=
 ⟨⟨λc hc=>(h c hc).ok,λc hc=>(h c hc).n,λc hc=>by have:=(h c hc).l;omega⟩,λc hc=>⟨by have:=(h c hc).l;omega,λd hd=>by have:=(h c hc).v d hd;omega⟩⟩
theorem Jg{seed tick:Int}:∀(l:List Sys) (w:Wd) (i:Nat),TickG w l->WdOK (Df seed tick w i l).1/\(Df seed tick w i l).1.kinds=w.kinds/\(Df seed tick w i l).1.gens=w.gens/\(Df seed tick w i l).2.1.length=l.length/\(Df seed tick w i l).2.1.flatten.length<=5120*l.length/\(Df seed tick w i l).2.2.length<=5120*l.length/\∀x∈(Df seed tick w i l).2.1,∀c∈x,CmdG w.kinds c
 |[],w,i,h=>⟨h.ok,rfl,rfl,rfl,Nat.le_refl _,Nat.le_refl _,λx hx=>by cases hx⟩
 |s::l,w,i,h=>by
  have hm:s∈s::l:=by simp
  obtain⟨g1,g2,g3⟩:=h.cmds hm i seed tick;have hr:=h.r hm i seed tick;have hl:=h.l24;obtain⟨k1,k2,k3,k4,k5,k6,k7⟩:=Jg (seed:=seed) (tick:=tick) l (wdR w s i seed tick) (i+1) ⟨hr,h.k12,λt ht=>h.sg t (by simp[ht]),by rw[Bm]at hl;omega⟩;refine⟨k1,k2,k3,?_,?_,?_,λx hx=>?_⟩
  ·rw[Df,Bm,Bm,k4]
  ·rw[Df,List.flatten_cons,AL,Bm];omega
  ·rw[Df,AL,Bm];omega
  ·rw[Df]at hx
   rcases List.mem_cons.1 hx with rfl|hx
   ·exact g1
   ·exact k7 x hx
theorem TickG.all{w:Wd}{l:List Sys}(h:TickG w l)(seed tick:Int):∀c∈(Df seed tick w 0 l).2.1.flatten,CmdG w.kinds c:=λc hc=>by
 obtain⟨x,hx,hcx⟩:=List.mem_flatten.1 hc;exact(Jg (seed:=seed) (tick:=tick) l w 0 h).2.2.2.2.2.2 x hx c hcx
theorem TickG.tick{w:Wd}{l:List Sys}(h:TickG w l)(seed tick:Int):TickG (Hr w l seed tick).1 l/\(Hr w l seed tick).1.kinds=w.kinds:=by
 obtain⟨k1,k2,_⟩:=Jg (seed:=seed) (tick:=tick) l w 0 h;have ha:=h.all seed tick;obtain⟨r1,r2⟩:=Qy k1 (l:=(Df seed tick w 0 l).2.1.flatten) λc hc=>by rw[k2];exact(ha c hc).ok
 have hk:(Hr w l seed tick).1.kinds=w.kinds:=r2.trans k2;exact⟨⟨r1,by rw[hk];exact h.k12,λs hs=>by rw[hk];exact h.sg s hs,h.l24⟩,hk⟩
theorem QY(c:Cmd)(hl:c.comps.length<=1099511627776)(hv:∀d∈c.comps,d.vals.length<=1099511627776):PS Tryz.prog 243 [Bx c] (Bx c):=by
 have hcp:=D0 c.comps hl hv;refine Sp (nt:=8) (res:=[.cell 2 159]) Tryz.func243 λSf=>?_
 refine JE ?_;refine Ai λP=>?_;refine WO ?_;refine Ai λP=>?_;refine NL ?_
 refine JK ?_;refine AOps.g_callf ?_;refine AOps.c1 (h:=(hcp ..)) (k:=?_);refine JF ?_;refine JI ?_;exact FT (rs:=[Bx c]) rfl
theorem HH(L:List (List Cmd))(i:Nat):(L.take i).flatten.length<=L.flatten.length:=by
 conv=>rhs;rw[<-List.take_append_drop i L,List.flatten_append,AL]
 omega
theorem MZ{L:List (List Cmd)}{i:Nat}{x:List Cmd}(h:L[i]?=some x):(L.take (i+1)).flatten=(L.take i).flatten++x:=by
 rw[List.take_add_one,h,Option.toList_some,List.flatten_append];simp
theorem QX(L:List (List Cmd))(h2:L.length<=1000)(hl:L.flatten.length<=131072)(hc:∀x∈L,∀c∈x,CsL c.comps):PS Tryz.prog 190 [.lst false 79 1 (L.map (CZ false))] (.tup [CZ true L.flatten,iA 0]):=by
 have hLm:(L.map (CZ false)).length=L.length:=AB _;refine Sp (nt:=45) (res:=[.tmp 2,.tmp 3]) Tryz.func190 λSf=>?_
 refine R1 ?_;refine JC ?_;refine JJ ?_;refine BJ (λ(i:Nat)=>⟨[(0,.lst false 79 1 (L.map (CZ false))),(4,iA ((L.take i).flatten.length:Nat)),(12,.lst false 79 1 (L.map (CZ false))),(13,iA (L.map (CZ false)).length),(14,iA i)],Sf⟩) (λi=>i<=L.length) (λi=>L.length-i) 0 (Nat.zero_le _) ?_;rintro i hi;refine JM ?_;refine AWP.cond rfl (λhb=>?_) (λhb=>?_)
 ·have h:i<L.length:=by rw[AF,hLm]at hb;omega
  obtain⟨x,hx⟩:∃x,L[i]?=some x:=⟨_,AE h⟩;have hat:(L.map (CZ false))[i]?=some (CZ false x):=by rw[AG,hx];rfl
  have hnx:=congrArg List.length (MZ hx);rw[AL]at hnx;have hle:=HH L (i+1);have hxm:(x.map Bx).length=x.length:=AB _;refine JC ?_;refine JB ?_;(iterate 3 refine WO ?_);refine AOps.gN ?_;refine AOps.go (h:=Bc ((((L.take i).flatten.length:Nat):Int)+((x.map Bx).length:Nat)) (by omega) (by omega) rfl rfl) (k:=?_);refine JD ?_;rw[show((((L.take i).flatten.length:Nat):Int)+((x.map Bx).length:Nat))=(((L.take (i+1)).flatten.length:Nat):Int) by omega];refine JC ?_;refine AA rfl (AY (by omega)) ?_;refine JC ?_;exact Af (i+1) h (by omega)
 ·clear hb hi
  refine JC ?_;refine JJ ?_;refine AWP.adopt (d:=7) 159 5 rfl λO=>?_
  refine BZ (λ(i O:Nat)=>⟨[(7,.sl O 0 (L.take i).flatten.length),(25,.lst false 79 1 (L.map (CZ false))),(26,iA (L.map (CZ false)).length),(27,iA i)],(O,.row 159 5 ((L.take i).flatten.map Bx))::Sf⟩) (λi _=>i<=L.length) (λi _=>L.length-i) 0 O (Nat.zero_le _) ?_;rintro i O hi;refine JM ?_;refine AWP.cond rfl (λhb=>?_) (λhb=>?_)
  ·have h:i<L.length:=by rw[AF,hLm]at hb;omega
   obtain⟨x,hx⟩:∃x,L[i]?=some x:=⟨_,AE h⟩;have hat:(L.map (CZ false))[i]?=some (CZ false x):=by rw[AG,hx];rfl
   have hnx:=MZ hx;have hle:=HH L (i+1);rw[hnx,AL]at hle;have hxm:(x.map Bx).length=x.length:=AB _;have hxc:=hc x (Ao hx);obtain⟨P0,hP0⟩:=nm ((L.take i).flatten);rw[hP0]at hle hnx⊢;refine JC ?_;refine JJ ?_;refine BZ (λ(j O:Nat)=>⟨[(7,.sl O 0 (P0++x.take j).length),(25,.lst false 79 1 (L.map (CZ false))),(26,iA (L.map (CZ false)).length),(27,iA i),(31,CZ false x),(32,iA (x.map Bx).length),(33,iA j)],(O,.row 159 5 ((P0++x.take j).map Bx))::Sf⟩) (λj _=>j<=x.length) (λj _=>x.length-j) 0 O (Nat.zero_le _) ?_ (h0:=⟨by rw[List.take_zero,List.append_nil];exact Lk.f,by rw[List.take_zero,List.append_nil];exact Sub.f⟩);rintro j O hj;refine JM ?_;refine AWP.cond rfl (λhb2=>?_) (λhb2=>?_)
   ·have h2:j<x.length:=by rw[AF,hxm]at hb2;omega
    obtain⟨c,hcc⟩:=nm (x[j]);have hcm:c∈x:=by rw[<-hcc];exact AK h2
    have hat2:(x.map Bx)[j]?=some (Bx c):=by rw[AG,AE h2,hcc];rfl
    have hcp:=QY c (hxc c hcm).1 (hxc c hcm).2;have hnx2:P0++x.take (j+1)=(P0++x.take j)++[c]:=by rw[List.take_succ_eq_append_getElem h2,hcc,AP]
    have hpl:(P0++x.take j).length<=131072:=by rw[AL,Ah];omega
    obtain⟨M,hM⟩:=nm (P0++x.take j);rw[hM]at hnx2 hpl⊢;have hml:(M.map Bx).length=M.length:=AB _;have hb1:(M.map Bx).length+1<=1099511627776:=by omega
    have hm1:M.map Bx++[Bx c]=(P0++x.take (j+1)).map Bx:=by rw[hnx2,List.map_append];rfl
    have hm2:M.length+[Bx c].length=(P0++x.take (j+1)).length:=by rw[hnx2,AL];rfl
    refine JK ?_;refine Ai λX=>?_;refine JD ?_
    refine JK ?_;refine AOps.g_callf ?_;refine AOps.c1 (h:=(hcp ..)) (k:=?_);refine AOps.g_lit ?_;refine AOps.goL (Bx c) ?_;refine WO ?_;refine Ay λY=>?_;refine JD ?_
    dsimp only[AX,List.set_cons_zero,List.set_cons_succ,BF,BD];rw[hm1,hm2];refine JC ?_;exact A8 (j+1) Y h2 (by omega)
   ·have h2:j=x.length:=by rw[AQ,hxm]at hb2;omega
    subst h2;rw[List.take_length,<-hnx];refine JC ?_;exact A8 (i+1) O h (by omega)
  ·have h:i=L.length:=by rw[AQ,hLm]at hb;omega
   subst h;rw[List.take_length];refine JI ?_;exact Br [.sl O 0 L.flatten.length,iA 0] [CZ true L.flatten,iA 0] (.cons (.cell (.sl (p:=0) .here (by rw[AB]))) (.cons (.cell .same) .nil))
end Go.Proofs.YtiidbamlcgbpnaaGreat
