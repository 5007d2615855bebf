/-
  Part 7 of the texts under the law MarkTold: the layer of abstract values, walks and plain laws. Conditions: those that each theorem names.
-/
import Derived.Below
import Derived.Test.YtiidbamlcgbpnaaGreatMarkToldP6
namespace Go.Proofs.YtiidbamlcgbpnaaGreat
set_option linter.unusedVariables false
set_option linter.unusedSimpArgs false
set_option linter.defProp false
set_option maxRecDepth 10000
set_option maxHeartbeats 4000000
theorem SA(a:Ar)(ha:ArOK a)(e:Ent)(c:Comp)(hn:I64 e.n)(hh:Eb a e=false):Spec Tryz.prog 267 [.ptr a.A 0 0,AX e,AD false c] (arS a) λr S'=>r=iA 4/\S'=arS a:=by
 have hs:=Gq a ha e hn;rw[hh]at hs;refine Spec.of (nt:=77) (res:=[.tmp 6]) Tryz.func267 rfl (by kernel_rfl) rfl rfl rfl λSf=>?_
 refine RG ?_;(repeat first|refine WO ?_|refine Ai λB=>?_|refine Ay λY=>?_);refine NL ?_;refine FL ?_;refine RG ?_;(repeat first|(refine AOps.gN ?_;first|refine DS [_,_] (h:=hs) (k:=?_))|refine WO ?_|refine Ai λX=>?_|refine Ay λY=>?_);refine NL ?_;refine AR rfl rfl ?_;refine FL ?_;refine RG ?_;(repeat first|refine WO ?_|refine Ai λX=>?_|refine Ay λY=>?_);refine NL ?_;refine RT ?_;exact AS [iA 4] (arS a) ⟨rfl,rfl⟩
theorem Q0(a b:Comp):PS Tryz.prog 287 [AD false a,AD false b] (iA (By a.kind b.kind)):=by
 refine Spec.of (nt:=10) (res:=[.tmp 4]) Tryz.func287 rfl (by kernel_rfl) rfl rfl rfl λSf=>?_
 (repeat first|(refine AOps.gN ?_;first|(refine AOps.g_callf ?_;first|refine AOps.c2 (h:=(DK a.kind b.kind)) (k:=?_))|(refine AOps.g_box ?_;refine Az ?_))|refine WK ?_|refine Ai λX=>?_|refine Ay λY=>?_);refine RT ?_;refine AN ?_;rfl
theorem PD{ks:List Kind}{c:Comp}{fl:List Comp}(h:CD ks [c]=(fl,0)):∃v,fl=[⟨c.kind,v⟩]:=by
 unfold CD at h;split at h
 ·rename_i h1;injection h with h2 h3;exact absurd h3 h1
 split at h
 ·rename_i h1;injection h with h2 h3;exact absurd h3 h1
 rename_i h0 h1;injection h with h2 h3
 have h1:(CH ks [] [] [c]).2=0:=Decidable.not_not.1 h1;rw[<-h2];rw[CH]at h1⊢;split at h1
 ·cases h1
 ·rename_i g1
  rw[if_neg g1];split at h1
  ·cases h1
  ·rename_i g2
   rw[if_neg g2];split at h1
   ·cases h1
   ·rename_i k hk
    split at h1
    ·rename_i g3;exact absurd h1 g3
    ·rename_i g3
     simp only[if_neg g3,CH,Ek,List.nil_append,List.mergeSort_singleton];exact⟨_,rfl⟩
def SV(a:Ar)(e:Ent)(l:List Comp)(c:Comp)(b:Ar):Prop:=((CD a.kinds [c]).2≠0/\b=a)\/∃d,CD a.kinds [c]=([d],0)/\SwapR a e l (EP l d) b
theorem Mi{l u:List Comp}{d:Comp}(hl:CZ l)(hd:d.kind∉l.map (·.kind))(hp:u.Perm (l++[d]))(hs:u.Pairwise λa b=>AI (λx y:Comp=>By x.kind y.kind) b a=false):u=EP l d:=by
 have hle:u.Pairwise λa b=>a.kind<=b.kind:=hs.imp λ{x y} h=>by
  unfold AI at h;simp only[decide_eq_false_iff_not]at h;have:¬y.kind<x.kind:=λe=>h (cmpI_ltz.2 e)
  omega
 have hne:(l++[d]).Pairwise λa b=>a.kind≠b.kind:=by
  rw[List.pairwise_append];refine⟨hl.imp λh=>by omega,by simp,λa ha b hb e=>?_⟩;rw[List.mem_singleton]at hb;subst hb;exact hd (List.mem_map.2 ⟨a,ha,e⟩)
 have hne2:u.Pairwise λa b=>a.kind≠b.kind:=hp.symm.pairwise hne λh=>Ne.symm h
 refine OO ((hle.and hne2).imp λh=>by obtain⟨x,y⟩:=h;omega) (Gk hl) λx=>?_
 rw[hp.mem_iff,GK hl,List.mem_append,List.mem_singleton];constructor
 ·rintro(h|rfl)
  ·exact .inr ⟨h,λe=>hd (List.mem_map.2 ⟨x,h,e⟩)⟩
  ·exact .inl rfl
 ·rintro(rfl|h)
  ·exact .inr rfl
  ·exact .inl h.1
set_option maxRecDepth 8000 in
theorem Qy(a:Ar)(ha:ArOK a)(hne:Dg a.ts)(e:Ent)(c:Comp)(hn:I64 e.n)(hkl:I64 c.kind)(h12:a.kinds.length<=12)(hh:Eb a e=true){l1 l2:List Tab}{t:Tab}(hts:a.ts=l1++t::l2)(hm:(e.n,e)∈t.es)(hso:CZ (AJ t e.n))(h11:(CD a.kinds [c]).2=0->c.kind∉t.ks->t.ks.length<=11):Spec Tryz.prog 267 [.ptr a.A 0 0,AX e,AD false c] (arS a) λr S'=>∃b:Ar,SV a e (AJ t e.n) c b/\r=iA (CD a.kinds [c]).2/\S'=arS b:=by
 have htm:t∈a.ts:=by rw[hts];simp
 have hto:=ha.tab t htm;have hks:=H4 hto hso;have hnk:e.n∈AC t.es:=List.mem_map.2 ⟨_,hm,rfl⟩;have hnl:=hto.es.lt _ hnk;have hs:=Gq a ha e hn;rw[hh]at hs;have hbs:=Nx t.ks c.kind hks (by have:=hto.ks;omega);have hft:=KI a.kinds [c] h12 (by simp);obtain⟨u,hgd,hone,hK⟩:=ha.ptr htm hnk;obtain⟨⟨fl,fe⟩,hfe⟩:∃q,CD a.kinds [c]=q:=⟨_,rfl⟩;unfold SV;rw[hfe]at hft h11⊢;dsimp only at hft h11⊢;refine Spec.of (nt:=77) (res:=[.tmp 6]) Tryz.func267 rfl (by kernel_rfl) rfl rfl rfl λSf=>?_
 refine RG ?_;(repeat first|refine WO ?_|refine Ai λB=>?_|refine Ay λY=>?_);refine NL ?_;rename_i Be;refine FL ?_;refine RG ?_;(repeat first|(refine AOps.gN ?_;first|refine DS [_,_] (h:=hs) (k:=?_))|refine WO ?_|refine Ai λX=>?_|refine Ay λY=>?_);refine NL ?_;refine AE rfl rfl ?_;refine FL ?_;refine RU ?_;(repeat first|(refine RGo.gN ?_;first|(refine RGo.g_callf ?_;first|refine RGo.c2 (h:=(hft ..)) (k:=?_))|(refine RGo.g_lit ?_;refine RGo.goL (Aj false false [c]) ?_)|refine RGo.go (v:=.lst false 42 2 [AD false c]) (h:=W.litF1 (v0:=AD false c) rfl rfl (.inl rfl) (by decide) (by decide) rfl) ?_)|(refine RGo.gQ ?_;first|(refine RGo.g_callf ?_;first|refine RGo.c2 (h:=(hft ..)) (k:=?_))|(refine RGo.g_lit ?_;refine RGo.goL (Aj false false [c]) ?_)|refine RGo.go (v:=.lst false 42 2 [AD false c]) (h:=W.litF1 (v0:=AD false c) rfl rfl (.inl rfl) (by decide) (by decide) rfl) ?_)|refine RK ?_|refine RGo.nil (by kernel_rfl) ?_);refine FL ?_;refine RG ?_;(repeat first|refine WO ?_|refine Ai λX=>?_|refine Ay λY=>?_);refine NL ?_;refine AWP.cond rfl (λh0=>?_) (λh0=>?_)
 ·refine FL ?_
  refine RG ?_;(repeat first|refine WO ?_|refine Ai λX=>?_|refine Ay λY=>?_);refine NL ?_;refine RT ?_;exact AS [iA fe] (arS a) ⟨a,.inl ⟨by simpa using h0,rfl⟩,rfl,rfl⟩
 have h0:fe=0:=by simpa using h0
 subst h0;obtain⟨v,rfl⟩:∃v,fl=[⟨c.kind,v⟩]:=PD hfe;refine FL ?_;refine AWP.perm (List.Perm.cons _ (List.Perm.cons _ (DV hts Sf))) ?_;refine RU ?_;(repeat first|(refine RGo.gN ?_;first|refine RGo.go (h:=W.lookP (.ptr t.X 0 0) hgd hn hone hK rfl rfl (by exact At.f) (by exact At.f)) (k:=?_))|(refine RGo.gQ ?_;first|refine RGo.go (h:=W.lookP (.ptr t.X 0 0) hgd hn hone hK rfl rfl (by exact At.f) (by exact At.f)) (k:=?_))|refine RK ?_|refine RGo.nil (by kernel_rfl) ?_);refine FL ?_;refine RU ?_;(repeat first|(refine RGo.gN ?_;first|(refine RGo.g_callf ?_;first|refine RGo.c2 (h:=(hbs ..)) (k:=?_)))|(refine RGo.gQ ?_;first|(refine RGo.g_callf ?_;first|refine RGo.c2 (h:=(hbs ..)) (k:=?_)))|refine RK ?_|refine RGo.nil (by kernel_rfl) ?_);refine FL ?_;by_cases hk:c.kind∈t.ks
 ·rw[decide_eq_true hk]
  refine RG ?_;(repeat first|refine WO ?_|refine Ai λX=>?_|refine Ay λY=>?_);refine NL ?_;refine AR rfl rfl ?_;obtain⟨hil,hik⟩:=LV hks hk;obtain⟨i,hi⟩:∃i,IK t.ks c.kind=i:=⟨_,rfl⟩;have hca:C7 (AJ t e.n) c.kind=i:=by rw[<-hi,<-IJ hso,CJ hto]
  rw[hi]at hil⊢;have hic:i<t.cs.length:=by rw[<-hto.len];exact hil
  obtain⟨m1,m2,hsp,hm1⟩:=EK hic;have hcat:(t.cs.map λc=>AV.ptr c.1.X 0 0)[i]?=some (.ptr t.cs[i].1.X 0 0):=Ah _ hic;have hcil:i<(t.cs.map λc=>AV.ptr c.1.X 0 0).length:=by rw[List.length_map];exact hic
  obtain⟨col,hce⟩:∃d,t.cs[i]=d:=⟨_,rfl⟩;rw[hce]at hsp hcat;have hcok:ColOK col.2:=hto.cs _ (by rw[hsp];simp);have hpu:=(Lx col.1 col.2 hcok e.n v hnl).tt;refine FL ?_;(repeat refine WF ?_);refine Cw (n:=8) ([(B,.row 42 2 [AD false c]),(Be,.row 32 2 [AX e])]++(arH a++[DC t])) (stE t.ek t.es++(BE t.cs++(Aq l1++(Aq l2++Sf)))) rfl (by kernel_rfl) (by kernel_rfl) ?_;refine RGoH.go ?_;refine RGoH.go ?_;refine RGoH.go ?_;refine RGoH.go ?_;refine RGoH.go ?_;refine RGoH.go (h:=W.idxL (a:=i) rfl rfl rfl hcat) ?_;refine RGoH.go ?_;refine RGoH.go ?_;refine RGoH.go ?_;refine RGoH.go ?_;refine RGoH.go (h:=W.idxL (a:=0) (e:=AD false ⟨c.kind,v⟩) rfl rfl rfl rfl) ?_;refine RGoH.go ?_;refine RGoH.go ?_;refine RGoH.skip [54,56,60] ?_;refine RGoH.nil (by kernel_rfl) (by kernel_rfl) (by kernel_rfl) ?_;refine HC.step [(54,.ptr col.1.X 0 0),(56,iA e.n),(60,AQ false v)] ⟨rfl,rfl,rfl,rfl,rfl,rfl,trivial⟩ λT F=>?_
  have heq:F++(stE t.ek t.es++(BE t.cs++(Aq l1++(Aq l2++Sf))))=(F++(stE t.ek t.es++BE m1))++(stS col.1 col.2++(BE m2++(Aq l1++(Aq l2++Sf)))):=by
   rw[hsp,Cn,Ch];simp only[List.append_assoc]
  refine DB _ (h:=hpu) (k:=λq2 _=>?_) (hp:=heq);obtain⟨k2,hk2⟩:∃k2:StK,k2=⟨col.1.X,q2.1,q2.2,col.1.M⟩:=⟨_,rfl⟩;have hkx:k2.X=col.1.X:=by rw[hk2]
  rw[<-hk2]
  have heq2:(F++(stE t.ek t.es++BE m1))++(stS k2 (BH col.2 e.n v)++(BE m2++(Aq l1++(Aq l2++Sf))))=F++(stE t.ek t.es++(BE (m1++(k2,BH col.2 e.n v)::m2)++(Aq l1++(Aq l2++Sf)))):=by
   rw[Cn,Ch];simp only[List.append_assoc]
  refine AOps.perm (List.Perm.of_eq heq2) ?_;refine AOps.nil ⟨rfl,_,_,⟨λd v h=>h,.refl _⟩,?_⟩;obtain⟨b,hb⟩:∃b:Ar,b={a with ts:=l1++setT t m1 m2 k2 col.2 e.n v::l2}:=⟨_,rfl⟩;have hbt:b.ts=l1++setT t m1 m2 k2 col.2 e.n v::l2:=by rw[hb]
  have hbl:b.ts.length=a.ts.length:=by rw[hbt,hts,List.length_append,List.length_append];rfl
  have hbp:ptrs Tab.X b.ts=ptrs Tab.X a.ts:=by rw[hbt,hts,ptrs,ptrs,List.map_append,List.map_append];rfl
  have hH:arH b=arH a:=by
   show[_,_,_,_,_]=[_,_,_,_,_]
   rw[hbl,hbp,hb]
  have hT:DC (setT t m1 m2 k2 col.2 e.n v)=DC t:=by
   show(t.X,AO.row _ _ [AV.agg [AQ false t.ks,_,.lst false _ _ ((m1++(k2,BH col.2 e.n v)::m2).map λc=>AV.ptr c.1.X 0 0)]])=(t.X,AO.row _ _ [AV.agg [AQ false t.ks,_,.lst false _ _ (t.cs.map λc=>AV.ptr c.1.X 0 0)]])
   rw[hsp,List.map_append,List.map_append,List.map_cons,List.map_cons,hkx]
  have hfr:=DV hbt Sf;rw[hH,hT]at hfr;show andThen _ _ _ _
  refine AWP.perm (S':=(B,.row 42 2 [AD false c])::(Be,.row 32 2 [AX e])::(arS b++Sf)) ?_ ?_
  ·refine List.Perm.trans (List.Perm.of_eq ?_) (List.Perm.cons _ (List.Perm.cons _ hfr.symm))
   simp only[List.cons_append,List.nil_append]
  refine FL ?_;refine RG ?_;(repeat first|refine WO ?_|refine Ai λX=>?_|refine Ay λY=>?_);refine NL ?_;refine RT ?_
  have hins:EP (AJ t e.n) ⟨c.kind,v⟩=(AJ t e.n).set m1.length ⟨c.kind,v⟩:=by
   rw[Ns hso,if_pos ((Is hso).2 (by rw[CJ hto];exact hk)),hca,hm1]
  have hz:t.ks[m1.length]?=some c.kind:=by rw[hm1,List.getElem?_eq_getElem hil];congr 1;simpa only[hi]using hik
  refine AS [iA 0] (arS b) ⟨b,.inr ⟨⟨c.kind,v⟩,rfl,?_⟩,rfl,rfl⟩;rw[hins,hb];exact⟨ha.setT hts hsp hnk,SF hne hts,rfl,rfl,rfl,_,IS ha hts hm,Oc ha hts hsp hm hz⟩
 ·rw[decide_eq_false hk]
  refine RG ?_;(repeat first|refine WO ?_|refine Ai λX=>?_|refine Ay λY=>?_);refine NL ?_;refine AE rfl rfl ?_;refine FL ?_;refine AWP.perm (List.Perm.cons _ (List.Perm.cons _ (DV hts Sf).symm)) ?_;(repeat refine WF ?_);have htk:=KJ a ha hne hts hnk;have htl:(AJ t e.n).length=t.ks.length:=by unfold AJ;rw[List.length_map,List.length_zip];have:=hto.len;omega
  have h16:=hto.ks;refine Cw (n:=2) [(B,.row 42 2 [AD false c]),(Be,.row 32 2 [AX e])] (arS a++Sf) rfl (by kernel_rfl) (by kernel_rfl) ?_;refine RGoH.go ?_;refine RGoH.go ?_;refine RGoH.go ?_;refine RGoH.skip [62,64] ?_;refine RGoH.go ?_;refine RGoH.go (h:=W.idxL (a:=0) (e:=AD false ⟨c.kind,v⟩) rfl rfl rfl rfl) ?_;refine RGoH.go ?_;refine RGoH.go (v:=.lst false 42 2 [AD false ⟨c.kind,v⟩]) (h:=W.litF1 (v0:=AD false ⟨c.kind,v⟩) rfl rfl (.inl rfl) (by decide) (by decide) rfl) ?_;refine RGoH.skip [65,69] ?_;refine RGoH.skip [70] ?_;refine RGoH.nil (by kernel_rfl) (by kernel_rfl) (by kernel_rfl) ?_;refine HC.step [(62,.ptr a.A 0 0),(64,iA e.n)] ⟨rfl,rfl,rfl,rfl,trivial⟩ λT F=>?_
  refine JB F (h:=htk) (k:=λY _ K=>?_);obtain⟨hok,hne2,hA,hki,hge,hit⟩:=IN ha hne hts hm Y;obtain⟨b,hb⟩:∃b,Dt a l1 l2 t e.n Y=b:=⟨_,rfl⟩;rw[hb]at hok hne2 hA hki hge hit⊢;refine AOps.perm List.perm_middle.symm ?_;refine AOps.nil ⟨rfl,_,_,⟨λd v h=>h,.refl _⟩,?_⟩;refine HC.step [(65,.sl K 0 ((AJ t e.n).map (AD false)).length),(69,.lst false 42 2 [AD false ⟨c.kind,v⟩])] ⟨rfl,rfl,rfl,rfl,trivial⟩ λT2 F2=>?_
  refine AOps.perm List.perm_middle ?_;refine AOps.rs λZ=>?_
  refine AOps.goS (h:=W.app (X:=K) (Y:=Z) rfl rfl (by exact At.f) (by exact At.f) (by rw[List.length_map]) (by rw[List.length_map];show(_+1)*32<=_;omega) (by rw[List.length_map];unfold maxLen;show _+1<=_;omega) (by decide)) (k:=?_);dsimp only[AM,List.set_cons_zero,List.set_cons_succ];refine AOps.perm (List.Perm.cons _ List.perm_middle.symm) ?_;refine AOps.nil ⟨rfl,_,_,⟨λd v h=>h,.cons _ (.refl _)⟩,?_⟩;refine HC.step [(70,.sl Z 0 (((AJ t e.n).map (AD false)).length+1))] ⟨rfl,rfl,trivial⟩ λT3 F3=>?_
  (repeat refine WO ?_);refine AOps.nil ⟨rfl,_,_,⟨λd v h=>h,.refl _⟩,?_⟩;show andThen _ _ _ _
  refine AWP.weak (st':=⟨[(0,.ptr a.A 0 0),(4,.ptr Be 0 0),(12,.sl Z 0 (((AJ t e.n).map (AD false)).length+1))],[(Be,.row 32 2 [AX e]),(Z,.row 42 2 ((AJ t e.n).map (AD false)++[AD false ⟨c.kind,v⟩]))]++(arS b++Sf)⟩) ⟨.cons rfl (.cons rfl (.cons rfl .nil)),.cons _ (.refl _)⟩ ?_;obtain⟨cl,hcl⟩:∃cl,AJ t e.n++[(⟨c.kind,v⟩:Comp)]=cl:=⟨_,rfl⟩;have hcm:(AJ t e.n).map (AD false)++[AD false ⟨c.kind,v⟩]=cl.map (AD false):=by rw[<-hcl,List.map_append];rfl
  have hcn:((AJ t e.n).map (AD false)).length+1=cl.length:=by rw[<-hcl,List.length_append,List.length_map];rfl
  rw[hcm,hcn];obtain⟨su,⟨hu1,hu2⟩,hsf⟩:=GB 287 [] (λx y=>By x.kind y.kind) rfl (KL Comp.kind) (λx y=>Q0 x y) Z cl.length cl rfl (by have:=h11 rfl hk;rw[<-hcl,List.length_append,htl];show _+1<=12;omega);refine FL ?_;refine RG ?_;(repeat first|(refine AOps.gN ?_;first|(refine AOps.g_callf ?_;first|refine AOps.o2 (h:=(hsf ..)) (k:=?_)))|refine WO ?_|refine Ai λX=>?_|refine Ay λY=>?_);refine NL ?_;dsimp only[AM,List.set_cons_zero,List.set_cons_succ,List.cons_append,List.nil_append];rw[<-hu1.length_eq];have hF:Al (su.map (AD false))=su.map (AD false):=Frzs.h;have hsl:su.length=(su.map (AD false)).length:=(List.length_map _).symm;rw[hsl];refine MG 12 _ hF ?_;rw[<-hA];have had:=I3 b e su hok hne2 hnl (Ie ha hok hit) (by have:=h11 rfl hk;rw[hu1.length_eq,<-hcl,List.length_append,htl];show _+1<=16;omega);refine FL ?_;refine RG ?_;(repeat first|(refine AOps.gN ?_;first|refine DB [_,_] (h:=had) (k:=λb2 hb2=>?_))|refine WO ?_|refine Ai λX=>?_|refine Ay λY=>?_);refine NL ?_;refine FL ?_;refine RG ?_;(repeat first|refine WO ?_|refine Ai λX=>?_|refine Ay λY=>?_);refine NL ?_;refine RT ?_;obtain⟨g1,g2,g3,g4,g5,g6⟩:=hb2;have hsu:su=EP (AJ t e.n) ⟨c.kind,v⟩:=Mi hso (by rw[CJ hto];exact hk) (by rw[hcl];exact hu1) hu2;rw[hsu]at g6;exact AS [iA 0] (arS b2) ⟨b2,.inr ⟨_,rfl,g1,g2,g3.trans hA,g4.trans hki,g5.trans hge,_,hit,g6⟩,rfl,rfl⟩
theorem Ok{w:Wd}{j:Nat}(h1:∀q<j,(!Eo w.items (q:Nat)&&decide (w.gens.getD q 0<1073741824))=false)(h2:j<w.gens.length)(h3:(!Eo w.items (j:Nat)&&decide (w.gens.getD j 0<1073741824))=true):BD w=(j,true):=by
 have:Ju w=some j:=by
  unfold Ju;rw[List.find?_eq_some_iff_getElem];exact⟨h3,j,by simpa using h2,by simp,λq hq=>by have:=h1 q hq;simp only[List.getElem_range];rw[this];rfl⟩
 unfold BD;rw[this]
theorem Gi:∀(l:List Item) (it:Item),(Gj l it).Perm (it::l)
 |[],it=>.refl _
 |x::l,it=>by
  rw[Gj];split
  ·exact((Gi l it).cons x).trans (.swap ..)
  ·exact .refl _
theorem Oj{w:Wd}(h1:∀q<w.gens.length,(!Eo w.items (q:Nat)&&decide (w.gens.getD q 0<1073741824))=false):BD w=(w.gens.length,decide ((w.gens.length:Int)<256)):=by
 have:Ju w=none:=by
  unfold Ju;rw[List.find?_eq_none];intro q hq;have:=h1 q (by simpa using hq);rw[this];simp
 unfold BD;rw[this]
set_option maxRecDepth 8000 in
theorem NM(a:Ar)(w:Wd)(h:ArFor a w)(h12:w.kinds.length<=12)(l:List Comp)(hl:l.length<=1099511627776):Spec Tryz.prog 270 [.ptr a.A 0 0,Aj false false l] (arS a) λr S'=>∃b:Ar,(ArFor b (D4 w (Cl w l).1 (Cl w l).2.2)/\b.A=a.A)/\r= .tup [AX (Cl w l).2.1,iA (Cl w l).2.2]/\S'=arS b:=by
 have hft:=KI a.kinds l (by rw[h.kinds];exact h12) hl;obtain⟨r,hr⟩:∃r,Cl w l=r:=⟨_,rfl⟩;rw[hr];unfold Cl at hr;rw[if_neg (by simp[(Ax w).2 h.wok])]at hr;rw[h.kinds]at hft;obtain⟨⟨cs,f⟩,hcs⟩:∃q,CD w.kinds l=q:=⟨_,rfl⟩;have hheld:f=0->BY w.kinds cs=true:=λe=>by have:=HD (ks:=w.kinds) (l:=l) (by rw[hcs];exact e);rwa[hcs]at this
 rw[hcs]at hr hft;dsimp only at hr hft;have hgl:=h.wok.gl;rw[<-h.gens]at hgl;refine Spec.of (nt:=84) (res:=[.cell 4 32,.tmp 5]) Tryz.func270 rfl (by kernel_rfl) rfl rfl rfl λSf=>?_
 refine RG ?_;(repeat first|refine WO ?_|refine Ai λP=>?_|refine Ay λY=>?_);refine NL ?_;refine FL ?_;rw[<-h.kinds]at hft;refine RG ?_;(repeat first|(refine AOps.gN ?_;first|(refine AOps.g_callf ?_;first|refine AOps.c2 (h:=(hft ..)) (k:=?_)))|refine WO ?_|refine Ai λX=>?_|refine Ay λY=>?_);refine NL ?_;refine FL ?_;refine RG ?_;(repeat first|refine WO ?_|refine Ai λX=>?_|refine Ay λY=>?_);refine NL ?_;by_cases hf:f≠0
 ·rw[if_pos hf]at hr
  subst hr;refine AR rfl (decide_eq_true hf) ?_;refine FL ?_;refine RG ?_;(repeat first|refine WO ?_|refine Ai λX=>?_|refine Ay λY=>?_);refine NL ?_;refine RT ?_;exact AS [AX ⟨0,0⟩,iA f] (arS a) ⟨a,⟨by unfold D4;rw[if_neg hf];exact h,rfl⟩,rfl,rfl⟩
 have hf:f=0:=Decidable.not_not.1 hf;subst hf;rw[if_neg (by simp)]at hr;refine AE rfl rfl ?_;refine FL ?_;refine RG ?_;(repeat first|refine WO ?_|refine Ai λX=>?_|refine Ay λY=>?_);refine NL ?_;refine FL ?_;refine BP (λ(j:Nat)=>⟨[(0,.ptr a.A 0 0),(4,.ptr P 0 0),(6,Aj false false cs),(8,iA j)],(P,.row 32 2 [AX ⟨0,0⟩])::(arS a++Sf)⟩) (λj=>j<=a.gens.length/\∀q<j,(!Eo w.items (q:Nat)&&decide (w.gens.getD q 0<1073741824))=false) (λj=>a.gens.length-j) 0 ⟨Nat.zero_le _,λq hq=>absurd hq (by omega)⟩ ?_;rintro j ⟨hj,hall⟩;have hjI:I64 (j:Int):=by constructor<;>omega
 by_cases hjl:j<a.gens.length
 ·have hd:decide ((j:Int)<(a.gens.length:Nat))=true:=decide_eq_true (by omega)
  have hat:(a.gens.map iA)[j]?=some (iA a.gens[j]):=Ah _ hjl;have hmem:=h.wok.gs a.gens[j] (by rw[<-h.gens];exact List.getElem_mem hjl);have hgd:w.gens.getD j 0=a.gens[j]:=by rw[<-h.gens,List.getD_eq_getElem?_getD,List.getElem?_eq_getElem hjl];rfl
  have hus:=h.used j
  have hus0:a.g j=none->¬a.gens[j]=1073741824->BD w=(j,true):=λe1 e2=>by
   refine Ok hall (by rw[<-h.gens];exact hjl) ?_;rw[<-hus,e1,hgd,decide_eq_true (by omega)];rfl
  cases hg:a.g j with
  |none=>
   have hgp:(a.g j).getD (.pointer none)= .pointer none:=by rw[hg];rfl
   refine RG ?_;(repeat first|(refine AOps.gN ?_;first|refine AOps.go (h:=Ef _ hgp hjI rfl rfl (by exact At.f)) (k:=?_)|refine AOps.go (h:=W.neNil false (.inl ⟨rfl,rfl⟩) rfl rfl) (k:=?_))|refine WO ?_|refine Ai λX=>?_|refine Ay λY=>?_);refine NL ?_;refine AWP.cond rfl (λhc=>?_) (λhc=>?_)
   ·have hc:a.gens[j]=1073741824:=of_decide_eq_true hc
    refine FL ?_;refine RG ?_;(repeat first|refine WO ?_|refine Ai λX=>?_|refine Ay λY=>?_);refine NL ?_;refine A7 (j+1) ⟨by omega,λq hq=>?_⟩ (by omega);by_cases hqj:q=j
    ·subst hqj
     rw[hgd,hc];simp
    ·exact hall q (by omega)
   ·have hc:¬a.gens[j]=1073741824:=of_decide_eq_false hc
    have hfr:=hus0 hg hc;obtain⟨f1,f2,f3,f4⟩:=Fs h.wok (by rw[hfr]);have hv:=H3 h.wok (by rw[hfr]) (hheld rfl);rw[hfr]at hr f1 f2 f3 f4 hv;dsimp only at hr f1 f2 f3 f4 hv;rw[if_neg (by simp)]at hr;have hgz:a.gens=CB w.gens j:=by unfold CB;rw[if_neg (by rw[<-h.gens];omega),h.gens]
    obtain⟨g,hge⟩:∃g,(CB w.gens j).getD j 0=g:=⟨_,rfl⟩;rw[hge]at hr hv;have hge:a.gens[j]=g:=by rw[<-hge,<-hgz,List.getD_eq_getElem?_getD,List.getElem?_eq_getElem hjl];rfl
    rw[hge]at hat;subst hr
    have hfk:((j:Nat):Int)∉Av a.ts:=λhm=>by
     rw[h.ok.keys_items]at hm;obtain⟨x,hx,e⟩:=List.mem_map.1 hm;exact f2 x (h.items.mem_iff.1 hx) e
    have had:=I3 a ⟨(j:Nat),g⟩ cs h.ok h.ne (by dsimp only;omega) hfk (Fm h.wok.ks (hheld rfl)).1;have hd2:decide ((j:Int)=256)=false:=decide_eq_false (by omega);have hd3:decide ((j:Int)=(a.gens.length:Nat))=false:=decide_eq_false (by omega);refine FL ?_;refine RG ?_;(repeat first|refine WO ?_|refine Ai λX=>?_|refine Ay λY=>?_);refine NL ?_;refine AE rfl hd2 ?_;refine FL ?_;refine RG ?_;(repeat first|refine WO ?_|refine Ai λX=>?_|refine Ay λY=>?_);refine NL ?_;refine AE rfl hd3 ?_;refine FL ?_;refine RG ?_;(repeat first|refine WO ?_|refine Ai λE=>?_|refine Ay λY=>?_);refine NL ?_;refine FL ?_;refine RG ?_;(repeat first|(refine AOps.gN ?_;first|refine DB [_,_] (h:=had) (k:=λb2 hb2=>?_))|refine WO ?_|refine Ai λX=>?_|refine Ay λY=>?_);refine NL ?_;refine FL ?_;refine RG ?_;(repeat first|refine WO ?_|refine Ai λX=>?_|refine Ay λY=>?_);refine NL ?_;refine RT ?_;obtain⟨q1,q2,q3,q4,q5,q6⟩:=hb2;exact AS [AX ⟨(j:Nat),g⟩,iA 0] (arS b2) ⟨b2,⟨⟨q1,q2,q4.trans h.kinds,q5.trans hgz,q6.trans ((h.items.cons _).trans (Gi _ _).symm),hv⟩,q3⟩,rfl,rfl⟩
  |some u=>
   have hgp:(a.g j).getD (.pointer none)=u:=by rw[hg];rfl
   obtain⟨t,ht,htn,hK,b,hb⟩:=h.ok.g j u hg;have hone:u.oneCell'=true:=by rw[hb];rfl
   refine RG ?_;(repeat first|(refine AOps.gN ?_;first|refine AOps.go (h:=Ef _ hgp hjI rfl rfl (by exact At.f) hone) (k:=?_)|refine AOps.go (h:=W.neNil true (.inr ⟨b,hb,rfl⟩) rfl rfl) (k:=?_))|refine WO ?_|refine Ai λX=>?_|refine Ay λY=>?_);refine NL ?_;refine AR rfl rfl ?_;refine FL ?_;refine RG ?_;(repeat first|refine WO ?_|refine Ai λX=>?_|refine Ay λY=>?_);refine NL ?_;refine A7 (j+1) ⟨by omega,λq hq=>?_⟩ (by omega);by_cases hqj:q=j
   ·subst hqj
    rw[<-hus,hg];rfl
   ·exact hall q (by omega)
 ·have hjl:j=a.gens.length:=by omega
  have hd:decide ((j:Int)<(a.gens.length:Nat))=false:=decide_eq_false (by omega);have hfr:=Oj (w:=w) λq hq=>hall q (by rw[hjl,h.gens];exact hq)
  rw[<-h.gens,<-hjl]at hfr;refine RG ?_;(repeat first|(refine AOps.gQ ?_;first|refine AOps.goNU ?_|refine AOps.goNV ?_)|refine WO ?_|refine Ai λX=>?_|refine Ay λY=>?_);refine NL ?_;refine AE rfl rfl ?_;refine FL ?_;refine RG ?_;(repeat first|refine WO ?_|refine Ai λX=>?_|refine Ay λY=>?_);refine NL ?_;refine AWP.cond rfl (λhc=>?_) (λhc=>?_)
  ·have hc:(j:Int)=256:=of_decide_eq_true hc
   rw[hfr,if_pos (decide_eq_false (by omega))]at hr;subst hr;refine FL ?_;refine RG ?_;(repeat first|refine WO ?_|refine Ai λX=>?_|refine Ay λY=>?_);refine NL ?_;refine RT ?_;exact AS [AX ⟨0,0⟩,iA 6] (arS a) ⟨a,⟨h,rfl⟩,rfl,rfl⟩
  ·have hc:¬(j:Int)=256:=of_decide_eq_false hc
   have hfr:BD w=(j,true):=by rw[hfr,decide_eq_true (by omega)]
   obtain⟨f1,f2,f3,f4⟩:=Fs h.wok (by rw[hfr]);have hv:=H3 h.wok (by rw[hfr]) (hheld rfl);rw[hfr]at hr f1 f2 f3 f4 hv;dsimp only at hr f1 f2 f3 f4 hv;rw[if_neg (by simp)]at hr;have hgr:CB w.gens j=a.gens++[0]:=by unfold CB;rw[if_pos (by rw[<-h.gens];exact hjl),h.gens]
   obtain⟨g,hge⟩:∃g,(CB w.gens j).getD j 0=g:=⟨_,rfl⟩;rw[hge]at hr hv;have hge:g=0:=by rw[<-hge,hgr,hjl,List.getD_eq_getElem?_getD];simp
   subst hge;subst hr;have hd3:decide ((j:Int)=(a.gens.length:Nat))=true:=decide_eq_true (by omega);refine FL ?_;refine RG ?_;(repeat first|refine WO ?_|refine Ai λX=>?_|refine Ay λY=>?_);refine NL ?_;refine AR rfl hd3 ?_;refine FL ?_;refine RG ?_;(repeat first|(refine AOps.gN ?_;first|(refine AOps.g_lit ?_;refine AOps.goL (iA 0) ?_))|refine WO ?_|refine Ai λX=>?_|refine Ay λY=>?_);dsimp only[AM,List.set_cons_zero,List.set_cons_succ,List.cons_append,List.nil_append];refine AOps.nil ?_;refine FL ?_;have hm1:a.gens.map iA++[iA 0]=(a.gens++[0]).map iA:=by rw[List.map_append];rfl
   have hm2:a.gens.length+[iA 0].length=(a.gens++[0]).length:=by rw[List.length_append];rfl
   rw[hm1,hm2];obtain⟨z,hz⟩:∃z:Ar,z={a with G:=Y,gens:=a.gens++[0]}:=⟨_,rfl⟩;have hzA:z.A=a.A:=by rw[hz]
   have hzg:z.gens=a.gens++[0]:=by rw[hz]
   have hzt:z.ts=a.ts:=by rw[hz]
   have hzo:ArOK z:=by rw[hz];exact⟨h.ok.tab,h.ok.ord,h.ok.keys,h.ok.ent,h.ok.g,h.ok.gn,h.ok.cnt⟩
   refine AWP.weak (st':=⟨[(0,.ptr a.A 0 0),(4,.ptr P 0 0),(6,Aj false false cs),(8,iA j)],(P,.row 32 2 [AX ⟨0,0⟩])::(arS z++Sf)⟩) ⟨by exact Lk.f,?_⟩ ?_
   ·rw[hz]
    simp only[arS,List.cons_append,List.nil_append];exact List.Sublist.refl _
   have hat:(z.gens.map iA)[j]?=some (iA 0):=by rw[hzg,List.getElem?_map,hjl];simp
   have hjz:j<z.gens.length:=by rw[hzg,List.length_append,hjl];show a.gens.length<_+1;omega
   have hfk:((j:Nat):Int)∉Av z.ts:=λhm=>by
    rw[hzt,h.ok.keys_items]at hm;obtain⟨x,hx,e⟩:=List.mem_map.1 hm;exact f2 x (h.items.mem_iff.1 hx) e
   have had:=I3 z ⟨(j:Nat),0⟩ cs hzo (by rw[hzt];exact h.ne) (by dsimp only;omega) hfk (Fm h.wok.ks (hheld rfl)).1;rw[hzt]at had;rw[<-hzA];refine RG ?_;(repeat first|refine WO ?_|refine Ai λE=>?_|refine Ay λY=>?_);refine NL ?_;refine FL ?_;refine RG ?_;(repeat first|(refine AOps.gN ?_;first|refine DB [_,_] (h:=had) (k:=λb2 hb2=>?_))|refine WO ?_|refine Ai λX=>?_|refine Ay λY=>?_);refine NL ?_;refine FL ?_;refine RG ?_;(repeat first|refine WO ?_|refine Ai λX=>?_|refine Ay λY=>?_);refine NL ?_;refine RT ?_;obtain⟨q1,q2,q3,q4,q5,q6⟩:=hb2;exact AS [AX ⟨(j:Nat),0⟩,iA 0] (arS b2) ⟨b2,⟨⟨q1,q2,(q4.trans (by rw[hz])).trans h.kinds,(q5.trans hzg).trans hgr.symm,q6.trans ((h.items.cons _).trans (Gi _ _).symm),hv⟩,q3⟩,rfl,rfl⟩
section
section
variable {a:Ar}{w:Wd}
theorem P9{e:Ent}{l:List Comp}{i:Nat}(hw:WdOK w)(hi:w.items[i]?=some ⟨e,l⟩):B0 w.items e=i:=GP hw.so hi
theorem Qz(h:ArFor a w)(h12:w.kinds.length<=12)(e:Ent)(c:Comp)(hn:I64 e.n)(hk:I64 c.kind):Spec Tryz.prog 267 [.ptr a.A 0 0,AX e,AD false c] (arS a) λr S'=>∃b:Ar,(ArFor b (D4 w (Cp w e c).1 (Cp w e c).2)/\b.A=a.A)/\r=iA (Cp w e c).2/\S'=arS b:=by
 have hwe:=(Ax w).2 h.wok;cases hh:Eb a e with
 |false=>
  have hf:=h.hasE hh;have hp:Cp w e c=(⟨[],[],[]⟩,4):=by unfold Cp;rw[if_neg (by simp[hwe]),if_pos hf]
  rw[hp];exact(SA a h.ok e c hn hh).mono λr S' ⟨e1,e2⟩=>⟨a,⟨h,rfl⟩,e1,e2⟩
 |true=>
  obtain⟨l1,l2,t,hts,hm⟩:=Hl h.ok hh;have htm:t∈a.ts:=by rw[hts];simp
  obtain⟨i,hi⟩:=h.item htm hm;have hso:=h.sort htm hm;have hhe:=h.held htm hm;have hfi:=P9 h.wok hi;have hto:=h.ok.tab t htm
  have h11:(CD a.kinds [c]).2=0->c.kind∉t.ks->t.ks.length<=11:=λe1 e2=>by
   obtain⟨d,_,_,g1,g2⟩:=JX e1;rw[h.kinds]at g2
   have h1:(c.kind::t.ks).length<=w.kinds.length:=Er (λx=>x) _ _ (List.pairwise_cons.2 ⟨λx hx e=>e2 (by subst e;exact hx),(H4 hto hso).imp λh=>by omega⟩) λx hx=>by
    rcases List.mem_cons.1 hx with rfl|hx
    ·exact⟨g1,g2⟩
    ·rw[<-CJ hto e.n]at hx
     obtain⟨d,hd,rfl⟩:=List.mem_map.1 hx;have:=(held_iff.1 hhe).2 d hd;exact⟨this.1,this.2.1⟩
   rw[List.length_cons]at h1;omega
  refine(Qy a h.ok h.ne e c hn hk (by rw[h.kinds];exact h12) hh hts hm hso h11).mono λr S' ⟨b,hb,e1,e2⟩=>?_
  unfold SV at hb;rw[h.kinds]at hb e1;rcases hb with⟨hne,rfl⟩|⟨d,hd,hs⟩
  ·have hp:Cp w e c=(⟨[],[],[]⟩,(CD w.kinds [c]).2):=by unfold Cp;rw[if_neg (by simp[hwe]),hfi,if_neg (by omega),if_pos hne]
   rw[hp];exact⟨b,⟨by unfold D4;rw[if_neg hne];exact h,rfl⟩,e1,e2⟩
  ·have hp:Cp w e c=(Cs w i (EP (AJ t e.n) d),0):=by unfold Cp;rw[if_neg (by simp[hwe]),hfi,if_neg (by omega),hd,if_neg (by simp),Int.toNat_natCast,hi]
   rw[hd]at e1;rw[hp];have hfo:=JZ h.wok.ks (by rw[hd]);have hdc:=Hu h.wok.ks hfo;rw[hd]at hdc;injection hdc with hdc
   injection hdc with hdc
   have hpo:=PM h.wok hi hfo
   have hhl:BY w.kinds (EP (AJ t e.n) d)=true:=by
    rw[hdc]
    have hii:(Cs w i (EP (AJ t e.n) (Ft w.kinds c))).items[i]?=some ⟨e,EP (AJ t e.n) (Ft w.kinds c)⟩:=by
     rw[Fg hi];exact List.getElem?_set_self (List.getElem?_eq_some_iff.1 hi).1
    exact(hpo.it _ (List.mem_of_getElem? hii)).2.2.2.2
   exact⟨b,⟨h.swap hs hi hhl,hs.A⟩,e1,e2⟩
theorem QD(h:ArFor a w)(e:Ent)(k:Int)(hn:I64 e.n)(hk:I64 k):Spec Tryz.prog 268 [.ptr a.A 0 0,AX e,iA k] (arS a) λr S'=>∃b:Ar,(ArFor b (D4 w (D0 w e k).1 (D0 w e k).2)/\b.A=a.A)/\r=iA (D0 w e k).2/\S'=arS b:=by
 have hwe:=(Ax w).2 h.wok;cases hh:Eb a e with
 |false=>
  have hf:=h.hasE hh;have hp:D0 w e k=(⟨[],[],[]⟩,4):=by unfold D0;rw[if_neg (by simp[hwe]),if_pos hf]
  rw[hp];exact(QF a h.ok e k hn hh).mono λr S' ⟨e1,e2⟩=>⟨a,⟨h,rfl⟩,e1,e2⟩
 |true=>
  obtain⟨l1,l2,t,hts,hm⟩:=Hl h.ok hh;have htm:t∈a.ts:=by rw[hts];simp
  obtain⟨i,hi⟩:=h.item htm hm;have hso:=h.sort htm hm;have hhe:=h.held htm hm;have hto:=h.ok.tab t htm;have hp:=J0 h.wok hi k;dsimp only at hp;have hcm:(Bl (AJ t e.n) k).isSome=true↔k∈t.ks:=by rw[Is hso,CJ hto]
  refine(Or a h.ok h.ne e k hn hk hh hts hm (H4 hto hso)).mono λr S' ⟨b,hb,e1,e2⟩=>?_
  by_cases hkm:k∈t.ks
  ·have hcs:=hcm.2 hkm
   rw[if_pos hkm]at hb e1;rw[if_pos hcs]at hp;rw[hp];have hl:IK t.ks k=C7 (AJ t e.n) k:=by rw[<-IJ hso,CJ hto]
   rw[hl,<-Lw hso hcs]at hb;exact⟨b,⟨h.swap hb hi (Jt hhe),hb.A⟩,e1,e2⟩
  ·rw[if_neg hkm]at hb e1
   rw[if_neg λe=>hkm (hcm.1 e)]at hp;rw[hp];subst hb;exact⟨b,⟨h,rfl⟩,e1,e2⟩
theorem Pm(h:ArFor a w)(e:Ent)(hn:I64 e.n):Spec Tryz.prog 269 [.ptr a.A 0 0,AX e] (arS a) λr S'=>∃b:Ar,(ArFor b (D4 w (DI w e).1 (DI w e).2)/\b.A=a.A)/\r=iA (DI w e).2/\S'=arS b:=by
 have hwe:=(Ax w).2 h.wok;cases hh:Eb a e with
 |false=>
  have hf:=h.hasE hh;have hp:DI w e=(⟨[],[],[]⟩,4):=by unfold DI;rw[if_neg (by simp[hwe]),if_pos hf]
  rw[hp];exact(RE a h.ok e hn hh).mono λr S' ⟨e1,e2⟩=>⟨a,⟨h,rfl⟩,e1,e2⟩
 |true=>
  obtain⟨l1,l2,t,hts,hm⟩:=Hl h.ok hh;have htm:t∈a.ts:=by rw[hts];simp
  obtain⟨i,hi⟩:=h.item htm hm;have hit:=h.wok.it _ (List.mem_of_getElem? hi);dsimp only at hit;refine(Pk a h.ok h.ne e hn hh (by rw[h.gens];omega) (by rw[h.gens];exact h.wok.gl) (by rw[h.gens];exact h.wok.gs)).mono λr S' ⟨b,hb,e1,e2⟩=>?_
  obtain⟨g1,g2⟩:=h.kill hb hh;rw[g1];exact⟨b,⟨g2,hb.A⟩,e1,e2⟩
end
end
abbrev J5(b:Bool)(l:List Cmd):AV:=.lst b 159 5 (l.map Ca)
theorem Oz(ks:List Kind)(c:Cmd)(h12:ks.length<=12)(hl:c.comps.length<=1099511627776):PS Tryz.prog 223 [As false false ks,Ca c] (.tup [Aj false false (CS ks c).1,iA (CS ks c).2]):=by
 have hft:=KI ks c.comps h12 hl;obtain⟨act,ent,kind,comps⟩:=c;dsimp only at hft hl;obtain⟨r,hr⟩:∃r,CS ks ⟨act,ent,kind,comps⟩=r:=⟨_,rfl⟩;rw[hr];unfold CS at hr;dsimp only at hr;refine Spec.of (nt:=42) (res:=[.tmp 4,.tmp 5]) Tryz.func223 rfl (by kernel_rfl) rfl rfl rfl λSf=>?_
 have hlm:(comps.map (AD false)).length=comps.length:=List.length_map _;have hkm:(ks.map (Au false)).length=ks.length:=List.length_map _;refine RG ?_;(repeat first|refine WO ?_|refine Ai λB=>?_|refine Ay λY=>?_);refine NL ?_;refine FL ?_;refine RG ?_;(repeat first|refine WO ?_|refine Ai λX=>?_|refine Ay λY=>?_);refine NL ?_;refine FL ?_;refine RG ?_;(repeat first|refine WO ?_|refine Ai λX=>?_|refine Ay λY=>?_);refine NL ?_;refine AWP.cond rfl (λh0=>?_) (λh0=>?_)
 ·rw[if_pos (of_decide_eq_true h0)]at hr
  refine FL ?_;refine RG ?_;(repeat first|refine WO ?_|refine Ai λX=>?_|refine Ay λY=>?_);refine NL ?_;refine AWP.cond rfl (λh1=>?_) (λh1=>?_)
  ·have h1:((comps.map (AD false)).length:Int)≠1:=of_decide_eq_true h1
   rw[if_neg (by omega)]at hr;subst hr;refine FL ?_;refine RG ?_;(repeat first|refine WO ?_|refine Ai λX=>?_|refine Ay λY=>?_);refine NL ?_;refine RT ?_;exact BT [.prim (.slice none 0 0),iA 3] [Aj false false [],iA 3] (.cons (.cell .nil) (.cons (.cell .same) .nil))
  ·have h1:¬((comps.map (AD false)).length:Int)≠1:=of_decide_eq_false h1
   rw[if_pos (by omega)]at hr;subst hr;refine FL ?_;refine RG ?_;(repeat first|(refine AOps.gN ?_;first|(refine AOps.g_callf ?_;first|refine AOps.c2 (h:=(hft ..)) (k:=?_)))|refine WO ?_|refine Ai λX=>?_|refine Ay λY=>?_);refine NL ?_;refine RT ?_;exact GZ (rs:=[Aj false false (CD ks comps).1,iA (CD ks comps).2]) rfl
 rw[if_neg (of_decide_eq_false h0)]at hr;refine FL ?_;refine RG ?_;(repeat first|refine WO ?_|refine Ai λX=>?_|refine Ay λY=>?_);refine NL ?_;refine AWP.cond rfl (λh1=>?_) (λh1=>?_)
 ·rw[if_pos (of_decide_eq_true h1)]at hr
  refine FL ?_;cases g1:decide (kind<0)with
  |true=>
   rw[if_pos (.inl (of_decide_eq_true g1))]at hr;subst hr;refine RG ?_;(repeat first|refine WO ?_|refine Ai λX=>?_|refine Ay λY=>?_);refine NL ?_;refine AR rfl (by first|rfl|assumption) ?_;refine FL ?_;refine RG ?_;(repeat first|refine WO ?_|refine Ai λX=>?_|refine Ay λY=>?_);refine NL ?_;refine RT ?_;exact BT [.prim (.slice none 0 0),iA 1] [Aj false false [],iA 1] (.cons (.cell .nil) (.cons (.cell .same) .nil))
  |false=>
   refine RG ?_;(repeat first|refine WO ?_|refine Ai λX=>?_|refine Ay λY=>?_);refine NL ?_;refine AWP.cond rfl (λg2=>?_) (λg2=>?_)
   ·rw[hkm]at g2
    rw[if_pos (.inr (of_decide_eq_true g2))]at hr;subst hr;refine FL ?_;refine RG ?_;(repeat first|refine WO ?_|refine Ai λX=>?_|refine Ay λY=>?_);refine NL ?_;refine RT ?_;exact BT [.prim (.slice none 0 0),iA 1] [Aj false false [],iA 1] (.cons (.cell .nil) (.cons (.cell .same) .nil))
   ·rw[hkm]at g2
    have g1:=of_decide_eq_false g1;have g2:¬(ks.length:Int)<=kind:=of_decide_eq_false g2;rw[if_neg (by omega)]at hr;subst hr;refine FL ?_;refine RG ?_;(repeat first|refine WO ?_|refine Ai λX=>?_|refine Ay λY=>?_);refine NL ?_;refine RT ?_;exact BT [.prim (.slice none 0 0),iA 0] [Aj false false [],iA 0] (.cons (.cell .nil) (.cons (.cell .same) .nil))
 rw[if_neg (of_decide_eq_false h1)]at hr;refine FL ?_;refine RG ?_;(repeat first|refine WO ?_|refine Ai λX=>?_|refine Ay λY=>?_);refine NL ?_;refine AWP.cond rfl (λh2=>?_) (λh2=>?_)
 ·rw[if_pos (of_decide_eq_true h2)]at hr
  subst hr;refine FL ?_;refine RG ?_;(repeat first|refine WO ?_|refine Ai λX=>?_|refine Ay λY=>?_);refine NL ?_;refine RT ?_;exact BT [.prim (.slice none 0 0),iA 0] [Aj false false [],iA 0] (.cons (.cell .nil) (.cons (.cell .same) .nil))
 rw[if_neg (of_decide_eq_false h2)]at hr;refine FL ?_;refine RG ?_;(repeat first|refine WO ?_|refine Ai λX=>?_|refine Ay λY=>?_);refine NL ?_;refine AWP.cond rfl (λh3=>?_) (λh3=>?_)
 ·rw[if_pos (of_decide_eq_true h3)]at hr
  subst hr;refine FL ?_;refine RG ?_;(repeat first|(refine AOps.gN ?_;first|(refine AOps.g_callf ?_;first|refine AOps.c2 (h:=(hft ..)) (k:=?_)))|refine WO ?_|refine Ai λX=>?_|refine Ay λY=>?_);refine NL ?_;refine RT ?_;exact GZ (rs:=[Aj false false (CD ks comps).1,iA (CD ks comps).2]) rfl
 rw[if_neg (of_decide_eq_false h3)]at hr;subst hr;refine FL ?_;refine RG ?_;(repeat first|refine WO ?_|refine Ai λX=>?_|refine Ay λY=>?_);refine NL ?_;refine RT ?_;exact BT [.prim (.slice none 0 0),iA 1] [Aj false false [],iA 1] (.cons (.cell .nil) (.cons (.cell .same) .nil))
theorem O0{ks:List Kind}{l:List Cmd}{i:Nat}{c:Cmd}(h:i<l.length)(hc:l[i]=c):DO ks (l.drop i)=if(CS ks c).2=0 then DO ks (l.drop (i+1))else(CS ks c).2:=by
 rw[List.drop_eq_getElem_cons h,DO,hc]
theorem HR(w:Wd)(l:List Cmd)(hw:WdL w)(h12:w.kinds.length<=12)(hl:l.length<=1099511627776)(hc:∀c∈l,c.comps.length<=1099511627776):PS Tryz.prog 162 [wdA false w,J5 false l] (iA (Fw w l)):=by
 have hck:=EU w hw.gens hw.items.1 (λit hit=>(hw.items.2 it hit).1);obtain⟨r,hr⟩:∃r,Fw w l=r:=⟨_,rfl⟩;rw[hr];unfold Fw at hr;obtain⟨we,hwe⟩:∃we,Cb w=we:=⟨_,rfl⟩;rw[hwe]at hck hr;have hlm:(l.map Ca).length=l.length:=List.length_map _;refine Spec.of (nt:=35) (res:=[.tmp 4]) Tryz.func162 rfl (by kernel_rfl) rfl rfl rfl λSf=>?_
 refine RG ?_;(repeat first|(refine AOps.gN ?_;first|(refine AOps.g_box ?_;refine Az ?_))|refine WO ?_|refine Ai λX=>?_|refine Ay λY=>?_);refine NL ?_;refine FL ?_;refine RG ?_;(repeat first|(refine AOps.gN ?_;first|(refine AOps.g_callf ?_;first|refine AOps.c1 (h:=(hck ..)) (k:=?_)))|refine WO ?_|refine Ai λX=>?_|refine Ay λY=>?_);refine NL ?_;refine FL ?_;refine RG ?_;(repeat first|refine WO ?_|refine Ai λX=>?_|refine Ay λY=>?_);refine NL ?_;refine AWP.cond rfl (λh0=>?_) (λh0=>?_)
 ·rw[if_pos (of_decide_eq_true h0)]at hr
  subst hr;refine FL ?_;refine RG ?_;(repeat first|refine WO ?_|refine Ai λX=>?_|refine Ay λY=>?_);refine NL ?_;refine RT ?_;refine AN ?_;rfl
 rw[if_neg (of_decide_eq_false h0)]at hr;refine FL ?_;refine RG ?_;(repeat first|refine WO ?_|refine Ai λX=>?_|refine Ay λY=>?_);refine NL ?_;refine AWP.cond rfl (λh1=>?_) (λh1=>?_)
 ·have h1:=of_decide_eq_true h1
  rw[if_pos (by omega)]at hr;subst hr;refine FL ?_;refine RG ?_;(repeat first|refine WO ?_|refine Ai λX=>?_|refine Ay λY=>?_);refine NL ?_;refine RT ?_;refine AN ?_;rfl
 have h1:=of_decide_eq_false h1;rw[if_neg (by omega)]at hr;subst hr;refine FL ?_;refine RG ?_;(repeat first|refine WO ?_|refine Ai λX=>?_|refine Ay λY=>?_);refine NL ?_;refine FL ?_;refine BP (λ(i:Nat)=>⟨[(2,.fp (wdA false w).cells),(18,J5 false l),(19,iA (l.map Ca).length),(20,iA i)],Sf⟩) (λi=>i<=l.length/\DO w.kinds (l.drop i)=DO w.kinds l) (λi=>l.length-i) 0 ⟨Nat.zero_le _,rfl⟩ ?_;rintro i ⟨hi,he⟩;refine RG ?_;(repeat first|refine WO ?_|refine Ai λX=>?_|refine Ay λY=>?_);refine NL ?_;refine FL ?_;refine AWP.cond rfl (λhc2=>?_) (λhc2=>?_)
 ·have h:i<l.length:=by rw[decide_eq_true_eq,hlm]at hc2;omega
  obtain⟨c,hcc⟩:∃c,l[i]=c:=⟨_,rfl⟩;have hat:(l.map Ca)[i]?=some (Ca c):=by rw[List.getElem?_map,List.getElem?_eq_getElem h,hcc];rfl
  have ho:=Oz w.kinds c h12 (hc c (by rw[<-hcc];exact List.getElem_mem h));rw[O0 h hcc]at he;refine FL ?_;refine RG ?_;(repeat first|refine WO ?_|refine Ai λV=>?_|refine Ay λY=>?_);refine NL ?_;refine FL ?_;refine RG ?_;(repeat first|(refine AOps.gN ?_;first|(refine AOps.g_callf ?_;first|refine AOps.c2 (h:=(ho ..)) (k:=?_)))|refine WO ?_|refine Ai λX=>?_|refine Ay λY=>?_);refine NL ?_;refine FL ?_;refine RG ?_;(repeat first|refine WO ?_|refine Ai λX=>?_|refine Ay λY=>?_);refine NL ?_;refine AWP.cond rfl (λh3=>?_) (λh3=>?_)
  ·rw[if_neg (of_decide_eq_true h3)]at he
   refine FL ?_;refine RG ?_;(repeat first|refine WO ?_|refine Ai λX=>?_|refine Ay λY=>?_);refine NL ?_;refine RT ?_;refine AN ?_;exact congrArg iA he
  ·rw[if_pos (Decidable.not_not.1 (of_decide_eq_false h3))]at he
   refine FL ?_;refine RG ?_;(repeat first|refine WO ?_|refine Ai λX=>?_|refine Ay λY=>?_);refine NL ?_;exact A7 (i+1) ⟨h,he⟩ (by omega)
 ·have h:i=l.length:=by rw[decide_eq_false_iff_not,hlm]at hc2;omega
  rw[h,List.drop_length]at he;refine FL ?_;refine RG ?_;(repeat first|refine WO ?_|refine Ai λX=>?_|refine Ay λY=>?_);refine NL ?_;refine RT ?_;refine AN ?_;exact congrArg iA he
set_option maxRecDepth 8000 in
theorem SQ{a:Ar}{w:Wd}(h:ArFor a w)(h12:w.kinds.length<=12)(c:Cmd)(hc:(CS w.kinds c).2=0)(hn:I64 c.ent.n)(hl:c.comps.length<=1099511627776):Spec Tryz.prog 224 [.ptr a.A 0 0,Ca c] (arS a) λr S'=>∃b:Ar,(ArFor b (D3 w c).1/\b.A=a.A)/\r= .tup [AX (D3 w c).2.1,bA (D3 w c).2.2]/\S'=arS b:=by
 obtain⟨act,ent,kind,comps⟩:=c;dsimp only at hn hl;unfold CS at hc;dsimp only at hc;obtain⟨r,hr⟩:∃r,D3 w ⟨act,ent,kind,comps⟩=r:=⟨_,rfl⟩;rw[hr];unfold D3 at hr;dsimp only at hr;refine Spec.of (nt:=50) (res:=[.cell 4 32,.tmp 5]) Tryz.func224 rfl (by kernel_rfl) rfl rfl rfl λSf=>?_
 refine RG ?_;(repeat first|(refine AOps.gN ?_;first|(refine AOps.g_box ?_;refine Az ?_))|refine WO ?_|refine Ai λP=>?_|refine Ay λY=>?_);refine NL ?_;refine FL ?_;refine RG ?_;(repeat first|refine WO ?_|refine Ai λX=>?_|refine Ay λY=>?_);refine NL ?_;refine FL ?_;refine RG ?_;(repeat first|refine WO ?_|refine Ai λX=>?_|refine Ay λY=>?_);refine NL ?_;refine AWP.cond rfl (λh0=>?_) (λh0=>?_)
 ·rw[if_pos (of_decide_eq_true h0)]at hr hc
  split at hc
  ·rename_i h1
   obtain⟨d,rfl⟩:=List.length_eq_one_iff.1 h1;obtain⟨_,_,_,d1,d2⟩:=JX hc;have h16:=(BL h.wok.ks).1;have hp:=Qz h h12 ent d hn ⟨by omega,by omega⟩;replace hr:(D4 w (Cp w ent d).1 (Cp w ent d).2,(⟨0,0⟩:Ent),decide ((Cp w ent d).2=0))=r:=hr;subst hr;refine FL ?_;obtain⟨err,herr⟩:∃e,(Cp w ent d).2=e:=⟨_,rfl⟩;rw[herr]at hp⊢;refine Cw (n:=1) [(P,.row 32 2 [AX ⟨0,0⟩])] (arS a++Sf) rfl (by kernel_rfl) (by kernel_rfl) ?_;refine RGoH.go ?_;refine RGoH.go ?_;refine RGoH.go ?_;refine RGoH.go ?_;refine RGoH.go ?_;refine RGoH.go ?_;refine RGoH.go (h:=W.idxL (a:=0) (e:=AD false d) rfl rfl rfl rfl) ?_;refine RGoH.go ?_;refine RGoH.skip [13,15,19] ?_;refine RGoH.skip [20] ?_;refine RGoH.goS ?_;refine RGoH.skip [21] ?_;refine RGoH.nil (by kernel_rfl) (by kernel_rfl) (by kernel_rfl) ?_;refine HC.step [(13,.ptr a.A 0 0),(15,AX ent),(19,AD false d)] ⟨rfl,rfl,rfl,rfl,rfl,rfl,trivial⟩ λT F=>?_
   refine DB F (h:=hp) (k:=λb hb=>?_);refine AOps.nil ⟨rfl,_,_,⟨λd v h=>h,.refl _⟩,?_⟩;refine HC.step [(20,iA err)] ⟨rfl,rfl,trivial⟩ λT2 F2=>?_
   (repeat refine WO ?_);refine AOps.nil ⟨rfl,_,_,⟨λd v h=>h,.refl _⟩,?_⟩;refine HC.step [(21,bA (decide (err=0)))] ⟨rfl,rfl,trivial⟩ λT3 F3=>?_
   (repeat refine WO ?_);refine AOps.nil ⟨rfl,_,_,⟨λd v h=>h,.refl _⟩,?_⟩;show andThen _ _ _ _
   refine FL ?_;refine RT ?_;exact AS [AX ⟨0,0⟩,bA (decide (err=0))] (arS b) ⟨b,⟨by rw[<-herr];rw[<-herr]at hb;exact hb.1,hb.2⟩,rfl,rfl⟩
  ·cases hc
 rw[if_neg (of_decide_eq_false h0)]at hr hc;refine FL ?_;refine RG ?_;(repeat first|refine WO ?_|refine Ai λX=>?_|refine Ay λY=>?_);refine NL ?_;refine AWP.cond rfl (λh1=>?_) (λh1=>?_)
 ·rw[if_pos (of_decide_eq_true h1)]at hr hc
  have hk:0<=kind/\kind<w.kinds.length:=by
   split at hc
   ·cases hc
   ·omega
  have h16:=(BL h.wok.ks).1;have hp:=QD h ent kind hn ⟨by omega,by omega⟩;subst hr;refine FL ?_;refine RG ?_;(repeat first|(refine AOps.gN ?_;first|refine DB [_] (h:=hp) (k:=λb hb=>?_))|refine WO ?_|refine Ai λX=>?_|refine Ay λY=>?_);refine NL ?_;refine FL ?_;refine RT ?_;exact AS [AX ⟨0,0⟩,bA _] (arS b) ⟨b,hb,rfl,rfl⟩
 rw[if_neg (of_decide_eq_false h1)]at hr hc;refine FL ?_;refine RG ?_;(repeat first|refine WO ?_|refine Ai λX=>?_|refine Ay λY=>?_);refine NL ?_;refine AWP.cond rfl (λh2=>?_) (λh2=>?_)
 ·rw[if_pos (of_decide_eq_true h2)]at hr hc
  have hp:=Pm h ent hn;subst hr;refine FL ?_;refine RG ?_;(repeat first|(refine AOps.gN ?_;first|refine Hr [_] (h:=hp) (k:=λb hb=>?_))|refine WO ?_|refine Ai λX=>?_|refine Ay λY=>?_);refine NL ?_;refine FL ?_;refine RT ?_;exact AS [AX ⟨0,0⟩,bA _] (arS b) ⟨b,hb,rfl,rfl⟩
 rw[if_neg (of_decide_eq_false h2)]at hr hc;have hp:=NM a w h h12 comps hl;subst hr;refine FL ?_;refine RG ?_;(repeat first|(refine AOps.gN ?_;first|refine Hr [_] (h:=hp) (k:=λb hb=>?_))|refine WO ?_|refine Ai λV=>?_|refine Ay λY=>?_);refine NL ?_;refine FL ?_;refine RG ?_;(repeat first|refine WO ?_|refine Ai λX=>?_|refine Ay λY=>?_);refine NL ?_;refine RT ?_;exact AS [AX _,bA _] (arS b) ⟨b,hb,rfl,rfl⟩
section
open Go.Sort
set_option maxHeartbeats 1000000 in
theorem RL(f:FuncId)(cap:List AV)(cf:Item->Item->Int)(hst:Bm cap=true)(hcf:∀x y,PS Tryz.prog f ((AA false) x::(AA false) y::cap) (iA (cf x y)))(X n:Nat)(d:Array Item)(a b:Nat)(hn:n=d.size)(hab:a<=b)(hb:b<=d.size)(hz:d.size<=1099511627776):PO Tryz.prog 212 [.sl X 0 n,iA a,iA b,.fn f cap] X (.row 71 3 (d.toList.map (AA false))) (.tup []) (.row 71 3 ((insertionSort (AI cf) d a b).toList.map (AA false))):=by
 obtain⟨r,hr⟩:∃r,insertionSort (AI cf) d a b=r:=⟨_,rfl⟩;rw[hr];unfold insertionSort at hr;refine Spec.of (nt:=53) (res:=[]) Tryz.func212 rfl (by kernel_rfl) rfl rfl rfl λSf=>?_
 (repeat first|refine WK ?_|refine Ai λX=>?_|refine Ay λY=>?_);refine BI (λ(i:Nat) (e:Array Item)=>⟨[(0,.sl X 0 n),(1,iA a),(2,iA b),(3,.fn f cap),(8,iA i)],(X,.row 71 3 (e.toList.map (AA false)))::Sf⟩) (λi e=>i<=max b (a+1)/\a<i/\e.size=d.size/\insOuter (AI cf) a b i e=r) (λi _=>b-i) (a+1) d ⟨by omega,by omega,rfl,hr⟩ ?_;rintro i e ⟨hi,hai,he,hfold⟩;rw[insOuter]at hfold;(repeat first|refine WK ?_|refine Ai λX=>?_|refine Ay λY=>?_);refine AWP.cond rfl (λhc=>?_) (λhc=>?_)
 ·have h:i<b:=by have:=of_decide_eq_true hc;omega
  rw[if_pos h]at hfold;(repeat first|refine WK ?_|refine Ai λX=>?_|refine Ay λY=>?_);refine BI (λ(j:Nat) (u:Array Item)=>⟨[(0,.sl X 0 n),(1,iA a),(2,iA b),(3,.fn f cap),(8,iA i),(9,iA j)],(X,.row 71 3 (u.toList.map (AA false)))::Sf⟩) (λj u=>j<=i/\u.size=d.size/\insInner (AI cf) a j u=insInner (AI cf) a i e) (λj _=>j) i e ⟨Nat.le_refl _,he,rfl⟩ ?_;rintro j u ⟨hj,hu,hin⟩;rcases Bool.eq_false_or_eq_true (decide ((a:Int)<(j:Int)))with g|g
  ·have hja:a<j:=by have:=of_decide_eq_true g;omega
   obtain⟨q,rfl⟩:∃q,j=q+1:=⟨j-1,by omega⟩;have h1:=Af (AA false) (d:=u) (i:=q+1) (by omega);have h2:=Af (AA false) (d:=u) (i:=q) (by omega);have hl:=hcf (u[q+1]!) (u[q]!);rw[insInner]at hin;(repeat refine WF ?_);refine RU ?_;(repeat first|(refine RGo.gN ?_;first|(refine RGo.g_callv ?_;first|refine RGo.k2 (h:=(hl ..)) (k:=?_))|refine RGo.go (h:=AZ (q:Int) (by omega) (by omega) rfl rfl) (k:=?_))|(refine RGo.gQ ?_;first|(refine RGo.g_callv ?_;first|refine RGo.k2 (h:=(hl ..)) (k:=?_))|refine RGo.go (h:=AZ (q:Int) (by omega) (by omega) rfl rfl) (k:=?_))|refine RK ?_|refine RGo.nil (by kernel_rfl) ?_);(repeat refine WF ?_);refine AWP.cond rfl (λhd=>?_) (λhd=>?_)
   ·have hd:(AI cf) u[q+1]! u[q]! =true:=by simpa[g,AI]using hd
    rw[hd,if_pos (by simp;omega)]at hin;obtain⟨y,hy⟩:=Bp (AA false) (d:=u) (i:=q+1) (j:=q) (by omega) u[q]!;(repeat refine WF ?_);refine RU ?_;(repeat first|(refine RGo.gN ?_;first|refine RGo.go (h:=AZ (q:Int) (by omega) (by omega) rfl rfl) (k:=?_)|refine RGo.s (W.store rfl rfl (by exact At.f) hy (by exact rfl)) rfl ?_)|(refine RGo.gQ ?_;first|refine RGo.go (h:=AZ (q:Int) (by omega) (by omega) rfl rfl) (k:=?_)|refine RGo.s (W.store rfl rfl (by exact At.f) hy (by exact rfl)) rfl ?_)|refine RK ?_|refine RGo.nil (by kernel_rfl) ?_);(repeat first|(refine AOps.gN ?_;first|refine AOps.p (AZ (q:Int) (by omega) (by omega) rfl rfl) rfl ?_)|refine WK ?_|refine Ai λX=>?_|refine Ay λY=>?_);refine Ak q (swp u (q+1) q) ⟨by omega,by rw[size_swp];exact hu,hin⟩ (h0:=by rw[<-CE (AA false) (by omega) (by omega)];exact⟨by exact Lk.f,by exact Sub.f⟩)
   ·have hd:(AI cf) u[q+1]! u[q]! =false:=by simpa[g,AI]using hd
    rw[hd,if_neg (by simp)]at hin;(repeat first|refine WK ?_|refine Ai λX=>?_|refine Ay λY=>?_);refine Ak (i+1) u ⟨by omega,by omega,hu,by rw[hin];exact hfold⟩
  ·have hja:j<=a:=by have:=of_decide_eq_false g;omega
   have hin2:insInner (AI cf) a j u=u:=by
    cases j with
    |zero=>rfl
    |succ q=>rw[insInner,if_neg (by simp;omega)]
   rw[hin2]at hin;(repeat refine WF ?_);refine RU ?_;(repeat first|refine RK ?_|refine RGo.nil (by kernel_rfl) ?_);(repeat refine WF ?_);refine AE rfl (by simp[g]) ?_;(repeat first|refine WK ?_|refine Ai λX=>?_|refine Ay λY=>?_);refine Ak (i+1) u ⟨by omega,by omega,hu,by rw[hin];exact hfold⟩
 ·have h:¬i<b:=by have:=of_decide_eq_false hc;omega
  rw[if_neg h]at hfold;subst hfold;(repeat first|refine WK ?_|refine Ai λX=>?_|refine Ay λY=>?_);refine DX ?_;exact BO [(X,.row 71 3 (e.toList.map (AA false)))] ⟨rfl,rfl⟩
end
section
open Go.Sort
set_option maxHeartbeats 1000000 in
theorem K6(f:FuncId)(cap:List AV)(cf:Item->Item->Int)(hst:Bm cap=true)(hcf:∀x y,PS Tryz.prog f ((AA false) x::(AA false) y::cap) (iA (cf x y)))(X n:Nat)(d:Array Item)(lo hi first:Nat)(hn:n=d.size)(hb:first+hi<=d.size)(hlo:lo<=1099511627776)(hz:d.size<=1099511627776):PO Tryz.prog 262 [.sl X 0 n,iA lo,iA hi,iA first,.fn f cap] X (.row 71 3 (d.toList.map (AA false))) (.tup []) (.row 71 3 ((siftDown (AI cf) hi first lo d).toList.map (AA false))):=by
 obtain⟨r,hr⟩:∃r,siftDown (AI cf) hi first lo d=r:=⟨_,rfl⟩
 rw[hr];refine Spec.of (nt:=82) (res:=[]) Tryz.func262 rfl (by kernel_rfl) rfl rfl rfl λSf=>?_
 (repeat first|refine WK ?_|refine Ai λX=>?_|refine Ay λY=>?_);refine BI (λ(root:Nat) (u:Array Item)=>⟨[(0,.sl X 0 n),(2,iA hi),(3,iA first),(4,.fn f cap),(10,iA root)],(X,.row 71 3 (u.toList.map (AA false)))::Sf⟩) (λroot u=>root<=max hi lo/\u.size=d.size/\siftDown (AI cf) hi first root u=r) (λroot _=>hi-root) lo d ⟨by omega,rfl,hr⟩ ?_;rintro root u ⟨hro,hu,hfold⟩;rw[siftDown]at hfold;(repeat first|(refine AOps.gN ?_;first|refine AOps.p (G7 ((2*root:Nat):Int) (by omega) (by omega) rfl rfl) rfl ?_|refine AOps.p (Ap (((2*root+1:Nat):Int)) (by omega) (by omega) rfl rfl) rfl ?_)|refine WK ?_|refine Ai λX=>?_|refine Ay λY=>?_);refine AWP.cond rfl (λhc=>?_) (λhc=>?_)
 ·have h:2*root+1>=hi:=by have:=of_decide_eq_true hc;omega
  rw[dif_pos h]at hfold;subst hfold;(repeat first|refine WK ?_|refine Ai λX=>?_|refine Ay λY=>?_);refine DX ?_;exact BO [(X,.row 71 3 (u.toList.map (AA false)))] ⟨rfl,rfl⟩
 have h:¬2*root+1>=hi:=by have:=of_decide_eq_false hc;omega
 rw[dif_neg h]at hfold;refine AWP.skip ?_;refine Bc ?_;refine AWP.seq ?_;refine BG (λc:Nat=>c<hi/\root<c/\(if !(AI cf) u[first+root]! u[first+c]! then u else siftDown (AI cf) hi first c (swp u (first+root) (first+c)))=r) (λc=>⟨[(0,.sl X 0 n),(2,iA hi),(3,iA first),(4,.fn f cap),(10,iA root),(11,iA c)],(X,.row 71 3 (u.toList.map (AA false)))::Sf⟩) ?_ ?_
 ·rcases Bool.eq_false_or_eq_true (decide (((2*root+1+1:Nat):Int)<(hi:Int)))with g|g
  ·have hg:2*root+1+1<hi:=by have:=of_decide_eq_true g;omega
   have h1:=Af (AA false) (d:=u) (i:=first+(2*root+1)) (by omega);have h2:=Af (AA false) (d:=u) (i:=first+(2*root+1)+1) (by omega);have hl:=hcf (u[first+(2*root+1)]!) (u[first+(2*root+1)+1]!);refine RU ?_;(repeat first|(refine RGo.gN ?_;first|(refine RGo.g_callv ?_;first|refine RGo.k2 (h:=(hl ..)) (k:=?_))|refine RGo.go (h:=Ap (((2*root+1+1:Nat):Int)) (by omega) (by omega) rfl rfl) (k:=?_)|refine RGo.go (h:=Ap (((first+(2*root+1):Nat):Int)) (by omega) (by omega) rfl rfl) (k:=?_)|refine RGo.go (h:=Ap (((first+(2*root+1)+1:Nat):Int)) (by omega) (by omega) rfl rfl) (k:=?_))|(refine RGo.gQ ?_;first|(refine RGo.g_callv ?_;first|refine RGo.k2 (h:=(hl ..)) (k:=?_))|refine RGo.go (h:=Ap (((2*root+1+1:Nat):Int)) (by omega) (by omega) rfl rfl) (k:=?_)|refine RGo.go (h:=Ap (((first+(2*root+1):Nat):Int)) (by omega) (by omega) rfl rfl) (k:=?_)|refine RGo.go (h:=Ap (((first+(2*root+1)+1:Nat):Int)) (by omega) (by omega) rfl rfl) (k:=?_))|refine RK ?_|refine RGo.nil (by kernel_rfl) ?_);(repeat refine WF ?_);refine AWP.cond rfl (λhd=>?_) (λhd=>?_)
   ·have hd:(AI cf) u[first+(2*root+1)]! u[first+(2*root+1)+1]! =true:=by simpa[g,AI]using hd
    rw[hd,if_pos (by simp;omega)]at hfold;(repeat first|(refine AOps.gN ?_;first|refine AOps.p (Ap (((2*root+2:Nat):Int)) (by omega) (by omega) rfl rfl) rfl ?_)|refine WK ?_|refine Ai λX=>?_|refine Ay λY=>?_);refine jn (2*root+2) ⟨by omega,by omega,?_⟩;split at hfold
    ·rename_i hx;rw[if_pos hx];exact hfold
    ·rename_i hx;rw[if_neg hx];first|exact hfold|(rw[dif_pos (by omega)]at hfold;exact hfold)
   ·have hd:(AI cf) u[first+(2*root+1)]! u[first+(2*root+1)+1]! =false:=by simpa[g,AI]using hd
    rw[hd,if_neg (by simp)]at hfold;(repeat first|refine WK ?_|refine Ai λX=>?_|refine Ay λY=>?_);exact jn (2*root+1) ⟨by omega,by omega,hfold⟩
  ·have hg:¬2*root+1+1<hi:=by have:=of_decide_eq_false g;omega
   rw[if_neg (by simp[hg])]at hfold;refine RU ?_;(repeat first|(refine RGo.gN ?_;first|refine RGo.go (h:=Ap (((2*root+1+1:Nat):Int)) (by omega) (by omega) rfl rfl) (k:=?_))|(refine RGo.gQ ?_;first|refine RGo.go (h:=Ap (((2*root+1+1:Nat):Int)) (by omega) (by omega) rfl rfl) (k:=?_))|refine RK ?_|refine RGo.nil (by kernel_rfl) ?_);(repeat refine WF ?_);refine AE rfl (by simp[g]) ?_;(repeat first|refine WK ?_|refine Ai λX=>?_|refine Ay λY=>?_);exact jn (2*root+1) ⟨by omega,by omega,hfold⟩
 ·rintro c ⟨hch,hrc,hfold⟩
  have h1:=Af (AA false) (d:=u) (i:=first+root) (by omega);have h2:=Af (AA false) (d:=u) (i:=first+c) (by omega);have hl:=hcf (u[first+root]!) (u[first+c]!);(repeat refine WF ?_);refine RU ?_;(repeat first|(refine RGo.gN ?_;first|(refine RGo.g_callv ?_;first|refine RGo.k2 (h:=(hl ..)) (k:=?_))|refine RGo.go (h:=Ap (((first+root:Nat):Int)) (by omega) (by omega) rfl rfl) (k:=?_)|refine RGo.go (h:=Ap (((first+c:Nat):Int)) (by omega) (by omega) rfl rfl) (k:=?_))|(refine RGo.gQ ?_;first|(refine RGo.g_callv ?_;first|refine RGo.k2 (h:=(hl ..)) (k:=?_))|refine RGo.go (h:=Ap (((first+root:Nat):Int)) (by omega) (by omega) rfl rfl) (k:=?_)|refine RGo.go (h:=Ap (((first+c:Nat):Int)) (by omega) (by omega) rfl rfl) (k:=?_))|refine RK ?_|refine RGo.nil (by kernel_rfl) ?_);(repeat refine WF ?_);refine AWP.cond rfl (λhd=>?_) (λhd=>?_)
  ·have hd:(!(AI cf) u[first+root]! u[first+c]!)=true:=by simpa[AI]using hd
   rw[if_pos hd]at hfold;subst hfold;refine RT ?_;exact BO [(X,.row 71 3 (u.toList.map (AA false)))] ⟨rfl,rfl⟩
  ·have hd:(!(AI cf) u[first+root]! u[first+c]!)=false:=by simpa[AI]using hd
   rw[if_neg (by rw[hd];simp)]at hfold;obtain⟨y,hy⟩:=Bp (AA false) (d:=u) (i:=first+root) (j:=first+c) (by omega) u[first+c]!;(repeat refine WF ?_);refine RU ?_;(repeat first|(refine RGo.gN ?_;first|refine RGo.go (h:=Ap (((first+root:Nat):Int)) (by omega) (by omega) rfl rfl) (k:=?_)|refine RGo.go (h:=Ap (((first+c:Nat):Int)) (by omega) (by omega) rfl rfl) (k:=?_)|refine RGo.s (W.store rfl rfl (by exact At.f) hy (by exact rfl)) rfl ?_)|(refine RGo.gQ ?_;first|refine RGo.go (h:=Ap (((first+root:Nat):Int)) (by omega) (by omega) rfl rfl) (k:=?_)|refine RGo.go (h:=Ap (((first+c:Nat):Int)) (by omega) (by omega) rfl rfl) (k:=?_)|refine RGo.s (W.store rfl rfl (by exact At.f) hy (by exact rfl)) rfl ?_)|refine RK ?_|refine RGo.nil (by kernel_rfl) ?_);(repeat first|refine WK ?_|refine Ai λX=>?_|refine Ay λY=>?_);refine Ak c (swp u (first+root) (first+c)) ⟨by omega,by rw[size_swp];exact hu,hfold⟩ (h0:=by rw[<-CE (AA false) (by omega) (by omega)];exact⟨by exact Lk.f,by exact Sub.f⟩)
set_option maxHeartbeats 1000000 in
theorem C3(lt:Item->Item->Bool)(hi first:Nat):∀(k root:Nat) (d:Array Item),hi-root<=k->(siftDown lt hi first root d).size=d.size
 |0,root,d,h=>by rw[siftDown,dif_pos (by omega)]
 |k+1,root,d,h=>by
  rw[siftDown];split
  ·rfl
  ·split
   ·split
    ·rfl
    ·split
     ·rw[C3 lt hi first k _ _ (by omega),size_swp]
     ·rfl
   ·split
    ·rfl
    ·rw[C3 lt hi first k _ _ (by omega),size_swp]
theorem Pw(f:FuncId)(cap:List AV)(cf:Item->Item->Int)(hst:Bm cap=true)(hcf:∀x y,PS Tryz.prog f ((AA false) x::(AA false) y::cap) (iA (cf x y)))(X n:Nat)(d:Array Item)(a b:Nat)(hn:n=d.size)(hab:a<b)(hb:b<=d.size)(hz:d.size<=1099511627776):PO Tryz.prog 213 [.sl X 0 n,iA a,iA b,.fn f cap] X (.row 71 3 (d.toList.map (AA false))) (.tup []) (.row 71 3 ((heapSort (AI cf) d a b).toList.map (AA false))):=by
 obtain⟨r,hr⟩:∃r,heapSort (AI cf) d a b=r:=⟨_,rfl⟩;rw[hr];unfold heapSort at hr;obtain⟨m,hm⟩:∃m,b-a=m:=⟨_,rfl⟩;rw[hm]at hr;refine Spec.of (nt:=60) (res:=[]) Tryz.func213 rfl (by kernel_rfl) rfl rfl rfl λSf=>?_
 (repeat first|(refine AOps.gN ?_;first|refine AOps.p (AZ ((m:Int)) (by omega) (by omega) rfl rfl) rfl ?_|refine AOps.p (AZ (((m-1:Nat):Int)) (by omega) (by omega) rfl rfl) rfl ?_|refine AOps.p (I5 (m-1) 2 ((m-1)/2) rfl rfl (by omega) rfl (by omega) rfl rfl) rfl ?_)|refine WK ?_|refine Ai λX=>?_|refine Ay λY=>?_);refine BI (λ(k:Nat) (u:Array Item)=>⟨[(0,.sl X 0 n),(3,.fn f cap),(8,iA a),(9,iA 0),(10,iA m),(11,iA ((k:Int)-1))],(X,.row 71 3 (u.toList.map (AA false)))::Sf⟩) (λk u=>k<=m/\u.size=d.size/\heapPop (AI cf) a m (heapBuild (AI cf) m a k u)=r) (λk _=>k) ((m-1)/2+1) d ⟨by omega,rfl,hr⟩ ?_ (h0:=by rw[show((((m-1)/2+1:Nat):Int)-1)=(((m-1)/2:Nat):Int) by omega];exact⟨by exact Lk.f,by exact Sub.f⟩);rintro k u ⟨hk,hu,hfold⟩;(repeat first|refine WK ?_|refine Ai λX=>?_|refine Ay λY=>?_);refine AWP.cond rfl (λhc=>?_) (λhc=>?_)
 ·obtain⟨q,rfl⟩:∃q,k=q+1:=⟨k-1,by have:=of_decide_eq_true hc;omega⟩
  rw[heapBuild]at hfold;have hs:=K6 f cap cf hst hcf X n u q m a (by omega) (by omega) (by omega) (by omega);have hsz:=C3 (AI cf) m a _ q u (Nat.le_refl _);rw[show(((q+1:Nat):Int)-1)=(q:Int) by omega];(repeat first|(refine AOps.gN ?_;first|(refine AOps.g_callf ?_;first|refine Ga (h:=(hs ..)) (k:=?_))|refine AOps.p (AZ ((q:Int)-1) (by omega) (by omega) rfl rfl) rfl ?_)|refine WK ?_|refine Ai λX=>?_|refine Ay λY=>?_);exact Ak q (siftDown (AI cf) m a q u) ⟨by omega,by omega,hfold⟩
 ·obtain rfl:k=0:=by have:=of_decide_eq_false hc;omega
  rw[heapBuild]at hfold;(repeat first|(refine AOps.gN ?_;first|refine AOps.p (AZ ((m:Int)-1) (by omega) (by omega) rfl rfl) rfl ?_)|refine WK ?_|refine Ai λX=>?_|refine Ay λY=>?_);clear hc hk;refine BI (λ(k:Nat) (u:Array Item)=>⟨[(0,.sl X 0 n),(3,.fn f cap),(8,iA a),(9,iA 0),(10,iA m),(12,iA ((k:Int)-1))],(X,.row 71 3 (u.toList.map (AA false)))::Sf⟩) (λk u=>k<=m/\u.size=d.size/\heapPop (AI cf) a k u=r) (λk _=>k) m u ⟨by omega,hu,hfold⟩ ?_;clear hfold hu;rintro k u ⟨hk,hu,hfold⟩;(repeat first|refine WK ?_|refine Ai λX=>?_|refine Ay λY=>?_);refine AWP.cond rfl (λhc=>?_) (λhc=>?_)
  ·obtain⟨q,rfl⟩:∃q,k=q+1:=⟨k-1,by have:=of_decide_eq_true hc;omega⟩
   rw[heapPop]at hfold;have h1:=Af (AA false) (d:=u) (i:=a) (by omega);have h2:=Af (AA false) (d:=u) (i:=a+q) (by omega);have hs:=K6 f cap cf hst hcf X n (swp u a (a+q)) 0 q a (by rw[size_swp];omega) (by rw[size_swp];omega) (by omega) (by rw[size_swp];omega);have hsz:=C3 (AI cf) q a _ 0 (swp u a (a+q)) (Nat.le_refl _);rw[size_swp]at hsz;rw[show(((q+1:Nat):Int)-1)=(q:Int) by omega];obtain⟨y,hy⟩:=Bp (AA false) (d:=u) (i:=a) (j:=a+q) (by omega) u[a+q]!;have hrow:=CE (AA false) (d:=u) (i:=a) (j:=a+q) (by omega) (by omega);(repeat refine WF ?_);refine RU ?_;(repeat first|(refine RGo.gN ?_;first|refine RGo.go (h:=Ap (((a+q:Nat):Int)) (by omega) (by omega) rfl rfl) (k:=?_)|refine RGo.s (W.store rfl rfl (by exact At.f) hy (by exact rfl)) rfl ?_)|(refine RGo.gQ ?_;first|refine RGo.go (h:=Ap (((a+q:Nat):Int)) (by omega) (by omega) rfl rfl) (k:=?_)|refine RGo.s (W.store rfl rfl (by exact At.f) hy (by exact rfl)) rfl ?_)|refine RK ?_|refine RGo.nil (by kernel_rfl) ?_);refine Kq [(0,.sl X 0 n),(3,.fn f cap),(8,iA a),(9,iA 0),(10,iA m),(12,iA q)] ((X,.row 71 3 ((swp u a (a+q)).toList.map (AA false)))::Sf) ?_ (h:=by rw[<-hrow];exact⟨by exact Lk.f,by exact Sub.f⟩);(repeat first|(refine AOps.gN ?_;first|(refine AOps.g_callf ?_;first|refine Ga (h:=(hs ..)) (k:=?_))|refine AOps.p (AZ ((q:Int)-1) (by omega) (by omega) rfl rfl) rfl ?_)|refine WK ?_|refine Ai λX=>?_|refine Ay λY=>?_);exact Ak q (siftDown (AI cf) q a 0 (swp u a (a+q))) ⟨by omega,by omega,hfold⟩
  ·obtain rfl:k=0:=by have:=of_decide_eq_false hc;omega
   rw[heapPop]at hfold;subst hfold;(repeat first|refine WK ?_|refine Ai λX=>?_|refine Ay λY=>?_);refine DX ?_;exact BO [(X,.row 71 3 (u.toList.map (AA false)))] ⟨rfl,rfl⟩
set_option maxHeartbeats 1000000 in
theorem Qv{f:FuncId}{cap:List AV}(X n:Nat)(d:Array Item)(a b:Nat)(hn:n=d.size)(hab:a<b)(hb:b<=d.size)(hz:d.size<=1099511627776):PO Tryz.prog 216 [.sl X 0 n,iA a,iA b,.fn f cap] X (.row 71 3 (d.toList.map (AA false))) (.tup []) (.row 71 3 ((reverseRange d a b).toList.map (AA false))):=by
 obtain⟨r,hr⟩:∃r,reverseRange d a b=r:=⟨_,rfl⟩;rw[hr];unfold reverseRange at hr;refine Spec.of (nt:=34) (res:=[]) Tryz.func216 rfl (by kernel_rfl) rfl rfl rfl λSf=>?_
 (repeat first|(refine AOps.gN ?_;first|refine AOps.p (AZ (((b-1:Nat):Int)) (by omega) (by omega) rfl rfl) rfl ?_)|refine WK ?_|refine Ai λX=>?_|refine Ay λY=>?_);refine DR (λ(i j:Nat) (u:Array Item)=>⟨[(0,.sl X 0 n),(8,iA i),(9,iA j)],(X,.row 71 3 (u.toList.map (AA false)))::Sf⟩) (λi j u=>i<=d.size/\j<d.size/\u.size=d.size/\reverseLoop i j u=r) (λi j _=>j-i) a (b-1) d ⟨by omega,by omega,rfl,hr⟩ ?_;rintro i j u ⟨hi,hj,hu,hfold⟩;rw[reverseLoop]at hfold;(repeat first|refine WK ?_|refine Ai λX=>?_|refine Ay λY=>?_);refine AWP.cond rfl (λhc=>?_) (λhc=>?_)
 ·have h:i<j:=by have:=of_decide_eq_true hc;omega
  rw[if_pos h]at hfold;have h1:=Af (AA false) (d:=u) (i:=i) (by omega);have h2:=Af (AA false) (d:=u) (i:=j) (by omega);obtain⟨y,hy⟩:=Bp (AA false) (d:=u) (i:=i) (j:=j) (by omega) u[j]!;(repeat refine WF ?_);refine RU ?_;(repeat first|(refine RGo.gN ?_;first|refine RGo.s (W.store rfl rfl (by exact At.f) hy (by exact rfl)) rfl ?_)|(refine RGo.gQ ?_;first|refine RGo.s (W.store rfl rfl (by exact At.f) hy (by exact rfl)) rfl ?_)|refine RK ?_|refine RGo.nil (by kernel_rfl) ?_);(repeat first|(refine AOps.gN ?_;first|refine AOps.p (AZ (((j-1:Nat):Int)) (by omega) (by omega) rfl rfl) rfl ?_)|refine WK ?_|refine Ai λX=>?_|refine Ay λY=>?_);refine B6 (i+1) (j-1) (swp u i j) ⟨by omega,by omega,by rw[size_swp];exact hu,hfold⟩ (h0:=by rw[<-CE (AA false) (by omega) (by omega)];exact⟨by exact Lk.f,by exact Sub.f⟩)
 ·have h:¬i<j:=by have:=of_decide_eq_false hc;omega
  rw[if_neg h]at hfold;subst hfold;(repeat first|refine WK ?_|refine Ai λX=>?_|refine Ay λY=>?_);refine DX ?_;exact BO [(X,.row 71 3 (u.toList.map (AA false)))] ⟨rfl,rfl⟩
end
section
open Go.Sort
set_option maxHeartbeats 1000000 in
theorem Fi(p:Item->Bool)(d:Array Item)(j i:Nat):scanUp p d j i<=max i (j+1):=by
 obtain⟨m,hm⟩:∃m,j+1-i=m:=⟨_,rfl⟩
 induction m generalizing i with
 |zero=>rw[scanUp,if_neg (λe=>by rw[Bool.and_eq_true]at e;have:=of_decide_eq_true e.1;omega)];omega
 |succ m ih=>
  rw[scanUp];split
  ·have:=ih (i+1) (by omega)
   omega
  ·omega
theorem Q4(f:FuncId)(cap:List AV)(cf:Item->Item->Int)(hst:Bm cap=true)(hcf:∀x y,PS Tryz.prog f ((AA false) x::(AA false) y::cap) (iA (cf x y)))(X n:Nat)(d:Array Item)(a b pivot:Nat)(hn:n=d.size)(ha:a<=pivot)(hp:pivot<b)(hb:b<=d.size)(hz:d.size<=1099511627776):PO Tryz.prog 218 [.sl X 0 n,iA a,iA b,iA pivot,.fn f cap] X (.row 71 3 (d.toList.map (AA false))) (iA (partitionEqual (AI cf) d a b pivot).1) (.row 71 3 ((partitionEqual (AI cf) d a b pivot).2.toList.map (AA false))):=by
 obtain⟨r,hr⟩:∃r,partitionEqual (AI cf) d a b pivot=r:=⟨_,rfl⟩;rw[hr];unfold partitionEqual at hr;refine Spec.of (nt:=90) (res:=[.tmp 10]) Tryz.func218 rfl (by kernel_rfl) rfl rfl rfl λSf=>?_
 have h1:=Af (AA false) (d:=d) (i:=a) (by omega);have h2:=Af (AA false) (d:=d) (i:=pivot) (by omega);obtain⟨y,hy⟩:=Bp (AA false) (d:=d) (i:=a) (j:=pivot) (by omega) d[pivot]!;refine RG ?_;(repeat first|refine WO ?_|refine Ai λX=>?_|refine Ay λY=>?_);refine NL ?_;refine RU ?_;(repeat first|(refine RGo.gN ?_;first|refine RGo.s (W.store rfl rfl (by exact At.f) hy (by exact rfl)) rfl ?_)|(refine RGo.gQ ?_;first|refine RGo.s (W.store rfl rfl (by exact At.f) hy (by exact rfl)) rfl ?_)|refine RK ?_|refine RGo.nil (by kernel_rfl) ?_);(repeat first|(refine AOps.gN ?_;first|refine AOps.p (AZ (((b-1:Nat):Int)) (by omega) (by omega) rfl rfl) rfl ?_)|refine WK ?_|refine Ai λX=>?_|refine Ay λY=>?_);refine DR (λ(i j:Nat) (u:Array Item)=>⟨[(0,.sl X 0 n),(1,iA a),(4,.fn f cap),(11,iA i),(12,iA j)],(X,.row 71 3 (u.toList.map (AA false)))::Sf⟩) (λi j u=>a<i/\i<=j+2/\j<b/\u.size=d.size/\partEqLoop (AI cf) a i j u=r) (λi j _=>j+1-i) (a+1) (b-1) (swp d a pivot) ⟨by omega,by omega,by omega,by rw[size_swp],hr⟩ ?_ (h0:=by rw[<-CE (AA false) (by omega) (by omega)];exact⟨by exact Lk.f,by exact Sub.f⟩);rintro i j u ⟨hai,hij,hjb,hu,hfold⟩;rw[partEqLoop_eq]at hfold;obtain⟨i2,hi2⟩:∃i2,scanUp (λx=>!(AI cf) u[a]! x) u j i=i2:=⟨_,rfl⟩;rw[hi2]at hfold;obtain⟨j2,hj2⟩:∃j2,scanDown (λx=>(AI cf) u[a]! x) u i2 j=j2:=⟨_,rfl⟩;rw[hj2]at hfold;have hge:=scanUp_ge (λx=>!(AI cf) u[a]! x) u j i;have hle:=scanDown_le (λx=>(AI cf) u[a]! x) u i2 j;rw[hi2]at hge;rw[hj2]at hle;have hge2:i2<=max i (j+1):=by rw[<-hi2];exact Fi _ _ _ _
 refine AWP.block ?_
 (repeat (first|refine AWP.skip ?_|refine Bc ?_|refine AWP.seq ?_))
 refine BG (λk:Nat=>k=i2) (λk=>⟨[(0,.sl X 0 n),(1,iA a),(4,.fn f cap),(11,iA k),(12,iA j)],(X,.row 71 3 (u.toList.map (AA false)))::Sf⟩) ?_ ?_
 ·refine AWP.block ?_
  refine BP (λ(k:Nat)=>⟨[(0,.sl X 0 n),(1,iA a),(4,.fn f cap),(11,iA k),(12,iA j)],(X,.row 71 3 (u.toList.map (AA false)))::Sf⟩) (λk=>i<=k/\k<=max i (j+1)/\scanUp (λx=>!(AI cf) u[a]! x) u j k=i2) (λk=>j+1-k) i ⟨Nat.le_refl _,by omega,hi2⟩ ?_;rintro k ⟨hk1,hk2,hk⟩;rw[scanUp]at hk;rcases Bool.eq_false_or_eq_true (decide ((k:Int)<=(j:Int)))with g|g
  ·have hg:k<=j:=by have:=of_decide_eq_true g;omega
   have h1:=Af (AA false) (d:=u) (i:=k) (by omega);have h2:=Af (AA false) (d:=u) (i:=a) (by omega);have hl:=hcf (u[a]!) (u[k]!);(repeat refine WF ?_);refine RU ?_;(repeat first|(refine RGo.gN ?_;first|(refine RGo.g_callv ?_;first|refine RGo.k2 (h:=(hl ..)) (k:=?_)))|(refine RGo.gQ ?_;first|(refine RGo.g_callv ?_;first|refine RGo.k2 (h:=(hl ..)) (k:=?_)))|refine RK ?_|refine RGo.nil (by kernel_rfl) ?_);(repeat refine WF ?_);refine AWP.cond rfl (λhd=>?_) (λhd=>?_)
   ·have hd:(!(AI cf) u[a]! u[k]!)=true:=by simpa[g,AI]using hd
    rw[if_pos (by rw[Bool.and_eq_true];exact⟨decide_eq_true (by omega),hd⟩)]at hk;(repeat first|refine WK ?_|refine Ai λX=>?_|refine Ay λY=>?_);exact A7 (k+1) ⟨by omega,by omega,hk⟩
   ·have hd:(!(AI cf) u[a]! u[k]!)=false:=by simpa[g,AI]using hd
    rw[if_neg (λe=>by rw[Bool.and_eq_true]at e;have e2:=e.2;rw[hd]at e2;cases e2)]at hk;(repeat first|refine WK ?_|refine Ai λX=>?_|refine Ay λY=>?_);exact jn k hk
  ·have hg:¬k<=j:=by have:=of_decide_eq_false g;omega
   rw[if_neg (λe=>by rw[Bool.and_eq_true]at e;have:=of_decide_eq_true e.1;omega)]at hk;(repeat refine WF ?_);refine RU ?_;(repeat first|refine RK ?_|refine RGo.nil (by kernel_rfl) ?_);(repeat refine WF ?_);refine AE rfl (by simp[g]) ?_;(repeat first|refine WK ?_|refine Ai λX=>?_|refine Ay λY=>?_);exact jn k hk
 rintro k hk0;rw[hk0];clear hk0 k
 (repeat (first|refine AWP.skip ?_|refine Bc ?_|refine AWP.seq ?_))
 refine BG (λk:Nat=>k=j2) (λk=>⟨[(0,.sl X 0 n),(1,iA a),(4,.fn f cap),(11,iA i2),(12,iA k)],(X,.row 71 3 (u.toList.map (AA false)))::Sf⟩) ?_ ?_
 ·refine AWP.block ?_
  refine BP (λ(k:Nat)=>⟨[(0,.sl X 0 n),(1,iA a),(4,.fn f cap),(11,iA i2),(12,iA k)],(X,.row 71 3 (u.toList.map (AA false)))::Sf⟩) (λk=>k<=j/\scanDown (λx=>(AI cf) u[a]! x) u i2 k=j2) (λk=>k) j ⟨Nat.le_refl _,hj2⟩ ?_;rintro k ⟨hk1,hk⟩;rcases Bool.eq_false_or_eq_true (decide ((i2:Int)<=(k:Int)))with g|g
  ·have hg:i2<=k:=by have:=of_decide_eq_true g;omega
   obtain⟨q,rfl⟩:∃q,k=q+1:=⟨k-1,by omega⟩;rw[scanDown]at hk;have h1:=Af (AA false) (d:=u) (i:=q+1) (by omega);have h2:=Af (AA false) (d:=u) (i:=a) (by omega);have hl:=hcf (u[a]!) (u[q+1]!);(repeat refine WF ?_);refine RU ?_;(repeat first|(refine RGo.gN ?_;first|(refine RGo.g_callv ?_;first|refine RGo.k2 (h:=(hl ..)) (k:=?_)))|(refine RGo.gQ ?_;first|(refine RGo.g_callv ?_;first|refine RGo.k2 (h:=(hl ..)) (k:=?_)))|refine RK ?_|refine RGo.nil (by kernel_rfl) ?_);(repeat refine WF ?_);refine AWP.cond rfl (λhd=>?_) (λhd=>?_)
   ·have hd:((AI cf) u[a]! u[q+1]!)=true:=by simpa[g,AI]using hd
    rw[if_pos (by rw[Bool.and_eq_true];exact⟨decide_eq_true (by omega),hd⟩)]at hk;(repeat first|(refine AOps.gN ?_;first|refine AOps.p (AZ ((q:Int)) (by omega) (by omega) rfl rfl) rfl ?_)|refine WK ?_|refine Ai λX=>?_|refine Ay λY=>?_);exact A7 q ⟨by omega,hk⟩
   ·have hd:((AI cf) u[a]! u[q+1]!)=false:=by simpa[g,AI]using hd
    rw[if_neg (λe=>by rw[Bool.and_eq_true]at e;have e2:=e.2;rw[hd]at e2;cases e2)]at hk;(repeat first|refine WK ?_|refine Ai λX=>?_|refine Ay λY=>?_);exact jn (q+1) hk
  ·have hg:¬i2<=k:=by have:=of_decide_eq_false g;omega
   have hk3:scanDown (λx=>(AI cf) u[a]! x) u i2 k=k:=by
    cases k with
    |zero=>rfl
    |succ q=>rw[scanDown,if_neg (λe=>by rw[Bool.and_eq_true]at e;have:=of_decide_eq_true e.1;omega)]
   rw[hk3]at hk;(repeat refine WF ?_);refine RU ?_;(repeat first|refine RK ?_|refine RGo.nil (by kernel_rfl) ?_);(repeat refine WF ?_);refine AE rfl (by simp[g]) ?_;(repeat first|refine WK ?_|refine Ai λX=>?_|refine Ay λY=>?_);exact jn k hk
 rintro k hk0;rw[hk0];clear hk0 k;(repeat first|refine WK ?_|refine Ai λX=>?_|refine Ay λY=>?_);refine AWP.cond rfl (λhc=>?_) (λhc=>?_)
 ·have h:i2>j2:=by have:=of_decide_eq_true hc;omega
  rw[if_pos h]at hfold;subst hfold;(repeat first|refine WK ?_|refine Ai λX=>?_|refine Ay λY=>?_);refine RT ?_;exact AS [iA i2] [(X,_)] ⟨rfl,rfl⟩
 ·have h:¬i2>j2:=by have:=of_decide_eq_false hc;omega
  rw[if_neg h]at hfold;have h1:=Af (AA false) (d:=u) (i:=i2) (by omega);have h2:=Af (AA false) (d:=u) (i:=j2) (by omega);obtain⟨y,hy⟩:=Bp (AA false) (d:=u) (i:=i2) (j:=j2) (by omega) u[j2]!;(repeat refine WF ?_);refine RU ?_;(repeat first|(refine RGo.gN ?_;first|refine RGo.s (W.store rfl rfl (by exact At.f) hy (by exact rfl)) rfl ?_)|(refine RGo.gQ ?_;first|refine RGo.s (W.store rfl rfl (by exact At.f) hy (by exact rfl)) rfl ?_)|refine RK ?_|refine RGo.nil (by kernel_rfl) ?_);(repeat first|(refine AOps.gN ?_;first|refine AOps.p (AZ (((j2-1:Nat):Int)) (by omega) (by omega) rfl rfl) rfl ?_)|refine WK ?_|refine Ai λX=>?_|refine Ay λY=>?_);refine B6 (i2+1) (j2-1) (swp u i2 j2) ⟨by omega,by omega,by omega,by rw[size_swp];exact hu,hfold⟩ (h0:=by rw[<-CE (AA false) (by omega) (by omega)];exact⟨by exact Lk.f,by exact Sub.f⟩)
set_option maxHeartbeats 1000000 in
theorem PW(f:FuncId)(cap:List AV)(cf:Item->Item->Int)(hst:Bm cap=true)(hcf:∀x y,PS Tryz.prog f ((AA false) x::(AA false) y::cap) (iA (cf x y)))(X n:Nat)(d:Array Item)(a b pivot:Nat)(hn:n=d.size)(ha:a<=pivot)(hp:pivot<b)(hb:b<=d.size)(hz:d.size<=1099511627776):PO Tryz.prog 219 [.sl X 0 n,iA a,iA b,iA pivot,.fn f cap] X (.row 71 3 (d.toList.map (AA false))) (.tup [iA (partition (AI cf) d a b pivot).1,bA (partition (AI cf) d a b pivot).2.1]) (.row 71 3 ((partition (AI cf) d a b pivot).2.2.toList.map (AA false))):=by
 obtain⟨r,hr⟩:∃r,partition (AI cf) d a b pivot=r:=⟨_,rfl⟩;rw[hr];dsimp only[partition]at hr;refine Spec.of (nt:=178) (res:=[.tmp 10,.tmp 11]) Tryz.func219 rfl (by kernel_rfl) rfl rfl rfl λSf=>?_
 have h1:=Af (AA false) (d:=d) (i:=a) (by omega);have h2:=Af (AA false) (d:=d) (i:=pivot) (by omega);have hrow:=CE (AA false) (d:=d) (i:=a) (j:=pivot) (by omega) (by omega);obtain⟨y,hy⟩:=Bp (AA false) (d:=d) (i:=a) (j:=pivot) (by omega) d[pivot]!;refine RG ?_;(repeat first|refine WO ?_|refine Ai λX=>?_|refine Ay λY=>?_);refine NL ?_;refine RU ?_;(repeat first|(refine RGo.gN ?_;first|refine RGo.s (W.store rfl rfl (by exact At.f) hy (by exact rfl)) rfl ?_)|(refine RGo.gQ ?_;first|refine RGo.s (W.store rfl rfl (by exact At.f) hy (by exact rfl)) rfl ?_)|refine RK ?_|refine RGo.nil (by kernel_rfl) ?_);have hsz:(swp d a pivot).size=d.size:=size_swp _ _ _;obtain⟨u,hu0⟩:∃u,swp d a pivot=u:=⟨_,rfl⟩;rw[hu0]at hr hrow hsz;obtain⟨j,hj⟩:∃j,b-1=j:=⟨_,rfl⟩;obtain⟨i,hi⟩:∃i,a+1=i:=⟨_,rfl⟩;rw[hj,hi]at hr;refine RG ?_;(repeat first|(refine AOps.gN ?_;first|refine AOps.p (AZ ((j:Int)) (by omega) (by omega) rfl rfl) rfl ?_|refine AOps.p (Ap (((i:Nat):Int)) (by omega) (by omega) rfl rfl) rfl ?_)|refine WO ?_|refine Ai λX=>?_|refine Ay λY=>?_);refine NL ?_
 (repeat (first|refine AWP.skip ?_|refine Bc ?_|refine AWP.seq ?_))
 refine Kq [(0,.sl X 0 n),(1,iA a),(4,.fn f cap),(12,iA i),(13,iA j)] ((X,.row 71 3 (u.toList.map (AA false)))::Sf) ?_ (h:=by rw[<-hrow];exact⟨by exact Lk.f,by exact Sub.f⟩);have hu:u.size=d.size:=hsz;have hfold:=hr;obtain⟨i2,hi2⟩:∃i2,scanUp (λx=>(AI cf) x u[a]!) u j i=i2:=⟨_,rfl⟩;rw[hi2]at hfold;obtain⟨j2,hj2⟩:∃j2,scanDown (λx=>!(AI cf) x u[a]!) u i2 j=j2:=⟨_,rfl⟩;rw[hj2]at hfold;have hge:=scanUp_ge (λx=>(AI cf) x u[a]!) u j i;have hle:=scanDown_le (λx=>!(AI cf) x u[a]!) u i2 j;rw[hi2]at hge;rw[hj2]at hle;have hge2:i2<=max i (j+1):=by rw[<-hi2];exact Fi _ _ _ _
 refine BG (λk:Nat=>k=i2) (λk=>⟨[(0,.sl X 0 n),(1,iA a),(4,.fn f cap),(12,iA k),(13,iA j)],(X,.row 71 3 (u.toList.map (AA false)))::Sf⟩) ?_ ?_
 ·refine AWP.block ?_
  refine BP (λ(k:Nat)=>⟨[(0,.sl X 0 n),(1,iA a),(4,.fn f cap),(12,iA k),(13,iA j)],(X,.row 71 3 (u.toList.map (AA false)))::Sf⟩) (λk=>i<=k/\k<=max i (j+1)/\scanUp (λx=>(AI cf) x u[a]!) u j k=i2) (λk=>j+1-k) i ⟨Nat.le_refl _,by omega,hi2⟩ ?_;rintro k ⟨hk1,hk2,hk⟩;rw[scanUp]at hk;rcases Bool.eq_false_or_eq_true (decide ((k:Int)<=(j:Int)))with g|g
  ·have hg:k<=j:=by have:=of_decide_eq_true g;omega
   have h1:=Af (AA false) (d:=u) (i:=k) (by omega);have h2:=Af (AA false) (d:=u) (i:=a) (by omega);have hl:=hcf (u[k]!) (u[a]!);(repeat refine WF ?_);refine RU ?_;(repeat first|(refine RGo.gN ?_;first|(refine RGo.g_callv ?_;first|refine RGo.k2 (h:=(hl ..)) (k:=?_)))|(refine RGo.gQ ?_;first|(refine RGo.g_callv ?_;first|refine RGo.k2 (h:=(hl ..)) (k:=?_)))|refine RK ?_|refine RGo.nil (by kernel_rfl) ?_);(repeat refine WF ?_);refine AWP.cond rfl (λhd=>?_) (λhd=>?_)
   ·have hd:((AI cf) u[k]! u[a]!)=true:=by simpa[g,AI]using hd
    rw[if_pos (by rw[Bool.and_eq_true];exact⟨decide_eq_true (by omega),hd⟩)]at hk;(repeat first|refine WK ?_|refine Ai λX=>?_|refine Ay λY=>?_);exact A7 (k+1) ⟨by omega,by omega,hk⟩
   ·have hd:((AI cf) u[k]! u[a]!)=false:=by simpa[g,AI]using hd
    rw[if_neg (λe=>by rw[Bool.and_eq_true]at e;have e2:=e.2;rw[hd]at e2;cases e2)]at hk;(repeat first|refine WK ?_|refine Ai λX=>?_|refine Ay λY=>?_);exact jn k hk
  ·have hg:¬k<=j:=by have:=of_decide_eq_false g;omega
   rw[if_neg (λe=>by rw[Bool.and_eq_true]at e;have:=of_decide_eq_true e.1;omega)]at hk;(repeat refine WF ?_);refine RU ?_;(repeat first|refine RK ?_|refine RGo.nil (by kernel_rfl) ?_);(repeat refine WF ?_);refine AE rfl (by simp[g]) ?_;(repeat first|refine WK ?_|refine Ai λX=>?_|refine Ay λY=>?_);exact jn k hk
 rintro k hk0;rw[hk0];clear hk0 k
 (repeat (first|refine AWP.skip ?_|refine Bc ?_|refine AWP.seq ?_))
 refine BG (λk:Nat=>k=j2) (λk=>⟨[(0,.sl X 0 n),(1,iA a),(4,.fn f cap),(12,iA i2),(13,iA k)],(X,.row 71 3 (u.toList.map (AA false)))::Sf⟩) ?_ ?_
 ·refine AWP.block ?_
  refine BP (λ(k:Nat)=>⟨[(0,.sl X 0 n),(1,iA a),(4,.fn f cap),(12,iA i2),(13,iA k)],(X,.row 71 3 (u.toList.map (AA false)))::Sf⟩) (λk=>k<=j/\scanDown (λx=>!(AI cf) x u[a]!) u i2 k=j2) (λk=>k) j ⟨Nat.le_refl _,hj2⟩ ?_;rintro k ⟨hk1,hk⟩;rcases Bool.eq_false_or_eq_true (decide ((i2:Int)<=(k:Int)))with g|g
  ·have hg:i2<=k:=by have:=of_decide_eq_true g;omega
   obtain⟨q,rfl⟩:∃q,k=q+1:=⟨k-1,by omega⟩;rw[scanDown]at hk;have h1:=Af (AA false) (d:=u) (i:=q+1) (by omega);have h2:=Af (AA false) (d:=u) (i:=a) (by omega);have hl:=hcf (u[q+1]!) (u[a]!);(repeat refine WF ?_);refine RU ?_;(repeat first|(refine RGo.gN ?_;first|(refine RGo.g_callv ?_;first|refine RGo.k2 (h:=(hl ..)) (k:=?_)))|(refine RGo.gQ ?_;first|(refine RGo.g_callv ?_;first|refine RGo.k2 (h:=(hl ..)) (k:=?_)))|refine RK ?_|refine RGo.nil (by kernel_rfl) ?_);(repeat refine WF ?_);refine AWP.cond rfl (λhd=>?_) (λhd=>?_)
   ·have hd:(!(AI cf) u[q+1]! u[a]!)=true:=by simpa[g,AI]using hd
    rw[if_pos (by rw[Bool.and_eq_true];exact⟨decide_eq_true (by omega),hd⟩)]at hk;(repeat first|(refine AOps.gN ?_;first|refine AOps.p (AZ ((q:Int)) (by omega) (by omega) rfl rfl) rfl ?_)|refine WK ?_|refine Ai λX=>?_|refine Ay λY=>?_);exact A7 q ⟨by omega,hk⟩
   ·have hd:(!(AI cf) u[q+1]! u[a]!)=false:=by simpa[g,AI]using hd
    rw[if_neg (λe=>by rw[Bool.and_eq_true]at e;have e2:=e.2;rw[hd]at e2;cases e2)]at hk;(repeat first|refine WK ?_|refine Ai λX=>?_|refine Ay λY=>?_);exact jn (q+1) hk
  ·have hg:¬i2<=k:=by have:=of_decide_eq_false g;omega
   have hk3:scanDown (λx=>!(AI cf) x u[a]!) u i2 k=k:=by
    cases k with
    |zero=>rfl
    |succ q=>rw[scanDown,if_neg (λe=>by rw[Bool.and_eq_true]at e;have:=of_decide_eq_true e.1;omega)]
   rw[hk3]at hk;(repeat refine WF ?_);refine RU ?_;(repeat first|refine RK ?_|refine RGo.nil (by kernel_rfl) ?_);(repeat refine WF ?_);refine AE rfl (by simp[g]) ?_;(repeat first|refine WK ?_|refine Ai λX=>?_|refine Ay λY=>?_);exact jn k hk
 rintro k hk0;rw[hk0];clear hk0 k;(repeat first|refine WK ?_|refine Ai λX=>?_|refine Ay λY=>?_);refine AWP.cond rfl (λhc=>?_) (λhc=>?_)
 ·have h:i2>j2:=by have:=of_decide_eq_true hc;omega
  rw[if_pos h]at hfold;subst hfold;have h1:=Af (AA false) (d:=u) (i:=j2) (by omega);have h2:=Af (AA false) (d:=u) (i:=a) (by omega);have hrow2:=CE (AA false) (d:=u) (i:=j2) (j:=a) (by omega) (by omega);obtain⟨y,hy⟩:=Bp (AA false) (d:=u) (i:=j2) (j:=a) (by omega) u[a]!;(repeat refine WF ?_);refine RU ?_;(repeat first|(refine RGo.gN ?_;first|refine RGo.s (W.store rfl rfl (by exact At.f) hy (by exact rfl)) rfl ?_)|(refine RGo.gQ ?_;first|refine RGo.s (W.store rfl rfl (by exact At.f) hy (by exact rfl)) rfl ?_)|refine RK ?_|refine RGo.nil (by kernel_rfl) ?_);(repeat first|refine WK ?_|refine Ai λX=>?_|refine Ay λY=>?_);refine RT ?_;exact AS [iA j2,bA true] [(X,_)] ⟨rfl,by rw[<-hrow2]⟩
 have h:¬i2>j2:=by have:=of_decide_eq_false hc;omega
 rw[if_neg h]at hfold;obtain⟨pr,hpr⟩:∃pr,partLoop (AI cf) a (i2+1) (j2-1) (swp u i2 j2)=pr:=⟨_,rfl⟩;rw[hpr]at hfold;have h1:=Af (AA false) (d:=u) (i:=i2) (by omega);have h2:=Af (AA false) (d:=u) (i:=j2) (by omega);clear y hy;obtain⟨y,hy⟩:=Bp (AA false) (d:=u) (i:=i2) (j:=j2) (by omega) u[j2]!;(repeat refine WF ?_);refine RU ?_;(repeat first|(refine RGo.gN ?_;first|refine RGo.s (W.store rfl rfl (by exact At.f) hy (by exact rfl)) rfl ?_)|(refine RGo.gQ ?_;first|refine RGo.s (W.store rfl rfl (by exact At.f) hy (by exact rfl)) rfl ?_)|refine RK ?_|refine RGo.nil (by kernel_rfl) ?_);(repeat first|(refine AOps.gN ?_;first|refine AOps.p (AZ (((j2-1:Nat):Int)) (by omega) (by omega) rfl rfl) rfl ?_)|refine WK ?_|refine Ai λX=>?_|refine Ay λY=>?_);refine DR (λ(i j:Nat) (u:Array Item)=>⟨[(0,.sl X 0 n),(1,iA a),(4,.fn f cap),(12,iA i),(13,iA j)],(X,.row 71 3 (u.toList.map (AA false)))::Sf⟩) (λi j u=>a<i/\i<=j+2/\j<b/\u.size=d.size/\partLoop (AI cf) a i j u=pr) (λi j _=>j+1-i) (i2+1) (j2-1) (swp u i2 j2) ⟨by omega,by omega,by omega,by rw[size_swp];exact hu,hpr⟩ ?_ (h0:=by rw[<-CE (AA false) (by omega) (by omega)];exact⟨by exact Lk.f,by exact Sub.f⟩);subst hfold;clear hc h h1 h2 hpr hi2 hj2 hge hle hge2 hr hrow hu0 hu hsz hi hj hy y i2 j2 i j u;rintro i j u ⟨hai,hij,hjb,hu,hfold⟩;rw[partLoop_eq]at hfold;obtain⟨i2,hi2⟩:∃i2,scanUp (λx=>(AI cf) x u[a]!) u j i=i2:=⟨_,rfl⟩;rw[hi2]at hfold;obtain⟨j2,hj2⟩:∃j2,scanDown (λx=>!(AI cf) x u[a]!) u i2 j=j2:=⟨_,rfl⟩;rw[hj2]at hfold;have hge:=scanUp_ge (λx=>(AI cf) x u[a]!) u j i;have hle:=scanDown_le (λx=>!(AI cf) x u[a]!) u i2 j;rw[hi2]at hge;rw[hj2]at hle;have hge2:i2<=max i (j+1):=by rw[<-hi2];exact Fi _ _ _ _
 refine AWP.block ?_
 (repeat (first|refine AWP.skip ?_|refine Bc ?_|refine AWP.seq ?_))
 refine BG (λk:Nat=>k=i2) (λk=>⟨[(0,.sl X 0 n),(1,iA a),(4,.fn f cap),(12,iA k),(13,iA j)],(X,.row 71 3 (u.toList.map (AA false)))::Sf⟩) ?_ ?_
 ·refine AWP.block ?_
  refine BP (λ(k:Nat)=>⟨[(0,.sl X 0 n),(1,iA a),(4,.fn f cap),(12,iA k),(13,iA j)],(X,.row 71 3 (u.toList.map (AA false)))::Sf⟩) (λk=>i<=k/\k<=max i (j+1)/\scanUp (λx=>(AI cf) x u[a]!) u j k=i2) (λk=>j+1-k) i ⟨Nat.le_refl _,by omega,hi2⟩ ?_;rintro k ⟨hk1,hk2,hk⟩;rw[scanUp]at hk;rcases Bool.eq_false_or_eq_true (decide ((k:Int)<=(j:Int)))with g|g
  ·have hg:k<=j:=by have:=of_decide_eq_true g;omega
   have h1:=Af (AA false) (d:=u) (i:=k) (by omega);have h2:=Af (AA false) (d:=u) (i:=a) (by omega);have hl:=hcf (u[k]!) (u[a]!);(repeat refine WF ?_);refine RU ?_;(repeat first|(refine RGo.gN ?_;first|(refine RGo.g_callv ?_;first|refine RGo.k2 (h:=(hl ..)) (k:=?_)))|(refine RGo.gQ ?_;first|(refine RGo.g_callv ?_;first|refine RGo.k2 (h:=(hl ..)) (k:=?_)))|refine RK ?_|refine RGo.nil (by kernel_rfl) ?_);(repeat refine WF ?_);refine AWP.cond rfl (λhd=>?_) (λhd=>?_)
   ·have hd:((AI cf) u[k]! u[a]!)=true:=by simpa[g,AI]using hd
    rw[if_pos (by rw[Bool.and_eq_true];exact⟨decide_eq_true (by omega),hd⟩)]at hk;(repeat first|refine WK ?_|refine Ai λX=>?_|refine Ay λY=>?_);exact A7 (k+1) ⟨by omega,by omega,hk⟩
   ·have hd:((AI cf) u[k]! u[a]!)=false:=by simpa[g,AI]using hd
    rw[if_neg (λe=>by rw[Bool.and_eq_true]at e;have e2:=e.2;rw[hd]at e2;cases e2)]at hk;(repeat first|refine WK ?_|refine Ai λX=>?_|refine Ay λY=>?_);exact jn k hk
  ·have hg:¬k<=j:=by have:=of_decide_eq_false g;omega
   rw[if_neg (λe=>by rw[Bool.and_eq_true]at e;have:=of_decide_eq_true e.1;omega)]at hk;(repeat refine WF ?_);refine RU ?_;(repeat first|refine RK ?_|refine RGo.nil (by kernel_rfl) ?_);(repeat refine WF ?_);refine AE rfl (by simp[g]) ?_;(repeat first|refine WK ?_|refine Ai λX=>?_|refine Ay λY=>?_);exact jn k hk
 rintro k hk0;rw[hk0];clear hk0 k
 (repeat (first|refine AWP.skip ?_|refine Bc ?_|refine AWP.seq ?_))
 refine BG (λk:Nat=>k=j2) (λk=>⟨[(0,.sl X 0 n),(1,iA a),(4,.fn f cap),(12,iA i2),(13,iA k)],(X,.row 71 3 (u.toList.map (AA false)))::Sf⟩) ?_ ?_
 ·refine AWP.block ?_
  refine BP (λ(k:Nat)=>⟨[(0,.sl X 0 n),(1,iA a),(4,.fn f cap),(12,iA i2),(13,iA k)],(X,.row 71 3 (u.toList.map (AA false)))::Sf⟩) (λk=>k<=j/\scanDown (λx=>!(AI cf) x u[a]!) u i2 k=j2) (λk=>k) j ⟨Nat.le_refl _,hj2⟩ ?_;rintro k ⟨hk1,hk⟩;rcases Bool.eq_false_or_eq_true (decide ((i2:Int)<=(k:Int)))with g|g
  ·have hg:i2<=k:=by have:=of_decide_eq_true g;omega
   obtain⟨q,rfl⟩:∃q,k=q+1:=⟨k-1,by omega⟩;rw[scanDown]at hk;have h1:=Af (AA false) (d:=u) (i:=q+1) (by omega);have h2:=Af (AA false) (d:=u) (i:=a) (by omega);have hl:=hcf (u[q+1]!) (u[a]!);(repeat refine WF ?_);refine RU ?_;(repeat first|(refine RGo.gN ?_;first|(refine RGo.g_callv ?_;first|refine RGo.k2 (h:=(hl ..)) (k:=?_)))|(refine RGo.gQ ?_;first|(refine RGo.g_callv ?_;first|refine RGo.k2 (h:=(hl ..)) (k:=?_)))|refine RK ?_|refine RGo.nil (by kernel_rfl) ?_);(repeat refine WF ?_);refine AWP.cond rfl (λhd=>?_) (λhd=>?_)
   ·have hd:(!(AI cf) u[q+1]! u[a]!)=true:=by simpa[g,AI]using hd
    rw[if_pos (by rw[Bool.and_eq_true];exact⟨decide_eq_true (by omega),hd⟩)]at hk;(repeat first|(refine AOps.gN ?_;first|refine AOps.p (AZ ((q:Int)) (by omega) (by omega) rfl rfl) rfl ?_)|refine WK ?_|refine Ai λX=>?_|refine Ay λY=>?_);exact A7 q ⟨by omega,hk⟩
   ·have hd:(!(AI cf) u[q+1]! u[a]!)=false:=by simpa[g,AI]using hd
    rw[if_neg (λe=>by rw[Bool.and_eq_true]at e;have e2:=e.2;rw[hd]at e2;cases e2)]at hk;(repeat first|refine WK ?_|refine Ai λX=>?_|refine Ay λY=>?_);exact jn (q+1) hk
  ·have hg:¬i2<=k:=by have:=of_decide_eq_false g;omega
   have hk3:scanDown (λx=>!(AI cf) x u[a]!) u i2 k=k:=by
    cases k with
    |zero=>rfl
    |succ q=>rw[scanDown,if_neg (λe=>by rw[Bool.and_eq_true]at e;have:=of_decide_eq_true e.1;omega)]
   rw[hk3]at hk;(repeat refine WF ?_);refine RU ?_;(repeat first|refine RK ?_|refine RGo.nil (by kernel_rfl) ?_);(repeat refine WF ?_);refine AE rfl (by simp[g]) ?_;(repeat first|refine WK ?_|refine Ai λX=>?_|refine Ay λY=>?_);exact jn k hk
 rintro k hk0;rw[hk0];clear hk0 k;(repeat first|refine WK ?_|refine Ai λX=>?_|refine Ay λY=>?_);refine AWP.cond rfl (λhc=>?_) (λhc=>?_)
 ·have h:i2>j2:=by have:=of_decide_eq_true hc;omega
  rw[if_pos h]at hfold;subst hfold;have h1:=Af (AA false) (d:=u) (i:=j2) (by omega);have h2:=Af (AA false) (d:=u) (i:=a) (by omega);have hrow2:=CE (AA false) (d:=u) (i:=j2) (j:=a) (by omega) (by omega);obtain⟨y,hy⟩:=Bp (AA false) (d:=u) (i:=j2) (j:=a) (by omega) u[a]!;(repeat refine WF ?_);refine RU ?_;(repeat first|(refine RGo.gN ?_;first|refine RGo.s (W.store rfl rfl (by exact At.f) hy (by exact rfl)) rfl ?_)|(refine RGo.gQ ?_;first|refine RGo.s (W.store rfl rfl (by exact At.f) hy (by exact rfl)) rfl ?_)|refine RK ?_|refine RGo.nil (by kernel_rfl) ?_);(repeat first|refine WK ?_|refine Ai λX=>?_|refine Ay λY=>?_);refine RT ?_;exact AS [iA j2,bA false] [(X,_)] ⟨rfl,by rw[<-hrow2]⟩
 ·have h:¬i2>j2:=by have:=of_decide_eq_false hc;omega
  rw[if_neg h]at hfold;have h1:=Af (AA false) (d:=u) (i:=i2) (by omega);have h2:=Af (AA false) (d:=u) (i:=j2) (by omega);obtain⟨y,hy⟩:=Bp (AA false) (d:=u) (i:=i2) (j:=j2) (by omega) u[j2]!;(repeat refine WF ?_);refine RU ?_;(repeat first|(refine RGo.gN ?_;first|refine RGo.s (W.store rfl rfl (by exact At.f) hy (by exact rfl)) rfl ?_)|(refine RGo.gQ ?_;first|refine RGo.s (W.store rfl rfl (by exact At.f) hy (by exact rfl)) rfl ?_)|refine RK ?_|refine RGo.nil (by kernel_rfl) ?_);(repeat first|(refine AOps.gN ?_;first|refine AOps.p (AZ (((j2-1:Nat):Int)) (by omega) (by omega) rfl rfl) rfl ?_)|refine WK ?_|refine Ai λX=>?_|refine Ay λY=>?_);refine B6 (i2+1) (j2-1) (swp u i2 j2) ⟨by omega,by omega,by omega,by rw[size_swp];exact hu,hfold⟩ (h0:=by rw[<-CE (AA false) (by omega) (by omega)];exact⟨by exact Lk.f,by exact Sub.f⟩)
end
section
open Go.Sort
set_option maxHeartbeats 1000000 in
theorem HX(lt:Item->Item->Bool)(d:Array Item)(b i:Nat):i<=scanSorted lt d b i/\scanSorted lt d b i<=max i b:=by
 obtain⟨m,hm⟩:∃m,b-i=m:=⟨_,rfl⟩
 induction m generalizing i with
 |zero=>rw[scanSorted,if_neg (λe=>by rw[Bool.and_eq_true]at e;have:=of_decide_eq_true e.1;omega)];omega
 |succ m ih=>
  rw[scanSorted];split
  ·have:=ih (i+1) (by omega)
   omega
  ·omega
theorem PQ(f:FuncId)(cap:List AV)(cf:Item->Item->Int)(hst:Bm cap=true)(hcf:∀x y,PS Tryz.prog f ((AA false) x::(AA false) y::cap) (iA (cf x y)))(X n:Nat)(d:Array Item)(a b:Nat)(hn:n=d.size)(hab:a<b)(hb:b<=d.size)(hz:d.size<=1099511627776):PO Tryz.prog 217 [.sl X 0 n,iA a,iA b,.fn f cap] X (.row 71 3 (d.toList.map (AA false))) (bA (partialInsertionSort (AI cf) d a b).2) (.row 71 3 ((partialInsertionSort (AI cf) d a b).1.toList.map (AA false))):=by
 obtain⟨r,hr⟩:∃r,partialInsertionSort (AI cf) d a b=r:=⟨_,rfl⟩;rw[hr];unfold partialInsertionSort at hr;refine Spec.of (nt:=141) (res:=[.tmp 8]) Tryz.func217 rfl (by kernel_rfl) rfl rfl rfl λSf=>?_
 (repeat first|(refine AOps.gN ?_;first|refine AOps.p (Ap (((a+1:Nat):Int)) (by omega) (by omega) rfl rfl) rfl ?_)|refine WK ?_|refine Ai λX=>?_|refine Ay λY=>?_);refine DR (λ(c i:Nat) (u:Array Item)=>⟨[(0,.sl X 0 n),(1,iA a),(2,iA b),(3,.fn f cap),(9,iA i),(10,iA c)],(X,.row 71 3 (u.toList.map (AA false)))::Sf⟩) (λc i u=>c<=5/\a<i/\i<=b/\u.size=d.size/\partialIns (AI cf) a b (5-c) i u=r) (λc _ _=>5-c) 0 (a+1) d ⟨by omega,by omega,by omega,rfl,hr⟩ ?_;rintro c i u ⟨hc5,hai,hib,hu,hfold⟩;(repeat first|refine WK ?_|refine Ai λX=>?_|refine Ay λY=>?_);refine AWP.cond rfl (λhc=>?_) (λhc=>?_)
 ·have h:c<5:=by have:=of_decide_eq_true hc;omega
  obtain⟨s,hs⟩:∃s,5-c=s+1:=⟨4-c,by omega⟩;rw[hs,partialIns_succ]at hfold;obtain⟨i2,hi2⟩:∃i2,scanSorted (AI cf) u b i=i2:=⟨_,rfl⟩;rw[hi2]at hfold;have hrg:=HX (AI cf) u b i;rw[hi2]at hrg
  (repeat (first|refine AWP.skip ?_|refine Bc ?_|refine AWP.seq ?_))
  refine AWP.block ?_
  (repeat (first|refine AWP.skip ?_|refine Bc ?_|refine AWP.seq ?_))
  refine BG (λk:Nat=>k=i2) (λk=>⟨[(0,.sl X 0 n),(1,iA a),(2,iA b),(3,.fn f cap),(9,iA k),(10,iA c)],(X,.row 71 3 (u.toList.map (AA false)))::Sf⟩) ?_ ?_
  ·refine AWP.block ?_
   refine BP (λ(k:Nat)=>⟨[(0,.sl X 0 n),(1,iA a),(2,iA b),(3,.fn f cap),(9,iA k),(10,iA c)],(X,.row 71 3 (u.toList.map (AA false)))::Sf⟩) (λk=>i<=k/\k<=b/\scanSorted (AI cf) u b k=i2) (λk=>b-k) i ⟨Nat.le_refl _,hib,hi2⟩ ?_;rintro k ⟨hk1,hk2,hk⟩;rw[scanSorted]at hk;rcases Bool.eq_false_or_eq_true (decide ((k:Int)<(b:Int)))with g|g
   ·have hg:k<b:=by have:=of_decide_eq_true g;omega
    have h1:=Af (AA false) (d:=u) (i:=k) (by omega);have h2:=Af (AA false) (d:=u) (i:=k-1) (by omega);have hl:=hcf (u[k]!) (u[k-1]!);(repeat refine WF ?_);refine RU ?_;(repeat first|(refine RGo.gN ?_;first|(refine RGo.g_callv ?_;first|refine RGo.k2 (h:=(hl ..)) (k:=?_))|refine RGo.go (h:=AZ (((k-1:Nat):Int)) (by omega) (by omega) rfl rfl) (k:=?_))|(refine RGo.gQ ?_;first|(refine RGo.g_callv ?_;first|refine RGo.k2 (h:=(hl ..)) (k:=?_))|refine RGo.go (h:=AZ (((k-1:Nat):Int)) (by omega) (by omega) rfl rfl) (k:=?_))|refine RK ?_|refine RGo.nil (by kernel_rfl) ?_);(repeat refine WF ?_);refine AWP.cond rfl (λhd=>?_) (λhd=>?_)
    ·have hd:(!(AI cf) u[k]! u[k-1]!)=true:=by simpa[g,AI]using hd
     rw[if_pos (by rw[Bool.and_eq_true];exact⟨decide_eq_true (by omega),hd⟩)]at hk;(repeat first|refine WK ?_|refine Ai λX=>?_|refine Ay λY=>?_);exact A7 (k+1) ⟨by omega,by omega,hk⟩
    ·have hd:(!(AI cf) u[k]! u[k-1]!)=false:=by simpa[g,AI]using hd
     rw[if_neg (λe=>by rw[Bool.and_eq_true]at e;have e2:=e.2;rw[hd]at e2;cases e2)]at hk;(repeat first|refine WK ?_|refine Ai λX=>?_|refine Ay λY=>?_);exact jn k hk
   ·have hg:¬k<b:=by have:=of_decide_eq_false g;omega
    rw[if_neg (λe=>by rw[Bool.and_eq_true]at e;have:=of_decide_eq_true e.1;omega)]at hk;(repeat refine WF ?_);refine RU ?_;(repeat first|refine RK ?_|refine RGo.nil (by kernel_rfl) ?_);(repeat refine WF ?_);refine AE rfl (by simp[g]) ?_;(repeat first|refine WK ?_|refine Ai λX=>?_|refine Ay λY=>?_);exact jn k hk
  rintro k hk0;rw[hk0];clear hk0 k;(repeat first|refine WK ?_|refine Ai λX=>?_|refine Ay λY=>?_);refine AWP.cond rfl (λhd=>?_) (λhd=>?_)
  ·have hd:i2=b:=by have:=of_decide_eq_true hd;omega
   rw[if_pos hd]at hfold;subst hfold;(repeat first|refine WK ?_|refine Ai λX=>?_|refine Ay λY=>?_);refine RT ?_;exact AS [bA true] [(X,_)] ⟨rfl,rfl⟩
  have hd:¬i2=b:=by have:=of_decide_eq_false hd;omega
  rw[if_neg hd]at hfold;(repeat first|(refine AOps.gN ?_;first|refine AOps.p (AZ (((b-a:Nat):Int)) (by omega) (by omega) rfl rfl) rfl ?_)|refine WK ?_|refine Ai λX=>?_|refine Ay λY=>?_);refine AWP.cond rfl (λhe=>?_) (λhe=>?_)
  ·have he:b-a<50:=by have:=of_decide_eq_true he;omega
   rw[if_pos he]at hfold;subst hfold;(repeat first|refine WK ?_|refine Ai λX=>?_|refine Ay λY=>?_);refine RT ?_;exact AS [bA false] [(X,_)] ⟨rfl,rfl⟩
  have he:¬b-a<50:=by have:=of_decide_eq_false he;omega
  rw[if_neg he]at hfold;have h1:=Af (AA false) (d:=u) (i:=i2) (by omega);have h2:=Af (AA false) (d:=u) (i:=i2-1) (by omega);have hrow:=CE (AA false) (d:=u) (i:=i2) (j:=i2-1) (by omega) (by omega);obtain⟨y,hy⟩:=Bp (AA false) (d:=u) (i:=i2) (j:=i2-1) (by omega) u[i2-1]!;have hvs:(swp u i2 (i2-1)).size=d.size:=by rw[size_swp];exact hu
  (repeat refine WF ?_);refine RU ?_;(repeat first|(refine RGo.gN ?_;first|refine RGo.go (h:=AZ (((i2-1:Nat):Int)) (by omega) (by omega) rfl rfl) (k:=?_)|refine RGo.s (W.store rfl rfl (by exact At.f) hy (by exact rfl)) rfl ?_)|(refine RGo.gQ ?_;first|refine RGo.go (h:=AZ (((i2-1:Nat):Int)) (by omega) (by omega) rfl rfl) (k:=?_)|refine RGo.s (W.store rfl rfl (by exact At.f) hy (by exact rfl)) rfl ?_)|refine RK ?_|refine RGo.nil (by kernel_rfl) ?_);obtain⟨v,hv⟩:∃v,swp u i2 (i2-1)=v:=⟨_,rfl⟩;rw[hv]at hrow hvs hfold;refine Kq [(0,.sl X 0 n),(1,iA a),(2,iA b),(3,.fn f cap),(9,iA i2),(10,iA c)] ((X,.row 71 3 (v.toList.map (AA false)))::Sf) ?_ (h:=by rw[<-hrow];exact⟨by exact Lk.f,by exact Sub.f⟩);(repeat first|(refine AOps.gN ?_;first|refine AOps.p (AZ (((i2-a:Nat):Int)) (by omega) (by omega) rfl rfl) rfl ?_)|refine WK ?_|refine Ai λX=>?_|refine Ay λY=>?_);refine BG (λw:Array Item=>w.size=d.size/\w=fixDown (AI cf) a i2 v) (λw=>⟨[(0,.sl X 0 n),(1,iA a),(2,iA b),(3,.fn f cap),(9,iA i2),(10,iA c)],(X,.row 71 3 (w.toList.map (AA false)))::Sf⟩) ?_ ?_
  ·unfold fixDown
   refine AWP.cond rfl (λhf=>?_) (λhf=>?_)
   ·have hf:i2-a>=2:=by have:=of_decide_eq_true hf;omega
    rw[if_pos hf];(repeat first|(refine AOps.gN ?_;first|refine AOps.p (AZ (((i2-1:Nat):Int)) (by omega) (by omega) rfl rfl) rfl ?_)|refine WK ?_|refine Ai λX=>?_|refine Ay λY=>?_);refine BI (λ(k:Nat) (w:Array Item)=>⟨[(0,.sl X 0 n),(1,iA a),(2,iA b),(3,.fn f cap),(9,iA i2),(10,iA c),(11,iA k)],(X,.row 71 3 (w.toList.map (AA false)))::Sf⟩) (λk w=>k<b/\w.size=d.size/\shiftDown (AI cf) k w=shiftDown (AI cf) (i2-1) v) (λk _=>k) (i2-1) v ⟨by omega,hvs,rfl⟩ ?_;rintro k w ⟨hkb,hw,hk⟩;(repeat first|refine WK ?_|refine Ai λX=>?_|refine Ay λY=>?_);refine AWP.cond rfl (λhg=>?_) (λhg=>?_)
    ·obtain⟨q,rfl⟩:∃q,k=q+1:=⟨k-1,by have:=of_decide_eq_true hg;omega⟩
     rw[shiftDown]at hk;have h1:=Af (AA false) (d:=w) (i:=q+1) (by omega);have h2:=Af (AA false) (d:=w) (i:=q) (by omega);have hl:=hcf (w[q+1]!) (w[q]!);(repeat refine WF ?_);refine RU ?_;(repeat first|(refine RGo.gN ?_;first|(refine RGo.g_callv ?_;first|refine RGo.k2 (h:=(hl ..)) (k:=?_))|refine RGo.go (h:=AZ ((q:Int)) (by omega) (by omega) rfl rfl) (k:=?_))|(refine RGo.gQ ?_;first|(refine RGo.g_callv ?_;first|refine RGo.k2 (h:=(hl ..)) (k:=?_))|refine RGo.go (h:=AZ ((q:Int)) (by omega) (by omega) rfl rfl) (k:=?_))|refine RK ?_|refine RGo.nil (by kernel_rfl) ?_);(repeat refine WF ?_);refine AWP.cond rfl (λhd=>?_) (λhd=>?_)
     ·have hd:(!(AI cf) w[q+1]! w[q]!)=true:=by simpa[AI]using hd
      rw[if_pos hd]at hk;(repeat first|refine WK ?_|refine Ai λX=>?_|refine Ay λY=>?_);exact jn w ⟨hw,hk⟩
     ·have hd:(!(AI cf) w[q+1]! w[q]!)=false:=by simpa[AI]using hd
      rw[if_neg (by rw[hd];simp)]at hk;clear y hy;obtain⟨y,hy⟩:=Bp (AA false) (d:=w) (i:=q+1) (j:=q) (by omega) w[q]!;(repeat refine WF ?_);refine RU ?_;(repeat first|(refine RGo.gN ?_;first|refine RGo.go (h:=AZ ((q:Int)) (by omega) (by omega) rfl rfl) (k:=?_)|refine RGo.s (W.store rfl rfl (by exact At.f) hy (by exact rfl)) rfl ?_)|(refine RGo.gQ ?_;first|refine RGo.go (h:=AZ ((q:Int)) (by omega) (by omega) rfl rfl) (k:=?_)|refine RGo.s (W.store rfl rfl (by exact At.f) hy (by exact rfl)) rfl ?_)|refine RK ?_|refine RGo.nil (by kernel_rfl) ?_);(repeat first|(refine AOps.gN ?_;first|refine AOps.p (AZ ((q:Int)) (by omega) (by omega) rfl rfl) rfl ?_)|refine WK ?_|refine Ai λX=>?_|refine Ay λY=>?_);refine Ak q (swp w (q+1) q) ⟨by omega,by rw[size_swp];exact hw,hk⟩ (h0:=by rw[<-CE (AA false) (by omega) (by omega)];exact⟨by exact Lk.f,by exact Sub.f⟩)
    ·obtain rfl:k=0:=by have:=of_decide_eq_false hg;omega
     rw[shiftDown]at hk;(repeat first|refine WK ?_|refine Ai λX=>?_|refine Ay λY=>?_);exact jn w ⟨hw,hk⟩
   ·have hf:¬i2-a>=2:=by have:=of_decide_eq_false hf;omega
    rw[if_neg hf];(repeat first|refine WK ?_|refine Ai λX=>?_|refine Ay λY=>?_);exact jn v ⟨hvs,rfl⟩
  rintro w ⟨hws,hw0⟩;rw[<-hw0]at hfold;clear hw0 hrow y hy h1 h2;(repeat first|(refine AOps.gN ?_;first|refine AOps.p (AZ (((b-i2:Nat):Int)) (by omega) (by omega) rfl rfl) rfl ?_)|refine WK ?_|refine Ai λX=>?_|refine Ay λY=>?_);refine O8 (λz:Array Item=>z.size=d.size/\z=fixUp (AI cf) b i2 w) (λz=>⟨[(0,.sl X 0 n),(1,iA a),(2,iA b),(3,.fn f cap),(9,iA i2),(10,iA c)],(X,.row 71 3 (z.toList.map (AA false)))::Sf⟩) ?_ ?_
  ·unfold fixUp
   refine AWP.cond rfl (λhf=>?_) (λhf=>?_)
   ·have hf:b-i2>=2:=by have:=of_decide_eq_true hf;omega
    rw[if_pos hf];(repeat first|(refine AOps.gN ?_;first|refine AOps.p (Ap (((i2+1:Nat):Int)) (by omega) (by omega) rfl rfl) rfl ?_)|refine WK ?_|refine Ai λX=>?_|refine Ay λY=>?_);refine BI (λ(k:Nat) (z:Array Item)=>⟨[(0,.sl X 0 n),(1,iA a),(2,iA b),(3,.fn f cap),(9,iA i2),(10,iA c),(12,iA k)],(X,.row 71 3 (z.toList.map (AA false)))::Sf⟩) (λk z=>i2<k/\k<=b/\z.size=d.size/\shiftUp (AI cf) b k z=shiftUp (AI cf) b (i2+1) w) (λk _=>b-k) (i2+1) w ⟨by omega,by omega,hws,rfl⟩ ?_;rintro k z ⟨hik,hkb,hz1,hk⟩;rw[shiftUp]at hk;(repeat first|refine WK ?_|refine Ai λX=>?_|refine Ay λY=>?_);refine AWP.cond rfl (λhg=>?_) (λhg=>?_)
    ·have hg:k<b:=by have:=of_decide_eq_true hg;omega
     rw[if_pos hg]at hk;have h1:=Af (AA false) (d:=z) (i:=k) (by omega);have h2:=Af (AA false) (d:=z) (i:=k-1) (by omega);have hl:=hcf (z[k]!) (z[k-1]!);(repeat refine WF ?_);refine RU ?_;(repeat first|(refine RGo.gN ?_;first|(refine RGo.g_callv ?_;first|refine RGo.k2 (h:=(hl ..)) (k:=?_))|refine RGo.go (h:=AZ (((k-1:Nat):Int)) (by omega) (by omega) rfl rfl) (k:=?_))|(refine RGo.gQ ?_;first|(refine RGo.g_callv ?_;first|refine RGo.k2 (h:=(hl ..)) (k:=?_))|refine RGo.go (h:=AZ (((k-1:Nat):Int)) (by omega) (by omega) rfl rfl) (k:=?_))|refine RK ?_|refine RGo.nil (by kernel_rfl) ?_);(repeat refine WF ?_);refine AWP.cond rfl (λhd=>?_) (λhd=>?_)
     ·have hd:(!(AI cf) z[k]! z[k-1]!)=true:=by simpa[AI]using hd
      rw[if_pos hd]at hk;(repeat first|refine WK ?_|refine Ai λX=>?_|refine Ay λY=>?_);exact jn z ⟨hz1,hk⟩
     ·have hd:(!(AI cf) z[k]! z[k-1]!)=false:=by simpa[AI]using hd
      rw[if_neg (by rw[hd];simp)]at hk;obtain⟨y,hy⟩:=Bp (AA false) (d:=z) (i:=k) (j:=k-1) (by omega) z[k-1]!;(repeat refine WF ?_);refine RU ?_;(repeat first|(refine RGo.gN ?_;first|refine RGo.go (h:=AZ (((k-1:Nat):Int)) (by omega) (by omega) rfl rfl) (k:=?_)|refine RGo.s (W.store rfl rfl (by exact At.f) hy (by exact rfl)) rfl ?_)|(refine RGo.gQ ?_;first|refine RGo.go (h:=AZ (((k-1:Nat):Int)) (by omega) (by omega) rfl rfl) (k:=?_)|refine RGo.s (W.store rfl rfl (by exact At.f) hy (by exact rfl)) rfl ?_)|refine RK ?_|refine RGo.nil (by kernel_rfl) ?_);(repeat first|refine WK ?_|refine Ai λX=>?_|refine Ay λY=>?_);refine Ak (k+1) (swp z k (k-1)) ⟨by omega,by omega,by rw[size_swp];exact hz1,hk⟩ (h0:=by rw[<-CE (AA false) (by omega) (by omega)];exact⟨by exact Lk.f,by exact Sub.f⟩)
    ·have hg:¬k<b:=by have:=of_decide_eq_false hg;omega
     rw[if_neg hg]at hk;(repeat first|refine WK ?_|refine Ai λX=>?_|refine Ay λY=>?_);exact jn z ⟨hz1,hk⟩
   ·have hf:¬b-i2>=2:=by have:=of_decide_eq_false hf;omega
    rw[if_neg hf];(repeat first|refine WK ?_|refine Ai λX=>?_|refine Ay λY=>?_);exact jn w ⟨hws,rfl⟩
  rintro z ⟨hzs,hz0⟩;rw[<-hz0]at hfold;(repeat first|refine WK ?_|refine Ai λX=>?_|refine Ay λY=>?_);refine B6 (c+1) i2 z ⟨by omega,by omega,by omega,hzs,by rw[show 5-(c+1)=s by omega];exact hfold⟩
 ·have h:c=5:=by have:=of_decide_eq_false hc;omega
  subst h;rw[show 5-5=0 from rfl,partialIns]at hfold;subst hfold;(repeat first|refine WK ?_|refine Ai λX=>?_|refine Ay λY=>?_);refine RT ?_;exact AS [bA false] [(X,_)] ⟨rfl,rfl⟩
end
section
open Go.Sort
set_option maxHeartbeats 1000000 in
theorem Ri{f:FuncId}{cap:List AV}(X n:Nat)(d:Array Item)(a b:Nat)(hn:n=d.size)(hab:a<=b)(hb:b<=d.size)(hz:d.size<65536):Spec Tryz.prog 214 [.sl X 0 n,iA a,iA b,.fn f cap] [(X,.row 71 3 (d.toList.map (AA false)))] λr S'=>∃u:Array Item,PermIn a b d u/\r= .tup []/\S'=[(X,.row 71 3 (u.toList.map (AA false)))]:=by
 obtain⟨l,hl⟩:∃l,b-a=l:=⟨_,rfl⟩;refine Spec.of (nt:=67) (res:=[]) Tryz.func214 rfl (by kernel_rfl) rfl rfl rfl λSf=>?_
 (repeat first|(refine AOps.gN ?_;first|refine AOps.p (AZ ((l:Int)) (by omega) (by omega) rfl rfl) rfl ?_)|refine WK ?_|refine Ai λX=>?_|refine Ay λY=>?_);refine AWP.cond rfl (λh8=>?_) (λh8=>?_)
 ·have h8:8<=l:=by have:=of_decide_eq_true h8;omega
  have hnp:=Mm l (by omega);have hbl:bitsLen l<=16:=(bitsLen_le_iff l 16).2 (by omega);have hm2:=two_pow_bitsLen_le (n:=l) (by omega);obtain⟨m,hm⟩:∃m,(1:UInt64)<<<UInt64.ofNat (bitsLen l)=m:=⟨_,rfl⟩
  have hmn:m.toNat=2^bitsLen l:=by
   have:2^bitsLen l<=2^16:=Nat.pow_le_pow_right (by decide) hbl;rw[<-hm,UInt64.toNat_shiftLeft,UInt64.toNat_ofNat',show bitsLen l%2^64%64=bitsLen l by omega,Nat.shiftLeft_eq,show(1:UInt64).toNat=1 from rfl];omega
  rw[hm]at hnp;have hp1:1<=2^bitsLen l:=Nat.one_le_two_pow;(repeat first|(refine AOps.gN ?_;first|(refine AOps.g_callf ?_;first|refine AOps.c1 (h:=(hnp ..)) (k:=?_))|refine AOps.p (Kl .i64 l rfl (by omega) (by kernel_rfl) (by kernel_rfl) rfl) rfl ?_|refine AOps.p (I5 l 4 (l/4) rfl rfl (by omega) rfl (by omega) rfl rfl) rfl ?_|refine AOps.p (G7 ((l/4*2:Nat):Int) (by omega) (by omega) rfl rfl) rfl ?_|refine AOps.p (Ap (((a+l/4*2:Nat):Int)) (by omega) (by omega) rfl rfl) rfl ?_|refine AOps.p (AZ (((a+l/4*2-1:Nat):Int)) (by omega) (by omega) rfl rfl) rfl ?_)|refine WK ?_|refine Ai λV=>?_|refine Ay λY=>?_);refine DR (λ(k:Nat) (s:UInt64) (u:Array Item)=>⟨[(0,.sl X 0 n),(1,iA a),(3,.fn f cap),(8,iA l),(9,.ptr V 0 0),(10,uA m),(11,iA k)],(V,.row 355 1 [uA s])::(X,.row 71 3 (u.toList.map (AA false)))::Sf⟩) (λk s u=>a<=k/\k<=a+l/4*2+2/\PermIn a b d u) (λk _ _=>a+l/4*2+2-k) (a+l/4*2-1) (UInt64.ofNat l) d ⟨by omega,by omega,permIn_refl _ _ _⟩ ?_;rintro k s u ⟨hak,hkl,hP⟩;have hu:u.size=d.size:=hP.1;(repeat first|(refine AOps.gN ?_;first|refine AOps.p (I5 l 4 (l/4) rfl rfl (by omega) rfl (by omega) rfl rfl) rfl ?_|refine AOps.p (G7 ((l/4*2:Nat):Int) (by omega) (by omega) rfl rfl) rfl ?_|refine AOps.p (Ap (((a+l/4*2:Nat):Int)) (by omega) (by omega) rfl rfl) rfl ?_|refine AOps.p (Ap (((a+l/4*2+1:Nat):Int)) (by omega) (by omega) rfl rfl) rfl ?_)|refine WK ?_|refine Ai λX=>?_|refine Ay λY=>?_);refine AWP.cond rfl (λhc=>?_) (λhc=>?_)
  ·have hk1:k<=a+l/4*2+1:=by have:=of_decide_eq_true hc;omega
   have hkb:k<b:=by omega
   refine AWP.skip ?_;refine Bc ?_;refine AWP.seq ?_;refine AWP.block ?_;refine AWP.seq ?_;refine RG ?_;(repeat first|(refine AOps.gN ?_;first|(refine AOps.g_callf ?_;first|refine Qk (h:=MO V s) (k:=λv _=>?_)))|refine WO ?_|refine Ai λX=>?_|refine Ay λY=>?_)
   have hvb:(v&&&(m-1)).toNat<2*l:=by
    rw[UInt64.toNat_and,UInt64.toNat_sub_of_le _ _ (by rw[UInt64.le_iff_toNat_le,hmn];exact hp1),hmn];have:=Nat.and_le_right (n:=v.toNat) (m:=2^bitsLen l-(1:UInt64).toNat);have e:(1:UInt64).toNat=1:=rfl;omega
   (repeat first|(refine AOps.gN ?_;first|refine AOps.p (SR (b:=1) rfl rfl) rfl ?_|refine AOps.p (SU rfl rfl) rfl ?_|refine AOps.p (SS .u64 (by omega) (by kernel_rfl) (by kernel_rfl) rfl) rfl ?_)|refine WO ?_|refine Ai λX=>?_|refine Ay λY=>?_);refine AOps.nil ?_
   (repeat (first|refine AWP.skip ?_|refine Bc ?_|refine AWP.seq ?_))
   obtain⟨o,ho⟩:∃o,(v&&&(m-1)).toNat=o:=⟨_,rfl⟩;refine Kq [(0,.sl X 0 n),(1,iA a),(3,.fn f cap),(8,iA l),(9,.ptr V 0 0),(10,uA m),(11,iA k),(12,iA o)] ((V,.row 355 1 [uA v])::(X,.row 71 3 (u.toList.map (AA false)))::Sf) ?_ (h:=by rw[<-ho];exact⟨by exact Lk.f,by exact Sub.f⟩);rw[ho]at hvb;(repeat first|refine WK ?_|refine Ai λX=>?_|refine Ay λY=>?_);refine BG (λo:Nat=>o<l) (λo=>⟨[(0,.sl X 0 n),(1,iA a),(3,.fn f cap),(8,iA l),(9,.ptr V 0 0),(10,uA m),(11,iA k),(12,iA o)],(V,.row 355 1 [uA v])::(X,.row 71 3 (u.toList.map (AA false)))::Sf⟩) ?_ ?_
   ·refine AWP.cond rfl (λhd=>?_) (λhd=>?_)
    ·have hd:l<=o:=by have:=of_decide_eq_true hd;omega
     (repeat first|(refine AOps.gN ?_;first|refine AOps.p (AZ (((o-l:Nat):Int)) (by omega) (by omega) rfl rfl) rfl ?_)|refine WK ?_|refine Ai λX=>?_|refine Ay λY=>?_);exact jn (o-l) (by omega)
    ·have hd:¬l<=o:=by have:=of_decide_eq_false hd;omega
     (repeat first|refine WK ?_|refine Ai λX=>?_|refine Ay λY=>?_);exact jn o (by omega)
   rintro o hol;have h1:=Af (AA false) (d:=u) (i:=k) (by omega);have h2:=Af (AA false) (d:=u) (i:=a+o) (by omega);obtain⟨y,hy⟩:=Bp (AA false) (d:=u) (i:=k) (j:=a+o) (by omega) u[a+o]!;(repeat refine WF ?_);refine RU ?_;(repeat first|(refine RGo.gN ?_;first|refine RGo.go (h:=Ap (((a+o:Nat):Int)) (by omega) (by omega) rfl rfl) (k:=?_)|refine RGo.s (W.store rfl rfl (by exact At.f) hy (by exact rfl)) rfl ?_)|(refine RGo.gQ ?_;first|refine RGo.go (h:=Ap (((a+o:Nat):Int)) (by omega) (by omega) rfl rfl) (k:=?_)|refine RGo.s (W.store rfl rfl (by exact At.f) hy (by exact rfl)) rfl ?_)|refine RK ?_|refine RGo.nil (by kernel_rfl) ?_);(repeat first|refine WK ?_|refine Ai λX=>?_|refine Ay λY=>?_);refine B6 (k+1) v (swp u k (a+o)) ⟨by omega,by omega,permIn_trans _ _ _ _ _ hP (swp_permIn _ _ _ _ _ (by omega) (by omega) (by omega) (by omega) (by omega))⟩ (h0:=by rw[<-CE (AA false) (by omega) (by omega)];exact⟨by exact Lk.f,by exact Sub.f⟩)
  ·(repeat first|refine WK ?_|refine Ai λX=>?_|refine Ay λY=>?_)
   refine DX ?_;exact BO [(X,.row 71 3 (u.toList.map (AA false)))] ⟨u,hP,rfl,rfl⟩
 ·(repeat first|refine WK ?_|refine Ai λX=>?_|refine Ay λY=>?_)
  refine DX ?_;exact BO [(X,.row 71 3 (d.toList.map (AA false)))] ⟨d,permIn_refl _ _ _,rfl,rfl⟩
end
section
open Go.Sort
set_option maxHeartbeats 1000000 in
theorem Fj(f:FuncId)(cap:List AV)(cf:Item->Item->Int)(hst:Bm cap=true)(hcf:∀x y,PS Tryz.prog f ((AA false) x::(AA false) y::cap) (iA (cf x y)))(X Y n:Nat)(d:Array Item)(a b s:Nat)(hn:n=d.size)(ha:a<d.size)(hb:b<d.size)(hs:s<=1099511627776):Spec Tryz.prog 283 [.sl X 0 n,iA a,iA b,.ptr Y 0 0,.fn f cap] [(X,.row 71 3 (d.toList.map (AA false))),(Y,.row 3 1 [iA s])] λr S'=>r= .tup [iA (order2 (AI cf) d a b s).1,iA (order2 (AI cf) d a b s).2.1]/\S'=[(X,.row 71 3 (d.toList.map (AA false))),(Y,.row 3 1 [iA (order2 (AI cf) d a b s).2.2])]:=by
 subst hn;have h1:=Af (AA false) ha;have h2:=Af (AA false) hb;have hl:=hcf (d[b]!) (d[a]!);refine Spec.of (nt:=32) (res:=[.tmp 10,.tmp 11]) Tryz.func283 rfl (by kernel_rfl) rfl rfl rfl λSf=>?_
 unfold order2;refine RG ?_;(repeat first|refine WO ?_|refine Ai λX=>?_|refine Ay λY=>?_);refine NL ?_;refine RU ?_;(repeat first|(refine RGo.gN ?_;first|(refine RGo.g_callv ?_;first|refine RGo.k2 (h:=(hl ..)) (k:=?_)))|(refine RGo.gQ ?_;first|(refine RGo.g_callv ?_;first|refine RGo.k2 (h:=(hl ..)) (k:=?_)))|refine RK ?_|refine RGo.nil (by kernel_rfl) ?_);(repeat refine WF ?_);refine AWP.cond rfl (λhc=>?_) (λhc=>?_)
 ·have hc:(AI cf) d[b]! d[a]! =true:=by simpa[AI]using hc
  rw[if_pos hc];(repeat first|refine WK ?_|refine Ai λX=>?_|refine Ay λY=>?_);refine RT ?_;exact AS [iA b,iA a] [(X,_),(Y,_)] ⟨rfl,rfl⟩
 ·have hc:(AI cf) d[b]! d[a]! =false:=by simpa[AI]using hc
  rw[if_neg (by simp[hc])];(repeat first|refine WK ?_|refine Ai λX=>?_|refine Ay λY=>?_);refine RT ?_;exact AS [iA a,iA b] [(X,_),(Y,_)] ⟨rfl,rfl⟩
set_option maxHeartbeats 1000000 in
theorem IF(f:FuncId)(cap:List AV)(cf:Item->Item->Int)(hst:Bm cap=true)(hcf:∀x y,PS Tryz.prog f ((AA false) x::(AA false) y::cap) (iA (cf x y)))(X Y n:Nat)(d:Array Item)(a b c s:Nat)(hn:n=d.size)(ha:a<d.size)(hb:b<d.size)(hc:c<d.size)(hs:s<=1099511627000):Spec Tryz.prog 266 [.sl X 0 n,iA a,iA b,iA c,.ptr Y 0 0,.fn f cap] [(X,.row 71 3 (d.toList.map (AA false))),(Y,.row 3 1 [iA s])] λr S'=>r=iA (median (AI cf) d a b c s).1/\S'=[(X,.row 71 3 (d.toList.map (AA false))),(Y,.row 3 1 [iA (median (AI cf) d a b c s).2])]:=by
 obtain⟨m,hm⟩:∃m,median (AI cf) d a b c s=m:=⟨_,rfl⟩;rw[hm];unfold median at hm;have l1:=Gd (AI cf) d a b s _ ha hb;have e1:=EN (AI cf) d a b s;have h1:=Fj f cap cf hst hcf X Y n d a b s hn ha hb (by omega);obtain⟨⟨a1,b1,s1⟩,hr1⟩:∃r,order2 (AI cf) d a b s=r:=⟨_,rfl⟩;rw[hr1]at h1 hm l1 e1;dsimp only at h1 hm l1 e1;have l2:=Gd (AI cf) d b1 c s1 _ l1.2 hc;have e2:=EN (AI cf) d b1 c s1;have h2:=Fj f cap cf hst hcf X Y n d b1 c s1 hn l1.2 hc (by omega);obtain⟨⟨b2,c2,s2⟩,hr2⟩:∃r,order2 (AI cf) d b1 c s1=r:=⟨_,rfl⟩;rw[hr2]at h2 hm l2 e2;dsimp only at h2 hm l2 e2;have l3:=Gd (AI cf) d a1 b2 s2 _ l1.1 l2.1;have h3:=Fj f cap cf hst hcf X Y n d a1 b2 s2 hn l1.1 l2.1 (by omega);obtain⟨⟨a3,b3,s3⟩,hr3⟩:∃r,order2 (AI cf) d a1 b2 s2=r:=⟨_,rfl⟩;rw[hr3]at h3 hm l3;dsimp only at h3 hm l3;subst hm;refine Spec.of (nt:=41) (res:=[.tmp 12]) Tryz.func266 rfl (by kernel_rfl) rfl rfl rfl λSf=>?_
 (repeat first|(refine AOps.gN ?_;first|(refine AOps.g_callf ?_;first|refine Kr (h:=h1) (hT:=.fz) (k:=?_)|refine Kr (h:=h2) (hT:=.fz) (k:=?_)|refine Kr (h:=h3) (hT:=.fz) (k:=?_)))|refine WK ?_|refine Ai λX=>?_|refine Ay λY=>?_);refine RT ?_;exact AS [iA b3] [(X,_),(Y,_)] ⟨rfl,rfl⟩
set_option maxHeartbeats 1000000 in
theorem Fk(f:FuncId)(cap:List AV)(cf:Item->Item->Int)(hst:Bm cap=true)(hcf:∀x y,PS Tryz.prog f ((AA false) x::(AA false) y::cap) (iA (cf x y)))(X Y n:Nat)(d:Array Item)(a s:Nat)(hn:n=d.size)(ha:a+1<d.size)(h0:0<a)(hz:d.size<=1099511627776)(hs:s<=1099511627000):Spec Tryz.prog 265 [.sl X 0 n,iA a,.ptr Y 0 0,.fn f cap] [(X,.row 71 3 (d.toList.map (AA false))),(Y,.row 3 1 [iA s])] λr S'=>r=iA (medianAdjacent (AI cf) d a s).1/\S'=[(X,.row 71 3 (d.toList.map (AA false))),(Y,.row 3 1 [iA (medianAdjacent (AI cf) d a s).2])]:=by
 have h1:=IF f cap cf hst hcf X Y n d (a-1) a (a+1) s hn (by omega) (by omega) ha hs;unfold medianAdjacent;refine Spec.of (nt:=18) (res:=[.tmp 8]) Tryz.func265 rfl (by kernel_rfl) rfl rfl rfl λSf=>?_
 (repeat first|(refine AOps.gN ?_;first|(refine AOps.g_callf ?_;first|refine N3 (h:=h1) (hT:=.fz) (k:=?_))|refine AOps.p (AZ ((a-1:Nat):Int) (by omega) (by omega) rfl rfl) rfl ?_|refine AOps.p (Ap ((a+1:Nat):Int) (by omega) (by omega) rfl rfl) rfl ?_)|refine WK ?_|refine Ai λX=>?_|refine Ay λY=>?_);refine RT ?_;exact AS [iA _] [(X,_),(Y,_)] ⟨rfl,rfl⟩
set_option maxHeartbeats 1000000 in
theorem Hf(f:FuncId)(cap:List AV)(cf:Item->Item->Int)(hst:Bm cap=true)(hcf:∀x y,PS Tryz.prog f ((AA false) x::(AA false) y::cap) (iA (cf x y)))(X n:Nat)(d:Array Item)(a b:Nat)(hn:n=d.size)(hab:a<b)(hb:b<=d.size)(hz:d.size<=1099511627776):PO Tryz.prog 215 [.sl X 0 n,iA a,iA b,.fn f cap] X (.row 71 3 (d.toList.map (AA false))) (.tup [iA (choosePivot (AI cf) d a b).1,iA (R5 (choosePivot (AI cf) d a b).2)]) (.row 71 3 (d.toList.map (AA false))):=by
 obtain⟨c,hc⟩:∃c,choosePivot (AI cf) d a b=c:=⟨_,rfl⟩;rw[hc];unfold choosePivot at hc;obtain⟨l,hl⟩:∃l,b-a=l:=⟨_,rfl⟩;obtain⟨i,hi⟩:∃i,a+l/4*1=i:=⟨_,rfl⟩;obtain⟨j,hj⟩:∃i,a+l/4*2=i:=⟨_,rfl⟩;obtain⟨k,hk⟩:∃i,a+l/4*3=i:=⟨_,rfl⟩;rw[hl]at hc;dsimp only at hc;rw[hi,hj,hk]at hc;refine Spec.of (nt:=63) (res:=[.tmp 8,.tmp 9]) Tryz.func215 rfl (by kernel_rfl) rfl rfl rfl λSf=>?_
 have hlb:l<=1099511627776:=by omega
 (repeat first|(refine AOps.gN ?_;first|refine AOps.p (AZ (l:Int) (by omega) (by omega) rfl rfl) rfl ?_|refine AOps.p (I5 l 4 (l/4) rfl rfl (by omega) rfl (by omega) rfl rfl) rfl ?_|refine AOps.p (G7 ((l/4*1:Nat):Int) (by omega) (by omega) rfl rfl) rfl ?_|refine AOps.p (G7 ((l/4*2:Nat):Int) (by omega) (by omega) rfl rfl) rfl ?_|refine AOps.p (G7 ((l/4*3:Nat):Int) (by omega) (by omega) rfl rfl) rfl ?_|refine AOps.p (Ap (i:Int) (by omega) (by omega) rfl rfl) rfl ?_|refine AOps.p (Ap (j:Int) (by omega) (by omega) rfl rfl) rfl ?_|refine AOps.p (Ap (k:Int) (by omega) (by omega) rfl rfl) rfl ?_)|refine WK ?_|refine Ai λV=>?_|refine Ay λY=>?_);refine BG (λb:Nat×Nat=>c=(b.1,if b.2=0 then Hint.increasing else if b.2=12 then Hint.decreasing else Hint.unknown)) (λb=>⟨[(0,.sl X 0 n),(3,.fn f cap),(11,.ptr V 0 0),(13,iA b.1)],(V,.row 3 1 [iA b.2])::(X,.row 71 3 (d.toList.map (AA false)))::Sf⟩) ?_ ?_
 ·refine AWP.cond rfl (λh8=>?_) (λh8=>?_)
  ·have h8:l>=8:=by have:=of_decide_eq_true h8;omega
   rw[if_pos h8]at hc;(repeat first|refine WK ?_|refine Ai λX=>?_|refine Ay λY=>?_);refine BG (λb:Nat×Nat×Nat×Nat=>b.1<d.size/\b.2.1<d.size/\b.2.2.1<d.size/\b.2.2.2<=100/\(if l>=50 then median (AI cf) d (medianAdjacent (AI cf) d i 0).1 (medianAdjacent (AI cf) d j (medianAdjacent (AI cf) d i 0).2).1 (medianAdjacent (AI cf) d k (medianAdjacent (AI cf) d j (medianAdjacent (AI cf) d i 0).2).2).1 (medianAdjacent (AI cf) d k (medianAdjacent (AI cf) d j (medianAdjacent (AI cf) d i 0).2).2).2 else median (AI cf) d i j k 0)=median (AI cf) d b.1 b.2.1 b.2.2.1 b.2.2.2) (λb=>⟨[(0,.sl X 0 n),(3,.fn f cap),(11,.ptr V 0 0),(12,iA b.1),(13,iA b.2.1),(14,iA b.2.2.1)],(V,.row 3 1 [iA b.2.2.2])::(X,.row 71 3 (d.toList.map (AA false)))::Sf⟩) ?_ ?_
   ·refine AWP.cond rfl (λh50=>?_) (λh50=>?_)
    ·have h50:l>=50:=by have:=of_decide_eq_true h50;omega
     have a1:=Gf (AI cf) d i 0 _ (show i+1<d.size by omega);have b1:=Ge (AI cf) d (i-1) i (i+1) 0;have s1:=Fk f cap cf hst hcf X V n d i 0 hn (by omega) (by omega) hz (by omega);rw[if_pos h50];have e1:(median (AI cf) d (i-1) i (i+1) 0).2=(medianAdjacent (AI cf) d i 0).2:=rfl;rw[e1]at b1;obtain⟨⟨p1,q1⟩,r1⟩:∃r,medianAdjacent (AI cf) d i 0=r:=⟨_,rfl⟩;rw[r1]at a1 b1 s1⊢;dsimp only at a1 b1 s1⊢;have a2:=Gf (AI cf) d j q1 _ (show j+1<d.size by omega);have b2:=Ge (AI cf) d (j-1) j (j+1) q1;have s2:=Fk f cap cf hst hcf X V n d j q1 hn (by omega) (by omega) hz (by omega);have e2:(median (AI cf) d (j-1) j (j+1) q1).2=(medianAdjacent (AI cf) d j q1).2:=rfl;rw[e2]at b2;obtain⟨⟨p2,q2⟩,r2⟩:∃r,medianAdjacent (AI cf) d j q1=r:=⟨_,rfl⟩;rw[r2]at a2 b2 s2⊢;dsimp only at a2 b2 s2⊢;have a3:=Gf (AI cf) d k q2 _ (show k+1<d.size by omega);have b3:=Ge (AI cf) d (k-1) k (k+1) q2;have s3:=Fk f cap cf hst hcf X V n d k q2 hn (by omega) (by omega) hz (by omega);have e3:(median (AI cf) d (k-1) k (k+1) q2).2=(medianAdjacent (AI cf) d k q2).2:=rfl;rw[e3]at b3;obtain⟨⟨p3,q3⟩,r3⟩:∃r,medianAdjacent (AI cf) d k q2=r:=⟨_,rfl⟩;rw[r3]at a3 b3 s3⊢;dsimp only at a3 b3 s3⊢;(repeat first|(refine AOps.gN ?_;first|(refine AOps.g_callf ?_;first|refine Ks (h:=s1) (hT:=.fz) (k:=?_)|refine Ks (h:=s2) (hT:=.fz) (k:=?_)|refine Ks (h:=s3) (hT:=.fz) (k:=?_)))|refine WK ?_|refine Ai λX=>?_|refine Ay λY=>?_);refine jn (p1,p2,p3,q3) ⟨a1,a2,a3,by dsimp only;omega,rfl⟩
    ·have h50:¬l>=50:=by have:=of_decide_eq_false h50;omega
     rw[if_neg h50];(repeat first|refine WK ?_|refine Ai λX=>?_|refine Ay λY=>?_);refine jn (i,j,k,0) ⟨by dsimp only;omega,by dsimp only;omega,by dsimp only;omega,by dsimp only;omega,rfl⟩
   ·rintro⟨p1,p2,p3,q⟩ ⟨l1,l2,l3,lq,e⟩
    dsimp only at l1 l2 l3 lq e⊢;rw[e]at hc;have h1:=IF f cap cf hst hcf X V n d p1 p2 p3 q hn l1 l2 l3 (by omega);obtain⟨⟨r1,r2⟩,hr⟩:∃r,median (AI cf) d p1 p2 p3 q=r:=⟨_,rfl⟩;rw[hr]at hc h1;dsimp only at h1;(repeat first|(refine AOps.gN ?_;first|(refine AOps.g_callf ?_;first|refine N3 (h:=h1) (hT:=.fz) (k:=?_)))|refine WK ?_|refine Ai λX=>?_|refine Ay λY=>?_);refine jn (r1,r2) hc.symm
  ·have h8:¬l>=8:=by have:=of_decide_eq_false h8;omega
   rw[if_neg h8]at hc;(repeat first|refine WK ?_|refine Ai λX=>?_|refine Ay λY=>?_);refine jn (j,0) hc.symm
 ·rintro⟨p,s⟩ hc
  dsimp only at hc⊢;subst hc;(repeat first|refine WK ?_|refine Ai λX=>?_|refine Ay λY=>?_);refine AWP.cond rfl (λh0=>?_) (λh0=>?_)
  ·have h0:s=0:=by have:=of_decide_eq_true h0;omega
   rw[if_pos h0];(repeat first|refine WK ?_|refine Ai λX=>?_|refine Ay λY=>?_);refine RT ?_;exact AS [iA p,iA 1] [(X,_)] ⟨rfl,rfl⟩
  ·have h0:¬s=0:=by have:=of_decide_eq_false h0;omega
   rw[if_neg h0];(repeat first|refine WK ?_|refine Ai λX=>?_|refine Ay λY=>?_);refine AWP.cond rfl (λh1=>?_) (λh1=>?_)
   ·have h1:s=12:=by have:=of_decide_eq_true h1;omega
    rw[if_pos h1];(repeat first|refine WK ?_|refine Ai λX=>?_|refine Ay λY=>?_);refine RT ?_;exact AS [iA p,iA 2] [(X,_)] ⟨rfl,rfl⟩
   ·have h1:¬s=12:=by have:=of_decide_eq_false h1;omega
    rw[if_neg h1];(repeat first|refine WK ?_|refine Ai λX=>?_|refine Ay λY=>?_);refine RT ?_;exact AS [iA p,iA 0] [(X,_)] ⟨rfl,rfl⟩
end
section
open Go.Sort
set_option maxHeartbeats 1000000 in
theorem Q5(f:FuncId)(cap:List AV)(cf:Item->Item->Int)(hst:Bm cap=true)(hcf:∀x y,PS Tryz.prog f ((AA false) x::(AA false) y::cap) (iA (cf x y)))(hS:SWO (AI cf)):∀(m X n:Nat) (d:Array Item) (a b limit:Nat),b-a<=m->n=d.size->a<=b->b<=d.size->d.size<65536->limit<=1000->Below (AI cf) a b d->Spec Tryz.prog 157 [.sl X 0 n,iA a,iA b,iA limit,.fn f cap] [(X,.row 71 3 (d.toList.map (AA false)))] λr S'=>∃u:Array Item,(PermIn a b d u/\SortedIn (AI cf) a b u)/\r= .tup []/\S'=[(X,.row 71 3 (u.toList.map (AA false)))]:=by
 intro m
 induction m using Nat.strongRecOn with
 |_ m ih=>
 intro X n d a b limit hm hn hab hb hz hlim hB;refine Spec.of (nt:=148) (res:=[]) Tryz.func157 rfl (by kernel_rfl) rfl rfl rfl λSf=>?_
 (repeat first|refine WK ?_|refine Ai λX=>?_|refine Ay λY=>?_);refine Rs (λ(a b limit:Nat) (wb wp:Bool) (u:Array Item)=>⟨[(0,.sl X 0 n),(1,iA a),(2,iA b),(3,iA limit),(4,.fn f cap),(10,bA wb),(11,bA wp)],(X,.row 71 3 (u.toList.map (AA false)))::Sf⟩) (λa' b' limit wb wp u=>a' <=b' /\b' <=d.size/\b'-a' <=b-a/\limit<=1000/\u.size=d.size/\Below (AI cf) a' b' u/\∀R,PermIn a' b' u R->SortedIn (AI cf) a' b' R->PermIn a b d R/\SortedIn (AI cf) a b R) (λa b _ _ _ _=>b-a) a b limit true true d ⟨hab,hb,Nat.le_refl _,hlim,rfl,hB,λR h1 h2=>⟨h1,h2⟩⟩ ?_;rintro a' b' limit wb wp u ⟨hab',hb',hmm,hlim,hu,hB',hG⟩;obtain⟨l,hl⟩:∃l,b'-a'=l:=⟨_,rfl⟩;refine AWP.block ?_;(repeat first|(refine AOps.gN ?_;first|refine AOps.p (AZ ((l:Int)) (by omega) (by omega) rfl rfl) rfl ?_)|refine WK ?_|refine Ai λX=>?_|refine Ay λY=>?_);refine AWP.cond rfl (λhc=>?_) (λhc=>?_)
 ·have hs:=RL f cap cf hst hcf X n u a' b' (by omega) hab' (by omega) (by omega)
  obtain⟨p1,p2⟩:=insertionSort_holds (lt:=(AI cf)) hS u a' b' hab' (by omega);(repeat first|(refine AOps.gN ?_;first|(refine AOps.g_callf ?_;first|refine FP (h:=(hs ..)) (k:=?_)))|refine WK ?_|refine Ai λX=>?_|refine Ay λY=>?_);refine RT ?_;exact BO [(X,_)] ⟨_,hG _ p1 p2,rfl,rfl⟩
 have hl12:12<l:=by have:=of_decide_eq_false hc;omega
 (repeat first|refine WK ?_|refine Ai λX=>?_|refine Ay λY=>?_);refine AWP.cond rfl (λhc=>?_) (λhc=>?_)
 ·have hs:=Pw f cap cf hst hcf X n u a' b' (by omega) (by omega) (by omega) (by omega)
  obtain⟨p1,p2⟩:=heapSort_holds (lt:=(AI cf)) hS u a' b' hab' (by omega);(repeat first|(refine AOps.gN ?_;first|(refine AOps.g_callf ?_;first|refine FP (h:=(hs ..)) (k:=?_)))|refine WK ?_|refine Ai λX=>?_|refine Ay λY=>?_);refine RT ?_;exact BO [(X,_)] ⟨_,hG _ p1 p2,rfl,rfl⟩
 have hl0:0<limit:=by have:=of_decide_eq_false hc;omega
 (repeat first|refine WK ?_|refine Ai λX=>?_|refine Ay λY=>?_);refine BG (λb:Nat×Array Item=>b.1<=1000/\PermIn a' b' u b.2) (λb=>⟨[(0,.sl X 0 n),(1,iA a'),(2,iA b'),(3,iA b.1),(4,.fn f cap),(10,bA wb),(11,bA wp),(12,iA l)],(X,.row 71 3 (b.2.toList.map (AA false)))::Sf⟩) ?_ ?_
 ·refine AWP.cond rfl (λhd=>?_) (λhd=>?_)
  ·have hs:=Ri (f:=f) (cap:=cap) X n u a' b' (by omega) hab' (by omega) (by omega)
   (repeat first|(refine AOps.gN ?_;first|(refine AOps.g_callf ?_;first|refine Qj (h:=hs) (k:=λv hv=>?_))|refine AOps.p (AZ (((limit-1:Nat):Int)) (by omega) (by omega) rfl rfl) rfl ?_)|refine WK ?_|refine Ai λX=>?_|refine Ay λY=>?_);exact jn (limit-1,v) ⟨by dsimp only;omega,hv⟩
  ·(repeat first|refine WK ?_|refine Ai λX=>?_|refine Ay λY=>?_)
   exact jn (limit,u) ⟨hlim,permIn_refl _ _ _⟩
 rintro⟨lim1,u1⟩ ⟨hlim1,hP1⟩;dsimp only at hlim1 hP1⊢;have hu1:u1.size=d.size:=hP1.1.trans hu;have hpv:=Hf f cap cf hst hcf X n u1 a' b' (by omega) (by omega) (by omega) (by omega);obtain⟨c1,c2⟩:=choosePivot_holds (AI cf) u1 a' b' (by omega);obtain⟨⟨p,h⟩,hp⟩:∃c,choosePivot (AI cf) u1 a' b'=c:=⟨_,rfl⟩;rw[hp]at hpv c1 c2;dsimp only at hpv c1 c2;obtain⟨hnum,hhn⟩:∃hnum,R5 h=hnum:=⟨_,rfl⟩;rw[hhn]at hpv;(repeat first|(refine AOps.gN ?_;first|(refine AOps.g_callf ?_;first|refine FP (h:=(hpv ..)) (k:=?_)))|refine WK ?_|refine Ai λX=>?_|refine Ay λY=>?_);refine BG (λb:Nat×Int×Array Item=>a' <=b.1/\b.1<b' /\PermIn a' b' u b.2.2) (λb=>⟨[(0,.sl X 0 n),(1,iA a'),(2,iA b'),(3,iA lim1),(4,.fn f cap),(10,bA wb),(11,bA wp),(12,iA l),(13,iA b.1),(14,iA b.2.1)],(X,.row 71 3 (b.2.2.toList.map (AA false)))::Sf⟩) ?_ ?_
 ·refine AWP.cond rfl (λhd=>?_) (λhd=>?_)
  ·have hs:=Qv (f:=f) (cap:=cap) X n u1 a' b' (by omega) (by omega) (by omega) (by omega)
   have hrp:=reverseRange_holds u1 a' b' hab' (by omega);(repeat first|(refine AOps.gN ?_;first|(refine AOps.g_callf ?_;first|refine FP (h:=(hs ..)) (k:=?_))|refine AOps.p (AZ (((b'-1:Nat):Int)) (by omega) (by omega) rfl rfl) rfl ?_|refine AOps.p (AZ (((p-a':Nat):Int)) (by omega) (by omega) rfl rfl) rfl ?_|refine AOps.p (AZ (((b'-1-(p-a'):Nat):Int)) (by omega) (by omega) rfl rfl) rfl ?_)|refine WK ?_|refine Ai λX=>?_|refine Ay λY=>?_);exact jn (b'-1-(p-a'),1,_) ⟨by dsimp only;omega,by dsimp only;omega,permIn_trans _ _ _ _ _ hP1 hrp⟩
  ·(repeat first|refine WK ?_|refine Ai λX=>?_|refine Ay λY=>?_)
   exact jn (p,hnum,u1) ⟨c1,c2,hP1⟩
 rintro⟨pv,hn2,u2⟩ ⟨c3,c4,hP2⟩;dsimp only at c3 c4 hP2⊢;have hu2:u2.size=d.size:=hP2.1.trans hu;have hB2:=hB'.perm (by omega) hP2;clear hpv hp hhn c1 c2 p h hnum;refine AWP.seq ?_;refine HB (λv:Array Item=>PermIn a' b' u v) (λv=>⟨[(0,.sl X 0 n),(1,iA a'),(2,iA b'),(3,iA lim1),(4,.fn f cap),(10,bA wb),(11,bA wp),(12,iA l),(13,iA pv)],(X,.row 71 3 (v.toList.map (AA false)))::Sf⟩) ?_ ?_
 ·(repeat first|refine WK ?_|refine Ai λX=>?_|refine Ay λY=>?_)
  refine AWP.cond rfl (λ_=>?_) (λ_=>?_)
  ·have hs:=PQ f cap cf hst hcf X n u2 a' b' (by omega) (by omega) (by omega) (by omega)
   have hpi:=partialInsertionSort_holds (lt:=(AI cf)) hS u2 a' b' (by omega) (by omega) hB2;obtain⟨⟨v,fl⟩,hv⟩:∃v,partialInsertionSort (AI cf) u2 a' b'=v:=⟨_,rfl⟩;rw[hv]at hs hpi;dsimp only at hs hpi;(repeat first|(refine AOps.gN ?_;first|(refine AOps.g_callf ?_;first|refine FP (h:=(hs ..)) (k:=?_)))|refine WK ?_|refine Ai λX=>?_|refine Ay λY=>?_);refine AWP.cond rfl (λhe=>?_) (λhe=>?_)
   ·refine RT ?_
    exact BO [(X,_)] ⟨v,hG v (permIn_trans _ _ _ _ _ hP2 hpi.1) (hpi.2 he),rfl,rfl⟩
   ·(repeat first|refine WK ?_|refine Ai λX=>?_|refine Ay λY=>?_)
    exact jnR v (permIn_trans _ _ _ _ _ hP2 hpi.1)
  ·(repeat first|refine WK ?_|refine Ai λX=>?_|refine Ay λY=>?_)
   exact jnR u2 hP2
 rintro u3 hP3;have hu3:u3.size=d.size:=hP3.1.trans hu;have hB3:=hB'.perm (by omega) hP3;have hg3:∀R,PermIn a' b' u3 R->SortedIn (AI cf) a' b' R->PermIn a b d R/\SortedIn (AI cf) a b R:=λR h1 h2=>hG R (permIn_trans _ _ _ _ _ hP3 h1) h2
 clear hB2 hP2 hu2 u2 hP1 hu1 u1 hG hB' hn2;refine AWP.seq ?_;refine HB (λ_:Unit=>True) (λ_=>⟨[(0,.sl X 0 n),(1,iA a'),(2,iA b'),(3,iA lim1),(4,.fn f cap),(10,bA wb),(11,bA wp),(12,iA l),(13,iA pv)],(X,.row 71 3 (u3.toList.map (AA false)))::Sf⟩) ?_ ?_
 ·rcases Bool.eq_false_or_eq_true (decide ((0:Int)<(a':Int)))with g|g
  ·have hg:0<a':=by have:=of_decide_eq_true g;omega
   have h1:=Af (AA false) (d:=u3) (i:=a'-1) (by omega);have h2:=Af (AA false) (d:=u3) (i:=pv) (by omega);have hl2:=hcf (u3[a'-1]!) (u3[pv]!);(repeat refine WF ?_);refine RU ?_;(repeat first|(refine RGo.gN ?_;first|(refine RGo.g_callv ?_;first|refine RGo.k2 (h:=(hl2 ..)) (k:=?_))|refine RGo.go (h:=AZ (((a'-1:Nat):Int)) (by omega) (by omega) rfl rfl) (k:=?_))|(refine RGo.gQ ?_;first|(refine RGo.g_callv ?_;first|refine RGo.k2 (h:=(hl2 ..)) (k:=?_))|refine RGo.go (h:=AZ (((a'-1:Nat):Int)) (by omega) (by omega) rfl rfl) (k:=?_))|refine RK ?_|refine RGo.nil (by kernel_rfl) ?_);(repeat refine WF ?_);refine AWP.cond rfl (λhd=>?_) (λhd=>?_)
   ·have hd:(!(AI cf) u3[a'-1]! u3[pv]!)=true:=by simpa[g,AI]using hd
    have hd:(AI cf) u3[a'-1]! u3[pv]! =false:=by simpa[AI]using hd
    have hs:=Q4 f cap cf hst hcf X n u3 a' b' pv (by omega) c3 c4 (by omega) (by omega);obtain⟨⟨mid,d4⟩,hx⟩:∃x,partitionEqual (AI cf) u3 a' b' pv=x:=⟨_,rfl⟩;rw[hx]at hs;dsimp only at hs;obtain⟨q1,q2,q3,q4,q5⟩:=round_eq (lt:=(AI cf)) hS (partitionEqual_holds (AI cf)) hg c3 c4 (by omega) hB3 hd hx;(repeat first|(refine AOps.gN ?_;first|(refine AOps.g_callf ?_;first|refine Ga (h:=(hs ..)) (k:=?_)))|refine WK ?_|refine Ai λX=>?_|refine Ay λY=>?_);refine IH mid b' lim1 wb wp d4 ⟨q2,hb',by omega,hlim1,q3.trans hu3,q4,λR k1 k2=>?_⟩;obtain⟨k3,k4⟩:=q5 R k1 k2;exact hg3 R k3 k4
   ·(repeat first|refine WK ?_|refine Ai λX=>?_|refine Ay λY=>?_)
    exact jnR () trivial
  ·(repeat refine WF ?_)
   refine RU ?_;(repeat first|refine RK ?_|refine RGo.nil (by kernel_rfl) ?_);(repeat refine WF ?_);refine AE rfl (by simp[g]) ?_;(repeat first|refine WK ?_|refine Ai λX=>?_|refine Ay λY=>?_);exact jnR () trivial
 rintro _ _;have hs:=PW f cap cf hst hcf X n u3 a' b' pv (by omega) c3 c4 (by omega) (by omega);obtain⟨⟨mid,ap,d4⟩,hx⟩:∃x,partition (AI cf) u3 a' b' pv=x:=⟨_,rfl⟩;rw[hx]at hs;dsimp only at hs;obtain⟨r1,r2,r3,r4,r5,r6,r7⟩:=round_part (lt:=(AI cf)) hS (partition_holds (AI cf)) c3 c4 (by omega) hB3 hx;(repeat first|(refine AOps.gN ?_;first|(refine AOps.g_callf ?_;first|refine Ga (h:=(hs ..)) (k:=?_))|refine AOps.p (AZ (((mid-a':Nat):Int)) (by omega) (by omega) rfl rfl) rfl ?_|refine AOps.p (AZ (((b'-mid:Nat):Int)) (by omega) (by omega) rfl rfl) rfl ?_|refine AOps.p (I5 l 8 (l/8) rfl rfl (by omega) rfl (by omega) rfl rfl) rfl ?_)|refine WK ?_|refine Ai λX=>?_|refine Ay λY=>?_);refine AWP.cond rfl (λhd=>?_) (λhd=>?_)
 ·have hrec:=ih (mid-a') (by omega) X n d4 a' mid lim1 (Nat.le_refl _) (by omega) r1 (by omega) (by omega) hlim1 r4
  (repeat first|(refine AOps.gN ?_;first|(refine AOps.g_callf ?_;first|refine MN (h:=hrec) (k:=λv hv=>?_))|refine AOps.p (Ap (((mid+1:Nat):Int)) (by omega) (by omega) rfl rfl) rfl ?_)|refine WK ?_|refine Ai λX=>?_|refine Ay λY=>?_);obtain⟨v1,v2⟩:=hv;obtain⟨s1,s2⟩:=r6 v v1 v2;refine IH (mid+1) b' lim1 _ ap v ⟨by omega,hb',by omega,hlim1,v1.1.trans (r3.trans hu3),s1,λR k1 k2=>?_⟩;obtain⟨k3,k4⟩:=s2 R k1 k2;exact hg3 R k3 k4
 ·have hrec:=ih (b'-(mid+1)) (by omega) X n d4 (mid+1) b' lim1 (Nat.le_refl _) (by omega) (by omega) (by omega) (by omega) hlim1 r5
  (repeat first|(refine AOps.gN ?_;first|(refine AOps.g_callf ?_;first|refine MN (h:=hrec) (k:=λv hv=>?_))|refine AOps.p (Ap (((mid+1:Nat):Int)) (by omega) (by omega) rfl rfl) rfl ?_)|refine WK ?_|refine Ai λX=>?_|refine Ay λY=>?_);obtain⟨v1,v2⟩:=hv;obtain⟨s1,s2⟩:=r7 v v1 v2;refine IH a' mid lim1 _ ap v ⟨by omega,by omega,by omega,hlim1,v1.1.trans (r3.trans hu3),s1,λR k1 k2=>?_⟩;obtain⟨k3,k4⟩:=s2 R k1 k2;exact hg3 R k3 k4
end
section
open Go.Sort
set_option maxRecDepth 8000 in
theorem KM(f:FuncId)(cap:List AV)(cf:Item->Item->Int)(hst:Bm cap=true)(hS:SWO (AI cf))(hf:∀x y,PS Tryz.prog f (AA false x::AA false y::cap) (iA (cf x y)))(X n:Nat)(l:List Item)(hn:n=l.length)(hlt:l.length<65536):
  Spec Tryz.prog 76 [.sl X 0 n,.fn f cap] [(X,.row 71 3 (l.map (AA false)))] λr S'=>∃u:List Item,(u.Perm l/\u.Pairwise λa b=>AI cf b a=false)/\r= .tup []/\S'=[(X,.row 71 3 (u.map (AA false)))]:=by
 have e1:(UInt64.ofNat n).toNat=n:=by rw[UInt64.toNat_ofNat'];omega
 have hlen:=Mp (UInt64.ofNat n) (by rw[e1];omega);rw[e1]at hlen;have hsz:l.toArray.size=l.length:=by simp
 have hb:bitsLen n<=1000:=Nat.le_trans ((bitsLen_le_iff n 16).2 (by show n<65536;omega)) (by decide);have hs:=Q5 f cap cf hst hf hS n X n l.toArray 0 n (bitsLen n) (by omega) (by omega) (Nat.zero_le _) (by omega) (by omega) hb (.inl rfl);simp only[List.toList_toArray]at hs;refine Spec.of (nt:=14) (res:=[]) Tryz.func76 rfl (by kernel_rfl) rfl rfl rfl λSf=>?_
 (repeat first|(refine AOps.gN ?_;first|(refine AOps.g_callf ?_;first|refine AOps.c1 (h:=(hlen ..)) (k:=?_))|refine Rx [] (h:=hs) (λu hu=>?_)|refine AOps.p (Kl .i64 n rfl (by omega) (by kernel_rfl) (by kernel_rfl) rfl) rfl ?_)|refine WK ?_|refine Ai λX=>?_|refine Ay λY=>?_);refine DX ?_;obtain⟨h1,h2⟩:=hu;have h1':PermIn 0 l.toArray.size l.toArray u:=by rw[hsz,<-hn];exact h1
 have hus:n=u.size:=by rw[h1'.1,hsz];exact hn
 exact BO [(X,_)] ⟨u.toList,⟨by simpa using HH h1',FS hus h2⟩,rfl,rfl⟩
end
theorem N8(x y:Item):PS Tryz.prog 77 [AA false x,AA false y] (iA (By x.ent.n y.ent.n)):=by
 have h:=DK x.ent.n y.ent.n;obtain⟨⟨xn,xg⟩,xc⟩:=x;obtain⟨⟨yn,yg⟩,yc⟩:=y;refine Spec.of (nt:=12) (res:=[.tmp 4]) Tryz.func77 rfl (by kernel_rfl) rfl rfl rfl λSf=>?_
 refine RG ?_;(repeat first|(refine AOps.gN ?_;first|(refine AOps.g_box ?_;refine Az ?_))|refine WO ?_|refine Ai λX=>?_|refine Ay λY=>?_);refine NL ?_;refine FL ?_;refine RG ?_;(repeat first|(refine AOps.gN ?_;first|(refine AOps.g_callf ?_;first|refine AOps.c2 (h:=(h ..)) (k:=?_)))|refine WO ?_|refine Ai λX=>?_|refine Ay λY=>?_);refine NL ?_;refine RT ?_;refine AN ?_;rfl
theorem Qd{P:Program}{ty:TypeId}{pos:String}{after:Array Edge}{dst:Option Tmp}{c:Option (List Bool)}{g:Option (Nat×Bool)}{T:List (Nat×AV)}{S:List AB}{x0:Operand}{v0:AV}{f:FuncId}{ats:Array TypeId}{r v:AV}[hf:Frz r v](h0:Rd c T x0 v0)(h:PS P f [v0] r)(ht:Aa [(x0,v0)]=true):Stp c P ⟨dst,.call ⟨.value (.func f),#[x0],ats⟩,ty,pos,after,g⟩ T S [(x0,v0)] [] v []:=hf.h▸W.call1 h0 h ht
theorem Hy(t:Tab):(BX t).length=t.es.length:=List.length_map _
theorem OM{t:Tab}{i:Nat}(h:i<t.es.length):(BX t)[i]?=some ⟨t.es[i].2,AJ t t.es[i].1⟩:=by
 rw[BX,List.getElem?_map,List.getElem?_eq_getElem h];rfl
set_option maxRecDepth 8000 in
set_option maxHeartbeats 4000000 in
theorem NK(a:Ar)(ha:ArOK a)(hne:Dg a.ts)(hk16:a.kinds.length<=16)(hkf:∀k∈a.kinds,k.fields.length<=8)(hgl:a.gens.length<=256)(hcv:∀it∈AU a.ts,CsL it.comps):
  Spec Tryz.prog 22 [.ptr a.A 0 0] (arS a) λr S'=>∃L:List Item,(L.Perm (AU a.ts)/\L.Pairwise λx y=>x.ent.n<=y.ent.n)/\r=wdA false ⟨a.kinds,a.gens,L⟩/\S'=arS a:=by
 have hkp:=HL a.kinds (by omega) (λk hk=>by have:=hkf k hk;omega);have hcl:=Iu a.G a.gens a.gens.length rfl (by omega);have htl:=ha.ts_le hne;have hpt:(ptrs Tab.X a.ts).length=a.ts.length:=List.length_map _;refine Spec.of (nt:=51) (res:=[.cell 2 26]) Tryz.func22 rfl (by kernel_rfl) rfl rfl rfl λSf=>?_
 refine RG ?_;(repeat first|refine WO ?_|refine Ai λZ=>?_|refine Ay λY=>?_);refine NL ?_;refine FL ?_;refine AWP.rs λV=>?_
 refine RU ?_;(repeat first|(refine RGo.gN ?_;first|(refine RGo.g_callf ?_;first|refine RGo.c1 (h:=(hkp ..)) (k:=?_)|refine E2 (h:=hcl) (hT:=.fz) (k:=?_)))|(refine RGo.gQ ?_;first|(refine RGo.g_callf ?_;first|refine RGo.c1 (h:=(hkp ..)) (k:=?_)|refine E2 (h:=hcl) (hT:=.fz) (k:=?_)))|refine RK ?_|refine RGo.nil (by kernel_rfl) ?_);refine FL ?_;refine AWP.adoptIn (Y:=V) 71 3 (by exact At.f) (λI=>.cons (.agg (.cons .same (.cons .same (.cons (.base .nil) .nil)))) .nil) λI=>?_
 refine RG ?_;(repeat first|refine WO ?_|refine Ai λX=>?_|refine Ay λY=>?_);refine NL ?_;refine FL ?_;refine DR (λ(j I:Nat) (its:List Item)=>⟨[(2,.ptr Z 0 0),(3,.ptr V 0 0),(22,.sl a.Tb 0 a.ts.length),(23,iA (a.ts.length:Nat)),(24,iA j)],(I,.row 71 3 (its.map (AA false)))::(V,.row 26 3 [.agg [As false false a.kinds,AQ false a.gens,.sl I 0 its.length]])::(Z,.row 26 3 [.agg [.prim (.slice none 0 0),.prim (.slice none 0 0),.prim (.slice none 0 0)]])::(arS a++Sf)⟩) (λj _ its=>j<=a.ts.length/\its=AU (a.ts.take j)) (λj _ _=>a.ts.length-j) 0 I [] ⟨by omega,rfl⟩ ?_;rintro j I its ⟨hj,hits⟩;refine RG ?_;(repeat first|refine WO ?_|refine Ai λX=>?_|refine Ay λY=>?_);refine NL ?_;refine FL ?_;refine AWP.cond rfl (λh=>?_) (λh=>?_)
 ·have h:j<a.ts.length:=by rw[decide_eq_true_eq]at h;omega
  obtain⟨l1,l2,hsp,hl1⟩:=EK h;have htm:=List.getElem_mem h;have hto:=ha.tab _ htm;have hten:=ha.ent _ htm;have hat:(ptrs Tab.X a.ts)[j]?=some (.ptr a.ts[j].X 0 0):=Ah _ h
  have hnext:AU (a.ts.take (j+1))=its++BX a.ts[j]:=by
   rw[List.take_succ_eq_append_getElem h,BW,<-hits,Bd];simp[AU]
  have hcvt:∀it∈BX a.ts[j],CsL it.comps:=λit hi=>hcv it (List.mem_flatMap.2 ⟨_,htm,hi⟩)
  have hbnd:its.length+(BX a.ts[j]).length<=256:=by
   have h1:=ha.c_le;rw[ha.cnt,ha.keys_items,List.length_map]at h1
   have h2:AU a.ts=its++BX a.ts[j]++AU l2:=by
    conv=>lhs;rw[hsp]
    rw[BW,Bd,hits,<-List.append_assoc]
    have:l1=a.ts.take j:=by
     have:=congrArg (List.take j) hsp;rw[List.take_left' hl1]at this;exact this.symm
    rw[this]
   rw[h2,List.length_append,List.length_append]at h1;omega
  obtain⟨t,ht⟩:∃t,a.ts[j]=t:=⟨_,rfl⟩;rw[ht]at hsp hto hten hat hnext hcvt hbnd;obtain⟨Z2,hZ2⟩:∃Z2,Aq l1++(Aq l2++Sf)=Z2:=⟨_,rfl⟩;have hop:=Ci (l1:=l1) (l2:=l2) (t:=t) Sf;rw[<-hsp,hZ2]at hop;refine FL ?_;refine RG ?_;(repeat first|(refine AOps.gN ?_;first|refine AOps.go (h:=W.idx rfl rfl (by exact At.f) rfl (by omega) (Nat.zero_add _)) (k:=?_))|refine WO ?_|refine Ai λP5=>?_|refine Ay λY=>?_);refine NL ?_;refine FL ?_;refine AWP.perm (S':=(I,.row 71 3 (its.map (AA false)))::(P5,.row 145 1 [.ptr t.X 0 0])::(V,.row 26 3 [.agg [As false false a.kinds,AQ false a.gens,.sl I 0 its.length]])::(Db t++((Z,.row 26 3 [.agg [.prim (.slice none 0 0),.prim (.slice none 0 0),.prim (.slice none 0 0)]])::(arH a++Z2)))) ?_ ?_
  ·refine(List.Perm.swap _ _ _).trans (List.Perm.cons _ (List.Perm.cons _ (List.Perm.cons _ ?_)))
   have h1:=hop.append_left ((Z,AO.row 26 3 [.agg [.prim (.slice none 0 0),.prim (.slice none 0 0),.prim (.slice none 0 0)]])::arH a);refine(List.Perm.of_eq ?_).trans (h1.trans (BZ ((Z,AO.row 26 3 [.agg [.prim (.slice none 0 0),.prim (.slice none 0 0),.prim (.slice none 0 0)]])::arH a) (Db t) Z2));rw[arS];simp only[List.cons_append,List.nil_append]
  have hal:=Rl t.ek t.es hto.es;have hI:=QU (AC t.es) (t.es.map (·.2)) (by simp) (by have:=hto.es.len;rw[List.length_map];omega);refine RG ?_;(repeat first|(refine AOps.gN ?_;first|refine N4 [_,_,_,_] (h:=hal) (k:=?_))|refine WO ?_|refine Ai λX=>?_|refine Ay λY=>?_);refine NL ?_;refine FL ?_;refine NU (Sf:=(Z,.row 26 3 [.agg [.prim (.slice none 0 0),.prim (.slice none 0 0),.prim (.slice none 0 0)]])::(arH a++Z2)) hI (λb:Nat×List Item=>(b.1,AO.row 71 3 (b.2.map (AA false)))::(P5,.row 145 1 [.ptr t.X 0 0])::(V,.row 26 3 [.agg [As false false a.kinds,AQ false a.gens,.sl b.1 0 b.2.length]])::Db t) (λi b=>b.2=its++(BX t).take i) (I,its) (by simp) ?_ ?_ rfl rfl rfl ?_ ?_
  ·rintro i vs ⟨I,is⟩ l F1 F2 hi hb
   dsimp only at hb
   have hn:i<t.es.length:=by
    have:=(List.getElem?_eq_some_iff.1 hi).1;simpa using this
   have hiv:[iA t.es[i].1,AX t.es[i].2]=vs:=by
    rw[List.getElem?_map,List.getElem?_eq_getElem (by simpa using hn),List.getElem_zip]at hi;simpa using hi
   subst hiv;have hem:=List.getElem_mem hn;have hnk:t.es[i].1∈AC t.es:=List.mem_map.2 ⟨_,hem,rfl⟩;have hnl:=hto.es.lt _ hnk;have hcs:=Ly t t.es[i].1 hto (by constructor<;>omega) hnk;have hti:=OM hn;have hci:=hcvt _ (List.mem_of_getElem? hti);have hcc:=GS (AJ t t.es[i].1) hci.1 hci.2;have hil:i<(BX t).length:=by rw[Hy];exact hn
   have hnx:is++[⟨t.es[i].2,AJ t t.es[i].1⟩]=its++(BX t).take (i+1):=by
    rw[hb,List.take_add_one,hti,List.append_assoc];rfl
   have hisl:is.length<=256:=by rw[hb,List.length_append,List.length_take];omega
   obtain⟨⟨en,ee⟩,hee⟩:∃e,t.es[i]=e:=⟨_,rfl⟩;rw[hee]at hcs hcc hnx;rw[hee];dsimp only at hcs hcc hnx⊢;obtain⟨lc,hlc⟩:∃lc,AJ t en=lc:=⟨_,rfl⟩;rw[hlc]at hcs hcc hnx;have hma:is.map (AA false)++[AA false ⟨ee,lc⟩]=(is++[(⟨ee,lc⟩:Item)]).map (AA false):=by rw[List.map_append];rfl
   have hml:is.length+[AA false ⟨ee,lc⟩].length=(is++[(⟨ee,lc⟩:Item)]).length:=by rw[List.length_append];rfl
   refine FL ?_;refine RG ?_;(repeat first|refine WO ?_|refine Ai λX=>?_|refine Ay λY=>?_);refine NL ?_;refine FL ?_;refine RG ?_;(repeat first|refine WO ?_|refine Ai λE7=>?_|refine Ay λY=>?_);refine NL ?_;refine⟨(E7,.row 32 2 [AX ee])::(I,.row 71 3 (is.map (AA false)))::(P5,AO.row 145 1 [.ptr t.X 0 0])::(V,.row 26 3 [.agg [As false false a.kinds,AQ false a.gens,.sl I 0 is.length]])::Db t,.refl _,?_⟩;refine FL ?_;refine AWP.rs λY=>?_
   (repeat refine WF ?_);refine En 5 (by kernel_rfl) (by kernel_rfl) ?_;refine RGoT.go ?_;refine RGoT.go ?_;refine RGoT.go ?_;refine RGoT.go ?_;refine RGoT.go ?_;refine RGoT.callK (xs:=[(.tmp 38,.ptr t.X 0 0),(.tmp 39,iA en)]) (L:=[_,_,_,_,_]) (R:=F2) hcs (.fz (v:=Aj false false lc)) rfl (Nat.le_refl 5) (.cons rfl (.cons rfl .nil)) rfl rfl ?_;refine RGoT.go (h:=Qd (v:=Aj false false lc) rfl hcc rfl) ?_;refine RGoT.go ?_;refine RGoT.go (v:=.lst false 71 3 [AA false ⟨ee,lc⟩]) (h:=W.litF1 (v0:=AA false ⟨ee,lc⟩) rfl rfl (.inl rfl) (by decide) (by decide) rfl) ?_;refine RGoT.goS (h:=W.app (X:=I) (Y:=Y) rfl rfl (by exact At.f) (by exact At.f) (by rw[List.length_map]) (by rw[List.length_map];show(is.length+1)*40<=_;omega) (by rw[List.length_map];unfold maxLen;show is.length+1<=_;omega) (by decide)) ?_;refine RGoT.go ?_;refine RGoT.goS ?_;refine RGoT.nil (by kernel_rfl) ?_;rw[hma,hml];refine⟨(Y,.row 71 3 ((is++[(⟨ee,lc⟩:Item)]).map (AA false)))::(P5,AO.row 145 1 [.ptr t.X 0 0])::(V,.row 26 3 [.agg [As false false a.kinds,AQ false a.gens,.sl Y 0 (is++[(⟨ee,lc⟩:Item)]).length]])::Db t,?_,(Y,is++[(⟨ee,lc⟩:Item)]),hnx,rfl⟩;exact .cons _ (.cons _ (.refl _))
  ·rintro⟨I,is⟩ hb
   dsimp only at hb;have hxl:((AC t.es).zip (t.es.map (·.2))).length=t.es.length:=by simp
   rw[List.length_map,hxl,<-Hy,List.take_length]at hb;refine FL ?_;refine AWP.perm (S':=(P5,.row 145 1 [.ptr t.X 0 0])::(I,.row 71 3 (is.map (AA false)))::(V,.row 26 3 [.agg [As false false a.kinds,AQ false a.gens,.sl I 0 is.length]])::(Z,.row 26 3 [.agg [.prim (.slice none 0 0),.prim (.slice none 0 0),.prim (.slice none 0 0)]])::(arS a++Sf)) ?_ ?_
   ·refine(List.Perm.swap _ _ _).trans (List.Perm.cons _ (List.Perm.cons _ (List.Perm.cons _ ?_)))
    have h1:=hop.append_left ((Z,AO.row 26 3 [.agg [.prim (.slice none 0 0),.prim (.slice none 0 0),.prim (.slice none 0 0)]])::arH a);refine List.Perm.trans (BZ (Db t) ((Z,AO.row 26 3 [.agg [.prim (.slice none 0 0),.prim (.slice none 0 0),.prim (.slice none 0 0)]])::arH a) Z2) (h1.symm.trans (List.Perm.of_eq ?_));rw[arS];simp only[List.cons_append,List.nil_append]
   ·refine RG ?_;(repeat first|refine WO ?_|refine Ai λX=>?_|refine Ay λY=>?_);refine NL ?_
    exact B6 (j+1) I is ⟨by omega,by rw[hb,hnext]⟩ (by omega)
  ·intro vs hvs
   obtain⟨q,_,rfl⟩:=List.mem_map.1 hvs;rfl
  ·exact .refl _
 ·have h:j=a.ts.length:=by rw[decide_eq_false_iff_not]at h;omega
  subst h;rw[List.take_length]at hits
  have hilen:its.length<=256:=by
   have h1:=ha.c_le;rw[ha.cnt,ha.keys_items,List.length_map]at h1;rw[hits];omega
  have hso:=KM 77 [] (λx y=>By x.ent.n y.ent.n) rfl (KL λx:Item=>x.ent.n) N8 I its.length its rfl (by omega);refine FL ?_;refine RG ?_;(repeat first|(refine AOps.gN ?_;first|refine Hr [] (h:=hso) (λu hu=>?_))|refine WO ?_|refine Ai λX=>?_|refine Ay λY=>?_);refine NL ?_;obtain⟨hu1,hu2⟩:=hu;have hul:=hu1.length_eq
  have hF:Al (((u.map (AA false)).drop 0).take its.length)=u.map (AA false):=by
   rw[List.drop_zero,List.take_of_length_le (by rw[List.length_map];omega)];exact Frzs.h
  refine FL ?_;refine AWP.iceIn (X:=I) (Y:=V) .here (.next .here) rfl (.cons (.agg (.cons .same (.cons .same (.cons (.base (.sl (by rw[List.length_map];omega))) .nil)))) .nil) ?_;rw[hF];refine RG ?_;(repeat first|refine WO ?_|refine Ai λX=>?_|refine Ay λY=>?_);refine NL ?_;refine RT ?_
  exact AS [wdA false ⟨a.kinds,a.gens,u⟩] (arS a) ⟨u,⟨by rw[<-hits];exact hu1,hu2.imp λ{x y} h=>by
   simp only[AI,decide_eq_false_iff_not,Ex]at h;omega⟩,rfl,rfl⟩
abbrev QK(b:Bool)(l:List Bool):AV:=.lst b 4 1 (l.map bA)
theorem ArFor.sorted{a:Ar}{w:Wd}(h:ArFor a w){L:List Item}(hp:L.Perm (AU a.ts))(hs:L.Pairwise λx y=>x.ent.n<=y.ent.n):L=w.items:=by
 refine List.Perm.eq_of_pairwise (le:=λx y=>x.ent.n<=y.ent.n) (λx y hx hy h1 h2=>?_) hs (h.wok.so.imp λh=>by omega) (hp.trans h.items);exact GH (key:=λx:Item=>x.ent.n) h.wok.so ((hp.trans h.items).mem_iff.1 hx) hy (by omega)
theorem S0{d:List Bool}{i n:Nat}{b:Bool}(hd:d.length=i)(h:i<n):((d++List.replicate (n-i) false).map bA).set i (bA b)=((d++[b])++List.replicate (n-(i+1)) false).map bA:=by
 rw[<-List.map_set]
 congr 1
 rw[List.set_append_right _ _ (by omega),hd,Nat.sub_self,show n-i=(n-(i+1))+1 by omega,List.replicate_succ,List.set_cons_zero,List.append_assoc];rfl
structure CmdsL(ks:List Kind)(l:List Cmd):Prop where
 ok:∀c∈l,(CS ks c).2=0
 n:∀c∈l,I64 c.ent.n
 l:∀c∈l,c.comps.length<=1099511627776
theorem O7{w v:Wd}{l:List Cmd}{i:Nat}{c:Cmd}{es:List Ent}{ds:List Bool}(h:i<l.length)(hc:l[i]=c)(he:C2 w l=((C2 v (l.drop i)).1,es++(C2 v (l.drop i)).2.1,ds++(C2 v (l.drop i)).2.2)):
  C2 w l=((C2 (D3 v c).1 (l.drop (i+1))).1,(if(D3 v c).2.2=true/\c.act=3 then es++[(D3 v c).2.1]else es)++(C2 (D3 v c).1 (l.drop (i+1))).2.1,(ds++[(D3 v c).2.2])++(C2 (D3 v c).1 (l.drop (i+1))).2.2):=by
 rw[he,List.drop_eq_getElem_cons h,hc,C2];dsimp only;split
 ·simp
 ·simp
set_option maxRecDepth 8000 in
theorem Oy(w:Wd)(l:List Cmd)(hw:WdOK w)(h12:w.kinds.length<=12)(hl:l.length<=131072)(hc:CmdsL w.kinds l):PS Tryz.prog 163 [wdA false w,J5 false l] (.tup [wdA false (C2 w l).1,.lst true 32 2 ((C2 w l).2.1.map AX),QK true (C2 w l).2.2]):=by
 have hof:=Sd w hw;have hlm:(l.map Ca).length=l.length:=List.length_map _;refine Spec.of (nt:=58) (res:=[.cell 4 26,.tmp 5,.tmp 6]) Tryz.func163 rfl (by kernel_rfl) rfl rfl rfl λSf=>?_
 refine RG ?_;(repeat first|(refine AOps.gN ?_;first|(refine AOps.g_box ?_;refine Az ?_))|refine WO ?_|refine Ai λP=>?_|refine Ay λY=>?_);refine NL ?_;refine FL ?_;refine RG ?_;(repeat first|(refine AOps.gN ?_;first|refine N5 [_] (h:=hof) (k:=λa ha=>?_))|refine WO ?_|refine Ai λX=>?_|refine Ay λY=>?_);refine NL ?_;obtain⟨a1,a2,a3,a4,a5⟩:=ha;have hf:ArFor a w:=⟨a1,a2,a3,a4,a5,hw⟩;refine FL ?_;refine RG ?_;(repeat first|refine WO ?_|refine Ai λX=>?_|refine Ay λY=>?_);refine NL ?_;refine AE rfl rfl ?_;refine FL ?_;refine RG ?_;(repeat first|refine WO ?_|refine Ai λX=>?_|refine Ay λY=>?_);refine NL ?_;refine FL ?_;refine RG ?_;(repeat first|(refine AOps.gN ?_;first|(refine DW ?_;refine E3 (bA false) λK=>?_))|refine WO ?_|refine Ai λD=>?_|refine Ay λY=>?_);refine NL ?_;refine FL ?_;refine RG ?_;(repeat first|refine WO ?_|refine Ai λX=>?_|refine Ay λY=>?_);refine NL ?_;refine FL ?_;refine AWP.adopt (d:=9) 32 2 rfl λO=>?_
 refine DR (λ(i Y:Nat) (z:Ar×Wd×List Ent×List Bool)=>⟨[(2,.fp (wdA false w).cells),(4,.ptr P 0 0),(7,.ptr a.A 0 0),(9,.sl Y 0 z.2.2.1.length),(10,.sl K 0 (l.map Ca).length),(26,J5 false l),(27,iA (l.map Ca).length),(28,iA i)],(Y,.row 32 2 (z.2.2.1.map AX))::(K,.row 4 1 ((z.2.2.2++List.replicate (l.length-i) false).map bA))::(P,.row 26 3 [.agg [.prim (.slice none 0 0),.prim (.slice none 0 0),.prim (.slice none 0 0)]])::(arS z.1++Sf)⟩) (λi Y z=>i<=l.length/\ArFor z.1 z.2.1/\z.1.A=a.A/\z.2.1.kinds=w.kinds/\z.2.2.1.length<=i/\z.2.2.2.length=i/\C2 w l=((C2 z.2.1 (l.drop i)).1,z.2.2.1++(C2 z.2.1 (l.drop i)).2.1,z.2.2.2++(C2 z.2.1 (l.drop i)).2.2)) (λi _ _=>l.length-i) 0 O (a,w,[],[]) ⟨Nat.zero_le _,hf,rfl,rfl,Nat.le_refl _,rfl,rfl⟩ ?_ (h0:=⟨by exact Lk.f,by rw[hlm,Nat.sub_zero,List.nil_append,List.map_replicate];exact Sub.f⟩);rintro i Y ⟨z,v,es,ds⟩ ⟨hi,hz,hzA,hvk,hes,hds,hrun⟩;dsimp only at hz hzA hvk hes hds hrun⊢;refine RG ?_;(repeat first|refine WO ?_|refine Ai λX=>?_|refine Ay λY=>?_);refine NL ?_;refine FL ?_;refine AWP.cond rfl (λhb=>?_) (λhb=>?_)
 ·have h:i<l.length:=by rw[decide_eq_true_eq,hlm]at hb;omega
  obtain⟨c,hcc⟩:∃c,l[i]=c:=⟨_,rfl⟩;have hcm:c∈l:=by rw[<-hcc];exact List.getElem_mem h
  have hat:(l.map Ca)[i]?=some (Ca c):=by rw[List.getElem?_map,List.getElem?_eq_getElem h,hcc];rfl
  have hact:=SQ hz (by rw[hvk];exact h12) c (by rw[hvk];exact hc.ok c hcm) (hc.n c hcm) (hc.l c hcm);have hnx:=O7 h hcc hrun;obtain⟨⟨v2,x,ok⟩,hv2⟩:∃q,D3 v c=q:=⟨_,rfl⟩;rw[hv2]at hact hnx;dsimp only at hact hnx;have hnl:i<((ds++List.replicate (l.length-i) false).map bA).length:=by rw[List.length_map,List.length_append,List.length_replicate];omega
  have hset:=S0 (b:=ok) hds h
  have hvk2:v2.kinds=w.kinds:=by
   have:=(Ny hz.wok (c:=c) (by rw[hvk];exact hc.ok c hcm)).2;rw[hv2]at this;exact this.trans hvk
  rw[<-hzA];refine FL ?_;refine RG ?_;(repeat first|refine WO ?_|refine Ai λC=>?_|refine Ay λY=>?_);refine NL ?_;refine FL ?_;refine RG ?_;(repeat first|(refine AOps.gN ?_;first|refine Hr [_,_,_,_] (h:=hact) (k:=λb hb2=>?_))|refine WO ?_|refine Ai λV=>?_|refine Ay λY=>?_);refine NL ?_;obtain⟨hb1,hb2⟩:=hb2;refine FL ?_;refine RG ?_;(repeat first|refine WO ?_|refine Ai λX=>?_|refine Ay λY=>?_);refine NL ?_;dsimp only[AM,List.set_cons_zero,List.set_cons_succ,List.cons_append,List.nil_append];rw[hset];refine FL ?_;have hEl:(es.map AX).length=es.length:=List.length_map _;cases ok with
  |false=>
   rw[if_neg (by simp)]at hnx;refine RG ?_;(repeat first|refine WO ?_|refine Ai λX=>?_|refine Ay λY=>?_);refine NL ?_;refine AE rfl rfl ?_;refine FL ?_;refine RG ?_;(repeat first|refine WO ?_|refine Ai λX=>?_|refine Ay λY=>?_);refine NL ?_;exact B6 (i+1) Y (b,v2,es,ds++[false]) ⟨h,hb1,hb2,hvk2,by dsimp only;omega,by rw[List.length_append,hds];rfl,hnx⟩ (by omega)
  |true=>
   refine RG ?_;(repeat first|refine WO ?_|refine Ai λX=>?_|refine Ay λY=>?_);refine NL ?_;refine AWP.cond rfl (λh3=>?_) (λh3=>?_)
   ·have h3:c.act=3:=of_decide_eq_true h3
    rw[if_pos ⟨rfl,h3⟩]at hnx;refine FL ?_;have hb1':(es.map AX).length+1<=1099511627776:=by omega
    refine RG ?_;(repeat first|(refine AOps.gN ?_;first|(refine AOps.g_lit ?_;refine AOps.goL (AX x) ?_))|refine WO ?_|refine Ai λX=>?_|refine Ay λY=>?_);refine NL ?_;refine FL ?_;dsimp only[AM,List.set_cons_zero,List.set_cons_succ,List.cons_append,List.nil_append];have hm1:es.map AX++[AX x]=(es++[x]).map AX:=by rw[List.map_append];rfl
    have hm2:es.length+[AX x].length=(es++[x]).length:=by rw[List.length_append];rfl
    rw[hm1,hm2];refine RG ?_;(repeat first|refine WO ?_|refine Ai λX=>?_|refine Ay λY=>?_);refine NL ?_;exact B6 (i+1) Y (b,v2,es++[x],ds++[true]) ⟨h,hb1,hb2,hvk2,by rw[List.length_append];show es.length+1<=i+1;omega,by rw[List.length_append,hds];rfl,hnx⟩ (by omega)
   ·have h3:¬c.act=3:=of_decide_eq_false h3
    rw[if_neg (λe=>h3 e.2)]at hnx;refine FL ?_;refine RG ?_;(repeat first|refine WO ?_|refine Ai λX=>?_|refine Ay λY=>?_);refine NL ?_;exact B6 (i+1) Y (b,v2,es,ds++[true]) ⟨h,hb1,hb2,hvk2,by dsimp only;omega,by rw[List.length_append,hds];rfl,hnx⟩ (by omega)
 ·have h:i=l.length:=by rw[decide_eq_false_iff_not,hlm]at hb;omega
  subst h;rw[List.drop_length]at hrun;simp only[C2,List.append_nil]at hrun;have hkk:=BL hz.wok.ks;have har:=NK z hz.ok hz.ne (by rw[hz.kinds];exact hkk.1) (λk hk=>(Ce (hkk.2 k (by rw[<-hz.kinds];exact hk))).2.1) (by rw[hz.gens];exact hz.wok.gl) (λit hit=>(hz.wok.wl.items.2 it (hz.items.mem_iff.1 hit)));rw[<-hzA];refine FL ?_;refine RG ?_;(repeat first|(refine AOps.gN ?_;first|refine N5 [_,_,_] (h:=har) (k:=λL hL=>?_))|refine WO ?_|refine Ai λX=>?_|refine Ay λY=>?_);refine NL ?_;have hLe:=hz.sorted hL.1 hL.2;refine RT ?_;rw[hrun];have hv:(⟨z.kinds,z.gens,L⟩:Wd)=v:=by rw[hz.kinds,hz.gens,hLe]
  rw[hv,Nat.sub_self,List.replicate_zero,List.append_nil];dsimp only[AM,List.set_cons_zero,List.set_cons_succ,List.cons_append,List.nil_append];exact BT [wdA false v,.sl Y 0 es.length,.sl K 0 (l.map Ca).length] [wdA false v,.lst true 32 2 (es.map AX),QK true ds] (.cons (.cell .same) (.cons (.cell (.sl (p:=0) .here (by rw[List.length_map]))) (.cons (.cell (.sl (p:=0) .here (by rw[hlm,List.length_map,hds]))) .nil))) (hS:=by repeat (first|exact List.sublist_append_right _ _|apply List.Sublist.cons))
theorem QQ(w:Wd)(l:List Cmd)(hw:WdOK w)(h12:w.kinds.length<=12)(hl:l.length<=131072)(hc:CmdsL w.kinds l):PS Tryz.prog 80 [wdA false w,J5 false l] (.tup [wdA false (C2 w l).1,GR (C2 w l).2.1,iA 0]):=by
 have hck:=HR w l hw.wl h12 (by omega) hc.l;rw[cmdErr_iff.2 ⟨hw,hl,hc.ok⟩]at hck;have hrn:=Oy w l hw h12 hl hc;refine Spec.of (nt:=27) (res:=[.cell 4 26,.tmp 5,.tmp 6]) Tryz.func80 rfl (by kernel_rfl) rfl rfl rfl λSf=>?_
 refine RG ?_;(repeat first|(refine AOps.gN ?_;first|(refine AOps.g_box ?_;refine Az ?_))|refine WO ?_|refine Ai λP=>?_|refine Ay λY=>?_);refine NL ?_;refine FL ?_;refine RG ?_;(repeat first|(refine AOps.gN ?_;first|(refine AOps.g_callf ?_;first|refine AOps.c2 (h:=(hck ..)) (k:=?_)))|refine WO ?_|refine Ai λX=>?_|refine Ay λY=>?_);refine NL ?_;refine FL ?_;refine RG ?_;(repeat first|refine WO ?_|refine Ai λX=>?_|refine Ay λY=>?_);refine NL ?_;refine AE rfl rfl ?_;refine FL ?_;refine RG ?_;(repeat first|(refine AOps.gN ?_;first|(refine AOps.g_callf ?_;first|refine AOps.c2 (h:=(hrn ..)) (k:=?_)))|refine WO ?_|refine Ai λV=>?_|refine Ay λY=>?_);refine NL ?_;refine FL ?_;refine RG ?_;(repeat first|refine WO ?_|refine Ai λX=>?_|refine Ay λY=>?_);refine NL ?_;refine RT ?_;exact GZ (rs:=[wdA false (C2 w l).1,GR (C2 w l).2.1,iA 0]) rfl
theorem Rj:WdOK baseWd:=(Ax _).1 (by decide)
def R6:AV:=.agg [As false false [E1],AQ false [0],SJ true baseWd.items]
theorem QN:PS Tryz.prog 54 [] R6:=by
 refine Spec.of (nt:=14) (res:=[.cell 0 26]) Tryz.func54 rfl (by kernel_rfl) rfl rfl rfl λSf=>?_
 refine RG ?_;(repeat first|refine WO ?_|refine Ai λP=>?_|refine Ay λY=>?_);refine NL ?_;refine FL ?_;refine RG ?_;(repeat first|refine WO ?_|refine Ai λX=>?_|refine Ay λY=>?_);refine NL ?_;refine FL ?_;refine AWP.rs λC=>AWP.rs λI=>?_
 refine RG ?_;(repeat first|(refine AOps.gN ?_;first|refine AOps.s (W.lit1 (X:=C) (l:=[AD false ⟨0,[9]⟩]) (by exact rfl) (by exact At.f) (by exact rfl) (by exact .inl rfl) (by decide) (by decide) (by exact rfl)) rfl ?_|refine AOps.s (W.lit1 (X:=I) (l:=[.agg [iA 0,iA 0,.sl C 0 1]]) (by exact rfl) (by exact At.f) (by exact rfl) (by exact .inl rfl) (by decide) (by decide) (by exact rfl)) rfl ?_)|refine WO ?_|refine Ai λX=>?_|refine Ay λY=>?_);refine AOps.nil ?_;refine AWP.closeIn (X:=C) (Y:=I) (by exact At.f) (by exact At.f) rfl rfl (.head (.agg (.tail (.tail (.head .here))))) ?_;refine RT ?_;exact BT [.agg [As false false [E1],AQ false [0],.sl I 0 1]] [R6] (.cons (.agg (.cons .same (.cons .same (.cons (.sl (p:=0) .here rfl) .nil)))) .nil)
def Kk:Wd:=⟨[E1],[0],[⟨⟨0,0⟩,[⟨0,[8]⟩]⟩]⟩
theorem QO:WdOK Kk:=(Ax _).1 (by decide)
theorem S5:Ey baseWd Kk=[⟨0,0,0⟩]:=by decide
theorem OW:PS Tryz.prog 24 [] (bA true):=by
 have hch:=Iw baseWd Kk Rj QO rfl;rw[S5]at hch;have heq:=Oq [⟨0,0,0⟩] [⟨0,0,0⟩] (by decide);refine Spec.of (nt:=27) (res:=[.tmp 0]) Tryz.func24 rfl (by kernel_rfl) rfl rfl rfl λSf=>?_
 refine RG ?_;(repeat first|refine WO ?_|refine Ai λX=>?_|refine Ay λY=>?_);refine NL ?_;refine FL ?_;refine AWP.rs λI=>?_
 refine RG ?_;have hb:PS Tryz.prog 54 [] (.agg [As false false [E1],AQ false [0],.lst true 71 3 [R2 ⟨⟨0,0⟩,[⟨0,[9]⟩]⟩]]):=QN;refine Ru (h:=hb) (hT:=.v (.agg (.cons .fz (.cons .fz (.cons (.lst (Y:=I) rfl) .nil))))) (k:=?_);(repeat first|refine WO ?_|refine Ai λV=>?_|refine Ay λY=>?_);refine FL ?_;refine AWP.thawIn (Y:=I) (by exact At.f) (λ_=>.head (.agg (.tail (.tail (.head .here))))) λC=>?_
 refine RG ?_;(repeat first|refine WO ?_|refine Ai λX=>?_|refine Ay λY=>?_);refine NL ?_;refine FL ?_;refine AWP.iceIn (X:=C) (Y:=I) (by exact At.f) (by exact At.f) rfl (.cons (.agg (.cons .same (.cons .same (.cons (.base (.sl (by decide))) .nil)))) .nil) ?_;refine AWP.iceIn (X:=I) (Y:=V) (by exact At.f) (by exact At.f) rfl (.cons (.agg (.cons .same (.cons .same (.cons (.base (.sl (by decide))) .nil)))) .nil) ?_;refine RU ?_;(repeat first|(refine RGo.gN ?_;first|(refine RGo.g_callf ?_;first|refine RGo.c2 (h:=(hch ..)) (k:=?_)|refine RGo.c0 (h:=(Hp ..)) (k:=?_)))|(refine RGo.gQ ?_;first|(refine RGo.g_callf ?_;first|refine RGo.c2 (h:=(hch ..)) (k:=?_)|refine RGo.c0 (h:=(Hp ..)) (k:=?_)))|refine RK ?_|refine RGo.nil (by kernel_rfl) ?_);(repeat refine WF ?_);refine RG ?_;(repeat first|(refine AOps.gN ?_;first|(refine AOps.g_callf ?_;first|refine AOps.c2 (h:=(heq ..)) (k:=?_))|(refine AOps.g_lit ?_;refine AOps.goL (Bv ⟨0,0,0⟩) ?_))|refine WO ?_|refine Ai λX=>?_|refine Ay λY=>?_);refine NL ?_;refine RT ?_;refine AN ?_;rfl
theorem Q1(w:Wd)(n:Int)(h:w.items=[]):PS Tryz.prog 16 [wdA false w,iA n] (.tup [AX ⟨0,0⟩,bA false]):=by
 refine Spec.of (nt:=21) (res:=[.cell 4 32,.tmp 5]) Tryz.func16 rfl (by kernel_rfl) rfl rfl rfl λSf=>?_
 refine RG ?_;(repeat first|(refine AOps.gN ?_;first|(refine AOps.g_box ?_;refine Az ?_))|refine WO ?_|refine Ai λR=>?_|refine Ay λY=>?_);refine NL ?_;(repeat first|refine WK ?_|refine Ai λX=>?_|refine Ay λY=>?_);refine AR rfl (by rw[h];rfl) ?_;(repeat first|refine WK ?_|refine Ai λX=>?_|refine Ay λY=>?_);refine RT ?_;exact BT [AX ⟨0,0⟩,bA false] [AX ⟨0,0⟩,bA false] (.cons (.agg (.cons .same (.cons .same .nil))) (.cons (.cell .same) .nil))
theorem PR(w:Wd)(n:Int)(i:Nat)(it:Item)(hi:n%(w.items.length:Int)=i)(h:w.items[i]?=some it)(hl:w.items.length<=4611686018427387904):PS Tryz.prog 16 [wdA false w,iA n] (.tup [AX it.ent,bA true]):=by
 have him:(w.items.map (AA false)).length=w.items.length:=List.length_map _;have hil:i<w.items.length:=(List.getElem?_eq_some_iff.1 h).1;have hb:=E0 n (w.items.map (AA false)).length (by omega) (by omega);rw[him,hi,<-him]at hb;obtain⟨⟨en,eg⟩,cs⟩:=it;have hat:(w.items.map (AA false))[i]?=some (AA false ⟨⟨en,eg⟩,cs⟩):=by rw[List.getElem?_map,h];rfl
 refine Spec.of (nt:=21) (res:=[.cell 4 32,.tmp 5]) Tryz.func16 rfl (by kernel_rfl) rfl rfl rfl λSf=>?_
 refine RG ?_;(repeat first|(refine AOps.gN ?_;first|(refine AOps.g_box ?_;refine Az ?_))|refine WO ?_|refine Ai λR=>?_|refine Ay λY=>?_);refine NL ?_;(repeat first|refine WK ?_|refine Ai λX=>?_|refine Ay λY=>?_);refine AE rfl (decide_eq_false (by omega)) ?_;refine RU ?_;(repeat first|(refine RGo.gN ?_;first|refine RGo.c2 (h:=hb) (k:=?_))|(refine RGo.gQ ?_;first|refine RGo.c2 (h:=hb) (k:=?_))|refine RK ?_|refine RGo.nil (by kernel_rfl) ?_);refine RT ?_;exact BT [AX ⟨en,eg⟩,bA true] [AX ⟨en,eg⟩,bA true] (.cons (.agg (.cons .same (.cons .same .nil))) (.cons (.cell .same) .nil))
def B7(c:Nat)(n:Int)(l:List Int):List Int:=(List.range c).map λj=>l.getD j n
theorem Ee(c:Nat)(n:Int)(l:List Int):(B7 c n l).length=c:=by simp[B7]
theorem FY(c:Nat)(n:Int)(l:List Int):B7 (c+1) n l=B7 c n l++[l.getD c n]:=by simp[B7,List.range_succ]
theorem Rf(ks:List Kind)(n:Int)(l:List Int)(i:Nat)(hil:i<ks.length)(hi:n%(ks.length:Int)=i)(h8:(ks[i]).fields.length<=8)(hlen:ks.length<=1099511627776):
  PS Tryz.prog 19 [As false false ks,iA n,AQ false l] (AD false ⟨i,B7 (ks[i]).fields.length n l⟩):=by
 refine Spec.of (nt:=42) (res:=[.cell 6 42]) Tryz.func19 rfl (by kernel_rfl) rfl rfl rfl λSf=>?_
 have hb0:PS Tryz.prog 67 [iA n,iA (ks.map (Au false)).length] (iA i):=by
  have:=E0 n (ks.length:Int) (by omega) (by omega);rw[hi]at this;simpa using this
 (repeat first|(refine AOps.gN ?_;first|(refine AOps.g_callf ?_;first|refine AOps.c2 (h:=(hb0 ..)) (k:=?_)))|refine WK ?_|refine Ai λX=>?_|refine Ay λY=>?_);rename_i R;refine AWP.adoptIn 3 1 .here (λF=>.cons (.agg (.cons .same (.cons (.base .nil) .nil))) .nil) λF=>?_
 refine DR (λ(j F:Nat) (L:List AV)=>⟨[(1,iA n),(2,AQ false l),(6,.ptr R 0 0),(7,.ptr X 0 0),(21,iA ((ks[i]).fields.map fieldA).length),(22,iA j)],(F,.row 3 1 L)::(X,.row 42 2 [.agg [iA i,.sl F 0 j]])::(R,.row 42 2 [.agg [iA 0,.prim (.slice none 0 0)]])::Sf⟩) (λj _ L=>j<=(ks[i]).fields.length/\L=(B7 j n l).map iA) (λj _ _=>(ks[i]).fields.length-j) 0 F [] ⟨Nat.zero_le _,rfl⟩ ?_;rintro j F L ⟨hj,hL⟩;have hLl:L.length=j:=by rw[hL,List.length_map,Ee]
 (repeat first|refine WK ?_|refine Ai λX=>?_|refine Ay λY=>?_);refine AWP.cond rfl (λhb=>?_) (λhb=>?_)
 ·have h:j<(ks[i]).fields.length:=by rw[decide_eq_true_eq,List.length_map]at hb;omega
  (repeat first|refine WK ?_|refine Ai λX=>?_|refine Ay λY=>?_);refine AWP.cond rfl (λhc=>?_) (λhc=>?_)
  ·have hc:j<l.length:=by simpa using hc
   (repeat first|refine WK ?_|refine Ai λX=>?_|refine Ay λY=>?_);refine B6 (j+1) _ _ ⟨h,?_⟩;rw[FY,List.map_append,hL,show l.getD j n=l[j]from by simp[List.getD_eq_getElem?_getD,hc]];rfl
  ·have hc:¬j<l.length:=by simpa using hc
   (repeat first|refine WK ?_|refine Ai λX=>?_|refine Ay λY=>?_);refine B6 (j+1) _ _ ⟨h,?_⟩;rw[FY,List.map_append,hL,show l.getD j n=n from by simp[List.getD_eq_getElem?_getD,List.getElem?_eq_none (Nat.le_of_not_lt hc)]];rfl
 ·have h:j=(ks[i]).fields.length:=by rw[decide_eq_false_iff_not,List.length_map]at hb;omega
  subst h;refine FL ?_;refine AWP.iceIn (X:=F) .here (.next .here) rfl (.cons (.agg (.cons .same (.cons (.base (.sl (by omega))) .nil))) .nil) ?_
  have hF:Al ((L.drop 0).take (ks[i]).fields.length)=(B7 (ks[i]).fields.length n l).map iA:=by
   rw[List.drop_zero,List.take_of_length_le (by omega),hL];exact Frzs.h
  rw[hF];(repeat first|refine WK ?_|refine Ai λX=>?_|refine Ay λY=>?_);refine RT ?_;refine GZ (rs:=[AD false ⟨i,B7 (ks[i]).fields.length n l⟩]) rfl (.cons (.cell (p:=2) rfl (.next (.next .here)) TAg.h TSize.h rfl rfl) rfl .nil)
theorem Lj(l:List Int):0<(Dx l).kinds.length/\(Dx l).kinds.length<=4:=⟨Ka l,(IZ l).1⟩
theorem Ow{ks:List Kind}(hk:A6 ks=0){i:Nat}(hi:i<ks.length)(n:Int)(l:List Int):Fb ks ⟨i,B7 (ks[i]).fields.length n l⟩:=by
 refine⟨by dsimp only;omega,by dsimp only;omega,ks[i],by dsimp only;rw[Int.toNat_natCast,List.getElem?_eq_getElem hi],?_⟩;rw[If ((BL hk).2 _ (List.getElem_mem hi)) (by rw[Ee])]
theorem KZ(n:Int){m:Nat}(h:0<m):∃i:Nat,n%(m:Int)=i/\i<m:=
 ⟨(n%(m:Int)).toNat,by have:=Int.emod_nonneg n (b:=(m:Int)) (by omega);omega,by have:=Int.emod_lt_of_pos n (b:=(m:Int)) (by omega);have:=Int.emod_nonneg n (b:=(m:Int)) (by omega);omega⟩
def pickP(w:Wd)(n:Int):Ent×Bool:=match w.items[(n%(w.items.length:Int)).toNat]? with
 |some it=>(it.ent,true)
 |none=>(⟨0,0⟩,false)
theorem PT(w:Wd)(n:Int)(hl:w.items.length<=4611686018427387904):PS Tryz.prog 16 [wdA false w,iA n] (.tup [AX (pickP w n).1,bA (pickP w n).2]):=by
 unfold pickP;cases h:w.items with
 |nil=>exact Q1 w n h
 |cons it l=>
  obtain⟨i,hi,hil⟩:=KZ n (m:=(it::l).length) (by simp);have h2:w.items[i]?=some (it::l)[i]:=by rw[h];exact List.getElem?_eq_getElem hil
  have:=PR w n i (it::l)[i] (by rw[h];exact hi) h2 hl;rw[hi,Int.toNat_natCast,List.getElem?_eq_getElem hil];exact this
def KP(ks:List Kind)(b:Int)(l:List Int):Comp:=match ks[(b%(ks.length:Int)).toNat]? with
 |some k=>⟨b%(ks.length:Int),B7 k.fields.length b l⟩
 |none=>⟨0,[]⟩
def IA(w:Wd)(l:List Int)(i:Nat):Cmd:=
 if(pickP w (l.getD i 0)).2=false\/(l.getD (i+1) 0).tmod 4=0 then⟨3,⟨0,0⟩,0,[]⟩else
 ⟨l.getD (i+1) 0%3,(pickP w (l.getD i 0)).1,l.getD i 0%(w.kinds.length:Int),[KP w.kinds (l.getD i 0) (l.drop i)]⟩
def Bg(w:Wd)(l:List Int):List Cmd:=(List.range (l.length/2)).map λj=>IA w l (2*j)
def FE(w:Wd)(l:List Int):Wd:=if l.length/2<=131072 then(C2 w (Bg w l)).1 else w
theorem Qx{w:Wd}(hw:WdOK w)(h0:0<w.kinds.length)(b:Int)(l:List Int):Fb w.kinds (KP w.kinds b l)/\(KP w.kinds b l).vals.length<=8:=by
 obtain⟨k,hk,hkl⟩:=KZ b h0;have hka:w.kinds[k]?=some w.kinds[k]:=List.getElem?_eq_getElem hkl
 have hrc:KP w.kinds b l=⟨(k:Nat),B7 (w.kinds[k]).fields.length b l⟩:=by
  unfold KP;rw[hk,Int.toNat_natCast,hka]
 have h8:=(Ce ((BL hw.ks).2 _ (List.getElem_mem hkl))).2.1;rw[hrc];exact⟨Ow hw.ks hkl b l,by show(B7 _ _ _).length<=8;rw[Ee];exact h8⟩
theorem Q3{w:Wd}(hw:WdOK w)(n:Int):I64 (pickP w n).1.n:=by
 unfold pickP;split
 ·rename_i it hit
  have:=hw.it it (List.mem_of_getElem? hit);have:=hw.gl;constructor<;>dsimp only<;>omega
 ·constructor<;>decide
theorem Qw{w:Wd}(hw:WdOK w)(h0:0<w.kinds.length)(l:List Int)(i:Nat):(CS w.kinds (IA w l i)).2=0/\I64 (IA w l i).ent.n/\(IA w l i).comps.length<=1/\∀d∈(IA w l i).comps,d.vals.length<=8:=by
 unfold IA;split
 ·refine⟨?_,⟨by decide,by decide⟩,Nat.zero_le _,λd hd=>by cases hd⟩
  show(CD w.kinds []).2=0
  rw[N9 hw.ks (by rfl)]
 ·obtain⟨hfo,h8⟩:=Qx hw h0 (l.getD i 0) (l.drop i)
  refine⟨?_,Q3 hw _,Nat.le_refl _,λd hd=>?_⟩
  ·have h3:0<=l.getD (i+1) 0%3/\l.getD (i+1) 0%3<3:=by omega
   have hft:=Hu hw.ks hfo;unfold CS;dsimp only;rw[hft];split
   ·rfl
   ·split
    ·obtain⟨k,hk,hkl⟩:=KZ (l.getD i 0) h0
     rw[hk,if_neg (by omega)]
    ·rw[if_pos (by omega)]
  ·rw[List.mem_singleton]at hd
   subst hd;exact h8
theorem GG{w:Wd}(hw:WdOK w)(h0:0<w.kinds.length)(l:List Int):CmdsL w.kinds (Bg w l):=by
 have h:∀c∈Bg w l,∃i,IA w l i=c:=λc hc=>by
  obtain⟨j,_,rfl⟩:=List.mem_map.1 hc;exact⟨_,rfl⟩
 refine⟨λc hc=>?_,λc hc=>?_,λc hc=>?_⟩<;>obtain⟨i,rfl⟩:=h c hc<;>obtain⟨h1,h2,h3,h4⟩:=Qw hw h0 l i
 ·exact h1
 ·exact h2
 ·omega
theorem JG(w:Wd)(l:List Int):(Bg w l).length=l.length/2:=by
 unfold Bg;rw[List.length_map,List.length_range]
theorem Ml{w:Wd}(hw:WdOK w)(h0:0<w.kinds.length)(l:List Int):WdOK (FE w l)/\(FE w l).kinds=w.kinds:=by
 unfold FE;split
 ·exact Na hw (GG hw h0 l).ok
 ·exact⟨hw,rfl⟩
theorem QR(w:Wd)(l:List Cmd)(hw:WdL w)(h12:w.kinds.length<=12)(hl:l.length<=1099511627776)(hc:∀c∈l,c.comps.length<=1099511627776)(e:Int)(he:Fw w l=e)(h0:e≠0):PS Tryz.prog 80 [wdA false w,J5 false l] (.tup [wdA false ⟨[],[],[]⟩,GR [],iA e]):=by
 have hck:=HR w l hw h12 hl hc;rw[he]at hck;refine Spec.of (nt:=27) (res:=[.cell 4 26,.tmp 5,.tmp 6]) Tryz.func80 rfl (by kernel_rfl) rfl rfl rfl λSf=>?_
 refine RG ?_;(repeat first|(refine AOps.gN ?_;first|(refine AOps.g_box ?_;refine Az ?_))|refine WO ?_|refine Ai λP=>?_|refine Ay λY=>?_);refine NL ?_;refine FL ?_;refine RG ?_;(repeat first|(refine AOps.gN ?_;first|(refine AOps.g_callf ?_;first|refine AOps.c2 (h:=(hck ..)) (k:=?_)))|refine WO ?_|refine Ai λX=>?_|refine Ay λY=>?_);refine NL ?_;refine FL ?_;refine RG ?_;(repeat first|refine WO ?_|refine Ai λX=>?_|refine Ay λY=>?_);refine NL ?_;refine AR rfl (decide_eq_true h0) ?_;refine FL ?_;refine RG ?_;(repeat first|refine WO ?_|refine Ai λX=>?_|refine Ay λY=>?_);refine NL ?_;refine RT ?_;exact BT [SE,.prim (.slice none 0 0),iA e] [wdA false ⟨[],[],[]⟩,GR [],iA e] (.cons (.agg (.cons .nil (.cons .nil (.cons .nil .nil)))) (.cons (.cell .nil) (.cons (.cell .same) .nil)))
def C4(w:Wd)(l:List Int)(j:Nat):List Cmd:=(List.range j).map λj=>IA w l (2*j)
theorem KQ(w:Wd)(l:List Int)(j:Nat):C4 w l (j+1)=C4 w l j++[IA w l (2*j)]:=by
 unfold C4;rw[List.range_succ,List.map_append];rfl
theorem LK(w:Wd)(l:List Int)(j:Nat):(C4 w l j).length=j:=by unfold C4;rw[List.length_map,List.length_range]
set_option maxRecDepth 8000 in
set_option maxHeartbeats 4000000 in
theorem PX(w:Wd)(l:List Int)(hw:WdOK w)(h0:0<w.kinds.length)(h12:w.kinds.length<=12)(hl:l.length<=1048576):PS Tryz.prog 25 [wdA false w,AQ false l] (wdA false (FE w l)):=by
 have hlm:(l.map iA).length=l.length:=List.length_map _;have hkm:(w.kinds.map (Au false)).length=w.kinds.length:=List.length_map _;have hil:=hw.il;have hgl:=hw.gl;have hk16:=(BL hw.ks).1;refine Spec.of (nt:=89) (res:=[.cell 4 26]) Tryz.func25 rfl (by kernel_rfl) rfl rfl rfl λSf=>?_
 refine RG ?_;(repeat first|(refine AOps.gN ?_;first|(refine AOps.g_box ?_;refine Az ?_))|refine WO ?_|refine Ai λR=>?_|refine Ay λY=>?_);refine NL ?_;refine FL ?_;refine RG ?_;(repeat first|refine WO ?_|refine Ai λX=>?_|refine Ay λY=>?_);refine NL ?_;refine AE rfl (decide_eq_false (by omega)) ?_;refine FL ?_;refine RG ?_;(repeat first|refine WO ?_|refine Ai λX=>?_|refine Ay λY=>?_);refine NL ?_;refine FL ?_;refine RG ?_;(repeat first|refine WO ?_|refine Ai λX=>?_|refine Ay λY=>?_);refine NL ?_;refine FL ?_;refine AWP.adopt (d:=5) 159 5 rfl λO=>?_
 refine BI (λ(j O:Nat)=>⟨[(1,AQ false l),(2,.fp (wdA false w).cells),(4,.ptr R 0 0),(5,.sl O 0 j),(6,iA (2*j:Nat))],(O,.row 159 5 ((C4 w l j).map Ca))::(R,.row 26 3 [SE])::Sf⟩) (λj _=>j<=l.length/2) (λj _=>l.length/2-j) 0 O (Nat.zero_le _) ?_;rintro j O hj;have hrl:j=((C4 w l j).map Ca).length:=by rw[List.length_map,LK]
 by_cases hjk:j<l.length/2
 ·have h1:2*j+1<l.length:=by omega
  have hd1:decide (((2*j:Nat):Int)+1<((l.map iA).length:Nat))=true:=decide_eq_true (by omega);refine RG ?_;(repeat first|(refine AOps.gN ?_;first|refine AOps.go (h:=Ap (((2*j:Nat):Int)+1) (by omega) (by omega) rfl rfl) (k:=?_))|refine WO ?_|refine Ai λX=>?_|refine Ay λY=>?_);refine NL ?_;refine AR rfl hd1 ?_;obtain⟨n,hn⟩:∃n,l.getD (2*j) 0=n:=⟨_,rfl⟩;obtain⟨a,ha⟩:∃n,l.getD (2*j+1) 0=n:=⟨_,rfl⟩
  have hgt:∀i (h:i<l.length) v,l.getD i 0=v->(l.map iA)[i]?=some (iA v):=λi h v e=>by
   rw[List.getElem?_map,List.getElem?_eq_getElem h,<-e,List.getD_eq_getElem?_getD,List.getElem?_eq_getElem h];rfl
  have hat0:=hgt _ (by omega) _ hn;have hat1:=hgt _ (by omega) _ ha;have hb3:=E0 a 3 (by decide) (by decide);have hbk:=E0 n ((w.kinds.map (Au false)).length:Nat) (by omega) (by omega);have hpk:=PT w n (by omega)
  have hraw:IA w l (2*j)=if(pickP w n).2=false\/a.tmod 4=0 then⟨3,⟨0,0⟩,0,[]⟩else⟨a%3,(pickP w n).1,n%(w.kinds.length:Int),[KP w.kinds n (l.drop (2*j))]⟩:=by
   unfold IA;rw[hn,ha]
  obtain⟨⟨⟨pn,pg⟩,pb⟩,hpe⟩:∃q,pickP w n=q:=⟨_,rfl⟩;rw[hpe]at hpk hraw;dsimp only at hpk hraw;have hnx:=KQ w l j;obtain⟨M,hM⟩:∃M,C4 w l j=M:=⟨_,rfl⟩;rw[hM]at hnx hrl⊢;have hMm:(M.map Ca).length=M.length:=List.length_map _;refine FL ?_;refine AWP.rs λE=>?_
  refine RU ?_;(repeat first|(refine RGo.gN ?_;first|(refine RGo.g_callf ?_;first|refine RGo.c2 (h:=(hpk ..)) (k:=?_))|refine RGo.go (h:=W.idxL rfl rfl rfl hat0) (k:=?_))|(refine RGo.gQ ?_;first|(refine RGo.g_callf ?_;first|refine RGo.c2 (h:=(hpk ..)) (k:=?_))|refine RGo.go (h:=W.idxL rfl rfl rfl hat0) (k:=?_))|refine RK ?_|refine RGo.nil (by kernel_rfl) ?_);(repeat refine WF ?_);refine BG (λq:Bool=>q=true↔(pb=false\/a.tmod 4=0)) (λq=>⟨[(1,AQ false l),(2,.fp (wdA false w).cells),(4,.ptr R 0 0),(5,.sl O 0 j),(6,iA (2*j:Nat)),(7,.ptr E 0 0),(43,bA q)],(E,.row 32 2 [AX ⟨pn,pg⟩])::(O,.row 159 5 (M.map Ca))::(R,.row 26 3 [SE])::Sf⟩) ?_ ?_
  ·cases pb with
   |false=>
    refine RG ?_;(repeat first|(refine AOps.gQ ?_;first|refine AOps.goNU ?_|refine AOps.goNV ?_)|refine WO ?_|refine Ai λX=>?_|refine Ay λY=>?_);refine NL ?_;exact jn true (by simp)
   |true=>
    refine RG ?_;(repeat first|(refine AOps.gN ?_;first|refine AOps.go (h:=Ap (((2*j:Nat):Int)+1) (by omega) (by omega) rfl rfl) (k:=?_)|refine AOps.go (h:=W.idxL (a:=2*j+1) rfl rfl (by omega) hat1) (k:=?_)|refine AOps.go (h:=W.rem rfl rfl (by decide)) (k:=?_))|refine WO ?_|refine Ai λX=>?_|refine Ay λY=>?_);refine NL ?_;exact jn (decide (a.tmod 4=0)) (by simp)
  rintro q hq;cases q with
  |true=>
   rw[hraw,if_pos (hq.1 rfl)]at hnx;refine AR rfl rfl ?_;refine FL ?_;have hb1:(M.map Ca).length+1<=1099511627776:=by omega
   have hm1:M.map Ca++[Ca ⟨3,⟨0,0⟩,0,[]⟩]=(C4 w l (j+1)).map Ca:=by rw[hnx,List.map_append];rfl
   have hj1:j+[Ca ⟨3,⟨0,0⟩,0,[]⟩].length=j+1:=rfl;refine RG ?_;(repeat first|(refine AOps.gN ?_;first|refine AOps.nilT 45 42 2 (.cons .same (.cons .same (.cons .same (.cons .same (.cons (.base .nil) .nil))))) ?_|(refine AOps.g_lit ?_;refine AOps.goL (Ca ⟨3,⟨0,0⟩,0,[]⟩) ?_))|refine WO ?_|refine Ai λX=>?_|refine Ay λY=>?_);refine NL ?_;dsimp only[AM,List.set_cons_zero,List.set_cons_succ,List.cons_append,List.nil_append];rw[hm1,hj1];refine FL ?_;refine RG ?_;(repeat first|(refine AOps.gN ?_;first|refine AOps.go (h:=Ap (((2*j:Nat):Int)+2) (by omega) (by omega) rfl rfl) (k:=?_))|refine WO ?_|refine Ai λX=>?_|refine Ay λY=>?_);refine NL ?_;rw[show(((2*j:Nat):Int)+2)=((2*(j+1):Nat):Int) by omega];exact Ak (j+1) Y hjk (by omega)
  |false=>
   have hq':¬(pb=false\/a.tmod 4=0):=λe=>by cases hq.2 e
   rw[if_neg hq']at hraw;refine AE rfl rfl ?_;obtain⟨k,hk,hkl⟩:=KZ n h0;have hka:w.kinds[k]?=some w.kinds[k]:=List.getElem?_eq_getElem hkl;have h8:=(Ce ((BL hw.ks).2 _ (List.getElem_mem hkl))).2.1;have hcp:=Rf w.kinds n (l.drop (2*j)) k hkl hk h8 (by omega)
   have hrc:KP w.kinds n (l.drop (2*j))=⟨(k:Nat),B7 (w.kinds[k]).fields.length n (l.drop (2*j))⟩:=by
    unfold KP;rw[hk,Int.toNat_natCast,hka]
   rw[<-hrc]at hcp;have hdr:AQ false (l.drop (2*j))= .lst false 3 1 ((l.map iA).drop (2*j)):=by rw[AQ,List.map_drop]
   rw[hdr]at hcp;rw[<-hkm]at hraw;obtain⟨⟨ck,cv⟩,hc⟩:∃c,KP w.kinds n (l.drop (2*j))=c:=⟨_,rfl⟩;rw[hc]at hraw hcp;rw[hraw]at hnx;have hb1:(M.map Ca).length+1<=1099511627776:=by omega
   have hm1:M.map Ca++[Ca ⟨a%3,⟨pn,pg⟩,n%((w.kinds.map (Au false)).length:Nat),[⟨ck,cv⟩]⟩]=(C4 w l (j+1)).map Ca:=by rw[hnx,List.map_append];rfl
   have hj1:j+[Ca ⟨a%3,⟨pn,pg⟩,n%((w.kinds.map (Au false)).length:Nat),[⟨ck,cv⟩]⟩].length=j+1:=rfl;refine FL ?_;refine AWP.rs λY=>?_
   refine RU ?_;(repeat first|(refine RGo.gN ?_;first|(refine RGo.g_callf ?_;first|refine RGo.c3 (h:=(hcp ..)) (k:=?_)|refine RGo.c2 (h:=(hb3 ..)) (k:=?_)|refine RGo.c2 (h:=(hbk ..)) (k:=?_))|refine RGo.go (h:=Ap (((2*j:Nat):Int)+1) (by omega) (by omega) rfl rfl) (k:=?_)|refine RGo.go (h:=W.idxL (a:=2*j+1) rfl rfl (by omega) hat1) (k:=?_)|refine RGo.go (h:=W.idxL rfl rfl rfl hat0) (k:=?_)|refine RGo.go (h:=W.loL (a:=2*j) rfl rfl rfl (by omega)) (k:=?_)|refine RGo.go (v:=.lst false 42 2 [AD false ⟨ck,cv⟩]) (h:=W.litF1 (v0:=AD false ⟨ck,cv⟩) rfl rfl (.inl rfl) (by decide) (by decide) rfl) (k:=?_)|(refine RGo.g_lit ?_;refine RGo.goL (Ca ⟨a%3,⟨pn,pg⟩,n%((w.kinds.map (Au false)).length:Nat),[⟨ck,cv⟩]⟩) ?_))|(refine RGo.gQ ?_;first|(refine RGo.g_callf ?_;first|refine RGo.c3 (h:=(hcp ..)) (k:=?_)|refine RGo.c2 (h:=(hb3 ..)) (k:=?_)|refine RGo.c2 (h:=(hbk ..)) (k:=?_))|refine RGo.go (h:=Ap (((2*j:Nat):Int)+1) (by omega) (by omega) rfl rfl) (k:=?_)|refine RGo.go (h:=W.idxL (a:=2*j+1) rfl rfl (by omega) hat1) (k:=?_)|refine RGo.go (h:=W.idxL rfl rfl rfl hat0) (k:=?_)|refine RGo.go (h:=W.loL (a:=2*j) rfl rfl rfl (by omega)) (k:=?_)|refine RGo.go (v:=.lst false 42 2 [AD false ⟨ck,cv⟩]) (h:=W.litF1 (v0:=AD false ⟨ck,cv⟩) rfl rfl (.inl rfl) (by decide) (by decide) rfl) (k:=?_)|(refine RGo.g_lit ?_;refine RGo.goL (Ca ⟨a%3,⟨pn,pg⟩,n%((w.kinds.map (Au false)).length:Nat),[⟨ck,cv⟩]⟩) ?_))|refine RK ?_|refine RGo.nil (by kernel_rfl) ?_);dsimp only[AM,List.set_cons_zero,List.set_cons_succ,List.cons_append,List.nil_append];rw[hm1,hj1];(repeat refine WF ?_);refine RG ?_;(repeat first|(refine AOps.gN ?_;first|refine AOps.go (h:=Ap (((2*j:Nat):Int)+2) (by omega) (by omega) rfl rfl) (k:=?_))|refine WO ?_|refine Ai λX=>?_|refine Ay λY=>?_);refine NL ?_;rw[show(((2*j:Nat):Int)+2)=((2*(j+1):Nat):Int) by omega];exact Ak (j+1) Y hjk (by omega)
 ·have hjk:j=l.length/2:=by omega
  have hM:C4 w l j=Bg w l:=by rw[hjk];rfl
  have hd1:decide (((2*j:Nat):Int)+1<((l.map iA).length:Nat))=false:=decide_eq_false (by omega);have hcl:=JG w l;rw[hM]at hrl⊢;rw[List.length_map,hcl]at hrl;have hcm:((Bg w l).map Ca).length=(Bg w l).length:=List.length_map _;have hco:=GG hw h0 l;refine RG ?_;(repeat first|(refine AOps.gN ?_;first|refine AOps.go (h:=Ap (((2*j:Nat):Int)+1) (by omega) (by omega) rfl rfl) (k:=?_))|refine WO ?_|refine Ai λX=>?_|refine Ay λY=>?_);refine NL ?_;refine AE rfl hd1 ?_;have hCf:Al ((Bg w l).map Ca)=(Bg w l).map Ca:=Frzs.h;refine AWP.ice (d:=5) rfl (by exact At.f) (by omega) ?_;rw[hCf];refine FL ?_;unfold FE;by_cases hbig:l.length/2<=131072
  ·rw[if_pos hbig]
   have hap:=QQ w (Bg w l) hw h12 (by omega) hco;refine RG ?_;(repeat first|(refine AOps.gN ?_;first|(refine AOps.g_callf ?_;first|refine AOps.c2 (h:=(hap ..)) (k:=?_)))|refine WO ?_|refine Ai λV=>?_|refine Ay λY=>?_);refine NL ?_;refine FL ?_;refine RG ?_;(repeat first|refine WO ?_|refine Ai λX=>?_|refine Ay λY=>?_);refine NL ?_;refine AE rfl rfl ?_;refine FL ?_;refine RG ?_;(repeat first|refine WO ?_|refine Ai λX=>?_|refine Ay λY=>?_);refine NL ?_;refine RT ?_;exact BT [wdA false (C2 w (Bg w l)).1] [wdA false (C2 w (Bg w l)).1] (.cons (.cell .same) .nil)
  ·rw[if_neg hbig]
   have hap:=QR w (Bg w l) hw.wl h12 (by omega) hco.l 2 (by unfold Fw;rw[(Ax w).2 hw,if_neg (by decide),if_pos (by omega)]) (by decide);refine RG ?_;(repeat first|(refine AOps.gN ?_;first|(refine AOps.g_callf ?_;first|refine AOps.c2 (h:=(hap ..)) (k:=?_)))|refine WO ?_|refine Ai λV=>?_|refine Ay λY=>?_);refine NL ?_;refine FL ?_;refine RG ?_;(repeat first|refine WO ?_|refine Ai λX=>?_|refine Ay λY=>?_);refine NL ?_;refine AR rfl rfl ?_;refine FL ?_;refine RG ?_;(repeat first|refine WO ?_|refine Ai λX=>?_|refine Ay λY=>?_);refine NL ?_;refine RT ?_;exact BT [wdA false w] [wdA false w] (.cons (.cell .same) .nil)
def ltM(a b:Mark):Prop:=a.n<b.n\/(a.n=b.n/\a.kind<b.kind)
abbrev Nz(l:List Mark):Prop:=l.Pairwise ltM
def Ev(m:Mark):Int×Int:=(m.n,m.kind)
theorem SH{a b:Mark}(h:ltM a b):Ev a≠Ev b:=λe=>by
 unfold Ev at e;unfold ltM at h;injection e with e1 e2
 omega
theorem Mt(a b:Item)(n:Int)(i:Nat):Nz (FT a b n i)/\∀m∈FT a b n i,m.n=n/\0<=m.kind/\m.kind<i/\m.tick=0:=by
 unfold FT;refine⟨?_,λm hm=>?_⟩
 ·refine List.Pairwise.map _ (λ(x y:Nat) (h:x<y)=>(.inr ⟨rfl,by show(x:Int)<y;omega⟩:ltM ⟨n,x,0⟩ ⟨n,y,0⟩)) ?_
  exact(List.Pairwise.filter _ List.pairwise_lt_range).imp λh=>h
 ·obtain⟨k,hk,rfl⟩:=List.mem_map.1 hm
  have:=List.mem_range.1 (List.mem_filter.1 hk).1;exact⟨rfl,by dsimp only;omega,by dsimp only;omega,rfl⟩
theorem Mb(a b:Item)(n:Int):Nz (DD a b n)/\∀m∈DD a b n,m.n=n/\ -1<=m.kind/\m.kind<16/\m.tick=0:=by
 obtain⟨h1,h2⟩:=Mt a b n 16;unfold DD;split
 ·refine⟨List.pairwise_append.2 ⟨List.pairwise_singleton ..,h1,λx hx y hy=>?_⟩,λm hm=>?_⟩
  ·rw[List.mem_singleton]at hx
   subst hx;have:=h2 y hy;exact .inr ⟨this.1.symm,by dsimp only;omega⟩
  ·rcases List.mem_append.1 hm with hm|hm
   ·rw[List.mem_singleton]at hm
    subst hm;exact⟨rfl,by dsimp only;omega,by dsimp only;omega,rfl⟩
   ·have:=h2 m hm
    exact⟨this.1,by omega,by omega,this.2.2.2⟩
 ·rw[List.nil_append]
  exact⟨h1,λm hm=>by have:=h2 m hm;exact⟨this.1,by omega,by omega,this.2.2.2⟩⟩
theorem L7(a b:List Item):∀i:Nat,Nz (CY a b i)/\∀m∈CY a b i,0<=m.n/\m.n<i/\ -1<=m.kind/\m.kind<16/\m.tick=0
 |0=>⟨.nil,λm hm=>by cases hm⟩
 |i+1=>by
  obtain⟨h1,h2⟩:=L7 a b i;obtain⟨h3,h4⟩:=Mb (BM a i) (BM b i) i
  have e:CY a b (i+1)=CY a b i++DD (BM a i) (BM b i) i:=by
   unfold CY;rw[List.range_succ,List.flatMap_append,List.flatMap_singleton]
  rw[e];refine⟨List.pairwise_append.2 ⟨h1,h3,λx hx y hy=>?_⟩,λm hm=>?_⟩
  ·have:=h2 x hx
   have:=h4 y hy;exact .inl (by omega)
  ·rcases List.mem_append.1 hm with hm|hm
   ·have:=h2 m hm
    exact⟨by omega,by omega,by omega,by omega,this.2.2.2.2⟩
   ·have:=h4 m hm
    exact⟨by omega,by omega,by omega,by omega,this.2.2.2⟩
section
open Go.Sort
end
section
open Go.Sort
end
section
open Go.Sort
end
section
open Go.Sort
end
section
open Go.Sort
end
section
open Go.Sort
end
section
open Go.Sort
end
section
open Go.Sort
end
section
open Go.RowKit Go.Sort
theorem Sh:laidOutB Tryz.prog=true:=by kernel_rfl
noncomputable def keyP:KeyC Tryz.prog 68 (Int×Int):=Sa Tryz.prog 68 3 (Tryz.prog.types.size-1) (by kernel_rfl) (by kernel_rfl) (by kernel_rfl) (by kernel_rfl) (by kernel_rfl) (by kernel_rfl) (Maps.Keyed.of_law (deep_law_laid Sh (m:=2) (by omega) (of_decide_eq_true (by kernel_rfl)) (by kernel_rfl) (by kernel_rfl)))
theorem GD(a b:Int)(w:World):(Instr.build 68 #[(0,.int .i64 a),(1,.int .i64 b)]).run Tryz.prog w= .ok (.agg #[.int .i64 a,.int .i64 b]) w:=by kernel_rfl
end
theorem Nn(m:Mark)(n k:Int):decide (Ev m=(n,k))=(decide (m.n=n)&&decide (m.kind=k)):=by
 rw[<-Bool.decide_and];exact decide_eq_decide.2 ⟨λh=>by unfold Ev at h;injection h with h1 h2;exact⟨h1,h2⟩,λ⟨h1,h2⟩=>by unfold Ev;rw[h1,h2]⟩
def gT(l:List Mark):Int×Int->Option Value:=λx=>if l.any (λm=>decide (Ev m=x))then some (.bool true)else none
theorem RP(l:List Mark)(m:Mark):JD (gT l) (Ev m) (.bool true)=gT (l++[m]):=by
 funext x
 unfold JD gT;rw[List.any_append];by_cases h:x=Ev m
 ·subst h
  simp
 ·rw[if_neg h]
  have:¬Ev m=x:=λe=>h e.symm
  simp[this]
theorem P2(l:List Mark)(x:Int×Int):(gT l x).getD (.bool false)= .bool (l.any λm=>decide (Ev m=x)):=by
 unfold gT;cases l.any λm=>decide (Ev m=x)<;>rfl
theorem OB{a b:Wd}{n k:Nat}(hn:n<Cq a b)(hk:k<16):((Ey a b).any λm=>decide (Ev m=((n:Int),(k:Int))))=Em (BM a.items n) (BM b.items n) k:=by
 have h:=QT (a:=a.items) (b:=b.items) hn hk;rw[<-h];unfold Ey
 congr 1
 funext m
 exact Nn m n k
theorem MP{a b:Wd}{n:Nat}(hn:n<Cq a b):((Ey a b).any λm=>decide (Ev m=((n:Int),(-1:Int))))=decide ((BM a.items n).ent≠(BM b.items n).ent):=by
 have h:=O2 (a:=a.items) (b:=b.items) hn;rw[<-h];unfold Ey
 congr 1
 funext m
 exact Nn m n (-1)
theorem Lo{w:Wd}(hw:WdOK w){it:Item}(h:it∈w.items):w.items.find? (λx=>decide (x.ent=it.ent))=some it:=by
 cases hf:w.items.find? λx=>decide (x.ent=it.ent)with
 |none=>
  rw[List.find?_eq_none]at hf;exact absurd (hf it h) (by simp)
 |some y=>
  have h1:y.ent=it.ent:=by simpa using List.find?_some hf
  rw[GH (key:=λx:Item=>x.ent.n) hw.so (List.mem_of_find?_eq_some hf) h (by rw[h1])]
theorem L4(it:Item)(k:Int):Bo it k=match Bl it.comps k with|some c=>[c]|none=>[]:=rfl
theorem L3{x y:Item}{k:Int}(h:Bo x k=Bo y k):Bl x.comps k=Bl y.comps k:=by
 rw[L4,L4]at h;cases hx:Bl x.comps k<;>cases hy:Bl y.comps k<;>rw[hx,hy]at h<;>simp_all
theorem PH{a b:Wd}(ha:WdOK a)(hb:WdOK b){it:Item}(hit:it∈a.items){k:Nat}(hd:Em (BM a.items it.ent.n) (BM b.items it.ent.n) k=false):
  ((C0 a it.ent k).2=(C0 b it.ent k).2\/decide ((BM a.items it.ent.n).ent≠(BM b.items it.ent.n).ent)=true)/\((C0 a it.ent k).2=0->(C0 b it.ent k).2=0->(C0 a it.ent k).1=(C0 b it.ent k).1):=by
 have h1:=H6 ha.so hit;have h2:=L3 (NH hd);rw[h1]at h2⊢
 have ga:C0 a it.ent k=match Bl it.comps k with|none=>([],4)|some c=>(c.vals,0):=by
  unfold C0;rw[if_neg (by simp[(Ax a).2 ha]),Lo ha hit];rfl
 by_cases he:(BM b.items it.ent.n).ent=it.ent
 ·rcases D5 hb.so it.ent.n with⟨g1,g2⟩|⟨g1,_⟩
  ·have gb:C0 b it.ent k=match Bl it.comps k with|none=>([],4)|some c=>(c.vals,0):=by
    unfold C0;rw[if_neg (by simp[(Ax b).2 hb]),<-he,Lo hb g1,h2];rfl
   rw[ga,gb];exact⟨.inl rfl,λ_ _=>rfl⟩
  ·rw[g1]at he
   have h3:=(ha.it it hit).1;rw[<-he]at h3;exact absurd h3 (by decide)
 ·refine⟨.inr (decide_eq_true λe=>he e.symm),λ_ hg=>?_⟩
  exfalso;unfold C0 at hg;rw[if_neg (by simp[(Ax b).2 hb])]at hg;cases hf:b.items.find? λx=>decide (x.ent=it.ent)with
  |none=>rw[hf]at hg;cases hg
  |some y=>
   have e1:y.ent=it.ent:=by simpa using List.find?_some hf
   have e2:=H6 hb.so (List.mem_of_find?_eq_some hf);rw[e1]at e2;rw[e2]at he;exact he e1
def DU(s:List UInt8):List Int:=(s.length:Int)::s.map λb=>(b.toNat:Int)
abbrev Mk(l:List Int):AO:=.row 22 1 [AQ true l]
theorem PZ{s:List UInt8}{i:Nat}(h:i<s.length):(DU s).take (i+2)=(DU s).take (i+1)++[((s.getD i 0).toNat:Int)]:=by
 have hn:i+1<(DU s).length:=by simp[DU];omega
 rw[List.take_succ_eq_append_getElem hn]
 congr 2
 simp[DU,List.getD_eq_getElem?_getD,h]
theorem HM(X:Nat)(l:List Int)(s:List UInt8)(hl:(l++DU s).length*8<=140737488351232):PO Tryz.prog 129 [sA s,.ptr X 0 0] X (Mk l) (.tup []) (Mk (l++DU s)):=by
 refine Spec.of (nt:=22) (res:=[]) Tryz.func129 rfl (by kernel_rfl) rfl rfl rfl λSf=>?_
 have hnl:(DU s).length=s.length+1:=by simp[DU]
 rw[List.length_append,hnl]at hl;refine AWP.thawIn .here (λY=>.head .here) λK=>?_
 have hb:((l.map iA).length+[iA (s.length:Int)].length)*8<=140737488355328:=by simp;omega
 (repeat first|(refine AOps.gN ?_;first|(refine AOps.g_lit ?_;refine AOps.goL (iA (s.length:Int)) ?_))|refine WK ?_|refine Ai λX=>?_|refine Ay λY=>?_);refine Hq (λ(i K n:Nat) (M:List AV)=>⟨[(0,sA s),(1,.ptr X 0 0),(10,iA s.length),(11,iA i)],(K,.row 3 1 M)::(X,.row 22 1 [.sl K 0 n])::Sf⟩) (λi _ n M=>i<=s.length/\n=M.length/\M=(l++(DU s).take (i+1)).map iA) (λi _ _ _=>s.length-i) 0 Y _ _ ⟨Nat.zero_le _,?_,?_⟩ ?_
 ·simp
 ·rw[List.map_append];rfl
 rintro i K n M ⟨hi,hn,hM⟩;(repeat first|refine WK ?_|refine Ai λX=>?_|refine Ay λY=>?_);refine AWP.cond rfl (λhc=>?_) (λhc=>?_)
 ·have h:i<s.length:=by rw[decide_eq_true_eq]at hc;omega
  have hMl:n=l.length+(i+1):=by rw[hn,hM,List.length_map,List.length_append,List.length_take,hnl];omega
  have hb:(n+[iA ((s.getD i 0).toNat:Int)].length)*8<=140737488355328:=by simp;omega
  (repeat first|refine WK ?_|refine Ai λX=>?_|refine Ay λY=>?_);refine AWP.rs λY=>?_
  have hw:IntKind.i64.wrap ((s.getD i 0).toNat:Int)=((s.getD i 0).toNat:Int):=DM (by omega) (by have:=(s.getD i 0).toNat_lt;omega);refine RU ?_;(repeat first|(refine RGo.gN ?_;first|refine RGo.p (W.conv .u8 .i64 (by kernel_rfl) (by kernel_rfl) rfl hw) rfl ?_|(refine RGo.g_lit ?_;refine RGo.goL (iA ((s.getD i 0).toNat:Int)) ?_))|(refine RGo.gQ ?_;first|refine RGo.p (W.conv .u8 .i64 (by kernel_rfl) (by kernel_rfl) rfl hw) rfl ?_|(refine RGo.g_lit ?_;refine RGo.goL (iA ((s.getD i 0).toNat:Int)) ?_))|refine RK ?_|refine RGo.nil (by kernel_rfl) ?_);(repeat first|refine WK ?_|refine Ai λX=>?_|refine Ay λY=>?_);refine Et (i+1) Y _ _ ⟨h,?_,?_⟩
  ·rw[List.length_append,<-hn]
  ·rw[PZ h,hM,<-List.append_assoc,List.map_append (l₂:=[_])];rfl
 ·have h:i=s.length:=by rw[decide_eq_false_iff_not]at hc;omega
  subst h;rw[List.take_of_length_le (by omega)]at hM;subst hM;refine AWP.closeIn (X:=K) .here (.next .here) rfl hn (.head .here) ?_;(repeat first|refine WK ?_|refine Ai λX=>?_|refine Ay λY=>?_);refine DX ?_;exact BO [(X,Mk (l++DU s))] ⟨rfl,rfl⟩
def Fu(f:Field):List Int:=DU f.name++[f.bits,f.low]
def Jp(k:Kind):List Int:=DU k.name++(k.fields.length:Int)::k.fields.flatMap Fu
def J3(c:Comp):List Int:=c.kind::(c.vals.length:Int)::c.vals
def GJ(it:Item):List Int:=it.ent.n::it.ent.gen::(it.comps.length:Int)::it.comps.flatMap J3
def IU(w:Wd):List Int:=(w.kinds.length:Int)::(w.kinds.flatMap Jp++((w.gens.length:Int)::(w.gens++((w.items.length:Int)::w.items.flatMap GJ))))
theorem Nv{α:Type}{f:α->List Int}{l:List α}{i:Nat}{x:α}(h:i<l.length)(e:l[i]=x):(l.drop i).flatMap f=f x++(l.drop (i+1)).flatMap f:=by
 rw[List.drop_eq_getElem_cons h,e,List.flatMap_cons]
theorem JV{A B R:List Int}(hl:R.length*8<=140737488351232)(e:A++B=R):A.length*8<=140737488351232:=by
 have:A.length+B.length=R.length:=by rw[<-e,List.length_append]
 omega
set_option maxHeartbeats 4000000 in
set_option maxRecDepth 4000 in
theorem RJ(w:Wd)(hl:(IU w).length*8<=140737488351232)(hw:WdL w):PS Tryz.prog 55 [wdA false w] (AQ true (IU w)):=by
 obtain⟨R,hR⟩:∃R,IU w=R:=⟨_,rfl⟩;have hin:=hR;unfold IU at hin;rw[hR]at hl⊢;obtain⟨ks,gens,items⟩:=w;obtain⟨⟨hk0,hk1⟩,hg,⟨hi0,hi1⟩⟩:=hw;dsimp only at hin hk0 hk1 hg hi0 hi1;obtain⟨tail,htail⟩:∃tail,((gens.length:Int)::(gens++((items.length:Int)::items.flatMap GJ)))=tail:=⟨_,rfl⟩;rw[htail]at hin;refine Spec.of (nt:=112) (res:=[.tmp 2]) Tryz.func55 rfl (by kernel_rfl) rfl rfl rfl λSf=>?_
 have hkm:(ks.map (Au false)).length=ks.length:=List.length_map _;have hgm:(gens.map iA).length=gens.length:=List.length_map _;have him:(items.map (AA false)).length=items.length:=List.length_map _;refine RG ?_;(repeat first|(refine AOps.gN ?_;first|(refine AOps.g_box ?_;refine Az ?_))|refine WO ?_|refine Ai λX=>?_|refine Ay λY=>?_);refine NL ?_;refine AWP.rs λK0=>?_
 refine RG ?_;(repeat first|(refine AOps.gN ?_;first|refine AOps.s (W.lit1 (X:=K0) (l:=[iA ((ks.map (Au false)).length:Int)]) (by exact rfl) (by exact At.f) (by exact rfl) (by exact .inr rfl) (by decide) (by decide) (by exact rfl)) rfl ?_)|refine WO ?_|refine Ai λX=>?_|refine Ay λY=>?_);refine NL ?_;rw[hkm];refine AWP.closeIn (X:=K0) (Y:=X) (.next .here) .here rfl rfl (.head .here) ?_;(repeat first|refine WK ?_|refine Ai λX=>?_|refine Ay λY=>?_);refine BI (λ(i:Nat) (L:List Int)=>⟨[(1,.fp (wdA false ⟨ks,gens,items⟩).cells),(3,.ptr X 0 0),(4,.fn 129 [.ptr X 0 0]),(19,As false false ks),(20,iA (ks.map (Au false)).length),(21,iA i)],(X,Mk L)::Sf⟩) (λi L=>i<=ks.length/\L++((ks.drop i).flatMap Jp++tail)=R) (λi _=>ks.length-i) 0 [(ks.length:Int)] ⟨Nat.zero_le _,hin⟩ ?_;rintro i L ⟨hi,he⟩;(repeat first|refine WK ?_|refine Ai λX=>?_|refine Ay λY=>?_);refine AWP.cond rfl (λhc=>?_) (λhc=>?_)
 ·have h:i<ks.length:=by rw[decide_eq_true_eq,hkm]at hc;omega
  obtain⟨⟨kn,kf⟩,hk⟩:∃k,ks[i]=k:=⟨_,rfl⟩;have hat:(ks.map (Au false))[i]?=some (Au false ⟨kn,kf⟩):=by rw[List.getElem?_map,List.getElem?_eq_getElem h,hk];rfl
  have hkl:=hk1 _ (hk▸List.getElem_mem h);dsimp only at hkl;rw[Nv h hk,Jp,<-List.append_assoc,<-List.append_assoc,<-List.append_assoc]at he;have hkfm:(kf.map fieldA).length=kf.length:=List.length_map _;dsimp only at he;have he1:(L++DU kn)++([(kf.length:Int)]++(kf.flatMap Fu++((ks.drop (i+1)).flatMap Jp++tail)))=R:=by rw[<-he];simp
  have hcn:=HM X L kn (JV hl he1);refine RG ?_;(repeat first|refine WO ?_|refine Ai λV=>?_|refine Ay λY=>?_);refine NL ?_;refine RG ?_;(repeat first|(refine AOps.gN ?_;first|(refine AOps.g_callv ?_;first|refine MH (h:=hcn) (hT:=.frz) (k:=?_)))|refine WO ?_|refine Ai λX=>?_|refine Ay λY=>?_);refine NL ?_;obtain⟨L1,hL1⟩:∃L1,L++DU kn=L1:=⟨_,rfl⟩;rw[hL1]at he1⊢;have he2:(L1++[(kf.length:Int)])++(kf.flatMap Fu++((ks.drop (i+1)).flatMap Jp++tail))=R:=by rw[<-he1,List.append_assoc]
  refine AWP.thawIn (Y:=X) (.next .here) (λ_=>.head .here) λK=>?_
  have hb:((L1.map iA).length+([iA ((kf.map fieldA).length:Int)]).length)*8<=140737488355328:=by have:=JV hl he2;simp at this⊢;omega
  refine RG ?_;(repeat first|(refine AOps.gN ?_;first|(refine AOps.g_lit ?_;refine AOps.goL (iA (kf.map fieldA).length) ?_))|refine WO ?_|refine Ai λX=>?_|refine Ay λY=>?_);refine NL ?_;have hrow:L1.map iA++[iA ((kf.map fieldA).length:Int)]=(L1++[(kf.length:Int)]).map iA:=by first|(rw[List.map_append,hkfm];rfl)|rw[List.map_append,hkfm]
  rw[hrow];clear hrow hb;refine AWP.closeIn (X:=Y) (Y:=X) .here (.next (.next .here)) rfl (by simp) (.head .here) ?_;obtain⟨T2,hT2⟩:∃T2,(ks.drop (i+1)).flatMap Jp++tail=T2:=⟨_,rfl⟩;rw[hT2]at he2;clear he he1 hcn hL1 hin;(repeat first|refine WK ?_|refine Ai λX=>?_|refine Ay λY=>?_);refine BI (λ(j:Nat) (L:List Int)=>⟨[(1,.fp (wdA false ⟨ks,gens,items⟩).cells),(3,.ptr X 0 0),(4,.fn 129 [.ptr X 0 0]),(19,As false false ks),(20,iA (ks.map (Au false)).length),(21,iA i),(36,FI false kf),(37,iA (kf.map fieldA).length),(38,iA j)],(X,Mk L)::Sf⟩) (λj L=>j<=kf.length/\L++((kf.drop j).flatMap Fu++T2)=R) (λj _=>kf.length-j) 0 (L1++[(kf.length:Int)]) ⟨Nat.zero_le _,he2⟩ ?_;clear he2 L1 L;rintro j L ⟨hj,he⟩;(repeat first|refine WK ?_|refine Ai λX=>?_|refine Ay λY=>?_);refine AWP.cond rfl (λhd=>?_) (λhd=>?_)
  ·have h':j<kf.length:=by rw[decide_eq_true_eq,hkfm]at hd;omega
   obtain⟨⟨fn,fb,fl⟩,hf⟩:∃f,kf[j]=f:=⟨_,rfl⟩;have hat2:(kf.map fieldA)[j]?=some (fieldA ⟨fn,fb,fl⟩):=by rw[List.getElem?_map,List.getElem?_eq_getElem h',hf];rfl
   rw[Nv h' hf,Fu]at he;dsimp only at he;have he1:(L++DU fn)++([fb,fl]++((kf.drop (j+1)).flatMap Fu++T2))=R:=by rw[<-he];simp
   have hcn:=HM X L fn (JV hl he1);refine RG ?_;(repeat first|refine WO ?_|refine Ai λV2=>?_|refine Ay λY=>?_);refine NL ?_;refine RG ?_;(repeat first|(refine AOps.gN ?_;first|(refine AOps.g_callv ?_;first|refine MH (h:=hcn) (hT:=.frz) (k:=?_)))|refine WO ?_|refine Ai λX=>?_|refine Ay λY=>?_);refine NL ?_;obtain⟨L1,hL1⟩:∃L1,L++DU fn=L1:=⟨_,rfl⟩;rw[hL1]at he1⊢;have he2:(L1++[fb,fl])++((kf.drop (j+1)).flatMap Fu++T2)=R:=by rw[<-he1,List.append_assoc]
   refine AWP.thawIn (Y:=X) (.next .here) (λ_=>.head .here) λK=>?_
   have hb:((L1.map iA).length+([iA fb,iA fl]).length)*8<=140737488355328:=by have:=JV hl he2;simp at this⊢;omega
   refine RG ?_;(repeat first|refine WO ?_|refine Ai λX=>?_|refine Ay λY=>?_);refine NL ?_;have hrow:L1.map iA++[iA fb,iA fl]=(L1++[fb,fl]).map iA:=by first|(rw[List.map_append];rfl)|rw[List.map_append]
   rw[hrow];clear hrow hb;refine AWP.closeIn (X:=Y) (Y:=X) .here (.next (.next .here)) rfl (by simp) (.head .here) ?_;(repeat first|refine WK ?_|refine Ai λX=>?_|refine Ay λY=>?_);refine Ak (j+1) _ ⟨h',he2⟩
  ·have h':j=kf.length:=by rw[decide_eq_false_iff_not,hkfm]at hd;omega
   rw[h',List.drop_length]at he;(repeat first|refine WK ?_|refine Ai λX=>?_|refine Ay λY=>?_);refine Ak (i+1) L ⟨h,by rw[hT2];exact he⟩
 clear hin;have h:i=ks.length:=by rw[decide_eq_false_iff_not,hkm]at hc;omega
 rw[h,List.drop_length,<-htail]at he;clear h hc hi;have he2:(L++[(gens.length:Int)])++(gens++((items.length:Int)::items.flatMap GJ))=R:=by rw[<-he];simp
 refine FL ?_;refine AWP.thawIn (Y:=X) .here (λ_=>.head .here) λK=>?_
 have hb:((L.map iA).length+([iA ((gens.map iA).length:Int)]).length)*8<=140737488355328:=by have:=JV hl he2;simp at this⊢;omega
 refine RG ?_;(repeat first|(refine AOps.gN ?_;first|(refine AOps.g_lit ?_;refine AOps.goL (iA (gens.map iA).length) ?_))|refine WO ?_|refine Ai λX=>?_|refine Ay λY=>?_);refine NL ?_;have hrow:L.map iA++[iA ((gens.map iA).length:Int)]=(L++[(gens.length:Int)]).map iA:=by first|(rw[List.map_append,hgm];rfl)|rw[List.map_append,hgm]
 rw[hrow];clear hrow hb;refine AWP.closeIn (X:=Y) (Y:=X) .here (.next .here) rfl (by simp) (.head .here) ?_;obtain⟨L1,hL1⟩:∃L1,L++[(gens.length:Int)]=L1:=⟨_,rfl⟩;rw[hL1]at he2⊢;have he3:(L1++gens)++((items.length:Int)::items.flatMap GJ)=R:=by rw[<-he2,List.append_assoc]
 refine AWP.thawIn (Y:=X) (.next .here) (λ_=>.head .here) λK=>?_
 have hb:((L1.map iA).length+(gens.map iA).length)*8<=140737488355328:=by have:=JV hl he3;simp at this⊢;omega
 refine RG ?_;(repeat first|refine WO ?_|refine Ai λX=>?_|refine Ay λY=>?_);refine NL ?_;have hrow:L1.map iA++gens.map iA=(L1++gens).map iA:=by first|(rw[List.map_append];rfl)|rw[List.map_append]
 rw[hrow];clear hrow hb;refine AWP.closeIn (X:=Y) (Y:=X) .here (.next (.next .here)) rfl (by simp) (.head .here) ?_;obtain⟨L2,hL2⟩:∃L2,L1++gens=L2:=⟨_,rfl⟩;rw[hL2]at he3⊢;have he4:(L2++[(items.length:Int)])++items.flatMap GJ=R:=by rw[<-he3,List.append_assoc];rfl
 refine AWP.thawIn (Y:=X) (.next (.next .here)) (λ_=>.head .here) λK=>?_
 have hb:((L2.map iA).length+([iA ((items.map (AA false)).length:Int)]).length)*8<=140737488355328:=by have:=JV hl he4;simp at this⊢;omega
 refine RG ?_;(repeat first|(refine AOps.gN ?_;first|(refine AOps.g_lit ?_;refine AOps.goL (iA (items.map (AA false)).length) ?_))|refine WO ?_|refine Ai λX=>?_|refine Ay λY=>?_);refine NL ?_;have hrow:L2.map iA++[iA ((items.map (AA false)).length:Int)]=(L2++[(items.length:Int)]).map iA:=by first|(rw[List.map_append,him];rfl)|rw[List.map_append,him]
 rw[hrow];clear hrow hb;refine AWP.closeIn (X:=Y) (Y:=X) .here (.next (.next (.next .here))) rfl (by simp) (.head .here) ?_;clear he he2 he3 hL1 hL2 htail hk0 hk1;(repeat first|refine WK ?_|refine Ai λX=>?_|refine Ay λY=>?_);refine BI (λ(i:Nat) (L:List Int)=>⟨[(1,.fp (wdA false ⟨ks,gens,items⟩).cells),(3,.ptr X 0 0),(72,Du false false items),(73,iA (items.map (AA false)).length),(74,iA i)],(X,Mk L)::Sf⟩) (λi L=>i<=items.length/\L++(items.drop i).flatMap GJ=R) (λi _=>items.length-i) 0 (L2++[(items.length:Int)]) ⟨Nat.zero_le _,he4⟩ ?_;clear he4 L2 L1 L;rintro i L ⟨hi,he⟩;(repeat first|refine WK ?_|refine Ai λX=>?_|refine Ay λY=>?_);refine AWP.cond rfl (λhc=>?_) (λhc=>?_)
 ·have h:i<items.length:=by rw[decide_eq_true_eq,him]at hc;omega
  obtain⟨⟨⟨en,eg⟩,cs⟩,hit⟩:∃it,items[i]=it:=⟨_,rfl⟩;have hat:(items.map (AA false))[i]?=some (AA false ⟨⟨en,eg⟩,cs⟩):=by rw[List.getElem?_map,List.getElem?_eq_getElem h,hit];rfl
  have hcl:=hi1 _ (hit▸List.getElem_mem h);dsimp only at hcl;obtain⟨hcl0,hcl1⟩:=hcl;have hcm:(cs.map (AD false)).length=cs.length:=List.length_map _;rw[Nv h hit,GJ]at he;dsimp only at he;have he2:(L++[en,eg,(cs.length:Int)])++(cs.flatMap J3++(items.drop (i+1)).flatMap GJ)=R:=by rw[<-he];simp
  refine RG ?_;(repeat first|refine WO ?_|refine Ai λV=>?_|refine Ay λY=>?_);refine NL ?_;refine AWP.thawIn (Y:=X) (.next .here) (λ_=>.head .here) λK=>?_
  have hb:((L.map iA).length+([iA en,iA eg,iA ((cs.map (AD false)).length:Int)]).length)*8<=140737488355328:=by have:=JV hl he2;simp at this⊢;omega
  refine RG ?_;(repeat first|refine WO ?_|refine Ai λX=>?_|refine Ay λY=>?_);refine NL ?_;have hrow:L.map iA++[iA en,iA eg,iA ((cs.map (AD false)).length:Int)]=(L++[en,eg,(cs.length:Int)]).map iA:=by first|(rw[List.map_append,hcm];rfl)|rw[List.map_append,hcm]
  rw[hrow];clear hrow hb;refine AWP.closeIn (X:=Y) (Y:=X) .here (.next (.next .here)) rfl (by simp) (.head .here) ?_;obtain⟨T2,hT2⟩:∃T2,(items.drop (i+1)).flatMap GJ=T2:=⟨_,rfl⟩;rw[hT2]at he2;(repeat first|refine WK ?_|refine Ai λX=>?_|refine Ay λY=>?_);refine BI (λ(j:Nat) (L:List Int)=>⟨[(1,.fp (wdA false ⟨ks,gens,items⟩).cells),(3,.ptr X 0 0),(72,Du false false items),(73,iA (items.map (AA false)).length),(74,iA i),(91,Aj false false cs),(92,iA (cs.map (AD false)).length),(93,iA j)],(X,Mk L)::Sf⟩) (λj L=>j<=cs.length/\L++((cs.drop j).flatMap J3++T2)=R) (λj _=>cs.length-j) 0 _ ⟨Nat.zero_le _,he2⟩ ?_;clear he2 he L;rintro j L ⟨hj,he⟩;(repeat first|refine WK ?_|refine Ai λX=>?_|refine Ay λY=>?_);refine AWP.cond rfl (λhd=>?_) (λhd=>?_)
  ·have h':j<cs.length:=by rw[decide_eq_true_eq,hcm]at hd;omega
   obtain⟨⟨ck,cv⟩,hf⟩:∃c,cs[j]=c:=⟨_,rfl⟩;have hat2:(cs.map (AD false))[j]?=some (AD false ⟨ck,cv⟩):=by rw[List.getElem?_map,List.getElem?_eq_getElem h',hf];rfl
   have hvm:(cv.map iA).length=cv.length:=List.length_map _;rw[Nv h' hf,J3]at he;dsimp only at he;have he2:(L++[ck,(cv.length:Int)])++(cv++((cs.drop (j+1)).flatMap J3++T2))=R:=by rw[<-he];simp
   refine RG ?_;(repeat first|refine WO ?_|refine Ai λV2=>?_|refine Ay λY=>?_);refine NL ?_;refine AWP.thawIn (Y:=X) (.next .here) (λ_=>.head .here) λK=>?_
   have hb:((L.map iA).length+([iA ck,iA ((cv.map iA).length:Int)]).length)*8<=140737488355328:=by have:=JV hl he2;simp at this⊢;omega
   refine RG ?_;(repeat first|refine WO ?_|refine Ai λX=>?_|refine Ay λY=>?_);refine NL ?_;have hrow:L.map iA++[iA ck,iA ((cv.map iA).length:Int)]=(L++[ck,(cv.length:Int)]).map iA:=by first|(rw[List.map_append,hvm];rfl)|rw[List.map_append,hvm]
   rw[hrow];clear hrow hb;refine AWP.closeIn (X:=Y) (Y:=X) .here (.next (.next .here)) rfl (by simp) (.head .here) ?_;obtain⟨L1,hL1⟩:∃L1,L++[ck,(cv.length:Int)]=L1:=⟨_,rfl⟩;rw[hL1]at he2⊢;have he3:(L1++cv)++((cs.drop (j+1)).flatMap J3++T2)=R:=by rw[<-he2,List.append_assoc]
   refine AWP.thawIn (Y:=X) (.next (.next .here)) (λ_=>.head .here) λK=>?_
   have hb:((L1.map iA).length+(cv.map iA).length)*8<=140737488355328:=by have:=JV hl he3;simp at this⊢;omega
   refine RG ?_;(repeat first|refine WO ?_|refine Ai λX=>?_|refine Ay λY=>?_);refine NL ?_;have hrow:L1.map iA++cv.map iA=(L1++cv).map iA:=by first|(rw[List.map_append];rfl)|rw[List.map_append]
   rw[hrow];clear hrow hb;refine AWP.closeIn (X:=Y) (Y:=X) .here (.next (.next (.next .here))) rfl (by simp) (.head .here) ?_;(repeat first|refine WK ?_|refine Ai λX=>?_|refine Ay λY=>?_);refine Ak (j+1) _ ⟨h',he3⟩
  ·have h':j=cs.length:=by rw[decide_eq_false_iff_not,hcm]at hd;omega
   rw[h',List.drop_length]at he;(repeat first|refine WK ?_|refine Ai λX=>?_|refine Ay λY=>?_);refine Ak (i+1) L ⟨h,by rw[hT2];exact he⟩
 ·have h:i=items.length:=by rw[decide_eq_false_iff_not,him]at hc;omega
  rw[h,List.drop_length]at he;have he:L=R:=by simpa using he
  subst he;refine AWP.thawIn (Y:=X) .here (λ_=>.head .here) λK=>?_
  (repeat first|refine WK ?_|refine Ai λX=>?_|refine Ay λY=>?_);refine RT ?_;exact⟨[.sl K 0 (L.map iA).length],[AQ true L],_,[],.cons (.tmp rfl) rfl .nil,.cons (.cell (.sl (p:=0) .here rfl)) .nil,by exact Sub.f,rfl,rfl⟩
theorem I2:WdL baseWd:=by
 refine⟨⟨by decide,?_⟩,by decide,⟨by decide,?_⟩⟩
 ·intro k hk
  rw[List.mem_singleton.1 hk];decide
 ·intro it hit
  rw[List.mem_singleton.1 hit];refine⟨by decide,λc hc=>?_⟩;rw[List.mem_singleton.1 hc];decide
theorem QM:C0 baseWd ⟨0,0⟩ 0=([9],0):=by decide
set_option maxRecDepth 4000 in
theorem QL:PS Tryz.prog 12 [] (bA true):=by
 have hg:=My baseWd ⟨0,0⟩ 0 I2;rw[QM]at hg;have he:PS Tryz.prog 34 [AQ false [9],AQ false [9]] (bA true):=FJ [9] [9] (by decide);have hi:=RJ baseWd (by decide) I2;have hs:=Qu baseWd baseWd I2;rw[decide_eq_true rfl]at hs;obtain⟨R,hR⟩:∃R,IU baseWd=R:=⟨_,rfl⟩;have hRl:(0:Int)<R.length:=by rw[<-hR];decide
 rw[hR]at hi;have hlen:decide ((0:Int)<(R.map iA).length)=true:=decide_eq_true (by rw[List.length_map];exact hRl);refine Spec.of (nt:=27) (res:=[.tmp 0]) Tryz.func12 rfl (by kernel_rfl) rfl rfl rfl λSf=>?_
 refine RG ?_;(repeat first|refine WO ?_|refine Ai λX=>?_|refine Ay λY=>?_);refine NL ?_;refine RG ?_;(repeat first|(refine AOps.gN ?_;first|(refine AOps.g_callf ?_;first|refine AOps.c0 (h:=(Hp ..)) (k:=?_)|refine AOps.c3 (h:=(hg ..)) (k:=?_)))|refine WO ?_|refine Ai λX=>?_|refine Ay λY=>?_);refine NL ?_;(repeat first|(refine AOps.gN ?_;first|(refine AOps.g_callf ?_;first|refine AOps.c2 (h:=(he ..)) (k:=?_)|refine AOps.c0 (h:=(Hp ..)) (k:=?_)|refine AOps.c1 (h:=(hi ..)) (k:=?_)|refine AOps.c2 (h:=(hs ..)) (k:=?_)))|refine WK ?_|refine Ai λX=>?_|refine Ay λY=>?_);refine RT ?_;refine AN ?_;rfl
section
open Go.RowKit
def FZ(w:World):Mem:=⟨λ_=>none,λ_=>False,w,λb=>b<w.heap.size⟩
theorem NJ(w:World):Good (FZ w) (FZ w) 0 [] []:=
 ⟨λz hz=>(by cases hz),.nil,λb hb=>(by cases hb),λb h=>h,.nil,λx hx=>(by cases hx),λx h=>h.elim,.refl _,rfl,rfl,rfl,Nat.le_refl _⟩
theorem Good.bel{w:World}{m':Mem}{N:Nat}{Z:Zs}{br:List Nat}(G:Good (FZ w) m' N Z br):Below w.heap.size w m'.w:=
 ⟨G.os,G.tape,G.output,G.size,λk hk=>(G.le.F k hk).2⟩
theorem PS.calls_bool{P:Program}{f:FuncId}{args:List AV}{b:Bool}(h:PS P f args (bA b)){w:World}{vals:Array Value}(hv:VTs (FZ w) args vals.toList []):
  Calls P f vals w λe w'=>e= .returned (.bool b)/\Below w.heap.size w w':=
 (h.run [] (FZ w) 0 [] vals rfl (NJ w) hv).mono λe w' ⟨v,r,S',m',N',Z',br,h1,h2,h3,G,h4,h5,h6⟩=>by
  subst h1 h2 h5;refine⟨?_,G.bel⟩;obtain⟨⟨h7,_⟩,_⟩:=h4;injection h7 with h7
  rw[h7]
theorem J6{α:Type}{m:Mem}{C:List Value->α->Prop}{sz:Nat}{f:α->AV}(hC:∀c x,C c x->VC m (f x) c []):∀{l:List α} {xs:List Value},Cells C sz xs l->VCs m (l.map f) xs []
 |[],_,h=>⟨h,rfl⟩
 |x::l,_,⟨c,ys,h1,h2,h3,h4⟩=>⟨c,ys,[],[],h1,rfl,hC c x h3,J6 hC h4⟩
theorem Iz{w:World}{b o:Nat}{u:Value}(h:w.cell? ⟨b,o,none⟩=some u):∃arr t r,w.heap[b]?=some (.cells arr t r)/\arr[o]?=some u:=by
 unfold World.cell? at h;cases hb:w.heap[b]? with
 |none=>simp only[hb]at h;cases h
 |some blk=>
  cases blk with
  |cells c t r=>simp only[hb]at h;exact⟨c,t,r,rfl,by simpa using h⟩
  |_=>simp only[hb]at h;cases h
theorem SZ{α:Type}{w:World}{C:World->Reg->List Value->α->Prop}{sz:Nat}{f:α->AV}{t:TypeId}{v:Value}{l:List α}(hsz:0<sz)(hC:∀c x,C w (Lt w) c x->VC (FZ w) (f x) c [])(hw:∀x,(f x).width=sz)(h:Sl w (Lt w) sz C v l):VC (FZ w) (.lst false t sz (l.map f)) [v] []:=by
 obtain⟨xs,⟨h1,A,cap,rfl,hn,hr⟩,hc⟩:=h;refine⟨rfl,A,cap,by simp,by simpa using hn,λe he=>by obtain⟨x,_,rfl⟩:=List.mem_map.1 he;exact hw x,λh0=>?_⟩;have h0:0<l.length:=by simpa using h0
 obtain⟨b,off,rfl,hb,hcell⟩:=hr h0;have hx:0<xs.length:=by rw[h1];exact Nat.mul_pos h0 hsz
 obtain⟨arr,t',r,h2,h3⟩:=Iz (hcell 0 xs[0] (by simp));refine⟨b,off,arr,t',r,rfl,hb,h2,?_⟩
 have e:(arr.toList.drop off).take ((l.map f).length*sz)=xs:=by
  apply List.ext_getElem?;intro j;rw[List.getElem?_take];split
  ·rename_i hj
   have hj:j<xs.length:=by rw[h1];simpa using hj
   obtain⟨arr2,t2,r2,h4,h5⟩:=Iz (hcell j xs[j] (by simp));rw[h2]at h4;injection h4 with h4
   injection h4 with h4
   subst h4;rw[List.getElem?_drop,List.getElem?_eq_getElem hj];simpa using h5
  ·rename_i hj
   rw[List.getElem?_eq_none];rw[h1];simpa using hj
 rw[e];exact J6 hC hc
theorem RI{w:World}{v:Value}{l:List Int}(h:O6 w (Lt w) v l):VC (FZ w) (AQ false l) [v] []:=
 SZ (f:=iA) (by decide) (λc x hc=>⟨⟨hc,rfl⟩,rfl⟩) (λ_=>rfl) h
theorem Qo{m:Mem}:VTs m [] [] []:=⟨rfl,rfl⟩
theorem Kv{w:World}{v:Value}{z:List Int}{l:List AV}{us:List Value}(h:O6 w (Lt w) v z)(k:VTs (FZ w) l us []):VTs (FZ w) (AQ false z::l) (v::us) []:=(BK rfl).2 ⟨_,_,[],[],rfl,rfl,RI h,k⟩
end
section
open Go.RowKit
instance mapPB:TMapK Tryz.prog 67 68 4 (.bool false):=⟨by kernel_rfl,λw=>by kernel_rfl,PlainV.bool (by kernel_rfl) _⟩
theorem Ir{w:Wd}(hw:WdOK w){e:Ent}{k:Int}{u:List Int}{f:Int}(h:C0 w e k=(u,f)):u.length<=1099511627776:=by
 unfold C0 at h;split at h
 ·injection h with h1 h2
  rw[<-h1];exact Nat.zero_le _
 ·split at h
  ·injection h with h1 h2
   rw[<-h1];exact Nat.zero_le _
  ·rename_i it hf
   split at h
   ·injection h with h1 h2
    rw[<-h1];exact Nat.zero_le _
   ·rename_i c hc
    injection h with h1 h2
    rw[<-h1];have:=hw.wl.items.2 it (List.mem_of_find?_eq_some hf);exact this.2 c (List.mem_of_find?_eq_some hc)
set_option maxRecDepth 8000 in
set_option maxHeartbeats 4000000 in
theorem LR(l m:List Int)(hl:l.length<=1048576)(hm:m.length<=1048576):PS Tryz.prog 6 [AQ false l,AQ false m] (bA true):=by
 have hwp:=PC l;have hok:=Li l;obtain⟨hk0,hk4⟩:=Lj l;obtain⟨a,ha⟩:∃a,Dx l=a:=⟨_,rfl⟩;rw[ha]at hwp hok hk0 hk4;clear ha;have hot:=PX a m hok hk0 (by omega) hm;obtain⟨hb,hbk⟩:=Ml hok hk0 m;obtain⟨b,hbe⟩:∃b,FE a m=b:=⟨_,rfl⟩;rw[hbe]at hot hb hbk;clear hbe;have hx:=Iw a b hok hb hbk.symm;have hxl:(Ey a b).length<=4352:=Nat.le_trans (G5 a.items b.items (Cq a b)) (by have:=hok.gl;have:=hb.gl;unfold Cq;omega);obtain⟨hxs,hxr⟩:=L7 a.items b.items (Cq a b);have hN1:Cq a b<=256:=by have:=hok.gl;have:=hb.gl;unfold Cq;omega
 have hNa:a.gens.length<=Cq a b:=by unfold Cq;omega
 change ∀m∈Ey a b,_ at hxr;change Nz (Ey a b)at hxs;have htk:=λ(n k:Nat) (h1:n<Cq a b) (h2:k<16)=>OB (a:=a) (b:=b) h1 h2
 have htw:=λ(n:Nat) (h1:n<Cq a b)=>MP (a:=a) (b:=b) h1
 obtain⟨x,hxe⟩:∃x,Ey a b=x:=⟨_,rfl⟩;rw[hxe]at hx hxl hxs hxr htk htw;have hxm:(x.map Bv).length=x.length:=List.length_map _;have ham:(a.items.map (AA false)).length=a.items.length:=List.length_map _;have hkm:(a.kinds.map (Au false)).length=a.kinds.length:=List.length_map _;have hil:=hok.il;have hgl:=hok.gl;refine Spec.of (nt:=116) (res:=[.tmp 4]) Tryz.func6 rfl (by kernel_rfl) rfl rfl rfl λSf=>?_
 refine RG ?_;(repeat first|refine WO ?_|refine Ai λX=>?_|refine Ay λY=>?_);refine NL ?_;refine FL ?_;refine RG ?_;(repeat first|(refine AOps.gN ?_;first|(refine AOps.g_callf ?_;first|refine AOps.c0 (h:=(OW ..)) (k:=?_)|refine AOps.c0 (h:=(QL ..)) (k:=?_)))|refine WO ?_|refine Ai λX=>?_|refine Ay λY=>?_);refine NL ?_;refine AE rfl rfl ?_;refine FL ?_;refine RG ?_;(repeat first|(refine AOps.gN ?_;first|(refine AOps.g_callf ?_;first|refine AOps.c1 (h:=(hwp ..)) (k:=?_)))|refine WO ?_|refine Ai λV1=>?_|refine Ay λY=>?_);refine NL ?_;refine FL ?_;refine RG ?_;(repeat first|(refine AOps.gN ?_;first|(refine AOps.g_callf ?_;first|refine AOps.c2 (h:=(hot ..)) (k:=?_)))|refine WO ?_|refine Ai λV2=>?_|refine Ay λY=>?_);refine NL ?_;refine FL ?_;refine RG ?_;(repeat first|(refine AOps.gN ?_;first|(refine AOps.g_callf ?_;first|refine AOps.c2 (h:=(hx ..)) (k:=?_)))|refine WO ?_|refine Ai λX=>?_|refine Ay λY=>?_);refine NL ?_;refine FL ?_;refine RG ?_;(repeat first|refine WO ?_|refine Ai λX=>?_|refine Ay λY=>?_);refine NL ?_;refine AE rfl rfl ?_;refine FL ?_;refine RG ?_;(repeat first|(refine AOps.gN ?_;first|(refine D1 ?_;refine MM keyP λK=>?_))|refine WO ?_|refine Ai λX=>?_|refine Ay λY=>?_);refine NL ?_;refine FL ?_;refine RG ?_;(repeat first|refine WO ?_|refine Ai λX=>?_|refine Ay λY=>?_);refine NL ?_;refine FL ?_;refine BP (λ(i:Nat)=>⟨[(5,.ptr V1 0 0),(6,.ptr V2 0 0),(9,.mp K),(39,EX false x),(40,iA (x.map Bv).length),(41,iA i)],(K,.ob (MapKF keyP 4 (gT (x.take i)) i))::(V2,.row 26 3 [wdA false b])::(V1,.row 26 3 [wdA false a])::Sf⟩) (λi=>i<=x.length) (λi=>x.length-i) 0 (Nat.zero_le _) ?_;rintro i hi;refine RG ?_;(repeat first|refine WO ?_|refine Ai λX=>?_|refine Ay λY=>?_);refine NL ?_;refine FL ?_;refine AWP.cond rfl (λhc=>?_) (λhc=>?_)
 ·have h:i<x.length:=by rw[decide_eq_true_eq,hxm]at hc;omega
  obtain⟨m,hme⟩:∃m,x[i]=m:=⟨_,rfl⟩;have hmem:m∈x:=by rw[<-hme];exact List.getElem_mem h
  have hr:=hxr m hmem;have hat:(x.map Bv)[i]?=some (Bv m):=by rw[List.getElem?_map,List.getElem?_eq_getElem h,hme];rfl
  have hkok:keyP.ok (m.n,m.kind):=⟨⟨by dsimp only;omega,by dsimp only;omega⟩,⟨by dsimp only;omega,by dsimp only;omega⟩⟩
  have hgn:JD (gT (x.take i)) (m.n,m.kind) (.bool true)=gT (x.take (i+1)):=by
   rw[List.take_succ_eq_append_getElem h,hme];exact RP _ m
  have hno:(gT (x.take i) (m.n,m.kind)).isSome=false:=by
   have:((x.take i).any λy=>decide (Ev y=(m.n,m.kind)))=false:=by
    rw[List.any_eq_false];intro y hy;simp only[decide_eq_true_eq];intro e;obtain⟨j,hj,rfl⟩:=List.mem_take_iff_getElem.1 hy;have h1:ltM x[j] x[i]:=List.pairwise_iff_getElem.1 hxs j i (by omega) h (by omega);rw[hme]at h1;exact SH h1 e
   unfold gT;rw[this];rfl
  have hsz:i<maxLen:=by unfold maxLen;omega
  have hsn:(if(gT (x.take i) (m.n,m.kind)).isSome then i else i+1)=i+1:=by rw[hno];rfl
  refine FL ?_;refine RG ?_;(repeat first|refine WO ?_|refine Ai λE=>?_|refine Ay λY=>?_);refine NL ?_;refine FL ?_;refine RG ?_;(repeat first|(refine AOps.gN ?_;first|refine AOps.go (h:=W.buildV (GD m.n m.kind) rfl rfl) (k:=?_)|refine AOps.s (W.mapUpdK (C:=keyP) (m.n,m.kind) (PlainV.bool (by kernel_rfl) true) hkok hsz rfl rfl rfl (by exact At.f)) rfl ?_)|refine WO ?_|refine Ai λX=>?_|refine Ay λY=>?_);refine NL ?_;rw[hgn,hsn];refine FL ?_;refine RG ?_;(repeat first|refine WO ?_|refine Ai λX=>?_|refine Ay λY=>?_);refine NL ?_;exact A7 (i+1) h (by omega)
 ·have h:i=x.length:=by rw[decide_eq_false_iff_not,hxm]at hc;omega
  subst h;rw[List.take_length];refine FL ?_;refine RG ?_;(repeat first|refine WO ?_|refine Ai λX=>?_|refine Ay λY=>?_);refine NL ?_;refine FL ?_;refine BP (λ(i:Nat)=>⟨[(5,.ptr V1 0 0),(6,.ptr V2 0 0),(9,.mp K),(53,Du false false a.items),(54,iA (a.items.map (AA false)).length),(55,iA i)],(K,.ob (MapKF keyP 4 (gT x) x.length))::(V2,.row 26 3 [wdA false b])::(V1,.row 26 3 [wdA false a])::Sf⟩) (λi=>i<=a.items.length) (λi=>a.items.length-i) 0 (Nat.zero_le _) ?_;rintro i hi;refine RG ?_;(repeat first|refine WO ?_|refine Ai λX=>?_|refine Ay λY=>?_);refine NL ?_;refine FL ?_;refine AWP.cond rfl (λhc=>?_) (λhc=>?_)
  ·have h:i<a.items.length:=by rw[decide_eq_true_eq,ham]at hc;omega
   obtain⟨it,hie⟩:∃it,a.items[i]=it:=⟨_,rfl⟩;have hmem:it∈a.items:=by rw[<-hie];exact List.getElem_mem h
   have hat:(a.items.map (AA false))[i]?=some (AA false it):=by rw[List.getElem?_map,List.getElem?_eq_getElem h,hie];rfl
   obtain⟨w1,w2,_⟩:=hok.it it hmem;obtain⟨n,hn⟩:∃n:Nat,it.ent.n=n:=⟨it.ent.n.toNat,by omega⟩;refine FL ?_;refine RG ?_;(repeat first|refine WO ?_|refine Ai λE=>?_|refine Ay λY=>?_);refine NL ?_;refine FL ?_;refine RG ?_;(repeat first|refine WO ?_|refine Ai λX=>?_|refine Ay λY=>?_);refine NL ?_;refine FL ?_;refine BP (λ(k:Nat)=>⟨[(5,.ptr V1 0 0),(6,.ptr V2 0 0),(9,.mp K),(13,.ptr E 0 0),(53,Du false false a.items),(54,iA (a.items.map (AA false)).length),(55,iA i),(61,iA (a.kinds.map (Au false)).length),(62,iA k)],(E,.row 71 3 [AA false it])::(K,.ob (MapKF keyP 4 (gT x) x.length))::(V2,.row 26 3 [wdA false b])::(V1,.row 26 3 [wdA false a])::Sf⟩) (λk=>k<=a.kinds.length) (λk=>a.kinds.length-k) 0 (Nat.zero_le _) ?_;rintro k hk;refine RG ?_;(repeat first|refine WO ?_|refine Ai λX=>?_|refine Ay λY=>?_);refine NL ?_;refine FL ?_;refine AWP.cond rfl (λhd=>?_) (λhd=>?_)
   ·have h2:k<a.kinds.length:=by rw[decide_eq_true_eq,hkm]at hd;omega
    have hkok:keyP.ok (it.ent.n,(k:Int)):=⟨⟨by dsimp only;omega,by dsimp only;omega⟩,⟨by dsimp only;omega,by dsimp only;omega⟩⟩;have hwok:keyP.ok (it.ent.n,(-1:Int)):=⟨⟨by dsimp only;omega,by dsimp only;omega⟩,⟨by dsimp only;omega,by dsimp only;omega⟩⟩;have hga:=My a it.ent k hok.wl;have hgb:=My b it.ent k hb.wl;have hlaw:=λhd=>PH hok hb hmem (k:=k) hd
    have hq1:=htk n k (by omega) (by omega);have hq2:=htw n (by omega);rw[<-hn]at hq1 hq2;rw[<-hq1,<-hq2]at hlaw;have hl1:=P2 x (it.ent.n,(k:Int));have hl2:=P2 x (it.ent.n,(-1:Int));obtain⟨q1,hq1e⟩:∃q,(x.any λm=>decide (Ev m=(it.ent.n,(k:Int))))=q:=⟨_,rfl⟩;obtain⟨q2,hq2e⟩:∃q,(x.any λm=>decide (Ev m=(it.ent.n,(-1:Int))))=q:=⟨_,rfl⟩;rw[hq1e]at hl1 hlaw;rw[hq2e]at hl2 hlaw;obtain⟨⟨u,f⟩,hu⟩:∃z,C0 a it.ent k=z:=⟨_,rfl⟩;obtain⟨⟨v,g⟩,hv⟩:∃z,C0 b it.ent k=z:=⟨_,rfl⟩;rw[hu]at hga hlaw;rw[hv]at hgb hlaw;dsimp only at hga hgb hlaw;refine FL ?_;refine RG ?_;(repeat first|refine WO ?_|refine Ai λX=>?_|refine Ay λY=>?_);refine NL ?_;refine FL ?_;refine RG ?_;(repeat first|(refine AOps.gN ?_;first|refine AOps.go (h:=W.buildV (GD it.ent.n k) rfl rfl) (k:=?_)|refine AOps.go (h:=I6 (C:=keyP) (it.ent.n,(k:Int)) (.bool q1) hl1 hkok rfl rfl (by exact At.f)) (k:=?_))|refine WO ?_|refine Ai λX=>?_|refine Ay λY=>?_);refine NL ?_;cases q1 with
    |true=>
     refine AR rfl rfl ?_;refine FL ?_;refine RG ?_;(repeat first|refine WO ?_|refine Ai λX=>?_|refine Ay λY=>?_);refine NL ?_;exact A7 (k+1) h2 (by omega)
    |false=>
     obtain⟨hw1,hw2⟩:=hlaw rfl;refine AE rfl rfl ?_;refine FL ?_;refine RG ?_;(repeat first|(refine AOps.gN ?_;first|(refine AOps.g_callf ?_;first|refine AOps.c3 (h:=(hga ..)) (k:=?_)))|refine WO ?_|refine Ai λX=>?_|refine Ay λY=>?_);refine NL ?_;refine FL ?_;refine RG ?_;(repeat first|(refine AOps.gN ?_;first|(refine AOps.g_callf ?_;first|refine AOps.c3 (h:=(hgb ..)) (k:=?_)))|refine WO ?_|refine Ai λX=>?_|refine Ay λY=>?_);refine NL ?_;(repeat refine Bc ?_);refine AWP.seq ?_;refine BG (λq:Bool=>q=false) (λq=>⟨[(5,.ptr V1 0 0),(6,.ptr V2 0 0),(9,.mp K),(13,.ptr E 0 0),(53,Du false false a.items),(54,iA (a.items.map (AA false)).length),(55,iA i),(61,iA (a.kinds.map (Au false)).length),(62,iA k),(113,bA q)],(E,.row 71 3 [AA false it])::(K,.ob (MapKF keyP 4 (gT x) x.length))::(V2,.row 26 3 [wdA false b])::(V1,.row 26 3 [wdA false a])::Sf⟩) ?_ ?_
     ·by_cases hfg:f=g
      ·subst hfg
       have p0:decide (f≠f)=false:=decide_eq_false (λe=>e rfl);cases p1:decide (f=0)with
       |true=>
        have e0:=of_decide_eq_true p1;have hvu:=hw2 e0 e0;subst hvu;have hce:=Ir hok hu;have heq:=FJ u u hce;rw[decide_eq_true rfl]at heq;refine RG ?_;(repeat first|(refine AOps.gN ?_;first|(refine AOps.g_callf ?_;first|refine AOps.c2 (h:=(heq ..)) (k:=?_)))|(refine AOps.gQ ?_;first|refine AOps.goNU ?_|refine AOps.goNV ?_)|refine WO ?_|refine Ai λX=>?_|refine Ay λY=>?_);refine NL ?_;exact jn false rfl
       |false=>
        refine RG ?_;(repeat first|(refine AOps.gQ ?_;first|refine AOps.goNU ?_|refine AOps.goNV ?_)|refine WO ?_|refine Ai λX=>?_|refine Ay λY=>?_);refine NL ?_;exact jn false rfl
      ·have p0:decide (f≠g)=true:=decide_eq_true hfg
       rcases hw1 with h3|h3
       ·exact absurd h3 hfg
       ·subst h3
        cases p1:decide (f=0)with
        |true=>
         have p2:decide (g=0)=false:=decide_eq_false λe=>hfg ((of_decide_eq_true p1).trans e.symm)
         refine RG ?_;(repeat first|(refine AOps.gN ?_;first|refine AOps.go (h:=W.buildV (GD it.ent.n (-1)) rfl rfl) (k:=?_)|refine AOps.go (h:=I6 (C:=keyP) (it.ent.n,(-1:Int)) (.bool true) hl2 hwok rfl rfl (by exact At.f)) (k:=?_))|(refine AOps.gQ ?_;first|refine AOps.goNU ?_|refine AOps.goNV ?_)|refine WO ?_|refine Ai λX=>?_|refine Ay λY=>?_);refine NL ?_;exact jn false rfl
        |false=>
         refine RG ?_;(repeat first|(refine AOps.gN ?_;first|refine AOps.go (h:=W.buildV (GD it.ent.n (-1)) rfl rfl) (k:=?_)|refine AOps.go (h:=I6 (C:=keyP) (it.ent.n,(-1:Int)) (.bool true) hl2 hwok rfl rfl (by exact At.f)) (k:=?_))|(refine AOps.gQ ?_;first|refine AOps.goNU ?_|refine AOps.goNV ?_)|refine WO ?_|refine Ai λX=>?_|refine Ay λY=>?_);refine NL ?_;exact jn false rfl
     rintro q rfl;refine AE rfl rfl ?_;refine FL ?_;refine RG ?_;(repeat first|refine WO ?_|refine Ai λX=>?_|refine Ay λY=>?_);refine NL ?_;exact A7 (k+1) h2 (by omega)
   ·have h2:k=a.kinds.length:=by rw[decide_eq_false_iff_not,hkm]at hd;omega
    refine FL ?_;refine RG ?_;(repeat first|refine WO ?_|refine Ai λX=>?_|refine Ay λY=>?_);refine NL ?_;exact A7 (i+1) h (by omega)
  ·refine FL ?_
   refine RG ?_;(repeat first|refine WO ?_|refine Ai λX=>?_|refine Ay λY=>?_);refine NL ?_;refine RT ?_;refine AN ?_;rfl
theorem Pc(z0:List Int)(A0:Option Addr)(n0 cap0:Nat)(z1:List Int)(A1:Option Addr)(n1 cap1:Nat)(w:World)(h0:O6 w (Lt w) (.slice A0 n0 cap0) z0)(hlen0:z0.length<=1048576)(h1:O6 w (Lt w) (.slice A1 n1 cap1) z1)(hlen1:z1.length<=1048576):
  Calls Tryz.prog 6 #[.slice A0 n0 cap0,.slice A1 n1 cap1] w λe w'=>e= .returned (.bool true)/\Below w.heap.size w w':=
 (LR z0 z1 hlen0 hlen1).calls_bool (Kv h0 (Kv h1 (Qo)))
end
end Go.Proofs.YtiidbamlcgbpnaaGreat
