/-
  Part 7 of the texts under the law MarkPatches: the layer of abstract values, walks and plain laws. Conditions: those that each theorem names.
-/
import Derived.Below
import Derived.Test.YtiidbamlcgbpnaaGreatMarkPatchesP6
namespace Go.Proofs.YtiidbamlcgbpnaaGreat
set_option linter.unusedVariables false
set_option linter.unusedSimpArgs false
set_option linter.defProp false
set_option maxRecDepth 10000
set_option maxHeartbeats 4000000
theorem Oi{w:Wd}{j:Nat}(h1:∀q<j,(!Et w.items (q:Nat)&&decide (w.gens.getD q 0<1073741824))=false)(h2:j<w.gens.length)(h3:(!Et w.items (j:Nat)&&decide (w.gens.getD j 0<1073741824))=true):BG w=(j,true):=by
 have:Jr w=some j:=by
  unfold Jr;rw[List.find?_eq_some_iff_getElem];exact⟨h3,j,by simpa using h2,by simp,λq hq=>by have:=h1 q hq;simp only[List.getElem_range];rw[this];rfl⟩
 unfold BG;rw[this]
theorem Gk:∀(l:List Item) (it:Item),(Gl l it).Perm (it::l)
 |[],it=>.refl _
 |x::l,it=>by
  rw[Gl];split
  ·exact((Gk l it).cons x).trans (.swap ..)
  ·exact .refl _
theorem Oh{w:Wd}(h1:∀q<w.gens.length,(!Et w.items (q:Nat)&&decide (w.gens.getD q 0<1073741824))=false):BG w=(w.gens.length,decide ((w.gens.length:Int)<256)):=by
 have:Jr w=none:=by
  unfold Jr;rw[List.find?_eq_none];intro q hq;have:=h1 q (by simpa using hq);rw[this];simp
 unfold BG;rw[this]
set_option maxRecDepth 8000 in
theorem NI(a:Ar)(w:Wd)(h:ArFor a w)(h12:w.kinds.length<=12)(l:List Comp)(hl:l.length<=1099511627776):Spec Tryz.prog 270 [.ptr a.A 0 0,Al false false l] (arS a) λr S'=>∃b:Ar,(ArFor b (D9 w (Ch w l).1 (Ch w l).2.2)/\b.A=a.A)/\r= .tup [AZ (Ch w l).2.1,iA (Ch w l).2.2]/\S'=arS b:=by
 have hft:=KH a.kinds l (by rw[h.kinds];exact h12) hl;obtain⟨r,hr⟩:∃r,Ch w l=r:=⟨_,rfl⟩;rw[hr];unfold Ch at hr;rw[if_neg (by simp[(A8 w).2 h.wok])]at hr;rw[h.kinds]at hft;obtain⟨⟨cs,f⟩,hcs⟩:∃q,B7 w.kinds l=q:=⟨_,rfl⟩;have hheld:f=0->Bc w.kinds cs=true:=λe=>by have:=HH (ks:=w.kinds) (l:=l) (by rw[hcs];exact e);rwa[hcs]at this
 rw[hcs]at hr hft;dsimp only at hr hft;have hgl:=h.wok.gl;rw[<-h.gens]at hgl;refine Spec.of (nt:=84) (res:=[.cell 4 32,.tmp 5]) Tryz.func270 rfl (by kernel_rfl) rfl rfl rfl λSf=>?_
 refine RG ?_;(repeat first|refine WO ?_|refine Ai λP=>?_|refine Ay λY=>?_);refine NL ?_;refine FL ?_;rw[<-h.kinds]at hft;refine RG ?_;(repeat first|(refine AOps.gN ?_;first|(refine AOps.g_callf ?_;first|refine AOps.c2 (h:=(hft ..)) (k:=?_)))|refine WO ?_|refine Ai λX=>?_|refine Ay λY=>?_);refine NL ?_;refine FL ?_;refine RG ?_;(repeat first|refine WO ?_|refine Ai λX=>?_|refine Ay λY=>?_);refine NL ?_;by_cases hf:f≠0
 ·rw[if_pos hf]at hr
  subst hr;refine AQ rfl (decide_eq_true hf) ?_;refine FL ?_;refine RG ?_;(repeat first|refine WO ?_|refine Ai λX=>?_|refine Ay λY=>?_);refine NL ?_;refine RT ?_;exact AS [AZ ⟨0,0⟩,iA f] (arS a) ⟨a,⟨by unfold D9;rw[if_neg hf];exact h,rfl⟩,rfl,rfl⟩
 have hf:f=0:=Decidable.not_not.1 hf;subst hf;rw[if_neg (by simp)]at hr;refine AE rfl rfl ?_;refine FL ?_;refine RG ?_;(repeat first|refine WO ?_|refine Ai λX=>?_|refine Ay λY=>?_);refine NL ?_;refine FL ?_;refine BT (λ(j:Nat)=>⟨[(0,.ptr a.A 0 0),(4,.ptr P 0 0),(6,Al false false cs),(8,iA j)],(P,.row 32 2 [AZ ⟨0,0⟩])::(arS a++Sf)⟩) (λj=>j<=a.gens.length/\∀q<j,(!Et w.items (q:Nat)&&decide (w.gens.getD q 0<1073741824))=false) (λj=>a.gens.length-j) 0 ⟨Nat.zero_le _,λq hq=>absurd hq (by omega)⟩ ?_;rintro j ⟨hj,hall⟩;have hjI:I64 (j:Int):=by constructor<;>omega
 by_cases hjl:j<a.gens.length
 ·have hd:decide ((j:Int)<(a.gens.length:Nat))=true:=decide_eq_true (by omega)
  have hat:(a.gens.map iA)[j]?=some (iA a.gens[j]):=Aj _ hjl;have hmem:=h.wok.gs a.gens[j] (by rw[<-h.gens];exact List.getElem_mem hjl);have hgd:w.gens.getD j 0=a.gens[j]:=by rw[<-h.gens,List.getD_eq_getElem?_getD,List.getElem?_eq_getElem hjl];rfl
  have hus:=h.used j
  have hus0:a.g j=none->¬a.gens[j]=1073741824->BG w=(j,true):=λe1 e2=>by
   refine Oi hall (by rw[<-h.gens];exact hjl) ?_;rw[<-hus,e1,hgd,decide_eq_true (by omega)];rfl
  cases hg:a.g j with
  |none=>
   have hgp:(a.g j).getD (.pointer none)= .pointer none:=by rw[hg];rfl
   refine RG ?_;(repeat first|(refine AOps.gN ?_;first|refine AOps.go (h:=Ek _ hgp hjI rfl rfl (by exact At.f)) (k:=?_)|refine AOps.go (h:=W.neNil false (.inl ⟨rfl,rfl⟩) rfl rfl) (k:=?_))|refine WO ?_|refine Ai λX=>?_|refine Ay λY=>?_);refine NL ?_;refine AWP.cond rfl (λhc=>?_) (λhc=>?_)
   ·have hc:a.gens[j]=1073741824:=of_decide_eq_true hc
    refine FL ?_;refine RG ?_;(repeat first|refine WO ?_|refine Ai λX=>?_|refine Ay λY=>?_);refine NL ?_;refine BE (j+1) ⟨by omega,λq hq=>?_⟩ (by omega);by_cases hqj:q=j
    ·subst hqj
     rw[hgd,hc];simp
    ·exact hall q (by omega)
   ·have hc:¬a.gens[j]=1073741824:=of_decide_eq_false hc
    have hfr:=hus0 hg hc;obtain⟨f1,f2,f3,f4⟩:=Fx h.wok (by rw[hfr]);have hv:=H4 h.wok (by rw[hfr]) (hheld rfl);rw[hfr]at hr f1 f2 f3 f4 hv;dsimp only at hr f1 f2 f3 f4 hv;rw[if_neg (by simp)]at hr;have hgz:a.gens=B6 w.gens j:=by unfold B6;rw[if_neg (by rw[<-h.gens];omega),h.gens]
    obtain⟨g,hge⟩:∃g,(B6 w.gens j).getD j 0=g:=⟨_,rfl⟩;rw[hge]at hr hv;have hge:a.gens[j]=g:=by rw[<-hge,<-hgz,List.getD_eq_getElem?_getD,List.getElem?_eq_getElem hjl];rfl
    rw[hge]at hat;subst hr
    have hfk:((j:Nat):Int)∉Ax a.ts:=λhm=>by
     rw[h.ok.keys_items]at hm;obtain⟨x,hx,e⟩:=List.mem_map.1 hm;exact f2 x (h.items.mem_iff.1 hx) e
    have had:=I2 a ⟨(j:Nat),g⟩ cs h.ok h.ne (by dsimp only;omega) hfk (Fs h.wok.ks (hheld rfl)).1;have hd2:decide ((j:Int)=256)=false:=decide_eq_false (by omega);have hd3:decide ((j:Int)=(a.gens.length:Nat))=false:=decide_eq_false (by omega);refine FL ?_;refine RG ?_;(repeat first|refine WO ?_|refine Ai λX=>?_|refine Ay λY=>?_);refine NL ?_;refine AE rfl hd2 ?_;refine FL ?_;refine RG ?_;(repeat first|refine WO ?_|refine Ai λX=>?_|refine Ay λY=>?_);refine NL ?_;refine AE rfl hd3 ?_;refine FL ?_;refine RG ?_;(repeat first|refine WO ?_|refine Ai λE=>?_|refine Ay λY=>?_);refine NL ?_;refine FL ?_;refine RG ?_;(repeat first|(refine AOps.gN ?_;first|refine DC [_,_] (h:=had) (k:=λb2 hb2=>?_))|refine WO ?_|refine Ai λX=>?_|refine Ay λY=>?_);refine NL ?_;refine FL ?_;refine RG ?_;(repeat first|refine WO ?_|refine Ai λX=>?_|refine Ay λY=>?_);refine NL ?_;refine RT ?_;obtain⟨q1,q2,q3,q4,q5,q6⟩:=hb2;exact AS [AZ ⟨(j:Nat),g⟩,iA 0] (arS b2) ⟨b2,⟨⟨q1,q2,q4.trans h.kinds,q5.trans hgz,q6.trans ((h.items.cons _).trans (Gk _ _).symm),hv⟩,q3⟩,rfl,rfl⟩
  |some u=>
   have hgp:(a.g j).getD (.pointer none)=u:=by rw[hg];rfl
   obtain⟨t,ht,htn,hK,b,hb⟩:=h.ok.g j u hg;have hone:u.oneCell'=true:=by rw[hb];rfl
   refine RG ?_;(repeat first|(refine AOps.gN ?_;first|refine AOps.go (h:=Ek _ hgp hjI rfl rfl (by exact At.f) hone) (k:=?_)|refine AOps.go (h:=W.neNil true (.inr ⟨b,hb,rfl⟩) rfl rfl) (k:=?_))|refine WO ?_|refine Ai λX=>?_|refine Ay λY=>?_);refine NL ?_;refine AQ rfl rfl ?_;refine FL ?_;refine RG ?_;(repeat first|refine WO ?_|refine Ai λX=>?_|refine Ay λY=>?_);refine NL ?_;refine BE (j+1) ⟨by omega,λq hq=>?_⟩ (by omega);by_cases hqj:q=j
   ·subst hqj
    rw[<-hus,hg];rfl
   ·exact hall q (by omega)
 ·have hjl:j=a.gens.length:=by omega
  have hd:decide ((j:Int)<(a.gens.length:Nat))=false:=decide_eq_false (by omega);have hfr:=Oh (w:=w) λq hq=>hall q (by rw[hjl,h.gens];exact hq)
  rw[<-h.gens,<-hjl]at hfr;refine RG ?_;(repeat first|(refine AOps.gQ ?_;first|refine AOps.goNU ?_|refine AOps.goNV ?_)|refine WO ?_|refine Ai λX=>?_|refine Ay λY=>?_);refine NL ?_;refine AE rfl rfl ?_;refine FL ?_;refine RG ?_;(repeat first|refine WO ?_|refine Ai λX=>?_|refine Ay λY=>?_);refine NL ?_;refine AWP.cond rfl (λhc=>?_) (λhc=>?_)
  ·have hc:(j:Int)=256:=of_decide_eq_true hc
   rw[hfr,if_pos (decide_eq_false (by omega))]at hr;subst hr;refine FL ?_;refine RG ?_;(repeat first|refine WO ?_|refine Ai λX=>?_|refine Ay λY=>?_);refine NL ?_;refine RT ?_;exact AS [AZ ⟨0,0⟩,iA 6] (arS a) ⟨a,⟨h,rfl⟩,rfl,rfl⟩
  ·have hc:¬(j:Int)=256:=of_decide_eq_false hc
   have hfr:BG w=(j,true):=by rw[hfr,decide_eq_true (by omega)]
   obtain⟨f1,f2,f3,f4⟩:=Fx h.wok (by rw[hfr]);have hv:=H4 h.wok (by rw[hfr]) (hheld rfl);rw[hfr]at hr f1 f2 f3 f4 hv;dsimp only at hr f1 f2 f3 f4 hv;rw[if_neg (by simp)]at hr;have hgr:B6 w.gens j=a.gens++[0]:=by unfold B6;rw[if_pos (by rw[<-h.gens];exact hjl),h.gens]
   obtain⟨g,hge⟩:∃g,(B6 w.gens j).getD j 0=g:=⟨_,rfl⟩;rw[hge]at hr hv;have hge:g=0:=by rw[<-hge,hgr,hjl,List.getD_eq_getElem?_getD];simp
   subst hge;subst hr;have hd3:decide ((j:Int)=(a.gens.length:Nat))=true:=decide_eq_true (by omega);refine FL ?_;refine RG ?_;(repeat first|refine WO ?_|refine Ai λX=>?_|refine Ay λY=>?_);refine NL ?_;refine AQ rfl hd3 ?_;refine FL ?_;refine RG ?_;(repeat first|(refine AOps.gN ?_;first|(refine AOps.g_lit ?_;refine AOps.goL (iA 0) ?_))|refine WO ?_|refine Ai λX=>?_|refine Ay λY=>?_);dsimp only[AN,List.set_cons_zero,List.set_cons_succ,List.cons_append,List.nil_append];refine AOps.nil ?_;refine FL ?_;have hm1:a.gens.map iA++[iA 0]=(a.gens++[0]).map iA:=by rw[List.map_append];rfl
   have hm2:a.gens.length+[iA 0].length=(a.gens++[0]).length:=by rw[List.length_append];rfl
   rw[hm1,hm2];obtain⟨z,hz⟩:∃z:Ar,z={a with G:=Y,gens:=a.gens++[0]}:=⟨_,rfl⟩;have hzA:z.A=a.A:=by rw[hz]
   have hzg:z.gens=a.gens++[0]:=by rw[hz]
   have hzt:z.ts=a.ts:=by rw[hz]
   have hzo:ArOK z:=by rw[hz];exact⟨h.ok.tab,h.ok.ord,h.ok.keys,h.ok.ent,h.ok.g,h.ok.gn,h.ok.cnt⟩
   refine AWP.weak (st':=⟨[(0,.ptr a.A 0 0),(4,.ptr P 0 0),(6,Al false false cs),(8,iA j)],(P,.row 32 2 [AZ ⟨0,0⟩])::(arS z++Sf)⟩) ⟨by exact Lk.f,?_⟩ ?_
   ·rw[hz]
    simp only[arS,List.cons_append,List.nil_append];exact List.Sublist.refl _
   have hat:(z.gens.map iA)[j]?=some (iA 0):=by rw[hzg,List.getElem?_map,hjl];simp
   have hjz:j<z.gens.length:=by rw[hzg,List.length_append,hjl];show a.gens.length<_+1;omega
   have hfk:((j:Nat):Int)∉Ax z.ts:=λhm=>by
    rw[hzt,h.ok.keys_items]at hm;obtain⟨x,hx,e⟩:=List.mem_map.1 hm;exact f2 x (h.items.mem_iff.1 hx) e
   have had:=I2 z ⟨(j:Nat),0⟩ cs hzo (by rw[hzt];exact h.ne) (by dsimp only;omega) hfk (Fs h.wok.ks (hheld rfl)).1;rw[hzt]at had;rw[<-hzA];refine RG ?_;(repeat first|refine WO ?_|refine Ai λE=>?_|refine Ay λY=>?_);refine NL ?_;refine FL ?_;refine RG ?_;(repeat first|(refine AOps.gN ?_;first|refine DC [_,_] (h:=had) (k:=λb2 hb2=>?_))|refine WO ?_|refine Ai λX=>?_|refine Ay λY=>?_);refine NL ?_;refine FL ?_;refine RG ?_;(repeat first|refine WO ?_|refine Ai λX=>?_|refine Ay λY=>?_);refine NL ?_;refine RT ?_;obtain⟨q1,q2,q3,q4,q5,q6⟩:=hb2;exact AS [AZ ⟨(j:Nat),0⟩,iA 0] (arS b2) ⟨b2,⟨⟨q1,q2,(q4.trans (by rw[hz])).trans h.kinds,(q5.trans hzg).trans hgr.symm,q6.trans ((h.items.cons _).trans (Gk _ _).symm),hv⟩,q3⟩,rfl,rfl⟩
section
section
variable {a:Ar}{w:Wd}
theorem Px{e:Ent}{l:List Comp}{i:Nat}(hw:WdOK w)(hi:w.items[i]?=some ⟨e,l⟩):CK w.items e=i:=GU hw.so hi
theorem Ql(h:ArFor a w)(h12:w.kinds.length<=12)(e:Ent)(c:Comp)(hn:I64 e.n)(hk:I64 c.kind):Spec Tryz.prog 267 [.ptr a.A 0 0,AZ e,AD false c] (arS a) λr S'=>∃b:Ar,(ArFor b (D9 w (Cl w e c).1 (Cl w e c).2)/\b.A=a.A)/\r=iA (Cl w e c).2/\S'=arS b:=by
 have hwe:=(A8 w).2 h.wok;cases hh:Eh a e with
 |false=>
  have hf:=h.hasE hh;have hp:Cl w e c=(⟨[],[],[]⟩,4):=by unfold Cl;rw[if_neg (by simp[hwe]),if_pos hf]
  rw[hp];exact(Rq a h.ok e c hn hh).mono λr S' ⟨e1,e2⟩=>⟨a,⟨h,rfl⟩,e1,e2⟩
 |true=>
  obtain⟨l1,l2,t,hts,hm⟩:=Hn h.ok hh;have htm:t∈a.ts:=by rw[hts];simp
  obtain⟨i,hi⟩:=h.item htm hm;have hso:=h.sort htm hm;have hhe:=h.held htm hm;have hfi:=Px h.wok hi;have hto:=h.ok.tab t htm
  have h11:(B7 a.kinds [c]).2=0->c.kind∉t.ks->t.ks.length<=11:=λe1 e2=>by
   obtain⟨d,_,_,g1,g2⟩:=JX e1;rw[h.kinds]at g2
   have h1:(c.kind::t.ks).length<=w.kinds.length:=Ex (λx=>x) _ _ (List.pairwise_cons.2 ⟨λx hx e=>e2 (by subst e;exact hx),(H5 hto hso).imp λh=>by omega⟩) λx hx=>by
    rcases List.mem_cons.1 hx with rfl|hx
    ·exact⟨g1,g2⟩
    ·rw[<-CF hto e.n]at hx
     obtain⟨d,hd,rfl⟩:=List.mem_map.1 hx;have:=(held_iff.1 hhe).2 d hd;exact⟨this.1,this.2.1⟩
   rw[List.length_cons]at h1;omega
  refine(Qk a h.ok h.ne e c hn hk (by rw[h.kinds];exact h12) hh hts hm hso h11).mono λr S' ⟨b,hb,e1,e2⟩=>?_
  unfold R8 at hb;rw[h.kinds]at hb e1;rcases hb with⟨hne,rfl⟩|⟨d,hd,hs⟩
  ·have hp:Cl w e c=(⟨[],[],[]⟩,(B7 w.kinds [c]).2):=by unfold Cl;rw[if_neg (by simp[hwe]),hfi,if_neg (by omega),if_pos hne]
   rw[hp];exact⟨b,⟨by unfold D9;rw[if_neg hne];exact h,rfl⟩,e1,e2⟩
  ·have hp:Cl w e c=(Cq w i (ET (AK t e.n) d),0):=by unfold Cl;rw[if_neg (by simp[hwe]),hfi,if_neg (by omega),hd,if_neg (by simp),Int.toNat_natCast,hi]
   rw[hd]at e1;rw[hp];have hfo:=JZ h.wok.ks (by rw[hd]);have hdc:=Hw h.wok.ks hfo;rw[hd]at hdc;injection hdc with hdc
   injection hdc with hdc
   have hpo:=PH h.wok hi hfo
   have hhl:Bc w.kinds (ET (AK t e.n) d)=true:=by
    rw[hdc]
    have hii:(Cq w i (ET (AK t e.n) (Fy w.kinds c))).items[i]?=some ⟨e,ET (AK t e.n) (Fy w.kinds c)⟩:=by
     rw[Fm hi];exact List.getElem?_set_self (List.getElem?_eq_some_iff.1 hi).1
    exact(hpo.it _ (List.mem_of_getElem? hii)).2.2.2.2
   exact⟨b,⟨h.swap hs hi hhl,hs.A⟩,e1,e2⟩
theorem P1(h:ArFor a w)(e:Ent)(k:Int)(hn:I64 e.n)(hk:I64 k):Spec Tryz.prog 268 [.ptr a.A 0 0,AZ e,iA k] (arS a) λr S'=>∃b:Ar,(ArFor b (D9 w (D5 w e k).1 (D5 w e k).2)/\b.A=a.A)/\r=iA (D5 w e k).2/\S'=arS b:=by
 have hwe:=(A8 w).2 h.wok;cases hh:Eh a e with
 |false=>
  have hf:=h.hasE hh;have hp:D5 w e k=(⟨[],[],[]⟩,4):=by unfold D5;rw[if_neg (by simp[hwe]),if_pos hf]
  rw[hp];exact(P3 a h.ok e k hn hh).mono λr S' ⟨e1,e2⟩=>⟨a,⟨h,rfl⟩,e1,e2⟩
 |true=>
  obtain⟨l1,l2,t,hts,hm⟩:=Hn h.ok hh;have htm:t∈a.ts:=by rw[hts];simp
  obtain⟨i,hi⟩:=h.item htm hm;have hso:=h.sort htm hm;have hhe:=h.held htm hm;have hto:=h.ok.tab t htm;have hp:=Jz h.wok hi k;dsimp only at hp;have hcm:(Co (AK t e.n) k).isSome=true↔k∈t.ks:=by rw[Iu hso,CF hto]
  refine(Om a h.ok h.ne e k hn hk hh hts hm (H5 hto hso)).mono λr S' ⟨b,hb,e1,e2⟩=>?_
  by_cases hkm:k∈t.ks
  ·have hcs:=hcm.2 hkm
   rw[if_pos hkm]at hb e1;rw[if_pos hcs]at hp;rw[hp];have hl:IN t.ks k=C8 (AK t e.n) k:=by rw[<-IM hso,CF hto]
   rw[hl,<-Lz hso hcs]at hb;exact⟨b,⟨h.swap hb hi (Jq hhe),hb.A⟩,e1,e2⟩
  ·rw[if_neg hkm]at hb e1
   rw[if_neg λe=>hkm (hcm.1 e)]at hp;rw[hp];subst hb;exact⟨b,⟨h,rfl⟩,e1,e2⟩
theorem Pd(h:ArFor a w)(e:Ent)(hn:I64 e.n):Spec Tryz.prog 269 [.ptr a.A 0 0,AZ e] (arS a) λr S'=>∃b:Ar,(ArFor b (D9 w (DJ w e).1 (DJ w e).2)/\b.A=a.A)/\r=iA (DJ w e).2/\S'=arS b:=by
 have hwe:=(A8 w).2 h.wok;cases hh:Eh a e with
 |false=>
  have hf:=h.hasE hh;have hp:DJ w e=(⟨[],[],[]⟩,4):=by unfold DJ;rw[if_neg (by simp[hwe]),if_pos hf]
  rw[hp];exact(Qx a h.ok e hn hh).mono λr S' ⟨e1,e2⟩=>⟨a,⟨h,rfl⟩,e1,e2⟩
 |true=>
  obtain⟨l1,l2,t,hts,hm⟩:=Hn h.ok hh;have htm:t∈a.ts:=by rw[hts];simp
  obtain⟨i,hi⟩:=h.item htm hm;have hit:=h.wok.it _ (List.mem_of_getElem? hi);dsimp only at hit;refine(Pc a h.ok h.ne e hn hh (by rw[h.gens];omega) (by rw[h.gens];exact h.wok.gl) (by rw[h.gens];exact h.wok.gs)).mono λr S' ⟨b,hb,e1,e2⟩=>?_
  obtain⟨g1,g2⟩:=h.kill hb hh;rw[g1];exact⟨b,⟨g2,hb.A⟩,e1,e2⟩
end
end
abbrev J5(b:Bool)(l:List Cmd):AV:=.lst b 159 5 (l.map CU)
theorem Ou(ks:List Kind)(c:Cmd)(h12:ks.length<=12)(hl:c.comps.length<=1099511627776):PS Tryz.prog 223 [Ak false false ks,CU c] (.tup [Al false false (CP ks c).1,iA (CP ks c).2]):=by
 have hft:=KH ks c.comps h12 hl;obtain⟨act,ent,kind,comps⟩:=c;dsimp only at hft hl;obtain⟨r,hr⟩:∃r,CP ks ⟨act,ent,kind,comps⟩=r:=⟨_,rfl⟩;rw[hr];unfold CP at hr;dsimp only at hr;refine Spec.of (nt:=42) (res:=[.tmp 4,.tmp 5]) Tryz.func223 rfl (by kernel_rfl) rfl rfl rfl λSf=>?_
 have hlm:(comps.map (AD false)).length=comps.length:=List.length_map _;have hkm:(ks.map (An false)).length=ks.length:=List.length_map _;refine RG ?_;(repeat first|refine WO ?_|refine Ai λB=>?_|refine Ay λY=>?_);refine NL ?_;refine FL ?_;refine RG ?_;(repeat first|refine WO ?_|refine Ai λX=>?_|refine Ay λY=>?_);refine NL ?_;refine FL ?_;refine RG ?_;(repeat first|refine WO ?_|refine Ai λX=>?_|refine Ay λY=>?_);refine NL ?_;refine AWP.cond rfl (λh0=>?_) (λh0=>?_)
 ·rw[if_pos (of_decide_eq_true h0)]at hr
  refine FL ?_;refine RG ?_;(repeat first|refine WO ?_|refine Ai λX=>?_|refine Ay λY=>?_);refine NL ?_;refine AWP.cond rfl (λh1=>?_) (λh1=>?_)
  ·have h1:((comps.map (AD false)).length:Int)≠1:=of_decide_eq_true h1
   rw[if_neg (by omega)]at hr;subst hr;refine FL ?_;refine RG ?_;(repeat first|refine WO ?_|refine Ai λX=>?_|refine Ay λY=>?_);refine NL ?_;refine RT ?_;exact BN [.prim (.slice none 0 0),iA 3] [Al false false [],iA 3] (.cons (.cell .nil) (.cons (.cell .same) .nil))
  ·have h1:¬((comps.map (AD false)).length:Int)≠1:=of_decide_eq_false h1
   rw[if_pos (by omega)]at hr;subst hr;refine FL ?_;refine RG ?_;(repeat first|(refine AOps.gN ?_;first|(refine AOps.g_callf ?_;first|refine AOps.c2 (h:=(hft ..)) (k:=?_)))|refine WO ?_|refine Ai λX=>?_|refine Ay λY=>?_);refine NL ?_;refine RT ?_;exact Gc (rs:=[Al false false (B7 ks comps).1,iA (B7 ks comps).2]) rfl
 rw[if_neg (of_decide_eq_false h0)]at hr;refine FL ?_;refine RG ?_;(repeat first|refine WO ?_|refine Ai λX=>?_|refine Ay λY=>?_);refine NL ?_;refine AWP.cond rfl (λh1=>?_) (λh1=>?_)
 ·rw[if_pos (of_decide_eq_true h1)]at hr
  refine FL ?_;cases g1:decide (kind<0)with
  |true=>
   rw[if_pos (.inl (of_decide_eq_true g1))]at hr;subst hr;refine RG ?_;(repeat first|refine WO ?_|refine Ai λX=>?_|refine Ay λY=>?_);refine NL ?_;refine AQ rfl (by first|rfl|assumption) ?_;refine FL ?_;refine RG ?_;(repeat first|refine WO ?_|refine Ai λX=>?_|refine Ay λY=>?_);refine NL ?_;refine RT ?_;exact BN [.prim (.slice none 0 0),iA 1] [Al false false [],iA 1] (.cons (.cell .nil) (.cons (.cell .same) .nil))
  |false=>
   refine RG ?_;(repeat first|refine WO ?_|refine Ai λX=>?_|refine Ay λY=>?_);refine NL ?_;refine AWP.cond rfl (λg2=>?_) (λg2=>?_)
   ·rw[hkm]at g2
    rw[if_pos (.inr (of_decide_eq_true g2))]at hr;subst hr;refine FL ?_;refine RG ?_;(repeat first|refine WO ?_|refine Ai λX=>?_|refine Ay λY=>?_);refine NL ?_;refine RT ?_;exact BN [.prim (.slice none 0 0),iA 1] [Al false false [],iA 1] (.cons (.cell .nil) (.cons (.cell .same) .nil))
   ·rw[hkm]at g2
    have g1:=of_decide_eq_false g1;have g2:¬(ks.length:Int)<=kind:=of_decide_eq_false g2;rw[if_neg (by omega)]at hr;subst hr;refine FL ?_;refine RG ?_;(repeat first|refine WO ?_|refine Ai λX=>?_|refine Ay λY=>?_);refine NL ?_;refine RT ?_;exact BN [.prim (.slice none 0 0),iA 0] [Al false false [],iA 0] (.cons (.cell .nil) (.cons (.cell .same) .nil))
 rw[if_neg (of_decide_eq_false h1)]at hr;refine FL ?_;refine RG ?_;(repeat first|refine WO ?_|refine Ai λX=>?_|refine Ay λY=>?_);refine NL ?_;refine AWP.cond rfl (λh2=>?_) (λh2=>?_)
 ·rw[if_pos (of_decide_eq_true h2)]at hr
  subst hr;refine FL ?_;refine RG ?_;(repeat first|refine WO ?_|refine Ai λX=>?_|refine Ay λY=>?_);refine NL ?_;refine RT ?_;exact BN [.prim (.slice none 0 0),iA 0] [Al false false [],iA 0] (.cons (.cell .nil) (.cons (.cell .same) .nil))
 rw[if_neg (of_decide_eq_false h2)]at hr;refine FL ?_;refine RG ?_;(repeat first|refine WO ?_|refine Ai λX=>?_|refine Ay λY=>?_);refine NL ?_;refine AWP.cond rfl (λh3=>?_) (λh3=>?_)
 ·rw[if_pos (of_decide_eq_true h3)]at hr
  subst hr;refine FL ?_;refine RG ?_;(repeat first|(refine AOps.gN ?_;first|(refine AOps.g_callf ?_;first|refine AOps.c2 (h:=(hft ..)) (k:=?_)))|refine WO ?_|refine Ai λX=>?_|refine Ay λY=>?_);refine NL ?_;refine RT ?_;exact Gc (rs:=[Al false false (B7 ks comps).1,iA (B7 ks comps).2]) rfl
 rw[if_neg (of_decide_eq_false h3)]at hr;subst hr;refine FL ?_;refine RG ?_;(repeat first|refine WO ?_|refine Ai λX=>?_|refine Ay λY=>?_);refine NL ?_;refine RT ?_;exact BN [.prim (.slice none 0 0),iA 1] [Al false false [],iA 1] (.cons (.cell .nil) (.cons (.cell .same) .nil))
theorem Ov{ks:List Kind}{l:List Cmd}{i:Nat}{c:Cmd}(h:i<l.length)(hc:l[i]=c):DN ks (l.drop i)=if(CP ks c).2=0 then DN ks (l.drop (i+1))else(CP ks c).2:=by
 rw[List.drop_eq_getElem_cons h,DN,hc]
theorem HT(w:Wd)(l:List Cmd)(hw:WdL w)(h12:w.kinds.length<=12)(hl:l.length<=1099511627776)(hc:∀c∈l,c.comps.length<=1099511627776):PS Tryz.prog 162 [wdA false w,J5 false l] (iA (F6 w l)):=by
 have hck:=EZ w hw.gens hw.items.1 (λit hit=>(hw.items.2 it hit).1);obtain⟨r,hr⟩:∃r,F6 w l=r:=⟨_,rfl⟩;rw[hr];unfold F6 at hr;obtain⟨we,hwe⟩:∃we,DS w=we:=⟨_,rfl⟩;rw[hwe]at hck hr;have hlm:(l.map CU).length=l.length:=List.length_map _;refine Spec.of (nt:=35) (res:=[.tmp 4]) Tryz.func162 rfl (by kernel_rfl) rfl rfl rfl λSf=>?_
 refine RG ?_;(repeat first|(refine AOps.gN ?_;first|(refine AOps.g_box ?_;refine Aw ?_))|refine WO ?_|refine Ai λX=>?_|refine Ay λY=>?_);refine NL ?_;refine FL ?_;refine RG ?_;(repeat first|(refine AOps.gN ?_;first|(refine AOps.g_callf ?_;first|refine AOps.c1 (h:=(hck ..)) (k:=?_)))|refine WO ?_|refine Ai λX=>?_|refine Ay λY=>?_);refine NL ?_;refine FL ?_;refine RG ?_;(repeat first|refine WO ?_|refine Ai λX=>?_|refine Ay λY=>?_);refine NL ?_;refine AWP.cond rfl (λh0=>?_) (λh0=>?_)
 ·rw[if_pos (of_decide_eq_true h0)]at hr
  subst hr;refine FL ?_;refine RG ?_;(repeat first|refine WO ?_|refine Ai λX=>?_|refine Ay λY=>?_);refine NL ?_;refine RT ?_;refine AI ?_;rfl
 rw[if_neg (of_decide_eq_false h0)]at hr;refine FL ?_;refine RG ?_;(repeat first|refine WO ?_|refine Ai λX=>?_|refine Ay λY=>?_);refine NL ?_;refine AWP.cond rfl (λh1=>?_) (λh1=>?_)
 ·have h1:=of_decide_eq_true h1
  rw[if_pos (by omega)]at hr;subst hr;refine FL ?_;refine RG ?_;(repeat first|refine WO ?_|refine Ai λX=>?_|refine Ay λY=>?_);refine NL ?_;refine RT ?_;refine AI ?_;rfl
 have h1:=of_decide_eq_false h1;rw[if_neg (by omega)]at hr;subst hr;refine FL ?_;refine RG ?_;(repeat first|refine WO ?_|refine Ai λX=>?_|refine Ay λY=>?_);refine NL ?_;refine FL ?_;refine BT (λ(i:Nat)=>⟨[(2,.fp (wdA false w).cells),(18,J5 false l),(19,iA (l.map CU).length),(20,iA i)],Sf⟩) (λi=>i<=l.length/\DN w.kinds (l.drop i)=DN w.kinds l) (λi=>l.length-i) 0 ⟨Nat.zero_le _,rfl⟩ ?_;rintro i ⟨hi,he⟩;refine RG ?_;(repeat first|refine WO ?_|refine Ai λX=>?_|refine Ay λY=>?_);refine NL ?_;refine FL ?_;refine AWP.cond rfl (λhc2=>?_) (λhc2=>?_)
 ·have h:i<l.length:=by rw[decide_eq_true_eq,hlm]at hc2;omega
  obtain⟨c,hcc⟩:∃c,l[i]=c:=⟨_,rfl⟩;have hat:(l.map CU)[i]?=some (CU c):=by rw[List.getElem?_map,List.getElem?_eq_getElem h,hcc];rfl
  have ho:=Ou w.kinds c h12 (hc c (by rw[<-hcc];exact List.getElem_mem h));rw[Ov h hcc]at he;refine FL ?_;refine RG ?_;(repeat first|refine WO ?_|refine Ai λV=>?_|refine Ay λY=>?_);refine NL ?_;refine FL ?_;refine RG ?_;(repeat first|(refine AOps.gN ?_;first|(refine AOps.g_callf ?_;first|refine AOps.c2 (h:=(ho ..)) (k:=?_)))|refine WO ?_|refine Ai λX=>?_|refine Ay λY=>?_);refine NL ?_;refine FL ?_;refine RG ?_;(repeat first|refine WO ?_|refine Ai λX=>?_|refine Ay λY=>?_);refine NL ?_;refine AWP.cond rfl (λh3=>?_) (λh3=>?_)
  ·rw[if_neg (of_decide_eq_true h3)]at he
   refine FL ?_;refine RG ?_;(repeat first|refine WO ?_|refine Ai λX=>?_|refine Ay λY=>?_);refine NL ?_;refine RT ?_;refine AI ?_;exact congrArg iA he
  ·rw[if_pos (Decidable.not_not.1 (of_decide_eq_false h3))]at he
   refine FL ?_;refine RG ?_;(repeat first|refine WO ?_|refine Ai λX=>?_|refine Ay λY=>?_);refine NL ?_;exact BE (i+1) ⟨h,he⟩ (by omega)
 ·have h:i=l.length:=by rw[decide_eq_false_iff_not,hlm]at hc2;omega
  rw[h,List.drop_length]at he;refine FL ?_;refine RG ?_;(repeat first|refine WO ?_|refine Ai λX=>?_|refine Ay λY=>?_);refine NL ?_;refine RT ?_;refine AI ?_;exact congrArg iA he
set_option maxRecDepth 8000 in
theorem R3{a:Ar}{w:Wd}(h:ArFor a w)(h12:w.kinds.length<=12)(c:Cmd)(hc:(CP w.kinds c).2=0)(hn:I64 c.ent.n)(hl:c.comps.length<=1099511627776):Spec Tryz.prog 224 [.ptr a.A 0 0,CU c] (arS a) λr S'=>∃b:Ar,(ArFor b (D8 w c).1/\b.A=a.A)/\r= .tup [AZ (D8 w c).2.1,bA (D8 w c).2.2]/\S'=arS b:=by
 obtain⟨act,ent,kind,comps⟩:=c;dsimp only at hn hl;unfold CP at hc;dsimp only at hc;obtain⟨r,hr⟩:∃r,D8 w ⟨act,ent,kind,comps⟩=r:=⟨_,rfl⟩;rw[hr];unfold D8 at hr;dsimp only at hr;refine Spec.of (nt:=50) (res:=[.cell 4 32,.tmp 5]) Tryz.func224 rfl (by kernel_rfl) rfl rfl rfl λSf=>?_
 refine RG ?_;(repeat first|(refine AOps.gN ?_;first|(refine AOps.g_box ?_;refine Aw ?_))|refine WO ?_|refine Ai λP=>?_|refine Ay λY=>?_);refine NL ?_;refine FL ?_;refine RG ?_;(repeat first|refine WO ?_|refine Ai λX=>?_|refine Ay λY=>?_);refine NL ?_;refine FL ?_;refine RG ?_;(repeat first|refine WO ?_|refine Ai λX=>?_|refine Ay λY=>?_);refine NL ?_;refine AWP.cond rfl (λh0=>?_) (λh0=>?_)
 ·rw[if_pos (of_decide_eq_true h0)]at hr hc
  split at hc
  ·rename_i h1
   obtain⟨d,rfl⟩:=List.length_eq_one_iff.1 h1;obtain⟨_,_,_,d1,d2⟩:=JX hc;have h16:=(BJ h.wok.ks).1;have hp:=Ql h h12 ent d hn ⟨by omega,by omega⟩;replace hr:(D9 w (Cl w ent d).1 (Cl w ent d).2,(⟨0,0⟩:Ent),decide ((Cl w ent d).2=0))=r:=hr;subst hr;refine FL ?_;obtain⟨err,herr⟩:∃e,(Cl w ent d).2=e:=⟨_,rfl⟩;rw[herr]at hp⊢;refine Cv (n:=1) [(P,.row 32 2 [AZ ⟨0,0⟩])] (arS a++Sf) rfl (by kernel_rfl) (by kernel_rfl) ?_;refine RGoH.go ?_;refine RGoH.go ?_;refine RGoH.go ?_;refine RGoH.go ?_;refine RGoH.go ?_;refine RGoH.go ?_;refine RGoH.go (h:=W.idxL (a:=0) (e:=AD false d) rfl rfl rfl rfl) ?_;refine RGoH.go ?_;refine RGoH.skip [13,15,19] ?_;refine RGoH.skip [20] ?_;refine RGoH.goS ?_;refine RGoH.skip [21] ?_;refine RGoH.nil (by kernel_rfl) (by kernel_rfl) (by kernel_rfl) ?_;refine HC.step [(13,.ptr a.A 0 0),(15,AZ ent),(19,AD false d)] ⟨rfl,rfl,rfl,rfl,rfl,rfl,trivial⟩ λT F=>?_
   refine DC F (h:=hp) (k:=λb hb=>?_);refine AOps.nil ⟨rfl,_,_,⟨λd v h=>h,.refl _⟩,?_⟩;refine HC.step [(20,iA err)] ⟨rfl,rfl,trivial⟩ λT2 F2=>?_
   (repeat refine WO ?_);refine AOps.nil ⟨rfl,_,_,⟨λd v h=>h,.refl _⟩,?_⟩;refine HC.step [(21,bA (decide (err=0)))] ⟨rfl,rfl,trivial⟩ λT3 F3=>?_
   (repeat refine WO ?_);refine AOps.nil ⟨rfl,_,_,⟨λd v h=>h,.refl _⟩,?_⟩;show andThen _ _ _ _
   refine FL ?_;refine RT ?_;exact AS [AZ ⟨0,0⟩,bA (decide (err=0))] (arS b) ⟨b,⟨by rw[<-herr];rw[<-herr]at hb;exact hb.1,hb.2⟩,rfl,rfl⟩
  ·cases hc
 rw[if_neg (of_decide_eq_false h0)]at hr hc;refine FL ?_;refine RG ?_;(repeat first|refine WO ?_|refine Ai λX=>?_|refine Ay λY=>?_);refine NL ?_;refine AWP.cond rfl (λh1=>?_) (λh1=>?_)
 ·rw[if_pos (of_decide_eq_true h1)]at hr hc
  have hk:0<=kind/\kind<w.kinds.length:=by
   split at hc
   ·cases hc
   ·omega
  have h16:=(BJ h.wok.ks).1;have hp:=P1 h ent kind hn ⟨by omega,by omega⟩;subst hr;refine FL ?_;refine RG ?_;(repeat first|(refine AOps.gN ?_;first|refine DC [_] (h:=hp) (k:=λb hb=>?_))|refine WO ?_|refine Ai λX=>?_|refine Ay λY=>?_);refine NL ?_;refine FL ?_;refine RT ?_;exact AS [AZ ⟨0,0⟩,bA _] (arS b) ⟨b,hb,rfl,rfl⟩
 rw[if_neg (of_decide_eq_false h1)]at hr hc;refine FL ?_;refine RG ?_;(repeat first|refine WO ?_|refine Ai λX=>?_|refine Ay λY=>?_);refine NL ?_;refine AWP.cond rfl (λh2=>?_) (λh2=>?_)
 ·rw[if_pos (of_decide_eq_true h2)]at hr hc
  have hp:=Pd h ent hn;subst hr;refine FL ?_;refine RG ?_;(repeat first|(refine AOps.gN ?_;first|refine Ht [_] (h:=hp) (k:=λb hb=>?_))|refine WO ?_|refine Ai λX=>?_|refine Ay λY=>?_);refine NL ?_;refine FL ?_;refine RT ?_;exact AS [AZ ⟨0,0⟩,bA _] (arS b) ⟨b,hb,rfl,rfl⟩
 rw[if_neg (of_decide_eq_false h2)]at hr hc;have hp:=NI a w h h12 comps hl;subst hr;refine FL ?_;refine RG ?_;(repeat first|(refine AOps.gN ?_;first|refine Ht [_] (h:=hp) (k:=λb hb=>?_))|refine WO ?_|refine Ai λV=>?_|refine Ay λY=>?_);refine NL ?_;refine FL ?_;refine RG ?_;(repeat first|refine WO ?_|refine Ai λX=>?_|refine Ay λY=>?_);refine NL ?_;refine RT ?_;exact AS [AZ _,bA _] (arS b) ⟨b,hb,rfl,rfl⟩
section
open Go.Sort
set_option maxHeartbeats 1000000 in
theorem Q1(f:FuncId)(cap:List AV)(cf:Item->Item->Int)(hst:Bs cap=true)(hcf:∀x y,PS Tryz.prog f ((AA false) x::(AA false) y::cap) (iA (cf x y)))(X n:Nat)(d:Array Item)(a b:Nat)(hn:n=d.size)(hab:a<=b)(hb:b<=d.size)(hz:d.size<=1099511627776):PO Tryz.prog 212 [.sl X 0 n,iA a,iA b,.fn f cap] X (.row 71 3 (d.toList.map (AA false))) (.tup []) (.row 71 3 ((insertionSort (AJ cf) d a b).toList.map (AA false))):=by
 obtain⟨r,hr⟩:∃r,insertionSort (AJ cf) d a b=r:=⟨_,rfl⟩;rw[hr];unfold insertionSort at hr;refine Spec.of (nt:=53) (res:=[]) Tryz.func212 rfl (by kernel_rfl) rfl rfl rfl λSf=>?_
 (repeat first|refine WK ?_|refine Ai λX=>?_|refine Ay λY=>?_);refine BO (λ(i:Nat) (e:Array Item)=>⟨[(0,.sl X 0 n),(1,iA a),(2,iA b),(3,.fn f cap),(8,iA i)],(X,.row 71 3 (e.toList.map (AA false)))::Sf⟩) (λi e=>i<=max b (a+1)/\a<i/\e.size=d.size/\insOuter (AJ cf) a b i e=r) (λi _=>b-i) (a+1) d ⟨by omega,by omega,rfl,hr⟩ ?_;rintro i e ⟨hi,hai,he,hfold⟩;rw[insOuter]at hfold;(repeat first|refine WK ?_|refine Ai λX=>?_|refine Ay λY=>?_);refine AWP.cond rfl (λhc=>?_) (λhc=>?_)
 ·have h:i<b:=by have:=of_decide_eq_true hc;omega
  rw[if_pos h]at hfold;(repeat first|refine WK ?_|refine Ai λX=>?_|refine Ay λY=>?_);refine BO (λ(j:Nat) (u:Array Item)=>⟨[(0,.sl X 0 n),(1,iA a),(2,iA b),(3,.fn f cap),(8,iA i),(9,iA j)],(X,.row 71 3 (u.toList.map (AA false)))::Sf⟩) (λj u=>j<=i/\u.size=d.size/\insInner (AJ cf) a j u=insInner (AJ cf) a i e) (λj _=>j) i e ⟨Nat.le_refl _,he,rfl⟩ ?_;rintro j u ⟨hj,hu,hin⟩;rcases Bool.eq_false_or_eq_true (decide ((a:Int)<(j:Int)))with g|g
  ·have hja:a<j:=by have:=of_decide_eq_true g;omega
   obtain⟨q,rfl⟩:∃q,j=q+1:=⟨j-1,by omega⟩;have h1:=Af (AA false) (d:=u) (i:=q+1) (by omega);have h2:=Af (AA false) (d:=u) (i:=q) (by omega);have hl:=hcf (u[q+1]!) (u[q]!);rw[insInner]at hin;(repeat refine WF ?_);refine RU ?_;(repeat first|(refine RGo.gN ?_;first|(refine RGo.g_callv ?_;first|refine RGo.k2 (h:=(hl ..)) (k:=?_))|refine RGo.go (h:=AY (q:Int) (by omega) (by omega) rfl rfl) (k:=?_))|(refine RGo.gQ ?_;first|(refine RGo.g_callv ?_;first|refine RGo.k2 (h:=(hl ..)) (k:=?_))|refine RGo.go (h:=AY (q:Int) (by omega) (by omega) rfl rfl) (k:=?_))|refine RK ?_|refine RGo.nil (by kernel_rfl) ?_);(repeat refine WF ?_);refine AWP.cond rfl (λhd=>?_) (λhd=>?_)
   ·have hd:(AJ cf) u[q+1]! u[q]! =true:=by simpa[g,AJ]using hd
    rw[hd,if_pos (by simp;omega)]at hin;obtain⟨y,hy⟩:=Bn (AA false) (d:=u) (i:=q+1) (j:=q) (by omega) u[q]!;(repeat refine WF ?_);refine RU ?_;(repeat first|(refine RGo.gN ?_;first|refine RGo.go (h:=AY (q:Int) (by omega) (by omega) rfl rfl) (k:=?_)|refine RGo.s (W.store rfl rfl (by exact At.f) hy (by exact rfl)) rfl ?_)|(refine RGo.gQ ?_;first|refine RGo.go (h:=AY (q:Int) (by omega) (by omega) rfl rfl) (k:=?_)|refine RGo.s (W.store rfl rfl (by exact At.f) hy (by exact rfl)) rfl ?_)|refine RK ?_|refine RGo.nil (by kernel_rfl) ?_);(repeat first|(refine AOps.gN ?_;first|refine AOps.p (AY (q:Int) (by omega) (by omega) rfl rfl) rfl ?_)|refine WK ?_|refine Ai λX=>?_|refine Ay λY=>?_);refine As q (swp u (q+1) q) ⟨by omega,by rw[size_swp];exact hu,hin⟩ (h0:=by rw[<-B8 (AA false) (by omega) (by omega)];exact⟨by exact Lk.f,by exact Sub.f⟩)
   ·have hd:(AJ cf) u[q+1]! u[q]! =false:=by simpa[g,AJ]using hd
    rw[hd,if_neg (by simp)]at hin;(repeat first|refine WK ?_|refine Ai λX=>?_|refine Ay λY=>?_);refine As (i+1) u ⟨by omega,by omega,hu,by rw[hin];exact hfold⟩
  ·have hja:j<=a:=by have:=of_decide_eq_false g;omega
   have hin2:insInner (AJ cf) a j u=u:=by
    cases j with
    |zero=>rfl
    |succ q=>rw[insInner,if_neg (by simp;omega)]
   rw[hin2]at hin;(repeat refine WF ?_);refine RU ?_;(repeat first|refine RK ?_|refine RGo.nil (by kernel_rfl) ?_);(repeat refine WF ?_);refine AE rfl (by simp[g]) ?_;(repeat first|refine WK ?_|refine Ai λX=>?_|refine Ay λY=>?_);refine As (i+1) u ⟨by omega,by omega,hu,by rw[hin];exact hfold⟩
 ·have h:¬i<b:=by have:=of_decide_eq_false hc;omega
  rw[if_neg h]at hfold;subst hfold;(repeat first|refine WK ?_|refine Ai λX=>?_|refine Ay λY=>?_);refine Dw ?_;exact BV [(X,.row 71 3 (e.toList.map (AA false)))] ⟨rfl,rfl⟩
end
section
open Go.Sort
set_option maxHeartbeats 1000000 in
theorem LA(f:FuncId)(cap:List AV)(cf:Item->Item->Int)(hst:Bs cap=true)(hcf:∀x y,PS Tryz.prog f ((AA false) x::(AA false) y::cap) (iA (cf x y)))(X n:Nat)(d:Array Item)(lo hi first:Nat)(hn:n=d.size)(hb:first+hi<=d.size)(hlo:lo<=1099511627776)(hz:d.size<=1099511627776):PO Tryz.prog 262 [.sl X 0 n,iA lo,iA hi,iA first,.fn f cap] X (.row 71 3 (d.toList.map (AA false))) (.tup []) (.row 71 3 ((siftDown (AJ cf) hi first lo d).toList.map (AA false))):=by
 obtain⟨r,hr⟩:∃r,siftDown (AJ cf) hi first lo d=r:=⟨_,rfl⟩
 rw[hr];refine Spec.of (nt:=82) (res:=[]) Tryz.func262 rfl (by kernel_rfl) rfl rfl rfl λSf=>?_
 (repeat first|refine WK ?_|refine Ai λX=>?_|refine Ay λY=>?_);refine BO (λ(root:Nat) (u:Array Item)=>⟨[(0,.sl X 0 n),(2,iA hi),(3,iA first),(4,.fn f cap),(10,iA root)],(X,.row 71 3 (u.toList.map (AA false)))::Sf⟩) (λroot u=>root<=max hi lo/\u.size=d.size/\siftDown (AJ cf) hi first root u=r) (λroot _=>hi-root) lo d ⟨by omega,rfl,hr⟩ ?_;rintro root u ⟨hro,hu,hfold⟩;rw[siftDown]at hfold;(repeat first|(refine AOps.gN ?_;first|refine AOps.p (G9 ((2*root:Nat):Int) (by omega) (by omega) rfl rfl) rfl ?_|refine AOps.p (Aq (((2*root+1:Nat):Int)) (by omega) (by omega) rfl rfl) rfl ?_)|refine WK ?_|refine Ai λX=>?_|refine Ay λY=>?_);refine AWP.cond rfl (λhc=>?_) (λhc=>?_)
 ·have h:2*root+1>=hi:=by have:=of_decide_eq_true hc;omega
  rw[dif_pos h]at hfold;subst hfold;(repeat first|refine WK ?_|refine Ai λX=>?_|refine Ay λY=>?_);refine Dw ?_;exact BV [(X,.row 71 3 (u.toList.map (AA false)))] ⟨rfl,rfl⟩
 have h:¬2*root+1>=hi:=by have:=of_decide_eq_false hc;omega
 rw[dif_neg h]at hfold;refine AWP.skip ?_;refine Bh ?_;refine AWP.seq ?_;refine BD (λc:Nat=>c<hi/\root<c/\(if !(AJ cf) u[first+root]! u[first+c]! then u else siftDown (AJ cf) hi first c (swp u (first+root) (first+c)))=r) (λc=>⟨[(0,.sl X 0 n),(2,iA hi),(3,iA first),(4,.fn f cap),(10,iA root),(11,iA c)],(X,.row 71 3 (u.toList.map (AA false)))::Sf⟩) ?_ ?_
 ·rcases Bool.eq_false_or_eq_true (decide (((2*root+1+1:Nat):Int)<(hi:Int)))with g|g
  ·have hg:2*root+1+1<hi:=by have:=of_decide_eq_true g;omega
   have h1:=Af (AA false) (d:=u) (i:=first+(2*root+1)) (by omega);have h2:=Af (AA false) (d:=u) (i:=first+(2*root+1)+1) (by omega);have hl:=hcf (u[first+(2*root+1)]!) (u[first+(2*root+1)+1]!);refine RU ?_;(repeat first|(refine RGo.gN ?_;first|(refine RGo.g_callv ?_;first|refine RGo.k2 (h:=(hl ..)) (k:=?_))|refine RGo.go (h:=Aq (((2*root+1+1:Nat):Int)) (by omega) (by omega) rfl rfl) (k:=?_)|refine RGo.go (h:=Aq (((first+(2*root+1):Nat):Int)) (by omega) (by omega) rfl rfl) (k:=?_)|refine RGo.go (h:=Aq (((first+(2*root+1)+1:Nat):Int)) (by omega) (by omega) rfl rfl) (k:=?_))|(refine RGo.gQ ?_;first|(refine RGo.g_callv ?_;first|refine RGo.k2 (h:=(hl ..)) (k:=?_))|refine RGo.go (h:=Aq (((2*root+1+1:Nat):Int)) (by omega) (by omega) rfl rfl) (k:=?_)|refine RGo.go (h:=Aq (((first+(2*root+1):Nat):Int)) (by omega) (by omega) rfl rfl) (k:=?_)|refine RGo.go (h:=Aq (((first+(2*root+1)+1:Nat):Int)) (by omega) (by omega) rfl rfl) (k:=?_))|refine RK ?_|refine RGo.nil (by kernel_rfl) ?_);(repeat refine WF ?_);refine AWP.cond rfl (λhd=>?_) (λhd=>?_)
   ·have hd:(AJ cf) u[first+(2*root+1)]! u[first+(2*root+1)+1]! =true:=by simpa[g,AJ]using hd
    rw[hd,if_pos (by simp;omega)]at hfold;(repeat first|(refine AOps.gN ?_;first|refine AOps.p (Aq (((2*root+2:Nat):Int)) (by omega) (by omega) rfl rfl) rfl ?_)|refine WK ?_|refine Ai λX=>?_|refine Ay λY=>?_);refine jn (2*root+2) ⟨by omega,by omega,?_⟩;split at hfold
    ·rename_i hx;rw[if_pos hx];exact hfold
    ·rename_i hx;rw[if_neg hx];first|exact hfold|(rw[dif_pos (by omega)]at hfold;exact hfold)
   ·have hd:(AJ cf) u[first+(2*root+1)]! u[first+(2*root+1)+1]! =false:=by simpa[g,AJ]using hd
    rw[hd,if_neg (by simp)]at hfold;(repeat first|refine WK ?_|refine Ai λX=>?_|refine Ay λY=>?_);exact jn (2*root+1) ⟨by omega,by omega,hfold⟩
  ·have hg:¬2*root+1+1<hi:=by have:=of_decide_eq_false g;omega
   rw[if_neg (by simp[hg])]at hfold;refine RU ?_;(repeat first|(refine RGo.gN ?_;first|refine RGo.go (h:=Aq (((2*root+1+1:Nat):Int)) (by omega) (by omega) rfl rfl) (k:=?_))|(refine RGo.gQ ?_;first|refine RGo.go (h:=Aq (((2*root+1+1:Nat):Int)) (by omega) (by omega) rfl rfl) (k:=?_))|refine RK ?_|refine RGo.nil (by kernel_rfl) ?_);(repeat refine WF ?_);refine AE rfl (by simp[g]) ?_;(repeat first|refine WK ?_|refine Ai λX=>?_|refine Ay λY=>?_);exact jn (2*root+1) ⟨by omega,by omega,hfold⟩
 ·rintro c ⟨hch,hrc,hfold⟩
  have h1:=Af (AA false) (d:=u) (i:=first+root) (by omega);have h2:=Af (AA false) (d:=u) (i:=first+c) (by omega);have hl:=hcf (u[first+root]!) (u[first+c]!);(repeat refine WF ?_);refine RU ?_;(repeat first|(refine RGo.gN ?_;first|(refine RGo.g_callv ?_;first|refine RGo.k2 (h:=(hl ..)) (k:=?_))|refine RGo.go (h:=Aq (((first+root:Nat):Int)) (by omega) (by omega) rfl rfl) (k:=?_)|refine RGo.go (h:=Aq (((first+c:Nat):Int)) (by omega) (by omega) rfl rfl) (k:=?_))|(refine RGo.gQ ?_;first|(refine RGo.g_callv ?_;first|refine RGo.k2 (h:=(hl ..)) (k:=?_))|refine RGo.go (h:=Aq (((first+root:Nat):Int)) (by omega) (by omega) rfl rfl) (k:=?_)|refine RGo.go (h:=Aq (((first+c:Nat):Int)) (by omega) (by omega) rfl rfl) (k:=?_))|refine RK ?_|refine RGo.nil (by kernel_rfl) ?_);(repeat refine WF ?_);refine AWP.cond rfl (λhd=>?_) (λhd=>?_)
  ·have hd:(!(AJ cf) u[first+root]! u[first+c]!)=true:=by simpa[AJ]using hd
   rw[if_pos hd]at hfold;subst hfold;refine RT ?_;exact BV [(X,.row 71 3 (u.toList.map (AA false)))] ⟨rfl,rfl⟩
  ·have hd:(!(AJ cf) u[first+root]! u[first+c]!)=false:=by simpa[AJ]using hd
   rw[if_neg (by rw[hd];simp)]at hfold;obtain⟨y,hy⟩:=Bn (AA false) (d:=u) (i:=first+root) (j:=first+c) (by omega) u[first+c]!;(repeat refine WF ?_);refine RU ?_;(repeat first|(refine RGo.gN ?_;first|refine RGo.go (h:=Aq (((first+root:Nat):Int)) (by omega) (by omega) rfl rfl) (k:=?_)|refine RGo.go (h:=Aq (((first+c:Nat):Int)) (by omega) (by omega) rfl rfl) (k:=?_)|refine RGo.s (W.store rfl rfl (by exact At.f) hy (by exact rfl)) rfl ?_)|(refine RGo.gQ ?_;first|refine RGo.go (h:=Aq (((first+root:Nat):Int)) (by omega) (by omega) rfl rfl) (k:=?_)|refine RGo.go (h:=Aq (((first+c:Nat):Int)) (by omega) (by omega) rfl rfl) (k:=?_)|refine RGo.s (W.store rfl rfl (by exact At.f) hy (by exact rfl)) rfl ?_)|refine RK ?_|refine RGo.nil (by kernel_rfl) ?_);(repeat first|refine WK ?_|refine Ai λX=>?_|refine Ay λY=>?_);refine As c (swp u (first+root) (first+c)) ⟨by omega,by rw[size_swp];exact hu,hfold⟩ (h0:=by rw[<-B8 (AA false) (by omega) (by omega)];exact⟨by exact Lk.f,by exact Sub.f⟩)
set_option maxHeartbeats 1000000 in
theorem C3(lt:Item->Item->Bool)(hi first:Nat):∀(k root:Nat) (d:Array Item),hi-root<=k->(siftDown lt hi first root d).size=d.size
 |0,root,d,h=>by rw[siftDown,dif_pos (by omega)]
 |k+1,root,d,h=>by
  rw[siftDown];split
  ·rfl
  ·split
   ·split
    ·rfl
    ·split
     ·rw[C3 lt hi first k _ _ (by omega),size_swp]
     ·rfl
   ·split
    ·rfl
    ·rw[C3 lt hi first k _ _ (by omega),size_swp]
theorem Po(f:FuncId)(cap:List AV)(cf:Item->Item->Int)(hst:Bs cap=true)(hcf:∀x y,PS Tryz.prog f ((AA false) x::(AA false) y::cap) (iA (cf x y)))(X n:Nat)(d:Array Item)(a b:Nat)(hn:n=d.size)(hab:a<b)(hb:b<=d.size)(hz:d.size<=1099511627776):PO Tryz.prog 213 [.sl X 0 n,iA a,iA b,.fn f cap] X (.row 71 3 (d.toList.map (AA false))) (.tup []) (.row 71 3 ((heapSort (AJ cf) d a b).toList.map (AA false))):=by
 obtain⟨r,hr⟩:∃r,heapSort (AJ cf) d a b=r:=⟨_,rfl⟩;rw[hr];unfold heapSort at hr;obtain⟨m,hm⟩:∃m,b-a=m:=⟨_,rfl⟩;rw[hm]at hr;refine Spec.of (nt:=60) (res:=[]) Tryz.func213 rfl (by kernel_rfl) rfl rfl rfl λSf=>?_
 (repeat first|(refine AOps.gN ?_;first|refine AOps.p (AY ((m:Int)) (by omega) (by omega) rfl rfl) rfl ?_|refine AOps.p (AY (((m-1:Nat):Int)) (by omega) (by omega) rfl rfl) rfl ?_|refine AOps.p (I4 (m-1) 2 ((m-1)/2) rfl rfl (by omega) rfl (by omega) rfl rfl) rfl ?_)|refine WK ?_|refine Ai λX=>?_|refine Ay λY=>?_);refine BO (λ(k:Nat) (u:Array Item)=>⟨[(0,.sl X 0 n),(3,.fn f cap),(8,iA a),(9,iA 0),(10,iA m),(11,iA ((k:Int)-1))],(X,.row 71 3 (u.toList.map (AA false)))::Sf⟩) (λk u=>k<=m/\u.size=d.size/\heapPop (AJ cf) a m (heapBuild (AJ cf) m a k u)=r) (λk _=>k) ((m-1)/2+1) d ⟨by omega,rfl,hr⟩ ?_ (h0:=by rw[show((((m-1)/2+1:Nat):Int)-1)=(((m-1)/2:Nat):Int) by omega];exact⟨by exact Lk.f,by exact Sub.f⟩);rintro k u ⟨hk,hu,hfold⟩;(repeat first|refine WK ?_|refine Ai λX=>?_|refine Ay λY=>?_);refine AWP.cond rfl (λhc=>?_) (λhc=>?_)
 ·obtain⟨q,rfl⟩:∃q,k=q+1:=⟨k-1,by have:=of_decide_eq_true hc;omega⟩
  rw[heapBuild]at hfold;have hs:=LA f cap cf hst hcf X n u q m a (by omega) (by omega) (by omega) (by omega);have hsz:=C3 (AJ cf) m a _ q u (Nat.le_refl _);rw[show(((q+1:Nat):Int)-1)=(q:Int) by omega];(repeat first|(refine AOps.gN ?_;first|(refine AOps.g_callf ?_;first|refine Gd (h:=(hs ..)) (k:=?_))|refine AOps.p (AY ((q:Int)-1) (by omega) (by omega) rfl rfl) rfl ?_)|refine WK ?_|refine Ai λX=>?_|refine Ay λY=>?_);exact As q (siftDown (AJ cf) m a q u) ⟨by omega,by omega,hfold⟩
 ·obtain rfl:k=0:=by have:=of_decide_eq_false hc;omega
  rw[heapBuild]at hfold;(repeat first|(refine AOps.gN ?_;first|refine AOps.p (AY ((m:Int)-1) (by omega) (by omega) rfl rfl) rfl ?_)|refine WK ?_|refine Ai λX=>?_|refine Ay λY=>?_);clear hc hk;refine BO (λ(k:Nat) (u:Array Item)=>⟨[(0,.sl X 0 n),(3,.fn f cap),(8,iA a),(9,iA 0),(10,iA m),(12,iA ((k:Int)-1))],(X,.row 71 3 (u.toList.map (AA false)))::Sf⟩) (λk u=>k<=m/\u.size=d.size/\heapPop (AJ cf) a k u=r) (λk _=>k) m u ⟨by omega,hu,hfold⟩ ?_;clear hfold hu;rintro k u ⟨hk,hu,hfold⟩;(repeat first|refine WK ?_|refine Ai λX=>?_|refine Ay λY=>?_);refine AWP.cond rfl (λhc=>?_) (λhc=>?_)
  ·obtain⟨q,rfl⟩:∃q,k=q+1:=⟨k-1,by have:=of_decide_eq_true hc;omega⟩
   rw[heapPop]at hfold;have h1:=Af (AA false) (d:=u) (i:=a) (by omega);have h2:=Af (AA false) (d:=u) (i:=a+q) (by omega);have hs:=LA f cap cf hst hcf X n (swp u a (a+q)) 0 q a (by rw[size_swp];omega) (by rw[size_swp];omega) (by omega) (by rw[size_swp];omega);have hsz:=C3 (AJ cf) q a _ 0 (swp u a (a+q)) (Nat.le_refl _);rw[size_swp]at hsz;rw[show(((q+1:Nat):Int)-1)=(q:Int) by omega];obtain⟨y,hy⟩:=Bn (AA false) (d:=u) (i:=a) (j:=a+q) (by omega) u[a+q]!;have hrow:=B8 (AA false) (d:=u) (i:=a) (j:=a+q) (by omega) (by omega);(repeat refine WF ?_);refine RU ?_;(repeat first|(refine RGo.gN ?_;first|refine RGo.go (h:=Aq (((a+q:Nat):Int)) (by omega) (by omega) rfl rfl) (k:=?_)|refine RGo.s (W.store rfl rfl (by exact At.f) hy (by exact rfl)) rfl ?_)|(refine RGo.gQ ?_;first|refine RGo.go (h:=Aq (((a+q:Nat):Int)) (by omega) (by omega) rfl rfl) (k:=?_)|refine RGo.s (W.store rfl rfl (by exact At.f) hy (by exact rfl)) rfl ?_)|refine RK ?_|refine RGo.nil (by kernel_rfl) ?_);refine Ku [(0,.sl X 0 n),(3,.fn f cap),(8,iA a),(9,iA 0),(10,iA m),(12,iA q)] ((X,.row 71 3 ((swp u a (a+q)).toList.map (AA false)))::Sf) ?_ (h:=by rw[<-hrow];exact⟨by exact Lk.f,by exact Sub.f⟩);(repeat first|(refine AOps.gN ?_;first|(refine AOps.g_callf ?_;first|refine Gd (h:=(hs ..)) (k:=?_))|refine AOps.p (AY ((q:Int)-1) (by omega) (by omega) rfl rfl) rfl ?_)|refine WK ?_|refine Ai λX=>?_|refine Ay λY=>?_);exact As q (siftDown (AJ cf) q a 0 (swp u a (a+q))) ⟨by omega,by omega,hfold⟩
  ·obtain rfl:k=0:=by have:=of_decide_eq_false hc;omega
   rw[heapPop]at hfold;subst hfold;(repeat first|refine WK ?_|refine Ai λX=>?_|refine Ay λY=>?_);refine Dw ?_;exact BV [(X,.row 71 3 (u.toList.map (AA false)))] ⟨rfl,rfl⟩
set_option maxHeartbeats 1000000 in
theorem Qh{f:FuncId}{cap:List AV}(X n:Nat)(d:Array Item)(a b:Nat)(hn:n=d.size)(hab:a<b)(hb:b<=d.size)(hz:d.size<=1099511627776):PO Tryz.prog 216 [.sl X 0 n,iA a,iA b,.fn f cap] X (.row 71 3 (d.toList.map (AA false))) (.tup []) (.row 71 3 ((reverseRange d a b).toList.map (AA false))):=by
 obtain⟨r,hr⟩:∃r,reverseRange d a b=r:=⟨_,rfl⟩;rw[hr];unfold reverseRange at hr;refine Spec.of (nt:=34) (res:=[]) Tryz.func216 rfl (by kernel_rfl) rfl rfl rfl λSf=>?_
 (repeat first|(refine AOps.gN ?_;first|refine AOps.p (AY (((b-1:Nat):Int)) (by omega) (by omega) rfl rfl) rfl ?_)|refine WK ?_|refine Ai λX=>?_|refine Ay λY=>?_);refine DQ (λ(i j:Nat) (u:Array Item)=>⟨[(0,.sl X 0 n),(8,iA i),(9,iA j)],(X,.row 71 3 (u.toList.map (AA false)))::Sf⟩) (λi j u=>i<=d.size/\j<d.size/\u.size=d.size/\reverseLoop i j u=r) (λi j _=>j-i) a (b-1) d ⟨by omega,by omega,rfl,hr⟩ ?_;rintro i j u ⟨hi,hj,hu,hfold⟩;rw[reverseLoop]at hfold;(repeat first|refine WK ?_|refine Ai λX=>?_|refine Ay λY=>?_);refine AWP.cond rfl (λhc=>?_) (λhc=>?_)
 ·have h:i<j:=by have:=of_decide_eq_true hc;omega
  rw[if_pos h]at hfold;have h1:=Af (AA false) (d:=u) (i:=i) (by omega);have h2:=Af (AA false) (d:=u) (i:=j) (by omega);obtain⟨y,hy⟩:=Bn (AA false) (d:=u) (i:=i) (j:=j) (by omega) u[j]!;(repeat refine WF ?_);refine RU ?_;(repeat first|(refine RGo.gN ?_;first|refine RGo.s (W.store rfl rfl (by exact At.f) hy (by exact rfl)) rfl ?_)|(refine RGo.gQ ?_;first|refine RGo.s (W.store rfl rfl (by exact At.f) hy (by exact rfl)) rfl ?_)|refine RK ?_|refine RGo.nil (by kernel_rfl) ?_);(repeat first|(refine AOps.gN ?_;first|refine AOps.p (AY (((j-1:Nat):Int)) (by omega) (by omega) rfl rfl) rfl ?_)|refine WK ?_|refine Ai λX=>?_|refine Ay λY=>?_);refine B0 (i+1) (j-1) (swp u i j) ⟨by omega,by omega,by rw[size_swp];exact hu,hfold⟩ (h0:=by rw[<-B8 (AA false) (by omega) (by omega)];exact⟨by exact Lk.f,by exact Sub.f⟩)
 ·have h:¬i<j:=by have:=of_decide_eq_false hc;omega
  rw[if_neg h]at hfold;subst hfold;(repeat first|refine WK ?_|refine Ai λX=>?_|refine Ay λY=>?_);refine Dw ?_;exact BV [(X,.row 71 3 (u.toList.map (AA false)))] ⟨rfl,rfl⟩
end
section
open Go.Sort
set_option maxHeartbeats 1000000 in
theorem Fp(p:Item->Bool)(d:Array Item)(j i:Nat):scanUp p d j i<=max i (j+1):=by
 obtain⟨m,hm⟩:∃m,j+1-i=m:=⟨_,rfl⟩
 induction m generalizing i with
 |zero=>rw[scanUp,if_neg (λe=>by rw[Bool.and_eq_true]at e;have:=of_decide_eq_true e.1;omega)];omega
 |succ m ih=>
  rw[scanUp];split
  ·have:=ih (i+1) (by omega)
   omega
  ·omega
theorem Qp(f:FuncId)(cap:List AV)(cf:Item->Item->Int)(hst:Bs cap=true)(hcf:∀x y,PS Tryz.prog f ((AA false) x::(AA false) y::cap) (iA (cf x y)))(X n:Nat)(d:Array Item)(a b pivot:Nat)(hn:n=d.size)(ha:a<=pivot)(hp:pivot<b)(hb:b<=d.size)(hz:d.size<=1099511627776):PO Tryz.prog 218 [.sl X 0 n,iA a,iA b,iA pivot,.fn f cap] X (.row 71 3 (d.toList.map (AA false))) (iA (partitionEqual (AJ cf) d a b pivot).1) (.row 71 3 ((partitionEqual (AJ cf) d a b pivot).2.toList.map (AA false))):=by
 obtain⟨r,hr⟩:∃r,partitionEqual (AJ cf) d a b pivot=r:=⟨_,rfl⟩;rw[hr];unfold partitionEqual at hr;refine Spec.of (nt:=90) (res:=[.tmp 10]) Tryz.func218 rfl (by kernel_rfl) rfl rfl rfl λSf=>?_
 have h1:=Af (AA false) (d:=d) (i:=a) (by omega);have h2:=Af (AA false) (d:=d) (i:=pivot) (by omega);obtain⟨y,hy⟩:=Bn (AA false) (d:=d) (i:=a) (j:=pivot) (by omega) d[pivot]!;refine RG ?_;(repeat first|refine WO ?_|refine Ai λX=>?_|refine Ay λY=>?_);refine NL ?_;refine RU ?_;(repeat first|(refine RGo.gN ?_;first|refine RGo.s (W.store rfl rfl (by exact At.f) hy (by exact rfl)) rfl ?_)|(refine RGo.gQ ?_;first|refine RGo.s (W.store rfl rfl (by exact At.f) hy (by exact rfl)) rfl ?_)|refine RK ?_|refine RGo.nil (by kernel_rfl) ?_);(repeat first|(refine AOps.gN ?_;first|refine AOps.p (AY (((b-1:Nat):Int)) (by omega) (by omega) rfl rfl) rfl ?_)|refine WK ?_|refine Ai λX=>?_|refine Ay λY=>?_);refine DQ (λ(i j:Nat) (u:Array Item)=>⟨[(0,.sl X 0 n),(1,iA a),(4,.fn f cap),(11,iA i),(12,iA j)],(X,.row 71 3 (u.toList.map (AA false)))::Sf⟩) (λi j u=>a<i/\i<=j+2/\j<b/\u.size=d.size/\partEqLoop (AJ cf) a i j u=r) (λi j _=>j+1-i) (a+1) (b-1) (swp d a pivot) ⟨by omega,by omega,by omega,by rw[size_swp],hr⟩ ?_ (h0:=by rw[<-B8 (AA false) (by omega) (by omega)];exact⟨by exact Lk.f,by exact Sub.f⟩);rintro i j u ⟨hai,hij,hjb,hu,hfold⟩;rw[partEqLoop_eq]at hfold;obtain⟨i2,hi2⟩:∃i2,scanUp (λx=>!(AJ cf) u[a]! x) u j i=i2:=⟨_,rfl⟩;rw[hi2]at hfold;obtain⟨j2,hj2⟩:∃j2,scanDown (λx=>(AJ cf) u[a]! x) u i2 j=j2:=⟨_,rfl⟩;rw[hj2]at hfold;have hge:=scanUp_ge (λx=>!(AJ cf) u[a]! x) u j i;have hle:=scanDown_le (λx=>(AJ cf) u[a]! x) u i2 j;rw[hi2]at hge;rw[hj2]at hle;have hge2:i2<=max i (j+1):=by rw[<-hi2];exact Fp _ _ _ _
 refine AWP.block ?_
 (repeat (first|refine AWP.skip ?_|refine Bh ?_|refine AWP.seq ?_))
 refine BD (λk:Nat=>k=i2) (λk=>⟨[(0,.sl X 0 n),(1,iA a),(4,.fn f cap),(11,iA k),(12,iA j)],(X,.row 71 3 (u.toList.map (AA false)))::Sf⟩) ?_ ?_
 ·refine AWP.block ?_
  refine BT (λ(k:Nat)=>⟨[(0,.sl X 0 n),(1,iA a),(4,.fn f cap),(11,iA k),(12,iA j)],(X,.row 71 3 (u.toList.map (AA false)))::Sf⟩) (λk=>i<=k/\k<=max i (j+1)/\scanUp (λx=>!(AJ cf) u[a]! x) u j k=i2) (λk=>j+1-k) i ⟨Nat.le_refl _,by omega,hi2⟩ ?_;rintro k ⟨hk1,hk2,hk⟩;rw[scanUp]at hk;rcases Bool.eq_false_or_eq_true (decide ((k:Int)<=(j:Int)))with g|g
  ·have hg:k<=j:=by have:=of_decide_eq_true g;omega
   have h1:=Af (AA false) (d:=u) (i:=k) (by omega);have h2:=Af (AA false) (d:=u) (i:=a) (by omega);have hl:=hcf (u[a]!) (u[k]!);(repeat refine WF ?_);refine RU ?_;(repeat first|(refine RGo.gN ?_;first|(refine RGo.g_callv ?_;first|refine RGo.k2 (h:=(hl ..)) (k:=?_)))|(refine RGo.gQ ?_;first|(refine RGo.g_callv ?_;first|refine RGo.k2 (h:=(hl ..)) (k:=?_)))|refine RK ?_|refine RGo.nil (by kernel_rfl) ?_);(repeat refine WF ?_);refine AWP.cond rfl (λhd=>?_) (λhd=>?_)
   ·have hd:(!(AJ cf) u[a]! u[k]!)=true:=by simpa[g,AJ]using hd
    rw[if_pos (by rw[Bool.and_eq_true];exact⟨decide_eq_true (by omega),hd⟩)]at hk;(repeat first|refine WK ?_|refine Ai λX=>?_|refine Ay λY=>?_);exact BE (k+1) ⟨by omega,by omega,hk⟩
   ·have hd:(!(AJ cf) u[a]! u[k]!)=false:=by simpa[g,AJ]using hd
    rw[if_neg (λe=>by rw[Bool.and_eq_true]at e;have e2:=e.2;rw[hd]at e2;cases e2)]at hk;(repeat first|refine WK ?_|refine Ai λX=>?_|refine Ay λY=>?_);exact jn k hk
  ·have hg:¬k<=j:=by have:=of_decide_eq_false g;omega
   rw[if_neg (λe=>by rw[Bool.and_eq_true]at e;have:=of_decide_eq_true e.1;omega)]at hk;(repeat refine WF ?_);refine RU ?_;(repeat first|refine RK ?_|refine RGo.nil (by kernel_rfl) ?_);(repeat refine WF ?_);refine AE rfl (by simp[g]) ?_;(repeat first|refine WK ?_|refine Ai λX=>?_|refine Ay λY=>?_);exact jn k hk
 rintro k hk0;rw[hk0];clear hk0 k
 (repeat (first|refine AWP.skip ?_|refine Bh ?_|refine AWP.seq ?_))
 refine BD (λk:Nat=>k=j2) (λk=>⟨[(0,.sl X 0 n),(1,iA a),(4,.fn f cap),(11,iA i2),(12,iA k)],(X,.row 71 3 (u.toList.map (AA false)))::Sf⟩) ?_ ?_
 ·refine AWP.block ?_
  refine BT (λ(k:Nat)=>⟨[(0,.sl X 0 n),(1,iA a),(4,.fn f cap),(11,iA i2),(12,iA k)],(X,.row 71 3 (u.toList.map (AA false)))::Sf⟩) (λk=>k<=j/\scanDown (λx=>(AJ cf) u[a]! x) u i2 k=j2) (λk=>k) j ⟨Nat.le_refl _,hj2⟩ ?_;rintro k ⟨hk1,hk⟩;rcases Bool.eq_false_or_eq_true (decide ((i2:Int)<=(k:Int)))with g|g
  ·have hg:i2<=k:=by have:=of_decide_eq_true g;omega
   obtain⟨q,rfl⟩:∃q,k=q+1:=⟨k-1,by omega⟩;rw[scanDown]at hk;have h1:=Af (AA false) (d:=u) (i:=q+1) (by omega);have h2:=Af (AA false) (d:=u) (i:=a) (by omega);have hl:=hcf (u[a]!) (u[q+1]!);(repeat refine WF ?_);refine RU ?_;(repeat first|(refine RGo.gN ?_;first|(refine RGo.g_callv ?_;first|refine RGo.k2 (h:=(hl ..)) (k:=?_)))|(refine RGo.gQ ?_;first|(refine RGo.g_callv ?_;first|refine RGo.k2 (h:=(hl ..)) (k:=?_)))|refine RK ?_|refine RGo.nil (by kernel_rfl) ?_);(repeat refine WF ?_);refine AWP.cond rfl (λhd=>?_) (λhd=>?_)
   ·have hd:((AJ cf) u[a]! u[q+1]!)=true:=by simpa[g,AJ]using hd
    rw[if_pos (by rw[Bool.and_eq_true];exact⟨decide_eq_true (by omega),hd⟩)]at hk;(repeat first|(refine AOps.gN ?_;first|refine AOps.p (AY ((q:Int)) (by omega) (by omega) rfl rfl) rfl ?_)|refine WK ?_|refine Ai λX=>?_|refine Ay λY=>?_);exact BE q ⟨by omega,hk⟩
   ·have hd:((AJ cf) u[a]! u[q+1]!)=false:=by simpa[g,AJ]using hd
    rw[if_neg (λe=>by rw[Bool.and_eq_true]at e;have e2:=e.2;rw[hd]at e2;cases e2)]at hk;(repeat first|refine WK ?_|refine Ai λX=>?_|refine Ay λY=>?_);exact jn (q+1) hk
  ·have hg:¬i2<=k:=by have:=of_decide_eq_false g;omega
   have hk3:scanDown (λx=>(AJ cf) u[a]! x) u i2 k=k:=by
    cases k with
    |zero=>rfl
    |succ q=>rw[scanDown,if_neg (λe=>by rw[Bool.and_eq_true]at e;have:=of_decide_eq_true e.1;omega)]
   rw[hk3]at hk;(repeat refine WF ?_);refine RU ?_;(repeat first|refine RK ?_|refine RGo.nil (by kernel_rfl) ?_);(repeat refine WF ?_);refine AE rfl (by simp[g]) ?_;(repeat first|refine WK ?_|refine Ai λX=>?_|refine Ay λY=>?_);exact jn k hk
 rintro k hk0;rw[hk0];clear hk0 k;(repeat first|refine WK ?_|refine Ai λX=>?_|refine Ay λY=>?_);refine AWP.cond rfl (λhc=>?_) (λhc=>?_)
 ·have h:i2>j2:=by have:=of_decide_eq_true hc;omega
  rw[if_pos h]at hfold;subst hfold;(repeat first|refine WK ?_|refine Ai λX=>?_|refine Ay λY=>?_);refine RT ?_;exact AS [iA i2] [(X,_)] ⟨rfl,rfl⟩
 ·have h:¬i2>j2:=by have:=of_decide_eq_false hc;omega
  rw[if_neg h]at hfold;have h1:=Af (AA false) (d:=u) (i:=i2) (by omega);have h2:=Af (AA false) (d:=u) (i:=j2) (by omega);obtain⟨y,hy⟩:=Bn (AA false) (d:=u) (i:=i2) (j:=j2) (by omega) u[j2]!;(repeat refine WF ?_);refine RU ?_;(repeat first|(refine RGo.gN ?_;first|refine RGo.s (W.store rfl rfl (by exact At.f) hy (by exact rfl)) rfl ?_)|(refine RGo.gQ ?_;first|refine RGo.s (W.store rfl rfl (by exact At.f) hy (by exact rfl)) rfl ?_)|refine RK ?_|refine RGo.nil (by kernel_rfl) ?_);(repeat first|(refine AOps.gN ?_;first|refine AOps.p (AY (((j2-1:Nat):Int)) (by omega) (by omega) rfl rfl) rfl ?_)|refine WK ?_|refine Ai λX=>?_|refine Ay λY=>?_);refine B0 (i2+1) (j2-1) (swp u i2 j2) ⟨by omega,by omega,by omega,by rw[size_swp];exact hu,hfold⟩ (h0:=by rw[<-B8 (AA false) (by omega) (by omega)];exact⟨by exact Lk.f,by exact Sub.f⟩)
set_option maxHeartbeats 1000000 in
theorem PR(f:FuncId)(cap:List AV)(cf:Item->Item->Int)(hst:Bs cap=true)(hcf:∀x y,PS Tryz.prog f ((AA false) x::(AA false) y::cap) (iA (cf x y)))(X n:Nat)(d:Array Item)(a b pivot:Nat)(hn:n=d.size)(ha:a<=pivot)(hp:pivot<b)(hb:b<=d.size)(hz:d.size<=1099511627776):PO Tryz.prog 219 [.sl X 0 n,iA a,iA b,iA pivot,.fn f cap] X (.row 71 3 (d.toList.map (AA false))) (.tup [iA (partition (AJ cf) d a b pivot).1,bA (partition (AJ cf) d a b pivot).2.1]) (.row 71 3 ((partition (AJ cf) d a b pivot).2.2.toList.map (AA false))):=by
 obtain⟨r,hr⟩:∃r,partition (AJ cf) d a b pivot=r:=⟨_,rfl⟩;rw[hr];dsimp only[partition]at hr;refine Spec.of (nt:=178) (res:=[.tmp 10,.tmp 11]) Tryz.func219 rfl (by kernel_rfl) rfl rfl rfl λSf=>?_
 have h1:=Af (AA false) (d:=d) (i:=a) (by omega);have h2:=Af (AA false) (d:=d) (i:=pivot) (by omega);have hrow:=B8 (AA false) (d:=d) (i:=a) (j:=pivot) (by omega) (by omega);obtain⟨y,hy⟩:=Bn (AA false) (d:=d) (i:=a) (j:=pivot) (by omega) d[pivot]!;refine RG ?_;(repeat first|refine WO ?_|refine Ai λX=>?_|refine Ay λY=>?_);refine NL ?_;refine RU ?_;(repeat first|(refine RGo.gN ?_;first|refine RGo.s (W.store rfl rfl (by exact At.f) hy (by exact rfl)) rfl ?_)|(refine RGo.gQ ?_;first|refine RGo.s (W.store rfl rfl (by exact At.f) hy (by exact rfl)) rfl ?_)|refine RK ?_|refine RGo.nil (by kernel_rfl) ?_);have hsz:(swp d a pivot).size=d.size:=size_swp _ _ _;obtain⟨u,hu0⟩:∃u,swp d a pivot=u:=⟨_,rfl⟩;rw[hu0]at hr hrow hsz;obtain⟨j,hj⟩:∃j,b-1=j:=⟨_,rfl⟩;obtain⟨i,hi⟩:∃i,a+1=i:=⟨_,rfl⟩;rw[hj,hi]at hr;refine RG ?_;(repeat first|(refine AOps.gN ?_;first|refine AOps.p (AY ((j:Int)) (by omega) (by omega) rfl rfl) rfl ?_|refine AOps.p (Aq (((i:Nat):Int)) (by omega) (by omega) rfl rfl) rfl ?_)|refine WO ?_|refine Ai λX=>?_|refine Ay λY=>?_);refine NL ?_
 (repeat (first|refine AWP.skip ?_|refine Bh ?_|refine AWP.seq ?_))
 refine Ku [(0,.sl X 0 n),(1,iA a),(4,.fn f cap),(12,iA i),(13,iA j)] ((X,.row 71 3 (u.toList.map (AA false)))::Sf) ?_ (h:=by rw[<-hrow];exact⟨by exact Lk.f,by exact Sub.f⟩);have hu:u.size=d.size:=hsz;have hfold:=hr;obtain⟨i2,hi2⟩:∃i2,scanUp (λx=>(AJ cf) x u[a]!) u j i=i2:=⟨_,rfl⟩;rw[hi2]at hfold;obtain⟨j2,hj2⟩:∃j2,scanDown (λx=>!(AJ cf) x u[a]!) u i2 j=j2:=⟨_,rfl⟩;rw[hj2]at hfold;have hge:=scanUp_ge (λx=>(AJ cf) x u[a]!) u j i;have hle:=scanDown_le (λx=>!(AJ cf) x u[a]!) u i2 j;rw[hi2]at hge;rw[hj2]at hle;have hge2:i2<=max i (j+1):=by rw[<-hi2];exact Fp _ _ _ _
 refine BD (λk:Nat=>k=i2) (λk=>⟨[(0,.sl X 0 n),(1,iA a),(4,.fn f cap),(12,iA k),(13,iA j)],(X,.row 71 3 (u.toList.map (AA false)))::Sf⟩) ?_ ?_
 ·refine AWP.block ?_
  refine BT (λ(k:Nat)=>⟨[(0,.sl X 0 n),(1,iA a),(4,.fn f cap),(12,iA k),(13,iA j)],(X,.row 71 3 (u.toList.map (AA false)))::Sf⟩) (λk=>i<=k/\k<=max i (j+1)/\scanUp (λx=>(AJ cf) x u[a]!) u j k=i2) (λk=>j+1-k) i ⟨Nat.le_refl _,by omega,hi2⟩ ?_;rintro k ⟨hk1,hk2,hk⟩;rw[scanUp]at hk;rcases Bool.eq_false_or_eq_true (decide ((k:Int)<=(j:Int)))with g|g
  ·have hg:k<=j:=by have:=of_decide_eq_true g;omega
   have h1:=Af (AA false) (d:=u) (i:=k) (by omega);have h2:=Af (AA false) (d:=u) (i:=a) (by omega);have hl:=hcf (u[k]!) (u[a]!);(repeat refine WF ?_);refine RU ?_;(repeat first|(refine RGo.gN ?_;first|(refine RGo.g_callv ?_;first|refine RGo.k2 (h:=(hl ..)) (k:=?_)))|(refine RGo.gQ ?_;first|(refine RGo.g_callv ?_;first|refine RGo.k2 (h:=(hl ..)) (k:=?_)))|refine RK ?_|refine RGo.nil (by kernel_rfl) ?_);(repeat refine WF ?_);refine AWP.cond rfl (λhd=>?_) (λhd=>?_)
   ·have hd:((AJ cf) u[k]! u[a]!)=true:=by simpa[g,AJ]using hd
    rw[if_pos (by rw[Bool.and_eq_true];exact⟨decide_eq_true (by omega),hd⟩)]at hk;(repeat first|refine WK ?_|refine Ai λX=>?_|refine Ay λY=>?_);exact BE (k+1) ⟨by omega,by omega,hk⟩
   ·have hd:((AJ cf) u[k]! u[a]!)=false:=by simpa[g,AJ]using hd
    rw[if_neg (λe=>by rw[Bool.and_eq_true]at e;have e2:=e.2;rw[hd]at e2;cases e2)]at hk;(repeat first|refine WK ?_|refine Ai λX=>?_|refine Ay λY=>?_);exact jn k hk
  ·have hg:¬k<=j:=by have:=of_decide_eq_false g;omega
   rw[if_neg (λe=>by rw[Bool.and_eq_true]at e;have:=of_decide_eq_true e.1;omega)]at hk;(repeat refine WF ?_);refine RU ?_;(repeat first|refine RK ?_|refine RGo.nil (by kernel_rfl) ?_);(repeat refine WF ?_);refine AE rfl (by simp[g]) ?_;(repeat first|refine WK ?_|refine Ai λX=>?_|refine Ay λY=>?_);exact jn k hk
 rintro k hk0;rw[hk0];clear hk0 k
 (repeat (first|refine AWP.skip ?_|refine Bh ?_|refine AWP.seq ?_))
 refine BD (λk:Nat=>k=j2) (λk=>⟨[(0,.sl X 0 n),(1,iA a),(4,.fn f cap),(12,iA i2),(13,iA k)],(X,.row 71 3 (u.toList.map (AA false)))::Sf⟩) ?_ ?_
 ·refine AWP.block ?_
  refine BT (λ(k:Nat)=>⟨[(0,.sl X 0 n),(1,iA a),(4,.fn f cap),(12,iA i2),(13,iA k)],(X,.row 71 3 (u.toList.map (AA false)))::Sf⟩) (λk=>k<=j/\scanDown (λx=>!(AJ cf) x u[a]!) u i2 k=j2) (λk=>k) j ⟨Nat.le_refl _,hj2⟩ ?_;rintro k ⟨hk1,hk⟩;rcases Bool.eq_false_or_eq_true (decide ((i2:Int)<=(k:Int)))with g|g
  ·have hg:i2<=k:=by have:=of_decide_eq_true g;omega
   obtain⟨q,rfl⟩:∃q,k=q+1:=⟨k-1,by omega⟩;rw[scanDown]at hk;have h1:=Af (AA false) (d:=u) (i:=q+1) (by omega);have h2:=Af (AA false) (d:=u) (i:=a) (by omega);have hl:=hcf (u[q+1]!) (u[a]!);(repeat refine WF ?_);refine RU ?_;(repeat first|(refine RGo.gN ?_;first|(refine RGo.g_callv ?_;first|refine RGo.k2 (h:=(hl ..)) (k:=?_)))|(refine RGo.gQ ?_;first|(refine RGo.g_callv ?_;first|refine RGo.k2 (h:=(hl ..)) (k:=?_)))|refine RK ?_|refine RGo.nil (by kernel_rfl) ?_);(repeat refine WF ?_);refine AWP.cond rfl (λhd=>?_) (λhd=>?_)
   ·have hd:(!(AJ cf) u[q+1]! u[a]!)=true:=by simpa[g,AJ]using hd
    rw[if_pos (by rw[Bool.and_eq_true];exact⟨decide_eq_true (by omega),hd⟩)]at hk;(repeat first|(refine AOps.gN ?_;first|refine AOps.p (AY ((q:Int)) (by omega) (by omega) rfl rfl) rfl ?_)|refine WK ?_|refine Ai λX=>?_|refine Ay λY=>?_);exact BE q ⟨by omega,hk⟩
   ·have hd:(!(AJ cf) u[q+1]! u[a]!)=false:=by simpa[g,AJ]using hd
    rw[if_neg (λe=>by rw[Bool.and_eq_true]at e;have e2:=e.2;rw[hd]at e2;cases e2)]at hk;(repeat first|refine WK ?_|refine Ai λX=>?_|refine Ay λY=>?_);exact jn (q+1) hk
  ·have hg:¬i2<=k:=by have:=of_decide_eq_false g;omega
   have hk3:scanDown (λx=>!(AJ cf) x u[a]!) u i2 k=k:=by
    cases k with
    |zero=>rfl
    |succ q=>rw[scanDown,if_neg (λe=>by rw[Bool.and_eq_true]at e;have:=of_decide_eq_true e.1;omega)]
   rw[hk3]at hk;(repeat refine WF ?_);refine RU ?_;(repeat first|refine RK ?_|refine RGo.nil (by kernel_rfl) ?_);(repeat refine WF ?_);refine AE rfl (by simp[g]) ?_;(repeat first|refine WK ?_|refine Ai λX=>?_|refine Ay λY=>?_);exact jn k hk
 rintro k hk0;rw[hk0];clear hk0 k;(repeat first|refine WK ?_|refine Ai λX=>?_|refine Ay λY=>?_);refine AWP.cond rfl (λhc=>?_) (λhc=>?_)
 ·have h:i2>j2:=by have:=of_decide_eq_true hc;omega
  rw[if_pos h]at hfold;subst hfold;have h1:=Af (AA false) (d:=u) (i:=j2) (by omega);have h2:=Af (AA false) (d:=u) (i:=a) (by omega);have hrow2:=B8 (AA false) (d:=u) (i:=j2) (j:=a) (by omega) (by omega);obtain⟨y,hy⟩:=Bn (AA false) (d:=u) (i:=j2) (j:=a) (by omega) u[a]!;(repeat refine WF ?_);refine RU ?_;(repeat first|(refine RGo.gN ?_;first|refine RGo.s (W.store rfl rfl (by exact At.f) hy (by exact rfl)) rfl ?_)|(refine RGo.gQ ?_;first|refine RGo.s (W.store rfl rfl (by exact At.f) hy (by exact rfl)) rfl ?_)|refine RK ?_|refine RGo.nil (by kernel_rfl) ?_);(repeat first|refine WK ?_|refine Ai λX=>?_|refine Ay λY=>?_);refine RT ?_;exact AS [iA j2,bA true] [(X,_)] ⟨rfl,by rw[<-hrow2]⟩
 have h:¬i2>j2:=by have:=of_decide_eq_false hc;omega
 rw[if_neg h]at hfold;obtain⟨pr,hpr⟩:∃pr,partLoop (AJ cf) a (i2+1) (j2-1) (swp u i2 j2)=pr:=⟨_,rfl⟩;rw[hpr]at hfold;have h1:=Af (AA false) (d:=u) (i:=i2) (by omega);have h2:=Af (AA false) (d:=u) (i:=j2) (by omega);clear y hy;obtain⟨y,hy⟩:=Bn (AA false) (d:=u) (i:=i2) (j:=j2) (by omega) u[j2]!;(repeat refine WF ?_);refine RU ?_;(repeat first|(refine RGo.gN ?_;first|refine RGo.s (W.store rfl rfl (by exact At.f) hy (by exact rfl)) rfl ?_)|(refine RGo.gQ ?_;first|refine RGo.s (W.store rfl rfl (by exact At.f) hy (by exact rfl)) rfl ?_)|refine RK ?_|refine RGo.nil (by kernel_rfl) ?_);(repeat first|(refine AOps.gN ?_;first|refine AOps.p (AY (((j2-1:Nat):Int)) (by omega) (by omega) rfl rfl) rfl ?_)|refine WK ?_|refine Ai λX=>?_|refine Ay λY=>?_);refine DQ (λ(i j:Nat) (u:Array Item)=>⟨[(0,.sl X 0 n),(1,iA a),(4,.fn f cap),(12,iA i),(13,iA j)],(X,.row 71 3 (u.toList.map (AA false)))::Sf⟩) (λi j u=>a<i/\i<=j+2/\j<b/\u.size=d.size/\partLoop (AJ cf) a i j u=pr) (λi j _=>j+1-i) (i2+1) (j2-1) (swp u i2 j2) ⟨by omega,by omega,by omega,by rw[size_swp];exact hu,hpr⟩ ?_ (h0:=by rw[<-B8 (AA false) (by omega) (by omega)];exact⟨by exact Lk.f,by exact Sub.f⟩);subst hfold;clear hc h h1 h2 hpr hi2 hj2 hge hle hge2 hr hrow hu0 hu hsz hi hj hy y i2 j2 i j u;rintro i j u ⟨hai,hij,hjb,hu,hfold⟩;rw[partLoop_eq]at hfold;obtain⟨i2,hi2⟩:∃i2,scanUp (λx=>(AJ cf) x u[a]!) u j i=i2:=⟨_,rfl⟩;rw[hi2]at hfold;obtain⟨j2,hj2⟩:∃j2,scanDown (λx=>!(AJ cf) x u[a]!) u i2 j=j2:=⟨_,rfl⟩;rw[hj2]at hfold;have hge:=scanUp_ge (λx=>(AJ cf) x u[a]!) u j i;have hle:=scanDown_le (λx=>!(AJ cf) x u[a]!) u i2 j;rw[hi2]at hge;rw[hj2]at hle;have hge2:i2<=max i (j+1):=by rw[<-hi2];exact Fp _ _ _ _
 refine AWP.block ?_
 (repeat (first|refine AWP.skip ?_|refine Bh ?_|refine AWP.seq ?_))
 refine BD (λk:Nat=>k=i2) (λk=>⟨[(0,.sl X 0 n),(1,iA a),(4,.fn f cap),(12,iA k),(13,iA j)],(X,.row 71 3 (u.toList.map (AA false)))::Sf⟩) ?_ ?_
 ·refine AWP.block ?_
  refine BT (λ(k:Nat)=>⟨[(0,.sl X 0 n),(1,iA a),(4,.fn f cap),(12,iA k),(13,iA j)],(X,.row 71 3 (u.toList.map (AA false)))::Sf⟩) (λk=>i<=k/\k<=max i (j+1)/\scanUp (λx=>(AJ cf) x u[a]!) u j k=i2) (λk=>j+1-k) i ⟨Nat.le_refl _,by omega,hi2⟩ ?_;rintro k ⟨hk1,hk2,hk⟩;rw[scanUp]at hk;rcases Bool.eq_false_or_eq_true (decide ((k:Int)<=(j:Int)))with g|g
  ·have hg:k<=j:=by have:=of_decide_eq_true g;omega
   have h1:=Af (AA false) (d:=u) (i:=k) (by omega);have h2:=Af (AA false) (d:=u) (i:=a) (by omega);have hl:=hcf (u[k]!) (u[a]!);(repeat refine WF ?_);refine RU ?_;(repeat first|(refine RGo.gN ?_;first|(refine RGo.g_callv ?_;first|refine RGo.k2 (h:=(hl ..)) (k:=?_)))|(refine RGo.gQ ?_;first|(refine RGo.g_callv ?_;first|refine RGo.k2 (h:=(hl ..)) (k:=?_)))|refine RK ?_|refine RGo.nil (by kernel_rfl) ?_);(repeat refine WF ?_);refine AWP.cond rfl (λhd=>?_) (λhd=>?_)
   ·have hd:((AJ cf) u[k]! u[a]!)=true:=by simpa[g,AJ]using hd
    rw[if_pos (by rw[Bool.and_eq_true];exact⟨decide_eq_true (by omega),hd⟩)]at hk;(repeat first|refine WK ?_|refine Ai λX=>?_|refine Ay λY=>?_);exact BE (k+1) ⟨by omega,by omega,hk⟩
   ·have hd:((AJ cf) u[k]! u[a]!)=false:=by simpa[g,AJ]using hd
    rw[if_neg (λe=>by rw[Bool.and_eq_true]at e;have e2:=e.2;rw[hd]at e2;cases e2)]at hk;(repeat first|refine WK ?_|refine Ai λX=>?_|refine Ay λY=>?_);exact jn k hk
  ·have hg:¬k<=j:=by have:=of_decide_eq_false g;omega
   rw[if_neg (λe=>by rw[Bool.and_eq_true]at e;have:=of_decide_eq_true e.1;omega)]at hk;(repeat refine WF ?_);refine RU ?_;(repeat first|refine RK ?_|refine RGo.nil (by kernel_rfl) ?_);(repeat refine WF ?_);refine AE rfl (by simp[g]) ?_;(repeat first|refine WK ?_|refine Ai λX=>?_|refine Ay λY=>?_);exact jn k hk
 rintro k hk0;rw[hk0];clear hk0 k
 (repeat (first|refine AWP.skip ?_|refine Bh ?_|refine AWP.seq ?_))
 refine BD (λk:Nat=>k=j2) (λk=>⟨[(0,.sl X 0 n),(1,iA a),(4,.fn f cap),(12,iA i2),(13,iA k)],(X,.row 71 3 (u.toList.map (AA false)))::Sf⟩) ?_ ?_
 ·refine AWP.block ?_
  refine BT (λ(k:Nat)=>⟨[(0,.sl X 0 n),(1,iA a),(4,.fn f cap),(12,iA i2),(13,iA k)],(X,.row 71 3 (u.toList.map (AA false)))::Sf⟩) (λk=>k<=j/\scanDown (λx=>!(AJ cf) x u[a]!) u i2 k=j2) (λk=>k) j ⟨Nat.le_refl _,hj2⟩ ?_;rintro k ⟨hk1,hk⟩;rcases Bool.eq_false_or_eq_true (decide ((i2:Int)<=(k:Int)))with g|g
  ·have hg:i2<=k:=by have:=of_decide_eq_true g;omega
   obtain⟨q,rfl⟩:∃q,k=q+1:=⟨k-1,by omega⟩;rw[scanDown]at hk;have h1:=Af (AA false) (d:=u) (i:=q+1) (by omega);have h2:=Af (AA false) (d:=u) (i:=a) (by omega);have hl:=hcf (u[q+1]!) (u[a]!);(repeat refine WF ?_);refine RU ?_;(repeat first|(refine RGo.gN ?_;first|(refine RGo.g_callv ?_;first|refine RGo.k2 (h:=(hl ..)) (k:=?_)))|(refine RGo.gQ ?_;first|(refine RGo.g_callv ?_;first|refine RGo.k2 (h:=(hl ..)) (k:=?_)))|refine RK ?_|refine RGo.nil (by kernel_rfl) ?_);(repeat refine WF ?_);refine AWP.cond rfl (λhd=>?_) (λhd=>?_)
   ·have hd:(!(AJ cf) u[q+1]! u[a]!)=true:=by simpa[g,AJ]using hd
    rw[if_pos (by rw[Bool.and_eq_true];exact⟨decide_eq_true (by omega),hd⟩)]at hk;(repeat first|(refine AOps.gN ?_;first|refine AOps.p (AY ((q:Int)) (by omega) (by omega) rfl rfl) rfl ?_)|refine WK ?_|refine Ai λX=>?_|refine Ay λY=>?_);exact BE q ⟨by omega,hk⟩
   ·have hd:(!(AJ cf) u[q+1]! u[a]!)=false:=by simpa[g,AJ]using hd
    rw[if_neg (λe=>by rw[Bool.and_eq_true]at e;have e2:=e.2;rw[hd]at e2;cases e2)]at hk;(repeat first|refine WK ?_|refine Ai λX=>?_|refine Ay λY=>?_);exact jn (q+1) hk
  ·have hg:¬i2<=k:=by have:=of_decide_eq_false g;omega
   have hk3:scanDown (λx=>!(AJ cf) x u[a]!) u i2 k=k:=by
    cases k with
    |zero=>rfl
    |succ q=>rw[scanDown,if_neg (λe=>by rw[Bool.and_eq_true]at e;have:=of_decide_eq_true e.1;omega)]
   rw[hk3]at hk;(repeat refine WF ?_);refine RU ?_;(repeat first|refine RK ?_|refine RGo.nil (by kernel_rfl) ?_);(repeat refine WF ?_);refine AE rfl (by simp[g]) ?_;(repeat first|refine WK ?_|refine Ai λX=>?_|refine Ay λY=>?_);exact jn k hk
 rintro k hk0;rw[hk0];clear hk0 k;(repeat first|refine WK ?_|refine Ai λX=>?_|refine Ay λY=>?_);refine AWP.cond rfl (λhc=>?_) (λhc=>?_)
 ·have h:i2>j2:=by have:=of_decide_eq_true hc;omega
  rw[if_pos h]at hfold;subst hfold;have h1:=Af (AA false) (d:=u) (i:=j2) (by omega);have h2:=Af (AA false) (d:=u) (i:=a) (by omega);have hrow2:=B8 (AA false) (d:=u) (i:=j2) (j:=a) (by omega) (by omega);obtain⟨y,hy⟩:=Bn (AA false) (d:=u) (i:=j2) (j:=a) (by omega) u[a]!;(repeat refine WF ?_);refine RU ?_;(repeat first|(refine RGo.gN ?_;first|refine RGo.s (W.store rfl rfl (by exact At.f) hy (by exact rfl)) rfl ?_)|(refine RGo.gQ ?_;first|refine RGo.s (W.store rfl rfl (by exact At.f) hy (by exact rfl)) rfl ?_)|refine RK ?_|refine RGo.nil (by kernel_rfl) ?_);(repeat first|refine WK ?_|refine Ai λX=>?_|refine Ay λY=>?_);refine RT ?_;exact AS [iA j2,bA false] [(X,_)] ⟨rfl,by rw[<-hrow2]⟩
 ·have h:¬i2>j2:=by have:=of_decide_eq_false hc;omega
  rw[if_neg h]at hfold;have h1:=Af (AA false) (d:=u) (i:=i2) (by omega);have h2:=Af (AA false) (d:=u) (i:=j2) (by omega);obtain⟨y,hy⟩:=Bn (AA false) (d:=u) (i:=i2) (j:=j2) (by omega) u[j2]!;(repeat refine WF ?_);refine RU ?_;(repeat first|(refine RGo.gN ?_;first|refine RGo.s (W.store rfl rfl (by exact At.f) hy (by exact rfl)) rfl ?_)|(refine RGo.gQ ?_;first|refine RGo.s (W.store rfl rfl (by exact At.f) hy (by exact rfl)) rfl ?_)|refine RK ?_|refine RGo.nil (by kernel_rfl) ?_);(repeat first|(refine AOps.gN ?_;first|refine AOps.p (AY (((j2-1:Nat):Int)) (by omega) (by omega) rfl rfl) rfl ?_)|refine WK ?_|refine Ai λX=>?_|refine Ay λY=>?_);refine B0 (i2+1) (j2-1) (swp u i2 j2) ⟨by omega,by omega,by omega,by rw[size_swp];exact hu,hfold⟩ (h0:=by rw[<-B8 (AA false) (by omega) (by omega)];exact⟨by exact Lk.f,by exact Sub.f⟩)
end
section
open Go.Sort
set_option maxHeartbeats 1000000 in
theorem Ha(lt:Item->Item->Bool)(d:Array Item)(b i:Nat):i<=scanSorted lt d b i/\scanSorted lt d b i<=max i b:=by
 obtain⟨m,hm⟩:∃m,b-i=m:=⟨_,rfl⟩
 induction m generalizing i with
 |zero=>rw[scanSorted,if_neg (λe=>by rw[Bool.and_eq_true]at e;have:=of_decide_eq_true e.1;omega)];omega
 |succ m ih=>
  rw[scanSorted];split
  ·have:=ih (i+1) (by omega)
   omega
  ·omega
theorem PK(f:FuncId)(cap:List AV)(cf:Item->Item->Int)(hst:Bs cap=true)(hcf:∀x y,PS Tryz.prog f ((AA false) x::(AA false) y::cap) (iA (cf x y)))(X n:Nat)(d:Array Item)(a b:Nat)(hn:n=d.size)(hab:a<b)(hb:b<=d.size)(hz:d.size<=1099511627776):PO Tryz.prog 217 [.sl X 0 n,iA a,iA b,.fn f cap] X (.row 71 3 (d.toList.map (AA false))) (bA (partialInsertionSort (AJ cf) d a b).2) (.row 71 3 ((partialInsertionSort (AJ cf) d a b).1.toList.map (AA false))):=by
 obtain⟨r,hr⟩:∃r,partialInsertionSort (AJ cf) d a b=r:=⟨_,rfl⟩;rw[hr];unfold partialInsertionSort at hr;refine Spec.of (nt:=141) (res:=[.tmp 8]) Tryz.func217 rfl (by kernel_rfl) rfl rfl rfl λSf=>?_
 (repeat first|(refine AOps.gN ?_;first|refine AOps.p (Aq (((a+1:Nat):Int)) (by omega) (by omega) rfl rfl) rfl ?_)|refine WK ?_|refine Ai λX=>?_|refine Ay λY=>?_);refine DQ (λ(c i:Nat) (u:Array Item)=>⟨[(0,.sl X 0 n),(1,iA a),(2,iA b),(3,.fn f cap),(9,iA i),(10,iA c)],(X,.row 71 3 (u.toList.map (AA false)))::Sf⟩) (λc i u=>c<=5/\a<i/\i<=b/\u.size=d.size/\partialIns (AJ cf) a b (5-c) i u=r) (λc _ _=>5-c) 0 (a+1) d ⟨by omega,by omega,by omega,rfl,hr⟩ ?_;rintro c i u ⟨hc5,hai,hib,hu,hfold⟩;(repeat first|refine WK ?_|refine Ai λX=>?_|refine Ay λY=>?_);refine AWP.cond rfl (λhc=>?_) (λhc=>?_)
 ·have h:c<5:=by have:=of_decide_eq_true hc;omega
  obtain⟨s,hs⟩:∃s,5-c=s+1:=⟨4-c,by omega⟩;rw[hs,partialIns_succ]at hfold;obtain⟨i2,hi2⟩:∃i2,scanSorted (AJ cf) u b i=i2:=⟨_,rfl⟩;rw[hi2]at hfold;have hrg:=Ha (AJ cf) u b i;rw[hi2]at hrg
  (repeat (first|refine AWP.skip ?_|refine Bh ?_|refine AWP.seq ?_))
  refine AWP.block ?_
  (repeat (first|refine AWP.skip ?_|refine Bh ?_|refine AWP.seq ?_))
  refine BD (λk:Nat=>k=i2) (λk=>⟨[(0,.sl X 0 n),(1,iA a),(2,iA b),(3,.fn f cap),(9,iA k),(10,iA c)],(X,.row 71 3 (u.toList.map (AA false)))::Sf⟩) ?_ ?_
  ·refine AWP.block ?_
   refine BT (λ(k:Nat)=>⟨[(0,.sl X 0 n),(1,iA a),(2,iA b),(3,.fn f cap),(9,iA k),(10,iA c)],(X,.row 71 3 (u.toList.map (AA false)))::Sf⟩) (λk=>i<=k/\k<=b/\scanSorted (AJ cf) u b k=i2) (λk=>b-k) i ⟨Nat.le_refl _,hib,hi2⟩ ?_;rintro k ⟨hk1,hk2,hk⟩;rw[scanSorted]at hk;rcases Bool.eq_false_or_eq_true (decide ((k:Int)<(b:Int)))with g|g
   ·have hg:k<b:=by have:=of_decide_eq_true g;omega
    have h1:=Af (AA false) (d:=u) (i:=k) (by omega);have h2:=Af (AA false) (d:=u) (i:=k-1) (by omega);have hl:=hcf (u[k]!) (u[k-1]!);(repeat refine WF ?_);refine RU ?_;(repeat first|(refine RGo.gN ?_;first|(refine RGo.g_callv ?_;first|refine RGo.k2 (h:=(hl ..)) (k:=?_))|refine RGo.go (h:=AY (((k-1:Nat):Int)) (by omega) (by omega) rfl rfl) (k:=?_))|(refine RGo.gQ ?_;first|(refine RGo.g_callv ?_;first|refine RGo.k2 (h:=(hl ..)) (k:=?_))|refine RGo.go (h:=AY (((k-1:Nat):Int)) (by omega) (by omega) rfl rfl) (k:=?_))|refine RK ?_|refine RGo.nil (by kernel_rfl) ?_);(repeat refine WF ?_);refine AWP.cond rfl (λhd=>?_) (λhd=>?_)
    ·have hd:(!(AJ cf) u[k]! u[k-1]!)=true:=by simpa[g,AJ]using hd
     rw[if_pos (by rw[Bool.and_eq_true];exact⟨decide_eq_true (by omega),hd⟩)]at hk;(repeat first|refine WK ?_|refine Ai λX=>?_|refine Ay λY=>?_);exact BE (k+1) ⟨by omega,by omega,hk⟩
    ·have hd:(!(AJ cf) u[k]! u[k-1]!)=false:=by simpa[g,AJ]using hd
     rw[if_neg (λe=>by rw[Bool.and_eq_true]at e;have e2:=e.2;rw[hd]at e2;cases e2)]at hk;(repeat first|refine WK ?_|refine Ai λX=>?_|refine Ay λY=>?_);exact jn k hk
   ·have hg:¬k<b:=by have:=of_decide_eq_false g;omega
    rw[if_neg (λe=>by rw[Bool.and_eq_true]at e;have:=of_decide_eq_true e.1;omega)]at hk;(repeat refine WF ?_);refine RU ?_;(repeat first|refine RK ?_|refine RGo.nil (by kernel_rfl) ?_);(repeat refine WF ?_);refine AE rfl (by simp[g]) ?_;(repeat first|refine WK ?_|refine Ai λX=>?_|refine Ay λY=>?_);exact jn k hk
  rintro k hk0;rw[hk0];clear hk0 k;(repeat first|refine WK ?_|refine Ai λX=>?_|refine Ay λY=>?_);refine AWP.cond rfl (λhd=>?_) (λhd=>?_)
  ·have hd:i2=b:=by have:=of_decide_eq_true hd;omega
   rw[if_pos hd]at hfold;subst hfold;(repeat first|refine WK ?_|refine Ai λX=>?_|refine Ay λY=>?_);refine RT ?_;exact AS [bA true] [(X,_)] ⟨rfl,rfl⟩
  have hd:¬i2=b:=by have:=of_decide_eq_false hd;omega
  rw[if_neg hd]at hfold;(repeat first|(refine AOps.gN ?_;first|refine AOps.p (AY (((b-a:Nat):Int)) (by omega) (by omega) rfl rfl) rfl ?_)|refine WK ?_|refine Ai λX=>?_|refine Ay λY=>?_);refine AWP.cond rfl (λhe=>?_) (λhe=>?_)
  ·have he:b-a<50:=by have:=of_decide_eq_true he;omega
   rw[if_pos he]at hfold;subst hfold;(repeat first|refine WK ?_|refine Ai λX=>?_|refine Ay λY=>?_);refine RT ?_;exact AS [bA false] [(X,_)] ⟨rfl,rfl⟩
  have he:¬b-a<50:=by have:=of_decide_eq_false he;omega
  rw[if_neg he]at hfold;have h1:=Af (AA false) (d:=u) (i:=i2) (by omega);have h2:=Af (AA false) (d:=u) (i:=i2-1) (by omega);have hrow:=B8 (AA false) (d:=u) (i:=i2) (j:=i2-1) (by omega) (by omega);obtain⟨y,hy⟩:=Bn (AA false) (d:=u) (i:=i2) (j:=i2-1) (by omega) u[i2-1]!;have hvs:(swp u i2 (i2-1)).size=d.size:=by rw[size_swp];exact hu
  (repeat refine WF ?_);refine RU ?_;(repeat first|(refine RGo.gN ?_;first|refine RGo.go (h:=AY (((i2-1:Nat):Int)) (by omega) (by omega) rfl rfl) (k:=?_)|refine RGo.s (W.store rfl rfl (by exact At.f) hy (by exact rfl)) rfl ?_)|(refine RGo.gQ ?_;first|refine RGo.go (h:=AY (((i2-1:Nat):Int)) (by omega) (by omega) rfl rfl) (k:=?_)|refine RGo.s (W.store rfl rfl (by exact At.f) hy (by exact rfl)) rfl ?_)|refine RK ?_|refine RGo.nil (by kernel_rfl) ?_);obtain⟨v,hv⟩:∃v,swp u i2 (i2-1)=v:=⟨_,rfl⟩;rw[hv]at hrow hvs hfold;refine Ku [(0,.sl X 0 n),(1,iA a),(2,iA b),(3,.fn f cap),(9,iA i2),(10,iA c)] ((X,.row 71 3 (v.toList.map (AA false)))::Sf) ?_ (h:=by rw[<-hrow];exact⟨by exact Lk.f,by exact Sub.f⟩);(repeat first|(refine AOps.gN ?_;first|refine AOps.p (AY (((i2-a:Nat):Int)) (by omega) (by omega) rfl rfl) rfl ?_)|refine WK ?_|refine Ai λX=>?_|refine Ay λY=>?_);refine BD (λw:Array Item=>w.size=d.size/\w=fixDown (AJ cf) a i2 v) (λw=>⟨[(0,.sl X 0 n),(1,iA a),(2,iA b),(3,.fn f cap),(9,iA i2),(10,iA c)],(X,.row 71 3 (w.toList.map (AA false)))::Sf⟩) ?_ ?_
  ·unfold fixDown
   refine AWP.cond rfl (λhf=>?_) (λhf=>?_)
   ·have hf:i2-a>=2:=by have:=of_decide_eq_true hf;omega
    rw[if_pos hf];(repeat first|(refine AOps.gN ?_;first|refine AOps.p (AY (((i2-1:Nat):Int)) (by omega) (by omega) rfl rfl) rfl ?_)|refine WK ?_|refine Ai λX=>?_|refine Ay λY=>?_);refine BO (λ(k:Nat) (w:Array Item)=>⟨[(0,.sl X 0 n),(1,iA a),(2,iA b),(3,.fn f cap),(9,iA i2),(10,iA c),(11,iA k)],(X,.row 71 3 (w.toList.map (AA false)))::Sf⟩) (λk w=>k<b/\w.size=d.size/\shiftDown (AJ cf) k w=shiftDown (AJ cf) (i2-1) v) (λk _=>k) (i2-1) v ⟨by omega,hvs,rfl⟩ ?_;rintro k w ⟨hkb,hw,hk⟩;(repeat first|refine WK ?_|refine Ai λX=>?_|refine Ay λY=>?_);refine AWP.cond rfl (λhg=>?_) (λhg=>?_)
    ·obtain⟨q,rfl⟩:∃q,k=q+1:=⟨k-1,by have:=of_decide_eq_true hg;omega⟩
     rw[shiftDown]at hk;have h1:=Af (AA false) (d:=w) (i:=q+1) (by omega);have h2:=Af (AA false) (d:=w) (i:=q) (by omega);have hl:=hcf (w[q+1]!) (w[q]!);(repeat refine WF ?_);refine RU ?_;(repeat first|(refine RGo.gN ?_;first|(refine RGo.g_callv ?_;first|refine RGo.k2 (h:=(hl ..)) (k:=?_))|refine RGo.go (h:=AY ((q:Int)) (by omega) (by omega) rfl rfl) (k:=?_))|(refine RGo.gQ ?_;first|(refine RGo.g_callv ?_;first|refine RGo.k2 (h:=(hl ..)) (k:=?_))|refine RGo.go (h:=AY ((q:Int)) (by omega) (by omega) rfl rfl) (k:=?_))|refine RK ?_|refine RGo.nil (by kernel_rfl) ?_);(repeat refine WF ?_);refine AWP.cond rfl (λhd=>?_) (λhd=>?_)
     ·have hd:(!(AJ cf) w[q+1]! w[q]!)=true:=by simpa[AJ]using hd
      rw[if_pos hd]at hk;(repeat first|refine WK ?_|refine Ai λX=>?_|refine Ay λY=>?_);exact jn w ⟨hw,hk⟩
     ·have hd:(!(AJ cf) w[q+1]! w[q]!)=false:=by simpa[AJ]using hd
      rw[if_neg (by rw[hd];simp)]at hk;clear y hy;obtain⟨y,hy⟩:=Bn (AA false) (d:=w) (i:=q+1) (j:=q) (by omega) w[q]!;(repeat refine WF ?_);refine RU ?_;(repeat first|(refine RGo.gN ?_;first|refine RGo.go (h:=AY ((q:Int)) (by omega) (by omega) rfl rfl) (k:=?_)|refine RGo.s (W.store rfl rfl (by exact At.f) hy (by exact rfl)) rfl ?_)|(refine RGo.gQ ?_;first|refine RGo.go (h:=AY ((q:Int)) (by omega) (by omega) rfl rfl) (k:=?_)|refine RGo.s (W.store rfl rfl (by exact At.f) hy (by exact rfl)) rfl ?_)|refine RK ?_|refine RGo.nil (by kernel_rfl) ?_);(repeat first|(refine AOps.gN ?_;first|refine AOps.p (AY ((q:Int)) (by omega) (by omega) rfl rfl) rfl ?_)|refine WK ?_|refine Ai λX=>?_|refine Ay λY=>?_);refine As q (swp w (q+1) q) ⟨by omega,by rw[size_swp];exact hw,hk⟩ (h0:=by rw[<-B8 (AA false) (by omega) (by omega)];exact⟨by exact Lk.f,by exact Sub.f⟩)
    ·obtain rfl:k=0:=by have:=of_decide_eq_false hg;omega
     rw[shiftDown]at hk;(repeat first|refine WK ?_|refine Ai λX=>?_|refine Ay λY=>?_);exact jn w ⟨hw,hk⟩
   ·have hf:¬i2-a>=2:=by have:=of_decide_eq_false hf;omega
    rw[if_neg hf];(repeat first|refine WK ?_|refine Ai λX=>?_|refine Ay λY=>?_);exact jn v ⟨hvs,rfl⟩
  rintro w ⟨hws,hw0⟩;rw[<-hw0]at hfold;clear hw0 hrow y hy h1 h2;(repeat first|(refine AOps.gN ?_;first|refine AOps.p (AY (((b-i2:Nat):Int)) (by omega) (by omega) rfl rfl) rfl ?_)|refine WK ?_|refine Ai λX=>?_|refine Ay λY=>?_);refine O3 (λz:Array Item=>z.size=d.size/\z=fixUp (AJ cf) b i2 w) (λz=>⟨[(0,.sl X 0 n),(1,iA a),(2,iA b),(3,.fn f cap),(9,iA i2),(10,iA c)],(X,.row 71 3 (z.toList.map (AA false)))::Sf⟩) ?_ ?_
  ·unfold fixUp
   refine AWP.cond rfl (λhf=>?_) (λhf=>?_)
   ·have hf:b-i2>=2:=by have:=of_decide_eq_true hf;omega
    rw[if_pos hf];(repeat first|(refine AOps.gN ?_;first|refine AOps.p (Aq (((i2+1:Nat):Int)) (by omega) (by omega) rfl rfl) rfl ?_)|refine WK ?_|refine Ai λX=>?_|refine Ay λY=>?_);refine BO (λ(k:Nat) (z:Array Item)=>⟨[(0,.sl X 0 n),(1,iA a),(2,iA b),(3,.fn f cap),(9,iA i2),(10,iA c),(12,iA k)],(X,.row 71 3 (z.toList.map (AA false)))::Sf⟩) (λk z=>i2<k/\k<=b/\z.size=d.size/\shiftUp (AJ cf) b k z=shiftUp (AJ cf) b (i2+1) w) (λk _=>b-k) (i2+1) w ⟨by omega,by omega,hws,rfl⟩ ?_;rintro k z ⟨hik,hkb,hz1,hk⟩;rw[shiftUp]at hk;(repeat first|refine WK ?_|refine Ai λX=>?_|refine Ay λY=>?_);refine AWP.cond rfl (λhg=>?_) (λhg=>?_)
    ·have hg:k<b:=by have:=of_decide_eq_true hg;omega
     rw[if_pos hg]at hk;have h1:=Af (AA false) (d:=z) (i:=k) (by omega);have h2:=Af (AA false) (d:=z) (i:=k-1) (by omega);have hl:=hcf (z[k]!) (z[k-1]!);(repeat refine WF ?_);refine RU ?_;(repeat first|(refine RGo.gN ?_;first|(refine RGo.g_callv ?_;first|refine RGo.k2 (h:=(hl ..)) (k:=?_))|refine RGo.go (h:=AY (((k-1:Nat):Int)) (by omega) (by omega) rfl rfl) (k:=?_))|(refine RGo.gQ ?_;first|(refine RGo.g_callv ?_;first|refine RGo.k2 (h:=(hl ..)) (k:=?_))|refine RGo.go (h:=AY (((k-1:Nat):Int)) (by omega) (by omega) rfl rfl) (k:=?_))|refine RK ?_|refine RGo.nil (by kernel_rfl) ?_);(repeat refine WF ?_);refine AWP.cond rfl (λhd=>?_) (λhd=>?_)
     ·have hd:(!(AJ cf) z[k]! z[k-1]!)=true:=by simpa[AJ]using hd
      rw[if_pos hd]at hk;(repeat first|refine WK ?_|refine Ai λX=>?_|refine Ay λY=>?_);exact jn z ⟨hz1,hk⟩
     ·have hd:(!(AJ cf) z[k]! z[k-1]!)=false:=by simpa[AJ]using hd
      rw[if_neg (by rw[hd];simp)]at hk;obtain⟨y,hy⟩:=Bn (AA false) (d:=z) (i:=k) (j:=k-1) (by omega) z[k-1]!;(repeat refine WF ?_);refine RU ?_;(repeat first|(refine RGo.gN ?_;first|refine RGo.go (h:=AY (((k-1:Nat):Int)) (by omega) (by omega) rfl rfl) (k:=?_)|refine RGo.s (W.store rfl rfl (by exact At.f) hy (by exact rfl)) rfl ?_)|(refine RGo.gQ ?_;first|refine RGo.go (h:=AY (((k-1:Nat):Int)) (by omega) (by omega) rfl rfl) (k:=?_)|refine RGo.s (W.store rfl rfl (by exact At.f) hy (by exact rfl)) rfl ?_)|refine RK ?_|refine RGo.nil (by kernel_rfl) ?_);(repeat first|refine WK ?_|refine Ai λX=>?_|refine Ay λY=>?_);refine As (k+1) (swp z k (k-1)) ⟨by omega,by omega,by rw[size_swp];exact hz1,hk⟩ (h0:=by rw[<-B8 (AA false) (by omega) (by omega)];exact⟨by exact Lk.f,by exact Sub.f⟩)
    ·have hg:¬k<b:=by have:=of_decide_eq_false hg;omega
     rw[if_neg hg]at hk;(repeat first|refine WK ?_|refine Ai λX=>?_|refine Ay λY=>?_);exact jn z ⟨hz1,hk⟩
   ·have hf:¬b-i2>=2:=by have:=of_decide_eq_false hf;omega
    rw[if_neg hf];(repeat first|refine WK ?_|refine Ai λX=>?_|refine Ay λY=>?_);exact jn w ⟨hws,rfl⟩
  rintro z ⟨hzs,hz0⟩;rw[<-hz0]at hfold;(repeat first|refine WK ?_|refine Ai λX=>?_|refine Ay λY=>?_);refine B0 (c+1) i2 z ⟨by omega,by omega,by omega,hzs,by rw[show 5-(c+1)=s by omega];exact hfold⟩
 ·have h:c=5:=by have:=of_decide_eq_false hc;omega
  subst h;rw[show 5-5=0 from rfl,partialIns]at hfold;subst hfold;(repeat first|refine WK ?_|refine Ai λX=>?_|refine Ay λY=>?_);refine RT ?_;exact AS [bA false] [(X,_)] ⟨rfl,rfl⟩
end
section
open Go.Sort
set_option maxHeartbeats 1000000 in
theorem RN{f:FuncId}{cap:List AV}(X n:Nat)(d:Array Item)(a b:Nat)(hn:n=d.size)(hab:a<=b)(hb:b<=d.size)(hz:d.size<65536):Spec Tryz.prog 214 [.sl X 0 n,iA a,iA b,.fn f cap] [(X,.row 71 3 (d.toList.map (AA false)))] λr S'=>∃u:Array Item,PermIn a b d u/\r= .tup []/\S'=[(X,.row 71 3 (u.toList.map (AA false)))]:=by
 obtain⟨l,hl⟩:∃l,b-a=l:=⟨_,rfl⟩;refine Spec.of (nt:=67) (res:=[]) Tryz.func214 rfl (by kernel_rfl) rfl rfl rfl λSf=>?_
 (repeat first|(refine AOps.gN ?_;first|refine AOps.p (AY ((l:Int)) (by omega) (by omega) rfl rfl) rfl ?_)|refine WK ?_|refine Ai λX=>?_|refine Ay λY=>?_);refine AWP.cond rfl (λh8=>?_) (λh8=>?_)
 ·have h8:8<=l:=by have:=of_decide_eq_true h8;omega
  have hnp:=Mj l (by omega);have hbl:bitsLen l<=16:=(bitsLen_le_iff l 16).2 (by omega);have hm2:=two_pow_bitsLen_le (n:=l) (by omega);obtain⟨m,hm⟩:∃m,(1:UInt64)<<<UInt64.ofNat (bitsLen l)=m:=⟨_,rfl⟩
  have hmn:m.toNat=2^bitsLen l:=by
   have:2^bitsLen l<=2^16:=Nat.pow_le_pow_right (by decide) hbl;rw[<-hm,UInt64.toNat_shiftLeft,UInt64.toNat_ofNat',show bitsLen l%2^64%64=bitsLen l by omega,Nat.shiftLeft_eq,show(1:UInt64).toNat=1 from rfl];omega
  rw[hm]at hnp;have hp1:1<=2^bitsLen l:=Nat.one_le_two_pow;(repeat first|(refine AOps.gN ?_;first|(refine AOps.g_callf ?_;first|refine AOps.c1 (h:=(hnp ..)) (k:=?_))|refine AOps.p (Ko .i64 l rfl (by omega) (by kernel_rfl) (by kernel_rfl) rfl) rfl ?_|refine AOps.p (I4 l 4 (l/4) rfl rfl (by omega) rfl (by omega) rfl rfl) rfl ?_|refine AOps.p (G9 ((l/4*2:Nat):Int) (by omega) (by omega) rfl rfl) rfl ?_|refine AOps.p (Aq (((a+l/4*2:Nat):Int)) (by omega) (by omega) rfl rfl) rfl ?_|refine AOps.p (AY (((a+l/4*2-1:Nat):Int)) (by omega) (by omega) rfl rfl) rfl ?_)|refine WK ?_|refine Ai λV=>?_|refine Ay λY=>?_);refine DQ (λ(k:Nat) (s:UInt64) (u:Array Item)=>⟨[(0,.sl X 0 n),(1,iA a),(3,.fn f cap),(8,iA l),(9,.ptr V 0 0),(10,uA m),(11,iA k)],(V,.row 355 1 [uA s])::(X,.row 71 3 (u.toList.map (AA false)))::Sf⟩) (λk s u=>a<=k/\k<=a+l/4*2+2/\PermIn a b d u) (λk _ _=>a+l/4*2+2-k) (a+l/4*2-1) (UInt64.ofNat l) d ⟨by omega,by omega,permIn_refl _ _ _⟩ ?_;rintro k s u ⟨hak,hkl,hP⟩;have hu:u.size=d.size:=hP.1;(repeat first|(refine AOps.gN ?_;first|refine AOps.p (I4 l 4 (l/4) rfl rfl (by omega) rfl (by omega) rfl rfl) rfl ?_|refine AOps.p (G9 ((l/4*2:Nat):Int) (by omega) (by omega) rfl rfl) rfl ?_|refine AOps.p (Aq (((a+l/4*2:Nat):Int)) (by omega) (by omega) rfl rfl) rfl ?_|refine AOps.p (Aq (((a+l/4*2+1:Nat):Int)) (by omega) (by omega) rfl rfl) rfl ?_)|refine WK ?_|refine Ai λX=>?_|refine Ay λY=>?_);refine AWP.cond rfl (λhc=>?_) (λhc=>?_)
  ·have hk1:k<=a+l/4*2+1:=by have:=of_decide_eq_true hc;omega
   have hkb:k<b:=by omega
   refine AWP.skip ?_;refine Bh ?_;refine AWP.seq ?_;refine AWP.block ?_;refine AWP.seq ?_;refine RG ?_;(repeat first|(refine AOps.gN ?_;first|(refine AOps.g_callf ?_;first|refine QY (h:=MM V s) (k:=λv _=>?_)))|refine WO ?_|refine Ai λX=>?_|refine Ay λY=>?_)
   have hvb:(v&&&(m-1)).toNat<2*l:=by
    rw[UInt64.toNat_and,UInt64.toNat_sub_of_le _ _ (by rw[UInt64.le_iff_toNat_le,hmn];exact hp1),hmn];have:=Nat.and_le_right (n:=v.toNat) (m:=2^bitsLen l-(1:UInt64).toNat);have e:(1:UInt64).toNat=1:=rfl;omega
   (repeat first|(refine AOps.gN ?_;first|refine AOps.p (R4 (b:=1) rfl rfl) rfl ?_|refine AOps.p (R7 rfl rfl) rfl ?_|refine AOps.p (R5 .u64 (by omega) (by kernel_rfl) (by kernel_rfl) rfl) rfl ?_)|refine WO ?_|refine Ai λX=>?_|refine Ay λY=>?_);refine AOps.nil ?_
   (repeat (first|refine AWP.skip ?_|refine Bh ?_|refine AWP.seq ?_))
   obtain⟨o,ho⟩:∃o,(v&&&(m-1)).toNat=o:=⟨_,rfl⟩;refine Ku [(0,.sl X 0 n),(1,iA a),(3,.fn f cap),(8,iA l),(9,.ptr V 0 0),(10,uA m),(11,iA k),(12,iA o)] ((V,.row 355 1 [uA v])::(X,.row 71 3 (u.toList.map (AA false)))::Sf) ?_ (h:=by rw[<-ho];exact⟨by exact Lk.f,by exact Sub.f⟩);rw[ho]at hvb;(repeat first|refine WK ?_|refine Ai λX=>?_|refine Ay λY=>?_);refine BD (λo:Nat=>o<l) (λo=>⟨[(0,.sl X 0 n),(1,iA a),(3,.fn f cap),(8,iA l),(9,.ptr V 0 0),(10,uA m),(11,iA k),(12,iA o)],(V,.row 355 1 [uA v])::(X,.row 71 3 (u.toList.map (AA false)))::Sf⟩) ?_ ?_
   ·refine AWP.cond rfl (λhd=>?_) (λhd=>?_)
    ·have hd:l<=o:=by have:=of_decide_eq_true hd;omega
     (repeat first|(refine AOps.gN ?_;first|refine AOps.p (AY (((o-l:Nat):Int)) (by omega) (by omega) rfl rfl) rfl ?_)|refine WK ?_|refine Ai λX=>?_|refine Ay λY=>?_);exact jn (o-l) (by omega)
    ·have hd:¬l<=o:=by have:=of_decide_eq_false hd;omega
     (repeat first|refine WK ?_|refine Ai λX=>?_|refine Ay λY=>?_);exact jn o (by omega)
   rintro o hol;have h1:=Af (AA false) (d:=u) (i:=k) (by omega);have h2:=Af (AA false) (d:=u) (i:=a+o) (by omega);obtain⟨y,hy⟩:=Bn (AA false) (d:=u) (i:=k) (j:=a+o) (by omega) u[a+o]!;(repeat refine WF ?_);refine RU ?_;(repeat first|(refine RGo.gN ?_;first|refine RGo.go (h:=Aq (((a+o:Nat):Int)) (by omega) (by omega) rfl rfl) (k:=?_)|refine RGo.s (W.store rfl rfl (by exact At.f) hy (by exact rfl)) rfl ?_)|(refine RGo.gQ ?_;first|refine RGo.go (h:=Aq (((a+o:Nat):Int)) (by omega) (by omega) rfl rfl) (k:=?_)|refine RGo.s (W.store rfl rfl (by exact At.f) hy (by exact rfl)) rfl ?_)|refine RK ?_|refine RGo.nil (by kernel_rfl) ?_);(repeat first|refine WK ?_|refine Ai λX=>?_|refine Ay λY=>?_);refine B0 (k+1) v (swp u k (a+o)) ⟨by omega,by omega,permIn_trans _ _ _ _ _ hP (swp_permIn _ _ _ _ _ (by omega) (by omega) (by omega) (by omega) (by omega))⟩ (h0:=by rw[<-B8 (AA false) (by omega) (by omega)];exact⟨by exact Lk.f,by exact Sub.f⟩)
  ·(repeat first|refine WK ?_|refine Ai λX=>?_|refine Ay λY=>?_)
   refine Dw ?_;exact BV [(X,.row 71 3 (u.toList.map (AA false)))] ⟨u,hP,rfl,rfl⟩
 ·(repeat first|refine WK ?_|refine Ai λX=>?_|refine Ay λY=>?_)
  refine Dw ?_;exact BV [(X,.row 71 3 (d.toList.map (AA false)))] ⟨d,permIn_refl _ _ _,rfl,rfl⟩
end
section
open Go.Sort
set_option maxHeartbeats 1000000 in
theorem Fq(f:FuncId)(cap:List AV)(cf:Item->Item->Int)(hst:Bs cap=true)(hcf:∀x y,PS Tryz.prog f ((AA false) x::(AA false) y::cap) (iA (cf x y)))(X Y n:Nat)(d:Array Item)(a b s:Nat)(hn:n=d.size)(ha:a<d.size)(hb:b<d.size)(hs:s<=1099511627776):Spec Tryz.prog 283 [.sl X 0 n,iA a,iA b,.ptr Y 0 0,.fn f cap] [(X,.row 71 3 (d.toList.map (AA false))),(Y,.row 3 1 [iA s])] λr S'=>r= .tup [iA (order2 (AJ cf) d a b s).1,iA (order2 (AJ cf) d a b s).2.1]/\S'=[(X,.row 71 3 (d.toList.map (AA false))),(Y,.row 3 1 [iA (order2 (AJ cf) d a b s).2.2])]:=by
 subst hn;have h1:=Af (AA false) ha;have h2:=Af (AA false) hb;have hl:=hcf (d[b]!) (d[a]!);refine Spec.of (nt:=32) (res:=[.tmp 10,.tmp 11]) Tryz.func283 rfl (by kernel_rfl) rfl rfl rfl λSf=>?_
 unfold order2;refine RG ?_;(repeat first|refine WO ?_|refine Ai λX=>?_|refine Ay λY=>?_);refine NL ?_;refine RU ?_;(repeat first|(refine RGo.gN ?_;first|(refine RGo.g_callv ?_;first|refine RGo.k2 (h:=(hl ..)) (k:=?_)))|(refine RGo.gQ ?_;first|(refine RGo.g_callv ?_;first|refine RGo.k2 (h:=(hl ..)) (k:=?_)))|refine RK ?_|refine RGo.nil (by kernel_rfl) ?_);(repeat refine WF ?_);refine AWP.cond rfl (λhc=>?_) (λhc=>?_)
 ·have hc:(AJ cf) d[b]! d[a]! =true:=by simpa[AJ]using hc
  rw[if_pos hc];(repeat first|refine WK ?_|refine Ai λX=>?_|refine Ay λY=>?_);refine RT ?_;exact AS [iA b,iA a] [(X,_),(Y,_)] ⟨rfl,rfl⟩
 ·have hc:(AJ cf) d[b]! d[a]! =false:=by simpa[AJ]using hc
  rw[if_neg (by simp[hc])];(repeat first|refine WK ?_|refine Ai λX=>?_|refine Ay λY=>?_);refine RT ?_;exact AS [iA a,iA b] [(X,_),(Y,_)] ⟨rfl,rfl⟩
set_option maxHeartbeats 1000000 in
theorem IH(f:FuncId)(cap:List AV)(cf:Item->Item->Int)(hst:Bs cap=true)(hcf:∀x y,PS Tryz.prog f ((AA false) x::(AA false) y::cap) (iA (cf x y)))(X Y n:Nat)(d:Array Item)(a b c s:Nat)(hn:n=d.size)(ha:a<d.size)(hb:b<d.size)(hc:c<d.size)(hs:s<=1099511627000):Spec Tryz.prog 266 [.sl X 0 n,iA a,iA b,iA c,.ptr Y 0 0,.fn f cap] [(X,.row 71 3 (d.toList.map (AA false))),(Y,.row 3 1 [iA s])] λr S'=>r=iA (median (AJ cf) d a b c s).1/\S'=[(X,.row 71 3 (d.toList.map (AA false))),(Y,.row 3 1 [iA (median (AJ cf) d a b c s).2])]:=by
 obtain⟨m,hm⟩:∃m,median (AJ cf) d a b c s=m:=⟨_,rfl⟩;rw[hm];unfold median at hm;have l1:=Gg (AJ cf) d a b s _ ha hb;have e1:=ER (AJ cf) d a b s;have h1:=Fq f cap cf hst hcf X Y n d a b s hn ha hb (by omega);obtain⟨⟨a1,b1,s1⟩,hr1⟩:∃r,order2 (AJ cf) d a b s=r:=⟨_,rfl⟩;rw[hr1]at h1 hm l1 e1;dsimp only at h1 hm l1 e1;have l2:=Gg (AJ cf) d b1 c s1 _ l1.2 hc;have e2:=ER (AJ cf) d b1 c s1;have h2:=Fq f cap cf hst hcf X Y n d b1 c s1 hn l1.2 hc (by omega);obtain⟨⟨b2,c2,s2⟩,hr2⟩:∃r,order2 (AJ cf) d b1 c s1=r:=⟨_,rfl⟩;rw[hr2]at h2 hm l2 e2;dsimp only at h2 hm l2 e2;have l3:=Gg (AJ cf) d a1 b2 s2 _ l1.1 l2.1;have h3:=Fq f cap cf hst hcf X Y n d a1 b2 s2 hn l1.1 l2.1 (by omega);obtain⟨⟨a3,b3,s3⟩,hr3⟩:∃r,order2 (AJ cf) d a1 b2 s2=r:=⟨_,rfl⟩;rw[hr3]at h3 hm l3;dsimp only at h3 hm l3;subst hm;refine Spec.of (nt:=41) (res:=[.tmp 12]) Tryz.func266 rfl (by kernel_rfl) rfl rfl rfl λSf=>?_
 (repeat first|(refine AOps.gN ?_;first|(refine AOps.g_callf ?_;first|refine Kv (h:=h1) (hT:=.fz) (k:=?_)|refine Kv (h:=h2) (hT:=.fz) (k:=?_)|refine Kv (h:=h3) (hT:=.fz) (k:=?_)))|refine WK ?_|refine Ai λX=>?_|refine Ay λY=>?_);refine RT ?_;exact AS [iA b3] [(X,_),(Y,_)] ⟨rfl,rfl⟩
set_option maxHeartbeats 1000000 in
theorem Fr(f:FuncId)(cap:List AV)(cf:Item->Item->Int)(hst:Bs cap=true)(hcf:∀x y,PS Tryz.prog f ((AA false) x::(AA false) y::cap) (iA (cf x y)))(X Y n:Nat)(d:Array Item)(a s:Nat)(hn:n=d.size)(ha:a+1<d.size)(h0:0<a)(hz:d.size<=1099511627776)(hs:s<=1099511627000):Spec Tryz.prog 265 [.sl X 0 n,iA a,.ptr Y 0 0,.fn f cap] [(X,.row 71 3 (d.toList.map (AA false))),(Y,.row 3 1 [iA s])] λr S'=>r=iA (medianAdjacent (AJ cf) d a s).1/\S'=[(X,.row 71 3 (d.toList.map (AA false))),(Y,.row 3 1 [iA (medianAdjacent (AJ cf) d a s).2])]:=by
 have h1:=IH f cap cf hst hcf X Y n d (a-1) a (a+1) s hn (by omega) (by omega) ha hs;unfold medianAdjacent;refine Spec.of (nt:=18) (res:=[.tmp 8]) Tryz.func265 rfl (by kernel_rfl) rfl rfl rfl λSf=>?_
 (repeat first|(refine AOps.gN ?_;first|(refine AOps.g_callf ?_;first|refine Nz (h:=h1) (hT:=.fz) (k:=?_))|refine AOps.p (AY ((a-1:Nat):Int) (by omega) (by omega) rfl rfl) rfl ?_|refine AOps.p (Aq ((a+1:Nat):Int) (by omega) (by omega) rfl rfl) rfl ?_)|refine WK ?_|refine Ai λX=>?_|refine Ay λY=>?_);refine RT ?_;exact AS [iA _] [(X,_),(Y,_)] ⟨rfl,rfl⟩
set_option maxHeartbeats 1000000 in
theorem Hi(f:FuncId)(cap:List AV)(cf:Item->Item->Int)(hst:Bs cap=true)(hcf:∀x y,PS Tryz.prog f ((AA false) x::(AA false) y::cap) (iA (cf x y)))(X n:Nat)(d:Array Item)(a b:Nat)(hn:n=d.size)(hab:a<b)(hb:b<=d.size)(hz:d.size<=1099511627776):PO Tryz.prog 215 [.sl X 0 n,iA a,iA b,.fn f cap] X (.row 71 3 (d.toList.map (AA false))) (.tup [iA (choosePivot (AJ cf) d a b).1,iA (Rl (choosePivot (AJ cf) d a b).2)]) (.row 71 3 (d.toList.map (AA false))):=by
 obtain⟨c,hc⟩:∃c,choosePivot (AJ cf) d a b=c:=⟨_,rfl⟩;rw[hc];unfold choosePivot at hc;obtain⟨l,hl⟩:∃l,b-a=l:=⟨_,rfl⟩;obtain⟨i,hi⟩:∃i,a+l/4*1=i:=⟨_,rfl⟩;obtain⟨j,hj⟩:∃i,a+l/4*2=i:=⟨_,rfl⟩;obtain⟨k,hk⟩:∃i,a+l/4*3=i:=⟨_,rfl⟩;rw[hl]at hc;dsimp only at hc;rw[hi,hj,hk]at hc;refine Spec.of (nt:=63) (res:=[.tmp 8,.tmp 9]) Tryz.func215 rfl (by kernel_rfl) rfl rfl rfl λSf=>?_
 have hlb:l<=1099511627776:=by omega
 (repeat first|(refine AOps.gN ?_;first|refine AOps.p (AY (l:Int) (by omega) (by omega) rfl rfl) rfl ?_|refine AOps.p (I4 l 4 (l/4) rfl rfl (by omega) rfl (by omega) rfl rfl) rfl ?_|refine AOps.p (G9 ((l/4*1:Nat):Int) (by omega) (by omega) rfl rfl) rfl ?_|refine AOps.p (G9 ((l/4*2:Nat):Int) (by omega) (by omega) rfl rfl) rfl ?_|refine AOps.p (G9 ((l/4*3:Nat):Int) (by omega) (by omega) rfl rfl) rfl ?_|refine AOps.p (Aq (i:Int) (by omega) (by omega) rfl rfl) rfl ?_|refine AOps.p (Aq (j:Int) (by omega) (by omega) rfl rfl) rfl ?_|refine AOps.p (Aq (k:Int) (by omega) (by omega) rfl rfl) rfl ?_)|refine WK ?_|refine Ai λV=>?_|refine Ay λY=>?_);refine BD (λb:Nat×Nat=>c=(b.1,if b.2=0 then Hint.increasing else if b.2=12 then Hint.decreasing else Hint.unknown)) (λb=>⟨[(0,.sl X 0 n),(3,.fn f cap),(11,.ptr V 0 0),(13,iA b.1)],(V,.row 3 1 [iA b.2])::(X,.row 71 3 (d.toList.map (AA false)))::Sf⟩) ?_ ?_
 ·refine AWP.cond rfl (λh8=>?_) (λh8=>?_)
  ·have h8:l>=8:=by have:=of_decide_eq_true h8;omega
   rw[if_pos h8]at hc;(repeat first|refine WK ?_|refine Ai λX=>?_|refine Ay λY=>?_);refine BD (λb:Nat×Nat×Nat×Nat=>b.1<d.size/\b.2.1<d.size/\b.2.2.1<d.size/\b.2.2.2<=100/\(if l>=50 then median (AJ cf) d (medianAdjacent (AJ cf) d i 0).1 (medianAdjacent (AJ cf) d j (medianAdjacent (AJ cf) d i 0).2).1 (medianAdjacent (AJ cf) d k (medianAdjacent (AJ cf) d j (medianAdjacent (AJ cf) d i 0).2).2).1 (medianAdjacent (AJ cf) d k (medianAdjacent (AJ cf) d j (medianAdjacent (AJ cf) d i 0).2).2).2 else median (AJ cf) d i j k 0)=median (AJ cf) d b.1 b.2.1 b.2.2.1 b.2.2.2) (λb=>⟨[(0,.sl X 0 n),(3,.fn f cap),(11,.ptr V 0 0),(12,iA b.1),(13,iA b.2.1),(14,iA b.2.2.1)],(V,.row 3 1 [iA b.2.2.2])::(X,.row 71 3 (d.toList.map (AA false)))::Sf⟩) ?_ ?_
   ·refine AWP.cond rfl (λh50=>?_) (λh50=>?_)
    ·have h50:l>=50:=by have:=of_decide_eq_true h50;omega
     have a1:=Gi (AJ cf) d i 0 _ (show i+1<d.size by omega);have b1:=Gh (AJ cf) d (i-1) i (i+1) 0;have s1:=Fr f cap cf hst hcf X V n d i 0 hn (by omega) (by omega) hz (by omega);rw[if_pos h50];have e1:(median (AJ cf) d (i-1) i (i+1) 0).2=(medianAdjacent (AJ cf) d i 0).2:=rfl;rw[e1]at b1;obtain⟨⟨p1,q1⟩,r1⟩:∃r,medianAdjacent (AJ cf) d i 0=r:=⟨_,rfl⟩;rw[r1]at a1 b1 s1⊢;dsimp only at a1 b1 s1⊢;have a2:=Gi (AJ cf) d j q1 _ (show j+1<d.size by omega);have b2:=Gh (AJ cf) d (j-1) j (j+1) q1;have s2:=Fr f cap cf hst hcf X V n d j q1 hn (by omega) (by omega) hz (by omega);have e2:(median (AJ cf) d (j-1) j (j+1) q1).2=(medianAdjacent (AJ cf) d j q1).2:=rfl;rw[e2]at b2;obtain⟨⟨p2,q2⟩,r2⟩:∃r,medianAdjacent (AJ cf) d j q1=r:=⟨_,rfl⟩;rw[r2]at a2 b2 s2⊢;dsimp only at a2 b2 s2⊢;have a3:=Gi (AJ cf) d k q2 _ (show k+1<d.size by omega);have b3:=Gh (AJ cf) d (k-1) k (k+1) q2;have s3:=Fr f cap cf hst hcf X V n d k q2 hn (by omega) (by omega) hz (by omega);have e3:(median (AJ cf) d (k-1) k (k+1) q2).2=(medianAdjacent (AJ cf) d k q2).2:=rfl;rw[e3]at b3;obtain⟨⟨p3,q3⟩,r3⟩:∃r,medianAdjacent (AJ cf) d k q2=r:=⟨_,rfl⟩;rw[r3]at a3 b3 s3⊢;dsimp only at a3 b3 s3⊢;(repeat first|(refine AOps.gN ?_;first|(refine AOps.g_callf ?_;first|refine Kw (h:=s1) (hT:=.fz) (k:=?_)|refine Kw (h:=s2) (hT:=.fz) (k:=?_)|refine Kw (h:=s3) (hT:=.fz) (k:=?_)))|refine WK ?_|refine Ai λX=>?_|refine Ay λY=>?_);refine jn (p1,p2,p3,q3) ⟨a1,a2,a3,by dsimp only;omega,rfl⟩
    ·have h50:¬l>=50:=by have:=of_decide_eq_false h50;omega
     rw[if_neg h50];(repeat first|refine WK ?_|refine Ai λX=>?_|refine Ay λY=>?_);refine jn (i,j,k,0) ⟨by dsimp only;omega,by dsimp only;omega,by dsimp only;omega,by dsimp only;omega,rfl⟩
   ·rintro⟨p1,p2,p3,q⟩ ⟨l1,l2,l3,lq,e⟩
    dsimp only at l1 l2 l3 lq e⊢;rw[e]at hc;have h1:=IH f cap cf hst hcf X V n d p1 p2 p3 q hn l1 l2 l3 (by omega);obtain⟨⟨r1,r2⟩,hr⟩:∃r,median (AJ cf) d p1 p2 p3 q=r:=⟨_,rfl⟩;rw[hr]at hc h1;dsimp only at h1;(repeat first|(refine AOps.gN ?_;first|(refine AOps.g_callf ?_;first|refine Nz (h:=h1) (hT:=.fz) (k:=?_)))|refine WK ?_|refine Ai λX=>?_|refine Ay λY=>?_);refine jn (r1,r2) hc.symm
  ·have h8:¬l>=8:=by have:=of_decide_eq_false h8;omega
   rw[if_neg h8]at hc;(repeat first|refine WK ?_|refine Ai λX=>?_|refine Ay λY=>?_);refine jn (j,0) hc.symm
 ·rintro⟨p,s⟩ hc
  dsimp only at hc⊢;subst hc;(repeat first|refine WK ?_|refine Ai λX=>?_|refine Ay λY=>?_);refine AWP.cond rfl (λh0=>?_) (λh0=>?_)
  ·have h0:s=0:=by have:=of_decide_eq_true h0;omega
   rw[if_pos h0];(repeat first|refine WK ?_|refine Ai λX=>?_|refine Ay λY=>?_);refine RT ?_;exact AS [iA p,iA 1] [(X,_)] ⟨rfl,rfl⟩
  ·have h0:¬s=0:=by have:=of_decide_eq_false h0;omega
   rw[if_neg h0];(repeat first|refine WK ?_|refine Ai λX=>?_|refine Ay λY=>?_);refine AWP.cond rfl (λh1=>?_) (λh1=>?_)
   ·have h1:s=12:=by have:=of_decide_eq_true h1;omega
    rw[if_pos h1];(repeat first|refine WK ?_|refine Ai λX=>?_|refine Ay λY=>?_);refine RT ?_;exact AS [iA p,iA 2] [(X,_)] ⟨rfl,rfl⟩
   ·have h1:¬s=12:=by have:=of_decide_eq_false h1;omega
    rw[if_neg h1];(repeat first|refine WK ?_|refine Ai λX=>?_|refine Ay λY=>?_);refine RT ?_;exact AS [iA p,iA 0] [(X,_)] ⟨rfl,rfl⟩
end
section
open Go.Sort
set_option maxHeartbeats 1000000 in
theorem Qq(f:FuncId)(cap:List AV)(cf:Item->Item->Int)(hst:Bs cap=true)(hcf:∀x y,PS Tryz.prog f ((AA false) x::(AA false) y::cap) (iA (cf x y)))(hS:SWO (AJ cf)):∀(m X n:Nat) (d:Array Item) (a b limit:Nat),b-a<=m->n=d.size->a<=b->b<=d.size->d.size<65536->limit<=1000->Below (AJ cf) a b d->Spec Tryz.prog 157 [.sl X 0 n,iA a,iA b,iA limit,.fn f cap] [(X,.row 71 3 (d.toList.map (AA false)))] λr S'=>∃u:Array Item,(PermIn a b d u/\SortedIn (AJ cf) a b u)/\r= .tup []/\S'=[(X,.row 71 3 (u.toList.map (AA false)))]:=by
 intro m
 induction m using Nat.strongRecOn with
 |_ m ih=>
 intro X n d a b limit hm hn hab hb hz hlim hB;refine Spec.of (nt:=148) (res:=[]) Tryz.func157 rfl (by kernel_rfl) rfl rfl rfl λSf=>?_
 (repeat first|refine WK ?_|refine Ai λX=>?_|refine Ay λY=>?_);refine Ra (λ(a b limit:Nat) (wb wp:Bool) (u:Array Item)=>⟨[(0,.sl X 0 n),(1,iA a),(2,iA b),(3,iA limit),(4,.fn f cap),(10,bA wb),(11,bA wp)],(X,.row 71 3 (u.toList.map (AA false)))::Sf⟩) (λa' b' limit wb wp u=>a' <=b' /\b' <=d.size/\b'-a' <=b-a/\limit<=1000/\u.size=d.size/\Below (AJ cf) a' b' u/\∀R,PermIn a' b' u R->SortedIn (AJ cf) a' b' R->PermIn a b d R/\SortedIn (AJ cf) a b R) (λa b _ _ _ _=>b-a) a b limit true true d ⟨hab,hb,Nat.le_refl _,hlim,rfl,hB,λR h1 h2=>⟨h1,h2⟩⟩ ?_;rintro a' b' limit wb wp u ⟨hab',hb',hmm,hlim,hu,hB',hG⟩;obtain⟨l,hl⟩:∃l,b'-a'=l:=⟨_,rfl⟩;refine AWP.block ?_;(repeat first|(refine AOps.gN ?_;first|refine AOps.p (AY ((l:Int)) (by omega) (by omega) rfl rfl) rfl ?_)|refine WK ?_|refine Ai λX=>?_|refine Ay λY=>?_);refine AWP.cond rfl (λhc=>?_) (λhc=>?_)
 ·have hs:=Q1 f cap cf hst hcf X n u a' b' (by omega) hab' (by omega) (by omega)
  obtain⟨p1,p2⟩:=insertionSort_holds (lt:=(AJ cf)) hS u a' b' hab' (by omega);(repeat first|(refine AOps.gN ?_;first|(refine AOps.g_callf ?_;first|refine FY (h:=(hs ..)) (k:=?_)))|refine WK ?_|refine Ai λX=>?_|refine Ay λY=>?_);refine RT ?_;exact BV [(X,_)] ⟨_,hG _ p1 p2,rfl,rfl⟩
 have hl12:12<l:=by have:=of_decide_eq_false hc;omega
 (repeat first|refine WK ?_|refine Ai λX=>?_|refine Ay λY=>?_);refine AWP.cond rfl (λhc=>?_) (λhc=>?_)
 ·have hs:=Po f cap cf hst hcf X n u a' b' (by omega) (by omega) (by omega) (by omega)
  obtain⟨p1,p2⟩:=heapSort_holds (lt:=(AJ cf)) hS u a' b' hab' (by omega);(repeat first|(refine AOps.gN ?_;first|(refine AOps.g_callf ?_;first|refine FY (h:=(hs ..)) (k:=?_)))|refine WK ?_|refine Ai λX=>?_|refine Ay λY=>?_);refine RT ?_;exact BV [(X,_)] ⟨_,hG _ p1 p2,rfl,rfl⟩
 have hl0:0<limit:=by have:=of_decide_eq_false hc;omega
 (repeat first|refine WK ?_|refine Ai λX=>?_|refine Ay λY=>?_);refine BD (λb:Nat×Array Item=>b.1<=1000/\PermIn a' b' u b.2) (λb=>⟨[(0,.sl X 0 n),(1,iA a'),(2,iA b'),(3,iA b.1),(4,.fn f cap),(10,bA wb),(11,bA wp),(12,iA l)],(X,.row 71 3 (b.2.toList.map (AA false)))::Sf⟩) ?_ ?_
 ·refine AWP.cond rfl (λhd=>?_) (λhd=>?_)
  ·have hs:=RN (f:=f) (cap:=cap) X n u a' b' (by omega) hab' (by omega) (by omega)
   (repeat first|(refine AOps.gN ?_;first|(refine AOps.g_callf ?_;first|refine QX (h:=hs) (k:=λv hv=>?_))|refine AOps.p (AY (((limit-1:Nat):Int)) (by omega) (by omega) rfl rfl) rfl ?_)|refine WK ?_|refine Ai λX=>?_|refine Ay λY=>?_);exact jn (limit-1,v) ⟨by dsimp only;omega,hv⟩
  ·(repeat first|refine WK ?_|refine Ai λX=>?_|refine Ay λY=>?_)
   exact jn (limit,u) ⟨hlim,permIn_refl _ _ _⟩
 rintro⟨lim1,u1⟩ ⟨hlim1,hP1⟩;dsimp only at hlim1 hP1⊢;have hu1:u1.size=d.size:=hP1.1.trans hu;have hpv:=Hi f cap cf hst hcf X n u1 a' b' (by omega) (by omega) (by omega) (by omega);obtain⟨c1,c2⟩:=choosePivot_holds (AJ cf) u1 a' b' (by omega);obtain⟨⟨p,h⟩,hp⟩:∃c,choosePivot (AJ cf) u1 a' b'=c:=⟨_,rfl⟩;rw[hp]at hpv c1 c2;dsimp only at hpv c1 c2;obtain⟨hnum,hhn⟩:∃hnum,Rl h=hnum:=⟨_,rfl⟩;rw[hhn]at hpv;(repeat first|(refine AOps.gN ?_;first|(refine AOps.g_callf ?_;first|refine FY (h:=(hpv ..)) (k:=?_)))|refine WK ?_|refine Ai λX=>?_|refine Ay λY=>?_);refine BD (λb:Nat×Int×Array Item=>a' <=b.1/\b.1<b' /\PermIn a' b' u b.2.2) (λb=>⟨[(0,.sl X 0 n),(1,iA a'),(2,iA b'),(3,iA lim1),(4,.fn f cap),(10,bA wb),(11,bA wp),(12,iA l),(13,iA b.1),(14,iA b.2.1)],(X,.row 71 3 (b.2.2.toList.map (AA false)))::Sf⟩) ?_ ?_
 ·refine AWP.cond rfl (λhd=>?_) (λhd=>?_)
  ·have hs:=Qh (f:=f) (cap:=cap) X n u1 a' b' (by omega) (by omega) (by omega) (by omega)
   have hrp:=reverseRange_holds u1 a' b' hab' (by omega);(repeat first|(refine AOps.gN ?_;first|(refine AOps.g_callf ?_;first|refine FY (h:=(hs ..)) (k:=?_))|refine AOps.p (AY (((b'-1:Nat):Int)) (by omega) (by omega) rfl rfl) rfl ?_|refine AOps.p (AY (((p-a':Nat):Int)) (by omega) (by omega) rfl rfl) rfl ?_|refine AOps.p (AY (((b'-1-(p-a'):Nat):Int)) (by omega) (by omega) rfl rfl) rfl ?_)|refine WK ?_|refine Ai λX=>?_|refine Ay λY=>?_);exact jn (b'-1-(p-a'),1,_) ⟨by dsimp only;omega,by dsimp only;omega,permIn_trans _ _ _ _ _ hP1 hrp⟩
  ·(repeat first|refine WK ?_|refine Ai λX=>?_|refine Ay λY=>?_)
   exact jn (p,hnum,u1) ⟨c1,c2,hP1⟩
 rintro⟨pv,hn2,u2⟩ ⟨c3,c4,hP2⟩;dsimp only at c3 c4 hP2⊢;have hu2:u2.size=d.size:=hP2.1.trans hu;have hB2:=hB'.perm (by omega) hP2;clear hpv hp hhn c1 c2 p h hnum;refine AWP.seq ?_;refine HG (λv:Array Item=>PermIn a' b' u v) (λv=>⟨[(0,.sl X 0 n),(1,iA a'),(2,iA b'),(3,iA lim1),(4,.fn f cap),(10,bA wb),(11,bA wp),(12,iA l),(13,iA pv)],(X,.row 71 3 (v.toList.map (AA false)))::Sf⟩) ?_ ?_
 ·(repeat first|refine WK ?_|refine Ai λX=>?_|refine Ay λY=>?_)
  refine AWP.cond rfl (λ_=>?_) (λ_=>?_)
  ·have hs:=PK f cap cf hst hcf X n u2 a' b' (by omega) (by omega) (by omega) (by omega)
   have hpi:=partialInsertionSort_holds (lt:=(AJ cf)) hS u2 a' b' (by omega) (by omega) hB2;obtain⟨⟨v,fl⟩,hv⟩:∃v,partialInsertionSort (AJ cf) u2 a' b'=v:=⟨_,rfl⟩;rw[hv]at hs hpi;dsimp only at hs hpi;(repeat first|(refine AOps.gN ?_;first|(refine AOps.g_callf ?_;first|refine FY (h:=(hs ..)) (k:=?_)))|refine WK ?_|refine Ai λX=>?_|refine Ay λY=>?_);refine AWP.cond rfl (λhe=>?_) (λhe=>?_)
   ·refine RT ?_
    exact BV [(X,_)] ⟨v,hG v (permIn_trans _ _ _ _ _ hP2 hpi.1) (hpi.2 he),rfl,rfl⟩
   ·(repeat first|refine WK ?_|refine Ai λX=>?_|refine Ay λY=>?_)
    exact jnR v (permIn_trans _ _ _ _ _ hP2 hpi.1)
  ·(repeat first|refine WK ?_|refine Ai λX=>?_|refine Ay λY=>?_)
   exact jnR u2 hP2
 rintro u3 hP3;have hu3:u3.size=d.size:=hP3.1.trans hu;have hB3:=hB'.perm (by omega) hP3;have hg3:∀R,PermIn a' b' u3 R->SortedIn (AJ cf) a' b' R->PermIn a b d R/\SortedIn (AJ cf) a b R:=λR h1 h2=>hG R (permIn_trans _ _ _ _ _ hP3 h1) h2
 clear hB2 hP2 hu2 u2 hP1 hu1 u1 hG hB' hn2;refine AWP.seq ?_;refine HG (λ_:Unit=>True) (λ_=>⟨[(0,.sl X 0 n),(1,iA a'),(2,iA b'),(3,iA lim1),(4,.fn f cap),(10,bA wb),(11,bA wp),(12,iA l),(13,iA pv)],(X,.row 71 3 (u3.toList.map (AA false)))::Sf⟩) ?_ ?_
 ·rcases Bool.eq_false_or_eq_true (decide ((0:Int)<(a':Int)))with g|g
  ·have hg:0<a':=by have:=of_decide_eq_true g;omega
   have h1:=Af (AA false) (d:=u3) (i:=a'-1) (by omega);have h2:=Af (AA false) (d:=u3) (i:=pv) (by omega);have hl2:=hcf (u3[a'-1]!) (u3[pv]!);(repeat refine WF ?_);refine RU ?_;(repeat first|(refine RGo.gN ?_;first|(refine RGo.g_callv ?_;first|refine RGo.k2 (h:=(hl2 ..)) (k:=?_))|refine RGo.go (h:=AY (((a'-1:Nat):Int)) (by omega) (by omega) rfl rfl) (k:=?_))|(refine RGo.gQ ?_;first|(refine RGo.g_callv ?_;first|refine RGo.k2 (h:=(hl2 ..)) (k:=?_))|refine RGo.go (h:=AY (((a'-1:Nat):Int)) (by omega) (by omega) rfl rfl) (k:=?_))|refine RK ?_|refine RGo.nil (by kernel_rfl) ?_);(repeat refine WF ?_);refine AWP.cond rfl (λhd=>?_) (λhd=>?_)
   ·have hd:(!(AJ cf) u3[a'-1]! u3[pv]!)=true:=by simpa[g,AJ]using hd
    have hd:(AJ cf) u3[a'-1]! u3[pv]! =false:=by simpa[AJ]using hd
    have hs:=Qp f cap cf hst hcf X n u3 a' b' pv (by omega) c3 c4 (by omega) (by omega);obtain⟨⟨mid,d4⟩,hx⟩:∃x,partitionEqual (AJ cf) u3 a' b' pv=x:=⟨_,rfl⟩;rw[hx]at hs;dsimp only at hs;obtain⟨q1,q2,q3,q4,q5⟩:=round_eq (lt:=(AJ cf)) hS (partitionEqual_holds (AJ cf)) hg c3 c4 (by omega) hB3 hd hx;(repeat first|(refine AOps.gN ?_;first|(refine AOps.g_callf ?_;first|refine Gd (h:=(hs ..)) (k:=?_)))|refine WK ?_|refine Ai λX=>?_|refine Ay λY=>?_);refine IK mid b' lim1 wb wp d4 ⟨q2,hb',by omega,hlim1,q3.trans hu3,q4,λR k1 k2=>?_⟩;obtain⟨k3,k4⟩:=q5 R k1 k2;exact hg3 R k3 k4
   ·(repeat first|refine WK ?_|refine Ai λX=>?_|refine Ay λY=>?_)
    exact jnR () trivial
  ·(repeat refine WF ?_)
   refine RU ?_;(repeat first|refine RK ?_|refine RGo.nil (by kernel_rfl) ?_);(repeat refine WF ?_);refine AE rfl (by simp[g]) ?_;(repeat first|refine WK ?_|refine Ai λX=>?_|refine Ay λY=>?_);exact jnR () trivial
 rintro _ _;have hs:=PR f cap cf hst hcf X n u3 a' b' pv (by omega) c3 c4 (by omega) (by omega);obtain⟨⟨mid,ap,d4⟩,hx⟩:∃x,partition (AJ cf) u3 a' b' pv=x:=⟨_,rfl⟩;rw[hx]at hs;dsimp only at hs;obtain⟨r1,r2,r3,r4,r5,r6,r7⟩:=round_part (lt:=(AJ cf)) hS (partition_holds (AJ cf)) c3 c4 (by omega) hB3 hx;(repeat first|(refine AOps.gN ?_;first|(refine AOps.g_callf ?_;first|refine Gd (h:=(hs ..)) (k:=?_))|refine AOps.p (AY (((mid-a':Nat):Int)) (by omega) (by omega) rfl rfl) rfl ?_|refine AOps.p (AY (((b'-mid:Nat):Int)) (by omega) (by omega) rfl rfl) rfl ?_|refine AOps.p (I4 l 8 (l/8) rfl rfl (by omega) rfl (by omega) rfl rfl) rfl ?_)|refine WK ?_|refine Ai λX=>?_|refine Ay λY=>?_);refine AWP.cond rfl (λhd=>?_) (λhd=>?_)
 ·have hrec:=ih (mid-a') (by omega) X n d4 a' mid lim1 (Nat.le_refl _) (by omega) r1 (by omega) (by omega) hlim1 r4
  (repeat first|(refine AOps.gN ?_;first|(refine AOps.g_callf ?_;first|refine ML (h:=hrec) (k:=λv hv=>?_))|refine AOps.p (Aq (((mid+1:Nat):Int)) (by omega) (by omega) rfl rfl) rfl ?_)|refine WK ?_|refine Ai λX=>?_|refine Ay λY=>?_);obtain⟨v1,v2⟩:=hv;obtain⟨s1,s2⟩:=r6 v v1 v2;refine IK (mid+1) b' lim1 _ ap v ⟨by omega,hb',by omega,hlim1,v1.1.trans (r3.trans hu3),s1,λR k1 k2=>?_⟩;obtain⟨k3,k4⟩:=s2 R k1 k2;exact hg3 R k3 k4
 ·have hrec:=ih (b'-(mid+1)) (by omega) X n d4 (mid+1) b' lim1 (Nat.le_refl _) (by omega) (by omega) (by omega) (by omega) hlim1 r5
  (repeat first|(refine AOps.gN ?_;first|(refine AOps.g_callf ?_;first|refine ML (h:=hrec) (k:=λv hv=>?_))|refine AOps.p (Aq (((mid+1:Nat):Int)) (by omega) (by omega) rfl rfl) rfl ?_)|refine WK ?_|refine Ai λX=>?_|refine Ay λY=>?_);obtain⟨v1,v2⟩:=hv;obtain⟨s1,s2⟩:=r7 v v1 v2;refine IK a' mid lim1 _ ap v ⟨by omega,by omega,by omega,hlim1,v1.1.trans (r3.trans hu3),s1,λR k1 k2=>?_⟩;obtain⟨k3,k4⟩:=s2 R k1 k2;exact hg3 R k3 k4
end
section
open Go.Sort
set_option maxRecDepth 8000 in
theorem KM(f:FuncId)(cap:List AV)(cf:Item->Item->Int)(hst:Bs cap=true)(hS:SWO (AJ cf))(hf:∀x y,PS Tryz.prog f (AA false x::AA false y::cap) (iA (cf x y)))(X n:Nat)(l:List Item)(hn:n=l.length)(hlt:l.length<65536):
  Spec Tryz.prog 76 [.sl X 0 n,.fn f cap] [(X,.row 71 3 (l.map (AA false)))] λr S'=>∃u:List Item,(u.Perm l/\u.Pairwise λa b=>AJ cf b a=false)/\r= .tup []/\S'=[(X,.row 71 3 (u.map (AA false)))]:=by
 have e1:(UInt64.ofNat n).toNat=n:=by rw[UInt64.toNat_ofNat'];omega
 have hlen:=Mm (UInt64.ofNat n) (by rw[e1];omega);rw[e1]at hlen;have hsz:l.toArray.size=l.length:=by simp
 have hb:bitsLen n<=1000:=Nat.le_trans ((bitsLen_le_iff n 16).2 (by show n<65536;omega)) (by decide);have hs:=Qq f cap cf hst hf hS n X n l.toArray 0 n (bitsLen n) (by omega) (by omega) (Nat.zero_le _) (by omega) (by omega) hb (.inl rfl);simp only[List.toList_toArray]at hs;refine Spec.of (nt:=14) (res:=[]) Tryz.func76 rfl (by kernel_rfl) rfl rfl rfl λSf=>?_
 (repeat first|(refine AOps.gN ?_;first|(refine AOps.g_callf ?_;first|refine AOps.c1 (h:=(hlen ..)) (k:=?_))|refine Rf [] (h:=hs) (λu hu=>?_)|refine AOps.p (Ko .i64 n rfl (by omega) (by kernel_rfl) (by kernel_rfl) rfl) rfl ?_)|refine WK ?_|refine Ai λX=>?_|refine Ay λY=>?_);refine Dw ?_;obtain⟨h1,h2⟩:=hu;have h1':PermIn 0 l.toArray.size l.toArray u:=by rw[hsz,<-hn];exact h1
 have hus:n=u.size:=by rw[h1'.1,hsz];exact hn
 exact BV [(X,_)] ⟨u.toList,⟨by simpa using HL h1',Fb hus h2⟩,rfl,rfl⟩
end
theorem N4(x y:Item):PS Tryz.prog 77 [AA false x,AA false y] (iA (CH x.ent.n y.ent.n)):=by
 have h:=D6 x.ent.n y.ent.n;obtain⟨⟨xn,xg⟩,xc⟩:=x;obtain⟨⟨yn,yg⟩,yc⟩:=y;refine Spec.of (nt:=12) (res:=[.tmp 4]) Tryz.func77 rfl (by kernel_rfl) rfl rfl rfl λSf=>?_
 refine RG ?_;(repeat first|(refine AOps.gN ?_;first|(refine AOps.g_box ?_;refine Aw ?_))|refine WO ?_|refine Ai λX=>?_|refine Ay λY=>?_);refine NL ?_;refine FL ?_;refine RG ?_;(repeat first|(refine AOps.gN ?_;first|(refine AOps.g_callf ?_;first|refine AOps.c2 (h:=(h ..)) (k:=?_)))|refine WO ?_|refine Ai λX=>?_|refine Ay λY=>?_);refine NL ?_;refine RT ?_;refine AI ?_;rfl
theorem QR{P:Program}{ty:TypeId}{pos:String}{after:Array Edge}{dst:Option Tmp}{c:Option (List Bool)}{g:Option (Nat×Bool)}{T:List (Nat×AV)}{S:List AB}{x0:Operand}{v0:AV}{f:FuncId}{ats:Array TypeId}{r v:AV}[hf:Frz r v](h0:Rd c T x0 v0)(h:PS P f [v0] r)(ht:Ac [(x0,v0)]=true):Stp c P ⟨dst,.call ⟨.value (.func f),#[x0],ats⟩,ty,pos,after,g⟩ T S [(x0,v0)] [] v []:=hf.h▸W.call1 h0 h ht
theorem Hz(t:Tab):(BX t).length=t.es.length:=List.length_map _
theorem OH{t:Tab}{i:Nat}(h:i<t.es.length):(BX t)[i]?=some ⟨t.es[i].2,AK t t.es[i].1⟩:=by
 rw[BX,List.getElem?_map,List.getElem?_eq_getElem h];rfl
set_option maxRecDepth 8000 in
set_option maxHeartbeats 4000000 in
theorem NH(a:Ar)(ha:ArOK a)(hne:Dl a.ts)(hk16:a.kinds.length<=16)(hkf:∀k∈a.kinds,k.fields.length<=8)(hgl:a.gens.length<=256)(hcv:∀it∈AU a.ts,CsL it.comps):
  Spec Tryz.prog 22 [.ptr a.A 0 0] (arS a) λr S'=>∃L:List Item,(L.Perm (AU a.ts)/\L.Pairwise λx y=>x.ent.n<=y.ent.n)/\r=wdA false ⟨a.kinds,a.gens,L⟩/\S'=arS a:=by
 have hkp:=E1 a.kinds (by omega) (λk hk=>by have:=hkf k hk;omega);have hcl:=Iv a.G a.gens a.gens.length rfl (by omega);have htl:=ha.ts_le hne;have hpt:(ptrs Tab.X a.ts).length=a.ts.length:=List.length_map _;refine Spec.of (nt:=51) (res:=[.cell 2 26]) Tryz.func22 rfl (by kernel_rfl) rfl rfl rfl λSf=>?_
 refine RG ?_;(repeat first|refine WO ?_|refine Ai λZ=>?_|refine Ay λY=>?_);refine NL ?_;refine FL ?_;refine AWP.rs λV=>?_
 refine RU ?_;(repeat first|(refine RGo.gN ?_;first|(refine RGo.g_callf ?_;first|refine RGo.c1 (h:=(hkp ..)) (k:=?_)|refine E9 (h:=hcl) (hT:=.fz) (k:=?_)))|(refine RGo.gQ ?_;first|(refine RGo.g_callf ?_;first|refine RGo.c1 (h:=(hkp ..)) (k:=?_)|refine E9 (h:=hcl) (hT:=.fz) (k:=?_)))|refine RK ?_|refine RGo.nil (by kernel_rfl) ?_);refine FL ?_;refine AWP.adoptIn (Y:=V) 71 3 (by exact At.f) (λI=>.cons (.agg (.cons .same (.cons .same (.cons (.base .nil) .nil)))) .nil) λI=>?_
 refine RG ?_;(repeat first|refine WO ?_|refine Ai λX=>?_|refine Ay λY=>?_);refine NL ?_;refine FL ?_;refine DQ (λ(j I:Nat) (its:List Item)=>⟨[(2,.ptr Z 0 0),(3,.ptr V 0 0),(22,.sl a.Tb 0 a.ts.length),(23,iA (a.ts.length:Nat)),(24,iA j)],(I,.row 71 3 (its.map (AA false)))::(V,.row 26 3 [.agg [Ak false false a.kinds,AR false a.gens,.sl I 0 its.length]])::(Z,.row 26 3 [.agg [.prim (.slice none 0 0),.prim (.slice none 0 0),.prim (.slice none 0 0)]])::(arS a++Sf)⟩) (λj _ its=>j<=a.ts.length/\its=AU (a.ts.take j)) (λj _ _=>a.ts.length-j) 0 I [] ⟨by omega,rfl⟩ ?_;rintro j I its ⟨hj,hits⟩;refine RG ?_;(repeat first|refine WO ?_|refine Ai λX=>?_|refine Ay λY=>?_);refine NL ?_;refine FL ?_;refine AWP.cond rfl (λh=>?_) (λh=>?_)
 ·have h:j<a.ts.length:=by rw[decide_eq_true_eq]at h;omega
  obtain⟨l1,l2,hsp,hl1⟩:=EP h;have htm:=List.getElem_mem h;have hto:=ha.tab _ htm;have hten:=ha.ent _ htm;have hat:(ptrs Tab.X a.ts)[j]?=some (.ptr a.ts[j].X 0 0):=Aj _ h
  have hnext:AU (a.ts.take (j+1))=its++BX a.ts[j]:=by
   rw[List.take_succ_eq_append_getElem h,BW,<-hits,Ba];simp[AU]
  have hcvt:∀it∈BX a.ts[j],CsL it.comps:=λit hi=>hcv it (List.mem_flatMap.2 ⟨_,htm,hi⟩)
  have hbnd:its.length+(BX a.ts[j]).length<=256:=by
   have h1:=ha.c_le;rw[ha.cnt,ha.keys_items,List.length_map]at h1
   have h2:AU a.ts=its++BX a.ts[j]++AU l2:=by
    conv=>lhs;rw[hsp]
    rw[BW,Ba,hits,<-List.append_assoc]
    have:l1=a.ts.take j:=by
     have:=congrArg (List.take j) hsp;rw[List.take_left' hl1]at this;exact this.symm
    rw[this]
   rw[h2,List.length_append,List.length_append]at h1;omega
  obtain⟨t,ht⟩:∃t,a.ts[j]=t:=⟨_,rfl⟩;rw[ht]at hsp hto hten hat hnext hcvt hbnd;obtain⟨Z2,hZ2⟩:∃Z2,Au l1++(Au l2++Sf)=Z2:=⟨_,rfl⟩;have hop:=Ce (l1:=l1) (l2:=l2) (t:=t) Sf;rw[<-hsp,hZ2]at hop;refine FL ?_;refine RG ?_;(repeat first|(refine AOps.gN ?_;first|refine AOps.go (h:=W.idx rfl rfl (by exact At.f) rfl (by omega) (Nat.zero_add _)) (k:=?_))|refine WO ?_|refine Ai λP5=>?_|refine Ay λY=>?_);refine NL ?_;refine FL ?_;refine AWP.perm (S':=(I,.row 71 3 (its.map (AA false)))::(P5,.row 145 1 [.ptr t.X 0 0])::(V,.row 26 3 [.agg [Ak false false a.kinds,AR false a.gens,.sl I 0 its.length]])::(De t++((Z,.row 26 3 [.agg [.prim (.slice none 0 0),.prim (.slice none 0 0),.prim (.slice none 0 0)]])::(arH a++Z2)))) ?_ ?_
  ·refine(List.Perm.swap _ _ _).trans (List.Perm.cons _ (List.Perm.cons _ (List.Perm.cons _ ?_)))
   have h1:=hop.append_left ((Z,AO.row 26 3 [.agg [.prim (.slice none 0 0),.prim (.slice none 0 0),.prim (.slice none 0 0)]])::arH a);refine(List.Perm.of_eq ?_).trans (h1.trans (BY ((Z,AO.row 26 3 [.agg [.prim (.slice none 0 0),.prim (.slice none 0 0),.prim (.slice none 0 0)]])::arH a) (De t) Z2));rw[arS];simp only[List.cons_append,List.nil_append]
  have hal:=RQ t.ek t.es hto.es;have hI:=QI (AC t.es) (t.es.map (·.2)) (by simp) (by have:=hto.es.len;rw[List.length_map];omega);refine RG ?_;(repeat first|(refine AOps.gN ?_;first|refine N0 [_,_,_,_] (h:=hal) (k:=?_))|refine WO ?_|refine Ai λX=>?_|refine Ay λY=>?_);refine NL ?_;refine FL ?_;refine NQ (Sf:=(Z,.row 26 3 [.agg [.prim (.slice none 0 0),.prim (.slice none 0 0),.prim (.slice none 0 0)]])::(arH a++Z2)) hI (λb:Nat×List Item=>(b.1,AO.row 71 3 (b.2.map (AA false)))::(P5,.row 145 1 [.ptr t.X 0 0])::(V,.row 26 3 [.agg [Ak false false a.kinds,AR false a.gens,.sl b.1 0 b.2.length]])::De t) (λi b=>b.2=its++(BX t).take i) (I,its) (by simp) ?_ ?_ rfl rfl rfl ?_ ?_
  ·rintro i vs ⟨I,is⟩ l F1 F2 hi hb
   dsimp only at hb
   have hn:i<t.es.length:=by
    have:=(List.getElem?_eq_some_iff.1 hi).1;simpa using this
   have hiv:[iA t.es[i].1,AZ t.es[i].2]=vs:=by
    rw[List.getElem?_map,List.getElem?_eq_getElem (by simpa using hn),List.getElem_zip]at hi;simpa using hi
   subst hiv;have hem:=List.getElem_mem hn;have hnk:t.es[i].1∈AC t.es:=List.mem_map.2 ⟨_,hem,rfl⟩;have hnl:=hto.es.lt _ hnk;have hcs:=L3 t t.es[i].1 hto (by constructor<;>omega) hnk;have hti:=OH hn;have hci:=hcvt _ (List.mem_of_getElem? hti);have hcc:=Di (AK t t.es[i].1) hci.1 hci.2;have hil:i<(BX t).length:=by rw[Hz];exact hn
   have hnx:is++[⟨t.es[i].2,AK t t.es[i].1⟩]=its++(BX t).take (i+1):=by
    rw[hb,List.take_add_one,hti,List.append_assoc];rfl
   have hisl:is.length<=256:=by rw[hb,List.length_append,List.length_take];omega
   obtain⟨⟨en,ee⟩,hee⟩:∃e,t.es[i]=e:=⟨_,rfl⟩;rw[hee]at hcs hcc hnx;rw[hee];dsimp only at hcs hcc hnx⊢;obtain⟨lc,hlc⟩:∃lc,AK t en=lc:=⟨_,rfl⟩;rw[hlc]at hcs hcc hnx;have hma:is.map (AA false)++[AA false ⟨ee,lc⟩]=(is++[(⟨ee,lc⟩:Item)]).map (AA false):=by rw[List.map_append];rfl
   have hml:is.length+[AA false ⟨ee,lc⟩].length=(is++[(⟨ee,lc⟩:Item)]).length:=by rw[List.length_append];rfl
   refine FL ?_;refine RG ?_;(repeat first|refine WO ?_|refine Ai λX=>?_|refine Ay λY=>?_);refine NL ?_;refine FL ?_;refine RG ?_;(repeat first|refine WO ?_|refine Ai λE7=>?_|refine Ay λY=>?_);refine NL ?_;refine⟨(E7,.row 32 2 [AZ ee])::(I,.row 71 3 (is.map (AA false)))::(P5,AO.row 145 1 [.ptr t.X 0 0])::(V,.row 26 3 [.agg [Ak false false a.kinds,AR false a.gens,.sl I 0 is.length]])::De t,.refl _,?_⟩;refine FL ?_;refine AWP.rs λY=>?_
   (repeat refine WF ?_);refine Es 5 (by kernel_rfl) (by kernel_rfl) ?_;refine RGoT.go ?_;refine RGoT.go ?_;refine RGoT.go ?_;refine RGoT.go ?_;refine RGoT.go ?_;refine RGoT.callK (xs:=[(.tmp 38,.ptr t.X 0 0),(.tmp 39,iA en)]) (L:=[_,_,_,_,_]) (R:=F2) hcs (.fz (v:=Al false false lc)) rfl (Nat.le_refl 5) (.cons rfl (.cons rfl .nil)) rfl rfl ?_;refine RGoT.go (h:=QR (v:=Al false false lc) rfl hcc rfl) ?_;refine RGoT.go ?_;refine RGoT.go (v:=.lst false 71 3 [AA false ⟨ee,lc⟩]) (h:=W.litF1 (v0:=AA false ⟨ee,lc⟩) rfl rfl (.inl rfl) (by decide) (by decide) rfl) ?_;refine RGoT.goS (h:=W.app (X:=I) (Y:=Y) rfl rfl (by exact At.f) (by exact At.f) (by rw[List.length_map]) (by rw[List.length_map];show(is.length+1)*40<=_;omega) (by rw[List.length_map];unfold maxLen;show is.length+1<=_;omega) (by decide)) ?_;refine RGoT.go ?_;refine RGoT.goS ?_;refine RGoT.nil (by kernel_rfl) ?_;rw[hma,hml];refine⟨(Y,.row 71 3 ((is++[(⟨ee,lc⟩:Item)]).map (AA false)))::(P5,AO.row 145 1 [.ptr t.X 0 0])::(V,.row 26 3 [.agg [Ak false false a.kinds,AR false a.gens,.sl Y 0 (is++[(⟨ee,lc⟩:Item)]).length]])::De t,?_,(Y,is++[(⟨ee,lc⟩:Item)]),hnx,rfl⟩;exact .cons _ (.cons _ (.refl _))
  ·rintro⟨I,is⟩ hb
   dsimp only at hb;have hxl:((AC t.es).zip (t.es.map (·.2))).length=t.es.length:=by simp
   rw[List.length_map,hxl,<-Hz,List.take_length]at hb;refine FL ?_;refine AWP.perm (S':=(P5,.row 145 1 [.ptr t.X 0 0])::(I,.row 71 3 (is.map (AA false)))::(V,.row 26 3 [.agg [Ak false false a.kinds,AR false a.gens,.sl I 0 is.length]])::(Z,.row 26 3 [.agg [.prim (.slice none 0 0),.prim (.slice none 0 0),.prim (.slice none 0 0)]])::(arS a++Sf)) ?_ ?_
   ·refine(List.Perm.swap _ _ _).trans (List.Perm.cons _ (List.Perm.cons _ (List.Perm.cons _ ?_)))
    have h1:=hop.append_left ((Z,AO.row 26 3 [.agg [.prim (.slice none 0 0),.prim (.slice none 0 0),.prim (.slice none 0 0)]])::arH a);refine List.Perm.trans (BY (De t) ((Z,AO.row 26 3 [.agg [.prim (.slice none 0 0),.prim (.slice none 0 0),.prim (.slice none 0 0)]])::arH a) Z2) (h1.symm.trans (List.Perm.of_eq ?_));rw[arS];simp only[List.cons_append,List.nil_append]
   ·refine RG ?_;(repeat first|refine WO ?_|refine Ai λX=>?_|refine Ay λY=>?_);refine NL ?_
    exact B0 (j+1) I is ⟨by omega,by rw[hb,hnext]⟩ (by omega)
  ·intro vs hvs
   obtain⟨q,_,rfl⟩:=List.mem_map.1 hvs;rfl
  ·exact .refl _
 ·have h:j=a.ts.length:=by rw[decide_eq_false_iff_not]at h;omega
  subst h;rw[List.take_length]at hits
  have hilen:its.length<=256:=by
   have h1:=ha.c_le;rw[ha.cnt,ha.keys_items,List.length_map]at h1;rw[hits];omega
  have hso:=KM 77 [] (λx y=>CH x.ent.n y.ent.n) rfl (KL λx:Item=>x.ent.n) N4 I its.length its rfl (by omega);refine FL ?_;refine RG ?_;(repeat first|(refine AOps.gN ?_;first|refine Ht [] (h:=hso) (λu hu=>?_))|refine WO ?_|refine Ai λX=>?_|refine Ay λY=>?_);refine NL ?_;obtain⟨hu1,hu2⟩:=hu;have hul:=hu1.length_eq
  have hF:Ah (((u.map (AA false)).drop 0).take its.length)=u.map (AA false):=by
   rw[List.drop_zero,List.take_of_length_le (by rw[List.length_map];omega)];exact Frzs.h
  refine FL ?_;refine AWP.iceIn (X:=I) (Y:=V) .here (.next .here) rfl (.cons (.agg (.cons .same (.cons .same (.cons (.base (.sl (by rw[List.length_map];omega))) .nil)))) .nil) ?_;rw[hF];refine RG ?_;(repeat first|refine WO ?_|refine Ai λX=>?_|refine Ay λY=>?_);refine NL ?_;refine RT ?_
  exact AS [wdA false ⟨a.kinds,a.gens,u⟩] (arS a) ⟨u,⟨by rw[<-hits];exact hu1,hu2.imp λ{x y} h=>by
   simp only[AJ,decide_eq_false_iff_not,E3]at h;omega⟩,rfl,rfl⟩
abbrev QA(b:Bool)(l:List Bool):AV:=.lst b 4 1 (l.map bA)
theorem ArFor.sorted{a:Ar}{w:Wd}(h:ArFor a w){L:List Item}(hp:L.Perm (AU a.ts))(hs:L.Pairwise λx y=>x.ent.n<=y.ent.n):L=w.items:=by
 refine List.Perm.eq_of_pairwise (le:=λx y=>x.ent.n<=y.ent.n) (λx y hx hy h1 h2=>?_) hs (h.wok.so.imp λh=>by omega) (hp.trans h.items);exact GM (key:=λx:Item=>x.ent.n) h.wok.so ((hp.trans h.items).mem_iff.1 hx) hy (by omega)
theorem SV{d:List Bool}{i n:Nat}{b:Bool}(hd:d.length=i)(h:i<n):((d++List.replicate (n-i) false).map bA).set i (bA b)=((d++[b])++List.replicate (n-(i+1)) false).map bA:=by
 rw[<-List.map_set]
 congr 1
 rw[List.set_append_right _ _ (by omega),hd,Nat.sub_self,show n-i=(n-(i+1))+1 by omega,List.replicate_succ,List.set_cons_zero,List.append_assoc];rfl
structure CmdsL(ks:List Kind)(l:List Cmd):Prop where
 ok:∀c∈l,(CP ks c).2=0
 n:∀c∈l,I64 c.ent.n
 l:∀c∈l,c.comps.length<=1099511627776
theorem O2{w v:Wd}{l:List Cmd}{i:Nat}{c:Cmd}{es:List Ent}{ds:List Bool}(h:i<l.length)(hc:l[i]=c)(he:C0 w l=((C0 v (l.drop i)).1,es++(C0 v (l.drop i)).2.1,ds++(C0 v (l.drop i)).2.2)):
  C0 w l=((C0 (D8 v c).1 (l.drop (i+1))).1,(if(D8 v c).2.2=true/\c.act=3 then es++[(D8 v c).2.1]else es)++(C0 (D8 v c).1 (l.drop (i+1))).2.1,(ds++[(D8 v c).2.2])++(C0 (D8 v c).1 (l.drop (i+1))).2.2):=by
 rw[he,List.drop_eq_getElem_cons h,hc,C0];dsimp only;split
 ·simp
 ·simp
set_option maxRecDepth 8000 in
theorem Ot(w:Wd)(l:List Cmd)(hw:WdOK w)(h12:w.kinds.length<=12)(hl:l.length<=131072)(hc:CmdsL w.kinds l):PS Tryz.prog 163 [wdA false w,J5 false l] (.tup [wdA false (C0 w l).1,.lst true 32 2 ((C0 w l).2.1.map AZ),QA true (C0 w l).2.2]):=by
 have hof:=SF w hw;have hlm:(l.map CU).length=l.length:=List.length_map _;refine Spec.of (nt:=58) (res:=[.cell 4 26,.tmp 5,.tmp 6]) Tryz.func163 rfl (by kernel_rfl) rfl rfl rfl λSf=>?_
 refine RG ?_;(repeat first|(refine AOps.gN ?_;first|(refine AOps.g_box ?_;refine Aw ?_))|refine WO ?_|refine Ai λP=>?_|refine Ay λY=>?_);refine NL ?_;refine FL ?_;refine RG ?_;(repeat first|(refine AOps.gN ?_;first|refine N2 [_] (h:=hof) (k:=λa ha=>?_))|refine WO ?_|refine Ai λX=>?_|refine Ay λY=>?_);refine NL ?_;obtain⟨a1,a2,a3,a4,a5⟩:=ha;have hf:ArFor a w:=⟨a1,a2,a3,a4,a5,hw⟩;refine FL ?_;refine RG ?_;(repeat first|refine WO ?_|refine Ai λX=>?_|refine Ay λY=>?_);refine NL ?_;refine AE rfl rfl ?_;refine FL ?_;refine RG ?_;(repeat first|refine WO ?_|refine Ai λX=>?_|refine Ay λY=>?_);refine NL ?_;refine FL ?_;refine RG ?_;(repeat first|(refine AOps.gN ?_;first|(refine DW ?_;refine FA (bA false) λK=>?_))|refine WO ?_|refine Ai λD=>?_|refine Ay λY=>?_);refine NL ?_;refine FL ?_;refine RG ?_;(repeat first|refine WO ?_|refine Ai λX=>?_|refine Ay λY=>?_);refine NL ?_;refine FL ?_;refine AWP.adopt (d:=9) 32 2 rfl λO=>?_
 refine DQ (λ(i Y:Nat) (z:Ar×Wd×List Ent×List Bool)=>⟨[(2,.fp (wdA false w).cells),(4,.ptr P 0 0),(7,.ptr a.A 0 0),(9,.sl Y 0 z.2.2.1.length),(10,.sl K 0 (l.map CU).length),(26,J5 false l),(27,iA (l.map CU).length),(28,iA i)],(Y,.row 32 2 (z.2.2.1.map AZ))::(K,.row 4 1 ((z.2.2.2++List.replicate (l.length-i) false).map bA))::(P,.row 26 3 [.agg [.prim (.slice none 0 0),.prim (.slice none 0 0),.prim (.slice none 0 0)]])::(arS z.1++Sf)⟩) (λi Y z=>i<=l.length/\ArFor z.1 z.2.1/\z.1.A=a.A/\z.2.1.kinds=w.kinds/\z.2.2.1.length<=i/\z.2.2.2.length=i/\C0 w l=((C0 z.2.1 (l.drop i)).1,z.2.2.1++(C0 z.2.1 (l.drop i)).2.1,z.2.2.2++(C0 z.2.1 (l.drop i)).2.2)) (λi _ _=>l.length-i) 0 O (a,w,[],[]) ⟨Nat.zero_le _,hf,rfl,rfl,Nat.le_refl _,rfl,rfl⟩ ?_ (h0:=⟨by exact Lk.f,by rw[hlm,Nat.sub_zero,List.nil_append,List.map_replicate];exact Sub.f⟩);rintro i Y ⟨z,v,es,ds⟩ ⟨hi,hz,hzA,hvk,hes,hds,hrun⟩;dsimp only at hz hzA hvk hes hds hrun⊢;refine RG ?_;(repeat first|refine WO ?_|refine Ai λX=>?_|refine Ay λY=>?_);refine NL ?_;refine FL ?_;refine AWP.cond rfl (λhb=>?_) (λhb=>?_)
 ·have h:i<l.length:=by rw[decide_eq_true_eq,hlm]at hb;omega
  obtain⟨c,hcc⟩:∃c,l[i]=c:=⟨_,rfl⟩;have hcm:c∈l:=by rw[<-hcc];exact List.getElem_mem h
  have hat:(l.map CU)[i]?=some (CU c):=by rw[List.getElem?_map,List.getElem?_eq_getElem h,hcc];rfl
  have hact:=R3 hz (by rw[hvk];exact h12) c (by rw[hvk];exact hc.ok c hcm) (hc.n c hcm) (hc.l c hcm);have hnx:=O2 h hcc hrun;obtain⟨⟨v2,x,ok⟩,hv2⟩:∃q,D8 v c=q:=⟨_,rfl⟩;rw[hv2]at hact hnx;dsimp only at hact hnx;have hnl:i<((ds++List.replicate (l.length-i) false).map bA).length:=by rw[List.length_map,List.length_append,List.length_replicate];omega
  have hset:=SV (b:=ok) hds h
  have hvk2:v2.kinds=w.kinds:=by
   have:=(Nw hz.wok (c:=c) (by rw[hvk];exact hc.ok c hcm)).2;rw[hv2]at this;exact this.trans hvk
  rw[<-hzA];refine FL ?_;refine RG ?_;(repeat first|refine WO ?_|refine Ai λC=>?_|refine Ay λY=>?_);refine NL ?_;refine FL ?_;refine RG ?_;(repeat first|(refine AOps.gN ?_;first|refine Ht [_,_,_,_] (h:=hact) (k:=λb hb2=>?_))|refine WO ?_|refine Ai λV=>?_|refine Ay λY=>?_);refine NL ?_;obtain⟨hb1,hb2⟩:=hb2;refine FL ?_;refine RG ?_;(repeat first|refine WO ?_|refine Ai λX=>?_|refine Ay λY=>?_);refine NL ?_;dsimp only[AN,List.set_cons_zero,List.set_cons_succ,List.cons_append,List.nil_append];rw[hset];refine FL ?_;have hEl:(es.map AZ).length=es.length:=List.length_map _;cases ok with
  |false=>
   rw[if_neg (by simp)]at hnx;refine RG ?_;(repeat first|refine WO ?_|refine Ai λX=>?_|refine Ay λY=>?_);refine NL ?_;refine AE rfl rfl ?_;refine FL ?_;refine RG ?_;(repeat first|refine WO ?_|refine Ai λX=>?_|refine Ay λY=>?_);refine NL ?_;exact B0 (i+1) Y (b,v2,es,ds++[false]) ⟨h,hb1,hb2,hvk2,by dsimp only;omega,by rw[List.length_append,hds];rfl,hnx⟩ (by omega)
  |true=>
   refine RG ?_;(repeat first|refine WO ?_|refine Ai λX=>?_|refine Ay λY=>?_);refine NL ?_;refine AWP.cond rfl (λh3=>?_) (λh3=>?_)
   ·have h3:c.act=3:=of_decide_eq_true h3
    rw[if_pos ⟨rfl,h3⟩]at hnx;refine FL ?_;have hb1':(es.map AZ).length+1<=1099511627776:=by omega
    refine RG ?_;(repeat first|(refine AOps.gN ?_;first|(refine AOps.g_lit ?_;refine AOps.goL (AZ x) ?_))|refine WO ?_|refine Ai λX=>?_|refine Ay λY=>?_);refine NL ?_;refine FL ?_;dsimp only[AN,List.set_cons_zero,List.set_cons_succ,List.cons_append,List.nil_append];have hm1:es.map AZ++[AZ x]=(es++[x]).map AZ:=by rw[List.map_append];rfl
    have hm2:es.length+[AZ x].length=(es++[x]).length:=by rw[List.length_append];rfl
    rw[hm1,hm2];refine RG ?_;(repeat first|refine WO ?_|refine Ai λX=>?_|refine Ay λY=>?_);refine NL ?_;exact B0 (i+1) Y (b,v2,es++[x],ds++[true]) ⟨h,hb1,hb2,hvk2,by rw[List.length_append];show es.length+1<=i+1;omega,by rw[List.length_append,hds];rfl,hnx⟩ (by omega)
   ·have h3:¬c.act=3:=of_decide_eq_false h3
    rw[if_neg (λe=>h3 e.2)]at hnx;refine FL ?_;refine RG ?_;(repeat first|refine WO ?_|refine Ai λX=>?_|refine Ay λY=>?_);refine NL ?_;exact B0 (i+1) Y (b,v2,es,ds++[true]) ⟨h,hb1,hb2,hvk2,by dsimp only;omega,by rw[List.length_append,hds];rfl,hnx⟩ (by omega)
 ·have h:i=l.length:=by rw[decide_eq_false_iff_not,hlm]at hb;omega
  subst h;rw[List.drop_length]at hrun;simp only[C0,List.append_nil]at hrun;have hkk:=BJ hz.wok.ks;have har:=NH z hz.ok hz.ne (by rw[hz.kinds];exact hkk.1) (λk hk=>(CY (hkk.2 k (by rw[<-hz.kinds];exact hk))).2.1) (by rw[hz.gens];exact hz.wok.gl) (λit hit=>(hz.wok.wl.items.2 it (hz.items.mem_iff.1 hit)));rw[<-hzA];refine FL ?_;refine RG ?_;(repeat first|(refine AOps.gN ?_;first|refine N2 [_,_,_] (h:=har) (k:=λL hL=>?_))|refine WO ?_|refine Ai λX=>?_|refine Ay λY=>?_);refine NL ?_;have hLe:=hz.sorted hL.1 hL.2;refine RT ?_;rw[hrun];have hv:(⟨z.kinds,z.gens,L⟩:Wd)=v:=by rw[hz.kinds,hz.gens,hLe]
  rw[hv,Nat.sub_self,List.replicate_zero,List.append_nil];dsimp only[AN,List.set_cons_zero,List.set_cons_succ,List.cons_append,List.nil_append];exact BN [wdA false v,.sl Y 0 es.length,.sl K 0 (l.map CU).length] [wdA false v,.lst true 32 2 (es.map AZ),QA true ds] (.cons (.cell .same) (.cons (.cell (.sl (p:=0) .here (by rw[List.length_map]))) (.cons (.cell (.sl (p:=0) .here (by rw[hlm,List.length_map,hds]))) .nil))) (hS:=by repeat (first|exact List.sublist_append_right _ _|apply List.Sublist.cons))
theorem QE(w:Wd)(l:List Cmd)(hw:WdOK w)(h12:w.kinds.length<=12)(hl:l.length<=131072)(hc:CmdsL w.kinds l):PS Tryz.prog 80 [wdA false w,J5 false l] (.tup [wdA false (C0 w l).1,GX (C0 w l).2.1,iA 0]):=by
 have hck:=HT w l hw.wl h12 (by omega) hc.l;rw[cmdErr_iff.2 ⟨hw,hl,hc.ok⟩]at hck;have hrn:=Ot w l hw h12 hl hc;refine Spec.of (nt:=27) (res:=[.cell 4 26,.tmp 5,.tmp 6]) Tryz.func80 rfl (by kernel_rfl) rfl rfl rfl λSf=>?_
 refine RG ?_;(repeat first|(refine AOps.gN ?_;first|(refine AOps.g_box ?_;refine Aw ?_))|refine WO ?_|refine Ai λP=>?_|refine Ay λY=>?_);refine NL ?_;refine FL ?_;refine RG ?_;(repeat first|(refine AOps.gN ?_;first|(refine AOps.g_callf ?_;first|refine AOps.c2 (h:=(hck ..)) (k:=?_)))|refine WO ?_|refine Ai λX=>?_|refine Ay λY=>?_);refine NL ?_;refine FL ?_;refine RG ?_;(repeat first|refine WO ?_|refine Ai λX=>?_|refine Ay λY=>?_);refine NL ?_;refine AE rfl rfl ?_;refine FL ?_;refine RG ?_;(repeat first|(refine AOps.gN ?_;first|(refine AOps.g_callf ?_;first|refine AOps.c2 (h:=(hrn ..)) (k:=?_)))|refine WO ?_|refine Ai λV=>?_|refine Ay λY=>?_);refine NL ?_;refine FL ?_;refine RG ?_;(repeat first|refine WO ?_|refine Ai λX=>?_|refine Ay λY=>?_);refine NL ?_;refine RT ?_;exact Gc (rs:=[wdA false (C0 w l).1,GX (C0 w l).2.1,iA 0]) rfl
theorem RO:WdOK baseWd:=(A8 _).1 (by decide)
def Rm:AV:=.agg [Ak false false [E6],AR false [0],Pi true baseWd.items]
theorem QB:PS Tryz.prog 54 [] Rm:=by
 refine Spec.of (nt:=14) (res:=[.cell 0 26]) Tryz.func54 rfl (by kernel_rfl) rfl rfl rfl λSf=>?_
 refine RG ?_;(repeat first|refine WO ?_|refine Ai λP=>?_|refine Ay λY=>?_);refine NL ?_;refine FL ?_;refine RG ?_;(repeat first|refine WO ?_|refine Ai λX=>?_|refine Ay λY=>?_);refine NL ?_;refine FL ?_;refine AWP.rs λC=>AWP.rs λI=>?_
 refine RG ?_;(repeat first|(refine AOps.gN ?_;first|refine AOps.s (W.lit1 (X:=C) (l:=[AD false ⟨0,[9]⟩]) (by exact rfl) (by exact At.f) (by exact rfl) (by exact .inl rfl) (by decide) (by decide) (by exact rfl)) rfl ?_|refine AOps.s (W.lit1 (X:=I) (l:=[.agg [iA 0,iA 0,.sl C 0 1]]) (by exact rfl) (by exact At.f) (by exact rfl) (by exact .inl rfl) (by decide) (by decide) (by exact rfl)) rfl ?_)|refine WO ?_|refine Ai λX=>?_|refine Ay λY=>?_);refine AOps.nil ?_;refine AWP.closeIn (X:=C) (Y:=I) (by exact At.f) (by exact At.f) rfl rfl (.head (.agg (.tail (.tail (.head .here))))) ?_;refine RT ?_;exact BN [.agg [Ak false false [E6],AR false [0],.sl I 0 1]] [Rm] (.cons (.agg (.cons .same (.cons .same (.cons (.sl (p:=0) .here rfl) .nil)))) .nil)
def Kn:Wd:=⟨[E6],[0],[⟨⟨0,0⟩,[⟨0,[8]⟩]⟩]⟩
theorem QC:WdOK Kn:=(A8 _).1 (by decide)
theorem SY:Db baseWd Kn=[⟨0,0,0⟩]:=by decide
theorem OU:PS Tryz.prog 24 [] (bA true):=by
 have hch:=D7 baseWd Kn RO QC rfl;rw[SY]at hch;have heq:=Jy [⟨0,0,0⟩] [⟨0,0,0⟩] (by decide);refine Spec.of (nt:=27) (res:=[.tmp 0]) Tryz.func24 rfl (by kernel_rfl) rfl rfl rfl λSf=>?_
 refine RG ?_;(repeat first|refine WO ?_|refine Ai λX=>?_|refine Ay λY=>?_);refine NL ?_;refine FL ?_;refine AWP.rs λI=>?_
 refine RG ?_;have hb:PS Tryz.prog 54 [] (.agg [Ak false false [E6],AR false [0],.lst true 71 3 [HN ⟨⟨0,0⟩,[⟨0,[9]⟩]⟩]]):=QB;refine Rc (h:=hb) (hT:=.v (.agg (.cons .fz (.cons .fz (.cons (.lst (Y:=I) rfl) .nil))))) (k:=?_);(repeat first|refine WO ?_|refine Ai λV=>?_|refine Ay λY=>?_);refine FL ?_;refine AWP.thawIn (Y:=I) (by exact At.f) (λ_=>.head (.agg (.tail (.tail (.head .here))))) λC=>?_
 refine RG ?_;(repeat first|refine WO ?_|refine Ai λX=>?_|refine Ay λY=>?_);refine NL ?_;refine FL ?_;refine AWP.iceIn (X:=C) (Y:=I) (by exact At.f) (by exact At.f) rfl (.cons (.agg (.cons .same (.cons .same (.cons (.base (.sl (by decide))) .nil)))) .nil) ?_;refine AWP.iceIn (X:=I) (Y:=V) (by exact At.f) (by exact At.f) rfl (.cons (.agg (.cons .same (.cons .same (.cons (.base (.sl (by decide))) .nil)))) .nil) ?_;refine RU ?_;(repeat first|(refine RGo.gN ?_;first|(refine RGo.g_callf ?_;first|refine RGo.c2 (h:=(hch ..)) (k:=?_)|refine RGo.c0 (h:=(Nv ..)) (k:=?_)))|(refine RGo.gQ ?_;first|(refine RGo.g_callf ?_;first|refine RGo.c2 (h:=(hch ..)) (k:=?_)|refine RGo.c0 (h:=(Nv ..)) (k:=?_)))|refine RK ?_|refine RGo.nil (by kernel_rfl) ?_);(repeat refine WF ?_);refine RG ?_;(repeat first|(refine AOps.gN ?_;first|(refine AOps.g_callf ?_;first|refine AOps.c2 (h:=(heq ..)) (k:=?_))|(refine AOps.g_lit ?_;refine AOps.goL (Bb ⟨0,0,0⟩) ?_))|refine WO ?_|refine Ai λX=>?_|refine Ay λY=>?_);refine NL ?_;refine RT ?_;refine AI ?_;rfl
theorem Qn(w:Wd)(n:Int)(h:w.items=[]):PS Tryz.prog 16 [wdA false w,iA n] (.tup [AZ ⟨0,0⟩,bA false]):=by
 refine Spec.of (nt:=21) (res:=[.cell 4 32,.tmp 5]) Tryz.func16 rfl (by kernel_rfl) rfl rfl rfl λSf=>?_
 refine RG ?_;(repeat first|(refine AOps.gN ?_;first|(refine AOps.g_box ?_;refine Aw ?_))|refine WO ?_|refine Ai λR=>?_|refine Ay λY=>?_);refine NL ?_;(repeat first|refine WK ?_|refine Ai λX=>?_|refine Ay λY=>?_);refine AQ rfl (by rw[h];rfl) ?_;(repeat first|refine WK ?_|refine Ai λX=>?_|refine Ay λY=>?_);refine RT ?_;exact BN [AZ ⟨0,0⟩,bA false] [AZ ⟨0,0⟩,bA false] (.cons (.agg (.cons .same (.cons .same .nil))) (.cons (.cell .same) .nil))
theorem PL(w:Wd)(n:Int)(i:Nat)(it:Item)(hi:n%(w.items.length:Int)=i)(h:w.items[i]?=some it)(hl:w.items.length<=4611686018427387904):PS Tryz.prog 16 [wdA false w,iA n] (.tup [AZ it.ent,bA true]):=by
 have him:(w.items.map (AA false)).length=w.items.length:=List.length_map _;have hil:i<w.items.length:=(List.getElem?_eq_some_iff.1 h).1;have hb:=E5 n (w.items.map (AA false)).length (by omega) (by omega);rw[him,hi,<-him]at hb;obtain⟨⟨en,eg⟩,cs⟩:=it;have hat:(w.items.map (AA false))[i]?=some (AA false ⟨⟨en,eg⟩,cs⟩):=by rw[List.getElem?_map,h];rfl
 refine Spec.of (nt:=21) (res:=[.cell 4 32,.tmp 5]) Tryz.func16 rfl (by kernel_rfl) rfl rfl rfl λSf=>?_
 refine RG ?_;(repeat first|(refine AOps.gN ?_;first|(refine AOps.g_box ?_;refine Aw ?_))|refine WO ?_|refine Ai λR=>?_|refine Ay λY=>?_);refine NL ?_;(repeat first|refine WK ?_|refine Ai λX=>?_|refine Ay λY=>?_);refine AE rfl (decide_eq_false (by omega)) ?_;refine RU ?_;(repeat first|(refine RGo.gN ?_;first|refine RGo.c2 (h:=hb) (k:=?_))|(refine RGo.gQ ?_;first|refine RGo.c2 (h:=hb) (k:=?_))|refine RK ?_|refine RGo.nil (by kernel_rfl) ?_);refine RT ?_;exact BN [AZ ⟨en,eg⟩,bA true] [AZ ⟨en,eg⟩,bA true] (.cons (.agg (.cons .same (.cons .same .nil))) (.cons (.cell .same) .nil))
def B3(c:Nat)(n:Int)(l:List Int):List Int:=(List.range c).map λj=>l.getD j n
theorem Ej(c:Nat)(n:Int)(l:List Int):(B3 c n l).length=c:=by simp[B3]
theorem Fg(c:Nat)(n:Int)(l:List Int):B3 (c+1) n l=B3 c n l++[l.getD c n]:=by simp[B3,List.range_succ]
theorem RJ(ks:List Kind)(n:Int)(l:List Int)(i:Nat)(hil:i<ks.length)(hi:n%(ks.length:Int)=i)(h8:(ks[i]).fields.length<=8)(hlen:ks.length<=1099511627776):
  PS Tryz.prog 19 [Ak false false ks,iA n,AR false l] (AD false ⟨i,B3 (ks[i]).fields.length n l⟩):=by
 refine Spec.of (nt:=42) (res:=[.cell 6 42]) Tryz.func19 rfl (by kernel_rfl) rfl rfl rfl λSf=>?_
 have hb0:PS Tryz.prog 67 [iA n,iA (ks.map (An false)).length] (iA i):=by
  have:=E5 n (ks.length:Int) (by omega) (by omega);rw[hi]at this;simpa using this
 (repeat first|(refine AOps.gN ?_;first|(refine AOps.g_callf ?_;first|refine AOps.c2 (h:=(hb0 ..)) (k:=?_)))|refine WK ?_|refine Ai λX=>?_|refine Ay λY=>?_);rename_i R;refine AWP.adoptIn 3 1 .here (λF=>.cons (.agg (.cons .same (.cons (.base .nil) .nil))) .nil) λF=>?_
 refine DQ (λ(j F:Nat) (L:List AV)=>⟨[(1,iA n),(2,AR false l),(6,.ptr R 0 0),(7,.ptr X 0 0),(21,iA ((ks[i]).fields.map fieldA).length),(22,iA j)],(F,.row 3 1 L)::(X,.row 42 2 [.agg [iA i,.sl F 0 j]])::(R,.row 42 2 [.agg [iA 0,.prim (.slice none 0 0)]])::Sf⟩) (λj _ L=>j<=(ks[i]).fields.length/\L=(B3 j n l).map iA) (λj _ _=>(ks[i]).fields.length-j) 0 F [] ⟨Nat.zero_le _,rfl⟩ ?_;rintro j F L ⟨hj,hL⟩;have hLl:L.length=j:=by rw[hL,List.length_map,Ej]
 (repeat first|refine WK ?_|refine Ai λX=>?_|refine Ay λY=>?_);refine AWP.cond rfl (λhb=>?_) (λhb=>?_)
 ·have h:j<(ks[i]).fields.length:=by rw[decide_eq_true_eq,List.length_map]at hb;omega
  (repeat first|refine WK ?_|refine Ai λX=>?_|refine Ay λY=>?_);refine AWP.cond rfl (λhc=>?_) (λhc=>?_)
  ·have hc:j<l.length:=by simpa using hc
   (repeat first|refine WK ?_|refine Ai λX=>?_|refine Ay λY=>?_);refine B0 (j+1) _ _ ⟨h,?_⟩;rw[Fg,List.map_append,hL,show l.getD j n=l[j]from by simp[List.getD_eq_getElem?_getD,hc]];rfl
  ·have hc:¬j<l.length:=by simpa using hc
   (repeat first|refine WK ?_|refine Ai λX=>?_|refine Ay λY=>?_);refine B0 (j+1) _ _ ⟨h,?_⟩;rw[Fg,List.map_append,hL,show l.getD j n=n from by simp[List.getD_eq_getElem?_getD,List.getElem?_eq_none (Nat.le_of_not_lt hc)]];rfl
 ·have h:j=(ks[i]).fields.length:=by rw[decide_eq_false_iff_not,List.length_map]at hb;omega
  subst h;refine FL ?_;refine AWP.iceIn (X:=F) .here (.next .here) rfl (.cons (.agg (.cons .same (.cons (.base (.sl (by omega))) .nil))) .nil) ?_
  have hF:Ah ((L.drop 0).take (ks[i]).fields.length)=(B3 (ks[i]).fields.length n l).map iA:=by
   rw[List.drop_zero,List.take_of_length_le (by omega),hL];exact Frzs.h
  rw[hF];(repeat first|refine WK ?_|refine Ai λX=>?_|refine Ay λY=>?_);refine RT ?_;refine Gc (rs:=[AD false ⟨i,B3 (ks[i]).fields.length n l⟩]) rfl (.cons (.cell (p:=2) rfl (.next (.next .here)) TAg.h TSize.h rfl rfl) rfl .nil)
theorem Lq(l:List Int):0<(D1 l).kinds.length/\(D1 l).kinds.length<=4:=⟨Kc l,(Ia l).1⟩
theorem Os{ks:List Kind}(hk:A6 ks=0){i:Nat}(hi:i<ks.length)(n:Int)(l:List Int):Fi ks ⟨i,B3 (ks[i]).fields.length n l⟩:=by
 refine⟨by dsimp only;omega,by dsimp only;omega,ks[i],by dsimp only;rw[Int.toNat_natCast,List.getElem?_eq_getElem hi],?_⟩;rw[Ig ((BJ hk).2 _ (List.getElem_mem hi)) (by rw[Ej])]
theorem Kb(n:Int){m:Nat}(h:0<m):∃i:Nat,n%(m:Int)=i/\i<m:=
 ⟨(n%(m:Int)).toNat,by have:=Int.emod_nonneg n (b:=(m:Int)) (by omega);omega,by have:=Int.emod_lt_of_pos n (b:=(m:Int)) (by omega);have:=Int.emod_nonneg n (b:=(m:Int)) (by omega);omega⟩
def pickP(w:Wd)(n:Int):Ent×Bool:=match w.items[(n%(w.items.length:Int)).toNat]? with
 |some it=>(it.ent,true)
 |none=>(⟨0,0⟩,false)
theorem PM(w:Wd)(n:Int)(hl:w.items.length<=4611686018427387904):PS Tryz.prog 16 [wdA false w,iA n] (.tup [AZ (pickP w n).1,bA (pickP w n).2]):=by
 unfold pickP;cases h:w.items with
 |nil=>exact Qn w n h
 |cons it l=>
  obtain⟨i,hi,hil⟩:=Kb n (m:=(it::l).length) (by simp);have h2:w.items[i]?=some (it::l)[i]:=by rw[h];exact List.getElem?_eq_getElem hil
  have:=PL w n i (it::l)[i] (by rw[h];exact hi) h2 hl;rw[hi,Int.toNat_natCast,List.getElem?_eq_getElem hil];exact this
def KR(ks:List Kind)(b:Int)(l:List Int):Comp:=match ks[(b%(ks.length:Int)).toNat]? with
 |some k=>⟨b%(ks.length:Int),B3 k.fields.length b l⟩
 |none=>⟨0,[]⟩
def ID(w:Wd)(l:List Int)(i:Nat):Cmd:=
 if(pickP w (l.getD i 0)).2=false\/(l.getD (i+1) 0).tmod 4=0 then⟨3,⟨0,0⟩,0,[]⟩else
 ⟨l.getD (i+1) 0%3,(pickP w (l.getD i 0)).1,l.getD i 0%(w.kinds.length:Int),[KR w.kinds (l.getD i 0) (l.drop i)]⟩
def Bg(w:Wd)(l:List Int):List Cmd:=(List.range (l.length/2)).map λj=>ID w l (2*j)
def FQ(w:Wd)(l:List Int):Wd:=if l.length/2<=131072 then(C0 w (Bg w l)).1 else w
theorem Qj{w:Wd}(hw:WdOK w)(h0:0<w.kinds.length)(b:Int)(l:List Int):Fi w.kinds (KR w.kinds b l)/\(KR w.kinds b l).vals.length<=8:=by
 obtain⟨k,hk,hkl⟩:=Kb b h0;have hka:w.kinds[k]?=some w.kinds[k]:=List.getElem?_eq_getElem hkl
 have hrc:KR w.kinds b l=⟨(k:Nat),B3 (w.kinds[k]).fields.length b l⟩:=by
  unfold KR;rw[hk,Int.toNat_natCast,hka]
 have h8:=(CY ((BJ hw.ks).2 _ (List.getElem_mem hkl))).2.1;rw[hrc];exact⟨Os hw.ks hkl b l,by show(B3 _ _ _).length<=8;rw[Ej];exact h8⟩
theorem Qo{w:Wd}(hw:WdOK w)(n:Int):I64 (pickP w n).1.n:=by
 unfold pickP;split
 ·rename_i it hit
  have:=hw.it it (List.mem_of_getElem? hit);have:=hw.gl;constructor<;>dsimp only<;>omega
 ·constructor<;>decide
theorem Qi{w:Wd}(hw:WdOK w)(h0:0<w.kinds.length)(l:List Int)(i:Nat):(CP w.kinds (ID w l i)).2=0/\I64 (ID w l i).ent.n/\(ID w l i).comps.length<=1/\∀d∈(ID w l i).comps,d.vals.length<=8:=by
 unfold ID;split
 ·refine⟨?_,⟨by decide,by decide⟩,Nat.zero_le _,λd hd=>by cases hd⟩
  show(B7 w.kinds []).2=0
  rw[N5 hw.ks (by rfl)]
 ·obtain⟨hfo,h8⟩:=Qj hw h0 (l.getD i 0) (l.drop i)
  refine⟨?_,Qo hw _,Nat.le_refl _,λd hd=>?_⟩
  ·have h3:0<=l.getD (i+1) 0%3/\l.getD (i+1) 0%3<3:=by omega
   have hft:=Hw hw.ks hfo;unfold CP;dsimp only;rw[hft];split
   ·rfl
   ·split
    ·obtain⟨k,hk,hkl⟩:=Kb (l.getD i 0) h0
     rw[hk,if_neg (by omega)]
    ·rw[if_pos (by omega)]
  ·rw[List.mem_singleton]at hd
   subst hd;exact h8
theorem GK{w:Wd}(hw:WdOK w)(h0:0<w.kinds.length)(l:List Int):CmdsL w.kinds (Bg w l):=by
 have h:∀c∈Bg w l,∃i,ID w l i=c:=λc hc=>by
  obtain⟨j,_,rfl⟩:=List.mem_map.1 hc;exact⟨_,rfl⟩
 refine⟨λc hc=>?_,λc hc=>?_,λc hc=>?_⟩<;>obtain⟨i,rfl⟩:=h c hc<;>obtain⟨h1,h2,h3,h4⟩:=Qi hw h0 l i
 ·exact h1
 ·exact h2
 ·omega
theorem JG(w:Wd)(l:List Int):(Bg w l).length=l.length/2:=by
 unfold Bg;rw[List.length_map,List.length_range]
theorem Mh{w:Wd}(hw:WdOK w)(h0:0<w.kinds.length)(l:List Int):WdOK (FQ w l)/\(FQ w l).kinds=w.kinds:=by
 unfold FQ;split
 ·exact NW hw (GK hw h0 l).ok
 ·exact⟨hw,rfl⟩
theorem QF(w:Wd)(l:List Cmd)(hw:WdL w)(h12:w.kinds.length<=12)(hl:l.length<=1099511627776)(hc:∀c∈l,c.comps.length<=1099511627776)(e:Int)(he:F6 w l=e)(h0:e≠0):PS Tryz.prog 80 [wdA false w,J5 false l] (.tup [wdA false ⟨[],[],[]⟩,GX [],iA e]):=by
 have hck:=HT w l hw h12 hl hc;rw[he]at hck;refine Spec.of (nt:=27) (res:=[.cell 4 26,.tmp 5,.tmp 6]) Tryz.func80 rfl (by kernel_rfl) rfl rfl rfl λSf=>?_
 refine RG ?_;(repeat first|(refine AOps.gN ?_;first|(refine AOps.g_box ?_;refine Aw ?_))|refine WO ?_|refine Ai λP=>?_|refine Ay λY=>?_);refine NL ?_;refine FL ?_;refine RG ?_;(repeat first|(refine AOps.gN ?_;first|(refine AOps.g_callf ?_;first|refine AOps.c2 (h:=(hck ..)) (k:=?_)))|refine WO ?_|refine Ai λX=>?_|refine Ay λY=>?_);refine NL ?_;refine FL ?_;refine RG ?_;(repeat first|refine WO ?_|refine Ai λX=>?_|refine Ay λY=>?_);refine NL ?_;refine AQ rfl (decide_eq_true h0) ?_;refine FL ?_;refine RG ?_;(repeat first|refine WO ?_|refine Ai λX=>?_|refine Ay λY=>?_);refine NL ?_;refine RT ?_;exact BN [Mi,.prim (.slice none 0 0),iA e] [wdA false ⟨[],[],[]⟩,GX [],iA e] (.cons (.agg (.cons .nil (.cons .nil (.cons .nil .nil)))) (.cons (.cell .nil) (.cons (.cell .same) .nil)))
def C4(w:Wd)(l:List Int)(j:Nat):List Cmd:=(List.range j).map λj=>ID w l (2*j)
theorem KT(w:Wd)(l:List Int)(j:Nat):C4 w l (j+1)=C4 w l j++[ID w l (2*j)]:=by
 unfold C4;rw[List.range_succ,List.map_append];rfl
theorem LP(w:Wd)(l:List Int)(j:Nat):(C4 w l j).length=j:=by unfold C4;rw[List.length_map,List.length_range]
set_option maxRecDepth 8000 in
set_option maxHeartbeats 4000000 in
theorem PT(w:Wd)(l:List Int)(hw:WdOK w)(h0:0<w.kinds.length)(h12:w.kinds.length<=12)(hl:l.length<=1048576):PS Tryz.prog 25 [wdA false w,AR false l] (wdA false (FQ w l)):=by
 have hlm:(l.map iA).length=l.length:=List.length_map _;have hkm:(w.kinds.map (An false)).length=w.kinds.length:=List.length_map _;have hil:=hw.il;have hgl:=hw.gl;have hk16:=(BJ hw.ks).1;refine Spec.of (nt:=89) (res:=[.cell 4 26]) Tryz.func25 rfl (by kernel_rfl) rfl rfl rfl λSf=>?_
 refine RG ?_;(repeat first|(refine AOps.gN ?_;first|(refine AOps.g_box ?_;refine Aw ?_))|refine WO ?_|refine Ai λR=>?_|refine Ay λY=>?_);refine NL ?_;refine FL ?_;refine RG ?_;(repeat first|refine WO ?_|refine Ai λX=>?_|refine Ay λY=>?_);refine NL ?_;refine AE rfl (decide_eq_false (by omega)) ?_;refine FL ?_;refine RG ?_;(repeat first|refine WO ?_|refine Ai λX=>?_|refine Ay λY=>?_);refine NL ?_;refine FL ?_;refine RG ?_;(repeat first|refine WO ?_|refine Ai λX=>?_|refine Ay λY=>?_);refine NL ?_;refine FL ?_;refine AWP.adopt (d:=5) 159 5 rfl λO=>?_
 refine BO (λ(j O:Nat)=>⟨[(1,AR false l),(2,.fp (wdA false w).cells),(4,.ptr R 0 0),(5,.sl O 0 j),(6,iA (2*j:Nat))],(O,.row 159 5 ((C4 w l j).map CU))::(R,.row 26 3 [Mi])::Sf⟩) (λj _=>j<=l.length/2) (λj _=>l.length/2-j) 0 O (Nat.zero_le _) ?_;rintro j O hj;have hrl:j=((C4 w l j).map CU).length:=by rw[List.length_map,LP]
 by_cases hjk:j<l.length/2
 ·have h1:2*j+1<l.length:=by omega
  have hd1:decide (((2*j:Nat):Int)+1<((l.map iA).length:Nat))=true:=decide_eq_true (by omega);refine RG ?_;(repeat first|(refine AOps.gN ?_;first|refine AOps.go (h:=Aq (((2*j:Nat):Int)+1) (by omega) (by omega) rfl rfl) (k:=?_))|refine WO ?_|refine Ai λX=>?_|refine Ay λY=>?_);refine NL ?_;refine AQ rfl hd1 ?_;obtain⟨n,hn⟩:∃n,l.getD (2*j) 0=n:=⟨_,rfl⟩;obtain⟨a,ha⟩:∃n,l.getD (2*j+1) 0=n:=⟨_,rfl⟩
  have hgt:∀i (h:i<l.length) v,l.getD i 0=v->(l.map iA)[i]?=some (iA v):=λi h v e=>by
   rw[List.getElem?_map,List.getElem?_eq_getElem h,<-e,List.getD_eq_getElem?_getD,List.getElem?_eq_getElem h];rfl
  have hat0:=hgt _ (by omega) _ hn;have hat1:=hgt _ (by omega) _ ha;have hb3:=E5 a 3 (by decide) (by decide);have hbk:=E5 n ((w.kinds.map (An false)).length:Nat) (by omega) (by omega);have hpk:=PM w n (by omega)
  have hraw:ID w l (2*j)=if(pickP w n).2=false\/a.tmod 4=0 then⟨3,⟨0,0⟩,0,[]⟩else⟨a%3,(pickP w n).1,n%(w.kinds.length:Int),[KR w.kinds n (l.drop (2*j))]⟩:=by
   unfold ID;rw[hn,ha]
  obtain⟨⟨⟨pn,pg⟩,pb⟩,hpe⟩:∃q,pickP w n=q:=⟨_,rfl⟩;rw[hpe]at hpk hraw;dsimp only at hpk hraw;have hnx:=KT w l j;obtain⟨M,hM⟩:∃M,C4 w l j=M:=⟨_,rfl⟩;rw[hM]at hnx hrl⊢;have hMm:(M.map CU).length=M.length:=List.length_map _;refine FL ?_;refine AWP.rs λE=>?_
  refine RU ?_;(repeat first|(refine RGo.gN ?_;first|(refine RGo.g_callf ?_;first|refine RGo.c2 (h:=(hpk ..)) (k:=?_))|refine RGo.go (h:=W.idxL rfl rfl rfl hat0) (k:=?_))|(refine RGo.gQ ?_;first|(refine RGo.g_callf ?_;first|refine RGo.c2 (h:=(hpk ..)) (k:=?_))|refine RGo.go (h:=W.idxL rfl rfl rfl hat0) (k:=?_))|refine RK ?_|refine RGo.nil (by kernel_rfl) ?_);(repeat refine WF ?_);refine BD (λq:Bool=>q=true↔(pb=false\/a.tmod 4=0)) (λq=>⟨[(1,AR false l),(2,.fp (wdA false w).cells),(4,.ptr R 0 0),(5,.sl O 0 j),(6,iA (2*j:Nat)),(7,.ptr E 0 0),(43,bA q)],(E,.row 32 2 [AZ ⟨pn,pg⟩])::(O,.row 159 5 (M.map CU))::(R,.row 26 3 [Mi])::Sf⟩) ?_ ?_
  ·cases pb with
   |false=>
    refine RG ?_;(repeat first|(refine AOps.gQ ?_;first|refine AOps.goNU ?_|refine AOps.goNV ?_)|refine WO ?_|refine Ai λX=>?_|refine Ay λY=>?_);refine NL ?_;exact jn true (by simp)
   |true=>
    refine RG ?_;(repeat first|(refine AOps.gN ?_;first|refine AOps.go (h:=Aq (((2*j:Nat):Int)+1) (by omega) (by omega) rfl rfl) (k:=?_)|refine AOps.go (h:=W.idxL (a:=2*j+1) rfl rfl (by omega) hat1) (k:=?_)|refine AOps.go (h:=W.rem rfl rfl (by decide)) (k:=?_))|refine WO ?_|refine Ai λX=>?_|refine Ay λY=>?_);refine NL ?_;exact jn (decide (a.tmod 4=0)) (by simp)
  rintro q hq;cases q with
  |true=>
   rw[hraw,if_pos (hq.1 rfl)]at hnx;refine AQ rfl rfl ?_;refine FL ?_;have hb1:(M.map CU).length+1<=1099511627776:=by omega
   have hm1:M.map CU++[CU ⟨3,⟨0,0⟩,0,[]⟩]=(C4 w l (j+1)).map CU:=by rw[hnx,List.map_append];rfl
   have hj1:j+[CU ⟨3,⟨0,0⟩,0,[]⟩].length=j+1:=rfl;refine RG ?_;(repeat first|(refine AOps.gN ?_;first|refine AOps.nilT 45 42 2 (.cons .same (.cons .same (.cons .same (.cons .same (.cons (.base .nil) .nil))))) ?_|(refine AOps.g_lit ?_;refine AOps.goL (CU ⟨3,⟨0,0⟩,0,[]⟩) ?_))|refine WO ?_|refine Ai λX=>?_|refine Ay λY=>?_);refine NL ?_;dsimp only[AN,List.set_cons_zero,List.set_cons_succ,List.cons_append,List.nil_append];rw[hm1,hj1];refine FL ?_;refine RG ?_;(repeat first|(refine AOps.gN ?_;first|refine AOps.go (h:=Aq (((2*j:Nat):Int)+2) (by omega) (by omega) rfl rfl) (k:=?_))|refine WO ?_|refine Ai λX=>?_|refine Ay λY=>?_);refine NL ?_;rw[show(((2*j:Nat):Int)+2)=((2*(j+1):Nat):Int) by omega];exact As (j+1) Y hjk (by omega)
  |false=>
   have hq':¬(pb=false\/a.tmod 4=0):=λe=>by cases hq.2 e
   rw[if_neg hq']at hraw;refine AE rfl rfl ?_;obtain⟨k,hk,hkl⟩:=Kb n h0;have hka:w.kinds[k]?=some w.kinds[k]:=List.getElem?_eq_getElem hkl;have h8:=(CY ((BJ hw.ks).2 _ (List.getElem_mem hkl))).2.1;have hcp:=RJ w.kinds n (l.drop (2*j)) k hkl hk h8 (by omega)
   have hrc:KR w.kinds n (l.drop (2*j))=⟨(k:Nat),B3 (w.kinds[k]).fields.length n (l.drop (2*j))⟩:=by
    unfold KR;rw[hk,Int.toNat_natCast,hka]
   rw[<-hrc]at hcp;have hdr:AR false (l.drop (2*j))= .lst false 3 1 ((l.map iA).drop (2*j)):=by rw[AR,List.map_drop]
   rw[hdr]at hcp;rw[<-hkm]at hraw;obtain⟨⟨ck,cv⟩,hc⟩:∃c,KR w.kinds n (l.drop (2*j))=c:=⟨_,rfl⟩;rw[hc]at hraw hcp;rw[hraw]at hnx;have hb1:(M.map CU).length+1<=1099511627776:=by omega
   have hm1:M.map CU++[CU ⟨a%3,⟨pn,pg⟩,n%((w.kinds.map (An false)).length:Nat),[⟨ck,cv⟩]⟩]=(C4 w l (j+1)).map CU:=by rw[hnx,List.map_append];rfl
   have hj1:j+[CU ⟨a%3,⟨pn,pg⟩,n%((w.kinds.map (An false)).length:Nat),[⟨ck,cv⟩]⟩].length=j+1:=rfl;refine FL ?_;refine AWP.rs λY=>?_
   refine RU ?_;(repeat first|(refine RGo.gN ?_;first|(refine RGo.g_callf ?_;first|refine RGo.c3 (h:=(hcp ..)) (k:=?_)|refine RGo.c2 (h:=(hb3 ..)) (k:=?_)|refine RGo.c2 (h:=(hbk ..)) (k:=?_))|refine RGo.go (h:=Aq (((2*j:Nat):Int)+1) (by omega) (by omega) rfl rfl) (k:=?_)|refine RGo.go (h:=W.idxL (a:=2*j+1) rfl rfl (by omega) hat1) (k:=?_)|refine RGo.go (h:=W.idxL rfl rfl rfl hat0) (k:=?_)|refine RGo.go (h:=W.loL (a:=2*j) rfl rfl rfl (by omega)) (k:=?_)|refine RGo.go (v:=.lst false 42 2 [AD false ⟨ck,cv⟩]) (h:=W.litF1 (v0:=AD false ⟨ck,cv⟩) rfl rfl (.inl rfl) (by decide) (by decide) rfl) (k:=?_)|(refine RGo.g_lit ?_;refine RGo.goL (CU ⟨a%3,⟨pn,pg⟩,n%((w.kinds.map (An false)).length:Nat),[⟨ck,cv⟩]⟩) ?_))|(refine RGo.gQ ?_;first|(refine RGo.g_callf ?_;first|refine RGo.c3 (h:=(hcp ..)) (k:=?_)|refine RGo.c2 (h:=(hb3 ..)) (k:=?_)|refine RGo.c2 (h:=(hbk ..)) (k:=?_))|refine RGo.go (h:=Aq (((2*j:Nat):Int)+1) (by omega) (by omega) rfl rfl) (k:=?_)|refine RGo.go (h:=W.idxL (a:=2*j+1) rfl rfl (by omega) hat1) (k:=?_)|refine RGo.go (h:=W.idxL rfl rfl rfl hat0) (k:=?_)|refine RGo.go (h:=W.loL (a:=2*j) rfl rfl rfl (by omega)) (k:=?_)|refine RGo.go (v:=.lst false 42 2 [AD false ⟨ck,cv⟩]) (h:=W.litF1 (v0:=AD false ⟨ck,cv⟩) rfl rfl (.inl rfl) (by decide) (by decide) rfl) (k:=?_)|(refine RGo.g_lit ?_;refine RGo.goL (CU ⟨a%3,⟨pn,pg⟩,n%((w.kinds.map (An false)).length:Nat),[⟨ck,cv⟩]⟩) ?_))|refine RK ?_|refine RGo.nil (by kernel_rfl) ?_);dsimp only[AN,List.set_cons_zero,List.set_cons_succ,List.cons_append,List.nil_append];rw[hm1,hj1];(repeat refine WF ?_);refine RG ?_;(repeat first|(refine AOps.gN ?_;first|refine AOps.go (h:=Aq (((2*j:Nat):Int)+2) (by omega) (by omega) rfl rfl) (k:=?_))|refine WO ?_|refine Ai λX=>?_|refine Ay λY=>?_);refine NL ?_;rw[show(((2*j:Nat):Int)+2)=((2*(j+1):Nat):Int) by omega];exact As (j+1) Y hjk (by omega)
 ·have hjk:j=l.length/2:=by omega
  have hM:C4 w l j=Bg w l:=by rw[hjk];rfl
  have hd1:decide (((2*j:Nat):Int)+1<((l.map iA).length:Nat))=false:=decide_eq_false (by omega);have hcl:=JG w l;rw[hM]at hrl⊢;rw[List.length_map,hcl]at hrl;have hcm:((Bg w l).map CU).length=(Bg w l).length:=List.length_map _;have hco:=GK hw h0 l;refine RG ?_;(repeat first|(refine AOps.gN ?_;first|refine AOps.go (h:=Aq (((2*j:Nat):Int)+1) (by omega) (by omega) rfl rfl) (k:=?_))|refine WO ?_|refine Ai λX=>?_|refine Ay λY=>?_);refine NL ?_;refine AE rfl hd1 ?_;have hCf:Ah ((Bg w l).map CU)=(Bg w l).map CU:=Frzs.h;refine AWP.ice (d:=5) rfl (by exact At.f) (by omega) ?_;rw[hCf];refine FL ?_;unfold FQ;by_cases hbig:l.length/2<=131072
  ·rw[if_pos hbig]
   have hap:=QE w (Bg w l) hw h12 (by omega) hco;refine RG ?_;(repeat first|(refine AOps.gN ?_;first|(refine AOps.g_callf ?_;first|refine AOps.c2 (h:=(hap ..)) (k:=?_)))|refine WO ?_|refine Ai λV=>?_|refine Ay λY=>?_);refine NL ?_;refine FL ?_;refine RG ?_;(repeat first|refine WO ?_|refine Ai λX=>?_|refine Ay λY=>?_);refine NL ?_;refine AE rfl rfl ?_;refine FL ?_;refine RG ?_;(repeat first|refine WO ?_|refine Ai λX=>?_|refine Ay λY=>?_);refine NL ?_;refine RT ?_;exact BN [wdA false (C0 w (Bg w l)).1] [wdA false (C0 w (Bg w l)).1] (.cons (.cell .same) .nil)
  ·rw[if_neg hbig]
   have hap:=QF w (Bg w l) hw.wl h12 (by omega) hco.l 2 (by unfold F6;rw[(A8 w).2 hw,if_neg (by decide),if_pos (by omega)]) (by decide);refine RG ?_;(repeat first|(refine AOps.gN ?_;first|(refine AOps.g_callf ?_;first|refine AOps.c2 (h:=(hap ..)) (k:=?_)))|refine WO ?_|refine Ai λV=>?_|refine Ay λY=>?_);refine NL ?_;refine FL ?_;refine RG ?_;(repeat first|refine WO ?_|refine Ai λX=>?_|refine Ay λY=>?_);refine NL ?_;refine AQ rfl rfl ?_;refine FL ?_;refine RG ?_;(repeat first|refine WO ?_|refine Ai λX=>?_|refine Ay λY=>?_);refine NL ?_;refine RT ?_;exact BN [wdA false w] [wdA false w] (.cons (.cell .same) .nil)
theorem JL(l:List Mark)(f:FuncId)(cap:List AV)(p:Mark->Bool)(hs:Bs cap=true)(hl:l.length<=4611686018427387904)(hf:∀x∈l,PS Tryz.prog f (Bb x::cap) (bA (p x))):PS Tryz.prog 165 [.lst false 58 3 (l.map Bb),.fn f cap] (iA (Eg l p)):=by
 refine Spec.of (nt:=19) (res:=[.tmp 4]) Tryz.func165 rfl (by kernel_rfl) rfl rfl rfl λSf=>?_
 (repeat first|refine WK ?_|refine Ai λX=>?_|refine Ay λY=>?_);refine BT (λi:Nat=>⟨[(0,.lst false 58 3 (l.map Bb)),(1,.fn f cap),(7,iA (l.map Bb).length),(8,iA i)],Sf⟩) (λi=>i<=l.length/\∀j (h:j<l.length),j<i->p l[j]=false) (λi=>l.length-i) 0 ⟨Nat.zero_le _,λj h hj=>absurd hj (by omega)⟩ ?_;rintro i ⟨hi,he⟩;(repeat first|refine WK ?_|refine Ai λX=>?_|refine Ay λY=>?_);refine AWP.cond rfl (λhc=>?_) (λhc=>?_)
 ·have h:i<l.length:=by simpa using hc
  (repeat first|(refine AOps.gN ?_;first|(refine AOps.g_callv ?_;first|refine N3 (h:=(hf _ (List.getElem_mem h))) (k:=?_)))|refine WK ?_|refine Ai λX=>?_|refine Ay λY=>?_);refine AWP.cond rfl (λhd=>?_) (λhd=>?_)
  ·(repeat first|refine WK ?_|refine Ai λX=>?_|refine Ay λY=>?_)
   refine RT ?_;refine AI ?_;rw[Gp h hd λj hj=>he j (by omega) hj]
  ·(repeat first|refine WK ?_|refine Ai λX=>?_|refine Ay λY=>?_)
   refine BE (i+1) ⟨h,λj h1 h2=>?_⟩;by_cases e:j=i
   ·subst e;exact hd
   ·exact he j h1 (by omega)
 ·have h:¬i<l.length:=by simpa using hc
  (repeat first|refine WK ?_|refine Ai λX=>?_|refine Ay λY=>?_);refine RT ?_;refine AI ?_;rw[Gq λj hj=>he j hj (by omega)]
theorem EX(l:List Mark)(f:FuncId)(cap:List AV)(p:Mark->Bool)(hs:Bs cap=true)(hl:l.length<=4611686018427387904)(hf:∀x∈l,PS Tryz.prog f (Bb x::cap) (bA (p x))):PS Tryz.prog 84 [.lst false 58 3 (l.map Bb),.fn f cap] (bA (l.any p)):=by
 refine Spec.of (nt:=9) (res:=[.tmp 4]) Tryz.func84 rfl (by kernel_rfl) rfl rfl rfl λSf=>?_
 (repeat first|(refine AOps.gN ?_;first|(refine AOps.g_callf ?_;first|refine AOps.c2 (h:=(JL l f cap p hs hl hf)) (k:=?_)))|refine WK ?_|refine Ai λX=>?_|refine Ay λY=>?_);refine RT ?_;refine AI ?_;rw[<-Ln]
theorem OP(m:Mark)(n:Int):PS Tryz.prog 85 [Bb m,.fp [iA n]] (bA (decide (m.n=n)&&decide (m.kind= -1))):=by
 refine Spec.of (nt:=13) (res:=[.tmp 3]) Tryz.func85 rfl (by kernel_rfl) rfl rfl rfl λSf=>?_
 cases g:decide (m.n=n)with
 |true=>
  refine RG ?_;(repeat first|(refine AOps.gN ?_;first|(refine AOps.g_box ?_;refine Aw ?_))|refine WO ?_|refine Ai λX=>?_|refine Ay λY=>?_);refine NL ?_;refine FL ?_;refine RG ?_;(repeat first|refine WO ?_|refine Ai λX=>?_|refine Ay λY=>?_);refine NL ?_;refine RT ?_;refine AI ?_;rfl
 |false=>
  refine RG ?_;(repeat first|(refine AOps.gN ?_;first|(refine AOps.g_box ?_;refine Aw ?_))|refine WO ?_|refine Ai λX=>?_|refine Ay λY=>?_);refine NL ?_;refine FL ?_;refine RG ?_;(repeat first|(refine AOps.gQ ?_;first|refine AOps.goNU ?_|refine AOps.goNV ?_)|refine WO ?_|refine Ai λX=>?_|refine Ay λY=>?_);refine NL ?_;refine RT ?_;refine AI ?_;rfl
theorem OO(m:Mark)(n k:Int):PS Tryz.prog 86 [Bb m,.fp [iA n],.fp [iA k]] (bA (decide (m.n=n)&&decide (m.kind=k))):=by
 refine Spec.of (nt:=15) (res:=[.tmp 4]) Tryz.func86 rfl (by kernel_rfl) rfl rfl rfl λSf=>?_
 cases g:decide (m.n=n)with
 |true=>
  refine RG ?_;(repeat first|(refine AOps.gN ?_;first|(refine AOps.g_box ?_;refine Aw ?_))|refine WO ?_|refine Ai λX=>?_|refine Ay λY=>?_);refine NL ?_;refine FL ?_;refine RG ?_;(repeat first|refine WO ?_|refine Ai λX=>?_|refine Ay λY=>?_);refine NL ?_;refine RT ?_;refine AI ?_;rfl
 |false=>
  refine RG ?_;(repeat first|(refine AOps.gN ?_;first|(refine AOps.g_box ?_;refine Aw ?_))|refine WO ?_|refine Ai λX=>?_|refine Ay λY=>?_);refine NL ?_;refine FL ?_;refine RG ?_;(repeat first|(refine AOps.gQ ?_;first|refine AOps.goNU ?_|refine AOps.goNV ?_)|refine WO ?_|refine Ai λX=>?_|refine Ay λY=>?_);refine NL ?_;refine RT ?_;refine AI ?_;rfl
def Cr(x y:Item)(n:Int)(l:List Mark)(i:Nat):List Comp:=(List.range i).flatMap λ(k:Nat)=>Av (if l.any (λm=>decide (m.n=n)&&decide (m.kind=(k:Nat)))then y else x) k
theorem GJ(x y:Item)(n:Int)(l:List Mark)(i:Nat):Cr x y n l (i+1)=Cr x y n l i++Av (if l.any (λm=>decide (m.n=n)&&decide (m.kind=(i:Nat)))then y else x) i:=by
 unfold Cr;rw[List.range_succ,List.flatMap_append,List.flatMap_singleton]
theorem Ew(x y:Item)(n:Int)(l:List Mark):∀i:Nat,(Cr x y n l i).length<=i
 |0=>Nat.le_refl _
 |i+1=>by
  have h1:=Ew x y n l i;have h2:=EY (if l.any (λm=>decide (m.n=n)&&decide (m.kind=(i:Nat)))then y else x) i;rw[GJ,List.length_append];omega
theorem GI(a b:List Item)(l:List Mark)(i:Nat):CS a b l (i+1)=CS a b l i++if 0<=(Eb (Az a i) (Az b i) i l).ent.n then[Eb (Az a i) (Az b i) i l]else[]:=by
 unfold CS;rw[List.range_succ,List.map_append,List.filter_append,List.map_singleton]
 congr 1
 by_cases h:0<=(Eb (Az a i) (Az b i) i l).ent.n
 ·rw[if_pos h,List.filter_cons,if_pos (decide_eq_true h)];rfl
 ·rw[if_neg h,List.filter_cons,if_neg (by simpa using h)];rfl
theorem HM(a b:List Item)(l:List Mark):∀i:Nat,(CS a b l i).length<=i
 |0=>Nat.le_refl _
 |i+1=>by
  have h1:=HM a b l i;rw[GI,List.length_append];split<;>simp<;>omega
set_option maxRecDepth 8000 in
set_option maxHeartbeats 4000000 in
theorem PQ(a b:Wd)(l:List Mark)(ha:WdOK a)(hb:WdOK b)(hk:a.kinds=b.kinds)(hp:WdOK (FP a b l))(hl:l.length<=4611686018427387904):PS Tryz.prog 27 [wdA false a,wdA false b,DI false l] (.tup [wdA false (FP a b l),iA 0]):=by
 have hLa:=ha.wl;have hLb:=hb.wl;have hLp:=hp.wl;have hch:=D7 a b ha hb hk;have hcp:=EZ (FP a b l) hLp.gens hLp.items.1 (λit hit=>(hLp.items.2 it hit).1);rw[(A8 _).2 hp]at hcp;have hcy:=RI a hLa;have hgc:=Dq b.gens (by have:=hb.gl;omega);have hma:(a.gens.map iA).length=a.gens.length:=List.length_map _;have hmb:(b.gens.map iA).length=b.gens.length:=List.length_map _;have hga:=ha.gl;have hgb:=hb.gl;have hmx:(if((a.gens.map iA).length:Int)<((b.gens.map iA).length:Nat)then(((b.gens.map iA).length:Nat):Int)else((a.gens.map iA).length:Nat))=(CA a b:Nat):=by rw[hma,hmb];exact Nf _ _
 have hN:CA a b<=1048576:=by unfold CA;omega
 have hpo:FP a b l=⟨a.kinds,b.gens,CS a.items b.items l (CA a b)⟩:=rfl;obtain⟨N,hNe⟩:∃N,CA a b=N:=⟨_,rfl⟩;rw[hNe]at hmx hN hpo;refine Spec.of (nt:=95) (res:=[.cell 6 26,.tmp 7]) Tryz.func27 rfl (by kernel_rfl) rfl rfl rfl λSf=>?_
 refine RG ?_;(repeat first|(refine AOps.gN ?_;first|(refine AOps.g_box ?_;refine Aw ?_))|refine WO ?_|refine Ai λR=>?_|refine Ay λY=>?_);refine NL ?_;refine FL ?_;refine RG ?_;(repeat first|(refine AOps.gN ?_;first|(refine AOps.g_callf ?_;first|refine AOps.c2 (h:=(hch ..)) (k:=?_)))|refine WO ?_|refine Ai λX=>?_|refine Ay λY=>?_);refine NL ?_;refine FL ?_;refine RG ?_;(repeat first|refine WO ?_|refine Ai λX=>?_|refine Ay λY=>?_);refine NL ?_;refine AE rfl rfl ?_;refine FL ?_;refine RG ?_;(repeat first|(refine AOps.gN ?_;first|(refine AOps.g_callf ?_;first|refine AOps.c1 (h:=(hcy ..)) (k:=?_)))|refine WO ?_|refine Ai λV=>?_|refine Ay λY=>?_);refine NL ?_;refine FL ?_;refine RG ?_;(repeat first|(refine AOps.gN ?_;first|(refine AOps.g_callf ?_;first|refine AOps.c1 (h:=(hgc ..)) (k:=?_)))|refine WO ?_|refine Ai λX=>?_|refine Ay λY=>?_);refine NL ?_;refine FL ?_;refine RG ?_;(repeat first|refine WO ?_|refine Ai λX=>?_|refine Ay λY=>?_);refine NL ?_;refine FL ?_;refine AWP.adoptIn (Y:=V) 71 3 .here (λF=>.cons (.agg (.cons .same (.cons .same (.cons (.base .nil) .nil)))) .nil) λI=>?_
 refine RG ?_;(repeat first|refine WO ?_|refine Ai λX=>?_|refine Ay λY=>?_);refine NL ?_;rw[hmx];refine FL ?_;refine BO (λ(i I:Nat)=>⟨[(2,DI false l),(3,.fp (wdA false a).cells),(4,.fp (wdA false b).cells),(6,.ptr R 0 0),(10,.ptr V 0 0),(41,iA N),(42,iA i)],(I,.row 71 3 ((CS a.items b.items l i).map (AA false)))::(V,.row 26 3 [.agg [Ak false false a.kinds,AR false b.gens,.sl I 0 (CS a.items b.items l i).length]])::(R,.row 26 3 [Mi])::Sf⟩) (λi _=>i<=N) (λi _=>N-i) 0 I (Nat.zero_le _) ?_;rintro i I hi;refine RG ?_;(repeat first|refine WO ?_|refine Ai λX=>?_|refine Ay λY=>?_);refine NL ?_;refine FL ?_;refine AWP.cond rfl (λhc=>?_) (λhc=>?_)
 ·have h:i<N:=by rw[decide_eq_true_eq]at hc;omega
  have hia:=EB a i ha.so (by have:=hLa.items.1;omega);have hib:=EB b i hb.so (by have:=hLb.items.1;omega);have hnx:=GI a.items b.items l i;have hln:=HM a.items b.items l i;have hxl:=FM ha.so hLa.items i;have hyl:=FM hb.so hLb.items i;obtain⟨x,hx⟩:∃x,Az a.items i=x:=⟨_,rfl⟩;obtain⟨y,hy⟩:∃y,Az b.items i=y:=⟨_,rfl⟩;rw[hx]at hia hnx hxl;rw[hy]at hib hnx hyl;have hcf:=EX l 85 [.fp [iA i]] (λm=>decide (m.n=(i:Nat))&&decide (m.kind= -1)) rfl hl (λm _=>OP m i);obtain⟨q,hq⟩:∃q,(l.any λm=>decide (m.n=(i:Nat))&&decide (m.kind= -1))=q:=⟨_,rfl⟩;rw[hq]at hcf;obtain⟨⟨xn,xg⟩,xc⟩:=x;obtain⟨⟨yn,yg⟩,yc⟩:=y
  have hpi:Eb ⟨⟨xn,xg⟩,xc⟩ ⟨⟨yn,yg⟩,yc⟩ i l=⟨if q then⟨yn,yg⟩else⟨xn,xg⟩,Cr ⟨⟨xn,xg⟩,xc⟩ ⟨⟨yn,yg⟩,yc⟩ i l 16⟩:=by
   unfold Eb Cr;rw[hq]
  rw[hpi]at hnx;dsimp only at hnx;obtain⟨M,hM⟩:∃M,CS a.items b.items l i=M:=⟨_,rfl⟩;rw[hM]at hnx hln⊢;have hMl:(M.map (AA false)).length=M.length:=List.length_map _;refine FL ?_;refine RG ?_;(repeat first|refine WO ?_|refine Ai λX=>?_|refine Ay λY=>?_);refine NL ?_;refine FL ?_;refine AWP.iceP [11] (by exact At.f) ?_ (λd hd=>by rw[List.mem_singleton.1 hd];rfl);refine AWP.rs λX1=>AWP.rs λY1=>?_
  refine RU ?_;(repeat first|(refine RGo.gN ?_;first|(refine RGo.g_callf ?_;first|refine RGo.c2 (h:=(hia ..)) (k:=?_)|refine RGo.c2 (h:=(hib ..)) (k:=?_)))|(refine RGo.gQ ?_;first|(refine RGo.g_callf ?_;first|refine RGo.c2 (h:=(hia ..)) (k:=?_)|refine RGo.c2 (h:=(hib ..)) (k:=?_)))|refine RK ?_|refine RGo.nil (by kernel_rfl) ?_);(repeat refine WF ?_);refine RG ?_;(repeat first|(refine AOps.gN ?_;first|(refine AOps.g_callf ?_;first|refine AOps.c2 (h:=(hcf ..)) (k:=?_)))|refine WO ?_|refine Ai λX=>?_|refine Ay λY=>?_);refine NL ?_;refine BD (λe:Ent=>e=if q then⟨yn,yg⟩else⟨xn,xg⟩) (λe=>⟨[(2,DI false l),(3,.fp (wdA false a).cells),(4,.fp (wdA false b).cells),(6,.ptr R 0 0),(10,.ptr V 0 0),(11,.fp [iA i]),(12,.ptr Y1 0 0),(13,.ptr X1 0 0),(41,iA N),(42,iA i)],(Y1,.row 71 3 [AA false ⟨e,xc⟩])::(X1,.row 71 3 [AA false ⟨⟨yn,yg⟩,yc⟩])::(I,.row 71 3 (M.map (AA false)))::(V,.row 26 3 [.agg [Ak false false a.kinds,AR false b.gens,.sl I 0 M.length]])::(R,.row 26 3 [Mi])::Sf⟩) ?_ ?_
  ·cases q with
   |true=>
    refine AQ rfl rfl ?_;refine FL ?_;refine RG ?_;(repeat first|refine WO ?_|refine Ai λX=>?_|refine Ay λY=>?_);refine NL ?_;exact jn ⟨yn,yg⟩ rfl
   |false=>
    refine AE rfl rfl ?_;refine FL ?_;exact jn ⟨xn,xg⟩ rfl
  rintro e he;rw[<-he]at hnx;clear he hpi;obtain⟨en,eg⟩:=e;dsimp only at hnx;refine FL ?_;refine RG ?_;(repeat first|refine WO ?_|refine Ai λX=>?_|refine Ay λY=>?_);refine NL ?_;refine AWP.cond rfl (λh0=>?_) (λh0=>?_)
  ·have h0:en<0:=of_decide_eq_true h0
   rw[if_neg (by omega),List.append_nil]at hnx;rw[<-hnx];refine FL ?_;refine RG ?_;(repeat first|refine WO ?_|refine Ai λX=>?_|refine Ay λY=>?_);refine NL ?_;exact As (i+1) I h (by omega)
  ·have h0:¬en<0:=of_decide_eq_false h0
   rw[if_pos (by omega)]at hnx;refine FL ?_;refine RG ?_;(repeat first|refine WO ?_|refine Ai λD=>?_|refine Ay λY=>?_);refine NL ?_;refine FL ?_;refine AWP.adoptIn (Y:=D) 42 2 .here (λF=>.cons (.agg (.cons .same (.cons .same (.cons (.base .nil) .nil)))) .nil) λC=>?_
   refine RG ?_;(repeat first|refine WO ?_|refine Ai λX=>?_|refine Ay λY=>?_);refine NL ?_;refine FL ?_;refine BO (λ(k C:Nat)=>⟨[(2,DI false l),(3,.fp (wdA false a).cells),(4,.fp (wdA false b).cells),(6,.ptr R 0 0),(10,.ptr V 0 0),(11,.fp [iA i]),(12,.ptr Y1 0 0),(13,.ptr X1 0 0),(14,.ptr D 0 0),(41,iA N),(42,iA i),(64,iA k)],(C,.row 42 2 ((Cr ⟨⟨xn,xg⟩,xc⟩ ⟨⟨yn,yg⟩,yc⟩ i l k).map (AD false)))::(D,.row 71 3 [.agg [iA en,iA eg,.sl C 0 (Cr ⟨⟨xn,xg⟩,xc⟩ ⟨⟨yn,yg⟩,yc⟩ i l k).length]])::(Y1,.row 71 3 [AA false ⟨⟨en,eg⟩,xc⟩])::(X1,.row 71 3 [AA false ⟨⟨yn,yg⟩,yc⟩])::(I,.row 71 3 (M.map (AA false)))::(V,.row 26 3 [.agg [Ak false false a.kinds,AR false b.gens,.sl I 0 M.length]])::(R,.row 26 3 [Mi])::Sf⟩) (λk _=>k<=16) (λk _=>16-k) 0 C (Nat.zero_le _) ?_;rintro k C hk16;refine RG ?_;(repeat first|refine WO ?_|refine Ai λX=>?_|refine Ay λY=>?_);refine NL ?_;refine FL ?_;refine AWP.cond rfl (λhd=>?_) (λhd=>?_)
   ·have hk:k<16:=by rw[decide_eq_true_eq]at hd;omega
    have hcf2:=EX l 86 [.fp [iA i],.fp [iA k]] (λm=>decide (m.n=(i:Nat))&&decide (m.kind=(k:Nat))) rfl hl (λm _=>OO m i k);have hcn:=GJ ⟨⟨xn,xg⟩,xc⟩ ⟨⟨yn,yg⟩,yc⟩ i l k;have hcl:=Ew ⟨⟨xn,xg⟩,xc⟩ ⟨⟨yn,yg⟩,yc⟩ i l k;obtain⟨p,hpe⟩:∃p,(l.any λm=>decide (m.n=(i:Nat))&&decide (m.kind=(k:Nat)))=p:=⟨_,rfl⟩;rw[hpe]at hcf2 hcn;obtain⟨L,hL⟩:∃L,Cr ⟨⟨xn,xg⟩,xc⟩ ⟨⟨yn,yg⟩,yc⟩ i l k=L:=⟨_,rfl⟩;rw[hL]at hcn hcl⊢;have hLm:(L.map (AD false)).length=L.length:=List.length_map _;refine FL ?_;refine RG ?_;(repeat first|refine WO ?_|refine Ai λK=>?_|refine Ay λY=>?_);refine NL ?_;refine FL ?_;refine AWP.iceP [15] (by exact At.f) ?_ (λd hd=>by rw[List.mem_singleton.1 hd];rfl);refine RG ?_;(repeat first|refine WO ?_|refine Ai λQ=>?_|refine Ay λY=>?_);refine NL ?_;refine FL ?_;refine RG ?_;(repeat first|(refine AOps.gN ?_;first|(refine AOps.g_callf ?_;first|refine AOps.c2 (h:=(hcf2 ..)) (k:=?_)))|refine WO ?_|refine Ai λX=>?_|refine Ay λY=>?_);refine NL ?_;refine BD (λz:Item=>CsL z.comps/\Av z k=Av (if p then⟨⟨yn,yg⟩,yc⟩else⟨⟨xn,xg⟩,xc⟩) k) (λz=>⟨[(2,DI false l),(3,.fp (wdA false a).cells),(4,.fp (wdA false b).cells),(6,.ptr R 0 0),(10,.ptr V 0 0),(11,.fp [iA i]),(12,.ptr Y1 0 0),(13,.ptr X1 0 0),(14,.ptr D 0 0),(15,.fp [iA k]),(16,.ptr Q 0 0),(41,iA N),(42,iA i),(64,iA k)],(Q,.row 71 3 [AA false z])::(C,.row 42 2 (L.map (AD false)))::(D,.row 71 3 [.agg [iA en,iA eg,.sl C 0 L.length]])::(Y1,.row 71 3 [AA false ⟨⟨en,eg⟩,xc⟩])::(X1,.row 71 3 [AA false ⟨⟨yn,yg⟩,yc⟩])::(I,.row 71 3 (M.map (AA false)))::(V,.row 26 3 [.agg [Ak false false a.kinds,AR false b.gens,.sl I 0 M.length]])::(R,.row 26 3 [Mi])::Sf⟩) ?_ ?_
    ·cases p with
     |true=>
      refine AQ rfl rfl ?_;refine FL ?_;refine RG ?_;(repeat first|refine WO ?_|refine Ai λX=>?_|refine Ay λY=>?_);refine NL ?_;exact jn ⟨⟨yn,yg⟩,yc⟩ ⟨hyl,rfl⟩
     |false=>
      refine AE rfl rfl ?_;refine FL ?_;exact jn ⟨⟨en,eg⟩,xc⟩ ⟨hxl,rfl⟩
    rintro z ⟨hzl,hzk⟩;rw[<-hzk]at hcn;have hmc:=Ez z k hzl.1;have hcc:=Di (Av z k) (by have:=EY z k;omega) (λc hc=>hzl.2 c (J2 hc));have hkl:=EY z k;obtain⟨K2,hK2⟩:∃K2,Av z k=K2:=⟨_,rfl⟩;rw[hK2]at hmc hcc hcn hkl;have hK2m:(K2.map (AD false)).length=K2.length:=List.length_map _;have hb1:(L.map (AD false)).length+(K2.map (AD false)).length<=1099511627776:=by omega
    refine FL ?_;refine AWP.rs λC2=>?_
    refine RU ?_;(repeat first|(refine RGo.gN ?_;first|(refine RGo.g_callf ?_;first|refine RGo.c2 (h:=(hmc ..)) (k:=?_)|refine RGo.c1 (h:=(hcc ..)) (k:=?_)))|(refine RGo.gQ ?_;first|(refine RGo.g_callf ?_;first|refine RGo.c2 (h:=(hmc ..)) (k:=?_)|refine RGo.c1 (h:=(hcc ..)) (k:=?_)))|refine RK ?_|refine RGo.nil (by kernel_rfl) ?_);have hm1:L.map (AD false)++K2.map (AD false)=(Cr ⟨⟨xn,xg⟩,xc⟩ ⟨⟨yn,yg⟩,yc⟩ i l (k+1)).map (AD false):=by rw[hcn,List.map_append]
    have hm2:L.length+(K2.map (AD false)).length=(Cr ⟨⟨xn,xg⟩,xc⟩ ⟨⟨yn,yg⟩,yc⟩ i l (k+1)).length:=by rw[hcn,List.length_append,hK2m]
    dsimp only[AN,List.set_cons_zero,List.set_cons_succ,List.cons_append,List.nil_append];rw[hm1,hm2];(repeat refine WF ?_);refine RG ?_;(repeat first|refine WO ?_|refine Ai λX=>?_|refine Ay λY=>?_);refine NL ?_;exact As (k+1) C2 hk (by omega)
   ·have hk:k=16:=by rw[decide_eq_false_iff_not]at hd;omega
    subst hk;have hcl:=Ew ⟨⟨xn,xg⟩,xc⟩ ⟨⟨yn,yg⟩,yc⟩ i l 16;obtain⟨L,hL⟩:∃L,Cr ⟨⟨xn,xg⟩,xc⟩ ⟨⟨yn,yg⟩,yc⟩ i l 16=L:=⟨_,rfl⟩;rw[hL]at hnx hcl⊢;have hLm:(L.map (AD false)).length=L.length:=List.length_map _;refine FL ?_;refine AWP.iceIn (X:=C) (Y:=D) .here (.next .here) rfl (.cons (.agg (.cons .same (.cons .same (.cons (.base (.sl (by omega))) .nil)))) .nil) ?_
    have hC:Ah (((L.map (AD false)).drop 0).take L.length)=L.map (AD false):=by
     rw[List.drop_zero,List.take_of_length_le (by omega)];exact Frzs.h
    rw[hC];have hb1:(M.map (AA false)).length+1<=1099511627776:=by omega
    have hm1:M.map (AA false)++[AA false ⟨⟨en,eg⟩,L⟩]=(CS a.items b.items l (i+1)).map (AA false):=by rw[hnx,List.map_append];rfl
    have hm2:M.length+[AA false ⟨⟨en,eg⟩,L⟩].length=(CS a.items b.items l (i+1)).length:=by rw[hnx,List.length_append];rfl
    refine RG ?_;(repeat first|(refine AOps.gN ?_;first|(refine AOps.g_lit ?_;refine AOps.goL (AA false ⟨⟨en,eg⟩,L⟩) ?_))|refine WO ?_|refine Ai λX=>?_|refine Ay λY=>?_);refine NL ?_;dsimp only[AN,List.set_cons_zero,List.set_cons_succ,List.cons_append,List.nil_append];rw[hm1,hm2];refine FL ?_;refine RG ?_;(repeat first|refine WO ?_|refine Ai λX=>?_|refine Ay λY=>?_);refine NL ?_;exact As (i+1) Y h (by omega)
 ·have h:i=N:=by rw[decide_eq_false_iff_not]at hc;omega
  subst h;obtain⟨M,hM⟩:∃M,CS a.items b.items l i=M:=⟨_,rfl⟩;rw[hM]at hpo⊢;rw[hpo]at hcp⊢;have hMl:(M.map (AA false)).length=M.length:=List.length_map _;refine FL ?_;refine AWP.iceIn (X:=I) (Y:=V) .here (.next .here) rfl (.cons (.agg (.cons .same (.cons .same (.cons (.base (.sl (by omega))) .nil)))) .nil) ?_
  have hI:Ah (((M.map (AA false)).drop 0).take M.length)=M.map (AA false):=by
   rw[List.drop_zero,List.take_of_length_le (by omega)];exact Frzs.h
  rw[hI];refine RG ?_;(repeat first|(refine AOps.gN ?_;first|(refine AOps.g_callf ?_;first|refine AOps.c1 (h:=(hcp ..)) (k:=?_)))|refine WO ?_|refine Ai λX=>?_|refine Ay λY=>?_);refine NL ?_;refine FL ?_;refine RG ?_;(repeat first|refine WO ?_|refine Ai λX=>?_|refine Ay λY=>?_);refine NL ?_;refine AE rfl rfl ?_;refine FL ?_;refine RG ?_;(repeat first|refine WO ?_|refine Ai λX=>?_|refine Ay λY=>?_);refine NL ?_;refine RT ?_;exact BN [wdA false ⟨a.kinds,b.gens,M⟩,iA 0] [wdA false ⟨a.kinds,b.gens,M⟩,iA 0] (.cons (.cell .same) (.cons (.cell .same) .nil))
theorem JV(a b:List Kind)(f:FuncId)(cap:List AV)(p:Kind->Kind->Bool)(hs:Bs cap=true)(hl:a.length<=4611686018427387904)(hf:∀x∈a,∀y∈b,PS Tryz.prog f ((An false) x::(An false) y::cap) (bA (p x y))):
  PS Tryz.prog 104 [.lst false 118 2 (a.map (An false)),.lst false 118 2 (b.map (An false)),.fn f cap] (bA (eqF p a b)):=by
 refine Spec.of (nt:=32) (res:=[.tmp 6]) Tryz.func104 rfl (by kernel_rfl) rfl rfl rfl λSf=>?_
 (repeat first|refine WK ?_|refine Ai λX=>?_|refine Ay λY=>?_);refine AWP.cond rfl (λhb=>?_) (λhb=>?_)
 ·have hb:a.length≠b.length:=by simp at hb;omega
  (repeat first|refine WK ?_|refine Ai λX=>?_|refine Ay λY=>?_);refine RT ?_;refine AI ?_;rw[Hq hb]
 ·have hb:a.length=b.length:=by simp at hb;omega
  (repeat first|refine WK ?_|refine Ai λX=>?_|refine Ay λY=>?_);refine BT (λi:Nat=>⟨[(0,.lst false 118 2 (a.map (An false))),(1,.lst false 118 2 (b.map (An false))),(2,.fn f cap),(15,.lst false 118 2 (a.map (An false))),(16,iA (a.map (An false)).length),(17,iA i)],Sf⟩) (λi=>i<=a.length/\∀j (h:j<a.length),j<i->p a[j] (b[j]'(by omega))=true) (λi=>a.length-i) 0 ⟨Nat.zero_le _,λj h hj=>absurd hj (by omega)⟩ ?_;rintro i ⟨hi,he⟩;(repeat first|refine WK ?_|refine Ai λX=>?_|refine Ay λY=>?_);refine AWP.cond rfl (λhc=>?_) (λhc=>?_)
  ·have h:i<a.length:=by simpa using hc
   have h':i<b.length:=by omega
   (repeat first|(refine AOps.gN ?_;first|(refine AOps.g_callv ?_;first|refine AOps.k2 (h:=(hf _ (List.getElem_mem h) _ (List.getElem_mem h'))) (k:=?_)))|refine WK ?_|refine Ai λX=>?_|refine Ay λY=>?_);refine AWP.cond rfl (λhd=>?_) (λhd=>?_)
   ·have hd:p a[i] b[i]=false:=by simpa using hd
    (repeat first|refine WK ?_|refine Ai λX=>?_|refine Ay λY=>?_);refine RT ?_;refine AI ?_;rw[Kh hb h hd]
   ·have hd:p a[i] b[i]=true:=by simpa using hd
    (repeat first|refine WK ?_|refine Ai λX=>?_|refine Ay λY=>?_);refine BE (i+1) ⟨h,λj h1 h2=>?_⟩;by_cases e:j=i
    ·subst e;exact hd
    ·exact he j h1 (by omega)
  ·have h:¬i<a.length:=by simpa using hc
   (repeat first|refine WK ?_|refine Ai λX=>?_|refine Ay λY=>?_);refine RT ?_;refine AI ?_;rw[Hp hb λj hj=>he j hj (by omega)]
theorem H9(x y:Comp)(hl:x.vals.length<=1099511627776):PS Tryz.prog 222 [AD false x,AD false y] (bA (decide (x=y))):=by
 have heq:=Gz x.vals y.vals hl;rw[<-P7];refine Spec.of (nt:=17) (res:=[.tmp 4]) Tryz.func222 rfl (by kernel_rfl) rfl rfl rfl λSf=>?_
 refine RG ?_;(repeat first|(refine AOps.gN ?_;first|(refine AOps.g_box ?_;refine Aw ?_))|refine WO ?_|refine Ai λX=>?_|refine Ay λY=>?_);refine NL ?_;rcases Bool.eq_false_or_eq_true (decide (x.kind=y.kind))with g|g
 ·rw[g]
  (repeat first|(refine AOps.gN ?_;first|(refine AOps.g_callf ?_;first|refine AOps.c2 (h:=(heq ..)) (k:=?_)))|refine WK ?_|refine Ai λX=>?_|refine Ay λY=>?_);refine RT ?_;refine AI ?_;rfl
 ·rw[g]
  (repeat first|refine WK ?_|refine Ai λX=>?_|refine Ay λY=>?_);refine RT ?_;refine AI ?_;rfl
theorem JD(a b:List Comp)(hl:CsL a):PS Tryz.prog 161 [Al false false a,Al false false b] (bA (decide (a=b))):=by
 have h:=Fe a b 222 [] (λx y=>decide (x=y)) rfl (by have:=hl.1;omega) (λx hx y _=>H9 x y (hl.2 x hx));rw[Is λ_ _ _ _=>rfl]at h;refine Spec.of (nt:=8) (res:=[.tmp 4]) Tryz.func161 rfl (by kernel_rfl) rfl rfl rfl λSf=>?_
 (repeat first|(refine AOps.gN ?_;first|(refine AOps.g_callf ?_;first|refine AOps.c3 (h:=(h ..)) (k:=?_)))|refine WK ?_|refine Ai λX=>?_|refine Ay λY=>?_);refine RT ?_;refine AI ?_;rfl
theorem H8(x y:Item)(hl:CsL x.comps):PS Tryz.prog 160 [AA false x,AA false y] (bA (decide (x=y))):=by
 have heq:=JD x.comps y.comps hl;rw[<-Ry];refine Spec.of (nt:=17) (res:=[.tmp 4]) Tryz.func160 rfl (by kernel_rfl) rfl rfl rfl λSf=>?_
 refine RG ?_;(repeat first|(refine AOps.gN ?_;first|(refine AOps.g_box ?_;refine Aw ?_))|refine WO ?_|refine Ai λX=>?_|refine Ay λY=>?_);refine NL ?_;have hE:=P0 x.ent.n x.ent.gen y.ent.n y.ent.gen;rw[show(decide (x.ent.n=y.ent.n)&&decide (x.ent.gen=y.ent.gen))=LG x.ent y.ent from rfl]at hE;cases hb:LG x.ent y.ent
 ·rw[hb]at hE
  (repeat first|(refine AOps.gN ?_;first|refine AOps.p (W.eqP _ _ (by kernel_rfl) hE rfl rfl) rfl ?_)|refine WK ?_|refine Ai λX=>?_|refine Ay λY=>?_);refine RT ?_;refine AI ?_;rfl
 ·rw[hb]at hE
  (repeat first|(refine AOps.gN ?_;first|(refine AOps.g_callf ?_;first|refine AOps.c2 (h:=(heq ..)) (k:=?_))|refine AOps.p (W.eqP _ _ (by kernel_rfl) hE rfl rfl) rfl ?_)|refine WK ?_|refine Ai λX=>?_|refine Ay λY=>?_);refine RT ?_;refine AI ?_;rfl
theorem JC(a b:List Item)(hl:ItL a):PS Tryz.prog 79 [Ef false false a,Ef false false b] (bA (decide (a=b))):=by
 have h:=JU a b 160 [] (λx y=>decide (x=y)) rfl (by have:=hl.1;omega) (λx hx y _=>H8 x y (hl.2 x hx));rw[Is λ_ _ _ _=>rfl]at h;refine Spec.of (nt:=8) (res:=[.tmp 4]) Tryz.func79 rfl (by kernel_rfl) rfl rfl rfl λSf=>?_
 (repeat first|(refine AOps.gN ?_;first|(refine AOps.g_callf ?_;first|refine AOps.c3 (h:=(h ..)) (k:=?_)))|refine WK ?_|refine Ai λX=>?_|refine Ay λY=>?_);refine RT ?_;refine AI ?_;rfl
theorem Ol(a b:List Field)(hl:a.length<=1099511627776):PS Tryz.prog 106 [Dh false a,Dh false b] (bA (decide (a=b))):=by
 refine Spec.of (nt:=26) (res:=[.tmp 4]) Tryz.func106 rfl (by kernel_rfl) rfl rfl rfl λSf=>?_
 (repeat first|refine WK ?_|refine Ai λX=>?_|refine Ay λY=>?_);refine AWP.cond rfl (λhb=>?_) (λhb=>?_)
 ·have hb:a.length≠b.length:=by simp at hb;omega
  (repeat first|refine WK ?_|refine Ai λX=>?_|refine Ay λY=>?_);refine RT ?_;refine AI ?_;rw[decide_eq_false λe=>hb (by rw[e])]
 ·have hb:a.length=b.length:=by simp at hb;omega
  (repeat first|refine WK ?_|refine Ai λX=>?_|refine Ay λY=>?_);refine BT (λi:Nat=>⟨[(0,Dh false a),(1,Dh false b),(12,iA (a.map fieldA).length),(13,iA i)],Sf⟩) (λi=>i<=a.length/\∀j (h:j<a.length),j<i->a[j]=b[j]'(by omega)) (λi=>a.length-i) 0 ⟨Nat.zero_le _,λj h hj=>absurd hj (by omega)⟩ ?_;rintro i ⟨hi,he⟩;(repeat first|refine WK ?_|refine Ai λX=>?_|refine Ay λY=>?_);refine AWP.cond rfl (λhc=>?_) (λhc=>?_)
  ·have h:i<a.length:=by simpa using hc
   have h':i<b.length:=by omega
   obtain⟨f,hf⟩:∃f,a[i]=f:=⟨_,rfl⟩;obtain⟨g,hg⟩:∃g,b[i]=g:=⟨_,rfl⟩;have haf:(a.map fieldA)[i]?=some (fieldA f):=by rw[List.getElem?_map,List.getElem?_eq_getElem h,hf];rfl
   have hag:(b.map fieldA)[i]?=some (fieldA g):=by rw[List.getElem?_map,List.getElem?_eq_getElem h',hg];rfl
   (repeat first|refine WK ?_|refine Ai λX=>?_|refine Ay λY=>?_);refine RU ?_;(repeat first|(refine RGo.gN ?_;first|refine RGo.p (W.neP _ _ (by kernel_rfl) (GV f g) rfl rfl) rfl ?_)|(refine RGo.gQ ?_;first|refine RGo.p (W.neP _ _ (by kernel_rfl) (GV f g) rfl rfl) rfl ?_)|refine RK ?_|refine RGo.nil (by kernel_rfl) ?_);(repeat first|refine WK ?_|refine Ai λX=>?_|refine Ay λY=>?_);refine AWP.cond rfl (λhd=>?_) (λhd=>?_)
   ·have hd:f≠g:=by simpa using hd
    (repeat first|refine WK ?_|refine Ai λX=>?_|refine Ay λY=>?_);refine RT ?_;refine AI ?_;rw[decide_eq_false λe=>hd (by subst e;rw[<-hf,<-hg])]
   ·have hd:f=g:=by simpa using hd
    (repeat first|refine WK ?_|refine Ai λX=>?_|refine Ay λY=>?_);refine BE (i+1) ⟨h,λj h1 h2=>?_⟩;by_cases e:j=i
    ·subst e;rw[hf,hg,hd]
    ·exact he j h1 (by omega)
  ·have h:¬i<a.length:=by simpa using hc
   (repeat first|refine WK ?_|refine Ai λX=>?_|refine Ay λY=>?_);refine RT ?_;refine AI ?_;rw[decide_eq_true (List.ext_getElem hb λj h1 h2=>he j h1 (by omega))]
theorem Rx(x y:Kind):(decide (x.name=y.name)&&decide (x.fields=y.fields))=decide (x=y):=by
 obtain⟨k,v⟩:=x;obtain⟨k',v'⟩:=y;rw[Bool.eq_iff_iff];simp
theorem H7(x y:Kind)(hl:x.fields.length<=1099511627776):PS Tryz.prog 159 [An false x,An false y] (bA (decide (x=y))):=by
 have heq:=Ol x.fields y.fields hl;rw[<-Rx];refine Spec.of (nt:=17) (res:=[.tmp 4]) Tryz.func159 rfl (by kernel_rfl) rfl rfl rfl λSf=>?_
 refine RG ?_;(repeat first|(refine AOps.gN ?_;first|(refine AOps.g_box ?_;refine Aw ?_))|refine WO ?_|refine Ai λX=>?_|refine Ay λY=>?_);refine NL ?_;rcases Bool.eq_false_or_eq_true (decide (x.name=y.name))with g|g
 ·rw[g]
  (repeat first|(refine AOps.gN ?_;first|(refine AOps.g_callf ?_;first|refine AOps.c2 (h:=(heq ..)) (k:=?_)))|refine WK ?_|refine Ai λX=>?_|refine Ay λY=>?_);refine RT ?_;refine AI ?_;rfl
 ·rw[g]
  (repeat first|refine WK ?_|refine Ai λX=>?_|refine Ay λY=>?_);refine RT ?_;refine AI ?_;rfl
theorem JB(a b:List Kind)(hl:KsL a):PS Tryz.prog 78 [Ak false false a,Ak false false b] (bA (decide (a=b))):=by
 have h:=JV a b 159 [] (λx y=>decide (x=y)) rfl (by have:=hl.1;omega) (λx hx y _=>H7 x y (hl.2 x hx));rw[Is λ_ _ _ _=>rfl]at h;refine Spec.of (nt:=8) (res:=[.tmp 4]) Tryz.func78 rfl (by kernel_rfl) rfl rfl rfl λSf=>?_
 (repeat first|(refine AOps.gN ?_;first|(refine AOps.g_callf ?_;first|refine AOps.c3 (h:=(h ..)) (k:=?_)))|refine WK ?_|refine Ai λX=>?_|refine Ay λY=>?_);refine RT ?_;refine AI ?_;rfl
set_option maxRecDepth 4000 in
theorem PG(a b:Wd)(hl:WdL a):PS Tryz.prog 23 [wdA false a,wdA false b] (bA (decide (a=b))):=by
 have h1:=JB a.kinds b.kinds hl.ks;have h2:=Gz a.gens b.gens hl.gens;have h3:=JC a.items b.items hl.items;rw[<-SU];refine Spec.of (nt:=24) (res:=[.tmp 4]) Tryz.func23 rfl (by kernel_rfl) rfl rfl rfl λSf=>?_
 refine RG ?_;(repeat first|(refine AOps.gN ?_;first|(refine AOps.g_box ?_;refine Aw ?_))|refine WO ?_|refine Ai λX=>?_|refine Ay λY=>?_);refine NL ?_;obtain⟨b1,e1⟩:∃b1,decide (a.kinds=b.kinds)=b1:=⟨_,rfl⟩;obtain⟨b2,e2⟩:∃b2,decide (a.gens=b.gens)=b2:=⟨_,rfl⟩;rw[e1]at h1⊢;rw[e2]at h2⊢;cases b1
 ·(repeat first|(refine AOps.gN ?_;first|(refine AOps.g_callf ?_;first|refine AOps.c2 (h:=(h1 ..)) (k:=?_)))|refine WK ?_|refine Ai λX=>?_|refine Ay λY=>?_)
  refine RT ?_;refine AI ?_;rfl
 ·cases b2
  ·(repeat first|(refine AOps.gN ?_;first|(refine AOps.g_callf ?_;first|refine AOps.c2 (h:=(h1 ..)) (k:=?_)|refine AOps.c2 (h:=(h2 ..)) (k:=?_)))|refine WK ?_|refine Ai λX=>?_|refine Ay λY=>?_)
   refine RT ?_;refine AI ?_;rfl
  ·(repeat first|(refine AOps.gN ?_;first|(refine AOps.g_callf ?_;first|refine AOps.c2 (h:=(h1 ..)) (k:=?_)|refine AOps.c2 (h:=(h2 ..)) (k:=?_)|refine AOps.c2 (h:=(h3 ..)) (k:=?_)))|refine WK ?_|refine Ai λX=>?_|refine Ay λY=>?_)
   refine RT ?_;refine AI ?_;rfl
section
open Go.RowKit
def Fh(w:World):Mem:=⟨λ_=>none,λ_=>False,w,λb=>b<w.heap.size⟩
theorem NG(w:World):Good (Fh w) (Fh w) 0 [] []:=
 ⟨λz hz=>(by cases hz),.nil,λb hb=>(by cases hb),λb h=>h,.nil,λx hx=>(by cases hx),λx h=>h.elim,.refl _,rfl,rfl,rfl,Nat.le_refl _⟩
theorem Good.bel{w:World}{m':Mem}{N:Nat}{Z:Zs}{br:List Nat}(G:Good (Fh w) m' N Z br):Below w.heap.size w m'.w:=
 ⟨G.os,G.tape,G.output,G.size,λk hk=>(G.le.F k hk).2⟩
theorem PS.calls_bool{P:Program}{f:FuncId}{args:List AV}{b:Bool}(h:PS P f args (bA b)){w:World}{vals:Array Value}(hv:VTs (Fh w) args vals.toList []):
  Calls P f vals w λe w'=>e= .returned (.bool b)/\Below w.heap.size w w':=
 (h.run [] (Fh w) 0 [] vals rfl (NG w) hv).mono λe w' ⟨v,r,S',m',N',Z',br,h1,h2,h3,G,h4,h5,h6⟩=>by
  subst h1 h2 h5;refine⟨?_,G.bel⟩;obtain⟨⟨h7,_⟩,_⟩:=h4;injection h7 with h7
  rw[h7]
theorem J6{α:Type}{m:Mem}{C:List Value->α->Prop}{sz:Nat}{f:α->AV}(hC:∀c x,C c x->VC m (f x) c []):∀{l:List α} {xs:List Value},Cells C sz xs l->VCs m (l.map f) xs []
 |[],_,h=>⟨h,rfl⟩
 |x::l,_,⟨c,ys,h1,h2,h3,h4⟩=>⟨c,ys,[],[],h1,rfl,hC c x h3,J6 hC h4⟩
theorem Iz{w:World}{b o:Nat}{u:Value}(h:w.cell? ⟨b,o,none⟩=some u):∃arr t r,w.heap[b]?=some (.cells arr t r)/\arr[o]?=some u:=by
 unfold World.cell? at h;cases hb:w.heap[b]? with
 |none=>simp only[hb]at h;cases h
 |some blk=>
  cases blk with
  |cells c t r=>simp only[hb]at h;exact⟨c,t,r,rfl,by simpa using h⟩
  |_=>simp only[hb]at h;cases h
theorem SC{α:Type}{w:World}{C:World->Reg->List Value->α->Prop}{sz:Nat}{f:α->AV}{t:TypeId}{v:Value}{l:List α}(hsz:0<sz)(hC:∀c x,C w (Lt w) c x->VC (Fh w) (f x) c [])(hw:∀x,(f x).width=sz)(h:Sl w (Lt w) sz C v l):VC (Fh w) (.lst false t sz (l.map f)) [v] []:=by
 obtain⟨xs,⟨h1,A,cap,rfl,hn,hr⟩,hc⟩:=h;refine⟨rfl,A,cap,by simp,by simpa using hn,λe he=>by obtain⟨x,_,rfl⟩:=List.mem_map.1 he;exact hw x,λh0=>?_⟩;have h0:0<l.length:=by simpa using h0
 obtain⟨b,off,rfl,hb,hcell⟩:=hr h0;have hx:0<xs.length:=by rw[h1];exact Nat.mul_pos h0 hsz
 obtain⟨arr,t',r,h2,h3⟩:=Iz (hcell 0 xs[0] (by simp));refine⟨b,off,arr,t',r,rfl,hb,h2,?_⟩
 have e:(arr.toList.drop off).take ((l.map f).length*sz)=xs:=by
  apply List.ext_getElem?;intro j;rw[List.getElem?_take];split
  ·rename_i hj
   have hj:j<xs.length:=by rw[h1];simpa using hj
   obtain⟨arr2,t2,r2,h4,h5⟩:=Iz (hcell j xs[j] (by simp));rw[h2]at h4;injection h4 with h4
   injection h4 with h4
   subst h4;rw[List.getElem?_drop,List.getElem?_eq_getElem hj];simpa using h5
  ·rename_i hj
   rw[List.getElem?_eq_none];rw[h1];simpa using hj
 rw[e];exact J6 hC hc
theorem Q0{w:World}{v:Value}{l:List Int}(h:O1 w (Lt w) v l):VC (Fh w) (AR false l) [v] []:=
 SC (f:=iA) (by decide) (λc x hc=>⟨⟨hc,rfl⟩,rfl⟩) (λ_=>rfl) h
theorem Qb{m:Mem}:VTs m [] [] []:=⟨rfl,rfl⟩
theorem K0{w:World}{v:Value}{z:List Int}{l:List AV}{us:List Value}(h:O1 w (Lt w) v z)(k:VTs (Fh w) l us []):VTs (Fh w) (AR false z::l) (v::us) []:=(BL rfl).2 ⟨_,_,[],[],rfl,rfl,Q0 h,k⟩
end
section
open Go.RowKit
set_option maxRecDepth 8000 in
theorem IJ(l m:List Int)(hl:l.length<=1048576)(hm:m.length<=1048576):PS Tryz.prog 4 [AR false l,AR false m] (bA true):=by
 have hwp:=O7 l;have hok:=Lp l;obtain⟨hk0,hk4⟩:=Lq l;obtain⟨a,ha⟩:∃a,D1 l=a:=⟨_,rfl⟩;rw[ha]at hwp hok hk0 hk4;clear ha;have hot:=PT a m hok hk0 (by omega) hm;obtain⟨hb,hbk⟩:=Mh hok hk0 m;obtain⟨b,hbe⟩:∃b,FQ a m=b:=⟨_,rfl⟩;rw[hbe]at hot hb hbk;clear hbe;have hx:=D7 a b hok hb hbk.symm;have hy:=D7 b a hb hok hbk;have hz:=D7 a a hok hok rfl;rw[NF]at hy;rw[NE]at hz;have hpc:=ON hb hbk.symm;have hxl:(Db a b).length<=1048576:=Nat.le_trans (G7 a.items b.items (CA a b)) (by have:=hok.gl;have:=hb.gl;unfold CA;omega);have hp:=PQ a b (Db a b) hok hb hbk.symm (by rw[hpc];exact hb) (by omega);rw[hpc]at hp;have heq:=Jy (Db a b) (Db a b) (by omega);rw[decide_eq_true rfl]at heq;have hsm:=PG b b hb.wl;rw[decide_eq_true rfl]at hsm;obtain⟨x,hxe⟩:∃x,Db a b=x:=⟨_,rfl⟩;rw[hxe]at hx hy hp heq;refine Spec.of (nt:=76) (res:=[.tmp 4]) Tryz.func4 rfl (by kernel_rfl) rfl rfl rfl λSf=>?_
 refine RG ?_;(repeat first|refine WO ?_|refine Ai λX=>?_|refine Ay λY=>?_);refine NL ?_;refine FL ?_;refine RG ?_;(repeat first|(refine AOps.gN ?_;first|(refine AOps.g_callf ?_;first|refine AOps.c0 (h:=(OU ..)) (k:=?_)))|refine WO ?_|refine Ai λX=>?_|refine Ay λY=>?_);refine NL ?_;refine AE rfl rfl ?_;refine FL ?_;refine RG ?_;(repeat first|(refine AOps.gN ?_;first|(refine AOps.g_callf ?_;first|refine AOps.c1 (h:=(hwp ..)) (k:=?_)))|refine WO ?_|refine Ai λV1=>?_|refine Ay λY=>?_);refine NL ?_;refine FL ?_;refine RG ?_;(repeat first|(refine AOps.gN ?_;first|(refine AOps.g_callf ?_;first|refine AOps.c2 (h:=(hot ..)) (k:=?_)))|refine WO ?_|refine Ai λV2=>?_|refine Ay λY=>?_);refine NL ?_;refine FL ?_;refine RG ?_;(repeat first|(refine AOps.gN ?_;first|(refine AOps.g_callf ?_;first|refine AOps.c2 (h:=(hx ..)) (k:=?_)))|refine WO ?_|refine Ai λX=>?_|refine Ay λY=>?_);refine NL ?_;refine FL ?_;refine RG ?_;(repeat first|(refine AOps.gN ?_;first|(refine AOps.g_callf ?_;first|refine AOps.c2 (h:=(hy ..)) (k:=?_)))|refine WO ?_|refine Ai λX=>?_|refine Ay λY=>?_);refine NL ?_;refine FL ?_;refine RG ?_;(repeat first|(refine AOps.gN ?_;first|(refine AOps.g_callf ?_;first|refine AOps.c2 (h:=(hz ..)) (k:=?_)))|refine WO ?_|refine Ai λX=>?_|refine Ay λY=>?_);refine NL ?_;refine FL ?_;refine RG ?_;(repeat first|(refine AOps.gN ?_;first|(refine AOps.g_callf ?_;first|refine AOps.c3 (h:=(hp ..)) (k:=?_)))|refine WO ?_|refine Ai λV3=>?_|refine Ay λY=>?_);refine NL ?_;refine FL ?_;refine RG ?_;(repeat first|(refine AOps.gN ?_;first|(refine AOps.g_callf ?_;first|refine AOps.c2 (h:=(heq ..)) (k:=?_)|refine AOps.c2 (h:=(hsm ..)) (k:=?_)))|refine WO ?_|refine Ai λX=>?_|refine Ay λY=>?_);refine NL ?_;refine RT ?_;refine AI ?_;rfl
theorem Ng(z0:List Int)(A0:Option Addr)(n0 cap0:Nat)(z1:List Int)(A1:Option Addr)(n1 cap1:Nat)(w:World)(h0:O1 w (Lt w) (.slice A0 n0 cap0) z0)(hlen0:z0.length<=1048576)(h1:O1 w (Lt w) (.slice A1 n1 cap1) z1)(hlen1:z1.length<=1048576):
  Calls Tryz.prog 4 #[.slice A0 n0 cap0,.slice A1 n1 cap1] w λe w'=>e= .returned (.bool true)/\Below w.heap.size w w':=
 (IJ z0 z1 hlen0 hlen1).calls_bool (K0 h0 (K0 h1 (Qb)))
end
end Go.Proofs.YtiidbamlcgbpnaaGreat
