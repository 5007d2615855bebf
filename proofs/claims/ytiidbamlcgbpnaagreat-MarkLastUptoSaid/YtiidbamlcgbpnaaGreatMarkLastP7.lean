/-
  Part 7 of the texts under the law MarkLast: the layer of abstract values, walks and plain laws. Conditions: those that each theorem names.
-/
import Derived.Test.YtiidbamlcgbpnaaGreatMarkLastP6
namespace Go.Proofs.YtiidbamlcgbpnaaGreat
set_option linter.unusedVariables false
set_option linter.unusedSimpArgs false
set_option linter.defProp false
set_option maxRecDepth 10000
set_option maxHeartbeats 4000000
abbrev KK(b:Bool)(l:List Cmd):AV:=.lst b 159 5 (l.map Cc)
theorem PA(ks:List Kind)(c:Cmd)(h12:ks.length<=12)(hl:c.comps.length<=1099511627776):PS Tryz.prog 223 [A3 false false ks,Cc c] (.tup [As false false (CY ks c).1,iA (CY ks c).2]):=by
 have hft:=KX ks c.comps h12 hl;obtain⟨act,ent,kind,comps⟩:=c;dsimp only at hft hl;obtain⟨r,hr⟩:∃r,CY ks ⟨act,ent,kind,comps⟩=r:=⟨_,rfl⟩;rw[hr];unfold CY at hr;dsimp only at hr;refine Spec.of (nt:=42) (res:=[.tmp 4,.tmp 5]) Tryz.func223 rfl (by kernel_rfl) rfl rfl rfl λSf=>?_
 have hlm:(comps.map (AG false)).length=comps.length:=List.length_map _;have hkm:(ks.map (BD false)).length=ks.length:=List.length_map _;refine RG ?_;(repeat first|refine WO ?_|refine Ai λB=>?_|refine Ay λY=>?_);refine NL ?_;refine FL ?_;refine RG ?_;(repeat first|refine WO ?_|refine Ai λX=>?_|refine Ay λY=>?_);refine NL ?_;refine FL ?_;refine RG ?_;(repeat first|refine WO ?_|refine Ai λX=>?_|refine Ay λY=>?_);refine NL ?_;refine AWP.cond rfl (λh0=>?_) (λh0=>?_)
 ·rw[if_pos (of_decide_eq_true h0)]at hr
  refine FL ?_;refine RG ?_;(repeat first|refine WO ?_|refine Ai λX=>?_|refine Ay λY=>?_);refine NL ?_;refine AWP.cond rfl (λh1=>?_) (λh1=>?_)
  ·have h1:((comps.map (AG false)).length:Int)≠1:=of_decide_eq_true h1
   rw[if_neg (by omega)]at hr;subst hr;refine FL ?_;refine RG ?_;(repeat first|refine WO ?_|refine Ai λX=>?_|refine Ay λY=>?_);refine NL ?_;refine RT ?_;exact BZ [.prim (.slice none 0 0),iA 3] [As false false [],iA 3] (.cons (.cell .nil) (.cons (.cell .same) .nil))
  ·have h1:¬((comps.map (AG false)).length:Int)≠1:=of_decide_eq_false h1
   rw[if_pos (by omega)]at hr;subst hr;refine FL ?_;refine RG ?_;(repeat first|(refine AOps.gN ?_;first|(refine AOps.g_callf ?_;first|refine AOps.c2 (h:=(hft ..)) (k:=?_)))|refine WO ?_|refine Ai λX=>?_|refine Ay λY=>?_);refine NL ?_;refine RT ?_;exact Gt (rs:=[As false false (CA ks comps).1,iA (CA ks comps).2]) rfl
 rw[if_neg (of_decide_eq_false h0)]at hr;refine FL ?_;refine RG ?_;(repeat first|refine WO ?_|refine Ai λX=>?_|refine Ay λY=>?_);refine NL ?_;refine AWP.cond rfl (λh1=>?_) (λh1=>?_)
 ·rw[if_pos (of_decide_eq_true h1)]at hr
  refine FL ?_;cases g1:decide (kind<0)with
  |true=>
   rw[if_pos (.inl (of_decide_eq_true g1))]at hr;subst hr;refine RG ?_;(repeat first|refine WO ?_|refine Ai λX=>?_|refine Ay λY=>?_);refine NL ?_;refine AU rfl (by first|rfl|assumption) ?_;refine FL ?_;refine RG ?_;(repeat first|refine WO ?_|refine Ai λX=>?_|refine Ay λY=>?_);refine NL ?_;refine RT ?_;exact BZ [.prim (.slice none 0 0),iA 1] [As false false [],iA 1] (.cons (.cell .nil) (.cons (.cell .same) .nil))
  |false=>
   refine RG ?_;(repeat first|refine WO ?_|refine Ai λX=>?_|refine Ay λY=>?_);refine NL ?_;refine AWP.cond rfl (λg2=>?_) (λg2=>?_)
   ·rw[hkm]at g2
    rw[if_pos (.inr (of_decide_eq_true g2))]at hr;subst hr;refine FL ?_;refine RG ?_;(repeat first|refine WO ?_|refine Ai λX=>?_|refine Ay λY=>?_);refine NL ?_;refine RT ?_;exact BZ [.prim (.slice none 0 0),iA 1] [As false false [],iA 1] (.cons (.cell .nil) (.cons (.cell .same) .nil))
   ·rw[hkm]at g2
    have g1:=of_decide_eq_false g1;have g2:¬(ks.length:Int)<=kind:=of_decide_eq_false g2;rw[if_neg (by omega)]at hr;subst hr;refine FL ?_;refine RG ?_;(repeat first|refine WO ?_|refine Ai λX=>?_|refine Ay λY=>?_);refine NL ?_;refine RT ?_;exact BZ [.prim (.slice none 0 0),iA 0] [As false false [],iA 0] (.cons (.cell .nil) (.cons (.cell .same) .nil))
 rw[if_neg (of_decide_eq_false h1)]at hr;refine FL ?_;refine RG ?_;(repeat first|refine WO ?_|refine Ai λX=>?_|refine Ay λY=>?_);refine NL ?_;refine AWP.cond rfl (λh2=>?_) (λh2=>?_)
 ·rw[if_pos (of_decide_eq_true h2)]at hr
  subst hr;refine FL ?_;refine RG ?_;(repeat first|refine WO ?_|refine Ai λX=>?_|refine Ay λY=>?_);refine NL ?_;refine RT ?_;exact BZ [.prim (.slice none 0 0),iA 0] [As false false [],iA 0] (.cons (.cell .nil) (.cons (.cell .same) .nil))
 rw[if_neg (of_decide_eq_false h2)]at hr;refine FL ?_;refine RG ?_;(repeat first|refine WO ?_|refine Ai λX=>?_|refine Ay λY=>?_);refine NL ?_;refine AWP.cond rfl (λh3=>?_) (λh3=>?_)
 ·rw[if_pos (of_decide_eq_true h3)]at hr
  subst hr;refine FL ?_;refine RG ?_;(repeat first|(refine AOps.gN ?_;first|(refine AOps.g_callf ?_;first|refine AOps.c2 (h:=(hft ..)) (k:=?_)))|refine WO ?_|refine Ai λX=>?_|refine Ay λY=>?_);refine NL ?_;refine RT ?_;exact Gt (rs:=[As false false (CA ks comps).1,iA (CA ks comps).2]) rfl
 rw[if_neg (of_decide_eq_false h3)]at hr;subst hr;refine FL ?_;refine RG ?_;(repeat first|refine WO ?_|refine Ai λX=>?_|refine Ay λY=>?_);refine NL ?_;refine RT ?_;exact BZ [.prim (.slice none 0 0),iA 1] [As false false [],iA 1] (.cons (.cell .nil) (.cons (.cell .same) .nil))
theorem PB{ks:List Kind}{l:List Cmd}{i:Nat}{c:Cmd}(h:i<l.length)(hc:l[i]=c):DW ks (l.drop i)=if(CY ks c).2=0 then DW ks (l.drop (i+1))else(CY ks c).2:=by
 rw[List.drop_eq_getElem_cons h,DW,hc]
theorem He(w:Wd)(l:List Cmd)(hw:WdL w)(h12:w.kinds.length<=12)(hl:l.length<=1099511627776)(hc:∀c∈l,c.comps.length<=1099511627776):PS Tryz.prog 162 [wdA false w,KK false l] (iA (GK w l)):=by
 have hck:=Fd w hw.gens hw.items.1 (λit hit=>(hw.items.2 it hit).1);obtain⟨r,hr⟩:∃r,GK w l=r:=⟨_,rfl⟩;rw[hr];unfold GK at hr;obtain⟨we,hwe⟩:∃we,Da w=we:=⟨_,rfl⟩;rw[hwe]at hck hr;have hlm:(l.map Cc).length=l.length:=List.length_map _;refine Spec.of (nt:=35) (res:=[.tmp 4]) Tryz.func162 rfl (by kernel_rfl) rfl rfl rfl λSf=>?_
 refine RG ?_;(repeat first|(refine AOps.gN ?_;first|(refine AOps.g_box ?_;refine BT ?_))|refine WO ?_|refine Ai λX=>?_|refine Ay λY=>?_);refine NL ?_;refine FL ?_;refine RG ?_;(repeat first|(refine AOps.gN ?_;first|(refine AOps.g_callf ?_;first|refine AOps.c1 (h:=(hck ..)) (k:=?_)))|refine WO ?_|refine Ai λX=>?_|refine Ay λY=>?_);refine NL ?_;refine FL ?_;refine RG ?_;(repeat first|refine WO ?_|refine Ai λX=>?_|refine Ay λY=>?_);refine NL ?_;refine AWP.cond rfl (λh0=>?_) (λh0=>?_)
 ·rw[if_pos (of_decide_eq_true h0)]at hr
  subst hr;refine FL ?_;refine RG ?_;(repeat first|refine WO ?_|refine Ai λX=>?_|refine Ay λY=>?_);refine NL ?_;refine RT ?_;refine AX ?_;rfl
 rw[if_neg (of_decide_eq_false h0)]at hr;refine FL ?_;refine RG ?_;(repeat first|refine WO ?_|refine Ai λX=>?_|refine Ay λY=>?_);refine NL ?_;refine AWP.cond rfl (λh1=>?_) (λh1=>?_)
 ·have h1:=of_decide_eq_true h1
  rw[if_pos (by omega)]at hr;subst hr;refine FL ?_;refine RG ?_;(repeat first|refine WO ?_|refine Ai λX=>?_|refine Ay λY=>?_);refine NL ?_;refine RT ?_;refine AX ?_;rfl
 have h1:=of_decide_eq_false h1;rw[if_neg (by omega)]at hr;subst hr;refine FL ?_;refine RG ?_;(repeat first|refine WO ?_|refine Ai λX=>?_|refine Ay λY=>?_);refine NL ?_;refine FL ?_;refine BN (λ(i:Nat)=>⟨[(2,.fp (wdA false w).cells),(18,KK false l),(19,iA (l.map Cc).length),(20,iA i)],Sf⟩) (λi=>i<=l.length/\DW w.kinds (l.drop i)=DW w.kinds l) (λi=>l.length-i) 0 ⟨Nat.zero_le _,rfl⟩ ?_;rintro i ⟨hi,he⟩;refine RG ?_;(repeat first|refine WO ?_|refine Ai λX=>?_|refine Ay λY=>?_);refine NL ?_;refine FL ?_;refine AWP.cond rfl (λhc2=>?_) (λhc2=>?_)
 ·have h:i<l.length:=by rw[decide_eq_true_eq,hlm]at hc2;omega
  obtain⟨c,hcc⟩:∃c,l[i]=c:=⟨_,rfl⟩;have hat:(l.map Cc)[i]?=some (Cc c):=by rw[List.getElem?_map,List.getElem?_eq_getElem h,hcc];rfl
  have ho:=PA w.kinds c h12 (hc c (by rw[<-hcc];exact List.getElem_mem h));rw[PB h hcc]at he;refine FL ?_;refine RG ?_;(repeat first|refine WO ?_|refine Ai λV=>?_|refine Ay λY=>?_);refine NL ?_;refine FL ?_;refine RG ?_;(repeat first|(refine AOps.gN ?_;first|(refine AOps.g_callf ?_;first|refine AOps.c2 (h:=(ho ..)) (k:=?_)))|refine WO ?_|refine Ai λX=>?_|refine Ay λY=>?_);refine NL ?_;refine FL ?_;refine RG ?_;(repeat first|refine WO ?_|refine Ai λX=>?_|refine Ay λY=>?_);refine NL ?_;refine AWP.cond rfl (λh3=>?_) (λh3=>?_)
  ·rw[if_neg (of_decide_eq_true h3)]at he
   refine FL ?_;refine RG ?_;(repeat first|refine WO ?_|refine Ai λX=>?_|refine Ay λY=>?_);refine NL ?_;refine RT ?_;refine AX ?_;exact congrArg iA he
  ·rw[if_pos (Decidable.not_not.1 (of_decide_eq_false h3))]at he
   refine FL ?_;refine RG ?_;(repeat first|refine WO ?_|refine Ai λX=>?_|refine Ay λY=>?_);refine NL ?_;exact A4 (i+1) ⟨h,he⟩ (by omega)
 ·have h:i=l.length:=by rw[decide_eq_false_iff_not,hlm]at hc2;omega
  rw[h,List.drop_length]at he;refine FL ?_;refine RG ?_;(repeat first|refine WO ?_|refine Ai λX=>?_|refine Ay λY=>?_);refine NL ?_;refine RT ?_;refine AX ?_;exact congrArg iA he
set_option maxRecDepth 8000 in
theorem SX{a:Ar}{w:Wd}(h:ArFor a w)(h12:w.kinds.length<=12)(c:Cmd)(hc:(CY w.kinds c).2=0)(hn:I64 c.ent.n)(hl:c.comps.length<=1099511627776):Spec Tryz.prog 224 [.ptr a.A 0 0,Cc c] (arS a) λr S'=>∃b:Ar,(ArFor b (ED w c).1/\b.A=a.A)/\r= .tup [Ac (ED w c).2.1,bA (ED w c).2.2]/\S'=arS b:=by
 obtain⟨act,ent,kind,comps⟩:=c;dsimp only at hn hl;unfold CY at hc;dsimp only at hc;obtain⟨r,hr⟩:∃r,ED w ⟨act,ent,kind,comps⟩=r:=⟨_,rfl⟩;rw[hr];unfold ED at hr;dsimp only at hr;refine Spec.of (nt:=50) (res:=[.cell 4 32,.tmp 5]) Tryz.func224 rfl (by kernel_rfl) rfl rfl rfl λSf=>?_
 refine RG ?_;(repeat first|(refine AOps.gN ?_;first|(refine AOps.g_box ?_;refine BT ?_))|refine WO ?_|refine Ai λP=>?_|refine Ay λY=>?_);refine NL ?_;refine FL ?_;refine RG ?_;(repeat first|refine WO ?_|refine Ai λX=>?_|refine Ay λY=>?_);refine NL ?_;refine FL ?_;refine RG ?_;(repeat first|refine WO ?_|refine Ai λX=>?_|refine Ay λY=>?_);refine NL ?_;refine AWP.cond rfl (λh0=>?_) (λh0=>?_)
 ·rw[if_pos (of_decide_eq_true h0)]at hr hc
  split at hc
  ·rename_i h1
   obtain⟨d,rfl⟩:=List.length_eq_one_iff.1 h1;obtain⟨_,_,_,d1,d2⟩:=Jm hc;have h16:=(BU h.wok.ks).1;have hp:=RB h h12 ent d hn ⟨by omega,by omega⟩;replace hr:(EE w (Cs w ent d).1 (Cs w ent d).2,(⟨0,0⟩:Ent),decide ((Cs w ent d).2=0))=r:=hr;subst hr;refine FL ?_;obtain⟨err,herr⟩:∃e,(Cs w ent d).2=e:=⟨_,rfl⟩;rw[herr]at hp⊢;refine C0 (n:=1) [(P,.row 32 2 [Ac ⟨0,0⟩])] (arS a++Sf) rfl (by kernel_rfl) (by kernel_rfl) ?_;refine RGoH.go ?_;refine RGoH.go ?_;refine RGoH.go ?_;refine RGoH.go ?_;refine RGoH.go ?_;refine RGoH.go ?_;refine RGoH.go (h:=W.idxL (a:=0) (e:=AG false d) rfl rfl rfl rfl) ?_;refine RGoH.go ?_;refine RGoH.skip [13,15,19] ?_;refine RGoH.skip [20] ?_;refine RGoH.goS ?_;refine RGoH.skip [21] ?_;refine RGoH.nil (by kernel_rfl) (by kernel_rfl) (by kernel_rfl) ?_;refine HC.step [(13,.ptr a.A 0 0),(15,Ac ent),(19,AG false d)] ⟨rfl,rfl,rfl,rfl,rfl,rfl,trivial⟩ λT F=>?_
   refine DK F (h:=hp) (k:=λb hb=>?_);refine AOps.nil ⟨rfl,_,_,⟨λd v h=>h,.refl _⟩,?_⟩;refine HC.step [(20,iA err)] ⟨rfl,rfl,trivial⟩ λT2 F2=>?_
   (repeat refine WO ?_);refine AOps.nil ⟨rfl,_,_,⟨λd v h=>h,.refl _⟩,?_⟩;refine HC.step [(21,bA (decide (err=0)))] ⟨rfl,rfl,trivial⟩ λT3 F3=>?_
   (repeat refine WO ?_);refine AOps.nil ⟨rfl,_,_,⟨λd v h=>h,.refl _⟩,?_⟩;show andThen _ _ _ _
   refine FL ?_;refine RT ?_;exact AQ [Ac ⟨0,0⟩,bA (decide (err=0))] (arS b) ⟨b,⟨by rw[<-herr];rw[<-herr]at hb;exact hb.1,hb.2⟩,rfl,rfl⟩
  ·cases hc
 rw[if_neg (of_decide_eq_false h0)]at hr hc;refine FL ?_;refine RG ?_;(repeat first|refine WO ?_|refine Ai λX=>?_|refine Ay λY=>?_);refine NL ?_;refine AWP.cond rfl (λh1=>?_) (λh1=>?_)
 ·rw[if_pos (of_decide_eq_true h1)]at hr hc
  have hk:0<=kind/\kind<w.kinds.length:=by
   split at hc
   ·cases hc
   ·omega
  have h16:=(BU h.wok.ks).1;have hp:=QR h ent kind hn ⟨by omega,by omega⟩;subst hr;refine FL ?_;refine RG ?_;(repeat first|(refine AOps.gN ?_;first|refine DK [_] (h:=hp) (k:=λb hb=>?_))|refine WO ?_|refine Ai λX=>?_|refine Ay λY=>?_);refine NL ?_;refine FL ?_;refine RT ?_;exact AQ [Ac ⟨0,0⟩,bA _] (arS b) ⟨b,hb,rfl,rfl⟩
 rw[if_neg (of_decide_eq_false h1)]at hr hc;refine FL ?_;refine RG ?_;(repeat first|refine WO ?_|refine Ai λX=>?_|refine Ay λY=>?_);refine NL ?_;refine AWP.cond rfl (λh2=>?_) (λh2=>?_)
 ·rw[if_pos (of_decide_eq_true h2)]at hr hc
  have hp:=Pz h ent hn;subst hr;refine FL ?_;refine RG ?_;(repeat first|(refine AOps.gN ?_;first|refine Gv [_] (h:=hp) (k:=λb hb=>?_))|refine WO ?_|refine Ai λX=>?_|refine Ay λY=>?_);refine NL ?_;refine FL ?_;refine RT ?_;exact AQ [Ac ⟨0,0⟩,bA _] (arS b) ⟨b,hb,rfl,rfl⟩
 rw[if_neg (of_decide_eq_false h2)]at hr hc;have hp:=NP a w h h12 comps hl;subst hr;refine FL ?_;refine RG ?_;(repeat first|(refine AOps.gN ?_;first|refine Gv [_] (h:=hp) (k:=λb hb=>?_))|refine WO ?_|refine Ai λV=>?_|refine Ay λY=>?_);refine NL ?_;refine FL ?_;refine RG ?_;(repeat first|refine WO ?_|refine Ai λX=>?_|refine Ay λY=>?_);refine NL ?_;refine RT ?_;exact AQ [Ac _,bA _] (arS b) ⟨b,hb,rfl,rfl⟩
section
open Go.Sort
set_option maxHeartbeats 1000000 in
theorem RZ(f:FuncId)(cap:List AV)(cf:Item->Item->Int)(hst:Bd cap=true)(hcf:∀x y,PS Tryz.prog f ((AD false) x::(AD false) y::cap) (iA (cf x y)))(X n:Nat)(d:Array Item)(a b:Nat)(hn:n=d.size)(hab:a<=b)(hb:b<=d.size)(hz:d.size<=1099511627776):PO Tryz.prog 212 [.sl X 0 n,iA a,iA b,.fn f cap] X (.row 71 3 (d.toList.map (AD false))) (.tup []) (.row 71 3 ((insertionSort (AB cf) d a b).toList.map (AD false))):=by
 obtain⟨r,hr⟩:∃r,insertionSort (AB cf) d a b=r:=⟨_,rfl⟩;rw[hr];unfold insertionSort at hr;refine Spec.of (nt:=53) (res:=[]) Tryz.func212 rfl (by kernel_rfl) rfl rfl rfl λSf=>?_
 (repeat first|refine WK ?_|refine Ai λX=>?_|refine Ay λY=>?_);refine BH (λ(i:Nat) (e:Array Item)=>⟨[(0,.sl X 0 n),(1,iA a),(2,iA b),(3,.fn f cap),(8,iA i)],(X,.row 71 3 (e.toList.map (AD false)))::Sf⟩) (λi e=>i<=max b (a+1)/\a<i/\e.size=d.size/\insOuter (AB cf) a b i e=r) (λi _=>b-i) (a+1) d ⟨by omega,by omega,rfl,hr⟩ ?_;rintro i e ⟨hi,hai,he,hfold⟩;rw[insOuter]at hfold;(repeat first|refine WK ?_|refine Ai λX=>?_|refine Ay λY=>?_);refine AWP.cond rfl (λhc=>?_) (λhc=>?_)
 ·have h:i<b:=by have:=of_decide_eq_true hc;omega
  rw[if_pos h]at hfold;(repeat first|refine WK ?_|refine Ai λX=>?_|refine Ay λY=>?_);refine BH (λ(j:Nat) (u:Array Item)=>⟨[(0,.sl X 0 n),(1,iA a),(2,iA b),(3,.fn f cap),(8,iA i),(9,iA j)],(X,.row 71 3 (u.toList.map (AD false)))::Sf⟩) (λj u=>j<=i/\u.size=d.size/\insInner (AB cf) a j u=insInner (AB cf) a i e) (λj _=>j) i e ⟨Nat.le_refl _,he,rfl⟩ ?_;rintro j u ⟨hj,hu,hin⟩;rcases Bool.eq_false_or_eq_true (decide ((a:Int)<(j:Int)))with g|g
  ·have hja:a<j:=by have:=of_decide_eq_true g;omega
   obtain⟨q,rfl⟩:∃q,j=q+1:=⟨j-1,by omega⟩;have h1:=AM (AD false) (d:=u) (i:=q+1) (by omega);have h2:=AM (AD false) (d:=u) (i:=q) (by omega);have hl:=hcf (u[q+1]!) (u[q]!);rw[insInner]at hin;(repeat refine WF ?_);refine RU ?_;(repeat first|(refine RGo.gN ?_;first|(refine RGo.g_callv ?_;first|refine RGo.k2 (h:=(hl ..)) (k:=?_))|refine RGo.go (h:=AK (q:Int) (by omega) (by omega) rfl rfl) (k:=?_))|(refine RGo.gQ ?_;first|(refine RGo.g_callv ?_;first|refine RGo.k2 (h:=(hl ..)) (k:=?_))|refine RGo.go (h:=AK (q:Int) (by omega) (by omega) rfl rfl) (k:=?_))|refine RK ?_|refine RGo.nil (by kernel_rfl) ?_);(repeat refine WF ?_);refine AWP.cond rfl (λhd=>?_) (λhd=>?_)
   ·have hd:(AB cf) u[q+1]! u[q]! =true:=by simpa[g,AB]using hd
    rw[hd,if_pos (by simp;omega)]at hin;obtain⟨y,hy⟩:=Av (AD false) (d:=u) (i:=q+1) (j:=q) (by omega) u[q]!;(repeat refine WF ?_);refine RU ?_;(repeat first|(refine RGo.gN ?_;first|refine RGo.go (h:=AK (q:Int) (by omega) (by omega) rfl rfl) (k:=?_)|refine RGo.s (W.store rfl rfl (by exact At.f) hy (by exact rfl)) rfl ?_)|(refine RGo.gQ ?_;first|refine RGo.go (h:=AK (q:Int) (by omega) (by omega) rfl rfl) (k:=?_)|refine RGo.s (W.store rfl rfl (by exact At.f) hy (by exact rfl)) rfl ?_)|refine RK ?_|refine RGo.nil (by kernel_rfl) ?_);(repeat first|(refine AOps.gN ?_;first|refine AOps.p (AK (q:Int) (by omega) (by omega) rfl rfl) rfl ?_)|refine WK ?_|refine Ai λX=>?_|refine Ay λY=>?_);refine Ae q (swp u (q+1) q) ⟨by omega,by rw[size_swp];exact hu,hin⟩ (h0:=by rw[<-BA (AD false) (by omega) (by omega)];exact⟨by exact Lk.f,by exact Sub.f⟩)
   ·have hd:(AB cf) u[q+1]! u[q]! =false:=by simpa[g,AB]using hd
    rw[hd,if_neg (by simp)]at hin;(repeat first|refine WK ?_|refine Ai λX=>?_|refine Ay λY=>?_);refine Ae (i+1) u ⟨by omega,by omega,hu,by rw[hin];exact hfold⟩
  ·have hja:j<=a:=by have:=of_decide_eq_false g;omega
   have hin2:insInner (AB cf) a j u=u:=by
    cases j with
    |zero=>rfl
    |succ q=>rw[insInner,if_neg (by simp;omega)]
   rw[hin2]at hin;(repeat refine WF ?_);refine RU ?_;(repeat first|refine RK ?_|refine RGo.nil (by kernel_rfl) ?_);(repeat refine WF ?_);refine AE rfl (by simp[g]) ?_;(repeat first|refine WK ?_|refine Ai λX=>?_|refine Ay λY=>?_);refine Ae (i+1) u ⟨by omega,by omega,hu,by rw[hin];exact hfold⟩
 ·have h:¬i<b:=by have:=of_decide_eq_false hc;omega
  rw[if_neg h]at hfold;subst hfold;(repeat first|refine WK ?_|refine Ai λX=>?_|refine Ay λY=>?_);refine CT ?_;exact Au [(X,.row 71 3 (e.toList.map (AD false)))] ⟨rfl,rfl⟩
end
section
open Go.Sort
set_option maxHeartbeats 1000000 in
theorem LM(f:FuncId)(cap:List AV)(cf:Item->Item->Int)(hst:Bd cap=true)(hcf:∀x y,PS Tryz.prog f ((AD false) x::(AD false) y::cap) (iA (cf x y)))(X n:Nat)(d:Array Item)(lo hi first:Nat)(hn:n=d.size)(hb:first+hi<=d.size)(hlo:lo<=1099511627776)(hz:d.size<=1099511627776):PO Tryz.prog 262 [.sl X 0 n,iA lo,iA hi,iA first,.fn f cap] X (.row 71 3 (d.toList.map (AD false))) (.tup []) (.row 71 3 ((siftDown (AB cf) hi first lo d).toList.map (AD false))):=by
 obtain⟨r,hr⟩:∃r,siftDown (AB cf) hi first lo d=r:=⟨_,rfl⟩
 rw[hr];refine Spec.of (nt:=82) (res:=[]) Tryz.func262 rfl (by kernel_rfl) rfl rfl rfl λSf=>?_
 (repeat first|refine WK ?_|refine Ai λX=>?_|refine Ay λY=>?_);refine BH (λ(root:Nat) (u:Array Item)=>⟨[(0,.sl X 0 n),(2,iA hi),(3,iA first),(4,.fn f cap),(10,iA root)],(X,.row 71 3 (u.toList.map (AD false)))::Sf⟩) (λroot u=>root<=max hi lo/\u.size=d.size/\siftDown (AB cf) hi first root u=r) (λroot _=>hi-root) lo d ⟨by omega,rfl,hr⟩ ?_;rintro root u ⟨hro,hu,hfold⟩;rw[siftDown]at hfold;(repeat first|(refine AOps.gN ?_;first|refine AOps.p (De ((2*root:Nat):Int) (by omega) (by omega) rfl rfl) rfl ?_|refine AOps.p (AT (((2*root+1:Nat):Int)) (by omega) (by omega) rfl rfl) rfl ?_)|refine WK ?_|refine Ai λX=>?_|refine Ay λY=>?_);refine AWP.cond rfl (λhc=>?_) (λhc=>?_)
 ·have h:2*root+1>=hi:=by have:=of_decide_eq_true hc;omega
  rw[dif_pos h]at hfold;subst hfold;(repeat first|refine WK ?_|refine Ai λX=>?_|refine Ay λY=>?_);refine CT ?_;exact Au [(X,.row 71 3 (u.toList.map (AD false)))] ⟨rfl,rfl⟩
 have h:¬2*root+1>=hi:=by have:=of_decide_eq_false hc;omega
 rw[dif_neg h]at hfold;refine AWP.skip ?_;refine Az ?_;refine AWP.seq ?_;refine Ag (λc:Nat=>c<hi/\root<c/\(if !(AB cf) u[first+root]! u[first+c]! then u else siftDown (AB cf) hi first c (swp u (first+root) (first+c)))=r) (λc=>⟨[(0,.sl X 0 n),(2,iA hi),(3,iA first),(4,.fn f cap),(10,iA root),(11,iA c)],(X,.row 71 3 (u.toList.map (AD false)))::Sf⟩) ?_ ?_
 ·rcases Bool.eq_false_or_eq_true (decide (((2*root+1+1:Nat):Int)<(hi:Int)))with g|g
  ·have hg:2*root+1+1<hi:=by have:=of_decide_eq_true g;omega
   have h1:=AM (AD false) (d:=u) (i:=first+(2*root+1)) (by omega);have h2:=AM (AD false) (d:=u) (i:=first+(2*root+1)+1) (by omega);have hl:=hcf (u[first+(2*root+1)]!) (u[first+(2*root+1)+1]!);refine RU ?_;(repeat first|(refine RGo.gN ?_;first|(refine RGo.g_callv ?_;first|refine RGo.k2 (h:=(hl ..)) (k:=?_))|refine RGo.go (h:=AT (((2*root+1+1:Nat):Int)) (by omega) (by omega) rfl rfl) (k:=?_)|refine RGo.go (h:=AT (((first+(2*root+1):Nat):Int)) (by omega) (by omega) rfl rfl) (k:=?_)|refine RGo.go (h:=AT (((first+(2*root+1)+1:Nat):Int)) (by omega) (by omega) rfl rfl) (k:=?_))|(refine RGo.gQ ?_;first|(refine RGo.g_callv ?_;first|refine RGo.k2 (h:=(hl ..)) (k:=?_))|refine RGo.go (h:=AT (((2*root+1+1:Nat):Int)) (by omega) (by omega) rfl rfl) (k:=?_)|refine RGo.go (h:=AT (((first+(2*root+1):Nat):Int)) (by omega) (by omega) rfl rfl) (k:=?_)|refine RGo.go (h:=AT (((first+(2*root+1)+1:Nat):Int)) (by omega) (by omega) rfl rfl) (k:=?_))|refine RK ?_|refine RGo.nil (by kernel_rfl) ?_);(repeat refine WF ?_);refine AWP.cond rfl (λhd=>?_) (λhd=>?_)
   ·have hd:(AB cf) u[first+(2*root+1)]! u[first+(2*root+1)+1]! =true:=by simpa[g,AB]using hd
    rw[hd,if_pos (by simp;omega)]at hfold;(repeat first|(refine AOps.gN ?_;first|refine AOps.p (AT (((2*root+2:Nat):Int)) (by omega) (by omega) rfl rfl) rfl ?_)|refine WK ?_|refine Ai λX=>?_|refine Ay λY=>?_);refine jn (2*root+2) ⟨by omega,by omega,?_⟩;split at hfold
    ·rename_i hx;rw[if_pos hx];exact hfold
    ·rename_i hx;rw[if_neg hx];first|exact hfold|(rw[dif_pos (by omega)]at hfold;exact hfold)
   ·have hd:(AB cf) u[first+(2*root+1)]! u[first+(2*root+1)+1]! =false:=by simpa[g,AB]using hd
    rw[hd,if_neg (by simp)]at hfold;(repeat first|refine WK ?_|refine Ai λX=>?_|refine Ay λY=>?_);exact jn (2*root+1) ⟨by omega,by omega,hfold⟩
  ·have hg:¬2*root+1+1<hi:=by have:=of_decide_eq_false g;omega
   rw[if_neg (by simp[hg])]at hfold;refine RU ?_;(repeat first|(refine RGo.gN ?_;first|refine RGo.go (h:=AT (((2*root+1+1:Nat):Int)) (by omega) (by omega) rfl rfl) (k:=?_))|(refine RGo.gQ ?_;first|refine RGo.go (h:=AT (((2*root+1+1:Nat):Int)) (by omega) (by omega) rfl rfl) (k:=?_))|refine RK ?_|refine RGo.nil (by kernel_rfl) ?_);(repeat refine WF ?_);refine AE rfl (by simp[g]) ?_;(repeat first|refine WK ?_|refine Ai λX=>?_|refine Ay λY=>?_);exact jn (2*root+1) ⟨by omega,by omega,hfold⟩
 ·rintro c ⟨hch,hrc,hfold⟩
  have h1:=AM (AD false) (d:=u) (i:=first+root) (by omega);have h2:=AM (AD false) (d:=u) (i:=first+c) (by omega);have hl:=hcf (u[first+root]!) (u[first+c]!);(repeat refine WF ?_);refine RU ?_;(repeat first|(refine RGo.gN ?_;first|(refine RGo.g_callv ?_;first|refine RGo.k2 (h:=(hl ..)) (k:=?_))|refine RGo.go (h:=AT (((first+root:Nat):Int)) (by omega) (by omega) rfl rfl) (k:=?_)|refine RGo.go (h:=AT (((first+c:Nat):Int)) (by omega) (by omega) rfl rfl) (k:=?_))|(refine RGo.gQ ?_;first|(refine RGo.g_callv ?_;first|refine RGo.k2 (h:=(hl ..)) (k:=?_))|refine RGo.go (h:=AT (((first+root:Nat):Int)) (by omega) (by omega) rfl rfl) (k:=?_)|refine RGo.go (h:=AT (((first+c:Nat):Int)) (by omega) (by omega) rfl rfl) (k:=?_))|refine RK ?_|refine RGo.nil (by kernel_rfl) ?_);(repeat refine WF ?_);refine AWP.cond rfl (λhd=>?_) (λhd=>?_)
  ·have hd:(!(AB cf) u[first+root]! u[first+c]!)=true:=by simpa[AB]using hd
   rw[if_pos hd]at hfold;subst hfold;refine RT ?_;exact Au [(X,.row 71 3 (u.toList.map (AD false)))] ⟨rfl,rfl⟩
  ·have hd:(!(AB cf) u[first+root]! u[first+c]!)=false:=by simpa[AB]using hd
   rw[if_neg (by rw[hd];simp)]at hfold;obtain⟨y,hy⟩:=Av (AD false) (d:=u) (i:=first+root) (j:=first+c) (by omega) u[first+c]!;(repeat refine WF ?_);refine RU ?_;(repeat first|(refine RGo.gN ?_;first|refine RGo.go (h:=AT (((first+root:Nat):Int)) (by omega) (by omega) rfl rfl) (k:=?_)|refine RGo.go (h:=AT (((first+c:Nat):Int)) (by omega) (by omega) rfl rfl) (k:=?_)|refine RGo.s (W.store rfl rfl (by exact At.f) hy (by exact rfl)) rfl ?_)|(refine RGo.gQ ?_;first|refine RGo.go (h:=AT (((first+root:Nat):Int)) (by omega) (by omega) rfl rfl) (k:=?_)|refine RGo.go (h:=AT (((first+c:Nat):Int)) (by omega) (by omega) rfl rfl) (k:=?_)|refine RGo.s (W.store rfl rfl (by exact At.f) hy (by exact rfl)) rfl ?_)|refine RK ?_|refine RGo.nil (by kernel_rfl) ?_);(repeat first|refine WK ?_|refine Ai λX=>?_|refine Ay λY=>?_);refine Ae c (swp u (first+root) (first+c)) ⟨by omega,by rw[size_swp];exact hu,hfold⟩ (h0:=by rw[<-BA (AD false) (by omega) (by omega)];exact⟨by exact Lk.f,by exact Sub.f⟩)
set_option maxHeartbeats 1000000 in
theorem C9(lt:Item->Item->Bool)(hi first:Nat):∀(k root:Nat) (d:Array Item),hi-root<=k->(siftDown lt hi first root d).size=d.size
 |0,root,d,h=>by rw[siftDown,dif_pos (by omega)]
 |k+1,root,d,h=>by
  rw[siftDown];split
  ·rfl
  ·split
   ·split
    ·rfl
    ·split
     ·rw[C9 lt hi first k _ _ (by omega),size_swp]
     ·rfl
   ·split
    ·rfl
    ·rw[C9 lt hi first k _ _ (by omega),size_swp]
theorem QA(f:FuncId)(cap:List AV)(cf:Item->Item->Int)(hst:Bd cap=true)(hcf:∀x y,PS Tryz.prog f ((AD false) x::(AD false) y::cap) (iA (cf x y)))(X n:Nat)(d:Array Item)(a b:Nat)(hn:n=d.size)(hab:a<b)(hb:b<=d.size)(hz:d.size<=1099511627776):PO Tryz.prog 213 [.sl X 0 n,iA a,iA b,.fn f cap] X (.row 71 3 (d.toList.map (AD false))) (.tup []) (.row 71 3 ((heapSort (AB cf) d a b).toList.map (AD false))):=by
 obtain⟨r,hr⟩:∃r,heapSort (AB cf) d a b=r:=⟨_,rfl⟩;rw[hr];unfold heapSort at hr;obtain⟨m,hm⟩:∃m,b-a=m:=⟨_,rfl⟩;rw[hm]at hr;refine Spec.of (nt:=60) (res:=[]) Tryz.func213 rfl (by kernel_rfl) rfl rfl rfl λSf=>?_
 (repeat first|(refine AOps.gN ?_;first|refine AOps.p (AK ((m:Int)) (by omega) (by omega) rfl rfl) rfl ?_|refine AOps.p (AK (((m-1:Nat):Int)) (by omega) (by omega) rfl rfl) rfl ?_|refine AOps.p (EW (m-1) 2 ((m-1)/2) rfl rfl (by omega) rfl (by omega) rfl rfl) rfl ?_)|refine WK ?_|refine Ai λX=>?_|refine Ay λY=>?_);refine BH (λ(k:Nat) (u:Array Item)=>⟨[(0,.sl X 0 n),(3,.fn f cap),(8,iA a),(9,iA 0),(10,iA m),(11,iA ((k:Int)-1))],(X,.row 71 3 (u.toList.map (AD false)))::Sf⟩) (λk u=>k<=m/\u.size=d.size/\heapPop (AB cf) a m (heapBuild (AB cf) m a k u)=r) (λk _=>k) ((m-1)/2+1) d ⟨by omega,rfl,hr⟩ ?_ (h0:=by rw[show((((m-1)/2+1:Nat):Int)-1)=(((m-1)/2:Nat):Int) by omega];exact⟨by exact Lk.f,by exact Sub.f⟩);rintro k u ⟨hk,hu,hfold⟩;(repeat first|refine WK ?_|refine Ai λX=>?_|refine Ay λY=>?_);refine AWP.cond rfl (λhc=>?_) (λhc=>?_)
 ·obtain⟨q,rfl⟩:∃q,k=q+1:=⟨k-1,by have:=of_decide_eq_true hc;omega⟩
  rw[heapBuild]at hfold;have hs:=LM f cap cf hst hcf X n u q m a (by omega) (by omega) (by omega) (by omega);have hsz:=C9 (AB cf) m a _ q u (Nat.le_refl _);rw[show(((q+1:Nat):Int)-1)=(q:Int) by omega];(repeat first|(refine AOps.gN ?_;first|(refine AOps.g_callf ?_;first|refine Do (h:=(hs ..)) (k:=?_))|refine AOps.p (AK ((q:Int)-1) (by omega) (by omega) rfl rfl) rfl ?_)|refine WK ?_|refine Ai λX=>?_|refine Ay λY=>?_);exact Ae q (siftDown (AB cf) m a q u) ⟨by omega,by omega,hfold⟩
 ·obtain rfl:k=0:=by have:=of_decide_eq_false hc;omega
  rw[heapBuild]at hfold;(repeat first|(refine AOps.gN ?_;first|refine AOps.p (AK ((m:Int)-1) (by omega) (by omega) rfl rfl) rfl ?_)|refine WK ?_|refine Ai λX=>?_|refine Ay λY=>?_);clear hc hk;refine BH (λ(k:Nat) (u:Array Item)=>⟨[(0,.sl X 0 n),(3,.fn f cap),(8,iA a),(9,iA 0),(10,iA m),(12,iA ((k:Int)-1))],(X,.row 71 3 (u.toList.map (AD false)))::Sf⟩) (λk u=>k<=m/\u.size=d.size/\heapPop (AB cf) a k u=r) (λk _=>k) m u ⟨by omega,hu,hfold⟩ ?_;clear hfold hu;rintro k u ⟨hk,hu,hfold⟩;(repeat first|refine WK ?_|refine Ai λX=>?_|refine Ay λY=>?_);refine AWP.cond rfl (λhc=>?_) (λhc=>?_)
  ·obtain⟨q,rfl⟩:∃q,k=q+1:=⟨k-1,by have:=of_decide_eq_true hc;omega⟩
   rw[heapPop]at hfold;have h1:=AM (AD false) (d:=u) (i:=a) (by omega);have h2:=AM (AD false) (d:=u) (i:=a+q) (by omega);have hs:=LM f cap cf hst hcf X n (swp u a (a+q)) 0 q a (by rw[size_swp];omega) (by rw[size_swp];omega) (by omega) (by rw[size_swp];omega);have hsz:=C9 (AB cf) q a _ 0 (swp u a (a+q)) (Nat.le_refl _);rw[size_swp]at hsz;rw[show(((q+1:Nat):Int)-1)=(q:Int) by omega];obtain⟨y,hy⟩:=Av (AD false) (d:=u) (i:=a) (j:=a+q) (by omega) u[a+q]!;have hrow:=BA (AD false) (d:=u) (i:=a) (j:=a+q) (by omega) (by omega);(repeat refine WF ?_);refine RU ?_;(repeat first|(refine RGo.gN ?_;first|refine RGo.go (h:=AT (((a+q:Nat):Int)) (by omega) (by omega) rfl rfl) (k:=?_)|refine RGo.s (W.store rfl rfl (by exact At.f) hy (by exact rfl)) rfl ?_)|(refine RGo.gQ ?_;first|refine RGo.go (h:=AT (((a+q:Nat):Int)) (by omega) (by omega) rfl rfl) (k:=?_)|refine RGo.s (W.store rfl rfl (by exact At.f) hy (by exact rfl)) rfl ?_)|refine RK ?_|refine RGo.nil (by kernel_rfl) ?_);refine FN [(0,.sl X 0 n),(3,.fn f cap),(8,iA a),(9,iA 0),(10,iA m),(12,iA q)] ((X,.row 71 3 ((swp u a (a+q)).toList.map (AD false)))::Sf) ?_ (h:=by rw[<-hrow];exact⟨by exact Lk.f,by exact Sub.f⟩);(repeat first|(refine AOps.gN ?_;first|(refine AOps.g_callf ?_;first|refine Do (h:=(hs ..)) (k:=?_))|refine AOps.p (AK ((q:Int)-1) (by omega) (by omega) rfl rfl) rfl ?_)|refine WK ?_|refine Ai λX=>?_|refine Ay λY=>?_);exact Ae q (siftDown (AB cf) q a 0 (swp u a (a+q))) ⟨by omega,by omega,hfold⟩
  ·obtain rfl:k=0:=by have:=of_decide_eq_false hc;omega
   rw[heapPop]at hfold;subst hfold;(repeat first|refine WK ?_|refine Ai λX=>?_|refine Ay λY=>?_);refine CT ?_;exact Au [(X,.row 71 3 (u.toList.map (AD false)))] ⟨rfl,rfl⟩
set_option maxHeartbeats 1000000 in
theorem Q6{f:FuncId}{cap:List AV}(X n:Nat)(d:Array Item)(a b:Nat)(hn:n=d.size)(hab:a<b)(hb:b<=d.size)(hz:d.size<=1099511627776):PO Tryz.prog 216 [.sl X 0 n,iA a,iA b,.fn f cap] X (.row 71 3 (d.toList.map (AD false))) (.tup []) (.row 71 3 ((reverseRange d a b).toList.map (AD false))):=by
 obtain⟨r,hr⟩:∃r,reverseRange d a b=r:=⟨_,rfl⟩;rw[hr];unfold reverseRange at hr;refine Spec.of (nt:=34) (res:=[]) Tryz.func216 rfl (by kernel_rfl) rfl rfl rfl λSf=>?_
 (repeat first|(refine AOps.gN ?_;first|refine AOps.p (AK (((b-1:Nat):Int)) (by omega) (by omega) rfl rfl) rfl ?_)|refine WK ?_|refine Ai λX=>?_|refine Ay λY=>?_);refine CB (λ(i j:Nat) (u:Array Item)=>⟨[(0,.sl X 0 n),(8,iA i),(9,iA j)],(X,.row 71 3 (u.toList.map (AD false)))::Sf⟩) (λi j u=>i<=d.size/\j<d.size/\u.size=d.size/\reverseLoop i j u=r) (λi j _=>j-i) a (b-1) d ⟨by omega,by omega,rfl,hr⟩ ?_;rintro i j u ⟨hi,hj,hu,hfold⟩;rw[reverseLoop]at hfold;(repeat first|refine WK ?_|refine Ai λX=>?_|refine Ay λY=>?_);refine AWP.cond rfl (λhc=>?_) (λhc=>?_)
 ·have h:i<j:=by have:=of_decide_eq_true hc;omega
  rw[if_pos h]at hfold;have h1:=AM (AD false) (d:=u) (i:=i) (by omega);have h2:=AM (AD false) (d:=u) (i:=j) (by omega);obtain⟨y,hy⟩:=Av (AD false) (d:=u) (i:=i) (j:=j) (by omega) u[j]!;(repeat refine WF ?_);refine RU ?_;(repeat first|(refine RGo.gN ?_;first|refine RGo.s (W.store rfl rfl (by exact At.f) hy (by exact rfl)) rfl ?_)|(refine RGo.gQ ?_;first|refine RGo.s (W.store rfl rfl (by exact At.f) hy (by exact rfl)) rfl ?_)|refine RK ?_|refine RGo.nil (by kernel_rfl) ?_);(repeat first|(refine AOps.gN ?_;first|refine AOps.p (AK (((j-1:Nat):Int)) (by omega) (by omega) rfl rfl) rfl ?_)|refine WK ?_|refine Ai λX=>?_|refine Ay λY=>?_);refine BR (i+1) (j-1) (swp u i j) ⟨by omega,by omega,by rw[size_swp];exact hu,hfold⟩ (h0:=by rw[<-BA (AD false) (by omega) (by omega)];exact⟨by exact Lk.f,by exact Sub.f⟩)
 ·have h:¬i<j:=by have:=of_decide_eq_false hc;omega
  rw[if_neg h]at hfold;subst hfold;(repeat first|refine WK ?_|refine Ai λX=>?_|refine Ay λY=>?_);refine CT ?_;exact Au [(X,.row 71 3 (u.toList.map (AD false)))] ⟨rfl,rfl⟩
end
section
open Go.Sort
set_option maxHeartbeats 1000000 in
theorem Fw(p:Item->Bool)(d:Array Item)(j i:Nat):scanUp p d j i<=max i (j+1):=by
 obtain⟨m,hm⟩:∃m,j+1-i=m:=⟨_,rfl⟩
 induction m generalizing i with
 |zero=>rw[scanUp,if_neg (λe=>by rw[Bool.and_eq_true]at e;have:=of_decide_eq_true e.1;omega)];omega
 |succ m ih=>
  rw[scanUp];split
  ·have:=ih (i+1) (by omega)
   omega
  ·omega
theorem RF(f:FuncId)(cap:List AV)(cf:Item->Item->Int)(hst:Bd cap=true)(hcf:∀x y,PS Tryz.prog f ((AD false) x::(AD false) y::cap) (iA (cf x y)))(X n:Nat)(d:Array Item)(a b pivot:Nat)(hn:n=d.size)(ha:a<=pivot)(hp:pivot<b)(hb:b<=d.size)(hz:d.size<=1099511627776):PO Tryz.prog 218 [.sl X 0 n,iA a,iA b,iA pivot,.fn f cap] X (.row 71 3 (d.toList.map (AD false))) (iA (partitionEqual (AB cf) d a b pivot).1) (.row 71 3 ((partitionEqual (AB cf) d a b pivot).2.toList.map (AD false))):=by
 obtain⟨r,hr⟩:∃r,partitionEqual (AB cf) d a b pivot=r:=⟨_,rfl⟩;rw[hr];unfold partitionEqual at hr;refine Spec.of (nt:=90) (res:=[.tmp 10]) Tryz.func218 rfl (by kernel_rfl) rfl rfl rfl λSf=>?_
 have h1:=AM (AD false) (d:=d) (i:=a) (by omega);have h2:=AM (AD false) (d:=d) (i:=pivot) (by omega);obtain⟨y,hy⟩:=Av (AD false) (d:=d) (i:=a) (j:=pivot) (by omega) d[pivot]!;refine RG ?_;(repeat first|refine WO ?_|refine Ai λX=>?_|refine Ay λY=>?_);refine NL ?_;refine RU ?_;(repeat first|(refine RGo.gN ?_;first|refine RGo.s (W.store rfl rfl (by exact At.f) hy (by exact rfl)) rfl ?_)|(refine RGo.gQ ?_;first|refine RGo.s (W.store rfl rfl (by exact At.f) hy (by exact rfl)) rfl ?_)|refine RK ?_|refine RGo.nil (by kernel_rfl) ?_);(repeat first|(refine AOps.gN ?_;first|refine AOps.p (AK (((b-1:Nat):Int)) (by omega) (by omega) rfl rfl) rfl ?_)|refine WK ?_|refine Ai λX=>?_|refine Ay λY=>?_);refine CB (λ(i j:Nat) (u:Array Item)=>⟨[(0,.sl X 0 n),(1,iA a),(4,.fn f cap),(11,iA i),(12,iA j)],(X,.row 71 3 (u.toList.map (AD false)))::Sf⟩) (λi j u=>a<i/\i<=j+2/\j<b/\u.size=d.size/\partEqLoop (AB cf) a i j u=r) (λi j _=>j+1-i) (a+1) (b-1) (swp d a pivot) ⟨by omega,by omega,by omega,by rw[size_swp],hr⟩ ?_ (h0:=by rw[<-BA (AD false) (by omega) (by omega)];exact⟨by exact Lk.f,by exact Sub.f⟩);rintro i j u ⟨hai,hij,hjb,hu,hfold⟩;rw[partEqLoop_eq]at hfold;obtain⟨i2,hi2⟩:∃i2,scanUp (λx=>!(AB cf) u[a]! x) u j i=i2:=⟨_,rfl⟩;rw[hi2]at hfold;obtain⟨j2,hj2⟩:∃j2,scanDown (λx=>(AB cf) u[a]! x) u i2 j=j2:=⟨_,rfl⟩;rw[hj2]at hfold;have hge:=scanUp_ge (λx=>!(AB cf) u[a]! x) u j i;have hle:=scanDown_le (λx=>(AB cf) u[a]! x) u i2 j;rw[hi2]at hge;rw[hj2]at hle;have hge2:i2<=max i (j+1):=by rw[<-hi2];exact Fw _ _ _ _
 refine AWP.block ?_
 (repeat (first|refine AWP.skip ?_|refine Az ?_|refine AWP.seq ?_))
 refine Ag (λk:Nat=>k=i2) (λk=>⟨[(0,.sl X 0 n),(1,iA a),(4,.fn f cap),(11,iA k),(12,iA j)],(X,.row 71 3 (u.toList.map (AD false)))::Sf⟩) ?_ ?_
 ·refine AWP.block ?_
  refine BN (λ(k:Nat)=>⟨[(0,.sl X 0 n),(1,iA a),(4,.fn f cap),(11,iA k),(12,iA j)],(X,.row 71 3 (u.toList.map (AD false)))::Sf⟩) (λk=>i<=k/\k<=max i (j+1)/\scanUp (λx=>!(AB cf) u[a]! x) u j k=i2) (λk=>j+1-k) i ⟨Nat.le_refl _,by omega,hi2⟩ ?_;rintro k ⟨hk1,hk2,hk⟩;rw[scanUp]at hk;rcases Bool.eq_false_or_eq_true (decide ((k:Int)<=(j:Int)))with g|g
  ·have hg:k<=j:=by have:=of_decide_eq_true g;omega
   have h1:=AM (AD false) (d:=u) (i:=k) (by omega);have h2:=AM (AD false) (d:=u) (i:=a) (by omega);have hl:=hcf (u[a]!) (u[k]!);(repeat refine WF ?_);refine RU ?_;(repeat first|(refine RGo.gN ?_;first|(refine RGo.g_callv ?_;first|refine RGo.k2 (h:=(hl ..)) (k:=?_)))|(refine RGo.gQ ?_;first|(refine RGo.g_callv ?_;first|refine RGo.k2 (h:=(hl ..)) (k:=?_)))|refine RK ?_|refine RGo.nil (by kernel_rfl) ?_);(repeat refine WF ?_);refine AWP.cond rfl (λhd=>?_) (λhd=>?_)
   ·have hd:(!(AB cf) u[a]! u[k]!)=true:=by simpa[g,AB]using hd
    rw[if_pos (by rw[Bool.and_eq_true];exact⟨decide_eq_true (by omega),hd⟩)]at hk;(repeat first|refine WK ?_|refine Ai λX=>?_|refine Ay λY=>?_);exact A4 (k+1) ⟨by omega,by omega,hk⟩
   ·have hd:(!(AB cf) u[a]! u[k]!)=false:=by simpa[g,AB]using hd
    rw[if_neg (λe=>by rw[Bool.and_eq_true]at e;have e2:=e.2;rw[hd]at e2;cases e2)]at hk;(repeat first|refine WK ?_|refine Ai λX=>?_|refine Ay λY=>?_);exact jn k hk
  ·have hg:¬k<=j:=by have:=of_decide_eq_false g;omega
   rw[if_neg (λe=>by rw[Bool.and_eq_true]at e;have:=of_decide_eq_true e.1;omega)]at hk;(repeat refine WF ?_);refine RU ?_;(repeat first|refine RK ?_|refine RGo.nil (by kernel_rfl) ?_);(repeat refine WF ?_);refine AE rfl (by simp[g]) ?_;(repeat first|refine WK ?_|refine Ai λX=>?_|refine Ay λY=>?_);exact jn k hk
 rintro k hk0;rw[hk0];clear hk0 k
 (repeat (first|refine AWP.skip ?_|refine Az ?_|refine AWP.seq ?_))
 refine Ag (λk:Nat=>k=j2) (λk=>⟨[(0,.sl X 0 n),(1,iA a),(4,.fn f cap),(11,iA i2),(12,iA k)],(X,.row 71 3 (u.toList.map (AD false)))::Sf⟩) ?_ ?_
 ·refine AWP.block ?_
  refine BN (λ(k:Nat)=>⟨[(0,.sl X 0 n),(1,iA a),(4,.fn f cap),(11,iA i2),(12,iA k)],(X,.row 71 3 (u.toList.map (AD false)))::Sf⟩) (λk=>k<=j/\scanDown (λx=>(AB cf) u[a]! x) u i2 k=j2) (λk=>k) j ⟨Nat.le_refl _,hj2⟩ ?_;rintro k ⟨hk1,hk⟩;rcases Bool.eq_false_or_eq_true (decide ((i2:Int)<=(k:Int)))with g|g
  ·have hg:i2<=k:=by have:=of_decide_eq_true g;omega
   obtain⟨q,rfl⟩:∃q,k=q+1:=⟨k-1,by omega⟩;rw[scanDown]at hk;have h1:=AM (AD false) (d:=u) (i:=q+1) (by omega);have h2:=AM (AD false) (d:=u) (i:=a) (by omega);have hl:=hcf (u[a]!) (u[q+1]!);(repeat refine WF ?_);refine RU ?_;(repeat first|(refine RGo.gN ?_;first|(refine RGo.g_callv ?_;first|refine RGo.k2 (h:=(hl ..)) (k:=?_)))|(refine RGo.gQ ?_;first|(refine RGo.g_callv ?_;first|refine RGo.k2 (h:=(hl ..)) (k:=?_)))|refine RK ?_|refine RGo.nil (by kernel_rfl) ?_);(repeat refine WF ?_);refine AWP.cond rfl (λhd=>?_) (λhd=>?_)
   ·have hd:((AB cf) u[a]! u[q+1]!)=true:=by simpa[g,AB]using hd
    rw[if_pos (by rw[Bool.and_eq_true];exact⟨decide_eq_true (by omega),hd⟩)]at hk;(repeat first|(refine AOps.gN ?_;first|refine AOps.p (AK ((q:Int)) (by omega) (by omega) rfl rfl) rfl ?_)|refine WK ?_|refine Ai λX=>?_|refine Ay λY=>?_);exact A4 q ⟨by omega,hk⟩
   ·have hd:((AB cf) u[a]! u[q+1]!)=false:=by simpa[g,AB]using hd
    rw[if_neg (λe=>by rw[Bool.and_eq_true]at e;have e2:=e.2;rw[hd]at e2;cases e2)]at hk;(repeat first|refine WK ?_|refine Ai λX=>?_|refine Ay λY=>?_);exact jn (q+1) hk
  ·have hg:¬i2<=k:=by have:=of_decide_eq_false g;omega
   have hk3:scanDown (λx=>(AB cf) u[a]! x) u i2 k=k:=by
    cases k with
    |zero=>rfl
    |succ q=>rw[scanDown,if_neg (λe=>by rw[Bool.and_eq_true]at e;have:=of_decide_eq_true e.1;omega)]
   rw[hk3]at hk;(repeat refine WF ?_);refine RU ?_;(repeat first|refine RK ?_|refine RGo.nil (by kernel_rfl) ?_);(repeat refine WF ?_);refine AE rfl (by simp[g]) ?_;(repeat first|refine WK ?_|refine Ai λX=>?_|refine Ay λY=>?_);exact jn k hk
 rintro k hk0;rw[hk0];clear hk0 k;(repeat first|refine WK ?_|refine Ai λX=>?_|refine Ay λY=>?_);refine AWP.cond rfl (λhc=>?_) (λhc=>?_)
 ·have h:i2>j2:=by have:=of_decide_eq_true hc;omega
  rw[if_pos h]at hfold;subst hfold;(repeat first|refine WK ?_|refine Ai λX=>?_|refine Ay λY=>?_);refine RT ?_;exact AQ [iA i2] [(X,_)] ⟨rfl,rfl⟩
 ·have h:¬i2>j2:=by have:=of_decide_eq_false hc;omega
  rw[if_neg h]at hfold;have h1:=AM (AD false) (d:=u) (i:=i2) (by omega);have h2:=AM (AD false) (d:=u) (i:=j2) (by omega);obtain⟨y,hy⟩:=Av (AD false) (d:=u) (i:=i2) (j:=j2) (by omega) u[j2]!;(repeat refine WF ?_);refine RU ?_;(repeat first|(refine RGo.gN ?_;first|refine RGo.s (W.store rfl rfl (by exact At.f) hy (by exact rfl)) rfl ?_)|(refine RGo.gQ ?_;first|refine RGo.s (W.store rfl rfl (by exact At.f) hy (by exact rfl)) rfl ?_)|refine RK ?_|refine RGo.nil (by kernel_rfl) ?_);(repeat first|(refine AOps.gN ?_;first|refine AOps.p (AK (((j2-1:Nat):Int)) (by omega) (by omega) rfl rfl) rfl ?_)|refine WK ?_|refine Ai λX=>?_|refine Ay λY=>?_);refine BR (i2+1) (j2-1) (swp u i2 j2) ⟨by omega,by omega,by omega,by rw[size_swp];exact hu,hfold⟩ (h0:=by rw[<-BA (AD false) (by omega) (by omega)];exact⟨by exact Lk.f,by exact Sub.f⟩)
set_option maxHeartbeats 1000000 in
theorem Ph(f:FuncId)(cap:List AV)(cf:Item->Item->Int)(hst:Bd cap=true)(hcf:∀x y,PS Tryz.prog f ((AD false) x::(AD false) y::cap) (iA (cf x y)))(X n:Nat)(d:Array Item)(a b pivot:Nat)(hn:n=d.size)(ha:a<=pivot)(hp:pivot<b)(hb:b<=d.size)(hz:d.size<=1099511627776):PO Tryz.prog 219 [.sl X 0 n,iA a,iA b,iA pivot,.fn f cap] X (.row 71 3 (d.toList.map (AD false))) (.tup [iA (partition (AB cf) d a b pivot).1,bA (partition (AB cf) d a b pivot).2.1]) (.row 71 3 ((partition (AB cf) d a b pivot).2.2.toList.map (AD false))):=by
 obtain⟨r,hr⟩:∃r,partition (AB cf) d a b pivot=r:=⟨_,rfl⟩;rw[hr];dsimp only[partition]at hr;refine Spec.of (nt:=178) (res:=[.tmp 10,.tmp 11]) Tryz.func219 rfl (by kernel_rfl) rfl rfl rfl λSf=>?_
 have h1:=AM (AD false) (d:=d) (i:=a) (by omega);have h2:=AM (AD false) (d:=d) (i:=pivot) (by omega);have hrow:=BA (AD false) (d:=d) (i:=a) (j:=pivot) (by omega) (by omega);obtain⟨y,hy⟩:=Av (AD false) (d:=d) (i:=a) (j:=pivot) (by omega) d[pivot]!;refine RG ?_;(repeat first|refine WO ?_|refine Ai λX=>?_|refine Ay λY=>?_);refine NL ?_;refine RU ?_;(repeat first|(refine RGo.gN ?_;first|refine RGo.s (W.store rfl rfl (by exact At.f) hy (by exact rfl)) rfl ?_)|(refine RGo.gQ ?_;first|refine RGo.s (W.store rfl rfl (by exact At.f) hy (by exact rfl)) rfl ?_)|refine RK ?_|refine RGo.nil (by kernel_rfl) ?_);have hsz:(swp d a pivot).size=d.size:=size_swp _ _ _;obtain⟨u,hu0⟩:∃u,swp d a pivot=u:=⟨_,rfl⟩;rw[hu0]at hr hrow hsz;obtain⟨j,hj⟩:∃j,b-1=j:=⟨_,rfl⟩;obtain⟨i,hi⟩:∃i,a+1=i:=⟨_,rfl⟩;rw[hj,hi]at hr;refine RG ?_;(repeat first|(refine AOps.gN ?_;first|refine AOps.p (AK ((j:Int)) (by omega) (by omega) rfl rfl) rfl ?_|refine AOps.p (AT (((i:Nat):Int)) (by omega) (by omega) rfl rfl) rfl ?_)|refine WO ?_|refine Ai λX=>?_|refine Ay λY=>?_);refine NL ?_
 (repeat (first|refine AWP.skip ?_|refine Az ?_|refine AWP.seq ?_))
 refine FN [(0,.sl X 0 n),(1,iA a),(4,.fn f cap),(12,iA i),(13,iA j)] ((X,.row 71 3 (u.toList.map (AD false)))::Sf) ?_ (h:=by rw[<-hrow];exact⟨by exact Lk.f,by exact Sub.f⟩);have hu:u.size=d.size:=hsz;have hfold:=hr;obtain⟨i2,hi2⟩:∃i2,scanUp (λx=>(AB cf) x u[a]!) u j i=i2:=⟨_,rfl⟩;rw[hi2]at hfold;obtain⟨j2,hj2⟩:∃j2,scanDown (λx=>!(AB cf) x u[a]!) u i2 j=j2:=⟨_,rfl⟩;rw[hj2]at hfold;have hge:=scanUp_ge (λx=>(AB cf) x u[a]!) u j i;have hle:=scanDown_le (λx=>!(AB cf) x u[a]!) u i2 j;rw[hi2]at hge;rw[hj2]at hle;have hge2:i2<=max i (j+1):=by rw[<-hi2];exact Fw _ _ _ _
 refine Ag (λk:Nat=>k=i2) (λk=>⟨[(0,.sl X 0 n),(1,iA a),(4,.fn f cap),(12,iA k),(13,iA j)],(X,.row 71 3 (u.toList.map (AD false)))::Sf⟩) ?_ ?_
 ·refine AWP.block ?_
  refine BN (λ(k:Nat)=>⟨[(0,.sl X 0 n),(1,iA a),(4,.fn f cap),(12,iA k),(13,iA j)],(X,.row 71 3 (u.toList.map (AD false)))::Sf⟩) (λk=>i<=k/\k<=max i (j+1)/\scanUp (λx=>(AB cf) x u[a]!) u j k=i2) (λk=>j+1-k) i ⟨Nat.le_refl _,by omega,hi2⟩ ?_;rintro k ⟨hk1,hk2,hk⟩;rw[scanUp]at hk;rcases Bool.eq_false_or_eq_true (decide ((k:Int)<=(j:Int)))with g|g
  ·have hg:k<=j:=by have:=of_decide_eq_true g;omega
   have h1:=AM (AD false) (d:=u) (i:=k) (by omega);have h2:=AM (AD false) (d:=u) (i:=a) (by omega);have hl:=hcf (u[k]!) (u[a]!);(repeat refine WF ?_);refine RU ?_;(repeat first|(refine RGo.gN ?_;first|(refine RGo.g_callv ?_;first|refine RGo.k2 (h:=(hl ..)) (k:=?_)))|(refine RGo.gQ ?_;first|(refine RGo.g_callv ?_;first|refine RGo.k2 (h:=(hl ..)) (k:=?_)))|refine RK ?_|refine RGo.nil (by kernel_rfl) ?_);(repeat refine WF ?_);refine AWP.cond rfl (λhd=>?_) (λhd=>?_)
   ·have hd:((AB cf) u[k]! u[a]!)=true:=by simpa[g,AB]using hd
    rw[if_pos (by rw[Bool.and_eq_true];exact⟨decide_eq_true (by omega),hd⟩)]at hk;(repeat first|refine WK ?_|refine Ai λX=>?_|refine Ay λY=>?_);exact A4 (k+1) ⟨by omega,by omega,hk⟩
   ·have hd:((AB cf) u[k]! u[a]!)=false:=by simpa[g,AB]using hd
    rw[if_neg (λe=>by rw[Bool.and_eq_true]at e;have e2:=e.2;rw[hd]at e2;cases e2)]at hk;(repeat first|refine WK ?_|refine Ai λX=>?_|refine Ay λY=>?_);exact jn k hk
  ·have hg:¬k<=j:=by have:=of_decide_eq_false g;omega
   rw[if_neg (λe=>by rw[Bool.and_eq_true]at e;have:=of_decide_eq_true e.1;omega)]at hk;(repeat refine WF ?_);refine RU ?_;(repeat first|refine RK ?_|refine RGo.nil (by kernel_rfl) ?_);(repeat refine WF ?_);refine AE rfl (by simp[g]) ?_;(repeat first|refine WK ?_|refine Ai λX=>?_|refine Ay λY=>?_);exact jn k hk
 rintro k hk0;rw[hk0];clear hk0 k
 (repeat (first|refine AWP.skip ?_|refine Az ?_|refine AWP.seq ?_))
 refine Ag (λk:Nat=>k=j2) (λk=>⟨[(0,.sl X 0 n),(1,iA a),(4,.fn f cap),(12,iA i2),(13,iA k)],(X,.row 71 3 (u.toList.map (AD false)))::Sf⟩) ?_ ?_
 ·refine AWP.block ?_
  refine BN (λ(k:Nat)=>⟨[(0,.sl X 0 n),(1,iA a),(4,.fn f cap),(12,iA i2),(13,iA k)],(X,.row 71 3 (u.toList.map (AD false)))::Sf⟩) (λk=>k<=j/\scanDown (λx=>!(AB cf) x u[a]!) u i2 k=j2) (λk=>k) j ⟨Nat.le_refl _,hj2⟩ ?_;rintro k ⟨hk1,hk⟩;rcases Bool.eq_false_or_eq_true (decide ((i2:Int)<=(k:Int)))with g|g
  ·have hg:i2<=k:=by have:=of_decide_eq_true g;omega
   obtain⟨q,rfl⟩:∃q,k=q+1:=⟨k-1,by omega⟩;rw[scanDown]at hk;have h1:=AM (AD false) (d:=u) (i:=q+1) (by omega);have h2:=AM (AD false) (d:=u) (i:=a) (by omega);have hl:=hcf (u[q+1]!) (u[a]!);(repeat refine WF ?_);refine RU ?_;(repeat first|(refine RGo.gN ?_;first|(refine RGo.g_callv ?_;first|refine RGo.k2 (h:=(hl ..)) (k:=?_)))|(refine RGo.gQ ?_;first|(refine RGo.g_callv ?_;first|refine RGo.k2 (h:=(hl ..)) (k:=?_)))|refine RK ?_|refine RGo.nil (by kernel_rfl) ?_);(repeat refine WF ?_);refine AWP.cond rfl (λhd=>?_) (λhd=>?_)
   ·have hd:(!(AB cf) u[q+1]! u[a]!)=true:=by simpa[g,AB]using hd
    rw[if_pos (by rw[Bool.and_eq_true];exact⟨decide_eq_true (by omega),hd⟩)]at hk;(repeat first|(refine AOps.gN ?_;first|refine AOps.p (AK ((q:Int)) (by omega) (by omega) rfl rfl) rfl ?_)|refine WK ?_|refine Ai λX=>?_|refine Ay λY=>?_);exact A4 q ⟨by omega,hk⟩
   ·have hd:(!(AB cf) u[q+1]! u[a]!)=false:=by simpa[g,AB]using hd
    rw[if_neg (λe=>by rw[Bool.and_eq_true]at e;have e2:=e.2;rw[hd]at e2;cases e2)]at hk;(repeat first|refine WK ?_|refine Ai λX=>?_|refine Ay λY=>?_);exact jn (q+1) hk
  ·have hg:¬i2<=k:=by have:=of_decide_eq_false g;omega
   have hk3:scanDown (λx=>!(AB cf) x u[a]!) u i2 k=k:=by
    cases k with
    |zero=>rfl
    |succ q=>rw[scanDown,if_neg (λe=>by rw[Bool.and_eq_true]at e;have:=of_decide_eq_true e.1;omega)]
   rw[hk3]at hk;(repeat refine WF ?_);refine RU ?_;(repeat first|refine RK ?_|refine RGo.nil (by kernel_rfl) ?_);(repeat refine WF ?_);refine AE rfl (by simp[g]) ?_;(repeat first|refine WK ?_|refine Ai λX=>?_|refine Ay λY=>?_);exact jn k hk
 rintro k hk0;rw[hk0];clear hk0 k;(repeat first|refine WK ?_|refine Ai λX=>?_|refine Ay λY=>?_);refine AWP.cond rfl (λhc=>?_) (λhc=>?_)
 ·have h:i2>j2:=by have:=of_decide_eq_true hc;omega
  rw[if_pos h]at hfold;subst hfold;have h1:=AM (AD false) (d:=u) (i:=j2) (by omega);have h2:=AM (AD false) (d:=u) (i:=a) (by omega);have hrow2:=BA (AD false) (d:=u) (i:=j2) (j:=a) (by omega) (by omega);obtain⟨y,hy⟩:=Av (AD false) (d:=u) (i:=j2) (j:=a) (by omega) u[a]!;(repeat refine WF ?_);refine RU ?_;(repeat first|(refine RGo.gN ?_;first|refine RGo.s (W.store rfl rfl (by exact At.f) hy (by exact rfl)) rfl ?_)|(refine RGo.gQ ?_;first|refine RGo.s (W.store rfl rfl (by exact At.f) hy (by exact rfl)) rfl ?_)|refine RK ?_|refine RGo.nil (by kernel_rfl) ?_);(repeat first|refine WK ?_|refine Ai λX=>?_|refine Ay λY=>?_);refine RT ?_;exact AQ [iA j2,bA true] [(X,_)] ⟨rfl,by rw[<-hrow2]⟩
 have h:¬i2>j2:=by have:=of_decide_eq_false hc;omega
 rw[if_neg h]at hfold;obtain⟨pr,hpr⟩:∃pr,partLoop (AB cf) a (i2+1) (j2-1) (swp u i2 j2)=pr:=⟨_,rfl⟩;rw[hpr]at hfold;have h1:=AM (AD false) (d:=u) (i:=i2) (by omega);have h2:=AM (AD false) (d:=u) (i:=j2) (by omega);clear y hy;obtain⟨y,hy⟩:=Av (AD false) (d:=u) (i:=i2) (j:=j2) (by omega) u[j2]!;(repeat refine WF ?_);refine RU ?_;(repeat first|(refine RGo.gN ?_;first|refine RGo.s (W.store rfl rfl (by exact At.f) hy (by exact rfl)) rfl ?_)|(refine RGo.gQ ?_;first|refine RGo.s (W.store rfl rfl (by exact At.f) hy (by exact rfl)) rfl ?_)|refine RK ?_|refine RGo.nil (by kernel_rfl) ?_);(repeat first|(refine AOps.gN ?_;first|refine AOps.p (AK (((j2-1:Nat):Int)) (by omega) (by omega) rfl rfl) rfl ?_)|refine WK ?_|refine Ai λX=>?_|refine Ay λY=>?_);refine CB (λ(i j:Nat) (u:Array Item)=>⟨[(0,.sl X 0 n),(1,iA a),(4,.fn f cap),(12,iA i),(13,iA j)],(X,.row 71 3 (u.toList.map (AD false)))::Sf⟩) (λi j u=>a<i/\i<=j+2/\j<b/\u.size=d.size/\partLoop (AB cf) a i j u=pr) (λi j _=>j+1-i) (i2+1) (j2-1) (swp u i2 j2) ⟨by omega,by omega,by omega,by rw[size_swp];exact hu,hpr⟩ ?_ (h0:=by rw[<-BA (AD false) (by omega) (by omega)];exact⟨by exact Lk.f,by exact Sub.f⟩);subst hfold;clear hc h h1 h2 hpr hi2 hj2 hge hle hge2 hr hrow hu0 hu hsz hi hj hy y i2 j2 i j u;rintro i j u ⟨hai,hij,hjb,hu,hfold⟩;rw[partLoop_eq]at hfold;obtain⟨i2,hi2⟩:∃i2,scanUp (λx=>(AB cf) x u[a]!) u j i=i2:=⟨_,rfl⟩;rw[hi2]at hfold;obtain⟨j2,hj2⟩:∃j2,scanDown (λx=>!(AB cf) x u[a]!) u i2 j=j2:=⟨_,rfl⟩;rw[hj2]at hfold;have hge:=scanUp_ge (λx=>(AB cf) x u[a]!) u j i;have hle:=scanDown_le (λx=>!(AB cf) x u[a]!) u i2 j;rw[hi2]at hge;rw[hj2]at hle;have hge2:i2<=max i (j+1):=by rw[<-hi2];exact Fw _ _ _ _
 refine AWP.block ?_
 (repeat (first|refine AWP.skip ?_|refine Az ?_|refine AWP.seq ?_))
 refine Ag (λk:Nat=>k=i2) (λk=>⟨[(0,.sl X 0 n),(1,iA a),(4,.fn f cap),(12,iA k),(13,iA j)],(X,.row 71 3 (u.toList.map (AD false)))::Sf⟩) ?_ ?_
 ·refine AWP.block ?_
  refine BN (λ(k:Nat)=>⟨[(0,.sl X 0 n),(1,iA a),(4,.fn f cap),(12,iA k),(13,iA j)],(X,.row 71 3 (u.toList.map (AD false)))::Sf⟩) (λk=>i<=k/\k<=max i (j+1)/\scanUp (λx=>(AB cf) x u[a]!) u j k=i2) (λk=>j+1-k) i ⟨Nat.le_refl _,by omega,hi2⟩ ?_;rintro k ⟨hk1,hk2,hk⟩;rw[scanUp]at hk;rcases Bool.eq_false_or_eq_true (decide ((k:Int)<=(j:Int)))with g|g
  ·have hg:k<=j:=by have:=of_decide_eq_true g;omega
   have h1:=AM (AD false) (d:=u) (i:=k) (by omega);have h2:=AM (AD false) (d:=u) (i:=a) (by omega);have hl:=hcf (u[k]!) (u[a]!);(repeat refine WF ?_);refine RU ?_;(repeat first|(refine RGo.gN ?_;first|(refine RGo.g_callv ?_;first|refine RGo.k2 (h:=(hl ..)) (k:=?_)))|(refine RGo.gQ ?_;first|(refine RGo.g_callv ?_;first|refine RGo.k2 (h:=(hl ..)) (k:=?_)))|refine RK ?_|refine RGo.nil (by kernel_rfl) ?_);(repeat refine WF ?_);refine AWP.cond rfl (λhd=>?_) (λhd=>?_)
   ·have hd:((AB cf) u[k]! u[a]!)=true:=by simpa[g,AB]using hd
    rw[if_pos (by rw[Bool.and_eq_true];exact⟨decide_eq_true (by omega),hd⟩)]at hk;(repeat first|refine WK ?_|refine Ai λX=>?_|refine Ay λY=>?_);exact A4 (k+1) ⟨by omega,by omega,hk⟩
   ·have hd:((AB cf) u[k]! u[a]!)=false:=by simpa[g,AB]using hd
    rw[if_neg (λe=>by rw[Bool.and_eq_true]at e;have e2:=e.2;rw[hd]at e2;cases e2)]at hk;(repeat first|refine WK ?_|refine Ai λX=>?_|refine Ay λY=>?_);exact jn k hk
  ·have hg:¬k<=j:=by have:=of_decide_eq_false g;omega
   rw[if_neg (λe=>by rw[Bool.and_eq_true]at e;have:=of_decide_eq_true e.1;omega)]at hk;(repeat refine WF ?_);refine RU ?_;(repeat first|refine RK ?_|refine RGo.nil (by kernel_rfl) ?_);(repeat refine WF ?_);refine AE rfl (by simp[g]) ?_;(repeat first|refine WK ?_|refine Ai λX=>?_|refine Ay λY=>?_);exact jn k hk
 rintro k hk0;rw[hk0];clear hk0 k
 (repeat (first|refine AWP.skip ?_|refine Az ?_|refine AWP.seq ?_))
 refine Ag (λk:Nat=>k=j2) (λk=>⟨[(0,.sl X 0 n),(1,iA a),(4,.fn f cap),(12,iA i2),(13,iA k)],(X,.row 71 3 (u.toList.map (AD false)))::Sf⟩) ?_ ?_
 ·refine AWP.block ?_
  refine BN (λ(k:Nat)=>⟨[(0,.sl X 0 n),(1,iA a),(4,.fn f cap),(12,iA i2),(13,iA k)],(X,.row 71 3 (u.toList.map (AD false)))::Sf⟩) (λk=>k<=j/\scanDown (λx=>!(AB cf) x u[a]!) u i2 k=j2) (λk=>k) j ⟨Nat.le_refl _,hj2⟩ ?_;rintro k ⟨hk1,hk⟩;rcases Bool.eq_false_or_eq_true (decide ((i2:Int)<=(k:Int)))with g|g
  ·have hg:i2<=k:=by have:=of_decide_eq_true g;omega
   obtain⟨q,rfl⟩:∃q,k=q+1:=⟨k-1,by omega⟩;rw[scanDown]at hk;have h1:=AM (AD false) (d:=u) (i:=q+1) (by omega);have h2:=AM (AD false) (d:=u) (i:=a) (by omega);have hl:=hcf (u[q+1]!) (u[a]!);(repeat refine WF ?_);refine RU ?_;(repeat first|(refine RGo.gN ?_;first|(refine RGo.g_callv ?_;first|refine RGo.k2 (h:=(hl ..)) (k:=?_)))|(refine RGo.gQ ?_;first|(refine RGo.g_callv ?_;first|refine RGo.k2 (h:=(hl ..)) (k:=?_)))|refine RK ?_|refine RGo.nil (by kernel_rfl) ?_);(repeat refine WF ?_);refine AWP.cond rfl (λhd=>?_) (λhd=>?_)
   ·have hd:(!(AB cf) u[q+1]! u[a]!)=true:=by simpa[g,AB]using hd
    rw[if_pos (by rw[Bool.and_eq_true];exact⟨decide_eq_true (by omega),hd⟩)]at hk;(repeat first|(refine AOps.gN ?_;first|refine AOps.p (AK ((q:Int)) (by omega) (by omega) rfl rfl) rfl ?_)|refine WK ?_|refine Ai λX=>?_|refine Ay λY=>?_);exact A4 q ⟨by omega,hk⟩
   ·have hd:(!(AB cf) u[q+1]! u[a]!)=false:=by simpa[g,AB]using hd
    rw[if_neg (λe=>by rw[Bool.and_eq_true]at e;have e2:=e.2;rw[hd]at e2;cases e2)]at hk;(repeat first|refine WK ?_|refine Ai λX=>?_|refine Ay λY=>?_);exact jn (q+1) hk
  ·have hg:¬i2<=k:=by have:=of_decide_eq_false g;omega
   have hk3:scanDown (λx=>!(AB cf) x u[a]!) u i2 k=k:=by
    cases k with
    |zero=>rfl
    |succ q=>rw[scanDown,if_neg (λe=>by rw[Bool.and_eq_true]at e;have:=of_decide_eq_true e.1;omega)]
   rw[hk3]at hk;(repeat refine WF ?_);refine RU ?_;(repeat first|refine RK ?_|refine RGo.nil (by kernel_rfl) ?_);(repeat refine WF ?_);refine AE rfl (by simp[g]) ?_;(repeat first|refine WK ?_|refine Ai λX=>?_|refine Ay λY=>?_);exact jn k hk
 rintro k hk0;rw[hk0];clear hk0 k;(repeat first|refine WK ?_|refine Ai λX=>?_|refine Ay λY=>?_);refine AWP.cond rfl (λhc=>?_) (λhc=>?_)
 ·have h:i2>j2:=by have:=of_decide_eq_true hc;omega
  rw[if_pos h]at hfold;subst hfold;have h1:=AM (AD false) (d:=u) (i:=j2) (by omega);have h2:=AM (AD false) (d:=u) (i:=a) (by omega);have hrow2:=BA (AD false) (d:=u) (i:=j2) (j:=a) (by omega) (by omega);obtain⟨y,hy⟩:=Av (AD false) (d:=u) (i:=j2) (j:=a) (by omega) u[a]!;(repeat refine WF ?_);refine RU ?_;(repeat first|(refine RGo.gN ?_;first|refine RGo.s (W.store rfl rfl (by exact At.f) hy (by exact rfl)) rfl ?_)|(refine RGo.gQ ?_;first|refine RGo.s (W.store rfl rfl (by exact At.f) hy (by exact rfl)) rfl ?_)|refine RK ?_|refine RGo.nil (by kernel_rfl) ?_);(repeat first|refine WK ?_|refine Ai λX=>?_|refine Ay λY=>?_);refine RT ?_;exact AQ [iA j2,bA false] [(X,_)] ⟨rfl,by rw[<-hrow2]⟩
 ·have h:¬i2>j2:=by have:=of_decide_eq_false hc;omega
  rw[if_neg h]at hfold;have h1:=AM (AD false) (d:=u) (i:=i2) (by omega);have h2:=AM (AD false) (d:=u) (i:=j2) (by omega);obtain⟨y,hy⟩:=Av (AD false) (d:=u) (i:=i2) (j:=j2) (by omega) u[j2]!;(repeat refine WF ?_);refine RU ?_;(repeat first|(refine RGo.gN ?_;first|refine RGo.s (W.store rfl rfl (by exact At.f) hy (by exact rfl)) rfl ?_)|(refine RGo.gQ ?_;first|refine RGo.s (W.store rfl rfl (by exact At.f) hy (by exact rfl)) rfl ?_)|refine RK ?_|refine RGo.nil (by kernel_rfl) ?_);(repeat first|(refine AOps.gN ?_;first|refine AOps.p (AK (((j2-1:Nat):Int)) (by omega) (by omega) rfl rfl) rfl ?_)|refine WK ?_|refine Ai λX=>?_|refine Ay λY=>?_);refine BR (i2+1) (j2-1) (swp u i2 j2) ⟨by omega,by omega,by omega,by rw[size_swp];exact hu,hfold⟩ (h0:=by rw[<-BA (AD false) (by omega) (by omega)];exact⟨by exact Lk.f,by exact Sub.f⟩)
end
section
open Go.Sort
set_option maxHeartbeats 1000000 in
theorem Hl(lt:Item->Item->Bool)(d:Array Item)(b i:Nat):i<=scanSorted lt d b i/\scanSorted lt d b i<=max i b:=by
 obtain⟨m,hm⟩:∃m,b-i=m:=⟨_,rfl⟩
 induction m generalizing i with
 |zero=>rw[scanSorted,if_neg (λe=>by rw[Bool.and_eq_true]at e;have:=of_decide_eq_true e.1;omega)];omega
 |succ m ih=>
  rw[scanSorted];split
  ·have:=ih (i+1) (by omega)
   omega
  ·omega
theorem Pb(f:FuncId)(cap:List AV)(cf:Item->Item->Int)(hst:Bd cap=true)(hcf:∀x y,PS Tryz.prog f ((AD false) x::(AD false) y::cap) (iA (cf x y)))(X n:Nat)(d:Array Item)(a b:Nat)(hn:n=d.size)(hab:a<b)(hb:b<=d.size)(hz:d.size<=1099511627776):PO Tryz.prog 217 [.sl X 0 n,iA a,iA b,.fn f cap] X (.row 71 3 (d.toList.map (AD false))) (bA (partialInsertionSort (AB cf) d a b).2) (.row 71 3 ((partialInsertionSort (AB cf) d a b).1.toList.map (AD false))):=by
 obtain⟨r,hr⟩:∃r,partialInsertionSort (AB cf) d a b=r:=⟨_,rfl⟩;rw[hr];unfold partialInsertionSort at hr;refine Spec.of (nt:=141) (res:=[.tmp 8]) Tryz.func217 rfl (by kernel_rfl) rfl rfl rfl λSf=>?_
 (repeat first|(refine AOps.gN ?_;first|refine AOps.p (AT (((a+1:Nat):Int)) (by omega) (by omega) rfl rfl) rfl ?_)|refine WK ?_|refine Ai λX=>?_|refine Ay λY=>?_);refine CB (λ(c i:Nat) (u:Array Item)=>⟨[(0,.sl X 0 n),(1,iA a),(2,iA b),(3,.fn f cap),(9,iA i),(10,iA c)],(X,.row 71 3 (u.toList.map (AD false)))::Sf⟩) (λc i u=>c<=5/\a<i/\i<=b/\u.size=d.size/\partialIns (AB cf) a b (5-c) i u=r) (λc _ _=>5-c) 0 (a+1) d ⟨by omega,by omega,by omega,rfl,hr⟩ ?_;rintro c i u ⟨hc5,hai,hib,hu,hfold⟩;(repeat first|refine WK ?_|refine Ai λX=>?_|refine Ay λY=>?_);refine AWP.cond rfl (λhc=>?_) (λhc=>?_)
 ·have h:c<5:=by have:=of_decide_eq_true hc;omega
  obtain⟨s,hs⟩:∃s,5-c=s+1:=⟨4-c,by omega⟩;rw[hs,partialIns_succ]at hfold;obtain⟨i2,hi2⟩:∃i2,scanSorted (AB cf) u b i=i2:=⟨_,rfl⟩;rw[hi2]at hfold;have hrg:=Hl (AB cf) u b i;rw[hi2]at hrg
  (repeat (first|refine AWP.skip ?_|refine Az ?_|refine AWP.seq ?_))
  refine AWP.block ?_
  (repeat (first|refine AWP.skip ?_|refine Az ?_|refine AWP.seq ?_))
  refine Ag (λk:Nat=>k=i2) (λk=>⟨[(0,.sl X 0 n),(1,iA a),(2,iA b),(3,.fn f cap),(9,iA k),(10,iA c)],(X,.row 71 3 (u.toList.map (AD false)))::Sf⟩) ?_ ?_
  ·refine AWP.block ?_
   refine BN (λ(k:Nat)=>⟨[(0,.sl X 0 n),(1,iA a),(2,iA b),(3,.fn f cap),(9,iA k),(10,iA c)],(X,.row 71 3 (u.toList.map (AD false)))::Sf⟩) (λk=>i<=k/\k<=b/\scanSorted (AB cf) u b k=i2) (λk=>b-k) i ⟨Nat.le_refl _,hib,hi2⟩ ?_;rintro k ⟨hk1,hk2,hk⟩;rw[scanSorted]at hk;rcases Bool.eq_false_or_eq_true (decide ((k:Int)<(b:Int)))with g|g
   ·have hg:k<b:=by have:=of_decide_eq_true g;omega
    have h1:=AM (AD false) (d:=u) (i:=k) (by omega);have h2:=AM (AD false) (d:=u) (i:=k-1) (by omega);have hl:=hcf (u[k]!) (u[k-1]!);(repeat refine WF ?_);refine RU ?_;(repeat first|(refine RGo.gN ?_;first|(refine RGo.g_callv ?_;first|refine RGo.k2 (h:=(hl ..)) (k:=?_))|refine RGo.go (h:=AK (((k-1:Nat):Int)) (by omega) (by omega) rfl rfl) (k:=?_))|(refine RGo.gQ ?_;first|(refine RGo.g_callv ?_;first|refine RGo.k2 (h:=(hl ..)) (k:=?_))|refine RGo.go (h:=AK (((k-1:Nat):Int)) (by omega) (by omega) rfl rfl) (k:=?_))|refine RK ?_|refine RGo.nil (by kernel_rfl) ?_);(repeat refine WF ?_);refine AWP.cond rfl (λhd=>?_) (λhd=>?_)
    ·have hd:(!(AB cf) u[k]! u[k-1]!)=true:=by simpa[g,AB]using hd
     rw[if_pos (by rw[Bool.and_eq_true];exact⟨decide_eq_true (by omega),hd⟩)]at hk;(repeat first|refine WK ?_|refine Ai λX=>?_|refine Ay λY=>?_);exact A4 (k+1) ⟨by omega,by omega,hk⟩
    ·have hd:(!(AB cf) u[k]! u[k-1]!)=false:=by simpa[g,AB]using hd
     rw[if_neg (λe=>by rw[Bool.and_eq_true]at e;have e2:=e.2;rw[hd]at e2;cases e2)]at hk;(repeat first|refine WK ?_|refine Ai λX=>?_|refine Ay λY=>?_);exact jn k hk
   ·have hg:¬k<b:=by have:=of_decide_eq_false g;omega
    rw[if_neg (λe=>by rw[Bool.and_eq_true]at e;have:=of_decide_eq_true e.1;omega)]at hk;(repeat refine WF ?_);refine RU ?_;(repeat first|refine RK ?_|refine RGo.nil (by kernel_rfl) ?_);(repeat refine WF ?_);refine AE rfl (by simp[g]) ?_;(repeat first|refine WK ?_|refine Ai λX=>?_|refine Ay λY=>?_);exact jn k hk
  rintro k hk0;rw[hk0];clear hk0 k;(repeat first|refine WK ?_|refine Ai λX=>?_|refine Ay λY=>?_);refine AWP.cond rfl (λhd=>?_) (λhd=>?_)
  ·have hd:i2=b:=by have:=of_decide_eq_true hd;omega
   rw[if_pos hd]at hfold;subst hfold;(repeat first|refine WK ?_|refine Ai λX=>?_|refine Ay λY=>?_);refine RT ?_;exact AQ [bA true] [(X,_)] ⟨rfl,rfl⟩
  have hd:¬i2=b:=by have:=of_decide_eq_false hd;omega
  rw[if_neg hd]at hfold;(repeat first|(refine AOps.gN ?_;first|refine AOps.p (AK (((b-a:Nat):Int)) (by omega) (by omega) rfl rfl) rfl ?_)|refine WK ?_|refine Ai λX=>?_|refine Ay λY=>?_);refine AWP.cond rfl (λhe=>?_) (λhe=>?_)
  ·have he:b-a<50:=by have:=of_decide_eq_true he;omega
   rw[if_pos he]at hfold;subst hfold;(repeat first|refine WK ?_|refine Ai λX=>?_|refine Ay λY=>?_);refine RT ?_;exact AQ [bA false] [(X,_)] ⟨rfl,rfl⟩
  have he:¬b-a<50:=by have:=of_decide_eq_false he;omega
  rw[if_neg he]at hfold;have h1:=AM (AD false) (d:=u) (i:=i2) (by omega);have h2:=AM (AD false) (d:=u) (i:=i2-1) (by omega);have hrow:=BA (AD false) (d:=u) (i:=i2) (j:=i2-1) (by omega) (by omega);obtain⟨y,hy⟩:=Av (AD false) (d:=u) (i:=i2) (j:=i2-1) (by omega) u[i2-1]!;have hvs:(swp u i2 (i2-1)).size=d.size:=by rw[size_swp];exact hu
  (repeat refine WF ?_);refine RU ?_;(repeat first|(refine RGo.gN ?_;first|refine RGo.go (h:=AK (((i2-1:Nat):Int)) (by omega) (by omega) rfl rfl) (k:=?_)|refine RGo.s (W.store rfl rfl (by exact At.f) hy (by exact rfl)) rfl ?_)|(refine RGo.gQ ?_;first|refine RGo.go (h:=AK (((i2-1:Nat):Int)) (by omega) (by omega) rfl rfl) (k:=?_)|refine RGo.s (W.store rfl rfl (by exact At.f) hy (by exact rfl)) rfl ?_)|refine RK ?_|refine RGo.nil (by kernel_rfl) ?_);obtain⟨v,hv⟩:∃v,swp u i2 (i2-1)=v:=⟨_,rfl⟩;rw[hv]at hrow hvs hfold;refine FN [(0,.sl X 0 n),(1,iA a),(2,iA b),(3,.fn f cap),(9,iA i2),(10,iA c)] ((X,.row 71 3 (v.toList.map (AD false)))::Sf) ?_ (h:=by rw[<-hrow];exact⟨by exact Lk.f,by exact Sub.f⟩);(repeat first|(refine AOps.gN ?_;first|refine AOps.p (AK (((i2-a:Nat):Int)) (by omega) (by omega) rfl rfl) rfl ?_)|refine WK ?_|refine Ai λX=>?_|refine Ay λY=>?_);refine Ag (λw:Array Item=>w.size=d.size/\w=fixDown (AB cf) a i2 v) (λw=>⟨[(0,.sl X 0 n),(1,iA a),(2,iA b),(3,.fn f cap),(9,iA i2),(10,iA c)],(X,.row 71 3 (w.toList.map (AD false)))::Sf⟩) ?_ ?_
  ·unfold fixDown
   refine AWP.cond rfl (λhf=>?_) (λhf=>?_)
   ·have hf:i2-a>=2:=by have:=of_decide_eq_true hf;omega
    rw[if_pos hf];(repeat first|(refine AOps.gN ?_;first|refine AOps.p (AK (((i2-1:Nat):Int)) (by omega) (by omega) rfl rfl) rfl ?_)|refine WK ?_|refine Ai λX=>?_|refine Ay λY=>?_);refine BH (λ(k:Nat) (w:Array Item)=>⟨[(0,.sl X 0 n),(1,iA a),(2,iA b),(3,.fn f cap),(9,iA i2),(10,iA c),(11,iA k)],(X,.row 71 3 (w.toList.map (AD false)))::Sf⟩) (λk w=>k<b/\w.size=d.size/\shiftDown (AB cf) k w=shiftDown (AB cf) (i2-1) v) (λk _=>k) (i2-1) v ⟨by omega,hvs,rfl⟩ ?_;rintro k w ⟨hkb,hw,hk⟩;(repeat first|refine WK ?_|refine Ai λX=>?_|refine Ay λY=>?_);refine AWP.cond rfl (λhg=>?_) (λhg=>?_)
    ·obtain⟨q,rfl⟩:∃q,k=q+1:=⟨k-1,by have:=of_decide_eq_true hg;omega⟩
     rw[shiftDown]at hk;have h1:=AM (AD false) (d:=w) (i:=q+1) (by omega);have h2:=AM (AD false) (d:=w) (i:=q) (by omega);have hl:=hcf (w[q+1]!) (w[q]!);(repeat refine WF ?_);refine RU ?_;(repeat first|(refine RGo.gN ?_;first|(refine RGo.g_callv ?_;first|refine RGo.k2 (h:=(hl ..)) (k:=?_))|refine RGo.go (h:=AK ((q:Int)) (by omega) (by omega) rfl rfl) (k:=?_))|(refine RGo.gQ ?_;first|(refine RGo.g_callv ?_;first|refine RGo.k2 (h:=(hl ..)) (k:=?_))|refine RGo.go (h:=AK ((q:Int)) (by omega) (by omega) rfl rfl) (k:=?_))|refine RK ?_|refine RGo.nil (by kernel_rfl) ?_);(repeat refine WF ?_);refine AWP.cond rfl (λhd=>?_) (λhd=>?_)
     ·have hd:(!(AB cf) w[q+1]! w[q]!)=true:=by simpa[AB]using hd
      rw[if_pos hd]at hk;(repeat first|refine WK ?_|refine Ai λX=>?_|refine Ay λY=>?_);exact jn w ⟨hw,hk⟩
     ·have hd:(!(AB cf) w[q+1]! w[q]!)=false:=by simpa[AB]using hd
      rw[if_neg (by rw[hd];simp)]at hk;clear y hy;obtain⟨y,hy⟩:=Av (AD false) (d:=w) (i:=q+1) (j:=q) (by omega) w[q]!;(repeat refine WF ?_);refine RU ?_;(repeat first|(refine RGo.gN ?_;first|refine RGo.go (h:=AK ((q:Int)) (by omega) (by omega) rfl rfl) (k:=?_)|refine RGo.s (W.store rfl rfl (by exact At.f) hy (by exact rfl)) rfl ?_)|(refine RGo.gQ ?_;first|refine RGo.go (h:=AK ((q:Int)) (by omega) (by omega) rfl rfl) (k:=?_)|refine RGo.s (W.store rfl rfl (by exact At.f) hy (by exact rfl)) rfl ?_)|refine RK ?_|refine RGo.nil (by kernel_rfl) ?_);(repeat first|(refine AOps.gN ?_;first|refine AOps.p (AK ((q:Int)) (by omega) (by omega) rfl rfl) rfl ?_)|refine WK ?_|refine Ai λX=>?_|refine Ay λY=>?_);refine Ae q (swp w (q+1) q) ⟨by omega,by rw[size_swp];exact hw,hk⟩ (h0:=by rw[<-BA (AD false) (by omega) (by omega)];exact⟨by exact Lk.f,by exact Sub.f⟩)
    ·obtain rfl:k=0:=by have:=of_decide_eq_false hg;omega
     rw[shiftDown]at hk;(repeat first|refine WK ?_|refine Ai λX=>?_|refine Ay λY=>?_);exact jn w ⟨hw,hk⟩
   ·have hf:¬i2-a>=2:=by have:=of_decide_eq_false hf;omega
    rw[if_neg hf];(repeat first|refine WK ?_|refine Ai λX=>?_|refine Ay λY=>?_);exact jn v ⟨hvs,rfl⟩
  rintro w ⟨hws,hw0⟩;rw[<-hw0]at hfold;clear hw0 hrow y hy h1 h2;(repeat first|(refine AOps.gN ?_;first|refine AOps.p (AK (((b-i2:Nat):Int)) (by omega) (by omega) rfl rfl) rfl ?_)|refine WK ?_|refine Ai λX=>?_|refine Ay λY=>?_);refine KU (λz:Array Item=>z.size=d.size/\z=fixUp (AB cf) b i2 w) (λz=>⟨[(0,.sl X 0 n),(1,iA a),(2,iA b),(3,.fn f cap),(9,iA i2),(10,iA c)],(X,.row 71 3 (z.toList.map (AD false)))::Sf⟩) ?_ ?_
  ·unfold fixUp
   refine AWP.cond rfl (λhf=>?_) (λhf=>?_)
   ·have hf:b-i2>=2:=by have:=of_decide_eq_true hf;omega
    rw[if_pos hf];(repeat first|(refine AOps.gN ?_;first|refine AOps.p (AT (((i2+1:Nat):Int)) (by omega) (by omega) rfl rfl) rfl ?_)|refine WK ?_|refine Ai λX=>?_|refine Ay λY=>?_);refine BH (λ(k:Nat) (z:Array Item)=>⟨[(0,.sl X 0 n),(1,iA a),(2,iA b),(3,.fn f cap),(9,iA i2),(10,iA c),(12,iA k)],(X,.row 71 3 (z.toList.map (AD false)))::Sf⟩) (λk z=>i2<k/\k<=b/\z.size=d.size/\shiftUp (AB cf) b k z=shiftUp (AB cf) b (i2+1) w) (λk _=>b-k) (i2+1) w ⟨by omega,by omega,hws,rfl⟩ ?_;rintro k z ⟨hik,hkb,hz1,hk⟩;rw[shiftUp]at hk;(repeat first|refine WK ?_|refine Ai λX=>?_|refine Ay λY=>?_);refine AWP.cond rfl (λhg=>?_) (λhg=>?_)
    ·have hg:k<b:=by have:=of_decide_eq_true hg;omega
     rw[if_pos hg]at hk;have h1:=AM (AD false) (d:=z) (i:=k) (by omega);have h2:=AM (AD false) (d:=z) (i:=k-1) (by omega);have hl:=hcf (z[k]!) (z[k-1]!);(repeat refine WF ?_);refine RU ?_;(repeat first|(refine RGo.gN ?_;first|(refine RGo.g_callv ?_;first|refine RGo.k2 (h:=(hl ..)) (k:=?_))|refine RGo.go (h:=AK (((k-1:Nat):Int)) (by omega) (by omega) rfl rfl) (k:=?_))|(refine RGo.gQ ?_;first|(refine RGo.g_callv ?_;first|refine RGo.k2 (h:=(hl ..)) (k:=?_))|refine RGo.go (h:=AK (((k-1:Nat):Int)) (by omega) (by omega) rfl rfl) (k:=?_))|refine RK ?_|refine RGo.nil (by kernel_rfl) ?_);(repeat refine WF ?_);refine AWP.cond rfl (λhd=>?_) (λhd=>?_)
     ·have hd:(!(AB cf) z[k]! z[k-1]!)=true:=by simpa[AB]using hd
      rw[if_pos hd]at hk;(repeat first|refine WK ?_|refine Ai λX=>?_|refine Ay λY=>?_);exact jn z ⟨hz1,hk⟩
     ·have hd:(!(AB cf) z[k]! z[k-1]!)=false:=by simpa[AB]using hd
      rw[if_neg (by rw[hd];simp)]at hk;obtain⟨y,hy⟩:=Av (AD false) (d:=z) (i:=k) (j:=k-1) (by omega) z[k-1]!;(repeat refine WF ?_);refine RU ?_;(repeat first|(refine RGo.gN ?_;first|refine RGo.go (h:=AK (((k-1:Nat):Int)) (by omega) (by omega) rfl rfl) (k:=?_)|refine RGo.s (W.store rfl rfl (by exact At.f) hy (by exact rfl)) rfl ?_)|(refine RGo.gQ ?_;first|refine RGo.go (h:=AK (((k-1:Nat):Int)) (by omega) (by omega) rfl rfl) (k:=?_)|refine RGo.s (W.store rfl rfl (by exact At.f) hy (by exact rfl)) rfl ?_)|refine RK ?_|refine RGo.nil (by kernel_rfl) ?_);(repeat first|refine WK ?_|refine Ai λX=>?_|refine Ay λY=>?_);refine Ae (k+1) (swp z k (k-1)) ⟨by omega,by omega,by rw[size_swp];exact hz1,hk⟩ (h0:=by rw[<-BA (AD false) (by omega) (by omega)];exact⟨by exact Lk.f,by exact Sub.f⟩)
    ·have hg:¬k<b:=by have:=of_decide_eq_false hg;omega
     rw[if_neg hg]at hk;(repeat first|refine WK ?_|refine Ai λX=>?_|refine Ay λY=>?_);exact jn z ⟨hz1,hk⟩
   ·have hf:¬b-i2>=2:=by have:=of_decide_eq_false hf;omega
    rw[if_neg hf];(repeat first|refine WK ?_|refine Ai λX=>?_|refine Ay λY=>?_);exact jn w ⟨hws,rfl⟩
  rintro z ⟨hzs,hz0⟩;rw[<-hz0]at hfold;(repeat first|refine WK ?_|refine Ai λX=>?_|refine Ay λY=>?_);refine BR (c+1) i2 z ⟨by omega,by omega,by omega,hzs,by rw[show 5-(c+1)=s by omega];exact hfold⟩
 ·have h:c=5:=by have:=of_decide_eq_false hc;omega
  subst h;rw[show 5-5=0 from rfl,partialIns]at hfold;subst hfold;(repeat first|refine WK ?_|refine Ai λX=>?_|refine Ay λY=>?_);refine RT ?_;exact AQ [bA false] [(X,_)] ⟨rfl,rfl⟩
end
section
open Go.Sort
set_option maxHeartbeats 1000000 in
theorem Rt{f:FuncId}{cap:List AV}(X n:Nat)(d:Array Item)(a b:Nat)(hn:n=d.size)(hab:a<=b)(hb:b<=d.size)(hz:d.size<65536):Spec Tryz.prog 214 [.sl X 0 n,iA a,iA b,.fn f cap] [(X,.row 71 3 (d.toList.map (AD false)))] λr S'=>∃u:Array Item,PermIn a b d u/\r= .tup []/\S'=[(X,.row 71 3 (u.toList.map (AD false)))]:=by
 obtain⟨l,hl⟩:∃l,b-a=l:=⟨_,rfl⟩;refine Spec.of (nt:=67) (res:=[]) Tryz.func214 rfl (by kernel_rfl) rfl rfl rfl λSf=>?_
 (repeat first|(refine AOps.gN ?_;first|refine AOps.p (AK ((l:Int)) (by omega) (by omega) rfl rfl) rfl ?_)|refine WK ?_|refine Ai λX=>?_|refine Ay λY=>?_);refine AWP.cond rfl (λh8=>?_) (λh8=>?_)
 ·have h8:8<=l:=by have:=of_decide_eq_true h8;omega
  have hnp:=IY l (by omega);have hbl:bitsLen l<=16:=(bitsLen_le_iff l 16).2 (by omega);have hm2:=two_pow_bitsLen_le (n:=l) (by omega);obtain⟨m,hm⟩:∃m,(1:UInt64)<<<UInt64.ofNat (bitsLen l)=m:=⟨_,rfl⟩
  have hmn:m.toNat=2^bitsLen l:=by
   have:2^bitsLen l<=2^16:=Nat.pow_le_pow_right (by decide) hbl;rw[<-hm,UInt64.toNat_shiftLeft,UInt64.toNat_ofNat',show bitsLen l%2^64%64=bitsLen l by omega,Nat.shiftLeft_eq,show(1:UInt64).toNat=1 from rfl];omega
  rw[hm]at hnp;have hp1:1<=2^bitsLen l:=Nat.one_le_two_pow;(repeat first|(refine AOps.gN ?_;first|(refine AOps.g_callf ?_;first|refine AOps.c1 (h:=(hnp ..)) (k:=?_))|refine AOps.p (HN .i64 l rfl (by omega) (by kernel_rfl) (by kernel_rfl) rfl) rfl ?_|refine AOps.p (EW l 4 (l/4) rfl rfl (by omega) rfl (by omega) rfl rfl) rfl ?_|refine AOps.p (De ((l/4*2:Nat):Int) (by omega) (by omega) rfl rfl) rfl ?_|refine AOps.p (AT (((a+l/4*2:Nat):Int)) (by omega) (by omega) rfl rfl) rfl ?_|refine AOps.p (AK (((a+l/4*2-1:Nat):Int)) (by omega) (by omega) rfl rfl) rfl ?_)|refine WK ?_|refine Ai λV=>?_|refine Ay λY=>?_);refine CB (λ(k:Nat) (s:UInt64) (u:Array Item)=>⟨[(0,.sl X 0 n),(1,iA a),(3,.fn f cap),(8,iA l),(9,.ptr V 0 0),(10,uA m),(11,iA k)],(V,.row 355 1 [uA s])::(X,.row 71 3 (u.toList.map (AD false)))::Sf⟩) (λk s u=>a<=k/\k<=a+l/4*2+2/\PermIn a b d u) (λk _ _=>a+l/4*2+2-k) (a+l/4*2-1) (UInt64.ofNat l) d ⟨by omega,by omega,permIn_refl _ _ _⟩ ?_;rintro k s u ⟨hak,hkl,hP⟩;have hu:u.size=d.size:=hP.1;(repeat first|(refine AOps.gN ?_;first|refine AOps.p (EW l 4 (l/4) rfl rfl (by omega) rfl (by omega) rfl rfl) rfl ?_|refine AOps.p (De ((l/4*2:Nat):Int) (by omega) (by omega) rfl rfl) rfl ?_|refine AOps.p (AT (((a+l/4*2:Nat):Int)) (by omega) (by omega) rfl rfl) rfl ?_|refine AOps.p (AT (((a+l/4*2+1:Nat):Int)) (by omega) (by omega) rfl rfl) rfl ?_)|refine WK ?_|refine Ai λX=>?_|refine Ay λY=>?_);refine AWP.cond rfl (λhc=>?_) (λhc=>?_)
  ·have hk1:k<=a+l/4*2+1:=by have:=of_decide_eq_true hc;omega
   have hkb:k<b:=by omega
   refine AWP.skip ?_;refine Az ?_;refine AWP.seq ?_;refine AWP.block ?_;refine AWP.seq ?_;refine RG ?_;(repeat first|(refine AOps.gN ?_;first|(refine AOps.g_callf ?_;first|refine Mc (h:=IA V s) (k:=λv _=>?_)))|refine WO ?_|refine Ai λX=>?_|refine Ay λY=>?_)
   have hvb:(v&&&(m-1)).toNat<2*l:=by
    rw[UInt64.toNat_and,UInt64.toNat_sub_of_le _ _ (by rw[UInt64.le_iff_toNat_le,hmn];exact hp1),hmn];have:=Nat.and_le_right (n:=v.toNat) (m:=2^bitsLen l-(1:UInt64).toNat);have e:(1:UInt64).toNat=1:=rfl;omega
   (repeat first|(refine AOps.gN ?_;first|refine AOps.p (Qh (b:=1) rfl rfl) rfl ?_|refine AOps.p (Qu rfl rfl) rfl ?_|refine AOps.p (Qj .u64 (by omega) (by kernel_rfl) (by kernel_rfl) rfl) rfl ?_)|refine WO ?_|refine Ai λX=>?_|refine Ay λY=>?_);refine AOps.nil ?_
   (repeat (first|refine AWP.skip ?_|refine Az ?_|refine AWP.seq ?_))
   obtain⟨o,ho⟩:∃o,(v&&&(m-1)).toNat=o:=⟨_,rfl⟩;refine FN [(0,.sl X 0 n),(1,iA a),(3,.fn f cap),(8,iA l),(9,.ptr V 0 0),(10,uA m),(11,iA k),(12,iA o)] ((V,.row 355 1 [uA v])::(X,.row 71 3 (u.toList.map (AD false)))::Sf) ?_ (h:=by rw[<-ho];exact⟨by exact Lk.f,by exact Sub.f⟩);rw[ho]at hvb;(repeat first|refine WK ?_|refine Ai λX=>?_|refine Ay λY=>?_);refine Ag (λo:Nat=>o<l) (λo=>⟨[(0,.sl X 0 n),(1,iA a),(3,.fn f cap),(8,iA l),(9,.ptr V 0 0),(10,uA m),(11,iA k),(12,iA o)],(V,.row 355 1 [uA v])::(X,.row 71 3 (u.toList.map (AD false)))::Sf⟩) ?_ ?_
   ·refine AWP.cond rfl (λhd=>?_) (λhd=>?_)
    ·have hd:l<=o:=by have:=of_decide_eq_true hd;omega
     (repeat first|(refine AOps.gN ?_;first|refine AOps.p (AK (((o-l:Nat):Int)) (by omega) (by omega) rfl rfl) rfl ?_)|refine WK ?_|refine Ai λX=>?_|refine Ay λY=>?_);exact jn (o-l) (by omega)
    ·have hd:¬l<=o:=by have:=of_decide_eq_false hd;omega
     (repeat first|refine WK ?_|refine Ai λX=>?_|refine Ay λY=>?_);exact jn o (by omega)
   rintro o hol;have h1:=AM (AD false) (d:=u) (i:=k) (by omega);have h2:=AM (AD false) (d:=u) (i:=a+o) (by omega);obtain⟨y,hy⟩:=Av (AD false) (d:=u) (i:=k) (j:=a+o) (by omega) u[a+o]!;(repeat refine WF ?_);refine RU ?_;(repeat first|(refine RGo.gN ?_;first|refine RGo.go (h:=AT (((a+o:Nat):Int)) (by omega) (by omega) rfl rfl) (k:=?_)|refine RGo.s (W.store rfl rfl (by exact At.f) hy (by exact rfl)) rfl ?_)|(refine RGo.gQ ?_;first|refine RGo.go (h:=AT (((a+o:Nat):Int)) (by omega) (by omega) rfl rfl) (k:=?_)|refine RGo.s (W.store rfl rfl (by exact At.f) hy (by exact rfl)) rfl ?_)|refine RK ?_|refine RGo.nil (by kernel_rfl) ?_);(repeat first|refine WK ?_|refine Ai λX=>?_|refine Ay λY=>?_);refine BR (k+1) v (swp u k (a+o)) ⟨by omega,by omega,permIn_trans _ _ _ _ _ hP (swp_permIn _ _ _ _ _ (by omega) (by omega) (by omega) (by omega) (by omega))⟩ (h0:=by rw[<-BA (AD false) (by omega) (by omega)];exact⟨by exact Lk.f,by exact Sub.f⟩)
  ·(repeat first|refine WK ?_|refine Ai λX=>?_|refine Ay λY=>?_)
   refine CT ?_;exact Au [(X,.row 71 3 (u.toList.map (AD false)))] ⟨u,hP,rfl,rfl⟩
 ·(repeat first|refine WK ?_|refine Ai λX=>?_|refine Ay λY=>?_)
  refine CT ?_;exact Au [(X,.row 71 3 (d.toList.map (AD false)))] ⟨d,permIn_refl _ _ _,rfl,rfl⟩
end
section
open Go.Sort
set_option maxHeartbeats 1000000 in
theorem Fy(f:FuncId)(cap:List AV)(cf:Item->Item->Int)(hst:Bd cap=true)(hcf:∀x y,PS Tryz.prog f ((AD false) x::(AD false) y::cap) (iA (cf x y)))(X Y n:Nat)(d:Array Item)(a b s:Nat)(hn:n=d.size)(ha:a<d.size)(hb:b<d.size)(hs:s<=1099511627776):Spec Tryz.prog 283 [.sl X 0 n,iA a,iA b,.ptr Y 0 0,.fn f cap] [(X,.row 71 3 (d.toList.map (AD false))),(Y,.row 3 1 [iA s])] λr S'=>r= .tup [iA (order2 (AB cf) d a b s).1,iA (order2 (AB cf) d a b s).2.1]/\S'=[(X,.row 71 3 (d.toList.map (AD false))),(Y,.row 3 1 [iA (order2 (AB cf) d a b s).2.2])]:=by
 subst hn;have h1:=AM (AD false) ha;have h2:=AM (AD false) hb;have hl:=hcf (d[b]!) (d[a]!);refine Spec.of (nt:=32) (res:=[.tmp 10,.tmp 11]) Tryz.func283 rfl (by kernel_rfl) rfl rfl rfl λSf=>?_
 unfold order2;refine RG ?_;(repeat first|refine WO ?_|refine Ai λX=>?_|refine Ay λY=>?_);refine NL ?_;refine RU ?_;(repeat first|(refine RGo.gN ?_;first|(refine RGo.g_callv ?_;first|refine RGo.k2 (h:=(hl ..)) (k:=?_)))|(refine RGo.gQ ?_;first|(refine RGo.g_callv ?_;first|refine RGo.k2 (h:=(hl ..)) (k:=?_)))|refine RK ?_|refine RGo.nil (by kernel_rfl) ?_);(repeat refine WF ?_);refine AWP.cond rfl (λhc=>?_) (λhc=>?_)
 ·have hc:(AB cf) d[b]! d[a]! =true:=by simpa[AB]using hc
  rw[if_pos hc];(repeat first|refine WK ?_|refine Ai λX=>?_|refine Ay λY=>?_);refine RT ?_;exact AQ [iA b,iA a] [(X,_),(Y,_)] ⟨rfl,rfl⟩
 ·have hc:(AB cf) d[b]! d[a]! =false:=by simpa[AB]using hc
  rw[if_neg (by simp[hc])];(repeat first|refine WK ?_|refine Ai λX=>?_|refine Ay λY=>?_);refine RT ?_;exact AQ [iA a,iA b] [(X,_),(Y,_)] ⟨rfl,rfl⟩
set_option maxHeartbeats 1000000 in
theorem Ia(f:FuncId)(cap:List AV)(cf:Item->Item->Int)(hst:Bd cap=true)(hcf:∀x y,PS Tryz.prog f ((AD false) x::(AD false) y::cap) (iA (cf x y)))(X Y n:Nat)(d:Array Item)(a b c s:Nat)(hn:n=d.size)(ha:a<d.size)(hb:b<d.size)(hc:c<d.size)(hs:s<=1099511627000):Spec Tryz.prog 266 [.sl X 0 n,iA a,iA b,iA c,.ptr Y 0 0,.fn f cap] [(X,.row 71 3 (d.toList.map (AD false))),(Y,.row 3 1 [iA s])] λr S'=>r=iA (median (AB cf) d a b c s).1/\S'=[(X,.row 71 3 (d.toList.map (AD false))),(Y,.row 3 1 [iA (median (AB cf) d a b c s).2])]:=by
 obtain⟨m,hm⟩:∃m,median (AB cf) d a b c s=m:=⟨_,rfl⟩;rw[hm];unfold median at hm;have l1:=Dr (AB cf) d a b s _ ha hb;have e1:=DR (AB cf) d a b s;have h1:=Fy f cap cf hst hcf X Y n d a b s hn ha hb (by omega);obtain⟨⟨a1,b1,s1⟩,hr1⟩:∃r,order2 (AB cf) d a b s=r:=⟨_,rfl⟩;rw[hr1]at h1 hm l1 e1;dsimp only at h1 hm l1 e1;have l2:=Dr (AB cf) d b1 c s1 _ l1.2 hc;have e2:=DR (AB cf) d b1 c s1;have h2:=Fy f cap cf hst hcf X Y n d b1 c s1 hn l1.2 hc (by omega);obtain⟨⟨b2,c2,s2⟩,hr2⟩:∃r,order2 (AB cf) d b1 c s1=r:=⟨_,rfl⟩;rw[hr2]at h2 hm l2 e2;dsimp only at h2 hm l2 e2;have l3:=Dr (AB cf) d a1 b2 s2 _ l1.1 l2.1;have h3:=Fy f cap cf hst hcf X Y n d a1 b2 s2 hn l1.1 l2.1 (by omega);obtain⟨⟨a3,b3,s3⟩,hr3⟩:∃r,order2 (AB cf) d a1 b2 s2=r:=⟨_,rfl⟩;rw[hr3]at h3 hm l3;dsimp only at h3 hm l3;subst hm;refine Spec.of (nt:=41) (res:=[.tmp 12]) Tryz.func266 rfl (by kernel_rfl) rfl rfl rfl λSf=>?_
 (repeat first|(refine AOps.gN ?_;first|(refine AOps.g_callf ?_;first|refine Fi (h:=h1) (hT:=.fz) (k:=?_)|refine Fi (h:=h2) (hT:=.fz) (k:=?_)|refine Fi (h:=h3) (hT:=.fz) (k:=?_)))|refine WK ?_|refine Ai λX=>?_|refine Ay λY=>?_);refine RT ?_;exact AQ [iA b3] [(X,_),(Y,_)] ⟨rfl,rfl⟩
set_option maxHeartbeats 1000000 in
theorem F4(f:FuncId)(cap:List AV)(cf:Item->Item->Int)(hst:Bd cap=true)(hcf:∀x y,PS Tryz.prog f ((AD false) x::(AD false) y::cap) (iA (cf x y)))(X Y n:Nat)(d:Array Item)(a s:Nat)(hn:n=d.size)(ha:a+1<d.size)(h0:0<a)(hz:d.size<=1099511627776)(hs:s<=1099511627000):Spec Tryz.prog 265 [.sl X 0 n,iA a,.ptr Y 0 0,.fn f cap] [(X,.row 71 3 (d.toList.map (AD false))),(Y,.row 3 1 [iA s])] λr S'=>r=iA (medianAdjacent (AB cf) d a s).1/\S'=[(X,.row 71 3 (d.toList.map (AD false))),(Y,.row 3 1 [iA (medianAdjacent (AB cf) d a s).2])]:=by
 have h1:=Ia f cap cf hst hcf X Y n d (a-1) a (a+1) s hn (by omega) (by omega) ha hs;unfold medianAdjacent;refine Spec.of (nt:=18) (res:=[.tmp 8]) Tryz.func265 rfl (by kernel_rfl) rfl rfl rfl λSf=>?_
 (repeat first|(refine AOps.gN ?_;first|(refine AOps.g_callf ?_;first|refine H9 (h:=h1) (hT:=.fz) (k:=?_))|refine AOps.p (AK ((a-1:Nat):Int) (by omega) (by omega) rfl rfl) rfl ?_|refine AOps.p (AT ((a+1:Nat):Int) (by omega) (by omega) rfl rfl) rfl ?_)|refine WK ?_|refine Ai λX=>?_|refine Ay λY=>?_);refine RT ?_;exact AQ [iA _] [(X,_),(Y,_)] ⟨rfl,rfl⟩
set_option maxHeartbeats 1000000 in
theorem Hx(f:FuncId)(cap:List AV)(cf:Item->Item->Int)(hst:Bd cap=true)(hcf:∀x y,PS Tryz.prog f ((AD false) x::(AD false) y::cap) (iA (cf x y)))(X n:Nat)(d:Array Item)(a b:Nat)(hn:n=d.size)(hab:a<b)(hb:b<=d.size)(hz:d.size<=1099511627776):PO Tryz.prog 215 [.sl X 0 n,iA a,iA b,.fn f cap] X (.row 71 3 (d.toList.map (AD false))) (.tup [iA (choosePivot (AB cf) d a b).1,iA (Nx (choosePivot (AB cf) d a b).2)]) (.row 71 3 (d.toList.map (AD false))):=by
 obtain⟨c,hc⟩:∃c,choosePivot (AB cf) d a b=c:=⟨_,rfl⟩;rw[hc];unfold choosePivot at hc;obtain⟨l,hl⟩:∃l,b-a=l:=⟨_,rfl⟩;obtain⟨i,hi⟩:∃i,a+l/4*1=i:=⟨_,rfl⟩;obtain⟨j,hj⟩:∃i,a+l/4*2=i:=⟨_,rfl⟩;obtain⟨k,hk⟩:∃i,a+l/4*3=i:=⟨_,rfl⟩;rw[hl]at hc;dsimp only at hc;rw[hi,hj,hk]at hc;refine Spec.of (nt:=63) (res:=[.tmp 8,.tmp 9]) Tryz.func215 rfl (by kernel_rfl) rfl rfl rfl λSf=>?_
 have hlb:l<=1099511627776:=by omega
 (repeat first|(refine AOps.gN ?_;first|refine AOps.p (AK (l:Int) (by omega) (by omega) rfl rfl) rfl ?_|refine AOps.p (EW l 4 (l/4) rfl rfl (by omega) rfl (by omega) rfl rfl) rfl ?_|refine AOps.p (De ((l/4*1:Nat):Int) (by omega) (by omega) rfl rfl) rfl ?_|refine AOps.p (De ((l/4*2:Nat):Int) (by omega) (by omega) rfl rfl) rfl ?_|refine AOps.p (De ((l/4*3:Nat):Int) (by omega) (by omega) rfl rfl) rfl ?_|refine AOps.p (AT (i:Int) (by omega) (by omega) rfl rfl) rfl ?_|refine AOps.p (AT (j:Int) (by omega) (by omega) rfl rfl) rfl ?_|refine AOps.p (AT (k:Int) (by omega) (by omega) rfl rfl) rfl ?_)|refine WK ?_|refine Ai λV=>?_|refine Ay λY=>?_);refine Ag (λb:Nat×Nat=>c=(b.1,if b.2=0 then Hint.increasing else if b.2=12 then Hint.decreasing else Hint.unknown)) (λb=>⟨[(0,.sl X 0 n),(3,.fn f cap),(11,.ptr V 0 0),(13,iA b.1)],(V,.row 3 1 [iA b.2])::(X,.row 71 3 (d.toList.map (AD false)))::Sf⟩) ?_ ?_
 ·refine AWP.cond rfl (λh8=>?_) (λh8=>?_)
  ·have h8:l>=8:=by have:=of_decide_eq_true h8;omega
   rw[if_pos h8]at hc;(repeat first|refine WK ?_|refine Ai λX=>?_|refine Ay λY=>?_);refine Ag (λb:Nat×Nat×Nat×Nat=>b.1<d.size/\b.2.1<d.size/\b.2.2.1<d.size/\b.2.2.2<=100/\(if l>=50 then median (AB cf) d (medianAdjacent (AB cf) d i 0).1 (medianAdjacent (AB cf) d j (medianAdjacent (AB cf) d i 0).2).1 (medianAdjacent (AB cf) d k (medianAdjacent (AB cf) d j (medianAdjacent (AB cf) d i 0).2).2).1 (medianAdjacent (AB cf) d k (medianAdjacent (AB cf) d j (medianAdjacent (AB cf) d i 0).2).2).2 else median (AB cf) d i j k 0)=median (AB cf) d b.1 b.2.1 b.2.2.1 b.2.2.2) (λb=>⟨[(0,.sl X 0 n),(3,.fn f cap),(11,.ptr V 0 0),(12,iA b.1),(13,iA b.2.1),(14,iA b.2.2.1)],(V,.row 3 1 [iA b.2.2.2])::(X,.row 71 3 (d.toList.map (AD false)))::Sf⟩) ?_ ?_
   ·refine AWP.cond rfl (λh50=>?_) (λh50=>?_)
    ·have h50:l>=50:=by have:=of_decide_eq_true h50;omega
     have a1:=Dt (AB cf) d i 0 _ (show i+1<d.size by omega);have b1:=Ds (AB cf) d (i-1) i (i+1) 0;have s1:=F4 f cap cf hst hcf X V n d i 0 hn (by omega) (by omega) hz (by omega);rw[if_pos h50];have e1:(median (AB cf) d (i-1) i (i+1) 0).2=(medianAdjacent (AB cf) d i 0).2:=rfl;rw[e1]at b1;obtain⟨⟨p1,q1⟩,r1⟩:∃r,medianAdjacent (AB cf) d i 0=r:=⟨_,rfl⟩;rw[r1]at a1 b1 s1⊢;dsimp only at a1 b1 s1⊢;have a2:=Dt (AB cf) d j q1 _ (show j+1<d.size by omega);have b2:=Ds (AB cf) d (j-1) j (j+1) q1;have s2:=F4 f cap cf hst hcf X V n d j q1 hn (by omega) (by omega) hz (by omega);have e2:(median (AB cf) d (j-1) j (j+1) q1).2=(medianAdjacent (AB cf) d j q1).2:=rfl;rw[e2]at b2;obtain⟨⟨p2,q2⟩,r2⟩:∃r,medianAdjacent (AB cf) d j q1=r:=⟨_,rfl⟩;rw[r2]at a2 b2 s2⊢;dsimp only at a2 b2 s2⊢;have a3:=Dt (AB cf) d k q2 _ (show k+1<d.size by omega);have b3:=Ds (AB cf) d (k-1) k (k+1) q2;have s3:=F4 f cap cf hst hcf X V n d k q2 hn (by omega) (by omega) hz (by omega);have e3:(median (AB cf) d (k-1) k (k+1) q2).2=(medianAdjacent (AB cf) d k q2).2:=rfl;rw[e3]at b3;obtain⟨⟨p3,q3⟩,r3⟩:∃r,medianAdjacent (AB cf) d k q2=r:=⟨_,rfl⟩;rw[r3]at a3 b3 s3⊢;dsimp only at a3 b3 s3⊢;(repeat first|(refine AOps.gN ?_;first|(refine AOps.g_callf ?_;first|refine EQ (h:=s1) (hT:=.fz) (k:=?_)|refine EQ (h:=s2) (hT:=.fz) (k:=?_)|refine EQ (h:=s3) (hT:=.fz) (k:=?_)))|refine WK ?_|refine Ai λX=>?_|refine Ay λY=>?_);refine jn (p1,p2,p3,q3) ⟨a1,a2,a3,by dsimp only;omega,rfl⟩
    ·have h50:¬l>=50:=by have:=of_decide_eq_false h50;omega
     rw[if_neg h50];(repeat first|refine WK ?_|refine Ai λX=>?_|refine Ay λY=>?_);refine jn (i,j,k,0) ⟨by dsimp only;omega,by dsimp only;omega,by dsimp only;omega,by dsimp only;omega,rfl⟩
   ·rintro⟨p1,p2,p3,q⟩ ⟨l1,l2,l3,lq,e⟩
    dsimp only at l1 l2 l3 lq e⊢;rw[e]at hc;have h1:=Ia f cap cf hst hcf X V n d p1 p2 p3 q hn l1 l2 l3 (by omega);obtain⟨⟨r1,r2⟩,hr⟩:∃r,median (AB cf) d p1 p2 p3 q=r:=⟨_,rfl⟩;rw[hr]at hc h1;dsimp only at h1;(repeat first|(refine AOps.gN ?_;first|(refine AOps.g_callf ?_;first|refine H9 (h:=h1) (hT:=.fz) (k:=?_)))|refine WK ?_|refine Ai λX=>?_|refine Ay λY=>?_);refine jn (r1,r2) hc.symm
  ·have h8:¬l>=8:=by have:=of_decide_eq_false h8;omega
   rw[if_neg h8]at hc;(repeat first|refine WK ?_|refine Ai λX=>?_|refine Ay λY=>?_);refine jn (j,0) hc.symm
 ·rintro⟨p,s⟩ hc
  dsimp only at hc⊢;subst hc;(repeat first|refine WK ?_|refine Ai λX=>?_|refine Ay λY=>?_);refine AWP.cond rfl (λh0=>?_) (λh0=>?_)
  ·have h0:s=0:=by have:=of_decide_eq_true h0;omega
   rw[if_pos h0];(repeat first|refine WK ?_|refine Ai λX=>?_|refine Ay λY=>?_);refine RT ?_;exact AQ [iA p,iA 1] [(X,_)] ⟨rfl,rfl⟩
  ·have h0:¬s=0:=by have:=of_decide_eq_false h0;omega
   rw[if_neg h0];(repeat first|refine WK ?_|refine Ai λX=>?_|refine Ay λY=>?_);refine AWP.cond rfl (λh1=>?_) (λh1=>?_)
   ·have h1:s=12:=by have:=of_decide_eq_true h1;omega
    rw[if_pos h1];(repeat first|refine WK ?_|refine Ai λX=>?_|refine Ay λY=>?_);refine RT ?_;exact AQ [iA p,iA 2] [(X,_)] ⟨rfl,rfl⟩
   ·have h1:¬s=12:=by have:=of_decide_eq_false h1;omega
    rw[if_neg h1];(repeat first|refine WK ?_|refine Ai λX=>?_|refine Ay λY=>?_);refine RT ?_;exact AQ [iA p,iA 0] [(X,_)] ⟨rfl,rfl⟩
end
section
open Go.Sort
set_option maxHeartbeats 1000000 in
theorem RI(f:FuncId)(cap:List AV)(cf:Item->Item->Int)(hst:Bd cap=true)(hcf:∀x y,PS Tryz.prog f ((AD false) x::(AD false) y::cap) (iA (cf x y)))(hS:SWO (AB cf)):∀(m X n:Nat) (d:Array Item) (a b limit:Nat),b-a<=m->n=d.size->a<=b->b<=d.size->d.size<65536->limit<=1000->Below (AB cf) a b d->Spec Tryz.prog 157 [.sl X 0 n,iA a,iA b,iA limit,.fn f cap] [(X,.row 71 3 (d.toList.map (AD false)))] λr S'=>∃u:Array Item,(PermIn a b d u/\SortedIn (AB cf) a b u)/\r= .tup []/\S'=[(X,.row 71 3 (u.toList.map (AD false)))]:=by
 intro m
 induction m using Nat.strongRecOn with
 |_ m ih=>
 intro X n d a b limit hm hn hab hb hz hlim hB;refine Spec.of (nt:=148) (res:=[]) Tryz.func157 rfl (by kernel_rfl) rfl rfl rfl λSf=>?_
 (repeat first|refine WK ?_|refine Ai λX=>?_|refine Ay λY=>?_);refine N9 (λ(a b limit:Nat) (wb wp:Bool) (u:Array Item)=>⟨[(0,.sl X 0 n),(1,iA a),(2,iA b),(3,iA limit),(4,.fn f cap),(10,bA wb),(11,bA wp)],(X,.row 71 3 (u.toList.map (AD false)))::Sf⟩) (λa' b' limit wb wp u=>a' <=b' /\b' <=d.size/\b'-a' <=b-a/\limit<=1000/\u.size=d.size/\Below (AB cf) a' b' u/\∀R,PermIn a' b' u R->SortedIn (AB cf) a' b' R->PermIn a b d R/\SortedIn (AB cf) a b R) (λa b _ _ _ _=>b-a) a b limit true true d ⟨hab,hb,Nat.le_refl _,hlim,rfl,hB,λR h1 h2=>⟨h1,h2⟩⟩ ?_;rintro a' b' limit wb wp u ⟨hab',hb',hmm,hlim,hu,hB',hG⟩;obtain⟨l,hl⟩:∃l,b'-a'=l:=⟨_,rfl⟩;refine AWP.block ?_;(repeat first|(refine AOps.gN ?_;first|refine AOps.p (AK ((l:Int)) (by omega) (by omega) rfl rfl) rfl ?_)|refine WK ?_|refine Ai λX=>?_|refine Ay λY=>?_);refine AWP.cond rfl (λhc=>?_) (λhc=>?_)
 ·have hs:=RZ f cap cf hst hcf X n u a' b' (by omega) hab' (by omega) (by omega)
  obtain⟨p1,p2⟩:=insertionSort_holds (lt:=(AB cf)) hS u a' b' hab' (by omega);(repeat first|(refine AOps.gN ?_;first|(refine AOps.g_callf ?_;first|refine DL (h:=(hs ..)) (k:=?_)))|refine WK ?_|refine Ai λX=>?_|refine Ay λY=>?_);refine RT ?_;exact Au [(X,_)] ⟨_,hG _ p1 p2,rfl,rfl⟩
 have hl12:12<l:=by have:=of_decide_eq_false hc;omega
 (repeat first|refine WK ?_|refine Ai λX=>?_|refine Ay λY=>?_);refine AWP.cond rfl (λhc=>?_) (λhc=>?_)
 ·have hs:=QA f cap cf hst hcf X n u a' b' (by omega) (by omega) (by omega) (by omega)
  obtain⟨p1,p2⟩:=heapSort_holds (lt:=(AB cf)) hS u a' b' hab' (by omega);(repeat first|(refine AOps.gN ?_;first|(refine AOps.g_callf ?_;first|refine DL (h:=(hs ..)) (k:=?_)))|refine WK ?_|refine Ai λX=>?_|refine Ay λY=>?_);refine RT ?_;exact Au [(X,_)] ⟨_,hG _ p1 p2,rfl,rfl⟩
 have hl0:0<limit:=by have:=of_decide_eq_false hc;omega
 (repeat first|refine WK ?_|refine Ai λX=>?_|refine Ay λY=>?_);refine Ag (λb:Nat×Array Item=>b.1<=1000/\PermIn a' b' u b.2) (λb=>⟨[(0,.sl X 0 n),(1,iA a'),(2,iA b'),(3,iA b.1),(4,.fn f cap),(10,bA wb),(11,bA wp),(12,iA l)],(X,.row 71 3 (b.2.toList.map (AD false)))::Sf⟩) ?_ ?_
 ·refine AWP.cond rfl (λhd=>?_) (λhd=>?_)
  ·have hs:=Rt (f:=f) (cap:=cap) X n u a' b' (by omega) hab' (by omega) (by omega)
   (repeat first|(refine AOps.gN ?_;first|(refine AOps.g_callf ?_;first|refine Mb (h:=hs) (k:=λv hv=>?_))|refine AOps.p (AK (((limit-1:Nat):Int)) (by omega) (by omega) rfl rfl) rfl ?_)|refine WK ?_|refine Ai λX=>?_|refine Ay λY=>?_);exact jn (limit-1,v) ⟨by dsimp only;omega,hv⟩
  ·(repeat first|refine WK ?_|refine Ai λX=>?_|refine Ay λY=>?_)
   exact jn (limit,u) ⟨hlim,permIn_refl _ _ _⟩
 rintro⟨lim1,u1⟩ ⟨hlim1,hP1⟩;dsimp only at hlim1 hP1⊢;have hu1:u1.size=d.size:=hP1.1.trans hu;have hpv:=Hx f cap cf hst hcf X n u1 a' b' (by omega) (by omega) (by omega) (by omega);obtain⟨c1,c2⟩:=choosePivot_holds (AB cf) u1 a' b' (by omega);obtain⟨⟨p,h⟩,hp⟩:∃c,choosePivot (AB cf) u1 a' b'=c:=⟨_,rfl⟩;rw[hp]at hpv c1 c2;dsimp only at hpv c1 c2;obtain⟨hnum,hhn⟩:∃hnum,Nx h=hnum:=⟨_,rfl⟩;rw[hhn]at hpv;(repeat first|(refine AOps.gN ?_;first|(refine AOps.g_callf ?_;first|refine DL (h:=(hpv ..)) (k:=?_)))|refine WK ?_|refine Ai λX=>?_|refine Ay λY=>?_);refine Ag (λb:Nat×Int×Array Item=>a' <=b.1/\b.1<b' /\PermIn a' b' u b.2.2) (λb=>⟨[(0,.sl X 0 n),(1,iA a'),(2,iA b'),(3,iA lim1),(4,.fn f cap),(10,bA wb),(11,bA wp),(12,iA l),(13,iA b.1),(14,iA b.2.1)],(X,.row 71 3 (b.2.2.toList.map (AD false)))::Sf⟩) ?_ ?_
 ·refine AWP.cond rfl (λhd=>?_) (λhd=>?_)
  ·have hs:=Q6 (f:=f) (cap:=cap) X n u1 a' b' (by omega) (by omega) (by omega) (by omega)
   have hrp:=reverseRange_holds u1 a' b' hab' (by omega);(repeat first|(refine AOps.gN ?_;first|(refine AOps.g_callf ?_;first|refine DL (h:=(hs ..)) (k:=?_))|refine AOps.p (AK (((b'-1:Nat):Int)) (by omega) (by omega) rfl rfl) rfl ?_|refine AOps.p (AK (((p-a':Nat):Int)) (by omega) (by omega) rfl rfl) rfl ?_|refine AOps.p (AK (((b'-1-(p-a'):Nat):Int)) (by omega) (by omega) rfl rfl) rfl ?_)|refine WK ?_|refine Ai λX=>?_|refine Ay λY=>?_);exact jn (b'-1-(p-a'),1,_) ⟨by dsimp only;omega,by dsimp only;omega,permIn_trans _ _ _ _ _ hP1 hrp⟩
  ·(repeat first|refine WK ?_|refine Ai λX=>?_|refine Ay λY=>?_)
   exact jn (p,hnum,u1) ⟨c1,c2,hP1⟩
 rintro⟨pv,hn2,u2⟩ ⟨c3,c4,hP2⟩;dsimp only at c3 c4 hP2⊢;have hu2:u2.size=d.size:=hP2.1.trans hu;have hB2:=hB'.perm (by omega) hP2;clear hpv hp hhn c1 c2 p h hnum;refine AWP.seq ?_;refine Ek (λv:Array Item=>PermIn a' b' u v) (λv=>⟨[(0,.sl X 0 n),(1,iA a'),(2,iA b'),(3,iA lim1),(4,.fn f cap),(10,bA wb),(11,bA wp),(12,iA l),(13,iA pv)],(X,.row 71 3 (v.toList.map (AD false)))::Sf⟩) ?_ ?_
 ·(repeat first|refine WK ?_|refine Ai λX=>?_|refine Ay λY=>?_)
  refine AWP.cond rfl (λ_=>?_) (λ_=>?_)
  ·have hs:=Pb f cap cf hst hcf X n u2 a' b' (by omega) (by omega) (by omega) (by omega)
   have hpi:=partialInsertionSort_holds (lt:=(AB cf)) hS u2 a' b' (by omega) (by omega) hB2;obtain⟨⟨v,fl⟩,hv⟩:∃v,partialInsertionSort (AB cf) u2 a' b'=v:=⟨_,rfl⟩;rw[hv]at hs hpi;dsimp only at hs hpi;(repeat first|(refine AOps.gN ?_;first|(refine AOps.g_callf ?_;first|refine DL (h:=(hs ..)) (k:=?_)))|refine WK ?_|refine Ai λX=>?_|refine Ay λY=>?_);refine AWP.cond rfl (λhe=>?_) (λhe=>?_)
   ·refine RT ?_
    exact Au [(X,_)] ⟨v,hG v (permIn_trans _ _ _ _ _ hP2 hpi.1) (hpi.2 he),rfl,rfl⟩
   ·(repeat first|refine WK ?_|refine Ai λX=>?_|refine Ay λY=>?_)
    exact jnR v (permIn_trans _ _ _ _ _ hP2 hpi.1)
  ·(repeat first|refine WK ?_|refine Ai λX=>?_|refine Ay λY=>?_)
   exact jnR u2 hP2
 rintro u3 hP3;have hu3:u3.size=d.size:=hP3.1.trans hu;have hB3:=hB'.perm (by omega) hP3;have hg3:∀R,PermIn a' b' u3 R->SortedIn (AB cf) a' b' R->PermIn a b d R/\SortedIn (AB cf) a b R:=λR h1 h2=>hG R (permIn_trans _ _ _ _ _ hP3 h1) h2
 clear hB2 hP2 hu2 u2 hP1 hu1 u1 hG hB' hn2;refine AWP.seq ?_;refine Ek (λ_:Unit=>True) (λ_=>⟨[(0,.sl X 0 n),(1,iA a'),(2,iA b'),(3,iA lim1),(4,.fn f cap),(10,bA wb),(11,bA wp),(12,iA l),(13,iA pv)],(X,.row 71 3 (u3.toList.map (AD false)))::Sf⟩) ?_ ?_
 ·rcases Bool.eq_false_or_eq_true (decide ((0:Int)<(a':Int)))with g|g
  ·have hg:0<a':=by have:=of_decide_eq_true g;omega
   have h1:=AM (AD false) (d:=u3) (i:=a'-1) (by omega);have h2:=AM (AD false) (d:=u3) (i:=pv) (by omega);have hl2:=hcf (u3[a'-1]!) (u3[pv]!);(repeat refine WF ?_);refine RU ?_;(repeat first|(refine RGo.gN ?_;first|(refine RGo.g_callv ?_;first|refine RGo.k2 (h:=(hl2 ..)) (k:=?_))|refine RGo.go (h:=AK (((a'-1:Nat):Int)) (by omega) (by omega) rfl rfl) (k:=?_))|(refine RGo.gQ ?_;first|(refine RGo.g_callv ?_;first|refine RGo.k2 (h:=(hl2 ..)) (k:=?_))|refine RGo.go (h:=AK (((a'-1:Nat):Int)) (by omega) (by omega) rfl rfl) (k:=?_))|refine RK ?_|refine RGo.nil (by kernel_rfl) ?_);(repeat refine WF ?_);refine AWP.cond rfl (λhd=>?_) (λhd=>?_)
   ·have hd:(!(AB cf) u3[a'-1]! u3[pv]!)=true:=by simpa[g,AB]using hd
    have hd:(AB cf) u3[a'-1]! u3[pv]! =false:=by simpa[AB]using hd
    have hs:=RF f cap cf hst hcf X n u3 a' b' pv (by omega) c3 c4 (by omega) (by omega);obtain⟨⟨mid,d4⟩,hx⟩:∃x,partitionEqual (AB cf) u3 a' b' pv=x:=⟨_,rfl⟩;rw[hx]at hs;dsimp only at hs;obtain⟨q1,q2,q3,q4,q5⟩:=round_eq (lt:=(AB cf)) hS (partitionEqual_holds (AB cf)) hg c3 c4 (by omega) hB3 hd hx;(repeat first|(refine AOps.gN ?_;first|(refine AOps.g_callf ?_;first|refine Do (h:=(hs ..)) (k:=?_)))|refine WK ?_|refine Ai λX=>?_|refine Ay λY=>?_);refine Ec mid b' lim1 wb wp d4 ⟨q2,hb',by omega,hlim1,q3.trans hu3,q4,λR k1 k2=>?_⟩;obtain⟨k3,k4⟩:=q5 R k1 k2;exact hg3 R k3 k4
   ·(repeat first|refine WK ?_|refine Ai λX=>?_|refine Ay λY=>?_)
    exact jnR () trivial
  ·(repeat refine WF ?_)
   refine RU ?_;(repeat first|refine RK ?_|refine RGo.nil (by kernel_rfl) ?_);(repeat refine WF ?_);refine AE rfl (by simp[g]) ?_;(repeat first|refine WK ?_|refine Ai λX=>?_|refine Ay λY=>?_);exact jnR () trivial
 rintro _ _;have hs:=Ph f cap cf hst hcf X n u3 a' b' pv (by omega) c3 c4 (by omega) (by omega);obtain⟨⟨mid,ap,d4⟩,hx⟩:∃x,partition (AB cf) u3 a' b' pv=x:=⟨_,rfl⟩;rw[hx]at hs;dsimp only at hs;obtain⟨r1,r2,r3,r4,r5,r6,r7⟩:=round_part (lt:=(AB cf)) hS (partition_holds (AB cf)) c3 c4 (by omega) hB3 hx;(repeat first|(refine AOps.gN ?_;first|(refine AOps.g_callf ?_;first|refine Do (h:=(hs ..)) (k:=?_))|refine AOps.p (AK (((mid-a':Nat):Int)) (by omega) (by omega) rfl rfl) rfl ?_|refine AOps.p (AK (((b'-mid:Nat):Int)) (by omega) (by omega) rfl rfl) rfl ?_|refine AOps.p (EW l 8 (l/8) rfl rfl (by omega) rfl (by omega) rfl rfl) rfl ?_)|refine WK ?_|refine Ai λX=>?_|refine Ay λY=>?_);refine AWP.cond rfl (λhd=>?_) (λhd=>?_)
 ·have hrec:=ih (mid-a') (by omega) X n d4 a' mid lim1 (Nat.le_refl _) (by omega) r1 (by omega) (by omega) hlim1 r4
  (repeat first|(refine AOps.gN ?_;first|(refine AOps.g_callf ?_;first|refine Gw (h:=hrec) (k:=λv hv=>?_))|refine AOps.p (AT (((mid+1:Nat):Int)) (by omega) (by omega) rfl rfl) rfl ?_)|refine WK ?_|refine Ai λX=>?_|refine Ay λY=>?_);obtain⟨v1,v2⟩:=hv;obtain⟨s1,s2⟩:=r6 v v1 v2;refine Ec (mid+1) b' lim1 _ ap v ⟨by omega,hb',by omega,hlim1,v1.1.trans (r3.trans hu3),s1,λR k1 k2=>?_⟩;obtain⟨k3,k4⟩:=s2 R k1 k2;exact hg3 R k3 k4
 ·have hrec:=ih (b'-(mid+1)) (by omega) X n d4 (mid+1) b' lim1 (Nat.le_refl _) (by omega) (by omega) (by omega) (by omega) hlim1 r5
  (repeat first|(refine AOps.gN ?_;first|(refine AOps.g_callf ?_;first|refine Gw (h:=hrec) (k:=λv hv=>?_))|refine AOps.p (AT (((mid+1:Nat):Int)) (by omega) (by omega) rfl rfl) rfl ?_)|refine WK ?_|refine Ai λX=>?_|refine Ay λY=>?_);obtain⟨v1,v2⟩:=hv;obtain⟨s1,s2⟩:=r7 v v1 v2;refine Ec a' mid lim1 _ ap v ⟨by omega,by omega,by omega,hlim1,v1.1.trans (r3.trans hu3),s1,λR k1 k2=>?_⟩;obtain⟨k3,k4⟩:=s2 R k1 k2;exact hg3 R k3 k4
end
section
open Go.Sort
set_option maxRecDepth 8000 in
theorem Kc(f:FuncId)(cap:List AV)(cf:Item->Item->Int)(hst:Bd cap=true)(hS:SWO (AB cf))(hf:∀x y,PS Tryz.prog f (AD false x::AD false y::cap) (iA (cf x y)))(X n:Nat)(l:List Item)(hn:n=l.length)(hlt:l.length<65536):
  Spec Tryz.prog 76 [.sl X 0 n,.fn f cap] [(X,.row 71 3 (l.map (AD false)))] λr S'=>∃u:List Item,(u.Perm l/\u.Pairwise λa b=>AB cf b a=false)/\r= .tup []/\S'=[(X,.row 71 3 (u.map (AD false)))]:=by
 have e1:(UInt64.ofNat n).toNat=n:=by rw[UInt64.toNat_ofNat'];omega
 have hlen:=Kl (UInt64.ofNat n) (by rw[e1];omega);rw[e1]at hlen;have hsz:l.toArray.size=l.length:=by simp
 have hb:bitsLen n<=1000:=Nat.le_trans ((bitsLen_le_iff n 16).2 (by show n<65536;omega)) (by decide);have hs:=RI f cap cf hst hf hS n X n l.toArray 0 n (bitsLen n) (by omega) (by omega) (Nat.zero_le _) (by omega) (by omega) hb (.inl rfl);simp only[List.toList_toArray]at hs;refine Spec.of (nt:=14) (res:=[]) Tryz.func76 rfl (by kernel_rfl) rfl rfl rfl λSf=>?_
 (repeat first|(refine AOps.gN ?_;first|(refine AOps.g_callf ?_;first|refine AOps.c1 (h:=(hlen ..)) (k:=?_))|refine OC [] (h:=hs) (λu hu=>?_)|refine AOps.p (HN .i64 n rfl (by omega) (by kernel_rfl) (by kernel_rfl) rfl) rfl ?_)|refine WK ?_|refine Ai λX=>?_|refine Ay λY=>?_);refine CT ?_;obtain⟨h1,h2⟩:=hu;have h1':PermIn 0 l.toArray.size l.toArray u:=by rw[hsz,<-hn];exact h1
 have hus:n=u.size:=by rw[h1'.1,hsz];exact hn
 exact Au [(X,_)] ⟨u.toList,⟨by simpa using FC h1',ES hus h2⟩,rfl,rfl⟩
end
theorem OF(x y:Item):PS Tryz.prog 77 [AD false x,AD false y] (iA (B6 x.ent.n y.ent.n)):=by
 have h:=C1 x.ent.n y.ent.n;obtain⟨⟨xn,xg⟩,xc⟩:=x;obtain⟨⟨yn,yg⟩,yc⟩:=y;refine Spec.of (nt:=12) (res:=[.tmp 4]) Tryz.func77 rfl (by kernel_rfl) rfl rfl rfl λSf=>?_
 refine RG ?_;(repeat first|(refine AOps.gN ?_;first|(refine AOps.g_box ?_;refine BT ?_))|refine WO ?_|refine Ai λX=>?_|refine Ay λY=>?_);refine NL ?_;refine FL ?_;refine RG ?_;(repeat first|(refine AOps.gN ?_;first|(refine AOps.g_callf ?_;first|refine AOps.c2 (h:=(h ..)) (k:=?_)))|refine WO ?_|refine Ai λX=>?_|refine Ay λY=>?_);refine NL ?_;refine RT ?_;refine AX ?_;rfl
theorem Qs{P:Program}{ty:TypeId}{pos:String}{after:Array Edge}{dst:Option Tmp}{c:Option (List Bool)}{g:Option (Nat×Bool)}{T:List (Nat×AV)}{S:List AA}{x0:Operand}{v0:AV}{f:FuncId}{ats:Array TypeId}{r v:AV}[hf:Frz r v](h0:Rd c T x0 v0)(h:PS P f [v0] r)(ht:Af [(x0,v0)]=true):Stp c P ⟨dst,.call ⟨.value (.func f),#[x0],ats⟩,ty,pos,after,g⟩ T S [(x0,v0)] [] v []:=hf.h▸W.call1 h0 h ht
theorem IG(t:Tab):(Bc t).length=t.es.length:=List.length_map _
theorem OT{t:Tab}{i:Nat}(h:i<t.es.length):(Bc t)[i]?=some ⟨t.es[i].2,AL t t.es[i].1⟩:=by
 rw[Bc,List.getElem?_map,List.getElem?_eq_getElem h];rfl
set_option maxRecDepth 8000 in
set_option maxHeartbeats 4000000 in
theorem NO(a:Ar)(ha:ArOK a)(hne:Dn a.ts)(hk16:a.kinds.length<=16)(hkf:∀k∈a.kinds,k.fields.length<=8)(hgl:a.gens.length<=256)(hcv:∀it∈AZ a.ts,CsL it.comps):
  Spec Tryz.prog 22 [.ptr a.A 0 0] (arS a) λr S'=>∃L:List Item,(L.Perm (AZ a.ts)/\L.Pairwise λx y=>x.ent.n<=y.ent.n)/\r=wdA false ⟨a.kinds,a.gens,L⟩/\S'=arS a:=by
 have hkp:=HZ a.kinds (by omega) (λk hk=>by have:=hkf k hk;omega);have hcl:=JD a.G a.gens a.gens.length rfl (by omega);have htl:=ha.ts_le hne;have hpt:(ptrs Tab.X a.ts).length=a.ts.length:=List.length_map _;refine Spec.of (nt:=51) (res:=[.cell 2 26]) Tryz.func22 rfl (by kernel_rfl) rfl rfl rfl λSf=>?_
 refine RG ?_;(repeat first|refine WO ?_|refine Ai λZ=>?_|refine Ay λY=>?_);refine NL ?_;refine FL ?_;refine AWP.rs λV=>?_
 refine RU ?_;(repeat first|(refine RGo.gN ?_;first|(refine RGo.g_callf ?_;first|refine RGo.c1 (h:=(hkp ..)) (k:=?_)|refine FM (h:=hcl) (hT:=.fz) (k:=?_)))|(refine RGo.gQ ?_;first|(refine RGo.g_callf ?_;first|refine RGo.c1 (h:=(hkp ..)) (k:=?_)|refine FM (h:=hcl) (hT:=.fz) (k:=?_)))|refine RK ?_|refine RGo.nil (by kernel_rfl) ?_);refine FL ?_;refine AWP.adoptIn (Y:=V) 71 3 (by exact At.f) (λI=>.cons (.agg (.cons .same (.cons .same (.cons (.base .nil) .nil)))) .nil) λI=>?_
 refine RG ?_;(repeat first|refine WO ?_|refine Ai λX=>?_|refine Ay λY=>?_);refine NL ?_;refine FL ?_;refine CB (λ(j I:Nat) (its:List Item)=>⟨[(2,.ptr Z 0 0),(3,.ptr V 0 0),(22,.sl a.Tb 0 a.ts.length),(23,iA (a.ts.length:Nat)),(24,iA j)],(I,.row 71 3 (its.map (AD false)))::(V,.row 26 3 [.agg [A3 false false a.kinds,AW false a.gens,.sl I 0 its.length]])::(Z,.row 26 3 [.agg [.prim (.slice none 0 0),.prim (.slice none 0 0),.prim (.slice none 0 0)]])::(arS a++Sf)⟩) (λj _ its=>j<=a.ts.length/\its=AZ (a.ts.take j)) (λj _ _=>a.ts.length-j) 0 I [] ⟨by omega,rfl⟩ ?_;rintro j I its ⟨hj,hits⟩;refine RG ?_;(repeat first|refine WO ?_|refine Ai λX=>?_|refine Ay λY=>?_);refine NL ?_;refine FL ?_;refine AWP.cond rfl (λh=>?_) (λh=>?_)
 ·have h:j<a.ts.length:=by rw[decide_eq_true_eq]at h;omega
  obtain⟨l1,l2,hsp,hl1⟩:=EY h;have htm:=List.getElem_mem h;have hto:=ha.tab _ htm;have hten:=ha.ent _ htm;have hat:(ptrs Tab.X a.ts)[j]?=some (.ptr a.ts[j].X 0 0):=Am _ h
  have hnext:AZ (a.ts.take (j+1))=its++Bc a.ts[j]:=by
   rw[List.take_succ_eq_append_getElem h,Bb,<-hits,Bi];simp[AZ]
  have hcvt:∀it∈Bc a.ts[j],CsL it.comps:=λit hi=>hcv it (List.mem_flatMap.2 ⟨_,htm,hi⟩)
  have hbnd:its.length+(Bc a.ts[j]).length<=256:=by
   have h1:=ha.c_le;rw[ha.cnt,ha.keys_items,List.length_map]at h1
   have h2:AZ a.ts=its++Bc a.ts[j]++AZ l2:=by
    conv=>lhs;rw[hsp]
    rw[Bb,Bi,hits,<-List.append_assoc]
    have:l1=a.ts.take j:=by
     have:=congrArg (List.take j) hsp;rw[List.take_left' hl1]at this;exact this.symm
    rw[this]
   rw[h2,List.length_append,List.length_append]at h1;omega
  obtain⟨t,ht⟩:∃t,a.ts[j]=t:=⟨_,rfl⟩;rw[ht]at hsp hto hten hat hnext hcvt hbnd;obtain⟨Z2,hZ2⟩:∃Z2,Aw l1++(Aw l2++Sf)=Z2:=⟨_,rfl⟩;have hop:=Cl (l1:=l1) (l2:=l2) (t:=t) Sf;rw[<-hsp,hZ2]at hop;refine FL ?_;refine RG ?_;(repeat first|(refine AOps.gN ?_;first|refine AOps.go (h:=W.idx rfl rfl (by exact At.f) rfl (by omega) (Nat.zero_add _)) (k:=?_))|refine WO ?_|refine Ai λP5=>?_|refine Ay λY=>?_);refine NL ?_;refine FL ?_;refine AWP.perm (S':=(I,.row 71 3 (its.map (AD false)))::(P5,.row 145 1 [.ptr t.X 0 0])::(V,.row 26 3 [.agg [A3 false false a.kinds,AW false a.gens,.sl I 0 its.length]])::(Di t++((Z,.row 26 3 [.agg [.prim (.slice none 0 0),.prim (.slice none 0 0),.prim (.slice none 0 0)]])::(arH a++Z2)))) ?_ ?_
  ·refine(List.Perm.swap _ _ _).trans (List.Perm.cons _ (List.Perm.cons _ (List.Perm.cons _ ?_)))
   have h1:=hop.append_left ((Z,AO.row 26 3 [.agg [.prim (.slice none 0 0),.prim (.slice none 0 0),.prim (.slice none 0 0)]])::arH a);refine(List.Perm.of_eq ?_).trans (h1.trans (Bf ((Z,AO.row 26 3 [.agg [.prim (.slice none 0 0),.prim (.slice none 0 0),.prim (.slice none 0 0)]])::arH a) (Di t) Z2));rw[arS];simp only[List.cons_append,List.nil_append]
  have hal:=Rx t.ek t.es hto.es;have hI:=Qf (AF t.es) (t.es.map (·.2)) (by simp) (by have:=hto.es.len;rw[List.length_map];omega);refine RG ?_;(repeat first|(refine AOps.gN ?_;first|refine OB [_,_,_,_] (h:=hal) (k:=?_))|refine WO ?_|refine Ai λX=>?_|refine Ay λY=>?_);refine NL ?_;refine FL ?_;refine NX (Sf:=(Z,.row 26 3 [.agg [.prim (.slice none 0 0),.prim (.slice none 0 0),.prim (.slice none 0 0)]])::(arH a++Z2)) hI (λb:Nat×List Item=>(b.1,AO.row 71 3 (b.2.map (AD false)))::(P5,.row 145 1 [.ptr t.X 0 0])::(V,.row 26 3 [.agg [A3 false false a.kinds,AW false a.gens,.sl b.1 0 b.2.length]])::Di t) (λi b=>b.2=its++(Bc t).take i) (I,its) (by simp) ?_ ?_ rfl rfl rfl ?_ ?_
  ·rintro i vs ⟨I,is⟩ l F1 F2 hi hb
   dsimp only at hb
   have hn:i<t.es.length:=by
    have:=(List.getElem?_eq_some_iff.1 hi).1;simpa using this
   have hiv:[iA t.es[i].1,Ac t.es[i].2]=vs:=by
    rw[List.getElem?_map,List.getElem?_eq_getElem (by simpa using hn),List.getElem_zip]at hi;simpa using hi
   subst hiv;have hem:=List.getElem_mem hn;have hnk:t.es[i].1∈AF t.es:=List.mem_map.2 ⟨_,hem,rfl⟩;have hnl:=hto.es.lt _ hnk;have hcs:=MJ t t.es[i].1 hto (by constructor<;>omega) hnk;have hti:=OT hn;have hci:=hcvt _ (List.mem_of_getElem? hti);have hcc:=Gj (AL t t.es[i].1) hci.1 hci.2;have hil:i<(Bc t).length:=by rw[IG];exact hn
   have hnx:is++[⟨t.es[i].2,AL t t.es[i].1⟩]=its++(Bc t).take (i+1):=by
    rw[hb,List.take_add_one,hti,List.append_assoc];rfl
   have hisl:is.length<=256:=by rw[hb,List.length_append,List.length_take];omega
   obtain⟨⟨en,ee⟩,hee⟩:∃e,t.es[i]=e:=⟨_,rfl⟩;rw[hee]at hcs hcc hnx;rw[hee];dsimp only at hcs hcc hnx⊢;obtain⟨lc,hlc⟩:∃lc,AL t en=lc:=⟨_,rfl⟩;rw[hlc]at hcs hcc hnx;have hma:is.map (AD false)++[AD false ⟨ee,lc⟩]=(is++[(⟨ee,lc⟩:Item)]).map (AD false):=by rw[List.map_append];rfl
   have hml:is.length+[AD false ⟨ee,lc⟩].length=(is++[(⟨ee,lc⟩:Item)]).length:=by rw[List.length_append];rfl
   refine FL ?_;refine RG ?_;(repeat first|refine WO ?_|refine Ai λX=>?_|refine Ay λY=>?_);refine NL ?_;refine FL ?_;refine RG ?_;(repeat first|refine WO ?_|refine Ai λE7=>?_|refine Ay λY=>?_);refine NL ?_;refine⟨(E7,.row 32 2 [Ac ee])::(I,.row 71 3 (is.map (AD false)))::(P5,AO.row 145 1 [.ptr t.X 0 0])::(V,.row 26 3 [.agg [A3 false false a.kinds,AW false a.gens,.sl I 0 is.length]])::Di t,.refl _,?_⟩;refine FL ?_;refine AWP.rs λY=>?_
   (repeat refine WF ?_);refine E5 5 (by kernel_rfl) (by kernel_rfl) ?_;refine RGoT.go ?_;refine RGoT.go ?_;refine RGoT.go ?_;refine RGoT.go ?_;refine RGoT.go ?_;refine RGoT.callK (xs:=[(.tmp 38,.ptr t.X 0 0),(.tmp 39,iA en)]) (L:=[_,_,_,_,_]) (R:=F2) hcs (.fz (v:=As false false lc)) rfl (Nat.le_refl 5) (.cons rfl (.cons rfl .nil)) rfl rfl ?_;refine RGoT.go (h:=Qs (v:=As false false lc) rfl hcc rfl) ?_;refine RGoT.go ?_;refine RGoT.go (v:=.lst false 71 3 [AD false ⟨ee,lc⟩]) (h:=W.litF1 (v0:=AD false ⟨ee,lc⟩) rfl rfl (.inl rfl) (by decide) (by decide) rfl) ?_;refine RGoT.goS (h:=W.app (X:=I) (Y:=Y) rfl rfl (by exact At.f) (by exact At.f) (by rw[List.length_map]) (by rw[List.length_map];show(is.length+1)*40<=_;omega) (by rw[List.length_map];unfold maxLen;show is.length+1<=_;omega) (by decide)) ?_;refine RGoT.go ?_;refine RGoT.goS ?_;refine RGoT.nil (by kernel_rfl) ?_;rw[hma,hml];refine⟨(Y,.row 71 3 ((is++[(⟨ee,lc⟩:Item)]).map (AD false)))::(P5,AO.row 145 1 [.ptr t.X 0 0])::(V,.row 26 3 [.agg [A3 false false a.kinds,AW false a.gens,.sl Y 0 (is++[(⟨ee,lc⟩:Item)]).length]])::Di t,?_,(Y,is++[(⟨ee,lc⟩:Item)]),hnx,rfl⟩;exact .cons _ (.cons _ (.refl _))
  ·rintro⟨I,is⟩ hb
   dsimp only at hb;have hxl:((AF t.es).zip (t.es.map (·.2))).length=t.es.length:=by simp
   rw[List.length_map,hxl,<-IG,List.take_length]at hb;refine FL ?_;refine AWP.perm (S':=(P5,.row 145 1 [.ptr t.X 0 0])::(I,.row 71 3 (is.map (AD false)))::(V,.row 26 3 [.agg [A3 false false a.kinds,AW false a.gens,.sl I 0 is.length]])::(Z,.row 26 3 [.agg [.prim (.slice none 0 0),.prim (.slice none 0 0),.prim (.slice none 0 0)]])::(arS a++Sf)) ?_ ?_
   ·refine(List.Perm.swap _ _ _).trans (List.Perm.cons _ (List.Perm.cons _ (List.Perm.cons _ ?_)))
    have h1:=hop.append_left ((Z,AO.row 26 3 [.agg [.prim (.slice none 0 0),.prim (.slice none 0 0),.prim (.slice none 0 0)]])::arH a);refine List.Perm.trans (Bf (Di t) ((Z,AO.row 26 3 [.agg [.prim (.slice none 0 0),.prim (.slice none 0 0),.prim (.slice none 0 0)]])::arH a) Z2) (h1.symm.trans (List.Perm.of_eq ?_));rw[arS];simp only[List.cons_append,List.nil_append]
   ·refine RG ?_;(repeat first|refine WO ?_|refine Ai λX=>?_|refine Ay λY=>?_);refine NL ?_
    exact BR (j+1) I is ⟨by omega,by rw[hb,hnext]⟩ (by omega)
  ·intro vs hvs
   obtain⟨q,_,rfl⟩:=List.mem_map.1 hvs;rfl
  ·exact .refl _
 ·have h:j=a.ts.length:=by rw[decide_eq_false_iff_not]at h;omega
  subst h;rw[List.take_length]at hits
  have hilen:its.length<=256:=by
   have h1:=ha.c_le;rw[ha.cnt,ha.keys_items,List.length_map]at h1;rw[hits];omega
  have hso:=Kc 77 [] (λx y=>B6 x.ent.n y.ent.n) rfl (Kb λx:Item=>x.ent.n) OF I its.length its rfl (by omega);refine FL ?_;refine RG ?_;(repeat first|(refine AOps.gN ?_;first|refine Gv [] (h:=hso) (λu hu=>?_))|refine WO ?_|refine Ai λX=>?_|refine Ay λY=>?_);refine NL ?_;obtain⟨hu1,hu2⟩:=hu;have hul:=hu1.length_eq
  have hF:An (((u.map (AD false)).drop 0).take its.length)=u.map (AD false):=by
   rw[List.drop_zero,List.take_of_length_le (by rw[List.length_map];omega)];exact Frzs.h
  refine FL ?_;refine AWP.iceIn (X:=I) (Y:=V) .here (.next .here) rfl (.cons (.agg (.cons .same (.cons .same (.cons (.base (.sl (by rw[List.length_map];omega))) .nil)))) .nil) ?_;rw[hF];refine RG ?_;(repeat first|refine WO ?_|refine Ai λX=>?_|refine Ay λY=>?_);refine NL ?_;refine RT ?_
  exact AQ [wdA false ⟨a.kinds,a.gens,u⟩] (arS a) ⟨u,⟨by rw[<-hits];exact hu1,hu2.imp λ{x y} h=>by
   simp only[AB,decide_eq_false_iff_not,FH]at h;omega⟩,rfl,rfl⟩
abbrev QY(b:Bool)(l:List Bool):AV:=.lst b 4 1 (l.map bA)
theorem ArFor.sorted{a:Ar}{w:Wd}(h:ArFor a w){L:List Item}(hp:L.Perm (AZ a.ts))(hs:L.Pairwise λx y=>x.ent.n<=y.ent.n):L=w.items:=by
 refine List.Perm.eq_of_pairwise (le:=λx y=>x.ent.n<=y.ent.n) (λx y hx hy h1 h2=>?_) hs (h.wok.so.imp λh=>by omega) (hp.trans h.items);exact H5 (key:=λx:Item=>x.ent.n) h.wok.so ((hp.trans h.items).mem_iff.1 hx) hy (by omega)
theorem S5{d:List Bool}{i n:Nat}{b:Bool}(hd:d.length=i)(h:i<n):((d++List.replicate (n-i) false).map bA).set i (bA b)=((d++[b])++List.replicate (n-(i+1)) false).map bA:=by
 rw[<-List.map_set]
 congr 1
 rw[List.set_append_right _ _ (by omega),hd,Nat.sub_self,show n-i=(n-(i+1))+1 by omega,List.replicate_succ,List.set_cons_zero,List.append_assoc];rfl
structure CmdsL(ks:List Kind)(l:List Cmd):Prop where
 ok:∀c∈l,(CY ks c).2=0
 n:∀c∈l,I64 c.ent.n
 l:∀c∈l,c.comps.length<=1099511627776
theorem PG{w v:Wd}{l:List Cmd}{i:Nat}{c:Cmd}{es:List Ent}{ds:List Bool}(h:i<l.length)(hc:l[i]=c)(he:C8 w l=((C8 v (l.drop i)).1,es++(C8 v (l.drop i)).2.1,ds++(C8 v (l.drop i)).2.2)):
  C8 w l=((C8 (ED v c).1 (l.drop (i+1))).1,(if(ED v c).2.2=true/\c.act=3 then es++[(ED v c).2.1]else es)++(C8 (ED v c).1 (l.drop (i+1))).2.1,(ds++[(ED v c).2.2])++(C8 (ED v c).1 (l.drop (i+1))).2.2):=by
 rw[he,List.drop_eq_getElem_cons h,hc,C8];dsimp only;split
 ·simp
 ·simp
set_option maxRecDepth 8000 in
theorem O9(w:Wd)(l:List Cmd)(hw:WdOK w)(h12:w.kinds.length<=12)(hl:l.length<=131072)(hc:CmdsL w.kinds l):PS Tryz.prog 163 [wdA false w,KK false l] (.tup [wdA false (C8 w l).1,.lst true 32 2 ((C8 w l).2.1.map Ac),QY true (C8 w l).2.2]):=by
 have hof:=Sk w hw;have hlm:(l.map Cc).length=l.length:=List.length_map _;refine Spec.of (nt:=58) (res:=[.cell 4 26,.tmp 5,.tmp 6]) Tryz.func163 rfl (by kernel_rfl) rfl rfl rfl λSf=>?_
 refine RG ?_;(repeat first|(refine AOps.gN ?_;first|(refine AOps.g_box ?_;refine BT ?_))|refine WO ?_|refine Ai λP=>?_|refine Ay λY=>?_);refine NL ?_;refine FL ?_;refine RG ?_;(repeat first|(refine AOps.gN ?_;first|refine OD [_] (h:=hof) (k:=λa ha=>?_))|refine WO ?_|refine Ai λX=>?_|refine Ay λY=>?_);refine NL ?_;obtain⟨a1,a2,a3,a4,a5⟩:=ha;have hf:ArFor a w:=⟨a1,a2,a3,a4,a5,hw⟩;refine FL ?_;refine RG ?_;(repeat first|refine WO ?_|refine Ai λX=>?_|refine Ay λY=>?_);refine NL ?_;refine AE rfl rfl ?_;refine FL ?_;refine RG ?_;(repeat first|refine WO ?_|refine Ai λX=>?_|refine Ay λY=>?_);refine NL ?_;refine FL ?_;refine RG ?_;(repeat first|(refine AOps.gN ?_;first|(refine Dd ?_;refine FO (bA false) λK=>?_))|refine WO ?_|refine Ai λD=>?_|refine Ay λY=>?_);refine NL ?_;refine FL ?_;refine RG ?_;(repeat first|refine WO ?_|refine Ai λX=>?_|refine Ay λY=>?_);refine NL ?_;refine FL ?_;refine AWP.adopt (d:=9) 32 2 rfl λO=>?_
 refine CB (λ(i Y:Nat) (z:Ar×Wd×List Ent×List Bool)=>⟨[(2,.fp (wdA false w).cells),(4,.ptr P 0 0),(7,.ptr a.A 0 0),(9,.sl Y 0 z.2.2.1.length),(10,.sl K 0 (l.map Cc).length),(26,KK false l),(27,iA (l.map Cc).length),(28,iA i)],(Y,.row 32 2 (z.2.2.1.map Ac))::(K,.row 4 1 ((z.2.2.2++List.replicate (l.length-i) false).map bA))::(P,.row 26 3 [.agg [.prim (.slice none 0 0),.prim (.slice none 0 0),.prim (.slice none 0 0)]])::(arS z.1++Sf)⟩) (λi Y z=>i<=l.length/\ArFor z.1 z.2.1/\z.1.A=a.A/\z.2.1.kinds=w.kinds/\z.2.2.1.length<=i/\z.2.2.2.length=i/\C8 w l=((C8 z.2.1 (l.drop i)).1,z.2.2.1++(C8 z.2.1 (l.drop i)).2.1,z.2.2.2++(C8 z.2.1 (l.drop i)).2.2)) (λi _ _=>l.length-i) 0 O (a,w,[],[]) ⟨Nat.zero_le _,hf,rfl,rfl,Nat.le_refl _,rfl,rfl⟩ ?_ (h0:=⟨by exact Lk.f,by rw[hlm,Nat.sub_zero,List.nil_append,List.map_replicate];exact Sub.f⟩);rintro i Y ⟨z,v,es,ds⟩ ⟨hi,hz,hzA,hvk,hes,hds,hrun⟩;dsimp only at hz hzA hvk hes hds hrun⊢;refine RG ?_;(repeat first|refine WO ?_|refine Ai λX=>?_|refine Ay λY=>?_);refine NL ?_;refine FL ?_;refine AWP.cond rfl (λhb=>?_) (λhb=>?_)
 ·have h:i<l.length:=by rw[decide_eq_true_eq,hlm]at hb;omega
  obtain⟨c,hcc⟩:∃c,l[i]=c:=⟨_,rfl⟩;have hcm:c∈l:=by rw[<-hcc];exact List.getElem_mem h
  have hat:(l.map Cc)[i]?=some (Cc c):=by rw[List.getElem?_map,List.getElem?_eq_getElem h,hcc];rfl
  have hact:=SX hz (by rw[hvk];exact h12) c (by rw[hvk];exact hc.ok c hcm) (hc.n c hcm) (hc.l c hcm);have hnx:=PG h hcc hrun;obtain⟨⟨v2,x,ok⟩,hv2⟩:∃q,ED v c=q:=⟨_,rfl⟩;rw[hv2]at hact hnx;dsimp only at hact hnx;have hnl:i<((ds++List.replicate (l.length-i) false).map bA).length:=by rw[List.length_map,List.length_append,List.length_replicate];omega
  have hset:=S5 (b:=ok) hds h
  have hvk2:v2.kinds=w.kinds:=by
   have:=(N6 hz.wok (c:=c) (by rw[hvk];exact hc.ok c hcm)).2;rw[hv2]at this;exact this.trans hvk
  rw[<-hzA];refine FL ?_;refine RG ?_;(repeat first|refine WO ?_|refine Ai λC=>?_|refine Ay λY=>?_);refine NL ?_;refine FL ?_;refine RG ?_;(repeat first|(refine AOps.gN ?_;first|refine Gv [_,_,_,_] (h:=hact) (k:=λb hb2=>?_))|refine WO ?_|refine Ai λV=>?_|refine Ay λY=>?_);refine NL ?_;obtain⟨hb1,hb2⟩:=hb2;refine FL ?_;refine RG ?_;(repeat first|refine WO ?_|refine Ai λX=>?_|refine Ay λY=>?_);refine NL ?_;dsimp only[AR,List.set_cons_zero,List.set_cons_succ,List.cons_append,List.nil_append];rw[hset];refine FL ?_;have hEl:(es.map Ac).length=es.length:=List.length_map _;cases ok with
  |false=>
   rw[if_neg (by simp)]at hnx;refine RG ?_;(repeat first|refine WO ?_|refine Ai λX=>?_|refine Ay λY=>?_);refine NL ?_;refine AE rfl rfl ?_;refine FL ?_;refine RG ?_;(repeat first|refine WO ?_|refine Ai λX=>?_|refine Ay λY=>?_);refine NL ?_;exact BR (i+1) Y (b,v2,es,ds++[false]) ⟨h,hb1,hb2,hvk2,by dsimp only;omega,by rw[List.length_append,hds];rfl,hnx⟩ (by omega)
  |true=>
   refine RG ?_;(repeat first|refine WO ?_|refine Ai λX=>?_|refine Ay λY=>?_);refine NL ?_;refine AWP.cond rfl (λh3=>?_) (λh3=>?_)
   ·have h3:c.act=3:=of_decide_eq_true h3
    rw[if_pos ⟨rfl,h3⟩]at hnx;refine FL ?_;have hb1':(es.map Ac).length+1<=1099511627776:=by omega
    refine RG ?_;(repeat first|(refine AOps.gN ?_;first|(refine AOps.g_lit ?_;refine AOps.goL (Ac x) ?_))|refine WO ?_|refine Ai λX=>?_|refine Ay λY=>?_);refine NL ?_;refine FL ?_;dsimp only[AR,List.set_cons_zero,List.set_cons_succ,List.cons_append,List.nil_append];have hm1:es.map Ac++[Ac x]=(es++[x]).map Ac:=by rw[List.map_append];rfl
    have hm2:es.length+[Ac x].length=(es++[x]).length:=by rw[List.length_append];rfl
    rw[hm1,hm2];refine RG ?_;(repeat first|refine WO ?_|refine Ai λX=>?_|refine Ay λY=>?_);refine NL ?_;exact BR (i+1) Y (b,v2,es++[x],ds++[true]) ⟨h,hb1,hb2,hvk2,by rw[List.length_append];show es.length+1<=i+1;omega,by rw[List.length_append,hds];rfl,hnx⟩ (by omega)
   ·have h3:¬c.act=3:=of_decide_eq_false h3
    rw[if_neg (λe=>h3 e.2)]at hnx;refine FL ?_;refine RG ?_;(repeat first|refine WO ?_|refine Ai λX=>?_|refine Ay λY=>?_);refine NL ?_;exact BR (i+1) Y (b,v2,es,ds++[true]) ⟨h,hb1,hb2,hvk2,by dsimp only;omega,by rw[List.length_append,hds];rfl,hnx⟩ (by omega)
 ·have h:i=l.length:=by rw[decide_eq_false_iff_not,hlm]at hb;omega
  subst h;rw[List.drop_length]at hrun;simp only[C8,List.append_nil]at hrun;have hkk:=BU hz.wok.ks;have har:=NO z hz.ok hz.ne (by rw[hz.kinds];exact hkk.1) (λk hk=>(Cg (hkk.2 k (by rw[<-hz.kinds];exact hk))).2.1) (by rw[hz.gens];exact hz.wok.gl) (λit hit=>(hz.wok.wl.items.2 it (hz.items.mem_iff.1 hit)));rw[<-hzA];refine FL ?_;refine RG ?_;(repeat first|(refine AOps.gN ?_;first|refine OD [_,_,_] (h:=har) (k:=λL hL=>?_))|refine WO ?_|refine Ai λX=>?_|refine Ay λY=>?_);refine NL ?_;have hLe:=hz.sorted hL.1 hL.2;refine RT ?_;rw[hrun];have hv:(⟨z.kinds,z.gens,L⟩:Wd)=v:=by rw[hz.kinds,hz.gens,hLe]
  rw[hv,Nat.sub_self,List.replicate_zero,List.append_nil];dsimp only[AR,List.set_cons_zero,List.set_cons_succ,List.cons_append,List.nil_append];exact BZ [wdA false v,.sl Y 0 es.length,.sl K 0 (l.map Cc).length] [wdA false v,.lst true 32 2 (es.map Ac),QY true ds] (.cons (.cell .same) (.cons (.cell (.sl (p:=0) .here (by rw[List.length_map]))) (.cons (.cell (.sl (p:=0) .here (by rw[hlm,List.length_map,hds]))) .nil))) (hS:=by repeat (first|exact List.sublist_append_right _ _|apply List.Sublist.cons))
theorem Qc(w:Wd)(l:List Cmd)(hw:WdOK w)(h12:w.kinds.length<=12)(hl:l.length<=131072)(hc:CmdsL w.kinds l):PS Tryz.prog 80 [wdA false w,KK false l] (.tup [wdA false (C8 w l).1,Gi (C8 w l).2.1,iA 0]):=by
 have hck:=He w l hw.wl h12 (by omega) hc.l;rw[cmdErr_iff.2 ⟨hw,hl,hc.ok⟩]at hck;have hrn:=O9 w l hw h12 hl hc;refine Spec.of (nt:=27) (res:=[.cell 4 26,.tmp 5,.tmp 6]) Tryz.func80 rfl (by kernel_rfl) rfl rfl rfl λSf=>?_
 refine RG ?_;(repeat first|(refine AOps.gN ?_;first|(refine AOps.g_box ?_;refine BT ?_))|refine WO ?_|refine Ai λP=>?_|refine Ay λY=>?_);refine NL ?_;refine FL ?_;refine RG ?_;(repeat first|(refine AOps.gN ?_;first|(refine AOps.g_callf ?_;first|refine AOps.c2 (h:=(hck ..)) (k:=?_)))|refine WO ?_|refine Ai λX=>?_|refine Ay λY=>?_);refine NL ?_;refine FL ?_;refine RG ?_;(repeat first|refine WO ?_|refine Ai λX=>?_|refine Ay λY=>?_);refine NL ?_;refine AE rfl rfl ?_;refine FL ?_;refine RG ?_;(repeat first|(refine AOps.gN ?_;first|(refine AOps.g_callf ?_;first|refine AOps.c2 (h:=(hrn ..)) (k:=?_)))|refine WO ?_|refine Ai λV=>?_|refine Ay λY=>?_);refine NL ?_;refine FL ?_;refine RG ?_;(repeat first|refine WO ?_|refine Ai λX=>?_|refine Ay λY=>?_);refine NL ?_;refine RT ?_;exact Gt (rs:=[wdA false (C8 w l).1,Gi (C8 w l).2.1,iA 0]) rfl
theorem Rv:WdOK baseWd:=(BI _).1 (by decide)
def SE:AV:=.agg [A3 false false [FK],AW false [0],SQ true baseWd.items]
theorem QZ:PS Tryz.prog 54 [] SE:=by
 refine Spec.of (nt:=14) (res:=[.cell 0 26]) Tryz.func54 rfl (by kernel_rfl) rfl rfl rfl λSf=>?_
 refine RG ?_;(repeat first|refine WO ?_|refine Ai λP=>?_|refine Ay λY=>?_);refine NL ?_;refine FL ?_;refine RG ?_;(repeat first|refine WO ?_|refine Ai λX=>?_|refine Ay λY=>?_);refine NL ?_;refine FL ?_;refine AWP.rs λC=>AWP.rs λI=>?_
 refine RG ?_;(repeat first|(refine AOps.gN ?_;first|refine AOps.s (W.lit1 (X:=C) (l:=[AG false ⟨0,[9]⟩]) (by exact rfl) (by exact At.f) (by exact rfl) (by exact .inl rfl) (by decide) (by decide) (by exact rfl)) rfl ?_|refine AOps.s (W.lit1 (X:=I) (l:=[.agg [iA 0,iA 0,.sl C 0 1]]) (by exact rfl) (by exact At.f) (by exact rfl) (by exact .inl rfl) (by decide) (by decide) (by exact rfl)) rfl ?_)|refine WO ?_|refine Ai λX=>?_|refine Ay λY=>?_);refine AOps.nil ?_;refine AWP.closeIn (X:=C) (Y:=I) (by exact At.f) (by exact At.f) rfl rfl (.head (.agg (.tail (.tail (.head .here))))) ?_;refine RT ?_;exact BZ [.agg [A3 false false [FK],AW false [0],.sl I 0 1]] [SE] (.cons (.agg (.cons .same (.cons .same (.cons (.sl (p:=0) .here rfl) .nil)))) .nil)
def K4:Wd:=⟨[FK],[0],[⟨⟨0,0⟩,[⟨0,[8]⟩]⟩]⟩
theorem Qa:WdOK K4:=(BI _).1 (by decide)
theorem S8:Ct baseWd K4=[⟨0,0,0⟩]:=by decide
theorem Oh:PS Tryz.prog 24 [] (bA true):=by
 have hch:=Ev baseWd K4 Rv Qa rfl;rw[S8]at hch;have heq:=KE [⟨0,0,0⟩] [⟨0,0,0⟩] (by decide);refine Spec.of (nt:=27) (res:=[.tmp 0]) Tryz.func24 rfl (by kernel_rfl) rfl rfl rfl λSf=>?_
 refine RG ?_;(repeat first|refine WO ?_|refine Ai λX=>?_|refine Ay λY=>?_);refine NL ?_;refine FL ?_;refine AWP.rs λI=>?_
 refine RG ?_;have hb:PS Tryz.prog 54 [] (.agg [A3 false false [FK],AW false [0],.lst true 71 3 [SB ⟨⟨0,0⟩,[⟨0,[9]⟩]⟩]]):=QZ;refine R6 (h:=hb) (hT:=.v (.agg (.cons .fz (.cons .fz (.cons (.lst (Y:=I) rfl) .nil))))) (k:=?_);(repeat first|refine WO ?_|refine Ai λV=>?_|refine Ay λY=>?_);refine FL ?_;refine AWP.thawIn (Y:=I) (by exact At.f) (λ_=>.head (.agg (.tail (.tail (.head .here))))) λC=>?_
 refine RG ?_;(repeat first|refine WO ?_|refine Ai λX=>?_|refine Ay λY=>?_);refine NL ?_;refine FL ?_;refine AWP.iceIn (X:=C) (Y:=I) (by exact At.f) (by exact At.f) rfl (.cons (.agg (.cons .same (.cons .same (.cons (.base (.sl (by decide))) .nil)))) .nil) ?_;refine AWP.iceIn (X:=I) (Y:=V) (by exact At.f) (by exact At.f) rfl (.cons (.agg (.cons .same (.cons .same (.cons (.base (.sl (by decide))) .nil)))) .nil) ?_;refine RU ?_;(repeat first|(refine RGo.gN ?_;first|(refine RGo.g_callf ?_;first|refine RGo.c2 (h:=(hch ..)) (k:=?_)|refine RGo.c0 (h:=(N5 ..)) (k:=?_)))|(refine RGo.gQ ?_;first|(refine RGo.g_callf ?_;first|refine RGo.c2 (h:=(hch ..)) (k:=?_)|refine RGo.c0 (h:=(N5 ..)) (k:=?_)))|refine RK ?_|refine RGo.nil (by kernel_rfl) ?_);(repeat refine WF ?_);refine RG ?_;(repeat first|(refine AOps.gN ?_;first|(refine AOps.g_callf ?_;first|refine AOps.c2 (h:=(heq ..)) (k:=?_))|(refine AOps.g_lit ?_;refine AOps.goL (AC ⟨0,0,0⟩) ?_))|refine WO ?_|refine Ai λX=>?_|refine Ay λY=>?_);refine NL ?_;refine RT ?_;refine AX ?_;rfl
theorem RD(w:Wd)(n:Int)(h:w.items=[]):PS Tryz.prog 16 [wdA false w,iA n] (.tup [Ac ⟨0,0⟩,bA false]):=by
 refine Spec.of (nt:=21) (res:=[.cell 4 32,.tmp 5]) Tryz.func16 rfl (by kernel_rfl) rfl rfl rfl λSf=>?_
 refine RG ?_;(repeat first|(refine AOps.gN ?_;first|(refine AOps.g_box ?_;refine BT ?_))|refine WO ?_|refine Ai λR=>?_|refine Ay λY=>?_);refine NL ?_;(repeat first|refine WK ?_|refine Ai λX=>?_|refine Ay λY=>?_);refine AU rfl (by rw[h];rfl) ?_;(repeat first|refine WK ?_|refine Ai λX=>?_|refine Ay λY=>?_);refine RT ?_;exact BZ [Ac ⟨0,0⟩,bA false] [Ac ⟨0,0⟩,bA false] (.cons (.agg (.cons .same (.cons .same .nil))) (.cons (.cell .same) .nil))
theorem Pd(w:Wd)(n:Int)(i:Nat)(it:Item)(hi:n%(w.items.length:Int)=i)(h:w.items[i]?=some it)(hl:w.items.length<=4611686018427387904):PS Tryz.prog 16 [wdA false w,iA n] (.tup [Ac it.ent,bA true]):=by
 have him:(w.items.map (AD false)).length=w.items.length:=List.length_map _;have hil:i<w.items.length:=(List.getElem?_eq_some_iff.1 h).1;have hb:=FJ n (w.items.map (AD false)).length (by omega) (by omega);rw[him,hi,<-him]at hb;obtain⟨⟨en,eg⟩,cs⟩:=it;have hat:(w.items.map (AD false))[i]?=some (AD false ⟨⟨en,eg⟩,cs⟩):=by rw[List.getElem?_map,h];rfl
 refine Spec.of (nt:=21) (res:=[.cell 4 32,.tmp 5]) Tryz.func16 rfl (by kernel_rfl) rfl rfl rfl λSf=>?_
 refine RG ?_;(repeat first|(refine AOps.gN ?_;first|(refine AOps.g_box ?_;refine BT ?_))|refine WO ?_|refine Ai λR=>?_|refine Ay λY=>?_);refine NL ?_;(repeat first|refine WK ?_|refine Ai λX=>?_|refine Ay λY=>?_);refine AE rfl (decide_eq_false (by omega)) ?_;refine RU ?_;(repeat first|(refine RGo.gN ?_;first|refine RGo.c2 (h:=hb) (k:=?_))|(refine RGo.gQ ?_;first|refine RGo.c2 (h:=hb) (k:=?_))|refine RK ?_|refine RGo.nil (by kernel_rfl) ?_);refine RT ?_;exact BZ [Ac ⟨en,eg⟩,bA true] [Ac ⟨en,eg⟩,bA true] (.cons (.agg (.cons .same (.cons .same .nil))) (.cons (.cell .same) .nil))
def B5(c:Nat)(n:Int)(l:List Int):List Int:=(List.range c).map λj=>l.getD j n
theorem Eu(c:Nat)(n:Int)(l:List Int):(B5 c n l).length=c:=by simp[B5]
theorem Fo(c:Nat)(n:Int)(l:List Int):B5 (c+1) n l=B5 c n l++[l.getD c n]:=by simp[B5,List.range_succ]
theorem Rq(ks:List Kind)(n:Int)(l:List Int)(i:Nat)(hil:i<ks.length)(hi:n%(ks.length:Int)=i)(h8:(ks[i]).fields.length<=8)(hlen:ks.length<=1099511627776):
  PS Tryz.prog 19 [A3 false false ks,iA n,AW false l] (AG false ⟨i,B5 (ks[i]).fields.length n l⟩):=by
 refine Spec.of (nt:=42) (res:=[.cell 6 42]) Tryz.func19 rfl (by kernel_rfl) rfl rfl rfl λSf=>?_
 have hb0:PS Tryz.prog 67 [iA n,iA (ks.map (BD false)).length] (iA i):=by
  have:=FJ n (ks.length:Int) (by omega) (by omega);rw[hi]at this;simpa using this
 (repeat first|(refine AOps.gN ?_;first|(refine AOps.g_callf ?_;first|refine AOps.c2 (h:=(hb0 ..)) (k:=?_)))|refine WK ?_|refine Ai λX=>?_|refine Ay λY=>?_);rename_i R;refine AWP.adoptIn 3 1 .here (λF=>.cons (.agg (.cons .same (.cons (.base .nil) .nil))) .nil) λF=>?_
 refine CB (λ(j F:Nat) (L:List AV)=>⟨[(1,iA n),(2,AW false l),(6,.ptr R 0 0),(7,.ptr X 0 0),(21,iA ((ks[i]).fields.map fieldA).length),(22,iA j)],(F,.row 3 1 L)::(X,.row 42 2 [.agg [iA i,.sl F 0 j]])::(R,.row 42 2 [.agg [iA 0,.prim (.slice none 0 0)]])::Sf⟩) (λj _ L=>j<=(ks[i]).fields.length/\L=(B5 j n l).map iA) (λj _ _=>(ks[i]).fields.length-j) 0 F [] ⟨Nat.zero_le _,rfl⟩ ?_;rintro j F L ⟨hj,hL⟩;have hLl:L.length=j:=by rw[hL,List.length_map,Eu]
 (repeat first|refine WK ?_|refine Ai λX=>?_|refine Ay λY=>?_);refine AWP.cond rfl (λhb=>?_) (λhb=>?_)
 ·have h:j<(ks[i]).fields.length:=by rw[decide_eq_true_eq,List.length_map]at hb;omega
  (repeat first|refine WK ?_|refine Ai λX=>?_|refine Ay λY=>?_);refine AWP.cond rfl (λhc=>?_) (λhc=>?_)
  ·have hc:j<l.length:=by simpa using hc
   (repeat first|refine WK ?_|refine Ai λX=>?_|refine Ay λY=>?_);refine BR (j+1) _ _ ⟨h,?_⟩;rw[Fo,List.map_append,hL,show l.getD j n=l[j]from by simp[List.getD_eq_getElem?_getD,hc]];rfl
  ·have hc:¬j<l.length:=by simpa using hc
   (repeat first|refine WK ?_|refine Ai λX=>?_|refine Ay λY=>?_);refine BR (j+1) _ _ ⟨h,?_⟩;rw[Fo,List.map_append,hL,show l.getD j n=n from by simp[List.getD_eq_getElem?_getD,List.getElem?_eq_none (Nat.le_of_not_lt hc)]];rfl
 ·have h:j=(ks[i]).fields.length:=by rw[decide_eq_false_iff_not,List.length_map]at hb;omega
  subst h;refine FL ?_;refine AWP.iceIn (X:=F) .here (.next .here) rfl (.cons (.agg (.cons .same (.cons (.base (.sl (by omega))) .nil))) .nil) ?_
  have hF:An ((L.drop 0).take (ks[i]).fields.length)=(B5 (ks[i]).fields.length n l).map iA:=by
   rw[List.drop_zero,List.take_of_length_le (by omega),hL];exact Frzs.h
  rw[hF];(repeat first|refine WK ?_|refine Ai λX=>?_|refine Ay λY=>?_);refine RT ?_;refine Gt (rs:=[AG false ⟨i,B5 (ks[i]).fields.length n l⟩]) rfl (.cons (.cell (p:=2) rfl (.next (.next .here)) TAg.h TSize.h rfl rfl) rfl .nil)
theorem L7(l:List Int):0<(D8 l).kinds.length/\(D8 l).kinds.length<=4:=⟨Ku l,(Iu l).1⟩
theorem O6{ks:List Kind}(hk:BE ks=0){i:Nat}(hi:i<ks.length)(n:Int)(l:List Int):Fq ks ⟨i,B5 (ks[i]).fields.length n l⟩:=by
 refine⟨by dsimp only;omega,by dsimp only;omega,ks[i],by dsimp only;rw[Int.toNat_natCast,List.getElem?_eq_getElem hi],?_⟩;rw[Iz ((BU hk).2 _ (List.getElem_mem hi)) (by rw[Eu])]
theorem Kt(n:Int){m:Nat}(h:0<m):∃i:Nat,n%(m:Int)=i/\i<m:=
 ⟨(n%(m:Int)).toNat,by have:=Int.emod_nonneg n (b:=(m:Int)) (by omega);omega,by have:=Int.emod_lt_of_pos n (b:=(m:Int)) (by omega);have:=Int.emod_nonneg n (b:=(m:Int)) (by omega);omega⟩
def pickP(w:Wd)(n:Int):Ent×Bool:=match w.items[(n%(w.items.length:Int)).toNat]? with
 |some it=>(it.ent,true)
 |none=>(⟨0,0⟩,false)
theorem Pe(w:Wd)(n:Int)(hl:w.items.length<=4611686018427387904):PS Tryz.prog 16 [wdA false w,iA n] (.tup [Ac (pickP w n).1,bA (pickP w n).2]):=by
 unfold pickP;cases h:w.items with
 |nil=>exact RD w n h
 |cons it l=>
  obtain⟨i,hi,hil⟩:=Kt n (m:=(it::l).length) (by simp);have h2:w.items[i]?=some (it::l)[i]:=by rw[h];exact List.getElem?_eq_getElem hil
  have:=Pd w n i (it::l)[i] (by rw[h];exact hi) h2 hl;rw[hi,Int.toNat_natCast,List.getElem?_eq_getElem hil];exact this
def Ki(ks:List Kind)(b:Int)(l:List Int):Comp:=match ks[(b%(ks.length:Int)).toNat]? with
 |some k=>⟨b%(ks.length:Int),B5 k.fields.length b l⟩
 |none=>⟨0,[]⟩
def IS(w:Wd)(l:List Int)(i:Nat):Cmd:=
 if(pickP w (l.getD i 0)).2=false\/(l.getD (i+1) 0).tmod 4=0 then⟨3,⟨0,0⟩,0,[]⟩else
 ⟨l.getD (i+1) 0%3,(pickP w (l.getD i 0)).1,l.getD i 0%(w.kinds.length:Int),[Ki w.kinds (l.getD i 0) (l.drop i)]⟩
def Bl(w:Wd)(l:List Int):List Cmd:=(List.range (l.length/2)).map λj=>IS w l (2*j)
def Eo(w:Wd)(l:List Int):Wd:=if l.length/2<=131072 then(C8 w (Bl w l)).1 else w
theorem Q9{w:Wd}(hw:WdOK w)(h0:0<w.kinds.length)(b:Int)(l:List Int):Fq w.kinds (Ki w.kinds b l)/\(Ki w.kinds b l).vals.length<=8:=by
 obtain⟨k,hk,hkl⟩:=Kt b h0;have hka:w.kinds[k]?=some w.kinds[k]:=List.getElem?_eq_getElem hkl
 have hrc:Ki w.kinds b l=⟨(k:Nat),B5 (w.kinds[k]).fields.length b l⟩:=by
  unfold Ki;rw[hk,Int.toNat_natCast,hka]
 have h8:=(Cg ((BU hw.ks).2 _ (List.getElem_mem hkl))).2.1;rw[hrc];exact⟨O6 hw.ks hkl b l,by show(B5 _ _ _).length<=8;rw[Eu];exact h8⟩
theorem RE{w:Wd}(hw:WdOK w)(n:Int):I64 (pickP w n).1.n:=by
 unfold pickP;split
 ·rename_i it hit
  have:=hw.it it (List.mem_of_getElem? hit);have:=hw.gl;constructor<;>dsimp only<;>omega
 ·constructor<;>decide
theorem Q8{w:Wd}(hw:WdOK w)(h0:0<w.kinds.length)(l:List Int)(i:Nat):(CY w.kinds (IS w l i)).2=0/\I64 (IS w l i).ent.n/\(IS w l i).comps.length<=1/\∀d∈(IS w l i).comps,d.vals.length<=8:=by
 unfold IS;split
 ·refine⟨?_,⟨by decide,by decide⟩,Nat.zero_le _,λd hd=>by cases hd⟩
  show(CA w.kinds []).2=0
  rw[OG hw.ks (by rfl)]
 ·obtain⟨hfo,h8⟩:=Q9 hw h0 (l.getD i 0) (l.drop i)
  refine⟨?_,RE hw _,Nat.le_refl _,λd hd=>?_⟩
  ·have h3:0<=l.getD (i+1) 0%3/\l.getD (i+1) 0%3<3:=by omega
   have hft:=IC hw.ks hfo;unfold CY;dsimp only;rw[hft];split
   ·rfl
   ·split
    ·obtain⟨k,hk,hkl⟩:=Kt (l.getD i 0) h0
     rw[hk,if_neg (by omega)]
    ·rw[if_pos (by omega)]
  ·rw[List.mem_singleton]at hd
   subst hd;exact h8
theorem GW{w:Wd}(hw:WdOK w)(h0:0<w.kinds.length)(l:List Int):CmdsL w.kinds (Bl w l):=by
 have h:∀c∈Bl w l,∃i,IS w l i=c:=λc hc=>by
  obtain⟨j,_,rfl⟩:=List.mem_map.1 hc;exact⟨_,rfl⟩
 refine⟨λc hc=>?_,λc hc=>?_,λc hc=>?_⟩<;>obtain⟨i,rfl⟩:=h c hc<;>obtain⟨h1,h2,h3,h4⟩:=Q8 hw h0 l i
 ·exact h1
 ·exact h2
 ·omega
theorem JW(w:Wd)(l:List Int):(Bl w l).length=l.length/2:=by
 unfold Bl;rw[List.length_map,List.length_range]
theorem IV{w:Wd}(hw:WdOK w)(h0:0<w.kinds.length)(l:List Int):WdOK (Eo w l)/\(Eo w l).kinds=w.kinds:=by
 unfold Eo;split
 ·exact Nd hw (GW hw h0 l).ok
 ·exact⟨hw,rfl⟩
theorem Qd(w:Wd)(l:List Cmd)(hw:WdL w)(h12:w.kinds.length<=12)(hl:l.length<=1099511627776)(hc:∀c∈l,c.comps.length<=1099511627776)(e:Int)(he:GK w l=e)(h0:e≠0):PS Tryz.prog 80 [wdA false w,KK false l] (.tup [wdA false ⟨[],[],[]⟩,Gi [],iA e]):=by
 have hck:=He w l hw h12 hl hc;rw[he]at hck;refine Spec.of (nt:=27) (res:=[.cell 4 26,.tmp 5,.tmp 6]) Tryz.func80 rfl (by kernel_rfl) rfl rfl rfl λSf=>?_
 refine RG ?_;(repeat first|(refine AOps.gN ?_;first|(refine AOps.g_box ?_;refine BT ?_))|refine WO ?_|refine Ai λP=>?_|refine Ay λY=>?_);refine NL ?_;refine FL ?_;refine RG ?_;(repeat first|(refine AOps.gN ?_;first|(refine AOps.g_callf ?_;first|refine AOps.c2 (h:=(hck ..)) (k:=?_)))|refine WO ?_|refine Ai λX=>?_|refine Ay λY=>?_);refine NL ?_;refine FL ?_;refine RG ?_;(repeat first|refine WO ?_|refine Ai λX=>?_|refine Ay λY=>?_);refine NL ?_;refine AU rfl (decide_eq_true h0) ?_;refine FL ?_;refine RG ?_;(repeat first|refine WO ?_|refine Ai λX=>?_|refine Ay λY=>?_);refine NL ?_;refine RT ?_;exact BZ [SM,.prim (.slice none 0 0),iA e] [wdA false ⟨[],[],[]⟩,Gi [],iA e] (.cons (.agg (.cons .nil (.cons .nil (.cons .nil .nil)))) (.cons (.cell .nil) (.cons (.cell .same) .nil)))
def DC(w:Wd)(l:List Int)(j:Nat):List Cmd:=(List.range j).map λj=>IS w l (2*j)
theorem Kj(w:Wd)(l:List Int)(j:Nat):DC w l (j+1)=DC w l j++[IS w l (2*j)]:=by
 unfold DC;rw[List.range_succ,List.map_append];rfl
theorem Lb(w:Wd)(l:List Int)(j:Nat):(DC w l j).length=j:=by unfold DC;rw[List.length_map,List.length_range]
set_option maxRecDepth 8000 in
set_option maxHeartbeats 4000000 in
theorem La(w:Wd)(l:List Int)(hw:WdOK w)(h0:0<w.kinds.length)(h12:w.kinds.length<=12)(hl:l.length<=1048576):PS Tryz.prog 25 [wdA false w,AW false l] (wdA false (Eo w l)):=by
 have hlm:(l.map iA).length=l.length:=List.length_map _;have hkm:(w.kinds.map (BD false)).length=w.kinds.length:=List.length_map _;have hil:=hw.il;have hgl:=hw.gl;have hk16:=(BU hw.ks).1;refine Spec.of (nt:=89) (res:=[.cell 4 26]) Tryz.func25 rfl (by kernel_rfl) rfl rfl rfl λSf=>?_
 refine RG ?_;(repeat first|(refine AOps.gN ?_;first|(refine AOps.g_box ?_;refine BT ?_))|refine WO ?_|refine Ai λR=>?_|refine Ay λY=>?_);refine NL ?_;refine FL ?_;refine RG ?_;(repeat first|refine WO ?_|refine Ai λX=>?_|refine Ay λY=>?_);refine NL ?_;refine AE rfl (decide_eq_false (by omega)) ?_;refine FL ?_;refine RG ?_;(repeat first|refine WO ?_|refine Ai λX=>?_|refine Ay λY=>?_);refine NL ?_;refine FL ?_;refine RG ?_;(repeat first|refine WO ?_|refine Ai λX=>?_|refine Ay λY=>?_);refine NL ?_;refine FL ?_;refine AWP.adopt (d:=5) 159 5 rfl λO=>?_
 refine BH (λ(j O:Nat)=>⟨[(1,AW false l),(2,.fp (wdA false w).cells),(4,.ptr R 0 0),(5,.sl O 0 j),(6,iA (2*j:Nat))],(O,.row 159 5 ((DC w l j).map Cc))::(R,.row 26 3 [SM])::Sf⟩) (λj _=>j<=l.length/2) (λj _=>l.length/2-j) 0 O (Nat.zero_le _) ?_;rintro j O hj;have hrl:j=((DC w l j).map Cc).length:=by rw[List.length_map,Lb]
 by_cases hjk:j<l.length/2
 ·have h1:2*j+1<l.length:=by omega
  have hd1:decide (((2*j:Nat):Int)+1<((l.map iA).length:Nat))=true:=decide_eq_true (by omega);refine RG ?_;(repeat first|(refine AOps.gN ?_;first|refine AOps.go (h:=AT (((2*j:Nat):Int)+1) (by omega) (by omega) rfl rfl) (k:=?_))|refine WO ?_|refine Ai λX=>?_|refine Ay λY=>?_);refine NL ?_;refine AU rfl hd1 ?_;obtain⟨n,hn⟩:∃n,l.getD (2*j) 0=n:=⟨_,rfl⟩;obtain⟨a,ha⟩:∃n,l.getD (2*j+1) 0=n:=⟨_,rfl⟩
  have hgt:∀i (h:i<l.length) v,l.getD i 0=v->(l.map iA)[i]?=some (iA v):=λi h v e=>by
   rw[List.getElem?_map,List.getElem?_eq_getElem h,<-e,List.getD_eq_getElem?_getD,List.getElem?_eq_getElem h];rfl
  have hat0:=hgt _ (by omega) _ hn;have hat1:=hgt _ (by omega) _ ha;have hb3:=FJ a 3 (by decide) (by decide);have hbk:=FJ n ((w.kinds.map (BD false)).length:Nat) (by omega) (by omega);have hpk:=Pe w n (by omega)
  have hraw:IS w l (2*j)=if(pickP w n).2=false\/a.tmod 4=0 then⟨3,⟨0,0⟩,0,[]⟩else⟨a%3,(pickP w n).1,n%(w.kinds.length:Int),[Ki w.kinds n (l.drop (2*j))]⟩:=by
   unfold IS;rw[hn,ha]
  obtain⟨⟨⟨pn,pg⟩,pb⟩,hpe⟩:∃q,pickP w n=q:=⟨_,rfl⟩;rw[hpe]at hpk hraw;dsimp only at hpk hraw;have hnx:=Kj w l j;obtain⟨M,hM⟩:∃M,DC w l j=M:=⟨_,rfl⟩;rw[hM]at hnx hrl⊢;have hMm:(M.map Cc).length=M.length:=List.length_map _;refine FL ?_;refine AWP.rs λE=>?_
  refine RU ?_;(repeat first|(refine RGo.gN ?_;first|(refine RGo.g_callf ?_;first|refine RGo.c2 (h:=(hpk ..)) (k:=?_))|refine RGo.go (h:=W.idxL rfl rfl rfl hat0) (k:=?_))|(refine RGo.gQ ?_;first|(refine RGo.g_callf ?_;first|refine RGo.c2 (h:=(hpk ..)) (k:=?_))|refine RGo.go (h:=W.idxL rfl rfl rfl hat0) (k:=?_))|refine RK ?_|refine RGo.nil (by kernel_rfl) ?_);(repeat refine WF ?_);refine Ag (λq:Bool=>q=true↔(pb=false\/a.tmod 4=0)) (λq=>⟨[(1,AW false l),(2,.fp (wdA false w).cells),(4,.ptr R 0 0),(5,.sl O 0 j),(6,iA (2*j:Nat)),(7,.ptr E 0 0),(43,bA q)],(E,.row 32 2 [Ac ⟨pn,pg⟩])::(O,.row 159 5 (M.map Cc))::(R,.row 26 3 [SM])::Sf⟩) ?_ ?_
  ·cases pb with
   |false=>
    refine RG ?_;(repeat first|(refine AOps.gQ ?_;first|refine AOps.goNU ?_|refine AOps.goNV ?_)|refine WO ?_|refine Ai λX=>?_|refine Ay λY=>?_);refine NL ?_;exact jn true (by simp)
   |true=>
    refine RG ?_;(repeat first|(refine AOps.gN ?_;first|refine AOps.go (h:=AT (((2*j:Nat):Int)+1) (by omega) (by omega) rfl rfl) (k:=?_)|refine AOps.go (h:=W.idxL (a:=2*j+1) rfl rfl (by omega) hat1) (k:=?_)|refine AOps.go (h:=W.rem rfl rfl (by decide)) (k:=?_))|refine WO ?_|refine Ai λX=>?_|refine Ay λY=>?_);refine NL ?_;exact jn (decide (a.tmod 4=0)) (by simp)
  rintro q hq;cases q with
  |true=>
   rw[hraw,if_pos (hq.1 rfl)]at hnx;refine AU rfl rfl ?_;refine FL ?_;have hb1:(M.map Cc).length+1<=1099511627776:=by omega
   have hm1:M.map Cc++[Cc ⟨3,⟨0,0⟩,0,[]⟩]=(DC w l (j+1)).map Cc:=by rw[hnx,List.map_append];rfl
   have hj1:j+[Cc ⟨3,⟨0,0⟩,0,[]⟩].length=j+1:=rfl;refine RG ?_;(repeat first|(refine AOps.gN ?_;first|refine AOps.nilT 45 42 2 (.cons .same (.cons .same (.cons .same (.cons .same (.cons (.base .nil) .nil))))) ?_|(refine AOps.g_lit ?_;refine AOps.goL (Cc ⟨3,⟨0,0⟩,0,[]⟩) ?_))|refine WO ?_|refine Ai λX=>?_|refine Ay λY=>?_);refine NL ?_;dsimp only[AR,List.set_cons_zero,List.set_cons_succ,List.cons_append,List.nil_append];rw[hm1,hj1];refine FL ?_;refine RG ?_;(repeat first|(refine AOps.gN ?_;first|refine AOps.go (h:=AT (((2*j:Nat):Int)+2) (by omega) (by omega) rfl rfl) (k:=?_))|refine WO ?_|refine Ai λX=>?_|refine Ay λY=>?_);refine NL ?_;rw[show(((2*j:Nat):Int)+2)=((2*(j+1):Nat):Int) by omega];exact Ae (j+1) Y hjk (by omega)
  |false=>
   have hq':¬(pb=false\/a.tmod 4=0):=λe=>by cases hq.2 e
   rw[if_neg hq']at hraw;refine AE rfl rfl ?_;obtain⟨k,hk,hkl⟩:=Kt n h0;have hka:w.kinds[k]?=some w.kinds[k]:=List.getElem?_eq_getElem hkl;have h8:=(Cg ((BU hw.ks).2 _ (List.getElem_mem hkl))).2.1;have hcp:=Rq w.kinds n (l.drop (2*j)) k hkl hk h8 (by omega)
   have hrc:Ki w.kinds n (l.drop (2*j))=⟨(k:Nat),B5 (w.kinds[k]).fields.length n (l.drop (2*j))⟩:=by
    unfold Ki;rw[hk,Int.toNat_natCast,hka]
   rw[<-hrc]at hcp;have hdr:AW false (l.drop (2*j))= .lst false 3 1 ((l.map iA).drop (2*j)):=by rw[AW,List.map_drop]
   rw[hdr]at hcp;rw[<-hkm]at hraw;obtain⟨⟨ck,cv⟩,hc⟩:∃c,Ki w.kinds n (l.drop (2*j))=c:=⟨_,rfl⟩;rw[hc]at hraw hcp;rw[hraw]at hnx;have hb1:(M.map Cc).length+1<=1099511627776:=by omega
   have hm1:M.map Cc++[Cc ⟨a%3,⟨pn,pg⟩,n%((w.kinds.map (BD false)).length:Nat),[⟨ck,cv⟩]⟩]=(DC w l (j+1)).map Cc:=by rw[hnx,List.map_append];rfl
   have hj1:j+[Cc ⟨a%3,⟨pn,pg⟩,n%((w.kinds.map (BD false)).length:Nat),[⟨ck,cv⟩]⟩].length=j+1:=rfl;refine FL ?_;refine AWP.rs λY=>?_
   refine RU ?_;(repeat first|(refine RGo.gN ?_;first|(refine RGo.g_callf ?_;first|refine RGo.c3 (h:=(hcp ..)) (k:=?_)|refine RGo.c2 (h:=(hb3 ..)) (k:=?_)|refine RGo.c2 (h:=(hbk ..)) (k:=?_))|refine RGo.go (h:=AT (((2*j:Nat):Int)+1) (by omega) (by omega) rfl rfl) (k:=?_)|refine RGo.go (h:=W.idxL (a:=2*j+1) rfl rfl (by omega) hat1) (k:=?_)|refine RGo.go (h:=W.idxL rfl rfl rfl hat0) (k:=?_)|refine RGo.go (h:=W.loL (a:=2*j) rfl rfl rfl (by omega)) (k:=?_)|refine RGo.go (v:=.lst false 42 2 [AG false ⟨ck,cv⟩]) (h:=W.litF1 (v0:=AG false ⟨ck,cv⟩) rfl rfl (.inl rfl) (by decide) (by decide) rfl) (k:=?_)|(refine RGo.g_lit ?_;refine RGo.goL (Cc ⟨a%3,⟨pn,pg⟩,n%((w.kinds.map (BD false)).length:Nat),[⟨ck,cv⟩]⟩) ?_))|(refine RGo.gQ ?_;first|(refine RGo.g_callf ?_;first|refine RGo.c3 (h:=(hcp ..)) (k:=?_)|refine RGo.c2 (h:=(hb3 ..)) (k:=?_)|refine RGo.c2 (h:=(hbk ..)) (k:=?_))|refine RGo.go (h:=AT (((2*j:Nat):Int)+1) (by omega) (by omega) rfl rfl) (k:=?_)|refine RGo.go (h:=W.idxL (a:=2*j+1) rfl rfl (by omega) hat1) (k:=?_)|refine RGo.go (h:=W.idxL rfl rfl rfl hat0) (k:=?_)|refine RGo.go (h:=W.loL (a:=2*j) rfl rfl rfl (by omega)) (k:=?_)|refine RGo.go (v:=.lst false 42 2 [AG false ⟨ck,cv⟩]) (h:=W.litF1 (v0:=AG false ⟨ck,cv⟩) rfl rfl (.inl rfl) (by decide) (by decide) rfl) (k:=?_)|(refine RGo.g_lit ?_;refine RGo.goL (Cc ⟨a%3,⟨pn,pg⟩,n%((w.kinds.map (BD false)).length:Nat),[⟨ck,cv⟩]⟩) ?_))|refine RK ?_|refine RGo.nil (by kernel_rfl) ?_);dsimp only[AR,List.set_cons_zero,List.set_cons_succ,List.cons_append,List.nil_append];rw[hm1,hj1];(repeat refine WF ?_);refine RG ?_;(repeat first|(refine AOps.gN ?_;first|refine AOps.go (h:=AT (((2*j:Nat):Int)+2) (by omega) (by omega) rfl rfl) (k:=?_))|refine WO ?_|refine Ai λX=>?_|refine Ay λY=>?_);refine NL ?_;rw[show(((2*j:Nat):Int)+2)=((2*(j+1):Nat):Int) by omega];exact Ae (j+1) Y hjk (by omega)
 ·have hjk:j=l.length/2:=by omega
  have hM:DC w l j=Bl w l:=by rw[hjk];rfl
  have hd1:decide (((2*j:Nat):Int)+1<((l.map iA).length:Nat))=false:=decide_eq_false (by omega);have hcl:=JW w l;rw[hM]at hrl⊢;rw[List.length_map,hcl]at hrl;have hcm:((Bl w l).map Cc).length=(Bl w l).length:=List.length_map _;have hco:=GW hw h0 l;refine RG ?_;(repeat first|(refine AOps.gN ?_;first|refine AOps.go (h:=AT (((2*j:Nat):Int)+1) (by omega) (by omega) rfl rfl) (k:=?_))|refine WO ?_|refine Ai λX=>?_|refine Ay λY=>?_);refine NL ?_;refine AE rfl hd1 ?_;have hCf:An ((Bl w l).map Cc)=(Bl w l).map Cc:=Frzs.h;refine AWP.ice (d:=5) rfl (by exact At.f) (by omega) ?_;rw[hCf];refine FL ?_;unfold Eo;by_cases hbig:l.length/2<=131072
  ·rw[if_pos hbig]
   have hap:=Qc w (Bl w l) hw h12 (by omega) hco;refine RG ?_;(repeat first|(refine AOps.gN ?_;first|(refine AOps.g_callf ?_;first|refine AOps.c2 (h:=(hap ..)) (k:=?_)))|refine WO ?_|refine Ai λV=>?_|refine Ay λY=>?_);refine NL ?_;refine FL ?_;refine RG ?_;(repeat first|refine WO ?_|refine Ai λX=>?_|refine Ay λY=>?_);refine NL ?_;refine AE rfl rfl ?_;refine FL ?_;refine RG ?_;(repeat first|refine WO ?_|refine Ai λX=>?_|refine Ay λY=>?_);refine NL ?_;refine RT ?_;exact BZ [wdA false (C8 w (Bl w l)).1] [wdA false (C8 w (Bl w l)).1] (.cons (.cell .same) .nil)
  ·rw[if_neg hbig]
   have hap:=Qd w (Bl w l) hw.wl h12 (by omega) hco.l 2 (by unfold GK;rw[(BI w).2 hw,if_neg (by decide),if_pos (by omega)]) (by decide);refine RG ?_;(repeat first|(refine AOps.gN ?_;first|(refine AOps.g_callf ?_;first|refine AOps.c2 (h:=(hap ..)) (k:=?_)))|refine WO ?_|refine Ai λV=>?_|refine Ay λY=>?_);refine NL ?_;refine FL ?_;refine RG ?_;(repeat first|refine WO ?_|refine Ai λX=>?_|refine Ay λY=>?_);refine NL ?_;refine AU rfl rfl ?_;refine FL ?_;refine RG ?_;(repeat first|refine WO ?_|refine Ai λX=>?_|refine Ay λY=>?_);refine NL ?_;refine RT ?_;exact BZ [wdA false w] [wdA false w] (.cons (.cell .same) .nil)
def ltM(a b:Mark):Prop:=a.n<b.n\/(a.n=b.n/\a.kind<b.kind)
abbrev CQ(l:List Mark):Prop:=l.Pairwise ltM
def Bk(m:Mark):Int×Int:=(m.n,m.kind)
theorem Kk(a:Mark):¬ltM a a:=λh=>by unfold ltM at h;omega
theorem F6{a b:Mark}(h:ltM a b):Bk a≠Bk b:=λe=>by
 unfold Bk at e;unfold ltM at h;injection e with e1 e2
 omega
theorem Ie{a b c:Mark}(h:ltM a b)(k:ltM b c):ltM a c:=by unfold ltM at*;omega
theorem H2(a b:Mark):ltM a b\/Bk a=Bk b\/ltM b a:=by
 unfold ltM Bk;by_cases h1:a.n<b.n
 ·exact .inl (.inl h1)
 by_cases h2:b.n<a.n
 ·exact .inr (.inr (.inl h2))
 by_cases h3:a.kind<b.kind
 ·exact .inl (.inr ⟨by omega,h3⟩)
 by_cases h4:b.kind<a.kind
 ·exact .inr (.inr (.inr ⟨by omega,h4⟩))
 ·exact .inr (.inl (Prod.ext (by dsimp only;omega) (by dsimp only;omega)))
theorem EF{l:List Mark}(h:CQ l):l.Nodup:=List.Pairwise.imp (λ{a b} (h:ltM a b) (e:a=b)=>Kk b (e▸h)) h
theorem El{l:List Mark}(h:CQ l){a b:Mark}(ha:a∈l)(hb:b∈l)(e:Bk a=Bk b):a=b:=by
 induction l with
 |nil=>cases ha
 |cons x l ih=>
  obtain⟨h1,h2⟩:=List.pairwise_cons.1 h;rcases List.mem_cons.1 ha with rfl|ha<;>rcases List.mem_cons.1 hb with rfl|hb
  ·rfl
  ·exact absurd e (F6 (h1 b ‹b∈l›))
  ·exact absurd e.symm (F6 (h1 a ‹a∈l›))
  ·exact ih h2 ‹a∈l› ‹b∈l›
theorem Gz{a b:List Mark}(ha:CQ a)(hb:CQ b)(h:∀m,m∈a↔m∈b):a=b:=by
 refine List.Perm.eq_of_pairwise (le:=ltM) (λx y _ _ h1 h2=>absurd (Ie h1 h2) (Kk x)) ha hb ?_;exact(List.perm_ext_iff_of_nodup (EF ha) (EF hb)).2 h
def gM(l:List Mark):Int×Int->Option Value:=λx=>(l.find? λm=>decide (Bk m=x)).map λm=>.int .i64 m.tick
theorem GD{l:List Mark}(h:CQ l){x:Int×Int}{v:Value}:gM l x=some v↔∃m∈l,Bk m=x/\v= .int .i64 m.tick:=by
 unfold gM;rw[Option.map_eq_some_iff];constructor
 ·rintro⟨m,hm,rfl⟩
  exact⟨m,List.mem_of_find?_eq_some hm,by simpa using List.find?_some hm,rfl⟩
 ·rintro⟨m,hm,hk,rfl⟩
  cases hf:l.find? λm=>decide (Bk m=x)with
  |none=>
   rw[List.find?_eq_none]at hf;exact absurd hk (by simpa using hf m hm)
  |some m2=>
   have h2:Bk m2=x:=by simpa using List.find?_some hf
   exact⟨m2,rfl,by rw[El h (List.mem_of_find?_eq_some hf) hm (h2.trans hk.symm)]⟩
theorem gM_some{l:List Mark}{x:Int×Int}:(gM l x).isSome=true↔∃m∈l,Bk m=x:=by
 unfold gM;rw[Option.isSome_map,List.find?_isSome];simp
theorem QI{l:List Mark}{g:Int×Int->Option Value}(h:CQ l)(k:∀x v,g x=some v↔∃m∈l,Bk m=x/\v= .int .i64 m.tick):g=gM l:=funext λx=>Option.ext λv=>(k x v).trans (GD h).symm
def F8:List Mark->Mark->List Mark
 |[],m=>[m]
 |x::l,m=>if x.n<m.n\/(x.n=m.n/\x.kind<m.kind)then x::F8 l m else if Bk x=Bk m then m::l else m::x::l
theorem Ee{m y:Mark}:∀{l:List Mark},CQ l->(y∈F8 l m↔y=m\/(y∈l/\Bk y≠Bk m))
 |[],_=>by simp[F8]
 |x::l,h=>by
  obtain⟨h1,h2⟩:=List.pairwise_cons.1 h;have ih:=Ee (m:=m) (y:=y) h2;rw[F8];split
  ·rename_i c
   have c:ltM x m:=c;rw[List.mem_cons,ih,List.mem_cons];constructor
   ·rintro(rfl|rfl|⟨a,b⟩)
    ·exact .inr ⟨.inl rfl,F6 c⟩
    ·exact .inl rfl
    ·exact .inr ⟨.inr a,b⟩
   ·rintro(rfl|⟨rfl|a,b⟩)
    ·exact .inr (.inl rfl)
    ·exact .inl rfl
    ·exact .inr (.inr ⟨a,b⟩)
  ·rename_i c
   split
   ·rename_i e
    rw[List.mem_cons,List.mem_cons];constructor
    ·rintro(rfl|a)
     ·exact .inl rfl
     ·exact .inr ⟨.inr a,λe2=>F6 (h1 y a) (e.trans e2.symm)⟩
    ·rintro(rfl|⟨rfl|a,b⟩)
     ·exact .inl rfl
     ·exact absurd e b
     ·exact .inr a
   ·rename_i e
    have hmx:ltM m x:=by
     rcases H2 x m with h|h|h
     ·exact absurd h c
     ·exact absurd h e
     ·exact h
    rw[List.mem_cons,List.mem_cons];constructor
    ·rintro(rfl|rfl|a)
     ·exact .inl rfl
     ·exact .inr ⟨.inl rfl,e⟩
     ·exact .inr ⟨.inr a,λe2=>F6 (Ie hmx (h1 y a)) e2.symm⟩
    ·rintro(rfl|⟨a,b⟩)
     ·exact .inl rfl
     ·exact .inr a
theorem G7{m:Mark}:∀{l:List Mark},CQ l->CQ (F8 l m)
 |[],_=>List.pairwise_singleton ..
 |x::l,h=>by
  obtain⟨h1,h2⟩:=List.pairwise_cons.1 h;rw[F8];split
  ·rename_i c
   refine List.pairwise_cons.2 ⟨λy hy=>?_,G7 h2⟩;rcases(Ee h2).1 hy with rfl|⟨a,_⟩
   ·exact c
   ·exact h1 y a
  ·rename_i c
   split
   ·rename_i e
    refine List.pairwise_cons.2 ⟨λy hy=>?_,h2⟩;have:=h1 y hy;unfold Bk at e;unfold ltM at*;injection e with e1 e2
    omega
   ·rename_i e
    have hmx:ltM m x:=by
     rcases H2 x m with h|h|h
     ·exact absurd h c
     ·exact absurd h e
     ·exact h
    exact List.pairwise_cons.2 ⟨λy hy=>by
     rcases List.mem_cons.1 hy with rfl|hy
     ·exact hmx
     ·exact Ie hmx (h1 y hy),h⟩
theorem Ip{m:Mark}:∀{l:List Mark},CQ l->(F8 l m).length=if(gM l (Bk m)).isSome then l.length else l.length+1
 |[],_=>rfl
 |x::l,h=>by
  obtain⟨h1,h2⟩:=List.pairwise_cons.1 h;have ih:=Ip (m:=m) h2;rw[F8];split
  ·rename_i c
   have c:ltM x m:=c;rw[List.length_cons,ih]
   have e:(gM (x::l) (Bk m)).isSome=(gM l (Bk m)).isSome:=by
    rw[Bool.eq_iff_iff,gM_some,gM_some];constructor
    ·rintro⟨y,hy,e⟩
     rcases List.mem_cons.1 hy with rfl|hy
     ·exact absurd e (F6 c)
     ·exact⟨y,hy,e⟩
    ·rintro⟨y,hy,e⟩
     exact⟨y,List.mem_cons_of_mem _ hy,e⟩
   rw[e];split<;>rfl
  ·rename_i c
   split
   ·rename_i e
    rw[if_pos (gM_some.2 ⟨x,List.mem_cons_self ..,e⟩)];rfl
   ·rename_i e
    have hmx:ltM m x:=by
     rcases H2 x m with h|h|h
     ·exact absurd h c
     ·exact absurd h e
     ·exact h
    rw[if_neg]
    ·rfl
    ·rw[gM_some]
     rintro⟨y,hy,e2⟩;rcases List.mem_cons.1 hy with rfl|hy
     ·exact e e2
     ·exact F6 (Ie hmx (h1 y hy)) e2.symm
theorem SR{l:List Mark}(h:CQ l)(m:Mark):gM (F8 l m)=JT (gM l) (Bk m) (.int .i64 m.tick):=by
 refine(QI (G7 h) λx v=>?_).symm;unfold JT;constructor
 ·intro hv
  split at hv
  ·rename_i e
   exact⟨m,(Ee h).2 (.inl rfl),e.symm,(Option.some.inj hv).symm⟩
  ·rename_i e
   obtain⟨y,hy,rfl,rfl⟩:=(GD h).1 hv;exact⟨y,(Ee h).2 (.inr ⟨hy,e⟩),rfl,rfl⟩
 ·rintro⟨y,hy,rfl,rfl⟩
  rcases(Ee h).1 hy with rfl|⟨a,b⟩
  ·rw[if_pos rfl]
  ·rw[if_neg b]
   exact(GD h).2 ⟨y,a,rfl,rfl⟩
def BQ(t:Int)(l ms:List Mark):List Mark:=ms.foldl (λl m=>F8 l ⟨m.n,m.kind,t⟩) l
theorem Oc(t:Int)(l ms:List Mark)(m:Mark):BQ t l (ms++[m])=F8 (BQ t l ms) ⟨m.n,m.kind,t⟩:=by unfold BQ;rw[List.foldl_append];rfl
theorem D4(t:Int):∀(ms l:List Mark),CQ l->CQ (BQ t l ms)/\(BQ t l ms).length<=l.length+ms.length/\∀y,y∈BQ t l ms↔(∃m∈ms,y=⟨m.n,m.kind,t⟩)\/(y∈l/\∀m∈ms,Bk y≠Bk m)
 |[],l,h=>⟨h,Nat.le_refl _,λy=>by simp[BQ]⟩
 |m::ms,l,h=>by
  obtain⟨h1,h2,h3⟩:=D4 t ms (F8 l ⟨m.n,m.kind,t⟩) (G7 h);have hl:=Ip (m:=⟨m.n,m.kind,t⟩) h;refine⟨h1,?_,λy=>?_⟩
  ·have:BQ t l (m::ms)=BQ t (F8 l ⟨m.n,m.kind,t⟩) ms:=rfl
   rw[this,List.length_cons];split at hl<;>omega
  ·have:BQ t l (m::ms)=BQ t (F8 l ⟨m.n,m.kind,t⟩) ms:=rfl
   rw[this,h3,Ee h];have hk:Bk ⟨m.n,m.kind,t⟩=Bk m:=rfl;rw[hk];constructor
   ·rintro(⟨x,hx,rfl⟩|⟨rfl|⟨a,b⟩,c⟩)
    ·exact .inl ⟨x,List.mem_cons_of_mem _ hx,rfl⟩
    ·exact .inl ⟨m,List.mem_cons_self ..,rfl⟩
    ·exact .inr ⟨a,λx hx=>by
      rcases List.mem_cons.1 hx with rfl|hx
      ·exact b
      ·exact c x hx⟩
   ·rintro(⟨x,hx,rfl⟩|⟨a,b⟩)
    ·rcases List.mem_cons.1 hx with rfl|hx
     ·by_cases c:∃z∈ms,Bk z=Bk x
      ·obtain⟨z,hz,e⟩:=c
       unfold Bk at e;injection e with e1 e2
       exact .inl ⟨z,hz,by rw[e1,e2]⟩
      ·exact .inr ⟨.inl rfl,λz hz e=>c ⟨z,hz,e.symm⟩⟩
     ·exact .inl ⟨x,hx,rfl⟩
    ·exact .inr ⟨.inr ⟨a,b m (List.mem_cons_self ..)⟩,λx hx=>b x (List.mem_cons_of_mem _ hx)⟩
theorem M0(a b:Item)(n:Int)(i:Nat):CQ (GY a b n i)/\∀m∈GY a b n i,m.n=n/\0<=m.kind/\m.kind<i/\m.tick=0:=by
 unfold GY;refine⟨?_,λm hm=>?_⟩
 ·refine List.Pairwise.map _ (λ(x y:Nat) (h:x<y)=>(.inr ⟨rfl,by show(x:Int)<y;omega⟩:ltM ⟨n,x,0⟩ ⟨n,y,0⟩)) ?_
  exact(List.Pairwise.filter _ List.pairwise_lt_range).imp λh=>h
 ·obtain⟨k,hk,rfl⟩:=List.mem_map.1 hm
  have:=List.mem_range.1 (List.mem_filter.1 hk).1;exact⟨rfl,by dsimp only;omega,by dsimp only;omega,rfl⟩
theorem Mo(a b:Item)(n:Int):CQ (D1 a b n)/\∀m∈D1 a b n,m.n=n/\ -1<=m.kind/\m.kind<16/\m.tick=0:=by
 obtain⟨h1,h2⟩:=M0 a b n 16;unfold D1;split
 ·refine⟨List.pairwise_append.2 ⟨List.pairwise_singleton ..,h1,λx hx y hy=>?_⟩,λm hm=>?_⟩
  ·rw[List.mem_singleton]at hx
   subst hx;have:=h2 y hy;exact .inr ⟨this.1.symm,by dsimp only;omega⟩
  ·rcases List.mem_append.1 hm with hm|hm
   ·rw[List.mem_singleton]at hm
    subst hm;exact⟨rfl,by dsimp only;omega,by dsimp only;omega,rfl⟩
   ·have:=h2 m hm
    exact⟨this.1,by omega,by omega,this.2.2.2⟩
 ·rw[List.nil_append]
  exact⟨h1,λm hm=>by have:=h2 m hm;exact⟨this.1,by omega,by omega,this.2.2.2⟩⟩
theorem Gk(a b:List Item):∀i:Nat,CQ (C6 a b i)/\∀m∈C6 a b i,0<=m.n/\m.n<i/\ -1<=m.kind/\m.kind<16/\m.tick=0
 |0=>⟨.nil,λm hm=>by cases hm⟩
 |i+1=>by
  obtain⟨h1,h2⟩:=Gk a b i;obtain⟨h3,h4⟩:=Mo (CF a i) (CF b i) i
  have e:C6 a b (i+1)=C6 a b i++D1 (CF a i) (CF b i) i:=by
   unfold C6;rw[List.range_succ,List.flatMap_append,List.flatMap_singleton]
  rw[e];refine⟨List.pairwise_append.2 ⟨h1,h3,λx hx y hy=>?_⟩,λm hm=>?_⟩
  ·have:=h2 x hx
   have:=h4 y hy;exact .inl (by omega)
  ·rcases List.mem_append.1 hm with hm|hm
   ·have:=h2 m hm
    exact⟨by omega,by omega,by omega,by omega,this.2.2.2.2⟩
   ·have:=h4 m hm
    exact⟨by omega,by omega,by omega,by omega,this.2.2.2⟩
section
open Go.Sort
set_option maxHeartbeats 1000000 in
theorem Ra(f:FuncId)(cap:List AV)(cf:Mark->Mark->Int)(hst:Bd cap=true)(hcf:∀x y,PS Tryz.prog f (AC x::AC y::cap) (iA (cf x y)))(X n:Nat)(d:Array Mark)(a b:Nat)(hn:n=d.size)(hab:a<=b)(hb:b<=d.size)(hz:d.size<=1099511627776):PO Tryz.prog 225 [.sl X 0 n,iA a,iA b,.fn f cap] X (.row 58 3 (d.toList.map AC)) (.tup []) (.row 58 3 ((insertionSort (AB cf) d a b).toList.map AC)):=by
 obtain⟨r,hr⟩:∃r,insertionSort (AB cf) d a b=r:=⟨_,rfl⟩;rw[hr];unfold insertionSort at hr;refine Spec.of (nt:=53) (res:=[]) Tryz.func225 rfl (by kernel_rfl) rfl rfl rfl λSf=>?_
 (repeat first|refine WK ?_|refine Ai λX=>?_|refine Ay λY=>?_);refine BH (λ(i:Nat) (e:Array Mark)=>⟨[(0,.sl X 0 n),(1,iA a),(2,iA b),(3,.fn f cap),(8,iA i)],(X,.row 58 3 (e.toList.map AC))::Sf⟩) (λi e=>i<=max b (a+1)/\a<i/\e.size=d.size/\insOuter (AB cf) a b i e=r) (λi _=>b-i) (a+1) d ⟨by omega,by omega,rfl,hr⟩ ?_;rintro i e ⟨hi,hai,he,hfold⟩;rw[insOuter]at hfold;(repeat first|refine WK ?_|refine Ai λX=>?_|refine Ay λY=>?_);refine AWP.cond rfl (λhc=>?_) (λhc=>?_)
 ·have h:i<b:=by have:=of_decide_eq_true hc;omega
  rw[if_pos h]at hfold;(repeat first|refine WK ?_|refine Ai λX=>?_|refine Ay λY=>?_);refine BH (λ(j:Nat) (u:Array Mark)=>⟨[(0,.sl X 0 n),(1,iA a),(2,iA b),(3,.fn f cap),(8,iA i),(9,iA j)],(X,.row 58 3 (u.toList.map AC))::Sf⟩) (λj u=>j<=i/\u.size=d.size/\insInner (AB cf) a j u=insInner (AB cf) a i e) (λj _=>j) i e ⟨Nat.le_refl _,he,rfl⟩ ?_;rintro j u ⟨hj,hu,hin⟩;rcases Bool.eq_false_or_eq_true (decide ((a:Int)<(j:Int)))with g|g
  ·have hja:a<j:=by have:=of_decide_eq_true g;omega
   obtain⟨q,rfl⟩:∃q,j=q+1:=⟨j-1,by omega⟩;have h1:=AM AC (d:=u) (i:=q+1) (by omega);have h2:=AM AC (d:=u) (i:=q) (by omega);have hl:=hcf (u[q+1]!) (u[q]!);rw[insInner]at hin;(repeat refine WF ?_);refine RU ?_;(repeat first|(refine RGo.gN ?_;first|(refine RGo.g_callv ?_;first|refine RGo.k2 (h:=(hl ..)) (k:=?_))|refine RGo.go (h:=AK (q:Int) (by omega) (by omega) rfl rfl) (k:=?_))|(refine RGo.gQ ?_;first|(refine RGo.g_callv ?_;first|refine RGo.k2 (h:=(hl ..)) (k:=?_))|refine RGo.go (h:=AK (q:Int) (by omega) (by omega) rfl rfl) (k:=?_))|refine RK ?_|refine RGo.nil (by kernel_rfl) ?_);(repeat refine WF ?_);refine AWP.cond rfl (λhd=>?_) (λhd=>?_)
   ·have hd:(AB cf) u[q+1]! u[q]! =true:=by simpa[g,AB]using hd
    rw[hd,if_pos (by simp;omega)]at hin;obtain⟨y,hy⟩:=Av AC (d:=u) (i:=q+1) (j:=q) (by omega) u[q]!;(repeat refine WF ?_);refine RU ?_;(repeat first|(refine RGo.gN ?_;first|refine RGo.go (h:=AK (q:Int) (by omega) (by omega) rfl rfl) (k:=?_)|refine RGo.s (W.store rfl rfl (by exact At.f) hy (by exact rfl)) rfl ?_)|(refine RGo.gQ ?_;first|refine RGo.go (h:=AK (q:Int) (by omega) (by omega) rfl rfl) (k:=?_)|refine RGo.s (W.store rfl rfl (by exact At.f) hy (by exact rfl)) rfl ?_)|refine RK ?_|refine RGo.nil (by kernel_rfl) ?_);(repeat first|(refine AOps.gN ?_;first|refine AOps.p (AK (q:Int) (by omega) (by omega) rfl rfl) rfl ?_)|refine WK ?_|refine Ai λX=>?_|refine Ay λY=>?_);refine Ae q (swp u (q+1) q) ⟨by omega,by rw[size_swp];exact hu,hin⟩ (h0:=by rw[<-BA AC (by omega) (by omega)];exact⟨by exact Lk.f,by exact Sub.f⟩)
   ·have hd:(AB cf) u[q+1]! u[q]! =false:=by simpa[g,AB]using hd
    rw[hd,if_neg (by simp)]at hin;(repeat first|refine WK ?_|refine Ai λX=>?_|refine Ay λY=>?_);refine Ae (i+1) u ⟨by omega,by omega,hu,by rw[hin];exact hfold⟩
  ·have hja:j<=a:=by have:=of_decide_eq_false g;omega
   have hin2:insInner (AB cf) a j u=u:=by
    cases j with
    |zero=>rfl
    |succ q=>rw[insInner,if_neg (by simp;omega)]
   rw[hin2]at hin;(repeat refine WF ?_);refine RU ?_;(repeat first|refine RK ?_|refine RGo.nil (by kernel_rfl) ?_);(repeat refine WF ?_);refine AE rfl (by simp[g]) ?_;(repeat first|refine WK ?_|refine Ai λX=>?_|refine Ay λY=>?_);refine Ae (i+1) u ⟨by omega,by omega,hu,by rw[hin];exact hfold⟩
 ·have h:¬i<b:=by have:=of_decide_eq_false hc;omega
  rw[if_neg h]at hfold;subst hfold;(repeat first|refine WK ?_|refine Ai λX=>?_|refine Ay λY=>?_);refine CT ?_;exact Au [(X,.row 58 3 (e.toList.map AC))] ⟨rfl,rfl⟩
end
section
open Go.Sort
set_option maxHeartbeats 1000000 in
theorem LN(f:FuncId)(cap:List AV)(cf:Mark->Mark->Int)(hst:Bd cap=true)(hcf:∀x y,PS Tryz.prog f (AC x::AC y::cap) (iA (cf x y)))(X n:Nat)(d:Array Mark)(lo hi first:Nat)(hn:n=d.size)(hb:first+hi<=d.size)(hlo:lo<=1099511627776)(hz:d.size<=1099511627776):PO Tryz.prog 271 [.sl X 0 n,iA lo,iA hi,iA first,.fn f cap] X (.row 58 3 (d.toList.map AC)) (.tup []) (.row 58 3 ((siftDown (AB cf) hi first lo d).toList.map AC)):=by
 obtain⟨r,hr⟩:∃r,siftDown (AB cf) hi first lo d=r:=⟨_,rfl⟩
 rw[hr];refine Spec.of (nt:=82) (res:=[]) Tryz.func271 rfl (by kernel_rfl) rfl rfl rfl λSf=>?_
 (repeat first|refine WK ?_|refine Ai λX=>?_|refine Ay λY=>?_);refine BH (λ(root:Nat) (u:Array Mark)=>⟨[(0,.sl X 0 n),(2,iA hi),(3,iA first),(4,.fn f cap),(10,iA root)],(X,.row 58 3 (u.toList.map AC))::Sf⟩) (λroot u=>root<=max hi lo/\u.size=d.size/\siftDown (AB cf) hi first root u=r) (λroot _=>hi-root) lo d ⟨by omega,rfl,hr⟩ ?_;rintro root u ⟨hro,hu,hfold⟩;rw[siftDown]at hfold;(repeat first|(refine AOps.gN ?_;first|refine AOps.p (De ((2*root:Nat):Int) (by omega) (by omega) rfl rfl) rfl ?_|refine AOps.p (AT (((2*root+1:Nat):Int)) (by omega) (by omega) rfl rfl) rfl ?_)|refine WK ?_|refine Ai λX=>?_|refine Ay λY=>?_);refine AWP.cond rfl (λhc=>?_) (λhc=>?_)
 ·have h:2*root+1>=hi:=by have:=of_decide_eq_true hc;omega
  rw[dif_pos h]at hfold;subst hfold;(repeat first|refine WK ?_|refine Ai λX=>?_|refine Ay λY=>?_);refine CT ?_;exact Au [(X,.row 58 3 (u.toList.map AC))] ⟨rfl,rfl⟩
 have h:¬2*root+1>=hi:=by have:=of_decide_eq_false hc;omega
 rw[dif_neg h]at hfold;refine AWP.skip ?_;refine Az ?_;refine AWP.seq ?_;refine Ag (λc:Nat=>c<hi/\root<c/\(if !(AB cf) u[first+root]! u[first+c]! then u else siftDown (AB cf) hi first c (swp u (first+root) (first+c)))=r) (λc=>⟨[(0,.sl X 0 n),(2,iA hi),(3,iA first),(4,.fn f cap),(10,iA root),(11,iA c)],(X,.row 58 3 (u.toList.map AC))::Sf⟩) ?_ ?_
 ·rcases Bool.eq_false_or_eq_true (decide (((2*root+1+1:Nat):Int)<(hi:Int)))with g|g
  ·have hg:2*root+1+1<hi:=by have:=of_decide_eq_true g;omega
   have h1:=AM AC (d:=u) (i:=first+(2*root+1)) (by omega);have h2:=AM AC (d:=u) (i:=first+(2*root+1)+1) (by omega);have hl:=hcf (u[first+(2*root+1)]!) (u[first+(2*root+1)+1]!);refine RU ?_;(repeat first|(refine RGo.gN ?_;first|(refine RGo.g_callv ?_;first|refine RGo.k2 (h:=(hl ..)) (k:=?_))|refine RGo.go (h:=AT (((2*root+1+1:Nat):Int)) (by omega) (by omega) rfl rfl) (k:=?_)|refine RGo.go (h:=AT (((first+(2*root+1):Nat):Int)) (by omega) (by omega) rfl rfl) (k:=?_)|refine RGo.go (h:=AT (((first+(2*root+1)+1:Nat):Int)) (by omega) (by omega) rfl rfl) (k:=?_))|(refine RGo.gQ ?_;first|(refine RGo.g_callv ?_;first|refine RGo.k2 (h:=(hl ..)) (k:=?_))|refine RGo.go (h:=AT (((2*root+1+1:Nat):Int)) (by omega) (by omega) rfl rfl) (k:=?_)|refine RGo.go (h:=AT (((first+(2*root+1):Nat):Int)) (by omega) (by omega) rfl rfl) (k:=?_)|refine RGo.go (h:=AT (((first+(2*root+1)+1:Nat):Int)) (by omega) (by omega) rfl rfl) (k:=?_))|refine RK ?_|refine RGo.nil (by kernel_rfl) ?_);(repeat refine WF ?_);refine AWP.cond rfl (λhd=>?_) (λhd=>?_)
   ·have hd:(AB cf) u[first+(2*root+1)]! u[first+(2*root+1)+1]! =true:=by simpa[g,AB]using hd
    rw[hd,if_pos (by simp;omega)]at hfold;(repeat first|(refine AOps.gN ?_;first|refine AOps.p (AT (((2*root+2:Nat):Int)) (by omega) (by omega) rfl rfl) rfl ?_)|refine WK ?_|refine Ai λX=>?_|refine Ay λY=>?_);refine jn (2*root+2) ⟨by omega,by omega,?_⟩;split at hfold
    ·rename_i hx;rw[if_pos hx];exact hfold
    ·rename_i hx;rw[if_neg hx];first|exact hfold|(rw[dif_pos (by omega)]at hfold;exact hfold)
   ·have hd:(AB cf) u[first+(2*root+1)]! u[first+(2*root+1)+1]! =false:=by simpa[g,AB]using hd
    rw[hd,if_neg (by simp)]at hfold;(repeat first|refine WK ?_|refine Ai λX=>?_|refine Ay λY=>?_);exact jn (2*root+1) ⟨by omega,by omega,hfold⟩
  ·have hg:¬2*root+1+1<hi:=by have:=of_decide_eq_false g;omega
   rw[if_neg (by simp[hg])]at hfold;refine RU ?_;(repeat first|(refine RGo.gN ?_;first|refine RGo.go (h:=AT (((2*root+1+1:Nat):Int)) (by omega) (by omega) rfl rfl) (k:=?_))|(refine RGo.gQ ?_;first|refine RGo.go (h:=AT (((2*root+1+1:Nat):Int)) (by omega) (by omega) rfl rfl) (k:=?_))|refine RK ?_|refine RGo.nil (by kernel_rfl) ?_);(repeat refine WF ?_);refine AE rfl (by simp[g]) ?_;(repeat first|refine WK ?_|refine Ai λX=>?_|refine Ay λY=>?_);exact jn (2*root+1) ⟨by omega,by omega,hfold⟩
 ·rintro c ⟨hch,hrc,hfold⟩
  have h1:=AM AC (d:=u) (i:=first+root) (by omega);have h2:=AM AC (d:=u) (i:=first+c) (by omega);have hl:=hcf (u[first+root]!) (u[first+c]!);(repeat refine WF ?_);refine RU ?_;(repeat first|(refine RGo.gN ?_;first|(refine RGo.g_callv ?_;first|refine RGo.k2 (h:=(hl ..)) (k:=?_))|refine RGo.go (h:=AT (((first+root:Nat):Int)) (by omega) (by omega) rfl rfl) (k:=?_)|refine RGo.go (h:=AT (((first+c:Nat):Int)) (by omega) (by omega) rfl rfl) (k:=?_))|(refine RGo.gQ ?_;first|(refine RGo.g_callv ?_;first|refine RGo.k2 (h:=(hl ..)) (k:=?_))|refine RGo.go (h:=AT (((first+root:Nat):Int)) (by omega) (by omega) rfl rfl) (k:=?_)|refine RGo.go (h:=AT (((first+c:Nat):Int)) (by omega) (by omega) rfl rfl) (k:=?_))|refine RK ?_|refine RGo.nil (by kernel_rfl) ?_);(repeat refine WF ?_);refine AWP.cond rfl (λhd=>?_) (λhd=>?_)
  ·have hd:(!(AB cf) u[first+root]! u[first+c]!)=true:=by simpa[AB]using hd
   rw[if_pos hd]at hfold;subst hfold;refine RT ?_;exact Au [(X,.row 58 3 (u.toList.map AC))] ⟨rfl,rfl⟩
  ·have hd:(!(AB cf) u[first+root]! u[first+c]!)=false:=by simpa[AB]using hd
   rw[if_neg (by rw[hd];simp)]at hfold;obtain⟨y,hy⟩:=Av AC (d:=u) (i:=first+root) (j:=first+c) (by omega) u[first+c]!;(repeat refine WF ?_);refine RU ?_;(repeat first|(refine RGo.gN ?_;first|refine RGo.go (h:=AT (((first+root:Nat):Int)) (by omega) (by omega) rfl rfl) (k:=?_)|refine RGo.go (h:=AT (((first+c:Nat):Int)) (by omega) (by omega) rfl rfl) (k:=?_)|refine RGo.s (W.store rfl rfl (by exact At.f) hy (by exact rfl)) rfl ?_)|(refine RGo.gQ ?_;first|refine RGo.go (h:=AT (((first+root:Nat):Int)) (by omega) (by omega) rfl rfl) (k:=?_)|refine RGo.go (h:=AT (((first+c:Nat):Int)) (by omega) (by omega) rfl rfl) (k:=?_)|refine RGo.s (W.store rfl rfl (by exact At.f) hy (by exact rfl)) rfl ?_)|refine RK ?_|refine RGo.nil (by kernel_rfl) ?_);(repeat first|refine WK ?_|refine Ai λX=>?_|refine Ay λY=>?_);refine Ae c (swp u (first+root) (first+c)) ⟨by omega,by rw[size_swp];exact hu,hfold⟩ (h0:=by rw[<-BA AC (by omega) (by omega)];exact⟨by exact Lk.f,by exact Sub.f⟩)
set_option maxHeartbeats 1000000 in
theorem DA(lt:Mark->Mark->Bool)(hi first:Nat):∀(k root:Nat) (d:Array Mark),hi-root<=k->(siftDown lt hi first root d).size=d.size
 |0,root,d,h=>by rw[siftDown,dif_pos (by omega)]
 |k+1,root,d,h=>by
  rw[siftDown];split
  ·rfl
  ·split
   ·split
    ·rfl
    ·split
     ·rw[DA lt hi first k _ _ (by omega),size_swp]
     ·rfl
   ·split
    ·rfl
    ·rw[DA lt hi first k _ _ (by omega),size_swp]
theorem QB(f:FuncId)(cap:List AV)(cf:Mark->Mark->Int)(hst:Bd cap=true)(hcf:∀x y,PS Tryz.prog f (AC x::AC y::cap) (iA (cf x y)))(X n:Nat)(d:Array Mark)(a b:Nat)(hn:n=d.size)(hab:a<b)(hb:b<=d.size)(hz:d.size<=1099511627776):PO Tryz.prog 226 [.sl X 0 n,iA a,iA b,.fn f cap] X (.row 58 3 (d.toList.map AC)) (.tup []) (.row 58 3 ((heapSort (AB cf) d a b).toList.map AC)):=by
 obtain⟨r,hr⟩:∃r,heapSort (AB cf) d a b=r:=⟨_,rfl⟩;rw[hr];unfold heapSort at hr;obtain⟨m,hm⟩:∃m,b-a=m:=⟨_,rfl⟩;rw[hm]at hr;refine Spec.of (nt:=60) (res:=[]) Tryz.func226 rfl (by kernel_rfl) rfl rfl rfl λSf=>?_
 (repeat first|(refine AOps.gN ?_;first|refine AOps.p (AK ((m:Int)) (by omega) (by omega) rfl rfl) rfl ?_|refine AOps.p (AK (((m-1:Nat):Int)) (by omega) (by omega) rfl rfl) rfl ?_|refine AOps.p (EW (m-1) 2 ((m-1)/2) rfl rfl (by omega) rfl (by omega) rfl rfl) rfl ?_)|refine WK ?_|refine Ai λX=>?_|refine Ay λY=>?_);refine BH (λ(k:Nat) (u:Array Mark)=>⟨[(0,.sl X 0 n),(3,.fn f cap),(8,iA a),(9,iA 0),(10,iA m),(11,iA ((k:Int)-1))],(X,.row 58 3 (u.toList.map AC))::Sf⟩) (λk u=>k<=m/\u.size=d.size/\heapPop (AB cf) a m (heapBuild (AB cf) m a k u)=r) (λk _=>k) ((m-1)/2+1) d ⟨by omega,rfl,hr⟩ ?_ (h0:=by rw[show((((m-1)/2+1:Nat):Int)-1)=(((m-1)/2:Nat):Int) by omega];exact⟨by exact Lk.f,by exact Sub.f⟩);rintro k u ⟨hk,hu,hfold⟩;(repeat first|refine WK ?_|refine Ai λX=>?_|refine Ay λY=>?_);refine AWP.cond rfl (λhc=>?_) (λhc=>?_)
 ·obtain⟨q,rfl⟩:∃q,k=q+1:=⟨k-1,by have:=of_decide_eq_true hc;omega⟩
  rw[heapBuild]at hfold;have hs:=LN f cap cf hst hcf X n u q m a (by omega) (by omega) (by omega) (by omega);have hsz:=DA (AB cf) m a _ q u (Nat.le_refl _);rw[show(((q+1:Nat):Int)-1)=(q:Int) by omega];(repeat first|(refine AOps.gN ?_;first|(refine AOps.g_callf ?_;first|refine Do (h:=(hs ..)) (k:=?_))|refine AOps.p (AK ((q:Int)-1) (by omega) (by omega) rfl rfl) rfl ?_)|refine WK ?_|refine Ai λX=>?_|refine Ay λY=>?_);exact Ae q (siftDown (AB cf) m a q u) ⟨by omega,by omega,hfold⟩
 ·obtain rfl:k=0:=by have:=of_decide_eq_false hc;omega
  rw[heapBuild]at hfold;(repeat first|(refine AOps.gN ?_;first|refine AOps.p (AK ((m:Int)-1) (by omega) (by omega) rfl rfl) rfl ?_)|refine WK ?_|refine Ai λX=>?_|refine Ay λY=>?_);clear hc hk;refine BH (λ(k:Nat) (u:Array Mark)=>⟨[(0,.sl X 0 n),(3,.fn f cap),(8,iA a),(9,iA 0),(10,iA m),(12,iA ((k:Int)-1))],(X,.row 58 3 (u.toList.map AC))::Sf⟩) (λk u=>k<=m/\u.size=d.size/\heapPop (AB cf) a k u=r) (λk _=>k) m u ⟨by omega,hu,hfold⟩ ?_;clear hfold hu;rintro k u ⟨hk,hu,hfold⟩;(repeat first|refine WK ?_|refine Ai λX=>?_|refine Ay λY=>?_);refine AWP.cond rfl (λhc=>?_) (λhc=>?_)
  ·obtain⟨q,rfl⟩:∃q,k=q+1:=⟨k-1,by have:=of_decide_eq_true hc;omega⟩
   rw[heapPop]at hfold;have h1:=AM AC (d:=u) (i:=a) (by omega);have h2:=AM AC (d:=u) (i:=a+q) (by omega);have hs:=LN f cap cf hst hcf X n (swp u a (a+q)) 0 q a (by rw[size_swp];omega) (by rw[size_swp];omega) (by omega) (by rw[size_swp];omega);have hsz:=DA (AB cf) q a _ 0 (swp u a (a+q)) (Nat.le_refl _);rw[size_swp]at hsz;rw[show(((q+1:Nat):Int)-1)=(q:Int) by omega];obtain⟨y,hy⟩:=Av AC (d:=u) (i:=a) (j:=a+q) (by omega) u[a+q]!;have hrow:=BA AC (d:=u) (i:=a) (j:=a+q) (by omega) (by omega);(repeat refine WF ?_);refine RU ?_;(repeat first|(refine RGo.gN ?_;first|refine RGo.go (h:=AT (((a+q:Nat):Int)) (by omega) (by omega) rfl rfl) (k:=?_)|refine RGo.s (W.store rfl rfl (by exact At.f) hy (by exact rfl)) rfl ?_)|(refine RGo.gQ ?_;first|refine RGo.go (h:=AT (((a+q:Nat):Int)) (by omega) (by omega) rfl rfl) (k:=?_)|refine RGo.s (W.store rfl rfl (by exact At.f) hy (by exact rfl)) rfl ?_)|refine RK ?_|refine RGo.nil (by kernel_rfl) ?_);refine FN [(0,.sl X 0 n),(3,.fn f cap),(8,iA a),(9,iA 0),(10,iA m),(12,iA q)] ((X,.row 58 3 ((swp u a (a+q)).toList.map AC))::Sf) ?_ (h:=by rw[<-hrow];exact⟨by exact Lk.f,by exact Sub.f⟩);(repeat first|(refine AOps.gN ?_;first|(refine AOps.g_callf ?_;first|refine Do (h:=(hs ..)) (k:=?_))|refine AOps.p (AK ((q:Int)-1) (by omega) (by omega) rfl rfl) rfl ?_)|refine WK ?_|refine Ai λX=>?_|refine Ay λY=>?_);exact Ae q (siftDown (AB cf) q a 0 (swp u a (a+q))) ⟨by omega,by omega,hfold⟩
  ·obtain rfl:k=0:=by have:=of_decide_eq_false hc;omega
   rw[heapPop]at hfold;subst hfold;(repeat first|refine WK ?_|refine Ai λX=>?_|refine Ay λY=>?_);refine CT ?_;exact Au [(X,.row 58 3 (u.toList.map AC))] ⟨rfl,rfl⟩
set_option maxHeartbeats 1000000 in
theorem Q7{f:FuncId}{cap:List AV}(X n:Nat)(d:Array Mark)(a b:Nat)(hn:n=d.size)(hab:a<b)(hb:b<=d.size)(hz:d.size<=1099511627776):PO Tryz.prog 229 [.sl X 0 n,iA a,iA b,.fn f cap] X (.row 58 3 (d.toList.map AC)) (.tup []) (.row 58 3 ((reverseRange d a b).toList.map AC)):=by
 obtain⟨r,hr⟩:∃r,reverseRange d a b=r:=⟨_,rfl⟩;rw[hr];unfold reverseRange at hr;refine Spec.of (nt:=34) (res:=[]) Tryz.func229 rfl (by kernel_rfl) rfl rfl rfl λSf=>?_
 (repeat first|(refine AOps.gN ?_;first|refine AOps.p (AK (((b-1:Nat):Int)) (by omega) (by omega) rfl rfl) rfl ?_)|refine WK ?_|refine Ai λX=>?_|refine Ay λY=>?_);refine CB (λ(i j:Nat) (u:Array Mark)=>⟨[(0,.sl X 0 n),(8,iA i),(9,iA j)],(X,.row 58 3 (u.toList.map AC))::Sf⟩) (λi j u=>i<=d.size/\j<d.size/\u.size=d.size/\reverseLoop i j u=r) (λi j _=>j-i) a (b-1) d ⟨by omega,by omega,rfl,hr⟩ ?_;rintro i j u ⟨hi,hj,hu,hfold⟩;rw[reverseLoop]at hfold;(repeat first|refine WK ?_|refine Ai λX=>?_|refine Ay λY=>?_);refine AWP.cond rfl (λhc=>?_) (λhc=>?_)
 ·have h:i<j:=by have:=of_decide_eq_true hc;omega
  rw[if_pos h]at hfold;have h1:=AM AC (d:=u) (i:=i) (by omega);have h2:=AM AC (d:=u) (i:=j) (by omega);obtain⟨y,hy⟩:=Av AC (d:=u) (i:=i) (j:=j) (by omega) u[j]!;(repeat refine WF ?_);refine RU ?_;(repeat first|(refine RGo.gN ?_;first|refine RGo.s (W.store rfl rfl (by exact At.f) hy (by exact rfl)) rfl ?_)|(refine RGo.gQ ?_;first|refine RGo.s (W.store rfl rfl (by exact At.f) hy (by exact rfl)) rfl ?_)|refine RK ?_|refine RGo.nil (by kernel_rfl) ?_);(repeat first|(refine AOps.gN ?_;first|refine AOps.p (AK (((j-1:Nat):Int)) (by omega) (by omega) rfl rfl) rfl ?_)|refine WK ?_|refine Ai λX=>?_|refine Ay λY=>?_);refine BR (i+1) (j-1) (swp u i j) ⟨by omega,by omega,by rw[size_swp];exact hu,hfold⟩ (h0:=by rw[<-BA AC (by omega) (by omega)];exact⟨by exact Lk.f,by exact Sub.f⟩)
 ·have h:¬i<j:=by have:=of_decide_eq_false hc;omega
  rw[if_neg h]at hfold;subst hfold;(repeat first|refine WK ?_|refine Ai λX=>?_|refine Ay λY=>?_);refine CT ?_;exact Au [(X,.row 58 3 (u.toList.map AC))] ⟨rfl,rfl⟩
end
section
open Go.Sort
set_option maxHeartbeats 1000000 in
theorem Fx(p:Mark->Bool)(d:Array Mark)(j i:Nat):scanUp p d j i<=max i (j+1):=by
 obtain⟨m,hm⟩:∃m,j+1-i=m:=⟨_,rfl⟩
 induction m generalizing i with
 |zero=>rw[scanUp,if_neg (λe=>by rw[Bool.and_eq_true]at e;have:=of_decide_eq_true e.1;omega)];omega
 |succ m ih=>
  rw[scanUp];split
  ·have:=ih (i+1) (by omega)
   omega
  ·omega
theorem RH(f:FuncId)(cap:List AV)(cf:Mark->Mark->Int)(hst:Bd cap=true)(hcf:∀x y,PS Tryz.prog f (AC x::AC y::cap) (iA (cf x y)))(X n:Nat)(d:Array Mark)(a b pivot:Nat)(hn:n=d.size)(ha:a<=pivot)(hp:pivot<b)(hb:b<=d.size)(hz:d.size<=1099511627776):PO Tryz.prog 231 [.sl X 0 n,iA a,iA b,iA pivot,.fn f cap] X (.row 58 3 (d.toList.map AC)) (iA (partitionEqual (AB cf) d a b pivot).1) (.row 58 3 ((partitionEqual (AB cf) d a b pivot).2.toList.map AC)):=by
 obtain⟨r,hr⟩:∃r,partitionEqual (AB cf) d a b pivot=r:=⟨_,rfl⟩;rw[hr];unfold partitionEqual at hr;refine Spec.of (nt:=90) (res:=[.tmp 10]) Tryz.func231 rfl (by kernel_rfl) rfl rfl rfl λSf=>?_
 have h1:=AM AC (d:=d) (i:=a) (by omega);have h2:=AM AC (d:=d) (i:=pivot) (by omega);obtain⟨y,hy⟩:=Av AC (d:=d) (i:=a) (j:=pivot) (by omega) d[pivot]!;refine RG ?_;(repeat first|refine WO ?_|refine Ai λX=>?_|refine Ay λY=>?_);refine NL ?_;refine RU ?_;(repeat first|(refine RGo.gN ?_;first|refine RGo.s (W.store rfl rfl (by exact At.f) hy (by exact rfl)) rfl ?_)|(refine RGo.gQ ?_;first|refine RGo.s (W.store rfl rfl (by exact At.f) hy (by exact rfl)) rfl ?_)|refine RK ?_|refine RGo.nil (by kernel_rfl) ?_);(repeat first|(refine AOps.gN ?_;first|refine AOps.p (AK (((b-1:Nat):Int)) (by omega) (by omega) rfl rfl) rfl ?_)|refine WK ?_|refine Ai λX=>?_|refine Ay λY=>?_);refine CB (λ(i j:Nat) (u:Array Mark)=>⟨[(0,.sl X 0 n),(1,iA a),(4,.fn f cap),(11,iA i),(12,iA j)],(X,.row 58 3 (u.toList.map AC))::Sf⟩) (λi j u=>a<i/\i<=j+2/\j<b/\u.size=d.size/\partEqLoop (AB cf) a i j u=r) (λi j _=>j+1-i) (a+1) (b-1) (swp d a pivot) ⟨by omega,by omega,by omega,by rw[size_swp],hr⟩ ?_ (h0:=by rw[<-BA AC (by omega) (by omega)];exact⟨by exact Lk.f,by exact Sub.f⟩);rintro i j u ⟨hai,hij,hjb,hu,hfold⟩;rw[partEqLoop_eq]at hfold;obtain⟨i2,hi2⟩:∃i2,scanUp (λx=>!(AB cf) u[a]! x) u j i=i2:=⟨_,rfl⟩;rw[hi2]at hfold;obtain⟨j2,hj2⟩:∃j2,scanDown (λx=>(AB cf) u[a]! x) u i2 j=j2:=⟨_,rfl⟩;rw[hj2]at hfold;have hge:=scanUp_ge (λx=>!(AB cf) u[a]! x) u j i;have hle:=scanDown_le (λx=>(AB cf) u[a]! x) u i2 j;rw[hi2]at hge;rw[hj2]at hle;have hge2:i2<=max i (j+1):=by rw[<-hi2];exact Fx _ _ _ _
 refine AWP.block ?_
 (repeat (first|refine AWP.skip ?_|refine Az ?_|refine AWP.seq ?_))
 refine Ag (λk:Nat=>k=i2) (λk=>⟨[(0,.sl X 0 n),(1,iA a),(4,.fn f cap),(11,iA k),(12,iA j)],(X,.row 58 3 (u.toList.map AC))::Sf⟩) ?_ ?_
 ·refine AWP.block ?_
  refine BN (λ(k:Nat)=>⟨[(0,.sl X 0 n),(1,iA a),(4,.fn f cap),(11,iA k),(12,iA j)],(X,.row 58 3 (u.toList.map AC))::Sf⟩) (λk=>i<=k/\k<=max i (j+1)/\scanUp (λx=>!(AB cf) u[a]! x) u j k=i2) (λk=>j+1-k) i ⟨Nat.le_refl _,by omega,hi2⟩ ?_;rintro k ⟨hk1,hk2,hk⟩;rw[scanUp]at hk;rcases Bool.eq_false_or_eq_true (decide ((k:Int)<=(j:Int)))with g|g
  ·have hg:k<=j:=by have:=of_decide_eq_true g;omega
   have h1:=AM AC (d:=u) (i:=k) (by omega);have h2:=AM AC (d:=u) (i:=a) (by omega);have hl:=hcf (u[a]!) (u[k]!);(repeat refine WF ?_);refine RU ?_;(repeat first|(refine RGo.gN ?_;first|(refine RGo.g_callv ?_;first|refine RGo.k2 (h:=(hl ..)) (k:=?_)))|(refine RGo.gQ ?_;first|(refine RGo.g_callv ?_;first|refine RGo.k2 (h:=(hl ..)) (k:=?_)))|refine RK ?_|refine RGo.nil (by kernel_rfl) ?_);(repeat refine WF ?_);refine AWP.cond rfl (λhd=>?_) (λhd=>?_)
   ·have hd:(!(AB cf) u[a]! u[k]!)=true:=by simpa[g,AB]using hd
    rw[if_pos (by rw[Bool.and_eq_true];exact⟨decide_eq_true (by omega),hd⟩)]at hk;(repeat first|refine WK ?_|refine Ai λX=>?_|refine Ay λY=>?_);exact A4 (k+1) ⟨by omega,by omega,hk⟩
   ·have hd:(!(AB cf) u[a]! u[k]!)=false:=by simpa[g,AB]using hd
    rw[if_neg (λe=>by rw[Bool.and_eq_true]at e;have e2:=e.2;rw[hd]at e2;cases e2)]at hk;(repeat first|refine WK ?_|refine Ai λX=>?_|refine Ay λY=>?_);exact jn k hk
  ·have hg:¬k<=j:=by have:=of_decide_eq_false g;omega
   rw[if_neg (λe=>by rw[Bool.and_eq_true]at e;have:=of_decide_eq_true e.1;omega)]at hk;(repeat refine WF ?_);refine RU ?_;(repeat first|refine RK ?_|refine RGo.nil (by kernel_rfl) ?_);(repeat refine WF ?_);refine AE rfl (by simp[g]) ?_;(repeat first|refine WK ?_|refine Ai λX=>?_|refine Ay λY=>?_);exact jn k hk
 rintro k hk0;rw[hk0];clear hk0 k
 (repeat (first|refine AWP.skip ?_|refine Az ?_|refine AWP.seq ?_))
 refine Ag (λk:Nat=>k=j2) (λk=>⟨[(0,.sl X 0 n),(1,iA a),(4,.fn f cap),(11,iA i2),(12,iA k)],(X,.row 58 3 (u.toList.map AC))::Sf⟩) ?_ ?_
 ·refine AWP.block ?_
  refine BN (λ(k:Nat)=>⟨[(0,.sl X 0 n),(1,iA a),(4,.fn f cap),(11,iA i2),(12,iA k)],(X,.row 58 3 (u.toList.map AC))::Sf⟩) (λk=>k<=j/\scanDown (λx=>(AB cf) u[a]! x) u i2 k=j2) (λk=>k) j ⟨Nat.le_refl _,hj2⟩ ?_;rintro k ⟨hk1,hk⟩;rcases Bool.eq_false_or_eq_true (decide ((i2:Int)<=(k:Int)))with g|g
  ·have hg:i2<=k:=by have:=of_decide_eq_true g;omega
   obtain⟨q,rfl⟩:∃q,k=q+1:=⟨k-1,by omega⟩;rw[scanDown]at hk;have h1:=AM AC (d:=u) (i:=q+1) (by omega);have h2:=AM AC (d:=u) (i:=a) (by omega);have hl:=hcf (u[a]!) (u[q+1]!);(repeat refine WF ?_);refine RU ?_;(repeat first|(refine RGo.gN ?_;first|(refine RGo.g_callv ?_;first|refine RGo.k2 (h:=(hl ..)) (k:=?_)))|(refine RGo.gQ ?_;first|(refine RGo.g_callv ?_;first|refine RGo.k2 (h:=(hl ..)) (k:=?_)))|refine RK ?_|refine RGo.nil (by kernel_rfl) ?_);(repeat refine WF ?_);refine AWP.cond rfl (λhd=>?_) (λhd=>?_)
   ·have hd:((AB cf) u[a]! u[q+1]!)=true:=by simpa[g,AB]using hd
    rw[if_pos (by rw[Bool.and_eq_true];exact⟨decide_eq_true (by omega),hd⟩)]at hk;(repeat first|(refine AOps.gN ?_;first|refine AOps.p (AK ((q:Int)) (by omega) (by omega) rfl rfl) rfl ?_)|refine WK ?_|refine Ai λX=>?_|refine Ay λY=>?_);exact A4 q ⟨by omega,hk⟩
   ·have hd:((AB cf) u[a]! u[q+1]!)=false:=by simpa[g,AB]using hd
    rw[if_neg (λe=>by rw[Bool.and_eq_true]at e;have e2:=e.2;rw[hd]at e2;cases e2)]at hk;(repeat first|refine WK ?_|refine Ai λX=>?_|refine Ay λY=>?_);exact jn (q+1) hk
  ·have hg:¬i2<=k:=by have:=of_decide_eq_false g;omega
   have hk3:scanDown (λx=>(AB cf) u[a]! x) u i2 k=k:=by
    cases k with
    |zero=>rfl
    |succ q=>rw[scanDown,if_neg (λe=>by rw[Bool.and_eq_true]at e;have:=of_decide_eq_true e.1;omega)]
   rw[hk3]at hk;(repeat refine WF ?_);refine RU ?_;(repeat first|refine RK ?_|refine RGo.nil (by kernel_rfl) ?_);(repeat refine WF ?_);refine AE rfl (by simp[g]) ?_;(repeat first|refine WK ?_|refine Ai λX=>?_|refine Ay λY=>?_);exact jn k hk
 rintro k hk0;rw[hk0];clear hk0 k;(repeat first|refine WK ?_|refine Ai λX=>?_|refine Ay λY=>?_);refine AWP.cond rfl (λhc=>?_) (λhc=>?_)
 ·have h:i2>j2:=by have:=of_decide_eq_true hc;omega
  rw[if_pos h]at hfold;subst hfold;(repeat first|refine WK ?_|refine Ai λX=>?_|refine Ay λY=>?_);refine RT ?_;exact AQ [iA i2] [(X,_)] ⟨rfl,rfl⟩
 ·have h:¬i2>j2:=by have:=of_decide_eq_false hc;omega
  rw[if_neg h]at hfold;have h1:=AM AC (d:=u) (i:=i2) (by omega);have h2:=AM AC (d:=u) (i:=j2) (by omega);obtain⟨y,hy⟩:=Av AC (d:=u) (i:=i2) (j:=j2) (by omega) u[j2]!;(repeat refine WF ?_);refine RU ?_;(repeat first|(refine RGo.gN ?_;first|refine RGo.s (W.store rfl rfl (by exact At.f) hy (by exact rfl)) rfl ?_)|(refine RGo.gQ ?_;first|refine RGo.s (W.store rfl rfl (by exact At.f) hy (by exact rfl)) rfl ?_)|refine RK ?_|refine RGo.nil (by kernel_rfl) ?_);(repeat first|(refine AOps.gN ?_;first|refine AOps.p (AK (((j2-1:Nat):Int)) (by omega) (by omega) rfl rfl) rfl ?_)|refine WK ?_|refine Ai λX=>?_|refine Ay λY=>?_);refine BR (i2+1) (j2-1) (swp u i2 j2) ⟨by omega,by omega,by omega,by rw[size_swp];exact hu,hfold⟩ (h0:=by rw[<-BA AC (by omega) (by omega)];exact⟨by exact Lk.f,by exact Sub.f⟩)
set_option maxHeartbeats 1000000 in
theorem Pi(f:FuncId)(cap:List AV)(cf:Mark->Mark->Int)(hst:Bd cap=true)(hcf:∀x y,PS Tryz.prog f (AC x::AC y::cap) (iA (cf x y)))(X n:Nat)(d:Array Mark)(a b pivot:Nat)(hn:n=d.size)(ha:a<=pivot)(hp:pivot<b)(hb:b<=d.size)(hz:d.size<=1099511627776):PO Tryz.prog 232 [.sl X 0 n,iA a,iA b,iA pivot,.fn f cap] X (.row 58 3 (d.toList.map AC)) (.tup [iA (partition (AB cf) d a b pivot).1,bA (partition (AB cf) d a b pivot).2.1]) (.row 58 3 ((partition (AB cf) d a b pivot).2.2.toList.map AC)):=by
 obtain⟨r,hr⟩:∃r,partition (AB cf) d a b pivot=r:=⟨_,rfl⟩;rw[hr];dsimp only[partition]at hr;refine Spec.of (nt:=178) (res:=[.tmp 10,.tmp 11]) Tryz.func232 rfl (by kernel_rfl) rfl rfl rfl λSf=>?_
 have h1:=AM AC (d:=d) (i:=a) (by omega);have h2:=AM AC (d:=d) (i:=pivot) (by omega);have hrow:=BA AC (d:=d) (i:=a) (j:=pivot) (by omega) (by omega);obtain⟨y,hy⟩:=Av AC (d:=d) (i:=a) (j:=pivot) (by omega) d[pivot]!;refine RG ?_;(repeat first|refine WO ?_|refine Ai λX=>?_|refine Ay λY=>?_);refine NL ?_;refine RU ?_;(repeat first|(refine RGo.gN ?_;first|refine RGo.s (W.store rfl rfl (by exact At.f) hy (by exact rfl)) rfl ?_)|(refine RGo.gQ ?_;first|refine RGo.s (W.store rfl rfl (by exact At.f) hy (by exact rfl)) rfl ?_)|refine RK ?_|refine RGo.nil (by kernel_rfl) ?_);have hsz:(swp d a pivot).size=d.size:=size_swp _ _ _;obtain⟨u,hu0⟩:∃u,swp d a pivot=u:=⟨_,rfl⟩;rw[hu0]at hr hrow hsz;obtain⟨j,hj⟩:∃j,b-1=j:=⟨_,rfl⟩;obtain⟨i,hi⟩:∃i,a+1=i:=⟨_,rfl⟩;rw[hj,hi]at hr;refine RG ?_;(repeat first|(refine AOps.gN ?_;first|refine AOps.p (AK ((j:Int)) (by omega) (by omega) rfl rfl) rfl ?_|refine AOps.p (AT (((i:Nat):Int)) (by omega) (by omega) rfl rfl) rfl ?_)|refine WO ?_|refine Ai λX=>?_|refine Ay λY=>?_);refine NL ?_
 (repeat (first|refine AWP.skip ?_|refine Az ?_|refine AWP.seq ?_))
 refine FN [(0,.sl X 0 n),(1,iA a),(4,.fn f cap),(12,iA i),(13,iA j)] ((X,.row 58 3 (u.toList.map AC))::Sf) ?_ (h:=by rw[<-hrow];exact⟨by exact Lk.f,by exact Sub.f⟩);have hu:u.size=d.size:=hsz;have hfold:=hr;obtain⟨i2,hi2⟩:∃i2,scanUp (λx=>(AB cf) x u[a]!) u j i=i2:=⟨_,rfl⟩;rw[hi2]at hfold;obtain⟨j2,hj2⟩:∃j2,scanDown (λx=>!(AB cf) x u[a]!) u i2 j=j2:=⟨_,rfl⟩;rw[hj2]at hfold;have hge:=scanUp_ge (λx=>(AB cf) x u[a]!) u j i;have hle:=scanDown_le (λx=>!(AB cf) x u[a]!) u i2 j;rw[hi2]at hge;rw[hj2]at hle;have hge2:i2<=max i (j+1):=by rw[<-hi2];exact Fx _ _ _ _
 refine Ag (λk:Nat=>k=i2) (λk=>⟨[(0,.sl X 0 n),(1,iA a),(4,.fn f cap),(12,iA k),(13,iA j)],(X,.row 58 3 (u.toList.map AC))::Sf⟩) ?_ ?_
 ·refine AWP.block ?_
  refine BN (λ(k:Nat)=>⟨[(0,.sl X 0 n),(1,iA a),(4,.fn f cap),(12,iA k),(13,iA j)],(X,.row 58 3 (u.toList.map AC))::Sf⟩) (λk=>i<=k/\k<=max i (j+1)/\scanUp (λx=>(AB cf) x u[a]!) u j k=i2) (λk=>j+1-k) i ⟨Nat.le_refl _,by omega,hi2⟩ ?_;rintro k ⟨hk1,hk2,hk⟩;rw[scanUp]at hk;rcases Bool.eq_false_or_eq_true (decide ((k:Int)<=(j:Int)))with g|g
  ·have hg:k<=j:=by have:=of_decide_eq_true g;omega
   have h1:=AM AC (d:=u) (i:=k) (by omega);have h2:=AM AC (d:=u) (i:=a) (by omega);have hl:=hcf (u[k]!) (u[a]!);(repeat refine WF ?_);refine RU ?_;(repeat first|(refine RGo.gN ?_;first|(refine RGo.g_callv ?_;first|refine RGo.k2 (h:=(hl ..)) (k:=?_)))|(refine RGo.gQ ?_;first|(refine RGo.g_callv ?_;first|refine RGo.k2 (h:=(hl ..)) (k:=?_)))|refine RK ?_|refine RGo.nil (by kernel_rfl) ?_);(repeat refine WF ?_);refine AWP.cond rfl (λhd=>?_) (λhd=>?_)
   ·have hd:((AB cf) u[k]! u[a]!)=true:=by simpa[g,AB]using hd
    rw[if_pos (by rw[Bool.and_eq_true];exact⟨decide_eq_true (by omega),hd⟩)]at hk;(repeat first|refine WK ?_|refine Ai λX=>?_|refine Ay λY=>?_);exact A4 (k+1) ⟨by omega,by omega,hk⟩
   ·have hd:((AB cf) u[k]! u[a]!)=false:=by simpa[g,AB]using hd
    rw[if_neg (λe=>by rw[Bool.and_eq_true]at e;have e2:=e.2;rw[hd]at e2;cases e2)]at hk;(repeat first|refine WK ?_|refine Ai λX=>?_|refine Ay λY=>?_);exact jn k hk
  ·have hg:¬k<=j:=by have:=of_decide_eq_false g;omega
   rw[if_neg (λe=>by rw[Bool.and_eq_true]at e;have:=of_decide_eq_true e.1;omega)]at hk;(repeat refine WF ?_);refine RU ?_;(repeat first|refine RK ?_|refine RGo.nil (by kernel_rfl) ?_);(repeat refine WF ?_);refine AE rfl (by simp[g]) ?_;(repeat first|refine WK ?_|refine Ai λX=>?_|refine Ay λY=>?_);exact jn k hk
 rintro k hk0;rw[hk0];clear hk0 k
 (repeat (first|refine AWP.skip ?_|refine Az ?_|refine AWP.seq ?_))
 refine Ag (λk:Nat=>k=j2) (λk=>⟨[(0,.sl X 0 n),(1,iA a),(4,.fn f cap),(12,iA i2),(13,iA k)],(X,.row 58 3 (u.toList.map AC))::Sf⟩) ?_ ?_
 ·refine AWP.block ?_
  refine BN (λ(k:Nat)=>⟨[(0,.sl X 0 n),(1,iA a),(4,.fn f cap),(12,iA i2),(13,iA k)],(X,.row 58 3 (u.toList.map AC))::Sf⟩) (λk=>k<=j/\scanDown (λx=>!(AB cf) x u[a]!) u i2 k=j2) (λk=>k) j ⟨Nat.le_refl _,hj2⟩ ?_;rintro k ⟨hk1,hk⟩;rcases Bool.eq_false_or_eq_true (decide ((i2:Int)<=(k:Int)))with g|g
  ·have hg:i2<=k:=by have:=of_decide_eq_true g;omega
   obtain⟨q,rfl⟩:∃q,k=q+1:=⟨k-1,by omega⟩;rw[scanDown]at hk;have h1:=AM AC (d:=u) (i:=q+1) (by omega);have h2:=AM AC (d:=u) (i:=a) (by omega);have hl:=hcf (u[q+1]!) (u[a]!);(repeat refine WF ?_);refine RU ?_;(repeat first|(refine RGo.gN ?_;first|(refine RGo.g_callv ?_;first|refine RGo.k2 (h:=(hl ..)) (k:=?_)))|(refine RGo.gQ ?_;first|(refine RGo.g_callv ?_;first|refine RGo.k2 (h:=(hl ..)) (k:=?_)))|refine RK ?_|refine RGo.nil (by kernel_rfl) ?_);(repeat refine WF ?_);refine AWP.cond rfl (λhd=>?_) (λhd=>?_)
   ·have hd:(!(AB cf) u[q+1]! u[a]!)=true:=by simpa[g,AB]using hd
    rw[if_pos (by rw[Bool.and_eq_true];exact⟨decide_eq_true (by omega),hd⟩)]at hk;(repeat first|(refine AOps.gN ?_;first|refine AOps.p (AK ((q:Int)) (by omega) (by omega) rfl rfl) rfl ?_)|refine WK ?_|refine Ai λX=>?_|refine Ay λY=>?_);exact A4 q ⟨by omega,hk⟩
   ·have hd:(!(AB cf) u[q+1]! u[a]!)=false:=by simpa[g,AB]using hd
    rw[if_neg (λe=>by rw[Bool.and_eq_true]at e;have e2:=e.2;rw[hd]at e2;cases e2)]at hk;(repeat first|refine WK ?_|refine Ai λX=>?_|refine Ay λY=>?_);exact jn (q+1) hk
  ·have hg:¬i2<=k:=by have:=of_decide_eq_false g;omega
   have hk3:scanDown (λx=>!(AB cf) x u[a]!) u i2 k=k:=by
    cases k with
    |zero=>rfl
    |succ q=>rw[scanDown,if_neg (λe=>by rw[Bool.and_eq_true]at e;have:=of_decide_eq_true e.1;omega)]
   rw[hk3]at hk;(repeat refine WF ?_);refine RU ?_;(repeat first|refine RK ?_|refine RGo.nil (by kernel_rfl) ?_);(repeat refine WF ?_);refine AE rfl (by simp[g]) ?_;(repeat first|refine WK ?_|refine Ai λX=>?_|refine Ay λY=>?_);exact jn k hk
 rintro k hk0;rw[hk0];clear hk0 k;(repeat first|refine WK ?_|refine Ai λX=>?_|refine Ay λY=>?_);refine AWP.cond rfl (λhc=>?_) (λhc=>?_)
 ·have h:i2>j2:=by have:=of_decide_eq_true hc;omega
  rw[if_pos h]at hfold;subst hfold;have h1:=AM AC (d:=u) (i:=j2) (by omega);have h2:=AM AC (d:=u) (i:=a) (by omega);have hrow2:=BA AC (d:=u) (i:=j2) (j:=a) (by omega) (by omega);obtain⟨y,hy⟩:=Av AC (d:=u) (i:=j2) (j:=a) (by omega) u[a]!;(repeat refine WF ?_);refine RU ?_;(repeat first|(refine RGo.gN ?_;first|refine RGo.s (W.store rfl rfl (by exact At.f) hy (by exact rfl)) rfl ?_)|(refine RGo.gQ ?_;first|refine RGo.s (W.store rfl rfl (by exact At.f) hy (by exact rfl)) rfl ?_)|refine RK ?_|refine RGo.nil (by kernel_rfl) ?_);(repeat first|refine WK ?_|refine Ai λX=>?_|refine Ay λY=>?_);refine RT ?_;exact AQ [iA j2,bA true] [(X,_)] ⟨rfl,by rw[<-hrow2]⟩
 have h:¬i2>j2:=by have:=of_decide_eq_false hc;omega
 rw[if_neg h]at hfold;obtain⟨pr,hpr⟩:∃pr,partLoop (AB cf) a (i2+1) (j2-1) (swp u i2 j2)=pr:=⟨_,rfl⟩;rw[hpr]at hfold;have h1:=AM AC (d:=u) (i:=i2) (by omega);have h2:=AM AC (d:=u) (i:=j2) (by omega);clear y hy;obtain⟨y,hy⟩:=Av AC (d:=u) (i:=i2) (j:=j2) (by omega) u[j2]!;(repeat refine WF ?_);refine RU ?_;(repeat first|(refine RGo.gN ?_;first|refine RGo.s (W.store rfl rfl (by exact At.f) hy (by exact rfl)) rfl ?_)|(refine RGo.gQ ?_;first|refine RGo.s (W.store rfl rfl (by exact At.f) hy (by exact rfl)) rfl ?_)|refine RK ?_|refine RGo.nil (by kernel_rfl) ?_);(repeat first|(refine AOps.gN ?_;first|refine AOps.p (AK (((j2-1:Nat):Int)) (by omega) (by omega) rfl rfl) rfl ?_)|refine WK ?_|refine Ai λX=>?_|refine Ay λY=>?_);refine CB (λ(i j:Nat) (u:Array Mark)=>⟨[(0,.sl X 0 n),(1,iA a),(4,.fn f cap),(12,iA i),(13,iA j)],(X,.row 58 3 (u.toList.map AC))::Sf⟩) (λi j u=>a<i/\i<=j+2/\j<b/\u.size=d.size/\partLoop (AB cf) a i j u=pr) (λi j _=>j+1-i) (i2+1) (j2-1) (swp u i2 j2) ⟨by omega,by omega,by omega,by rw[size_swp];exact hu,hpr⟩ ?_ (h0:=by rw[<-BA AC (by omega) (by omega)];exact⟨by exact Lk.f,by exact Sub.f⟩);subst hfold;clear hc h h1 h2 hpr hi2 hj2 hge hle hge2 hr hrow hu0 hu hsz hi hj hy y i2 j2 i j u;rintro i j u ⟨hai,hij,hjb,hu,hfold⟩;rw[partLoop_eq]at hfold;obtain⟨i2,hi2⟩:∃i2,scanUp (λx=>(AB cf) x u[a]!) u j i=i2:=⟨_,rfl⟩;rw[hi2]at hfold;obtain⟨j2,hj2⟩:∃j2,scanDown (λx=>!(AB cf) x u[a]!) u i2 j=j2:=⟨_,rfl⟩;rw[hj2]at hfold;have hge:=scanUp_ge (λx=>(AB cf) x u[a]!) u j i;have hle:=scanDown_le (λx=>!(AB cf) x u[a]!) u i2 j;rw[hi2]at hge;rw[hj2]at hle;have hge2:i2<=max i (j+1):=by rw[<-hi2];exact Fx _ _ _ _
 refine AWP.block ?_
 (repeat (first|refine AWP.skip ?_|refine Az ?_|refine AWP.seq ?_))
 refine Ag (λk:Nat=>k=i2) (λk=>⟨[(0,.sl X 0 n),(1,iA a),(4,.fn f cap),(12,iA k),(13,iA j)],(X,.row 58 3 (u.toList.map AC))::Sf⟩) ?_ ?_
 ·refine AWP.block ?_
  refine BN (λ(k:Nat)=>⟨[(0,.sl X 0 n),(1,iA a),(4,.fn f cap),(12,iA k),(13,iA j)],(X,.row 58 3 (u.toList.map AC))::Sf⟩) (λk=>i<=k/\k<=max i (j+1)/\scanUp (λx=>(AB cf) x u[a]!) u j k=i2) (λk=>j+1-k) i ⟨Nat.le_refl _,by omega,hi2⟩ ?_;rintro k ⟨hk1,hk2,hk⟩;rw[scanUp]at hk;rcases Bool.eq_false_or_eq_true (decide ((k:Int)<=(j:Int)))with g|g
  ·have hg:k<=j:=by have:=of_decide_eq_true g;omega
   have h1:=AM AC (d:=u) (i:=k) (by omega);have h2:=AM AC (d:=u) (i:=a) (by omega);have hl:=hcf (u[k]!) (u[a]!);(repeat refine WF ?_);refine RU ?_;(repeat first|(refine RGo.gN ?_;first|(refine RGo.g_callv ?_;first|refine RGo.k2 (h:=(hl ..)) (k:=?_)))|(refine RGo.gQ ?_;first|(refine RGo.g_callv ?_;first|refine RGo.k2 (h:=(hl ..)) (k:=?_)))|refine RK ?_|refine RGo.nil (by kernel_rfl) ?_);(repeat refine WF ?_);refine AWP.cond rfl (λhd=>?_) (λhd=>?_)
   ·have hd:((AB cf) u[k]! u[a]!)=true:=by simpa[g,AB]using hd
    rw[if_pos (by rw[Bool.and_eq_true];exact⟨decide_eq_true (by omega),hd⟩)]at hk;(repeat first|refine WK ?_|refine Ai λX=>?_|refine Ay λY=>?_);exact A4 (k+1) ⟨by omega,by omega,hk⟩
   ·have hd:((AB cf) u[k]! u[a]!)=false:=by simpa[g,AB]using hd
    rw[if_neg (λe=>by rw[Bool.and_eq_true]at e;have e2:=e.2;rw[hd]at e2;cases e2)]at hk;(repeat first|refine WK ?_|refine Ai λX=>?_|refine Ay λY=>?_);exact jn k hk
  ·have hg:¬k<=j:=by have:=of_decide_eq_false g;omega
   rw[if_neg (λe=>by rw[Bool.and_eq_true]at e;have:=of_decide_eq_true e.1;omega)]at hk;(repeat refine WF ?_);refine RU ?_;(repeat first|refine RK ?_|refine RGo.nil (by kernel_rfl) ?_);(repeat refine WF ?_);refine AE rfl (by simp[g]) ?_;(repeat first|refine WK ?_|refine Ai λX=>?_|refine Ay λY=>?_);exact jn k hk
 rintro k hk0;rw[hk0];clear hk0 k
 (repeat (first|refine AWP.skip ?_|refine Az ?_|refine AWP.seq ?_))
 refine Ag (λk:Nat=>k=j2) (λk=>⟨[(0,.sl X 0 n),(1,iA a),(4,.fn f cap),(12,iA i2),(13,iA k)],(X,.row 58 3 (u.toList.map AC))::Sf⟩) ?_ ?_
 ·refine AWP.block ?_
  refine BN (λ(k:Nat)=>⟨[(0,.sl X 0 n),(1,iA a),(4,.fn f cap),(12,iA i2),(13,iA k)],(X,.row 58 3 (u.toList.map AC))::Sf⟩) (λk=>k<=j/\scanDown (λx=>!(AB cf) x u[a]!) u i2 k=j2) (λk=>k) j ⟨Nat.le_refl _,hj2⟩ ?_;rintro k ⟨hk1,hk⟩;rcases Bool.eq_false_or_eq_true (decide ((i2:Int)<=(k:Int)))with g|g
  ·have hg:i2<=k:=by have:=of_decide_eq_true g;omega
   obtain⟨q,rfl⟩:∃q,k=q+1:=⟨k-1,by omega⟩;rw[scanDown]at hk;have h1:=AM AC (d:=u) (i:=q+1) (by omega);have h2:=AM AC (d:=u) (i:=a) (by omega);have hl:=hcf (u[q+1]!) (u[a]!);(repeat refine WF ?_);refine RU ?_;(repeat first|(refine RGo.gN ?_;first|(refine RGo.g_callv ?_;first|refine RGo.k2 (h:=(hl ..)) (k:=?_)))|(refine RGo.gQ ?_;first|(refine RGo.g_callv ?_;first|refine RGo.k2 (h:=(hl ..)) (k:=?_)))|refine RK ?_|refine RGo.nil (by kernel_rfl) ?_);(repeat refine WF ?_);refine AWP.cond rfl (λhd=>?_) (λhd=>?_)
   ·have hd:(!(AB cf) u[q+1]! u[a]!)=true:=by simpa[g,AB]using hd
    rw[if_pos (by rw[Bool.and_eq_true];exact⟨decide_eq_true (by omega),hd⟩)]at hk;(repeat first|(refine AOps.gN ?_;first|refine AOps.p (AK ((q:Int)) (by omega) (by omega) rfl rfl) rfl ?_)|refine WK ?_|refine Ai λX=>?_|refine Ay λY=>?_);exact A4 q ⟨by omega,hk⟩
   ·have hd:(!(AB cf) u[q+1]! u[a]!)=false:=by simpa[g,AB]using hd
    rw[if_neg (λe=>by rw[Bool.and_eq_true]at e;have e2:=e.2;rw[hd]at e2;cases e2)]at hk;(repeat first|refine WK ?_|refine Ai λX=>?_|refine Ay λY=>?_);exact jn (q+1) hk
  ·have hg:¬i2<=k:=by have:=of_decide_eq_false g;omega
   have hk3:scanDown (λx=>!(AB cf) x u[a]!) u i2 k=k:=by
    cases k with
    |zero=>rfl
    |succ q=>rw[scanDown,if_neg (λe=>by rw[Bool.and_eq_true]at e;have:=of_decide_eq_true e.1;omega)]
   rw[hk3]at hk;(repeat refine WF ?_);refine RU ?_;(repeat first|refine RK ?_|refine RGo.nil (by kernel_rfl) ?_);(repeat refine WF ?_);refine AE rfl (by simp[g]) ?_;(repeat first|refine WK ?_|refine Ai λX=>?_|refine Ay λY=>?_);exact jn k hk
 rintro k hk0;rw[hk0];clear hk0 k;(repeat first|refine WK ?_|refine Ai λX=>?_|refine Ay λY=>?_);refine AWP.cond rfl (λhc=>?_) (λhc=>?_)
 ·have h:i2>j2:=by have:=of_decide_eq_true hc;omega
  rw[if_pos h]at hfold;subst hfold;have h1:=AM AC (d:=u) (i:=j2) (by omega);have h2:=AM AC (d:=u) (i:=a) (by omega);have hrow2:=BA AC (d:=u) (i:=j2) (j:=a) (by omega) (by omega);obtain⟨y,hy⟩:=Av AC (d:=u) (i:=j2) (j:=a) (by omega) u[a]!;(repeat refine WF ?_);refine RU ?_;(repeat first|(refine RGo.gN ?_;first|refine RGo.s (W.store rfl rfl (by exact At.f) hy (by exact rfl)) rfl ?_)|(refine RGo.gQ ?_;first|refine RGo.s (W.store rfl rfl (by exact At.f) hy (by exact rfl)) rfl ?_)|refine RK ?_|refine RGo.nil (by kernel_rfl) ?_);(repeat first|refine WK ?_|refine Ai λX=>?_|refine Ay λY=>?_);refine RT ?_;exact AQ [iA j2,bA false] [(X,_)] ⟨rfl,by rw[<-hrow2]⟩
 ·have h:¬i2>j2:=by have:=of_decide_eq_false hc;omega
  rw[if_neg h]at hfold;have h1:=AM AC (d:=u) (i:=i2) (by omega);have h2:=AM AC (d:=u) (i:=j2) (by omega);obtain⟨y,hy⟩:=Av AC (d:=u) (i:=i2) (j:=j2) (by omega) u[j2]!;(repeat refine WF ?_);refine RU ?_;(repeat first|(refine RGo.gN ?_;first|refine RGo.s (W.store rfl rfl (by exact At.f) hy (by exact rfl)) rfl ?_)|(refine RGo.gQ ?_;first|refine RGo.s (W.store rfl rfl (by exact At.f) hy (by exact rfl)) rfl ?_)|refine RK ?_|refine RGo.nil (by kernel_rfl) ?_);(repeat first|(refine AOps.gN ?_;first|refine AOps.p (AK (((j2-1:Nat):Int)) (by omega) (by omega) rfl rfl) rfl ?_)|refine WK ?_|refine Ai λX=>?_|refine Ay λY=>?_);refine BR (i2+1) (j2-1) (swp u i2 j2) ⟨by omega,by omega,by omega,by rw[size_swp];exact hu,hfold⟩ (h0:=by rw[<-BA AC (by omega) (by omega)];exact⟨by exact Lk.f,by exact Sub.f⟩)
end
section
open Go.Sort
set_option maxHeartbeats 1000000 in
theorem Hm(lt:Mark->Mark->Bool)(d:Array Mark)(b i:Nat):i<=scanSorted lt d b i/\scanSorted lt d b i<=max i b:=by
 obtain⟨m,hm⟩:∃m,b-i=m:=⟨_,rfl⟩
 induction m generalizing i with
 |zero=>rw[scanSorted,if_neg (λe=>by rw[Bool.and_eq_true]at e;have:=of_decide_eq_true e.1;omega)];omega
 |succ m ih=>
  rw[scanSorted];split
  ·have:=ih (i+1) (by omega)
   omega
  ·omega
theorem Pc(f:FuncId)(cap:List AV)(cf:Mark->Mark->Int)(hst:Bd cap=true)(hcf:∀x y,PS Tryz.prog f (AC x::AC y::cap) (iA (cf x y)))(X n:Nat)(d:Array Mark)(a b:Nat)(hn:n=d.size)(hab:a<b)(hb:b<=d.size)(hz:d.size<=1099511627776):PO Tryz.prog 230 [.sl X 0 n,iA a,iA b,.fn f cap] X (.row 58 3 (d.toList.map AC)) (bA (partialInsertionSort (AB cf) d a b).2) (.row 58 3 ((partialInsertionSort (AB cf) d a b).1.toList.map AC)):=by
 obtain⟨r,hr⟩:∃r,partialInsertionSort (AB cf) d a b=r:=⟨_,rfl⟩;rw[hr];unfold partialInsertionSort at hr;refine Spec.of (nt:=141) (res:=[.tmp 8]) Tryz.func230 rfl (by kernel_rfl) rfl rfl rfl λSf=>?_
 (repeat first|(refine AOps.gN ?_;first|refine AOps.p (AT (((a+1:Nat):Int)) (by omega) (by omega) rfl rfl) rfl ?_)|refine WK ?_|refine Ai λX=>?_|refine Ay λY=>?_);refine CB (λ(c i:Nat) (u:Array Mark)=>⟨[(0,.sl X 0 n),(1,iA a),(2,iA b),(3,.fn f cap),(9,iA i),(10,iA c)],(X,.row 58 3 (u.toList.map AC))::Sf⟩) (λc i u=>c<=5/\a<i/\i<=b/\u.size=d.size/\partialIns (AB cf) a b (5-c) i u=r) (λc _ _=>5-c) 0 (a+1) d ⟨by omega,by omega,by omega,rfl,hr⟩ ?_;rintro c i u ⟨hc5,hai,hib,hu,hfold⟩;(repeat first|refine WK ?_|refine Ai λX=>?_|refine Ay λY=>?_);refine AWP.cond rfl (λhc=>?_) (λhc=>?_)
 ·have h:c<5:=by have:=of_decide_eq_true hc;omega
  obtain⟨s,hs⟩:∃s,5-c=s+1:=⟨4-c,by omega⟩;rw[hs,partialIns_succ]at hfold;obtain⟨i2,hi2⟩:∃i2,scanSorted (AB cf) u b i=i2:=⟨_,rfl⟩;rw[hi2]at hfold;have hrg:=Hm (AB cf) u b i;rw[hi2]at hrg
  (repeat (first|refine AWP.skip ?_|refine Az ?_|refine AWP.seq ?_))
  refine AWP.block ?_
  (repeat (first|refine AWP.skip ?_|refine Az ?_|refine AWP.seq ?_))
  refine Ag (λk:Nat=>k=i2) (λk=>⟨[(0,.sl X 0 n),(1,iA a),(2,iA b),(3,.fn f cap),(9,iA k),(10,iA c)],(X,.row 58 3 (u.toList.map AC))::Sf⟩) ?_ ?_
  ·refine AWP.block ?_
   refine BN (λ(k:Nat)=>⟨[(0,.sl X 0 n),(1,iA a),(2,iA b),(3,.fn f cap),(9,iA k),(10,iA c)],(X,.row 58 3 (u.toList.map AC))::Sf⟩) (λk=>i<=k/\k<=b/\scanSorted (AB cf) u b k=i2) (λk=>b-k) i ⟨Nat.le_refl _,hib,hi2⟩ ?_;rintro k ⟨hk1,hk2,hk⟩;rw[scanSorted]at hk;rcases Bool.eq_false_or_eq_true (decide ((k:Int)<(b:Int)))with g|g
   ·have hg:k<b:=by have:=of_decide_eq_true g;omega
    have h1:=AM AC (d:=u) (i:=k) (by omega);have h2:=AM AC (d:=u) (i:=k-1) (by omega);have hl:=hcf (u[k]!) (u[k-1]!);(repeat refine WF ?_);refine RU ?_;(repeat first|(refine RGo.gN ?_;first|(refine RGo.g_callv ?_;first|refine RGo.k2 (h:=(hl ..)) (k:=?_))|refine RGo.go (h:=AK (((k-1:Nat):Int)) (by omega) (by omega) rfl rfl) (k:=?_))|(refine RGo.gQ ?_;first|(refine RGo.g_callv ?_;first|refine RGo.k2 (h:=(hl ..)) (k:=?_))|refine RGo.go (h:=AK (((k-1:Nat):Int)) (by omega) (by omega) rfl rfl) (k:=?_))|refine RK ?_|refine RGo.nil (by kernel_rfl) ?_);(repeat refine WF ?_);refine AWP.cond rfl (λhd=>?_) (λhd=>?_)
    ·have hd:(!(AB cf) u[k]! u[k-1]!)=true:=by simpa[g,AB]using hd
     rw[if_pos (by rw[Bool.and_eq_true];exact⟨decide_eq_true (by omega),hd⟩)]at hk;(repeat first|refine WK ?_|refine Ai λX=>?_|refine Ay λY=>?_);exact A4 (k+1) ⟨by omega,by omega,hk⟩
    ·have hd:(!(AB cf) u[k]! u[k-1]!)=false:=by simpa[g,AB]using hd
     rw[if_neg (λe=>by rw[Bool.and_eq_true]at e;have e2:=e.2;rw[hd]at e2;cases e2)]at hk;(repeat first|refine WK ?_|refine Ai λX=>?_|refine Ay λY=>?_);exact jn k hk
   ·have hg:¬k<b:=by have:=of_decide_eq_false g;omega
    rw[if_neg (λe=>by rw[Bool.and_eq_true]at e;have:=of_decide_eq_true e.1;omega)]at hk;(repeat refine WF ?_);refine RU ?_;(repeat first|refine RK ?_|refine RGo.nil (by kernel_rfl) ?_);(repeat refine WF ?_);refine AE rfl (by simp[g]) ?_;(repeat first|refine WK ?_|refine Ai λX=>?_|refine Ay λY=>?_);exact jn k hk
  rintro k hk0;rw[hk0];clear hk0 k;(repeat first|refine WK ?_|refine Ai λX=>?_|refine Ay λY=>?_);refine AWP.cond rfl (λhd=>?_) (λhd=>?_)
  ·have hd:i2=b:=by have:=of_decide_eq_true hd;omega
   rw[if_pos hd]at hfold;subst hfold;(repeat first|refine WK ?_|refine Ai λX=>?_|refine Ay λY=>?_);refine RT ?_;exact AQ [bA true] [(X,_)] ⟨rfl,rfl⟩
  have hd:¬i2=b:=by have:=of_decide_eq_false hd;omega
  rw[if_neg hd]at hfold;(repeat first|(refine AOps.gN ?_;first|refine AOps.p (AK (((b-a:Nat):Int)) (by omega) (by omega) rfl rfl) rfl ?_)|refine WK ?_|refine Ai λX=>?_|refine Ay λY=>?_);refine AWP.cond rfl (λhe=>?_) (λhe=>?_)
  ·have he:b-a<50:=by have:=of_decide_eq_true he;omega
   rw[if_pos he]at hfold;subst hfold;(repeat first|refine WK ?_|refine Ai λX=>?_|refine Ay λY=>?_);refine RT ?_;exact AQ [bA false] [(X,_)] ⟨rfl,rfl⟩
  have he:¬b-a<50:=by have:=of_decide_eq_false he;omega
  rw[if_neg he]at hfold;have h1:=AM AC (d:=u) (i:=i2) (by omega);have h2:=AM AC (d:=u) (i:=i2-1) (by omega);have hrow:=BA AC (d:=u) (i:=i2) (j:=i2-1) (by omega) (by omega);obtain⟨y,hy⟩:=Av AC (d:=u) (i:=i2) (j:=i2-1) (by omega) u[i2-1]!;have hvs:(swp u i2 (i2-1)).size=d.size:=by rw[size_swp];exact hu
  (repeat refine WF ?_);refine RU ?_;(repeat first|(refine RGo.gN ?_;first|refine RGo.go (h:=AK (((i2-1:Nat):Int)) (by omega) (by omega) rfl rfl) (k:=?_)|refine RGo.s (W.store rfl rfl (by exact At.f) hy (by exact rfl)) rfl ?_)|(refine RGo.gQ ?_;first|refine RGo.go (h:=AK (((i2-1:Nat):Int)) (by omega) (by omega) rfl rfl) (k:=?_)|refine RGo.s (W.store rfl rfl (by exact At.f) hy (by exact rfl)) rfl ?_)|refine RK ?_|refine RGo.nil (by kernel_rfl) ?_);obtain⟨v,hv⟩:∃v,swp u i2 (i2-1)=v:=⟨_,rfl⟩;rw[hv]at hrow hvs hfold;refine FN [(0,.sl X 0 n),(1,iA a),(2,iA b),(3,.fn f cap),(9,iA i2),(10,iA c)] ((X,.row 58 3 (v.toList.map AC))::Sf) ?_ (h:=by rw[<-hrow];exact⟨by exact Lk.f,by exact Sub.f⟩);(repeat first|(refine AOps.gN ?_;first|refine AOps.p (AK (((i2-a:Nat):Int)) (by omega) (by omega) rfl rfl) rfl ?_)|refine WK ?_|refine Ai λX=>?_|refine Ay λY=>?_);refine Ag (λw:Array Mark=>w.size=d.size/\w=fixDown (AB cf) a i2 v) (λw=>⟨[(0,.sl X 0 n),(1,iA a),(2,iA b),(3,.fn f cap),(9,iA i2),(10,iA c)],(X,.row 58 3 (w.toList.map AC))::Sf⟩) ?_ ?_
  ·unfold fixDown
   refine AWP.cond rfl (λhf=>?_) (λhf=>?_)
   ·have hf:i2-a>=2:=by have:=of_decide_eq_true hf;omega
    rw[if_pos hf];(repeat first|(refine AOps.gN ?_;first|refine AOps.p (AK (((i2-1:Nat):Int)) (by omega) (by omega) rfl rfl) rfl ?_)|refine WK ?_|refine Ai λX=>?_|refine Ay λY=>?_);refine BH (λ(k:Nat) (w:Array Mark)=>⟨[(0,.sl X 0 n),(1,iA a),(2,iA b),(3,.fn f cap),(9,iA i2),(10,iA c),(11,iA k)],(X,.row 58 3 (w.toList.map AC))::Sf⟩) (λk w=>k<b/\w.size=d.size/\shiftDown (AB cf) k w=shiftDown (AB cf) (i2-1) v) (λk _=>k) (i2-1) v ⟨by omega,hvs,rfl⟩ ?_;rintro k w ⟨hkb,hw,hk⟩;(repeat first|refine WK ?_|refine Ai λX=>?_|refine Ay λY=>?_);refine AWP.cond rfl (λhg=>?_) (λhg=>?_)
    ·obtain⟨q,rfl⟩:∃q,k=q+1:=⟨k-1,by have:=of_decide_eq_true hg;omega⟩
     rw[shiftDown]at hk;have h1:=AM AC (d:=w) (i:=q+1) (by omega);have h2:=AM AC (d:=w) (i:=q) (by omega);have hl:=hcf (w[q+1]!) (w[q]!);(repeat refine WF ?_);refine RU ?_;(repeat first|(refine RGo.gN ?_;first|(refine RGo.g_callv ?_;first|refine RGo.k2 (h:=(hl ..)) (k:=?_))|refine RGo.go (h:=AK ((q:Int)) (by omega) (by omega) rfl rfl) (k:=?_))|(refine RGo.gQ ?_;first|(refine RGo.g_callv ?_;first|refine RGo.k2 (h:=(hl ..)) (k:=?_))|refine RGo.go (h:=AK ((q:Int)) (by omega) (by omega) rfl rfl) (k:=?_))|refine RK ?_|refine RGo.nil (by kernel_rfl) ?_);(repeat refine WF ?_);refine AWP.cond rfl (λhd=>?_) (λhd=>?_)
     ·have hd:(!(AB cf) w[q+1]! w[q]!)=true:=by simpa[AB]using hd
      rw[if_pos hd]at hk;(repeat first|refine WK ?_|refine Ai λX=>?_|refine Ay λY=>?_);exact jn w ⟨hw,hk⟩
     ·have hd:(!(AB cf) w[q+1]! w[q]!)=false:=by simpa[AB]using hd
      rw[if_neg (by rw[hd];simp)]at hk;clear y hy;obtain⟨y,hy⟩:=Av AC (d:=w) (i:=q+1) (j:=q) (by omega) w[q]!;(repeat refine WF ?_);refine RU ?_;(repeat first|(refine RGo.gN ?_;first|refine RGo.go (h:=AK ((q:Int)) (by omega) (by omega) rfl rfl) (k:=?_)|refine RGo.s (W.store rfl rfl (by exact At.f) hy (by exact rfl)) rfl ?_)|(refine RGo.gQ ?_;first|refine RGo.go (h:=AK ((q:Int)) (by omega) (by omega) rfl rfl) (k:=?_)|refine RGo.s (W.store rfl rfl (by exact At.f) hy (by exact rfl)) rfl ?_)|refine RK ?_|refine RGo.nil (by kernel_rfl) ?_);(repeat first|(refine AOps.gN ?_;first|refine AOps.p (AK ((q:Int)) (by omega) (by omega) rfl rfl) rfl ?_)|refine WK ?_|refine Ai λX=>?_|refine Ay λY=>?_);refine Ae q (swp w (q+1) q) ⟨by omega,by rw[size_swp];exact hw,hk⟩ (h0:=by rw[<-BA AC (by omega) (by omega)];exact⟨by exact Lk.f,by exact Sub.f⟩)
    ·obtain rfl:k=0:=by have:=of_decide_eq_false hg;omega
     rw[shiftDown]at hk;(repeat first|refine WK ?_|refine Ai λX=>?_|refine Ay λY=>?_);exact jn w ⟨hw,hk⟩
   ·have hf:¬i2-a>=2:=by have:=of_decide_eq_false hf;omega
    rw[if_neg hf];(repeat first|refine WK ?_|refine Ai λX=>?_|refine Ay λY=>?_);exact jn v ⟨hvs,rfl⟩
  rintro w ⟨hws,hw0⟩;rw[<-hw0]at hfold;clear hw0 hrow y hy h1 h2;(repeat first|(refine AOps.gN ?_;first|refine AOps.p (AK (((b-i2:Nat):Int)) (by omega) (by omega) rfl rfl) rfl ?_)|refine WK ?_|refine Ai λX=>?_|refine Ay λY=>?_);refine KU (λz:Array Mark=>z.size=d.size/\z=fixUp (AB cf) b i2 w) (λz=>⟨[(0,.sl X 0 n),(1,iA a),(2,iA b),(3,.fn f cap),(9,iA i2),(10,iA c)],(X,.row 58 3 (z.toList.map AC))::Sf⟩) ?_ ?_
  ·unfold fixUp
   refine AWP.cond rfl (λhf=>?_) (λhf=>?_)
   ·have hf:b-i2>=2:=by have:=of_decide_eq_true hf;omega
    rw[if_pos hf];(repeat first|(refine AOps.gN ?_;first|refine AOps.p (AT (((i2+1:Nat):Int)) (by omega) (by omega) rfl rfl) rfl ?_)|refine WK ?_|refine Ai λX=>?_|refine Ay λY=>?_);refine BH (λ(k:Nat) (z:Array Mark)=>⟨[(0,.sl X 0 n),(1,iA a),(2,iA b),(3,.fn f cap),(9,iA i2),(10,iA c),(12,iA k)],(X,.row 58 3 (z.toList.map AC))::Sf⟩) (λk z=>i2<k/\k<=b/\z.size=d.size/\shiftUp (AB cf) b k z=shiftUp (AB cf) b (i2+1) w) (λk _=>b-k) (i2+1) w ⟨by omega,by omega,hws,rfl⟩ ?_;rintro k z ⟨hik,hkb,hz1,hk⟩;rw[shiftUp]at hk;(repeat first|refine WK ?_|refine Ai λX=>?_|refine Ay λY=>?_);refine AWP.cond rfl (λhg=>?_) (λhg=>?_)
    ·have hg:k<b:=by have:=of_decide_eq_true hg;omega
     rw[if_pos hg]at hk;have h1:=AM AC (d:=z) (i:=k) (by omega);have h2:=AM AC (d:=z) (i:=k-1) (by omega);have hl:=hcf (z[k]!) (z[k-1]!);(repeat refine WF ?_);refine RU ?_;(repeat first|(refine RGo.gN ?_;first|(refine RGo.g_callv ?_;first|refine RGo.k2 (h:=(hl ..)) (k:=?_))|refine RGo.go (h:=AK (((k-1:Nat):Int)) (by omega) (by omega) rfl rfl) (k:=?_))|(refine RGo.gQ ?_;first|(refine RGo.g_callv ?_;first|refine RGo.k2 (h:=(hl ..)) (k:=?_))|refine RGo.go (h:=AK (((k-1:Nat):Int)) (by omega) (by omega) rfl rfl) (k:=?_))|refine RK ?_|refine RGo.nil (by kernel_rfl) ?_);(repeat refine WF ?_);refine AWP.cond rfl (λhd=>?_) (λhd=>?_)
     ·have hd:(!(AB cf) z[k]! z[k-1]!)=true:=by simpa[AB]using hd
      rw[if_pos hd]at hk;(repeat first|refine WK ?_|refine Ai λX=>?_|refine Ay λY=>?_);exact jn z ⟨hz1,hk⟩
     ·have hd:(!(AB cf) z[k]! z[k-1]!)=false:=by simpa[AB]using hd
      rw[if_neg (by rw[hd];simp)]at hk;obtain⟨y,hy⟩:=Av AC (d:=z) (i:=k) (j:=k-1) (by omega) z[k-1]!;(repeat refine WF ?_);refine RU ?_;(repeat first|(refine RGo.gN ?_;first|refine RGo.go (h:=AK (((k-1:Nat):Int)) (by omega) (by omega) rfl rfl) (k:=?_)|refine RGo.s (W.store rfl rfl (by exact At.f) hy (by exact rfl)) rfl ?_)|(refine RGo.gQ ?_;first|refine RGo.go (h:=AK (((k-1:Nat):Int)) (by omega) (by omega) rfl rfl) (k:=?_)|refine RGo.s (W.store rfl rfl (by exact At.f) hy (by exact rfl)) rfl ?_)|refine RK ?_|refine RGo.nil (by kernel_rfl) ?_);(repeat first|refine WK ?_|refine Ai λX=>?_|refine Ay λY=>?_);refine Ae (k+1) (swp z k (k-1)) ⟨by omega,by omega,by rw[size_swp];exact hz1,hk⟩ (h0:=by rw[<-BA AC (by omega) (by omega)];exact⟨by exact Lk.f,by exact Sub.f⟩)
    ·have hg:¬k<b:=by have:=of_decide_eq_false hg;omega
     rw[if_neg hg]at hk;(repeat first|refine WK ?_|refine Ai λX=>?_|refine Ay λY=>?_);exact jn z ⟨hz1,hk⟩
   ·have hf:¬b-i2>=2:=by have:=of_decide_eq_false hf;omega
    rw[if_neg hf];(repeat first|refine WK ?_|refine Ai λX=>?_|refine Ay λY=>?_);exact jn w ⟨hws,rfl⟩
  rintro z ⟨hzs,hz0⟩;rw[<-hz0]at hfold;(repeat first|refine WK ?_|refine Ai λX=>?_|refine Ay λY=>?_);refine BR (c+1) i2 z ⟨by omega,by omega,by omega,hzs,by rw[show 5-(c+1)=s by omega];exact hfold⟩
 ·have h:c=5:=by have:=of_decide_eq_false hc;omega
  subst h;rw[show 5-5=0 from rfl,partialIns]at hfold;subst hfold;(repeat first|refine WK ?_|refine Ai λX=>?_|refine Ay λY=>?_);refine RT ?_;exact AQ [bA false] [(X,_)] ⟨rfl,rfl⟩
end
section
open Go.Sort
set_option maxHeartbeats 1000000 in
theorem Ru{f:FuncId}{cap:List AV}(X n:Nat)(d:Array Mark)(a b:Nat)(hn:n=d.size)(hab:a<=b)(hb:b<=d.size)(hz:d.size<65536):Spec Tryz.prog 227 [.sl X 0 n,iA a,iA b,.fn f cap] [(X,.row 58 3 (d.toList.map AC))] λr S'=>∃u:Array Mark,PermIn a b d u/\r= .tup []/\S'=[(X,.row 58 3 (u.toList.map AC))]:=by
 obtain⟨l,hl⟩:∃l,b-a=l:=⟨_,rfl⟩;refine Spec.of (nt:=67) (res:=[]) Tryz.func227 rfl (by kernel_rfl) rfl rfl rfl λSf=>?_
 (repeat first|(refine AOps.gN ?_;first|refine AOps.p (AK ((l:Int)) (by omega) (by omega) rfl rfl) rfl ?_)|refine WK ?_|refine Ai λX=>?_|refine Ay λY=>?_);refine AWP.cond rfl (λh8=>?_) (λh8=>?_)
 ·have h8:8<=l:=by have:=of_decide_eq_true h8;omega
  have hnp:=IY l (by omega);have hbl:bitsLen l<=16:=(bitsLen_le_iff l 16).2 (by omega);have hm2:=two_pow_bitsLen_le (n:=l) (by omega);obtain⟨m,hm⟩:∃m,(1:UInt64)<<<UInt64.ofNat (bitsLen l)=m:=⟨_,rfl⟩
  have hmn:m.toNat=2^bitsLen l:=by
   have:2^bitsLen l<=2^16:=Nat.pow_le_pow_right (by decide) hbl;rw[<-hm,UInt64.toNat_shiftLeft,UInt64.toNat_ofNat',show bitsLen l%2^64%64=bitsLen l by omega,Nat.shiftLeft_eq,show(1:UInt64).toNat=1 from rfl];omega
  rw[hm]at hnp;have hp1:1<=2^bitsLen l:=Nat.one_le_two_pow;(repeat first|(refine AOps.gN ?_;first|(refine AOps.g_callf ?_;first|refine AOps.c1 (h:=(hnp ..)) (k:=?_))|refine AOps.p (HN .i64 l rfl (by omega) (by kernel_rfl) (by kernel_rfl) rfl) rfl ?_|refine AOps.p (EW l 4 (l/4) rfl rfl (by omega) rfl (by omega) rfl rfl) rfl ?_|refine AOps.p (De ((l/4*2:Nat):Int) (by omega) (by omega) rfl rfl) rfl ?_|refine AOps.p (AT (((a+l/4*2:Nat):Int)) (by omega) (by omega) rfl rfl) rfl ?_|refine AOps.p (AK (((a+l/4*2-1:Nat):Int)) (by omega) (by omega) rfl rfl) rfl ?_)|refine WK ?_|refine Ai λV=>?_|refine Ay λY=>?_);refine CB (λ(k:Nat) (s:UInt64) (u:Array Mark)=>⟨[(0,.sl X 0 n),(1,iA a),(3,.fn f cap),(8,iA l),(9,.ptr V 0 0),(10,uA m),(11,iA k)],(V,.row 355 1 [uA s])::(X,.row 58 3 (u.toList.map AC))::Sf⟩) (λk s u=>a<=k/\k<=a+l/4*2+2/\PermIn a b d u) (λk _ _=>a+l/4*2+2-k) (a+l/4*2-1) (UInt64.ofNat l) d ⟨by omega,by omega,permIn_refl _ _ _⟩ ?_;rintro k s u ⟨hak,hkl,hP⟩;have hu:u.size=d.size:=hP.1;(repeat first|(refine AOps.gN ?_;first|refine AOps.p (EW l 4 (l/4) rfl rfl (by omega) rfl (by omega) rfl rfl) rfl ?_|refine AOps.p (De ((l/4*2:Nat):Int) (by omega) (by omega) rfl rfl) rfl ?_|refine AOps.p (AT (((a+l/4*2:Nat):Int)) (by omega) (by omega) rfl rfl) rfl ?_|refine AOps.p (AT (((a+l/4*2+1:Nat):Int)) (by omega) (by omega) rfl rfl) rfl ?_)|refine WK ?_|refine Ai λX=>?_|refine Ay λY=>?_);refine AWP.cond rfl (λhc=>?_) (λhc=>?_)
  ·have hk1:k<=a+l/4*2+1:=by have:=of_decide_eq_true hc;omega
   have hkb:k<b:=by omega
   refine AWP.skip ?_;refine Az ?_;refine AWP.seq ?_;refine AWP.block ?_;refine AWP.seq ?_;refine RG ?_;(repeat first|(refine AOps.gN ?_;first|(refine AOps.g_callf ?_;first|refine Mc (h:=IA V s) (k:=λv _=>?_)))|refine WO ?_|refine Ai λX=>?_|refine Ay λY=>?_)
   have hvb:(v&&&(m-1)).toNat<2*l:=by
    rw[UInt64.toNat_and,UInt64.toNat_sub_of_le _ _ (by rw[UInt64.le_iff_toNat_le,hmn];exact hp1),hmn];have:=Nat.and_le_right (n:=v.toNat) (m:=2^bitsLen l-(1:UInt64).toNat);have e:(1:UInt64).toNat=1:=rfl;omega
   (repeat first|(refine AOps.gN ?_;first|refine AOps.p (Qh (b:=1) rfl rfl) rfl ?_|refine AOps.p (Qu rfl rfl) rfl ?_|refine AOps.p (Qj .u64 (by omega) (by kernel_rfl) (by kernel_rfl) rfl) rfl ?_)|refine WO ?_|refine Ai λX=>?_|refine Ay λY=>?_);refine AOps.nil ?_
   (repeat (first|refine AWP.skip ?_|refine Az ?_|refine AWP.seq ?_))
   obtain⟨o,ho⟩:∃o,(v&&&(m-1)).toNat=o:=⟨_,rfl⟩;refine FN [(0,.sl X 0 n),(1,iA a),(3,.fn f cap),(8,iA l),(9,.ptr V 0 0),(10,uA m),(11,iA k),(12,iA o)] ((V,.row 355 1 [uA v])::(X,.row 58 3 (u.toList.map AC))::Sf) ?_ (h:=by rw[<-ho];exact⟨by exact Lk.f,by exact Sub.f⟩);rw[ho]at hvb;(repeat first|refine WK ?_|refine Ai λX=>?_|refine Ay λY=>?_);refine Ag (λo:Nat=>o<l) (λo=>⟨[(0,.sl X 0 n),(1,iA a),(3,.fn f cap),(8,iA l),(9,.ptr V 0 0),(10,uA m),(11,iA k),(12,iA o)],(V,.row 355 1 [uA v])::(X,.row 58 3 (u.toList.map AC))::Sf⟩) ?_ ?_
   ·refine AWP.cond rfl (λhd=>?_) (λhd=>?_)
    ·have hd:l<=o:=by have:=of_decide_eq_true hd;omega
     (repeat first|(refine AOps.gN ?_;first|refine AOps.p (AK (((o-l:Nat):Int)) (by omega) (by omega) rfl rfl) rfl ?_)|refine WK ?_|refine Ai λX=>?_|refine Ay λY=>?_);exact jn (o-l) (by omega)
    ·have hd:¬l<=o:=by have:=of_decide_eq_false hd;omega
     (repeat first|refine WK ?_|refine Ai λX=>?_|refine Ay λY=>?_);exact jn o (by omega)
   rintro o hol;have h1:=AM AC (d:=u) (i:=k) (by omega);have h2:=AM AC (d:=u) (i:=a+o) (by omega);obtain⟨y,hy⟩:=Av AC (d:=u) (i:=k) (j:=a+o) (by omega) u[a+o]!;(repeat refine WF ?_);refine RU ?_;(repeat first|(refine RGo.gN ?_;first|refine RGo.go (h:=AT (((a+o:Nat):Int)) (by omega) (by omega) rfl rfl) (k:=?_)|refine RGo.s (W.store rfl rfl (by exact At.f) hy (by exact rfl)) rfl ?_)|(refine RGo.gQ ?_;first|refine RGo.go (h:=AT (((a+o:Nat):Int)) (by omega) (by omega) rfl rfl) (k:=?_)|refine RGo.s (W.store rfl rfl (by exact At.f) hy (by exact rfl)) rfl ?_)|refine RK ?_|refine RGo.nil (by kernel_rfl) ?_);(repeat first|refine WK ?_|refine Ai λX=>?_|refine Ay λY=>?_);refine BR (k+1) v (swp u k (a+o)) ⟨by omega,by omega,permIn_trans _ _ _ _ _ hP (swp_permIn _ _ _ _ _ (by omega) (by omega) (by omega) (by omega) (by omega))⟩ (h0:=by rw[<-BA AC (by omega) (by omega)];exact⟨by exact Lk.f,by exact Sub.f⟩)
  ·(repeat first|refine WK ?_|refine Ai λX=>?_|refine Ay λY=>?_)
   refine CT ?_;exact Au [(X,.row 58 3 (u.toList.map AC))] ⟨u,hP,rfl,rfl⟩
 ·(repeat first|refine WK ?_|refine Ai λX=>?_|refine Ay λY=>?_)
  refine CT ?_;exact Au [(X,.row 58 3 (d.toList.map AC))] ⟨d,permIn_refl _ _ _,rfl,rfl⟩
end
section
open Go.Sort
set_option maxHeartbeats 1000000 in
theorem Fz(f:FuncId)(cap:List AV)(cf:Mark->Mark->Int)(hst:Bd cap=true)(hcf:∀x y,PS Tryz.prog f (AC x::AC y::cap) (iA (cf x y)))(X Y n:Nat)(d:Array Mark)(a b s:Nat)(hn:n=d.size)(ha:a<d.size)(hb:b<d.size)(hs:s<=1099511627776):Spec Tryz.prog 288 [.sl X 0 n,iA a,iA b,.ptr Y 0 0,.fn f cap] [(X,.row 58 3 (d.toList.map AC)),(Y,.row 3 1 [iA s])] λr S'=>r= .tup [iA (order2 (AB cf) d a b s).1,iA (order2 (AB cf) d a b s).2.1]/\S'=[(X,.row 58 3 (d.toList.map AC)),(Y,.row 3 1 [iA (order2 (AB cf) d a b s).2.2])]:=by
 subst hn;have h1:=AM AC ha;have h2:=AM AC hb;have hl:=hcf (d[b]!) (d[a]!);refine Spec.of (nt:=32) (res:=[.tmp 10,.tmp 11]) Tryz.func288 rfl (by kernel_rfl) rfl rfl rfl λSf=>?_
 unfold order2;refine RG ?_;(repeat first|refine WO ?_|refine Ai λX=>?_|refine Ay λY=>?_);refine NL ?_;refine RU ?_;(repeat first|(refine RGo.gN ?_;first|(refine RGo.g_callv ?_;first|refine RGo.k2 (h:=(hl ..)) (k:=?_)))|(refine RGo.gQ ?_;first|(refine RGo.g_callv ?_;first|refine RGo.k2 (h:=(hl ..)) (k:=?_)))|refine RK ?_|refine RGo.nil (by kernel_rfl) ?_);(repeat refine WF ?_);refine AWP.cond rfl (λhc=>?_) (λhc=>?_)
 ·have hc:(AB cf) d[b]! d[a]! =true:=by simpa[AB]using hc
  rw[if_pos hc];(repeat first|refine WK ?_|refine Ai λX=>?_|refine Ay λY=>?_);refine RT ?_;exact AQ [iA b,iA a] [(X,_),(Y,_)] ⟨rfl,rfl⟩
 ·have hc:(AB cf) d[b]! d[a]! =false:=by simpa[AB]using hc
  rw[if_neg (by simp[hc])];(repeat first|refine WK ?_|refine Ai λX=>?_|refine Ay λY=>?_);refine RT ?_;exact AQ [iA a,iA b] [(X,_),(Y,_)] ⟨rfl,rfl⟩
set_option maxHeartbeats 1000000 in
theorem Ib(f:FuncId)(cap:List AV)(cf:Mark->Mark->Int)(hst:Bd cap=true)(hcf:∀x y,PS Tryz.prog f (AC x::AC y::cap) (iA (cf x y)))(X Y n:Nat)(d:Array Mark)(a b c s:Nat)(hn:n=d.size)(ha:a<d.size)(hb:b<d.size)(hc:c<d.size)(hs:s<=1099511627000):Spec Tryz.prog 273 [.sl X 0 n,iA a,iA b,iA c,.ptr Y 0 0,.fn f cap] [(X,.row 58 3 (d.toList.map AC)),(Y,.row 3 1 [iA s])] λr S'=>r=iA (median (AB cf) d a b c s).1/\S'=[(X,.row 58 3 (d.toList.map AC)),(Y,.row 3 1 [iA (median (AB cf) d a b c s).2])]:=by
 obtain⟨m,hm⟩:∃m,median (AB cf) d a b c s=m:=⟨_,rfl⟩;rw[hm];unfold median at hm;have l1:=Dr (AB cf) d a b s _ ha hb;have e1:=DR (AB cf) d a b s;have h1:=Fz f cap cf hst hcf X Y n d a b s hn ha hb (by omega);obtain⟨⟨a1,b1,s1⟩,hr1⟩:∃r,order2 (AB cf) d a b s=r:=⟨_,rfl⟩;rw[hr1]at h1 hm l1 e1;dsimp only at h1 hm l1 e1;have l2:=Dr (AB cf) d b1 c s1 _ l1.2 hc;have e2:=DR (AB cf) d b1 c s1;have h2:=Fz f cap cf hst hcf X Y n d b1 c s1 hn l1.2 hc (by omega);obtain⟨⟨b2,c2,s2⟩,hr2⟩:∃r,order2 (AB cf) d b1 c s1=r:=⟨_,rfl⟩;rw[hr2]at h2 hm l2 e2;dsimp only at h2 hm l2 e2;have l3:=Dr (AB cf) d a1 b2 s2 _ l1.1 l2.1;have h3:=Fz f cap cf hst hcf X Y n d a1 b2 s2 hn l1.1 l2.1 (by omega);obtain⟨⟨a3,b3,s3⟩,hr3⟩:∃r,order2 (AB cf) d a1 b2 s2=r:=⟨_,rfl⟩;rw[hr3]at h3 hm l3;dsimp only at h3 hm l3;subst hm;refine Spec.of (nt:=41) (res:=[.tmp 12]) Tryz.func273 rfl (by kernel_rfl) rfl rfl rfl λSf=>?_
 (repeat first|(refine AOps.gN ?_;first|(refine AOps.g_callf ?_;first|refine Fi (h:=h1) (hT:=.fz) (k:=?_)|refine Fi (h:=h2) (hT:=.fz) (k:=?_)|refine Fi (h:=h3) (hT:=.fz) (k:=?_)))|refine WK ?_|refine Ai λX=>?_|refine Ay λY=>?_);refine RT ?_;exact AQ [iA b3] [(X,_),(Y,_)] ⟨rfl,rfl⟩
set_option maxHeartbeats 1000000 in
theorem F5(f:FuncId)(cap:List AV)(cf:Mark->Mark->Int)(hst:Bd cap=true)(hcf:∀x y,PS Tryz.prog f (AC x::AC y::cap) (iA (cf x y)))(X Y n:Nat)(d:Array Mark)(a s:Nat)(hn:n=d.size)(ha:a+1<d.size)(h0:0<a)(hz:d.size<=1099511627776)(hs:s<=1099511627000):Spec Tryz.prog 272 [.sl X 0 n,iA a,.ptr Y 0 0,.fn f cap] [(X,.row 58 3 (d.toList.map AC)),(Y,.row 3 1 [iA s])] λr S'=>r=iA (medianAdjacent (AB cf) d a s).1/\S'=[(X,.row 58 3 (d.toList.map AC)),(Y,.row 3 1 [iA (medianAdjacent (AB cf) d a s).2])]:=by
 have h1:=Ib f cap cf hst hcf X Y n d (a-1) a (a+1) s hn (by omega) (by omega) ha hs;unfold medianAdjacent;refine Spec.of (nt:=18) (res:=[.tmp 8]) Tryz.func272 rfl (by kernel_rfl) rfl rfl rfl λSf=>?_
 (repeat first|(refine AOps.gN ?_;first|(refine AOps.g_callf ?_;first|refine H9 (h:=h1) (hT:=.fz) (k:=?_))|refine AOps.p (AK ((a-1:Nat):Int) (by omega) (by omega) rfl rfl) rfl ?_|refine AOps.p (AT ((a+1:Nat):Int) (by omega) (by omega) rfl rfl) rfl ?_)|refine WK ?_|refine Ai λX=>?_|refine Ay λY=>?_);refine RT ?_;exact AQ [iA _] [(X,_),(Y,_)] ⟨rfl,rfl⟩
set_option maxHeartbeats 1000000 in
theorem Hy(f:FuncId)(cap:List AV)(cf:Mark->Mark->Int)(hst:Bd cap=true)(hcf:∀x y,PS Tryz.prog f (AC x::AC y::cap) (iA (cf x y)))(X n:Nat)(d:Array Mark)(a b:Nat)(hn:n=d.size)(hab:a<b)(hb:b<=d.size)(hz:d.size<=1099511627776):PO Tryz.prog 228 [.sl X 0 n,iA a,iA b,.fn f cap] X (.row 58 3 (d.toList.map AC)) (.tup [iA (choosePivot (AB cf) d a b).1,iA (Nx (choosePivot (AB cf) d a b).2)]) (.row 58 3 (d.toList.map AC)):=by
 obtain⟨c,hc⟩:∃c,choosePivot (AB cf) d a b=c:=⟨_,rfl⟩;rw[hc];unfold choosePivot at hc;obtain⟨l,hl⟩:∃l,b-a=l:=⟨_,rfl⟩;obtain⟨i,hi⟩:∃i,a+l/4*1=i:=⟨_,rfl⟩;obtain⟨j,hj⟩:∃i,a+l/4*2=i:=⟨_,rfl⟩;obtain⟨k,hk⟩:∃i,a+l/4*3=i:=⟨_,rfl⟩;rw[hl]at hc;dsimp only at hc;rw[hi,hj,hk]at hc;refine Spec.of (nt:=63) (res:=[.tmp 8,.tmp 9]) Tryz.func228 rfl (by kernel_rfl) rfl rfl rfl λSf=>?_
 have hlb:l<=1099511627776:=by omega
 (repeat first|(refine AOps.gN ?_;first|refine AOps.p (AK (l:Int) (by omega) (by omega) rfl rfl) rfl ?_|refine AOps.p (EW l 4 (l/4) rfl rfl (by omega) rfl (by omega) rfl rfl) rfl ?_|refine AOps.p (De ((l/4*1:Nat):Int) (by omega) (by omega) rfl rfl) rfl ?_|refine AOps.p (De ((l/4*2:Nat):Int) (by omega) (by omega) rfl rfl) rfl ?_|refine AOps.p (De ((l/4*3:Nat):Int) (by omega) (by omega) rfl rfl) rfl ?_|refine AOps.p (AT (i:Int) (by omega) (by omega) rfl rfl) rfl ?_|refine AOps.p (AT (j:Int) (by omega) (by omega) rfl rfl) rfl ?_|refine AOps.p (AT (k:Int) (by omega) (by omega) rfl rfl) rfl ?_)|refine WK ?_|refine Ai λV=>?_|refine Ay λY=>?_);refine Ag (λb:Nat×Nat=>c=(b.1,if b.2=0 then Hint.increasing else if b.2=12 then Hint.decreasing else Hint.unknown)) (λb=>⟨[(0,.sl X 0 n),(3,.fn f cap),(11,.ptr V 0 0),(13,iA b.1)],(V,.row 3 1 [iA b.2])::(X,.row 58 3 (d.toList.map AC))::Sf⟩) ?_ ?_
 ·refine AWP.cond rfl (λh8=>?_) (λh8=>?_)
  ·have h8:l>=8:=by have:=of_decide_eq_true h8;omega
   rw[if_pos h8]at hc;(repeat first|refine WK ?_|refine Ai λX=>?_|refine Ay λY=>?_);refine Ag (λb:Nat×Nat×Nat×Nat=>b.1<d.size/\b.2.1<d.size/\b.2.2.1<d.size/\b.2.2.2<=100/\(if l>=50 then median (AB cf) d (medianAdjacent (AB cf) d i 0).1 (medianAdjacent (AB cf) d j (medianAdjacent (AB cf) d i 0).2).1 (medianAdjacent (AB cf) d k (medianAdjacent (AB cf) d j (medianAdjacent (AB cf) d i 0).2).2).1 (medianAdjacent (AB cf) d k (medianAdjacent (AB cf) d j (medianAdjacent (AB cf) d i 0).2).2).2 else median (AB cf) d i j k 0)=median (AB cf) d b.1 b.2.1 b.2.2.1 b.2.2.2) (λb=>⟨[(0,.sl X 0 n),(3,.fn f cap),(11,.ptr V 0 0),(12,iA b.1),(13,iA b.2.1),(14,iA b.2.2.1)],(V,.row 3 1 [iA b.2.2.2])::(X,.row 58 3 (d.toList.map AC))::Sf⟩) ?_ ?_
   ·refine AWP.cond rfl (λh50=>?_) (λh50=>?_)
    ·have h50:l>=50:=by have:=of_decide_eq_true h50;omega
     have a1:=Dt (AB cf) d i 0 _ (show i+1<d.size by omega);have b1:=Ds (AB cf) d (i-1) i (i+1) 0;have s1:=F5 f cap cf hst hcf X V n d i 0 hn (by omega) (by omega) hz (by omega);rw[if_pos h50];have e1:(median (AB cf) d (i-1) i (i+1) 0).2=(medianAdjacent (AB cf) d i 0).2:=rfl;rw[e1]at b1;obtain⟨⟨p1,q1⟩,r1⟩:∃r,medianAdjacent (AB cf) d i 0=r:=⟨_,rfl⟩;rw[r1]at a1 b1 s1⊢;dsimp only at a1 b1 s1⊢;have a2:=Dt (AB cf) d j q1 _ (show j+1<d.size by omega);have b2:=Ds (AB cf) d (j-1) j (j+1) q1;have s2:=F5 f cap cf hst hcf X V n d j q1 hn (by omega) (by omega) hz (by omega);have e2:(median (AB cf) d (j-1) j (j+1) q1).2=(medianAdjacent (AB cf) d j q1).2:=rfl;rw[e2]at b2;obtain⟨⟨p2,q2⟩,r2⟩:∃r,medianAdjacent (AB cf) d j q1=r:=⟨_,rfl⟩;rw[r2]at a2 b2 s2⊢;dsimp only at a2 b2 s2⊢;have a3:=Dt (AB cf) d k q2 _ (show k+1<d.size by omega);have b3:=Ds (AB cf) d (k-1) k (k+1) q2;have s3:=F5 f cap cf hst hcf X V n d k q2 hn (by omega) (by omega) hz (by omega);have e3:(median (AB cf) d (k-1) k (k+1) q2).2=(medianAdjacent (AB cf) d k q2).2:=rfl;rw[e3]at b3;obtain⟨⟨p3,q3⟩,r3⟩:∃r,medianAdjacent (AB cf) d k q2=r:=⟨_,rfl⟩;rw[r3]at a3 b3 s3⊢;dsimp only at a3 b3 s3⊢;(repeat first|(refine AOps.gN ?_;first|(refine AOps.g_callf ?_;first|refine EQ (h:=s1) (hT:=.fz) (k:=?_)|refine EQ (h:=s2) (hT:=.fz) (k:=?_)|refine EQ (h:=s3) (hT:=.fz) (k:=?_)))|refine WK ?_|refine Ai λX=>?_|refine Ay λY=>?_);refine jn (p1,p2,p3,q3) ⟨a1,a2,a3,by dsimp only;omega,rfl⟩
    ·have h50:¬l>=50:=by have:=of_decide_eq_false h50;omega
     rw[if_neg h50];(repeat first|refine WK ?_|refine Ai λX=>?_|refine Ay λY=>?_);refine jn (i,j,k,0) ⟨by dsimp only;omega,by dsimp only;omega,by dsimp only;omega,by dsimp only;omega,rfl⟩
   ·rintro⟨p1,p2,p3,q⟩ ⟨l1,l2,l3,lq,e⟩
    dsimp only at l1 l2 l3 lq e⊢;rw[e]at hc;have h1:=Ib f cap cf hst hcf X V n d p1 p2 p3 q hn l1 l2 l3 (by omega);obtain⟨⟨r1,r2⟩,hr⟩:∃r,median (AB cf) d p1 p2 p3 q=r:=⟨_,rfl⟩;rw[hr]at hc h1;dsimp only at h1;(repeat first|(refine AOps.gN ?_;first|(refine AOps.g_callf ?_;first|refine H9 (h:=h1) (hT:=.fz) (k:=?_)))|refine WK ?_|refine Ai λX=>?_|refine Ay λY=>?_);refine jn (r1,r2) hc.symm
  ·have h8:¬l>=8:=by have:=of_decide_eq_false h8;omega
   rw[if_neg h8]at hc;(repeat first|refine WK ?_|refine Ai λX=>?_|refine Ay λY=>?_);refine jn (j,0) hc.symm
 ·rintro⟨p,s⟩ hc
  dsimp only at hc⊢;subst hc;(repeat first|refine WK ?_|refine Ai λX=>?_|refine Ay λY=>?_);refine AWP.cond rfl (λh0=>?_) (λh0=>?_)
  ·have h0:s=0:=by have:=of_decide_eq_true h0;omega
   rw[if_pos h0];(repeat first|refine WK ?_|refine Ai λX=>?_|refine Ay λY=>?_);refine RT ?_;exact AQ [iA p,iA 1] [(X,_)] ⟨rfl,rfl⟩
  ·have h0:¬s=0:=by have:=of_decide_eq_false h0;omega
   rw[if_neg h0];(repeat first|refine WK ?_|refine Ai λX=>?_|refine Ay λY=>?_);refine AWP.cond rfl (λh1=>?_) (λh1=>?_)
   ·have h1:s=12:=by have:=of_decide_eq_true h1;omega
    rw[if_pos h1];(repeat first|refine WK ?_|refine Ai λX=>?_|refine Ay λY=>?_);refine RT ?_;exact AQ [iA p,iA 2] [(X,_)] ⟨rfl,rfl⟩
   ·have h1:¬s=12:=by have:=of_decide_eq_false h1;omega
    rw[if_neg h1];(repeat first|refine WK ?_|refine Ai λX=>?_|refine Ay λY=>?_);refine RT ?_;exact AQ [iA p,iA 0] [(X,_)] ⟨rfl,rfl⟩
end
end Go.Proofs.YtiidbamlcgbpnaaGreat
