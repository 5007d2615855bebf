/-
  Part 6 of the texts under the law WorldOwn: the layer of abstract values, walks and plain laws. Conditions: those that each theorem names.
-/
import Derived.Below
import Derived.Test.YtmkahplhnbbgmaaGreatWorldOwnP5
namespace Go.Proofs.YtmkahplhnbbgmaaGreat
open Tryz
set_option linter.unusedVariables false
set_option linter.unusedSimpArgs false
set_option linter.defProp false
set_option maxRecDepth 10000
set_option maxHeartbeats 4000000
variable {i:Nat}
variable {w:World}
theorem Pg(X V n i:Nat)(l:List AV)(e:AV)(hn:n=l.length)(hi:i<=n)(hb:(n+1)*40<=140737488355328)(hfr:FreeL l)(hfe:FreeE e)(hw:∀x∈l,x.width=3)(hwe:e.width=3)(hze:AV.frzs [e]=[e]):
  Spec prog 49 [.sl X 0 n,iA i,.sl V 0 1] [(X,.row 83 3 l),(V,.row 83 3 [e])] λr S'=>r= .lst true 83 3 (l.take i++e::l.drop i)/\S'=[]:=by
 refine Sp (nt:=95) (res:=[.tmp 6]) func49 λSf=>?_
 have hfV:FreeL [e]:=λx hx=>by rw[AS.1 hx];exact hfe
 have hwV:∀x∈[e],x.width=3:=λx hx=>by rw[AS.1 hx];exact hwe
 refine R1 ?_;refine RG ?_;refine WO ?_;refine WO ?_;refine AQ (W.slice_lo rfl rfl (by exact AY) rfl (by omega)) rfl ?_;refine NL ?_;refine R1 ?_;refine R1 ?_;refine Aa rfl rfl ?_;refine R1 ?_;refine R1 ?_;by_cases hin:i=n
 ·refine BE rfl (Br (by omega)) ?_
  refine Ls 2 [e] hze ?_;have hbb:(n+[e].length)*40<=140737488355328:=hb;refine KK ?_;refine Ay λY=>?_;refine KK ?_
  refine RT ?_;have hm:n+[e].length=(l++[e]).length:=by rw[Ax,hn]
  have hr:l++[e]=l.take i++e::l.drop i:=by rw[hin,hn,DJ,C0]
  rw[<-hr];exact⟨[.sl Y 0 (n+[e].length)],[.lst true 83 3 (l++[e])],_,[],.cons (.tmp rfl) rfl .nil,.cons (.cell (.sl (p:=0) .here hm)) .nil,by exact Av,rfl,rfl⟩
 ·refine Aa rfl (Bd (by omega)) ?_
  refine AWP.cap X λZ c u0 hc hnc=>?_
  refine RG ?_;(iterate 4 refine WO ?_);refine AQ (W.cap hc rfl (by exact AY) (by exact AY)) rfl ?_;refine JC ?_;refine AB rfl (λhg=>?_) (λhg=>?_)
  ·have hcn:c<n+1:=by rw[As]at hg;omega
   refine A9 λY=>?_
   refine RG ?_;(repeat first|(refine AX ?_;first|refine AQ (W.hi (a:=i) rfl rfl (by exact AY) rfl hi) rfl ?_|refine AQ (BS ((n+1-i:Nat):Int) (by omega) (by omega) rfl rfl) rfl ?_|refine CM (Nl (n+1-i) hc rfl rfl (by exact AY) (by exact AY) (by exact AY) rfl (by exact .inl rfl) (by rfl) (by kernel_rfl) (by omega) (by omega) (by decide) (by omega) (by omega) hfr) rfl ?_)|refine WO ?_|refine Ai λX=>?_|refine Ay λY=>?_);have hsum:i+(n+1-i)=n+1:=by omega
   obtain⟨l1,hl1⟩:=nm (l.take i++List.replicate (n+1-i) (zAV [.int .i64 0,.int .i64 0,.slice none 0 0] true));have hti:(l.take i).length=i:=by rw[BA];omega
   have hl1n:l1.length=n+1:=by rw[<-hl1,Ax,hti,Ci,hsum]
   have hfr1:FreeL l1:=λx hx=>by
    rw[<-hl1]at hx;rcases AN.1 hx with hx|hx
    ·exact hfr x (Ad hx)
    ·rw[Cg hx]
     exact FreeE.agg (us:=[.prim (.int .i64 0),.prim (.int .i64 0),.prim (.slice none 0 0)]) λy hy=>by
      simp only[Cq,DK,II]at hy;rcases hy with rfl|rfl|rfl<;>exact FreeE.prim _
   have htk:l1.take i=l.take i:=by rw[<-hl1,Cy hti]
   rw[hl1,hsum];refine JB ?_;refine WO ?_;refine WO ?_;refine AQ (W.slice_lo rfl rfl (by exact AY) rfl (by omega)) rfl ?_;refine WO ?_;refine CM (W.copyO 1 rfl rfl (by exact AY) (by exact AY) (by rfl) (by omega) (by omega) (by omega) (by omega) (by exact AP _) hfr1 hfV hwV) rfl ?_;obtain⟨l2,hl2⟩:=nm (l1.take (0+i)++([e].drop 0).take 1++l1.drop (0+i+1));rw[hl2];have hl2n:l2.length=n+1:=by rw[<-hl2];simp only[Ax,BA,Bb,CG];omega
   have hfr2:FreeL l2:=λx hx=>by
    rw[<-hl2]at hx;rcases AN.1 hx with hx|hx
    ·rcases AN.1 hx with hx|hx
     ·exact hfr1 x (Ad hx)
     ·exact hfV x (Ae (Ad hx))
    ·exact hfr1 x (Ae hx)
   have htk2:l2.take (0+(i+1))=l.take i++[e]:=by
    rw[<-hl2,Af,Af,htk];exact Cy (by simp[hti])
   refine FL ?_;refine RU ?_;(iterate 3 refine RK ?_);refine BQ ?_ (Bh ((i+1:Nat):Int) (by omega) (by omega) rfl rfl);refine BQ ?_ (W.slice_lo rfl rfl (by exact AY) rfl (by omega));refine JE ?_;refine BQ ?_ (W.slice_lo rfl rfl (by exact AY) rfl (by omega));refine Ea ?_ (W.copyO (n-i) rfl rfl (by exact AY) (by exact AY) (by rfl) (by omega) (by omega) (by omega) (by omega) (by omega) hfr2 hfr hw);refine RGo.nil (by kernel_rfl) ?_;obtain⟨l3,hl3⟩:=nm (l2.take (0+(i+1))++(l.drop (0+i)).take (n-i)++l2.drop (0+(i+1)+(n-i)));rw[hl3]
   have hr:l3=l.take i++e::l.drop i:=by
    have e1:l2.drop (0+(i+1)+(n-i))=[]:=BP (by omega);have e2:(l.drop (0+i)).take (n-i)=l.drop i:=by rw[Af];exact Al (by rw[Bb];omega)
    rw[<-hl3,htk2,e1,e2,BL,BC];rfl
   have hm:n+1=l3.length:=by
    rw[hr];simp only[Ax,EK,Bb,hti];omega
   refine JA ?_;rw[<-hr];exact⟨[.sl Y 0 (n+1)],[.lst true 83 3 l3],_,[],.cons (.tmp rfl) rfl .nil,.cons (.cell (.sl (p:=0) .here hm)) .nil,by exact Av,rfl,rfl⟩
  ·have hcn:n+1<=c:=by rw[Aq]at hg;omega
   refine RG ?_;(iterate 4 refine WO ?_);refine AQ (LZ (n+1) hc rfl rfl (by exact AY) (by exact AY) (by omega) hcn) rfl ?_;refine JC ?_;refine RG ?_;(iterate 4 refine WO ?_);refine AQ (Bh ((i+1:Nat):Int) (by omega) (by omega) rfl rfl) rfl ?_;refine AQ (W.slice_lo rfl rfl (by exact AY) rfl (by omega)) rfl ?_;refine AQ (W.over (t:=24) (tR:=4) func111 (by kernel_rfl) (by kernel_rfl) (by kernel_rfl) (by kernel_rfl) rfl rfl (by exact AY) (by exact AY) (by rfl) (by decide) (by omega) (by omega)) rfl ?_;refine WO ?_;refine FL ?_;refine BE rfl rfl ?_;refine RU ?_;(iterate 3 refine RK ?_);refine BQ ?_ (Bh ((i+1:Nat):Int) (by omega) (by omega) rfl rfl);refine BQ ?_ (W.slice_lo rfl rfl (by exact AY) rfl (by omega));refine JE ?_;refine BQ ?_ (W.slice_lo rfl rfl (by exact AY) rfl (by omega));refine Ea ?_ (W.copyS (n-i) rfl rfl (by exact AY) (by omega) (by omega) (by omega) (by omega) (by omega) hfr hw);refine RGo.nil (by kernel_rfl) ?_;have hti:(l.take i).length=i:=by rw[BA];omega
   obtain⟨l1,hl1⟩:=nm (l.take (0+(i+1))++(l.drop (0+i)).take (n-i)++l.drop (0+(i+1)+(n-i)));rw[hl1];have hti1:(l.take (i+1)).length=i+1:=by rw[BA];omega
   have hl1e:l1=l.take (i+1)++l.drop i:=by
    have e1:l.drop (0+(i+1)+(n-i))=[]:=BP (by omega);have e2:(l.drop (0+i)).take (n-i)=l.drop i:=by rw[Af];exact Al (by rw[Bb];omega)
    rw[<-hl1,e1,e2,BL,Af]
   have hfr1:FreeL l1:=λx hx=>by
    rw[hl1e]at hx;rcases AN.1 hx with hx|hx
    ·exact hfr x (Ad hx)
    ·exact hfr x (Ae hx)
   have hl1n:l1.length=n+1:=by rw[hl1e,Ax,hti1,Bb];omega
   have htk:l1.take i=l.take i:=by rw[hl1e,Bq (by omega),Cj,BJ (by omega)]
   have hdr:l1.drop (i+1)=l.drop i:=by rw[hl1e,Hs hti1]
   refine RG ?_;refine WO ?_;refine WO ?_;refine AQ (W.slice_lo rfl rfl (by exact AY) rfl (by omega)) rfl ?_;refine WO ?_;refine CM (W.copyO 1 rfl rfl (by exact AY) (by exact AY) (by rfl) (by omega) (by omega) (by omega) (by omega) (by exact AP _) hfr1 hfV hwV) rfl ?_;obtain⟨l2,hl2⟩:=nm (l1.take (0+i)++([e].drop 0).take 1++l1.drop (0+i+1));rw[hl2]
   have hr:l2=l.take i++e::l.drop i:=by
    rw[<-hl2,Af,htk,hdr,BC];rfl
   have hm:n+1=l2.length:=by
    rw[hr];simp only[Ax,EK,Bb,hti];omega
   refine FL ?_;refine JA ?_;rw[<-hr];exact⟨[.sl X 0 (n+1)],[.lst true 83 3 l2],_,[],.cons (.tmp rfl) rfl .nil,.cons (.cell (.sl (p:=1) (.next .here) hm)) .nil,by exact Av,rfl,rfl⟩
theorem OB(l:List Item)(t:AV)(f:FuncId)(cap:List AV)(g:Item->Int)(t0:Int)(ht:t=iA t0)(hs:DG cap=true)(hl:l.length<=4611686018427387904)(hf:∀x∈l,PS prog f (Aj false x::t::cap) (iA (g x))):
  Spec prog 46 [FN false false l,t,.fn f cap] [] λr S'=>∃b,Found g l b/\r= .tup [iA b.1,bA b.2]/\S'=[]:=by
 subst ht;refine Sp (nt:=49) (res:=[.tmp 6,.tmp 7]) func46 λSf=>?_
 have hlm:(l.map (Aj false)).length=l.length:=AD _;refine KK ?_;refine B6 (λ(i j:Nat)=>⟨[(0,FN false false l),(1,iA t0),(2,.fn f cap),(8,iA (l.map (Aj false)).length),(9,iA i),(10,iA j)],Sf⟩) (λi j=>i<=j/\j<=l.length/\(IA g l->Spl g l i j)) (λi j=>j-i) 0 (l.map (Aj false)).length ⟨Ap _,by omega,λ_=>⟨λk x h=>absurd h (by omega),λk x h hx=>by have:=(AC.1 hx).1;omega⟩⟩ ?_;rintro i j ⟨hij,hjn,hmono⟩;refine KK ?_;refine AB rfl (λhc=>?_) (λhc=>?_)
 ·have h:i<j:=by rw[As]at hc;omega
  have hmid:((i:Int)+j).fdiv (2^1)=(((i+j)/2:Nat):Int):=by
   rw[E6 _ (by decide)];omega
  have hw1:IntKind.u64.wrap ((i:Int)+j)=i+j:=by rw[Lz];omega
  have hw2:IntKind.i64.wrap (((i:Int)+j).fdiv (2^1))=((i:Int)+j).fdiv (2^1):=by
   rw[Um,hmid];omega
  refine RG ?_;(iterate 3 refine WO ?_);refine AQ (W.conv .i64 .u64 (by kernel_rfl) (by kernel_rfl) rfl hw1) rfl ?_;refine AQ (W.shr 1 rfl rfl rfl (by decide)) rfl ?_;refine AQ (W.conv .u64 .i64 (by kernel_rfl) (by kernel_rfl) rfl hw2) rfl ?_;refine JC ?_;rw[hmid];obtain⟨m,hm⟩:=nm ((i+j)/2);rw[hm];have hml:m<l.length:=by omega
  obtain⟨y,hy⟩:=nm (l[m]);have hya:l[m]?=some y:=by rw[Ag hml,hy]
  have hat:(l.map (Aj false))[m]?=some (Aj false y):=by rw[Am,hya];rfl
  have hfy:=hf y (by rw[<-hy];exact BG hml);refine RG ?_;refine KO ?_;refine GF (h:=(hfy ..)) (k:=?_);refine JC ?_;refine AB rfl (λhe=>?_) (λhe=>?_)
  ·have he:g y<0:=by simpa using he
   refine KK ?_;refine BV (m+1) j ⟨by omega,hjn,λhM=>(hmono hM).lo hM hya he⟩
  ·have he:¬g y<0:=by simpa using he
   refine KK ?_;refine BV i m ⟨by omega,by omega,λhM=>(hmono hM).hi hM hya he⟩
 ·have h:i=j:=by rw[Aq]at hc;omega
  subst h;by_cases hin:i<l.length
  ·have hil:i<l.length:=by omega
   have g1:decide ((i:Int)<(l.map (Aj false)).length)=true:=Br (by omega);obtain⟨y,hy⟩:=nm (l[i]);have hya:l[i]?=some y:=by rw[Ag hil,hy]
   have hat:(l.map (Aj false))[i]?=some (Aj false y):=by rw[Am,hya];rfl
   have hfy:=hf y (by rw[<-hy];exact BG hil);refine KK ?_;refine GF (h:=(hfy ..)) (k:=?_);refine JA ?_;exact⟨[iA i,bA (decide (g y=0))],[iA i,bA (decide (g y=0))],_,[],.cons (.tmp rfl) rfl (.cons (.tmp rfl) rfl .nil),.cons (.cell .same) (.cons (.cell .same) .nil),by exact Av,(i,decide (g y=0)),⟨by simp;omega,by simp[hya],hmono⟩,rfl,rfl⟩
  ·have g1:decide ((i:Int)<(l.map (Aj false)).length)=false:=Bd (by omega)
   refine JA ?_;exact⟨[iA i,bA false],[iA i,bA false],_,[],.cons (.tmp rfl) rfl (.cons (.tmp rfl) rfl .nil),.cons (.cell .same) (.cons (.cell .same) .nil),by exact Av,(i,false),⟨by simp;omega,by simp[Bk (show l.length<=i by omega)],hmono⟩,rfl,rfl⟩
theorem Q0(x:Item)(k:Int):PS prog 47 [Aj false x,iA k] (iA (Dl x.ent.n k)):=by
 refine Sp (nt:=10) (res:=[.tmp 4]) func47 λSf=>?_
 refine WK ?_;refine WK ?_;refine BX ?_;refine KK ?_;refine Bw (h:=(Fs x.ent.n k)) (k:=?_);refine JA ?_;refine An ?_;rfl
theorem KU(w:Wd)(h:WdOK w):J2 w.kinds []=([],0):=by
 unfold J2;rw[Ah (by simp[h.ks]),show FR w.kinds [] [] []=([],0)from by rw[FR],Ah (by simp)];simp[Mi]
set_option maxRecDepth 8000 in
set_option maxHeartbeats 4000000 in
theorem Qz(w:Wd)(hw:WdL w)(hok:WdOK w)(h12:w.kinds.length<=12):PS prog 10 [wdA false w,.prim (.slice none 0 0)] (.tup [wdA true (Ei w []).1,CH (Ei w []).2.1,iA (Ei w []).2.2]):=by
 have hck:=Hm w hw.gens hw.items.1 (λit hit=>(hw.items.2 it hit).1);have hft:=R4 w.kinds h12 hok.ks;have hfr:=UK w hw.gens hw.items.1;have hcp:=LM w hw;have hwf:=KU w hok;obtain⟨r,hr⟩:=nm (Ei w []);rw[hr];unfold Ei at hr;rw[(EP w).2 hok]at hck hr;rw[Ah (by simp),hwf]at hr;dsimp only at hr;rw[Ah (by simp)]at hr;refine Spec.of (nt:=80) (res:=[.cell 4 26,.cell 5 32,.tmp 6]) func10 rfl (by kernel_rfl) rfl rfl rfl λSf=>?_
 (repeat refine WF ?_);refine E8 ?_;refine EY λP=>?_
 refine EY λR=>?_
 refine EY λQ=>?_
 (repeat first|refine WO ?_|refine Ai λX=>?_|refine Ay λY=>?_);refine FL ?_;(repeat first|(refine AX ?_;first|(refine AZ ?_;first|refine DQ (h:=(hck ..)) (k:=?_)))|refine WK ?_|refine Ai λX=>?_|refine Ay λY=>?_);refine Aa rfl rfl ?_;refine FL ?_;refine A9 λLr=>?_
 refine RG ?_;(repeat first|(refine AX ?_;first|(refine AZ ?_;first|refine Fd hft (.tup (.cons (.cell (.lst (Y:=Lr) rfl) rfl rfl) rfl rfl (.cons .pr rfl rfl .nil))) ?_))|refine WO ?_|refine Ai λX=>?_|refine Ay λY=>?_);refine NL ?_;refine JB ?_;(repeat first|refine WO ?_|refine Ai λX=>?_|refine Ay λY=>?_);refine NL ?_;refine Aa rfl rfl ?_;refine FL ?_;(repeat first|(refine AX ?_;first|(refine AZ ?_;first|refine DQ (h:=(hfr ..)) (k:=?_)))|refine WK ?_|refine Ai λX=>?_|refine Ay λY=>?_);by_cases hb:(B7 w).2=false
 ·rw[A1 hb]at hr
  subst hr;refine BE rfl (by rw[hb];rfl) ?_;(repeat first|refine WK ?_|refine Ai λX=>?_|refine Ay λY=>?_);refine RT ?_;exact C3 [.agg [.prim (.slice none 0 0),.prim (.slice none 0 0),.prim (.slice none 0 0)],CH ⟨0,0⟩,iA 6] [wdA true wdE,CH ⟨0,0⟩,iA 6] (.cons (.agg (.cons .nil (.cons .nil (.cons .nil .nil)))) (.cons (.agg .r) (.cons (.cell .same) .nil)))
 rw[Ah hb]at hr;have hb:(B7 w).2=true:=by simpa using hb
 obtain⟨f1,f2,f3,f4⟩:=LB hok hb;refine Aa rfl (by rw[hb];rfl) ?_;obtain⟨n,hn⟩:=nm ((B7 w).1);rw[hn]at hr f1 f2 f3 f4⊢;obtain⟨g1,g2,g3,g4,g5,g6⟩:=OZ f1;refine A9 λI=>A9 λG=>A9 λK=>?_
 refine RG ?_;(repeat first|(refine AX ?_;first|(refine AZ ?_;first|refine Nv hcp (.v (.agg (.cons (.lst (Y:=K) rfl) (.cons (.lst (Y:=G) rfl) (.cons (.lst (Y:=I) rfl) .nil))))) ?_))|refine WO ?_|refine Ai λX=>?_|refine Ay λY=>?_);refine NL ?_;have hgm:(w.gens.map iA).length=w.gens.length:=AD _;have him:(w.items.map (Aj true)).length=w.items.length:=AD _;have hgl:=hok.gl;have hil:=hw.items.1;refine RG ?_;(repeat first|refine WO ?_|refine Ai λX=>?_|refine Ay λY=>?_);refine NL ?_;refine AH G ?_;have hb1:(w.gens.map iA).length+1<=1099511627776:=by omega
 refine Ch (λb:Nat×Nat×List AV=>b.2.1=b.2.2.length/\b.2.2=(Dy w.gens n).map iA) (λb=>⟨[(2,.ptr P 0 0),(4,.ptr R 0 0),(5,.ptr Q 0 0),(8,.sl Lr 0 0),(10,iA n)],(b.1,.row 3 1 b.2.2)::(K,.row 90 2 (w.kinds.map (A3 true)))::(I,.row 83 3 (w.items.map (Aj true)))::(Lr,.row 42 2 [])::(Q,.row 32 2 [CH ⟨0,0⟩])::(R,.row 26 3 [.agg [.prim (.slice none 0 0),.prim (.slice none 0 0),.prim (.slice none 0 0)]])::(P,.row 26 3 [.agg [.sl K 0 (w.kinds.map (A3 true)).length,.sl b.1 0 b.2.1,.sl I 0 (w.items.map (Aj true)).length]])::Sf⟩) ?_ ?_
 ·by_cases hc:n=w.gens.length
  ·refine BE rfl (Br (by omega)) ?_
   (repeat first|(refine AX ?_;first|(refine Id ?_;refine D5 (iA 0) ?_))|refine WK ?_|refine Ai λX=>?_|refine Ay λY=>?_);exact jn (Y,(w.gens.map iA).length+1,w.gens.map iA++[iA 0]) ⟨by simp,by unfold Dy;rw[A1 hc,AJ];rfl⟩
  ·refine Aa rfl (Bd (by omega)) ?_
   (repeat first|refine WK ?_|refine Ai λX=>?_|refine Ay λY=>?_);exact jn (G,(w.gens.map iA).length,w.gens.map iA) ⟨rfl,by unfold Dy;rw[Ah hc]⟩
 ·rintro⟨G,m,L⟩ ⟨hm,hL⟩
  dsimp only at hm hL⊢;obtain⟨gens,hgens⟩:=nm (Dy w.gens n);rw[hgens]at hL g1 g2 hr;obtain⟨g,hg⟩:=nm (gens.getD n 0);rw[hg]at g2 hr;have hat:L[n]?=some (iA g):=by rw[hL,Am,g2];rfl
  have hnm:n<m:=by rw[hm,hL,AD];exact g1
  refine RG ?_;(repeat first|refine WO ?_|refine Ai λE=>?_|refine Ay λY=>?_);refine NL ?_;have hse:=OB w.items (iA n) 47 [] (λx=>Dl x.ent.n n) n rfl rfl (by omega) (λx _=>Q0 x n);refine RG ?_;(repeat first|refine WO ?_|refine Ai λX=>?_|refine Ay λY=>?_);refine Te hse (Ld.row (by exact AY) rfl) .frz .frz λb hb=>?_;have hbi:=RP hok.so hb;have hbl:=hb.le;obtain⟨bi,bb⟩:=b;dsimp only at hbi hbl⊢;(repeat first|refine WO ?_|refine Ai λX=>?_|refine Ay λY=>?_);refine FL ?_;refine AH I ?_;refine GX hoI w.items _ λL2 hL2=>?_
  have hLl:L2.length=w.items.length:=by rw[<-hL2,AD]
  have hLm:(L2.map λx=>itL x.1 x.2).length=w.items.length:=by rw[AD,hLl]
  refine A9 λY=>A9 λK2=>?_
  have hin2:=(Pg I K2 (w.items.map (Aj true)).length bi (L2.map λx=>itL x.1 x.2) (itL Lr ⟨⟨n,g⟩,[]⟩) (by rw[him,hLm]) (by omega) (by omega) (Mj L2) (OV (Lr,⟨⟨n,g⟩,[]⟩)) (OU L2) rfl rfl).used2;refine RG ?_;(repeat first|(refine AX ?_;first|(refine AZ ?_;first|refine I8 hin2 (.ls (Y:=Y)) ?_)|refine CM (W.lit1 (X:=K2) (l:=[itL Lr ⟨⟨n,g⟩,[]⟩]) (by exact rfl) (by exact AY) (by exact rfl) (by exact .inl rfl) (by decide) (by decide) (by exact rfl)) rfl ?_)|refine WO ?_|refine Ai λX=>?_|refine Ay λY=>?_);refine NL ?_;have hrow:(L2.map λx=>itL x.1 x.2).take bi++itL Lr ⟨⟨n,g⟩,[]⟩::(L2.map λx=>itL x.1 x.2).drop bi=(L2.take bi++(Lr,(⟨⟨n,g⟩,[]⟩:Item))::L2.drop bi).map λx=>itL x.1 x.2:=by rw[AJ,AR,F0,List.map_drop]
  have hsnd:(L2.take bi++(Lr,(⟨⟨n,g⟩,[]⟩:Item))::L2.drop bi).map (·.2)=GQ w.items ⟨⟨n,g⟩,[]⟩:=by
   rw[AJ,AR,F0,List.map_drop,hL2,QW,hbi]
  have hrl:((L2.map λx=>itL x.1 x.2).take bi++itL Lr ⟨⟨n,g⟩,[]⟩::(L2.map λx=>itL x.1 x.2).drop bi).length=(GQ w.items ⟨⟨n,g⟩,[]⟩).length:=by rw[hrow,AD,<-hsnd,AD]
  have hper:((Lr,AO.row 42 2 (([]:List Comp).map (AT true)))::L2.map (lvO 42 2 λa=>a.comps.map (AT true))).Perm ((L2.take bi++(Lr,(⟨⟨n,g⟩,[]⟩:Item))::L2.drop bi).map (lvO 42 2 λa=>a.comps.map (AT true))):=by
   have h:(L2.take bi++(Lr,(⟨⟨n,g⟩,[]⟩:Item))::L2.drop bi).Perm ((Lr,⟨⟨n,g⟩,[]⟩)::L2):=by
    refine List.perm_middle.trans ?_;rw[Bi]
   exact(h.map (lvO 42 2 λa=>a.comps.map (AT true))).symm
  rw[hrl,hrow];refine AH Lr ?_;refine AH E ?_;refine AH Q ?_;refine AH R ?_;refine AH G ?_;refine AH K ?_;refine AH P ?_;refine AH Y ?_;refine Fv (S':=(Y,.row 83 3 ((L2.take bi++(Lr,(⟨⟨n,g⟩,[]⟩:Item))::L2.drop bi).map λx=>itL x.1 x.2))::(P,.row 26 3 [.agg [.sl K 0 (w.kinds.map (A3 true)).length,.sl G 0 m,.sl Y 0 (GQ w.items ⟨⟨n,g⟩,[]⟩).length]])::(K,.row 90 2 (w.kinds.map (A3 true)))::(G,.row 3 1 L)::(R,.row 26 3 [.agg [.prim (.slice none 0 0),.prim (.slice none 0 0),.prim (.slice none 0 0)]])::(Q,.row 32 2 [CH ⟨0,0⟩])::(E,.row 32 2 [CH ⟨n,g⟩])::(Lr,.row 42 2 [])::(Sf++L2.map (lvO 42 2 λa=>a.comps.map (AT true)))) (by exact Av) ?_;refine AWP.perm (.cons _ (.cons _ (.cons _ (.cons _ (.cons _ (.cons _ (.cons _ List.perm_middle.symm))))))) ?_;refine Fw hcI (L2.take bi++(Lr,(⟨⟨n,g⟩,[]⟩:Item))::L2.drop bi) ((P,_)::(K,_)::(G,_)::(R,_)::(Q,_)::(E,_)::Sf) ((Lr,_)::L2.map (lvO 42 2 λa=>a.comps.map (AT true))) _ hper (.refl _) ?_;rw[hsnd];refine RU ?_;(repeat first|refine RK ?_|refine RGo.nil (by kernel_rfl) ?_);refine RT ?_;subst hr;subst hL;have hlI:(GQ w.items ⟨⟨n,g⟩,[]⟩).length=((GQ w.items ⟨⟨n,g⟩,[]⟩).map (Aj true)).length:=(AD _).symm;exact C3 [.agg [.sl K 0 (w.kinds.map (A3 true)).length,.sl G 0 m,.sl Y 0 (GQ w.items ⟨⟨n,g⟩,[]⟩).length],CH ⟨n,g⟩,iA 0] [wdA true ⟨w.kinds,gens,GQ w.items ⟨⟨n,g⟩,[]⟩⟩,CH ⟨n,g⟩,iA 0] (.cons (.agg (.cons (.sl (by exact AY) rfl) (.cons (.sl (by exact AY) hm) (.cons (.sl (by exact AY) hlI) .nil)))) (.cons (.agg .r) (.cons (.cell .same) .nil)))
theorem Pv(X n i:Nat)(l:List AV)(hn:n=l.length)(hi:i<n)(hl:n<=1099511627776)(hfr:FreeL l)(hw:∀e∈l,e.width=2):
  Spec prog 55 [.sl X 0 n,iA i,iA ((i:Int)+1)] [(X,.row 42 2 l)] λr S'=>r= .lst true 42 2 (l.eraseIdx i)/\S'=[]:=by
 subst hn;refine Sp (nt:=33) (res:=[.tmp 6]) func55 λSf=>?_
 have h1:((i:Int)+1)=((i+1:Nat):Int):=by omega
 refine R1 ?_;refine RG ?_;(iterate 5 refine WO ?_);refine AQ (W.slice3 (lo:=i) (hi:=i+1) (mx:=l.length) rfl rfl rfl rfl (by exact AY) rfl h1 rfl (by omega) (by omega) (AP _)) rfl ?_;refine NL ?_;refine R1 ?_;refine Aa rfl (Bd (by omega)) ?_;refine R1 ?_;have hel:(l.eraseIdx i).length=l.length-1:=List.length_eraseIdx_of_lt hi;rcases Ga (i+1) l.length with hj|hj
 ·have hp:=HM hi
  refine RU ?_;refine JE ?_;refine RGo.p (W.hi rfl rfl (by exact AY) rfl (by omega)) rfl ?_;refine JE ?_;refine RGo.p (W.slice_lo (lo:=i+1) rfl rfl (by exact AY) h1 (by omega)) rfl ?_;refine RGo.s (W.appS (l.length-(i+1)) (by omega) (by omega) (by omega) hfr hw rfl rfl (by exact AY)) rfl ?_;refine RK ?_;refine RGo.nil (by kernel_rfl) ?_;rw[Af];have hln:i+(l.length-(i+1))=l.length-1:=by omega
  have hLl:(l.take i++(l.drop (i+1)).take (l.length-(i+1))++l.drop (i+(l.length-(i+1)))).length=l.length:=by simp only[Ax,BA,Bb];omega
  have hLp:=hp (l.drop (i+(l.length-(i+1))));obtain⟨L',hL'⟩:∃L',l.take i++(l.drop (i+1)).take (l.length-(i+1))++l.drop (i+(l.length-(i+1)))=L':=⟨_,rfl⟩;rw[hL']at hLl hLp⊢
  have key:∀Z D,((L'.take (i+(l.length-(i+1)))++Z)++D).take (i+(l.length-(i+1)))=l.eraseIdx i:=λZ D=>by
   rw[BC,Bq (by rw[BA];omega),Cj,Lw,hLp]
  refine RG ?_;(iterate 4 refine WO ?_);refine AQ (Nk (lo:=i+(l.length-(i+1))) (hi:=l.length) rfl rfl rfl (by exact AY) rfl rfl (by omega) (by omega)) rfl ?_;refine CM (W.clear rfl (by exact AY) (by first|exact .inl rfl|exact .inr rfl) rfl (by omega)) rfl ?_;refine NL ?_;refine R1 ?_;refine Gt (X:=X) (i+(l.length-(i+1))) ?_;rw[Af,key];refine RT ?_;exact⟨[.sl X 0 (i+(l.length-(i+1)))],[.lst true 42 2 (l.eraseIdx i)],_,[],.cons (.tmp rfl) rfl .nil,.cons (.cell (.sl (p:=0) .here (by rw[hel];omega))) .nil,by exact Av,rfl,rfl⟩
 ·have hie:i=l.length-1:=by omega
  have hl0:l.length-(i+1)=0:=by omega
  have hle:l.eraseIdx i=l.take i:=by rw[EO,BP (by omega),BL]
  have key:∀Z D,((l.take i++Z)++D).take i=l.eraseIdx i:=λZ D=>by
   rw[BC,Bq (by rw[BA];omega),Cj,Lw,hle]
  refine RU ?_;refine JE ?_;refine RGo.p (W.hi rfl rfl (by exact AY) rfl (by omega)) rfl ?_;refine JE ?_;refine RGo.p (W.slice_lo (lo:=i+1) rfl rfl (by exact AY) h1 (by omega)) rfl ?_;rw[hl0];refine RGo.p (W.app0 rfl rfl (by exact AY)) rfl ?_;refine RK ?_;refine RGo.nil (by kernel_rfl) ?_;refine RG ?_;(iterate 4 refine WO ?_);refine AQ (Nk (lo:=i) (hi:=l.length) rfl rfl rfl (by exact AY) rfl rfl (by omega) (by omega)) rfl ?_;refine CM (W.clear rfl (by exact AY) (by first|exact .inl rfl|exact .inr rfl) rfl (by omega)) rfl ?_;refine NL ?_;refine R1 ?_;refine Gt (X:=X) i ?_;simp only[Af];rw[key];refine RT ?_;exact⟨[.sl X 0 i],[.lst true 42 2 (l.eraseIdx i)],_,[],.cons (.tmp rfl) rfl .nil,.cons (.cell (.sl (p:=0) .here (by rw[hel];omega))) .nil,by exact Av,rfl,rfl⟩
set_option maxRecDepth 8000 in
set_option maxHeartbeats 4000000 in
theorem Sv(w:Wd)(e:Ent)(k:Int)(hw:WdL w):PS prog 15 [wdA false w,CH e,iA k] (.tup [wdA true (HN w e k).1,iA (HN w e k).2]):=by
 have hfd:=JR w e hw;obtain⟨r,hr⟩:=nm (HN w e k);rw[hr];unfold HN at hr;obtain⟨v,hv⟩:=nm (En w e);rw[hv]at hfd;unfold En at hv;obtain⟨we,hwe⟩:=nm (ET w);rw[hwe]at hv hr;refine Spec.of (nt:=52) (res:=[.cell 6 26,.tmp 7]) func15 rfl (by kernel_rfl) rfl rfl rfl λSf=>?_
 (repeat refine WF ?_);refine E8 ?_;refine EY λP=>?_
 refine BX ?_;refine EY λR=>?_
 (repeat first|refine WO ?_|refine Ai λX=>?_|refine Ay λY=>?_);refine FL ?_;refine A9 λI=>A9 λG=>A9 λK=>?_
 refine RG ?_;(repeat first|(refine AX ?_;first|(refine AZ ?_;first|refine Fd hfd (.tup (.cons (.agg (.cons (.lst (Y:=K) rfl) (.cons (.lst (Y:=G) rfl) (.cons (.lst (Y:=I) rfl) .nil)))) rfl rfl (.cons .pr rfl rfl (.cons .pr rfl rfl .nil)))) ?_))|refine WO ?_|refine Ai λX=>?_|refine Ay λY=>?_);refine FL ?_;(repeat first|refine WK ?_|refine Ai λX=>?_|refine Ay λY=>?_);by_cases hd:we≠0
 ·rw[A1 hd]at hv hr
  subst hv;subst hr;refine BE rfl (Br hd) ?_;(repeat first|refine WK ?_|refine Ai λX=>?_|refine Ay λY=>?_);refine RT ?_;exact C3 [.agg [.prim (.slice none 0 0),.prim (.slice none 0 0),.prim (.slice none 0 0)],iA we] [wdA true wdE,iA we] (.cons (.agg (.cons .nil (.cons .nil (.cons .nil .nil)))) (.cons (.cell .same) .nil))
 rw[Ah hd]at hv hr;by_cases hg:Dg w.items e<0
 ·rw[A1 hg]at hv hr
  subst hv;subst hr;refine BE rfl rfl ?_;(repeat first|refine WK ?_|refine Ai λX=>?_|refine Ay λY=>?_);refine RT ?_;exact C3 [.agg [.prim (.slice none 0 0),.prim (.slice none 0 0),.prim (.slice none 0 0)],iA 4] [wdA true wdE,iA 4] (.cons (.agg (.cons .nil (.cons .nil (.cons .nil .nil)))) (.cons (.cell .same) .nil))
 rw[Ah hg]at hv hr;obtain⟨n,hn⟩:∃n:Nat,Dg w.items e=n:=⟨(Dg w.items e).toNat,by omega⟩;rw[hn,Co]at hr;rw[hn]at hv;subst hv;obtain⟨it,hit,_,hen⟩:=Gk hn;have hok:=(EP w).1 (hwe.trans (by simpa using hd));rw[hit]at hr;dsimp only at hr;refine Aa rfl rfl ?_;have him:(w.items.map (Aj true)).length=w.items.length:=AD _;have hnl:n<w.items.length:=(AC.1 hit).1;have hil:=hw.items.1;have hcl:=hw.items.2 _ (Bc hit);have hsort:=(held_iff.1 (hok.it it (Bc hit)).2.2.2.2).1;obtain⟨⟨en,eg⟩,cs⟩:=it;dsimp only at hcl hsort hr;have hat:(w.items.map (Aj true))[n]?=some (Aj true ⟨⟨en,eg⟩,cs⟩):=by rw[Am,hit];rfl
 have hnm:n<(w.items.map (Aj true)).length:=by omega
 refine RG ?_;(repeat first|refine WO ?_|refine Ai λX=>?_|refine Ay λY=>?_);refine NL ?_;refine CE (Y:=I) (by exact AY) (λ_=>Hos.at hat (.agg (.tail (.tail (.head .here))))) λC=>?_
 have hat1:((w.items.map (Aj true)).set n (.agg [iA en,iA eg,.sl C 0 (cs.map (AT true)).length]))[n]?=some (.agg [iA en,iA eg,.sl C 0 (cs.map (AT true)).length]):=BF hnm
 have hap:Spec prog 53 [.sl C 0 (cs.map (AT true)).length,iA k] [(C,.row 42 2 (cs.map (AT true)))] λr' S'=>r'= .tup [iA (DW cs k),bA (DD cs k).isSome]/\S'=[(C,.row 42 2 (cs.map (AT true)))]:=
  PS.lend (U9 cs k hsort (by have:=hcl.1;omega)) rfl (.cons (Ld.row .here rfl) (.cons .frz .nil))
 have hle:=Mx cs k;have hcm:(cs.map (AT true)).length=cs.length:=AD _;by_cases hb:(DD cs k).isSome=true
 ·rw[A1 hb]at hr
  have hlt:=Ja (k:=k) hsort hb;have hde:=Or hsort hb;rw[hb]at hap;obtain⟨i,hi⟩:=nm (DW cs k);rw[hi]at hlt hde hap;refine RG ?_;(repeat first|(refine AX ?_;first|(refine AZ ?_;first|refine Fd hap .fz ?_))|refine WO ?_|refine Ai λX=>?_|refine Ay λY=>?_);refine NL ?_;refine RG ?_;(repeat first|refine WO ?_|refine Ai λX=>?_|refine Ay λY=>?_);refine NL ?_;refine Aa rfl rfl ?_;rw[hcm];rw[hcm]at hat1;refine AH C ?_;refine GX hoC cs _ λL hL=>?_
  have hLl:L.length=cs.length:=by rw[<-hL,AD]
  have hLm:(L.map λx=>Fa x.1 x.2).length=cs.length:=by rw[AD,hLl]
  have hcl1:=hcl.1;refine A9 λY=>?_
  have hdl:=(Pv C cs.length i (L.map λx=>Fa x.1 x.2) hLm.symm (by omega) (by omega) (LP L) (My L)).used;refine RG ?_;(repeat first|(refine AX ?_;first|(refine AZ ?_;first|refine I8 hdl (.ls (Y:=Y)) ?_)|refine AQ (Bh ((i:Int)+1) rfl (by omega) rfl rfl) rfl ?_)|refine WO ?_|refine Ai λX=>?_|refine Ay λY=>?_);refine NL ?_;have he:(L.map λx=>Fa x.1 x.2).eraseIdx i=(L.eraseIdx i).map λx=>Fa x.1 x.2:=(E0 _ _ _).symm
  have heL:(L.eraseIdx i).map (·.2)=EI cs k:=by rw[E0,hL,hde]
  have hel:((L.map λx=>Fa x.1 x.2).eraseIdx i).length=(EI cs k).length:=by rw[he,AD,<-heL,AD]
  have hatY:∀q,((w.items.map (Aj true)).set n (.agg [iA en,iA eg,.sl Y 0 q]))[n]?=some (.agg [iA en,iA eg,.sl Y 0 q]):=λq=>BF hnm
  rw[hel,he];refine AH P ?_;refine AH R ?_;refine AH G ?_;refine AH K ?_;refine AH I ?_;refine AH Y ?_;refine Fv (S':=(Y,.row 42 2 ((L.eraseIdx i).map λx=>Fa x.1 x.2))::(I,.row 83 3 (((w.items.map (Aj true)).set n (.agg [iA en,iA eg,.sl C 0 cs.length])).set n (.agg [iA en,iA eg,.sl Y 0 (EI cs k).length])))::(K,.row 90 2 (w.kinds.map (A3 true)))::(G,.row 3 1 (w.gens.map iA))::(R,.row 26 3 [.agg [.prim (.slice none 0 0),.prim (.slice none 0 0),.prim (.slice none 0 0)]])::(P,.row 26 3 [.agg [.sl K 0 (w.kinds.map (A3 true)).length,.sl G 0 (w.gens.map iA).length,.sl I 0 (w.items.map (Aj true)).length]])::(Sf++L.map (lvO 3 1 λa=>a.vals.map iA))) (by exact Av) ?_;refine Fw hcC (L.eraseIdx i) ((I,_)::(K,_)::(G,_)::(R,_)::(P,_)::Sf) (L.map (lvO 3 1 λa=>a.vals.map iA)) _ (.refl _) ((List.eraseIdx_sublist L i).map _) ?_;rw[heL,List.set_set];refine Bg (X:=Y) (Y:=I) (n:=(EI cs k).length) (ll:=(EI cs k).map (AT true)) (by exact AY) (by exact AY) (by rfl) (AD _).symm (Hos.at (hatY _) (.agg (.tail (.tail (.head .here))))) ?_;have hfin:(((w.items.map (Aj true)).set n (.agg [iA en,iA eg,.sl Y 0 (EI cs k).length])).set n (.agg [iA en,iA eg,.lst true 42 2 ((EI cs k).map (AT true))]))=(w.items.set n ⟨⟨en,eg⟩,EI cs k⟩).map (Aj true):=by rw[List.set_set,A8];rfl
  rw[hfin];have hlI:(w.items.map (Aj true)).length=((w.items.set n ⟨⟨en,eg⟩,EI cs k⟩).map (Aj true)).length:=by simp
  rw[IE hit]at hr;subst hr;(repeat first|refine WK ?_|refine Ai λX=>?_|refine Ay λY=>?_);refine RT ?_;exact C3 [.agg [.sl K 0 (w.kinds.map (A3 true)).length,.sl G 0 (w.gens.map iA).length,.sl I 0 (w.items.map (Aj true)).length],iA 0] [wdA true ⟨w.kinds,w.gens,w.items.set n ⟨⟨en,eg⟩,EI cs k⟩⟩,iA 0] (.cons (.agg (.cons (.sl (by exact AY) rfl) (.cons (.sl (by exact AY) rfl) (.cons (.sl (by exact AY) hlI) .nil)))) (.cons (.cell .same) .nil))
 ·rw[Ah hb]at hr
  subst hr;rw[show(DD cs k).isSome=false by simpa using hb]at hap;refine RG ?_;(repeat first|(refine AX ?_;first|(refine AZ ?_;first|refine Fd hap .fz ?_))|refine WO ?_|refine Ai λX=>?_|refine Ay λY=>?_);refine NL ?_;refine RG ?_;(repeat first|refine WO ?_|refine Ai λX=>?_|refine Ay λY=>?_);refine NL ?_;refine BE rfl rfl ?_;(repeat first|refine WK ?_|refine Ai λX=>?_|refine Ay λY=>?_);refine RT ?_;exact C3 [.agg [.prim (.slice none 0 0),.prim (.slice none 0 0),.prim (.slice none 0 0)],iA 4] [wdA true wdE,iA 4] (.cons (.agg (.cons .nil (.cons .nil (.cons .nil .nil)))) (.cons (.cell .same) .nil))
theorem T1(w:Wd)(n:Int)(h:w.items=[]):PS prog 11 [wdA false w,iA n] (.tup [CH ⟨0,0⟩,bA false]):=by
 refine Sp (nt:=21) (res:=[.cell 4 32,.tmp 5]) func11 λSf=>?_
 refine RG ?_;refine BX ?_;refine WO ?_;refine Ai λR=>?_;refine JC ?_
 refine KK ?_;refine BE rfl (by rw[h];rfl) ?_;refine JA ?_;exact C3 [CH ⟨0,0⟩,bA false] [CH ⟨0,0⟩,bA false] (.cons (.agg .r) (.cons (.cell .same) .nil))
theorem SN(w:Wd)(n:Int)(i:Nat)(it:Item)(hi:n%(w.items.length:Int)=i)(h:w.items[i]?=some it)(hl:w.items.length<=4611686018427387904):PS prog 11 [wdA false w,iA n] (.tup [CH it.ent,bA true]):=by
 have him:(w.items.map (Aj false)).length=w.items.length:=AD _;have hil:i<w.items.length:=(AC.1 h).1;have hb:=LW n (w.items.map (Aj false)).length (by omega) (by omega);rw[him,hi,<-him]at hb;obtain⟨⟨en,eg⟩,cs⟩:=it;have hat:(w.items.map (Aj false))[i]?=some (Aj false ⟨⟨en,eg⟩,cs⟩):=by rw[Am,h];rfl
 refine Sp (nt:=21) (res:=[.cell 4 32,.tmp 5]) func11 λSf=>?_
 refine RG ?_;refine BX ?_;refine WO ?_;refine Ai λR=>?_;refine JC ?_
 refine KK ?_;refine Aa rfl (Bd (by omega)) ?_;refine RU ?_;(iterate 6 refine RK ?_);refine Je (h:=hb) (k:=?_);(iterate 5 refine RK ?_);refine RGo.nil (by kernel_rfl) ?_;refine RT ?_;exact C3 [CH ⟨en,eg⟩,bA true] [CH ⟨en,eg⟩,bA true] (.cons (.agg .r) (.cons (.cell .same) .nil))
def EJ(c:Nat)(n:Int)(l:List Int):List Int:=(List.range c).map λj=>l.getD j n
theorem Iy(c:Nat)(n:Int)(l:List Int):(EJ c n l).length=c:=by simp[EJ]
theorem H7(c:Nat)(n:Int)(l:List Int):EJ (c+1) n l=EJ c n l++[l.getD c n]:=by simp[EJ,List.range_succ]
theorem UU(ks:List Kind)(n:Int)(l:List Int)(i:Nat)(hil:i<ks.length)(hi:n%(ks.length:Int)=i)(h8:(ks[i]).fields.length<=8)(hlen:ks.length<=1099511627776):
  PS prog 14 [Bz false false ks,iA n,BU false l] (AT false ⟨i,EJ (ks[i]).fields.length n l⟩):=by
 refine Sp (nt:=42) (res:=[.cell 6 42]) func14 λSf=>?_
 have hb0:PS prog 50 [iA n,iA (ks.map (A3 false)).length] (iA i):=by
  have:=LW n (ks.length:Int) (by omega) (by omega);rw[hi]at this;simpa using this
 refine KK ?_;refine Ai λX=>?_;refine KK ?_;refine Bw (h:=(hb0 ..)) (k:=?_);refine KK ?_;refine Ai λX=>?_;refine KK ?_
 rename_i R;refine C1 3 1 .here (λF=>.cons (.agg (.s (.cons (.base .nil) .nil))) .nil) λF=>?_
 refine GD (λ(j F:Nat) (L:List AV)=>⟨[(1,iA n),(2,BU false l),(6,.ptr R 0 0),(7,.ptr X 0 0),(21,iA ((ks[i]).fields.map fieldA).length),(22,iA j)],(F,.row 3 1 L)::(X,.row 42 2 [.agg [iA i,.sl F 0 j]])::(R,.row 42 2 [.agg [iA 0,.prim (.slice none 0 0)]])::Sf⟩) (λj _ L=>j<=(ks[i]).fields.length/\L=(EJ j n l).map iA) (λj _ _=>(ks[i]).fields.length-j) 0 F [] ⟨Ap _,rfl⟩ ?_;rintro j F L ⟨hj,hL⟩;have hLl:L.length=j:=by rw[hL,AD,Iy]
 refine KK ?_;refine AB rfl (λhb=>?_) (λhb=>?_)
 ·have h:j<(ks[i]).fields.length:=by rw[As,AD]at hb;omega
  refine KK ?_;refine AB rfl (λhc=>?_) (λhc=>?_)
  ·have hc:j<l.length:=by simpa using hc
   refine KK ?_;refine Ay λY=>?_;refine KK ?_
   refine Ek (j+1) _ _ ⟨h,?_⟩;rw[H7,AJ,hL,show l.getD j n=l[j]from by simp[D2,hc]];rfl
  ·have hc:¬j<l.length:=by simpa using hc
   refine KK ?_;refine Ay λY=>?_;refine KK ?_
   refine Ek (j+1) _ _ ⟨h,?_⟩;rw[H7,AJ,hL,show l.getD j n=n from by simp[D2,Bk (FP hc)]];rfl
 ·have h:j=(ks[i]).fields.length:=by rw[Aq,AD]at hb;omega
  subst h;refine FL ?_;refine Ht (X:=F) .here (.next .here) rfl (.cons (.agg (.s (.cons (.base (.sl (by omega))) .nil))) .nil) ?_
  have hF:AV.frzs ((L.drop 0).take (ks[i]).fields.length)=(EJ (ks[i]).fields.length n l).map iA:=by
   rw[Dq,Al (by omega),hL];exact Frzs.h
  rw[hF];refine JA ?_;refine Qh (rs:=[AT false ⟨i,EJ (ks[i]).fields.length n l⟩]) rfl (.cons (.cell (p:=2) rfl (.next (.next .here)) TAg.h TSize.h rfl rfl) rfl .nil)
theorem Od(l:List Int):0<(Fo l).kinds.length/\(Fo l).kinds.length<=4:=⟨Na l,(K7 l).1⟩
theorem RZ{ks:List Kind}(hk:CL ks=0)(hi:i<ks.length)(n:Int)(l:List Int):TK ks ⟨i,EJ (ks[i]).fields.length n l⟩:=by
 refine⟨by dsimp only;omega,by dsimp only;omega,ks[i],by dsimp only;rw[Co,Ag hi],?_⟩;rw[LC ((DP hk).2 _ (BG hi)) (by rw[Iy])]
theorem KT{w:Wd}(h:WdOK w):WdS w:=by
 obtain⟨h16,ho⟩:=DP h.ks;have hgl:=h.gl;have hil:=h.il;refine⟨by omega,λk hk=>by have:=(EF (ho k hk)).2.1;omega,by omega,λg hg=>by have:=h.gs g hg;omega,by omega,λit hit=>?_⟩;obtain⟨_,_,c,_,e⟩:=h.it it hit;have hg:=h.gs _ (Bc c);obtain⟨s1,s2⟩:=K5 h.ks e;refine⟨by omega,by omega,λd hd=>⟨by have:=s2 d hd;omega,λv hv=>?_⟩⟩;obtain⟨_,_,k,_,hh⟩:=(held_iff.1 e).2 d hd;obtain⟨_,h2,_⟩:=HK (k:=k) (v:=d.vals) (by rw[JP hh]);rw[JP hh]at h2;have h2:d.vals=List.zipWith Cs k.fields d.vals:=h2;rw[h2]at hv;obtain⟨i,hi,rfl⟩:=B4 hv;rw[List.getElem_zipWith];have:=NP (k.fields[i]'(by rw[List.length_zipWith]at hi;omega)) (d.vals[i]'(by rw[List.length_zipWith]at hi;omega));omega
theorem MC{w:Wd}(hw:WdOK w){L M:List Item}(hp:L.Perm M)(hm:M.Perm w.items)(hs:L.Pairwise λx y=>x.ent.n<=y.ent.n):L=w.items:=by
 refine Vl (le:=λx y=>x.ent.n<=y.ent.n) (λx y hx hy h1 h2=>?_) hs (hw.so.imp λh=>by omega) (hp.trans hm);exact QR (key:=λx:Item=>x.ent.n) hw.so ((hp.trans hm).mem_iff.1 hx) hy (by omega)
theorem U3:WdS ⟨[],[],[]⟩:=⟨by simp,by simp,by simp,by simp,by simp,by simp⟩
theorem Ts{w:Wd}(h:WdOK w):WdS (Ei w []).1:=by
 by_cases hf:(B7 w).2=true
 ·rw[PQ h hf (KU w h)]
  exact KT (SG h hf (held_iff.2 ⟨.nil,by simp⟩))
 ·have:Ei w []=(⟨[],[],[]⟩,⟨0,0⟩,6):=by
   unfold Ei;rw[Ah (by simp[(EP w).2 h]),KU w h,Ah (by simp),A1 (by simpa using hf)]
  rw[this];exact U3
theorem VS{w:Wd}(h:WdOK w){it:Item}(hi:w.items[i]?=some it):WdS (HJ w it.ent).1:=by
 rw[RF h hi];exact KT (UA h hi)
theorem Vy{w:Wd}(h:WdOK w){it:Item}(hi:w.items[i]?=some it){j:Nat}{k:Kind}{cv vs:List Int}(hk:w.kinds[j]?=some k)(hf:Ce k cv=(vs,0)):WdS ⟨w.kinds,w.gens,w.items.set i ⟨it.ent,Ev it.comps ⟨j,vs⟩⟩⟩:=by
 have hjl:=(AC.1 hk).1;have h1:=VJ h hi (c:=⟨j,cv⟩) ⟨by dsimp only;omega,by dsimp only;omega,k,by simpa using hk,by rw[hf]⟩;rw[QY (k:=k) (by simpa using hk),hf]at h1;obtain⟨⟨en,eg⟩,cs⟩:=it;rw[IE hi]at h1;exact KT h1
theorem VX{w:Wd}(h:WdOK w){it:Item}(hi:w.items[i]?=some it)(k:Int):WdS (HN w it.ent k).1:=by
 rw[RW h hi];split
 ·exact KT (Kg h hi (RL (h.it it (Bc hi)).2.2.2.2))
 ·exact U3
abbrev wdY(K G I:Nat)(w:Wd):AV:=.agg [.sl K 0 (w.kinds.map (A3 true)).length,.sl G 0 (w.gens.map iA).length,.sl I 0 (w.items.map (Aj true)).length]
theorem Fh(K G I:Nat)(w:Wd)(hw:WdS w):Spec prog 8 [wdY K G I w] (VF K G I w) λr S'=>r= .tup []/\S'=[]:=by
 have e1:(w.kinds.map (A3 true)).length=w.kinds.length:=AD _;have e2:(w.gens.map iA).length=w.gens.length:=AD _;have e3:(w.items.map (Aj true)).length=w.items.length:=AD _;unfold wdY;rw[e1,e2,e3];exact SE K G I w hw
theorem MM(a b:List Kind)(f:FuncId)(cap:List AV)(p:Kind->Kind->Bool)(hs:DG cap=true)(hl:a.length<=4611686018427387904)(hf:∀x∈a,∀y∈b,PS prog f ((A3 false) x::(A3 false) y::cap) (bA (p x y))):
  PS prog 80 [.lst false 90 2 (a.map (A3 false)),.lst false 90 2 (b.map (A3 false)),.fn f cap] (bA (eqF p a b)):=by
 refine Sp (nt:=32) (res:=[.tmp 6]) func80 λSf=>?_
 refine KK ?_;refine AB rfl (λhb=>?_) (λhb=>?_)
 ·have hb:a.length≠b.length:=by simp at hb;omega
  refine JA ?_;refine An ?_;rw[KI hb]
 ·have hb:a.length=b.length:=by simp at hb;omega
  refine KK ?_;refine DL (λi:Nat=>⟨[(0,.lst false 90 2 (a.map (A3 false))),(1,.lst false 90 2 (b.map (A3 false))),(2,.fn f cap),(15,.lst false 90 2 (a.map (A3 false))),(16,iA (a.map (A3 false)).length),(17,iA i)],Sf⟩) (λi=>i<=a.length/\∀j (h:j<a.length),j<i->p a[j] (b[j]'(by omega))=true) (λi=>a.length-i) 0 ⟨Ap _,λj h hj=>absurd hj (by omega)⟩ ?_;rintro i ⟨hi,he⟩;refine KK ?_;refine AB rfl (λhc=>?_) (λhc=>?_)
  ·have h:i<a.length:=by simpa using hc
   have h':i<b.length:=by omega
   refine KK ?_;refine Ai λX=>?_;refine KK ?_;refine Ai λX=>?_;refine KK ?_;refine GF (h:=(hf _ (BG h) _ (BG h'))) (k:=?_);refine KK ?_
   refine AB rfl (λhd=>?_) (λhd=>?_)
   ·have hd:p a[i] b[i]=false:=by simpa using hd
    refine JA ?_;refine An ?_;rw[Nd hb h hd]
   ·have hd:p a[i] b[i]=true:=by simpa using hd
    refine KK ?_;refine DB (i+1) ⟨h,λj h1 h2=>?_⟩;by_cases e:j=i
    ·subst e;exact hd
    ·exact he j h1 (by omega)
  ·have h:¬i<a.length:=by simpa using hc
   refine JA ?_;refine An ?_;rw[KH hb λj hj=>he j hj (by omega)]
theorem Kj(x y:Comp)(hl:x.vals.length<=1099511627776):PS prog 183 [AT false x,AT false y] (bA (decide (x=y))):=by
 have heq:=GS x.vals y.vals hl;rw[<-S0];refine Sp (nt:=17) (res:=[.tmp 4]) func183 λSf=>?_
 refine RG ?_;refine BX ?_;refine BX ?_;refine JC ?_;rcases Ac (decide (x.kind=y.kind))with g|g
 ·rw[g]
  refine KK ?_;refine Bw (h:=(heq ..)) (k:=?_);refine JA ?_;refine An ?_;rfl
 ·rw[g]
  refine JA ?_;refine An ?_;rfl
theorem L5(a b:List Comp)(hl:CsL a):PS prog 133 [Bp false false a,Bp false false b] (bA (decide (a=b))):=by
 have h:=H5 a b 183 [] (λx y=>decide (x=y)) rfl (by have:=hl.1;omega) (λx hx y _=>Kj x y (hl.2 x hx));rw[JX λ_ _ _ _=>rfl]at h;refine Sp (nt:=8) (res:=[.tmp 4]) func133 λSf=>?_
 refine KK ?_;refine Hv (h:=(h ..)) (k:=?_);refine JA ?_;refine An ?_;rfl
theorem Ki(x y:Item)(hl:CsL x.comps):PS prog 132 [Aj false x,Aj false y] (bA (decide (x=y))):=by
 have heq:=L5 x.comps y.comps hl;rw[<-Sc];refine Sp (nt:=17) (res:=[.tmp 4]) func132 λSf=>?_
 refine RG ?_;refine BX ?_;refine BX ?_;refine JC ?_;have hE:=Ps x.ent.n x.ent.gen y.ent.n y.ent.gen;rw[show(decide (x.ent.n=y.ent.n)&&decide (x.ent.gen=y.ent.gen))=Jj x.ent y.ent from rfl]at hE;cases hb:Jj x.ent y.ent
 ·rw[hb]at hE
  (iterate 6 refine WK ?_);refine AQ (W.eqP _ _ (by kernel_rfl) hE rfl rfl) rfl ?_;refine KK ?_
  refine RT ?_;refine An ?_;rfl
 ·rw[hb]at hE
  (iterate 6 refine WK ?_);refine AQ (W.eqP _ _ (by kernel_rfl) hE rfl rfl) rfl ?_;refine KK ?_;refine Bw (h:=(heq ..)) (k:=?_);refine KK ?_
  refine RT ?_;refine An ?_;rfl
theorem L4(a b:List Item)(hl:ItL a):PS prog 62 [FN false false a,FN false false b] (bA (decide (a=b))):=by
 have h:=H4 a b 132 [] (λx y=>decide (x=y)) rfl (by have:=hl.1;omega) (λx hx y _=>Ki x y (hl.2 x hx));rw[JX λ_ _ _ _=>rfl]at h;refine Sp (nt:=8) (res:=[.tmp 4]) func62 λSf=>?_
 refine KK ?_;refine Hv (h:=(h ..)) (k:=?_);refine JA ?_;refine An ?_;rfl
theorem RV(a b:List Field)(hl:a.length<=1099511627776):PS prog 82 [FB false a,FB false b] (bA (decide (a=b))):=by
 refine Sp (nt:=26) (res:=[.tmp 4]) func82 λSf=>?_
 refine KK ?_;refine AB rfl (λhb=>?_) (λhb=>?_)
 ·have hb:a.length≠b.length:=by simp at hb;omega
  refine JA ?_;refine An ?_;rw[Bd λe=>hb (by rw[e])]
 ·have hb:a.length=b.length:=by simp at hb;omega
  refine KK ?_;refine DL (λi:Nat=>⟨[(0,FB false a),(1,FB false b),(12,iA (a.map fieldA).length),(13,iA i)],Sf⟩) (λi=>i<=a.length/\∀j (h:j<a.length),j<i->a[j]=b[j]'(by omega)) (λi=>a.length-i) 0 ⟨Ap _,λj h hj=>absurd hj (by omega)⟩ ?_;rintro i ⟨hi,he⟩;refine KK ?_;refine AB rfl (λhc=>?_) (λhc=>?_)
  ·have h:i<a.length:=by simpa using hc
   have h':i<b.length:=by omega
   obtain⟨f,hf⟩:=nm (a[i]);obtain⟨g,hg⟩:=nm (b[i]);have haf:(a.map fieldA)[i]?=some (fieldA f):=by rw[Am,Ag h,hf];rfl
   have hag:(b.map fieldA)[i]?=some (fieldA g):=by rw[Am,Ag h',hg];rfl
   refine KK ?_;refine RU ?_;(iterate 8 refine RK ?_);refine RGo.p (W.neP _ _ (by kernel_rfl) (Ol f g) rfl rfl) rfl ?_;refine RGo.nil (by kernel_rfl) ?_;refine WK ?_;refine AB rfl (λhd=>?_) (λhd=>?_)
   ·have hd:f≠g:=by simpa using hd
    refine JA ?_;refine An ?_;rw[Bd λe=>hd (by subst e;rw[<-hf,<-hg])]
   ·have hd:f=g:=by simpa using hd
    refine KK ?_;refine DB (i+1) ⟨h,λj h1 h2=>?_⟩;by_cases e:j=i
    ·subst e;rw[hf,hg,hd]
    ·exact he j h1 (by omega)
  ·have h:¬i<a.length:=by simpa using hc
   refine JA ?_;refine An ?_;rw[Br (CO hb λj h1 h2=>he j h1 (by omega))]
theorem VR(x y:Kind):(decide (x.name=y.name)&&decide (x.fields=y.fields))=decide (x=y):=by
 obtain⟨k,v⟩:=x;obtain⟨k',v'⟩:=y;rw[Eu];simp
theorem Kh(x y:Kind)(hl:x.fields.length<=1099511627776):PS prog 131 [A3 false x,A3 false y] (bA (decide (x=y))):=by
 have heq:=RV x.fields y.fields hl;rw[<-VR];refine Sp (nt:=17) (res:=[.tmp 4]) func131 λSf=>?_
 refine RG ?_;refine BX ?_;refine BX ?_;refine JC ?_;rcases Ac (decide (x.name=y.name))with g|g
 ·rw[g]
  refine KK ?_;refine Bw (h:=(heq ..)) (k:=?_);refine JA ?_;refine An ?_;rfl
 ·rw[g]
  refine JA ?_;refine An ?_;rfl
theorem L3(a b:List Kind)(hl:KsL a):PS prog 61 [Bz false false a,Bz false false b] (bA (decide (a=b))):=by
 have h:=MM a b 131 [] (λx y=>decide (x=y)) rfl (by have:=hl.1;omega) (λx hx y _=>Kh x y (hl.2 x hx));rw[JX λ_ _ _ _=>rfl]at h;refine Sp (nt:=8) (res:=[.tmp 4]) func61 λSf=>?_
 refine KK ?_;refine Hv (h:=(h ..)) (k:=?_);refine JA ?_;refine An ?_;rfl
theorem SJ(a b:Wd)(hl:WdL a):PS prog 18 [wdA false a,wdA false b] (bA (decide (a=b))):=by
 have h1:=L3 a.kinds b.kinds hl.ks;have h2:=GS a.gens b.gens hl.gens;have h3:=L4 a.items b.items hl.items;rw[<-Vt];refine Sp (nt:=24) (res:=[.tmp 4]) func18 λSf=>?_
 refine RG ?_;refine BX ?_;refine BX ?_;refine JC ?_;obtain⟨b1,e1⟩:=nm (decide (a.kinds=b.kinds));obtain⟨b2,e2⟩:=nm (decide (a.gens=b.gens));rw[e1]at h1⊢;rw[e2]at h2⊢;cases b1
 ·refine KK ?_;refine Bw (h:=(h1 ..)) (k:=?_);refine KK ?_
  refine RT ?_;refine An ?_;rfl
 ·cases b2
  ·refine KK ?_;refine Bw (h:=(h1 ..)) (k:=?_);refine KK ?_;refine Bw (h:=(h2 ..)) (k:=?_);refine KK ?_
   refine RT ?_;refine An ?_;rfl
  ·refine KK ?_;refine Bw (h:=(h1 ..)) (k:=?_);refine KK ?_;refine Bw (h:=(h2 ..)) (k:=?_);refine KK ?_;refine Bw (h:=(h3 ..)) (k:=?_);refine KK ?_
   refine RT ?_;refine An ?_;rfl
section
open Go.RowKit
def H8(w:World):Mem:=⟨λ_=>none,λ_=>False,w,λb=>b<w.heap.size⟩
theorem Px(w:World):Good (H8 w) (H8 w) 0 [] []:=
 ⟨λz hz=>(by cases hz),.nil,λb hb=>(by cases hb),λb h=>h,.nil,λx hx=>(by cases hx),λx h=>h.elim,.refl _,rfl,rfl,rfl,AP _⟩
theorem Good.bel{m':Mem}{N:Nat}{Z:Zs}{br:List Nat}(G:Good (H8 w) m' N Z br):Below w.heap.size w m'.w:=
 ⟨G.os,G.tape,G.output,G.size,λk hk=>(G.le.F k hk).2⟩
theorem PS.calls_bool{P:Program}{f:FuncId}{args:List AV}{b:Bool}(h:PS P f args (bA b)){vals:Array Value}(hv:VTs (H8 w) args vals.toList []):
  Calls P f vals w λe w'=>e= .returned (.bool b)/\Below w.heap.size w w':=
 (h.run [] (H8 w) 0 [] vals rfl (Px w) hv).mono λe w' ⟨v,r,S',m',N',Z',br,h1,h2,h3,G,h4,h5,h6⟩=>by
  subst h1 h2 h5;refine⟨?_,G.bel⟩;obtain⟨⟨h7,_⟩,_⟩:=h4;injection h7 with h7
  rw[h7]
theorem M3{α:Type}{m:Mem}{C:List Value->α->Prop}{sz:Nat}{f:α->AV}(hC:∀c x,C c x->VC m (f x) c []):∀{l:List α} {xs:List Value},Cells C sz xs l->VCs m (l.map f) xs []
 |[],_,h=>⟨h,rfl⟩
 |x::l,_,⟨c,ys,h1,h2,h3,h4⟩=>⟨c,ys,[],[],h1,rfl,hC c x h3,M3 hC h4⟩
theorem LT{b o:Nat}{u:Value}(h:w.cell? ⟨b,o,none⟩=some u):∃arr t r,w.heap[b]?=some (.cells arr t r)/\arr[o]?=some u:=by
 unfold World.cell? at h;cases hb:w.heap[b]? with
 |none=>simp only[hb]at h;cases h
 |some blk=>
  cases blk with
  |cells c t r=>simp only[hb]at h;exact⟨c,t,r,rfl,by simpa using h⟩
  |_=>simp only[hb]at h;cases h
theorem Vw{α:Type}{C:World->Reg->List Value->α->Prop}{sz:Nat}{f:α->AV}{t:TypeId}{v:Value}{l:List α}(hsz:0<sz)(hC:∀c x,C w (Lt w) c x->VC (H8 w) (f x) c [])(hw:∀x,(f x).width=sz)(h:Sl w (Lt w) sz C v l):VC (H8 w) (.lst false t sz (l.map f)) [v] []:=by
 obtain⟨xs,⟨h1,A,cap,rfl,hn,hr⟩,hc⟩:=h;refine⟨rfl,A,cap,by simp,by simpa using hn,λe he=>by obtain⟨x,_,rfl⟩:=BH.1 he;exact hw x,λh0=>?_⟩;have h0:0<l.length:=by simpa using h0
 obtain⟨b,off,rfl,hb,hcell⟩:=hr h0;have hx:0<xs.length:=by rw[h1];exact Nat.mul_pos h0 hsz
 obtain⟨arr,t',r,h2,h3⟩:=LT (hcell 0 xs[0] (by simp));refine⟨b,off,arr,t',r,rfl,hb,h2,?_⟩
 have e:(arr.toList.drop off).take ((l.map f).length*sz)=xs:=by
  apply JF;intro j;rw[CZ];split
  ·rename_i hj
   have hj:j<xs.length:=by rw[h1];simpa using hj
   obtain⟨arr2,t2,r2,h4,h5⟩:=LT (hcell j xs[j] (by simp));rw[h2]at h4;injection h4 with h4
   injection h4 with h4
   subst h4;rw[Ca,Ag hj];simpa using h5
  ·rename_i hj
   rw[Bk];rw[h1];simpa using hj
 rw[e];exact M3 hC hc
theorem UD{v:Value}{l:List Int}(h:Ul w (Lt w) v l):VC (H8 w) (BU false l) [v] []:=
 Vw (f:=iA) (by decide) (λc x hc=>⟨⟨hc,rfl⟩,rfl⟩) (λ_=>rfl) h
theorem Tm{m:Mem}:VTs m [] [] []:=⟨rfl,rfl⟩
theorem Tn{m:Mem}{l:List AV}{us:List Value}{x:Int}(k:VTs m l us []):VTs m (iA x::l) (.int .i64 x::us) []:=(B8 rfl).2 ⟨_,_,[],[],rfl,rfl,⟨⟨rfl,rfl⟩,rfl⟩,k⟩
theorem R7{v:Value}{z:List Int}{l:List AV}{us:List Value}(h:Ul w (Lt w) v z)(k:VTs (H8 w) l us []):VTs (H8 w) (BU false z::l) (v::us) []:=(B8 rfl).2 ⟨_,_,[],[],rfl,rfl,UD h,k⟩
end
def FF(s:List UInt8):List Int:=(s.length:Int)::s.map λb=>(b.toNat:Int)
abbrev PZ(l:List Int):AO:=.row 22 1 [BU true l]
theorem SR{s:List UInt8}(h:i<s.length):(FF s).take (i+2)=(FF s).take (i+1)++[((s.getD i 0).toNat:Int)]:=by
 have hn:i+1<(FF s).length:=by simp[FF];omega
 rw[Bt hn]
 congr 2
 simp[FF,D2,h]
theorem Jm(X:Nat)(l:List Int)(s:List UInt8)(hl:(l++FF s).length*8<=140737488351232):PO prog 99 [sA s,.ptr X 0 0] X (PZ l) (.tup []) (PZ (l++FF s)):=by
 refine Sp (nt:=22) (res:=[]) func99 λSf=>?_
 have hnl:(FF s).length=s.length+1:=by simp[FF]
 rw[Ax,hnl]at hl;refine CE .here (λY=>.head .here) λK=>?_
 have hb:((l.map iA).length+[iA (s.length:Int)].length)*8<=140737488355328:=by simp;omega
 (iterate 5 refine WK ?_);refine D5 (iA (s.length:Int)) ?_;refine WK ?_;refine Ay λY=>?_;refine KK ?_
 refine I5 (λ(i K n:Nat) (M:List AV)=>⟨[(0,sA s),(1,.ptr X 0 0),(10,iA s.length),(11,iA i)],(K,.row 3 1 M)::(X,.row 22 1 [.sl K 0 n])::Sf⟩) (λi _ n M=>i<=s.length/\n=M.length/\M=(l++(FF s).take (i+1)).map iA) (λi _ _ _=>s.length-i) 0 Y _ _ ⟨Ap _,?_,?_⟩ ?_
 ·simp
 ·rw[AJ];rfl
 rintro i K n M ⟨hi,hn,hM⟩;refine KK ?_;refine AB rfl (λhc=>?_) (λhc=>?_)
 ·have h:i<s.length:=by rw[As]at hc;omega
  have hMl:n=l.length+(i+1):=by rw[hn,hM,AD,Ax,BA,hnl];omega
  have hb:(n+[iA ((s.getD i 0).toNat:Int)].length)*8<=140737488355328:=by simp;omega
  refine KK ?_;refine A9 λY=>?_
  have hw:IntKind.i64.wrap ((s.getD i 0).toNat:Int)=((s.getD i 0).toNat:Int):=E9 (by omega) (by have:=(s.getD i 0).toNat_lt;omega);refine RU ?_;(iterate 4 refine RK ?_);refine RGo.p (W.conv .u8 .i64 (by kernel_rfl) (by kernel_rfl) rfl hw) rfl ?_;refine Gs (iA ((s.getD i 0).toNat:Int)) ?_;refine JE ?_;refine RGo.nil (by kernel_rfl) ?_;refine KK ?_;refine GP (i+1) Y _ _ ⟨h,?_,?_⟩
  ·rw[Ax,<-hn]
  ·rw[SR h,hM,<-BC,AJ (l₂:=[_])];rfl
 ·have h:i=s.length:=by rw[Aq]at hc;omega
  subst h;rw[Al (by omega)]at hM;subst hM;refine Bg (X:=K) .here (.next .here) rfl hn (.head .here) ?_;refine KK ?_;refine Ed ?_;exact CA [(X,PZ (l++FF s))] ⟨rfl,rfl⟩
def IU(f:Field):List Int:=FF f.name++[f.bits,f.low]
def Mh(k:Kind):List Int:=FF k.name++(k.fields.length:Int)::k.fields.flatMap IU
def Mw(c:Comp):List Int:=c.kind::(c.vals.length:Int)::c.vals
def Is(it:Item):List Int:=it.ent.n::it.ent.gen::(it.comps.length:Int)::it.comps.flatMap Mw
def Kz(w:Wd):List Int:=(w.kinds.length:Int)::(w.kinds.flatMap Mh++((w.gens.length:Int)::(w.gens++((w.items.length:Int)::w.items.flatMap Is))))
theorem Qa{α:Type}{f:α->List Int}{l:List α}{x:α}(h:i<l.length)(e:l[i]=x):(l.drop i).flatMap f=f x++(l.drop (i+1)).flatMap f:=by
 rw[DE h,e,Bo]
theorem MN{A B R:List Int}(hl:R.length*8<=140737488351232)(e:A++B=R):A.length*8<=140737488351232:=by
 have:A.length+B.length=R.length:=by rw[<-e,Ax]
 omega
theorem UE(w:Wd)(hl:(Kz w).length*8<=140737488351232)(hw:WdL w):PS prog 38 [wdA false w] (BU true (Kz w)):=by
 obtain⟨R,hR⟩:=nm (Kz w);have hin:=hR;unfold Kz at hin;rw[hR]at hl⊢;obtain⟨ks,gens,items⟩:=w;obtain⟨⟨hk0,hk1⟩,hg,⟨hi0,hi1⟩⟩:=hw;dsimp only at hin hk0 hk1 hg hi0 hi1;obtain⟨tail,htail⟩:∃tail,((gens.length:Int)::(gens++((items.length:Int)::items.flatMap Is)))=tail:=⟨_,rfl⟩;rw[htail]at hin;refine Sp (nt:=112) (res:=[.tmp 2]) func38 λSf=>?_
 have hkm:(ks.map (A3 false)).length=ks.length:=AD _;have hgm:(gens.map iA).length=gens.length:=AD _;have him:(items.map (Aj false)).length=items.length:=AD _;refine RG ?_;refine BX ?_;refine JC ?_;refine A9 λK0=>?_
 refine RG ?_;(iterate 3 refine WO ?_);refine CM (W.lit1 (X:=K0) (l:=[iA ((ks.map (A3 false)).length:Int)]) (by exact rfl) (by exact AY) (by exact rfl) (by exact .inr rfl) (by decide) (by decide) (by exact rfl)) rfl ?_;refine WO ?_;refine Ai λX=>?_;refine JC ?_
 rw[hkm];refine Bg (X:=K0) (Y:=X) (.next .here) .here rfl rfl (.head .here) ?_;refine KK ?_;refine B6 (λ(i:Nat) (L:List Int)=>⟨[(1,.fp (wdA false ⟨ks,gens,items⟩).cells),(3,.ptr X 0 0),(4,.fn 99 [.ptr X 0 0]),(19,Bz false false ks),(20,iA (ks.map (A3 false)).length),(21,iA i)],(X,PZ L)::Sf⟩) (λi L=>i<=ks.length/\L++((ks.drop i).flatMap Mh++tail)=R) (λi _=>ks.length-i) 0 [(ks.length:Int)] ⟨Ap _,hin⟩ ?_;rintro i L ⟨hi,he⟩;refine KK ?_;refine AB rfl (λhc=>?_) (λhc=>?_)
 ·have h:i<ks.length:=by rw[As,hkm]at hc;omega
  obtain⟨⟨kn,kf⟩,hk⟩:=nm (ks[i]);have hat:(ks.map (A3 false))[i]?=some (A3 false ⟨kn,kf⟩):=by rw[Am,Ag h,hk];rfl
  have hkl:=hk1 _ (hk▸BG h);dsimp only at hkl;rw[Qa h hk,Mh,<-BC,<-BC,<-BC]at he;have hkfm:(kf.map fieldA).length=kf.length:=AD _;dsimp only at he;have he1:(L++FF kn)++([(kf.length:Int)]++(kf.flatMap IU++((ks.drop (i+1)).flatMap Mh++tail)))=R:=by rw[<-he];simp
  have hcn:=Jm X L kn (MN hl he1);refine RG ?_;refine KO ?_;refine Ai λV=>?_;refine JC ?_
  refine RG ?_;refine KO ?_;refine O9 hcn .frz ?_;refine NL ?_;obtain⟨L1,hL1⟩:=nm (L++FF kn);rw[hL1]at he1⊢;have he2:(L1++[(kf.length:Int)])++(kf.flatMap IU++((ks.drop (i+1)).flatMap Mh++tail))=R:=by rw[<-he1,BC]
  refine CE (Y:=X) (.next .here) (λ_=>.head .here) λK=>?_
  have hb:((L1.map iA).length+([iA ((kf.map fieldA).length:Int)]).length)*8<=140737488355328:=by have:=MN hl he2;simp at this⊢;omega
  refine RG ?_;(iterate 4 refine WO ?_);refine D5 (iA (kf.map fieldA).length) ?_;refine WO ?_;refine Ay λY=>?_;refine JC ?_
  have hrow:L1.map iA++[iA ((kf.map fieldA).length:Int)]=(L1++[(kf.length:Int)]).map iA:=by first|(rw[AJ,hkfm];rfl)|rw[AJ,hkfm]
  rw[hrow];clear hrow hb;refine Bg (X:=Y) (Y:=X) .here (.next (.next .here)) rfl (by simp) (.head .here) ?_;obtain⟨T2,hT2⟩:=nm ((ks.drop (i+1)).flatMap Mh++tail);rw[hT2]at he2;clear he he1 hcn hL1 hin;refine KK ?_;refine B6 (λ(j:Nat) (L:List Int)=>⟨[(1,.fp (wdA false ⟨ks,gens,items⟩).cells),(3,.ptr X 0 0),(4,.fn 99 [.ptr X 0 0]),(19,Bz false false ks),(20,iA (ks.map (A3 false)).length),(21,iA i),(36,FB false kf),(37,iA (kf.map fieldA).length),(38,iA j)],(X,PZ L)::Sf⟩) (λj L=>j<=kf.length/\L++((kf.drop j).flatMap IU++T2)=R) (λj _=>kf.length-j) 0 (L1++[(kf.length:Int)]) ⟨Ap _,he2⟩ ?_;clear he2 L1 L;rintro j L ⟨hj,he⟩;refine KK ?_;refine AB rfl (λhd=>?_) (λhd=>?_)
  ·have h':j<kf.length:=by rw[As,hkfm]at hd;omega
   obtain⟨⟨fn,fb,fl⟩,hf⟩:=nm (kf[j]);have hat2:(kf.map fieldA)[j]?=some (fieldA ⟨fn,fb,fl⟩):=by rw[Am,Ag h',hf];rfl
   rw[Qa h' hf,IU]at he;dsimp only at he;have he1:(L++FF fn)++([fb,fl]++((kf.drop (j+1)).flatMap IU++T2))=R:=by rw[<-he];simp
   have hcn:=Jm X L fn (MN hl he1);refine RG ?_;refine KO ?_;refine Ai λV2=>?_;refine JC ?_
   refine RG ?_;refine KO ?_;refine O9 hcn .frz ?_;refine NL ?_;obtain⟨L1,hL1⟩:=nm (L++FF fn);rw[hL1]at he1⊢;have he2:(L1++[fb,fl])++((kf.drop (j+1)).flatMap IU++T2)=R:=by rw[<-he1,BC]
   refine CE (Y:=X) (.next .here) (λ_=>.head .here) λK=>?_
   have hb:((L1.map iA).length+([iA fb,iA fl]).length)*8<=140737488355328:=by have:=MN hl he2;simp at this⊢;omega
   refine RG ?_;refine KO ?_;refine Ay λY=>?_;refine JC ?_
   have hrow:L1.map iA++[iA fb,iA fl]=(L1++[fb,fl]).map iA:=by first|(rw[AJ];rfl)|rw[AJ]
   rw[hrow];clear hrow hb;refine Bg (X:=Y) (Y:=X) .here (.next (.next .here)) rfl (by simp) (.head .here) ?_;refine KK ?_;refine BV (j+1) _ ⟨h',he2⟩
  ·have h':j=kf.length:=by rw[Aq,hkfm]at hd;omega
   rw[h',C0]at he;refine KK ?_;refine BV (i+1) L ⟨h,by rw[hT2];exact he⟩
 clear hin;have h:i=ks.length:=by rw[Aq,hkm]at hc;omega
 rw[h,C0,<-htail]at he;clear h hc hi;have he2:(L++[(gens.length:Int)])++(gens++((items.length:Int)::items.flatMap Is))=R:=by rw[<-he];simp
 refine FL ?_;refine CE (Y:=X) .here (λ_=>.head .here) λK=>?_
 have hb:((L.map iA).length+([iA ((gens.map iA).length:Int)]).length)*8<=140737488355328:=by have:=MN hl he2;simp at this⊢;omega
 refine RG ?_;(iterate 4 refine WO ?_);refine D5 (iA (gens.map iA).length) ?_;refine WO ?_;refine Ay λY=>?_;refine JC ?_
 have hrow:L.map iA++[iA ((gens.map iA).length:Int)]=(L++[(gens.length:Int)]).map iA:=by first|(rw[AJ,hgm];rfl)|rw[AJ,hgm]
 rw[hrow];clear hrow hb;refine Bg (X:=Y) (Y:=X) .here (.next .here) rfl (by simp) (.head .here) ?_;obtain⟨L1,hL1⟩:∃L1,L++[(gens.length:Int)]=L1:=⟨_,rfl⟩;rw[hL1]at he2⊢;have he3:(L1++gens)++((items.length:Int)::items.flatMap Is)=R:=by rw[<-he2,BC]
 refine CE (Y:=X) (.next .here) (λ_=>.head .here) λK=>?_
 have hb:((L1.map iA).length+(gens.map iA).length)*8<=140737488355328:=by have:=MN hl he3;simp at this⊢;omega
 refine RG ?_;refine KO ?_;refine Ay λY=>?_;refine JC ?_
 have hrow:L1.map iA++gens.map iA=(L1++gens).map iA:=by first|(rw[AJ];rfl)|rw[AJ]
 rw[hrow];clear hrow hb;refine Bg (X:=Y) (Y:=X) .here (.next (.next .here)) rfl (by simp) (.head .here) ?_;obtain⟨L2,hL2⟩:=nm (L1++gens);rw[hL2]at he3⊢;have he4:(L2++[(items.length:Int)])++items.flatMap Is=R:=by rw[<-he3,BC];rfl
 refine CE (Y:=X) (.next (.next .here)) (λ_=>.head .here) λK=>?_
 have hb:((L2.map iA).length+([iA ((items.map (Aj false)).length:Int)]).length)*8<=140737488355328:=by have:=MN hl he4;simp at this⊢;omega
 refine RG ?_;(iterate 4 refine WO ?_);refine D5 (iA (items.map (Aj false)).length) ?_;refine WO ?_;refine Ay λY=>?_;refine JC ?_
 have hrow:L2.map iA++[iA ((items.map (Aj false)).length:Int)]=(L2++[(items.length:Int)]).map iA:=by first|(rw[AJ,him];rfl)|rw[AJ,him]
 rw[hrow];clear hrow hb;refine Bg (X:=Y) (Y:=X) .here (.next (.next (.next .here))) rfl (by simp) (.head .here) ?_;clear he he2 he3 hL1 hL2 htail hk0 hk1;refine KK ?_;refine B6 (λ(i:Nat) (L:List Int)=>⟨[(1,.fp (wdA false ⟨ks,gens,items⟩).cells),(3,.ptr X 0 0),(72,FN false false items),(73,iA (items.map (Aj false)).length),(74,iA i)],(X,PZ L)::Sf⟩) (λi L=>i<=items.length/\L++(items.drop i).flatMap Is=R) (λi _=>items.length-i) 0 (L2++[(items.length:Int)]) ⟨Ap _,he4⟩ ?_;clear he4 L2 L1 L;rintro i L ⟨hi,he⟩;refine KK ?_;refine AB rfl (λhc=>?_) (λhc=>?_)
 ·have h:i<items.length:=by rw[As,him]at hc;omega
  obtain⟨⟨⟨en,eg⟩,cs⟩,hit⟩:=nm (items[i]);have hat:(items.map (Aj false))[i]?=some (Aj false ⟨⟨en,eg⟩,cs⟩):=by rw[Am,Ag h,hit];rfl
  have hcl:=hi1 _ (hit▸BG h);dsimp only at hcl;obtain⟨hcl0,hcl1⟩:=hcl;have hcm:(cs.map (AT false)).length=cs.length:=AD _;rw[Qa h hit,Is]at he;dsimp only at he;have he2:(L++[en,eg,(cs.length:Int)])++(cs.flatMap Mw++(items.drop (i+1)).flatMap Is)=R:=by rw[<-he];simp
  refine RG ?_;refine KO ?_;refine Ai λV=>?_;refine JC ?_
  refine CE (Y:=X) (.next .here) (λ_=>.head .here) λK=>?_
  have hb:((L.map iA).length+([iA en,iA eg,iA ((cs.map (AT false)).length:Int)]).length)*8<=140737488355328:=by have:=MN hl he2;simp at this⊢;omega
  refine RG ?_;refine KO ?_;refine Ay λY=>?_;refine JC ?_
  have hrow:L.map iA++[iA en,iA eg,iA ((cs.map (AT false)).length:Int)]=(L++[en,eg,(cs.length:Int)]).map iA:=by first|(rw[AJ,hcm];rfl)|rw[AJ,hcm]
  rw[hrow];clear hrow hb;refine Bg (X:=Y) (Y:=X) .here (.next (.next .here)) rfl (by simp) (.head .here) ?_;obtain⟨T2,hT2⟩:=nm ((items.drop (i+1)).flatMap Is);rw[hT2]at he2;refine KK ?_;refine B6 (λ(j:Nat) (L:List Int)=>⟨[(1,.fp (wdA false ⟨ks,gens,items⟩).cells),(3,.ptr X 0 0),(72,FN false false items),(73,iA (items.map (Aj false)).length),(74,iA i),(91,Bp false false cs),(92,iA (cs.map (AT false)).length),(93,iA j)],(X,PZ L)::Sf⟩) (λj L=>j<=cs.length/\L++((cs.drop j).flatMap Mw++T2)=R) (λj _=>cs.length-j) 0 _ ⟨Ap _,he2⟩ ?_;clear he2 he L;rintro j L ⟨hj,he⟩;refine KK ?_;refine AB rfl (λhd=>?_) (λhd=>?_)
  ·have h':j<cs.length:=by rw[As,hcm]at hd;omega
   obtain⟨⟨ck,cv⟩,hf⟩:=nm (cs[j]);have hat2:(cs.map (AT false))[j]?=some (AT false ⟨ck,cv⟩):=by rw[Am,Ag h',hf];rfl
   have hvm:(cv.map iA).length=cv.length:=AD _;rw[Qa h' hf,Mw]at he;dsimp only at he;have he2:(L++[ck,(cv.length:Int)])++(cv++((cs.drop (j+1)).flatMap Mw++T2))=R:=by rw[<-he];simp
   refine RG ?_;refine KO ?_;refine Ai λV2=>?_;refine JC ?_
   refine CE (Y:=X) (.next .here) (λ_=>.head .here) λK=>?_
   have hb:((L.map iA).length+([iA ck,iA ((cv.map iA).length:Int)]).length)*8<=140737488355328:=by have:=MN hl he2;simp at this⊢;omega
   refine RG ?_;refine KO ?_;refine Ay λY=>?_;refine JC ?_
   have hrow:L.map iA++[iA ck,iA ((cv.map iA).length:Int)]=(L++[ck,(cv.length:Int)]).map iA:=by first|(rw[AJ,hvm];rfl)|rw[AJ,hvm]
   rw[hrow];clear hrow hb;refine Bg (X:=Y) (Y:=X) .here (.next (.next .here)) rfl (by simp) (.head .here) ?_;obtain⟨L1,hL1⟩:∃L1,L++[ck,(cv.length:Int)]=L1:=⟨_,rfl⟩;rw[hL1]at he2⊢;have he3:(L1++cv)++((cs.drop (j+1)).flatMap Mw++T2)=R:=by rw[<-he2,BC]
   refine CE (Y:=X) (.next (.next .here)) (λ_=>.head .here) λK=>?_
   have hb:((L1.map iA).length+(cv.map iA).length)*8<=140737488355328:=by have:=MN hl he3;simp at this⊢;omega
   refine RG ?_;refine KO ?_;refine Ay λY=>?_;refine JC ?_
   have hrow:L1.map iA++cv.map iA=(L1++cv).map iA:=by first|(rw[AJ];rfl)|rw[AJ]
   rw[hrow];clear hrow hb;refine Bg (X:=Y) (Y:=X) .here (.next (.next (.next .here))) rfl (by simp) (.head .here) ?_;refine KK ?_;refine BV (j+1) _ ⟨h',he3⟩
  ·have h':j=cs.length:=by rw[Aq,hcm]at hd;omega
   rw[h',C0]at he;refine KK ?_;refine BV (i+1) L ⟨h,by rw[hT2];exact he⟩
 ·have h:i=items.length:=by rw[Aq,him]at hc;omega
  rw[h,C0]at he;have he:L=R:=by simpa using he
  subst he;refine CE (Y:=X) .here (λ_=>.head .here) λK=>?_
  refine JA ?_;exact⟨[.sl K 0 (L.map iA).length],[BU true L],_,[],.cons (.tmp rfl) rfl .nil,.cons (.cell (.sl (p:=0) .here rfl)) .nil,by exact Av,rfl,rfl⟩
theorem LX:WdL Gq:=by
 refine⟨⟨by decide,?_⟩,by decide,⟨by decide,?_⟩⟩
 ·intro k hk
  rw[AS.1 hk];decide
 ·intro it hit
  rw[AS.1 hit];refine⟨by decide,λc hc=>?_⟩;rw[AS.1 hc];decide
theorem S5:Ob Gq ⟨0,0⟩ 0=([9],0):=by decide
theorem S4:PS prog 7 [] (bA true):=by
 have hg:=VU Gq ⟨0,0⟩ 0 LX;rw[S5]at hg;have he:PS prog 37 [BU false [9],BU false [9]] (bA true):=GS [9] [9] (by decide);have hi:=UE Gq (by decide) LX;have hs:=Tw Gq Gq LX;rw[Br rfl]at hs;obtain⟨R,hR⟩:=nm (Kz Gq);have hRl:(0:Int)<R.length:=by rw[<-hR];decide
 rw[hR]at hi;have hlen:decide ((0:Int)<(R.map iA).length)=true:=Br (by rw[AD];exact hRl);refine Sp (nt:=27) (res:=[.tmp 0]) func7 λSf=>?_
 refine R1 ?_;refine RG ?_;refine N0 (h:=(Qc ..)) (k:=?_);refine WO ?_;refine Hv (h:=(hg ..)) (k:=?_);refine KO ?_;refine NL ?_;(repeat first|(refine AX ?_;first|(refine AZ ?_;first|refine Bw (h:=(he ..)) (k:=?_)|refine N0 (h:=(Qc ..)) (k:=?_)|refine DQ (h:=(hi ..)) (k:=?_)|refine Bw (h:=(hs ..)) (k:=?_)))|refine WK ?_|refine Ai λX=>?_|refine Ay λY=>?_);refine RT ?_;refine An ?_;rfl
section
open Go.RowKit
instance tPtrO:TPtr prog 45:=⟨115,by kernel_rfl,by kernel_rfl⟩
set_option maxRecDepth 8000 in
set_option maxHeartbeats 4000000 in
theorem N4(l:List Int)(n:Int)(hl:l.length*8<=140737488351232)(hn:I64 n):PS prog 3 [BU false l,iA n] (bA true):=by
 have hwp:=R0 l;have hok:=Oc l;obtain⟨hk0,hk4⟩:=Od l;obtain⟨w,hw⟩:=nm (Fo l);rw[hw]at hwp hok hk0 hk4;clear hw;have hgl:=hok.gl;have hil:=hok.il;have hL:=hok.wl;have hof:=V1 w hok;have hsm:=SJ w w hL;rw[Br rfl]at hsm;have hcp:=LM w hL;have s1:=Qz w hL hok (by omega);have s2:=Ts hok;obtain⟨⟨w1,e1,r1⟩,hr1⟩:=nm (Ei w []);rw[hr1]at s1 s2;dsimp only at s1 s2;obtain⟨en1,eg1⟩:=e1;have hwS:=KT hok
 have hpk:∃(e:Ent) (b:Bool),PS prog 11 [wdA false w,iA n] (.tup [CH e,bA b])/\(b=true->∃(i:Nat) (it:Item),w.items[i]?=some it/\it.ent=e):=by
  by_cases he:w.items=[]
  ·exact⟨⟨0,0⟩,false,T1 w n he,by simp⟩
  have hlen:0<w.items.length:=WT.2 he;obtain⟨i,hi⟩:∃i:Nat,n%(w.items.length:Int)=i:=⟨(n%(w.items.length:Int)).toNat,by have:=Int.emod_nonneg n (b:=(w.items.length:Int)) (by omega);omega⟩;have hil:i<w.items.length:=by have:=Int.emod_lt_of_pos n (b:=(w.items.length:Int)) (by omega);omega
  exact⟨w.items[i].ent,true,SN w n i w.items[i] hi (Ag hil) (by omega),λ_=>⟨i,w.items[i],Ag hil,rfl⟩⟩
 obtain⟨e,b,hpk,hpb⟩:=hpk;obtain⟨j,hj⟩:∃j:Nat,n%(w.kinds.length:Int)=j:=⟨(n%(w.kinds.length:Int)).toNat,by have:=Int.emod_nonneg n (b:=(w.kinds.length:Int)) (by omega);omega⟩;have hjl:j<w.kinds.length:=by have:=Int.emod_lt_of_pos n (b:=(w.kinds.length:Int)) (by omega);omega
 have hko:=(DP hok.ks).2 _ (BG hjl);have h8:=(EF hko).2.1;have hc0:=UU w.kinds n [] j hjl hj h8 (by omega);obtain⟨_,_,kk,hkk,hft⟩:=RZ hok.ks hjl n [];obtain⟨cv,hcv⟩:=nm (EJ (w.kinds[j]).fields.length n []);rw[hcv]at hc0 hft;dsimp only at hkk hft;rw[Co]at hkk
 have hc1:PS prog 14 [Bz false false w.kinds,iA n,.prim (.slice none 0 0)] (AT false ⟨j,cv⟩):=
  PS.arg hc0
 obtain⟨vs,hvs⟩:∃vs,Ce kk cv=(vs,0):=⟨(Ce kk cv).1,by rw[<-hft]⟩;refine Spec.of (nt:=92) (res:=[.tmp 4]) func3 rfl (by kernel_rfl) rfl rfl rfl λSf=>?_
 refine RG ?_;(repeat first|refine WO ?_|refine Ai λX=>?_|refine Ay λY=>?_);refine NL ?_;refine JB ?_;(repeat first|(refine AX ?_;first|(refine AZ ?_;first|refine DQ (h:=(hwp ..)) (k:=?_)))|refine WO ?_|refine Ai λU=>?_|refine Ay λY=>?_);refine NL ?_;rename_i V;refine JB ?_;(repeat first|(refine AX ?_;first|(refine AZ ?_;first|refine N0 (h:=(S4 ..)) (k:=?_)))|refine WO ?_|refine Ai λX=>?_|refine Ay λY=>?_);refine NL ?_;refine Aa rfl rfl ?_;refine FL ?_;refine A9 λI=>A9 λG=>A9 λK=>?_
 refine RG ?_;(repeat first|(refine AX ?_;first|(refine AZ ?_;first|refine Nv hcp (.v (.agg (.cons (.lst (Y:=K) rfl) (.cons (.lst (Y:=G) rfl) (.cons (.lst (Y:=I) rfl) .nil))))) ?_)|refine Gu [] (Fh K G I w hwS) ?_)|refine WO ?_|refine Ai λX=>?_|refine Ay λY=>?_);refine NL ?_;refine FL ?_;refine A9 λI=>A9 λG=>A9 λK=>?_
 refine RG ?_;(repeat first|(refine AX ?_;first|(refine AZ ?_;first|refine Fd s1 (.tup (.cons (.agg (.cons (.lst (Y:=K) rfl) (.cons (.lst (Y:=G) rfl) (.cons (.lst (Y:=I) rfl) .nil)))) rfl rfl (.cons (.agg (.cons .fz (.cons .fz .nil))) rfl rfl (.cons .pr rfl rfl .nil)))) ?_))|refine WO ?_|refine Ai λX8=>?_|refine Ay λY=>?_);refine NL ?_;rename_i X7;refine AH V ?_;refine AH U ?_;refine AH X7 ?_;refine AH X8 ?_;refine AH I ?_;refine AH G ?_;refine AH K ?_;refine JB ?_;(repeat first|(refine AX ?_;first|refine Gu [] (Fh K G I w1 s2) ?_)|refine WO ?_|refine Ai λX=>?_|refine Ay λY=>?_);refine NL ?_;refine JB ?_;(repeat first|(refine AX ?_;first|(refine AZ ?_;first|refine Bw (h:=(hpk ..)) (k:=?_)))|refine WO ?_|refine Ai λE=>?_|refine Ay λY=>?_);refine NL ?_;refine JB ?_;(repeat first|refine WO ?_|refine Ai λX=>?_|refine Ay λY=>?_);refine NL ?_;refine Ch (λ_:Unit=>True) (λ_=>⟨[(5,.ptr V 0 0),(6,.ptr U 0 0)],(U,.row 26 3 [wdA false w])::(V,.row 26 3 [wdA false w])::Sf⟩) ?_ ?_
 ·cases b with
  |false=>
   refine Aa rfl rfl ?_;(repeat first|refine WK ?_|refine Ai λX=>?_|refine Ay λY=>?_);exact jn () C9
  |true=>
   obtain⟨i,it,hit,rfl⟩:=hpb rfl;refine BE rfl rfl ?_;have k1:=SY w it.ent hL;have k2:=VS hok hit;obtain⟨⟨w2,r2⟩,hr2⟩:=nm (HJ w it.ent);rw[hr2]at k1 k2;have p1:=Tz w it.ent hL hok (by omega) i (LE hok.so hit) j kk cv vs hkk hvs it hit;have p2:=Vy hok hit hkk hvs;obtain⟨w3,hw3⟩:∃v:Wd,(⟨w.kinds,w.gens,w.items.set i ⟨it.ent,Ev it.comps ⟨j,vs⟩⟩⟩:Wd)=v:=⟨_,rfl⟩;rw[hw3]at p1 p2;have d1:=Sv w it.ent 0 hL;have d2:=VX hok hit 0;obtain⟨⟨w4,r4⟩,hr4⟩:=nm (HN w it.ent 0);rw[hr4]at d1 d2;dsimp only at k1 k2 d1 d2;refine FL ?_;refine A9 λI=>A9 λG=>A9 λK=>?_
   refine RG ?_;(repeat first|(refine AX ?_;first|(refine AZ ?_;first|refine Fd k1 (.tup (.cons (.agg (.cons (.lst (Y:=K) rfl) (.cons (.lst (Y:=G) rfl) (.cons (.lst (Y:=I) rfl) .nil)))) rfl rfl (.cons .pr rfl rfl .nil))) ?_))|refine WO ?_|refine Ai λX=>?_|refine Ay λY=>?_);refine NL ?_;refine AH V ?_;refine AH U ?_;refine AH X7 ?_;refine AH X8 ?_;refine AH E ?_;refine AH I ?_;refine AH G ?_;refine AH K ?_;refine JB ?_;(repeat first|(refine AX ?_;first|refine Gu [] (Fh K G I w2 k2) ?_)|refine WO ?_|refine Ai λX=>?_|refine Ay λY=>?_);refine NL ?_;refine FL ?_;refine A9 λI=>A9 λG=>A9 λK=>?_
   refine RU ?_;(repeat first|(refine B0 ?_;first|refine TI (h:=hc1) (k:=?_)|refine Nm p1 (.tup (.cons (.agg (.cons (.lst (Y:=K) rfl) (.cons (.lst (Y:=G) rfl) (.cons (.lst (Y:=I) rfl) .nil)))) rfl rfl (.cons .pr rfl rfl .nil))) ?_)|(refine Bu ?_;first|refine TI (h:=hc1) (k:=?_)|refine Nm p1 (.tup (.cons (.agg (.cons (.lst (Y:=K) rfl) (.cons (.lst (Y:=G) rfl) (.cons (.lst (Y:=I) rfl) .nil)))) rfl rfl (.cons .pr rfl rfl .nil))) ?_)|refine RK ?_|refine RGo.nil (by kernel_rfl) ?_);refine AH V ?_;refine AH U ?_;refine AH X7 ?_;refine AH X8 ?_;refine AH E ?_;refine AH I ?_;refine AH G ?_;refine AH K ?_;refine JB ?_;(repeat first|(refine AX ?_;first|refine Gu [] (Fh K G I w3 p2) ?_)|refine WO ?_|refine Ai λX=>?_|refine Ay λY=>?_);refine NL ?_;refine FL ?_;refine A9 λI=>A9 λG=>A9 λK=>?_
   refine RG ?_;(repeat first|(refine AX ?_;first|(refine AZ ?_;first|refine I8 d1 (.tup (.cons (.agg (.cons (.lst (Y:=K) rfl) (.cons (.lst (Y:=G) rfl) (.cons (.lst (Y:=I) rfl) .nil)))) rfl rfl (.cons .pr rfl rfl .nil))) ?_))|refine WO ?_|refine Ai λX=>?_|refine Ay λY=>?_);refine NL ?_;refine AH V ?_;refine AH U ?_;refine AH X7 ?_;refine AH X8 ?_;refine AH E ?_;refine AH I ?_;refine AH G ?_;refine AH K ?_;refine JB ?_;(repeat first|(refine AX ?_;first|refine Gu [] (Fh K G I w4 d2) ?_)|refine WO ?_|refine Ai λX=>?_|refine Ay λY=>?_);refine NL ?_;exact jn () C9
 ·intro _ _
  refine JB ?_;(repeat first|(refine AX ?_;first|refine Uw [_,_] hof λa ha=>?_)|refine WO ?_|refine Ai λX=>?_|refine Ay λY=>?_);refine NL ?_;obtain⟨a1,a2,a3,a4,a5⟩:=ha;have hkk:=DP hok.ks;have har:=Oz a a1 a2 (by rw[a3];exact hkk.1) (λk hk=>(EF (hkk.2 k (by rw[<-a3];exact hk))).2.1) (by rw[a4];exact hgl) (λit hit=>(hL.items.2 it (a5.mem_iff.1 hit)));have har2:Spec prog 17 [.ptr a.A 0 0] (arS a) λr S'=>r=wdA true w/\S'=arS a:=har.mono λr S' ⟨L,⟨h1,h2⟩,h3,h4⟩=>⟨by rw[h3,a3,a4,MC hok h1 a5 h2],h4⟩
  refine JB ?_;(repeat first|(refine AX ?_;first|refine DZ ?_ (W.nePtrN rfl rfl (by exact AY) (by exact Es)))|refine WO ?_|refine Ai λX=>?_|refine Ay λY=>?_);refine NL ?_;refine Ch (λ_:Unit=>True) (λ_=>⟨[(5,.ptr V 0 0),(6,.ptr U 0 0),(13,iA 0)],(U,.row 26 3 [wdA false w])::(V,.row 26 3 [wdA false w])::Sf⟩) ?_ ?_
  ·refine BE rfl rfl ?_
   refine FL ?_;refine A9 λI=>A9 λG=>A9 λK=>?_
   refine RG ?_;(repeat first|refine WO ?_|refine Ai λX=>?_|refine Ay λY=>?_);refine EM (β:=Unit) (C:=λ_=>True) (rr:=λ_=>wdA true w) (vv:=λ_=>wdY K G I w) (So:=λ_=>arS a) (xs:=[(.tmp 77,.ptr a.A 0 0)]) (gs:=[(K,.gone),(G,.gone),(I,.gone)]) (nw:=λ_=>VF K G I w) (L:=[(U,.row 26 3 [wdA false w]),(V,.row 26 3 [wdA false w])]) (R:=Sf) (har2.mono λr' S' ⟨e1,e2⟩=>⟨(),C9,e1,e2⟩) (λ_=>.v (.agg (.cons (.lst (Y:=K) rfl) (.cons (.lst (Y:=G) rfl) (.cons (.lst (Y:=I) rfl) .nil))))) (λ_=>rfl) (by exact D1 [(K,AO.gone),(G,AO.gone),(I,AO.gone),(U,AO.row 26 3 [wdA false w]),(V,AO.row 26 3 [wdA false w])] (arS a) Sf) (.cons rfl .nil) rfl rfl ?_;intro _ _;(repeat first|(refine AX ?_;first|refine Gu [] (Fh K G I w hwS) ?_)|refine WO ?_|refine Ai λX=>?_|refine Ay λY=>?_);refine FL ?_;(repeat refine WF ?_);refine AWP.region_runT 0 (by kernel_rfl) (by kernel_rfl) ?_;refine EZ ?_;refine Ll (xs:=[(.tmp 80,.ptr a.A 0 0)]) (L:=[(U,AO.row 26 3 [wdA false w]),(V,AO.row 26 3 [wdA false w])]) (R:=Sf) har2 (.fz (v:=wdA false w)) rfl (Ap _) (.cons rfl .nil) rfl rfl ?_;refine EZ ?_;refine EZ (h:=W.call2 rfl rfl hsm rfl) ?_;refine EZ ?_;refine RGoT.nil (by kernel_rfl) ?_;refine FL ?_;refine Fv (S':=(U,.row 26 3 [wdA false w])::(V,.row 26 3 [wdA false w])::Sf) (by exact .cons_cons _ (.cons_cons _ (Ie _ _))) ?_;refine Aa rfl rfl ?_;refine FL ?_;exact jn () C9
  ·intro _ _
   refine JB ?_;(repeat first|(refine AX ?_;first|(refine AZ ?_;first|refine Bw (h:=(hsm ..)) (k:=?_))|(refine Nz ?_;first|refine GF (h:=(hsm ..)) (k:=?_)))|refine WO ?_|refine Ai λX=>?_|refine Ay λY=>?_);refine NL ?_;refine RT ?_;exact An rfl
theorem R2(z0:List Int)(A0:Option Addr)(n0 cap0:Nat)(z1:Int)(w:World)(h0:Ul w (Lt w) (.slice A0 n0 cap0) z0)(hlen0:z0.length*8<=140737488351232)(hx1:I64 z1):
  Calls prog 3 #[.slice A0 n0 cap0,.int .i64 z1] w λe w'=>e= .returned (.bool true)/\Below w.heap.size w w':=
 (N4 z0 z1 hlen0 hx1).calls_bool (R7 h0 (Tn (Tm)))
end
end Go.Proofs.YtmkahplhnbbgmaaGreat
