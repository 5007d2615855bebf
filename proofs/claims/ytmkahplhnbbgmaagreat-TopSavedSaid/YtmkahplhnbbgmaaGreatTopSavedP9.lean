/-
  Part 9 of the texts under the law TopSaved: the layer of abstract values, walks and plain laws. Conditions: those that each theorem names.
-/
import Derived.Below
import Derived.Test.YtmkahplhnbbgmaaGreatTopSavedP8
namespace Go.Proofs.YtmkahplhnbbgmaaGreat
open Tryz
set_option linter.unusedVariables false
set_option linter.unusedSimpArgs false
set_option linter.defProp false
set_option maxRecDepth 10000
set_option maxHeartbeats 4000000
variable {w:World}
theorem Xq(b:List UInt8)(hb:b.length<=65536):PS prog 93 [ysA b] (.bx 259 (.agg [ysA b,iA 0])):=by
 have hbm:(b.map yA).length=b.length:=AD _;refine Sp (nt:=7) (res:=[.tmp 2]) func93 λSf=>?_
 refine JH ?_;refine CN λY=>?_
 refine JG ?_;refine DO (Q6 (by rw[hbm];omega) (by rw[hbm];unfold maxLen;omega) rfl rfl (by exact Az)) rfl ?_;refine KO ?_;refine Ai λX=>?_;refine JB ?_
 refine D7 (X:=Y) (Y:=X) (.next .here) .here rfl (.cons (.agg (.cons (.base (.sl (by omega))) .r)) .nil) ?_
 have hB:AV.frzs (((b.map yA).drop 0).take (b.map yA).length)=b.map yA:=by
  rw[B7,Aj (by omega)];exact Frzs.h
 rw[hB];refine RT ?_;exact Cp [.ptr X 0 0] [.bx 259 (.agg [ysA b,iA 0])] (.cons (.cell (.ptr .here)) .nil)
theorem Lc{b:List UInt8}:∀(ks:List Kind) (i:Nat) (s:RdS) (o:List Comp),(EE b ks i s o).1.length<=o.length+ks.length
 |[],i,s,o=>by rw[EE];exact AT _
 |k::ks,i,s,o=>by
  rw[EE];split
  ·exact Bh (Lc ks _ _ _) (by simp only[Bl];omega)
  ·exact Bh (Lc ks _ _ _) (by simp only[Bl,AJ,D5];omega)
theorem LQ{b:List UInt8}(ks:List Kind):∀(c n:Nat) (s:RdS) (gs:List Int) (its:List Item),(FK b ks c n s gs its).1.length<=gs.length+c/\(FK b ks c n s gs its).2.1.length<=its.length+c/\((∀it∈its,it.comps.length<=ks.length)->∀it∈(FK b ks c n s gs its).2.1,it.comps.length<=ks.length)
 |0,n,s,gs,its=>by rw[FK];exact⟨AT _,AT _,id⟩
 |c+1,n,s,gs,its=>by
  rw[FK];split
  ·exact⟨by simp,by simp,id⟩
  ·split
   ·obtain⟨a1,a2,a3⟩:=LQ ks c (n+1) (EE b ks 0 (RdS.get b ⟨(Gw b s.p).2.2,false⟩ 1).2 []).2 (gs++[((Gw b s.p).1.toNat:Int)]) (its++[⟨⟨n,((Gw b s.p).1.toNat:Int)⟩,(EE b ks 0 (RdS.get b ⟨(Gw b s.p).2.2,false⟩ 1).2 []).1⟩])
    refine⟨Bh a1 (by simp only[AJ,BM];omega),Bh a2 (by simp only[AJ,BM];omega),λh=>a3 λit hit=>?_⟩;rcases AL.1 hit with hit|hit
    ·exact h it hit
    ·rw[DC]at hit
     subst hit;exact Bh (Lc ks _ _ _) (by simp)
   ·obtain⟨a1,a2,a3⟩:=LQ ks c (n+1) (RdS.get b ⟨(Gw b s.p).2.2,false⟩ 1).2 (gs++[((Gw b s.p).1.toNat:Int)]) its
    exact⟨Bh a1 (by simp only[AJ,BM];omega),by omega,a3⟩
abbrev XC:Wd:=⟨[],[],[]⟩
theorem fg(b:List UInt8)(hb:b.length<=17592186044416):PS prog 29 [ysA b] (.tup [wdA false (U7 b).1,iA (U7 b).2]):=by
 have hbm:(b.map yA).length=b.length:=AD _;unfold U7;refine Sp (nt:=74) (res:=[.cell 2 26,.tmp 3]) func29 λSf=>?_
 refine JG ?_;refine Ai λZ=>?_;refine JB ?_
 refine JA ?_;refine AC rfl (λh1=>?_) (λh1=>?_)
 ·have h1:65536<b.length:=by rw[AS,hbm]at h1;omega
  rw[Ab h1];refine JC ?_;exact Cp [.agg [.prim (.slice none 0 0),.prim (.slice none 0 0),.prim (.slice none 0 0)],iA 2] [wdA false XC,iA 2] (.cons (.agg (.cons .nil (.cons .nil (.cons .nil .nil)))) (.cons (.cell .same) .nil))
 have h1:b.length<=65536:=by rw[AZ,hbm]at h1;omega
 rw[AI (by omega)];refine JA ?_;refine AC rfl (λh2=>?_) (λh2=>?_)
 ·have h2:b.length<8:=by rw[AS,hbm]at h2;omega
  rw[Ab h2];refine JC ?_;exact Cp [.agg [.prim (.slice none 0 0),.prim (.slice none 0 0),.prim (.slice none 0 0)],iA 14] [wdA false XC,iA 14] (.cons (.agg (.cons .nil (.cons .nil (.cons .nil .nil)))) (.cons (.cell .same) .nil))
 have h2:8<=b.length:=by rw[AZ,hbm]at h2;omega
 rw[AI (by omega)];obtain⟨B,hB⟩:=nm (b.take (b.length-8));have hBl:B.length=b.length-8:=by rw[<-hB,Ba];omega
 have hBm:(B.map yA).length=B.length:=AD _;have hBt:(b.map yA).take (b.length-8)=B.map yA:=by rw[<-hB,D9]
 rw[hB];have hse:=λX=>YN X B _ hBm (by omega)
 obtain⟨SB,hSB⟩:=nm (Jb B);rw[hSB]at hse⊢;have heq:=S4 SB b;refine JD ?_;(iterate 3 refine WO ?_);refine Ad ?_ (CB ((b.length-8:Nat):Int) (by omega) (by omega) rfl rfl);refine Ad ?_ (W.hiL rfl rfl rfl (by rw[hbm];omega));refine WO ?_;rw[hBt];refine FL ?_;refine CN λY=>?_
 refine JG ?_;refine DO (Q6 (by rw[hBm];omega) (by rw[hBm];unfold maxLen;omega) rfl rfl (by exact Az)) rfl ?_;refine WL (h:=hse _) λK4=>?_;refine WO ?_;refine BO (h:=(heq ..)) (k:=?_);refine JB ?_
 refine FL ?_;refine AC rfl (λh3=>?_) (λh3=>?_)
 ·have h3:SB≠b:=by simpa using h3
  rw[Ab h3];refine JC ?_;exact Cp [.agg [.prim (.slice none 0 0),.prim (.slice none 0 0),.prim (.slice none 0 0)],iA 13] [wdA false XC,iA 13] (.cons (.agg (.cons .nil (.cons .nil (.cons .nil .nil)))) (.cons (.cell .same) .nil))
 have h3:SB=b:=by simpa using h3
 rw[AI (λh=>h h3)];obtain⟨RB,hRB⟩:=nm (OZ B);rw[hRB];unfold OZ at hRB;have hnw:=Xq B (by omega);have hBb:B.length<=65536:=by omega
 have g1:=λR X=>IQ R X B ⟨0,false⟩ 8 hBb (Ap _) (by decide)
 have g2:=GE (b:=B) (s:=⟨0,false⟩) (n:=8) (Ap _);obtain⟨⟨c1,s1⟩,hz⟩:=nm (RdS.get B ⟨0,false⟩ 8);rw[hz]at g1 g2 hRB;dsimp only at g1 g2 hRB;refine FL ?_;refine CN λR=>?_
 refine JG ?_;refine HS hnw (.v (.cell (.bx (Y:=R) rfl) rfl rfl)) ?_;refine KO ?_;refine Ai λX=>?_;refine JB ?_
 refine JI ?_;refine Fj (g1 _ _) .fz ?_;refine JE ?_;refine FL ?_;refine AC rfl (λh4=>?_) (λh4=>?_)
 ·have h4:c1≠1\/s1.bad=true:=by
   simp only[CE,AS]at h4;rcases h4 with h4|h4
   ·exact .inl (by omega)
   ·exact .inr h4
  rw[Ab h4]at hRB;subst hRB;rw[Ab (by simp)];refine JC ?_;exact Cp [.agg [.prim (.slice none 0 0),.prim (.slice none 0 0),.prim (.slice none 0 0)],iA 3] [wdA false XC,iA 3] (.cons (.agg (.cons .nil (.cons .nil (.cons .nil .nil)))) (.cons (.cell .same) .nil))
 have h4:¬(c1≠1\/s1.bad=true):=by
  simp only[DG,AZ]at h4;rintro(h|h)
  ·omega
  ·rw[h4.2]at h;cases h
 rw[AI h4]at hRB;have g3:=λR X=>aA R X B s1 hBb g2
 have g4:=QF (b:=B) (s1.get B 5).1 (s1.get B 5).2 [] (GE g2);have g5:(Fy B s1).2.p<=8*B.length:=g4;clear g4;obtain⟨⟨KS,s2⟩,hkr⟩:=nm (Fy B s1);rw[hkr]at g3 g5 hRB;dsimp only at g3 g5 hRB;refine JI ?_;refine HS (g3 _ _) .fz ?_;refine JB ?_;refine JA ?_;refine AC rfl (λh5=>?_) (λh5=>?_)
 ·have h5:s2.bad=true\/Bs KS≠0:=by
   simpa using h5
  rw[Ab h5]at hRB;subst hRB;rw[Ab (by simp)];refine JC ?_;exact Cp [.agg [.prim (.slice none 0 0),.prim (.slice none 0 0),.prim (.slice none 0 0)],iA 3] [wdA false XC,iA 3] (.cons (.agg (.cons .nil (.cons .nil (.cons .nil .nil)))) (.cons (.cell .same) .nil))
 have h5:s2.bad=false/\Bs KS=0:=by simpa using h5
 rw[AI (by rintro(h|h);rw[h5.1]at h;cases h;exact h h5.2)]at hRB;have hKS:∀k∈KS,KOK k:=λk hk=>QE ((CQ h5.2).2 k hk)
 have h16:KS.length<=16:=(CQ h5.2).1;obtain⟨s2p,s2b⟩:=s2;obtain⟨rfl,h5'⟩:s2b=false/\Bs KS=0:=h5;rw[h5'];have g6:=λR X=>aB R X B ⟨s2p,false⟩ KS hKS h16 rfl hBb g5
 have g7:(Hi B KS ⟨s2p,false⟩).1.length<=0+_/\(Hi B KS ⟨s2p,false⟩).2.1.length<=0+_/\((∀it∈([]:List Item),it.comps.length<=KS.length)->∀it∈(Hi B KS ⟨s2p,false⟩).2.1,it.comps.length<=KS.length):=LQ KS (RdS.get B ⟨s2p,false⟩ 9).1 0 (RdS.get B ⟨s2p,false⟩ 9).2 [] [];have g8:=Kq (b:=B) (s:=⟨s2p,false⟩) (n:=9) (by decide);obtain⟨⟨GS,IS,s3⟩,hsr⟩:=nm (Hi B KS ⟨s2p,false⟩);rw[hsr]at g6 g7 hRB;dsimp only at g6 g7 hRB;obtain⟨g7,g9,g10⟩:=g7;have g10:=g10 (by simp);refine JL ?_;refine Fj (g6 _ _) .fz ?_;refine WO ?_;refine Ai λV=>?_;refine JB ?_
 refine JA ?_;refine AC rfl (λh6=>?_) (λh6=>?_)
 ·have h6:s3.bad=true:=h6
  rw[Ab h6]at hRB;subst hRB;rw[Ab (by simp)];refine JC ?_;exact Cp [.agg [.prim (.slice none 0 0),.prim (.slice none 0 0),.prim (.slice none 0 0)],iA 3] [wdA false XC,iA 3] (.cons (.agg (.cons .nil (.cons .nil (.cons .nil .nil)))) (.cons (.cell .same) .nil))
 have h6:s3.bad=false:=h6;rw[AI (by rw[h6];simp)]at hRB;subst hRB;rw[AI (by simp)];have hwr:=Ue ⟨KS,GS,IS⟩ (by show GS.length<=_;omega) (by show IS.length<=_;omega) (λit hit=>by have:=g10 it hit;omega);obtain⟨⟨wb,we⟩,hwe⟩:=nm (Ip ⟨KS,GS,IS⟩);rw[hwe]at hwr⊢;dsimp only at hwr;have heq2:=S4 wb b;refine JI ?_;refine BE (h:=(hwr ..)) (k:=?_);refine JE ?_;refine JD ?_;(iterate 5 refine WO ?_);refine TO (v:=bA (decide (wb=b))) (h:=W.call2 A6 A6 heq2 rfl) (k:=?_);refine JE ?_;refine FL ?_;refine AC rfl (λh7=>?_) (λh7=>?_)
 ·have h7:¬((wb,we)=(b,0)):=by
   simp only[CE,AS,EK,AZ]at h7;intro e;injection e with e1 e2
   rcases h7 with h7|h7
   ·exact h7 e2
   ·exact h7 e1
  rw[AI h7];refine JC ?_;exact Cp [.agg [.prim (.slice none 0 0),.prim (.slice none 0 0),.prim (.slice none 0 0)],iA 3] [wdA false XC,iA 3] (.cons (.agg (.cons .nil (.cons .nil (.cons .nil .nil)))) (.cons (.cell .same) .nil))
 have h7:(wb,we)=(b,0):=by
  simp only[DG,AZ,Bool.not_eq_false',AS]at h7;obtain⟨e1,e2⟩:=h7;rw[e2,Classical.not_not.1 e1]
 rw[Ab h7];refine JC ?_;exact Ends.sp [wdA false ⟨KS,GS,IS⟩,iA 0] [] ⟨rfl,rfl⟩
theorem Mt{α:Type}{f:α->List (List Bool)}{n:Nat}:∀{l:List α},(∀x∈l,(f x).flatten.length<=n)->(l.flatMap f).flatten.length<=l.length*n
 |[],_=>by simp
 |a::l,h=>by
  have h1:=h a (by simp);have h2:=Mt (l:=l) λx hx=>h x (by simp[hx])
  rw[Bj,BC,AJ,Bl,Nat.succ_mul];omega
theorem XG{α:Type}{f:α->List Bool}{n:Nat}:∀{l:List α},(∀x∈l,(f x).length<=n)->(l.map f).flatten.length<=l.length*n
 |[],_=>by simp
 |a::l,h=>by
  have h1:=h a (by simp);have h2:=XG (l:=l) λx hx=>h x (by simp[hx])
  rw[Aa,Af,AJ,Bl,Nat.succ_mul];omega
theorem Mj(v:UInt64):(Cv v).length<=80:=by
 have:=Iz v;rw[Ob];omega
theorem VK{s:List UInt8}(h:Dx s=true):(KG s).flatten.length<=101:=by
 have h1:=(Mk h).2.1;have h2:=XG (l:=s) (f:=λc=>Bo (UInt64.ofNat (E8 c)) 6) (n:=6) λx _=>Nat.le_of_eq (Bc _ _)
 unfold KG;rw[Af,AJ,Bc];omega
theorem Xa{f:Field}(h:Bf f=0):(Fi f).flatten.length<=186:=by
 have h1:=VK (GH h).1;have h2:=Mj (zig f.low);unfold Fi;rw[BC,AJ,Af,Af,List.flatten_nil,A8,AJ,Bc];omega
theorem aW{k:Kind}(h:KOK k):(GD k).flatten.length<=1593:=by
 have h1:=VK h.name;have h2:=Mt (l:=k.fields) (f:=Fi) λx hx=>Xa (h.fs x hx)
 have h3:=h.len;unfold GD;rw[BC,AJ,Af,AJ,Bc];omega
theorem cF{fs:List Field}{vs:List Int}(h8:fs.length<=8)(h:∀f∈fs,Bf f=0):(J6 fs vs).flatten.length<=256:=by
 have h1:=XG (l:=fs.zip vs) (f:=λq=>Bo (UInt64.ofInt (q.2-q.1.low)) q.1.bits.toNat) (n:=32) λq hq=>by
  rw[Bc];have:=(GH (h _ (List.of_mem_zip hq).1)).2.2.1;omega
 have h2:(fs.zip vs).length<=8:=by rw[GK];omega
 unfold J6;omega
theorem L6:∀(ks:List Kind) (i:Nat) (l:List Comp),(∀k∈ks,KOK k)->(EW ks i l).flatten.length<=ks.length*257
 |[],i,l,h=>by simp[EW]
 |k::ks,i,[],h=>by
  have h1:=L6 ks (i+1) [] λk hk=>h k (by simp[hk])
  rw[EW,Af,AJ,Bc,Bl];omega
 |k::ks,i,c::l,h=>by
  have hk:=h k (by simp);rw[EW];split
  ·have h1:=L6 ks (i+1) l λk hk=>h k (by simp[hk])
   have h2:=cF (vs:=c.vals) hk.len hk.fs;rw[Af,AJ,Bc,Bl,BC,AJ];omega
  ·have h1:=L6 ks (i+1) (c::l) λk hk=>h k (by simp[hk])
   rw[Af,AJ,Bc,Bl];omega
theorem Z4(b:List UInt8):(Jb b).length=b.length+8:=by rw[Jb,AJ,Yb]
theorem ZJ(w:Wd)(h:WdOK w):PS prog 28 [wdA false w] (.tup [ysA (Ip w).1,iA (Ip w).2]):=
 Ue w (by have:=h.gl;omega) (by have:=h.il;have:=h.gl;omega) λit hit=>by
  have h1:=Yq ((Wk h).it it hit).2.2.2;have h2:=(CQ h.ks).1;omega
theorem Ve(n:Nat)(hn:n*8<=140737488355328):PS prog 97 [.prim (.slice none 0 0),iA n] (.lst true 72 1 []):=by
 refine Sp (nt:=27) (res:=[.tmp 4]) func97 λSf=>?_
 refine KK ?_;refine AB rfl (Au (by omega)) ?_
 (iterate 6 refine WK ?_);refine AOps.p (W.capN rfl) rfl ?_;refine KK ?_
 refine AC rfl (λhc=>?_) (λhc=>?_)
 ·have hc:0<n:=by rw[AS]at hc;omega
  (repeat first|(refine Bm ?_;first|refine AOps.p (W.capN rfl) rfl ?_|refine AOps.p (V4 rfl rfl) rfl ?_|(refine O1 ?_;refine RR (n:=n) (λY=>?_) hc hn (hq:=by omega))|refine AOps.p (W.hi (a:=0) rfl rfl (by exact Az) rfl (by omega)) rfl ?_)|refine WK ?_|refine Ai λX=>?_|refine Ay λY=>?_);refine FF (X:=Y) 0 ?_;refine RT ?_;exact⟨[.sl Y 0 0],[.lst true 72 1 []],_,[],.cons (.tmp rfl) rfl .nil,.cons (.cell (.sl (p:=0) .here rfl)) .nil,by exact BL,rfl,rfl⟩
 ·refine KK ?_
  refine RT ?_;exact⟨[.prim (.slice none 0 0)],[.lst true 72 1 []],_,[],.cons (.tmp rfl) rfl .nil,.cons (.cell .nil) .nil,by exact BL,rfl,rfl⟩
def Jr(ls:List (List UInt64))(i:Nat):Nat:=((ls.take i).flatten).length
theorem Oc{ls:List (List UInt64)}{i:Nat}(h:i<ls.length):Jr ls (i+1)=Jr ls i+ls[i].length:=by
 unfold Jr;rw[Aw h,BC,AJ];simp
theorem aT(ls:List (List UInt64))(i:Nat):Jr ls i<=ls.flatten.length:=by
 unfold Jr;have h:((ls.take i).flatten++(ls.drop i).flatten)=ls.flatten:=by rw[<-BC,B8]
 rw[<-h,AJ];omega
theorem Xi(ls:List (List UInt64))(hl:ls.length<=4611686018427387903)(hb:ls.flatten.length*8<=140737488355328):PS prog 31 [.lst false 64 1 (ls.map λl=>.lst false 72 1 (l.map uA))] (.lst true 72 1 (ls.flatten.map uA)):=by
 refine Sp (nt:=36) (res:=[.tmp 2]) func31 λSf=>?_
 have hle:=aT ls;refine KK ?_;refine Cq (λ(i:Nat) (s:Int)=>⟨[(0,.lst false 64 1 (ls.map λl=>.lst false 72 1 (l.map uA))),(3,iA s),(9,.lst false 64 1 (ls.map λl=>.lst false 72 1 (l.map uA))),(10,iA (ls.map λl=>AV.lst false 72 1 (l.map uA)).length),(11,iA i)],Sf⟩) (λi s=>i<=ls.length/\s=Jr ls i) (λi _=>ls.length-i) 0 0 ⟨Ap _,rfl⟩ ?_;rintro i s ⟨hi,hs⟩;have h0:=hle i;refine KK ?_;refine AC rfl (λhc=>?_) (λhc=>?_)
 ·have h:i<ls.length:=by rw[AS,AD]at hc;omega
  have hs1:=Oc h;have h1:=hle (i+1);have hml:(ls[i].map uA).length=ls[i].length:=AD _;refine KK ?_;refine AB rfl (Au (by omega)) ?_;refine KK ?_;exact CA (i+1) (s+(ls[i].map uA).length) ⟨h,by omega⟩
 ·have h:i=ls.length:=by rw[AZ,AD]at hc;omega
  subst h;have hfull:Jr ls ls.length=ls.flatten.length:=by unfold Jr;rw[Bg]
  subst hs;have hg:=Ve (Jr ls ls.length) (by rw[hfull];exact hb);refine KK ?_;refine ZE (h:=hg) λY=>?_;refine KK ?_
  refine FP (λ(i Y m:Nat) (L:List AV)=>⟨[(6,.sl Y 0 m),(25,.lst false 64 1 (ls.map λl=>.lst false 72 1 (l.map uA))),(26,iA (ls.map λl=>AV.lst false 72 1 (l.map uA)).length),(27,iA i)],(Y,.row 72 1 L)::Sf⟩) (λi _ m L=>i<=ls.length/\m=L.length/\L=((ls.take i).flatten).map uA) (λi _ _ _=>ls.length-i) 0 Y 0 [] ⟨Ap _,rfl,rfl⟩ ?_;rintro i Y m L ⟨hi,hm,hL⟩;have hLl:L.length=Jr ls i:=by rw[hL,AD];rfl
  refine KK ?_;refine AC rfl (λhd=>?_) (λhd=>?_)
  ·have h:i<ls.length:=by rw[AS,AD]at hd;omega
   have hs1:=Oc h;have h1:=hle (i+1);have hml:(ls[i].map uA).length=ls[i].length:=AD _;have hbd:(m+(ls[i].map uA).length)*8<=140737488355328:=by omega
   refine KK ?_;refine Ay λY=>?_;refine KK ?_
   refine DH (i+1) Y _ _ ⟨h,?_,?_⟩
   ·rw[AJ,hm]
   ·rw[Aw h,BC,AK,<-hL];simp
  ·have h:i=ls.length:=by rw[AZ,AD]at hd;omega
   subst h;rw[Bg]at hL;subst hL;refine JC ?_;exact⟨[.sl Y 0 m],[.lst true 72 1 (ls.flatten.map uA)],_,[],.cons (.tmp rfl) rfl .nil,.cons (.cell (.sl (p:=0) .here hm)) .nil,by exact BL,rfl,rfl⟩
theorem a6(a b:List UInt64)(hl:a.length<=1099511627776):PS prog 30 [.lst false 72 1 (a.map uA),.lst false 72 1 (b.map uA)] (bA (decide (a=b))):=by
 refine Sp (nt:=26) (res:=[.tmp 4]) func30 λSf=>?_
 refine KK ?_;refine AC rfl (λhb=>?_) (λhb=>?_)
 ·have hb:a.length≠b.length:=by simp at hb;omega
  refine JC ?_;refine Ah ?_;rw[Au λe=>hb (by rw[e])]
 ·have hb:a.length=b.length:=by simp at hb;omega
  refine KK ?_;refine Cd (λi:Nat=>⟨[(0,.lst false 72 1 (a.map uA)),(1,.lst false 72 1 (b.map uA)),(12,iA (a.map uA).length),(13,iA i)],Sf⟩) (λi=>i<=a.length/\∀j (h:j<a.length),j<i->a[j]=b[j]'(by omega)) (λi=>a.length-i) 0 ⟨Ap _,λj h hj=>absurd hj (by omega)⟩ ?_;rintro i ⟨hi,he⟩;refine KK ?_;refine AC rfl (λhc=>?_) (λhc=>?_)
  ·have h:i<a.length:=by simpa using hc
   have h':i<b.length:=by omega
   obtain⟨x,hx⟩:=nm (a[i]);obtain⟨y,hy⟩:=nm (b[i]);have hat1:(a.map uA)[i]?=some (uA x):=by rw[Ac,AX h,hx];rfl
   have hat2:(b.map uA)[i]?=some (uA y):=by rw[Ac,AX h',hy];rfl
   refine KK ?_;refine RU ?_;refine JK ?_;refine RGo.p (W.idxL rfl rfl rfl hat1) rfl ?_;(iterate 3 refine RK ?_);refine RGo.p (W.idxL rfl rfl rfl hat2) rfl ?_;refine JK ?_;refine RGo.nil (by kernel_rfl) ?_;refine WK ?_;refine AC rfl (λhd=>?_) (λhd=>?_)
   ·have hd:x≠y:=λe=>by subst e;simp at hd
    refine JC ?_;refine Ah ?_;rw[Au λe=>hd (by subst e;rw[<-hx,<-hy])]
   ·have hd:x=y:=by
     have:=AU hd;simp only[ne_eq,Da]at this;exact Ds.1 (by omega)
    refine KK ?_;refine Bb (i+1) ⟨h,λj h1 h2=>?_⟩;by_cases e:j=i
    ·subst e;rw[hx,hy,hd]
    ·exact he j h1 (by omega)
  ·have h:¬i<a.length:=by simpa using hc
   refine JC ?_;refine Ah ?_;rw[BP (EA hb λj h1 h2=>he j h1 (by omega))]
section
open Go.RowKit
def MV(w:World):Mem:=⟨λ_=>none,λ_=>False,w,λb=>b<w.heap.size⟩
theorem Xr(w:World):Good (MV w) (MV w) 0 [] []:=
 ⟨λz hz=>(by cases hz),.nil,λb hb=>(by cases hb),λb h=>h,.nil,λx hx=>(by cases hx),λx h=>h.elim,.refl _,rfl,rfl,rfl,AT _⟩
theorem Good.bel{m':Mem}{N:Nat}{Z:Zs}{br:List Nat}(G:Good (MV w) m' N Z br):Below w.heap.size w m'.w:=
 ⟨G.os,G.tape,G.output,G.size,λk hk=>(G.le.F k hk).2⟩
theorem PS.calls_bool{P:Program}{f:FuncId}{args:List AV}{b:Bool}(h:PS P f args (bA b)){vals:Array Value}(hv:VTs (MV w) args vals.toList []):
  Calls P f vals w λe w'=>e= .returned (.bool b)/\Below w.heap.size w w':=
 (h.run [] (MV w) 0 [] vals rfl (Xr w) hv).mono λe w' ⟨v,r,S',m',N',Z',br,h1,h2,h3,G,h4,h5,h6⟩=>by
  subst h1 h2 h5;refine⟨?_,G.bel⟩;obtain⟨⟨h7,_⟩,_⟩:=h4;injection h7 with h7
  rw[h7]
theorem Sy{α:Type}{m:Mem}{C:List Value->α->Prop}{sz:Nat}{f:α->AV}(hC:∀c x,C c x->VC m (f x) c []):∀{l:List α} {xs:List Value},Cells C sz xs l->VCs m (l.map f) xs []
 |[],_,h=>⟨h,rfl⟩
 |x::l,_,⟨c,ys,h1,h2,h3,h4⟩=>⟨c,ys,[],[],h1,rfl,hC c x h3,Sy hC h4⟩
theorem Qy{b o:Nat}{u:Value}(h:w.cell? ⟨b,o,none⟩=some u):∃arr t r,w.heap[b]?=some (.cells arr t r)/\arr[o]?=some u:=by
 unfold World.cell? at h;cases hb:w.heap[b]? with
 |none=>simp only[hb]at h;cases h
 |some blk=>
  cases blk with
  |cells c t r=>simp only[hb]at h;exact⟨c,t,r,rfl,by simpa using h⟩
  |_=>simp only[hb]at h;cases h
theorem jv{α:Type}{C:World->Reg->List Value->α->Prop}{sz:Nat}{f:α->AV}{t:TypeId}{v:Value}{l:List α}(hsz:0<sz)(hC:∀c x,C w (Lt w) c x->VC (MV w) (f x) c [])(hw:∀x,(f x).width=sz)(h:Sl w (Lt w) sz C v l):VC (MV w) (.lst false t sz (l.map f)) [v] []:=by
 obtain⟨xs,⟨h1,A,cap,rfl,hn,hr⟩,hc⟩:=h;refine⟨rfl,A,cap,by simp,by simpa using hn,λe he=>by obtain⟨x,_,rfl⟩:=Ag.1 he;exact hw x,λh0=>?_⟩;have h0:0<l.length:=by simpa using h0
 obtain⟨b,off,rfl,hb,hcell⟩:=hr h0;have hx:0<xs.length:=by rw[h1];exact Nat.mul_pos h0 hsz
 obtain⟨arr,t',r,h2,h3⟩:=Qy (hcell 0 xs[0] (by simp));refine⟨b,off,arr,t',r,rfl,hb,h2,?_⟩
 have e:(arr.toList.drop off).take ((l.map f).length*sz)=xs:=by
  apply GL;intro j;rw[C5];split
  ·rename_i hj
   have hj:j<xs.length:=by rw[h1];simpa using hj
   obtain⟨arr2,t2,r2,h4,h5⟩:=Qy (hcell j xs[j] (by simp));rw[h2]at h4;injection h4 with h4
   injection h4 with h4
   subst h4;rw[C6,AX hj];simpa using h5
  ·rename_i hj
   rw[CD];rw[h1];simpa using hj
 rw[e];exact Sy hC hc
theorem gI{v:Value}{l:List Int}(h:bg w (Lt w) v l):VC (MV w) (Av false l) [v] []:=
 jv (f:=iA) (by decide) (λc x hc=>⟨⟨hc,rfl⟩,rfl⟩) (λ_=>rfl) h
theorem fO{m:Mem}:VTs m [] [] []:=⟨rfl,rfl⟩
theorem fP{m:Mem}{l:List AV}{us:List Value}{x:Int}(k:VTs m l us []):VTs m (iA x::l) (.int .i64 x::us) []:=(Dg rfl).2 ⟨_,_,[],[],rfl,rfl,⟨⟨rfl,rfl⟩,rfl⟩,k⟩
theorem Ui{v:Value}{z:List Int}{l:List AV}{us:List Value}(h:bg w (Lt w) v z)(k:VTs (MV w) l us []):VTs (MV w) (Av false z::l) (v::us) []:=(Dg rfl).2 ⟨_,_,[],[],rfl,rfl,gI h,k⟩
end
section
open Go.RowKit
theorem Kg{ks:List Kind}(h:∀k∈ks,KOK k)(h4:ks.length<=4):∀(gs:List Int) (n:Nat) (l:List Item),(EC ks gs n l).flatten.length<=gs.length*1109
 |[],n,l=>by simp[EC]
 |g::gs,n,[]=>by
  have h1:=Kg h h4 gs (n+1) [];have h2:=Mj (UInt64.ofInt g);rw[EC,Af,Af,AJ,AJ,Bc,Bl];omega
 |g::gs,n,it::l=>by
  have h2:=Mj (UInt64.ofInt g);rw[EC];split
  ·have h1:=Kg h h4 gs (n+1) l
   have h3:=L6 ks 0 it.comps h;rw[Af,Af,AJ,AJ,Bc,Bl,BC,AJ];omega
  ·have h1:=Kg h h4 gs (n+1) (it::l)
   rw[Af,Af,AJ,AJ,Bc,Bl];omega
theorem ZI{w:Wd}(h:WdOK w)(hk:w.kinds.length<=4):∃b,Ip w=(Jb b,0)/\b.length<=40000:=by
 have h0:=(Ck w).2 h
 have hl:(Fg w).flatten.length<=300000:=by
  have hks:∀k∈w.kinds,KOK k:=λk hk=>QE ((CQ h.ks).2 k hk)
  have h1:=Mt (l:=w.kinds) (f:=GD) λx hx=>aW (hks x hx)
  have h2:=Kg hks hk w.gens 0 w.items;have h3:=h.gl;unfold Fg Mn;simp only[Af,AJ,Bc,BC,CT];omega
 have hs:=Yx (Fg w) ⟨[],0⟩ rfl (by show 0+_<=_;omega)
 have h1:8<=(Fg w).flatten.length:=by
  unfold Fg;rw[Af,AJ,Bc];omega
 refine⟨Ca (Fg w).flatten,?_,by rw[G7];omega⟩;unfold Ip;rw[hs,h0];dsimp only[List.nil_append];rw[AI (by simp),AI (by rw[G7];rintro(h|h);exact h rfl;omega)]
theorem Ul(l m:List Int)(s:Int):PS prog 5 [Av false l,Av false m,iA s] (bA true):=by
 have hwp:=b8 l;have hok:=Vh l;obtain⟨hk0,hk4⟩:=Vi l;have hko:K8 (GF l).kinds:=Kr l;have hkg:KsGood (GF l).kinds:=MO l;obtain⟨hkn,hkf⟩:=O9 l;obtain⟨w,hw⟩:=nm (GF l);rw[hw]at hwp hok hk0 hk4 hko hkg hkn hkf;clear hw;have hsp:=We w.kinds m hko hkf hkn;refine Sp (nt:=97) (res:=[.tmp 6]) func5 λSf=>?_
 refine R1 ?_;refine JD ?_;refine UZ (h:=(Wt ..)) (k:=?_);refine JB ?_;refine AB rfl rfl ?_;refine JI ?_;refine BE (h:=(hwp ..)) (k:=?_);refine WO ?_;refine Ai λV1=>?_;refine JB ?_
 refine JL ?_;refine fB (h:=hsp) λss hss Y=>?_
 have hT:=hss.gs hok hkg hk4;obtain⟨p,hp⟩:∃p:Nat,p=2:=⟨_,rfl⟩;have h1:=LM w ss s 0 p hT (by decide) (by omega);obtain⟨hT2,hk2⟩:=My (seed:=s) p w 0 hT;have h2:=LM (Fc ss s w 0 p).1 ss s (0+p) p hT2 (by omega) (by omega);have h3:=LM w ss s 0 (p+p) hT (by decide) (by omega);rw[SO]at h3;have l1:=Lx ss s p w 0;have l2:=Lx ss s p (Fc ss s w 0 p).1 (0+p);have hT3:=(My (seed:=s) p _ (0+(p:Int)) hT2).1;obtain⟨⟨v,ds⟩,hv⟩:=nm (Fc ss s w 0 p);rw[hv]at hT2 hk2 h1 h2 h3 l1 l2 hT3;dsimp only at hT2 hk2 h1 h2 h3 l1 l2 hT3;obtain⟨b,hb,hbl⟩:=ZI hT2.ok (by rw[hk2];omega);have hr:=W4 hb;have hwr:=ZJ v hT2.ok;have hsl:(Jb b).length=b.length+8:=Z4 b;rw[hb]at hwr;dsimp only at hwr;have hrd:=fg (Jb b) (by omega);rw[hr]at hrd;dsimp only at hrd;obtain⟨⟨u,es⟩,hu⟩:=nm (Fc ss s v (0+p) p);rw[hu]at h2 h3 l2 hT3;dsimp only at h2 h3 l2 hT3;clear hv hu;subst hp;rw[show(0:Int)+((2:Nat):Int)=2 from rfl,show((2:Nat):Int)=2 from rfl]at h2;rw[show((2:Nat):Int)=2 from rfl]at h1;rw[show((2+2:Nat):Int)=4 from rfl]at h3;have hsm:=Z6 u u hT3.ok.wl;rw[BP rfl]at hsm;have hcc:=Xi [ds,es] (by show 2<=4611686018427387903;decide) (by simp;omega);have hfl:[ds,es].flatten=ds++es:=by simp
 rw[hfl]at hcc;have heq:=a6 (ds++es) (ds++es) (by rw[AJ];omega);rw[BP rfl]at heq;refine WO ?_;refine FL ?_;refine KW 8 (ss.map (FY false)) ?_ ?_
 ·exact Frzs.h
 refine JJ ?_;refine PY (h:=(h1 ..)) (k:=?_);refine KO ?_;refine Ai λV2=>?_;refine JE ?_
 refine JI ?_;refine BE (h:=(hwr ..)) (k:=?_);refine JE ?_;refine JI ?_;refine BE (h:=(hrd ..)) (k:=?_);refine KO ?_;refine Ai λV5=>?_;refine JE ?_
 refine JL ?_;refine PY (h:=(h2 ..)) (k:=?_);refine KO ?_;refine Ai λV3=>?_;refine JE ?_
 refine JL ?_;refine PY (h:=(h3 ..)) (k:=?_);refine KO ?_;refine Ai λV4=>?_;refine JE ?_
 refine JA ?_;refine JJ ?_;refine BO (h:=(hsm ..)) (k:=?_);refine KO ?_;refine BE (h:=(hcc ..)) (k:=?_);refine WO ?_;refine BO (h:=(heq ..)) (k:=?_);refine JE ?_;refine RT ?_;refine Ah ?_;rfl
theorem cJ(z0:List Int)(A0:Option Addr)(n0 cap0:Nat)(z1:List Int)(A1:Option Addr)(n1 cap1:Nat)(z2:Int)(w:World)(h0:bg w (Lt w) (.slice A0 n0 cap0) z0)(hlen0:z0.length*8<=140737488351232)(h1:bg w (Lt w) (.slice A1 n1 cap1) z1)(hlen1:z1.length*8<=140737488351232)(hx2:I64 z2):
  Calls prog 5 #[.slice A0 n0 cap0,.slice A1 n1 cap1,.int .i64 z2] w λe w'=>e= .returned (.bool true)/\Below w.heap.size w w':=
 (Ul z0 z1 z2).calls_bool (Ui h0 (Ui h1 (fP (fO))))
end
end Go.Proofs.YtmkahplhnbbgmaaGreat
