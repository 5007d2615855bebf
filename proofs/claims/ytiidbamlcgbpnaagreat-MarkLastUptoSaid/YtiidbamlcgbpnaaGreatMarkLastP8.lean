/-
  Part 8 of the texts under the law MarkLast: the layer of abstract values, walks and plain laws. Conditions: those that each theorem names.
-/
import Derived.Below
import Derived.Test.YtiidbamlcgbpnaaGreatMarkLastP7
namespace Go.Proofs.YtiidbamlcgbpnaaGreat
set_option linter.unusedVariables false
set_option linter.unusedSimpArgs false
set_option linter.defProp false
set_option maxRecDepth 10000
set_option maxHeartbeats 4000000
section
open Go.Sort
set_option maxHeartbeats 1000000 in
theorem RJ(f:FuncId)(cap:List AV)(cf:Mark->Mark->Int)(hst:Bd cap=true)(hcf:∀x y,PS Tryz.prog f (AC x::AC y::cap) (iA (cf x y)))(hS:SWO (AB cf)):∀(m X n:Nat) (d:Array Mark) (a b limit:Nat),b-a<=m->n=d.size->a<=b->b<=d.size->d.size<65536->limit<=1000->Below (AB cf) a b d->Spec Tryz.prog 166 [.sl X 0 n,iA a,iA b,iA limit,.fn f cap] [(X,.row 58 3 (d.toList.map AC))] λr S'=>∃u:Array Mark,(PermIn a b d u/\SortedIn (AB cf) a b u)/\r= .tup []/\S'=[(X,.row 58 3 (u.toList.map AC))]:=by
 intro m
 induction m using Nat.strongRecOn with
 |_ m ih=>
 intro X n d a b limit hm hn hab hb hz hlim hB;refine Spec.of (nt:=148) (res:=[]) Tryz.func166 rfl (by kernel_rfl) rfl rfl rfl λSf=>?_
 (repeat first|refine WK ?_|refine Ai λX=>?_|refine Ay λY=>?_);refine N9 (λ(a b limit:Nat) (wb wp:Bool) (u:Array Mark)=>⟨[(0,.sl X 0 n),(1,iA a),(2,iA b),(3,iA limit),(4,.fn f cap),(10,bA wb),(11,bA wp)],(X,.row 58 3 (u.toList.map AC))::Sf⟩) (λa' b' limit wb wp u=>a' <=b' /\b' <=d.size/\b'-a' <=b-a/\limit<=1000/\u.size=d.size/\Below (AB cf) a' b' u/\∀R,PermIn a' b' u R->SortedIn (AB cf) a' b' R->PermIn a b d R/\SortedIn (AB cf) a b R) (λa b _ _ _ _=>b-a) a b limit true true d ⟨hab,hb,Nat.le_refl _,hlim,rfl,hB,λR h1 h2=>⟨h1,h2⟩⟩ ?_;rintro a' b' limit wb wp u ⟨hab',hb',hmm,hlim,hu,hB',hG⟩;obtain⟨l,hl⟩:∃l,b'-a'=l:=⟨_,rfl⟩;refine AWP.block ?_;(repeat first|(refine AOps.gN ?_;first|refine AOps.p (AK ((l:Int)) (by omega) (by omega) rfl rfl) rfl ?_)|refine WK ?_|refine Ai λX=>?_|refine Ay λY=>?_);refine AWP.cond rfl (λhc=>?_) (λhc=>?_)
 ·have hs:=Ra f cap cf hst hcf X n u a' b' (by omega) hab' (by omega) (by omega)
  obtain⟨p1,p2⟩:=insertionSort_holds (lt:=(AB cf)) hS u a' b' hab' (by omega);(repeat first|(refine AOps.gN ?_;first|(refine AOps.g_callf ?_;first|refine DL (h:=(hs ..)) (k:=?_)))|refine WK ?_|refine Ai λX=>?_|refine Ay λY=>?_);refine RT ?_;exact Au [(X,_)] ⟨_,hG _ p1 p2,rfl,rfl⟩
 have hl12:12<l:=by have:=of_decide_eq_false hc;omega
 (repeat first|refine WK ?_|refine Ai λX=>?_|refine Ay λY=>?_);refine AWP.cond rfl (λhc=>?_) (λhc=>?_)
 ·have hs:=QB f cap cf hst hcf X n u a' b' (by omega) (by omega) (by omega) (by omega)
  obtain⟨p1,p2⟩:=heapSort_holds (lt:=(AB cf)) hS u a' b' hab' (by omega);(repeat first|(refine AOps.gN ?_;first|(refine AOps.g_callf ?_;first|refine DL (h:=(hs ..)) (k:=?_)))|refine WK ?_|refine Ai λX=>?_|refine Ay λY=>?_);refine RT ?_;exact Au [(X,_)] ⟨_,hG _ p1 p2,rfl,rfl⟩
 have hl0:0<limit:=by have:=of_decide_eq_false hc;omega
 (repeat first|refine WK ?_|refine Ai λX=>?_|refine Ay λY=>?_);refine Ag (λb:Nat×Array Mark=>b.1<=1000/\PermIn a' b' u b.2) (λb=>⟨[(0,.sl X 0 n),(1,iA a'),(2,iA b'),(3,iA b.1),(4,.fn f cap),(10,bA wb),(11,bA wp),(12,iA l)],(X,.row 58 3 (b.2.toList.map AC))::Sf⟩) ?_ ?_
 ·refine AWP.cond rfl (λhd=>?_) (λhd=>?_)
  ·have hs:=Ru (f:=f) (cap:=cap) X n u a' b' (by omega) hab' (by omega) (by omega)
   (repeat first|(refine AOps.gN ?_;first|(refine AOps.g_callf ?_;first|refine Mb (h:=hs) (k:=λv hv=>?_))|refine AOps.p (AK (((limit-1:Nat):Int)) (by omega) (by omega) rfl rfl) rfl ?_)|refine WK ?_|refine Ai λX=>?_|refine Ay λY=>?_);exact jn (limit-1,v) ⟨by dsimp only;omega,hv⟩
  ·(repeat first|refine WK ?_|refine Ai λX=>?_|refine Ay λY=>?_)
   exact jn (limit,u) ⟨hlim,permIn_refl _ _ _⟩
 rintro⟨lim1,u1⟩ ⟨hlim1,hP1⟩;dsimp only at hlim1 hP1⊢;have hu1:u1.size=d.size:=hP1.1.trans hu;have hpv:=Hy f cap cf hst hcf X n u1 a' b' (by omega) (by omega) (by omega) (by omega);obtain⟨c1,c2⟩:=choosePivot_holds (AB cf) u1 a' b' (by omega);obtain⟨⟨p,h⟩,hp⟩:∃c,choosePivot (AB cf) u1 a' b'=c:=⟨_,rfl⟩;rw[hp]at hpv c1 c2;dsimp only at hpv c1 c2;obtain⟨hnum,hhn⟩:∃hnum,Nx h=hnum:=⟨_,rfl⟩;rw[hhn]at hpv;(repeat first|(refine AOps.gN ?_;first|(refine AOps.g_callf ?_;first|refine DL (h:=(hpv ..)) (k:=?_)))|refine WK ?_|refine Ai λX=>?_|refine Ay λY=>?_);refine Ag (λb:Nat×Int×Array Mark=>a' <=b.1/\b.1<b' /\PermIn a' b' u b.2.2) (λb=>⟨[(0,.sl X 0 n),(1,iA a'),(2,iA b'),(3,iA lim1),(4,.fn f cap),(10,bA wb),(11,bA wp),(12,iA l),(13,iA b.1),(14,iA b.2.1)],(X,.row 58 3 (b.2.2.toList.map AC))::Sf⟩) ?_ ?_
 ·refine AWP.cond rfl (λhd=>?_) (λhd=>?_)
  ·have hs:=Q7 (f:=f) (cap:=cap) X n u1 a' b' (by omega) (by omega) (by omega) (by omega)
   have hrp:=reverseRange_holds u1 a' b' hab' (by omega);(repeat first|(refine AOps.gN ?_;first|(refine AOps.g_callf ?_;first|refine DL (h:=(hs ..)) (k:=?_))|refine AOps.p (AK (((b'-1:Nat):Int)) (by omega) (by omega) rfl rfl) rfl ?_|refine AOps.p (AK (((p-a':Nat):Int)) (by omega) (by omega) rfl rfl) rfl ?_|refine AOps.p (AK (((b'-1-(p-a'):Nat):Int)) (by omega) (by omega) rfl rfl) rfl ?_)|refine WK ?_|refine Ai λX=>?_|refine Ay λY=>?_);exact jn (b'-1-(p-a'),1,_) ⟨by dsimp only;omega,by dsimp only;omega,permIn_trans _ _ _ _ _ hP1 hrp⟩
  ·(repeat first|refine WK ?_|refine Ai λX=>?_|refine Ay λY=>?_)
   exact jn (p,hnum,u1) ⟨c1,c2,hP1⟩
 rintro⟨pv,hn2,u2⟩ ⟨c3,c4,hP2⟩;dsimp only at c3 c4 hP2⊢;have hu2:u2.size=d.size:=hP2.1.trans hu;have hB2:=hB'.perm (by omega) hP2;clear hpv hp hhn c1 c2 p h hnum;refine AWP.seq ?_;refine Ek (λv:Array Mark=>PermIn a' b' u v) (λv=>⟨[(0,.sl X 0 n),(1,iA a'),(2,iA b'),(3,iA lim1),(4,.fn f cap),(10,bA wb),(11,bA wp),(12,iA l),(13,iA pv)],(X,.row 58 3 (v.toList.map AC))::Sf⟩) ?_ ?_
 ·(repeat first|refine WK ?_|refine Ai λX=>?_|refine Ay λY=>?_)
  refine AWP.cond rfl (λ_=>?_) (λ_=>?_)
  ·have hs:=Pc f cap cf hst hcf X n u2 a' b' (by omega) (by omega) (by omega) (by omega)
   have hpi:=partialInsertionSort_holds (lt:=(AB cf)) hS u2 a' b' (by omega) (by omega) hB2;obtain⟨⟨v,fl⟩,hv⟩:∃v,partialInsertionSort (AB cf) u2 a' b'=v:=⟨_,rfl⟩;rw[hv]at hs hpi;dsimp only at hs hpi;(repeat first|(refine AOps.gN ?_;first|(refine AOps.g_callf ?_;first|refine DL (h:=(hs ..)) (k:=?_)))|refine WK ?_|refine Ai λX=>?_|refine Ay λY=>?_);refine AWP.cond rfl (λhe=>?_) (λhe=>?_)
   ·refine RT ?_
    exact Au [(X,_)] ⟨v,hG v (permIn_trans _ _ _ _ _ hP2 hpi.1) (hpi.2 he),rfl,rfl⟩
   ·(repeat first|refine WK ?_|refine Ai λX=>?_|refine Ay λY=>?_)
    exact jnR v (permIn_trans _ _ _ _ _ hP2 hpi.1)
  ·(repeat first|refine WK ?_|refine Ai λX=>?_|refine Ay λY=>?_)
   exact jnR u2 hP2
 rintro u3 hP3;have hu3:u3.size=d.size:=hP3.1.trans hu;have hB3:=hB'.perm (by omega) hP3;have hg3:∀R,PermIn a' b' u3 R->SortedIn (AB cf) a' b' R->PermIn a b d R/\SortedIn (AB cf) a b R:=λR h1 h2=>hG R (permIn_trans _ _ _ _ _ hP3 h1) h2
 clear hB2 hP2 hu2 u2 hP1 hu1 u1 hG hB' hn2;refine AWP.seq ?_;refine Ek (λ_:Unit=>True) (λ_=>⟨[(0,.sl X 0 n),(1,iA a'),(2,iA b'),(3,iA lim1),(4,.fn f cap),(10,bA wb),(11,bA wp),(12,iA l),(13,iA pv)],(X,.row 58 3 (u3.toList.map AC))::Sf⟩) ?_ ?_
 ·rcases Bool.eq_false_or_eq_true (decide ((0:Int)<(a':Int)))with g|g
  ·have hg:0<a':=by have:=of_decide_eq_true g;omega
   have h1:=AM AC (d:=u3) (i:=a'-1) (by omega);have h2:=AM AC (d:=u3) (i:=pv) (by omega);have hl2:=hcf (u3[a'-1]!) (u3[pv]!);(repeat refine WF ?_);refine RU ?_;(repeat first|(refine RGo.gN ?_;first|(refine RGo.g_callv ?_;first|refine RGo.k2 (h:=(hl2 ..)) (k:=?_))|refine RGo.go (h:=AK (((a'-1:Nat):Int)) (by omega) (by omega) rfl rfl) (k:=?_))|(refine RGo.gQ ?_;first|(refine RGo.g_callv ?_;first|refine RGo.k2 (h:=(hl2 ..)) (k:=?_))|refine RGo.go (h:=AK (((a'-1:Nat):Int)) (by omega) (by omega) rfl rfl) (k:=?_))|refine RK ?_|refine RGo.nil (by kernel_rfl) ?_);(repeat refine WF ?_);refine AWP.cond rfl (λhd=>?_) (λhd=>?_)
   ·have hd:(!(AB cf) u3[a'-1]! u3[pv]!)=true:=by simpa[g,AB]using hd
    have hd:(AB cf) u3[a'-1]! u3[pv]! =false:=by simpa[AB]using hd
    have hs:=RH f cap cf hst hcf X n u3 a' b' pv (by omega) c3 c4 (by omega) (by omega);obtain⟨⟨mid,d4⟩,hx⟩:∃x,partitionEqual (AB cf) u3 a' b' pv=x:=⟨_,rfl⟩;rw[hx]at hs;dsimp only at hs;obtain⟨q1,q2,q3,q4,q5⟩:=round_eq (lt:=(AB cf)) hS (partitionEqual_holds (AB cf)) hg c3 c4 (by omega) hB3 hd hx;(repeat first|(refine AOps.gN ?_;first|(refine AOps.g_callf ?_;first|refine Do (h:=(hs ..)) (k:=?_)))|refine WK ?_|refine Ai λX=>?_|refine Ay λY=>?_);refine Ec mid b' lim1 wb wp d4 ⟨q2,hb',by omega,hlim1,q3.trans hu3,q4,λR k1 k2=>?_⟩;obtain⟨k3,k4⟩:=q5 R k1 k2;exact hg3 R k3 k4
   ·(repeat first|refine WK ?_|refine Ai λX=>?_|refine Ay λY=>?_)
    exact jnR () trivial
  ·(repeat refine WF ?_)
   refine RU ?_;(repeat first|refine RK ?_|refine RGo.nil (by kernel_rfl) ?_);(repeat refine WF ?_);refine AE rfl (by simp[g]) ?_;(repeat first|refine WK ?_|refine Ai λX=>?_|refine Ay λY=>?_);exact jnR () trivial
 rintro _ _;have hs:=Pi f cap cf hst hcf X n u3 a' b' pv (by omega) c3 c4 (by omega) (by omega);obtain⟨⟨mid,ap,d4⟩,hx⟩:∃x,partition (AB cf) u3 a' b' pv=x:=⟨_,rfl⟩;rw[hx]at hs;dsimp only at hs;obtain⟨r1,r2,r3,r4,r5,r6,r7⟩:=round_part (lt:=(AB cf)) hS (partition_holds (AB cf)) c3 c4 (by omega) hB3 hx;(repeat first|(refine AOps.gN ?_;first|(refine AOps.g_callf ?_;first|refine Do (h:=(hs ..)) (k:=?_))|refine AOps.p (AK (((mid-a':Nat):Int)) (by omega) (by omega) rfl rfl) rfl ?_|refine AOps.p (AK (((b'-mid:Nat):Int)) (by omega) (by omega) rfl rfl) rfl ?_|refine AOps.p (EW l 8 (l/8) rfl rfl (by omega) rfl (by omega) rfl rfl) rfl ?_)|refine WK ?_|refine Ai λX=>?_|refine Ay λY=>?_);refine AWP.cond rfl (λhd=>?_) (λhd=>?_)
 ·have hrec:=ih (mid-a') (by omega) X n d4 a' mid lim1 (Nat.le_refl _) (by omega) r1 (by omega) (by omega) hlim1 r4
  (repeat first|(refine AOps.gN ?_;first|(refine AOps.g_callf ?_;first|refine Gw (h:=hrec) (k:=λv hv=>?_))|refine AOps.p (AT (((mid+1:Nat):Int)) (by omega) (by omega) rfl rfl) rfl ?_)|refine WK ?_|refine Ai λX=>?_|refine Ay λY=>?_);obtain⟨v1,v2⟩:=hv;obtain⟨s1,s2⟩:=r6 v v1 v2;refine Ec (mid+1) b' lim1 _ ap v ⟨by omega,hb',by omega,hlim1,v1.1.trans (r3.trans hu3),s1,λR k1 k2=>?_⟩;obtain⟨k3,k4⟩:=s2 R k1 k2;exact hg3 R k3 k4
 ·have hrec:=ih (b'-(mid+1)) (by omega) X n d4 (mid+1) b' lim1 (Nat.le_refl _) (by omega) (by omega) (by omega) (by omega) hlim1 r5
  (repeat first|(refine AOps.gN ?_;first|(refine AOps.g_callf ?_;first|refine Gw (h:=hrec) (k:=λv hv=>?_))|refine AOps.p (AT (((mid+1:Nat):Int)) (by omega) (by omega) rfl rfl) rfl ?_)|refine WK ?_|refine Ai λX=>?_|refine Ay λY=>?_);obtain⟨v1,v2⟩:=hv;obtain⟨s1,s2⟩:=r7 v v1 v2;refine Ec a' mid lim1 _ ap v ⟨by omega,by omega,by omega,hlim1,v1.1.trans (r3.trans hu3),s1,λR k1 k2=>?_⟩;obtain⟨k3,k4⟩:=s2 R k1 k2;exact hg3 R k3 k4
end
section
open Go.Sort
set_option maxRecDepth 8000 in
theorem Kd(f:FuncId)(cap:List AV)(cf:Mark->Mark->Int)(hst:Bd cap=true)(hS:SWO (AB cf))(hf:∀x y,PS Tryz.prog f (AC x::AC y::cap) (iA (cf x y)))(X n:Nat)(l:List Mark)(hn:n=l.length)(hlt:l.length<65536):
  Spec Tryz.prog 88 [.sl X 0 n,.fn f cap] [(X,.row 58 3 (l.map AC))] λr S'=>∃u:List Mark,(u.Perm l/\u.Pairwise λa b=>AB cf b a=false)/\r= .tup []/\S'=[(X,.row 58 3 (u.map AC))]:=by
 have e1:(UInt64.ofNat n).toNat=n:=by rw[UInt64.toNat_ofNat'];omega
 have hlen:=Kl (UInt64.ofNat n) (by rw[e1];omega);rw[e1]at hlen;have hsz:l.toArray.size=l.length:=by simp
 have hb:bitsLen n<=1000:=Nat.le_trans ((bitsLen_le_iff n 16).2 (by show n<65536;omega)) (by decide);have hs:=RJ f cap cf hst hf hS n X n l.toArray 0 n (bitsLen n) (by omega) (by omega) (Nat.zero_le _) (by omega) (by omega) hb (.inl rfl);simp only[List.toList_toArray]at hs;refine Spec.of (nt:=14) (res:=[]) Tryz.func88 rfl (by kernel_rfl) rfl rfl rfl λSf=>?_
 (repeat first|(refine AOps.gN ?_;first|(refine AOps.g_callf ?_;first|refine AOps.c1 (h:=(hlen ..)) (k:=?_))|refine OC [] (h:=hs) (λu hu=>?_)|refine AOps.p (HN .i64 n rfl (by omega) (by kernel_rfl) (by kernel_rfl) rfl) rfl ?_)|refine WK ?_|refine Ai λX=>?_|refine Ay λY=>?_);refine CT ?_;obtain⟨h1,h2⟩:=hu;have h1':PermIn 0 l.toArray.size l.toArray u:=by rw[hsz,<-hn];exact h1
 have hus:n=u.size:=by rw[h1'.1,hsz];exact hn
 exact Au [(X,_)] ⟨u.toList,⟨by simpa using FC h1',ES hus h2⟩,rfl,rfl⟩
end
def orI:List Int->Int
 |[]=>0
 |x::l=>if x=0 then orI l else x
theorem Pk(l:List Int)(i:Nat)(h:i<l.length):orI (l.drop i)=if l[i]=0 then orI (l.drop (i+1))else l[i]:=by
 rw[List.drop_eq_getElem_cons h,orI]
theorem Sg(l:List Int)(hl:l.length<=1099511627776):PS Tryz.prog 90 [AW false l] (iA (orI l)):=by
 refine Spec.of (nt:=18) (res:=[.tmp 2]) Tryz.func90 rfl (by kernel_rfl) rfl rfl rfl λSf=>?_
 (repeat first|refine WK ?_|refine Ai λX=>?_|refine Ay λY=>?_);refine BN (λi:Nat=>⟨[(0,AW false l),(3,iA 0),(6,AW false l),(7,iA (l.map iA).length),(8,iA i)],Sf⟩) (λi=>i<=l.length/\orI (l.drop i)=orI l) (λi=>l.length-i) 0 ⟨Nat.zero_le _,rfl⟩ ?_;rintro i ⟨hi,ho⟩;(repeat first|refine WK ?_|refine Ai λX=>?_|refine Ay λY=>?_);refine AWP.cond rfl (λhc=>?_) (λhc=>?_)
 ·have h:i<l.length:=by rw[decide_eq_true_eq,List.length_map]at hc;omega
  obtain⟨y,hy⟩:∃y,l[i]=y:=⟨_,rfl⟩;have hat:(l.map iA)[i]?=some (iA y):=by rw[List.getElem?_map,List.getElem?_eq_getElem h,hy];rfl
  have hd:=Pk l i h;rw[hy]at hd;(repeat first|refine WK ?_|refine Ai λX=>?_|refine Ay λY=>?_);refine AWP.cond rfl (λhe=>?_) (λhe=>?_)
  ·have he:y≠0:=by simpa using he
   (repeat first|refine WK ?_|refine Ai λX=>?_|refine Ay λY=>?_);refine RT ?_;refine AX ?_;rw[<-ho,hd,if_neg he]
  ·have he:y=0:=by simpa using he
   (repeat first|refine WK ?_|refine Ai λX=>?_|refine Ay λY=>?_);exact A4 (i+1) ⟨h,by rw[<-ho,hd,if_pos he]⟩
 ·have h:i=l.length:=by rw[decide_eq_false_iff_not,List.length_map]at hc;omega
  (repeat first|refine WK ?_|refine Ai λX=>?_|refine Ay λY=>?_);refine RT ?_;refine AX ?_;rw[<-ho,h,List.drop_length];rfl
section
open Go.RowKit Go.Sort
theorem Sp:laidOutB Tryz.prog=true:=by kernel_rfl
noncomputable def keyP:KeyC Tryz.prog 68 (Int×Int):=Se Tryz.prog 68 3 (Tryz.prog.types.size-1) (by kernel_rfl) (by kernel_rfl) (by kernel_rfl) (by kernel_rfl) (by kernel_rfl) (by kernel_rfl) (Maps.Keyed.of_law (deep_law_laid Sp (m:=2) (by omega) (of_decide_eq_true (by kernel_rfl)) (by kernel_rfl) (by kernel_rfl)))
instance mapPI:TMapK Tryz.prog 169 68 3 (.int .i64 0):=⟨by kernel_rfl,λw=>by kernel_rfl,PlainV.int (by kernel_rfl) rfl⟩
theorem Ns{m:Mark}(h:I64 m.n/\I64 m.kind):keyP.ok (Bk m):=h
theorem Pa{n:Int}(h:I64 n):PlainV Tryz.prog 3 (.int .i64 n):=PlainV.int (by kernel_rfl) (CM h)
theorem LT(a b:Int)(w:World):(Instr.build 68 #[(0,.int .i64 a),(1,.int .i64 b)]).run Tryz.prog w= .ok (.agg #[.int .i64 a,.int .i64 b]) w:=by kernel_rfl
abbrev mkO(X K:Nat)(last:Int)(l:List Mark):List AA:=[(X,.row 171 2 [.agg [.mp K,iA last]]),(K,.ob (MapKF keyP 3 (gM l) l.length))]
theorem markNew_sp:Spec Tryz.prog 29 [] [] λr S'=>∃b:Nat×Nat,r= .ptr b.1 0 0/\S'=mkO b.1 b.2 0 []:=by
 refine Spec.of (nt:=4) (res:=[.tmp 0]) Tryz.func29 rfl (by kernel_rfl) rfl rfl rfl λSf=>?_
 refine RG ?_;(repeat first|refine WO ?_|refine Ai λX=>?_|refine Ay λY=>?_);refine NL ?_;refine FL ?_;refine RG ?_;(repeat first|(refine AOps.gN ?_;first|(refine EC ?_;refine Ma keyP λK=>?_))|refine WO ?_|refine Ai λX=>?_|refine Ay λY=>?_);refine NL ?_;refine RT ?_;exact AQ [.ptr X 0 0] (mkO X K 0 []) ⟨(X,K),rfl,rfl⟩
set_option maxRecDepth 8000 in
theorem HW(X K:Nat)(last t:Int)(l:List Mark)(a b:Wd)(ha:WdOK a)(hb:WdOK b)(hk:a.kinds=b.kinds)(hs:CQ l)(hl:l.length<=65536)(h0:0<=t)(hlast:last<=t)(ht:I64 t):
  Spec Tryz.prog 30 [.ptr X 0 0,iA t,wdA false a,wdA false b] (mkO X K last l) λr S'=>r= .tup [iA (Ct a b).length,iA 0]/\S'=mkO X K t (BQ t l (Ct a b)):=by
 have hch:=Ev a b ha hb hk;have hcl:(Ct a b).length<=4352:=Nat.le_trans (Ej a.items b.items (CE a b)) (by have:=ha.gl;have:=hb.gl;unfold CE;omega);obtain⟨hsr,hrg⟩:=Gk a.items b.items (CE a b);have hN:CE a b<=256:=by have:=ha.gl;have:=hb.gl;unfold CE;omega
 change ∀m∈Ct a b,_ at hrg;obtain⟨ms,hms⟩:∃ms,Ct a b=ms:=⟨_,rfl⟩;rw[hms]at hch hcl hrg⊢;have hmm:(ms.map AC).length=ms.length:=List.length_map _;refine Spec.of (nt:=54) (res:=[.tmp 8,.tmp 9]) Tryz.func30 rfl (by kernel_rfl) rfl rfl rfl λSf=>?_
 refine RG ?_;(repeat first|(refine AOps.gN ?_;first|(refine AOps.g_box ?_;refine BT ?_))|refine WO ?_|refine Ai λX=>?_|refine Ay λY=>?_);refine NL ?_;refine FL ?_;refine RG ?_;(repeat first|refine WO ?_|refine Ai λX=>?_|refine Ay λY=>?_);refine NL ?_;refine AE rfl (decide_eq_false (by omega)) ?_;refine FL ?_;refine RG ?_;(repeat first|refine WO ?_|refine Ai λX=>?_|refine Ay λY=>?_);refine NL ?_;refine AE rfl (decide_eq_false (by omega)) ?_;refine FL ?_;refine RG ?_;(repeat first|(refine AOps.gN ?_;first|(refine AOps.g_callf ?_;first|refine AOps.c2 (h:=(hch ..)) (k:=?_)))|refine WO ?_|refine Ai λX=>?_|refine Ay λY=>?_);refine NL ?_;refine FL ?_;refine RG ?_;(repeat first|refine WO ?_|refine Ai λX=>?_|refine Ay λY=>?_);refine NL ?_;refine AE rfl rfl ?_;refine FL ?_;refine RG ?_;(repeat first|refine WO ?_|refine Ai λX=>?_|refine Ay λY=>?_);refine NL ?_;refine FL ?_;refine RG ?_;(repeat first|refine WO ?_|refine Ai λX=>?_|refine Ay λY=>?_);refine NL ?_;refine FL ?_;refine BN (λ(i:Nat)=>⟨[(0,.ptr X 0 0),(1,iA t),(10,DS false ms),(35,DS false ms),(36,iA (ms.map AC).length),(37,iA i)],mkO X K t (BQ t l (ms.take i))++Sf⟩) (λi=>i<=ms.length) (λi=>ms.length-i) 0 (Nat.zero_le _) ?_;rintro i hi;refine RG ?_;(repeat first|refine WO ?_|refine Ai λX=>?_|refine Ay λY=>?_);refine NL ?_;refine FL ?_;refine AWP.cond rfl (λhc=>?_) (λhc=>?_)
 ·have h:i<ms.length:=by rw[decide_eq_true_eq,hmm]at hc;omega
  obtain⟨m,hm⟩:∃m,ms[i]=m:=⟨_,rfl⟩;have hmem:m∈ms:=by rw[<-hm];exact List.getElem_mem h
  have hat:(ms.map AC)[i]?=some (AC m):=by rw[List.getElem?_map,List.getElem?_eq_getElem h,hm];rfl
  have hr:=hrg m hmem;have hok:keyP.ok (m.n,m.kind):=⟨⟨by dsimp only;omega,by dsimp only;omega⟩,⟨by dsimp only;omega,by dsimp only;omega⟩⟩;obtain⟨n1,n2,_⟩:=D4 t (ms.take i) l hs
  have hnx:BQ t l (ms.take (i+1))=F8 (BQ t l (ms.take i)) ⟨m.n,m.kind,t⟩:=by
   rw[List.take_succ_eq_append_getElem h,Oc,hm]
  have hln:=Ip (m:=⟨m.n,m.kind,t⟩) n1;have hgg:=SR n1 ⟨m.n,m.kind,t⟩;rw[<-hnx]at hln hgg;have htk:(ms.take i).length<=ms.length:=by rw[List.length_take];omega
  obtain⟨L,hL⟩:∃L,BQ t l (ms.take i)=L:=⟨_,rfl⟩;rw[hL]at n2 hln hgg⊢;have hsz:L.length<maxLen:=by unfold maxLen;omega
  refine FL ?_;refine RG ?_;(repeat first|refine WO ?_|refine Ai λE=>?_|refine Ay λY=>?_);refine NL ?_;refine FL ?_;refine RU ?_;(repeat first|(refine RGo.gN ?_;first|refine RGo.p (W.buildV (LT m.n m.kind) rfl rfl) rfl ?_|refine RGo.s (W.mapUpdK (C:=keyP) (m.n,m.kind) (Pa ht) hok hsz rfl rfl rfl (by exact At.f)) rfl ?_)|(refine RGo.gQ ?_;first|refine RGo.p (W.buildV (LT m.n m.kind) rfl rfl) rfl ?_|refine RGo.s (W.mapUpdK (C:=keyP) (m.n,m.kind) (Pa ht) hok hsz rfl rfl rfl (by exact At.f)) rfl ?_)|refine RK ?_|refine RGo.nil (by kernel_rfl) ?_);(repeat refine WF ?_);have hgg':JT (gM L) (m.n,m.kind) (.int .i64 t)=gM (BQ t l (ms.take (i+1))):=hgg.symm;have hln':(if(gM L (m.n,m.kind)).isSome then L.length else L.length+1)=(BQ t l (ms.take (i+1))).length:=hln.symm;rw[hgg',hln'];refine RG ?_;(repeat first|refine WO ?_|refine Ai λX=>?_|refine Ay λY=>?_);refine NL ?_;exact A4 (i+1) h (by omega)
 ·have h:i=ms.length:=by rw[decide_eq_false_iff_not,hmm]at hc;omega
  subst h;rw[List.take_length];refine FL ?_;refine RG ?_;(repeat first|refine WO ?_|refine Ai λX=>?_|refine Ay λY=>?_);refine NL ?_;refine RT ?_;rw[hmm];exact AQ [iA ms.length,iA 0] (mkO X K t (BQ t l ms)) ⟨rfl,rfl⟩
def Pj(x y:Mark):Int:=orI [B6 x.n y.n,B6 x.kind y.kind]
theorem H1{x y:Mark}:Pj x y<0↔ltM x y:=by
 unfold Pj ltM orI orI orI B6;by_cases h1:x.n<y.n
 ·simp[h1]
 ·by_cases h2:y.n<x.n
  ·have h3:¬x.n=y.n:=by omega
   simp[h1,h2,h3]
  ·have h3:x.n=y.n:=by omega
   by_cases h4:x.kind<y.kind
   ·simp[h3,h4]
   ·by_cases h5:y.kind<x.kind
    ·simp[h3,h4,h5]
    ·simp[h3,h4,h5]
theorem PT:SWO (AB Pj)where
 irrefl x:=by simp only[AB,decide_eq_false_iff_not,H1];exact Kk x
 trans x y z h1 h2:=by simp only[AB,decide_eq_true_eq,H1]at*;exact Ie h1 h2
 ntrans x y z h1 h2:=by simp only[AB,decide_eq_false_iff_not,H1]at*;unfold ltM at*;omega
theorem OW(x y:Mark):PS Tryz.prog 89 [AC x,AC y] (iA (Pj x y)):=by
 have h1:=C1 x.n y.n;have h2:=C1 x.kind y.kind;have h3:=Sg [B6 x.n y.n,B6 x.kind y.kind] (by show 2<=1099511627776;decide);refine Spec.of (nt:=17) (res:=[.tmp 4]) Tryz.func89 rfl (by kernel_rfl) rfl rfl rfl λSf=>?_
 refine RG ?_;(repeat first|(refine AOps.gN ?_;first|(refine AOps.g_box ?_;refine BT ?_))|refine WO ?_|refine Ai λX=>?_|refine Ay λY=>?_);refine NL ?_;refine FL ?_;refine RU ?_;(repeat first|(refine RGo.gN ?_;first|(refine RGo.g_callf ?_;first|refine RGo.c1 (h:=(h3 ..)) (k:=?_)|refine RGo.c2 (h:=(h1 ..)) (k:=?_)|refine RGo.c2 (h:=(h2 ..)) (k:=?_)))|(refine RGo.gQ ?_;first|(refine RGo.g_callf ?_;first|refine RGo.c1 (h:=(h3 ..)) (k:=?_)|refine RGo.c2 (h:=(h1 ..)) (k:=?_)|refine RGo.c2 (h:=(h2 ..)) (k:=?_)))|refine RK ?_|refine RGo.nil (by kernel_rfl) ?_);refine RT ?_;refine AX ?_;rfl
theorem QH{l:List Mark}(x:Int×Int)(v:Value)(h:gM l x=some v):v.oneCell'=true:=by
 unfold gM at h;obtain⟨m,_,rfl⟩:=Option.map_eq_some_iff.1 h;rfl
set_option maxRecDepth 8000 in
theorem Ep(X K:Nat)(last t:Int)(l:List Mark)(hs:CQ l)(hl:l.length<65536)(hok:∀m∈l,I64 m.n/\I64 m.kind):
  Spec Tryz.prog 31 [.ptr X 0 0,iA t] (mkO X K last l) λr S'=>r=DS true (l.filter λm=>decide (t<=m.tick))/\S'=mkO X K last l:=by
 refine Spec.of (nt:=33) (res:=[.tmp 4]) Tryz.func31 rfl (by kernel_rfl) rfl rfl rfl λSf=>?_
 refine RG ?_;(repeat first|refine WO ?_|refine Ai λX=>?_|refine Ay λY=>?_);refine NL ?_;refine FL ?_;refine RG ?_;(repeat first|refine WO ?_|refine Ai λX=>?_|refine Ay λY=>?_);refine NL ?_;refine FL ?_;refine RG ?_;(repeat first|refine WO ?_|refine Ai λX=>?_|refine Ay λY=>?_);refine AOps.range keyP rfl (by exact At.f) rfl λb r M I Y Z cnt hR=>?_
 refine AOps.nil ?_;refine FL ?_;refine AWP.adopt (d:=5) 58 3 rfl λO=>?_
 refine CB (λ(O cnt:Nat) (z:Obj×(Int×Int->Bool)×List Mark)=>⟨[(0,.ptr X 0 0),(1,iA t),(5,.sl O 0 z.2.2.length),(12,.prim (.pointer (some ⟨r,0,none⟩)))],(O,.row 58 3 (z.2.2.map AC))::(Y,lkA K b)::(Z,.raw r z.1)::(X,.row 171 2 [.agg [.mp K,iA last]])::(K,exA M)::Sf⟩) (λO cnt z=>Rng keyP 3 (gM l) l.length b z.2.1 cnt M z.1/\z.2.2.Nodup/\∀m,m∈z.2.2↔m∈l/\t<=m.tick/\z.2.1 (Bk m)=false) (λO cnt z=>cnt) O cnt (I,λx=>(gM l x).isSome,[]) ⟨hR,.nil,λm=>⟨λh=>by(cases h),λ⟨h1,_,h3⟩=>by(have:=gM_some.2 ⟨m,h1,rfl⟩;dsimp only at h3;rw[this]at h3;cases h3)⟩⟩ ?_;rintro O cnt ⟨I,left,out⟩ ⟨hR,hnd,hmem⟩;dsimp only at hR hnd hmem⊢
 have hperm:out.Perm (l.filter λm=>decide (t<=m.tick)&& !left (Bk m)):=(List.perm_ext_iff_of_nodup hnd ((EF hs).filter _)).2 λm=>by
  rw[hmem,List.mem_filter];simp
 have hol:out.length<=l.length:=by rw[hperm.length_eq];exact List.length_filter_le _ _
 have hom:(out.map AC).length=out.length:=List.length_map _;refine RG ?_;refine AOps.next hR rfl (by exact At.f) (by exact At.f) (by exact At.f) rfl QH (λhdone=>?_) (λx v I' cnt' c1 c2 c3 c4 c5 c6 c7=>?_)
 ·(repeat first|refine WO ?_|refine Ai λX=>?_|refine Ay λY=>?_)
  refine AOps.nil ?_;refine FL ?_;refine AE rfl rfl ?_;have hsf:=Kd 89 [] Pj rfl PT (λx y=>OW x y) O out.length out rfl (by omega);refine FL ?_;refine RG ?_;(repeat first|(refine AOps.gN ?_;first|refine Gv [] (h:=hsf) (k:=λu hu=>?_))|refine WO ?_|refine Ai λX=>?_|refine Ay λY=>?_);refine NL ?_;obtain⟨hu1,hu2⟩:=hu
  have hue:u=l.filter λm=>decide (t<=m.tick):=by
   have hf:(l.filter λm=>decide (t<=m.tick)&& !left (Bk m))=l.filter λm=>decide (t<=m.tick):=by
    refine List.filter_congr λm hm=>?_
    rw[hdone (Bk m) (Ns (hok m hm))];simp
   rw[hf]at hperm;have hup:=hu1.trans hperm;refine Gz ?_ (hs.filter _) λm=>hup.mem_iff
   have hun:u.Nodup:=hu1.nodup_iff.2 hnd;have h3:=List.pairwise_and_iff.2 ⟨hu2,hun⟩;refine(List.pairwise_iff_forall_sublist.2 λ{a b} hab=>?_);have h4:=List.pairwise_iff_forall_sublist.1 h3 hab;have ha:a∈l:=(List.mem_filter.1 (hup.mem_iff.1 (hab.subset (by simp)))).1;have hb:b∈l:=(List.mem_filter.1 (hup.mem_iff.1 (hab.subset (by simp)))).1;obtain⟨h5,h6⟩:=h4;unfold AB at h5;simp only[decide_eq_false_iff_not,H1]at h5;rcases H2 a b with h|h|h
   ·exact h
   ·exact absurd (El hs ha hb h) h6
   ·exact absurd h h5
  subst hue;have hul:=hu1.length_eq;refine FL ?_;refine N8 (K:=λo=>o=M) (K':=MapKF keyP 3 (gM l) l.length) K (λo ho=>ho▸hR.map) (by exact At.f) ?_;refine RG ?_;(repeat first|refine WO ?_|refine Ai λX=>?_|refine Ay λY=>?_);refine NL ?_;refine RT ?_;exact⟨[.sl O 0 out.length],[DS true (l.filter λm=>decide (t<=m.tick))],_,mkO X K last l,.cons (.tmp rfl) rfl .nil,.cons (.cell (.sl (p:=0) .here (by rw[List.length_map,hul]))) .nil,by exact Sub.f,rfl,rfl⟩
 ·obtain⟨m,hm,rfl,rfl⟩:=(GD hs).1 c3
  have hav:keyP.av (Bk m)= .agg [iA m.n,iA m.kind]:=rfl;rw[hav];have hmk:∀y,Bk y=Bk m->y∈l->y=m:=λy hy hyl=>El hs hyl hm hy
  (repeat first|refine WO ?_|refine Ai λX=>?_|refine Ay λY=>?_);refine AOps.nil ?_;refine FL ?_;refine AU rfl rfl ?_;refine FL ?_;refine RG ?_;(repeat first|(refine AOps.gN ?_;first|refine AOps.go (h:=W.entry (.agg [iA m.n,iA m.kind]) c7 rfl rfl (by exact At.f) (by exact At.f) (by exact At.f)) (k:=?_))|refine WO ?_|refine Ai λE=>?_|refine Ay λY=>?_);refine NL ?_;refine FL ?_;refine RG ?_;(repeat first|refine WO ?_|refine Ai λX=>?_|refine Ay λY=>?_);refine NL ?_;refine AWP.cond rfl (λhc=>?_) (λhc=>?_)
  ·have hc:t<=m.tick:=by rw[decide_eq_true_eq]at hc;omega
   have hb1:(out.map AC).length+1<=1099511627776:=by omega
   refine FL ?_;refine RG ?_;(repeat first|(refine AOps.gN ?_;first|refine AOps.go (h:=W.indexArr 0 (n:=2) (te:=3) (sz1:=1) (by kernel_rfl) (by kernel_rfl) (by decide) rfl rfl (by exact At.f) (by exact Nat.succ_pos _) rfl) (k:=?_)|refine AOps.go (h:=W.indexArr 1 (n:=2) (te:=3) (sz1:=1) (by kernel_rfl) (by kernel_rfl) (by decide) rfl rfl (by exact At.f) (by exact Nat.succ_pos _) rfl) (k:=?_)|(refine AOps.g_lit ?_;refine AOps.goL (AC m) ?_))|refine WO ?_|refine Ai λX=>?_|refine Ay λY=>?_);refine NL ?_;dsimp only[AR,List.set_cons_zero,List.set_cons_succ,List.cons_append,List.nil_append];have hm1:out.map AC++[AC m]=(out++[m]).map AC:=by rw[List.map_append];rfl
   have hm2:out.length+[AC m].length=(out++[m]).length:=by rw[List.length_append];rfl
   rw[hm1,hm2];refine FL ?_;refine BR ?_ cnt' (I',λy=>left y&& !decide (y=Bk m),out++[m]) ⟨c6,List.nodup_append.2 ⟨hnd,List.pairwise_singleton ..,λa ha b hb e=>?_⟩,λy=>?_⟩ c5
   ·rw[List.mem_singleton]at hb
    subst e hb;have:=((hmem a).1 ha).2.2;rw[c2]at this;cases this
   ·rw[List.mem_append,List.mem_singleton,hmem]
    constructor
    ·rintro(⟨a1,a2,a3⟩|rfl)
     ·exact⟨a1,a2,by dsimp only;rw[a3];rfl⟩
     ·exact⟨hm,hc,by dsimp only;rw[decide_eq_true rfl];simp⟩
    ·rintro⟨a1,a2,a3⟩
     dsimp only at a3;cases hly:left (Bk y)with
     |false=>exact .inl ⟨a1,a2,rfl⟩
     |true=>
      rw[hly]at a3;simp only[Bool.true_and,Bool.not_eq_false',decide_eq_true_eq]at a3;exact .inr (hmk y a3 a1)
  ·have hc:¬t<=m.tick:=by rw[decide_eq_false_iff_not]at hc;omega
   refine FL ?_;refine BR O cnt' (I',λy=>left y&& !decide (y=Bk m),out) ⟨c6,hnd,λy=>?_⟩ c5;rw[hmem];constructor
   ·rintro⟨a1,a2,a3⟩
    exact⟨a1,a2,by dsimp only;rw[a3];rfl⟩
   ·rintro⟨a1,a2,a3⟩
    refine⟨a1,a2,?_⟩;dsimp only at a3;cases hly:left (Bk y)with
    |false=>rfl
    |true=>
     rw[hly]at a3;simp only[Bool.true_and,Bool.not_eq_false',decide_eq_true_eq]at a3;have:=hmk y a3 a1;subst this;exact absurd a2 hc
theorem GI{α:Type}(p:α->Bool):∀l:List α,(l.filter p).length+(l.filter λx=>!p x).length=l.length
 |[]=>rfl
 |x::l=>by
  have ih:=GI p l;rw[List.filter_cons,List.filter_cons,List.length_cons];cases p x
  ·simp;omega
  ·simp;omega
theorem Oa(left:Int×Int->Bool)(x:Int×Int):(λy=>(left y&& !decide (y=x))&& !decide (y=x))=λy=>left y&& !decide (y=x):=by
 funext y
 cases left y<;>cases decide (y=x)<;>rfl
set_option maxRecDepth 8000 in
theorem JX(X K:Nat)(last t:Int)(l:List Mark)(hs:CQ l)(hl:l.length<65536)(hok:∀m∈l,I64 m.n/\I64 m.kind):
  Spec Tryz.prog 32 [.ptr X 0 0,iA t] (mkO X K last l) λr S'=>r=iA ((l.filter λm=>decide (m.tick<t)).length:Nat)/\S'=mkO X K last (l.filter λm=>decide (t<=m.tick)):=by
 refine Spec.of (nt:=29) (res:=[.tmp 4]) Tryz.func32 rfl (by kernel_rfl) rfl rfl rfl λSf=>?_
 refine RG ?_;(repeat first|refine WO ?_|refine Ai λX=>?_|refine Ay λY=>?_);refine NL ?_;refine FL ?_;refine RG ?_;(repeat first|refine WO ?_|refine Ai λX=>?_|refine Ay λY=>?_);refine NL ?_;refine FL ?_;refine RG ?_;(repeat first|refine WO ?_|refine Ai λX=>?_|refine Ay λY=>?_);refine AOps.range keyP rfl (by exact At.f) rfl λb r M I Y Z cnt hR=>?_
 refine AOps.nil ?_;refine FL ?_;refine BH (λ(cnt:Nat) (z:Obj×Obj×(Int×Int->Bool)×List Mark)=>⟨[(0,.ptr X 0 0),(1,iA t),(5,iA (l.length-z.2.2.2.length:Nat)),(12,.prim (.pointer (some ⟨r,0,none⟩)))],(Y,lkA K b)::(Z,.raw r z.2.1)::(X,.row 171 2 [.agg [.mp K,iA last]])::(K,exA z.1)::Sf⟩) (λcnt z=>Rng keyP 3 (gM z.2.2.2) z.2.2.2.length b z.2.2.1 cnt z.1 z.2.1/\CQ z.2.2.2/\z.2.2.2.length<=l.length/\∀m,m∈z.2.2.2↔m∈l/\(m.tick<t->z.2.2.1 (Bk m)=true)) (λcnt z=>cnt) cnt (M,I,λx=>(gM l x).isSome,l) ⟨hR,hs,Nat.le_refl _,λm=>⟨λh=>⟨h,λ_=>gM_some.2 ⟨m,h,rfl⟩⟩,λh=>h.1⟩⟩ ?_ (h0:=by rw[Nat.sub_self];exact⟨by exact Lk.f,by exact Sub.f⟩);rintro cnt ⟨M,I,left,Lc⟩ ⟨hR,hsc,hlc,hmem⟩;dsimp only at hR hsc hlc hmem⊢;refine RG ?_;refine AOps.next hR rfl (by exact At.f) (by exact At.f) (by exact At.f) rfl QH (λhdone=>?_) (λx v I' cnt' c1 c2 c3 c4 c5 c6 c7=>?_)
 ·(repeat first|refine WO ?_|refine Ai λX=>?_|refine Ay λY=>?_)
  refine AOps.nil ?_;refine FL ?_;refine AE rfl rfl ?_
  have hLe:Lc=l.filter λm=>decide (t<=m.tick):=Gz hsc (hs.filter _) λm=>by
   rw[hmem,List.mem_filter,decide_eq_true_eq];constructor
   ·rintro⟨a1,a2⟩
    refine⟨a1,?_⟩;by_cases h:m.tick<t
    ·have:=a2 h
     rw[hdone (Bk m) (Ns (hok m a1))]at this;cases this
    ·omega
   ·rintro⟨a1,a2⟩
    exact⟨a1,λh=>by omega⟩
  have hcn:l.length-Lc.length=(l.filter λm=>decide (m.tick<t)).length:=by
   have:=GI (λm:Mark=>decide (m.tick<t)) l
   have e:(l.filter λm=>!decide (m.tick<t))=Lc:=by
    rw[hLe];refine List.filter_congr λm _=>?_
    rw[<-decide_not];exact decide_eq_decide.2 (by omega)
   rw[e]at this;omega
  refine FL ?_;refine N8 (K:=λo=>o=M) (K':=MapKF keyP 3 (gM Lc) Lc.length) K (λo ho=>ho▸hR.map) (by exact At.f) ?_;refine RG ?_;(repeat first|refine WO ?_|refine Ai λX=>?_|refine Ay λY=>?_);refine NL ?_;refine RT ?_;rw[hcn,hLe];exact AQ [iA ((l.filter λm=>decide (m.tick<t)).length:Nat)] (mkO X K last (l.filter λm=>decide (t<=m.tick))) ⟨rfl,rfl⟩
 ·obtain⟨m,hm,rfl,rfl⟩:=(GD hsc).1 c3
  have hav:keyP.av (Bk m)= .agg [iA m.n,iA m.kind]:=rfl;rw[hav];have hml:=((hmem m).1 hm).1;have hmk:∀y,Bk y=Bk m->y∈l->y=m:=λy hy hyl=>El hs hyl hml hy
  (repeat first|refine WO ?_|refine Ai λX=>?_|refine Ay λY=>?_);refine AOps.nil ?_;refine FL ?_;refine AU rfl rfl ?_;refine FL ?_;refine RG ?_;(repeat first|(refine AOps.gN ?_;first|refine AOps.go (h:=W.entry (.agg [iA m.n,iA m.kind]) c7 rfl rfl (by exact At.f) (by exact At.f) (by exact At.f)) (k:=?_))|refine WO ?_|refine Ai λE=>?_|refine Ay λY=>?_);refine NL ?_;refine FL ?_;refine RG ?_;(repeat first|refine WO ?_|refine Ai λX=>?_|refine Ay λY=>?_);refine NL ?_;refine AWP.cond rfl (λhc=>?_) (λhc=>?_)
  ·have hc:m.tick<t:=by rw[decide_eq_true_eq]at hc;omega
   refine FL ?_;(repeat refine WF ?_);refine Cz 5 (by kernel_rfl) (by kernel_rfl) (by kernel_rfl) ?_;dsimp only[List.take,List.drop];(repeat first|refine RK ?_|refine RGo.nil (by kernel_rfl) ?_);refine PJ (Bk m) c6 c1 rfl rfl (by exact At.f) (by exact At.f) (by exact At.f) rfl λM' cnt2 hle hR2=>?_
   refine AOps.nil ?_;have hLn:CQ (Lc.filter (· !=m)):=hsc.filter _
   have hgn:Jk (gM Lc) (Bk m)=gM (Lc.filter (· !=m)):=QI hLn λx v=>by
    unfold Jk;constructor
    ·intro h
     split at h
     ·cases h
     ·rename_i hx
      obtain⟨y,hy,rfl,rfl⟩:=(GD hsc).1 h;exact⟨y,List.mem_filter.2 ⟨hy,by simp only[bne_iff_ne,ne_eq];exact λe=>hx (by rw[e])⟩,rfl,rfl⟩
    ·rintro⟨y,hy,rfl,rfl⟩
     obtain⟨hy1,hy2⟩:=List.mem_filter.1 hy
     rw[if_neg λe=>by
      have:=hmk y e ((hmem y).1 hy1).1;subst this;simp at hy2]
     exact(GD hsc).2 ⟨y,hy1,rfl,rfl⟩
   have hll:(if(gM Lc (Bk m)).isSome then Lc.length-1 else Lc.length)=(Lc.filter (· !=m)).length:=by
    rw[if_pos (gM_some.2 ⟨m,hm,rfl⟩),<-List.Nodup.erase_eq_filter (EF hsc),List.length_erase_of_mem hm]
   have hpos:0<Lc.length:=List.length_pos_of_mem hm;have hlf:(Lc.filter (· !=m)).length=Lc.length-1:=by rw[<-hll,if_pos (gM_some.2 ⟨m,hm,rfl⟩)]
   rw[hgn,hll,Oa]at hR2;refine FL ?_;refine RG ?_;(repeat first|(refine AOps.gN ?_;first|refine AOps.go (h:=AT ((l.length-(Lc.filter (· !=m)).length:Nat):Int) (by omega) (by omega) rfl rfl) (k:=?_))|refine WO ?_|refine Ai λX=>?_|refine Ay λY=>?_);refine NL ?_;refine Ae cnt2 (M',I',λy=>left y&& !decide (y=Bk m),Lc.filter (· !=m)) ⟨hR2,hLn,by dsimp only;omega,λy=>?_⟩ (by omega);rw[List.mem_filter,hmem];dsimp only;constructor
   ·rintro⟨⟨a1,a2⟩,a3⟩
    refine⟨a1,λh=>?_⟩
    rw[a2 h,decide_eq_false λe=>by
     have:=hmk y e a1;subst this;simp at a3]
    rfl
   ·rintro⟨a1,a2⟩
    refine⟨⟨a1,λh=>?_⟩,?_⟩
    ·have:=a2 h
     simp only[Bool.and_eq_true]at this;exact this.1
    ·simp only[bne_iff_ne,ne_eq]
     intro e;subst e;have:=a2 hc;rw[decide_eq_true rfl]at this;simp at this
  ·have hc:¬m.tick<t:=by rw[decide_eq_false_iff_not]at hc;omega
   refine FL ?_;refine Ae cnt' (M,I',λy=>left y&& !decide (y=Bk m),Lc) ⟨c6,hsc,hlc,λy=>?_⟩ c5;rw[hmem];dsimp only;constructor
   ·rintro⟨a1,a2⟩
    refine⟨a1,λh=>?_⟩
    rw[a2 h,decide_eq_false λe=>by
     have:=hmk y e a1;subst this;exact hc h]
    rfl
   ·rintro⟨a1,a2⟩
    refine⟨a1,λh=>?_⟩;have:=a2 h;simp only[Bool.and_eq_true]at this;exact this.1
end
section
open Go.RowKit
def Fp(w:World):Mem:=⟨λ_=>none,λ_=>False,w,λb=>b<w.heap.size⟩
theorem NN(w:World):Good (Fp w) (Fp w) 0 [] []:=
 ⟨λz hz=>(by cases hz),.nil,λb hb=>(by cases hb),λb h=>h,.nil,λx hx=>(by cases hx),λx h=>h.elim,.refl _,rfl,rfl,rfl,Nat.le_refl _⟩
theorem Good.bel{w:World}{m':Mem}{N:Nat}{Z:Zs}{br:List Nat}(G:Good (Fp w) m' N Z br):Below w.heap.size w m'.w:=
 ⟨G.os,G.tape,G.output,G.size,λk hk=>(G.le.F k hk).2⟩
theorem PS.calls_bool{P:Program}{f:FuncId}{args:List AV}{b:Bool}(h:PS P f args (bA b)){w:World}{vals:Array Value}(hv:VTs (Fp w) args vals.toList []):
  Calls P f vals w λe w'=>e= .returned (.bool b)/\Below w.heap.size w w':=
 (h.run [] (Fp w) 0 [] vals rfl (NN w) hv).mono λe w' ⟨v,r,S',m',N',Z',br,h1,h2,h3,G,h4,h5,h6⟩=>by
  subst h1 h2 h5;refine⟨?_,G.bel⟩;obtain⟨⟨h7,_⟩,_⟩:=h4;injection h7 with h7
  rw[h7]
theorem KL{α:Type}{m:Mem}{C:List Value->α->Prop}{sz:Nat}{f:α->AV}(hC:∀c x,C c x->VC m (f x) c []):∀{l:List α} {xs:List Value},Cells C sz xs l->VCs m (l.map f) xs []
 |[],_,h=>⟨h,rfl⟩
 |x::l,_,⟨c,ys,h1,h2,h3,h4⟩=>⟨c,ys,[],[],h1,rfl,hC c x h3,KL hC h4⟩
theorem JH{w:World}{b o:Nat}{u:Value}(h:w.cell? ⟨b,o,none⟩=some u):∃arr t r,w.heap[b]?=some (.cells arr t r)/\arr[o]?=some u:=by
 unfold World.cell? at h;cases hb:w.heap[b]? with
 |none=>simp only[hb]at h;cases h
 |some blk=>
  cases blk with
  |cells c t r=>simp only[hb]at h;exact⟨c,t,r,rfl,by simpa using h⟩
  |_=>simp only[hb]at h;cases h
theorem Sd{α:Type}{w:World}{C:World->Reg->List Value->α->Prop}{sz:Nat}{f:α->AV}{t:TypeId}{v:Value}{l:List α}(hsz:0<sz)(hC:∀c x,C w (Lt w) c x->VC (Fp w) (f x) c [])(hw:∀x,(f x).width=sz)(h:Sl w (Lt w) sz C v l):VC (Fp w) (.lst false t sz (l.map f)) [v] []:=by
 obtain⟨xs,⟨h1,A,cap,rfl,hn,hr⟩,hc⟩:=h;refine⟨rfl,A,cap,by simp,by simpa using hn,λe he=>by obtain⟨x,_,rfl⟩:=List.mem_map.1 he;exact hw x,λh0=>?_⟩;have h0:0<l.length:=by simpa using h0
 obtain⟨b,off,rfl,hb,hcell⟩:=hr h0;have hx:0<xs.length:=by rw[h1];exact Nat.mul_pos h0 hsz
 obtain⟨arr,t',r,h2,h3⟩:=JH (hcell 0 xs[0] (by simp));refine⟨b,off,arr,t',r,rfl,hb,h2,?_⟩
 have e:(arr.toList.drop off).take ((l.map f).length*sz)=xs:=by
  apply List.ext_getElem?;intro j;rw[List.getElem?_take];split
  ·rename_i hj
   have hj:j<xs.length:=by rw[h1];simpa using hj
   obtain⟨arr2,t2,r2,h4,h5⟩:=JH (hcell j xs[j] (by simp));rw[h2]at h4;injection h4 with h4
   injection h4 with h4
   subst h4;rw[List.getElem?_drop,List.getElem?_eq_getElem hj];simpa using h5
  ·rename_i hj
   rw[List.getElem?_eq_none];rw[h1];simpa using hj
 rw[e];exact KL hC hc
theorem RY{w:World}{v:Value}{l:List Int}(h:NV w (Lt w) v l):VC (Fp w) (AW false l) [v] []:=
 Sd (f:=iA) (by decide) (λc x hc=>⟨⟨hc,rfl⟩,rfl⟩) (λ_=>rfl) h
theorem Qz{m:Mem}:VTs m [] [] []:=⟨rfl,rfl⟩
theorem IE{w:World}{v:Value}{z:List Int}{l:List AV}{us:List Value}(h:NV w (Lt w) v z)(k:VTs (Fp w) l us []):VTs (Fp w) (AW false z::l) (v::us) []:=(A7 rfl).2 ⟨_,_,[],[],rfl,rfl,RY h,k⟩
end
section
open Go.RowKit
instance tPtrM:TPtr Tryz.prog 60:=⟨171,by kernel_rfl,by kernel_rfl⟩
def DN(l:List Mark)(i:Nat):List Mark:=(l.take i).map (λm=>⟨m.n,m.kind,4⟩)++l.drop i
theorem Md(l:List Mark){i:Nat}(h:i<=l.length):(DN l i).length=l.length:=by
 unfold DN;rw[List.length_append,List.length_map,List.length_take,List.length_drop];omega
theorem OK{l:List Mark}{i:Nat}(h:i<l.length){m:Mark}(hm:l[i]=m):(DN l i)[i]?=some m:=by
 unfold DN;have e:((l.take i).map λm:Mark=>(⟨m.n,m.kind,4⟩:Mark)).length=i:=by rw[List.length_map,List.length_take];omega
 rw[List.getElem?_append_right (by omega),e,Nat.sub_self,List.getElem?_drop,Nat.add_zero,List.getElem?_eq_getElem h,hm]
theorem LE{l:List Mark}{i:Nat}(h:i<l.length){m:Mark}(hm:l[i]=m):(DN l i).set i ⟨m.n,m.kind,4⟩=DN l (i+1):=by
 unfold DN;have e:((l.take i).map λm:Mark=>(⟨m.n,m.kind,4⟩:Mark)).length=i:=by rw[List.length_map,List.length_take];omega
 rw[List.set_append_right _ _ (by omega),e,Nat.sub_self,List.drop_eq_getElem_cons h,List.set_cons_zero,List.take_succ_eq_append_getElem h,List.map_append,List.append_assoc,hm];rfl
theorem Ob(t:Int)(ms:List Mark)(y:Mark)(h:y∈BQ t [] ms):y.tick=t:=by
 rcases((D4 t ms [] .nil).2.2 y).1 h with⟨m,_,rfl⟩|⟨h,_⟩
 ·rfl
 ·cases h
theorem Pu(f s:List Mark)(hs:CQ s):
  ((BQ 4 (BQ 1 [] f) s).filter λm=>decide (4<=m.tick))=s.map (λm=>⟨m.n,m.kind,4⟩)/\((BQ 4 (BQ 1 [] f) s).filter λm=>decide (2<=m.tick))=s.map (λm=>⟨m.n,m.kind,4⟩)/\
  ((BQ 4 (BQ 1 [] f) s).filter λm=>decide (0<=m.tick))=BQ 4 (BQ 1 [] f) s/\((s.map (λm=>(⟨m.n,m.kind,4⟩:Mark))).filter λm=>decide (0<=m.tick))=s.map (λm=>⟨m.n,m.kind,4⟩)/\
  CQ (BQ 4 (BQ 1 [] f) s)/\s.length<=(BQ 4 (BQ 1 [] f) s).length/\(BQ 4 (BQ 1 [] f) s).length<=f.length+s.length/\
  ((BQ 4 (BQ 1 [] f) s).filter λm=>decide (m.tick<4)).length+s.length=(BQ 4 (BQ 1 [] f) s).length:=by
 obtain⟨h1,h2,_⟩:=D4 1 f [] .nil;have h3:=Ob 1 f;obtain⟨L,hL⟩:∃L,BQ 1 [] f=L:=⟨_,rfl⟩;rw[hL]at h1 h2 h3⊢;obtain⟨k1,k2,k3⟩:=D4 4 s L h1;obtain⟨A,hA⟩:∃A,BQ 4 L s=A:=⟨_,rfl⟩;rw[hA]at k1 k2 k3⊢;have hsm:CQ (s.map λm=>(⟨m.n,m.kind,4⟩:Mark)):=List.Pairwise.map _ (λa b h=>h) hs
 have hfil:∀t:Int,1<t->t<=4->(A.filter λm=>decide (t<=m.tick))=s.map (λm=>⟨m.n,m.kind,4⟩):=λt h4 h5=>Gz (k1.filter _) hsm λy=>by
  rw[List.mem_filter,k3,List.mem_map,decide_eq_true_eq];constructor
  ·rintro⟨⟨m,hm,rfl⟩|⟨a1,a2⟩,a3⟩
   ·exact⟨m,hm,rfl⟩
   ·have:=h3 y a1
    omega
  ·rintro⟨m,hm,rfl⟩
   exact⟨.inl ⟨m,hm,rfl⟩,h5⟩
 have h4:=hfil 4 (by omega) (by omega)
 have hA0:(A.filter λm=>decide (0<=m.tick))=A:=by
  rw[List.filter_eq_self];intro y hy;rcases(k3 y).1 hy with⟨m,_,rfl⟩|⟨a1,_⟩
  ·rfl
  ·rw[h3 y a1];rfl
 have hsl:(s.map λm=>(⟨m.n,m.kind,4⟩:Mark)).length=s.length:=List.length_map _;have h6:=GI (λm:Mark=>decide (m.tick<4)) A
 have e:(A.filter λm=>!decide (m.tick<4))=A.filter λm=>decide (4<=m.tick):=by
  refine List.filter_congr λm _=>?_
  rw[<-decide_not];exact decide_eq_decide.2 (by omega)
 rw[e,h4,hsl]at h6;rw[List.length_nil]at h2;refine⟨h4,hfil 2 (by omega) (by omega),hA0,?_,k1,by omega,by omega,h6⟩;rw[List.filter_eq_self];intro y hy;obtain⟨m,_,rfl⟩:=List.mem_map.1 hy;rfl
set_option maxRecDepth 8000 in
set_option maxHeartbeats 4000000 in
theorem Ln(l m o:List Int)(hl:l.length<=1048576)(hm:m.length<=1048576)(ho:o.length<=1048576):PS Tryz.prog 5 [AW false l,AW false m,AW false o] (bA true):=by
 have hwp:=PL l;have hok:=L6 l;obtain⟨hk0,hk4⟩:=L7 l;obtain⟨a,ha⟩:∃a,D8 l=a:=⟨_,rfl⟩;rw[ha]at hwp hok hk0 hk4;clear ha;have hot:=La a m hok hk0 (by omega) hm;obtain⟨hb,hbk⟩:=IV hok hk0 m;obtain⟨b,hbe⟩:∃b,Eo a m=b:=⟨_,rfl⟩;rw[hbe]at hot hb hbk;clear hbe;have hot2:=La b o hb (by rw[hbk];exact hk0) (by rw[hbk];omega) ho;obtain⟨hc,hck⟩:=IV hb (by rw[hbk];exact hk0) o;obtain⟨c,hce⟩:∃c,Eo b o=c:=⟨_,rfl⟩;rw[hce]at hot2 hc hck;clear hce;have hx:=Ev a b hok hb hbk.symm;have hy:=Ev b c hb hc hck.symm;have hfl:(Ct a b).length<=4352:=Nat.le_trans (Ej a.items b.items (CE a b)) (by have:=hok.gl;have:=hb.gl;unfold CE;omega);have hsl:(Ct b c).length<=4352:=Nat.le_trans (Ej b.items c.items (CE b c)) (by have:=hb.gl;have:=hc.gl;unfold CE;omega);obtain⟨_,hfr⟩:=Gk a.items b.items (CE a b);obtain⟨hss,hsr⟩:=Gk b.items c.items (CE b c);have hN1:CE a b<=256:=by have:=hok.gl;have:=hb.gl;unfold CE;omega
 have hN2:CE b c<=256:=by have:=hb.gl;have:=hc.gl;unfold CE;omega
 change ∀m∈Ct a b,_ at hfr;change CQ (Ct b c)at hss;change ∀m∈Ct b c,_ at hsr;have hnew:=markNew_sp.tt;have hn1:=λX K=>HW X K 0 1 [] a b hok hb hbk.symm .nil (by decide) (by decide) (by decide) ⟨by decide,by decide⟩
 obtain⟨g1,g2,g3⟩:=D4 1 (Ct a b) [] .nil;have hn2:=λX K=>HW X K 1 4 (BQ 1 [] (Ct a b)) b c hb hc hck.symm g1 (by rw[List.length_nil]at g2;omega) (by decide) (by decide) ⟨by decide,by decide⟩
 obtain⟨e1,e2,e3,e4,e5,e6,e7,e8⟩:=Pu (Ct a b) (Ct b c) hss
 have hall:∀y∈BQ 4 (BQ 1 [] (Ct a b)) (Ct b c),I64 y.n/\I64 y.kind:=λy hy=>by
  rcases((D4 4 (Ct b c) _ g1).2.2 y).1 hy with⟨q,hq,rfl⟩|⟨h,_⟩
  ·have:=hsr q hq
   exact⟨⟨by dsimp only;omega,by dsimp only;omega⟩,⟨by dsimp only;omega,by dsimp only;omega⟩⟩
  ·rcases(g3 y).1 h with⟨q,hq,rfl⟩|⟨h,_⟩
   ·have:=hfr q hq
    exact⟨⟨by dsimp only;omega,by dsimp only;omega⟩,⟨by dsimp only;omega,by dsimp only;omega⟩⟩
   ·cases h
 obtain⟨f,hf⟩:∃f,Ct a b=f:=⟨_,rfl⟩;obtain⟨s,hs⟩:∃s,Ct b c=s:=⟨_,rfl⟩;rw[hf]at hx hn1 hn2 hfl e1 e2 e3 e5 e6 e7 e8 hall;rw[hs]at hy hn2 hsl e1 e2 e3 e4 e5 e6 e7 e8 hall hss;obtain⟨A,hA⟩:∃A,BQ 4 (BQ 1 [] f) s=A:=⟨_,rfl⟩;rw[hA]at hn2 e1 e2 e3 e5 e6 e7 e8 hall;obtain⟨s4,hs4⟩:∃s4,(s.map λm=>(⟨m.n,m.kind,4⟩:Mark))=s4:=⟨_,rfl⟩;have hs4l:s4.length=s.length:=by rw[<-hs4,List.length_map]
 rw[hs4]at e1 e2 e4;have h0:=λX K=>Ep X K 4 0 A e5 (by omega) hall
 have h2:=λX K=>Ep X K 4 2 A e5 (by omega) hall
 have hfg:=λX K=>JX X K 4 4 A e5 (by omega) hall
 have h5:=λX K=>Ep X K 4 0 s4 (by rw[<-e1];exact e5.filter _) (by omega) (λy hy=>hall y (by rw[<-e1]at hy;exact(List.mem_filter.1 hy).1))
 rw[e3]at h0;rw[e2]at h2;rw[e1]at hfg;rw[e4]at h5;have heq:=KE s4 s4 (by omega);rw[decide_eq_true rfl]at heq;have hfm:(f.map AC).length=f.length:=List.length_map _;have hsm:(s.map AC).length=s.length:=List.length_map _;have hs4m:(s4.map AC).length=s4.length:=List.length_map _;have hAm:(A.map AC).length=A.length:=List.length_map _;refine Spec.of (nt:=136) (res:=[.tmp 6]) Tryz.func5 rfl (by kernel_rfl) rfl rfl rfl λSf=>?_
 refine RG ?_;(repeat first|refine WO ?_|refine Ai λX=>?_|refine Ay λY=>?_);refine NL ?_;refine FL ?_;refine RG ?_;(repeat first|(refine AOps.gN ?_;first|refine OE [] (h:=hnew) (k:=λk _=>?_))|refine WO ?_|refine Ai λX=>?_|refine Ay λY=>?_);refine NL ?_;obtain⟨X,K⟩:=k;dsimp only;refine FL ?_;refine RG ?_;(repeat first|(refine AOps.gN ?_;first|(refine AOps.g_callf ?_;first|refine AOps.c0 (h:=(Oh ..)) (k:=?_))|refine AOps.go (h:=W.eqPtrN rfl rfl (by exact At.f) (by exact Nat.succ_pos _)) (k:=?_))|refine WO ?_|refine Ai λX=>?_|refine Ay λY=>?_);refine NL ?_;refine AE rfl rfl ?_;refine FL ?_;refine RG ?_;(repeat first|(refine AOps.gN ?_;first|(refine AOps.g_callf ?_;first|refine AOps.c1 (h:=(hwp ..)) (k:=?_)))|refine WO ?_|refine Ai λV1=>?_|refine Ay λY=>?_);refine NL ?_;refine FL ?_;refine RG ?_;(repeat first|(refine AOps.gN ?_;first|(refine AOps.g_callf ?_;first|refine AOps.c2 (h:=(hot ..)) (k:=?_)))|refine WO ?_|refine Ai λV2=>?_|refine Ay λY=>?_);refine NL ?_;refine FL ?_;refine RG ?_;(repeat first|(refine AOps.gN ?_;first|(refine AOps.g_callf ?_;first|refine AOps.c2 (h:=(hot2 ..)) (k:=?_)))|refine WO ?_|refine Ai λV3=>?_|refine Ay λY=>?_);refine NL ?_;refine FL ?_;refine RG ?_;(repeat first|(refine AOps.gN ?_;first|(refine AOps.g_callf ?_;first|refine EQ (h:=hn1 X K) (hT:=.fz) (k:=?_)))|refine WO ?_|refine Ai λX=>?_|refine Ay λY=>?_);refine NL ?_;refine FL ?_;refine RG ?_;(repeat first|(refine AOps.gN ?_;first|(refine AOps.g_callf ?_;first|refine EQ (h:=hn2 X K) (hT:=.fz) (k:=?_)))|refine WO ?_|refine Ai λX=>?_|refine Ay λY=>?_);refine NL ?_;refine FL ?_;refine RG ?_;(repeat first|(refine AOps.gN ?_;first|(refine AOps.g_callf ?_;first|refine AOps.c2 (h:=(hx ..)) (k:=?_)))|refine WO ?_|refine Ai λX=>?_|refine Ay λY=>?_);refine NL ?_;refine FL ?_;refine AWP.rs λS2=>?_
 refine RG ?_;(repeat first|(refine AOps.gN ?_;first|(refine AOps.g_callf ?_;first|refine Gu (h:=hy) (hT:=.tup (.cons (.cell (.lst (Y:=S2) rfl) rfl rfl) rfl rfl (.cons .pr rfl rfl .nil))) (k:=?_)))|refine WO ?_|refine Ai λX=>?_|refine Ay λY=>?_);refine NL ?_;have q1:decide (((f.length:Nat):Int)≠((f.map AC).length:Nat))=false:=decide_eq_false (by omega);have q2:decide (((s.length:Nat):Int)≠((s.map AC).length:Nat))=false:=decide_eq_false (by omega);refine FL ?_;refine RG ?_;(repeat first|refine WO ?_|refine Ai λX=>?_|refine Ay λY=>?_);refine NL ?_;refine AE rfl (by first|assumption|rfl|exact q2) ?_;refine FL ?_;refine RG ?_;(repeat first|refine WO ?_|refine Ai λX=>?_|refine Ay λY=>?_);refine NL ?_;refine FL ?_;refine BN (λ(i:Nat)=>⟨[(7,.ptr X 0 0),(15,DS false f),(17,.sl S2 0 (s.map AC).length),(89,iA (s.map AC).length),(90,iA i)],(S2,.row 58 3 ((DN s i).map AC))::(mkO X K 4 A++Sf)⟩) (λi=>i<=s.length) (λi=>s.length-i) 0 (Nat.zero_le _) ?_;rintro i hi;refine RG ?_;(repeat first|refine WO ?_|refine Ai λX=>?_|refine Ay λY=>?_);refine NL ?_;refine FL ?_;refine AWP.cond rfl (λhb=>?_) (λhb=>?_)
 ·have h:i<s.length:=by rw[decide_eq_true_eq,hsm]at hb;omega
  obtain⟨m,hm⟩:∃m,s[i]=m:=⟨_,rfl⟩;have htl:=Md s hi;have hat:((DN s i).map AC)[i]?=some (AC m):=by rw[List.getElem?_map,OK h hm];rfl
  have hnx:((DN s i).map AC).set i (AC ⟨m.n,m.kind,4⟩)=(DN s (i+1)).map AC:=by rw[<-LE h hm,List.map_set]
  refine FL ?_;refine RG ?_;(repeat first|refine WO ?_|refine Ai λX=>?_|refine Ay λY=>?_);refine NL ?_;refine FL ?_;refine RG ?_;(repeat first|(refine AOps.gN ?_;first|refine AOps.go (h:=W.idx rfl rfl (by exact At.f) rfl (by omega) (Nat.zero_add _)) (k:=?_))|refine WO ?_|refine Ai λX=>?_|refine Ay λY=>?_);refine NL ?_;refine FL ?_;refine RG ?_;(repeat first|refine WO ?_|refine Ai λX=>?_|refine Ay λY=>?_);refine NL ?_;exact A4 (i+1) h (by omega) (h0:=by rw[<-hnx];exact⟨by exact Lk.f,by exact Sub.f⟩)
 ·have h:i=s.length:=by rw[decide_eq_false_iff_not,hsm]at hb;omega
  subst h;have h4:DN s s.length=s4:=by unfold DN;rw[List.take_length,List.drop_length,List.append_nil,hs4]
  rw[h4];have hCf:An (s4.map AC)=s4.map AC:=Frzs.h;refine AWP.ice (d:=17) rfl (by exact At.f) (by omega) ?_;rw[hCf];have r1:decide (((A.map AC).length:Int)<((s4.map AC).length:Nat))=false:=decide_eq_false (by omega);have r2:decide (((A.map AC).length:Int)>((f.map AC).length:Nat)+((s4.map AC).length:Nat))=false:=decide_eq_false (by omega);have r3:decide ((((A.filter λm=>decide (m.tick<4)).length:Nat):Int)=((A.map AC).length:Nat)-((s4.map AC).length:Nat))=true:=decide_eq_true (by omega);refine FL ?_;refine RG ?_;(repeat first|(refine AOps.gN ?_;first|(refine AOps.g_callf ?_;first|refine Gu (h:=h0 X K) (hT:=.fz) (k:=?_)))|refine WO ?_|refine Ai λX=>?_|refine Ay λY=>?_);refine NL ?_;refine FL ?_;refine RG ?_;(repeat first|(refine AOps.gN ?_;first|(refine AOps.g_callf ?_;first|refine Gu (h:=h2 X K) (hT:=.fz) (k:=?_)|refine AOps.c2 (h:=(heq ..)) (k:=?_))|refine AOps.go (h:=AT (((f.map AC).length:Nat)+((s4.map AC).length:Nat):Int) (by omega) (by omega) rfl rfl) (k:=?_))|refine WO ?_|refine Ai λX=>?_|refine Ay λY=>?_);refine NL ?_;refine AE rfl (by first|assumption|rfl|exact r2) ?_;refine FL ?_;refine RG ?_;(repeat first|(refine AOps.gN ?_;first|(refine AOps.g_callf ?_;first|refine Gu (h:=hfg X K) (hT:=.fz) (k:=?_)|refine Gu (h:=h5 X K) (hT:=.fz) (k:=?_)|refine AOps.c2 (h:=(heq ..)) (k:=?_))|refine AOps.go (h:=AK (((A.map AC).length:Nat)-((s4.map AC).length:Nat):Int) (by omega) (by omega) rfl rfl) (k:=?_))|refine WO ?_|refine Ai λX=>?_|refine Ay λY=>?_);refine NL ?_;refine RT ?_;refine AX ?_;rfl
theorem Pp(z0:List Int)(A0:Option Addr)(n0 cap0:Nat)(z1:List Int)(A1:Option Addr)(n1 cap1:Nat)(z2:List Int)(A2:Option Addr)(n2 cap2:Nat)(w:World)(h0:NV w (Lt w) (.slice A0 n0 cap0) z0)(hlen0:z0.length<=1048576)(h1:NV w (Lt w) (.slice A1 n1 cap1) z1)(hlen1:z1.length<=1048576)(h2:NV w (Lt w) (.slice A2 n2 cap2) z2)(hlen2:z2.length<=1048576):
  Calls Tryz.prog 5 #[.slice A0 n0 cap0,.slice A1 n1 cap1,.slice A2 n2 cap2] w λe w'=>e= .returned (.bool true)/\Below w.heap.size w w':=
 (Ln z0 z1 z2 hlen0 hlen1 hlen2).calls_bool (IE h0 (IE h1 (IE h2 (Qz))))
end
end Go.Proofs.YtiidbamlcgbpnaaGreat
