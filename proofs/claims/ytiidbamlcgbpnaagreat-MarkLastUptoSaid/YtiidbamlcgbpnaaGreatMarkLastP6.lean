/-
  Part 6 of the texts under the law MarkLast: the layer of abstract values, walks and plain laws. Conditions: those that each theorem names.
-/
import Derived.Test.YtiidbamlcgbpnaaGreatMarkLastP5
namespace Go.Proofs.YtiidbamlcgbpnaaGreat
set_option linter.unusedVariables false
set_option linter.unusedSimpArgs false
set_option linter.defProp false
set_option maxRecDepth 10000
set_option maxHeartbeats 4000000
theorem Jt(a b:Item)(n:Int):(D1 a b n).length<=17:=IN a b n 16
theorem JE(a b:List Item)(i:Nat):C6 a b (i+1)=C6 a b i++D1 (CF a i) (CF b i) i:=by
 unfold C6;rw[List.range_succ,List.flatMap_append,List.flatMap_singleton]
theorem Ej(a b:List Item):∀i:Nat,(C6 a b i).length<=i*17
 |0=>Nat.le_refl _
 |i+1=>by
  have h1:=Ej a b i;have h2:=Jt (CF a i) (CF b i) i;rw[JE,List.length_append];omega
theorem Ju{l:List Item}(hs:Gm l)(h:ItL l)(n:Int):CsL (CF l n).comps:=by
 rcases FA hs n with⟨g1,_⟩|⟨g1,_⟩
 ·exact h.2 _ g1
 ·rw[g1];exact⟨Nat.zero_le _,λc hc=>by cases hc⟩
theorem RO(m n:Nat):(if(m:Int)<n then(n:Int)else m)=((max m n:Nat):Int):=by
 split<;>omega
set_option maxRecDepth 8000 in
theorem Ev(a b:Wd)(ha:WdOK a)(hb:WdOK b)(hk:a.kinds=b.kinds):PS Tryz.prog 26 [wdA false a,wdA false b] (.tup [DS true (Ct a b),iA 0]):=by
 have hLa:=ha.wl;have hLb:=hb.wl;have hca:=Fd a hLa.gens hLa.items.1 (λit hit=>(hLa.items.2 it hit).1);have hcb:=Fd b hLb.gens hLb.items.1 (λit hit=>(hLb.items.2 it hit).1);rw[(BI a).2 ha]at hca;rw[(BI b).2 hb]at hcb;have hks:=Lx a.kinds b.kinds hLa.ks;rw[decide_eq_true hk]at hks;have hma:(a.gens.map iA).length=a.gens.length:=List.length_map _;have hmb:(b.gens.map iA).length=b.gens.length:=List.length_map _;have hga:=ha.gl;have hgb:=hb.gl;have hmx:(if((a.gens.map iA).length:Int)<((b.gens.map iA).length:Nat)then(((b.gens.map iA).length:Nat):Int)else((a.gens.map iA).length:Nat))=(CE a b:Nat):=by rw[hma,hmb];exact RO _ _
 have hN:CE a b<=1048576:=by unfold CE;omega
 unfold Ct;obtain⟨N,hNe⟩:∃N,CE a b=N:=⟨_,rfl⟩;rw[hNe]at hmx hN⊢;refine Spec.of (nt:=53) (res:=[.tmp 4,.tmp 5]) Tryz.func26 rfl (by kernel_rfl) rfl rfl rfl λSf=>?_
 refine RG ?_;(repeat first|(refine AOps.gN ?_;first|(refine AOps.g_box ?_;refine BT ?_))|refine WO ?_|refine Ai λX=>?_|refine Ay λY=>?_);refine NL ?_;refine FL ?_;refine RG ?_;(repeat first|refine WO ?_|refine Ai λX=>?_|refine Ay λY=>?_);refine NL ?_;refine FL ?_;refine BN (λ(i:Nat)=>⟨[(2,.fp (wdA false a).cells),(3,.fp (wdA false b).cells),(13,.lst false 26 3 [wdA false a,wdA false b]),(14,iA 2),(15,iA i)],Sf⟩) (λi=>i<=2) (λi=>2-i) 0 (Nat.zero_le _) ?_;rintro i hi;refine RG ?_;(repeat first|refine WO ?_|refine Ai λX=>?_|refine Ay λY=>?_);refine NL ?_;refine FL ?_;refine AWP.cond rfl (λhc=>?_) (λhc=>?_)
 ·have h:i<2:=by rw[decide_eq_true_eq]at hc;omega
  have hat:∃v:Wd,[wdA false a,wdA false b][i]?=some (wdA false v)/\PS Tryz.prog 60 [wdA false v] (iA 0):=by
   match i,h with
   |0,_=>exact⟨a,rfl,hca⟩
   |1,_=>exact⟨b,rfl,hcb⟩
  obtain⟨v,hat,hcv⟩:=hat;refine FL ?_;refine RG ?_;(repeat first|(refine AOps.gN ?_;first|refine AOps.go (h:=W.idxL rfl rfl rfl hat) (k:=?_))|refine WO ?_|refine Ai λV=>?_|refine Ay λY=>?_);refine NL ?_;refine FL ?_;refine RG ?_;(repeat first|(refine AOps.gN ?_;first|(refine AOps.g_callf ?_;first|refine AOps.c1 (h:=(hcv ..)) (k:=?_)))|refine WO ?_|refine Ai λX=>?_|refine Ay λY=>?_);refine NL ?_;refine FL ?_;refine RG ?_;(repeat first|refine WO ?_|refine Ai λX=>?_|refine Ay λY=>?_);refine NL ?_;refine AE rfl rfl ?_;refine FL ?_;refine RG ?_;(repeat first|refine WO ?_|refine Ai λX=>?_|refine Ay λY=>?_);refine NL ?_;exact A4 (i+1) h (by omega)
 ·refine FL ?_
  refine RG ?_;(repeat first|(refine AOps.gN ?_;first|(refine AOps.g_callf ?_;first|refine AOps.c2 (h:=(hks ..)) (k:=?_)))|refine WO ?_|refine Ai λX=>?_|refine Ay λY=>?_);refine NL ?_;refine AE rfl rfl ?_;refine FL ?_;refine RG ?_;(repeat first|refine WO ?_|refine Ai λX=>?_|refine Ay λY=>?_);refine NL ?_;refine FL ?_;refine RG ?_;(repeat first|refine WO ?_|refine Ai λX=>?_|refine Ay λY=>?_);refine NL ?_;rw[hmx];refine FL ?_;refine AWP.adopt (d:=9) 58 3 rfl λO=>?_
  refine BH (λ(i O:Nat)=>⟨[(2,.fp (wdA false a).cells),(3,.fp (wdA false b).cells),(9,.sl O 0 (C6 a.items b.items i).length),(37,iA N),(38,iA i)],(O,.row 58 3 ((C6 a.items b.items i).map AC))::Sf⟩) (λi _=>i<=N) (λi _=>N-i) 0 O (Nat.zero_le _) ?_;rintro i O hi;refine RG ?_;(repeat first|refine WO ?_|refine Ai λX=>?_|refine Ay λY=>?_);refine NL ?_;refine FL ?_;refine AWP.cond rfl (λhc=>?_) (λhc=>?_)
  ·have h:i<N:=by rw[decide_eq_true_eq]at hc;omega
   have hia:=HX a i ha.so (by have:=hLa.items.1;omega);have hib:=HX b i hb.so (by have:=hLb.items.1;omega);have hsl:=Lm (CF a.items i) (CF b.items i) i (Ju ha.so hLa.items i) (Ju hb.so hLb.items i);have hnx:=JE a.items b.items i;have hl1:=Ej a.items b.items i;have hl2:=Jt (CF a.items i) (CF b.items i) i;obtain⟨x,hx⟩:∃x,CF a.items i=x:=⟨_,rfl⟩;obtain⟨y,hy⟩:∃y,CF b.items i=y:=⟨_,rfl⟩;rw[hx]at hia hsl hnx hl2;rw[hy]at hib hsl hnx hl2;have hcl:((C6 a.items b.items i).map AC).length=(C6 a.items b.items i).length:=List.length_map _;have hsml:((D1 x y i).map AC).length=(D1 x y i).length:=List.length_map _;refine FL ?_;refine RG ?_;(repeat first|refine WO ?_|refine Ai λX=>?_|refine Ay λY=>?_);refine NL ?_;refine FL ?_;refine AWP.rs λY=>?_
   refine RU ?_;(repeat first|(refine RGo.gN ?_;first|(refine RGo.g_callf ?_;first|refine RGo.c3 (h:=(hsl ..)) (k:=?_)|refine RGo.c2 (h:=(hia ..)) (k:=?_)|refine RGo.c2 (h:=(hib ..)) (k:=?_))|refine RGo.s (W.app rfl rfl (by exact At.f) (by exact At.f) (by omega) (by omega) (by unfold maxLen;omega)) rfl ?_)|(refine RGo.gQ ?_;first|(refine RGo.g_callf ?_;first|refine RGo.c3 (h:=(hsl ..)) (k:=?_)|refine RGo.c2 (h:=(hia ..)) (k:=?_)|refine RGo.c2 (h:=(hib ..)) (k:=?_))|refine RGo.s (W.app rfl rfl (by exact At.f) (by exact At.f) (by omega) (by omega) (by unfold maxLen;omega)) rfl ?_)|refine RK ?_|refine RGo.nil (by kernel_rfl) ?_);have hm1:(C6 a.items b.items i).map AC++(D1 x y i).map AC=(C6 a.items b.items (i+1)).map AC:=by rw[hnx,List.map_append]
   have hm2:(C6 a.items b.items i).length+((D1 x y i).map AC).length=(C6 a.items b.items (i+1)).length:=by rw[hnx,List.length_append,hsml]
   rw[hm1,hm2];(repeat refine WF ?_);refine RG ?_;(repeat first|refine WO ?_|refine Ai λX=>?_|refine Ay λY=>?_);refine NL ?_;exact Ae (i+1) Y h (by omega)
  ·have h:i=N:=by rw[decide_eq_false_iff_not]at hc;omega
   subst h;refine FL ?_;refine RG ?_;(repeat first|refine WO ?_|refine Ai λX=>?_|refine Ay λY=>?_);refine NL ?_;refine RT ?_;exact BZ [.sl O 0 (C6 a.items b.items i).length,iA 0] [DS true (C6 a.items b.items i),iA 0] (.cons (.cell (.sl (p:=0) .here (by rw[List.length_map]))) (.cons (.cell .same) .nil))
def Su(P:Program)(t:TypeId):Bool:=match(P.fieldsOf t).toList with
 |[f1,f2,f3]=>f1.name != "_" &&f2.name != "_" &&f3.name != "_" &&f1.offset==0&&f2.offset==1&&f3.offset==2&&(match P.underlying f1.type,P.underlying f2.type,P.underlying f3.type with|some (.int _),some (.int _),some (.int _)=>true|_,_,_=>false)
 |_=>false
theorem Rp{P:Program}{t:TypeId}(h1:P.underlying t=some (.struct (P.fieldsOf t)))(h2:P.stoodInHeld t=false)(h:Su P t=true)(s s' a b c d:Int)(w:World):
  (Op.equalIn 10000 t (.agg #[.int .i64 s,.int .i64 a,.int .i64 b]) (.agg #[.int .i64 s',.int .i64 c,.int .i64 d])).run P w= .ok (decide (s=s')&&decide (a=c)&&decide (b=d)) w:=by
 rw[show(10000:Nat)=9999+1 from rfl,run_equalIn_agg w 9999 t _ _ h1 h2];unfold Su at h;split at h
 ·rename_i f1 f2 f3 hf
  simp only[Bool.and_eq_true,bne_iff_ne,ne_eq,beq_iff_eq]at h;obtain⟨⟨⟨⟨⟨⟨n1,n2⟩,n3⟩,o1⟩,o2⟩,o3⟩,hu⟩:=h;split at hu
  ·rename_i k1 k2 k3 u1 u2 u3
   have p1:∀(x y z:Int),(part f1.type #[.int .i64 x,.int .i64 y,.int .i64 z] f1.offset).run P w= .ok (.int .i64 x) w:=λx y z=>D2 u1 (by rw[o1];rfl) w
   have p2:∀(x y z:Int),(part f2.type #[.int .i64 x,.int .i64 y,.int .i64 z] f2.offset).run P w= .ok (.int .i64 y) w:=λx y z=>D2 u2 (by rw[o2];rfl) w
   have p3:∀(x y z:Int),(part f3.type #[.int .i64 x,.int .i64 y,.int .i64 z] f3.offset).run P w= .ok (.int .i64 z) w:=λx y z=>D2 u3 (by rw[o3];rfl) w
   have q1:∀a c:Int,(Op.equalIn 9999 f1.type (.int .i64 a) (.int .i64 c)).run P w= .ok (a==c) w:=λa c=>run_equalIn_int (P:=P) w 9998 f1.type .i64 k1 a c u1
   have q2:∀a c:Int,(Op.equalIn 9999 f2.type (.int .i64 a) (.int .i64 c)).run P w= .ok (a==c) w:=λa c=>run_equalIn_int (P:=P) w 9998 f2.type .i64 k2 a c u2
   have q3:∀a c:Int,(Op.equalIn 9999 f3.type (.int .i64 a) (.int .i64 c)).run P w= .ok (a==c) w:=λa c=>run_equalIn_int (P:=P) w 9998 f3.type .i64 k3 a c u3
   rw[hf];by_cases e1:s=s'
   ·by_cases e2:a=c
    ·by_cases e3:b=d
     ·simp[Op.eqFields,n1,n2,n3,Sem.run_bind,p1,p2,p3,q1,q2,q3,e1,e2,e3,Sem.run_pure,Sem.run_ite,Result.andThen_ok]
     ·simp[Op.eqFields,n1,n2,n3,Sem.run_bind,p1,p2,p3,q1,q2,q3,e1,e2,e3,Sem.run_pure,Sem.run_ite,Result.andThen_ok]
    ·simp[Op.eqFields,n1,n2,Sem.run_bind,p1,p2,q1,q2,e1,e2,Sem.run_pure,Sem.run_ite,Result.andThen_ok]
   ·simp[Op.eqFields,n1,Sem.run_bind,p1,q1,e1,Sem.run_pure,Sem.run_ite,Result.andThen_ok]
  ·cases hu
 ·cases h
theorem Nn(a b c d e f:Int)(w:World):(binOp .neq 58 (.agg [Value.int .i64 a,Value.int .i64 b,Value.int .i64 c].toArray) (.agg [Value.int .i64 d,Value.int .i64 e,Value.int .i64 f].toArray)).run Tryz.prog w= .ok (.bool (!(decide (a=d)&&decide (b=e)&&decide (c=f)))) w:=by
 have h:=Rp (P:=Tryz.prog) (t:=58) (by kernel_rfl) (by kernel_rfl) (by kernel_rfl) a d b c e f w;rw[run_neq_struct];have e:(Op.equalIn 10000 58 (.agg [Value.int .i64 a,Value.int .i64 b,Value.int .i64 c].toArray) (.agg [Value.int .i64 d,Value.int .i64 e,Value.int .i64 f].toArray)).run Tryz.prog w=_:=h;rw[e,Result.andThen_ok]
theorem RP(a b:Mark):(!(decide (a.n=b.n)&&decide (a.kind=b.kind)&&decide (a.tick=b.tick)))=decide (a≠b):=by
 cases a;cases b;simp only[ne_eq,Mark.mk.injEq];rw[decide_not,Bool.decide_and,Bool.decide_and,Bool.and_assoc]
theorem KE(a b:List Mark)(hl:a.length<=1099511627776):PS Tryz.prog 28 [(DS false) a,(DS false) b] (bA (decide (a=b))):=by
 refine Spec.of (nt:=26) (res:=[.tmp 4]) Tryz.func28 rfl (by kernel_rfl) rfl rfl rfl λSf=>?_
 (repeat first|refine WK ?_|refine Ai λX=>?_|refine Ay λY=>?_);refine AWP.cond rfl (λhb=>?_) (λhb=>?_)
 ·have hb:a.length≠b.length:=by simp at hb;omega
  (repeat first|refine WK ?_|refine Ai λX=>?_|refine Ay λY=>?_);refine RT ?_;refine AX ?_;rw[decide_eq_false λe=>hb (by rw[e])]
 ·have hb:a.length=b.length:=by simp at hb;omega
  (repeat first|refine WK ?_|refine Ai λX=>?_|refine Ay λY=>?_);refine BN (λi:Nat=>⟨[(0,(DS false) a),(1,(DS false) b),(12,iA (a.map AC).length),(13,iA i)],Sf⟩) (λi=>i<=a.length/\∀j (h:j<a.length),j<i->a[j]=b[j]'(by omega)) (λi=>a.length-i) 0 ⟨Nat.zero_le _,λj h hj=>absurd hj (by omega)⟩ ?_;rintro i ⟨hi,he⟩;(repeat first|refine WK ?_|refine Ai λX=>?_|refine Ay λY=>?_);refine AWP.cond rfl (λhc=>?_) (λhc=>?_)
  ·have h:i<a.length:=by simpa using hc
   have h':i<b.length:=by omega
   obtain⟨x,hx⟩:∃x,a[i]=x:=⟨_,rfl⟩;obtain⟨y,hy⟩:∃y,b[i]=y:=⟨_,rfl⟩;have hat1:(a.map AC)[i]?=some (AC x):=by rw[List.getElem?_map,List.getElem?_eq_getElem h,hx];rfl
   have hat2:(b.map AC)[i]?=some (AC y):=by rw[List.getElem?_map,List.getElem?_eq_getElem h',hy];rfl
   (repeat first|refine WK ?_|refine Ai λX=>?_|refine Ay λY=>?_);refine RU ?_;(repeat first|(refine RGo.gN ?_;first|refine RGo.p (W.idxL rfl rfl rfl hat1) rfl ?_|refine RGo.p (W.idxL rfl rfl rfl hat2) rfl ?_|refine RGo.p (W.neP _ _ (by kernel_rfl) (Nn x.n x.kind x.tick y.n y.kind y.tick) rfl rfl) rfl ?_)|(refine RGo.gQ ?_;first|refine RGo.p (W.idxL rfl rfl rfl hat1) rfl ?_|refine RGo.p (W.idxL rfl rfl rfl hat2) rfl ?_|refine RGo.p (W.neP _ _ (by kernel_rfl) (Nn x.n x.kind x.tick y.n y.kind y.tick) rfl rfl) rfl ?_)|refine RK ?_|refine RGo.nil (by kernel_rfl) ?_);(repeat first|refine WK ?_|refine Ai λX=>?_|refine Ay λY=>?_);have hne:=RP x y;refine AWP.cond rfl (λhd=>?_) (λhd=>?_)
   ·have hd:x≠y:=by rw[hne]at hd;exact of_decide_eq_true hd
    (repeat first|refine WK ?_|refine Ai λX=>?_|refine Ay λY=>?_);refine RT ?_;refine AX ?_;rw[decide_eq_false λe=>hd (by subst e;rw[<-hx,<-hy])]
   ·have hd:x=y:=by rw[hne]at hd;exact Decidable.not_not.1 (of_decide_eq_false hd)
    (repeat first|refine WK ?_|refine Ai λX=>?_|refine Ay λY=>?_);refine A4 (i+1) ⟨h,λj h1 h2=>?_⟩;by_cases e:j=i
    ·subst e;rw[hx,hy,hd]
    ·exact he j h1 (by omega)
  ·have h:¬i<a.length:=by simpa using hc
   (repeat first|refine WK ?_|refine Ai λX=>?_|refine Ay λY=>?_);refine RT ?_;refine AX ?_;rw[decide_eq_true (List.ext_getElem hb λj h1 h2=>he j h1 (by omega))]
abbrev stS(k:StK)(l:List (Int×List Int)):List AA:=[(k.X,.row 314 3 [.agg [.sl k.V 0 l.length,.sl k.R 0 l.length,.mp k.M]]),(k.V,.row 22 1 (l.map λe=>AW false e.2)),(k.R,.row 3 1 (l.map λe=>iA e.1)),(k.M,.ob (MapF Tryz.prog 3 3 (ixG (AF l)) l.length))]
theorem Mk{X V R M n m c:Nat}{l:List (Int×List Int)}{vs rs:List AV}{g:Int->Option Value}(h1:n=l.length)(h2:m=l.length)(h3:vs=l.map λe=>AW false e.2)(h4:rs=l.map λe=>iA e.1)(h5:g=ixG (AF l))(h6:c=l.length):
  [(X,AO.row 314 3 [.agg [.sl V 0 n,.sl R 0 m,.mp M]]),(V,.row 22 1 vs),(R,.row 3 1 rs),(M,.ob (MapF Tryz.prog 3 3 g c))]=stS ⟨X,V,R,M⟩ l:=by
 subst h1 h2 h3 h4 h5 h6;rfl
theorem RN:Spec Tryz.prog 150 [] [] λr S'=>∃k:StK,r= .ptr k.X 0 0/\S'=stS k []:=by
 refine Spec.of (nt:=4) (res:=[.tmp 0]) Tryz.func150 rfl (by kernel_rfl) rfl rfl rfl λSf=>?_
 refine RG ?_;(repeat first|refine WO ?_|refine Ai λX=>?_|refine Ay λY=>?_);refine NL ?_;refine FL ?_;refine RG ?_;(repeat first|(refine AOps.gN ?_;first|(refine EC ?_;refine JS λM=>?_))|refine WO ?_|refine Ai λX=>?_|refine Ay λY=>?_);refine NL ?_;refine AWP.adoptIn (Y:=X) 22 1 .here (λV=>.cons (.agg (.cons (.base .nil) (.cons .same (.cons .same .nil)))) .nil) λV=>?_
 refine AWP.adoptIn (Y:=X) 3 1 (.next .here) (λV=>.cons (.agg (.cons .same (.cons (.base .nil) (.cons .same .nil)))) .nil) λR=>?_
 refine AWP.front M ?_;refine AWP.front R ?_;refine AWP.front V ?_;refine AWP.front X ?_;refine RT ?_;exact AQ [.ptr X 0 0] (stS ⟨X,V,R,M⟩ []) ⟨⟨X,V,R,M⟩,rfl,rfl⟩
theorem QF(k:StK)(l:List (Int×List Int))(hl:ColOK l)(n:Int)(hn:I64 n)(v:List Int)(hg:CN l n=some v):Spec Tryz.prog 156 [.ptr k.X 0 0,iA n] (stS k l) λr S'=>r= .tup [AW false v,bA true]/\S'=stS k l:=by
 have hlen:=hl.len;have hk:n∈AF l:=Classical.byContradiction λh=>by rw[DP h]at hg;cases hg
 obtain⟨u,hv⟩:=D7 hk;have hi:=D6 hk;have hg2:CN l n=some u:=by unfold CN;rw[hv];rfl
 rw[hg]at hg2;injection hg2 with hg2
 subst hg2;have hat:(l.map λe=>AW false e.2)[(AF l).idxOf n]?=some (AW false v):=by rw[List.getElem?_map,hv];rfl
 have hix:=Cb hk;obtain⟨i,hi2⟩:∃i,(AF l).idxOf n=i:=⟨_,rfl⟩;rw[hi2]at hi hat hix;have h1:(ixG (AF l) n).getD (.int .i64 0)= .int .i64 (i:Nat):=by rw[hix];rfl
 have h2:(ixG (AF l) n).isSome=true:=by rw[hix];rfl
 refine Spec.of (nt:=28) (res:=[.tmp 4,.tmp 5]) Tryz.func156 rfl (by kernel_rfl) rfl rfl rfl λSf=>?_
 refine RG ?_;(repeat first|refine WO ?_|refine Ai λX=>?_|refine Ay λY=>?_);refine NL ?_;refine FL ?_;refine RG ?_;(repeat first|(refine AOps.gN ?_;first|refine AOps.go (h:=DX _ _ h1 h2 hn rfl rfl (by exact At.f)) (k:=?_))|refine WO ?_|refine Ai λX=>?_|refine Ay λY=>?_);refine NL ?_;refine FL ?_;refine RG ?_;(repeat first|refine WO ?_|refine Ai λX=>?_|refine Ay λY=>?_);refine NL ?_;refine FL ?_;refine AE rfl rfl ?_;refine FL ?_;refine RG ?_;(repeat first|(refine AOps.gN ?_;first|refine AOps.go (h:=W.idx rfl rfl (by exact At.f) rfl (by omega) (Nat.zero_add _)) (k:=?_))|refine WO ?_|refine Ai λX=>?_|refine Ay λY=>?_);refine NL ?_;refine RT ?_;exact AQ [AW false v,bA true] (stS k l) ⟨rfl,rfl⟩
theorem MI(k:StK)(l:List (Int×List Int))(hl:ColOK l)(n:Int)(v:List Int)(hn:0<=n/\n<256):Spec Tryz.prog 153 [.ptr k.X 0 0,iA n,AW false v] (stS k l) λr S'=>∃q:Nat×Nat,r=iA 0/\S'=stS ⟨k.X,q.1,q.2,k.M⟩ (BP l n v):=by
 have hlen:=hl.len;have hn1:decide (n<0)=false:=decide_eq_false (by omega);have hn2:decide (n>=256)=false:=decide_eq_false (by omega);have hI: -9223372036854775808<=n/\n<=9223372036854775807:=by omega
 by_cases hk:n∈AF l
 ·obtain⟨u,hu⟩:=D7 hk
  have hi:=D6 hk;rw[Dp hk];have hix:=Cb hk;have hke:=Dz (v:=v) hk;rw[Dp hk]at hke;obtain⟨i,hi2⟩:∃i,(AF l).idxOf n=i:=⟨_,rfl⟩;rw[hi2]at hi hu hix hke⊢;have h1:(ixG (AF l) n).getD (.int .i64 0)= .int .i64 (i:Nat):=by rw[hix];rfl
  have h2:(ixG (AF l) n).isSome=true:=by rw[hix];rfl
  have hat:(l.map λe=>AW false e.2)[i]?=some (AW false u):=by rw[List.getElem?_map,hu];rfl
  have hset:(l.map λe=>AW false e.2).set i (AW false v)=(l.set i (n,v)).map λe=>AW false e.2:=by rw[List.map_set]
  have hrow:(l.map λe=>iA e.1)=(l.set i (n,v)).map λe=>iA e.1:=by
   have:=congrArg (List.map iA) hke;rw[AF,AF,List.map_map,List.map_map]at this;exact this.symm
  refine Spec.of (nt:=62) (res:=[.tmp 6]) Tryz.func153 rfl (by kernel_rfl) rfl rfl rfl λSf=>?_
  refine RG ?_;(repeat first|refine WO ?_|refine Ai λX=>?_|refine Ay λY=>?_);refine NL ?_;refine FL ?_;refine RG ?_;(repeat first|refine WO ?_|refine Ai λX=>?_|refine Ay λY=>?_);refine NL ?_;refine FL ?_;refine AE rfl hn2 ?_;refine FL ?_;refine RG ?_;(repeat first|(refine AOps.gN ?_;first|refine AOps.go (h:=DX _ _ h1 h2 hI rfl rfl (by exact At.f)) (k:=?_))|refine WO ?_|refine Ai λX=>?_|refine Ay λY=>?_);refine NL ?_;refine FL ?_;refine RG ?_;(repeat first|refine WO ?_|refine Ai λX=>?_|refine Ay λY=>?_);refine NL ?_;refine FL ?_;refine AU rfl rfl ?_;refine FL ?_;refine RG ?_;(repeat first|(refine AOps.gN ?_;first|refine AOps.go (h:=W.idx rfl rfl (by exact At.f) rfl (by omega) (Nat.zero_add _)) (k:=?_))|refine WO ?_|refine Ai λX=>?_|refine Ay λY=>?_);refine NL ?_;refine FL ?_;refine RG ?_;(repeat first|refine WO ?_|refine Ai λX=>?_|refine Ay λY=>?_);refine NL ?_;refine RT ?_;exact AQ [iA 0] _ ⟨(k.V,k.R),rfl,Mk (n:=l.length) (m:=l.length) (c:=l.length) (by simp) (by simp) hset hrow (by rw[hke]) (by simp)⟩
 ·rw[CR hk]
  have hix:=Er hk;have h1:(ixG (AF l) n).getD (.int .i64 0)= .int .i64 0:=by rw[hix];rfl
  have h2:(ixG (AF l) n).isSome=false:=by rw[hix];rfl
  have hkl:(AF l).length=l.length:=List.length_map _
  have hkf:Db (ixG (AF l)) n (.int .i64 (l.length:Nat))=ixG (AF (l++[(n,v)])):=by
   rw[<-hkl,Nv hk,AF,AF,List.map_append];rfl
  have hsz:(if(ixG (AF l) n).isSome then l.length else l.length+1)=l.length+1:=by rw[h2];rfl
  have hmx:l.length<maxLen:=by unfold maxLen;omega
  refine Spec.of (nt:=62) (res:=[.tmp 6]) Tryz.func153 rfl (by kernel_rfl) rfl rfl rfl λSf=>?_
  refine RG ?_;(repeat first|refine WO ?_|refine Ai λX=>?_|refine Ay λY=>?_);refine NL ?_;refine FL ?_;refine RG ?_;(repeat first|refine WO ?_|refine Ai λX=>?_|refine Ay λY=>?_);refine NL ?_;refine FL ?_;refine AE rfl hn2 ?_;refine FL ?_;refine RG ?_;(repeat first|(refine AOps.gN ?_;first|refine AOps.go (h:=DX _ _ h1 h2 hI rfl rfl (by exact At.f)) (k:=?_))|refine WO ?_|refine Ai λX=>?_|refine Ay λY=>?_);refine NL ?_;refine FL ?_;refine RG ?_;(repeat first|refine WO ?_|refine Ai λX=>?_|refine Ay λY=>?_);refine NL ?_;refine FL ?_;refine AE rfl rfl ?_;refine FL ?_;refine RU ?_;(repeat first|(refine RGo.gN ?_;first|refine RGo.goS (h:=W.mapUpd (PlainV.int (by kernel_rfl) (CM (by omega))) hI hmx rfl rfl rfl (by exact At.f)) (k:=?_))|(refine RGo.gQ ?_;first|refine RGo.goS (h:=W.mapUpd (PlainV.int (by kernel_rfl) (CM (by omega))) hI hmx rfl rfl rfl (by exact At.f)) (k:=?_))|refine RK ?_|refine RGo.nil (by kernel_rfl) ?_);rw[hkf,hsz];refine FL ?_;refine AWP.rs λA=>AWP.rs λB=>?_
  refine RU ?_;(repeat first|(refine RGo.gN ?_;first|(refine RGo.g_lit ?_;refine RGo.goL (iA n) ?_)|(refine RGo.g_lit ?_;refine RGo.goL (AW false v) ?_))|(refine RGo.gQ ?_;first|(refine RGo.g_lit ?_;refine RGo.goL (iA n) ?_)|(refine RGo.g_lit ?_;refine RGo.goL (AW false v) ?_))|refine RK ?_|refine RGo.nil (by kernel_rfl) ?_);refine FL ?_;refine RG ?_;(repeat first|refine WO ?_|refine Ai λX=>?_|refine Ay λY=>?_);refine NL ?_;refine AWP.front k.M ?_;refine AWP.front B ?_;refine AWP.front A ?_;refine AWP.front k.X ?_;refine RT ?_;exact AQ [iA 0] _ ⟨(A,B),rfl,Mk (n:=l.length+1) (m:=l.length+1) (c:=l.length+1) (by simp) (by simp) (by rw[List.map_append]) (by rw[List.map_append]) rfl (by simp)⟩
def By:List Int->List Int->Int
 |[],[]=>0
 |[],_::_=>-1
 |_::_,[]=>1
 |x::a,y::b=>if B6 x y≠0 then B6 x y else By a b
theorem Rr{a b:List Int}{i:Nat}(ha:i<a.length)(hb:i<b.length):By (a.drop i) (b.drop i)=if B6 a[i] b[i]≠0 then B6 a[i] b[i]else By (a.drop (i+1)) (b.drop (i+1)):=by
 rw[List.drop_eq_getElem_cons ha,List.drop_eq_getElem_cons hb,By]
theorem ML(a b:List Int)(ha:a.length<=1099511627776):PS Tryz.prog 148 [AW false a,AW false b] (iA (By a b)):=by
 have ham:(a.map iA).length=a.length:=List.length_map _;have hbm:(b.map iA).length=b.length:=List.length_map _;refine Spec.of (nt:=36) (res:=[.tmp 4]) Tryz.func148 rfl (by kernel_rfl) rfl rfl rfl λSf=>?_
 (repeat first|refine WK ?_|refine Ai λX=>?_|refine Ay λY=>?_);refine BN (λ(i:Nat)=>⟨[(0,AW false a),(1,AW false b),(9,AW false a),(10,iA (a.map iA).length),(11,iA i)],Sf⟩) (λi=>i<=a.length/\i<=b.length/\By a b=By (a.drop i) (b.drop i)) (λi=>a.length-i) 0 ⟨by omega,by omega,rfl⟩ ?_;rintro i ⟨hi,hib,hc⟩;(repeat first|refine WK ?_|refine Ai λX=>?_|refine Ay λY=>?_);refine AWP.cond rfl (λh=>?_) (λh=>?_)
 ·have h:i<a.length:=by rw[decide_eq_true_eq,ham]at h;omega
  have hat:(a.map iA)[i]?=some (iA a[i]):=Am _ h;obtain⟨x,hx⟩:∃x,a[i]=x:=⟨_,rfl⟩;rw[hx]at hat;have hil:i<(a.map iA).length:=by omega
  (repeat first|refine WK ?_|refine Ai λX=>?_|refine Ay λY=>?_);refine AWP.cond rfl (λh2=>?_) (λh2=>?_)
  ·have h2:i=b.length:=by rw[decide_eq_true_eq,hbm]at h2;omega
   (repeat first|refine WK ?_|refine Ai λX=>?_|refine Ay λY=>?_);refine RT ?_;refine AX ?_;have hbn:b.drop i=[]:=List.drop_eq_nil_of_le (by omega);rw[hc,hbn,List.drop_eq_getElem_cons h];rfl
  ·have h2:i<b.length:=by rw[decide_eq_false_iff_not,hbm]at h2;omega
   have hat2:(b.map iA)[i]?=some (iA b[i]):=Am _ h2;have hil2:i<(b.map iA).length:=by omega
   rw[Rr h h2]at hc;obtain⟨y,hy⟩:∃y,b[i]=y:=⟨_,rfl⟩;rw[hx,hy]at hc;rw[hy]at hat2;have hcm:=C1 x y;obtain⟨z,hz⟩:∃z,B6 x y=z:=⟨_,rfl⟩;rw[hz]at hcm hc;(repeat first|(refine AOps.gN ?_;first|(refine AOps.g_callf ?_;first|refine AOps.c2 (h:=(hcm ..)) (k:=?_)))|refine WK ?_|refine Ai λX=>?_|refine Ay λY=>?_);refine AWP.cond rfl (λh3=>?_) (λh3=>?_)
   ·have h3:z≠0:=by simpa using h3
    (repeat first|refine WK ?_|refine Ai λX=>?_|refine Ay λY=>?_);refine RT ?_;refine AX ?_;rw[hc,if_pos h3]
   ·have h3:z=0:=by simpa using h3
    rw[if_neg (by simp[h3])]at hc;(repeat first|refine WK ?_|refine Ai λX=>?_|refine Ay λY=>?_);exact A4 (i+1) ⟨by omega,by omega,hc⟩ (by omega)
 ·have h:i=a.length:=by rw[decide_eq_false_iff_not,ham]at h;omega
  subst h;rw[List.drop_length]at hc;(repeat first|refine WK ?_|refine Ai λX=>?_|refine Ay λY=>?_);refine AWP.cond rfl (λh2=>?_) (λh2=>?_)
  ·have h2:a.length<b.length:=by rw[decide_eq_true_eq,ham,hbm]at h2;omega
   (repeat first|refine WK ?_|refine Ai λX=>?_|refine Ay λY=>?_);refine RT ?_;refine AX ?_;rw[hc,List.drop_eq_getElem_cons h2];rfl
  ·have h2:a.length=b.length:=by rw[decide_eq_false_iff_not,ham,hbm]at h2;omega
   (repeat first|refine WK ?_|refine Ai λX=>?_|refine Ay λY=>?_);refine RT ?_;refine AX ?_;rw[hc,List.drop_eq_nil_of_le (by omega)];rfl
def Df{α:Type}(f:α->AV)(z:AV)(l:List α)(i:Nat):List AV:=(l.take i).map f++List.replicate (l.length-i) z
theorem KB{α:Type}(f:α->AV)(z:AV)(l:List α){i:Nat}(h:i<=l.length):(Df f z l i).length=l.length:=by
 unfold Df;rw[List.length_append,List.length_map,List.length_take,List.length_replicate];omega
theorem I4{α:Type}(f:α->AV)(z:AV)(l:List α):Df f z l 0=List.replicate l.length z:=by unfold Df;simp
theorem KC{α:Type}(f:α->AV)(z:AV)(l:List α):Df f z l l.length=l.map f:=by unfold Df;simp
theorem MC{α:Type}(f:α->AV)(z:AV)(l:List α){i:Nat}(h:i<l.length):(Df f z l i)[i]?=some z:=by
 unfold Df;have hl:((l.take i).map f).length=i:=by rw[List.length_map,List.length_take];omega
 rw[List.getElem?_append_right (by omega),hl,Nat.sub_self,List.getElem?_replicate,if_pos (by omega)]
theorem KA{α:Type}(f:α->AV)(z:AV)(l:List α){i:Nat}(h:i<l.length):(Df f z l i).set i (f l[i])=Df f z l (i+1):=by
 unfold Df;have hl:((l.take i).map f).length=i:=by rw[List.length_map,List.length_take];omega
 rw[List.set_append_right _ _ (by omega),hl,Nat.sub_self,show l.length-i=(l.length-(i+1))+1 by omega,List.replicate_succ,List.set_cons_zero,List.take_succ_eq_append_getElem h,List.map_append,List.append_assoc];rfl
theorem Mz(l:List Comp)(hl:l.length<=1099511627776):PS Tryz.prog 145 [As false false l] (AW true (l.map (·.kind))):=by
 have hlm:(l.map (AG false)).length=l.length:=List.length_map _;refine Spec.of (nt:=23) (res:=[.tmp 2]) Tryz.func145 rfl (by kernel_rfl) rfl rfl rfl λSf=>?_
 refine RG ?_;(repeat first|refine WO ?_|refine Ai λX=>?_|refine Ay λY=>?_);refine NL ?_;refine FL ?_;refine RG ?_;(repeat first|(refine AOps.gN ?_;first|(refine Dd ?_;refine FO (iA 0) λK=>?_))|refine WO ?_|refine Ai λK=>?_|refine Ay λY=>?_);refine NL ?_;rw[hlm,<-I4 (λc:Comp=>iA c.kind)];refine FL ?_;refine RG ?_;(repeat first|refine WO ?_|refine Ai λX=>?_|refine Ay λY=>?_);refine NL ?_;refine FL ?_;refine BN (λ(i:Nat)=>⟨[(3,.sl K 0 l.length),(9,As false false l),(10,iA (l.map (AG false)).length),(11,iA i)],(K,.row 3 1 (Df (λc:Comp=>iA c.kind) (iA 0) l i))::Sf⟩) (λi=>i<=l.length) (λi=>l.length-i) 0 (by omega) ?_;rintro i hi;have hfl:=KB (λc:Comp=>iA c.kind) (iA 0) l hi;refine RG ?_;(repeat first|refine WO ?_|refine Ai λX=>?_|refine Ay λY=>?_);refine NL ?_;refine FL ?_;refine AWP.cond rfl (λh=>?_) (λh=>?_)
 ·have h:i<l.length:=by rw[decide_eq_true_eq,hlm]at h;omega
  have hat:(l.map (AG false))[i]?=some (AG false l[i]):=Am _ h;have hil:i<(l.map (AG false)).length:=by omega
  have hfa:=MC (λc:Comp=>iA c.kind) (iA 0) l h;have hfs:=KA (λc:Comp=>iA c.kind) (iA 0) l h;obtain⟨⟨ck,cv⟩,hc⟩:∃c,l[i]=c:=⟨_,rfl⟩;rw[hc]at hat hfs;refine FL ?_;refine RG ?_;(repeat first|refine WO ?_|refine Ai λC=>?_|refine Ay λY=>?_);refine NL ?_;refine FL ?_;refine RG ?_;(repeat first|(refine AOps.gN ?_;first|refine AOps.go (h:=W.idx rfl rfl (by exact At.f) rfl (by omega) (Nat.zero_add _)) (k:=?_))|refine WO ?_|refine Ai λX=>?_|refine Ay λY=>?_);refine NL ?_;rw[hfs];refine FL ?_;refine RG ?_;(repeat first|refine WO ?_|refine Ai λX=>?_|refine Ay λY=>?_);refine NL ?_;exact A4 (i+1) (by omega)
 ·have h:i=l.length:=by rw[decide_eq_false_iff_not,hlm]at h;omega
  subst h;rw[KC];refine FL ?_;refine RG ?_;(repeat first|refine WO ?_|refine Ai λX=>?_|refine Ay λY=>?_);refine NL ?_;refine RT ?_;exact⟨[.sl K 0 l.length],[AW true (l.map (·.kind))],_,[],.cons (.tmp rfl) rfl .nil,.cons (.cell (by unfold AW;rw[show(l.map (·.kind)).map iA=l.map (λc:Comp=>iA c.kind)from List.map_map];exact .sl (p:=0) .here (by simp))) .nil,by exact Sub.f,rfl,rfl⟩
abbrev ptrs{α:Type}(px:α->Nat)(l:List α):List AV:=l.map λx=>.ptr (px x) 0 0
theorem Mq{α:Type}(Tb:Nat)(l:List α)(px:α->Nat)(R:List AA)(ks:List Int)(f:FuncId)(g:α->Int)(hl:l.length<=4611686018427387904)(hf:∀x∈l,Spec Tryz.prog f [.ptr (px x) 0 0,AW false ks] R λr S'=>r=iA (g x)/\S'=R):
  Spec Tryz.prog 146 [.sl Tb 0 l.length,AW false ks,.fn f []] ((Tb,.row 145 1 (ptrs px l))::R) λr S'=>∃b,Found g l b/\r= .tup [iA b.1,bA b.2]/\S'=(Tb,.row 145 1 (ptrs px l))::R:=by
 refine Spec.of (nt:=49) (res:=[.tmp 6,.tmp 7]) Tryz.func146 rfl (by kernel_rfl) rfl rfl rfl λSf=>?_
 have hlm:(ptrs px l).length=l.length:=List.length_map _;(repeat first|refine WK ?_|refine Ai λX=>?_|refine Ay λY=>?_);refine BH (λ(i j:Nat)=>⟨[(0,.sl Tb 0 l.length),(1,AW false ks),(2,.fn f []),(8,iA l.length),(9,iA i),(10,iA j)],(Tb,.row 145 1 (ptrs px l))::(R++Sf)⟩) (λi j=>i<=j/\j<=l.length/\(Hh g l->Spl g l i j)) (λi j=>j-i) 0 l.length ⟨Nat.zero_le _,by omega,λ_=>⟨λk x h=>absurd h (by omega),λk x h hx=>by have:=(List.getElem?_eq_some_iff.1 hx).1;omega⟩⟩ ?_;rintro i j ⟨hij,hjn,hmono⟩;(repeat first|refine WK ?_|refine Ai λX=>?_|refine Ay λY=>?_);refine AWP.cond rfl (λhc=>?_) (λhc=>?_)
 ·have h:i<j:=by rw[decide_eq_true_eq]at hc;omega
  have hmid:((i:Int)+j).fdiv (2^1)=(((i+j)/2:Nat):Int):=by
   rw[Int.fdiv_eq_ediv_of_nonneg _ (by decide)];omega
  have hw1:IntKind.u64.wrap ((i:Int)+j)=i+j:=by rw[IntKind.wrap_u64];omega
  have hw2:IntKind.i64.wrap (((i:Int)+j).fdiv (2^1))=((i:Int)+j).fdiv (2^1):=by
   rw[IntKind.wrap_i64,hmid];omega
  refine RG ?_;(repeat first|(refine AOps.gN ?_;first|refine AOps.p (W.conv .i64 .u64 (by kernel_rfl) (by kernel_rfl) rfl hw1) rfl ?_|refine AOps.p (W.shr 1 rfl rfl rfl (by decide)) rfl ?_|refine AOps.p (W.conv .u64 .i64 (by kernel_rfl) (by kernel_rfl) rfl hw2) rfl ?_)|refine WO ?_|refine Ai λX=>?_|refine Ay λY=>?_);refine NL ?_;rw[hmid];obtain⟨m,hm⟩:∃m,(i+j)/2=m:=⟨_,rfl⟩;rw[hm];have hml:m<l.length:=by omega
  obtain⟨y,hy⟩:∃y,l[m]=y:=⟨_,rfl⟩;have hya:l[m]?=some y:=by rw[List.getElem?_eq_getElem hml,hy]
  have hat:(ptrs px l)[m]?=some (.ptr (px y) 0 0):=by rw[List.getElem?_map,hya];rfl
  have hfy:=hf y (by rw[<-hy];exact List.getElem_mem hml);refine RG ?_;(repeat first|(refine AOps.gN ?_;first|refine AOps.go (h:=W.idx rfl rfl (by exact At.f) rfl (by omega) (Nat.zero_add _)) (k:=?_)|refine MY [(Tb,_)] (h:=hfy) (k:=?_))|refine WO ?_|refine Ai λX=>?_|refine Ay λY=>?_);refine NL ?_;refine AWP.cond rfl (λhe=>?_) (λhe=>?_)
  ·have he:g y<0:=by simpa using he
   (repeat first|refine WK ?_|refine Ai λX=>?_|refine Ay λY=>?_);refine Ae (m+1) j ⟨by omega,hjn,λhM=>(hmono hM).lo hM hya he⟩
  ·have he:¬g y<0:=by simpa using he
   (repeat first|refine WK ?_|refine Ai λX=>?_|refine Ay λY=>?_);refine Ae i m ⟨by omega,by omega,λhM=>(hmono hM).hi hM hya he⟩
 ·have h:i=j:=by rw[decide_eq_false_iff_not]at hc;omega
  subst h;by_cases hin:i<l.length
  ·have hil:i<l.length:=by omega
   have g1:decide ((i:Int)<l.length)=true:=decide_eq_true (by omega);obtain⟨y,hy⟩:∃y,l[i]=y:=⟨_,rfl⟩;have hya:l[i]?=some y:=by rw[List.getElem?_eq_getElem hil,hy]
   have hat:(ptrs px l)[i]?=some (.ptr (px y) 0 0):=by rw[List.getElem?_map,hya];rfl
   have hfy:=hf y (by rw[<-hy];exact List.getElem_mem hil);(repeat first|(refine AOps.gN ?_;first|refine AOps.go (h:=W.idx rfl rfl (by exact At.f) rfl (by omega) (Nat.zero_add _)) (k:=?_)|refine MY [(Tb,_)] (h:=hfy) (k:=?_))|refine WK ?_|refine Ai λX=>?_|refine Ay λY=>?_);refine RT ?_;exact AQ [iA i,bA (decide (g y=0))] ((Tb,.row 145 1 (ptrs px l))::R) ⟨(i,decide (g y=0)),⟨by simp;omega,by simp[hya],hmono⟩,rfl,rfl⟩
  ·have g1:decide ((i:Int)<l.length)=false:=decide_eq_false (by omega)
   (repeat first|refine WK ?_|refine Ai λX=>?_|refine Ay λY=>?_);refine RT ?_;exact AQ [iA i,bA false] ((Tb,.row 145 1 (ptrs px l))::R) ⟨(i,false),⟨by simp;omega,by simp[List.getElem?_eq_none (show l.length<=i by omega)],hmono⟩,rfl,rfl⟩
theorem Oq{α:Type}(X:Nat)(l:List α)(px:α->Nat)(R:List AA)(f:FuncId)(cap:List AV)(p:α->Bool)(hs:Bd cap=true)(hl:l.length<=4611686018427387904)(hf:∀x∈l,Spec Tryz.prog f (.ptr (px x) 0 0::cap) R λr S'=>r=bA (p x)/\S'=R):Spec Tryz.prog 303 [.sl X 0 l.length,.fn f cap] ((X,.row 145 1 (ptrs px l))::R) λr S'=>r=iA (E6 l p)/\S'=(X,.row 145 1 (ptrs px l))::R:=by
 refine Spec.of (nt:=19) (res:=[.tmp 4]) Tryz.func303 rfl (by kernel_rfl) rfl rfl rfl λSf=>?_
 (repeat first|refine WK ?_|refine Ai λX=>?_|refine Ay λY=>?_);refine BN (λi:Nat=>⟨[(0,.sl X 0 l.length),(1,.fn f cap),(7,iA l.length),(8,iA i)],(X,.row 145 1 (ptrs px l))::(R++Sf)⟩) (λi=>i<=l.length/\∀j (h:j<l.length),j<i->p l[j]=false) (λi=>l.length-i) 0 ⟨Nat.zero_le _,λj h hj=>absurd hj (by omega)⟩ ?_;rintro i ⟨hi,he⟩;(repeat first|refine WK ?_|refine Ai λX=>?_|refine Ay λY=>?_);refine AWP.cond rfl (λhc=>?_) (λhc=>?_)
 ·have h:i<l.length:=by simpa using hc
  have hfx:=hf _ (List.getElem_mem h);obtain⟨y,hy⟩:∃y,l[i]=y:=⟨_,rfl⟩;have hat:(ptrs px l)[i]?=some (.ptr (px y) 0 0):=by rw[List.getElem?_map,List.getElem?_eq_getElem h,hy];rfl
  rw[hy]at hfx;(repeat first|(refine AOps.gN ?_;first|refine AOps.go (h:=W.idx rfl rfl (by exact At.f) rfl (by omega) (Nat.zero_add _)) (k:=?_)|refine MZ [(X,_)] (h:=hfx) (k:=?_))|refine WK ?_|refine Ai λX=>?_|refine Ay λY=>?_);refine AWP.cond rfl (λhd=>?_) (λhd=>?_)
  ·(repeat first|refine WK ?_|refine Ai λX=>?_|refine Ay λY=>?_)
   rw[J6 h (by rw[hy];exact hd) λj hj=>he j (by omega) hj];refine RT ?_;exact AQ [iA i] ((X,.row 145 1 (ptrs px l))::R) ⟨rfl,rfl⟩
  ·(repeat first|refine WK ?_|refine Ai λX=>?_|refine Ay λY=>?_)
   refine A4 (i+1) ⟨h,λj h1 h2=>?_⟩;by_cases e:j=i
   ·subst e;rw[hy];exact hd
   ·exact he j h1 (by omega)
 ·have h:¬i<l.length:=by simpa using hc
  (repeat first|refine WK ?_|refine Ai λX=>?_|refine Ay λY=>?_);rw[J7 λj hj=>he j hj (by omega)];refine RT ?_;exact AQ [iA (-1)] ((X,.row 145 1 (ptrs px l))::R) ⟨rfl,rfl⟩
theorem NI{α:Type}(X:Nat)(l:List α)(px:α->Nat)(R:List AA)(f:FuncId)(cap:List AV)(p:α->Bool)(hs:Bd cap=true)(hl:l.length<=4611686018427387903)(hf:∀x∈l,Spec Tryz.prog f (.ptr (px x) 0 0::cap) R λr S'=>r=bA (p x)/\S'=R):Spec Tryz.prog 300 [.sl X 0 l.length,.fn f cap] ((X,.row 145 1 (ptrs px l))::R) λr S'=>r= .lst true 145 1 (ptrs px (l.filter λx=>!p x))/\S'=R:=by
 refine Spec.of (nt:=42) (res:=[.tmp 4]) Tryz.func300 rfl (by kernel_rfl) rfl rfl rfl λSf=>?_
 have h0:=Oq X l px R f cap p hs (by omega) hf;have hr:=M5 l p;obtain⟨v,hv⟩:∃v,E6 l p=v:=⟨_,rfl⟩;rw[hv]at h0 hr;(repeat first|(refine AOps.gN ?_;first|refine DZ [] (h:=h0) (k:=?_))|refine WK ?_|refine Ai λX=>?_|refine Ay λY=>?_);refine AWP.cond rfl (λhc=>?_) (λhc=>?_)
 ·have hc:v= -1:=by simpa using hc
  have hall:(l.filter λx=>!p x)=l:=by
   rw[List.filter_eq_self];intro x hx
   have h1:l.findIdx? p=none:=by
    unfold E6 at hv;split at hv
    ·omega
    ·assumption
   rw[List.findIdx?_eq_none_iff]at h1;simp[h1 x hx]
  rw[hall];(repeat first|refine WK ?_|refine Ai λX=>?_|refine Ay λY=>?_);refine RT ?_;exact⟨[.sl X 0 l.length],[.lst true 145 1 (ptrs px l)],_,R,.cons (.tmp rfl) rfl .nil,.cons (.cell (.sl (p:=0) .here (by simp))) .nil,by exact Sub.f,rfl,rfl⟩
 ·have hc:v≠-1:=by simpa using hc
  obtain⟨i0,hi0⟩:∃i0:Nat,v=i0:=⟨v.toNat,by omega⟩;subst hi0
  have hfi:l.findIdx? p=some i0:=by
   unfold E6 at hv;split at hv
   ·rename_i i hi;rw[hi];congr 1;omega
   ·omega
  obtain⟨hil,hpi,hmin⟩:=List.findIdx?_eq_some_iff_getElem.1 hfi
  have ht0:(l.take (i0+1)).filter (λx=>!p x)=l.take i0:=by
   rw[List.take_succ_eq_append_getElem hil,List.filter_append];rw[show([l[i0]].filter λx=>!p x)=[] by simp[hpi],List.append_nil,List.filter_eq_self];intro x hx;obtain⟨j,hj,rfl⟩:=List.mem_take_iff_getElem.1 hx;have:=hmin j (by omega);simp at this⊢;exact this
  (repeat first|refine WK ?_|refine Ai λX=>?_|refine Ay λY=>?_);refine CB (λ(i j:Nat) (M:List AV)=>⟨[(0,.sl X 0 l.length),(1,.fn f cap),(5,iA i),(6,iA j)],(X,.row 145 1 M)::(R++Sf)⟩) (λi j M=>i<j/\j<=l.length/\∃K:List α,M=ptrs px K/\K.length=l.length/\K.take i=((l.take j).filter λx=>!p x)/\K.drop j=l.drop j) (λi j _=>l.length-j) i0 (i0+1) (ptrs px l) ⟨by omega,hil,l,rfl,rfl,ht0.symm,rfl⟩ ?_;rintro i j M ⟨hij,hj,K,rfl,hM,h1,h2⟩;(repeat first|refine WK ?_|refine Ai λX=>?_|refine Ay λY=>?_);refine AWP.cond rfl (λhd=>?_) (λhd=>?_)
  ·have h:j<l.length:=by simpa using hd
   have hKj:K[j]?=some l[j]:=by
    have:=congrArg (λz=>z[0]?) h2;simpa[h]using this
   have hat:(ptrs px K)[j]?=some (.ptr (px l[j]) 0 0):=by rw[List.getElem?_map,hKj];rfl
   have hKi:i<K.length:=by omega
   obtain⟨b,hb⟩:∃b,p l[j]=b:=⟨_,rfl⟩;have hfj:=hf _ (List.getElem_mem h);rw[hb]at hfj
   have htk:(l.take (j+1)).filter (λx=>!p x)=(l.take j).filter (λx=>!p x)++if b then[]else[l[j]]:=by
    rw[List.take_succ_eq_append_getElem h,List.filter_append]
    congr 1
    cases b<;>simp[hb]
   obtain⟨y,hy⟩:∃y,l[j]=y:=⟨_,rfl⟩;rw[hy]at hat hfj;(repeat first|(refine AOps.gN ?_;first|refine AOps.go (h:=W.idx rfl rfl (by exact At.f) rfl (by omega) (Nat.zero_add _)) (k:=?_)|refine MZ [(X,_)] (h:=hfj) (k:=?_))|refine WK ?_|refine Ai λX=>?_|refine Ay λY=>?_);cases b
   ·refine AU rfl rfl ?_
    (repeat first|refine WK ?_|refine Ai λX=>?_|refine Ay λY=>?_);refine BR (i+1) (j+1) ((ptrs px K).set i (.ptr (px y) 0 0)) ⟨by omega,h,K.set i y,by rw[ptrs,ptrs,List.map_set],by simpa using hM,?_,?_⟩
    ·rw[htk,<-h1,List.take_add_one,List.take_set,List.set_eq_of_length_le (by rw[List.length_take];omega),List.getElem?_set_self hKi]
     simp[hy]
    ·rw[List.drop_set_of_lt (by omega),<-List.drop_drop,h2,List.drop_drop]
   ·refine AE rfl rfl ?_
    (repeat first|refine WK ?_|refine Ai λX=>?_|refine Ay λY=>?_);refine BR i (j+1) _ ⟨by omega,h,K,rfl,hM,?_,?_⟩
    ·rw[h1,htk];simp
    ·rw[<-List.drop_drop,h2,List.drop_drop]
  ·have h:j=l.length:=by rw[decide_eq_false_iff_not]at hd;omega
   subst h;have h1':K.take i=l.filter λx=>!p x:=by rw[h1,List.take_length]
   have hKl:(ptrs px K).length=l.length:=by rw[List.length_map,hM]
   have hki:∀A B,(List.take (0+i) (ptrs px K)++A++B).take i=ptrs px (l.filter λx=>!p x):=λA B=>by
    rw[Nat.zero_add,List.append_assoc,List.take_append_of_le_length (by rw[List.length_take];omega),List.take_take,Nat.min_self,ptrs,<-List.map_take,h1']
   have hfl:i=(ptrs px (l.filter λx=>!p x)).length:=by
    rw[<-h1',List.length_map,List.length_take];omega
   (repeat first|(refine AOps.gN ?_;first|refine AOps.s (W.slice_lo rfl rfl (by exact At.f) rfl (by omega)) rfl ?_|refine AOps.s (W.clear rfl (by exact At.f) (by first|exact .inl rfl|exact .inr rfl) rfl (by omega)) rfl ?_|refine AOps.p (W.hi rfl rfl (by exact At.f) rfl (by omega)) rfl ?_)|refine WK ?_|refine Ai λX=>?_|refine Ay λY=>?_);refine AWP.shrink (X:=X) i ?_;rw[hki];refine RT ?_;exact⟨[.sl X 0 i],[.lst true 145 1 (ptrs px (l.filter λx=>!p x))],_,R,.cons (.tmp rfl) rfl .nil,.cons (.cell (.sl (p:=0) .here hfl)) .nil,by exact Sub.f,rfl,rfl⟩
structure Tab where
 X:Nat
 ks:List Int
 ek:StK
 es:List (Int×Ent)
 cs:List (StK×List (Int×List Int))
def BM(cs:List (StK×List (Int×List Int))):List AA:=cs.flatMap λc=>stS c.1 c.2
abbrev MM(cs:List (StK×List (Int×List Int))):AV:=.lst false 252 1 (cs.map λc=>.ptr c.1.X 0 0)
abbrev DM(t:Tab):AA:=(t.X,.row 151 3 [.agg [AW false t.ks,.ptr t.ek.X 0 0,MM t.cs]])
abbrev Di(t:Tab):List AA:=DM t::(stE t.ek t.es++BM t.cs)
theorem Cq(a b:List (StK×List (Int×List Int))):BM (a++b)=BM a++BM b:=List.flatMap_append
theorem Ck(c:StK×List (Int×List Int))(b:List (StK×List (Int×List Int))):BM (c::b)=stS c.1 c.2++BM b:=List.flatMap_cons
theorem EY{α:Type}{l:List α}{i:Nat}(h:i<l.length):∃l1 l2,l=l1++l[i]::l2/\l1.length=i:=⟨l.take i,l.drop (i+1),by rw[List.getElem_cons_drop,List.take_append_drop],by rw[List.length_take];omega⟩
def AL(t:Tab)(n:Int):List Comp:=(t.ks.zip t.cs).map λq=>⟨q.1,(CN q.2.2 n).getD []⟩
structure TabOK(t:Tab):Prop where
 len:t.ks.length=t.cs.length
 ks:t.ks.length<=16
 es:ColOK t.es
 cs:∀c∈t.cs,ColOK c.2
 keys:∀c∈t.cs,∀n,n∈AF c.2↔n∈AF t.es
theorem Ry(t:Tab)(ks:List Int)(hl:t.ks.length<=1099511627776):Spec Tryz.prog 147 [.ptr t.X 0 0,AW false ks] [DM t] λr S'=>r=iA (By t.ks ks)/\S'=[DM t]:=by
 have h1:=ML t.ks ks hl;refine Spec.of (nt:=11) (res:=[.tmp 4]) Tryz.func147 rfl (by kernel_rfl) rfl rfl rfl λSf=>?_
 refine RG ?_;(repeat first|refine WO ?_|refine Ai λX=>?_|refine Ay λY=>?_);refine NL ?_;refine FL ?_;refine RG ?_;(repeat first|(refine AOps.gN ?_;first|(refine AOps.g_callf ?_;first|refine AOps.c2 (h:=(h1 ..)) (k:=?_)))|refine WO ?_|refine Ai λX=>?_|refine Ay λY=>?_);refine NL ?_;refine RT ?_;exact AQ [iA (By t.ks ks)] [DM t] ⟨rfl,rfl⟩
abbrev JA:AV:=.agg [iA 0,.prim (.slice none 0 0)]
theorem DO{t:Tab}{n:Int}{i:Nat}(h:i<(AL t n).length)(h1:i<t.ks.length)(h2:i<t.cs.length):(AL t n)[i]=⟨t.ks[i],(CN t.cs[i].2 n).getD []⟩:=by simp[AL]
theorem MJ(t:Tab)(n:Int)(ht:TabOK t)(hn:I64 n)(hk:n∈AF t.es):Spec Tryz.prog 75 [.ptr t.X 0 0,iA n] (Di t) λr S'=>r= .lst true 42 2 ((AL t n).map (AG false))/\S'=Di t:=by
 have hkm:(t.ks.map iA).length=t.ks.length:=List.length_map _;have hcm:(t.cs.map λc=>AV.ptr c.1.X 0 0).length=t.cs.length:=List.length_map _;have hlen:=ht.len;have h16:=ht.ks;have htl:(AL t n).length=t.ks.length:=by unfold AL;rw[List.length_map,List.length_zip];omega
 refine Spec.of (nt:=46) (res:=[.tmp 4]) Tryz.func75 rfl (by kernel_rfl) rfl rfl rfl λSf=>?_
 refine RG ?_;(repeat first|refine WO ?_|refine Ai λX=>?_|refine Ay λY=>?_);refine NL ?_;refine FL ?_;refine RG ?_;(repeat first|(refine AOps.gN ?_;first|(refine Dd ?_;refine FO (AV.agg [iA 0,.prim (.slice none 0 0)]) λK=>?_))|refine WO ?_|refine Ai λK=>?_|refine Ay λY=>?_);refine NL ?_;rw[hkm,<-htl,<-I4 (AG false)];refine FL ?_;refine RG ?_;(repeat first|refine WO ?_|refine Ai λX=>?_|refine Ay λY=>?_);refine NL ?_;refine FL ?_;refine BN (λ(i:Nat)=>⟨[(0,.ptr t.X 0 0),(1,iA n),(5,.sl K 0 (AL t n).length),(19,AW false t.ks),(20,iA (t.ks.map iA).length),(21,iA i)],(K,.row 42 2 (Df (AG false) JA (AL t n) i))::(Di t++Sf)⟩) (λi=>i<=t.ks.length) (λi=>t.ks.length-i) 0 (by omega) ?_;rintro i hi;have hfl:=KB (AG false) JA (AL t n) (i:=i) (by omega);refine RG ?_;(repeat first|refine WO ?_|refine Ai λX=>?_|refine Ay λY=>?_);refine NL ?_;refine FL ?_;refine AWP.cond rfl (λh=>?_) (λh=>?_)
 ·have h:i<t.ks.length:=by rw[decide_eq_true_eq,hkm]at h;omega
  have hc:i<t.cs.length:=by omega
  have hat:(t.ks.map iA)[i]?=some (iA t.ks[i]):=Am _ h;have hil:i<(t.ks.map iA).length:=by omega
  have hti:i<(AL t n).length:=by omega
  have hfa:=MC (AG false) JA (AL t n) hti;have hfs:=KA (AG false) JA (AL t n) hti;have hcat:(t.cs.map λc=>AV.ptr c.1.X 0 0)[i]?=some (.ptr t.cs[i].1.X 0 0):=Am _ hc;have hcil:i<(t.cs.map λc=>AV.ptr c.1.X 0 0).length:=by omega
  have hcm:=List.getElem_mem hc;obtain⟨v,hv⟩:=D0 ((ht.keys _ hcm n).2 hk)
  have hel:(AL t n)[i]=⟨t.ks[i],v⟩:=by
   rw[DO hti h hc,hv];rfl
  rw[hel]at hfs;have hget:=QF t.cs[i].1 t.cs[i].2 (ht.cs _ hcm) n hn v hv;obtain⟨l1,l2,hsp,hl1⟩:=EY hc;obtain⟨c,hce⟩:∃c,t.cs[i]=c:=⟨_,rfl⟩;rw[hce]at hget hsp hcat;obtain⟨k,hke⟩:∃k,t.ks[i]=k:=⟨_,rfl⟩;rw[hke]at hat hfs
  have heq:(K,AO.row 42 2 (Df (AG false) JA (AL t n) i))::(Di t++Sf)=((K,AO.row 42 2 (Df (AG false) JA (AL t n) i))::DM t::(stE t.ek t.es++BM l1))++(stS c.1 c.2++(BM l2++Sf)):=by
   have e1:BM t.cs=BM l1++(stS c.1 c.2++BM l2):=by
    conv=>lhs;rw[hsp]
    rw[Cq,Ck]
   rw[Di,e1];simp only[List.cons_append,List.append_assoc]
  refine FL ?_;refine RG ?_;(repeat first|refine WO ?_|refine Ai λX=>?_|refine Ay λY=>?_);refine NL ?_;refine FL ?_;refine RG ?_;(repeat first|(refine AOps.gN ?_;first|refine DZ _ (h:=hget) (k:=?_) (hp:=heq))|refine WO ?_|refine Ai λX=>?_|refine Ay λY=>?_);refine NL ?_;rw[<-heq];refine FL ?_;refine RG ?_;(repeat first|(refine AOps.gN ?_;first|refine AOps.go (h:=W.idx rfl rfl (by exact At.f) rfl (by omega) (Nat.zero_add _)) (k:=?_))|refine WO ?_|refine Ai λX=>?_|refine Ay λY=>?_);refine NL ?_;refine KT K hfs ?_;refine FL ?_;refine RG ?_;(repeat first|refine WO ?_|refine Ai λX=>?_|refine Ay λY=>?_);refine NL ?_;exact A4 (i+1) (by omega)
 ·have h:i=t.ks.length:=by rw[decide_eq_false_iff_not,hkm]at h;omega
  subst h;have hfa:Df (AG false) JA (AL t n) t.ks.length=(AL t n).map (AG false):=by rw[<-htl];exact KC _ _ _
  rw[hfa];refine FL ?_;refine RG ?_;(repeat first|refine WO ?_|refine Ai λX=>?_|refine Ay λY=>?_);refine NL ?_;refine RT ?_;exact⟨[.sl K 0 (AL t n).length],[.lst true 42 2 ((AL t n).map (AG false))],_,Di t,.cons (.tmp rfl) rfl .nil,.cons (.cell (.sl (p:=0) .here (by simp))) .nil,by exact Sub.f,rfl,rfl⟩
theorem cmpI_eqz{x y:Int}:B6 x y=0↔x=y:=by unfold B6;split<;>(try split)<;>omega
theorem cmpI_ltz{x y:Int}:B6 x y<0↔x<y:=by unfold B6;split<;>(try split)<;>omega
theorem cmpL_zero:∀{a b:List Int},By a b=0↔a=b
 |[],[]=>by simp[By]
 |[],_::_=>by simp[By]
 |_::_,[]=>by simp[By]
 |x::a,y::b=>by
  rw[By,List.cons.injEq];by_cases h:B6 x y=0
  ·rw[if_neg (by simp[h]),cmpL_zero,cmpI_eqz.1 h];simp
  ·rw[if_pos h]
   exact⟨λe=>absurd e h,λe=>absurd (cmpI_eqz.2 e.1) h⟩
theorem GJ:∀{a b c:List Int},By a b<0->By b c<0->By a c<0
 |[],[],_,h,_=>by simp[By]at h
 |[],_::_,[],_,h=>by simp[By]at h
 |[],_::_,_::_,_,_=>by simp[By]
 |_::_,[],_,h,_=>by simp[By]at h
 |_::_,_::_,[],_,h=>by simp[By]at h
 |x::a,y::b,z::c,h1,h2=>by
  rw[By]at h1 h2⊢;by_cases e1:B6 x y=0
  ·have e1':=cmpI_eqz.1 e1
   subst e1';rw[if_neg (by simp[e1])]at h1;by_cases e2:B6 x z=0
   ·rw[if_neg (by simp[e2])]at h2⊢
    exact GJ h1 h2
   ·rw[if_pos e2]at h2⊢
    exact h2
  ·rw[if_pos e1]at h1
   have l1:=cmpI_ltz.1 h1;by_cases e2:B6 y z=0
   ·have e2':=cmpI_eqz.1 e2
    subst e2';rw[if_pos e1];exact h1
   ·rw[if_pos e2]at h2
    have l2:=cmpI_ltz.1 h2;have l3:B6 x z<0:=cmpI_ltz.2 (by omega);rw[if_pos (by omega)];exact l3
theorem KJ:∀{a b:List Int},¬By a b<0->a≠b->By b a<0
 |[],[],_,h=>absurd rfl h
 |[],_::_,h,_=>absurd (by simp[By]) h
 |_::_,[],_,_=>by simp[By]
 |x::a,y::b,h,hne=>by
  rw[By]at h⊢;by_cases e:B6 x y=0
  ·have e':=cmpI_eqz.1 e
   subst e';rw[if_neg (by simp[e])]at h⊢;exact KJ h λe2=>hne (by rw[e2])
  ·rw[if_pos e]at h
   have hxy:x≠y:=λe2=>e (cmpI_eqz.2 e2)
   have:¬x<y:=λl=>h (cmpI_ltz.2 l)
   have l:B6 y x<0:=cmpI_ltz.2 (by omega);rw[if_pos (by omega)];exact l
structure Ar where
 A:Nat
 G:Nat
 Tb:Nat
 O:Nat
 Tv:Nat
 K:AV->Value->Prop
 g:Int->Option Value
 c:Nat
 kinds:List Kind
 gens:List Int
 ts:List Tab
def Aw(ts:List Tab):List AA:=ts.flatMap Di
abbrev arH(a:Ar):List AA:=[(a.A,.row 143 4 [.agg [A3 false false a.kinds,.sl a.G 0 a.gens.length,.sl a.Tb 0 a.ts.length,.mp a.O]]),(a.G,.row 3 1 (a.gens.map iA)),(a.O,.ob (MapF Tryz.prog 3 145 a.g a.c)),(a.Tv,.tv a.K),(a.Tb,.row 145 1 (ptrs Tab.X a.ts))]
abbrev arS(a:Ar):List AA:=arH a++Aw a.ts
theorem FT(a b:List Tab):Aw (a++b)=Aw a++Aw b:=List.flatMap_append
theorem Me(t:Tab)(b:List Tab):Aw (t::b)=Di t++Aw b:=List.flatMap_cons
theorem Cl{l1 l2:List Tab}{t:Tab}(R:List AA):(Aw (l1++t::l2)++R).Perm (Di t++(Aw l1++(Aw l2++R))):=by
 rw[FT,Me,List.append_assoc,List.append_assoc];exact Bf _ _ _
abbrev A5(ts:List Tab):List Int:=ts.flatMap λt=>AF t.es
def Bc(t:Tab):List Item:=t.es.map λe=>⟨e.2,AL t e.1⟩
def AZ(ts:List Tab):List Item:=ts.flatMap Bc
structure ArOK(a:Ar):Prop where
 tab:∀t∈a.ts,TabOK t
 ord:a.ts.Pairwise λt u=>By t.ks u.ks<0
 keys:(A5 a.ts).Nodup
 ent:∀t∈a.ts,∀e∈t.es,e.1=e.2.n
 g:∀n u,a.g n=some u->∃t∈a.ts,n∈AF t.es/\a.K (.ptr t.X 0 0) u/\∃b:Nat,u= .pointer (some ⟨b,0,none⟩)
 gn:∀n∈A5 a.ts,(a.g n).isSome=true
 cnt:a.c=(A5 a.ts).length
theorem ArOK.lt{a:Ar}(h:ArOK a):∀n∈A5 a.ts,0<=n/\n<256:=λn hn=>by
 obtain⟨t,ht,hm⟩:=List.mem_flatMap.1 hn;exact(h.tab t ht).es.lt n hm
theorem ArOK.c_le{a:Ar}(h:ArOK a):a.c<=256:=by rw[h.cnt];exact Lg h.keys h.lt
def Dn(ts:List Tab):Prop:=∀t∈ts,t.es≠[]
theorem ArOK.ts_le{a:Ar}(h:ArOK a)(hne:Dn a.ts):a.ts.length<=256:=by
 refine Nat.le_trans ?_ h.c_le;rw[h.cnt,A5,List.length_flatMap]
 have:∀ts:List Tab,(∀t∈ts,t.es≠[])->ts.length<=(ts.map λt=>(AF t.es).length).sum:=by
  intro ts
  induction ts with
  |nil=>intro _;simp
  |cons t ts ih=>
   intro hh;have h1:=ih λt ht=>hh t (by simp[ht])
   have h2:0<(AF t.es).length:=by rw[List.length_map];exact List.length_pos_iff.2 (hh t (by simp))
   simp only[List.length_cons,List.map_cons,List.sum_cons];omega
 exact this a.ts hne
theorem ArOK.mono{a:Ar}(h:ArOK a)(ks:List Int):Hh (λt:Tab=>By t.ks ks) a.ts:=by
 intro i j x y hij hx hy hg;rcases Nat.lt_or_eq_of_le hij with hlt|rfl
 ·obtain⟨hi,rfl⟩:=List.getElem?_eq_some_iff.1 hx
  obtain⟨hj,rfl⟩:=List.getElem?_eq_some_iff.1 hy;exact GJ (List.pairwise_iff_getElem.1 h.ord i j hi hj hlt) hg
 ·rw[hx]at hy
  injection hy with hy
  subst hy;exact hg
theorem RM{ts:List Tab}{t:Tab}{ks:List Int}{i:Nat}(h:ts.Pairwise λt u=>By t.ks u.ks<0)(hm:Hh (λt:Tab=>By t.ks ks) ts)(hf:Found (λt:Tab=>By t.ks ks) ts (i,false))(ht:t.ks=ks):(ts.take i++t::ts.drop i).Pairwise λt u=>By t.ks u.ks<0:=by
 obtain⟨hlo,hhi⟩:=hf.mono hm;have heq:=hf.eq;dsimp only at hlo hhi heq
 have h1:∀x∈ts.take i,By x.ks ks<0:=λx hx=>by
  obtain⟨j,hj,rfl⟩:=List.mem_take_iff_getElem.1 hx;exact hlo j _ (by omega) (List.getElem?_eq_getElem (by omega))
 have h2:∀x∈ts.drop i,By ks x.ks<0:=λx hx=>by
  obtain⟨j,hj,rfl⟩:=List.mem_iff_getElem.1 hx;rw[List.length_drop]at hj;rw[List.getElem_drop];have hg:ts[i+j]?=some ts[i+j]:=List.getElem?_eq_getElem (by omega);have hn:=hhi (i+j) _ (by omega) hg;refine KJ hn λe=>?_
  cases j with
  |zero=>
   have:(false:Bool)=true:=heq.2 ⟨ts[i],List.getElem?_eq_getElem (by omega),cmpL_zero.2 e⟩;cases this
  |succ j=>
   have hi':ts[i]?=some ts[i]:=List.getElem?_eq_getElem (by omega);have h3:=List.pairwise_iff_getElem.1 h i (i+(j+1)) (by omega) (by omega) (by omega);rw[e]at h3;exact hhi i _ (Nat.le_refl _) hi' h3
 rw[List.pairwise_append];refine⟨h.sublist (List.take_sublist _ _),List.pairwise_cons.2 ⟨λx hx=>by rw[ht];exact h2 x hx,h.sublist (List.drop_sublist _ _)⟩,λx hx y hy=>?_⟩;rcases List.mem_cons.1 hy with rfl|hy
 ·rw[ht];exact h1 x hx
 ·exact GJ (h1 x hx) (h2 y hy)
theorem Bt(a b:List Tab):A5 (a++b)=A5 a++A5 b:=List.flatMap_append
theorem B7(t:Tab)(b:List Tab):A5 (t::b)=AF t.es++A5 b:=List.flatMap_cons
theorem Bb(a b:List Tab):AZ (a++b)=AZ a++AZ b:=List.flatMap_append
theorem Bi(t:Tab)(b:List Tab):AZ (t::b)=Bc t++AZ b:=List.flatMap_cons
theorem ArOK.newT{a:Ar}(h:ArOK a){t:Tab}{i Y:Nat}(ht:TabOK t)(he:t.es=[])(hf:Found (λu:Tab=>By u.ks t.ks) a.ts (i,false)):ArOK {a with Tb:=Y,ts:=a.ts.take i++t::a.ts.drop i}:=by
 have hk:A5 (a.ts.take i++t::a.ts.drop i)=A5 a.ts:=by
  rw[Bt,B7,he]
  conv=>rhs;rw[<-List.take_append_drop i a.ts,Bt]
  rfl
 have hm:∀u,u∈a.ts.take i++t::a.ts.drop i↔u=t\/u∈a.ts:=λu=>by
  conv=>rhs;rw[<-List.take_append_drop i a.ts]
  simp only[List.mem_append,List.mem_cons];constructor
  ·rintro(h|h|h)
   ·exact .inr (.inl h)
   ·exact .inl h
   ·exact .inr (.inr h)
  ·rintro(h|h|h)
   ·exact .inr (.inl h)
   ·exact .inl h
   ·exact .inr (.inr h)
 refine⟨λu hu=>?_,RM h.ord (h.mono _) hf rfl,by rw[hk];exact h.keys,λu hu=>?_,λn u hg=>?_,λn hn=>h.gn n (by rw[hk]at hn;exact hn),by rw[hk];exact h.cnt⟩
 ·rcases(hm u).1 hu with rfl|hu
  ·exact ht
  ·exact h.tab u hu
 ·rcases(hm u).1 hu with rfl|hu
  ·rw[he];intro e he;cases he
  ·exact h.ent u hu
 ·obtain⟨w,hw,h2⟩:=h.g n u hg
  exact⟨w,(hm w).2 (.inr hw),h2⟩
theorem M1{ts:List Tab}{t:Tab}{i:Nat}(he:t.es=[]):AZ (ts.take i++t::ts.drop i)=AZ ts:=by
 rw[Bb,Bi,Bc,he]
 conv=>rhs;rw[<-List.take_append_drop i ts,Bb]
 rfl
theorem Om{ts:List Tab}{t:Tab}{i:Nat}(he:t.es=[]):A5 (ts.take i++t::ts.drop i)=A5 ts:=by
 rw[Bt,B7,he]
 conv=>rhs;rw[<-List.take_append_drop i ts,Bt]
 rfl
structure CsUp(n:Int)(l:List Comp)(i:Nat)(cs cs':List (StK×List (Int×List Int))):Prop where
 len:cs'.length=cs.length
 X:∀j (h:j<cs.length) (h':j<cs'.length),cs'[j].1.X=cs[j].1.X
 c:∀j (h:j<cs.length) (h':j<cs'.length),cs'[j].2=if j<i then BP cs[j].2 n ((l[j]?.map (·.vals)).getD [])else cs[j].2
theorem CsUp.zero(n:Int)(l:List Comp)(cs:List (StK×List (Int×List Int))):CsUp n l 0 cs cs:=⟨rfl,λ_ _ _=>rfl,λj h h'=>by rw[if_neg (by omega)]⟩
theorem CsUp.ptrs{n:Int}{l:List Comp}{i:Nat}{cs cs':List (StK×List (Int×List Int))}(h:CsUp n l i cs cs'):cs'.map (λc=>AV.ptr c.1.X 0 0)=cs.map (λc=>AV.ptr c.1.X 0 0):=by
 refine List.ext_getElem (by simp[h.len]) λj h1 h2=>?_
 rw[List.getElem_map,List.getElem_map,h.X j (by simpa using h2) (by simpa using h1)]
theorem CsUp.next{n:Int}{l:List Comp}{i:Nat}{cs cs':List (StK×List (Int×List Int))}(h:CsUp n l i cs cs'){l1 l2:List (StK×List (Int×List Int))}{c:StK×List (Int×List Int)}{v:List Int}(e:cs'=l1++c::l2)(h1:l1.length=i)(hv:l[i]?.map (·.vals)=some v)(k:StK)(hk:k.X=c.1.X):CsUp n l (i+1) cs (l1++(k,BP c.2 n v)::l2):=by
 have hlen:=h.len;have hl:cs'.length=l1.length+(l2.length+1):=by rw[e];simp
 have hi':i<cs'.length:=by omega
 have hc:cs'[i]=c:=by
  have:cs'[i]?=some c:=by rw[e,List.getElem?_append_right (by omega),h1,Nat.sub_self];rfl
  rw[List.getElem?_eq_getElem hi']at this;injection this
 have hold:∀j (hj:j<cs'.length),j≠i->(l1++(k,BP c.2 n v)::l2)[j]'(by simp;omega)=cs'[j]:=λj hj hne=>by
  have h3:(l1++(k,BP c.2 n v)::l2)[j]?=cs'[j]?:=by
   rw[e];by_cases hji:j<i
   ·rw[List.getElem?_append_left (by omega),List.getElem?_append_left (by omega)]
   ·rw[List.getElem?_append_right (by omega),List.getElem?_append_right (by omega),show j-l1.length=(j-i-1)+1 by omega]
    rfl
  rw[List.getElem?_eq_getElem hj,List.getElem?_eq_getElem (by simp;omega)]at h3;injection h3
 have hnew:(l1++(k,BP c.2 n v)::l2)[i]'(by simp;omega)=(k,BP c.2 n v):=by
  have h3:(l1++(k,BP c.2 n v)::l2)[i]?=some (k,BP c.2 n v):=by rw[List.getElem?_append_right (by omega),h1,Nat.sub_self];rfl
  rw[List.getElem?_eq_getElem (by simp;omega)]at h3;injection h3
 refine⟨by simp;omega,λj hj hj'=>?_,λj hj hj'=>?_⟩
 ·by_cases hne:j=i
  ·subst hne
   rw[hnew,hk,<-hc];exact h.X j hj hi'
  ·rw[hold j (by omega) hne]
   exact h.X j hj (by omega)
 ·by_cases hne:j=i
  ·subst hne
   have:=h.c j hj hi';rw[if_neg (by omega),hc]at this;rw[hnew,if_pos (by omega),hv,this];rfl
  ·rw[hold j (by omega) hne,h.c j hj (by omega)]
   by_cases hji:j<i
   ·rw[if_pos hji,if_pos (by omega)]
   ·rw[if_neg hji,if_neg (by omega)]
section
section
variable {t:Tab}{e:Ent}{l:List Comp}{cs:List (StK×List (Int×List Int))}{k:StK}
abbrev upT(t:Tab)(k:StK)(e:Ent)(cs:List (StK×List (Int×List Int))):Tab:=⟨t.X,t.ks,k,BP t.es e.n e,cs⟩
theorem CsUp.at{n:Int}{l:List Comp}{i:Nat}{cs cs':List (StK×List (Int×List Int))}(h:CsUp n l i cs cs'){c:StK×List (Int×List Int)}(hc:c∈cs'):∃j,∃h1:j<cs.length,∃h2:j<cs'.length,cs'[j]=c:=by
 obtain⟨j,hj,rfl⟩:=List.getElem_of_mem hc;exact⟨j,by rw[<-h.len];exact hj,hj,rfl⟩
theorem TabOK.up(h:TabOK t)(hn:0<=e.n/\e.n<256)(hf:e.n∉AF t.es)(hu:CsUp e.n l t.cs.length t.cs cs):TabOK (upT t k e cs):=by
 refine⟨by rw[hu.len];exact h.len,h.ks,h.es.put hn e,λc hc=>?_,λc hc n=>?_⟩
 ·obtain⟨j,h1,h2,rfl⟩:=hu.at hc
  rw[hu.c j h1 h2,if_pos h1];exact(h.cs _ (List.getElem_mem h1)).put hn _
 ·obtain⟨j,h1,h2,rfl⟩:=hu.at hc
  have hk:=h.keys _ (List.getElem_mem h1);have hfc:e.n∉AF t.cs[j].2:=λhm=>hf ((hk _).1 hm)
  rw[hu.c j h1 h2,if_pos h1];show n∈AF (BP _ _ _)↔n∈AF (BP t.es e.n e)
  rw[CR hfc,CR hf,AF,AF,List.map_append,List.map_append,List.mem_append,List.mem_append];exact or_congr (hk n) (by simp)
theorem Mi(h:TabOK t)(hn:0<=e.n/\e.n<256)(hu:CsUp e.n l t.cs.length t.cs cs){n:Int}(hne:n≠e.n):AL (upT t k e cs) n=AL t n:=by
 have hlen:=h.len;have hl:=hu.len;refine List.ext_getElem (by simp[AL];omega) λi h1 h2=>?_
 have hc:i<t.cs.length:=by simp[AL]at h2;omega
 have hk:i<t.ks.length:=by omega
 rw[DO h2 hk hc,DO (t:=upT t k e cs) h1 hk (by show i<cs.length;omega)];show(⟨_,(CN (cs[i]'(by omega)).2 n).getD []⟩:Comp)=_
 rw[hu.c i hc (by omega),if_pos hc,FY (h.cs _ (List.getElem_mem hc)) hn,if_neg hne]
theorem Mj(h:TabOK t)(hn:0<=e.n/\e.n<256)(hks:t.ks=l.map (·.kind))(hu:CsUp e.n l t.cs.length t.cs cs):AL (upT t k e cs) e.n=l:=by
 have hlen:=h.len;have hl:=hu.len;have hkl:t.ks.length=l.length:=by rw[hks,List.length_map]
 refine List.ext_getElem (by simp[AL];omega) λi h1 h2=>?_
 have hc:i<t.cs.length:=by omega
 have hk:i<t.ks.length:=by omega
 rw[DO (t:=upT t k e cs) h1 hk (by show i<cs.length;omega)];show(⟨t.ks[i],(CN (cs[i]'(by omega)).2 e.n).getD []⟩:Comp)=_
 rw[hu.c i hc (by omega),if_pos hc,FY (h.cs _ (List.getElem_mem hc)) hn,if_pos rfl,List.getElem?_eq_getElem h2];have:t.ks[i]=l[i].kind:=by simp[hks]
 rw[this];rfl
theorem OS(h:TabOK t)(hn:0<=e.n/\e.n<256)(hf:e.n∉AF t.es)(hks:t.ks=l.map (·.kind))(hu:CsUp e.n l t.cs.length t.cs cs):Bc (upT t k e cs)=Bc t++[⟨e,l⟩]:=by
 unfold Bc;show(BP t.es e.n e).map _=_
 rw[CR hf,List.map_append,List.map_cons,List.map_nil,Mj h hn hks hu]
 congr 1
 refine List.map_congr_left λp hp=>?_
 rw[Mi h hn hu];intro e2;exact hf (by rw[<-e2];exact List.mem_map.2 ⟨p,hp,rfl⟩)
end
theorem ArOK.up{a:Ar}{l1 l2:List Tab}{t:Tab}{e:Ent}{l:List Comp}{cs:List (StK×List (Int×List Int))}{k:StK}{K':AV->Value->Prop}{b:Nat}(h:ArOK a)(hts:a.ts=l1++t::l2)(hn:0<=e.n/\e.n<256)(hf:e.n∉A5 a.ts)(hu:CsUp e.n l t.cs.length t.cs cs)(hK:∀v u,a.K v u->K' v u)(hKt:K' (.ptr t.X 0 0) (.pointer (some ⟨b,0,none⟩))):
  ArOK {a with ts:=l1++upT t k e cs::l2,K:=K',g:=Db a.g e.n (.pointer (some ⟨b,0,none⟩)),c:=a.c+1}:=by
 have htm:t∈a.ts:=by rw[hts];simp
 have hft:e.n∉AF t.es:=λhm=>hf (List.mem_flatMap.2 ⟨t,htm,hm⟩)
 have hmem:∀u,u∈l1++upT t k e cs::l2->u=upT t k e cs\/u∈a.ts:=λu hu=>by
  rw[hts];rcases List.mem_append.1 hu with hu|hu
  ·exact .inr (by simp[hu])
  ·rcases List.mem_cons.1 hu with hu|hu
   ·exact .inl hu
   ·exact .inr (by simp[hu])
 have hke:AF (BP t.es e.n e)=AF t.es++[e.n]:=by rw[CR hft,AF,List.map_append];rfl
 have hkeys:(A5 (l1++upT t k e cs::l2)).Perm (e.n::A5 a.ts):=by
  rw[hts,Bt,B7,Bt,B7];show(A5 l1++(AF (BP t.es e.n e)++A5 l2)).Perm _
  rw[hke,List.append_assoc]
  have:(A5 l1++(AF t.es++([e.n]++A5 l2))).Perm ([e.n]++(A5 l1++(AF t.es++A5 l2))):=by
   refine((Bf (AF t.es) [e.n] (A5 l2)).append_left (A5 l1)).trans ?_;exact Bf _ _ _
  exact this
 refine⟨λu hu'=>?_,?_,hkeys.nodup_iff.2 (List.nodup_cons.2 ⟨hf,h.keys⟩),λu hu'=>?_,λn u hg=>?_,λn hn'=>?_,?_⟩
 ·rcases hmem u hu' with rfl|hu'
  ·exact(h.tab t htm).up hn hft hu
  ·exact h.tab u hu'
 ·have ho:=h.ord
  rw[hts]at ho;rw[List.pairwise_append,List.pairwise_cons]at ho⊢
  exact⟨ho.1,⟨λx hx=>ho.2.1.1 x hx,ho.2.1.2⟩,λx hx y hy=>by
   rcases List.mem_cons.1 hy with rfl|hy
   ·exact ho.2.2 x hx t (by simp)
   ·exact ho.2.2 x hx y (by simp[hy])⟩
 ·rcases hmem u hu' with rfl|hu'
  ·intro p hp
   have hp:p∈BP t.es e.n e:=hp;rw[CR hft]at hp;rcases List.mem_append.1 hp with hp|hp
   ·exact h.ent t htm p hp
   ·rw[List.mem_singleton]at hp
    subst hp;rfl
  ·exact h.ent u hu'
 ·replace hg:(if n=e.n then some (Value.pointer (some ⟨b,0,none⟩))else a.g n)=some u:=hg
  split at hg
  ·rename_i e1
   subst e1;injection hg with hg
   subst hg;refine⟨upT t k e cs,by simp,?_,hKt,b,rfl⟩;show e.n∈AF (BP t.es e.n e)
   rw[hke];simp
  ·obtain⟨w,hw,h2,h3,h4⟩:=h.g n u hg
   rw[hts]at hw;rcases List.mem_append.1 hw with hw|hw
   ·exact⟨w,by simp[hw],h2,hK _ _ h3,h4⟩
   ·rcases List.mem_cons.1 hw with rfl|hw
    ·refine⟨upT w k e cs,by simp,?_,hK _ _ h3,h4⟩
     show n∈AF (BP w.es e.n e)
     rw[hke];simp[h2]
    ·exact⟨w,by simp[hw],h2,hK _ _ h3,h4⟩
 ·have hn':=hkeys.mem_iff.1 hn'
  show(Db a.g e.n _ n).isSome=true
  unfold Db;split
  ·rfl
  ·rename_i hne
   rcases List.mem_cons.1 hn' with e2|hn'
   ·exact absurd e2 hne
   ·exact h.gn n hn'
 ·show a.c+1=_
  rw[hkeys.length_eq,List.length_cons,h.cnt]
theorem P3{l1 l2:List Tab}{t:Tab}{e:Ent}{l:List Comp}{cs:List (StK×List (Int×List Int))}{k:StK}(h:TabOK t)(hn:0<=e.n/\e.n<256)(hf:e.n∉AF t.es)(hks:t.ks=l.map (·.kind))(hu:CsUp e.n l t.cs.length t.cs cs):(AZ (l1++upT t k e cs::l2)).Perm (⟨e,l⟩::AZ (l1++t::l2)):=by
 rw[Bb,Bi,Bb,Bi,OS h hn hf hks hu,List.append_assoc]
 have:(AZ l1++(Bc t++([(⟨e,l⟩:Item)]++AZ l2))).Perm ([(⟨e,l⟩:Item)]++(AZ l1++(Bc t++AZ l2))):=by
  refine((Bf (Bc t) [(⟨e,l⟩:Item)] (AZ l2)).append_left (AZ l1)).trans ?_;exact Bf _ _ _
 exact this
theorem Sm{l1 l2:List Tab}{t:Tab}{e:Ent}{cs:List (StK×List (Int×List Int))}{k:StK}(h1:Dn l1)(h2:Dn l2)(hf:e.n∉AF t.es):Dn (l1++upT t k e cs::l2):=λu hu=>by
 rcases List.mem_append.1 hu with hu|hu
 ·exact h1 u hu
 ·rcases List.mem_cons.1 hu with rfl|hu
  ·show BP t.es e.n e≠[]
   rw[CR hf];simp
  ·exact h2 u hu
end
section
section
variable {P:Program}{ro:Option Nat}{nt:Nat}{c:Code}{Q:Exit->St->Prop}{T:List (Nat×AV)}{S:List AA}
end
abbrev E4(n:Int)(c:StK×List (Int×List Int)):StK×List (Int×List Int):=(c.1,A9 c.2 n)
abbrev C5(t:Tab)(n:Int):Tab:=⟨t.X,t.ks,t.ek,A9 t.es n,t.cs.map (E4 n)⟩
theorem TabOK.down{t:Tab}(h:TabOK t)(n:Int):TabOK (C5 t n):=by
 refine⟨by rw[List.length_map];exact h.len,h.ks,h.es.drop n,λc hc=>?_,λc hc m=>?_⟩
 ·obtain⟨d,hd,rfl⟩:=List.mem_map.1 hc
  exact(h.cs d hd).drop n
 ·obtain⟨d,hd,rfl⟩:=List.mem_map.1 hc
  show m∈AF (A9 d.2 n)↔m∈AF (A9 t.es n)
  rw[C3 (h.cs d hd),C3 h.es,h.keys d hd]
theorem HS{t:Tab}(h:TabOK t){n m:Int}(hne:m≠n):AL (C5 t n) m=AL t m:=by
 have hlen:=h.len;refine List.ext_getElem (by simp[AL]) λi h1 h2=>?_
 have hc:i<t.cs.length:=by simp[AL]at h2;omega
 have hk:i<t.ks.length:=by omega
 rw[DO h2 hk hc,DO (t:=C5 t n) h1 hk (by rw[List.length_map];exact hc)];show(⟨_,(CN ((t.cs.map (E4 n))[i]'(by rw[List.length_map];exact hc)).2 m).getD []⟩:Comp)=_
 rw[List.getElem_map];show(⟨_,(CN (A9 t.cs[i].2 n) m).getD []⟩:Comp)=_
 rw[Mm (h.cs _ (List.getElem_mem hc)) hne]
theorem LF{t:Tab}(h:TabOK t){n:Int}{e:Ent}(hm:(n,e)∈t.es):(Bc t).Perm (⟨e,AL t n⟩::Bc (C5 t n)):=by
 have hp:=Cd h.es hm;have h1:=hp.map λp:Int×Ent=>(⟨p.2,AL t p.1⟩:Item)
 refine h1.trans ?_;rw[List.map_cons];refine List.Perm.cons _ (List.Perm.of_eq ?_);show _=(A9 t.es n).map λp=>(⟨p.2,AL (C5 t n) p.1⟩:Item)
 refine List.map_congr_left λp hp'=>?_
 have hk:p.1∈AF (A9 t.es n):=List.mem_map.2 ⟨p,hp',rfl⟩;rw[HS h ((C3 h.es).1 hk).2]
theorem ArOK.uniq{a:Ar}(h:ArOK a){t u:Tab}(ht:t∈a.ts)(hu:u∈a.ts){n:Int}(h1:n∈AF t.es)(h2:n∈AF u.es):t=u:=by
 obtain⟨l1,l2,e⟩:=List.append_of_mem ht;have hk:=h.keys;rw[e,Bt,B7]at hk;rw[e]at hu;rcases List.mem_append.1 hu with hu|hu
 ·have:n∈A5 l1:=List.mem_flatMap.2 ⟨u,hu,h2⟩
  exact absurd rfl ((List.nodup_append.1 hk).2.2 n this n (List.mem_append_left _ h1))
 ·rcases List.mem_cons.1 hu with rfl|hu
  ·rfl
  ·have:n∈A5 l2:=List.mem_flatMap.2 ⟨u,hu,h2⟩
   exact absurd rfl ((List.nodup_append.1 (List.nodup_append.1 hk).2.1).2.2 n h1 n this)
theorem O3{a:Ar}(h:ArOK a){l1 l2:List Tab}{t:Tab}(hts:a.ts=l1++t::l2){n:Int}{e:Ent}(hm:(n,e)∈t.es):(A5 a.ts).Perm (n::A5 (l1++C5 t n::l2)):=by
 have hto:=h.tab t (by rw[hts];simp);have hp:=(Cd hto.es hm).map (·.1);rw[hts,Bt,B7,Bt,B7];have h1:(A5 l1++(AF t.es++A5 l2)).Perm (A5 l1++((n::AF (A9 t.es n))++A5 l2)):=(hp.append_right _).append_left _;exact h1.trans (Bf (A5 l1) [n] (AF (A9 t.es n)++A5 l2))
theorem ArOK.down{a:Ar}(h:ArOK a){l1 l2:List Tab}{t:Tab}(hts:a.ts=l1++t::l2){n:Int}{e:Ent}(hm:(n,e)∈t.es):ArOK {a with ts:=l1++C5 t n::l2,g:=Ei a.g n,c:=a.c-1}:=by
 have htm:t∈a.ts:=by rw[hts];simp
 have hto:=h.tab t htm;have hkp:=O3 h hts hm
 have hmem:∀u,u∈l1++C5 t n::l2->u=C5 t n\/u∈a.ts:=λu hu=>by
  rw[hts];rcases List.mem_append.1 hu with hu|hu
  ·exact .inr (by simp[hu])
  ·rcases List.mem_cons.1 hu with hu|hu
   ·exact .inl hu
   ·exact .inr (by simp[hu])
 have hnd:=hkp.nodup_iff.1 h.keys;have hnk:n∈AF t.es:=List.mem_map.2 ⟨_,hm,rfl⟩;refine⟨λu hu=>?_,?_,(List.nodup_cons.1 hnd).2,λu hu=>?_,λm u hg=>?_,λm hm'=>?_,?_⟩
 ·rcases hmem u hu with rfl|hu
  ·exact hto.down n
  ·exact h.tab u hu
 ·have ho:=h.ord
  rw[hts]at ho;rw[List.pairwise_append,List.pairwise_cons]at ho⊢
  exact⟨ho.1,⟨λx hx=>ho.2.1.1 x hx,ho.2.1.2⟩,λx hx y hy=>by
   rcases List.mem_cons.1 hy with rfl|hy
   ·exact ho.2.2 x hx t (by simp)
   ·exact ho.2.2 x hx y (by simp[hy])⟩
 ·rcases hmem u hu with rfl|hu
  ·intro p hp
   have:p∈t.es:=(Cd hto.es hm).mem_iff.2 (List.mem_cons_of_mem _ hp);exact h.ent t htm p this
  ·exact h.ent u hu
 ·replace hg:(if m=n then none else a.g m)=some u:=hg
  split at hg
  ·cases hg
  ·rename_i hne
   obtain⟨w,hw,h2,h3,h4⟩:=h.g m u hg;rw[hts]at hw;rcases List.mem_append.1 hw with hw|hw
   ·exact⟨w,by simp[hw],h2,h3,h4⟩
   ·rcases List.mem_cons.1 hw with rfl|hw
    ·refine⟨C5 w n,by simp,?_,h3,h4⟩
     exact(C3 hto.es).2 ⟨h2,hne⟩
    ·exact⟨w,by simp[hw],h2,h3,h4⟩
 ·have hm2:m∈A5 a.ts:=hkp.mem_iff.2 (List.mem_cons_of_mem _ hm')
  have hne:m≠n:=λe=>(List.nodup_cons.1 hnd).1 (by subst e;exact hm')
  show(Ei a.g n m).isSome=true
  unfold Ei;rw[if_neg hne];exact h.gn m hm2
 ·show a.c-1=(A5 (l1++C5 t n::l2)).length
  have:=hkp.length_eq;rw[List.length_cons]at this;have:=h.cnt;omega
theorem ArOK.less{a:Ar}(h:ArOK a){l1 l2:List Tab}{t:Tab}{Y:Nat}(hts:a.ts=l1++t::l2)(he:t.es=[]):ArOK {a with Tb:=Y,ts:=l1++l2}:=by
 have hk:A5 a.ts=A5 (l1++l2):=by rw[hts,Bt,B7,he,Bt];rfl
 have hmem:∀u,u∈l1++l2->u∈a.ts:=λu hu=>by
  rw[hts];rcases List.mem_append.1 hu with hu|hu<;>simp[hu]
 refine⟨λu hu=>h.tab u (hmem u hu),?_,by rw[<-hk];exact h.keys,λu hu=>h.ent u (hmem u hu),λm u hg=>?_,λm hm=>h.gn m (by rw[hk];exact hm),by rw[<-hk];exact h.cnt⟩
 ·have ho:=h.ord
  rw[hts]at ho;exact ho.sublist ((List.Sublist.refl l1).append (List.sublist_cons_self t l2))
 ·obtain⟨w,hw,h2,h3⟩:=h.g m u hg
  rw[hts]at hw;rcases List.mem_append.1 hw with hw|hw
  ·exact⟨w,by simp[hw],h2,h3⟩
  ·rcases List.mem_cons.1 hw with rfl|hw
   ·rw[he]at h2;cases h2
   ·exact⟨w,by simp[hw],h2,h3⟩
theorem Io{a:Ar}(h:ArOK a){l1 l2:List Tab}{t:Tab}(hts:a.ts=l1++t::l2){n:Int}{e:Ent}(hm:(n,e)∈t.es):(AZ a.ts).Perm (⟨e,AL t n⟩::AZ (l1++C5 t n::l2)):=by
 have hto:=h.tab t (by rw[hts];simp);rw[hts,Bb,Bi,Bb,Bi];refine(((LF hto hm).append_right _).append_left _).trans ?_;exact Bf (AZ l1) [(⟨e,AL t n⟩:Item)] (Bc (C5 t n)++AZ l2)
theorem M3{l1 l2:List Tab}{t:Tab}(he:t.es=[]):AZ (l1++t::l2)=AZ (l1++l2):=by
 rw[Bb,Bi,Bc,he,Bb];rfl
end
theorem QW(k:StK)(l:List (Int×Ent)):Spec Tryz.prog 299 [.ptr k.X 0 0] (stE k l) λr S'=>r=iA (l.length:Nat)/\S'=stE k l:=by
 refine Spec.of (nt:=8) (res:=[.tmp 2]) Tryz.func299 rfl (by kernel_rfl) rfl rfl rfl λSf=>?_
 refine RG ?_;(repeat first|refine WO ?_|refine Ai λX=>?_|refine Ay λY=>?_);refine NL ?_;refine FL ?_;refine RG ?_;(repeat first|refine WO ?_|refine Ai λX=>?_|refine Ay λY=>?_);refine NL ?_;refine RT ?_;exact AQ [iA (l.length:Nat)] (stE k l) ⟨rfl,rfl⟩
theorem QG(k:StK)(l:List (Int×Ent))(hl:ColOK l)(n:Int)(hn:I64 n)(v:Ent)(hg:CN l n=some v):Spec Tryz.prog 294 [.ptr k.X 0 0,iA n] (stE k l) λr S'=>r= .tup [Ac v,bA true]/\S'=stE k l:=by
 have hlen:=hl.len;have hk:n∈AF l:=Classical.byContradiction λh=>by rw[DP h]at hg;cases hg
 obtain⟨u,hv⟩:=D7 hk;have hi:=D6 hk;have hg2:CN l n=some u:=by unfold CN;rw[hv];rfl
 rw[hg]at hg2;injection hg2 with hg2
 subst hg2;have hat:(l.map λe=>Ac e.2)[(AF l).idxOf n]?=some (Ac v):=by rw[List.getElem?_map,hv];rfl
 have hix:=Cb hk;obtain⟨i,hi2⟩:∃i,(AF l).idxOf n=i:=⟨_,rfl⟩;rw[hi2]at hi hat hix;have h1:(ixG (AF l) n).getD (.int .i64 0)= .int .i64 (i:Nat):=by rw[hix];rfl
 have h2:(ixG (AF l) n).isSome=true:=by rw[hix];rfl
 refine Spec.of (nt:=28) (res:=[.cell 4 32,.tmp 5]) Tryz.func294 rfl (by kernel_rfl) rfl rfl rfl λSf=>?_
 refine RG ?_;(repeat first|refine WO ?_|refine Ai λZ=>?_|refine Ay λY=>?_);refine NL ?_;refine FL ?_;refine RG ?_;(repeat first|(refine AOps.gN ?_;first|refine AOps.go (h:=DX _ _ h1 h2 hn rfl rfl (by exact At.f)) (k:=?_))|refine WO ?_|refine Ai λX=>?_|refine Ay λY=>?_);refine NL ?_;refine FL ?_;refine RG ?_;(repeat first|refine WO ?_|refine Ai λX=>?_|refine Ay λY=>?_);refine NL ?_;refine FL ?_;refine AE rfl rfl ?_;refine FL ?_;refine RG ?_;(repeat first|(refine AOps.gN ?_;first|refine AOps.go (h:=W.idx rfl rfl (by exact At.f) rfl (by omega) (Nat.zero_add _)) (k:=?_))|refine WO ?_|refine Ai λX=>?_|refine Ay λY=>?_);refine NL ?_;refine RT ?_;exact AQ [Ac v,bA true] (stE k l) ⟨rfl,rfl⟩
theorem QU(k:StK)(l:List (Int×Ent))(hl:ColOK l)(n:Int)(hn:I64 n):Spec Tryz.prog 297 [.ptr k.X 0 0,iA n] (stE k l) λr S'=>r=iA (if n∈AF l then 0 else 4)/\S'=stE k (A9 l n):=by
 have hlen:=hl.len;by_cases hk:n∈AF l
 ·rw[if_pos hk]
  obtain⟨u,hu⟩:=D7 hk;have hi:=D6 hk;obtain⟨⟨en,ev⟩,he⟩:=H4 (l:=l) (by omega);have hdl:=II hk;have hdr:A9 l n=(l.set ((AF l).idxOf n) (en,ev)).take (l.length-1):=by unfold A9;rw[if_pos hk,he]
  rw[hdr]at hdl⊢;have hix:=Cb hk;obtain⟨i,hi2⟩:∃i,(AF l).idxOf n=i:=⟨_,rfl⟩;rw[hi2]at hi hu hix hdl⊢;have hkl:(AF l).length=l.length:=List.length_map _;have hki:(AF l)[i]?=some n:=by rw[AF,List.getElem?_map,hu];rfl
  have hke:(AF l)[(AF l).length-1]?=some en:=by rw[hkl,AF,List.getElem?_map,he];rfl
  have hgd:=Lz hl.nd hki hke;have h1:(ixG (AF l) n).getD (.int .i64 0)= .int .i64 (i:Nat):=by rw[hix];rfl
  have h2:(ixG (AF l) n).isSome=true:=by rw[hix];rfl
  have hem:en∈AF l:=List.mem_of_getElem? hke;have hen:=hl.lt en hem;have h3:(ixG (AF l) en).isSome=true:=by rw[Cb hem];rfl
  have hsz:(if(ixG (AF l) en).isSome then l.length else l.length+1)=l.length:=by rw[h3];rfl
  have h4:(Db (ixG (AF l)) en (.int .i64 (i:Nat)) n).isSome=true:=by
   unfold Db;split
   ·rfl
   ·exact h2
  have hsz2:(if(Db (ixG (AF l)) en (.int .i64 (i:Nat)) n).isSome then l.length else l.length)=l.length:=by split<;>rfl
  have hsz3:(if(Db (ixG (AF l)) en (.int .i64 (i:Nat)) n).isSome then l.length-1 else l.length)=l.length-1:=by rw[h4];rfl
  have hmx:l.length<maxLen:=by unfold maxLen;omega
  have hmi:i<maxLen:=by unfold maxLen;omega
  have hr1:(l.map λe=>iA e.1)[l.length-1]?=some (iA en):=by rw[List.getElem?_map,he];rfl
  have hv1:(l.map λe=>Ac e.2)[l.length-1]?=some (Ac ev):=by rw[List.getElem?_map,he];rfl
  have hrs:(l.map λe=>iA e.1).set i (iA en)=(l.set i (en,ev)).map λe=>iA e.1:=by rw[List.map_set]
  have hvs:(l.map λe=>Ac e.2).set i (Ac ev)=(l.set i (en,ev)).map λe=>Ac e.2:=by rw[List.map_set]
  have hri:((l.set i (en,ev)).map λe=>iA e.1)[i]?=some (iA en):=by rw[List.getElem?_map,List.getElem?_set_self hi];rfl
  have hrl:(l.map λe=>iA e.1).length=l.length:=List.length_map _;have hvl:(l.map λe=>Ac e.2).length=l.length:=List.length_map _
  have hvz:((l.map λe=>Ac e.2).set i (Ac ev))[l.length-1]?=some (Ac ev):=by
   rw[hvs];rw[List.getElem?_map];by_cases h:i=l.length-1
   ·rw[<-h,List.getElem?_set_self hi];rfl
   ·rw[List.getElem?_set_ne h,he];rfl
  have hvt:(((l.map λe=>Ac e.2).set i (Ac ev)).set (l.length-1) (Ac ⟨0,0⟩)).take (l.length-1)=((l.set i (en,ev)).take (l.length-1)).map λe=>Ac e.2:=by
   rw[hvs];rw[List.take_set_of_le (Nat.le_refl _),List.map_take]
  have hrt:((l.set i (en,ev)).map λe=>iA e.1).take (l.length-1)=((l.set i (en,ev)).take (l.length-1)).map λe=>iA e.1:=by rw[List.map_take]
  have hkt:ixG (((AF l).set i en).take ((AF l).length-1))=ixG (AF ((l.set i (en,ev)).take (l.length-1))):=by
   rw[hkl,AF,AF,List.map_take,List.map_set]
  refine Spec.of (nt:=94) (res:=[.tmp 4]) Tryz.func297 rfl (by kernel_rfl) rfl rfl rfl λSf=>?_
  refine RG ?_;(repeat first|refine WO ?_|refine Ai λX=>?_|refine Ay λY=>?_);refine NL ?_;refine FL ?_;refine RG ?_;(repeat first|(refine AOps.gN ?_;first|refine AOps.go (h:=DX _ _ h1 h2 hn rfl rfl (by exact At.f)) (k:=?_))|refine WO ?_|refine Ai λX=>?_|refine Ay λY=>?_);refine NL ?_;refine FL ?_;refine RG ?_;(repeat first|refine WO ?_|refine Ai λX=>?_|refine Ay λY=>?_);refine NL ?_;refine FL ?_;refine AE rfl rfl ?_;refine FL ?_;refine RG ?_;(repeat first|(refine AOps.gN ?_;first|refine AOps.go (h:=AK ((l.length-1:Nat):Int) (by omega) (by omega) rfl rfl) (k:=?_))|refine WO ?_|refine Ai λX=>?_|refine Ay λY=>?_);refine NL ?_;refine FL ?_;refine RU ?_;(repeat first|(refine RGo.gN ?_;first|refine RGo.go (h:=W.idx (a:=l.length-1) rfl rfl (by exact At.f) rfl (by omega) (Nat.zero_add _)) (k:=?_)|refine RGo.go (h:=W.idx (a:=i) rfl rfl (by exact At.f) rfl (by omega) (Nat.zero_add _)) (k:=?_))|(refine RGo.gQ ?_;first|refine RGo.go (h:=W.idx (a:=l.length-1) rfl rfl (by exact At.f) rfl (by omega) (Nat.zero_add _)) (k:=?_)|refine RGo.go (h:=W.idx (a:=i) rfl rfl (by exact At.f) rfl (by omega) (Nat.zero_add _)) (k:=?_))|refine RK ?_|refine RGo.nil (by kernel_rfl) ?_);rw[hrs];refine FL ?_;refine RU ?_;(repeat first|(refine RGo.gN ?_;first|refine RGo.go (h:=W.idx (a:=i) rfl rfl (by exact At.f) rfl (by omega) (Nat.zero_add _)) (k:=?_)|refine RGo.goS (h:=W.mapUpd (PlainV.int (by kernel_rfl) (CM (by omega))) (by omega) hmx rfl rfl rfl (by exact At.f)) (k:=?_))|(refine RGo.gQ ?_;first|refine RGo.go (h:=W.idx (a:=i) rfl rfl (by exact At.f) rfl (by omega) (Nat.zero_add _)) (k:=?_)|refine RGo.goS (h:=W.mapUpd (PlainV.int (by kernel_rfl) (CM (by omega))) (by omega) hmx rfl rfl rfl (by exact At.f)) (k:=?_))|refine RK ?_|refine RGo.nil (by kernel_rfl) ?_);rw[hsz];refine FL ?_;refine RG ?_;(repeat first|(refine AOps.gN ?_;first|refine AOps.goS (h:=W.mapDel hn rfl rfl (by exact At.f)) (k:=?_))|refine WO ?_|refine Ai λX=>?_|refine Ay λY=>?_);refine NL ?_;rw[hsz3,hgd];refine FL ?_;refine RG ?_;(repeat first|refine WO ?_|refine Ai λZ=>?_|refine Ay λY=>?_);refine NL ?_;refine FL ?_;refine RU ?_;(repeat first|(refine RGo.gN ?_;first|refine RGo.go (h:=W.idx (a:=l.length-1) rfl rfl (by exact At.f) rfl (by omega) (Nat.zero_add _)) (k:=?_))|(refine RGo.gQ ?_;first|refine RGo.go (h:=W.idx (a:=l.length-1) rfl rfl (by exact At.f) rfl (by omega) (Nat.zero_add _)) (k:=?_))|refine RK ?_|refine RGo.nil (by kernel_rfl) ?_);refine FL ?_;refine RU ?_;(repeat first|(refine RGo.gN ?_;first|refine RGo.go (h:=W.hi (a:=l.length-1) rfl rfl (by exact At.f) rfl (by omega)) (k:=?_))|(refine RGo.gQ ?_;first|refine RGo.go (h:=W.hi (a:=l.length-1) rfl rfl (by exact At.f) rfl (by omega)) (k:=?_))|refine RK ?_|refine RGo.nil (by kernel_rfl) ?_);refine FL ?_;refine RG ?_;(repeat first|refine WO ?_|refine Ai λX=>?_|refine Ay λY=>?_);refine NL ?_;refine AWP.shrink (X:=k.V) (l.length-1) ?_;refine AWP.shrink (X:=k.R) (l.length-1) ?_;refine AWP.front k.M ?_;refine AWP.front k.R ?_;refine AWP.front k.V ?_;refine AWP.front k.X ?_;refine RT ?_;exact AQ [iA 0] _ ⟨rfl,Ml (n:=l.length-1) (m:=l.length-1) (c:=l.length-1) hdl.symm hdl.symm hvt hrt hkt hdl.symm⟩
 ·rw[if_neg hk,EX hk]
  have hix:=Er hk;have h1:(ixG (AF l) n).getD (.int .i64 0)= .int .i64 0:=by rw[hix];rfl
  have h2:(ixG (AF l) n).isSome=false:=by rw[hix];rfl
  refine Spec.of (nt:=94) (res:=[.tmp 4]) Tryz.func297 rfl (by kernel_rfl) rfl rfl rfl λSf=>?_
  refine RG ?_;(repeat first|refine WO ?_|refine Ai λX=>?_|refine Ay λY=>?_);refine NL ?_;refine FL ?_;refine RG ?_;(repeat first|(refine AOps.gN ?_;first|refine AOps.go (h:=DX _ _ h1 h2 hn rfl rfl (by exact At.f)) (k:=?_))|refine WO ?_|refine Ai λX=>?_|refine Ay λY=>?_);refine NL ?_;refine FL ?_;refine RG ?_;(repeat first|refine WO ?_|refine Ai λX=>?_|refine Ay λY=>?_);refine NL ?_;refine FL ?_;refine AU rfl rfl ?_;(repeat first|refine WK ?_|refine Ai λX=>?_|refine Ay λY=>?_);refine RT ?_;exact AQ [iA 4] (stE k l) ⟨rfl,rfl⟩
theorem QS(k:StK)(l:List (Int×List Int))(hl:ColOK l)(n:Int)(hn:I64 n):Spec Tryz.prog 298 [.ptr k.X 0 0,iA n] (stS k l) λr S'=>r=iA (if n∈AF l then 0 else 4)/\S'=stS k (A9 l n):=by
 have hlen:=hl.len;by_cases hk:n∈AF l
 ·rw[if_pos hk]
  obtain⟨u,hu⟩:=D7 hk;have hi:=D6 hk;obtain⟨⟨en,ev⟩,he⟩:=H4 (l:=l) (by omega);have hdl:=II hk;have hdr:A9 l n=(l.set ((AF l).idxOf n) (en,ev)).take (l.length-1):=by unfold A9;rw[if_pos hk,he]
  rw[hdr]at hdl⊢;have hix:=Cb hk;obtain⟨i,hi2⟩:∃i,(AF l).idxOf n=i:=⟨_,rfl⟩;rw[hi2]at hi hu hix hdl⊢;have hkl:(AF l).length=l.length:=List.length_map _;have hki:(AF l)[i]?=some n:=by rw[AF,List.getElem?_map,hu];rfl
  have hke:(AF l)[(AF l).length-1]?=some en:=by rw[hkl,AF,List.getElem?_map,he];rfl
  have hgd:=Lz hl.nd hki hke;have h1:(ixG (AF l) n).getD (.int .i64 0)= .int .i64 (i:Nat):=by rw[hix];rfl
  have h2:(ixG (AF l) n).isSome=true:=by rw[hix];rfl
  have hem:en∈AF l:=List.mem_of_getElem? hke;have hen:=hl.lt en hem;have h3:(ixG (AF l) en).isSome=true:=by rw[Cb hem];rfl
  have hsz:(if(ixG (AF l) en).isSome then l.length else l.length+1)=l.length:=by rw[h3];rfl
  have h4:(Db (ixG (AF l)) en (.int .i64 (i:Nat)) n).isSome=true:=by
   unfold Db;split
   ·rfl
   ·exact h2
  have hsz2:(if(Db (ixG (AF l)) en (.int .i64 (i:Nat)) n).isSome then l.length else l.length)=l.length:=by split<;>rfl
  have hsz3:(if(Db (ixG (AF l)) en (.int .i64 (i:Nat)) n).isSome then l.length-1 else l.length)=l.length-1:=by rw[h4];rfl
  have hmx:l.length<maxLen:=by unfold maxLen;omega
  have hmi:i<maxLen:=by unfold maxLen;omega
  have hr1:(l.map λe=>iA e.1)[l.length-1]?=some (iA en):=by rw[List.getElem?_map,he];rfl
  have hv1:(l.map λe=>AW false e.2)[l.length-1]?=some (AW false ev):=by rw[List.getElem?_map,he];rfl
  have hrs:(l.map λe=>iA e.1).set i (iA en)=(l.set i (en,ev)).map λe=>iA e.1:=by rw[List.map_set]
  have hvs:(l.map λe=>AW false e.2).set i (AW false ev)=(l.set i (en,ev)).map λe=>AW false e.2:=by rw[List.map_set]
  have hri:((l.set i (en,ev)).map λe=>iA e.1)[i]?=some (iA en):=by rw[List.getElem?_map,List.getElem?_set_self hi];rfl
  have hrl:(l.map λe=>iA e.1).length=l.length:=List.length_map _;have hvl:(l.map λe=>AW false e.2).length=l.length:=List.length_map _
  have hvz:((l.set i (en,ev)).map λe=>AW false e.2)[l.length-1]?=some (AW false ev):=by
   rw[List.getElem?_map];by_cases h:i=l.length-1
   ·rw[<-h,List.getElem?_set_self hi];rfl
   ·rw[List.getElem?_set_ne h,he];rfl
  have hvt:(((l.set i (en,ev)).map λe=>AW false e.2).set (l.length-1) (.prim (.slice none 0 0))).take (l.length-1)=((l.set i (en,ev)).take (l.length-1)).map λe=>AW false e.2:=by
   rw[List.take_set_of_le (Nat.le_refl _),List.map_take]
  have hrt:((l.set i (en,ev)).map λe=>iA e.1).take (l.length-1)=((l.set i (en,ev)).take (l.length-1)).map λe=>iA e.1:=by rw[List.map_take]
  have hkt:ixG (((AF l).set i en).take ((AF l).length-1))=ixG (AF ((l.set i (en,ev)).take (l.length-1))):=by
   rw[hkl,AF,AF,List.map_take,List.map_set]
  refine Spec.of (nt:=94) (res:=[.tmp 4]) Tryz.func298 rfl (by kernel_rfl) rfl rfl rfl λSf=>?_
  refine RG ?_;(repeat first|refine WO ?_|refine Ai λX=>?_|refine Ay λY=>?_);refine NL ?_;refine FL ?_;refine RG ?_;(repeat first|(refine AOps.gN ?_;first|refine AOps.go (h:=DX _ _ h1 h2 hn rfl rfl (by exact At.f)) (k:=?_))|refine WO ?_|refine Ai λX=>?_|refine Ay λY=>?_);refine NL ?_;refine FL ?_;refine RG ?_;(repeat first|refine WO ?_|refine Ai λX=>?_|refine Ay λY=>?_);refine NL ?_;refine FL ?_;refine AE rfl rfl ?_;refine FL ?_;refine RG ?_;(repeat first|(refine AOps.gN ?_;first|refine AOps.go (h:=AK ((l.length-1:Nat):Int) (by omega) (by omega) rfl rfl) (k:=?_))|refine WO ?_|refine Ai λX=>?_|refine Ay λY=>?_);refine NL ?_;refine FL ?_;refine RU ?_;(repeat first|(refine RGo.gN ?_;first|refine RGo.go (h:=W.idx (a:=l.length-1) rfl rfl (by exact At.f) rfl (by omega) (Nat.zero_add _)) (k:=?_)|refine RGo.go (h:=W.idx (a:=i) rfl rfl (by exact At.f) rfl (by omega) (Nat.zero_add _)) (k:=?_))|(refine RGo.gQ ?_;first|refine RGo.go (h:=W.idx (a:=l.length-1) rfl rfl (by exact At.f) rfl (by omega) (Nat.zero_add _)) (k:=?_)|refine RGo.go (h:=W.idx (a:=i) rfl rfl (by exact At.f) rfl (by omega) (Nat.zero_add _)) (k:=?_))|refine RK ?_|refine RGo.nil (by kernel_rfl) ?_);rw[hrs,hvs];refine FL ?_;refine RU ?_;(repeat first|(refine RGo.gN ?_;first|refine RGo.go (h:=W.idx (a:=i) rfl rfl (by exact At.f) rfl (by omega) (Nat.zero_add _)) (k:=?_)|refine RGo.goS (h:=W.mapUpd (PlainV.int (by kernel_rfl) (CM (by omega))) (by omega) hmx rfl rfl rfl (by exact At.f)) (k:=?_))|(refine RGo.gQ ?_;first|refine RGo.go (h:=W.idx (a:=i) rfl rfl (by exact At.f) rfl (by omega) (Nat.zero_add _)) (k:=?_)|refine RGo.goS (h:=W.mapUpd (PlainV.int (by kernel_rfl) (CM (by omega))) (by omega) hmx rfl rfl rfl (by exact At.f)) (k:=?_))|refine RK ?_|refine RGo.nil (by kernel_rfl) ?_);rw[hsz];refine FL ?_;refine RG ?_;(repeat first|(refine AOps.gN ?_;first|refine AOps.goS (h:=W.mapDel hn rfl rfl (by exact At.f)) (k:=?_))|refine WO ?_|refine Ai λX=>?_|refine Ay λY=>?_);refine NL ?_;rw[hsz3,hgd];refine FL ?_;refine RG ?_;(repeat first|refine WO ?_|refine Ai λX=>?_|refine Ay λY=>?_);refine NL ?_;refine FL ?_;refine RG ?_;(repeat first|(refine AOps.gN ?_;first|refine AOps.go (h:=W.idx (a:=l.length-1) rfl rfl (by exact At.f) rfl (by omega) (Nat.zero_add _)) (k:=?_))|refine WO ?_|refine Ai λX=>?_|refine Ay λY=>?_);refine NL ?_;refine FL ?_;refine RU ?_;(repeat first|(refine RGo.gN ?_;first|refine RGo.go (h:=W.hi (a:=l.length-1) rfl rfl (by exact At.f) rfl (by omega)) (k:=?_))|(refine RGo.gQ ?_;first|refine RGo.go (h:=W.hi (a:=l.length-1) rfl rfl (by exact At.f) rfl (by omega)) (k:=?_))|refine RK ?_|refine RGo.nil (by kernel_rfl) ?_);refine FL ?_;refine RG ?_;(repeat first|refine WO ?_|refine Ai λX=>?_|refine Ay λY=>?_);refine NL ?_;refine AWP.shrink (X:=k.V) (l.length-1) ?_;refine AWP.shrink (X:=k.R) (l.length-1) ?_;refine AWP.front k.M ?_;refine AWP.front k.R ?_;refine AWP.front k.V ?_;refine AWP.front k.X ?_;refine RT ?_;exact AQ [iA 0] _ ⟨rfl,Mk (n:=l.length-1) (m:=l.length-1) (c:=l.length-1) hdl.symm hdl.symm hvt hrt hkt hdl.symm⟩
 ·rw[if_neg hk,EX hk]
  have hix:=Er hk;have h1:(ixG (AF l) n).getD (.int .i64 0)= .int .i64 0:=by rw[hix];rfl
  have h2:(ixG (AF l) n).isSome=false:=by rw[hix];rfl
  refine Spec.of (nt:=94) (res:=[.tmp 4]) Tryz.func298 rfl (by kernel_rfl) rfl rfl rfl λSf=>?_
  refine RG ?_;(repeat first|refine WO ?_|refine Ai λX=>?_|refine Ay λY=>?_);refine NL ?_;refine FL ?_;refine RG ?_;(repeat first|(refine AOps.gN ?_;first|refine AOps.go (h:=DX _ _ h1 h2 hn rfl rfl (by exact At.f)) (k:=?_))|refine WO ?_|refine Ai λX=>?_|refine Ay λY=>?_);refine NL ?_;refine FL ?_;refine RG ?_;(repeat first|refine WO ?_|refine Ai λX=>?_|refine Ay λY=>?_);refine NL ?_;refine FL ?_;refine AU rfl rfl ?_;(repeat first|refine WK ?_|refine Ai λX=>?_|refine Ay λY=>?_);refine RT ?_;exact AQ [iA 4] (stS k l) ⟨rfl,rfl⟩
set_option maxHeartbeats 1000000 in
theorem M4(X V n i:Nat)(l:List AV)(e:AV)(hn:n=l.length)(hi:i<=n)(hb:(n+1)*8<=140737488355328)(hfr:FreeL l)(hfe:FreeE e)(hw:∀x∈l,x.width=1)(hwe:e.width=1)(hze:An [e]=[e]):
  Spec Tryz.prog 151 [.sl X 0 n,iA i,.sl V 0 1] [(X,.row 145 1 l),(V,.row 145 1 [e])] λr S'=>r= .lst true 145 1 (l.take i++e::l.drop i)/\S'=[]:=by
 refine Spec.of (nt:=95) (res:=[.tmp 6]) Tryz.func151 rfl (by kernel_rfl) rfl rfl rfl λSf=>?_
 have hfV:FreeL [e]:=λx hx=>by rw[List.mem_singleton.1 hx];exact hfe
 have hwV:∀x∈[e],x.width=1:=λx hx=>by rw[List.mem_singleton.1 hx];exact hwe
 refine RG ?_;(repeat first|refine WO ?_|refine Ai λX=>?_|refine Ay λY=>?_);refine NL ?_;refine RG ?_;(repeat first|(refine AOps.gN ?_;first|refine AOps.p (W.slice_lo rfl rfl (by exact At.f) rfl (by omega)) rfl ?_)|refine WO ?_|refine Ai λX=>?_|refine Ay λY=>?_);refine NL ?_;refine RG ?_;(repeat first|refine WO ?_|refine Ai λX=>?_|refine Ay λY=>?_);refine NL ?_;refine RG ?_;(repeat first|refine WO ?_|refine Ai λX=>?_|refine Ay λY=>?_);refine NL ?_;refine AE rfl rfl ?_;refine RG ?_;(repeat first|refine WO ?_|refine Ai λX=>?_|refine Ay λY=>?_);refine NL ?_;refine RG ?_;(repeat first|refine WO ?_|refine Ai λX=>?_|refine Ay λY=>?_);refine NL ?_;by_cases hin:i=n
 ·refine AU rfl (decide_eq_true (by omega)) ?_
  refine MV 2 [e] hze ?_;have hbb:(n+[e].length)*8<=140737488355328:=hb;(repeat first|refine WK ?_|refine Ai λX=>?_|refine Ay λY=>?_);refine RT ?_;have hm:n+[e].length=(l++[e]).length:=by rw[List.length_append,hn]
  have hr:l++[e]=l.take i++e::l.drop i:=by rw[hin,hn,List.take_length,List.drop_length]
  rw[<-hr];exact⟨[.sl Y 0 (n+[e].length)],[.lst true 145 1 (l++[e])],_,[],.cons (.tmp rfl) rfl .nil,.cons (.cell (.sl (p:=0) .here hm)) .nil,by exact Sub.f,rfl,rfl⟩
 ·refine AE rfl (decide_eq_false (by omega)) ?_
  refine AWP.cap X λZ c u0 hc hnc=>?_
  refine RG ?_;(repeat first|(refine AOps.gN ?_;first|refine AOps.p (W.cap hc rfl (by exact At.f) (by exact At.f)) rfl ?_)|refine WO ?_|refine Ai λX=>?_|refine Ay λY=>?_);refine NL ?_;refine AWP.cond rfl (λhg=>?_) (λhg=>?_)
  ·have hcn:c<n+1:=by rw[decide_eq_true_eq]at hg;omega
   refine AWP.rs λY=>?_
   refine RG ?_;(repeat first|(refine AOps.gN ?_;first|refine AOps.p (W.hi (a:=i) rfl rfl (by exact At.f) rfl hi) rfl ?_|refine AOps.p (AK ((n+1-i:Nat):Int) (by omega) (by omega) rfl rfl) rfl ?_|refine AOps.s (Rz (n+1-i) hc rfl rfl (by exact At.f) (by exact At.f) (by exact At.f) rfl (by exact .inr rfl) (by rfl) (by kernel_rfl) (by omega) (by omega) (by decide) (by omega) (by omega) hfr) rfl ?_)|refine WO ?_|refine Ai λX=>?_|refine Ay λY=>?_);have hsum:i+(n+1-i)=n+1:=by omega
   obtain⟨l1,hl1⟩:∃l1,l.take i++List.replicate (n+1-i) (zAV [.pointer none] false)=l1:=⟨_,rfl⟩;have hti:(l.take i).length=i:=by rw[List.length_take];omega
   have hl1n:l1.length=n+1:=by rw[<-hl1,List.length_append,hti,List.length_replicate,hsum]
   have hfr1:FreeL l1:=λx hx=>by
    rw[<-hl1]at hx;rcases List.mem_append.1 hx with hx|hx
    ·exact hfr x (List.mem_of_mem_take hx)
    ·rw[List.eq_of_mem_replicate hx]
     exact FreeE.prim _
   have htk:l1.take i=l.take i:=by rw[<-hl1,List.take_left' hti]
   rw[hl1,hsum];refine FL ?_;refine RG ?_;(repeat first|(refine AOps.gN ?_;first|refine AOps.p (W.slice_lo rfl rfl (by exact At.f) rfl (by omega)) rfl ?_|refine AOps.s (W.copyO 1 rfl rfl (by exact At.f) (by exact At.f) (by rfl) (by omega) (by omega) (by omega) (by omega) (by exact Nat.le_refl _) hfr1 hfV hwV) rfl ?_)|refine WO ?_|refine Ai λX=>?_|refine Ay λY=>?_);obtain⟨l2,hl2⟩:∃l2,l1.take (0+i)++([e].drop 0).take 1++l1.drop (0+i+1)=l2:=⟨_,rfl⟩;rw[hl2];have hl2n:l2.length=n+1:=by rw[<-hl2];simp only[List.length_append,List.length_take,List.length_drop,List.length_singleton];omega
   have hfr2:FreeL l2:=λx hx=>by
    rw[<-hl2]at hx;rcases List.mem_append.1 hx with hx|hx
    ·rcases List.mem_append.1 hx with hx|hx
     ·exact hfr1 x (List.mem_of_mem_take hx)
     ·exact hfV x (List.mem_of_mem_drop (List.mem_of_mem_take hx))
    ·exact hfr1 x (List.mem_of_mem_drop hx)
   have htk2:l2.take (0+(i+1))=l.take i++[e]:=by
    rw[<-hl2,Nat.zero_add,Nat.zero_add,htk];exact List.take_left' (by simp[hti])
   refine FL ?_;refine RU ?_;(repeat first|(refine RGo.gN ?_;first|refine RGo.go (h:=AT ((i+1:Nat):Int) (by omega) (by omega) rfl rfl) (k:=?_)|refine RGo.go (h:=W.slice_lo rfl rfl (by exact At.f) rfl (by omega)) (k:=?_)|refine RGo.goS (h:=W.copyO (n-i) rfl rfl (by exact At.f) (by exact At.f) (by rfl) (by omega) (by omega) (by omega) (by omega) (by omega) hfr2 hfr hw) (k:=?_))|(refine RGo.gQ ?_;first|refine RGo.go (h:=AT ((i+1:Nat):Int) (by omega) (by omega) rfl rfl) (k:=?_)|refine RGo.go (h:=W.slice_lo rfl rfl (by exact At.f) rfl (by omega)) (k:=?_)|refine RGo.goS (h:=W.copyO (n-i) rfl rfl (by exact At.f) (by exact At.f) (by rfl) (by omega) (by omega) (by omega) (by omega) (by omega) hfr2 hfr hw) (k:=?_))|refine RK ?_|refine RGo.nil (by kernel_rfl) ?_);obtain⟨l3,hl3⟩:∃l3,l2.take (0+(i+1))++(l.drop (0+i)).take (n-i)++l2.drop (0+(i+1)+(n-i))=l3:=⟨_,rfl⟩;rw[hl3]
   have hr:l3=l.take i++e::l.drop i:=by
    have e1:l2.drop (0+(i+1)+(n-i))=[]:=List.drop_of_length_le (by omega);have e2:(l.drop (0+i)).take (n-i)=l.drop i:=by rw[Nat.zero_add];exact List.take_of_length_le (by rw[List.length_drop];omega)
    rw[<-hl3,htk2,e1,e2,List.append_nil,List.append_assoc];rfl
   have hm:n+1=l3.length:=by
    rw[hr];simp only[List.length_append,List.length_cons,List.length_drop,hti];omega
   (repeat first|refine WK ?_|refine Ai λX=>?_|refine Ay λY=>?_);refine RT ?_;rw[<-hr];exact⟨[.sl Y 0 (n+1)],[.lst true 145 1 l3],_,[],.cons (.tmp rfl) rfl .nil,.cons (.cell (.sl (p:=0) .here hm)) .nil,by exact Sub.f,rfl,rfl⟩
  ·have hcn:n+1<=c:=by rw[decide_eq_false_iff_not]at hg;omega
   refine RG ?_;(repeat first|(refine AOps.gN ?_;first|refine AOps.p (Qi (n+1) hc rfl rfl (by exact At.f) (by exact At.f) (by omega) hcn) rfl ?_)|refine WO ?_|refine Ai λX=>?_|refine Ay λY=>?_);refine NL ?_;refine RG ?_;(repeat first|(refine AOps.gN ?_;first|refine AOps.p (AT ((i+1:Nat):Int) (by omega) (by omega) rfl rfl) rfl ?_|refine AOps.p (W.slice_lo rfl rfl (by exact At.f) rfl (by omega)) rfl ?_)|refine WO ?_|refine Ai λX=>?_|refine Ay λY=>?_);refine AOps.p (W.over (t:=141) (tR:=4) Tryz.func210 (by kernel_rfl) (by kernel_rfl) (by kernel_rfl) (by kernel_rfl) rfl rfl (by exact At.f) (by exact At.f) (by rfl) (by decide) (by omega) (by omega)) rfl ?_;(repeat first|refine WO ?_|refine Ai λX=>?_|refine Ay λY=>?_);refine FL ?_;refine AU rfl rfl ?_;refine RU ?_;(repeat first|(refine RGo.gN ?_;first|refine RGo.go (h:=AT ((i+1:Nat):Int) (by omega) (by omega) rfl rfl) (k:=?_)|refine RGo.go (h:=W.slice_lo rfl rfl (by exact At.f) rfl (by omega)) (k:=?_)|refine RGo.goS (h:=W.copyS (n-i) rfl rfl (by exact At.f) (by omega) (by omega) (by omega) (by omega) (by omega) hfr hw) (k:=?_))|(refine RGo.gQ ?_;first|refine RGo.go (h:=AT ((i+1:Nat):Int) (by omega) (by omega) rfl rfl) (k:=?_)|refine RGo.go (h:=W.slice_lo rfl rfl (by exact At.f) rfl (by omega)) (k:=?_)|refine RGo.goS (h:=W.copyS (n-i) rfl rfl (by exact At.f) (by omega) (by omega) (by omega) (by omega) (by omega) hfr hw) (k:=?_))|refine RK ?_|refine RGo.nil (by kernel_rfl) ?_);have hti:(l.take i).length=i:=by rw[List.length_take];omega
   obtain⟨l1,hl1⟩:∃l1,l.take (0+(i+1))++(l.drop (0+i)).take (n-i)++l.drop (0+(i+1)+(n-i))=l1:=⟨_,rfl⟩;rw[hl1];have hti1:(l.take (i+1)).length=i+1:=by rw[List.length_take];omega
   have hl1e:l1=l.take (i+1)++l.drop i:=by
    have e1:l.drop (0+(i+1)+(n-i))=[]:=List.drop_of_length_le (by omega);have e2:(l.drop (0+i)).take (n-i)=l.drop i:=by rw[Nat.zero_add];exact List.take_of_length_le (by rw[List.length_drop];omega)
    rw[<-hl1,e1,e2,List.append_nil,Nat.zero_add]
   have hfr1:FreeL l1:=λx hx=>by
    rw[hl1e]at hx;rcases List.mem_append.1 hx with hx|hx
    ·exact hfr x (List.mem_of_mem_take hx)
    ·exact hfr x (List.mem_of_mem_drop hx)
   have hl1n:l1.length=n+1:=by rw[hl1e,List.length_append,hti1,List.length_drop];omega
   have htk:l1.take i=l.take i:=by rw[hl1e,List.take_append_of_le_length (by omega),List.take_take,Nat.min_eq_left (by omega)]
   have hdr:l1.drop (i+1)=l.drop i:=by rw[hl1e,List.drop_left' hti1]
   refine RG ?_;(repeat first|(refine AOps.gN ?_;first|refine AOps.p (W.slice_lo rfl rfl (by exact At.f) rfl (by omega)) rfl ?_|refine AOps.s (W.copyO 1 rfl rfl (by exact At.f) (by exact At.f) (by rfl) (by omega) (by omega) (by omega) (by omega) (by exact Nat.le_refl _) hfr1 hfV hwV) rfl ?_)|refine WO ?_|refine Ai λX=>?_|refine Ay λY=>?_);obtain⟨l2,hl2⟩:∃l2,l1.take (0+i)++([e].drop 0).take 1++l1.drop (0+i+1)=l2:=⟨_,rfl⟩;rw[hl2]
   have hr:l2=l.take i++e::l.drop i:=by
    rw[<-hl2,Nat.zero_add,htk,hdr,List.append_assoc];rfl
   have hm:n+1=l2.length:=by
    rw[hr];simp only[List.length_append,List.length_cons,List.length_drop,hti];omega
   refine FL ?_;(repeat first|refine WK ?_|refine Ai λX=>?_|refine Ay λY=>?_);refine RT ?_;rw[<-hr];exact⟨[.sl X 0 (n+1)],[.lst true 145 1 l2],_,[],.cons (.tmp rfl) rfl .nil,.cons (.cell (.sl (p:=1) (.next .here) hm)) .nil,by exact Sub.f,rfl,rfl⟩
instance tPtrT:TPtr Tryz.prog 145:=⟨151,by kernel_rfl,by kernel_rfl⟩
instance mapIT:TMap Tryz.prog 140 3 145 (.pointer none):=⟨by kernel_rfl,by kernel_rfl,λw=>by kernel_rfl,PlainV.nil (te:=151) (by kernel_rfl)⟩
theorem LX(x:Nat):FreeE (.ptr x 0 0):=λm c bs k=>by
 simp only[VC]at k;exact k.1
theorem Pg(A B1 B2 C Z:List AA):(A++(B1++(B2++(C++Z)))).Perm (B1++(B2++((C++(A++[]))++Z))):=by
 rw[List.append_nil];have:=Bf A (B1++(B2++C)) Z;simpa[List.append_assoc]using this
theorem Spec.tt{P:Program}{f:FuncId}{args:List AV}{S:List AA}{β:Type}{r:β->AV}{So:β->List AA}(h:Spec P f args S λr' S'=>∃q,r'=r q/\S'=So q):Spec P f args S λr' S'=>∃q,(λ_:β=>True) q/\r'=r q/\S'=So q:=h.mono λr' S' ⟨q,h⟩=>⟨q,trivial,h⟩
theorem ON{ts:List Tab}{t:Tab}(h:t∈ts):∃R,(Aw ts).Perm ([DM t]++R):=by
 obtain⟨l1,l2,rfl⟩:=List.append_of_mem h;refine⟨(stE t.ek t.es++BM t.cs)++(Aw l1++Aw l2),?_⟩;have:=Cl (l1:=l1) (l2:=l2) (t:=t) [];simp only[List.append_nil]at this;exact this
theorem Qg(ts:List Tab)(t:Tab)(ht:t∈ts)(ks:List Int)(hl:t.ks.length<=1099511627776):Spec Tryz.prog 147 [.ptr t.X 0 0,AW false ks] (Aw ts) λr S'=>r=iA (By t.ks ks)/\S'=Aw ts:=by
 obtain⟨R,hp⟩:=ON ht;refine Spec.perm ((Ry t ks hl).beside R) hp λr S' hq=>?_
 obtain⟨S1,e1,e2,e3⟩:=hq;refine⟨Aw ts,?_,e2,rfl⟩;rw[e1,e3];exact hp.symm
set_option maxRecDepth 8000 in
set_option maxHeartbeats 4000000 in
theorem JK(a:Ar)(e:Ent)(l:List Comp)(ha:ArOK a)(hne:Dn a.ts)(hn:0<=e.n/\e.n<256)(hf:e.n∉A5 a.ts)(hl:l.length<=16):
  Spec Tryz.prog 73 [.ptr a.A 0 0,Ac e,As false false l] (arS a) λr S'=>∃b:Ar,(ArOK b/\Dn b.ts/\b.A=a.A/\b.kinds=a.kinds/\b.gens=a.gens/\(AZ b.ts).Perm (⟨e,l⟩::AZ a.ts))/\r= .tup []/\S'=arS b:=by
 obtain⟨ks,hks⟩:∃ks,l.map (·.kind)=ks:=⟨_,rfl⟩;have hkl:ks.length=l.length:=by rw[<-hks,List.length_map]
 have hkm:(ks.map iA).length=ks.length:=List.length_map _;have hko:=Mz l (by omega);rw[hks]at hko;have htl:=ha.ts_le hne;have hsr:=Mq a.Tb a.ts Tab.X (Aw a.ts) ks 147 (λt:Tab=>By t.ks ks) (by omega) (λt ht=>Qg a.ts t ht ks (by have:=(ha.tab t ht).ks;omega));refine Spec.of (nt:=98) (res:=[]) Tryz.func73 rfl (by kernel_rfl) rfl rfl rfl λSf=>?_
 refine RG ?_;(repeat first|refine WO ?_|refine Ai λB=>?_|refine Ay λY=>?_);refine NL ?_;refine FL ?_;refine RG ?_;(repeat first|(refine AOps.gN ?_;first|(refine AOps.g_callf ?_;first|refine AOps.c1 (h:=(hko ..)) (k:=?_)))|refine WO ?_|refine Ai λX=>?_|refine Ay λY=>?_);refine NL ?_;refine FL ?_;refine RG ?_;(repeat first|(refine AOps.gN ?_;first|refine DK [_,_,_,_,_] (h:=hsr) λb hb=>?_)|refine WO ?_|refine Ai λX=>?_|refine Ay λY=>?_);obtain⟨i,fd⟩:=b;dsimp only;(repeat first|refine WO ?_|refine Ai λX=>?_|refine Ay λY=>?_);refine AOps.nil ?_;refine FL ?_;refine RG ?_;(repeat first|refine WO ?_|refine Ai λX=>?_|refine Ay λY=>?_);refine NL ?_;refine FL ?_;refine Ek (λz:Ar×List Tab×Tab×List Tab=>ArOK z.1/\z.1.ts=z.2.1++z.2.2.1::z.2.2.2/\z.2.2.1.ks=ks/\Dn z.2.1/\Dn z.2.2.2/\z.2.1.length=i/\z.1.A=a.A/\z.1.kinds=a.kinds/\z.1.gens=a.gens/\A5 z.1.ts=A5 a.ts/\AZ z.1.ts=AZ a.ts) (λz=>⟨[(0,.ptr a.A 0 0),(2,As false false l),(4,.ptr B 0 0),(7,iA i)],(B,.row 32 2 [Ac e])::(arS z.1++Sf)⟩) ?_ ?_
 ·cases fd with
  |true=>
   refine AE rfl rfl ?_;obtain⟨t,ht,hz⟩:=hb.eq.1 rfl;obtain⟨hi,rfl⟩:=List.getElem?_eq_some_iff.1 ht;obtain⟨l1,l2,e1,e2⟩:=EY hi;have h1:Dn l1:=λu hu=>hne u (by rw[e1];simp[hu])
   have h2:Dn l2:=λu hu=>hne u (by rw[e1];simp[hu])
   (repeat first|refine WK ?_|refine Ai λX=>?_|refine Ay λY=>?_);refine jnR (a,l1,a.ts[i],l2) ⟨ha,e1,cmpL_zero.1 hz,h1,h2,e2,rfl,rfl,rfl,rfl,rfl⟩ ⟨by exact Lk.f,?_⟩;simp only[arS,List.cons_append,List.nil_append];exact List.Sublist.refl _
  |false=>
   refine AU rfl rfl ?_;refine FL ?_;refine RG ?_;(repeat first|(refine AOps.gN ?_;first|refine OE (C:=λ_=>True) [] (h:=newE_sp.mono λr' S' ⟨k,e1,e2⟩=>⟨k,trivial,e1,e2⟩) λek _=>?_)|refine WO ?_|refine Ai λX=>?_|refine Ay λY=>?_);refine AOps.nil ?_;refine FL ?_;refine AWP.adoptIn (Y:=X) 252 1 .here (λC=>.cons (.agg (.cons .same (.cons .same (.cons (.base .nil) .nil)))) .nil) λC=>?_
   refine RG ?_;(repeat first|refine WO ?_|refine Ai λX=>?_|refine Ay λY=>?_);refine NL ?_;refine FL ?_;refine AWP.front ek.M ?_;refine AWP.front ek.R ?_;refine AWP.front ek.V ?_;refine AWP.front ek.X ?_;refine AWP.front B ?_;refine AWP.front X ?_;refine AWP.front C ?_;refine CB (λ(j C:Nat) (cs:List (StK×List (Int×List Int)))=>⟨[(0,.ptr a.A 0 0),(2,As false false l),(4,.ptr B 0 0),(6,AW false ks),(7,iA i),(9,.ptr X 0 0),(31,iA (ks.map iA).length),(32,iA j)],(C,.row 252 1 (cs.map λc=>.ptr c.1.X 0 0))::(X,.row 151 3 [.agg [AW false ks,.ptr ek.X 0 0,.sl C 0 cs.length]])::(B,.row 32 2 [Ac e])::(stE ek []++(arH a++(BM cs++(Aw a.ts++Sf))))⟩) (λj C cs=>j<=ks.length/\cs.length=j/\∀c∈cs,c.2=[]) (λj _ _=>ks.length-j) 0 C [] ⟨by omega,rfl,by simp⟩ ?_;rintro j C cs ⟨hj,hcl,hce⟩;have hpl:(cs.map λc=>AV.ptr c.1.X 0 0).length=cs.length:=List.length_map _;refine RG ?_;(repeat first|refine WO ?_|refine Ai λX=>?_|refine Ay λY=>?_);refine NL ?_;refine FL ?_;refine AWP.cond rfl (λh=>?_) (λh=>?_)
   ·have h:j<ks.length:=by rw[decide_eq_true_eq,hkm]at h;omega
    refine FL ?_;refine AWP.rs λY1=>AWP.rs λY2=>AWP.rs λY3=>AWP.rs λY4=>AWP.rs λY5=>?_
    (repeat refine WF ?_);refine Hz (by kernel_rfl) (by kernel_rfl) ?_;(repeat refine RGoE.go ?_);refine R2 Y1 Y2 Y3 Y4 ⟨0,0,0,0⟩ RN λk=>?_
    (repeat first|(refine RGo.gN ?_;first|(refine RGo.g_lit ?_;refine RGo.goL (AV.ptr k.X 0 0) ?_))|(refine RGo.gQ ?_;first|(refine RGo.g_lit ?_;refine RGo.goL (AV.ptr k.X 0 0) ?_))|refine RK ?_|refine RGo.nil (by kernel_rfl) ?_);have hma:(cs.map λc=>AV.ptr c.1.X 0 0)++[AV.ptr k.X 0 0]=(cs++[(k,([]:List (Int×List Int)))]).map λc=>AV.ptr c.1.X 0 0:=by rw[List.map_append];rfl
    have hml:cs.length+[AV.ptr k.X 0 0].length=(cs++[(k,([]:List (Int×List Int)))]).length:=by rw[List.length_append];rfl
    rw[hma,hml];refine FL ?_;refine AWP.front k.M ?_;refine AWP.front k.R ?_;refine AWP.front k.V ?_;refine AWP.front k.X ?_;refine AWP.front B ?_;refine AWP.front C ?_;refine AWP.front X ?_;refine AWP.front Y5 ?_;refine AWP.perm (S':=(Y5,.row 252 1 ((cs++[(k,([]:List (Int×List Int)))]).map λc=>AV.ptr c.1.X 0 0))::(X,.row 151 3 [.agg [AW false ks,.ptr ek.X 0 0,.sl Y5 0 (cs++[(k,([]:List (Int×List Int)))]).length]])::(C,.used)::(B,.row 32 2 [Ac e])::(stE ek []++(arH a++(BM (cs++[(k,([]:List (Int×List Int)))])++(Aw a.ts++Sf))))) ?_ ?_
    ·refine List.Perm.cons _ (List.Perm.cons _ (List.Perm.cons _ (List.Perm.cons _ ?_)))
     rw[Cq,Ck];exact Pg (stS k []) (stE ek []) (arH a) (BM cs) (Aw a.ts++Sf)
    ·refine RG ?_;(repeat first|refine WO ?_|refine Ai λX=>?_|refine Ay λY=>?_);refine NL ?_
     exact BR (j+1) Y5 (cs++[(k,[])]) ⟨by omega,by rw[List.length_append,hcl];rfl,λc hc=>by
      rcases List.mem_append.1 hc with hc|hc
      ·exact hce c hc
      ·rw[List.mem_singleton]at hc;subst hc;rfl⟩ (by omega)
   ·have h:j=ks.length:=by rw[decide_eq_false_iff_not,hkm]at h;omega
    have hF:An (((cs.map λc=>AV.ptr c.1.X 0 0).drop 0).take cs.length)=cs.map λc=>AV.ptr c.1.X 0 0:=by
     rw[List.drop_zero,List.take_of_length_le (by omega),D9,List.map_map];rfl
    refine FL ?_;refine AWP.iceIn (X:=C) (Y:=X) .here (.next .here) rfl (.cons (.agg (.cons .same (.cons .same (.cons (.base (.sl (by omega))) .nil)))) .nil) ?_;rw[hF];have hi:=hb.le;dsimp only at hi;have hpt:(ptrs Tab.X a.ts).length=a.ts.length:=List.length_map _;refine AWP.rs λY=>AWP.rs λK2=>?_
    refine RG ?_;(repeat first|(refine AOps.gN ?_;first|refine AOps.s (W.lit1 (X:=K2) (l:=[.ptr X 0 0]) (by exact rfl) (by exact At.f) (by exact rfl) (by exact .inr rfl) (by decide) (by decide) (by exact rfl)) rfl ?_)|refine WO ?_|refine Ai λX=>?_|refine Ay λY=>?_);have hfq:FreeL (ptrs Tab.X a.ts):=λx hx=>by obtain⟨y,_,rfl⟩:=List.mem_map.1 hx;exact LX _
    have hwq:∀x∈ptrs Tab.X a.ts,x.width=1:=λx hx=>by obtain⟨y,_,rfl⟩:=List.mem_map.1 hx;rfl
    have hins:=(M4 a.Tb K2 a.ts.length i (ptrs Tab.X a.ts) (.ptr X 0 0) hpt.symm hi (by omega) hfq (LX _) hwq rfl rfl).used2;refine R5 (h:=hins) (hT:=.ls (Y:=Y)) (k:=?_);(repeat first|refine WO ?_|refine Ai λX=>?_|refine Ay λY=>?_);obtain⟨t',ht'⟩:∃t':Tab,t'=⟨X,ks,ek,[],cs⟩:=⟨_,rfl⟩
    have hrow:(ptrs Tab.X a.ts).take i++ .ptr X 0 0::(ptrs Tab.X a.ts).drop i=ptrs Tab.X (a.ts.take i++t'::a.ts.drop i):=by
     rw[ptrs,ptrs,List.map_append,List.map_take,List.map_cons,List.map_drop,ht']
    have hrl:(ptrs Tab.X (a.ts.take i++t'::a.ts.drop i)).length=(a.ts.take i++t'::a.ts.drop i).length:=List.length_map _;rw[hrow,hrl];dsimp only[AR,List.set_cons_zero,List.set_cons_succ,List.cons_append,List.nil_append];refine AOps.front ek.M ?_;refine AOps.front ek.R ?_;refine AOps.front ek.V ?_;refine AOps.front ek.X ?_;refine AOps.front X ?_;refine AOps.front Y ?_;refine AOps.front a.Tv ?_;refine AOps.front a.O ?_;refine AOps.front a.G ?_;refine AOps.front a.A ?_;refine AOps.front B ?_;refine AOps.front a.Tb ?_;refine AOps.front C ?_;refine AOps.front K2 ?_;obtain⟨a',ha'⟩:∃a':Ar,a'={a with Tb:=Y,ts:=a.ts.take i++t'::a.ts.drop i}:=⟨_,rfl⟩
    have htok:TabOK t':=by
     rw[ht'];exact⟨by dsimp only;omega,by dsimp only;omega,⟨List.nodup_nil,by simp⟩,λc hc=>by rw[hce c hc];exact⟨List.nodup_nil,by simp⟩,λc hc n=>by rw[hce c hc];exact Iff.rfl⟩
    have hte:t'.es=[]:=by rw[ht']
    have htk:t'.ks=ks:=by rw[ht']
    have hb':Found (λu:Tab=>By u.ks t'.ks) a.ts (i,false):=by rw[htk];exact hb
    have hok:ArOK a':=by rw[ha'];exact ha.newT htok hte hb'
    refine AOps.perm (S':=(K2,.used)::(C,.used)::(a.Tb,.used)::(B,.row 32 2 [Ac e])::(arS a'++Sf)) ?_ ?_
    ·refine List.Perm.cons _ (List.Perm.cons _ (List.Perm.cons _ (List.Perm.cons _ ?_)))
     subst ha';refine List.Perm.cons _ (List.Perm.cons _ (List.Perm.cons _ (List.Perm.cons _ (List.Perm.cons _ ?_))));have hz:=Cl (l1:=a.ts.take i) (l2:=a.ts.drop i) (t:=t') Sf;have hz2:Aw (a.ts.take i)++(Aw (a.ts.drop i)++Sf)=Aw a.ts++Sf:=by rw[<-List.append_assoc,<-FT,List.take_append_drop]
     rw[hz2]at hz;subst ht';exact hz.symm
    ·refine AOps.nil ?_
     refine FL ?_;subst ha';refine jnR ({a with Tb:=Y,ts:=a.ts.take i++t'::a.ts.drop i},a.ts.take i,t',a.ts.drop i) ⟨hok,rfl,htk,λu hu=>hne u (List.mem_of_mem_take hu),λu hu=>hne u (List.mem_of_mem_drop hu),by rw[List.length_take];omega,rfl,rfl,rfl,Om hte,M1 hte⟩ ⟨by exact Lk.f,?_⟩;exact .cons _ (.cons _ (.cons _ (.refl _)))
 ·rintro⟨a',l1,t,l2⟩ ⟨hok,hts,htk,hn1,hn2,hil,hA,hki,hge,hke,hit⟩
  dsimp only at hok hts htk hn1 hn2 hil hA hki hge hke hit⊢;rw[<-hA];obtain⟨Z,hZ⟩:∃Z,Aw l1++(Aw l2++Sf)=Z:=⟨_,rfl⟩;have hop:=Cl (l1:=l1) (l2:=l2) (t:=t) Sf;rw[<-hts,hZ]at hop;refine AWP.perm (S':=(B,.row 32 2 [Ac e])::(arH a'++(Di t++Z))) ?_ ?_
  ·refine List.Perm.cons _ ?_
   rw[arS,List.append_assoc];exact hop.append_left _
  have htm:t∈a'.ts:=by rw[hts];simp
  have hto:=hok.tab t htm
  have hat:(ptrs Tab.X a'.ts)[i]?=some (.ptr t.X 0 0):=by
   rw[List.getElem?_map,hts,List.getElem?_append_right (by omega),hil,Nat.sub_self];rfl
  have hil2:i<a'.ts.length:=by rw[hts,List.length_append,List.length_cons];omega
  have hft:e.n∉AF t.es:=λhm=>hf (by rw[<-hke];exact List.mem_flatMap.2 ⟨t,htm,hm⟩)
  have hpe:=(QV t.ek t.es hto.es e.n e hn).tt;have hlm:(l.map (AG false)).length=l.length:=List.length_map _;have hlc:t.cs.length=l.length:=by rw[<-hto.len,htk,hkl]
  refine FL ?_;refine RG ?_;(repeat first|(refine AOps.gN ?_;first|refine AOps.go (h:=W.idx rfl rfl (by exact At.f) rfl (by omega) (Nat.zero_add _)) (k:=?_))|refine WO ?_|refine Ai λX=>?_|refine Ay λY=>?_);refine NL ?_;refine FL ?_;(repeat refine WF ?_);refine Cz 7 (by kernel_rfl) (by kernel_rfl) (by kernel_rfl) ?_;dsimp only[List.take,List.drop];(repeat first|refine RK ?_|refine RGo.nil (by kernel_rfl) ?_);refine DK [_,_,_,_,_,_,_] (h:=hpe) λq _=>?_
  refine AOps.nil ?_;obtain⟨k',hk'⟩:∃k':StK,k'=⟨t.ek.X,q.1,q.2,t.ek.M⟩:=⟨_,rfl⟩;rw[<-hk'];refine FL ?_;refine RG ?_;(repeat first|refine WO ?_|refine Ai λX=>?_|refine Ay λY=>?_);refine NL ?_;refine FL ?_;refine BH (λ(j:Nat) (cs:List (StK×List (Int×List Int)))=>⟨[(0,.ptr a'.A 0 0),(4,.ptr B 0 0),(10,.ptr t.X 0 0),(71,As false false l),(72,iA (l.map (AG false)).length),(73,iA j)],(B,.row 32 2 [Ac e])::(arH a'++(DM t::(stE k' (BP t.es e.n e)++(BM cs++Z))))⟩) (λj cs=>j<=l.length/\CsUp e.n l j t.cs cs) (λj _=>l.length-j) 0 t.cs ⟨by omega,.zero _ _ _⟩ ?_;rintro j cs ⟨hj,hcs⟩;have hcl:=hcs.len;have hcp:=hcs.ptrs;refine RG ?_;(repeat first|refine WO ?_|refine Ai λX=>?_|refine Ay λY=>?_);refine NL ?_;refine FL ?_;refine AWP.cond rfl (λh=>?_) (λh=>?_)
  ·have h:j<l.length:=by rw[decide_eq_true_eq,hlm]at h;omega
   have hjc:j<cs.length:=by omega
   have hjt:j<t.cs.length:=by omega
   have hlat:(l.map (AG false))[j]?=some (AG false l[j]):=Am _ h;have hlil:j<(l.map (AG false)).length:=by omega
   have hcat:(t.cs.map λc=>AV.ptr c.1.X 0 0)[j]?=some (.ptr cs[j].1.X 0 0):=by rw[<-hcp];exact Am _ hjc
   have hcil:j<(t.cs.map λc=>AV.ptr c.1.X 0 0).length:=by rw[List.length_map];omega
   have hcj:cs[j].2=t.cs[j].2:=by rw[hcs.c j hjt hjc,if_neg (by omega)]
   have hcok:ColOK cs[j].2:=by rw[hcj];exact hto.cs _ (List.getElem_mem hjt)
   obtain⟨m1,m2,hsp,hm1⟩:=EY hjc;have hlj:l[j]?=some l[j]:=List.getElem?_eq_getElem h;obtain⟨⟨ck,cv⟩,hce⟩:∃c,l[j]=c:=⟨_,rfl⟩;rw[hce]at hlat hlj;obtain⟨c,hcc⟩:∃c,cs[j]=c:=⟨_,rfl⟩;rw[hcc]at hcat hcok hsp;have hpu:=(MI c.1 c.2 hcok e.n cv hn).tt;refine FL ?_;refine RG ?_;(repeat first|refine WO ?_|refine Ai λC=>?_|refine Ay λY=>?_);refine NL ?_;refine FL ?_
   have heq:(C,AO.row 42 2 [AG false ⟨ck,cv⟩])::(B,AO.row 32 2 [Ac e])::(arH a'++(DM t::(stE k' (BP t.es e.n e)++(BM cs++Z))))=((C,AO.row 42 2 [AG false ⟨ck,cv⟩])::(B,AO.row 32 2 [Ac e])::(arH a'++(DM t::(stE k' (BP t.es e.n e)++BM m1))))++(stS c.1 c.2++(BM m2++Z)):=by
    rw[hsp,Cq,Ck];simp only[List.cons_append,List.append_assoc,List.nil_append]
   (repeat refine WF ?_);refine Cz 11 (by kernel_rfl) (by kernel_rfl) (by kernel_rfl) ?_;dsimp only[List.take,List.drop];(repeat first|refine RK ?_|refine RGo.nil (by kernel_rfl) ?_);refine DK _ (h:=hpu) (k:=λq2 _=>?_) (hp:=heq)
   have heq2:((C,AO.row 42 2 [AG false ⟨ck,cv⟩])::(B,AO.row 32 2 [Ac e])::(arH a'++(DM t::(stE k' (BP t.es e.n e)++BM m1))))++(stS ⟨c.1.X,q2.1,q2.2,c.1.M⟩ (BP c.2 e.n cv)++(BM m2++Z))=(C,AO.row 42 2 [AG false ⟨ck,cv⟩])::(B,AO.row 32 2 [Ac e])::(arH a'++(DM t::(stE k' (BP t.es e.n e)++(BM (m1++((⟨c.1.X,q2.1,q2.2,c.1.M⟩:StK),BP c.2 e.n cv)::m2)++Z)))):=by
    rw[Cq,Ck];simp only[List.cons_append,List.append_assoc,List.nil_append]
   refine AOps.perm (List.Perm.of_eq heq2) ?_;refine AOps.nil ?_;refine FL ?_;refine RG ?_;(repeat first|refine WO ?_|refine Ai λX=>?_|refine Ay λY=>?_);refine NL ?_;exact Ae (j+1) (m1++((⟨c.1.X,q2.1,q2.2,c.1.M⟩:StK),BP c.2 e.n cv)::m2) ⟨by omega,hcs.next hsp hm1 (by rw[hlj];rfl) _ rfl⟩ (by omega)
  ·have h:j=l.length:=by rw[decide_eq_false_iff_not,hlm]at h;omega
   subst h;rw[<-hlc]at hcs;have hfa:e.n∉A5 a'.ts:=by rw[hke];exact hf
   have hgn:a'.g e.n=none:=by
    cases hg:a'.g e.n with
    |none=>rfl
    |some u=>
     obtain⟨w,hw,h2,_⟩:=hok.g _ _ hg;exact absurd (List.mem_flatMap.2 ⟨w,hw,h2⟩) hfa
   have hsz:(if(a'.g e.n).isSome then a'.c else a'.c+1)=a'.c+1:=by rw[hgn];rfl
   have hmx:a'.c<maxLen:=by have:=hok.c_le;unfold maxLen;omega
   refine FL ?_;refine AWP.namePtr (X:=t.X) 10 (λb=>?_);obtain⟨K',hK'⟩:∃K':AV->Value->Prop,K'=λv u=>a'.K v u\/(v= .ptr t.X 0 0/\u= .pointer (some ⟨b,0,none⟩)):=⟨_,rfl⟩
   rw[<-hK'];refine AWP.perm (S':=(B,.row 32 2 [Ac e])::(arH {a' with ts:=l1++upT t k' e cs::l2,K:=K'}++(Aw (l1++upT t k' e cs::l2)++Sf))) ?_ ?_
   ·refine List.Perm.cons _ ?_
    have hln:(l1++upT t k' e cs::l2).length=a'.ts.length:=by rw[hts];simp
    have hpr:ptrs Tab.X (l1++upT t k' e cs::l2)=ptrs Tab.X a'.ts:=by rw[hts,ptrs,ptrs,List.map_append,List.map_append,List.map_cons,List.map_cons]
    show List.Perm ([(a'.A,.row 143 4 [.agg [A3 false false a'.kinds,.sl a'.G 0 a'.gens.length,.sl a'.Tb 0 a'.ts.length,.mp a'.O]]),(a'.G,.row 3 1 (a'.gens.map iA)),(a'.O,.ob (MapF Tryz.prog 3 145 a'.g a'.c)),(a'.Tv,.tv K'),(a'.Tb,.row 145 1 (ptrs Tab.X a'.ts))]++(DM t::(stE k' (BP t.es e.n e)++(BM cs++Z)))) ([(a'.A,.row 143 4 [.agg [A3 false false a'.kinds,.sl a'.G 0 a'.gens.length,.sl a'.Tb 0 (l1++upT t k' e cs::l2).length,.mp a'.O]]),(a'.G,.row 3 1 (a'.gens.map iA)),(a'.O,.ob (MapF Tryz.prog 3 145 a'.g a'.c)),(a'.Tv,.tv K'),(a'.Tb,.row 145 1 (ptrs Tab.X (l1++upT t k' e cs::l2)))]++(Aw (l1++upT t k' e cs::l2)++Sf))
    rw[hln,hpr];refine List.Perm.append_left _ ?_;refine List.Perm.trans ?_ (Cl (l1:=l1) (l2:=l2) (t:=upT t k' e cs) Sf).symm;rw[hZ];refine List.Perm.of_eq ?_;have hkx:k'.X=t.ek.X:=by rw[hk']
    show _=((t.X,AO.row 151 3 [.agg [AW false t.ks,.ptr k'.X 0 0,MM cs]])::(stE k' (BP t.es e.n e)++BM cs))++Z
    rw[hkx,MM,hcp];rfl
   ·refine RU ?_;(repeat first|(refine RGo.gN ?_;first|refine RGo.goS (h:=W.mapUpd (PlainV.ptr (te:=151) (by kernel_rfl) b) (by omega) hmx rfl rfl rfl (by exact At.f)) (k:=?_))|(refine RGo.gQ ?_;first|refine RGo.goS (h:=W.mapUpd (PlainV.ptr (te:=151) (by kernel_rfl) b) (by omega) hmx rfl rfl rfl (by exact At.f)) (k:=?_))|refine RK ?_|refine RGo.nil (by kernel_rfl) ?_)
    rw[hsz];have hup:ArOK {a' with ts:=l1++upT t k' e cs::l2,K:=K',g:=Db a'.g e.n (.pointer (some ⟨b,0,none⟩)),c:=a'.c+1}:=hok.up hts hn hfa hcs (λv u h=>by rw[hK'];exact .inl h) (by rw[hK'];exact .inr ⟨rfl,rfl⟩);have hitm:=P3 (l1:=l1) (l2:=l2) (k:=k') hto hn hft (htk.trans hks.symm) hcs;rw[<-hts,hit]at hitm;refine CT ?_;exact AQ [] (arS {a' with ts:=l1++upT t k' e cs::l2,K:=K',g:=Db a'.g e.n (.pointer (some ⟨b,0,none⟩)),c:=a'.c+1}) ⟨_,⟨hup,Sm hn1 hn2 hft,rfl,hki,hge,hitm⟩,rfl,rfl⟩
def D5(a:Ar)(l1 l2:List Tab)(t:Tab)(n:Int)(Y:Nat):Ar:=if(A9 t.es n).length=0 then{a with Tb:=Y,ts:=l1++l2,g:=Ei a.g n,c:=a.c-1}else{a with ts:=l1++C5 t n::l2,g:=Ei a.g n,c:=a.c-1}
theorem Ik{a:Ar}(h:ArOK a)(hne:Dn a.ts){l1 l2:List Tab}{t:Tab}(hts:a.ts=l1++t::l2){n:Int}{e:Ent}(hm:(n,e)∈t.es)(Y:Nat):ArOK (D5 a l1 l2 t n Y)/\Dn (D5 a l1 l2 t n Y).ts/\(D5 a l1 l2 t n Y).A=a.A/\(D5 a l1 l2 t n Y).kinds=a.kinds/\(D5 a l1 l2 t n Y).gens=a.gens/\(AZ a.ts).Perm (⟨e,AL t n⟩::AZ (D5 a l1 l2 t n Y).ts):=by
 have h1:=h.down hts hm;have h2:=Io h hts hm;unfold D5;split
 ·rename_i h0
  have h0:(C5 t n).es=[]:=List.eq_nil_of_length_eq_zero h0;refine⟨h1.less (Y:=Y) rfl h0,λu hu=>hne u ?_,rfl,rfl,rfl,by rw[M3 h0]at h2;exact h2⟩;rw[hts];rcases List.mem_append.1 hu with hu|hu<;>simp[hu]
 ·rename_i h0
  refine⟨h1,λu hu=>?_,rfl,rfl,rfl,h2⟩;rcases List.mem_append.1 hu with hu|hu
  ·exact hne u (by rw[hts];simp[hu])
  ·rcases List.mem_cons.1 hu with rfl|hu
   ·exact λe2=>h0 (by rw[show A9 t.es n=[]from e2];rfl)
   ·exact hne u (by rw[hts];simp[hu])
theorem OL(P X:Nat)(l:List AV)(h0:0<l.length)(R:List AA):Spec Tryz.prog 301 [.ptr X 0 0,.ptr P 0 0] ((P,.row 145 1 [.ptr X 0 0])::(X,.row 151 3 l)::R) λr S'=>r=bA true/\S'=(P,.row 145 1 [.ptr X 0 0])::(X,.row 151 3 l)::R:=by
 refine Spec.of (nt:=7) (res:=[.tmp 3]) Tryz.func301 rfl (by kernel_rfl) rfl rfl rfl λSf=>?_
 refine RG ?_;(repeat first|refine WO ?_|refine Ai λX=>?_|refine Ay λY=>?_);refine NL ?_;refine FL ?_;refine RG ?_;(repeat first|(refine AOps.gN ?_;first|refine AOps.go (h:=W.eqPtrS h0 rfl rfl (by exact At.f)) (k:=?_))|refine WO ?_|refine Ai λX=>?_|refine Ay λY=>?_);refine NL ?_;refine RT ?_;exact AQ [bA true] ((P,.row 145 1 [.ptr X 0 0])::(X,.row 151 3 l)::R) ⟨rfl,rfl⟩
theorem PR(P X Y:Nat)(l l2:List AV)(h0:0<l.length)(h1:0<l2.length)(R:List AA):Spec Tryz.prog 301 [.ptr Y 0 0,.ptr P 0 0] ((P,.row 145 1 [.ptr X 0 0])::(X,.row 151 3 l)::(Y,.row 151 3 l2)::R) λr S'=>r=bA false/\S'=(P,.row 145 1 [.ptr X 0 0])::(X,.row 151 3 l)::(Y,.row 151 3 l2)::R:=by
 refine Spec.of (nt:=7) (res:=[.tmp 3]) Tryz.func301 rfl (by kernel_rfl) rfl rfl rfl λSf=>?_
 refine RG ?_;(repeat first|refine WO ?_|refine Ai λX=>?_|refine Ay λY=>?_);refine NL ?_;refine FL ?_;refine RG ?_;(repeat first|(refine AOps.gN ?_;first|refine AOps.go (h:=W.eqPtrD (p:=2) (q:=1) h1 h0 rfl rfl (.next (.next .here)) (.next .here) (by decide)) (k:=?_))|refine WO ?_|refine Ai λX=>?_|refine Ay λY=>?_);refine NL ?_;refine RT ?_;exact AQ [bA false] ((P,.row 145 1 [.ptr X 0 0])::(X,.row 151 3 l)::(Y,.row 151 3 l2)::R) ⟨rfl,rfl⟩
theorem OO{us:List Tab}{x:Tab}(h:x∈us):∃Z,(Aw us).Perm (DM x::Z):=by
 obtain⟨m1,m2,rfl⟩:=List.append_of_mem h;have:=Cl (l1:=m1) (l2:=m2) (t:=x) [];rw[List.append_nil]at this;exact⟨_,this⟩
theorem OM(P:Nat)(l1 l2:List Tab)(t:Tab)(ho:(l1++t::l2).Pairwise λx y:Tab=>By x.ks y.ks<0):∀x∈l1++t::l2,Spec Tryz.prog 301 (.ptr x.X 0 0::[.ptr P 0 0]) ((P,.row 145 1 [.ptr t.X 0 0])::(Di t++(Aw l1++Aw l2))) λr S'=>r=bA (decide (x.ks=t.ks))/\S'=(P,.row 145 1 [.ptr t.X 0 0])::(Di t++(Aw l1++Aw l2)):=by
 intro x hx
 have hd:x∈l1++l2->x.ks≠t.ks:=λh e=>by
  have h1:By x.ks t.ks=0:=cmpL_zero.2 e;have h2:By t.ks x.ks=0:=cmpL_zero.2 e.symm;rw[List.pairwise_append]at ho;rcases List.mem_append.1 h with h|h
  ·have:=ho.2.2 x h t (by simp);omega
  ·have:=(List.pairwise_cons.1 ho.2.1).1 x h;omega
 have hc:x=t\/x∈l1++l2:=by
  rcases List.mem_append.1 hx with h|h
  ·exact .inr (by simp[h])
  ·rcases List.mem_cons.1 h with h|h
   ·exact .inl h
   ·exact .inr (by simp[h])
 rcases hc with rfl|hc
 ·rw[decide_eq_true rfl]
  exact OL P x.X _ (by exact Nat.zero_lt_succ _) _
 ·rw[decide_eq_false (hd hc)]
  obtain⟨Z,hZ⟩:=OO hc;rw[FT]at hZ
  have hp:((P,AO.row 145 1 [.ptr t.X 0 0])::(Di t++(Aw l1++Aw l2))).Perm ((P,.row 145 1 [.ptr t.X 0 0])::DM t::DM x::((stE t.ek t.es++BM t.cs)++Z)):=by
   refine List.Perm.cons _ (List.Perm.cons _ ?_);refine(hZ.append_left (stE t.ek t.es++BM t.cs)).trans ?_;exact Bf (stE t.ek t.es++BM t.cs) [DM x] Z
  exact(PR P t.X x.X _ _ (by exact Nat.zero_lt_succ _) (by exact Nat.zero_lt_succ _) _).perm hp λr S' ⟨h1,h2⟩=>⟨_,by rw[h2];exact hp.symm,h1,rfl⟩
set_option maxRecDepth 8000 in
set_option maxHeartbeats 4000000 in
theorem KZ(a:Ar)(ha:ArOK a)(hne:Dn a.ts){l1 l2:List Tab}{t:Tab}(hts:a.ts=l1++t::l2){n:Int}(hnk:n∈AF t.es):Spec Tryz.prog 286 [.ptr a.A 0 0,iA n] (arS a) λr S'=>∃Y:Nat,True/\r= .lst true 42 2 ((AL t n).map (AG false))/\S'=arS (D5 a l1 l2 t n Y):=by
 have htm:t∈a.ts:=by rw[hts];simp
 have hto:=ha.tab t htm;have hnl:=hto.es.lt n hnk;have hn:I64 n:=by constructor<;>omega
 have hsm:=ha.gn n (List.mem_flatMap.2 ⟨t,htm,hnk⟩);obtain⟨u,hu⟩:∃u,a.g n=some u:=Option.isSome_iff_exists.1 hsm;obtain⟨w,hw,hwn,hK,b,hb⟩:=ha.g n u hu;have hwt:=ha.uniq hw htm hwn hnk;subst hwt;have hgd:(a.g n).getD (.pointer none)=u:=by rw[hu];rfl
 have hone:u.oneCell'=true:=by rw[hb];rfl
 have hcs:=MJ w n hto hn hnk;have hdE:=QU w.ek w.es hto.es n hn;have hlE:=QW w.ek (A9 w.es n);have hc16:w.cs.length<=16:=by have:=hto.ks;have:=hto.len;omega
 have hcpl:(w.cs.map λc=>AV.ptr c.1.X 0 0).length=w.cs.length:=List.length_map _;have hsz:(if(a.g n).isSome then a.c-1 else a.c)=a.c-1:=by rw[hsm];rfl
 obtain⟨⟨m,e⟩,hm,he⟩:=List.mem_map.1 hnk;have he:m=n:=he;rw[he]at hm;have hdn:=ha.down hts hm;obtain⟨w',hw'⟩:∃w',w'=C5 w n:=⟨_,rfl⟩;have htl:=ha.ts_le hne;have hhd:DM w=DM w':=by rw[hw'];show(w.X,AO.row 151 3 [.agg [AW false w.ks,.ptr w.ek.X 0 0,MM w.cs]])=(w.X,AO.row 151 3 [.agg [AW false w.ks,.ptr w.ek.X 0 0,MM (w.cs.map (E4 n))]]);rw[MM,MM,List.map_map];rfl
 have hln:a.ts.length=(l1++w'::l2).length:=by rw[hts];simp
 have hpr:ptrs Tab.X a.ts=ptrs Tab.X (l1++w'::l2):=by rw[hts,hw',ptrs,ptrs,List.map_append,List.map_append,List.map_cons,List.map_cons]
 have hflt:(l1++w'::l2).filter (λx=>!decide (x.ks=w'.ks))=l1++l2:=by
  have ho:(l1++w'::l2).Pairwise λx y:Tab=>By x.ks y.ks<0:=by rw[hw'];exact hdn.ord
  have hd:∀x∈l1++l2,x.ks≠w'.ks:=λx h e=>by
   have h1:By x.ks w'.ks=0:=cmpL_zero.2 e;have h2:By w'.ks x.ks=0:=cmpL_zero.2 e.symm;rw[List.pairwise_append]at ho;rcases List.mem_append.1 h with h|h
   ·have:=ho.2.2 x h w' (by simp);omega
   ·have:=(List.pairwise_cons.1 ho.2.1).1 x h;omega
  rw[List.filter_append,List.filter_cons_of_neg (by simp),<-List.filter_append,List.filter_eq_self];intro x hx;simp[hd x hx]
 refine Spec.of (nt:=58) (res:=[.tmp 4]) Tryz.func286 rfl (by kernel_rfl) rfl rfl rfl λSf=>?_
 obtain⟨Z,hZ⟩:∃Z,Aw l1++(Aw l2++Sf)=Z:=⟨_,rfl⟩;have hop:=Cl (l1:=l1) (l2:=l2) (t:=w) Sf;rw[<-hts,hZ]at hop;refine RG ?_;(repeat first|refine WO ?_|refine Ai λX=>?_|refine Ay λY=>?_);refine NL ?_;refine AWP.perm (S':=arH a++(Di w++Z)) ?_ ?_
 ·rw[arS,List.append_assoc]
  exact hop.append_left _
 refine FL ?_;refine RG ?_;(repeat first|(refine AOps.gN ?_;first|refine AOps.asPtr 14 (.ptr w.X 0 0) hK ?_|refine AOps.go (h:=Ew _ hgd hn rfl rfl (by exact At.f) hone) (k:=?_))|refine WO ?_|refine Ai λP5=>?_|refine Ay λY=>?_);refine NL ?_;refine FL ?_;refine RG ?_;(repeat first|(refine AOps.gN ?_;first|refine MX [_,_,_,_,_,_] (h:=hcs) (k:=λK=>?_))|refine WO ?_|refine Ai λX=>?_|refine Ay λY=>?_);refine NL ?_;refine AWP.perm (S':=(K,.row 42 2 ((AL w n).map (AG false)))::(P5,.row 145 1 [.ptr w.X 0 0])::(arH a++(DM w::(stE w.ek w.es++(BM w.cs++Z))))) (List.Perm.of_eq (by first|rfl|(simp only[List.cons_append,List.append_assoc,List.nil_append];done)|(simp only[List.cons_append,List.append_assoc,List.nil_append];rfl))) ?_;rw[List.length_map];refine FL ?_;refine RG ?_;(repeat first|(refine AOps.gN ?_;first|refine DZ [_,_,_,_,_,_,_,_] (h:=hdE) (k:=?_))|refine WO ?_|refine Ai λX=>?_|refine Ay λY=>?_);refine NL ?_;refine FL ?_;refine RG ?_;(repeat first|refine WO ?_|refine Ai λX=>?_|refine Ay λY=>?_);refine NL ?_;refine FL ?_;refine BN (λ(j:Nat)=>⟨[(0,.ptr a.A 0 0),(1,iA n),(5,.ptr P5 0 0),(6,.sl K 0 (AL w n).length),(27,MM w.cs),(28,iA (w.cs.map λc=>AV.ptr c.1.X 0 0).length),(29,iA j)],(K,.row 42 2 ((AL w n).map (AG false)))::(P5,.row 145 1 [.ptr w.X 0 0])::(arH a++(DM w::(stE w.ek (A9 w.es n)++(BM ((w.cs.take j).map (E4 n)++w.cs.drop j)++Z))))⟩) (λj=>j<=w.cs.length) (λj=>w.cs.length-j) 0 (by omega) ?_;rintro j hj;refine RG ?_;(repeat first|refine WO ?_|refine Ai λX=>?_|refine Ay λY=>?_);refine NL ?_;refine FL ?_;refine AWP.cond rfl (λh=>?_) (λh=>?_)
 ·have h:j<w.cs.length:=by rw[decide_eq_true_eq,hcpl]at h;omega
  have hcat:(w.cs.map λc=>AV.ptr c.1.X 0 0)[j]?=some (.ptr w.cs[j].1.X 0 0):=Am _ h;have hcil:j<(w.cs.map λc=>AV.ptr c.1.X 0 0).length:=by omega
  have hcok:=hto.cs _ (List.getElem_mem h);have hdj:w.cs.drop j=w.cs[j]::w.cs.drop (j+1):=(List.getElem_cons_drop h).symm;have htj:(w.cs.take (j+1)).map (E4 n)=(w.cs.take j).map (E4 n)++[E4 n w.cs[j]]:=by rw[List.take_succ_eq_append_getElem h,List.map_append];rfl
  obtain⟨c,hcc⟩:∃c,w.cs[j]=c:=⟨_,rfl⟩;rw[hcc]at hcat hcok hdj htj;have hdS:=QS c.1 c.2 hcok n hn
  have heq:(K,AO.row 42 2 ((AL w n).map (AG false)))::(P5,AO.row 145 1 [.ptr w.X 0 0])::(arH a++(DM w::(stE w.ek (A9 w.es n)++(BM ((w.cs.take j).map (E4 n)++w.cs.drop j)++Z))))=((K,AO.row 42 2 ((AL w n).map (AG false)))::(P5,AO.row 145 1 [.ptr w.X 0 0])::(arH a++(DM w::(stE w.ek (A9 w.es n)++BM ((w.cs.take j).map (E4 n))))))++(stS c.1 c.2++(BM (w.cs.drop (j+1))++Z)):=by
   rw[hdj,Cq,Ck];simp only[List.cons_append,List.append_assoc,List.nil_append]
  have heq2:((K,AO.row 42 2 ((AL w n).map (AG false)))::(P5,AO.row 145 1 [.ptr w.X 0 0])::(arH a++(DM w::(stE w.ek (A9 w.es n)++BM ((w.cs.take j).map (E4 n))))))++(stS c.1 (A9 c.2 n)++(BM (w.cs.drop (j+1))++Z))=(K,AO.row 42 2 ((AL w n).map (AG false)))::(P5,AO.row 145 1 [.ptr w.X 0 0])::(arH a++(DM w::(stE w.ek (A9 w.es n)++(BM ((w.cs.take (j+1)).map (E4 n)++w.cs.drop (j+1))++Z)))):=by
   rw[htj,Cq,Cq,Ck];simp only[List.cons_append,List.append_assoc,List.nil_append,BM,List.flatMap_nil]
  refine FL ?_;refine RG ?_;(repeat first|(refine AOps.gN ?_;first|refine AOps.go (h:=W.idx rfl rfl (by exact At.f) rfl (by omega) (Nat.zero_add _)) (k:=?_))|refine WO ?_|refine Ai λX=>?_|refine Ay λY=>?_);refine NL ?_;refine FL ?_;refine RG ?_;(repeat first|(refine AOps.gN ?_;first|refine DZ _ (h:=hdS) (k:=?_) (hp:=heq))|refine WO ?_|refine Ai λX=>?_|refine Ay λY=>?_);refine NL ?_;refine AWP.perm (List.Perm.of_eq heq2) ?_;refine RG ?_;(repeat first|refine WO ?_|refine Ai λX=>?_|refine Ay λY=>?_);refine NL ?_;exact A4 (j+1) (by omega)
 ·have h:j=w.cs.length:=by rw[decide_eq_false_iff_not,hcpl]at h;omega
  subst h;rw[List.take_length,List.drop_length,List.append_nil];refine FL ?_;refine RG ?_;(repeat first|(refine AOps.gN ?_;first|refine AOps.goS (h:=W.mapDel hn rfl rfl (by exact At.f)) (k:=?_))|refine WO ?_|refine Ai λX=>?_|refine Ay λY=>?_);refine NL ?_;rw[hsz];refine FL ?_;refine RG ?_;(repeat first|(refine AOps.gN ?_;first|refine OB [_,_,_,_,_,_,_,_] (h:=hlE) (k:=?_))|refine WO ?_|refine Ai λX=>?_|refine Ay λY=>?_);refine NL ?_;have hst:stE w.ek (A9 w.es n)++(BM (w.cs.map (E4 n))++Z)=(stE w'.ek w'.es++BM w'.cs)++Z:=by rw[hw',List.append_assoc]
  have hXX:w.X=w'.X:=by rw[hw']
  have hlw:(A9 w.es n).length=w'.es.length:=by rw[hw']
  rw[hst,hhd,hln,hpr,hXX];refine AWP.cond rfl (λh0=>?_) (λh0=>?_)
  ·have h0:(A9 w.es n).length=0:=by rw[decide_eq_true_eq]at h0;omega
   have hdel:=NI a.Tb (l1++w'::l2) Tab.X ((P5,.row 145 1 [.ptr w'.X 0 0])::(Di w'++(Aw l1++Aw l2))) 301 [.ptr P5 0 0] (λx=>decide (x.ks=w'.ks)) rfl (by rw[<-hln];omega) (OM P5 l1 l2 w' (by rw[hw'];exact hdn.ord));rw[hflt]at hdel;rw[<-hZ];refine AWP.perm (S':=(K,.row 42 2 ((AL w n).map (AG false)))::(a.A,.row 143 4 [.agg [A3 false false a.kinds,.sl a.G 0 a.gens.length,.sl a.Tb 0 (l1++w'::l2).length,.mp a.O]])::(a.G,.row 3 1 (a.gens.map iA))::(a.O,.ob (MapF Tryz.prog 3 145 (Ei a.g n) (a.c-1)))::(a.Tv,.tv a.K)::(((a.Tb,.row 145 1 (ptrs Tab.X (l1++w'::l2)))::((P5,.row 145 1 [.ptr w'.X 0 0])::(Di w'++(Aw l1++Aw l2))))++Sf)) ?_ ?_
   ·refine List.Perm.cons _ ?_
    have h1:=Bf [(a.A,AO.row 143 4 [.agg [A3 false false a.kinds,.sl a.G 0 a.gens.length,.sl a.Tb 0 (l1++w'::l2).length,.mp a.O]]),(a.G,.row 3 1 (a.gens.map iA)),(a.O,.ob (MapF Tryz.prog 3 145 (Ei a.g n) (a.c-1))),(a.Tv,.tv a.K),(a.Tb,.row 145 1 (ptrs Tab.X (l1++w'::l2)))] [(P5,.row 145 1 [.ptr w'.X 0 0])] (Di w'++(Aw l1++(Aw l2++Sf)));refine List.Perm.trans (List.Perm.of_eq ?_) (h1.symm.trans (List.Perm.of_eq ?_))
    ·simp only[List.cons_append,List.append_assoc,List.nil_append]
     rfl
    ·simp only[List.cons_append,List.append_assoc,List.nil_append]
   refine FL ?_;refine RG ?_;(repeat first|(refine AOps.gN ?_;first|refine MX [_,_,_,_,_] (h:=hdel) (k:=λY=>?_))|refine WO ?_|refine Ai λX=>?_|refine Ay λY=>?_);refine NL ?_;dsimp only[AR,List.set_cons_zero,List.set_cons_succ,List.cons_append,List.nil_append];refine AWP.front Y ?_;refine AWP.front a.Tv ?_;refine AWP.front a.O ?_;refine AWP.front a.G ?_;refine AWP.front a.A ?_;refine AWP.front P5 ?_;refine AWP.front K ?_;have hla:D5 a l1 l2 w n Y={a with Tb:=Y,ts:=l1++l2,g:=Ei a.g n,c:=a.c-1}:=if_pos h0;rw[show(ptrs Tab.X (l1++l2)).length=(l1++l2).length from List.length_map _];refine RG ?_;(repeat first|refine WO ?_|refine Ai λX=>?_|refine Ay λY=>?_);refine NL ?_;refine RT ?_;refine⟨[.sl K 0 (AL w n).length],[.lst true 42 2 ((AL w n).map (AG false))],_,arS (D5 a l1 l2 w n Y),.cons (.tmp rfl) rfl .nil,.cons (.cell (.sl (p:=0) .here (by simp))) .nil,?_,Y,trivial,rfl,rfl⟩;rw[hla]
   have hsub:(Aw (l1++l2)++Sf).Sublist ((Di w'++(Aw l1++Aw l2))++Sf):=by
    rw[FT];exact(List.sublist_append_right _ _).append_right _
   exact .cons _ (.cons_cons _ (.cons_cons _ (.cons_cons _ (.cons_cons _ (.cons_cons _ hsub)))))
  ·have h0:¬(A9 w.es n).length=0:=by rw[decide_eq_false_iff_not]at h0;omega
   have hla:D5 a l1 l2 w n 0={a with ts:=l1++w'::l2,g:=Ei a.g n,c:=a.c-1}:=by rw[hw'];exact if_neg h0
   have hop2:=Cl (l1:=l1) (l2:=l2) (t:=w') Sf;rw[hZ]at hop2;refine AWP.perm (S':=(K,.row 42 2 ((AL w n).map (AG false)))::(P5,.row 145 1 [.ptr w'.X 0 0])::(arH {a with ts:=l1++w'::l2,g:=Ei a.g n,c:=a.c-1}++(Aw (l1++w'::l2)++Sf))) (List.Perm.cons _ (List.Perm.cons _ (hop2.symm.append_left (arH {a with ts:=l1++w'::l2,g:=Ei a.g n,c:=a.c-1})))) ?_;rw[<-List.append_assoc];refine FL ?_;refine RG ?_;(repeat first|refine WO ?_|refine Ai λX=>?_|refine Ay λY=>?_);refine NL ?_;refine RT ?_;refine⟨[.sl K 0 (AL w n).length],[.lst true 42 2 ((AL w n).map (AG false))],_,arS (D5 a l1 l2 w n 0),.cons (.tmp rfl) rfl .nil,.cons (.cell (.sl (p:=0) .here (by simp))) .nil,?_,0,trivial,rfl,rfl⟩;rw[hla];exact .cons _ (List.Sublist.refl _)
theorem Dc{a:Ar}{l1 l2:List Tab}{t:Tab}(h:a.ts=l1++t::l2)(Sf:List AA):(arS a++Sf).Perm (arH a++(DM t::(stE t.ek t.es++(BM t.cs++(Aw l1++(Aw l2++Sf)))))):=by
 rw[arS,List.append_assoc];refine List.Perm.append_left _ ?_;rw[h];exact(Cl Sf).trans (List.Perm.of_eq (by simp only[List.cons_append,List.append_assoc]))
def Es(a:Ar)(e:Ent):Bool:=decide (e∈(AZ a.ts).map (·.ent))
theorem QD{a:Ar}(h:ArOK a){e:Ent}{t:Tab}(ht:t∈a.ts){v:Ent}(hm:(e.n,v)∈t.es):Es a e=decide (v=e):=by
 unfold Es;refine decide_eq_decide.2 ⟨λhe=>?_,λhe=>?_⟩
 ·obtain⟨it,hit,rfl⟩:=List.mem_map.1 he
  obtain⟨u,hu,hit⟩:=List.mem_flatMap.1 hit;obtain⟨p,hp,rfl⟩:=List.mem_map.1 hit;have hpn:=h.ent u hu p hp;have h1:p.2.n∈AF u.es:=List.mem_map.2 ⟨p,hp,hpn⟩;have h2:p.2.n∈AF t.es:=List.mem_map.2 ⟨_,hm,rfl⟩;have:=h.uniq ht hu h2 h1;subst this;have hto:=h.tab t ht;have h3:=(Bu hto.es).2 hm;have h4:=(Bu hto.es).2 (show(p.2.n,p.2)∈t.es by rw[<-hpn];exact hp);rw[h3]at h4;injection h4
 ·subst he
  refine List.mem_map.2 ⟨⟨v,AL t v.n⟩,List.mem_flatMap.2 ⟨t,ht,List.mem_map.2 ⟨_,hm,rfl⟩⟩,rfl⟩
theorem Re{a:Ar}(h:ArOK a){e:Ent}(hg:a.g e.n=none):Es a e=false:=by
 unfold Es;refine decide_eq_false λhe=>?_
 obtain⟨it,hit,rfl⟩:=List.mem_map.1 he;obtain⟨u,hu,hit⟩:=List.mem_flatMap.1 hit;obtain⟨p,hp,rfl⟩:=List.mem_map.1 hit;have hpn:=h.ent u hu p hp;have:=h.gn p.2.n (List.mem_flatMap.2 ⟨u,hu,List.mem_map.2 ⟨p,hp,hpn⟩⟩);rw[hg]at this;cases this
set_option maxRecDepth 8000 in
theorem HE(a:Ar)(ha:ArOK a)(e:Ent)(hn:I64 e.n):Spec Tryz.prog 284 [.ptr a.A 0 0,Ac e] (arS a) λr S'=>r=bA (Es a e)/\S'=arS a:=by
 refine Spec.of (nt:=30) (res:=[.tmp 4]) Tryz.func284 rfl (by kernel_rfl) rfl rfl rfl λSf=>?_
 cases hg:a.g e.n with
 |none=>
  have hgd:(a.g e.n).getD (.pointer none)= .pointer none:=by rw[hg];rfl
  rw[Re ha hg];refine RG ?_;(repeat first|refine WO ?_|refine Ai λB=>?_|refine Ay λY=>?_);refine NL ?_;refine FL ?_;refine RU ?_;(repeat first|(refine RGo.gN ?_;first|refine RGo.go (h:=Ew _ hgd hn rfl rfl (by exact At.f)) (k:=?_))|(refine RGo.gQ ?_;first|refine RGo.go (h:=Ew _ hgd hn rfl rfl (by exact At.f)) (k:=?_))|refine RK ?_|refine RGo.nil (by kernel_rfl) ?_);refine FL ?_;refine RG ?_;(repeat first|(refine AOps.gN ?_;first|refine AOps.go (h:=W.eqNil true (.inl ⟨rfl,rfl⟩) rfl rfl) (k:=?_))|refine WO ?_|refine Ai λX=>?_|refine Ay λY=>?_);refine NL ?_;refine AU rfl rfl ?_;refine FL ?_;refine RG ?_;(repeat first|refine WO ?_|refine Ai λX=>?_|refine Ay λY=>?_);refine NL ?_;refine RT ?_;exact AQ [bA false] (arS a) ⟨rfl,rfl⟩
 |some u=>
  obtain⟨t,ht,htn,hK,b,hb⟩:=ha.g e.n u hg;have hto:=ha.tab t ht;obtain⟨⟨m,v⟩,hm,hme⟩:=List.mem_map.1 htn;have hme:m=e.n:=hme;subst hme;rw[QD ha ht hm];have hgt:=QG t.ek t.es hto.es e.n hn v ((Bu hto.es).2 hm);have hgd:(a.g e.n).getD (.pointer none)=u:=by rw[hg];rfl
  have hone:u.oneCell'=true:=by rw[hb];rfl
  obtain⟨l1,l2,hts⟩:=List.append_of_mem ht;refine RG ?_;(repeat first|refine WO ?_|refine Ai λB=>?_|refine Ay λY=>?_);refine NL ?_;refine FL ?_;refine RU ?_;(repeat first|(refine RGo.gN ?_;first|refine RGo.go (h:=Ew _ hgd hn rfl rfl (by exact At.f) hone) (k:=?_))|(refine RGo.gQ ?_;first|refine RGo.go (h:=Ew _ hgd hn rfl rfl (by exact At.f) hone) (k:=?_))|refine RK ?_|refine RGo.nil (by kernel_rfl) ?_);refine FL ?_;refine RG ?_;(repeat first|(refine AOps.gN ?_;first|refine AOps.go (h:=W.eqNil false (.inr ⟨b,hb,rfl⟩) rfl rfl) (k:=?_))|refine WO ?_|refine Ai λX=>?_|refine Ay λY=>?_);refine NL ?_;refine AE rfl rfl ?_;refine FL ?_;refine AWP.asPtr 5 (.ptr t.X 0 0) hK ?_;refine AWP.perm (List.Perm.cons _ (Dc hts Sf)) ?_;refine AWP.rs λY=>?_
  (repeat refine WF ?_);refine E5 8 (by kernel_rfl) (by kernel_rfl) ?_;refine RGoT.go ?_;refine RGoT.go ?_;refine RGoT.go ?_;refine RGoT.go ?_;refine RGoT.go ?_;refine RGoT.go ?_;refine RGoT.callK (xs:=[(.tmp 21,.ptr t.ek.X 0 0),(.tmp 23,iA e.n)]) (L:=[_,_,_,_,_,_,_,_]) (R:=BM t.cs++(Aw l1++(Aw l2++Sf))) hgt (.fz (v:=.tup [Ac v,bA true])) rfl (Nat.le_refl 8) (.cons rfl (.cons rfl .nil)) rfl rfl ?_;refine RGoT.go ?_;refine RGoT.go ?_;refine RGoT.go ?_;refine RGoT.goS (h:=W.alloc .here (.inl rfl)) ?_;refine RGoT.goS ?_;refine RGoT.go ?_;refine RGoT.nil (by kernel_rfl) ?_;dsimp only[AR,List.set_cons_zero,List.set_cons_succ,List.cons_append,List.nil_append];refine KT Y (show _=[Ac v]from rfl) ?_;dsimp only[List.set_cons_zero]
  have hd:decide (v=e)=(decide (v.n=e.n)&&decide (v.gen=e.gen)):=by
   cases v;cases e;simp only[Ent.mk.injEq,Bool.decide_and]
  rw[hd];refine FL ?_;refine RG ?_;(repeat first|(refine AOps.gN ?_;first|refine AOps.go (h:=W.eqP _ _ (by kernel_rfl) (SU v.n v.gen e.n e.gen) rfl rfl) (k:=?_))|refine WO ?_|refine Ai λX=>?_|refine Ay λY=>?_);refine NL ?_;refine FL ?_;refine AWP.perm (List.Perm.cons _ (List.Perm.cons _ (Dc hts Sf).symm)) ?_;refine RT ?_;exact AQ [bA (decide (v.n=e.n)&&decide (v.gen=e.gen))] (arS a) ⟨rfl,rfl⟩
theorem H6{a:Ar}(h:ArOK a){e:Ent}(hh:Es a e=true):∃l1 l2 t,a.ts=l1++t::l2/\(e.n,e)∈t.es:=by
 unfold Es at hh;obtain⟨it,hit,rfl⟩:=List.mem_map.1 (of_decide_eq_true hh);obtain⟨u,hu,hit⟩:=List.mem_flatMap.1 hit;obtain⟨p,hp,rfl⟩:=List.mem_map.1 hit;obtain⟨l1,l2,hl⟩:=List.append_of_mem hu;refine⟨l1,l2,u,hl,?_⟩;have:=h.ent u hu p hp;show(p.2.n,p.2)∈u.es
 rw[<-this];exact hp
structure KillR(a:Ar)(e:Ent)(b:Ar):Prop where
 ok:ArOK b
 ne:Dn b.ts
 A:b.A=a.A
 kinds:b.kinds=a.kinds
 gens:b.gens=a.gens.set e.n.toNat ((a.gens[e.n.toNat]?).getD 0+1)
 items:∃l,(AZ a.ts).Perm (⟨e,l⟩::AZ b.ts)
theorem RV(a:Ar)(ha:ArOK a)(e:Ent)(hn:I64 e.n)(hh:Es a e=false):Spec Tryz.prog 269 [.ptr a.A 0 0,Ac e] (arS a) λr S'=>r=iA 4/\S'=arS a:=by
 have hs:=HE a ha e hn;rw[hh]at hs;refine Spec.of (nt:=23) (res:=[.tmp 4]) Tryz.func269 rfl (by kernel_rfl) rfl rfl rfl λSf=>?_
 refine RG ?_;(repeat first|refine WO ?_|refine Ai λB=>?_|refine Ay λY=>?_);refine NL ?_;refine FL ?_;refine RG ?_;(repeat first|(refine AOps.gN ?_;first|refine DZ [_] (h:=hs) (k:=?_))|refine WO ?_|refine Ai λX=>?_|refine Ay λY=>?_);refine NL ?_;refine AU rfl rfl ?_;refine FL ?_;refine RG ?_;(repeat first|refine WO ?_|refine Ai λX=>?_|refine Ay λY=>?_);refine NL ?_;refine RT ?_;exact AQ [iA 4] (arS a) ⟨rfl,rfl⟩
theorem Py(a:Ar)(ha:ArOK a)(hne:Dn a.ts)(e:Ent)(hn:I64 e.n)(hh:Es a e=true)(hg:e.n.toNat<a.gens.length)(hgl:a.gens.length<=256)(hgb:∀g∈a.gens,0<=g/\g<=1073741824):Spec Tryz.prog 269 [.ptr a.A 0 0,Ac e] (arS a) λr S'=>∃b:Ar,KillR a e b/\r=iA 0/\S'=arS b:=by
 obtain⟨l1,l2,t,hts,hm⟩:=H6 ha hh;have hto:=ha.tab t (by rw[hts];simp);have hnk:e.n∈AF t.es:=List.mem_map.2 ⟨_,hm,rfl⟩;have hnl:=hto.es.lt _ hnk;have hs:=HE a ha e hn;rw[hh]at hs;have htk:=KZ a ha hne hts hnk;obtain⟨⟨n,g⟩,he⟩:∃e',e=e':=⟨_,rfl⟩;subst he;dsimp only at hn hg hm hnk hnl hs htk;obtain⟨i,hi⟩:∃i:Nat,n=i:=⟨n.toNat,by omega⟩;subst hi;rw[Int.toNat_natCast]at hg;refine Spec.of (nt:=23) (res:=[.tmp 4]) Tryz.func269 rfl (by kernel_rfl) rfl rfl rfl λSf=>?_
 refine RG ?_;(repeat first|refine WO ?_|refine Ai λB=>?_|refine Ay λY=>?_);refine NL ?_;refine FL ?_;refine RG ?_;(repeat first|(refine AOps.gN ?_;first|refine DZ [_] (h:=hs) (k:=?_))|refine WO ?_|refine Ai λX=>?_|refine Ay λY=>?_);refine NL ?_;refine AE rfl rfl ?_;refine FL ?_;refine RG ?_;(repeat first|(refine AOps.gN ?_;first|refine JR [_] (h:=htk) (k:=λY _ K=>?_))|refine WO ?_|refine Ai λX=>?_|refine Ay λY=>?_);refine NL ?_;obtain⟨hok,hne2,hA,hki,hge,hit⟩:=Ik ha hne hts hm Y;obtain⟨b,hb⟩:∃b,D5 a l1 l2 t (i:Nat) Y=b:=⟨_,rfl⟩;rw[hb]at hok hne2 hA hki hge hit⊢;rw[<-hA];have hgm:a.gens[i]∈a.gens:=List.getElem_mem hg;have hgr:=hgb _ hgm;rw[<-hge]at hg hgl;have hgq:a.gens[i]=b.gens[i]:=by simp only[hge]
 rw[hgq]at hgr;have hat:(b.gens.map iA)[i]?=some (iA b.gens[i]):=Am _ hg;have hgml:(b.gens.map iA).length=b.gens.length:=List.length_map _;refine FL ?_;refine RU ?_;(repeat first|(refine RGo.gN ?_;first|refine RGo.go (h:=W.idx (a:=i) rfl rfl (by exact At.f) rfl (by omega) (Nat.zero_add _)) (k:=?_))|(refine RGo.gQ ?_;first|refine RGo.go (h:=W.idx (a:=i) rfl rfl (by exact At.f) rfl (by omega) (Nat.zero_add _)) (k:=?_))|refine RK ?_|refine RGo.nil (by kernel_rfl) ?_);dsimp only[AR,List.set_cons_zero,List.set_cons_succ,List.cons_append,List.nil_append];have hset:(b.gens.map iA).set i (iA (b.gens[i]+1))=(b.gens.set i (b.gens[i]+1)).map iA:=(List.map_set ..).symm;rw[hset];have hsl:b.gens.length=(b.gens.set i (b.gens[i]+1)).length:=List.length_set.symm;obtain⟨b',hb'⟩:∃b':Ar,b'={b with gens:=b.gens.set i (b.gens[i]+1)}:=⟨_,rfl⟩;refine AWP.perm (S':=(K,.row 42 2 ((AL t (i:Nat)).map (AG false)))::(B,.row 32 2 [Ac ⟨i,g⟩])::(arS b'++Sf)) (List.Perm.of_eq (by rw[hb'];show _=(K,_)::(B,_)::((arH {b with gens:=b.gens.set i (b.gens[i]+1)}++Aw b.ts)++Sf);rw[arH];dsimp only;rw[<-hsl];rfl)) ?_;refine RG ?_;(repeat first|refine WO ?_|refine Ai λX=>?_|refine Ay λY=>?_);refine NL ?_;refine RT ?_;have hgd:(a.gens[i]?).getD 0=b.gens[i]:=by rw[<-hge,List.getElem?_eq_getElem hg];rfl
 have hk:KillR a ⟨i,g⟩ b':=by
  rw[hb'];exact⟨⟨hok.tab,hok.ord,hok.keys,hok.ent,hok.g,hok.gn,hok.cnt⟩,hne2,hA,hki,by show b.gens.set i _=a.gens.set ((i:Int).toNat) _;rw[Int.toNat_natCast,hgd];exact congrArg (λx=>x.set i (b.gens[i]+1)) hge,⟨_,hit⟩⟩
 exact AQ [iA 0] (arS b') ⟨b',hk,rfl,rfl⟩
theorem Nl(a:Int):PS Tryz.prog 296 [iA a] (bA false):=by
 refine Spec.of (nt:=6) (res:=[.tmp 2]) Tryz.func296 rfl (by kernel_rfl) rfl rfl rfl λSf=>?_
 (repeat first|refine WK ?_|refine Ai λX=>?_|refine Ay λY=>?_);refine RT ?_;refine AX ?_;have:decide (a≠a)=false:=decide_eq_false (by simp);rw[this]
theorem RQ(a b:Int):PS Tryz.prog 295 [iA a,iA b] (bA (decide (a<b))):=by
 refine Spec.of (nt:=17) (res:=[.tmp 4]) Tryz.func295 rfl (by kernel_rfl) rfl rfl rfl λSf=>?_
 refine RG ?_;(repeat first|(refine AOps.gN ?_;first|(refine AOps.g_callf ?_;first|refine AOps.c1 (h:=(Ed a)) (k:=?_)|refine AOps.c1 (h:=(Ed b)) (k:=?_)))|refine WO ?_|refine Ai λX=>?_|refine Ay λY=>?_);refine NL ?_;refine FL ?_;refine RG ?_;(repeat first|(refine AOps.gN ?_;first|(refine AOps.g_callf ?_;first|refine AOps.c1 (h:=(Ed a)) (k:=?_)|refine AOps.c1 (h:=(Ed b)) (k:=?_)))|refine WO ?_|refine Ai λX=>?_|refine Ay λY=>?_);refine NL ?_;refine RT ?_;exact AQ [bA (decide (a<b))] [] ⟨rfl,rfl⟩
def Ih(l:List Int)(n:Int):Nat:=(l.filter λx=>decide (x<n)).length
theorem No{l:List Int}{n:Int}{i:Nat}(hi:i<=l.length)(h1:∀k (h:k<l.length),k<i->l[k]<n)(h2:∀k (h:k<l.length),i<=k->n<=l[k]):Ih l n=i:=by
 unfold Ih
 have e:l.filter (λx=>decide (x<n))=l.take i:=by
  conv=>lhs;rw[<-List.take_append_drop i l]
  rw[List.filter_append,List.filter_eq_self.2,List.filter_eq_nil_iff.2,List.append_nil]
  ·intro x hx
   obtain⟨k,hk,rfl⟩:=List.mem_iff_getElem.1 hx;rw[List.length_drop]at hk;rw[List.getElem_drop];have:=h2 (i+k) (by omega) (by omega);simp;omega
  ·intro x hx
   obtain⟨k,hk,rfl⟩:=List.mem_take_iff_getElem.1 hx;have:=h1 k (by omega) (by omega);simp;omega
 rw[e,List.length_take];omega
theorem N4(l:List Int)(n:Int)(hs:l.Pairwise (· < ·))(hl:l.length<=1099511627776):PS Tryz.prog 285 [AW false l,iA n] (.tup [iA (Ih l n:Nat),bA (decide (n∈l))]):=by
 have hml:(l.map iA).length=l.length:=List.length_map _;have hsp:=List.pairwise_iff_getElem.1 hs;refine Spec.of (nt:=54) (res:=[.tmp 4,.tmp 5]) Tryz.func285 rfl (by kernel_rfl) rfl rfl rfl λSf=>?_
 refine RG ?_;(repeat first|refine WO ?_|refine Ai λX=>?_|refine Ay λY=>?_);refine NL ?_;refine FL ?_;refine RG ?_;(repeat first|refine WO ?_|refine Ai λX=>?_|refine Ay λY=>?_);refine NL ?_;refine FL ?_;refine RG ?_;(repeat first|refine WO ?_|refine Ai λX=>?_|refine Ay λY=>?_);refine NL ?_;refine FL ?_;rw[hml];refine BH (λ(i j:Nat)=>⟨[(0,AW false l),(1,iA n),(6,iA l.length),(7,iA i),(8,iA j)],Sf⟩) (λi j=>i<=j/\j<=l.length/\(∀k (h:k<l.length),k<i->l[k]<n)/\∀k (h:k<l.length),j<=k->n<=l[k]) (λi j=>j-i) 0 l.length ⟨Nat.zero_le _,Nat.le_refl _,λk h1 h2=>absurd h2 (by omega),λk h1 h2=>absurd h2 (by omega)⟩ ?_;rintro i j ⟨hij,hjn,hlo,hhi⟩;refine RG ?_;(repeat first|refine WO ?_|refine Ai λX=>?_|refine Ay λY=>?_);refine NL ?_;refine FL ?_;refine AWP.cond rfl (λhc=>?_) (λhc=>?_)
 ·have h:i<j:=by rw[decide_eq_true_eq]at hc;omega
  have hmid:((i:Int)+j).fdiv (2^1)=(((i+j)/2:Nat):Int):=by
   rw[Int.fdiv_eq_ediv_of_nonneg _ (by decide)];omega
  have hw1:IntKind.u64.wrap ((i:Int)+j)=i+j:=by rw[IntKind.wrap_u64];omega
  have hw2:IntKind.i64.wrap (((i:Int)+j).fdiv (2^1))=((i:Int)+j).fdiv (2^1):=by
   rw[IntKind.wrap_i64,hmid];omega
  refine FL ?_;refine RG ?_;(repeat first|(refine AOps.gN ?_;first|refine AOps.p (W.conv .i64 .u64 (by kernel_rfl) (by kernel_rfl) rfl hw1) rfl ?_|refine AOps.p (W.shr 1 rfl rfl rfl (by decide)) rfl ?_|refine AOps.p (W.conv .u64 .i64 (by kernel_rfl) (by kernel_rfl) rfl hw2) rfl ?_)|refine WO ?_|refine Ai λX=>?_|refine Ay λY=>?_);refine NL ?_;rw[hmid];obtain⟨m,hm⟩:∃m,(i+j)/2=m:=⟨_,rfl⟩;rw[hm];have hml2:m<l.length:=by omega
  have hmm:m<(l.map iA).length:=by omega
  have hat:(l.map iA)[m]?=some (iA l[m]):=by rw[List.getElem?_map,List.getElem?_eq_getElem hml2];rfl
  have hls:=RQ l[m] n;refine FL ?_;refine RG ?_;(repeat first|(refine AOps.gN ?_;first|(refine AOps.g_callf ?_;first|refine AOps.c2 (h:=(hls ..)) (k:=?_)))|refine WO ?_|refine Ai λX=>?_|refine Ay λY=>?_);refine NL ?_;refine FL ?_;refine AWP.cond rfl (λhe=>?_) (λhe=>?_)
  ·have he:l[m]<n:=of_decide_eq_true he
   refine FL ?_;refine RG ?_;(repeat first|refine WO ?_|refine Ai λX=>?_|refine Ay λY=>?_);refine NL ?_;refine Ae (m+1) j ⟨by omega,hjn,λk h1 h2=>?_,hhi⟩;by_cases e:k=m
   ·subst e;exact he
   ·have:=hsp k m h1 hml2 (by omega);omega
  ·have he:¬l[m]<n:=of_decide_eq_false he
   refine FL ?_;refine RG ?_;(repeat first|refine WO ?_|refine Ai λX=>?_|refine Ay λY=>?_);refine NL ?_;refine Ae i m ⟨by omega,by omega,hlo,λk h1 h2=>?_⟩;by_cases e:k=m
   ·subst e;omega
   ·have:=hsp m k hml2 h1 (by omega);omega
 ·have h:i=j:=by rw[decide_eq_false_iff_not]at hc;omega
  subst h;have hlw:=No hjn hlo hhi;refine FL ?_;by_cases hin:i<l.length
  ·have g1:decide ((i:Int)<(l.length:Nat))=true:=decide_eq_true (by omega)
   have hmm:i<(l.map iA).length:=by omega
   have hat:(l.map iA)[i]?=some (iA l[i]):=by rw[List.getElem?_map,List.getElem?_eq_getElem hin];rfl
   by_cases he:l[i]=n
   ·have g2:decide (l[i]=n)=true:=decide_eq_true he
    have hmem:decide (n∈l)=true:=decide_eq_true (by rw[<-he];exact List.getElem_mem hin);rw[hlw,hmem];refine RG ?_;(repeat first|(refine AOps.gQ ?_;first|refine AOps.goNU ?_|refine AOps.goNV ?_)|refine WO ?_|refine Ai λX=>?_|refine Ay λY=>?_);refine NL ?_;refine RT ?_;rw[g1,g2];exact AQ [iA i,bA true] [] ⟨rfl,rfl⟩
   ·have g2:decide (l[i]=n)=false:=decide_eq_false he
    have hmem:decide (n∈l)=false:=decide_eq_false λhm=>by
     obtain⟨k,hk,rfl⟩:=List.mem_iff_getElem.1 hm;rcases Nat.lt_or_ge k i with h|h
     ·have:=hlo k hk h;omega
     ·have h3:k≠i:=λe=>he (by subst e;rfl)
      have:=hsp i k hin hk (by omega);have:=hhi i hin (Nat.le_refl _);omega
    rw[hlw,hmem];refine RG ?_;(repeat first|(refine AOps.gN ?_;first|(refine AOps.g_callf ?_;first|refine AOps.c1 (h:=(Nl l[i])) (k:=?_)|refine AOps.c1 (h:=(Nl n)) (k:=?_)))|refine WO ?_|refine Ai λX=>?_|refine Ay λY=>?_);refine NL ?_;refine RT ?_;rw[g1,g2];exact AQ [iA i,bA false] [] ⟨rfl,rfl⟩
  ·have g1:decide ((i:Int)<(l.length:Nat))=false:=decide_eq_false (by omega)
   have hmem:decide (n∈l)=false:=decide_eq_false λhm=>by
    obtain⟨k,hk,rfl⟩:=List.mem_iff_getElem.1 hm;have:=hlo k hk (by omega);omega
   rw[hlw,hmem];refine RG ?_;(repeat first|(refine AOps.gQ ?_;first|refine AOps.goNU ?_|refine AOps.goNV ?_)|refine WO ?_|refine Ai λX=>?_|refine Ay λY=>?_);refine NL ?_;refine RT ?_;rw[g1];exact AQ [iA i,bA false] [] ⟨rfl,rfl⟩
theorem I9{α:Type}{l:List α}{i:Nat}(h:i<l.length)(z:List α):(l.take i++(l.drop (i+1)).take (l.length-(i+1))++z).take (i+(l.length-(i+1)))=l.eraseIdx i:=by
 rw[List.take_of_length_le (l:=l.drop (i+1)) (by rw[List.length_drop];omega),List.eraseIdx_eq_take_drop_succ];rw[List.take_append_of_le_length (by simp;omega),List.take_of_length_le (by simp;omega)]
theorem NJ(X n i:Nat)(l:List AV)(hn:n=l.length)(hi:i<n)(hl:n<=1099511627776)(hfr:FreeL l)(hw:∀e∈l,e.width=2):
  Spec Tryz.prog 72 [.sl X 0 n,iA i,iA ((i:Int)+1)] [(X,.row 42 2 l)] λr S'=>r= .lst true 42 2 (l.eraseIdx i)/\S'=[]:=by
 subst hn;refine Spec.of (nt:=33) (res:=[.tmp 6]) Tryz.func72 rfl (by kernel_rfl) rfl rfl rfl λSf=>?_
 have h1:((i:Int)+1)=((i+1:Nat):Int):=by omega
 refine RG ?_;(repeat first|refine WO ?_|refine Ai λX=>?_|refine Ay λY=>?_);refine NL ?_;refine RG ?_;(repeat first|(refine AOps.gN ?_;first|refine AOps.p (W.slice3 (lo:=i) (hi:=i+1) (mx:=l.length) rfl rfl rfl rfl (by exact At.f) rfl h1 rfl (by omega) (by omega) (Nat.le_refl _)) rfl ?_)|refine WO ?_|refine Ai λX=>?_|refine Ay λY=>?_);refine NL ?_;refine RG ?_;(repeat first|refine WO ?_|refine Ai λX=>?_|refine Ay λY=>?_);refine NL ?_;refine AE rfl (decide_eq_false (by omega)) ?_;refine RG ?_;(repeat first|refine WO ?_|refine Ai λX=>?_|refine Ay λY=>?_);refine NL ?_;have hel:(l.eraseIdx i).length=l.length-1:=List.length_eraseIdx_of_lt hi;rcases Nat.lt_or_ge (i+1) l.length with hj|hj
 ·have hp:=I9 hi
  refine RU ?_;(repeat first|(refine RGo.gN ?_;first|refine RGo.p (W.hi rfl rfl (by exact At.f) rfl (by omega)) rfl ?_|refine RGo.p (W.slice_lo (lo:=i+1) rfl rfl (by exact At.f) h1 (by omega)) rfl ?_|refine RGo.s (W.appS (l.length-(i+1)) (by omega) (by omega) (by omega) hfr hw rfl rfl (by exact At.f)) rfl ?_)|(refine RGo.gQ ?_;first|refine RGo.p (W.hi rfl rfl (by exact At.f) rfl (by omega)) rfl ?_|refine RGo.p (W.slice_lo (lo:=i+1) rfl rfl (by exact At.f) h1 (by omega)) rfl ?_|refine RGo.s (W.appS (l.length-(i+1)) (by omega) (by omega) (by omega) hfr hw rfl rfl (by exact At.f)) rfl ?_)|refine RK ?_|refine RGo.nil (by kernel_rfl) ?_);rw[Nat.zero_add];have hln:i+(l.length-(i+1))=l.length-1:=by omega
  have hLl:(l.take i++(l.drop (i+1)).take (l.length-(i+1))++l.drop (i+(l.length-(i+1)))).length=l.length:=by simp only[List.length_append,List.length_take,List.length_drop];omega
  have hLp:=hp (l.drop (i+(l.length-(i+1))));obtain⟨L',hL'⟩:∃L',l.take i++(l.drop (i+1)).take (l.length-(i+1))++l.drop (i+(l.length-(i+1)))=L':=⟨_,rfl⟩;rw[hL']at hLl hLp⊢
  have key:∀Z D,((L'.take (i+(l.length-(i+1)))++Z)++D).take (i+(l.length-(i+1)))=l.eraseIdx i:=λZ D=>by
   rw[List.append_assoc,List.take_append_of_le_length (by rw[List.length_take];omega),List.take_take,Nat.min_self,hLp]
  refine RG ?_;(repeat first|(refine AOps.gN ?_;first|refine AOps.p (Qk (lo:=i+(l.length-(i+1))) (hi:=l.length) rfl rfl rfl (by exact At.f) rfl rfl (by omega) (by omega)) rfl ?_|refine AOps.s (W.clear rfl (by exact At.f) (by first|exact .inl rfl|exact .inr rfl) rfl (by omega)) rfl ?_)|refine WO ?_|refine Ai λX=>?_|refine Ay λY=>?_);refine NL ?_;refine RG ?_;(repeat first|refine WO ?_|refine Ai λX=>?_|refine Ay λY=>?_);refine NL ?_;refine AWP.shrink (X:=X) (i+(l.length-(i+1))) ?_;rw[Nat.zero_add,key];refine RT ?_;exact⟨[.sl X 0 (i+(l.length-(i+1)))],[.lst true 42 2 (l.eraseIdx i)],_,[],.cons (.tmp rfl) rfl .nil,.cons (.cell (.sl (p:=0) .here (by rw[hel];omega))) .nil,by exact Sub.f,rfl,rfl⟩
 ·have hie:i=l.length-1:=by omega
  have hl0:l.length-(i+1)=0:=by omega
  have hle:l.eraseIdx i=l.take i:=by rw[List.eraseIdx_eq_take_drop_succ,List.drop_of_length_le (by omega),List.append_nil]
  have key:∀Z D,((l.take i++Z)++D).take i=l.eraseIdx i:=λZ D=>by
   rw[List.append_assoc,List.take_append_of_le_length (by rw[List.length_take];omega),List.take_take,Nat.min_self,hle]
  refine RU ?_;(repeat first|(refine RGo.gN ?_;first|refine RGo.p (W.hi rfl rfl (by exact At.f) rfl (by omega)) rfl ?_|(refine RGo.p (W.slice_lo (lo:=i+1) rfl rfl (by exact At.f) h1 (by omega)) rfl ?_;rw[hl0])|refine RGo.p (W.app0 rfl rfl (by exact At.f)) rfl ?_)|(refine RGo.gQ ?_;first|refine RGo.p (W.hi rfl rfl (by exact At.f) rfl (by omega)) rfl ?_|(refine RGo.p (W.slice_lo (lo:=i+1) rfl rfl (by exact At.f) h1 (by omega)) rfl ?_;rw[hl0])|refine RGo.p (W.app0 rfl rfl (by exact At.f)) rfl ?_)|refine RK ?_|refine RGo.nil (by kernel_rfl) ?_);refine RG ?_;(repeat first|(refine AOps.gN ?_;first|refine AOps.p (Qk (lo:=i) (hi:=l.length) rfl rfl rfl (by exact At.f) rfl rfl (by omega) (by omega)) rfl ?_|refine AOps.s (W.clear rfl (by exact At.f) (by first|exact .inl rfl|exact .inr rfl) rfl (by omega)) rfl ?_)|refine WO ?_|refine Ai λX=>?_|refine Ay λY=>?_);refine NL ?_;refine RG ?_;(repeat first|refine WO ?_|refine Ai λX=>?_|refine Ay λY=>?_);refine NL ?_;refine AWP.shrink (X:=X) i ?_;simp only[Nat.zero_add];rw[key];refine RT ?_;exact⟨[.sl X 0 i],[.lst true 42 2 (l.eraseIdx i)],_,[],.cons (.tmp rfl) rfl .nil,.cons (.cell (.sl (p:=0) .here (by rw[hel];omega))) .nil,by exact Sub.f,rfl,rfl⟩
def Hr(ks:List Kind)(i:Nat):List AV:=(ks.take i).map (BD true)++List.replicate (ks.length-i) (.agg [sA [],.prim (.slice none 0 0)])
theorem P2(ks:List Kind)(i:Nat)(h:i<=ks.length):(Hr ks i).length=ks.length:=by simp[Hr];omega
theorem RW{ks:List Kind}{i:Nat}(h:i<ks.length):(Hr ks i)[i]?=some (.agg [sA [],.prim (.slice none 0 0)]):=by
 unfold Hr;rw[List.getElem?_append_right (by simp;omega),List.getElem?_replicate,if_pos (by simp;omega)]
theorem P1{ks:List Kind}{i:Nat}(h:i<ks.length):(Hr ks i).set i (BD true ks[i])=Hr ks (i+1):=by
 unfold Hr;rw[List.set_append_right _ _ (by simp;omega),List.length_map,List.length_take,Nat.min_eq_left (by omega),Nat.sub_self];rw[show ks.length-i=(ks.length-(i+1))+1 from by omega,List.replicate_succ,List.set_cons_zero];rw[List.take_succ_eq_append_getElem h,List.map_append,List.append_assoc];rfl
theorem HZ(ks:List Kind)(hl:ks.length<=1099511627776)(hf:∀k∈ks,k.fields.length<=1099511627776):PS Tryz.prog 57 [A3 false false ks] (A3 true true ks):=by
 refine Spec.of (nt:=27) (res:=[.tmp 2]) Tryz.func57 rfl (by kernel_rfl) rfl rfl rfl λSf=>?_
 have hkm:(ks.map (BD false)).length=ks.length:=List.length_map _;have hz0:List.replicate (ks.map (BD false)).length (.agg [sA [],.prim (.slice none 0 0)])=Hr ks 0:=by simp[Hr]
 (repeat first|(refine AOps.gN ?_;first|(refine Dd ?_;refine FO ((.agg [sA [],.prim (.slice none 0 0)])) λK=>?_))|refine WK ?_|refine Ai λX=>?_|refine Ay λY=>?_);rw[hz0];refine BH (λ(i:Nat) (M:List AV)=>⟨[(3,.sl K 0 (ks.map (BD false)).length),(9,A3 false false ks),(10,iA (ks.map (BD false)).length),(11,iA i)],(K,.row 118 2 M)::Sf⟩) (λi M=>i<=ks.length/\M=Hr ks i) (λi _=>ks.length-i) 0 _ ⟨Nat.zero_le _,rfl⟩ ?_;rintro i M ⟨hi,hM⟩;(repeat first|refine WK ?_|refine Ai λX=>?_|refine Ay λY=>?_);refine AWP.cond rfl (λhc=>?_) (λhc=>?_)
 ·have h:i<ks.length:=by rw[decide_eq_true_eq,hkm]at hc;omega
  have hset:=P1 h;have hMat:M[i]?=some (.agg [sA [],.prim (.slice none 0 0)]):=by rw[hM];exact RW h
  have hMl:M.length=ks.length:=by rw[hM];exact P2 ks i hi
  have hfl:=hf _ (List.getElem_mem h);obtain⟨⟨kn,fs⟩,hk⟩:∃k,ks[i]=k:=⟨_,rfl⟩;rw[hk]at hset hfl;dsimp only at hfl;have hat:(ks.map (BD false))[i]?=some (BD false ⟨kn,fs⟩):=by rw[List.getElem?_map,List.getElem?_eq_getElem h,hk];rfl
  have hil:i<(ks.map (BD false)).length:=by omega
  have hfm:(fs.map fieldA).length=fs.length:=List.length_map _;(repeat first|refine WK ?_|refine Ai λV=>?_|refine Ay λY=>?_);refine AWP.rs λY=>?_
  refine RU ?_;(repeat first|(refine RGo.gN ?_;first|refine RGo.s (Qt (by rw[hfm];omega) (by rw[hfm];unfold maxLen;omega) rfl rfl (by exact At.f)) rfl ?_)|(refine RGo.gQ ?_;first|refine RGo.s (Qt (by rw[hfm];omega) (by rw[hfm];unfold maxLen;omega) rfl rfl (by exact At.f)) rfl ?_)|refine RK ?_|refine RGo.nil (by kernel_rfl) ?_);(repeat refine WF ?_);have hMs:(M.set i (.agg [sA kn,.sl Y 0 (fs.map fieldA).length]))[i]?=some (.agg [sA kn,.sl Y 0 (fs.map fieldA).length]):=by rw[List.getElem?_set_self (by omega)]
  refine AWP.closeIn (X:=Y) (Y:=K) .here (.next (.next .here)) rfl rfl (Hos.at hMs (.agg (.tail (.head .here)))) ?_;rw[List.set_set];(repeat first|refine WK ?_|refine Ai λX=>?_|refine Ay λY=>?_);refine Ae (i+1) _ ⟨h,?_⟩;rw[hM];exact hset
 ·have h:i=ks.length:=by rw[decide_eq_false_iff_not,hkm]at hc;omega
  subst h;have hfin:Hr ks ks.length=ks.map (BD true):=by simp[Hr]
  rw[hfin]at hM;subst hM;(repeat first|refine WK ?_|refine Ai λX=>?_|refine Ay λY=>?_);refine RT ?_;exact⟨[.sl K 0 (ks.map (BD false)).length],[A3 true true ks],_,[],.cons (.tmp rfl) rfl .nil,.cons (.cell (.sl (p:=0) .here (by simp))) .nil,by exact Sub.f,rfl,rfl⟩
def SB(x:Item):AV:=.agg [iA x.ent.n,iA x.ent.gen,As true false x.comps]
abbrev SQ(o:Bool)(l:List Item):AV:=.lst o 71 3 (l.map SB)
theorem TW.fz{a b:AV}[h:Frz a b]:TW a b []:=h.h▸ .frz
theorem TV.pr{u:Value}:TV (.prim u) (.prim u) []:=.cell .frz rfl rfl
theorem O5(c:Comp):FreeE (AG false c):=.agg λx hx=>by
 simp only[List.mem_cons,List.not_mem_nil,or_false]at hx;rcases hx with rfl|rfl
 ·exact .prim _
 ·exact λm c bs k=>k.1
theorem NK(l:List Comp):FreeL (l.map (AG false)):=λx hx=>by obtain⟨y,_,rfl⟩:=List.mem_map.1 hx;exact O5 y
theorem O4(l:List Comp):∀x∈l.map (AG false),x.width=2:=λx hx=>by obtain⟨y,_,rfl⟩:=List.mem_map.1 hx;rfl
theorem W.makeMap{P:Program}{ty t k e:TypeId}{pos:String}{after:Array Edge}{dst:Option Tmp}{c:Option (List Bool)}{g:Option (Nat×Bool)}{T:List (Nat×AV)}{S:List AA}{X p:Nat}{z0:Value}[TMap P t k e z0](hS:At S p (X,.gone)):Stp c P ⟨dst,.makeMap t none,ty,pos,after,g⟩ T S [] [(p,(X,.gone))] (.mp X) [(p,(X,.ob (MapF P k e (λ_=>none) 0)))]:=⟨.makeMap (TMap.h (z0:=z0)),.nil,.cons hS .nil⟩
theorem ArOK.keys_items{a:Ar}(h:ArOK a):A5 a.ts=(AZ a.ts).map (·.ent.n):=by
 rw[A5,AZ,List.map_flatMap]
 have:∀ts:List Tab,(∀t∈ts,∀e∈t.es,e.1=e.2.n)->(ts.flatMap λt=>AF t.es)=ts.flatMap λt=>(Bc t).map (·.ent.n):=by
  intro ts
  induction ts with
  |nil=>intro _;rfl
  |cons t ts ih=>
   intro hh;rw[List.flatMap_cons,List.flatMap_cons,ih λu hu=>hh u (by simp[hu])]
   congr 1
   rw[Bc,List.map_map];exact List.map_congr_left λe he=>hh t (by simp) e he
 exact this a.ts h.ent
theorem WdOK.cl{w:Wd}(h:WdOK w):∀it∈w.items,it.comps.length<=16:=λit hi=>by
 obtain⟨_,_,_,_,e⟩:=h.it it hi;obtain⟨h1,h2⟩:=held_iff.1 e;have h16:=(BU h.ks).1;have:=FD (λc:Comp=>c.kind) w.kinds.length it.comps (h1.imp λ{a b} hab e=>by omega) (λc hc=>⟨(h2 c hc).1,(h2 c hc).2.1⟩);omega
set_option maxRecDepth 8000 in
set_option maxHeartbeats 4000000 in
theorem Sk(w:Wd)(hw:WdOK w):Spec Tryz.prog 21 [wdA false w] [] λr S'=>∃b:Ar,(ArOK b/\Dn b.ts/\b.kinds=w.kinds/\b.gens=w.gens/\(AZ b.ts).Perm w.items)/\r= .tup [.ptr b.A 0 0,iA 0]/\S'=arS b:=by
 have hL:=hw.wl;have hgl:=hw.gl;have hil:=hw.il;have hsok:=hw.so;have hit:=hw.it;have hkp:=HZ w.kinds (by have:=(BU hw.ks).1;omega) (λk hk=>by have:=(Cg ((BU hw.ks).2 k hk)).2.1;omega);have hcl:=Fc w.gens (by omega);have hck:=Fd w (by omega) (by omega) (λit hi=>(hL.items.2 it hi).1);rw[(BI w).2 hw]at hck;have hcc:=hw.cl;have hcp:∀it∈w.items,PS Tryz.prog 59 [As false false it.comps] (As true false it.comps):=λit hi=>Gj it.comps (hL.items.2 it hi).1 (hL.items.2 it hi).2
 have hime:(w.items.map (AD false)).length=w.items.length:=List.length_map _;obtain⟨ks,gs,its⟩:=w;dsimp only at*;refine Spec.of (nt:=38) (res:=[.tmp 2,.tmp 3]) Tryz.func21 rfl (by kernel_rfl) rfl rfl rfl λSf=>?_
 refine RG ?_;(repeat first|refine WO ?_|refine Ai λD=>?_|refine Ay λY=>?_);refine NL ?_;refine FL ?_;refine RG ?_;(repeat first|(refine AOps.gN ?_;first|(refine AOps.g_callf ?_;first|refine AOps.c1 (h:=(hck ..)) (k:=?_)))|refine WO ?_|refine Ai λX=>?_|refine Ay λY=>?_);refine NL ?_;refine FL ?_;refine RG ?_;(repeat first|refine WO ?_|refine Ai λX=>?_|refine Ay λY=>?_);refine NL ?_;refine FL ?_;refine AE rfl rfl ?_;refine FL ?_;have hgm:(gs.map iA).length=gs.length:=List.length_map _;refine AWP.rs λA=>AWP.rs λG=>AWP.rs λO=>?_
 refine RU ?_;(repeat first|(refine RGo.gN ?_;first|(refine RGo.g_callf ?_;first|refine RGo.c1 (h:=(hkp ..)) (k:=?_)|refine FM (h:=hcl) (hT:=.ls (Y:=G)) (k:=?_))|refine RGo.goS (h:=W.makeMap (X:=O) (by exact At.f)) (k:=?_)|refine RGo.goS (h:=W.box (X:=A) rfl (by exact At.f) rfl) (k:=?_))|(refine RGo.gQ ?_;first|(refine RGo.g_callf ?_;first|refine RGo.c1 (h:=(hkp ..)) (k:=?_)|refine FM (h:=hcl) (hT:=.ls (Y:=G)) (k:=?_))|refine RGo.goS (h:=W.makeMap (X:=O) (by exact At.f)) (k:=?_)|refine RGo.goS (h:=W.box (X:=A) rfl (by exact At.f) rfl) (k:=?_))|refine RK ?_|refine RGo.nil (by kernel_rfl) ?_);refine FL ?_;refine AWP.adoptIn (Y:=A) 145 1 (by exact At.f) (λTb=>.cons (.agg (.cons .same (.cons .same (.cons (.base .nil) (.cons .same .nil))))) .nil) λTb=>?_
 rw[hgm];refine AWP.note (λ_ _=>False) (λ_ _ h=>h) λTv=>?_
 refine RG ?_;(repeat first|refine WO ?_|refine Ai λX=>?_|refine Ay λY=>?_);refine NL ?_;refine FL ?_;refine AWP.front Tb ?_;refine AWP.front Tv ?_;refine AWP.front O ?_;refine AWP.front G ?_;refine AWP.front A ?_;refine AWP.front D ?_;refine BH (λ(i:Nat) (b:Ar)=>⟨[(5,.ptr A 0 0),(23,G6 false false its),(24,iA (its.map (AD false)).length),(25,iA i)],(D,.row 26 3 [wdA false ⟨ks,gs,its⟩])::(arS b++Sf)⟩) (λi b=>i<=its.length/\ArOK b/\Dn b.ts/\b.A=A/\b.kinds=ks/\b.gens=gs/\(AZ b.ts).Perm (its.take i)) (λi _=>its.length-i) 0 ⟨A,G,Tb,O,Tv,λ_ _=>False,λ_=>none,0,ks,gs,[]⟩ ⟨by omega,⟨by simp,.nil,.nil,by simp,by simp,by simp,rfl⟩,(by intro t ht;cases ht),rfl,rfl,rfl,.refl _⟩ ?_;rintro i b ⟨hi,hok,hne,hA,hbk,hbg,hpm⟩;subst hA;refine RG ?_;(repeat first|refine WO ?_|refine Ai λX=>?_|refine Ay λY=>?_);refine NL ?_;refine FL ?_;refine AWP.cond rfl (λh=>?_) (λh=>?_)
 ·have h:i<its.length:=by rw[decide_eq_true_eq,hime]at h;omega
  have hat:(its.map (AD false))[i]?=some (AD false its[i]):=Am _ h;have hil:i<(its.map (AD false)).length:=by omega
  have him:=List.getElem_mem h;obtain⟨it1,it2,_⟩:=hit _ him;have hcpi:=hcp _ him
  have hfr:its[i].ent.n∉A5 b.ts:=by
   rw[hok.keys_items];intro hm;obtain⟨x,hx,e⟩:=List.mem_map.1 hm;have hx:=hpm.mem_iff.1 hx;obtain⟨j,hj,rfl⟩:=List.mem_take_iff_getElem.1 hx;have:=List.pairwise_iff_getElem.1 hsok j i (by omega) h (by omega);omega
  have had:=JK b its[i].ent its[i].comps hok hne ⟨it1,by omega⟩ hfr (hcc _ him);have htk:its.take (i+1)=its.take i++[its[i]]:=List.take_succ_eq_append_getElem h;obtain⟨⟨ie,ic⟩,hie⟩:∃it,its[i]=it:=⟨_,rfl⟩;rw[hie]at hat hcpi had htk;refine FL ?_;refine RG ?_;(repeat first|refine WO ?_|refine Ai λC=>?_|refine Ay λY=>?_);refine NL ?_;refine FL ?_;(repeat refine WF ?_);refine Cz 6 (by kernel_rfl) (by kernel_rfl) (by kernel_rfl) ?_;dsimp only[List.take,List.drop];(repeat first|(refine RGo.gN ?_;first|(refine RGo.g_callf ?_;first|refine RGo.c1 (h:=(hcpi ..)) (k:=?_)))|(refine RGo.gQ ?_;first|(refine RGo.g_callf ?_;first|refine RGo.c1 (h:=(hcpi ..)) (k:=?_)))|refine RK ?_|refine RGo.nil (by kernel_rfl) ?_);refine DK [_,_] (h:=had) λb' hb'=>?_
  obtain⟨k1,k2,k3,k4,k5,k6⟩:=hb';refine AOps.nil ?_;refine FL ?_;refine RG ?_;(repeat first|refine WO ?_|refine Ai λX=>?_|refine Ay λY=>?_);refine NL ?_
  exact Ae (i+1) b' ⟨by omega,k1,k2,k3,k4.trans hbk,k5.trans hbg,by
   rw[htk];exact k6.trans ((hpm.cons _).trans (List.perm_append_singleton _ _).symm)⟩ (by omega)
 ·have h:i=its.length:=by rw[decide_eq_false_iff_not,hime]at h;omega
  subst h;rw[List.take_length]at hpm;refine FL ?_;refine RG ?_;(repeat first|refine WO ?_|refine Ai λX=>?_|refine Ay λY=>?_);refine NL ?_;refine RT ?_;exact AQ [.ptr b.A 0 0,iA 0] (arS b) ⟨b,⟨hok,hne,hbk,hbg,hpm⟩,rfl,rfl⟩
theorem QT(a:Ar)(ha:ArOK a)(e:Ent)(k:Int)(hn:I64 e.n)(hh:Es a e=false):Spec Tryz.prog 268 [.ptr a.A 0 0,Ac e,iA k] (arS a) λr S'=>r=iA 4/\S'=arS a:=by
 have hs:=HE a ha e hn;rw[hh]at hs;refine Spec.of (nt:=41) (res:=[.tmp 6]) Tryz.func268 rfl (by kernel_rfl) rfl rfl rfl λSf=>?_
 refine RG ?_;(repeat first|refine WO ?_|refine Ai λB=>?_|refine Ay λY=>?_);refine NL ?_;refine FL ?_;refine RG ?_;(repeat first|(refine AOps.gN ?_;first|refine DZ [_] (h:=hs) (k:=?_))|refine WO ?_|refine Ai λX=>?_|refine Ay λY=>?_);refine NL ?_;refine AU rfl rfl ?_;refine FL ?_;refine RG ?_;(repeat first|refine WO ?_|refine Ai λX=>?_|refine Ay λY=>?_);refine NL ?_;refine RT ?_;exact AQ [iA 4] (arS a) ⟨rfl,rfl⟩
theorem ArOK.ptr{a:Ar}(h:ArOK a){t:Tab}(ht:t∈a.ts){n:Int}(hn:n∈AF t.es):∃u,(a.g n).getD (.pointer none)=u/\u.oneCell'=true/\a.K (.ptr t.X 0 0) u:=by
 have hsm:=h.gn n (List.mem_flatMap.2 ⟨t,ht,hn⟩);obtain⟨u,hu⟩:∃u,a.g n=some u:=Option.isSome_iff_exists.1 hsm;obtain⟨w,hw,hwn,hK,b,hb⟩:=h.g n u hu;have:=h.uniq hw ht hwn hn;subst this;exact⟨u,by rw[hu];rfl,by rw[hb];rfl,hK⟩
theorem Iy{a b:Ar}(ha:ArOK a)(hb:ArOK b){e:Ent}{l:List Comp}(hit:(AZ a.ts).Perm (⟨e,l⟩::AZ b.ts)):e.n∉A5 b.ts:=by
 have h1:=ha.keys;rw[ha.keys_items]at h1;have h2:=(hit.map λit:Item=>it.ent.n).nodup_iff.1 h1;rw[hb.keys_items];exact(List.nodup_cons.1 h2).1
theorem Lq{l:List Int}{k:Int}(hs:l.Pairwise (· < ·))(h:k∈l):∃hl:Ih l k<l.length,l[Ih l k]=k:=by
 obtain⟨i,hi,rfl⟩:=List.mem_iff_getElem.1 h;have hsp:=List.pairwise_iff_getElem.1 hs
 have e:=No (l:=l) (n:=l[i]) (i:=i) (by omega) (λj hj hlt=>hsp j i hj hi hlt) (λj hj hle=>by
  rcases Nat.lt_or_eq_of_le hle with h|rfl
  ·have:=hsp i j hi hj h;omega
  ·exact Int.le_refl _)
 exact⟨by rw[e];exact hi,by simp only[e]⟩
structure SwapR(a:Ar)(e:Ent)(l l':List Comp)(b:Ar):Prop where
 ok:ArOK b
 ne:Dn b.ts
 A:b.A=a.A
 kinds:b.kinds=a.kinds
 gens:b.gens=a.gens
 items:∃r,(AZ a.ts).Perm (⟨e,l⟩::r)/\(AZ b.ts).Perm (⟨e,l'⟩::r)
set_option maxRecDepth 8000 in
theorem O1(a:Ar)(ha:ArOK a)(hne:Dn a.ts)(e:Ent)(k:Int)(hn:I64 e.n)(hkl:I64 k)(hh:Es a e=true){l1 l2:List Tab}{t:Tab}(hts:a.ts=l1++t::l2)(hm:(e.n,e)∈t.es)(hks:t.ks.Pairwise (· < ·)):Spec Tryz.prog 268 [.ptr a.A 0 0,Ac e,iA k] (arS a) λr S'=>∃b:Ar,(if k∈t.ks then SwapR a e (AL t e.n) ((AL t e.n).eraseIdx (Ih t.ks k)) b else b=a)/\r=iA (if k∈t.ks then 0 else 4)/\S'=arS b:=by
 have htm:t∈a.ts:=by rw[hts];simp
 have hto:=ha.tab t htm;have hnk:e.n∈AF t.es:=List.mem_map.2 ⟨_,hm,rfl⟩;have hnl:=hto.es.lt _ hnk;have hs:=HE a ha e hn;rw[hh]at hs;have hbs:=N4 t.ks k hks (by have:=hto.ks;omega);obtain⟨u,hgd,hone,hK⟩:=ha.ptr htm hnk;refine Spec.of (nt:=41) (res:=[.tmp 6]) Tryz.func268 rfl (by kernel_rfl) rfl rfl rfl λSf=>?_
 refine RG ?_;(repeat first|refine WO ?_|refine Ai λB=>?_|refine Ay λY=>?_);refine NL ?_;refine FL ?_;refine RG ?_;(repeat first|(refine AOps.gN ?_;first|refine DZ [_] (h:=hs) (k:=?_))|refine WO ?_|refine Ai λX=>?_|refine Ay λY=>?_);refine NL ?_;refine AE rfl rfl ?_;refine FL ?_;refine AWP.perm (List.Perm.cons _ (Dc hts Sf)) ?_;refine RU ?_;(repeat first|(refine RGo.gN ?_;first|(refine RGo.g_callf ?_;first|refine RGo.c2 (h:=(hbs ..)) (k:=?_))|refine RGo.go (h:=W.lookP (.ptr t.X 0 0) hgd hn hone hK rfl rfl (by exact At.f) (by exact At.f)) (k:=?_))|(refine RGo.gQ ?_;first|(refine RGo.g_callf ?_;first|refine RGo.c2 (h:=(hbs ..)) (k:=?_))|refine RGo.go (h:=W.lookP (.ptr t.X 0 0) hgd hn hone hK rfl rfl (by exact At.f) (by exact At.f)) (k:=?_))|refine RK ?_|refine RGo.nil (by kernel_rfl) ?_);by_cases hk:k∈t.ks
 ·rw[decide_eq_true hk]
  simp only[if_pos hk];refine FL ?_;refine RG ?_;(repeat first|refine WO ?_|refine Ai λX=>?_|refine Ay λY=>?_);refine NL ?_;refine AE rfl rfl ?_;refine FL ?_;refine AWP.perm (List.Perm.cons _ (Dc hts Sf).symm) ?_;(repeat refine WF ?_);have htk:=KZ a ha hne hts hnk;obtain⟨i,hi⟩:∃i,Ih t.ks k=i:=⟨_,rfl⟩;rw[hi];obtain⟨hil,hik⟩:=Lq hks hk;rw[hi]at hil;have htl:(AL t e.n).length=t.ks.length:=by unfold AL;rw[List.length_map,List.length_zip];have:=hto.len;omega
  have h16:=hto.ks;refine C0 (n:=1) [(B,.row 32 2 [Ac e])] (arS a++Sf) rfl (by kernel_rfl) (by kernel_rfl) ?_;refine RGoH.go ?_;refine RGoH.go ?_;refine RGoH.go ?_;refine RGoH.go ?_;refine RGoH.go ?_;refine RGoH.skip [32,34] ?_;refine RGoH.go ?_;refine RGoH.go ?_;refine RGoH.go (h:=AT ((i:Int)+1) (by omega) (by omega) rfl rfl) ?_;refine RGoH.skip [35,36,38] ?_;refine RGoH.skip [30,31,39] ?_;refine RGoH.nil (by kernel_rfl) (by kernel_rfl) (by kernel_rfl) ?_;refine HC.step [(32,.ptr a.A 0 0),(34,iA e.n)] ⟨rfl,rfl,rfl,rfl,trivial⟩ λT F=>?_
  refine JR F (h:=htk) (k:=λY _ K=>?_);obtain⟨hok,hne2,hA,hki,hge,hit⟩:=Ik ha hne hts hm Y;obtain⟨b,hb⟩:∃b,D5 a l1 l2 t e.n Y=b:=⟨_,rfl⟩;rw[hb]at hok hne2 hA hki hge hit⊢;refine AOps.perm List.perm_middle.symm ?_;refine AOps.nil ⟨rfl,_,_,⟨λd v h=>h,.refl _⟩,?_⟩;have hdl:=NJ K (AL t e.n).length i ((AL t e.n).map (AG false)) (List.length_map _).symm (by omega) (by omega) (NK _) (O4 _);rw[<-FZ]at hdl;refine HC.step [(35,.sl K 0 ((AL t e.n).map (AG false)).length),(36,iA i),(38,iA ((i:Int)+1))] ⟨rfl,rfl,rfl,rfl,rfl,rfl,trivial⟩ λT2 F2=>?_
  rw[List.length_map];refine R7 F2 (h:=hdl) (k:=?_) (R:=arS b++Sf);refine AOps.nil ⟨rfl,_,_,⟨λd v h=>h,.refl _⟩,?_⟩;rw[<-hA];refine HC.step [(30,.ptr b.A 0 0),(31,Ac e),(39,As false false ((AL t e.n).eraseIdx i))] ⟨rfl,rfl,rfl,rfl,rfl,rfl,trivial⟩ λT3 F3=>?_
  have had:=JK b e ((AL t e.n).eraseIdx i) hok hne2 hnl (Iy ha hok hit) (by rw[List.length_eraseIdx];split<;>omega);refine DK F3 (h:=had) (k:=λb2 hb2=>?_);refine AOps.nil ⟨rfl,_,_,⟨λd v h=>h,.refl _⟩,?_⟩;show andThen _ _ _ _
  refine FL ?_;refine RG ?_;(repeat first|refine WO ?_|refine Ai λX=>?_|refine Ay λY=>?_);refine NL ?_;refine RT ?_;obtain⟨g1,g2,g3,g4,g5,g6⟩:=hb2;exact AQ [iA 0] (arS b2) ⟨b2,⟨g1,g2,g3.trans hA,g4.trans hki,g5.trans hge,_,hit,g6⟩,rfl,rfl⟩
 ·rw[decide_eq_false hk]
  simp only[if_neg hk];refine FL ?_;refine RG ?_;(repeat first|refine WO ?_|refine Ai λX=>?_|refine Ay λY=>?_);refine NL ?_;refine AU rfl rfl ?_;refine FL ?_;refine AWP.perm (List.Perm.cons _ (Dc hts Sf).symm) ?_;refine RG ?_;(repeat first|refine WO ?_|refine Ai λX=>?_|refine Ay λY=>?_);refine NL ?_;refine RT ?_;exact AQ [iA 4] (arS a) ⟨a,rfl,rfl,rfl⟩
section
open Go.Sort
set_option maxHeartbeats 1000000 in
theorem Rb(f:FuncId)(cap:List AV)(cf:Comp->Comp->Int)(hst:Bd cap=true)(hcf:∀x y,PS Tryz.prog f ((AG false) x::(AG false) y::cap) (iA (cf x y)))(X n:Nat)(d:Array Comp)(a b:Nat)(hn:n=d.size)(hab:a<=b)(hb:b<=d.size)(hz:d.size<=1099511627776):PO Tryz.prog 251 [.sl X 0 n,iA a,iA b,.fn f cap] X (.row 42 2 (d.toList.map (AG false))) (.tup []) (.row 42 2 ((insertionSort (AB cf) d a b).toList.map (AG false))):=by
 obtain⟨r,hr⟩:∃r,insertionSort (AB cf) d a b=r:=⟨_,rfl⟩;rw[hr];unfold insertionSort at hr;refine Spec.of (nt:=53) (res:=[]) Tryz.func251 rfl (by kernel_rfl) rfl rfl rfl λSf=>?_
 (repeat first|refine WK ?_|refine Ai λX=>?_|refine Ay λY=>?_);refine BH (λ(i:Nat) (e:Array Comp)=>⟨[(0,.sl X 0 n),(1,iA a),(2,iA b),(3,.fn f cap),(8,iA i)],(X,.row 42 2 (e.toList.map (AG false)))::Sf⟩) (λi e=>i<=max b (a+1)/\a<i/\e.size=d.size/\insOuter (AB cf) a b i e=r) (λi _=>b-i) (a+1) d ⟨by omega,by omega,rfl,hr⟩ ?_;rintro i e ⟨hi,hai,he,hfold⟩;rw[insOuter]at hfold;(repeat first|refine WK ?_|refine Ai λX=>?_|refine Ay λY=>?_);refine AWP.cond rfl (λhc=>?_) (λhc=>?_)
 ·have h:i<b:=by have:=of_decide_eq_true hc;omega
  rw[if_pos h]at hfold;(repeat first|refine WK ?_|refine Ai λX=>?_|refine Ay λY=>?_);refine BH (λ(j:Nat) (u:Array Comp)=>⟨[(0,.sl X 0 n),(1,iA a),(2,iA b),(3,.fn f cap),(8,iA i),(9,iA j)],(X,.row 42 2 (u.toList.map (AG false)))::Sf⟩) (λj u=>j<=i/\u.size=d.size/\insInner (AB cf) a j u=insInner (AB cf) a i e) (λj _=>j) i e ⟨Nat.le_refl _,he,rfl⟩ ?_;rintro j u ⟨hj,hu,hin⟩;rcases Bool.eq_false_or_eq_true (decide ((a:Int)<(j:Int)))with g|g
  ·have hja:a<j:=by have:=of_decide_eq_true g;omega
   obtain⟨q,rfl⟩:∃q,j=q+1:=⟨j-1,by omega⟩;have h1:=AM (AG false) (d:=u) (i:=q+1) (by omega);have h2:=AM (AG false) (d:=u) (i:=q) (by omega);have hl:=hcf (u[q+1]!) (u[q]!);rw[insInner]at hin;(repeat refine WF ?_);refine RU ?_;(repeat first|(refine RGo.gN ?_;first|(refine RGo.g_callv ?_;first|refine RGo.k2 (h:=(hl ..)) (k:=?_))|refine RGo.go (h:=AK (q:Int) (by omega) (by omega) rfl rfl) (k:=?_))|(refine RGo.gQ ?_;first|(refine RGo.g_callv ?_;first|refine RGo.k2 (h:=(hl ..)) (k:=?_))|refine RGo.go (h:=AK (q:Int) (by omega) (by omega) rfl rfl) (k:=?_))|refine RK ?_|refine RGo.nil (by kernel_rfl) ?_);(repeat refine WF ?_);refine AWP.cond rfl (λhd=>?_) (λhd=>?_)
   ·have hd:(AB cf) u[q+1]! u[q]! =true:=by simpa[g,AB]using hd
    rw[hd,if_pos (by simp;omega)]at hin;obtain⟨y,hy⟩:=Av (AG false) (d:=u) (i:=q+1) (j:=q) (by omega) u[q]!;(repeat refine WF ?_);refine RU ?_;(repeat first|(refine RGo.gN ?_;first|refine RGo.go (h:=AK (q:Int) (by omega) (by omega) rfl rfl) (k:=?_)|refine RGo.s (W.store rfl rfl (by exact At.f) hy (by exact rfl)) rfl ?_)|(refine RGo.gQ ?_;first|refine RGo.go (h:=AK (q:Int) (by omega) (by omega) rfl rfl) (k:=?_)|refine RGo.s (W.store rfl rfl (by exact At.f) hy (by exact rfl)) rfl ?_)|refine RK ?_|refine RGo.nil (by kernel_rfl) ?_);(repeat first|(refine AOps.gN ?_;first|refine AOps.p (AK (q:Int) (by omega) (by omega) rfl rfl) rfl ?_)|refine WK ?_|refine Ai λX=>?_|refine Ay λY=>?_);refine Ae q (swp u (q+1) q) ⟨by omega,by rw[size_swp];exact hu,hin⟩ (h0:=by rw[<-BA (AG false) (by omega) (by omega)];exact⟨by exact Lk.f,by exact Sub.f⟩)
   ·have hd:(AB cf) u[q+1]! u[q]! =false:=by simpa[g,AB]using hd
    rw[hd,if_neg (by simp)]at hin;(repeat first|refine WK ?_|refine Ai λX=>?_|refine Ay λY=>?_);refine Ae (i+1) u ⟨by omega,by omega,hu,by rw[hin];exact hfold⟩
  ·have hja:j<=a:=by have:=of_decide_eq_false g;omega
   have hin2:insInner (AB cf) a j u=u:=by
    cases j with
    |zero=>rfl
    |succ q=>rw[insInner,if_neg (by simp;omega)]
   rw[hin2]at hin;(repeat refine WF ?_);refine RU ?_;(repeat first|refine RK ?_|refine RGo.nil (by kernel_rfl) ?_);(repeat refine WF ?_);refine AE rfl (by simp[g]) ?_;(repeat first|refine WK ?_|refine Ai λX=>?_|refine Ay λY=>?_);refine Ae (i+1) u ⟨by omega,by omega,hu,by rw[hin];exact hfold⟩
 ·have h:¬i<b:=by have:=of_decide_eq_false hc;omega
  rw[if_neg h]at hfold;subst hfold;(repeat first|refine WK ?_|refine Ai λX=>?_|refine Ay λY=>?_);refine CT ?_;exact Au [(X,.row 42 2 (e.toList.map (AG false)))] ⟨rfl,rfl⟩
end
section
open Go.Sort
theorem Mu(f:FuncId)(cap:List AV)(cf:Comp->Comp->Int)(hst:Bd cap=true)(hf:∀x y,PS Tryz.prog f (AG false x::AG false y::cap) (iA (cf x y)))(X n limit:Nat)(d:Array Comp)(hn:n=d.size)(h12:d.size<=12):PO Tryz.prog 207 [.sl X 0 n,iA 0,iA n,iA limit,.fn f cap] X (.row 42 2 (d.toList.map (AG false))) (.tup []) (.row 42 2 ((insertionSort (AB cf) d 0 d.size).toList.map (AG false))):=by
 have hs:=Rb f cap cf hst hf X n d 0 d.size hn (Nat.zero_le _) (Nat.le_refl _) (by omega);rw[<-hn]at hs;have hsz:d.size=n:=hn.symm;refine Spec.of (nt:=148) (res:=[]) Tryz.func207 rfl (by kernel_rfl) rfl rfl rfl λSf=>?_
 (repeat first|refine WK ?_|refine Ai λX=>?_|refine Ay λY=>?_);refine BN (λ_:Unit=>⟨[(0,.sl X 0 n),(1,iA 0),(2,iA n),(3,iA limit),(4,.fn f cap)],(X,.row 42 2 (d.toList.map (AG false)))::Sf⟩) (λ_=>True) (λ_=>0) () trivial ?_;rintro _ _;refine AWP.block ?_;(repeat first|(refine AOps.gN ?_;first|refine AOps.p (AK (n:Int) (by omega) (by omega) rfl rfl) rfl ?_)|refine WK ?_|refine Ai λX=>?_|refine Ay λY=>?_);refine AU rfl (decide_eq_true (by omega)) ?_;(repeat first|(refine AOps.gN ?_;first|(refine AOps.g_callf ?_;first|refine DL (h:=(hs ..)) (k:=?_)))|refine WK ?_|refine Ai λX=>?_|refine Ay λY=>?_);refine RT ?_;rw[hsz];exact Au [(X,_)] ⟨rfl,rfl⟩
theorem FC{α:Type}[Inhabited α]{d u:Array α}(h:PermIn 0 d.size d u):u.toList.Perm d.toList:=by
 obtain⟨h1,_,h3⟩:=h;have e1:u.extract 0 d.size=u:=by rw[<-h1];exact Array.extract_size
 rwa[e1,Array.extract_size]at h3
theorem ES{α:Type}[Inhabited α]{lt:α->α->Bool}{u:Array α}{n:Nat}(hn:n=u.size)(h:SortedIn lt 0 n u):u.toList.Pairwise λa b=>lt b a=false:=by
 rw[List.pairwise_iff_getElem];intro i j hi hj hij;have hi':i<u.size:=by simpa using hi
 have hj':j<u.size:=by simpa using hj
 have:=h i j (Nat.zero_le _) hij (by omega);rw[getElem!_pos u j hj',getElem!_pos u i hi']at this;simpa using this
set_option maxRecDepth 8000 in
theorem GS(f:FuncId)(cap:List AV)(cf:Comp->Comp->Int)(hst:Bd cap=true)(hS:SWO (AB cf))(hf:∀x y,PS Tryz.prog f (AG false x::AG false y::cap) (iA (cf x y)))(X n:Nat)(l:List Comp)(hn:n=l.length)(h12:l.length<=12):
  ∃u:List Comp,(u.Perm l/\u.Pairwise λa b=>AB cf b a=false)/\PO Tryz.prog 136 [.sl X 0 n,.fn f cap] X (.row 42 2 (l.map (AG false))) (.tup []) (.row 42 2 (u.map (AG false))):=by
 obtain⟨p1,p2⟩:=insertionSort_holds (lt:=AB cf) hS l.toArray 0 l.toArray.size (Nat.zero_le _) (Nat.le_refl _);have e1:(UInt64.ofNat n).toNat=n:=by rw[UInt64.toNat_ofNat'];omega
 have hlen:=Kl (UInt64.ofNat n) (by rw[e1];omega);rw[e1]at hlen;have hs:=Mu f cap cf hst hf X n (bitsLen n) l.toArray (by simpa using hn) (by simpa using h12);obtain⟨u,hu⟩:∃u,insertionSort (AB cf) l.toArray 0 l.toArray.size=u:=⟨_,rfl⟩;rw[hu]at p1 p2 hs;refine⟨u.toList,⟨by simpa using FC p1,ES p1.1.symm p2⟩,?_⟩;simp only[List.toList_toArray]at hs;refine Spec.of (nt:=14) (res:=[]) Tryz.func136 rfl (by kernel_rfl) rfl rfl rfl λSf=>?_
 (repeat first|(refine AOps.gN ?_;first|(refine AOps.g_callf ?_;first|refine AOps.c1 (h:=(hlen ..)) (k:=?_)|refine Do (h:=(hs ..)) (k:=?_))|refine AOps.p (HN .i64 n rfl (by omega) (by kernel_rfl) (by kernel_rfl) rfl) rfl ?_)|refine WK ?_|refine Ai λX=>?_|refine Ay λY=>?_);refine CT ?_;exact Au [(X,_)] ⟨rfl,rfl⟩
theorem FH(a b:Int):B6 a b<0↔a<b:=by
 unfold B6;split
 ·simp;assumption
 ·split<;>simp<;>omega
theorem Kb{α:Type}(key:α->Int):SWO (AB λx y=>B6 (key x) (key y))where
 irrefl x:=by simp only[AB,decide_eq_false_iff_not,FH];omega
 trans x y z h1 h2:=by simp only[AB,decide_eq_true_eq,FH]at*;omega
 ntrans x y z h1 h2:=by simp only[AB,decide_eq_false_iff_not,FH]at*;omega
end
theorem Jb(l:List Comp)(f:FuncId)(cap:List AV)(p:Comp->Bool)(hs:Bd cap=true)(hl:l.length<=4611686018427387904)(hf:∀x∈l,PS Tryz.prog f ((AG false) x::cap) (bA (p x))):PS Tryz.prog 206 [.lst false 42 2 (l.map (AG false)),.fn f cap] (iA (E6 l p)):=by
 refine Spec.of (nt:=19) (res:=[.tmp 4]) Tryz.func206 rfl (by kernel_rfl) rfl rfl rfl λSf=>?_
 (repeat first|refine WK ?_|refine Ai λX=>?_|refine Ay λY=>?_);refine BN (λi:Nat=>⟨[(0,.lst false 42 2 (l.map (AG false))),(1,.fn f cap),(7,iA (l.map (AG false)).length),(8,iA i)],Sf⟩) (λi=>i<=l.length/\∀j (h:j<l.length),j<i->p l[j]=false) (λi=>l.length-i) 0 ⟨Nat.zero_le _,λj h hj=>absurd hj (by omega)⟩ ?_;rintro i ⟨hi,he⟩;(repeat first|refine WK ?_|refine Ai λX=>?_|refine Ay λY=>?_);refine AWP.cond rfl (λhc=>?_) (λhc=>?_)
 ·have h:i<l.length:=by simpa using hc
  (repeat first|(refine AOps.gN ?_;first|(refine AOps.g_callv ?_;first|refine R9 (h:=(hf _ (List.getElem_mem h))) (k:=?_)))|refine WK ?_|refine Ai λX=>?_|refine Ay λY=>?_);refine AWP.cond rfl (λhd=>?_) (λhd=>?_)
  ·(repeat first|refine WK ?_|refine Ai λX=>?_|refine Ay λY=>?_)
   refine RT ?_;refine AX ?_;rw[J6 h hd λj hj=>he j (by omega) hj]
  ·(repeat first|refine WK ?_|refine Ai λX=>?_|refine Ay λY=>?_)
   refine A4 (i+1) ⟨h,λj h1 h2=>?_⟩;by_cases e:j=i
   ·subst e;exact hd
   ·exact he j h1 (by omega)
 ·have h:¬i<l.length:=by simpa using hc
  (repeat first|refine WK ?_|refine Ai λX=>?_|refine Ay λY=>?_);refine RT ?_;refine AX ?_;rw[J7 λj hj=>he j hj (by omega)]
theorem HK(l:List Comp)(f:FuncId)(cap:List AV)(p:Comp->Bool)(hs:Bd cap=true)(hl:l.length<=4611686018427387904)(hf:∀x∈l,PS Tryz.prog f ((AG false) x::cap) (bA (p x))):PS Tryz.prog 133 [.lst false 42 2 (l.map (AG false)),.fn f cap] (bA (l.any p)):=by
 refine Spec.of (nt:=9) (res:=[.tmp 4]) Tryz.func133 rfl (by kernel_rfl) rfl rfl rfl λSf=>?_
 (repeat first|(refine AOps.gN ?_;first|(refine AOps.g_callf ?_;first|refine AOps.c2 (h:=(Jb l f cap p hs hl hf)) (k:=?_)))|refine WK ?_|refine Ai λX=>?_|refine Ay λY=>?_);refine RT ?_;refine AX ?_;rw[<-P7]
section
open Go.Sort
theorem Ri(o c:Comp):PS Tryz.prog 134 [AG false o,.fp (AG false c).cells] (bA (decide (o.kind=c.kind))):=by
 refine Spec.of (nt:=9) (res:=[.tmp 3]) Tryz.func134 rfl (by kernel_rfl) rfl rfl rfl λSf=>?_
 (repeat first|(refine AOps.gN ?_;first|(refine AOps.g_box ?_;refine BT ?_))|refine WK ?_|refine Ai λX=>?_|refine Ay λY=>?_);refine RT ?_;refine AX ?_;rfl
theorem Rh(a b:Comp):PS Tryz.prog 137 [AG false a,AG false b] (iA (B6 a.kind b.kind)):=by
 refine Spec.of (nt:=10) (res:=[.tmp 4]) Tryz.func137 rfl (by kernel_rfl) rfl rfl rfl λSf=>?_
 (repeat first|(refine AOps.gN ?_;first|(refine AOps.g_callf ?_;first|refine AOps.c2 (h:=(C1 a.kind b.kind)) (k:=?_))|(refine AOps.g_box ?_;refine BT ?_))|refine WK ?_|refine Ai λX=>?_|refine Ay λY=>?_);refine RT ?_;refine AX ?_;rfl
set_option maxRecDepth 8000 in
set_option maxHeartbeats 2000000 in
theorem KX(ks:List Kind)(l:List Comp)(h12:ks.length<=12)(hl:l.length<=1099511627776):PS Tryz.prog 61 [A3 false false ks,As false false l] (.tup [As true false (CA ks l).1,iA (CA ks l).2]):=by
 have hck:=MO ks;obtain⟨r,hr⟩:∃r,CA ks l=r:=⟨_,rfl⟩;rw[hr];unfold CA at hr;have hlm:(l.map (AG false)).length=l.length:=List.length_map _;have hkm:(ks.map (BD false)).length=ks.length:=List.length_map _;refine Spec.of (nt:=64) (res:=[.tmp 4,.tmp 5]) Tryz.func61 rfl (by kernel_rfl) rfl rfl rfl λSf=>?_
 (repeat first|(refine AOps.gN ?_;first|(refine AOps.g_callf ?_;first|refine AOps.c1 (h:=(hck ..)) (k:=?_)))|refine WK ?_|refine Ai λX=>?_|refine Ay λY=>?_);refine AWP.cond rfl (λhc=>?_) (λhc=>?_)
 ·have hc:BE ks≠0:=by simpa using hc
  rw[if_pos hc]at hr;subst hr;(repeat first|refine WK ?_|refine Ai λX=>?_|refine Ay λY=>?_);refine RT ?_;exact BZ [.prim (.slice none 0 0),iA (BE ks)] [As true false [],iA (BE ks)] (.cons (.cell .nil) (.cons (.cell .same) .nil))
 have hc:BE ks=0:=by simpa using hc
 rw[if_neg (by simp[hc])]at hr;have hgo:=λh=>I0 (ks:=ks) (l:=l) (pre:=[]) (out:=[]) h (by simp) (by simp) (by simp)
 obtain⟨g,hg⟩:∃g,CG ks [] [] l=g:=⟨_,rfl⟩;rw[hg]at hr hgo;(repeat first|refine WK ?_|refine Ai λX=>?_|refine Ay λY=>?_);refine AWP.adopt (d:=7) 42 2 rfl λO=>?_
 refine K9 (λ(q Y m:Nat) (M:List AV)=>⟨[(0,A3 false false ks),(1,As false false l),(7,.sl Y 0 m),(17,As false false l),(18,iA (l.map (AG false)).length),(19,iA q)],(Y,.row 42 2 M)::Sf⟩) (λq _ m M=>q<=l.length/\m=M.length/\m=q/\∃out:List Comp,M=out.map (AG false)/\CG ks (l.take q) out (l.drop q)=g) (λq _ _ _=>l.length-q) 0 O 0 [] ⟨Nat.zero_le _,rfl,rfl,[],rfl,hg⟩ ?_;rintro q Y m M ⟨hq,hm,hmq,out,hM,hfold⟩;(repeat first|refine WK ?_|refine Ai λX=>?_|refine Ay λY=>?_);refine AWP.cond rfl (λhe=>?_) (λhe=>?_)
 ·have h:q<l.length:=by rw[decide_eq_true_eq,hlm]at he;omega
  obtain⟨c,hcq⟩:∃c,l[q]=c:=⟨_,rfl⟩;have hat:(l.map (AG false))[q]?=some (AG false c):=by rw[List.getElem?_map,List.getElem?_eq_getElem h,hcq];rfl
  rw[List.drop_eq_getElem_cons h,hcq,CG]at hfold;have hcf:=HK (l.take q) 134 [.fp (AG false c).cells] (λo=>decide (o.kind=c.kind)) rfl (by rw[List.length_take];omega) (λo _=>Ri o c);obtain⟨ck,cv⟩:=c;dsimp only at hfold hcf;rw[List.map_take]at hcf;(repeat first|refine WK ?_|refine Ai λV=>?_|refine Ay λY=>?_);refine AWP.cond rfl (λhd=>?_) (λhd=>?_)
  ·have hb:ck<0\/(ks.length:Int)<=ck:=by simpa using hd
   rw[if_pos hb]at hfold;subst hfold;rw[if_pos (by decide)]at hr;subst hr;(repeat first|refine WK ?_|refine Ai λX=>?_|refine Ay λY=>?_);refine RT ?_;exact BZ [.prim (.slice none 0 0),iA 1] [As true false [],iA 1] (.cons (.cell .nil) (.cons (.cell .same) .nil))
  have hb:¬(ck<0\/(ks.length:Int)<=ck):=by simpa using hd
  rw[if_neg hb]at hfold;obtain⟨j,hj⟩:∃j:Nat,ck=j:=⟨ck.toNat,by omega⟩;subst hj;have hjl:j<ks.length:=by omega
  rw[Int.toNat_natCast,List.getElem?_eq_getElem hjl]at hfold;obtain⟨k,hk⟩:∃k,ks[j]=k:=⟨_,rfl⟩;rw[hk]at hfold;dsimp only at hfold;have hatk:(ks.map (BD false))[j]?=some (BD false k):=by rw[List.getElem?_map,List.getElem?_eq_getElem hjl,hk];rfl
  have hft:=QJ k cv;refine AWP.iceP [9] (X:=V) (by exact At.f) (b:=AG false ⟨j,cv⟩) (hf:=⟨by show(AV.agg [iA (j:Int),AW false cv]).frz=_;exact Frz.h⟩) ?_ (by intro d hd;simp only[List.mem_singleton]at hd;subst hd;rfl);(repeat first|(refine AOps.gN ?_;first|(refine AOps.g_callf ?_;first|refine AOps.c2 (h:=(hcf ..)) (k:=?_))|refine AOps.p (W.hiL rfl rfl rfl (by rw[hlm];exact hq)) rfl ?_)|refine WK ?_|refine Ai λX=>?_|refine Ay λY=>?_);refine AWP.cond rfl (λhd2=>?_) (λhd2=>?_)
  ·rw[if_pos hd2]at hfold
   subst hfold;rw[if_pos (by decide)]at hr;subst hr;(repeat first|refine WK ?_|refine Ai λX=>?_|refine Ay λY=>?_);refine RT ?_;exact BZ [.prim (.slice none 0 0),iA 5] [As true false [],iA 5] (.cons (.cell .nil) (.cons (.cell .same) .nil))
  rw[if_neg (by simp[hd2])]at hfold;refine RU ?_;(repeat first|(refine RGo.gN ?_;first|refine RGo.c2 (h:=hft) (k:=?_))|(refine RGo.gQ ?_;first|refine RGo.c2 (h:=hft) (k:=?_))|refine RK ?_|refine RGo.nil (by kernel_rfl) ?_);(repeat first|refine WK ?_|refine Ai λX=>?_|refine Ay λY=>?_);refine AWP.cond rfl (λhd3=>?_) (λhd3=>?_)
  ·have hd3:(BW k cv).2≠0:=by simpa using hd3
   rw[if_pos hd3]at hfold;subst hfold;rw[if_pos hd3]at hr;subst hr;(repeat first|refine WK ?_|refine Ai λX=>?_|refine Ay λY=>?_);refine RT ?_;exact BZ [.prim (.slice none 0 0),iA _] [As true false [],iA _] (.cons (.cell .nil) (.cons (.cell .same) .nil))
  have hd3:(BW k cv).2=0:=by simpa using hd3
  rw[if_neg (by simp[hd3])]at hfold;have hm1:m+1<=1099511627776:=by omega
  (repeat first|(refine AOps.gN ?_;first|(refine AOps.g_lit ?_;refine AOps.goL (AG false ⟨j,(BW k cv).1⟩) ?_))|refine WK ?_|refine Ai λX=>?_|refine Ay λY=>?_);refine GX (q+1) Y (m+1) (M++[AG false ⟨j,(BW k cv).1⟩]) ⟨h,by rw[List.length_append,hm];rfl,by omega,out++[⟨j,(BW k cv).1⟩],by rw[hM,List.map_append];rfl,?_⟩;rw[List.take_succ_eq_append_getElem h,hcq];exact hfold
 ·have h:q=l.length:=by rw[decide_eq_false_iff_not,hlm]at he;omega
  rw[h,List.take_length,List.drop_length,CG]at hfold;subst hfold;dsimp only at hr hgo;rw[if_neg (by simp)]at hr;subst hr;obtain⟨hg1,hg2⟩:=hgo rfl;have hlen:out.length<=12:=Nat.le_trans (FD Comp.kind _ _ hg1 hg2) h12;obtain⟨u,⟨hu1,hu2⟩,hsf⟩:=GS 137 [] (λx y=>B6 x.kind y.kind) rfl (Kb Comp.kind) (λx y=>Rh x y) Y m out (by rw[hm,hM,List.length_map]) hlen;rw[<-hM]at hsf;(repeat first|(refine AOps.gN ?_;first|(refine AOps.g_callf ?_;first|refine AOps.o2 (h:=(hsf ..)) (k:=?_)))|refine WK ?_|refine Ai λX=>?_|refine Ay λY=>?_);have hu:u=E3 out:=Im hg1 hu1 (hu2.imp λ{a b} hab=>by simp only[AB,decide_eq_false_iff_not,FH]at hab;omega);have hul:m=(u.map (AG false)).length:=by rw[hm,hM,List.length_map,List.length_map,hu1.length_eq]
  refine RT ?_;rw[<-hu];exact BZ [.sl Y 0 m,iA 0] [As true false u,iA 0] (.cons (.cell (.sl (p:=0) .here hul)) (.cons (.cell .same) .nil))
end
section
abbrev setT(t:Tab)(m1 m2:List (StK×List (Int×List Int)))(k:StK)(l:List (Int×List Int))(n:Int)(v:List Int):Tab:=⟨t.X,t.ks,t.ek,t.es,m1++(k,BP l n v)::m2⟩
section
variable {t:Tab}{m1 m2:List (StK×List (Int×List Int))}{c:StK×List (Int×List Int)}{k:StK}{n:Int}{v:List Int}
theorem TabOK.setT(h:TabOK t)(hcs:t.cs=m1++c::m2)(hn:n∈AF t.es):TabOK (setT t m1 m2 k c.2 n v):=by
 have hcm:c∈t.cs:=by rw[hcs];simp
 have hnl:=h.es.lt n hn
 have hmem:∀d,d∈m1++(k,BP c.2 n v)::m2->d=(k,BP c.2 n v)\/d∈t.cs:=λd hd=>by
  rw[hcs];rcases List.mem_append.1 hd with hd|hd
  ·exact .inr (by simp[hd])
  ·rcases List.mem_cons.1 hd with hd|hd
   ·exact .inl hd
   ·exact .inr (by simp[hd])
 refine⟨by have:=h.len;rw[hcs]at this;simpa using this,h.ks,h.es,λd hd=>?_,λd hd m=>?_⟩
 ·rcases hmem d hd with rfl|hd
  ·exact(h.cs c hcm).put hnl v
  ·exact h.cs d hd
 ·rcases hmem d hd with rfl|hd
  ·show m∈AF (BP c.2 n v)↔_
   rw[Dz ((h.keys c hcm n).2 hn)];exact h.keys c hcm m
  ·exact h.keys d hd m
theorem LO{β γ:Type}{ks:List β}{m1 m2:List γ}{c d:γ}{f:β×γ->Comp}:(ks.zip (m1++d::m2)).map f=match ks[m1.length]? with|some k=>((ks.zip (m1++c::m2)).map f).set m1.length (f (k,d))|none=>(ks.zip (m1++c::m2)).map f:=by
 induction m1 generalizing ks with
 |nil=>cases ks<;>rfl
 |cons x m1 ih=>
  cases ks with
  |nil=>rfl
  |cons y ks=>
   simp only[List.cons_append,List.zip_cons_cons,List.map_cons,List.length_cons,List.getElem?_cons_succ];rw[ih];cases ks[m1.length]? with
   |none=>rfl
   |some k=>rfl
theorem LH(h:TabOK t)(hcs:t.cs=m1++c::m2)(hn:n∈AF t.es){z:Int}(hz:t.ks[m1.length]?=some z):AL (setT t m1 m2 k c.2 n v) n=(AL t n).set m1.length ⟨z,v⟩:=by
 unfold AL;rw[LO (c:=c) (d:=(k,BP c.2 n v)),hcs,hz];dsimp only;rw[FY (h.cs c (by rw[hcs];simp)) (h.es.lt n hn),if_pos rfl];rfl
theorem LG(h:TabOK t)(hcs:t.cs=m1++c::m2)(hn:n∈AF t.es){m:Int}(hne:m≠n):AL (setT t m1 m2 k c.2 n v) m=AL t m:=by
 unfold AL;rw[LO (c:=c) (d:=(k,BP c.2 n v)),hcs];cases hz:t.ks[m1.length]? with
 |none=>rfl
 |some z=>
  dsimp only;rw[FY (h.cs c (by rw[hcs];simp)) (h.es.lt n hn),if_neg hne];refine List.ext_getElem? λj=>?_
  rw[List.getElem?_set];split
  ·rename_i e
   subst e;split
   ·rw[List.getElem?_map,(List.getElem?_zip_eq_some (z:=(z,c))).2 ⟨hz,by simp⟩]
    rfl
   ·rename_i hlt
    rw[List.getElem?_eq_none (by omega)]
  ·rfl
theorem Mg(h:TabOK t)(hcs:t.cs=m1++c::m2){e:Ent}(hm:(n,e)∈t.es){z:Int}(hz:t.ks[m1.length]?=some z):(Bc (setT t m1 m2 k c.2 n v)).Perm (⟨e,(AL t n).set m1.length ⟨z,v⟩⟩::Bc (C5 t n)):=by
 have hn:n∈AF t.es:=List.mem_map.2 ⟨_,hm,rfl⟩;have hp:=Cd h.es hm;have h1:=hp.map λp:Int×Ent=>(⟨p.2,AL (setT t m1 m2 k c.2 n v) p.1⟩:Item)
 refine h1.trans ?_;rw[List.map_cons,LH h hcs hn hz];refine List.Perm.cons _ (List.Perm.of_eq ?_);show _=(A9 t.es n).map λp=>(⟨p.2,AL (C5 t n) p.1⟩:Item)
 refine List.map_congr_left λp hp'=>?_
 have hk:p.1∈AF (A9 t.es n):=List.mem_map.2 ⟨p,hp',rfl⟩;have hne:=((C3 h.es).1 hk).2;rw[HS h hne,LG h hcs hn hne]
end
section
variable {a:Ar}{l1 l2:List Tab}{t:Tab}{m1 m2:List (StK×List (Int×List Int))}{c:StK×List (Int×List Int)}{k:StK}{n:Int}{v:List Int}
theorem P0:A5 (l1++setT t m1 m2 k c.2 n v::l2)=A5 (l1++t::l2):=by
 rw[Bt,B7,Bt,B7]
theorem ArOK.setT(h:ArOK a)(hts:a.ts=l1++t::l2)(hcs:t.cs=m1++c::m2)(hn:n∈AF t.es):ArOK {a with ts:=l1++Go.Proofs.YtiidbamlcgbpnaaGreat.setT t m1 m2 k c.2 n v::l2}:=by
 have htm:t∈a.ts:=by rw[hts];simp
 have hmem:∀u,u∈l1++Go.Proofs.YtiidbamlcgbpnaaGreat.setT t m1 m2 k c.2 n v::l2->u=Go.Proofs.YtiidbamlcgbpnaaGreat.setT t m1 m2 k c.2 n v\/u∈a.ts:=λu hu=>by
  rw[hts];rcases List.mem_append.1 hu with hu|hu
  ·exact .inr (by simp[hu])
  ·rcases List.mem_cons.1 hu with hu|hu
   ·exact .inl hu
   ·exact .inr (by simp[hu])
 have hk:A5 (l1++Go.Proofs.YtiidbamlcgbpnaaGreat.setT t m1 m2 k c.2 n v::l2)=A5 a.ts:=by rw[hts,P0]
 refine⟨λu hu=>?_,?_,by show(A5 _).Nodup;rw[hk];exact h.keys,λu hu=>?_,λm u hg=>?_,λm hm'=>h.gn m (by rw[<-hk];exact hm'),by show a.c=(A5 _).length;rw[hk];exact h.cnt⟩
 ·rcases hmem u hu with rfl|hu
  ·exact(h.tab t htm).setT hcs hn
  ·exact h.tab u hu
 ·have ho:=h.ord
  rw[hts]at ho;rw[List.pairwise_append,List.pairwise_cons]at ho⊢
  exact⟨ho.1,⟨λx hx=>ho.2.1.1 x hx,ho.2.1.2⟩,λx hx y hy=>by
   rcases List.mem_cons.1 hy with rfl|hy
   ·exact ho.2.2 x hx t (by simp)
   ·exact ho.2.2 x hx y (by simp[hy])⟩
 ·rcases hmem u hu with rfl|hu
  ·exact h.ent t htm
  ·exact h.ent u hu
 ·obtain⟨w,hw,h2,h3,h4⟩:=h.g m u hg
  rw[hts]at hw;rcases List.mem_append.1 hw with hw|hw
  ·exact⟨w,by simp[hw],h2,h3,h4⟩
  ·rcases List.mem_cons.1 hw with rfl|hw
   ·exact⟨Go.Proofs.YtiidbamlcgbpnaaGreat.setT w m1 m2 k c.2 n v,by simp,h2,h3,h4⟩
   ·exact⟨w,by simp[hw],h2,h3,h4⟩
theorem On(h:ArOK a)(hts:a.ts=l1++t::l2)(hcs:t.cs=m1++c::m2){e:Ent}(hm:(n,e)∈t.es){z:Int}(hz:t.ks[m1.length]?=some z):(AZ (l1++Go.Proofs.YtiidbamlcgbpnaaGreat.setT t m1 m2 k c.2 n v::l2)).Perm (⟨e,(AL t n).set m1.length ⟨z,v⟩⟩::AZ (l1++C5 t n::l2)):=by
 have hto:=h.tab t (by rw[hts];simp);rw[Bb,Bi,Bb,Bi];refine(((Mg hto hcs hm hz).append_right _).append_left _).trans ?_;exact Bf (AZ l1) [(⟨e,(AL t n).set m1.length ⟨z,v⟩⟩:Item)] (Bc (C5 t n)++AZ l2)
theorem SN(hne:Dn a.ts)(hts:a.ts=l1++t::l2):Dn (l1++Go.Proofs.YtiidbamlcgbpnaaGreat.setT t m1 m2 k c.2 n v::l2):=λu hu=>by
 have h:∀w∈l1++t::l2,w.es≠[]:=by rw[<-hts];exact hne
 rcases List.mem_append.1 hu with hu|hu
 ·exact h u (by simp[hu])
 ·rcases List.mem_cons.1 hu with rfl|hu
  ·exact h t (by simp)
  ·exact h u (by simp[hu])
end
end
section
structure ArFor(a:Ar)(w:Wd):Prop where
 ok:ArOK a
 ne:Dn a.ts
 kinds:a.kinds=w.kinds
 gens:a.gens=w.gens
 items:(AZ a.ts).Perm w.items
 wok:WdOK w
theorem Ig{k:Int}:∀{l:List Comp},DI l->Ih (l.map (·.kind)) k=DF l k
 |[],_=>rfl
 |x::l,h=>by
  obtain⟨h1,h2⟩:=List.pairwise_cons.1 h;have ih:=Ig (k:=k) h2;unfold Ih at ih⊢;unfold DF at ih⊢;rw[List.map_cons,List.filter_cons,List.takeWhile_cons];by_cases e:x.kind<k
  ·simp only[e,decide_true,if_true,List.length_cons,ih]
  ·simp only[e,decide_false,Bool.false_eq_true,if_false,List.length_nil]
   rw[List.length_eq_zero_iff,List.filter_eq_nil_iff];intro y hy;obtain⟨c,hc,rfl⟩:=List.mem_map.1 hy;have:=h1 c hc;simp only[decide_eq_true_eq];omega
theorem JB{l:List Comp}(h:DI l){k:Int}:(C2 l k).isSome=true↔k∈l.map (·.kind):=by
 constructor
 ·intro e
  obtain⟨c,hc⟩:=Option.isSome_iff_exists.1 e;obtain⟨hm,hk⟩:=(JC h).1 hc;exact List.mem_map.2 ⟨c,hm,hk⟩
 ·intro e
  obtain⟨c,hm,hk⟩:=List.mem_map.1 e;rw[(JC h).2 ⟨hm,hk⟩];rfl
theorem CK{t:Tab}(h:TabOK t)(n:Int):(AL t n).map (·.kind)=t.ks:=by
 have hl:=h.len;refine List.ext_getElem (by simp[AL];omega) λi h1 h2=>?_
 rw[List.getElem_map,DO (by simpa using h1) h2 (by omega)]
section
variable {a:Ar}{w:Wd}
theorem ArFor.item(h:ArFor a w){t:Tab}(ht:t∈a.ts){e:Ent}(hm:(e.n,e)∈t.es):∃i:Nat,w.items[i]?=some ⟨e,AL t e.n⟩:=by
 have h1:(⟨e,AL t e.n⟩:Item)∈AZ a.ts:=List.mem_flatMap.2 ⟨t,ht,List.mem_map.2 ⟨_,hm,rfl⟩⟩;obtain⟨i,hi,e1⟩:=List.getElem_of_mem (h.items.mem_iff.1 h1);exact⟨i,by rw[List.getElem?_eq_getElem hi,e1]⟩
theorem ArFor.held(h:ArFor a w){t:Tab}(ht:t∈a.ts){e:Ent}(hm:(e.n,e)∈t.es):Bj w.kinds (AL t e.n)=true:=by
 obtain⟨i,hi⟩:=h.item ht hm;exact(h.wok.it _ (List.mem_of_getElem? hi)).2.2.2.2
theorem ArFor.sort(h:ArFor a w){t:Tab}(ht:t∈a.ts){e:Ent}(hm:(e.n,e)∈t.es):DI (AL t e.n):=(held_iff.1 (h.held ht hm)).1
theorem IM{t:Tab}(ht:TabOK t){n:Int}(hs:DI (AL t n)):t.ks.Pairwise (· < ·):=by
 rw[<-CK ht n];exact List.pairwise_map.2 hs
theorem ArFor.hasE(h:ArFor a w){e:Ent}(hh:Es a e=false):CP w.items e<0:=by
 by_cases hlt:CP w.items e<0
 ·exact hlt
 ·obtain⟨m,hm⟩:∃m:Nat,CP w.items e=m:=⟨(CP w.items e).toNat,by omega⟩
  obtain⟨x,hx,_,rfl⟩:=GH hm;unfold Es at hh;rw[decide_eq_false_iff_not]at hh;exact absurd (List.mem_map.2 ⟨x,h.items.mem_iff.2 (List.mem_of_getElem? hx),rfl⟩) hh
theorem Pf{w:List Item}{i:Nat}{x y:Item}(h:w[i]?=some x){l r:List Item}(h1:l.Perm (x::r))(h2:l.Perm w):(y::r).Perm (w.set i y):=by
 obtain⟨hl,_⟩:=List.getElem?_eq_some_iff.1 h;have e1:=IK h;have e2:w.set i y=w.take i++y::w.drop (i+1):=List.set_eq_take_append_cons_drop.trans (if_pos hl);rw[e2];refine List.Perm.trans ?_ List.perm_middle.symm;refine List.Perm.cons _ ?_;have h3:(x::r).Perm (x::(w.take i++w.drop (i+1))):=h1.symm.trans (h2.trans ((List.Perm.of_eq e1).trans List.perm_middle));exact h3.cons_inv
theorem LZ{w:List Item}{i:Nat}{x:Item}(h:w[i]?=some x){l r:List Item}(h1:l.Perm (x::r))(h2:l.Perm w):r.Perm (w.eraseIdx i):=by
 have e1:=IK h;have h3:(x::r).Perm (x::(w.take i++w.drop (i+1))):=h1.symm.trans (h2.trans ((List.Perm.of_eq e1).trans List.perm_middle));rw[List.eraseIdx_eq_take_drop_succ];exact h3.cons_inv
theorem ArFor.swap(h:ArFor a w){e:Ent}{l l':List Comp}{b:Ar}(hs:SwapR a e l l' b){i:Nat}(hi:w.items[i]?=some ⟨e,l⟩)(hc:Bj w.kinds l'=true):ArFor b (Cv w i l'):=by
 obtain⟨r,h1,h2⟩:=hs.items;have hk:(Cv w i l').kinds=w.kinds:=rfl;refine⟨hs.ok,hs.ne,by rw[hs.kinds,h.kinds];rfl,by rw[hs.gens,h.gens];rfl,?_,Ft h.wok hi hc⟩;rw[Fu hi];exact h2.trans (Pf hi h1 h.items)
theorem ArFor.kill(h:ArFor a w){e:Ent}{b:Ar}(hs:KillR a e b)(hh:Es a e=true):(DT w e).2=0/\ArFor b (DT w e).1:=by
 obtain⟨l,h1⟩:=hs.items;have hm:(⟨e,l⟩:Item)∈w.items:=h.items.mem_iff.1 (h1.mem_iff.2 (by simp));obtain⟨i,hi,e1⟩:=List.getElem_of_mem hm;have hi:w.items[i]?=some ⟨e,l⟩:=by rw[List.getElem?_eq_getElem hi,e1]
 have hk:=J3 h.wok hi;have hw:=Nq h.wok hi;dsimp only at hk hw;rw[hk];refine⟨rfl,hs.ok,hs.ne,by rw[hs.kinds,h.kinds],?_,LZ hi h1 h.items,hw⟩;rw[hs.gens,h.gens,List.getD_eq_getElem?_getD]
theorem ArFor.used(h:ArFor a w)(n:Nat):(a.g n).isSome=E8 w.items n:=by
 have hk:(n:Int)∈A5 a.ts↔E8 w.items n=true:=by
  rw[h.ok.keys_items];unfold E8;rw[List.any_eq_true];constructor
  ·intro hm
   obtain⟨x,hx,e⟩:=List.mem_map.1 hm;exact⟨x,h.items.mem_iff.1 hx,by simpa using e⟩
  ·rintro⟨x,hx,e⟩
   exact List.mem_map.2 ⟨x,h.items.mem_iff.2 hx,by simpa using e⟩
 by_cases hu:(n:Int)∈A5 a.ts
 ·rw[h.ok.gn _ hu,hk.1 hu]
 ·have h2:E8 w.items n=false:=by rw[<-Bool.not_eq_true];exact λe=>hu (hk.2 e)
  rw[h2];cases hg:a.g n with
  |none=>rfl
  |some u=>
   obtain⟨t,ht,hm,_⟩:=h.ok.g _ _ hg;exact absurd (List.mem_flatMap.2 ⟨t,ht,hm⟩) hu
end
end
theorem SI(a:Ar)(ha:ArOK a)(e:Ent)(c:Comp)(hn:I64 e.n)(hh:Es a e=false):Spec Tryz.prog 267 [.ptr a.A 0 0,Ac e,AG false c] (arS a) λr S'=>r=iA 4/\S'=arS a:=by
 have hs:=HE a ha e hn;rw[hh]at hs;refine Spec.of (nt:=77) (res:=[.tmp 6]) Tryz.func267 rfl (by kernel_rfl) rfl rfl rfl λSf=>?_
 refine RG ?_;(repeat first|refine WO ?_|refine Ai λB=>?_|refine Ay λY=>?_);refine NL ?_;refine FL ?_;refine RG ?_;(repeat first|(refine AOps.gN ?_;first|refine DZ [_,_] (h:=hs) (k:=?_))|refine WO ?_|refine Ai λX=>?_|refine Ay λY=>?_);refine NL ?_;refine AU rfl rfl ?_;refine FL ?_;refine RG ?_;(repeat first|refine WO ?_|refine Ai λX=>?_|refine Ay λY=>?_);refine NL ?_;refine RT ?_;exact AQ [iA 4] (arS a) ⟨rfl,rfl⟩
theorem RC(a b:Comp):PS Tryz.prog 287 [AG false a,AG false b] (iA (B6 a.kind b.kind)):=by
 refine Spec.of (nt:=10) (res:=[.tmp 4]) Tryz.func287 rfl (by kernel_rfl) rfl rfl rfl λSf=>?_
 (repeat first|(refine AOps.gN ?_;first|(refine AOps.g_callf ?_;first|refine AOps.c2 (h:=(C1 a.kind b.kind)) (k:=?_))|(refine AOps.g_box ?_;refine BT ?_))|refine WK ?_|refine Ai λX=>?_|refine Ay λY=>?_);refine RT ?_;refine AX ?_;rfl
theorem PM{ks:List Kind}{c:Comp}{fl:List Comp}(h:CA ks [c]=(fl,0)):∃v,fl=[⟨c.kind,v⟩]:=by
 unfold CA at h;split at h
 ·rename_i h1;injection h with h2 h3;exact absurd h3 h1
 split at h
 ·rename_i h1;injection h with h2 h3;exact absurd h3 h1
 rename_i h0 h1;injection h with h2 h3
 have h1:(CG ks [] [] [c]).2=0:=Decidable.not_not.1 h1;rw[<-h2];rw[CG]at h1⊢;split at h1
 ·cases h1
 ·rename_i g1
  rw[if_neg g1];split at h1
  ·cases h1
  ·rename_i g2
   rw[if_neg g2];split at h1
   ·cases h1
   ·rename_i k hk
    split at h1
    ·rename_i g3;exact absurd h1 g3
    ·rename_i g3
     simp only[if_neg g3,CG,E3,List.nil_append,List.mergeSort_singleton];exact⟨_,rfl⟩
def SZ(a:Ar)(e:Ent)(l:List Comp)(c:Comp)(b:Ar):Prop:=((CA a.kinds [c]).2≠0/\b=a)\/∃d,CA a.kinds [c]=([d],0)/\SwapR a e l (Ef l d) b
theorem Mt{l u:List Comp}{d:Comp}(hl:DI l)(hd:d.kind∉l.map (·.kind))(hp:u.Perm (l++[d]))(hs:u.Pairwise λa b=>AB (λx y:Comp=>B6 x.kind y.kind) b a=false):u=Ef l d:=by
 have hle:u.Pairwise λa b=>a.kind<=b.kind:=hs.imp λ{x y} h=>by
  unfold AB at h;simp only[decide_eq_false_iff_not]at h;have:¬y.kind<x.kind:=λe=>h (cmpI_ltz.2 e)
  omega
 have hne:(l++[d]).Pairwise λa b=>a.kind≠b.kind:=by
  rw[List.pairwise_append];refine⟨hl.imp λh=>by omega,by simp,λa ha b hb e=>?_⟩;rw[List.mem_singleton]at hb;subst hb;exact hd (List.mem_map.2 ⟨a,ha,e⟩)
 have hne2:u.Pairwise λa b=>a.kind≠b.kind:=hp.symm.pairwise hne λh=>Ne.symm h
 refine OV ((hle.and hne2).imp λh=>by obtain⟨x,y⟩:=h;omega) (HA hl) λx=>?_
 rw[hp.mem_iff,Ga hl,List.mem_append,List.mem_singleton];constructor
 ·rintro(h|rfl)
  ·exact .inr ⟨h,λe=>hd (List.mem_map.2 ⟨x,h,e⟩)⟩
  ·exact .inl rfl
 ·rintro(rfl|h)
  ·exact .inr rfl
  ·exact .inl h.1
set_option maxRecDepth 8000 in
theorem RA(a:Ar)(ha:ArOK a)(hne:Dn a.ts)(e:Ent)(c:Comp)(hn:I64 e.n)(hkl:I64 c.kind)(h12:a.kinds.length<=12)(hh:Es a e=true){l1 l2:List Tab}{t:Tab}(hts:a.ts=l1++t::l2)(hm:(e.n,e)∈t.es)(hso:DI (AL t e.n))(h11:(CA a.kinds [c]).2=0->c.kind∉t.ks->t.ks.length<=11):Spec Tryz.prog 267 [.ptr a.A 0 0,Ac e,AG false c] (arS a) λr S'=>∃b:Ar,SZ a e (AL t e.n) c b/\r=iA (CA a.kinds [c]).2/\S'=arS b:=by
 have htm:t∈a.ts:=by rw[hts];simp
 have hto:=ha.tab t htm;have hks:=IM hto hso;have hnk:e.n∈AF t.es:=List.mem_map.2 ⟨_,hm,rfl⟩;have hnl:=hto.es.lt _ hnk;have hs:=HE a ha e hn;rw[hh]at hs;have hbs:=N4 t.ks c.kind hks (by have:=hto.ks;omega);have hft:=KX a.kinds [c] h12 (by simp);obtain⟨u,hgd,hone,hK⟩:=ha.ptr htm hnk;obtain⟨⟨fl,fe⟩,hfe⟩:∃q,CA a.kinds [c]=q:=⟨_,rfl⟩;unfold SZ;rw[hfe]at hft h11⊢;dsimp only at hft h11⊢;refine Spec.of (nt:=77) (res:=[.tmp 6]) Tryz.func267 rfl (by kernel_rfl) rfl rfl rfl λSf=>?_
 refine RG ?_;(repeat first|refine WO ?_|refine Ai λB=>?_|refine Ay λY=>?_);refine NL ?_;rename_i Be;refine FL ?_;refine RG ?_;(repeat first|(refine AOps.gN ?_;first|refine DZ [_,_] (h:=hs) (k:=?_))|refine WO ?_|refine Ai λX=>?_|refine Ay λY=>?_);refine NL ?_;refine AE rfl rfl ?_;refine FL ?_;refine RU ?_;(repeat first|(refine RGo.gN ?_;first|(refine RGo.g_callf ?_;first|refine RGo.c2 (h:=(hft ..)) (k:=?_))|(refine RGo.g_lit ?_;refine RGo.goL (As false false [c]) ?_)|refine RGo.go (v:=.lst false 42 2 [AG false c]) (h:=W.litF1 (v0:=AG false c) rfl rfl (.inl rfl) (by decide) (by decide) rfl) ?_)|(refine RGo.gQ ?_;first|(refine RGo.g_callf ?_;first|refine RGo.c2 (h:=(hft ..)) (k:=?_))|(refine RGo.g_lit ?_;refine RGo.goL (As false false [c]) ?_)|refine RGo.go (v:=.lst false 42 2 [AG false c]) (h:=W.litF1 (v0:=AG false c) rfl rfl (.inl rfl) (by decide) (by decide) rfl) ?_)|refine RK ?_|refine RGo.nil (by kernel_rfl) ?_);refine FL ?_;refine RG ?_;(repeat first|refine WO ?_|refine Ai λX=>?_|refine Ay λY=>?_);refine NL ?_;refine AWP.cond rfl (λh0=>?_) (λh0=>?_)
 ·refine FL ?_
  refine RG ?_;(repeat first|refine WO ?_|refine Ai λX=>?_|refine Ay λY=>?_);refine NL ?_;refine RT ?_;exact AQ [iA fe] (arS a) ⟨a,.inl ⟨by simpa using h0,rfl⟩,rfl,rfl⟩
 have h0:fe=0:=by simpa using h0
 subst h0;obtain⟨v,rfl⟩:∃v,fl=[⟨c.kind,v⟩]:=PM hfe;refine FL ?_;refine AWP.perm (List.Perm.cons _ (List.Perm.cons _ (Dc hts Sf))) ?_;refine RU ?_;(repeat first|(refine RGo.gN ?_;first|refine RGo.go (h:=W.lookP (.ptr t.X 0 0) hgd hn hone hK rfl rfl (by exact At.f) (by exact At.f)) (k:=?_))|(refine RGo.gQ ?_;first|refine RGo.go (h:=W.lookP (.ptr t.X 0 0) hgd hn hone hK rfl rfl (by exact At.f) (by exact At.f)) (k:=?_))|refine RK ?_|refine RGo.nil (by kernel_rfl) ?_);refine FL ?_;refine RU ?_;(repeat first|(refine RGo.gN ?_;first|(refine RGo.g_callf ?_;first|refine RGo.c2 (h:=(hbs ..)) (k:=?_)))|(refine RGo.gQ ?_;first|(refine RGo.g_callf ?_;first|refine RGo.c2 (h:=(hbs ..)) (k:=?_)))|refine RK ?_|refine RGo.nil (by kernel_rfl) ?_);refine FL ?_;by_cases hk:c.kind∈t.ks
 ·rw[decide_eq_true hk]
  refine RG ?_;(repeat first|refine WO ?_|refine Ai λX=>?_|refine Ay λY=>?_);refine NL ?_;refine AU rfl rfl ?_;obtain⟨hil,hik⟩:=Lq hks hk;obtain⟨i,hi⟩:∃i,Ih t.ks c.kind=i:=⟨_,rfl⟩;have hca:DF (AL t e.n) c.kind=i:=by rw[<-hi,<-Ig hso,CK hto]
  rw[hi]at hil⊢;have hic:i<t.cs.length:=by rw[<-hto.len];exact hil
  obtain⟨m1,m2,hsp,hm1⟩:=EY hic;have hcat:(t.cs.map λc=>AV.ptr c.1.X 0 0)[i]?=some (.ptr t.cs[i].1.X 0 0):=Am _ hic;have hcil:i<(t.cs.map λc=>AV.ptr c.1.X 0 0).length:=by rw[List.length_map];exact hic
  obtain⟨col,hce⟩:∃d,t.cs[i]=d:=⟨_,rfl⟩;rw[hce]at hsp hcat;have hcok:ColOK col.2:=hto.cs _ (by rw[hsp];simp);have hpu:=(MI col.1 col.2 hcok e.n v hnl).tt;refine FL ?_;(repeat refine WF ?_);refine C0 (n:=8) ([(B,.row 42 2 [AG false c]),(Be,.row 32 2 [Ac e])]++(arH a++[DM t])) (stE t.ek t.es++(BM t.cs++(Aw l1++(Aw l2++Sf)))) rfl (by kernel_rfl) (by kernel_rfl) ?_;refine RGoH.go ?_;refine RGoH.go ?_;refine RGoH.go ?_;refine RGoH.go ?_;refine RGoH.go ?_;refine RGoH.go (h:=W.idxL (a:=i) rfl rfl rfl hcat) ?_;refine RGoH.go ?_;refine RGoH.go ?_;refine RGoH.go ?_;refine RGoH.go ?_;refine RGoH.go (h:=W.idxL (a:=0) (e:=AG false ⟨c.kind,v⟩) rfl rfl rfl rfl) ?_;refine RGoH.go ?_;refine RGoH.go ?_;refine RGoH.skip [54,56,60] ?_;refine RGoH.nil (by kernel_rfl) (by kernel_rfl) (by kernel_rfl) ?_;refine HC.step [(54,.ptr col.1.X 0 0),(56,iA e.n),(60,AW false v)] ⟨rfl,rfl,rfl,rfl,rfl,rfl,trivial⟩ λT F=>?_
  have heq:F++(stE t.ek t.es++(BM t.cs++(Aw l1++(Aw l2++Sf))))=(F++(stE t.ek t.es++BM m1))++(stS col.1 col.2++(BM m2++(Aw l1++(Aw l2++Sf)))):=by
   rw[hsp,Cq,Ck];simp only[List.append_assoc]
  refine DK _ (h:=hpu) (k:=λq2 _=>?_) (hp:=heq);obtain⟨k2,hk2⟩:∃k2:StK,k2=⟨col.1.X,q2.1,q2.2,col.1.M⟩:=⟨_,rfl⟩;have hkx:k2.X=col.1.X:=by rw[hk2]
  rw[<-hk2]
  have heq2:(F++(stE t.ek t.es++BM m1))++(stS k2 (BP col.2 e.n v)++(BM m2++(Aw l1++(Aw l2++Sf))))=F++(stE t.ek t.es++(BM (m1++(k2,BP col.2 e.n v)::m2)++(Aw l1++(Aw l2++Sf)))):=by
   rw[Cq,Ck];simp only[List.append_assoc]
  refine AOps.perm (List.Perm.of_eq heq2) ?_;refine AOps.nil ⟨rfl,_,_,⟨λd v h=>h,.refl _⟩,?_⟩;obtain⟨b,hb⟩:∃b:Ar,b={a with ts:=l1++setT t m1 m2 k2 col.2 e.n v::l2}:=⟨_,rfl⟩;have hbt:b.ts=l1++setT t m1 m2 k2 col.2 e.n v::l2:=by rw[hb]
  have hbl:b.ts.length=a.ts.length:=by rw[hbt,hts,List.length_append,List.length_append];rfl
  have hbp:ptrs Tab.X b.ts=ptrs Tab.X a.ts:=by rw[hbt,hts,ptrs,ptrs,List.map_append,List.map_append];rfl
  have hH:arH b=arH a:=by
   show[_,_,_,_,_]=[_,_,_,_,_]
   rw[hbl,hbp,hb]
  have hT:DM (setT t m1 m2 k2 col.2 e.n v)=DM t:=by
   show(t.X,AO.row _ _ [AV.agg [AW false t.ks,_,.lst false _ _ ((m1++(k2,BP col.2 e.n v)::m2).map λc=>AV.ptr c.1.X 0 0)]])=(t.X,AO.row _ _ [AV.agg [AW false t.ks,_,.lst false _ _ (t.cs.map λc=>AV.ptr c.1.X 0 0)]])
   rw[hsp,List.map_append,List.map_append,List.map_cons,List.map_cons,hkx]
  have hfr:=Dc hbt Sf;rw[hH,hT]at hfr;show andThen _ _ _ _
  refine AWP.perm (S':=(B,.row 42 2 [AG false c])::(Be,.row 32 2 [Ac e])::(arS b++Sf)) ?_ ?_
  ·refine List.Perm.trans (List.Perm.of_eq ?_) (List.Perm.cons _ (List.Perm.cons _ hfr.symm))
   simp only[List.cons_append,List.nil_append]
  refine FL ?_;refine RG ?_;(repeat first|refine WO ?_|refine Ai λX=>?_|refine Ay λY=>?_);refine NL ?_;refine RT ?_
  have hins:Ef (AL t e.n) ⟨c.kind,v⟩=(AL t e.n).set m1.length ⟨c.kind,v⟩:=by
   rw[Nw hso,if_pos ((JB hso).2 (by rw[CK hto];exact hk)),hca,hm1]
  have hz:t.ks[m1.length]?=some c.kind:=by rw[hm1,List.getElem?_eq_getElem hil];congr 1;simpa only[hi]using hik
  refine AQ [iA 0] (arS b) ⟨b,.inr ⟨⟨c.kind,v⟩,rfl,?_⟩,rfl,rfl⟩;rw[hins,hb];exact⟨ha.setT hts hsp hnk,SN hne hts,rfl,rfl,rfl,_,Io ha hts hm,On ha hts hsp hm hz⟩
 ·rw[decide_eq_false hk]
  refine RG ?_;(repeat first|refine WO ?_|refine Ai λX=>?_|refine Ay λY=>?_);refine NL ?_;refine AE rfl rfl ?_;refine FL ?_;refine AWP.perm (List.Perm.cons _ (List.Perm.cons _ (Dc hts Sf).symm)) ?_;(repeat refine WF ?_);have htk:=KZ a ha hne hts hnk;have htl:(AL t e.n).length=t.ks.length:=by unfold AL;rw[List.length_map,List.length_zip];have:=hto.len;omega
  have h16:=hto.ks;refine C0 (n:=2) [(B,.row 42 2 [AG false c]),(Be,.row 32 2 [Ac e])] (arS a++Sf) rfl (by kernel_rfl) (by kernel_rfl) ?_;refine RGoH.go ?_;refine RGoH.go ?_;refine RGoH.go ?_;refine RGoH.skip [62,64] ?_;refine RGoH.go ?_;refine RGoH.go (h:=W.idxL (a:=0) (e:=AG false ⟨c.kind,v⟩) rfl rfl rfl rfl) ?_;refine RGoH.go ?_;refine RGoH.go (v:=.lst false 42 2 [AG false ⟨c.kind,v⟩]) (h:=W.litF1 (v0:=AG false ⟨c.kind,v⟩) rfl rfl (.inl rfl) (by decide) (by decide) rfl) ?_;refine RGoH.skip [65,69] ?_;refine RGoH.skip [70] ?_;refine RGoH.nil (by kernel_rfl) (by kernel_rfl) (by kernel_rfl) ?_;refine HC.step [(62,.ptr a.A 0 0),(64,iA e.n)] ⟨rfl,rfl,rfl,rfl,trivial⟩ λT F=>?_
  refine JR F (h:=htk) (k:=λY _ K=>?_);obtain⟨hok,hne2,hA,hki,hge,hit⟩:=Ik ha hne hts hm Y;obtain⟨b,hb⟩:∃b,D5 a l1 l2 t e.n Y=b:=⟨_,rfl⟩;rw[hb]at hok hne2 hA hki hge hit⊢;refine AOps.perm List.perm_middle.symm ?_;refine AOps.nil ⟨rfl,_,_,⟨λd v h=>h,.refl _⟩,?_⟩;refine HC.step [(65,.sl K 0 ((AL t e.n).map (AG false)).length),(69,.lst false 42 2 [AG false ⟨c.kind,v⟩])] ⟨rfl,rfl,rfl,rfl,trivial⟩ λT2 F2=>?_
  refine AOps.perm List.perm_middle ?_;refine AOps.rs λZ=>?_
  refine AOps.goS (h:=W.app (X:=K) (Y:=Z) rfl rfl (by exact At.f) (by exact At.f) (by rw[List.length_map]) (by rw[List.length_map];show(_+1)*32<=_;omega) (by rw[List.length_map];unfold maxLen;show _+1<=_;omega) (by decide)) (k:=?_);dsimp only[AR,List.set_cons_zero,List.set_cons_succ];refine AOps.perm (List.Perm.cons _ List.perm_middle.symm) ?_;refine AOps.nil ⟨rfl,_,_,⟨λd v h=>h,.cons _ (.refl _)⟩,?_⟩;refine HC.step [(70,.sl Z 0 (((AL t e.n).map (AG false)).length+1))] ⟨rfl,rfl,trivial⟩ λT3 F3=>?_
  (repeat refine WO ?_);refine AOps.nil ⟨rfl,_,_,⟨λd v h=>h,.refl _⟩,?_⟩;show andThen _ _ _ _
  refine AWP.weak (st':=⟨[(0,.ptr a.A 0 0),(4,.ptr Be 0 0),(12,.sl Z 0 (((AL t e.n).map (AG false)).length+1))],[(Be,.row 32 2 [Ac e]),(Z,.row 42 2 ((AL t e.n).map (AG false)++[AG false ⟨c.kind,v⟩]))]++(arS b++Sf)⟩) ⟨.cons rfl (.cons rfl (.cons rfl .nil)),.cons _ (.refl _)⟩ ?_;obtain⟨cl,hcl⟩:∃cl,AL t e.n++[(⟨c.kind,v⟩:Comp)]=cl:=⟨_,rfl⟩;have hcm:(AL t e.n).map (AG false)++[AG false ⟨c.kind,v⟩]=cl.map (AG false):=by rw[<-hcl,List.map_append];rfl
  have hcn:((AL t e.n).map (AG false)).length+1=cl.length:=by rw[<-hcl,List.length_append,List.length_map];rfl
  rw[hcm,hcn];obtain⟨su,⟨hu1,hu2⟩,hsf⟩:=GS 287 [] (λx y=>B6 x.kind y.kind) rfl (Kb Comp.kind) (λx y=>RC x y) Z cl.length cl rfl (by have:=h11 rfl hk;rw[<-hcl,List.length_append,htl];show _+1<=12;omega);refine FL ?_;refine RG ?_;(repeat first|(refine AOps.gN ?_;first|(refine AOps.g_callf ?_;first|refine AOps.o2 (h:=(hsf ..)) (k:=?_)))|refine WO ?_|refine Ai λX=>?_|refine Ay λY=>?_);refine NL ?_;dsimp only[AR,List.set_cons_zero,List.set_cons_succ,List.cons_append,List.nil_append];rw[<-hu1.length_eq];have hF:An (su.map (AG false))=su.map (AG false):=Frzs.h;have hsl:su.length=(su.map (AG false)).length:=(List.length_map _).symm;rw[hsl];refine MV 12 _ hF ?_;rw[<-hA];have had:=JK b e su hok hne2 hnl (Iy ha hok hit) (by have:=h11 rfl hk;rw[hu1.length_eq,<-hcl,List.length_append,htl];show _+1<=16;omega);refine FL ?_;refine RG ?_;(repeat first|(refine AOps.gN ?_;first|refine DK [_,_] (h:=had) (k:=λb2 hb2=>?_))|refine WO ?_|refine Ai λX=>?_|refine Ay λY=>?_);refine NL ?_;refine FL ?_;refine RG ?_;(repeat first|refine WO ?_|refine Ai λX=>?_|refine Ay λY=>?_);refine NL ?_;refine RT ?_;obtain⟨g1,g2,g3,g4,g5,g6⟩:=hb2;have hsu:su=Ef (AL t e.n) ⟨c.kind,v⟩:=Mt hso (by rw[CK hto];exact hk) (by rw[hcl];exact hu1) hu2;rw[hsu]at g6;exact AQ [iA 0] (arS b2) ⟨b2,.inr ⟨_,rfl,g1,g2,g3.trans hA,g4.trans hki,g5.trans hge,_,hit,g6⟩,rfl,rfl⟩
theorem Ow{w:Wd}{j:Nat}(h1:∀q<j,(!E8 w.items (q:Nat)&&decide (w.gens.getD q 0<1073741824))=false)(h2:j<w.gens.length)(h3:(!E8 w.items (j:Nat)&&decide (w.gens.getD j 0<1073741824))=true):BL w=(j,true):=by
 have:J9 w=some j:=by
  unfold J9;rw[List.find?_eq_some_iff_getElem];exact⟨h3,j,by simpa using h2,by simp,λq hq=>by have:=h1 q hq;simp only[List.getElem_range];rw[this];rfl⟩
 unfold BL;rw[this]
theorem G8:∀(l:List Item) (it:Item),(G9 l it).Perm (it::l)
 |[],it=>.refl _
 |x::l,it=>by
  rw[G9];split
  ·exact((G8 l it).cons x).trans (.swap ..)
  ·exact .refl _
theorem Ov{w:Wd}(h1:∀q<w.gens.length,(!E8 w.items (q:Nat)&&decide (w.gens.getD q 0<1073741824))=false):BL w=(w.gens.length,decide ((w.gens.length:Int)<256)):=by
 have:J9 w=none:=by
  unfold J9;rw[List.find?_eq_none];intro q hq;have:=h1 q (by simpa using hq);rw[this];simp
 unfold BL;rw[this]
set_option maxRecDepth 8000 in
theorem NP(a:Ar)(w:Wd)(h:ArFor a w)(h12:w.kinds.length<=12)(l:List Comp)(hl:l.length<=1099511627776):Spec Tryz.prog 270 [.ptr a.A 0 0,As false false l] (arS a) λr S'=>∃b:Ar,(ArFor b (EE w (Co w l).1 (Co w l).2.2)/\b.A=a.A)/\r= .tup [Ac (Co w l).2.1,iA (Co w l).2.2]/\S'=arS b:=by
 have hft:=KX a.kinds l (by rw[h.kinds];exact h12) hl;obtain⟨r,hr⟩:∃r,Co w l=r:=⟨_,rfl⟩;rw[hr];unfold Co at hr;rw[if_neg (by simp[(BI w).2 h.wok])]at hr;rw[h.kinds]at hft;obtain⟨⟨cs,f⟩,hcs⟩:∃q,CA w.kinds l=q:=⟨_,rfl⟩;have hheld:f=0->Bj w.kinds cs=true:=λe=>by have:=HR (ks:=w.kinds) (l:=l) (by rw[hcs];exact e);rwa[hcs]at this
 rw[hcs]at hr hft;dsimp only at hr hft;have hgl:=h.wok.gl;rw[<-h.gens]at hgl;refine Spec.of (nt:=84) (res:=[.cell 4 32,.tmp 5]) Tryz.func270 rfl (by kernel_rfl) rfl rfl rfl λSf=>?_
 refine RG ?_;(repeat first|refine WO ?_|refine Ai λP=>?_|refine Ay λY=>?_);refine NL ?_;refine FL ?_;rw[<-h.kinds]at hft;refine RG ?_;(repeat first|(refine AOps.gN ?_;first|(refine AOps.g_callf ?_;first|refine AOps.c2 (h:=(hft ..)) (k:=?_)))|refine WO ?_|refine Ai λX=>?_|refine Ay λY=>?_);refine NL ?_;refine FL ?_;refine RG ?_;(repeat first|refine WO ?_|refine Ai λX=>?_|refine Ay λY=>?_);refine NL ?_;by_cases hf:f≠0
 ·rw[if_pos hf]at hr
  subst hr;refine AU rfl (decide_eq_true hf) ?_;refine FL ?_;refine RG ?_;(repeat first|refine WO ?_|refine Ai λX=>?_|refine Ay λY=>?_);refine NL ?_;refine RT ?_;exact AQ [Ac ⟨0,0⟩,iA f] (arS a) ⟨a,⟨by unfold EE;rw[if_neg hf];exact h,rfl⟩,rfl,rfl⟩
 have hf:f=0:=Decidable.not_not.1 hf;subst hf;rw[if_neg (by simp)]at hr;refine AE rfl rfl ?_;refine FL ?_;refine RG ?_;(repeat first|refine WO ?_|refine Ai λX=>?_|refine Ay λY=>?_);refine NL ?_;refine FL ?_;refine BN (λ(j:Nat)=>⟨[(0,.ptr a.A 0 0),(4,.ptr P 0 0),(6,As false false cs),(8,iA j)],(P,.row 32 2 [Ac ⟨0,0⟩])::(arS a++Sf)⟩) (λj=>j<=a.gens.length/\∀q<j,(!E8 w.items (q:Nat)&&decide (w.gens.getD q 0<1073741824))=false) (λj=>a.gens.length-j) 0 ⟨Nat.zero_le _,λq hq=>absurd hq (by omega)⟩ ?_;rintro j ⟨hj,hall⟩;have hjI:I64 (j:Int):=by constructor<;>omega
 by_cases hjl:j<a.gens.length
 ·have hd:decide ((j:Int)<(a.gens.length:Nat))=true:=decide_eq_true (by omega)
  have hat:(a.gens.map iA)[j]?=some (iA a.gens[j]):=Am _ hjl;have hmem:=h.wok.gs a.gens[j] (by rw[<-h.gens];exact List.getElem_mem hjl);have hgd:w.gens.getD j 0=a.gens[j]:=by rw[<-h.gens,List.getD_eq_getElem?_getD,List.getElem?_eq_getElem hjl];rfl
  have hus:=h.used j
  have hus0:a.g j=none->¬a.gens[j]=1073741824->BL w=(j,true):=λe1 e2=>by
   refine Ow hall (by rw[<-h.gens];exact hjl) ?_;rw[<-hus,e1,hgd,decide_eq_true (by omega)];rfl
  cases hg:a.g j with
  |none=>
   have hgp:(a.g j).getD (.pointer none)= .pointer none:=by rw[hg];rfl
   refine RG ?_;(repeat first|(refine AOps.gN ?_;first|refine AOps.go (h:=Ew _ hgp hjI rfl rfl (by exact At.f)) (k:=?_)|refine AOps.go (h:=W.neNil false (.inl ⟨rfl,rfl⟩) rfl rfl) (k:=?_))|refine WO ?_|refine Ai λX=>?_|refine Ay λY=>?_);refine NL ?_;refine AWP.cond rfl (λhc=>?_) (λhc=>?_)
   ·have hc:a.gens[j]=1073741824:=of_decide_eq_true hc
    refine FL ?_;refine RG ?_;(repeat first|refine WO ?_|refine Ai λX=>?_|refine Ay λY=>?_);refine NL ?_;refine A4 (j+1) ⟨by omega,λq hq=>?_⟩ (by omega);by_cases hqj:q=j
    ·subst hqj
     rw[hgd,hc];simp
    ·exact hall q (by omega)
   ·have hc:¬a.gens[j]=1073741824:=of_decide_eq_false hc
    have hfr:=hus0 hg hc;obtain⟨f1,f2,f3,f4⟩:=GF h.wok (by rw[hfr]);have hv:=IL h.wok (by rw[hfr]) (hheld rfl);rw[hfr]at hr f1 f2 f3 f4 hv;dsimp only at hr f1 f2 f3 f4 hv;rw[if_neg (by simp)]at hr;have hgz:a.gens=B9 w.gens j:=by unfold B9;rw[if_neg (by rw[<-h.gens];omega),h.gens]
    obtain⟨g,hge⟩:∃g,(B9 w.gens j).getD j 0=g:=⟨_,rfl⟩;rw[hge]at hr hv;have hge:a.gens[j]=g:=by rw[<-hge,<-hgz,List.getD_eq_getElem?_getD,List.getElem?_eq_getElem hjl];rfl
    rw[hge]at hat;subst hr
    have hfk:((j:Nat):Int)∉A5 a.ts:=λhm=>by
     rw[h.ok.keys_items]at hm;obtain⟨x,hx,e⟩:=List.mem_map.1 hm;exact f2 x (h.items.mem_iff.1 hx) e
    have had:=JK a ⟨(j:Nat),g⟩ cs h.ok h.ne (by dsimp only;omega) hfk (F9 h.wok.ks (hheld rfl)).1;have hd2:decide ((j:Int)=256)=false:=decide_eq_false (by omega);have hd3:decide ((j:Int)=(a.gens.length:Nat))=false:=decide_eq_false (by omega);refine FL ?_;refine RG ?_;(repeat first|refine WO ?_|refine Ai λX=>?_|refine Ay λY=>?_);refine NL ?_;refine AE rfl hd2 ?_;refine FL ?_;refine RG ?_;(repeat first|refine WO ?_|refine Ai λX=>?_|refine Ay λY=>?_);refine NL ?_;refine AE rfl hd3 ?_;refine FL ?_;refine RG ?_;(repeat first|refine WO ?_|refine Ai λE=>?_|refine Ay λY=>?_);refine NL ?_;refine FL ?_;refine RG ?_;(repeat first|(refine AOps.gN ?_;first|refine DK [_,_] (h:=had) (k:=λb2 hb2=>?_))|refine WO ?_|refine Ai λX=>?_|refine Ay λY=>?_);refine NL ?_;refine FL ?_;refine RG ?_;(repeat first|refine WO ?_|refine Ai λX=>?_|refine Ay λY=>?_);refine NL ?_;refine RT ?_;obtain⟨q1,q2,q3,q4,q5,q6⟩:=hb2;exact AQ [Ac ⟨(j:Nat),g⟩,iA 0] (arS b2) ⟨b2,⟨⟨q1,q2,q4.trans h.kinds,q5.trans hgz,q6.trans ((h.items.cons _).trans (G8 _ _).symm),hv⟩,q3⟩,rfl,rfl⟩
  |some u=>
   have hgp:(a.g j).getD (.pointer none)=u:=by rw[hg];rfl
   obtain⟨t,ht,htn,hK,b,hb⟩:=h.ok.g j u hg;have hone:u.oneCell'=true:=by rw[hb];rfl
   refine RG ?_;(repeat first|(refine AOps.gN ?_;first|refine AOps.go (h:=Ew _ hgp hjI rfl rfl (by exact At.f) hone) (k:=?_)|refine AOps.go (h:=W.neNil true (.inr ⟨b,hb,rfl⟩) rfl rfl) (k:=?_))|refine WO ?_|refine Ai λX=>?_|refine Ay λY=>?_);refine NL ?_;refine AU rfl rfl ?_;refine FL ?_;refine RG ?_;(repeat first|refine WO ?_|refine Ai λX=>?_|refine Ay λY=>?_);refine NL ?_;refine A4 (j+1) ⟨by omega,λq hq=>?_⟩ (by omega);by_cases hqj:q=j
   ·subst hqj
    rw[<-hus,hg];rfl
   ·exact hall q (by omega)
 ·have hjl:j=a.gens.length:=by omega
  have hd:decide ((j:Int)<(a.gens.length:Nat))=false:=decide_eq_false (by omega);have hfr:=Ov (w:=w) λq hq=>hall q (by rw[hjl,h.gens];exact hq)
  rw[<-h.gens,<-hjl]at hfr;refine RG ?_;(repeat first|(refine AOps.gQ ?_;first|refine AOps.goNU ?_|refine AOps.goNV ?_)|refine WO ?_|refine Ai λX=>?_|refine Ay λY=>?_);refine NL ?_;refine AE rfl rfl ?_;refine FL ?_;refine RG ?_;(repeat first|refine WO ?_|refine Ai λX=>?_|refine Ay λY=>?_);refine NL ?_;refine AWP.cond rfl (λhc=>?_) (λhc=>?_)
  ·have hc:(j:Int)=256:=of_decide_eq_true hc
   rw[hfr,if_pos (decide_eq_false (by omega))]at hr;subst hr;refine FL ?_;refine RG ?_;(repeat first|refine WO ?_|refine Ai λX=>?_|refine Ay λY=>?_);refine NL ?_;refine RT ?_;exact AQ [Ac ⟨0,0⟩,iA 6] (arS a) ⟨a,⟨h,rfl⟩,rfl,rfl⟩
  ·have hc:¬(j:Int)=256:=of_decide_eq_false hc
   have hfr:BL w=(j,true):=by rw[hfr,decide_eq_true (by omega)]
   obtain⟨f1,f2,f3,f4⟩:=GF h.wok (by rw[hfr]);have hv:=IL h.wok (by rw[hfr]) (hheld rfl);rw[hfr]at hr f1 f2 f3 f4 hv;dsimp only at hr f1 f2 f3 f4 hv;rw[if_neg (by simp)]at hr;have hgr:B9 w.gens j=a.gens++[0]:=by unfold B9;rw[if_pos (by rw[<-h.gens];exact hjl),h.gens]
   obtain⟨g,hge⟩:∃g,(B9 w.gens j).getD j 0=g:=⟨_,rfl⟩;rw[hge]at hr hv;have hge:g=0:=by rw[<-hge,hgr,hjl,List.getD_eq_getElem?_getD];simp
   subst hge;subst hr;have hd3:decide ((j:Int)=(a.gens.length:Nat))=true:=decide_eq_true (by omega);refine FL ?_;refine RG ?_;(repeat first|refine WO ?_|refine Ai λX=>?_|refine Ay λY=>?_);refine NL ?_;refine AU rfl hd3 ?_;refine FL ?_;refine RG ?_;(repeat first|(refine AOps.gN ?_;first|(refine AOps.g_lit ?_;refine AOps.goL (iA 0) ?_))|refine WO ?_|refine Ai λX=>?_|refine Ay λY=>?_);dsimp only[AR,List.set_cons_zero,List.set_cons_succ,List.cons_append,List.nil_append];refine AOps.nil ?_;refine FL ?_;have hm1:a.gens.map iA++[iA 0]=(a.gens++[0]).map iA:=by rw[List.map_append];rfl
   have hm2:a.gens.length+[iA 0].length=(a.gens++[0]).length:=by rw[List.length_append];rfl
   rw[hm1,hm2];obtain⟨z,hz⟩:∃z:Ar,z={a with G:=Y,gens:=a.gens++[0]}:=⟨_,rfl⟩;have hzA:z.A=a.A:=by rw[hz]
   have hzg:z.gens=a.gens++[0]:=by rw[hz]
   have hzt:z.ts=a.ts:=by rw[hz]
   have hzo:ArOK z:=by rw[hz];exact⟨h.ok.tab,h.ok.ord,h.ok.keys,h.ok.ent,h.ok.g,h.ok.gn,h.ok.cnt⟩
   refine AWP.weak (st':=⟨[(0,.ptr a.A 0 0),(4,.ptr P 0 0),(6,As false false cs),(8,iA j)],(P,.row 32 2 [Ac ⟨0,0⟩])::(arS z++Sf)⟩) ⟨by exact Lk.f,?_⟩ ?_
   ·rw[hz]
    simp only[arS,List.cons_append,List.nil_append];exact List.Sublist.refl _
   have hat:(z.gens.map iA)[j]?=some (iA 0):=by rw[hzg,List.getElem?_map,hjl];simp
   have hjz:j<z.gens.length:=by rw[hzg,List.length_append,hjl];show a.gens.length<_+1;omega
   have hfk:((j:Nat):Int)∉A5 z.ts:=λhm=>by
    rw[hzt,h.ok.keys_items]at hm;obtain⟨x,hx,e⟩:=List.mem_map.1 hm;exact f2 x (h.items.mem_iff.1 hx) e
   have had:=JK z ⟨(j:Nat),0⟩ cs hzo (by rw[hzt];exact h.ne) (by dsimp only;omega) hfk (F9 h.wok.ks (hheld rfl)).1;rw[hzt]at had;rw[<-hzA];refine RG ?_;(repeat first|refine WO ?_|refine Ai λE=>?_|refine Ay λY=>?_);refine NL ?_;refine FL ?_;refine RG ?_;(repeat first|(refine AOps.gN ?_;first|refine DK [_,_] (h:=had) (k:=λb2 hb2=>?_))|refine WO ?_|refine Ai λX=>?_|refine Ay λY=>?_);refine NL ?_;refine FL ?_;refine RG ?_;(repeat first|refine WO ?_|refine Ai λX=>?_|refine Ay λY=>?_);refine NL ?_;refine RT ?_;obtain⟨q1,q2,q3,q4,q5,q6⟩:=hb2;exact AQ [Ac ⟨(j:Nat),0⟩,iA 0] (arS b2) ⟨b2,⟨⟨q1,q2,(q4.trans (by rw[hz])).trans h.kinds,(q5.trans hzg).trans hgr.symm,q6.trans ((h.items.cons _).trans (G8 _ _).symm),hv⟩,q3⟩,rfl,rfl⟩
section
section
variable {a:Ar}{w:Wd}
theorem QM{e:Ent}{l:List Comp}{i:Nat}(hw:WdOK w)(hi:w.items[i]?=some ⟨e,l⟩):CP w.items e=i:=Gf hw.so hi
theorem RB(h:ArFor a w)(h12:w.kinds.length<=12)(e:Ent)(c:Comp)(hn:I64 e.n)(hk:I64 c.kind):Spec Tryz.prog 267 [.ptr a.A 0 0,Ac e,AG false c] (arS a) λr S'=>∃b:Ar,(ArFor b (EE w (Cs w e c).1 (Cs w e c).2)/\b.A=a.A)/\r=iA (Cs w e c).2/\S'=arS b:=by
 have hwe:=(BI w).2 h.wok;cases hh:Es a e with
 |false=>
  have hf:=h.hasE hh;have hp:Cs w e c=(⟨[],[],[]⟩,4):=by unfold Cs;rw[if_neg (by simp[hwe]),if_pos hf]
  rw[hp];exact(SI a h.ok e c hn hh).mono λr S' ⟨e1,e2⟩=>⟨a,⟨h,rfl⟩,e1,e2⟩
 |true=>
  obtain⟨l1,l2,t,hts,hm⟩:=H6 h.ok hh;have htm:t∈a.ts:=by rw[hts];simp
  obtain⟨i,hi⟩:=h.item htm hm;have hso:=h.sort htm hm;have hhe:=h.held htm hm;have hfi:=QM h.wok hi;have hto:=h.ok.tab t htm
  have h11:(CA a.kinds [c]).2=0->c.kind∉t.ks->t.ks.length<=11:=λe1 e2=>by
   obtain⟨d,_,_,g1,g2⟩:=Jm e1;rw[h.kinds]at g2
   have h1:(c.kind::t.ks).length<=w.kinds.length:=FD (λx=>x) _ _ (List.pairwise_cons.2 ⟨λx hx e=>e2 (by subst e;exact hx),(IM hto hso).imp λh=>by omega⟩) λx hx=>by
    rcases List.mem_cons.1 hx with rfl|hx
    ·exact⟨g1,g2⟩
    ·rw[<-CK hto e.n]at hx
     obtain⟨d,hd,rfl⟩:=List.mem_map.1 hx;have:=(held_iff.1 hhe).2 d hd;exact⟨this.1,this.2.1⟩
   rw[List.length_cons]at h1;omega
  refine(RA a h.ok h.ne e c hn hk (by rw[h.kinds];exact h12) hh hts hm hso h11).mono λr S' ⟨b,hb,e1,e2⟩=>?_
  unfold SZ at hb;rw[h.kinds]at hb e1;rcases hb with⟨hne,rfl⟩|⟨d,hd,hs⟩
  ·have hp:Cs w e c=(⟨[],[],[]⟩,(CA w.kinds [c]).2):=by unfold Cs;rw[if_neg (by simp[hwe]),hfi,if_neg (by omega),if_pos hne]
   rw[hp];exact⟨b,⟨by unfold EE;rw[if_neg hne];exact h,rfl⟩,e1,e2⟩
  ·have hp:Cs w e c=(Cv w i (Ef (AL t e.n) d),0):=by unfold Cs;rw[if_neg (by simp[hwe]),hfi,if_neg (by omega),hd,if_neg (by simp),Int.toNat_natCast,hi]
   rw[hd]at e1;rw[hp];have hfo:=Jo h.wok.ks (by rw[hd]);have hdc:=IC h.wok.ks hfo;rw[hd]at hdc;injection hdc with hdc
   injection hdc with hdc
   have hpo:=PX h.wok hi hfo
   have hhl:Bj w.kinds (Ef (AL t e.n) d)=true:=by
    rw[hdc]
    have hii:(Cv w i (Ef (AL t e.n) (GG w.kinds c))).items[i]?=some ⟨e,Ef (AL t e.n) (GG w.kinds c)⟩:=by
     rw[Fu hi];exact List.getElem?_set_self (List.getElem?_eq_some_iff.1 hi).1
    exact(hpo.it _ (List.mem_of_getElem? hii)).2.2.2.2
   exact⟨b,⟨h.swap hs hi hhl,hs.A⟩,e1,e2⟩
theorem QR(h:ArFor a w)(e:Ent)(k:Int)(hn:I64 e.n)(hk:I64 k):Spec Tryz.prog 268 [.ptr a.A 0 0,Ac e,iA k] (arS a) λr S'=>∃b:Ar,(ArFor b (EE w (EB w e k).1 (EB w e k).2)/\b.A=a.A)/\r=iA (EB w e k).2/\S'=arS b:=by
 have hwe:=(BI w).2 h.wok;cases hh:Es a e with
 |false=>
  have hf:=h.hasE hh;have hp:EB w e k=(⟨[],[],[]⟩,4):=by unfold EB;rw[if_neg (by simp[hwe]),if_pos hf]
  rw[hp];exact(QT a h.ok e k hn hh).mono λr S' ⟨e1,e2⟩=>⟨a,⟨h,rfl⟩,e1,e2⟩
 |true=>
  obtain⟨l1,l2,t,hts,hm⟩:=H6 h.ok hh;have htm:t∈a.ts:=by rw[hts];simp
  obtain⟨i,hi⟩:=h.item htm hm;have hso:=h.sort htm hm;have hhe:=h.held htm hm;have hto:=h.ok.tab t htm;have hp:=KF h.wok hi k;dsimp only at hp;have hcm:(C2 (AL t e.n) k).isSome=true↔k∈t.ks:=by rw[JB hso,CK hto]
  refine(O1 a h.ok h.ne e k hn hk hh hts hm (IM hto hso)).mono λr S' ⟨b,hb,e1,e2⟩=>?_
  by_cases hkm:k∈t.ks
  ·have hcs:=hcm.2 hkm
   rw[if_pos hkm]at hb e1;rw[if_pos hcs]at hp;rw[hp];have hl:Ih t.ks k=DF (AL t e.n) k:=by rw[<-Ig hso,CK hto]
   rw[hl,<-MH hso hcs]at hb;exact⟨b,⟨h.swap hb hi (J8 hhe),hb.A⟩,e1,e2⟩
  ·rw[if_neg hkm]at hb e1
   rw[if_neg λe=>hkm (hcm.1 e)]at hp;rw[hp];subst hb;exact⟨b,⟨h,rfl⟩,e1,e2⟩
theorem Pz(h:ArFor a w)(e:Ent)(hn:I64 e.n):Spec Tryz.prog 269 [.ptr a.A 0 0,Ac e] (arS a) λr S'=>∃b:Ar,(ArFor b (EE w (DT w e).1 (DT w e).2)/\b.A=a.A)/\r=iA (DT w e).2/\S'=arS b:=by
 have hwe:=(BI w).2 h.wok;cases hh:Es a e with
 |false=>
  have hf:=h.hasE hh;have hp:DT w e=(⟨[],[],[]⟩,4):=by unfold DT;rw[if_neg (by simp[hwe]),if_pos hf]
  rw[hp];exact(RV a h.ok e hn hh).mono λr S' ⟨e1,e2⟩=>⟨a,⟨h,rfl⟩,e1,e2⟩
 |true=>
  obtain⟨l1,l2,t,hts,hm⟩:=H6 h.ok hh;have htm:t∈a.ts:=by rw[hts];simp
  obtain⟨i,hi⟩:=h.item htm hm;have hit:=h.wok.it _ (List.mem_of_getElem? hi);dsimp only at hit;refine(Py a h.ok h.ne e hn hh (by rw[h.gens];omega) (by rw[h.gens];exact h.wok.gl) (by rw[h.gens];exact h.wok.gs)).mono λr S' ⟨b,hb,e1,e2⟩=>?_
  obtain⟨g1,g2⟩:=h.kill hb hh;rw[g1];exact⟨b,⟨g2,hb.A⟩,e1,e2⟩
end
end
end Go.Proofs.YtiidbamlcgbpnaaGreat
