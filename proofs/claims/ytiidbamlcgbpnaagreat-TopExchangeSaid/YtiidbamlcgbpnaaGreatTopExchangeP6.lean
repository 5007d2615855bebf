/-
  Part 6 of the texts under the law TopExchange: the layer of abstract values, walks and plain laws. Conditions: those that each theorem names.
-/
import Derived.Test.YtiidbamlcgbpnaaGreatTopExchangeP5
namespace Go.Proofs.YtiidbamlcgbpnaaGreat
set_option linter.unusedVariables false
set_option linter.unusedSimpArgs false
set_option linter.defProp false
set_option maxRecDepth 10000
set_option maxHeartbeats 4000000
theorem Oq{cs:List Comp}{i:Nat}{k:Int}{c:Comp}(h:i<cs.length)(e:cs[i]=c):BH (cs.drop i) k=if c.kind=k then some c else BH (cs.drop (i+1)) k:=by
 rw[CG h,e];unfold BH;rw[List.find?_cons];by_cases e:c.kind=k<;>simp[e]
theorem Uf(ks:List Kind)(s:Sys)(e:Ent)(cs:List Comp)(r:UInt64×UInt64)(K mk E me:Nat)(index k:Int)(hl:cs.length<=1099511627776):PS Tryz.prog 187 [.fp (Lm ks s e (Ax false false cs) r (.sl K 0 mk) (.sl E 0 me) index).cells,iA k] (AM false (GL cs k)):=by
 have hcm:(cs.map (AG false)).length=cs.length:=AB _;obtain⟨res,hres⟩:=nm (BH cs k);unfold GL;rw[hres];refine Sp (nt:=36) (res:=[.tmp 4]) Tryz.func187 λSf=>?_
 refine KK ?_;refine Az (λi:Nat=>⟨[(0,.fp (Lm ks s e (Ax false false cs) r (.sl K 0 mk) (.sl E 0 me) index).cells),(1,iA k),(11,iA (cs.map (AG false)).length),(12,iA i)],Sf⟩) (λi=>i<=cs.length/\BH (cs.drop i) k=res) (λi=>cs.length-i) 0 ⟨Nat.zero_le _,hres⟩ ?_;rintro i ⟨hi,hr⟩;refine KK ?_;refine AWP.cond rfl (λhc=>?_) (λhc=>?_)
 ·have h:i<cs.length:=by rw[AE,hcm]at hc;omega
  obtain⟨⟨ck,cv⟩,hce⟩:=nm (cs[i]);rw[Oq h hce]at hr;dsimp only at hr;have hat:(cs.map (AG false))[i]?=some (AG false ⟨ck,cv⟩):=by rw[AH,AI h,hce];rfl
  have him:i<(cs.map (AG false)).length:=by omega
  refine KK ?_;by_cases e:ck=k
  ·rw[if_pos e]at hr
   subst hr;refine AL rfl (Ah e) ?_;refine JA ?_;refine AF ?_;rfl
  ·rw[if_neg e]at hr
   refine AA rfl (AK e) ?_;refine KK ?_;refine Ab (i+1) ⟨h,hr⟩
 ·have h:i=cs.length:=by rw[AN,hcm]at hc;omega
  rw[h,List.drop_length]at hr;have hr:res=none:=hr.symm;subst hr;refine JA ?_;exact Bw [.prim (.slice none 0 0)] [AM false []] (.cons (.cell .nil) .nil)
def WR(cs:List Comp)(a:Arg):Prop:=a.has=true->0<=a.ref.field/\a.ref.field<(GL cs a.ref.kind).length
theorem UA(ks:List Kind)(s:Sys)(e:Ent)(cs:List Comp)(r:UInt64×UInt64)(K mk E me:Nat)(index:Int)(a:Arg)(hl:cs.length<=1099511627776)(ha:WR cs a):PS Tryz.prog 183 [.fp (Lm ks s e (Ax false false cs) r (.sl K 0 mk) (.sl E 0 me) index).cells,Av a] (iA (Ga cs a)):=by
 obtain⟨ah,an,⟨rk,rf⟩⟩:=a;unfold Ga;refine Sp (nt:=19) (res:=[.tmp 4]) Tryz.func183 λSf=>?_
 cases ah
 ·refine WK ?_;refine WK ?_;refine AOps.g_box ?_;refine Ad ?_;refine KK ?_
  refine AA rfl rfl ?_;refine JA ?_;refine AF ?_;rfl
 ·obtain⟨h1,h2⟩:=ha rfl
  dsimp only at h1 h2;have hv:=Uf ks s e cs r K mk E me index rk hl;obtain⟨l,hle⟩:=nm (GL cs rk);rw[hle]at hv h2;obtain⟨j,hj⟩:∃j:Nat,rf=j:=⟨rf.toNat,by omega⟩;subst hj;have hjl:j<l.length:=by omega
  have hat:(l.map iA)[j]?=some (iA l[j]):=by rw[AH,AI hjl];rfl
  have hlm:j<(l.map iA).length:=by rw[AB];exact hjl
  refine WK ?_;refine WK ?_;refine AOps.g_box ?_;refine Ad ?_;refine KK ?_;refine AL rfl rfl ?_;refine RU ?_;(iterate 4 refine RK ?_);refine RGo.gN ?_;refine RGo.c2 (h:=hv) (k:=?_);(iterate 6 refine RK ?_);refine RGo.nil (by kernel_rfl) ?_;refine RT ?_;refine AF ?_;rw[if_pos rfl,hle,Int.toNat_natCast,CF,AI hjl];rfl
def ND(cs:List Comp)(j V:Nat)(c:Comp):List AV:=(cs.map (AG true)).set j (.agg [iA c.kind,.sl V 0 (c.vals.map iA).length])
theorem Sk(ks:List Kind)(s:Sys)(e:Ent)(cs:List Comp)(r:UInt64×UInt64)(K mk E me:Nat)(index:Int)(X C V j:Nat)(c:Comp)(hs:CZ cs)(hj:cs[j]?=some c)(hl:cs.length<=1099511627776):
  Spec Tryz.prog 187 [.ptr X 0 0,iA c.kind] [(X,.row 185 16 [Lm ks s e (.sl C 0 cs.length) r (.sl K 0 mk) (.sl E 0 me) index]),(C,.row 42 2 (ND cs j V c))]
   λr' S'=>r'= .sl V 0 (c.vals.map iA).length/\S'=[(X,.row 185 16 [Lm ks s e (.sl C 0 cs.length) r (.sl K 0 mk) (.sl E 0 me) index]),(C,.row 42 2 (ND cs j V c))]:=by
 obtain⟨hjl,hje⟩:=List.getElem?_eq_some_iff.1 hj;have hrl:(ND cs j V c).length=cs.length:=by simp[ND]
 have hrj:(ND cs j V c)[j]?=some (.agg [iA c.kind,.sl V 0 (c.vals.map iA).length]):=List.getElem?_set_self (by simpa using hjl)
 have hri:∀i (h:i<j),(ND cs j V c)[i]?=some (AG true (cs[i]'(by omega))):=λi h=>by
  unfold ND;rw[List.getElem?_set_ne (by omega),AH,AI (by omega)];rfl
 have hne:∀i (h:i<j),(cs[i]'(by omega)).kind≠c.kind:=λi h=>by
  have:=List.pairwise_iff_getElem.1 hs i j (by omega) hjl h;rw[hje]at this;omega
 refine Sp (nt:=36) (res:=[.tmp 4]) Tryz.func187 λSf=>?_
 refine KK ?_;refine Az (λi:Nat=>⟨[(0,.ptr X 0 0),(1,iA c.kind),(11,iA cs.length),(12,iA i)],(X,.row 185 16 [Lm ks s e (.sl C 0 cs.length) r (.sl K 0 mk) (.sl E 0 me) index])::(C,.row 42 2 (ND cs j V c))::Sf⟩) (λi=>i<=j) (λi=>j-i) 0 (Nat.zero_le _) ?_;rintro i hi;have hicl:i<cs.length:=by omega
 refine KK ?_;refine AL rfl (Ah (by omega)) ?_;by_cases e1:i=j
 ·subst e1
  have hat:=hrj;refine KK ?_;refine AL rfl (Ah rfl) ?_;refine JA ?_;exact Ends.sp [.sl V 0 (c.vals.map iA).length] [(X,_),(C,_)] ⟨rfl,rfl⟩
 ·have hij:i<j:=by omega
  have hat:=hri i hij;have hn:=hne i hij;obtain⟨⟨ck,cv⟩,hce⟩:=nm (cs[i]'(by omega));rw[hce]at hat hn;refine KK ?_;refine AA rfl (AK hn) ?_;refine KK ?_;refine Ab (i+1) hij
abbrev KF(ks:List Kind)(s:Sys)(e:Ent)(C n:Nat)(r:UInt64×UInt64)(K mk E me:Nat)(index:Int):AO:=.row 185 16 [Lm ks s e (.sl C 0 n) r (.sl K 0 mk) (.sl E 0 me) index]
theorem Sj(ks:List Kind)(s:Sys)(e:Ent)(C n:Nat)(r:UInt64×UInt64)(K mk E me:Nat)(index:Int)(X:Nat)(act a b:Int)(h0:0<=act)(h7:act<=7)(ha: -1099511627776<=a/\a<=1099511627776)(hb: -1099511627776<=b/\b<=1099511627776)(hr:r.2.toNat%2=1):
  PO Tryz.prog 186 [.ptr X 0 0,iA act,iA a,iA b] X (KF ks s e C n r K mk E me index) (iA (Dv act a b r).1) (KF ks s e C n (Dv act a b r).2 K mk E me index):=by
 have hm:=V6 a b;refine Sp (nt:=63) (res:=[.tmp 8]) Tryz.func186 λSf=>?_
 rcases(show act=0\/act=1\/act=2\/act=3\/act=4\/act=5\/act=6\/act=7 by omega)with rfl|rfl|rfl|rfl|rfl|rfl|rfl|rfl
 ·refine KK ?_
  refine AA rfl rfl ?_;refine KK ?_;refine AA rfl rfl ?_;refine KK ?_;refine AA rfl rfl ?_;refine KK ?_;refine AA rfl rfl ?_;refine KK ?_;refine AA rfl rfl ?_;refine KK ?_;refine AA rfl rfl ?_;refine KK ?_;refine AA rfl rfl ?_;refine JA ?_;exact Ends.sp [iA a] [(X,_)] ⟨rfl,rfl⟩
 ·refine KK ?_
  refine AL rfl rfl ?_;refine JA ?_;exact Ends.sp [iA (a+b)] [(X,_)] ⟨rfl,rfl⟩
 ·refine KK ?_
  refine AA rfl rfl ?_;refine KK ?_;refine AL rfl rfl ?_
  (iterate 4 refine WK ?_);refine AOps.gN ?_;refine AOps.p (A9 (a-b) rfl (by omega) rfl rfl) rfl ?_;refine KK ?_
  refine RT ?_;exact Ends.sp [iA (a-b)] [(X,_)] ⟨rfl,rfl⟩
 ·refine KK ?_
  refine AA rfl rfl ?_;refine KK ?_;refine AA rfl rfl ?_;refine KK ?_;refine AL rfl rfl ?_;refine KK ?_;refine AOps.g_callf ?_;refine AOps.c2 (h:=(hm ..)) (k:=?_);refine JA ?_;exact Ends.sp [iA (Rp a b)] [(X,_)] ⟨rfl,rfl⟩
 ·refine KK ?_
  refine AA rfl rfl ?_;refine KK ?_;refine AA rfl rfl ?_;refine KK ?_;refine AA rfl rfl ?_;refine KK ?_;refine AL rfl rfl ?_;refine JA ?_;exact Ends.sp [iA (if b<a then b else a)] [(X,_)] ⟨rfl,rfl⟩
 ·refine KK ?_
  refine AA rfl rfl ?_;refine KK ?_;refine AA rfl rfl ?_;refine KK ?_;refine AA rfl rfl ?_;refine KK ?_;refine AA rfl rfl ?_;refine KK ?_;refine AL rfl rfl ?_;refine JA ?_;exact Ends.sp [iA (if a<b then b else a)] [(X,_)] ⟨rfl,rfl⟩
 ·refine KK ?_
  refine AA rfl rfl ?_;refine KK ?_;refine AA rfl rfl ?_;refine KK ?_;refine AA rfl rfl ?_;refine KK ?_;refine AA rfl rfl ?_;refine KK ?_;refine AA rfl rfl ?_;refine KK ?_;refine AL rfl rfl ?_;refine KK ?_;by_cases hab:a<b
  ·refine AL rfl (Ah hab) ?_
   refine JA ?_;exact Ends.sp [iA 1] [(X,_)] ⟨by unfold Dv;rw[if_neg (by decide),if_neg (by decide),if_neg (by decide),if_neg (by decide),if_neg (by decide),if_pos rfl,if_pos hab];rfl,by unfold Dv;rw[if_neg (by decide),if_neg (by decide),if_neg (by decide),if_neg (by decide),if_neg (by decide),if_pos rfl]⟩
  ·refine AA rfl (AK hab) ?_
   refine JA ?_;exact Ends.sp [iA 0] [(X,_)] ⟨by unfold Dv;rw[if_neg (by decide),if_neg (by decide),if_neg (by decide),if_neg (by decide),if_neg (by decide),if_pos rfl,if_neg hab];rfl,by unfold Dv;rw[if_neg (by decide),if_neg (by decide),if_neg (by decide),if_neg (by decide),if_neg (by decide),if_pos rfl]⟩
 ·refine KK ?_
  refine AA rfl rfl ?_;refine KK ?_;refine AA rfl rfl ?_;refine KK ?_;refine AA rfl rfl ?_;refine KK ?_;refine AA rfl rfl ?_;refine KK ?_;refine AA rfl rfl ?_;refine KK ?_;refine AA rfl rfl ?_;refine KK ?_;refine AL rfl rfl ?_;refine KK ?_
  have hv:Dv 7 a b r=if a<1 then(0,r)else(((EG r a.toNat).1.toNat:Int),(EG r a.toNat).2):=by
   unfold Dv;rw[if_neg (by decide),if_neg (by decide),if_neg (by decide),if_neg (by decide),if_neg (by decide),if_neg (by decide),if_pos rfl]
  rw[hv];by_cases hab:a<1
  ·rw[if_pos hab]
   refine AL rfl (Ah hab) ?_;refine JA ?_;exact Ends.sp [iA 0] [(X,_)] ⟨rfl,rfl⟩
  ·rw[if_neg hab]
   obtain⟨q,hq⟩:∃q:Nat,a=q:=⟨a.toNat,by omega⟩;subst hq;rw[Int.toNat_natCast];have hbl:=SU r q (by omega) (by omega) hr;obtain⟨⟨x,r2⟩,hbe⟩:=nm (EG r q);rw[hbe]at hbl⊢;refine AA rfl (AK hab) ?_;refine JG ?_;refine AOps.g_callf ?_;refine AOps.c2 (h:=(hbl ..)) (k:=?_);refine KO ?_;refine Ai λB=>?_;refine JE ?_
   refine R1 ?_;refine JA ?_;exact Ends.sp [iA x.toNat] [(X,KF ks s e C n r2 K mk E me index)] ⟨rfl,rfl⟩
theorem GF(w:World):(binOp .neq 191 (.agg [Value.int .i64 0,Value.int .i64 0].toArray) (.agg [Value.int .i64 0,Value.int .i64 0].toArray)).run Tryz.prog w= .ok (.bool false) w:=by kernel_rfl
theorem Mk(w:World):(binOp .neq 193 (.agg [Value.bool false,Value.int .i64 0,Value.int .i64 0,Value.int .i64 0].toArray) (.agg [Value.bool false,Value.int .i64 0,Value.int .i64 0,Value.int .i64 0].toArray)).run Tryz.prog w= .ok (.bool false) w:=by kernel_rfl
structure ArgG(ks:List Kind)(reads writes:List Int)(a:Arg):Prop where
 yes:a.has=true->a.n=0/\IK ks a.ref/\(reads.contains a.ref.kind=true\/writes.contains a.ref.kind=true)
 no:a.has=false-> -1099511627776<=a.n/\a.n<=1099511627776/\a.ref=⟨0,0⟩
structure OpG(ks:List Kind)(reads writes:List Int)(o:Op):Prop where
 lo:0<=o.act
 hi:o.act<=12
 a:ArgG ks reads writes o.a
 b:ArgG ks reads writes o.b
 one:C7 o.act=false->o.b=Fl
 sets:DZ o.act=true->IK ks o.to/\writes.contains o.to.kind=true
 puts:o.act=8\/o.act=9->0<=o.to.kind/\o.to.kind<ks.length/\o.to.field=0
 none:10<=o.act->o.to=⟨0,0⟩
theorem GV{k:Kind}{v:List Int}(h:Bv k v=true):v.length=k.fields.length/\∀x∈v,-4294967296<=x/\x<=8589934592:=by
 obtain⟨_,h2,h3⟩:=Dp (k:=k) (v:=v) (by rw[Do h]);rw[Do h]at h2;refine⟨h3,λx hx=>?_⟩;have h2:v=List.zipWith BU k.fields v:=h2;rw[h2]at hx;obtain⟨i,hi,rfl⟩:=List.getElem_of_mem hx;rw[List.getElem_zipWith];exact NF _ _
def Lf(s:Sys)(cs:List Comp):Prop:=∀k:Int,s.reads.contains k=true\/s.writes.contains k=true->(BH cs k).isSome=true
theorem KM{ks:List Kind}{s:Sys}{cs:List Comp}(hh:A8 ks cs=true)(hs:Lf s cs){r:Ref}(hr:IK ks r)(hk:s.reads.contains r.kind=true\/s.writes.contains r.kind=true):
  ∃(c:Comp) (k:Kind),BH cs r.kind=some c/\c.kind=r.kind/\ks[r.kind.toNat]?=some k/\Bv k c.vals=true/\0<=r.field/\r.field<k.fields.length/\c.vals.length=k.fields.length:=by
 obtain⟨h1,h2,h3,h4⟩:=hr;obtain⟨c,hc⟩:=Option.isSome_iff_exists.1 (hs _ hk);obtain⟨hso,hm⟩:=held_iff.1 hh;obtain⟨hcm,hck⟩:=(B0 hso).1 hc;obtain⟨_,_,k,hkk,hho⟩:=hm c hcm;rw[hck]at hkk;unfold Lw at h4;rw[hkk]at h4;exact⟨c,k,hc,hck,hkk,hho,h3,h4,(GV hho).1⟩
theorem UB{ks:List Kind}{s:Sys}{cs:List Comp}(hh:A8 ks cs=true)(hs:Lf s cs){a:Arg}(ha:ArgG ks s.reads s.writes a):WR cs a/\ -1099511627776<=Ga cs a/\Ga cs a<=1099511627776:=by
 unfold WR Ga;cases hb:a.has
 ·obtain⟨h1,h2,h3⟩:=ha.no hb
  exact⟨(λh=>by cases h),h1,h2⟩
 ·obtain⟨h1,h2,h3⟩:=ha.yes hb
  obtain⟨c,k,e1,e2,e3,e4,e5,e6,e7⟩:=KM hh hs h2 h3;have hv:GL cs a.ref.kind=c.vals:=by unfold GL;rw[e1]
  rw[hv];refine⟨λ_=>⟨e5,by omega⟩,?_⟩;rw[if_pos rfl,CF,AI (by omega)];have:=(GV e4).2 _ (AU (l:=c.vals) (n:=a.ref.field.toNat) (by omega));simp only[Option.getD_some];omega
theorem Ub{fs:List Field}:∀{v:List Int} {i:Nat} {x:Int},List.zipWith BU fs v=v->(∀f,fs[i]?=some f->BU f x=x)->List.zipWith BU fs (v.set i x)=v.set i x:=by
 induction fs with
 |nil=>
  intro v i x h _;rw[List.zipWith_nil_left]at h;rw[<-h];rfl
 |cons f fs ih=>
  intro v i x h hx;cases v with
  |nil=>rfl
  |cons y v=>
   rw[List.zipWith_cons_cons]at h;injection h with h1 h2
   cases i with
   |zero=>rw[List.set_cons_zero,List.zipWith_cons_cons,hx f rfl,h2]
   |succ i=>rw[List.set_cons_succ,List.zipWith_cons_cons,h1,ih h2 hx]
theorem R6{k:Kind}{v:List Int}(h:Bv k v=true)(ho:BZ k=0){i:Nat}{f:Field}(hf:k.fields[i]?=some f)(x:Int):Bv k (v.set i (BU f x))=true:=by
 obtain⟨h1,_⟩:=GV h;obtain⟨_,h2,_⟩:=Dp (k:=k) (v:=v) (by rw[Do h]);rw[Do h]at h2;have hfe:Au f=0:=(Dn ho).2.2 f (Aq hf);unfold Bv;rw[H8 ho (by simp[h1]),Ub h2.symm (λg hg=>by rw[hf]at hg;injection hg with hg;subst hg;exact MP hfe x)];simp
theorem Hw{cs:List Comp}(hs:CZ cs){k:Int}{c:Comp}(hc:BH cs k=some c)(f:Nat)(v:Int):cs[Ci cs k]?=some c/\KC cs k f v=cs.set (Ci cs k) ⟨c.kind,c.vals.set f v⟩:=by
 constructor
 ·obtain⟨hcm,hck⟩:=(B0 hs).1 hc
  obtain⟨i,hi,hie⟩:=List.getElem_of_mem hcm;have hat:cs[i]?=some c:=by rw[AI hi,hie]
  obtain⟨h1,h2,h3,h4,_⟩:=Kg (key:=Comp.kind) hs hat
  have:Ci cs k=i:=Sq (Nat.le_of_lt hi) (λj x hj hx=>by
   have:=h3 x (by rw[List.mem_take_iff_getElem];obtain⟨a,b⟩:=List.getElem?_eq_some_iff.1 hx;exact⟨j,by omega,b⟩);simp;omega) (λx hx=>by rw[hat]at hx;injection hx with hx;subst hx;simp;omega)
  rw[this];exact hat
 ·unfold KC;rw[hc]
theorem Re{ks:List Kind}{cs:List Comp}(hk:Al ks=0)(hh:A8 ks cs=true){r:Ref}{c:Comp}{k:Kind}(hc:BH cs r.kind=some c)(hkk:ks[r.kind.toNat]?=some k)(h0:0<=r.field)(hf:r.field<k.fields.length)(x:Int):A8 ks (KC cs r.kind r.field.toNat (BU (Eg ks r) x))=true:=by
 obtain⟨hso,hm⟩:=held_iff.1 hh;obtain⟨hcm,hck⟩:=(B0 hso).1 hc;obtain⟨e1,e2⟩:=Hw hso hc r.field.toNat (BU (Eg ks r) x);obtain⟨g1,g2⟩:=Pw (key:=Comp.kind) hso e1 (z:=⟨c.kind,c.vals.set r.field.toNat (BU (Eg ks r) x)⟩) rfl;obtain⟨q1,q2,k',hk',hho⟩:=hm c hcm;have hkk':k'=k:=by rw[hck,hkk]at hk';injection hk' with hk';exact hk'.symm
 subst hkk';rw[e2];refine held_iff.2 ⟨g1,λd hd=>?_⟩;rcases(g2 d).1 hd with rfl|⟨hd,_⟩
 ·have hfe:k'.fields[r.field.toNat]?=some (Eg ks r):=by
   unfold Eg;rw[hkk];dsimp only;rw[CF,AI (by omega)];rfl
  exact⟨q1,q2,k',hk',R6 hho ((Bt hk).2 k' (Aq hkk)) hfe x⟩
 ·exact hm d hd
theorem KB{cs:List Comp}(hs:CZ cs)(k:Int)(f:Nat)(v:Int):(KC cs k f v).map Comp.kind=cs.map Comp.kind:=by
 cases hc:BH cs k with
 |none=>unfold KC;rw[hc]
 |some c=>
  obtain⟨e1,e2⟩:=Hw hs hc f v;rw[e2,List.map_set];obtain⟨a,b⟩:=List.getElem?_eq_some_iff.1 e1;have:(cs.map Comp.kind)[Ci cs k]?=some c.kind:=by rw[AH,e1];rfl
  obtain⟨a',b'⟩:=List.getElem?_eq_some_iff.1 this;show(cs.map Comp.kind).set _ c.kind=_
  conv=>lhs;rw[<-b']
  rw[List.set_getElem_self]
theorem P3{s:Sys}{cs ds:List Comp}(h:Lf s cs)(e:ds.map Comp.kind=cs.map Comp.kind):Lf s ds:=by
 intro k hk;have h1:=h k hk;unfold BH at h1⊢;rw[List.find?_isSome]at h1⊢;obtain⟨c,hc,hck⟩:=h1;have:c.kind∈ds.map Comp.kind:=by rw[e];exact List.mem_map.2 ⟨c,hc,rfl⟩
 obtain⟨d,hd,hde⟩:=List.mem_map.1 this;exact⟨d,hd,by simp only[AE]at hck⊢;omega⟩
theorem QF(k:Kind)(hl:k.fields.length<=1099511627776):PS Tryz.prog 188 [A7 false k] (AM true (BY k (List.replicate k.fields.length 0)).1):=by
 have hft:=P6 k (List.replicate k.fields.length 0);have hfm:(k.fields.map fieldA).length=k.fields.length:=AB _;have hz:(List.replicate k.fields.length (0:Int)).map iA=List.replicate (k.fields.map fieldA).length (iA 0):=by rw[List.map_replicate,hfm]
 refine Sp (nt:=15) (res:=[.tmp 2]) Tryz.func188 λSf=>?_
 refine RG ?_;refine AOps.g_box ?_;refine Ad ?_;refine JB ?_;refine AWP.rs λY=>AWP.rs λK=>?_
 have hle:Spec Tryz.prog 135 [A7 false k,.sl K 0 (k.fields.map fieldA).length] [(K,.row 3 1 (List.replicate (k.fields.map fieldA).length (iA 0)))] λr' S'=>r'= .tup [AM true (BY k (List.replicate k.fields.length 0)).1,iA (BY k (List.replicate k.fields.length 0)).2]/\S'=[(K,.row 3 1 (List.replicate (k.fields.map fieldA).length (iA 0)))]:=by
  refine PS.lend hft ?_ (.cons .fz (.cons (RA (by rw[<-hz];exact Lds.fz) .here (by simp)) .nil));have hlo:=HW (f:=iA) (λ_=>rfl) (BY k (List.replicate k.fields.length 0)).1;simp[AV.loose,CD,hlo]
 refine RU ?_;(iterate 4 refine RK ?_);refine RGo.gN ?_;refine RGo.s (W.make rfl rfl (by exact At.f) rfl (.inr rfl) rfl rfl (Nat.le_refl _) (by rw[hfm];omega) (by rw[hfm];unfold maxLen;omega)) rfl ?_;refine RGo.gN ?_;refine RGo.z2 (h:=hle) (hT:=.tup (.cons (.cell (.lst (Y:=Y) rfl) rfl rfl) rfl rfl (.cons (.cell .frz rfl rfl) rfl rfl .nil))) (k:=?_);(iterate 5 refine RK ?_);refine RGo.nil (by kernel_rfl) ?_;refine JA ?_;exact Bw [.sl Y 0 ((BY k (List.replicate k.fields.length 0)).1.map iA).length] [AM true (BY k (List.replicate k.fields.length 0)).1] (.cons (.cell (.sl (p:=1) (by exact At.f) rfl)) .nil)
section
open Go.Sort
theorem U5(f:FuncId)(cap:List AV)(cf:Comp->Comp->Int)(hst:B6 cap=true)(hcf:∀x y,PS Tryz.prog f ((AG false) x::(AG false) y::cap) (iA (cf x y)))(X n:Nat)(d:Array Comp)(a b:Nat)(hn:n=d.size)(hab:a<=b)(hb:b<=d.size)(hz:d.size<=1099511627776):PO Tryz.prog 251 [.sl X 0 n,iA a,iA b,.fn f cap] X (.row 42 2 (d.toList.map (AG false))) (.tup []) (.row 42 2 ((insertionSort (AZ cf) d a b).toList.map (AG false))):=by
 obtain⟨r,hr⟩:=nm (insertionSort (AZ cf) d a b);rw[hr];unfold insertionSort at hr;refine Sp (nt:=53) (res:=[]) Tryz.func251 λSf=>?_
 refine KK ?_;refine Bq (λ(i:Nat) (e:Array Comp)=>⟨[(0,.sl X 0 n),(1,iA a),(2,iA b),(3,.fn f cap),(8,iA i)],(X,.row 42 2 (e.toList.map (AG false)))::Sf⟩) (λi e=>i<=max b (a+1)/\a<i/\e.size=d.size/\insOuter (AZ cf) a b i e=r) (λi _=>b-i) (a+1) d ⟨by omega,by omega,rfl,hr⟩ ?_;rintro i e ⟨hi,hai,he,hfold⟩;rw[insOuter]at hfold;refine KK ?_;refine AWP.cond rfl (λhc=>?_) (λhc=>?_)
 ·have h:i<b:=by have:=of_decide_eq_true hc;omega
  rw[if_pos h]at hfold;refine KK ?_;refine Bq (λ(j:Nat) (u:Array Comp)=>⟨[(0,.sl X 0 n),(1,iA a),(2,iA b),(3,.fn f cap),(8,iA i),(9,iA j)],(X,.row 42 2 (u.toList.map (AG false)))::Sf⟩) (λj u=>j<=i/\u.size=d.size/\insInner (AZ cf) a j u=insInner (AZ cf) a i e) (λj _=>j) i e ⟨Nat.le_refl _,he,rfl⟩ ?_;rintro j u ⟨hj,hu,hin⟩;rcases Bool.eq_false_or_eq_true (decide ((a:Int)<(j:Int)))with g|g
  ·have hja:a<j:=by have:=of_decide_eq_true g;omega
   obtain⟨q,rfl⟩:∃q,j=q+1:=⟨j-1,by omega⟩;have h1:=BC (AG false) (d:=u) (i:=q+1) (by omega);have h2:=BC (AG false) (d:=u) (i:=q) (by omega);have hl:=hcf (u[q+1]!) (u[q]!);rw[insInner]at hin;(repeat refine WF ?_);refine RU ?_;(iterate 11 refine RK ?_);refine RGo.gQ ?_;refine RGo.go (h:=A9 (q:Int) (by omega) (by omega) rfl rfl) (k:=?_);refine KR ?_;refine RGo.g_callv ?_;refine RGo.k2 (h:=(hl ..)) (k:=?_);refine JH ?_;refine RGo.nil (by kernel_rfl) ?_;(repeat refine WF ?_);refine AWP.cond rfl (λhd=>?_) (λhd=>?_)
   ·have hd:(AZ cf) u[q+1]! u[q]! =true:=by simpa[g,AZ]using hd
    rw[hd,if_pos (by simp;omega)]at hin;obtain⟨y,hy⟩:=CN (AG false) (d:=u) (i:=q+1) (j:=q) (by omega) u[q]!;(repeat refine WF ?_);refine RU ?_;(iterate 4 refine RK ?_);refine RGo.gN ?_;refine RGo.go (h:=A9 (q:Int) (by omega) (by omega) rfl rfl) (k:=?_);refine JH ?_;refine RGo.gN ?_;refine RGo.go (h:=A9 (q:Int) (by omega) (by omega) rfl rfl) (k:=?_);(iterate 9 refine RK ?_);refine RGo.gN ?_;refine RGo.s (W.store rfl rfl (by exact At.f) hy (by exact rfl)) rfl ?_;refine RGo.nil (by kernel_rfl) ?_
    (iterate 4 refine WK ?_);refine AOps.gN ?_;refine AOps.p (A9 (q:Int) (by omega) (by omega) rfl rfl) rfl ?_;refine KK ?_
    refine BK q (swp u (q+1) q) ⟨by omega,by rw[size_swp];exact hu,hin⟩ (h0:=by rw[<-Cl (AG false) (by omega) (by omega)];exact⟨by exact Lk.f,by exact Sub.f⟩)
   ·have hd:(AZ cf) u[q+1]! u[q]! =false:=by simpa[g,AZ]using hd
    rw[hd,if_neg (by simp)]at hin;refine KK ?_;refine BK (i+1) u ⟨by omega,by omega,hu,by rw[hin];exact hfold⟩
  ·have hja:j<=a:=by have:=of_decide_eq_false g;omega
   have hin2:insInner (AZ cf) a j u=u:=by
    cases j with
    |zero=>rfl
    |succ q=>rw[insInner,if_neg (by simp;omega)]
   rw[hin2]at hin;(repeat refine WF ?_);refine RU ?_;(iterate 17 refine RK ?_);refine RGo.nil (by kernel_rfl) ?_;(repeat refine WF ?_);refine AA rfl (by simp[g]) ?_;refine KK ?_;refine BK (i+1) u ⟨by omega,by omega,hu,by rw[hin];exact hfold⟩
 ·have h:¬i<b:=by have:=of_decide_eq_false hc;omega
  rw[if_neg h]at hfold;subst hfold;refine KK ?_;refine DU ?_;exact BN [(X,.row 42 2 (e.toList.map (AG false)))] ⟨rfl,rfl⟩
end
section
open Go.Sort
theorem Pk(f:FuncId)(cap:List AV)(cf:Comp->Comp->Int)(hst:B6 cap=true)(hf:∀x y,PS Tryz.prog f (AG false x::AG false y::cap) (iA (cf x y)))(X n limit:Nat)(d:Array Comp)(hn:n=d.size)(h12:d.size<=12):PO Tryz.prog 207 [.sl X 0 n,iA 0,iA n,iA limit,.fn f cap] X (.row 42 2 (d.toList.map (AG false))) (.tup []) (.row 42 2 ((insertionSort (AZ cf) d 0 d.size).toList.map (AG false))):=by
 have hs:=U5 f cap cf hst hf X n d 0 d.size hn (Nat.zero_le _) (Nat.le_refl _) (by omega);rw[<-hn]at hs;have hsz:d.size=n:=hn.symm;refine Sp (nt:=148) (res:=[]) Tryz.func207 λSf=>?_
 refine KK ?_;refine Az (λ_:Unit=>⟨[(0,.sl X 0 n),(1,iA 0),(2,iA n),(3,iA limit),(4,.fn f cap)],(X,.row 42 2 (d.toList.map (AG false)))::Sf⟩) (λ_=>True) (λ_=>0) () trivial ?_;rintro _ _;refine AWP.block ?_
 (iterate 4 refine WK ?_);refine AOps.gN ?_;refine AOps.p (A9 (n:Int) (by omega) (by omega) rfl rfl) rfl ?_;refine KK ?_
 refine AL rfl (Ah (by omega)) ?_;refine KK ?_;refine AOps.g_callf ?_;refine AOps.o4 (h:=(hs ..)) (k:=?_);refine JA ?_;rw[hsz];exact BN [(X,_)] ⟨rfl,rfl⟩
theorem I6{α:Type}[Inhabited α]{d u:Array α}(h:PermIn 0 d.size d u):u.toList.Perm d.toList:=by
 obtain⟨h1,_,h3⟩:=h;have e1:u.extract 0 d.size=u:=by rw[<-h1];exact Array.extract_size
 rwa[e1,Array.extract_size]at h3
theorem G8{α:Type}[Inhabited α]{lt:α->α->Bool}{u:Array α}{n:Nat}(hn:n=u.size)(h:SortedIn lt 0 n u):u.toList.Pairwise λa b=>lt b a=false:=by
 rw[List.pairwise_iff_getElem];intro i j hi hj hij;have hi':i<u.size:=by simpa using hi
 have hj':j<u.size:=by simpa using hj
 have:=h i j (Nat.zero_le _) hij (by omega);rw[getElem!_pos u j hj',getElem!_pos u i hi']at this;simpa using this
theorem Hu(f:FuncId)(cap:List AV)(cf:Comp->Comp->Int)(hst:B6 cap=true)(hS:SWO (AZ cf))(hf:∀x y,PS Tryz.prog f (AG false x::AG false y::cap) (iA (cf x y)))(X n:Nat)(l:List Comp)(hn:n=l.length)(h12:l.length<=12):
  ∃u:List Comp,(u.Perm l/\u.Pairwise λa b=>AZ cf b a=false)/\PO Tryz.prog 136 [.sl X 0 n,.fn f cap] X (.row 42 2 (l.map (AG false))) (.tup []) (.row 42 2 (u.map (AG false))):=by
 obtain⟨p1,p2⟩:=insertionSort_holds (lt:=AZ cf) hS l.toArray 0 l.toArray.size (Nat.zero_le _) (Nat.le_refl _);have e1:(UInt64.ofNat n).toNat=n:=by rw[UInt64.toNat_ofNat'];omega
 have hlen:=Pt (UInt64.ofNat n) (by rw[e1];omega);rw[e1]at hlen;have hs:=Pk f cap cf hst hf X n (bitsLen n) l.toArray (by simpa using hn) (by simpa using h12);obtain⟨u,hu⟩:=nm (insertionSort (AZ cf) l.toArray 0 l.toArray.size);rw[hu]at p1 p2 hs;refine⟨u.toList,⟨by simpa using I6 p1,G8 p1.1.symm p2⟩,?_⟩;simp only[List.toList_toArray]at hs;refine Sp (nt:=14) (res:=[]) Tryz.func136 λSf=>?_
 (iterate 11 refine WK ?_);refine AOps.gN ?_;refine AOps.p (F7 .i64 n rfl (by omega) (by kernel_rfl) (by kernel_rfl) rfl) rfl ?_;refine AOps.g_callf ?_;refine AOps.c1 (h:=(hlen ..)) (k:=?_);refine WK ?_;refine AOps.g_callf ?_;refine IP (h:=(hs ..)) (k:=?_);refine WK ?_
 refine DU ?_;exact BN [(X,_)] ⟨rfl,rfl⟩
theorem GY(a b:Int):Cp a b<0↔a<b:=by
 unfold Cp;split
 ·simp;assumption
 ·split<;>simp<;>omega
theorem M6{α:Type}(key:α->Int):SWO (AZ λx y=>Cp (key x) (key y))where
 irrefl x:=by simp only[AZ,AN,GY];omega
 trans x y z h1 h2:=by simp only[AZ,AE,GY]at*;omega
 ntrans x y z h1 h2:=by simp only[AZ,AN,GY]at*;omega
end
theorem Lu(l:List Comp)(f:FuncId)(cap:List AV)(p:Comp->Bool)(hs:B6 cap=true)(hl:l.length<=4611686018427387904)(hf:∀x∈l,PS Tryz.prog f ((AG false) x::cap) (bA (p x))):PS Tryz.prog 206 [.lst false 42 2 (l.map (AG false)),.fn f cap] (iA (ES l p)):=by
 refine Sp (nt:=19) (res:=[.tmp 4]) Tryz.func206 λSf=>?_
 refine KK ?_;refine Az (λi:Nat=>⟨[(0,.lst false 42 2 (l.map (AG false))),(1,.fn f cap),(7,iA (l.map (AG false)).length),(8,iA i)],Sf⟩) (λi=>i<=l.length/\∀j (h:j<l.length),j<i->p l[j]=false) (λi=>l.length-i) 0 ⟨Nat.zero_le _,λj h hj=>absurd hj (by omega)⟩ ?_;rintro i ⟨hi,he⟩;refine KK ?_;refine AWP.cond rfl (λhc=>?_) (λhc=>?_)
 ·have h:i<l.length:=by simpa using hc
  refine KK ?_;refine AOps.g_callv ?_;refine Gz (h:=(hf _ (AU h))) (k:=?_);refine KK ?_;refine AWP.cond rfl (λhd=>?_) (λhd=>?_)
  ·refine KK ?_
   refine RT ?_;refine AF ?_;rw[Ep h hd λj hj=>he j (by omega) hj]
  ·refine KK ?_
   refine Ab (i+1) ⟨h,λj h1 h2=>?_⟩;by_cases e:j=i
   ·subst e;exact hd
   ·exact he j h1 (by omega)
 ·have h:¬i<l.length:=by simpa using hc
  refine JA ?_;refine AF ?_;rw[Eq λj hj=>he j hj (by omega)]
theorem Fk(l:List Comp)(f:FuncId)(cap:List AV)(p:Comp->Bool)(hs:B6 cap=true)(hl:l.length<=4611686018427387904)(hf:∀x∈l,PS Tryz.prog f ((AG false) x::cap) (bA (p x))):PS Tryz.prog 133 [.lst false 42 2 (l.map (AG false)),.fn f cap] (bA (l.any p)):=by
 refine Sp (nt:=9) (res:=[.tmp 4]) Tryz.func133 λSf=>?_
 refine KK ?_;refine AOps.g_callf ?_;refine AOps.c2 (h:=(Lu l f cap p hs hl hf)) (k:=?_);refine JA ?_;refine AF ?_;rw[<-Ks]
section
open Go.Sort
theorem VE(o c:Comp):PS Tryz.prog 134 [AG false o,.fp (AG false c).cells] (bA (decide (o.kind=c.kind))):=by
 refine Sp (nt:=9) (res:=[.tmp 3]) Tryz.func134 λSf=>?_
 refine WK ?_;refine WK ?_;refine AOps.g_box ?_;refine Ad ?_;refine JA ?_;refine AF ?_;rfl
theorem VD(a b:Comp):PS Tryz.prog 137 [AG false a,AG false b] (iA (Cp a.kind b.kind)):=by
 refine Sp (nt:=10) (res:=[.tmp 4]) Tryz.func137 λSf=>?_
 refine WK ?_;refine WK ?_;refine AOps.g_box ?_;refine Ad ?_;refine AOps.g_box ?_;refine Ad ?_;refine KK ?_;refine AOps.g_callf ?_;refine AOps.c2 (h:=(E8 a.kind b.kind)) (k:=?_);refine JA ?_;refine AF ?_;rfl
theorem Hq(ks:List Kind)(l:List Comp)(h12:ks.length<=12)(hl:l.length<=1099511627776):PS Tryz.prog 61 [Ag false false ks,Ax false false l] (.tup [Ax true false (CL ks l).1,iA (CL ks l).2]):=by
 have hck:=LR ks;obtain⟨r,hr⟩:=nm (CL ks l);rw[hr];unfold CL at hr;have hlm:(l.map (AG false)).length=l.length:=AB _;have hkm:(ks.map (A7 false)).length=ks.length:=AB _;refine Sp (nt:=64) (res:=[.tmp 4,.tmp 5]) Tryz.func61 λSf=>?_
 refine KK ?_;refine AOps.g_callf ?_;refine AOps.c1 (h:=(hck ..)) (k:=?_);refine KK ?_;refine AWP.cond rfl (λhc=>?_) (λhc=>?_)
 ·have hc:Al ks≠0:=by simpa using hc
  rw[if_pos hc]at hr;subst hr;refine JA ?_;exact Bw [.prim (.slice none 0 0),iA (Al ks)] [Ax true false [],iA (Al ks)] (.cons (.cell .nil) (.cons (.cell .same) .nil))
 have hc:Al ks=0:=by simpa using hc
 rw[if_neg (by simp[hc])]at hr;have hgo:=λh=>K1 (ks:=ks) (l:=l) (pre:=[]) (out:=[]) h (by simp) (by simp) (by simp)
 obtain⟨g,hg⟩:=nm (Cn ks [] [] l);rw[hg]at hr hgo;refine KK ?_;refine AWP.adopt (d:=7) 42 2 rfl λO=>?_
 refine Gy (λ(q Y m:Nat) (M:List AV)=>⟨[(0,Ag false false ks),(1,Ax false false l),(7,.sl Y 0 m),(17,Ax false false l),(18,iA (l.map (AG false)).length),(19,iA q)],(Y,.row 42 2 M)::Sf⟩) (λq _ m M=>q<=l.length/\m=M.length/\m=q/\∃out:List Comp,M=out.map (AG false)/\Cn ks (l.take q) out (l.drop q)=g) (λq _ _ _=>l.length-q) 0 O 0 [] ⟨Nat.zero_le _,rfl,rfl,[],rfl,hg⟩ ?_;rintro q Y m M ⟨hq,hm,hmq,out,hM,hfold⟩;refine KK ?_;refine AWP.cond rfl (λhe=>?_) (λhe=>?_)
 ·have h:q<l.length:=by rw[AE,hlm]at he;omega
  obtain⟨c,hcq⟩:=nm (l[q]);have hat:(l.map (AG false))[q]?=some (AG false c):=by rw[AH,AI h,hcq];rfl
  rw[CG h,hcq,Cn]at hfold;have hcf:=Fk (l.take q) 134 [.fp (AG false c).cells] (λo=>decide (o.kind=c.kind)) rfl (by rw[Aj];omega) (λo _=>VE o c);obtain⟨ck,cv⟩:=c;dsimp only at hfold hcf;rw[List.map_take]at hcf;refine KK ?_;refine Ai λV=>?_;refine KK ?_
  refine AWP.cond rfl (λhd=>?_) (λhd=>?_)
  ·have hb:ck<0\/(ks.length:Int)<=ck:=by simpa using hd
   rw[if_pos hb]at hfold;subst hfold;rw[if_pos (by decide)]at hr;subst hr;refine JA ?_;exact Bw [.prim (.slice none 0 0),iA 1] [Ax true false [],iA 1] (.cons (.cell .nil) (.cons (.cell .same) .nil))
  have hb:¬(ck<0\/(ks.length:Int)<=ck):=by simpa using hd
  rw[if_neg hb]at hfold;obtain⟨j,hj⟩:∃j:Nat,ck=j:=⟨ck.toNat,by omega⟩;subst hj;have hjl:j<ks.length:=by omega
  rw[Int.toNat_natCast,AI hjl]at hfold;obtain⟨k,hk⟩:=nm (ks[j]);rw[hk]at hfold;dsimp only at hfold;have hatk:(ks.map (A7 false))[j]?=some (A7 false k):=by rw[AH,AI hjl,hk];rfl
  have hft:=P6 k cv;refine AWP.iceP [9] (X:=V) (by exact At.f) (b:=AG false ⟨j,cv⟩) (hf:=⟨by show(AV.agg [iA (j:Int),AM false cv]).frz=_;exact Frz.h⟩) ?_ (by intro d hd;simp only[BO]at hd;subst hd;rfl)
  (iterate 6 refine WK ?_);refine AOps.gN ?_;refine AOps.p (W.hiL rfl rfl rfl (by rw[hlm];exact hq)) rfl ?_;refine WK ?_;refine AOps.g_callf ?_;refine AOps.c2 (h:=(hcf ..)) (k:=?_);refine KK ?_
  refine AWP.cond rfl (λhd2=>?_) (λhd2=>?_)
  ·rw[if_pos hd2]at hfold
   subst hfold;rw[if_pos (by decide)]at hr;subst hr;refine JA ?_;exact Bw [.prim (.slice none 0 0),iA 5] [Ax true false [],iA 5] (.cons (.cell .nil) (.cons (.cell .same) .nil))
  rw[if_neg (by simp[hd2])]at hfold;refine RU ?_;(iterate 7 refine RK ?_);refine RGo.gN ?_;refine RGo.c2 (h:=hft) (k:=?_);(iterate 5 refine RK ?_);refine RGo.nil (by kernel_rfl) ?_;refine KK ?_;refine AWP.cond rfl (λhd3=>?_) (λhd3=>?_)
  ·have hd3:(BY k cv).2≠0:=by simpa using hd3
   rw[if_pos hd3]at hfold;subst hfold;rw[if_pos hd3]at hr;subst hr;refine JA ?_;exact Bw [.prim (.slice none 0 0),iA _] [Ax true false [],iA _] (.cons (.cell .nil) (.cons (.cell .same) .nil))
  have hd3:(BY k cv).2=0:=by simpa using hd3
  rw[if_neg (by simp[hd3])]at hfold;have hm1:m+1<=1099511627776:=by omega
  (iterate 8 refine WK ?_);refine AOps.g_lit ?_;refine AOps.goL (AG false ⟨j,(BY k cv).1⟩) ?_;refine WK ?_;refine Ay λY=>?_;refine KK ?_
  refine ER (q+1) Y (m+1) (M++[AG false ⟨j,(BY k cv).1⟩]) ⟨h,by rw[AP,hm];rfl,by omega,out++[⟨j,(BY k cv).1⟩],by rw[hM,List.map_append];rfl,?_⟩;rw[List.take_succ_eq_append_getElem h,hcq];exact hfold
 ·have h:q=l.length:=by rw[AN,hlm]at he;omega
  rw[h,List.take_length,List.drop_length,Cn]at hfold;subst hfold;dsimp only at hr hgo;rw[if_neg (by simp)]at hr;subst hr;obtain⟨hg1,hg2⟩:=hgo rfl;have hlen:out.length<=12:=Nat.le_trans (GQ Comp.kind _ _ hg1 hg2) h12;obtain⟨u,⟨hu1,hu2⟩,hsf⟩:=Hu 137 [] (λx y=>Cp x.kind y.kind) rfl (M6 Comp.kind) (λx y=>VD x y) Y m out (by rw[hm,hM,AB]) hlen;rw[<-hM]at hsf;refine KK ?_;refine AOps.g_callf ?_;refine AOps.o2 (h:=(hsf ..)) (k:=?_);refine KK ?_;have hu:u=GG out:=Ki hg1 hu1 (hu2.imp λ{a b} hab=>by simp only[AZ,AN,GY]at hab;omega);have hul:m=(u.map (AG false)).length:=by rw[hm,hM,AB,AB,hu1.length_eq]
  refine RT ?_;rw[<-hu];exact Bw [.sl Y 0 m,iA 0] [Ax true false u,iA 0] (.cons (.cell (.sl (p:=0) .here hul)) (.cons (.cell .same) .nil))
end
def Pc(ks:List Kind)(s:Sys)(e:Ent)(index:Int)(X C K E:Nat)(st:Rn):List AC:=
 [(X,KF ks s e C st.comps.length st.r K st.cmds.length E st.evs.length index),(C,.row 42 2 (st.comps.map (AG true))),(K,.row 159 5 (st.cmds.map Bp)),(E,.row 86 4 (st.evs.map Cw))]
structure RnOK(ks:List Kind)(s:Sys)(st:Rn):Prop where
 held:A8 ks st.comps=true
 has:Lf s st.comps
 odd:st.r.2.toNat%2=1
 cmds:st.cmds.length<=1099511627775
 evs:st.evs.length<=1099511627775
theorem MJ(ks:List Kind)(s:Sys)(e:Ent)(index:Int)(X C K E:Nat)(st:Rn)(Sf:List AC):Ld (Pc ks s e index X C K E st++Sf) (.ptr X 0 0) (.fp (Lm ks s e (Ax false false st.comps) st.r (.sl K 0 st.cmds.length) (.sl E 0 st.evs.length) index).cells):=by
 refine .ptr .here (b:=Lm ks s e (Ax false false st.comps) st.r (.sl K 0 st.cmds.length) (.sl E 0 st.evs.length) index) (.agg ?_) rfl;refine .cons .fz (.cons .fz (.cons .fz (.cons .fz (.cons .fz (.cons .fz (.cons .fz (.cons .fz (.cons .fz (.cons .fz (.cons ?_ (.cons .fz (.cons .fz (.cons .frz (.cons .frz (.cons .fz .nil)))))))))))))));exact RA Lds.fz (.next .here) (by simp)
theorem Wn(ks:List Kind)(s:Sys)(e:Ent)(index:Int)(X C K E:Nat)(st:Rn)(o:Op)(hk:Al ks=0)(h12:ks.length<=12)(hsp:s.spawn.length<=1099511627776)(hst:RnOK ks s st)(ho:OpG ks s.reads s.writes o):
  Spec Tryz.prog 102 [.ptr X 0 0,opA o] (Pc ks s e index X C K E st) λr' S'=>∃b:Nat×Nat,r'= .tup []/\S'=Pc ks s e index X C b.1 b.2 (doM ks s index e o st):=by
 obtain⟨hh,hhas,hodd,hcl,hel⟩:=hst;obtain⟨cs,r,cm,ev⟩:=st;dsimp only at hh hhas hodd hcl hel;obtain⟨h16,_⟩:=ED hk hh;obtain⟨a1,a2,a3⟩:=UB hh hhas ho.a;obtain⟨b1,b2,b3⟩:=UB hh hhas ho.b;have hA:=UA ks s e cs r K cm.length E ev.length index o.a (by omega) a1;have hB:=UA ks s e cs r K cm.length E ev.length index o.b (by omega) b1;have hs:=Fr o.act;obtain⟨act,⟨tk,tf⟩,oa,ob⟩:=o;dsimp only at a1 a2 a3 b1 b2 b3 hA hB hs;obtain⟨av,hav⟩:=nm (Ga cs oa);obtain⟨bv,hbv⟩:=nm (Ga cs ob);obtain⟨res,hres⟩:=nm (doM ks s index e ⟨act,⟨tk,tf⟩,oa,ob⟩ ⟨cs,r,cm,ev⟩);rw[hres];unfold doM at hres;dsimp only at hres;rw[hav]at hA a2 a3 hres;rw[hbv]at hB b2 b3 hres;refine Sp (nt:=137) (res:=[]) Tryz.func102 λSf=>?_
 refine RG ?_;refine AOps.g_box ?_;refine Ad ?_;refine NL ?_;have hAl:=PS.lend (S:=Pc ks s e index X C K E ⟨cs,r,cm,ev⟩) (args':=[.ptr X 0 0,Av oa]) hA rfl (.cons (by have:=MJ ks s e index X C K E ⟨cs,r,cm,ev⟩ [];rwa[List.append_nil]at this) (.cons .fz .nil));have hBl:=PS.lend (S:=Pc ks s e index X C K E ⟨cs,r,cm,ev⟩) (args':=[.ptr X 0 0,Av ob]) hB rfl (.cons (by have:=MJ ks s e index X C K E ⟨cs,r,cm,ev⟩ [];rwa[List.append_nil]at this) (.cons .fz .nil));unfold Pc at hAl hBl⊢;dsimp only at hAl hBl⊢;refine RU ?_;(iterate 3 refine RK ?_);refine RGo.gN ?_;refine RGo.z2 (h:=hAl) (hT:=.fz) (k:=?_);(iterate 3 refine RK ?_);refine RGo.gN ?_;refine RGo.z2 (h:=hBl) (hT:=.fz) (k:=?_);refine JH ?_;refine RGo.nil (by kernel_rfl) ?_;refine FL ?_;by_cases hsb:DZ act=true
 ·rw[if_pos hsb]at hres
  rw[hsb]at hs;obtain⟨hR,hW⟩:=ho.sets hsb;dsimp only at hR hW;have h07:0<=act/\act<=7:=by unfold DZ at hsb;simpa using hsb
  obtain⟨c,k,e1,e2,e3,e4,e5,e6,e7⟩:=KM hh hhas hR (.inr hW);dsimp only at e1 e2 e3 e5 e6;have hso:=(held_iff.1 hh).1;obtain⟨g1,g2⟩:=Hw hso e1 tf.toNat (BU (Eg ks ⟨tk,tf⟩) (Dv act av bv r).1);have hvp:=Sj ks s e C cs.length r K cm.length E ev.length index X act av bv h07.1 h07.2 ⟨a2,a3⟩ ⟨b2,b3⟩ hodd;obtain⟨⟨nv,r2⟩,hnv⟩:=nm (Dv act av bv r);rw[hnv]at hvp hres g2;obtain⟨f,hf⟩:=nm (Eg ks ⟨tk,tf⟩);rw[hf]at g2 hres;have hnp:=Qs f nv;obtain⟨j,hj⟩:=nm (Ci cs tk);rw[hj]at g1 g2;obtain⟨ti,rfl⟩:∃i:Nat,tk=i:=⟨tk.toNat,by have:=hR.1;dsimp only at this;omega⟩;obtain⟨tj,rfl⟩:∃i:Nat,tf=i:=⟨tf.toNat,by omega⟩;rw[Int.toNat_natCast]at g2 e3
  have hfe:k.fields[tj]?=some f:=by
   rw[<-hf];unfold Eg;dsimp only;rw[Int.toNat_natCast,Int.toNat_natCast,e3];dsimp only;rw[CF,AI (by omega)];rfl
  obtain⟨ck,cv⟩:=c;dsimp only at e2 e4 e7 g2;subst e2;have hvs:=λV=>Sk ks s e cs r K cm.length E ev.length index X C V j ⟨ti,cv⟩ hso g1 (by omega)
  obtain⟨kn,fs⟩:=k;dsimp only at e6 e7 hfe;have hatk:(ks.map (A7 false))[ti]?=some (A7 false ⟨kn,fs⟩):=by rw[AH,e3];rfl
  have hatf:(fs.map fieldA)[tj]?=some (fieldA f):=by rw[AH,hfe];rfl
  have hatc:(cs.map (AG true))[j]?=some (AG true ⟨ti,cv⟩):=by rw[AH,g1];rfl
  have hjm:j<(cs.map (AG true)).length:=by rw[AB];exact(List.getElem?_eq_some_iff.1 g1).1
  have hvl:tj<(cv.map iA).length:=by rw[AB];omega
  have hatv:(cv.map iA)[tj]?=some (iA cv[tj]):=by rw[AH,AI (by rw[AB]at hvl;exact hvl)];rfl
  refine JG ?_;refine AOps.g_callf ?_;refine AOps.c1 (h:=(hs ..)) (k:=?_);refine NL ?_;refine AL rfl rfl ?_;refine FL ?_;refine AWP.thawIn (Y:=C) (by exact At.f) (λ_=>Hos.at hatc (.agg (.tail (.head .here)))) λV=>?_
  have hvs1:=hvs V;unfold ND at hvs1;dsimp only at hvs1;refine FL ?_;refine Jj (JP 1 (X,KF ks s e C cs.length r K cm.length E ev.length index) (X,KF ks s e C cs.length r2 K cm.length E ev.length index)) (by kernel_rfl) (by kernel_rfl) ?_ ?_
  ·exact .inl rfl
  iterate 4 refine RGoJ.go ?_
  refine RGoJ.s ?_ (IH rfl rfl hvs1 .fz (by exact Pos.f) rfl rfl) rfl ?_
  ·exact λS hS=>JP.ne (by decide) _ (Vb _ hS)
  iterate 4 refine RGoJ.go ?_
  refine RGoJ.soft (S1:=[(0,.gone),(X,KF ks s e C cs.length r K cm.length E ev.length index)]) (S2:=[(0,.gone),(X,KF ks s e C cs.length r2 K cm.length E ev.length index)]) (by exact EH) (by exact EH) rfl ?_
  iterate 2 refine RGoJ.soft (S1:=[(0,.gone),(X,KF ks s e C cs.length r K cm.length E ev.length index)]) (S2:=[(0,.gone),(X,KF ks s e C cs.length r2 K cm.length E ev.length index)]) (by exact EH) (by exact EH) rfl ?_
  iterate 16 refine RGoJ.go ?_
  refine RGoJ.s Va (W.callO4 rfl rfl rfl rfl (by exact At.f) hvp rfl (Frz.h)) rfl ?_;refine RGoJ.p (W.callF2 rfl rfl hnp rfl (Frz.h)) rfl ?_;refine RGoJ.go ?_;refine RGoJ.s ?_ (by exact Gb) rfl ?_
  ·exact JP.ne (by decide)
  refine RGoJ.nil (by kernel_rfl) ?_;refine FL ?_;refine AWP.closeIn (X:=V) (Y:=C) (by exact At.f) (by exact At.f) rfl (by simp) (Hos.at (List.getElem?_set_self hjm) (.agg (.tail (.head .here)))) ?_;refine RT ?_;refine BN [(X,_),(C,_),(K,_),(E,_)] ⟨(K,E),rfl,?_⟩;rw[<-hres,Int.toNat_natCast,g2];dsimp only
  have hce:AG true ⟨ti,cv.set tj (BU f nv)⟩= .agg [iA ti,.lst true 3 1 ((cv.map iA).set tj (iA (BU f nv)))]:=by
   unfold AG AM;rw[List.map_set]
  rw[List.length_set,List.map_set,List.set_set,hce]
 ·have hsf:DZ act=false:=by simpa using hsb
  rw[if_neg hsb]at hres;rw[hsf]at hs
  have h8:act=8\/act=9\/act=10\/act=11\/act=12:=by
   have h1:0<=act:=ho.lo;have h2:act<=12:=ho.hi;unfold DZ at hsf;simp at hsf;omega
  refine JG ?_;refine AOps.g_callf ?_;refine AOps.c1 (h:=(hs ..)) (k:=?_);refine NL ?_;refine AA rfl rfl ?_;refine KK ?_;by_cases hz:av=0
  ·refine AL rfl (Ah hz) ?_
   rw[if_pos hz]at hres
   skip
   refine RT ?_;refine BN [(X,_),(C,_),(K,_),(E,_)] ⟨(K,E),rfl,?_⟩;rw[<-hres]
  ·refine AA rfl (AK hz) ?_
   rw[if_neg hz]at hres;rcases h8 with rfl|rfl|rfl|rfl|rfl
   ·obtain⟨p1,p2,p3⟩:=ho.puts (.inl rfl)
    dsimp only at p1 p2 p3;obtain⟨ti,rfl⟩:∃i:Nat,tk=i:=⟨tk.toNat,by omega⟩;have hkl:ti<ks.length:=by omega
    have hatk:(ks.map (A7 false))[ti]?=some (A7 false ks[ti]):=by rw[AH,AI hkl];rfl
    obtain⟨kn,hkn⟩:=nm (ks[ti]);have hfl:kn.fields.length<=1099511627776:=by have h8:=HU ((Bt hk).2 _ (AU hkl));rw[hkn]at h8;omega
    rw[hkn]at hatk
    have hdo:LI ks ti=(BY kn (List.replicate kn.fields.length 0)).1:=by
     unfold LI;rw[Int.toNat_natCast,AI hkl,hkn]
    have hdf:=QF kn hfl;refine KK ?_;refine Ai λB=>?_;refine KK ?_
    refine AL rfl rfl ?_;refine RU ?_;(iterate 12 refine RK ?_);refine RGo.gN ?_;refine RGo.c1 (h:=hdf) (k:=?_);(iterate 6 refine RK ?_);refine RGo.nil (by kernel_rfl) ?_;refine FL ?_;refine AWP.frzRow B [Bp ⟨0,e,0,[⟨ti,(BY kn (List.replicate kn.fields.length 0)).1⟩]⟩] ?_ ?_ (by exact At.f)
    ·exact(show AV.frzs [Bp ⟨0,e,0,[⟨ti,(BY kn (List.replicate kn.fields.length 0)).1⟩]⟩]=[Bp ⟨0,e,0,[⟨ti,(BY kn (List.replicate kn.fields.length 0)).1⟩]⟩]from congrArg (· ::[]) Frz.h)
    refine AWP.rs λK2=>?_
    refine RU ?_;(iterate 11 refine RK ?_);refine RGo.nil (by kernel_rfl) ?_;refine DU ?_;refine BN [(X,_),(C,_),(K2,_),(E,_)] ⟨(K2,E),rfl,?_⟩;rw[if_neg (by decide),if_pos rfl,hdo]at hres;rw[<-hres];dsimp only;rw[AP,List.map_append];rfl
   ·refine KK ?_;refine Ai λB=>?_;refine KK ?_
    refine AA rfl rfl ?_;refine KK ?_;refine AL rfl rfl ?_;refine RU ?_;(iterate 7 refine RK ?_);refine RGo.nil (by kernel_rfl) ?_;refine FL ?_;refine AWP.nilIn 42 2 (Y:=B) (.cons (.agg (.cons .same (.cons .same (.cons .same (.cons .same (.cons (.base .nil) .nil)))))) .nil) ?_;refine AWP.frzRow B [Bp ⟨1,e,tk,[]⟩] ?_ ?_ (by exact At.f)
    ·exact(show AV.frzs [Bp ⟨1,e,tk,[]⟩]=[Bp ⟨1,e,tk,[]⟩]from congrArg (· ::[]) Frz.h)
    refine AWP.rs λK2=>?_
    refine RU ?_;(iterate 11 refine RK ?_);refine RGo.nil (by kernel_rfl) ?_;refine DU ?_;refine BN [(X,_),(C,_),(K2,_),(E,_)] ⟨(K2,E),rfl,?_⟩;rw[if_neg (by decide),if_neg (by decide),if_pos rfl]at hres;rw[<-hres];dsimp only;rw[AP,List.map_append];rfl
   ·refine KK ?_;refine Ai λB=>?_;refine KK ?_
    refine AA rfl rfl ?_;refine KK ?_;refine AA rfl rfl ?_;refine KK ?_;refine AL rfl rfl ?_;refine KK ?_;refine AWP.nilIn 42 2 (Y:=B) (.cons (.agg (.cons .same (.cons .same (.cons .same (.cons .same (.cons (.base .nil) .nil)))))) .nil) ?_;refine AWP.frzRow B [Bp ⟨2,e,0,[]⟩] ?_ ?_ (by exact At.f)
    ·exact(show AV.frzs [Bp ⟨2,e,0,[]⟩]=[Bp ⟨2,e,0,[]⟩]from congrArg (· ::[]) Frz.h)
    refine AWP.rs λK2=>?_
    refine RU ?_;(iterate 11 refine RK ?_);refine RGo.nil (by kernel_rfl) ?_;refine DU ?_;refine BN [(X,_),(C,_),(K2,_),(E,_)] ⟨(K2,E),rfl,?_⟩;rw[if_neg (by decide),if_neg (by decide),if_neg (by decide),if_pos rfl]at hres;rw[<-hres];dsimp only;rw[AP,List.map_append];rfl
   ·have hfp:=Hq ks s.spawn h12 hsp
    refine KK ?_;refine Ai λB=>?_;refine KK ?_
    refine AA rfl rfl ?_;refine KK ?_;refine AA rfl rfl ?_;refine KK ?_;refine AA rfl rfl ?_;refine KK ?_;refine AL rfl rfl ?_;refine RU ?_;(iterate 9 refine RK ?_);refine RGo.gN ?_;refine RGo.c2 (h:=hfp) (k:=?_);(iterate 5 refine RK ?_);refine RGo.nil (by kernel_rfl) ?_;refine KK ?_;refine AWP.frzRow B [Bp ⟨3,⟨0,0⟩,0,(CL ks s.spawn).1⟩] ?_ ?_ (by exact At.f)
    ·exact(show AV.frzs [Bp ⟨3,⟨0,0⟩,0,(CL ks s.spawn).1⟩]=[Bp ⟨3,⟨0,0⟩,0,(CL ks s.spawn).1⟩]from congrArg (· ::[]) Frz.h)
    refine AWP.rs λK2=>?_
    refine RU ?_;(iterate 11 refine RK ?_);refine RGo.nil (by kernel_rfl) ?_;refine DU ?_;refine BN [(X,_),(C,_),(K2,_),(E,_)] ⟨(K2,E),rfl,?_⟩;rw[if_neg (by decide),if_neg (by decide),if_neg (by decide),if_neg (by decide)]at hres;rw[<-hres];dsimp only;rw[AP,List.map_append];rfl
   ·refine KK ?_;refine Ai λB=>?_;refine KK ?_
    refine AA rfl rfl ?_;refine KK ?_;refine AA rfl rfl ?_;refine KK ?_;refine AA rfl rfl ?_;refine KK ?_;refine AA rfl rfl ?_;refine AWP.rs λE2=>?_
    refine RU ?_;(iterate 16 refine RK ?_);refine RGo.g_lit ?_;refine RGo.goL (Cw ⟨index,e,bv⟩) ?_;(iterate 4 refine RK ?_);refine RGo.nil (by kernel_rfl) ?_;refine RT ?_;refine BN [(X,_),(C,_),(K,_),(E2,_)] ⟨(K,E2),rfl,?_⟩;rw[if_pos rfl]at hres;rw[<-hres];dsimp only;rw[AP,List.map_append];rfl
theorem Ls(l:List Int)(f:FuncId)(cap:List AV)(p:Int->Bool)(hs:B6 cap=true)(hl:l.length<=4611686018427387904)(hf:∀x∈l,PS Tryz.prog f (iA x::cap) (bA (p x))):PS Tryz.prog 173 [.lst false 3 1 (l.map iA),.fn f cap] (iA (ES l p)):=by
 refine Sp (nt:=19) (res:=[.tmp 4]) Tryz.func173 λSf=>?_
 refine KK ?_;refine Az (λi:Nat=>⟨[(0,.lst false 3 1 (l.map iA)),(1,.fn f cap),(7,iA (l.map iA).length),(8,iA i)],Sf⟩) (λi=>i<=l.length/\∀j (h:j<l.length),j<i->p l[j]=false) (λi=>l.length-i) 0 ⟨Nat.zero_le _,λj h hj=>absurd hj (by omega)⟩ ?_;rintro i ⟨hi,he⟩;refine KK ?_;refine AWP.cond rfl (λhc=>?_) (λhc=>?_)
 ·have h:i<l.length:=by simpa using hc
  refine KK ?_;refine AOps.g_callv ?_;refine Gz (h:=(hf _ (AU h))) (k:=?_);refine KK ?_;refine AWP.cond rfl (λhd=>?_) (λhd=>?_)
  ·refine KK ?_
   refine RT ?_;refine AF ?_;rw[Ep h hd λj hj=>he j (by omega) hj]
  ·refine KK ?_
   refine Ab (i+1) ⟨h,λj h1 h2=>?_⟩;by_cases e:j=i
   ·subst e;exact hd
   ·exact he j h1 (by omega)
 ·have h:¬i<l.length:=by simpa using hc
  refine JA ?_;refine AF ?_;rw[Eq λj hj=>he j hj (by omega)]
theorem Co(l:List Int)(f:FuncId)(cap:List AV)(p:Int->Bool)(hs:B6 cap=true)(hl:l.length<=4611686018427387904)(hf:∀x∈l,PS Tryz.prog f (iA x::cap) (bA (p x))):PS Tryz.prog 96 [.lst false 3 1 (l.map iA),.fn f cap] (bA (l.any p)):=by
 refine Sp (nt:=9) (res:=[.tmp 4]) Tryz.func96 λSf=>?_
 refine KK ?_;refine AOps.g_callf ?_;refine AOps.c2 (h:=(Ls l f cap p hs hl hf)) (k:=?_);refine JA ?_;refine AF ?_;rw[<-Ks]
def Il(cs:List Comp)(k:Int):Bool:=cs.any λc=>decide (c.kind=k)
def Ba(it:Item)(wth wout:List Int):Bool:=!(wth.any λk=>!Il it.comps k)&& !(wout.any λk=>Il it.comps k)
theorem Pq(c:Comp)(k:Int):PS Tryz.prog 237 [AG false c,.fp [iA k]] (bA (decide (c.kind=k))):=by
 refine Sp (nt:=8) (res:=[.tmp 3]) Tryz.func237 λSf=>?_
 refine WK ?_;refine WK ?_;refine AOps.g_box ?_;refine Ad ?_;refine JA ?_;refine AF ?_;rfl
theorem MQ(it:Item)(k:Int)(hl:it.comps.length<=4611686018427387904):PS Tryz.prog 236 [iA k,.fp (AD false it).cells] (bA (Il it.comps k)):=by
 refine Sp (nt:=8) (res:=[.tmp 3]) Tryz.func236 λSf=>?_
 refine WK ?_;refine WK ?_;refine AOps.g_box ?_;refine Ad ?_;refine KK ?_;refine AOps.g_callf ?_;refine AOps.c2 (h:=(Fk it.comps 237 [.fp [iA k]] (λc=>decide (c.kind=k)) rfl hl (λx hx=>Pq x k))) (k:=?_);refine JA ?_;refine AF ?_;rfl
theorem Rt(it:Item)(k:Int)(hl:it.comps.length<=4611686018427387904):PS Tryz.prog 238 [iA k,.fp [.fn 236 [.fp (AD false it).cells]]] (bA (!Il it.comps k)):=by
 refine Sp (nt:=8) (res:=[.tmp 3]) Tryz.func238 λSf=>?_
 refine KK ?_;refine AOps.g_callv ?_;refine Gz (h:=(MQ it k hl)) (k:=?_);refine JA ?_;refine AF ?_;rfl
theorem TH(it:Item)(wth wout:List Int)(hl:it.comps.length<=4611686018427387904)(h1:wth.length<=4611686018427387904)(h2:wout.length<=4611686018427387904):PS Tryz.prog 180 [AD false it,AM false wth,AM false wout] (bA (Ba it wth wout)):=by
 have c1:=Co wth 238 [.fp [.fn 236 [.fp (AD false it).cells]]] (λk=>!Il it.comps k) rfl h1 (λx _=>Rt it x hl);have c2:=Co wout 236 [.fp (AD false it).cells] (λk=>Il it.comps k) rfl h2 (λx _=>MQ it x hl);unfold Ba;obtain⟨b1,hb1⟩:=nm ((wth.any λk=>!Il it.comps k));obtain⟨b2,hb2⟩:=nm ((wout.any λk=>Il it.comps k));rw[hb1]at c1⊢;rw[hb2]at c2⊢;refine Sp (nt:=19) (res:=[.tmp 6]) Tryz.func180 λSf=>?_
 refine RG ?_;refine AOps.g_box ?_;refine Ad ?_;refine JB ?_;refine JG ?_;refine Ai λX=>?_;refine JB ?_
 refine AWP.iceP [7] .here (hf:=.fn1 (.fp (a:=AD false it) inferInstance)) ?_ (by intro d hd;simp only[BO]at hd;subst hd;rfl);cases b1
 ·refine KK ?_;refine AOps.g_callf ?_;refine AOps.c2 (h:=(c1 ..)) (k:=?_);refine KK ?_;refine AOps.g_callf ?_;refine AOps.c2 (h:=(c2 ..)) (k:=?_);refine KK ?_
  refine RT ?_;refine AF ?_;rfl
 ·refine KK ?_;refine AOps.g_callf ?_;refine AOps.c2 (h:=(c1 ..)) (k:=?_);refine KK ?_
  refine RT ?_;refine AF ?_;rfl
def DS(l:List Item)(wth wout:List Int):Nat->List (Nat×Item)
 |0=>[]
 |i+1=>DS l wth wout i++(match l[i]? with
  |some it=>match Ba it wth wout with
   |true=>[(i,it)]
   |false=>[]
  |none=>[])
def DH(l:List Item)(wth wout:List Int):List (Nat×Item):=DS l wth wout l.length
theorem Iu{l:List Item}{wth wout:List Int}{i:Nat}(h:i<l.length)(hm:Ba l[i] wth wout=true):DS l wth wout (i+1)=DS l wth wout i++[(i,l[i])]:=by
 simp[DS,AI h,hm]
theorem Oz{l:List Item}{wth wout:List Int}{i:Nat}(h:i<l.length)(hm:Ba l[i] wth wout=false):DS l wth wout (i+1)=DS l wth wout i:=by
 simp[DS,AI h,hm]
theorem Mo(l:List Item)(wth wout:List Int)(i:Nat):(DS l wth wout i).length<=i:=by
 induction i with
 |zero=>simp[DS]
 |succ i ih=>
  rw[DS,AP];split
  ·split<;>simp<;>omega
  ·simp;omega
def Pf(q:Nat×Item):AV:=.agg [iA q.1,iA q.2.ent.n,iA q.2.ent.gen,Ax false false q.2.comps]
instance {q:Nat×Item}:Frz (Pf q) (Pf q):=⟨by
 show AV.agg [_,_,_,(Ax false false q.2.comps).frz]=_
 rw[show(Ax false false q.2.comps).frz=Ax false false q.2.comps from Frz.h];rfl⟩
abbrev Sz(l:List (Nat×Item)):AV:=.lst false 284 4 (l.map Pf)
theorem WM(w:Wd)(wth wout:List Int)(h0:w.items.length<=1099511627776)(hl:∀it∈w.items,it.comps.length<=1099511627776/\∀c∈it.comps,c.vals.length<=1099511627776)(h1:wth.length<=4611686018427387904)(h2:wout.length<=4611686018427387904):
  PS Tryz.prog 100 [wdA false w,AM false wth,AM false wout] (.fn 181 [.fp [Sz (DH w.items wth wout)]]):=by
 refine Sp (nt:=35) (res:=[.tmp 6]) Tryz.func100 λSf=>?_
 refine RG ?_;refine AOps.g_box ?_;refine Ad ?_;refine JB ?_;refine JF ?_;refine Ai λX=>?_;refine NL ?_
 refine AWP.adoptIn 284 4 .here (λK=>.cons (.base .nil) .nil) λK=>?_
 refine KK ?_;refine Gy (λ(i K:Nat) (M:List AV) (n:Nat)=>⟨[(1,AM false wth),(2,AM false wout),(7,.ptr X 0 0),(11,HX false false w.items),(12,iA (w.items.map (AD false)).length),(13,iA i)],(K,.row 284 4 M)::(X,.row 281 1 [.sl K 0 n])::Sf⟩) (λi _ M n=>i<=w.items.length/\M=(DS w.items wth wout i).map Pf/\n=M.length) (λi _ _ _=>w.items.length-i) 0 K [] 0 ⟨Nat.zero_le _,rfl,rfl⟩ ?_;rintro i K M n ⟨hi,hM,hn⟩;refine KK ?_;refine AWP.cond rfl (λhc=>?_) (λhc=>?_)
 ·have h:i<w.items.length:=by simpa using hc
  have hn1:n+1<=1099511627776:=by have:=Mo w.items wth wout i;rw[hn,hM,AB];omega
  obtain⟨hc1,hc2⟩:=hl _ (AU h);obtain⟨b,hb⟩:=nm (Ba w.items[i] wth wout);have hm:=TH w.items[i] wth wout (by omega) h1 h2;rw[hb]at hm;refine KK ?_;refine Ai λX=>?_;refine KK ?_;refine AOps.g_callf ?_;refine C5 (h:=(hm ..)) (k:=?_);refine KK ?_
  cases b
  ·refine AA rfl rfl ?_
   refine KK ?_;refine ER (i+1) K M n ⟨h,?_,hn⟩;rw[Oz h hb,hM]
  ·refine AL rfl rfl ?_
   refine AWP.rs λX7=>?_
   refine JM ?_;refine RGo.g_callf ?_;refine RGo.c1 (h:=(D0 _ hc1 hc2)) (k:=?_);refine JH ?_;refine RGo.g_lit ?_;refine RGo.goL (Pf (i,w.items[i])) ?_;refine JH ?_;refine RGo.nil (by kernel_rfl) ?_;refine KK ?_;refine ER (i+1) X7 _ _ ⟨h,?_,?_⟩
   ·rw[Iu h hb,hM,List.map_append];rfl
   ·rw[AP,hn]
 ·have h:i=w.items.length:=by rw[AN,AB]at hc;omega
  subst h;refine FL ?_;refine AWP.iceIn (X:=K) .here (.next .here) rfl (.cons (.base (.sl (by omega))) .nil) ?_
  have hF:AV.frzs ((M.drop 0).take n)=(DH w.items wth wout).map Pf:=by
   rw[List.drop_zero,List.take_of_length_le (by omega),hM];exact Frzs.h
  rw[hF];refine AWP.iceP [7] (.next .here) ?_ (by intro d hd;simp only[BO]at hd;subst hd;rfl);refine JA ?_;refine AF ?_;rfl
theorem Iv(l:List Item)(wth wout:List Int):(DH l wth wout).length<=l.length:=Mo l wth wout l.length
theorem Mn{l:List Item}{wth wout:List Int}{i:Nat}{q:Nat×Item}(h:q∈DS l wth wout i):q.2∈l:=by
 induction i with
 |zero=>simp[DS]at h
 |succ i ih=>
  rw[DS,CY]at h;rcases h with h|h
  ·exact ih h
  ·split at h
   ·rename_i it hit
    split at h
    ·simp only[BO]at h
     subst h;exact Aq hit
    ·cases h
   ·cases h
theorem L6(l:List Comp)(hl:l.length<=1099511627776)(hv:∀c∈l,c.vals.length<=1099511627776):PS Tryz.prog 59 [Ax false false l] (Ax true true l):=by
 have hlm:(l.map (AG false)).length=l.length:=AB _;refine Sp (nt:=27) (res:=[.tmp 2]) Tryz.func59 λSf=>?_
 have hl':(l.map (AG false)).length<=1099511627776:=by simpa using hl
 have hz0:List.replicate (l.map (AG false)).length (.agg [iA 0,.prim (.slice none 0 0)])=DV (AG true) (.agg [iA 0,.prim (.slice none 0 0)]) l 0:=by rw[GW,hlm]
 (iterate 8 refine WK ?_);refine Dt ?_;refine Fm (.agg [iA 0,.prim (.slice none 0 0)]) λK=>?_;refine KK ?_
 rw[hz0];refine Bq (λ(i:Nat) (M:List AV)=>⟨[(3,.sl K 0 (l.map (AG false)).length),(9,Ax false false l),(10,iA (l.map (AG false)).length),(11,iA i)],(K,.row 42 2 M)::Sf⟩) (λi M=>i<=l.length/\M=DV (AG true) (.agg [iA 0,.prim (.slice none 0 0)]) l i) (λi _=>l.length-i) 0 _ ⟨Nat.zero_le _,rfl⟩ ?_;rintro i M ⟨hi,hM⟩;refine KK ?_;refine AWP.cond rfl (λhc=>?_) (λhc=>?_)
 ·have h:i<l.length:=by simpa using hc
  have hm:i<(l.map (AG false)).length:=by simpa using h
  have hset:=Hf (AG true) (.agg [iA 0,.prim (.slice none 0 0)]) l h;have hMat:M[i]?=some (.agg [iA 0,.prim (.slice none 0 0)]):=by rw[hM];exact Ip _ _ _ h
  have hMl:M.length=l.length:=by rw[hM];exact K6 _ _ _ _ hi
  have hvl:=hv _ (AU h);obtain⟨⟨ck,cv⟩,hce⟩:=nm (l[i]);rw[hce]at hset hvl;dsimp only at hvl;have hat:(l.map (AG false))[i]?=some (AG false ⟨ck,cv⟩):=by rw[AH,AI h,hce];rfl
  have hcl:=Es cv (by omega);refine KK ?_;refine Ai λV=>?_;refine KK ?_
  refine AWP.rs λY=>?_
  refine RU ?_;(iterate 6 refine RK ?_);refine RGo.gN ?_;refine RGo.t1 (h:=hcl) (k:=?_);(iterate 3 refine RK ?_);refine RGo.nil (by kernel_rfl) ?_;(repeat refine WF ?_);have hMs:(M.set i (.agg [iA ck,.sl Y 0 (cv.map iA).length]))[i]?=some (.agg [iA ck,.sl Y 0 (cv.map iA).length]):=List.getElem?_set_self (by omega);refine AWP.closeIn (X:=Y) (Y:=K) (by exact At.f) (by exact At.f) rfl rfl (Hos.at hMs (.agg (.tail (.head .here)))) ?_;rw[List.set_set];refine KK ?_;refine BK (i+1) _ ⟨h,?_⟩;rw[hM];exact hset
 ·have h:i=l.length:=by rw[AN,hlm]at hc;omega
  subst h;rw[Hg _ _ _ (Nat.le_refl _)]at hM;subst hM;have hK:(l.map (AG false)).length=(l.map (AG true)).length:=by simp
  refine JA ?_;exact Bw [.sl K 0 (l.map (AG false)).length] [Ax true true l] (.cons (.cell (.sl (p:=0) .here hK)) .nil)
def itY(q:Nat×Item):YO:=λC=>([iA q.1,.agg [iA q.2.ent.n,iA q.2.ent.gen,.sl C 0 (q.2.comps.map (AG true)).length]],[(C,.row 42 2 (q.2.comps.map (AG true)))])
theorem SY(l:List (Nat×Item))(h0:l.length<=1099511627776)(hl:∀q∈l,q.2.comps.length<=1099511627776/\∀c∈q.2.comps,c.vals.length<=1099511627776):W5 Tryz.prog 181 [.fp [Sz l]] (l.map itY):=by
 refine⟨by kernel_rfl,λy J Jx hY Sl hJ0=>?_⟩;refine Sp (nt:=25) (res:=[]) Tryz.func181 λSf=>?_
 refine JN ?_;refine Bq (λ(i:Nat) (Sl:List AC)=>⟨[(0,.prim y),(5,Sz l),(6,iA (l.map Pf).length),(7,iA i)],Sl++Sf⟩) (λi Sl=>i<=l.length/\J i Sl) (λi _=>l.length-i) 0 Sl ⟨Nat.zero_le _,hJ0⟩ ?_;rintro i Sl ⟨hi,hJ⟩;refine KK ?_;refine AWP.cond rfl (λhc=>?_) (λhc=>?_)
 ·have h:i<l.length:=by simpa using hc
  obtain⟨hc1,hc2⟩:=hl _ (AU h);have hcc:=L6 _ hc1 hc2;(repeat refine WF ?_);refine JG ?_;refine Ai λX=>?_;refine JB ?_
  refine AWP.rs λC=>?_
  (repeat refine WF ?_);refine De 11 (by kernel_rfl) (by kernel_rfl) (by kernel_rfl) ?_;dsimp only[List.take,List.drop];(iterate 9 refine RK ?_);refine RGo.gN ?_;refine RGo.t1 (h:=hcc) (k:=?_);refine RK ?_;refine RGo.nil (by kernel_rfl) ?_;refine AOps.sub (S':=((C,.row 42 2 (l[i].2.comps.map (AG true)))::Sl)++Sf) (by exact Sub.f) ?_;refine Nk C (Si:=[]) (ob:=[(C,.row 42 2 (l[i].2.comps.map (AG true)))]) hY hJ (show(l.map itY)[i]?=some (itY l[i]) by simp[h]) rfl rfl (λSl' hk=>?_) (λSl' hk=>?_)
  ·refine KK ?_
   refine AA rfl rfl ?_;refine KK ?_;refine BK (i+1) Sl' ⟨h,hk⟩
  ·refine KK ?_
   refine AL rfl rfl ?_;refine RT ?_;exact BN Sl' (.inr hk)
 ·have h:i=l.length:=by rw[AN,AB]at hc;omega
  subst h;refine KK ?_;refine DU ?_;exact BN Sl (.inl (by rw[AB];exact hJ))
theorem V2(ks:List Kind)(s:Sys)(o:Op)(h:OpG ks s.reads s.writes o)(hkk:10<=o.act/\o.act<=11)(hr:s.reads.length<=1099511627776)(hw:s.writes.length<=1099511627776):PS Tryz.prog 179 [Ag false false ks,CA false s,opA o] (iA 0):=by
 obtain⟨h1,h2,h3,h4,h5,h6,h7,h8⟩:=h;obtain⟨act,⟨tk,tf⟩,a,b⟩:=o;dsimp only at h1 h2 h3 h4 h5 h6 h7 h8 hkk;have g1:decide (act<0)=false:=AK (by omega);have g2:decide (act>12)=false:=AK (by omega)
 have hax:∀i,i<2->∃x,([Av a,Av b])[i]?=some (Av x)/\ArgG ks s.reads s.writes x:=λi hi=>by
  rcases Nat.lt_or_ge i 1 with e|e
  ·obtain rfl:i=0:=by omega
   exact⟨a,rfl,h3⟩
  ·obtain rfl:i=1:=by omega
   exact⟨b,rfl,h4⟩
 have hkm:(ks.map (A7 false)).length=ks.length:=AB _;refine Sp (nt:=201) (res:=[.tmp 6]) Tryz.func179 λSf=>?_
 refine RG ?_;refine AOps.g_box ?_;refine Ad ?_;refine AOps.g_box ?_;refine Ad ?_;refine JB ?_;refine R1 ?_;refine AA rfl g2 ?_
 (iterate 8 refine WK ?_);refine AOps.g_lit ?_;refine Bm (Av a) (Av b) ?_;refine KK ?_
 refine Az (λi:Nat=>⟨[(0,Ag false false ks),(4,.fp (CA false s).cells),(5,.fp (opA ⟨act,⟨tk,tf⟩,a,b⟩).cells),(27,.lst false 193 4 [Av a,Av b]),(28,iA 2),(29,iA i)],Sf⟩) (λi=>i<=2) (λi=>2-i) 0 (by omega) ?_;rintro i hi;refine KK ?_;refine AWP.cond rfl (λhc=>?_) (λhc=>?_)
 ·have hi2:i<2:=by rw[AE]at hc;omega
  obtain⟨⟨xh,xn,⟨xk,xf⟩⟩,hat,hx⟩:=hax i hi2;obtain⟨hy,hn⟩:=hx;dsimp only at hy hn;have hal:i<[Av a,Av b].length:=hi2;refine JG ?_;refine Ai λV=>?_;refine JB ?_
  cases xh
  ·obtain⟨n1,n2,n3⟩:=hn rfl
   have k1:decide (xn< -1099511627776)=false:=AK (by omega);have k2:decide (xn>1099511627776)=false:=AK (by omega);refine RG ?_;(repeat first|(refine AOps.gQ ?_;first|refine AOps.goNU ?_|refine AOps.goNV ?_)|refine WO ?_|refine Ai λX=>?_|refine Ay λY=>?_);refine NL ?_;refine AA rfl (by first|rfl|assumption) ?_;refine KK ?_;refine Ab (i+1) hi2
  ·obtain⟨n1,n2,n3⟩:=hy rfl
   have hf:=DD ks ⟨xk,xf⟩ n2;refine RG ?_;(repeat first|(refine AOps.gN ?_;first|(refine AOps.g_callf ?_;first|refine AOps.c2 (h:=(hf ..)) (k:=?_)))|(refine AOps.gQ ?_;first|refine AOps.goNU ?_|refine AOps.goNV ?_)|refine WO ?_|refine Ai λX=>?_|refine Ay λY=>?_);refine NL ?_;refine AA rfl (by first|rfl|assumption) ?_;refine KK ?_;refine Ab (i+1) hi2
 ·clear hc
  refine JI ?_;refine Ai λN=>?_;refine JB ?_
  (iterate 7 refine WK ?_);refine AOps.g_lit ?_;refine Bm (Av a) (Av b) ?_;refine KK ?_
  refine Az (λi:Nat=>⟨[(0,Ag false false ks),(4,.fp (CA false s).cells),(5,.fp (opA ⟨act,⟨tk,tf⟩,a,b⟩).cells),(9,.ptr N 0 0),(63,.lst false 193 4 [Av a,Av b]),(64,iA 2),(65,iA i)],(N,.row 191 2 [Pi ⟨0,0⟩])::Sf⟩) (λi=>i<=2) (λi=>2-i) 0 (by omega) ?_;rintro i hi;refine KK ?_;refine AWP.cond rfl (λhc=>?_) (λhc=>?_)
  ·have hi2:i<2:=by rw[AE]at hc;omega
   obtain⟨⟨xh,xn,xr⟩,hat,hx⟩:=hax i hi2;obtain⟨hy,hn⟩:=hx;dsimp only at hy hn;have hal:i<[Av a,Av b].length:=hi2;refine JG ?_;refine Ai λV=>?_;refine JB ?_
   cases xh
   ·obtain⟨n1,n2,n3⟩:=hn rfl
    subst n3;refine RG ?_;(repeat first|(refine AOps.gN ?_;first|refine AOps.go (h:=W.neP _ _ (by kernel_rfl) GF rfl rfl) (k:=?_))|(refine AOps.gQ ?_;first|refine AOps.goNU ?_|refine AOps.goNV ?_)|refine WO ?_|refine Ai λX=>?_|refine Ay λY=>?_);refine NL ?_;refine AA rfl (by first|rfl|assumption) ?_;refine KK ?_;refine Ab (i+1) hi2
   ·obtain⟨n1,n2,n3⟩:=hy rfl
    subst n1;refine RG ?_;(repeat first|(refine AOps.gQ ?_;first|refine AOps.goNU ?_|refine AOps.goNV ?_)|refine WO ?_|refine Ai λX=>?_|refine Ay λY=>?_);refine NL ?_;refine AA rfl (by first|rfl|assumption) ?_;refine KK ?_;refine Ab (i+1) hi2
  ·clear hc
   refine FL ?_;have hst:=Fr act;have htw:=IU act;obtain⟨sB,hsB⟩:=nm (DZ act);obtain⟨tB,htB⟩:=nm (C7 act);obtain⟨c8,hc8⟩:=nm (decide (act=8));obtain⟨c9,hc9⟩:=nm (decide (act=9));rw[hsB]at hst h6;rw[htB]at htw h5;have hk1:∀x:Int,x∈s.writes->s.writes.contains x=true:=λx hx=>by simpa using hx
   have hcw:=λx=>BX s.writes x (by omega)
   have hcr:=λx=>BX s.reads x (by omega)
   have hsB':=hsB;have htB':=htB;have htB0:=htB;unfold DZ at hsB';unfold C7 at htB';cases sB<;>cases tB<;>cases c8<;>cases c9
   all_goals first
    |(exfalso;(try rw[htB0]at hkk);simp only[Bool.and_eq_true,Bool.or_eq_true,Bool.and_eq_false_iff,Bool.or_eq_false_iff,AE,AN]at hsB' htB' hc8 hc9;first|omega|(revert hkk;simp;done))
    |skip
   ·have ht0:=h8 (by simp only[AN,Bool.and_eq_false_iff]at hc8 hc9 hsB';omega)
    injection ht0 with ht1 ht2
    subst ht1 ht2;have hn9:(!decide (act=9))=true:=by rw[hc9];rfl
    obtain rfl:b=Fl:=h5 rfl;refine R1 ?_;refine RG ?_;(repeat first|(refine AOps.gN ?_;first|(refine AOps.g_callf ?_;first|refine AOps.c1 (h:=(hst ..)) (k:=?_)|refine AOps.c1 (h:=(htw ..)) (k:=?_))|refine AOps.go (h:=W.neP _ _ (by kernel_rfl) Mk rfl rfl) (k:=?_)|refine AOps.go (h:=W.neP _ _ (by kernel_rfl) GF rfl rfl) (k:=?_))|(refine AOps.gQ ?_;first|refine AOps.goNU ?_|refine AOps.goNV ?_)|refine WO ?_|refine Ai λX=>?_|refine Ay λY=>?_);refine NL ?_;refine AA rfl (by first|rfl|assumption) ?_;refine RG ?_;(repeat first|(refine AOps.gN ?_;first|(refine AOps.g_callf ?_;first|refine AOps.c1 (h:=(hst ..)) (k:=?_)))|(refine AOps.gQ ?_;first|refine AOps.goNU ?_|refine AOps.goNV ?_)|refine WO ?_|refine Ai λX=>?_|refine Ay λY=>?_);refine NL ?_;refine AA rfl (by first|rfl|assumption) ?_;refine RG ?_;(repeat first|(refine AOps.gN ?_;first|(refine AOps.g_callf ?_;first|refine AOps.c1 (h:=(hst ..)) (k:=?_)))|(refine AOps.gQ ?_;first|refine AOps.goNU ?_|refine AOps.goNV ?_)|refine WO ?_|refine Ai λX=>?_|refine Ay λY=>?_);refine NL ?_;refine AA rfl (by first|rfl|assumption) ?_
    (iterate 8 refine WK ?_);refine AOps.g_lit ?_;refine Bm (Av a) (Av Fl) ?_;refine KK ?_
    refine Az (λi:Nat=>⟨[(0,Ag false false ks),(4,.fp (CA false s).cells),(174,.lst false 193 4 [Av a,Av Fl]),(175,iA 2),(176,iA i)],Sf⟩) (λi=>i<=2) (λi=>2-i) 0 (by omega) ?_;rintro i hi;refine KK ?_;refine AWP.cond rfl (λhc=>?_) (λhc=>?_)
    ·have hi2:i<2:=by rw[AE]at hc;omega
     obtain⟨⟨xh,xn,xr⟩,hat,hx⟩:=hax i hi2;obtain⟨hy,hn⟩:=hx;dsimp only at hy hn;have hal:i<[Av a,Av Fl].length:=hi2;refine JG ?_;refine Ai λV=>?_;refine JB ?_
     cases xh
     ·refine RG ?_;(repeat first|(refine AOps.gQ ?_;first|refine AOps.goNU ?_|refine AOps.goNV ?_)|refine WO ?_|refine Ai λX=>?_|refine Ay λY=>?_);refine NL ?_
      refine AA rfl (by first|rfl|assumption) ?_;refine KK ?_;refine Ab (i+1) hi2
     ·obtain⟨n1,n2,n3⟩:=hy rfl
      have hr1:=hcr xr.kind;have hr2:=hcw xr.kind;cases hrr:s.reads.contains xr.kind
      ·rw[hrr]at hr1
       rw[show s.writes.contains xr.kind=true from by rcases n3 with e|e;rw[e]at hrr;cases hrr;exact e]at hr2;refine JG ?_;refine AOps.g_callf ?_;refine AOps.c2 (h:=(hr1 ..)) (k:=?_);refine KO ?_;refine AOps.g_callf ?_;refine AOps.c2 (h:=(hr2 ..)) (k:=?_);refine JE ?_;refine AA rfl (by first|rfl|assumption) ?_;refine KK ?_;refine Ab (i+1) hi2
      ·rw[hrr]at hr1
       refine RG ?_;(repeat first|(refine AOps.gN ?_;first|(refine AOps.g_callf ?_;first|refine AOps.c2 (h:=(hr1 ..)) (k:=?_)))|(refine AOps.gQ ?_;first|refine AOps.goNU ?_|refine AOps.goNV ?_)|refine WO ?_|refine Ai λX=>?_|refine Ay λY=>?_);refine NL ?_;refine AA rfl (by first|rfl|assumption) ?_;refine KK ?_;refine Ab (i+1) hi2
    ·refine KK ?_
     refine RT ?_;refine AF ?_;rfl
theorem V1(ks:List Kind)(s:Sys)(o:Op)(h:OpG ks s.reads s.writes o)(hkk:o.act=9)(hr:s.reads.length<=1099511627776)(hw:s.writes.length<=1099511627776):PS Tryz.prog 179 [Ag false false ks,CA false s,opA o] (iA 0):=by
 obtain⟨h1,h2,h3,h4,h5,h6,h7,h8⟩:=h;obtain⟨act,⟨tk,tf⟩,a,b⟩:=o;dsimp only at h1 h2 h3 h4 h5 h6 h7 h8 hkk;have g1:decide (act<0)=false:=AK (by omega);have g2:decide (act>12)=false:=AK (by omega)
 have hax:∀i,i<2->∃x,([Av a,Av b])[i]?=some (Av x)/\ArgG ks s.reads s.writes x:=λi hi=>by
  rcases Nat.lt_or_ge i 1 with e|e
  ·obtain rfl:i=0:=by omega
   exact⟨a,rfl,h3⟩
  ·obtain rfl:i=1:=by omega
   exact⟨b,rfl,h4⟩
 have hkm:(ks.map (A7 false)).length=ks.length:=AB _;refine Sp (nt:=201) (res:=[.tmp 6]) Tryz.func179 λSf=>?_
 refine RG ?_;refine AOps.g_box ?_;refine Ad ?_;refine AOps.g_box ?_;refine Ad ?_;refine JB ?_;refine R1 ?_;refine AA rfl g2 ?_
 (iterate 8 refine WK ?_);refine AOps.g_lit ?_;refine Bm (Av a) (Av b) ?_;refine KK ?_
 refine Az (λi:Nat=>⟨[(0,Ag false false ks),(4,.fp (CA false s).cells),(5,.fp (opA ⟨act,⟨tk,tf⟩,a,b⟩).cells),(27,.lst false 193 4 [Av a,Av b]),(28,iA 2),(29,iA i)],Sf⟩) (λi=>i<=2) (λi=>2-i) 0 (by omega) ?_;rintro i hi;refine KK ?_;refine AWP.cond rfl (λhc=>?_) (λhc=>?_)
 ·have hi2:i<2:=by rw[AE]at hc;omega
  obtain⟨⟨xh,xn,⟨xk,xf⟩⟩,hat,hx⟩:=hax i hi2;obtain⟨hy,hn⟩:=hx;dsimp only at hy hn;have hal:i<[Av a,Av b].length:=hi2;refine JG ?_;refine Ai λV=>?_;refine JB ?_
  cases xh
  ·obtain⟨n1,n2,n3⟩:=hn rfl
   have k1:decide (xn< -1099511627776)=false:=AK (by omega);have k2:decide (xn>1099511627776)=false:=AK (by omega);refine RG ?_;(repeat first|(refine AOps.gQ ?_;first|refine AOps.goNU ?_|refine AOps.goNV ?_)|refine WO ?_|refine Ai λX=>?_|refine Ay λY=>?_);refine NL ?_;refine AA rfl (by first|rfl|assumption) ?_;refine KK ?_;refine Ab (i+1) hi2
  ·obtain⟨n1,n2,n3⟩:=hy rfl
   have hf:=DD ks ⟨xk,xf⟩ n2;refine RG ?_;(repeat first|(refine AOps.gN ?_;first|(refine AOps.g_callf ?_;first|refine AOps.c2 (h:=(hf ..)) (k:=?_)))|(refine AOps.gQ ?_;first|refine AOps.goNU ?_|refine AOps.goNV ?_)|refine WO ?_|refine Ai λX=>?_|refine Ay λY=>?_);refine NL ?_;refine AA rfl (by first|rfl|assumption) ?_;refine KK ?_;refine Ab (i+1) hi2
 ·clear hc
  refine JI ?_;refine Ai λN=>?_;refine JB ?_
  (iterate 7 refine WK ?_);refine AOps.g_lit ?_;refine Bm (Av a) (Av b) ?_;refine KK ?_
  refine Az (λi:Nat=>⟨[(0,Ag false false ks),(4,.fp (CA false s).cells),(5,.fp (opA ⟨act,⟨tk,tf⟩,a,b⟩).cells),(9,.ptr N 0 0),(63,.lst false 193 4 [Av a,Av b]),(64,iA 2),(65,iA i)],(N,.row 191 2 [Pi ⟨0,0⟩])::Sf⟩) (λi=>i<=2) (λi=>2-i) 0 (by omega) ?_;rintro i hi;refine KK ?_;refine AWP.cond rfl (λhc=>?_) (λhc=>?_)
  ·have hi2:i<2:=by rw[AE]at hc;omega
   obtain⟨⟨xh,xn,xr⟩,hat,hx⟩:=hax i hi2;obtain⟨hy,hn⟩:=hx;dsimp only at hy hn;have hal:i<[Av a,Av b].length:=hi2;refine JG ?_;refine Ai λV=>?_;refine JB ?_
   cases xh
   ·obtain⟨n1,n2,n3⟩:=hn rfl
    subst n3;refine RG ?_;(repeat first|(refine AOps.gN ?_;first|refine AOps.go (h:=W.neP _ _ (by kernel_rfl) GF rfl rfl) (k:=?_))|(refine AOps.gQ ?_;first|refine AOps.goNU ?_|refine AOps.goNV ?_)|refine WO ?_|refine Ai λX=>?_|refine Ay λY=>?_);refine NL ?_;refine AA rfl (by first|rfl|assumption) ?_;refine KK ?_;refine Ab (i+1) hi2
   ·obtain⟨n1,n2,n3⟩:=hy rfl
    subst n1;refine RG ?_;(repeat first|(refine AOps.gQ ?_;first|refine AOps.goNU ?_|refine AOps.goNV ?_)|refine WO ?_|refine Ai λX=>?_|refine Ay λY=>?_);refine NL ?_;refine AA rfl (by first|rfl|assumption) ?_;refine KK ?_;refine Ab (i+1) hi2
  ·clear hc
   refine FL ?_;have hst:=Fr act;have htw:=IU act;obtain⟨sB,hsB⟩:=nm (DZ act);obtain⟨tB,htB⟩:=nm (C7 act);obtain⟨c8,hc8⟩:=nm (decide (act=8));obtain⟨c9,hc9⟩:=nm (decide (act=9));rw[hsB]at hst h6;rw[htB]at htw h5;have hk1:∀x:Int,x∈s.writes->s.writes.contains x=true:=λx hx=>by simpa using hx
   have hcw:=λx=>BX s.writes x (by omega)
   have hcr:=λx=>BX s.reads x (by omega)
   have hsB':=hsB;have htB':=htB;have htB0:=htB;unfold DZ at hsB';unfold C7 at htB';cases sB<;>cases tB<;>cases c8<;>cases c9
   all_goals first
    |(exfalso;(try rw[htB0]at hkk);simp only[Bool.and_eq_true,Bool.or_eq_true,Bool.and_eq_false_iff,Bool.or_eq_false_iff,AE,AN]at hsB' htB' hc8 hc9;first|omega|(revert hkk;simp;done))
    |skip
   ·obtain rfl:act=9:=by simpa using hc9
    obtain⟨p1,p2,rfl⟩:=h7 (.inr rfl);obtain rfl:b=Fl:=h5 rfl;have k1:decide (tk<0)=false:=AK (by omega);have k2:decide (tk>=(ks.map (A7 false)).length)=false:=AK (by omega);refine R1 ?_;refine RG ?_;(repeat first|(refine AOps.gN ?_;first|(refine AOps.g_callf ?_;first|refine AOps.c1 (h:=(hst ..)) (k:=?_)|refine AOps.c1 (h:=(htw ..)) (k:=?_))|refine AOps.go (h:=W.neP _ _ (by kernel_rfl) Mk rfl rfl) (k:=?_)|refine AOps.go (h:=W.neP _ _ (by kernel_rfl) GF rfl rfl) (k:=?_))|(refine AOps.gQ ?_;first|refine AOps.goNU ?_|refine AOps.goNV ?_)|refine WO ?_|refine Ai λX=>?_|refine Ay λY=>?_);refine NL ?_;refine AA rfl (by first|rfl|assumption) ?_;refine RG ?_;(repeat first|(refine AOps.gN ?_;first|(refine AOps.g_callf ?_;first|refine AOps.c1 (h:=(hst ..)) (k:=?_)))|(refine AOps.gQ ?_;first|refine AOps.goNU ?_|refine AOps.goNV ?_)|refine WO ?_|refine Ai λX=>?_|refine Ay λY=>?_);refine NL ?_;refine AA rfl (by first|rfl|assumption) ?_;refine RG ?_;(repeat first|(refine AOps.gN ?_;first|(refine AOps.g_callf ?_;first|refine AOps.c1 (h:=(hst ..)) (k:=?_)))|(refine AOps.gQ ?_;first|refine AOps.goNU ?_|refine AOps.goNV ?_)|refine WO ?_|refine Ai λX=>?_|refine Ay λY=>?_);refine NL ?_;refine AA rfl (by first|rfl|assumption) ?_
    (iterate 8 refine WK ?_);refine AOps.g_lit ?_;refine Bm (Av a) (Av Fl) ?_;refine KK ?_
    refine Az (λi:Nat=>⟨[(0,Ag false false ks),(4,.fp (CA false s).cells),(174,.lst false 193 4 [Av a,Av Fl]),(175,iA 2),(176,iA i)],Sf⟩) (λi=>i<=2) (λi=>2-i) 0 (by omega) ?_;rintro i hi;refine KK ?_;refine AWP.cond rfl (λhc=>?_) (λhc=>?_)
    ·have hi2:i<2:=by rw[AE]at hc;omega
     obtain⟨⟨xh,xn,xr⟩,hat,hx⟩:=hax i hi2;obtain⟨hy,hn⟩:=hx;dsimp only at hy hn;have hal:i<[Av a,Av Fl].length:=hi2;refine JG ?_;refine Ai λV=>?_;refine JB ?_
     cases xh
     ·refine RG ?_;(repeat first|(refine AOps.gQ ?_;first|refine AOps.goNU ?_|refine AOps.goNV ?_)|refine WO ?_|refine Ai λX=>?_|refine Ay λY=>?_);refine NL ?_
      refine AA rfl (by first|rfl|assumption) ?_;refine KK ?_;refine Ab (i+1) hi2
     ·obtain⟨n1,n2,n3⟩:=hy rfl
      have hr1:=hcr xr.kind;have hr2:=hcw xr.kind;cases hrr:s.reads.contains xr.kind
      ·rw[hrr]at hr1
       rw[show s.writes.contains xr.kind=true from by rcases n3 with e|e;rw[e]at hrr;cases hrr;exact e]at hr2;refine JG ?_;refine AOps.g_callf ?_;refine AOps.c2 (h:=(hr1 ..)) (k:=?_);refine KO ?_;refine AOps.g_callf ?_;refine AOps.c2 (h:=(hr2 ..)) (k:=?_);refine JE ?_;refine AA rfl (by first|rfl|assumption) ?_;refine KK ?_;refine Ab (i+1) hi2
      ·rw[hrr]at hr1
       refine RG ?_;(repeat first|(refine AOps.gN ?_;first|(refine AOps.g_callf ?_;first|refine AOps.c2 (h:=(hr1 ..)) (k:=?_)))|(refine AOps.gQ ?_;first|refine AOps.goNU ?_|refine AOps.goNV ?_)|refine WO ?_|refine Ai λX=>?_|refine Ay λY=>?_);refine NL ?_;refine AA rfl (by first|rfl|assumption) ?_;refine KK ?_;refine Ab (i+1) hi2
    ·refine KK ?_
     refine RT ?_;refine AF ?_;rfl
theorem V0(ks:List Kind)(s:Sys)(o:Op)(h:OpG ks s.reads s.writes o)(hkk:o.act=8)(hr:s.reads.length<=1099511627776)(hw:s.writes.length<=1099511627776):PS Tryz.prog 179 [Ag false false ks,CA false s,opA o] (iA 0):=by
 obtain⟨h1,h2,h3,h4,h5,h6,h7,h8⟩:=h;obtain⟨act,⟨tk,tf⟩,a,b⟩:=o;dsimp only at h1 h2 h3 h4 h5 h6 h7 h8 hkk;have g1:decide (act<0)=false:=AK (by omega);have g2:decide (act>12)=false:=AK (by omega)
 have hax:∀i,i<2->∃x,([Av a,Av b])[i]?=some (Av x)/\ArgG ks s.reads s.writes x:=λi hi=>by
  rcases Nat.lt_or_ge i 1 with e|e
  ·obtain rfl:i=0:=by omega
   exact⟨a,rfl,h3⟩
  ·obtain rfl:i=1:=by omega
   exact⟨b,rfl,h4⟩
 have hkm:(ks.map (A7 false)).length=ks.length:=AB _;refine Sp (nt:=201) (res:=[.tmp 6]) Tryz.func179 λSf=>?_
 refine RG ?_;refine AOps.g_box ?_;refine Ad ?_;refine AOps.g_box ?_;refine Ad ?_;refine JB ?_;refine R1 ?_;refine AA rfl g2 ?_
 (iterate 8 refine WK ?_);refine AOps.g_lit ?_;refine Bm (Av a) (Av b) ?_;refine KK ?_
 refine Az (λi:Nat=>⟨[(0,Ag false false ks),(4,.fp (CA false s).cells),(5,.fp (opA ⟨act,⟨tk,tf⟩,a,b⟩).cells),(27,.lst false 193 4 [Av a,Av b]),(28,iA 2),(29,iA i)],Sf⟩) (λi=>i<=2) (λi=>2-i) 0 (by omega) ?_;rintro i hi;refine KK ?_;refine AWP.cond rfl (λhc=>?_) (λhc=>?_)
 ·have hi2:i<2:=by rw[AE]at hc;omega
  obtain⟨⟨xh,xn,⟨xk,xf⟩⟩,hat,hx⟩:=hax i hi2;obtain⟨hy,hn⟩:=hx;dsimp only at hy hn;have hal:i<[Av a,Av b].length:=hi2;refine JG ?_;refine Ai λV=>?_;refine JB ?_
  cases xh
  ·obtain⟨n1,n2,n3⟩:=hn rfl
   have k1:decide (xn< -1099511627776)=false:=AK (by omega);have k2:decide (xn>1099511627776)=false:=AK (by omega);refine RG ?_;(repeat first|(refine AOps.gQ ?_;first|refine AOps.goNU ?_|refine AOps.goNV ?_)|refine WO ?_|refine Ai λX=>?_|refine Ay λY=>?_);refine NL ?_;refine AA rfl (by first|rfl|assumption) ?_;refine KK ?_;refine Ab (i+1) hi2
  ·obtain⟨n1,n2,n3⟩:=hy rfl
   have hf:=DD ks ⟨xk,xf⟩ n2;refine RG ?_;(repeat first|(refine AOps.gN ?_;first|(refine AOps.g_callf ?_;first|refine AOps.c2 (h:=(hf ..)) (k:=?_)))|(refine AOps.gQ ?_;first|refine AOps.goNU ?_|refine AOps.goNV ?_)|refine WO ?_|refine Ai λX=>?_|refine Ay λY=>?_);refine NL ?_;refine AA rfl (by first|rfl|assumption) ?_;refine KK ?_;refine Ab (i+1) hi2
 ·clear hc
  refine JI ?_;refine Ai λN=>?_;refine JB ?_
  (iterate 7 refine WK ?_);refine AOps.g_lit ?_;refine Bm (Av a) (Av b) ?_;refine KK ?_
  refine Az (λi:Nat=>⟨[(0,Ag false false ks),(4,.fp (CA false s).cells),(5,.fp (opA ⟨act,⟨tk,tf⟩,a,b⟩).cells),(9,.ptr N 0 0),(63,.lst false 193 4 [Av a,Av b]),(64,iA 2),(65,iA i)],(N,.row 191 2 [Pi ⟨0,0⟩])::Sf⟩) (λi=>i<=2) (λi=>2-i) 0 (by omega) ?_;rintro i hi;refine KK ?_;refine AWP.cond rfl (λhc=>?_) (λhc=>?_)
  ·have hi2:i<2:=by rw[AE]at hc;omega
   obtain⟨⟨xh,xn,xr⟩,hat,hx⟩:=hax i hi2;obtain⟨hy,hn⟩:=hx;dsimp only at hy hn;have hal:i<[Av a,Av b].length:=hi2;refine JG ?_;refine Ai λV=>?_;refine JB ?_
   cases xh
   ·obtain⟨n1,n2,n3⟩:=hn rfl
    subst n3;refine RG ?_;(repeat first|(refine AOps.gN ?_;first|refine AOps.go (h:=W.neP _ _ (by kernel_rfl) GF rfl rfl) (k:=?_))|(refine AOps.gQ ?_;first|refine AOps.goNU ?_|refine AOps.goNV ?_)|refine WO ?_|refine Ai λX=>?_|refine Ay λY=>?_);refine NL ?_;refine AA rfl (by first|rfl|assumption) ?_;refine KK ?_;refine Ab (i+1) hi2
   ·obtain⟨n1,n2,n3⟩:=hy rfl
    subst n1;refine RG ?_;(repeat first|(refine AOps.gQ ?_;first|refine AOps.goNU ?_|refine AOps.goNV ?_)|refine WO ?_|refine Ai λX=>?_|refine Ay λY=>?_);refine NL ?_;refine AA rfl (by first|rfl|assumption) ?_;refine KK ?_;refine Ab (i+1) hi2
  ·clear hc
   refine FL ?_;have hst:=Fr act;have htw:=IU act;obtain⟨sB,hsB⟩:=nm (DZ act);obtain⟨tB,htB⟩:=nm (C7 act);obtain⟨c8,hc8⟩:=nm (decide (act=8));obtain⟨c9,hc9⟩:=nm (decide (act=9));rw[hsB]at hst h6;rw[htB]at htw h5;have hk1:∀x:Int,x∈s.writes->s.writes.contains x=true:=λx hx=>by simpa using hx
   have hcw:=λx=>BX s.writes x (by omega)
   have hcr:=λx=>BX s.reads x (by omega)
   have hsB':=hsB;have htB':=htB;have htB0:=htB;unfold DZ at hsB';unfold C7 at htB';cases sB<;>cases tB<;>cases c8<;>cases c9
   all_goals first
    |(exfalso;(try rw[htB0]at hkk);simp only[Bool.and_eq_true,Bool.or_eq_true,Bool.and_eq_false_iff,Bool.or_eq_false_iff,AE,AN]at hsB' htB' hc8 hc9;first|omega|(revert hkk;simp;done))
    |skip
   ·obtain rfl:act=8:=by simpa using hc8
    obtain⟨p1,p2,rfl⟩:=h7 (.inl rfl);obtain rfl:b=Fl:=h5 rfl;have k1:decide (tk<0)=false:=AK (by omega);have k2:decide (tk>=(ks.map (A7 false)).length)=false:=AK (by omega);refine R1 ?_;refine RG ?_;(repeat first|(refine AOps.gN ?_;first|(refine AOps.g_callf ?_;first|refine AOps.c1 (h:=(hst ..)) (k:=?_)|refine AOps.c1 (h:=(htw ..)) (k:=?_))|refine AOps.go (h:=W.neP _ _ (by kernel_rfl) Mk rfl rfl) (k:=?_)|refine AOps.go (h:=W.neP _ _ (by kernel_rfl) GF rfl rfl) (k:=?_))|(refine AOps.gQ ?_;first|refine AOps.goNU ?_|refine AOps.goNV ?_)|refine WO ?_|refine Ai λX=>?_|refine Ay λY=>?_);refine NL ?_;refine AA rfl (by first|rfl|assumption) ?_;refine RG ?_;(repeat first|(refine AOps.gN ?_;first|(refine AOps.g_callf ?_;first|refine AOps.c1 (h:=(hst ..)) (k:=?_)))|(refine AOps.gQ ?_;first|refine AOps.goNU ?_|refine AOps.goNV ?_)|refine WO ?_|refine Ai λX=>?_|refine Ay λY=>?_);refine NL ?_;refine AA rfl (by first|rfl|assumption) ?_;refine RG ?_;(repeat first|(refine AOps.gN ?_;first|(refine AOps.g_callf ?_;first|refine AOps.c1 (h:=(hst ..)) (k:=?_)))|(refine AOps.gQ ?_;first|refine AOps.goNU ?_|refine AOps.goNV ?_)|refine WO ?_|refine Ai λX=>?_|refine Ay λY=>?_);refine NL ?_;refine AA rfl (by first|rfl|assumption) ?_
    (iterate 8 refine WK ?_);refine AOps.g_lit ?_;refine Bm (Av a) (Av Fl) ?_;refine KK ?_
    refine Az (λi:Nat=>⟨[(0,Ag false false ks),(4,.fp (CA false s).cells),(174,.lst false 193 4 [Av a,Av Fl]),(175,iA 2),(176,iA i)],Sf⟩) (λi=>i<=2) (λi=>2-i) 0 (by omega) ?_;rintro i hi;refine KK ?_;refine AWP.cond rfl (λhc=>?_) (λhc=>?_)
    ·have hi2:i<2:=by rw[AE]at hc;omega
     obtain⟨⟨xh,xn,xr⟩,hat,hx⟩:=hax i hi2;obtain⟨hy,hn⟩:=hx;dsimp only at hy hn;have hal:i<[Av a,Av Fl].length:=hi2;refine JG ?_;refine Ai λV=>?_;refine JB ?_
     cases xh
     ·refine RG ?_;(repeat first|(refine AOps.gQ ?_;first|refine AOps.goNU ?_|refine AOps.goNV ?_)|refine WO ?_|refine Ai λX=>?_|refine Ay λY=>?_);refine NL ?_
      refine AA rfl (by first|rfl|assumption) ?_;refine KK ?_;refine Ab (i+1) hi2
     ·obtain⟨n1,n2,n3⟩:=hy rfl
      have hr1:=hcr xr.kind;have hr2:=hcw xr.kind;cases hrr:s.reads.contains xr.kind
      ·rw[hrr]at hr1
       rw[show s.writes.contains xr.kind=true from by rcases n3 with e|e;rw[e]at hrr;cases hrr;exact e]at hr2;refine JG ?_;refine AOps.g_callf ?_;refine AOps.c2 (h:=(hr1 ..)) (k:=?_);refine KO ?_;refine AOps.g_callf ?_;refine AOps.c2 (h:=(hr2 ..)) (k:=?_);refine JE ?_;refine AA rfl (by first|rfl|assumption) ?_;refine KK ?_;refine Ab (i+1) hi2
      ·rw[hrr]at hr1
       refine RG ?_;(repeat first|(refine AOps.gN ?_;first|(refine AOps.g_callf ?_;first|refine AOps.c2 (h:=(hr1 ..)) (k:=?_)))|(refine AOps.gQ ?_;first|refine AOps.goNU ?_|refine AOps.goNV ?_)|refine WO ?_|refine Ai λX=>?_|refine Ay λY=>?_);refine NL ?_;refine AA rfl (by first|rfl|assumption) ?_;refine KK ?_;refine Ab (i+1) hi2
    ·refine KK ?_
     refine RT ?_;refine AF ?_;rfl
theorem Vz(ks:List Kind)(s:Sys)(o:Op)(h:OpG ks s.reads s.writes o)(hkk:o.act=12)(hr:s.reads.length<=1099511627776)(hw:s.writes.length<=1099511627776):PS Tryz.prog 179 [Ag false false ks,CA false s,opA o] (iA 0):=by
 obtain⟨h1,h2,h3,h4,h5,h6,h7,h8⟩:=h;obtain⟨act,⟨tk,tf⟩,a,b⟩:=o;dsimp only at h1 h2 h3 h4 h5 h6 h7 h8 hkk;have g1:decide (act<0)=false:=AK (by omega);have g2:decide (act>12)=false:=AK (by omega)
 have hax:∀i,i<2->∃x,([Av a,Av b])[i]?=some (Av x)/\ArgG ks s.reads s.writes x:=λi hi=>by
  rcases Nat.lt_or_ge i 1 with e|e
  ·obtain rfl:i=0:=by omega
   exact⟨a,rfl,h3⟩
  ·obtain rfl:i=1:=by omega
   exact⟨b,rfl,h4⟩
 have hkm:(ks.map (A7 false)).length=ks.length:=AB _;refine Sp (nt:=201) (res:=[.tmp 6]) Tryz.func179 λSf=>?_
 refine RG ?_;refine AOps.g_box ?_;refine Ad ?_;refine AOps.g_box ?_;refine Ad ?_;refine JB ?_;refine R1 ?_;refine AA rfl g2 ?_
 (iterate 8 refine WK ?_);refine AOps.g_lit ?_;refine Bm (Av a) (Av b) ?_;refine KK ?_
 refine Az (λi:Nat=>⟨[(0,Ag false false ks),(4,.fp (CA false s).cells),(5,.fp (opA ⟨act,⟨tk,tf⟩,a,b⟩).cells),(27,.lst false 193 4 [Av a,Av b]),(28,iA 2),(29,iA i)],Sf⟩) (λi=>i<=2) (λi=>2-i) 0 (by omega) ?_;rintro i hi;refine KK ?_;refine AWP.cond rfl (λhc=>?_) (λhc=>?_)
 ·have hi2:i<2:=by rw[AE]at hc;omega
  obtain⟨⟨xh,xn,⟨xk,xf⟩⟩,hat,hx⟩:=hax i hi2;obtain⟨hy,hn⟩:=hx;dsimp only at hy hn;have hal:i<[Av a,Av b].length:=hi2;refine JG ?_;refine Ai λV=>?_;refine JB ?_
  cases xh
  ·obtain⟨n1,n2,n3⟩:=hn rfl
   have k1:decide (xn< -1099511627776)=false:=AK (by omega);have k2:decide (xn>1099511627776)=false:=AK (by omega);refine RG ?_;(repeat first|(refine AOps.gQ ?_;first|refine AOps.goNU ?_|refine AOps.goNV ?_)|refine WO ?_|refine Ai λX=>?_|refine Ay λY=>?_);refine NL ?_;refine AA rfl (by first|rfl|assumption) ?_;refine KK ?_;refine Ab (i+1) hi2
  ·obtain⟨n1,n2,n3⟩:=hy rfl
   have hf:=DD ks ⟨xk,xf⟩ n2;refine RG ?_;(repeat first|(refine AOps.gN ?_;first|(refine AOps.g_callf ?_;first|refine AOps.c2 (h:=(hf ..)) (k:=?_)))|(refine AOps.gQ ?_;first|refine AOps.goNU ?_|refine AOps.goNV ?_)|refine WO ?_|refine Ai λX=>?_|refine Ay λY=>?_);refine NL ?_;refine AA rfl (by first|rfl|assumption) ?_;refine KK ?_;refine Ab (i+1) hi2
 ·clear hc
  refine JI ?_;refine Ai λN=>?_;refine JB ?_
  (iterate 7 refine WK ?_);refine AOps.g_lit ?_;refine Bm (Av a) (Av b) ?_;refine KK ?_
  refine Az (λi:Nat=>⟨[(0,Ag false false ks),(4,.fp (CA false s).cells),(5,.fp (opA ⟨act,⟨tk,tf⟩,a,b⟩).cells),(9,.ptr N 0 0),(63,.lst false 193 4 [Av a,Av b]),(64,iA 2),(65,iA i)],(N,.row 191 2 [Pi ⟨0,0⟩])::Sf⟩) (λi=>i<=2) (λi=>2-i) 0 (by omega) ?_;rintro i hi;refine KK ?_;refine AWP.cond rfl (λhc=>?_) (λhc=>?_)
  ·have hi2:i<2:=by rw[AE]at hc;omega
   obtain⟨⟨xh,xn,xr⟩,hat,hx⟩:=hax i hi2;obtain⟨hy,hn⟩:=hx;dsimp only at hy hn;have hal:i<[Av a,Av b].length:=hi2;refine JG ?_;refine Ai λV=>?_;refine JB ?_
   cases xh
   ·obtain⟨n1,n2,n3⟩:=hn rfl
    subst n3;refine RG ?_;(repeat first|(refine AOps.gN ?_;first|refine AOps.go (h:=W.neP _ _ (by kernel_rfl) GF rfl rfl) (k:=?_))|(refine AOps.gQ ?_;first|refine AOps.goNU ?_|refine AOps.goNV ?_)|refine WO ?_|refine Ai λX=>?_|refine Ay λY=>?_);refine NL ?_;refine AA rfl (by first|rfl|assumption) ?_;refine KK ?_;refine Ab (i+1) hi2
   ·obtain⟨n1,n2,n3⟩:=hy rfl
    subst n1;refine RG ?_;(repeat first|(refine AOps.gQ ?_;first|refine AOps.goNU ?_|refine AOps.goNV ?_)|refine WO ?_|refine Ai λX=>?_|refine Ay λY=>?_);refine NL ?_;refine AA rfl (by first|rfl|assumption) ?_;refine KK ?_;refine Ab (i+1) hi2
  ·clear hc
   refine FL ?_;have hst:=Fr act;have htw:=IU act;obtain⟨sB,hsB⟩:=nm (DZ act);obtain⟨tB,htB⟩:=nm (C7 act);obtain⟨c8,hc8⟩:=nm (decide (act=8));obtain⟨c9,hc9⟩:=nm (decide (act=9));rw[hsB]at hst h6;rw[htB]at htw h5;have hk1:∀x:Int,x∈s.writes->s.writes.contains x=true:=λx hx=>by simpa using hx
   have hcw:=λx=>BX s.writes x (by omega)
   have hcr:=λx=>BX s.reads x (by omega)
   have hsB':=hsB;have htB':=htB;have htB0:=htB;unfold DZ at hsB';unfold C7 at htB';cases sB<;>cases tB<;>cases c8<;>cases c9
   all_goals first
    |(exfalso;(try rw[htB0]at hkk);simp only[Bool.and_eq_true,Bool.or_eq_true,Bool.and_eq_false_iff,Bool.or_eq_false_iff,AE,AN]at hsB' htB' hc8 hc9;first|omega|(revert hkk;simp;done))
    |skip
   ·have ht0:=h8 (by simp only[AN,Bool.and_eq_false_iff]at hc8 hc9 hsB';omega)
    injection ht0 with ht1 ht2
    subst ht1 ht2;have hn9:(!decide (act=9))=true:=by rw[hc9];rfl
    refine R1 ?_;refine RG ?_;(repeat first|(refine AOps.gN ?_;first|(refine AOps.g_callf ?_;first|refine AOps.c1 (h:=(hst ..)) (k:=?_)|refine AOps.c1 (h:=(htw ..)) (k:=?_))|refine AOps.go (h:=W.neP _ _ (by kernel_rfl) Mk rfl rfl) (k:=?_)|refine AOps.go (h:=W.neP _ _ (by kernel_rfl) GF rfl rfl) (k:=?_))|(refine AOps.gQ ?_;first|refine AOps.goNU ?_|refine AOps.goNV ?_)|refine WO ?_|refine Ai λX=>?_|refine Ay λY=>?_);refine NL ?_;refine AA rfl (by first|rfl|assumption) ?_;refine RG ?_;(repeat first|(refine AOps.gN ?_;first|(refine AOps.g_callf ?_;first|refine AOps.c1 (h:=(hst ..)) (k:=?_)))|(refine AOps.gQ ?_;first|refine AOps.goNU ?_|refine AOps.goNV ?_)|refine WO ?_|refine Ai λX=>?_|refine Ay λY=>?_);refine NL ?_;refine AA rfl (by first|rfl|assumption) ?_;refine RG ?_;(repeat first|(refine AOps.gN ?_;first|(refine AOps.g_callf ?_;first|refine AOps.c1 (h:=(hst ..)) (k:=?_)))|(refine AOps.gQ ?_;first|refine AOps.goNU ?_|refine AOps.goNV ?_)|refine WO ?_|refine Ai λX=>?_|refine Ay λY=>?_);refine NL ?_;refine AA rfl (by first|rfl|assumption) ?_
    (iterate 8 refine WK ?_);refine AOps.g_lit ?_;refine Bm (Av a) (Av b) ?_;refine KK ?_
    refine Az (λi:Nat=>⟨[(0,Ag false false ks),(4,.fp (CA false s).cells),(174,.lst false 193 4 [Av a,Av b]),(175,iA 2),(176,iA i)],Sf⟩) (λi=>i<=2) (λi=>2-i) 0 (by omega) ?_;rintro i hi;refine KK ?_;refine AWP.cond rfl (λhc=>?_) (λhc=>?_)
    ·have hi2:i<2:=by rw[AE]at hc;omega
     obtain⟨⟨xh,xn,xr⟩,hat,hx⟩:=hax i hi2;obtain⟨hy,hn⟩:=hx;dsimp only at hy hn;have hal:i<[Av a,Av b].length:=hi2;refine JG ?_;refine Ai λV=>?_;refine JB ?_
     cases xh
     ·refine RG ?_;(repeat first|(refine AOps.gQ ?_;first|refine AOps.goNU ?_|refine AOps.goNV ?_)|refine WO ?_|refine Ai λX=>?_|refine Ay λY=>?_);refine NL ?_
      refine AA rfl (by first|rfl|assumption) ?_;refine KK ?_;refine Ab (i+1) hi2
     ·obtain⟨n1,n2,n3⟩:=hy rfl
      have hr1:=hcr xr.kind;have hr2:=hcw xr.kind;cases hrr:s.reads.contains xr.kind
      ·rw[hrr]at hr1
       rw[show s.writes.contains xr.kind=true from by rcases n3 with e|e;rw[e]at hrr;cases hrr;exact e]at hr2;refine JG ?_;refine AOps.g_callf ?_;refine AOps.c2 (h:=(hr1 ..)) (k:=?_);refine KO ?_;refine AOps.g_callf ?_;refine AOps.c2 (h:=(hr2 ..)) (k:=?_);refine JE ?_;refine AA rfl (by first|rfl|assumption) ?_;refine KK ?_;refine Ab (i+1) hi2
      ·rw[hrr]at hr1
       refine RG ?_;(repeat first|(refine AOps.gN ?_;first|(refine AOps.g_callf ?_;first|refine AOps.c2 (h:=(hr1 ..)) (k:=?_)))|(refine AOps.gQ ?_;first|refine AOps.goNU ?_|refine AOps.goNV ?_)|refine WO ?_|refine Ai λX=>?_|refine Ay λY=>?_);refine NL ?_;refine AA rfl (by first|rfl|assumption) ?_;refine KK ?_;refine Ab (i+1) hi2
    ·refine KK ?_
     refine RT ?_;refine AF ?_;rfl
theorem Vy(ks:List Kind)(s:Sys)(o:Op)(h:OpG ks s.reads s.writes o)(hkk:o.act<=7/\C7 o.act=false)(hr:s.reads.length<=1099511627776)(hw:s.writes.length<=1099511627776):PS Tryz.prog 179 [Ag false false ks,CA false s,opA o] (iA 0):=by
 obtain⟨h1,h2,h3,h4,h5,h6,h7,h8⟩:=h;obtain⟨act,⟨tk,tf⟩,a,b⟩:=o;dsimp only at h1 h2 h3 h4 h5 h6 h7 h8 hkk;have g1:decide (act<0)=false:=AK (by omega);have g2:decide (act>12)=false:=AK (by omega)
 have hax:∀i,i<2->∃x,([Av a,Av b])[i]?=some (Av x)/\ArgG ks s.reads s.writes x:=λi hi=>by
  rcases Nat.lt_or_ge i 1 with e|e
  ·obtain rfl:i=0:=by omega
   exact⟨a,rfl,h3⟩
  ·obtain rfl:i=1:=by omega
   exact⟨b,rfl,h4⟩
 have hkm:(ks.map (A7 false)).length=ks.length:=AB _;refine Sp (nt:=201) (res:=[.tmp 6]) Tryz.func179 λSf=>?_
 refine RG ?_;refine AOps.g_box ?_;refine Ad ?_;refine AOps.g_box ?_;refine Ad ?_;refine JB ?_;refine R1 ?_;refine AA rfl g2 ?_
 (iterate 8 refine WK ?_);refine AOps.g_lit ?_;refine Bm (Av a) (Av b) ?_;refine KK ?_
 refine Az (λi:Nat=>⟨[(0,Ag false false ks),(4,.fp (CA false s).cells),(5,.fp (opA ⟨act,⟨tk,tf⟩,a,b⟩).cells),(27,.lst false 193 4 [Av a,Av b]),(28,iA 2),(29,iA i)],Sf⟩) (λi=>i<=2) (λi=>2-i) 0 (by omega) ?_;rintro i hi;refine KK ?_;refine AWP.cond rfl (λhc=>?_) (λhc=>?_)
 ·have hi2:i<2:=by rw[AE]at hc;omega
  obtain⟨⟨xh,xn,⟨xk,xf⟩⟩,hat,hx⟩:=hax i hi2;obtain⟨hy,hn⟩:=hx;dsimp only at hy hn;have hal:i<[Av a,Av b].length:=hi2;refine JG ?_;refine Ai λV=>?_;refine JB ?_
  cases xh
  ·obtain⟨n1,n2,n3⟩:=hn rfl
   have k1:decide (xn< -1099511627776)=false:=AK (by omega);have k2:decide (xn>1099511627776)=false:=AK (by omega);refine RG ?_;(repeat first|(refine AOps.gQ ?_;first|refine AOps.goNU ?_|refine AOps.goNV ?_)|refine WO ?_|refine Ai λX=>?_|refine Ay λY=>?_);refine NL ?_;refine AA rfl (by first|rfl|assumption) ?_;refine KK ?_;refine Ab (i+1) hi2
  ·obtain⟨n1,n2,n3⟩:=hy rfl
   have hf:=DD ks ⟨xk,xf⟩ n2;refine RG ?_;(repeat first|(refine AOps.gN ?_;first|(refine AOps.g_callf ?_;first|refine AOps.c2 (h:=(hf ..)) (k:=?_)))|(refine AOps.gQ ?_;first|refine AOps.goNU ?_|refine AOps.goNV ?_)|refine WO ?_|refine Ai λX=>?_|refine Ay λY=>?_);refine NL ?_;refine AA rfl (by first|rfl|assumption) ?_;refine KK ?_;refine Ab (i+1) hi2
 ·clear hc
  refine JI ?_;refine Ai λN=>?_;refine JB ?_
  (iterate 7 refine WK ?_);refine AOps.g_lit ?_;refine Bm (Av a) (Av b) ?_;refine KK ?_
  refine Az (λi:Nat=>⟨[(0,Ag false false ks),(4,.fp (CA false s).cells),(5,.fp (opA ⟨act,⟨tk,tf⟩,a,b⟩).cells),(9,.ptr N 0 0),(63,.lst false 193 4 [Av a,Av b]),(64,iA 2),(65,iA i)],(N,.row 191 2 [Pi ⟨0,0⟩])::Sf⟩) (λi=>i<=2) (λi=>2-i) 0 (by omega) ?_;rintro i hi;refine KK ?_;refine AWP.cond rfl (λhc=>?_) (λhc=>?_)
  ·have hi2:i<2:=by rw[AE]at hc;omega
   obtain⟨⟨xh,xn,xr⟩,hat,hx⟩:=hax i hi2;obtain⟨hy,hn⟩:=hx;dsimp only at hy hn;have hal:i<[Av a,Av b].length:=hi2;refine JG ?_;refine Ai λV=>?_;refine JB ?_
   cases xh
   ·obtain⟨n1,n2,n3⟩:=hn rfl
    subst n3;refine RG ?_;(repeat first|(refine AOps.gN ?_;first|refine AOps.go (h:=W.neP _ _ (by kernel_rfl) GF rfl rfl) (k:=?_))|(refine AOps.gQ ?_;first|refine AOps.goNU ?_|refine AOps.goNV ?_)|refine WO ?_|refine Ai λX=>?_|refine Ay λY=>?_);refine NL ?_;refine AA rfl (by first|rfl|assumption) ?_;refine KK ?_;refine Ab (i+1) hi2
   ·obtain⟨n1,n2,n3⟩:=hy rfl
    subst n1;refine RG ?_;(repeat first|(refine AOps.gQ ?_;first|refine AOps.goNU ?_|refine AOps.goNV ?_)|refine WO ?_|refine Ai λX=>?_|refine Ay λY=>?_);refine NL ?_;refine AA rfl (by first|rfl|assumption) ?_;refine KK ?_;refine Ab (i+1) hi2
  ·clear hc
   refine FL ?_;have hst:=Fr act;have htw:=IU act;obtain⟨sB,hsB⟩:=nm (DZ act);obtain⟨tB,htB⟩:=nm (C7 act);obtain⟨c8,hc8⟩:=nm (decide (act=8));obtain⟨c9,hc9⟩:=nm (decide (act=9));rw[hsB]at hst h6;rw[htB]at htw h5;have hk1:∀x:Int,x∈s.writes->s.writes.contains x=true:=λx hx=>by simpa using hx
   have hcw:=λx=>BX s.writes x (by omega)
   have hcr:=λx=>BX s.reads x (by omega)
   have hsB':=hsB;have htB':=htB;have htB0:=htB;unfold DZ at hsB';unfold C7 at htB';cases sB<;>cases tB<;>cases c8<;>cases c9
   all_goals first
    |(exfalso;(try rw[htB0]at hkk);simp only[Bool.and_eq_true,Bool.or_eq_true,Bool.and_eq_false_iff,Bool.or_eq_false_iff,AE,AN]at hsB' htB' hc8 hc9;first|omega|(revert hkk;simp;done))
    |skip
   ·obtain rfl:b=Fl:=h5 rfl
    obtain⟨hR,hW⟩:=h6 rfl;have hf:=DD ks ⟨tk,tf⟩ hR;have hcw1:=hcw tk;rw[hW]at hcw1;refine R1 ?_;refine RG ?_;(repeat first|(refine AOps.gN ?_;first|(refine AOps.g_callf ?_;first|refine AOps.c1 (h:=(hst ..)) (k:=?_)|refine AOps.c1 (h:=(htw ..)) (k:=?_))|refine AOps.go (h:=W.neP _ _ (by kernel_rfl) Mk rfl rfl) (k:=?_)|refine AOps.go (h:=W.neP _ _ (by kernel_rfl) GF rfl rfl) (k:=?_))|(refine AOps.gQ ?_;first|refine AOps.goNU ?_|refine AOps.goNV ?_)|refine WO ?_|refine Ai λX=>?_|refine Ay λY=>?_);refine NL ?_;refine AA rfl (by first|rfl|assumption) ?_;refine RG ?_;(repeat first|(refine AOps.gN ?_;first|(refine AOps.g_callf ?_;first|refine AOps.c1 (h:=(hst ..)) (k:=?_)|refine AOps.c2 (h:=(hf ..)) (k:=?_)))|(refine AOps.gQ ?_;first|refine AOps.goNU ?_|refine AOps.goNV ?_)|refine WO ?_|refine Ai λX=>?_|refine Ay λY=>?_);refine NL ?_;refine AA rfl (by first|rfl|assumption) ?_;refine JG ?_;refine AOps.g_callf ?_;refine AOps.c1 (h:=(hst ..)) (k:=?_);refine KO ?_;refine AOps.g_callf ?_;refine AOps.c2 (h:=(hcw1 ..)) (k:=?_);refine JE ?_;refine AA rfl (by first|rfl|assumption) ?_
    (iterate 8 refine WK ?_);refine AOps.g_lit ?_;refine Bm (Av a) (Av Fl) ?_;refine KK ?_
    refine Az (λi:Nat=>⟨[(0,Ag false false ks),(4,.fp (CA false s).cells),(174,.lst false 193 4 [Av a,Av Fl]),(175,iA 2),(176,iA i)],Sf⟩) (λi=>i<=2) (λi=>2-i) 0 (by omega) ?_;rintro i hi;refine KK ?_;refine AWP.cond rfl (λhc=>?_) (λhc=>?_)
    ·have hi2:i<2:=by rw[AE]at hc;omega
     obtain⟨⟨xh,xn,xr⟩,hat,hx⟩:=hax i hi2;obtain⟨hy,hn⟩:=hx;dsimp only at hy hn;have hal:i<[Av a,Av Fl].length:=hi2;refine JG ?_;refine Ai λV=>?_;refine JB ?_
     cases xh
     ·refine RG ?_;(repeat first|(refine AOps.gQ ?_;first|refine AOps.goNU ?_|refine AOps.goNV ?_)|refine WO ?_|refine Ai λX=>?_|refine Ay λY=>?_);refine NL ?_
      refine AA rfl (by first|rfl|assumption) ?_;refine KK ?_;refine Ab (i+1) hi2
     ·obtain⟨n1,n2,n3⟩:=hy rfl
      have hr1:=hcr xr.kind;have hr2:=hcw xr.kind;cases hrr:s.reads.contains xr.kind
      ·rw[hrr]at hr1
       rw[show s.writes.contains xr.kind=true from by rcases n3 with e|e;rw[e]at hrr;cases hrr;exact e]at hr2;refine JG ?_;refine AOps.g_callf ?_;refine AOps.c2 (h:=(hr1 ..)) (k:=?_);refine KO ?_;refine AOps.g_callf ?_;refine AOps.c2 (h:=(hr2 ..)) (k:=?_);refine JE ?_;refine AA rfl (by first|rfl|assumption) ?_;refine KK ?_;refine Ab (i+1) hi2
      ·rw[hrr]at hr1
       refine RG ?_;(repeat first|(refine AOps.gN ?_;first|(refine AOps.g_callf ?_;first|refine AOps.c2 (h:=(hr1 ..)) (k:=?_)))|(refine AOps.gQ ?_;first|refine AOps.goNU ?_|refine AOps.goNV ?_)|refine WO ?_|refine Ai λX=>?_|refine Ay λY=>?_);refine NL ?_;refine AA rfl (by first|rfl|assumption) ?_;refine KK ?_;refine Ab (i+1) hi2
    ·refine KK ?_
     refine RT ?_;refine AF ?_;rfl
theorem Vx(ks:List Kind)(s:Sys)(o:Op)(h:OpG ks s.reads s.writes o)(hkk:o.act<=7/\C7 o.act=true)(hr:s.reads.length<=1099511627776)(hw:s.writes.length<=1099511627776):PS Tryz.prog 179 [Ag false false ks,CA false s,opA o] (iA 0):=by
 obtain⟨h1,h2,h3,h4,h5,h6,h7,h8⟩:=h;obtain⟨act,⟨tk,tf⟩,a,b⟩:=o;dsimp only at h1 h2 h3 h4 h5 h6 h7 h8 hkk;have g1:decide (act<0)=false:=AK (by omega);have g2:decide (act>12)=false:=AK (by omega)
 have hax:∀i,i<2->∃x,([Av a,Av b])[i]?=some (Av x)/\ArgG ks s.reads s.writes x:=λi hi=>by
  rcases Nat.lt_or_ge i 1 with e|e
  ·obtain rfl:i=0:=by omega
   exact⟨a,rfl,h3⟩
  ·obtain rfl:i=1:=by omega
   exact⟨b,rfl,h4⟩
 have hkm:(ks.map (A7 false)).length=ks.length:=AB _;refine Sp (nt:=201) (res:=[.tmp 6]) Tryz.func179 λSf=>?_
 refine RG ?_;refine AOps.g_box ?_;refine Ad ?_;refine AOps.g_box ?_;refine Ad ?_;refine JB ?_;refine R1 ?_;refine AA rfl g2 ?_
 (iterate 8 refine WK ?_);refine AOps.g_lit ?_;refine Bm (Av a) (Av b) ?_;refine KK ?_
 refine Az (λi:Nat=>⟨[(0,Ag false false ks),(4,.fp (CA false s).cells),(5,.fp (opA ⟨act,⟨tk,tf⟩,a,b⟩).cells),(27,.lst false 193 4 [Av a,Av b]),(28,iA 2),(29,iA i)],Sf⟩) (λi=>i<=2) (λi=>2-i) 0 (by omega) ?_;rintro i hi;refine KK ?_;refine AWP.cond rfl (λhc=>?_) (λhc=>?_)
 ·have hi2:i<2:=by rw[AE]at hc;omega
  obtain⟨⟨xh,xn,⟨xk,xf⟩⟩,hat,hx⟩:=hax i hi2;obtain⟨hy,hn⟩:=hx;dsimp only at hy hn;have hal:i<[Av a,Av b].length:=hi2;refine JG ?_;refine Ai λV=>?_;refine JB ?_
  cases xh
  ·obtain⟨n1,n2,n3⟩:=hn rfl
   have k1:decide (xn< -1099511627776)=false:=AK (by omega);have k2:decide (xn>1099511627776)=false:=AK (by omega);refine RG ?_;(repeat first|(refine AOps.gQ ?_;first|refine AOps.goNU ?_|refine AOps.goNV ?_)|refine WO ?_|refine Ai λX=>?_|refine Ay λY=>?_);refine NL ?_;refine AA rfl (by first|rfl|assumption) ?_;refine KK ?_;refine Ab (i+1) hi2
  ·obtain⟨n1,n2,n3⟩:=hy rfl
   have hf:=DD ks ⟨xk,xf⟩ n2;refine RG ?_;(repeat first|(refine AOps.gN ?_;first|(refine AOps.g_callf ?_;first|refine AOps.c2 (h:=(hf ..)) (k:=?_)))|(refine AOps.gQ ?_;first|refine AOps.goNU ?_|refine AOps.goNV ?_)|refine WO ?_|refine Ai λX=>?_|refine Ay λY=>?_);refine NL ?_;refine AA rfl (by first|rfl|assumption) ?_;refine KK ?_;refine Ab (i+1) hi2
 ·clear hc
  refine JI ?_;refine Ai λN=>?_;refine JB ?_
  (iterate 7 refine WK ?_);refine AOps.g_lit ?_;refine Bm (Av a) (Av b) ?_;refine KK ?_
  refine Az (λi:Nat=>⟨[(0,Ag false false ks),(4,.fp (CA false s).cells),(5,.fp (opA ⟨act,⟨tk,tf⟩,a,b⟩).cells),(9,.ptr N 0 0),(63,.lst false 193 4 [Av a,Av b]),(64,iA 2),(65,iA i)],(N,.row 191 2 [Pi ⟨0,0⟩])::Sf⟩) (λi=>i<=2) (λi=>2-i) 0 (by omega) ?_;rintro i hi;refine KK ?_;refine AWP.cond rfl (λhc=>?_) (λhc=>?_)
  ·have hi2:i<2:=by rw[AE]at hc;omega
   obtain⟨⟨xh,xn,xr⟩,hat,hx⟩:=hax i hi2;obtain⟨hy,hn⟩:=hx;dsimp only at hy hn;have hal:i<[Av a,Av b].length:=hi2;refine JG ?_;refine Ai λV=>?_;refine JB ?_
   cases xh
   ·obtain⟨n1,n2,n3⟩:=hn rfl
    subst n3;refine RG ?_;(repeat first|(refine AOps.gN ?_;first|refine AOps.go (h:=W.neP _ _ (by kernel_rfl) GF rfl rfl) (k:=?_))|(refine AOps.gQ ?_;first|refine AOps.goNU ?_|refine AOps.goNV ?_)|refine WO ?_|refine Ai λX=>?_|refine Ay λY=>?_);refine NL ?_;refine AA rfl (by first|rfl|assumption) ?_;refine KK ?_;refine Ab (i+1) hi2
   ·obtain⟨n1,n2,n3⟩:=hy rfl
    subst n1;refine RG ?_;(repeat first|(refine AOps.gQ ?_;first|refine AOps.goNU ?_|refine AOps.goNV ?_)|refine WO ?_|refine Ai λX=>?_|refine Ay λY=>?_);refine NL ?_;refine AA rfl (by first|rfl|assumption) ?_;refine KK ?_;refine Ab (i+1) hi2
  ·clear hc
   refine FL ?_;have hst:=Fr act;have htw:=IU act;obtain⟨sB,hsB⟩:=nm (DZ act);obtain⟨tB,htB⟩:=nm (C7 act);obtain⟨c8,hc8⟩:=nm (decide (act=8));obtain⟨c9,hc9⟩:=nm (decide (act=9));rw[hsB]at hst h6;rw[htB]at htw h5;have hk1:∀x:Int,x∈s.writes->s.writes.contains x=true:=λx hx=>by simpa using hx
   have hcw:=λx=>BX s.writes x (by omega)
   have hcr:=λx=>BX s.reads x (by omega)
   have hsB':=hsB;have htB':=htB;have htB0:=htB;unfold DZ at hsB';unfold C7 at htB';cases sB<;>cases tB<;>cases c8<;>cases c9
   all_goals first
    |(exfalso;(try rw[htB0]at hkk);simp only[Bool.and_eq_true,Bool.or_eq_true,Bool.and_eq_false_iff,Bool.or_eq_false_iff,AE,AN]at hsB' htB' hc8 hc9;first|omega|(revert hkk;simp;done))
    |skip
   ·obtain⟨hR,hW⟩:=h6 rfl
    have hf:=DD ks ⟨tk,tf⟩ hR;have hcw1:=hcw tk;rw[hW]at hcw1;refine R1 ?_;refine RG ?_;(repeat first|(refine AOps.gN ?_;first|(refine AOps.g_callf ?_;first|refine AOps.c1 (h:=(hst ..)) (k:=?_)|refine AOps.c1 (h:=(htw ..)) (k:=?_))|refine AOps.go (h:=W.neP _ _ (by kernel_rfl) Mk rfl rfl) (k:=?_)|refine AOps.go (h:=W.neP _ _ (by kernel_rfl) GF rfl rfl) (k:=?_))|(refine AOps.gQ ?_;first|refine AOps.goNU ?_|refine AOps.goNV ?_)|refine WO ?_|refine Ai λX=>?_|refine Ay λY=>?_);refine NL ?_;refine AA rfl (by first|rfl|assumption) ?_;refine RG ?_;(repeat first|(refine AOps.gN ?_;first|(refine AOps.g_callf ?_;first|refine AOps.c1 (h:=(hst ..)) (k:=?_)|refine AOps.c2 (h:=(hf ..)) (k:=?_)))|(refine AOps.gQ ?_;first|refine AOps.goNU ?_|refine AOps.goNV ?_)|refine WO ?_|refine Ai λX=>?_|refine Ay λY=>?_);refine NL ?_;refine AA rfl (by first|rfl|assumption) ?_;refine JG ?_;refine AOps.g_callf ?_;refine AOps.c1 (h:=(hst ..)) (k:=?_);refine KO ?_;refine AOps.g_callf ?_;refine AOps.c2 (h:=(hcw1 ..)) (k:=?_);refine JE ?_;refine AA rfl (by first|rfl|assumption) ?_
    (iterate 8 refine WK ?_);refine AOps.g_lit ?_;refine Bm (Av a) (Av b) ?_;refine KK ?_
    refine Az (λi:Nat=>⟨[(0,Ag false false ks),(4,.fp (CA false s).cells),(174,.lst false 193 4 [Av a,Av b]),(175,iA 2),(176,iA i)],Sf⟩) (λi=>i<=2) (λi=>2-i) 0 (by omega) ?_;rintro i hi;refine KK ?_;refine AWP.cond rfl (λhc=>?_) (λhc=>?_)
    ·have hi2:i<2:=by rw[AE]at hc;omega
     obtain⟨⟨xh,xn,xr⟩,hat,hx⟩:=hax i hi2;obtain⟨hy,hn⟩:=hx;dsimp only at hy hn;have hal:i<[Av a,Av b].length:=hi2;refine JG ?_;refine Ai λV=>?_;refine JB ?_
     cases xh
     ·refine RG ?_;(repeat first|(refine AOps.gQ ?_;first|refine AOps.goNU ?_|refine AOps.goNV ?_)|refine WO ?_|refine Ai λX=>?_|refine Ay λY=>?_);refine NL ?_
      refine AA rfl (by first|rfl|assumption) ?_;refine KK ?_;refine Ab (i+1) hi2
     ·obtain⟨n1,n2,n3⟩:=hy rfl
      have hr1:=hcr xr.kind;have hr2:=hcw xr.kind;cases hrr:s.reads.contains xr.kind
      ·rw[hrr]at hr1
       rw[show s.writes.contains xr.kind=true from by rcases n3 with e|e;rw[e]at hrr;cases hrr;exact e]at hr2;refine JG ?_;refine AOps.g_callf ?_;refine AOps.c2 (h:=(hr1 ..)) (k:=?_);refine KO ?_;refine AOps.g_callf ?_;refine AOps.c2 (h:=(hr2 ..)) (k:=?_);refine JE ?_;refine AA rfl (by first|rfl|assumption) ?_;refine KK ?_;refine Ab (i+1) hi2
      ·rw[hrr]at hr1
       refine RG ?_;(repeat first|(refine AOps.gN ?_;first|(refine AOps.g_callf ?_;first|refine AOps.c2 (h:=(hr1 ..)) (k:=?_)))|(refine AOps.gQ ?_;first|refine AOps.goNU ?_|refine AOps.goNV ?_)|refine WO ?_|refine Ai λX=>?_|refine Ay λY=>?_);refine NL ?_;refine AA rfl (by first|rfl|assumption) ?_;refine KK ?_;refine Ab (i+1) hi2
    ·refine KK ?_
     refine RT ?_;refine AF ?_;rfl
theorem Wb(ks:List Kind)(s:Sys)(o:Op)(h:OpG ks s.reads s.writes o)(hr:s.reads.length<=1099511627776)(hw:s.writes.length<=1099511627776):PS Tryz.prog 179 [Ag false false ks,CA false s,opA o] (iA 0):=by
 have h1:=h.lo;have h2:=h.hi;by_cases c:o.act<=7
 ·cases ht:C7 o.act
  ·exact Vy ks s o h ⟨c,ht⟩ hr hw
  ·exact Vx ks s o h ⟨c,ht⟩ hr hw
 ·by_cases c8:o.act=8
  ·exact V0 ks s o h c8 hr hw
  ·by_cases c9:o.act=9
   ·exact V1 ks s o h c9 hr hw
   ·by_cases c12:o.act=12
    ·exact Vz ks s o h c12 hr hw
    ·exact V2 ks s o h (by omega) hr hw
theorem OX(n:Nat)(hn:n*8<=140737488355328):PS Tryz.prog 233 [.prim (.slice none 0 0),iA n] (.lst true 3 1 []):=by
 refine Sp (nt:=27) (res:=[.tmp 4]) Tryz.func233 λSf=>?_
 refine KK ?_;refine AA rfl (AK (by omega)) ?_
 (iterate 6 refine WK ?_);refine AOps.gN ?_;refine AOps.p (W.capN rfl) rfl ?_;refine KK ?_
 refine AWP.cond rfl (λhc=>?_) (λhc=>?_)
 ·have hc:0<n:=by rw[AE]at hc;omega
  (repeat first|(refine AOps.gN ?_;first|refine AOps.p (W.capN rfl) rfl ?_|refine AOps.p (UH rfl rfl) rfl ?_|(refine PA ?_;refine Qc (n:=n) (λY=>?_) hc hn (hq:=by omega))|refine AOps.p (W.hi (a:=0) rfl rfl (by exact At.f) rfl (by omega)) rfl ?_)|refine WK ?_|refine Ai λX=>?_|refine Ay λY=>?_);refine AWP.shrink (X:=Y) 0 ?_;refine RT ?_;exact⟨[.sl Y 0 0],[.lst true 3 1 []],_,[],.cons (.tmp rfl) rfl .nil,.cons (.cell (.sl (p:=0) .here rfl)) .nil,by exact Sub.f,rfl,rfl⟩
 ·refine KK ?_
  refine RT ?_;exact⟨[.prim (.slice none 0 0)],[.lst true 3 1 []],_,[],.cons (.tmp rfl) rfl .nil,.cons (.cell .nil) .nil,by exact Sub.f,rfl,rfl⟩
def FT(ls:List (List Int))(i:Nat):Nat:=((ls.take i).flatten).length
theorem I7{ls:List (List Int)}{i:Nat}(h:i<ls.length):FT ls (i+1)=FT ls i+ls[i].length:=by
 unfold FT;rw[List.take_succ_eq_append_getElem h,List.flatten_append,AP];simp
theorem Rw(ls:List (List Int))(i:Nat):FT ls i<=ls.flatten.length:=by
 unfold FT;have h:((ls.take i).flatten++(ls.drop i).flatten)=ls.flatten:=by rw[<-List.flatten_append,List.take_append_drop]
 rw[<-h,AP];omega
theorem LL(ls:List (List Int))(hl:ls.length<=4611686018427387903)(hb:ls.flatten.length*8<=140737488355328):PS Tryz.prog 171 [.lst false 22 1 (ls.map λl=>.lst false 3 1 (l.map iA))] (.lst true 3 1 (ls.flatten.map iA)):=by
 refine Sp (nt:=36) (res:=[.tmp 2]) Tryz.func171 λSf=>?_
 have hle:=Rw ls;refine KK ?_;refine Bq (λ(i:Nat) (s:Int)=>⟨[(0,.lst false 22 1 (ls.map λl=>.lst false 3 1 (l.map iA))),(3,iA s),(9,.lst false 22 1 (ls.map λl=>.lst false 3 1 (l.map iA))),(10,iA (ls.map λl=>AV.lst false 3 1 (l.map iA)).length),(11,iA i)],Sf⟩) (λi s=>i<=ls.length/\s=FT ls i) (λi _=>ls.length-i) 0 0 ⟨Nat.zero_le _,rfl⟩ ?_;rintro i s ⟨hi,hs⟩;have h0:=hle i;refine KK ?_;refine AWP.cond rfl (λhc=>?_) (λhc=>?_)
 ·have h:i<ls.length:=by rw[AE,AB]at hc;omega
  have hs1:=I7 h;have h1:=hle (i+1);have hml:(ls[i].map iA).length=ls[i].length:=AB _;refine KK ?_;refine AA rfl (AK (by omega)) ?_;refine KK ?_;exact BK (i+1) (s+(ls[i].map iA).length) ⟨h,by omega⟩
 ·have h:i=ls.length:=by rw[AN,AB]at hc;omega
  subst h;have hfull:FT ls ls.length=ls.flatten.length:=by unfold FT;rw[List.take_length]
  subst hs;have hg:=OX (FT ls ls.length) (by rw[hfull];exact hb);refine KK ?_;refine AOps.g_callf ?_;refine Vg (h:=hg) λY=>?_;refine KK ?_
  refine Gy (λ(i Y m:Nat) (L:List AV)=>⟨[(6,.sl Y 0 m),(25,.lst false 22 1 (ls.map λl=>.lst false 3 1 (l.map iA))),(26,iA (ls.map λl=>AV.lst false 3 1 (l.map iA)).length),(27,iA i)],(Y,.row 3 1 L)::Sf⟩) (λi _ m L=>i<=ls.length/\m=L.length/\L=((ls.take i).flatten).map iA) (λi _ _ _=>ls.length-i) 0 Y 0 [] ⟨Nat.zero_le _,rfl,rfl⟩ ?_;rintro i Y m L ⟨hi,hm,hL⟩;have hLl:L.length=FT ls i:=by rw[hL,AB];rfl
  refine KK ?_;refine AWP.cond rfl (λhd=>?_) (λhd=>?_)
  ·have h:i<ls.length:=by rw[AE,AB]at hd;omega
   have hs1:=I7 h;have h1:=hle (i+1);have hml:(ls[i].map iA).length=ls[i].length:=AB _;have hbd:(m+(ls[i].map iA).length)*8<=140737488355328:=by omega
   refine KK ?_;refine Ay λY=>?_;refine KK ?_
   refine ER (i+1) Y _ _ ⟨h,?_,?_⟩
   ·rw[AP,hm]
   ·rw[List.take_succ_eq_append_getElem h,List.flatten_append,List.map_append,<-hL];simp
  ·have h:i=ls.length:=by rw[AN,AB]at hd;omega
   subst h;rw[List.take_length]at hL;subst hL;refine JA ?_;exact⟨[.sl Y 0 m],[.lst true 3 1 (ls.flatten.map iA)],_,[],.cons (.tmp rfl) rfl .nil,.cons (.cell (.sl (p:=0) .here hm)) .nil,by exact Sub.f,rfl,rfl⟩
structure SysG(ks:List Kind)(s:Sys):Prop where
 name:Cv s.name=true
 len:s.ops.length<=20
 o:∀l∈[s.wth,s.wout,s.reads,s.writes],l.Pairwise (· < ·)/\(∀x∈l,0<=x/\x<ks.length)/\l.length<=16
 clash:(s.wth.any λx=>s.wout.contains x)=false
 typ:((s.reads++s.writes).any λx=>!s.wth.contains x)=false
 spawn:(CL ks s.spawn).2=0
 sp:s.spawn.length<=1099511627776
 ops:∀o∈s.ops,OpG ks s.reads s.writes o
theorem I3(ks:List Kind)(s:Sys)(hk:Al ks=0)(h12:ks.length<=12)(h:SysG ks s):PS Tryz.prog 99 [Ag false false ks,CA false s] (iA 0):=by
 have hck:=LR ks;rw[hk]at hck;have hnm:=NG s.name;rw[h.name]at hnm;have hl1:=h.o s.wth (by simp);have hl2:=h.o s.wout (by simp);have hl3:=h.o s.reads (by simp);have hl4:=h.o s.writes (by simp);have hft:=Hq ks s.spawn h12 h.sp;rw[h.spawn]at hft;have hcl:=Co s.wth 177 [.fp (CA false s).cells] (λx=>s.wout.contains x) rfl (by omega) (λx _=>M5 s x (by omega));rw[h.clash]at hcl;have hty:=Co (s.reads++s.writes) 178 [.fp (CA false s).cells] (λx=>!s.wth.contains x) rfl (by rw[AP];omega) (λx _=>M0 s x (by omega));rw[h.typ]at hty;have hom:(s.ops.map opA).length=s.ops.length:=AB _;have hol:=h.len;have hle:decide (((s.ops.map opA).length:Int)>20)=false:=AK (by omega);refine Sp (nt:=85) (res:=[.tmp 4]) Tryz.func99 λSf=>?_
 refine RG ?_;refine AOps.g_box ?_;refine Ad ?_;refine JB ?_;refine KK ?_;refine AOps.g_callf ?_;refine AOps.c1 (h:=(hck ..)) (k:=?_);refine KK ?_;refine AA rfl rfl ?_;refine KK ?_;refine AOps.g_callf ?_;refine AOps.c1 (h:=(hnm ..)) (k:=?_);refine KK ?_;refine AA rfl rfl ?_;refine KK ?_;refine AA rfl hle ?_
 have hax:∀i,i<4->∃l,([AM false s.wth,AM false s.wout,AM false s.reads,AM false s.writes])[i]?=some (AM false l)/\l.Pairwise (· < ·)/\(∀x∈l,0<=x/\x<ks.length)/\l.length<=16:=λi hi=>by
  rcases(show i=0\/i=1\/i=2\/i=3 by omega)with rfl|rfl|rfl|rfl
  ·exact⟨_,rfl,hl1⟩
  ·exact⟨_,rfl,hl2⟩
  ·exact⟨_,rfl,hl3⟩
  ·exact⟨_,rfl,hl4⟩
 refine KK ?_;refine Az (λi:Nat=>⟨[(0,Ag false false ks),(3,.fp (CA false s).cells),(35,.lst false 22 1 [AM false s.wth,AM false s.wout,AM false s.reads,AM false s.writes]),(36,iA 4),(37,iA i)],Sf⟩) (λi=>i<=4) (λi=>4-i) 0 (by omega) ?_;rintro i hi;refine KK ?_;refine AWP.cond rfl (λhc=>?_) (λhc=>?_)
 ·have hi2:i<4:=by rw[AE]at hc;omega
  obtain⟨l,hat,p1,p2,p3⟩:=hax i hi2;have hst:=Vq ks l p1 p2 (by omega);have hal:i<[AM false s.wth,AM false s.wout,AM false s.reads,AM false s.writes].length:=hi2;refine KK ?_;refine AOps.g_callf ?_;refine AOps.c2 (h:=(hst ..)) (k:=?_);refine KK ?_;refine AA rfl rfl ?_;refine KK ?_;refine Ab (i+1) hi2
 ·clear hc
  refine KK ?_;refine AOps.g_callf ?_;refine AOps.c2 (h:=(hcl ..)) (k:=?_);refine KK ?_;refine AA rfl rfl ?_;have hcc:=LL [s.reads,s.writes] (by simp) (by simp;omega);rw[show[s.reads,s.writes].flatten=s.reads++s.writes from by simp]at hcc
  (iterate 8 refine WK ?_);refine AOps.g_lit ?_;refine Bm (AM false s.reads) (AM false s.writes) ?_;refine AOps.g_callf ?_;refine AOps.c1 (h:=(hcc ..)) (k:=?_);refine WK ?_;refine AOps.g_callf ?_;refine AOps.c2 (h:=(hty ..)) (k:=?_);refine KK ?_
  refine AA rfl rfl ?_;refine KK ?_;refine AOps.g_callf ?_;refine AOps.c2 (h:=(hft ..)) (k:=?_);refine KK ?_;refine AA rfl rfl ?_;refine KK ?_;refine Az (λi:Nat=>⟨[(0,Ag false false ks),(3,.fp (CA false s).cells),(71,Uv false s.ops),(72,iA (s.ops.map opA).length),(73,iA i)],Sf⟩) (λi=>i<=s.ops.length) (λi=>s.ops.length-i) 0 (by omega) ?_;rintro i hi;refine KK ?_;refine AWP.cond rfl (λhc=>?_) (λhc=>?_)
  ·have hi2:i<s.ops.length:=by rw[AE,hom]at hc;omega
   have hop:=Wb ks s s.ops[i] (h.ops _ (AU hi2)) (by omega) (by omega);have hat:(s.ops.map opA)[i]?=some (opA s.ops[i]):=by rw[AH,AI hi2];rfl
   refine JG ?_;refine Ai λV=>?_;refine JB ?_
   refine JG ?_;refine AOps.g_callf ?_;refine C5 (h:=(hop ..)) (k:=?_);refine JB ?_;refine KK ?_;refine AA rfl rfl ?_;refine KK ?_;refine Ab (i+1) hi2
  ·refine KK ?_
   refine RT ?_;refine AF ?_;rfl
structure RnG(ks:List Kind)(s:Sys)(st:Rn):Prop where
 held:A8 ks st.comps=true
 has:Lf s st.comps
 odd:st.r.2.toNat%2=1
theorem PD(act a b:Int)(r:UInt64×UInt64):(Dv act a b r).2.2=r.2:=by
 have hg:(EG r a.toNat).2.2=r.2:=by unfold EG;exact HK _ _ _
 unfold Dv;obtain⟨res,hres⟩:=nm (EG r a.toNat);rw[hres]at hg⊢;clear hres;split
 ·rfl
 split
 ·rfl
 split
 ·rfl
 split
 ·rfl
 split
 ·rfl
 split
 ·rfl
 split
 ·split
  ·rfl
  ·exact hg
 ·rfl
theorem LG{ks:List Kind}{s:Sys}{index:Int}{e:Ent}{o:Op}{st:Rn}(hk:Al ks=0)(h:RnG ks s st)(ho:OpG ks s.reads s.writes o):RnG ks s (doM ks s index e o st)/\(doM ks s index e o st).cmds.length<=st.cmds.length+1/\(doM ks s index e o st).evs.length<=st.evs.length+1:=by
 obtain⟨h1,h2,h3⟩:=h;unfold doM;by_cases hs:DZ o.act=true
 ·rw[if_pos hs]
  obtain⟨hR,hW⟩:=ho.sets hs;obtain⟨c,k,e1,e2,e3,e4,e5,e6,e7⟩:=KM h1 h2 hR (.inr hW);refine⟨⟨Re hk h1 e1 e3 e5 e6 _,P3 h2 (KB (held_iff.1 h1).1 _ _ _),?_⟩,Nat.le_succ _,Nat.le_succ _⟩;dsimp only;rw[PD];exact h3
 ·rw[if_neg hs]
  by_cases hz:Ga st.comps o.a=0
  ·rw[if_pos hz]
   exact⟨⟨h1,h2,h3⟩,Nat.le_succ _,Nat.le_succ _⟩
  ·rw[if_neg hz]
   by_cases h12:o.act=12
   ·rw[if_pos h12]
    exact⟨⟨h1,h2,h3⟩,Nat.le_succ _,by simp⟩
   ·rw[if_neg h12]
    exact⟨⟨h1,h2,h3⟩,by simp,Nat.le_succ _⟩
def C6(ks:List Kind)(s:Sys)(index:Int)(e:Ent)(os:List Op)(st:Rn):Rn:=os.foldl (λst o=>doM ks s index e o st) st
theorem Jo{ks:List Kind}{s:Sys}{index:Int}{e:Ent}(hk:Al ks=0):∀(os:List Op) {st:Rn} (h:RnG ks s st) (ho:∀o∈os,OpG ks s.reads s.writes o),RnG ks s (C6 ks s index e os st)/\(C6 ks s index e os st).cmds.length<=st.cmds.length+os.length/\(C6 ks s index e os st).evs.length<=st.evs.length+os.length
 |[],st,h,ho=>⟨h,Nat.le_refl _,Nat.le_refl _⟩
 |o::os,st,h,ho=>by
  obtain⟨g1,g2,g3⟩:=LG (index:=index) (e:=e) hk h (ho o (by simp));obtain⟨k1,k2,k3⟩:=Jo (index:=index) (e:=e) hk os g1 (λo' h'=>ho o' (by simp[h']));refine⟨k1,?_,?_⟩
  ·show(C6 ks s index e os (doM ks s index e o st)).cmds.length<=_
   rw[Bs];omega
  ·show(C6 ks s index e os (doM ks s index e o st)).evs.length<=_
   rw[Bs];omega
theorem Rk{ks:List Kind}{s:Sys}{index:Int}{e:Ent}{os:List Op}{i:Nat}(h:i<os.length)(st:Rn):C6 ks s index e (os.take (i+1)) st=doM ks s index e os[i] (C6 ks s index e (os.take i) st):=by
 unfold C6;rw[List.take_succ_eq_append_getElem h,List.foldl_append];rfl
def Da(ks:List Kind)(s:Sys)(index seed tick:Int)(x:Item)(cm:List Cmd)(ev:List Evt):Rn:=C6 ks s index x.ent s.ops ⟨x.comps,Ex [seed,tick,index,x.ent.n],cm,ev⟩
def EP(ks:List Kind)(s:Sys)(index seed tick:Int)(qs:List (Nat×Item))(b:List Item×List Cmd×List Evt):List Item×List Cmd×List Evt:=
 qs.foldl (λb q=>(b.1.set q.1 ⟨q.2.ent,(Da ks s index seed tick q.2 b.2.1 b.2.2).comps⟩,(Da ks s index seed tick q.2 b.2.1 b.2.2).cmds,(Da ks s index seed tick q.2 b.2.1 b.2.2).evs)) b
theorem Pd{ks:List Kind}{s:Sys}{index seed tick:Int}{qs:List (Nat×Item)}{i:Nat}(h:i<qs.length)(b:List Item×List Cmd×List Evt):EP ks s index seed tick (qs.take (i+1)) b=EP ks s index seed tick [qs[i]] (EP ks s index seed tick (qs.take i) b):=by
 unfold EP;rw[List.take_succ_eq_append_getElem h,List.foldl_append]
def CU(w:Wd)(s:Sys)(index seed tick:Int):List Item×List Cmd×List Evt:=EP w.kinds s index seed tick (DH w.items s.wth s.wout) (w.items,[],[])
theorem Gm(l:List Int):(Ex l).2.toNat%2=1:=by
 unfold Ex;dsimp only;rw[UInt64.toNat_or];have:(1:UInt64).toNat=1:=rfl;rw[this,<-Nat.and_one_is_mod,Nat.and_or_distrib_right];rw[Nat.and_one_is_mod];rcases Nat.mod_two_eq_zero_or_one (EQ (EQ (l.foldl ME (UInt64.ofNat l.length)+Fw)+Fw)).toNat with h|h<;>rw[h]<;>rfl
theorem Q4{ks:List Kind}{s:Sys}{index seed tick:Int}{x:Item}(hk:Al ks=0)(hh:A8 ks x.comps=true)(ha:Lf s x.comps)(ho:∀o∈s.ops,OpG ks s.reads s.writes o)(cm:List Cmd)(ev:List Evt)(i:Nat):
  RnG ks s (C6 ks s index x.ent (s.ops.take i) ⟨x.comps,Ex [seed,tick,index,x.ent.n],cm,ev⟩)/\(C6 ks s index x.ent (s.ops.take i) ⟨x.comps,Ex [seed,tick,index,x.ent.n],cm,ev⟩).cmds.length<=cm.length+s.ops.length/\(C6 ks s index x.ent (s.ops.take i) ⟨x.comps,Ex [seed,tick,index,x.ent.n],cm,ev⟩).evs.length<=ev.length+s.ops.length:=by
 obtain⟨h1,h2,h3⟩:=Jo (s:=s) (index:=index) (e:=x.ent) hk (s.ops.take i) (st:=⟨x.comps,Ex [seed,tick,index,x.ent.n],cm,ev⟩) ⟨hh,ha,Gm _⟩ (λo h=>ho o (List.mem_of_mem_take h));have:(s.ops.take i).length<=s.ops.length:=by rw[Aj];omega
 dsimp only at h2 h3;exact⟨h1,by omega,by omega⟩
theorem Hy{ks:List Kind}{s:Sys}{index seed tick:Int}(hk:Al ks=0)(ho:∀o∈s.ops,OpG ks s.reads s.writes o):∀(qs:List (Nat×Item)) (b:List Item×List Cmd×List Evt),(∀q∈qs,A8 ks q.2.comps=true/\Lf s q.2.comps)->
  (EP ks s index seed tick qs b).2.1.length<=b.2.1.length+qs.length*s.ops.length/\(EP ks s index seed tick qs b).2.2.length<=b.2.2.length+qs.length*s.ops.length/\(EP ks s index seed tick qs b).1.length=b.1.length
 |[],b,_=>by simp[EP]
 |q::qs,b,h=>by
  obtain⟨hq1,hq2⟩:=h q (by simp);have he:=Q4 (index:=index) (seed:=seed) (tick:=tick) hk hq1 hq2 ho b.2.1 b.2.2 s.ops.length;rw[List.take_length]at he;obtain⟨e1,e2,e3⟩:=he;obtain⟨r1,r2,r3⟩:=Hy hk ho qs (b.1.set q.1 ⟨q.2.ent,(Da ks s index seed tick q.2 b.2.1 b.2.2).comps⟩,(Da ks s index seed tick q.2 b.2.1 b.2.2).cmds,(Da ks s index seed tick q.2 b.2.1 b.2.2).evs) (λq' h'=>h q' (by simp[h']));have e2':(Da ks s index seed tick q.2 b.2.1 b.2.2).cmds.length<=b.2.1.length+s.ops.length:=e2;have e3':(Da ks s index seed tick q.2 b.2.1 b.2.2).evs.length<=b.2.2.length+s.ops.length:=e3;dsimp only at r1 r2 r3;rw[List.length_set]at r3;have hm:(q::qs).length*s.ops.length=qs.length*s.ops.length+s.ops.length:=by rw[Bs,Nat.succ_mul]
  rw[hm];exact⟨Nat.le_trans r1 (by omega),Nat.le_trans r2 (by omega),r3⟩
theorem Fc{ks:List Kind}{s:Sys}(h:SysG ks s){x:Item}(hm:Ba x s.wth s.wout=true):Lf s x.comps:=by
 have ht:=h.typ;intro k hk;unfold Ba at hm;simp only[Bool.and_eq_true,Bool.not_eq_true',List.any_eq_false]at hm ht;have h1:=ht k (by rw[CY];rcases hk with hk|hk<;>simp at hk<;>simp[hk]);have h2:=hm.1 k (by simpa using h1);unfold BH;rw[List.find?_isSome];unfold Il at h2;simpa using h2
def Jb(ks:List Kind)(i:Nat):List AV:=(ks.take i).map (A7 true)++List.replicate (ks.length-i) (.agg [sA [],.prim (.slice none 0 0)])
theorem TT(ks:List Kind)(i:Nat)(h:i<=ks.length):(Jb ks i).length=ks.length:=by simp[Jb];omega
theorem U1{ks:List Kind}{i:Nat}(h:i<ks.length):(Jb ks i)[i]?=some (.agg [sA [],.prim (.slice none 0 0)]):=by
 unfold Jb;rw[List.getElem?_append_right (by simp;omega),List.getElem?_replicate,if_pos (by simp;omega)]
theorem TS{ks:List Kind}{i:Nat}(h:i<ks.length):(Jb ks i).set i (A7 true ks[i])=Jb ks (i+1):=by
 unfold Jb;rw[List.set_append_right _ _ (by simp;omega),AB,Aj,Nat.min_eq_left (by omega),Nat.sub_self];rw[show ks.length-i=(ks.length-(i+1))+1 from by omega,List.replicate_succ,List.set_cons_zero];rw[List.take_succ_eq_append_getElem h,List.map_append,AT];rfl
theorem GT(ks:List Kind)(hl:ks.length<=1099511627776)(hf:∀k∈ks,k.fields.length<=1099511627776):PS Tryz.prog 57 [Ag false false ks] (Ag true true ks):=by
 refine Sp (nt:=27) (res:=[.tmp 2]) Tryz.func57 λSf=>?_
 have hkm:(ks.map (A7 false)).length=ks.length:=AB _;have hz0:List.replicate (ks.map (A7 false)).length (.agg [sA [],.prim (.slice none 0 0)])=Jb ks 0:=by simp[Jb]
 (iterate 8 refine WK ?_);refine Dt ?_;refine Fm ((.agg [sA [],.prim (.slice none 0 0)])) λK=>?_;refine KK ?_
 rw[hz0];refine Bq (λ(i:Nat) (M:List AV)=>⟨[(3,.sl K 0 (ks.map (A7 false)).length),(9,Ag false false ks),(10,iA (ks.map (A7 false)).length),(11,iA i)],(K,.row 118 2 M)::Sf⟩) (λi M=>i<=ks.length/\M=Jb ks i) (λi _=>ks.length-i) 0 _ ⟨Nat.zero_le _,rfl⟩ ?_;rintro i M ⟨hi,hM⟩;refine KK ?_;refine AWP.cond rfl (λhc=>?_) (λhc=>?_)
 ·have h:i<ks.length:=by rw[AE,hkm]at hc;omega
  have hset:=TS h;have hMat:M[i]?=some (.agg [sA [],.prim (.slice none 0 0)]):=by rw[hM];exact U1 h
  have hMl:M.length=ks.length:=by rw[hM];exact TT ks i hi
  have hfl:=hf _ (AU h);obtain⟨⟨kn,fs⟩,hk⟩:=nm (ks[i]);rw[hk]at hset hfl;dsimp only at hfl;have hat:(ks.map (A7 false))[i]?=some (A7 false ⟨kn,fs⟩):=by rw[AH,AI h,hk];rfl
  have hil:i<(ks.map (A7 false)).length:=by omega
  have hfm:(fs.map fieldA).length=fs.length:=AB _;refine KK ?_;refine Ai λV=>?_;refine KK ?_
  refine AWP.rs λY=>?_
  refine RU ?_;(iterate 6 refine RK ?_);refine RGo.gN ?_;refine RGo.s (UP (by rw[hfm];omega) (by rw[hfm];unfold maxLen;omega) rfl rfl (by exact At.f)) rfl ?_;(iterate 3 refine RK ?_);refine RGo.nil (by kernel_rfl) ?_;(repeat refine WF ?_);have hMs:(M.set i (.agg [sA kn,.sl Y 0 (fs.map fieldA).length]))[i]?=some (.agg [sA kn,.sl Y 0 (fs.map fieldA).length]):=by rw[List.getElem?_set_self (by omega)]
  refine AWP.closeIn (X:=Y) (Y:=K) .here (.next (.next .here)) rfl rfl (Hos.at hMs (.agg (.tail (.head .here)))) ?_;rw[List.set_set];refine KK ?_;refine BK (i+1) _ ⟨h,?_⟩;rw[hM];exact hset
 ·have h:i=ks.length:=by rw[AN,hkm]at hc;omega
  subst h;have hfin:Jb ks ks.length=ks.map (A7 true):=by simp[Jb]
  rw[hfin]at hM;subst hM;refine JA ?_;exact⟨[.sl K 0 (ks.map (A7 false)).length],[Ag true true ks],_,[],.cons (.tmp rfl) rfl .nil,.cons (.cell (.sl (p:=0) .here (by simp))) .nil,by exact Sub.f,rfl,rfl⟩
def FG(x:Item):AV:=.agg [iA x.ent.n,iA x.ent.gen,Ax true false x.comps]
instance {x:Item}:Frz (FG x) (AD false x):=⟨by unfold FG AD;exact Frz.h⟩
abbrev WC(o:Bool)(l:List Item):AV:=.lst o 71 3 (l.map FG)
def WV(w:Wd):AV:=.agg [Ag true true w.kinds,AM true w.gens,WC true w.items]
abbrev Q0:AV:=.agg [iA 0,iA 0,.prim (.slice none 0 0)]
theorem VN(w:Wd)(hw:WdL w):PS Tryz.prog 14 [wdA false w] (WV w):=by
 obtain⟨ks,gens,items⟩:=w;obtain⟨⟨hk0,hk1⟩,hg,hi0,hi1⟩:=hw;dsimp only at hk0 hk1 hg hi0 hi1;have hkc:=GT ks hk0 hk1;have hgc:=Es gens (by omega);have hgm:(gens.map iA).length=gens.length:=AB _;have him:(items.map (AD false)).length=items.length:=AB _;refine Sp (nt:=37) (res:=[.cell 2 26]) Tryz.func14 λSf=>?_
 refine RG ?_;refine AOps.g_box ?_;refine Ad ?_;refine WO ?_;refine Ai λR=>?_;refine NL ?_
 (repeat refine WF ?_);refine AWP.rs λW3=>AWP.rs λI=>AWP.rs λG=>AWP.rs λK=>?_
 refine RU ?_;refine JH ?_;refine RGo.gN ?_;refine RGo.t1 (h:=hkc) (k:=?_);refine JH ?_;refine RGo.gN ?_;refine RGo.t1 (h:=hgc) (k:=?_);(iterate 3 refine RK ?_);refine RGo.gN ?_;refine RGo.s (W.make rfl rfl (by exact At.f) rfl (.inl rfl) rfl rfl (Nat.le_refl _) (by rw[him];omega) (by rw[him];unfold maxLen;omega)) rfl ?_;(iterate 3 refine RK ?_);refine RGo.nil (by kernel_rfl) ?_;have hz0:List.replicate (items.map (AD false)).length (zAV [.int .i64 0,.int .i64 0,.slice none 0 0] true)=DV FG Q0 items 0:=by rw[GW,him];rfl
 rw[hz0];refine JL ?_;refine Bq (λ(i:Nat) (M:List AV)=>⟨[(2,.ptr R 0 0),(3,.ptr W3 0 0),(18,HX false false items),(19,iA (items.map (AD false)).length),(20,iA i)],(K,.row 118 2 (ks.map (A7 true)))::(G,.row 3 1 (gens.map iA))::(I,.row 71 3 M)::(W3,.row 26 3 [.agg [.sl K 0 (ks.map (A7 true)).length,.sl G 0 (gens.map iA).length,.sl I 0 (items.map (AD false)).length]])::(R,.row 26 3 [.agg [.prim (.slice none 0 0),.prim (.slice none 0 0),.prim (.slice none 0 0)]])::Sf⟩) (λi M=>i<=items.length/\M=DV FG Q0 items i) (λi _=>items.length-i) 0 _ ⟨Nat.zero_le _,rfl⟩ ?_;rintro i M ⟨hi,hM⟩;refine KK ?_;refine AWP.cond rfl (λhc=>?_) (λhc=>?_)
 ·have h:i<items.length:=by rw[AE,him]at hc;omega
  have hset:=Hf FG Q0 items h;have hMat:M[i]?=some Q0:=by rw[hM];exact Ip _ _ _ h
  have hMl:M.length=items.length:=by rw[hM];exact K6 _ _ _ _ hi
  have hcl:=hi1 _ (AU h);obtain⟨⟨⟨en,eg⟩,cs⟩,hit⟩:=nm (items[i]);rw[hit]at hset hcl;have hat:(items.map (AD false))[i]?=some (AD false ⟨⟨en,eg⟩,cs⟩):=by rw[AH,AI h,hit];rfl
  have hil:i<(items.map (AD false)).length:=by omega
  have hcc:=D0 cs hcl.1 hcl.2;have hcm:(cs.map (AG false)).length=cs.length:=AB _;refine KK ?_;refine Ai λV=>?_;refine KK ?_
  refine AWP.rs λY=>?_
  refine RU ?_;(iterate 7 refine RK ?_);refine RGo.gN ?_;refine RGo.t1 (h:=hcc) (k:=?_);(iterate 3 refine RK ?_);refine RGo.nil (by kernel_rfl) ?_;(repeat refine WF ?_);have hMs:(M.set i (.agg [iA en,iA eg,.sl Y 0 (cs.map (AG false)).length]))[i]?=some (.agg [iA en,iA eg,.sl Y 0 (cs.map (AG false)).length]):=by rw[List.getElem?_set_self (by omega)]
  refine AWP.closeIn (X:=Y) (Y:=I) (by exact At.f) (by exact At.f) rfl rfl (Hos.at hMs (.agg (.tail (.tail (.head .here))))) ?_;rw[List.set_set];refine KK ?_;refine BK (i+1) _ ⟨h,?_⟩;rw[hM];exact hset
 ·have h:i=items.length:=by rw[AN,him]at hc;omega
  subst h;rw[Hg _ _ _ (Nat.le_refl _)]at hM;subst hM;have hkl:(ks.map (A7 true)).length=(ks.map (A7 true)).length:=rfl;have hI:(items.map (AD false)).length=(items.map FG).length:=by simp
  refine JA ?_;exact⟨[.agg [.sl K 0 (ks.map (A7 true)).length,.sl G 0 (gens.map iA).length,.sl I 0 (items.map (AD false)).length]],[WV ⟨ks,gens,items⟩],_,[],.cons (.cell (p:=4) rfl (by exact At.f) TAg.h TSize.h rfl rfl) rfl .nil,.cons (.agg (.cons (.sl (p:=0) .here rfl) (.cons (.sl (p:=0) .here rfl) (.cons (.sl (p:=0) .here hI) .nil)))) .nil,by exact Sub.f,rfl,rfl⟩
theorem TW.fz{a b:AV}[h:Frz a b]:TW a b []:=h.h▸ .frz
theorem P1(l:List Item):AV.frzs (l.map FG)=l.map (AD false):=(inferInstance:Frzs (l.map FG) (l.map (AD false))).h
theorem SN(c:Comp):FreeE (AG false c):=.agg λx hx=>by
 simp only[BR,List.not_mem_nil,or_false]at hx;rcases hx with rfl|rfl
 ·exact .prim _
 ·exact λm c bs k=>k.1
theorem QG(l:List Comp):FreeL (l.map (AG false)):=λx hx=>by obtain⟨y,_,rfl⟩:=List.mem_map.1 hx;exact SN y
theorem SL(l:List Comp):∀x∈l.map (AG false),x.width=2:=λx hx=>by obtain⟨y,_,rfl⟩:=List.mem_map.1 hx;rfl
def wdH(w:Wd):AV:=.agg [Ag false false w.kinds,AM false w.gens,HX true false w.items]
instance {w:Wd}:Frz (wdH w) (wdA false w):=⟨by unfold wdH wdA;exact Frz.h⟩
section
section
variable {ro:Option Nat}{P:Program}{nt:Nat}{ops:Array Oper}{Q:Exit->St->Prop}{rest:List Oper}{T:List (Nat×AV)}{S:List AC}{f:FuncId}{x0 x1:Operand}{v0 v1:AV}{dst:Option Tmp}{ats:Array TypeId}{ty:TypeId}{pos:String}{after:Array Edge}{p1 p2 p3 p4:Nat}{z1 z2 z3 z4:AC}{y1 y2 y3 y4:Nat×Nat->AC}
theorem Ua(h:Spec P f [v0,v1] [z1,z2,z3,z4] λr' S'=>∃b:Nat×Nat,r'= .tup []/\S'=[y1 b,y2 b,y3 b,y4 b])(k:∀b:Nat×Nat,AOps ro P nt ops Q rest ⟨AY T dst (.tup []),AX S [(p1,y1 b),(p2,y2 b),(p3,y3 b),(p4,y4 b)]⟩)
  (a1:At S p1 z1:=by exact At.f) (a2:At S p2 z2:=by exact At.f) (a3:At S p3 z3:=by exact At.f) (a4:At S p4 z4:=by exact At.f) (hnd:Cu [p1,p2,p3,p4]=true:=by rfl) (h0:Rd none T x0 v0:=by rfl) (h1:Rd none T x1 v1:=by rfl) (ht:An [(x0,v0),(x1,v1)]=true:=by rfl) (hd:AW dst nt=true:=by rfl):
  AOps ro P nt ops Q (⟨dst,.call ⟨.value (.func f),#[x0,x1],ats⟩,ty,pos,after,none⟩::rest) ⟨T,S⟩:=
 Dj (xs:=[(x0,v0),(x1,v1)]) (C:=λ_=>True) (rr:=λ_=>.tup []) (vv:=λ_=>.tup []) (So:=λb=>[y1 b,y2 b,y3 b,y4 b]) (nw:=λ_=>[]) (gs:=[]) (rS:=[(p1,z1),(p2,z2),(p3,z3),(p4,z4)]) (wE:=λb=>[(p1,y1 b),(p2,y2 b),(p3,y3 b),(p4,y4 b)])
  (h.mono λr' S' ⟨b,e1,e2⟩=>⟨b,trivial,e1,e2⟩) (λ_=>.fz) (λ_=>rfl) (λb=>.cons a1 (.cons a2 (.cons a3 (.cons a4 .nil)))) (Cf hnd) rfl (.cons a1 (.cons a2 (.cons a3 (.cons a4 .nil)))) (.cons h0 (.cons h1 .nil)) ht hd (λb _=>k b)
end
theorem EW{l:List Item}{wth wout:List Int}{i:Nat}{q:Nat×Item}(h:q∈DS l wth wout i):l[q.1]?=some q.2/\Ba q.2 wth wout=true:=by
 induction i with
 |zero=>simp[DS]at h
 |succ i ih=>
  rw[DS,CY]at h;rcases h with h|h
  ·exact ih h
  ·split at h
   ·rename_i it hit
    split at h
    ·rename_i hm
     rw[BO]at h;subst h;exact⟨hit,hm⟩
    ·cases h
   ·cases h
theorem IY(ks:List Kind)(s:Sys)(index seed tick:Int):∀(qs:List (Nat×Item)) (b:List Item×List Cmd×List Evt),(∀q∈qs,(b.1[q.1]?).map Item.ent=some q.2.ent)->(EP ks s index seed tick qs b).1.map Item.ent=b.1.map Item.ent
 |[],b,_=>rfl
 |q::qs,b,h=>by
  have h0:=h q (by simp)
  have e1:∀x:Item,x.ent=q.2.ent->(b.1.set q.1 x).map Item.ent=b.1.map Item.ent:=by
   intro x hx;rw[List.map_set,hx];refine List.ext_getElem? λj=>?_
   by_cases hj:q.1=j
   ·subst hj
    rw[<-AH]at h0;rw[List.getElem?_set_self (List.getElem?_eq_some_iff.1 h0).1,h0]
   ·rw[List.getElem?_set_ne hj]
  have:=IY ks s index seed tick qs (b.1.set q.1 ⟨q.2.ent,(Da ks s index seed tick q.2 b.2.1 b.2.2).comps⟩,(Da ks s index seed tick q.2 b.2.1 b.2.2).cmds,(Da ks s index seed tick q.2 b.2.1 b.2.2).evs) (λq' h'=>by
   have h1:=h q' (by simp[h']);dsimp only;rw[<-AH]at h1⊢;rw[e1 ⟨q.2.ent,(Da ks s index seed tick q.2 b.2.1 b.2.2).comps⟩ rfl];exact h1)
  exact this.trans (e1 ⟨q.2.ent,(Da ks s index seed tick q.2 b.2.1 b.2.2).comps⟩ rfl)
structure RunB where
 K:Nat
 E:Nat
 l:List Comp
 e:Ent
 r:UInt64×UInt64
 z:List Item×List Cmd×List Evt
def NC(w:Wd)(s:Sys)(index:Int)(X PX W2 I R:Nat)(b:RunB):List AC:=
 [(b.E,.row 86 4 (b.z.2.2.map Cw)),(b.K,.row 159 5 (b.z.2.1.map Bp)),(PX,.row 181 1 [.ptr X 0 0]),(X,.row 185 16 [Lm w.kinds s b.e (Ax false false b.l) b.r (.sl b.K 0 b.z.2.1.length) (.sl b.E 0 b.z.2.2.length) index]),
  (W2,.row 26 3 [.agg [Ag false false w.kinds,AM false w.gens,.sl I 0 (w.items.map FG).length]]),(I,.row 71 3 (b.z.1.map (AD false))),(R,.row 26 3 [.agg [.prim (.slice none 0 0),.prim (.slice none 0 0),.prim (.slice none 0 0)]])]
theorem Sy(w:Wd)(s:Sys)(index seed tick:Int)(hw:WdL w)(hwe:Cr w=0)(h12:w.kinds.length<=12)(hs:SysG w.kinds s)(hk:Al w.kinds=0)(hheld:∀it∈w.items,A8 w.kinds it.comps=true)(hN:(DH w.items s.wth s.wout).length*s.ops.length<=1099511627775):
  PS Tryz.prog 38 [wdA false w,CA false s,iA index,iA seed,iA tick] (.tup [wdH ⟨w.kinds,w.gens,(CU w s index seed tick).1⟩,.lst false 159 5 ((CU w s index seed tick).2.1.map Bp),.lst false 86 4 ((CU w s index seed tick).2.2.map Cw),iA 0]):=by
 have hck:=Et w hw.gens hw.items.1 (λit h=>(hw.items.2 it h).1);rw[hwe]at hck;have hcp:=VN w hw;have hsc:=I3 w.kinds s hk h12 hs;have hal:=WM w s.wth s.wout hw.items.1 hw.items.2 (by have:=(hs.o s.wth (by simp)).2.2;omega) (by have:=(hs.o s.wout (by simp)).2.2;omega);refine Sp (nt:=97) (res:=[.cell 10 26,.tmp 11,.tmp 12,.tmp 13]) Tryz.func38 λSf=>?_
 refine RG ?_;(repeat first|(refine AOps.gN ?_;first|(refine AOps.g_box ?_;refine Ad ?_))|refine WO ?_|refine Ai λR=>?_|refine Ay λY=>?_);refine NL ?_;refine JJ ?_;refine AOps.g_callf ?_;refine AOps.c1 (h:=(hck ..)) (k:=?_);refine JB ?_;refine KK ?_;refine AA rfl rfl ?_;refine JI ?_;refine AOps.g_callf ?_;refine AOps.c2 (h:=(hsc ..)) (k:=?_);refine JB ?_;refine KK ?_;refine AA rfl rfl ?_;refine FL ?_;refine AWP.rs λI=>?_
 refine JF ?_;refine AOps.g_callf ?_;refine AOps.z1 (h:=hcp) (hT:=.v (.agg (.cons .fz (.cons .fz (.cons (.lst (Y:=I) rfl) .nil))))) (k:=?_);refine WO ?_;refine Ai λW2=>?_;refine WO ?_
 refine JD ?_;(repeat first|refine WO ?_|refine Ai λPX=>?_|refine Ay λY=>?_);refine NL ?_;rename_i X;refine FL ?_;refine AWP.adoptIn (Y:=X) 159 5 (by exact At.f) (λF=>.cons (.agg (.cons .same (.cons .same (.cons .same (.cons .same (.cons .same (.cons .same (.cons .same (.cons .same (.cons .same (.cons .same (.cons .same (.cons .same (.cons .same (.cons (.base .nil) (.cons .same (.cons .same .nil))))))))))))))))) .nil) λK=>?_
 refine AWP.adoptIn (Y:=X) 86 4 (by exact At.f) (λF=>.cons (.agg (.cons .same (.cons .same (.cons .same (.cons .same (.cons .same (.cons .same (.cons .same (.cons .same (.cons .same (.cons .same (.cons .same (.cons .same (.cons .same (.cons .same (.cons (.base .nil) (.cons .same .nil))))))))))))))))) .nil) λE=>?_
 refine AWP.nilIn 42 2 (Y:=X) (.cons (.agg (.cons .same (.cons .same (.cons .same (.cons .same (.cons .same (.cons .same (.cons .same (.cons .same (.cons .same (.cons .same (.cons (.base .nil) (.cons .same (.cons .same (.cons .same (.cons .same (.cons .same .nil))))))))))))))))) .nil) ?_;refine AWP.frzRow I (w.items.map (AD false)) (P1 w.items) ?_ (by exact At.f);refine JG ?_;refine AOps.g_callf ?_;refine C5 (h:=(hal ..)) (k:=?_);refine NL ?_;refine FL ?_;have hI:=SY (DH w.items s.wth s.wout) (Nat.le_trans (Iv _ _ _) hw.items.1) (λq hq=>hw.items.2 _ (Mn hq));refine Qa (Sf:=Sf) hI (NC w s index X PX W2 I R) (λi b=>b.z=EP w.kinds s index seed tick ((DH w.items s.wth s.wout).take i) (w.items,[],[])) ⟨K,E,[],⟨0,0⟩,(0,0),(w.items,[],[])⟩ rfl ?_ ?_ rfl rfl rfl ?_ ?_
 ·rintro i vs C ⟨K,E,l0,e0,r0,z⟩ l F1 F2 hi hz
  have hil:i<(DH w.items s.wth s.wout).length:=by simpa using(List.getElem?_eq_some_iff.1 hi).1
  rw[AH,AI hil]at hi;obtain rfl:_=vs:=Option.some.inj hi;have hqm:=AU hil;have hst:=Pd (ks:=w.kinds) (s:=s) (index:=index) (seed:=seed) (tick:=tick) hil (w.items,[],[])
  have hro:=Hy (index:=index) (seed:=seed) (tick:=tick) hk hs.ops ((DH w.items s.wth s.wout).take i) (w.items,[],[]) (λq h=>by
   obtain⟨g1,g2⟩:=EW (List.mem_of_mem_take h);exact⟨hheld _ (Aq g1),Fc hs g2⟩)
  dsimp only at hz;rw[<-hz]at hst hro;obtain⟨q,hq⟩:=nm ((DH w.items s.wth s.wout)[i]);rw[hq]at hqm hst⊢;obtain⟨hqa,hqb⟩:=EW hqm;obtain⟨qi,⟨⟨en,eg⟩,cs⟩⟩:=q;obtain⟨zi,zc,ze⟩:=z;dsimp only[List.length_nil]at hqa hqb hro;unfold NC itY;dsimp only;have hcl:(cs.map (AG true)).length=cs.length:=AB _;rw[hcl];have hrs:=S3 [seed,tick,index,en] (by simp);have hen:=IY w.kinds s index seed tick ((DH w.items s.wth s.wout).take i) (w.items,[],[]) (λq h=>by rw[(EW (List.mem_of_mem_take h)).1];rfl);rw[<-hz]at hen;dsimp only at hen;have hzat:(zi[qi]?).map Item.ent=some ⟨en,eg⟩:=by rw[<-AH,hen,AH,hqa];rfl
  obtain⟨it,hit,hie⟩:=Option.map_eq_some_iff.1 hzat;obtain⟨ie,ics⟩:=it;dsimp only at hie;subst hie;have hiat:(zi.map (AD false))[qi]?=some (AD false ⟨⟨en,eg⟩,ics⟩):=by rw[AH,hit];rfl
  have hqil:qi<(zi.map (AD false)).length:=(List.getElem?_eq_some_iff.1 hiat).1;have heo:=λj=>Q4 (index:=index) (seed:=seed) (tick:=tick) (x:=⟨⟨en,eg⟩,cs⟩) hk (hheld _ (Aq hqa)) (Fc hs hqb) hs.ops zc ze j
  have hee:Da w.kinds s index seed tick ⟨⟨en,eg⟩,cs⟩ zc ze=C6 w.kinds s index ⟨en,eg⟩ s.ops ⟨cs,Ex [seed,tick,index,en],zc,ze⟩:=rfl;have hsr:EP w.kinds s index seed tick [(qi,⟨⟨en,eg⟩,cs⟩)] (zi,zc,ze)=(zi.set qi ⟨⟨en,eg⟩,(Da w.kinds s index seed tick ⟨⟨en,eg⟩,cs⟩ zc ze).comps⟩,(Da w.kinds s index seed tick ⟨⟨en,eg⟩,cs⟩ zc ze).cmds,(Da w.kinds s index seed tick ⟨⟨en,eg⟩,cs⟩ zc ze).evs):=rfl;rw[hsr,hee]at hst;dsimp only at heo;obtain⟨rr,hrr⟩:=nm (Ex [seed,tick,index,en]);rw[hrr]at hrs heo hst
  have him:i*s.ops.length+s.ops.length<=1099511627775:=by
   have h1:(i+1)*s.ops.length<=(DH w.items s.wth s.wout).length*s.ops.length:=Nat.mul_le_mul_right _ hil;rw[Nat.succ_mul]at h1;omega
  have htk:((DH w.items s.wth s.wout).take i).length=i:=by rw[Aj];omega
  rw[htk]at hro;clear hsr hee hz hen hrr;refine KK ?_;refine Ai λP=>?_;refine KK ?_
  refine⟨[(P,_),(C,_),(E,_),(K,_),(PX,_),(X,_),(W2,_),(I,_),(R,_)],.refl _,?_⟩;refine FL ?_;refine RU ?_;(iterate 10 refine RK ?_);refine RGo.gN ?_;refine RGo.c1 (h:=hrs) (k:=?_);(iterate 6 refine RK ?_);refine RGo.nil (by kernel_rfl) ?_;refine KK ?_;have hom:(s.ops.map opA).length=s.ops.length:=AB _;obtain⟨S0,hS0⟩:∃st:Rn,(⟨cs,rr,zc,ze⟩:Rn)=st:=⟨_,rfl⟩;rw[hS0]at heo hst;have hop0:C6 w.kinds s index ⟨en,eg⟩ (s.ops.take 0) S0=⟨cs,rr,zc,ze⟩:=hS0.symm;obtain⟨stj,hstj⟩:∃g:Nat->Rn,(λj=>C6 w.kinds s index ⟨en,eg⟩ (s.ops.take j) S0)=g:=⟨_,rfl⟩;have hg0:stj 0=⟨cs,rr,zc,ze⟩:=by rw[<-hstj];exact hop0
  have hgS:∀j (h:j<s.ops.length),stj (j+1)=doM w.kinds s index ⟨en,eg⟩ s.ops[j] (stj j):=by intro j h;rw[<-hstj];exact Rk h S0
  have hge:∀j,RnG w.kinds s (stj j)/\(stj j).cmds.length<=zc.length+s.ops.length/\(stj j).evs.length<=ze.length+s.ops.length:=by intro j;rw[<-hstj];exact heo j
  have hgl:C6 w.kinds s index ⟨en,eg⟩ s.ops S0=stj s.ops.length:=by rw[<-hstj];dsimp only;rw[List.take_length]
  rw[hgl]at hst;clear heo hop0 hgl hstj hS0
  refine Bq (λ(j:Nat) (b:Nat×Nat)=>⟨[(16,.ptr W2 0 0),(17,.ptr PX 0 0),(18,iA qi),(68,Uv false s.ops),(69,iA (s.ops.map opA).length),(70,iA j)],[(P,.row 71 3 [.agg [iA en,iA eg,.sl C 0 cs.length]]),(C,.row 42 2 ((stj j).comps.map (AG true))),(b.2,.row 86 4 ((stj j).evs.map Cw)),(b.1,.row 159 5 ((stj j).cmds.map Bp)),(PX,.row 181 1 [.ptr X 0 0]),(X,KF w.kinds s ⟨en,eg⟩ C (stj j).comps.length (stj j).r b.1 (stj j).cmds.length b.2 (stj j).evs.length index),
   (W2,.row 26 3 [.agg [Ag false false w.kinds,AM false w.gens,.sl I 0 (w.items.map FG).length]]),(I,.row 71 3 (zi.map (AD false))),(R,.row 26 3 [.agg [.prim (.slice none 0 0),.prim (.slice none 0 0),.prim (.slice none 0 0)]])]++F2⟩) (λj _=>j<=s.ops.length) (λj _=>s.ops.length-j) 0 (K,E) (Nat.zero_le _) ?_ (by dsimp only;rw[hg0];exact⟨by exact Lk.f,by exact Sub.f⟩)
  rintro j ⟨K',E'⟩ hj;dsimp only;obtain⟨hgR,hgC,hgE⟩:=hge j;refine KK ?_;refine AWP.cond rfl (λhc=>?_) (λhc=>?_)
  ·have hjl:j<s.ops.length:=by rw[AE,hom]at hc;omega
   have hatj:(s.ops.map opA)[j]?=some (opA s.ops[j]):=by rw[AH,AI hjl];rfl
   have hjm:j<(s.ops.map opA).length:=by omega
   have hdo:=Wn w.kinds s ⟨en,eg⟩ index X C K' E' (stj j) s.ops[j] hk h12 hs.sp ⟨hgR.held,hgR.has,hgR.odd,by omega,by omega⟩ (hs.ops _ (AU hjl));rw[<-hgS j hjl]at hdo;unfold Pc at hdo;have hol:s.ops.length<=20:=hs.len;refine KK ?_;refine Ai λO=>?_;(iterate 6 refine WK ?_);refine AOps.gN ?_;refine Ua (h:=hdo) λb=>?_;refine KK ?_
   refine BK (j+1) b hjl
  ·have hjl:j=s.ops.length:=by rw[AN,hom]at hc;omega
   subst hjl;have hqw:qi<(w.items.map FG).length:=by rw[AB];exact(List.getElem?_eq_some_iff.1 hqa).1
   refine KK ?_
   have hfz:AV.frzs ((((stj s.ops.length).comps.map (AG true)).drop 0).take (stj s.ops.length).comps.length)=(stj s.ops.length).comps.map (AG false):=by
    rw[List.drop_zero,List.take_of_length_le (by simp)];exact(inferInstance:Frzs ((stj s.ops.length).comps.map (AG true)) ((stj s.ops.length).comps.map (AG false))).h
   refine AWP.iceIn (X:=C) (Y:=X) (by exact At.f) (by exact At.f) rfl (.cons (.agg (.cons .same (.cons .same (.cons .same (.cons .same (.cons .same (.cons .same (.cons .same (.cons .same (.cons .same (.cons .same (.cons (.base (.sl (by simp))) (.cons .same (.cons .same (.cons .same (.cons .same (.cons .same .nil))))))))))))))))) .nil) ?_;rw[hfz];refine RU ?_;(iterate 11 refine RK ?_);refine RGo.nil (by kernel_rfl) ?_;refine FL ?_;refine⟨[(E',_),(K',_),(PX,_),(X,_),(W2,_),(I,_),(R,_)],(by exact Sub.f),⟨K',E',(stj s.ops.length).comps,⟨en,eg⟩,(stj s.ops.length).r,_⟩,hst.symm,?_⟩;rw[List.map_set];rfl
 ·rintro⟨K,E,l0,e0,r0,z⟩ hz
  rw[AB,List.take_length]at hz;dsimp only at hz
  have hro:=Hy (index:=index) (seed:=seed) (tick:=tick) hk hs.ops (DH w.items s.wth s.wout) (w.items,[],[]) (λq h=>by
   obtain⟨g1,g2⟩:=EW h;exact⟨hheld _ (Aq g1),Fc hs g2⟩)
  rw[<-hz]at hro;rw[show CU w s index seed tick=z from hz.symm];clear hz;obtain⟨zi,zc,ze⟩:=z;dsimp only at hro⊢;have hlI:(w.items.map FG).length=(zi.map (AD false)).length:=by rw[AB,AB,hro.2.2]
  have hfk:AV.frzs (((zc.map Bp).drop 0).take zc.length)=zc.map Bp:=by
   rw[List.drop_zero,List.take_of_length_le (by simp)];exact Fh Bp (λ_=>Frz.h) zc
  have hfe:AV.frzs (((ze.map Cw).drop 0).take ze.length)=ze.map Cw:=by
   rw[List.drop_zero,List.take_of_length_le (by simp)];exact Fh Cw (λ_=>Frz.h) ze
  unfold NC;dsimp only;refine FL ?_;refine AWP.iceIn (X:=K) (Y:=X) (by exact At.f) (by exact At.f) rfl (.cons (.agg (.cons .same (.cons .same (.cons .same (.cons .same (.cons .same (.cons .same (.cons .same (.cons .same (.cons .same (.cons .same (.cons .same (.cons .same (.cons .same (.cons (.base (.sl (by simp))) (.cons .same (.cons .same .nil))))))))))))))))) .nil) ?_;refine AWP.iceIn (X:=E) (Y:=X) (by exact At.f) (by exact At.f) rfl (.cons (.agg (.cons .same (.cons .same (.cons .same (.cons .same (.cons .same (.cons .same (.cons .same (.cons .same (.cons .same (.cons .same (.cons .same (.cons .same (.cons .same (.cons .same (.cons (.base (.sl (by simp))) (.cons .same .nil))))))))))))))))) .nil) ?_;rw[hfk,hfe];refine RU ?_;(iterate 13 refine RK ?_);refine RGo.nil (by kernel_rfl) ?_;refine WK ?_;refine RT ?_
  exact Bw [.agg [Ag false false w.kinds,AM false w.gens,.sl I 0 (w.items.map FG).length],.lst false 159 5 (zc.map Bp),.lst false 86 4 (ze.map Cw),iA 0] [wdH ⟨w.kinds,w.gens,zi⟩,.lst false 159 5 (zc.map Bp),.lst false 86 4 (ze.map Cw),iA 0]
   (.cons (.agg (.cons .same (.cons .same (.cons (.sl (p:=5) (.next (.next (.next (.next (.next .here))))) hlI) .nil)))) (.cons (.cell .same) (.cons (.cell .same) (.cons (.cell .same) .nil))))
 ·intro vs hvs C
  obtain⟨q,_,rfl⟩:=List.mem_map.1 hvs;rfl
 ·unfold NC
  exact List.Sublist.refl _
end
def KeepC(ws:List Int)(a b:List Comp):Prop:=b.map Comp.kind=a.map Comp.kind/\∀(j:Nat) (c d:Comp),a[j]?=some c->b[j]?=some d->ws.contains c.kind=false->d.vals=c.vals
theorem KeepC.refl(ws:List Int)(a:List Comp):KeepC ws a a:=⟨rfl,λj c d h1 h2 _=>by rw[h1]at h2;injection h2 with h2;rw[h2]⟩
theorem KeepC.trans{ws:List Int}{a b c:List Comp}(h:KeepC ws a b)(k:KeepC ws b c):KeepC ws a c:=by
 refine⟨k.1.trans h.1,λj x z hx hz hn=>?_⟩;have e:(b.map Comp.kind)[j]?=(a.map Comp.kind)[j]?:=by rw[h.1]
 rw[AH,AH,hx]at e;cases hb:b[j]? with
 |none=>rw[hb]at e;cases e
 |some y=>
  rw[hb]at e;injection e with e
  rw[k.2 j y z hb hz (by rw[e];exact hn),h.2 j x y hx hb hn]
theorem Rc{ws:List Int}{cs:List Comp}(hs:CZ cs){k:Int}(hk:ws.contains k=true)(f:Nat)(v:Int):KeepC ws cs (KC cs k f v):=by
 refine⟨KB hs k f v,λj c d hc hd hn=>?_⟩;cases hcc:BH cs k with
 |none=>
  unfold KC at hd;rw[hcc]at hd;rw[hc]at hd;injection hd with hd
  rw[hd]
 |some c'=>
  obtain⟨e1,e2⟩:=Hw hs hcc f v;rw[e2]at hd;by_cases hj:Ci cs k=j
  ·subst hj
   rw[hc]at e1;injection e1 with e1
   have:=((B0 hs).1 hcc).2;rw[e1,this,hk]at hn;cases hn
  ·rw[List.getElem?_set_ne hj,hc]at hd
   injection hd with hd
   rw[hd]
theorem Tz{ks:List Kind}{s:Sys}{index:Int}{e:Ent}{o:Op}{st:Rn}(h:RnG ks s st)(ho:OpG ks s.reads s.writes o):KeepC s.writes st.comps (doM ks s index e o st).comps:=by
 unfold doM;split
 ·exact Rc (held_iff.1 h.held).1 (ho.sets ‹_›).2 _ _
 ·split
  ·exact .refl _ _
  ·split
   ·exact .refl _ _
   ·exact .refl _ _
theorem Ia{ks:List Kind}{s:Sys}{index:Int}{e:Ent}(hk:Al ks=0):∀(os:List Op) {st:Rn} (h:RnG ks s st) (ho:∀o∈os,OpG ks s.reads s.writes o),KeepC s.writes st.comps (C6 ks s index e os st).comps
 |[],st,h,ho=>.refl _ _
 |o::os,st,h,ho=>(Tz (index:=index) (e:=e) h (ho o (by simp))).trans (Ia hk os (LG hk h (ho o (by simp))).1 (λo' h'=>ho o' (by simp[h'])))
def UU(ks:List Kind)(ws:List Int)(x y:Item):Prop:=y.ent=x.ent/\KeepC ws x.comps y.comps/\A8 ks y.comps=true
theorem KH{ks:List Kind}{s:Sys}{index seed tick:Int}{l0:List Item}(hk:Al ks=0)(ho:∀o∈s.ops,OpG ks s.reads s.writes o):∀(qs:List (Nat×Item)) (b:List Item×List Cmd×List Evt),(∀q∈qs,l0[q.1]?=some q.2/\A8 ks q.2.comps=true/\Lf s q.2.comps)->
  (∀(i:Nat) (x:Item),l0[i]?=some x->∃y,b.1[i]?=some y/\UU ks s.writes x y)->∀(i:Nat) (x:Item),l0[i]?=some x->∃y,(EP ks s index seed tick qs b).1[i]?=some y/\UU ks s.writes x y
 |[],b,_,h=>h
 |q::qs,b,hq,h=>by
  obtain⟨h1,h2,h3⟩:=hq q (by simp);refine KH hk ho qs (b.1.set q.1 ⟨q.2.ent,(Da ks s index seed tick q.2 b.2.1 b.2.2).comps⟩,(Da ks s index seed tick q.2 b.2.1 b.2.2).cmds,(Da ks s index seed tick q.2 b.2.1 b.2.2).evs) (λq' h'=>hq q' (by simp[h'])) λi x hx=>?_
  dsimp only;obtain⟨y,hy,hk'⟩:=h i x hx;by_cases hi:q.1=i
  ·subst hi
   rw[h1]at hx;injection hx with hx
   subst hx;refine⟨_,List.getElem?_set_self (List.getElem?_eq_some_iff.1 hy).1,rfl,?_,?_⟩
   ·exact Ia (index:=index) (e:=q.2.ent) hk s.ops (st:=⟨q.2.comps,Ex [seed,tick,index,q.2.ent.n],b.2.1,b.2.2⟩) ⟨h2,h3,Gm _⟩ ho
   ·exact(Jo (index:=index) (e:=q.2.ent) hk s.ops (st:=⟨q.2.comps,Ex [seed,tick,index,q.2.ent.n],b.2.1,b.2.2⟩) ⟨h2,h3,Gm _⟩ ho).1.held
  ·exact⟨y,by rw[List.getElem?_set_ne hi];exact hy,hk'⟩
theorem Mp{w:Wd}{s:Sys}(hs:SysG w.kinds s)(hh:∀it∈w.items,A8 w.kinds it.comps=true):∀q∈DH w.items s.wth s.wout,w.items[q.1]?=some q.2/\A8 w.kinds q.2.comps=true/\Lf s q.2.comps:=by
 intro q hq;obtain⟨h1,h2⟩:=EW hq;exact⟨h1,hh _ (Aq h1),Fc hs h2⟩
theorem Rh{w:Wd}{s:Sys}{index seed tick:Int}(hk:Al w.kinds=0)(hs:SysG w.kinds s)(hh:∀it∈w.items,A8 w.kinds it.comps=true):∀(i:Nat) (x:Item),w.items[i]?=some x->∃y,(CU w s index seed tick).1[i]?=some y/\UU w.kinds s.writes x y:=
 KH hk hs.ops _ _ (Mp hs hh) λi x hx=>⟨x,hx,rfl,.refl _ _,hh _ (Aq hx)⟩
theorem ML{w:Wd}{s:Sys}{index seed tick:Int}:(CU w s index seed tick).1.map Item.ent=w.items.map Item.ent:=
 IY w.kinds s index seed tick _ _ λq hq=>by rw[(EW hq).1];rfl
theorem KG{w:Wd}{s:Sys}{index seed tick:Int}:(CU w s index seed tick).1.length=w.items.length:=by
 have:=congrArg List.length (ML (w:=w) (s:=s) (index:=index) (seed:=seed) (tick:=tick));simpa using this
theorem Qn{w:Wd}{s:Sys}{index seed tick:Int}(hw:Cr w=0)(hs:SysG w.kinds s):Cr ⟨w.kinds,w.gens,(CU w s index seed tick).1⟩=0:=by
 have g:=(BL w).1 hw;refine(BL _).2 ⟨g.ks,g.gl,by simpa[KG]using g.il,g.gs,?_,λit hit=>?_⟩
 ·have h2:((CU w s index seed tick).1.map Item.ent).Pairwise λa b=>a.n<b.n:=by rw[ML];exact(List.pairwise_map (f:=Item.ent) (R:=λa b:Ent=>a.n<b.n)).2 g.so
  exact(List.pairwise_map (f:=Item.ent) (R:=λa b:Ent=>a.n<b.n)).1 h2
 ·obtain⟨i,hi⟩:=List.getElem?_of_mem hit
  dsimp only at hi hit⊢
  have hl:i<w.items.length:=by
   have:=(List.getElem?_eq_some_iff.1 hi).1;rw[KG]at this;exact this
  obtain⟨y,h1,h2,h3,h4⟩:=Rh (index:=index) (seed:=seed) (tick:=tick) g.ks hs (λit h=>(g.it it h).2.2.2.2) i w.items[i] (by simp[hl]);rw[hi]at h1;injection h1 with h1
  subst h1;obtain⟨a1,a2,a3,a4,a5⟩:=g.it w.items[i] (AU hl);rw[h2];exact⟨a1,a2,a3,a4,h4⟩
section
def ixG(ks:List Int):Int->Option Value:=λn=>if n∈ks then some (.int .i64 (ks.idxOf n:Nat))else none
variable {α:Type}
abbrev AJ(l:List (Int×α)):List Int:=l.map (·.1)
def Bn(l:List (Int×α))(n:Int)(v:α):List (Int×α):=if n∈AJ l then l.set ((AJ l).idxOf n) (n,v)else l++[(n,v)]
def Cx(l:List (Int×α))(n:Int):Option α:=(l[(AJ l).idxOf n]?).map (·.2)
def BW(l:List (Int×α))(n:Int):List (Int×α):=if n∈AJ l then(match l[l.length-1]? with|some e=>(l.set ((AJ l).idxOf n) e).take (l.length-1)|none=>l)else l
structure ColOK(l:List (Int×α)):Prop where
 nd:(AJ l).Nodup
 lt:∀n∈AJ l,0<=n/\n<256
theorem OE{ks:List Int}(h:ks.Nodup)(hl:∀n∈ks,0<=n/\n<256):ks.length<=256:=by
 have h1:(ks.map Int.toNat).Nodup:=by
  refine List.pairwise_map.2 (h.imp_of_mem λha hb hne e=>hne ?_);have:=hl _ ha;have:=hl _ hb;omega
 have h2:(ks.map Int.toNat)⊆List.range 256:=λx hx=>by
  obtain⟨n,hn,rfl⟩:=List.mem_map.1 hx;have:=hl n hn;rw[List.mem_range];omega
 have:=List.Nodup.length_le_of_subset h1 h2;simpa using this
theorem ColOK.len{l:List (Int×α)}(h:ColOK l):l.length<=256:=by
 have:=OE h.nd h.lt;simpa using this
theorem E3{l:List (Int×α)}{n:Int}(h:n∈AJ l):(AJ l).idxOf n<l.length:=by
 have:=List.idxOf_lt_length_of_mem h;simpa using this
theorem E4{l:List (Int×α)}{n:Int}(h:n∈AJ l):∃v,l[(AJ l).idxOf n]?=some (n,v):=by
 have h1:=E3 h;have h2:=List.getElem_idxOf (xs:=AJ l) (x:=n) (by simpa using h1);rw[List.getElem_map]at h2;refine⟨(l[(AJ l).idxOf n]).2,?_⟩;rw[AI h1]
 congr 1
 exact Prod.ext h2 rfl
theorem EA{l:List (Int×α)}{n:Int}(h:n∉AJ l):Cx l n=none:=by
 unfold Cx;rw[List.getElem?_eq_none]
 ·rfl
 ·rw[List.idxOf_eq_length h];simp
theorem CS{l:List (Int×α)}(h:ColOK l){n:Int}{v:α}:Cx l n=some v↔(n,v)∈l:=by
 constructor
 ·intro e
  have hn:n∈AJ l:=Classical.byContradiction λhn=>by rw[EA hn]at e;cases e
  obtain⟨u,hu⟩:=E4 hn;unfold Cx at e;rw[hu]at e;injection e with e
  simp only at e;subst e;exact Aq hu
 ·intro hm
  have hn:n∈AJ l:=List.mem_map.2 ⟨_,hm,rfl⟩;obtain⟨i,hi,e⟩:=List.getElem_of_mem hm
  have h1:(AJ l).idxOf n=i:=by
   have h2:(AJ l)[i]'(by simpa using hi)=n:=by rw[List.getElem_map,e]
   rw[<-h2];exact h.nd.idxOf_getElem i _
  unfold Cx;rw[h1,AI hi,e];rfl
theorem Ew{l:List (Int×α)}{n:Int}(h:n∈AJ l):∃v,Cx l n=some v:=by
 obtain⟨u,hu⟩:=E4 h;exact⟨u,by unfold Cx;rw[hu];rfl⟩
theorem ColOK.perm{l l':List (Int×α)}(h:ColOK l)(p:l.Perm l'):ColOK l':=
 ⟨(p.map _).nodup_iff.1 h.nd,λn hn=>h.lt n ((p.map _).mem_iff.2 hn)⟩
theorem Cz{l:List (Int×α)}{n:Int}{v:α}(h:n∉AJ l):Bn l n v=l++[(n,v)]:=if_neg h
theorem En{l:List (Int×α)}{n:Int}{v:α}(h:n∈AJ l):Bn l n v=l.set ((AJ l).idxOf n) (n,v):=if_pos h
theorem Ev{l:List (Int×α)}{n:Int}{v:α}(h:n∈AJ l):AJ (Bn l n v)=AJ l:=by
 rw[En h,AJ,List.map_set];obtain⟨u,hu⟩:=E4 h;have h1:=E3 h;refine List.ext_getElem (by simp) λi h2 h3=>?_
 rw[List.getElem_set];split
 ·rename_i e
  subst e;have:=List.getElem_idxOf (xs:=AJ l) (x:=n) (by simpa using h1);exact this.symm
 ·rfl
theorem ColOK.put{l:List (Int×α)}(h:ColOK l){n:Int}(hn:0<=n/\n<256)(v:α):ColOK (Bn l n v):=by
 by_cases hk:n∈AJ l
 ·refine⟨by rw[Ev hk];exact h.nd,λm hm=>h.lt m (by rwa[Ev hk]at hm)⟩
 ·rw[Cz hk]
  refine⟨?_,λm hm=>?_⟩
  ·rw[AJ,List.map_append]
   refine List.nodup_append.2 ⟨h.nd,by simp,λa ha b hb e=>?_⟩;simp only[List.map_cons,List.map_nil,BO]at hb;subst hb e;exact hk ha
  ·rw[AJ,List.map_append]at hm
   rcases List.mem_append.1 hm with hm|hm
   ·exact h.lt m hm
   ·simp only[List.map_cons,List.map_nil,BO]at hm
    subst hm;exact hn
theorem IX{l:List (Int×α)}(h:ColOK l){n:Int}{v:α}{m:Int}{u:α}:(m,u)∈Bn l n v↔(m=n/\u=v)\/(m≠n/\(m,u)∈l):=by
 by_cases hk:n∈AJ l
 ·obtain⟨w,hw⟩:=E4 hk
  have h1:=E3 hk;rw[En hk];constructor
  ·intro hm
   obtain⟨i,hi,e⟩:=List.getElem_of_mem hm;rw[List.getElem_set]at e;split at e
   ·injection e with e1 e2
    exact .inl ⟨e1.symm,e2.symm⟩
   ·rename_i hne
    refine .inr ⟨λe2=>hne ?_,e▸AU _⟩;have hi':i<l.length:=by simpa using hi
    have h2:(AJ l)[i]'(by simpa using hi')=n:=by rw[List.getElem_map,e,e2]
    rw[<-h2];exact h.nd.idxOf_getElem i _
  ·rintro(⟨rfl,rfl⟩|⟨hne,hm⟩)
   ·exact Aq (i:=(AJ l).idxOf m) (by rw[List.getElem?_set_self h1])
   ·obtain⟨i,hi,e⟩:=List.getElem_of_mem hm
    refine Aq (i:=i) ?_;rw[List.getElem?_set_ne,AI hi,e];intro e2;have h3:l[i]?=some (m,u):=by rw[AI hi,e]
    rw[<-e2,hw]at h3;injection h3 with h3
    injection h3 with h3 _
    exact hne h3.symm
 ·rw[Cz hk,CY,BO]
  constructor
  ·rintro(hm|e)
   ·exact .inr ⟨λe=>hk (by subst e;exact List.mem_map.2 ⟨_,hm,rfl⟩),hm⟩
   ·injection e with e1 e2
    exact .inl ⟨e1,e2⟩
  ·rintro(⟨rfl,rfl⟩|⟨_,hm⟩)
   ·exact .inr rfl
   ·exact .inl hm
theorem FY{l:List (Int×α)}{n:Int}(h:n∉AJ l):BW l n=l:=if_neg h
theorem MD{β:Type}{l:List β}{i:Nat}{x e:β}(hx:l[i]?=some x)(he:l[l.length-1]?=some e):l.Perm (x::(l.set i e).take (l.length-1)):=by
 have hi:=(List.getElem?_eq_some_iff.1 hx).1
 obtain⟨l',e',rfl⟩:∃l' e',l=l'++[e']:=by
  rcases List.eq_nil_or_concat l with rfl|⟨l',e',rfl⟩
  ·cases hi
  ·exact⟨l',e',by simp⟩
 have hl:(l'++[e']).length-1=l'.length:=by simp
 rw[hl]at he⊢;rw[List.getElem?_append_right (Nat.le_refl _),Nat.sub_self]at he;injection he with he
 subst he;by_cases h:i<l'.length
 ·rw[List.getElem?_append_left h]at hx
  rw[List.set_append_left _ _ h,List.take_left' (by simp)];obtain⟨R,h1,h2⟩:=Bo hx;refine List.perm_append_comm.trans ?_;refine((h1.cons e').trans (.swap ..)).trans ?_;exact(h2 e').symm.cons x
 ·have hi':i=l'.length:=by simp at hi;omega
  subst hi';rw[List.getElem?_append_right (Nat.le_refl _),Nat.sub_self]at hx;injection hx with hx
  subst hx;rw[List.set_append_right _ _ (Nat.le_refl _),Nat.sub_self,List.set_cons_zero,List.take_left' rfl];exact List.perm_append_comm
theorem Jp{β:Type}{l:List β}(h:0<l.length):∃e,l[l.length-1]?=some e:=⟨l[l.length-1],AI (by omega)⟩
theorem C9{l:List (Int×α)}(h:ColOK l){n:Int}{v:α}(hm:(n,v)∈l):l.Perm ((n,v)::BW l n):=by
 have hk:n∈AJ l:=List.mem_map.2 ⟨_,hm,rfl⟩;obtain⟨w,hw⟩:=E4 hk;have h1:=E3 hk
 have hwv:w=v:=by
  have:=(CS h).2 hm;unfold Cx at this;rw[hw]at this;injection this
 subst hwv;obtain⟨e,he⟩:=Jp (l:=l) (by omega);unfold BW;rw[if_pos hk,he];exact MD hw he
theorem J6{l:List (Int×α)}{n:Int}(hk:n∈AJ l):(BW l n).length=l.length-1:=by
 have h1:=E3 hk;obtain⟨e,he⟩:=Jp (l:=l) (by omega);unfold BW;rw[if_pos hk,he];simp
theorem ColOK.drop{l:List (Int×α)}(h:ColOK l)(n:Int):ColOK (BW l n):=by
 by_cases hk:n∈AJ l
 ·obtain⟨v,hv⟩:=Ew hk
  have:=h.perm (C9 h ((CS h).1 hv));exact⟨(List.nodup_cons.1 this.nd).2,λm hm=>this.lt m (List.mem_cons_of_mem _ hm)⟩
 ·rw[FY hk];exact h
theorem Dl{l:List (Int×α)}(h:ColOK l){n m:Int}:m∈AJ (BW l n)↔m∈AJ l/\m≠n:=by
 by_cases hk:n∈AJ l
 ·obtain⟨v,hv⟩:=Ew hk
  have hp:=C9 h ((CS h).1 hv);have hd:=h.perm hp;have hn:n∉AJ (BW l n):=(List.nodup_cons.1 hd.nd).1;rw[(hp.map (·.1)).mem_iff (a:=m)];simp only[List.map_cons,BR];constructor
  ·intro hm
   exact⟨.inr hm,λe=>hn (by subst e;exact hm)⟩
  ·rintro⟨e|hm,hne⟩
   ·exact absurd e hne
   ·exact hm
 ·rw[FY hk]
  exact⟨λhm=>⟨hm,λe=>hk (e▸hm)⟩,λhm=>hm.1⟩
theorem PN{l:List (Int×α)}(h:ColOK l){n m:Int}(hne:m≠n):Cx (BW l n) m=Cx l m:=by
 by_cases hm:m∈AJ l
 ·obtain⟨v,hv⟩:=Ew hm
  rw[hv,CS (h.drop n)];have h1:=(CS h).1 hv;by_cases hk:n∈AJ l
  ·obtain⟨w,hw⟩:=Ew hk
   have:=(C9 h ((CS h).1 hw)).mem_iff.1 h1;rcases List.mem_cons.1 this with e|e
   ·injection e with e _
    exact absurd e hne
   ·exact e
  ·rw[FY hk];exact h1
 ·rw[EA hm,EA (λhm'=>hm ((Dl h).1 hm').1)]
theorem Gk{l:List (Int×α)}(h:ColOK l){n:Int}(hn:0<=n/\n<256){v:α}{m:Int}:Cx (Bn l n v) m=if m=n then some v else Cx l m:=by
 split
 ·rename_i e
  subst e;exact(CS (h.put hn v)).2 ((IX h).2 (.inl ⟨rfl,rfl⟩))
 ·rename_i hne
  cases hg:Cx l m with
  |some w=>exact(CS (h.put hn v)).2 ((IX h).2 (.inr ⟨hne,(CS h).1 hg⟩))
  |none=>
   refine EA λhm=>?_
   obtain⟨⟨m',w⟩,hw,rfl⟩:=List.mem_map.1 hm;rcases(IX h).1 hw with⟨e,_⟩|⟨_,hw⟩
   ·exact hne e
   ·rw[(CS h).2 hw]at hg
    cases hg
theorem C4{ks:List Int}{n:Int}(h:n∈ks):ixG ks n=some (.int .i64 (ks.idxOf n:Nat)):=if_pos h
theorem Fu{ks:List Int}{n:Int}(h:n∉ks):ixG ks n=none:=if_neg h
theorem Qz{ks:List Int}{n:Int}(h:n∉ks):EN (ixG ks) n (.int .i64 (ks.length:Nat))=ixG (ks++[n]):=by
 funext m
 unfold EN;split
 ·rename_i e
  subst e;rw[C4 (by simp),List.idxOf_append,if_neg h];simp
 ·rename_i hne
  by_cases hm:m∈ks
  ·rw[C4 hm,C4 (by simp[hm]),List.idxOf_append,if_pos hm]
  ·rw[Fu hm,Fu (by simp[hm,hne])]
theorem Ij{ks:List Int}(hd:ks.Nodup){i:Nat}{n:Int}(h:ks[i]?=some n):n∈ks/\ks.idxOf n=i:=by
 obtain⟨hi,e⟩:=List.getElem?_eq_some_iff.1 h;subst e;exact⟨AU _,hd.idxOf_getElem i _⟩
theorem OR{ks:List Int}(hd:ks.Nodup){i:Nat}{n e:Int}(hn:ks[i]?=some n)(he:ks[ks.length-1]?=some e):Fj (EN (ixG ks) e (.int .i64 (i:Nat))) n=ixG ((ks.set i e).take (ks.length-1)):=by
 have hp:=MD hn he;have hd2:(n::(ks.set i e).take (ks.length-1)).Nodup:=hp.nodup_iff.1 hd;obtain⟨hn1,hd3⟩:=List.nodup_cons.1 hd2;obtain⟨hi,_⟩:=List.getElem?_eq_some_iff.1 hn;have hmem:∀m,m∈ks↔m=n\/m∈(ks.set i e).take (ks.length-1):=λm=>by rw[hp.mem_iff];simp
 funext m
 unfold Fj;split
 ·rename_i h
  subst h;rw[Fu hn1]
 ·rename_i hmn
  unfold EN;split
  ·rename_i hme
   subst hme
   have hi2:i<ks.length-1:=by
    refine Classical.byContradiction λh=>hmn ?_
    have:i=ks.length-1:=by omega
    rw[this,he]at hn;injection hn
   obtain⟨h1,h2⟩:=Ij hd3 (i:=i) (n:=m) (by rw[List.getElem?_take_of_lt hi2,List.getElem?_set_self hi]);rw[C4 h1,h2]
  ·rename_i hme
   by_cases hm:m∈ks
   ·obtain⟨j,hj,ej⟩:=List.getElem_of_mem hm
    have hj1:ks[j]?=some m:=by rw[AI hj,ej]
    have hj2:j<ks.length-1:=by
     refine Classical.byContradiction λh=>hme ?_
     have:j=ks.length-1:=by omega
     rw[this,he]at hj1;injection hj1 with hj1
     exact hj1.symm
    have hij:i≠j:=λh=>by
     subst h;rw[hn]at hj1;injection hj1 with hj1
     exact hmn hj1.symm
    obtain⟨h1,h2⟩:=Ij hd hj1;obtain⟨h3,h4⟩:=Ij hd3 (i:=j) (n:=m) (by rw[List.getElem?_take_of_lt hj2,List.getElem?_set_ne hij,hj1]);rw[C4 h1,h2,C4 h3,h4]
   ·rw[Fu hm,Fu λh=>hm ((hmem m).2 (.inr h))]
structure StK where
 X:Nat
 V:Nat
 R:Nat
 M:Nat
end
instance mapII:TMap Tryz.prog 257 3 3 (.int .i64 0):=⟨by kernel_rfl,by kernel_rfl,λw=>by kernel_rfl,PlainV.int (by kernel_rfl) rfl⟩
abbrev stE(k:StK)(l:List (Int×Ent)):List AC:=[(k.X,.row 259 3 [.agg [.sl k.V 0 l.length,.sl k.R 0 l.length,.mp k.M]]),(k.V,.row 32 2 (l.map λe=>BA e.2)),(k.R,.row 3 1 (l.map λe=>iA e.1)),(k.M,.ob (MapF Tryz.prog 3 3 (ixG (AJ l)) l.length))]
theorem PM{X V R M n m c:Nat}{l:List (Int×Ent)}{vs rs:List AV}{g:Int->Option Value}(h1:n=l.length)(h2:m=l.length)(h3:vs=l.map λe=>BA e.2)(h4:rs=l.map λe=>iA e.1)(h5:g=ixG (AJ l))(h6:c=l.length):
  [(X,AO.row 259 3 [.agg [.sl V 0 n,.sl R 0 m,.mp M]]),(V,.row 32 2 vs),(R,.row 3 1 rs),(M,.ob (MapF Tryz.prog 3 3 g c))]=stE ⟨X,V,R,M⟩ l:=by
 subst h1 h2 h3 h4 h5 h6;rfl
theorem newE_sp:Spec Tryz.prog 149 [] [] λr S'=>∃k:StK,r= .ptr k.X 0 0/\S'=stE k []:=by
 refine Sp (nt:=4) (res:=[.tmp 0]) Tryz.func149 λSf=>?_
 refine R1 ?_;refine JD ?_;refine Ge ?_;refine Lj λM=>?_;refine KO ?_;refine Ai λX=>?_;refine JB ?_
 refine AWP.adoptIn (Y:=X) 32 2 .here (λV=>.cons (.agg (.cons (.base .nil) (.cons .same (.cons .same .nil)))) .nil) λV=>?_
 refine AWP.adoptIn (Y:=X) 3 1 (.next .here) (λV=>.cons (.agg (.cons .same (.cons (.base .nil) (.cons .same .nil)))) .nil) λR=>?_
 refine AWP.front M ?_;refine AWP.front R ?_;refine AWP.front V ?_;refine AWP.front X ?_;refine RT ?_;exact Ends.sp [.ptr X 0 0] (stE ⟨X,V,R,M⟩ []) ⟨⟨X,V,R,M⟩,rfl,rfl⟩
theorem T3(k:StK)(l:List (Int×Ent))(hl:ColOK l)(n:Int)(v:Ent)(hn:0<=n/\n<256):Spec Tryz.prog 152 [.ptr k.X 0 0,iA n,BA v] (stE k l) λr S'=>∃q:Nat×Nat,r=iA 0/\S'=stE ⟨k.X,q.1,q.2,k.M⟩ (Bn l n v):=by
 have hlen:=hl.len;have hn1:decide (n<0)=false:=AK (by omega);have hn2:decide (n>=256)=false:=AK (by omega);have hI: -9223372036854775808<=n/\n<=9223372036854775807:=by omega
 by_cases hk:n∈AJ l
 ·obtain⟨u,hu⟩:=E4 hk
  have hi:=E3 hk;rw[En hk];have hix:=C4 hk;have hke:=Ev (v:=v) hk;rw[En hk]at hke;obtain⟨i,hi2⟩:=nm ((AJ l).idxOf n);rw[hi2]at hi hu hix hke⊢;have h1:(ixG (AJ l) n).getD (.int .i64 0)= .int .i64 (i:Nat):=by rw[hix];rfl
  have h2:(ixG (AJ l) n).isSome=true:=by rw[hix];rfl
  have hat:(l.map λe=>BA e.2)[i]?=some (BA u):=by rw[AH,hu];rfl
  have hset:(l.map λe=>BA e.2).set i (BA v)=(l.set i (n,v)).map λe=>BA e.2:=by rw[List.map_set]
  have hrow:(l.map λe=>iA e.1)=(l.set i (n,v)).map λe=>iA e.1:=by
   have:=congrArg (List.map iA) hke;rw[AJ,AJ,List.map_map,List.map_map]at this;exact this.symm
  refine Sp (nt:=62) (res:=[.tmp 6]) Tryz.func152 λSf=>?_
  refine JF ?_;refine Ai λB0=>?_;refine JB ?_
  refine JL ?_;refine AA rfl hn2 ?_;refine JD ?_;(iterate 5 refine WO ?_);refine AOps.gN ?_;refine AOps.go (h:=EK _ _ h1 h2 hI rfl rfl (by exact At.f)) (k:=?_);refine JE ?_;refine JL ?_;refine AL rfl rfl ?_;refine FL ?_;refine RU ?_;(iterate 6 refine RK ?_);refine RGo.gN ?_;refine RGo.go (h:=W.idx rfl rfl (by exact At.f) rfl (by omega) (Nat.zero_add _)) (k:=?_);refine RK ?_;refine RGo.nil (by kernel_rfl) ?_;refine JK ?_;exact Ends.sp [iA 0] _ ⟨(k.V,k.R),rfl,PM (n:=l.length) (m:=l.length) (c:=l.length) (by simp) (by simp) hset hrow (by rw[hke]) (by simp)⟩
 ·rw[Cz hk]
  have hix:=Fu hk;have h1:(ixG (AJ l) n).getD (.int .i64 0)= .int .i64 0:=by rw[hix];rfl
  have h2:(ixG (AJ l) n).isSome=false:=by rw[hix];rfl
  have hkl:(AJ l).length=l.length:=AB _
  have hkf:EN (ixG (AJ l)) n (.int .i64 (l.length:Nat))=ixG (AJ (l++[(n,v)])):=by
   rw[<-hkl,Qz hk,AJ,AJ,List.map_append];rfl
  have hsz:(if(ixG (AJ l) n).isSome then l.length else l.length+1)=l.length+1:=by rw[h2];rfl
  have hmx:l.length<maxLen:=by unfold maxLen;omega
  refine Sp (nt:=62) (res:=[.tmp 6]) Tryz.func152 λSf=>?_
  refine JF ?_;refine Ai λB0=>?_;refine JB ?_
  refine JL ?_;refine AA rfl hn2 ?_;refine JD ?_;(iterate 5 refine WO ?_);refine AOps.gN ?_;refine AOps.go (h:=EK _ _ h1 h2 hI rfl rfl (by exact At.f)) (k:=?_);refine JE ?_;refine JL ?_;refine AA rfl rfl ?_;refine FL ?_;refine RU ?_;(iterate 10 refine RK ?_);refine RGo.gN ?_;refine RGo.goS (h:=W.mapUpd (PlainV.int (by kernel_rfl) (GU (by omega))) hI hmx rfl rfl rfl (by exact At.f)) (k:=?_);refine RGo.nil (by kernel_rfl) ?_;rw[hkf,hsz];refine FL ?_;refine AWP.rs λA=>AWP.rs λB=>?_
  refine RU ?_;(iterate 7 refine RK ?_);refine RGo.g_lit ?_;refine RGo.goL (iA n) ?_;(iterate 6 refine RK ?_);refine RGo.g_lit ?_;refine RGo.goL (BA v) ?_;(iterate 7 refine RK ?_);refine RGo.nil (by kernel_rfl) ?_;refine JC ?_;refine AWP.front k.M ?_;refine AWP.front B ?_;refine AWP.front A ?_;refine AWP.front k.X ?_;refine RT ?_;exact Ends.sp [iA 0] _ ⟨(A,B),rfl,PM (n:=l.length+1) (m:=l.length+1) (c:=l.length+1) (by simp) (by simp) (by rw[List.map_append]) (by rw[List.map_append]) rfl (by simp)⟩
abbrev stS(k:StK)(l:List (Int×List Int)):List AC:=[(k.X,.row 314 3 [.agg [.sl k.V 0 l.length,.sl k.R 0 l.length,.mp k.M]]),(k.V,.row 22 1 (l.map λe=>AM false e.2)),(k.R,.row 3 1 (l.map λe=>iA e.1)),(k.M,.ob (MapF Tryz.prog 3 3 (ixG (AJ l)) l.length))]
theorem PL{X V R M n m c:Nat}{l:List (Int×List Int)}{vs rs:List AV}{g:Int->Option Value}(h1:n=l.length)(h2:m=l.length)(h3:vs=l.map λe=>AM false e.2)(h4:rs=l.map λe=>iA e.1)(h5:g=ixG (AJ l))(h6:c=l.length):
  [(X,AO.row 314 3 [.agg [.sl V 0 n,.sl R 0 m,.mp M]]),(V,.row 22 1 vs),(R,.row 3 1 rs),(M,.ob (MapF Tryz.prog 3 3 g c))]=stS ⟨X,V,R,M⟩ l:=by
 subst h1 h2 h3 h4 h5 h6;rfl
theorem Uw:Spec Tryz.prog 150 [] [] λr S'=>∃k:StK,r= .ptr k.X 0 0/\S'=stS k []:=by
 refine Sp (nt:=4) (res:=[.tmp 0]) Tryz.func150 λSf=>?_
 refine R1 ?_;refine JD ?_;refine Ge ?_;refine Lj λM=>?_;refine KO ?_;refine Ai λX=>?_;refine JB ?_
 refine AWP.adoptIn (Y:=X) 22 1 .here (λV=>.cons (.agg (.cons (.base .nil) (.cons .same (.cons .same .nil)))) .nil) λV=>?_
 refine AWP.adoptIn (Y:=X) 3 1 (.next .here) (λV=>.cons (.agg (.cons .same (.cons (.base .nil) (.cons .same .nil)))) .nil) λR=>?_
 refine AWP.front M ?_;refine AWP.front R ?_;refine AWP.front V ?_;refine AWP.front X ?_;refine RT ?_;exact Ends.sp [.ptr X 0 0] (stS ⟨X,V,R,M⟩ []) ⟨⟨X,V,R,M⟩,rfl,rfl⟩
theorem Tg(k:StK)(l:List (Int×List Int))(hl:ColOK l)(n:Int)(hn:I64 n)(v:List Int)(hg:Cx l n=some v):Spec Tryz.prog 156 [.ptr k.X 0 0,iA n] (stS k l) λr S'=>r= .tup [AM false v,bA true]/\S'=stS k l:=by
 have hlen:=hl.len;have hk:n∈AJ l:=Classical.byContradiction λh=>by rw[EA h]at hg;cases hg
 obtain⟨u,hv⟩:=E4 hk;have hi:=E3 hk;have hg2:Cx l n=some u:=by unfold Cx;rw[hv];rfl
 rw[hg]at hg2;injection hg2 with hg2
 subst hg2;have hat:(l.map λe=>AM false e.2)[(AJ l).idxOf n]?=some (AM false v):=by rw[AH,hv];rfl
 have hix:=C4 hk;obtain⟨i,hi2⟩:=nm ((AJ l).idxOf n);rw[hi2]at hi hat hix;have h1:(ixG (AJ l) n).getD (.int .i64 0)= .int .i64 (i:Nat):=by rw[hix];rfl
 have h2:(ixG (AJ l) n).isSome=true:=by rw[hix];rfl
 refine Sp (nt:=28) (res:=[.tmp 4,.tmp 5]) Tryz.func156 λSf=>?_
 refine R1 ?_;refine JD ?_;(iterate 5 refine WO ?_);refine AOps.gN ?_;refine AOps.go (h:=EK _ _ h1 h2 hn rfl rfl (by exact At.f)) (k:=?_);refine JE ?_;refine JL ?_;refine AA rfl rfl ?_;refine JD ?_;(iterate 5 refine WO ?_);refine AOps.gN ?_;refine AOps.go (h:=W.idx rfl rfl (by exact At.f) rfl (by omega) (Nat.zero_add _)) (k:=?_);refine JE ?_;refine RT ?_;exact Ends.sp [AM false v,bA true] (stS k l) ⟨rfl,rfl⟩
theorem Ok(k:StK)(l:List (Int×List Int))(hl:ColOK l)(n:Int)(v:List Int)(hn:0<=n/\n<256):Spec Tryz.prog 153 [.ptr k.X 0 0,iA n,AM false v] (stS k l) λr S'=>∃q:Nat×Nat,r=iA 0/\S'=stS ⟨k.X,q.1,q.2,k.M⟩ (Bn l n v):=by
 have hlen:=hl.len;have hn1:decide (n<0)=false:=AK (by omega);have hn2:decide (n>=256)=false:=AK (by omega);have hI: -9223372036854775808<=n/\n<=9223372036854775807:=by omega
 by_cases hk:n∈AJ l
 ·obtain⟨u,hu⟩:=E4 hk
  have hi:=E3 hk;rw[En hk];have hix:=C4 hk;have hke:=Ev (v:=v) hk;rw[En hk]at hke;obtain⟨i,hi2⟩:=nm ((AJ l).idxOf n);rw[hi2]at hi hu hix hke⊢;have h1:(ixG (AJ l) n).getD (.int .i64 0)= .int .i64 (i:Nat):=by rw[hix];rfl
  have h2:(ixG (AJ l) n).isSome=true:=by rw[hix];rfl
  have hat:(l.map λe=>AM false e.2)[i]?=some (AM false u):=by rw[AH,hu];rfl
  have hset:(l.map λe=>AM false e.2).set i (AM false v)=(l.set i (n,v)).map λe=>AM false e.2:=by rw[List.map_set]
  have hrow:(l.map λe=>iA e.1)=(l.set i (n,v)).map λe=>iA e.1:=by
   have:=congrArg (List.map iA) hke;rw[AJ,AJ,List.map_map,List.map_map]at this;exact this.symm
  refine Sp (nt:=62) (res:=[.tmp 6]) Tryz.func153 λSf=>?_
  refine R1 ?_;refine JL ?_;refine AA rfl hn2 ?_;refine JD ?_;(iterate 5 refine WO ?_);refine AOps.gN ?_;refine AOps.go (h:=EK _ _ h1 h2 hI rfl rfl (by exact At.f)) (k:=?_);refine JE ?_;refine JL ?_;refine AL rfl rfl ?_;refine JD ?_;(iterate 6 refine WO ?_);refine AOps.gN ?_;refine AOps.go (h:=W.idx rfl rfl (by exact At.f) rfl (by omega) (Nat.zero_add _)) (k:=?_);refine JB ?_;refine JK ?_;exact Ends.sp [iA 0] _ ⟨(k.V,k.R),rfl,PL (n:=l.length) (m:=l.length) (c:=l.length) (by simp) (by simp) hset hrow (by rw[hke]) (by simp)⟩
 ·rw[Cz hk]
  have hix:=Fu hk;have h1:(ixG (AJ l) n).getD (.int .i64 0)= .int .i64 0:=by rw[hix];rfl
  have h2:(ixG (AJ l) n).isSome=false:=by rw[hix];rfl
  have hkl:(AJ l).length=l.length:=AB _
  have hkf:EN (ixG (AJ l)) n (.int .i64 (l.length:Nat))=ixG (AJ (l++[(n,v)])):=by
   rw[<-hkl,Qz hk,AJ,AJ,List.map_append];rfl
  have hsz:(if(ixG (AJ l) n).isSome then l.length else l.length+1)=l.length+1:=by rw[h2];rfl
  have hmx:l.length<maxLen:=by unfold maxLen;omega
  refine Sp (nt:=62) (res:=[.tmp 6]) Tryz.func153 λSf=>?_
  refine R1 ?_;refine JL ?_;refine AA rfl hn2 ?_;refine JD ?_;(iterate 5 refine WO ?_);refine AOps.gN ?_;refine AOps.go (h:=EK _ _ h1 h2 hI rfl rfl (by exact At.f)) (k:=?_);refine JE ?_;refine JL ?_;refine AA rfl rfl ?_;refine FL ?_;refine RU ?_;(iterate 10 refine RK ?_);refine RGo.gN ?_;refine RGo.goS (h:=W.mapUpd (PlainV.int (by kernel_rfl) (GU (by omega))) hI hmx rfl rfl rfl (by exact At.f)) (k:=?_);refine RGo.nil (by kernel_rfl) ?_;rw[hkf,hsz];refine FL ?_;refine AWP.rs λA=>AWP.rs λB=>?_
  refine RU ?_;(iterate 7 refine RK ?_);refine RGo.g_lit ?_;refine RGo.goL (iA n) ?_;(iterate 6 refine RK ?_);refine RGo.g_lit ?_;refine RGo.goL (AM false v) ?_;(iterate 7 refine RK ?_);refine RGo.nil (by kernel_rfl) ?_;refine JC ?_;refine AWP.front k.M ?_;refine AWP.front B ?_;refine AWP.front A ?_;refine AWP.front k.X ?_;refine RT ?_;exact Ends.sp [iA 0] _ ⟨(A,B),rfl,PL (n:=l.length+1) (m:=l.length+1) (c:=l.length+1) (by simp) (by simp) (by rw[List.map_append]) (by rw[List.map_append]) rfl (by simp)⟩
def Ca:List Int->List Int->Int
 |[],[]=>0
 |[],_::_=>-1
 |_::_,[]=>1
 |x::a,y::b=>if Cp x y≠0 then Cp x y else Ca a b
theorem VO{a b:List Int}{i:Nat}(ha:i<a.length)(hb:i<b.length):Ca (a.drop i) (b.drop i)=if Cp a[i] b[i]≠0 then Cp a[i] b[i]else Ca (a.drop (i+1)) (b.drop (i+1)):=by
 rw[CG ha,CG hb,Ca]
theorem Oo(a b:List Int)(ha:a.length<=1099511627776):PS Tryz.prog 148 [AM false a,AM false b] (iA (Ca a b)):=by
 have ham:(a.map iA).length=a.length:=AB _;have hbm:(b.map iA).length=b.length:=AB _;refine Sp (nt:=36) (res:=[.tmp 4]) Tryz.func148 λSf=>?_
 refine KK ?_;refine Az (λ(i:Nat)=>⟨[(0,AM false a),(1,AM false b),(9,AM false a),(10,iA (a.map iA).length),(11,iA i)],Sf⟩) (λi=>i<=a.length/\i<=b.length/\Ca a b=Ca (a.drop i) (b.drop i)) (λi=>a.length-i) 0 ⟨by omega,by omega,rfl⟩ ?_;rintro i ⟨hi,hib,hc⟩;refine KK ?_;refine AWP.cond rfl (λh=>?_) (λh=>?_)
 ·have h:i<a.length:=by rw[AE,ham]at h;omega
  have hat:(a.map iA)[i]?=some (iA a[i]):=BF _ h;obtain⟨x,hx⟩:=nm (a[i]);rw[hx]at hat;have hil:i<(a.map iA).length:=by omega
  refine KK ?_;refine AWP.cond rfl (λh2=>?_) (λh2=>?_)
  ·have h2:i=b.length:=by rw[AE,hbm]at h2;omega
   refine JA ?_;refine AF ?_;have hbn:b.drop i=[]:=List.drop_eq_nil_of_le (by omega);rw[hc,hbn,CG h];rfl
  ·have h2:i<b.length:=by rw[AN,hbm]at h2;omega
   have hat2:(b.map iA)[i]?=some (iA b[i]):=BF _ h2;have hil2:i<(b.map iA).length:=by omega
   rw[VO h h2]at hc;obtain⟨y,hy⟩:=nm (b[i]);rw[hx,hy]at hc;rw[hy]at hat2;have hcm:=E8 x y;obtain⟨z,hz⟩:=nm (Cp x y);rw[hz]at hcm hc;refine KK ?_;refine AOps.g_callf ?_;refine AOps.c2 (h:=(hcm ..)) (k:=?_);refine KK ?_;refine AWP.cond rfl (λh3=>?_) (λh3=>?_)
   ·have h3:z≠0:=by simpa using h3
    refine JA ?_;refine AF ?_;rw[hc,if_pos h3]
   ·have h3:z=0:=by simpa using h3
    rw[if_neg (by simp[h3])]at hc;refine KK ?_;exact Ab (i+1) ⟨by omega,by omega,hc⟩ (by omega)
 ·have h:i=a.length:=by rw[AN,ham]at h;omega
  subst h;rw[List.drop_length]at hc;refine KK ?_;refine AWP.cond rfl (λh2=>?_) (λh2=>?_)
  ·have h2:a.length<b.length:=by rw[AE,ham,hbm]at h2;omega
   refine JA ?_;refine AF ?_;rw[hc,CG h2];rfl
  ·have h2:a.length=b.length:=by rw[AN,ham,hbm]at h2;omega
   refine JA ?_;refine AF ?_;rw[hc,List.drop_eq_nil_of_le (by omega)];rfl
def Eb{α:Type}(f:α->AV)(z:AV)(l:List α)(i:Nat):List AV:=(l.take i).map f++List.replicate (l.length-i) z
theorem Mb{α:Type}(f:α->AV)(z:AV)(l:List α){i:Nat}(h:i<=l.length):(Eb f z l i).length=l.length:=by
 unfold Eb;rw[AP,AB,Aj,List.length_replicate];omega
theorem K7{α:Type}(f:α->AV)(z:AV)(l:List α):Eb f z l 0=List.replicate l.length z:=by unfold Eb;simp
theorem Mc{α:Type}(f:α->AV)(z:AV)(l:List α):Eb f z l l.length=l.map f:=by unfold Eb;simp
theorem Of{α:Type}(f:α->AV)(z:AV)(l:List α){i:Nat}(h:i<l.length):(Eb f z l i)[i]?=some z:=by
 unfold Eb;have hl:((l.take i).map f).length=i:=by rw[AB,Aj];omega
 rw[List.getElem?_append_right (by omega),hl,Nat.sub_self,List.getElem?_replicate,if_pos (by omega)]
theorem Ma{α:Type}(f:α->AV)(z:AV)(l:List α){i:Nat}(h:i<l.length):(Eb f z l i).set i (f l[i])=Eb f z l (i+1):=by
 unfold Eb;have hl:((l.take i).map f).length=i:=by rw[AB,Aj];omega
 rw[List.set_append_right _ _ (by omega),hl,Nat.sub_self,show l.length-i=(l.length-(i+1))+1 by omega,List.replicate_succ,List.set_cons_zero,List.take_succ_eq_append_getElem h,List.map_append,AT];rfl
theorem Px(l:List Comp)(hl:l.length<=1099511627776):PS Tryz.prog 145 [Ax false false l] (AM true (l.map (·.kind))):=by
 have hlm:(l.map (AG false)).length=l.length:=AB _;refine Sp (nt:=23) (res:=[.tmp 2]) Tryz.func145 λSf=>?_
 refine R1 ?_;refine JJ ?_;refine WO ?_;refine Dt ?_;refine Fm (iA 0) λK=>?_;refine JB ?_
 rw[hlm,<-K7 (λc:Comp=>iA c.kind)];refine JL ?_;refine Az (λ(i:Nat)=>⟨[(3,.sl K 0 l.length),(9,Ax false false l),(10,iA (l.map (AG false)).length),(11,iA i)],(K,.row 3 1 (Eb (λc:Comp=>iA c.kind) (iA 0) l i))::Sf⟩) (λi=>i<=l.length) (λi=>l.length-i) 0 (by omega) ?_;rintro i hi;have hfl:=Mb (λc:Comp=>iA c.kind) (iA 0) l hi;refine JN ?_;refine AWP.cond rfl (λh=>?_) (λh=>?_)
 ·have h:i<l.length:=by rw[AE,hlm]at h;omega
  have hat:(l.map (AG false))[i]?=some (AG false l[i]):=BF _ h;have hil:i<(l.map (AG false)).length:=by omega
  have hfa:=Of (λc:Comp=>iA c.kind) (iA 0) l h;have hfs:=Ma (λc:Comp=>iA c.kind) (iA 0) l h;obtain⟨⟨ck,cv⟩,hc⟩:=nm (l[i]);rw[hc]at hat hfs;refine JI ?_;refine Ai λC=>?_;refine JE ?_
  refine JD ?_;(iterate 4 refine WO ?_);refine AOps.gN ?_;refine AOps.go (h:=W.idx rfl rfl (by exact At.f) rfl (by omega) (Nat.zero_add _)) (k:=?_);refine JB ?_;rw[hfs];refine JC ?_;exact Ab (i+1) (by omega)
 ·have h:i=l.length:=by rw[AN,hlm]at h;omega
  subst h;rw[Mc];refine JK ?_;exact⟨[.sl K 0 l.length],[AM true (l.map (·.kind))],_,[],.cons (.tmp rfl) rfl .nil,.cons (.cell (by unfold AM;rw[show(l.map (·.kind)).map iA=l.map (λc:Comp=>iA c.kind)from List.map_map];exact .sl (p:=0) .here (by simp))) .nil,by exact Sub.f,rfl,rfl⟩
abbrev ptrs{α:Type}(px:α->Nat)(l:List α):List AV:=l.map λx=>.ptr (px x) 0 0
theorem PT{α:Type}(Tb:Nat)(l:List α)(px:α->Nat)(R:List AC)(ks:List Int)(f:FuncId)(g:α->Int)(hl:l.length<=4611686018427387904)(hf:∀x∈l,Spec Tryz.prog f [.ptr (px x) 0 0,AM false ks] R λr S'=>r=iA (g x)/\S'=R):
  Spec Tryz.prog 146 [.sl Tb 0 l.length,AM false ks,.fn f []] ((Tb,.row 145 1 (ptrs px l))::R) λr S'=>∃b,Found g l b/\r= .tup [iA b.1,bA b.2]/\S'=(Tb,.row 145 1 (ptrs px l))::R:=by
 refine Sp (nt:=49) (res:=[.tmp 6,.tmp 7]) Tryz.func146 λSf=>?_
 have hlm:(ptrs px l).length=l.length:=AB _;refine KK ?_;refine Bq (λ(i j:Nat)=>⟨[(0,.sl Tb 0 l.length),(1,AM false ks),(2,.fn f []),(8,iA l.length),(9,iA i),(10,iA j)],(Tb,.row 145 1 (ptrs px l))::(R++Sf)⟩) (λi j=>i<=j/\j<=l.length/\(JW g l->Spl g l i j)) (λi j=>j-i) 0 l.length ⟨Nat.zero_le _,by omega,λ_=>⟨λk x h=>absurd h (by omega),λk x h hx=>by have:=(List.getElem?_eq_some_iff.1 hx).1;omega⟩⟩ ?_;rintro i j ⟨hij,hjn,hmono⟩;refine KK ?_;refine AWP.cond rfl (λhc=>?_) (λhc=>?_)
 ·have h:i<j:=by rw[AE]at hc;omega
  have hmid:((i:Int)+j).fdiv (2^1)=(((i+j)/2:Nat):Int):=by
   rw[Int.fdiv_eq_ediv_of_nonneg _ (by decide)];omega
  have hw1:IntKind.u64.wrap ((i:Int)+j)=i+j:=by rw[IntKind.wrap_u64];omega
  have hw2:IntKind.i64.wrap (((i:Int)+j).fdiv (2^1))=((i:Int)+j).fdiv (2^1):=by
   rw[IntKind.wrap_i64,hmid];omega
  refine RG ?_;(iterate 3 refine WO ?_);refine AOps.gN ?_;refine AOps.p (W.conv .i64 .u64 (by kernel_rfl) (by kernel_rfl) rfl hw1) rfl ?_;refine AOps.gN ?_;refine AOps.p (W.shr 1 rfl rfl rfl (by decide)) rfl ?_;refine AOps.gN ?_;refine AOps.p (W.conv .u64 .i64 (by kernel_rfl) (by kernel_rfl) rfl hw2) rfl ?_;refine JB ?_;rw[hmid];obtain⟨m,hm⟩:=nm ((i+j)/2);rw[hm];have hml:m<l.length:=by omega
  obtain⟨y,hy⟩:=nm (l[m]);have hya:l[m]?=some y:=by rw[AI hml,hy]
  have hat:(ptrs px l)[m]?=some (.ptr (px y) 0 0):=by rw[AH,hya];rfl
  have hfy:=hf y (by rw[<-hy];exact AU hml);refine RG ?_;(iterate 3 refine WO ?_);refine AOps.gN ?_;refine AOps.go (h:=W.idx rfl rfl (by exact At.f) rfl (by omega) (Nat.zero_add _)) (k:=?_);refine WO ?_;refine WO ?_;refine AOps.gN ?_;refine O8 [(Tb,_)] (h:=hfy) (k:=?_);refine JB ?_;refine AWP.cond rfl (λhe=>?_) (λhe=>?_)
  ·have he:g y<0:=by simpa using he
   refine KK ?_;refine BK (m+1) j ⟨by omega,hjn,λhM=>(hmono hM).lo hM hya he⟩
  ·have he:¬g y<0:=by simpa using he
   refine KK ?_;refine BK i m ⟨by omega,by omega,λhM=>(hmono hM).hi hM hya he⟩
 ·have h:i=j:=by rw[AN]at hc;omega
  subst h;by_cases hin:i<l.length
  ·have hil:i<l.length:=by omega
   have g1:decide ((i:Int)<l.length)=true:=Ah (by omega);obtain⟨y,hy⟩:=nm (l[i]);have hya:l[i]?=some y:=by rw[AI hil,hy]
   have hat:(ptrs px l)[i]?=some (.ptr (px y) 0 0):=by rw[AH,hya];rfl
   have hfy:=hf y (by rw[<-hy];exact AU hil)
   (iterate 15 refine WK ?_);refine AOps.gN ?_;refine AOps.go (h:=W.idx rfl rfl (by exact At.f) rfl (by omega) (Nat.zero_add _)) (k:=?_);(iterate 5 refine WK ?_);refine AOps.gN ?_;refine O8 [(Tb,_)] (h:=hfy) (k:=?_);refine KK ?_
   refine RT ?_;exact Ends.sp [iA i,bA (decide (g y=0))] ((Tb,.row 145 1 (ptrs px l))::R) ⟨(i,decide (g y=0)),⟨by simp;omega,by simp[hya],hmono⟩,rfl,rfl⟩
  ·have g1:decide ((i:Int)<l.length)=false:=AK (by omega)
   refine JA ?_;exact Ends.sp [iA i,bA false] ((Tb,.row 145 1 (ptrs px l))::R) ⟨(i,false),⟨by simp;omega,by simp[List.getElem?_eq_none (show l.length<=i by omega)],hmono⟩,rfl,rfl⟩
theorem R4{α:Type}(X:Nat)(l:List α)(px:α->Nat)(R:List AC)(f:FuncId)(cap:List AV)(p:α->Bool)(hs:B6 cap=true)(hl:l.length<=4611686018427387904)(hf:∀x∈l,Spec Tryz.prog f (.ptr (px x) 0 0::cap) R λr S'=>r=bA (p x)/\S'=R):Spec Tryz.prog 303 [.sl X 0 l.length,.fn f cap] ((X,.row 145 1 (ptrs px l))::R) λr S'=>r=iA (ES l p)/\S'=(X,.row 145 1 (ptrs px l))::R:=by
 refine Sp (nt:=19) (res:=[.tmp 4]) Tryz.func303 λSf=>?_
 refine KK ?_;refine Az (λi:Nat=>⟨[(0,.sl X 0 l.length),(1,.fn f cap),(7,iA l.length),(8,iA i)],(X,.row 145 1 (ptrs px l))::(R++Sf)⟩) (λi=>i<=l.length/\∀j (h:j<l.length),j<i->p l[j]=false) (λi=>l.length-i) 0 ⟨Nat.zero_le _,λj h hj=>absurd hj (by omega)⟩ ?_;rintro i ⟨hi,he⟩;refine KK ?_;refine AWP.cond rfl (λhc=>?_) (λhc=>?_)
 ·have h:i<l.length:=by simpa using hc
  have hfx:=hf _ (AU h);obtain⟨y,hy⟩:=nm (l[i]);have hat:(ptrs px l)[i]?=some (.ptr (px y) 0 0):=by rw[AH,AI h,hy];rfl
  rw[hy]at hfx
  (iterate 13 refine WK ?_);refine AOps.gN ?_;refine AOps.go (h:=W.idx rfl rfl (by exact At.f) rfl (by omega) (Nat.zero_add _)) (k:=?_);refine WK ?_;refine AOps.gN ?_;refine O9 [(X,_)] (h:=hfx) (k:=?_);refine KK ?_
  refine AWP.cond rfl (λhd=>?_) (λhd=>?_)
  ·refine KK ?_
   rw[Ep h (by rw[hy];exact hd) λj hj=>he j (by omega) hj];refine RT ?_;exact Ends.sp [iA i] ((X,.row 145 1 (ptrs px l))::R) ⟨rfl,rfl⟩
  ·refine KK ?_
   refine Ab (i+1) ⟨h,λj h1 h2=>?_⟩;by_cases e:j=i
   ·subst e;rw[hy];exact hd
   ·exact he j h1 (by omega)
 ·have h:¬i<l.length:=by simpa using hc
  refine KK ?_;rw[Eq λj hj=>he j hj (by omega)];refine RT ?_;exact Ends.sp [iA (-1)] ((X,.row 145 1 (ptrs px l))::R) ⟨rfl,rfl⟩
theorem QD{α:Type}(X:Nat)(l:List α)(px:α->Nat)(R:List AC)(f:FuncId)(cap:List AV)(p:α->Bool)(hs:B6 cap=true)(hl:l.length<=4611686018427387903)(hf:∀x∈l,Spec Tryz.prog f (.ptr (px x) 0 0::cap) R λr S'=>r=bA (p x)/\S'=R):Spec Tryz.prog 300 [.sl X 0 l.length,.fn f cap] ((X,.row 145 1 (ptrs px l))::R) λr S'=>r= .lst true 145 1 (ptrs px (l.filter λx=>!p x))/\S'=R:=by
 refine Sp (nt:=42) (res:=[.tmp 4]) Tryz.func300 λSf=>?_
 have h0:=R4 X l px R f cap p hs (by omega) hf;have hr:=Kr l p;obtain⟨v,hv⟩:=nm (ES l p);rw[hv]at h0 hr
 (iterate 8 refine WK ?_);refine AOps.gN ?_;refine EM [] (h:=h0) (k:=?_);refine KK ?_
 refine AWP.cond rfl (λhc=>?_) (λhc=>?_)
 ·have hc:v= -1:=by simpa using hc
  have hall:(l.filter λx=>!p x)=l:=by
   rw[List.filter_eq_self];intro x hx
   have h1:l.findIdx? p=none:=by
    unfold ES at hv;split at hv
    ·omega
    ·assumption
   rw[List.findIdx?_eq_none_iff]at h1;simp[h1 x hx]
  rw[hall];refine JA ?_;exact⟨[.sl X 0 l.length],[.lst true 145 1 (ptrs px l)],_,R,.cons (.tmp rfl) rfl .nil,.cons (.cell (.sl (p:=0) .here (by simp))) .nil,by exact Sub.f,rfl,rfl⟩
 ·have hc:v≠-1:=by simpa using hc
  obtain⟨i0,hi0⟩:∃i0:Nat,v=i0:=⟨v.toNat,by omega⟩;subst hi0
  have hfi:l.findIdx? p=some i0:=by
   unfold ES at hv;split at hv
   ·rename_i i hi;rw[hi];congr 1;omega
   ·omega
  obtain⟨hil,hpi,hmin⟩:=List.findIdx?_eq_some_iff_getElem.1 hfi
  have ht0:(l.take (i0+1)).filter (λx=>!p x)=l.take i0:=by
   rw[List.take_succ_eq_append_getElem hil,List.filter_append];rw[show([l[i0]].filter λx=>!p x)=[] by simp[hpi],List.append_nil,List.filter_eq_self];intro x hx;obtain⟨j,hj,rfl⟩:=List.mem_take_iff_getElem.1 hx;have:=hmin j (by omega);simp at this⊢;exact this
  refine KK ?_;refine D4 (λ(i j:Nat) (M:List AV)=>⟨[(0,.sl X 0 l.length),(1,.fn f cap),(5,iA i),(6,iA j)],(X,.row 145 1 M)::(R++Sf)⟩) (λi j M=>i<j/\j<=l.length/\∃K:List α,M=ptrs px K/\K.length=l.length/\K.take i=((l.take j).filter λx=>!p x)/\K.drop j=l.drop j) (λi j _=>l.length-j) i0 (i0+1) (ptrs px l) ⟨by omega,hil,l,rfl,rfl,ht0.symm,rfl⟩ ?_;rintro i j M ⟨hij,hj,K,rfl,hM,h1,h2⟩;refine KK ?_;refine AWP.cond rfl (λhd=>?_) (λhd=>?_)
  ·have h:j<l.length:=by simpa using hd
   have hKj:K[j]?=some l[j]:=by
    have:=congrArg (λz=>z[0]?) h2;simpa[h]using this
   have hat:(ptrs px K)[j]?=some (.ptr (px l[j]) 0 0):=by rw[AH,hKj];rfl
   have hKi:i<K.length:=by omega
   obtain⟨b,hb⟩:=nm (p l[j]);have hfj:=hf _ (AU h);rw[hb]at hfj
   have htk:(l.take (j+1)).filter (λx=>!p x)=(l.take j).filter (λx=>!p x)++if b then[]else[l[j]]:=by
    rw[List.take_succ_eq_append_getElem h,List.filter_append]
    congr 1
    cases b<;>simp[hb]
   obtain⟨y,hy⟩:=nm (l[j]);rw[hy]at hat hfj
   (iterate 7 refine WK ?_);refine AOps.gN ?_;refine AOps.go (h:=W.idx rfl rfl (by exact At.f) rfl (by omega) (Nat.zero_add _)) (k:=?_);(iterate 7 refine WK ?_);refine AOps.gN ?_;refine O9 [(X,_)] (h:=hfj) (k:=?_);refine KK ?_
   cases b
   ·refine AL rfl rfl ?_
    refine KK ?_;refine CW (i+1) (j+1) ((ptrs px K).set i (.ptr (px y) 0 0)) ⟨by omega,h,K.set i y,by rw[ptrs,ptrs,List.map_set],by simpa using hM,?_,?_⟩
    ·rw[htk,<-h1,List.take_add_one,List.take_set,List.set_eq_of_length_le (by rw[Aj];omega),List.getElem?_set_self hKi]
     simp[hy]
    ·rw[List.drop_set_of_lt (by omega),<-List.drop_drop,h2,List.drop_drop]
   ·refine AA rfl rfl ?_
    refine KK ?_;refine CW i (j+1) _ ⟨by omega,h,K,rfl,hM,?_,?_⟩
    ·rw[h1,htk];simp
    ·rw[<-List.drop_drop,h2,List.drop_drop]
  ·have h:j=l.length:=by rw[AN]at hd;omega
   subst h;have h1':K.take i=l.filter λx=>!p x:=by rw[h1,List.take_length]
   have hKl:(ptrs px K).length=l.length:=by rw[AB,hM]
   have hki:∀A B,(List.take (0+i) (ptrs px K)++A++B).take i=ptrs px (l.filter λx=>!p x):=λA B=>by
    rw[Nat.zero_add,AT,List.take_append_of_le_length (by rw[Aj];omega),List.take_take,Nat.min_self,ptrs,<-List.map_take,h1']
   have hfl:i=(ptrs px (l.filter λx=>!p x)).length:=by
    rw[<-h1',AB,Aj];omega
   (repeat first|(refine AOps.gN ?_;first|refine AOps.s (W.slice_lo rfl rfl (by exact At.f) rfl (by omega)) rfl ?_|refine AOps.s (W.clear rfl (by exact At.f) (by first|exact .inl rfl|exact .inr rfl) rfl (by omega)) rfl ?_|refine AOps.p (W.hi rfl rfl (by exact At.f) rfl (by omega)) rfl ?_)|refine WK ?_|refine Ai λX=>?_|refine Ay λY=>?_);refine AWP.shrink (X:=X) i ?_;rw[hki];refine RT ?_;exact⟨[.sl X 0 i],[.lst true 145 1 (ptrs px (l.filter λx=>!p x))],_,R,.cons (.tmp rfl) rfl .nil,.cons (.cell (.sl (p:=0) .here hfl)) .nil,by exact Sub.f,rfl,rfl⟩
structure Tab where
 X:Nat
 ks:List Int
 ek:StK
 es:List (Int×Ent)
 cs:List (StK×List (Int×List Int))
def Bh(cs:List (StK×List (Int×List Int))):List AC:=cs.flatMap λc=>stS c.1 c.2
abbrev Or(cs:List (StK×List (Int×List Int))):AV:=.lst false 252 1 (cs.map λc=>.ptr c.1.X 0 0)
abbrev D6(t:Tab):AC:=(t.X,.row 151 3 [.agg [AM false t.ks,.ptr t.ek.X 0 0,Or t.cs]])
abbrev Ec(t:Tab):List AC:=D6 t::(stE t.ek t.es++Bh t.cs)
theorem DP(a b:List (StK×List (Int×List Int))):Bh (a++b)=Bh a++Bh b:=List.flatMap_append
theorem DG(c:StK×List (Int×List Int))(b:List (StK×List (Int×List Int))):Bh (c::b)=stS c.1 c.2++Bh b:=List.flatMap_cons
theorem FZ{α:Type}{l:List α}{i:Nat}(h:i<l.length):∃l1 l2,l=l1++l[i]::l2/\l1.length=i:=⟨l.take i,l.drop (i+1),by rw[List.getElem_cons_drop,List.take_append_drop],by rw[Aj];omega⟩
def Aa(t:Tab)(n:Int):List Comp:=(t.ks.zip t.cs).map λq=>⟨q.1,(Cx q.2.2 n).getD []⟩
structure TabOK(t:Tab):Prop where
 len:t.ks.length=t.cs.length
 ks:t.ks.length<=16
 es:ColOK t.es
 cs:∀c∈t.cs,ColOK c.2
 keys:∀c∈t.cs,∀n,n∈AJ c.2↔n∈AJ t.es
theorem VU(t:Tab)(ks:List Int)(hl:t.ks.length<=1099511627776):Spec Tryz.prog 147 [.ptr t.X 0 0,AM false ks] [D6 t] λr S'=>r=iA (Ca t.ks ks)/\S'=[D6 t]:=by
 have h1:=Oo t.ks ks hl;refine Sp (nt:=11) (res:=[.tmp 4]) Tryz.func147 λSf=>?_
 refine R1 ?_;refine JI ?_;refine AOps.g_callf ?_;refine AOps.c2 (h:=(h1 ..)) (k:=?_);refine JB ?_;refine RT ?_;exact Ends.sp [iA (Ca t.ks ks)] [D6 t] ⟨rfl,rfl⟩
abbrev LM:AV:=.agg [iA 0,.prim (.slice none 0 0)]
theorem D9{t:Tab}{n:Int}{i:Nat}(h:i<(Aa t n).length)(h1:i<t.ks.length)(h2:i<t.cs.length):(Aa t n)[i]=⟨t.ks[i],(Cx t.cs[i].2 n).getD []⟩:=by simp[Aa]
theorem Om(t:Tab)(n:Int)(ht:TabOK t)(hn:I64 n)(hk:n∈AJ t.es):Spec Tryz.prog 75 [.ptr t.X 0 0,iA n] (Ec t) λr S'=>r= .lst true 42 2 ((Aa t n).map (AG false))/\S'=Ec t:=by
 have hkm:(t.ks.map iA).length=t.ks.length:=AB _;have hcm:(t.cs.map λc=>AV.ptr c.1.X 0 0).length=t.cs.length:=AB _;have hlen:=ht.len;have h16:=ht.ks;have htl:(Aa t n).length=t.ks.length:=by unfold Aa;rw[AB,List.length_zip];omega
 refine Sp (nt:=46) (res:=[.tmp 4]) Tryz.func75 λSf=>?_
 refine R1 ?_;refine JD ?_;(iterate 5 refine WO ?_);refine Dt ?_;refine Fm (AV.agg [iA 0,.prim (.slice none 0 0)]) λK=>?_;refine JB ?_
 rw[hkm,<-htl,<-K7 (AG false)];refine JL ?_;refine Az (λ(i:Nat)=>⟨[(0,.ptr t.X 0 0),(1,iA n),(5,.sl K 0 (Aa t n).length),(19,AM false t.ks),(20,iA (t.ks.map iA).length),(21,iA i)],(K,.row 42 2 (Eb (AG false) LM (Aa t n) i))::(Ec t++Sf)⟩) (λi=>i<=t.ks.length) (λi=>t.ks.length-i) 0 (by omega) ?_;rintro i hi;have hfl:=Mb (AG false) LM (Aa t n) (i:=i) (by omega);refine JN ?_;refine AWP.cond rfl (λh=>?_) (λh=>?_)
 ·have h:i<t.ks.length:=by rw[AE,hkm]at h;omega
  have hc:i<t.cs.length:=by omega
  have hat:(t.ks.map iA)[i]?=some (iA t.ks[i]):=BF _ h;have hil:i<(t.ks.map iA).length:=by omega
  have hti:i<(Aa t n).length:=by omega
  have hfa:=Of (AG false) LM (Aa t n) hti;have hfs:=Ma (AG false) LM (Aa t n) hti;have hcat:(t.cs.map λc=>AV.ptr c.1.X 0 0)[i]?=some (.ptr t.cs[i].1.X 0 0):=BF _ hc;have hcil:i<(t.cs.map λc=>AV.ptr c.1.X 0 0).length:=by omega
  have hcm:=AU hc;obtain⟨v,hv⟩:=Ew ((ht.keys _ hcm n).2 hk)
  have hel:(Aa t n)[i]=⟨t.ks[i],v⟩:=by
   rw[D9 hti h hc,hv];rfl
  rw[hel]at hfs;have hget:=Tg t.cs[i].1 t.cs[i].2 (ht.cs _ hcm) n hn v hv;obtain⟨l1,l2,hsp,hl1⟩:=FZ hc;obtain⟨c,hce⟩:=nm (t.cs[i]);rw[hce]at hget hsp hcat;obtain⟨k,hke⟩:=nm (t.ks[i]);rw[hke]at hat hfs
  have heq:(K,AO.row 42 2 (Eb (AG false) LM (Aa t n) i))::(Ec t++Sf)=((K,AO.row 42 2 (Eb (AG false) LM (Aa t n) i))::D6 t::(stE t.ek t.es++Bh l1))++(stS c.1 c.2++(Bh l2++Sf)):=by
   have e1:Bh t.cs=Bh l1++(stS c.1 c.2++Bh l2):=by
    conv=>lhs;rw[hsp]
    rw[DP,DG]
   rw[Ec,e1];simp only[BJ,AT]
  refine JC ?_;refine JD ?_;(iterate 8 refine WO ?_);refine AOps.gN ?_;refine EM _ (h:=hget) (k:=?_) (hp:=heq);refine JE ?_;rw[<-heq];refine JD ?_;(iterate 5 refine WO ?_);refine AOps.gN ?_;refine AOps.go (h:=W.idx rfl rfl (by exact At.f) rfl (by omega) (Nat.zero_add _)) (k:=?_);refine JB ?_;refine Mu K hfs ?_;refine JC ?_;exact Ab (i+1) (by omega)
 ·have h:i=t.ks.length:=by rw[AN,hkm]at h;omega
  subst h;have hfa:Eb (AG false) LM (Aa t n) t.ks.length=(Aa t n).map (AG false):=by rw[<-htl];exact Mc _ _ _
  rw[hfa];refine JK ?_;exact⟨[.sl K 0 (Aa t n).length],[.lst true 42 2 ((Aa t n).map (AG false))],_,Ec t,.cons (.tmp rfl) rfl .nil,.cons (.cell (.sl (p:=0) .here (by simp))) .nil,by exact Sub.f,rfl,rfl⟩
theorem cmpI_eqz{x y:Int}:Cp x y=0↔x=y:=by unfold Cp;split<;>(try split)<;>omega
theorem cmpI_ltz{x y:Int}:Cp x y<0↔x<y:=by unfold Cp;split<;>(try split)<;>omega
theorem cmpL_zero:∀{a b:List Int},Ca a b=0↔a=b
 |[],[]=>by simp[Ca]
 |[],_::_=>by simp[Ca]
 |_::_,[]=>by simp[Ca]
 |x::a,y::b=>by
  rw[Ca,List.cons.injEq];by_cases h:Cp x y=0
  ·rw[if_neg (by simp[h]),cmpL_zero,cmpI_eqz.1 h];simp
  ·rw[if_pos h]
   exact⟨λe=>absurd e h,λe=>absurd (cmpI_eqz.2 e.1) h⟩
theorem Hj:∀{a b c:List Int},Ca a b<0->Ca b c<0->Ca a c<0
 |[],[],_,h,_=>by simp[Ca]at h
 |[],_::_,[],_,h=>by simp[Ca]at h
 |[],_::_,_::_,_,_=>by simp[Ca]
 |_::_,[],_,h,_=>by simp[Ca]at h
 |_::_,_::_,[],_,h=>by simp[Ca]at h
 |x::a,y::b,z::c,h1,h2=>by
  rw[Ca]at h1 h2⊢;by_cases e1:Cp x y=0
  ·have e1':=cmpI_eqz.1 e1
   subst e1';rw[if_neg (by simp[e1])]at h1;by_cases e2:Cp x z=0
   ·rw[if_neg (by simp[e2])]at h2⊢
    exact Hj h1 h2
   ·rw[if_pos e2]at h2⊢
    exact h2
  ·rw[if_pos e1]at h1
   have l1:=cmpI_ltz.1 h1;by_cases e2:Cp y z=0
   ·have e2':=cmpI_eqz.1 e2
    subst e2';rw[if_pos e1];exact h1
   ·rw[if_pos e2]at h2
    have l2:=cmpI_ltz.1 h2;have l3:Cp x z<0:=cmpI_ltz.2 (by omega);rw[if_pos (by omega)];exact l3
theorem Mh:∀{a b:List Int},¬Ca a b<0->a≠b->Ca b a<0
 |[],[],_,h=>absurd rfl h
 |[],_::_,h,_=>absurd (by simp[Ca]) h
 |_::_,[],_,_=>by simp[Ca]
 |x::a,y::b,h,hne=>by
  rw[Ca]at h⊢;by_cases e:Cp x y=0
  ·have e':=cmpI_eqz.1 e
   subst e';rw[if_neg (by simp[e])]at h⊢;exact Mh h λe2=>hne (by rw[e2])
  ·rw[if_pos e]at h
   have hxy:x≠y:=λe2=>e (cmpI_eqz.2 e2)
   have:¬x<y:=λl=>h (cmpI_ltz.2 l)
   have l:Cp y x<0:=cmpI_ltz.2 (by omega);rw[if_pos (by omega)];exact l
structure Ar where
 A:Nat
 G:Nat
 Tb:Nat
 O:Nat
 Tv:Nat
 K:AV->Value->Prop
 g:Int->Option Value
 c:Nat
 kinds:List Kind
 gens:List Int
 ts:List Tab
def BM(ts:List Tab):List AC:=ts.flatMap Ec
abbrev arH(a:Ar):List AC:=[(a.A,.row 143 4 [.agg [Ag false false a.kinds,.sl a.G 0 a.gens.length,.sl a.Tb 0 a.ts.length,.mp a.O]]),(a.G,.row 3 1 (a.gens.map iA)),(a.O,.ob (MapF Tryz.prog 3 145 a.g a.c)),(a.Tv,.tv a.K),(a.Tb,.row 145 1 (ptrs Tab.X a.ts))]
abbrev arS(a:Ar):List AC:=arH a++BM a.ts
theorem Gi(a b:List Tab):BM (a++b)=BM a++BM b:=List.flatMap_append
theorem PG(t:Tab)(b:List Tab):BM (t::b)=Ec t++BM b:=List.flatMap_cons
theorem DJ{l1 l2:List Tab}{t:Tab}(R:List AC):(BM (l1++t::l2)++R).Perm (Ec t++(BM l1++(BM l2++R))):=by
 rw[Gi,PG,AT,AT];exact B7 _ _ _
abbrev BQ(ts:List Tab):List Int:=ts.flatMap λt=>AJ t.es
def B5(t:Tab):List Item:=t.es.map λe=>⟨e.2,Aa t e.1⟩
def Aw(ts:List Tab):List Item:=ts.flatMap B5
structure ArOK(a:Ar):Prop where
 tab:∀t∈a.ts,TabOK t
 ord:a.ts.Pairwise λt u=>Ca t.ks u.ks<0
 keys:(BQ a.ts).Nodup
 ent:∀t∈a.ts,∀e∈t.es,e.1=e.2.n
 g:∀n u,a.g n=some u->∃t∈a.ts,n∈AJ t.es/\a.K (.ptr t.X 0 0) u/\∃b:Nat,u= .pointer (some ⟨b,0,none⟩)
 gn:∀n∈BQ a.ts,(a.g n).isSome=true
 cnt:a.c=(BQ a.ts).length
theorem ArOK.lt{a:Ar}(h:ArOK a):∀n∈BQ a.ts,0<=n/\n<256:=λn hn=>by
 obtain⟨t,ht,hm⟩:=List.mem_flatMap.1 hn;exact(h.tab t ht).es.lt n hm
theorem ArOK.c_le{a:Ar}(h:ArOK a):a.c<=256:=by rw[h.cnt];exact OE h.keys h.lt
def Ek(ts:List Tab):Prop:=∀t∈ts,t.es≠[]
theorem ArOK.ts_le{a:Ar}(h:ArOK a)(hne:Ek a.ts):a.ts.length<=256:=by
 refine Nat.le_trans ?_ h.c_le;rw[h.cnt,BQ,List.length_flatMap]
 have:∀ts:List Tab,(∀t∈ts,t.es≠[])->ts.length<=(ts.map λt=>(AJ t.es).length).sum:=by
  intro ts
  induction ts with
  |nil=>intro _;simp
  |cons t ts ih=>
   intro hh;have h1:=ih λt ht=>hh t (by simp[ht])
   have h2:0<(AJ t.es).length:=by rw[AB];exact List.length_pos_iff.2 (hh t (by simp))
   simp only[Bs,List.map_cons,List.sum_cons];omega
 exact this a.ts hne
theorem ArOK.mono{a:Ar}(h:ArOK a)(ks:List Int):JW (λt:Tab=>Ca t.ks ks) a.ts:=by
 intro i j x y hij hx hy hg;rcases Nat.lt_or_eq_of_le hij with hlt|rfl
 ·obtain⟨hi,rfl⟩:=List.getElem?_eq_some_iff.1 hx
  obtain⟨hj,rfl⟩:=List.getElem?_eq_some_iff.1 hy;exact Hj (List.pairwise_iff_getElem.1 h.ord i j hi hj hlt) hg
 ·rw[hx]at hy
  injection hy with hy
  subst hy;exact hg
theorem Uu{ts:List Tab}{t:Tab}{ks:List Int}{i:Nat}(h:ts.Pairwise λt u=>Ca t.ks u.ks<0)(hm:JW (λt:Tab=>Ca t.ks ks) ts)(hf:Found (λt:Tab=>Ca t.ks ks) ts (i,false))(ht:t.ks=ks):(ts.take i++t::ts.drop i).Pairwise λt u=>Ca t.ks u.ks<0:=by
 obtain⟨hlo,hhi⟩:=hf.mono hm;have heq:=hf.eq;dsimp only at hlo hhi heq
 have h1:∀x∈ts.take i,Ca x.ks ks<0:=λx hx=>by
  obtain⟨j,hj,rfl⟩:=List.mem_take_iff_getElem.1 hx;exact hlo j _ (by omega) (AI (by omega))
 have h2:∀x∈ts.drop i,Ca ks x.ks<0:=λx hx=>by
  obtain⟨j,hj,rfl⟩:=List.mem_iff_getElem.1 hx;rw[Bi]at hj;rw[List.getElem_drop];have hg:ts[i+j]?=some ts[i+j]:=AI (by omega);have hn:=hhi (i+j) _ (by omega) hg;refine Mh hn λe=>?_
  cases j with
  |zero=>
   have:(false:Bool)=true:=heq.2 ⟨ts[i],AI (by omega),cmpL_zero.2 e⟩;cases this
  |succ j=>
   have hi':ts[i]?=some ts[i]:=AI (by omega);have h3:=List.pairwise_iff_getElem.1 h i (i+(j+1)) (by omega) (by omega) (by omega);rw[e]at h3;exact hhi i _ (Nat.le_refl _) hi' h3
 rw[List.pairwise_append];refine⟨h.sublist (List.take_sublist _ _),List.pairwise_cons.2 ⟨λx hx=>by rw[ht];exact h2 x hx,h.sublist (List.drop_sublist _ _)⟩,λx hx y hy=>?_⟩;rcases List.mem_cons.1 hy with rfl|hy
 ·rw[ht];exact h1 x hx
 ·exact Hj (h1 x hx) (h2 y hy)
theorem CR(a b:List Tab):BQ (a++b)=BQ a++BQ b:=List.flatMap_append
theorem Ch(t:Tab)(b:List Tab):BQ (t::b)=AJ t.es++BQ b:=List.flatMap_cons
theorem B4(a b:List Tab):Aw (a++b)=Aw a++Aw b:=List.flatMap_append
theorem CE(t:Tab)(b:List Tab):Aw (t::b)=B5 t++Aw b:=List.flatMap_cons
theorem ArOK.newT{a:Ar}(h:ArOK a){t:Tab}{i Y:Nat}(ht:TabOK t)(he:t.es=[])(hf:Found (λu:Tab=>Ca u.ks t.ks) a.ts (i,false)):ArOK {a with Tb:=Y,ts:=a.ts.take i++t::a.ts.drop i}:=by
 have hk:BQ (a.ts.take i++t::a.ts.drop i)=BQ a.ts:=by
  rw[CR,Ch,he]
  conv=>rhs;rw[<-List.take_append_drop i a.ts,CR]
  rfl
 have hm:∀u,u∈a.ts.take i++t::a.ts.drop i↔u=t\/u∈a.ts:=λu=>by
  conv=>rhs;rw[<-List.take_append_drop i a.ts]
  simp only[CY,BR];constructor
  ·rintro(h|h|h)
   ·exact .inr (.inl h)
   ·exact .inl h
   ·exact .inr (.inr h)
  ·rintro(h|h|h)
   ·exact .inr (.inl h)
   ·exact .inl h
   ·exact .inr (.inr h)
 refine⟨λu hu=>?_,Uu h.ord (h.mono _) hf rfl,by rw[hk];exact h.keys,λu hu=>?_,λn u hg=>?_,λn hn=>h.gn n (by rw[hk]at hn;exact hn),by rw[hk];exact h.cnt⟩
 ·rcases(hm u).1 hu with rfl|hu
  ·exact ht
  ·exact h.tab u hu
 ·rcases(hm u).1 hu with rfl|hu
  ·rw[he];intro e he;cases he
  ·exact h.ent u hu
 ·obtain⟨w,hw,h2⟩:=h.g n u hg
  exact⟨w,(hm w).2 (.inr hw),h2⟩
theorem Py{ts:List Tab}{t:Tab}{i:Nat}(he:t.es=[]):Aw (ts.take i++t::ts.drop i)=Aw ts:=by
 rw[B4,CE,B5,he]
 conv=>rhs;rw[<-List.take_append_drop i ts,B4]
 rfl
theorem Ry{ts:List Tab}{t:Tab}{i:Nat}(he:t.es=[]):BQ (ts.take i++t::ts.drop i)=BQ ts:=by
 rw[CR,Ch,he]
 conv=>rhs;rw[<-List.take_append_drop i ts,CR]
 rfl
structure CsUp(n:Int)(l:List Comp)(i:Nat)(cs cs':List (StK×List (Int×List Int))):Prop where
 len:cs'.length=cs.length
 X:∀j (h:j<cs.length) (h':j<cs'.length),cs'[j].1.X=cs[j].1.X
 c:∀j (h:j<cs.length) (h':j<cs'.length),cs'[j].2=if j<i then Bn cs[j].2 n ((l[j]?.map (·.vals)).getD [])else cs[j].2
theorem CsUp.zero(n:Int)(l:List Comp)(cs:List (StK×List (Int×List Int))):CsUp n l 0 cs cs:=⟨rfl,λ_ _ _=>rfl,λj h h'=>by rw[if_neg (by omega)]⟩
theorem CsUp.ptrs{n:Int}{l:List Comp}{i:Nat}{cs cs':List (StK×List (Int×List Int))}(h:CsUp n l i cs cs'):cs'.map (λc=>AV.ptr c.1.X 0 0)=cs.map (λc=>AV.ptr c.1.X 0 0):=by
 refine List.ext_getElem (by simp[h.len]) λj h1 h2=>?_
 rw[List.getElem_map,List.getElem_map,h.X j (by simpa using h2) (by simpa using h1)]
theorem CsUp.next{n:Int}{l:List Comp}{i:Nat}{cs cs':List (StK×List (Int×List Int))}(h:CsUp n l i cs cs'){l1 l2:List (StK×List (Int×List Int))}{c:StK×List (Int×List Int)}{v:List Int}(e:cs'=l1++c::l2)(h1:l1.length=i)(hv:l[i]?.map (·.vals)=some v)(k:StK)(hk:k.X=c.1.X):CsUp n l (i+1) cs (l1++(k,Bn c.2 n v)::l2):=by
 have hlen:=h.len;have hl:cs'.length=l1.length+(l2.length+1):=by rw[e];simp
 have hi':i<cs'.length:=by omega
 have hc:cs'[i]=c:=by
  have:cs'[i]?=some c:=by rw[e,List.getElem?_append_right (by omega),h1,Nat.sub_self];rfl
  rw[AI hi']at this;injection this
 have hold:∀j (hj:j<cs'.length),j≠i->(l1++(k,Bn c.2 n v)::l2)[j]'(by simp;omega)=cs'[j]:=λj hj hne=>by
  have h3:(l1++(k,Bn c.2 n v)::l2)[j]?=cs'[j]?:=by
   rw[e];by_cases hji:j<i
   ·rw[List.getElem?_append_left (by omega),List.getElem?_append_left (by omega)]
   ·rw[List.getElem?_append_right (by omega),List.getElem?_append_right (by omega),show j-l1.length=(j-i-1)+1 by omega]
    rfl
  rw[AI hj,AI (by simp;omega)]at h3;injection h3
 have hnew:(l1++(k,Bn c.2 n v)::l2)[i]'(by simp;omega)=(k,Bn c.2 n v):=by
  have h3:(l1++(k,Bn c.2 n v)::l2)[i]?=some (k,Bn c.2 n v):=by rw[List.getElem?_append_right (by omega),h1,Nat.sub_self];rfl
  rw[AI (by simp;omega)]at h3;injection h3
 refine⟨by simp;omega,λj hj hj'=>?_,λj hj hj'=>?_⟩
 ·by_cases hne:j=i
  ·subst hne
   rw[hnew,hk,<-hc];exact h.X j hj hi'
  ·rw[hold j (by omega) hne]
   exact h.X j hj (by omega)
 ·by_cases hne:j=i
  ·subst hne
   have:=h.c j hj hi';rw[if_neg (by omega),hc]at this;rw[hnew,if_pos (by omega),hv,this];rfl
  ·rw[hold j (by omega) hne,h.c j hj (by omega)]
   by_cases hji:j<i
   ·rw[if_pos hji,if_pos (by omega)]
   ·rw[if_neg hji,if_neg (by omega)]
section
section
variable {t:Tab}{e:Ent}{l:List Comp}{cs:List (StK×List (Int×List Int))}{k:StK}
abbrev upT(t:Tab)(k:StK)(e:Ent)(cs:List (StK×List (Int×List Int))):Tab:=⟨t.X,t.ks,k,Bn t.es e.n e,cs⟩
theorem CsUp.at{n:Int}{l:List Comp}{i:Nat}{cs cs':List (StK×List (Int×List Int))}(h:CsUp n l i cs cs'){c:StK×List (Int×List Int)}(hc:c∈cs'):∃j,∃h1:j<cs.length,∃h2:j<cs'.length,cs'[j]=c:=by
 obtain⟨j,hj,rfl⟩:=List.getElem_of_mem hc;exact⟨j,by rw[<-h.len];exact hj,hj,rfl⟩
theorem TabOK.up(h:TabOK t)(hn:0<=e.n/\e.n<256)(hf:e.n∉AJ t.es)(hu:CsUp e.n l t.cs.length t.cs cs):TabOK (upT t k e cs):=by
 refine⟨by rw[hu.len];exact h.len,h.ks,h.es.put hn e,λc hc=>?_,λc hc n=>?_⟩
 ·obtain⟨j,h1,h2,rfl⟩:=hu.at hc
  rw[hu.c j h1 h2,if_pos h1];exact(h.cs _ (AU h1)).put hn _
 ·obtain⟨j,h1,h2,rfl⟩:=hu.at hc
  have hk:=h.keys _ (AU h1);have hfc:e.n∉AJ t.cs[j].2:=λhm=>hf ((hk _).1 hm)
  rw[hu.c j h1 h2,if_pos h1];show n∈AJ (Bn _ _ _)↔n∈AJ (Bn t.es e.n e)
  rw[Cz hfc,Cz hf,AJ,AJ,List.map_append,List.map_append,CY,CY];exact or_congr (hk n) (by simp)
theorem PJ(h:TabOK t)(hn:0<=e.n/\e.n<256)(hu:CsUp e.n l t.cs.length t.cs cs){n:Int}(hne:n≠e.n):Aa (upT t k e cs) n=Aa t n:=by
 have hlen:=h.len;have hl:=hu.len;refine List.ext_getElem (by simp[Aa];omega) λi h1 h2=>?_
 have hc:i<t.cs.length:=by simp[Aa]at h2;omega
 have hk:i<t.ks.length:=by omega
 rw[D9 h2 hk hc,D9 (t:=upT t k e cs) h1 hk (by show i<cs.length;omega)];show(⟨_,(Cx (cs[i]'(by omega)).2 n).getD []⟩:Comp)=_
 rw[hu.c i hc (by omega),if_pos hc,Gk (h.cs _ (AU hc)) hn,if_neg hne]
theorem PK(h:TabOK t)(hn:0<=e.n/\e.n<256)(hks:t.ks=l.map (·.kind))(hu:CsUp e.n l t.cs.length t.cs cs):Aa (upT t k e cs) e.n=l:=by
 have hlen:=h.len;have hl:=hu.len;have hkl:t.ks.length=l.length:=by rw[hks,AB]
 refine List.ext_getElem (by simp[Aa];omega) λi h1 h2=>?_
 have hc:i<t.cs.length:=by omega
 have hk:i<t.ks.length:=by omega
 rw[D9 (t:=upT t k e cs) h1 hk (by show i<cs.length;omega)];show(⟨t.ks[i],(Cx (cs[i]'(by omega)).2 e.n).getD []⟩:Comp)=_
 rw[hu.c i hc (by omega),if_pos hc,Gk (h.cs _ (AU hc)) hn,if_pos rfl,AI h2];have:t.ks[i]=l[i].kind:=by simp[hks]
 rw[this];rfl
theorem RX(h:TabOK t)(hn:0<=e.n/\e.n<256)(hf:e.n∉AJ t.es)(hks:t.ks=l.map (·.kind))(hu:CsUp e.n l t.cs.length t.cs cs):B5 (upT t k e cs)=B5 t++[⟨e,l⟩]:=by
 unfold B5;show(Bn t.es e.n e).map _=_
 rw[Cz hf,List.map_append,List.map_cons,List.map_nil,PK h hn hks hu]
 congr 1
 refine List.map_congr_left λp hp=>?_
 rw[PJ h hn hu];intro e2;exact hf (by rw[<-e2];exact List.mem_map.2 ⟨p,hp,rfl⟩)
end
theorem ArOK.up{a:Ar}{l1 l2:List Tab}{t:Tab}{e:Ent}{l:List Comp}{cs:List (StK×List (Int×List Int))}{k:StK}{K':AV->Value->Prop}{b:Nat}(h:ArOK a)(hts:a.ts=l1++t::l2)(hn:0<=e.n/\e.n<256)(hf:e.n∉BQ a.ts)(hu:CsUp e.n l t.cs.length t.cs cs)(hK:∀v u,a.K v u->K' v u)(hKt:K' (.ptr t.X 0 0) (.pointer (some ⟨b,0,none⟩))):
  ArOK {a with ts:=l1++upT t k e cs::l2,K:=K',g:=EN a.g e.n (.pointer (some ⟨b,0,none⟩)),c:=a.c+1}:=by
 have htm:t∈a.ts:=by rw[hts];simp
 have hft:e.n∉AJ t.es:=λhm=>hf (List.mem_flatMap.2 ⟨t,htm,hm⟩)
 have hmem:∀u,u∈l1++upT t k e cs::l2->u=upT t k e cs\/u∈a.ts:=λu hu=>by
  rw[hts];rcases List.mem_append.1 hu with hu|hu
  ·exact .inr (by simp[hu])
  ·rcases List.mem_cons.1 hu with hu|hu
   ·exact .inl hu
   ·exact .inr (by simp[hu])
 have hke:AJ (Bn t.es e.n e)=AJ t.es++[e.n]:=by rw[Cz hft,AJ,List.map_append];rfl
 have hkeys:(BQ (l1++upT t k e cs::l2)).Perm (e.n::BQ a.ts):=by
  rw[hts,CR,Ch,CR,Ch];show(BQ l1++(AJ (Bn t.es e.n e)++BQ l2)).Perm _
  rw[hke,AT]
  have:(BQ l1++(AJ t.es++([e.n]++BQ l2))).Perm ([e.n]++(BQ l1++(AJ t.es++BQ l2))):=by
   refine((B7 (AJ t.es) [e.n] (BQ l2)).append_left (BQ l1)).trans ?_;exact B7 _ _ _
  exact this
 refine⟨λu hu'=>?_,?_,hkeys.nodup_iff.2 (List.nodup_cons.2 ⟨hf,h.keys⟩),λu hu'=>?_,λn u hg=>?_,λn hn'=>?_,?_⟩
 ·rcases hmem u hu' with rfl|hu'
  ·exact(h.tab t htm).up hn hft hu
  ·exact h.tab u hu'
 ·have ho:=h.ord
  rw[hts]at ho;rw[List.pairwise_append,List.pairwise_cons]at ho⊢
  exact⟨ho.1,⟨λx hx=>ho.2.1.1 x hx,ho.2.1.2⟩,λx hx y hy=>by
   rcases List.mem_cons.1 hy with rfl|hy
   ·exact ho.2.2 x hx t (by simp)
   ·exact ho.2.2 x hx y (by simp[hy])⟩
 ·rcases hmem u hu' with rfl|hu'
  ·intro p hp
   have hp:p∈Bn t.es e.n e:=hp;rw[Cz hft]at hp;rcases List.mem_append.1 hp with hp|hp
   ·exact h.ent t htm p hp
   ·rw[BO]at hp
    subst hp;rfl
  ·exact h.ent u hu'
 ·replace hg:(if n=e.n then some (Value.pointer (some ⟨b,0,none⟩))else a.g n)=some u:=hg
  split at hg
  ·rename_i e1
   subst e1;injection hg with hg
   subst hg;refine⟨upT t k e cs,by simp,?_,hKt,b,rfl⟩;show e.n∈AJ (Bn t.es e.n e)
   rw[hke];simp
  ·obtain⟨w,hw,h2,h3,h4⟩:=h.g n u hg
   rw[hts]at hw;rcases List.mem_append.1 hw with hw|hw
   ·exact⟨w,by simp[hw],h2,hK _ _ h3,h4⟩
   ·rcases List.mem_cons.1 hw with rfl|hw
    ·refine⟨upT w k e cs,by simp,?_,hK _ _ h3,h4⟩
     show n∈AJ (Bn w.es e.n e)
     rw[hke];simp[h2]
    ·exact⟨w,by simp[hw],h2,hK _ _ h3,h4⟩
 ·have hn':=hkeys.mem_iff.1 hn'
  show(EN a.g e.n _ n).isSome=true
  unfold EN;split
  ·rfl
  ·rename_i hne
   rcases List.mem_cons.1 hn' with e2|hn'
   ·exact absurd e2 hne
   ·exact h.gn n hn'
 ·show a.c+1=_
  rw[hkeys.length_eq,Bs,h.cnt]
theorem TU{l1 l2:List Tab}{t:Tab}{e:Ent}{l:List Comp}{cs:List (StK×List (Int×List Int))}{k:StK}(h:TabOK t)(hn:0<=e.n/\e.n<256)(hf:e.n∉AJ t.es)(hks:t.ks=l.map (·.kind))(hu:CsUp e.n l t.cs.length t.cs cs):(Aw (l1++upT t k e cs::l2)).Perm (⟨e,l⟩::Aw (l1++t::l2)):=by
 rw[B4,CE,B4,CE,RX h hn hf hks hu,AT]
 have:(Aw l1++(B5 t++([(⟨e,l⟩:Item)]++Aw l2))).Perm ([(⟨e,l⟩:Item)]++(Aw l1++(B5 t++Aw l2))):=by
  refine((B7 (B5 t) [(⟨e,l⟩:Item)] (Aw l2)).append_left (Aw l1)).trans ?_;exact B7 _ _ _
 exact this
theorem Wg{l1 l2:List Tab}{t:Tab}{e:Ent}{cs:List (StK×List (Int×List Int))}{k:StK}(h1:Ek l1)(h2:Ek l2)(hf:e.n∉AJ t.es):Ek (l1++upT t k e cs::l2):=λu hu=>by
 rcases List.mem_append.1 hu with hu|hu
 ·exact h1 u hu
 ·rcases List.mem_cons.1 hu with rfl|hu
  ·show Bn t.es e.n e≠[]
   rw[Cz hf];simp
  ·exact h2 u hu
end
section
section
variable {P:Program}{ro:Option Nat}{nt:Nat}{c:Code}{Q:Exit->St->Prop}{T:List (Nat×AV)}{S:List AC}
end
abbrev GH(n:Int)(c:StK×List (Int×List Int)):StK×List (Int×List Int):=(c.1,BW c.2 n)
abbrev Ds(t:Tab)(n:Int):Tab:=⟨t.X,t.ks,t.ek,BW t.es n,t.cs.map (GH n)⟩
theorem TabOK.down{t:Tab}(h:TabOK t)(n:Int):TabOK (Ds t n):=by
 refine⟨by rw[AB];exact h.len,h.ks,h.es.drop n,λc hc=>?_,λc hc m=>?_⟩
 ·obtain⟨d,hd,rfl⟩:=List.mem_map.1 hc
  exact(h.cs d hd).drop n
 ·obtain⟨d,hd,rfl⟩:=List.mem_map.1 hc
  show m∈AJ (BW d.2 n)↔m∈AJ (BW t.es n)
  rw[Dl (h.cs d hd),Dl h.es,h.keys d hd]
theorem I2{t:Tab}(h:TabOK t){n m:Int}(hne:m≠n):Aa (Ds t n) m=Aa t m:=by
 have hlen:=h.len;refine List.ext_getElem (by simp[Aa]) λi h1 h2=>?_
 have hc:i<t.cs.length:=by simp[Aa]at h2;omega
 have hk:i<t.ks.length:=by omega
 rw[D9 h2 hk hc,D9 (t:=Ds t n) h1 hk (by rw[AB];exact hc)];show(⟨_,(Cx ((t.cs.map (GH n))[i]'(by rw[AB];exact hc)).2 m).getD []⟩:Comp)=_
 rw[List.getElem_map];show(⟨_,(Cx (BW t.cs[i].2 n) m).getD []⟩:Comp)=_
 rw[PN (h.cs _ (AU hc)) hne]
theorem Ns{t:Tab}(h:TabOK t){n:Int}{e:Ent}(hm:(n,e)∈t.es):(B5 t).Perm (⟨e,Aa t n⟩::B5 (Ds t n)):=by
 have hp:=C9 h.es hm;have h1:=hp.map λp:Int×Ent=>(⟨p.2,Aa t p.1⟩:Item)
 refine h1.trans ?_;rw[List.map_cons];refine List.Perm.cons _ (List.Perm.of_eq ?_);show _=(BW t.es n).map λp=>(⟨p.2,Aa (Ds t n) p.1⟩:Item)
 refine List.map_congr_left λp hp'=>?_
 have hk:p.1∈AJ (BW t.es n):=List.mem_map.2 ⟨p,hp',rfl⟩;rw[I2 h ((Dl h.es).1 hk).2]
theorem ArOK.uniq{a:Ar}(h:ArOK a){t u:Tab}(ht:t∈a.ts)(hu:u∈a.ts){n:Int}(h1:n∈AJ t.es)(h2:n∈AJ u.es):t=u:=by
 obtain⟨l1,l2,e⟩:=List.append_of_mem ht;have hk:=h.keys;rw[e,CR,Ch]at hk;rw[e]at hu;rcases List.mem_append.1 hu with hu|hu
 ·have:n∈BQ l1:=List.mem_flatMap.2 ⟨u,hu,h2⟩
  exact absurd rfl ((List.nodup_append.1 hk).2.2 n this n (List.mem_append_left _ h1))
 ·rcases List.mem_cons.1 hu with rfl|hu
  ·rfl
  ·have:n∈BQ l2:=List.mem_flatMap.2 ⟨u,hu,h2⟩
   exact absurd rfl ((List.nodup_append.1 (List.nodup_append.1 hk).2.1).2.2 n h1 n this)
theorem SH{a:Ar}(h:ArOK a){l1 l2:List Tab}{t:Tab}(hts:a.ts=l1++t::l2){n:Int}{e:Ent}(hm:(n,e)∈t.es):(BQ a.ts).Perm (n::BQ (l1++Ds t n::l2)):=by
 have hto:=h.tab t (by rw[hts];simp);have hp:=(C9 hto.es hm).map (·.1);rw[hts,CR,Ch,CR,Ch];have h1:(BQ l1++(AJ t.es++BQ l2)).Perm (BQ l1++((n::AJ (BW t.es n))++BQ l2)):=(hp.append_right _).append_left _;exact h1.trans (B7 (BQ l1) [n] (AJ (BW t.es n)++BQ l2))
theorem ArOK.down{a:Ar}(h:ArOK a){l1 l2:List Tab}{t:Tab}(hts:a.ts=l1++t::l2){n:Int}{e:Ent}(hm:(n,e)∈t.es):ArOK {a with ts:=l1++Ds t n::l2,g:=Fj a.g n,c:=a.c-1}:=by
 have htm:t∈a.ts:=by rw[hts];simp
 have hto:=h.tab t htm;have hkp:=SH h hts hm
 have hmem:∀u,u∈l1++Ds t n::l2->u=Ds t n\/u∈a.ts:=λu hu=>by
  rw[hts];rcases List.mem_append.1 hu with hu|hu
  ·exact .inr (by simp[hu])
  ·rcases List.mem_cons.1 hu with hu|hu
   ·exact .inl hu
   ·exact .inr (by simp[hu])
 have hnd:=hkp.nodup_iff.1 h.keys;have hnk:n∈AJ t.es:=List.mem_map.2 ⟨_,hm,rfl⟩;refine⟨λu hu=>?_,?_,(List.nodup_cons.1 hnd).2,λu hu=>?_,λm u hg=>?_,λm hm'=>?_,?_⟩
 ·rcases hmem u hu with rfl|hu
  ·exact hto.down n
  ·exact h.tab u hu
 ·have ho:=h.ord
  rw[hts]at ho;rw[List.pairwise_append,List.pairwise_cons]at ho⊢
  exact⟨ho.1,⟨λx hx=>ho.2.1.1 x hx,ho.2.1.2⟩,λx hx y hy=>by
   rcases List.mem_cons.1 hy with rfl|hy
   ·exact ho.2.2 x hx t (by simp)
   ·exact ho.2.2 x hx y (by simp[hy])⟩
 ·rcases hmem u hu with rfl|hu
  ·intro p hp
   have:p∈t.es:=(C9 hto.es hm).mem_iff.2 (List.mem_cons_of_mem _ hp);exact h.ent t htm p this
  ·exact h.ent u hu
 ·replace hg:(if m=n then none else a.g m)=some u:=hg
  split at hg
  ·cases hg
  ·rename_i hne
   obtain⟨w,hw,h2,h3,h4⟩:=h.g m u hg;rw[hts]at hw;rcases List.mem_append.1 hw with hw|hw
   ·exact⟨w,by simp[hw],h2,h3,h4⟩
   ·rcases List.mem_cons.1 hw with rfl|hw
    ·refine⟨Ds w n,by simp,?_,h3,h4⟩
     exact(Dl hto.es).2 ⟨h2,hne⟩
    ·exact⟨w,by simp[hw],h2,h3,h4⟩
 ·have hm2:m∈BQ a.ts:=hkp.mem_iff.2 (List.mem_cons_of_mem _ hm')
  have hne:m≠n:=λe=>(List.nodup_cons.1 hnd).1 (by subst e;exact hm')
  show(Fj a.g n m).isSome=true
  unfold Fj;rw[if_neg hne];exact h.gn m hm2
 ·show a.c-1=(BQ (l1++Ds t n::l2)).length
  have:=hkp.length_eq;rw[Bs]at this;have:=h.cnt;omega
theorem ArOK.less{a:Ar}(h:ArOK a){l1 l2:List Tab}{t:Tab}{Y:Nat}(hts:a.ts=l1++t::l2)(he:t.es=[]):ArOK {a with Tb:=Y,ts:=l1++l2}:=by
 have hk:BQ a.ts=BQ (l1++l2):=by rw[hts,CR,Ch,he,CR];rfl
 have hmem:∀u,u∈l1++l2->u∈a.ts:=λu hu=>by
  rw[hts];rcases List.mem_append.1 hu with hu|hu<;>simp[hu]
 refine⟨λu hu=>h.tab u (hmem u hu),?_,by rw[<-hk];exact h.keys,λu hu=>h.ent u (hmem u hu),λm u hg=>?_,λm hm=>h.gn m (by rw[hk];exact hm),by rw[<-hk];exact h.cnt⟩
 ·have ho:=h.ord
  rw[hts]at ho;exact ho.sublist ((List.Sublist.refl l1).append (List.sublist_cons_self t l2))
 ·obtain⟨w,hw,h2,h3⟩:=h.g m u hg
  rw[hts]at hw;rcases List.mem_append.1 hw with hw|hw
  ·exact⟨w,by simp[hw],h2,h3⟩
  ·rcases List.mem_cons.1 hw with rfl|hw
   ·rw[he]at h2;cases h2
   ·exact⟨w,by simp[hw],h2,h3⟩
theorem Kl{a:Ar}(h:ArOK a){l1 l2:List Tab}{t:Tab}(hts:a.ts=l1++t::l2){n:Int}{e:Ent}(hm:(n,e)∈t.es):(Aw a.ts).Perm (⟨e,Aa t n⟩::Aw (l1++Ds t n::l2)):=by
 have hto:=h.tab t (by rw[hts];simp);rw[hts,B4,CE,B4,CE];refine(((Ns hto hm).append_right _).append_left _).trans ?_;exact B7 (Aw l1) [(⟨e,Aa t n⟩:Item)] (B5 (Ds t n)++Aw l2)
theorem Pz{l1 l2:List Tab}{t:Tab}(he:t.es=[]):Aw (l1++t::l2)=Aw (l1++l2):=by
 rw[B4,CE,B5,he,B4];rfl
end
end Go.Proofs.YtiidbamlcgbpnaaGreat
