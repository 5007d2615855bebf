/-
  Part 6 of the texts under the law TopLayers: the layer of abstract values, walks and plain laws. Conditions: those that each theorem names.
-/
import Derived.Test.YtiidbamlcgbpnaaGreatTopLayersP5
namespace Go.Proofs.YtiidbamlcgbpnaaGreat
set_option linter.unusedVariables false
set_option linter.unusedSimpArgs false
set_option linter.defProp false
set_option maxRecDepth 10000
set_option maxHeartbeats 4000000
theorem O2{cs:List Comp}{i:Nat}{k:Int}{c:Comp}(h:i<cs.length)(e:cs[i]=c):BH (cs.drop i) k=if c.kind=k then some c else BH (cs.drop (i+1)) k:=by
 rw[CD h,e];unfold BH;rw[List.find?_cons];by_cases e:c.kind=k<;>simp[e]
theorem U4(ks:List Kind)(s:Sys)(e:Ent)(cs:List Comp)(r:UInt64×UInt64)(K mk E me:Nat)(index k:Int)(hl:cs.length<=1099511627776):PS Tryz.prog 187 [.fp (Lf ks s e (Aw false false cs) r (.sl K 0 mk) (.sl E 0 me) index).cells,iA k] (AN false (GJ cs k)):=by
 have hcm:(cs.map (AH false)).length=cs.length:=AB _;obtain⟨res,hres⟩:=nm (BH cs k);unfold GJ;rw[hres];refine Sp (nt:=36) (res:=[.tmp 4]) Tryz.func187 λSf=>?_
 refine KK ?_;refine BJ (λi:Nat=>⟨[(0,.fp (Lf ks s e (Aw false false cs) r (.sl K 0 mk) (.sl E 0 me) index).cells),(1,iA k),(11,iA (cs.map (AH false)).length),(12,iA i)],Sf⟩) (λi=>i<=cs.length/\BH (cs.drop i) k=res) (λi=>cs.length-i) 0 ⟨Nat.zero_le _,hres⟩ ?_;rintro i ⟨hi,hr⟩;refine KK ?_;refine AWP.cond rfl (λhc=>?_) (λhc=>?_)
 ·have h:i<cs.length:=by rw[AF,hcm]at hc;omega
  obtain⟨⟨ck,cv⟩,hce⟩:=nm (cs[i]);rw[O2 h hce]at hr;dsimp only at hr;have hat:(cs.map (AH false))[i]?=some (AH false ⟨ck,cv⟩):=by rw[AG,AE h,hce];rfl
  have him:i<(cs.map (AH false)).length:=by omega
  refine KK ?_;by_cases e:ck=k
  ·rw[if_pos e]at hr
   subst hr;refine AM rfl (Ae e) ?_;refine JA ?_;refine AI ?_;rfl
  ·rw[if_neg e]at hr
   refine AA rfl (AY e) ?_;refine KK ?_;refine Af (i+1) ⟨h,hr⟩
 ·have h:i=cs.length:=by rw[AQ,hcm]at hc;omega
  rw[h,List.drop_length]at hr;have hr:res=none:=hr.symm;subst hr;refine JA ?_;exact Br [.prim (.slice none 0 0)] [AN false []] (.cons (.cell .nil) .nil)
def Ws(cs:List Comp)(a:Arg):Prop:=a.has=true->0<=a.ref.field/\a.ref.field<(GJ cs a.ref.kind).length
theorem UY(ks:List Kind)(s:Sys)(e:Ent)(cs:List Comp)(r:UInt64×UInt64)(K mk E me:Nat)(index:Int)(a:Arg)(hl:cs.length<=1099511627776)(ha:Ws cs a):PS Tryz.prog 183 [.fp (Lf ks s e (Aw false false cs) r (.sl K 0 mk) (.sl E 0 me) index).cells,By a] (iA (Gb cs a)):=by
 obtain⟨ah,an,⟨rk,rf⟩⟩:=a;unfold Gb;refine Sp (nt:=19) (res:=[.tmp 4]) Tryz.func183 λSf=>?_
 cases ah
 ·refine WK ?_;refine WK ?_;refine AOps.g_box ?_;refine Aj ?_;refine KK ?_
  refine AA rfl rfl ?_;refine JA ?_;refine AI ?_;rfl
 ·obtain⟨h1,h2⟩:=ha rfl
  dsimp only at h1 h2;have hv:=U4 ks s e cs r K mk E me index rk hl;obtain⟨l,hle⟩:=nm (GJ cs rk);rw[hle]at hv h2;obtain⟨j,hj⟩:∃j:Nat,rf=j:=⟨rf.toNat,by omega⟩;subst hj;have hjl:j<l.length:=by omega
  have hat:(l.map iA)[j]?=some (iA l[j]):=by rw[AG,AE hjl];rfl
  have hlm:j<(l.map iA).length:=by rw[AB];exact hjl
  refine WK ?_;refine WK ?_;refine AOps.g_box ?_;refine Aj ?_;refine KK ?_;refine AM rfl rfl ?_;refine RU ?_;(iterate 4 refine RK ?_);refine RGo.gN ?_;refine RGo.c2 (h:=hv) (k:=?_);(iterate 6 refine RK ?_);refine RGo.nil (by kernel_rfl) ?_;refine RT ?_;refine AI ?_;rw[if_pos rfl,hle,Int.toNat_natCast,Bp,AE hjl];rfl
def NG(cs:List Comp)(j V:Nat)(c:Comp):List AV:=(cs.map (AH true)).set j (.agg [iA c.kind,.sl V 0 (c.vals.map iA).length])
theorem TB(ks:List Kind)(s:Sys)(e:Ent)(cs:List Comp)(r:UInt64×UInt64)(K mk E me:Nat)(index:Int)(X C V j:Nat)(c:Comp)(hs:CT cs)(hj:cs[j]?=some c)(hl:cs.length<=1099511627776):
  Spec Tryz.prog 187 [.ptr X 0 0,iA c.kind] [(X,.row 185 16 [Lf ks s e (.sl C 0 cs.length) r (.sl K 0 mk) (.sl E 0 me) index]),(C,.row 42 2 (NG cs j V c))]
   λr' S'=>r'= .sl V 0 (c.vals.map iA).length/\S'=[(X,.row 185 16 [Lf ks s e (.sl C 0 cs.length) r (.sl K 0 mk) (.sl E 0 me) index]),(C,.row 42 2 (NG cs j V c))]:=by
 obtain⟨hjl,hje⟩:=List.getElem?_eq_some_iff.1 hj;have hrl:(NG cs j V c).length=cs.length:=by simp[NG]
 have hrj:(NG cs j V c)[j]?=some (.agg [iA c.kind,.sl V 0 (c.vals.map iA).length]):=List.getElem?_set_self (by simpa using hjl)
 have hri:∀i (h:i<j),(NG cs j V c)[i]?=some (AH true (cs[i]'(by omega))):=λi h=>by
  unfold NG;rw[List.getElem?_set_ne (by omega),AG,AE (by omega)];rfl
 have hne:∀i (h:i<j),(cs[i]'(by omega)).kind≠c.kind:=λi h=>by
  have:=List.pairwise_iff_getElem.1 hs i j (by omega) hjl h;rw[hje]at this;omega
 refine Sp (nt:=36) (res:=[.tmp 4]) Tryz.func187 λSf=>?_
 refine KK ?_;refine BJ (λi:Nat=>⟨[(0,.ptr X 0 0),(1,iA c.kind),(11,iA cs.length),(12,iA i)],(X,.row 185 16 [Lf ks s e (.sl C 0 cs.length) r (.sl K 0 mk) (.sl E 0 me) index])::(C,.row 42 2 (NG cs j V c))::Sf⟩) (λi=>i<=j) (λi=>j-i) 0 (Nat.zero_le _) ?_;rintro i hi;have hicl:i<cs.length:=by omega
 refine KK ?_;refine AM rfl (Ae (by omega)) ?_;by_cases e1:i=j
 ·subst e1
  have hat:=hrj;refine KK ?_;refine AM rfl (Ae rfl) ?_;refine JA ?_;exact Ends.sp [.sl V 0 (c.vals.map iA).length] [(X,_),(C,_)] ⟨rfl,rfl⟩
 ·have hij:i<j:=by omega
  have hat:=hri i hij;have hn:=hne i hij;obtain⟨⟨ck,cv⟩,hce⟩:=nm (cs[i]'(by omega));rw[hce]at hat hn;refine KK ?_;refine AA rfl (AY hn) ?_;refine KK ?_;refine Af (i+1) hij
abbrev J8(ks:List Kind)(s:Sys)(e:Ent)(C n:Nat)(r:UInt64×UInt64)(K mk E me:Nat)(index:Int):AO:=.row 185 16 [Lf ks s e (.sl C 0 n) r (.sl K 0 mk) (.sl E 0 me) index]
theorem TA(ks:List Kind)(s:Sys)(e:Ent)(C n:Nat)(r:UInt64×UInt64)(K mk E me:Nat)(index:Int)(X:Nat)(act a b:Int)(h0:0<=act)(h7:act<=7)(ha: -1099511627776<=a/\a<=1099511627776)(hb: -1099511627776<=b/\b<=1099511627776)(hr:r.2.toNat%2=1):
  PO Tryz.prog 186 [.ptr X 0 0,iA act,iA a,iA b] X (J8 ks s e C n r K mk E me index) (iA (Dv act a b r).1) (J8 ks s e C n (Dv act a b r).2 K mk E me index):=by
 have hm:=WY a b;refine Sp (nt:=63) (res:=[.tmp 8]) Tryz.func186 λSf=>?_
 rcases(show act=0\/act=1\/act=2\/act=3\/act=4\/act=5\/act=6\/act=7 by omega)with rfl|rfl|rfl|rfl|rfl|rfl|rfl|rfl
 ·refine KK ?_
  refine AA rfl rfl ?_;refine KK ?_;refine AA rfl rfl ?_;refine KK ?_;refine AA rfl rfl ?_;refine KK ?_;refine AA rfl rfl ?_;refine KK ?_;refine AA rfl rfl ?_;refine KK ?_;refine AA rfl rfl ?_;refine KK ?_;refine AA rfl rfl ?_;refine JA ?_;exact Ends.sp [iA a] [(X,_)] ⟨rfl,rfl⟩
 ·refine KK ?_
  refine AM rfl rfl ?_;refine JA ?_;exact Ends.sp [iA (a+b)] [(X,_)] ⟨rfl,rfl⟩
 ·refine KK ?_
  refine AA rfl rfl ?_;refine KK ?_;refine AM rfl rfl ?_
  (iterate 4 refine WK ?_);refine AOps.gN ?_;refine AOps.p (Ax (a-b) rfl (by omega) rfl rfl) rfl ?_;refine KK ?_
  refine RT ?_;exact Ends.sp [iA (a-b)] [(X,_)] ⟨rfl,rfl⟩
 ·refine KK ?_
  refine AA rfl rfl ?_;refine KK ?_;refine AA rfl rfl ?_;refine KK ?_;refine AM rfl rfl ?_;refine KK ?_;refine AOps.g_callf ?_;refine AOps.c2 (h:=(hm ..)) (k:=?_);refine JA ?_;exact Ends.sp [iA (R4 a b)] [(X,_)] ⟨rfl,rfl⟩
 ·refine KK ?_
  refine AA rfl rfl ?_;refine KK ?_;refine AA rfl rfl ?_;refine KK ?_;refine AA rfl rfl ?_;refine KK ?_;refine AM rfl rfl ?_;refine JA ?_;exact Ends.sp [iA (if b<a then b else a)] [(X,_)] ⟨rfl,rfl⟩
 ·refine KK ?_
  refine AA rfl rfl ?_;refine KK ?_;refine AA rfl rfl ?_;refine KK ?_;refine AA rfl rfl ?_;refine KK ?_;refine AA rfl rfl ?_;refine KK ?_;refine AM rfl rfl ?_;refine JA ?_;exact Ends.sp [iA (if a<b then b else a)] [(X,_)] ⟨rfl,rfl⟩
 ·refine KK ?_
  refine AA rfl rfl ?_;refine KK ?_;refine AA rfl rfl ?_;refine KK ?_;refine AA rfl rfl ?_;refine KK ?_;refine AA rfl rfl ?_;refine KK ?_;refine AA rfl rfl ?_;refine KK ?_;refine AM rfl rfl ?_;refine KK ?_;by_cases hab:a<b
  ·refine AM rfl (Ae hab) ?_
   refine JA ?_;exact Ends.sp [iA 1] [(X,_)] ⟨by unfold Dv;rw[if_neg (by decide),if_neg (by decide),if_neg (by decide),if_neg (by decide),if_neg (by decide),if_pos rfl,if_pos hab];rfl,by unfold Dv;rw[if_neg (by decide),if_neg (by decide),if_neg (by decide),if_neg (by decide),if_neg (by decide),if_pos rfl]⟩
  ·refine AA rfl (AY hab) ?_
   refine JA ?_;exact Ends.sp [iA 0] [(X,_)] ⟨by unfold Dv;rw[if_neg (by decide),if_neg (by decide),if_neg (by decide),if_neg (by decide),if_neg (by decide),if_pos rfl,if_neg hab];rfl,by unfold Dv;rw[if_neg (by decide),if_neg (by decide),if_neg (by decide),if_neg (by decide),if_neg (by decide),if_pos rfl]⟩
 ·refine KK ?_
  refine AA rfl rfl ?_;refine KK ?_;refine AA rfl rfl ?_;refine KK ?_;refine AA rfl rfl ?_;refine KK ?_;refine AA rfl rfl ?_;refine KK ?_;refine AA rfl rfl ?_;refine KK ?_;refine AA rfl rfl ?_;refine KK ?_;refine AM rfl rfl ?_;refine KK ?_
  have hv:Dv 7 a b r=if a<1 then(0,r)else(((EH r a.toNat).1.toNat:Int),(EH r a.toNat).2):=by
   unfold Dv;rw[if_neg (by decide),if_neg (by decide),if_neg (by decide),if_neg (by decide),if_neg (by decide),if_neg (by decide),if_pos rfl]
  rw[hv];by_cases hab:a<1
  ·rw[if_pos hab]
   refine AM rfl (Ae hab) ?_;refine JA ?_;exact Ends.sp [iA 0] [(X,_)] ⟨rfl,rfl⟩
  ·rw[if_neg hab]
   obtain⟨q,hq⟩:∃q:Nat,a=q:=⟨a.toNat,by omega⟩;subst hq;rw[Int.toNat_natCast];have hbl:=Sr r q (by omega) (by omega) hr;obtain⟨⟨x,r2⟩,hbe⟩:=nm (EH r q);rw[hbe]at hbl⊢;refine AA rfl (AY hab) ?_;refine JN ?_;refine AOps.g_callf ?_;refine AOps.c2 (h:=(hbl ..)) (k:=?_);refine KO ?_;refine Ai λB=>?_;refine JF ?_
   refine R1 ?_;refine JA ?_;exact Ends.sp [iA x.toNat] [(X,J8 ks s e C n r2 K mk E me index)] ⟨rfl,rfl⟩
theorem KG(w:World):(binOp .neq 191 (.agg [Value.int .i64 0,Value.int .i64 0].toArray) (.agg [Value.int .i64 0,Value.int .i64 0].toArray)).run Tryz.prog w= .ok (.bool false) w:=by kernel_rfl
theorem Mk(w:World):(binOp .neq 193 (.agg [Value.bool false,Value.int .i64 0,Value.int .i64 0,Value.int .i64 0].toArray) (.agg [Value.bool false,Value.int .i64 0,Value.int .i64 0,Value.int .i64 0].toArray)).run Tryz.prog w= .ok (.bool false) w:=by kernel_rfl
structure ArgG(ks:List Kind)(reads writes:List Int)(a:Arg):Prop where
 yes:a.has=true->a.n=0/\IG ks a.ref/\(reads.contains a.ref.kind=true\/writes.contains a.ref.kind=true)
 no:a.has=false-> -1099511627776<=a.n/\a.n<=1099511627776/\a.ref=⟨0,0⟩
structure OpG(ks:List Kind)(reads writes:List Int)(o:Op):Prop where
 lo:0<=o.act
 hi:o.act<=12
 a:ArgG ks reads writes o.a
 b:ArgG ks reads writes o.b
 one:G9 o.act=false->o.b=Fq
 sets:GO o.act=true->IG ks o.to/\writes.contains o.to.kind=true
 puts:o.act=8\/o.act=9->0<=o.to.kind/\o.to.kind<ks.length/\o.to.field=0
 none:10<=o.act->o.to=⟨0,0⟩
theorem GW{k:Kind}{v:List Int}(h:Bq k v=true):v.length=k.fields.length/\∀x∈v,-4294967296<=x/\x<=8589934592:=by
 obtain⟨_,h2,h3⟩:=Dq (k:=k) (v:=v) (by rw[Dp h]);rw[Dp h]at h2;refine⟨h3,λx hx=>?_⟩;have h2:v=List.zipWith BS k.fields v:=h2;rw[h2]at hx;obtain⟨i,hi,rfl⟩:=List.getElem_of_mem hx;rw[List.getElem_zipWith];exact NI _ _
def LX(s:Sys)(cs:List Comp):Prop:=∀k:Int,s.reads.contains k=true\/s.writes.contains k=true->(BH cs k).isSome=true
theorem KF{ks:List Kind}{s:Sys}{cs:List Comp}(hh:A7 ks cs=true)(hs:LX s cs){r:Ref}(hr:IG ks r)(hk:s.reads.contains r.kind=true\/s.writes.contains r.kind=true):
  ∃(c:Comp) (k:Kind),BH cs r.kind=some c/\c.kind=r.kind/\ks[r.kind.toNat]?=some k/\Bq k c.vals=true/\0<=r.field/\r.field<k.fields.length/\c.vals.length=k.fields.length:=by
 obtain⟨h1,h2,h3,h4⟩:=hr;obtain⟨c,hc⟩:=Option.isSome_iff_exists.1 (hs _ hk);obtain⟨hso,hm⟩:=held_iff.1 hh;obtain⟨hcm,hck⟩:=(Bw hso).1 hc;obtain⟨_,_,k,hkk,hho⟩:=hm c hcm;rw[hck]at hkk;unfold Lr at h4;rw[hkk]at h4;exact⟨c,k,hc,hck,hkk,hho,h3,h4,(GW hho).1⟩
theorem UZ{ks:List Kind}{s:Sys}{cs:List Comp}(hh:A7 ks cs=true)(hs:LX s cs){a:Arg}(ha:ArgG ks s.reads s.writes a):Ws cs a/\ -1099511627776<=Gb cs a/\Gb cs a<=1099511627776:=by
 unfold Ws Gb;cases hb:a.has
 ·obtain⟨h1,h2,h3⟩:=ha.no hb
  exact⟨(λh=>by cases h),h1,h2⟩
 ·obtain⟨h1,h2,h3⟩:=ha.yes hb
  obtain⟨c,k,e1,e2,e3,e4,e5,e6,e7⟩:=KF hh hs h2 h3;have hv:GJ cs a.ref.kind=c.vals:=by unfold GJ;rw[e1]
  rw[hv];refine⟨λ_=>⟨e5,by omega⟩,?_⟩;rw[if_pos rfl,Bp,AE (by omega)];have:=(GW e4).2 _ (AK (l:=c.vals) (n:=a.ref.field.toNat) (by omega));simp only[Option.getD_some];omega
theorem U0{fs:List Field}:∀{v:List Int} {i:Nat} {x:Int},List.zipWith BS fs v=v->(∀f,fs[i]?=some f->BS f x=x)->List.zipWith BS fs (v.set i x)=v.set i x:=by
 induction fs with
 |nil=>
  intro v i x h _;rw[List.zipWith_nil_left]at h;rw[<-h];rfl
 |cons f fs ih=>
  intro v i x h hx;cases v with
  |nil=>rfl
  |cons y v=>
   rw[List.zipWith_cons_cons]at h;injection h with h1 h2
   cases i with
   |zero=>rw[List.set_cons_zero,List.zipWith_cons_cons,hx f rfl,h2]
   |succ i=>rw[List.set_cons_succ,List.zipWith_cons_cons,h1,ih h2 hx]
theorem SM{k:Kind}{v:List Int}(h:Bq k v=true)(ho:BX k=0){i:Nat}{f:Field}(hf:k.fields[i]?=some f)(x:Int):Bq k (v.set i (BS f x))=true:=by
 obtain⟨h1,_⟩:=GW h;obtain⟨_,h2,_⟩:=Dq (k:=k) (v:=v) (by rw[Dp h]);rw[Dp h]at h2;have hfe:Aq f=0:=(Do ho).2.2 f (Ao hf);unfold Bq;rw[H6 ho (by simp[h1]),U0 h2.symm (λg hg=>by rw[hf]at hg;injection hg with hg;subst hg;exact MN hfe x)];simp
theorem Hu{cs:List Comp}(hs:CT cs){k:Int}{c:Comp}(hc:BH cs k=some c)(f:Nat)(v:Int):cs[Cf cs k]?=some c/\J5 cs k f v=cs.set (Cf cs k) ⟨c.kind,c.vals.set f v⟩:=by
 constructor
 ·obtain⟨hcm,hck⟩:=(Bw hs).1 hc
  obtain⟨i,hi,hie⟩:=List.getElem_of_mem hcm;have hat:cs[i]?=some c:=by rw[AE hi,hie]
  obtain⟨h1,h2,h3,h4,_⟩:=Ka (key:=Comp.kind) hs hat
  have:Cf cs k=i:=TE (Nat.le_of_lt hi) (λj x hj hx=>by
   have:=h3 x (by rw[List.mem_take_iff_getElem];obtain⟨a,b⟩:=List.getElem?_eq_some_iff.1 hx;exact⟨j,by omega,b⟩);simp;omega) (λx hx=>by rw[hat]at hx;injection hx with hx;subst hx;simp;omega)
  rw[this];exact hat
 ·unfold J5;rw[hc]
theorem Rs{ks:List Kind}{cs:List Comp}(hk:Ag ks=0)(hh:A7 ks cs=true){r:Ref}{c:Comp}{k:Kind}(hc:BH cs r.kind=some c)(hkk:ks[r.kind.toNat]?=some k)(h0:0<=r.field)(hf:r.field<k.fields.length)(x:Int):A7 ks (J5 cs r.kind r.field.toNat (BS (Ef ks r) x))=true:=by
 obtain⟨hso,hm⟩:=held_iff.1 hh;obtain⟨hcm,hck⟩:=(Bw hso).1 hc;obtain⟨e1,e2⟩:=Hu hso hc r.field.toNat (BS (Ef ks r) x);obtain⟨g1,g2⟩:=QB (key:=Comp.kind) hso e1 (z:=⟨c.kind,c.vals.set r.field.toNat (BS (Ef ks r) x)⟩) rfl;obtain⟨q1,q2,k',hk',hho⟩:=hm c hcm;have hkk':k'=k:=by rw[hck,hkk]at hk';injection hk' with hk';exact hk'.symm
 subst hkk';rw[e2];refine held_iff.2 ⟨g1,λd hd=>?_⟩;rcases(g2 d).1 hd with rfl|⟨hd,_⟩
 ·have hfe:k'.fields[r.field.toNat]?=some (Ef ks r):=by
   unfold Ef;rw[hkk];dsimp only;rw[Bp,AE (by omega)];rfl
  exact⟨q1,q2,k',hk',SM hho ((Bn hk).2 k' (Ao hkk)) hfe x⟩
 ·exact hm d hd
theorem J4{cs:List Comp}(hs:CT cs)(k:Int)(f:Nat)(v:Int):(J5 cs k f v).map Comp.kind=cs.map Comp.kind:=by
 cases hc:BH cs k with
 |none=>unfold J5;rw[hc]
 |some c=>
  obtain⟨e1,e2⟩:=Hu hs hc f v;rw[e2,List.map_set];obtain⟨a,b⟩:=List.getElem?_eq_some_iff.1 e1;have:(cs.map Comp.kind)[Cf cs k]?=some c.kind:=by rw[AG,e1];rfl
  obtain⟨a',b'⟩:=List.getElem?_eq_some_iff.1 this;show(cs.map Comp.kind).set _ c.kind=_
  conv=>lhs;rw[<-b']
  rw[List.set_getElem_self]
theorem QH{s:Sys}{cs ds:List Comp}(h:LX s cs)(e:ds.map Comp.kind=cs.map Comp.kind):LX s ds:=by
 intro k hk;have h1:=h k hk;unfold BH at h1⊢;rw[List.find?_isSome]at h1⊢;obtain⟨c,hc,hck⟩:=h1;have:c.kind∈ds.map Comp.kind:=by rw[e];exact List.mem_map.2 ⟨c,hc,rfl⟩
 obtain⟨d,hd,hde⟩:=List.mem_map.1 this;exact⟨d,hd,by simp only[AF]at hck⊢;omega⟩
theorem QU(k:Kind)(hl:k.fields.length<=1099511627776):PS Tryz.prog 188 [BA false k] (AN true (BW k (List.replicate k.fields.length 0)).1):=by
 have hft:=QJ k (List.replicate k.fields.length 0);have hfm:(k.fields.map fieldA).length=k.fields.length:=AB _;have hz:(List.replicate k.fields.length (0:Int)).map iA=List.replicate (k.fields.map fieldA).length (iA 0):=by rw[List.map_replicate,hfm]
 refine Sp (nt:=15) (res:=[.tmp 2]) Tryz.func188 λSf=>?_
 refine RG ?_;refine AOps.g_box ?_;refine Aj ?_;refine JD ?_;refine AWP.rs λY=>AWP.rs λK=>?_
 have hle:Spec Tryz.prog 135 [BA false k,.sl K 0 (k.fields.map fieldA).length] [(K,.row 3 1 (List.replicate (k.fields.map fieldA).length (iA 0)))] λr' S'=>r'= .tup [AN true (BW k (List.replicate k.fields.length 0)).1,iA (BW k (List.replicate k.fields.length 0)).2]/\S'=[(K,.row 3 1 (List.replicate (k.fields.map fieldA).length (iA 0)))]:=by
  refine PS.lend hft ?_ (.cons .fz (.cons (RP (by rw[<-hz];exact Lds.fz) .here (by simp)) .nil));have hlo:=HW (f:=iA) (λ_=>rfl) (BW k (List.replicate k.fields.length 0)).1;simp[AV.loose,CA,hlo]
 refine RU ?_;(iterate 4 refine RK ?_);refine RGo.gN ?_;refine RGo.s (W.make rfl rfl (by exact At.f) rfl (.inr rfl) rfl rfl (Nat.le_refl _) (by rw[hfm];omega) (by rw[hfm];unfold maxLen;omega)) rfl ?_;refine RGo.gN ?_;refine RGo.z2 (h:=hle) (hT:=.tup (.cons (.cell (.lst (Y:=Y) rfl) rfl rfl) rfl rfl (.cons (.cell .frz rfl rfl) rfl rfl .nil))) (k:=?_);(iterate 5 refine RK ?_);refine RGo.nil (by kernel_rfl) ?_;refine JA ?_;exact Br [.sl Y 0 ((BW k (List.replicate k.fields.length 0)).1.map iA).length] [AN true (BW k (List.replicate k.fields.length 0)).1] (.cons (.cell (.sl (p:=1) (by exact At.f) rfl)) .nil)
section
open Go.Sort
theorem VZ(f:FuncId)(cap:List AV)(cf:Comp->Comp->Int)(hst:B4 cap=true)(hcf:∀x y,PS Tryz.prog f ((AH false) x::(AH false) y::cap) (iA (cf x y)))(X n:Nat)(d:Array Comp)(a b:Nat)(hn:n=d.size)(hab:a<=b)(hb:b<=d.size)(hz:d.size<=1099511627776):PO Tryz.prog 251 [.sl X 0 n,iA a,iA b,.fn f cap] X (.row 42 2 (d.toList.map (AH false))) (.tup []) (.row 42 2 ((insertionSort (AZ cf) d a b).toList.map (AH false))):=by
 obtain⟨r,hr⟩:=nm (insertionSort (AZ cf) d a b);rw[hr];unfold insertionSort at hr;refine Sp (nt:=53) (res:=[]) Tryz.func251 λSf=>?_
 refine KK ?_;refine BZ (λ(i:Nat) (e:Array Comp)=>⟨[(0,.sl X 0 n),(1,iA a),(2,iA b),(3,.fn f cap),(8,iA i)],(X,.row 42 2 (e.toList.map (AH false)))::Sf⟩) (λi e=>i<=max b (a+1)/\a<i/\e.size=d.size/\insOuter (AZ cf) a b i e=r) (λi _=>b-i) (a+1) d ⟨by omega,by omega,rfl,hr⟩ ?_;rintro i e ⟨hi,hai,he,hfold⟩;rw[insOuter]at hfold;refine KK ?_;refine AWP.cond rfl (λhc=>?_) (λhc=>?_)
 ·have h:i<b:=by have:=of_decide_eq_true hc;omega
  rw[if_pos h]at hfold;refine KK ?_;refine BZ (λ(j:Nat) (u:Array Comp)=>⟨[(0,.sl X 0 n),(1,iA a),(2,iA b),(3,.fn f cap),(8,iA i),(9,iA j)],(X,.row 42 2 (u.toList.map (AH false)))::Sf⟩) (λj u=>j<=i/\u.size=d.size/\insInner (AZ cf) a j u=insInner (AZ cf) a i e) (λj _=>j) i e ⟨Nat.le_refl _,he,rfl⟩ ?_;rintro j u ⟨hj,hu,hin⟩;rcases Bool.eq_false_or_eq_true (decide ((a:Int)<(j:Int)))with g|g
  ·have hja:a<j:=by have:=of_decide_eq_true g;omega
   obtain⟨q,rfl⟩:∃q,j=q+1:=⟨j-1,by omega⟩;have h1:=BC (AH false) (d:=u) (i:=q+1) (by omega);have h2:=BC (AH false) (d:=u) (i:=q) (by omega);have hl:=hcf (u[q+1]!) (u[q]!);rw[insInner]at hin;(repeat refine WF ?_);refine RU ?_;(iterate 11 refine RK ?_);refine RGo.gQ ?_;refine RGo.go (h:=Ax (q:Int) (by omega) (by omega) rfl rfl) (k:=?_);refine KR ?_;refine RGo.g_callv ?_;refine RGo.k2 (h:=(hl ..)) (k:=?_);refine JG ?_;refine RGo.nil (by kernel_rfl) ?_;(repeat refine WF ?_);refine AWP.cond rfl (λhd=>?_) (λhd=>?_)
   ·have hd:(AZ cf) u[q+1]! u[q]! =true:=by simpa[g,AZ]using hd
    rw[hd,if_pos (by simp;omega)]at hin;obtain⟨y,hy⟩:=CM (AH false) (d:=u) (i:=q+1) (j:=q) (by omega) u[q]!;(repeat refine WF ?_);refine RU ?_;(iterate 4 refine RK ?_);refine RGo.gN ?_;refine RGo.go (h:=Ax (q:Int) (by omega) (by omega) rfl rfl) (k:=?_);refine JG ?_;refine RGo.gN ?_;refine RGo.go (h:=Ax (q:Int) (by omega) (by omega) rfl rfl) (k:=?_);(iterate 9 refine RK ?_);refine RGo.gN ?_;refine RGo.s (W.store rfl rfl (by exact At.f) hy (by exact rfl)) rfl ?_;refine RGo.nil (by kernel_rfl) ?_
    (iterate 4 refine WK ?_);refine AOps.gN ?_;refine AOps.p (Ax (q:Int) (by omega) (by omega) rfl rfl) rfl ?_;refine KK ?_
    refine A8 q (swp u (q+1) q) ⟨by omega,by rw[size_swp];exact hu,hin⟩ (h0:=by rw[<-Ck (AH false) (by omega) (by omega)];exact⟨by exact Lk.f,by exact Sub.f⟩)
   ·have hd:(AZ cf) u[q+1]! u[q]! =false:=by simpa[g,AZ]using hd
    rw[hd,if_neg (by simp)]at hin;refine KK ?_;refine A8 (i+1) u ⟨by omega,by omega,hu,by rw[hin];exact hfold⟩
  ·have hja:j<=a:=by have:=of_decide_eq_false g;omega
   have hin2:insInner (AZ cf) a j u=u:=by
    cases j with
    |zero=>rfl
    |succ q=>rw[insInner,if_neg (by simp;omega)]
   rw[hin2]at hin;(repeat refine WF ?_);refine RU ?_;(iterate 17 refine RK ?_);refine RGo.nil (by kernel_rfl) ?_;(repeat refine WF ?_);refine AA rfl (by simp[g]) ?_;refine KK ?_;refine A8 (i+1) u ⟨by omega,by omega,hu,by rw[hin];exact hfold⟩
 ·have h:¬i<b:=by have:=of_decide_eq_false hc;omega
  rw[if_neg h]at hfold;subst hfold;refine KK ?_;refine C9 ?_;exact BI [(X,.row 42 2 (e.toList.map (AH false)))] ⟨rfl,rfl⟩
end
section
open Go.Sort
theorem Px(f:FuncId)(cap:List AV)(cf:Comp->Comp->Int)(hst:B4 cap=true)(hf:∀x y,PS Tryz.prog f (AH false x::AH false y::cap) (iA (cf x y)))(X n limit:Nat)(d:Array Comp)(hn:n=d.size)(h12:d.size<=12):PO Tryz.prog 207 [.sl X 0 n,iA 0,iA n,iA limit,.fn f cap] X (.row 42 2 (d.toList.map (AH false))) (.tup []) (.row 42 2 ((insertionSort (AZ cf) d 0 d.size).toList.map (AH false))):=by
 have hs:=VZ f cap cf hst hf X n d 0 d.size hn (Nat.zero_le _) (Nat.le_refl _) (by omega);rw[<-hn]at hs;have hsz:d.size=n:=hn.symm;refine Sp (nt:=148) (res:=[]) Tryz.func207 λSf=>?_
 refine KK ?_;refine BJ (λ_:Unit=>⟨[(0,.sl X 0 n),(1,iA 0),(2,iA n),(3,iA limit),(4,.fn f cap)],(X,.row 42 2 (d.toList.map (AH false)))::Sf⟩) (λ_=>True) (λ_=>0) () trivial ?_;rintro _ _;refine AWP.block ?_
 (iterate 4 refine WK ?_);refine AOps.gN ?_;refine AOps.p (Ax (n:Int) (by omega) (by omega) rfl rfl) rfl ?_;refine KK ?_
 refine AM rfl (Ae (by omega)) ?_;refine KK ?_;refine AOps.g_callf ?_;refine AOps.o4 (h:=(hs ..)) (k:=?_);refine JA ?_;rw[hsz];exact BI [(X,_)] ⟨rfl,rfl⟩
theorem I0{α:Type}[Inhabited α]{d u:Array α}(h:PermIn 0 d.size d u):u.toList.Perm d.toList:=by
 obtain⟨h1,_,h3⟩:=h;have e1:u.extract 0 d.size=u:=by rw[<-h1];exact Array.extract_size
 rwa[e1,Array.extract_size]at h3
theorem HA{α:Type}[Inhabited α]{lt:α->α->Bool}{u:Array α}{n:Nat}(hn:n=u.size)(h:SortedIn lt 0 n u):u.toList.Pairwise λa b=>lt b a=false:=by
 rw[List.pairwise_iff_getElem];intro i j hi hj hij;have hi':i<u.size:=by simpa using hi
 have hj':j<u.size:=by simpa using hj
 have:=h i j (Nat.zero_le _) hij (by omega);rw[getElem!_pos u j hj',getElem!_pos u i hi']at this;simpa using this
theorem Ht(f:FuncId)(cap:List AV)(cf:Comp->Comp->Int)(hst:B4 cap=true)(hS:SWO (AZ cf))(hf:∀x y,PS Tryz.prog f (AH false x::AH false y::cap) (iA (cf x y)))(X n:Nat)(l:List Comp)(hn:n=l.length)(h12:l.length<=12):
  ∃u:List Comp,(u.Perm l/\u.Pairwise λa b=>AZ cf b a=false)/\PO Tryz.prog 136 [.sl X 0 n,.fn f cap] X (.row 42 2 (l.map (AH false))) (.tup []) (.row 42 2 (u.map (AH false))):=by
 obtain⟨p1,p2⟩:=insertionSort_holds (lt:=AZ cf) hS l.toArray 0 l.toArray.size (Nat.zero_le _) (Nat.le_refl _);have e1:(UInt64.ofNat n).toNat=n:=by rw[UInt64.toNat_ofNat'];omega
 have hlen:=P8 (UInt64.ofNat n) (by rw[e1];omega);rw[e1]at hlen;have hs:=Px f cap cf hst hf X n (bitsLen n) l.toArray (by simpa using hn) (by simpa using h12);obtain⟨u,hu⟩:=nm (insertionSort (AZ cf) l.toArray 0 l.toArray.size);rw[hu]at p1 p2 hs;refine⟨u.toList,⟨by simpa using I0 p1,HA p1.1.symm p2⟩,?_⟩;simp only[List.toList_toArray]at hs;refine Sp (nt:=14) (res:=[]) Tryz.func136 λSf=>?_
 (iterate 11 refine WK ?_);refine AOps.gN ?_;refine AOps.p (F8 .i64 n rfl (by omega) (by kernel_rfl) (by kernel_rfl) rfl) rfl ?_;refine AOps.g_callf ?_;refine AOps.c1 (h:=(hlen ..)) (k:=?_);refine WK ?_;refine AOps.g_callf ?_;refine IK (h:=(hs ..)) (k:=?_);refine WK ?_
 refine C9 ?_;exact BI [(X,_)] ⟨rfl,rfl⟩
theorem GZ(a b:Int):Cp a b<0↔a<b:=by
 unfold Cp;split
 ·simp;assumption
 ·split<;>simp<;>omega
theorem NA{α:Type}(key:α->Int):SWO (AZ λx y=>Cp (key x) (key y))where
 irrefl x:=by simp only[AZ,AQ,GZ];omega
 trans x y z h1 h2:=by simp only[AZ,AF,GZ]at*;omega
 ntrans x y z h1 h2:=by simp only[AZ,AQ,GZ]at*;omega
end
theorem Lp(l:List Comp)(f:FuncId)(cap:List AV)(p:Comp->Bool)(hs:B4 cap=true)(hl:l.length<=4611686018427387904)(hf:∀x∈l,PS Tryz.prog f ((AH false) x::cap) (bA (p x))):PS Tryz.prog 206 [.lst false 42 2 (l.map (AH false)),.fn f cap] (iA (ER l p)):=by
 refine Sp (nt:=19) (res:=[.tmp 4]) Tryz.func206 λSf=>?_
 refine KK ?_;refine BJ (λi:Nat=>⟨[(0,.lst false 42 2 (l.map (AH false))),(1,.fn f cap),(7,iA (l.map (AH false)).length),(8,iA i)],Sf⟩) (λi=>i<=l.length/\∀j (h:j<l.length),j<i->p l[j]=false) (λi=>l.length-i) 0 ⟨Nat.zero_le _,λj h hj=>absurd hj (by omega)⟩ ?_;rintro i ⟨hi,he⟩;refine KK ?_;refine AWP.cond rfl (λhc=>?_) (λhc=>?_)
 ·have h:i<l.length:=by simpa using hc
  refine KK ?_;refine AOps.g_callv ?_;refine G6 (h:=(hf _ (AK h))) (k:=?_);refine KK ?_;refine AWP.cond rfl (λhd=>?_) (λhd=>?_)
  ·refine KK ?_
   refine RT ?_;refine AI ?_;rw[Eo h hd λj hj=>he j (by omega) hj]
  ·refine KK ?_
   refine Af (i+1) ⟨h,λj h1 h2=>?_⟩;by_cases e:j=i
   ·subst e;exact hd
   ·exact he j h1 (by omega)
 ·have h:¬i<l.length:=by simpa using hc
  refine JA ?_;refine AI ?_;rw[Ep λj hj=>he j hj (by omega)]
theorem Fo(l:List Comp)(f:FuncId)(cap:List AV)(p:Comp->Bool)(hs:B4 cap=true)(hl:l.length<=4611686018427387904)(hf:∀x∈l,PS Tryz.prog f ((AH false) x::cap) (bA (p x))):PS Tryz.prog 133 [.lst false 42 2 (l.map (AH false)),.fn f cap] (bA (l.any p)):=by
 refine Sp (nt:=9) (res:=[.tmp 4]) Tryz.func133 λSf=>?_
 refine KK ?_;refine AOps.g_callf ?_;refine AOps.c2 (h:=(Lp l f cap p hs hl hf)) (k:=?_);refine JA ?_;refine AI ?_;rw[<-Km]
section
open Go.Sort
theorem Vi(o c:Comp):PS Tryz.prog 134 [AH false o,.fp (AH false c).cells] (bA (decide (o.kind=c.kind))):=by
 refine Sp (nt:=9) (res:=[.tmp 3]) Tryz.func134 λSf=>?_
 refine WK ?_;refine WK ?_;refine AOps.g_box ?_;refine Aj ?_;refine JA ?_;refine AI ?_;rfl
theorem Vh(a b:Comp):PS Tryz.prog 137 [AH false a,AH false b] (iA (Cp a.kind b.kind)):=by
 refine Sp (nt:=10) (res:=[.tmp 4]) Tryz.func137 λSf=>?_
 refine WK ?_;refine WK ?_;refine AOps.g_box ?_;refine Aj ?_;refine AOps.g_box ?_;refine Aj ?_;refine KK ?_;refine AOps.g_callf ?_;refine AOps.c2 (h:=(E9 a.kind b.kind)) (k:=?_);refine JA ?_;refine AI ?_;rfl
theorem Hq(ks:List Kind)(l:List Comp)(h12:ks.length<=12)(hl:l.length<=1099511627776):PS Tryz.prog 61 [An false false ks,Aw false false l] (.tup [Aw true false (CH ks l).1,iA (CH ks l).2]):=by
 have hck:=LI ks;obtain⟨r,hr⟩:=nm (CH ks l);rw[hr];unfold CH at hr;have hlm:(l.map (AH false)).length=l.length:=AB _;have hkm:(ks.map (BA false)).length=ks.length:=AB _;refine Sp (nt:=64) (res:=[.tmp 4,.tmp 5]) Tryz.func61 λSf=>?_
 refine KK ?_;refine AOps.g_callf ?_;refine AOps.c1 (h:=(hck ..)) (k:=?_);refine KK ?_;refine AWP.cond rfl (λhc=>?_) (λhc=>?_)
 ·have hc:Ag ks≠0:=by simpa using hc
  rw[if_pos hc]at hr;subst hr;refine JA ?_;exact Br [.prim (.slice none 0 0),iA (Ag ks)] [Aw true false [],iA (Ag ks)] (.cons (.cell .nil) (.cons (.cell .same) .nil))
 have hc:Ag ks=0:=by simpa using hc
 rw[if_neg (by simp[hc])]at hr;have hgo:=λh=>Ku (ks:=ks) (l:=l) (pre:=[]) (out:=[]) h (by simp) (by simp) (by simp)
 obtain⟨g,hg⟩:=nm (Cn ks [] [] l);rw[hg]at hr hgo;refine KK ?_;refine AWP.adopt (d:=7) 42 2 rfl λO=>?_
 refine FU (λ(q Y m:Nat) (M:List AV)=>⟨[(0,An false false ks),(1,Aw false false l),(7,.sl Y 0 m),(17,Aw false false l),(18,iA (l.map (AH false)).length),(19,iA q)],(Y,.row 42 2 M)::Sf⟩) (λq _ m M=>q<=l.length/\m=M.length/\m=q/\∃out:List Comp,M=out.map (AH false)/\Cn ks (l.take q) out (l.drop q)=g) (λq _ _ _=>l.length-q) 0 O 0 [] ⟨Nat.zero_le _,rfl,rfl,[],rfl,hg⟩ ?_;rintro q Y m M ⟨hq,hm,hmq,out,hM,hfold⟩;refine KK ?_;refine AWP.cond rfl (λhe=>?_) (λhe=>?_)
 ·have h:q<l.length:=by rw[AF,hlm]at he;omega
  obtain⟨c,hcq⟩:=nm (l[q]);have hat:(l.map (AH false))[q]?=some (AH false c):=by rw[AG,AE h,hcq];rfl
  rw[CD h,hcq,Cn]at hfold;have hcf:=Fo (l.take q) 134 [.fp (AH false c).cells] (λo=>decide (o.kind=c.kind)) rfl (by rw[Ah];omega) (λo _=>Vi o c);obtain⟨ck,cv⟩:=c;dsimp only at hfold hcf;rw[List.map_take]at hcf;refine KK ?_;refine Ai λV=>?_;refine KK ?_
  refine AWP.cond rfl (λhd=>?_) (λhd=>?_)
  ·have hb:ck<0\/(ks.length:Int)<=ck:=by simpa using hd
   rw[if_pos hb]at hfold;subst hfold;rw[if_pos (by decide)]at hr;subst hr;refine JA ?_;exact Br [.prim (.slice none 0 0),iA 1] [Aw true false [],iA 1] (.cons (.cell .nil) (.cons (.cell .same) .nil))
  have hb:¬(ck<0\/(ks.length:Int)<=ck):=by simpa using hd
  rw[if_neg hb]at hfold;obtain⟨j,hj⟩:∃j:Nat,ck=j:=⟨ck.toNat,by omega⟩;subst hj;have hjl:j<ks.length:=by omega
  rw[Int.toNat_natCast,AE hjl]at hfold;obtain⟨k,hk⟩:=nm (ks[j]);rw[hk]at hfold;dsimp only at hfold;have hatk:(ks.map (BA false))[j]?=some (BA false k):=by rw[AG,AE hjl,hk];rfl
  have hft:=QJ k cv;refine AWP.iceP [9] (X:=V) (by exact At.f) (b:=AH false ⟨j,cv⟩) (hf:=⟨by show(AV.agg [iA (j:Int),AN false cv]).frz=_;exact Frz.h⟩) ?_ (by intro d hd;simp only[BP]at hd;subst hd;rfl)
  (iterate 6 refine WK ?_);refine AOps.gN ?_;refine AOps.p (W.hiL rfl rfl rfl (by rw[hlm];exact hq)) rfl ?_;refine WK ?_;refine AOps.g_callf ?_;refine AOps.c2 (h:=(hcf ..)) (k:=?_);refine KK ?_
  refine AWP.cond rfl (λhd2=>?_) (λhd2=>?_)
  ·rw[if_pos hd2]at hfold
   subst hfold;rw[if_pos (by decide)]at hr;subst hr;refine JA ?_;exact Br [.prim (.slice none 0 0),iA 5] [Aw true false [],iA 5] (.cons (.cell .nil) (.cons (.cell .same) .nil))
  rw[if_neg (by simp[hd2])]at hfold;refine RU ?_;(iterate 7 refine RK ?_);refine RGo.gN ?_;refine RGo.c2 (h:=hft) (k:=?_);(iterate 5 refine RK ?_);refine RGo.nil (by kernel_rfl) ?_;refine KK ?_;refine AWP.cond rfl (λhd3=>?_) (λhd3=>?_)
  ·have hd3:(BW k cv).2≠0:=by simpa using hd3
   rw[if_pos hd3]at hfold;subst hfold;rw[if_pos hd3]at hr;subst hr;refine JA ?_;exact Br [.prim (.slice none 0 0),iA _] [Aw true false [],iA _] (.cons (.cell .nil) (.cons (.cell .same) .nil))
  have hd3:(BW k cv).2=0:=by simpa using hd3
  rw[if_neg (by simp[hd3])]at hfold;have hm1:m+1<=1099511627776:=by omega
  (iterate 8 refine WK ?_);refine AOps.g_lit ?_;refine AOps.goL (AH false ⟨j,(BW k cv).1⟩) ?_;refine WK ?_;refine Ay λY=>?_;refine KK ?_
  refine DU (q+1) Y (m+1) (M++[AH false ⟨j,(BW k cv).1⟩]) ⟨h,by rw[AL,hm];rfl,by omega,out++[⟨j,(BW k cv).1⟩],by rw[hM,List.map_append];rfl,?_⟩;rw[List.take_succ_eq_append_getElem h,hcq];exact hfold
 ·have h:q=l.length:=by rw[AQ,hlm]at he;omega
  rw[h,List.take_length,List.drop_length,Cn]at hfold;subst hfold;dsimp only at hr hgo;rw[if_neg (by simp)]at hr;subst hr;obtain⟨hg1,hg2⟩:=hgo rfl;have hlen:out.length<=12:=Nat.le_trans (GR Comp.kind _ _ hg1 hg2) h12;obtain⟨u,⟨hu1,hu2⟩,hsf⟩:=Ht 137 [] (λx y=>Cp x.kind y.kind) rfl (NA Comp.kind) (λx y=>Vh x y) Y m out (by rw[hm,hM,AB]) hlen;rw[<-hM]at hsf;refine KK ?_;refine AOps.g_callf ?_;refine AOps.o2 (h:=(hsf ..)) (k:=?_);refine KK ?_;have hu:u=GF out:=Kc hg1 hu1 (hu2.imp λ{a b} hab=>by simp only[AZ,AQ,GZ]at hab;omega);have hul:m=(u.map (AH false)).length:=by rw[hm,hM,AB,AB,hu1.length_eq]
  refine RT ?_;rw[<-hu];exact Br [.sl Y 0 m,iA 0] [Aw true false u,iA 0] (.cons (.cell (.sl (p:=0) .here hul)) (.cons (.cell .same) .nil))
end
def Pq(ks:List Kind)(s:Sys)(e:Ent)(index:Int)(X C K E:Nat)(st:Rn):List AC:=
 [(X,J8 ks s e C st.comps.length st.r K st.cmds.length E st.evs.length index),(C,.row 42 2 (st.comps.map (AH true))),(K,.row 159 5 (st.cmds.map Bx)),(E,.row 86 4 (st.evs.map Cr))]
structure RnOK(ks:List Kind)(s:Sys)(st:Rn):Prop where
 held:A7 ks st.comps=true
 has:LX s st.comps
 odd:st.r.2.toNat%2=1
 cmds:st.cmds.length<=1099511627775
 evs:st.evs.length<=1099511627775
theorem MH(ks:List Kind)(s:Sys)(e:Ent)(index:Int)(X C K E:Nat)(st:Rn)(Sf:List AC):Ld (Pq ks s e index X C K E st++Sf) (.ptr X 0 0) (.fp (Lf ks s e (Aw false false st.comps) st.r (.sl K 0 st.cmds.length) (.sl E 0 st.evs.length) index).cells):=by
 refine .ptr .here (b:=Lf ks s e (Aw false false st.comps) st.r (.sl K 0 st.cmds.length) (.sl E 0 st.evs.length) index) (.agg ?_) rfl;refine .cons .fz (.cons .fz (.cons .fz (.cons .fz (.cons .fz (.cons .fz (.cons .fz (.cons .fz (.cons .fz (.cons .fz (.cons ?_ (.cons .fz (.cons .fz (.cons .frz (.cons .frz (.cons .fz .nil)))))))))))))));exact RP Lds.fz (.next .here) (by simp)
theorem XG(ks:List Kind)(s:Sys)(e:Ent)(index:Int)(X C K E:Nat)(st:Rn)(o:Op)(hk:Ag ks=0)(h12:ks.length<=12)(hsp:s.spawn.length<=1099511627776)(hst:RnOK ks s st)(ho:OpG ks s.reads s.writes o):
  Spec Tryz.prog 102 [.ptr X 0 0,opA o] (Pq ks s e index X C K E st) λr' S'=>∃b:Nat×Nat,r'= .tup []/\S'=Pq ks s e index X C b.1 b.2 (doM ks s index e o st):=by
 obtain⟨hh,hhas,hodd,hcl,hel⟩:=hst;obtain⟨cs,r,cm,ev⟩:=st;dsimp only at hh hhas hodd hcl hel;obtain⟨h16,_⟩:=ED hk hh;obtain⟨a1,a2,a3⟩:=UZ hh hhas ho.a;obtain⟨b1,b2,b3⟩:=UZ hh hhas ho.b;have hA:=UY ks s e cs r K cm.length E ev.length index o.a (by omega) a1;have hB:=UY ks s e cs r K cm.length E ev.length index o.b (by omega) b1;have hs:=Qw o.act;obtain⟨act,⟨tk,tf⟩,oa,ob⟩:=o;dsimp only at a1 a2 a3 b1 b2 b3 hA hB hs;obtain⟨av,hav⟩:=nm (Gb cs oa);obtain⟨bv,hbv⟩:=nm (Gb cs ob);obtain⟨res,hres⟩:=nm (doM ks s index e ⟨act,⟨tk,tf⟩,oa,ob⟩ ⟨cs,r,cm,ev⟩);rw[hres];unfold doM at hres;dsimp only at hres;rw[hav]at hA a2 a3 hres;rw[hbv]at hB b2 b3 hres;refine Sp (nt:=137) (res:=[]) Tryz.func102 λSf=>?_
 refine RG ?_;refine AOps.g_box ?_;refine Aj ?_;refine NL ?_;have hAl:=PS.lend (S:=Pq ks s e index X C K E ⟨cs,r,cm,ev⟩) (args':=[.ptr X 0 0,By oa]) hA rfl (.cons (by have:=MH ks s e index X C K E ⟨cs,r,cm,ev⟩ [];rwa[List.append_nil]at this) (.cons .fz .nil));have hBl:=PS.lend (S:=Pq ks s e index X C K E ⟨cs,r,cm,ev⟩) (args':=[.ptr X 0 0,By ob]) hB rfl (.cons (by have:=MH ks s e index X C K E ⟨cs,r,cm,ev⟩ [];rwa[List.append_nil]at this) (.cons .fz .nil));unfold Pq at hAl hBl⊢;dsimp only at hAl hBl⊢;refine RU ?_;(iterate 3 refine RK ?_);refine RGo.gN ?_;refine RGo.z2 (h:=hAl) (hT:=.fz) (k:=?_);(iterate 3 refine RK ?_);refine RGo.gN ?_;refine RGo.z2 (h:=hBl) (hT:=.fz) (k:=?_);refine JG ?_;refine RGo.nil (by kernel_rfl) ?_;refine FL ?_;by_cases hsb:GO act=true
 ·rw[if_pos hsb]at hres
  rw[hsb]at hs;obtain⟨hR,hW⟩:=ho.sets hsb;dsimp only at hR hW;have h07:0<=act/\act<=7:=by unfold GO at hsb;simpa using hsb
  obtain⟨c,k,e1,e2,e3,e4,e5,e6,e7⟩:=KF hh hhas hR (.inr hW);dsimp only at e1 e2 e3 e5 e6;have hso:=(held_iff.1 hh).1;obtain⟨g1,g2⟩:=Hu hso e1 tf.toNat (BS (Ef ks ⟨tk,tf⟩) (Dv act av bv r).1);have hvp:=TA ks s e C cs.length r K cm.length E ev.length index X act av bv h07.1 h07.2 ⟨a2,a3⟩ ⟨b2,b3⟩ hodd;obtain⟨⟨nv,r2⟩,hnv⟩:=nm (Dv act av bv r);rw[hnv]at hvp hres g2;obtain⟨f,hf⟩:=nm (Ef ks ⟨tk,tf⟩);rw[hf]at g2 hres;have hnp:=Q5 f nv;obtain⟨j,hj⟩:=nm (Cf cs tk);rw[hj]at g1 g2;obtain⟨ti,rfl⟩:∃i:Nat,tk=i:=⟨tk.toNat,by have:=hR.1;dsimp only at this;omega⟩;obtain⟨tj,rfl⟩:∃i:Nat,tf=i:=⟨tf.toNat,by omega⟩;rw[Int.toNat_natCast]at g2 e3
  have hfe:k.fields[tj]?=some f:=by
   rw[<-hf];unfold Ef;dsimp only;rw[Int.toNat_natCast,Int.toNat_natCast,e3];dsimp only;rw[Bp,AE (by omega)];rfl
  obtain⟨ck,cv⟩:=c;dsimp only at e2 e4 e7 g2;subst e2;have hvs:=λV=>TB ks s e cs r K cm.length E ev.length index X C V j ⟨ti,cv⟩ hso g1 (by omega)
  obtain⟨kn,fs⟩:=k;dsimp only at e6 e7 hfe;have hatk:(ks.map (BA false))[ti]?=some (BA false ⟨kn,fs⟩):=by rw[AG,e3];rfl
  have hatf:(fs.map fieldA)[tj]?=some (fieldA f):=by rw[AG,hfe];rfl
  have hatc:(cs.map (AH true))[j]?=some (AH true ⟨ti,cv⟩):=by rw[AG,g1];rfl
  have hjm:j<(cs.map (AH true)).length:=by rw[AB];exact(List.getElem?_eq_some_iff.1 g1).1
  have hvl:tj<(cv.map iA).length:=by rw[AB];omega
  have hatv:(cv.map iA)[tj]?=some (iA cv[tj]):=by rw[AG,AE (by rw[AB]at hvl;exact hvl)];rfl
  refine JN ?_;refine AOps.g_callf ?_;refine AOps.c1 (h:=(hs ..)) (k:=?_);refine NL ?_;refine AM rfl rfl ?_;refine FL ?_;refine AWP.thawIn (Y:=C) (by exact At.f) (λ_=>Hos.at hatc (.agg (.tail (.head .here)))) λV=>?_
  have hvs1:=hvs V;unfold NG at hvs1;dsimp only at hvs1;refine FL ?_;refine Jd (JP 1 (X,J8 ks s e C cs.length r K cm.length E ev.length index) (X,J8 ks s e C cs.length r2 K cm.length E ev.length index)) (by kernel_rfl) (by kernel_rfl) ?_ ?_
  ·exact .inl rfl
  iterate 4 refine RGoJ.go ?_
  refine RGoJ.s ?_ (ID rfl rfl hvs1 .fz (by exact Pos.f) rfl rfl) rfl ?_
  ·exact λS hS=>JP.ne (by decide) _ (V4 _ hS)
  iterate 4 refine RGoJ.go ?_
  refine RGoJ.soft (S1:=[(0,.gone),(X,J8 ks s e C cs.length r K cm.length E ev.length index)]) (S2:=[(0,.gone),(X,J8 ks s e C cs.length r2 K cm.length E ev.length index)]) (by exact EZ) (by exact EZ) rfl ?_
  iterate 2 refine RGoJ.soft (S1:=[(0,.gone),(X,J8 ks s e C cs.length r K cm.length E ev.length index)]) (S2:=[(0,.gone),(X,J8 ks s e C cs.length r2 K cm.length E ev.length index)]) (by exact EZ) (by exact EZ) rfl ?_
  iterate 16 refine RGoJ.go ?_
  refine RGoJ.s V3 (W.callO4 rfl rfl rfl rfl (by exact At.f) hvp rfl (Frz.h)) rfl ?_;refine RGoJ.p (W.callF2 rfl rfl hnp rfl (Frz.h)) rfl ?_;refine RGoJ.go ?_;refine RGoJ.s ?_ (by exact Hm) rfl ?_
  ·exact JP.ne (by decide)
  refine RGoJ.nil (by kernel_rfl) ?_;refine FL ?_;refine AWP.closeIn (X:=V) (Y:=C) (by exact At.f) (by exact At.f) rfl (by simp) (Hos.at (List.getElem?_set_self hjm) (.agg (.tail (.head .here)))) ?_;refine RT ?_;refine BI [(X,_),(C,_),(K,_),(E,_)] ⟨(K,E),rfl,?_⟩;rw[<-hres,Int.toNat_natCast,g2];dsimp only
  have hce:AH true ⟨ti,cv.set tj (BS f nv)⟩= .agg [iA ti,.lst true 3 1 ((cv.map iA).set tj (iA (BS f nv)))]:=by
   unfold AH AN;rw[List.map_set]
  rw[List.length_set,List.map_set,List.set_set,hce]
 ·have hsf:GO act=false:=by simpa using hsb
  rw[if_neg hsb]at hres;rw[hsf]at hs
  have h8:act=8\/act=9\/act=10\/act=11\/act=12:=by
   have h1:0<=act:=ho.lo;have h2:act<=12:=ho.hi;unfold GO at hsf;simp at hsf;omega
  refine JN ?_;refine AOps.g_callf ?_;refine AOps.c1 (h:=(hs ..)) (k:=?_);refine NL ?_;refine AA rfl rfl ?_;refine KK ?_;by_cases hz:av=0
  ·refine AM rfl (Ae hz) ?_
   rw[if_pos hz]at hres
   skip
   refine RT ?_;refine BI [(X,_),(C,_),(K,_),(E,_)] ⟨(K,E),rfl,?_⟩;rw[<-hres]
  ·refine AA rfl (AY hz) ?_
   rw[if_neg hz]at hres;rcases h8 with rfl|rfl|rfl|rfl|rfl
   ·obtain⟨p1,p2,p3⟩:=ho.puts (.inl rfl)
    dsimp only at p1 p2 p3;obtain⟨ti,rfl⟩:∃i:Nat,tk=i:=⟨tk.toNat,by omega⟩;have hkl:ti<ks.length:=by omega
    have hatk:(ks.map (BA false))[ti]?=some (BA false ks[ti]):=by rw[AG,AE hkl];rfl
    obtain⟨kn,hkn⟩:=nm (ks[ti]);have hfl:kn.fields.length<=1099511627776:=by have h8:=HU ((Bn hk).2 _ (AK hkl));rw[hkn]at h8;omega
    rw[hkn]at hatk
    have hdo:LB ks ti=(BW kn (List.replicate kn.fields.length 0)).1:=by
     unfold LB;rw[Int.toNat_natCast,AE hkl,hkn]
    have hdf:=QU kn hfl;refine KK ?_;refine Ai λB=>?_;refine KK ?_
    refine AM rfl rfl ?_;refine RU ?_;(iterate 12 refine RK ?_);refine RGo.gN ?_;refine RGo.c1 (h:=hdf) (k:=?_);(iterate 6 refine RK ?_);refine RGo.nil (by kernel_rfl) ?_;refine FL ?_;refine AWP.frzRow B [Bx ⟨0,e,0,[⟨ti,(BW kn (List.replicate kn.fields.length 0)).1⟩]⟩] ?_ ?_ (by exact At.f)
    ·exact(show AV.frzs [Bx ⟨0,e,0,[⟨ti,(BW kn (List.replicate kn.fields.length 0)).1⟩]⟩]=[Bx ⟨0,e,0,[⟨ti,(BW kn (List.replicate kn.fields.length 0)).1⟩]⟩]from congrArg (· ::[]) Frz.h)
    refine AWP.rs λK2=>?_
    refine RU ?_;(iterate 11 refine RK ?_);refine RGo.nil (by kernel_rfl) ?_;refine C9 ?_;refine BI [(X,_),(C,_),(K2,_),(E,_)] ⟨(K2,E),rfl,?_⟩;rw[if_neg (by decide),if_pos rfl,hdo]at hres;rw[<-hres];dsimp only;rw[AL,List.map_append];rfl
   ·refine KK ?_;refine Ai λB=>?_;refine KK ?_
    refine AA rfl rfl ?_;refine KK ?_;refine AM rfl rfl ?_;refine RU ?_;(iterate 7 refine RK ?_);refine RGo.nil (by kernel_rfl) ?_;refine FL ?_;refine AWP.nilIn 42 2 (Y:=B) (.cons (.agg (.cons .same (.cons .same (.cons .same (.cons .same (.cons (.base .nil) .nil)))))) .nil) ?_;refine AWP.frzRow B [Bx ⟨1,e,tk,[]⟩] ?_ ?_ (by exact At.f)
    ·exact(show AV.frzs [Bx ⟨1,e,tk,[]⟩]=[Bx ⟨1,e,tk,[]⟩]from congrArg (· ::[]) Frz.h)
    refine AWP.rs λK2=>?_
    refine RU ?_;(iterate 11 refine RK ?_);refine RGo.nil (by kernel_rfl) ?_;refine C9 ?_;refine BI [(X,_),(C,_),(K2,_),(E,_)] ⟨(K2,E),rfl,?_⟩;rw[if_neg (by decide),if_neg (by decide),if_pos rfl]at hres;rw[<-hres];dsimp only;rw[AL,List.map_append];rfl
   ·refine KK ?_;refine Ai λB=>?_;refine KK ?_
    refine AA rfl rfl ?_;refine KK ?_;refine AA rfl rfl ?_;refine KK ?_;refine AM rfl rfl ?_;refine KK ?_;refine AWP.nilIn 42 2 (Y:=B) (.cons (.agg (.cons .same (.cons .same (.cons .same (.cons .same (.cons (.base .nil) .nil)))))) .nil) ?_;refine AWP.frzRow B [Bx ⟨2,e,0,[]⟩] ?_ ?_ (by exact At.f)
    ·exact(show AV.frzs [Bx ⟨2,e,0,[]⟩]=[Bx ⟨2,e,0,[]⟩]from congrArg (· ::[]) Frz.h)
    refine AWP.rs λK2=>?_
    refine RU ?_;(iterate 11 refine RK ?_);refine RGo.nil (by kernel_rfl) ?_;refine C9 ?_;refine BI [(X,_),(C,_),(K2,_),(E,_)] ⟨(K2,E),rfl,?_⟩;rw[if_neg (by decide),if_neg (by decide),if_neg (by decide),if_pos rfl]at hres;rw[<-hres];dsimp only;rw[AL,List.map_append];rfl
   ·have hfp:=Hq ks s.spawn h12 hsp
    refine KK ?_;refine Ai λB=>?_;refine KK ?_
    refine AA rfl rfl ?_;refine KK ?_;refine AA rfl rfl ?_;refine KK ?_;refine AA rfl rfl ?_;refine KK ?_;refine AM rfl rfl ?_;refine RU ?_;(iterate 9 refine RK ?_);refine RGo.gN ?_;refine RGo.c2 (h:=hfp) (k:=?_);(iterate 5 refine RK ?_);refine RGo.nil (by kernel_rfl) ?_;refine KK ?_;refine AWP.frzRow B [Bx ⟨3,⟨0,0⟩,0,(CH ks s.spawn).1⟩] ?_ ?_ (by exact At.f)
    ·exact(show AV.frzs [Bx ⟨3,⟨0,0⟩,0,(CH ks s.spawn).1⟩]=[Bx ⟨3,⟨0,0⟩,0,(CH ks s.spawn).1⟩]from congrArg (· ::[]) Frz.h)
    refine AWP.rs λK2=>?_
    refine RU ?_;(iterate 11 refine RK ?_);refine RGo.nil (by kernel_rfl) ?_;refine C9 ?_;refine BI [(X,_),(C,_),(K2,_),(E,_)] ⟨(K2,E),rfl,?_⟩;rw[if_neg (by decide),if_neg (by decide),if_neg (by decide),if_neg (by decide)]at hres;rw[<-hres];dsimp only;rw[AL,List.map_append];rfl
   ·refine KK ?_;refine Ai λB=>?_;refine KK ?_
    refine AA rfl rfl ?_;refine KK ?_;refine AA rfl rfl ?_;refine KK ?_;refine AA rfl rfl ?_;refine KK ?_;refine AA rfl rfl ?_;refine AWP.rs λE2=>?_
    refine RU ?_;(iterate 16 refine RK ?_);refine RGo.g_lit ?_;refine RGo.goL (Cr ⟨index,e,bv⟩) ?_;(iterate 4 refine RK ?_);refine RGo.nil (by kernel_rfl) ?_;refine RT ?_;refine BI [(X,_),(C,_),(K,_),(E2,_)] ⟨(K,E2),rfl,?_⟩;rw[if_pos rfl]at hres;rw[<-hres];dsimp only;rw[AL,List.map_append];rfl
theorem Lo(l:List Int)(f:FuncId)(cap:List AV)(p:Int->Bool)(hs:B4 cap=true)(hl:l.length<=4611686018427387904)(hf:∀x∈l,PS Tryz.prog f (iA x::cap) (bA (p x))):PS Tryz.prog 173 [.lst false 3 1 (l.map iA),.fn f cap] (iA (ER l p)):=by
 refine Sp (nt:=19) (res:=[.tmp 4]) Tryz.func173 λSf=>?_
 refine KK ?_;refine BJ (λi:Nat=>⟨[(0,.lst false 3 1 (l.map iA)),(1,.fn f cap),(7,iA (l.map iA).length),(8,iA i)],Sf⟩) (λi=>i<=l.length/\∀j (h:j<l.length),j<i->p l[j]=false) (λi=>l.length-i) 0 ⟨Nat.zero_le _,λj h hj=>absurd hj (by omega)⟩ ?_;rintro i ⟨hi,he⟩;refine KK ?_;refine AWP.cond rfl (λhc=>?_) (λhc=>?_)
 ·have h:i<l.length:=by simpa using hc
  refine KK ?_;refine AOps.g_callv ?_;refine G6 (h:=(hf _ (AK h))) (k:=?_);refine KK ?_;refine AWP.cond rfl (λhd=>?_) (λhd=>?_)
  ·refine KK ?_
   refine RT ?_;refine AI ?_;rw[Eo h hd λj hj=>he j (by omega) hj]
  ·refine KK ?_
   refine Af (i+1) ⟨h,λj h1 h2=>?_⟩;by_cases e:j=i
   ·subst e;exact hd
   ·exact he j h1 (by omega)
 ·have h:¬i<l.length:=by simpa using hc
  refine JA ?_;refine AI ?_;rw[Ep λj hj=>he j hj (by omega)]
theorem Co(l:List Int)(f:FuncId)(cap:List AV)(p:Int->Bool)(hs:B4 cap=true)(hl:l.length<=4611686018427387904)(hf:∀x∈l,PS Tryz.prog f (iA x::cap) (bA (p x))):PS Tryz.prog 96 [.lst false 3 1 (l.map iA),.fn f cap] (bA (l.any p)):=by
 refine Sp (nt:=9) (res:=[.tmp 4]) Tryz.func96 λSf=>?_
 refine KK ?_;refine AOps.g_callf ?_;refine AOps.c2 (h:=(Lo l f cap p hs hl hf)) (k:=?_);refine JA ?_;refine AI ?_;rw[<-Km]
def Ie(cs:List Comp)(k:Int):Bool:=cs.any λc=>decide (c.kind=k)
def CF(it:Item)(wth wout:List Int):Bool:=!(wth.any λk=>!Ie it.comps k)&& !(wout.any λk=>Ie it.comps k)
theorem P4(c:Comp)(k:Int):PS Tryz.prog 237 [AH false c,.fp [iA k]] (bA (decide (c.kind=k))):=by
 refine Sp (nt:=8) (res:=[.tmp 3]) Tryz.func237 λSf=>?_
 refine WK ?_;refine WK ?_;refine AOps.g_box ?_;refine Aj ?_;refine JA ?_;refine AI ?_;rfl
theorem MO(it:Item)(k:Int)(hl:it.comps.length<=4611686018427387904):PS Tryz.prog 236 [iA k,.fp (AD false it).cells] (bA (Ie it.comps k)):=by
 refine Sp (nt:=8) (res:=[.tmp 3]) Tryz.func236 λSf=>?_
 refine WK ?_;refine WK ?_;refine AOps.g_box ?_;refine Aj ?_;refine KK ?_;refine AOps.g_callf ?_;refine AOps.c2 (h:=(Fo it.comps 237 [.fp [iA k]] (λc=>decide (c.kind=k)) rfl hl (λx hx=>P4 x k))) (k:=?_);refine JA ?_;refine AI ?_;rfl
theorem R9(it:Item)(k:Int)(hl:it.comps.length<=4611686018427387904):PS Tryz.prog 238 [iA k,.fp [.fn 236 [.fp (AD false it).cells]]] (bA (!Ie it.comps k)):=by
 refine Sp (nt:=8) (res:=[.tmp 3]) Tryz.func238 λSf=>?_
 refine KK ?_;refine AOps.g_callv ?_;refine G6 (h:=(MO it k hl)) (k:=?_);refine JA ?_;refine AI ?_;rfl
theorem Ti(it:Item)(wth wout:List Int)(hl:it.comps.length<=4611686018427387904)(h1:wth.length<=4611686018427387904)(h2:wout.length<=4611686018427387904):PS Tryz.prog 180 [AD false it,AN false wth,AN false wout] (bA (CF it wth wout)):=by
 have c1:=Co wth 238 [.fp [.fn 236 [.fp (AD false it).cells]]] (λk=>!Ie it.comps k) rfl h1 (λx _=>R9 it x hl);have c2:=Co wout 236 [.fp (AD false it).cells] (λk=>Ie it.comps k) rfl h2 (λx _=>MO it x hl);unfold CF;obtain⟨b1,hb1⟩:=nm ((wth.any λk=>!Ie it.comps k));obtain⟨b2,hb2⟩:=nm ((wout.any λk=>Ie it.comps k));rw[hb1]at c1⊢;rw[hb2]at c2⊢;refine Sp (nt:=19) (res:=[.tmp 6]) Tryz.func180 λSf=>?_
 refine RG ?_;refine AOps.g_box ?_;refine Aj ?_;refine JD ?_;refine JN ?_;refine Ai λX=>?_;refine JD ?_
 refine AWP.iceP [7] .here (hf:=.fn1 (.fp (a:=AD false it) inferInstance)) ?_ (by intro d hd;simp only[BP]at hd;subst hd;rfl);cases b1
 ·refine KK ?_;refine AOps.g_callf ?_;refine AOps.c2 (h:=(c1 ..)) (k:=?_);refine KK ?_;refine AOps.g_callf ?_;refine AOps.c2 (h:=(c2 ..)) (k:=?_);refine KK ?_
  refine RT ?_;refine AI ?_;rfl
 ·refine KK ?_;refine AOps.g_callf ?_;refine AOps.c2 (h:=(c1 ..)) (k:=?_);refine KK ?_
  refine RT ?_;refine AI ?_;rfl
def Dt(l:List Item)(wth wout:List Int):Nat->List (Nat×Item)
 |0=>[]
 |i+1=>Dt l wth wout i++(match l[i]? with
  |some it=>match CF it wth wout with
   |true=>[(i,it)]
   |false=>[]
  |none=>[])
def DX(l:List Item)(wth wout:List Int):List (Nat×Item):=Dt l wth wout l.length
theorem Mo{l:List Item}{wth wout:List Int}{i:Nat}(h:i<l.length)(hm:CF l[i] wth wout=true):Dt l wth wout (i+1)=Dt l wth wout i++[(i,l[i])]:=by
 simp[Dt,AE h,hm]
theorem Ud{l:List Item}{wth wout:List Int}{i:Nat}(h:i<l.length)(hm:CF l[i] wth wout=false):Dt l wth wout (i+1)=Dt l wth wout i:=by
 simp[Dt,AE h,hm]
theorem Mq(l:List Item)(wth wout:List Int)(i:Nat):(Dt l wth wout i).length<=i:=by
 induction i with
 |zero=>simp[Dt]
 |succ i ih=>
  rw[Dt,AL];split
  ·split<;>simp<;>omega
  ·simp;omega
def Pt(q:Nat×Item):AV:=.agg [iA q.1,iA q.2.ent.n,iA q.2.ent.gen,Aw false false q.2.comps]
instance {q:Nat×Item}:Frz (Pt q) (Pt q):=⟨by
 show AV.agg [_,_,_,(Aw false false q.2.comps).frz]=_
 rw[show(Aw false false q.2.comps).frz=Aw false false q.2.comps from Frz.h];rfl⟩
abbrev TN(l:List (Nat×Item)):AV:=.lst false 284 4 (l.map Pt)
theorem Wp(w:Wd)(wth wout:List Int)(h0:w.items.length<=1099511627776)(hl:∀it∈w.items,it.comps.length<=1099511627776/\∀c∈it.comps,c.vals.length<=1099511627776)(h1:wth.length<=4611686018427387904)(h2:wout.length<=4611686018427387904):
  PS Tryz.prog 100 [wdA false w,AN false wth,AN false wout] (.fn 181 [.fp [TN (DX w.items wth wout)]]):=by
 refine Sp (nt:=35) (res:=[.tmp 6]) Tryz.func100 λSf=>?_
 refine RG ?_;refine AOps.g_box ?_;refine Aj ?_;refine JD ?_;refine JE ?_;refine Ai λX=>?_;refine NL ?_
 refine AWP.adoptIn 284 4 .here (λK=>.cons (.base .nil) .nil) λK=>?_
 refine KK ?_;refine FU (λ(i K:Nat) (M:List AV) (n:Nat)=>⟨[(1,AN false wth),(2,AN false wout),(7,.ptr X 0 0),(11,HX false false w.items),(12,iA (w.items.map (AD false)).length),(13,iA i)],(K,.row 284 4 M)::(X,.row 281 1 [.sl K 0 n])::Sf⟩) (λi _ M n=>i<=w.items.length/\M=(Dt w.items wth wout i).map Pt/\n=M.length) (λi _ _ _=>w.items.length-i) 0 K [] 0 ⟨Nat.zero_le _,rfl,rfl⟩ ?_;rintro i K M n ⟨hi,hM,hn⟩;refine KK ?_;refine AWP.cond rfl (λhc=>?_) (λhc=>?_)
 ·have h:i<w.items.length:=by simpa using hc
  have hn1:n+1<=1099511627776:=by have:=Mq w.items wth wout i;rw[hn,hM,AB];omega
  obtain⟨hc1,hc2⟩:=hl _ (AK h);obtain⟨b,hb⟩:=nm (CF w.items[i] wth wout);have hm:=Ti w.items[i] wth wout (by omega) h1 h2;rw[hb]at hm;refine KK ?_;refine Ai λX=>?_;refine KK ?_;refine AOps.g_callf ?_;refine De (h:=(hm ..)) (k:=?_);refine KK ?_
  cases b
  ·refine AA rfl rfl ?_
   refine KK ?_;refine DU (i+1) K M n ⟨h,?_,hn⟩;rw[Ud h hb,hM]
  ·refine AM rfl rfl ?_
   refine AWP.rs λX7=>?_
   refine JL ?_;refine RGo.g_callf ?_;refine RGo.c1 (h:=(D0 _ hc1 hc2)) (k:=?_);refine JG ?_;refine RGo.g_lit ?_;refine RGo.goL (Pt (i,w.items[i])) ?_;refine JG ?_;refine RGo.nil (by kernel_rfl) ?_;refine KK ?_;refine DU (i+1) X7 _ _ ⟨h,?_,?_⟩
   ·rw[Mo h hb,hM,List.map_append];rfl
   ·rw[AL,hn]
 ·have h:i=w.items.length:=by rw[AQ,AB]at hc;omega
  subst h;refine FL ?_;refine AWP.iceIn (X:=K) .here (.next .here) rfl (.cons (.base (.sl (by omega))) .nil) ?_
  have hF:AV.frzs ((M.drop 0).take n)=(DX w.items wth wout).map Pt:=by
   rw[List.drop_zero,List.take_of_length_le (by omega),hM];exact Frzs.h
  rw[hF];refine AWP.iceP [7] (.next .here) ?_ (by intro d hd;simp only[BP]at hd;subst hd;rfl);refine JA ?_;refine AI ?_;rfl
theorem In(l:List Item)(wth wout:List Int):(DX l wth wout).length<=l.length:=Mq l wth wout l.length
theorem Mp{l:List Item}{wth wout:List Int}{i:Nat}{q:Nat×Item}(h:q∈Dt l wth wout i):q.2∈l:=by
 induction i with
 |zero=>simp[Dt]at h
 |succ i ih=>
  rw[Dt,CS]at h;rcases h with h|h
  ·exact ih h
  ·split at h
   ·rename_i it hit
    split at h
    ·simp only[BP]at h
     subst h;exact Ao hit
    ·cases h
   ·cases h
theorem L0(l:List Comp)(hl:l.length<=1099511627776)(hv:∀c∈l,c.vals.length<=1099511627776):PS Tryz.prog 59 [Aw false false l] (Aw true true l):=by
 have hlm:(l.map (AH false)).length=l.length:=AB _;refine Sp (nt:=27) (res:=[.tmp 2]) Tryz.func59 λSf=>?_
 have hl':(l.map (AH false)).length<=1099511627776:=by simpa using hl
 have hz0:List.replicate (l.map (AH false)).length (.agg [iA 0,.prim (.slice none 0 0)])=DR (AH true) (.agg [iA 0,.prim (.slice none 0 0)]) l 0:=by rw[GX,hlm]
 (iterate 8 refine WK ?_);refine DG ?_;refine FB (.agg [iA 0,.prim (.slice none 0 0)]) λK=>?_;refine KK ?_
 rw[hz0];refine BZ (λ(i:Nat) (M:List AV)=>⟨[(3,.sl K 0 (l.map (AH false)).length),(9,Aw false false l),(10,iA (l.map (AH false)).length),(11,iA i)],(K,.row 42 2 M)::Sf⟩) (λi M=>i<=l.length/\M=DR (AH true) (.agg [iA 0,.prim (.slice none 0 0)]) l i) (λi _=>l.length-i) 0 _ ⟨Nat.zero_le _,rfl⟩ ?_;rintro i M ⟨hi,hM⟩;refine KK ?_;refine AWP.cond rfl (λhc=>?_) (λhc=>?_)
 ·have h:i<l.length:=by simpa using hc
  have hm:i<(l.map (AH false)).length:=by simpa using h
  have hset:=Hf (AH true) (.agg [iA 0,.prim (.slice none 0 0)]) l h;have hMat:M[i]?=some (.agg [iA 0,.prim (.slice none 0 0)]):=by rw[hM];exact Ii _ _ _ h
  have hMl:M.length=l.length:=by rw[hM];exact Ky _ _ _ _ hi
  have hvl:=hv _ (AK h);obtain⟨⟨ck,cv⟩,hce⟩:=nm (l[i]);rw[hce]at hset hvl;dsimp only at hvl;have hat:(l.map (AH false))[i]?=some (AH false ⟨ck,cv⟩):=by rw[AG,AE h,hce];rfl
  have hcl:=Er cv (by omega);refine KK ?_;refine Ai λV=>?_;refine KK ?_
  refine AWP.rs λY=>?_
  refine RU ?_;(iterate 6 refine RK ?_);refine RGo.gN ?_;refine RGo.t1 (h:=hcl) (k:=?_);(iterate 3 refine RK ?_);refine RGo.nil (by kernel_rfl) ?_;(repeat refine WF ?_);have hMs:(M.set i (.agg [iA ck,.sl Y 0 (cv.map iA).length]))[i]?=some (.agg [iA ck,.sl Y 0 (cv.map iA).length]):=List.getElem?_set_self (by omega);refine AWP.closeIn (X:=Y) (Y:=K) (by exact At.f) (by exact At.f) rfl rfl (Hos.at hMs (.agg (.tail (.head .here)))) ?_;rw[List.set_set];refine KK ?_;refine A8 (i+1) _ ⟨h,?_⟩;rw[hM];exact hset
 ·have h:i=l.length:=by rw[AQ,hlm]at hc;omega
  subst h;rw[Hg _ _ _ (Nat.le_refl _)]at hM;subst hM;have hK:(l.map (AH false)).length=(l.map (AH true)).length:=by simp
  refine JA ?_;exact Br [.sl K 0 (l.map (AH false)).length] [Aw true true l] (.cons (.cell (.sl (p:=0) .here hK)) .nil)
def itY(q:Nat×Item):YO:=λC=>([iA q.1,.agg [iA q.2.ent.n,iA q.2.ent.gen,.sl C 0 (q.2.comps.map (AH true)).length]],[(C,.row 42 2 (q.2.comps.map (AH true)))])
theorem Sw(l:List (Nat×Item))(h0:l.length<=1099511627776)(hl:∀q∈l,q.2.comps.length<=1099511627776/\∀c∈q.2.comps,c.vals.length<=1099511627776):XX Tryz.prog 181 [.fp [TN l]] (l.map itY):=by
 refine⟨by kernel_rfl,λy J Jx hY Sl hJ0=>?_⟩;refine Sp (nt:=25) (res:=[]) Tryz.func181 λSf=>?_
 refine JM ?_;refine BZ (λ(i:Nat) (Sl:List AC)=>⟨[(0,.prim y),(5,TN l),(6,iA (l.map Pt).length),(7,iA i)],Sl++Sf⟩) (λi Sl=>i<=l.length/\J i Sl) (λi _=>l.length-i) 0 Sl ⟨Nat.zero_le _,hJ0⟩ ?_;rintro i Sl ⟨hi,hJ⟩;refine KK ?_;refine AWP.cond rfl (λhc=>?_) (λhc=>?_)
 ·have h:i<l.length:=by simpa using hc
  obtain⟨hc1,hc2⟩:=hl _ (AK h);have hcc:=L0 _ hc1 hc2;(repeat refine WF ?_);refine JN ?_;refine Ai λX=>?_;refine JD ?_
  refine AWP.rs λC=>?_
  (repeat refine WF ?_);refine Db 11 (by kernel_rfl) (by kernel_rfl) (by kernel_rfl) ?_;dsimp only[List.take,List.drop];(iterate 9 refine RK ?_);refine RGo.gN ?_;refine RGo.t1 (h:=hcc) (k:=?_);refine RK ?_;refine RGo.nil (by kernel_rfl) ?_;refine AOps.sub (S':=((C,.row 42 2 (l[i].2.comps.map (AH true)))::Sl)++Sf) (by exact Sub.f) ?_;refine Ns C (Si:=[]) (ob:=[(C,.row 42 2 (l[i].2.comps.map (AH true)))]) hY hJ (show(l.map itY)[i]?=some (itY l[i]) by simp[h]) rfl rfl (λSl' hk=>?_) (λSl' hk=>?_)
  ·refine KK ?_
   refine AA rfl rfl ?_;refine KK ?_;refine A8 (i+1) Sl' ⟨h,hk⟩
  ·refine KK ?_
   refine AM rfl rfl ?_;refine RT ?_;exact BI Sl' (.inr hk)
 ·have h:i=l.length:=by rw[AQ,AB]at hc;omega
  subst h;refine KK ?_;refine C9 ?_;exact BI Sl (.inl (by rw[AB];exact hJ))
set_option maxRecDepth 4000 in
set_option maxHeartbeats 4000000 in
theorem WU(ks:List Kind)(s:Sys)(o:Op)(h:OpG ks s.reads s.writes o)(hr:s.reads.length<=1099511627776)(hw:s.writes.length<=1099511627776):PS Tryz.prog 179 [An false false ks,Bs false s,opA o] (iA 0):=by
 obtain⟨h1,h2,h3,h4,h5,h6,h7,h8⟩:=h;obtain⟨act,⟨tk,tf⟩,a,b⟩:=o;dsimp only at h1 h2 h3 h4 h5 h6 h7 h8;have g1:decide (act<0)=false:=AY (by omega);have g2:decide (act>12)=false:=AY (by omega)
 have hax:∀i,i<2->∃x,([By a,By b])[i]?=some (By x)/\ArgG ks s.reads s.writes x:=λi hi=>by
  rcases Nat.lt_or_ge i 1 with e|e
  ·obtain rfl:i=0:=by omega
   exact⟨a,rfl,h3⟩
  ·obtain rfl:i=1:=by omega
   exact⟨b,rfl,h4⟩
 have hkm:(ks.map (BA false)).length=ks.length:=AB _;refine Spec.of (nt:=201) (res:=[.tmp 6]) Tryz.func179 rfl (by kernel_rfl) rfl rfl rfl λSf=>?_
 refine RG ?_;(repeat first|(refine AOps.gN ?_;first|(refine AOps.g_box ?_;refine Aj ?_))|refine WO ?_|refine Ai λX=>?_|refine Ay λY=>?_);refine NL ?_;refine RG ?_;(repeat first|refine WO ?_|refine Ai λX=>?_|refine Ay λY=>?_);refine NL ?_;refine AA rfl g2 ?_;(repeat first|(refine AOps.gN ?_;first|(refine AOps.g_lit ?_;refine DO (By a) (By b) ?_))|refine WK ?_|refine Ai λX=>?_|refine Ay λY=>?_);refine BJ (λi:Nat=>⟨[(0,An false false ks),(4,.fp (Bs false s).cells),(5,.fp (opA ⟨act,⟨tk,tf⟩,a,b⟩).cells),(27,.lst false 193 4 [By a,By b]),(28,iA 2),(29,iA i)],Sf⟩) (λi=>i<=2) (λi=>2-i) 0 (by omega) ?_;rintro i hi;(repeat first|refine WK ?_|refine Ai λX=>?_|refine Ay λY=>?_);refine AWP.cond rfl (λhc=>?_) (λhc=>?_)
 ·have hi2:i<2:=by rw[AF]at hc;omega
  obtain⟨⟨xh,xn,⟨xk,xf⟩⟩,hat,hx⟩:=hax i hi2;obtain⟨hy,hn⟩:=hx;dsimp only at hy hn;have hal:i<[By a,By b].length:=hi2;refine RG ?_;(repeat first|refine WO ?_|refine Ai λV=>?_|refine Ay λY=>?_);refine NL ?_;cases xh
  ·obtain⟨n1,n2,n3⟩:=hn rfl
   have k1:decide (xn< -1099511627776)=false:=AY (by omega);have k2:decide (xn>1099511627776)=false:=AY (by omega);refine RG ?_;(repeat first|(refine AOps.gQ ?_;first|refine AOps.goNU ?_|refine AOps.goNV ?_)|refine WO ?_|refine Ai λX=>?_|refine Ay λY=>?_);refine NL ?_;refine AA rfl (by first|rfl|assumption) ?_;(repeat first|refine WK ?_|refine Ai λX=>?_|refine Ay λY=>?_);refine Af (i+1) hi2
  ·obtain⟨n1,n2,n3⟩:=hy rfl
   have hf:=HY ks ⟨xk,xf⟩ n2;refine RG ?_;(repeat first|(refine AOps.gN ?_;first|(refine AOps.g_callf ?_;first|refine AOps.c2 (h:=(hf ..)) (k:=?_)))|(refine AOps.gQ ?_;first|refine AOps.goNU ?_|refine AOps.goNV ?_)|refine WO ?_|refine Ai λX=>?_|refine Ay λY=>?_);refine NL ?_;refine AA rfl (by first|rfl|assumption) ?_;(repeat first|refine WK ?_|refine Ai λX=>?_|refine Ay λY=>?_);refine Af (i+1) hi2
 ·clear hc
  refine JB ?_;(repeat first|refine WO ?_|refine Ai λN=>?_|refine Ay λY=>?_);refine NL ?_;(repeat first|(refine AOps.gN ?_;first|(refine AOps.g_lit ?_;refine DO (By a) (By b) ?_))|refine WK ?_|refine Ai λX=>?_|refine Ay λY=>?_);refine BJ (λi:Nat=>⟨[(0,An false false ks),(4,.fp (Bs false s).cells),(5,.fp (opA ⟨act,⟨tk,tf⟩,a,b⟩).cells),(9,.ptr N 0 0),(63,.lst false 193 4 [By a,By b]),(64,iA 2),(65,iA i)],(N,.row 191 2 [W4 ⟨0,0⟩])::Sf⟩) (λi=>i<=2) (λi=>2-i) 0 (by omega) ?_;rintro i hi;(repeat first|refine WK ?_|refine Ai λX=>?_|refine Ay λY=>?_);refine AWP.cond rfl (λhc=>?_) (λhc=>?_)
  ·have hi2:i<2:=by rw[AF]at hc;omega
   obtain⟨⟨xh,xn,xr⟩,hat,hx⟩:=hax i hi2;obtain⟨hy,hn⟩:=hx;dsimp only at hy hn;have hal:i<[By a,By b].length:=hi2;refine RG ?_;(repeat first|refine WO ?_|refine Ai λV=>?_|refine Ay λY=>?_);refine NL ?_;cases xh
   ·obtain⟨n1,n2,n3⟩:=hn rfl
    subst n3;refine RG ?_;(repeat first|(refine AOps.gN ?_;first|refine AOps.go (h:=W.neP _ _ (by kernel_rfl) KG rfl rfl) (k:=?_))|(refine AOps.gQ ?_;first|refine AOps.goNU ?_|refine AOps.goNV ?_)|refine WO ?_|refine Ai λX=>?_|refine Ay λY=>?_);refine NL ?_;refine AA rfl (by first|rfl|assumption) ?_;(repeat first|refine WK ?_|refine Ai λX=>?_|refine Ay λY=>?_);refine Af (i+1) hi2
   ·obtain⟨n1,n2,n3⟩:=hy rfl
    subst n1;refine RG ?_;(repeat first|(refine AOps.gQ ?_;first|refine AOps.goNU ?_|refine AOps.goNV ?_)|refine WO ?_|refine Ai λX=>?_|refine Ay λY=>?_);refine NL ?_;refine AA rfl (by first|rfl|assumption) ?_;(repeat first|refine WK ?_|refine Ai λX=>?_|refine Ay λY=>?_);refine Af (i+1) hi2
  ·clear hc
   refine FL ?_;have hst:=Qw act;have htw:=WJ act;obtain⟨sB,hsB⟩:=nm (GO act);obtain⟨tB,htB⟩:=nm (G9 act);obtain⟨c8,hc8⟩:=nm (decide (act=8));obtain⟨c9,hc9⟩:=nm (decide (act=9));rw[hsB]at hst h6;rw[htB]at htw h5;have hk1:∀x:Int,x∈s.writes->s.writes.contains x=true:=λx hx=>by simpa using hx
   have hcw:=λx=>D1 s.writes x (by omega)
   have hcr:=λx=>D1 s.reads x (by omega)
   have hsB':=hsB;have htB':=htB;unfold GO at hsB';unfold G9 at htB';cases sB<;>cases tB<;>cases c8<;>cases c9
   all_goals first
    |(exfalso;simp only[Bool.and_eq_true,Bool.or_eq_true,Bool.and_eq_false_iff,Bool.or_eq_false_iff,AF,AQ]at hsB' htB' hc8 hc9;omega)
    |skip
   ·have ht0:=h8 (by simp only[AQ,Bool.and_eq_false_iff]at hc8 hc9 hsB';omega)
    injection ht0 with ht1 ht2
    subst ht1 ht2;have hn9:(!decide (act=9))=true:=by rw[hc9];rfl
    obtain rfl:b=Fq:=h5 rfl;refine RG ?_;(repeat first|refine WO ?_|refine Ai λX=>?_|refine Ay λY=>?_);refine NL ?_;refine RG ?_;(repeat first|(refine AOps.gN ?_;first|(refine AOps.g_callf ?_;first|refine AOps.c1 (h:=(hst ..)) (k:=?_)|refine AOps.c1 (h:=(htw ..)) (k:=?_))|refine AOps.go (h:=W.neP _ _ (by kernel_rfl) Mk rfl rfl) (k:=?_)|refine AOps.go (h:=W.neP _ _ (by kernel_rfl) KG rfl rfl) (k:=?_))|(refine AOps.gQ ?_;first|refine AOps.goNU ?_|refine AOps.goNV ?_)|refine WO ?_|refine Ai λX=>?_|refine Ay λY=>?_);refine NL ?_;refine AA rfl (by first|rfl|assumption) ?_;refine RG ?_;(repeat first|(refine AOps.gN ?_;first|(refine AOps.g_callf ?_;first|refine AOps.c1 (h:=(hst ..)) (k:=?_)))|(refine AOps.gQ ?_;first|refine AOps.goNU ?_|refine AOps.goNV ?_)|refine WO ?_|refine Ai λX=>?_|refine Ay λY=>?_);refine NL ?_;refine AA rfl (by first|rfl|assumption) ?_;refine RG ?_;(repeat first|(refine AOps.gN ?_;first|(refine AOps.g_callf ?_;first|refine AOps.c1 (h:=(hst ..)) (k:=?_)))|(refine AOps.gQ ?_;first|refine AOps.goNU ?_|refine AOps.goNV ?_)|refine WO ?_|refine Ai λX=>?_|refine Ay λY=>?_);refine NL ?_;refine AA rfl (by first|rfl|assumption) ?_;(repeat first|(refine AOps.gN ?_;first|(refine AOps.g_lit ?_;refine DO (By a) (By Fq) ?_))|refine WK ?_|refine Ai λX=>?_|refine Ay λY=>?_);refine BJ (λi:Nat=>⟨[(0,An false false ks),(4,.fp (Bs false s).cells),(174,.lst false 193 4 [By a,By Fq]),(175,iA 2),(176,iA i)],Sf⟩) (λi=>i<=2) (λi=>2-i) 0 (by omega) ?_;rintro i hi;(repeat first|refine WK ?_|refine Ai λX=>?_|refine Ay λY=>?_);refine AWP.cond rfl (λhc=>?_) (λhc=>?_)
    ·have hi2:i<2:=by rw[AF]at hc;omega
     obtain⟨⟨xh,xn,xr⟩,hat,hx⟩:=hax i hi2;obtain⟨hy,hn⟩:=hx;dsimp only at hy hn;have hal:i<[By a,By Fq].length:=hi2;refine RG ?_;(repeat first|refine WO ?_|refine Ai λV=>?_|refine Ay λY=>?_);refine NL ?_;cases xh
     ·refine RG ?_;(repeat first|(refine AOps.gQ ?_;first|refine AOps.goNU ?_|refine AOps.goNV ?_)|refine WO ?_|refine Ai λX=>?_|refine Ay λY=>?_);refine NL ?_
      refine AA rfl (by first|rfl|assumption) ?_;(repeat first|refine WK ?_|refine Ai λX=>?_|refine Ay λY=>?_);refine Af (i+1) hi2
     ·obtain⟨n1,n2,n3⟩:=hy rfl
      have hr1:=hcr xr.kind;have hr2:=hcw xr.kind;cases hrr:s.reads.contains xr.kind
      ·rw[hrr]at hr1
       rw[show s.writes.contains xr.kind=true from by rcases n3 with e|e;rw[e]at hrr;cases hrr;exact e]at hr2;refine RG ?_;(repeat first|(refine AOps.gN ?_;first|(refine AOps.g_callf ?_;first|refine AOps.c2 (h:=(hr1 ..)) (k:=?_)|refine AOps.c2 (h:=(hr2 ..)) (k:=?_)))|(refine AOps.gQ ?_;first|refine AOps.goNU ?_|refine AOps.goNV ?_)|refine WO ?_|refine Ai λX=>?_|refine Ay λY=>?_);refine NL ?_;refine AA rfl (by first|rfl|assumption) ?_;(repeat first|refine WK ?_|refine Ai λX=>?_|refine Ay λY=>?_);refine Af (i+1) hi2
      ·rw[hrr]at hr1
       refine RG ?_;(repeat first|(refine AOps.gN ?_;first|(refine AOps.g_callf ?_;first|refine AOps.c2 (h:=(hr1 ..)) (k:=?_)))|(refine AOps.gQ ?_;first|refine AOps.goNU ?_|refine AOps.goNV ?_)|refine WO ?_|refine Ai λX=>?_|refine Ay λY=>?_);refine NL ?_;refine AA rfl (by first|rfl|assumption) ?_;(repeat first|refine WK ?_|refine Ai λX=>?_|refine Ay λY=>?_);refine Af (i+1) hi2
    ·(repeat first|refine WK ?_|refine Ai λX=>?_|refine Ay λY=>?_)
     refine RT ?_;refine AI ?_;rfl
   ·obtain rfl:act=9:=by simpa using hc9
    obtain⟨p1,p2,rfl⟩:=h7 (.inr rfl);obtain rfl:b=Fq:=h5 rfl;have k1:decide (tk<0)=false:=AY (by omega);have k2:decide (tk>=(ks.map (BA false)).length)=false:=AY (by omega);refine RG ?_;(repeat first|refine WO ?_|refine Ai λX=>?_|refine Ay λY=>?_);refine NL ?_;refine RG ?_;(repeat first|(refine AOps.gN ?_;first|(refine AOps.g_callf ?_;first|refine AOps.c1 (h:=(hst ..)) (k:=?_)|refine AOps.c1 (h:=(htw ..)) (k:=?_))|refine AOps.go (h:=W.neP _ _ (by kernel_rfl) Mk rfl rfl) (k:=?_)|refine AOps.go (h:=W.neP _ _ (by kernel_rfl) KG rfl rfl) (k:=?_))|(refine AOps.gQ ?_;first|refine AOps.goNU ?_|refine AOps.goNV ?_)|refine WO ?_|refine Ai λX=>?_|refine Ay λY=>?_);refine NL ?_;refine AA rfl (by first|rfl|assumption) ?_;refine RG ?_;(repeat first|(refine AOps.gN ?_;first|(refine AOps.g_callf ?_;first|refine AOps.c1 (h:=(hst ..)) (k:=?_)))|(refine AOps.gQ ?_;first|refine AOps.goNU ?_|refine AOps.goNV ?_)|refine WO ?_|refine Ai λX=>?_|refine Ay λY=>?_);refine NL ?_;refine AA rfl (by first|rfl|assumption) ?_;refine RG ?_;(repeat first|(refine AOps.gN ?_;first|(refine AOps.g_callf ?_;first|refine AOps.c1 (h:=(hst ..)) (k:=?_)))|(refine AOps.gQ ?_;first|refine AOps.goNU ?_|refine AOps.goNV ?_)|refine WO ?_|refine Ai λX=>?_|refine Ay λY=>?_);refine NL ?_;refine AA rfl (by first|rfl|assumption) ?_;(repeat first|(refine AOps.gN ?_;first|(refine AOps.g_lit ?_;refine DO (By a) (By Fq) ?_))|refine WK ?_|refine Ai λX=>?_|refine Ay λY=>?_);refine BJ (λi:Nat=>⟨[(0,An false false ks),(4,.fp (Bs false s).cells),(174,.lst false 193 4 [By a,By Fq]),(175,iA 2),(176,iA i)],Sf⟩) (λi=>i<=2) (λi=>2-i) 0 (by omega) ?_;rintro i hi;(repeat first|refine WK ?_|refine Ai λX=>?_|refine Ay λY=>?_);refine AWP.cond rfl (λhc=>?_) (λhc=>?_)
    ·have hi2:i<2:=by rw[AF]at hc;omega
     obtain⟨⟨xh,xn,xr⟩,hat,hx⟩:=hax i hi2;obtain⟨hy,hn⟩:=hx;dsimp only at hy hn;have hal:i<[By a,By Fq].length:=hi2;refine RG ?_;(repeat first|refine WO ?_|refine Ai λV=>?_|refine Ay λY=>?_);refine NL ?_;cases xh
     ·refine RG ?_;(repeat first|(refine AOps.gQ ?_;first|refine AOps.goNU ?_|refine AOps.goNV ?_)|refine WO ?_|refine Ai λX=>?_|refine Ay λY=>?_);refine NL ?_
      refine AA rfl (by first|rfl|assumption) ?_;(repeat first|refine WK ?_|refine Ai λX=>?_|refine Ay λY=>?_);refine Af (i+1) hi2
     ·obtain⟨n1,n2,n3⟩:=hy rfl
      have hr1:=hcr xr.kind;have hr2:=hcw xr.kind;cases hrr:s.reads.contains xr.kind
      ·rw[hrr]at hr1
       rw[show s.writes.contains xr.kind=true from by rcases n3 with e|e;rw[e]at hrr;cases hrr;exact e]at hr2;refine RG ?_;(repeat first|(refine AOps.gN ?_;first|(refine AOps.g_callf ?_;first|refine AOps.c2 (h:=(hr1 ..)) (k:=?_)|refine AOps.c2 (h:=(hr2 ..)) (k:=?_)))|(refine AOps.gQ ?_;first|refine AOps.goNU ?_|refine AOps.goNV ?_)|refine WO ?_|refine Ai λX=>?_|refine Ay λY=>?_);refine NL ?_;refine AA rfl (by first|rfl|assumption) ?_;(repeat first|refine WK ?_|refine Ai λX=>?_|refine Ay λY=>?_);refine Af (i+1) hi2
      ·rw[hrr]at hr1
       refine RG ?_;(repeat first|(refine AOps.gN ?_;first|(refine AOps.g_callf ?_;first|refine AOps.c2 (h:=(hr1 ..)) (k:=?_)))|(refine AOps.gQ ?_;first|refine AOps.goNU ?_|refine AOps.goNV ?_)|refine WO ?_|refine Ai λX=>?_|refine Ay λY=>?_);refine NL ?_;refine AA rfl (by first|rfl|assumption) ?_;(repeat first|refine WK ?_|refine Ai λX=>?_|refine Ay λY=>?_);refine Af (i+1) hi2
    ·(repeat first|refine WK ?_|refine Ai λX=>?_|refine Ay λY=>?_)
     refine RT ?_;refine AI ?_;rfl
   ·obtain rfl:act=8:=by simpa using hc8
    obtain⟨p1,p2,rfl⟩:=h7 (.inl rfl);obtain rfl:b=Fq:=h5 rfl;have k1:decide (tk<0)=false:=AY (by omega);have k2:decide (tk>=(ks.map (BA false)).length)=false:=AY (by omega);refine RG ?_;(repeat first|refine WO ?_|refine Ai λX=>?_|refine Ay λY=>?_);refine NL ?_;refine RG ?_;(repeat first|(refine AOps.gN ?_;first|(refine AOps.g_callf ?_;first|refine AOps.c1 (h:=(hst ..)) (k:=?_)|refine AOps.c1 (h:=(htw ..)) (k:=?_))|refine AOps.go (h:=W.neP _ _ (by kernel_rfl) Mk rfl rfl) (k:=?_)|refine AOps.go (h:=W.neP _ _ (by kernel_rfl) KG rfl rfl) (k:=?_))|(refine AOps.gQ ?_;first|refine AOps.goNU ?_|refine AOps.goNV ?_)|refine WO ?_|refine Ai λX=>?_|refine Ay λY=>?_);refine NL ?_;refine AA rfl (by first|rfl|assumption) ?_;refine RG ?_;(repeat first|(refine AOps.gN ?_;first|(refine AOps.g_callf ?_;first|refine AOps.c1 (h:=(hst ..)) (k:=?_)))|(refine AOps.gQ ?_;first|refine AOps.goNU ?_|refine AOps.goNV ?_)|refine WO ?_|refine Ai λX=>?_|refine Ay λY=>?_);refine NL ?_;refine AA rfl (by first|rfl|assumption) ?_;refine RG ?_;(repeat first|(refine AOps.gN ?_;first|(refine AOps.g_callf ?_;first|refine AOps.c1 (h:=(hst ..)) (k:=?_)))|(refine AOps.gQ ?_;first|refine AOps.goNU ?_|refine AOps.goNV ?_)|refine WO ?_|refine Ai λX=>?_|refine Ay λY=>?_);refine NL ?_;refine AA rfl (by first|rfl|assumption) ?_;(repeat first|(refine AOps.gN ?_;first|(refine AOps.g_lit ?_;refine DO (By a) (By Fq) ?_))|refine WK ?_|refine Ai λX=>?_|refine Ay λY=>?_);refine BJ (λi:Nat=>⟨[(0,An false false ks),(4,.fp (Bs false s).cells),(174,.lst false 193 4 [By a,By Fq]),(175,iA 2),(176,iA i)],Sf⟩) (λi=>i<=2) (λi=>2-i) 0 (by omega) ?_;rintro i hi;(repeat first|refine WK ?_|refine Ai λX=>?_|refine Ay λY=>?_);refine AWP.cond rfl (λhc=>?_) (λhc=>?_)
    ·have hi2:i<2:=by rw[AF]at hc;omega
     obtain⟨⟨xh,xn,xr⟩,hat,hx⟩:=hax i hi2;obtain⟨hy,hn⟩:=hx;dsimp only at hy hn;have hal:i<[By a,By Fq].length:=hi2;refine RG ?_;(repeat first|refine WO ?_|refine Ai λV=>?_|refine Ay λY=>?_);refine NL ?_;cases xh
     ·refine RG ?_;(repeat first|(refine AOps.gQ ?_;first|refine AOps.goNU ?_|refine AOps.goNV ?_)|refine WO ?_|refine Ai λX=>?_|refine Ay λY=>?_);refine NL ?_
      refine AA rfl (by first|rfl|assumption) ?_;(repeat first|refine WK ?_|refine Ai λX=>?_|refine Ay λY=>?_);refine Af (i+1) hi2
     ·obtain⟨n1,n2,n3⟩:=hy rfl
      have hr1:=hcr xr.kind;have hr2:=hcw xr.kind;cases hrr:s.reads.contains xr.kind
      ·rw[hrr]at hr1
       rw[show s.writes.contains xr.kind=true from by rcases n3 with e|e;rw[e]at hrr;cases hrr;exact e]at hr2;refine RG ?_;(repeat first|(refine AOps.gN ?_;first|(refine AOps.g_callf ?_;first|refine AOps.c2 (h:=(hr1 ..)) (k:=?_)|refine AOps.c2 (h:=(hr2 ..)) (k:=?_)))|(refine AOps.gQ ?_;first|refine AOps.goNU ?_|refine AOps.goNV ?_)|refine WO ?_|refine Ai λX=>?_|refine Ay λY=>?_);refine NL ?_;refine AA rfl (by first|rfl|assumption) ?_;(repeat first|refine WK ?_|refine Ai λX=>?_|refine Ay λY=>?_);refine Af (i+1) hi2
      ·rw[hrr]at hr1
       refine RG ?_;(repeat first|(refine AOps.gN ?_;first|(refine AOps.g_callf ?_;first|refine AOps.c2 (h:=(hr1 ..)) (k:=?_)))|(refine AOps.gQ ?_;first|refine AOps.goNU ?_|refine AOps.goNV ?_)|refine WO ?_|refine Ai λX=>?_|refine Ay λY=>?_);refine NL ?_;refine AA rfl (by first|rfl|assumption) ?_;(repeat first|refine WK ?_|refine Ai λX=>?_|refine Ay λY=>?_);refine Af (i+1) hi2
    ·(repeat first|refine WK ?_|refine Ai λX=>?_|refine Ay λY=>?_)
     refine RT ?_;refine AI ?_;rfl
   ·have ht0:=h8 (by simp only[AQ,Bool.and_eq_false_iff]at hc8 hc9 hsB';omega)
    injection ht0 with ht1 ht2
    subst ht1 ht2;have hn9:(!decide (act=9))=true:=by rw[hc9];rfl
    refine RG ?_;(repeat first|refine WO ?_|refine Ai λX=>?_|refine Ay λY=>?_);refine NL ?_;refine RG ?_;(repeat first|(refine AOps.gN ?_;first|(refine AOps.g_callf ?_;first|refine AOps.c1 (h:=(hst ..)) (k:=?_)|refine AOps.c1 (h:=(htw ..)) (k:=?_))|refine AOps.go (h:=W.neP _ _ (by kernel_rfl) Mk rfl rfl) (k:=?_)|refine AOps.go (h:=W.neP _ _ (by kernel_rfl) KG rfl rfl) (k:=?_))|(refine AOps.gQ ?_;first|refine AOps.goNU ?_|refine AOps.goNV ?_)|refine WO ?_|refine Ai λX=>?_|refine Ay λY=>?_);refine NL ?_;refine AA rfl (by first|rfl|assumption) ?_;refine RG ?_;(repeat first|(refine AOps.gN ?_;first|(refine AOps.g_callf ?_;first|refine AOps.c1 (h:=(hst ..)) (k:=?_)))|(refine AOps.gQ ?_;first|refine AOps.goNU ?_|refine AOps.goNV ?_)|refine WO ?_|refine Ai λX=>?_|refine Ay λY=>?_);refine NL ?_;refine AA rfl (by first|rfl|assumption) ?_;refine RG ?_;(repeat first|(refine AOps.gN ?_;first|(refine AOps.g_callf ?_;first|refine AOps.c1 (h:=(hst ..)) (k:=?_)))|(refine AOps.gQ ?_;first|refine AOps.goNU ?_|refine AOps.goNV ?_)|refine WO ?_|refine Ai λX=>?_|refine Ay λY=>?_);refine NL ?_;refine AA rfl (by first|rfl|assumption) ?_;(repeat first|(refine AOps.gN ?_;first|(refine AOps.g_lit ?_;refine DO (By a) (By b) ?_))|refine WK ?_|refine Ai λX=>?_|refine Ay λY=>?_);refine BJ (λi:Nat=>⟨[(0,An false false ks),(4,.fp (Bs false s).cells),(174,.lst false 193 4 [By a,By b]),(175,iA 2),(176,iA i)],Sf⟩) (λi=>i<=2) (λi=>2-i) 0 (by omega) ?_;rintro i hi;(repeat first|refine WK ?_|refine Ai λX=>?_|refine Ay λY=>?_);refine AWP.cond rfl (λhc=>?_) (λhc=>?_)
    ·have hi2:i<2:=by rw[AF]at hc;omega
     obtain⟨⟨xh,xn,xr⟩,hat,hx⟩:=hax i hi2;obtain⟨hy,hn⟩:=hx;dsimp only at hy hn;have hal:i<[By a,By b].length:=hi2;refine RG ?_;(repeat first|refine WO ?_|refine Ai λV=>?_|refine Ay λY=>?_);refine NL ?_;cases xh
     ·refine RG ?_;(repeat first|(refine AOps.gQ ?_;first|refine AOps.goNU ?_|refine AOps.goNV ?_)|refine WO ?_|refine Ai λX=>?_|refine Ay λY=>?_);refine NL ?_
      refine AA rfl (by first|rfl|assumption) ?_;(repeat first|refine WK ?_|refine Ai λX=>?_|refine Ay λY=>?_);refine Af (i+1) hi2
     ·obtain⟨n1,n2,n3⟩:=hy rfl
      have hr1:=hcr xr.kind;have hr2:=hcw xr.kind;cases hrr:s.reads.contains xr.kind
      ·rw[hrr]at hr1
       rw[show s.writes.contains xr.kind=true from by rcases n3 with e|e;rw[e]at hrr;cases hrr;exact e]at hr2;refine RG ?_;(repeat first|(refine AOps.gN ?_;first|(refine AOps.g_callf ?_;first|refine AOps.c2 (h:=(hr1 ..)) (k:=?_)|refine AOps.c2 (h:=(hr2 ..)) (k:=?_)))|(refine AOps.gQ ?_;first|refine AOps.goNU ?_|refine AOps.goNV ?_)|refine WO ?_|refine Ai λX=>?_|refine Ay λY=>?_);refine NL ?_;refine AA rfl (by first|rfl|assumption) ?_;(repeat first|refine WK ?_|refine Ai λX=>?_|refine Ay λY=>?_);refine Af (i+1) hi2
      ·rw[hrr]at hr1
       refine RG ?_;(repeat first|(refine AOps.gN ?_;first|(refine AOps.g_callf ?_;first|refine AOps.c2 (h:=(hr1 ..)) (k:=?_)))|(refine AOps.gQ ?_;first|refine AOps.goNU ?_|refine AOps.goNV ?_)|refine WO ?_|refine Ai λX=>?_|refine Ay λY=>?_);refine NL ?_;refine AA rfl (by first|rfl|assumption) ?_;(repeat first|refine WK ?_|refine Ai λX=>?_|refine Ay λY=>?_);refine Af (i+1) hi2
    ·(repeat first|refine WK ?_|refine Ai λX=>?_|refine Ay λY=>?_)
     refine RT ?_;refine AI ?_;rfl
   ·obtain rfl:b=Fq:=h5 rfl
    obtain⟨hR,hW⟩:=h6 rfl;have hf:=HY ks ⟨tk,tf⟩ hR;have hcw1:=hcw tk;rw[hW]at hcw1;refine RG ?_;(repeat first|refine WO ?_|refine Ai λX=>?_|refine Ay λY=>?_);refine NL ?_;refine RG ?_;(repeat first|(refine AOps.gN ?_;first|(refine AOps.g_callf ?_;first|refine AOps.c1 (h:=(hst ..)) (k:=?_)|refine AOps.c1 (h:=(htw ..)) (k:=?_))|refine AOps.go (h:=W.neP _ _ (by kernel_rfl) Mk rfl rfl) (k:=?_)|refine AOps.go (h:=W.neP _ _ (by kernel_rfl) KG rfl rfl) (k:=?_))|(refine AOps.gQ ?_;first|refine AOps.goNU ?_|refine AOps.goNV ?_)|refine WO ?_|refine Ai λX=>?_|refine Ay λY=>?_);refine NL ?_;refine AA rfl (by first|rfl|assumption) ?_;refine RG ?_;(repeat first|(refine AOps.gN ?_;first|(refine AOps.g_callf ?_;first|refine AOps.c1 (h:=(hst ..)) (k:=?_)|refine AOps.c2 (h:=(hf ..)) (k:=?_)))|(refine AOps.gQ ?_;first|refine AOps.goNU ?_|refine AOps.goNV ?_)|refine WO ?_|refine Ai λX=>?_|refine Ay λY=>?_);refine NL ?_;refine AA rfl (by first|rfl|assumption) ?_;refine RG ?_;(repeat first|(refine AOps.gN ?_;first|(refine AOps.g_callf ?_;first|refine AOps.c1 (h:=(hst ..)) (k:=?_)|refine AOps.c2 (h:=(hcw1 ..)) (k:=?_)))|(refine AOps.gQ ?_;first|refine AOps.goNU ?_|refine AOps.goNV ?_)|refine WO ?_|refine Ai λX=>?_|refine Ay λY=>?_);refine NL ?_;refine AA rfl (by first|rfl|assumption) ?_;(repeat first|(refine AOps.gN ?_;first|(refine AOps.g_lit ?_;refine DO (By a) (By Fq) ?_))|refine WK ?_|refine Ai λX=>?_|refine Ay λY=>?_);refine BJ (λi:Nat=>⟨[(0,An false false ks),(4,.fp (Bs false s).cells),(174,.lst false 193 4 [By a,By Fq]),(175,iA 2),(176,iA i)],Sf⟩) (λi=>i<=2) (λi=>2-i) 0 (by omega) ?_;rintro i hi;(repeat first|refine WK ?_|refine Ai λX=>?_|refine Ay λY=>?_);refine AWP.cond rfl (λhc=>?_) (λhc=>?_)
    ·have hi2:i<2:=by rw[AF]at hc;omega
     obtain⟨⟨xh,xn,xr⟩,hat,hx⟩:=hax i hi2;obtain⟨hy,hn⟩:=hx;dsimp only at hy hn;have hal:i<[By a,By Fq].length:=hi2;refine RG ?_;(repeat first|refine WO ?_|refine Ai λV=>?_|refine Ay λY=>?_);refine NL ?_;cases xh
     ·refine RG ?_;(repeat first|(refine AOps.gQ ?_;first|refine AOps.goNU ?_|refine AOps.goNV ?_)|refine WO ?_|refine Ai λX=>?_|refine Ay λY=>?_);refine NL ?_
      refine AA rfl (by first|rfl|assumption) ?_;(repeat first|refine WK ?_|refine Ai λX=>?_|refine Ay λY=>?_);refine Af (i+1) hi2
     ·obtain⟨n1,n2,n3⟩:=hy rfl
      have hr1:=hcr xr.kind;have hr2:=hcw xr.kind;cases hrr:s.reads.contains xr.kind
      ·rw[hrr]at hr1
       rw[show s.writes.contains xr.kind=true from by rcases n3 with e|e;rw[e]at hrr;cases hrr;exact e]at hr2;refine RG ?_;(repeat first|(refine AOps.gN ?_;first|(refine AOps.g_callf ?_;first|refine AOps.c2 (h:=(hr1 ..)) (k:=?_)|refine AOps.c2 (h:=(hr2 ..)) (k:=?_)))|(refine AOps.gQ ?_;first|refine AOps.goNU ?_|refine AOps.goNV ?_)|refine WO ?_|refine Ai λX=>?_|refine Ay λY=>?_);refine NL ?_;refine AA rfl (by first|rfl|assumption) ?_;(repeat first|refine WK ?_|refine Ai λX=>?_|refine Ay λY=>?_);refine Af (i+1) hi2
      ·rw[hrr]at hr1
       refine RG ?_;(repeat first|(refine AOps.gN ?_;first|(refine AOps.g_callf ?_;first|refine AOps.c2 (h:=(hr1 ..)) (k:=?_)))|(refine AOps.gQ ?_;first|refine AOps.goNU ?_|refine AOps.goNV ?_)|refine WO ?_|refine Ai λX=>?_|refine Ay λY=>?_);refine NL ?_;refine AA rfl (by first|rfl|assumption) ?_;(repeat first|refine WK ?_|refine Ai λX=>?_|refine Ay λY=>?_);refine Af (i+1) hi2
    ·(repeat first|refine WK ?_|refine Ai λX=>?_|refine Ay λY=>?_)
     refine RT ?_;refine AI ?_;rfl
   ·obtain⟨hR,hW⟩:=h6 rfl
    have hf:=HY ks ⟨tk,tf⟩ hR;have hcw1:=hcw tk;rw[hW]at hcw1;refine RG ?_;(repeat first|refine WO ?_|refine Ai λX=>?_|refine Ay λY=>?_);refine NL ?_;refine RG ?_;(repeat first|(refine AOps.gN ?_;first|(refine AOps.g_callf ?_;first|refine AOps.c1 (h:=(hst ..)) (k:=?_)|refine AOps.c1 (h:=(htw ..)) (k:=?_))|refine AOps.go (h:=W.neP _ _ (by kernel_rfl) Mk rfl rfl) (k:=?_)|refine AOps.go (h:=W.neP _ _ (by kernel_rfl) KG rfl rfl) (k:=?_))|(refine AOps.gQ ?_;first|refine AOps.goNU ?_|refine AOps.goNV ?_)|refine WO ?_|refine Ai λX=>?_|refine Ay λY=>?_);refine NL ?_;refine AA rfl (by first|rfl|assumption) ?_;refine RG ?_;(repeat first|(refine AOps.gN ?_;first|(refine AOps.g_callf ?_;first|refine AOps.c1 (h:=(hst ..)) (k:=?_)|refine AOps.c2 (h:=(hf ..)) (k:=?_)))|(refine AOps.gQ ?_;first|refine AOps.goNU ?_|refine AOps.goNV ?_)|refine WO ?_|refine Ai λX=>?_|refine Ay λY=>?_);refine NL ?_;refine AA rfl (by first|rfl|assumption) ?_;refine RG ?_;(repeat first|(refine AOps.gN ?_;first|(refine AOps.g_callf ?_;first|refine AOps.c1 (h:=(hst ..)) (k:=?_)|refine AOps.c2 (h:=(hcw1 ..)) (k:=?_)))|(refine AOps.gQ ?_;first|refine AOps.goNU ?_|refine AOps.goNV ?_)|refine WO ?_|refine Ai λX=>?_|refine Ay λY=>?_);refine NL ?_;refine AA rfl (by first|rfl|assumption) ?_;(repeat first|(refine AOps.gN ?_;first|(refine AOps.g_lit ?_;refine DO (By a) (By b) ?_))|refine WK ?_|refine Ai λX=>?_|refine Ay λY=>?_);refine BJ (λi:Nat=>⟨[(0,An false false ks),(4,.fp (Bs false s).cells),(174,.lst false 193 4 [By a,By b]),(175,iA 2),(176,iA i)],Sf⟩) (λi=>i<=2) (λi=>2-i) 0 (by omega) ?_;rintro i hi;(repeat first|refine WK ?_|refine Ai λX=>?_|refine Ay λY=>?_);refine AWP.cond rfl (λhc=>?_) (λhc=>?_)
    ·have hi2:i<2:=by rw[AF]at hc;omega
     obtain⟨⟨xh,xn,xr⟩,hat,hx⟩:=hax i hi2;obtain⟨hy,hn⟩:=hx;dsimp only at hy hn;have hal:i<[By a,By b].length:=hi2;refine RG ?_;(repeat first|refine WO ?_|refine Ai λV=>?_|refine Ay λY=>?_);refine NL ?_;cases xh
     ·refine RG ?_;(repeat first|(refine AOps.gQ ?_;first|refine AOps.goNU ?_|refine AOps.goNV ?_)|refine WO ?_|refine Ai λX=>?_|refine Ay λY=>?_);refine NL ?_
      refine AA rfl (by first|rfl|assumption) ?_;(repeat first|refine WK ?_|refine Ai λX=>?_|refine Ay λY=>?_);refine Af (i+1) hi2
     ·obtain⟨n1,n2,n3⟩:=hy rfl
      have hr1:=hcr xr.kind;have hr2:=hcw xr.kind;cases hrr:s.reads.contains xr.kind
      ·rw[hrr]at hr1
       rw[show s.writes.contains xr.kind=true from by rcases n3 with e|e;rw[e]at hrr;cases hrr;exact e]at hr2;refine RG ?_;(repeat first|(refine AOps.gN ?_;first|(refine AOps.g_callf ?_;first|refine AOps.c2 (h:=(hr1 ..)) (k:=?_)|refine AOps.c2 (h:=(hr2 ..)) (k:=?_)))|(refine AOps.gQ ?_;first|refine AOps.goNU ?_|refine AOps.goNV ?_)|refine WO ?_|refine Ai λX=>?_|refine Ay λY=>?_);refine NL ?_;refine AA rfl (by first|rfl|assumption) ?_;(repeat first|refine WK ?_|refine Ai λX=>?_|refine Ay λY=>?_);refine Af (i+1) hi2
      ·rw[hrr]at hr1
       refine RG ?_;(repeat first|(refine AOps.gN ?_;first|(refine AOps.g_callf ?_;first|refine AOps.c2 (h:=(hr1 ..)) (k:=?_)))|(refine AOps.gQ ?_;first|refine AOps.goNU ?_|refine AOps.goNV ?_)|refine WO ?_|refine Ai λX=>?_|refine Ay λY=>?_);refine NL ?_;refine AA rfl (by first|rfl|assumption) ?_;(repeat first|refine WK ?_|refine Ai λX=>?_|refine Ay λY=>?_);refine Af (i+1) hi2
    ·(repeat first|refine WK ?_|refine Ai λX=>?_|refine Ay λY=>?_)
     refine RT ?_;refine AI ?_;rfl
theorem W5(ks:List Kind)(s:Sys)(o:Op)(h:OpG ks s.reads s.writes o)(hr:s.reads.length<=1099511627776)(hw:s.writes.length<=1099511627776):PS Tryz.prog 179 [An false false ks,Bs false s,opA o] (iA 0):=WU ks s o h hr hw
theorem Oh(n:Nat)(hn:n*8<=140737488355328):PS Tryz.prog 233 [.prim (.slice none 0 0),iA n] (.lst true 3 1 []):=by
 refine Sp (nt:=27) (res:=[.tmp 4]) Tryz.func233 λSf=>?_
 refine KK ?_;refine AA rfl (AY (by omega)) ?_
 (iterate 6 refine WK ?_);refine AOps.gN ?_;refine AOps.p (W.capN rfl) rfl ?_;refine KK ?_
 refine AWP.cond rfl (λhc=>?_) (λhc=>?_)
 ·have hc:0<n:=by rw[AF]at hc;omega
  (repeat first|(refine AOps.gN ?_;first|refine AOps.p (W.capN rfl) rfl ?_|refine AOps.p (Ui rfl rfl) rfl ?_|(refine PK ?_;refine Qq (n:=n) (λY=>?_) hc hn (hq:=by omega))|refine AOps.p (W.hi (a:=0) rfl rfl (by exact At.f) rfl (by omega)) rfl ?_)|refine WK ?_|refine Ai λX=>?_|refine Ay λY=>?_);refine AWP.shrink (X:=Y) 0 ?_;refine RT ?_;exact⟨[.sl Y 0 0],[.lst true 3 1 []],_,[],.cons (.tmp rfl) rfl .nil,.cons (.cell (.sl (p:=0) .here rfl)) .nil,by exact Sub.f,rfl,rfl⟩
 ·refine KK ?_
  refine RT ?_;exact⟨[.prim (.slice none 0 0)],[.lst true 3 1 []],_,[],.cons (.tmp rfl) rfl .nil,.cons (.cell .nil) .nil,by exact Sub.f,rfl,rfl⟩
def FV(ls:List (List Int))(i:Nat):Nat:=((ls.take i).flatten).length
theorem I1{ls:List (List Int)}{i:Nat}(h:i<ls.length):FV ls (i+1)=FV ls i+ls[i].length:=by
 unfold FV;rw[List.take_succ_eq_append_getElem h,List.flatten_append,AL];simp
theorem SC(ls:List (List Int))(i:Nat):FV ls i<=ls.flatten.length:=by
 unfold FV;have h:((ls.take i).flatten++(ls.drop i).flatten)=ls.flatten:=by rw[<-List.flatten_append,List.take_append_drop]
 rw[<-h,AL];omega
theorem LD(ls:List (List Int))(hl:ls.length<=4611686018427387903)(hb:ls.flatten.length*8<=140737488355328):PS Tryz.prog 171 [.lst false 22 1 (ls.map λl=>.lst false 3 1 (l.map iA))] (.lst true 3 1 (ls.flatten.map iA)):=by
 refine Sp (nt:=36) (res:=[.tmp 2]) Tryz.func171 λSf=>?_
 have hle:=SC ls;refine KK ?_;refine BZ (λ(i:Nat) (s:Int)=>⟨[(0,.lst false 22 1 (ls.map λl=>.lst false 3 1 (l.map iA))),(3,iA s),(9,.lst false 22 1 (ls.map λl=>.lst false 3 1 (l.map iA))),(10,iA (ls.map λl=>AV.lst false 3 1 (l.map iA)).length),(11,iA i)],Sf⟩) (λi s=>i<=ls.length/\s=FV ls i) (λi _=>ls.length-i) 0 0 ⟨Nat.zero_le _,rfl⟩ ?_;rintro i s ⟨hi,hs⟩;have h0:=hle i;refine KK ?_;refine AWP.cond rfl (λhc=>?_) (λhc=>?_)
 ·have h:i<ls.length:=by rw[AF,AB]at hc;omega
  have hs1:=I1 h;have h1:=hle (i+1);have hml:(ls[i].map iA).length=ls[i].length:=AB _;refine KK ?_;refine AA rfl (AY (by omega)) ?_;refine KK ?_;exact A8 (i+1) (s+(ls[i].map iA).length) ⟨h,by omega⟩
 ·have h:i=ls.length:=by rw[AQ,AB]at hc;omega
  subst h;have hfull:FV ls ls.length=ls.flatten.length:=by unfold FV;rw[List.take_length]
  subst hs;have hg:=Oh (FV ls ls.length) (by rw[hfull];exact hb);refine KK ?_;refine AOps.g_callf ?_;refine V9 (h:=hg) λY=>?_;refine KK ?_
  refine FU (λ(i Y m:Nat) (L:List AV)=>⟨[(6,.sl Y 0 m),(25,.lst false 22 1 (ls.map λl=>.lst false 3 1 (l.map iA))),(26,iA (ls.map λl=>AV.lst false 3 1 (l.map iA)).length),(27,iA i)],(Y,.row 3 1 L)::Sf⟩) (λi _ m L=>i<=ls.length/\m=L.length/\L=((ls.take i).flatten).map iA) (λi _ _ _=>ls.length-i) 0 Y 0 [] ⟨Nat.zero_le _,rfl,rfl⟩ ?_;rintro i Y m L ⟨hi,hm,hL⟩;have hLl:L.length=FV ls i:=by rw[hL,AB];rfl
  refine KK ?_;refine AWP.cond rfl (λhd=>?_) (λhd=>?_)
  ·have h:i<ls.length:=by rw[AF,AB]at hd;omega
   have hs1:=I1 h;have h1:=hle (i+1);have hml:(ls[i].map iA).length=ls[i].length:=AB _;have hbd:(m+(ls[i].map iA).length)*8<=140737488355328:=by omega
   refine KK ?_;refine Ay λY=>?_;refine KK ?_
   refine DU (i+1) Y _ _ ⟨h,?_,?_⟩
   ·rw[AL,hm]
   ·rw[List.take_succ_eq_append_getElem h,List.flatten_append,List.map_append,<-hL];simp
  ·have h:i=ls.length:=by rw[AQ,AB]at hd;omega
   subst h;rw[List.take_length]at hL;subst hL;refine JA ?_;exact⟨[.sl Y 0 m],[.lst true 3 1 (ls.flatten.map iA)],_,[],.cons (.tmp rfl) rfl .nil,.cons (.cell (.sl (p:=0) .here hm)) .nil,by exact Sub.f,rfl,rfl⟩
structure SysG(ks:List Kind)(s:Sys):Prop where
 name:Cx s.name=true
 len:s.ops.length<=20
 o:∀l∈[s.wth,s.wout,s.reads,s.writes],l.Pairwise (· < ·)/\(∀x∈l,0<=x/\x<ks.length)/\l.length<=16
 clash:(s.wth.any λx=>s.wout.contains x)=false
 typ:((s.reads++s.writes).any λx=>!s.wth.contains x)=false
 spawn:(CH ks s.spawn).2=0
 sp:s.spawn.length<=1099511627776
 ops:∀o∈s.ops,OpG ks s.reads s.writes o
theorem Iw(ks:List Kind)(s:Sys)(hk:Ag ks=0)(h12:ks.length<=12)(h:SysG ks s):PS Tryz.prog 99 [An false false ks,Bs false s] (iA 0):=by
 have hck:=LI ks;rw[hk]at hck;have hnm:=NJ s.name;rw[h.name]at hnm;have hl1:=h.o s.wth (by simp);have hl2:=h.o s.wout (by simp);have hl3:=h.o s.reads (by simp);have hl4:=h.o s.writes (by simp);have hft:=Hq ks s.spawn h12 h.sp;rw[h.spawn]at hft;have hcl:=Co s.wth 177 [.fp (Bs false s).cells] (λx=>s.wout.contains x) rfl (by omega) (λx _=>M9 s x (by omega));rw[h.clash]at hcl;have hty:=Co (s.reads++s.writes) 178 [.fp (Bs false s).cells] (λx=>!s.wth.contains x) rfl (by rw[AL];omega) (λx _=>M8 s x (by omega));rw[h.typ]at hty;have hom:(s.ops.map opA).length=s.ops.length:=AB _;have hol:=h.len;have hle:decide (((s.ops.map opA).length:Int)>20)=false:=AY (by omega);refine Sp (nt:=85) (res:=[.tmp 4]) Tryz.func99 λSf=>?_
 refine RG ?_;refine AOps.g_box ?_;refine Aj ?_;refine JD ?_;refine KK ?_;refine AOps.g_callf ?_;refine AOps.c1 (h:=(hck ..)) (k:=?_);refine KK ?_;refine AA rfl rfl ?_;refine KK ?_;refine AOps.g_callf ?_;refine AOps.c1 (h:=(hnm ..)) (k:=?_);refine KK ?_;refine AA rfl rfl ?_;refine KK ?_;refine AA rfl hle ?_
 have hax:∀i,i<4->∃l,([AN false s.wth,AN false s.wout,AN false s.reads,AN false s.writes])[i]?=some (AN false l)/\l.Pairwise (· < ·)/\(∀x∈l,0<=x/\x<ks.length)/\l.length<=16:=λi hi=>by
  rcases(show i=0\/i=1\/i=2\/i=3 by omega)with rfl|rfl|rfl|rfl
  ·exact⟨_,rfl,hl1⟩
  ·exact⟨_,rfl,hl2⟩
  ·exact⟨_,rfl,hl3⟩
  ·exact⟨_,rfl,hl4⟩
 refine KK ?_;refine BJ (λi:Nat=>⟨[(0,An false false ks),(3,.fp (Bs false s).cells),(35,.lst false 22 1 [AN false s.wth,AN false s.wout,AN false s.reads,AN false s.writes]),(36,iA 4),(37,iA i)],Sf⟩) (λi=>i<=4) (λi=>4-i) 0 (by omega) ?_;rintro i hi;refine KK ?_;refine AWP.cond rfl (λhc=>?_) (λhc=>?_)
 ·have hi2:i<4:=by rw[AF]at hc;omega
  obtain⟨l,hat,p1,p2,p3⟩:=hax i hi2;have hst:=WL ks l p1 p2 (by omega);have hal:i<[AN false s.wth,AN false s.wout,AN false s.reads,AN false s.writes].length:=hi2;refine KK ?_;refine AOps.g_callf ?_;refine AOps.c2 (h:=(hst ..)) (k:=?_);refine KK ?_;refine AA rfl rfl ?_;refine KK ?_;refine Af (i+1) hi2
 ·clear hc
  refine KK ?_;refine AOps.g_callf ?_;refine AOps.c2 (h:=(hcl ..)) (k:=?_);refine KK ?_;refine AA rfl rfl ?_;have hcc:=LD [s.reads,s.writes] (by simp) (by simp;omega);rw[show[s.reads,s.writes].flatten=s.reads++s.writes from by simp]at hcc
  (iterate 8 refine WK ?_);refine AOps.g_lit ?_;refine DO (AN false s.reads) (AN false s.writes) ?_;refine AOps.g_callf ?_;refine AOps.c1 (h:=(hcc ..)) (k:=?_);refine WK ?_;refine AOps.g_callf ?_;refine AOps.c2 (h:=(hty ..)) (k:=?_);refine KK ?_
  refine AA rfl rfl ?_;refine KK ?_;refine AOps.g_callf ?_;refine AOps.c2 (h:=(hft ..)) (k:=?_);refine KK ?_;refine AA rfl rfl ?_;refine KK ?_;refine BJ (λi:Nat=>⟨[(0,An false false ks),(3,.fp (Bs false s).cells),(71,VN false s.ops),(72,iA (s.ops.map opA).length),(73,iA i)],Sf⟩) (λi=>i<=s.ops.length) (λi=>s.ops.length-i) 0 (by omega) ?_;rintro i hi;refine KK ?_;refine AWP.cond rfl (λhc=>?_) (λhc=>?_)
  ·have hi2:i<s.ops.length:=by rw[AF,hom]at hc;omega
   have hop:=W5 ks s s.ops[i] (h.ops _ (AK hi2)) (by omega) (by omega);have hat:(s.ops.map opA)[i]?=some (opA s.ops[i]):=by rw[AG,AE hi2];rfl
   refine JN ?_;refine Ai λV=>?_;refine JD ?_
   refine JN ?_;refine AOps.g_callf ?_;refine De (h:=(hop ..)) (k:=?_);refine JD ?_;refine KK ?_;refine AA rfl rfl ?_;refine KK ?_;refine Af (i+1) hi2
  ·refine KK ?_
   refine RT ?_;refine AI ?_;rfl
structure RnG(ks:List Kind)(s:Sys)(st:Rn):Prop where
 held:A7 ks st.comps=true
 has:LX s st.comps
 odd:st.r.2.toNat%2=1
theorem PN(act a b:Int)(r:UInt64×UInt64):(Dv act a b r).2.2=r.2:=by
 have hg:(EH r a.toNat).2.2=r.2:=by unfold EH;exact HK _ _ _
 unfold Dv;obtain⟨res,hres⟩:=nm (EH r a.toNat);rw[hres]at hg⊢;clear hres;split
 ·rfl
 split
 ·rfl
 split
 ·rfl
 split
 ·rfl
 split
 ·rfl
 split
 ·rfl
 split
 ·split
  ·rfl
  ·exact hg
 ·rfl
theorem K8{ks:List Kind}{s:Sys}{index:Int}{e:Ent}{o:Op}{st:Rn}(hk:Ag ks=0)(h:RnG ks s st)(ho:OpG ks s.reads s.writes o):RnG ks s (doM ks s index e o st)/\(doM ks s index e o st).cmds.length<=st.cmds.length+1/\(doM ks s index e o st).evs.length<=st.evs.length+1:=by
 obtain⟨h1,h2,h3⟩:=h;unfold doM;by_cases hs:GO o.act=true
 ·rw[if_pos hs]
  obtain⟨hR,hW⟩:=ho.sets hs;obtain⟨c,k,e1,e2,e3,e4,e5,e6,e7⟩:=KF h1 h2 hR (.inr hW);refine⟨⟨Rs hk h1 e1 e3 e5 e6 _,QH h2 (J4 (held_iff.1 h1).1 _ _ _),?_⟩,Nat.le_succ _,Nat.le_succ _⟩;dsimp only;rw[PN];exact h3
 ·rw[if_neg hs]
  by_cases hz:Gb st.comps o.a=0
  ·rw[if_pos hz]
   exact⟨⟨h1,h2,h3⟩,Nat.le_succ _,Nat.le_succ _⟩
  ·rw[if_neg hz]
   by_cases h12:o.act=12
   ·rw[if_pos h12]
    exact⟨⟨h1,h2,h3⟩,Nat.le_succ _,by simp⟩
   ·rw[if_neg h12]
    exact⟨⟨h1,h2,h3⟩,by simp,Nat.le_succ _⟩
def C7(ks:List Kind)(s:Sys)(index:Int)(e:Ent)(os:List Op)(st:Rn):Rn:=os.foldl (λst o=>doM ks s index e o st) st
theorem Jh{ks:List Kind}{s:Sys}{index:Int}{e:Ent}(hk:Ag ks=0):∀(os:List Op) {st:Rn} (h:RnG ks s st) (ho:∀o∈os,OpG ks s.reads s.writes o),RnG ks s (C7 ks s index e os st)/\(C7 ks s index e os st).cmds.length<=st.cmds.length+os.length/\(C7 ks s index e os st).evs.length<=st.evs.length+os.length
 |[],st,h,ho=>⟨h,Nat.le_refl _,Nat.le_refl _⟩
 |o::os,st,h,ho=>by
  obtain⟨g1,g2,g3⟩:=K8 (index:=index) (e:=e) hk h (ho o (by simp));obtain⟨k1,k2,k3⟩:=Jh (index:=index) (e:=e) hk os g1 (λo' h'=>ho o' (by simp[h']));refine⟨k1,?_,?_⟩
  ·show(C7 ks s index e os (doM ks s index e o st)).cmds.length<=_
   rw[Bm];omega
  ·show(C7 ks s index e os (doM ks s index e o st)).evs.length<=_
   rw[Bm];omega
theorem Ry{ks:List Kind}{s:Sys}{index:Int}{e:Ent}{os:List Op}{i:Nat}(h:i<os.length)(st:Rn):C7 ks s index e (os.take (i+1)) st=doM ks s index e os[i] (C7 ks s index e (os.take i) st):=by
 unfold C7;rw[List.take_succ_eq_append_getElem h,List.foldl_append];rfl
def DV(ks:List Kind)(s:Sys)(index seed tick:Int)(x:Item)(cm:List Cmd)(ev:List Evt):Rn:=C7 ks s index x.ent s.ops ⟨x.comps,Ey [seed,tick,index,x.ent.n],cm,ev⟩
def EP(ks:List Kind)(s:Sys)(index seed tick:Int)(qs:List (Nat×Item))(b:List Item×List Cmd×List Evt):List Item×List Cmd×List Evt:=
 qs.foldl (λb q=>(b.1.set q.1 ⟨q.2.ent,(DV ks s index seed tick q.2 b.2.1 b.2.2).comps⟩,(DV ks s index seed tick q.2 b.2.1 b.2.2).cmds,(DV ks s index seed tick q.2 b.2.1 b.2.2).evs)) b
theorem Pr{ks:List Kind}{s:Sys}{index seed tick:Int}{qs:List (Nat×Item)}{i:Nat}(h:i<qs.length)(b:List Item×List Cmd×List Evt):EP ks s index seed tick (qs.take (i+1)) b=EP ks s index seed tick [qs[i]] (EP ks s index seed tick (qs.take i) b):=by
 unfold EP;rw[List.take_succ_eq_append_getElem h,List.foldl_append]
def Ex(w:Wd)(s:Sys)(index seed tick:Int):List Item×List Cmd×List Evt:=EP w.kinds s index seed tick (DX w.items s.wth s.wout) (w.items,[],[])
theorem Gp(l:List Int):(Ey l).2.toNat%2=1:=by
 unfold Ey;dsimp only;rw[UInt64.toNat_or];have:(1:UInt64).toNat=1:=rfl;rw[this,<-Nat.and_one_is_mod,Nat.and_or_distrib_right];rw[Nat.and_one_is_mod];rcases Nat.mod_two_eq_zero_or_one (EQ (EQ (l.foldl MB (UInt64.ofNat l.length)+Fy)+Fy)).toNat with h|h<;>rw[h]<;>rfl
theorem RI{ks:List Kind}{s:Sys}{index seed tick:Int}{x:Item}(hk:Ag ks=0)(hh:A7 ks x.comps=true)(ha:LX s x.comps)(ho:∀o∈s.ops,OpG ks s.reads s.writes o)(cm:List Cmd)(ev:List Evt)(i:Nat):
  RnG ks s (C7 ks s index x.ent (s.ops.take i) ⟨x.comps,Ey [seed,tick,index,x.ent.n],cm,ev⟩)/\(C7 ks s index x.ent (s.ops.take i) ⟨x.comps,Ey [seed,tick,index,x.ent.n],cm,ev⟩).cmds.length<=cm.length+s.ops.length/\(C7 ks s index x.ent (s.ops.take i) ⟨x.comps,Ey [seed,tick,index,x.ent.n],cm,ev⟩).evs.length<=ev.length+s.ops.length:=by
 obtain⟨h1,h2,h3⟩:=Jh (s:=s) (index:=index) (e:=x.ent) hk (s.ops.take i) (st:=⟨x.comps,Ey [seed,tick,index,x.ent.n],cm,ev⟩) ⟨hh,ha,Gp _⟩ (λo h=>ho o (List.mem_of_mem_take h));have:(s.ops.take i).length<=s.ops.length:=by rw[Ah];omega
 dsimp only at h2 h3;exact⟨h1,by omega,by omega⟩
theorem Hw{ks:List Kind}{s:Sys}{index seed tick:Int}(hk:Ag ks=0)(ho:∀o∈s.ops,OpG ks s.reads s.writes o):∀(qs:List (Nat×Item)) (b:List Item×List Cmd×List Evt),(∀q∈qs,A7 ks q.2.comps=true/\LX s q.2.comps)->
  (EP ks s index seed tick qs b).2.1.length<=b.2.1.length+qs.length*s.ops.length/\(EP ks s index seed tick qs b).2.2.length<=b.2.2.length+qs.length*s.ops.length/\(EP ks s index seed tick qs b).1.length=b.1.length
 |[],b,_=>by simp[EP]
 |q::qs,b,h=>by
  obtain⟨hq1,hq2⟩:=h q (by simp);have he:=RI (index:=index) (seed:=seed) (tick:=tick) hk hq1 hq2 ho b.2.1 b.2.2 s.ops.length;rw[List.take_length]at he;obtain⟨e1,e2,e3⟩:=he;obtain⟨r1,r2,r3⟩:=Hw hk ho qs (b.1.set q.1 ⟨q.2.ent,(DV ks s index seed tick q.2 b.2.1 b.2.2).comps⟩,(DV ks s index seed tick q.2 b.2.1 b.2.2).cmds,(DV ks s index seed tick q.2 b.2.1 b.2.2).evs) (λq' h'=>h q' (by simp[h']));have e2':(DV ks s index seed tick q.2 b.2.1 b.2.2).cmds.length<=b.2.1.length+s.ops.length:=e2;have e3':(DV ks s index seed tick q.2 b.2.1 b.2.2).evs.length<=b.2.2.length+s.ops.length:=e3;dsimp only at r1 r2 r3;rw[List.length_set]at r3;have hm:(q::qs).length*s.ops.length=qs.length*s.ops.length+s.ops.length:=by rw[Bm,Nat.succ_mul]
  rw[hm];exact⟨Nat.le_trans r1 (by omega),Nat.le_trans r2 (by omega),r3⟩
theorem Fe{ks:List Kind}{s:Sys}(h:SysG ks s){x:Item}(hm:CF x s.wth s.wout=true):LX s x.comps:=by
 have ht:=h.typ;intro k hk;unfold CF at hm;simp only[Bool.and_eq_true,Bool.not_eq_true',List.any_eq_false]at hm ht;have h1:=ht k (by rw[CS];rcases hk with hk|hk<;>simp at hk<;>simp[hk]);have h2:=hm.1 k (by simpa using h1);unfold BH;rw[List.find?_isSome];unfold Ie at h2;simpa using h2
def JW(ks:List Kind)(i:Nat):List AV:=(ks.take i).map (BA true)++List.replicate (ks.length-i) (.agg [sA [],.prim (.slice none 0 0)])
theorem Tx(ks:List Kind)(i:Nat)(h:i<=ks.length):(JW ks i).length=ks.length:=by simp[JW];omega
theorem VU{ks:List Kind}{i:Nat}(h:i<ks.length):(JW ks i)[i]?=some (.agg [sA [],.prim (.slice none 0 0)]):=by
 unfold JW;rw[List.getElem?_append_right (by simp;omega),List.getElem?_replicate,if_pos (by simp;omega)]
theorem Tw{ks:List Kind}{i:Nat}(h:i<ks.length):(JW ks i).set i (BA true ks[i])=JW ks (i+1):=by
 unfold JW;rw[List.set_append_right _ _ (by simp;omega),AB,Ah,Nat.min_eq_left (by omega),Nat.sub_self];rw[show ks.length-i=(ks.length-(i+1))+1 from by omega,List.replicate_succ,List.set_cons_zero];rw[List.take_succ_eq_append_getElem h,List.map_append,AP];rfl
theorem GU(ks:List Kind)(hl:ks.length<=1099511627776)(hf:∀k∈ks,k.fields.length<=1099511627776):PS Tryz.prog 57 [An false false ks] (An true true ks):=by
 refine Sp (nt:=27) (res:=[.tmp 2]) Tryz.func57 λSf=>?_
 have hkm:(ks.map (BA false)).length=ks.length:=AB _;have hz0:List.replicate (ks.map (BA false)).length (.agg [sA [],.prim (.slice none 0 0)])=JW ks 0:=by simp[JW]
 (iterate 8 refine WK ?_);refine DG ?_;refine FB ((.agg [sA [],.prim (.slice none 0 0)])) λK=>?_;refine KK ?_
 rw[hz0];refine BZ (λ(i:Nat) (M:List AV)=>⟨[(3,.sl K 0 (ks.map (BA false)).length),(9,An false false ks),(10,iA (ks.map (BA false)).length),(11,iA i)],(K,.row 118 2 M)::Sf⟩) (λi M=>i<=ks.length/\M=JW ks i) (λi _=>ks.length-i) 0 _ ⟨Nat.zero_le _,rfl⟩ ?_;rintro i M ⟨hi,hM⟩;refine KK ?_;refine AWP.cond rfl (λhc=>?_) (λhc=>?_)
 ·have h:i<ks.length:=by rw[AF,hkm]at hc;omega
  have hset:=Tw h;have hMat:M[i]?=some (.agg [sA [],.prim (.slice none 0 0)]):=by rw[hM];exact VU h
  have hMl:M.length=ks.length:=by rw[hM];exact Tx ks i hi
  have hfl:=hf _ (AK h);obtain⟨⟨kn,fs⟩,hk⟩:=nm (ks[i]);rw[hk]at hset hfl;dsimp only at hfl;have hat:(ks.map (BA false))[i]?=some (BA false ⟨kn,fs⟩):=by rw[AG,AE h,hk];rfl
  have hil:i<(ks.map (BA false)).length:=by omega
  have hfm:(fs.map fieldA).length=fs.length:=AB _;refine KK ?_;refine Ai λV=>?_;refine KK ?_
  refine AWP.rs λY=>?_
  refine RU ?_;(iterate 6 refine RK ?_);refine RGo.gN ?_;refine RGo.s (Uq (by rw[hfm];omega) (by rw[hfm];unfold maxLen;omega) rfl rfl (by exact At.f)) rfl ?_;(iterate 3 refine RK ?_);refine RGo.nil (by kernel_rfl) ?_;(repeat refine WF ?_);have hMs:(M.set i (.agg [sA kn,.sl Y 0 (fs.map fieldA).length]))[i]?=some (.agg [sA kn,.sl Y 0 (fs.map fieldA).length]):=by rw[List.getElem?_set_self (by omega)]
  refine AWP.closeIn (X:=Y) (Y:=K) .here (.next (.next .here)) rfl rfl (Hos.at hMs (.agg (.tail (.head .here)))) ?_;rw[List.set_set];refine KK ?_;refine A8 (i+1) _ ⟨h,?_⟩;rw[hM];exact hset
 ·have h:i=ks.length:=by rw[AQ,hkm]at hc;omega
  subst h;have hfin:JW ks ks.length=ks.map (BA true):=by simp[JW]
  rw[hfin]at hM;subst hM;refine JA ?_;exact⟨[.sl K 0 (ks.map (BA false)).length],[An true true ks],_,[],.cons (.tmp rfl) rfl .nil,.cons (.cell (.sl (p:=0) .here (by simp))) .nil,by exact Sub.f,rfl,rfl⟩
def FG(x:Item):AV:=.agg [iA x.ent.n,iA x.ent.gen,Aw true false x.comps]
instance {x:Item}:Frz (FG x) (AD false x):=⟨by unfold FG AD;exact Frz.h⟩
abbrev Wf(o:Bool)(l:List Item):AV:=.lst o 71 3 (l.map FG)
def Ww(w:Wd):AV:=.agg [An true true w.kinds,AN true w.gens,Wf true w.items]
abbrev RE:AV:=.agg [iA 0,iA 0,.prim (.slice none 0 0)]
theorem Vr(w:Wd)(hw:WdL w):PS Tryz.prog 14 [wdA false w] (Ww w):=by
 obtain⟨ks,gens,items⟩:=w;obtain⟨⟨hk0,hk1⟩,hg,hi0,hi1⟩:=hw;dsimp only at hk0 hk1 hg hi0 hi1;have hkc:=GU ks hk0 hk1;have hgc:=Er gens (by omega);have hgm:(gens.map iA).length=gens.length:=AB _;have him:(items.map (AD false)).length=items.length:=AB _;refine Sp (nt:=37) (res:=[.cell 2 26]) Tryz.func14 λSf=>?_
 refine RG ?_;refine AOps.g_box ?_;refine Aj ?_;refine WO ?_;refine Ai λR=>?_;refine NL ?_
 (repeat refine WF ?_);refine AWP.rs λW3=>AWP.rs λI=>AWP.rs λG=>AWP.rs λK=>?_
 refine RU ?_;refine JG ?_;refine RGo.gN ?_;refine RGo.t1 (h:=hkc) (k:=?_);refine JG ?_;refine RGo.gN ?_;refine RGo.t1 (h:=hgc) (k:=?_);(iterate 3 refine RK ?_);refine RGo.gN ?_;refine RGo.s (W.make rfl rfl (by exact At.f) rfl (.inl rfl) rfl rfl (Nat.le_refl _) (by rw[him];omega) (by rw[him];unfold maxLen;omega)) rfl ?_;(iterate 3 refine RK ?_);refine RGo.nil (by kernel_rfl) ?_;have hz0:List.replicate (items.map (AD false)).length (zAV [.int .i64 0,.int .i64 0,.slice none 0 0] true)=DR FG RE items 0:=by rw[GX,him];rfl
 rw[hz0];refine JJ ?_;refine BZ (λ(i:Nat) (M:List AV)=>⟨[(2,.ptr R 0 0),(3,.ptr W3 0 0),(18,HX false false items),(19,iA (items.map (AD false)).length),(20,iA i)],(K,.row 118 2 (ks.map (BA true)))::(G,.row 3 1 (gens.map iA))::(I,.row 71 3 M)::(W3,.row 26 3 [.agg [.sl K 0 (ks.map (BA true)).length,.sl G 0 (gens.map iA).length,.sl I 0 (items.map (AD false)).length]])::(R,.row 26 3 [.agg [.prim (.slice none 0 0),.prim (.slice none 0 0),.prim (.slice none 0 0)]])::Sf⟩) (λi M=>i<=items.length/\M=DR FG RE items i) (λi _=>items.length-i) 0 _ ⟨Nat.zero_le _,rfl⟩ ?_;rintro i M ⟨hi,hM⟩;refine KK ?_;refine AWP.cond rfl (λhc=>?_) (λhc=>?_)
 ·have h:i<items.length:=by rw[AF,him]at hc;omega
  have hset:=Hf FG RE items h;have hMat:M[i]?=some RE:=by rw[hM];exact Ii _ _ _ h
  have hMl:M.length=items.length:=by rw[hM];exact Ky _ _ _ _ hi
  have hcl:=hi1 _ (AK h);obtain⟨⟨⟨en,eg⟩,cs⟩,hit⟩:=nm (items[i]);rw[hit]at hset hcl;have hat:(items.map (AD false))[i]?=some (AD false ⟨⟨en,eg⟩,cs⟩):=by rw[AG,AE h,hit];rfl
  have hil:i<(items.map (AD false)).length:=by omega
  have hcc:=D0 cs hcl.1 hcl.2;have hcm:(cs.map (AH false)).length=cs.length:=AB _;refine KK ?_;refine Ai λV=>?_;refine KK ?_
  refine AWP.rs λY=>?_
  refine RU ?_;(iterate 7 refine RK ?_);refine RGo.gN ?_;refine RGo.t1 (h:=hcc) (k:=?_);(iterate 3 refine RK ?_);refine RGo.nil (by kernel_rfl) ?_;(repeat refine WF ?_);have hMs:(M.set i (.agg [iA en,iA eg,.sl Y 0 (cs.map (AH false)).length]))[i]?=some (.agg [iA en,iA eg,.sl Y 0 (cs.map (AH false)).length]):=by rw[List.getElem?_set_self (by omega)]
  refine AWP.closeIn (X:=Y) (Y:=I) (by exact At.f) (by exact At.f) rfl rfl (Hos.at hMs (.agg (.tail (.tail (.head .here))))) ?_;rw[List.set_set];refine KK ?_;refine A8 (i+1) _ ⟨h,?_⟩;rw[hM];exact hset
 ·have h:i=items.length:=by rw[AQ,him]at hc;omega
  subst h;rw[Hg _ _ _ (Nat.le_refl _)]at hM;subst hM;have hkl:(ks.map (BA true)).length=(ks.map (BA true)).length:=rfl;have hI:(items.map (AD false)).length=(items.map FG).length:=by simp
  refine JA ?_;exact⟨[.agg [.sl K 0 (ks.map (BA true)).length,.sl G 0 (gens.map iA).length,.sl I 0 (items.map (AD false)).length]],[Ww ⟨ks,gens,items⟩],_,[],.cons (.cell (p:=4) rfl (by exact At.f) TAg.h TSize.h rfl rfl) rfl .nil,.cons (.agg (.cons (.sl (p:=0) .here rfl) (.cons (.sl (p:=0) .here rfl) (.cons (.sl (p:=0) .here hI) .nil)))) .nil,by exact Sub.f,rfl,rfl⟩
theorem TW.fz{a b:AV}[h:Frz a b]:TW a b []:=h.h▸ .frz
theorem QF(l:List Item):AV.frzs (l.map FG)=l.map (AD false):=(inferInstance:Frzs (l.map FG) (l.map (AD false))).h
theorem Sg(c:Comp):FreeE (AH false c):=.agg λx hx=>by
 simp only[BO,List.not_mem_nil,or_false]at hx;rcases hx with rfl|rfl
 ·exact .prim _
 ·exact λm c bs k=>k.1
theorem QV(l:List Comp):FreeL (l.map (AH false)):=λx hx=>by obtain⟨y,_,rfl⟩:=List.mem_map.1 hx;exact Sg y
theorem Sd(l:List Comp):∀x∈l.map (AH false),x.width=2:=λx hx=>by obtain⟨y,_,rfl⟩:=List.mem_map.1 hx;rfl
def wdH(w:Wd):AV:=.agg [An false false w.kinds,AN false w.gens,HX true false w.items]
instance {w:Wd}:Frz (wdH w) (wdA false w):=⟨by unfold wdH wdA;exact Frz.h⟩
section
section
variable {ro:Option Nat}{P:Program}{nt:Nat}{ops:Array Oper}{Q:Exit->St->Prop}{rest:List Oper}{T:List (Nat×AV)}{S:List AC}{f:FuncId}{x0 x1:Operand}{v0 v1:AV}{dst:Option Tmp}{ats:Array TypeId}{ty:TypeId}{pos:String}{after:Array Edge}{p1 p2 p3 p4:Nat}{z1 z2 z3 z4:AC}{y1 y2 y3 y4:Nat×Nat->AC}
theorem Uz(h:Spec P f [v0,v1] [z1,z2,z3,z4] λr' S'=>∃b:Nat×Nat,r'= .tup []/\S'=[y1 b,y2 b,y3 b,y4 b])(k:∀b:Nat×Nat,AOps ro P nt ops Q rest ⟨AW T dst (.tup []),AX S [(p1,y1 b),(p2,y2 b),(p3,y3 b),(p4,y4 b)]⟩)
  (a1:At S p1 z1:=by exact At.f) (a2:At S p2 z2:=by exact At.f) (a3:At S p3 z3:=by exact At.f) (a4:At S p4 z4:=by exact At.f) (hnd:Cw [p1,p2,p3,p4]=true:=by rfl) (h0:Rd none T x0 v0:=by rfl) (h1:Rd none T x1 v1:=by rfl) (ht:Am [(x0,v0),(x1,v1)]=true:=by rfl) (hd:AU dst nt=true:=by rfl):
  AOps ro P nt ops Q (⟨dst,.call ⟨.value (.func f),#[x0,x1],ats⟩,ty,pos,after,none⟩::rest) ⟨T,S⟩:=
 Dj (xs:=[(x0,v0),(x1,v1)]) (C:=λ_=>True) (rr:=λ_=>.tup []) (vv:=λ_=>.tup []) (So:=λb=>[y1 b,y2 b,y3 b,y4 b]) (nw:=λ_=>[]) (gs:=[]) (rS:=[(p1,z1),(p2,z2),(p3,z3),(p4,z4)]) (wE:=λb=>[(p1,y1 b),(p2,y2 b),(p3,y3 b),(p4,y4 b)])
  (h.mono λr' S' ⟨b,e1,e2⟩=>⟨b,trivial,e1,e2⟩) (λ_=>.fz) (λ_=>rfl) (λb=>.cons a1 (.cons a2 (.cons a3 (.cons a4 .nil)))) (Cc hnd) rfl (.cons a1 (.cons a2 (.cons a3 (.cons a4 .nil)))) (.cons h0 (.cons h1 .nil)) ht hd (λb _=>k b)
end
theorem EV{l:List Item}{wth wout:List Int}{i:Nat}{q:Nat×Item}(h:q∈Dt l wth wout i):l[q.1]?=some q.2/\CF q.2 wth wout=true:=by
 induction i with
 |zero=>simp[Dt]at h
 |succ i ih=>
  rw[Dt,CS]at h;rcases h with h|h
  ·exact ih h
  ·split at h
   ·rename_i it hit
    split at h
    ·rename_i hm
     rw[BP]at h;subst h;exact⟨hit,hm⟩
    ·cases h
   ·cases h
theorem IQ(ks:List Kind)(s:Sys)(index seed tick:Int):∀(qs:List (Nat×Item)) (b:List Item×List Cmd×List Evt),(∀q∈qs,(b.1[q.1]?).map Item.ent=some q.2.ent)->(EP ks s index seed tick qs b).1.map Item.ent=b.1.map Item.ent
 |[],b,_=>rfl
 |q::qs,b,h=>by
  have h0:=h q (by simp)
  have e1:∀x:Item,x.ent=q.2.ent->(b.1.set q.1 x).map Item.ent=b.1.map Item.ent:=by
   intro x hx;rw[List.map_set,hx];refine List.ext_getElem? λj=>?_
   by_cases hj:q.1=j
   ·subst hj
    rw[<-AG]at h0;rw[List.getElem?_set_self (List.getElem?_eq_some_iff.1 h0).1,h0]
   ·rw[List.getElem?_set_ne hj]
  have:=IQ ks s index seed tick qs (b.1.set q.1 ⟨q.2.ent,(DV ks s index seed tick q.2 b.2.1 b.2.2).comps⟩,(DV ks s index seed tick q.2 b.2.1 b.2.2).cmds,(DV ks s index seed tick q.2 b.2.1 b.2.2).evs) (λq' h'=>by
   have h1:=h q' (by simp[h']);dsimp only;rw[<-AG]at h1⊢;rw[e1 ⟨q.2.ent,(DV ks s index seed tick q.2 b.2.1 b.2.2).comps⟩ rfl];exact h1)
  exact this.trans (e1 ⟨q.2.ent,(DV ks s index seed tick q.2 b.2.1 b.2.2).comps⟩ rfl)
structure RunB where
 K:Nat
 E:Nat
 l:List Comp
 e:Ent
 r:UInt64×UInt64
 z:List Item×List Cmd×List Evt
def NF(w:Wd)(s:Sys)(index:Int)(X PX W2 I R:Nat)(b:RunB):List AC:=
 [(b.E,.row 86 4 (b.z.2.2.map Cr)),(b.K,.row 159 5 (b.z.2.1.map Bx)),(PX,.row 181 1 [.ptr X 0 0]),(X,.row 185 16 [Lf w.kinds s b.e (Aw false false b.l) b.r (.sl b.K 0 b.z.2.1.length) (.sl b.E 0 b.z.2.2.length) index]),
  (W2,.row 26 3 [.agg [An false false w.kinds,AN false w.gens,.sl I 0 (w.items.map FG).length]]),(I,.row 71 3 (b.z.1.map (AD false))),(R,.row 26 3 [.agg [.prim (.slice none 0 0),.prim (.slice none 0 0),.prim (.slice none 0 0)]])]
theorem TL(w:Wd)(s:Sys)(index seed tick:Int)(hw:WdL w)(hwe:Cs w=0)(h12:w.kinds.length<=12)(hs:SysG w.kinds s)(hk:Ag w.kinds=0)(hheld:∀it∈w.items,A7 w.kinds it.comps=true)(hN:(DX w.items s.wth s.wout).length*s.ops.length<=1099511627775):
  PS Tryz.prog 38 [wdA false w,Bs false s,iA index,iA seed,iA tick] (.tup [wdH ⟨w.kinds,w.gens,(Ex w s index seed tick).1⟩,.lst false 159 5 ((Ex w s index seed tick).2.1.map Bx),.lst false 86 4 ((Ex w s index seed tick).2.2.map Cr),iA 0]):=by
 have hck:=Es w hw.gens hw.items.1 (λit h=>(hw.items.2 it h).1);rw[hwe]at hck;have hcp:=Vr w hw;have hsc:=Iw w.kinds s hk h12 hs;have hal:=Wp w s.wth s.wout hw.items.1 hw.items.2 (by have:=(hs.o s.wth (by simp)).2.2;omega) (by have:=(hs.o s.wout (by simp)).2.2;omega);refine Sp (nt:=97) (res:=[.cell 10 26,.tmp 11,.tmp 12,.tmp 13]) Tryz.func38 λSf=>?_
 refine RG ?_;(repeat first|(refine AOps.gN ?_;first|(refine AOps.g_box ?_;refine Aj ?_))|refine WO ?_|refine Ai λR=>?_|refine Ay λY=>?_);refine NL ?_;refine JB ?_;refine WO ?_;refine AOps.g_callf ?_;refine AOps.c1 (h:=(hck ..)) (k:=?_);refine JD ?_;refine KK ?_;refine AA rfl rfl ?_;refine JK ?_;refine AOps.g_callf ?_;refine AOps.c2 (h:=(hsc ..)) (k:=?_);refine JD ?_;refine KK ?_;refine AA rfl rfl ?_;refine FL ?_;refine AWP.rs λI=>?_
 refine JE ?_;refine AOps.g_callf ?_;refine AOps.z1 (h:=hcp) (hT:=.v (.agg (.cons .fz (.cons .fz (.cons (.lst (Y:=I) rfl) .nil))))) (k:=?_);refine WO ?_;refine Ai λW2=>?_;refine WO ?_
 refine JB ?_;(repeat first|refine WO ?_|refine Ai λPX=>?_|refine Ay λY=>?_);refine NL ?_;rename_i X;refine FL ?_;refine AWP.adoptIn (Y:=X) 159 5 (by exact At.f) (λF=>.cons (.agg (.cons .same (.cons .same (.cons .same (.cons .same (.cons .same (.cons .same (.cons .same (.cons .same (.cons .same (.cons .same (.cons .same (.cons .same (.cons .same (.cons (.base .nil) (.cons .same (.cons .same .nil))))))))))))))))) .nil) λK=>?_
 refine AWP.adoptIn (Y:=X) 86 4 (by exact At.f) (λF=>.cons (.agg (.cons .same (.cons .same (.cons .same (.cons .same (.cons .same (.cons .same (.cons .same (.cons .same (.cons .same (.cons .same (.cons .same (.cons .same (.cons .same (.cons .same (.cons (.base .nil) (.cons .same .nil))))))))))))))))) .nil) λE=>?_
 refine AWP.nilIn 42 2 (Y:=X) (.cons (.agg (.cons .same (.cons .same (.cons .same (.cons .same (.cons .same (.cons .same (.cons .same (.cons .same (.cons .same (.cons .same (.cons (.base .nil) (.cons .same (.cons .same (.cons .same (.cons .same (.cons .same .nil))))))))))))))))) .nil) ?_;refine AWP.frzRow I (w.items.map (AD false)) (QF w.items) ?_ (by exact At.f);refine JN ?_;refine AOps.g_callf ?_;refine De (h:=(hal ..)) (k:=?_);refine NL ?_;refine FL ?_;have hI:=Sw (DX w.items s.wth s.wout) (Nat.le_trans (In _ _ _) hw.items.1) (λq hq=>hw.items.2 _ (Mp hq));refine Qp (Sf:=Sf) hI (NF w s index X PX W2 I R) (λi b=>b.z=EP w.kinds s index seed tick ((DX w.items s.wth s.wout).take i) (w.items,[],[])) ⟨K,E,[],⟨0,0⟩,(0,0),(w.items,[],[])⟩ rfl ?_ ?_ rfl rfl rfl ?_ ?_
 ·rintro i vs C ⟨K,E,l0,e0,r0,z⟩ l F1 F2 hi hz
  have hil:i<(DX w.items s.wth s.wout).length:=by simpa using(List.getElem?_eq_some_iff.1 hi).1
  rw[AG,AE hil]at hi;obtain rfl:_=vs:=Option.some.inj hi;have hqm:=AK hil;have hst:=Pr (ks:=w.kinds) (s:=s) (index:=index) (seed:=seed) (tick:=tick) hil (w.items,[],[])
  have hro:=Hw (index:=index) (seed:=seed) (tick:=tick) hk hs.ops ((DX w.items s.wth s.wout).take i) (w.items,[],[]) (λq h=>by
   obtain⟨g1,g2⟩:=EV (List.mem_of_mem_take h);exact⟨hheld _ (Ao g1),Fe hs g2⟩)
  dsimp only at hz;rw[<-hz]at hst hro;obtain⟨q,hq⟩:=nm ((DX w.items s.wth s.wout)[i]);rw[hq]at hqm hst⊢;obtain⟨hqa,hqb⟩:=EV hqm;obtain⟨qi,⟨⟨en,eg⟩,cs⟩⟩:=q;obtain⟨zi,zc,ze⟩:=z;dsimp only[List.length_nil]at hqa hqb hro;unfold NF itY;dsimp only;have hcl:(cs.map (AH true)).length=cs.length:=AB _;rw[hcl];have hrs:=TO [seed,tick,index,en] (by simp);have hen:=IQ w.kinds s index seed tick ((DX w.items s.wth s.wout).take i) (w.items,[],[]) (λq h=>by rw[(EV (List.mem_of_mem_take h)).1];rfl);rw[<-hz]at hen;dsimp only at hen;have hzat:(zi[qi]?).map Item.ent=some ⟨en,eg⟩:=by rw[<-AG,hen,AG,hqa];rfl
  obtain⟨it,hit,hie⟩:=Option.map_eq_some_iff.1 hzat;obtain⟨ie,ics⟩:=it;dsimp only at hie;subst hie;have hiat:(zi.map (AD false))[qi]?=some (AD false ⟨⟨en,eg⟩,ics⟩):=by rw[AG,hit];rfl
  have hqil:qi<(zi.map (AD false)).length:=(List.getElem?_eq_some_iff.1 hiat).1;have heo:=λj=>RI (index:=index) (seed:=seed) (tick:=tick) (x:=⟨⟨en,eg⟩,cs⟩) hk (hheld _ (Ao hqa)) (Fe hs hqb) hs.ops zc ze j
  have hee:DV w.kinds s index seed tick ⟨⟨en,eg⟩,cs⟩ zc ze=C7 w.kinds s index ⟨en,eg⟩ s.ops ⟨cs,Ey [seed,tick,index,en],zc,ze⟩:=rfl;have hsr:EP w.kinds s index seed tick [(qi,⟨⟨en,eg⟩,cs⟩)] (zi,zc,ze)=(zi.set qi ⟨⟨en,eg⟩,(DV w.kinds s index seed tick ⟨⟨en,eg⟩,cs⟩ zc ze).comps⟩,(DV w.kinds s index seed tick ⟨⟨en,eg⟩,cs⟩ zc ze).cmds,(DV w.kinds s index seed tick ⟨⟨en,eg⟩,cs⟩ zc ze).evs):=rfl;rw[hsr,hee]at hst;dsimp only at heo;obtain⟨rr,hrr⟩:=nm (Ey [seed,tick,index,en]);rw[hrr]at hrs heo hst
  have him:i*s.ops.length+s.ops.length<=1099511627775:=by
   have h1:(i+1)*s.ops.length<=(DX w.items s.wth s.wout).length*s.ops.length:=Nat.mul_le_mul_right _ hil;rw[Nat.succ_mul]at h1;omega
  have htk:((DX w.items s.wth s.wout).take i).length=i:=by rw[Ah];omega
  rw[htk]at hro;clear hsr hee hz hen hrr;refine KK ?_;refine Ai λP=>?_;refine KK ?_
  refine⟨[(P,_),(C,_),(E,_),(K,_),(PX,_),(X,_),(W2,_),(I,_),(R,_)],.refl _,?_⟩;refine FL ?_;refine RU ?_;(iterate 10 refine RK ?_);refine RGo.gN ?_;refine RGo.c1 (h:=hrs) (k:=?_);(iterate 6 refine RK ?_);refine RGo.nil (by kernel_rfl) ?_;refine KK ?_;have hom:(s.ops.map opA).length=s.ops.length:=AB _;obtain⟨S0,hS0⟩:∃st:Rn,(⟨cs,rr,zc,ze⟩:Rn)=st:=⟨_,rfl⟩;rw[hS0]at heo hst;have hop0:C7 w.kinds s index ⟨en,eg⟩ (s.ops.take 0) S0=⟨cs,rr,zc,ze⟩:=hS0.symm;obtain⟨stj,hstj⟩:∃g:Nat->Rn,(λj=>C7 w.kinds s index ⟨en,eg⟩ (s.ops.take j) S0)=g:=⟨_,rfl⟩;have hg0:stj 0=⟨cs,rr,zc,ze⟩:=by rw[<-hstj];exact hop0
  have hgS:∀j (h:j<s.ops.length),stj (j+1)=doM w.kinds s index ⟨en,eg⟩ s.ops[j] (stj j):=by intro j h;rw[<-hstj];exact Ry h S0
  have hge:∀j,RnG w.kinds s (stj j)/\(stj j).cmds.length<=zc.length+s.ops.length/\(stj j).evs.length<=ze.length+s.ops.length:=by intro j;rw[<-hstj];exact heo j
  have hgl:C7 w.kinds s index ⟨en,eg⟩ s.ops S0=stj s.ops.length:=by rw[<-hstj];dsimp only;rw[List.take_length]
  rw[hgl]at hst;clear heo hop0 hgl hstj hS0
  refine BZ (λ(j:Nat) (b:Nat×Nat)=>⟨[(16,.ptr W2 0 0),(17,.ptr PX 0 0),(18,iA qi),(68,VN false s.ops),(69,iA (s.ops.map opA).length),(70,iA j)],[(P,.row 71 3 [.agg [iA en,iA eg,.sl C 0 cs.length]]),(C,.row 42 2 ((stj j).comps.map (AH true))),(b.2,.row 86 4 ((stj j).evs.map Cr)),(b.1,.row 159 5 ((stj j).cmds.map Bx)),(PX,.row 181 1 [.ptr X 0 0]),(X,J8 w.kinds s ⟨en,eg⟩ C (stj j).comps.length (stj j).r b.1 (stj j).cmds.length b.2 (stj j).evs.length index),
   (W2,.row 26 3 [.agg [An false false w.kinds,AN false w.gens,.sl I 0 (w.items.map FG).length]]),(I,.row 71 3 (zi.map (AD false))),(R,.row 26 3 [.agg [.prim (.slice none 0 0),.prim (.slice none 0 0),.prim (.slice none 0 0)]])]++F2⟩) (λj _=>j<=s.ops.length) (λj _=>s.ops.length-j) 0 (K,E) (Nat.zero_le _) ?_ (by dsimp only;rw[hg0];exact⟨by exact Lk.f,by exact Sub.f⟩)
  rintro j ⟨K',E'⟩ hj;dsimp only;obtain⟨hgR,hgC,hgE⟩:=hge j;refine KK ?_;refine AWP.cond rfl (λhc=>?_) (λhc=>?_)
  ·have hjl:j<s.ops.length:=by rw[AF,hom]at hc;omega
   have hatj:(s.ops.map opA)[j]?=some (opA s.ops[j]):=by rw[AG,AE hjl];rfl
   have hjm:j<(s.ops.map opA).length:=by omega
   have hdo:=XG w.kinds s ⟨en,eg⟩ index X C K' E' (stj j) s.ops[j] hk h12 hs.sp ⟨hgR.held,hgR.has,hgR.odd,by omega,by omega⟩ (hs.ops _ (AK hjl));rw[<-hgS j hjl]at hdo;unfold Pq at hdo;have hol:s.ops.length<=20:=hs.len;refine KK ?_;refine Ai λO=>?_;(iterate 6 refine WK ?_);refine AOps.gN ?_;refine Uz (h:=hdo) λb=>?_;refine KK ?_
   refine A8 (j+1) b hjl
  ·have hjl:j=s.ops.length:=by rw[AQ,hom]at hc;omega
   subst hjl;have hqw:qi<(w.items.map FG).length:=by rw[AB];exact(List.getElem?_eq_some_iff.1 hqa).1
   refine KK ?_
   have hfz:AV.frzs ((((stj s.ops.length).comps.map (AH true)).drop 0).take (stj s.ops.length).comps.length)=(stj s.ops.length).comps.map (AH false):=by
    rw[List.drop_zero,List.take_of_length_le (by simp)];exact(inferInstance:Frzs ((stj s.ops.length).comps.map (AH true)) ((stj s.ops.length).comps.map (AH false))).h
   refine AWP.iceIn (X:=C) (Y:=X) (by exact At.f) (by exact At.f) rfl (.cons (.agg (.cons .same (.cons .same (.cons .same (.cons .same (.cons .same (.cons .same (.cons .same (.cons .same (.cons .same (.cons .same (.cons (.base (.sl (by simp))) (.cons .same (.cons .same (.cons .same (.cons .same (.cons .same .nil))))))))))))))))) .nil) ?_;rw[hfz];refine RU ?_;(iterate 11 refine RK ?_);refine RGo.nil (by kernel_rfl) ?_;refine FL ?_;refine⟨[(E',_),(K',_),(PX,_),(X,_),(W2,_),(I,_),(R,_)],(by exact Sub.f),⟨K',E',(stj s.ops.length).comps,⟨en,eg⟩,(stj s.ops.length).r,_⟩,hst.symm,?_⟩;rw[List.map_set];rfl
 ·rintro⟨K,E,l0,e0,r0,z⟩ hz
  rw[AB,List.take_length]at hz;dsimp only at hz
  have hro:=Hw (index:=index) (seed:=seed) (tick:=tick) hk hs.ops (DX w.items s.wth s.wout) (w.items,[],[]) (λq h=>by
   obtain⟨g1,g2⟩:=EV h;exact⟨hheld _ (Ao g1),Fe hs g2⟩)
  rw[<-hz]at hro;rw[show Ex w s index seed tick=z from hz.symm];clear hz;obtain⟨zi,zc,ze⟩:=z;dsimp only at hro⊢;have hlI:(w.items.map FG).length=(zi.map (AD false)).length:=by rw[AB,AB,hro.2.2]
  have hfk:AV.frzs (((zc.map Bx).drop 0).take zc.length)=zc.map Bx:=by
   rw[List.drop_zero,List.take_of_length_le (by simp)];exact Fj Bx (λ_=>Frz.h) zc
  have hfe:AV.frzs (((ze.map Cr).drop 0).take ze.length)=ze.map Cr:=by
   rw[List.drop_zero,List.take_of_length_le (by simp)];exact Fj Cr (λ_=>Frz.h) ze
  unfold NF;dsimp only;refine FL ?_;refine AWP.iceIn (X:=K) (Y:=X) (by exact At.f) (by exact At.f) rfl (.cons (.agg (.cons .same (.cons .same (.cons .same (.cons .same (.cons .same (.cons .same (.cons .same (.cons .same (.cons .same (.cons .same (.cons .same (.cons .same (.cons .same (.cons (.base (.sl (by simp))) (.cons .same (.cons .same .nil))))))))))))))))) .nil) ?_;refine AWP.iceIn (X:=E) (Y:=X) (by exact At.f) (by exact At.f) rfl (.cons (.agg (.cons .same (.cons .same (.cons .same (.cons .same (.cons .same (.cons .same (.cons .same (.cons .same (.cons .same (.cons .same (.cons .same (.cons .same (.cons .same (.cons .same (.cons (.base (.sl (by simp))) (.cons .same .nil))))))))))))))))) .nil) ?_;rw[hfk,hfe];refine RU ?_;(iterate 13 refine RK ?_);refine RGo.nil (by kernel_rfl) ?_;refine WK ?_;refine RT ?_
  exact Br [.agg [An false false w.kinds,AN false w.gens,.sl I 0 (w.items.map FG).length],.lst false 159 5 (zc.map Bx),.lst false 86 4 (ze.map Cr),iA 0] [wdH ⟨w.kinds,w.gens,zi⟩,.lst false 159 5 (zc.map Bx),.lst false 86 4 (ze.map Cr),iA 0]
   (.cons (.agg (.cons .same (.cons .same (.cons (.sl (p:=5) (.next (.next (.next (.next (.next .here))))) hlI) .nil)))) (.cons (.cell .same) (.cons (.cell .same) (.cons (.cell .same) .nil))))
 ·intro vs hvs C
  obtain⟨q,_,rfl⟩:=List.mem_map.1 hvs;rfl
 ·unfold NF
  exact List.Sublist.refl _
end
def KeepC(ws:List Int)(a b:List Comp):Prop:=b.map Comp.kind=a.map Comp.kind/\∀(j:Nat) (c d:Comp),a[j]?=some c->b[j]?=some d->ws.contains c.kind=false->d.vals=c.vals
theorem KeepC.refl(ws:List Int)(a:List Comp):KeepC ws a a:=⟨rfl,λj c d h1 h2 _=>by rw[h1]at h2;injection h2 with h2;rw[h2]⟩
theorem KeepC.trans{ws:List Int}{a b c:List Comp}(h:KeepC ws a b)(k:KeepC ws b c):KeepC ws a c:=by
 refine⟨k.1.trans h.1,λj x z hx hz hn=>?_⟩;have e:(b.map Comp.kind)[j]?=(a.map Comp.kind)[j]?:=by rw[h.1]
 rw[AG,AG,hx]at e;cases hb:b[j]? with
 |none=>rw[hb]at e;cases e
 |some y=>
  rw[hb]at e;injection e with e
  rw[k.2 j y z hb hz (by rw[e];exact hn),h.2 j x y hx hb hn]
theorem Rr{ws:List Int}{cs:List Comp}(hs:CT cs){k:Int}(hk:ws.contains k=true)(f:Nat)(v:Int):KeepC ws cs (J5 cs k f v):=by
 refine⟨J4 hs k f v,λj c d hc hd hn=>?_⟩;cases hcc:BH cs k with
 |none=>
  unfold J5 at hd;rw[hcc]at hd;rw[hc]at hd;injection hd with hd
  rw[hd]
 |some c'=>
  obtain⟨e1,e2⟩:=Hu hs hcc f v;rw[e2]at hd;by_cases hj:Cf cs k=j
  ·subst hj
   rw[hc]at e1;injection e1 with e1
   have:=((Bw hs).1 hcc).2;rw[e1,this,hk]at hn;cases hn
  ·rw[List.getElem?_set_ne hj,hc]at hd
   injection hd with hd
   rw[hd]
theorem UN{ks:List Kind}{s:Sys}{index:Int}{e:Ent}{o:Op}{st:Rn}(h:RnG ks s st)(ho:OpG ks s.reads s.writes o):KeepC s.writes st.comps (doM ks s index e o st).comps:=by
 unfold doM;split
 ·exact Rr (held_iff.1 h.held).1 (ho.sets ‹_›).2 _ _
 ·split
  ·exact .refl _ _
  ·split
   ·exact .refl _ _
   ·exact .refl _ _
theorem IS{ks:List Kind}{s:Sys}{index:Int}{e:Ent}(hk:Ag ks=0):∀(os:List Op) {st:Rn} (h:RnG ks s st) (ho:∀o∈os,OpG ks s.reads s.writes o),KeepC s.writes st.comps (C7 ks s index e os st).comps
 |[],st,h,ho=>.refl _ _
 |o::os,st,h,ho=>(UN (index:=index) (e:=e) h (ho o (by simp))).trans (IS hk os (K8 hk h (ho o (by simp))).1 (λo' h'=>ho o' (by simp[h'])))
def Ut(ks:List Kind)(ws:List Int)(x y:Item):Prop:=y.ent=x.ent/\KeepC ws x.comps y.comps/\A7 ks y.comps=true
theorem KB{ks:List Kind}{s:Sys}{index seed tick:Int}{l0:List Item}(hk:Ag ks=0)(ho:∀o∈s.ops,OpG ks s.reads s.writes o):∀(qs:List (Nat×Item)) (b:List Item×List Cmd×List Evt),(∀q∈qs,l0[q.1]?=some q.2/\A7 ks q.2.comps=true/\LX s q.2.comps)->
  (∀(i:Nat) (x:Item),l0[i]?=some x->∃y,b.1[i]?=some y/\Ut ks s.writes x y)->∀(i:Nat) (x:Item),l0[i]?=some x->∃y,(EP ks s index seed tick qs b).1[i]?=some y/\Ut ks s.writes x y
 |[],b,_,h=>h
 |q::qs,b,hq,h=>by
  obtain⟨h1,h2,h3⟩:=hq q (by simp);refine KB hk ho qs (b.1.set q.1 ⟨q.2.ent,(DV ks s index seed tick q.2 b.2.1 b.2.2).comps⟩,(DV ks s index seed tick q.2 b.2.1 b.2.2).cmds,(DV ks s index seed tick q.2 b.2.1 b.2.2).evs) (λq' h'=>hq q' (by simp[h'])) λi x hx=>?_
  dsimp only;obtain⟨y,hy,hk'⟩:=h i x hx;by_cases hi:q.1=i
  ·subst hi
   rw[h1]at hx;injection hx with hx
   subst hx;refine⟨_,List.getElem?_set_self (List.getElem?_eq_some_iff.1 hy).1,rfl,?_,?_⟩
   ·exact IS (index:=index) (e:=q.2.ent) hk s.ops (st:=⟨q.2.comps,Ey [seed,tick,index,q.2.ent.n],b.2.1,b.2.2⟩) ⟨h2,h3,Gp _⟩ ho
   ·exact(Jh (index:=index) (e:=q.2.ent) hk s.ops (st:=⟨q.2.comps,Ey [seed,tick,index,q.2.ent.n],b.2.1,b.2.2⟩) ⟨h2,h3,Gp _⟩ ho).1.held
  ·exact⟨y,by rw[List.getElem?_set_ne hi];exact hy,hk'⟩
theorem Mr{w:Wd}{s:Sys}(hs:SysG w.kinds s)(hh:∀it∈w.items,A7 w.kinds it.comps=true):∀q∈DX w.items s.wth s.wout,w.items[q.1]?=some q.2/\A7 w.kinds q.2.comps=true/\LX s q.2.comps:=by
 intro q hq;obtain⟨h1,h2⟩:=EV hq;exact⟨h1,hh _ (Ao h1),Fe hs h2⟩
theorem Rv{w:Wd}{s:Sys}{index seed tick:Int}(hk:Ag w.kinds=0)(hs:SysG w.kinds s)(hh:∀it∈w.items,A7 w.kinds it.comps=true):∀(i:Nat) (x:Item),w.items[i]?=some x->∃y,(Ex w s index seed tick).1[i]?=some y/\Ut w.kinds s.writes x y:=
 KB hk hs.ops _ _ (Mr hs hh) λi x hx=>⟨x,hx,rfl,.refl _ _,hh _ (Ao hx)⟩
theorem MJ{w:Wd}{s:Sys}{index seed tick:Int}:(Ex w s index seed tick).1.map Item.ent=w.items.map Item.ent:=
 IQ w.kinds s index seed tick _ _ λq hq=>by rw[(EV hq).1];rfl
theorem J9{w:Wd}{s:Sys}{index seed tick:Int}:(Ex w s index seed tick).1.length=w.items.length:=by
 have:=congrArg List.length (MJ (w:=w) (s:=s) (index:=index) (seed:=seed) (tick:=tick));simpa using this
theorem Qz{w:Wd}{s:Sys}{index seed tick:Int}(hw:Cs w=0)(hs:SysG w.kinds s):Cs ⟨w.kinds,w.gens,(Ex w s index seed tick).1⟩=0:=by
 have g:=(BK w).1 hw;refine(BK _).2 ⟨g.ks,g.gl,by simpa[J9]using g.il,g.gs,?_,λit hit=>?_⟩
 ·have h2:((Ex w s index seed tick).1.map Item.ent).Pairwise λa b=>a.n<b.n:=by rw[MJ];exact(List.pairwise_map (f:=Item.ent) (R:=λa b:Ent=>a.n<b.n)).2 g.so
  exact(List.pairwise_map (f:=Item.ent) (R:=λa b:Ent=>a.n<b.n)).1 h2
 ·obtain⟨i,hi⟩:=List.getElem?_of_mem hit
  dsimp only at hi hit⊢
  have hl:i<w.items.length:=by
   have:=(List.getElem?_eq_some_iff.1 hi).1;rw[J9]at this;exact this
  obtain⟨y,h1,h2,h3,h4⟩:=Rv (index:=index) (seed:=seed) (tick:=tick) g.ks hs (λit h=>(g.it it h).2.2.2.2) i w.items[i] (by simp[hl]);rw[hi]at h1;injection h1 with h1
  subst h1;obtain⟨a1,a2,a3,a4,a5⟩:=g.it w.items[i] (AK hl);rw[h2];exact⟨a1,a2,a3,a4,h4⟩
section
def ixG(ks:List Int):Int->Option Value:=λn=>if n∈ks then some (.int .i64 (ks.idxOf n:Nat))else none
variable {α:Type}
abbrev AJ(l:List (Int×α)):List Int:=l.map (·.1)
def Bl(l:List (Int×α))(n:Int)(v:α):List (Int×α):=if n∈AJ l then l.set ((AJ l).idxOf n) (n,v)else l++[(n,v)]
def Cz(l:List (Int×α))(n:Int):Option α:=(l[(AJ l).idxOf n]?).map (·.2)
def BV(l:List (Int×α))(n:Int):List (Int×α):=if n∈AJ l then(match l[l.length-1]? with|some e=>(l.set ((AJ l).idxOf n) e).take (l.length-1)|none=>l)else l
structure ColOK(l:List (Int×α)):Prop where
 nd:(AJ l).Nodup
 lt:∀n∈AJ l,0<=n/\n<256
theorem ON{ks:List Int}(h:ks.Nodup)(hl:∀n∈ks,0<=n/\n<256):ks.length<=256:=by
 have h1:(ks.map Int.toNat).Nodup:=by
  refine List.pairwise_map.2 (h.imp_of_mem λha hb hne e=>hne ?_);have:=hl _ ha;have:=hl _ hb;omega
 have h2:(ks.map Int.toNat)⊆List.range 256:=λx hx=>by
  obtain⟨n,hn,rfl⟩:=List.mem_map.1 hx;have:=hl n hn;rw[List.mem_range];omega
 have:=List.Nodup.length_le_of_subset h1 h2;simpa using this
theorem ColOK.len{l:List (Int×α)}(h:ColOK l):l.length<=256:=by
 have:=ON h.nd h.lt;simpa using this
theorem E4{l:List (Int×α)}{n:Int}(h:n∈AJ l):(AJ l).idxOf n<l.length:=by
 have:=List.idxOf_lt_length_of_mem h;simpa using this
theorem E5{l:List (Int×α)}{n:Int}(h:n∈AJ l):∃v,l[(AJ l).idxOf n]?=some (n,v):=by
 have h1:=E4 h;have h2:=List.getElem_idxOf (xs:=AJ l) (x:=n) (by simpa using h1);rw[List.getElem_map]at h2;refine⟨(l[(AJ l).idxOf n]).2,?_⟩;rw[AE h1]
 congr 1
 exact Prod.ext h2 rfl
theorem EA{l:List (Int×α)}{n:Int}(h:n∉AJ l):Cz l n=none:=by
 unfold Cz;rw[List.getElem?_eq_none]
 ·rfl
 ·rw[List.idxOf_eq_length h];simp
theorem CO{l:List (Int×α)}(h:ColOK l){n:Int}{v:α}:Cz l n=some v↔(n,v)∈l:=by
 constructor
 ·intro e
  have hn:n∈AJ l:=Classical.byContradiction λhn=>by rw[EA hn]at e;cases e
  obtain⟨u,hu⟩:=E5 hn;unfold Cz at e;rw[hu]at e;injection e with e
  simp only at e;subst e;exact Ao hu
 ·intro hm
  have hn:n∈AJ l:=List.mem_map.2 ⟨_,hm,rfl⟩;obtain⟨i,hi,e⟩:=List.getElem_of_mem hm
  have h1:(AJ l).idxOf n=i:=by
   have h2:(AJ l)[i]'(by simpa using hi)=n:=by rw[List.getElem_map,e]
   rw[<-h2];exact h.nd.idxOf_getElem i _
  unfold Cz;rw[h1,AE hi,e];rfl
theorem Ew{l:List (Int×α)}{n:Int}(h:n∈AJ l):∃v,Cz l n=some v:=by
 obtain⟨u,hu⟩:=E5 h;exact⟨u,by unfold Cz;rw[hu];rfl⟩
theorem ColOK.perm{l l':List (Int×α)}(h:ColOK l)(p:l.Perm l'):ColOK l':=
 ⟨(p.map _).nodup_iff.1 h.nd,λn hn=>h.lt n ((p.map _).mem_iff.2 hn)⟩
theorem C2{l:List (Int×α)}{n:Int}{v:α}(h:n∉AJ l):Bl l n v=l++[(n,v)]:=if_neg h
theorem Em{l:List (Int×α)}{n:Int}{v:α}(h:n∈AJ l):Bl l n v=l.set ((AJ l).idxOf n) (n,v):=if_pos h
theorem Ev{l:List (Int×α)}{n:Int}{v:α}(h:n∈AJ l):AJ (Bl l n v)=AJ l:=by
 rw[Em h,AJ,List.map_set];obtain⟨u,hu⟩:=E5 h;have h1:=E4 h;refine List.ext_getElem (by simp) λi h2 h3=>?_
 rw[List.getElem_set];split
 ·rename_i e
  subst e;have:=List.getElem_idxOf (xs:=AJ l) (x:=n) (by simpa using h1);exact this.symm
 ·rfl
theorem ColOK.put{l:List (Int×α)}(h:ColOK l){n:Int}(hn:0<=n/\n<256)(v:α):ColOK (Bl l n v):=by
 by_cases hk:n∈AJ l
 ·refine⟨by rw[Ev hk];exact h.nd,λm hm=>h.lt m (by rwa[Ev hk]at hm)⟩
 ·rw[C2 hk]
  refine⟨?_,λm hm=>?_⟩
  ·rw[AJ,List.map_append]
   refine List.nodup_append.2 ⟨h.nd,by simp,λa ha b hb e=>?_⟩;simp only[List.map_cons,List.map_nil,BP]at hb;subst hb e;exact hk ha
  ·rw[AJ,List.map_append]at hm
   rcases List.mem_append.1 hm with hm|hm
   ·exact h.lt m hm
   ·simp only[List.map_cons,List.map_nil,BP]at hm
    subst hm;exact hn
theorem IP{l:List (Int×α)}(h:ColOK l){n:Int}{v:α}{m:Int}{u:α}:(m,u)∈Bl l n v↔(m=n/\u=v)\/(m≠n/\(m,u)∈l):=by
 by_cases hk:n∈AJ l
 ·obtain⟨w,hw⟩:=E5 hk
  have h1:=E4 hk;rw[Em hk];constructor
  ·intro hm
   obtain⟨i,hi,e⟩:=List.getElem_of_mem hm;rw[List.getElem_set]at e;split at e
   ·injection e with e1 e2
    exact .inl ⟨e1.symm,e2.symm⟩
   ·rename_i hne
    refine .inr ⟨λe2=>hne ?_,e▸AK _⟩;have hi':i<l.length:=by simpa using hi
    have h2:(AJ l)[i]'(by simpa using hi')=n:=by rw[List.getElem_map,e,e2]
    rw[<-h2];exact h.nd.idxOf_getElem i _
  ·rintro(⟨rfl,rfl⟩|⟨hne,hm⟩)
   ·exact Ao (i:=(AJ l).idxOf m) (by rw[List.getElem?_set_self h1])
   ·obtain⟨i,hi,e⟩:=List.getElem_of_mem hm
    refine Ao (i:=i) ?_;rw[List.getElem?_set_ne,AE hi,e];intro e2;have h3:l[i]?=some (m,u):=by rw[AE hi,e]
    rw[<-e2,hw]at h3;injection h3 with h3
    injection h3 with h3 _
    exact hne h3.symm
 ·rw[C2 hk,CS,BP]
  constructor
  ·rintro(hm|e)
   ·exact .inr ⟨λe=>hk (by subst e;exact List.mem_map.2 ⟨_,hm,rfl⟩),hm⟩
   ·injection e with e1 e2
    exact .inl ⟨e1,e2⟩
  ·rintro(⟨rfl,rfl⟩|⟨_,hm⟩)
   ·exact .inr rfl
   ·exact .inl hm
theorem Fa{l:List (Int×α)}{n:Int}(h:n∉AJ l):BV l n=l:=if_neg h
theorem MA{β:Type}{l:List β}{i:Nat}{x e:β}(hx:l[i]?=some x)(he:l[l.length-1]?=some e):l.Perm (x::(l.set i e).take (l.length-1)):=by
 have hi:=(List.getElem?_eq_some_iff.1 hx).1
 obtain⟨l',e',rfl⟩:∃l' e',l=l'++[e']:=by
  rcases List.eq_nil_or_concat l with rfl|⟨l',e',rfl⟩
  ·cases hi
  ·exact⟨l',e',by simp⟩
 have hl:(l'++[e']).length-1=l'.length:=by simp
 rw[hl]at he⊢;rw[List.getElem?_append_right (Nat.le_refl _),Nat.sub_self]at he;injection he with he
 subst he;by_cases h:i<l'.length
 ·rw[List.getElem?_append_left h]at hx
  rw[List.set_append_left _ _ h,List.take_left' (by simp)];obtain⟨R,h1,h2⟩:=Bd hx;refine List.perm_append_comm.trans ?_;refine((h1.cons e').trans (.swap ..)).trans ?_;exact(h2 e').symm.cons x
 ·have hi':i=l'.length:=by simp at hi;omega
  subst hi';rw[List.getElem?_append_right (Nat.le_refl _),Nat.sub_self]at hx;injection hx with hx
  subst hx;rw[List.set_append_right _ _ (Nat.le_refl _),Nat.sub_self,List.set_cons_zero,List.take_left' rfl];exact List.perm_append_comm
theorem Ji{β:Type}{l:List β}(h:0<l.length):∃e,l[l.length-1]?=some e:=⟨l[l.length-1],AE (by omega)⟩
theorem C8{l:List (Int×α)}(h:ColOK l){n:Int}{v:α}(hm:(n,v)∈l):l.Perm ((n,v)::BV l n):=by
 have hk:n∈AJ l:=List.mem_map.2 ⟨_,hm,rfl⟩;obtain⟨w,hw⟩:=E5 hk;have h1:=E4 hk
 have hwv:w=v:=by
  have:=(CO h).2 hm;unfold Cz at this;rw[hw]at this;injection this
 subst hwv;obtain⟨e,he⟩:=Ji (l:=l) (by omega);unfold BV;rw[if_pos hk,he];exact MA hw he
theorem Jz{l:List (Int×α)}{n:Int}(hk:n∈AJ l):(BV l n).length=l.length-1:=by
 have h1:=E4 hk;obtain⟨e,he⟩:=Ji (l:=l) (by omega);unfold BV;rw[if_pos hk,he];simp
theorem ColOK.drop{l:List (Int×α)}(h:ColOK l)(n:Int):ColOK (BV l n):=by
 by_cases hk:n∈AJ l
 ·obtain⟨v,hv⟩:=Ew hk
  have:=h.perm (C8 h ((CO h).1 hv));exact⟨(List.nodup_cons.1 this.nd).2,λm hm=>this.lt m (List.mem_cons_of_mem _ hm)⟩
 ·rw[Fa hk];exact h
theorem Dl{l:List (Int×α)}(h:ColOK l){n m:Int}:m∈AJ (BV l n)↔m∈AJ l/\m≠n:=by
 by_cases hk:n∈AJ l
 ·obtain⟨v,hv⟩:=Ew hk
  have hp:=C8 h ((CO h).1 hv);have hd:=h.perm hp;have hn:n∉AJ (BV l n):=(List.nodup_cons.1 hd.nd).1;rw[(hp.map (·.1)).mem_iff (a:=m)];simp only[List.map_cons,BO];constructor
  ·intro hm
   exact⟨.inr hm,λe=>hn (by subst e;exact hm)⟩
  ·rintro⟨e|hm,hne⟩
   ·exact absurd e hne
   ·exact hm
 ·rw[Fa hk]
  exact⟨λhm=>⟨hm,λe=>hk (e▸hm)⟩,λhm=>hm.1⟩
theorem Pc{l:List (Int×α)}(h:ColOK l){n m:Int}(hne:m≠n):Cz (BV l n) m=Cz l m:=by
 by_cases hm:m∈AJ l
 ·obtain⟨v,hv⟩:=Ew hm
  rw[hv,CO (h.drop n)];have h1:=(CO h).1 hv;by_cases hk:n∈AJ l
  ·obtain⟨w,hw⟩:=Ew hk
   have:=(C8 h ((CO h).1 hw)).mem_iff.1 h1;rcases List.mem_cons.1 this with e|e
   ·injection e with e _
    exact absurd e hne
   ·exact e
  ·rw[Fa hk];exact h1
 ·rw[EA hm,EA (λhm'=>hm ((Dl h).1 hm').1)]
theorem Gn{l:List (Int×α)}(h:ColOK l){n:Int}(hn:0<=n/\n<256){v:α}{m:Int}:Cz (Bl l n v) m=if m=n then some v else Cz l m:=by
 split
 ·rename_i e
  subst e;exact(CO (h.put hn v)).2 ((IP h).2 (.inl ⟨rfl,rfl⟩))
 ·rename_i hne
  cases hg:Cz l m with
  |some w=>exact(CO (h.put hn v)).2 ((IP h).2 (.inr ⟨hne,(CO h).1 hg⟩))
  |none=>
   refine EA λhm=>?_
   obtain⟨⟨m',w⟩,hw,rfl⟩:=List.mem_map.1 hm;rcases(IP h).1 hw with⟨e,_⟩|⟨_,hw⟩
   ·exact hne e
   ·rw[(CO h).2 hw]at hg
    cases hg
theorem C6{ks:List Int}{n:Int}(h:n∈ks):ixG ks n=some (.int .i64 (ks.idxOf n:Nat)):=if_pos h
theorem Fv{ks:List Int}{n:Int}(h:n∉ks):ixG ks n=none:=if_neg h
theorem RD{ks:List Int}{n:Int}(h:n∉ks):EO (ixG ks) n (.int .i64 (ks.length:Nat))=ixG (ks++[n]):=by
 funext m
 unfold EO;split
 ·rename_i e
  subst e;rw[C6 (by simp),List.idxOf_append,if_neg h];simp
 ·rename_i hne
  by_cases hm:m∈ks
  ·rw[C6 hm,C6 (by simp[hm]),List.idxOf_append,if_pos hm]
  ·rw[Fv hm,Fv (by simp[hm,hne])]
theorem Ib{ks:List Int}(hd:ks.Nodup){i:Nat}{n:Int}(h:ks[i]?=some n):n∈ks/\ks.idxOf n=i:=by
 obtain⟨hi,e⟩:=List.getElem?_eq_some_iff.1 h;subst e;exact⟨AK _,hd.idxOf_getElem i _⟩
theorem Ob{ks:List Int}(hd:ks.Nodup){i:Nat}{n e:Int}(hn:ks[i]?=some n)(he:ks[ks.length-1]?=some e):Fm (EO (ixG ks) e (.int .i64 (i:Nat))) n=ixG ((ks.set i e).take (ks.length-1)):=by
 have hp:=MA hn he;have hd2:(n::(ks.set i e).take (ks.length-1)).Nodup:=hp.nodup_iff.1 hd;obtain⟨hn1,hd3⟩:=List.nodup_cons.1 hd2;obtain⟨hi,_⟩:=List.getElem?_eq_some_iff.1 hn;have hmem:∀m,m∈ks↔m=n\/m∈(ks.set i e).take (ks.length-1):=λm=>by rw[hp.mem_iff];simp
 funext m
 unfold Fm;split
 ·rename_i h
  subst h;rw[Fv hn1]
 ·rename_i hmn
  unfold EO;split
  ·rename_i hme
   subst hme
   have hi2:i<ks.length-1:=by
    refine Classical.byContradiction λh=>hmn ?_
    have:i=ks.length-1:=by omega
    rw[this,he]at hn;injection hn
   obtain⟨h1,h2⟩:=Ib hd3 (i:=i) (n:=m) (by rw[List.getElem?_take_of_lt hi2,List.getElem?_set_self hi]);rw[C6 h1,h2]
  ·rename_i hme
   by_cases hm:m∈ks
   ·obtain⟨j,hj,ej⟩:=List.getElem_of_mem hm
    have hj1:ks[j]?=some m:=by rw[AE hj,ej]
    have hj2:j<ks.length-1:=by
     refine Classical.byContradiction λh=>hme ?_
     have:j=ks.length-1:=by omega
     rw[this,he]at hj1;injection hj1 with hj1
     exact hj1.symm
    have hij:i≠j:=λh=>by
     subst h;rw[hn]at hj1;injection hj1 with hj1
     exact hmn hj1.symm
    obtain⟨h1,h2⟩:=Ib hd hj1;obtain⟨h3,h4⟩:=Ib hd3 (i:=j) (n:=m) (by rw[List.getElem?_take_of_lt hj2,List.getElem?_set_ne hij,hj1]);rw[C6 h1,h2,C6 h3,h4]
   ·rw[Fv hm,Fv λh=>hm ((hmem m).2 (.inr h))]
structure StK where
 X:Nat
 V:Nat
 R:Nat
 M:Nat
end
instance mapII:TMap Tryz.prog 257 3 3 (.int .i64 0):=⟨by kernel_rfl,by kernel_rfl,λw=>by kernel_rfl,PlainV.int (by kernel_rfl) rfl⟩
abbrev stE(k:StK)(l:List (Int×Ent)):List AC:=[(k.X,.row 259 3 [.agg [.sl k.V 0 l.length,.sl k.R 0 l.length,.mp k.M]]),(k.V,.row 32 2 (l.map λe=>A6 e.2)),(k.R,.row 3 1 (l.map λe=>iA e.1)),(k.M,.ob (MapF Tryz.prog 3 3 (ixG (AJ l)) l.length))]
theorem Pb{X V R M n m c:Nat}{l:List (Int×Ent)}{vs rs:List AV}{g:Int->Option Value}(h1:n=l.length)(h2:m=l.length)(h3:vs=l.map λe=>A6 e.2)(h4:rs=l.map λe=>iA e.1)(h5:g=ixG (AJ l))(h6:c=l.length):
  [(X,AO.row 259 3 [.agg [.sl V 0 n,.sl R 0 m,.mp M]]),(V,.row 32 2 vs),(R,.row 3 1 rs),(M,.ob (MapF Tryz.prog 3 3 g c))]=stE ⟨X,V,R,M⟩ l:=by
 subst h1 h2 h3 h4 h5 h6;rfl
theorem newE_sp:Spec Tryz.prog 149 [] [] λr S'=>∃k:StK,r= .ptr k.X 0 0/\S'=stE k []:=by
 refine Sp (nt:=4) (res:=[.tmp 0]) Tryz.func149 λSf=>?_
 refine R1 ?_;refine JB ?_;refine Ge ?_;refine Lc λM=>?_;refine KO ?_;refine Ai λX=>?_;refine JD ?_
 refine AWP.adoptIn (Y:=X) 32 2 .here (λV=>.cons (.agg (.cons (.base .nil) (.cons .same (.cons .same .nil)))) .nil) λV=>?_
 refine AWP.adoptIn (Y:=X) 3 1 (.next .here) (λV=>.cons (.agg (.cons .same (.cons (.base .nil) (.cons .same .nil)))) .nil) λR=>?_
 refine AWP.front M ?_;refine AWP.front R ?_;refine AWP.front V ?_;refine AWP.front X ?_;refine RT ?_;exact Ends.sp [.ptr X 0 0] (stE ⟨X,V,R,M⟩ []) ⟨⟨X,V,R,M⟩,rfl,rfl⟩
theorem UR(k:StK)(l:List (Int×Ent))(hl:ColOK l)(n:Int)(v:Ent)(hn:0<=n/\n<256):Spec Tryz.prog 152 [.ptr k.X 0 0,iA n,A6 v] (stE k l) λr S'=>∃q:Nat×Nat,r=iA 0/\S'=stE ⟨k.X,q.1,q.2,k.M⟩ (Bl l n v):=by
 have hlen:=hl.len;have hn1:decide (n<0)=false:=AY (by omega);have hn2:decide (n>=256)=false:=AY (by omega);have hI: -9223372036854775808<=n/\n<=9223372036854775807:=by omega
 by_cases hk:n∈AJ l
 ·obtain⟨u,hu⟩:=E5 hk
  have hi:=E4 hk;rw[Em hk];have hix:=C6 hk;have hke:=Ev (v:=v) hk;rw[Em hk]at hke;obtain⟨i,hi2⟩:=nm ((AJ l).idxOf n);rw[hi2]at hi hu hix hke⊢;have h1:(ixG (AJ l) n).getD (.int .i64 0)= .int .i64 (i:Nat):=by rw[hix];rfl
  have h2:(ixG (AJ l) n).isSome=true:=by rw[hix];rfl
  have hat:(l.map λe=>A6 e.2)[i]?=some (A6 u):=by rw[AG,hu];rfl
  have hset:(l.map λe=>A6 e.2).set i (A6 v)=(l.set i (n,v)).map λe=>A6 e.2:=by rw[List.map_set]
  have hrow:(l.map λe=>iA e.1)=(l.set i (n,v)).map λe=>iA e.1:=by
   have:=congrArg (List.map iA) hke;rw[AJ,AJ,List.map_map,List.map_map]at this;exact this.symm
  refine Sp (nt:=62) (res:=[.tmp 6]) Tryz.func152 λSf=>?_
  refine JE ?_;refine Ai λB0=>?_;refine JD ?_
  refine JJ ?_;refine AA rfl hn2 ?_;refine JB ?_;(iterate 5 refine WO ?_);refine AOps.gN ?_;refine AOps.go (h:=EL _ _ h1 h2 hI rfl rfl (by exact At.f)) (k:=?_);refine JF ?_;refine JJ ?_;refine AM rfl rfl ?_;refine FL ?_;refine RU ?_;(iterate 6 refine RK ?_);refine RGo.gN ?_;refine RGo.go (h:=W.idx rfl rfl (by exact At.f) rfl (by omega) (Nat.zero_add _)) (k:=?_);refine RK ?_;refine RGo.nil (by kernel_rfl) ?_;refine JI ?_;exact Ends.sp [iA 0] _ ⟨(k.V,k.R),rfl,Pb (n:=l.length) (m:=l.length) (c:=l.length) (by simp) (by simp) hset hrow (by rw[hke]) (by simp)⟩
 ·rw[C2 hk]
  have hix:=Fv hk;have h1:(ixG (AJ l) n).getD (.int .i64 0)= .int .i64 0:=by rw[hix];rfl
  have h2:(ixG (AJ l) n).isSome=false:=by rw[hix];rfl
  have hkl:(AJ l).length=l.length:=AB _
  have hkf:EO (ixG (AJ l)) n (.int .i64 (l.length:Nat))=ixG (AJ (l++[(n,v)])):=by
   rw[<-hkl,RD hk,AJ,AJ,List.map_append];rfl
  have hsz:(if(ixG (AJ l) n).isSome then l.length else l.length+1)=l.length+1:=by rw[h2];rfl
  have hmx:l.length<maxLen:=by unfold maxLen;omega
  refine Sp (nt:=62) (res:=[.tmp 6]) Tryz.func152 λSf=>?_
  refine JE ?_;refine Ai λB0=>?_;refine JD ?_
  refine JJ ?_;refine AA rfl hn2 ?_;refine JB ?_;(iterate 5 refine WO ?_);refine AOps.gN ?_;refine AOps.go (h:=EL _ _ h1 h2 hI rfl rfl (by exact At.f)) (k:=?_);refine JF ?_;refine JJ ?_;refine AA rfl rfl ?_;refine FL ?_;refine RU ?_;(iterate 10 refine RK ?_);refine RGo.gN ?_;refine RGo.goS (h:=W.mapUpd (PlainV.int (by kernel_rfl) (GV (by omega))) hI hmx rfl rfl rfl (by exact At.f)) (k:=?_);refine RGo.nil (by kernel_rfl) ?_;rw[hkf,hsz];refine FL ?_;refine AWP.rs λA=>AWP.rs λB=>?_
  refine RU ?_;(iterate 7 refine RK ?_);refine RGo.g_lit ?_;refine RGo.goL (iA n) ?_;(iterate 6 refine RK ?_);refine RGo.g_lit ?_;refine RGo.goL (A6 v) ?_;(iterate 7 refine RK ?_);refine RGo.nil (by kernel_rfl) ?_;refine JC ?_;refine AWP.front k.M ?_;refine AWP.front B ?_;refine AWP.front A ?_;refine AWP.front k.X ?_;refine RT ?_;exact Ends.sp [iA 0] _ ⟨(A,B),rfl,Pb (n:=l.length+1) (m:=l.length+1) (c:=l.length+1) (by simp) (by simp) (by rw[List.map_append]) (by rw[List.map_append]) rfl (by simp)⟩
abbrev stS(k:StK)(l:List (Int×List Int)):List AC:=[(k.X,.row 314 3 [.agg [.sl k.V 0 l.length,.sl k.R 0 l.length,.mp k.M]]),(k.V,.row 22 1 (l.map λe=>AN false e.2)),(k.R,.row 3 1 (l.map λe=>iA e.1)),(k.M,.ob (MapF Tryz.prog 3 3 (ixG (AJ l)) l.length))]
theorem Pa{X V R M n m c:Nat}{l:List (Int×List Int)}{vs rs:List AV}{g:Int->Option Value}(h1:n=l.length)(h2:m=l.length)(h3:vs=l.map λe=>AN false e.2)(h4:rs=l.map λe=>iA e.1)(h5:g=ixG (AJ l))(h6:c=l.length):
  [(X,AO.row 314 3 [.agg [.sl V 0 n,.sl R 0 m,.mp M]]),(V,.row 22 1 vs),(R,.row 3 1 rs),(M,.ob (MapF Tryz.prog 3 3 g c))]=stS ⟨X,V,R,M⟩ l:=by
 subst h1 h2 h3 h4 h5 h6;rfl
theorem VO:Spec Tryz.prog 150 [] [] λr S'=>∃k:StK,r= .ptr k.X 0 0/\S'=stS k []:=by
 refine Sp (nt:=4) (res:=[.tmp 0]) Tryz.func150 λSf=>?_
 refine R1 ?_;refine JB ?_;refine Ge ?_;refine Lc λM=>?_;refine KO ?_;refine Ai λX=>?_;refine JD ?_
 refine AWP.adoptIn (Y:=X) 22 1 .here (λV=>.cons (.agg (.cons (.base .nil) (.cons .same (.cons .same .nil)))) .nil) λV=>?_
 refine AWP.adoptIn (Y:=X) 3 1 (.next .here) (λV=>.cons (.agg (.cons .same (.cons (.base .nil) (.cons .same .nil)))) .nil) λR=>?_
 refine AWP.front M ?_;refine AWP.front R ?_;refine AWP.front V ?_;refine AWP.front X ?_;refine RT ?_;exact Ends.sp [.ptr X 0 0] (stS ⟨X,V,R,M⟩ []) ⟨⟨X,V,R,M⟩,rfl,rfl⟩
theorem T7(k:StK)(l:List (Int×List Int))(hl:ColOK l)(n:Int)(hn:I64 n)(v:List Int)(hg:Cz l n=some v):Spec Tryz.prog 156 [.ptr k.X 0 0,iA n] (stS k l) λr S'=>r= .tup [AN false v,bA true]/\S'=stS k l:=by
 have hlen:=hl.len;have hk:n∈AJ l:=Classical.byContradiction λh=>by rw[EA h]at hg;cases hg
 obtain⟨u,hv⟩:=E5 hk;have hi:=E4 hk;have hg2:Cz l n=some u:=by unfold Cz;rw[hv];rfl
 rw[hg]at hg2;injection hg2 with hg2
 subst hg2;have hat:(l.map λe=>AN false e.2)[(AJ l).idxOf n]?=some (AN false v):=by rw[AG,hv];rfl
 have hix:=C6 hk;obtain⟨i,hi2⟩:=nm ((AJ l).idxOf n);rw[hi2]at hi hat hix;have h1:(ixG (AJ l) n).getD (.int .i64 0)= .int .i64 (i:Nat):=by rw[hix];rfl
 have h2:(ixG (AJ l) n).isSome=true:=by rw[hix];rfl
 refine Sp (nt:=28) (res:=[.tmp 4,.tmp 5]) Tryz.func156 λSf=>?_
 refine R1 ?_;refine JB ?_;(iterate 5 refine WO ?_);refine AOps.gN ?_;refine AOps.go (h:=EL _ _ h1 h2 hn rfl rfl (by exact At.f)) (k:=?_);refine JF ?_;refine JJ ?_;refine AA rfl rfl ?_;refine JB ?_;(iterate 5 refine WO ?_);refine AOps.gN ?_;refine AOps.go (h:=W.idx rfl rfl (by exact At.f) rfl (by omega) (Nat.zero_add _)) (k:=?_);refine JF ?_;refine RT ?_;exact Ends.sp [AN false v,bA true] (stS k l) ⟨rfl,rfl⟩
theorem Ow(k:StK)(l:List (Int×List Int))(hl:ColOK l)(n:Int)(v:List Int)(hn:0<=n/\n<256):Spec Tryz.prog 153 [.ptr k.X 0 0,iA n,AN false v] (stS k l) λr S'=>∃q:Nat×Nat,r=iA 0/\S'=stS ⟨k.X,q.1,q.2,k.M⟩ (Bl l n v):=by
 have hlen:=hl.len;have hn1:decide (n<0)=false:=AY (by omega);have hn2:decide (n>=256)=false:=AY (by omega);have hI: -9223372036854775808<=n/\n<=9223372036854775807:=by omega
 by_cases hk:n∈AJ l
 ·obtain⟨u,hu⟩:=E5 hk
  have hi:=E4 hk;rw[Em hk];have hix:=C6 hk;have hke:=Ev (v:=v) hk;rw[Em hk]at hke;obtain⟨i,hi2⟩:=nm ((AJ l).idxOf n);rw[hi2]at hi hu hix hke⊢;have h1:(ixG (AJ l) n).getD (.int .i64 0)= .int .i64 (i:Nat):=by rw[hix];rfl
  have h2:(ixG (AJ l) n).isSome=true:=by rw[hix];rfl
  have hat:(l.map λe=>AN false e.2)[i]?=some (AN false u):=by rw[AG,hu];rfl
  have hset:(l.map λe=>AN false e.2).set i (AN false v)=(l.set i (n,v)).map λe=>AN false e.2:=by rw[List.map_set]
  have hrow:(l.map λe=>iA e.1)=(l.set i (n,v)).map λe=>iA e.1:=by
   have:=congrArg (List.map iA) hke;rw[AJ,AJ,List.map_map,List.map_map]at this;exact this.symm
  refine Sp (nt:=62) (res:=[.tmp 6]) Tryz.func153 λSf=>?_
  refine R1 ?_;refine JJ ?_;refine AA rfl hn2 ?_;refine JB ?_;(iterate 5 refine WO ?_);refine AOps.gN ?_;refine AOps.go (h:=EL _ _ h1 h2 hI rfl rfl (by exact At.f)) (k:=?_);refine JF ?_;refine JJ ?_;refine AM rfl rfl ?_;refine JB ?_;(iterate 6 refine WO ?_);refine AOps.gN ?_;refine AOps.go (h:=W.idx rfl rfl (by exact At.f) rfl (by omega) (Nat.zero_add _)) (k:=?_);refine JD ?_;refine JI ?_;exact Ends.sp [iA 0] _ ⟨(k.V,k.R),rfl,Pa (n:=l.length) (m:=l.length) (c:=l.length) (by simp) (by simp) hset hrow (by rw[hke]) (by simp)⟩
 ·rw[C2 hk]
  have hix:=Fv hk;have h1:(ixG (AJ l) n).getD (.int .i64 0)= .int .i64 0:=by rw[hix];rfl
  have h2:(ixG (AJ l) n).isSome=false:=by rw[hix];rfl
  have hkl:(AJ l).length=l.length:=AB _
  have hkf:EO (ixG (AJ l)) n (.int .i64 (l.length:Nat))=ixG (AJ (l++[(n,v)])):=by
   rw[<-hkl,RD hk,AJ,AJ,List.map_append];rfl
  have hsz:(if(ixG (AJ l) n).isSome then l.length else l.length+1)=l.length+1:=by rw[h2];rfl
  have hmx:l.length<maxLen:=by unfold maxLen;omega
  refine Sp (nt:=62) (res:=[.tmp 6]) Tryz.func153 λSf=>?_
  refine R1 ?_;refine JJ ?_;refine AA rfl hn2 ?_;refine JB ?_;(iterate 5 refine WO ?_);refine AOps.gN ?_;refine AOps.go (h:=EL _ _ h1 h2 hI rfl rfl (by exact At.f)) (k:=?_);refine JF ?_;refine JJ ?_;refine AA rfl rfl ?_;refine FL ?_;refine RU ?_;(iterate 10 refine RK ?_);refine RGo.gN ?_;refine RGo.goS (h:=W.mapUpd (PlainV.int (by kernel_rfl) (GV (by omega))) hI hmx rfl rfl rfl (by exact At.f)) (k:=?_);refine RGo.nil (by kernel_rfl) ?_;rw[hkf,hsz];refine FL ?_;refine AWP.rs λA=>AWP.rs λB=>?_
  refine RU ?_;(iterate 7 refine RK ?_);refine RGo.g_lit ?_;refine RGo.goL (iA n) ?_;(iterate 6 refine RK ?_);refine RGo.g_lit ?_;refine RGo.goL (AN false v) ?_;(iterate 7 refine RK ?_);refine RGo.nil (by kernel_rfl) ?_;refine JC ?_;refine AWP.front k.M ?_;refine AWP.front B ?_;refine AWP.front A ?_;refine AWP.front k.X ?_;refine RT ?_;exact Ends.sp [iA 0] _ ⟨(A,B),rfl,Pa (n:=l.length+1) (m:=l.length+1) (c:=l.length+1) (by simp) (by simp) (by rw[List.map_append]) (by rw[List.map_append]) rfl (by simp)⟩
def CU:List Int->List Int->Int
 |[],[]=>0
 |[],_::_=>-1
 |_::_,[]=>1
 |x::a,y::b=>if Cp x y≠0 then Cp x y else CU a b
theorem Vs{a b:List Int}{i:Nat}(ha:i<a.length)(hb:i<b.length):CU (a.drop i) (b.drop i)=if Cp a[i] b[i]≠0 then Cp a[i] b[i]else CU (a.drop (i+1)) (b.drop (i+1)):=by
 rw[CD ha,CD hb,CU]
theorem O1(a b:List Int)(ha:a.length<=1099511627776):PS Tryz.prog 148 [AN false a,AN false b] (iA (CU a b)):=by
 have ham:(a.map iA).length=a.length:=AB _;have hbm:(b.map iA).length=b.length:=AB _;refine Sp (nt:=36) (res:=[.tmp 4]) Tryz.func148 λSf=>?_
 refine KK ?_;refine BJ (λ(i:Nat)=>⟨[(0,AN false a),(1,AN false b),(9,AN false a),(10,iA (a.map iA).length),(11,iA i)],Sf⟩) (λi=>i<=a.length/\i<=b.length/\CU a b=CU (a.drop i) (b.drop i)) (λi=>a.length-i) 0 ⟨by omega,by omega,rfl⟩ ?_;rintro i ⟨hi,hib,hc⟩;refine KK ?_;refine AWP.cond rfl (λh=>?_) (λh=>?_)
 ·have h:i<a.length:=by rw[AF,ham]at h;omega
  have hat:(a.map iA)[i]?=some (iA a[i]):=BB _ h;obtain⟨x,hx⟩:=nm (a[i]);rw[hx]at hat;have hil:i<(a.map iA).length:=by omega
  refine KK ?_;refine AWP.cond rfl (λh2=>?_) (λh2=>?_)
  ·have h2:i=b.length:=by rw[AF,hbm]at h2;omega
   refine JA ?_;refine AI ?_;have hbn:b.drop i=[]:=List.drop_eq_nil_of_le (by omega);rw[hc,hbn,CD h];rfl
  ·have h2:i<b.length:=by rw[AQ,hbm]at h2;omega
   have hat2:(b.map iA)[i]?=some (iA b[i]):=BB _ h2;have hil2:i<(b.map iA).length:=by omega
   rw[Vs h h2]at hc;obtain⟨y,hy⟩:=nm (b[i]);rw[hx,hy]at hc;rw[hy]at hat2;have hcm:=E9 x y;obtain⟨z,hz⟩:=nm (Cp x y);rw[hz]at hcm hc;refine KK ?_;refine AOps.g_callf ?_;refine AOps.c2 (h:=(hcm ..)) (k:=?_);refine KK ?_;refine AWP.cond rfl (λh3=>?_) (λh3=>?_)
   ·have h3:z≠0:=by simpa using h3
    refine JA ?_;refine AI ?_;rw[hc,if_pos h3]
   ·have h3:z=0:=by simpa using h3
    rw[if_neg (by simp[h3])]at hc;refine KK ?_;exact Af (i+1) ⟨by omega,by omega,hc⟩ (by omega)
 ·have h:i=a.length:=by rw[AQ,ham]at h;omega
  subst h;rw[List.drop_length]at hc;refine KK ?_;refine AWP.cond rfl (λh2=>?_) (λh2=>?_)
  ·have h2:a.length<b.length:=by rw[AF,ham,hbm]at h2;omega
   refine JA ?_;refine AI ?_;rw[hc,CD h2];rfl
  ·have h2:a.length=b.length:=by rw[AQ,ham,hbm]at h2;omega
   refine JA ?_;refine AI ?_;rw[hc,List.drop_eq_nil_of_le (by omega)];rfl
def Eb{α:Type}(f:α->AV)(z:AV)(l:List α)(i:Nat):List AV:=(l.take i).map f++List.replicate (l.length-i) z
theorem Mb{α:Type}(f:α->AV)(z:AV)(l:List α){i:Nat}(h:i<=l.length):(Eb f z l i).length=l.length:=by
 unfold Eb;rw[AL,AB,Ah,List.length_replicate];omega
theorem Kz{α:Type}(f:α->AV)(z:AV)(l:List α):Eb f z l 0=List.replicate l.length z:=by unfold Eb;simp
theorem Mc{α:Type}(f:α->AV)(z:AV)(l:List α):Eb f z l l.length=l.map f:=by unfold Eb;simp
theorem Oq{α:Type}(f:α->AV)(z:AV)(l:List α){i:Nat}(h:i<l.length):(Eb f z l i)[i]?=some z:=by
 unfold Eb;have hl:((l.take i).map f).length=i:=by rw[AB,Ah];omega
 rw[List.getElem?_append_right (by omega),hl,Nat.sub_self,List.getElem?_replicate,if_pos (by omega)]
theorem Ma{α:Type}(f:α->AV)(z:AV)(l:List α){i:Nat}(h:i<l.length):(Eb f z l i).set i (f l[i])=Eb f z l (i+1):=by
 unfold Eb;have hl:((l.take i).map f).length=i:=by rw[AB,Ah];omega
 rw[List.set_append_right _ _ (by omega),hl,Nat.sub_self,show l.length-i=(l.length-(i+1))+1 by omega,List.replicate_succ,List.set_cons_zero,List.take_succ_eq_append_getElem h,List.map_append,AP];rfl
theorem QC(l:List Comp)(hl:l.length<=1099511627776):PS Tryz.prog 145 [Aw false false l] (AN true (l.map (·.kind))):=by
 have hlm:(l.map (AH false)).length=l.length:=AB _;refine Sp (nt:=23) (res:=[.tmp 2]) Tryz.func145 λSf=>?_
 refine R1 ?_;refine JH ?_;refine DG ?_;refine FB (iA 0) λK=>?_;refine JD ?_
 rw[hlm,<-Kz (λc:Comp=>iA c.kind)];refine JJ ?_;refine BJ (λ(i:Nat)=>⟨[(3,.sl K 0 l.length),(9,Aw false false l),(10,iA (l.map (AH false)).length),(11,iA i)],(K,.row 3 1 (Eb (λc:Comp=>iA c.kind) (iA 0) l i))::Sf⟩) (λi=>i<=l.length) (λi=>l.length-i) 0 (by omega) ?_;rintro i hi;have hfl:=Mb (λc:Comp=>iA c.kind) (iA 0) l hi;refine JM ?_;refine AWP.cond rfl (λh=>?_) (λh=>?_)
 ·have h:i<l.length:=by rw[AF,hlm]at h;omega
  have hat:(l.map (AH false))[i]?=some (AH false l[i]):=BB _ h;have hil:i<(l.map (AH false)).length:=by omega
  have hfa:=Oq (λc:Comp=>iA c.kind) (iA 0) l h;have hfs:=Ma (λc:Comp=>iA c.kind) (iA 0) l h;obtain⟨⟨ck,cv⟩,hc⟩:=nm (l[i]);rw[hc]at hat hfs;refine JK ?_;refine Ai λC=>?_;refine JF ?_
  refine JB ?_;(iterate 4 refine WO ?_);refine AOps.gN ?_;refine AOps.go (h:=W.idx rfl rfl (by exact At.f) rfl (by omega) (Nat.zero_add _)) (k:=?_);refine JD ?_;rw[hfs];refine JC ?_;exact Af (i+1) (by omega)
 ·have h:i=l.length:=by rw[AQ,hlm]at h;omega
  subst h;rw[Mc];refine JI ?_;exact⟨[.sl K 0 l.length],[AN true (l.map (·.kind))],_,[],.cons (.tmp rfl) rfl .nil,.cons (.cell (by unfold AN;rw[show(l.map (·.kind)).map iA=l.map (λc:Comp=>iA c.kind)from List.map_map];exact .sl (p:=0) .here (by simp))) .nil,by exact Sub.f,rfl,rfl⟩
abbrev ptrs{α:Type}(px:α->Nat)(l:List α):List AV:=l.map λx=>.ptr (px x) 0 0
theorem Ph{α:Type}(Tb:Nat)(l:List α)(px:α->Nat)(R:List AC)(ks:List Int)(f:FuncId)(g:α->Int)(hl:l.length<=4611686018427387904)(hf:∀x∈l,Spec Tryz.prog f [.ptr (px x) 0 0,AN false ks] R λr S'=>r=iA (g x)/\S'=R):
  Spec Tryz.prog 146 [.sl Tb 0 l.length,AN false ks,.fn f []] ((Tb,.row 145 1 (ptrs px l))::R) λr S'=>∃b,Found g l b/\r= .tup [iA b.1,bA b.2]/\S'=(Tb,.row 145 1 (ptrs px l))::R:=by
 refine Sp (nt:=49) (res:=[.tmp 6,.tmp 7]) Tryz.func146 λSf=>?_
 have hlm:(ptrs px l).length=l.length:=AB _;refine KK ?_;refine BZ (λ(i j:Nat)=>⟨[(0,.sl Tb 0 l.length),(1,AN false ks),(2,.fn f []),(8,iA l.length),(9,iA i),(10,iA j)],(Tb,.row 145 1 (ptrs px l))::(R++Sf)⟩) (λi j=>i<=j/\j<=l.length/\(JO g l->Spl g l i j)) (λi j=>j-i) 0 l.length ⟨Nat.zero_le _,by omega,λ_=>⟨λk x h=>absurd h (by omega),λk x h hx=>by have:=(List.getElem?_eq_some_iff.1 hx).1;omega⟩⟩ ?_;rintro i j ⟨hij,hjn,hmono⟩;refine KK ?_;refine AWP.cond rfl (λhc=>?_) (λhc=>?_)
 ·have h:i<j:=by rw[AF]at hc;omega
  have hmid:((i:Int)+j).fdiv (2^1)=(((i+j)/2:Nat):Int):=by
   rw[Int.fdiv_eq_ediv_of_nonneg _ (by decide)];omega
  have hw1:IntKind.u64.wrap ((i:Int)+j)=i+j:=by rw[IntKind.wrap_u64];omega
  have hw2:IntKind.i64.wrap (((i:Int)+j).fdiv (2^1))=((i:Int)+j).fdiv (2^1):=by
   rw[IntKind.wrap_i64,hmid];omega
  refine RG ?_;(iterate 3 refine WO ?_);refine AOps.gN ?_;refine AOps.p (W.conv .i64 .u64 (by kernel_rfl) (by kernel_rfl) rfl hw1) rfl ?_;refine AOps.gN ?_;refine AOps.p (W.shr 1 rfl rfl rfl (by decide)) rfl ?_;refine AOps.gN ?_;refine AOps.p (W.conv .u64 .i64 (by kernel_rfl) (by kernel_rfl) rfl hw2) rfl ?_;refine JD ?_;rw[hmid];obtain⟨m,hm⟩:=nm ((i+j)/2);rw[hm];have hml:m<l.length:=by omega
  obtain⟨y,hy⟩:=nm (l[m]);have hya:l[m]?=some y:=by rw[AE hml,hy]
  have hat:(ptrs px l)[m]?=some (.ptr (px y) 0 0):=by rw[AG,hya];rfl
  have hfy:=hf y (by rw[<-hy];exact AK hml);refine RG ?_;(iterate 3 refine WO ?_);refine AOps.gN ?_;refine AOps.go (h:=W.idx rfl rfl (by exact At.f) rfl (by omega) (Nat.zero_add _)) (k:=?_);refine WO ?_;refine WO ?_;refine AOps.gN ?_;refine PI [(Tb,_)] (h:=hfy) (k:=?_);refine JD ?_;refine AWP.cond rfl (λhe=>?_) (λhe=>?_)
  ·have he:g y<0:=by simpa using he
   refine KK ?_;refine A8 (m+1) j ⟨by omega,hjn,λhM=>(hmono hM).lo hM hya he⟩
  ·have he:¬g y<0:=by simpa using he
   refine KK ?_;refine A8 i m ⟨by omega,by omega,λhM=>(hmono hM).hi hM hya he⟩
 ·have h:i=j:=by rw[AQ]at hc;omega
  subst h;by_cases hin:i<l.length
  ·have hil:i<l.length:=by omega
   have g1:decide ((i:Int)<l.length)=true:=Ae (by omega);obtain⟨y,hy⟩:=nm (l[i]);have hya:l[i]?=some y:=by rw[AE hil,hy]
   have hat:(ptrs px l)[i]?=some (.ptr (px y) 0 0):=by rw[AG,hya];rfl
   have hfy:=hf y (by rw[<-hy];exact AK hil)
   (iterate 15 refine WK ?_);refine AOps.gN ?_;refine AOps.go (h:=W.idx rfl rfl (by exact At.f) rfl (by omega) (Nat.zero_add _)) (k:=?_);(iterate 5 refine WK ?_);refine AOps.gN ?_;refine PI [(Tb,_)] (h:=hfy) (k:=?_);refine KK ?_
   refine RT ?_;exact Ends.sp [iA i,bA (decide (g y=0))] ((Tb,.row 145 1 (ptrs px l))::R) ⟨(i,decide (g y=0)),⟨by simp;omega,by simp[hya],hmono⟩,rfl,rfl⟩
  ·have g1:decide ((i:Int)<l.length)=false:=AY (by omega)
   refine JA ?_;exact Ends.sp [iA i,bA false] ((Tb,.row 145 1 (ptrs px l))::R) ⟨(i,false),⟨by simp;omega,by simp[List.getElem?_eq_none (show l.length<=i by omega)],hmono⟩,rfl,rfl⟩
theorem SK{α:Type}(X:Nat)(l:List α)(px:α->Nat)(R:List AC)(f:FuncId)(cap:List AV)(p:α->Bool)(hs:B4 cap=true)(hl:l.length<=4611686018427387904)(hf:∀x∈l,Spec Tryz.prog f (.ptr (px x) 0 0::cap) R λr S'=>r=bA (p x)/\S'=R):Spec Tryz.prog 303 [.sl X 0 l.length,.fn f cap] ((X,.row 145 1 (ptrs px l))::R) λr S'=>r=iA (ER l p)/\S'=(X,.row 145 1 (ptrs px l))::R:=by
 refine Sp (nt:=19) (res:=[.tmp 4]) Tryz.func303 λSf=>?_
 refine KK ?_;refine BJ (λi:Nat=>⟨[(0,.sl X 0 l.length),(1,.fn f cap),(7,iA l.length),(8,iA i)],(X,.row 145 1 (ptrs px l))::(R++Sf)⟩) (λi=>i<=l.length/\∀j (h:j<l.length),j<i->p l[j]=false) (λi=>l.length-i) 0 ⟨Nat.zero_le _,λj h hj=>absurd hj (by omega)⟩ ?_;rintro i ⟨hi,he⟩;refine KK ?_;refine AWP.cond rfl (λhc=>?_) (λhc=>?_)
 ·have h:i<l.length:=by simpa using hc
  have hfx:=hf _ (AK h);obtain⟨y,hy⟩:=nm (l[i]);have hat:(ptrs px l)[i]?=some (.ptr (px y) 0 0):=by rw[AG,AE h,hy];rfl
  rw[hy]at hfx
  (iterate 13 refine WK ?_);refine AOps.gN ?_;refine AOps.go (h:=W.idx rfl rfl (by exact At.f) rfl (by omega) (Nat.zero_add _)) (k:=?_);refine WK ?_;refine AOps.gN ?_;refine PJ [(X,_)] (h:=hfx) (k:=?_);refine KK ?_
  refine AWP.cond rfl (λhd=>?_) (λhd=>?_)
  ·refine KK ?_
   rw[Eo h (by rw[hy];exact hd) λj hj=>he j (by omega) hj];refine RT ?_;exact Ends.sp [iA i] ((X,.row 145 1 (ptrs px l))::R) ⟨rfl,rfl⟩
  ·refine KK ?_
   refine Af (i+1) ⟨h,λj h1 h2=>?_⟩;by_cases e:j=i
   ·subst e;rw[hy];exact hd
   ·exact he j h1 (by omega)
 ·have h:¬i<l.length:=by simpa using hc
  refine KK ?_;rw[Ep λj hj=>he j hj (by omega)];refine RT ?_;exact Ends.sp [iA (-1)] ((X,.row 145 1 (ptrs px l))::R) ⟨rfl,rfl⟩
theorem QS{α:Type}(X:Nat)(l:List α)(px:α->Nat)(R:List AC)(f:FuncId)(cap:List AV)(p:α->Bool)(hs:B4 cap=true)(hl:l.length<=4611686018427387903)(hf:∀x∈l,Spec Tryz.prog f (.ptr (px x) 0 0::cap) R λr S'=>r=bA (p x)/\S'=R):Spec Tryz.prog 300 [.sl X 0 l.length,.fn f cap] ((X,.row 145 1 (ptrs px l))::R) λr S'=>r= .lst true 145 1 (ptrs px (l.filter λx=>!p x))/\S'=R:=by
 refine Sp (nt:=42) (res:=[.tmp 4]) Tryz.func300 λSf=>?_
 have h0:=SK X l px R f cap p hs (by omega) hf;have hr:=Kl l p;obtain⟨v,hv⟩:=nm (ER l p);rw[hv]at h0 hr
 (iterate 8 refine WK ?_);refine AOps.gN ?_;refine EN [] (h:=h0) (k:=?_);refine KK ?_
 refine AWP.cond rfl (λhc=>?_) (λhc=>?_)
 ·have hc:v= -1:=by simpa using hc
  have hall:(l.filter λx=>!p x)=l:=by
   rw[List.filter_eq_self];intro x hx
   have h1:l.findIdx? p=none:=by
    unfold ER at hv;split at hv
    ·omega
    ·assumption
   rw[List.findIdx?_eq_none_iff]at h1;simp[h1 x hx]
  rw[hall];refine JA ?_;exact⟨[.sl X 0 l.length],[.lst true 145 1 (ptrs px l)],_,R,.cons (.tmp rfl) rfl .nil,.cons (.cell (.sl (p:=0) .here (by simp))) .nil,by exact Sub.f,rfl,rfl⟩
 ·have hc:v≠-1:=by simpa using hc
  obtain⟨i0,hi0⟩:∃i0:Nat,v=i0:=⟨v.toNat,by omega⟩;subst hi0
  have hfi:l.findIdx? p=some i0:=by
   unfold ER at hv;split at hv
   ·rename_i i hi;rw[hi];congr 1;omega
   ·omega
  obtain⟨hil,hpi,hmin⟩:=List.findIdx?_eq_some_iff_getElem.1 hfi
  have ht0:(l.take (i0+1)).filter (λx=>!p x)=l.take i0:=by
   rw[List.take_succ_eq_append_getElem hil,List.filter_append];rw[show([l[i0]].filter λx=>!p x)=[] by simp[hpi],List.append_nil,List.filter_eq_self];intro x hx;obtain⟨j,hj,rfl⟩:=List.mem_take_iff_getElem.1 hx;have:=hmin j (by omega);simp at this⊢;exact this
  refine KK ?_;refine Dd (λ(i j:Nat) (M:List AV)=>⟨[(0,.sl X 0 l.length),(1,.fn f cap),(5,iA i),(6,iA j)],(X,.row 145 1 M)::(R++Sf)⟩) (λi j M=>i<j/\j<=l.length/\∃K:List α,M=ptrs px K/\K.length=l.length/\K.take i=((l.take j).filter λx=>!p x)/\K.drop j=l.drop j) (λi j _=>l.length-j) i0 (i0+1) (ptrs px l) ⟨by omega,hil,l,rfl,rfl,ht0.symm,rfl⟩ ?_;rintro i j M ⟨hij,hj,K,rfl,hM,h1,h2⟩;refine KK ?_;refine AWP.cond rfl (λhd=>?_) (λhd=>?_)
  ·have h:j<l.length:=by simpa using hd
   have hKj:K[j]?=some l[j]:=by
    have:=congrArg (λz=>z[0]?) h2;simpa[h]using this
   have hat:(ptrs px K)[j]?=some (.ptr (px l[j]) 0 0):=by rw[AG,hKj];rfl
   have hKi:i<K.length:=by omega
   obtain⟨b,hb⟩:=nm (p l[j]);have hfj:=hf _ (AK h);rw[hb]at hfj
   have htk:(l.take (j+1)).filter (λx=>!p x)=(l.take j).filter (λx=>!p x)++if b then[]else[l[j]]:=by
    rw[List.take_succ_eq_append_getElem h,List.filter_append]
    congr 1
    cases b<;>simp[hb]
   obtain⟨y,hy⟩:=nm (l[j]);rw[hy]at hat hfj
   (iterate 7 refine WK ?_);refine AOps.gN ?_;refine AOps.go (h:=W.idx rfl rfl (by exact At.f) rfl (by omega) (Nat.zero_add _)) (k:=?_);(iterate 7 refine WK ?_);refine AOps.gN ?_;refine PJ [(X,_)] (h:=hfj) (k:=?_);refine KK ?_
   cases b
   ·refine AM rfl rfl ?_
    refine KK ?_;refine CK (i+1) (j+1) ((ptrs px K).set i (.ptr (px y) 0 0)) ⟨by omega,h,K.set i y,by rw[ptrs,ptrs,List.map_set],by simpa using hM,?_,?_⟩
    ·rw[htk,<-h1,List.take_add_one,List.take_set,List.set_eq_of_length_le (by rw[Ah];omega),List.getElem?_set_self hKi]
     simp[hy]
    ·rw[List.drop_set_of_lt (by omega),<-List.drop_drop,h2,List.drop_drop]
   ·refine AA rfl rfl ?_
    refine KK ?_;refine CK i (j+1) _ ⟨by omega,h,K,rfl,hM,?_,?_⟩
    ·rw[h1,htk];simp
    ·rw[<-List.drop_drop,h2,List.drop_drop]
  ·have h:j=l.length:=by rw[AQ]at hd;omega
   subst h;have h1':K.take i=l.filter λx=>!p x:=by rw[h1,List.take_length]
   have hKl:(ptrs px K).length=l.length:=by rw[AB,hM]
   have hki:∀A B,(List.take (0+i) (ptrs px K)++A++B).take i=ptrs px (l.filter λx=>!p x):=λA B=>by
    rw[Nat.zero_add,AP,List.take_append_of_le_length (by rw[Ah];omega),List.take_take,Nat.min_self,ptrs,<-List.map_take,h1']
   have hfl:i=(ptrs px (l.filter λx=>!p x)).length:=by
    rw[<-h1',AB,Ah];omega
   (repeat first|(refine AOps.gN ?_;first|refine AOps.s (W.slice_lo rfl rfl (by exact At.f) rfl (by omega)) rfl ?_|refine AOps.s (W.clear rfl (by exact At.f) (by first|exact .inl rfl|exact .inr rfl) rfl (by omega)) rfl ?_|refine AOps.p (W.hi rfl rfl (by exact At.f) rfl (by omega)) rfl ?_)|refine WK ?_|refine Ai λX=>?_|refine Ay λY=>?_);refine AWP.shrink (X:=X) i ?_;rw[hki];refine RT ?_;exact⟨[.sl X 0 i],[.lst true 145 1 (ptrs px (l.filter λx=>!p x))],_,R,.cons (.tmp rfl) rfl .nil,.cons (.cell (.sl (p:=0) .here hfl)) .nil,by exact Sub.f,rfl,rfl⟩
structure Tab where
 X:Nat
 ks:List Int
 ek:StK
 es:List (Int×Ent)
 cs:List (StK×List (Int×List Int))
def Bg(cs:List (StK×List (Int×List Int))):List AC:=cs.flatMap λc=>stS c.1 c.2
abbrev O3(cs:List (StK×List (Int×List Int))):AV:=.lst false 252 1 (cs.map λc=>.ptr c.1.X 0 0)
abbrev D7(t:Tab):AC:=(t.X,.row 151 3 [.agg [AN false t.ks,.ptr t.ek.X 0 0,O3 t.cs]])
abbrev Ec(t:Tab):List AC:=D7 t::(stE t.ek t.es++Bg t.cs)
theorem DM(a b:List (StK×List (Int×List Int))):Bg (a++b)=Bg a++Bg b:=List.flatMap_append
theorem DE(c:StK×List (Int×List Int))(b:List (StK×List (Int×List Int))):Bg (c::b)=stS c.1 c.2++Bg b:=List.flatMap_cons
theorem Fb{α:Type}{l:List α}{i:Nat}(h:i<l.length):∃l1 l2,l=l1++l[i]::l2/\l1.length=i:=⟨l.take i,l.drop (i+1),by rw[List.getElem_cons_drop,List.take_append_drop],by rw[Ah];omega⟩
def Aa(t:Tab)(n:Int):List Comp:=(t.ks.zip t.cs).map λq=>⟨q.1,(Cz q.2.2 n).getD []⟩
structure TabOK(t:Tab):Prop where
 len:t.ks.length=t.cs.length
 ks:t.ks.length<=16
 es:ColOK t.es
 cs:∀c∈t.cs,ColOK c.2
 keys:∀c∈t.cs,∀n,n∈AJ c.2↔n∈AJ t.es
theorem Vy(t:Tab)(ks:List Int)(hl:t.ks.length<=1099511627776):Spec Tryz.prog 147 [.ptr t.X 0 0,AN false ks] [D7 t] λr S'=>r=iA (CU t.ks ks)/\S'=[D7 t]:=by
 have h1:=O1 t.ks ks hl;refine Sp (nt:=11) (res:=[.tmp 4]) Tryz.func147 λSf=>?_
 refine R1 ?_;refine JK ?_;refine AOps.g_callf ?_;refine AOps.c2 (h:=(h1 ..)) (k:=?_);refine JD ?_;refine RT ?_;exact Ends.sp [iA (CU t.ks ks)] [D7 t] ⟨rfl,rfl⟩
abbrev LE:AV:=.agg [iA 0,.prim (.slice none 0 0)]
theorem D9{t:Tab}{n:Int}{i:Nat}(h:i<(Aa t n).length)(h1:i<t.ks.length)(h2:i<t.cs.length):(Aa t n)[i]=⟨t.ks[i],(Cz t.cs[i].2 n).getD []⟩:=by simp[Aa]
theorem Oz(t:Tab)(n:Int)(ht:TabOK t)(hn:I64 n)(hk:n∈AJ t.es):Spec Tryz.prog 75 [.ptr t.X 0 0,iA n] (Ec t) λr S'=>r= .lst true 42 2 ((Aa t n).map (AH false))/\S'=Ec t:=by
 have hkm:(t.ks.map iA).length=t.ks.length:=AB _;have hcm:(t.cs.map λc=>AV.ptr c.1.X 0 0).length=t.cs.length:=AB _;have hlen:=ht.len;have h16:=ht.ks;have htl:(Aa t n).length=t.ks.length:=by unfold Aa;rw[AB,List.length_zip];omega
 refine Sp (nt:=46) (res:=[.tmp 4]) Tryz.func75 λSf=>?_
 refine R1 ?_;refine JB ?_;(iterate 5 refine WO ?_);refine DG ?_;refine FB (AV.agg [iA 0,.prim (.slice none 0 0)]) λK=>?_;refine JD ?_
 rw[hkm,<-htl,<-Kz (AH false)];refine JJ ?_;refine BJ (λ(i:Nat)=>⟨[(0,.ptr t.X 0 0),(1,iA n),(5,.sl K 0 (Aa t n).length),(19,AN false t.ks),(20,iA (t.ks.map iA).length),(21,iA i)],(K,.row 42 2 (Eb (AH false) LE (Aa t n) i))::(Ec t++Sf)⟩) (λi=>i<=t.ks.length) (λi=>t.ks.length-i) 0 (by omega) ?_;rintro i hi;have hfl:=Mb (AH false) LE (Aa t n) (i:=i) (by omega);refine JM ?_;refine AWP.cond rfl (λh=>?_) (λh=>?_)
 ·have h:i<t.ks.length:=by rw[AF,hkm]at h;omega
  have hc:i<t.cs.length:=by omega
  have hat:(t.ks.map iA)[i]?=some (iA t.ks[i]):=BB _ h;have hil:i<(t.ks.map iA).length:=by omega
  have hti:i<(Aa t n).length:=by omega
  have hfa:=Oq (AH false) LE (Aa t n) hti;have hfs:=Ma (AH false) LE (Aa t n) hti;have hcat:(t.cs.map λc=>AV.ptr c.1.X 0 0)[i]?=some (.ptr t.cs[i].1.X 0 0):=BB _ hc;have hcil:i<(t.cs.map λc=>AV.ptr c.1.X 0 0).length:=by omega
  have hcm:=AK hc;obtain⟨v,hv⟩:=Ew ((ht.keys _ hcm n).2 hk)
  have hel:(Aa t n)[i]=⟨t.ks[i],v⟩:=by
   rw[D9 hti h hc,hv];rfl
  rw[hel]at hfs;have hget:=T7 t.cs[i].1 t.cs[i].2 (ht.cs _ hcm) n hn v hv;obtain⟨l1,l2,hsp,hl1⟩:=Fb hc;obtain⟨c,hce⟩:=nm (t.cs[i]);rw[hce]at hget hsp hcat;obtain⟨k,hke⟩:=nm (t.ks[i]);rw[hke]at hat hfs
  have heq:(K,AO.row 42 2 (Eb (AH false) LE (Aa t n) i))::(Ec t++Sf)=((K,AO.row 42 2 (Eb (AH false) LE (Aa t n) i))::D7 t::(stE t.ek t.es++Bg l1))++(stS c.1 c.2++(Bg l2++Sf)):=by
   have e1:Bg t.cs=Bg l1++(stS c.1 c.2++Bg l2):=by
    conv=>lhs;rw[hsp]
    rw[DM,DE]
   rw[Ec,e1];simp only[BF,AP]
  refine JC ?_;refine JB ?_;(iterate 8 refine WO ?_);refine AOps.gN ?_;refine EN _ (h:=hget) (k:=?_) (hp:=heq);refine JF ?_;rw[<-heq];refine JB ?_;(iterate 5 refine WO ?_);refine AOps.gN ?_;refine AOps.go (h:=W.idx rfl rfl (by exact At.f) rfl (by omega) (Nat.zero_add _)) (k:=?_);refine JD ?_;refine Mx K hfs ?_;refine JC ?_;exact Af (i+1) (by omega)
 ·have h:i=t.ks.length:=by rw[AQ,hkm]at h;omega
  subst h;have hfa:Eb (AH false) LE (Aa t n) t.ks.length=(Aa t n).map (AH false):=by rw[<-htl];exact Mc _ _ _
  rw[hfa];refine JI ?_;exact⟨[.sl K 0 (Aa t n).length],[.lst true 42 2 ((Aa t n).map (AH false))],_,Ec t,.cons (.tmp rfl) rfl .nil,.cons (.cell (.sl (p:=0) .here (by simp))) .nil,by exact Sub.f,rfl,rfl⟩
theorem cmpI_eqz{x y:Int}:Cp x y=0↔x=y:=by unfold Cp;split<;>(try split)<;>omega
theorem cmpI_ltz{x y:Int}:Cp x y<0↔x<y:=by unfold Cp;split<;>(try split)<;>omega
theorem cmpL_zero:∀{a b:List Int},CU a b=0↔a=b
 |[],[]=>by simp[CU]
 |[],_::_=>by simp[CU]
 |_::_,[]=>by simp[CU]
 |x::a,y::b=>by
  rw[CU,List.cons.injEq];by_cases h:Cp x y=0
  ·rw[if_neg (by simp[h]),cmpL_zero,cmpI_eqz.1 h];simp
  ·rw[if_pos h]
   exact⟨λe=>absurd e h,λe=>absurd (cmpI_eqz.2 e.1) h⟩
theorem Hh:∀{a b c:List Int},CU a b<0->CU b c<0->CU a c<0
 |[],[],_,h,_=>by simp[CU]at h
 |[],_::_,[],_,h=>by simp[CU]at h
 |[],_::_,_::_,_,_=>by simp[CU]
 |_::_,[],_,h,_=>by simp[CU]at h
 |_::_,_::_,[],_,h=>by simp[CU]at h
 |x::a,y::b,z::c,h1,h2=>by
  rw[CU]at h1 h2⊢;by_cases e1:Cp x y=0
  ·have e1':=cmpI_eqz.1 e1
   subst e1';rw[if_neg (by simp[e1])]at h1;by_cases e2:Cp x z=0
   ·rw[if_neg (by simp[e2])]at h2⊢
    exact Hh h1 h2
   ·rw[if_pos e2]at h2⊢
    exact h2
  ·rw[if_pos e1]at h1
   have l1:=cmpI_ltz.1 h1;by_cases e2:Cp y z=0
   ·have e2':=cmpI_eqz.1 e2
    subst e2';rw[if_pos e1];exact h1
   ·rw[if_pos e2]at h2
    have l2:=cmpI_ltz.1 h2;have l3:Cp x z<0:=cmpI_ltz.2 (by omega);rw[if_pos (by omega)];exact l3
theorem Mh:∀{a b:List Int},¬CU a b<0->a≠b->CU b a<0
 |[],[],_,h=>absurd rfl h
 |[],_::_,h,_=>absurd (by simp[CU]) h
 |_::_,[],_,_=>by simp[CU]
 |x::a,y::b,h,hne=>by
  rw[CU]at h⊢;by_cases e:Cp x y=0
  ·have e':=cmpI_eqz.1 e
   subst e';rw[if_neg (by simp[e])]at h⊢;exact Mh h λe2=>hne (by rw[e2])
  ·rw[if_pos e]at h
   have hxy:x≠y:=λe2=>e (cmpI_eqz.2 e2)
   have:¬x<y:=λl=>h (cmpI_ltz.2 l)
   have l:Cp y x<0:=cmpI_ltz.2 (by omega);rw[if_pos (by omega)];exact l
structure Ar where
 A:Nat
 G:Nat
 Tb:Nat
 O:Nat
 Tv:Nat
 K:AV->Value->Prop
 g:Int->Option Value
 c:Nat
 kinds:List Kind
 gens:List Int
 ts:List Tab
def BL(ts:List Tab):List AC:=ts.flatMap Ec
abbrev arH(a:Ar):List AC:=[(a.A,.row 143 4 [.agg [An false false a.kinds,.sl a.G 0 a.gens.length,.sl a.Tb 0 a.ts.length,.mp a.O]]),(a.G,.row 3 1 (a.gens.map iA)),(a.O,.ob (MapF Tryz.prog 3 145 a.g a.c)),(a.Tv,.tv a.K),(a.Tb,.row 145 1 (ptrs Tab.X a.ts))]
abbrev arS(a:Ar):List AC:=arH a++BL a.ts
theorem Gj(a b:List Tab):BL (a++b)=BL a++BL b:=List.flatMap_append
theorem PR(t:Tab)(b:List Tab):BL (t::b)=Ec t++BL b:=List.flatMap_cons
theorem DH{l1 l2:List Tab}{t:Tab}(R:List AC):(BL (l1++t::l2)++R).Perm (Ec t++(BL l1++(BL l2++R))):=by
 rw[Gj,PR,AP,AP];exact B5 _ _ _
abbrev BN(ts:List Tab):List Int:=ts.flatMap λt=>AJ t.es
def B3(t:Tab):List Item:=t.es.map λe=>⟨e.2,Aa t e.1⟩
def As(ts:List Tab):List Item:=ts.flatMap B3
structure ArOK(a:Ar):Prop where
 tab:∀t∈a.ts,TabOK t
 ord:a.ts.Pairwise λt u=>CU t.ks u.ks<0
 keys:(BN a.ts).Nodup
 ent:∀t∈a.ts,∀e∈t.es,e.1=e.2.n
 g:∀n u,a.g n=some u->∃t∈a.ts,n∈AJ t.es/\a.K (.ptr t.X 0 0) u/\∃b:Nat,u= .pointer (some ⟨b,0,none⟩)
 gn:∀n∈BN a.ts,(a.g n).isSome=true
 cnt:a.c=(BN a.ts).length
theorem ArOK.lt{a:Ar}(h:ArOK a):∀n∈BN a.ts,0<=n/\n<256:=λn hn=>by
 obtain⟨t,ht,hm⟩:=List.mem_flatMap.1 hn;exact(h.tab t ht).es.lt n hm
theorem ArOK.c_le{a:Ar}(h:ArOK a):a.c<=256:=by rw[h.cnt];exact ON h.keys h.lt
def Ej(ts:List Tab):Prop:=∀t∈ts,t.es≠[]
theorem ArOK.ts_le{a:Ar}(h:ArOK a)(hne:Ej a.ts):a.ts.length<=256:=by
 refine Nat.le_trans ?_ h.c_le;rw[h.cnt,BN,List.length_flatMap]
 have:∀ts:List Tab,(∀t∈ts,t.es≠[])->ts.length<=(ts.map λt=>(AJ t.es).length).sum:=by
  intro ts
  induction ts with
  |nil=>intro _;simp
  |cons t ts ih=>
   intro hh;have h1:=ih λt ht=>hh t (by simp[ht])
   have h2:0<(AJ t.es).length:=by rw[AB];exact List.length_pos_iff.2 (hh t (by simp))
   simp only[Bm,List.map_cons,List.sum_cons];omega
 exact this a.ts hne
theorem ArOK.mono{a:Ar}(h:ArOK a)(ks:List Int):JO (λt:Tab=>CU t.ks ks) a.ts:=by
 intro i j x y hij hx hy hg;rcases Nat.lt_or_eq_of_le hij with hlt|rfl
 ·obtain⟨hi,rfl⟩:=List.getElem?_eq_some_iff.1 hx
  obtain⟨hj,rfl⟩:=List.getElem?_eq_some_iff.1 hy;exact Hh (List.pairwise_iff_getElem.1 h.ord i j hi hj hlt) hg
 ·rw[hx]at hy
  injection hy with hy
  subst hy;exact hg
theorem VM{ts:List Tab}{t:Tab}{ks:List Int}{i:Nat}(h:ts.Pairwise λt u=>CU t.ks u.ks<0)(hm:JO (λt:Tab=>CU t.ks ks) ts)(hf:Found (λt:Tab=>CU t.ks ks) ts (i,false))(ht:t.ks=ks):(ts.take i++t::ts.drop i).Pairwise λt u=>CU t.ks u.ks<0:=by
 obtain⟨hlo,hhi⟩:=hf.mono hm;have heq:=hf.eq;dsimp only at hlo hhi heq
 have h1:∀x∈ts.take i,CU x.ks ks<0:=λx hx=>by
  obtain⟨j,hj,rfl⟩:=List.mem_take_iff_getElem.1 hx;exact hlo j _ (by omega) (AE (by omega))
 have h2:∀x∈ts.drop i,CU ks x.ks<0:=λx hx=>by
  obtain⟨j,hj,rfl⟩:=List.mem_iff_getElem.1 hx;rw[Bh]at hj;rw[List.getElem_drop];have hg:ts[i+j]?=some ts[i+j]:=AE (by omega);have hn:=hhi (i+j) _ (by omega) hg;refine Mh hn λe=>?_
  cases j with
  |zero=>
   have:(false:Bool)=true:=heq.2 ⟨ts[i],AE (by omega),cmpL_zero.2 e⟩;cases this
  |succ j=>
   have hi':ts[i]?=some ts[i]:=AE (by omega);have h3:=List.pairwise_iff_getElem.1 h i (i+(j+1)) (by omega) (by omega) (by omega);rw[e]at h3;exact hhi i _ (Nat.le_refl _) hi' h3
 rw[List.pairwise_append];refine⟨h.sublist (List.take_sublist _ _),List.pairwise_cons.2 ⟨λx hx=>by rw[ht];exact h2 x hx,h.sublist (List.drop_sublist _ _)⟩,λx hx y hy=>?_⟩;rcases List.mem_cons.1 hy with rfl|hy
 ·rw[ht];exact h1 x hx
 ·exact Hh (h1 x hx) (h2 y hy)
theorem CN(a b:List Tab):BN (a++b)=BN a++BN b:=List.flatMap_append
theorem Ce(t:Tab)(b:List Tab):BN (t::b)=AJ t.es++BN b:=List.flatMap_cons
theorem B0(a b:List Tab):As (a++b)=As a++As b:=List.flatMap_append
theorem CB(t:Tab)(b:List Tab):As (t::b)=B3 t++As b:=List.flatMap_cons
theorem ArOK.newT{a:Ar}(h:ArOK a){t:Tab}{i Y:Nat}(ht:TabOK t)(he:t.es=[])(hf:Found (λu:Tab=>CU u.ks t.ks) a.ts (i,false)):ArOK {a with Tb:=Y,ts:=a.ts.take i++t::a.ts.drop i}:=by
 have hk:BN (a.ts.take i++t::a.ts.drop i)=BN a.ts:=by
  rw[CN,Ce,he]
  conv=>rhs;rw[<-List.take_append_drop i a.ts,CN]
  rfl
 have hm:∀u,u∈a.ts.take i++t::a.ts.drop i↔u=t\/u∈a.ts:=λu=>by
  conv=>rhs;rw[<-List.take_append_drop i a.ts]
  simp only[CS,BO];constructor
  ·rintro(h|h|h)
   ·exact .inr (.inl h)
   ·exact .inl h
   ·exact .inr (.inr h)
  ·rintro(h|h|h)
   ·exact .inr (.inl h)
   ·exact .inl h
   ·exact .inr (.inr h)
 refine⟨λu hu=>?_,VM h.ord (h.mono _) hf rfl,by rw[hk];exact h.keys,λu hu=>?_,λn u hg=>?_,λn hn=>h.gn n (by rw[hk]at hn;exact hn),by rw[hk];exact h.cnt⟩
 ·rcases(hm u).1 hu with rfl|hu
  ·exact ht
  ·exact h.tab u hu
 ·rcases(hm u).1 hu with rfl|hu
  ·rw[he];intro e he;cases he
  ·exact h.ent u hu
 ·obtain⟨w,hw,h2⟩:=h.g n u hg
  exact⟨w,(hm w).2 (.inr hw),h2⟩
theorem QD{ts:List Tab}{t:Tab}{i:Nat}(he:t.es=[]):As (ts.take i++t::ts.drop i)=As ts:=by
 rw[B0,CB,B3,he]
 conv=>rhs;rw[<-List.take_append_drop i ts,B0]
 rfl
theorem SG{ts:List Tab}{t:Tab}{i:Nat}(he:t.es=[]):BN (ts.take i++t::ts.drop i)=BN ts:=by
 rw[CN,Ce,he]
 conv=>rhs;rw[<-List.take_append_drop i ts,CN]
 rfl
structure CsUp(n:Int)(l:List Comp)(i:Nat)(cs cs':List (StK×List (Int×List Int))):Prop where
 len:cs'.length=cs.length
 X:∀j (h:j<cs.length) (h':j<cs'.length),cs'[j].1.X=cs[j].1.X
 c:∀j (h:j<cs.length) (h':j<cs'.length),cs'[j].2=if j<i then Bl cs[j].2 n ((l[j]?.map (·.vals)).getD [])else cs[j].2
theorem CsUp.zero(n:Int)(l:List Comp)(cs:List (StK×List (Int×List Int))):CsUp n l 0 cs cs:=⟨rfl,λ_ _ _=>rfl,λj h h'=>by rw[if_neg (by omega)]⟩
theorem CsUp.ptrs{n:Int}{l:List Comp}{i:Nat}{cs cs':List (StK×List (Int×List Int))}(h:CsUp n l i cs cs'):cs'.map (λc=>AV.ptr c.1.X 0 0)=cs.map (λc=>AV.ptr c.1.X 0 0):=by
 refine List.ext_getElem (by simp[h.len]) λj h1 h2=>?_
 rw[List.getElem_map,List.getElem_map,h.X j (by simpa using h2) (by simpa using h1)]
theorem CsUp.next{n:Int}{l:List Comp}{i:Nat}{cs cs':List (StK×List (Int×List Int))}(h:CsUp n l i cs cs'){l1 l2:List (StK×List (Int×List Int))}{c:StK×List (Int×List Int)}{v:List Int}(e:cs'=l1++c::l2)(h1:l1.length=i)(hv:l[i]?.map (·.vals)=some v)(k:StK)(hk:k.X=c.1.X):CsUp n l (i+1) cs (l1++(k,Bl c.2 n v)::l2):=by
 have hlen:=h.len;have hl:cs'.length=l1.length+(l2.length+1):=by rw[e];simp
 have hi':i<cs'.length:=by omega
 have hc:cs'[i]=c:=by
  have:cs'[i]?=some c:=by rw[e,List.getElem?_append_right (by omega),h1,Nat.sub_self];rfl
  rw[AE hi']at this;injection this
 have hold:∀j (hj:j<cs'.length),j≠i->(l1++(k,Bl c.2 n v)::l2)[j]'(by simp;omega)=cs'[j]:=λj hj hne=>by
  have h3:(l1++(k,Bl c.2 n v)::l2)[j]?=cs'[j]?:=by
   rw[e];by_cases hji:j<i
   ·rw[List.getElem?_append_left (by omega),List.getElem?_append_left (by omega)]
   ·rw[List.getElem?_append_right (by omega),List.getElem?_append_right (by omega),show j-l1.length=(j-i-1)+1 by omega]
    rfl
  rw[AE hj,AE (by simp;omega)]at h3;injection h3
 have hnew:(l1++(k,Bl c.2 n v)::l2)[i]'(by simp;omega)=(k,Bl c.2 n v):=by
  have h3:(l1++(k,Bl c.2 n v)::l2)[i]?=some (k,Bl c.2 n v):=by rw[List.getElem?_append_right (by omega),h1,Nat.sub_self];rfl
  rw[AE (by simp;omega)]at h3;injection h3
 refine⟨by simp;omega,λj hj hj'=>?_,λj hj hj'=>?_⟩
 ·by_cases hne:j=i
  ·subst hne
   rw[hnew,hk,<-hc];exact h.X j hj hi'
  ·rw[hold j (by omega) hne]
   exact h.X j hj (by omega)
 ·by_cases hne:j=i
  ·subst hne
   have:=h.c j hj hi';rw[if_neg (by omega),hc]at this;rw[hnew,if_pos (by omega),hv,this];rfl
  ·rw[hold j (by omega) hne,h.c j hj (by omega)]
   by_cases hji:j<i
   ·rw[if_pos hji,if_pos (by omega)]
   ·rw[if_neg hji,if_neg (by omega)]
section
section
variable {t:Tab}{e:Ent}{l:List Comp}{cs:List (StK×List (Int×List Int))}{k:StK}
abbrev upT(t:Tab)(k:StK)(e:Ent)(cs:List (StK×List (Int×List Int))):Tab:=⟨t.X,t.ks,k,Bl t.es e.n e,cs⟩
theorem CsUp.at{n:Int}{l:List Comp}{i:Nat}{cs cs':List (StK×List (Int×List Int))}(h:CsUp n l i cs cs'){c:StK×List (Int×List Int)}(hc:c∈cs'):∃j,∃h1:j<cs.length,∃h2:j<cs'.length,cs'[j]=c:=by
 obtain⟨j,hj,rfl⟩:=List.getElem_of_mem hc;exact⟨j,by rw[<-h.len];exact hj,hj,rfl⟩
theorem TabOK.up(h:TabOK t)(hn:0<=e.n/\e.n<256)(hf:e.n∉AJ t.es)(hu:CsUp e.n l t.cs.length t.cs cs):TabOK (upT t k e cs):=by
 refine⟨by rw[hu.len];exact h.len,h.ks,h.es.put hn e,λc hc=>?_,λc hc n=>?_⟩
 ·obtain⟨j,h1,h2,rfl⟩:=hu.at hc
  rw[hu.c j h1 h2,if_pos h1];exact(h.cs _ (AK h1)).put hn _
 ·obtain⟨j,h1,h2,rfl⟩:=hu.at hc
  have hk:=h.keys _ (AK h1);have hfc:e.n∉AJ t.cs[j].2:=λhm=>hf ((hk _).1 hm)
  rw[hu.c j h1 h2,if_pos h1];show n∈AJ (Bl _ _ _)↔n∈AJ (Bl t.es e.n e)
  rw[C2 hfc,C2 hf,AJ,AJ,List.map_append,List.map_append,CS,CS];exact or_congr (hk n) (by simp)
theorem PV(h:TabOK t)(hn:0<=e.n/\e.n<256)(hu:CsUp e.n l t.cs.length t.cs cs){n:Int}(hne:n≠e.n):Aa (upT t k e cs) n=Aa t n:=by
 have hlen:=h.len;have hl:=hu.len;refine List.ext_getElem (by simp[Aa];omega) λi h1 h2=>?_
 have hc:i<t.cs.length:=by simp[Aa]at h2;omega
 have hk:i<t.ks.length:=by omega
 rw[D9 h2 hk hc,D9 (t:=upT t k e cs) h1 hk (by show i<cs.length;omega)];show(⟨_,(Cz (cs[i]'(by omega)).2 n).getD []⟩:Comp)=_
 rw[hu.c i hc (by omega),if_pos hc,Gn (h.cs _ (AK hc)) hn,if_neg hne]
theorem PW(h:TabOK t)(hn:0<=e.n/\e.n<256)(hks:t.ks=l.map (·.kind))(hu:CsUp e.n l t.cs.length t.cs cs):Aa (upT t k e cs) e.n=l:=by
 have hlen:=h.len;have hl:=hu.len;have hkl:t.ks.length=l.length:=by rw[hks,AB]
 refine List.ext_getElem (by simp[Aa];omega) λi h1 h2=>?_
 have hc:i<t.cs.length:=by omega
 have hk:i<t.ks.length:=by omega
 rw[D9 (t:=upT t k e cs) h1 hk (by show i<cs.length;omega)];show(⟨t.ks[i],(Cz (cs[i]'(by omega)).2 e.n).getD []⟩:Comp)=_
 rw[hu.c i hc (by omega),if_pos hc,Gn (h.cs _ (AK hc)) hn,if_pos rfl,AE h2];have:t.ks[i]=l[i].kind:=by simp[hks]
 rw[this];rfl
theorem Rl(h:TabOK t)(hn:0<=e.n/\e.n<256)(hf:e.n∉AJ t.es)(hks:t.ks=l.map (·.kind))(hu:CsUp e.n l t.cs.length t.cs cs):B3 (upT t k e cs)=B3 t++[⟨e,l⟩]:=by
 unfold B3;show(Bl t.es e.n e).map _=_
 rw[C2 hf,List.map_append,List.map_cons,List.map_nil,PW h hn hks hu]
 congr 1
 refine List.map_congr_left λp hp=>?_
 rw[PV h hn hu];intro e2;exact hf (by rw[<-e2];exact List.mem_map.2 ⟨p,hp,rfl⟩)
end
theorem ArOK.up{a:Ar}{l1 l2:List Tab}{t:Tab}{e:Ent}{l:List Comp}{cs:List (StK×List (Int×List Int))}{k:StK}{K':AV->Value->Prop}{b:Nat}(h:ArOK a)(hts:a.ts=l1++t::l2)(hn:0<=e.n/\e.n<256)(hf:e.n∉BN a.ts)(hu:CsUp e.n l t.cs.length t.cs cs)(hK:∀v u,a.K v u->K' v u)(hKt:K' (.ptr t.X 0 0) (.pointer (some ⟨b,0,none⟩))):
  ArOK {a with ts:=l1++upT t k e cs::l2,K:=K',g:=EO a.g e.n (.pointer (some ⟨b,0,none⟩)),c:=a.c+1}:=by
 have htm:t∈a.ts:=by rw[hts];simp
 have hft:e.n∉AJ t.es:=λhm=>hf (List.mem_flatMap.2 ⟨t,htm,hm⟩)
 have hmem:∀u,u∈l1++upT t k e cs::l2->u=upT t k e cs\/u∈a.ts:=λu hu=>by
  rw[hts];rcases List.mem_append.1 hu with hu|hu
  ·exact .inr (by simp[hu])
  ·rcases List.mem_cons.1 hu with hu|hu
   ·exact .inl hu
   ·exact .inr (by simp[hu])
 have hke:AJ (Bl t.es e.n e)=AJ t.es++[e.n]:=by rw[C2 hft,AJ,List.map_append];rfl
 have hkeys:(BN (l1++upT t k e cs::l2)).Perm (e.n::BN a.ts):=by
  rw[hts,CN,Ce,CN,Ce];show(BN l1++(AJ (Bl t.es e.n e)++BN l2)).Perm _
  rw[hke,AP]
  have:(BN l1++(AJ t.es++([e.n]++BN l2))).Perm ([e.n]++(BN l1++(AJ t.es++BN l2))):=by
   refine((B5 (AJ t.es) [e.n] (BN l2)).append_left (BN l1)).trans ?_;exact B5 _ _ _
  exact this
 refine⟨λu hu'=>?_,?_,hkeys.nodup_iff.2 (List.nodup_cons.2 ⟨hf,h.keys⟩),λu hu'=>?_,λn u hg=>?_,λn hn'=>?_,?_⟩
 ·rcases hmem u hu' with rfl|hu'
  ·exact(h.tab t htm).up hn hft hu
  ·exact h.tab u hu'
 ·have ho:=h.ord
  rw[hts]at ho;rw[List.pairwise_append,List.pairwise_cons]at ho⊢
  exact⟨ho.1,⟨λx hx=>ho.2.1.1 x hx,ho.2.1.2⟩,λx hx y hy=>by
   rcases List.mem_cons.1 hy with rfl|hy
   ·exact ho.2.2 x hx t (by simp)
   ·exact ho.2.2 x hx y (by simp[hy])⟩
 ·rcases hmem u hu' with rfl|hu'
  ·intro p hp
   have hp:p∈Bl t.es e.n e:=hp;rw[C2 hft]at hp;rcases List.mem_append.1 hp with hp|hp
   ·exact h.ent t htm p hp
   ·rw[BP]at hp
    subst hp;rfl
  ·exact h.ent u hu'
 ·replace hg:(if n=e.n then some (Value.pointer (some ⟨b,0,none⟩))else a.g n)=some u:=hg
  split at hg
  ·rename_i e1
   subst e1;injection hg with hg
   subst hg;refine⟨upT t k e cs,by simp,?_,hKt,b,rfl⟩;show e.n∈AJ (Bl t.es e.n e)
   rw[hke];simp
  ·obtain⟨w,hw,h2,h3,h4⟩:=h.g n u hg
   rw[hts]at hw;rcases List.mem_append.1 hw with hw|hw
   ·exact⟨w,by simp[hw],h2,hK _ _ h3,h4⟩
   ·rcases List.mem_cons.1 hw with rfl|hw
    ·refine⟨upT w k e cs,by simp,?_,hK _ _ h3,h4⟩
     show n∈AJ (Bl w.es e.n e)
     rw[hke];simp[h2]
    ·exact⟨w,by simp[hw],h2,hK _ _ h3,h4⟩
 ·have hn':=hkeys.mem_iff.1 hn'
  show(EO a.g e.n _ n).isSome=true
  unfold EO;split
  ·rfl
  ·rename_i hne
   rcases List.mem_cons.1 hn' with e2|hn'
   ·exact absurd e2 hne
   ·exact h.gn n hn'
 ·show a.c+1=_
  rw[hkeys.length_eq,Bm,h.cnt]
theorem Ty{l1 l2:List Tab}{t:Tab}{e:Ent}{l:List Comp}{cs:List (StK×List (Int×List Int))}{k:StK}(h:TabOK t)(hn:0<=e.n/\e.n<256)(hf:e.n∉AJ t.es)(hks:t.ks=l.map (·.kind))(hu:CsUp e.n l t.cs.length t.cs cs):(As (l1++upT t k e cs::l2)).Perm (⟨e,l⟩::As (l1++t::l2)):=by
 rw[B0,CB,B0,CB,Rl h hn hf hks hu,AP]
 have:(As l1++(B3 t++([(⟨e,l⟩:Item)]++As l2))).Perm ([(⟨e,l⟩:Item)]++(As l1++(B3 t++As l2))):=by
  refine((B5 (B3 t) [(⟨e,l⟩:Item)] (As l2)).append_left (As l1)).trans ?_;exact B5 _ _ _
 exact this
theorem W9{l1 l2:List Tab}{t:Tab}{e:Ent}{cs:List (StK×List (Int×List Int))}{k:StK}(h1:Ej l1)(h2:Ej l2)(hf:e.n∉AJ t.es):Ej (l1++upT t k e cs::l2):=λu hu=>by
 rcases List.mem_append.1 hu with hu|hu
 ·exact h1 u hu
 ·rcases List.mem_cons.1 hu with rfl|hu
  ·show Bl t.es e.n e≠[]
   rw[C2 hf];simp
  ·exact h2 u hu
end
section
section
variable {P:Program}{ro:Option Nat}{nt:Nat}{c:Code}{Q:Exit->St->Prop}{T:List (Nat×AV)}{S:List AC}
end
abbrev GG(n:Int)(c:StK×List (Int×List Int)):StK×List (Int×List Int):=(c.1,BV c.2 n)
abbrev Ds(t:Tab)(n:Int):Tab:=⟨t.X,t.ks,t.ek,BV t.es n,t.cs.map (GG n)⟩
theorem TabOK.down{t:Tab}(h:TabOK t)(n:Int):TabOK (Ds t n):=by
 refine⟨by rw[AB];exact h.len,h.ks,h.es.drop n,λc hc=>?_,λc hc m=>?_⟩
 ·obtain⟨d,hd,rfl⟩:=List.mem_map.1 hc
  exact(h.cs d hd).drop n
 ·obtain⟨d,hd,rfl⟩:=List.mem_map.1 hc
  show m∈AJ (BV d.2 n)↔m∈AJ (BV t.es n)
  rw[Dl (h.cs d hd),Dl h.es,h.keys d hd]
theorem Iv{t:Tab}(h:TabOK t){n m:Int}(hne:m≠n):Aa (Ds t n) m=Aa t m:=by
 have hlen:=h.len;refine List.ext_getElem (by simp[Aa]) λi h1 h2=>?_
 have hc:i<t.cs.length:=by simp[Aa]at h2;omega
 have hk:i<t.ks.length:=by omega
 rw[D9 h2 hk hc,D9 (t:=Ds t n) h1 hk (by rw[AB];exact hc)];show(⟨_,(Cz ((t.cs.map (GG n))[i]'(by rw[AB];exact hc)).2 m).getD []⟩:Comp)=_
 rw[List.getElem_map];show(⟨_,(Cz (BV t.cs[i].2 n) m).getD []⟩:Comp)=_
 rw[Pc (h.cs _ (AK hc)) hne]
theorem N2{t:Tab}(h:TabOK t){n:Int}{e:Ent}(hm:(n,e)∈t.es):(B3 t).Perm (⟨e,Aa t n⟩::B3 (Ds t n)):=by
 have hp:=C8 h.es hm;have h1:=hp.map λp:Int×Ent=>(⟨p.2,Aa t p.1⟩:Item)
 refine h1.trans ?_;rw[List.map_cons];refine List.Perm.cons _ (List.Perm.of_eq ?_);show _=(BV t.es n).map λp=>(⟨p.2,Aa (Ds t n) p.1⟩:Item)
 refine List.map_congr_left λp hp'=>?_
 have hk:p.1∈AJ (BV t.es n):=List.mem_map.2 ⟨p,hp',rfl⟩;rw[Iv h ((Dl h.es).1 hk).2]
theorem ArOK.uniq{a:Ar}(h:ArOK a){t u:Tab}(ht:t∈a.ts)(hu:u∈a.ts){n:Int}(h1:n∈AJ t.es)(h2:n∈AJ u.es):t=u:=by
 obtain⟨l1,l2,e⟩:=List.append_of_mem ht;have hk:=h.keys;rw[e,CN,Ce]at hk;rw[e]at hu;rcases List.mem_append.1 hu with hu|hu
 ·have:n∈BN l1:=List.mem_flatMap.2 ⟨u,hu,h2⟩
  exact absurd rfl ((List.nodup_append.1 hk).2.2 n this n (List.mem_append_left _ h1))
 ·rcases List.mem_cons.1 hu with rfl|hu
  ·rfl
  ·have:n∈BN l2:=List.mem_flatMap.2 ⟨u,hu,h2⟩
   exact absurd rfl ((List.nodup_append.1 (List.nodup_append.1 hk).2.1).2.2 n h1 n this)
theorem SX{a:Ar}(h:ArOK a){l1 l2:List Tab}{t:Tab}(hts:a.ts=l1++t::l2){n:Int}{e:Ent}(hm:(n,e)∈t.es):(BN a.ts).Perm (n::BN (l1++Ds t n::l2)):=by
 have hto:=h.tab t (by rw[hts];simp);have hp:=(C8 hto.es hm).map (·.1);rw[hts,CN,Ce,CN,Ce];have h1:(BN l1++(AJ t.es++BN l2)).Perm (BN l1++((n::AJ (BV t.es n))++BN l2)):=(hp.append_right _).append_left _;exact h1.trans (B5 (BN l1) [n] (AJ (BV t.es n)++BN l2))
theorem ArOK.down{a:Ar}(h:ArOK a){l1 l2:List Tab}{t:Tab}(hts:a.ts=l1++t::l2){n:Int}{e:Ent}(hm:(n,e)∈t.es):ArOK {a with ts:=l1++Ds t n::l2,g:=Fm a.g n,c:=a.c-1}:=by
 have htm:t∈a.ts:=by rw[hts];simp
 have hto:=h.tab t htm;have hkp:=SX h hts hm
 have hmem:∀u,u∈l1++Ds t n::l2->u=Ds t n\/u∈a.ts:=λu hu=>by
  rw[hts];rcases List.mem_append.1 hu with hu|hu
  ·exact .inr (by simp[hu])
  ·rcases List.mem_cons.1 hu with hu|hu
   ·exact .inl hu
   ·exact .inr (by simp[hu])
 have hnd:=hkp.nodup_iff.1 h.keys;have hnk:n∈AJ t.es:=List.mem_map.2 ⟨_,hm,rfl⟩;refine⟨λu hu=>?_,?_,(List.nodup_cons.1 hnd).2,λu hu=>?_,λm u hg=>?_,λm hm'=>?_,?_⟩
 ·rcases hmem u hu with rfl|hu
  ·exact hto.down n
  ·exact h.tab u hu
 ·have ho:=h.ord
  rw[hts]at ho;rw[List.pairwise_append,List.pairwise_cons]at ho⊢
  exact⟨ho.1,⟨λx hx=>ho.2.1.1 x hx,ho.2.1.2⟩,λx hx y hy=>by
   rcases List.mem_cons.1 hy with rfl|hy
   ·exact ho.2.2 x hx t (by simp)
   ·exact ho.2.2 x hx y (by simp[hy])⟩
 ·rcases hmem u hu with rfl|hu
  ·intro p hp
   have:p∈t.es:=(C8 hto.es hm).mem_iff.2 (List.mem_cons_of_mem _ hp);exact h.ent t htm p this
  ·exact h.ent u hu
 ·replace hg:(if m=n then none else a.g m)=some u:=hg
  split at hg
  ·cases hg
  ·rename_i hne
   obtain⟨w,hw,h2,h3,h4⟩:=h.g m u hg;rw[hts]at hw;rcases List.mem_append.1 hw with hw|hw
   ·exact⟨w,by simp[hw],h2,h3,h4⟩
   ·rcases List.mem_cons.1 hw with rfl|hw
    ·refine⟨Ds w n,by simp,?_,h3,h4⟩
     exact(Dl hto.es).2 ⟨h2,hne⟩
    ·exact⟨w,by simp[hw],h2,h3,h4⟩
 ·have hm2:m∈BN a.ts:=hkp.mem_iff.2 (List.mem_cons_of_mem _ hm')
  have hne:m≠n:=λe=>(List.nodup_cons.1 hnd).1 (by subst e;exact hm')
  show(Fm a.g n m).isSome=true
  unfold Fm;rw[if_neg hne];exact h.gn m hm2
 ·show a.c-1=(BN (l1++Ds t n::l2)).length
  have:=hkp.length_eq;rw[Bm]at this;have:=h.cnt;omega
theorem ArOK.less{a:Ar}(h:ArOK a){l1 l2:List Tab}{t:Tab}{Y:Nat}(hts:a.ts=l1++t::l2)(he:t.es=[]):ArOK {a with Tb:=Y,ts:=l1++l2}:=by
 have hk:BN a.ts=BN (l1++l2):=by rw[hts,CN,Ce,he,CN];rfl
 have hmem:∀u,u∈l1++l2->u∈a.ts:=λu hu=>by
  rw[hts];rcases List.mem_append.1 hu with hu|hu<;>simp[hu]
 refine⟨λu hu=>h.tab u (hmem u hu),?_,by rw[<-hk];exact h.keys,λu hu=>h.ent u (hmem u hu),λm u hg=>?_,λm hm=>h.gn m (by rw[hk];exact hm),by rw[<-hk];exact h.cnt⟩
 ·have ho:=h.ord
  rw[hts]at ho;exact ho.sublist ((List.Sublist.refl l1).append (List.sublist_cons_self t l2))
 ·obtain⟨w,hw,h2,h3⟩:=h.g m u hg
  rw[hts]at hw;rcases List.mem_append.1 hw with hw|hw
  ·exact⟨w,by simp[hw],h2,h3⟩
  ·rcases List.mem_cons.1 hw with rfl|hw
   ·rw[he]at h2;cases h2
   ·exact⟨w,by simp[hw],h2,h3⟩
theorem Kf{a:Ar}(h:ArOK a){l1 l2:List Tab}{t:Tab}(hts:a.ts=l1++t::l2){n:Int}{e:Ent}(hm:(n,e)∈t.es):(As a.ts).Perm (⟨e,Aa t n⟩::As (l1++Ds t n::l2)):=by
 have hto:=h.tab t (by rw[hts];simp);rw[hts,B0,CB,B0,CB];refine(((N2 hto hm).append_right _).append_left _).trans ?_;exact B5 (As l1) [(⟨e,Aa t n⟩:Item)] (B3 (Ds t n)++As l2)
theorem QE{l1 l2:List Tab}{t:Tab}(he:t.es=[]):As (l1++t::l2)=As (l1++l2):=by
 rw[B0,CB,B3,he,B0];rfl
end
theorem US(k:StK)(l:List (Int×Ent)):Spec Tryz.prog 299 [.ptr k.X 0 0] (stE k l) λr S'=>r=iA (l.length:Nat)/\S'=stE k l:=by
 refine Sp (nt:=8) (res:=[.tmp 2]) Tryz.func299 λSf=>?_
 refine R1 ?_;refine JI ?_;exact Ends.sp [iA (l.length:Nat)] (stE k l) ⟨rfl,rfl⟩
theorem T8(k:StK)(l:List (Int×Ent))(hl:ColOK l)(n:Int)(hn:I64 n)(v:Ent)(hg:Cz l n=some v):Spec Tryz.prog 294 [.ptr k.X 0 0,iA n] (stE k l) λr S'=>r= .tup [A6 v,bA true]/\S'=stE k l:=by
 have hlen:=hl.len;have hk:n∈AJ l:=Classical.byContradiction λh=>by rw[EA h]at hg;cases hg
 obtain⟨u,hv⟩:=E5 hk;have hi:=E4 hk;have hg2:Cz l n=some u:=by unfold Cz;rw[hv];rfl
 rw[hg]at hg2;injection hg2 with hg2
 subst hg2;have hat:(l.map λe=>A6 e.2)[(AJ l).idxOf n]?=some (A6 v):=by rw[AG,hv];rfl
 have hix:=C6 hk;obtain⟨i,hi2⟩:=nm ((AJ l).idxOf n);rw[hi2]at hi hat hix;have h1:(ixG (AJ l) n).getD (.int .i64 0)= .int .i64 (i:Nat):=by rw[hix];rfl
 have h2:(ixG (AJ l) n).isSome=true:=by rw[hix];rfl
 refine Sp (nt:=28) (res:=[.cell 4 32,.tmp 5]) Tryz.func294 λSf=>?_
 refine JE ?_;refine Ai λZ=>?_;refine JD ?_
 refine JB ?_;(iterate 5 refine WO ?_);refine AOps.gN ?_;refine AOps.go (h:=EL _ _ h1 h2 hn rfl rfl (by exact At.f)) (k:=?_);refine JF ?_;refine JJ ?_;refine AA rfl rfl ?_;refine JB ?_;(iterate 5 refine WO ?_);refine AOps.gN ?_;refine AOps.go (h:=W.idx rfl rfl (by exact At.f) rfl (by omega) (Nat.zero_add _)) (k:=?_);refine JF ?_;refine RT ?_;exact Ends.sp [A6 v,bA true] (stE k l) ⟨rfl,rfl⟩
theorem UM(k:StK)(l:List (Int×Ent))(hl:ColOK l)(n:Int)(hn:I64 n):Spec Tryz.prog 297 [.ptr k.X 0 0,iA n] (stE k l) λr S'=>r=iA (if n∈AJ l then 0 else 4)/\S'=stE k (BV l n):=by
 have hlen:=hl.len;by_cases hk:n∈AJ l
 ·rw[if_pos hk]
  obtain⟨u,hu⟩:=E5 hk;have hi:=E4 hk;obtain⟨⟨en,ev⟩,he⟩:=Ji (l:=l) (by omega);have hdl:=Jz hk;have hdr:BV l n=(l.set ((AJ l).idxOf n) (en,ev)).take (l.length-1):=by unfold BV;rw[if_pos hk,he]
  rw[hdr]at hdl⊢;have hix:=C6 hk;obtain⟨i,hi2⟩:=nm ((AJ l).idxOf n);rw[hi2]at hi hu hix hdl⊢;have hkl:(AJ l).length=l.length:=AB _;have hki:(AJ l)[i]?=some n:=by rw[AJ,AG,hu];rfl
  have hke:(AJ l)[(AJ l).length-1]?=some en:=by rw[hkl,AJ,AG,he];rfl
  have hgd:=Ob hl.nd hki hke;have h1:(ixG (AJ l) n).getD (.int .i64 0)= .int .i64 (i:Nat):=by rw[hix];rfl
  have h2:(ixG (AJ l) n).isSome=true:=by rw[hix];rfl
  have hem:en∈AJ l:=Ao hke;have hen:=hl.lt en hem;have h3:(ixG (AJ l) en).isSome=true:=by rw[C6 hem];rfl
  have hsz:(if(ixG (AJ l) en).isSome then l.length else l.length+1)=l.length:=by rw[h3];rfl
  have h4:(EO (ixG (AJ l)) en (.int .i64 (i:Nat)) n).isSome=true:=by
   unfold EO;split
   ·rfl
   ·exact h2
  have hsz2:(if(EO (ixG (AJ l)) en (.int .i64 (i:Nat)) n).isSome then l.length else l.length)=l.length:=by split<;>rfl
  have hsz3:(if(EO (ixG (AJ l)) en (.int .i64 (i:Nat)) n).isSome then l.length-1 else l.length)=l.length-1:=by rw[h4];rfl
  have hmx:l.length<maxLen:=by unfold maxLen;omega
  have hmi:i<maxLen:=by unfold maxLen;omega
  have hr1:(l.map λe=>iA e.1)[l.length-1]?=some (iA en):=by rw[AG,he];rfl
  have hv1:(l.map λe=>A6 e.2)[l.length-1]?=some (A6 ev):=by rw[AG,he];rfl
  have hrs:(l.map λe=>iA e.1).set i (iA en)=(l.set i (en,ev)).map λe=>iA e.1:=by rw[List.map_set]
  have hvs:(l.map λe=>A6 e.2).set i (A6 ev)=(l.set i (en,ev)).map λe=>A6 e.2:=by rw[List.map_set]
  have hri:((l.set i (en,ev)).map λe=>iA e.1)[i]?=some (iA en):=by rw[AG,List.getElem?_set_self hi];rfl
  have hrl:(l.map λe=>iA e.1).length=l.length:=AB _;have hvl:(l.map λe=>A6 e.2).length=l.length:=AB _
  have hvz:((l.map λe=>A6 e.2).set i (A6 ev))[l.length-1]?=some (A6 ev):=by
   rw[hvs];rw[AG];by_cases h:i=l.length-1
   ·rw[<-h,List.getElem?_set_self hi];rfl
   ·rw[List.getElem?_set_ne h,he];rfl
  have hvt:(((l.map λe=>A6 e.2).set i (A6 ev)).set (l.length-1) (A6 ⟨0,0⟩)).take (l.length-1)=((l.set i (en,ev)).take (l.length-1)).map λe=>A6 e.2:=by
   rw[hvs];rw[List.take_set_of_le (Nat.le_refl _),List.map_take]
  have hrt:((l.set i (en,ev)).map λe=>iA e.1).take (l.length-1)=((l.set i (en,ev)).take (l.length-1)).map λe=>iA e.1:=by rw[List.map_take]
  have hkt:ixG (((AJ l).set i en).take ((AJ l).length-1))=ixG (AJ ((l.set i (en,ev)).take (l.length-1))):=by
   rw[hkl,AJ,AJ,List.map_take,List.map_set]
  refine Sp (nt:=94) (res:=[.tmp 4]) Tryz.func297 λSf=>?_
  refine R1 ?_;refine JB ?_;(iterate 5 refine WO ?_);refine AOps.gN ?_;refine AOps.go (h:=EL _ _ h1 h2 hn rfl rfl (by exact At.f)) (k:=?_);refine JF ?_;refine JJ ?_;refine AA rfl rfl ?_;refine JB ?_;(iterate 5 refine WO ?_);refine AOps.gN ?_;refine AOps.go (h:=Ax ((l.length-1:Nat):Int) (by omega) (by omega) rfl rfl) (k:=?_);refine JD ?_;refine FL ?_;refine RU ?_;(repeat first|(refine RGo.gN ?_;first|refine RGo.go (h:=W.idx (a:=l.length-1) rfl rfl (by exact At.f) rfl (by omega) (Nat.zero_add _)) (k:=?_)|refine RGo.go (h:=W.idx (a:=i) rfl rfl (by exact At.f) rfl (by omega) (Nat.zero_add _)) (k:=?_))|(refine RGo.gQ ?_;first|refine RGo.go (h:=W.idx (a:=l.length-1) rfl rfl (by exact At.f) rfl (by omega) (Nat.zero_add _)) (k:=?_)|refine RGo.go (h:=W.idx (a:=i) rfl rfl (by exact At.f) rfl (by omega) (Nat.zero_add _)) (k:=?_))|refine RK ?_|refine RGo.nil (by kernel_rfl) ?_);rw[hrs];refine FL ?_;refine RU ?_;(iterate 9 refine RK ?_);refine RGo.gN ?_;refine RGo.go (h:=W.idx (a:=i) rfl rfl (by exact At.f) rfl (by omega) (Nat.zero_add _)) (k:=?_);refine JG ?_;refine RGo.gN ?_;refine RGo.goS (h:=W.mapUpd (PlainV.int (by kernel_rfl) (GV (by omega))) (by omega) hmx rfl rfl rfl (by exact At.f)) (k:=?_);refine RGo.nil (by kernel_rfl) ?_;rw[hsz];refine JB ?_;(iterate 5 refine WO ?_);refine AOps.gN ?_;refine AOps.goS (h:=W.mapDel hn rfl rfl (by exact At.f)) (k:=?_);refine NL ?_;rw[hsz3,hgd];refine JB ?_;refine WO ?_;refine Ai λZ=>?_;refine NL ?_
  refine FL ?_;refine RU ?_;(iterate 6 refine RK ?_);refine RGo.gN ?_;refine RGo.go (h:=W.idx (a:=l.length-1) rfl rfl (by exact At.f) rfl (by omega) (Nat.zero_add _)) (k:=?_);refine RK ?_;refine RGo.nil (by kernel_rfl) ?_;refine FL ?_;refine RU ?_;(repeat first|(refine RGo.gN ?_;first|refine RGo.go (h:=W.hi (a:=l.length-1) rfl rfl (by exact At.f) rfl (by omega)) (k:=?_))|(refine RGo.gQ ?_;first|refine RGo.go (h:=W.hi (a:=l.length-1) rfl rfl (by exact At.f) rfl (by omega)) (k:=?_))|refine RK ?_|refine RGo.nil (by kernel_rfl) ?_);refine JC ?_;refine AWP.shrink (X:=k.V) (l.length-1) ?_;refine AWP.shrink (X:=k.R) (l.length-1) ?_;refine AWP.front k.M ?_;refine AWP.front k.R ?_;refine AWP.front k.V ?_;refine AWP.front k.X ?_;refine RT ?_;exact Ends.sp [iA 0] _ ⟨rfl,Pb (n:=l.length-1) (m:=l.length-1) (c:=l.length-1) hdl.symm hdl.symm hvt hrt hkt hdl.symm⟩
 ·rw[if_neg hk,Fa hk]
  have hix:=Fv hk;have h1:(ixG (AJ l) n).getD (.int .i64 0)= .int .i64 0:=by rw[hix];rfl
  have h2:(ixG (AJ l) n).isSome=false:=by rw[hix];rfl
  refine Sp (nt:=94) (res:=[.tmp 4]) Tryz.func297 λSf=>?_
  refine R1 ?_;refine JB ?_;(iterate 5 refine WO ?_);refine AOps.gN ?_;refine AOps.go (h:=EL _ _ h1 h2 hn rfl rfl (by exact At.f)) (k:=?_);refine JF ?_;refine JJ ?_;refine AM rfl rfl ?_;refine JA ?_;exact Ends.sp [iA 4] (stE k l) ⟨rfl,rfl⟩
theorem UK(k:StK)(l:List (Int×List Int))(hl:ColOK l)(n:Int)(hn:I64 n):Spec Tryz.prog 298 [.ptr k.X 0 0,iA n] (stS k l) λr S'=>r=iA (if n∈AJ l then 0 else 4)/\S'=stS k (BV l n):=by
 have hlen:=hl.len;by_cases hk:n∈AJ l
 ·rw[if_pos hk]
  obtain⟨u,hu⟩:=E5 hk;have hi:=E4 hk;obtain⟨⟨en,ev⟩,he⟩:=Ji (l:=l) (by omega);have hdl:=Jz hk;have hdr:BV l n=(l.set ((AJ l).idxOf n) (en,ev)).take (l.length-1):=by unfold BV;rw[if_pos hk,he]
  rw[hdr]at hdl⊢;have hix:=C6 hk;obtain⟨i,hi2⟩:=nm ((AJ l).idxOf n);rw[hi2]at hi hu hix hdl⊢;have hkl:(AJ l).length=l.length:=AB _;have hki:(AJ l)[i]?=some n:=by rw[AJ,AG,hu];rfl
  have hke:(AJ l)[(AJ l).length-1]?=some en:=by rw[hkl,AJ,AG,he];rfl
  have hgd:=Ob hl.nd hki hke;have h1:(ixG (AJ l) n).getD (.int .i64 0)= .int .i64 (i:Nat):=by rw[hix];rfl
  have h2:(ixG (AJ l) n).isSome=true:=by rw[hix];rfl
  have hem:en∈AJ l:=Ao hke;have hen:=hl.lt en hem;have h3:(ixG (AJ l) en).isSome=true:=by rw[C6 hem];rfl
  have hsz:(if(ixG (AJ l) en).isSome then l.length else l.length+1)=l.length:=by rw[h3];rfl
  have h4:(EO (ixG (AJ l)) en (.int .i64 (i:Nat)) n).isSome=true:=by
   unfold EO;split
   ·rfl
   ·exact h2
  have hsz2:(if(EO (ixG (AJ l)) en (.int .i64 (i:Nat)) n).isSome then l.length else l.length)=l.length:=by split<;>rfl
  have hsz3:(if(EO (ixG (AJ l)) en (.int .i64 (i:Nat)) n).isSome then l.length-1 else l.length)=l.length-1:=by rw[h4];rfl
  have hmx:l.length<maxLen:=by unfold maxLen;omega
  have hmi:i<maxLen:=by unfold maxLen;omega
  have hr1:(l.map λe=>iA e.1)[l.length-1]?=some (iA en):=by rw[AG,he];rfl
  have hv1:(l.map λe=>AN false e.2)[l.length-1]?=some (AN false ev):=by rw[AG,he];rfl
  have hrs:(l.map λe=>iA e.1).set i (iA en)=(l.set i (en,ev)).map λe=>iA e.1:=by rw[List.map_set]
  have hvs:(l.map λe=>AN false e.2).set i (AN false ev)=(l.set i (en,ev)).map λe=>AN false e.2:=by rw[List.map_set]
  have hri:((l.set i (en,ev)).map λe=>iA e.1)[i]?=some (iA en):=by rw[AG,List.getElem?_set_self hi];rfl
  have hrl:(l.map λe=>iA e.1).length=l.length:=AB _;have hvl:(l.map λe=>AN false e.2).length=l.length:=AB _
  have hvz:((l.set i (en,ev)).map λe=>AN false e.2)[l.length-1]?=some (AN false ev):=by
   rw[AG];by_cases h:i=l.length-1
   ·rw[<-h,List.getElem?_set_self hi];rfl
   ·rw[List.getElem?_set_ne h,he];rfl
  have hvt:(((l.set i (en,ev)).map λe=>AN false e.2).set (l.length-1) (.prim (.slice none 0 0))).take (l.length-1)=((l.set i (en,ev)).take (l.length-1)).map λe=>AN false e.2:=by
   rw[List.take_set_of_le (Nat.le_refl _),List.map_take]
  have hrt:((l.set i (en,ev)).map λe=>iA e.1).take (l.length-1)=((l.set i (en,ev)).take (l.length-1)).map λe=>iA e.1:=by rw[List.map_take]
  have hkt:ixG (((AJ l).set i en).take ((AJ l).length-1))=ixG (AJ ((l.set i (en,ev)).take (l.length-1))):=by
   rw[hkl,AJ,AJ,List.map_take,List.map_set]
  refine Sp (nt:=94) (res:=[.tmp 4]) Tryz.func298 λSf=>?_
  refine R1 ?_;refine JB ?_;(iterate 5 refine WO ?_);refine AOps.gN ?_;refine AOps.go (h:=EL _ _ h1 h2 hn rfl rfl (by exact At.f)) (k:=?_);refine JF ?_;refine JJ ?_;refine AA rfl rfl ?_;refine JB ?_;(iterate 5 refine WO ?_);refine AOps.gN ?_;refine AOps.go (h:=Ax ((l.length-1:Nat):Int) (by omega) (by omega) rfl rfl) (k:=?_);refine JD ?_;refine FL ?_;refine RU ?_;(repeat first|(refine RGo.gN ?_;first|refine RGo.go (h:=W.idx (a:=l.length-1) rfl rfl (by exact At.f) rfl (by omega) (Nat.zero_add _)) (k:=?_)|refine RGo.go (h:=W.idx (a:=i) rfl rfl (by exact At.f) rfl (by omega) (Nat.zero_add _)) (k:=?_))|(refine RGo.gQ ?_;first|refine RGo.go (h:=W.idx (a:=l.length-1) rfl rfl (by exact At.f) rfl (by omega) (Nat.zero_add _)) (k:=?_)|refine RGo.go (h:=W.idx (a:=i) rfl rfl (by exact At.f) rfl (by omega) (Nat.zero_add _)) (k:=?_))|refine RK ?_|refine RGo.nil (by kernel_rfl) ?_);rw[hrs,hvs];refine FL ?_;refine RU ?_;(iterate 9 refine RK ?_);refine RGo.gN ?_;refine RGo.go (h:=W.idx (a:=i) rfl rfl (by exact At.f) rfl (by omega) (Nat.zero_add _)) (k:=?_);refine JG ?_;refine RGo.gN ?_;refine RGo.goS (h:=W.mapUpd (PlainV.int (by kernel_rfl) (GV (by omega))) (by omega) hmx rfl rfl rfl (by exact At.f)) (k:=?_);refine RGo.nil (by kernel_rfl) ?_;rw[hsz];refine JB ?_;(iterate 5 refine WO ?_);refine AOps.gN ?_;refine AOps.goS (h:=W.mapDel hn rfl rfl (by exact At.f)) (k:=?_);refine NL ?_;rw[hsz3,hgd];refine JC ?_;refine JB ?_;(iterate 6 refine WO ?_);refine AOps.gN ?_;refine AOps.go (h:=W.idx (a:=l.length-1) rfl rfl (by exact At.f) rfl (by omega) (Nat.zero_add _)) (k:=?_);refine JD ?_;refine FL ?_;refine RU ?_;(repeat first|(refine RGo.gN ?_;first|refine RGo.go (h:=W.hi (a:=l.length-1) rfl rfl (by exact At.f) rfl (by omega)) (k:=?_))|(refine RGo.gQ ?_;first|refine RGo.go (h:=W.hi (a:=l.length-1) rfl rfl (by exact At.f) rfl (by omega)) (k:=?_))|refine RK ?_|refine RGo.nil (by kernel_rfl) ?_);refine JC ?_;refine AWP.shrink (X:=k.V) (l.length-1) ?_;refine AWP.shrink (X:=k.R) (l.length-1) ?_;refine AWP.front k.M ?_;refine AWP.front k.R ?_;refine AWP.front k.V ?_;refine AWP.front k.X ?_;refine RT ?_;exact Ends.sp [iA 0] _ ⟨rfl,Pa (n:=l.length-1) (m:=l.length-1) (c:=l.length-1) hdl.symm hdl.symm hvt hrt hkt hdl.symm⟩
 ·rw[if_neg hk,Fa hk]
  have hix:=Fv hk;have h1:(ixG (AJ l) n).getD (.int .i64 0)= .int .i64 0:=by rw[hix];rfl
  have h2:(ixG (AJ l) n).isSome=false:=by rw[hix];rfl
  refine Sp (nt:=94) (res:=[.tmp 4]) Tryz.func298 λSf=>?_
  refine R1 ?_;refine JB ?_;(iterate 5 refine WO ?_);refine AOps.gN ?_;refine AOps.go (h:=EL _ _ h1 h2 hn rfl rfl (by exact At.f)) (k:=?_);refine JF ?_;refine JJ ?_;refine AM rfl rfl ?_;refine JA ?_;exact Ends.sp [iA 4] (stS k l) ⟨rfl,rfl⟩
theorem QG(X V n i:Nat)(l:List AV)(e:AV)(hn:n=l.length)(hi:i<=n)(hb:(n+1)*8<=140737488355328)(hfr:FreeL l)(hfe:FreeE e)(hw:∀x∈l,x.width=1)(hwe:e.width=1)(hze:AV.frzs [e]=[e]):
  Spec Tryz.prog 151 [.sl X 0 n,iA i,.sl V 0 1] [(X,.row 145 1 l),(V,.row 145 1 [e])] λr S'=>r= .lst true 145 1 (l.take i++e::l.drop i)/\S'=[]:=by
 refine Sp (nt:=95) (res:=[.tmp 6]) Tryz.func151 λSf=>?_
 have hfV:FreeL [e]:=λx hx=>by rw[List.mem_singleton.1 hx];exact hfe
 have hwV:∀x∈[e],x.width=1:=λx hx=>by rw[List.mem_singleton.1 hx];exact hwe
 refine R1 ?_;refine JE ?_;refine WO ?_;refine AOps.gN ?_;refine AOps.p (W.slice_lo rfl rfl (by exact At.f) rfl (by omega)) rfl ?_;refine NL ?_;refine R1 ?_;refine R1 ?_;refine AA rfl rfl ?_;refine R1 ?_;refine R1 ?_;by_cases hin:i=n
 ·refine AM rfl (Ae (by omega)) ?_
  refine IJ 2 [e] hze ?_;have hbb:(n+[e].length)*8<=140737488355328:=hb;refine KK ?_;refine Ay λY=>?_;refine KK ?_
  refine RT ?_;have hm:n+[e].length=(l++[e]).length:=by rw[AL,hn]
  have hr:l++[e]=l.take i++e::l.drop i:=by rw[hin,hn,List.take_length,List.drop_length]
  rw[<-hr];exact⟨[.sl Y 0 (n+[e].length)],[.lst true 145 1 (l++[e])],_,[],.cons (.tmp rfl) rfl .nil,.cons (.cell (.sl (p:=0) .here hm)) .nil,by exact Sub.f,rfl,rfl⟩
 ·refine AA rfl (AY (by omega)) ?_
  refine AWP.cap X λZ c u0 hc hnc=>?_
  refine RG ?_;(iterate 4 refine WO ?_);refine AOps.gN ?_;refine AOps.p (W.cap hc rfl (by exact At.f) (by exact At.f)) rfl ?_;refine JD ?_;refine AWP.cond rfl (λhg=>?_) (λhg=>?_)
  ·have hcn:c<n+1:=by rw[AF]at hg;omega
   refine AWP.rs λY=>?_
   refine RG ?_;(repeat first|(refine AOps.gN ?_;first|refine AOps.p (W.hi (a:=i) rfl rfl (by exact At.f) rfl hi) rfl ?_|refine AOps.p (Ax ((n+1-i:Nat):Int) (by omega) (by omega) rfl rfl) rfl ?_|refine AOps.s (V0 (n+1-i) hc rfl rfl (by exact At.f) (by exact At.f) (by exact At.f) rfl (by exact .inr rfl) (by rfl) (by kernel_rfl) (by omega) (by omega) (by decide) (by omega) (by omega) hfr) rfl ?_)|refine WO ?_|refine Ai λX=>?_|refine Ay λY=>?_);have hsum:i+(n+1-i)=n+1:=by omega
   obtain⟨l1,hl1⟩:=nm (l.take i++List.replicate (n+1-i) (zAV [.pointer none] false));have hti:(l.take i).length=i:=by rw[Ah];omega
   have hl1n:l1.length=n+1:=by rw[<-hl1,AL,hti,List.length_replicate,hsum]
   have hfr1:FreeL l1:=λx hx=>by
    rw[<-hl1]at hx;rcases List.mem_append.1 hx with hx|hx
    ·exact hfr x (List.mem_of_mem_take hx)
    ·rw[List.eq_of_mem_replicate hx]
     exact FreeE.prim _
   have htk:l1.take i=l.take i:=by rw[<-hl1,List.take_left' hti]
   rw[hl1,hsum];refine JH ?_;refine AOps.gN ?_;refine AOps.p (W.slice_lo rfl rfl (by exact At.f) rfl (by omega)) rfl ?_;refine WO ?_;refine AOps.gN ?_;refine AOps.s (W.copyO 1 rfl rfl (by exact At.f) (by exact At.f) (by rfl) (by omega) (by omega) (by omega) (by omega) (by exact Nat.le_refl _) hfr1 hfV hwV) rfl ?_;obtain⟨l2,hl2⟩:=nm (l1.take (0+i)++([e].drop 0).take 1++l1.drop (0+i+1));rw[hl2];have hl2n:l2.length=n+1:=by rw[<-hl2];simp only[AL,Ah,Bh,List.length_singleton];omega
   have hfr2:FreeL l2:=λx hx=>by
    rw[<-hl2]at hx;rcases List.mem_append.1 hx with hx|hx
    ·rcases List.mem_append.1 hx with hx|hx
     ·exact hfr1 x (List.mem_of_mem_take hx)
     ·exact hfV x (List.mem_of_mem_drop (List.mem_of_mem_take hx))
    ·exact hfr1 x (List.mem_of_mem_drop hx)
   have htk2:l2.take (0+(i+1))=l.take i++[e]:=by
    rw[<-hl2,Nat.zero_add,Nat.zero_add,htk];exact List.take_left' (by simp[hti])
   refine FL ?_;refine RU ?_;(iterate 3 refine RK ?_);refine RGo.gN ?_;refine RGo.go (h:=Bc ((i+1:Nat):Int) (by omega) (by omega) rfl rfl) (k:=?_);refine RGo.gN ?_;refine RGo.go (h:=W.slice_lo rfl rfl (by exact At.f) rfl (by omega)) (k:=?_);refine JG ?_;refine RGo.gN ?_;refine RGo.go (h:=W.slice_lo rfl rfl (by exact At.f) rfl (by omega)) (k:=?_);refine RGo.gN ?_;refine RGo.goS (h:=W.copyO (n-i) rfl rfl (by exact At.f) (by exact At.f) (by rfl) (by omega) (by omega) (by omega) (by omega) (by omega) hfr2 hfr hw) (k:=?_);refine RGo.nil (by kernel_rfl) ?_;obtain⟨l3,hl3⟩:=nm (l2.take (0+(i+1))++(l.drop (0+i)).take (n-i)++l2.drop (0+(i+1)+(n-i)));rw[hl3]
   have hr:l3=l.take i++e::l.drop i:=by
    have e1:l2.drop (0+(i+1)+(n-i))=[]:=List.drop_of_length_le (by omega);have e2:(l.drop (0+i)).take (n-i)=l.drop i:=by rw[Nat.zero_add];exact List.take_of_length_le (by rw[Bh];omega)
    rw[<-hl3,htk2,e1,e2,List.append_nil,AP];rfl
   have hm:n+1=l3.length:=by
    rw[hr];simp only[AL,Bm,Bh,hti];omega
   refine JA ?_;rw[<-hr];exact⟨[.sl Y 0 (n+1)],[.lst true 145 1 l3],_,[],.cons (.tmp rfl) rfl .nil,.cons (.cell (.sl (p:=0) .here hm)) .nil,by exact Sub.f,rfl,rfl⟩
  ·have hcn:n+1<=c:=by rw[AQ]at hg;omega
   refine RG ?_;(iterate 4 refine WO ?_);refine AOps.gN ?_;refine AOps.p (Uj (n+1) hc rfl rfl (by exact At.f) (by exact At.f) (by omega) hcn) rfl ?_;refine JD ?_;refine RG ?_;(iterate 4 refine WO ?_);refine AOps.gN ?_;refine AOps.p (Bc ((i+1:Nat):Int) (by omega) (by omega) rfl rfl) rfl ?_;refine AOps.gN ?_;refine AOps.p (W.slice_lo rfl rfl (by exact At.f) rfl (by omega)) rfl ?_;refine AOps.p (W.over (t:=141) (tR:=4) Tryz.func210 (by kernel_rfl) (by kernel_rfl) (by kernel_rfl) (by kernel_rfl) rfl rfl (by exact At.f) (by exact At.f) (by rfl) (by decide) (by omega) (by omega)) rfl ?_;refine WO ?_;refine FL ?_;refine AM rfl rfl ?_;refine RU ?_;(iterate 3 refine RK ?_);refine RGo.gN ?_;refine RGo.go (h:=Bc ((i+1:Nat):Int) (by omega) (by omega) rfl rfl) (k:=?_);refine RGo.gN ?_;refine RGo.go (h:=W.slice_lo rfl rfl (by exact At.f) rfl (by omega)) (k:=?_);refine JG ?_;refine RGo.gN ?_;refine RGo.go (h:=W.slice_lo rfl rfl (by exact At.f) rfl (by omega)) (k:=?_);refine RGo.gN ?_;refine RGo.goS (h:=W.copyS (n-i) rfl rfl (by exact At.f) (by omega) (by omega) (by omega) (by omega) (by omega) hfr hw) (k:=?_);refine RGo.nil (by kernel_rfl) ?_;have hti:(l.take i).length=i:=by rw[Ah];omega
   obtain⟨l1,hl1⟩:=nm (l.take (0+(i+1))++(l.drop (0+i)).take (n-i)++l.drop (0+(i+1)+(n-i)));rw[hl1];have hti1:(l.take (i+1)).length=i+1:=by rw[Ah];omega
   have hl1e:l1=l.take (i+1)++l.drop i:=by
    have e1:l.drop (0+(i+1)+(n-i))=[]:=List.drop_of_length_le (by omega);have e2:(l.drop (0+i)).take (n-i)=l.drop i:=by rw[Nat.zero_add];exact List.take_of_length_le (by rw[Bh];omega)
    rw[<-hl1,e1,e2,List.append_nil,Nat.zero_add]
   have hfr1:FreeL l1:=λx hx=>by
    rw[hl1e]at hx;rcases List.mem_append.1 hx with hx|hx
    ·exact hfr x (List.mem_of_mem_take hx)
    ·exact hfr x (List.mem_of_mem_drop hx)
   have hl1n:l1.length=n+1:=by rw[hl1e,AL,hti1,Bh];omega
   have htk:l1.take i=l.take i:=by rw[hl1e,List.take_append_of_le_length (by omega),List.take_take,Nat.min_eq_left (by omega)]
   have hdr:l1.drop (i+1)=l.drop i:=by rw[hl1e,List.drop_left' hti1]
   refine JE ?_;refine WO ?_;refine AOps.gN ?_;refine AOps.p (W.slice_lo rfl rfl (by exact At.f) rfl (by omega)) rfl ?_;refine WO ?_;refine AOps.gN ?_;refine AOps.s (W.copyO 1 rfl rfl (by exact At.f) (by exact At.f) (by rfl) (by omega) (by omega) (by omega) (by omega) (by exact Nat.le_refl _) hfr1 hfV hwV) rfl ?_;obtain⟨l2,hl2⟩:=nm (l1.take (0+i)++([e].drop 0).take 1++l1.drop (0+i+1));rw[hl2]
   have hr:l2=l.take i++e::l.drop i:=by
    rw[<-hl2,Nat.zero_add,htk,hdr,AP];rfl
   have hm:n+1=l2.length:=by
    rw[hr];simp only[AL,Bm,Bh,hti];omega
   refine FL ?_;refine JA ?_;rw[<-hr];exact⟨[.sl X 0 (n+1)],[.lst true 145 1 l2],_,[],.cons (.tmp rfl) rfl .nil,.cons (.cell (.sl (p:=1) (.next .here) hm)) .nil,by exact Sub.f,rfl,rfl⟩
end Go.Proofs.YtiidbamlcgbpnaaGreat
