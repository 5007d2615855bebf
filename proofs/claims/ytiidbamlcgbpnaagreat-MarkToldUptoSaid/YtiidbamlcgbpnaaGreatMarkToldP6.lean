/-
  Part 6 of the texts under the law MarkTold: the layer of abstract values, walks and plain laws. Conditions: those that each theorem names.
-/
import Derived.Test.YtiidbamlcgbpnaaGreatMarkToldP5
namespace Go.Proofs.YtiidbamlcgbpnaaGreat
set_option linter.unusedVariables false
set_option linter.unusedSimpArgs false
set_option linter.defProp false
set_option maxRecDepth 10000
set_option maxHeartbeats 4000000
abbrev stE(k:StK)(l:List (Int×Ent)):List AB:=[(k.X,.row 259 3 [.agg [.sl k.V 0 l.length,.sl k.R 0 l.length,.mp k.M]]),(k.V,.row 32 2 (l.map λe=>AX e.2)),(k.R,.row 3 1 (l.map λe=>iA e.1)),(k.M,.ob (MapF Tryz.prog 3 3 (ixG (AC l)) l.length))]
theorem MX{X V R M n m c:Nat}{l:List (Int×Ent)}{vs rs:List AV}{g:Int->Option Value}(h1:n=l.length)(h2:m=l.length)(h3:vs=l.map λe=>AX e.2)(h4:rs=l.map λe=>iA e.1)(h5:g=ixG (AC l))(h6:c=l.length):
  [(X,AO.row 259 3 [.agg [.sl V 0 n,.sl R 0 m,.mp M]]),(V,.row 32 2 vs),(R,.row 3 1 rs),(M,.ob (MapF Tryz.prog 3 3 g c))]=stE ⟨X,V,R,M⟩ l:=by
 subst h1 h2 h3 h4 h5 h6;rfl
theorem newE_sp:Spec Tryz.prog 149 [] [] λr S'=>∃k:StK,r= .ptr k.X 0 0/\S'=stE k []:=by
 refine Spec.of (nt:=4) (res:=[.tmp 0]) Tryz.func149 rfl (by kernel_rfl) rfl rfl rfl λSf=>?_
 refine RG ?_;(repeat first|refine WO ?_|refine Ai λX=>?_|refine Ay λY=>?_);refine NL ?_;refine FL ?_;refine RG ?_;(repeat first|(refine AOps.gN ?_;first|(refine D1 ?_;refine JC λM=>?_))|refine WO ?_|refine Ai λX=>?_|refine Ay λY=>?_);refine NL ?_;refine AWP.adoptIn (Y:=X) 32 2 .here (λV=>.cons (.agg (.cons (.base .nil) (.cons .same (.cons .same .nil)))) .nil) λV=>?_
 refine AWP.adoptIn (Y:=X) 3 1 (.next .here) (λV=>.cons (.agg (.cons .same (.cons (.base .nil) (.cons .same .nil)))) .nil) λR=>?_
 refine AWP.front M ?_;refine AWP.front R ?_;refine AWP.front V ?_;refine AWP.front X ?_;refine RT ?_;exact AS [.ptr X 0 0] (stE ⟨X,V,R,M⟩ []) ⟨⟨X,V,R,M⟩,rfl,rfl⟩
theorem QH(k:StK)(l:List (Int×Ent))(hl:ColOK l)(n:Int)(v:Ent)(hn:0<=n/\n<256):Spec Tryz.prog 152 [.ptr k.X 0 0,iA n,AX v] (stE k l) λr S'=>∃q:Nat×Nat,r=iA 0/\S'=stE ⟨k.X,q.1,q.2,k.M⟩ (BH l n v):=by
 have hlen:=hl.len;have hn1:decide (n<0)=false:=decide_eq_false (by omega);have hn2:decide (n>=256)=false:=decide_eq_false (by omega);have hI: -9223372036854775808<=n/\n<=9223372036854775807:=by omega
 by_cases hk:n∈AC l
 ·obtain⟨u,hu⟩:=Dw hk
  have hi:=Dv hk;rw[Dh hk];have hix:=CW hk;have hke:=Dp (v:=v) hk;rw[Dh hk]at hke;obtain⟨i,hi2⟩:∃i,(AC l).idxOf n=i:=⟨_,rfl⟩;rw[hi2]at hi hu hix hke⊢;have h1:(ixG (AC l) n).getD (.int .i64 0)= .int .i64 (i:Nat):=by rw[hix];rfl
  have h2:(ixG (AC l) n).isSome=true:=by rw[hix];rfl
  have hat:(l.map λe=>AX e.2)[i]?=some (AX u):=by rw[List.getElem?_map,hu];rfl
  have hset:(l.map λe=>AX e.2).set i (AX v)=(l.set i (n,v)).map λe=>AX e.2:=by rw[List.map_set]
  have hrow:(l.map λe=>iA e.1)=(l.set i (n,v)).map λe=>iA e.1:=by
   have:=congrArg (List.map iA) hke;rw[AC,AC,List.map_map,List.map_map]at this;exact this.symm
  refine Spec.of (nt:=62) (res:=[.tmp 6]) Tryz.func152 rfl (by kernel_rfl) rfl rfl rfl λSf=>?_
  refine RG ?_;(repeat first|refine WO ?_|refine Ai λB0=>?_|refine Ay λY=>?_);refine NL ?_;refine FL ?_;refine RG ?_;(repeat first|refine WO ?_|refine Ai λX=>?_|refine Ay λY=>?_);refine NL ?_;refine FL ?_;refine AE rfl hn2 ?_;refine FL ?_;refine RG ?_;(repeat first|(refine AOps.gN ?_;first|refine AOps.go (h:=DP _ _ h1 h2 hI rfl rfl (by exact At.f)) (k:=?_))|refine WO ?_|refine Ai λX=>?_|refine Ay λY=>?_);refine NL ?_;refine FL ?_;refine RG ?_;(repeat first|refine WO ?_|refine Ai λX=>?_|refine Ay λY=>?_);refine NL ?_;refine FL ?_;refine AR rfl rfl ?_;refine FL ?_;refine RU ?_;(repeat first|(refine RGo.gN ?_;first|refine RGo.go (h:=W.idx rfl rfl (by exact At.f) rfl (by omega) (Nat.zero_add _)) (k:=?_))|(refine RGo.gQ ?_;first|refine RGo.go (h:=W.idx rfl rfl (by exact At.f) rfl (by omega) (Nat.zero_add _)) (k:=?_))|refine RK ?_|refine RGo.nil (by kernel_rfl) ?_);refine FL ?_;refine RG ?_;(repeat first|refine WO ?_|refine Ai λX=>?_|refine Ay λY=>?_);refine NL ?_;refine RT ?_;exact AS [iA 0] _ ⟨(k.V,k.R),rfl,MX (n:=l.length) (m:=l.length) (c:=l.length) (by simp) (by simp) hset hrow (by rw[hke]) (by simp)⟩
 ·rw[CM hk]
  have hix:=EZ hk;have h1:(ixG (AC l) n).getD (.int .i64 0)= .int .i64 0:=by rw[hix];rfl
  have h2:(ixG (AC l) n).isSome=false:=by rw[hix];rfl
  have hkl:(AC l).length=l.length:=List.length_map _
  have hkf:DT (ixG (AC l)) n (.int .i64 (l.length:Nat))=ixG (AC (l++[(n,v)])):=by
   rw[<-hkl,Nq hk,AC,AC,List.map_append];rfl
  have hsz:(if(ixG (AC l) n).isSome then l.length else l.length+1)=l.length+1:=by rw[h2];rfl
  have hmx:l.length<maxLen:=by unfold maxLen;omega
  refine Spec.of (nt:=62) (res:=[.tmp 6]) Tryz.func152 rfl (by kernel_rfl) rfl rfl rfl λSf=>?_
  refine RG ?_;(repeat first|refine WO ?_|refine Ai λB0=>?_|refine Ay λY=>?_);refine NL ?_;refine FL ?_;refine RG ?_;(repeat first|refine WO ?_|refine Ai λX=>?_|refine Ay λY=>?_);refine NL ?_;refine FL ?_;refine AE rfl hn2 ?_;refine FL ?_;refine RG ?_;(repeat first|(refine AOps.gN ?_;first|refine AOps.go (h:=DP _ _ h1 h2 hI rfl rfl (by exact At.f)) (k:=?_))|refine WO ?_|refine Ai λX=>?_|refine Ay λY=>?_);refine NL ?_;refine FL ?_;refine RG ?_;(repeat first|refine WO ?_|refine Ai λX=>?_|refine Ay λY=>?_);refine NL ?_;refine FL ?_;refine AE rfl rfl ?_;refine FL ?_;refine RU ?_;(repeat first|(refine RGo.gN ?_;first|refine RGo.goS (h:=W.mapUpd (PlainV.int (by kernel_rfl) (CQ (by omega))) hI hmx rfl rfl rfl (by exact At.f)) (k:=?_))|(refine RGo.gQ ?_;first|refine RGo.goS (h:=W.mapUpd (PlainV.int (by kernel_rfl) (CQ (by omega))) hI hmx rfl rfl rfl (by exact At.f)) (k:=?_))|refine RK ?_|refine RGo.nil (by kernel_rfl) ?_);rw[hkf,hsz];refine FL ?_;refine AWP.rs λA=>AWP.rs λB=>?_
  refine RU ?_;(repeat first|(refine RGo.gN ?_;first|(refine RGo.g_lit ?_;refine RGo.goL (iA n) ?_)|(refine RGo.g_lit ?_;refine RGo.goL (AX v) ?_))|(refine RGo.gQ ?_;first|(refine RGo.g_lit ?_;refine RGo.goL (iA n) ?_)|(refine RGo.g_lit ?_;refine RGo.goL (AX v) ?_))|refine RK ?_|refine RGo.nil (by kernel_rfl) ?_);refine FL ?_;refine RG ?_;(repeat first|refine WO ?_|refine Ai λX=>?_|refine Ay λY=>?_);refine NL ?_;refine AWP.front k.M ?_;refine AWP.front B ?_;refine AWP.front A ?_;refine AWP.front k.X ?_;refine RT ?_;exact AS [iA 0] _ ⟨(A,B),rfl,MX (n:=l.length+1) (m:=l.length+1) (c:=l.length+1) (by simp) (by simp) (by rw[List.map_append]) (by rw[List.map_append]) rfl (by simp)⟩
theorem O1(l:List Ent)(hl:l.length*16<=140737488355328):PS Tryz.prog 154 [.lst false 32 2 (l.map AX)] (.lst true 32 2 (l.map AX)):=by
 refine Spec.of (nt:=8) (res:=[.tmp 2]) Tryz.func154 rfl (by kernel_rfl) rfl rfl rfl λSf=>?_
 (repeat first|(refine AOps.gN ?_;first|refine AOps.isNil λb hb=>?_)|refine WK ?_|refine Ai λX=>?_|refine Ay λY=>?_);refine AWP.cond rfl (λhc=>?_) (λhc=>?_)
 ·rw[hb hc]
  (repeat first|refine WK ?_|refine Ai λX=>?_|refine Ay λY=>?_);refine RT ?_;exact⟨[.prim (.slice none 0 0)],[.lst true 32 2 []],_,[],.cons (.tmp rfl) rfl .nil,.cons (.cell .nil) .nil,by exact Sub.f,rfl,rfl⟩
 ·have hl':(0+(l.map AX).length)*16<=140737488355328:=by simpa using hl
  clear hl;(repeat first|(refine AOps.gN ?_;first|(refine AOps.g_lit ?_;refine KG λK=>?_))|refine WK ?_|refine Ai λX=>?_|refine Ay λY=>?_);refine RT ?_;exact⟨[.sl Y 0 (0+(l.map AX).length)],[.lst true 32 2 (l.map AX)],_,[],.cons (.tmp rfl) rfl .nil,.cons (.cell (.sl (p:=0) .here (by simp))) .nil,by exact Sub.f,rfl,rfl⟩
theorem Lf(S:List AB):∀b:List Int,Lds S (b.map iA) (b.map iA)
 |[]=>.nil
 |x::b=>.cons (show Ld S (iA x) (iA x)from .frz (a:=iA x)) (Lf S b)
theorem Lu(S:List AB):∀b:List Ent,Lds S (b.map AX) (b.map AX)
 |[]=>.nil
 |x::b=>.cons (show Ld S (AX x) (AX x)from .frz (a:=AX x)) (Lu S b)
theorem Iu(X:Nat)(l:List Int)(n:Nat)(hn:n=l.length)(hl:l.length*8<=140737488355328):Spec Tryz.prog 58 [.sl X 0 n] [(X,.row 3 1 (l.map iA))] λr S'=>r= .lst true 3 1 (l.map iA)/\S'=[(X,.row 3 1 (l.map iA))]:=by
 subst hn;refine PS.lend (ET l hl) (by show Bi _=true;rw[IL (λ_=>rfl)]) (.cons (.sl .here (by simp) ?_) .nil);rw[List.drop_zero,List.take_of_length_le (by simp)];exact Lf _ _
theorem NI(X:Nat)(l:List Ent)(n:Nat)(hn:n=l.length)(hl:l.length*16<=140737488355328):Spec Tryz.prog 154 [.sl X 0 n] [(X,.row 32 2 (l.map AX))] λr S'=>r= .lst true 32 2 (l.map AX)/\S'=[(X,.row 32 2 (l.map AX))]:=by
 subst hn;refine PS.lend (O1 l hl) (by show Bi _=true;rw[IL (λ_=>rfl)]) (.cons (.sl .here (by simp) ?_) .nil);rw[List.drop_zero,List.take_of_length_le (by simp)];exact Lu _ _
abbrev GR(l:List Ent):AV:=.lst false 32 2 (l.map AX)
theorem Rl(k:StK)(l:List (Int×Ent))(hl:ColOK l):Spec Tryz.prog 74 [.ptr k.X 0 0] (stE k l) λr S'=>r= .fn 155 [.fp [AQ false (AC l)],.fp [GR (l.map (·.2))]]/\S'=stE k l:=by
 have hlen:=hl.len;have h1:=Iu k.R (AC l) l.length (by simp) (by rw[List.length_map];omega);have h2:=NI k.V (l.map (·.2)) l.length (by simp) (by rw[List.length_map];omega);have e1:(AC l).map iA=l.map λe=>iA e.1:=List.map_map
 have e2:(l.map (·.2)).map AX=l.map λe=>AX e.2:=List.map_map
 rw[e1]at h1;rw[e2]at h2;refine Spec.of (nt:=16) (res:=[.tmp 2]) Tryz.func74 rfl (by kernel_rfl) rfl rfl rfl λSf=>?_
 refine RG ?_;(repeat first|refine WO ?_|refine Ai λX=>?_|refine Ay λY=>?_);refine NL ?_;refine FL ?_;refine AWP.rs λA=>AWP.rs λB=>?_
 refine RU ?_;(repeat first|(refine RGo.gN ?_;first|(refine RGo.g_callf ?_;first|refine E2 (h:=h1) (hT:=.fz) (k:=?_)|refine E2 (h:=h2) (hT:=.fz) (k:=?_)))|(refine RGo.gQ ?_;first|(refine RGo.g_callf ?_;first|refine E2 (h:=h1) (hT:=.fz) (k:=?_)|refine E2 (h:=h2) (hT:=.fz) (k:=?_)))|refine RK ?_|refine RGo.nil (by kernel_rfl) ?_);refine FL ?_;refine AWP.iceP [3] .here ?_ (by intro d hd;simp only[List.mem_singleton]at hd;subst hd;rfl);refine AWP.iceP [4] (.next .here) ?_ (by intro d hd;simp only[List.mem_singleton]at hd;subst hd;rfl);refine RG ?_;(repeat first|refine WO ?_|refine Ai λX=>?_|refine Ay λY=>?_);refine NL ?_;have er:AV.fn 155 [.fp [AQ false (AC l)],.fp [GR (l.map (·.2))]]=AV.fn 155 [.fp [.lst false 3 1 (l.map λe=>iA e.1)],.fp [.lst false 32 2 (l.map λe=>AX e.2)]]:=by rw[AQ,GR,e1,e2]
 rw[er];refine RT ?_;exact AS [AV.fn 155 [.fp [.lst false 3 1 (l.map λe=>iA e.1)],.fp [.lst false 32 2 (l.map λe=>AX e.2)]]] (stE k l) ⟨rfl,rfl⟩
theorem QU(ks:List Int)(es:List Ent)(hl:ks.length=es.length)(h0:ks.length<=1099511627776):Itr Tryz.prog 155 [.fp [AQ false ks],.fp [GR es]] ((ks.zip es).map λq=>[iA q.1,AX q.2]):=by
 have hkm:(ks.map iA).length=ks.length:=List.length_map _;have hem:(es.map AX).length=es.length:=List.length_map _;refine⟨by kernel_rfl,λy J Jx hY Sl hJ0=>?_⟩;refine Spec.of (nt:=22) (res:=[]) Tryz.func155 rfl (by kernel_rfl) rfl rfl rfl λSf=>?_
 refine RG ?_;(repeat first|refine WO ?_|refine Ai λX=>?_|refine Ay λY=>?_);refine NL ?_;refine FL ?_;refine BI (λ(i:Nat) (Sl:List AB)=>⟨[(0,.prim y),(2,.fp [GR es]),(6,AQ false ks),(7,iA (ks.map iA).length),(8,iA i)],Sl++Sf⟩) (λi Sl=>i<=ks.length/\J i Sl) (λi _=>ks.length-i) 0 Sl ⟨Nat.zero_le _,hJ0⟩ ?_;rintro i Sl ⟨hi,hJ⟩;refine RG ?_;(repeat first|refine WO ?_|refine Ai λX=>?_|refine Ay λY=>?_);refine NL ?_;refine FL ?_;refine AWP.cond rfl (λhc=>?_) (λhc=>?_)
 ·have h:i<ks.length:=by rw[decide_eq_true_eq,hkm]at hc;omega
  have he:i<es.length:=by omega
  have hat:(ks.map iA)[i]?=some (iA ks[i]):=Ah _ h;have hil:i<(ks.map iA).length:=by omega
  have hat2:(es.map AX)[i]?=some (AX es[i]):=Ah _ he;have hil2:i<(es.map AX).length:=by omega
  have hyi:((ks.zip es).map λq=>[iA q.1,AX q.2])[i]?=some [iA ks[i],AX es[i]]:=by
   rw[List.getElem?_map,List.getElem?_eq_getElem (by rw[List.length_zip];omega),List.getElem_zip];rfl
  obtain⟨k,hk⟩:∃k,ks[i]=k:=⟨_,rfl⟩;obtain⟨e,hee⟩:∃e,es[i]=e:=⟨_,rfl⟩;rw[hk]at hat hyi;rw[hee]at hat2 hyi;refine FL ?_;refine RG ?_;(repeat first|refine WO ?_|refine Ai λX=>?_|refine Ay λY=>?_);refine NL ?_;refine FL ?_;refine RG ?_;(repeat first|refine WO ?_|refine Ai λX=>?_|refine Ay λY=>?_);refine MI (Si:=[]) hY hJ hyi (λSl' hk=>?_) (λSl' hk=>?_)
  ·(repeat first|refine WO ?_|refine Ai λX=>?_|refine Ay λY=>?_)
   refine AOps.nil ?_;refine FL ?_;refine AE rfl rfl ?_;(repeat first|refine WK ?_|refine Ai λX=>?_|refine Ay λY=>?_);refine Ak (i+1) Sl' ⟨h,hk⟩
  ·(repeat first|refine WO ?_|refine Ai λX=>?_|refine Ay λY=>?_)
   refine AOps.nil ?_;refine FL ?_;refine AR rfl rfl ?_;(repeat first|refine WK ?_|refine Ai λX=>?_|refine Ay λY=>?_);refine RT ?_;exact BO Sl' (.inr hk)
 ·have h:i=ks.length:=by rw[decide_eq_false_iff_not,hkm]at hc;omega
  subst h;(repeat first|refine WK ?_|refine Ai λX=>?_|refine Ay λY=>?_);refine DX ?_;exact BO Sl (.inl (by rw[List.length_map,List.length_zip,<-hl,Nat.min_self];exact hJ))
theorem NA(a b c d:Int)(w:World):(binOp .neq 32 (.agg [Value.int .i64 a,Value.int .i64 b].toArray) (.agg [Value.int .i64 c,Value.int .i64 d].toArray)).run Tryz.prog w= .ok (.bool (!(decide (a=c)&&decide (b=d)))) w:=by
 have h:=Rc (P:=Tryz.prog) (t:=32) 9998 (by kernel_rfl) (by kernel_rfl) (by kernel_rfl) a b c d w;rw[run_neq_struct];have e:(Op.equalIn 10000 32 (.agg [Value.int .i64 a,Value.int .i64 b].toArray) (.agg [Value.int .i64 c,Value.int .i64 d].toArray)).run Tryz.prog w=_:=h;rw[e,Result.andThen_ok]
theorem M9(a b:Ent):(!(decide (a.n=b.n)&&decide (a.gen=b.gen)))=decide (a≠b):=by
 cases a;cases b;simp only[ne_eq,Ent.mk.injEq];rw[decide_not,Bool.decide_and]
def Bq(a b:Item)(n:Int)(i:Nat):List Mark:=(if a.ent≠b.ent then[(⟨n,-1,0⟩:Mark)]else[])++FT a b n i
theorem H5(a b:Item)(n:Int)(i:Nat):(Bq a b n i).length<=i+1:=by
 unfold Bq FT;rw[List.length_append,List.length_map];have:=List.length_filter_le (λ(k:Nat)=>Em a b k) (List.range i);rw[List.length_range]at this;split<;>simp<;>omega
theorem K3(a b:Item)(n:Int)(i:Nat):Bq a b n (i+1)=if Em a b i then Bq a b n i++[⟨n,i,0⟩]else Bq a b n i:=by
 unfold Bq FT;rw[List.range_succ,List.filter_append,List.map_append,<-List.append_assoc];by_cases h:Em a b i=true
 ·rw[if_pos h,List.filter_cons,if_pos h];rfl
 ·rw[if_neg h,List.filter_cons,if_neg h];simp
set_option maxRecDepth 8000 in
theorem LS(a b:Item)(n:Int)(ha:CsL a.comps)(hb:CsL b.comps):PS Tryz.prog 82 [AA false a,AA false b,iA n] (EX true (DD a b n)):=by
 refine Spec.of (nt:=61) (res:=[.tmp 6]) Tryz.func82 rfl (by kernel_rfl) rfl rfl rfl λSf=>?_
 refine RG ?_;(repeat first|(refine AOps.gN ?_;first|(refine AOps.g_box ?_;refine Az ?_))|refine WO ?_|refine Ai λX=>?_|refine Ay λY=>?_);refine NL ?_;refine FL ?_;refine RG ?_;(repeat first|refine WO ?_|refine Ai λX=>?_|refine Ay λY=>?_);refine NL ?_;refine FL ?_;refine AWP.adopt (d:=7) 58 3 rfl λO=>?_
 refine RG ?_;(repeat first|(refine AOps.gN ?_;first|refine AOps.go (h:=W.neP _ _ (by kernel_rfl) (NA a.ent.n a.ent.gen b.ent.n b.ent.gen) rfl rfl) (k:=?_))|refine WO ?_|refine Ai λX=>?_|refine Ay λY=>?_);refine NL ?_;rw[M9];refine BG (λO:Nat=>True) (λO=>⟨[(2,iA n),(3,.fp (AA false a).cells),(4,.fp (AA false b).cells),(7,.sl O 0 (Bq a b n 0).length)],(O,.row 58 3 ((Bq a b n 0).map Bv))::Sf⟩) ?_ ?_
 ·refine AWP.cond rfl (λhc=>?_) (λhc=>?_)
  ·have hc:=of_decide_eq_true hc
   have h0:Bq a b n 0=[⟨n,-1,0⟩]:=by unfold Bq FT;rw[if_pos hc];rfl
   rw[h0];refine FL ?_;have hb1:([]:List AV).length+1<=1099511627776:=by decide
   refine RG ?_;(repeat first|(refine AOps.gN ?_;first|(refine AOps.g_lit ?_;refine AOps.goL (Bv ⟨n,-1,0⟩) ?_))|refine WO ?_|refine Ai λX=>?_|refine Ay λY=>?_);refine NL ?_;exact jn Y trivial
  ·have hc:=of_decide_eq_false hc
   have h0:Bq a b n 0=[]:=by unfold Bq FT;rw[if_neg hc];rfl
   rw[h0];refine FL ?_;exact jn O trivial
 rintro O _;refine FL ?_;refine RG ?_;(repeat first|refine WO ?_|refine Ai λX=>?_|refine Ay λY=>?_);refine NL ?_;refine FL ?_;refine BI (λ(i O:Nat)=>⟨[(2,iA n),(3,.fp (AA false a).cells),(4,.fp (AA false b).cells),(7,.sl O 0 (Bq a b n i).length),(21,iA i)],(O,.row 58 3 ((Bq a b n i).map Bv))::Sf⟩) (λi _=>i<=16) (λi _=>16-i) 0 O (Nat.zero_le _) ?_;rintro i O hi;refine RG ?_;(repeat first|refine WO ?_|refine Ai λX=>?_|refine Ay λY=>?_);refine NL ?_;refine FL ?_;refine AWP.cond rfl (λhc=>?_) (λhc=>?_)
 ·have h:i<16:=by rw[decide_eq_true_eq]at hc;omega
  have hca:=HJ a i ha.1;have hcb:=HJ b i hb.1;have hnx:=K3 a b n i;have hln:=H5 a b n i;have hsc:=GC (Bo a i) (Bo b i) ⟨by have:=J2 a i;omega,λc hc=>ha.2 c (Ox hc)⟩
  have hd:Em a b i=(decide ((Bo a i).length≠(Bo b i).length)||(decide ((Bo a i).length=1)&&(decide (a.ent≠b.ent)|| !decide (Bo a i=Bo b i)))):=by
   unfold Em;rw[decide_not (p:=Bo a i=Bo b i)]
  rw[hd]at hnx;obtain⟨x,hx⟩:∃x,Bo a i=x:=⟨_,rfl⟩;obtain⟨y,hy⟩:∃y,Bo b i=y:=⟨_,rfl⟩;rw[hx]at hca hsc hnx;rw[hy]at hcb hsc hnx;refine FL ?_;refine RG ?_;(repeat first|refine WO ?_|refine Ai λX=>?_|refine Ay λY=>?_);refine NL ?_;refine FL ?_;refine RU ?_;(repeat first|(refine RGo.gN ?_;first|(refine RGo.g_callf ?_;first|refine RGo.c2 (h:=(hca ..)) (k:=?_)|refine RGo.c2 (h:=(hcb ..)) (k:=?_)))|(refine RGo.gQ ?_;first|(refine RGo.g_callf ?_;first|refine RGo.c2 (h:=(hca ..)) (k:=?_)|refine RGo.c2 (h:=(hcb ..)) (k:=?_)))|refine RK ?_|refine RGo.nil (by kernel_rfl) ?_);have hxm:(x.map (AD false)).length=x.length:=List.length_map _;have hym:(y.map (AD false)).length=y.length:=List.length_map _;have hcl:((Bq a b n i).map Bv).length=(Bq a b n i).length:=List.length_map _;refine Bc ?_;refine AWP.seq ?_;refine BG (λq:Bool=>q=(decide (x.length≠y.length)||decide (x.length=1)&&(decide (a.ent≠b.ent)|| !decide (x=y)))) (λq=>⟨[(2,iA n),(3,.fp (AA false a).cells),(4,.fp (AA false b).cells),(7,.sl O 0 (Bq a b n i).length),(8,iA i),(21,iA i),(52,bA q)],(O,.row 58 3 ((Bq a b n i).map Bv))::Sf⟩) ?_ ?_
  ·cases g1:decide (((x.map (AD false)).length:Int)≠((y.map (AD false)).length:Nat))with
   |true=>
    refine RG ?_;(repeat first|(refine AOps.gQ ?_;first|refine AOps.goNU ?_|refine AOps.goNV ?_)|refine WO ?_|refine Ai λX=>?_|refine Ay λY=>?_);refine NL ?_;have e1:x.length≠y.length:=by have:=of_decide_eq_true g1;omega
    exact jn true (by rw[decide_eq_true e1];rfl)
   |false=>
    have e1:¬x.length≠y.length:=by have:=of_decide_eq_false g1;omega
    cases g2:decide (((x.map (AD false)).length:Int)=1)with
    |false=>
     refine RG ?_;(repeat first|(refine AOps.gQ ?_;first|refine AOps.goNU ?_|refine AOps.goNV ?_)|refine WO ?_|refine Ai λX=>?_|refine Ay λY=>?_);refine NL ?_;have e2:¬x.length=1:=by have:=of_decide_eq_false g2;omega
     exact jn false (by rw[decide_eq_false e1,decide_eq_false e2];rfl)
    |true=>
     have e2:x.length=1:=by have:=of_decide_eq_true g2;omega
     cases g3:(!(decide (a.ent.n=b.ent.n)&&decide (a.ent.gen=b.ent.gen)))with
     |true=>
      refine RG ?_;(repeat first|(refine AOps.gN ?_;first|refine AOps.go (h:=W.neP _ _ (by kernel_rfl) (NA a.ent.n a.ent.gen b.ent.n b.ent.gen) rfl rfl) (k:=?_))|(refine AOps.gQ ?_;first|refine AOps.goNU ?_|refine AOps.goNV ?_)|refine WO ?_|refine Ai λX=>?_|refine Ay λY=>?_);refine NL ?_;rw[M9]at g3;exact jn true (by rw[decide_eq_false e1,decide_eq_true e2,g3];rfl)
     |false=>
      obtain⟨q,hq⟩:∃q,decide (x=y)=q:=⟨_,rfl⟩;rw[hq]at hsc⊢;refine RG ?_;(repeat first|(refine AOps.gN ?_;first|(refine AOps.g_callf ?_;first|refine AOps.c2 (h:=(hsc ..)) (k:=?_))|refine AOps.go (h:=W.neP _ _ (by kernel_rfl) (NA a.ent.n a.ent.gen b.ent.n b.ent.gen) rfl rfl) (k:=?_))|refine WO ?_|refine Ai λX=>?_|refine Ay λY=>?_);refine NL ?_;rw[M9]at g3;exact jn (!q) (by rw[decide_eq_false e1,decide_eq_true e2,g3];cases q<;>rfl)
  rintro q hq;rw[<-hq]at hnx;cases q with
  |true=>
   rw[if_pos rfl]at hnx;refine AR rfl rfl ?_;refine FL ?_;have hb1:((Bq a b n i).map Bv).length+1<=1099511627776:=by omega
   have hm1:(Bq a b n i).map Bv++[Bv ⟨n,i,0⟩]=(Bq a b n (i+1)).map Bv:=by rw[hnx,List.map_append];rfl
   have hm2:(Bq a b n i).length+[Bv ⟨n,i,0⟩].length=(Bq a b n (i+1)).length:=by rw[hnx,List.length_append];rfl
   refine RG ?_;(repeat first|(refine AOps.gN ?_;first|(refine AOps.g_lit ?_;refine AOps.goL (Bv ⟨n,i,0⟩) ?_))|refine WO ?_|refine Ai λX=>?_|refine Ay λY=>?_);refine NL ?_;dsimp only[AM,List.set_cons_zero,List.set_cons_succ,List.cons_append,List.nil_append];rw[hm1,hm2];refine FL ?_;refine RG ?_;(repeat first|refine WO ?_|refine Ai λX=>?_|refine Ay λY=>?_);refine NL ?_;exact Ak (i+1) Y h (by omega)
  |false=>
   rw[if_neg (by simp)]at hnx;refine AE rfl rfl ?_;rw[<-hnx];refine FL ?_;refine RG ?_;(repeat first|refine WO ?_|refine Ai λX=>?_|refine Ay λY=>?_);refine NL ?_;exact Ak (i+1) O h (by omega)
 ·have h:i=16:=by rw[decide_eq_false_iff_not]at hc;omega
  subst h;have h0:Bq a b n 16=DD a b n:=rfl;rw[h0];refine FL ?_;refine RG ?_;(repeat first|refine WO ?_|refine Ai λX=>?_|refine Ay λY=>?_);refine NL ?_;refine RT ?_;exact BT [.sl O 0 (DD a b n).length] [EX true (DD a b n)] (.cons (.cell (.sl (p:=0) .here (by rw[List.length_map]))) .nil)
theorem Je(a b:Item)(n:Int):(DD a b n).length<=17:=H5 a b n 16
theorem Iv(a b:List Item)(i:Nat):CY a b (i+1)=CY a b i++DD (BM a i) (BM b i) i:=by
 unfold CY;rw[List.range_succ,List.flatMap_append,List.flatMap_singleton]
theorem G5(a b:List Item):∀i:Nat,(CY a b i).length<=i*17
 |0=>Nat.le_refl _
 |i+1=>by
  have h1:=G5 a b i;have h2:=Je (BM a i) (BM b i) i;rw[Iv,List.length_append];omega
theorem Jf{l:List Item}(hs:GU l)(h:ItL l)(n:Int):CsL (BM l n).comps:=by
 rcases D5 hs n with⟨g1,_⟩|⟨g1,_⟩
 ·exact h.2 _ g1
 ·rw[g1];exact⟨Nat.zero_le _,λc hc=>by cases hc⟩
theorem RA(m n:Nat):(if(m:Int)<n then(n:Int)else m)=((max m n:Nat):Int):=by
 split<;>omega
set_option maxRecDepth 8000 in
theorem Iw(a b:Wd)(ha:WdOK a)(hb:WdOK b)(hk:a.kinds=b.kinds):PS Tryz.prog 26 [wdA false a,wdA false b] (.tup [EX true (Ey a b),iA 0]):=by
 have hLa:=ha.wl;have hLb:=hb.wl;have hca:=EU a hLa.gens hLa.items.1 (λit hit=>(hLa.items.2 it hit).1);have hcb:=EU b hLb.gens hLb.items.1 (λit hit=>(hLb.items.2 it hit).1);rw[(Ax a).2 ha]at hca;rw[(Ax b).2 hb]at hcb;have hks:=HK a.kinds b.kinds hLa.ks;rw[decide_eq_true hk]at hks;have hma:(a.gens.map iA).length=a.gens.length:=List.length_map _;have hmb:(b.gens.map iA).length=b.gens.length:=List.length_map _;have hga:=ha.gl;have hgb:=hb.gl;have hmx:(if((a.gens.map iA).length:Int)<((b.gens.map iA).length:Nat)then(((b.gens.map iA).length:Nat):Int)else((a.gens.map iA).length:Nat))=(Cq a b:Nat):=by rw[hma,hmb];exact RA _ _
 have hN:Cq a b<=1048576:=by unfold Cq;omega
 unfold Ey;obtain⟨N,hNe⟩:∃N,Cq a b=N:=⟨_,rfl⟩;rw[hNe]at hmx hN⊢;refine Spec.of (nt:=53) (res:=[.tmp 4,.tmp 5]) Tryz.func26 rfl (by kernel_rfl) rfl rfl rfl λSf=>?_
 refine RG ?_;(repeat first|(refine AOps.gN ?_;first|(refine AOps.g_box ?_;refine Az ?_))|refine WO ?_|refine Ai λX=>?_|refine Ay λY=>?_);refine NL ?_;refine FL ?_;refine RG ?_;(repeat first|refine WO ?_|refine Ai λX=>?_|refine Ay λY=>?_);refine NL ?_;refine FL ?_;refine BP (λ(i:Nat)=>⟨[(2,.fp (wdA false a).cells),(3,.fp (wdA false b).cells),(13,.lst false 26 3 [wdA false a,wdA false b]),(14,iA 2),(15,iA i)],Sf⟩) (λi=>i<=2) (λi=>2-i) 0 (Nat.zero_le _) ?_;rintro i hi;refine RG ?_;(repeat first|refine WO ?_|refine Ai λX=>?_|refine Ay λY=>?_);refine NL ?_;refine FL ?_;refine AWP.cond rfl (λhc=>?_) (λhc=>?_)
 ·have h:i<2:=by rw[decide_eq_true_eq]at hc;omega
  have hat:∃v:Wd,[wdA false a,wdA false b][i]?=some (wdA false v)/\PS Tryz.prog 60 [wdA false v] (iA 0):=by
   match i,h with
   |0,_=>exact⟨a,rfl,hca⟩
   |1,_=>exact⟨b,rfl,hcb⟩
  obtain⟨v,hat,hcv⟩:=hat;refine FL ?_;refine RG ?_;(repeat first|(refine AOps.gN ?_;first|refine AOps.go (h:=W.idxL rfl rfl rfl hat) (k:=?_))|refine WO ?_|refine Ai λV=>?_|refine Ay λY=>?_);refine NL ?_;refine FL ?_;refine RG ?_;(repeat first|(refine AOps.gN ?_;first|(refine AOps.g_callf ?_;first|refine AOps.c1 (h:=(hcv ..)) (k:=?_)))|refine WO ?_|refine Ai λX=>?_|refine Ay λY=>?_);refine NL ?_;refine FL ?_;refine RG ?_;(repeat first|refine WO ?_|refine Ai λX=>?_|refine Ay λY=>?_);refine NL ?_;refine AE rfl rfl ?_;refine FL ?_;refine RG ?_;(repeat first|refine WO ?_|refine Ai λX=>?_|refine Ay λY=>?_);refine NL ?_;exact A7 (i+1) h (by omega)
 ·refine FL ?_
  refine RG ?_;(repeat first|(refine AOps.gN ?_;first|(refine AOps.g_callf ?_;first|refine AOps.c2 (h:=(hks ..)) (k:=?_)))|refine WO ?_|refine Ai λX=>?_|refine Ay λY=>?_);refine NL ?_;refine AE rfl rfl ?_;refine FL ?_;refine RG ?_;(repeat first|refine WO ?_|refine Ai λX=>?_|refine Ay λY=>?_);refine NL ?_;refine FL ?_;refine RG ?_;(repeat first|refine WO ?_|refine Ai λX=>?_|refine Ay λY=>?_);refine NL ?_;rw[hmx];refine FL ?_;refine AWP.adopt (d:=9) 58 3 rfl λO=>?_
  refine BI (λ(i O:Nat)=>⟨[(2,.fp (wdA false a).cells),(3,.fp (wdA false b).cells),(9,.sl O 0 (CY a.items b.items i).length),(37,iA N),(38,iA i)],(O,.row 58 3 ((CY a.items b.items i).map Bv))::Sf⟩) (λi _=>i<=N) (λi _=>N-i) 0 O (Nat.zero_le _) ?_;rintro i O hi;refine RG ?_;(repeat first|refine WO ?_|refine Ai λX=>?_|refine Ay λY=>?_);refine NL ?_;refine FL ?_;refine AWP.cond rfl (λhc=>?_) (λhc=>?_)
  ·have h:i<N:=by rw[decide_eq_true_eq]at hc;omega
   have hia:=HI a i ha.so (by have:=hLa.items.1;omega);have hib:=HI b i hb.so (by have:=hLb.items.1;omega);have hsl:=LS (BM a.items i) (BM b.items i) i (Jf ha.so hLa.items i) (Jf hb.so hLb.items i);have hnx:=Iv a.items b.items i;have hl1:=G5 a.items b.items i;have hl2:=Je (BM a.items i) (BM b.items i) i;obtain⟨x,hx⟩:∃x,BM a.items i=x:=⟨_,rfl⟩;obtain⟨y,hy⟩:∃y,BM b.items i=y:=⟨_,rfl⟩;rw[hx]at hia hsl hnx hl2;rw[hy]at hib hsl hnx hl2;have hcl:((CY a.items b.items i).map Bv).length=(CY a.items b.items i).length:=List.length_map _;have hsml:((DD x y i).map Bv).length=(DD x y i).length:=List.length_map _;refine FL ?_;refine RG ?_;(repeat first|refine WO ?_|refine Ai λX=>?_|refine Ay λY=>?_);refine NL ?_;refine FL ?_;refine AWP.rs λY=>?_
   refine RU ?_;(repeat first|(refine RGo.gN ?_;first|(refine RGo.g_callf ?_;first|refine RGo.c3 (h:=(hsl ..)) (k:=?_)|refine RGo.c2 (h:=(hia ..)) (k:=?_)|refine RGo.c2 (h:=(hib ..)) (k:=?_))|refine RGo.s (W.app rfl rfl (by exact At.f) (by exact At.f) (by omega) (by omega) (by unfold maxLen;omega)) rfl ?_)|(refine RGo.gQ ?_;first|(refine RGo.g_callf ?_;first|refine RGo.c3 (h:=(hsl ..)) (k:=?_)|refine RGo.c2 (h:=(hia ..)) (k:=?_)|refine RGo.c2 (h:=(hib ..)) (k:=?_))|refine RGo.s (W.app rfl rfl (by exact At.f) (by exact At.f) (by omega) (by omega) (by unfold maxLen;omega)) rfl ?_)|refine RK ?_|refine RGo.nil (by kernel_rfl) ?_);have hm1:(CY a.items b.items i).map Bv++(DD x y i).map Bv=(CY a.items b.items (i+1)).map Bv:=by rw[hnx,List.map_append]
   have hm2:(CY a.items b.items i).length+((DD x y i).map Bv).length=(CY a.items b.items (i+1)).length:=by rw[hnx,List.length_append,hsml]
   rw[hm1,hm2];(repeat refine WF ?_);refine RG ?_;(repeat first|refine WO ?_|refine Ai λX=>?_|refine Ay λY=>?_);refine NL ?_;exact Ak (i+1) Y h (by omega)
  ·have h:i=N:=by rw[decide_eq_false_iff_not]at hc;omega
   subst h;refine FL ?_;refine RG ?_;(repeat first|refine WO ?_|refine Ai λX=>?_|refine Ay λY=>?_);refine NL ?_;refine RT ?_;exact BT [.sl O 0 (CY a.items b.items i).length,iA 0] [EX true (CY a.items b.items i),iA 0] (.cons (.cell (.sl (p:=0) .here (by rw[List.length_map]))) (.cons (.cell .same) .nil))
def Sn(P:Program)(t:TypeId):Bool:=match(P.fieldsOf t).toList with
 |[f1,f2,f3]=>f1.name != "_" &&f2.name != "_" &&f3.name != "_" &&f1.offset==0&&f2.offset==1&&f3.offset==2&&(match P.underlying f1.type,P.underlying f2.type,P.underlying f3.type with|some (.int _),some (.int _),some (.int _)=>true|_,_,_=>false)
 |_=>false
theorem Re{P:Program}{t:TypeId}(h1:P.underlying t=some (.struct (P.fieldsOf t)))(h2:P.stoodInHeld t=false)(h:Sn P t=true)(s s' a b c d:Int)(w:World):
  (Op.equalIn 10000 t (.agg #[.int .i64 s,.int .i64 a,.int .i64 b]) (.agg #[.int .i64 s',.int .i64 c,.int .i64 d])).run P w= .ok (decide (s=s')&&decide (a=c)&&decide (b=d)) w:=by
 rw[show(10000:Nat)=9999+1 from rfl,run_equalIn_agg w 9999 t _ _ h1 h2];unfold Sn at h;split at h
 ·rename_i f1 f2 f3 hf
  simp only[Bool.and_eq_true,bne_iff_ne,ne_eq,beq_iff_eq]at h;obtain⟨⟨⟨⟨⟨⟨n1,n2⟩,n3⟩,o1⟩,o2⟩,o3⟩,hu⟩:=h;split at hu
  ·rename_i k1 k2 k3 u1 u2 u3
   have p1:∀(x y z:Int),(part f1.type #[.int .i64 x,.int .i64 y,.int .i64 z] f1.offset).run P w= .ok (.int .i64 x) w:=λx y z=>Dr u1 (by rw[o1];rfl) w
   have p2:∀(x y z:Int),(part f2.type #[.int .i64 x,.int .i64 y,.int .i64 z] f2.offset).run P w= .ok (.int .i64 y) w:=λx y z=>Dr u2 (by rw[o2];rfl) w
   have p3:∀(x y z:Int),(part f3.type #[.int .i64 x,.int .i64 y,.int .i64 z] f3.offset).run P w= .ok (.int .i64 z) w:=λx y z=>Dr u3 (by rw[o3];rfl) w
   have q1:∀a c:Int,(Op.equalIn 9999 f1.type (.int .i64 a) (.int .i64 c)).run P w= .ok (a==c) w:=λa c=>run_equalIn_int (P:=P) w 9998 f1.type .i64 k1 a c u1
   have q2:∀a c:Int,(Op.equalIn 9999 f2.type (.int .i64 a) (.int .i64 c)).run P w= .ok (a==c) w:=λa c=>run_equalIn_int (P:=P) w 9998 f2.type .i64 k2 a c u2
   have q3:∀a c:Int,(Op.equalIn 9999 f3.type (.int .i64 a) (.int .i64 c)).run P w= .ok (a==c) w:=λa c=>run_equalIn_int (P:=P) w 9998 f3.type .i64 k3 a c u3
   rw[hf];by_cases e1:s=s'
   ·by_cases e2:a=c
    ·by_cases e3:b=d
     ·simp[Op.eqFields,n1,n2,n3,Sem.run_bind,p1,p2,p3,q1,q2,q3,e1,e2,e3,Sem.run_pure,Sem.run_ite,Result.andThen_ok]
     ·simp[Op.eqFields,n1,n2,n3,Sem.run_bind,p1,p2,p3,q1,q2,q3,e1,e2,e3,Sem.run_pure,Sem.run_ite,Result.andThen_ok]
    ·simp[Op.eqFields,n1,n2,Sem.run_bind,p1,p2,q1,q2,e1,e2,Sem.run_pure,Sem.run_ite,Result.andThen_ok]
   ·simp[Op.eqFields,n1,Sem.run_bind,p1,q1,e1,Sem.run_pure,Sem.run_ite,Result.andThen_ok]
  ·cases hu
 ·cases h
theorem Nj(a b c d e f:Int)(w:World):(binOp .neq 58 (.agg [Value.int .i64 a,Value.int .i64 b,Value.int .i64 c].toArray) (.agg [Value.int .i64 d,Value.int .i64 e,Value.int .i64 f].toArray)).run Tryz.prog w= .ok (.bool (!(decide (a=d)&&decide (b=e)&&decide (c=f)))) w:=by
 have h:=Re (P:=Tryz.prog) (t:=58) (by kernel_rfl) (by kernel_rfl) (by kernel_rfl) a d b c e f w;rw[run_neq_struct];have e:(Op.equalIn 10000 58 (.agg [Value.int .i64 a,Value.int .i64 b,Value.int .i64 c].toArray) (.agg [Value.int .i64 d,Value.int .i64 e,Value.int .i64 f].toArray)).run Tryz.prog w=_:=h;rw[e,Result.andThen_ok]
theorem RB(a b:Mark):(!(decide (a.n=b.n)&&decide (a.kind=b.kind)&&decide (a.tick=b.tick)))=decide (a≠b):=by
 cases a;cases b;simp only[ne_eq,Mark.mk.injEq];rw[decide_not,Bool.decide_and,Bool.decide_and,Bool.and_assoc]
theorem Oq(a b:List Mark)(hl:a.length<=1099511627776):PS Tryz.prog 28 [(EX false) a,(EX false) b] (bA (decide (a=b))):=by
 refine Spec.of (nt:=26) (res:=[.tmp 4]) Tryz.func28 rfl (by kernel_rfl) rfl rfl rfl λSf=>?_
 (repeat first|refine WK ?_|refine Ai λX=>?_|refine Ay λY=>?_);refine AWP.cond rfl (λhb=>?_) (λhb=>?_)
 ·have hb:a.length≠b.length:=by simp at hb;omega
  (repeat first|refine WK ?_|refine Ai λX=>?_|refine Ay λY=>?_);refine RT ?_;refine AN ?_;rw[decide_eq_false λe=>hb (by rw[e])]
 ·have hb:a.length=b.length:=by simp at hb;omega
  (repeat first|refine WK ?_|refine Ai λX=>?_|refine Ay λY=>?_);refine BP (λi:Nat=>⟨[(0,(EX false) a),(1,(EX false) b),(12,iA (a.map Bv).length),(13,iA i)],Sf⟩) (λi=>i<=a.length/\∀j (h:j<a.length),j<i->a[j]=b[j]'(by omega)) (λi=>a.length-i) 0 ⟨Nat.zero_le _,λj h hj=>absurd hj (by omega)⟩ ?_;rintro i ⟨hi,he⟩;(repeat first|refine WK ?_|refine Ai λX=>?_|refine Ay λY=>?_);refine AWP.cond rfl (λhc=>?_) (λhc=>?_)
  ·have h:i<a.length:=by simpa using hc
   have h':i<b.length:=by omega
   obtain⟨x,hx⟩:∃x,a[i]=x:=⟨_,rfl⟩;obtain⟨y,hy⟩:∃y,b[i]=y:=⟨_,rfl⟩;have hat1:(a.map Bv)[i]?=some (Bv x):=by rw[List.getElem?_map,List.getElem?_eq_getElem h,hx];rfl
   have hat2:(b.map Bv)[i]?=some (Bv y):=by rw[List.getElem?_map,List.getElem?_eq_getElem h',hy];rfl
   (repeat first|refine WK ?_|refine Ai λX=>?_|refine Ay λY=>?_);refine RU ?_;(repeat first|(refine RGo.gN ?_;first|refine RGo.p (W.idxL rfl rfl rfl hat1) rfl ?_|refine RGo.p (W.idxL rfl rfl rfl hat2) rfl ?_|refine RGo.p (W.neP _ _ (by kernel_rfl) (Nj x.n x.kind x.tick y.n y.kind y.tick) rfl rfl) rfl ?_)|(refine RGo.gQ ?_;first|refine RGo.p (W.idxL rfl rfl rfl hat1) rfl ?_|refine RGo.p (W.idxL rfl rfl rfl hat2) rfl ?_|refine RGo.p (W.neP _ _ (by kernel_rfl) (Nj x.n x.kind x.tick y.n y.kind y.tick) rfl rfl) rfl ?_)|refine RK ?_|refine RGo.nil (by kernel_rfl) ?_);(repeat first|refine WK ?_|refine Ai λX=>?_|refine Ay λY=>?_);have hne:=RB x y;refine AWP.cond rfl (λhd=>?_) (λhd=>?_)
   ·have hd:x≠y:=by rw[hne]at hd;exact of_decide_eq_true hd
    (repeat first|refine WK ?_|refine Ai λX=>?_|refine Ay λY=>?_);refine RT ?_;refine AN ?_;rw[decide_eq_false λe=>hd (by subst e;rw[<-hx,<-hy])]
   ·have hd:x=y:=by rw[hne]at hd;exact Decidable.not_not.1 (of_decide_eq_false hd)
    (repeat first|refine WK ?_|refine Ai λX=>?_|refine Ay λY=>?_);refine A7 (i+1) ⟨h,λj h1 h2=>?_⟩;by_cases e:j=i
    ·subst e;rw[hx,hy,hd]
    ·exact he j h1 (by omega)
  ·have h:¬i<a.length:=by simpa using hc
   (repeat first|refine WK ?_|refine Ai λX=>?_|refine Ay λY=>?_);refine RT ?_;refine AN ?_;rw[decide_eq_true (List.ext_getElem hb λj h1 h2=>he j h1 (by omega))]
abbrev stS(k:StK)(l:List (Int×List Int)):List AB:=[(k.X,.row 314 3 [.agg [.sl k.V 0 l.length,.sl k.R 0 l.length,.mp k.M]]),(k.V,.row 22 1 (l.map λe=>AQ false e.2)),(k.R,.row 3 1 (l.map λe=>iA e.1)),(k.M,.ob (MapF Tryz.prog 3 3 (ixG (AC l)) l.length))]
theorem MW{X V R M n m c:Nat}{l:List (Int×List Int)}{vs rs:List AV}{g:Int->Option Value}(h1:n=l.length)(h2:m=l.length)(h3:vs=l.map λe=>AQ false e.2)(h4:rs=l.map λe=>iA e.1)(h5:g=ixG (AC l))(h6:c=l.length):
  [(X,AO.row 314 3 [.agg [.sl V 0 n,.sl R 0 m,.mp M]]),(V,.row 22 1 vs),(R,.row 3 1 rs),(M,.ob (MapF Tryz.prog 3 3 g c))]=stS ⟨X,V,R,M⟩ l:=by
 subst h1 h2 h3 h4 h5 h6;rfl
theorem Q8:Spec Tryz.prog 150 [] [] λr S'=>∃k:StK,r= .ptr k.X 0 0/\S'=stS k []:=by
 refine Spec.of (nt:=4) (res:=[.tmp 0]) Tryz.func150 rfl (by kernel_rfl) rfl rfl rfl λSf=>?_
 refine RG ?_;(repeat first|refine WO ?_|refine Ai λX=>?_|refine Ay λY=>?_);refine NL ?_;refine FL ?_;refine RG ?_;(repeat first|(refine AOps.gN ?_;first|(refine D1 ?_;refine JC λM=>?_))|refine WO ?_|refine Ai λX=>?_|refine Ay λY=>?_);refine NL ?_;refine AWP.adoptIn (Y:=X) 22 1 .here (λV=>.cons (.agg (.cons (.base .nil) (.cons .same (.cons .same .nil)))) .nil) λV=>?_
 refine AWP.adoptIn (Y:=X) 3 1 (.next .here) (λV=>.cons (.agg (.cons .same (.cons (.base .nil) (.cons .same .nil)))) .nil) λR=>?_
 refine AWP.front M ?_;refine AWP.front R ?_;refine AWP.front V ?_;refine AWP.front X ?_;refine RT ?_;exact AS [.ptr X 0 0] (stS ⟨X,V,R,M⟩ []) ⟨⟨X,V,R,M⟩,rfl,rfl⟩
theorem P0(k:StK)(l:List (Int×List Int))(hl:ColOK l)(n:Int)(hn:I64 n)(v:List Int)(hg:CK l n=some v):Spec Tryz.prog 156 [.ptr k.X 0 0,iA n] (stS k l) λr S'=>r= .tup [AQ false v,bA true]/\S'=stS k l:=by
 have hlen:=hl.len;have hk:n∈AC l:=Classical.byContradiction λh=>by rw[DF h]at hg;cases hg
 obtain⟨u,hv⟩:=Dw hk;have hi:=Dv hk;have hg2:CK l n=some u:=by unfold CK;rw[hv];rfl
 rw[hg]at hg2;injection hg2 with hg2
 subst hg2;have hat:(l.map λe=>AQ false e.2)[(AC l).idxOf n]?=some (AQ false v):=by rw[List.getElem?_map,hv];rfl
 have hix:=CW hk;obtain⟨i,hi2⟩:∃i,(AC l).idxOf n=i:=⟨_,rfl⟩;rw[hi2]at hi hat hix;have h1:(ixG (AC l) n).getD (.int .i64 0)= .int .i64 (i:Nat):=by rw[hix];rfl
 have h2:(ixG (AC l) n).isSome=true:=by rw[hix];rfl
 refine Spec.of (nt:=28) (res:=[.tmp 4,.tmp 5]) Tryz.func156 rfl (by kernel_rfl) rfl rfl rfl λSf=>?_
 refine RG ?_;(repeat first|refine WO ?_|refine Ai λX=>?_|refine Ay λY=>?_);refine NL ?_;refine FL ?_;refine RG ?_;(repeat first|(refine AOps.gN ?_;first|refine AOps.go (h:=DP _ _ h1 h2 hn rfl rfl (by exact At.f)) (k:=?_))|refine WO ?_|refine Ai λX=>?_|refine Ay λY=>?_);refine NL ?_;refine FL ?_;refine RG ?_;(repeat first|refine WO ?_|refine Ai λX=>?_|refine Ay λY=>?_);refine NL ?_;refine FL ?_;refine AE rfl rfl ?_;refine FL ?_;refine RG ?_;(repeat first|(refine AOps.gN ?_;first|refine AOps.go (h:=W.idx rfl rfl (by exact At.f) rfl (by omega) (Nat.zero_add _)) (k:=?_))|refine WO ?_|refine Ai λX=>?_|refine Ay λY=>?_);refine NL ?_;refine RT ?_;exact AS [AQ false v,bA true] (stS k l) ⟨rfl,rfl⟩
theorem Lx(k:StK)(l:List (Int×List Int))(hl:ColOK l)(n:Int)(v:List Int)(hn:0<=n/\n<256):Spec Tryz.prog 153 [.ptr k.X 0 0,iA n,AQ false v] (stS k l) λr S'=>∃q:Nat×Nat,r=iA 0/\S'=stS ⟨k.X,q.1,q.2,k.M⟩ (BH l n v):=by
 have hlen:=hl.len;have hn1:decide (n<0)=false:=decide_eq_false (by omega);have hn2:decide (n>=256)=false:=decide_eq_false (by omega);have hI: -9223372036854775808<=n/\n<=9223372036854775807:=by omega
 by_cases hk:n∈AC l
 ·obtain⟨u,hu⟩:=Dw hk
  have hi:=Dv hk;rw[Dh hk];have hix:=CW hk;have hke:=Dp (v:=v) hk;rw[Dh hk]at hke;obtain⟨i,hi2⟩:∃i,(AC l).idxOf n=i:=⟨_,rfl⟩;rw[hi2]at hi hu hix hke⊢;have h1:(ixG (AC l) n).getD (.int .i64 0)= .int .i64 (i:Nat):=by rw[hix];rfl
  have h2:(ixG (AC l) n).isSome=true:=by rw[hix];rfl
  have hat:(l.map λe=>AQ false e.2)[i]?=some (AQ false u):=by rw[List.getElem?_map,hu];rfl
  have hset:(l.map λe=>AQ false e.2).set i (AQ false v)=(l.set i (n,v)).map λe=>AQ false e.2:=by rw[List.map_set]
  have hrow:(l.map λe=>iA e.1)=(l.set i (n,v)).map λe=>iA e.1:=by
   have:=congrArg (List.map iA) hke;rw[AC,AC,List.map_map,List.map_map]at this;exact this.symm
  refine Spec.of (nt:=62) (res:=[.tmp 6]) Tryz.func153 rfl (by kernel_rfl) rfl rfl rfl λSf=>?_
  refine RG ?_;(repeat first|refine WO ?_|refine Ai λX=>?_|refine Ay λY=>?_);refine NL ?_;refine FL ?_;refine RG ?_;(repeat first|refine WO ?_|refine Ai λX=>?_|refine Ay λY=>?_);refine NL ?_;refine FL ?_;refine AE rfl hn2 ?_;refine FL ?_;refine RG ?_;(repeat first|(refine AOps.gN ?_;first|refine AOps.go (h:=DP _ _ h1 h2 hI rfl rfl (by exact At.f)) (k:=?_))|refine WO ?_|refine Ai λX=>?_|refine Ay λY=>?_);refine NL ?_;refine FL ?_;refine RG ?_;(repeat first|refine WO ?_|refine Ai λX=>?_|refine Ay λY=>?_);refine NL ?_;refine FL ?_;refine AR rfl rfl ?_;refine FL ?_;refine RG ?_;(repeat first|(refine AOps.gN ?_;first|refine AOps.go (h:=W.idx rfl rfl (by exact At.f) rfl (by omega) (Nat.zero_add _)) (k:=?_))|refine WO ?_|refine Ai λX=>?_|refine Ay λY=>?_);refine NL ?_;refine FL ?_;refine RG ?_;(repeat first|refine WO ?_|refine Ai λX=>?_|refine Ay λY=>?_);refine NL ?_;refine RT ?_;exact AS [iA 0] _ ⟨(k.V,k.R),rfl,MW (n:=l.length) (m:=l.length) (c:=l.length) (by simp) (by simp) hset hrow (by rw[hke]) (by simp)⟩
 ·rw[CM hk]
  have hix:=EZ hk;have h1:(ixG (AC l) n).getD (.int .i64 0)= .int .i64 0:=by rw[hix];rfl
  have h2:(ixG (AC l) n).isSome=false:=by rw[hix];rfl
  have hkl:(AC l).length=l.length:=List.length_map _
  have hkf:DT (ixG (AC l)) n (.int .i64 (l.length:Nat))=ixG (AC (l++[(n,v)])):=by
   rw[<-hkl,Nq hk,AC,AC,List.map_append];rfl
  have hsz:(if(ixG (AC l) n).isSome then l.length else l.length+1)=l.length+1:=by rw[h2];rfl
  have hmx:l.length<maxLen:=by unfold maxLen;omega
  refine Spec.of (nt:=62) (res:=[.tmp 6]) Tryz.func153 rfl (by kernel_rfl) rfl rfl rfl λSf=>?_
  refine RG ?_;(repeat first|refine WO ?_|refine Ai λX=>?_|refine Ay λY=>?_);refine NL ?_;refine FL ?_;refine RG ?_;(repeat first|refine WO ?_|refine Ai λX=>?_|refine Ay λY=>?_);refine NL ?_;refine FL ?_;refine AE rfl hn2 ?_;refine FL ?_;refine RG ?_;(repeat first|(refine AOps.gN ?_;first|refine AOps.go (h:=DP _ _ h1 h2 hI rfl rfl (by exact At.f)) (k:=?_))|refine WO ?_|refine Ai λX=>?_|refine Ay λY=>?_);refine NL ?_;refine FL ?_;refine RG ?_;(repeat first|refine WO ?_|refine Ai λX=>?_|refine Ay λY=>?_);refine NL ?_;refine FL ?_;refine AE rfl rfl ?_;refine FL ?_;refine RU ?_;(repeat first|(refine RGo.gN ?_;first|refine RGo.goS (h:=W.mapUpd (PlainV.int (by kernel_rfl) (CQ (by omega))) hI hmx rfl rfl rfl (by exact At.f)) (k:=?_))|(refine RGo.gQ ?_;first|refine RGo.goS (h:=W.mapUpd (PlainV.int (by kernel_rfl) (CQ (by omega))) hI hmx rfl rfl rfl (by exact At.f)) (k:=?_))|refine RK ?_|refine RGo.nil (by kernel_rfl) ?_);rw[hkf,hsz];refine FL ?_;refine AWP.rs λA=>AWP.rs λB=>?_
  refine RU ?_;(repeat first|(refine RGo.gN ?_;first|(refine RGo.g_lit ?_;refine RGo.goL (iA n) ?_)|(refine RGo.g_lit ?_;refine RGo.goL (AQ false v) ?_))|(refine RGo.gQ ?_;first|(refine RGo.g_lit ?_;refine RGo.goL (iA n) ?_)|(refine RGo.g_lit ?_;refine RGo.goL (AQ false v) ?_))|refine RK ?_|refine RGo.nil (by kernel_rfl) ?_);refine FL ?_;refine RG ?_;(repeat first|refine WO ?_|refine Ai λX=>?_|refine Ay λY=>?_);refine NL ?_;refine AWP.front k.M ?_;refine AWP.front B ?_;refine AWP.front A ?_;refine AWP.front k.X ?_;refine RT ?_;exact AS [iA 0] _ ⟨(A,B),rfl,MW (n:=l.length+1) (m:=l.length+1) (c:=l.length+1) (by simp) (by simp) (by rw[List.map_append]) (by rw[List.map_append]) rfl (by simp)⟩
def Bx:List Int->List Int->Int
 |[],[]=>0
 |[],_::_=>-1
 |_::_,[]=>1
 |x::a,y::b=>if By x y≠0 then By x y else Bx a b
theorem Rg{a b:List Int}{i:Nat}(ha:i<a.length)(hb:i<b.length):Bx (a.drop i) (b.drop i)=if By a[i] b[i]≠0 then By a[i] b[i]else Bx (a.drop (i+1)) (b.drop (i+1)):=by
 rw[List.drop_eq_getElem_cons ha,List.drop_eq_getElem_cons hb,Bx]
theorem L0(a b:List Int)(ha:a.length<=1099511627776):PS Tryz.prog 148 [AQ false a,AQ false b] (iA (Bx a b)):=by
 have ham:(a.map iA).length=a.length:=List.length_map _;have hbm:(b.map iA).length=b.length:=List.length_map _;refine Spec.of (nt:=36) (res:=[.tmp 4]) Tryz.func148 rfl (by kernel_rfl) rfl rfl rfl λSf=>?_
 (repeat first|refine WK ?_|refine Ai λX=>?_|refine Ay λY=>?_);refine BP (λ(i:Nat)=>⟨[(0,AQ false a),(1,AQ false b),(9,AQ false a),(10,iA (a.map iA).length),(11,iA i)],Sf⟩) (λi=>i<=a.length/\i<=b.length/\Bx a b=Bx (a.drop i) (b.drop i)) (λi=>a.length-i) 0 ⟨by omega,by omega,rfl⟩ ?_;rintro i ⟨hi,hib,hc⟩;(repeat first|refine WK ?_|refine Ai λX=>?_|refine Ay λY=>?_);refine AWP.cond rfl (λh=>?_) (λh=>?_)
 ·have h:i<a.length:=by rw[decide_eq_true_eq,ham]at h;omega
  have hat:(a.map iA)[i]?=some (iA a[i]):=Ah _ h;obtain⟨x,hx⟩:∃x,a[i]=x:=⟨_,rfl⟩;rw[hx]at hat;have hil:i<(a.map iA).length:=by omega
  (repeat first|refine WK ?_|refine Ai λX=>?_|refine Ay λY=>?_);refine AWP.cond rfl (λh2=>?_) (λh2=>?_)
  ·have h2:i=b.length:=by rw[decide_eq_true_eq,hbm]at h2;omega
   (repeat first|refine WK ?_|refine Ai λX=>?_|refine Ay λY=>?_);refine RT ?_;refine AN ?_;have hbn:b.drop i=[]:=List.drop_eq_nil_of_le (by omega);rw[hc,hbn,List.drop_eq_getElem_cons h];rfl
  ·have h2:i<b.length:=by rw[decide_eq_false_iff_not,hbm]at h2;omega
   have hat2:(b.map iA)[i]?=some (iA b[i]):=Ah _ h2;have hil2:i<(b.map iA).length:=by omega
   rw[Rg h h2]at hc;obtain⟨y,hy⟩:∃y,b[i]=y:=⟨_,rfl⟩;rw[hx,hy]at hc;rw[hy]at hat2;have hcm:=DK x y;obtain⟨z,hz⟩:∃z,By x y=z:=⟨_,rfl⟩;rw[hz]at hcm hc;(repeat first|(refine AOps.gN ?_;first|(refine AOps.g_callf ?_;first|refine AOps.c2 (h:=(hcm ..)) (k:=?_)))|refine WK ?_|refine Ai λX=>?_|refine Ay λY=>?_);refine AWP.cond rfl (λh3=>?_) (λh3=>?_)
   ·have h3:z≠0:=by simpa using h3
    (repeat first|refine WK ?_|refine Ai λX=>?_|refine Ay λY=>?_);refine RT ?_;refine AN ?_;rw[hc,if_pos h3]
   ·have h3:z=0:=by simpa using h3
    rw[if_neg (by simp[h3])]at hc;(repeat first|refine WK ?_|refine Ai λX=>?_|refine Ay λY=>?_);exact A7 (i+1) ⟨by omega,by omega,hc⟩ (by omega)
 ·have h:i=a.length:=by rw[decide_eq_false_iff_not,ham]at h;omega
  subst h;rw[List.drop_length]at hc;(repeat first|refine WK ?_|refine Ai λX=>?_|refine Ay λY=>?_);refine AWP.cond rfl (λh2=>?_) (λh2=>?_)
  ·have h2:a.length<b.length:=by rw[decide_eq_true_eq,ham,hbm]at h2;omega
   (repeat first|refine WK ?_|refine Ai λX=>?_|refine Ay λY=>?_);refine RT ?_;refine AN ?_;rw[hc,List.drop_eq_getElem_cons h2];rfl
  ·have h2:a.length=b.length:=by rw[decide_eq_false_iff_not,ham,hbm]at h2;omega
   (repeat first|refine WK ?_|refine Ai λX=>?_|refine Ay λY=>?_);refine RT ?_;refine AN ?_;rw[hc,List.drop_eq_nil_of_le (by omega)];rfl
def DZ{α:Type}(f:α->AV)(z:AV)(l:List α)(i:Nat):List AV:=(l.take i).map f++List.replicate (l.length-i) z
theorem Jw{α:Type}(f:α->AV)(z:AV)(l:List α){i:Nat}(h:i<=l.length):(DZ f z l i).length=l.length:=by
 unfold DZ;rw[List.length_append,List.length_map,List.length_take,List.length_replicate];omega
theorem Ik{α:Type}(f:α->AV)(z:AV)(l:List α):DZ f z l 0=List.replicate l.length z:=by unfold DZ;simp
theorem Jy{α:Type}(f:α->AV)(z:AV)(l:List α):DZ f z l l.length=l.map f:=by unfold DZ;simp
theorem Lq{α:Type}(f:α->AV)(z:AV)(l:List α){i:Nat}(h:i<l.length):(DZ f z l i)[i]?=some z:=by
 unfold DZ;have hl:((l.take i).map f).length=i:=by rw[List.length_map,List.length_take];omega
 rw[List.getElem?_append_right (by omega),hl,Nat.sub_self,List.getElem?_replicate,if_pos (by omega)]
theorem Jv{α:Type}(f:α->AV)(z:AV)(l:List α){i:Nat}(h:i<l.length):(DZ f z l i).set i (f l[i])=DZ f z l (i+1):=by
 unfold DZ;have hl:((l.take i).map f).length=i:=by rw[List.length_map,List.length_take];omega
 rw[List.set_append_right _ _ (by omega),hl,Nat.sub_self,show l.length-i=(l.length-(i+1))+1 by omega,List.replicate_succ,List.set_cons_zero,List.take_succ_eq_append_getElem h,List.map_append,List.append_assoc];rfl
theorem Ms(l:List Comp)(hl:l.length<=1099511627776):PS Tryz.prog 145 [Aj false false l] (AQ true (l.map (·.kind))):=by
 have hlm:(l.map (AD false)).length=l.length:=List.length_map _;refine Spec.of (nt:=23) (res:=[.tmp 2]) Tryz.func145 rfl (by kernel_rfl) rfl rfl rfl λSf=>?_
 refine RG ?_;(repeat first|refine WO ?_|refine Ai λX=>?_|refine Ay λY=>?_);refine NL ?_;refine FL ?_;refine RG ?_;(repeat first|(refine AOps.gN ?_;first|(refine DW ?_;refine E3 (iA 0) λK=>?_))|refine WO ?_|refine Ai λK=>?_|refine Ay λY=>?_);refine NL ?_;rw[hlm,<-Ik (λc:Comp=>iA c.kind)];refine FL ?_;refine RG ?_;(repeat first|refine WO ?_|refine Ai λX=>?_|refine Ay λY=>?_);refine NL ?_;refine FL ?_;refine BP (λ(i:Nat)=>⟨[(3,.sl K 0 l.length),(9,Aj false false l),(10,iA (l.map (AD false)).length),(11,iA i)],(K,.row 3 1 (DZ (λc:Comp=>iA c.kind) (iA 0) l i))::Sf⟩) (λi=>i<=l.length) (λi=>l.length-i) 0 (by omega) ?_;rintro i hi;have hfl:=Jw (λc:Comp=>iA c.kind) (iA 0) l hi;refine RG ?_;(repeat first|refine WO ?_|refine Ai λX=>?_|refine Ay λY=>?_);refine NL ?_;refine FL ?_;refine AWP.cond rfl (λh=>?_) (λh=>?_)
 ·have h:i<l.length:=by rw[decide_eq_true_eq,hlm]at h;omega
  have hat:(l.map (AD false))[i]?=some (AD false l[i]):=Ah _ h;have hil:i<(l.map (AD false)).length:=by omega
  have hfa:=Lq (λc:Comp=>iA c.kind) (iA 0) l h;have hfs:=Jv (λc:Comp=>iA c.kind) (iA 0) l h;obtain⟨⟨ck,cv⟩,hc⟩:∃c,l[i]=c:=⟨_,rfl⟩;rw[hc]at hat hfs;refine FL ?_;refine RG ?_;(repeat first|refine WO ?_|refine Ai λC=>?_|refine Ay λY=>?_);refine NL ?_;refine FL ?_;refine RG ?_;(repeat first|(refine AOps.gN ?_;first|refine AOps.go (h:=W.idx rfl rfl (by exact At.f) rfl (by omega) (Nat.zero_add _)) (k:=?_))|refine WO ?_|refine Ai λX=>?_|refine Ay λY=>?_);refine NL ?_;rw[hfs];refine FL ?_;refine RG ?_;(repeat first|refine WO ?_|refine Ai λX=>?_|refine Ay λY=>?_);refine NL ?_;exact A7 (i+1) (by omega)
 ·have h:i=l.length:=by rw[decide_eq_false_iff_not,hlm]at h;omega
  subst h;rw[Jy];refine FL ?_;refine RG ?_;(repeat first|refine WO ?_|refine Ai λX=>?_|refine Ay λY=>?_);refine NL ?_;refine RT ?_;exact⟨[.sl K 0 l.length],[AQ true (l.map (·.kind))],_,[],.cons (.tmp rfl) rfl .nil,.cons (.cell (by unfold AQ;rw[show(l.map (·.kind)).map iA=l.map (λc:Comp=>iA c.kind)from List.map_map];exact .sl (p:=0) .here (by simp))) .nil,by exact Sub.f,rfl,rfl⟩
abbrev ptrs{α:Type}(px:α->Nat)(l:List α):List AV:=l.map λx=>.ptr (px x) 0 0
theorem Md{α:Type}(Tb:Nat)(l:List α)(px:α->Nat)(R:List AB)(ks:List Int)(f:FuncId)(g:α->Int)(hl:l.length<=4611686018427387904)(hf:∀x∈l,Spec Tryz.prog f [.ptr (px x) 0 0,AQ false ks] R λr S'=>r=iA (g x)/\S'=R):
  Spec Tryz.prog 146 [.sl Tb 0 l.length,AQ false ks,.fn f []] ((Tb,.row 145 1 (ptrs px l))::R) λr S'=>∃b,Found g l b/\r= .tup [iA b.1,bA b.2]/\S'=(Tb,.row 145 1 (ptrs px l))::R:=by
 refine Spec.of (nt:=49) (res:=[.tmp 6,.tmp 7]) Tryz.func146 rfl (by kernel_rfl) rfl rfl rfl λSf=>?_
 have hlm:(ptrs px l).length=l.length:=List.length_map _;(repeat first|refine WK ?_|refine Ai λX=>?_|refine Ay λY=>?_);refine BI (λ(i j:Nat)=>⟨[(0,.sl Tb 0 l.length),(1,AQ false ks),(2,.fn f []),(8,iA l.length),(9,iA i),(10,iA j)],(Tb,.row 145 1 (ptrs px l))::(R++Sf)⟩) (λi j=>i<=j/\j<=l.length/\(Fa g l->Spl g l i j)) (λi j=>j-i) 0 l.length ⟨Nat.zero_le _,by omega,λ_=>⟨λk x h=>absurd h (by omega),λk x h hx=>by have:=(List.getElem?_eq_some_iff.1 hx).1;omega⟩⟩ ?_;rintro i j ⟨hij,hjn,hmono⟩;(repeat first|refine WK ?_|refine Ai λX=>?_|refine Ay λY=>?_);refine AWP.cond rfl (λhc=>?_) (λhc=>?_)
 ·have h:i<j:=by rw[decide_eq_true_eq]at hc;omega
  have hmid:((i:Int)+j).fdiv (2^1)=(((i+j)/2:Nat):Int):=by
   rw[Int.fdiv_eq_ediv_of_nonneg _ (by decide)];omega
  have hw1:IntKind.u64.wrap ((i:Int)+j)=i+j:=by rw[IntKind.wrap_u64];omega
  have hw2:IntKind.i64.wrap (((i:Int)+j).fdiv (2^1))=((i:Int)+j).fdiv (2^1):=by
   rw[IntKind.wrap_i64,hmid];omega
  refine RG ?_;(repeat first|(refine AOps.gN ?_;first|refine AOps.p (W.conv .i64 .u64 (by kernel_rfl) (by kernel_rfl) rfl hw1) rfl ?_|refine AOps.p (W.shr 1 rfl rfl rfl (by decide)) rfl ?_|refine AOps.p (W.conv .u64 .i64 (by kernel_rfl) (by kernel_rfl) rfl hw2) rfl ?_)|refine WO ?_|refine Ai λX=>?_|refine Ay λY=>?_);refine NL ?_;rw[hmid];obtain⟨m,hm⟩:∃m,(i+j)/2=m:=⟨_,rfl⟩;rw[hm];have hml:m<l.length:=by omega
  obtain⟨y,hy⟩:∃y,l[m]=y:=⟨_,rfl⟩;have hya:l[m]?=some y:=by rw[List.getElem?_eq_getElem hml,hy]
  have hat:(ptrs px l)[m]?=some (.ptr (px y) 0 0):=by rw[List.getElem?_map,hya];rfl
  have hfy:=hf y (by rw[<-hy];exact List.getElem_mem hml);refine RG ?_;(repeat first|(refine AOps.gN ?_;first|refine AOps.go (h:=W.idx rfl rfl (by exact At.f) rfl (by omega) (Nat.zero_add _)) (k:=?_)|refine MK [(Tb,_)] (h:=hfy) (k:=?_))|refine WO ?_|refine Ai λX=>?_|refine Ay λY=>?_);refine NL ?_;refine AWP.cond rfl (λhe=>?_) (λhe=>?_)
  ·have he:g y<0:=by simpa using he
   (repeat first|refine WK ?_|refine Ai λX=>?_|refine Ay λY=>?_);refine Ak (m+1) j ⟨by omega,hjn,λhM=>(hmono hM).lo hM hya he⟩
  ·have he:¬g y<0:=by simpa using he
   (repeat first|refine WK ?_|refine Ai λX=>?_|refine Ay λY=>?_);refine Ak i m ⟨by omega,by omega,λhM=>(hmono hM).hi hM hya he⟩
 ·have h:i=j:=by rw[decide_eq_false_iff_not]at hc;omega
  subst h;by_cases hin:i<l.length
  ·have hil:i<l.length:=by omega
   have g1:decide ((i:Int)<l.length)=true:=decide_eq_true (by omega);obtain⟨y,hy⟩:∃y,l[i]=y:=⟨_,rfl⟩;have hya:l[i]?=some y:=by rw[List.getElem?_eq_getElem hil,hy]
   have hat:(ptrs px l)[i]?=some (.ptr (px y) 0 0):=by rw[List.getElem?_map,hya];rfl
   have hfy:=hf y (by rw[<-hy];exact List.getElem_mem hil);(repeat first|(refine AOps.gN ?_;first|refine AOps.go (h:=W.idx rfl rfl (by exact At.f) rfl (by omega) (Nat.zero_add _)) (k:=?_)|refine MK [(Tb,_)] (h:=hfy) (k:=?_))|refine WK ?_|refine Ai λX=>?_|refine Ay λY=>?_);refine RT ?_;exact AS [iA i,bA (decide (g y=0))] ((Tb,.row 145 1 (ptrs px l))::R) ⟨(i,decide (g y=0)),⟨by simp;omega,by simp[hya],hmono⟩,rfl,rfl⟩
  ·have g1:decide ((i:Int)<l.length)=false:=decide_eq_false (by omega)
   (repeat first|refine WK ?_|refine Ai λX=>?_|refine Ay λY=>?_);refine RT ?_;exact AS [iA i,bA false] ((Tb,.row 145 1 (ptrs px l))::R) ⟨(i,false),⟨by simp;omega,by simp[List.getElem?_eq_none (show l.length<=i by omega)],hmono⟩,rfl,rfl⟩
theorem Oe{α:Type}(X:Nat)(l:List α)(px:α->Nat)(R:List AB)(f:FuncId)(cap:List AV)(p:α->Bool)(hs:Bm cap=true)(hl:l.length<=4611686018427387904)(hf:∀x∈l,Spec Tryz.prog f (.ptr (px x) 0 0::cap) R λr S'=>r=bA (p x)/\S'=R):Spec Tryz.prog 303 [.sl X 0 l.length,.fn f cap] ((X,.row 145 1 (ptrs px l))::R) λr S'=>r=iA (Ea l p)/\S'=(X,.row 145 1 (ptrs px l))::R:=by
 refine Spec.of (nt:=19) (res:=[.tmp 4]) Tryz.func303 rfl (by kernel_rfl) rfl rfl rfl λSf=>?_
 (repeat first|refine WK ?_|refine Ai λX=>?_|refine Ay λY=>?_);refine BP (λi:Nat=>⟨[(0,.sl X 0 l.length),(1,.fn f cap),(7,iA l.length),(8,iA i)],(X,.row 145 1 (ptrs px l))::(R++Sf)⟩) (λi=>i<=l.length/\∀j (h:j<l.length),j<i->p l[j]=false) (λi=>l.length-i) 0 ⟨Nat.zero_le _,λj h hj=>absurd hj (by omega)⟩ ?_;rintro i ⟨hi,he⟩;(repeat first|refine WK ?_|refine Ai λX=>?_|refine Ay λY=>?_);refine AWP.cond rfl (λhc=>?_) (λhc=>?_)
 ·have h:i<l.length:=by simpa using hc
  have hfx:=hf _ (List.getElem_mem h);obtain⟨y,hy⟩:∃y,l[i]=y:=⟨_,rfl⟩;have hat:(ptrs px l)[i]?=some (.ptr (px y) 0 0):=by rw[List.getElem?_map,List.getElem?_eq_getElem h,hy];rfl
  rw[hy]at hfx;(repeat first|(refine AOps.gN ?_;first|refine AOps.go (h:=W.idx rfl rfl (by exact At.f) rfl (by omega) (Nat.zero_add _)) (k:=?_)|refine ML [(X,_)] (h:=hfx) (k:=?_))|refine WK ?_|refine Ai λX=>?_|refine Ay λY=>?_);refine AWP.cond rfl (λhd=>?_) (λhd=>?_)
  ·(repeat first|refine WK ?_|refine Ai λX=>?_|refine Ay λY=>?_)
   rw[Gm h (by rw[hy];exact hd) λj hj=>he j (by omega) hj];refine RT ?_;exact AS [iA i] ((X,.row 145 1 (ptrs px l))::R) ⟨rfl,rfl⟩
  ·(repeat first|refine WK ?_|refine Ai λX=>?_|refine Ay λY=>?_)
   refine A7 (i+1) ⟨h,λj h1 h2=>?_⟩;by_cases e:j=i
   ·subst e;rw[hy];exact hd
   ·exact he j h1 (by omega)
 ·have h:¬i<l.length:=by simpa using hc
  (repeat first|refine WK ?_|refine Ai λX=>?_|refine Ay λY=>?_);rw[Gn λj hj=>he j hj (by omega)];refine RT ?_;exact AS [iA (-1)] ((X,.row 145 1 (ptrs px l))::R) ⟨rfl,rfl⟩
theorem ND{α:Type}(X:Nat)(l:List α)(px:α->Nat)(R:List AB)(f:FuncId)(cap:List AV)(p:α->Bool)(hs:Bm cap=true)(hl:l.length<=4611686018427387903)(hf:∀x∈l,Spec Tryz.prog f (.ptr (px x) 0 0::cap) R λr S'=>r=bA (p x)/\S'=R):Spec Tryz.prog 300 [.sl X 0 l.length,.fn f cap] ((X,.row 145 1 (ptrs px l))::R) λr S'=>r= .lst true 145 1 (ptrs px (l.filter λx=>!p x))/\S'=R:=by
 refine Spec.of (nt:=42) (res:=[.tmp 4]) Tryz.func300 rfl (by kernel_rfl) rfl rfl rfl λSf=>?_
 have h0:=Oe X l px R f cap p hs (by omega) hf;have hr:=Mx l p;obtain⟨v,hv⟩:∃v,Ea l p=v:=⟨_,rfl⟩;rw[hv]at h0 hr;(repeat first|(refine AOps.gN ?_;first|refine DS [] (h:=h0) (k:=?_))|refine WK ?_|refine Ai λX=>?_|refine Ay λY=>?_);refine AWP.cond rfl (λhc=>?_) (λhc=>?_)
 ·have hc:v= -1:=by simpa using hc
  have hall:(l.filter λx=>!p x)=l:=by
   rw[List.filter_eq_self];intro x hx
   have h1:l.findIdx? p=none:=by
    unfold Ea at hv;split at hv
    ·omega
    ·assumption
   rw[List.findIdx?_eq_none_iff]at h1;simp[h1 x hx]
  rw[hall];(repeat first|refine WK ?_|refine Ai λX=>?_|refine Ay λY=>?_);refine RT ?_;exact⟨[.sl X 0 l.length],[.lst true 145 1 (ptrs px l)],_,R,.cons (.tmp rfl) rfl .nil,.cons (.cell (.sl (p:=0) .here (by simp))) .nil,by exact Sub.f,rfl,rfl⟩
 ·have hc:v≠-1:=by simpa using hc
  obtain⟨i0,hi0⟩:∃i0:Nat,v=i0:=⟨v.toNat,by omega⟩;subst hi0
  have hfi:l.findIdx? p=some i0:=by
   unfold Ea at hv;split at hv
   ·rename_i i hi;rw[hi];congr 1;omega
   ·omega
  obtain⟨hil,hpi,hmin⟩:=List.findIdx?_eq_some_iff_getElem.1 hfi
  have ht0:(l.take (i0+1)).filter (λx=>!p x)=l.take i0:=by
   rw[List.take_succ_eq_append_getElem hil,List.filter_append];rw[show([l[i0]].filter λx=>!p x)=[] by simp[hpi],List.append_nil,List.filter_eq_self];intro x hx;obtain⟨j,hj,rfl⟩:=List.mem_take_iff_getElem.1 hx;have:=hmin j (by omega);simp at this⊢;exact this
  (repeat first|refine WK ?_|refine Ai λX=>?_|refine Ay λY=>?_);refine DR (λ(i j:Nat) (M:List AV)=>⟨[(0,.sl X 0 l.length),(1,.fn f cap),(5,iA i),(6,iA j)],(X,.row 145 1 M)::(R++Sf)⟩) (λi j M=>i<j/\j<=l.length/\∃K:List α,M=ptrs px K/\K.length=l.length/\K.take i=((l.take j).filter λx=>!p x)/\K.drop j=l.drop j) (λi j _=>l.length-j) i0 (i0+1) (ptrs px l) ⟨by omega,hil,l,rfl,rfl,ht0.symm,rfl⟩ ?_;rintro i j M ⟨hij,hj,K,rfl,hM,h1,h2⟩;(repeat first|refine WK ?_|refine Ai λX=>?_|refine Ay λY=>?_);refine AWP.cond rfl (λhd=>?_) (λhd=>?_)
  ·have h:j<l.length:=by simpa using hd
   have hKj:K[j]?=some l[j]:=by
    have:=congrArg (λz=>z[0]?) h2;simpa[h]using this
   have hat:(ptrs px K)[j]?=some (.ptr (px l[j]) 0 0):=by rw[List.getElem?_map,hKj];rfl
   have hKi:i<K.length:=by omega
   obtain⟨b,hb⟩:∃b,p l[j]=b:=⟨_,rfl⟩;have hfj:=hf _ (List.getElem_mem h);rw[hb]at hfj
   have htk:(l.take (j+1)).filter (λx=>!p x)=(l.take j).filter (λx=>!p x)++if b then[]else[l[j]]:=by
    rw[List.take_succ_eq_append_getElem h,List.filter_append]
    congr 1
    cases b<;>simp[hb]
   obtain⟨y,hy⟩:∃y,l[j]=y:=⟨_,rfl⟩;rw[hy]at hat hfj;(repeat first|(refine AOps.gN ?_;first|refine AOps.go (h:=W.idx rfl rfl (by exact At.f) rfl (by omega) (Nat.zero_add _)) (k:=?_)|refine ML [(X,_)] (h:=hfj) (k:=?_))|refine WK ?_|refine Ai λX=>?_|refine Ay λY=>?_);cases b
   ·refine AR rfl rfl ?_
    (repeat first|refine WK ?_|refine Ai λX=>?_|refine Ay λY=>?_);refine B6 (i+1) (j+1) ((ptrs px K).set i (.ptr (px y) 0 0)) ⟨by omega,h,K.set i y,by rw[ptrs,ptrs,List.map_set],by simpa using hM,?_,?_⟩
    ·rw[htk,<-h1,List.take_add_one,List.take_set,List.set_eq_of_length_le (by rw[List.length_take];omega),List.getElem?_set_self hKi]
     simp[hy]
    ·rw[List.drop_set_of_lt (by omega),<-List.drop_drop,h2,List.drop_drop]
   ·refine AE rfl rfl ?_
    (repeat first|refine WK ?_|refine Ai λX=>?_|refine Ay λY=>?_);refine B6 i (j+1) _ ⟨by omega,h,K,rfl,hM,?_,?_⟩
    ·rw[h1,htk];simp
    ·rw[<-List.drop_drop,h2,List.drop_drop]
  ·have h:j=l.length:=by rw[decide_eq_false_iff_not]at hd;omega
   subst h;have h1':K.take i=l.filter λx=>!p x:=by rw[h1,List.take_length]
   have hKl:(ptrs px K).length=l.length:=by rw[List.length_map,hM]
   have hki:∀A B,(List.take (0+i) (ptrs px K)++A++B).take i=ptrs px (l.filter λx=>!p x):=λA B=>by
    rw[Nat.zero_add,List.append_assoc,List.take_append_of_le_length (by rw[List.length_take];omega),List.take_take,Nat.min_self,ptrs,<-List.map_take,h1']
   have hfl:i=(ptrs px (l.filter λx=>!p x)).length:=by
    rw[<-h1',List.length_map,List.length_take];omega
   (repeat first|(refine AOps.gN ?_;first|refine AOps.s (W.slice_lo rfl rfl (by exact At.f) rfl (by omega)) rfl ?_|refine AOps.s (W.clear rfl (by exact At.f) (by first|exact .inl rfl|exact .inr rfl) rfl (by omega)) rfl ?_|refine AOps.p (W.hi rfl rfl (by exact At.f) rfl (by omega)) rfl ?_)|refine WK ?_|refine Ai λX=>?_|refine Ay λY=>?_);refine AWP.shrink (X:=X) i ?_;rw[hki];refine RT ?_;exact⟨[.sl X 0 i],[.lst true 145 1 (ptrs px (l.filter λx=>!p x))],_,R,.cons (.tmp rfl) rfl .nil,.cons (.cell (.sl (p:=0) .here hfl)) .nil,by exact Sub.f,rfl,rfl⟩
structure Tab where
 X:Nat
 ks:List Int
 ek:StK
 es:List (Int×Ent)
 cs:List (StK×List (Int×List Int))
def BE(cs:List (StK×List (Int×List Int))):List AB:=cs.flatMap λc=>stS c.1 c.2
abbrev L5(cs:List (StK×List (Int×List Int))):AV:=.lst false 252 1 (cs.map λc=>.ptr c.1.X 0 0)
abbrev DC(t:Tab):AB:=(t.X,.row 151 3 [.agg [AQ false t.ks,.ptr t.ek.X 0 0,L5 t.cs]])
abbrev Db(t:Tab):List AB:=DC t::(stE t.ek t.es++BE t.cs)
theorem Cn(a b:List (StK×List (Int×List Int))):BE (a++b)=BE a++BE b:=List.flatMap_append
theorem Ch(c:StK×List (Int×List Int))(b:List (StK×List (Int×List Int))):BE (c::b)=stS c.1 c.2++BE b:=List.flatMap_cons
theorem EK{α:Type}{l:List α}{i:Nat}(h:i<l.length):∃l1 l2,l=l1++l[i]::l2/\l1.length=i:=⟨l.take i,l.drop (i+1),by rw[List.getElem_cons_drop,List.take_append_drop],by rw[List.length_take];omega⟩
def AJ(t:Tab)(n:Int):List Comp:=(t.ks.zip t.cs).map λq=>⟨q.1,(CK q.2.2 n).getD []⟩
structure TabOK(t:Tab):Prop where
 len:t.ks.length=t.cs.length
 ks:t.ks.length<=16
 es:ColOK t.es
 cs:∀c∈t.cs,ColOK c.2
 keys:∀c∈t.cs,∀n,n∈AC c.2↔n∈AC t.es
theorem Rm(t:Tab)(ks:List Int)(hl:t.ks.length<=1099511627776):Spec Tryz.prog 147 [.ptr t.X 0 0,AQ false ks] [DC t] λr S'=>r=iA (Bx t.ks ks)/\S'=[DC t]:=by
 have h1:=L0 t.ks ks hl;refine Spec.of (nt:=11) (res:=[.tmp 4]) Tryz.func147 rfl (by kernel_rfl) rfl rfl rfl λSf=>?_
 refine RG ?_;(repeat first|refine WO ?_|refine Ai λX=>?_|refine Ay λY=>?_);refine NL ?_;refine FL ?_;refine RG ?_;(repeat first|(refine AOps.gN ?_;first|(refine AOps.g_callf ?_;first|refine AOps.c2 (h:=(h1 ..)) (k:=?_)))|refine WO ?_|refine Ai λX=>?_|refine Ay λY=>?_);refine NL ?_;refine RT ?_;exact AS [iA (Bx t.ks ks)] [DC t] ⟨rfl,rfl⟩
abbrev Iq:AV:=.agg [iA 0,.prim (.slice none 0 0)]
theorem DE{t:Tab}{n:Int}{i:Nat}(h:i<(AJ t n).length)(h1:i<t.ks.length)(h2:i<t.cs.length):(AJ t n)[i]=⟨t.ks[i],(CK t.cs[i].2 n).getD []⟩:=by simp[AJ]
theorem Ly(t:Tab)(n:Int)(ht:TabOK t)(hn:I64 n)(hk:n∈AC t.es):Spec Tryz.prog 75 [.ptr t.X 0 0,iA n] (Db t) λr S'=>r= .lst true 42 2 ((AJ t n).map (AD false))/\S'=Db t:=by
 have hkm:(t.ks.map iA).length=t.ks.length:=List.length_map _;have hcm:(t.cs.map λc=>AV.ptr c.1.X 0 0).length=t.cs.length:=List.length_map _;have hlen:=ht.len;have h16:=ht.ks;have htl:(AJ t n).length=t.ks.length:=by unfold AJ;rw[List.length_map,List.length_zip];omega
 refine Spec.of (nt:=46) (res:=[.tmp 4]) Tryz.func75 rfl (by kernel_rfl) rfl rfl rfl λSf=>?_
 refine RG ?_;(repeat first|refine WO ?_|refine Ai λX=>?_|refine Ay λY=>?_);refine NL ?_;refine FL ?_;refine RG ?_;(repeat first|(refine AOps.gN ?_;first|(refine DW ?_;refine E3 (AV.agg [iA 0,.prim (.slice none 0 0)]) λK=>?_))|refine WO ?_|refine Ai λK=>?_|refine Ay λY=>?_);refine NL ?_;rw[hkm,<-htl,<-Ik (AD false)];refine FL ?_;refine RG ?_;(repeat first|refine WO ?_|refine Ai λX=>?_|refine Ay λY=>?_);refine NL ?_;refine FL ?_;refine BP (λ(i:Nat)=>⟨[(0,.ptr t.X 0 0),(1,iA n),(5,.sl K 0 (AJ t n).length),(19,AQ false t.ks),(20,iA (t.ks.map iA).length),(21,iA i)],(K,.row 42 2 (DZ (AD false) Iq (AJ t n) i))::(Db t++Sf)⟩) (λi=>i<=t.ks.length) (λi=>t.ks.length-i) 0 (by omega) ?_;rintro i hi;have hfl:=Jw (AD false) Iq (AJ t n) (i:=i) (by omega);refine RG ?_;(repeat first|refine WO ?_|refine Ai λX=>?_|refine Ay λY=>?_);refine NL ?_;refine FL ?_;refine AWP.cond rfl (λh=>?_) (λh=>?_)
 ·have h:i<t.ks.length:=by rw[decide_eq_true_eq,hkm]at h;omega
  have hc:i<t.cs.length:=by omega
  have hat:(t.ks.map iA)[i]?=some (iA t.ks[i]):=Ah _ h;have hil:i<(t.ks.map iA).length:=by omega
  have hti:i<(AJ t n).length:=by omega
  have hfa:=Lq (AD false) Iq (AJ t n) hti;have hfs:=Jv (AD false) Iq (AJ t n) hti;have hcat:(t.cs.map λc=>AV.ptr c.1.X 0 0)[i]?=some (.ptr t.cs[i].1.X 0 0):=Ah _ hc;have hcil:i<(t.cs.map λc=>AV.ptr c.1.X 0 0).length:=by omega
  have hcm:=List.getElem_mem hc;obtain⟨v,hv⟩:=Dq ((ht.keys _ hcm n).2 hk)
  have hel:(AJ t n)[i]=⟨t.ks[i],v⟩:=by
   rw[DE hti h hc,hv];rfl
  rw[hel]at hfs;have hget:=P0 t.cs[i].1 t.cs[i].2 (ht.cs _ hcm) n hn v hv;obtain⟨l1,l2,hsp,hl1⟩:=EK hc;obtain⟨c,hce⟩:∃c,t.cs[i]=c:=⟨_,rfl⟩;rw[hce]at hget hsp hcat;obtain⟨k,hke⟩:∃k,t.ks[i]=k:=⟨_,rfl⟩;rw[hke]at hat hfs
  have heq:(K,AO.row 42 2 (DZ (AD false) Iq (AJ t n) i))::(Db t++Sf)=((K,AO.row 42 2 (DZ (AD false) Iq (AJ t n) i))::DC t::(stE t.ek t.es++BE l1))++(stS c.1 c.2++(BE l2++Sf)):=by
   have e1:BE t.cs=BE l1++(stS c.1 c.2++BE l2):=by
    conv=>lhs;rw[hsp]
    rw[Cn,Ch]
   rw[Db,e1];simp only[List.cons_append,List.append_assoc]
  refine FL ?_;refine RG ?_;(repeat first|refine WO ?_|refine Ai λX=>?_|refine Ay λY=>?_);refine NL ?_;refine FL ?_;refine RG ?_;(repeat first|(refine AOps.gN ?_;first|refine DS _ (h:=hget) (k:=?_) (hp:=heq))|refine WO ?_|refine Ai λX=>?_|refine Ay λY=>?_);refine NL ?_;rw[<-heq];refine FL ?_;refine RG ?_;(repeat first|(refine AOps.gN ?_;first|refine AOps.go (h:=W.idx rfl rfl (by exact At.f) rfl (by omega) (Nat.zero_add _)) (k:=?_))|refine WO ?_|refine Ai λX=>?_|refine Ay λY=>?_);refine NL ?_;refine KF K hfs ?_;refine FL ?_;refine RG ?_;(repeat first|refine WO ?_|refine Ai λX=>?_|refine Ay λY=>?_);refine NL ?_;exact A7 (i+1) (by omega)
 ·have h:i=t.ks.length:=by rw[decide_eq_false_iff_not,hkm]at h;omega
  subst h;have hfa:DZ (AD false) Iq (AJ t n) t.ks.length=(AJ t n).map (AD false):=by rw[<-htl];exact Jy _ _ _
  rw[hfa];refine FL ?_;refine RG ?_;(repeat first|refine WO ?_|refine Ai λX=>?_|refine Ay λY=>?_);refine NL ?_;refine RT ?_;exact⟨[.sl K 0 (AJ t n).length],[.lst true 42 2 ((AJ t n).map (AD false))],_,Db t,.cons (.tmp rfl) rfl .nil,.cons (.cell (.sl (p:=0) .here (by simp))) .nil,by exact Sub.f,rfl,rfl⟩
theorem cmpI_eqz{x y:Int}:By x y=0↔x=y:=by unfold By;split<;>(try split)<;>omega
theorem cmpI_ltz{x y:Int}:By x y<0↔x<y:=by unfold By;split<;>(try split)<;>omega
theorem cmpL_zero:∀{a b:List Int},Bx a b=0↔a=b
 |[],[]=>by simp[Bx]
 |[],_::_=>by simp[Bx]
 |_::_,[]=>by simp[Bx]
 |x::a,y::b=>by
  rw[Bx,List.cons.injEq];by_cases h:By x y=0
  ·rw[if_neg (by simp[h]),cmpL_zero,cmpI_eqz.1 h];simp
  ·rw[if_pos h]
   exact⟨λe=>absurd e h,λe=>absurd (cmpI_eqz.2 e.1) h⟩
theorem Fv:∀{a b c:List Int},Bx a b<0->Bx b c<0->Bx a c<0
 |[],[],_,h,_=>by simp[Bx]at h
 |[],_::_,[],_,h=>by simp[Bx]at h
 |[],_::_,_::_,_,_=>by simp[Bx]
 |_::_,[],_,h,_=>by simp[Bx]at h
 |_::_,_::_,[],_,h=>by simp[Bx]at h
 |x::a,y::b,z::c,h1,h2=>by
  rw[Bx]at h1 h2⊢;by_cases e1:By x y=0
  ·have e1':=cmpI_eqz.1 e1
   subst e1';rw[if_neg (by simp[e1])]at h1;by_cases e2:By x z=0
   ·rw[if_neg (by simp[e2])]at h2⊢
    exact Fv h1 h2
   ·rw[if_pos e2]at h2⊢
    exact h2
  ·rw[if_pos e1]at h1
   have l1:=cmpI_ltz.1 h1;by_cases e2:By y z=0
   ·have e2':=cmpI_eqz.1 e2
    subst e2';rw[if_pos e1];exact h1
   ·rw[if_pos e2]at h2
    have l2:=cmpI_ltz.1 h2;have l3:By x z<0:=cmpI_ltz.2 (by omega);rw[if_pos (by omega)];exact l3
theorem J4:∀{a b:List Int},¬Bx a b<0->a≠b->Bx b a<0
 |[],[],_,h=>absurd rfl h
 |[],_::_,h,_=>absurd (by simp[Bx]) h
 |_::_,[],_,_=>by simp[Bx]
 |x::a,y::b,h,hne=>by
  rw[Bx]at h⊢;by_cases e:By x y=0
  ·have e':=cmpI_eqz.1 e
   subst e';rw[if_neg (by simp[e])]at h⊢;exact J4 h λe2=>hne (by rw[e2])
  ·rw[if_pos e]at h
   have hxy:x≠y:=λe2=>e (cmpI_eqz.2 e2)
   have:¬x<y:=λl=>h (cmpI_ltz.2 l)
   have l:By y x<0:=cmpI_ltz.2 (by omega);rw[if_pos (by omega)];exact l
structure Ar where
 A:Nat
 G:Nat
 Tb:Nat
 O:Nat
 Tv:Nat
 K:AV->Value->Prop
 g:Int->Option Value
 c:Nat
 kinds:List Kind
 gens:List Int
 ts:List Tab
def Aq(ts:List Tab):List AB:=ts.flatMap Db
abbrev arH(a:Ar):List AB:=[(a.A,.row 143 4 [.agg [As false false a.kinds,.sl a.G 0 a.gens.length,.sl a.Tb 0 a.ts.length,.mp a.O]]),(a.G,.row 3 1 (a.gens.map iA)),(a.O,.ob (MapF Tryz.prog 3 145 a.g a.c)),(a.Tv,.tv a.K),(a.Tb,.row 145 1 (ptrs Tab.X a.ts))]
abbrev arS(a:Ar):List AB:=arH a++Aq a.ts
theorem E9(a b:List Tab):Aq (a++b)=Aq a++Aq b:=List.flatMap_append
theorem MQ(t:Tab)(b:List Tab):Aq (t::b)=Db t++Aq b:=List.flatMap_cons
theorem Ci{l1 l2:List Tab}{t:Tab}(R:List AB):(Aq (l1++t::l2)++R).Perm (Db t++(Aq l1++(Aq l2++R))):=by
 rw[E9,MQ,List.append_assoc,List.append_assoc];exact BZ _ _ _
abbrev Av(ts:List Tab):List Int:=ts.flatMap λt=>AC t.es
def BX(t:Tab):List Item:=t.es.map λe=>⟨e.2,AJ t e.1⟩
def AU(ts:List Tab):List Item:=ts.flatMap BX
structure ArOK(a:Ar):Prop where
 tab:∀t∈a.ts,TabOK t
 ord:a.ts.Pairwise λt u=>Bx t.ks u.ks<0
 keys:(Av a.ts).Nodup
 ent:∀t∈a.ts,∀e∈t.es,e.1=e.2.n
 g:∀n u,a.g n=some u->∃t∈a.ts,n∈AC t.es/\a.K (.ptr t.X 0 0) u/\∃b:Nat,u= .pointer (some ⟨b,0,none⟩)
 gn:∀n∈Av a.ts,(a.g n).isSome=true
 cnt:a.c=(Av a.ts).length
theorem ArOK.lt{a:Ar}(h:ArOK a):∀n∈Av a.ts,0<=n/\n<256:=λn hn=>by
 obtain⟨t,ht,hm⟩:=List.mem_flatMap.1 hn;exact(h.tab t ht).es.lt n hm
theorem ArOK.c_le{a:Ar}(h:ArOK a):a.c<=256:=by rw[h.cnt];exact LM h.keys h.lt
def Dg(ts:List Tab):Prop:=∀t∈ts,t.es≠[]
theorem ArOK.ts_le{a:Ar}(h:ArOK a)(hne:Dg a.ts):a.ts.length<=256:=by
 refine Nat.le_trans ?_ h.c_le;rw[h.cnt,Av,List.length_flatMap]
 have:∀ts:List Tab,(∀t∈ts,t.es≠[])->ts.length<=(ts.map λt=>(AC t.es).length).sum:=by
  intro ts
  induction ts with
  |nil=>intro _;simp
  |cons t ts ih=>
   intro hh;have h1:=ih λt ht=>hh t (by simp[ht])
   have h2:0<(AC t.es).length:=by rw[List.length_map];exact List.length_pos_iff.2 (hh t (by simp))
   simp only[List.length_cons,List.map_cons,List.sum_cons];omega
 exact this a.ts hne
theorem ArOK.mono{a:Ar}(h:ArOK a)(ks:List Int):Fa (λt:Tab=>Bx t.ks ks) a.ts:=by
 intro i j x y hij hx hy hg;rcases Nat.lt_or_eq_of_le hij with hlt|rfl
 ·obtain⟨hi,rfl⟩:=List.getElem?_eq_some_iff.1 hx
  obtain⟨hj,rfl⟩:=List.getElem?_eq_some_iff.1 hy;exact Fv (List.pairwise_iff_getElem.1 h.ord i j hi hj hlt) hg
 ·rw[hx]at hy
  injection hy with hy
  subst hy;exact hg
theorem Q7{ts:List Tab}{t:Tab}{ks:List Int}{i:Nat}(h:ts.Pairwise λt u=>Bx t.ks u.ks<0)(hm:Fa (λt:Tab=>Bx t.ks ks) ts)(hf:Found (λt:Tab=>Bx t.ks ks) ts (i,false))(ht:t.ks=ks):(ts.take i++t::ts.drop i).Pairwise λt u=>Bx t.ks u.ks<0:=by
 obtain⟨hlo,hhi⟩:=hf.mono hm;have heq:=hf.eq;dsimp only at hlo hhi heq
 have h1:∀x∈ts.take i,Bx x.ks ks<0:=λx hx=>by
  obtain⟨j,hj,rfl⟩:=List.mem_take_iff_getElem.1 hx;exact hlo j _ (by omega) (List.getElem?_eq_getElem (by omega))
 have h2:∀x∈ts.drop i,Bx ks x.ks<0:=λx hx=>by
  obtain⟨j,hj,rfl⟩:=List.mem_iff_getElem.1 hx;rw[List.length_drop]at hj;rw[List.getElem_drop];have hg:ts[i+j]?=some ts[i+j]:=List.getElem?_eq_getElem (by omega);have hn:=hhi (i+j) _ (by omega) hg;refine J4 hn λe=>?_
  cases j with
  |zero=>
   have:(false:Bool)=true:=heq.2 ⟨ts[i],List.getElem?_eq_getElem (by omega),cmpL_zero.2 e⟩;cases this
  |succ j=>
   have hi':ts[i]?=some ts[i]:=List.getElem?_eq_getElem (by omega);have h3:=List.pairwise_iff_getElem.1 h i (i+(j+1)) (by omega) (by omega) (by omega);rw[e]at h3;exact hhi i _ (Nat.le_refl _) hi' h3
 rw[List.pairwise_append];refine⟨h.sublist (List.take_sublist _ _),List.pairwise_cons.2 ⟨λx hx=>by rw[ht];exact h2 x hx,h.sublist (List.drop_sublist _ _)⟩,λx hx y hy=>?_⟩;rcases List.mem_cons.1 hy with rfl|hy
 ·rw[ht];exact h1 x hx
 ·exact Fv (h1 x hx) (h2 y hy)
theorem Bs(a b:List Tab):Av (a++b)=Av a++Av b:=List.flatMap_append
theorem B8(t:Tab)(b:List Tab):Av (t::b)=AC t.es++Av b:=List.flatMap_cons
theorem BW(a b:List Tab):AU (a++b)=AU a++AU b:=List.flatMap_append
theorem Bd(t:Tab)(b:List Tab):AU (t::b)=BX t++AU b:=List.flatMap_cons
theorem ArOK.newT{a:Ar}(h:ArOK a){t:Tab}{i Y:Nat}(ht:TabOK t)(he:t.es=[])(hf:Found (λu:Tab=>Bx u.ks t.ks) a.ts (i,false)):ArOK {a with Tb:=Y,ts:=a.ts.take i++t::a.ts.drop i}:=by
 have hk:Av (a.ts.take i++t::a.ts.drop i)=Av a.ts:=by
  rw[Bs,B8,he]
  conv=>rhs;rw[<-List.take_append_drop i a.ts,Bs]
  rfl
 have hm:∀u,u∈a.ts.take i++t::a.ts.drop i↔u=t\/u∈a.ts:=λu=>by
  conv=>rhs;rw[<-List.take_append_drop i a.ts]
  simp only[List.mem_append,List.mem_cons];constructor
  ·rintro(h|h|h)
   ·exact .inr (.inl h)
   ·exact .inl h
   ·exact .inr (.inr h)
  ·rintro(h|h|h)
   ·exact .inr (.inl h)
   ·exact .inl h
   ·exact .inr (.inr h)
 refine⟨λu hu=>?_,Q7 h.ord (h.mono _) hf rfl,by rw[hk];exact h.keys,λu hu=>?_,λn u hg=>?_,λn hn=>h.gn n (by rw[hk]at hn;exact hn),by rw[hk];exact h.cnt⟩
 ·rcases(hm u).1 hu with rfl|hu
  ·exact ht
  ·exact h.tab u hu
 ·rcases(hm u).1 hu with rfl|hu
  ·rw[he];intro e he;cases he
  ·exact h.ent u hu
 ·obtain⟨w,hw,h2⟩:=h.g n u hg
  exact⟨w,(hm w).2 (.inr hw),h2⟩
theorem Mu{ts:List Tab}{t:Tab}{i:Nat}(he:t.es=[]):AU (ts.take i++t::ts.drop i)=AU ts:=by
 rw[BW,Bd,BX,he]
 conv=>rhs;rw[<-List.take_append_drop i ts,BW]
 rfl
theorem Ob{ts:List Tab}{t:Tab}{i:Nat}(he:t.es=[]):Av (ts.take i++t::ts.drop i)=Av ts:=by
 rw[Bs,B8,he]
 conv=>rhs;rw[<-List.take_append_drop i ts,Bs]
 rfl
structure CsUp(n:Int)(l:List Comp)(i:Nat)(cs cs':List (StK×List (Int×List Int))):Prop where
 len:cs'.length=cs.length
 X:∀j (h:j<cs.length) (h':j<cs'.length),cs'[j].1.X=cs[j].1.X
 c:∀j (h:j<cs.length) (h':j<cs'.length),cs'[j].2=if j<i then BH cs[j].2 n ((l[j]?.map (·.vals)).getD [])else cs[j].2
theorem CsUp.zero(n:Int)(l:List Comp)(cs:List (StK×List (Int×List Int))):CsUp n l 0 cs cs:=⟨rfl,λ_ _ _=>rfl,λj h h'=>by rw[if_neg (by omega)]⟩
theorem CsUp.ptrs{n:Int}{l:List Comp}{i:Nat}{cs cs':List (StK×List (Int×List Int))}(h:CsUp n l i cs cs'):cs'.map (λc=>AV.ptr c.1.X 0 0)=cs.map (λc=>AV.ptr c.1.X 0 0):=by
 refine List.ext_getElem (by simp[h.len]) λj h1 h2=>?_
 rw[List.getElem_map,List.getElem_map,h.X j (by simpa using h2) (by simpa using h1)]
theorem CsUp.next{n:Int}{l:List Comp}{i:Nat}{cs cs':List (StK×List (Int×List Int))}(h:CsUp n l i cs cs'){l1 l2:List (StK×List (Int×List Int))}{c:StK×List (Int×List Int)}{v:List Int}(e:cs'=l1++c::l2)(h1:l1.length=i)(hv:l[i]?.map (·.vals)=some v)(k:StK)(hk:k.X=c.1.X):CsUp n l (i+1) cs (l1++(k,BH c.2 n v)::l2):=by
 have hlen:=h.len;have hl:cs'.length=l1.length+(l2.length+1):=by rw[e];simp
 have hi':i<cs'.length:=by omega
 have hc:cs'[i]=c:=by
  have:cs'[i]?=some c:=by rw[e,List.getElem?_append_right (by omega),h1,Nat.sub_self];rfl
  rw[List.getElem?_eq_getElem hi']at this;injection this
 have hold:∀j (hj:j<cs'.length),j≠i->(l1++(k,BH c.2 n v)::l2)[j]'(by simp;omega)=cs'[j]:=λj hj hne=>by
  have h3:(l1++(k,BH c.2 n v)::l2)[j]?=cs'[j]?:=by
   rw[e];by_cases hji:j<i
   ·rw[List.getElem?_append_left (by omega),List.getElem?_append_left (by omega)]
   ·rw[List.getElem?_append_right (by omega),List.getElem?_append_right (by omega),show j-l1.length=(j-i-1)+1 by omega]
    rfl
  rw[List.getElem?_eq_getElem hj,List.getElem?_eq_getElem (by simp;omega)]at h3;injection h3
 have hnew:(l1++(k,BH c.2 n v)::l2)[i]'(by simp;omega)=(k,BH c.2 n v):=by
  have h3:(l1++(k,BH c.2 n v)::l2)[i]?=some (k,BH c.2 n v):=by rw[List.getElem?_append_right (by omega),h1,Nat.sub_self];rfl
  rw[List.getElem?_eq_getElem (by simp;omega)]at h3;injection h3
 refine⟨by simp;omega,λj hj hj'=>?_,λj hj hj'=>?_⟩
 ·by_cases hne:j=i
  ·subst hne
   rw[hnew,hk,<-hc];exact h.X j hj hi'
  ·rw[hold j (by omega) hne]
   exact h.X j hj (by omega)
 ·by_cases hne:j=i
  ·subst hne
   have:=h.c j hj hi';rw[if_neg (by omega),hc]at this;rw[hnew,if_pos (by omega),hv,this];rfl
  ·rw[hold j (by omega) hne,h.c j hj (by omega)]
   by_cases hji:j<i
   ·rw[if_pos hji,if_pos (by omega)]
   ·rw[if_neg hji,if_neg (by omega)]
section
section
variable {t:Tab}{e:Ent}{l:List Comp}{cs:List (StK×List (Int×List Int))}{k:StK}
abbrev upT(t:Tab)(k:StK)(e:Ent)(cs:List (StK×List (Int×List Int))):Tab:=⟨t.X,t.ks,k,BH t.es e.n e,cs⟩
theorem CsUp.at{n:Int}{l:List Comp}{i:Nat}{cs cs':List (StK×List (Int×List Int))}(h:CsUp n l i cs cs'){c:StK×List (Int×List Int)}(hc:c∈cs'):∃j,∃h1:j<cs.length,∃h2:j<cs'.length,cs'[j]=c:=by
 obtain⟨j,hj,rfl⟩:=List.getElem_of_mem hc;exact⟨j,by rw[<-h.len];exact hj,hj,rfl⟩
theorem TabOK.up(h:TabOK t)(hn:0<=e.n/\e.n<256)(hf:e.n∉AC t.es)(hu:CsUp e.n l t.cs.length t.cs cs):TabOK (upT t k e cs):=by
 refine⟨by rw[hu.len];exact h.len,h.ks,h.es.put hn e,λc hc=>?_,λc hc n=>?_⟩
 ·obtain⟨j,h1,h2,rfl⟩:=hu.at hc
  rw[hu.c j h1 h2,if_pos h1];exact(h.cs _ (List.getElem_mem h1)).put hn _
 ·obtain⟨j,h1,h2,rfl⟩:=hu.at hc
  have hk:=h.keys _ (List.getElem_mem h1);have hfc:e.n∉AC t.cs[j].2:=λhm=>hf ((hk _).1 hm)
  rw[hu.c j h1 h2,if_pos h1];show n∈AC (BH _ _ _)↔n∈AC (BH t.es e.n e)
  rw[CM hfc,CM hf,AC,AC,List.map_append,List.map_append,List.mem_append,List.mem_append];exact or_congr (hk n) (by simp)
theorem MU(h:TabOK t)(hn:0<=e.n/\e.n<256)(hu:CsUp e.n l t.cs.length t.cs cs){n:Int}(hne:n≠e.n):AJ (upT t k e cs) n=AJ t n:=by
 have hlen:=h.len;have hl:=hu.len;refine List.ext_getElem (by simp[AJ];omega) λi h1 h2=>?_
 have hc:i<t.cs.length:=by simp[AJ]at h2;omega
 have hk:i<t.ks.length:=by omega
 rw[DE h2 hk hc,DE (t:=upT t k e cs) h1 hk (by show i<cs.length;omega)];show(⟨_,(CK (cs[i]'(by omega)).2 n).getD []⟩:Comp)=_
 rw[hu.c i hc (by omega),if_pos hc,FD (h.cs _ (List.getElem_mem hc)) hn,if_neg hne]
theorem MV(h:TabOK t)(hn:0<=e.n/\e.n<256)(hks:t.ks=l.map (·.kind))(hu:CsUp e.n l t.cs.length t.cs cs):AJ (upT t k e cs) e.n=l:=by
 have hlen:=h.len;have hl:=hu.len;have hkl:t.ks.length=l.length:=by rw[hks,List.length_map]
 refine List.ext_getElem (by simp[AJ];omega) λi h1 h2=>?_
 have hc:i<t.cs.length:=by omega
 have hk:i<t.ks.length:=by omega
 rw[DE (t:=upT t k e cs) h1 hk (by show i<cs.length;omega)];show(⟨t.ks[i],(CK (cs[i]'(by omega)).2 e.n).getD []⟩:Comp)=_
 rw[hu.c i hc (by omega),if_pos hc,FD (h.cs _ (List.getElem_mem hc)) hn,if_pos rfl,List.getElem?_eq_getElem h2];have:t.ks[i]=l[i].kind:=by simp[hks]
 rw[this];rfl
theorem OL(h:TabOK t)(hn:0<=e.n/\e.n<256)(hf:e.n∉AC t.es)(hks:t.ks=l.map (·.kind))(hu:CsUp e.n l t.cs.length t.cs cs):BX (upT t k e cs)=BX t++[⟨e,l⟩]:=by
 unfold BX;show(BH t.es e.n e).map _=_
 rw[CM hf,List.map_append,List.map_cons,List.map_nil,MV h hn hks hu]
 congr 1
 refine List.map_congr_left λp hp=>?_
 rw[MU h hn hu];intro e2;exact hf (by rw[<-e2];exact List.mem_map.2 ⟨p,hp,rfl⟩)
end
theorem ArOK.up{a:Ar}{l1 l2:List Tab}{t:Tab}{e:Ent}{l:List Comp}{cs:List (StK×List (Int×List Int))}{k:StK}{K':AV->Value->Prop}{b:Nat}(h:ArOK a)(hts:a.ts=l1++t::l2)(hn:0<=e.n/\e.n<256)(hf:e.n∉Av a.ts)(hu:CsUp e.n l t.cs.length t.cs cs)(hK:∀v u,a.K v u->K' v u)(hKt:K' (.ptr t.X 0 0) (.pointer (some ⟨b,0,none⟩))):
  ArOK {a with ts:=l1++upT t k e cs::l2,K:=K',g:=DT a.g e.n (.pointer (some ⟨b,0,none⟩)),c:=a.c+1}:=by
 have htm:t∈a.ts:=by rw[hts];simp
 have hft:e.n∉AC t.es:=λhm=>hf (List.mem_flatMap.2 ⟨t,htm,hm⟩)
 have hmem:∀u,u∈l1++upT t k e cs::l2->u=upT t k e cs\/u∈a.ts:=λu hu=>by
  rw[hts];rcases List.mem_append.1 hu with hu|hu
  ·exact .inr (by simp[hu])
  ·rcases List.mem_cons.1 hu with hu|hu
   ·exact .inl hu
   ·exact .inr (by simp[hu])
 have hke:AC (BH t.es e.n e)=AC t.es++[e.n]:=by rw[CM hft,AC,List.map_append];rfl
 have hkeys:(Av (l1++upT t k e cs::l2)).Perm (e.n::Av a.ts):=by
  rw[hts,Bs,B8,Bs,B8];show(Av l1++(AC (BH t.es e.n e)++Av l2)).Perm _
  rw[hke,List.append_assoc]
  have:(Av l1++(AC t.es++([e.n]++Av l2))).Perm ([e.n]++(Av l1++(AC t.es++Av l2))):=by
   refine((BZ (AC t.es) [e.n] (Av l2)).append_left (Av l1)).trans ?_;exact BZ _ _ _
  exact this
 refine⟨λu hu'=>?_,?_,hkeys.nodup_iff.2 (List.nodup_cons.2 ⟨hf,h.keys⟩),λu hu'=>?_,λn u hg=>?_,λn hn'=>?_,?_⟩
 ·rcases hmem u hu' with rfl|hu'
  ·exact(h.tab t htm).up hn hft hu
  ·exact h.tab u hu'
 ·have ho:=h.ord
  rw[hts]at ho;rw[List.pairwise_append,List.pairwise_cons]at ho⊢
  exact⟨ho.1,⟨λx hx=>ho.2.1.1 x hx,ho.2.1.2⟩,λx hx y hy=>by
   rcases List.mem_cons.1 hy with rfl|hy
   ·exact ho.2.2 x hx t (by simp)
   ·exact ho.2.2 x hx y (by simp[hy])⟩
 ·rcases hmem u hu' with rfl|hu'
  ·intro p hp
   have hp:p∈BH t.es e.n e:=hp;rw[CM hft]at hp;rcases List.mem_append.1 hp with hp|hp
   ·exact h.ent t htm p hp
   ·rw[List.mem_singleton]at hp
    subst hp;rfl
  ·exact h.ent u hu'
 ·replace hg:(if n=e.n then some (Value.pointer (some ⟨b,0,none⟩))else a.g n)=some u:=hg
  split at hg
  ·rename_i e1
   subst e1;injection hg with hg
   subst hg;refine⟨upT t k e cs,by simp,?_,hKt,b,rfl⟩;show e.n∈AC (BH t.es e.n e)
   rw[hke];simp
  ·obtain⟨w,hw,h2,h3,h4⟩:=h.g n u hg
   rw[hts]at hw;rcases List.mem_append.1 hw with hw|hw
   ·exact⟨w,by simp[hw],h2,hK _ _ h3,h4⟩
   ·rcases List.mem_cons.1 hw with rfl|hw
    ·refine⟨upT w k e cs,by simp,?_,hK _ _ h3,h4⟩
     show n∈AC (BH w.es e.n e)
     rw[hke];simp[h2]
    ·exact⟨w,by simp[hw],h2,hK _ _ h3,h4⟩
 ·have hn':=hkeys.mem_iff.1 hn'
  show(DT a.g e.n _ n).isSome=true
  unfold DT;split
  ·rfl
  ·rename_i hne
   rcases List.mem_cons.1 hn' with e2|hn'
   ·exact absurd e2 hne
   ·exact h.gn n hn'
 ·show a.c+1=_
  rw[hkeys.length_eq,List.length_cons,h.cnt]
theorem Pq{l1 l2:List Tab}{t:Tab}{e:Ent}{l:List Comp}{cs:List (StK×List (Int×List Int))}{k:StK}(h:TabOK t)(hn:0<=e.n/\e.n<256)(hf:e.n∉AC t.es)(hks:t.ks=l.map (·.kind))(hu:CsUp e.n l t.cs.length t.cs cs):(AU (l1++upT t k e cs::l2)).Perm (⟨e,l⟩::AU (l1++t::l2)):=by
 rw[BW,Bd,BW,Bd,OL h hn hf hks hu,List.append_assoc]
 have:(AU l1++(BX t++([(⟨e,l⟩:Item)]++AU l2))).Perm ([(⟨e,l⟩:Item)]++(AU l1++(BX t++AU l2))):=by
  refine((BZ (BX t) [(⟨e,l⟩:Item)] (AU l2)).append_left (AU l1)).trans ?_;exact BZ _ _ _
 exact this
theorem Se{l1 l2:List Tab}{t:Tab}{e:Ent}{cs:List (StK×List (Int×List Int))}{k:StK}(h1:Dg l1)(h2:Dg l2)(hf:e.n∉AC t.es):Dg (l1++upT t k e cs::l2):=λu hu=>by
 rcases List.mem_append.1 hu with hu|hu
 ·exact h1 u hu
 ·rcases List.mem_cons.1 hu with rfl|hu
  ·show BH t.es e.n e≠[]
   rw[CM hf];simp
  ·exact h2 u hu
end
section
section
variable {P:Program}{ro:Option Nat}{nt:Nat}{c:Code}{Q:Exit->St->Prop}{T:List (Nat×AV)}{S:List AB}
end
abbrev El(n:Int)(c:StK×List (Int×List Int)):StK×List (Int×List Int):=(c.1,A4 c.2 n)
abbrev C1(t:Tab)(n:Int):Tab:=⟨t.X,t.ks,t.ek,A4 t.es n,t.cs.map (El n)⟩
theorem TabOK.down{t:Tab}(h:TabOK t)(n:Int):TabOK (C1 t n):=by
 refine⟨by rw[List.length_map];exact h.len,h.ks,h.es.drop n,λc hc=>?_,λc hc m=>?_⟩
 ·obtain⟨d,hd,rfl⟩:=List.mem_map.1 hc
  exact(h.cs d hd).drop n
 ·obtain⟨d,hd,rfl⟩:=List.mem_map.1 hc
  show m∈AC (A4 d.2 n)↔m∈AC (A4 t.es n)
  rw[Cy (h.cs d hd),Cy h.es,h.keys d hd]
theorem HE{t:Tab}(h:TabOK t){n m:Int}(hne:m≠n):AJ (C1 t n) m=AJ t m:=by
 have hlen:=h.len;refine List.ext_getElem (by simp[AJ]) λi h1 h2=>?_
 have hc:i<t.cs.length:=by simp[AJ]at h2;omega
 have hk:i<t.ks.length:=by omega
 rw[DE h2 hk hc,DE (t:=C1 t n) h1 hk (by rw[List.length_map];exact hc)];show(⟨_,(CK ((t.cs.map (El n))[i]'(by rw[List.length_map];exact hc)).2 m).getD []⟩:Comp)=_
 rw[List.getElem_map];show(⟨_,(CK (A4 t.cs[i].2 n) m).getD []⟩:Comp)=_
 rw[MY (h.cs _ (List.getElem_mem hc)) hne]
theorem Kx{t:Tab}(h:TabOK t){n:Int}{e:Ent}(hm:(n,e)∈t.es):(BX t).Perm (⟨e,AJ t n⟩::BX (C1 t n)):=by
 have hp:=Cc h.es hm;have h1:=hp.map λp:Int×Ent=>(⟨p.2,AJ t p.1⟩:Item)
 refine h1.trans ?_;rw[List.map_cons];refine List.Perm.cons _ (List.Perm.of_eq ?_);show _=(A4 t.es n).map λp=>(⟨p.2,AJ (C1 t n) p.1⟩:Item)
 refine List.map_congr_left λp hp'=>?_
 have hk:p.1∈AC (A4 t.es n):=List.mem_map.2 ⟨p,hp',rfl⟩;rw[HE h ((Cy h.es).1 hk).2]
theorem ArOK.uniq{a:Ar}(h:ArOK a){t u:Tab}(ht:t∈a.ts)(hu:u∈a.ts){n:Int}(h1:n∈AC t.es)(h2:n∈AC u.es):t=u:=by
 obtain⟨l1,l2,e⟩:=List.append_of_mem ht;have hk:=h.keys;rw[e,Bs,B8]at hk;rw[e]at hu;rcases List.mem_append.1 hu with hu|hu
 ·have:n∈Av l1:=List.mem_flatMap.2 ⟨u,hu,h2⟩
  exact absurd rfl ((List.nodup_append.1 hk).2.2 n this n (List.mem_append_left _ h1))
 ·rcases List.mem_cons.1 hu with rfl|hu
  ·rfl
  ·have:n∈Av l2:=List.mem_flatMap.2 ⟨u,hu,h2⟩
   exact absurd rfl ((List.nodup_append.1 (List.nodup_append.1 hk).2.1).2.2 n h1 n this)
theorem Ot{a:Ar}(h:ArOK a){l1 l2:List Tab}{t:Tab}(hts:a.ts=l1++t::l2){n:Int}{e:Ent}(hm:(n,e)∈t.es):(Av a.ts).Perm (n::Av (l1++C1 t n::l2)):=by
 have hto:=h.tab t (by rw[hts];simp);have hp:=(Cc hto.es hm).map (·.1);rw[hts,Bs,B8,Bs,B8];have h1:(Av l1++(AC t.es++Av l2)).Perm (Av l1++((n::AC (A4 t.es n))++Av l2)):=(hp.append_right _).append_left _;exact h1.trans (BZ (Av l1) [n] (AC (A4 t.es n)++Av l2))
theorem ArOK.down{a:Ar}(h:ArOK a){l1 l2:List Tab}{t:Tab}(hts:a.ts=l1++t::l2){n:Int}{e:Ent}(hm:(n,e)∈t.es):ArOK {a with ts:=l1++C1 t n::l2,g:=ES a.g n,c:=a.c-1}:=by
 have htm:t∈a.ts:=by rw[hts];simp
 have hto:=h.tab t htm;have hkp:=Ot h hts hm
 have hmem:∀u,u∈l1++C1 t n::l2->u=C1 t n\/u∈a.ts:=λu hu=>by
  rw[hts];rcases List.mem_append.1 hu with hu|hu
  ·exact .inr (by simp[hu])
  ·rcases List.mem_cons.1 hu with hu|hu
   ·exact .inl hu
   ·exact .inr (by simp[hu])
 have hnd:=hkp.nodup_iff.1 h.keys;have hnk:n∈AC t.es:=List.mem_map.2 ⟨_,hm,rfl⟩;refine⟨λu hu=>?_,?_,(List.nodup_cons.1 hnd).2,λu hu=>?_,λm u hg=>?_,λm hm'=>?_,?_⟩
 ·rcases hmem u hu with rfl|hu
  ·exact hto.down n
  ·exact h.tab u hu
 ·have ho:=h.ord
  rw[hts]at ho;rw[List.pairwise_append,List.pairwise_cons]at ho⊢
  exact⟨ho.1,⟨λx hx=>ho.2.1.1 x hx,ho.2.1.2⟩,λx hx y hy=>by
   rcases List.mem_cons.1 hy with rfl|hy
   ·exact ho.2.2 x hx t (by simp)
   ·exact ho.2.2 x hx y (by simp[hy])⟩
 ·rcases hmem u hu with rfl|hu
  ·intro p hp
   have:p∈t.es:=(Cc hto.es hm).mem_iff.2 (List.mem_cons_of_mem _ hp);exact h.ent t htm p this
  ·exact h.ent u hu
 ·replace hg:(if m=n then none else a.g m)=some u:=hg
  split at hg
  ·cases hg
  ·rename_i hne
   obtain⟨w,hw,h2,h3,h4⟩:=h.g m u hg;rw[hts]at hw;rcases List.mem_append.1 hw with hw|hw
   ·exact⟨w,by simp[hw],h2,h3,h4⟩
   ·rcases List.mem_cons.1 hw with rfl|hw
    ·refine⟨C1 w n,by simp,?_,h3,h4⟩
     exact(Cy hto.es).2 ⟨h2,hne⟩
    ·exact⟨w,by simp[hw],h2,h3,h4⟩
 ·have hm2:m∈Av a.ts:=hkp.mem_iff.2 (List.mem_cons_of_mem _ hm')
  have hne:m≠n:=λe=>(List.nodup_cons.1 hnd).1 (by subst e;exact hm')
  show(ES a.g n m).isSome=true
  unfold ES;rw[if_neg hne];exact h.gn m hm2
 ·show a.c-1=(Av (l1++C1 t n::l2)).length
  have:=hkp.length_eq;rw[List.length_cons]at this;have:=h.cnt;omega
theorem ArOK.less{a:Ar}(h:ArOK a){l1 l2:List Tab}{t:Tab}{Y:Nat}(hts:a.ts=l1++t::l2)(he:t.es=[]):ArOK {a with Tb:=Y,ts:=l1++l2}:=by
 have hk:Av a.ts=Av (l1++l2):=by rw[hts,Bs,B8,he,Bs];rfl
 have hmem:∀u,u∈l1++l2->u∈a.ts:=λu hu=>by
  rw[hts];rcases List.mem_append.1 hu with hu|hu<;>simp[hu]
 refine⟨λu hu=>h.tab u (hmem u hu),?_,by rw[<-hk];exact h.keys,λu hu=>h.ent u (hmem u hu),λm u hg=>?_,λm hm=>h.gn m (by rw[hk];exact hm),by rw[<-hk];exact h.cnt⟩
 ·have ho:=h.ord
  rw[hts]at ho;exact ho.sublist ((List.Sublist.refl l1).append (List.sublist_cons_self t l2))
 ·obtain⟨w,hw,h2,h3⟩:=h.g m u hg
  rw[hts]at hw;rcases List.mem_append.1 hw with hw|hw
  ·exact⟨w,by simp[hw],h2,h3⟩
  ·rcases List.mem_cons.1 hw with rfl|hw
   ·rw[he]at h2;cases h2
   ·exact⟨w,by simp[hw],h2,h3⟩
theorem IS{a:Ar}(h:ArOK a){l1 l2:List Tab}{t:Tab}(hts:a.ts=l1++t::l2){n:Int}{e:Ent}(hm:(n,e)∈t.es):(AU a.ts).Perm (⟨e,AJ t n⟩::AU (l1++C1 t n::l2)):=by
 have hto:=h.tab t (by rw[hts];simp);rw[hts,BW,Bd,BW,Bd];refine(((Kx hto hm).append_right _).append_left _).trans ?_;exact BZ (AU l1) [(⟨e,AJ t n⟩:Item)] (BX (C1 t n)++AU l2)
theorem Mv{l1 l2:List Tab}{t:Tab}(he:t.es=[]):AU (l1++t::l2)=AU (l1++l2):=by
 rw[BW,Bd,BX,he,BW];rfl
end
theorem QI(k:StK)(l:List (Int×Ent)):Spec Tryz.prog 299 [.ptr k.X 0 0] (stE k l) λr S'=>r=iA (l.length:Nat)/\S'=stE k l:=by
 refine Spec.of (nt:=8) (res:=[.tmp 2]) Tryz.func299 rfl (by kernel_rfl) rfl rfl rfl λSf=>?_
 refine RG ?_;(repeat first|refine WO ?_|refine Ai λX=>?_|refine Ay λY=>?_);refine NL ?_;refine FL ?_;refine RG ?_;(repeat first|refine WO ?_|refine Ai λX=>?_|refine Ay λY=>?_);refine NL ?_;refine RT ?_;exact AS [iA (l.length:Nat)] (stE k l) ⟨rfl,rfl⟩
theorem P1(k:StK)(l:List (Int×Ent))(hl:ColOK l)(n:Int)(hn:I64 n)(v:Ent)(hg:CK l n=some v):Spec Tryz.prog 294 [.ptr k.X 0 0,iA n] (stE k l) λr S'=>r= .tup [AX v,bA true]/\S'=stE k l:=by
 have hlen:=hl.len;have hk:n∈AC l:=Classical.byContradiction λh=>by rw[DF h]at hg;cases hg
 obtain⟨u,hv⟩:=Dw hk;have hi:=Dv hk;have hg2:CK l n=some u:=by unfold CK;rw[hv];rfl
 rw[hg]at hg2;injection hg2 with hg2
 subst hg2;have hat:(l.map λe=>AX e.2)[(AC l).idxOf n]?=some (AX v):=by rw[List.getElem?_map,hv];rfl
 have hix:=CW hk;obtain⟨i,hi2⟩:∃i,(AC l).idxOf n=i:=⟨_,rfl⟩;rw[hi2]at hi hat hix;have h1:(ixG (AC l) n).getD (.int .i64 0)= .int .i64 (i:Nat):=by rw[hix];rfl
 have h2:(ixG (AC l) n).isSome=true:=by rw[hix];rfl
 refine Spec.of (nt:=28) (res:=[.cell 4 32,.tmp 5]) Tryz.func294 rfl (by kernel_rfl) rfl rfl rfl λSf=>?_
 refine RG ?_;(repeat first|refine WO ?_|refine Ai λZ=>?_|refine Ay λY=>?_);refine NL ?_;refine FL ?_;refine RG ?_;(repeat first|(refine AOps.gN ?_;first|refine AOps.go (h:=DP _ _ h1 h2 hn rfl rfl (by exact At.f)) (k:=?_))|refine WO ?_|refine Ai λX=>?_|refine Ay λY=>?_);refine NL ?_;refine FL ?_;refine RG ?_;(repeat first|refine WO ?_|refine Ai λX=>?_|refine Ay λY=>?_);refine NL ?_;refine FL ?_;refine AE rfl rfl ?_;refine FL ?_;refine RG ?_;(repeat first|(refine AOps.gN ?_;first|refine AOps.go (h:=W.idx rfl rfl (by exact At.f) rfl (by omega) (Nat.zero_add _)) (k:=?_))|refine WO ?_|refine Ai λX=>?_|refine Ay λY=>?_);refine NL ?_;refine RT ?_;exact AS [AX v,bA true] (stE k l) ⟨rfl,rfl⟩
theorem QG(k:StK)(l:List (Int×Ent))(hl:ColOK l)(n:Int)(hn:I64 n):Spec Tryz.prog 297 [.ptr k.X 0 0,iA n] (stE k l) λr S'=>r=iA (if n∈AC l then 0 else 4)/\S'=stE k (A4 l n):=by
 have hlen:=hl.len;by_cases hk:n∈AC l
 ·rw[if_pos hk]
  obtain⟨u,hu⟩:=Dw hk;have hi:=Dv hk;obtain⟨⟨en,ev⟩,he⟩:=Hk (l:=l) (by omega);have hdl:=H0 hk;have hdr:A4 l n=(l.set ((AC l).idxOf n) (en,ev)).take (l.length-1):=by unfold A4;rw[if_pos hk,he]
  rw[hdr]at hdl⊢;have hix:=CW hk;obtain⟨i,hi2⟩:∃i,(AC l).idxOf n=i:=⟨_,rfl⟩;rw[hi2]at hi hu hix hdl⊢;have hkl:(AC l).length=l.length:=List.length_map _;have hki:(AC l)[i]?=some n:=by rw[AC,List.getElem?_map,hu];rfl
  have hke:(AC l)[(AC l).length-1]?=some en:=by rw[hkl,AC,List.getElem?_map,he];rfl
  have hgd:=Lb hl.nd hki hke;have h1:(ixG (AC l) n).getD (.int .i64 0)= .int .i64 (i:Nat):=by rw[hix];rfl
  have h2:(ixG (AC l) n).isSome=true:=by rw[hix];rfl
  have hem:en∈AC l:=List.mem_of_getElem? hke;have hen:=hl.lt en hem;have h3:(ixG (AC l) en).isSome=true:=by rw[CW hem];rfl
  have hsz:(if(ixG (AC l) en).isSome then l.length else l.length+1)=l.length:=by rw[h3];rfl
  have h4:(DT (ixG (AC l)) en (.int .i64 (i:Nat)) n).isSome=true:=by
   unfold DT;split
   ·rfl
   ·exact h2
  have hsz2:(if(DT (ixG (AC l)) en (.int .i64 (i:Nat)) n).isSome then l.length else l.length)=l.length:=by split<;>rfl
  have hsz3:(if(DT (ixG (AC l)) en (.int .i64 (i:Nat)) n).isSome then l.length-1 else l.length)=l.length-1:=by rw[h4];rfl
  have hmx:l.length<maxLen:=by unfold maxLen;omega
  have hmi:i<maxLen:=by unfold maxLen;omega
  have hr1:(l.map λe=>iA e.1)[l.length-1]?=some (iA en):=by rw[List.getElem?_map,he];rfl
  have hv1:(l.map λe=>AX e.2)[l.length-1]?=some (AX ev):=by rw[List.getElem?_map,he];rfl
  have hrs:(l.map λe=>iA e.1).set i (iA en)=(l.set i (en,ev)).map λe=>iA e.1:=by rw[List.map_set]
  have hvs:(l.map λe=>AX e.2).set i (AX ev)=(l.set i (en,ev)).map λe=>AX e.2:=by rw[List.map_set]
  have hri:((l.set i (en,ev)).map λe=>iA e.1)[i]?=some (iA en):=by rw[List.getElem?_map,List.getElem?_set_self hi];rfl
  have hrl:(l.map λe=>iA e.1).length=l.length:=List.length_map _;have hvl:(l.map λe=>AX e.2).length=l.length:=List.length_map _
  have hvz:((l.map λe=>AX e.2).set i (AX ev))[l.length-1]?=some (AX ev):=by
   rw[hvs];rw[List.getElem?_map];by_cases h:i=l.length-1
   ·rw[<-h,List.getElem?_set_self hi];rfl
   ·rw[List.getElem?_set_ne h,he];rfl
  have hvt:(((l.map λe=>AX e.2).set i (AX ev)).set (l.length-1) (AX ⟨0,0⟩)).take (l.length-1)=((l.set i (en,ev)).take (l.length-1)).map λe=>AX e.2:=by
   rw[hvs];rw[List.take_set_of_le (Nat.le_refl _),List.map_take]
  have hrt:((l.set i (en,ev)).map λe=>iA e.1).take (l.length-1)=((l.set i (en,ev)).take (l.length-1)).map λe=>iA e.1:=by rw[List.map_take]
  have hkt:ixG (((AC l).set i en).take ((AC l).length-1))=ixG (AC ((l.set i (en,ev)).take (l.length-1))):=by
   rw[hkl,AC,AC,List.map_take,List.map_set]
  refine Spec.of (nt:=94) (res:=[.tmp 4]) Tryz.func297 rfl (by kernel_rfl) rfl rfl rfl λSf=>?_
  refine RG ?_;(repeat first|refine WO ?_|refine Ai λX=>?_|refine Ay λY=>?_);refine NL ?_;refine FL ?_;refine RG ?_;(repeat first|(refine AOps.gN ?_;first|refine AOps.go (h:=DP _ _ h1 h2 hn rfl rfl (by exact At.f)) (k:=?_))|refine WO ?_|refine Ai λX=>?_|refine Ay λY=>?_);refine NL ?_;refine FL ?_;refine RG ?_;(repeat first|refine WO ?_|refine Ai λX=>?_|refine Ay λY=>?_);refine NL ?_;refine FL ?_;refine AE rfl rfl ?_;refine FL ?_;refine RG ?_;(repeat first|(refine AOps.gN ?_;first|refine AOps.go (h:=AZ ((l.length-1:Nat):Int) (by omega) (by omega) rfl rfl) (k:=?_))|refine WO ?_|refine Ai λX=>?_|refine Ay λY=>?_);refine NL ?_;refine FL ?_;refine RU ?_;(repeat first|(refine RGo.gN ?_;first|refine RGo.go (h:=W.idx (a:=l.length-1) rfl rfl (by exact At.f) rfl (by omega) (Nat.zero_add _)) (k:=?_)|refine RGo.go (h:=W.idx (a:=i) rfl rfl (by exact At.f) rfl (by omega) (Nat.zero_add _)) (k:=?_))|(refine RGo.gQ ?_;first|refine RGo.go (h:=W.idx (a:=l.length-1) rfl rfl (by exact At.f) rfl (by omega) (Nat.zero_add _)) (k:=?_)|refine RGo.go (h:=W.idx (a:=i) rfl rfl (by exact At.f) rfl (by omega) (Nat.zero_add _)) (k:=?_))|refine RK ?_|refine RGo.nil (by kernel_rfl) ?_);rw[hrs];refine FL ?_;refine RU ?_;(repeat first|(refine RGo.gN ?_;first|refine RGo.go (h:=W.idx (a:=i) rfl rfl (by exact At.f) rfl (by omega) (Nat.zero_add _)) (k:=?_)|refine RGo.goS (h:=W.mapUpd (PlainV.int (by kernel_rfl) (CQ (by omega))) (by omega) hmx rfl rfl rfl (by exact At.f)) (k:=?_))|(refine RGo.gQ ?_;first|refine RGo.go (h:=W.idx (a:=i) rfl rfl (by exact At.f) rfl (by omega) (Nat.zero_add _)) (k:=?_)|refine RGo.goS (h:=W.mapUpd (PlainV.int (by kernel_rfl) (CQ (by omega))) (by omega) hmx rfl rfl rfl (by exact At.f)) (k:=?_))|refine RK ?_|refine RGo.nil (by kernel_rfl) ?_);rw[hsz];refine FL ?_;refine RG ?_;(repeat first|(refine AOps.gN ?_;first|refine AOps.goS (h:=W.mapDel hn rfl rfl (by exact At.f)) (k:=?_))|refine WO ?_|refine Ai λX=>?_|refine Ay λY=>?_);refine NL ?_;rw[hsz3,hgd];refine FL ?_;refine RG ?_;(repeat first|refine WO ?_|refine Ai λZ=>?_|refine Ay λY=>?_);refine NL ?_;refine FL ?_;refine RU ?_;(repeat first|(refine RGo.gN ?_;first|refine RGo.go (h:=W.idx (a:=l.length-1) rfl rfl (by exact At.f) rfl (by omega) (Nat.zero_add _)) (k:=?_))|(refine RGo.gQ ?_;first|refine RGo.go (h:=W.idx (a:=l.length-1) rfl rfl (by exact At.f) rfl (by omega) (Nat.zero_add _)) (k:=?_))|refine RK ?_|refine RGo.nil (by kernel_rfl) ?_);refine FL ?_;refine RU ?_;(repeat first|(refine RGo.gN ?_;first|refine RGo.go (h:=W.hi (a:=l.length-1) rfl rfl (by exact At.f) rfl (by omega)) (k:=?_))|(refine RGo.gQ ?_;first|refine RGo.go (h:=W.hi (a:=l.length-1) rfl rfl (by exact At.f) rfl (by omega)) (k:=?_))|refine RK ?_|refine RGo.nil (by kernel_rfl) ?_);refine FL ?_;refine RG ?_;(repeat first|refine WO ?_|refine Ai λX=>?_|refine Ay λY=>?_);refine NL ?_;refine AWP.shrink (X:=k.V) (l.length-1) ?_;refine AWP.shrink (X:=k.R) (l.length-1) ?_;refine AWP.front k.M ?_;refine AWP.front k.R ?_;refine AWP.front k.V ?_;refine AWP.front k.X ?_;refine RT ?_;exact AS [iA 0] _ ⟨rfl,MX (n:=l.length-1) (m:=l.length-1) (c:=l.length-1) hdl.symm hdl.symm hvt hrt hkt hdl.symm⟩
 ·rw[if_neg hk,EJ hk]
  have hix:=EZ hk;have h1:(ixG (AC l) n).getD (.int .i64 0)= .int .i64 0:=by rw[hix];rfl
  have h2:(ixG (AC l) n).isSome=false:=by rw[hix];rfl
  refine Spec.of (nt:=94) (res:=[.tmp 4]) Tryz.func297 rfl (by kernel_rfl) rfl rfl rfl λSf=>?_
  refine RG ?_;(repeat first|refine WO ?_|refine Ai λX=>?_|refine Ay λY=>?_);refine NL ?_;refine FL ?_;refine RG ?_;(repeat first|(refine AOps.gN ?_;first|refine AOps.go (h:=DP _ _ h1 h2 hn rfl rfl (by exact At.f)) (k:=?_))|refine WO ?_|refine Ai λX=>?_|refine Ay λY=>?_);refine NL ?_;refine FL ?_;refine RG ?_;(repeat first|refine WO ?_|refine Ai λX=>?_|refine Ay λY=>?_);refine NL ?_;refine FL ?_;refine AR rfl rfl ?_;(repeat first|refine WK ?_|refine Ai λX=>?_|refine Ay λY=>?_);refine RT ?_;exact AS [iA 4] (stE k l) ⟨rfl,rfl⟩
theorem QE(k:StK)(l:List (Int×List Int))(hl:ColOK l)(n:Int)(hn:I64 n):Spec Tryz.prog 298 [.ptr k.X 0 0,iA n] (stS k l) λr S'=>r=iA (if n∈AC l then 0 else 4)/\S'=stS k (A4 l n):=by
 have hlen:=hl.len;by_cases hk:n∈AC l
 ·rw[if_pos hk]
  obtain⟨u,hu⟩:=Dw hk;have hi:=Dv hk;obtain⟨⟨en,ev⟩,he⟩:=Hk (l:=l) (by omega);have hdl:=H0 hk;have hdr:A4 l n=(l.set ((AC l).idxOf n) (en,ev)).take (l.length-1):=by unfold A4;rw[if_pos hk,he]
  rw[hdr]at hdl⊢;have hix:=CW hk;obtain⟨i,hi2⟩:∃i,(AC l).idxOf n=i:=⟨_,rfl⟩;rw[hi2]at hi hu hix hdl⊢;have hkl:(AC l).length=l.length:=List.length_map _;have hki:(AC l)[i]?=some n:=by rw[AC,List.getElem?_map,hu];rfl
  have hke:(AC l)[(AC l).length-1]?=some en:=by rw[hkl,AC,List.getElem?_map,he];rfl
  have hgd:=Lb hl.nd hki hke;have h1:(ixG (AC l) n).getD (.int .i64 0)= .int .i64 (i:Nat):=by rw[hix];rfl
  have h2:(ixG (AC l) n).isSome=true:=by rw[hix];rfl
  have hem:en∈AC l:=List.mem_of_getElem? hke;have hen:=hl.lt en hem;have h3:(ixG (AC l) en).isSome=true:=by rw[CW hem];rfl
  have hsz:(if(ixG (AC l) en).isSome then l.length else l.length+1)=l.length:=by rw[h3];rfl
  have h4:(DT (ixG (AC l)) en (.int .i64 (i:Nat)) n).isSome=true:=by
   unfold DT;split
   ·rfl
   ·exact h2
  have hsz2:(if(DT (ixG (AC l)) en (.int .i64 (i:Nat)) n).isSome then l.length else l.length)=l.length:=by split<;>rfl
  have hsz3:(if(DT (ixG (AC l)) en (.int .i64 (i:Nat)) n).isSome then l.length-1 else l.length)=l.length-1:=by rw[h4];rfl
  have hmx:l.length<maxLen:=by unfold maxLen;omega
  have hmi:i<maxLen:=by unfold maxLen;omega
  have hr1:(l.map λe=>iA e.1)[l.length-1]?=some (iA en):=by rw[List.getElem?_map,he];rfl
  have hv1:(l.map λe=>AQ false e.2)[l.length-1]?=some (AQ false ev):=by rw[List.getElem?_map,he];rfl
  have hrs:(l.map λe=>iA e.1).set i (iA en)=(l.set i (en,ev)).map λe=>iA e.1:=by rw[List.map_set]
  have hvs:(l.map λe=>AQ false e.2).set i (AQ false ev)=(l.set i (en,ev)).map λe=>AQ false e.2:=by rw[List.map_set]
  have hri:((l.set i (en,ev)).map λe=>iA e.1)[i]?=some (iA en):=by rw[List.getElem?_map,List.getElem?_set_self hi];rfl
  have hrl:(l.map λe=>iA e.1).length=l.length:=List.length_map _;have hvl:(l.map λe=>AQ false e.2).length=l.length:=List.length_map _
  have hvz:((l.set i (en,ev)).map λe=>AQ false e.2)[l.length-1]?=some (AQ false ev):=by
   rw[List.getElem?_map];by_cases h:i=l.length-1
   ·rw[<-h,List.getElem?_set_self hi];rfl
   ·rw[List.getElem?_set_ne h,he];rfl
  have hvt:(((l.set i (en,ev)).map λe=>AQ false e.2).set (l.length-1) (.prim (.slice none 0 0))).take (l.length-1)=((l.set i (en,ev)).take (l.length-1)).map λe=>AQ false e.2:=by
   rw[List.take_set_of_le (Nat.le_refl _),List.map_take]
  have hrt:((l.set i (en,ev)).map λe=>iA e.1).take (l.length-1)=((l.set i (en,ev)).take (l.length-1)).map λe=>iA e.1:=by rw[List.map_take]
  have hkt:ixG (((AC l).set i en).take ((AC l).length-1))=ixG (AC ((l.set i (en,ev)).take (l.length-1))):=by
   rw[hkl,AC,AC,List.map_take,List.map_set]
  refine Spec.of (nt:=94) (res:=[.tmp 4]) Tryz.func298 rfl (by kernel_rfl) rfl rfl rfl λSf=>?_
  refine RG ?_;(repeat first|refine WO ?_|refine Ai λX=>?_|refine Ay λY=>?_);refine NL ?_;refine FL ?_;refine RG ?_;(repeat first|(refine AOps.gN ?_;first|refine AOps.go (h:=DP _ _ h1 h2 hn rfl rfl (by exact At.f)) (k:=?_))|refine WO ?_|refine Ai λX=>?_|refine Ay λY=>?_);refine NL ?_;refine FL ?_;refine RG ?_;(repeat first|refine WO ?_|refine Ai λX=>?_|refine Ay λY=>?_);refine NL ?_;refine FL ?_;refine AE rfl rfl ?_;refine FL ?_;refine RG ?_;(repeat first|(refine AOps.gN ?_;first|refine AOps.go (h:=AZ ((l.length-1:Nat):Int) (by omega) (by omega) rfl rfl) (k:=?_))|refine WO ?_|refine Ai λX=>?_|refine Ay λY=>?_);refine NL ?_;refine FL ?_;refine RU ?_;(repeat first|(refine RGo.gN ?_;first|refine RGo.go (h:=W.idx (a:=l.length-1) rfl rfl (by exact At.f) rfl (by omega) (Nat.zero_add _)) (k:=?_)|refine RGo.go (h:=W.idx (a:=i) rfl rfl (by exact At.f) rfl (by omega) (Nat.zero_add _)) (k:=?_))|(refine RGo.gQ ?_;first|refine RGo.go (h:=W.idx (a:=l.length-1) rfl rfl (by exact At.f) rfl (by omega) (Nat.zero_add _)) (k:=?_)|refine RGo.go (h:=W.idx (a:=i) rfl rfl (by exact At.f) rfl (by omega) (Nat.zero_add _)) (k:=?_))|refine RK ?_|refine RGo.nil (by kernel_rfl) ?_);rw[hrs,hvs];refine FL ?_;refine RU ?_;(repeat first|(refine RGo.gN ?_;first|refine RGo.go (h:=W.idx (a:=i) rfl rfl (by exact At.f) rfl (by omega) (Nat.zero_add _)) (k:=?_)|refine RGo.goS (h:=W.mapUpd (PlainV.int (by kernel_rfl) (CQ (by omega))) (by omega) hmx rfl rfl rfl (by exact At.f)) (k:=?_))|(refine RGo.gQ ?_;first|refine RGo.go (h:=W.idx (a:=i) rfl rfl (by exact At.f) rfl (by omega) (Nat.zero_add _)) (k:=?_)|refine RGo.goS (h:=W.mapUpd (PlainV.int (by kernel_rfl) (CQ (by omega))) (by omega) hmx rfl rfl rfl (by exact At.f)) (k:=?_))|refine RK ?_|refine RGo.nil (by kernel_rfl) ?_);rw[hsz];refine FL ?_;refine RG ?_;(repeat first|(refine AOps.gN ?_;first|refine AOps.goS (h:=W.mapDel hn rfl rfl (by exact At.f)) (k:=?_))|refine WO ?_|refine Ai λX=>?_|refine Ay λY=>?_);refine NL ?_;rw[hsz3,hgd];refine FL ?_;refine RG ?_;(repeat first|refine WO ?_|refine Ai λX=>?_|refine Ay λY=>?_);refine NL ?_;refine FL ?_;refine RG ?_;(repeat first|(refine AOps.gN ?_;first|refine AOps.go (h:=W.idx (a:=l.length-1) rfl rfl (by exact At.f) rfl (by omega) (Nat.zero_add _)) (k:=?_))|refine WO ?_|refine Ai λX=>?_|refine Ay λY=>?_);refine NL ?_;refine FL ?_;refine RU ?_;(repeat first|(refine RGo.gN ?_;first|refine RGo.go (h:=W.hi (a:=l.length-1) rfl rfl (by exact At.f) rfl (by omega)) (k:=?_))|(refine RGo.gQ ?_;first|refine RGo.go (h:=W.hi (a:=l.length-1) rfl rfl (by exact At.f) rfl (by omega)) (k:=?_))|refine RK ?_|refine RGo.nil (by kernel_rfl) ?_);refine FL ?_;refine RG ?_;(repeat first|refine WO ?_|refine Ai λX=>?_|refine Ay λY=>?_);refine NL ?_;refine AWP.shrink (X:=k.V) (l.length-1) ?_;refine AWP.shrink (X:=k.R) (l.length-1) ?_;refine AWP.front k.M ?_;refine AWP.front k.R ?_;refine AWP.front k.V ?_;refine AWP.front k.X ?_;refine RT ?_;exact AS [iA 0] _ ⟨rfl,MW (n:=l.length-1) (m:=l.length-1) (c:=l.length-1) hdl.symm hdl.symm hvt hrt hkt hdl.symm⟩
 ·rw[if_neg hk,EJ hk]
  have hix:=EZ hk;have h1:(ixG (AC l) n).getD (.int .i64 0)= .int .i64 0:=by rw[hix];rfl
  have h2:(ixG (AC l) n).isSome=false:=by rw[hix];rfl
  refine Spec.of (nt:=94) (res:=[.tmp 4]) Tryz.func298 rfl (by kernel_rfl) rfl rfl rfl λSf=>?_
  refine RG ?_;(repeat first|refine WO ?_|refine Ai λX=>?_|refine Ay λY=>?_);refine NL ?_;refine FL ?_;refine RG ?_;(repeat first|(refine AOps.gN ?_;first|refine AOps.go (h:=DP _ _ h1 h2 hn rfl rfl (by exact At.f)) (k:=?_))|refine WO ?_|refine Ai λX=>?_|refine Ay λY=>?_);refine NL ?_;refine FL ?_;refine RG ?_;(repeat first|refine WO ?_|refine Ai λX=>?_|refine Ay λY=>?_);refine NL ?_;refine FL ?_;refine AR rfl rfl ?_;(repeat first|refine WK ?_|refine Ai λX=>?_|refine Ay λY=>?_);refine RT ?_;exact AS [iA 4] (stS k l) ⟨rfl,rfl⟩
set_option maxHeartbeats 1000000 in
theorem Mw(X V n i:Nat)(l:List AV)(e:AV)(hn:n=l.length)(hi:i<=n)(hb:(n+1)*8<=140737488355328)(hfr:FreeL l)(hfe:FreeE e)(hw:∀x∈l,x.width=1)(hwe:e.width=1)(hze:Al [e]=[e]):
  Spec Tryz.prog 151 [.sl X 0 n,iA i,.sl V 0 1] [(X,.row 145 1 l),(V,.row 145 1 [e])] λr S'=>r= .lst true 145 1 (l.take i++e::l.drop i)/\S'=[]:=by
 refine Spec.of (nt:=95) (res:=[.tmp 6]) Tryz.func151 rfl (by kernel_rfl) rfl rfl rfl λSf=>?_
 have hfV:FreeL [e]:=λx hx=>by rw[List.mem_singleton.1 hx];exact hfe
 have hwV:∀x∈[e],x.width=1:=λx hx=>by rw[List.mem_singleton.1 hx];exact hwe
 refine RG ?_;(repeat first|refine WO ?_|refine Ai λX=>?_|refine Ay λY=>?_);refine NL ?_;refine RG ?_;(repeat first|(refine AOps.gN ?_;first|refine AOps.p (W.slice_lo rfl rfl (by exact At.f) rfl (by omega)) rfl ?_)|refine WO ?_|refine Ai λX=>?_|refine Ay λY=>?_);refine NL ?_;refine RG ?_;(repeat first|refine WO ?_|refine Ai λX=>?_|refine Ay λY=>?_);refine NL ?_;refine RG ?_;(repeat first|refine WO ?_|refine Ai λX=>?_|refine Ay λY=>?_);refine NL ?_;refine AE rfl rfl ?_;refine RG ?_;(repeat first|refine WO ?_|refine Ai λX=>?_|refine Ay λY=>?_);refine NL ?_;refine RG ?_;(repeat first|refine WO ?_|refine Ai λX=>?_|refine Ay λY=>?_);refine NL ?_;by_cases hin:i=n
 ·refine AR rfl (decide_eq_true (by omega)) ?_
  refine MG 2 [e] hze ?_;have hbb:(n+[e].length)*8<=140737488355328:=hb;(repeat first|refine WK ?_|refine Ai λX=>?_|refine Ay λY=>?_);refine RT ?_;have hm:n+[e].length=(l++[e]).length:=by rw[List.length_append,hn]
  have hr:l++[e]=l.take i++e::l.drop i:=by rw[hin,hn,List.take_length,List.drop_length]
  rw[<-hr];exact⟨[.sl Y 0 (n+[e].length)],[.lst true 145 1 (l++[e])],_,[],.cons (.tmp rfl) rfl .nil,.cons (.cell (.sl (p:=0) .here hm)) .nil,by exact Sub.f,rfl,rfl⟩
 ·refine AE rfl (decide_eq_false (by omega)) ?_
  refine AWP.cap X λZ c u0 hc hnc=>?_
  refine RG ?_;(repeat first|(refine AOps.gN ?_;first|refine AOps.p (W.cap hc rfl (by exact At.f) (by exact At.f)) rfl ?_)|refine WO ?_|refine Ai λX=>?_|refine Ay λY=>?_);refine NL ?_;refine AWP.cond rfl (λhg=>?_) (λhg=>?_)
  ·have hcn:c<n+1:=by rw[decide_eq_true_eq]at hg;omega
   refine AWP.rs λY=>?_
   refine RG ?_;(repeat first|(refine AOps.gN ?_;first|refine AOps.p (W.hi (a:=i) rfl rfl (by exact At.f) rfl hi) rfl ?_|refine AOps.p (AZ ((n+1-i:Nat):Int) (by omega) (by omega) rfl rfl) rfl ?_|refine AOps.s (Rn (n+1-i) hc rfl rfl (by exact At.f) (by exact At.f) (by exact At.f) rfl (by exact .inr rfl) (by rfl) (by kernel_rfl) (by omega) (by omega) (by decide) (by omega) (by omega) hfr) rfl ?_)|refine WO ?_|refine Ai λX=>?_|refine Ay λY=>?_);have hsum:i+(n+1-i)=n+1:=by omega
   obtain⟨l1,hl1⟩:∃l1,l.take i++List.replicate (n+1-i) (zAV [.pointer none] false)=l1:=⟨_,rfl⟩;have hti:(l.take i).length=i:=by rw[List.length_take];omega
   have hl1n:l1.length=n+1:=by rw[<-hl1,List.length_append,hti,List.length_replicate,hsum]
   have hfr1:FreeL l1:=λx hx=>by
    rw[<-hl1]at hx;rcases List.mem_append.1 hx with hx|hx
    ·exact hfr x (List.mem_of_mem_take hx)
    ·rw[List.eq_of_mem_replicate hx]
     exact FreeE.prim _
   have htk:l1.take i=l.take i:=by rw[<-hl1,List.take_left' hti]
   rw[hl1,hsum];refine FL ?_;refine RG ?_;(repeat first|(refine AOps.gN ?_;first|refine AOps.p (W.slice_lo rfl rfl (by exact At.f) rfl (by omega)) rfl ?_|refine AOps.s (W.copyO 1 rfl rfl (by exact At.f) (by exact At.f) (by rfl) (by omega) (by omega) (by omega) (by omega) (by exact Nat.le_refl _) hfr1 hfV hwV) rfl ?_)|refine WO ?_|refine Ai λX=>?_|refine Ay λY=>?_);obtain⟨l2,hl2⟩:∃l2,l1.take (0+i)++([e].drop 0).take 1++l1.drop (0+i+1)=l2:=⟨_,rfl⟩;rw[hl2];have hl2n:l2.length=n+1:=by rw[<-hl2];simp only[List.length_append,List.length_take,List.length_drop,List.length_singleton];omega
   have hfr2:FreeL l2:=λx hx=>by
    rw[<-hl2]at hx;rcases List.mem_append.1 hx with hx|hx
    ·rcases List.mem_append.1 hx with hx|hx
     ·exact hfr1 x (List.mem_of_mem_take hx)
     ·exact hfV x (List.mem_of_mem_drop (List.mem_of_mem_take hx))
    ·exact hfr1 x (List.mem_of_mem_drop hx)
   have htk2:l2.take (0+(i+1))=l.take i++[e]:=by
    rw[<-hl2,Nat.zero_add,Nat.zero_add,htk];exact List.take_left' (by simp[hti])
   refine FL ?_;refine RU ?_;(repeat first|(refine RGo.gN ?_;first|refine RGo.go (h:=Ap ((i+1:Nat):Int) (by omega) (by omega) rfl rfl) (k:=?_)|refine RGo.go (h:=W.slice_lo rfl rfl (by exact At.f) rfl (by omega)) (k:=?_)|refine RGo.goS (h:=W.copyO (n-i) rfl rfl (by exact At.f) (by exact At.f) (by rfl) (by omega) (by omega) (by omega) (by omega) (by omega) hfr2 hfr hw) (k:=?_))|(refine RGo.gQ ?_;first|refine RGo.go (h:=Ap ((i+1:Nat):Int) (by omega) (by omega) rfl rfl) (k:=?_)|refine RGo.go (h:=W.slice_lo rfl rfl (by exact At.f) rfl (by omega)) (k:=?_)|refine RGo.goS (h:=W.copyO (n-i) rfl rfl (by exact At.f) (by exact At.f) (by rfl) (by omega) (by omega) (by omega) (by omega) (by omega) hfr2 hfr hw) (k:=?_))|refine RK ?_|refine RGo.nil (by kernel_rfl) ?_);obtain⟨l3,hl3⟩:∃l3,l2.take (0+(i+1))++(l.drop (0+i)).take (n-i)++l2.drop (0+(i+1)+(n-i))=l3:=⟨_,rfl⟩;rw[hl3]
   have hr:l3=l.take i++e::l.drop i:=by
    have e1:l2.drop (0+(i+1)+(n-i))=[]:=List.drop_of_length_le (by omega);have e2:(l.drop (0+i)).take (n-i)=l.drop i:=by rw[Nat.zero_add];exact List.take_of_length_le (by rw[List.length_drop];omega)
    rw[<-hl3,htk2,e1,e2,List.append_nil,List.append_assoc];rfl
   have hm:n+1=l3.length:=by
    rw[hr];simp only[List.length_append,List.length_cons,List.length_drop,hti];omega
   (repeat first|refine WK ?_|refine Ai λX=>?_|refine Ay λY=>?_);refine RT ?_;rw[<-hr];exact⟨[.sl Y 0 (n+1)],[.lst true 145 1 l3],_,[],.cons (.tmp rfl) rfl .nil,.cons (.cell (.sl (p:=0) .here hm)) .nil,by exact Sub.f,rfl,rfl⟩
  ·have hcn:n+1<=c:=by rw[decide_eq_false_iff_not]at hg;omega
   refine RG ?_;(repeat first|(refine AOps.gN ?_;first|refine AOps.p (QW (n+1) hc rfl rfl (by exact At.f) (by exact At.f) (by omega) hcn) rfl ?_)|refine WO ?_|refine Ai λX=>?_|refine Ay λY=>?_);refine NL ?_;refine RG ?_;(repeat first|(refine AOps.gN ?_;first|refine AOps.p (Ap ((i+1:Nat):Int) (by omega) (by omega) rfl rfl) rfl ?_|refine AOps.p (W.slice_lo rfl rfl (by exact At.f) rfl (by omega)) rfl ?_)|refine WO ?_|refine Ai λX=>?_|refine Ay λY=>?_);refine AOps.p (W.over (t:=141) (tR:=4) Tryz.func210 (by kernel_rfl) (by kernel_rfl) (by kernel_rfl) (by kernel_rfl) rfl rfl (by exact At.f) (by exact At.f) (by rfl) (by decide) (by omega) (by omega)) rfl ?_;(repeat first|refine WO ?_|refine Ai λX=>?_|refine Ay λY=>?_);refine FL ?_;refine AR rfl rfl ?_;refine RU ?_;(repeat first|(refine RGo.gN ?_;first|refine RGo.go (h:=Ap ((i+1:Nat):Int) (by omega) (by omega) rfl rfl) (k:=?_)|refine RGo.go (h:=W.slice_lo rfl rfl (by exact At.f) rfl (by omega)) (k:=?_)|refine RGo.goS (h:=W.copyS (n-i) rfl rfl (by exact At.f) (by omega) (by omega) (by omega) (by omega) (by omega) hfr hw) (k:=?_))|(refine RGo.gQ ?_;first|refine RGo.go (h:=Ap ((i+1:Nat):Int) (by omega) (by omega) rfl rfl) (k:=?_)|refine RGo.go (h:=W.slice_lo rfl rfl (by exact At.f) rfl (by omega)) (k:=?_)|refine RGo.goS (h:=W.copyS (n-i) rfl rfl (by exact At.f) (by omega) (by omega) (by omega) (by omega) (by omega) hfr hw) (k:=?_))|refine RK ?_|refine RGo.nil (by kernel_rfl) ?_);have hti:(l.take i).length=i:=by rw[List.length_take];omega
   obtain⟨l1,hl1⟩:∃l1,l.take (0+(i+1))++(l.drop (0+i)).take (n-i)++l.drop (0+(i+1)+(n-i))=l1:=⟨_,rfl⟩;rw[hl1];have hti1:(l.take (i+1)).length=i+1:=by rw[List.length_take];omega
   have hl1e:l1=l.take (i+1)++l.drop i:=by
    have e1:l.drop (0+(i+1)+(n-i))=[]:=List.drop_of_length_le (by omega);have e2:(l.drop (0+i)).take (n-i)=l.drop i:=by rw[Nat.zero_add];exact List.take_of_length_le (by rw[List.length_drop];omega)
    rw[<-hl1,e1,e2,List.append_nil,Nat.zero_add]
   have hfr1:FreeL l1:=λx hx=>by
    rw[hl1e]at hx;rcases List.mem_append.1 hx with hx|hx
    ·exact hfr x (List.mem_of_mem_take hx)
    ·exact hfr x (List.mem_of_mem_drop hx)
   have hl1n:l1.length=n+1:=by rw[hl1e,List.length_append,hti1,List.length_drop];omega
   have htk:l1.take i=l.take i:=by rw[hl1e,List.take_append_of_le_length (by omega),List.take_take,Nat.min_eq_left (by omega)]
   have hdr:l1.drop (i+1)=l.drop i:=by rw[hl1e,List.drop_left' hti1]
   refine RG ?_;(repeat first|(refine AOps.gN ?_;first|refine AOps.p (W.slice_lo rfl rfl (by exact At.f) rfl (by omega)) rfl ?_|refine AOps.s (W.copyO 1 rfl rfl (by exact At.f) (by exact At.f) (by rfl) (by omega) (by omega) (by omega) (by omega) (by exact Nat.le_refl _) hfr1 hfV hwV) rfl ?_)|refine WO ?_|refine Ai λX=>?_|refine Ay λY=>?_);obtain⟨l2,hl2⟩:∃l2,l1.take (0+i)++([e].drop 0).take 1++l1.drop (0+i+1)=l2:=⟨_,rfl⟩;rw[hl2]
   have hr:l2=l.take i++e::l.drop i:=by
    rw[<-hl2,Nat.zero_add,htk,hdr,List.append_assoc];rfl
   have hm:n+1=l2.length:=by
    rw[hr];simp only[List.length_append,List.length_cons,List.length_drop,hti];omega
   refine FL ?_;(repeat first|refine WK ?_|refine Ai λX=>?_|refine Ay λY=>?_);refine RT ?_;rw[<-hr];exact⟨[.sl X 0 (n+1)],[.lst true 145 1 l2],_,[],.cons (.tmp rfl) rfl .nil,.cons (.cell (.sl (p:=1) (.next .here) hm)) .nil,by exact Sub.f,rfl,rfl⟩
instance tPtrT:TPtr Tryz.prog 145:=⟨151,by kernel_rfl,by kernel_rfl⟩
instance mapIT:TMap Tryz.prog 140 3 145 (.pointer none):=⟨by kernel_rfl,by kernel_rfl,λw=>by kernel_rfl,PlainV.nil (te:=151) (by kernel_rfl)⟩
theorem LH(x:Nat):FreeE (.ptr x 0 0):=λm c bs k=>by
 simp only[VC]at k;exact k.1
theorem PV(A B1 B2 C Z:List AB):(A++(B1++(B2++(C++Z)))).Perm (B1++(B2++((C++(A++[]))++Z))):=by
 rw[List.append_nil];have:=BZ A (B1++(B2++C)) Z;simpa[List.append_assoc]using this
theorem Spec.tt{P:Program}{f:FuncId}{args:List AV}{S:List AB}{β:Type}{r:β->AV}{So:β->List AB}(h:Spec P f args S λr' S'=>∃q,r'=r q/\S'=So q):Spec P f args S λr' S'=>∃q,(λ_:β=>True) q/\r'=r q/\S'=So q:=h.mono λr' S' ⟨q,h⟩=>⟨q,trivial,h⟩
theorem OG{ts:List Tab}{t:Tab}(h:t∈ts):∃R,(Aq ts).Perm ([DC t]++R):=by
 obtain⟨l1,l2,rfl⟩:=List.append_of_mem h;refine⟨(stE t.ek t.es++BE t.cs)++(Aq l1++Aq l2),?_⟩;have:=Ci (l1:=l1) (l2:=l2) (t:=t) [];simp only[List.append_nil]at this;exact this
theorem QV(ts:List Tab)(t:Tab)(ht:t∈ts)(ks:List Int)(hl:t.ks.length<=1099511627776):Spec Tryz.prog 147 [.ptr t.X 0 0,AQ false ks] (Aq ts) λr S'=>r=iA (Bx t.ks ks)/\S'=Aq ts:=by
 obtain⟨R,hp⟩:=OG ht;refine Spec.perm ((Rm t ks hl).beside R) hp λr S' hq=>?_
 obtain⟨S1,e1,e2,e3⟩:=hq;refine⟨Aq ts,?_,e2,rfl⟩;rw[e1,e3];exact hp.symm
set_option maxRecDepth 8000 in
set_option maxHeartbeats 4000000 in
theorem I3(a:Ar)(e:Ent)(l:List Comp)(ha:ArOK a)(hne:Dg a.ts)(hn:0<=e.n/\e.n<256)(hf:e.n∉Av a.ts)(hl:l.length<=16):
  Spec Tryz.prog 73 [.ptr a.A 0 0,AX e,Aj false false l] (arS a) λr S'=>∃b:Ar,(ArOK b/\Dg b.ts/\b.A=a.A/\b.kinds=a.kinds/\b.gens=a.gens/\(AU b.ts).Perm (⟨e,l⟩::AU a.ts))/\r= .tup []/\S'=arS b:=by
 obtain⟨ks,hks⟩:∃ks,l.map (·.kind)=ks:=⟨_,rfl⟩;have hkl:ks.length=l.length:=by rw[<-hks,List.length_map]
 have hkm:(ks.map iA).length=ks.length:=List.length_map _;have hko:=Ms l (by omega);rw[hks]at hko;have htl:=ha.ts_le hne;have hsr:=Md a.Tb a.ts Tab.X (Aq a.ts) ks 147 (λt:Tab=>Bx t.ks ks) (by omega) (λt ht=>QV a.ts t ht ks (by have:=(ha.tab t ht).ks;omega));refine Spec.of (nt:=98) (res:=[]) Tryz.func73 rfl (by kernel_rfl) rfl rfl rfl λSf=>?_
 refine RG ?_;(repeat first|refine WO ?_|refine Ai λB=>?_|refine Ay λY=>?_);refine NL ?_;refine FL ?_;refine RG ?_;(repeat first|(refine AOps.gN ?_;first|(refine AOps.g_callf ?_;first|refine AOps.c1 (h:=(hko ..)) (k:=?_)))|refine WO ?_|refine Ai λX=>?_|refine Ay λY=>?_);refine NL ?_;refine FL ?_;refine RG ?_;(repeat first|(refine AOps.gN ?_;first|refine DB [_,_,_,_,_] (h:=hsr) λb hb=>?_)|refine WO ?_|refine Ai λX=>?_|refine Ay λY=>?_);obtain⟨i,fd⟩:=b;dsimp only;(repeat first|refine WO ?_|refine Ai λX=>?_|refine Ay λY=>?_);refine AOps.nil ?_;refine FL ?_;refine RG ?_;(repeat first|refine WO ?_|refine Ai λX=>?_|refine Ay λY=>?_);refine NL ?_;refine FL ?_;refine HB (λz:Ar×List Tab×Tab×List Tab=>ArOK z.1/\z.1.ts=z.2.1++z.2.2.1::z.2.2.2/\z.2.2.1.ks=ks/\Dg z.2.1/\Dg z.2.2.2/\z.2.1.length=i/\z.1.A=a.A/\z.1.kinds=a.kinds/\z.1.gens=a.gens/\Av z.1.ts=Av a.ts/\AU z.1.ts=AU a.ts) (λz=>⟨[(0,.ptr a.A 0 0),(2,Aj false false l),(4,.ptr B 0 0),(7,iA i)],(B,.row 32 2 [AX e])::(arS z.1++Sf)⟩) ?_ ?_
 ·cases fd with
  |true=>
   refine AE rfl rfl ?_;obtain⟨t,ht,hz⟩:=hb.eq.1 rfl;obtain⟨hi,rfl⟩:=List.getElem?_eq_some_iff.1 ht;obtain⟨l1,l2,e1,e2⟩:=EK hi;have h1:Dg l1:=λu hu=>hne u (by rw[e1];simp[hu])
   have h2:Dg l2:=λu hu=>hne u (by rw[e1];simp[hu])
   (repeat first|refine WK ?_|refine Ai λX=>?_|refine Ay λY=>?_);refine jnR (a,l1,a.ts[i],l2) ⟨ha,e1,cmpL_zero.1 hz,h1,h2,e2,rfl,rfl,rfl,rfl,rfl⟩ ⟨by exact Lk.f,?_⟩;simp only[arS,List.cons_append,List.nil_append];exact List.Sublist.refl _
  |false=>
   refine AR rfl rfl ?_;refine FL ?_;refine RG ?_;(repeat first|(refine AOps.gN ?_;first|refine Ry (C:=λ_=>True) [] (h:=newE_sp.mono λr' S' ⟨k,e1,e2⟩=>⟨k,trivial,e1,e2⟩) λek _=>?_)|refine WO ?_|refine Ai λX=>?_|refine Ay λY=>?_);refine AOps.nil ?_;refine FL ?_;refine AWP.adoptIn (Y:=X) 252 1 .here (λC=>.cons (.agg (.cons .same (.cons .same (.cons (.base .nil) .nil)))) .nil) λC=>?_
   refine RG ?_;(repeat first|refine WO ?_|refine Ai λX=>?_|refine Ay λY=>?_);refine NL ?_;refine FL ?_;refine AWP.front ek.M ?_;refine AWP.front ek.R ?_;refine AWP.front ek.V ?_;refine AWP.front ek.X ?_;refine AWP.front B ?_;refine AWP.front X ?_;refine AWP.front C ?_;refine DR (λ(j C:Nat) (cs:List (StK×List (Int×List Int)))=>⟨[(0,.ptr a.A 0 0),(2,Aj false false l),(4,.ptr B 0 0),(6,AQ false ks),(7,iA i),(9,.ptr X 0 0),(31,iA (ks.map iA).length),(32,iA j)],(C,.row 252 1 (cs.map λc=>.ptr c.1.X 0 0))::(X,.row 151 3 [.agg [AQ false ks,.ptr ek.X 0 0,.sl C 0 cs.length]])::(B,.row 32 2 [AX e])::(stE ek []++(arH a++(BE cs++(Aq a.ts++Sf))))⟩) (λj C cs=>j<=ks.length/\cs.length=j/\∀c∈cs,c.2=[]) (λj _ _=>ks.length-j) 0 C [] ⟨by omega,rfl,by simp⟩ ?_;rintro j C cs ⟨hj,hcl,hce⟩;have hpl:(cs.map λc=>AV.ptr c.1.X 0 0).length=cs.length:=List.length_map _;refine RG ?_;(repeat first|refine WO ?_|refine Ai λX=>?_|refine Ay λY=>?_);refine NL ?_;refine FL ?_;refine AWP.cond rfl (λh=>?_) (λh=>?_)
   ·have h:j<ks.length:=by rw[decide_eq_true_eq,hkm]at h;omega
    refine FL ?_;refine AWP.rs λY1=>AWP.rs λY2=>AWP.rs λY3=>AWP.rs λY4=>AWP.rs λY5=>?_
    (repeat refine WF ?_);refine Hg (by kernel_rfl) (by kernel_rfl) ?_;(repeat refine RGoE.go ?_);refine Rp Y1 Y2 Y3 Y4 ⟨0,0,0,0⟩ Q8 λk=>?_
    (repeat first|(refine RGo.gN ?_;first|(refine RGo.g_lit ?_;refine RGo.goL (AV.ptr k.X 0 0) ?_))|(refine RGo.gQ ?_;first|(refine RGo.g_lit ?_;refine RGo.goL (AV.ptr k.X 0 0) ?_))|refine RK ?_|refine RGo.nil (by kernel_rfl) ?_);have hma:(cs.map λc=>AV.ptr c.1.X 0 0)++[AV.ptr k.X 0 0]=(cs++[(k,([]:List (Int×List Int)))]).map λc=>AV.ptr c.1.X 0 0:=by rw[List.map_append];rfl
    have hml:cs.length+[AV.ptr k.X 0 0].length=(cs++[(k,([]:List (Int×List Int)))]).length:=by rw[List.length_append];rfl
    rw[hma,hml];refine FL ?_;refine AWP.front k.M ?_;refine AWP.front k.R ?_;refine AWP.front k.V ?_;refine AWP.front k.X ?_;refine AWP.front B ?_;refine AWP.front C ?_;refine AWP.front X ?_;refine AWP.front Y5 ?_;refine AWP.perm (S':=(Y5,.row 252 1 ((cs++[(k,([]:List (Int×List Int)))]).map λc=>AV.ptr c.1.X 0 0))::(X,.row 151 3 [.agg [AQ false ks,.ptr ek.X 0 0,.sl Y5 0 (cs++[(k,([]:List (Int×List Int)))]).length]])::(C,.used)::(B,.row 32 2 [AX e])::(stE ek []++(arH a++(BE (cs++[(k,([]:List (Int×List Int)))])++(Aq a.ts++Sf))))) ?_ ?_
    ·refine List.Perm.cons _ (List.Perm.cons _ (List.Perm.cons _ (List.Perm.cons _ ?_)))
     rw[Cn,Ch];exact PV (stS k []) (stE ek []) (arH a) (BE cs) (Aq a.ts++Sf)
    ·refine RG ?_;(repeat first|refine WO ?_|refine Ai λX=>?_|refine Ay λY=>?_);refine NL ?_
     exact B6 (j+1) Y5 (cs++[(k,[])]) ⟨by omega,by rw[List.length_append,hcl];rfl,λc hc=>by
      rcases List.mem_append.1 hc with hc|hc
      ·exact hce c hc
      ·rw[List.mem_singleton]at hc;subst hc;rfl⟩ (by omega)
   ·have h:j=ks.length:=by rw[decide_eq_false_iff_not,hkm]at h;omega
    have hF:Al (((cs.map λc=>AV.ptr c.1.X 0 0).drop 0).take cs.length)=cs.map λc=>AV.ptr c.1.X 0 0:=by
     rw[List.drop_zero,List.take_of_length_le (by omega),Dy,List.map_map];rfl
    refine FL ?_;refine AWP.iceIn (X:=C) (Y:=X) .here (.next .here) rfl (.cons (.agg (.cons .same (.cons .same (.cons (.base (.sl (by omega))) .nil)))) .nil) ?_;rw[hF];have hi:=hb.le;dsimp only at hi;have hpt:(ptrs Tab.X a.ts).length=a.ts.length:=List.length_map _;refine AWP.rs λY=>AWP.rs λK2=>?_
    refine RG ?_;(repeat first|(refine AOps.gN ?_;first|refine AOps.s (W.lit1 (X:=K2) (l:=[.ptr X 0 0]) (by exact rfl) (by exact At.f) (by exact rfl) (by exact .inr rfl) (by decide) (by decide) (by exact rfl)) rfl ?_)|refine WO ?_|refine Ai λX=>?_|refine Ay λY=>?_);have hfq:FreeL (ptrs Tab.X a.ts):=λx hx=>by obtain⟨y,_,rfl⟩:=List.mem_map.1 hx;exact LH _
    have hwq:∀x∈ptrs Tab.X a.ts,x.width=1:=λx hx=>by obtain⟨y,_,rfl⟩:=List.mem_map.1 hx;rfl
    have hins:=(Mw a.Tb K2 a.ts.length i (ptrs Tab.X a.ts) (.ptr X 0 0) hpt.symm hi (by omega) hfq (LH _) hwq rfl rfl).used2;refine Rt (h:=hins) (hT:=.ls (Y:=Y)) (k:=?_);(repeat first|refine WO ?_|refine Ai λX=>?_|refine Ay λY=>?_);obtain⟨t',ht'⟩:∃t':Tab,t'=⟨X,ks,ek,[],cs⟩:=⟨_,rfl⟩
    have hrow:(ptrs Tab.X a.ts).take i++ .ptr X 0 0::(ptrs Tab.X a.ts).drop i=ptrs Tab.X (a.ts.take i++t'::a.ts.drop i):=by
     rw[ptrs,ptrs,List.map_append,List.map_take,List.map_cons,List.map_drop,ht']
    have hrl:(ptrs Tab.X (a.ts.take i++t'::a.ts.drop i)).length=(a.ts.take i++t'::a.ts.drop i).length:=List.length_map _;rw[hrow,hrl];dsimp only[AM,List.set_cons_zero,List.set_cons_succ,List.cons_append,List.nil_append];refine AOps.front ek.M ?_;refine AOps.front ek.R ?_;refine AOps.front ek.V ?_;refine AOps.front ek.X ?_;refine AOps.front X ?_;refine AOps.front Y ?_;refine AOps.front a.Tv ?_;refine AOps.front a.O ?_;refine AOps.front a.G ?_;refine AOps.front a.A ?_;refine AOps.front B ?_;refine AOps.front a.Tb ?_;refine AOps.front C ?_;refine AOps.front K2 ?_;obtain⟨a',ha'⟩:∃a':Ar,a'={a with Tb:=Y,ts:=a.ts.take i++t'::a.ts.drop i}:=⟨_,rfl⟩
    have htok:TabOK t':=by
     rw[ht'];exact⟨by dsimp only;omega,by dsimp only;omega,⟨List.nodup_nil,by simp⟩,λc hc=>by rw[hce c hc];exact⟨List.nodup_nil,by simp⟩,λc hc n=>by rw[hce c hc];exact Iff.rfl⟩
    have hte:t'.es=[]:=by rw[ht']
    have htk:t'.ks=ks:=by rw[ht']
    have hb':Found (λu:Tab=>Bx u.ks t'.ks) a.ts (i,false):=by rw[htk];exact hb
    have hok:ArOK a':=by rw[ha'];exact ha.newT htok hte hb'
    refine AOps.perm (S':=(K2,.used)::(C,.used)::(a.Tb,.used)::(B,.row 32 2 [AX e])::(arS a'++Sf)) ?_ ?_
    ·refine List.Perm.cons _ (List.Perm.cons _ (List.Perm.cons _ (List.Perm.cons _ ?_)))
     subst ha';refine List.Perm.cons _ (List.Perm.cons _ (List.Perm.cons _ (List.Perm.cons _ (List.Perm.cons _ ?_))));have hz:=Ci (l1:=a.ts.take i) (l2:=a.ts.drop i) (t:=t') Sf;have hz2:Aq (a.ts.take i)++(Aq (a.ts.drop i)++Sf)=Aq a.ts++Sf:=by rw[<-List.append_assoc,<-E9,List.take_append_drop]
     rw[hz2]at hz;subst ht';exact hz.symm
    ·refine AOps.nil ?_
     refine FL ?_;subst ha';refine jnR ({a with Tb:=Y,ts:=a.ts.take i++t'::a.ts.drop i},a.ts.take i,t',a.ts.drop i) ⟨hok,rfl,htk,λu hu=>hne u (List.mem_of_mem_take hu),λu hu=>hne u (List.mem_of_mem_drop hu),by rw[List.length_take];omega,rfl,rfl,rfl,Ob hte,Mu hte⟩ ⟨by exact Lk.f,?_⟩;exact .cons _ (.cons _ (.cons _ (.refl _)))
 ·rintro⟨a',l1,t,l2⟩ ⟨hok,hts,htk,hn1,hn2,hil,hA,hki,hge,hke,hit⟩
  dsimp only at hok hts htk hn1 hn2 hil hA hki hge hke hit⊢;rw[<-hA];obtain⟨Z,hZ⟩:∃Z,Aq l1++(Aq l2++Sf)=Z:=⟨_,rfl⟩;have hop:=Ci (l1:=l1) (l2:=l2) (t:=t) Sf;rw[<-hts,hZ]at hop;refine AWP.perm (S':=(B,.row 32 2 [AX e])::(arH a'++(Db t++Z))) ?_ ?_
  ·refine List.Perm.cons _ ?_
   rw[arS,List.append_assoc];exact hop.append_left _
  have htm:t∈a'.ts:=by rw[hts];simp
  have hto:=hok.tab t htm
  have hat:(ptrs Tab.X a'.ts)[i]?=some (.ptr t.X 0 0):=by
   rw[List.getElem?_map,hts,List.getElem?_append_right (by omega),hil,Nat.sub_self];rfl
  have hil2:i<a'.ts.length:=by rw[hts,List.length_append,List.length_cons];omega
  have hft:e.n∉AC t.es:=λhm=>hf (by rw[<-hke];exact List.mem_flatMap.2 ⟨t,htm,hm⟩)
  have hpe:=(QH t.ek t.es hto.es e.n e hn).tt;have hlm:(l.map (AD false)).length=l.length:=List.length_map _;have hlc:t.cs.length=l.length:=by rw[<-hto.len,htk,hkl]
  refine FL ?_;refine RG ?_;(repeat first|(refine AOps.gN ?_;first|refine AOps.go (h:=W.idx rfl rfl (by exact At.f) rfl (by omega) (Nat.zero_add _)) (k:=?_))|refine WO ?_|refine Ai λX=>?_|refine Ay λY=>?_);refine NL ?_;refine FL ?_;(repeat refine WF ?_);refine DY 7 (by kernel_rfl) (by kernel_rfl) (by kernel_rfl) ?_;dsimp only[List.take,List.drop];(repeat first|refine RK ?_|refine RGo.nil (by kernel_rfl) ?_);refine DB [_,_,_,_,_,_,_] (h:=hpe) λq _=>?_
  refine AOps.nil ?_;obtain⟨k',hk'⟩:∃k':StK,k'=⟨t.ek.X,q.1,q.2,t.ek.M⟩:=⟨_,rfl⟩;rw[<-hk'];refine FL ?_;refine RG ?_;(repeat first|refine WO ?_|refine Ai λX=>?_|refine Ay λY=>?_);refine NL ?_;refine FL ?_;refine BI (λ(j:Nat) (cs:List (StK×List (Int×List Int)))=>⟨[(0,.ptr a'.A 0 0),(4,.ptr B 0 0),(10,.ptr t.X 0 0),(71,Aj false false l),(72,iA (l.map (AD false)).length),(73,iA j)],(B,.row 32 2 [AX e])::(arH a'++(DC t::(stE k' (BH t.es e.n e)++(BE cs++Z))))⟩) (λj cs=>j<=l.length/\CsUp e.n l j t.cs cs) (λj _=>l.length-j) 0 t.cs ⟨by omega,.zero _ _ _⟩ ?_;rintro j cs ⟨hj,hcs⟩;have hcl:=hcs.len;have hcp:=hcs.ptrs;refine RG ?_;(repeat first|refine WO ?_|refine Ai λX=>?_|refine Ay λY=>?_);refine NL ?_;refine FL ?_;refine AWP.cond rfl (λh=>?_) (λh=>?_)
  ·have h:j<l.length:=by rw[decide_eq_true_eq,hlm]at h;omega
   have hjc:j<cs.length:=by omega
   have hjt:j<t.cs.length:=by omega
   have hlat:(l.map (AD false))[j]?=some (AD false l[j]):=Ah _ h;have hlil:j<(l.map (AD false)).length:=by omega
   have hcat:(t.cs.map λc=>AV.ptr c.1.X 0 0)[j]?=some (.ptr cs[j].1.X 0 0):=by rw[<-hcp];exact Ah _ hjc
   have hcil:j<(t.cs.map λc=>AV.ptr c.1.X 0 0).length:=by rw[List.length_map];omega
   have hcj:cs[j].2=t.cs[j].2:=by rw[hcs.c j hjt hjc,if_neg (by omega)]
   have hcok:ColOK cs[j].2:=by rw[hcj];exact hto.cs _ (List.getElem_mem hjt)
   obtain⟨m1,m2,hsp,hm1⟩:=EK hjc;have hlj:l[j]?=some l[j]:=List.getElem?_eq_getElem h;obtain⟨⟨ck,cv⟩,hce⟩:∃c,l[j]=c:=⟨_,rfl⟩;rw[hce]at hlat hlj;obtain⟨c,hcc⟩:∃c,cs[j]=c:=⟨_,rfl⟩;rw[hcc]at hcat hcok hsp;have hpu:=(Lx c.1 c.2 hcok e.n cv hn).tt;refine FL ?_;refine RG ?_;(repeat first|refine WO ?_|refine Ai λC=>?_|refine Ay λY=>?_);refine NL ?_;refine FL ?_
   have heq:(C,AO.row 42 2 [AD false ⟨ck,cv⟩])::(B,AO.row 32 2 [AX e])::(arH a'++(DC t::(stE k' (BH t.es e.n e)++(BE cs++Z))))=((C,AO.row 42 2 [AD false ⟨ck,cv⟩])::(B,AO.row 32 2 [AX e])::(arH a'++(DC t::(stE k' (BH t.es e.n e)++BE m1))))++(stS c.1 c.2++(BE m2++Z)):=by
    rw[hsp,Cn,Ch];simp only[List.cons_append,List.append_assoc,List.nil_append]
   (repeat refine WF ?_);refine DY 11 (by kernel_rfl) (by kernel_rfl) (by kernel_rfl) ?_;dsimp only[List.take,List.drop];(repeat first|refine RK ?_|refine RGo.nil (by kernel_rfl) ?_);refine DB _ (h:=hpu) (k:=λq2 _=>?_) (hp:=heq)
   have heq2:((C,AO.row 42 2 [AD false ⟨ck,cv⟩])::(B,AO.row 32 2 [AX e])::(arH a'++(DC t::(stE k' (BH t.es e.n e)++BE m1))))++(stS ⟨c.1.X,q2.1,q2.2,c.1.M⟩ (BH c.2 e.n cv)++(BE m2++Z))=(C,AO.row 42 2 [AD false ⟨ck,cv⟩])::(B,AO.row 32 2 [AX e])::(arH a'++(DC t::(stE k' (BH t.es e.n e)++(BE (m1++((⟨c.1.X,q2.1,q2.2,c.1.M⟩:StK),BH c.2 e.n cv)::m2)++Z)))):=by
    rw[Cn,Ch];simp only[List.cons_append,List.append_assoc,List.nil_append]
   refine AOps.perm (List.Perm.of_eq heq2) ?_;refine AOps.nil ?_;refine FL ?_;refine RG ?_;(repeat first|refine WO ?_|refine Ai λX=>?_|refine Ay λY=>?_);refine NL ?_;exact Ak (j+1) (m1++((⟨c.1.X,q2.1,q2.2,c.1.M⟩:StK),BH c.2 e.n cv)::m2) ⟨by omega,hcs.next hsp hm1 (by rw[hlj];rfl) _ rfl⟩ (by omega)
  ·have h:j=l.length:=by rw[decide_eq_false_iff_not,hlm]at h;omega
   subst h;rw[<-hlc]at hcs;have hfa:e.n∉Av a'.ts:=by rw[hke];exact hf
   have hgn:a'.g e.n=none:=by
    cases hg:a'.g e.n with
    |none=>rfl
    |some u=>
     obtain⟨w,hw,h2,_⟩:=hok.g _ _ hg;exact absurd (List.mem_flatMap.2 ⟨w,hw,h2⟩) hfa
   have hsz:(if(a'.g e.n).isSome then a'.c else a'.c+1)=a'.c+1:=by rw[hgn];rfl
   have hmx:a'.c<maxLen:=by have:=hok.c_le;unfold maxLen;omega
   refine FL ?_;refine AWP.namePtr (X:=t.X) 10 (λb=>?_);obtain⟨K',hK'⟩:∃K':AV->Value->Prop,K'=λv u=>a'.K v u\/(v= .ptr t.X 0 0/\u= .pointer (some ⟨b,0,none⟩)):=⟨_,rfl⟩
   rw[<-hK'];refine AWP.perm (S':=(B,.row 32 2 [AX e])::(arH {a' with ts:=l1++upT t k' e cs::l2,K:=K'}++(Aq (l1++upT t k' e cs::l2)++Sf))) ?_ ?_
   ·refine List.Perm.cons _ ?_
    have hln:(l1++upT t k' e cs::l2).length=a'.ts.length:=by rw[hts];simp
    have hpr:ptrs Tab.X (l1++upT t k' e cs::l2)=ptrs Tab.X a'.ts:=by rw[hts,ptrs,ptrs,List.map_append,List.map_append,List.map_cons,List.map_cons]
    show List.Perm ([(a'.A,.row 143 4 [.agg [As false false a'.kinds,.sl a'.G 0 a'.gens.length,.sl a'.Tb 0 a'.ts.length,.mp a'.O]]),(a'.G,.row 3 1 (a'.gens.map iA)),(a'.O,.ob (MapF Tryz.prog 3 145 a'.g a'.c)),(a'.Tv,.tv K'),(a'.Tb,.row 145 1 (ptrs Tab.X a'.ts))]++(DC t::(stE k' (BH t.es e.n e)++(BE cs++Z)))) ([(a'.A,.row 143 4 [.agg [As false false a'.kinds,.sl a'.G 0 a'.gens.length,.sl a'.Tb 0 (l1++upT t k' e cs::l2).length,.mp a'.O]]),(a'.G,.row 3 1 (a'.gens.map iA)),(a'.O,.ob (MapF Tryz.prog 3 145 a'.g a'.c)),(a'.Tv,.tv K'),(a'.Tb,.row 145 1 (ptrs Tab.X (l1++upT t k' e cs::l2)))]++(Aq (l1++upT t k' e cs::l2)++Sf))
    rw[hln,hpr];refine List.Perm.append_left _ ?_;refine List.Perm.trans ?_ (Ci (l1:=l1) (l2:=l2) (t:=upT t k' e cs) Sf).symm;rw[hZ];refine List.Perm.of_eq ?_;have hkx:k'.X=t.ek.X:=by rw[hk']
    show _=((t.X,AO.row 151 3 [.agg [AQ false t.ks,.ptr k'.X 0 0,L5 cs]])::(stE k' (BH t.es e.n e)++BE cs))++Z
    rw[hkx,L5,hcp];rfl
   ·refine RU ?_;(repeat first|(refine RGo.gN ?_;first|refine RGo.goS (h:=W.mapUpd (PlainV.ptr (te:=151) (by kernel_rfl) b) (by omega) hmx rfl rfl rfl (by exact At.f)) (k:=?_))|(refine RGo.gQ ?_;first|refine RGo.goS (h:=W.mapUpd (PlainV.ptr (te:=151) (by kernel_rfl) b) (by omega) hmx rfl rfl rfl (by exact At.f)) (k:=?_))|refine RK ?_|refine RGo.nil (by kernel_rfl) ?_)
    rw[hsz];have hup:ArOK {a' with ts:=l1++upT t k' e cs::l2,K:=K',g:=DT a'.g e.n (.pointer (some ⟨b,0,none⟩)),c:=a'.c+1}:=hok.up hts hn hfa hcs (λv u h=>by rw[hK'];exact .inl h) (by rw[hK'];exact .inr ⟨rfl,rfl⟩);have hitm:=Pq (l1:=l1) (l2:=l2) (k:=k') hto hn hft (htk.trans hks.symm) hcs;rw[<-hts,hit]at hitm;refine DX ?_;exact AS [] (arS {a' with ts:=l1++upT t k' e cs::l2,K:=K',g:=DT a'.g e.n (.pointer (some ⟨b,0,none⟩)),c:=a'.c+1}) ⟨_,⟨hup,Se hn1 hn2 hft,rfl,hki,hge,hitm⟩,rfl,rfl⟩
def Dt(a:Ar)(l1 l2:List Tab)(t:Tab)(n:Int)(Y:Nat):Ar:=if(A4 t.es n).length=0 then{a with Tb:=Y,ts:=l1++l2,g:=ES a.g n,c:=a.c-1}else{a with ts:=l1++C1 t n::l2,g:=ES a.g n,c:=a.c-1}
theorem IN{a:Ar}(h:ArOK a)(hne:Dg a.ts){l1 l2:List Tab}{t:Tab}(hts:a.ts=l1++t::l2){n:Int}{e:Ent}(hm:(n,e)∈t.es)(Y:Nat):ArOK (Dt a l1 l2 t n Y)/\Dg (Dt a l1 l2 t n Y).ts/\(Dt a l1 l2 t n Y).A=a.A/\(Dt a l1 l2 t n Y).kinds=a.kinds/\(Dt a l1 l2 t n Y).gens=a.gens/\(AU a.ts).Perm (⟨e,AJ t n⟩::AU (Dt a l1 l2 t n Y).ts):=by
 have h1:=h.down hts hm;have h2:=IS h hts hm;unfold Dt;split
 ·rename_i h0
  have h0:(C1 t n).es=[]:=List.eq_nil_of_length_eq_zero h0;refine⟨h1.less (Y:=Y) rfl h0,λu hu=>hne u ?_,rfl,rfl,rfl,by rw[Mv h0]at h2;exact h2⟩;rw[hts];rcases List.mem_append.1 hu with hu|hu<;>simp[hu]
 ·rename_i h0
  refine⟨h1,λu hu=>?_,rfl,rfl,rfl,h2⟩;rcases List.mem_append.1 hu with hu|hu
  ·exact hne u (by rw[hts];simp[hu])
  ·rcases List.mem_cons.1 hu with rfl|hu
   ·exact λe2=>h0 (by rw[show A4 t.es n=[]from e2];rfl)
   ·exact hne u (by rw[hts];simp[hu])
theorem OE(P X:Nat)(l:List AV)(h0:0<l.length)(R:List AB):Spec Tryz.prog 301 [.ptr X 0 0,.ptr P 0 0] ((P,.row 145 1 [.ptr X 0 0])::(X,.row 151 3 l)::R) λr S'=>r=bA true/\S'=(P,.row 145 1 [.ptr X 0 0])::(X,.row 151 3 l)::R:=by
 refine Spec.of (nt:=7) (res:=[.tmp 3]) Tryz.func301 rfl (by kernel_rfl) rfl rfl rfl λSf=>?_
 refine RG ?_;(repeat first|refine WO ?_|refine Ai λX=>?_|refine Ay λY=>?_);refine NL ?_;refine FL ?_;refine RG ?_;(repeat first|(refine AOps.gN ?_;first|refine AOps.go (h:=W.eqPtrS h0 rfl rfl (by exact At.f)) (k:=?_))|refine WO ?_|refine Ai λX=>?_|refine Ay λY=>?_);refine NL ?_;refine RT ?_;exact AS [bA true] ((P,.row 145 1 [.ptr X 0 0])::(X,.row 151 3 l)::R) ⟨rfl,rfl⟩
theorem PI(P X Y:Nat)(l l2:List AV)(h0:0<l.length)(h1:0<l2.length)(R:List AB):Spec Tryz.prog 301 [.ptr Y 0 0,.ptr P 0 0] ((P,.row 145 1 [.ptr X 0 0])::(X,.row 151 3 l)::(Y,.row 151 3 l2)::R) λr S'=>r=bA false/\S'=(P,.row 145 1 [.ptr X 0 0])::(X,.row 151 3 l)::(Y,.row 151 3 l2)::R:=by
 refine Spec.of (nt:=7) (res:=[.tmp 3]) Tryz.func301 rfl (by kernel_rfl) rfl rfl rfl λSf=>?_
 refine RG ?_;(repeat first|refine WO ?_|refine Ai λX=>?_|refine Ay λY=>?_);refine NL ?_;refine FL ?_;refine RG ?_;(repeat first|(refine AOps.gN ?_;first|refine AOps.go (h:=W.eqPtrD (p:=2) (q:=1) h1 h0 rfl rfl (.next (.next .here)) (.next .here) (by decide)) (k:=?_))|refine WO ?_|refine Ai λX=>?_|refine Ay λY=>?_);refine NL ?_;refine RT ?_;exact AS [bA false] ((P,.row 145 1 [.ptr X 0 0])::(X,.row 151 3 l)::(Y,.row 151 3 l2)::R) ⟨rfl,rfl⟩
theorem OH{us:List Tab}{x:Tab}(h:x∈us):∃Z,(Aq us).Perm (DC x::Z):=by
 obtain⟨m1,m2,rfl⟩:=List.append_of_mem h;have:=Ci (l1:=m1) (l2:=m2) (t:=x) [];rw[List.append_nil]at this;exact⟨_,this⟩
theorem OF(P:Nat)(l1 l2:List Tab)(t:Tab)(ho:(l1++t::l2).Pairwise λx y:Tab=>Bx x.ks y.ks<0):∀x∈l1++t::l2,Spec Tryz.prog 301 (.ptr x.X 0 0::[.ptr P 0 0]) ((P,.row 145 1 [.ptr t.X 0 0])::(Db t++(Aq l1++Aq l2))) λr S'=>r=bA (decide (x.ks=t.ks))/\S'=(P,.row 145 1 [.ptr t.X 0 0])::(Db t++(Aq l1++Aq l2)):=by
 intro x hx
 have hd:x∈l1++l2->x.ks≠t.ks:=λh e=>by
  have h1:Bx x.ks t.ks=0:=cmpL_zero.2 e;have h2:Bx t.ks x.ks=0:=cmpL_zero.2 e.symm;rw[List.pairwise_append]at ho;rcases List.mem_append.1 h with h|h
  ·have:=ho.2.2 x h t (by simp);omega
  ·have:=(List.pairwise_cons.1 ho.2.1).1 x h;omega
 have hc:x=t\/x∈l1++l2:=by
  rcases List.mem_append.1 hx with h|h
  ·exact .inr (by simp[h])
  ·rcases List.mem_cons.1 h with h|h
   ·exact .inl h
   ·exact .inr (by simp[h])
 rcases hc with rfl|hc
 ·rw[decide_eq_true rfl]
  exact OE P x.X _ (by exact Nat.zero_lt_succ _) _
 ·rw[decide_eq_false (hd hc)]
  obtain⟨Z,hZ⟩:=OH hc;rw[E9]at hZ
  have hp:((P,AO.row 145 1 [.ptr t.X 0 0])::(Db t++(Aq l1++Aq l2))).Perm ((P,.row 145 1 [.ptr t.X 0 0])::DC t::DC x::((stE t.ek t.es++BE t.cs)++Z)):=by
   refine List.Perm.cons _ (List.Perm.cons _ ?_);refine(hZ.append_left (stE t.ek t.es++BE t.cs)).trans ?_;exact BZ (stE t.ek t.es++BE t.cs) [DC x] Z
  exact(PI P t.X x.X _ _ (by exact Nat.zero_lt_succ _) (by exact Nat.zero_lt_succ _) _).perm hp λr S' ⟨h1,h2⟩=>⟨_,by rw[h2];exact hp.symm,h1,rfl⟩
set_option maxRecDepth 8000 in
set_option maxHeartbeats 4000000 in
theorem KJ(a:Ar)(ha:ArOK a)(hne:Dg a.ts){l1 l2:List Tab}{t:Tab}(hts:a.ts=l1++t::l2){n:Int}(hnk:n∈AC t.es):Spec Tryz.prog 286 [.ptr a.A 0 0,iA n] (arS a) λr S'=>∃Y:Nat,True/\r= .lst true 42 2 ((AJ t n).map (AD false))/\S'=arS (Dt a l1 l2 t n Y):=by
 have htm:t∈a.ts:=by rw[hts];simp
 have hto:=ha.tab t htm;have hnl:=hto.es.lt n hnk;have hn:I64 n:=by constructor<;>omega
 have hsm:=ha.gn n (List.mem_flatMap.2 ⟨t,htm,hnk⟩);obtain⟨u,hu⟩:∃u,a.g n=some u:=Option.isSome_iff_exists.1 hsm;obtain⟨w,hw,hwn,hK,b,hb⟩:=ha.g n u hu;have hwt:=ha.uniq hw htm hwn hnk;subst hwt;have hgd:(a.g n).getD (.pointer none)=u:=by rw[hu];rfl
 have hone:u.oneCell'=true:=by rw[hb];rfl
 have hcs:=Ly w n hto hn hnk;have hdE:=QG w.ek w.es hto.es n hn;have hlE:=QI w.ek (A4 w.es n);have hc16:w.cs.length<=16:=by have:=hto.ks;have:=hto.len;omega
 have hcpl:(w.cs.map λc=>AV.ptr c.1.X 0 0).length=w.cs.length:=List.length_map _;have hsz:(if(a.g n).isSome then a.c-1 else a.c)=a.c-1:=by rw[hsm];rfl
 obtain⟨⟨m,e⟩,hm,he⟩:=List.mem_map.1 hnk;have he:m=n:=he;rw[he]at hm;have hdn:=ha.down hts hm;obtain⟨w',hw'⟩:∃w',w'=C1 w n:=⟨_,rfl⟩;have htl:=ha.ts_le hne;have hhd:DC w=DC w':=by rw[hw'];show(w.X,AO.row 151 3 [.agg [AQ false w.ks,.ptr w.ek.X 0 0,L5 w.cs]])=(w.X,AO.row 151 3 [.agg [AQ false w.ks,.ptr w.ek.X 0 0,L5 (w.cs.map (El n))]]);rw[L5,L5,List.map_map];rfl
 have hln:a.ts.length=(l1++w'::l2).length:=by rw[hts];simp
 have hpr:ptrs Tab.X a.ts=ptrs Tab.X (l1++w'::l2):=by rw[hts,hw',ptrs,ptrs,List.map_append,List.map_append,List.map_cons,List.map_cons]
 have hflt:(l1++w'::l2).filter (λx=>!decide (x.ks=w'.ks))=l1++l2:=by
  have ho:(l1++w'::l2).Pairwise λx y:Tab=>Bx x.ks y.ks<0:=by rw[hw'];exact hdn.ord
  have hd:∀x∈l1++l2,x.ks≠w'.ks:=λx h e=>by
   have h1:Bx x.ks w'.ks=0:=cmpL_zero.2 e;have h2:Bx w'.ks x.ks=0:=cmpL_zero.2 e.symm;rw[List.pairwise_append]at ho;rcases List.mem_append.1 h with h|h
   ·have:=ho.2.2 x h w' (by simp);omega
   ·have:=(List.pairwise_cons.1 ho.2.1).1 x h;omega
  rw[List.filter_append,List.filter_cons_of_neg (by simp),<-List.filter_append,List.filter_eq_self];intro x hx;simp[hd x hx]
 refine Spec.of (nt:=58) (res:=[.tmp 4]) Tryz.func286 rfl (by kernel_rfl) rfl rfl rfl λSf=>?_
 obtain⟨Z,hZ⟩:∃Z,Aq l1++(Aq l2++Sf)=Z:=⟨_,rfl⟩;have hop:=Ci (l1:=l1) (l2:=l2) (t:=w) Sf;rw[<-hts,hZ]at hop;refine RG ?_;(repeat first|refine WO ?_|refine Ai λX=>?_|refine Ay λY=>?_);refine NL ?_;refine AWP.perm (S':=arH a++(Db w++Z)) ?_ ?_
 ·rw[arS,List.append_assoc]
  exact hop.append_left _
 refine FL ?_;refine RG ?_;(repeat first|(refine AOps.gN ?_;first|refine AOps.asPtr 14 (.ptr w.X 0 0) hK ?_|refine AOps.go (h:=Ef _ hgd hn rfl rfl (by exact At.f) hone) (k:=?_))|refine WO ?_|refine Ai λP5=>?_|refine Ay λY=>?_);refine NL ?_;refine FL ?_;refine RG ?_;(repeat first|(refine AOps.gN ?_;first|refine MJ [_,_,_,_,_,_] (h:=hcs) (k:=λK=>?_))|refine WO ?_|refine Ai λX=>?_|refine Ay λY=>?_);refine NL ?_;refine AWP.perm (S':=(K,.row 42 2 ((AJ w n).map (AD false)))::(P5,.row 145 1 [.ptr w.X 0 0])::(arH a++(DC w::(stE w.ek w.es++(BE w.cs++Z))))) (List.Perm.of_eq (by first|rfl|(simp only[List.cons_append,List.append_assoc,List.nil_append];done)|(simp only[List.cons_append,List.append_assoc,List.nil_append];rfl))) ?_;rw[List.length_map];refine FL ?_;refine RG ?_;(repeat first|(refine AOps.gN ?_;first|refine DS [_,_,_,_,_,_,_,_] (h:=hdE) (k:=?_))|refine WO ?_|refine Ai λX=>?_|refine Ay λY=>?_);refine NL ?_;refine FL ?_;refine RG ?_;(repeat first|refine WO ?_|refine Ai λX=>?_|refine Ay λY=>?_);refine NL ?_;refine FL ?_;refine BP (λ(j:Nat)=>⟨[(0,.ptr a.A 0 0),(1,iA n),(5,.ptr P5 0 0),(6,.sl K 0 (AJ w n).length),(27,L5 w.cs),(28,iA (w.cs.map λc=>AV.ptr c.1.X 0 0).length),(29,iA j)],(K,.row 42 2 ((AJ w n).map (AD false)))::(P5,.row 145 1 [.ptr w.X 0 0])::(arH a++(DC w::(stE w.ek (A4 w.es n)++(BE ((w.cs.take j).map (El n)++w.cs.drop j)++Z))))⟩) (λj=>j<=w.cs.length) (λj=>w.cs.length-j) 0 (by omega) ?_;rintro j hj;refine RG ?_;(repeat first|refine WO ?_|refine Ai λX=>?_|refine Ay λY=>?_);refine NL ?_;refine FL ?_;refine AWP.cond rfl (λh=>?_) (λh=>?_)
 ·have h:j<w.cs.length:=by rw[decide_eq_true_eq,hcpl]at h;omega
  have hcat:(w.cs.map λc=>AV.ptr c.1.X 0 0)[j]?=some (.ptr w.cs[j].1.X 0 0):=Ah _ h;have hcil:j<(w.cs.map λc=>AV.ptr c.1.X 0 0).length:=by omega
  have hcok:=hto.cs _ (List.getElem_mem h);have hdj:w.cs.drop j=w.cs[j]::w.cs.drop (j+1):=(List.getElem_cons_drop h).symm;have htj:(w.cs.take (j+1)).map (El n)=(w.cs.take j).map (El n)++[El n w.cs[j]]:=by rw[List.take_succ_eq_append_getElem h,List.map_append];rfl
  obtain⟨c,hcc⟩:∃c,w.cs[j]=c:=⟨_,rfl⟩;rw[hcc]at hcat hcok hdj htj;have hdS:=QE c.1 c.2 hcok n hn
  have heq:(K,AO.row 42 2 ((AJ w n).map (AD false)))::(P5,AO.row 145 1 [.ptr w.X 0 0])::(arH a++(DC w::(stE w.ek (A4 w.es n)++(BE ((w.cs.take j).map (El n)++w.cs.drop j)++Z))))=((K,AO.row 42 2 ((AJ w n).map (AD false)))::(P5,AO.row 145 1 [.ptr w.X 0 0])::(arH a++(DC w::(stE w.ek (A4 w.es n)++BE ((w.cs.take j).map (El n))))))++(stS c.1 c.2++(BE (w.cs.drop (j+1))++Z)):=by
   rw[hdj,Cn,Ch];simp only[List.cons_append,List.append_assoc,List.nil_append]
  have heq2:((K,AO.row 42 2 ((AJ w n).map (AD false)))::(P5,AO.row 145 1 [.ptr w.X 0 0])::(arH a++(DC w::(stE w.ek (A4 w.es n)++BE ((w.cs.take j).map (El n))))))++(stS c.1 (A4 c.2 n)++(BE (w.cs.drop (j+1))++Z))=(K,AO.row 42 2 ((AJ w n).map (AD false)))::(P5,AO.row 145 1 [.ptr w.X 0 0])::(arH a++(DC w::(stE w.ek (A4 w.es n)++(BE ((w.cs.take (j+1)).map (El n)++w.cs.drop (j+1))++Z)))):=by
   rw[htj,Cn,Cn,Ch];simp only[List.cons_append,List.append_assoc,List.nil_append,BE,List.flatMap_nil]
  refine FL ?_;refine RG ?_;(repeat first|(refine AOps.gN ?_;first|refine AOps.go (h:=W.idx rfl rfl (by exact At.f) rfl (by omega) (Nat.zero_add _)) (k:=?_))|refine WO ?_|refine Ai λX=>?_|refine Ay λY=>?_);refine NL ?_;refine FL ?_;refine RG ?_;(repeat first|(refine AOps.gN ?_;first|refine DS _ (h:=hdS) (k:=?_) (hp:=heq))|refine WO ?_|refine Ai λX=>?_|refine Ay λY=>?_);refine NL ?_;refine AWP.perm (List.Perm.of_eq heq2) ?_;refine RG ?_;(repeat first|refine WO ?_|refine Ai λX=>?_|refine Ay λY=>?_);refine NL ?_;exact A7 (j+1) (by omega)
 ·have h:j=w.cs.length:=by rw[decide_eq_false_iff_not,hcpl]at h;omega
  subst h;rw[List.take_length,List.drop_length,List.append_nil];refine FL ?_;refine RG ?_;(repeat first|(refine AOps.gN ?_;first|refine AOps.goS (h:=W.mapDel hn rfl rfl (by exact At.f)) (k:=?_))|refine WO ?_|refine Ai λX=>?_|refine Ay λY=>?_);refine NL ?_;rw[hsz];refine FL ?_;refine RG ?_;(repeat first|(refine AOps.gN ?_;first|refine N4 [_,_,_,_,_,_,_,_] (h:=hlE) (k:=?_))|refine WO ?_|refine Ai λX=>?_|refine Ay λY=>?_);refine NL ?_;have hst:stE w.ek (A4 w.es n)++(BE (w.cs.map (El n))++Z)=(stE w'.ek w'.es++BE w'.cs)++Z:=by rw[hw',List.append_assoc]
  have hXX:w.X=w'.X:=by rw[hw']
  have hlw:(A4 w.es n).length=w'.es.length:=by rw[hw']
  rw[hst,hhd,hln,hpr,hXX];refine AWP.cond rfl (λh0=>?_) (λh0=>?_)
  ·have h0:(A4 w.es n).length=0:=by rw[decide_eq_true_eq]at h0;omega
   have hdel:=ND a.Tb (l1++w'::l2) Tab.X ((P5,.row 145 1 [.ptr w'.X 0 0])::(Db w'++(Aq l1++Aq l2))) 301 [.ptr P5 0 0] (λx=>decide (x.ks=w'.ks)) rfl (by rw[<-hln];omega) (OF P5 l1 l2 w' (by rw[hw'];exact hdn.ord));rw[hflt]at hdel;rw[<-hZ];refine AWP.perm (S':=(K,.row 42 2 ((AJ w n).map (AD false)))::(a.A,.row 143 4 [.agg [As false false a.kinds,.sl a.G 0 a.gens.length,.sl a.Tb 0 (l1++w'::l2).length,.mp a.O]])::(a.G,.row 3 1 (a.gens.map iA))::(a.O,.ob (MapF Tryz.prog 3 145 (ES a.g n) (a.c-1)))::(a.Tv,.tv a.K)::(((a.Tb,.row 145 1 (ptrs Tab.X (l1++w'::l2)))::((P5,.row 145 1 [.ptr w'.X 0 0])::(Db w'++(Aq l1++Aq l2))))++Sf)) ?_ ?_
   ·refine List.Perm.cons _ ?_
    have h1:=BZ [(a.A,AO.row 143 4 [.agg [As false false a.kinds,.sl a.G 0 a.gens.length,.sl a.Tb 0 (l1++w'::l2).length,.mp a.O]]),(a.G,.row 3 1 (a.gens.map iA)),(a.O,.ob (MapF Tryz.prog 3 145 (ES a.g n) (a.c-1))),(a.Tv,.tv a.K),(a.Tb,.row 145 1 (ptrs Tab.X (l1++w'::l2)))] [(P5,.row 145 1 [.ptr w'.X 0 0])] (Db w'++(Aq l1++(Aq l2++Sf)));refine List.Perm.trans (List.Perm.of_eq ?_) (h1.symm.trans (List.Perm.of_eq ?_))
    ·simp only[List.cons_append,List.append_assoc,List.nil_append]
     rfl
    ·simp only[List.cons_append,List.append_assoc,List.nil_append]
   refine FL ?_;refine RG ?_;(repeat first|(refine AOps.gN ?_;first|refine MJ [_,_,_,_,_] (h:=hdel) (k:=λY=>?_))|refine WO ?_|refine Ai λX=>?_|refine Ay λY=>?_);refine NL ?_;dsimp only[AM,List.set_cons_zero,List.set_cons_succ,List.cons_append,List.nil_append];refine AWP.front Y ?_;refine AWP.front a.Tv ?_;refine AWP.front a.O ?_;refine AWP.front a.G ?_;refine AWP.front a.A ?_;refine AWP.front P5 ?_;refine AWP.front K ?_;have hla:Dt a l1 l2 w n Y={a with Tb:=Y,ts:=l1++l2,g:=ES a.g n,c:=a.c-1}:=if_pos h0;rw[show(ptrs Tab.X (l1++l2)).length=(l1++l2).length from List.length_map _];refine RG ?_;(repeat first|refine WO ?_|refine Ai λX=>?_|refine Ay λY=>?_);refine NL ?_;refine RT ?_;refine⟨[.sl K 0 (AJ w n).length],[.lst true 42 2 ((AJ w n).map (AD false))],_,arS (Dt a l1 l2 w n Y),.cons (.tmp rfl) rfl .nil,.cons (.cell (.sl (p:=0) .here (by simp))) .nil,?_,Y,trivial,rfl,rfl⟩;rw[hla]
   have hsub:(Aq (l1++l2)++Sf).Sublist ((Db w'++(Aq l1++Aq l2))++Sf):=by
    rw[E9];exact(List.sublist_append_right _ _).append_right _
   exact .cons _ (.cons_cons _ (.cons_cons _ (.cons_cons _ (.cons_cons _ (.cons_cons _ hsub)))))
  ·have h0:¬(A4 w.es n).length=0:=by rw[decide_eq_false_iff_not]at h0;omega
   have hla:Dt a l1 l2 w n 0={a with ts:=l1++w'::l2,g:=ES a.g n,c:=a.c-1}:=by rw[hw'];exact if_neg h0
   have hop2:=Ci (l1:=l1) (l2:=l2) (t:=w') Sf;rw[hZ]at hop2;refine AWP.perm (S':=(K,.row 42 2 ((AJ w n).map (AD false)))::(P5,.row 145 1 [.ptr w'.X 0 0])::(arH {a with ts:=l1++w'::l2,g:=ES a.g n,c:=a.c-1}++(Aq (l1++w'::l2)++Sf))) (List.Perm.cons _ (List.Perm.cons _ (hop2.symm.append_left (arH {a with ts:=l1++w'::l2,g:=ES a.g n,c:=a.c-1})))) ?_;rw[<-List.append_assoc];refine FL ?_;refine RG ?_;(repeat first|refine WO ?_|refine Ai λX=>?_|refine Ay λY=>?_);refine NL ?_;refine RT ?_;refine⟨[.sl K 0 (AJ w n).length],[.lst true 42 2 ((AJ w n).map (AD false))],_,arS (Dt a l1 l2 w n 0),.cons (.tmp rfl) rfl .nil,.cons (.cell (.sl (p:=0) .here (by simp))) .nil,?_,0,trivial,rfl,rfl⟩;rw[hla];exact .cons _ (List.Sublist.refl _)
theorem DV{a:Ar}{l1 l2:List Tab}{t:Tab}(h:a.ts=l1++t::l2)(Sf:List AB):(arS a++Sf).Perm (arH a++(DC t::(stE t.ek t.es++(BE t.cs++(Aq l1++(Aq l2++Sf)))))):=by
 rw[arS,List.append_assoc];refine List.Perm.append_left _ ?_;rw[h];exact(Ci Sf).trans (List.Perm.of_eq (by simp only[List.cons_append,List.append_assoc]))
def Eb(a:Ar)(e:Ent):Bool:=decide (e∈(AU a.ts).map (·.ent))
theorem Py{a:Ar}(h:ArOK a){e:Ent}{t:Tab}(ht:t∈a.ts){v:Ent}(hm:(e.n,v)∈t.es):Eb a e=decide (v=e):=by
 unfold Eb;refine decide_eq_decide.2 ⟨λhe=>?_,λhe=>?_⟩
 ·obtain⟨it,hit,rfl⟩:=List.mem_map.1 he
  obtain⟨u,hu,hit⟩:=List.mem_flatMap.1 hit;obtain⟨p,hp,rfl⟩:=List.mem_map.1 hit;have hpn:=h.ent u hu p hp;have h1:p.2.n∈AC u.es:=List.mem_map.2 ⟨p,hp,hpn⟩;have h2:p.2.n∈AC t.es:=List.mem_map.2 ⟨_,hm,rfl⟩;have:=h.uniq ht hu h2 h1;subst this;have hto:=h.tab t ht;have h3:=(Bt hto.es).2 hm;have h4:=(Bt hto.es).2 (show(p.2.n,p.2)∈t.es by rw[<-hpn];exact hp);rw[h3]at h4;injection h4
 ·subst he
  refine List.mem_map.2 ⟨⟨v,AJ t v.n⟩,List.mem_flatMap.2 ⟨t,ht,List.mem_map.2 ⟨_,hm,rfl⟩⟩,rfl⟩
theorem RO{a:Ar}(h:ArOK a){e:Ent}(hg:a.g e.n=none):Eb a e=false:=by
 unfold Eb;refine decide_eq_false λhe=>?_
 obtain⟨it,hit,rfl⟩:=List.mem_map.1 he;obtain⟨u,hu,hit⟩:=List.mem_flatMap.1 hit;obtain⟨p,hp,rfl⟩:=List.mem_map.1 hit;have hpn:=h.ent u hu p hp;have:=h.gn p.2.n (List.mem_flatMap.2 ⟨u,hu,List.mem_map.2 ⟨p,hp,hpn⟩⟩);rw[hg]at this;cases this
set_option maxRecDepth 8000 in
theorem Gq(a:Ar)(ha:ArOK a)(e:Ent)(hn:I64 e.n):Spec Tryz.prog 284 [.ptr a.A 0 0,AX e] (arS a) λr S'=>r=bA (Eb a e)/\S'=arS a:=by
 refine Spec.of (nt:=30) (res:=[.tmp 4]) Tryz.func284 rfl (by kernel_rfl) rfl rfl rfl λSf=>?_
 cases hg:a.g e.n with
 |none=>
  have hgd:(a.g e.n).getD (.pointer none)= .pointer none:=by rw[hg];rfl
  rw[RO ha hg];refine RG ?_;(repeat first|refine WO ?_|refine Ai λB=>?_|refine Ay λY=>?_);refine NL ?_;refine FL ?_;refine RU ?_;(repeat first|(refine RGo.gN ?_;first|refine RGo.go (h:=Ef _ hgd hn rfl rfl (by exact At.f)) (k:=?_))|(refine RGo.gQ ?_;first|refine RGo.go (h:=Ef _ hgd hn rfl rfl (by exact At.f)) (k:=?_))|refine RK ?_|refine RGo.nil (by kernel_rfl) ?_);refine FL ?_;refine RG ?_;(repeat first|(refine AOps.gN ?_;first|refine AOps.go (h:=W.eqNil true (.inl ⟨rfl,rfl⟩) rfl rfl) (k:=?_))|refine WO ?_|refine Ai λX=>?_|refine Ay λY=>?_);refine NL ?_;refine AR rfl rfl ?_;refine FL ?_;refine RG ?_;(repeat first|refine WO ?_|refine Ai λX=>?_|refine Ay λY=>?_);refine NL ?_;refine RT ?_;exact AS [bA false] (arS a) ⟨rfl,rfl⟩
 |some u=>
  obtain⟨t,ht,htn,hK,b,hb⟩:=ha.g e.n u hg;have hto:=ha.tab t ht;obtain⟨⟨m,v⟩,hm,hme⟩:=List.mem_map.1 htn;have hme:m=e.n:=hme;subst hme;rw[Py ha ht hm];have hgt:=P1 t.ek t.es hto.es e.n hn v ((Bt hto.es).2 hm);have hgd:(a.g e.n).getD (.pointer none)=u:=by rw[hg];rfl
  have hone:u.oneCell'=true:=by rw[hb];rfl
  obtain⟨l1,l2,hts⟩:=List.append_of_mem ht;refine RG ?_;(repeat first|refine WO ?_|refine Ai λB=>?_|refine Ay λY=>?_);refine NL ?_;refine FL ?_;refine RU ?_;(repeat first|(refine RGo.gN ?_;first|refine RGo.go (h:=Ef _ hgd hn rfl rfl (by exact At.f) hone) (k:=?_))|(refine RGo.gQ ?_;first|refine RGo.go (h:=Ef _ hgd hn rfl rfl (by exact At.f) hone) (k:=?_))|refine RK ?_|refine RGo.nil (by kernel_rfl) ?_);refine FL ?_;refine RG ?_;(repeat first|(refine AOps.gN ?_;first|refine AOps.go (h:=W.eqNil false (.inr ⟨b,hb,rfl⟩) rfl rfl) (k:=?_))|refine WO ?_|refine Ai λX=>?_|refine Ay λY=>?_);refine NL ?_;refine AE rfl rfl ?_;refine FL ?_;refine AWP.asPtr 5 (.ptr t.X 0 0) hK ?_;refine AWP.perm (List.Perm.cons _ (DV hts Sf)) ?_;refine AWP.rs λY=>?_
  (repeat refine WF ?_);refine En 8 (by kernel_rfl) (by kernel_rfl) ?_;refine RGoT.go ?_;refine RGoT.go ?_;refine RGoT.go ?_;refine RGoT.go ?_;refine RGoT.go ?_;refine RGoT.go ?_;refine RGoT.callK (xs:=[(.tmp 21,.ptr t.ek.X 0 0),(.tmp 23,iA e.n)]) (L:=[_,_,_,_,_,_,_,_]) (R:=BE t.cs++(Aq l1++(Aq l2++Sf))) hgt (.fz (v:=.tup [AX v,bA true])) rfl (Nat.le_refl 8) (.cons rfl (.cons rfl .nil)) rfl rfl ?_;refine RGoT.go ?_;refine RGoT.go ?_;refine RGoT.go ?_;refine RGoT.goS (h:=W.alloc .here (.inl rfl)) ?_;refine RGoT.goS ?_;refine RGoT.go ?_;refine RGoT.nil (by kernel_rfl) ?_;dsimp only[AM,List.set_cons_zero,List.set_cons_succ,List.cons_append,List.nil_append];refine KF Y (show _=[AX v]from rfl) ?_;dsimp only[List.set_cons_zero]
  have hd:decide (v=e)=(decide (v.n=e.n)&&decide (v.gen=e.gen)):=by
   cases v;cases e;simp only[Ent.mk.injEq,Bool.decide_and]
  rw[hd];refine FL ?_;refine RG ?_;(repeat first|(refine AOps.gN ?_;first|refine AOps.go (h:=W.eqP _ _ (by kernel_rfl) (NB v.n v.gen e.n e.gen) rfl rfl) (k:=?_))|refine WO ?_|refine Ai λX=>?_|refine Ay λY=>?_);refine NL ?_;refine FL ?_;refine AWP.perm (List.Perm.cons _ (List.Perm.cons _ (DV hts Sf).symm)) ?_;refine RT ?_;exact AS [bA (decide (v.n=e.n)&&decide (v.gen=e.gen))] (arS a) ⟨rfl,rfl⟩
theorem Hl{a:Ar}(h:ArOK a){e:Ent}(hh:Eb a e=true):∃l1 l2 t,a.ts=l1++t::l2/\(e.n,e)∈t.es:=by
 unfold Eb at hh;obtain⟨it,hit,rfl⟩:=List.mem_map.1 (of_decide_eq_true hh);obtain⟨u,hu,hit⟩:=List.mem_flatMap.1 hit;obtain⟨p,hp,rfl⟩:=List.mem_map.1 hit;obtain⟨l1,l2,hl⟩:=List.append_of_mem hu;refine⟨l1,l2,u,hl,?_⟩;have:=h.ent u hu p hp;show(p.2.n,p.2)∈u.es
 rw[<-this];exact hp
structure KillR(a:Ar)(e:Ent)(b:Ar):Prop where
 ok:ArOK b
 ne:Dg b.ts
 A:b.A=a.A
 kinds:b.kinds=a.kinds
 gens:b.gens=a.gens.set e.n.toNat ((a.gens[e.n.toNat]?).getD 0+1)
 items:∃l,(AU a.ts).Perm (⟨e,l⟩::AU b.ts)
theorem RE(a:Ar)(ha:ArOK a)(e:Ent)(hn:I64 e.n)(hh:Eb a e=false):Spec Tryz.prog 269 [.ptr a.A 0 0,AX e] (arS a) λr S'=>r=iA 4/\S'=arS a:=by
 have hs:=Gq a ha e hn;rw[hh]at hs;refine Spec.of (nt:=23) (res:=[.tmp 4]) Tryz.func269 rfl (by kernel_rfl) rfl rfl rfl λSf=>?_
 refine RG ?_;(repeat first|refine WO ?_|refine Ai λB=>?_|refine Ay λY=>?_);refine NL ?_;refine FL ?_;refine RG ?_;(repeat first|(refine AOps.gN ?_;first|refine DS [_] (h:=hs) (k:=?_))|refine WO ?_|refine Ai λX=>?_|refine Ay λY=>?_);refine NL ?_;refine AR rfl rfl ?_;refine FL ?_;refine RG ?_;(repeat first|refine WO ?_|refine Ai λX=>?_|refine Ay λY=>?_);refine NL ?_;refine RT ?_;exact AS [iA 4] (arS a) ⟨rfl,rfl⟩
theorem Pk(a:Ar)(ha:ArOK a)(hne:Dg a.ts)(e:Ent)(hn:I64 e.n)(hh:Eb a e=true)(hg:e.n.toNat<a.gens.length)(hgl:a.gens.length<=256)(hgb:∀g∈a.gens,0<=g/\g<=1073741824):Spec Tryz.prog 269 [.ptr a.A 0 0,AX e] (arS a) λr S'=>∃b:Ar,KillR a e b/\r=iA 0/\S'=arS b:=by
 obtain⟨l1,l2,t,hts,hm⟩:=Hl ha hh;have hto:=ha.tab t (by rw[hts];simp);have hnk:e.n∈AC t.es:=List.mem_map.2 ⟨_,hm,rfl⟩;have hnl:=hto.es.lt _ hnk;have hs:=Gq a ha e hn;rw[hh]at hs;have htk:=KJ a ha hne hts hnk;obtain⟨⟨n,g⟩,he⟩:∃e',e=e':=⟨_,rfl⟩;subst he;dsimp only at hn hg hm hnk hnl hs htk;obtain⟨i,hi⟩:∃i:Nat,n=i:=⟨n.toNat,by omega⟩;subst hi;rw[Int.toNat_natCast]at hg;refine Spec.of (nt:=23) (res:=[.tmp 4]) Tryz.func269 rfl (by kernel_rfl) rfl rfl rfl λSf=>?_
 refine RG ?_;(repeat first|refine WO ?_|refine Ai λB=>?_|refine Ay λY=>?_);refine NL ?_;refine FL ?_;refine RG ?_;(repeat first|(refine AOps.gN ?_;first|refine DS [_] (h:=hs) (k:=?_))|refine WO ?_|refine Ai λX=>?_|refine Ay λY=>?_);refine NL ?_;refine AE rfl rfl ?_;refine FL ?_;refine RG ?_;(repeat first|(refine AOps.gN ?_;first|refine JB [_] (h:=htk) (k:=λY _ K=>?_))|refine WO ?_|refine Ai λX=>?_|refine Ay λY=>?_);refine NL ?_;obtain⟨hok,hne2,hA,hki,hge,hit⟩:=IN ha hne hts hm Y;obtain⟨b,hb⟩:∃b,Dt a l1 l2 t (i:Nat) Y=b:=⟨_,rfl⟩;rw[hb]at hok hne2 hA hki hge hit⊢;rw[<-hA];have hgm:a.gens[i]∈a.gens:=List.getElem_mem hg;have hgr:=hgb _ hgm;rw[<-hge]at hg hgl;have hgq:a.gens[i]=b.gens[i]:=by simp only[hge]
 rw[hgq]at hgr;have hat:(b.gens.map iA)[i]?=some (iA b.gens[i]):=Ah _ hg;have hgml:(b.gens.map iA).length=b.gens.length:=List.length_map _;refine FL ?_;refine RU ?_;(repeat first|(refine RGo.gN ?_;first|refine RGo.go (h:=W.idx (a:=i) rfl rfl (by exact At.f) rfl (by omega) (Nat.zero_add _)) (k:=?_))|(refine RGo.gQ ?_;first|refine RGo.go (h:=W.idx (a:=i) rfl rfl (by exact At.f) rfl (by omega) (Nat.zero_add _)) (k:=?_))|refine RK ?_|refine RGo.nil (by kernel_rfl) ?_);dsimp only[AM,List.set_cons_zero,List.set_cons_succ,List.cons_append,List.nil_append];have hset:(b.gens.map iA).set i (iA (b.gens[i]+1))=(b.gens.set i (b.gens[i]+1)).map iA:=(List.map_set ..).symm;rw[hset];have hsl:b.gens.length=(b.gens.set i (b.gens[i]+1)).length:=List.length_set.symm;obtain⟨b',hb'⟩:∃b':Ar,b'={b with gens:=b.gens.set i (b.gens[i]+1)}:=⟨_,rfl⟩;refine AWP.perm (S':=(K,.row 42 2 ((AJ t (i:Nat)).map (AD false)))::(B,.row 32 2 [AX ⟨i,g⟩])::(arS b'++Sf)) (List.Perm.of_eq (by rw[hb'];show _=(K,_)::(B,_)::((arH {b with gens:=b.gens.set i (b.gens[i]+1)}++Aq b.ts)++Sf);rw[arH];dsimp only;rw[<-hsl];rfl)) ?_;refine RG ?_;(repeat first|refine WO ?_|refine Ai λX=>?_|refine Ay λY=>?_);refine NL ?_;refine RT ?_;have hgd:(a.gens[i]?).getD 0=b.gens[i]:=by rw[<-hge,List.getElem?_eq_getElem hg];rfl
 have hk:KillR a ⟨i,g⟩ b':=by
  rw[hb'];exact⟨⟨hok.tab,hok.ord,hok.keys,hok.ent,hok.g,hok.gn,hok.cnt⟩,hne2,hA,hki,by show b.gens.set i _=a.gens.set ((i:Int).toNat) _;rw[Int.toNat_natCast,hgd];exact congrArg (λx=>x.set i (b.gens[i]+1)) hge,⟨_,hit⟩⟩
 exact AS [iA 0] (arS b') ⟨b',hk,rfl,rfl⟩
theorem Nh(a:Int):PS Tryz.prog 296 [iA a] (bA false):=by
 refine Spec.of (nt:=6) (res:=[.tmp 2]) Tryz.func296 rfl (by kernel_rfl) rfl rfl rfl λSf=>?_
 (repeat first|refine WK ?_|refine Ai λX=>?_|refine Ay λY=>?_);refine RT ?_;refine AN ?_;have:decide (a≠a)=false:=decide_eq_false (by simp);rw[this]
theorem RC(a b:Int):PS Tryz.prog 295 [iA a,iA b] (bA (decide (a<b))):=by
 refine Spec.of (nt:=17) (res:=[.tmp 4]) Tryz.func295 rfl (by kernel_rfl) rfl rfl rfl λSf=>?_
 refine RG ?_;(repeat first|(refine AOps.gN ?_;first|(refine AOps.g_callf ?_;first|refine AOps.c1 (h:=(EO a)) (k:=?_)|refine AOps.c1 (h:=(EO b)) (k:=?_)))|refine WO ?_|refine Ai λX=>?_|refine Ay λY=>?_);refine NL ?_;refine FL ?_;refine RG ?_;(repeat first|(refine AOps.gN ?_;first|(refine AOps.g_callf ?_;first|refine AOps.c1 (h:=(EO a)) (k:=?_)|refine AOps.c1 (h:=(EO b)) (k:=?_)))|refine WO ?_|refine Ai λX=>?_|refine Ay λY=>?_);refine NL ?_;refine RT ?_;exact AS [bA (decide (a<b))] [] ⟨rfl,rfl⟩
def IK(l:List Int)(n:Int):Nat:=(l.filter λx=>decide (x<n)).length
theorem Nk{l:List Int}{n:Int}{i:Nat}(hi:i<=l.length)(h1:∀k (h:k<l.length),k<i->l[k]<n)(h2:∀k (h:k<l.length),i<=k->n<=l[k]):IK l n=i:=by
 unfold IK
 have e:l.filter (λx=>decide (x<n))=l.take i:=by
  conv=>lhs;rw[<-List.take_append_drop i l]
  rw[List.filter_append,List.filter_eq_self.2,List.filter_eq_nil_iff.2,List.append_nil]
  ·intro x hx
   obtain⟨k,hk,rfl⟩:=List.mem_iff_getElem.1 hx;rw[List.length_drop]at hk;rw[List.getElem_drop];have:=h2 (i+k) (by omega) (by omega);simp;omega
  ·intro x hx
   obtain⟨k,hk,rfl⟩:=List.mem_take_iff_getElem.1 hx;have:=h1 k (by omega) (by omega);simp;omega
 rw[e,List.length_take];omega
theorem Nx(l:List Int)(n:Int)(hs:l.Pairwise (· < ·))(hl:l.length<=1099511627776):PS Tryz.prog 285 [AQ false l,iA n] (.tup [iA (IK l n:Nat),bA (decide (n∈l))]):=by
 have hml:(l.map iA).length=l.length:=List.length_map _;have hsp:=List.pairwise_iff_getElem.1 hs;refine Spec.of (nt:=54) (res:=[.tmp 4,.tmp 5]) Tryz.func285 rfl (by kernel_rfl) rfl rfl rfl λSf=>?_
 refine RG ?_;(repeat first|refine WO ?_|refine Ai λX=>?_|refine Ay λY=>?_);refine NL ?_;refine FL ?_;refine RG ?_;(repeat first|refine WO ?_|refine Ai λX=>?_|refine Ay λY=>?_);refine NL ?_;refine FL ?_;refine RG ?_;(repeat first|refine WO ?_|refine Ai λX=>?_|refine Ay λY=>?_);refine NL ?_;refine FL ?_;rw[hml];refine BI (λ(i j:Nat)=>⟨[(0,AQ false l),(1,iA n),(6,iA l.length),(7,iA i),(8,iA j)],Sf⟩) (λi j=>i<=j/\j<=l.length/\(∀k (h:k<l.length),k<i->l[k]<n)/\∀k (h:k<l.length),j<=k->n<=l[k]) (λi j=>j-i) 0 l.length ⟨Nat.zero_le _,Nat.le_refl _,λk h1 h2=>absurd h2 (by omega),λk h1 h2=>absurd h2 (by omega)⟩ ?_;rintro i j ⟨hij,hjn,hlo,hhi⟩;refine RG ?_;(repeat first|refine WO ?_|refine Ai λX=>?_|refine Ay λY=>?_);refine NL ?_;refine FL ?_;refine AWP.cond rfl (λhc=>?_) (λhc=>?_)
 ·have h:i<j:=by rw[decide_eq_true_eq]at hc;omega
  have hmid:((i:Int)+j).fdiv (2^1)=(((i+j)/2:Nat):Int):=by
   rw[Int.fdiv_eq_ediv_of_nonneg _ (by decide)];omega
  have hw1:IntKind.u64.wrap ((i:Int)+j)=i+j:=by rw[IntKind.wrap_u64];omega
  have hw2:IntKind.i64.wrap (((i:Int)+j).fdiv (2^1))=((i:Int)+j).fdiv (2^1):=by
   rw[IntKind.wrap_i64,hmid];omega
  refine FL ?_;refine RG ?_;(repeat first|(refine AOps.gN ?_;first|refine AOps.p (W.conv .i64 .u64 (by kernel_rfl) (by kernel_rfl) rfl hw1) rfl ?_|refine AOps.p (W.shr 1 rfl rfl rfl (by decide)) rfl ?_|refine AOps.p (W.conv .u64 .i64 (by kernel_rfl) (by kernel_rfl) rfl hw2) rfl ?_)|refine WO ?_|refine Ai λX=>?_|refine Ay λY=>?_);refine NL ?_;rw[hmid];obtain⟨m,hm⟩:∃m,(i+j)/2=m:=⟨_,rfl⟩;rw[hm];have hml2:m<l.length:=by omega
  have hmm:m<(l.map iA).length:=by omega
  have hat:(l.map iA)[m]?=some (iA l[m]):=by rw[List.getElem?_map,List.getElem?_eq_getElem hml2];rfl
  have hls:=RC l[m] n;refine FL ?_;refine RG ?_;(repeat first|(refine AOps.gN ?_;first|(refine AOps.g_callf ?_;first|refine AOps.c2 (h:=(hls ..)) (k:=?_)))|refine WO ?_|refine Ai λX=>?_|refine Ay λY=>?_);refine NL ?_;refine FL ?_;refine AWP.cond rfl (λhe=>?_) (λhe=>?_)
  ·have he:l[m]<n:=of_decide_eq_true he
   refine FL ?_;refine RG ?_;(repeat first|refine WO ?_|refine Ai λX=>?_|refine Ay λY=>?_);refine NL ?_;refine Ak (m+1) j ⟨by omega,hjn,λk h1 h2=>?_,hhi⟩;by_cases e:k=m
   ·subst e;exact he
   ·have:=hsp k m h1 hml2 (by omega);omega
  ·have he:¬l[m]<n:=of_decide_eq_false he
   refine FL ?_;refine RG ?_;(repeat first|refine WO ?_|refine Ai λX=>?_|refine Ay λY=>?_);refine NL ?_;refine Ak i m ⟨by omega,by omega,hlo,λk h1 h2=>?_⟩;by_cases e:k=m
   ·subst e;omega
   ·have:=hsp m k hml2 h1 (by omega);omega
 ·have h:i=j:=by rw[decide_eq_false_iff_not]at hc;omega
  subst h;have hlw:=Nk hjn hlo hhi;refine FL ?_;by_cases hin:i<l.length
  ·have g1:decide ((i:Int)<(l.length:Nat))=true:=decide_eq_true (by omega)
   have hmm:i<(l.map iA).length:=by omega
   have hat:(l.map iA)[i]?=some (iA l[i]):=by rw[List.getElem?_map,List.getElem?_eq_getElem hin];rfl
   by_cases he:l[i]=n
   ·have g2:decide (l[i]=n)=true:=decide_eq_true he
    have hmem:decide (n∈l)=true:=decide_eq_true (by rw[<-he];exact List.getElem_mem hin);rw[hlw,hmem];refine RG ?_;(repeat first|(refine AOps.gQ ?_;first|refine AOps.goNU ?_|refine AOps.goNV ?_)|refine WO ?_|refine Ai λX=>?_|refine Ay λY=>?_);refine NL ?_;refine RT ?_;rw[g1,g2];exact AS [iA i,bA true] [] ⟨rfl,rfl⟩
   ·have g2:decide (l[i]=n)=false:=decide_eq_false he
    have hmem:decide (n∈l)=false:=decide_eq_false λhm=>by
     obtain⟨k,hk,rfl⟩:=List.mem_iff_getElem.1 hm;rcases Nat.lt_or_ge k i with h|h
     ·have:=hlo k hk h;omega
     ·have h3:k≠i:=λe=>he (by subst e;rfl)
      have:=hsp i k hin hk (by omega);have:=hhi i hin (Nat.le_refl _);omega
    rw[hlw,hmem];refine RG ?_;(repeat first|(refine AOps.gN ?_;first|(refine AOps.g_callf ?_;first|refine AOps.c1 (h:=(Nh l[i])) (k:=?_)|refine AOps.c1 (h:=(Nh n)) (k:=?_)))|refine WO ?_|refine Ai λX=>?_|refine Ay λY=>?_);refine NL ?_;refine RT ?_;rw[g1,g2];exact AS [iA i,bA false] [] ⟨rfl,rfl⟩
  ·have g1:decide ((i:Int)<(l.length:Nat))=false:=decide_eq_false (by omega)
   have hmem:decide (n∈l)=false:=decide_eq_false λhm=>by
    obtain⟨k,hk,rfl⟩:=List.mem_iff_getElem.1 hm;have:=hlo k hk (by omega);omega
   rw[hlw,hmem];refine RG ?_;(repeat first|(refine AOps.gQ ?_;first|refine AOps.goNU ?_|refine AOps.goNV ?_)|refine WO ?_|refine Ai λX=>?_|refine Ay λY=>?_);refine NL ?_;refine RT ?_;rw[g1];exact AS [iA i,bA false] [] ⟨rfl,rfl⟩
theorem Ip{α:Type}{l:List α}{i:Nat}(h:i<l.length)(z:List α):(l.take i++(l.drop (i+1)).take (l.length-(i+1))++z).take (i+(l.length-(i+1)))=l.eraseIdx i:=by
 rw[List.take_of_length_le (l:=l.drop (i+1)) (by rw[List.length_drop];omega),List.eraseIdx_eq_take_drop_succ];rw[List.take_append_of_le_length (by simp;omega),List.take_of_length_le (by simp;omega)]
theorem NE(X n i:Nat)(l:List AV)(hn:n=l.length)(hi:i<n)(hl:n<=1099511627776)(hfr:FreeL l)(hw:∀e∈l,e.width=2):
  Spec Tryz.prog 72 [.sl X 0 n,iA i,iA ((i:Int)+1)] [(X,.row 42 2 l)] λr S'=>r= .lst true 42 2 (l.eraseIdx i)/\S'=[]:=by
 subst hn;refine Spec.of (nt:=33) (res:=[.tmp 6]) Tryz.func72 rfl (by kernel_rfl) rfl rfl rfl λSf=>?_
 have h1:((i:Int)+1)=((i+1:Nat):Int):=by omega
 refine RG ?_;(repeat first|refine WO ?_|refine Ai λX=>?_|refine Ay λY=>?_);refine NL ?_;refine RG ?_;(repeat first|(refine AOps.gN ?_;first|refine AOps.p (W.slice3 (lo:=i) (hi:=i+1) (mx:=l.length) rfl rfl rfl rfl (by exact At.f) rfl h1 rfl (by omega) (by omega) (Nat.le_refl _)) rfl ?_)|refine WO ?_|refine Ai λX=>?_|refine Ay λY=>?_);refine NL ?_;refine RG ?_;(repeat first|refine WO ?_|refine Ai λX=>?_|refine Ay λY=>?_);refine NL ?_;refine AE rfl (decide_eq_false (by omega)) ?_;refine RG ?_;(repeat first|refine WO ?_|refine Ai λX=>?_|refine Ay λY=>?_);refine NL ?_;have hel:(l.eraseIdx i).length=l.length-1:=List.length_eraseIdx_of_lt hi;rcases Nat.lt_or_ge (i+1) l.length with hj|hj
 ·have hp:=Ip hi
  refine RU ?_;(repeat first|(refine RGo.gN ?_;first|refine RGo.p (W.hi rfl rfl (by exact At.f) rfl (by omega)) rfl ?_|refine RGo.p (W.slice_lo (lo:=i+1) rfl rfl (by exact At.f) h1 (by omega)) rfl ?_|refine RGo.s (W.appS (l.length-(i+1)) (by omega) (by omega) (by omega) hfr hw rfl rfl (by exact At.f)) rfl ?_)|(refine RGo.gQ ?_;first|refine RGo.p (W.hi rfl rfl (by exact At.f) rfl (by omega)) rfl ?_|refine RGo.p (W.slice_lo (lo:=i+1) rfl rfl (by exact At.f) h1 (by omega)) rfl ?_|refine RGo.s (W.appS (l.length-(i+1)) (by omega) (by omega) (by omega) hfr hw rfl rfl (by exact At.f)) rfl ?_)|refine RK ?_|refine RGo.nil (by kernel_rfl) ?_);rw[Nat.zero_add];have hln:i+(l.length-(i+1))=l.length-1:=by omega
  have hLl:(l.take i++(l.drop (i+1)).take (l.length-(i+1))++l.drop (i+(l.length-(i+1)))).length=l.length:=by simp only[List.length_append,List.length_take,List.length_drop];omega
  have hLp:=hp (l.drop (i+(l.length-(i+1))));obtain⟨L',hL'⟩:∃L',l.take i++(l.drop (i+1)).take (l.length-(i+1))++l.drop (i+(l.length-(i+1)))=L':=⟨_,rfl⟩;rw[hL']at hLl hLp⊢
  have key:∀Z D,((L'.take (i+(l.length-(i+1)))++Z)++D).take (i+(l.length-(i+1)))=l.eraseIdx i:=λZ D=>by
   rw[List.append_assoc,List.take_append_of_le_length (by rw[List.length_take];omega),List.take_take,Nat.min_self,hLp]
  refine RG ?_;(repeat first|(refine AOps.gN ?_;first|refine AOps.p (QX (lo:=i+(l.length-(i+1))) (hi:=l.length) rfl rfl rfl (by exact At.f) rfl rfl (by omega) (by omega)) rfl ?_|refine AOps.s (W.clear rfl (by exact At.f) (by first|exact .inl rfl|exact .inr rfl) rfl (by omega)) rfl ?_)|refine WO ?_|refine Ai λX=>?_|refine Ay λY=>?_);refine NL ?_;refine RG ?_;(repeat first|refine WO ?_|refine Ai λX=>?_|refine Ay λY=>?_);refine NL ?_;refine AWP.shrink (X:=X) (i+(l.length-(i+1))) ?_;rw[Nat.zero_add,key];refine RT ?_;exact⟨[.sl X 0 (i+(l.length-(i+1)))],[.lst true 42 2 (l.eraseIdx i)],_,[],.cons (.tmp rfl) rfl .nil,.cons (.cell (.sl (p:=0) .here (by rw[hel];omega))) .nil,by exact Sub.f,rfl,rfl⟩
 ·have hie:i=l.length-1:=by omega
  have hl0:l.length-(i+1)=0:=by omega
  have hle:l.eraseIdx i=l.take i:=by rw[List.eraseIdx_eq_take_drop_succ,List.drop_of_length_le (by omega),List.append_nil]
  have key:∀Z D,((l.take i++Z)++D).take i=l.eraseIdx i:=λZ D=>by
   rw[List.append_assoc,List.take_append_of_le_length (by rw[List.length_take];omega),List.take_take,Nat.min_self,hle]
  refine RU ?_;(repeat first|(refine RGo.gN ?_;first|refine RGo.p (W.hi rfl rfl (by exact At.f) rfl (by omega)) rfl ?_|(refine RGo.p (W.slice_lo (lo:=i+1) rfl rfl (by exact At.f) h1 (by omega)) rfl ?_;rw[hl0])|refine RGo.p (W.app0 rfl rfl (by exact At.f)) rfl ?_)|(refine RGo.gQ ?_;first|refine RGo.p (W.hi rfl rfl (by exact At.f) rfl (by omega)) rfl ?_|(refine RGo.p (W.slice_lo (lo:=i+1) rfl rfl (by exact At.f) h1 (by omega)) rfl ?_;rw[hl0])|refine RGo.p (W.app0 rfl rfl (by exact At.f)) rfl ?_)|refine RK ?_|refine RGo.nil (by kernel_rfl) ?_);refine RG ?_;(repeat first|(refine AOps.gN ?_;first|refine AOps.p (QX (lo:=i) (hi:=l.length) rfl rfl rfl (by exact At.f) rfl rfl (by omega) (by omega)) rfl ?_|refine AOps.s (W.clear rfl (by exact At.f) (by first|exact .inl rfl|exact .inr rfl) rfl (by omega)) rfl ?_)|refine WO ?_|refine Ai λX=>?_|refine Ay λY=>?_);refine NL ?_;refine RG ?_;(repeat first|refine WO ?_|refine Ai λX=>?_|refine Ay λY=>?_);refine NL ?_;refine AWP.shrink (X:=X) i ?_;simp only[Nat.zero_add];rw[key];refine RT ?_;exact⟨[.sl X 0 i],[.lst true 42 2 (l.eraseIdx i)],_,[],.cons (.tmp rfl) rfl .nil,.cons (.cell (.sl (p:=0) .here (by rw[hel];omega))) .nil,by exact Sub.f,rfl,rfl⟩
def Ha(ks:List Kind)(i:Nat):List AV:=(ks.take i).map (Au true)++List.replicate (ks.length-i) (.agg [sA [],.prim (.slice none 0 0)])
theorem Pp(ks:List Kind)(i:Nat)(h:i<=ks.length):(Ha ks i).length=ks.length:=by simp[Ha];omega
theorem RF{ks:List Kind}{i:Nat}(h:i<ks.length):(Ha ks i)[i]?=some (.agg [sA [],.prim (.slice none 0 0)]):=by
 unfold Ha;rw[List.getElem?_append_right (by simp;omega),List.getElem?_replicate,if_pos (by simp;omega)]
theorem Po{ks:List Kind}{i:Nat}(h:i<ks.length):(Ha ks i).set i (Au true ks[i])=Ha ks (i+1):=by
 unfold Ha;rw[List.set_append_right _ _ (by simp;omega),List.length_map,List.length_take,Nat.min_eq_left (by omega),Nat.sub_self];rw[show ks.length-i=(ks.length-(i+1))+1 from by omega,List.replicate_succ,List.set_cons_zero];rw[List.take_succ_eq_append_getElem h,List.map_append,List.append_assoc];rfl
theorem HL(ks:List Kind)(hl:ks.length<=1099511627776)(hf:∀k∈ks,k.fields.length<=1099511627776):PS Tryz.prog 57 [As false false ks] (As true true ks):=by
 refine Spec.of (nt:=27) (res:=[.tmp 2]) Tryz.func57 rfl (by kernel_rfl) rfl rfl rfl λSf=>?_
 have hkm:(ks.map (Au false)).length=ks.length:=List.length_map _;have hz0:List.replicate (ks.map (Au false)).length (.agg [sA [],.prim (.slice none 0 0)])=Ha ks 0:=by simp[Ha]
 (repeat first|(refine AOps.gN ?_;first|(refine DW ?_;refine E3 ((.agg [sA [],.prim (.slice none 0 0)])) λK=>?_))|refine WK ?_|refine Ai λX=>?_|refine Ay λY=>?_);rw[hz0];refine BI (λ(i:Nat) (M:List AV)=>⟨[(3,.sl K 0 (ks.map (Au false)).length),(9,As false false ks),(10,iA (ks.map (Au false)).length),(11,iA i)],(K,.row 118 2 M)::Sf⟩) (λi M=>i<=ks.length/\M=Ha ks i) (λi _=>ks.length-i) 0 _ ⟨Nat.zero_le _,rfl⟩ ?_;rintro i M ⟨hi,hM⟩;(repeat first|refine WK ?_|refine Ai λX=>?_|refine Ay λY=>?_);refine AWP.cond rfl (λhc=>?_) (λhc=>?_)
 ·have h:i<ks.length:=by rw[decide_eq_true_eq,hkm]at hc;omega
  have hset:=Po h;have hMat:M[i]?=some (.agg [sA [],.prim (.slice none 0 0)]):=by rw[hM];exact RF h
  have hMl:M.length=ks.length:=by rw[hM];exact Pp ks i hi
  have hfl:=hf _ (List.getElem_mem h);obtain⟨⟨kn,fs⟩,hk⟩:∃k,ks[i]=k:=⟨_,rfl⟩;rw[hk]at hset hfl;dsimp only at hfl;have hat:(ks.map (Au false))[i]?=some (Au false ⟨kn,fs⟩):=by rw[List.getElem?_map,List.getElem?_eq_getElem h,hk];rfl
  have hil:i<(ks.map (Au false)).length:=by omega
  have hfm:(fs.map fieldA).length=fs.length:=List.length_map _;(repeat first|refine WK ?_|refine Ai λV=>?_|refine Ay λY=>?_);refine AWP.rs λY=>?_
  refine RU ?_;(repeat first|(refine RGo.gN ?_;first|refine RGo.s (Qe (by rw[hfm];omega) (by rw[hfm];unfold maxLen;omega) rfl rfl (by exact At.f)) rfl ?_)|(refine RGo.gQ ?_;first|refine RGo.s (Qe (by rw[hfm];omega) (by rw[hfm];unfold maxLen;omega) rfl rfl (by exact At.f)) rfl ?_)|refine RK ?_|refine RGo.nil (by kernel_rfl) ?_);(repeat refine WF ?_);have hMs:(M.set i (.agg [sA kn,.sl Y 0 (fs.map fieldA).length]))[i]?=some (.agg [sA kn,.sl Y 0 (fs.map fieldA).length]):=by rw[List.getElem?_set_self (by omega)]
  refine AWP.closeIn (X:=Y) (Y:=K) .here (.next (.next .here)) rfl rfl (Hos.at hMs (.agg (.tail (.head .here)))) ?_;rw[List.set_set];(repeat first|refine WK ?_|refine Ai λX=>?_|refine Ay λY=>?_);refine Ak (i+1) _ ⟨h,?_⟩;rw[hM];exact hset
 ·have h:i=ks.length:=by rw[decide_eq_false_iff_not,hkm]at hc;omega
  subst h;have hfin:Ha ks ks.length=ks.map (Au true):=by simp[Ha]
  rw[hfin]at hM;subst hM;(repeat first|refine WK ?_|refine Ai λX=>?_|refine Ay λY=>?_);refine RT ?_;exact⟨[.sl K 0 (ks.map (Au false)).length],[As true true ks],_,[],.cons (.tmp rfl) rfl .nil,.cons (.cell (.sl (p:=0) .here (by simp))) .nil,by exact Sub.f,rfl,rfl⟩
def R2(x:Item):AV:=.agg [iA x.ent.n,iA x.ent.gen,Aj true false x.comps]
abbrev SJ(o:Bool)(l:List Item):AV:=.lst o 71 3 (l.map R2)
theorem TW.fz{a b:AV}[h:Frz a b]:TW a b []:=h.h▸ .frz
theorem Ov(c:Comp):FreeE (AD false c):=.agg λx hx=>by
 simp only[List.mem_cons,List.not_mem_nil,or_false]at hx;rcases hx with rfl|rfl
 ·exact .prim _
 ·exact λm c bs k=>k.1
theorem NF(l:List Comp):FreeL (l.map (AD false)):=λx hx=>by obtain⟨y,_,rfl⟩:=List.mem_map.1 hx;exact Ov y
theorem Ou(l:List Comp):∀x∈l.map (AD false),x.width=2:=λx hx=>by obtain⟨y,_,rfl⟩:=List.mem_map.1 hx;rfl
theorem W.makeMap{P:Program}{ty t k e:TypeId}{pos:String}{after:Array Edge}{dst:Option Tmp}{c:Option (List Bool)}{g:Option (Nat×Bool)}{T:List (Nat×AV)}{S:List AB}{X p:Nat}{z0:Value}[TMap P t k e z0](hS:At S p (X,.gone)):Stp c P ⟨dst,.makeMap t none,ty,pos,after,g⟩ T S [] [(p,(X,.gone))] (.mp X) [(p,(X,.ob (MapF P k e (λ_=>none) 0)))]:=⟨.makeMap (TMap.h (z0:=z0)),.nil,.cons hS .nil⟩
theorem ArOK.keys_items{a:Ar}(h:ArOK a):Av a.ts=(AU a.ts).map (·.ent.n):=by
 rw[Av,AU,List.map_flatMap]
 have:∀ts:List Tab,(∀t∈ts,∀e∈t.es,e.1=e.2.n)->(ts.flatMap λt=>AC t.es)=ts.flatMap λt=>(BX t).map (·.ent.n):=by
  intro ts
  induction ts with
  |nil=>intro _;rfl
  |cons t ts ih=>
   intro hh;rw[List.flatMap_cons,List.flatMap_cons,ih λu hu=>hh u (by simp[hu])]
   congr 1
   rw[BX,List.map_map];exact List.map_congr_left λe he=>hh t (by simp) e he
 exact this a.ts h.ent
theorem WdOK.cl{w:Wd}(h:WdOK w):∀it∈w.items,it.comps.length<=16:=λit hi=>by
 obtain⟨_,_,_,_,e⟩:=h.it it hi;obtain⟨h1,h2⟩:=held_iff.1 e;have h16:=(BL h.ks).1;have:=Er (λc:Comp=>c.kind) w.kinds.length it.comps (h1.imp λ{a b} hab e=>by omega) (λc hc=>⟨(h2 c hc).1,(h2 c hc).2.1⟩);omega
set_option maxRecDepth 8000 in
set_option maxHeartbeats 4000000 in
theorem Sd(w:Wd)(hw:WdOK w):Spec Tryz.prog 21 [wdA false w] [] λr S'=>∃b:Ar,(ArOK b/\Dg b.ts/\b.kinds=w.kinds/\b.gens=w.gens/\(AU b.ts).Perm w.items)/\r= .tup [.ptr b.A 0 0,iA 0]/\S'=arS b:=by
 have hL:=hw.wl;have hgl:=hw.gl;have hil:=hw.il;have hsok:=hw.so;have hit:=hw.it;have hkp:=HL w.kinds (by have:=(BL hw.ks).1;omega) (λk hk=>by have:=(Ce ((BL hw.ks).2 k hk)).2.1;omega);have hcl:=ET w.gens (by omega);have hck:=EU w (by omega) (by omega) (λit hi=>(hL.items.2 it hi).1);rw[(Ax w).2 hw]at hck;have hcc:=hw.cl;have hcp:∀it∈w.items,PS Tryz.prog 59 [Aj false false it.comps] (Aj true false it.comps):=λit hi=>GS it.comps (hL.items.2 it hi).1 (hL.items.2 it hi).2
 have hime:(w.items.map (AA false)).length=w.items.length:=List.length_map _;obtain⟨ks,gs,its⟩:=w;dsimp only at*;refine Spec.of (nt:=38) (res:=[.tmp 2,.tmp 3]) Tryz.func21 rfl (by kernel_rfl) rfl rfl rfl λSf=>?_
 refine RG ?_;(repeat first|refine WO ?_|refine Ai λD=>?_|refine Ay λY=>?_);refine NL ?_;refine FL ?_;refine RG ?_;(repeat first|(refine AOps.gN ?_;first|(refine AOps.g_callf ?_;first|refine AOps.c1 (h:=(hck ..)) (k:=?_)))|refine WO ?_|refine Ai λX=>?_|refine Ay λY=>?_);refine NL ?_;refine FL ?_;refine RG ?_;(repeat first|refine WO ?_|refine Ai λX=>?_|refine Ay λY=>?_);refine NL ?_;refine FL ?_;refine AE rfl rfl ?_;refine FL ?_;have hgm:(gs.map iA).length=gs.length:=List.length_map _;refine AWP.rs λA=>AWP.rs λG=>AWP.rs λO=>?_
 refine RU ?_;(repeat first|(refine RGo.gN ?_;first|(refine RGo.g_callf ?_;first|refine RGo.c1 (h:=(hkp ..)) (k:=?_)|refine E2 (h:=hcl) (hT:=.ls (Y:=G)) (k:=?_))|refine RGo.goS (h:=W.makeMap (X:=O) (by exact At.f)) (k:=?_)|refine RGo.goS (h:=W.box (X:=A) rfl (by exact At.f) rfl) (k:=?_))|(refine RGo.gQ ?_;first|(refine RGo.g_callf ?_;first|refine RGo.c1 (h:=(hkp ..)) (k:=?_)|refine E2 (h:=hcl) (hT:=.ls (Y:=G)) (k:=?_))|refine RGo.goS (h:=W.makeMap (X:=O) (by exact At.f)) (k:=?_)|refine RGo.goS (h:=W.box (X:=A) rfl (by exact At.f) rfl) (k:=?_))|refine RK ?_|refine RGo.nil (by kernel_rfl) ?_);refine FL ?_;refine AWP.adoptIn (Y:=A) 145 1 (by exact At.f) (λTb=>.cons (.agg (.cons .same (.cons .same (.cons (.base .nil) (.cons .same .nil))))) .nil) λTb=>?_
 rw[hgm];refine AWP.note (λ_ _=>False) (λ_ _ h=>h) λTv=>?_
 refine RG ?_;(repeat first|refine WO ?_|refine Ai λX=>?_|refine Ay λY=>?_);refine NL ?_;refine FL ?_;refine AWP.front Tb ?_;refine AWP.front Tv ?_;refine AWP.front O ?_;refine AWP.front G ?_;refine AWP.front A ?_;refine AWP.front D ?_;refine BI (λ(i:Nat) (b:Ar)=>⟨[(5,.ptr A 0 0),(23,Du false false its),(24,iA (its.map (AA false)).length),(25,iA i)],(D,.row 26 3 [wdA false ⟨ks,gs,its⟩])::(arS b++Sf)⟩) (λi b=>i<=its.length/\ArOK b/\Dg b.ts/\b.A=A/\b.kinds=ks/\b.gens=gs/\(AU b.ts).Perm (its.take i)) (λi _=>its.length-i) 0 ⟨A,G,Tb,O,Tv,λ_ _=>False,λ_=>none,0,ks,gs,[]⟩ ⟨by omega,⟨by simp,.nil,.nil,by simp,by simp,by simp,rfl⟩,(by intro t ht;cases ht),rfl,rfl,rfl,.refl _⟩ ?_;rintro i b ⟨hi,hok,hne,hA,hbk,hbg,hpm⟩;subst hA;refine RG ?_;(repeat first|refine WO ?_|refine Ai λX=>?_|refine Ay λY=>?_);refine NL ?_;refine FL ?_;refine AWP.cond rfl (λh=>?_) (λh=>?_)
 ·have h:i<its.length:=by rw[decide_eq_true_eq,hime]at h;omega
  have hat:(its.map (AA false))[i]?=some (AA false its[i]):=Ah _ h;have hil:i<(its.map (AA false)).length:=by omega
  have him:=List.getElem_mem h;obtain⟨it1,it2,_⟩:=hit _ him;have hcpi:=hcp _ him
  have hfr:its[i].ent.n∉Av b.ts:=by
   rw[hok.keys_items];intro hm;obtain⟨x,hx,e⟩:=List.mem_map.1 hm;have hx:=hpm.mem_iff.1 hx;obtain⟨j,hj,rfl⟩:=List.mem_take_iff_getElem.1 hx;have:=List.pairwise_iff_getElem.1 hsok j i (by omega) h (by omega);omega
  have had:=I3 b its[i].ent its[i].comps hok hne ⟨it1,by omega⟩ hfr (hcc _ him);have htk:its.take (i+1)=its.take i++[its[i]]:=List.take_succ_eq_append_getElem h;obtain⟨⟨ie,ic⟩,hie⟩:∃it,its[i]=it:=⟨_,rfl⟩;rw[hie]at hat hcpi had htk;refine FL ?_;refine RG ?_;(repeat first|refine WO ?_|refine Ai λC=>?_|refine Ay λY=>?_);refine NL ?_;refine FL ?_;(repeat refine WF ?_);refine DY 6 (by kernel_rfl) (by kernel_rfl) (by kernel_rfl) ?_;dsimp only[List.take,List.drop];(repeat first|(refine RGo.gN ?_;first|(refine RGo.g_callf ?_;first|refine RGo.c1 (h:=(hcpi ..)) (k:=?_)))|(refine RGo.gQ ?_;first|(refine RGo.g_callf ?_;first|refine RGo.c1 (h:=(hcpi ..)) (k:=?_)))|refine RK ?_|refine RGo.nil (by kernel_rfl) ?_);refine DB [_,_] (h:=had) λb' hb'=>?_
  obtain⟨k1,k2,k3,k4,k5,k6⟩:=hb';refine AOps.nil ?_;refine FL ?_;refine RG ?_;(repeat first|refine WO ?_|refine Ai λX=>?_|refine Ay λY=>?_);refine NL ?_
  exact Ak (i+1) b' ⟨by omega,k1,k2,k3,k4.trans hbk,k5.trans hbg,by
   rw[htk];exact k6.trans ((hpm.cons _).trans (List.perm_append_singleton _ _).symm)⟩ (by omega)
 ·have h:i=its.length:=by rw[decide_eq_false_iff_not,hime]at h;omega
  subst h;rw[List.take_length]at hpm;refine FL ?_;refine RG ?_;(repeat first|refine WO ?_|refine Ai λX=>?_|refine Ay λY=>?_);refine NL ?_;refine RT ?_;exact AS [.ptr b.A 0 0,iA 0] (arS b) ⟨b,⟨hok,hne,hbk,hbg,hpm⟩,rfl,rfl⟩
theorem QF(a:Ar)(ha:ArOK a)(e:Ent)(k:Int)(hn:I64 e.n)(hh:Eb a e=false):Spec Tryz.prog 268 [.ptr a.A 0 0,AX e,iA k] (arS a) λr S'=>r=iA 4/\S'=arS a:=by
 have hs:=Gq a ha e hn;rw[hh]at hs;refine Spec.of (nt:=41) (res:=[.tmp 6]) Tryz.func268 rfl (by kernel_rfl) rfl rfl rfl λSf=>?_
 refine RG ?_;(repeat first|refine WO ?_|refine Ai λB=>?_|refine Ay λY=>?_);refine NL ?_;refine FL ?_;refine RG ?_;(repeat first|(refine AOps.gN ?_;first|refine DS [_] (h:=hs) (k:=?_))|refine WO ?_|refine Ai λX=>?_|refine Ay λY=>?_);refine NL ?_;refine AR rfl rfl ?_;refine FL ?_;refine RG ?_;(repeat first|refine WO ?_|refine Ai λX=>?_|refine Ay λY=>?_);refine NL ?_;refine RT ?_;exact AS [iA 4] (arS a) ⟨rfl,rfl⟩
theorem ArOK.ptr{a:Ar}(h:ArOK a){t:Tab}(ht:t∈a.ts){n:Int}(hn:n∈AC t.es):∃u,(a.g n).getD (.pointer none)=u/\u.oneCell'=true/\a.K (.ptr t.X 0 0) u:=by
 have hsm:=h.gn n (List.mem_flatMap.2 ⟨t,ht,hn⟩);obtain⟨u,hu⟩:∃u,a.g n=some u:=Option.isSome_iff_exists.1 hsm;obtain⟨w,hw,hwn,hK,b,hb⟩:=h.g n u hu;have:=h.uniq hw ht hwn hn;subst this;exact⟨u,by rw[hu];rfl,by rw[hb];rfl,hK⟩
theorem Ie{a b:Ar}(ha:ArOK a)(hb:ArOK b){e:Ent}{l:List Comp}(hit:(AU a.ts).Perm (⟨e,l⟩::AU b.ts)):e.n∉Av b.ts:=by
 have h1:=ha.keys;rw[ha.keys_items]at h1;have h2:=(hit.map λit:Item=>it.ent.n).nodup_iff.1 h1;rw[hb.keys_items];exact(List.nodup_cons.1 h2).1
theorem LV{l:List Int}{k:Int}(hs:l.Pairwise (· < ·))(h:k∈l):∃hl:IK l k<l.length,l[IK l k]=k:=by
 obtain⟨i,hi,rfl⟩:=List.mem_iff_getElem.1 h;have hsp:=List.pairwise_iff_getElem.1 hs
 have e:=Nk (l:=l) (n:=l[i]) (i:=i) (by omega) (λj hj hlt=>hsp j i hj hi hlt) (λj hj hle=>by
  rcases Nat.lt_or_eq_of_le hle with h|rfl
  ·have:=hsp i j hi hj h;omega
  ·exact Int.le_refl _)
 exact⟨by rw[e];exact hi,by simp only[e]⟩
structure SwapR(a:Ar)(e:Ent)(l l':List Comp)(b:Ar):Prop where
 ok:ArOK b
 ne:Dg b.ts
 A:b.A=a.A
 kinds:b.kinds=a.kinds
 gens:b.gens=a.gens
 items:∃r,(AU a.ts).Perm (⟨e,l⟩::r)/\(AU b.ts).Perm (⟨e,l'⟩::r)
set_option maxRecDepth 8000 in
theorem Or(a:Ar)(ha:ArOK a)(hne:Dg a.ts)(e:Ent)(k:Int)(hn:I64 e.n)(hkl:I64 k)(hh:Eb a e=true){l1 l2:List Tab}{t:Tab}(hts:a.ts=l1++t::l2)(hm:(e.n,e)∈t.es)(hks:t.ks.Pairwise (· < ·)):Spec Tryz.prog 268 [.ptr a.A 0 0,AX e,iA k] (arS a) λr S'=>∃b:Ar,(if k∈t.ks then SwapR a e (AJ t e.n) ((AJ t e.n).eraseIdx (IK t.ks k)) b else b=a)/\r=iA (if k∈t.ks then 0 else 4)/\S'=arS b:=by
 have htm:t∈a.ts:=by rw[hts];simp
 have hto:=ha.tab t htm;have hnk:e.n∈AC t.es:=List.mem_map.2 ⟨_,hm,rfl⟩;have hnl:=hto.es.lt _ hnk;have hs:=Gq a ha e hn;rw[hh]at hs;have hbs:=Nx t.ks k hks (by have:=hto.ks;omega);obtain⟨u,hgd,hone,hK⟩:=ha.ptr htm hnk;refine Spec.of (nt:=41) (res:=[.tmp 6]) Tryz.func268 rfl (by kernel_rfl) rfl rfl rfl λSf=>?_
 refine RG ?_;(repeat first|refine WO ?_|refine Ai λB=>?_|refine Ay λY=>?_);refine NL ?_;refine FL ?_;refine RG ?_;(repeat first|(refine AOps.gN ?_;first|refine DS [_] (h:=hs) (k:=?_))|refine WO ?_|refine Ai λX=>?_|refine Ay λY=>?_);refine NL ?_;refine AE rfl rfl ?_;refine FL ?_;refine AWP.perm (List.Perm.cons _ (DV hts Sf)) ?_;refine RU ?_;(repeat first|(refine RGo.gN ?_;first|(refine RGo.g_callf ?_;first|refine RGo.c2 (h:=(hbs ..)) (k:=?_))|refine RGo.go (h:=W.lookP (.ptr t.X 0 0) hgd hn hone hK rfl rfl (by exact At.f) (by exact At.f)) (k:=?_))|(refine RGo.gQ ?_;first|(refine RGo.g_callf ?_;first|refine RGo.c2 (h:=(hbs ..)) (k:=?_))|refine RGo.go (h:=W.lookP (.ptr t.X 0 0) hgd hn hone hK rfl rfl (by exact At.f) (by exact At.f)) (k:=?_))|refine RK ?_|refine RGo.nil (by kernel_rfl) ?_);by_cases hk:k∈t.ks
 ·rw[decide_eq_true hk]
  simp only[if_pos hk];refine FL ?_;refine RG ?_;(repeat first|refine WO ?_|refine Ai λX=>?_|refine Ay λY=>?_);refine NL ?_;refine AE rfl rfl ?_;refine FL ?_;refine AWP.perm (List.Perm.cons _ (DV hts Sf).symm) ?_;(repeat refine WF ?_);have htk:=KJ a ha hne hts hnk;obtain⟨i,hi⟩:∃i,IK t.ks k=i:=⟨_,rfl⟩;rw[hi];obtain⟨hil,hik⟩:=LV hks hk;rw[hi]at hil;have htl:(AJ t e.n).length=t.ks.length:=by unfold AJ;rw[List.length_map,List.length_zip];have:=hto.len;omega
  have h16:=hto.ks;refine Cw (n:=1) [(B,.row 32 2 [AX e])] (arS a++Sf) rfl (by kernel_rfl) (by kernel_rfl) ?_;refine RGoH.go ?_;refine RGoH.go ?_;refine RGoH.go ?_;refine RGoH.go ?_;refine RGoH.go ?_;refine RGoH.skip [32,34] ?_;refine RGoH.go ?_;refine RGoH.go ?_;refine RGoH.go (h:=Ap ((i:Int)+1) (by omega) (by omega) rfl rfl) ?_;refine RGoH.skip [35,36,38] ?_;refine RGoH.skip [30,31,39] ?_;refine RGoH.nil (by kernel_rfl) (by kernel_rfl) (by kernel_rfl) ?_;refine HC.step [(32,.ptr a.A 0 0),(34,iA e.n)] ⟨rfl,rfl,rfl,rfl,trivial⟩ λT F=>?_
  refine JB F (h:=htk) (k:=λY _ K=>?_);obtain⟨hok,hne2,hA,hki,hge,hit⟩:=IN ha hne hts hm Y;obtain⟨b,hb⟩:∃b,Dt a l1 l2 t e.n Y=b:=⟨_,rfl⟩;rw[hb]at hok hne2 hA hki hge hit⊢;refine AOps.perm List.perm_middle.symm ?_;refine AOps.nil ⟨rfl,_,_,⟨λd v h=>h,.refl _⟩,?_⟩;have hdl:=NE K (AJ t e.n).length i ((AJ t e.n).map (AD false)) (List.length_map _).symm (by omega) (by omega) (NF _) (Ou _);rw[<-FF]at hdl;refine HC.step [(35,.sl K 0 ((AJ t e.n).map (AD false)).length),(36,iA i),(38,iA ((i:Int)+1))] ⟨rfl,rfl,rfl,rfl,rfl,rfl,trivial⟩ λT2 F2=>?_
  rw[List.length_map];refine Rv F2 (h:=hdl) (k:=?_) (R:=arS b++Sf);refine AOps.nil ⟨rfl,_,_,⟨λd v h=>h,.refl _⟩,?_⟩;rw[<-hA];refine HC.step [(30,.ptr b.A 0 0),(31,AX e),(39,Aj false false ((AJ t e.n).eraseIdx i))] ⟨rfl,rfl,rfl,rfl,rfl,rfl,trivial⟩ λT3 F3=>?_
  have had:=I3 b e ((AJ t e.n).eraseIdx i) hok hne2 hnl (Ie ha hok hit) (by rw[List.length_eraseIdx];split<;>omega);refine DB F3 (h:=had) (k:=λb2 hb2=>?_);refine AOps.nil ⟨rfl,_,_,⟨λd v h=>h,.refl _⟩,?_⟩;show andThen _ _ _ _
  refine FL ?_;refine RG ?_;(repeat first|refine WO ?_|refine Ai λX=>?_|refine Ay λY=>?_);refine NL ?_;refine RT ?_;obtain⟨g1,g2,g3,g4,g5,g6⟩:=hb2;exact AS [iA 0] (arS b2) ⟨b2,⟨g1,g2,g3.trans hA,g4.trans hki,g5.trans hge,_,hit,g6⟩,rfl,rfl⟩
 ·rw[decide_eq_false hk]
  simp only[if_neg hk];refine FL ?_;refine RG ?_;(repeat first|refine WO ?_|refine Ai λX=>?_|refine Ay λY=>?_);refine NL ?_;refine AR rfl rfl ?_;refine FL ?_;refine AWP.perm (List.Perm.cons _ (DV hts Sf).symm) ?_;refine RG ?_;(repeat first|refine WO ?_|refine Ai λX=>?_|refine Ay λY=>?_);refine NL ?_;refine RT ?_;exact AS [iA 4] (arS a) ⟨a,rfl,rfl,rfl⟩
section
open Go.Sort
set_option maxHeartbeats 1000000 in
theorem RM(f:FuncId)(cap:List AV)(cf:Comp->Comp->Int)(hst:Bm cap=true)(hcf:∀x y,PS Tryz.prog f ((AD false) x::(AD false) y::cap) (iA (cf x y)))(X n:Nat)(d:Array Comp)(a b:Nat)(hn:n=d.size)(hab:a<=b)(hb:b<=d.size)(hz:d.size<=1099511627776):PO Tryz.prog 251 [.sl X 0 n,iA a,iA b,.fn f cap] X (.row 42 2 (d.toList.map (AD false))) (.tup []) (.row 42 2 ((insertionSort (AI cf) d a b).toList.map (AD false))):=by
 obtain⟨r,hr⟩:∃r,insertionSort (AI cf) d a b=r:=⟨_,rfl⟩;rw[hr];unfold insertionSort at hr;refine Spec.of (nt:=53) (res:=[]) Tryz.func251 rfl (by kernel_rfl) rfl rfl rfl λSf=>?_
 (repeat first|refine WK ?_|refine Ai λX=>?_|refine Ay λY=>?_);refine BI (λ(i:Nat) (e:Array Comp)=>⟨[(0,.sl X 0 n),(1,iA a),(2,iA b),(3,.fn f cap),(8,iA i)],(X,.row 42 2 (e.toList.map (AD false)))::Sf⟩) (λi e=>i<=max b (a+1)/\a<i/\e.size=d.size/\insOuter (AI cf) a b i e=r) (λi _=>b-i) (a+1) d ⟨by omega,by omega,rfl,hr⟩ ?_;rintro i e ⟨hi,hai,he,hfold⟩;rw[insOuter]at hfold;(repeat first|refine WK ?_|refine Ai λX=>?_|refine Ay λY=>?_);refine AWP.cond rfl (λhc=>?_) (λhc=>?_)
 ·have h:i<b:=by have:=of_decide_eq_true hc;omega
  rw[if_pos h]at hfold;(repeat first|refine WK ?_|refine Ai λX=>?_|refine Ay λY=>?_);refine BI (λ(j:Nat) (u:Array Comp)=>⟨[(0,.sl X 0 n),(1,iA a),(2,iA b),(3,.fn f cap),(8,iA i),(9,iA j)],(X,.row 42 2 (u.toList.map (AD false)))::Sf⟩) (λj u=>j<=i/\u.size=d.size/\insInner (AI cf) a j u=insInner (AI cf) a i e) (λj _=>j) i e ⟨Nat.le_refl _,he,rfl⟩ ?_;rintro j u ⟨hj,hu,hin⟩;rcases Bool.eq_false_or_eq_true (decide ((a:Int)<(j:Int)))with g|g
  ·have hja:a<j:=by have:=of_decide_eq_true g;omega
   obtain⟨q,rfl⟩:∃q,j=q+1:=⟨j-1,by omega⟩;have h1:=Af (AD false) (d:=u) (i:=q+1) (by omega);have h2:=Af (AD false) (d:=u) (i:=q) (by omega);have hl:=hcf (u[q+1]!) (u[q]!);rw[insInner]at hin;(repeat refine WF ?_);refine RU ?_;(repeat first|(refine RGo.gN ?_;first|(refine RGo.g_callv ?_;first|refine RGo.k2 (h:=(hl ..)) (k:=?_))|refine RGo.go (h:=AZ (q:Int) (by omega) (by omega) rfl rfl) (k:=?_))|(refine RGo.gQ ?_;first|(refine RGo.g_callv ?_;first|refine RGo.k2 (h:=(hl ..)) (k:=?_))|refine RGo.go (h:=AZ (q:Int) (by omega) (by omega) rfl rfl) (k:=?_))|refine RK ?_|refine RGo.nil (by kernel_rfl) ?_);(repeat refine WF ?_);refine AWP.cond rfl (λhd=>?_) (λhd=>?_)
   ·have hd:(AI cf) u[q+1]! u[q]! =true:=by simpa[g,AI]using hd
    rw[hd,if_pos (by simp;omega)]at hin;obtain⟨y,hy⟩:=Bp (AD false) (d:=u) (i:=q+1) (j:=q) (by omega) u[q]!;(repeat refine WF ?_);refine RU ?_;(repeat first|(refine RGo.gN ?_;first|refine RGo.go (h:=AZ (q:Int) (by omega) (by omega) rfl rfl) (k:=?_)|refine RGo.s (W.store rfl rfl (by exact At.f) hy (by exact rfl)) rfl ?_)|(refine RGo.gQ ?_;first|refine RGo.go (h:=AZ (q:Int) (by omega) (by omega) rfl rfl) (k:=?_)|refine RGo.s (W.store rfl rfl (by exact At.f) hy (by exact rfl)) rfl ?_)|refine RK ?_|refine RGo.nil (by kernel_rfl) ?_);(repeat first|(refine AOps.gN ?_;first|refine AOps.p (AZ (q:Int) (by omega) (by omega) rfl rfl) rfl ?_)|refine WK ?_|refine Ai λX=>?_|refine Ay λY=>?_);refine Ak q (swp u (q+1) q) ⟨by omega,by rw[size_swp];exact hu,hin⟩ (h0:=by rw[<-CE (AD false) (by omega) (by omega)];exact⟨by exact Lk.f,by exact Sub.f⟩)
   ·have hd:(AI cf) u[q+1]! u[q]! =false:=by simpa[g,AI]using hd
    rw[hd,if_neg (by simp)]at hin;(repeat first|refine WK ?_|refine Ai λX=>?_|refine Ay λY=>?_);refine Ak (i+1) u ⟨by omega,by omega,hu,by rw[hin];exact hfold⟩
  ·have hja:j<=a:=by have:=of_decide_eq_false g;omega
   have hin2:insInner (AI cf) a j u=u:=by
    cases j with
    |zero=>rfl
    |succ q=>rw[insInner,if_neg (by simp;omega)]
   rw[hin2]at hin;(repeat refine WF ?_);refine RU ?_;(repeat first|refine RK ?_|refine RGo.nil (by kernel_rfl) ?_);(repeat refine WF ?_);refine AE rfl (by simp[g]) ?_;(repeat first|refine WK ?_|refine Ai λX=>?_|refine Ay λY=>?_);refine Ak (i+1) u ⟨by omega,by omega,hu,by rw[hin];exact hfold⟩
 ·have h:¬i<b:=by have:=of_decide_eq_false hc;omega
  rw[if_neg h]at hfold;subst hfold;(repeat first|refine WK ?_|refine Ai λX=>?_|refine Ay λY=>?_);refine DX ?_;exact BO [(X,.row 42 2 (e.toList.map (AD false)))] ⟨rfl,rfl⟩
end
section
open Go.Sort
theorem Mj(f:FuncId)(cap:List AV)(cf:Comp->Comp->Int)(hst:Bm cap=true)(hf:∀x y,PS Tryz.prog f (AD false x::AD false y::cap) (iA (cf x y)))(X n limit:Nat)(d:Array Comp)(hn:n=d.size)(h12:d.size<=12):PO Tryz.prog 207 [.sl X 0 n,iA 0,iA n,iA limit,.fn f cap] X (.row 42 2 (d.toList.map (AD false))) (.tup []) (.row 42 2 ((insertionSort (AI cf) d 0 d.size).toList.map (AD false))):=by
 have hs:=RM f cap cf hst hf X n d 0 d.size hn (Nat.zero_le _) (Nat.le_refl _) (by omega);rw[<-hn]at hs;have hsz:d.size=n:=hn.symm;refine Spec.of (nt:=148) (res:=[]) Tryz.func207 rfl (by kernel_rfl) rfl rfl rfl λSf=>?_
 (repeat first|refine WK ?_|refine Ai λX=>?_|refine Ay λY=>?_);refine BP (λ_:Unit=>⟨[(0,.sl X 0 n),(1,iA 0),(2,iA n),(3,iA limit),(4,.fn f cap)],(X,.row 42 2 (d.toList.map (AD false)))::Sf⟩) (λ_=>True) (λ_=>0) () trivial ?_;rintro _ _;refine AWP.block ?_;(repeat first|(refine AOps.gN ?_;first|refine AOps.p (AZ (n:Int) (by omega) (by omega) rfl rfl) rfl ?_)|refine WK ?_|refine Ai λX=>?_|refine Ay λY=>?_);refine AR rfl (decide_eq_true (by omega)) ?_;(repeat first|(refine AOps.gN ?_;first|(refine AOps.g_callf ?_;first|refine FP (h:=(hs ..)) (k:=?_)))|refine WK ?_|refine Ai λX=>?_|refine Ay λY=>?_);refine RT ?_;rw[hsz];exact BO [(X,_)] ⟨rfl,rfl⟩
theorem HH{α:Type}[Inhabited α]{d u:Array α}(h:PermIn 0 d.size d u):u.toList.Perm d.toList:=by
 obtain⟨h1,_,h3⟩:=h;have e1:u.extract 0 d.size=u:=by rw[<-h1];exact Array.extract_size
 rwa[e1,Array.extract_size]at h3
theorem FS{α:Type}[Inhabited α]{lt:α->α->Bool}{u:Array α}{n:Nat}(hn:n=u.size)(h:SortedIn lt 0 n u):u.toList.Pairwise λa b=>lt b a=false:=by
 rw[List.pairwise_iff_getElem];intro i j hi hj hij;have hi':i<u.size:=by simpa using hi
 have hj':j<u.size:=by simpa using hj
 have:=h i j (Nat.zero_le _) hij (by omega);rw[getElem!_pos u j hj',getElem!_pos u i hi']at this;simpa using this
set_option maxRecDepth 8000 in
theorem GB(f:FuncId)(cap:List AV)(cf:Comp->Comp->Int)(hst:Bm cap=true)(hS:SWO (AI cf))(hf:∀x y,PS Tryz.prog f (AD false x::AD false y::cap) (iA (cf x y)))(X n:Nat)(l:List Comp)(hn:n=l.length)(h12:l.length<=12):
  ∃u:List Comp,(u.Perm l/\u.Pairwise λa b=>AI cf b a=false)/\PO Tryz.prog 136 [.sl X 0 n,.fn f cap] X (.row 42 2 (l.map (AD false))) (.tup []) (.row 42 2 (u.map (AD false))):=by
 obtain⟨p1,p2⟩:=insertionSort_holds (lt:=AI cf) hS l.toArray 0 l.toArray.size (Nat.zero_le _) (Nat.le_refl _);have e1:(UInt64.ofNat n).toNat=n:=by rw[UInt64.toNat_ofNat'];omega
 have hlen:=Mp (UInt64.ofNat n) (by rw[e1];omega);rw[e1]at hlen;have hs:=Mj f cap cf hst hf X n (bitsLen n) l.toArray (by simpa using hn) (by simpa using h12);obtain⟨u,hu⟩:∃u,insertionSort (AI cf) l.toArray 0 l.toArray.size=u:=⟨_,rfl⟩;rw[hu]at p1 p2 hs;refine⟨u.toList,⟨by simpa using HH p1,FS p1.1.symm p2⟩,?_⟩;simp only[List.toList_toArray]at hs;refine Spec.of (nt:=14) (res:=[]) Tryz.func136 rfl (by kernel_rfl) rfl rfl rfl λSf=>?_
 (repeat first|(refine AOps.gN ?_;first|(refine AOps.g_callf ?_;first|refine AOps.c1 (h:=(hlen ..)) (k:=?_)|refine Ga (h:=(hs ..)) (k:=?_))|refine AOps.p (Kl .i64 n rfl (by omega) (by kernel_rfl) (by kernel_rfl) rfl) rfl ?_)|refine WK ?_|refine Ai λX=>?_|refine Ay λY=>?_);refine DX ?_;exact BO [(X,_)] ⟨rfl,rfl⟩
theorem Ex(a b:Int):By a b<0↔a<b:=by
 unfold By;split
 ·simp;assumption
 ·split<;>simp<;>omega
theorem KL{α:Type}(key:α->Int):SWO (AI λx y=>By (key x) (key y))where
 irrefl x:=by simp only[AI,decide_eq_false_iff_not,Ex];omega
 trans x y z h1 h2:=by simp only[AI,decide_eq_true_eq,Ex]at*;omega
 ntrans x y z h1 h2:=by simp only[AI,decide_eq_false_iff_not,Ex]at*;omega
end
theorem JL(l:List Comp)(f:FuncId)(cap:List AV)(p:Comp->Bool)(hs:Bm cap=true)(hl:l.length<=4611686018427387904)(hf:∀x∈l,PS Tryz.prog f ((AD false) x::cap) (bA (p x))):PS Tryz.prog 206 [.lst false 42 2 (l.map (AD false)),.fn f cap] (iA (Ea l p)):=by
 refine Spec.of (nt:=19) (res:=[.tmp 4]) Tryz.func206 rfl (by kernel_rfl) rfl rfl rfl λSf=>?_
 (repeat first|refine WK ?_|refine Ai λX=>?_|refine Ay λY=>?_);refine BP (λi:Nat=>⟨[(0,.lst false 42 2 (l.map (AD false))),(1,.fn f cap),(7,iA (l.map (AD false)).length),(8,iA i)],Sf⟩) (λi=>i<=l.length/\∀j (h:j<l.length),j<i->p l[j]=false) (λi=>l.length-i) 0 ⟨Nat.zero_le _,λj h hj=>absurd hj (by omega)⟩ ?_;rintro i ⟨hi,he⟩;(repeat first|refine WK ?_|refine Ai λX=>?_|refine Ay λY=>?_);refine AWP.cond rfl (λhc=>?_) (λhc=>?_)
 ·have h:i<l.length:=by simpa using hc
  (repeat first|(refine AOps.gN ?_;first|(refine AOps.g_callv ?_;first|refine N6 (h:=(hf _ (List.getElem_mem h))) (k:=?_)))|refine WK ?_|refine Ai λX=>?_|refine Ay λY=>?_);refine AWP.cond rfl (λhd=>?_) (λhd=>?_)
  ·(repeat first|refine WK ?_|refine Ai λX=>?_|refine Ay λY=>?_)
   refine RT ?_;refine AN ?_;rw[Gm h hd λj hj=>he j (by omega) hj]
  ·(repeat first|refine WK ?_|refine Ai λX=>?_|refine Ay λY=>?_)
   refine A7 (i+1) ⟨h,λj h1 h2=>?_⟩;by_cases e:j=i
   ·subst e;exact hd
   ·exact he j h1 (by omega)
 ·have h:¬i<l.length:=by simpa using hc
  (repeat first|refine WK ?_|refine Ai λX=>?_|refine Ay λY=>?_);refine RT ?_;refine AN ?_;rw[Gn λj hj=>he j hj (by omega)]
theorem Gx(l:List Comp)(f:FuncId)(cap:List AV)(p:Comp->Bool)(hs:Bm cap=true)(hl:l.length<=4611686018427387904)(hf:∀x∈l,PS Tryz.prog f ((AD false) x::cap) (bA (p x))):PS Tryz.prog 133 [.lst false 42 2 (l.map (AD false)),.fn f cap] (bA (l.any p)):=by
 refine Spec.of (nt:=9) (res:=[.tmp 4]) Tryz.func133 rfl (by kernel_rfl) rfl rfl rfl λSf=>?_
 (repeat first|(refine AOps.gN ?_;first|(refine AOps.g_callf ?_;first|refine AOps.c2 (h:=(JL l f cap p hs hl hf)) (k:=?_)))|refine WK ?_|refine Ai λX=>?_|refine Ay λY=>?_);refine RT ?_;refine AN ?_;rw[<-Pt]
section
open Go.Sort
theorem RW(o c:Comp):PS Tryz.prog 134 [AD false o,.fp (AD false c).cells] (bA (decide (o.kind=c.kind))):=by
 refine Spec.of (nt:=9) (res:=[.tmp 3]) Tryz.func134 rfl (by kernel_rfl) rfl rfl rfl λSf=>?_
 (repeat first|(refine AOps.gN ?_;first|(refine AOps.g_box ?_;refine Az ?_))|refine WK ?_|refine Ai λX=>?_|refine Ay λY=>?_);refine RT ?_;refine AN ?_;rfl
theorem RV(a b:Comp):PS Tryz.prog 137 [AD false a,AD false b] (iA (By a.kind b.kind)):=by
 refine Spec.of (nt:=10) (res:=[.tmp 4]) Tryz.func137 rfl (by kernel_rfl) rfl rfl rfl λSf=>?_
 (repeat first|(refine AOps.gN ?_;first|(refine AOps.g_callf ?_;first|refine AOps.c2 (h:=(DK a.kind b.kind)) (k:=?_))|(refine AOps.g_box ?_;refine Az ?_))|refine WK ?_|refine Ai λX=>?_|refine Ay λY=>?_);refine RT ?_;refine AN ?_;rfl
set_option maxRecDepth 8000 in
set_option maxHeartbeats 2000000 in
theorem KI(ks:List Kind)(l:List Comp)(h12:ks.length<=12)(hl:l.length<=1099511627776):PS Tryz.prog 61 [As false false ks,Aj false false l] (.tup [Aj true false (CD ks l).1,iA (CD ks l).2]):=by
 have hck:=L8 ks;obtain⟨r,hr⟩:∃r,CD ks l=r:=⟨_,rfl⟩;rw[hr];unfold CD at hr;have hlm:(l.map (AD false)).length=l.length:=List.length_map _;have hkm:(ks.map (Au false)).length=ks.length:=List.length_map _;refine Spec.of (nt:=64) (res:=[.tmp 4,.tmp 5]) Tryz.func61 rfl (by kernel_rfl) rfl rfl rfl λSf=>?_
 (repeat first|(refine AOps.gN ?_;first|(refine AOps.g_callf ?_;first|refine AOps.c1 (h:=(hck ..)) (k:=?_)))|refine WK ?_|refine Ai λX=>?_|refine Ay λY=>?_);refine AWP.cond rfl (λhc=>?_) (λhc=>?_)
 ·have hc:A6 ks≠0:=by simpa using hc
  rw[if_pos hc]at hr;subst hr;(repeat first|refine WK ?_|refine Ai λX=>?_|refine Ay λY=>?_);refine RT ?_;exact BT [.prim (.slice none 0 0),iA (A6 ks)] [Aj true false [],iA (A6 ks)] (.cons (.cell .nil) (.cons (.cell .same) .nil))
 have hc:A6 ks=0:=by simpa using hc
 rw[if_neg (by simp[hc])]at hr;have hgo:=λh=>Ig (ks:=ks) (l:=l) (pre:=[]) (out:=[]) h (by simp) (by simp) (by simp)
 obtain⟨g,hg⟩:∃g,CH ks [] [] l=g:=⟨_,rfl⟩;rw[hg]at hr hgo;(repeat first|refine WK ?_|refine Ai λX=>?_|refine Ay λY=>?_);refine AWP.adopt (d:=7) 42 2 rfl λO=>?_
 refine Hq (λ(q Y m:Nat) (M:List AV)=>⟨[(0,As false false ks),(1,Aj false false l),(7,.sl Y 0 m),(17,Aj false false l),(18,iA (l.map (AD false)).length),(19,iA q)],(Y,.row 42 2 M)::Sf⟩) (λq _ m M=>q<=l.length/\m=M.length/\m=q/\∃out:List Comp,M=out.map (AD false)/\CH ks (l.take q) out (l.drop q)=g) (λq _ _ _=>l.length-q) 0 O 0 [] ⟨Nat.zero_le _,rfl,rfl,[],rfl,hg⟩ ?_;rintro q Y m M ⟨hq,hm,hmq,out,hM,hfold⟩;(repeat first|refine WK ?_|refine Ai λX=>?_|refine Ay λY=>?_);refine AWP.cond rfl (λhe=>?_) (λhe=>?_)
 ·have h:q<l.length:=by rw[decide_eq_true_eq,hlm]at he;omega
  obtain⟨c,hcq⟩:∃c,l[q]=c:=⟨_,rfl⟩;have hat:(l.map (AD false))[q]?=some (AD false c):=by rw[List.getElem?_map,List.getElem?_eq_getElem h,hcq];rfl
  rw[List.drop_eq_getElem_cons h,hcq,CH]at hfold;have hcf:=Gx (l.take q) 134 [.fp (AD false c).cells] (λo=>decide (o.kind=c.kind)) rfl (by rw[List.length_take];omega) (λo _=>RW o c);obtain⟨ck,cv⟩:=c;dsimp only at hfold hcf;rw[List.map_take]at hcf;(repeat first|refine WK ?_|refine Ai λV=>?_|refine Ay λY=>?_);refine AWP.cond rfl (λhd=>?_) (λhd=>?_)
  ·have hb:ck<0\/(ks.length:Int)<=ck:=by simpa using hd
   rw[if_pos hb]at hfold;subst hfold;rw[if_pos (by decide)]at hr;subst hr;(repeat first|refine WK ?_|refine Ai λX=>?_|refine Ay λY=>?_);refine RT ?_;exact BT [.prim (.slice none 0 0),iA 1] [Aj true false [],iA 1] (.cons (.cell .nil) (.cons (.cell .same) .nil))
  have hb:¬(ck<0\/(ks.length:Int)<=ck):=by simpa using hd
  rw[if_neg hb]at hfold;obtain⟨j,hj⟩:∃j:Nat,ck=j:=⟨ck.toNat,by omega⟩;subst hj;have hjl:j<ks.length:=by omega
  rw[Int.toNat_natCast,List.getElem?_eq_getElem hjl]at hfold;obtain⟨k,hk⟩:∃k,ks[j]=k:=⟨_,rfl⟩;rw[hk]at hfold;dsimp only at hfold;have hatk:(ks.map (Au false))[j]?=some (Au false k):=by rw[List.getElem?_map,List.getElem?_eq_getElem hjl,hk];rfl
  have hft:=P4 k cv;refine AWP.iceP [9] (X:=V) (by exact At.f) (b:=AD false ⟨j,cv⟩) (hf:=⟨by show(AV.agg [iA (j:Int),AQ false cv]).frz=_;exact Frz.h⟩) ?_ (by intro d hd;simp only[List.mem_singleton]at hd;subst hd;rfl);(repeat first|(refine AOps.gN ?_;first|(refine AOps.g_callf ?_;first|refine AOps.c2 (h:=(hcf ..)) (k:=?_))|refine AOps.p (W.hiL rfl rfl rfl (by rw[hlm];exact hq)) rfl ?_)|refine WK ?_|refine Ai λX=>?_|refine Ay λY=>?_);refine AWP.cond rfl (λhd2=>?_) (λhd2=>?_)
  ·rw[if_pos hd2]at hfold
   subst hfold;rw[if_pos (by decide)]at hr;subst hr;(repeat first|refine WK ?_|refine Ai λX=>?_|refine Ay λY=>?_);refine RT ?_;exact BT [.prim (.slice none 0 0),iA 5] [Aj true false [],iA 5] (.cons (.cell .nil) (.cons (.cell .same) .nil))
  rw[if_neg (by simp[hd2])]at hfold;refine RU ?_;(repeat first|(refine RGo.gN ?_;first|refine RGo.c2 (h:=hft) (k:=?_))|(refine RGo.gQ ?_;first|refine RGo.c2 (h:=hft) (k:=?_))|refine RK ?_|refine RGo.nil (by kernel_rfl) ?_);(repeat first|refine WK ?_|refine Ai λX=>?_|refine Ay λY=>?_);refine AWP.cond rfl (λhd3=>?_) (λhd3=>?_)
  ·have hd3:(BQ k cv).2≠0:=by simpa using hd3
   rw[if_pos hd3]at hfold;subst hfold;rw[if_pos hd3]at hr;subst hr;(repeat first|refine WK ?_|refine Ai λX=>?_|refine Ay λY=>?_);refine RT ?_;exact BT [.prim (.slice none 0 0),iA _] [Aj true false [],iA _] (.cons (.cell .nil) (.cons (.cell .same) .nil))
  have hd3:(BQ k cv).2=0:=by simpa using hd3
  rw[if_neg (by simp[hd3])]at hfold;have hm1:m+1<=1099511627776:=by omega
  (repeat first|(refine AOps.gN ?_;first|(refine AOps.g_lit ?_;refine AOps.goL (AD false ⟨j,(BQ k cv).1⟩) ?_))|refine WK ?_|refine Ai λX=>?_|refine Ay λY=>?_);refine Et (q+1) Y (m+1) (M++[AD false ⟨j,(BQ k cv).1⟩]) ⟨h,by rw[List.length_append,hm];rfl,by omega,out++[⟨j,(BQ k cv).1⟩],by rw[hM,List.map_append];rfl,?_⟩;rw[List.take_succ_eq_append_getElem h,hcq];exact hfold
 ·have h:q=l.length:=by rw[decide_eq_false_iff_not,hlm]at he;omega
  rw[h,List.take_length,List.drop_length,CH]at hfold;subst hfold;dsimp only at hr hgo;rw[if_neg (by simp)]at hr;subst hr;obtain⟨hg1,hg2⟩:=hgo rfl;have hlen:out.length<=12:=Nat.le_trans (Er Comp.kind _ _ hg1 hg2) h12;obtain⟨u,⟨hu1,hu2⟩,hsf⟩:=GB 137 [] (λx y=>By x.kind y.kind) rfl (KL Comp.kind) (λx y=>RV x y) Y m out (by rw[hm,hM,List.length_map]) hlen;rw[<-hM]at hsf;(repeat first|(refine AOps.gN ?_;first|(refine AOps.g_callf ?_;first|refine AOps.o2 (h:=(hsf ..)) (k:=?_)))|refine WK ?_|refine Ai λX=>?_|refine Ay λY=>?_);have hu:u=Ek out:=IP hg1 hu1 (hu2.imp λ{a b} hab=>by simp only[AI,decide_eq_false_iff_not,Ex]at hab;omega);have hul:m=(u.map (AD false)).length:=by rw[hm,hM,List.length_map,List.length_map,hu1.length_eq]
  refine RT ?_;rw[<-hu];exact BT [.sl Y 0 m,iA 0] [Aj true false u,iA 0] (.cons (.cell (.sl (p:=0) .here hul)) (.cons (.cell .same) .nil))
end
section
abbrev setT(t:Tab)(m1 m2:List (StK×List (Int×List Int)))(k:StK)(l:List (Int×List Int))(n:Int)(v:List Int):Tab:=⟨t.X,t.ks,t.ek,t.es,m1++(k,BH l n v)::m2⟩
section
variable {t:Tab}{m1 m2:List (StK×List (Int×List Int))}{c:StK×List (Int×List Int)}{k:StK}{n:Int}{v:List Int}
theorem TabOK.setT(h:TabOK t)(hcs:t.cs=m1++c::m2)(hn:n∈AC t.es):TabOK (setT t m1 m2 k c.2 n v):=by
 have hcm:c∈t.cs:=by rw[hcs];simp
 have hnl:=h.es.lt n hn
 have hmem:∀d,d∈m1++(k,BH c.2 n v)::m2->d=(k,BH c.2 n v)\/d∈t.cs:=λd hd=>by
  rw[hcs];rcases List.mem_append.1 hd with hd|hd
  ·exact .inr (by simp[hd])
  ·rcases List.mem_cons.1 hd with hd|hd
   ·exact .inl hd
   ·exact .inr (by simp[hd])
 refine⟨by have:=h.len;rw[hcs]at this;simpa using this,h.ks,h.es,λd hd=>?_,λd hd m=>?_⟩
 ·rcases hmem d hd with rfl|hd
  ·exact(h.cs c hcm).put hnl v
  ·exact h.cs d hd
 ·rcases hmem d hd with rfl|hd
  ·show m∈AC (BH c.2 n v)↔_
   rw[Dp ((h.keys c hcm n).2 hn)];exact h.keys c hcm m
  ·exact h.keys d hd m
theorem K7{β γ:Type}{ks:List β}{m1 m2:List γ}{c d:γ}{f:β×γ->Comp}:(ks.zip (m1++d::m2)).map f=match ks[m1.length]? with|some k=>((ks.zip (m1++c::m2)).map f).set m1.length (f (k,d))|none=>(ks.zip (m1++c::m2)).map f:=by
 induction m1 generalizing ks with
 |nil=>cases ks<;>rfl
 |cons x m1 ih=>
  cases ks with
  |nil=>rfl
  |cons y ks=>
   simp only[List.cons_append,List.zip_cons_cons,List.map_cons,List.length_cons,List.getElem?_cons_succ];rw[ih];cases ks[m1.length]? with
   |none=>rfl
   |some k=>rfl
theorem Kz(h:TabOK t)(hcs:t.cs=m1++c::m2)(hn:n∈AC t.es){z:Int}(hz:t.ks[m1.length]?=some z):AJ (setT t m1 m2 k c.2 n v) n=(AJ t n).set m1.length ⟨z,v⟩:=by
 unfold AJ;rw[K7 (c:=c) (d:=(k,BH c.2 n v)),hcs,hz];dsimp only;rw[FD (h.cs c (by rw[hcs];simp)) (h.es.lt n hn),if_pos rfl];rfl
theorem Ky(h:TabOK t)(hcs:t.cs=m1++c::m2)(hn:n∈AC t.es){m:Int}(hne:m≠n):AJ (setT t m1 m2 k c.2 n v) m=AJ t m:=by
 unfold AJ;rw[K7 (c:=c) (d:=(k,BH c.2 n v)),hcs];cases hz:t.ks[m1.length]? with
 |none=>rfl
 |some z=>
  dsimp only;rw[FD (h.cs c (by rw[hcs];simp)) (h.es.lt n hn),if_neg hne];refine List.ext_getElem? λj=>?_
  rw[List.getElem?_set];split
  ·rename_i e
   subst e;split
   ·rw[List.getElem?_map,(List.getElem?_zip_eq_some (z:=(z,c))).2 ⟨hz,by simp⟩]
    rfl
   ·rename_i hlt
    rw[List.getElem?_eq_none (by omega)]
  ·rfl
theorem MS(h:TabOK t)(hcs:t.cs=m1++c::m2){e:Ent}(hm:(n,e)∈t.es){z:Int}(hz:t.ks[m1.length]?=some z):(BX (setT t m1 m2 k c.2 n v)).Perm (⟨e,(AJ t n).set m1.length ⟨z,v⟩⟩::BX (C1 t n)):=by
 have hn:n∈AC t.es:=List.mem_map.2 ⟨_,hm,rfl⟩;have hp:=Cc h.es hm;have h1:=hp.map λp:Int×Ent=>(⟨p.2,AJ (setT t m1 m2 k c.2 n v) p.1⟩:Item)
 refine h1.trans ?_;rw[List.map_cons,Kz h hcs hn hz];refine List.Perm.cons _ (List.Perm.of_eq ?_);show _=(A4 t.es n).map λp=>(⟨p.2,AJ (C1 t n) p.1⟩:Item)
 refine List.map_congr_left λp hp'=>?_
 have hk:p.1∈AC (A4 t.es n):=List.mem_map.2 ⟨p,hp',rfl⟩;have hne:=((Cy h.es).1 hk).2;rw[HE h hne,Ky h hcs hn hne]
end
section
variable {a:Ar}{l1 l2:List Tab}{t:Tab}{m1 m2:List (StK×List (Int×List Int))}{c:StK×List (Int×List Int)}{k:StK}{n:Int}{v:List Int}
theorem Pn:Av (l1++setT t m1 m2 k c.2 n v::l2)=Av (l1++t::l2):=by
 rw[Bs,B8,Bs,B8]
theorem ArOK.setT(h:ArOK a)(hts:a.ts=l1++t::l2)(hcs:t.cs=m1++c::m2)(hn:n∈AC t.es):ArOK {a with ts:=l1++Go.Proofs.YtiidbamlcgbpnaaGreat.setT t m1 m2 k c.2 n v::l2}:=by
 have htm:t∈a.ts:=by rw[hts];simp
 have hmem:∀u,u∈l1++Go.Proofs.YtiidbamlcgbpnaaGreat.setT t m1 m2 k c.2 n v::l2->u=Go.Proofs.YtiidbamlcgbpnaaGreat.setT t m1 m2 k c.2 n v\/u∈a.ts:=λu hu=>by
  rw[hts];rcases List.mem_append.1 hu with hu|hu
  ·exact .inr (by simp[hu])
  ·rcases List.mem_cons.1 hu with hu|hu
   ·exact .inl hu
   ·exact .inr (by simp[hu])
 have hk:Av (l1++Go.Proofs.YtiidbamlcgbpnaaGreat.setT t m1 m2 k c.2 n v::l2)=Av a.ts:=by rw[hts,Pn]
 refine⟨λu hu=>?_,?_,by show(Av _).Nodup;rw[hk];exact h.keys,λu hu=>?_,λm u hg=>?_,λm hm'=>h.gn m (by rw[<-hk];exact hm'),by show a.c=(Av _).length;rw[hk];exact h.cnt⟩
 ·rcases hmem u hu with rfl|hu
  ·exact(h.tab t htm).setT hcs hn
  ·exact h.tab u hu
 ·have ho:=h.ord
  rw[hts]at ho;rw[List.pairwise_append,List.pairwise_cons]at ho⊢
  exact⟨ho.1,⟨λx hx=>ho.2.1.1 x hx,ho.2.1.2⟩,λx hx y hy=>by
   rcases List.mem_cons.1 hy with rfl|hy
   ·exact ho.2.2 x hx t (by simp)
   ·exact ho.2.2 x hx y (by simp[hy])⟩
 ·rcases hmem u hu with rfl|hu
  ·exact h.ent t htm
  ·exact h.ent u hu
 ·obtain⟨w,hw,h2,h3,h4⟩:=h.g m u hg
  rw[hts]at hw;rcases List.mem_append.1 hw with hw|hw
  ·exact⟨w,by simp[hw],h2,h3,h4⟩
  ·rcases List.mem_cons.1 hw with rfl|hw
   ·exact⟨Go.Proofs.YtiidbamlcgbpnaaGreat.setT w m1 m2 k c.2 n v,by simp,h2,h3,h4⟩
   ·exact⟨w,by simp[hw],h2,h3,h4⟩
theorem Oc(h:ArOK a)(hts:a.ts=l1++t::l2)(hcs:t.cs=m1++c::m2){e:Ent}(hm:(n,e)∈t.es){z:Int}(hz:t.ks[m1.length]?=some z):(AU (l1++Go.Proofs.YtiidbamlcgbpnaaGreat.setT t m1 m2 k c.2 n v::l2)).Perm (⟨e,(AJ t n).set m1.length ⟨z,v⟩⟩::AU (l1++C1 t n::l2)):=by
 have hto:=h.tab t (by rw[hts];simp);rw[BW,Bd,BW,Bd];refine(((MS hto hcs hm hz).append_right _).append_left _).trans ?_;exact BZ (AU l1) [(⟨e,(AJ t n).set m1.length ⟨z,v⟩⟩:Item)] (BX (C1 t n)++AU l2)
theorem SF(hne:Dg a.ts)(hts:a.ts=l1++t::l2):Dg (l1++Go.Proofs.YtiidbamlcgbpnaaGreat.setT t m1 m2 k c.2 n v::l2):=λu hu=>by
 have h:∀w∈l1++t::l2,w.es≠[]:=by rw[<-hts];exact hne
 rcases List.mem_append.1 hu with hu|hu
 ·exact h u (by simp[hu])
 ·rcases List.mem_cons.1 hu with rfl|hu
  ·exact h t (by simp)
  ·exact h u (by simp[hu])
end
end
section
structure ArFor(a:Ar)(w:Wd):Prop where
 ok:ArOK a
 ne:Dg a.ts
 kinds:a.kinds=w.kinds
 gens:a.gens=w.gens
 items:(AU a.ts).Perm w.items
 wok:WdOK w
theorem IJ{k:Int}:∀{l:List Comp},CZ l->IK (l.map (·.kind)) k=C7 l k
 |[],_=>rfl
 |x::l,h=>by
  obtain⟨h1,h2⟩:=List.pairwise_cons.1 h;have ih:=IJ (k:=k) h2;unfold IK at ih⊢;unfold C7 at ih⊢;rw[List.map_cons,List.filter_cons,List.takeWhile_cons];by_cases e:x.kind<k
  ·simp only[e,decide_true,if_true,List.length_cons,ih]
  ·simp only[e,decide_false,Bool.false_eq_true,if_false,List.length_nil]
   rw[List.length_eq_zero_iff,List.filter_eq_nil_iff];intro y hy;obtain⟨c,hc,rfl⟩:=List.mem_map.1 hy;have:=h1 c hc;simp only[decide_eq_true_eq];omega
theorem Is{l:List Comp}(h:CZ l){k:Int}:(Bl l k).isSome=true↔k∈l.map (·.kind):=by
 constructor
 ·intro e
  obtain⟨c,hc⟩:=Option.isSome_iff_exists.1 e;obtain⟨hm,hk⟩:=(It h).1 hc;exact List.mem_map.2 ⟨c,hm,hk⟩
 ·intro e
  obtain⟨c,hm,hk⟩:=List.mem_map.1 e;rw[(It h).2 ⟨hm,hk⟩];rfl
theorem CJ{t:Tab}(h:TabOK t)(n:Int):(AJ t n).map (·.kind)=t.ks:=by
 have hl:=h.len;refine List.ext_getElem (by simp[AJ];omega) λi h1 h2=>?_
 rw[List.getElem_map,DE (by simpa using h1) h2 (by omega)]
section
variable {a:Ar}{w:Wd}
theorem ArFor.item(h:ArFor a w){t:Tab}(ht:t∈a.ts){e:Ent}(hm:(e.n,e)∈t.es):∃i:Nat,w.items[i]?=some ⟨e,AJ t e.n⟩:=by
 have h1:(⟨e,AJ t e.n⟩:Item)∈AU a.ts:=List.mem_flatMap.2 ⟨t,ht,List.mem_map.2 ⟨_,hm,rfl⟩⟩;obtain⟨i,hi,e1⟩:=List.getElem_of_mem (h.items.mem_iff.1 h1);exact⟨i,by rw[List.getElem?_eq_getElem hi,e1]⟩
theorem ArFor.held(h:ArFor a w){t:Tab}(ht:t∈a.ts){e:Ent}(hm:(e.n,e)∈t.es):BY w.kinds (AJ t e.n)=true:=by
 obtain⟨i,hi⟩:=h.item ht hm;exact(h.wok.it _ (List.mem_of_getElem? hi)).2.2.2.2
theorem ArFor.sort(h:ArFor a w){t:Tab}(ht:t∈a.ts){e:Ent}(hm:(e.n,e)∈t.es):CZ (AJ t e.n):=(held_iff.1 (h.held ht hm)).1
theorem H4{t:Tab}(ht:TabOK t){n:Int}(hs:CZ (AJ t n)):t.ks.Pairwise (· < ·):=by
 rw[<-CJ ht n];exact List.pairwise_map.2 hs
theorem ArFor.hasE(h:ArFor a w){e:Ent}(hh:Eb a e=false):B0 w.items e<0:=by
 by_cases hlt:B0 w.items e<0
 ·exact hlt
 ·obtain⟨m,hm⟩:∃m:Nat,B0 w.items e=m:=⟨(B0 w.items e).toNat,by omega⟩
  obtain⟨x,hx,_,rfl⟩:=Ec hm;unfold Eb at hh;rw[decide_eq_false_iff_not]at hh;exact absurd (List.mem_map.2 ⟨x,h.items.mem_iff.2 (List.mem_of_getElem? hx),rfl⟩) hh
theorem PU{w:List Item}{i:Nat}{x y:Item}(h:w[i]?=some x){l r:List Item}(h1:l.Perm (x::r))(h2:l.Perm w):(y::r).Perm (w.set i y):=by
 obtain⟨hl,_⟩:=List.getElem?_eq_some_iff.1 h;have e1:=H2 h;have e2:w.set i y=w.take i++y::w.drop (i+1):=List.set_eq_take_append_cons_drop.trans (if_pos hl);rw[e2];refine List.Perm.trans ?_ List.perm_middle.symm;refine List.Perm.cons _ ?_;have h3:(x::r).Perm (x::(w.take i++w.drop (i+1))):=h1.symm.trans (h2.trans ((List.Perm.of_eq e1).trans List.perm_middle));exact h3.cons_inv
theorem LJ{w:List Item}{i:Nat}{x:Item}(h:w[i]?=some x){l r:List Item}(h1:l.Perm (x::r))(h2:l.Perm w):r.Perm (w.eraseIdx i):=by
 have e1:=H2 h;have h3:(x::r).Perm (x::(w.take i++w.drop (i+1))):=h1.symm.trans (h2.trans ((List.Perm.of_eq e1).trans List.perm_middle));rw[List.eraseIdx_eq_take_drop_succ];exact h3.cons_inv
theorem ArFor.swap(h:ArFor a w){e:Ent}{l l':List Comp}{b:Ar}(hs:SwapR a e l l' b){i:Nat}(hi:w.items[i]?=some ⟨e,l⟩)(hc:BY w.kinds l'=true):ArFor b (Cs w i l'):=by
 obtain⟨r,h1,h2⟩:=hs.items;have hk:(Cs w i l').kinds=w.kinds:=rfl;refine⟨hs.ok,hs.ne,by rw[hs.kinds,h.kinds];rfl,by rw[hs.gens,h.gens];rfl,?_,Fe h.wok hi hc⟩;rw[Fg hi];exact h2.trans (PU hi h1 h.items)
theorem ArFor.kill(h:ArFor a w){e:Ent}{b:Ar}(hs:KillR a e b)(hh:Eb a e=true):(DI w e).2=0/\ArFor b (DI w e).1:=by
 obtain⟨l,h1⟩:=hs.items;have hm:(⟨e,l⟩:Item)∈w.items:=h.items.mem_iff.1 (h1.mem_iff.2 (by simp));obtain⟨i,hi,e1⟩:=List.getElem_of_mem hm;have hi:w.items[i]?=some ⟨e,l⟩:=by rw[List.getElem?_eq_getElem hi,e1]
 have hk:=Jq h.wok hi;have hw:=Nm h.wok hi;dsimp only at hk hw;rw[hk];refine⟨rfl,hs.ok,hs.ne,by rw[hs.kinds,h.kinds],?_,LJ hi h1 h.items,hw⟩;rw[hs.gens,h.gens,List.getD_eq_getElem?_getD]
theorem ArFor.used(h:ArFor a w)(n:Nat):(a.g n).isSome=Eo w.items n:=by
 have hk:(n:Int)∈Av a.ts↔Eo w.items n=true:=by
  rw[h.ok.keys_items];unfold Eo;rw[List.any_eq_true];constructor
  ·intro hm
   obtain⟨x,hx,e⟩:=List.mem_map.1 hm;exact⟨x,h.items.mem_iff.1 hx,by simpa using e⟩
  ·rintro⟨x,hx,e⟩
   exact List.mem_map.2 ⟨x,h.items.mem_iff.2 hx,by simpa using e⟩
 by_cases hu:(n:Int)∈Av a.ts
 ·rw[h.ok.gn _ hu,hk.1 hu]
 ·have h2:Eo w.items n=false:=by rw[<-Bool.not_eq_true];exact λe=>hu (hk.2 e)
  rw[h2];cases hg:a.g n with
  |none=>rfl
  |some u=>
   obtain⟨t,ht,hm,_⟩:=h.ok.g _ _ hg;exact absurd (List.mem_flatMap.2 ⟨t,ht,hm⟩) hu
end
end
end Go.Proofs.YtiidbamlcgbpnaaGreat
