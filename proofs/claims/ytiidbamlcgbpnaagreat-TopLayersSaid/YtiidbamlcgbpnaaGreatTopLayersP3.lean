/-
  Part 3 of the texts under the law TopLayers: the layer of abstract values, walks and plain laws. Conditions: those that each theorem names.
-/
import Derived.Laws.StructEq
import Derived.Lib.Overlaps
import Derived.Laws.BytesString
import Derived.Laws.BitsAllLaws
import Derived.Maps.OwnSet
import Derived.Test.YtiidbamlcgbpnaaGreatTopLayersP2
namespace Go.Proofs.YtiidbamlcgbpnaaGreat
set_option linter.unusedVariables false
set_option linter.unusedSimpArgs false
set_option linter.defProp false
set_option maxRecDepth 10000
set_option maxHeartbeats 4000000
section
variable {ro:Option Nat}
open Go.RowKit
def G7{β:Type}(Z:List β):List (Nat×β)->List β
 |[]=>Z
 |q::r=>G7 (Z.set q.1 q.2) r
theorem TK{β:Type}(wz:List (Nat×β)):∀Z:List β,(G7 Z wz).length=Z.length:=by
 induction wz with
 |nil=>intro Z;rfl
 |cons q r ih=>intro Z;simp[G7,ih]
theorem Qx{β:Type}(wz:List (Nat×β)){p:Nat}(h:p∉wz.map (·.1)):∀Z:List β,(G7 Z wz)[p]?=Z[p]?:=by
 induction wz with
 |nil=>intro Z;rfl
 |cons q r ih=>
  intro Z;simp only[List.map_cons,BO,not_or]at h;rw[G7,ih h.2,List.getElem?_set_ne (λe=>h.1 e.symm)]
theorem U9{β:Type}(wz:List (Nat×β))(hnd:(wz.map (·.1)).Nodup):∀Z:List β,(∀q∈wz,q.1<Z.length)->∀q∈wz,(G7 Z wz)[q.1]?=some q.2:=by
 induction wz with
 |nil=>intro Z _ q hq;cases hq
 |cons a r ih=>
  intro Z hlt q hq;rw[List.map_cons,List.nodup_cons]at hnd;rcases List.mem_cons.1 hq with rfl|hq
  ·rw[G7,Qx r hnd.1,List.getElem?_set_self (hlt _ (by simp))]
  ·exact ih hnd.2 _ (λq hq=>by rw[List.length_set];exact hlt q (by simp[hq])) q hq
theorem OA(wS:List (Nat×AC)):∀S,AX S wS=G7 S wS:=by
 induction wS with
 |nil=>intro S;rfl
 |cons q r ih=>intro S;exact ih _
theorem OJ{l k:List Nat}(hl:l.Nodup)(hk:k.Nodup)(h:∀x,x∈l↔x∈k):l.Perm k:=by
 rw[List.perm_iff_count];intro a;rw[hl.count,hk.count];simp only[h a]
theorem Lh{β:Type}(Z:List β):(List.range Z.length).map (λi=>Z[i]?)=Z.map some:=by
 apply List.ext_getElem (by simp);intro i h1 h2;have:i<Z.length:=by simpa using h1
 simp[this]
theorem Rx{β:Type}(Z:List β)(ps:List Nat)(hnd:ps.Nodup)(hlt:∀p∈ps,p<Z.length):∃R,∀wz:List (Nat×β),wz.map (·.1)=ps->(G7 Z wz).Perm (wz.map (·.2)++R):=by
 let Q:=(List.range Z.length).filter λi=>!decide (i∈ps)
 refine⟨Q.filterMap λi=>Z[i]?,λwz hw=>?_⟩;have hwn:(wz.map (·.1)).Nodup:=by rw[hw];exact hnd
 have hwl:∀q∈wz,q.1<Z.length:=λq hq=>hlt _ (by rw[<-hw];exact List.mem_map_of_mem hq)
 have h1:(List.range Z.length).Perm (ps++Q):=by
  refine(List.filter_append_perm (λi=>decide (i∈ps)) (List.range Z.length)).symm.trans ?_;refine List.Perm.append_right _ (OJ (List.nodup_range.filter _) hnd λx=>?_);simp only[List.mem_filter,List.mem_range,AF];exact⟨λh=>h.2,λh=>⟨hlt x h,h⟩⟩
 have h2:((G7 Z wz).map some).Perm ((ps++Q).map λi=>(G7 Z wz)[i]?):=by
  rw[<-Lh,TK];exact h1.map _
 have h3:ps.map (λi=>(G7 Z wz)[i]?)=(wz.map (·.2)).map some:=by
  rw[<-hw,List.map_map,List.map_map];exact List.map_congr_left λq hq=>U9 wz hwn Z hwl q hq
 have h4:Q.map (λi=>(G7 Z wz)[i]?)=(Q.filterMap λi=>Z[i]?).map some:=by
  have:∀L:List Nat,(∀i∈L,i∉ps/\i<Z.length)->L.map (λi=>(G7 Z wz)[i]?)=(L.filterMap λi=>Z[i]?).map some:=by
   intro L
   induction L with
   |nil=>intro _;rfl
   |cons i L ih=>
    intro h;have hi:=h i (by simp);rw[List.map_cons,ih λj hj=>h j (by simp[hj]),Qx wz (by rw[hw];exact hi.1),AE hi.2,List.filterMap_cons,AE hi.2];rfl
  refine this Q λi hi=>?_
  have:=List.mem_filter.1 hi;simpa using And.comm.1 this
 rw[List.map_append,h3,h4,<-List.map_append]at h2;have h5:=h2.filterMap id;simpa[List.filterMap_map]using h5
inductive TW:AV->AV->List AC->Prop
 |frz {a:AV}:TW a a.frz []
 |lst {t:TypeId} {sz:Nat} {l:List AV} {Y n:Nat} (h:n=l.length):TW (.lst true t sz l) (.sl Y 0 n) [(Y,.row t sz l)]
 |bx {t:TypeId} {a:AV} {Y n:Nat} (h:n=a.width):TW (.bx t a) (.ptr Y 0 0) [(Y,.row t n [a])]
inductive TWs:List AV->List AV->List AC->Prop
 |nil:TWs [] [] []
 |cons {a b:AV} {as bs:List AV} {s r:List AC} (h:TW a b s) (k:TWs as bs r):TWs (a::as) (b::bs) (s++r)
inductive TV:AV->AV->List AC->Prop
 |cell {a b:AV} {s:List AC} (h:TW a b s) (ha:Jn a=true) (hb:Jn b=true):TV a b s
 |agg {as bs:List AV} {s:List AC} (h:TWs as bs s):TV (.agg as) (.agg bs) s
inductive TVs:List AV->List AV->List AC->Prop
 |nil:TVs [] [] []
 |cons {a b:AV} {as bs:List AV} {s r:List AC} (h:TV a b s) (ha:ntup a=true) (hb:ntup b=true) (k:TVs as bs r):TVs (a::as) (b::bs) (s++r)
inductive TR:AV->AV->List AC->Prop
 |frz {a:AV}:TR a a.frz []
 |v {a b:AV} {s:List AC} (h:TV a b s):TR a b s
 |tup {as bs:List AV} {s:List AC} (h:TVs as bs s):TR (.tup as) (.tup bs) s
def B6(s:List AC):List AC:=s.map λe=>(e.1,.gone)
section
variable {m0 m:Mem}{N:Nat}{R:Zs}{ex:List Nat}
theorem Is{Y:Nat}{bsY br:List Nat}{t:TypeId}{sz:Nat}{l:List AV}(G:Good m0 m N (((Y,.gone),bsY)::R) (br++ex))(L:Loc)(hL:L.sz=sz)
  (h:(L.isNil=true/\l=[]/\br=[])\/(L.isNil=false/\∃arr bs',br=L.blk::bs' /\m.w.heap[L.blk]?=some (.cells arr t (0,0))/\arr.size=L.cap*sz/\l.length<=L.cap/\L.cap<=maxLen/\(∀e∈l,e.width=sz)/\VCs m l (arr.toList.take (l.length*sz)) bs')):
  Good m0 ⟨λy=>if y=Y then some L else m.μ y,λy=>m.U y\/y=Y,m.w,m.F⟩ N (((Y,.row t sz l),br)::R) ex/\m.Le ⟨λy=>if y=Y then some L else m.μ y,λy=>m.U y\/y=Y,m.w,m.F⟩:=by
 have hg:=G.obj _ (List.mem_cons_self ..);obtain⟨rfl,hYU⟩:=hg
 have hle:m.Le ⟨λy=>if y=Y then some L else m.μ y,λy=>m.U y\/y=Y,m.w,m.F⟩:=by
  refine⟨λy h=>.inl h,λy L' hy hL=>?_,λb hb=>⟨hb,rfl⟩⟩;simp only at hL;split at hL
  ·rename_i e;subst e;exact absurd hy hYU
  ·exact hL
 refine⟨?_,hle⟩;have hkN:Y<N:=G.keyN Y (by simp[Zs.keys])
 have hown:(br++ex).Nodup:=by
  have:=G.own;rw[List.nodup_append]at this;exact this.2.1
 refine Good.swap (zs:=[((Y,.gone),[])]) (zs':=[((Y,.row t sz l),br)]) (R:=R) G hle (Nat.le_refl _) (λy hy _=>?_) (λ_ _ _ _=>rfl) ?_ (by simpa[Zs.own]using hown) (λb hb=>?_) (λb hb=>⟨G.frz b hb,.inl hb⟩) (by simp[Zs.keys]) (λy hy=>?_) (λy hy=>?_) rfl rfl rfl (Nat.le_refl _)
 ·simp only[Zs.keys,List.map_cons,List.map_nil,BP]at hy
  simp only;rw[if_neg hy]
 ·intro z hz
  simp only[BP]at hz;subst hz;refine⟨.inr rfl,L,by simp,hL,?_⟩;rcases h with h|⟨h1,arr,bs',e1,e2,e3,e4,e5,e6,e7⟩
  ·exact .inl h
  ·exact .inr ⟨h1,arr,bs',e1,e2,e3,e4,e5,e6,VCs.mono hle l (λ_ _=>rfl) e7⟩
 ·have hb':b∈br++ex:=by simpa[Zs.own]using hb
  have:=G.blk b (List.mem_append_right _ hb');exact⟨this.1,this.2,.inr (.inl hb')⟩
 ·simp only[Zs.keys,List.map_cons,List.map_nil,BP]at hy
  subst hy;exact⟨hkN,.inl (by simp[Zs.keys])⟩
 ·rcases hy with hy|rfl
  ·exact⟨G.usedN y hy,.inl hy⟩
  ·exact⟨hkN,.inr (.inl (by simp[Zs.keys]))⟩
theorem TW.sound{a b:AV}{s:List AC}(h:TW a b s):∀{m:Mem} {br ex:List Nat} {G:Zs} {c:List Value},G.map (·.1)=B6 s->Good m0 m N (G++R) (br++ex)->VC m a c br->
  ∃m' Z',m'.w=m.w/\Z'.map (·.1)=s/\Good m0 m' N (Z'++R) ex/\m.Le m' /\VC m' b c []:=by
 intro m br ex G c hG g hv;cases h with
 |frz=>
  have:G=[]:=by simpa[B6]using hG
  subst this;obtain⟨G2,hle⟩:=g.freeze _ rfl;exact⟨{m with F:=λb=>m.F b\/b∈br},[],rfl,rfl,G2,hle,VC.frz hle a (λb hb=>⟨.inr hb,rfl⟩) hv⟩
 | @lst t sz l Y n hn=>
  cases G with
  |nil=>simp[B6]at hG
  |cons z G=>
   simp only[B6,List.map_cons,List.map_nil,List.cons.injEq,List.map_eq_nil_iff]at hG;obtain⟨hz,rfl⟩:=hG;obtain⟨⟨y,o⟩,bsY⟩:=z;simp only[Prod.mk.injEq]at hz;obtain⟨rfl,rfl⟩:=hz;rcases hv with⟨rfl,rfl,rfl⟩|⟨gb,cap,arr,bs',rfl,rfl,e1,e2,e3,e4,e5,e6⟩
   ·obtain⟨G',hle⟩:=Is (br:=[]) (t:=t) (sz:=sz) (l:=[]) g ⟨0,0,sz,true⟩ rfl (.inl ⟨rfl,rfl,rfl⟩)
    refine⟨(⟨λx=>if x=y then some ⟨0,0,sz,true⟩else m.μ x,λx=>m.U x\/x=y,m.w,m.F⟩:Mem),[((y,.row t sz []),[])],rfl,rfl,G',hle,rfl,.inr rfl,none,0,by rw[hn];rfl,λL hL=>?_⟩;simp only[if_true,Option.some.injEq]at hL;subst hL;exact .inl ⟨rfl,by rw[hn];rfl,rfl,hn⟩
   ·obtain⟨G',hle⟩:=Is (br:=gb::bs') (t:=t) (sz:=sz) (l:=l) g ⟨gb,cap,sz,false⟩ rfl (.inr ⟨rfl,arr,bs',rfl,e1,e2,e3,e4,e5,e6⟩)
    refine⟨(⟨λx=>if x=y then some ⟨gb,cap,sz,false⟩else m.μ x,λx=>m.U x\/x=y,m.w,m.F⟩:Mem),[((y,.row t sz l),gb::bs')],rfl,rfl,G',hle,rfl,.inr rfl,_,cap,by rw[hn],λL hL=>?_⟩;simp only[if_true,Option.some.injEq]at hL;subst hL;exact .inr ⟨rfl,by simp only;omega,0,by simp,λ_=>by simp⟩
 | @bx t a Y n hn=>
  cases G with
  |nil=>simp[B6]at hG
  |cons z G=>
   simp only[B6,List.map_cons,List.map_nil,List.cons.injEq,List.map_eq_nil_iff]at hG;obtain⟨hz,rfl⟩:=hG;obtain⟨⟨y,o⟩,bsY⟩:=z;simp only[Prod.mk.injEq]at hz;obtain⟨rfl,rfl⟩:=hz;obtain⟨gb,arr,bs',rfl,rfl,e1,⟨cap,e2,e3,e4⟩,e5⟩:=hv;subst hn;obtain⟨G',hle⟩:=Is (br:=gb::bs') (t:=t) (sz:=a.width) (l:=[a]) g ⟨gb,cap,a.width,false⟩ rfl (.inr ⟨rfl,arr,bs',rfl,e1,e2,e3,e4,λe he=>by rw[List.mem_singleton.1 he],by simpa using VCs.one.2 e5⟩);refine⟨(⟨λx=>if x=y then some ⟨gb,cap,a.width,false⟩else m.μ x,λx=>m.U x\/x=y,m.w,m.F⟩:Mem),[((y,.row t a.width [a]),gb::bs')],rfl,rfl,G',hle,rfl,.inr rfl,_,rfl,λL hL=>?_⟩;simp only[if_true,Option.some.injEq]at hL;subst hL;simp
theorem TWs.sound{as bs:List AV}{s:List AC}(h:TWs as bs s):∀{R:Zs} {m:Mem} {br ex:List Nat} {G:Zs} {c:List Value},G.map (·.1)=B6 s->Good m0 m N (G++R) (br++ex)->VCs m as c br->
  ∃m' Z',m'.w=m.w/\Z'.map (·.1)=s/\Good m0 m' N (Z'++R) ex/\m.Le m' /\VCs m' bs c []:=by
 induction h with
 |nil=>
  intro R m br ex G c hG g hv;obtain⟨rfl,rfl⟩:=hv;have:G=[]:=by simpa[B6]using hG
  subst this;exact⟨m,[],rfl,rfl,g,.refl _,rfl,rfl⟩
 | @cons a b as bs s r h k ih=>
  intro R m br ex G c hG g hv;obtain⟨c1,c2,b1,b2,rfl,rfl,h1,h2⟩:=hv;rw[B6,List.map_append]at hG;obtain⟨G1,G2,rfl,hG1,hG2⟩:=Az hG;obtain⟨m1,Z1,hw1,hZ1,g1,hle1,v1⟩:=h.sound (R:=G2++R) (ex:=b2++ex) hG1 (by simpa using g) h1
  have g1':Good m0 m1 N (G2++(Z1++R)) (b2++ex):=g1.perm (by
   rw[<-AP,<-AP];exact List.Perm.append_right _ List.perm_append_comm)
  obtain⟨m2,Z2,hw2,hZ2,g2,hle2,v2⟩:=ih (R:=Z1++R) hG2 g1' (VCs.mono hle1 as (λb _=>by rw[hw1]) h2)
  refine⟨m2,Z1++Z2,hw2.trans hw1,by simp[hZ1,hZ2],g2.perm (by
   rw[<-AP];exact List.Perm.append_right _ List.perm_append_comm),hle1.trans hle2,c1,c2,[],[],rfl,rfl,VC.mono hle2 b (λ_ hb=>by cases hb) v1,v2⟩
theorem TV.sound{a b:AV}{s:List AC}(h:TV a b s):∀{R:Zs} {m:Mem} {br ex:List Nat} {G:Zs} {u:Value},G.map (·.1)=B6 s->Good m0 m N (G++R) (br++ex)->VV m a u br->
  ∃m' Z',m'.w=m.w/\Z'.map (·.1)=s/\Good m0 m' N (Z'++R) ex/\m.Le m' /\VV m' b u []:=by
 intro R m br ex G u hG g hv;cases h with
 |cell h ha hb=>
  obtain⟨m',Z',h1,h2,h3,h4,h5⟩:=h.sound hG g ((LV ha).1 hv);exact⟨m',Z',h1,h2,h3,h4,(LV hb).2 h5⟩
 |agg h=>
  obtain⟨cells,rfl,hv⟩:=hv;obtain⟨m',Z',h1,h2,h3,h4,h5⟩:=h.sound hG g hv;exact⟨m',Z',h1,h2,h3,h4,cells,rfl,h5⟩
theorem TVs.sound{as bs:List AV}{s:List AC}(h:TVs as bs s):∀{R:Zs} {m:Mem} {br ex:List Nat} {G:Zs} {us:List Value},G.map (·.1)=B6 s->Good m0 m N (G++R) (br++ex)->VTs m as us br->
  ∃m' Z',m'.w=m.w/\Z'.map (·.1)=s/\Good m0 m' N (Z'++R) ex/\m.Le m' /\VTs m' bs us []:=by
 induction h with
 |nil=>
  intro R m br ex G c hG g hv;obtain⟨rfl,rfl⟩:=hv;have:G=[]:=by simpa[B6]using hG
  subst this;exact⟨m,[],rfl,rfl,g,.refl _,rfl,rfl⟩
 | @cons a b as bs s r h ha hb k ih=>
  intro R m br ex G c hG g hv;obtain⟨u,us,b1,b2,rfl,rfl,h1,h2⟩:=(Bi ha).1 hv;rw[B6,List.map_append]at hG;obtain⟨G1,G2,rfl,hG1,hG2⟩:=Az hG;obtain⟨m1,Z1,hw1,hZ1,g1,hle1,v1⟩:=h.sound (R:=G2++R) (ex:=b2++ex) hG1 (by simpa using g) h1
  have g1':Good m0 m1 N (G2++(Z1++R)) (b2++ex):=g1.perm (by
   rw[<-AP,<-AP];exact List.Perm.append_right _ List.perm_append_comm)
  obtain⟨m2,Z2,hw2,hZ2,g2,hle2,v2⟩:=ih (R:=Z1++R) hG2 g1' (VTs.mono hle1 as (λb _=>by rw[hw1]) h2)
  refine⟨m2,Z1++Z2,hw2.trans hw1,by simp[hZ1,hZ2],g2.perm (by
   rw[<-AP];exact List.Perm.append_right _ List.perm_append_comm),hle1.trans hle2,(Bi hb).2 ⟨u,us,[],[],rfl,rfl,VV.mono hle2 (λ_ hb=>by cases hb) v1,v2⟩⟩
theorem TR.sound{a b:AV}{s:List AC}(h:TR a b s){R:Zs}{m:Mem}{br ex:List Nat}{G:Zs}{u:Value}(hG:G.map (·.1)=B6 s)(g:Good m0 m N (G++R) (br++ex))(hv:VV m a u br):
  ∃m' Z',m'.w=m.w/\Z'.map (·.1)=s/\Good m0 m' N (Z'++R) ex/\m.Le m' /\VV m' b u []:=by
 cases h with
 |frz=>
  have:G=[]:=by simpa[B6]using hG
  subst this;obtain⟨G2,hle⟩:=g.freeze _ rfl;exact⟨{m with F:=λb=>m.F b\/b∈br},[],rfl,rfl,G2,hle,VV.frz hle (λb hb=>⟨.inr hb,rfl⟩) hv⟩
 |v h=>exact h.sound hG g hv
 |tup h=>
  obtain⟨us,rfl,hv⟩:=hv;obtain⟨m',Z',h1,h2,h3,h4,h5⟩:=h.sound hG g hv;exact⟨m',Z',h1,h2,h3,h4,us,rfl,h5⟩
end
theorem Rq{β:Type}(wz:List (Nat×β)):∀Z:List β,(∀q∈wz,Z[q.1]?=some q.2)->G7 Z wz=Z:=by
 induction wz with
 |nil=>intro Z _;rfl
 |cons q r ih=>
  intro Z h;have h1:=h q (by simp);obtain⟨h2,h3⟩:=List.getElem?_eq_some_iff.1 h1;have:Z.set q.1 q.2=Z:=by rw[<-h3];exact List.set_getElem_self h2
  rw[G7,this];exact ih Z λq hq=>h q (by simp[hq])
section
variable {P:Program}{ty:TypeId}{pos:String}{after:Array Edge}{g:Option (Nat×Bool)}{dst:Option Tmp}{xs:List (Operand×AV)}{f:FuncId}{ats:Array TypeId}{r v:AV}{Sin Sout news:List AC}{rS wS:List (Nat×AC)}
theorem Hi{β:Type}{C:β->Prop}{rr vv:β->AV}{So nw:β->List AC}{gs:List AC}{wE:β->List (Nat×AC)}{nt:Nat}{m0:Mem}{T:List (Nat×AV)}{S:List AC}{a:Act}{args:List AV}{vals:Array Value}(h:Spec P f args Sin λr' S'=>∃b,C b/\r'=rr b/\S'=So b)(hT:∀b,TR (rr b) (vv b) (nw b))(hgs:∀b,B6 (nw b)=gs)(hr:rS.map (·.2)=Sin++gs)(hw:∀b,(wE b).map (·.2)=So b++nw b)(hp:∀b,(wE b).map (·.1)=rS.map (·.1))(hnd:(rS.map (·.1)).Nodup)
  (hS:∀q∈rS,S[q.1]?=some q.2) (hd:∀d,dst=some d->d<nt) {m:Mem} {N:Nat} {Z:Zs} (h2:Z.map (·.1)=S) (h3:Good m0 m N Z []) (h4:TRel m0 m nt T a) (hv:VTs m args vals.toList []):
  Calls P f vals m.w λe w'=>∃u,e= .returned u/\∃b,C b/\Rel nt m0 ⟨AW T dst (vv b),AX S (wE b)⟩ (a.put dst u) w':=by
 obtain⟨RS,hR⟩:=Rx S (rS.map (·.1)) hnd (λp hp=>by
  obtain⟨q,hq,rfl⟩:=List.mem_map.1 hp;exact(List.getElem?_eq_some_iff.1 (hS q hq)).1)
 have p1:=hR rS rfl;rw[Rq rS S hS,hr,AP]at p1;obtain⟨Z1,hz1,hz2⟩:=En (λz:AC×List Nat=>z.1) p1 h2;refine(h.run _ m N Z1 vals hz2 (h3.perm hz1).self hv).mono ?_;rintro e w' ⟨u,r',S',m',N',Z',br,rfl,rfl,hm,G',hu,b,hb,rfl,rfl⟩;have p2:=hR (wE b) (hp b);rw[hw,AP,<-OA]at p2;obtain⟨Zo,Zr,rfl,ho,hzr⟩:=Az hm;obtain⟨Zg,Zf,rfl,hg,hf⟩:=Az hzr;have G1:=h3.perm hz1 |>.after G'
 have G2:Good m0 m' N' (Zg++(Zo++Zf)) (br++[]):=by
  have:=G1.perm (Z':=Zg++(Zo++Zf)) (by
   rw[<-AP,<-AP];exact List.Perm.append_right _ List.perm_append_comm)
  simpa using this
 obtain⟨m2,Zn,hw2,hn,G3,hle,hv2⟩:=(hT b).sound (hg.trans (hgs b).symm) G2 hu
 have G4:=G3.perm (Z':=Zo++(Zn++Zf)) (by
  rw[<-AP,<-AP];exact List.Perm.append_right _ List.perm_append_comm)
 obtain⟨Z3,hz3,hz4⟩:=En (λz:AC×List Nat=>z.1) (S':=AX S (wE b)) p2.symm (Z:=Zo++(Zn++Zf)) (by simp[ho,hn,hf]);exact⟨u,rfl,b,hb,m2,N',Z3,hw2,hz4,G4.perm hz3,((h4.mono G'.le).mono hle).put hd hv2⟩
theorem Sq{nt:Nat}{m0:Mem}{T:List (Nat×AV)}{S:List AC}{a:Act}{args:List AV}{vals:Array Value}(h:Spec P f args Sin λr' S'=>r'=r/\S'=Sout)(hT:TR r v news)(hr:rS.map (·.2)=Sin++B6 news)(hw:wS.map (·.2)=Sout++news)(hp:wS.map (·.1)=rS.map (·.1))(hnd:(rS.map (·.1)).Nodup)
  (hS:∀q∈rS,S[q.1]?=some q.2) (hd:∀d,dst=some d->d<nt) {m:Mem} {N:Nat} {Z:Zs} (h2:Z.map (·.1)=S) (h3:Good m0 m N Z []) (h4:TRel m0 m nt T a) (hv:VTs m args vals.toList []):
  Calls P f vals m.w λe w'=>∃u,e= .returned u/\Rel nt m0 ⟨AW T dst v,AX S wS⟩ (a.put dst u) w':=
 (Hi (β:=Unit) (C:=λ_=>True) (rr:=λ_=>r) (vv:=λ_=>v) (So:=λ_=>Sout) (nw:=λ_=>news) (wE:=λ_=>wS) (h.mono λr' S' ⟨e1,e2⟩=>⟨(),trivial,e1,e2⟩) (λ_=>hT) (λ_=>rfl) hr (λ_=>hw) (λ_=>hp) hnd hS hd h2 h3 h4 hv).mono λe w' ⟨u,e1,_,_,k⟩=>⟨u,e1,k⟩
theorem Hp{β:Type}{C:β->Prop}{sE:β->St}{ro:Option Nat}{nt:Nat}{m0:Mem}{o:Oper}{a:Act}{w:World}{K:Act->World->Prop}{Q:Exit->Act->World->Prop}(hnd:∀c,o.op≠ .defer c)(h:o.wp P a w (λa' w'=>∃b,C b/\Rel nt m0 (sE b) a' w') (λ_ _ _=>False))(hK:∀a' w',(∃b,C b/\Rel nt m0 (sE b) a' w')->K a' w'):o.wpIn (FW ro) 0 P a w K Q:=by
 refine⟨λ_ _=>trivial,?_⟩;rw[show o.semAt (FW ro).round a.eval=execOp a.eval o from Oper.semAt_eq _ _ _ hnd];unfold Oper.wp at h;cases hr:(execOp a.eval o).run P w with
 |ok n w'=>
  rw[hr]at h
  cases n<;>simp only[Oper.upon,Oper.uponIn]at h⊢<;>
   first
    |exact hK _ _ h
    |exact⟨λh=>(by simp[FW,Fence.wide]at h),CallsIn.mono (IA h) (λe w'' he=>by cases e<;>first|exact hK _ _ he|exact he.elim|exact(by obtain⟨_,_,hh⟩:=he;exact hh.elim))⟩
    |exact⟨λh=>(by simp[FW,Fence.wide]at h),RowsIn.mono (Q0 h) (λ_ _ he=>hK _ _ he)⟩
 |halt x w'=>rw[hr]at h;cases x<;>simp only[Oper.upon]at h
theorem EI(h:Spec P f (xs.map (·.2)) Sin λr' S'=>r'=r/\S'=Sout)(ht:Am xs=true)(hT:TR r v news)(hr:rS.map (·.2)=Sin++B6 news)(hw:wS.map (·.2)=Sout++news)(hp:wS.map (·.1)=rS.map (·.1))(hnd:(rS.map (·.1)).Nodup):
  OpT P ⟨dst,.call ⟨.value (.func f),(xs.map (·.1)).toArray,ats⟩,ty,pos,after,g⟩ xs rS v wS:=by
 intro nt m0 T S a w hx hS hd hrel;obtain⟨m,N,Z,rfl,h2,h3,h4⟩:=hrel;refine Gf (λ_=>rfl) h.fn ?_;exact Sq h hT hr hw hp hnd hS hd h2 h3 h4 (by have:=EW (CQ ht) λq hq=>h4.ev (hx q hq);simpa[Function.comp_def]using this)
inductive Pos(S:List AC):List AC->List AC->List (Nat×AC)->List (Nat×AC)->Prop
 |nil:Pos S [] [] [] []
 |cons {a b:AC} {as bs:List AC} {rs ws:List (Nat×AC)} {p:Nat} (h:At S p a) (k:Pos S as bs rs ws):Pos S (a::as) (b::bs) ((p,a)::rs) ((p,b)::ws)
theorem Pos.all{S as bs:List AC}{rs ws:List (Nat×AC)}(h:Pos S as bs rs ws):rs.map (·.2)=as/\ws.map (·.2)=bs/\ws.map (·.1)=rs.map (·.1)/\Gets S rs:=by
 induction h with
 |nil=>exact⟨rfl,rfl,rfl,.nil⟩
 |cons h k ih=>exact⟨by simp[ih.1],by simp[ih.2.1],by simp[ih.2.2.1],.cons h ih.2.2.2⟩
theorem Dj{β:Type}{C:β->Prop}{rr vv:β->AV}{So nw:β->List AC}{gs:List AC}{wE:β->List (Nat×AC)}{nt:Nat}{ops:Array Oper}{Q:Exit->St->Prop}{rest:List Oper}{T:List (Nat×AV)}{S:List AC}(h:Spec P f (xs.map (·.2)) Sin λr' S'=>∃b,C b/\r'=rr b/\S'=So b)(hT:∀b,TR (rr b) (vv b) (nw b))(hgs:∀b,B6 (nw b)=gs)(hpos:∀b,Pos S (Sin++gs) (So b++nw b) rS (wE b))(hnd:(rS.map (·.1)).Nodup)(hr:rS.map (·.2)=Sin++gs)(hG:Gets S rS)(hx:Evs T xs)(ht:Am xs=true)(hd:AU dst nt=true)
  (k:∀b,C b->AOps ro P nt ops Q rest ⟨AW T dst (vv b),AX S (wE b)⟩):AOps ro P nt ops Q (⟨dst,.call ⟨.value (.func f),(xs.map (·.1)).toArray,ats⟩,ty,pos,after,none⟩::rest) ⟨T,S⟩:=by
 rintro m0 a w ⟨m,N,Z,rfl,h2,h3,h4⟩;refine wpListIn_plain rfl λK hK=>Hp (C:=C) (sE:=λb=>⟨AW T dst (vv b),AX S (wE b)⟩) (by simp) (Gf (λ_=>rfl) h.fn (Hi h hT hgs hr (λb=>(hpos b).all.2.1) (λb=>(hpos b).all.2.2.1) hnd hG.all (Bo hd) h2 h3 h4 ?_)) λa' w' ⟨b,hb,hrel⟩=>hK _ _ (k b hb m0 _ _ hrel)
 have:=EW (CQ ht) λq hq=>h4.ev (hx.all q hq)
 simpa[Function.comp_def]using this
theorem TR.fz{r v:AV}[h:Frz r v]:TR r v []:=h.h▸ .frz
theorem TR.ls{t:TypeId}{sz:Nat}{l:List AV}{Y:Nat}:TR (.lst true t sz l) (.sl Y 0 l.length) [(Y,.row t sz l)]:=.v (.cell (.lst rfl) rfl rfl)
end
mutual
inductive Ho(a b:AV):AV->AV->Prop
 |here:Ho a b a b
 |agg {as bs:List AV} (h:Hos a b as bs):Ho a b (.agg as) (.agg bs)
inductive Hos(a b:AV):List AV->List AV->Prop
 |head {x y:AV} {as:List AV} (h:Ho a b x y):Hos a b (x::as) (y::as)
 |tail {x:AV} {as bs:List AV} (h:Hos a b as bs):Hos a b (x::as) (x::bs)
end
mutual
theorem Ho.vc{a b:AV}{m:Mem}:{x y:AV}->Ho a b x y->{c:List Value}->{bs:List Nat}->VC m x c bs->
  ∃c0 B bs',bs.Perm (B++bs')/\VC m a c0 B/\∀m' B',m.Le m' ->m'.w=m.w->VC m' b c0 B' ->∃bs2,bs2.Perm (B'++bs')/\VC m' y c bs2
 |_,_,.here,c,bs,h=>⟨c,bs,[],by simp,h,λm' B' _ _ k=>⟨B',by simp,k⟩⟩
 |_,_,.agg h,c,bs,k=>Hos.vcs h k
theorem Hos.vcs{a b:AV}{m:Mem}:{x y:List AV}->Hos a b x y->{c:List Value}->{bs:List Nat}->VCs m x c bs->
  ∃c0 B bs',bs.Perm (B++bs')/\VC m a c0 B/\∀m' B',m.Le m' ->m'.w=m.w->VC m' b c0 B' ->∃bs2,bs2.Perm (B'++bs')/\VCs m' y c bs2
 |_,_,.head (as:=as) h,_,_,⟨c1,c2,b1,b2,e1,e2,h1,h2⟩=>by
  obtain⟨c0,B,bs',hp,hv,k⟩:=Ho.vc h h1;refine⟨c0,B,bs'++b2,by rw[e2,<-AP];exact hp.append_right _,hv,λm' B' hle hw hb=>?_⟩;obtain⟨bs2,hp2,hv2⟩:=k m' B' hle hw hb;exact⟨bs2++b2,by rw[<-AP];exact hp2.append_right _,c1,c2,bs2,b2,e1,rfl,hv2,VCs.mono hle as (λ_ _=>by rw[hw]) h2⟩
 |_,_,.tail (x:=x) h,_,_,⟨c1,c2,b1,b2,e1,e2,h1,h2⟩=>by
  obtain⟨c0,B,bs',hp,hv,k⟩:=Hos.vcs h h2;refine⟨c0,B,b1++bs',?_,hv,λm' B' hle hw hb=>?_⟩
  ·rw[e2]
   refine(hp.append_left _).trans ?_;rw[<-AP,<-AP];exact List.perm_append_comm.append_right _
  ·obtain⟨bs2,hp2,hv2⟩:=k m' B' hle hw hb
   refine⟨b1++bs2,?_,c1,c2,b1,bs2,e1,rfl,VC.mono hle x (λ_ _=>by rw[hw]) h1,hv2⟩;refine(hp2.append_left _).trans ?_;rw[<-AP,<-AP];exact List.perm_append_comm.append_right _
end
mutual
theorem Ho.width{a b:AV}(h0:b.width=a.width):{x y:AV}->Ho a b x y->y.width=x.width
 |_,_,.here=>h0
 |_,_,.agg h=>Hos.widths h0 h
theorem Hos.widths{a b:AV}(h0:b.width=a.width):{x y:List AV}->Hos a b x y->AV.widths y=AV.widths x
 |_,_,.head h=>by simp only[AV.widths];rw[Ho.width h0 h]
 |_,_,.tail h=>by simp only[AV.widths];rw[Hos.widths h0 h]
end
theorem Hos.len{a b:AV}{x y:List AV}(h:Hos a b x y):y.length=x.length:=by
 induction x generalizing y with
 |nil=>cases h
 |cons e x ih=>cases h with
  |head h=>rfl
  |tail h=>simp[ih h]
theorem Hos.wd{a b:AV}(h0:b.width=a.width){x y:List AV}{n:Nat}(h:Hos a b x y)(hw:∀e∈x,e.width=n):∀e∈y,e.width=n:=by
 induction x generalizing y with
 |nil=>cases h
 |cons e x ih=>cases h with
  |head h=>
   intro z hz;rcases List.mem_cons.1 hz with rfl|hz
   ·rw[h.width h0];exact hw e (by simp)
   ·exact hw z (by simp[hz])
  |tail h=>
   intro z hz;rcases List.mem_cons.1 hz with rfl|hz
   ·exact hw _ (by simp)
   ·exact ih h (λe he=>hw e (by simp[he])) z hz
theorem Hos.orel{a b:AV}{m:Mem}{Y:Nat}{t2:TypeId}{sz2:Nat}{l2 l2':List AV}{bs:List Nat}(hI:Hos a b l2 l2')(h0:b.width=a.width)(h:ORel m Y (.row t2 sz2 l2) bs):
  ∃c0 B bs',bs.Perm (B++bs')/\VC m a c0 B/\∀m' B',m.Le m' ->m'.w=m.w->(∀L,m.μ Y=some L->m'.μ Y=some L)->VC m' b c0 B' ->∃bs2,bs2.Perm (B'++bs')/\ORel m' Y (.row t2 sz2 l2') bs2:=by
 obtain⟨hU,L,h1,h2,h3⟩:=h;rcases h3 with⟨h4,rfl,h5⟩|⟨h4,arr,bs',h5,h6,h7,h8,h9,h10,h11⟩
 ·cases hI
 ·obtain⟨c0,B,bs1,hp,hv,k⟩:=hI.vcs h11
  refine⟨c0,B,L.blk::bs1,?_,hv,λm' B' hle hw hμ hb=>?_⟩
  ·rw[h5];exact(hp.cons _).trans List.perm_middle.symm
  ·obtain⟨bs2,hp2,hv2⟩:=k m' B' hle hw hb
   refine⟨L.blk::bs2,(hp2.cons _).trans List.perm_middle.symm,hle.U _ hU,L,hμ L h1,h2,.inr ⟨h4,arr,bs2,rfl,by rw[hw];exact h6,h7,by rw[hI.len];exact h8,h9,hI.wd h0 h10,?_⟩⟩;rw[hI.len];exact hv2
section
variable {m0 m:Mem}{N:Nat}{R:Zs}{ex:List Nat}
theorem Good.bag{z z':AC×List Nat}{B:List Nat}(G:Good m0 m N (z::R) ex)(hk:z'.1.1=z.1.1)(ho:ORel m z'.1.1 z'.1.2 z'.2)(hp:z.2.Perm (B++z'.2)):Good m0 m N (z'::R) (B++ex):=by
 have p1:(Zs.own (z::R)++ex).Perm (Zs.own (z'::R)++(B++ex)):=by
  simp only[BR];refine((hp.append_right _).append_right _).trans ?_;rw[AP,AP,AP];refine List.perm_append_comm.trans ?_;simp only[AP];refine List.Perm.append_left _ (List.Perm.append_left _ ?_);exact List.perm_append_comm
 refine⟨?_,p1.nodup_iff.1 G.own,λb hb=>G.blk b (p1.mem_iff.2 hb),G.frz,?_,?_,G.usedN,G.le,G.os,G.tape,G.output,G.size⟩
 ·intro q hq
  rcases List.mem_cons.1 hq with rfl|hq
  ·exact ho
  ·exact G.obj q (List.mem_cons_of_mem _ hq)
 ·have:=G.keys
  simpa[Zs.keys,hk]using this
 ·intro x hx
  refine G.keyN x ?_;simpa[Zs.keys,hk]using hx
theorem VL{Y:Nat}{t:TypeId}{sz:Nat}{l:List AV}{c:List Value}{B:List Nat}(hY:¬m.U Y)(h:VC m (.lst true t sz l) c B):
  ∃m',(∀x,x≠Y->m'.μ x=m.μ x)/\(∀x,m'.U x↔(m.U x\/x=Y))/\m'.w=m.w/\m'.F=m.F/\m.Le m' /\VC m' (.sl Y 0 l.length) c []/\ORel m' Y (.row t sz l) B:=by
 have key:∀L:Loc,m.Le ⟨λx=>if x=Y then some L else m.μ x,λx=>m.U x\/x=Y,m.w,m.F⟩:=λL=>by
  refine⟨λy h=>.inl h,λy L' hy hL=>?_,λb hb=>⟨hb,rfl⟩⟩;simp only at hL;split at hL
  ·rename_i e;subst e;exact absurd hy hY
  ·exact hL
 rcases h with⟨rfl,rfl,rfl⟩|⟨gb,cap,arr,bs',rfl,rfl,e1,e2,e3,e4,e5,e6⟩
 ·refine⟨⟨λx=>if x=Y then some ⟨0,0,sz,true⟩else m.μ x,λx=>m.U x\/x=Y,m.w,m.F⟩,λx hx=>by simp[hx],λx=>.rfl,rfl,rfl,key _,⟨rfl,.inr rfl,none,0,rfl,λL hL=>?_⟩,.inr rfl,⟨0,0,sz,true⟩,by simp,rfl,.inl ⟨rfl,rfl,rfl⟩⟩
  simp only[if_true,Option.some.injEq]at hL;subst hL;exact .inl ⟨rfl,rfl,rfl,rfl⟩
 ·refine⟨⟨λx=>if x=Y then some ⟨gb,cap,sz,false⟩else m.μ x,λx=>m.U x\/x=Y,m.w,m.F⟩,λx hx=>by simp[hx],λx=>.rfl,rfl,rfl,key _,⟨rfl,.inr rfl,_,cap,rfl,λL hL=>?_⟩,.inr rfl,⟨gb,cap,sz,false⟩,by simp,rfl,.inr ⟨rfl,arr,bs',rfl,e1,e2,e3,e4,e5,VCs.mono (key _) l (λ_ _=>rfl) e6⟩⟩
  simp only[if_true,Option.some.injEq]at hL;subst hL;exact .inr ⟨rfl,by simp only;omega,0,by simp,λ_=>by simp⟩
theorem WW{A B ex:List Nat}{R:Zs}{z:AC×List Nat}(G:Good m0 m N (z::R) ex)(hp:z.2.Perm A):(A++ex).Nodup/\∀b∈A++ex,b<m.w.heap.size/\¬m.F b/\(b∈z.2\/b∈ex):=by
 have h:=G.own;simp only[BR]at h
 have h1:(z.2++ex).Nodup:=by
  have:(z.2++Zs.own R++ex).Perm ((z.2++ex)++Zs.own R):=by
   rw[AP,AP];exact List.Perm.append_left _ List.perm_append_comm
  exact(List.nodup_append.1 (this.nodup_iff.1 h)).1
 refine⟨(hp.append_right ex).nodup_iff.1 h1,λb hb=>?_⟩;have hb':=(hp.append_right ex).mem_iff.2 hb;have:=G.blk b (by simp only[BR];rcases List.mem_append.1 hb' with h|h<;>simp[h]);exact⟨this.1,this.2,List.mem_append.1 hb'⟩
theorem WV{A ex:List Nat}{R zs:Zs}(G:Good m0 m N (zs++R) ex)(hp:zs.own.Perm A):(A++ex).Nodup/\∀b∈A++ex,b<m.w.heap.size/\¬m.F b/\(b∈zs.own\/b∈ex):=by
 have h:=G.own;rw[DA]at h
 have h1:(zs.own++ex).Nodup:=by
  have:(zs.own++Zs.own R++ex).Perm ((zs.own++ex)++Zs.own R):=by
   rw[AP,AP];exact List.Perm.append_left _ List.perm_append_comm
  exact(List.nodup_append.1 (this.nodup_iff.1 h)).1
 refine⟨(hp.append_right ex).nodup_iff.1 h1,λb hb=>?_⟩;have hb':=(hp.append_right ex).mem_iff.2 hb;have:=G.blk b (by rw[DA];rcases List.mem_append.1 hb' with h|h<;>simp[h]);exact⟨this.1,this.2,List.mem_append.1 hb'⟩
theorem Good.thawIn{Y:Nat}{t t2:TypeId}{sz sz2:Nat}{l l2 l2':List AV}{bs:List Nat}(G:Good m0 m N (((Y,.row t2 sz2 l2),bs)::R) ex)(hI:Hos (.lst true t sz l) (.sl N 0 l.length) l2 l2'):
  ∃m' b1 b2,m'.w=m.w/\m.Le m' /\Good m0 m' (N+1) (((N,.row t sz l),b1)::((Y,.row t2 sz2 l2'),b2)::R) ex:=by
 have hY:ORel m Y (.row t2 sz2 l2) bs:=G.obj _ (List.mem_cons_self ..);have hYN:Y<N:=G.keyN Y (by simp[Zs.keys]);have hNU:¬m.U N:=λh=>Nat.lt_irrefl _ (G.usedN _ h)
 obtain⟨c0,B,bs',hp,hv,k⟩:=hI.orel rfl hY;obtain⟨m',hμ,hU,hw,hF,hle,hv',ho⟩:=VL hNU hv;obtain⟨bs2,hp2,hoY⟩:=k m' [] hle hw (λL hL=>by rw[hμ Y (by omega)];exact hL) hv';have hp3:bs.Perm (B++bs2):=hp.trans (by simpa using hp2.symm.append_left B);obtain⟨hn,hb⟩:=WW (B:=[]) G hp3;refine⟨m',B,bs2,hw,hle,Good.swap (zs:=[((Y,.row t2 sz2 l2),bs)]) (zs':=[((N,.row t sz l),B),((Y,.row t2 sz2 l2'),bs2)]) (R:=R) G hle (Nat.le_succ _) (λx hx hxN=>hμ x (by omega)) (λb _ _ _=>by rw[hw]) ?_ (by simpa[Zs.own]using hn) (λb h=>?_) (λb h=>?_) ?_ ?_ (λx hx=>?_) (by rw[hw]) (by rw[hw]) (by rw[hw]) (by rw[hw];exact Nat.le_refl _)⟩
 ·intro z hz
  simp only[BO,List.not_mem_nil,or_false]at hz;rcases hz with rfl|rfl
  ·exact ho
  ·exact hoY
 ·obtain⟨h1,h2,h3⟩:=hb b (by simpa[Zs.own]using h)
  rw[hw,hF];refine⟨h1,h2,?_⟩;rcases h3 with h3|h3
  ·exact .inl (by simpa[Zs.own]using h3)
  ·exact .inr (.inl h3)
 ·rw[hF]at h
  rw[hw];exact⟨G.frz b h,.inl h⟩
 ·simp[Zs.keys];omega
 ·intro x hx
  simp only[Zs.keys,List.map_cons,List.map_nil,BO,List.not_mem_nil,or_false]at hx;rcases hx with rfl|rfl
  ·exact⟨by omega,.inr (Nat.le_refl _)⟩
  ·exact⟨by omega,.inl (by simp[Zs.keys])⟩
 ·rcases(hU x).1 hx with hx|rfl
  ·exact⟨by have:=G.usedN x hx;omega,.inl hx⟩
  ·exact⟨by omega,.inr (.inr (Nat.le_refl _))⟩
theorem Good.closeIn{X Y n:Nat}{t t2:TypeId}{sz sz2:Nat}{l l2 l2':List AV}{bX bs:List Nat}(G:Good m0 m N (((X,.row t sz l),bX)::((Y,.row t2 sz2 l2),bs)::R) ex)(hn:n=l.length)(hI:Hos (.sl X 0 n) (.lst true t sz l) l2 l2'):
  ∃m' b2,m'.w=m.w/\m.Le m' /\Good m0 m' N (((X,.used),[])::((Y,.row t2 sz2 l2'),b2)::R) ex:=by
 have hX:ORel m X (.row t sz l) bX:=G.obj _ (List.mem_cons_self ..);have hY:ORel m Y (.row t2 sz2 l2) bs:=G.obj ((Y,.row t2 sz2 l2),bs) (by simp)
 have hXY:Y≠X:=by
  have:=G.keys;simp only[Zs.keys,List.map_cons,List.nodup_cons,BO,not_or]at this;exact λe=>this.1.1 e.symm
 let m':Mem:=⟨λx=>if x=X then none else m.μ x,m.U,m.w,m.F⟩
 have hle:m.Le m':=by
  refine⟨λy h=>h,λy L' hy hL=>?_,λb hb=>⟨hb,rfl⟩⟩;simp only[m']at hL;split at hL
  ·cases hL
  ·exact hL
 obtain⟨c0,B,bs',hp,hv,k⟩:=hI.orel rfl hY;obtain⟨rfl,hUX,A,q,rfl,hs⟩:=hv
 have hv':VC m' (.lst true t sz l) [.slice A n q] bX:=by
  obtain⟨_,L,hL,hsz,hO⟩:=hX;subst hn;rcases hO with⟨h1,rfl,rfl⟩|⟨h1,arr,bs',rfl,h2,h3,h4,h5,h6,h7⟩
  ·rcases hs L hL with⟨_,h,_⟩|⟨h,_⟩
   ·rw[h];exact .inl ⟨rfl,rfl,rfl⟩
   ·rw[h1]at h;cases h
  ·rcases hs L hL with⟨h,_⟩|⟨_,h8,o,h9,h10⟩
   ·rw[h1]at h;cases h
   ·rw[h9]
    have:o=0:=by rw[h10 (.inr rfl),Nat.zero_mul]
    subst this;exact .inr ⟨L.blk,L.cap,arr,bs',rfl,rfl,h2,h3,h4,h5,h6,VCs.mono hle l (λ_ _=>rfl) h7⟩
 obtain⟨bs2,hp2,hoY⟩:=k m' bX hle rfl (λL hL=>by simp only[m'];rw[if_neg hXY];exact hL) hv';have hp3:(bX++bs).Perm bs2:=((hp.append_left bX).trans (by simpa using hp2.symm));obtain⟨hn1,hb1⟩:=WV (zs:=[((X,.row t sz l),bX),((Y,.row t2 sz2 l2),bs)]) (R:=R) (A:=bs2) G (by simpa[Zs.own]using hp3);refine⟨m',bs2,rfl,hle,Good.swap (zs:=[((X,.row t sz l),bX),((Y,.row t2 sz2 l2),bs)]) (zs':=[((X,.used),[]),((Y,.row t2 sz2 l2'),bs2)]) (R:=R) G hle (Nat.le_refl _) (λx hx _=>?_) (λb _ _ _=>rfl) ?_ (by simpa[Zs.own]using hn1) (λb h=>?_) (λb h=>⟨G.frz b h,.inl h⟩) ?_ ?_ (λx hx=>⟨G.usedN x hx,.inl hx⟩) rfl rfl rfl (Nat.le_refl _)⟩
 ·simp only[Zs.keys,List.map_cons,List.map_nil,BO,List.not_mem_nil,or_false,not_or]at hx
  simp only[m'];rw[if_neg hx.1]
 ·intro z hz
  simp only[BO,List.not_mem_nil,or_false]at hz;rcases hz with rfl|rfl
  ·exact⟨rfl,hX.1⟩
  ·exact hoY
 ·obtain⟨h1,h2,h3⟩:=hb1 b (by simpa[Zs.own]using h)
  refine⟨h1,h2,?_⟩;rcases h3 with h3|h3
  ·exact .inl h3
  ·exact .inr (.inl h3)
 ·simp[Zs.keys];exact λe=>hXY e.symm
 ·intro x hx
  simp only[Zs.keys,List.map_cons,List.map_nil,BO,List.not_mem_nil,or_false]at hx;rcases hx with rfl|rfl
  ·exact⟨G.keyN _ (by simp[Zs.keys]),.inl (by simp[Zs.keys])⟩
  ·exact⟨G.keyN _ (by simp[Zs.keys]),.inl (by simp[Zs.keys])⟩
end
section
variable {nt:Nat}{st:St}
theorem St.thawIn{q Y:Nat}{t t2:TypeId}{sz sz2:Nat}{l l2:List AV}{l2':Nat->List AV}(hq:At st.S q (Y,.row t2 sz2 l2))(hI:∀X,Hos (.lst true t sz l) (.sl X 0 l.length) l2 (l2' X)):D8 nt st λst'=>∃X,st'=⟨st.T,(X,.row t sz l)::st.S.set q (Y,.row t2 sz2 (l2' X))⟩:=by
 rintro m0 a w ⟨m,N,Z,rfl,h2,h3,h4⟩;obtain⟨bs,hz⟩:=hq.z h2;obtain⟨R,hp1,hp2⟩:=Bd hz;obtain⟨m',b1,b2,hw,hle,G'⟩:=(h3.perm hp1).thawIn (hI N);exact⟨⟨st.T,(N,.row t sz l)::st.S.set q (Y,.row t2 sz2 (l2' N))⟩,⟨m',N+1,((N,.row t sz l),b1)::Z.set q ((Y,.row t2 sz2 (l2' N)),b2),hw,by rw[List.map_cons,List.map_set,h2],G'.perm ((hp2 _).symm.cons _),h4.mono hle⟩,N,rfl⟩
theorem St.closeIn{p q X Y n:Nat}{t t2:TypeId}{sz sz2:Nat}{l l2 l2':List AV}(hpq:p≠q)(hS:At st.S p (X,.row t sz l))(hq:At st.S q (Y,.row t2 sz2 l2))(hn:n=l.length)(hI:Hos (.sl X 0 n) (.lst true t sz l) l2 l2'):D8 nt st λst'=>st'=⟨st.T,(st.S.set p (X,.used)).set q (Y,.row t2 sz2 l2')⟩:=by
 rintro m0 a w ⟨m,N,Z,rfl,h2,h3,h4⟩;obtain⟨bs,hz⟩:=hS.z h2;obtain⟨bs2,hz2⟩:=hq.z h2;obtain⟨R,hp1,hp2⟩:=Fc hpq hz hz2;obtain⟨m',b2,hw,hle,G'⟩:=(h3.perm hp1).closeIn hn hI;exact⟨⟨st.T,(st.S.set p (X,.used)).set q (Y,.row t2 sz2 l2')⟩,⟨m',N,(Z.set p ((X,.used),[])).set q ((Y,.row t2 sz2 l2'),b2),hw,by rw[List.map_set,List.map_set,h2],G'.perm (hp2 _ _).symm,h4.mono hle⟩,rfl⟩
end
end
section
variable {ro:Option Nat}
theorem Pos.f{S as bs:List AC}{rs ws:List (Nat×AC)}(h:Pos S as bs rs ws:=by(repeat (first|exact .nil|(apply Pos.cons;exact At.f)))):Pos S as bs rs ws:=h
section
variable {P:Program}{nt:Nat}{ops:Array Oper}{Q:Exit->St->Prop}{l rest:List Oper}{acc:List Eff}{T:List (Nat×AV)}{S:List AC}{rS wS:List (Nat×AC)}{v:AV}{ty:TypeId}{pos:String}{after:Array Edge}{dst:Option Tmp}{ats:Array TypeId}{f:FuncId}{r:AV}{Sin Sout news:List AC}{c:Option (List Bool)}{code:Code}
def Cw:List Nat->Bool
 |[]=>true
 |a::l=>!(l.any (Nat.beq a))&&Cw l
theorem Cc:∀{l:List Nat},Cw l=true->l.Nodup
 |[],_=>.nil
 |a::l,h=>by
  simp only[Cw,Bool.and_eq_true,Bool.not_eq_true',List.any_eq_false]at h;exact List.nodup_cons.2 ⟨λhm=>h.1 a hm (by simp),Cc h.2⟩
theorem AWP.thawIn{q Y:Nat}{t t2:TypeId}{sz sz2:Nat}{ll l2:List AV}{l2':Nat->List AV}(hq:At S q (Y,.row t2 sz2 l2))(hI:∀X,Hos (.lst true t sz ll) (.sl X 0 ll.length) l2 (l2' X))(k:∀X,AWP ro P nt code Q ⟨T,(X,.row t sz ll)::S.set q (Y,.row t2 sz2 (l2' X))⟩):AWP ro P nt code Q ⟨T,S⟩:=
 .ghost (St.thawIn (st:=⟨T,S⟩) hq hI) λst' ⟨X,e⟩=>by subst e;exact k X
theorem AWP.closeIn{p q X Y n:Nat}{t t2:TypeId}{sz sz2:Nat}{ll l2 l2':List AV}(hS:At S p (X,.row t sz ll))(hq:At S q (Y,.row t2 sz2 l2))(hpq:Nat.beq p q=false)(hn:n=ll.length)(hI:Hos (.sl X 0 n) (.lst true t sz ll) l2 l2')(k:AWP ro P nt code Q ⟨T,(S.set p (X,.used)).set q (Y,.row t2 sz2 l2')⟩):AWP ro P nt code Q ⟨T,S⟩:=
 .ghost (St.closeIn (st:=⟨T,S⟩) (λe=>by subst e;simp at hpq) hS hq hn hI) λst' e=>by subst e;exact k
theorem AOps.closeIn{p q X Y n:Nat}{t t2:TypeId}{sz sz2:Nat}{ll l2 l2':List AV}(hS:At S p (X,.row t sz ll))(hq:At S q (Y,.row t2 sz2 l2))(hpq:Nat.beq p q=false)(hn:n=ll.length)(hI:Hos (.sl X 0 n) (.lst true t sz ll) l2 l2')(k:AOps ro P nt ops Q rest ⟨T,(S.set p (X,.used)).set q (Y,.row t2 sz2 l2')⟩):AOps ro P nt ops Q rest ⟨T,S⟩:=
 .ghost (St.closeIn (st:=⟨T,S⟩) (λe=>by subst e;simp at hpq) hS hq hn hI) λst' e=>by subst e;exact k
theorem IE{x0:Operand}{v0:AV}{g:Option (Nat×Bool)}(h0:Rd c T x0 v0)(h:Spec P f ([v0]) Sin λr' S'=>r'=r/\S'=Sout)(hT:TR r v news)(hpos:Pos S (Sin++B6 news) (Sout++news) rS wS)(hnd:Cw (rS.map (·.1))=true)(ht:Am [(x0,v0)]=true):Stp c P ⟨dst,.call ⟨.value (.func f),#[x0],ats⟩,ty,pos,after,g⟩ T S [(x0,v0)] rS v wS:=⟨EI (xs:=[(x0,v0)]) h ht hT hpos.all.1 hpos.all.2.1 hpos.all.2.2.1 (Cc hnd),(.cons h0 .nil),hpos.all.2.2.2⟩
theorem AOps.z1{x0:Operand}{v0:AV}(h:Spec P f ([v0]) Sin λr' S'=>r'=r/\S'=Sout)(hT:TR r v news)(k:AOps ro P nt ops Q rest ⟨AW T dst v,AX S wS⟩)(h0:Rd none T x0 v0:=by rfl)(hpos:Pos S (Sin++B6 news) (Sout++news) rS wS:=by exact Pos.f)(hnd:Cw (rS.map (·.1))=true:=by rfl)(ht:Am [(x0,v0)]=true:=by rfl)(hd:AU dst nt=true:=by rfl):AOps ro P nt ops Q (⟨dst,.call ⟨.value (.func f),#[x0],ats⟩,ty,pos,after,none⟩::rest) ⟨T,S⟩:=AOps.s (IE h0 h hT hpos hnd ht) hd k
theorem RGo.z1{x0:Operand}{v0:AV}{g:Option (Nat×Bool)}{ts:List Nat}(h:Spec P f ([v0]) Sin λr' S'=>r'=r/\S'=Sout)(hT:TR r v news)(k:RGo P nt ops l Q rest (acc++[⟨⟨dst,.call ⟨.value (.func f),#[x0],ats⟩,ty,pos,after,g⟩,ts++Au [(x0,v0)],rS.map (·.1),v,wS⟩]) ⟨AW T dst v,AX S wS⟩)(h0:Rd none T x0 v0:=by rfl)(hpos:Pos S (Sin++B6 news) (Sout++news) rS wS:=by exact Pos.f)(hnd:Cw (rS.map (·.1))=true:=by rfl)(ht:Am [(x0,v0)]=true:=by rfl)(hd:AU dst nt=true:=by rfl)(hg:Grd ops T g ts:=by first|exact .none|exact .met rfl rfl (by first|rfl|assumption)):RGo P nt ops l Q (⟨dst,.call ⟨.value (.func f),#[x0],ats⟩,ty,pos,after,g⟩::rest) acc ⟨T,S⟩:=RGo.sg (IE h0 h hT hpos hnd ht) hd hg k
theorem Uy{x0:Operand}{v0:AV}{β:Type}{C:β->Prop}{rr vv:β->AV}{X p:Nat}{ob:AO}{oo:β->AO}(h:Spec P f [v0] [(X,ob)] λr' S'=>∃b,C b/\r'=rr b/\S'=[(X,oo b)])[hf:∀b,Frz (rr b) (vv b)](k:∀b,C b->AOps ro P nt ops Q rest ⟨AW T dst (vv b),AX S [(p,(X,oo b))]⟩)(hSp:At S p (X,ob):=by exact At.f)(h0:Rd none T x0 v0:=by rfl)(ht:Am [(x0,v0)]=true:=by rfl)(hd:AU dst nt=true:=by rfl):AOps ro P nt ops Q (⟨dst,.call ⟨.value (.func f),#[x0],ats⟩,ty,pos,after,none⟩::rest) ⟨T,S⟩:=Dj (xs:=[(x0,v0)]) (rS:=[(p,(X,ob))]) (nw:=λ_=>[]) (wE:=λb=>[(p,(X,oo b))]) h (λb=>.fz) (λ_=>rfl) (λ_=>.cons hSp .nil) (by simp) rfl (.cons hSp .nil) (.cons h0 .nil) ht hd k
theorem AOps.t1{x0:Operand}{v0:AV}{t:TypeId}{sz:Nat}{ll:List AV}(h:PS P f ([v0]) (.lst true t sz ll))(k:∀Y,AOps ro P nt ops Q rest ⟨AW T dst (.sl Y 0 ll.length),(Y,.row t sz ll)::S⟩)(h0:Rd none T x0 v0:=by rfl)(ht:Am [(x0,v0)]=true:=by rfl)(hd:AU dst nt=true:=by rfl):AOps ro P nt ops Q (⟨dst,.call ⟨.value (.func f),#[x0],ats⟩,ty,pos,after,none⟩::rest) ⟨T,S⟩:=AOps.rs λY=>AOps.s (IE h0 h (.ls (Y:=Y)) (.cons .here .nil) rfl ht) hd (k Y)
theorem RGo.t1{x0:Operand}{v0:AV}{g:Option (Nat×Bool)}{ts:List Nat}{t:TypeId}{sz q Y:Nat}{ll:List AV}(h:PS P f ([v0]) (.lst true t sz ll))(k:RGo P nt ops l Q rest (acc++[⟨⟨dst,.call ⟨.value (.func f),#[x0],ats⟩,ty,pos,after,g⟩,ts++Au [(x0,v0)],[q],.sl Y 0 ll.length,[(q,(Y,.row t sz ll))]⟩]) ⟨AW T dst (.sl Y 0 ll.length),AX S [(q,(Y,.row t sz ll))]⟩)(hSq:At S q (Y,.gone):=by exact At.f)(h0:Rd none T x0 v0:=by rfl)(ht:Am [(x0,v0)]=true:=by rfl)(hd:AU dst nt=true:=by rfl)(hg:Grd ops T g ts:=by first|exact .none|exact .met rfl rfl (by first|rfl|assumption)):RGo P nt ops l Q (⟨dst,.call ⟨.value (.func f),#[x0],ats⟩,ty,pos,after,g⟩::rest) acc ⟨T,S⟩:=RGo.sg (IE h0 h (.ls (Y:=Y)) (.cons hSq .nil) rfl ht) hd hg k
theorem ID{x0:Operand}{v0:AV}{x1:Operand}{v1:AV}{g:Option (Nat×Bool)}(h0:Rd c T x0 v0)(h1:Rd c T x1 v1)(h:Spec P f ([v0,v1]) Sin λr' S'=>r'=r/\S'=Sout)(hT:TR r v news)(hpos:Pos S (Sin++B6 news) (Sout++news) rS wS)(hnd:Cw (rS.map (·.1))=true)(ht:Am [(x0,v0),(x1,v1)]=true):Stp c P ⟨dst,.call ⟨.value (.func f),#[x0,x1],ats⟩,ty,pos,after,g⟩ T S [(x0,v0),(x1,v1)] rS v wS:=⟨EI (xs:=[(x0,v0),(x1,v1)]) h ht hT hpos.all.1 hpos.all.2.1 hpos.all.2.2.1 (Cc hnd),(.cons h0 (.cons h1 .nil)),hpos.all.2.2.2⟩
theorem AOps.z2{x0:Operand}{v0:AV}{x1:Operand}{v1:AV}(h:Spec P f ([v0,v1]) Sin λr' S'=>r'=r/\S'=Sout)(hT:TR r v news)(k:AOps ro P nt ops Q rest ⟨AW T dst v,AX S wS⟩)(h0:Rd none T x0 v0:=by rfl)(h1:Rd none T x1 v1:=by rfl)(hpos:Pos S (Sin++B6 news) (Sout++news) rS wS:=by exact Pos.f)(hnd:Cw (rS.map (·.1))=true:=by rfl)(ht:Am [(x0,v0),(x1,v1)]=true:=by rfl)(hd:AU dst nt=true:=by rfl):AOps ro P nt ops Q (⟨dst,.call ⟨.value (.func f),#[x0,x1],ats⟩,ty,pos,after,none⟩::rest) ⟨T,S⟩:=AOps.s (ID h0 h1 h hT hpos hnd ht) hd k
theorem RGo.z2{x0:Operand}{v0:AV}{x1:Operand}{v1:AV}{g:Option (Nat×Bool)}{ts:List Nat}(h:Spec P f ([v0,v1]) Sin λr' S'=>r'=r/\S'=Sout)(hT:TR r v news)(k:RGo P nt ops l Q rest (acc++[⟨⟨dst,.call ⟨.value (.func f),#[x0,x1],ats⟩,ty,pos,after,g⟩,ts++Au [(x0,v0),(x1,v1)],rS.map (·.1),v,wS⟩]) ⟨AW T dst v,AX S wS⟩)(h0:Rd none T x0 v0:=by rfl)(h1:Rd none T x1 v1:=by rfl)(hpos:Pos S (Sin++B6 news) (Sout++news) rS wS:=by exact Pos.f)(hnd:Cw (rS.map (·.1))=true:=by rfl)(ht:Am [(x0,v0),(x1,v1)]=true:=by rfl)(hd:AU dst nt=true:=by rfl)(hg:Grd ops T g ts:=by first|exact .none|exact .met rfl rfl (by first|rfl|assumption)):RGo P nt ops l Q (⟨dst,.call ⟨.value (.func f),#[x0,x1],ats⟩,ty,pos,after,g⟩::rest) acc ⟨T,S⟩:=RGo.sg (ID h0 h1 h hT hpos hnd ht) hd hg k
theorem RX{x0:Operand}{v0:AV}{x1:Operand}{v1:AV}{β:Type}{C:β->Prop}{rr vv:β->AV}(h:Spec P f [v0,v1] [] λr' S'=>∃b,C b/\r'=rr b/\S'=[])[hf:∀b,Frz (rr b) (vv b)](k:∀b,C b->AOps ro P nt ops Q rest ⟨AW T dst (vv b),S⟩)(h0:Rd none T x0 v0:=by rfl)(h1:Rd none T x1 v1:=by rfl)(ht:Am [(x0,v0),(x1,v1)]=true:=by rfl)(hd:AU dst nt=true:=by rfl):AOps ro P nt ops Q (⟨dst,.call ⟨.value (.func f),#[x0,x1],ats⟩,ty,pos,after,none⟩::rest) ⟨T,S⟩:=Dj (xs:=[(x0,v0),(x1,v1)]) (nw:=λ_=>[]) (wE:=λ_=>[]) h (λb=>.fz) (λ_=>rfl) (λ_=>.nil) .nil rfl .nil (.cons h0 (.cons h1 .nil)) ht hd k
theorem V9{x0:Operand}{v0:AV}{x1:Operand}{v1:AV}{t:TypeId}{sz:Nat}{ll:List AV}(h:PS P f ([v0,v1]) (.lst true t sz ll))(k:∀Y,AOps ro P nt ops Q rest ⟨AW T dst (.sl Y 0 ll.length),(Y,.row t sz ll)::S⟩)(h0:Rd none T x0 v0:=by rfl)(h1:Rd none T x1 v1:=by rfl)(ht:Am [(x0,v0),(x1,v1)]=true:=by rfl)(hd:AU dst nt=true:=by rfl):AOps ro P nt ops Q (⟨dst,.call ⟨.value (.func f),#[x0,x1],ats⟩,ty,pos,after,none⟩::rest) ⟨T,S⟩:=AOps.rs λY=>AOps.s (ID h0 h1 h (.ls (Y:=Y)) (.cons .here .nil) rfl ht) hd (k Y)
theorem Uo{x0:Operand}{v0:AV}{x1:Operand}{v1:AV}{x2:Operand}{v2:AV}{g:Option (Nat×Bool)}(h0:Rd c T x0 v0)(h1:Rd c T x1 v1)(h2:Rd c T x2 v2)(h:Spec P f ([v0,v1,v2]) Sin λr' S'=>r'=r/\S'=Sout)(hT:TR r v news)(hpos:Pos S (Sin++B6 news) (Sout++news) rS wS)(hnd:Cw (rS.map (·.1))=true)(ht:Am [(x0,v0),(x1,v1),(x2,v2)]=true):Stp c P ⟨dst,.call ⟨.value (.func f),#[x0,x1,x2],ats⟩,ty,pos,after,g⟩ T S [(x0,v0),(x1,v1),(x2,v2)] rS v wS:=⟨EI (xs:=[(x0,v0),(x1,v1),(x2,v2)]) h ht hT hpos.all.1 hpos.all.2.1 hpos.all.2.2.1 (Cc hnd),(.cons h0 (.cons h1 (.cons h2 .nil))),hpos.all.2.2.2⟩
theorem V7{x0:Operand}{v0:AV}{x1:Operand}{v1:AV}{x2:Operand}{v2:AV}(h:Spec P f ([v0,v1,v2]) Sin λr' S'=>r'=r/\S'=Sout)(hT:TR r v news)(k:AOps ro P nt ops Q rest ⟨AW T dst v,AX S wS⟩)(h0:Rd none T x0 v0:=by rfl)(h1:Rd none T x1 v1:=by rfl)(h2:Rd none T x2 v2:=by rfl)(hpos:Pos S (Sin++B6 news) (Sout++news) rS wS:=by exact Pos.f)(hnd:Cw (rS.map (·.1))=true:=by rfl)(ht:Am [(x0,v0),(x1,v1),(x2,v2)]=true:=by rfl)(hd:AU dst nt=true:=by rfl):AOps ro P nt ops Q (⟨dst,.call ⟨.value (.func f),#[x0,x1,x2],ats⟩,ty,pos,after,none⟩::rest) ⟨T,S⟩:=AOps.s (Uo h0 h1 h2 h hT hpos hnd ht) hd k
theorem WC{x0:Operand}{v0:AV}{x1:Operand}{v1:AV}{x2:Operand}{v2:AV}{β:Type}{C:β->Prop}{rr vv:β->AV}(h:Spec P f [v0,v1,v2] [] λr' S'=>∃b,C b/\r'=rr b/\S'=[])[hf:∀b,Frz (rr b) (vv b)](k:∀b,C b->AOps ro P nt ops Q rest ⟨AW T dst (vv b),S⟩)(h0:Rd none T x0 v0:=by rfl)(h1:Rd none T x1 v1:=by rfl)(h2:Rd none T x2 v2:=by rfl)(ht:Am [(x0,v0),(x1,v1),(x2,v2)]=true:=by rfl)(hd:AU dst nt=true:=by rfl):AOps ro P nt ops Q (⟨dst,.call ⟨.value (.func f),#[x0,x1,x2],ats⟩,ty,pos,after,none⟩::rest) ⟨T,S⟩:=Dj (xs:=[(x0,v0),(x1,v1),(x2,v2)]) (nw:=λ_=>[]) (wE:=λ_=>[]) h (λb=>.fz) (λ_=>rfl) (λ_=>.nil) .nil rfl .nil (.cons h0 (.cons h1 (.cons h2 .nil))) ht hd k
theorem Ux{x0:Operand}{v0:AV}{x1:Operand}{v1:AV}{x2:Operand}{v2:AV}{β:Type}{C:β->Prop}{rr vv:β->AV}{X p:Nat}{ob:AO}{oo:β->AO}(h:Spec P f [v0,v1,v2] [(X,ob)] λr' S'=>∃b,C b/\r'=rr b/\S'=[(X,oo b)])[hf:∀b,Frz (rr b) (vv b)](k:∀b,C b->AOps ro P nt ops Q rest ⟨AW T dst (vv b),AX S [(p,(X,oo b))]⟩)(hSp:At S p (X,ob):=by exact At.f)(h0:Rd none T x0 v0:=by rfl)(h1:Rd none T x1 v1:=by rfl)(h2:Rd none T x2 v2:=by rfl)(ht:Am [(x0,v0),(x1,v1),(x2,v2)]=true:=by rfl)(hd:AU dst nt=true:=by rfl):AOps ro P nt ops Q (⟨dst,.call ⟨.value (.func f),#[x0,x1,x2],ats⟩,ty,pos,after,none⟩::rest) ⟨T,S⟩:=Dj (xs:=[(x0,v0),(x1,v1),(x2,v2)]) (rS:=[(p,(X,ob))]) (nw:=λ_=>[]) (wE:=λb=>[(p,(X,oo b))]) h (λb=>.fz) (λ_=>rfl) (λ_=>.cons hSp .nil) (by simp) rfl (.cons hSp .nil) (.cons h0 (.cons h1 (.cons h2 .nil))) ht hd k
theorem Un{x0:Operand}{v0:AV}{x1:Operand}{v1:AV}{x2:Operand}{v2:AV}{x3:Operand}{v3:AV}{g:Option (Nat×Bool)}(h0:Rd c T x0 v0)(h1:Rd c T x1 v1)(h2:Rd c T x2 v2)(h3:Rd c T x3 v3)(h:Spec P f ([v0,v1,v2,v3]) Sin λr' S'=>r'=r/\S'=Sout)(hT:TR r v news)(hpos:Pos S (Sin++B6 news) (Sout++news) rS wS)(hnd:Cw (rS.map (·.1))=true)(ht:Am [(x0,v0),(x1,v1),(x2,v2),(x3,v3)]=true):Stp c P ⟨dst,.call ⟨.value (.func f),#[x0,x1,x2,x3],ats⟩,ty,pos,after,g⟩ T S [(x0,v0),(x1,v1),(x2,v2),(x3,v3)] rS v wS:=⟨EI (xs:=[(x0,v0),(x1,v1),(x2,v2),(x3,v3)]) h ht hT hpos.all.1 hpos.all.2.1 hpos.all.2.2.1 (Cc hnd),(.cons h0 (.cons h1 (.cons h2 (.cons h3 .nil)))),hpos.all.2.2.2⟩
theorem Nq{x0:Operand}{v0:AV}{x1:Operand}{v1:AV}{x2:Operand}{v2:AV}{x3:Operand}{v3:AV}(h:Spec P f ([v0,v1,v2,v3]) Sin λr' S'=>r'=r/\S'=Sout)(hT:TR r v news)(k:AOps ro P nt ops Q rest ⟨AW T dst v,AX S wS⟩)(h0:Rd none T x0 v0:=by rfl)(h1:Rd none T x1 v1:=by rfl)(h2:Rd none T x2 v2:=by rfl)(h3:Rd none T x3 v3:=by rfl)(hpos:Pos S (Sin++B6 news) (Sout++news) rS wS:=by exact Pos.f)(hnd:Cw (rS.map (·.1))=true:=by rfl)(ht:Am [(x0,v0),(x1,v1),(x2,v2),(x3,v3)]=true:=by rfl)(hd:AU dst nt=true:=by rfl):AOps ro P nt ops Q (⟨dst,.call ⟨.value (.func f),#[x0,x1,x2,x3],ats⟩,ty,pos,after,none⟩::rest) ⟨T,S⟩:=AOps.s (Un h0 h1 h2 h3 h hT hpos hnd ht) hd k
theorem Uw{x0:Operand}{v0:AV}{x1:Operand}{v1:AV}{x2:Operand}{v2:AV}{x3:Operand}{v3:AV}{β:Type}{C:β->Prop}{rr vv:β->AV}{X p:Nat}{ob:AO}{oo:β->AO}(h:Spec P f [v0,v1,v2,v3] [(X,ob)] λr' S'=>∃b,C b/\r'=rr b/\S'=[(X,oo b)])[hf:∀b,Frz (rr b) (vv b)](k:∀b,C b->AOps ro P nt ops Q rest ⟨AW T dst (vv b),AX S [(p,(X,oo b))]⟩)(hSp:At S p (X,ob):=by exact At.f)(h0:Rd none T x0 v0:=by rfl)(h1:Rd none T x1 v1:=by rfl)(h2:Rd none T x2 v2:=by rfl)(h3:Rd none T x3 v3:=by rfl)(ht:Am [(x0,v0),(x1,v1),(x2,v2),(x3,v3)]=true:=by rfl)(hd:AU dst nt=true:=by rfl):AOps ro P nt ops Q (⟨dst,.call ⟨.value (.func f),#[x0,x1,x2,x3],ats⟩,ty,pos,after,none⟩::rest) ⟨T,S⟩:=Dj (xs:=[(x0,v0),(x1,v1),(x2,v2),(x3,v3)]) (rS:=[(p,(X,ob))]) (nw:=λ_=>[]) (wE:=λb=>[(p,(X,oo b))]) h (λb=>.fz) (λ_=>rfl) (λ_=>.cons hSp .nil) (by simp) rfl (.cons hSp .nil) (.cons h0 (.cons h1 (.cons h2 (.cons h3 .nil)))) ht hd k
theorem Um{x0:Operand}{v0:AV}{x1:Operand}{v1:AV}{x2:Operand}{v2:AV}{x3:Operand}{v3:AV}{x4:Operand}{v4:AV}{g:Option (Nat×Bool)}(h0:Rd c T x0 v0)(h1:Rd c T x1 v1)(h2:Rd c T x2 v2)(h3:Rd c T x3 v3)(h4:Rd c T x4 v4)(h:Spec P f ([v0,v1,v2,v3,v4]) Sin λr' S'=>r'=r/\S'=Sout)(hT:TR r v news)(hpos:Pos S (Sin++B6 news) (Sout++news) rS wS)(hnd:Cw (rS.map (·.1))=true)(ht:Am [(x0,v0),(x1,v1),(x2,v2),(x3,v3),(x4,v4)]=true):Stp c P ⟨dst,.call ⟨.value (.func f),#[x0,x1,x2,x3,x4],ats⟩,ty,pos,after,g⟩ T S [(x0,v0),(x1,v1),(x2,v2),(x3,v3),(x4,v4)] rS v wS:=⟨EI (xs:=[(x0,v0),(x1,v1),(x2,v2),(x3,v3),(x4,v4)]) h ht hT hpos.all.1 hpos.all.2.1 hpos.all.2.2.1 (Cc hnd),(.cons h0 (.cons h1 (.cons h2 (.cons h3 (.cons h4 .nil))))),hpos.all.2.2.2⟩
theorem Np{x0:Operand}{v0:AV}{x1:Operand}{v1:AV}{x2:Operand}{v2:AV}{x3:Operand}{v3:AV}{x4:Operand}{v4:AV}(h:Spec P f ([v0,v1,v2,v3,v4]) Sin λr' S'=>r'=r/\S'=Sout)(hT:TR r v news)(k:AOps ro P nt ops Q rest ⟨AW T dst v,AX S wS⟩)(h0:Rd none T x0 v0:=by rfl)(h1:Rd none T x1 v1:=by rfl)(h2:Rd none T x2 v2:=by rfl)(h3:Rd none T x3 v3:=by rfl)(h4:Rd none T x4 v4:=by rfl)(hpos:Pos S (Sin++B6 news) (Sout++news) rS wS:=by exact Pos.f)(hnd:Cw (rS.map (·.1))=true:=by rfl)(ht:Am [(x0,v0),(x1,v1),(x2,v2),(x3,v3),(x4,v4)]=true:=by rfl)(hd:AU dst nt=true:=by rfl):AOps ro P nt ops Q (⟨dst,.call ⟨.value (.func f),#[x0,x1,x2,x3,x4],ats⟩,ty,pos,after,none⟩::rest) ⟨T,S⟩:=AOps.s (Um h0 h1 h2 h3 h4 h hT hpos hnd ht) hd k
theorem PL{x0:Operand}{v0:AV}{x1:Operand}{v1:AV}{x2:Operand}{v2:AV}{x3:Operand}{v3:AV}{x4:Operand}{v4:AV}{β:Type}{C:β->Prop}{rr vv:β->AV}{X p:Nat}{ob:AO}{oo:β->AO}(h:Spec P f [v0,v1,v2,v3,v4] [(X,ob)] λr' S'=>∃b,C b/\r'=rr b/\S'=[(X,oo b)])[hf:∀b,Frz (rr b) (vv b)](k:∀b,C b->AOps ro P nt ops Q rest ⟨AW T dst (vv b),AX S [(p,(X,oo b))]⟩)(hSp:At S p (X,ob):=by exact At.f)(h0:Rd none T x0 v0:=by rfl)(h1:Rd none T x1 v1:=by rfl)(h2:Rd none T x2 v2:=by rfl)(h3:Rd none T x3 v3:=by rfl)(h4:Rd none T x4 v4:=by rfl)(ht:Am [(x0,v0),(x1,v1),(x2,v2),(x3,v3),(x4,v4)]=true:=by rfl)(hd:AU dst nt=true:=by rfl):AOps ro P nt ops Q (⟨dst,.call ⟨.value (.func f),#[x0,x1,x2,x3,x4],ats⟩,ty,pos,after,none⟩::rest) ⟨T,S⟩:=Dj (xs:=[(x0,v0),(x1,v1),(x2,v2),(x3,v3),(x4,v4)]) (rS:=[(p,(X,ob))]) (nw:=λ_=>[]) (wE:=λb=>[(p,(X,oo b))]) h (λb=>.fz) (λ_=>rfl) (λ_=>.cons hSp .nil) (by simp) rfl (.cons hSp .nil) (.cons h0 (.cons h1 (.cons h2 (.cons h3 (.cons h4 .nil))))) ht hd k
theorem Ul{x0:Operand}{v0:AV}{x1:Operand}{v1:AV}{x2:Operand}{v2:AV}{x3:Operand}{v3:AV}{x4:Operand}{v4:AV}{x5:Operand}{v5:AV}{g:Option (Nat×Bool)}(h0:Rd c T x0 v0)(h1:Rd c T x1 v1)(h2:Rd c T x2 v2)(h3:Rd c T x3 v3)(h4:Rd c T x4 v4)(h5:Rd c T x5 v5)(h:Spec P f ([v0,v1,v2,v3,v4,v5]) Sin λr' S'=>r'=r/\S'=Sout)(hT:TR r v news)(hpos:Pos S (Sin++B6 news) (Sout++news) rS wS)(hnd:Cw (rS.map (·.1))=true)(ht:Am [(x0,v0),(x1,v1),(x2,v2),(x3,v3),(x4,v4),(x5,v5)]=true):Stp c P ⟨dst,.call ⟨.value (.func f),#[x0,x1,x2,x3,x4,x5],ats⟩,ty,pos,after,g⟩ T S [(x0,v0),(x1,v1),(x2,v2),(x3,v3),(x4,v4),(x5,v5)] rS v wS:=⟨EI (xs:=[(x0,v0),(x1,v1),(x2,v2),(x3,v3),(x4,v4),(x5,v5)]) h ht hT hpos.all.1 hpos.all.2.1 hpos.all.2.2.1 (Cc hnd),(.cons h0 (.cons h1 (.cons h2 (.cons h3 (.cons h4 (.cons h5 .nil)))))),hpos.all.2.2.2⟩
theorem RR{x0:Operand}{v0:AV}{x1:Operand}{v1:AV}{x2:Operand}{v2:AV}{x3:Operand}{v3:AV}{x4:Operand}{v4:AV}{x5:Operand}{v5:AV}(h:Spec P f ([v0,v1,v2,v3,v4,v5]) Sin λr' S'=>r'=r/\S'=Sout)(hT:TR r v news)(k:AOps ro P nt ops Q rest ⟨AW T dst v,AX S wS⟩)(h0:Rd none T x0 v0:=by rfl)(h1:Rd none T x1 v1:=by rfl)(h2:Rd none T x2 v2:=by rfl)(h3:Rd none T x3 v3:=by rfl)(h4:Rd none T x4 v4:=by rfl)(h5:Rd none T x5 v5:=by rfl)(hpos:Pos S (Sin++B6 news) (Sout++news) rS wS:=by exact Pos.f)(hnd:Cw (rS.map (·.1))=true:=by rfl)(ht:Am [(x0,v0),(x1,v1),(x2,v2),(x3,v3),(x4,v4),(x5,v5)]=true:=by rfl)(hd:AU dst nt=true:=by rfl):AOps ro P nt ops Q (⟨dst,.call ⟨.value (.func f),#[x0,x1,x2,x3,x4,x5],ats⟩,ty,pos,after,none⟩::rest) ⟨T,S⟩:=AOps.s (Ul h0 h1 h2 h3 h4 h5 h hT hpos hnd ht) hd k
end
end
section
variable {ro:Option Nat}
section
variable {P:Program}{nt:Nat}{c:Code}{ops:Array Oper}{rest:List Oper}{Q:Exit->St->Prop}{T:List (Nat×AV)}{S:List AC}{p n X sz:Nat}{t:TypeId}{l:List AV}
theorem IJ(d:Nat)(l':List AV)(he:AV.frzs l=l')(k:AWP ro P nt c Q ⟨(d,.lst false t sz l')::T,S.set p (X,.used)⟩)(hd:Ab T d=some (.sl X 0 n):=by rfl)(hS:At S p (X,.row t sz l):=by exact At.f)(hn:n=l.length:=by first|rfl|assumption|omega|(simp;omega)|simp[*]):AWP ro P nt c Q ⟨T,S⟩:=
 AWP.ice hd hS hn (he▸k)
end
end
section
variable {ro:Option Nat}
open Go.RowKit
section
variable {P:Program}{m0 m:Mem}{N:Nat}{R:Zs}{ex:List Nat}{X sz:Nat}{l:List AV}{t t' te ty:TypeId}{x y:Operand}{pos:String}{after:Array Edge}{g:Option (Nat×Bool)}{dst:Option Tmp}{p:Nat}
theorem OpT.slice_lo{k:IntKind}{off n lo:Nat}{qi:Int}(he:CW P t=some te)(hsz:tSz P te=some sz)(hq:qi=(lo:Int))(hh:lo<=n):OpT P ⟨dst,.slice t x (some y) none none,ty,pos,after,g⟩ [(x,.sl X off n),(y,.prim (.int k qi))] [(p,(X,.row t' sz l))] (.sl X (off+lo) (n-lo)) []:=
 .pure_ λm a hx hS=>by
  obtain⟨bs,hU,L,h1,h2,_⟩:=hS (p,(X,.row t' sz l)) (by simp);obtain⟨_,hU',A,c,e1,h3⟩:=hx (x,.sl X off n) (by simp);have hy:=(hx (y,.prim (.int k qi)) (by simp)).prim;injection e1 with e1
  simp only at e1 hy;subst hq
  have hcap:n<=c:=by
   rcases h3 L h1 with⟨_,e,_,e'⟩|⟨_,h4,o,e,_⟩
   ·omega
   ·injection e with _ _ e;omega
  have hr:=Dn (P:=P) (w:=m.w) he hsz (A:=A) (len:=n) (cap:=c) (lo:=lo) (hi:=n) (vl:=some (.int k lo)) (vh:=none) (λu hu=>⟨k,by injection hu with hu;exact hu.symm⟩) (by simp) (by simp) (by simp) hh hcap;refine⟨_,by simp only[execOp,Option.map_none,Option.map_some,e1,hy,Sem.run_bind,hr,Result.andThen_ok];rfl,rfl,hU',_,_,rfl,λL' hL'=>?_⟩;rw[h1]at hL';injection hL' with hL';subst hL'
  rcases h3 L h1 with⟨h5,e,e2,e3⟩|⟨h5,h4,o,e,h6⟩
  ·injection e with e4 e5 e6
   subst e4 e6;have:lo=0:=by omega
   subst this;exact .inl ⟨h5,by simp[e3],by omega,by omega⟩
  ·injection e with e4 e5 e6
   subst e4 e6;simp only[Option.map_some];by_cases hc:lo<L.cap-off
   ·refine .inr ⟨h5,by omega,o+lo*sz,?_,λ_=>?_⟩
    ·rw[if_neg (by omega),EX]
     congr 1
     omega
    ·rw[h6 (.inl (by omega)),h2,Nat.add_mul]
   ·have hlo:lo=L.cap-off:=by omega
    refine .inr ⟨h5,by omega,o,by rw[if_pos hlo.symm];congr 1;omega,λh=>?_⟩;rcases h with h|h
    ·omega
    ·have h0:off=0:=by omega
     rw[h6 (.inr h0),h0,show lo=0 by omega]
theorem Good.splice{bs:List Nat}(G:Good m0 m N (((X,.row t sz l),bs)::R) ex){L:Loc}{arr:Array Value}{bs0:List Nat}(hL:m.μ X=some L)(hnil:L.isNil=false)(hbs:bs=L.blk::bs0)(hb:m.w.heap[L.blk]?=some (.cells arr t (0,0)))(harr:arr.size=L.cap*sz)(hl:l.length<=L.cap)(hcap:L.cap<=maxLen)(hsz:L.sz=sz)(hw:∀e∈l,e.width=sz)
  (hv:VCs m l (arr.toList.take (l.length*sz)) bs0) {off:Nat} {ns:List AV} {cs:List Value} (hoff:off+ns.length<=l.length) (hnw:∀e∈ns,e.width=sz) (hn:VCs m ns cs []):
  ∃b1,Good m0 {m with w:=m.w.setRow L.blk (arr.toList.take (off*sz)++cs++arr.toList.drop (off*sz+cs.length)).toArray} N (((X,.row t sz (l.take off++ns++l.drop (off+ns.length))),L.blk::b1)::R) ex/\m.Le {m with w:=m.w.setRow L.blk (arr.toList.take (off*sz)++cs++arr.toList.drop (off*sz+cs.length)).toArray}:=by
 have hcs:cs.length=ns.length*sz:=by rw[VCs.len _ hn,B7 hnw]
 obtain⟨p1,p2,e1,h1,h2⟩:=VCs.take hw hv (k:=off) (by omega);obtain⟨p3,p4,e2,h3,h4⟩:=VCs.take (l:=l.drop off) (λe he=>hw e (List.mem_of_mem_drop he)) h2 (k:=ns.length) (by rw[Bh];omega);rw[List.drop_drop]at h4;have hlen:(l.take off++ns++l.drop (off+ns.length)).length=l.length:=by simp only[AL,Ah,Bh];omega
 have hsz0:l.length*sz<=arr.toList.length:=by rw[show arr.toList.length=arr.size from Array.length_toList,harr];exact Nat.mul_le_mul_right _ hl
 have hle1:off*sz+ns.length*sz<=l.length*sz:=by rw[<-Nat.add_mul];exact Nat.mul_le_mul_right _ hoff
 have nd:(p1++p4).Nodup:=by
  have hown:=G.own;rw[BR,hbs,e1,e2]at hown
  have h5:(L.blk::(p1++(p3++p4))).Nodup:=by
   rw[AP]at hown;exact(List.nodup_append.1 hown).1
  have h6:=(List.nodup_cons.1 h5).2;obtain⟨h7,h8,h9⟩:=List.nodup_append.1 h6;obtain⟨_,h10,_⟩:=List.nodup_append.1 h8;exact List.nodup_append.2 ⟨h7,h10,λa ha b hb=>h9 a ha b (by simp[hb])⟩
 refine⟨p1++p4,Good.write G hL hnil hbs hb (l':=l.take off++ns++l.drop (off+ns.length)) (bs1:=p1++p4) ?_ (by rw[hlen];exact hl) hcap hsz ?_ ?_ ?_ nd _ rfl⟩
 ·simp only[List.size_toArray,AL,Ah,Bh,Array.length_toList,harr]at hsz0⊢
  omega
 ·intro e he
  rcases List.mem_append.1 he with he|he
  ·rcases List.mem_append.1 he with he|he
   ·exact hw e (List.mem_of_mem_take he)
   ·exact hnw e he
  ·exact hw e (List.mem_of_mem_drop he)
 ·rw[hlen]
  have e3:(arr.toList.take (off*sz)++cs++arr.toList.drop (off*sz+cs.length)).take (l.length*sz)=(arr.toList.take (l.length*sz)).take (off*sz)++cs++((arr.toList.take (l.length*sz)).drop (off*sz)).drop (ns.length*sz):=by
   rw[List.take_append,List.take_of_length_le (by simp only[AL,Ah];omega)]
   congr 1
   ·rw[List.take_take,Nat.min_eq_left (by omega)]
   ·rw[List.drop_drop,hcs,List.drop_take]
    congr 1
    simp only[AL,Ah];omega
  rw[e3];have:=(h1.append hn).append h4;simpa using this
 ·intro b hb
  rw[e1,e2];rcases List.mem_append.1 hb with h|h<;>simp[h]
theorem OpT.clear{off n:Nat}{zl:List Value}{ag:Bool}(he:CW P t=some te)(hz:tZ P te=some zl)(hsz:tSz P te=some sz)(hag:ag=true\/zl.length=1)(hzs:zl.length=sz)(hn:off+n<=l.length):
  OpT P ⟨dst,.call ⟨.builtin .clear,#[x],#[t]⟩,ty,pos,after,g⟩ [(x,.sl X off n)] [(p,(X,.row te sz l))] (.tup []) [(p,(X,.row te sz (l.take off++List.replicate n (zAV zl ag)++l.drop (off+n))))]:=by
 intro nt m0 T S a w hx hS hd hr;obtain⟨i,zv,hi,hzv,hzl,ho⟩:=Gk hz;obtain⟨m,N,Z,rfl,h2,h3,h4⟩:=hr;have h2':Z.map (·.1)=S:=h2;have hxa:VV m (.sl X off n) (a.eval x) []:=h4.ev (hx (x,.sl X off n) (by simp));have hSp:=hS (p,(X,.row te sz l)) (by simp);rw[<-h2',AG]at hSp;cases hz':Z[p]? with
 |none=>rw[hz']at hSp;cases hSp
 |some z=>
  rw[hz']at hSp;simp only[Option.map_some,Option.some.injEq]at hSp;obtain⟨z1,bs⟩:=z;simp only at hSp;subst hSp;obtain⟨R,hp1,hp2⟩:=Bd hz';have G:=h3.perm hp1;have hO:=G.obj _ (List.mem_cons_self ..);obtain⟨hU,L,hL,hLs,hO⟩:=hO;obtain⟨_,hU',A,q,e1,hs⟩:=hxa;injection e1 with e1
  have hexec:∀w,(execOp a.eval ⟨dst,.call ⟨.builtin .clear,#[x],#[t]⟩,ty,pos,after,g⟩).run P w=((Builtin.clear_ #[t] ty #[a.eval x]:Sem Value)>>=λv=>pure (.value v)).run P w:=λw=>by rw[BQ];simp[builtin,Sem.run_bind]
  have htup:VV m (.tup []) (.tuple #[]) []:=⟨#[],rfl,rfl,rfl⟩;by_cases hn0:n=0
  ·subst hn0
   have hnoop:(Builtin.clear_ #[t] ty #[a.eval x]).run P m.w= .ok (.tuple #[]) m.w:=by
    rw[e1];cases A<;>simp[Builtin.clear_,run_underlying (BU he)]
   unfold Oper.wp;rw[hexec,Sem.run_bind,hnoop];simp only[List.replicate_zero,List.append_nil,Nat.add_zero,List.take_append_drop];refine⟨m,N,Z,rfl,?_,h3,h4.put hd htup⟩
   have:S.set p (X,.row te sz l)=S:=by
    have:=hS (p,(X,.row te sz l)) (by simp);obtain⟨h5,h6⟩:=List.getElem?_eq_some_iff.1 this;have h7:=List.set_getElem_self h5;rw[h6]at h7;exact h7
   show Z.map (·.1)=AX S [(p,(X,.row te sz l))]
   rw[AX,AX,this,h2']
  ·rcases hO with⟨_,rfl,_⟩|⟨hnil,arr,bs0,rfl,hb,harr,hlc,hcap,hw,hv⟩
   ·simp at hn;omega
   ·rcases hs L hL with⟨h5,_⟩|⟨_,h5,o,h6,h7⟩
    ·rw[hnil]at h5;cases h5
    ·have ho':=h7 (.inl (by omega))
     have hzw:(zAV zl ag).width=sz:=by rw[<-VC.len _ (Fr m ho hag),hzs]
     obtain⟨b1,G',hle⟩:=G.splice hL hnil rfl hb harr hlc hcap hLs hw hv (off:=off) (ns:=List.replicate n (zAV zl ag)) (cs:=(List.replicate n zl).flatten) (by simpa using hn) (λe he=>by rw[List.eq_of_mem_replicate he,hzw]) (DT m (Fr m ho hag) n)
     have hcl:(Builtin.zeroCells zv.cells n).toList=(List.replicate n zl).flatten:=by
      rw[Builtin.zeroCells,Fh,hzl]
     have hfl:((List.replicate n zl).flatten).length=n*sz:=by simp[hzs]
     have hst:=run_storeCells_at P L.blk o te (List.replicate n zl).flatten 0 arr m.w hb (by
      rw[hfl,harr,ho',hLs,Nat.add_zero,<-Nat.add_mul];exact Nat.mul_le_mul_right _ (by omega)) (λu hu=>by
      obtain⟨l',hl',hu'⟩:=List.mem_flatten.1 hu;rw[List.eq_of_mem_replicate hl']at hu';exact ho u hu')
     simp only[Nat.add_zero]at hst;have hzero:∀w,(zeroValue te).run P w= .ok zv w:=λw=>by simp[zeroValue,typeInfo,Sem.run,program,hi,hzv]
     have hrun:(Builtin.clear_ #[t] ty #[a.eval x]).run P m.w= .ok (.tuple #[]) (m.w.setRow L.blk (arr.toList.take o++(List.replicate n zl).flatten++arr.toList.drop (o+(List.replicate n zl).flatten.length)).toArray):=by
      rw[e1,h6];obtain⟨n',rfl⟩:∃n',n=n'+1:=⟨n-1,by omega⟩;simp[Builtin.clear_,run_underlying (BU he),hzero,hcl,hst]
     unfold Oper.wp;rw[hexec,Sem.run_bind,hrun,ho',hLs];rw[List.length_replicate]at G';refine⟨_,N,Z.set p ((X,.row te sz (l.take off++List.replicate n (zAV zl ag)++l.drop (off+n))),L.blk::b1),rfl,?_,G'.perm (hp2 _).symm,(h4.mono hle).put hd (VV.mono hle (by simp) htup)⟩;rw[List.map_set,h2'];rfl
theorem Gv(m:Mem):m.Le {m with w:=m.w.drew}:=⟨λ_ h=>h,λ_ _ _ h=>h,λ_ h=>⟨h,rfl⟩⟩
theorem Good.drew{Z:Zs}(G:Good m0 m N Z ex):Good m0 {m with w:=m.w.drew} N Z ex:=
 ⟨λz hz=>ORel.mono (Gv m) (λhg hu=>by have:=G.obj z hz;rw[hg]at this;exact this.2 hu) (λL h=>h) (λ_ _=>rfl) (G.obj z hz),G.own,G.blk,G.frz,G.keys,G.keyN,G.usedN,G.le.trans (Gv m),G.os,G.tape,G.output,G.size⟩
theorem Ur{o:Oper}{v:AV}{xs:List (Operand×AV)}(h:∀(m:Mem) (a:Act),(∀q∈xs,VV m q.2 (a.eval q.1) [])->∃arr cap u,(execOp a.eval o).run P m.w= .ok (.value u) (m.w.drew.alloc (.cells arr t))/\arr.size=cap*sz/\l.length<=cap/\cap<=maxLen/\(∀e∈l,e.width=sz)/\VCs m l (arr.toList.take (l.length*sz)) []/\
   ∃len,v= .sl X 0 len/\len<=cap/\u= .slice (some ⟨m.w.heap.size,0,none⟩) len cap):OpT P o xs [(p,(X,.gone))] v [(p,(X,.row t sz l))]:=by
 intro nt m0 T S a w hx hS hd hr;obtain⟨m,N,Z,rfl,h2,h3,h4⟩:=hr;have h2':Z.map (·.1)=S:=h2;obtain⟨arr,cap,u,h5,h6,h7,h8,h9,h10,len,rfl,hlen,rfl⟩:=h m a (λq hq=>h4.ev (hx q hq));have hSp:=hS (p,(X,.gone)) (by simp);rw[<-h2',AG]at hSp;cases hz:Z[p]? with
 |none=>rw[hz]at hSp;cases hSp
 |some z=>
  rw[hz]at hSp;simp only[Option.map_some,Option.some.injEq]at hSp;obtain⟨z1,z2⟩:=z;simp only at hSp;subst hSp;obtain⟨R,hp1,hp2⟩:=Bd hz;obtain⟨G',hle⟩:=Hn (t:=t) (h3.perm hp1).drew (VCs.mono (Gv m) l (λ_ _=>rfl) h10) h6 h7 h8 h9 _ rfl;unfold Oper.wp;rw[h5];refine⟨_,N,Z.set p ((X,.row t sz l),[m.w.heap.size]),rfl,?_,G'.perm (hp2 _).symm,((h4.mono (Gv m)).mono hle).put hd ?_⟩
  ·rw[List.map_set,h2'];rfl
  ·refine⟨rfl,.inr rfl,_,_,rfl,λL hL=>?_⟩
   simp only[if_true,Option.some.injEq]at hL;subst hL;exact .inr ⟨rfl,by simpa using hlen,0,by simp,λ_=>by simp⟩
theorem HB{tx:TypeId}{kk:IntKind}{i:TypeInfo}{z:Value}(w:World)(ht:P.underlying t=some (.slice te))(hk:P.underlying tx=some (.int kk))(hi:P.info? te=some i)(hz:i.zero=some z)(hzs:z.cells.size=i.size)(base:Option Addr)(sLen sCap:Nat)(olds:List Value)
  (hold:(Builtin.firstCells i.size sLen (.slice base sLen sCap)).run P w.drew= .ok olds.toArray w.drew) (k2:IntKind) (n:Nat) (hn63:(n:Int)<=9223372036854775807) (hb:n*i.bytes<=281474976710656) (hn:n*i.size≠0)
  (hg:sCap<sLen+n) (h63:((sLen+n:Nat):Int)<=9223372036854775807) (hfit:Builtin.nextslicecap (sLen+n) sCap*i.bytes<=281474976710656):
  (Builtin.append_ #[t,tx] ty #[.slice base sLen sCap,.int k2 (n:Int)]).run P w=
   .ok (.slice (some ⟨w.heap.size,0,none⟩) (sLen+n) (grownCap w (sLen+n) sCap te))
    (w.drew.alloc (.cells ((olds.toArray++Builtin.zeroCells z.cells n)++Builtin.zeroCells z.cells (grownCap w (sLen+n) sCap te-(sLen+n))) te)):=by
 have hng:¬(sLen+n<=sCap):=by omega
 have h63':¬(9223372036854775807<((sLen:Int)+(n:Int))):=by omega
 have h48':¬(281474976710656<Builtin.nextslicecap (sLen+n) sCap*i.bytes):=by omega
 have hw:IntKind.i64.wrap (n:Int)=n:=Du (by omega) hn63;have h0:¬((n:Int)<0):=by omega
 have hbi:¬(281474976710656<(n:Int)*(i.bytes:Int)):=by
  have:((n*i.bytes:Nat):Int)<=281474976710656:=by omega
  rw[Int.natCast_mul]at this;omega
 have hn':¬(n=0\/i.size=0):=by simpa[Nat.mul_eq_zero]using hn
 simp[Builtin.append_,run_underlying ht,run_underlying hk,sizeOf,typeInfo,zeroValue,hi,hz,asInt,asIntOf,hw,h0,hbi,hng,h63',h48',Question.forced,hold,newRow,grownCap,hn'];exact λh=>absurd h hn
def Ro(P:Program)(t:TypeId):Bool:=match P.underlying t with
 |some (.int _)=>true
 |_=>false
theorem L8{t:TypeId}(h:Ro P t=true):∃k,P.underlying t=some (.int k):=by
 unfold Ro at h;split at h
 ·rename_i k hk;exact⟨k,hk⟩
 ·cases h
theorem OpT.appz_nil{tx:TypeId}{k:IntKind}{qi:Int}{n by_:Nat}{zl:List Value}{ag:Bool}(T:N0 P t=some (te,sz,by_))(hz:tZ P te=some zl)(hag:ag=true\/zl.length=1)(hzs:zl.length=sz)(htx:Ro P tx=true)(hq:qi=(n:Int))(h0:0<n)(hb:n*by_<=140737488355328)(hby:0<by_):
  OpT P ⟨dst,.call ⟨.builtin .append,#[x,y],#[t,tx]⟩,ty,pos,after,g⟩ [(x,.prim (.slice none 0 0)),(y,.prim (.int k qi))] [(p,(X,.gone))] (.sl X 0 n) [(p,(X,.row te sz (List.replicate n (zAV zl ag))))]:=by
 subst hq;obtain⟨i,z,ht,hi,hiz,h3,h4,hzs',hsz⟩:=IN T;obtain⟨i',zv,hi',hzv,hzl,ho⟩:=Gk hz;rw[hi]at hi';injection hi' with hi'
 subst hi';rw[hiz]at hzv;injection hzv with hzv
 subst hzv;obtain⟨kk,hk⟩:=L8 htx;have hnm:n<=140737488355328:=Nat.le_trans (Nat.le_mul_of_pos_right n hby) hb;refine Ur λm a hx=>?_
 have hx0:=(hx (x,.prim (.slice none 0 0)) (by simp)).prim;have hy0:=(hx (y,.prim (.int k (n:Int))) (by simp)).prim;simp only at hx0 hy0;have hrun:=HB (P:=P) (ty:=ty) m.w ht hk hi hiz (by rw[hzs',h3]) none 0 0 [] (by exact run_firstCells_none m.w.drew _ 0 0 0) k n (by omega) (by rw[h4];omega) (by rw[h3];exact Nat.ne_of_gt (Nat.mul_pos h0 hsz)) (by omega) (by omega) (by rw[h4,Nat.zero_add,nextslicecap_zero h0];omega);simp only[Nat.zero_add]at hrun;have hge:=grownCap_ge m.w n 0 te;have hcm:=grownCap_le_maxLen m.w n 0 te (by unfold maxLen;omega);have hzc:∀j,(Builtin.zeroCells z.cells j).toList=(List.replicate j zl).flatten:=λj=>by rw[Builtin.zeroCells,Fh,hzl]
 refine⟨(([]:List Value).toArray++Builtin.zeroCells z.cells n)++Builtin.zeroCells z.cells (grownCap m.w n 0 te-n),grownCap m.w n 0 te,_,?_,?_,by simpa using hge,hcm,λe he=>by rw[List.eq_of_mem_replicate he,<-VC.len _ (Fr m ho hag),hzs],?_,n,rfl,hge,rfl⟩
 ·rw[BQ]
  simp only[builtin,List.map_toArray,List.map_cons,List.map_nil,hx0,hy0,Sem.run_bind,hrun,Result.andThen_ok,Sem.run_pure]
 ·simp only[Array.size_append,size_zeroCells,hzs',List.size_toArray,List.length_nil,Nat.zero_add]
  rw[<-Nat.add_mul]
  congr 1
  omega
 ·simp only[Array.toList_append,hzc,BD,List.length_replicate]
  rw[List.take_left' (by simp[hzs])];exact DT m (Fr m ho hag) n
theorem OpT.cap_nil(he:CW P t=some te):OpT P ⟨dst,.call ⟨.builtin .cap,#[x],#[t]⟩,ty,pos,after,g⟩ [(x,.prim (.slice none 0 0))] [] (.prim (.int .i64 0)) []:=
 .pure_ λm a hx _=>by
  have hx0:=(hx (x,.prim (.slice none 0 0)) (by simp)).prim;simp only at hx0;refine⟨_,?_,BM _⟩;rw[BQ];simp[builtin,Builtin.cap_,hx0,run_underlying (BU he),Sem.run_bind,Sem.run_pure,Result.andThen_ok,goInt]
theorem OpT.slice_nil_hi{k:IntKind}(he:CW P t=some te)(hsz:tSz P te=some sz):OpT P ⟨dst,.slice t x none (some y) none,ty,pos,after,g⟩ [(x,.prim (.slice none 0 0)),(y,.prim (.int k 0))] [] (.prim (.slice none 0 0)) []:=
 .pure_ λm a hx _=>by
  have hx0:=(hx (x,.prim (.slice none 0 0)) (by simp)).prim;have hy0:=(hx (y,.prim (.int k 0)) (by simp)).prim;simp only at hx0 hy0;have hr:=Dn (P:=P) (w:=m.w) he hsz (A:=none) (len:=0) (cap:=0) (lo:=0) (hi:=0) (vl:=none) (vh:=some (.int k 0)) (by simp) (by simp) (λu hu=>⟨k,by injection hu with hu;exact hu.symm⟩) (by simp) (by omega) (by omega);exact⟨_,by simp only[execOp,Option.map_none,Option.map_some,hx0,hy0,Sem.run_bind,hr,Result.andThen_ok];rfl,BM _⟩
theorem Good.less{o o':AO}{bs bs':List Nat}(G:Good m0 m N (((X,o),bs)::R) ex)(h:ORel m X o' bs')(hs:bs'.Sublist bs):Good m0 m N (((X,o'),bs')::R) ex:=by
 have hso:(Zs.own (((X,o'),bs')::R)++ex).Sublist (Zs.own (((X,o),bs)::R)++ex):=by
  simp only[BR];exact(hs.append (.refl _)).append (.refl _)
 refine⟨λz hz=>?_,G.own.sublist hso,λb hb=>G.blk b (hso.subset hb),G.frz,G.keys,G.keyN,G.usedN,G.le,G.os,G.tape,G.output,G.size⟩;rcases List.mem_cons.1 hz with rfl|hz
 ·exact h
 ·exact G.obj z (List.mem_cons_of_mem _ hz)
theorem St.shrink{nt:Nat}{st:St}(n:Nat)(hS:At st.S p (X,.row t sz l)):D8 nt st λst'=>st'=⟨st.T,st.S.set p (X,.row t sz (l.take n))⟩:=by
 rintro m0 a w ⟨m,N,Z,rfl,h2,h3,h4⟩;obtain⟨bs,hz⟩:=hS.z h2;obtain⟨R,hp1,hp2⟩:=Bd hz;have G:=h3.perm hp1;have hO:ORel m X (.row t sz l) bs:=G.obj _ (List.mem_cons_self ..);obtain⟨hU,L,hL,hLs,hO⟩:=hO
 obtain⟨bs',hs,ho⟩:∃bs',bs'.Sublist bs/\ORel m X (.row t sz (l.take n)) bs':=by
  rcases hO with⟨h1,rfl,rfl⟩|⟨h1,arr,b0,rfl,e1,e2,e3,e4,e5,e6⟩
  ·exact⟨[],.refl _,hU,L,hL,hLs,.inl ⟨h1,by simp,rfl⟩⟩
  ·obtain⟨p1,p2,e7,k1,k2⟩:=VCs.take e5 e6 (k:=min n l.length) (Nat.min_le_right _ _)
   have e8:l.take (min n l.length)=l.take n:=by rw[List.take_eq_take_iff];omega
   rw[e8]at k1;refine⟨L.blk::p1,by rw[e7];exact .cons_cons _ (List.sublist_append_left _ _),hU,L,hL,hLs,.inr ⟨h1,arr,p1,rfl,e1,e2,Nat.le_trans (by rw[Ah];exact Nat.min_le_right _ _) e3,e4,λe he=>e5 e (List.mem_of_mem_take he),?_⟩⟩;rw[List.take_take,Nat.min_eq_left (Nat.mul_le_mul_right _ (Nat.min_le_right _ _))]at k1;rw[Ah];exact k1
 exact⟨⟨st.T,st.S.set p (X,.row t sz (l.take n))⟩,⟨m,N,Z.set p ((X,.row t sz (l.take n)),bs'),rfl,by rw[List.map_set,h2],(G.less ho hs).perm (hp2 _).symm,h4⟩,rfl⟩
end
section
variable {P:Program}{nt:Nat}{c:Code}{ops:Array Oper}{rest:List Oper}{Q:Exit->St->Prop}{T:List (Nat×AV)}{S:List AC}{p n X sz off by_:Nat}{t te tx ty:TypeId}{l:List AV}{x y:Operand}{dst:Option Tmp}{pos:String}{after:Array Edge}{k:IntKind}{q:Int}{t':TypeId}
theorem AWP.shrink(n:Nat)(kk:AWP ro P nt c Q ⟨T,S.set p (X,.row t sz (l.take n))⟩)(hS:At S p (X,.row t sz l):=by exact At.f):AWP ro P nt c Q ⟨T,S⟩:=.ghost (St.shrink (st:=⟨T,S⟩) n hS) λst' e=>by subst e;exact kk
theorem W.slice_lo{c:Option (List Bool)}{g:Option (Nat×Bool)}{lo:Nat}{qi:Int}[TEl P t te][TSize P te sz](hx:Rd c T x (.sl X off n))(hy:Rd c T y (.prim (.int k qi)))(hSp:At S p (X,.row t' sz l))(hq:qi=(lo:Int))(hh:lo<=n):Stp c P ⟨dst,.slice t x (some y) none none,ty,pos,after,g⟩ T S [(x,.sl X off n),(y,.prim (.int k qi))] [(p,(X,.row t' sz l))] (.sl X (off+lo) (n-lo)) []:=⟨.slice_lo TEl.h TSize.h hq hh,.cons hx (.cons hy .nil),.cons hSp .nil⟩
theorem W.clear{c:Option (List Bool)}{g:Option (Nat×Bool)}{zl:List Value}{ag:Bool}[TEl P t te][TZe P te zl][TSize P te sz][TAg P te ag](hx:Rd c T x (.sl X off n))(hSp:At S p (X,.row te sz l))(hag:ag=true\/zl.length=1)(hzs:zl.length=sz)(hn:off+n<=l.length):Stp c P ⟨dst,.call ⟨.builtin .clear,#[x],#[t]⟩,ty,pos,after,g⟩ T S [(x,.sl X off n)] [(p,(X,.row te sz l))] (.tup []) [(p,(X,.row te sz (l.take off++List.replicate n (zAV zl ag)++l.drop (off+n))))]:=⟨.clear TEl.h TZe.h TSize.h hag hzs hn,.cons hx .nil,.cons hSp .nil⟩
theorem W.capN{c:Option (List Bool)}{g:Option (Nat×Bool)}[TEl P t te](hx:Rd c T x (.prim (.slice none 0 0))):Stp c P ⟨dst,.call ⟨.builtin .cap,#[x],#[t]⟩,ty,pos,after,g⟩ T S [(x,.prim (.slice none 0 0))] [] (.prim (.int .i64 0)) []:=⟨.cap_nil TEl.h,.cons hx .nil,.nil⟩
theorem Ui{c:Option (List Bool)}{g:Option (Nat×Bool)}[TEl P t te][TSize P te sz](hx:Rd c T x (.prim (.slice none 0 0)))(hy:Rd c T y (.prim (.int k 0))):Stp c P ⟨dst,.slice t x none (some y) none,ty,pos,after,g⟩ T S [(x,.prim (.slice none 0 0)),(y,.prim (.int k 0))] [] (.prim (.slice none 0 0)) []:=⟨.slice_nil_hi TEl.h TSize.h,.cons hx (.cons hy .nil),.nil⟩
theorem Qq{n:Nat}{zl:List Value}{ag:Bool}[TRo P t te sz by_][TZe P te zl][TAg P te ag](kk:∀X,AOps ro P nt ops Q rest ⟨AW T dst (.sl X 0 n),(X,.row te sz (List.replicate n (zAV zl ag)))::S⟩)(h0:0<n)(hb:n*by_<=140737488355328)(hx:Rd none T x (.prim (.slice none 0 0)):=by rfl)(hy:Rd none T y (.prim (.int k q)):=by rfl)(hq:q=(n:Int):=by first|with_reducible rfl|omega)(htx:Ro P tx=true:=by kernel_rfl)(hag:ag=true\/zl.length=1:=by first|exact .inl rfl|exact .inr rfl)(hzs:zl.length=sz:=by rfl)(hby:0<by_:=by decide)(hd:AU dst nt=true:=by rfl):AOps ro P nt ops Q (⟨dst,.call ⟨.builtin .append,#[x,y],#[t,tx]⟩,ty,pos,after,none⟩::rest) ⟨T,S⟩:=
 AOps.rs λX=>AOps.s (wS:=[(0,(X,.row te sz (List.replicate n (zAV zl ag))))]) ⟨.appz_nil TRo.h TZe.h hag hzs htx hq h0 hb hby,.cons hx (.cons hy .nil),.cons .here .nil⟩ hd (kk X)
theorem PK{a b:Operand}{t1 t2:TypeId}{st:St}{g:Option (Nat×Bool)}(kk:AOps ro P nt ops Q (⟨dst,.call ⟨.builtin .append,#[a,b],#[t1,t2]⟩,ty,pos,after,g⟩::rest) st):AOps ro P nt ops Q (⟨dst,.call ⟨.builtin .append,#[a,b],#[t1,t2]⟩,ty,pos,after,g⟩::rest) st:=kk
end
end
section
variable {ro:Option Nat}
inductive IceX(X n:Nat)(t:TypeId)(sz:Nat)(l':List AV):AV->AV->Prop
 |sl:IceX X n t sz l' (.sl X 0 n) (.lst false t sz l')
mutual
theorem Ic.imp{B B':AV->AV->Prop}(h:∀a b,B a b->B' a b):{a b:AV}->Ic B a b->Ic B' a b
 |_,_,.same=>.same
 |_,_,.base k=>.base (h _ _ k)
 |_,_,.agg k=>.agg (Ics.imp h k)
theorem Ics.imp{B B':AV->AV->Prop}(h:∀a b,B a b->B' a b):{a b:List AV}->Ics B a b->Ics B' a b
 |_,_,.nil=>.nil
 |_,_,.cons k ks=>.cons (Ic.imp h k) (Ics.imp h ks)
end
section
variable {P:Program}{nt:Nat}{c d:Code}{Q:Exit->St->Prop}{T:List (Nat×AV)}{S:List AC}{p q n X Y sz sz2:Nat}{t t2:TypeId}{l l2 l2':List AV}{st:St}
theorem AWP.iceX(X:Nat)(l':List AV)(he:AV.frzs l=l')(hI:Ics (IceX X n t sz l') l2 l2')(k:AWP ro P nt c Q ⟨T,(S.set p (X,.used)).set q (Y,.row t2 sz2 l2')⟩)(hS:At S p (X,.row t sz l):=by exact At.f)(hq:At S q (Y,.row t2 sz2 l2):=by exact At.f)(hpq:Nat.beq p q=false:=by rfl)(hn:n=l.length:=by first|rfl|assumption|omega|(simp;omega)|simp[*]):AWP ro P nt c Q ⟨T,S⟩:=by
 subst hn;refine AWP.iceIn hS hq hpq (hI.imp λa b h=>?_) k;cases h;have:AV.frzs ((l.drop 0).take l.length)=l':=by rw[List.drop_zero,List.take_length,he]
 rw[<-this];exact .sl (by omega)
theorem AOps.iceX{ops:Array Oper}{rest:List Oper}(X:Nat)(l':List AV)(he:AV.frzs l=l')(hI:Ics (IceX X n t sz l') l2 l2')(k:AOps ro P nt ops Q rest ⟨T,(S.set p (X,.used)).set q (Y,.row t2 sz2 l2')⟩)(hS:At S p (X,.row t sz l):=by exact At.f)(hq:At S q (Y,.row t2 sz2 l2):=by exact At.f)(hpq:Nat.beq p q=false:=by rfl)(hn:n=l.length:=by first|rfl|assumption|omega|(simp;omega)|simp[*]):AOps ro P nt ops Q rest ⟨T,S⟩:=by
 subst hn;refine AOps.iceIn hS hq hpq (hI.imp λa b h=>?_) k;cases h;have:AV.frzs ((l.drop 0).take l.length)=l':=by rw[List.drop_zero,List.take_length,he]
 rw[<-this];exact .sl (by omega)
end
inductive NilB(t:TypeId)(sz:Nat):AV->AV->Prop
 |nil:NilB t sz (.prim (.slice none 0 0)) (.lst false t sz [])
theorem St.nilIn{nt:Nat}{st:St}{q Y:Nat}{t2:TypeId}{sz2:Nat}{l2 l2':List AV}(t:TypeId)(sz:Nat)(hq:At st.S q (Y,.row t2 sz2 l2))(hI:Ics (NilB t sz) l2 l2'):D8 nt st λst'=>st'=⟨st.T,st.S.set q (Y,.row t2 sz2 l2')⟩:=by
 rintro m0 a w ⟨m,N,Z,rfl,h2,h3,h4⟩;obtain⟨bs,hz⟩:=hq.z h2;obtain⟨R,hp1,hp2⟩:=Bd hz;have G:=h3.perm hp1;have hO:ORel m Y (.row t2 sz2 l2) bs:=G.obj _ (List.mem_cons_self ..)
 have hO':=hI.orel (Mem.Le.refl m) (λL h=>h) (λa b h=>by cases h;rfl) (λa b h c bs k=>by
  cases h;obtain⟨⟨rfl,_⟩,rfl⟩:=k;exact⟨rfl,none,0,rfl,Nat.le_refl _,by simp,λh0=>by simp at h0⟩) rfl hO
 exact⟨⟨st.T,st.S.set q (Y,.row t2 sz2 l2')⟩,⟨m,N,Z.set q ((Y,.row t2 sz2 l2'),bs),rfl,by rw[List.map_set,h2],(GE (A:=[]) G hO').perm (hp2 _).symm,h4⟩,rfl⟩
theorem AWP.nilIn{P:Program}{nt:Nat}{c:Code}{Q:Exit->St->Prop}{T:List (Nat×AV)}{S:List AC}{q Y:Nat}{t2:TypeId}{sz2:Nat}{l2 l2':List AV}(t:TypeId)(sz:Nat)(hI:Ics (NilB t sz) l2 l2')(k:AWP ro P nt c Q ⟨T,S.set q (Y,.row t2 sz2 l2')⟩)(hq:At S q (Y,.row t2 sz2 l2):=by exact At.f):AWP ro P nt c Q ⟨T,S⟩:=
 .ghost (St.nilIn (st:=⟨T,S⟩) t sz hq hI) λst' e=>by subst e;exact k
theorem Uv{P:Program}{nt:Nat}{c d:Code}{Q:Exit->St->Prop}{st:St}{β:Type}(R:β->Prop)(inv:β->St)(h1:AWP ro P nt c (λe st'=>e= .normal/\∃b,R b/\st'.Le (inv b)) st)(h2:∀b,R b->AWP ro P nt d Q (inv b)):AWP ro P nt (.seq c d) Q st:=
 AWP.seq (h1.mono λe st' ⟨he,b,hb,hle⟩=>by subst he;exact AWP.weak hle (h2 b hb))
theorem jn{β:Type}{R:β->Prop}{inv:β->St}{st:St}(b:β)(hR:R b)(h0:st.Le (inv b):=by exact⟨by exact Lk.f,by exact Sub.f⟩):Exit.normal=Exit.normal/\∃b,R b/\st.Le (inv b):=⟨rfl,b,hR,h0⟩
theorem Bk{P:Program}{nt:Nat}{c d:Code}{Q Q2:Exit->St->Prop}{st:St}{β:Type}(R:β->Prop)(inv:β->St)(h1:AWP ro P nt c (λe st'=>e= .normal/\∃b,R b/\st'.Le (inv b)) st)(h2:∀b,R b->AWP ro P nt d Q (inv b)):AWP ro P nt c (andThen (AWP ro P nt d Q) Q2) st:=
 h1.mono λe st' ⟨he,b,hb,hle⟩=>by subst he;exact AWP.weak hle (h2 b hb)
theorem Spec.used{P:Program}{f:FuncId}{args:List AV}{X:Nat}{t:TypeId}{sz:Nat}{l:List AV}{r:AV}(h:Spec P f args [(X,.row t sz l)] λr' S'=>r'=r/\S'=[]):Spec P f args [(X,.row t sz l)] λr' S'=>r'=r/\S'=[(X,.used)]:=
 ⟨h.fn,λSf m N Z vals h1 h2 h3=>(h.run Sf m N Z vals h1 h2 h3).mono λe w' ⟨v,r',S',m',N',Z',br,a,b,hm,G,e',hr,hS⟩=>by
  subst hS;simp only[BD]at hm;cases Z with
  |nil=>simp at h1
  |cons z Zr=>
   simp only[List.map_cons,BF,BD,List.cons.injEq]at h1;obtain⟨hz,hzr⟩:=h1;have hO:=h2.obj z (by simp);rw[hz]at hO;have hU:m'.U X:=G.le.U X hO.1;have hk:∀Z1:Zs,Z1.keys=(Z1.map (·.1)).map (·.1):=λZ1=>by simp[Zs.keys]
   have hnk:X∉Z'.keys:=by
    have:=h2.keys;rw[Zs.keys,List.map_cons,List.nodup_cons]at this;rw[hk,hm,<-hzr,<-hk];have h0:=this.1;rw[hz]at h0;exact h0
   refine⟨v,r',[(X,.used)],m',N',((X,.used),[])::Z',br,a,b,by simp[hm],?_,e',hr,rfl⟩;refine⟨λq hq=>?_,by simpa[Zs.own]using G.own,by simpa[Zs.own]using G.blk,G.frz,List.nodup_cons.2 ⟨hnk,G.keys⟩,λx hx=>?_,G.usedN,G.le,G.os,G.tape,G.output,G.size⟩
   ·rcases List.mem_cons.1 hq with rfl|hq
    ·exact⟨rfl,hU⟩
    ·exact G.obj q hq
   ·rcases List.mem_cons.1 hx with rfl|hx
    ·exact G.usedN _ hU
    ·exact G.keyN x hx⟩
end
section
variable {ro:Option Nat}
theorem Hos.at{a b x y:AV}:{L:List AV}->{k:Nat}->L[k]?=some x->Ho a b x y->Hos a b L (L.set k y)
 |[],k,h,_=>by simp at h
 |z::L,0,h,hh=>by
  have:z=x:=by simpa using h
  subst this;exact .head hh
 |z::L,k+1,h,hh=>.tail (Hos.at (L:=L) (by simpa using h) hh)
theorem Ics.refl{B:AV->AV->Prop}:(L:List AV)->Ics B L L
 |[]=>.nil
 |_::L=>.cons .same (Ics.refl L)
theorem Ics.at{B:AV->AV->Prop}{x y:AV}:{L:List AV}->{k:Nat}->L[k]?=some x->Ic B x y->Ics B L (L.set k y)
 |[],k,h,_=>by simp at h
 |z::L,0,h,hh=>by
  have:z=x:=by simpa using h
  subst this;exact .cons hh (Ics.refl L)
 |z::L,k+1,h,hh=>.cons .same (Ics.at (L:=L) (by simpa using h) hh)
inductive NilO(t:TypeId)(sz:Nat):AV->AV->Prop
 |nil:NilO t sz (.prim (.slice none 0 0)) (.lst true t sz [])
theorem St.nilO{nt:Nat}{st:St}{q Y:Nat}{t2:TypeId}{sz2:Nat}{l2 l2':List AV}(t:TypeId)(sz:Nat)(hq:At st.S q (Y,.row t2 sz2 l2))(hI:Ics (NilO t sz) l2 l2'):D8 nt st λst'=>st'=⟨st.T,st.S.set q (Y,.row t2 sz2 l2')⟩:=by
 rintro m0 a w ⟨m,N,Z,rfl,h2,h3,h4⟩;obtain⟨bs,hz⟩:=hq.z h2;obtain⟨R,hp1,hp2⟩:=Bd hz;have G:=h3.perm hp1;have hO:ORel m Y (.row t2 sz2 l2) bs:=G.obj _ (List.mem_cons_self ..)
 have hO':=hI.orel (Mem.Le.refl m) (λL h=>h) (λa b h=>by cases h;rfl) (λa b h c bs k=>by
  cases h;obtain⟨⟨rfl,_⟩,rfl⟩:=k;exact .inl ⟨rfl,rfl,rfl⟩) rfl hO
 exact⟨⟨st.T,st.S.set q (Y,.row t2 sz2 l2')⟩,⟨m,N,Z.set q ((Y,.row t2 sz2 l2'),bs),rfl,by rw[List.map_set,h2],(GE (A:=[]) G hO').perm (hp2 _).symm,h4⟩,rfl⟩
section
variable {P:Program}{nt:Nat}{c:Code}{ops:Array Oper}{rest:List Oper}{Q:Exit->St->Prop}{T:List (Nat×AV)}{S:List AC}{p q n X Y sz sz2:Nat}{t t2:TypeId}{l l2 l2':List AV}{st:St}
theorem AOps.nilO(t:TypeId)(sz:Nat)(hI:Ics (NilO t sz) l2 l2')(k:AOps ro P nt ops Q rest ⟨T,S.set q (Y,.row t2 sz2 l2')⟩)(hq:At S q (Y,.row t2 sz2 l2):=by exact At.f):AOps ro P nt ops Q rest ⟨T,S⟩:=
 .ghost (St.nilO (st:=⟨T,S⟩) t sz hq hI) λst' e=>by subst e;exact k
theorem Qo(Y k:Nat){ll:List AV}(h:l2[k]?=some (.lst true t sz ll))(kk:∀X,AWP ro P nt c Q ⟨T,(X,.row t sz ll)::S.set q (Y,.row t2 sz2 (l2.set k (.sl X 0 ll.length)))⟩)(hq:At S q (Y,.row t2 sz2 l2):=by exact At.f):AWP ro P nt c Q ⟨T,S⟩:=
 AWP.thawIn hq (λX=>Hos.at h .here) kk
theorem Nt(X Y k:Nat){ll:List AV}(h:l2[k]?=some (.sl X 0 n))(kk:AOps ro P nt ops Q rest ⟨T,(S.set p (X,.used)).set q (Y,.row t2 sz2 (l2.set k (.lst true t sz ll)))⟩)(hS:At S p (X,.row t sz ll):=by exact At.f)(hq:At S q (Y,.row t2 sz2 l2):=by exact At.f)(hpq:Nat.beq p q=false:=by rfl)(hn:n=ll.length:=by first|rfl|assumption|omega|(simp;omega)|simp[*]):AOps ro P nt ops Q rest ⟨T,S⟩:=
 AOps.closeIn hS hq hpq hn (Hos.at h .here) kk
end
section
variable {P:Program}{dst:Option Tmp}{ty t ty2:TypeId}{pos:String}{after:Array Edge}{g:Option (Nat×Bool)}{T:List (Nat×AV)}{S:List AC}{c:Option (List Bool)}{x y:Operand}{i j:Int}
theorem Ax(k:Int)(h:i-j=k)(hr: -9223372036854775808<=k/\k<=9223372036854775807)(hx:Rd c T x (.prim (.int .i64 i)))(hy:Rd c T y (.prim (.int .i64 j))):Stp c P ⟨dst,.binOp .sub t x y ty2,ty,pos,after,g⟩ T S [(x,.prim (.int .i64 i)),(y,.prim (.int .i64 j))] [] (.prim (.int .i64 k)) []:=h▸W.sub hx hy (h▸hr)
theorem Bc(k:Int)(h:i+j=k)(hr: -9223372036854775808<=k/\k<=9223372036854775807)(hx:Rd c T x (.prim (.int .i64 i)))(hy:Rd c T y (.prim (.int .i64 j))):Stp c P ⟨dst,.binOp .add t x y ty2,ty,pos,after,g⟩ T S [(x,.prim (.int .i64 i)),(y,.prim (.int .i64 j))] [] (.prim (.int .i64 k)) []:=h▸W.add hx hy (h▸hr)
end
section
variable {P:Program}{dst:Option Tmp}{ty t ty2:TypeId}{pos:String}{after:Array Edge}{g:Option (Nat×Bool)}{T:List (Nat×AV)}{S:List AC}{c:Option (List Bool)}{x y:Operand}{a b:Bool}
end
end
section
section
variable {P:Program}{nt:Nat}{ops:Array Oper}{Q:Exit->St->Prop}{rest:List Oper}{T:List (Nat×AV)}{S:List AC}{op:Op}{ty:TypeId}{pos:String}{after:Array Edge}{dst:Option Tmp}{l:List Oper}{acc:List Eff}
abbrev noA:AV:=.opt false (.prim (.bool false))
theorem RGo.goNU{g:Nat}{b b':Bool}{t:Nat}(k:RGo P nt ops l Q rest (acc++[⟨⟨dst,op,ty,pos,after,some (g,b)⟩,[t],[],noA,[]⟩]) ⟨AW T dst noA,S⟩)(ht:(ops[g]?).bind (·.dst)=some t:=by rfl)(hv:Ab T t=some (.prim (.bool b')):=by rfl)(hb:b'= !b:=by first|rfl|assumption|(simp only[Bool.not_true,Bool.not_false];assumption))(hd:AU dst nt=true:=by rfl):RGo P nt ops l Q (⟨dst,op,ty,pos,after,some (g,b)⟩::rest) acc ⟨T,S⟩:=by
 have e:(b'==b)=false:=by rw[hb];cases b<;>rfl
 refine RGo.step_ (λr=>?_) k;have:=Run.stepQ (P:=P) (nt:=nt) (ops:=ops) (o:=⟨dst,op,ty,pos,after,some (g,b)⟩) (st:=⟨T,S⟩) (xs:=[]) (rS:=[]) (v:=.prim (.bool false)) (cs:=[]) rfl ht hv rfl (λh=>absurd (h (b'==b) (by simp)) (by rw[e];simp)) .nil .nil hd rfl (by rw[e];exact r);rw[e]at this;exact this
theorem RGo.goNV{g:Nat}{b b':Bool}{t:Nat}(k:RGo P nt ops l Q rest (acc++[⟨⟨dst,op,ty,pos,after,some (g,b)⟩,[t],[],.opt false (.opt (b'==b) (.prim (.bool false))),[]⟩]) ⟨AW T dst (.opt false (.opt (b'==b) (.prim (.bool false)))),S⟩)(ht:(ops[g]?).bind (·.dst)=some t:=by rfl)(hv:Ab T t=some (.opt false (.prim (.bool b'))):=by rfl)(hd:AU dst nt=true:=by rfl):RGo P nt ops l Q (⟨dst,op,ty,pos,after,some (g,b)⟩::rest) acc ⟨T,S⟩:=by
 refine RGo.step_ (λr=>?_) k;exact Run.stepQ (P:=P) (nt:=nt) (ops:=ops) (o:=⟨dst,op,ty,pos,after,some (g,b)⟩) (st:=⟨T,S⟩) (xs:=[]) (rS:=[]) (v:=.prim (.bool false)) (cs:=[false]) rfl ht hv rfl (λh=>absurd (h false (by simp)) (by simp)) .nil .nil hd rfl r
end
end
section
section
variable {P:Program}{dst:Option Tmp}{ty t ty2:TypeId}{pos:String}{after:Array Edge}{g:Option (Nat×Bool)}{T:List (Nat×AV)}{S:List AC}{c:Option (List Bool)}{x y:Operand}
theorem OpT.shr{k k':IntKind}{i j:Int}{n:Nat}(hj:j=(n:Int))(hn:n<=k.bits):OpT P ⟨dst,.binOp .shr t x y ty2,ty,pos,after,g⟩ [(x,.prim (.int k i)),(y,.prim (.int k' j))] [] (.prim (.int k (i.fdiv (2^n)))) []:=
 Bz rfl (λw=>by
  subst hj;have h:¬((n:Int)<0):=by omega
  simp[binOp,Op.shift,h,Sem.run_pure,Nat.min_eq_left hn]) (.inl ⟨by simp,by simp⟩)
theorem OpT.conv{k k' k0:IntKind}{i:Int}{t2:TypeId}(h1:P.underlying t=some (.int k0))(h2:P.underlying t2=some (.int k'))(hw:k'.wrap i=i):OpT P ⟨dst,.convert t t2 x,ty,pos,after,g⟩ [(x,.prim (.int k i))] [] (.prim (.int k' i)) []:=
 .pure_ λm a hx _=>by
  have e1:=(hx (x,.prim (.int k i)) (by simp)).prim;refine⟨.int k' i,?_,BM _ rfl⟩;simp only at e1;simp[execOp,e1,convert,run_underlying h1,run_underlying h2,Conv.intToInt,hw,Sem.run_bind,Sem.run_pure,Result.andThen_ok]
end
end
section
section
variable {P:Program}{dst:Option Tmp}{ty t ty2:TypeId}{pos:String}{after:Array Edge}{g:Option (Nat×Bool)}{T:List (Nat×AV)}{S:List AC}{c:Option (List Bool)}{x y:Operand}
theorem VCs.prims{m:Mem}:{us:List Value}->{c:List Value}->{bs:List Nat}->VCs m (us.map .prim) c bs->c=us/\bs=[]
 |[],_,_,⟨h,k⟩=>⟨h,k⟩
 |u::us,_,_,⟨c1,c2,b1,b2,e1,e2,⟨⟨h1,_⟩,h2⟩,h3⟩=>by
  obtain⟨r1,r2⟩:=VCs.prims h3;rw[e1,e2,h1,h2,r1,r2];exact⟨rfl,rfl⟩
theorem VV.aggP{m:Mem}{us:List Value}{l:List AV}{v:Value}(hl:l=us.map .prim)(h:VV m (.agg l) v []):v= .agg us.toArray:=by
 subst hl;obtain⟨cells,e,h⟩:=(show∃cells,v= .agg cells/\VCs m (us.map .prim) cells.toList []from h);rw[e]
 congr 1
 exact Array.toList_inj.1 (by simpa using h.prims.1)
theorem OpT.eqP{us vs:List Value}{l1 l2:List AV}{r:Bool}(h1:l1=us.map .prim)(h2:l2=vs.map .prim)(hg:P.eqGuardType P.depth t=false)(h:∀w,(binOp .eql t (.agg us.toArray) (.agg vs.toArray)).run P w= .ok (.bool r) w):OpT P ⟨dst,.binOp .eql t x y ty2,ty,pos,after,g⟩ [(x,.agg l1),(y,.agg l2)] [] (.prim (.bool r)) []:=
 .pure_ λm a hx _=>by
  have h1:=(hx (x,.agg l1) (by simp)).aggP h1;have h2:=(hx (y,.agg l2) (by simp)).aggP h2;refine⟨.bool r,?_,BM _ rfl⟩;simp only at h1 h2;simp[execOp,h1,h2,Sem.run_bind,Result.andThen_ok,run_eqGuard_agg _ _ _ _ _ _ _ hg,h]
theorem OpT.neP{us vs:List Value}{l1 l2:List AV}{r:Bool}(h1:l1=us.map .prim)(h2:l2=vs.map .prim)(hg:P.eqGuardType P.depth t=false)(h:∀w,(binOp .neq t (.agg us.toArray) (.agg vs.toArray)).run P w= .ok (.bool r) w):OpT P ⟨dst,.binOp .neq t x y ty2,ty,pos,after,g⟩ [(x,.agg l1),(y,.agg l2)] [] (.prim (.bool r)) []:=
 .pure_ λm a hx _=>by
  have h1:=(hx (x,.agg l1) (by simp)).aggP h1;have h2:=(hx (y,.agg l2) (by simp)).aggP h2;refine⟨.bool r,?_,BM _ rfl⟩;simp only at h1 h2;simp[execOp,h1,h2,Sem.run_bind,Result.andThen_ok,run_eqGuard_agg _ _ _ _ _ _ _ hg,h]
theorem W.eqP(us vs:List Value){l1 l2:List AV}{r:Bool}(hg:P.eqGuardType P.depth t=false)(h:∀w,(binOp .eql t (.agg us.toArray) (.agg vs.toArray)).run P w= .ok (.bool r) w)(hx:Rd c T x (.agg l1))(hy:Rd c T y (.agg l2))(h1:l1=us.map .prim:=by rfl)(h2:l2=vs.map .prim:=by rfl):
  Stp c P ⟨dst,.binOp .eql t x y ty2,ty,pos,after,g⟩ T S [(x,.agg l1),(y,.agg l2)] [] (.prim (.bool r)) []:=⟨.eqP h1 h2 hg h,.cons hx (.cons hy .nil),.nil⟩
theorem W.neP(us vs:List Value){l1 l2:List AV}{r:Bool}(hg:P.eqGuardType P.depth t=false)(h:∀w,(binOp .neq t (.agg us.toArray) (.agg vs.toArray)).run P w= .ok (.bool r) w)(hx:Rd c T x (.agg l1))(hy:Rd c T y (.agg l2))(h1:l1=us.map .prim:=by rfl)(h2:l2=vs.map .prim:=by rfl):
  Stp c P ⟨dst,.binOp .neq t x y ty2,ty,pos,after,g⟩ T S [(x,.agg l1),(y,.agg l2)] [] (.prim (.bool r)) []:=⟨.neP h1 h2 hg h,.cons hx (.cons hy .nil),.nil⟩
end
def W7(P:Program)(t:TypeId):Bool:=match(P.fieldsOf t).toList with
 |[f1,f2,f3]=>f1.name != "_" &&f2.name != "_" &&f3.name != "_" &&f1.offset==0&&f2.offset==1&&f3.offset==2&&(match P.underlying f1.type,P.underlying f2.type,P.underlying f3.type with|some .string,some (.int _),some (.int _)=>true|_,_,_=>false)
 |_=>false
theorem J6{P:Program}{t:TypeId}{k:IntKind}{xs:Array Value}{off:Nat}{v:Value}(ht:P.underlying t=some (.int k))(hx:xs[off]?=some v)(w:World):(part t xs off).run P w= .ok v w:=by
 simp[part,isAgg,run_underlying ht,hx,Sem.run_bind,Sem.run_pure,Result.andThen_ok]
theorem Pp{P:Program}{t:TypeId}{xs:Array Value}{off:Nat}{v:Value}(ht:P.underlying t=some .string)(hx:xs[off]?=some v)(w:World):(part t xs off).run P w= .ok v w:=by
 simp[part,isAgg,run_underlying ht,hx,Sem.run_bind,Sem.run_pure,Result.andThen_ok]
theorem UH{P:Program}{t:TypeId}(h1:P.underlying t=some (.struct (P.fieldsOf t)))(h2:P.stoodInHeld t=false)(h:W7 P t=true)(s s':ByteArray)(a b c d:Int)(w:World):
  (Op.equalIn 10000 t (.agg #[.string s,.int .i64 a,.int .i64 b]) (.agg #[.string s',.int .i64 c,.int .i64 d])).run P w= .ok (decide (s.toList=s'.toList)&&decide (a=c)&&decide (b=d)) w:=by
 rw[show(10000:Nat)=9999+1 from rfl,run_equalIn_agg w 9999 t _ _ h1 h2];unfold W7 at h;split at h
 ·rename_i f1 f2 f3 hf
  simp only[Bool.and_eq_true,bne_iff_ne,ne_eq,beq_iff_eq]at h;obtain⟨⟨⟨⟨⟨⟨n1,n2⟩,n3⟩,o1⟩,o2⟩,o3⟩,hu⟩:=h;split at hu
  ·rename_i k2 k3 u1 u2 u3
   have p1:∀(x:ByteArray) (y z:Int),(part f1.type #[.string x,.int .i64 y,.int .i64 z] f1.offset).run P w= .ok (.string x) w:=λx y z=>Pp u1 (by rw[o1];rfl) w
   have p2:∀(x:ByteArray) (y z:Int),(part f2.type #[.string x,.int .i64 y,.int .i64 z] f2.offset).run P w= .ok (.int .i64 y) w:=λx y z=>J6 u2 (by rw[o2];rfl) w
   have p3:∀(x:ByteArray) (y z:Int),(part f3.type #[.string x,.int .i64 y,.int .i64 z] f3.offset).run P w= .ok (.int .i64 z) w:=λx y z=>J6 u3 (by rw[o3];rfl) w
   have q1:∀x y:ByteArray,(Op.equalIn 9999 f1.type (.string x) (.string y)).run P w= .ok (x.toList==y.toList) w:=λx y=>run_equalIn_string (P:=P) w 9998 f1.type x y u1
   have q2:∀a c:Int,(Op.equalIn 9999 f2.type (.int .i64 a) (.int .i64 c)).run P w= .ok (a==c) w:=λa c=>run_equalIn_int (P:=P) w 9998 f2.type .i64 k2 a c u2
   have q3:∀a c:Int,(Op.equalIn 9999 f3.type (.int .i64 a) (.int .i64 c)).run P w= .ok (a==c) w:=λa c=>run_equalIn_int (P:=P) w 9998 f3.type .i64 k3 a c u3
   rw[hf];by_cases e1:s.toList=s'.toList
   ·by_cases e2:a=c
    ·by_cases e3:b=d
     ·simp[Op.eqFields,n1,n2,n3,Sem.run_bind,p1,p2,p3,q1,q2,q3,e1,e2,e3,Sem.run_pure,Sem.run_ite,Result.andThen_ok]
     ·simp[Op.eqFields,n1,n2,n3,Sem.run_bind,p1,p2,p3,q1,q2,q3,e1,e2,e3,Sem.run_pure,Sem.run_ite,Result.andThen_ok]
    ·simp[Op.eqFields,n1,n2,Sem.run_bind,p1,p2,q1,q2,e1,e2,Sem.run_pure,Sem.run_ite,Result.andThen_ok]
   ·simp[Op.eqFields,n1,Sem.run_bind,p1,q1,e1,Sem.run_pure,Sem.run_ite,Result.andThen_ok]
  ·cases hu
 ·cases h
def TD(P:Program)(t:TypeId):Bool:=match(P.fieldsOf t).toList with
 |[f1,f2]=>f1.name != "_" &&f2.name != "_" &&f1.offset==0&&f2.offset==1&&(match P.underlying f1.type,P.underlying f2.type with|some (.int _),some (.int _)=>true|_,_=>false)
 |_=>false
theorem DK{P:Program}{t:TypeId}{k:IntKind}{xs:Array Value}{off:Nat}{v:Value}(ht:P.underlying t=some (.int k))(hx:xs[off]?=some v)(w:World):(part t xs off).run P w= .ok v w:=by
 simp[part,isAgg,run_underlying ht,hx,Sem.run_bind,Sem.run_pure,Result.andThen_ok]
theorem Vo{P:Program}{t:TypeId}(h1:P.underlying t=some (.struct (P.fieldsOf t)))(h2:P.stoodInHeld t=false)(h:TD P t=true)(a b c d:Int)(w:World):(binOp .eql t (.agg #[.int .i64 a,.int .i64 b]) (.agg #[.int .i64 c,.int .i64 d])).run P w= .ok (.bool (decide (a=c)&&decide (b=d))) w:=by
 rw[run_eql_struct,show(10000:Nat)=9999+1 from rfl,run_equalIn_agg w 9999 t _ _ h1 h2];unfold TD at h;split at h
 ·rename_i f1 f2 hf
  simp only[Bool.and_eq_true,bne_iff_ne,ne_eq,beq_iff_eq]at h;obtain⟨⟨⟨⟨n1,n2⟩,o1⟩,o2⟩,hu⟩:=h;split at hu
  ·rename_i k1 k2 u1 u2
   have p1:∀x y:Int,(part f1.type #[.int .i64 x,.int .i64 y] f1.offset).run P w= .ok (.int .i64 x) w:=λx y=>DK u1 (by rw[o1];rfl) w
   have p2:∀x y:Int,(part f2.type #[.int .i64 x,.int .i64 y] f2.offset).run P w= .ok (.int .i64 y) w:=λx y=>DK u2 (by rw[o2];rfl) w
   have q1:∀a c:Int,(Op.equalIn 9999 f1.type (.int .i64 a) (.int .i64 c)).run P w= .ok (a==c) w:=λa c=>run_equalIn_int (P:=P) w 9998 f1.type .i64 k1 a c u1
   have q2:∀a c:Int,(Op.equalIn 9999 f2.type (.int .i64 a) (.int .i64 c)).run P w= .ok (a==c) w:=λa c=>run_equalIn_int (P:=P) w 9998 f2.type .i64 k2 a c u2
   rw[hf];by_cases e1:a=c
   ·by_cases e2:b=d
    ·simp[Op.eqFields,n1,n2,Sem.run_bind,p1,p2,q1,q2,e1,e2,Sem.run_pure,Sem.run_ite,Result.andThen_ok]
    ·simp[Op.eqFields,n1,n2,Sem.run_bind,p1,p2,q1,q2,e1,e2,Sem.run_pure,Sem.run_ite,Result.andThen_ok]
   ·simp[Op.eqFields,n1,Sem.run_bind,p1,q1,e1,Sem.run_pure,Sem.run_ite,Result.andThen_ok]
  ·cases hu
 ·cases h
end
section
open Go.RowKit
def FreeE(e:AV):Prop:=∀m c bs,VC m e c bs->bs=[]
def FreeL(l:List AV):Prop:=∀e∈l,FreeE e
theorem FreeL.vcs{l:List AV}(h:FreeL l){m:Mem}{c:List Value}{bs:List Nat}(k:VCs m l c bs):bs=[]:=by
 induction l generalizing c bs with
 |nil=>exact k.2
 |cons e l ih=>
  simp only[VCs]at k;obtain⟨c1,c2,b1,b2,_,rfl,h1,h2⟩:=k;rw[h e (by simp) _ _ _ h1,ih (λx hx=>h x (by simp[hx])) h2];rfl
theorem FreeL.sub{l l':List AV}(h:FreeL l)(hs:∀e∈l',e∈l):FreeL l':=λe he=>h e (hs e he)
theorem FreeE.agg{us:List AV}(h:FreeL us):FreeE (.agg us):=λm c bs k=>h.vcs (show VCs m us c bs from k)
theorem FreeE.prim(u:Value):FreeE (.prim u):=λm c bs k=>by
 simp only[VC]at k;exact k.2
section
variable {m0 m:Mem}{N:Nat}{X sz:Nat}{t:TypeId}{l:List AV}{R:Zs}{ex:List Nat}
theorem Good.over{bs:List Nat}(G:Good m0 m N (((X,.row t sz l),bs)::R) ex){L:Loc}{arr:Array Value}{bs0:List Nat}(hL:m.μ X=some L)(hnil:L.isNil=false)(hbs:bs=L.blk::bs0)(hb:m.w.heap[L.blk]?=some (.cells arr t (0,0)))(harr:arr.size=L.cap*sz)(hl:l.length<=L.cap)(hcap:L.cap<=maxLen)(hsz:L.sz=sz)(hw:∀e∈l,e.width=sz)
  (hv:VCs m l (arr.toList.take (l.length*sz)) bs0) (hfr:FreeL l) {off:Nat} {ns:List AV} {cs:List Value} (hoff:off<=l.length) (hend:off+ns.length<=L.cap) (hnw:∀e∈ns,e.width=sz) (hn:VCs m ns cs []):
  Good m0 {m with w:=m.w.setRow L.blk (arr.toList.take (off*sz)++cs++arr.toList.drop (off*sz+cs.length)).toArray} N (((X,.row t sz (l.take off++ns++l.drop (off+ns.length))),[L.blk])::R) ex/\m.Le {m with w:=m.w.setRow L.blk (arr.toList.take (off*sz)++cs++arr.toList.drop (off*sz+cs.length)).toArray}:=by
 have hcs:cs.length=ns.length*sz:=by rw[VCs.len _ hn,B7 hnw]
 obtain rfl:=hfr.vcs hv;obtain⟨p1,p2,e1,h1,h2⟩:=VCs.take hw hv (k:=off) hoff;obtain rfl:=(hfr.sub λe he=>List.mem_of_mem_take he).vcs h1;obtain rfl:p2=[]:=by simpa using e1.symm
 have h4:VCs m (l.drop (off+ns.length)) (((arr.toList.take (l.length*sz)).drop (off*sz)).drop (ns.length*sz)) []:=by
  by_cases hk:off+ns.length<=l.length
  ·obtain⟨p3,p4,e2,h3,h4⟩:=VCs.take (l:=l.drop off) (λe he=>hw e (List.mem_of_mem_drop he)) h2 (k:=ns.length) (by rw[Bh];omega)
   rw[List.drop_drop]at h4;have:=(hfr.sub λe he=>List.mem_of_mem_drop he).vcs h4;rw[this]at h4;exact h4
  ·have hz:l.length*sz<=off*sz+ns.length*sz:=by rw[<-Nat.add_mul];exact Nat.mul_le_mul_right _ (by omega)
   rw[List.drop_of_length_le (by omega),List.drop_drop,List.drop_of_length_le (by rw[Ah];omega)];exact⟨rfl,rfl⟩
 have hsz0:l.length*sz<=arr.toList.length:=by rw[show arr.toList.length=arr.size from Array.length_toList,harr];exact Nat.mul_le_mul_right _ hl
 have hle1:off*sz+ns.length*sz<=arr.toList.length:=by rw[<-Nat.add_mul,show arr.toList.length=arr.size from Array.length_toList,harr];exact Nat.mul_le_mul_right _ hend
 have hol:off*sz<=l.length*sz:=Nat.mul_le_mul_right _ hoff;have hlen:(l.take off++ns++l.drop (off+ns.length)).length=max l.length (off+ns.length):=by simp only[AL,Ah,Bh];omega
 refine Good.write G hL hnil hbs hb (l':=l.take off++ns++l.drop (off+ns.length)) (bs1:=[]) ?_ (by rw[hlen];omega) hcap hsz ?_ ?_ (by simp) (by simp) _ rfl
 ·simp only[List.size_toArray,AL,Ah,Bh,Array.length_toList,harr]at hsz0 hle1⊢
  omega
 ·intro e he
  rcases List.mem_append.1 he with he|he
  ·rcases List.mem_append.1 he with he|he
   ·exact hw e (List.mem_of_mem_take he)
   ·exact hnw e he
  ·exact hw e (List.mem_of_mem_drop he)
 ·rw[hlen]
  have e3:(arr.toList.take (off*sz)++cs++arr.toList.drop (off*sz+cs.length)).take (max l.length (off+ns.length)*sz)=(arr.toList.take (l.length*sz)).take (off*sz)++cs++((arr.toList.take (l.length*sz)).drop (off*sz)).drop (ns.length*sz):=by
   have hm2:off*sz+ns.length*sz<=max l.length (off+ns.length)*sz:=by rw[<-Nat.add_mul];exact Nat.mul_le_mul_right _ (by omega)
   rw[List.take_append,List.take_of_length_le (by simp only[AL,Ah];omega)]
   congr 1
   ·rw[List.take_take,Nat.min_eq_left hol]
   ·rw[List.drop_drop,hcs,List.drop_take]
    simp only[AL,Ah];rw[Nat.min_eq_left (by omega),hcs];by_cases hk:off+ns.length<=l.length
    ·rw[Nat.max_eq_left hk]
    ·have hz:l.length*sz<=off*sz+ns.length*sz:=by rw[<-Nat.add_mul];exact Nat.mul_le_mul_right _ (by omega)
     rw[Nat.max_eq_right (by omega),Nat.add_mul,Nat.sub_self,Nat.sub_eq_zero_of_le (by omega)]
  rw[show(arr.toList.take (off*sz)++cs++arr.toList.drop (off*sz+cs.length)).toArray.toList=arr.toList.take (off*sz)++cs++arr.toList.drop (off*sz+cs.length)from rfl,e3];exact(h1.append hn).append h4
theorem J0{Y:Nat}{l2:List AV}{t2:TypeId}{bs2:List Nat}{vy:Value}{i b k:Nat}(hO:ORel m Y (.row t2 sz l2) bs2)(hy:VV m (.sl Y i b) vy [])(hb:0<b)(hfr:FreeL l2)(hi:i+k<=l2.length):∃A2 q2 cs,vy= .slice (some A2) b q2/\VCs m ((l2.drop i).take k) cs []/\cs.length=k*sz/\∀j v,cs[j]?=some v->m.w.cell? (A2.add j)=some v:=by
 obtain⟨hU,L,hL,hLs,hO⟩:=hO;obtain⟨_,hU',A,q,e1,hs⟩:=hy;injection e1 with e1
 subst e1;rcases hs L hL with⟨h5,e2,e3,e4⟩|⟨h5,h6,o,h7,h8⟩
 ·omega
 ·rcases hO with⟨h9,_⟩|⟨hnil,arr,bs',rfl,hb2,harr,hlc,hcap,hw,hv⟩
  ·rw[h5]at h9;cases h9
  ·have ho:=h8 (.inl (by omega))
   injection h7 with h7 h9 h10
   subst h7;obtain⟨p1,p2,e5,h11,h12⟩:=VCs.take hw hv (k:=i) (by omega);obtain⟨p3,p4,e6,h13,h14⟩:=VCs.take (l:=l2.drop i) (λe he=>hw e (List.mem_of_mem_drop he)) h12 (k:=k) (by rw[Bh];omega);have h15:=(hfr.sub λe he=>List.mem_of_mem_drop (List.mem_of_mem_take he)).vcs h13;rw[h15]at h13;have hsz0:l2.length*sz<=arr.toList.length:=by rw[show arr.toList.length=arr.size from Array.length_toList,harr];exact Nat.mul_le_mul_right _ hlc
   have hle:i*sz+k*sz<=l2.length*sz:=by rw[<-Nat.add_mul];exact Nat.mul_le_mul_right _ hi
   refine⟨_,q,_,rfl,h13,?_,λj v hj=>?_⟩
   ·simp only[Ah,Bh];omega
   ·rw[EX,ho,hLs]
    rw[List.getElem?_take]at hj;split at hj
    ·rw[List.getElem?_drop,List.getElem?_take]at hj
     split at hj
     ·simp only[World.cell?,hb2]
      rw[<-Array.getElem?_toList];exact hj
     ·cases hj
    ·cases hj
theorem Mf{P:Program}{tt te ty:TypeId}{Z:Zs}{p:Nat}{bs:List Nat}{vx:Value}{j a b q2:Nat}(G:Good m0 m N Z [])(hz:Z[p]?=some ((X,.row t sz l),bs))(hx:VV m (.sl X j a) vx [])(ha:0<a)(hj:j<=l.length)(hfr:FreeL l)(he:CW P tt=some te)(hs:tSz P te=some sz)
  {ns:List AV} {cs:List Value} (hns:∀e∈ns,e.width=sz) (hcs:VCs m ns cs []) (hk:ns.length=min b a) {A2:Addr} (hsrc:∀j v,cs[j]?=some v->m.w.cell? (A2.add j)=some v):
  ∃m' b',(Builtin.copy_ #[tt,tt] ty #[vx,.slice (some A2) b q2]).run P m.w= .ok (goInt ns.length) m'.w/\Good m0 m' N (Z.set p ((X,.row t sz (l.take j++ns++l.drop (j+ns.length))),b')) []/\m.Le m':=by
 obtain⟨R,hp1,hp2⟩:=Bd hz;have G1:=G.perm hp1;have hO:=G1.obj _ (List.mem_cons_self ..);obtain⟨hU,L,hL,hLs,hO⟩:=hO;obtain⟨_,hU',A,q,e1,hsl⟩:=hx;injection e1 with e1
 subst e1;rcases hsl L hL with⟨h5,e2,e3,e4⟩|⟨h5,h6,o,h7,h8⟩
 ·omega
 ·rcases hO with⟨h9,_⟩|⟨hnil,arr,bs',rfl,hb2,harr,hlc,hcap,hw,hv⟩
  ·rw[h5]at h9;cases h9
  ·have ho:=h8 (.inl (by omega))
   injection h7 with h7 h9 h10
   subst h7;have hcl:cs.length=ns.length*sz:=by rw[VCs.len _ hcs,B7 hns]
   have hle:j+ns.length<=L.cap:=by omega
   have hfit:j*sz+cs.length<=arr.size:=by rw[hcl,harr,<-Nat.add_mul];exact Nat.mul_le_mul_right _ hle
   obtain⟨G2,hle2⟩:=Good.over G1 hL h5 rfl hb2 harr hlc hcap hLs hw hv hfr hj hle hns hcs;refine⟨_,[L.blk],?_,G2.perm (hp2 _).symm,hle2⟩;have hl:=run_loadCells_list (P:=P) m.w A2 cs hsrc;have hst:=run_storeCells_at P L.blk (j*sz) t cs 0 arr m.w hb2 (by simpa using hfit) (VCs.ones _ hcs);have hu:=BU he;unfold tSz at hs;rw[ho,hLs];have hkk:Nat.min b a=ns.length:=hk.symm;cases hq:P.info? te with
   |none=>rw[hq]at hs;cases hs
   |some i=>
    rw[hq]at hs;injection hs with hs
    rw[hcl]at hl;simp[Builtin.copy_,run_underlying hu,Builtin.lenOf,Builtin.firstCells,sizeOf,typeInfo,hq,hs,hkk,hl,hst]
end
section
variable {P:Program}{dst:Option Tmp}{ty t te t2:TypeId}{pos:String}{after:Array Edge}{g:Option (Nat×Bool)}{x y:Operand}{p q r sz X Y Z:Nat}{l l2:List AV}
theorem TJ{α:Type}{S:List α}{p:Nat}{z:α}(h:S[p]?=some z):S.set p z=S:=by
 obtain⟨h5,h6⟩:=List.getElem?_eq_some_iff.1 h;have h7:=List.set_getElem_self h5;rw[h6]at h7;exact h7
theorem OpT.copyO{j a i b:Nat}(k:Nat)(he:CW P t=some te)(hsz:tSz P te=some sz)(ha:0<a)(hb:0<b)(hk:k=min b a)(hj:j<=l.length)(hi:i+k<=l2.length)(hfr:FreeL l)(hfr2:FreeL l2)(hw2:∀e∈l2,e.width=sz)(hpq:p≠q):
  OpT P ⟨dst,.call ⟨.builtin .copy,#[x,y],#[t,t]⟩,ty,pos,after,g⟩ [(x,.sl X j a),(y,.sl Y i b)] [(p,(X,.row te sz l)),(q,(Y,.row te sz l2))] (.prim (.int .i64 k)) [(p,(X,.row te sz (l.take j++(l2.drop i).take k++l.drop (j+k))))]:=by
 intro nt m0 T S ac w hx hS hd hr;obtain⟨m,N,W,rfl,h2,h3,h4⟩:=hr;have h2':W.map (·.1)=S:=h2;have hxa:VV m (.sl X j a) (ac.eval x) []:=h4.ev (hx (x,.sl X j a) (by simp));have hya:VV m (.sl Y i b) (ac.eval y) []:=h4.ev (hx (y,.sl Y i b) (by simp));have hSp:=hS (p,(X,.row te sz l)) (by simp);have hSq:=hS (q,(Y,.row te sz l2)) (by simp);rw[<-h2',AG]at hSp hSq;cases hz:W[p]? with
 |none=>rw[hz]at hSp;cases hSp
 |some z=>
 cases hzq:W[q]? with
 |none=>rw[hzq]at hSq;cases hSq
 |some zq=>
  rw[hz]at hSp;rw[hzq]at hSq;simp only[Option.map_some,Option.some.injEq]at hSp hSq;obtain⟨z1,bs⟩:=z;obtain⟨zq1,bsq⟩:=zq;simp only at hSp hSq;subst hSp hSq;obtain⟨A2,q2,cs,e1,hcs,hcl,hsrc⟩:=J0 (h3.obj _ (Ao hzq)) hya hb hfr2 hi;have hkl:((l2.drop i).take k).length=k:=by rw[Ah,Bh];omega
  obtain⟨m',b',hrun,G',hle⟩:=Mf (ty:=ty) (q2:=q2) h3 hz hxa ha hj hfr he hsz (ns:=(l2.drop i).take k) (λe he=>hw2 e (List.mem_of_mem_drop (List.mem_of_mem_take he))) hcs (b:=b) (by rw[hkl];exact hk) hsrc;rw[hkl]at hrun G';unfold Oper.wp;rw[BQ];simp only[builtin,List.map_toArray,List.map_cons,List.map_nil,e1,Sem.run_bind,hrun,Result.andThen_ok,Sem.run_pure];refine⟨m',N,_,rfl,?_,G',(h4.mono hle).put hd (BM _)⟩;rw[List.map_set,h2'];rfl
theorem OpT.copyS{j a i b:Nat}(k:Nat)(he:CW P t=some te)(hsz:tSz P te=some sz)(ha:0<a)(hb:0<b)(hk:k=min b a)(hj:j<=l.length)(hi:i+k<=l.length)(hfr:FreeL l)(hw2:∀e∈l,e.width=sz):
  OpT P ⟨dst,.call ⟨.builtin .copy,#[x,y],#[t,t]⟩,ty,pos,after,g⟩ [(x,.sl X j a),(y,.sl X i b)] [(p,(X,.row te sz l))] (.prim (.int .i64 k)) [(p,(X,.row te sz (l.take j++(l.drop i).take k++l.drop (j+k))))]:=by
 intro nt m0 T S ac w hx hS hd hr;obtain⟨m,N,W,rfl,h2,h3,h4⟩:=hr;have h2':W.map (·.1)=S:=h2;have hxa:VV m (.sl X j a) (ac.eval x) []:=h4.ev (hx (x,.sl X j a) (by simp));have hya:VV m (.sl X i b) (ac.eval y) []:=h4.ev (hx (y,.sl X i b) (by simp));have hSp:=hS (p,(X,.row te sz l)) (by simp);rw[<-h2',AG]at hSp;cases hz:W[p]? with
 |none=>rw[hz]at hSp;cases hSp
 |some z=>
  rw[hz]at hSp;simp only[Option.map_some,Option.some.injEq]at hSp;obtain⟨z1,bs⟩:=z;simp only at hSp;subst hSp;obtain⟨A2,q2,cs,e1,hcs,hcl,hsrc⟩:=J0 (h3.obj _ (Ao hz)) hya hb hfr hi;have hkl:((l.drop i).take k).length=k:=by rw[Ah,Bh];omega
  obtain⟨m',b',hrun,G',hle⟩:=Mf (ty:=ty) (q2:=q2) h3 hz hxa ha hj hfr he hsz (ns:=(l.drop i).take k) (λe he=>hw2 e (List.mem_of_mem_drop (List.mem_of_mem_take he))) hcs (b:=b) (by rw[hkl];exact hk) hsrc;rw[hkl]at hrun G';unfold Oper.wp;rw[BQ];simp only[builtin,List.map_toArray,List.map_cons,List.map_nil,e1,Sem.run_bind,hrun,Result.andThen_ok,Sem.run_pure];refine⟨m',N,_,rfl,?_,G',(h4.mono hle).put hd (BM _)⟩;rw[List.map_set,h2'];rfl
def Ga(X c:Nat)(u0:Value):AV->Value->Prop:=λv u=>v= .sl X 0 c/\u=u0
def L4(c:Nat)(u0:Value):Prop:=∃A,u0= .slice A c c
theorem Ng{m:Mem}{c:Nat}{u0:Value}{bs:List Nat}{L:Loc}(hc:L4 c u0)(h:ORel m Z (.tv (Ga X c u0)) bs)(hL:m.μ X=some L):(L.isNil=true/\c=0)\/(L.isNil=false/\c=L.cap):=by
 obtain⟨_,_,h⟩:=h;obtain⟨A,rfl⟩:=hc;obtain⟨_,_,A',q,e1,hs⟩:=h _ _ ⟨rfl,rfl⟩;injection e1 with e1
 injection e1 with e2 e3 e4
 subst e2 e4;rcases hs L hL with⟨h5,_,_,h6⟩|⟨h5,h6,o,h7,_⟩
 ·exact .inl ⟨h5,h6⟩
 ·injection h7 with _ _ h8
  exact .inr ⟨h5,by omega⟩
theorem OpT.cap{n c:Nat}{u0:Value}(he:CW P t=some te)(hc:L4 c u0):OpT P ⟨dst,.call ⟨.builtin .cap,#[x],#[t]⟩,ty,pos,after,g⟩ [(x,.sl X 0 n)] [(p,(X,.row te sz l)),(q,(Z,.tv (Ga X c u0)))] (.prim (.int .i64 c)) []:=
 .pure_ λm a hx hS=>by
  obtain⟨bs,hO⟩:=hS (p,(X,.row te sz l)) (by simp);obtain⟨bs2,hO2⟩:=hS (q,(Z,.tv (Ga X c u0))) (by simp);obtain⟨hU,L,hL,hLs,_⟩:=hO;have hcl:=Ng hc hO2 hL;obtain⟨_,hU',A,d,e1,hs⟩:=hx (x,.sl X 0 n) (by simp);injection e1 with e1
  simp only at e1
  have hd:d=c:=by
   rcases hs L hL with⟨h5,e2,_,h6⟩|⟨h5,h6,o,h7,_⟩
   ·injection e2 with _ _ e3
    rcases hcl with⟨_,h⟩|⟨h,_⟩
    ·omega
    ·rw[h5]at h;cases h
   ·injection h7 with _ _ h8
    rcases hcl with⟨h,_⟩|⟨_,h⟩
    ·rw[h5]at h;cases h
    ·omega
  subst hd;refine⟨_,?_,BM (.int .i64 d)⟩;rw[BQ];simp[builtin,Builtin.cap_,e1,run_underlying (BU he),Sem.run_bind,Sem.run_pure,Result.andThen_ok,goInt]
theorem OpT.slice_cap{k:IntKind}{n c hi:Nat}{qi:Int}{u0:Value}(he:CW P t=some te)(hsz:tSz P te=some sz)(hc:L4 c u0)(hq:qi=(hi:Int))(hh:hi<=c):OpT P ⟨dst,.slice t x none (some y) none,ty,pos,after,g⟩ [(x,.sl X 0 n),(y,.prim (.int k qi))] [(p,(X,.row te sz l)),(q,(Z,.tv (Ga X c u0)))] (.sl X 0 hi) []:=
 .pure_ λm a hx hS=>by
  obtain⟨bs,hO⟩:=hS (p,(X,.row te sz l)) (by simp);obtain⟨bs2,hO2⟩:=hS (q,(Z,.tv (Ga X c u0))) (by simp);obtain⟨hU,L,hL,hLs,_⟩:=hO;have hcl:=Ng hc hO2 hL;obtain⟨_,hU',A,d,e1,hs⟩:=hx (x,.sl X 0 n) (by simp);have hy:=(hx (y,.prim (.int k qi)) (by simp)).prim;injection e1 with e1
  simp only at e1 hy;subst hq;rcases hs L hL with⟨h5,e2,_,h6⟩|⟨h5,h6,o,h7,h8⟩
  ·have hc0:c=0:=by
    rcases hcl with⟨_,h⟩|⟨h,_⟩
    ·exact h
    ·rw[h5]at h;cases h
   injection e2 with e2 e3 e4
   subst e2 e4;obtain rfl:hi=0:=by omega
   have hr:=Dn (P:=P) (w:=m.w) he hsz (A:=none) (len:=n) (cap:=0) (lo:=0) (hi:=0) (vl:=none) (vh:=some (.int k 0)) (by simp) (by simp) (λu hu=>⟨k,by injection hu with hu;exact hu.symm⟩) (by simp) (by omega) (by omega);refine⟨_,by simp only[execOp,Option.map_none,Option.map_some,e1,hy,Sem.run_bind,Int.natCast_zero,hr,Result.andThen_ok];rfl,rfl,hU',_,_,rfl,λL' hL'=>?_⟩;rw[hL]at hL';injection hL' with hL';subst hL'
   exact .inl ⟨h5,by simp,rfl,rfl⟩
  ·have hcc:c=L.cap:=by
    rcases hcl with⟨h,_⟩|⟨_,h⟩
    ·rw[h5]at h;cases h
    ·exact h
   injection h7 with e4 e5 e6
   subst e4 e6;have hr:=Dn (P:=P) (w:=m.w) he hsz (A:=some ⟨L.blk,o,none⟩) (len:=n) (cap:=L.cap-0) (lo:=0) (hi:=hi) (vl:=none) (vh:=some (.int k hi)) (by simp) (by simp) (λu hu=>⟨k,by injection hu with hu;exact hu.symm⟩) (by simp) (by omega) (by omega);refine⟨_,by simp only[execOp,Option.map_none,Option.map_some,e1,hy,Sem.run_bind,hr,Result.andThen_ok];rfl,rfl,hU',_,_,rfl,λL' hL'=>?_⟩;rw[hL]at hL';injection hL' with hL';subst hL'
   refine .inr ⟨h5,by omega,o,?_,h8⟩;simp only[Nat.zero_mul,Nat.sub_zero];split
   ·rfl
   ·rw[EX,Nat.add_zero]
end
section
variable {ro:Option Nat}{P:Program}{nt p sz X:Nat}{t:TypeId}{l:List AV}
theorem St.capN{st:St}(hS:At st.S p (X,.row t sz l)):D8 nt st λst'=>∃Z c u0,L4 c u0/\l.length<=c/\st'=⟨st.T,(Z,.tv (Ga X c u0))::st.S⟩:=by
 rintro m0 a w ⟨m,N,W,rfl,h2,h3,h4⟩;have hSp:=hS.get;rw[<-show W.map (·.1)=st.S from h2,AG]at hSp;cases hz:W[p]? with
 |none=>rw[hz]at hSp;cases hSp
 |some z=>
  rw[hz]at hSp;simp only[Option.map_some,Option.some.injEq]at hSp;obtain⟨z1,bs⟩:=z;simp only at hSp;subst hSp;obtain⟨hU,L,hL,hLs,hO⟩:=h3.obj _ (Ao hz)
  obtain⟨c,u0,hcv,hlc,hvv⟩:∃c u0,L4 c u0/\l.length<=c/\VV m (.sl X 0 c) u0 []:=by
   rcases hO with⟨h5,h6,_⟩|⟨h5,arr,bs',_,_,_,h6,_⟩
   ·refine⟨0,.slice none 0 0,⟨none,rfl⟩,by rw[h6];simp,rfl,hU,_,_,rfl,λL' hL'=>?_⟩
    rw[hL]at hL';injection hL' with hL';subst hL'
    exact .inl ⟨h5,rfl,rfl,rfl⟩
   ·refine⟨L.cap,.slice (some ⟨L.blk,0,none⟩) L.cap L.cap,⟨_,rfl⟩,h6,rfl,hU,_,_,rfl,λL' hL'=>?_⟩
    rw[hL]at hL';injection hL' with hL';subst hL'
    exact .inr ⟨h5,by omega,0,by simp,λ_=>by simp⟩
  obtain⟨G',hle⟩:=h3.note (Ga X c u0) (λv u h=>by rw[h.1,h.2];exact hvv) _ rfl;exact⟨⟨st.T,(N,.tv (Ga X c u0))::st.S⟩,⟨{m with U:=λy=>m.U y\/y=N},N+1,_,rfl,by rw[List.map_cons,show W.map (·.1)=st.S from h2],G',h4.mono hle⟩,N,c,u0,hcv,hlc,rfl⟩
theorem AWP.cap{cd:Code}{Q:Exit->St->Prop}{T:List (Nat×AV)}{S:List AC}(X:Nat)(k:∀Z c u0,L4 c u0->l.length<=c->AWP ro P nt cd Q ⟨T,(Z,.tv (Ga X c u0))::S⟩)(hS:At S p (X,.row t sz l):=by exact At.f):AWP ro P nt cd Q ⟨T,S⟩:=.ghost (St.capN hS) (by rintro _ ⟨Z,c,u0,h1,h2,rfl⟩;exact k Z c u0 h1 h2)
end
end
section
open Go.RowKit
section
variable {P:Program}{dst:Option Tmp}{ty t te tx:TypeId}{pos:String}{after:Array Edge}{g:Option (Nat×Bool)}{x y:Operand}{p q r sz X Y Z:Nat}{l:List AV}
theorem OpT.appz_grow{kq:IntKind}{qi:Int}{i k c by_:Nat}{u0:Value}{zl:List Value}{ag:Bool}(T:N0 P t=some (te,sz,by_))(hz:tZ P te=some zl)(hag:ag=true\/zl.length=1)(hzs:zl.length=sz)(htx:Ro P tx=true)(hq:qi=(k:Int))(h0:0<k)(hb:(i+k)*by_<=140737488355328)(hby:0<by_)
  (hc:L4 c u0) (hroom:c<i+k) (hi:i<=l.length) (hfr:FreeL l):
  OpT P ⟨dst,.call ⟨.builtin .append,#[x,y],#[t,tx]⟩,ty,pos,after,g⟩ [(x,.sl X 0 i),(y,.prim (.int kq qi))] [(p,(X,.row te sz l)),(q,(Z,.tv (Ga X c u0))),(r,(Y,.gone))] (.sl Y 0 (i+k)) [(r,(Y,.row te sz (l.take i++List.replicate k (zAV zl ag))))]:=by
 subst hq;obtain⟨inf,z,ht,hti,hiz,h3,h4,hzs',hsz⟩:=IN T;obtain⟨i',zv,hi',hzv,hzl,ho⟩:=Gk hz;rw[hti]at hi';injection hi' with hi'
 subst hi';rw[hiz]at hzv;injection hzv with hzv
 subst hzv;obtain⟨kk,hk⟩:=L8 htx;have hnm:i+k<=140737488355328:=Nat.le_trans (Nat.le_mul_of_pos_right _ hby) hb;intro nt m0 T0 S a w hx hS hd hr;obtain⟨m,N,W,rfl,h2,h5,h6⟩:=hr;have h2':W.map (·.1)=S:=h2;have hxa:VV m (.sl X 0 i) (a.eval x) []:=h6.ev (hx (x,.sl X 0 i) (by simp));have hya:=(h6.ev (hx (y,.prim (.int kq (k:Int))) (by simp))).prim;simp only at hya;have hSp:=hS (p,(X,.row te sz l)) (by simp);have hSq:=hS (q,(Z,.tv (Ga X c u0))) (by simp);have hSr:=hS (r,(Y,.gone)) (by simp);rw[<-h2',AG]at hSp hSq hSr;cases hzp:W[p]? with
 |none=>rw[hzp]at hSp;cases hSp
 |some zp=>
 cases hzq:W[q]? with
 |none=>rw[hzq]at hSq;cases hSq
 |some zq=>
 cases hzr:W[r]? with
 |none=>rw[hzr]at hSr;cases hSr
 |some zr=>
  rw[hzp]at hSp;rw[hzq]at hSq;rw[hzr]at hSr;simp only[Option.map_some,Option.some.injEq]at hSp hSq hSr;obtain⟨zp1,bsp⟩:=zp;obtain⟨zq1,bsq⟩:=zq;obtain⟨zr1,bsr⟩:=zr;simp only at hSp hSq hSr;subst hSp hSq hSr;have hO:=h5.obj _ (Ao hzp);obtain⟨hU,L,hL,hLs,hO⟩:=hO;have hcl:=Ng hc (h5.obj _ (Ao hzq)) hL;obtain⟨_,hU',A,d,e1,hs⟩:=hxa;injection e1 with e1
  obtain⟨hdc,cs,hcs,hold⟩:d=c/\∃cs,VCs m (l.take i) cs []/\(Builtin.firstCells inf.size i (.slice A i d)).run P m.w.drew= .ok cs.toArray m.w.drew:=by
   rcases hs L hL with⟨h7,e2,_,e3⟩|⟨h7,h8,o,e2,h9⟩
   ·injection e2 with e4 e5 e6
    subst e4 e6 e3;refine⟨?_,[],by simpa using⟨rfl,rfl⟩,by exact run_firstCells_none m.w.drew _ 0 0 0⟩;rcases hcl with⟨_,h⟩|⟨h,_⟩
    ·omega
    ·rw[h7]at h;cases h
   ·injection e2 with e4 e5 e6
    subst e4 e6
    have hcc:c=L.cap:=by
     rcases hcl with⟨h,_⟩|⟨_,h⟩
     ·rw[h7]at h;cases h
     ·exact h
    refine⟨by omega,?_⟩;rcases hO with⟨h10,_⟩|⟨hnil,arr,bs',hbs,hb2,harr,hlc,hcap,hw,hv⟩
    ·rw[h7]at h10;cases h10
    ·obtain⟨p1,p2,e7,h11,h12⟩:=VCs.take hw hv (k:=i) hi
     have h13:=(hfr.sub λe he=>List.mem_of_mem_take he).vcs h11;rw[h13]at h11;have ho:o=0:=by rw[h9 (.inr rfl),Nat.zero_mul]
     subst ho;have hsz0:l.length*sz<=arr.toList.length:=by rw[show arr.toList.length=arr.size from Array.length_toList,harr];exact Nat.mul_le_mul_right _ hlc
     have hle:i*sz<=l.length*sz:=Nat.mul_le_mul_right _ hi;refine⟨_,h11,run_firstCells_some (P:=P) m.w.drew inf.size i _ i _ _ ?_ λj v hj=>?_⟩
     ·rw[h3];simp only[Ah];omega
     ·rw[EX,Nat.zero_add]
      rw[List.getElem?_take]at hj;split at hj
      ·rw[List.getElem?_take]at hj
       split at hj
       ·show m.w.cell? _=_
        simp only[World.cell?,hb2];rw[<-Array.getElem?_toList];exact hj
       ·cases hj
      ·cases hj
  subst hdc;have hgc:Builtin.nextslicecap (i+k) d*inf.bytes<=281474976710656:=growslice_fits hroom (by rw[h4];exact hb);have hkb:k*by_<=(i+k)*by_:=Nat.mul_le_mul_right _ (by omega);have hrun:=HB (P:=P) (ty:=ty) m.w ht hk hti hiz (by rw[hzs',h3]) A i d cs hold kq k (by omega) (by rw[h4];omega) (by rw[h3];exact Nat.ne_of_gt (Nat.mul_pos h0 hsz)) hroom (by omega) hgc;have hge:=grownCap_ge m.w (i+k) d te;have hcm:=grownCap_le_maxLen m.w (i+k) d te (by unfold maxLen;omega);obtain⟨G,hG⟩:=nm (grownCap m.w (i+k) d te);rw[hG]at hrun hge hcm;have hzc:∀j,(Builtin.zeroCells z.cells j).toList=(List.replicate j zl).flatten:=λj=>by rw[Builtin.zeroCells,Fh,hzl]
  have hwl:∀e∈l.take i,e.width=sz:=λe he=>by
   rcases hO with⟨_,h10,_⟩|⟨_,_,_,_,_,_,_,_,hw,_⟩
   ·rw[h10]at he;simp at he
   ·exact hw e (List.mem_of_mem_take he)
  have hti2:(l.take i).length=i:=by rw[Ah];omega
  have hcl2:cs.length=i*sz:=by rw[VCs.len _ hcs,B7 hwl,hti2]
  obtain⟨R,hp1,hp2⟩:=Bd hzr;have hlen:(l.take i++List.replicate k (zAV zl ag)).length=i+k:=by rw[AL,hti2,List.length_replicate]
  obtain⟨G',hle⟩:=Hn (t:=te) (sz:=sz) (l:=l.take i++List.replicate k (zAV zl ag)) (arr:=(cs.toArray++Builtin.zeroCells z.cells k)++Builtin.zeroCells z.cells (G-(i+k))) (cap:=G) (h5.perm hp1).drew (by
    simp only[Array.toList_append,hzc,hlen];rw[List.take_left' (by simp[hzs,hcl2,Nat.add_mul])];exact(VCs.mono (Gv m) _ (λ_ _=>rfl) hcs).append (DT _ (Fr _ ho hag) k)) (by
    simp only[Array.size_append,size_zeroCells,hzs',List.size_toArray,hcl2];rw[<-Nat.add_mul,<-Nat.add_mul]
    congr 1
    omega) (by rw[hlen];exact hge) hcm (λe he=>by
    rcases List.mem_append.1 he with he|he
    ·exact hwl e he
    ·rw[List.eq_of_mem_replicate he,<-VC.len _ (Fr m ho hag),hzs]) _ rfl
  unfold Oper.wp;rw[BQ];simp only[builtin,List.map_toArray,List.map_cons,List.map_nil,e1,hya,Sem.run_bind,hrun,Result.andThen_ok,Sem.run_pure];refine⟨_,N,W.set r ((Y,.row te sz (l.take i++List.replicate k (zAV zl ag))),[m.w.heap.size]),rfl,?_,G'.perm (hp2 _).symm,((h6.mono (Gv m)).mono hle).put hd ?_⟩
  ·rw[List.map_set,h2'];rfl
  ·refine⟨rfl,.inr rfl,_,_,rfl,λL' hL'=>?_⟩
   simp only[if_true,Option.some.injEq]at hL';subst hL';exact .inr ⟨rfl,by simpa using hge,0,by simp,λ_=>by simp⟩
end
end
section
open Go.RowKit
section
variable {P:Program}{dst:Option Tmp}{ty t te tx:TypeId}{pos:String}{after:Array Edge}{g:Option (Nat×Bool)}{x y:Operand}{p q r sz X Y Z V:Nat}{l l2:List AV}
theorem OpT.overlaps{f:FuncId}{fn:Func}{tR:TypeId}{ats:Array TypeId}{m j k:Nat}(hf:P.funcs[f]?=some fn)(hname:(fn.name== "runtime.NumGoroutine")=false)(hb:fn.body.isNone=true)(hn:Extern.findNext fn=none)(hx0:Extern.find fn=some (Extern.SlicesOverlaps.overlaps #[t,t] #[tR]))
  (he:CW P t=some te) (hsz:tSz P te=some sz) (h0:0<sz) (hm:0<m) (hk:0<k) (hpq:p≠q):
  OpT P ⟨dst,.call ⟨.value (.func f),#[x,y],ats⟩,ty,pos,after,g⟩ [(x,.sl V 0 m),(y,.sl X j k)] [(p,(V,.row te sz l2)),(q,(X,.row te sz l))] (.prim (.bool false)) []:=by
 intro nt m0 T S a w hx hS hd hr;obtain⟨m1,N,W,rfl,h2,h3,h4⟩:=hr;have h2':W.map (·.1)=S:=h2;have hxa:VV m1 (.sl V 0 m) (a.eval x) []:=h4.ev (hx (x,.sl V 0 m) (by simp));have hya:VV m1 (.sl X j k) (a.eval y) []:=h4.ev (hx (y,.sl X j k) (by simp));have hSp:=hS (p,(V,.row te sz l2)) (by simp);have hSq:=hS (q,(X,.row te sz l)) (by simp);rw[<-h2',AG]at hSp hSq;cases hzp:W[p]? with
 |none=>rw[hzp]at hSp;cases hSp
 |some zp=>
 cases hzq:W[q]? with
 |none=>rw[hzq]at hSq;cases hSq
 |some zq=>
  rw[hzp]at hSp;rw[hzq]at hSq;simp only[Option.map_some,Option.some.injEq]at hSp hSq;obtain⟨zp1,bsp⟩:=zp;obtain⟨zq1,bsq⟩:=zq;simp only at hSp hSq;subst hSp hSq;obtain⟨R,hp1,_⟩:=Fc hpq hzp hzq;have G:=h3.perm hp1;have hown:=G.own;obtain⟨_,L,hL,hLs,hO⟩:=G.obj _ (List.mem_cons_self ..);obtain⟨_,L2,hL2,hLs2,hO2⟩:=G.obj ((X,.row te sz l),bsq) (by simp);obtain⟨_,_,A,d,e1,hs⟩:=hxa;obtain⟨_,_,A2,d2,e2,hs2⟩:=hya;injection e1 with e1
  injection e2 with e2
  rcases hs L hL with⟨_,_,_,h⟩|⟨n1,c1,o1,v1,_⟩
  ·omega
  rcases hs2 L2 hL2 with⟨_,_,_,h⟩|⟨n2,c2,o2,v2,_⟩
  ·omega
  rcases hO with⟨h,_⟩|⟨_,arr,b1,rfl,hb1,hsz1,_⟩
  ·rw[n1]at h;cases h
  rcases hO2 with⟨h,_⟩|⟨_,arr2,b2,rfl,hb2,hsz2,_⟩
  ·rw[n2]at h;cases h
  have hne:L.blk≠L2.blk:=by
   intro e;rw[BR,BR]at hown;simp[e]at hown
  injection v1 with v1 _ _
  injection v2 with v2 _ _
  subst v1 v2
  have hrun:=Lib.run_overlaps_apart (P:=P) m1.w t tR te (BU he) sz (λw=>by
   unfold tSz at hsz;cases hq:P.info? te with
   |none=>rw[hq]at hsz;cases hsz
   |some i=>rw[hq]at hsz;injection hsz with hsz;simp[sizeOf,typeInfo,hq,hsz,Sem.run_bind,Sem.run_pure,Result.andThen_ok]) ⟨L.blk,o1,none⟩ ⟨L2.blk,o2,none⟩ m d k d2 hne te te arr.size arr2.size (by simp[World.shape?,hb1]) (by simp[World.shape?,hb2]) (by rw[hsz2];exact Nat.ne_of_gt (Nat.mul_pos (by omega) h0)) (by simp[World.frozen?,hb1]) (by simp[World.frozen?,hb1])
  have hcall:=run_callFunc_extern (P:=P) hf hname hb hn hx0 #[a.eval x,a.eval y] m1.w;rw[e1,e2,hrun]at hcall
  have hexec:(execOp a.eval ⟨dst,.call ⟨.value (.func f),#[x,y],ats⟩,ty,pos,after,g⟩).run P m1.w= .ok (.value (.bool false)) m1.w:=by
   have ha:∀f,a.eval (.func f)= .func (.func f) #[] #[]:=λ_=>rfl
   simp[execOp,resolve,ha,Deferred.ofValue,invoke,e1,e2,hcall,Result.andThen_ok]
  unfold Oper.wp;rw[hexec];exact⟨m1,N,W,rfl,h2,h3,h4.put hd (BM _)⟩
end
section
variable {P:Program}{dst:Option Tmp}{ty t te tx ty2:TypeId}{pos:String}{after:Array Edge}{g:Option (Nat×Bool)}{x y:Operand}{p q r sz X Y Z V by_:Nat}{l l2:List AV}{T:List (Nat×AV)}{S:List AC}{c:Option (List Bool)}{k k' k0:IntKind}{qi qj:Int}
theorem W.copyO{j a i b:Nat}(n:Nat)[TEl P t te][TSize P te sz](hx:Rd c T x (.sl X j a))(hy:Rd c T y (.sl Y i b))(hSp:At S p (X,.row te sz l))(hSq:At S q (Y,.row te sz l2))(hpq:Nat.beq p q=false)(ha:0<a)(hb:0<b)(hk:n=min b a)(hj:j<=l.length)(hi:i+n<=l2.length)(hfr:FreeL l)(hfr2:FreeL l2)(hw2:∀e∈l2,e.width=sz):
  Stp c P ⟨dst,.call ⟨.builtin .copy,#[x,y],#[t,t]⟩,ty,pos,after,g⟩ T S [(x,.sl X j a),(y,.sl Y i b)] [(p,(X,.row te sz l)),(q,(Y,.row te sz l2))] (.prim (.int .i64 n)) [(p,(X,.row te sz (l.take j++(l2.drop i).take n++l.drop (j+n))))]:=
 ⟨.copyO n TEl.h TSize.h ha hb hk hj hi hfr hfr2 hw2 (Nat.ne_of_beq_eq_false hpq),.cons hx (.cons hy .nil),.cons hSp (.cons hSq .nil)⟩
theorem W.copyS{j a i b:Nat}(n:Nat)[TEl P t te][TSize P te sz](hx:Rd c T x (.sl X j a))(hy:Rd c T y (.sl X i b))(hSp:At S p (X,.row te sz l))(ha:0<a)(hb:0<b)(hk:n=min b a)(hj:j<=l.length)(hi:i+n<=l.length)(hfr:FreeL l)(hw2:∀e∈l,e.width=sz):
  Stp c P ⟨dst,.call ⟨.builtin .copy,#[x,y],#[t,t]⟩,ty,pos,after,g⟩ T S [(x,.sl X j a),(y,.sl X i b)] [(p,(X,.row te sz l))] (.prim (.int .i64 n)) [(p,(X,.row te sz (l.take j++(l.drop i).take n++l.drop (j+n))))]:=
 ⟨.copyS n TEl.h TSize.h ha hb hk hj hi hfr hw2,.cons hx (.cons hy .nil),.cons hSp .nil⟩
theorem W.cap{n cc:Nat}{u0:Value}[TEl P t te](hc:L4 cc u0)(hx:Rd c T x (.sl X 0 n))(hSp:At S p (X,.row te sz l))(hSq:At S q (Z,.tv (Ga X cc u0))):
  Stp c P ⟨dst,.call ⟨.builtin .cap,#[x],#[t]⟩,ty,pos,after,g⟩ T S [(x,.sl X 0 n)] [(p,(X,.row te sz l)),(q,(Z,.tv (Ga X cc u0)))] (.prim (.int .i64 cc)) []:=
 ⟨.cap TEl.h hc,.cons hx .nil,.cons hSp (.cons hSq .nil)⟩
theorem Uj{n cc:Nat}{u0:Value}(hi:Nat)[TEl P t te][TSize P te sz](hc:L4 cc u0)(hx:Rd c T x (.sl X 0 n))(hy:Rd c T y (.prim (.int k qi)))(hSp:At S p (X,.row te sz l))(hSq:At S q (Z,.tv (Ga X cc u0)))(hq:qi=(hi:Int))(hh:hi<=cc):
  Stp c P ⟨dst,.slice t x none (some y) none,ty,pos,after,g⟩ T S [(x,.sl X 0 n),(y,.prim (.int k qi))] [(p,(X,.row te sz l)),(q,(Z,.tv (Ga X cc u0)))] (.sl X 0 hi) []:=
 ⟨.slice_cap TEl.h TSize.h hc hq hh,.cons hx (.cons hy .nil),.cons hSp (.cons hSq .nil)⟩
theorem V0{i cc:Nat}{u0:Value}{zl:List Value}{ag:Bool}(n:Nat)[TRo P t te sz by_][TZe P te zl][TAg P te ag](hc:L4 cc u0)(hx:Rd c T x (.sl X 0 i))(hy:Rd c T y (.prim (.int k qi)))(hSp:At S p (X,.row te sz l))(hSq:At S q (Z,.tv (Ga X cc u0)))(hSr:At S r (Y,.gone))(hq:qi=(n:Int))(hag:ag=true\/zl.length=1)(hzs:zl.length=sz)(htx:Ro P tx=true)(h0:0<n)(hb:(i+n)*by_<=140737488355328)(hby:0<by_)(hroom:cc<i+n)(hi:i<=l.length)(hfr:FreeL l):
  Stp c P ⟨dst,.call ⟨.builtin .append,#[x,y],#[t,tx]⟩,ty,pos,after,g⟩ T S [(x,.sl X 0 i),(y,.prim (.int k qi))] [(p,(X,.row te sz l)),(q,(Z,.tv (Ga X cc u0))),(r,(Y,.gone))] (.sl Y 0 (i+n)) [(r,(Y,.row te sz (l.take i++List.replicate n (zAV zl ag))))]:=
 ⟨.appz_grow TRo.h TZe.h hag hzs htx hq h0 hb hby hc hroom hi hfr,.cons hx (.cons hy .nil),.cons hSp (.cons hSq (.cons hSr .nil))⟩
theorem W.over{f:FuncId}{fn:Func}{tR:TypeId}{ats:Array TypeId}{m j n:Nat}[TEl P t te][TSize P te sz](hf:P.funcs[f]?=some fn)(hname:(fn.name== "runtime.NumGoroutine")=false)(hb:fn.body.isNone=true)(hn:Extern.findNext fn=none)(hx0:Extern.find fn=some (Extern.SlicesOverlaps.overlaps #[t,t] #[tR]))
  (hx:Rd c T x (.sl V 0 m)) (hy:Rd c T y (.sl X j n)) (hSp:At S p (V,.row te sz l2)) (hSq:At S q (X,.row te sz l)) (hpq:Nat.beq p q=false) (h0:0<sz) (hm:0<m) (hk:0<n):
  Stp c P ⟨dst,.call ⟨.value (.func f),#[x,y],ats⟩,ty,pos,after,g⟩ T S [(x,.sl V 0 m),(y,.sl X j n)] [(p,(V,.row te sz l2)),(q,(X,.row te sz l))] (.prim (.bool false)) []:=
 ⟨.overlaps hf hname hb hn hx0 TEl.h TSize.h h0 hm hk (Nat.ne_of_beq_eq_false hpq),.cons hx (.cons hy .nil),.cons hSp (.cons hSq .nil)⟩
theorem W.shr(n:Nat)(hx:Rd c T x (.prim (.int k qi)))(hy:Rd c T y (.prim (.int k' qj)))(hj:qj=(n:Int))(hn:n<=k.bits):
  Stp c P ⟨dst,.binOp .shr t x y ty2,ty,pos,after,g⟩ T S [(x,.prim (.int k qi)),(y,.prim (.int k' qj))] [] (.prim (.int k (qi.fdiv (2^n)))) []:=⟨.shr hj hn,.cons hx (.cons hy .nil),.nil⟩
theorem W.conv(k0 k':IntKind){t2:TypeId}(h1:P.underlying t=some (.int k0))(h2:P.underlying t2=some (.int k'))(hx:Rd c T x (.prim (.int k qi)))(hw:k'.wrap qi=qi):
  Stp c P ⟨dst,.convert t t2 x,ty,pos,after,g⟩ T S [(x,.prim (.int k qi))] [] (.prim (.int k' qi)) []:=⟨.conv h1 h2 hw,.cons hx .nil,.nil⟩
end
end
section
open Go.RowKit
section
variable {P:Program}{m0 m:Mem}{N X Y:Nat}{R:Zs}{ex:List Nat}{t te ty t2:TypeId}{sz by_:Nat}{l ls:List AV}{dst:Option Tmp}{pos:String}{after:Array Edge}{g:Option (Nat×Bool)}{x y z u:Operand}{p q:Nat}
theorem KY(w:World)(a:Addr):(loadCells a 0).run P w= .ok #[] w:=by
 have:=run_loadCells_list (P:=P) w a [] (λj v h=>by simp at h);simpa using this
theorem OpT.appS{i j k:Nat}(he:CW P t=some te)(hsz:tSz P te=some sz)(hk:0<k)(hi:i+k<=l.length)(hj:j+k<=l.length)(hfr:FreeL l)(hw2:∀e∈l,e.width=sz):
  OpT P ⟨dst,.call ⟨.builtin .append,#[x,y],#[t,t]⟩,ty,pos,after,g⟩ [(x,.sl X 0 i),(y,.sl X j k)] [(p,(X,.row te sz l))] (.sl X 0 (i+k)) [(p,(X,.row te sz (l.take i++(l.drop j).take k++l.drop (i+k))))]:=by
 intro nt m0 T S ac w hx hS hd hr;obtain⟨m,N,Z,rfl,h2,h3,h4⟩:=hr;have h2':Z.map (·.1)=S:=h2;have hxa:VV m (.sl X 0 i) (ac.eval x) []:=h4.ev (hx (x,.sl X 0 i) (by simp));have hya:VV m (.sl X j k) (ac.eval y) []:=h4.ev (hx (y,.sl X j k) (by simp));have hSp:=hS (p,(X,.row te sz l)) (by simp);rw[<-h2',AG]at hSp;cases hz:Z[p]? with
 |none=>rw[hz]at hSp;cases hSp
 |some z=>
  rw[hz]at hSp;simp only[Option.map_some,Option.some.injEq]at hSp;obtain⟨z1,bs⟩:=z;simp only at hSp;subst hSp;obtain⟨A2,q2,cs,e1,hcs,hcl,hsrc⟩:=J0 (h3.obj _ (Ao hz)) hya hk hfr hj;obtain⟨R,hp1,hp2⟩:=Bd hz;have G1:=h3.perm hp1;have hO:=G1.obj _ (List.mem_cons_self ..);obtain⟨hU,L,hL,hLs,hO⟩:=hO;obtain⟨_,hU',A,q,e2,hsl⟩:=hxa;injection e2 with e2
  rcases hO with⟨h9,h10,_⟩|⟨hnil,arr,bs',rfl,hb2,harr,hlc,hcap,hw,hv⟩
  ·subst h10;simp at hi;omega
  rcases hsl L hL with⟨h5,_,_,_⟩|⟨h5,h6,o,h7,h8⟩
  ·rw[h5]at hnil;cases hnil
  have ho:=h8 (.inr rfl);injection h7 with h7 h9 h10
  subst h7;have hkl:((l.drop j).take k).length=k:=by rw[Ah,Bh];omega
  have hns:∀e∈(l.drop j).take k,e.width=sz:=λe he=>hw2 e (List.mem_of_mem_drop (List.mem_of_mem_take he))
  have hle:i+k<=L.cap:=by omega
  have hfit:i*sz+cs.length<=arr.size:=by rw[hcl,harr,<-Nat.add_mul];exact Nat.mul_le_mul_right _ hle
  obtain⟨G2,hle2⟩:=Good.over G1 hL h5 rfl hb2 harr hlc hcap hLs hw hv hfr (off:=i) (by omega) (by rw[hkl];exact hle) hns hcs;rw[hkl]at G2;have hl:=run_loadCells_list (P:=P) m.w A2 cs hsrc;have hst:=run_storeCells_at P L.blk (i*sz) te cs 0 arr m.w hb2 (by simpa using hfit) (VCs.ones _ hcs);have hu:=BU he;unfold tSz at hsz;rw[hcl]at hl
  have hrun:(Builtin.append_ #[t,t] ty #[ac.eval x,ac.eval y]).run P m.w= .ok (.slice (some ⟨L.blk,o,none⟩) (i+k) q) (m.w.setRow L.blk (arr.toList.take (i*sz)++cs++arr.toList.drop (i*sz+cs.length)).toArray):=by
   rw[show ac.eval y=_ from e1,show ac.eval x=_ from e2,ho];cases hq:P.info? te with
   |none=>rw[hq]at hsz;cases hsz
   |some inf=>
    rw[hq]at hsz;injection hsz with hsz
    have hqc:i+k<=q:=by omega
    have hst':=hst;simp only[Nat.add_zero]at hst';simp[Builtin.append_,run_underlying hu,Builtin.lenOf,Builtin.firstCells,sizeOf,typeInfo,hq,hsz,hl,hqc,EX];rw[hst',Result.andThen_ok];simp
  unfold Oper.wp;rw[BQ];simp only[builtin,List.map_toArray,List.map_cons,List.map_nil,Sem.run_bind,hrun,Result.andThen_ok,Sem.run_pure];refine⟨_,N,_,rfl,?_,G2.perm (hp2 _).symm,(h4.mono hle2).put hd ?_⟩
  ·rw[List.map_set,h2'];rfl
  ·refine⟨rfl,hle2.U _ hU,_,_,rfl,λL' hL'=>?_⟩
   have:m.μ X=some L':=hL';rw[hL]at this;obtain rfl:=Option.some.inj this;exact .inr ⟨h5,by omega,o,by rw[h10],λ_=>ho⟩
theorem OpT.app0{i j:Nat}(he:CW P t=some te)(hsz:tSz P te=some sz):
  OpT P ⟨dst,.call ⟨.builtin .append,#[x,y],#[t,t]⟩,ty,pos,after,g⟩ [(x,.sl X 0 i),(y,.sl X j 0)] [(p,(X,.row te sz l))] (.sl X 0 i) []:=
 .pure_ λm ac hx hS=>by
  obtain⟨bs,hO⟩:=hS (p,(X,.row te sz l)) (by simp);have hxa:=hx (x,.sl X 0 i) (by simp);have hya:=hx (y,.sl X j 0) (by simp);refine⟨ac.eval x,?_,hxa⟩;obtain⟨_,hU',A,q,e2,hsl⟩:=hxa;obtain⟨_,_,A2,q2,e3,_⟩:=hya;injection e2 with e2
  injection e3 with e3
  have hq:i<=q:=by
   obtain⟨hU,L,hL,hLs,hO⟩:=hO;rcases hsl L hL with⟨_,h5,_,h6⟩|⟨h5,h6,o,h7,h8⟩
   ·omega
   ·injection h7 with h7 h9 h10;omega
  have hu:=BU he;unfold tSz at hsz;rw[BQ];simp only at e2 e3;cases hqi:P.info? te with
  |none=>rw[hqi]at hsz;cases hsz
  |some inf=>
   cases A2<;>cases A<;>simp[builtin,Builtin.append_,run_underlying hu,Builtin.lenOf,Builtin.firstCells,sizeOf,typeInfo,hqi,e2,e3,hq,KY,storeCells,Sem.run_bind,Sem.run_pure,Result.andThen_ok]
theorem OpT.app_nil{t':TypeId}(T:N0 P t=some (te,sz,by_))(hb:ls.length*by_<=140737488355328)(hm:ls.length<=maxLen):OpT P ⟨dst,.call ⟨.builtin .append,#[x,y],#[t,t]⟩,ty,pos,after,g⟩ [(x,.prim (.slice none 0 0)),(y,.lst false t' sz ls)] [(q,(Y,.gone))] (.sl Y 0 ls.length) [(q,(Y,.row te sz ls))]:=by
 intro nt m0 T' S a w hx hS hd hr;obtain⟨m1,N1,Z1,rfl,h2,h3,h4⟩:=hr;have h2':Z1.map (·.1)=S:=h2;have hxa:=(h4.ev (hx (x,.prim (.slice none 0 0)) (by simp))).prim;have hya:VV m1 (.lst false t' sz ls) (a.eval y) []:=h4.ev (hx (y,.lst false t' sz ls) (by simp));have hSq:=hS (q,(Y,.gone)) (by simp);rw[<-h2',AG]at hSq;cases hz:Z1[q]? with
 |none=>rw[hz]at hSq;cases hSq
 |some z=>
  rw[hz]at hSq;simp only[Option.map_some,Option.some.injEq]at hSq;obtain⟨z1,bsY⟩:=z;simp only at hSq;subst hSq;obtain⟨R,hp1,hp2⟩:=Bd hz;obtain⟨m,hmw,G,hle0,hvn⟩:=Good.adopt (h3.perm hp1) te sz;have G':=G.perm (List.Perm.swap ..);have hya2:VV m (.lst false t' sz ls) (a.eval y) []:=hya.mono hle0 (by simp);have hvn':VV m (.sl N1 0 ([]:List AV).length) (.slice none 0 0) []:=hvn;obtain⟨xs,bs0,hown,hv,hwl,hbs⟩:=Mv (G'.obj ((N1,.row te sz []),[]) (by simp)) hvn';obtain⟨_,A,c,e1,hkc,hws,hrd⟩:=hya2;injection e1 with e1
  obtain⟨news,hnl,hnc,hnv⟩:∃news:List Value,news.length=ls.length*sz/\(0<ls.length->∃b off,A=some ⟨b,off,none⟩/\∀j u,news[j]?=some u->m.w.cell? ⟨b,off+j,none⟩=some u)/\VCs m ls news []:=by
   rcases Nat.eq_zero_or_pos ls.length with h0|h0
   ·have:ls=[]:=List.eq_nil_of_length_eq_zero h0
    subst this;exact⟨[],by simp,λh=>absurd h (by simp),VCs.nil⟩
   ·obtain⟨b,off,arr,tt,r,hA,hF,hb,hc⟩:=hrd h0
    refine⟨_,by rw[VCs.len _ hc,B7 hws],λ_=>⟨b,off,hA,λj u hj=>?_⟩,hc⟩;rw[List.getElem?_take]at hj;split at hj
    ·rw[List.getElem?_drop]at hj
     simp only[World.cell?,hb];simpa using hj
    ·cases hj
  obtain⟨v',w',hrun,hown',hg,hat⟩:=GQ T m.w ty hown hkc hnl hnc (VCs.ones _ hnv) (by simpa using hb) (by simpa using hm);obtain⟨m',bs',hw',G2,hle,hv'⟩:=Good.app G' hv hnv (λe he=>by rcases List.mem_append.1 he with h|h;exact hwl e h;exact hws e h) hbs hown' hg hat
  have hex:(execOp a.eval ⟨dst,.call ⟨.builtin .append,#[x,y],#[t,t]⟩,ty,pos,after,g⟩).run P m1.w= .ok (.value v') w':=by
   rw[BQ,<-hmw];simp only[builtin,List.map_toArray,List.map_cons,List.map_nil,e1,show a.eval x=_ from hxa,Sem.run_bind,hrun,Result.andThen_ok,Sem.run_pure]
  unfold Oper.wp;rw[hex];have G3:=G2.sub (List.sublist_cons_self _ _);simp only[List.length_nil,Nat.zero_add,BD]at G3 hv';refine⟨m',N1+1,_,hw',?_,G3.perm (hp2 _).symm,(h4.mono (hle0.trans hle)).put hd hv'⟩;rw[List.map_set,h2'];rfl
theorem St.frzRow{nt:Nat}{st:St}{l':List AV}(he:AV.frzs l=l')(hS:At st.S p (X,.row t sz l)):D8 nt st λst'=>st'=⟨st.T,st.S.set p (X,.row t sz l')⟩:=by
 subst he;intro m0 a w hr;obtain⟨m,N,Z,rfl,h2,h3,h4⟩:=hr;obtain⟨bs,hz⟩:=hS.z h2;obtain⟨R,hp1,hp2⟩:=Bd hz;have G:=h3.perm hp1;obtain⟨hU,L,hL,hLs,hO⟩:=G.obj _ (List.mem_cons_self ..);rcases hO with⟨h5,h6,h7⟩|⟨hnil,arr,bs',hbs,hb,harr,hlc,hcap,hw,hv⟩
 ·have h6':l=[]:=h6
  subst h6';refine⟨⟨st.T,st.S.set p (X,.row t sz (AV.frzs []))⟩,⟨m,N,Z,rfl,?_,h3,h4⟩,rfl⟩;show Z.map (·.1)=st.S.set p (X,.row t sz [])
  rw[TJ (by rw[<-h2,AG,hz];rfl)];exact h2
 ·have hbs':bs=L.blk::bs':=hbs
  subst hbs';have G1:Good m0 m N (((X,.gone),[])::R) ([]:List Nat)\/True:=.inr trivial;clear G1
  have hp:(Zs.own (((X,AO.row t sz l),L.blk::bs')::R)++[]).Perm (Zs.own (((X,AO.row t sz (AV.frzs l)),[L.blk])::R)++bs'):=by
   simp only[BR,List.append_nil];rw[BF,List.singleton_append,BF];exact List.Perm.cons _ List.perm_append_comm
  have hnd:=hp.nodup_iff.1 G.own
  have hgb:L.blk∉bs':=by
   intro h;have h1:=List.nodup_append.1 hnd;exact h1.2.2 L.blk (by simp[BR]) L.blk h rfl
  have hle:m.Le {m with F:=λb=>m.F b\/b∈bs'}:=⟨λ_ h=>h,λ_ _ _ h=>h,λb hb=>⟨.inl hb,rfl⟩⟩
  have hO':ORel {m with F:=λb=>m.F b\/b∈bs'} X (.row t sz (AV.frzs l)) [L.blk]:=
   ⟨hU,L,hL,hLs,.inr ⟨hnil,arr,[],rfl,hb,harr,by rw[Dz];exact hlc,hcap,λe he=>by
    rw[ET]at he;obtain⟨e',he',rfl⟩:=List.mem_map.1 he;rw[EE];exact hw e' he',by rw[Dz];exact VCs.frz hle l (λb hb=>⟨.inr hb,rfl⟩) hv⟩⟩
  have hblk:∀b∈Zs.own (((X,AO.row t sz (AV.frzs l)),[L.blk])::R)++bs',b<m.w.heap.size/\¬m.F b:=λb hb=>G.blk b (hp.mem_iff.2 hb)
  have G2:Good m0 {m with F:=λb=>m.F b\/b∈bs'} N (((X,.row t sz (AV.frzs l)),[L.blk])::R) []:=by
   refine⟨λz hz'=>?_,?_,λb hb'=>?_,λb hb'=>?_,G.keys,G.keyN,G.usedN,G.le.trans hle,G.os,G.tape,G.output,G.size⟩
   ·rcases List.mem_cons.1 hz' with rfl|hz'
    ·exact hO'
    ·refine ORel.mono hle (λhg=>?_) (λL h=>h) (λb hb=>rfl) (G.obj z (List.mem_cons_of_mem _ hz'))
     have:=G.obj z (List.mem_cons_of_mem _ hz');rw[hg]at this;exact this.2
   ·rw[List.append_nil]
    exact(List.nodup_append.1 hnd).1
   ·rw[List.append_nil]at hb'
    obtain⟨k1,k2⟩:=hblk b (List.mem_append_left _ hb');refine⟨k1,?_⟩;rintro(h|h)
    ·exact k2 h
    ·exact(List.nodup_append.1 hnd).2.2 b hb' b h rfl
   ·rcases hb' with h|h
    ·exact G.frz b h
    ·exact(hblk b (List.mem_append_right _ h)).1
  refine⟨⟨st.T,st.S.set p (X,.row t sz (AV.frzs l))⟩,⟨{m with F:=λb=>m.F b\/b∈bs'},N,Z.set p ((X,.row t sz (AV.frzs l)),[L.blk]),rfl,?_,G2.perm (hp2 _).symm,h4.mono hle⟩,rfl⟩;rw[List.map_set];show(Z.map (·.1)).set p _=_
  rw[show Z.map (·.1)=st.S from h2]
theorem OpT.slice_lohi{t':TypeId}{k k':IntKind}{off n lo hi:Nat}{qi qj:Int}(he:CW P t=some te)(hsz:tSz P te=some sz)(hq:qi=(lo:Int))(hq':qj=(hi:Int))(hh:lo<=hi)(hl:off+hi<=l.length):OpT P ⟨dst,.slice t x (some y) (some z) none,ty,pos,after,g⟩ [(x,.sl X off n),(y,.prim (.int k qi)),(z,.prim (.int k' qj))] [(p,(X,.row t' sz l))] (.sl X (off+lo) (hi-lo)) []:=
 .pure_ λm a hx hS=>by
  obtain⟨bs,hU,L,h1,h2,hO⟩:=hS (p,(X,.row t' sz l)) (by simp);obtain⟨_,hU',A,c,e1,h3⟩:=hx (x,.sl X off n) (by simp);have hy:=(hx (y,.prim (.int k qi)) (by simp)).prim;have hz:=(hx (z,.prim (.int k' qj)) (by simp)).prim;injection e1 with e1
  simp only at e1 hy hz;subst hq hq'
  have hlc:l.length<=L.cap\/(L.isNil=true/\l=[]):=by
   rcases hO with⟨h4,h5,_⟩|⟨_,_,_,_,_,_,h6,_⟩
   ·exact .inr ⟨h4,h5⟩
   ·exact .inl h6
  have hcap:hi<=c:=by
   rcases h3 L h1 with⟨_,e,e2,e'⟩|⟨hnn,h4,o,e,_⟩
   ·rcases hO with⟨_,h5,_⟩|⟨h5,_⟩
    ·subst h5;simp at hl;omega
    ·simp_all
   ·injection e with _ _ e
    rcases hlc with h|⟨h,_⟩
    ·omega
    ·rw[hnn]at h;cases h
  have hr:=Dn (P:=P) (w:=m.w) he hsz (A:=A) (len:=n) (cap:=c) (lo:=lo) (hi:=hi) (vl:=some (.int k lo)) (vh:=some (.int k' hi)) (λu hu=>⟨k,by injection hu with hu;exact hu.symm⟩) (by simp) (λu hu=>⟨k',by injection hu with hu;exact hu.symm⟩) (by simp) hh hcap;refine⟨_,by simp only[execOp,Option.map_none,Option.map_some,e1,hy,hz,Sem.run_bind,hr,Result.andThen_ok];rfl,rfl,hU',_,_,rfl,λL' hL'=>?_⟩;rw[h1]at hL';injection hL' with hL';subst hL'
  rcases h3 L h1 with⟨h5,e,e2,e3⟩|⟨h5,h4,o,e,h6⟩
  ·injection e with e4 e5 e6
   subst e4 e6;have:hi=0:=by omega
   subst this;have:lo=0:=by omega
   subst this;exact .inl ⟨h5,by simp,by omega,by omega⟩
  ·injection e with e4 e5 e6
   subst e4 e6;simp only[Option.map_some]
   have hlc':l.length<=L.cap:=by
    rcases hlc with h|⟨h,_⟩
    ·exact h
    ·rw[h5]at h;cases h
   by_cases hc:lo<L.cap-off
   ·refine .inr ⟨h5,by omega,o+lo*sz,?_,λ_=>?_⟩
    ·rw[if_neg (by omega),EX]
     congr 1
     omega
    ·rw[h6 (.inl (by omega)),h2,Nat.add_mul]
   ·have hlo:lo=L.cap-off:=by omega
    refine .inr ⟨h5,by omega,o,by rw[if_pos hlo.symm];congr 1;omega,λh=>?_⟩;rcases h with h|h
    ·omega
    ·have h0:off=0:=by omega
     subst h0;rw[h6 (.inr rfl)];have:lo=0:=by omega
     subst this;simp
theorem OpT.slice3{t':TypeId}{k k' k2:IntKind}{off n lo hi mx:Nat}{qi qj qm:Int}(he:CW P t=some te)(hsz:tSz P te=some sz)(hq:qi=(lo:Int))(hq':qj=(hi:Int))(hqm:qm=(mx:Int))(hh:lo<=hi)(hm:hi<=mx)(hl:mx<=n):OpT P ⟨dst,.slice t x (some y) (some z) (some u),ty,pos,after,g⟩ [(x,.sl X off n),(y,.prim (.int k qi)),(z,.prim (.int k' qj)),(u,.prim (.int k2 qm))] [(p,(X,.row t' sz l))] .dead []:=
 .pure_ λm a hx hS=>by
  obtain⟨bs,hU,L,h1,h2,hO⟩:=hS (p,(X,.row t' sz l)) (by simp);obtain⟨_,hU',A,c,e1,h3⟩:=hx (x,.sl X off n) (by simp);have hy:=(hx (y,.prim (.int k qi)) (by simp)).prim;have hz:=(hx (z,.prim (.int k' qj)) (by simp)).prim;have hu:=(hx (u,.prim (.int k2 qm)) (by simp)).prim;injection e1 with e1
  simp only at e1 hy hz hu;subst hq hq' hqm
  have hcap:n<=c:=by
   rcases h3 L h1 with⟨_,e,_,e'⟩|⟨_,h4,o,e,_⟩
   ·omega
   ·injection e with _ _ e;omega
  have hte:=BU he;unfold tSz at hsz;cases hqi:P.info? te with
  |none=>rw[hqi]at hsz;cases hsz
  |some inf=>
   have b1:(0:Int)<=mx/\(mx:Int)<=c:=⟨by omega,by omega⟩;have b2:(0:Int)<=hi/\(hi:Int)<=mx:=⟨by omega,by omega⟩;have b3:(0:Int)<=lo/\(lo:Int)<=hi:=⟨by omega,by omega⟩;have n1:mx<=c:=by omega
   exact⟨_,by simp[n1,hm,hh,execOp,e1,hy,hz,hu,Instr.sliceAt,Instr.slice,Instr.sliceBounds,Instr.sliceBound,asIntOf,run_underlying hte,sizeOf,typeInfo,hqi,b1,b2,b3,Sem.run_bind,Sem.run_pure,Result.andThen_ok];rfl,rfl⟩
end
end
section
open Go.RowKit
section
variable {P:Program}{ro:Option Nat}{nt:Nat}{ops:Array Oper}{Q:Exit->St->Prop}{rest:List Oper}{T:List (Nat×AV)}{S:List AC}{ty t te t2 t' ty2:TypeId}{pos:String}{after:Array Edge}{dst:Option Tmp}{c:Option (List Bool)}{g:Option (Nat×Bool)}{x y z u:Operand}{X Y p q sz by_:Nat}{l ls:List AV}{cd:Code}
theorem W.appS{i j:Nat}(n:Nat)[TEl P t te][TSize P te sz](h0:0<n)(hi:i+n<=l.length)(hj:j+n<=l.length)(hfr:FreeL l)(hw2:∀e∈l,e.width=sz)(hx:Rd c T x (.sl X 0 i))(hy:Rd c T y (.sl X j n))(hSp:At S p (X,.row te sz l)):
  Stp c P ⟨dst,.call ⟨.builtin .append,#[x,y],#[t,t]⟩,ty,pos,after,g⟩ T S [(x,.sl X 0 i),(y,.sl X j n)] [(p,(X,.row te sz l))] (.sl X 0 (i+n)) [(p,(X,.row te sz (l.take i++(l.drop j).take n++l.drop (i+n))))]:=
 ⟨.appS TEl.h TSize.h h0 hi hj hfr hw2,.cons hx (.cons hy .nil),.cons hSp .nil⟩
theorem W.app0{i j:Nat}[TEl P t te][TSize P te sz](hx:Rd c T x (.sl X 0 i))(hy:Rd c T y (.sl X j 0))(hSp:At S p (X,.row te sz l)):
  Stp c P ⟨dst,.call ⟨.builtin .append,#[x,y],#[t,t]⟩,ty,pos,after,g⟩ T S [(x,.sl X 0 i),(y,.sl X j 0)] [(p,(X,.row te sz l))] (.sl X 0 i) []:=
 ⟨.app0 TEl.h TSize.h,.cons hx (.cons hy .nil),.cons hSp .nil⟩
theorem Uq[TRo P t te sz by_](hb:ls.length*by_<=140737488355328)(hm:ls.length<=maxLen)(hx:Rd c T x (.prim (.slice none 0 0)))(hy:Rd c T y (.lst false t' sz ls))(hSq:At S q (Y,.gone)):
  Stp c P ⟨dst,.call ⟨.builtin .append,#[x,y],#[t,t]⟩,ty,pos,after,g⟩ T S [(x,.prim (.slice none 0 0)),(y,.lst false t' sz ls)] [(q,(Y,.gone))] (.sl Y 0 ls.length) [(q,(Y,.row te sz ls))]:=
 ⟨.app_nil TRo.h hb hm,.cons hx (.cons hy .nil),.cons hSq .nil⟩
theorem Uk{k k':IntKind}{off n lo hi:Nat}{qi qj:Int}[TEl P t te][TSize P te sz](hx:Rd c T x (.sl X off n))(hy:Rd c T y (.prim (.int k qi)))(hz:Rd c T z (.prim (.int k' qj)))(hSp:At S p (X,.row t' sz l))(hq:qi=(lo:Int))(hq':qj=(hi:Int))(hh:lo<=hi)(hl:off+hi<=l.length):
  Stp c P ⟨dst,.slice t x (some y) (some z) none,ty,pos,after,g⟩ T S [(x,.sl X off n),(y,.prim (.int k qi)),(z,.prim (.int k' qj))] [(p,(X,.row t' sz l))] (.sl X (off+lo) (hi-lo)) []:=
 ⟨.slice_lohi TEl.h TSize.h hq hq' hh hl,.cons hx (.cons hy (.cons hz .nil)),.cons hSp .nil⟩
theorem W.slice3{k k' k2:IntKind}{off n lo hi mx:Nat}{qi qj qm:Int}[TEl P t te][TSize P te sz](hx:Rd c T x (.sl X off n))(hy:Rd c T y (.prim (.int k qi)))(hz:Rd c T z (.prim (.int k' qj)))(hu:Rd c T u (.prim (.int k2 qm)))(hSp:At S p (X,.row t' sz l))(hq:qi=(lo:Int))(hq':qj=(hi:Int))(hqm:qm=(mx:Int))(hh:lo<=hi)(hm:hi<=mx)(hl:mx<=n):
  Stp c P ⟨dst,.slice t x (some y) (some z) (some u),ty,pos,after,g⟩ T S [(x,.sl X off n),(y,.prim (.int k qi)),(z,.prim (.int k' qj)),(u,.prim (.int k2 qm))] [(p,(X,.row t' sz l))] .dead []:=
 ⟨.slice3 TEl.h TSize.h hq hq' hqm hh hm hl,.cons hx (.cons hy (.cons hz (.cons hu .nil))),.cons hSp .nil⟩
theorem AWP.frzRow(X:Nat)(l':List AV)(he:AV.frzs l=l')(k:AWP ro P nt cd Q ⟨T,S.set p (X,.row t sz l')⟩)(hS:At S p (X,.row t sz l):=by exact At.f):AWP ro P nt cd Q ⟨T,S⟩:=
 .ghost (St.frzRow (st:=⟨T,S⟩) he hS) λst' e=>by subst e;exact k
end
end
section
section
variable {ro:Option Nat}{P:Program}{nt:Nat}{ops:Array Oper}{Q:Exit->St->Prop}{rest:List Oper}{T:List (Nat×AV)}{S:List AC}{ty t te:TypeId}{sz:Nat}{x y:Operand}{pos:String}{after:Array Edge}{dst:Option Tmp}
theorem DO{zl:List Value}{ag:Bool}(v u:AV)(k:AOps ro P nt ops Q rest ⟨AW T dst (.lst false te sz [v,u]),S⟩)[TEl P t te][TZe P te zl][TSize P te sz][TAg P te ag][hz:Frz v v][hz2:Frz u u](h0:Rd none T x v:=by exact rfl)(h1:Rd none T y u:=by exact rfl)(hzs:zl.length=sz:=by exact rfl)(hag:ag=true\/zl.length=1:=by first|exact .inl rfl|exact .inr rfl)(hn:2*sz<=16777216:=by decide)(hpos:0<2*sz:=by decide)(hf:Dr sz (List.replicate 2 (zAV zl ag)) [(0,v),(1,u)]=some [v,u]:=by exact rfl)(hd:AU dst nt=true:=by rfl):AOps ro P nt ops Q (⟨dst,.buildSlice t 2 #[(0,x),(1,y)],ty,pos,after,none⟩::rest) ⟨T,S⟩:=
 AOps.p (W.litF2 h0 h1 hzs hag hn hpos hf) hd k
end
end
section
theorem Br{P:Program}{res:List ResultVar}{Sf:List AC}{st:St}{r:AV}{S1:List AC}(rs rs':List AV)(c:CVs st.S rs rs' S1)(e:KJ rs'=r:=by rfl)(h:ResVs P st res rs:=by(repeat (first|exact .nil|refine .cons (.tmp (by rfl)) (by rfl) ?_|refine .cons (.cell (by rfl) (by exact At.f) TAg.h TSize.h (by exact rfl) (by exact rfl)) (by rfl) ?_)))(hS:Sf.Sublist S1:=by exact Sub.f):Ends P res Sf (λr' S'=>r'=r/\S'=[]) st:=⟨rs,rs',S1,[],h,c,hS,e,rfl⟩
theorem Ends.sp{P:Program}{res:List ResultVar}{Sf:List AC}{Q:AV->List AC->Prop}{st:St}(rs:List AV)(S':List AC)(e:Q (KJ rs) S')(h:ResVs P st res rs:=by(repeat (first|exact .nil|refine .cons (.tmp (by rfl)) (by rfl) ?_|refine .cons (.cell (by rfl) (by exact At.f) TAg.h TSize.h (by exact rfl) (by exact rfl)) (by rfl) ?_)))(hS:(S'++Sf).Sublist st.S:=by exact Sub.f):Ends P res Sf Q st:=⟨rs,rs,st.S,S',h,LZ _ _,hS,e⟩
theorem It{ro:Option Nat}{P:Program}{nt:Nat}{c d:Code}{Q Q2:Exit->St->Prop}{st:St}{β:Type}(R:β->Prop)(inv:β->St)(h1:AWP ro P nt c (andThen (λst'=>∃b,R b/\st'.Le (inv b)) Q2) st)(h2:∀b,R b->AWP ro P nt d Q (inv b)):AWP ro P nt c (andThen (AWP ro P nt d Q) Q2) st:=
 AWP.mono h1 λe st' h=>by
  cases e
  case normal=>obtain⟨b,hb,hl⟩:=h;exact AWP.weak hl (h2 b hb)
  all_goals exact h
theorem jnR{β:Type}{R:β->Prop}{inv:β->St}{st:St}(b:β)(hR:R b)(h0:st.Le (inv b):=by exact⟨by exact Lk.f,by exact Sub.f⟩):∃b,R b/\st.Le (inv b):=⟨b,hR,h0⟩
theorem Sz{ro:Option Nat}{P:Program}{nt id:Nat}{c d:Code}{Q Q2:Exit->St->Prop}{st:St}{β:Type}(R:β->Prop)(inv:β->St)(h1:AWP ro P nt c (λe st'=>e= .normal/\∃b,R b/\st'.Le (inv b)) st)(h2:∀b,R b->AWP ro P nt d Q (inv b)):AWP ro P nt c (inB id (andThen (AWP ro P nt d Q) Q2)) st:=
 AWP.mono h1 λe st' ⟨he,b,hb,hl⟩=>by subst he;exact AWP.weak hl (h2 b hb)
section
variable {P:Program}{dst:Option Tmp}{ty t ty2:TypeId}{pos:String}{after:Array Edge}{g:Option (Nat×Bool)}{T:List (Nat×AV)}{S:List AC}{c:Option (List Bool)}{x y:Operand}{i j:Int}
theorem Ip(k:Int)(h:i*j=k)(hr: -9223372036854775808<=k/\k<=9223372036854775807)(hx:Rd c T x (.prim (.int .i64 i)))(hy:Rd c T y (.prim (.int .i64 j))):Stp c P ⟨dst,.binOp .mul t x y ty2,ty,pos,after,g⟩ T S [(x,.prim (.int .i64 i)),(y,.prim (.int .i64 j))] [] (.prim (.int .i64 k)) []:=h▸W.mul hx hy (h▸hr)
theorem LU(a b:Nat)(k:Nat)(hi:i=(a:Int))(hj:j=(b:Int))(h0:0<b)(h:a/b=k)(hr:a<=9223372036854775807)(hx:Rd c T x (.prim (.int .i64 i)))(hy:Rd c T y (.prim (.int .i64 j))):Stp c P ⟨dst,.binOp .quo t x y ty2,ty,pos,after,g⟩ T S [(x,.prim (.int .i64 i)),(y,.prim (.int .i64 j))] [] (.prim (.int .i64 (k:Int))) []:=by
 have h1:IntKind.i64.wrap (i.tdiv j)=(k:Int):=by
  subst hi hj h;rw[<-Int.ofNat_tdiv];have:=Nat.div_le_self a b;generalize a/b=q at this⊢;exact Du (by omega) (by omega)
 exact h1▸W.quoW hx hy (by omega)
end
end
section
abbrev uA(x:UInt64):AV:=.prim (.int .u64 ((x.toNat:Nat):Int))
section
variable {P:Program}{dst:Option Tmp}{ty t ty2:TypeId}{pos:String}{after:Array Edge}{g:Option (Nat×Bool)}{T:List (Nat×AV)}{S:List AC}{c:Option (List Bool)}{x y:Operand}{i j:Int}{k k':IntKind}{a b:UInt64}
theorem OpT.res{o:Oper}{xs:List (Operand×AV)}{rS wS:List (Nat×AC)}{r r':Int}(h:OpT P o xs rS (.prim (.int k r)) wS)(e:r=r'):OpT P o xs rS (.prim (.int k r')) wS:=e▸h
theorem GL(a:UInt64):a.toNat<18446744073709551616:=a.toNat_lt
theorem Ir{bop:BinOp}(hb:bop= .and\/bop= .or\/bop= .xor):OpT P ⟨dst,.binOp bop t x y ty2,ty,pos,after,g⟩ [(x,.prim (.int k i)),(y,.prim (.int k j))] [] (.prim (.int k (bits bop k i j))) []:=
 Bz rfl (λw=>by
  rcases hb with rfl|rfl|rfl
  ·rw[binOp_and,intBits_and];rfl
  ·rw[binOp_or,intBits_or];rfl
  ·rw[binOp_xor,intBits_xor];rfl) (.inl (by rcases hb with rfl|rfl|rfl<;>exact⟨by simp,by simp⟩))
theorem Iq(hx:Rd c T x (uA a))(hy:Rd c T y (uA b)):Stp c P ⟨dst,.binOp .and t x y ty2,ty,pos,after,g⟩ T S [(x,uA a),(y,uA b)] [] (uA (a&&&b)) []:=by
 have h:=u64_and_nat a.toNat b.toNat (GL a) (GL b);rw[<-UInt64.toNat_and]at h;exact⟨.res (Ir (.inl rfl)) h,.cons hx (.cons hy .nil),.nil⟩
theorem WI(hx:Rd c T x (uA a))(hy:Rd c T y (uA b)):Stp c P ⟨dst,.binOp .or t x y ty2,ty,pos,after,g⟩ T S [(x,uA a),(y,uA b)] [] (uA (a|||b)) []:=by
 have h:=u64_or_nat a.toNat b.toNat (GL a) (GL b);rw[<-UInt64.toNat_or]at h;exact⟨.res (Ir (.inr (.inl rfl))) h,.cons hx (.cons hy .nil),.nil⟩
theorem Hl(hx:Rd c T x (uA a))(hy:Rd c T y (uA b)):Stp c P ⟨dst,.binOp .xor t x y ty2,ty,pos,after,g⟩ T S [(x,uA a),(y,uA b)] [] (uA (a^^^b)) []:=by
 have h:=u64_xor_nat a.toNat b.toNat (GL a) (GL b);rw[<-UInt64.toNat_xor]at h;exact⟨.res (Ir (.inr (.inr rfl))) h,.cons hx (.cons hy .nil),.nil⟩
theorem Jq(n:Int):IntKind.u64.wrap n=n%18446744073709551616:=IntKind.wrap_u64 n
theorem EY(hx:Rd c T x (uA a))(hy:Rd c T y (uA b)):Stp c P ⟨dst,.binOp .add t x y ty2,ty,pos,after,g⟩ T S [(x,uA a),(y,uA b)] [] (uA (a+b)) []:=by
 have h:IntKind.u64.wrap ((a.toNat:Int)+b.toNat)=(((a+b).toNat:Nat):Int):=by
  rw[Jq,UInt64.toNat_add];omega
 exact⟨.res (FR) h,.cons hx (.cons hy .nil),.nil⟩
theorem F9(hx:Rd c T x (uA a))(hy:Rd c T y (uA b)):Stp c P ⟨dst,.binOp .sub t x y ty2,ty,pos,after,g⟩ T S [(x,uA a),(y,uA b)] [] (uA (a-b)) []:=by
 have h:IntKind.u64.wrap ((a.toNat:Int)-b.toNat)=(((a-b).toNat:Nat):Int):=by
  have h1:=GL a;have h2:=GL b;rw[Jq,UInt64.toNat_sub];omega
 exact⟨.res (FP) h,.cons hx (.cons hy .nil),.nil⟩
theorem DF(hx:Rd c T x (uA a))(hy:Rd c T y (uA b)):Stp c P ⟨dst,.binOp .mul t x y ty2,ty,pos,after,g⟩ T S [(x,uA a),(y,uA b)] [] (uA (a*b)) []:=by
 have h:IntKind.u64.wrap ((a.toNat:Int)*b.toNat)=(((a*b).toNat:Nat):Int):=by
  rw[Jq,UInt64.toNat_mul,Int.natCast_emod,Int.natCast_mul];rfl
 exact⟨.res (FQ) h,.cons hx (.cons hy .nil),.nil⟩
theorem Io(n:Nat)(hn:n<64)(hx:Rd c T x (uA a))(hy:Rd c T y (.prim (.int k' j)))(hj:j=(n:Int)):Stp c P ⟨dst,.binOp .shl t x y ty2,ty,pos,after,g⟩ T S [(x,uA a),(y,.prim (.int k' j))] [] (uA (a<<<UInt64.ofNat n)) []:=by
 have h:IntKind.u64.wrap ((a.toNat:Int)*2^n)=(((a<<<UInt64.ofNat n).toNat:Nat):Int):=by
  rw[Jq,UInt64.toNat_shiftLeft,UInt64.toNat_ofNat',show n%2^64%64=n by omega,Nat.shiftLeft_eq,Int.natCast_emod,Int.natCast_mul,Int.natCast_pow];rfl
 exact⟨.res (OpT.shl hj (by show n<=64;omega)) h,.cons hx (.cons hy .nil),.nil⟩
theorem Di(n:Nat)(hn:n<64)(hx:Rd c T x (uA a))(hy:Rd c T y (.prim (.int k' j)))(hj:j=(n:Int)):Stp c P ⟨dst,.binOp .shr t x y ty2,ty,pos,after,g⟩ T S [(x,uA a),(y,.prim (.int k' j))] [] (uA (a>>>UInt64.ofNat n)) []:=by
 have h:(a.toNat:Int).fdiv (2^n)=(((a>>>UInt64.ofNat n).toNat:Nat):Int):=by
  rw[UInt64.toNat_shiftRight,UInt64.toNat_ofNat',show n%2^64%64=n by omega,Nat.shiftRight_eq_div_pow,Int.fdiv_eq_ediv_of_nonneg _ (Int.pow_nonneg (by decide)),Int.natCast_ediv,Int.natCast_pow];rfl
 exact⟨.res (OpT.shr hj (by show n<=64;omega)) h,.cons hx (.cons hy .nil),.nil⟩
theorem OpT.convW{t2:TypeId}{k0:IntKind}(h1:P.underlying t=some (.int k0))(h2:P.underlying t2=some (.int k')):OpT P ⟨dst,.convert t t2 x,ty,pos,after,g⟩ [(x,.prim (.int k i))] [] (.prim (.int k' (k'.wrap i))) []:=
 .pure_ λm a hx _=>by
  have e1:=(hx (x,.prim (.int k i)) (by simp)).prim;refine⟨.int k' (k'.wrap i),?_,BM _ rfl⟩;simp only at e1;simp[execOp,e1,convert,run_underlying h1,run_underlying h2,Conv.intToInt,Sem.run_bind,Sem.run_pure,Result.andThen_ok]
theorem W.convW{t2:TypeId}(k0 k':IntKind)(r:Int)(h1:P.underlying t=some (.int k0))(h2:P.underlying t2=some (.int k'))(hw:k'.wrap i=r)(hx:Rd c T x (.prim (.int k i))):Stp c P ⟨dst,.convert t t2 x,ty,pos,after,g⟩ T S [(x,.prim (.int k i))] [] (.prim (.int k' r)) []:=⟨.res (OpT.convW h1 h2) hw,.cons hx .nil,.nil⟩
theorem Nw(i:Int):IntKind.u64.wrap i=(((UInt64.ofInt i).toNat:Nat):Int):=by
 rw[Jq];unfold UInt64.ofInt;rw[UInt64.toNat_ofNat'];omega
theorem XW{t2:TypeId}(k0:IntKind)(h1:P.underlying t=some (.int k0))(h2:P.underlying t2=some (.int .u64))(hx:Rd c T x (.prim (.int k i))):Stp c P ⟨dst,.convert t t2 x,ty,pos,after,g⟩ T S [(x,.prim (.int k i))] [] (uA (UInt64.ofInt i)) []:=W.convW k0 .u64 _ h1 h2 (Nw i) hx
theorem F8{t2:TypeId}(k0:IntKind)(n:Nat)(hi:i=(n:Int))(hn:n<18446744073709551616)(h1:P.underlying t=some (.int k0))(h2:P.underlying t2=some (.int .u64))(hx:Rd c T x (.prim (.int k i))):Stp c P ⟨dst,.convert t t2 x,ty,pos,after,g⟩ T S [(x,.prim (.int k i))] [] (uA (UInt64.ofNat n)) []:=by
 refine W.convW k0 .u64 _ h1 h2 ?_ hx;rw[Jq,UInt64.toNat_ofNat',Nat.mod_eq_of_lt (by omega)];omega
theorem Qj{t2:TypeId}(k0:IntKind)(hn:a.toNat<9223372036854775808)(h1:P.underlying t=some (.int k0))(h2:P.underlying t2=some (.int .i64))(hx:Rd c T x (uA a)):Stp c P ⟨dst,.convert t t2 x,ty,pos,after,g⟩ T S [(x,uA a)] [] (.prim (.int .i64 ((a.toNat:Nat):Int))) []:=
 W.convW k0 .i64 _ h1 h2 (Du (by omega) (by omega)) hx
end
end
section
mutual
def AV.loose:AV->Bool
 |.prim _=>true
 |.dead=>true
 |.agg cs=>CA cs
 |.tup vs=>CA vs
 |.lst o _ _ l=>(o||l.isEmpty)&&CA l
 |.bx _ a=>AV.loose a
 |.fn _ cap=>CA cap
 |_=>false
def CA:List AV->Bool
 |[]=>true
 |a::as=>AV.loose a&&CA as
end
theorem HW{α:Type}{f:α->AV}(h:∀a,(f a).loose=true)(l:List α):CA (l.map f)=true:=by
 induction l with
 |nil=>rfl
 |cons a l ih=>rw[List.map_cons,CA,h a,ih];rfl
section
variable {m m':Mem}
mutual
theorem VC.loose(hw:m'.w=m.w):(a:AV)->{c:List Value}->{bs:List Nat}->a.loose=true->VC m a c bs->VC m' a c bs
 |.prim _,_,_,_,k=>k
 |.dead,_,_,_,k=>k
 |.agg cs,_,_,h,k=>VCs.loose hw cs h k
 |.tup cs,_,_,_,k=>k.elim
 |.opt _ _,_,_,_,k=>k.elim
 |.lst false t sz [],_,_,_,⟨e,A,cap,e1,e2,e3,k⟩=>⟨e,A,cap,e1,e2,e3,λh0=>absurd h0 (by simp)⟩
 |.lst false t sz (a::l),_,_,h,k=>by simp[AV.loose]at h
 |.lst true t sz l,_,_,_,.inl k=>.inl k
 |.lst true t sz l,_,_,h,.inr ⟨g,cap,arr,bs',e1,e2,e3,e4,e5,e6,e7,k⟩=>.inr ⟨g,cap,arr,bs',e1,e2,by rw[hw];exact e3,e4,e5,e6,e7,VCs.loose hw l (by simpa[AV.loose]using h) k⟩
 |.bx t a,_,_,h,⟨g,arr,bs',e1,e2,e3,e4,k⟩=>⟨g,arr,bs',e1,e2,by rw[hw];exact e3,e4,VC.loose hw a (by simpa[AV.loose]using h) k⟩
 |.sl x off len,_,_,h,k=>by simp[AV.loose]at h
 |.ptr x i j,_,_,h,k=>by simp[AV.loose]at h
 |.fp cs,_,_,h,k=>by simp[AV.loose]at h
 |.fn f cap,_,_,h,⟨vs,e,k⟩=>⟨vs,e,VCs.loose hw cap (by simpa[AV.loose]using h) k⟩
 |.mp x,_,_,h,k=>by simp[AV.loose]at h
theorem VCs.loose(hw:m'.w=m.w):(as:List AV)->{c:List Value}->{bs:List Nat}->CA as=true->VCs m as c bs->VCs m' as c bs
 |[],_,_,_,k=>k
 |a::as,_,_,h,⟨c1,c2,b1,b2,e1,e2,k1,k2⟩=>⟨c1,c2,b1,b2,e1,e2,VC.loose hw a (by simp[CA]at h;exact h.1) k1,VCs.loose hw as (by simp[CA]at h;exact h.2) k2⟩
end
theorem Ms(hw:m'.w=m.w){a:AV}{v:Value}{bs:List Nat}(hn:ntup a=true)(h:a.loose=true)(k:VV m a v bs):VV m' a v bs:=by
 cases a
 case agg cs=>obtain⟨cells,e,k⟩:=k;exact⟨cells,e,VCs.loose hw cs h k⟩
 case tup cs=>cases hn
 case opt c b=>cases hn
 case dead=>exact k
 all_goals exact VC.loose hw _ h k
theorem VTs.loose(hw:m'.w=m.w):{as:List AV}->{vs:List Value}->{bs:List Nat}->CA as=true->VTs m as vs bs->VTs m' as vs bs
 |[],_,_,_,k=>k
 |a::as,_,_,h,k=>by
  have ha:=VTs.ntup k;simp only[CA,Bool.and_eq_true]at h;obtain⟨v,vs',b1,b2,e1,e2,k1,k2⟩:=(Bi ha).1 k;exact(Bi ha).2 ⟨v,vs',b1,b2,e1,e2,Ms hw ha h.1 k1,VTs.loose hw h.2 k2⟩
theorem VV.loose(hw:m'.w=m.w){a:AV}{v:Value}{bs:List Nat}(h:a.loose=true)(k:VV m a v bs):VV m' a v bs:=by
 cases a
 case tup cs=>obtain⟨vs,e,k⟩:=k;exact⟨vs,e,VTs.loose hw h k⟩
 case opt c b=>simp[AV.loose]at h
 all_goals exact Ms hw rfl h k
end
def Mem.lent(m:Mem)(Z:Zs):Mem:=⟨m.μ,m.U,m.w,λb=>m.F b\/b∈Z.own⟩
theorem Mem.le_lent(m:Mem)(Z:Zs):m.Le (m.lent Z):=⟨λ_ h=>h,λ_ _ _ h=>h,λb h=>⟨.inl h,rfl⟩⟩
theorem Spec.lendG{P:Program}{f:FuncId}{args args':List AV}{S:List AC}{Q:AV->List AC->Prop}(h:Spec P f args [] Q)(hQ:∀r S',Q r S' ->r.loose=true/\S'=[])
  (hv:∀(m:Mem) (Z:Zs) (Sf:List AC),(∀z∈Z,ORel m z.1.1 z.1.2 z.2)->Z.map (·.1)=S++Sf->∀us,VTs m args' us []->VTs (m.lent Z) args us []):
  Spec P f args' S λr S'=>Q r []/\S'=S:=
 ⟨h.fn,λSf m N Z vals h1 h2 h3=>by
  have G1:Good (m.lent Z) (m.lent Z) N [] []:=by
   refine⟨(λz hz=>by cases hz),by simp[Zs.own],(λb hb=>by simp[Zs.own]at hb),λb hb=>?_,by simp[Zs.keys],(λx hx=>by simp[Zs.keys]at hx),h2.usedN,.refl _,rfl,rfl,rfl,Nat.le_refl _⟩;rcases hb with hb|hb
   ·exact h2.frz b hb
   ·exact(h2.blk b (by simpa using hb)).1
  refine(h.run [] (m.lent Z) N [] vals rfl G1 (hv m Z Sf h2.obj h1 _ h3)).mono ?_;rintro e w' ⟨v,r,S',m2,N',Z',br,rfl,rfl,hm,G2,hr,hq⟩;obtain⟨hl,rfl⟩:=hQ r S' hq;have hZ:Z'=[]:=by simpa using hm
  subst hZ;have hF:∀b,m.F b\/b∈Z.own->m2.F b/\m2.w.heap[b]?=m.w.heap[b]?:=λb hb=>G2.le.F b hb
  have hbr:∀b∈br,b<m2.w.heap.size/\¬m2.F b:=λb hb=>G2.blk b (by simpa[Zs.own]using hb)
  refine⟨v,r,S,⟨m.μ,m.U,m2.w,m.F⟩,N,Z,br,rfl,rfl,h1,?_,VV.loose (m:=m2) (m':=⟨m.μ,m.U,m2.w,m.F⟩) rfl hl hr,hq,rfl⟩;have hle:m.Le ⟨m.μ,m.U,m2.w,m.F⟩:=⟨λ_ h=>h,λ_ _ _ h=>h,λb hb=>⟨hb,(hF b (.inl hb)).2⟩⟩;refine⟨λz hz=>?_,?_,λb hb=>?_,λb hb=>?_,h2.keys,h2.keyN,h2.usedN,hle,G2.os,G2.tape,G2.output,G2.size⟩
  ·refine ORel.mono hle (λe=>?_) (λL hL=>hL) (λb hb=>(hF b (.inr (List.mem_flatMap.2 ⟨z,hz,hb⟩))).2) (h2.obj z hz)
   have:=h2.obj z hz;rw[e]at this;exact this.2
  ·rw[List.nodup_append]
   refine⟨by simpa using h2.own,by simpa[Zs.own]using G2.own,λa ha b hb e=>?_⟩;subst e;exact(hbr a hb).2 (hF a (.inr ha)).1
  ·rcases List.mem_append.1 hb with hb|hb
   ·have:=h2.blk b (by simpa using hb)
    exact⟨Nat.lt_of_lt_of_le this.1 G2.size,this.2⟩
   ·exact⟨(hbr b hb).1,λhf=>(hbr b hb).2 (hF b (.inl hf)).1⟩
  ·exact Nat.lt_of_lt_of_le (h2.frz b hb) G2.size⟩
mutual
inductive Ld(S:List AC):AV->AV->Prop
 |frz {a:AV}:Ld S a a.frz
 |nil {t:TypeId} {sz:Nat}:Ld S (.prim (.slice none 0 0)) (.lst false t sz [])
 |agg {as bs:List AV} (h:Lds S as bs):Ld S (.agg as) (.agg bs)
 |lst {o:Bool} {t:TypeId} {sz:Nat} {l l':List AV} (h:Lds S l l'):Ld S (.lst o t sz l) (.lst false t sz l')
 |sl {X off n p:Nat} {t:TypeId} {sz:Nat} {l l':List AV} (h:At S p (X,.row t sz l)) (hn:off+n<=l.length) (k:Lds S ((l.drop off).take n) l'):Ld S (.sl X off n) (.lst false t sz l')
 |ptr {X p:Nat} {t:TypeId} {sz:Nat} {a b:AV} {cs:List AV} (h:At S p (X,.row t sz [a])) (k:Ld S a b) (e:b.cells=cs):Ld S (.ptr X 0 0) (.fp cs)
inductive Lds(S:List AC):List AV->List AV->Prop
 |nil:Lds S [] []
 |cons {a b:AV} {as bs:List AV} (h:Ld S a b) (k:Lds S as bs):Lds S (a::as) (b::bs)
end
theorem Lds.len{S:List AC}:∀{as bs:List AV},Lds S as bs->bs.length=as.length
 |[],_,h=>by cases h;rfl
 |a::as,_,h=>by cases h with|cons h k=>simp[Lds.len k]
mutual
theorem Ld.width{S:List AC}:∀{a b:AV},Ld S a b->b.width=a.width
 |_,_,.frz=>EE _
 |_,_,.nil=>rfl
 |_,_,.agg h=>Lds.widths h
 |_,_,.lst _=>rfl
 |_,_,.sl _ _ _=>rfl
 |_,_,.ptr _ _ _=>rfl
theorem Lds.widths{S:List AC}:∀{as bs:List AV},Lds S as bs->AV.widths bs=AV.widths as
 |_,_,.nil=>rfl
 |_,_,.cons h k=>by simp only[AV.widths,Ld.width h,Lds.widths k]
end
theorem Lds.wsz{S:List AC}{sz:Nat}:∀{a b:List AV},Lds S a b->(∀e∈a,e.width=sz)->∀e∈b,e.width=sz
 |_,_,.nil,_,e,he=>by cases he
 |a::as,b::bs,.cons h k,hw,e,he=>by
  rcases List.mem_cons.1 he with rfl|he
  ·rw[Ld.width h];exact hw a (by simp)
  ·exact Lds.wsz k (λx hx=>hw x (by simp[hx])) e he
section
variable {m:Mem}{S Sf:List AC}{Z:Zs}
theorem Q8(hO:∀z∈Z,ORel m z.1.1 z.1.2 z.2)(hm:Z.map (·.1)=S++Sf){p X:Nat}{t:TypeId}{sz:Nat}{l:List AV}(h:At S p (X,.row t sz l)):∃bs,ORel m X (.row t sz l) bs/\∀b∈bs,b∈Z.own:=by
 have hg:=h.get;obtain⟨hp,_⟩:=List.getElem?_eq_some_iff.1 hg;have h2:(Z.map (·.1))[p]?=some (X,.row t sz l):=by rw[hm,List.getElem?_append_left hp];exact hg
 rw[AG]at h2;cases hz:Z[p]? with
 |none=>rw[hz]at h2;cases h2
 |some z=>
  rw[hz]at h2;injection h2 with h2
  have hzm:=Ao hz;have:=hO z hzm;have h2:z.1=(X,AO.row t sz l):=h2;rw[h2]at this;exact⟨z.2,this,λb hb=>List.mem_flatMap.2 ⟨z,hzm,hb⟩⟩
mutual
theorem Ld.vc(hO:∀z∈Z,ORel m z.1.1 z.1.2 z.2)(hm:Z.map (·.1)=S++Sf):∀{a b:AV},Ld S a b->∀{c:List Value} {bs:List Nat},(∀x∈bs,x∈Z.own)->VC m a c bs->VC (m.lent Z) b c []
 |_,_,.frz,c,bs,hb,k=>VC.frz (m.le_lent Z) _ (λb hbb=>⟨.inr (hb b hbb),rfl⟩) k
 |_,_,.nil,c,bs,hb,k=>by
  obtain⟨⟨rfl,_⟩,_⟩:=k;exact⟨rfl,none,0,rfl,Nat.le_refl _,(λe he=>by cases he),λh=>absurd h (by simp)⟩
 |_,_,.agg h,c,bs,hb,k=>Lds.vcs hO hm h hb k
 |_,_,.lst (o:=false) (l':=l') h,c,bs,hb,⟨e,A,cap,e1,e2,e3,k⟩=>by
  refine⟨rfl,A,cap,by rw[h.len];exact e1,by rw[h.len];exact e2,h.wsz e3,λh0=>?_⟩;rw[h.len]at h0⊢;obtain⟨b,off,arr,t,r,q1,q2,q3,q4⟩:=k h0;exact⟨b,off,arr,t,r,q1,.inl q2,q3,Lds.vcs hO hm h (by simp) q4⟩
 |_,_,.lst (o:=true) h,c,bs,hb,.inl ⟨e1,e2,e3⟩=>by
  subst e2;cases h;exact⟨rfl,none,0,e1,Nat.le_refl _,(λe he=>by cases he),λh=>absurd h (by simp)⟩
 |_,_,.lst (o:=true) h,c,bs,hb,.inr ⟨g,cap,arr,bs',e1,e2,e3,e4,e5,e6,e7,k⟩=>by
  refine⟨rfl,some ⟨g,0,none⟩,cap,by rw[h.len];exact e1,by rw[h.len];exact e5,h.wsz e7,λh0=>?_⟩;rw[h.len];exact⟨g,0,arr,_,(0,0),rfl,.inr (hb g (by simp[e2])),e3,Lds.vcs hO hm h (λx hx=>hb x (by rw[e2];exact List.mem_cons_of_mem _ hx)) (by rw[List.drop_zero];exact k)⟩
 |_,_,.sl (off:=off) (n:=n) (l:=l) (l':=l') h hn hl,c,bs,hb,⟨_,hU,A,q,e1,hs⟩=>by
  obtain⟨bs2,hR,hb2⟩:=Q8 hO hm h;obtain⟨_,L,hL,hsz,hR⟩:=hR;have hfl:l'.length=n:=by rw[hl.len,Ah,Bh];omega
  refine⟨rfl,A,q,by rw[hfl];exact e1,?_,?_,λh0=>?_⟩
  ·rcases hs L hL with⟨_,h2,_,h3⟩|⟨_,h2,o,h3,_⟩
   ·omega
   ·injection h3 with h4 h5 h6
    omega
  ·refine hl.wsz λe he=>?_
   rcases hR with⟨_,rfl,_⟩|⟨_,arr,bs',_,_,_,_,_,hw,_⟩
   ·simp at he
   ·exact hw e (List.mem_of_mem_drop (List.mem_of_mem_take he))
  ·rw[hfl]at h0⊢
   rcases hs L hL with⟨_,_,_,h3⟩|⟨h1,h2,o,h3,h4⟩
   ·omega
   ·rcases hR with⟨_,rfl,_⟩|⟨_,arr,bs',rfl,h6,h7,h8,h9,h10,h11⟩
    ·simp at hn;omega
    ·injection h3 with h12 h13 h14
     have ho:=h4 (.inl (by omega));obtain⟨p1,p2,e1,_,k1⟩:=VCs.take h10 h11 (k:=off) (by omega);obtain⟨p3,p4,e2,k2,_⟩:=VCs.take (l:=l.drop off) (λe he=>h10 e (List.mem_of_mem_drop he)) k1 (k:=n) (by rw[Bh];omega);refine⟨L.blk,o,arr,_,(0,0),h12,.inr (hb2 _ (by simp)),h6,?_⟩
     have hc:(arr.toList.drop o).take (n*L.sz)=((arr.toList.take (l.length*L.sz)).drop (off*L.sz)).take (n*L.sz):=by
      rw[ho,List.drop_take,List.take_take,Nat.min_eq_left];rw[<-Nat.sub_mul];exact Nat.mul_le_mul_right _ (by omega)
     subst hsz;rw[hc];exact Lds.vcs hO hm hl (λx hx=>hb2 x (by simp[e1,e2,hx])) k2
 |_,_,.ptr (a:=a) (b:=b) h hl e,c,bs,hb,⟨_,hU,A,e1,hA⟩=>by
  subst e;obtain⟨bs2,hR,hb2⟩:=Q8 hO hm h;obtain⟨_,L,hL,hsz,hR⟩:=hR;have hA:=hA L hL;subst hA;rcases hR with⟨_,h5,_⟩|⟨_,arr,bs',rfl,h6,h7,h8,h9,h10,h11⟩
  ·cases h5
  ·have hw:=h10 a (by simp)
   have hv:VC m a (arr.toList.take a.width) bs':=by rw[hw];simpa using VCs.one.1 h11
   have hf:=VC.cells (Ld.vc hO hm hl (λx hx=>hb2 x (by simp[hx])) hv);refine⟨rfl,L.blk,0*L.sz+0,arr,_,(0,0),e1,.inr (hb2 _ (by simp)),h6,?_⟩
   have hl2:AV.widths b.cells=a.width:=by
    rw[<-VCs.len _ hf,Ah,Nat.min_eq_left];have:=VC.len _ hv;rw[Ah]at this;omega
   rw[hl2];simpa using hf
theorem Lds.vcs(hO:∀z∈Z,ORel m z.1.1 z.1.2 z.2)(hm:Z.map (·.1)=S++Sf):∀{as bs:List AV},Lds S as bs->∀{c:List Value} {bl:List Nat},(∀x∈bl,x∈Z.own)->VCs m as c bl->VCs (m.lent Z) bs c []
 |_,_,.nil,c,bl,hb,⟨e,_⟩=>⟨e,rfl⟩
 |_,_,.cons h k,c,bl,hb,⟨c1,c2,b1,b2,e1,e2,k1,k2⟩=>⟨c1,c2,[],[],e1,rfl,Ld.vc hO hm h (λx hx=>hb x (by simp[e2,hx])) k1,Lds.vcs hO hm k (λx hx=>hb x (by simp[e2,hx])) k2⟩
end
end
theorem Ld.tup{S:List AC}{a b:AV}(h:Ld S a b)(ha:ntup a=true):ntup b=true:=by
 cases h with
 |frz=>cases a<;>first|rfl|cases ha
 |_=>rfl
section
variable {m:Mem}{S Sf:List AC}{Z:Zs}
theorem Ld.vv(hO:∀z∈Z,ORel m z.1.1 z.1.2 z.2)(hm:Z.map (·.1)=S++Sf){a b:AV}(h:Ld S a b){u:Value}(k:VV m a u []):VV (m.lent Z) b u []:=by
 cases h with
 |frz=>exact VV.frz (m.le_lent Z) (by simp) k
 | @nil t sz=>exact Ld.vc hO hm (Ld.nil (S:=S) (t:=t) (sz:=sz)) (bs:=[]) (by simp) k
 |agg h=>obtain⟨cells,e,k⟩:=k;exact⟨cells,e,Lds.vcs hO hm h (by simp) k⟩
 |lst h=>exact Ld.vc hO hm (.lst h) (by simp) k
 |sl h hn hl=>exact Ld.vc hO hm (.sl h hn hl) (by simp) k
 |ptr h hl e=>exact Ld.vc hO hm (.ptr h hl e) (by simp) k
theorem Lds.vts(hO:∀z∈Z,ORel m z.1.1 z.1.2 z.2)(hm:Z.map (·.1)=S++Sf):∀{as bs:List AV},Lds S as bs->∀{us:List Value},VTs m as us []->VTs (m.lent Z) bs us []
 |_,_,.nil,us,k=>k
 |_,_,.cons h hk,us,k=>by
  have ha:=VTs.ntup k;obtain⟨v,vs',b1,b2,e1,e2,k1,k2⟩:=(Bi ha).1 k;obtain⟨rfl,rfl⟩:b1=[]/\b2=[]:=by simpa using e2.symm
  exact(Bi (h.tup ha)).2 ⟨v,vs',[],[],e1,rfl,h.vv hO hm k1,Lds.vts hO hm hk k2⟩
end
theorem Spec.lend{P:Program}{f:FuncId}{args args':List AV}{S:List AC}{Q:AV->List AC->Prop}(h:Spec P f args [] Q)(hQ:∀r S',Q r S' ->r.loose=true/\S'=[])(k:Lds S args' args):Spec P f args' S λr S'=>Q r []/\S'=S:=
 h.lendG hQ λm Z Sf hO hm us hu=>k.vts hO hm hu
theorem PS.lend{P:Program}{f:FuncId}{args args':List AV}{S:List AC}{r:AV}(h:PS P f args r)(hr:r.loose=true)(k:Lds S args' args):Spec P f args' S λr' S'=>r'=r/\S'=S:=
 (Spec.lend h (λr' S' ⟨e1,e2⟩=>⟨e1▸hr,e2⟩) k).mono λr' S' ⟨⟨e1,_⟩,e2⟩=>⟨e1,e2⟩
def Lq:Nat->List AC->List (Nat×AC)
 |_,[]=>[]
 |k,z::l=>(k,z)::Lq (k+1) l
theorem Oe:∀(k:Nat) (l:List AC),(Lq k l).map (·.2)=l
 |_,[]=>rfl
 |k,z::l=>by rw[Lq,List.map_cons,Oe]
theorem Kk:∀(k:Nat) (l:List AC),(Lq k l).map (·.1)=List.range' k l.length
 |_,[]=>rfl
 |k,z::l=>by rw[Lq,List.map_cons,Kk,Bm,List.range'_succ]
theorem Uu:∀(A:List AC) (z:AC) (C:List AC),At (A++z::C) A.length z
 |[],z,C=>.here
 |a::A,z,C=>.next (Uu A z C)
theorem MU:∀(A B C:List AC),Gets (A++(B++C)) (Lq A.length B)
 |A,[],C=>.nil
 |A,z::B,C=>.cons (Uu A z (B++C)) (by
   have:=MU (A++[z]) B C;rw[AL,AP]at this;exact this)
section
variable {P:Program}{ro:Option Nat}{nt:Nat}{ops:Array Oper}{Q:Exit->St->Prop}{rest:List Oper}{T:List (Nat×AV)}{S:List AC}{ty:TypeId}{pos:String}{after:Array Edge}{dst:Option Tmp}{ats:Array TypeId}{f:FuncId}{xs:List (Operand×AV)}{args:List AV}
end
section
variable {P:Program}{ro:Option Nat}{nt:Nat}{ops:Array Oper}{Q:Exit->St->Prop}{rest:List Oper}{T:List (Nat×AV)}{S:List AC}{ty:TypeId}{pos:String}{after:Array Edge}{dst:Option Tmp}{ats:Array TypeId}{f:FuncId}{r v:AV}{nw:List AC}
end
theorem Lds.frzs{S:List AC}:∀l:List AV,Lds S l (AV.frzs l)
 |[]=>.nil
 |a::l=>.cons .frz (Lds.frzs l)
theorem Ld.fz{S:List AC}{a b:AV}[h:Frz a b]:Ld S a b:=h.h▸ .frz
theorem Lds.fz{S:List AC}{a b:List AV}[h:Frzs a b]:Lds S a b:=h.h▸ .frzs a
theorem RP{S:List AC}{X n p:Nat}{t:TypeId}{sz:Nat}{l l':List AV}(hf:Lds S l l')(h:At S p (X,.row t sz l):=by exact At.f)(hn:n=l.length:=by rfl):Ld S (.sl X 0 n) (.lst false t sz l'):=
 .sl h (by omega) (by rw[List.drop_zero,hn,List.take_length];exact hf)
end
section
section
variable {P:Program}{dst:Option Tmp}{ty t ty2:TypeId}{pos:String}{after:Array Edge}{g:Option (Nat×Bool)}{T:List (Nat×AV)}{S:List AC}{c:Option (List Bool)}{x y:Operand}{a b:UInt64}
theorem LT(hb:b.toNat≠0)(hx:Rd c T x (uA a))(hy:Rd c T y (uA b)):Stp c P ⟨dst,.binOp .rem t x y ty2,ty,pos,after,g⟩ T S [(x,uA a),(y,uA b)] [] (uA (a%b)) []:=by
 have h:((a.toNat:Int)).tmod (b.toNat:Int)=(((a%b).toNat:Nat):Int):=by rw[UInt64.toNat_mod];exact(Int.ofNat_tmod ..).symm
 exact⟨.res (OpT.rem (by omega)) h,.cons hx (.cons hy .nil),.nil⟩
theorem Qi(hb:b.toNat≠0)(hx:Rd c T x (uA a))(hy:Rd c T y (uA b)):Stp c P ⟨dst,.binOp .quo t x y ty2,ty,pos,after,g⟩ T S [(x,uA a),(y,uA b)] [] (uA (a/b)) []:=by
 have h:IntKind.u64.wrap (((a.toNat:Int)).tdiv (b.toNat:Int))=(((a/b).toNat:Nat):Int):=by
  rw[UInt64.toNat_div,<-Int.ofNat_tdiv,Jq];have:=Nat.div_le_self a.toNat b.toNat;have:=a.toNat_lt;generalize a.toNat/b.toNat=q at*;omega
 exact⟨.res (OpT.quo (by omega)) h,.cons hx (.cons hy .nil),.nil⟩
theorem Qk{i:Int}(k:Int)(h: -i=k)(hr: -9223372036854775808<=k/\k<=9223372036854775807)(hx:Rd c T x (.prim (.int .i64 i))):Stp c P ⟨dst,.unOp .neg t x,ty,pos,after,g⟩ T S [(x,.prim (.int .i64 i))] [] (.prim (.int .i64 k)) []:=by
 have e:IntKind.i64.wrap (-i)=k:=by rw[h];exact Du hr.1 hr.2
 exact e▸W.negW hx
end
section
variable {P:Program}{ro:Option Nat}{nt:Nat}{ops:Array Oper}{Q:Exit->St->Prop}{rest:List Oper}{T:List (Nat×AV)}{S:List AC}{op:Op}{ty:TypeId}{pos:String}{after:Array Edge}{dst:Option Tmp}
theorem Q3{nt:Nat}{m0:Mem}{a:Act}{w:World}(hd:∀d,dst=some d->d<nt)(h:Rel nt m0 ⟨T,S⟩ a w):Rel nt m0 ⟨AW T dst noA,S⟩ (a.put dst undef) w:=by
 obtain⟨m,N,Z,h1,h2,h3,h4⟩:=h;exact⟨m,N,Z,h1,h2,h3,h4.put hd ⟨rfl,(λh=>by cases h),λ_=>rfl⟩⟩
theorem AOps.goNU{g:Nat}{b b':Bool}{t:Nat}(k:AOps ro P nt ops Q rest ⟨AW T dst noA,S⟩)(ht:(ops[g]?).bind (·.dst)=some t:=by rfl)(hv:Ab T t=some (.prim (.bool b')):=by rfl)(hb:b'= !b:=by first|rfl|assumption|(simp only[Bool.not_true,Bool.not_false];assumption))(hd:AU dst nt=true:=by rfl):AOps ro P nt ops Q (⟨dst,op,ty,pos,after,some (g,b)⟩::rest) ⟨T,S⟩:=by
 intro m0 a w hr;refine wpListIn_step λK hK=>?_
 have hy:yielded ops a.tmps g=some !b:=by
  obtain⟨m,N,Z,h1,h2,h3,h4,h5,h6⟩:=hr;obtain⟨u,hu1,hu2⟩:=h6 t _ hv;obtain⟨⟨e,_⟩,_⟩:=hu2;injection e with e
  subst e hb;simp[yielded,ht,hu1]
 rw[if_neg (by simp[Region.wanted,hy])];exact⟨λ_ _=>trivial,hK _ _ (k m0 _ w (Q3 (Bo hd) hr))⟩
theorem AOps.goNV{g:Nat}{b:Bool}{t:Nat}(k:AOps ro P nt ops Q rest ⟨AW T dst noA,S⟩)(ht:(ops[g]?).bind (·.dst)=some t:=by rfl)(hv:Ab T t=some noA:=by rfl)(hd:AU dst nt=true:=by rfl):AOps ro P nt ops Q (⟨dst,op,ty,pos,after,some (g,b)⟩::rest) ⟨T,S⟩:=by
 intro m0 a w hr;refine wpListIn_step λK hK=>?_
 have hy:yielded ops a.tmps g=none:=by
  obtain⟨m,N,Z,h1,h2,h3,h4,h5,h6⟩:=hr;obtain⟨u,hu1,_,_,hu2⟩:=h6 t _ hv;have hu2:=hu2 rfl;subst hu2;simp[yielded,ht,hu1,undef]
 rw[if_neg (by simp[Region.wanted,hy])];exact⟨λ_ _=>trivial,hK _ _ (k m0 _ w (Q3 (Bo hd) hr))⟩
end
theorem Q4(g:Nat)(hg:g%2=1):∀n:Nat,∃x t:Nat,g*x=1+2^n*t
 |0=>⟨1,g-1,by simp;omega⟩
 |n+1=>by
  obtain⟨x,t,h⟩:=Q4 g hg n;rcases Nat.mod_two_eq_zero_or_one t with e|e
  ·refine⟨x,t/2,?_⟩
   rw[h,Nat.pow_succ,Nat.mul_assoc,show 2*(t/2)=t by omega]
  ·refine⟨x+2^n,(t+g)/2,?_⟩
   rw[Nat.mul_add,h,Nat.pow_succ,Nat.mul_assoc,show 2*((t+g)/2)=t+g by omega,Nat.mul_add,Nat.mul_comm g (2^n)];omega
theorem Tc(s g:UInt64)(hg:g.toNat%2=1):∃k:Nat,1<=k/\k<=18446744073709551616/\(s.toNat+k*g.toNat)%18446744073709551616=0:=by
 obtain⟨x,t,h⟩:=Q4 g.toNat hg 64;have hs:=s.toNat_lt
 have e:(18446744073709551616-s.toNat)*x*g.toNat=(18446744073709551616-s.toNat)+18446744073709551616*((18446744073709551616-s.toNat)*t):=by
  rw[Nat.mul_assoc,Nat.mul_comm x,h,Nat.mul_add,Nat.mul_one,show(2:Nat)^64=18446744073709551616 from rfl,Nat.mul_left_comm]
 obtain⟨q,hq⟩:=nm ((18446744073709551616-s.toNat)*x);rw[hq]at e
 have h0:(s.toNat+q*g.toNat)%18446744073709551616=0:=by
  rw[e];generalize (18446744073709551616-s.toNat)*t=u;omega
 obtain⟨r,hr⟩:=nm (q%18446744073709551616);have hqd:q=18446744073709551616*(q/18446744073709551616)+r:=by rw[<-hr];exact(Nat.div_add_mod q _).symm
 have hrg:(s.toNat+r*g.toNat)%18446744073709551616=0:=by
  rw[hqd,Nat.add_mul,Nat.mul_assoc]at h0;generalize q/18446744073709551616*g.toNat=u at h0;generalize r*g.toNat=v at h0⊢;omega
 by_cases hr0:r=0
 ·refine⟨18446744073709551616,by omega,Nat.le_refl _,?_⟩
  subst hr0;rw[Nat.zero_mul]at hrg;generalize g.toNat=v at hrg⊢;omega
 ·exact⟨r,by omega,by omega,hrg⟩
end
section
variable {ro:Option Nat}
open Go.RowKit
abbrev YO:=Nat->List AV×List AC
def Vz(P:Program)(y:Value)(xs:List YO)(J:Nat->List AC->Prop)(Jx:List AC->Prop):Prop:=
 ∃l,y= .func (.yield l) #[] #[]/\∀i vs,xs[i]?=some vs->∀C Sl,J i Sl->∀(Si:List AC) (m:Mem) (N:Nat) (Z:Zs) (us:List Value),Z.map (·.1)=Si++((vs C).2++Sl)->Good m m N Z []->VTs m (vs C).1 us []->
  ∃f tmps assign body,(Instr.yield l us.toArray).run P m.w= .ok (.round l f tmps assign body) m.w/\RoundIn (FW none) 0 P l f tmps assign body m.w λe w'=>
   ∃b Sl' m' N' Z',e= .returned (.bool b)/\m'.w=w' /\Z'.map (·.1)=Si++Sl' /\Good m m' N' Z' []/\(b=true->J (i+1) Sl')/\(b=false->Jx Sl')
def XX(P:Program)(f:FuncId)(cap:List AV)(xs:List YO):Prop:=
 Kh P f=true/\∀y J Jx,Vz P y xs J Jx->∀Sl,J 0 Sl->Spec P f (.prim y::cap) Sl λ_ S'=>J xs.length S' \/Jx S'
section
variable {P:Program}{nt:Nat}{ops:Array Oper}{Q:Exit->St->Prop}{rest:List Oper}{T:List (Nat×AV)}{S Si Sl Sf:List AC}{y:Value}{xs:List YO}{J:Nat->List AC->Prop}{Jx:List AC->Prop}
variable {dst:Option Tmp}{ty:TypeId}{pos:String}{after:Array Edge}{x:Operand}{ys:List (Operand×AV)}{ats:Array TypeId}{i:Nat}
theorem PG{C:Nat}{x0:YO}{ob:List AC}(hY:Vz P y xs J Jx)(hJ:J i Sl)(hi:xs[i]?=some x0)(hx1:(x0 C).1=ys.map (·.2))(hx2:(x0 C).2=ob)(hx:ev T x=some (.prim y))(has:Evs T ys)(ht:Am ys=true)(hd:AU dst nt=true)
  (kt:∀Sl',J (i+1) Sl' ->AOps ro P nt ops Q rest ⟨AW T dst (.prim (.bool true)),Si++(Sl'++Sf)⟩) (kf:∀Sl',Jx Sl' ->AOps ro P nt ops Q rest ⟨AW T dst (.prim (.bool false)),Si++(Sl'++Sf)⟩):
  AOps ro P nt ops Q (⟨dst,.call ⟨.value x,(ys.map (·.1)).toArray,ats⟩,ty,pos,after,none⟩::rest) ⟨T,Si++((ob++Sl)++Sf)⟩:=by
 rintro m0 a w ⟨m,N,Z,rfl,h2,h3,h4⟩;refine wpListIn_plain rfl λK hK=>?_
 obtain⟨l,rfl,hY⟩:=hY;have hyv:=(h4.ev hx).prim;obtain⟨Zi,Zr,rfl,hzi,hzr⟩:=Az (A:=Si) (B:=(ob++Sl)++Sf) h2;obtain⟨Zl,Zf,rfl,hzl,hzf⟩:=Az hzr
 have hp:(Zi++(Zl++Zf)).Perm ((Zi++Zf)++Zl):=by
  rw[AP];exact List.Perm.append_left _ List.perm_append_comm
 have hus:VTs m (ys.map (·.2)) (ys.map λq=>a.eval q.1) []:=EW (CQ ht) λq hq=>h4.ev (has.all q hq)
 obtain⟨f,tmps,assign,body,hrun,hR⟩:=hY i _ hi C Sl hJ (Si++Sf) m N _ _ (by simp[hzi,hzf,hzl,hx2]) (h3.perm hp).self (by rw[hx1];exact hus);refine⟨λ_ _=>trivial,?_⟩
 have hexec:(Oper.semAt (FW ro).round a.eval ⟨dst,.call ⟨.value x,(ys.map (·.1)).toArray,ats⟩,ty,pos,after,none⟩).run P m.w= .ok (.round l f tmps assign body) m.w:=by
  rw[Oper.semAt_eq _ _ _ (by simp)];simp only[execOp,resolve,hyv,Deferred.ofValue,invoke,Sem.run_bind,Sem.run_pure,Result.andThen_ok];rw[show(#[]:Array Value)++Array.map a.eval (ys.map (·.1)).toArray=(ys.map λq=>a.eval q.1).toArray from by simp[Function.comp_def]];exact hrun
 rw[hexec];refine⟨λh=>(by simp[FW,Fence.wide]at h),RoundIn.mono (F:=FW ro) (n:=0-1) hR λe w' he=>?_⟩;obtain⟨b,Sl',m',N',Z',rfl,rfl,hm,G',kT,kF⟩:=he;obtain⟨Za,Zl',rfl,hza,hzl'⟩:=Az hm;obtain⟨Zi',Zf',rfl,hzi',hzf'⟩:=Az hza
 have hp':((Zi'++Zf')++Zl').Perm (Zi'++(Zl'++Zf')):=by
  rw[AP];exact List.Perm.append_left _ List.perm_append_comm
 refine hK _ _ ?_
 have hrel:Rel nt m0 ⟨AW T dst (.prim (.bool b)),Si++(Sl'++Sf)⟩ (a.put dst (.bool b)) m'.w:=
  ⟨m',N',_,rfl,by simp[hzi',hzf',hzl'],(h3.after G').perm hp',(h4.mono G'.le).put (Bo hd) (BM _)⟩
 cases b with
 |true=>exact kt Sl' (kT rfl) m0 _ _ hrel
 |false=>exact kf Sl' (kF rfl) m0 _ _ hrel
theorem Qp{β:Type}{g:Operand}{ps:Array Tmp}{assign body:Code}{Q:Exit->St->Prop}{T:List (Nat×AV)}{S Sf:List AC}{gf:FuncId}{cap:List AV}{xs:List YO}(hI:XX P gf cap xs)(inv:β->List AC)(R:Nat->β->Prop)(b0:β)(hR:R 0 b0)
  (hround:∀(i:Nat) vs C b l F1 F2,xs[i]?=some vs->R i b->AWP (some l) P nt assign (XS F1 F2 λst=>AWP (some l) P nt body (W1 P nt Q T Sf (λpre=>∃b',R (i+1) b' /\pre=inv b') F2) st) ⟨RY T ps.toList (vs C).1,(vs C).2++(inv b++F1)⟩)
  (hdone:∀b,R xs.length b->Q .normal ⟨T,inv b++Sf⟩)
  (hg:ev T g=some (.fn gf cap)) (hs:B4 cap=true) (hps:ps.toList.all (Nat.blt · nt)=true) (hlen:∀vs∈xs,∀C,(vs C).1.length=ps.size) (hS:(inv b0++Sf).Sublist S):AWP none P nt (.rangeFunc g ps assign body) Q ⟨T,S⟩:=by
 intro m0 a w hr;obtain⟨m,N,Z,rfl,h2,h3,h4⟩:=hr.sub hS;obtain⟨cs,e1,hcap⟩:=h4.ev hg;injection e1 with e1
 refine wpIn_rangeFunc ?_;intro fn _;obtain⟨rec,hrec⟩:∃rec:LoopState->Option Code->Loop,rec=λst pe=>{state:=st,pending:=pe,fn,tmps:=a.tmps,params:=ps,assign,body,defers:=m.w.heap.size}:=⟨_,rfl⟩
 obtain⟨G1,hle1⟩:=h3.newFrz (.deferred (some [])) _ rfl;obtain⟨G2,hle2⟩:=G1.newRaw (.loop (rec .ready none)) _ rfl;have hle12:=hle1.trans hle2;obtain⟨m2,hm2⟩:∃m2:Mem,(⟨m.μ,λy=>m.U y\/y=N,(m.w.alloc (.deferred (some []))).alloc (.loop (rec .ready none)),λb=>m.F b\/b=m.w.heap.size⟩:Mem)=m2:=⟨_,rfl⟩;have hw2:(m.w.alloc (.deferred (some []))).alloc (.loop (rec .ready none))=m2.w:=by rw[<-hm2]
 have G2':Good m0 m2 (N+1) (((N,.raw (m.w.heap.size+1) (.loop (rec .ready none))),[m.w.heap.size+1])::Z) []:=by
  rw[<-hm2];have:=G2;simp only[World.size_alloc]at this;exact this
 have hle:m.Le m2:=by rw[<-hm2];exact hle12
 have hV2:∀d v,Ab T d=some v->∃u,a.tmps[d]?=some u/\VV m2 v u []:=(h4.mono hle).2.2;obtain⟨K,hK⟩:∃K:AV->Value->Prop,K=λv u=>∃d,Ab T d=some v/\a.tmps[d]?=some u:=⟨_,rfl⟩
 obtain⟨G3,hle3⟩:=G2'.note K (λv u h=>by
  rw[hK]at h;obtain⟨d,h5,h6⟩:=h;obtain⟨u',h7,h8⟩:=hV2 d v h5;rw[h6]at h7;injection h7 with h7
  rw[h7];exact h8) _ rfl
 obtain⟨m3,hm3⟩:∃m3:Mem,{m2 with U:=λy=>m2.U y\/y=N+1}=m3:=⟨_,rfl⟩;rw[hm3]at G3 hle3;have hw3:m3.w=m2.w:=by rw[<-hm3]
 have h0F:m3.F m.w.heap.size:=by rw[<-hm3,<-hm2];exact .inr rfl
 have h0D:m3.w.heap[m.w.heap.size]?=some (.deferred (some [])):=by
  rw[hw3,<-hw2];exact(Below.heap_alloc _ _ _ (by simp)).trans (World.alloc_heap_new m.w _)
 have hle03:m.Le m3:=hle.trans hle3;obtain⟨l,hl⟩:=nm (m.w.heap.size+1);rw[hl]at G3;clear G1 G2 G2' hle1 hle2 hle12;obtain⟨Zi,Zf,rfl,hzi,hzf⟩:=Az (A:=inv b0) (B:=Sf) h2
 have hsl:∀(A B C D:List (AC×List Nat)),(A++(B++(C++D))).Perm (C++(B++(A++D))):=λA B C D=>by
  have p1:(A++(B++(C++D))).Perm ((C++(B++A))++D):=by
   rw[<-AP,<-AP];refine List.Perm.append_right _ ?_;refine List.perm_append_comm.trans (List.Perm.append_left _ List.perm_append_comm)
  simpa[AP]using p1
 let J:Nat->List AC->Prop:=λi Sl=>∃b,R i b/\Sl=inv b++(N,.raw l (.loop (rec .ready none)))::(N+1,.tv K)::Sf
 let Jx:List AC->Prop:=λSl=>∃c pre,Sl=pre++(N,.raw l (.loop (rec .done (some c))))::(N+1,.tv K)::Sf/\AWP none P nt c Q ⟨T,pre++Sf⟩
 have hY:Vz P (.func (.yield l) #[] #[]) xs J Jx:=by
  refine⟨l,rfl,?_⟩;rintro i vs hi C Sl ⟨b,hRb,rfl⟩ Si mr Nr Zr us hZr Gr hus
  have hRel0:Rel nt mr ⟨RY T ps.toList (vs C).1,((vs C).2++inv b)++(N,.raw l (.loop (rec .ready none)))::((N+1,.tv K)::Sf++Si)⟩ {tmps:=(ps.toList.zip us).foldl (λt q=>t.setIfInBounds q.1 q.2) a.tmps,defers:=[]} mr.w:=by
   obtain⟨Za,Zb,rfl,hza,hzb⟩:=Az (A:=Si) hZr;have hp:(Za++Zb).Perm (Zb++Za):=List.perm_append_comm;refine⟨mr,Nr,Zb++Za,rfl,by simp[hza,hzb],Gr.perm hp,TRel.zip ⟨h4.1,DRel.nil rfl,λd v hd=>?_⟩ hus λd hd=>?_⟩
   ·have hO:∃bs,((N+1,AO.tv K),bs)∈Zb:=by
     have:(N+1,AO.tv K)∈Zb.map (·.1):=by rw[hzb];simp
     obtain⟨⟨q,bs⟩,hq,rfl⟩:=List.mem_map.1 this;exact⟨bs,hq⟩
    obtain⟨bs,hO⟩:=hO;have:=Gr.obj _ (List.mem_append_right _ hO);obtain⟨_,_,hk⟩:=this;obtain⟨u,h5,_⟩:=h4.2.2 d v hd;exact⟨u,h5,hk v u (by rw[hK];exact⟨d,hd,h5⟩)⟩
   ·have:=List.all_eq_true.1 hps d hd
    simpa[Nat.blt_eq]using this
  have hheap:=(hRel0.setRaw (o':=.deferred none)).1
  have hus2:us.length=ps.size:=by
   rw[(VTs.get hus).1];exact hlen vs (Ao hi) C
  refine⟨fn,(ps.toList.zip us).foldl (λt q=>t.setIfInBounds q.1 q.2) a.tmps,assign,body,?_,?_⟩
  ·have:=run_yield (P:=P) (args:=us.toArray) hheap (by rw[hrec];simpa using hus2)
   rw[this,hrec];simp only
   congr 2
   rw[<-Array.foldl_toList];simp[Array.toList_zip]
  ·have hA:=hround i vs C b l _ ((N,.raw l (.loop (rec .busy none)))::((N+1,.tv K)::Sf++Si)) hi hRb mr _ _ (by rw[AP]at hRel0;exact hRel0)
   refine roundIn_of_wpIn (F:=FW none) trivial (wpIn_mono (F:=FW (some l)) hA λe a' w' ⟨st',hr',hq⟩=>?_);cases e with
   |normal=>
    obtain⟨pre,hsub,hk⟩:=hq;obtain⟨hb1,hr2⟩:=(hr'.sub (T:=st'.T) hsub).setRaw (o':=.loop (rec .busy none));refine⟨_,run_beginRound hb1 (by rw[hrec]),?_⟩
    have hr3:Rel nt mr ⟨st'.T,pre++(N,.raw l (.loop (rec .busy none)))::((N+1,.tv K)::Sf++Si)⟩ a' (w'.putObj l (.loop {rec .ready none with state:=.busy})):=by
     have:({rec .ready none with state:=.busy}:Loop)=rec .busy none:=by rw[hrec]
     rw[this];exact hr2
    refine wpIn_mono (F:=FW (some l)) (hk mr _ _ hr3) λe a2 w2 ⟨st2,hr4,hq2⟩=>?_
    have fin:∀(pre2:List AC) (jump:Option Code) (st:LoopState),st=(if jump.isNone then LoopState.ready else .done)->(pre2++(N,.raw l (.loop (rec .busy none)))::((N+1,.tv K)::Sf++Si)).Sublist st2.S->
      ((jump.isNone=true->J (i+1) (pre2++(N,.raw l (.loop (rec st jump)))::(N+1,.tv K)::Sf))/\(jump.isNone=false->Jx (pre2++(N,.raw l (.loop (rec st jump)))::(N+1,.tv K)::Sf)))->
      ∃v w',(Instr.endRound l jump).run P w2= .ok v w' /\∃b Sl' m' N' Z',Ending.returned v= .returned (.bool b)/\m'.w=w' /\Z'.map (·.1)=Si++Sl' /\Good mr m' N' Z' []/\(b=true->J (i+1) Sl')/\(b=false->Jx Sl'):=by
     intro pre2 jump st hst hsub2 hj;obtain⟨hb3,hr5⟩:=(hr4.sub (T:=st2.T) hsub2).setRaw (o':=.loop (rec st jump));refine⟨_,_,run_endRound jump hb3,jump.isNone,pre2++(N,.raw l (.loop (rec st jump)))::(N+1,.tv K)::Sf,?_⟩;have hrq:({rec .busy none with state:=if jump.isNone then .ready else .done,pending:=jump}:Loop)=rec st jump:=by rw[hrec,hst]
     rw[hrq];obtain⟨m',N',Z',h5,h6,h7,h8⟩:=hr5;have h6':Z'.map (·.1)=(pre2++(N,.raw l (.loop (rec st jump)))::(N+1,.tv K)::Sf)++Si:=by simpa using h6
     obtain⟨Zc,Zd,rfl,hzc,hzd⟩:=Az h6';exact⟨m',N',Zd++Zc,rfl,h5,by simp only[List.map_append,hzc,hzd],h7.perm List.perm_append_comm,hj.1,hj.2⟩
    cases e with
    |normal=>
     obtain⟨pre2,hsub2,b',hRb',rfl⟩:=hq2;exact fin (inv b') none .ready rfl hsub2 ⟨λ_=>⟨b',hRb',rfl⟩,λh=>by cases h⟩
    |ret=>
     obtain⟨pre2,hsub2,hx⟩:=hq2;exact fin pre2 (some .ret) .done rfl hsub2 ⟨λh=>(by cases h),λ_=>⟨_,pre2,rfl,hx⟩⟩
    |exit id=>
     obtain⟨pre2,hsub2,hx⟩:=hq2;exact fin pre2 (some (.exit id)) .done rfl hsub2 ⟨λh=>(by cases h),λ_=>⟨_,pre2,rfl,hx⟩⟩
    |goto t=>exact hq2.elim
    |panic ch=>exact hq2.elim
    |outgrown=>exact hq2.elim
   |_=>exact hq.elim
 have hSp:=hI.2 _ J Jx hY (inv b0++(N,.raw l (.loop (rec .ready none)))::(N+1,.tv K)::Sf) ⟨b0,hR,rfl⟩
 have hcall:=hSp.run [] m3 (N+1+1) (Zi++((N,.raw l (.loop (rec .ready none))),[l])::((N+1,.tv K),[])::Zf) (#[.func (.yield l) #[] #[]]++cs) (by simp[hzi,hzf])
  (by
   refine(G3.perm ?_).self;have:=hsl [((N+1,.tv K),[])] [((N,.raw l (.loop (rec .ready none))),[l])] Zi Zf;simpa using this) (by
   have h5:=Gh hs (VCs.mono hle03 cap (by simp) hcap);have:=(Bi (m:=m3) (a:=.prim (.func (.yield l) #[] #[])) (as:=cap) (vs:=.func (.yield l) #[] #[]::cs.toList) (bs:=[]) rfl).2 ⟨_,_,[],[],rfl,rfl,⟨⟨rfl,rfl⟩,rfl⟩,h5⟩;simpa using this)
 refine⟨l,[Hz m.w.heap.size],m3.w,{target:=.fn (.func gf) cs,args:=#[.func (.yield l) #[] #[]]},m3.w,gf,#[.func (.yield l) #[] #[]]++cs,m3.w,?_,?_,?_,?_,?_,?_⟩
 ·rw[hw3,<-hw2,hrec,<-hl]
  exact run_enterLoop_outer fn a.tmps ps assign body
 ·simp only[resolve,rangeCall,e1,Deferred.ofValue]
  simp[Sem.run_pure,Act.eval]
 ·exact λ_ _=>trivial
 ·have hf:=hI.1
  unfold Kh at hf;split at hf
  ·rename_i fn' hfn
   simp only[Bool.and_eq_true,Bool.not_eq_true']at hf
   have hb:fn'.body.isNone=false:=by
    cases hfb:fn'.body with
    |none=>rw[hfb]at hf;simp at hf
    |some c=>rfl
   have h1:¬fn'.name= "runtime.NumGoroutine" :=by simpa using hf.1
   have h2:¬fn'.body=none:=by intro h;rw[h]at hb;cases hb
   simp[invoke,callFunc,program,Sem.run_bind,Sem.run,Result.andThen_ok,hfn,h1,h2]
  ·cases hf
 ·exact λh=>(by simp[FW,Fence.wide]at h)
 ·refine IA (hcall.mono ?_)
  rintro e w' ⟨v,r,S',m',N',Z',br,rfl,rfl,hm,G',hv,hq⟩;rw[List.append_nil]at hm;obtain⟨G'',_⟩:=Good.freeze (ex:=br) (ex':=[]) (by simpa using(G3.perm (by have:=hsl [((N+1,.tv K),[])] [((N,.raw l (.loop (rec .ready none))),[l])] Zi Zf;simpa using this)).after G') _ rfl;have hle':m3.Le {m' with F:=λb=>m'.F b\/b∈br}:=G'.le.trans ⟨λ_ h=>h,λ_ _ _ h=>h,λb hb=>⟨.inl hb,rfl⟩⟩
  have hT':TRel m0 {m' with F:=λb=>m'.F b\/b∈br} nt T {a with defers:=[Hz m.w.heap.size]++a.defers}:=by
   have h5:=h4.mono (hle03.trans hle');refine⟨h5.1,?_,h5.2.2⟩;obtain⟨ds,h6,h7,h8⟩:=h4.2.1;refine⟨m.w.heap.size::ds,by rw[h6];rfl,List.nodup_cons.2 ⟨λh=>?_,h7⟩,λd hd=>?_⟩
   ·have:=h3.frz _ (h8 _ h).2.1
    omega
   ·rcases List.mem_cons.1 hd with rfl|hd
    ·exact⟨h3.size,(hle'.F _ h0F).1,(hle'.F _ h0F).2.trans h0D⟩
    ·obtain⟨h9,h10,h11⟩:=h8 d hd
     exact⟨h9,((hle03.trans hle').F _ h10).1,((hle03.trans hle').F _ h10).2.trans h11⟩
  have fin:∀(pre:List AC) (rc:Loop),rc.state≠ .busy->S'=pre++(N,.raw l (.loop rc))::(N+1,.tv K)::Sf->∃w4,(Instr.endLoop l).run P m'.w= .ok rc.pending w4/\Rel nt m0 ⟨T,pre++Sf⟩ {a with defers:=[Hz m.w.heap.size]++a.defers} w4:=by
   rintro pre rc hrc rfl;have hrel:Rel nt m0 ⟨T,pre++(N,.raw l (.loop rc))::((N+1,.tv K)::Sf)⟩ {a with defers:=[Hz m.w.heap.size]++a.defers} m'.w:=⟨{m' with F:=λb=>m'.F b\/b∈br},N',Z',rfl,hm,G'',hT'⟩;obtain⟨hb5,hr5⟩:=hrel.setRaw (o':=.loop {rc with state:=.exhausted});refine⟨_,run_endLoop hb5 hrc,hr5.sub ?_⟩;exact List.Sublist.append_left (List.Sublist.cons _ (List.Sublist.cons _ (List.Sublist.refl _))) _
  rcases hq with⟨b,hRb,hS'⟩|⟨c,pre,hS',hx⟩
  ·obtain⟨w4,h5,h6⟩:=fin (inv b) (rec .ready none) (by rw[hrec];simp) hS'
   refine⟨none,w4,by rw[h5,hrec],_,h6,hdone b hRb⟩
  ·obtain⟨w4,h5,h6⟩:=fin pre (rec .done (some c)) (by rw[hrec];simp) hS'
   exact⟨some c,w4,by rw[h5,hrec],hx m0 _ _ h6⟩
end
section
variable {P:Program}{nt:Nat}{ops:Array Oper}{Q:Exit->St->Prop}{rest:List Oper}{T:List (Nat×AV)}{Si Sl Sf ob:List AC}{y:Value}{xs:List YO}{J:Nat->List AC->Prop}{Jx:List AC->Prop}{dst:Option Tmp}{ty:TypeId}{pos:String}{after:Array Edge}{x x0 x1:Operand}{v0 v1:AV}{ats:Array TypeId}{i:Nat}
theorem Ns{yo:YO}(C:Nat)(hY:Vz P y xs J Jx)(hJ:J i Sl)(hi:xs[i]?=some yo)(h1:(yo C).1=[v0,v1])(h2:(yo C).2=ob)(kt:∀Sl',J (i+1) Sl' ->AOps ro P nt ops Q rest ⟨AW T dst (.prim (.bool true)),Si++(Sl'++Sf)⟩)(kf:∀Sl',Jx Sl' ->AOps ro P nt ops Q rest ⟨AW T dst (.prim (.bool false)),Si++(Sl'++Sf)⟩)
  (hx:ev T x=some (.prim y):=by rfl) (e0:ev T x0=some v0:=by rfl) (e1:ev T x1=some v1:=by rfl) (ht:Am [(x0,v0),(x1,v1)]=true:=by rfl) (hd:AU dst nt=true:=by rfl):
  AOps ro P nt ops Q (⟨dst,.call ⟨.value x,#[x0,x1],ats⟩,ty,pos,after,none⟩::rest) ⟨T,Si++((ob++Sl)++Sf)⟩:=
 PG (ys:=[(x0,v0),(x1,v1)]) (C:=C) hY hJ hi h1 h2 hx (.cons e0 (.cons e1 .nil)) ht hd kt kf
end
end
section
variable {ro:Option Nat}
open Go.RowKit
def Qn(J:List AC->Prop)(P:Program)(nt:Nat)(ops:Array Oper)(e:Eff)(st:St):Prop:=
 ∀m0 T S a w,J S->(∀t∈e.rT,Ab T t=Ab st.T t)->(∀p∈e.rS,S[p]?=st.S[p]?)->Rel nt m0 ⟨T,S⟩ a w->
  if Region.wanted e.o (yielded ops a.tmps)then e.o.wp P a w (λa' w'=>Rel nt m0 (e.app ⟨T,S⟩) a' w') (λ_ _ _=>False)else Rel nt m0 (e.app ⟨T,S⟩) (a.put e.o.dst undef) w
inductive RunJ(J:List AC->Prop)(P:Program)(nt:Nat)(ops:Array Oper):List Oper->St->List Eff->St->Prop
 |nil {st:St}:RunJ J P nt ops [] st [] st
 |step {o:Oper} {rest:List Oper} {st st':St} {xs:List (Operand×AV)} {rS:List (Nat×AC)} {v:AV} {wS:List (Nat×AC)} {effs:List Eff} (hg:o.guard=none) (h:OpT P o xs rS v wS) (hx:Evs st.T xs) (hS:Gets st.S rS) (hd:AU o.dst nt=true) (hJ:∀S,J S->J (AX S wS))
   (k:RunJ J P nt ops rest ⟨AW st.T o.dst v,AX st.S wS⟩ effs st'):RunJ J P nt ops (o::rest) st (⟨o,Au xs,rS.map (·.1),v,wS⟩::effs) st'
 |soft {o:Oper} {rest:List Oper} {st st':St} {xs:List (Operand×AV)} {v:AV} {effs:List Eff} (hg:o.guard=none) (h:∀S,J S->∃rS,OpT P o xs rS v []/\Gets S rS) (hx:Evs st.T xs) (hd:AU o.dst nt=true)
   (k:RunJ J P nt ops rest ⟨AW st.T o.dst v,st.S⟩ effs st'):RunJ J P nt ops (o::rest) st (⟨o,Au xs,[],v,[]⟩::effs) st'
section
variable {P:Program}{nt:Nat}{ops:Array Oper}{J:List AC->Prop}
theorem Wz{effs:List Eff}(h:∀e∈effs,∀S,J S->J (AX S e.wS)):∀(k:Nat) (X:Nat->Bool) (s:St),J s.S->J (stX effs k X s).S:=by
 induction effs with
 |nil=>intro k X s hs;exact hs
 |cons e r ih=>
  intro k X s hs;simp only[stX];refine ih (λe' he'=>h e' (by simp[he'])) _ _ _ ?_;cases X k
  ·exact hs
  ·exact h e (by simp) _ hs
theorem RunJ.spec{l:List Oper}{st st':St}{effs:List Eff}(h:RunJ J P nt ops l st effs st'):st'=stX effs 0 (λ_=>true) st/\effs.map (·.o)=l/\
  (∀i e,effs[i]?=some e->Qn J P nt ops e (stX effs 0 (λj=>decide (j<i)) st))/\(J st.S->∀X,J (stX effs 0 X st).S):=by
 have shift:∀(e0:Eff) (effs:List Eff) (st:St) (i:Nat),stX (e0::effs) 0 (λj=>decide (j<i+1)) st=stX effs 0 (λj=>decide (j<i)) (e0.app st):=by
  intro e0 effs st i;show stX effs (0+1) (λj=>decide (j<i+1)) (match decide (0<i+1)with|true=>e0.app st|false=>st)=_
  rw[El,Ae (Nat.succ_pos i)];simp
 have full:∀(e0:Eff) (effs:List Eff) (st:St),stX (e0::effs) 0 (λ_=>true) st=stX effs 0 (λ_=>true) (e0.app st):=by
  intro e0 effs st;show stX effs (0+1) (λ_=>true) (e0.app st)=_
  rw[El]
 have first:∀(e0:Eff) (effs:List Eff) (st:St),stX (e0::effs) 0 (λj=>decide (j<0)) st=st:=by
  intro e0 effs st;have:(λj:Nat=>decide (j<0))=λ_=>false:=by funext j;simp
  rw[this,Dw]
 have hJ:∀e∈effs,∀S,J S->J (AX S e.wS):=by
  clear shift full first
  induction h with
  |nil=>intro e he;cases he
  |step hg h hx hS hd hJ k ih=>
   intro e he;rcases List.mem_cons.1 he with rfl|he
   ·exact hJ
   ·exact ih e he
  |soft hg h hx hd k ih=>
   intro e he;rcases List.mem_cons.1 he with rfl|he
   ·exact λS hS=>hS
   ·exact ih e he
 have main:st'=stX effs 0 (λ_=>true) st/\effs.map (·.o)=l/\(∀i e,effs[i]?=some e->Qn J P nt ops e (stX effs 0 (λj=>decide (j<i)) st)):=by
  clear hJ
  induction h with
  |nil=>exact⟨rfl,rfl,λi e h=>by simp at h⟩
  |step hg h hx hS hd hJ k ih=>
   obtain⟨h1,h2,h3⟩:=ih;refine⟨by rw[full];exact h1,by simp[h2],λi e he=>?_⟩;cases i with
   |zero=>
    simp at he;subst he;rw[first];intro m0 T S a w _ hT hSS hr;rw[if_pos (by simp[Region.wanted,hg])];exact h nt m0 T S a w (Fk hx hT) (Fz hS hSS) (Bo hd) hr
   |succ i=>
    rw[shift];exact h3 i e (by simpa using he)
  |soft hg h hx hd k ih=>
   obtain⟨h1,h2,h3⟩:=ih;refine⟨by rw[full];exact h1,by simp[h2],λi e he=>?_⟩;cases i with
   |zero=>
    simp at he;subst he;rw[first];intro m0 T S a w hj hT hSS hr;rw[if_pos (by simp[Region.wanted,hg])];obtain⟨rS,h4,h5⟩:=h S hj;exact h4 nt m0 T S a w (Fk hx hT) h5.all (Bo hd) hr
   |succ i=>
    rw[shift];exact h3 i e (by simpa using he)
 exact⟨main.1,main.2.1,main.2.2,λh0 X=>Wz hJ 0 X st h0⟩
theorem Qf{J:List AC->Prop}{m0:Mem}{st:St}{effs:List Eff}{Q':Exit->Act->World->Prop}(heff:effs.map (·.o)=ops.toList)(hloc:∀i e,effs[i]?=some e->Qn J P nt ops e (stX effs 0 (λj=>decide (j<i)) st))
  (hJ:∀X,J (stX effs 0 X st).S) (hc:Ca effs (BT ops.toList [])=true) (hdn:down ops.toList 0=true) (hQ:∀a w,Rel nt m0 (stX effs 0 (λ_=>true) st) a w->Q' .normal a w):
  ∀(fuel:Nat) (X:Array Bool) (a:Act) (w:World),X.size=ops.size->(∀j o,ops.toList[j]?=some o->X.getD j false=true->∀e∈o.after.toList,Region.binds .any e=true->X.getD e.on false=true)->
   ((List.range ops.size).filter λj=>!X.getD j false).length<=fuel->Rel nt m0 (stX effs 0 (λj=>X.getD j false) st) a w->wpAnyIn (FW ro) 0 P .any ops Q' fuel X a w:=by
 have hlen:effs.length=ops.size:=by have:=congrArg List.length heff;simpa using this
 have done:∀(X:Array Bool) a w,(∀j,j<ops.size->X.getD j false=true)->Rel nt m0 (stX effs 0 (λj=>X.getD j false) st) a w->Q' .normal a w:=by
  intro X a w hall hr;refine hQ a w ?_
  have hT:∀t,Ab (stX effs 0 (λj=>X.getD j false) st).T t=Ab (stX effs 0 (λ_=>true) st).T t:=λt=>
   CJ (λj e he _=>by rw[Nat.zero_add];exact hall j (by rw[<-hlen];exact(List.getElem?_eq_some_iff.1 he).1)) rfl
  have hS:(stX effs 0 (λj=>X.getD j false) st).S=(stX effs 0 (λ_=>true) st).S:=List.ext_getElem? λp=>
   Cj (λj e he _=>by rw[Nat.zero_add];exact hall j (by rw[<-hlen];exact(List.getElem?_eq_some_iff.1 he).1)) rfl rfl
  have hr':Rel nt m0 ⟨(stX effs 0 (λ_=>true) st).T,(stX effs 0 (λj=>X.getD j false) st).S⟩ a w:=B9 hr λd v h=>(hT d).trans h
  rw[hS]at hr';exact hr'
 have ready:∀(X:Array Bool),X.size=ops.size->Region.ready .any ops X=[]->∀j,j<ops.size->X.getD j false=true:=by
  intro X hX hnil j
  induction j using Nat.strongRecOn with
  |_ j ih=>
   intro hj;cases hx:X.getD j false with
   |true=>rfl
   |false=>
    exfalso
    have:j∈Region.ready .any ops X:=by
     refine List.mem_filter.2 ⟨List.mem_range.2 hj,?_⟩;have ho:ops[j]?=some ops[j]:=by simp[hj]
     have hx':X.getD j true=false:=by
      have hjX:j<X.size:=by omega
      simp only[Array.getD_eq_getD_getElem?,Array.getElem?_eq_getElem hjX,Option.getD_some]at hx⊢;exact hx
     simp only[hx',ho,Option.map_some,Option.getD_some,Bool.not_false,Bool.true_and];rw[Array.all_eq_true'];intro e he;cases hb:Region.binds .any e with
     |false=>simp
     |true=>
      have hlt:=EG _ 0 hdn j ops[j] (by simp[hj]) e (by simpa using he) hb;have:=ih e.on (by omega) (by omega);simpa using this
    rw[hnil]at this;cases this
 intro fuel
 induction fuel with
 |zero=>
  intro X a w hX hdc hf hr
  have hall:∀j,j<ops.size->X.getD j false=true:=by
   intro j hj;have hnil:=List.eq_nil_of_length_eq_zero (Nat.le_zero.1 hf);cases hx:X.getD j false with
   |true=>rfl
   |false=>
    have:j∈(List.range ops.size).filter λj=>!X.getD j false:=List.mem_filter.2 ⟨List.mem_range.2 hj,by simp only[hx,Bool.not_false]⟩
    rw[hnil]at this;cases this
  refine⟨List.filter_eq_nil_iff.2 λj hj=>?_,done X a w hall hr⟩;have hj':=List.mem_range.1 hj;have:=hall j hj';have hjX:j<X.size:=by omega
  simp only[Array.getD_eq_getD_getElem?,Array.getElem?_eq_getElem hjX,Option.getD_some]at this⊢;simp[this]
 |succ fuel ih=>
  intro X a w hX hdc hf hr;refine⟨λhnil=>done X a w (ready X hX hnil) hr,λi hi=>?_⟩;obtain⟨hi1,hi2⟩:=List.mem_filter.1 hi;have hin:=List.mem_range.1 hi1;have ho:ops[i]?=some ops[i]:=by simp[hin]
  have hiX:i<X.size:=by omega
  simp only[ho,Option.map_some,Option.getD_some,Bool.and_eq_true]at hi2
  have hXi:X.getD i false=false:=by
   have h:=hi2.1;simp only[Array.getD_eq_getD_getElem?,Array.getElem?_eq_getElem hiX,Option.getD_some]at h⊢;simpa using h
  have hpre:∀e∈(ops[i]).after.toList,Region.binds .any e=true->X.getD e.on false=true:=by
   intro e he hb;have:=Array.all_eq_true'.1 hi2.2 e (by simpa using he);simpa[hb]using this
  obtain⟨e,he⟩:∃e,effs[i]?=some e:=⟨effs[i]'(by omega),by simp[hlen,hin]⟩
  have heo:e.o=ops[i]:=by
   have h1:(effs.map (·.o))[i]?=some e.o:=by simp[he]
   rw[heff]at h1;simpa[hin]using h1.symm
  have hmask:=Bt (λj=>X.getD j false) ops.toList [] (λj o hj hXj e he hb=>hdc j o hj (by simpa using hXj) e he hb) (λj m h=>by simp at h)
  have hcomp:∀a b ea eb,a<b->effs[a]?=some ea->effs[b]?=some eb->clash ea eb=true->∃m:Nat,(BT ops.toList [])[b]?=some m/\m.testBit a=true:=by
   intro a b ea eb hab hea heb hcl;have h1:=List.all_eq_true.1 hc b (List.mem_range.2 (List.getElem?_eq_some_iff.1 heb).1);have h2:=List.all_eq_true.1 h1 a (List.mem_range.2 hab);simp only[hea,heb]at h2;cases hm:(BT ops.toList [])[b]? with
   |none=>rw[hm]at h2;cases h2
   |some m=>rw[hm]at h2;exact⟨m,rfl,by simpa[hcl]using h2⟩
  have hbefore:∀j ej,j<i->effs[j]?=some ej->clash ej e=true->X.getD j false=true:=by
   intro j ej hj hej hcl;obtain⟨m,hm1,hm2⟩:=hcomp j i ej e hj hej he hcl
   have hcl2:=Bt (λk=>X.getD k false||decide (k=i)) ops.toList [] (λk o hk hXk ee hee hb=>by
    simp only[List.length_nil,Nat.zero_add,Bool.or_eq_true,AF]at hXk⊢;rcases hXk with h|h
    ·exact .inl (hdc k o hk h ee hee hb)
    ·subst h
     have:o=ops[k]:=by simpa[hin]using hk.symm
     subst this;exact .inl (hpre ee hee hb)) (λj m h=>by simp at h) i m hm1 (by simp) j hm2
   simp only[Bool.or_eq_true,AF]at hcl2;rcases hcl2 with h|h
   ·exact h
   ·omega
  have hafter:∀j ej,i<j->effs[j]?=some ej->clash e ej=true->X.getD j false=false:=by
   intro j ej hj hej hcl;obtain⟨m,hm1,hm2⟩:=hcomp i j e ej hj he hej hcl;cases hx:X.getD j false with
   |false=>rfl
   |true=>
    have:=hmask j m hm1 hx i hm2;rw[hXi]at this;cases this
  have hrT:∀t∈e.rT,Ab (stX effs 0 (λj=>X.getD j false) st).T t=Ab (stX effs 0 (λj=>decide (j<i)) st).T t:=by
   intro t ht;refine CJ (λj ej hej hd=>?_) rfl;rw[Nat.zero_add];rcases Nat.lt_trichotomy j i with h|h|h
   ·rw[hbefore j ej h hej ?_]
    ·simp[h]
    ·cases hcl:clash ej e with
     |true=>rfl
     |false=>exact absurd ht ((Av hcl).1 t hd)
   ·subst h
    rw[hXi];simp
   ·rw[hafter j ej h hej ?_]
    ·simp;omega
    ·cases hcl:clash e ej with
     |true=>rfl
     |false=>exact absurd ht ((Av hcl).2.1 t hd)
  have hrS:∀p∈e.rS,(stX effs 0 (λj=>X.getD j false) st).S[p]?=(stX effs 0 (λj=>decide (j<i)) st).S[p]?:=by
   intro p hp;refine Cj (λj ej hej hd=>?_) rfl rfl;rw[Nat.zero_add];obtain⟨q,hq,rfl⟩:=hd;rcases Nat.lt_trichotomy j i with h|h|h
   ·rw[hbefore j ej h hej ?_]
    ·simp[h]
    ·cases hcl:clash ej e with
     |true=>rfl
     |false=>exact absurd hp ((Av hcl).2.2.2.1 q hq)
   ·subst h
    rw[hXi];simp
   ·rw[hafter j ej h hej ?_]
    ·simp;omega
    ·cases hcl:clash e ej with
     |true=>rfl
     |false=>exact absurd hp ((Av hcl).2.2.2.2.1 q hq)
  have hX':∀k,(X.setIfInBounds i true).getD k false=(X.getD k false||decide (k=i)):=by
   intro k;simp only[Array.getD_eq_getD_getElem?,Array.getElem?_setIfInBounds];by_cases hk:i=k
   ·subst hk;simp[hiX]
   ·simp[hk,Ne.symm hk]
  have hnew:∀a w,Rel nt m0 (e.app (stX effs 0 (λj=>X.getD j false) st)) a w->Rel nt m0 (stX effs 0 (λj=>(X.setIfInBounds i true).getD j false) st) a w:=by
   intro a w hr'
   have hT:∀t,Ab (stX effs 0 (λj=>(X.setIfInBounds i true).getD j false) st).T t=Ab (e.app (stX effs 0 (λj=>X.getD j false) st)).T t:=by
    intro t;by_cases hd:e.o.dst=some t
    ·rw[GN (i:=i) (e:=e) (t:=t) he (by rw[Nat.zero_add,hX'];simp) hd ?_]
     ·simp[Eff.app,hd,AW,Al]
     ·intro j ej hj hej hXj hdj
      rw[Nat.zero_add,hX']at hXj
      have hXj':X.getD j false=true:=by
       simp only[Bool.or_eq_true,AF]at hXj;rcases hXj with h|h
       ·exact h
       ·omega
      have:=hafter j ej hj hej (by
       cases hcl:clash e ej with
       |true=>rfl
       |false=>exact absurd hdj ((Av hcl).2.2.1 t hd))
      rw[hXj']at this;cases this
    ·have ap:Ab (e.app (stX effs 0 (λj=>X.getD j false) st)).T t=Ab (stX effs 0 (λj=>X.getD j false) st).T t:=by
      simp only[Eff.app];cases hdd:e.o.dst with
      |none=>rfl
      |some d=>rw[AW,Al,if_neg];exact λh=>hd (by rw[hdd,h])
     rw[ap];refine CJ (λj ej hej hdj=>?_) rfl;rw[Nat.zero_add,hX']
     have:j≠i:=by
      rintro rfl;rw[he]at hej;injection hej with hej
      subst hej;exact hd hdj
     simp[this]
   have hS:(stX effs 0 (λj=>(X.setIfInBounds i true).getD j false) st).S=(e.app (stX effs 0 (λj=>X.getD j false) st)).S:=by
    refine List.ext_getElem? λp=>?_
    by_cases hd:∃q∈e.wS,q.1=p
    ·rw[FZ (i:=i) (e:=e) (p:=p) he (by rw[Nat.zero_add,hX'];simp) hd ?_ (stX effs 0 (λj=>X.getD j false) st).S (Gl ..)]
     ·rfl
     ·intro j ej hj hej hXj hdj
      rw[Nat.zero_add,hX']at hXj
      have hXj':X.getD j false=true:=by
       simp only[Bool.or_eq_true,AF]at hXj;rcases hXj with h|h
       ·exact h
       ·omega
      obtain⟨q,hq,hqp⟩:=hd;obtain⟨q',hq',hqp'⟩:=hdj
      have:=hafter j ej hj hej (by
       cases hcl:clash e ej with
       |true=>rfl
       |false=>exact absurd (hqp.trans hqp'.symm) ((Av hcl).2.2.2.2.2 q hq q' hq'))
      rw[hXj']at this;cases this
    ·have ap:(e.app (stX effs 0 (λj=>X.getD j false) st)).S[p]?=(stX effs 0 (λj=>X.getD j false) st).S[p]?:=Dm (λq hq h=>hd ⟨q,hq,h⟩) _
     rw[ap];refine Cj (λj ej hej hdj=>?_) rfl rfl;rw[Nat.zero_add,hX']
     have:j≠i:=by
      rintro rfl;rw[he]at hej;injection hej with hej
      subst hej;exact hd hdj
     simp[this]
   have:=B9 hr' (T':=(stX effs 0 (λj=>(X.setIfInBounds i true).getD j false) st).T) λd v h=>(hT d).symm.trans h
   rw[show(⟨(stX effs 0 (λj=>(X.setIfInBounds i true).getD j false) st).T,AX (stX effs 0 (λj=>X.getD j false) st).S e.wS⟩:St)=stX effs 0 (λj=>(X.setIfInBounds i true).getD j false) st from by
    rw[show AX (stX effs 0 (λj=>X.getD j false) st).S e.wS=(e.app (stX effs 0 (λj=>X.getD j false) st)).S from rfl,<-hS]]at this
   exact this
  have next:∀a w,Rel nt m0 (e.app (stX effs 0 (λj=>X.getD j false) st)) a w->wpAnyIn (FW ro) 0 P .any ops Q' fuel (X.setIfInBounds i true) a w:=by
   intro a w hr';refine ih _ a w (by simp[hX]) ?_ ?_ (hnew a w hr')
   ·intro j o hj hXj ee hee hb
    rw[hX']at hXj⊢;simp only[Bool.or_eq_true,AF]at hXj⊢;rcases hXj with h|h
    ·exact .inl (hdc j o hj h ee hee hb)
    ·subst h
     have:o=ops[j]:=by simpa[hin]using hj.symm
     subst this;exact .inl (hpre ee hee hb)
   ·have e1:(List.range ops.size).filter (λj=>!(X.setIfInBounds i true).getD j false)=((List.range ops.size).filter λj=>!X.getD j false).filter λj=>!decide (j=i):=by
     rw[List.filter_filter]
     congr 1
     funext j
     rw[hX'];cases X.getD j false<;>simp
    have hmem:i∈(List.range ops.size).filter λj=>!X.getD j false:=List.mem_filter.2 ⟨List.mem_range.2 hin,by simp only[hXi,Bool.not_false]⟩
    have:=(List.length_filter_lt_length_iff_exists (l:=(List.range ops.size).filter λj=>!X.getD j false) (p:=λj=>!decide (j=i))).2 ⟨i,hmem,by simp⟩;rw[e1];omega
  have hl:=hloc i e he m0 _ _ a w (hJ _) hrT hrS hr;unfold wpOpIn;simp only[ho];rw[heo]at hl;by_cases hw:Region.wanted ops[i] (yielded ops a.tmps)=true
  ·rw[if_pos hw]at hl⊢
   exact Fs hl next
  ·rw[if_neg hw]at hl⊢
   exact⟨λ_ _=>trivial,next _ _ hl⟩
theorem AWP.region_anyJ{J:List AC->Prop}{Q:Exit->St->Prop}{id:Nat}{l:List Oper}{st st':St}{effs:List Eff}(hm:P.follows .mixedOrders=true)(hr:RunJ J P nt l.toArray l st effs st')(hJ0:J st.S)(hc:Ca effs (BT l [])=true)(hdn:down l 0=true)(hQ:Q .normal st'):AWP ro P nt (.region id l.toArray true) Q st:=by
 intro m0 a w hrel;obtain⟨h1,h2,h3,h4⟩:=hr.spec;refine wpIn_region_any hm (Qf (m0:=m0) (st:=st) (effs:=effs) (by simpa using h2) h3 (h4 hJ0) (by simpa using hc) (by simpa using hdn) (λa w h=>⟨st',by rw[h1];exact h,hQ⟩) _ _ a _ (by simp) ?_ ?_ ?_)
 ·intro j o hj hX
  have:j<l.length:=(List.getElem?_eq_some_iff.1 hj).1;simp[this]at hX
 ·exact Nat.le_trans (List.length_filter_le _ _) (by simp)
 ·have:(λj=>(Array.replicate l.toArray.size false).getD j false)=λ_=>false:=by
   funext j
   simp only[Array.getD_eq_getD_getElem?,Array.getElem?_replicate];split<;>rfl
  rw[this,Dw];exact hrel.draw _
def RGoJ(J:List AC->Prop)(P:Program)(nt:Nat)(ops:Array Oper)(l:List Oper)(Q:Exit->St->Prop)(rest:List Oper)(acc:List Eff)(st:St):Prop:=
 ∃effs st',RunJ J P nt ops rest st effs st' /\Ca (acc++effs) (BT l [])=true/\Q .normal st'
theorem Jd(J:List AC->Prop){Q:Exit->St->Prop}{id:Nat}{l:List Oper}{st:St}(hm:P.follows .mixedOrders=true)(hdn:down l 0=true)(hJ:J st.S)(h:RGoJ J P nt l.toArray l Q l [] st):AWP ro P nt (.region id l.toArray true) Q st:=by
 obtain⟨effs,st',h1,h2,h3⟩:=h;exact .region_anyJ hm h1 hJ (by simpa using h2) hdn h3
section
variable {Q:Exit->St->Prop}{l rest:List Oper}{acc:List Eff}{st:St}{T:List (Nat×AV)}{S:List AC}{xs:List (Operand×AV)}{rS wS:List (Nat×AC)}{v:AV}{op:Op}{ty:TypeId}{pos:String}{after:Array Edge}{dst:Option Tmp}
theorem RGoJ.nil(hc:Ca acc (BT l [])=true)(k:Q .normal st):RGoJ J P nt ops l Q [] acc st:=⟨[],st,.nil,by simpa using hc,k⟩
theorem RGoJ.p(h:Stp none P ⟨dst,op,ty,pos,after,none⟩ T S xs rS v [])(hd:AU dst nt=true)(k:RGoJ J P nt ops l Q rest (acc++[⟨⟨dst,op,ty,pos,after,none⟩,Au xs,rS.map (·.1),v,[]⟩]) ⟨AW T dst v,S⟩):RGoJ J P nt ops l Q (⟨dst,op,ty,pos,after,none⟩::rest) acc ⟨T,S⟩:=by
 obtain⟨effs,st',h1,h2,h3⟩:=k;exact⟨_,_,.step rfl h.op h.rd.evs h.get hd (λ_ h=>h) h1,by simpa using h2,h3⟩
theorem RGoJ.go(k:RGoJ J P nt ops l Q rest (acc++[⟨⟨dst,op,ty,pos,after,none⟩,Au xs,rS.map (·.1),v,[]⟩]) ⟨AW T dst v,S⟩)(h:Stp none P ⟨dst,op,ty,pos,after,none⟩ T S xs rS v []:=by exact EZ)(hd:AU dst nt=true:=by rfl):RGoJ J P nt ops l Q (⟨dst,op,ty,pos,after,none⟩::rest) acc ⟨T,S⟩:=.p h hd k
theorem RGoJ.s(hJ:∀S,J S->J (AX S wS))(h:Stp none P ⟨dst,op,ty,pos,after,none⟩ T S xs rS v wS)(hd:AU dst nt=true)(k:RGoJ J P nt ops l Q rest (acc++[⟨⟨dst,op,ty,pos,after,none⟩,Au xs,rS.map (·.1),v,wS⟩]) ⟨AW T dst v,AX S wS⟩):RGoJ J P nt ops l Q (⟨dst,op,ty,pos,after,none⟩::rest) acc ⟨T,S⟩:=by
 obtain⟨effs,st',h1,h2,h3⟩:=k;exact⟨_,_,.step rfl h.op h.rd.evs h.get hd hJ h1,by simpa using h2,h3⟩
def JP(p:Nat)(z1 z2:AC):List AC->Prop:=λS=>S[p]?=some z1\/S[p]?=some z2
theorem RGoJ.soft{p:Nat}{z1 z2:AC}{S1 S2:List AC}(h1:Stp none P ⟨dst,op,ty,pos,after,none⟩ T S1 xs [(p,z1)] v [])(h2:Stp none P ⟨dst,op,ty,pos,after,none⟩ T S2 xs [(p,z2)] v [])(hd:AU dst nt=true)
  (k:RGoJ (JP p z1 z2) P nt ops l Q rest (acc++[⟨⟨dst,op,ty,pos,after,none⟩,Au xs,[],v,[]⟩]) ⟨AW T dst v,S⟩):RGoJ (JP p z1 z2) P nt ops l Q (⟨dst,op,ty,pos,after,none⟩::rest) acc ⟨T,S⟩:=by
 obtain⟨effs,st',k1,k2,k3⟩:=k
 have at_of:∀{S:List AC} {p:Nat} {z:AC},S[p]?=some z->At S p z:=by
  intro S
  induction S with
  |nil=>intro p z h;simp at h
  |cons y S ih=>
   intro p z h;cases p with
   |zero=>simp at h;subst h;exact .here
   |succ p=>exact .next (ih (by simpa using h))
 refine⟨_,_,.soft rfl (λS hS=>?_) h1.rd.evs hd k1,by simpa using k2,k3⟩;rcases hS with h|h
 ·exact⟨_,h1.op,.cons (at_of h) .nil⟩
 ·exact⟨_,h2.op,.cons (at_of h) .nil⟩
theorem JP.ne{p q:Nat}{z1 z2 z:AC}(h:q≠p):∀S,JP p z1 z2 S->JP p z1 z2 (AX S [(q,z)]):=λS hS=>by
 unfold JP at hS⊢;show(S.set q z)[p]?=_\/(S.set q z)[p]?=_
 rw[List.getElem?_set_ne h];exact hS
theorem V4{p:Nat}{z1 z2:AC}:∀S,JP p z1 z2 S->JP p z1 z2 (AX S [(p,z1)]):=λS hS=>by
 have:p<S.length:=by rcases hS with h|h<;>exact(List.getElem?_eq_some_iff.1 h).1
 exact .inl (List.getElem?_set_self this)
theorem V3{p:Nat}{z1 z2:AC}:∀S,JP p z1 z2 S->JP p z1 z2 (AX S [(p,z2)]):=λS hS=>by
 have:p<S.length:=by rcases hS with h|h<;>exact(List.getElem?_eq_some_iff.1 h).1
 exact .inr (List.getElem?_set_self this)
end
end
end
theorem Good.addUsed{m0 m:Mem}{N X:Nat}{Z:Zs}{br:List Nat}(G:Good m0 m N Z br)(hU:m.U X)(hk:X∉Z.keys):Good m0 m N (((X,.used),[])::Z) br:=by
 refine⟨λq hq=>?_,by simpa[Zs.own]using G.own,by simpa[Zs.own]using G.blk,G.frz,List.nodup_cons.2 ⟨hk,G.keys⟩,λx hx=>?_,G.usedN,G.le,G.os,G.tape,G.output,G.size⟩
 ·rcases List.mem_cons.1 hq with rfl|hq
  ·exact⟨rfl,hU⟩
  ·exact G.obj q hq
 ·rcases List.mem_cons.1 hx with rfl|hx
  ·exact G.usedN _ hU
  ·exact G.keyN x hx
theorem Spec.used2{P:Program}{f:FuncId}{args:List AV}{X Y:Nat}{t t2:TypeId}{sz sz2:Nat}{l l2:List AV}{r:AV}(h:Spec P f args [(X,.row t sz l),(Y,.row t2 sz2 l2)] λr' S'=>r'=r/\S'=[]):Spec P f args [(X,.row t sz l),(Y,.row t2 sz2 l2)] λr' S'=>r'=r/\S'=[(X,.used),(Y,.used)]:=
 ⟨h.fn,λSf m N Z vals h1 h2 h3=>(h.run Sf m N Z vals h1 h2 h3).mono λe w' ⟨v,r',S',m',N',Z',br,a,b,hm,G,e',hr,hS⟩=>by
  subst hS;simp only[BD]at hm;have hk:∀Z1:Zs,Z1.keys=(Z1.map (·.1)).map (·.1):=λZ1=>by simp[Zs.keys]
  have hkeys:=h2.keys;rw[hk,h1]at hkeys;simp only[BF,BD,List.map_cons,List.nodup_cons,BO,not_or]at hkeys;obtain⟨⟨hXY,hX⟩,hY,_⟩:=hkeys
  have hUX:m.U X:=by
   have:(X,AO.row t sz l)∈Z.map (·.1):=by rw[h1];simp
   obtain⟨z,hz,e1⟩:=List.mem_map.1 this;have hO:=h2.obj z hz;rw[e1]at hO;exact hO.1
  have hUY:m.U Y:=by
   have:(Y,AO.row t2 sz2 l2)∈Z.map (·.1):=by rw[h1];simp
   obtain⟨z,hz,e1⟩:=List.mem_map.1 this;have hO:=h2.obj z hz;rw[e1]at hO;exact hO.1
  have nY:Y∉Z'.keys:=by rw[hk,hm];exact hY
  have G1:=G.addUsed (G.le.U Y hUY) nY
  have nX:X∉Zs.keys (((Y,AO.used),[])::Z'):=by
   rw[hk,List.map_cons,hm];simp only[List.map_cons,BO,not_or];exact⟨hXY,hX⟩
  exact⟨v,r',[(X,.used),(Y,.used)],m',N',((X,.used),[])::((Y,.used),[])::Z',br,a,b,by simp[hm],G1.addUsed (G.le.U X hUX) nX,e',hr,rfl⟩⟩
section
open Go.RowKit Go.Maps Go.WideElems Go.WideMaps Go.ChangeMaps
def Li:Value->Lit
 |.int q a=>.int q a
 |.bool b=>.bool b
 |.pointer none=>.int .i64 (-1)
 |.pointer (some a)=>.int .i64 a.block
 |_=>.bool false
def E6(P:Program)(e:TypeId)(v:Value):Option (DataW Unit×List MemPlace):=
 match P.underlying e,v with
 |some (.pointer _),.pointer none=>some (.lit (.int .i64 (-1)),[])
 |some (.pointer _),.pointer (some ⟨b,0,none⟩)=>some (.lit (.int .i64 b),[])
 |some (.pointer _),_=>none
 |_,_=>plainElem (H:=Unit) P e v
def PlainV(P:Program)(e:TypeId)(v:Value):Prop:=E6 P e v=some (.lit (Li v),[])
theorem PlainV.int{P:Program}{e:TypeId}{q:IntKind}(he:P.underlying e=some (.int q)){a:Int}(hw:(Lit.int q a).wf=true):PlainV P e (.int q a):=by
 unfold PlainV E6;rw[he];exact plainElem_int he hw
theorem PlainV.nil{P:Program}{e te:TypeId}(he:P.underlying e=some (.pointer te)):PlainV P e (.pointer none):=by
 unfold PlainV E6;rw[he];rfl
theorem PlainV.ptr{P:Program}{e te:TypeId}(he:P.underlying e=some (.pointer te))(b:Nat):PlainV P e (.pointer (some ⟨b,0,none⟩)):=by
 unfold PlainV E6;rw[he];rfl
def MapC(P:Program)(e:TypeId)(g:Int->Option Value)(s:Nat)(D:DataW Unit):Prop:=
 s=Maps.size D/\∀x,(Lit.int .i64 x).wf=true->Maps.has D (.int .i64 x)=(g x).isSome/\∀v,g x=some v->PlainV P e v/\∀z,D.atKey (.int .i64 x) z= .lit (Li v)
def MapF(P:Program)(k e:TypeId)(g:Int->Option Value)(s:Nat)(o:Obj):Prop:=
 ∃es clock D,o= .map es clock/\Fit P k (E6 P e) es clock/\es.size<=s/\D= .map ((es.toList.map (rg P k (E6 P e))).foldr DataW.insert [])/\MapC P e g s D
theorem MapF.own{P:Program}{k e:TypeId}{g:Int->Option Value}{s b:Nat}{o:Obj}{w:World}(h:MapF P k e g s o)(hb:w.heap[b]?=some o):∃D,w.ownsMap P k (E6 P e) b s D/\MapC P e g s D:=by
 obtain⟨es,clock,D,rfl,h1,h2,h3,h4⟩:=h;exact⟨D,⟨es,clock,hb,h1,h2,h3⟩,h4⟩
theorem MapC.of{P:Program}{k e:TypeId}{g:Int->Option Value}{s n b:Nat}{D:DataW Unit}{w:World}(h:w.ownsMap P k (E6 P e) b n D)(hc:MapC P e g s D):∃o,w.heap[b]?=some o/\MapF P k e g s o:=by
 obtain⟨es,clock,hb,h1,h2,h3⟩:=h;refine⟨_,hb,es,clock,D,rfl,h1,?_,h3,hc⟩;rw[hc.1,h3];have e1:Maps.size (DataW.map ((es.toList.map (rg P k (E6 P e))).foldr DataW.insert []))=es.size:=by simp[Maps.size,length_sorted]
 rw[e1];exact Nat.le_refl _
def EO(g:Int->Option Value)(x:Int)(v:Value):Int->Option Value:=λy=>if y=x then some v else g y
def Fm(g:Int->Option Value)(x:Int):Int->Option Value:=λy=>if y=x then none else g y
theorem Gg{x y:Int}(h:¬y=x):(Lit.int .i64 y)≠Lit.int .i64 x:=λe=>h (by injection e)
theorem MapC.put{P:Program}{e:TypeId}{g:Int->Option Value}{s:Nat}{D:DataW Unit}(hT:Maps.Tidy D)(h:MapC P e g s D){x:Int}{v:Value}(hk:WideAt.IsKeyLit (.int .i64 x))(hw:(Lit.int .i64 x).wf=true)(hv:PlainV P e v):
  MapC P e (EO g x v) (if(g x).isSome then s else s+1) (D.put (.int .i64 x) (.lit (Li v))):=by
 obtain⟨h1,h2⟩:=h;refine⟨?_,λy hy=>?_⟩
 ·rw[size_put hT,(h2 x hw).1,h1]
 ·by_cases e:y=x
  ·subst e
   refine⟨by rw[has_put_same hT.isMap hk];simp[EO],λu hu=>?_⟩;simp only[EO,if_true,Option.some.injEq]at hu;subst hu;exact⟨hv,λz=>atKey_put_same hT.isMap hk _ _⟩
  ·refine⟨by rw[has_put_other (Gg e),(h2 y hy).1];simp[EO,e],λu hu=>?_⟩
   simp only[EO,if_neg e]at hu;exact⟨((h2 y hy).2 u hu).1,λz=>by rw[atKey_put_other (Gg e)];exact((h2 y hy).2 u hu).2 z⟩
theorem MapC.del{P:Program}{e:TypeId}{g:Int->Option Value}{s:Nat}{D:DataW Unit}(hT:Maps.Tidy D)(h:MapC P e g s D){x:Int}(hw:(Lit.int .i64 x).wf=true):
  MapC P e (Fm g x) (if(g x).isSome then s-1 else s) (D.del (.int .i64 x)):=by
 obtain⟨h1,h2⟩:=h;refine⟨?_,λy hy=>?_⟩
 ·have:=size_del (k:=.int .i64 x) hT
  rw[(h2 x hw).1,<-h1]at this;split<;>rename_i hs<;>simp[hs]at this<;>omega
 ·by_cases e:y=x
  ·subst e
   refine⟨by rw[has_del_same];simp[Fm],λu hu=>?_⟩;simp[Fm]at hu
  ·refine⟨by rw[has_del_other (Gg e),(h2 y hy).1];simp[Fm,e],λu hu=>?_⟩
   simp only[Fm,if_neg e]at hu;exact⟨((h2 y hy).2 u hu).1,λz=>by rw[atKey_del_other (Gg e)];exact((h2 y hy).2 u hu).2 z⟩
section
variable {P:Program}{m0 m:Mem}{N X:Nat}{R:Zs}{ex:List Nat}
theorem NC{w:World}{b:Nat}{o0:Obj}(h:w.heap[b]?=some o0)(o:Obj):(setBlock w b o).heap[b]?=some o:=by
 have hlt:b<w.heap.size:=(Array.getElem?_eq_some_iff.1 h).1;simp[setBlock,hlt]
theorem OD{w:World}{b c:Nat}(o:Obj)(h:c≠b):(setBlock w b o).heap[c]?=w.heap[c]?:=by
 simp only[setBlock];exact Array.getElem?_setIfInBounds_ne (λe=>h e.symm)
theorem Nm{bs0:List Nat}{K:Obj->Prop}(G:Good m0 m N (((X,.gone),bs0)::R) ex)(o:Obj)(hK:K o)(m':Mem)
  (hm':m'=⟨λy=>if y=X then some ⟨m.w.heap.size,0,0,false⟩else m.μ y,λy=>m.U y\/y=X,m.w.alloc o,m.F⟩):
  Good m0 m' N (((X,.ob K),[m.w.heap.size])::R) ex/\m.Le m':=by
 subst hm';obtain⟨rfl,hU⟩:=G.obj _ (List.mem_cons_self ..);have hXN:=G.keyN X (by simp[IX])
 have hle:m.Le ⟨λy=>if y=X then some ⟨m.w.heap.size,0,0,false⟩else m.μ y,λy=>m.U y\/y=X,m.w.alloc o,m.F⟩:=by
  refine⟨λy h=>.inl h,λy L hy hL=>?_,λb hb=>⟨hb,Below.heap_alloc _ _ _ (G.frz b hb)⟩⟩;simp only at hL;split at hL
  ·rename_i e;subst e;exact absurd hy hU
  ·exact hL
 refine⟨?_,hle⟩;have ownex:=G.own;rw[BR,BD]at ownex;refine Good.swap (zs:=[((X,.gone),[])]) (zs':=[((X,.ob K),[m.w.heap.size])]) G hle (Nat.le_refl _) ?_ ?_ ?_ ?_ ?_ ?_ ?_ ?_ ?_ rfl rfl rfl (by simp)
 ·intro y hy _
  have hne:y≠X:=by intro e;apply hy;simp[Zs.keys,e]
  simp[hne]
 ·intro b hb _ _
  exact Below.heap_alloc _ _ _ hb
 ·intro z hz
  simp only[BP]at hz;subst hz;exact⟨.inr rfl,⟨m.w.heap.size,0,0,false⟩,by simp,rfl,o,heap_alloc_new m.w _,hK⟩
 ·rw[Ft]
  refine List.nodup_append.2 ⟨by simp,(List.nodup_append.1 ownex).2.1,λb hb c hc e=>?_⟩;simp only[BP]at hb;have:=(G.blk c (by simp[hc])).1;omega
 ·intro b hb
  rw[Ft]at hb⊢;rcases List.mem_append.1 hb with hb|hb
  ·simp only[BP]at hb
   subst hb;exact⟨by simp,λhF=>Nat.lt_irrefl _ (G.frz _ hF),.inr (.inr (Nat.le_refl _))⟩
  ·have:=G.blk b (by simp[hb])
   exact⟨by have:=this.1;simp;omega,this.2,.inr (.inl hb)⟩
 ·intro b hb
  exact⟨by have:=G.frz b hb;simp;omega,.inl hb⟩
 ·simp[Zs.keys]
 ·intro y hy
  simp[Zs.keys]at hy⊢;subst hy;exact⟨hXN,.inl rfl⟩
 ·intro y hy
  simp[Zs.keys];rcases hy with hy|rfl
  ·exact⟨G.usedN y hy,.inl hy⟩
  ·exact⟨hXN,.inr (.inl rfl)⟩
theorem LY{K K':Obj->Prop}{bs:List Nat}{L:Loc}(G:Good m0 m N (((X,.ob K),bs)::R) ex)(hL:m.μ X=some L)(hbs:bs=[L.blk])(o':Obj)(hK:K' o')(m':Mem)(hm':m'={m with w:=setBlock m.w L.blk o'}):
  Good m0 m' N (((X,.ob K'),bs)::R) ex/\m.Le m':=by
 subst hm' hbs;obtain⟨hU,L',hL',hbs',o,hb,hKo⟩:=G.obj _ (List.mem_cons_self ..);have hbk:=G.blk L.blk (by simp[Zs.own]);obtain⟨o0,ho0⟩:∃o0,m.w.heap[L.blk]?=some o0:=⟨_,Array.getElem?_eq_getElem hbk.1⟩;have hle:m.Le {m with w:=setBlock m.w L.blk o'}:=⟨λy h=>h,λ_ _ _ h=>h,λc hc=>⟨hc,OD _ (λe=>by subst e;exact hbk.2 hc)⟩⟩;have own:=G.own;have hsz:(setBlock m.w L.blk o').heap.size=m.w.heap.size:=by simp[setBlock]
 refine⟨Good.swap (zs:=[((X,.ob K),[L.blk])]) (zs':=[((X,.ob K'),[L.blk])]) (R:=R) (ex:=ex) (ex':=ex) G hle (by omega) (λy _ _=>rfl) (λc _ hc _=>OD _ (λe=>by subst e;simp[Zs.own]at hc)) ?_ ?_ ?_ ?_ (by simp[Zs.keys]) ?_ ?_ rfl rfl rfl (Nat.le_of_eq hsz.symm),hle⟩
 ·intro z hz
  simp only[BP]at hz;subst hz;exact⟨hU,L,hL,rfl,o',NC ho0 _,hK⟩
 ·have hp:(Zs.own (((X,AO.ob K),[L.blk])::R)++ex).Perm (R.own++([L.blk]++ex)):=by
   rw[BR,AP];refine List.perm_append_comm.trans ?_;rw[AP];exact List.Perm.append_left _ List.perm_append_comm
  have:=(List.nodup_append.1 (hp.nodup_iff.1 own)).2.1;simpa[Zs.own]using this
 ·intro c hc
  simp only[Zs.own,List.flatMap_cons,List.flatMap_nil,List.append_nil,CS,BP]at hc;have hk:=G.blk c (by simp only[BR,CS,BP];rcases hc with h|h<;>simp[h]);exact⟨by show c<(setBlock m.w L.blk o').heap.size;rw[hsz];exact hk.1,hk.2,by rcases hc with h|h<;>simp[Zs.own,h]⟩
 ·intro c hc
  exact⟨by show c<(setBlock m.w L.blk o').heap.size;rw[hsz];exact G.frz c hc,.inl hc⟩
 ·intro y hy
  simp only[Zs.keys,List.map_cons,List.map_nil,BP]at hy⊢;subst hy;exact⟨G.keyN y (by simp[Zs.keys]),.inl rfl⟩
 ·intro y hy
  exact⟨G.usedN y hy,.inl hy⟩
variable {o:Oper}{v:AV}{x y z:Operand}{ty ty2 t k e:TypeId}{pos:String}{after:Array Edge}{g:Option (Nat×Bool)}{dst:Option Tmp}{p:Nat}{gf:Int->Option Value}{s:Nat}
theorem Tj(w:World)(P:Program)(k e:TypeId):MapF P k e (λ_=>none) 0 (.map #[] 0):=by
 obtain⟨es,clock,hb,h1,h2,h3⟩:=World.ownsMap_made (H:=Unit) w P k (E6 P e);rw[heap_alloc_new]at hb;obtain⟨rfl,rfl⟩:=Obj.map.inj (Option.some.inj hb);exact⟨#[],0,_,rfl,h1,h2,h3,rfl,λx _=>⟨rfl,λv hv=>by cases hv⟩⟩
theorem OpT.makeMap(ht:P.underlying t=some (.map k e)):OpT P ⟨dst,.makeMap t none,ty,pos,after,g⟩ [] [(p,(X,.gone))] (.mp X) [(p,(X,.ob (MapF P k e (λ_=>none) 0)))]:=by
 intro nt m0 T S a w hx hS hd hr;obtain⟨m,N,Z,rfl,h2,h3,h4⟩:=hr;have h2':Z.map (·.1)=S:=h2;have hSp:=hS (p,(X,.gone)) (by simp);rw[<-h2',AG]at hSp;cases hz:Z[p]? with
 |none=>rw[hz]at hSp;cases hSp
 |some z=>
  rw[hz]at hSp;simp only[Option.map_some,Option.some.injEq]at hSp;obtain⟨z1,z2⟩:=z;simp only at hSp;subst hSp;obtain⟨R,hp1,hp2⟩:=Bd hz;obtain⟨G',hle⟩:=Nm (h3.perm hp1) (.map #[] 0) (Tj m.w P k e) _ rfl;unfold Oper.wp
  have h5:(execOp a.eval ⟨dst,.makeMap t none,ty,pos,after,g⟩).run P m.w= .ok (.value (.map (some m.w.heap.size))) (m.w.alloc (.map #[] 0)):=by
   simp[execOp,run_makeMap,Sem.run_bind,Result.andThen_ok,Sem.run_pure]
  rw[h5];refine⟨_,N,Z.set p ((X,.ob _),[m.w.heap.size]),rfl,?_,G'.perm (hp2 _).symm,(h4.mono hle).put hd ?_⟩
  ·rw[List.map_set,h2'];rfl
  ·refine⟨rfl,.inr rfl,_,rfl,λL hL=>?_⟩
   simp only[if_true,Option.some.injEq]at hL;subst hL;rfl
theorem GV{n:Int}(hn: -9223372036854775808<=n/\n<=9223372036854775807):(Lit.int .i64 n).wf=true:=by
 have h1:IntKind.i64.min= -9223372036854775808:=by decide
 have h2:IntKind.i64.max=9223372036854775807:=by decide
 simp[Lit.wf,h1,h2,hn.1,hn.2]
theorem OpT.mapUpd{n:Int}{u:Value}(ht:P.underlying t=some (.map k e))(hk:P.underlying k=some (.int .i64))(hn: -9223372036854775808<=n/\n<=9223372036854775807)(hu:PlainV P e u)(hs:s<maxLen):OpT P ⟨dst,.mapUpdate t x y z,ty,pos,after,g⟩ [(x,.mp X),(y,.prim (.int .i64 n)),(z,.prim u)] [(p,(X,.ob (MapF P k e gf s)))] .dead [(p,(X,.ob (MapF P k e (EO gf n u) (if(gf n).isSome then s else s+1))))]:=by
 intro nt m0 T S a w hx hS hd hr;obtain⟨m,N,Z,rfl,h2,h3,h4⟩:=hr;have h2':Z.map (·.1)=S:=h2;have hxa:VV m (.mp X) (a.eval x) []:=h4.ev (hx (x,.mp X) (by simp));have hya:=(h4.ev (hx (y,.prim (.int .i64 n)) (by simp))).prim;have hza:=(h4.ev (hx (z,.prim u) (by simp))).prim;have hSp:=hS (p,(X,.ob (MapF P k e gf s))) (by simp);rw[<-h2',AG]at hSp;cases hz:Z[p]? with
 |none=>rw[hz]at hSp;cases hSp
 |some z1=>
  rw[hz]at hSp;simp only[Option.map_some,Option.some.injEq]at hSp;obtain⟨z1,bs⟩:=z1;simp only at hSp;subst hSp;obtain⟨R,hp1,hp2⟩:=Bd hz;have G:=h3.perm hp1;obtain⟨hU,L,hL,hbs,o,hb,hKo⟩:=G.obj _ (List.mem_cons_self ..);obtain⟨_,_,A,hA,hA2⟩:=hxa;simp only[List.cons.injEq,and_true]at hA;rw[hA2 L hL]at hA;obtain⟨D,hown,hC⟩:=hKo.own hb;have K:=int_keyed (P:=P) hk;have hwf:(Lit.int .i64 n).wf=true:=GV hn;have hkey:=keyOf_int_mk hk hwf;obtain⟨w',hrun,hown',hturn⟩:=hown.store K ht hs hkey hu;obtain⟨es,clock,es',clock',hb0,rfl⟩:=hturn;obtain⟨o',ho',hF'⟩:=MapC.of hown' (hC.put (hown.tidy K) (K.key hkey) hwf hu);rw[NC hb0]at ho';obtain rfl:=Option.some.inj ho';obtain⟨G',hle⟩:=LY G hL hbs _ hF' _ rfl;unfold Oper.wp
  have h5:(execOp a.eval ⟨dst,.mapUpdate t x y z,ty,pos,after,g⟩).run P m.w= .ok .skip (setBlock m.w L.blk (.map es' clock')):=by
   simp[execOp,hA,hya,hza,hrun,Sem.run_bind,Result.andThen_ok,Sem.run_pure]
  rw[h5];refine⟨_,N,Z.set p ((X,.ob _),bs),rfl,?_,G'.perm (hp2 _).symm,(h4.mono hle).put hd ?_⟩
  ·rw[List.map_set,h2'];rfl
  ·exact rfl
theorem Te{m:Mem}{x0:Operand}{a:Act}(hx:VV m (.mp X) (a.eval x0) []){bs:List Nat}(hO:ORel m X (.ob (MapF P k e gf s)) bs):∃b D,a.eval x0= .map (some b)/\m.w.ownsMap P k (E6 P e) b s D/\MapC P e gf s D:=by
 obtain⟨hU,L,hL,hbs,o,hb,hKo⟩:=hO;obtain⟨_,_,A,hA,hA2⟩:=hx;simp only[List.cons.injEq,and_true]at hA;rw[hA2 L hL]at hA;obtain⟨D,hown,hC⟩:=hKo.own hb;exact⟨L.blk,D,hA,hown,hC⟩
theorem Ou{v:Value}(hp:∀te,P.underlying e≠some (.pointer te)):E6 P e v=plainElem (H:=Unit) P e v:=by
 unfold E6;split
 ·exact absurd ‹_› (hp _)
 ·exact absurd ‹_› (hp _)
 ·exact absurd ‹_› (hp _)
 ·rfl
theorem Gu{v:Value}{u:Value}{ps:List MemPlace}(h:E6 P e v=some (.lit (Li u),ps))(hu:PlainV P e u):v=u:=by
 unfold PlainV at hu;by_cases hp:∃te,P.underlying e=some (.pointer te)
 ·obtain⟨te,hp⟩:=hp
  unfold E6 at h hu;rw[hp]at h hu;split at hu
  ·split at h
   ·rfl
   ·simp only[Li,Option.some.injEq,Prod.mk.injEq,DataW.lit.injEq,Lit.int.injEq]at h
    omega
   ·cases h
   ·simp_all
  ·split at h
   ·simp only[Li,Option.some.injEq,Prod.mk.injEq,DataW.lit.injEq,Lit.int.injEq]at h
    omega
   ·simp only[Li,Option.some.injEq,Prod.mk.injEq,DataW.lit.injEq,Lit.int.injEq]at h
    obtain⟨⟨_,h⟩,_⟩:=h;have h:_=_:=Int.ofNat.inj h;subst h;rfl
   ·cases h
   ·simp_all
  ·cases hu
  ·simp_all
 ·have hp':∀te,P.underlying e≠some (.pointer te):=λte e=>hp ⟨te,e⟩
  rw[Ou hp']at h hu;unfold plainElem at h hu;generalize P.underlying e=d at h hu;split at hu
  ·split at h
   ·simp only[Li,Option.some.injEq,Prod.mk.injEq,DataW.lit.injEq,Lit.bool.injEq]at h
    rw[h.1]
   ·simp_all
   ·simp_all
   ·cases h
  ·split at h
   ·simp_all
   ·split at h
    ·split at hu
     ·rename_i h1 h2
      simp only[Li,Option.some.injEq,Prod.mk.injEq,DataW.lit.injEq,Lit.int.injEq]at h
      simp_all
     ·cases hu
    ·cases h
   ·simp_all
   ·cases h
  ·split at hu
   ·simp[Li]at hu
   ·cases hu
  ·cases hu
theorem OpT.lookup1{n:Int}{z0:Value}(ht:P.underlying t=some (.map k e))(hk:P.underlying k=some (.int .i64))(hz:∀w,(zeroValue e).run P w= .ok z0 w)(h0:PlainV P e z0)(hn: -9223372036854775808<=n/\n<=9223372036854775807)(hone:((gf n).getD z0).oneCell'=true):
  OpT P ⟨dst,.lookup t x y false,ty,pos,after,g⟩ [(x,.mp X),(y,.prim (.int .i64 n))] [(p,(X,.ob (MapF P k e gf s)))] (.prim ((gf n).getD z0)) []:=
 .pure_ λm a hx hS=>by
  obtain⟨bs,hO⟩:=hS (p,(X,.ob (MapF P k e gf s))) (by simp);obtain⟨b,D,hA,hown,hC⟩:=Te (hx (x,.mp X) (by simp)) hO;have hya:=(hx (y,.prim (.int .i64 n)) (by simp)).prim;have K:=int_keyed (P:=P) hk;have hwf:=GV hn;have hkey:=keyOf_int_mk hk hwf;obtain⟨v,ps,hrun,hv⟩:=hown.lookup K ht (hz m.w) h0 hkey
  have hval:v=(gf n).getD z0:=by
   obtain⟨h1,h2⟩:=hC.2 n hwf;cases hg:gf n with
   |none=>
    rw[hg]at h1;rw[atKey_of_not_has (by simpa using h1)]at hv;exact Gu hv h0
   |some u=>
    obtain⟨h3,h4⟩:=h2 u hg;rw[h4]at hv;exact Gu hv h3
  subst hval;exact⟨_,by simp only at hya hA;simp[execOp,hA,hya,hrun,Sem.run_bind,Result.andThen_ok,Sem.run_pure],BM _ hone⟩
theorem OpT.lookup2{n:Int}{z0:Value}(ht:P.underlying t=some (.map k e))(hk:P.underlying k=some (.int .i64))(hz:∀w,(zeroValue e).run P w= .ok z0 w)(h0:PlainV P e z0)(hn: -9223372036854775808<=n/\n<=9223372036854775807)(hone:((gf n).getD z0).oneCell'=true):
  OpT P ⟨dst,.lookup t x y true,ty,pos,after,g⟩ [(x,.mp X),(y,.prim (.int .i64 n))] [(p,(X,.ob (MapF P k e gf s)))] (.tup [.prim ((gf n).getD z0),.prim (.bool (gf n).isSome)]) []:=
 .pure_ λm a hx hS=>by
  obtain⟨bs,hO⟩:=hS (p,(X,.ob (MapF P k e gf s))) (by simp);obtain⟨b,D,hA,hown,hC⟩:=Te (hx (x,.mp X) (by simp)) hO;have hya:=(hx (y,.prim (.int .i64 n)) (by simp)).prim;have K:=int_keyed (P:=P) hk;have hwf:=GV hn;have hkey:=keyOf_int_mk hk hwf;obtain⟨v,ps,hrun,hv⟩:=hown.look_ok K ht (hz m.w) h0 hkey;obtain⟨h1,h2⟩:=hC.2 n hwf
  have hval:v=(gf n).getD z0:=by
   cases hg:gf n with
   |none=>
    rw[hg]at h1;rw[atKey_of_not_has (by simpa using h1)]at hv;exact Gu hv h0
   |some u=>
    obtain⟨h3,h4⟩:=h2 u hg;rw[h4]at hv;exact Gu hv h3
  subst hval;rw[h1]at hrun;exact⟨_,by simp only at hya hA;simp[execOp,hA,hya,hrun,Sem.run_bind,Result.andThen_ok,Sem.run_pure],⟨_,rfl,(Bi rfl).2 ⟨_,_,[],[],rfl,rfl,BM _ hone,(Bi rfl).2 ⟨_,_,[],[],rfl,rfl,BM _,⟨rfl,rfl⟩⟩⟩⟩⟩
theorem OpT.mapDel{ats:Array TypeId}{n:Int}(ht:P.underlying t=some (.map k e))(hk:P.underlying k=some (.int .i64))(hn: -9223372036854775808<=n/\n<=9223372036854775807):OpT P ⟨dst,.call ⟨.builtin .delete,#[x,y],#[t,k]⟩,ty,pos,after,g⟩ [(x,.mp X),(y,.prim (.int .i64 n))] [(p,(X,.ob (MapF P k e gf s)))] .dead [(p,(X,.ob (MapF P k e (Fm gf n) (if(gf n).isSome then s-1 else s))))]:=by
 intro nt m0 T S a w hx hS hd hr;obtain⟨m,N,Z,rfl,h2,h3,h4⟩:=hr;have h2':Z.map (·.1)=S:=h2;have hxa:VV m (.mp X) (a.eval x) []:=h4.ev (hx (x,.mp X) (by simp));have hya:=(h4.ev (hx (y,.prim (.int .i64 n)) (by simp))).prim;have hSp:=hS (p,(X,.ob (MapF P k e gf s))) (by simp);rw[<-h2',AG]at hSp;cases hz:Z[p]? with
 |none=>rw[hz]at hSp;cases hSp
 |some z1=>
  rw[hz]at hSp;simp only[Option.map_some,Option.some.injEq]at hSp;obtain⟨z1,bs⟩:=z1;simp only at hSp;subst hSp;obtain⟨R,hp1,hp2⟩:=Bd hz;have G:=h3.perm hp1;obtain⟨hU,L,hL,hbs,o,hb,hKo⟩:=G.obj _ (List.mem_cons_self ..);obtain⟨_,_,A,hA,hA2⟩:=hxa;simp only[List.cons.injEq,and_true]at hA;rw[hA2 L hL]at hA;obtain⟨D,hown,hC⟩:=hKo.own hb;have K:=int_keyed (P:=P) hk;have hwf:(Lit.int .i64 n).wf=true:=GV hn;have hkey:=keyOf_int_mk hk hwf;obtain⟨w',hrun,hown',hturn⟩:=hown.drop K ht hkey ty;obtain⟨es,clock,es',clock',hb0,rfl⟩:=hturn;obtain⟨o',ho',hF'⟩:=MapC.of hown' (hC.del (hown.tidy K) hwf);rw[NC hb0]at ho';obtain rfl:=Option.some.inj ho';obtain⟨G',hle⟩:=LY G hL hbs _ hF' _ rfl;unfold Oper.wp
  have h5:(execOp a.eval ⟨dst,.call ⟨.builtin .delete,#[x,y],#[t,k]⟩,ty,pos,after,g⟩).run P m.w= .ok (.value (.tuple #[])) (setBlock m.w L.blk (.map es' clock')):=by
   rw[BQ];simp[builtin,hA,hya,hrun,Sem.run_bind,Result.andThen_ok,Sem.run_pure]
  rw[h5];refine⟨_,N,Z.set p ((X,.ob _),bs),rfl,?_,G'.perm (hp2 _).symm,(h4.mono hle).put hd ?_⟩
  ·rw[List.map_set,h2'];rfl
  ·exact rfl
end
class TMap(P:Program)(t:TypeId)(k e:outParam TypeId)(z0:outParam Value):Prop where
 h:P.underlying t=some (.map k e)
 hk:P.underlying k=some (.int .i64)
 hz:∀w,(zeroValue e).run P w= .ok z0 w
 h0:PlainV P e z0
section
variable {ro:Option Nat}{P:Program}{nt:Nat}{ops:Array Oper}{Q:Exit->St->Prop}{rest:List Oper}{T:List (Nat×AV)}{S:List AC}{ty t k e:TypeId}{pos:String}{after:Array Edge}{dst:Option Tmp}{c:Option (List Bool)}{g:Option (Nat×Bool)}{x y z:Operand}{X p:Nat}{gf:Int->Option Value}{s:Nat}{z0:Value}
theorem Lc[TMap P t k e z0](kk:∀X,AOps ro P nt ops Q rest ⟨AW T dst (.mp X),(X,.ob (MapF P k e (λ_=>none) 0))::S⟩)(hd:AU dst nt=true:=by rfl):AOps ro P nt ops Q (⟨dst,.makeMap t none,ty,pos,after,none⟩::rest) ⟨T,S⟩:=
 AOps.rs λX=>AOps.step (o:=⟨dst,.makeMap t none,ty,pos,after,none⟩) (xs:=[]) (rS:=[(0,(X,.gone))]) rfl (OpT.makeMap (TMap.h (z0:=z0))) .nil (.cons .here .nil) hd (kk X)
theorem Ge{st:St}(kk:AOps ro P nt ops Q (⟨dst,.makeMap t none,ty,pos,after,g⟩::rest) st):AOps ro P nt ops Q (⟨dst,.makeMap t none,ty,pos,after,g⟩::rest) st:=kk
theorem W.mapUpd{n:Int}{u:Value}[TMap P t k e z0](hu:PlainV P e u)(hn: -9223372036854775808<=n/\n<=9223372036854775807)(hs:s<maxLen)(hx:Rd c T x (.mp X))(hy:Rd c T y (.prim (.int .i64 n)))(hz:Rd c T z (.prim u))(hSp:At S p (X,.ob (MapF P k e gf s))):
  Stp c P ⟨dst,.mapUpdate t x y z,ty,pos,after,g⟩ T S [(x,.mp X),(y,.prim (.int .i64 n)),(z,.prim u)] [(p,(X,.ob (MapF P k e gf s)))] .dead [(p,(X,.ob (MapF P k e (EO gf n u) (if(gf n).isSome then s else s+1))))]:=
 ⟨.mapUpd (TMap.h (z0:=z0)) (TMap.hk (t:=t) (z0:=z0)) hn hu hs,.cons hx (.cons hy (.cons hz .nil)),.cons hSp .nil⟩
theorem IC{n:Int}(v:Value)[TMap P t k e z0](hv:(gf n).getD z0=v)(hn: -9223372036854775808<=n/\n<=9223372036854775807)(hx:Rd c T x (.mp X))(hy:Rd c T y (.prim (.int .i64 n)))(hSp:At S p (X,.ob (MapF P k e gf s)))(hone:v.oneCell'=true:=by rfl):
  Stp c P ⟨dst,.lookup t x y false,ty,pos,after,g⟩ T S [(x,.mp X),(y,.prim (.int .i64 n))] [(p,(X,.ob (MapF P k e gf s)))] (.prim v) []:=by
 subst hv;exact⟨.lookup1 (TMap.h (z0:=z0)) (TMap.hk (t:=t) (z0:=z0)) (TMap.hz (t:=t)) (TMap.h0 (t:=t)) hn hone,.cons hx (.cons hy .nil),.cons hSp .nil⟩
theorem EL{n:Int}(v:Value)(b:Bool)[TMap P t k e z0](hv:(gf n).getD z0=v)(hb:(gf n).isSome=b)(hn: -9223372036854775808<=n/\n<=9223372036854775807)(hx:Rd c T x (.mp X))(hy:Rd c T y (.prim (.int .i64 n)))(hSp:At S p (X,.ob (MapF P k e gf s)))(hone:v.oneCell'=true:=by rfl):
  Stp c P ⟨dst,.lookup t x y true,ty,pos,after,g⟩ T S [(x,.mp X),(y,.prim (.int .i64 n))] [(p,(X,.ob (MapF P k e gf s)))] (.tup [.prim v,.prim (.bool b)]) []:=by
 subst hv hb;exact⟨.lookup2 (TMap.h (z0:=z0)) (TMap.hk (t:=t) (z0:=z0)) (TMap.hz (t:=t)) (TMap.h0 (t:=t)) hn hone,.cons hx (.cons hy .nil),.cons hSp .nil⟩
theorem W.mapDel{n:Int}[TMap P t k e z0](hn: -9223372036854775808<=n/\n<=9223372036854775807)(hx:Rd c T x (.mp X))(hy:Rd c T y (.prim (.int .i64 n)))(hSp:At S p (X,.ob (MapF P k e gf s))):
  Stp c P ⟨dst,.call ⟨.builtin .delete,#[x,y],#[t,k]⟩,ty,pos,after,g⟩ T S [(x,.mp X),(y,.prim (.int .i64 n))] [(p,(X,.ob (MapF P k e gf s)))] .dead [(p,(X,.ob (MapF P k e (Fm gf n) (if(gf n).isSome then s-1 else s))))]:=
 ⟨.mapDel (ats:=#[]) (TMap.h (z0:=z0)) (TMap.hk (t:=t) (z0:=z0)) hn,.cons hx (.cons hy .nil),.cons hSp .nil⟩
end
end
section
variable {ro:Option Nat}
section
variable {P:Program}{nt:Nat}{ops:Array Oper}{Q:Exit->St->Prop}{rest:List Oper}{T:List (Nat×AV)}{S:List AC}{f:FuncId}{x0 x1 x2:Operand}{v0 v1 v2 r v:AV}{dst:Option Tmp}{ats:Array TypeId}{ty:TypeId}{pos:String}{after:Array Edge}{p1 p2:Nat}{z1 z2:AC}{y1 y2:Nat->AC}{Sin Sout news:List AC}{rS wS:List (Nat×AC)}
end
end
end Go.Proofs.YtiidbamlcgbpnaaGreat
