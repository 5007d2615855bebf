/-
  Part 1 of the texts under the law WorldOwn: the layer of abstract values, walks and plain laws. Conditions: those that each theorem names.
-/
import Derived.WalkKit
import Derived.Maps.AppendAt
import Derived.Orders
import Derived.OrdersIn
import Derived.RangeFuncRecord
import Derived.RangeFuncCalls
import Derived.Laws.Rows
import Derived.Laws.CopyRow
import Derived.Deep.MidRow
import Derived.Great.BuildSlice
import Derived.Laws.MakeOwn
namespace Go.Proofs.YtmkahplhnbbgmaaGreat
set_option linter.unusedVariables false
set_option linter.unusedSimpArgs false
set_option linter.defProp false
set_option maxRecDepth 10000
set_option maxHeartbeats 4000000
def AA:=@Go.Result.andThen_ok
def AC:=@List.getElem?_eq_some_iff
def AE:=@Bool.and_eq_true
def AF:=@List.append_assoc
def AG:=@Go.Sem.run_pure
def AI:=@Go.Sem.run_bind
def AJ:=@List.map_append
def AL:=@List.nodup_append
def AM:=@of_decide_eq_true
def AN:=@List.mem_append
def AP:=@Nat.le_refl
def AR:=@List.map_cons
def AS:=@List.mem_singleton
def AU:=@Option.some.injEq
def AW:=@List.mem_cons
def Ab:=@of_decide_eq_false
def Ac:=@Bool.eq_false_or_eq_true
def Ad:=@List.mem_of_mem_take
def Ae:=@List.mem_of_mem_drop
def Af:=@Nat.zero_add
def Ah:=@if_neg
def Al:=@List.take_of_length_le
def Ap:=@Nat.zero_le
def Au:=@Option.map_some
def Aw:=@List.perm_append_comm
def Az:=@Nat.mul_le_mul_right
def A1:=@if_pos
def A4:=@List.mem_cons_self
def A7:=@Go.run_underlying
def A8:=@List.map_set
def BD:=@List.pairwise_cons
def BF:=@List.getElem?_set_self
def BH:=@List.mem_map
def BJ:=@Nat.min_eq_left
def BK:=@List.getElem?_append_right
def BL:=@List.append_nil
def BO:=@List.Perm.append_left
def BP:=@List.drop_of_length_le
def Bf:=@List.Perm.cons
def Bi:=@List.take_append_drop
def Bj:=@List.map_nil
def Bk:=@List.getElem?_eq_none
def Bl:=@Array.getD_eq_getD_getElem?
def Bo:=@List.flatMap_cons
def Bq:=@List.take_append_of_le_length
def Bs:=@List.nodup_cons
def Bt:=@List.take_succ_eq_append_getElem
def By:=@List.length_set
def B3:=@List.pairwise_iff_getElem
def B4:=@List.getElem_of_mem
def B5:=@List.getElem?_append_left
def CG:=@List.length_singleton
def CJ:=@Array.length_toList
def CN:=@List.length_take
def CO:=@List.ext_getElem
def CP:=@List.cons.injEq
def CQ:=@Bool.or_eq_true
def CR:=@List.any_eq_false
def CT:=@Nat.le_trans
def CW:=@Nat.add_mul
def CX:=@List.Perm.append_right
def CY:=@List.length_append
def CZ:=@List.getElem?_take
def Ca:=@List.getElem?_drop
def Cf:=@List.getElem?_eq_getElem
def Cg:=@List.eq_of_mem_replicate
def Ci:=@List.length_replicate
def Cj:=@List.take_take
def Ck:=@List.mem_range
def Cl:=@List.all_eq_true
def Cm:=@decide_eq_true_eq
def Cn:=@List.getElem?_map
def Co:=@Int.toNat_natCast
def Cp:=@Function.comp_def
def Ct:=@List.map_map
def Cy:=@List.take_left'
def Cz:=@List.eq_nil_of_length_eq_zero
def C0:=@List.drop_length
def C2:=@UInt64.toNat_ofNat'
def C5:=@Nat.eq_of_beq_eq_true
def C9:=@trivial
def DF:=@List.Perm.swap
def DI:=@Go.World.putObj_heap_other
def DJ:=@List.take_length
def DK:=@List.not_mem_nil
def DT:=@Prod.mk.injEq
def DY:=@Nat.sub_self
def Dc:=@List.mem_flatMap
def Dd:=@List.length_drop
def Dh:=@List.pairwise_append
def Dp:=@Nat.add_zero
def Dq:=@List.drop_zero
def Dr:=@List.drop_drop
def Dt:=@List.Sublist.refl
def Du:=@Bool.not_eq_true'
def Dw:=@List.mem_filter
def Dz:=@Go.RowKit.Below.heap_alloc
def D3:=@List.map_toArray
def D7:=@List.findIdx?_eq_some_iff_getElem
def EC:=@List.findIdx?_eq_none_iff
def ED:=@Bool.not_false
def EN:=@List.nil_append
def EO:=@List.eraseIdx_eq_take_drop_succ
def EV:=@List.takeWhile_cons
def Eb:=@List.getElem_map
def Ee:=@List.drop_take
def Eh:=@Nat.lt_of_lt_of_le
def Er:=@Option.map_none
def Es:=@Nat.zero_lt_one
def Et:=@List.set_append_right
def Eu:=@Bool.eq_iff_iff
def Ex:=@Nat.lt_trichotomy
def Ey:=@Bool.true_and
def E6:=@Int.fdiv_eq_ediv_of_nonneg
def FC:=@List.getElem?_set_ne
def FD:=@Bool.or_eq_false_iff
def FI:=@List.mem_or_eq_of_mem_set
def FJ:=@Array.getElem?_eq_getElem
def FP:=@Nat.le_of_not_lt
def FU:=@List.map_congr_left
def FV:=@List.flatMap_append
def FX:=@Go.wpListIn_plain
def Fb:=@Nat.zero_mul
def Fy:=@Nat.eq_zero_or_pos
def Fz:=@List.pairwise_singleton
def F0:=@List.map_take
def F3:=@List.getElem?_replicate
def GJ:=@List.drop_eq_nil_of_le
def GK:=@if_true
def GL:=@List.take_add_one
def GZ:=@Nat.sub_zero
def Ga:=@Nat.lt_or_ge
def Gb:=@Nat.le_of_ble_eq_true
def Gc:=@List.set_getElem_self
def Gd:=@List.find?_eq_some_iff_getElem
def Gz:=@Option.getD_some
def G5:=@List.flatMap_nil
def G6:=@List.cons_append
def G7:=@List.any_eq_true
def G8:=@List.mem_cons_of_mem
def G9:=@congrArg
def HA:=@Nat.lt_irrefl
def HB:=@Bool.not_true
def HV:=@Nat.blt_eq
def Hq:=@List.replicate_succ
def Hr:=@List.length_nil
def Hs:=@List.drop_left'
def II:=@or_false
def IW:=@Go.Sem.run_ite
def IY:=@List.set_cons_zero
def IZ:=@List.find?_eq_none
def Ib:=@Go.DataW.lit.injEq
def Ie:=@List.sublist_append_right
def I9:=@List.size_toArray
def JF:=@List.ext_getElem?
def JG:=@List.Sublist.cons
def Jw:=@Nat.le_mul_of_pos_right
def Jy:=@Nat.add_assoc
def J1:=@Go.wpIn_mono
def J5:=@Go.run_storeCells_at
def KM:=@List.length_eq_one_iff
def Lv:=@getElem!_pos
def Lw:=@Nat.min_self
def Lx:=@List.find?_cons
def Ly:=@List.Perm.of_eq
def Lz:=@Go.IntKind.wrap_u64
def L0:=@Array.getElem?_toList
def ND:=@List.mem_of_getElem?
def NO:=@Go.run_equalIn_int
def Np:=@List.nodup_nil
def N2:=@List.mem_map_of_mem
def PG:=@Array.foldl_toList
def Qf:=@List.pairwise_map
def Qi:=@Decidable.not_not
def Qj:=@Array.getElem?_setIfInBounds_ne
def Q3:=@Go.run_loadCells_list
def Rk:=@Go.Oper.semAt_eq
def Rl:=@Go.Lit.int.injEq
def Rm:=@List.Nodup.length_le_of_subset
def Rw:=@List.range'_succ
def Rx:=@Bool.not_eq_true
def S9:=@Go.World.putObj_size
def TM:=@Array.getElem?_setIfInBounds
def Tf:=@Option.some.inj
def Tg:=@Go.Oper.wp_mono
def Th:=@List.length_zip
def Ti:=@Int.natCast_mul
def Um:=@Go.IntKind.wrap_i64
def VB:=@Nat.shiftRight_eq_div_pow
def VD:=@List.mem_take_iff_getElem
def VE:=@Classical.byContradiction
def VZ:=@beq_iff_eq
def Vl:=@List.Perm.eq_of_pairwise
def Vn:=@Array.getElem?_replicate
def Vq:=@UInt64.toNat_shiftRight
def Vs:=@List.length_eq_zero_iff
def V8:=@Go.heap_alloc_new
def WH:=@UInt64.toNat_shiftLeft
def WI:=@Option.map_eq_some_iff
def WJ:=@List.sublist_cons_self
def WL:=@List.filter_eq_nil_iff
def WP:=@List.mem_append_right
def WQ:=@List.length_filter_le
def WS:=@Nat.pow_le_pow_right
def WT:=@List.length_pos_iff
def WU:=@List.flatten_append
def WW:=@and_true
def WX:=@Bool.false_eq_true
def WY:=@List.length_range
section
inductive AV where
 |prim (v:Value)
 |dead
 |agg (cs:List AV)
 |tup (vs:List AV)
 |lst (own:Bool) (t:TypeId) (sz:Nat) (l:List AV)
 |bx (t:TypeId) (a:AV)
 |sl (x off len:Nat)
 |ptr (x i k:Nat)
 |fp (cs:List AV)
 |fn (f:FuncId) (cap:List AV)
 |mp (x:Nat)
 |opt (c:Bool) (a:AV)
structure Loc where
 blk:Nat
 cap:Nat
 sz:Nat
 isNil:Bool
structure Mem where
 μ:Nat->Option Loc
 U:Nat->Prop
 w:World
 F:Nat->Prop
mutual
def AV.width:AV->Nat
 |.agg cs=>AV.widths cs
 |_=>1
def AV.widths:List AV->Nat
 |[]=>0
 |a::as=>a.width+AV.widths as
end
def SlV(L:Loc)(off len:Nat)(v:Value):Prop:=
 (L.isNil=true/\v= .slice none 0 0/\off=0/\len=0)\/
 (L.isNil=false/\off+len<=L.cap/\∃o,v= .slice (some ⟨L.blk,o,none⟩) len (L.cap-off)/\(off<L.cap\/off=0->o=off*L.sz))
mutual
def VC(m:Mem):AV->List Value->List Nat->Prop
 |.prim u,c,bs=>(c=[u]/\u.oneCell'=true)/\bs=[]
 |.dead,c,bs=>(∃v,c=[v]/\v.oneCell'=true)/\bs=[]
 |.agg cs,c,bs=>VCs m cs c bs
 |.tup _,_,_=>False
 |.opt _ _,_,_=>False
 |.lst false _ sz l,c,bs=>bs=[]/\∃A cap,c=[.slice A l.length cap]/\l.length<=cap/\(∀e∈l,e.width=sz)/\
   (0<l.length->∃b off arr t r,A=some ⟨b,off,none⟩/\m.F b/\m.w.heap[b]?=some (.cells arr t r)/\VCs m l ((arr.toList.drop off).take (l.length*sz)) [])
 |.lst true t sz l,c,bs=>(c=[.slice none 0 0]/\l=[]/\bs=[])\/
   ∃g cap arr bs',c=[.slice (some ⟨g,0,none⟩) l.length cap]/\bs=g::bs' /\m.w.heap[g]?=some (.cells arr t (0,0))/\arr.size=cap*sz/\l.length<=cap/\cap<=maxLen/\
    (∀e∈l,e.width=sz)/\VCs m l (arr.toList.take (l.length*sz)) bs'
 |.bx t a,c,bs=>∃g arr bs',c=[.pointer (some ⟨g,0,none⟩)]/\bs=g::bs' /\m.w.heap[g]?=some (.cells arr t (0,0))/\(∃cap,arr.size=cap*a.width/\1<=cap/\cap<=maxLen)/\VC m a (arr.toList.take a.width) bs'
 |.sl x off len,c,bs=>bs=[]/\m.U x/\∃A q,c=[.slice A len q]/\∀L,m.μ x=some L->SlV L off len (.slice A len q)
 |.ptr x i k,c,bs=>bs=[]/\m.U x/\∃A,c=[.pointer A]/\∀L,m.μ x=some L->A=some ⟨L.blk,i*L.sz+k,none⟩
 |.fp cs,c,bs=>bs=[]/\∃b off arr t r,c=[.pointer (some ⟨b,off,none⟩)]/\m.F b/\m.w.heap[b]?=some (.cells arr t r)/\VCs m cs ((arr.toList.drop off).take (AV.widths cs)) []
 |.fn f cap,c,bs=>∃vs:Array Value,c=[.func (.func f) #[] vs]/\VCs m cap vs.toList bs
 |.mp x,c,bs=>bs=[]/\m.U x/\∃A,c=[.map A]/\∀L,m.μ x=some L->A=some L.blk
def VCs(m:Mem):List AV->List Value->List Nat->Prop
 |[],c,bs=>c=[]/\bs=[]
 |a::as,c,bs=>∃c1 c2 b1 b2,c=c1++c2/\bs=b1++b2/\VC m a c1 b1/\VCs m as c2 b2
def VTs(m:Mem):List AV->List Value->List Nat->Prop
 |[],vs,bs=>vs=[]/\bs=[]
 |.agg cs::as,vs,bs=>∃cells vs' b1 b2,vs= .agg cells::vs' /\bs=b1++b2/\VCs m cs cells.toList b1/\VTs m as vs' b2
 |.dead::as,vs,bs=>∃v vs' b1 b2,vs=v::vs' /\bs=b1++b2/\b1=[]/\VTs m as vs' b2
 |a::as,vs,bs=>∃v vs' b1 b2,vs=v::vs' /\bs=b1++b2/\VC m a [v] b1/\VTs m as vs' b2
end
def VV0(m:Mem):AV->Value->List Nat->Prop
 |.agg cs,v,bs=>∃cells,v= .agg cells/\VCs m cs cells.toList bs
 |.tup cs,v,bs=>∃vs,v= .tuple vs/\VTs m cs vs.toList bs
 |.dead,_,bs=>bs=[]
 |a,v,bs=>VC m a [v] bs
def VV(m:Mem):AV->Value->List Nat->Prop
 |.opt c a,v,bs=>bs=[]/\(c=true->VV m a v [])/\(c=false->v=undef)
 |a,v,bs=>VV0 m a v bs
def ntup:AV->Bool
 |.tup _|.opt .. =>false
 |_=>true
theorem VTs.ntup{m:Mem}{a:AV}{as:List AV}{vs:List Value}{bs:List Nat}(h:VTs m (a::as) vs bs):ntup a=true:=by
 cases a
 case tup cs=>obtain⟨_,_,_,_,_,_,h,_⟩:=h;exact h.elim
 case opt c b=>obtain⟨_,_,_,_,_,_,h,_⟩:=h;exact h.elim
 all_goals rfl
theorem B8{m:Mem}{a:AV}{as:List AV}{vs:List Value}{bs:List Nat}(ha:ntup a=true):VTs m (a::as) vs bs↔∃v vs' b1 b2,vs=v::vs' /\bs=b1++b2/\VV m a v b1/\VTs m as vs' b2:=by
 cases a
 case agg cs=>
  constructor
  ·rintro⟨cells,vs',b1,b2,rfl,rfl,h1,h2⟩
   exact⟨_,vs',b1,b2,rfl,rfl,⟨cells,rfl,h1⟩,h2⟩
  ·rintro⟨_,vs',b1,b2,rfl,rfl,⟨cells,rfl,h1⟩,h2⟩
   exact⟨cells,vs',b1,b2,rfl,rfl,h1,h2⟩
 case tup cs=>cases ha
 case opt c b=>cases ha
 all_goals exact Iff.rfl
structure Mem.Le(m m':Mem):Prop where
 U:∀x,m.U x->m'.U x
 μ:∀x L,m.U x->m'.μ x=some L->m.μ x=some L
 F:∀b,m.F b->m'.F b/\m'.w.heap[b]?=m.w.heap[b]?
theorem Mem.Le.refl(m:Mem):m.Le m:=⟨λ_ h=>h,λ_ _ _ h=>h,λ_ h=>⟨h,rfl⟩⟩
theorem Mem.Le.trans{m m' m'':Mem}(h:m.Le m')(k:m'.Le m''):m.Le m'':=
 ⟨λx hx=>k.U x (h.U x hx),λx L hx hm=>h.μ x L hx (k.μ x L (h.U x hx) hm),λb hb=>⟨(k.F b (h.F b hb).1).1,(k.F b (h.F b hb).1).2.trans (h.F b hb).2⟩⟩
structure Mem.LeC(m m':Mem):Prop where
 U:∀x,m.U x->m'.U x
 μ:∀x L,m.U x->m'.μ x=some L->m.μ x=some L
 F:∀b,m.F b->(∃arr t r,m.w.heap[b]?=some (.cells arr t r))->m'.F b/\m'.w.heap[b]?=m.w.heap[b]?
theorem Mem.Le.c{m m':Mem}(h:m.Le m'):m.LeC m':=⟨h.U,h.μ,λb hb _=>h.F b hb⟩
mutual
theorem VC.monoC{m m':Mem}(h:m.LeC m'):(a:AV)->{c:List Value}->{bs:List Nat}->(∀b∈bs,m'.w.heap[b]?=m.w.heap[b]?)->VC m a c bs->VC m' a c bs
 |.prim _,_,_,_,k=>k
 |.dead,_,_,_,k=>k
 |.agg cs,_,_,hb,k=>VCs.monoC h cs hb k
 |.tup cs,_,_,_,k=>k.elim
 |.opt _ _,_,_,_,k=>k.elim
 |.lst false _ sz l,_,_,hb,⟨e,A,cap,e1,e2,e3,k⟩=>⟨e,A,cap,e1,e2,e3,λh0=>by
   obtain⟨b,off,arr,t,r,q1,q2,q3,q4⟩:=k h0;exact⟨b,off,arr,t,r,q1,(h.F b q2 ⟨_,_,_,q3⟩).1,(h.F b q2 ⟨_,_,_,q3⟩).2.trans q3,VCs.monoC h l (by simp) q4⟩⟩
 |.lst true t sz l,_,_,hb,.inl k=>.inl k
 |.lst true t sz l,_,_,hb,.inr ⟨g,cap,arr,bs',e1,e2,e3,e4,e5,e6,e7,k⟩=>.inr ⟨g,cap,arr,bs',e1,e2,(hb g (by simp[e2])).trans e3,e4,e5,e6,e7,VCs.monoC h l (λb q=>hb b (by simp[e2,q])) k⟩
 |.bx t a,_,_,hb,⟨g,arr,bs',e1,e2,e3,e4,k⟩=>⟨g,arr,bs',e1,e2,(hb g (by simp[e2])).trans e3,e4,VC.monoC h a (λb q=>hb b (by simp[e2,q])) k⟩
 |.sl x off len,_,_,hb,⟨e,hu,A,q,e1,k⟩=>⟨e,h.U x hu,A,q,e1,λL hL=>k L (h.μ x L hu hL)⟩
 |.ptr x i j,_,_,hb,⟨e,hu,v,e1,k⟩=>⟨e,h.U x hu,v,e1,λL hL=>k L (h.μ x L hu hL)⟩
 |.fp cs,_,_,hb,⟨e,b,off,arr,t,r,q1,q2,q3,q4⟩=>⟨e,b,off,arr,t,r,q1,(h.F b q2 ⟨_,_,_,q3⟩).1,(h.F b q2 ⟨_,_,_,q3⟩).2.trans q3,VCs.monoC h cs (by simp) q4⟩
 |.fn f cap,_,_,hb,⟨vs,e,k⟩=>⟨vs,e,VCs.monoC h cap hb k⟩
 |.mp x,_,_,hb,⟨e,hu,v,e1,k⟩=>⟨e,h.U x hu,v,e1,λL hL=>k L (h.μ x L hu hL)⟩
theorem VCs.monoC{m m':Mem}(h:m.LeC m'):(as:List AV)->{c:List Value}->{bs:List Nat}->(∀b∈bs,m'.w.heap[b]?=m.w.heap[b]?)->VCs m as c bs->VCs m' as c bs
 |[],_,_,_,k=>k
 |a::as,_,_,hb,⟨c1,c2,b1,b2,e1,e2,k1,k2⟩=>⟨c1,c2,b1,b2,e1,e2,VC.monoC h a (λb q=>hb b (by simp[e2,q])) k1,VCs.monoC h as (λb q=>hb b (by simp[e2,q])) k2⟩
theorem VTs.monoC{m m':Mem}(h:m.LeC m'):(as:List AV)->{c:List Value}->{bs:List Nat}->(∀b∈bs,m'.w.heap[b]?=m.w.heap[b]?)->VTs m as c bs->VTs m' as c bs
 |[],_,_,_,k=>k
 |.agg cs::as,_,_,hb,⟨c1,c2,b1,b2,e1,e2,k1,k2⟩=>⟨c1,c2,b1,b2,e1,e2,VCs.monoC h cs (λb q=>hb b (by simp[e2,q])) k1,VTs.monoC h as (λb q=>hb b (by simp[e2,q])) k2⟩
 |.prim u::as,_,_,hb,⟨v,vs,b1,b2,e1,e2,k1,k2⟩=>⟨v,vs,b1,b2,e1,e2,k1,VTs.monoC h as (λb q=>hb b (by simp[e2,q])) k2⟩
 |.dead::as,_,_,hb,⟨v,vs,b1,b2,e1,e2,k1,k2⟩=>⟨v,vs,b1,b2,e1,e2,k1,VTs.monoC h as (λb q=>hb b (by simp[e2,q])) k2⟩
 |.tup cs::as,_,_,hb,⟨v,vs,b1,b2,e1,e2,k1,k2⟩=>⟨v,vs,b1,b2,e1,e2,k1.elim,VTs.monoC h as (λb q=>hb b (by simp[e2,q])) k2⟩
 |.lst o t s l::as,_,_,hb,⟨v,vs,b1,b2,e1,e2,k1,k2⟩=>⟨v,vs,b1,b2,e1,e2,VC.monoC h (.lst o t s l) (λb q=>hb b (by simp[e2,q])) k1,VTs.monoC h as (λb q=>hb b (by simp[e2,q])) k2⟩
 |.bx t a::as,_,_,hb,⟨v,vs,b1,b2,e1,e2,k1,k2⟩=>⟨v,vs,b1,b2,e1,e2,VC.monoC h (.bx t a) (λb q=>hb b (by simp[e2,q])) k1,VTs.monoC h as (λb q=>hb b (by simp[e2,q])) k2⟩
 |.sl x i j::as,_,_,hb,⟨v,vs,b1,b2,e1,e2,k1,k2⟩=>⟨v,vs,b1,b2,e1,e2,VC.monoC h (.sl x i j) (λb q=>hb b (by simp[e2,q])) k1,VTs.monoC h as (λb q=>hb b (by simp[e2,q])) k2⟩
 |.ptr x i j::as,_,_,hb,⟨v,vs,b1,b2,e1,e2,k1,k2⟩=>⟨v,vs,b1,b2,e1,e2,VC.monoC h (.ptr x i j) (λb q=>hb b (by simp[e2,q])) k1,VTs.monoC h as (λb q=>hb b (by simp[e2,q])) k2⟩
 |.fp cs::as,_,_,hb,⟨v,vs,b1,b2,e1,e2,k1,k2⟩=>⟨v,vs,b1,b2,e1,e2,VC.monoC h (.fp cs) (λb q=>hb b (by simp[e2,q])) k1,VTs.monoC h as (λb q=>hb b (by simp[e2,q])) k2⟩
 |.fn f cap::as,_,_,hb,⟨v,vs,b1,b2,e1,e2,k1,k2⟩=>⟨v,vs,b1,b2,e1,e2,VC.monoC h (.fn f cap) (λb q=>hb b (by simp[e2,q])) k1,VTs.monoC h as (λb q=>hb b (by simp[e2,q])) k2⟩
 |.mp x::as,_,_,hb,⟨v,vs,b1,b2,e1,e2,k1,k2⟩=>⟨v,vs,b1,b2,e1,e2,VC.monoC h (.mp x) (λb q=>hb b (by simp[e2,q])) k1,VTs.monoC h as (λb q=>hb b (by simp[e2,q])) k2⟩
 |.opt c b::as,_,_,hb,⟨v,vs,b1,b2,e1,e2,k1,k2⟩=>k1.elim
end
theorem VV0.monoC{m m':Mem}(h:m.LeC m'){a:AV}{v:Value}{bs:List Nat}(hb:∀b∈bs,m'.w.heap[b]?=m.w.heap[b]?)(k:VV0 m a v bs):VV0 m' a v bs:=by
 cases a
 case agg cs=>obtain⟨cells,e,k⟩:=k;exact⟨cells,e,VCs.monoC h cs hb k⟩
 case tup cs=>obtain⟨cells,e,k⟩:=k;exact⟨cells,e,VTs.monoC h cs hb k⟩
 case dead=>exact k
 all_goals exact VC.monoC h _ hb k
theorem VV.monoC{m m':Mem}(h:m.LeC m'):{a:AV}->{v:Value}->{bs:List Nat}->(hb:∀b∈bs,m'.w.heap[b]?=m.w.heap[b]?)->(k:VV m a v bs)->VV m' a v bs
 |.opt c a,_,_,hb,k=>⟨k.1,λhc=>VV.monoC h (a:=a) (by simp) (k.2.1 hc),k.2.2⟩
 |.prim _,_,_,hb,k|.dead,_,_,hb,k|.agg _,_,_,hb,k|.tup _,_,_,hb,k|.lst ..,_,_,hb,k|.bx ..,_,_,hb,k|.sl ..,_,_,hb,k|.ptr ..,_,_,hb,k|.fp _,_,_,hb,k|.fn ..,_,_,hb,k|.mp _,_,_,hb,k=>VV0.monoC (m:=m) h hb k
theorem VC.mono{m m':Mem}(h:m.Le m')(a:AV){c:List Value}{bs:List Nat}(hb:∀b∈bs,m'.w.heap[b]?=m.w.heap[b]?)(k:VC m a c bs):VC m' a c bs:=VC.monoC h.c a hb k
theorem VCs.mono{m m':Mem}(h:m.Le m')(as:List AV){c:List Value}{bs:List Nat}(hb:∀b∈bs,m'.w.heap[b]?=m.w.heap[b]?)(k:VCs m as c bs):VCs m' as c bs:=VCs.monoC h.c as hb k
theorem VTs.mono{m m':Mem}(h:m.Le m')(as:List AV){c:List Value}{bs:List Nat}(hb:∀b∈bs,m'.w.heap[b]?=m.w.heap[b]?)(k:VTs m as c bs):VTs m' as c bs:=VTs.monoC h.c as hb k
theorem VV.mono{m m':Mem}(h:m.Le m'){a:AV}{v:Value}{bs:List Nat}(hb:∀b∈bs,m'.w.heap[b]?=m.w.heap[b]?)(k:VV m a v bs):VV m' a v bs:=VV.monoC h.c hb k
mutual
def AV.frz:AV->AV
 |.agg cs=>.agg (AV.frzs cs)
 |.tup cs=>.tup (AV.frzs cs)
 |.lst _ t sz l=>.lst false t sz (AV.frzs l)
 |.bx t a=>.fp [AV.frz a]
 |.fp cs=>.fp (AV.frzs cs)
 |.fn f cap=>.fn f (AV.frzs cap)
 |.opt c a=>.opt c (AV.frz a)
 |a=>a
def AV.frzs:List AV->List AV
 |[]=>[]
 |a::as=>a.frz::AV.frzs as
end
theorem Fp(l:List AV):AV.frzs l=l.map AV.frz:=by
 induction l with
 |nil=>rfl
 |cons a l ih=>simp[AV.frzs,ih]
theorem Fq(l:List AV):(AV.frzs l).length=l.length:=by simp[Fp]
mutual
theorem Fj:(a:AV)->a.frz.width=a.width
 |.agg cs=>IQ cs
 |.prim _|.dead|.tup _|.lst .. |.bx .. |.sl .. |.ptr .. |.fp _|.fn .. |.mp _|.opt .. =>rfl
theorem IQ:(as:List AV)->AV.widths (AV.frzs as)=AV.widths as
 |[]=>rfl
 |a::as=>by simp[AV.frzs,AV.widths,Fj a,IQ as]
end
mutual
theorem VC.len{m:Mem}:(a:AV)->{c:List Value}->{bs:List Nat}->VC m a c bs->c.length=a.width
 |.prim _,_,_,k=>by rw[k.1.1];rfl
 |.dead,_,_,⟨⟨_,e,_⟩,_⟩=>by rw[e];rfl
 |.agg cs,_,_,k=>VCs.len cs k
 |.tup cs,_,_,k=>k.elim
 |.opt _ _,_,_,k=>k.elim
 |.lst false _ _ l,_,_,⟨_,_,_,e,_⟩=>by rw[e];rfl
 |.lst true _ _ l,_,_,.inl ⟨e,_⟩=>by rw[e];rfl
 |.lst true _ _ l,_,_,.inr ⟨_,_,_,_,e,_⟩=>by rw[e];rfl
 |.bx t a,_,_,⟨_,_,_,e,_⟩=>by rw[e];rfl
 |.sl ..,_,_,⟨_,_,_,_,e,_⟩=>by rw[e];rfl
 |.ptr ..,_,_,⟨_,_,_,e,_⟩=>by rw[e];rfl
 |.fp _,_,_,⟨_,_,_,_,_,_,e,_⟩=>by rw[e];rfl
 |.fn ..,_,_,⟨_,e,_⟩=>by rw[e];rfl
 |.mp _,_,_,⟨_,_,_,e,_⟩=>by rw[e];rfl
theorem VCs.len{m:Mem}:(as:List AV)->{c:List Value}->{bs:List Nat}->VCs m as c bs->c.length=AV.widths as
 |[],_,_,k=>by rw[k.1];rfl
 |a::as,_,_,⟨c1,c2,b1,b2,e1,e2,k1,k2⟩=>by rw[e1,CY,VC.len a k1,VCs.len as k2];rfl
end
mutual
theorem VC.frz{m m':Mem}(h:m.Le m'):(a:AV)->{c:List Value}->{bs:List Nat}->(∀b∈bs,m'.F b/\m'.w.heap[b]?=m.w.heap[b]?)->VC m a c bs->VC m' a.frz c []
 |.prim _,_,_,_,k=>⟨k.1,rfl⟩
 |.dead,_,_,_,k=>⟨k.1,rfl⟩
 |.agg cs,_,_,hb,k=>VCs.frz h cs hb k
 |.tup cs,_,_,_,k=>k.elim
 |.opt _ _,_,_,_,k=>k.elim
 |.lst false _ sz l,_,_,hb,⟨e,A,cap,e1,e2,e3,k⟩=>⟨rfl,A,cap,by rw[Fq];exact e1,by rw[Fq];exact e2,by
   intro x hx;rw[Fp]at hx;obtain⟨y,hy,rfl⟩:=BH.1 hx;rw[Fj];exact e3 y hy,λh0=>by
   rw[Fq]at h0⊢;obtain⟨b,off,arr,t,r,q1,q2,q3,q4⟩:=k h0;exact⟨b,off,arr,t,r,q1,(h.F b q2).1,(h.F b q2).2.trans q3,VCs.frz h l (by simp) q4⟩⟩
 |.lst true t sz l,_,_,hb,.inl ⟨e1,e2,e3⟩=>by
   subst e2;exact⟨rfl,none,0,e1,AP _,by simp[AV.frzs],λh0=>by simp[AV.frzs]at h0⟩
 |.lst true t sz l,_,_,hb,.inr ⟨g,cap,arr,bs',e1,e2,e3,e4,e5,e6,e7,k⟩=>⟨rfl,some ⟨g,0,none⟩,cap,by rw[Fq];exact e1,by rw[Fq];exact e5,by
   intro x hx;rw[Fp]at hx;obtain⟨y,hy,rfl⟩:=BH.1 hx;rw[Fj];exact e7 y hy,λh0=>by
   rw[Fq]at h0⊢;exact⟨g,0,arr,t,(0,0),rfl,(hb g (by simp[e2])).1,(hb g (by simp[e2])).2.trans e3,VCs.frz h l (λb q=>hb b (by simp[e2,q])) k⟩⟩
 |.bx t a,_,_,hb,⟨g,arr,bs',e1,e2,e3,e4,k⟩=>⟨rfl,g,0,arr,t,(0,0),e1,(hb g (by simp[e2])).1,(hb g (by simp[e2])).2.trans e3,by
   have hw:=Fj a;have k':=VC.frz h a (λb q=>hb b (by simp[e2,q])) k;refine⟨arr.toList.take a.width,[],[],[],?_,rfl,k',rfl,rfl⟩;simp only[Dq,BL];show arr.toList.take (a.frz.width+0)=_
   rw[hw];rfl⟩
 |.sl x off len,_,_,hb,⟨e,hu,A,q,e1,k⟩=>⟨rfl,h.U x hu,A,q,e1,λL hL=>k L (h.μ x L hu hL)⟩
 |.ptr x i j,_,_,hb,⟨e,hu,v,e1,k⟩=>⟨rfl,h.U x hu,v,e1,λL hL=>k L (h.μ x L hu hL)⟩
 |.fp cs,_,_,hb,⟨e,b,off,arr,t,r,q1,q2,q3,q4⟩=>⟨rfl,b,off,arr,t,r,q1,(h.F b q2).1,(h.F b q2).2.trans q3,by rw[IQ];exact VCs.frz h cs (by simp) q4⟩
 |.fn f cap,_,_,hb,⟨vs,e,k⟩=>⟨vs,e,VCs.frz h cap hb k⟩
 |.mp x,_,_,hb,⟨e,hu,v,e1,k⟩=>⟨rfl,h.U x hu,v,e1,λL hL=>k L (h.μ x L hu hL)⟩
theorem VCs.frz{m m':Mem}(h:m.Le m'):(as:List AV)->{c:List Value}->{bs:List Nat}->(∀b∈bs,m'.F b/\m'.w.heap[b]?=m.w.heap[b]?)->VCs m as c bs->VCs m' (AV.frzs as) c []
 |[],_,_,_,k=>⟨k.1,rfl⟩
 |a::as,_,_,hb,⟨c1,c2,b1,b2,e1,e2,k1,k2⟩=>⟨c1,c2,[],[],e1,rfl,VC.frz h a (λb q=>hb b (by simp[e2,q])) k1,VCs.frz h as (λb q=>hb b (by simp[e2,q])) k2⟩
theorem VTs.frz{m m':Mem}(h:m.Le m'):(as:List AV)->{c:List Value}->{bs:List Nat}->(∀b∈bs,m'.F b/\m'.w.heap[b]?=m.w.heap[b]?)->VTs m as c bs->VTs m' (AV.frzs as) c []
 |[],_,_,_,k=>⟨k.1,rfl⟩
 |.agg cs::as,_,_,hb,⟨c1,c2,b1,b2,e1,e2,k1,k2⟩=>⟨c1,c2,[],[],e1,rfl,VCs.frz h cs (λb q=>hb b (by simp[e2,q])) k1,VTs.frz h as (λb q=>hb b (by simp[e2,q])) k2⟩
 |.prim u::as,_,_,hb,⟨v,vs,b1,b2,e1,e2,k1,k2⟩=>⟨v,vs,[],[],e1,rfl,⟨k1.1,rfl⟩,VTs.frz h as (λb q=>hb b (by simp[e2,q])) k2⟩
 |.dead::as,_,_,hb,⟨v,vs,b1,b2,e1,e2,k1,k2⟩=>⟨v,vs,[],[],e1,rfl,rfl,VTs.frz h as (λb q=>hb b (by simp[e2,q])) k2⟩
 |.tup cs::as,_,_,hb,⟨v,vs,b1,b2,e1,e2,k1,k2⟩=>⟨v,vs,[],[],e1,rfl,k1.elim,VTs.frz h as (λb q=>hb b (by simp[e2,q])) k2⟩
 |.lst o t s l::as,_,_,hb,⟨v,vs,b1,b2,e1,e2,k1,k2⟩=>⟨v,vs,[],[],e1,rfl,VC.frz h (.lst o t s l) (λb q=>hb b (by simp[e2,q])) k1,VTs.frz h as (λb q=>hb b (by simp[e2,q])) k2⟩
 |.bx t a::as,_,_,hb,⟨v,vs,b1,b2,e1,e2,k1,k2⟩=>⟨v,vs,[],[],e1,rfl,VC.frz h (.bx t a) (λb q=>hb b (by simp[e2,q])) k1,VTs.frz h as (λb q=>hb b (by simp[e2,q])) k2⟩
 |.sl x i j::as,_,_,hb,⟨v,vs,b1,b2,e1,e2,k1,k2⟩=>⟨v,vs,[],[],e1,rfl,VC.frz h (.sl x i j) (λb q=>hb b (by simp[e2,q])) k1,VTs.frz h as (λb q=>hb b (by simp[e2,q])) k2⟩
 |.ptr x i j::as,_,_,hb,⟨v,vs,b1,b2,e1,e2,k1,k2⟩=>⟨v,vs,[],[],e1,rfl,VC.frz h (.ptr x i j) (λb q=>hb b (by simp[e2,q])) k1,VTs.frz h as (λb q=>hb b (by simp[e2,q])) k2⟩
 |.fp cs::as,_,_,hb,⟨v,vs,b1,b2,e1,e2,k1,k2⟩=>⟨v,vs,[],[],e1,rfl,VC.frz h (.fp cs) (λb q=>hb b (by simp[e2,q])) k1,VTs.frz h as (λb q=>hb b (by simp[e2,q])) k2⟩
 |.fn f cap::as,_,_,hb,⟨v,vs,b1,b2,e1,e2,k1,k2⟩=>⟨v,vs,[],[],e1,rfl,VC.frz h (.fn f cap) (λb q=>hb b (by simp[e2,q])) k1,VTs.frz h as (λb q=>hb b (by simp[e2,q])) k2⟩
 |.mp x::as,_,_,hb,⟨v,vs,b1,b2,e1,e2,k1,k2⟩=>⟨v,vs,[],[],e1,rfl,VC.frz h (.mp x) (λb q=>hb b (by simp[e2,q])) k1,VTs.frz h as (λb q=>hb b (by simp[e2,q])) k2⟩
 |.opt c b::as,_,_,hb,⟨v,vs,b1,b2,e1,e2,k1,k2⟩=>k1.elim
end
theorem VV0.frz{m m':Mem}(h:m.Le m'){a:AV}{v:Value}{bs:List Nat}(hb:∀b∈bs,m'.F b/\m'.w.heap[b]?=m.w.heap[b]?)(k:VV0 m a v bs):VV0 m' a.frz v []:=by
 cases a
 case agg cs=>obtain⟨cells,e,k⟩:=k;exact⟨cells,e,VCs.frz h cs hb k⟩
 case tup cs=>obtain⟨cells,e,k⟩:=k;exact⟨cells,e,VTs.frz h cs hb k⟩
 case dead=>exact rfl
 case lst o t s l=>exact VC.frz h (.lst o t s l) hb k
 all_goals exact VC.frz h _ hb k
theorem VV.frz{m m':Mem}(h:m.Le m'):{a:AV}->{v:Value}->{bs:List Nat}->(hb:∀b∈bs,m'.F b/\m'.w.heap[b]?=m.w.heap[b]?)->(k:VV m a v bs)->VV m' a.frz v []
 |.opt c a,_,_,hb,k=>⟨rfl,λhc=>VV.frz h (a:=a) (by simp) (k.2.1 hc),k.2.2⟩
 |.lst o t s l,_,_,hb,k=>VC.frz h (.lst o t s l) hb k
 |.prim _,_,_,hb,k|.dead,_,_,hb,k|.agg _,_,_,hb,k|.tup _,_,_,hb,k|.bx ..,_,_,hb,k|.sl ..,_,_,hb,k|.ptr ..,_,_,hb,k|.fp _,_,_,hb,k|.fn ..,_,_,hb,k|.mp _,_,_,hb,k=>VV0.frz (m:=m) h hb k
mutual
theorem VC.ones{m:Mem}:(a:AV)->{c:List Value}->{bs:List Nat}->VC m a c bs->∀u∈c,u.oneCell'=true
 |.prim _,_,_,k=>by rw[k.1.1];simpa using k.1.2
 |.dead,_,_,⟨⟨_,e,h⟩,_⟩=>by rw[e];simpa using h
 |.agg cs,_,_,k=>VCs.ones cs k
 |.tup cs,_,_,k=>k.elim
 |.opt _ _,_,_,k=>k.elim
 |.lst false _ _ l,_,_,⟨_,_,_,e,_⟩=>by rw[e];simp[Value.oneCell']
 |.lst true _ _ l,_,_,.inl ⟨e,_⟩=>by rw[e];simp[Value.oneCell']
 |.lst true _ _ l,_,_,.inr ⟨_,_,_,_,e,_⟩=>by rw[e];simp[Value.oneCell']
 |.bx t a,_,_,⟨_,_,_,e,_⟩=>by rw[e];simp[Value.oneCell']
 |.sl ..,_,_,⟨_,_,_,_,e,_⟩=>by rw[e];simp[Value.oneCell']
 |.ptr ..,_,_,⟨_,_,_,e,_⟩=>by rw[e];simp[Value.oneCell']
 |.fp _,_,_,⟨_,_,_,_,_,_,e,_⟩=>by rw[e];simp[Value.oneCell']
 |.fn ..,_,_,⟨_,e,_⟩=>by rw[e];simp[Value.oneCell']
 |.mp _,_,_,⟨_,_,_,e,_⟩=>by rw[e];simp[Value.oneCell']
theorem VCs.ones{m:Mem}:(as:List AV)->{c:List Value}->{bs:List Nat}->VCs m as c bs->∀u∈c,u.oneCell'=true
 |[],_,_,k=>by rw[k.1];intro u hu;cases hu
 |a::as,_,_,⟨c1,c2,b1,b2,e1,e2,k1,k2⟩=>by
  rw[e1];intro u hu;rcases AN.1 hu with hu|hu
  ·exact VC.ones a k1 u hu
  ·exact VCs.ones as k2 u hu
end
section
variable {m:Mem}
theorem VCs.nil:VCs m [] [] []:=⟨rfl,rfl⟩
theorem VCs.append{as bs:List AV}{c d:List Value}{p q:List Nat}(h:VCs m as c p)(k:VCs m bs d q):VCs m (as++bs) (c++d) (p++q):=by
 induction as generalizing c p with
 |nil=>obtain⟨rfl,rfl⟩:=h;exact k
 |cons a as ih=>
  obtain⟨c1,c2,b1,b2,rfl,rfl,h1,h2⟩:=h;exact⟨c1,c2++d,b1,b2++q,by simp,by simp,h1,ih h2⟩
theorem Hn:(as:List AV)->{bs:List AV}->{c:List Value}->{p:List Nat}->VCs m (as++bs) c p->∃c1 c2 p1 p2,c=c1++c2/\p=p1++p2/\VCs m as c1 p1/\VCs m bs c2 p2
 |[],_,c,p,h=>⟨[],c,[],p,rfl,rfl,VCs.nil,h⟩
 |a::as,_,_,_,⟨c1,c2,b1,b2,e1,e2,h1,h2⟩=>by
  obtain⟨d1,d2,p1,p2,e3,e4,k1,k2⟩:=Hn as h2;exact⟨c1++d1,d2,b1++p1,p2,by simp[e1,e3],by simp[e2,e4],⟨c1,d1,b1,p1,rfl,rfl,h1,k1⟩,k2⟩
theorem VCs.one{a:AV}{c:List Value}{p:List Nat}:VCs m [a] c p↔VC m a c p:=by
 constructor
 ·rintro⟨c1,c2,b1,b2,rfl,rfl,h1,h2,h3⟩
  subst h2 h3;simpa using h1
 ·intro h;exact⟨c,[],p,[],by simp,by simp,h,rfl,rfl⟩
theorem KQ(as bs:List AV):AV.widths (as++bs)=AV.widths as+AV.widths bs:=by
 induction as with
 |nil=>simp[AV.widths]
 |cons a as ih=>simp[AV.widths,ih];omega
theorem C6{l:List AV}{sz:Nat}(h:∀e∈l,e.width=sz):AV.widths l=l.length*sz:=by
 induction l with
 |nil=>simp[AV.widths]
 |cons a l ih=>simp[AV.widths,ih (λe he=>h e (by simp[he])),h a (by simp),CW];omega
theorem VCs.get{l:List AV}{sz:Nat}(hw:∀e∈l,e.width=sz){c:List Value}{p:List Nat}(h:VCs m l c p){i:Nat}(hi:i<l.length):
  ∃c1 c2 c3 p1 p2 p3,c=c1++c2++c3/\p=p1++p2++p3/\c1.length=i*sz/\c2.length=sz/\VCs m (l.take i) c1 p1/\VC m l[i] c2 p2/\VCs m (l.drop (i+1)) c3 p3:=by
 have e:l=l.take i++([l[i]]++l.drop (i+1)):=by
  rw[List.singleton_append,<-List.drop_eq_getElem_cons hi,Bi]
 rw[e]at h;obtain⟨c1,c2,p1,p2,rfl,rfl,h1,h2⟩:=Hn _ h;obtain⟨c2,c3,p2,p3,rfl,rfl,h2,h3⟩:=Hn [l[i]] h2;rw[VCs.one]at h2;refine⟨c1,c2,c3,p1,p2,p3,by simp,by simp,?_,?_,h1,h2,h3⟩
 ·rw[VCs.len _ h1,C6 (sz:=sz) λe he=>hw e (Ad he),CN,BJ (by omega)]
 ·rw[VC.len _ h2];exact hw _ (List.getElem_mem hi)
theorem O2{l:List AV}{i:Nat}(hi:i<l.length){c1 c2 c3:List Value}{p1 p2 p3:List Nat}{a:AV}(h1:VCs m (l.take i) c1 p1)(h2:VC m a c2 p2)(h3:VCs m (l.drop (i+1)) c3 p3):VCs m (l.set i a) (c1++c2++c3) (p1++p2++p3):=by
 have:l.set i a=l.take i++[a]++l.drop (i+1):=by rw[List.set_eq_take_append_cons_drop,A1 hi];simp
 rw[this];exact(h1.append (VCs.one.2 h2)).append h3
theorem VCs.take{l:List AV}{sz:Nat}(hw:∀e∈l,e.width=sz){c:List Value}{p:List Nat}(h:VCs m l c p){k:Nat}(hk:k<=l.length):∃p1 p2,p=p1++p2/\VCs m (l.take k) (c.take (k*sz)) p1/\VCs m (l.drop k) (c.drop (k*sz)) p2:=by
 have h':VCs m (l.take k++l.drop k) c p:=by rwa[Bi]
 obtain⟨c1,c2,p1,p2,rfl,rfl,h1,h2⟩:=Hn _ h';have e:c1.length=k*sz:=by rw[VCs.len _ h1,C6 (sz:=sz) λe he=>hw e (Ad he),CN,BJ hk]
 refine⟨p1,p2,rfl,?_,?_⟩
 ·rw[<-e,List.take_left];exact h1
 ·rw[<-e,List.drop_left];exact h2
end
end
section
open Go.RowKit
inductive AO where
 |gone
 |used
 |row (t:TypeId) (sz:Nat) (l:List AV)
 |raw (b:Nat) (o:Obj)
 |tv (K:AV->Value->Prop)
 |ob (K:Obj->Prop)
def ORel(m:Mem)(x:Nat):AO->List Nat->Prop
 |.gone,bs=>bs=[]/\¬m.U x
 |.used,bs=>bs=[]/\m.U x
 |.raw b o,bs=>bs=[b]/\m.U x/\m.w.heap[b]?=some o
 |.tv K,bs=>bs=[]/\m.U x/\∀v u,K v u->VV m v u []
 |.ob K,bs=>m.U x/\∃L,m.μ x=some L/\bs=[L.blk]/\∃o,m.w.heap[L.blk]?=some o/\K o
 |.row t sz l,bs=>m.U x/\∃L,m.μ x=some L/\L.sz=sz/\((L.isNil=true/\l=[]/\bs=[])\/
   (L.isNil=false/\∃arr bs',bs=L.blk::bs' /\m.w.heap[L.blk]?=some (.cells arr t (0,0))/\arr.size=L.cap*sz/\l.length<=L.cap/\L.cap<=maxLen/\(∀e∈l,e.width=sz)/\
    VCs m l (arr.toList.take (l.length*sz)) bs'))
abbrev AK:=Nat×AO
abbrev Zs:=List (AK×List Nat)
def Zs.own(Z:Zs):List Nat:=Z.flatMap (·.2)
def Zs.keys(Z:Zs):List Nat:=Z.map (·.1.1)
theorem ORel.monoC{m m':Mem}(h:m.LeC m'){x:Nat}{o:AO}{bs:List Nat}(hg:o= .gone->¬m'.U x)(hμ:∀L,m.μ x=some L->m'.μ x=some L)(hb:∀b∈bs,m'.w.heap[b]?=m.w.heap[b]?)(k:ORel m x o bs):ORel m' x o bs:=by
 cases o with
 |gone=>exact⟨k.1,hg rfl⟩
 |used=>exact⟨k.1,h.U x k.2⟩
 |raw b o=>exact⟨k.1,h.U x k.2.1,(hb _ (by simp[k.1])).trans k.2.2⟩
 |tv K=>exact⟨k.1,h.U x k.2.1,λv u hK=>VV.monoC h (by simp) (k.2.2 v u hK)⟩
 |ob K=>exact let ⟨h1,L,h2,h3,o,h4,h5⟩:=k;⟨h.U x h1,L,hμ L h2,h3,o,(hb _ (by simp[h3])).trans h4,h5⟩
 |row t sz l=>
  obtain⟨hu,L,h1,h2,h3⟩:=k;refine⟨h.U x hu,L,hμ L h1,h2,?_⟩;rcases h3 with h3|⟨h3,arr,bs',e1,e2,e3,e4,e5,e6,e7⟩
  ·exact .inl h3
  ·exact .inr ⟨h3,arr,bs',e1,(hb _ (by simp[e1])).trans e2,e3,e4,e5,e6,VCs.monoC h l (λb q=>hb b (by simp[e1,q])) e7⟩
theorem ORel.mono{m m':Mem}(h:m.Le m'){x:Nat}{o:AO}{bs:List Nat}(hg:o= .gone->¬m'.U x)(hμ:∀L,m.μ x=some L->m'.μ x=some L)(hb:∀b∈bs,m'.w.heap[b]?=m.w.heap[b]?)(k:ORel m x o bs):ORel m' x o bs:=ORel.monoC h.c hg hμ hb k
structure Good(m0 m:Mem)(N:Nat)(Z:Zs)(extra:List Nat):Prop where
 obj:∀z∈Z,ORel m z.1.1 z.1.2 z.2
 own:(Z.own++extra).Nodup
 blk:∀b∈Z.own++extra,b<m.w.heap.size/\¬m.F b
 frz:∀b,m.F b->b<m.w.heap.size
 keys:Z.keys.Nodup
 keyN:∀x∈Z.keys,x<N
 usedN:∀x,m.U x->x<N
 le:m0.Le m
 os:m.w.os=m0.w.os
 tape:m.w.tape=m0.w.tape
 output:m.w.output=m0.w.output
 size:m0.w.heap.size<=m.w.heap.size
theorem Jq{Z Z':Zs}(h:Z.Perm Z'):Z.own.Perm Z'.own:=h.flatMap_right _
theorem Good.perm{m0 m:Mem}{N:Nat}{Z Z':Zs}{extra:List Nat}(G:Good m0 m N Z extra)(h:Z.Perm Z'):Good m0 m N Z' extra:=
 ⟨λz hz=>G.obj z (h.mem_iff.2 hz),((Jq h).append_right extra).nodup_iff.1 G.own,λb hb=>G.blk b (((Jq h).append_right extra).mem_iff.2 hb),G.frz,(h.map _).nodup_iff.1 G.keys,λx hx=>G.keyN x ((h.map _).mem_iff.2 hx),G.usedN,G.le,G.os,G.tape,G.output,G.size⟩
theorem EE(Z R:Zs):Zs.own (Z++R)=Z.own++R.own:=FV ..
theorem F6(Z R:Zs):Zs.keys (Z++R)=Z.keys++R.keys:=AJ ..
theorem Good.swap{m0 m m':Mem}{N N':Nat}{zs zs' R:Zs}{ex ex':List Nat}(G:Good m0 m N (zs++R) ex)(hle:m.Le m')(hN:N<=N')
  (hμ:∀x,x∉zs.keys->x<N->m'.μ x=m.μ x)
  (hsame:∀b,b<m.w.heap.size->b∉zs.own->b∉ex->m'.w.heap[b]?=m.w.heap[b]?)
  (hobj:∀z∈zs',ORel m' z.1.1 z.1.2 z.2)
  (hown:(zs'.own++ex').Nodup) (hblk:∀b∈zs'.own++ex',b<m'.w.heap.size/\¬m'.F b/\(b∈zs.own\/b∈ex\/m.w.heap.size<=b))
  (hfrz:∀b,m'.F b->b<m'.w.heap.size/\(m.F b\/b∈zs.own\/b∈ex\/m.w.heap.size<=b))
  (hkeys:zs'.keys.Nodup) (hkeyN:∀x∈zs'.keys,x<N' /\(x∈zs.keys\/N<=x)) (hU:∀x,m'.U x->x<N' /\(m.U x\/x∈zs.keys\/N<=x))
  (hos:m'.w.os=m.w.os) (htape:m'.w.tape=m.w.tape) (hout:m'.w.output=m.w.output) (hsize:m.w.heap.size<=m'.w.heap.size):Good m0 m' N' (zs'++R) ex':=by
 have own:=G.own;have keys:=G.keys;rw[EE]at own;rw[F6]at keys
 have dR:∀b∈R.own,b∉zs.own/\b∉ex:=by
  intro b hb;rw[AF,AL]at own;refine⟨λh=>own.2.2 b h b (by simp[hb]) rfl,λh=>?_⟩;have:=own.2.1;rw[AL]at this;exact this.2.2 b hb b h rfl
 have kR:∀x∈R.keys,x∉zs.keys:=λx hx h=>(AL.1 keys).2.2 x h x hx rfl
 have lR:∀b∈R.own,b<m.w.heap.size/\¬m.F b:=λb hb=>G.blk b (by rw[EE];simp[hb])
 have nR:∀x∈R.keys,x<N:=λx hx=>G.keyN x (by rw[F6];simp[hx])
 refine⟨?_,?_,?_,λb hb=>(hfrz b hb).1,?_,?_,λx hx=>(hU x hx).1,G.le.trans hle,hos.trans G.os,htape.trans G.tape,hout.trans G.output,CT G.size hsize⟩
 ·intro z hz
  rcases AN.1 hz with hz|hz
  ·exact hobj z hz
  ·have hk:z.1.1∈R.keys:=BH.2 ⟨z,hz,rfl⟩
   have hb:∀b∈z.2,b∈R.own:=λb hb=>Dc.2 ⟨z,hz,hb⟩
   have old:=G.obj z (AN.2 (.inr hz));refine ORel.mono hle ?_ ?_ ?_ old
   ·intro hg hu
    rw[hg]at old;rcases(hU _ hu).2 with h|h|h
    ·exact old.2 h
    ·exact kR _ hk h
    ·have:=nR _ hk;omega
   ·intro L hL
    rw[hμ _ (kR _ hk) (nR _ hk)];exact hL
   ·intro b hb'
    exact hsame b (lR b (hb b hb')).1 (dR b (hb b hb')).1 (dR b (hb b hb')).2
 ·rw[EE]
  have hRn:R.own.Nodup:=by
   rw[AF,AL]at own;exact(AL.1 own.2.1).1
  have hp:((zs'.own++ex')++R.own).Perm ((zs'.own++R.own)++ex'):=by
   rw[AF,AF];exact BO _ Aw
  refine hp.nodup_iff.1 (AL.2 ⟨hown,hRn,λb hb c hc e=>?_⟩);subst e;rcases(hblk b hb).2.2 with h|h|h
  ·exact(dR b hc).1 h
  ·exact(dR b hc).2 h
  ·have:=(lR b hc).1;omega
 ·intro b hb
  rw[EE,AF]at hb;by_cases h:b∈zs'.own++ex'
  ·exact⟨(hblk b h).1,(hblk b h).2.1⟩
  ·have hbR:b∈R.own:=by
    simp only[AN]at hb h;rcases hb with hb|hb|hb
    ·exact absurd (.inl hb) h
    ·exact hb
    ·exact absurd (.inr hb) h
   refine⟨Eh (lR b hbR).1 hsize,λhF=>?_⟩;rcases(hfrz b hF).2 with h'|h'|h'|h'
   ·exact(lR b hbR).2 h'
   ·exact(dR b hbR).1 h'
   ·exact(dR b hbR).2 h'
   ·have:=(lR b hbR).1;omega
 ·rw[F6]
  refine AL.2 ⟨hkeys,(AL.1 keys).2.1,λx hx y hy e=>?_⟩;subst e;rcases(hkeyN x hx).2 with h|h
  ·exact kR x hy h
  ·have:=nR x hy;omega
 ·intro x hx
  rw[F6]at hx;rcases AN.1 hx with hx|hx
  ·exact(hkeyN x hx).1
  ·exact Eh (nR x hx) hN
theorem DC{α:Type}{l:List α}{p:Nat}{z:α}(h:l[p]?=some z):∃R,l.Perm (z::R)/\∀z',(l.set p z').Perm (z'::R):=by
 induction l generalizing p with
 |nil=>simp at h
 |cons a l ih=>
  cases p with
  |zero=>simp at h;subst h;exact⟨l,.refl _,λz'=>.refl _⟩
  |succ p=>
   obtain⟨R,h1,h2⟩:=ih (p:=p) (by simpa using h);exact⟨a::R,(h1.cons a).trans (DF ..),λz'=>((h2 z').cons a).trans (DF ..)⟩
theorem Hf{α:Type}{l:List α}{p q:Nat}{y z:α}(hpq:p≠q)(h:l[p]?=some y)(k:l[q]?=some z):∃R,l.Perm (y::z::R)/\∀y' z',((l.set p y').set q z').Perm (y'::z'::R):=by
 induction l generalizing p q with
 |nil=>simp at h
 |cons a l ih=>
  cases p with
  |zero=>
   cases q with
   |zero=>exact absurd rfl hpq
   |succ q=>
    simp at h;subst h;obtain⟨R,h1,h2⟩:=DC (p:=q) (l:=l) (z:=z) (by simpa using k);exact⟨R,h1.cons a,λy' z'=>(h2 z').cons y'⟩
  |succ p=>
   cases q with
   |zero=>
    simp at k;subst k;obtain⟨R,h1,h2⟩:=DC (p:=p) (l:=l) (z:=y) (by simpa using h);exact⟨R,(h1.cons a).trans (DF ..),λy' z'=>((h2 y').cons z').trans (DF ..)⟩
   |succ q=>
    obtain⟨R,h1,h2⟩:=ih (p:=p) (q:=q) (by omega) (by simpa using h) (by simpa using k);have sw:∀u v:α,(a::u::v::R).Perm (u::v::a::R):=λu v=>(DF ..).trans ((DF ..).cons u)
    exact⟨a::R,(h1.cons a).trans (sw _ _),λy' z'=>((h2 y' z').cons a).trans (sw _ _)⟩
theorem Fi{α β:Type}(f:β->α){S S':List α}(h:S.Perm S'):∀{Z:List β},Z.map f=S->∃Z',Z.Perm Z' /\Z'.map f=S':=by
 induction h with
 |nil=>intro Z hZ;exact⟨Z,.refl _,hZ⟩
 |cons a h ih=>
  intro Z hZ;cases Z with
  |nil=>simp at hZ
  |cons z Z=>
   simp only[AR,CP]at hZ;obtain⟨Z',h1,h2⟩:=ih hZ.2;exact⟨z::Z',h1.cons z,by simp[hZ.1,h2]⟩
 |swap a b l=>
  intro Z hZ
  match Z,hZ with
  |y::z::Z,hZ=>
   simp only[AR,CP]at hZ;exact⟨z::y::Z,.swap ..,by simp[hZ]⟩
 |trans _ _ ih1 ih2=>
  intro Z hZ;obtain⟨Z1,h1,h2⟩:=ih1 hZ;obtain⟨Z2,h3,h4⟩:=ih2 h2;exact⟨Z2,h1.trans h3,h4⟩
structure St where
 T:List (Nat×AV)
 S:List AK
def BR:List (Nat×AV)->Nat->Option AV
 |[],_=>none
 |(e,v)::r,d=>match Nat.beq d e with
  |true=>some v
  |false=>BR r d
def A6(T:List (Nat×AV)):Option Nat->AV->List (Nat×AV)
 |none,_=>T
 |some d,v=>(d,v)::T
def ev(T:List (Nat×AV)):Operand->Option AV
 |.tmp t=>BR T t
 |.const v=>match v with
  |.agg cs=>match cs.all (·.oneCell')with
   |true=>some (.agg (cs.toList.map .prim))
   |false=>none
  |.tuple _=>none
  |v=>some (.prim v)
 |.func f=>some (.fn f [])
 |.global _=>none
theorem He(m:Mem):∀zl:List Value,(∀u∈zl,u.oneCell'=true)->VCs m (zl.map .prim) zl []
 |[],_=>⟨rfl,rfl⟩
 |u::zl,h=>⟨[u],zl,[],[],rfl,rfl,⟨⟨rfl,h u (by simp)⟩,rfl⟩,He m zl λv hv=>h v (by simp[hv])⟩
theorem Bx(T:List (Nat×AV))(e d:Nat)(v:AV):BR ((e,v)::T) d=if d=e then some v else BR T d:=by
 simp only[BR];by_cases h:d=e
 ·subst h;simp
 ·have:Nat.beq d e=false:=Bool.eq_false_iff.2 λhb=>h (C5 hb)
  simp[this,h]
def ON(d:Nat):Deferred:={target:=.collected d,args:=#[]}
def DRel(m0 m:Mem)(a:Act):Prop:=∃ds:List Nat,a.defers=ds.map ON/\ds.Nodup/\∀d∈ds,m0.w.heap.size<=d/\m.F d/\m.w.heap[d]?=some (.deferred (some []))
theorem DRel.mono{m0 m m':Mem}(h:m.Le m'){a:Act}(k:DRel m0 m a):DRel m0 m' a:=by
 obtain⟨ds,h1,h2,h3⟩:=k;exact⟨ds,h1,h2,λd hd=>⟨(h3 d hd).1,(h.F d (h3 d hd).2.1).1,(h.F d (h3 d hd).2.1).2.trans (h3 d hd).2.2⟩⟩
theorem DRel.nil{m0 m:Mem}{a:Act}(h:a.defers=[]):DRel m0 m a:=⟨[],h,.nil,λd hd=>by cases hd⟩
def TRel(m0 m:Mem)(nt:Nat)(T:List (Nat×AV))(a:Act):Prop:=a.tmps.size=nt/\DRel m0 m a/\∀d v,BR T d=some v->∃u,a.tmps[d]?=some u/\VV m v u []
def Rel(nt:Nat)(m0:Mem)(st:St)(a:Act)(w:World):Prop:=∃m N Z,m.w=w/\Z.map (·.1)=st.S/\Good m0 m N Z []/\TRel m0 m nt st.T a
theorem TRel.mono{m0 m m':Mem}(h:m.Le m'){nt:Nat}{T:List (Nat×AV)}{a:Act}(k:TRel m0 m nt T a):TRel m0 m' nt T a:=
 ⟨k.1,k.2.1.mono h,λd v hd=>let ⟨u,h1,h2⟩:=k.2.2 d v hd;⟨u,h1,h2.mono h (by simp)⟩⟩
theorem TRel.put{m0 m:Mem}{nt:Nat}{T:List (Nat×AV)}{a:Act}(k:TRel m0 m nt T a){dst:Option Nat}(hd:∀d,dst=some d->d<nt){v:AV}{u:Value}(h:VV m v u []):TRel m0 m nt (A6 T dst v) (a.put dst u):=by
 cases dst with
 |none=>exact k
 |some d=>
  refine⟨by simp[Act.put,k.1],k.2.1,λe v' he=>?_⟩;simp only[A6,Bx]at he;split at he
  ·rename_i e';subst e'
   injection he with he;subst he
   exact⟨u,by simp[Act.put,k.1,hd e rfl],h⟩
  ·rename_i hne
   obtain⟨u',h1,h2⟩:=k.2.2 e v' he;exact⟨u',by simp only[Act.put];rw[Qj (λh=>hne h.symm)];exact h1,h2⟩
theorem TRel.ev{m0 m:Mem}{nt:Nat}{T:List (Nat×AV)}{a:Act}(k:TRel m0 m nt T a){x:Operand}{v:AV}(h:ev T x=some v):VV m v (a.eval x) []:=by
 cases x with
 |tmp t=>
  obtain⟨u,h1,h2⟩:=k.2.2 t v h;have:a.eval (.tmp t)=u:=by simp[Act.eval,Bl,h1]
  rw[this];exact h2
 |const c=>
  cases c
  case agg cs=>
   have h:(match cs.all (·.oneCell')with|true=>some (AV.agg (cs.toList.map .prim))|false=>none)=some v:=h;split at h
   ·rename_i hc
    injection h with h
    subst h;exact⟨cs,rfl,He m _ λu hu=>by simpa using Array.all_eq_true_iff_forall_mem.1 hc u (by simpa using hu)⟩
   ·cases h
  case tuple vs=>cases h
  all_goals
   injection h with h
   subst h;exact⟨⟨rfl,rfl⟩,rfl⟩
 |func f=>
  injection h with h
  subst h;exact⟨#[],rfl,rfl,rfl⟩
 |global g=>cases h
end
section
variable {ro:Option Nat}
open Go.RowKit
def A5(S:List AK):List (Nat×AK)->List AK
 |[]=>S
 |q::r=>A5 (S.set q.1 q.2) r
inductive Evs(T:List (Nat×AV)):List (Operand×AV)->Prop
 |nil:Evs T []
 |cons {x:Operand} {v:AV} {r:List (Operand×AV)} (h:ev T x=some v) (k:Evs T r):Evs T ((x,v)::r)
inductive At:List AK->Nat->AK->Prop
 |here {e:AK} {S:List AK}:At (e::S) 0 e
 |next {e e':AK} {S:List AK} {p:Nat} (h:At S p e):At (e'::S) (p+1) e
inductive Gets(S:List AK):List (Nat×AK)->Prop
 |nil:Gets S []
 |cons {p:Nat} {e:AK} {r:List (Nat×AK)} (h:At S p e) (k:Gets S r):Gets S ((p,e)::r)
theorem At.get{S:List AK}{p:Nat}{e:AK}(h:At S p e):S[p]?=some e:=by
 induction h with
 |here=>rfl
 |next _ ih=>simpa using ih
theorem Evs.all{T:List (Nat×AV)}{xs:List (Operand×AV)}(h:Evs T xs):∀q∈xs,ev T q.1=some q.2:=by
 induction h with
 |nil=>intro q hq;cases hq
 |cons h _ ih=>intro q hq;rcases AW.1 hq with rfl|hq;exact h;exact ih q hq
theorem Gets.all{S:List AK}{xs:List (Nat×AK)}(h:Gets S xs):∀q∈xs,S[q.1]?=some q.2:=by
 induction h with
 |nil=>intro q hq;cases hq
 |cons h _ ih=>intro q hq;rcases AW.1 hq with rfl|hq;exact h.get;exact ih q hq
def Ao:Option Nat->Nat->Bool
 |none,_=>true
 |some d,n=>Nat.blt d n
theorem DM{o:Option Nat}{n:Nat}(h:Ao o n=true):∀d,o=some d->d<n:=by
 rintro d rfl;simpa[Ao,HV]using h
def OpT(P:Program)(o:Oper)(xs:List (Operand×AV))(rS:List (Nat×AK))(v:AV)(wS:List (Nat×AK)):Prop:=
 ∀nt m0 T S a w,(∀q∈xs,ev T q.1=some q.2)->(∀q∈rS,S[q.1]?=some q.2)->(∀d,o.dst=some d->d<nt)->Rel nt m0 ⟨T,S⟩ a w->
  o.wp P a w (λa' w'=>Rel nt m0 ⟨A6 T o.dst v,A5 S wS⟩ a' w') (λ_ _ _=>False)
section
variable {P:Program}{nt:Nat}{m0:Mem}
theorem Jd{T T':List (Nat×AV)}{S:List AK}{a:Act}{w:World}(h:Rel nt m0 ⟨T,S⟩ a w)(hT:∀d v,BR T' d=some v->BR T d=some v):Rel nt m0 ⟨T',S⟩ a w:=by
 obtain⟨m,N,Z,h1,h2,h3,h4,h5,h6⟩:=h;exact⟨m,N,Z,h1,h2,h3,h4,h5,λd v hd=>h6 d v (hT d v hd)⟩
def FW(ro:Option Nat):Fence:={Fence.wide with round:=ro}
theorem LU{ro:Option Nat}{n:Nat}{P:Program}{f:FuncId}{args:Array Value}{w:World}{R:Ending->World->Prop}(h:Calls P f args w R):CallsIn (FW ro) n P f args w R:=callsIn_wide (n:=n).2 h
theorem Oy{ro:Option Nat}{n:Nat}{P:Program}{f:FuncId}{args:Array Value}{w:World}{R:Ending->World->Prop}(h:CallsIn (FW ro) n P f args w R):Calls P f args w R:=callsIn_wide (n:=n).1 h
def AOps(ro:Option Nat)(P:Program)(nt:Nat)(ops:Array Oper)(Q:Exit->St->Prop)(rest:List Oper)(st:St):Prop:=
 ∀m0 a w,Rel nt m0 st a w->wpListIn (FW ro) 0 P ops (λe a' w'=>∃st',Rel nt m0 st' a' w' /\Q e st') rest a w
def AWP(ro:Option Nat)(P:Program)(nt:Nat)(c:Code)(Q:Exit->St->Prop)(st:St):Prop:=
 ∀m0 a w,Rel nt m0 st a w->c.wpIn (FW ro) 0 P (λe a' w'=>∃st',Rel nt m0 st' a' w' /\Q e st') a w
theorem QM{ro:Option Nat}{n:Nat}{P:Program}{row:String}{args:Array Value}{w:World}{R:Value->World->Prop}(h:Rows P row args w R):RowsIn (FW ro) n P row args w R:=
 λc cs _=>let ⟨v,w',r,s⟩:=h c cs;⟨v,w',r,stepsIn_wide.2 s⟩
theorem Kp{P:Program}{f:Value}{args:Array Value}{w w':World}{d:Deferred}(h:(Deferred.ofValue f args).run P w= .ok d w'):∀r,d.target≠ .collected r:=by
 intro r;cases f<;>simp[Deferred.ofValue,AG,stuck]at h<;>(obtain⟨rfl,_⟩:=h;simp)
theorem Km{P:Program}{ρ:Operand->Value}{c:Call}{t:TypeId}{w w':World}{d:Deferred}(h:(resolve ρ c t).run P w= .ok d w'):∀r,d.target≠ .collected r:=by
 intro r;unfold resolve at h;cases hc:c.callee with
 |builtin b=>simp[hc,AG]at h;obtain⟨rfl,_⟩:=h;simp
 |invoke x n=>simp[hc,AG]at h;obtain⟨rfl,_⟩:=h;simp
 |value f=>simp only[hc]at h;exact Kp h r
theorem Q6{o:Oper}{a:Act}{w:World}{st':St}(h:o.wp P a w (λa' w'=>Rel nt m0 st' a' w') (λ_ _ _=>False)):∀c,o.op≠ .defer c:=by
 intro c hc;unfold Oper.wp at h;have he:execOp a.eval o=(resolve a.eval c o.type>>=λd=>pure (.defer d)):=by unfold execOp;rw[hc]
 rw[he,AI]at h;cases hr:(resolve a.eval c o.type).run P w with
 |ok d w'=>
  rw[hr]at h;simp only[AA,AG]at h;rw[Oper.upon_defer]at h;obtain⟨m,N,Z,_,_,_,_,⟨ds,h5,_⟩,_⟩:=h;have h6:(({a with defers:=d::a.defers}:Act).put o.dst undef).defers=d::a.defers:=by cases o.dst<;>rfl
  rw[h6]at h5;cases ds with
  |nil=>cases h5
  |cons x ds=>
   injection h5 with h5
   exact Km hr x (by rw[h5];rfl)
 |halt x w'=>
  rw[hr]at h;cases x<;>simp[Result.andThen,Oper.upon]at h
theorem If{o:Oper}{a:Act}{w:World}{st':St}{K:Act->World->Prop}{Q:Exit->Act->World->Prop}(h:o.wp P a w (λa' w'=>Rel nt m0 st' a' w') (λ_ _ _=>False))(hK:∀a' w',Rel nt m0 st' a' w' ->K a' w'):o.wpIn (FW ro) 0 P a w K Q:=by
 refine⟨λ_ _=>C9,?_⟩;rw[show o.semAt (FW ro).round a.eval=execOp a.eval o from Rk _ _ _ (Q6 h)];unfold Oper.wp at h;cases hr:(execOp a.eval o).run P w with
 |ok n w'=>
  rw[hr]at h
  cases n<;>simp only[Oper.upon,Oper.uponIn]at h⊢<;>
   first
    |exact hK _ _ h
    |exact⟨λh=>(by simp[FW,Fence.wide]at h),CallsIn.mono (LU h) (λe w'' he=>by cases e<;>first|exact hK _ _ he|exact he.elim|exact(by obtain⟨_,_,hh⟩:=he;exact hh.elim))⟩
    |exact⟨λh=>(by simp[FW,Fence.wide]at h),RowsIn.mono (QM h) (λ_ _ he=>hK _ _ he)⟩
 |halt x w'=>rw[hr]at h;cases x<;>simp only[Oper.upon]at h
def Fu(nt:Nat)(st:St)(K:St->Prop):Prop:=∀m0 a w,Rel nt m0 st a w->∃st',Rel nt m0 st' a w/\K st'
variable {ops:Array Oper}{Q:Exit->St->Prop}{rest:List Oper}{st:St}{o:Oper}
theorem AOps.nil(h:Q .normal st):AOps ro P nt ops Q [] st:=λm0 a w hr=>⟨st,hr,h⟩
theorem AOps.ghost{K:St->Prop}(h:Fu nt st K)(k:∀st',K st' ->AOps ro P nt ops Q rest st'):AOps ro P nt ops Q rest st:=
 λm0 a w hr=>let ⟨st',h1,h2⟩:=h m0 a w hr;k st' h2 m0 a w h1
theorem AWP.ghost{c:Code}{K:St->Prop}(h:Fu nt st K)(k:∀st',K st' ->AWP ro P nt c Q st'):AWP ro P nt c Q st:=
 λm0 a w hr=>let ⟨st',h1,h2⟩:=h m0 a w hr;k st' h2 m0 a w h1
theorem AOps.step{xs:List (Operand×AV)}{rS:List (Nat×AK)}{v:AV}{wS:List (Nat×AK)}(hg:o.guard=none)(h:OpT P o xs rS v wS)(hx:Evs st.T xs)(hS:Gets st.S rS)(hd:Ao o.dst nt=true)
  (k:AOps ro P nt ops Q rest ⟨A6 st.T o.dst v,A5 st.S wS⟩):AOps ro P nt ops Q (o::rest) st:=
 λm0 a w hr=>FX hg λK hK=>If (h nt m0 _ _ a w hx.all hS.all (DM hd) hr) λa w h=>hK a w (k m0 a w h)
theorem OE{T:List (Nat×AV)}{S:List AK}{a:Act}{w:World}{dst:Option Nat}(hd:∀d,dst=some d->d<nt)(h:Rel nt m0 ⟨T,S⟩ a w):Rel nt m0 ⟨A6 T dst .dead,S⟩ (a.put dst undef) w:=by
 obtain⟨m,N,Z,h1,h2,h3,h4⟩:=h;exact⟨m,N,Z,h1,h2,h3,h4.put hd rfl⟩
theorem AOps.skipG{g:Nat}{b b':Bool}{t:Nat}(hg:o.guard=some (g,b))(ht:(ops[g]?).bind (·.dst)=some t)(hv:BR st.T t=some (.prim (.bool b')))(hb:b'= !b)(hd:Ao o.dst nt=true)
  (k:AOps ro P nt ops Q rest ⟨A6 st.T o.dst .dead,st.S⟩):AOps ro P nt ops Q (o::rest) st:=by
 intro m0 a w hr;refine wpListIn_step λK hK=>?_
 have hy:yielded ops a.tmps g=some !b:=by
  obtain⟨m,N,Z,h1,h2,h3,h4,h5,h6⟩:=hr;obtain⟨u,hu1,hu2⟩:=h6 t _ hv;obtain⟨⟨e,_⟩,_⟩:=hu2;injection e with e
  subst e hb;simp[yielded,ht,hu1]
 rw[Ah (by simp[Region.wanted,hg,hy])];exact⟨λ_ _=>C9,hK _ _ (k m0 _ w (OE (DM hd) hr))⟩
def HG:List Bool->AV->AV
 |[],v=>v
 |c::cs,v=>.opt c (HG cs v)
inductive Strips(cs:List Bool):AV->AV->Prop
 |refl {v:AV}:Strips cs v v
 |step {c:Bool} {w v:AV} (hc:c∈cs) (h:Strips cs w v):Strips cs (.opt c w) v
def GH:AV->Option (List Bool×Bool)
 |.prim (.bool b)=>some ([],b)
 |.opt c a=>match GH a with
  |some (cs,b)=>some (c::cs,b)
  |none=>none
 |_=>none
theorem Strips.vv{m:Mem}{cs:List Bool}{w v:AV}(h:Strips cs w v)(hall:∀c∈cs,c=true){u:Value}(k:VV m w u []):VV m v u []:=by
 induction h with
 |refl=>exact k
 |step hc h ih=>exact ih (k.2.1 (hall _ hc))
theorem SS{m:Mem}{cs:List Bool}{v:AV}(hall:∀c∈cs,c=true){u:Value}(k:VV m v u []):VV m (HG cs v) u []:=by
 induction cs with
 |nil=>exact k
 |cons c cs ih=>exact⟨rfl,λ_=>ih λc hc=>hall c (by simp[hc]),λhc=>by rw[hall c (by simp)]at hc;cases hc⟩
theorem OM{m:Mem}{cs:List Bool}{v:AV}(h:∃c∈cs,c=false):VV m (HG cs v) undef []:=by
 induction cs with
 |nil=>obtain⟨c,hc,_⟩:=h;cases hc
 |cons c cs ih=>
  refine⟨rfl,λhc=>ih ?_,λ_=>rfl⟩;obtain⟨d,hd,h⟩:=h;rcases AW.1 hd with rfl|hd
  ·rw[hc]at h;cases h
  ·exact⟨d,hd,h⟩
theorem JZ{m:Mem}:∀{w:AV} {cs:List Bool} {b:Bool},GH w=some (cs,b)->∀{u:Value},VV m w u []->((∀c∈cs,c=true)->u= .bool b)/\((∃c∈cs,c=false)->u=undef)
 |.opt c a,cs,b,h,u,k=>by
  simp only[GH]at h;cases ha:GH a with
  |none=>rw[ha]at h;cases h
  |some q=>
   obtain⟨cs',b'⟩:=q;rw[ha]at h;simp only[AU,DT]at h;obtain⟨rfl,rfl⟩:=h;refine⟨λhall=>(JZ ha (k.2.1 (hall c (by simp)))).1 λd hd=>hall d (by simp[hd]),?_⟩;rintro⟨d,hd,rfl⟩;cases c with
   |false=>exact k.2.2 rfl
   |true=>
    refine(JZ ha (k.2.1 rfl)).2 ?_;rcases AW.1 hd with h|h
    ·cases h
    ·exact⟨false,h,rfl⟩
 |.prim v,cs,b,h,u,k=>by
  cases v<;>simp only[GH]at h<;>cases h;obtain⟨⟨e,_⟩,_⟩:=k;injection e with e
  exact⟨λ_=>e,λ⟨c,hc,_⟩=>by cases hc⟩
 |.dead,_,_,h,_,_|.agg _,_,_,h,_,_|.tup _,_,_,h,_,_|.lst ..,_,_,h,_,_|.bx ..,_,_,h,_,_|.sl ..,_,_,h,_,_|.ptr ..,_,_,h,_,_|.fp _,_,_,h,_,_|.fn ..,_,_,h,_,_|.mp _,_,_,h,_,_=>by cases h
inductive EvCs(cs:List Bool)(T:List (Nat×AV)):List (Operand×AV)->Prop
 |nil:EvCs cs T []
 |cons {x:Operand} {w v:AV} {r:List (Operand×AV)} (h:ev T x=some w) (hs:Strips cs w v) (k:EvCs cs T r):EvCs cs T ((x,v)::r)
theorem EvCs.all{cs:List Bool}{T:List (Nat×AV)}{xs:List (Operand×AV)}(h:EvCs cs T xs):∀q∈xs,∃w,ev T q.1=some w/\Strips cs w q.2:=by
 induction h with
 |nil=>intro q hq;cases hq
 |cons h hs _ ih=>intro q hq;rcases AW.1 hq with rfl|hq;exact⟨_,h,hs⟩;exact ih q hq
def IC:List (Operand×AV)->List (Nat×AV)
 |[]=>[]
 |(.tmp t,v)::r=>(t,v)::IC r
 |_::r=>IC r
def RM(t:Nat):List (Operand×AV)->Bool
 |[]=>false
 |(.tmp d,_)::r=>Nat.beq t d||RM t r
 |_::r=>RM t r
def Da:List (Operand×AV)->Bool
 |[]=>true
 |(.tmp t,_)::r=>!RM t r&&Da r
 |_::r=>Da r
theorem Iq(A B:List (Nat×AV))(d:Nat):BR (A++B) d=(BR A d).or (BR B d):=by
 induction A with
 |nil=>rfl
 |cons a A ih=>
  obtain⟨e,v⟩:=a;rw[G6,Bx,Bx];split
  ·rfl
  ·exact ih
theorem Qq{xs:List (Operand×AV)}{d:Nat}{v:AV}(h:BR (IC xs) d=some v):(Operand.tmp d,v)∈xs:=by
 induction xs with
 |nil=>cases h
 |cons q xs ih=>
  obtain⟨x,v'⟩:=q;cases x with
  |tmp t=>
   rw[IC,Bx]at h;split at h
   ·rename_i e;subst e;injection h with h;subst h;simp
   ·simp[ih h]
  |_=>simp[ih h]
theorem Sk{xs:List (Operand×AV)}{d:Nat}{v:AV}(h:(Operand.tmp d,v)∈xs):RM d xs=true:=by
 induction xs with
 |nil=>cases h
 |cons q xs ih=>
  obtain⟨x,v'⟩:=q;rcases AW.1 h with h'|h'
  ·injection h' with h1 h2;subst h1;simp[RM]
  ·cases x<;>simp[RM,ih h']
theorem Qp{xs:List (Operand×AV)}(ho:Da xs=true){d:Nat}{v:AV}(h:(Operand.tmp d,v)∈xs):BR (IC xs) d=some v:=by
 induction xs with
 |nil=>cases h
 |cons q xs ih=>
  obtain⟨x,v'⟩:=q;cases x with
  |tmp t=>
   simp only[Da,AE,Du]at ho;rw[IC,Bx];rcases AW.1 h with h'|h'
   ·injection h' with h1 h2;injection h1 with h1;subst h1 h2;rw[A1 rfl]
   ·split
    ·rename_i e;subst e
     rw[Sk h']at ho;cases ho.1
    ·exact ih ho.2 h'
  |_=>
   rcases AW.1 h with h|h
   ·injection h with h1 h2;cases h1
   ·exact ih ho h
theorem Ss{T:List (Nat×AV)}{x:Operand}{w:AV}(h:ev T x=some w)(hx:∀t,x≠ .tmp t):∀c a,w≠ .opt c a:=by
 rintro c a rfl;cases x with
 |tmp t=>exact hx t rfl
 |const cv=>cases cv<;>simp only[ev]at h<;>first|(injection h with h;cases h)|(cases h)|(split at h<;>first|(injection h with h;cases h)|cases h)
 |func f=>injection h with h;cases h
 |global g=>cases h
theorem OI{o:Oper}{cs:List Bool}{xs:List (Operand×AV)}{rS:List (Nat×AK)}{v:AV}(h:OpT P o xs rS v [])(hon:Da xs=true){T:List (Nat×AV)}{S:List AK}{a:Act}{w:World}(hx:∀q∈xs,∃w,ev T q.1=some w/\Strips cs w q.2)(hS:∀q∈rS,S[q.1]?=some q.2)(hd:∀d,o.dst=some d->d<nt)(hr:Rel nt m0 ⟨T,S⟩ a w)(hall:∀c∈cs,c=true):
  o.wp P a w (λa' w'=>Rel nt m0 ⟨A6 T o.dst (HG cs v),S⟩ a' w') (λ_ _ _=>False):=by
 have hfirst:∀d v',BR (IC xs) d=some v' ->∃w,BR T d=some w/\Strips cs w v':=λd v' hd=>hx _ (Qq hd)
 have hr1:Rel nt m0 ⟨IC xs++T,S⟩ a w:=by
  obtain⟨m,N,Z,h1,h2,h3,h4,h5,h6⟩:=hr;refine⟨m,N,Z,h1,h2,h3,h4,h5,λd v' hd'=>?_⟩;rw[Iq]at hd';cases hl:BR (IC xs) d with
  |none=>rw[hl]at hd';exact h6 d v' hd'
  |some v1=>
   rw[hl]at hd';simp only[Option.some_or,AU]at hd';subst hd';obtain⟨w1,h7,hs⟩:=hfirst d v1 hl;obtain⟨u,h8,h9⟩:=h6 d _ h7;exact⟨u,h8,hs.vv hall h9⟩
 have hx2:∀q∈xs,ev (IC xs++T) q.1=some q.2:=by
  intro q hq;obtain⟨x,v'⟩:=q;obtain⟨w1,h1,hs⟩:=hx _ hq;by_cases hxt:∃t,x= .tmp t
  ·obtain⟨t,rfl⟩:=hxt
   show BR (IC xs++T) t=some v'
   rw[Iq,Qp hon hq];rfl
  ·have hne:∀t,x≠ .tmp t:=λt e=>hxt ⟨t,e⟩
   have hw:w1=v':=by
    cases hs with
    |refl=>rfl
    |step hc hs=>exact absurd rfl (Ss h1 hne _ _)
   subst hw;cases x with
   |tmp t=>exact absurd rfl (hne t)
   |_=>exact h1
 refine Tg ?_ (h nt m0 (IC xs++T) S a w hx2 hS hd hr1);rintro a' w' ⟨m,N,Z,h1,h2,h3,h4,h5,h6⟩;refine⟨m,N,Z,h1,h2,h3,h4,h5,λd v' hd'=>?_⟩
 have key:∀d v',BR T d=some v' ->(∀d',o.dst=some d' ->d≠d')->∃u,a'.tmps[d]?=some u/\VV m v' u []:=by
  intro d v' hd' hne
  have hl:BR (A6 (IC xs++T) o.dst v) d=BR (IC xs++T) d:=by
   cases hdd:o.dst with
   |none=>rfl
   |some d0=>rw[A6,Bx,Ah (hne d0 hdd)]
  cases hl1:BR (IC xs) d with
  |none=>exact h6 d v' (by rw[hl,Iq,hl1];exact hd')
  |some v1=>
   obtain⟨u,h8,h9⟩:=h6 d v1 (by rw[hl,Iq,hl1];rfl);obtain⟨w1,h7,hs⟩:=hfirst d v1 hl1;rw[h7]at hd';injection hd' with hd';subst hd'
   refine⟨u,h8,?_⟩;clear h7 hl1 h8
   induction hs with
   |refl=>exact h9
   |step hc hs ih=>exact⟨rfl,λ_=>ih h9,λh=>by rw[hall _ hc]at h;cases h⟩
 cases hdd:o.dst with
 |none=>
  rw[hdd]at hd';exact key d v' hd' (by simp[hdd])
 |some d0=>
  rw[hdd,A6,Bx]at hd';split at hd'
  ·rename_i e;subst e
   injection hd' with hd';subst hd'
   obtain⟨u,h8,h9⟩:=h6 d v (by rw[hdd,A6,Bx,A1 rfl]);exact⟨u,h8,SS hall h9⟩
  ·rename_i hne
   refine key d v' hd' λd' hd''=>?_
   rw[hdd]at hd'';injection hd'' with hd'';subst hd'';exact hne
theorem QN{T:List (Nat×AV)}{S:List AK}{a:Act}{w:World}{dst:Option Nat}{v:AV}{cs:List Bool}(hc:∃c∈cs,c=false)(hd:∀d,dst=some d->d<nt)(h:Rel nt m0 ⟨T,S⟩ a w):Rel nt m0 ⟨A6 T dst (HG cs v),S⟩ (a.put dst undef) w:=by
 obtain⟨m,N,Z,h1,h2,h3,h4⟩:=h;exact⟨m,N,Z,h1,h2,h3,h4.put hd (OM hc)⟩
theorem Vb(cs:List Bool):(∀c∈cs,c=true)\/∃c∈cs,c=false:=by
 induction cs with
 |nil=>exact .inl (by simp)
 |cons c cs ih=>
  cases c
  ·exact .inr ⟨false,by simp,rfl⟩
  ·rcases ih with h|⟨d,hd,h⟩
   ·exact .inl λd hd=>by rcases AW.1 hd with rfl|hd;rfl;exact h d hd
   ·exact .inr ⟨d,by simp[hd],h⟩
theorem K6{T:List (Nat×AV)}{S:List AK}{a:Act}{w:World}(hr:Rel nt m0 ⟨T,S⟩ a w){g t:Nat}{b b':Bool}{wg:AV}{cs:List Bool}(hg:o.guard=some (g,b))(ht:(ops[g]?).bind (·.dst)=some t)(hv:BR T t=some wg)(hc:GH wg=some (cs,b')):
  (Region.wanted o (yielded ops a.tmps)=true/\∀c∈cs++[b'==b],c=true)\/(Region.wanted o (yielded ops a.tmps)=false/\∃c∈cs++[b'==b],c=false):=by
 obtain⟨m,N,Z,h1,h2,h3,h4,h5,h6⟩:=hr;obtain⟨u,hu1,hu2⟩:=h6 t _ hv;obtain⟨k1,k2⟩:=JZ hc hu2;have hy:yielded ops a.tmps g=(λu:Value=>match u with|.bool b=>some b|_=>none) u:=by unfold yielded;rw[ht];simp only[Option.bind_some];rw[hu1];clear hu2 k1 k2 hu1;cases u<;>rfl
 rcases Vb cs with hall|hno
 ·have:=k1 hall
  subst this;cases hb:b'==b
  ·refine .inr ⟨?_,false,by simp,rfl⟩
   have:b'≠b:=by simpa using hb
   simp[Region.wanted,hg,hy,this]
  ·refine .inl ⟨?_,λc hc=>?_⟩
   ·have:b'=b:=by simpa using hb
    simp[Region.wanted,hg,hy,this]
   ·rcases AN.1 hc with h|h
    ·exact hall c h
    ·simp only[AS]at h;exact h
 ·have:=k2 hno
  subst this;obtain⟨c,hc,hcf⟩:=hno;exact .inr ⟨by simp[Region.wanted,hg,hy,undef],c,by simp[hc],hcf⟩
theorem AOps.stepQ{xs:List (Operand×AV)}{rS:List (Nat×AK)}{v:AV}{g:Nat}{b b':Bool}{t:Nat}{wg:AV}{cs:List Bool}(hg:o.guard=some (g,b))(ht:(ops[g]?).bind (·.dst)=some t)(hv:BR st.T t=some wg)(hc:GH wg=some (cs,b'))
  (h:(∀c∈cs++[b'==b],c=true)->OpT P o xs rS v []) (hx:EvCs (cs++[b'==b]) st.T xs) (hS:Gets st.S rS) (hd:Ao o.dst nt=true) (hos:Da xs=true) (k:AOps ro P nt ops Q rest ⟨A6 st.T o.dst (HG (cs++[b'==b]) v),st.S⟩):AOps ro P nt ops Q (o::rest) st:=by
 intro m0 a w hr;refine wpListIn_step λK hK=>?_
 rcases K6 hr hg ht hv hc with⟨hw,hall⟩|⟨hw,hno⟩
 ·rw[A1 hw]
  exact If (OI (h hall) hos hx.all hS.all (DM hd) hr hall) λa w h=>hK a w (k m0 a w h)
 ·rw[Ah (by simp[hw])]
  exact⟨λ_ _=>C9,hK _ _ (k m0 _ w (QN hno (DM hd) hr))⟩
structure Eff where
 o:Oper
 rT:List Nat
 rS:List Nat
 v:AV
 wS:List (Nat×AK)
def Eff.app(st:St)(e:Eff):St:=⟨A6 st.T e.o.dst e.v,A5 st.S e.wS⟩
def stX:List Eff->Nat->(Nat->Bool)->St->St
 |[],_,_,st=>st
 |e::r,k,X,st=>stX r (k+1) X (match X k with|true=>e.app st|false=>st)
theorem PR{S:List AK}{p q:Nat}{e:AK}(h:p≠q):(S.set p e)[q]?=S[q]?:=FC h
theorem IF(S:List AK)(wS:List (Nat×AK)):(A5 S wS).length=S.length:=by
 induction wS generalizing S with
 |nil=>rfl
 |cons q r ih=>simp[A5,ih]
theorem Hc{wS:List (Nat×AK)}{p:Nat}(h:∀q∈wS,q.1≠p)(S:List AK):(A5 S wS)[p]?=S[p]?:=by
 induction wS generalizing S with
 |nil=>rfl
 |cons q r ih=>simp only[A5];rw[ih (λx hx=>h x (by simp[hx])),PR (h q (by simp))]
theorem MY{wS:List (Nat×AK)}{p:Nat}(h:∃q∈wS,q.1=p){S S':List AK}(hl:S.length=S'.length):(A5 S wS)[p]?=(A5 S' wS)[p]?:=by
 induction wS generalizing S S' with
 |nil=>obtain⟨q,hq,_⟩:=h;cases hq
 |cons q r ih=>
  simp only[A5];by_cases hr:∃x∈r,x.1=p
  ·exact ih hr (by simp[hl])
  ·have hne:∀x∈r,x.1≠p:=λx hx e=>hr ⟨x,hx,e⟩
   rw[Hc hne,Hc hne];obtain⟨x,hx,e⟩:=h;rcases AW.1 hx with rfl|hx
   ·subst e
    simp[List.getElem?_set,hl]
   ·exact absurd e (hne x hx)
theorem Ik{effs:List Eff}{k:Nat}{X Y:Nat->Bool}{t:Nat}{s s':St}(h:∀j e,effs[j]?=some e->e.o.dst=some t->X (k+j)=Y (k+j))(hs:BR s.T t=BR s'.T t):BR (stX effs k X s).T t=BR (stX effs k Y s').T t:=by
 induction effs generalizing k s s' with
 |nil=>exact hs
 |cons e r ih=>
  refine ih (λj e' he hd=>?_) ?_
  ·have:=h (j+1) e' (by simpa using he) hd
   rwa[show k+1+j=k+(j+1)from by omega]
  ·by_cases hd:e.o.dst=some t
   ·have hXY:=h 0 e rfl hd
    rw[Dp]at hXY;rw[<-hXY];cases X k
    ·exact hs
    ·simp[Eff.app,hd,A6,Bx]
   ·have ap:∀s:St,BR (e.app s).T t=BR s.T t:=λs=>by
     simp only[Eff.app];cases hdd:e.o.dst with
     |none=>rfl
     |some d=>rw[A6,Bx,Ah];exact λh=>hd (by rw[hdd,h])
    cases X k<;>cases Y k<;>simp[ap,hs]
theorem KF{effs:List Eff}{k:Nat}{X Y:Nat->Bool}{p:Nat}{s s':St}(h:∀j e,effs[j]?=some e->(∃q∈e.wS,q.1=p)->X (k+j)=Y (k+j))(hl:s.S.length=s'.S.length)(hs:s.S[p]?=s'.S[p]?):(stX effs k X s).S[p]?=(stX effs k Y s').S[p]?:=by
 induction effs generalizing k s s' with
 |nil=>exact hs
 |cons e r ih=>
  refine ih (λj e' he hd=>?_) ?_ ?_
  ·have:=h (j+1) e' (by simpa using he) hd
   rwa[show k+1+j=k+(j+1)from by omega]
  ·cases X k<;>cases Y k<;>simp[Eff.app,IF,hl]
  ·by_cases hd:∃q∈e.wS,q.1=p
   ·have hXY:=h 0 e rfl hd
    rw[Dp]at hXY;rw[<-hXY];cases X k
    ·exact hs
    ·exact MY hd hl
   ·have ap:∀s:St,(e.app s).S[p]?=s.S[p]?:=λs=>Hc (λq hq e=>hd ⟨q,hq,e⟩) _
    cases X k<;>cases Y k<;>simp[ap,hs]
theorem Tr(effs:List Eff)(k:Nat)(X:Nat->Bool)(s:St):(stX effs k X s).S.length=s.S.length:=by
 induction effs generalizing k s with
 |nil=>rfl
 |cons e r ih=>simp only[stX];rw[ih];cases X k<;>simp[Eff.app,IF]
theorem SB{effs:List Eff}{k i:Nat}{X:Nat->Bool}{t:Nat}{e:Eff}{s:St}(hi:effs[i]?=some e)(hX:X (k+i)=true)(hd:e.o.dst=some t)(hn:∀j e',i<j->effs[j]?=some e' ->X (k+j)=true->e'.o.dst≠some t):BR (stX effs k X s).T t=some e.v:=by
 induction effs generalizing k i s with
 |nil=>simp at hi
 |cons e0 r ih=>
  cases i with
  |zero=>
   simp at hi hX;subst hi;simp only[stX,hX]
   have:=Ik (effs:=r) (k:=k+1) (X:=X) (Y:=λ_=>false) (t:=t) (s:=e0.app s) (s':=e0.app s) (λj e' he hd'=>by
    have:=hn (j+1) e' (by omega) (by simpa using he);rw[show k+(j+1)=k+1+j from by omega]at this;cases hx:X (k+1+j)
    ·rfl
    ·exact absurd hd' (this hx)) rfl
   rw[this]
   have none:∀(r:List Eff) k s,stX r k (λ_=>false) s=s:=by
    intro r
    induction r with
    |nil=>intros;rfl
    |cons e r ih=>intro k s;exact ih _ _
   rw[none];simp[Eff.app,hd,A6,Bx]
  |succ i=>
   refine ih (k:=k+1) (i:=i) (by simpa using hi) (by rwa[show k+1+i=k+(i+1)from by omega]) λj e' hj he hx=>?_
   exact hn (j+1) e' (by omega) (by simpa using he) (by rwa[show k+(j+1)=k+1+j from by omega])
theorem Qy{effs:List Eff}{k i:Nat}{X:Nat->Bool}{p:Nat}{e:Eff}{s:St}(hi:effs[i]?=some e)(hX:X (k+i)=true)(hd:∃q∈e.wS,q.1=p)(hn:∀j e',i<j->effs[j]?=some e' ->X (k+j)=true->¬∃q∈e'.wS,q.1=p)(S':List AK)(hl:S'.length=s.S.length):(stX effs k X s).S[p]?=(A5 S' e.wS)[p]?:=by
 induction effs generalizing k i s with
 |nil=>simp at hi
 |cons e0 r ih=>
  cases i with
  |zero=>
   simp at hi hX;subst hi;simp only[stX,hX]
   have:=KF (effs:=r) (k:=k+1) (X:=X) (Y:=λ_=>false) (p:=p) (s:=e0.app s) (s':=e0.app s) (λj e' he hd'=>by
    have:=hn (j+1) e' (by omega) (by simpa using he);rw[show k+(j+1)=k+1+j from by omega]at this;cases hx:X (k+1+j)
    ·rfl
    ·exact absurd hd' (this hx)) rfl rfl
   rw[this]
   have none:∀(r:List Eff) k s,stX r k (λ_=>false) s=s:=by
    intro r
    induction r with
    |nil=>intros;rfl
    |cons e r ih=>intro k s;exact ih _ _
   rw[none];exact MY hd hl.symm
  |succ i=>
   refine ih (k:=k+1) (i:=i) (by simpa using hi) (by rwa[show k+1+i=k+(i+1)from by omega]) (λj e' hj he hx=>?_) ?_
   ·exact hn (j+1) e' (by omega) (by simpa using he) (by rwa[show k+(j+1)=k+1+j from by omega])
   ·cases X k<;>simp[Eff.app,IF,hl]
end
end
section
variable {ro:Option Nat}
open Go.RowKit
def VO(acc:List Nat)(o:Oper):Nat:=o.after.toList.foldl (λs e=>match Region.binds .any e with|true=>s|||2^e.on|||acc.getD e.on 0|false=>s) 0
def Do:List Oper->List Nat->List Nat
 |[],acc=>acc
 |o::r,acc=>Do r (acc++[VO acc o])
def JY:List Oper->Nat->Bool
 |[],_=>true
 |o::r,k=>o.after.toList.all (λe=>!Region.binds .any e||Nat.blt e.on k)&&JY r (k+1)
def RA:Option Nat->List Nat->Bool
 |none,_=>false
 |some d,l=>l.any (Nat.beq d)
def U4:Option Nat->Option Nat->Bool
 |some d,some e=>Nat.beq d e
 |_,_=>false
def J6(a b:List Nat):Bool:=a.any λx=>b.any (Nat.beq x)
def Ft(a b:Eff):Bool:=
 RA a.o.dst b.rT||RA b.o.dst a.rT||U4 a.o.dst b.o.dst||J6 (a.wS.map (·.1)) b.rS||J6 (b.wS.map (·.1)) a.rS||J6 (a.wS.map (·.1)) (b.wS.map (·.1))
def E3(effs:List Eff)(ms:List Nat):Bool:=
 (List.range effs.length).all λj=>(List.range j).all λi=>match effs[i]?,effs[j]?,ms[j]? with
  |some a,some b,some m=>!Ft a b||m.testBit i
  |_,_,_=>false
section
theorem RQ(acc:List Nat)(i:Nat):∀(l:List Edge) (s:Nat),(l.foldl (λs e=>match Region.binds .any e with|true=>s|||2^e.on|||acc.getD e.on 0|false=>s) s).testBit i=true->
  s.testBit i=true\/∃e∈l,Region.binds .any e=true/\(i=e.on\/(acc.getD e.on 0).testBit i=true):=by
 intro l
 induction l with
 |nil=>intro s h;exact .inl h
 |cons e l ih=>
  intro s h;simp only[List.foldl_cons]at h;rcases ih _ h with h|⟨e',h1,h2,h3⟩
  ·cases hb:Region.binds .any e
   ·rw[hb]at h;exact .inl h
   ·rw[hb]at h
    simp only[Nat.testBit_or,Nat.testBit_two_pow,CQ,Cm]at h;rcases h with(h|h)|h
    ·exact .inl h
    ·exact .inr ⟨e,by simp,hb,.inl h.symm⟩
    ·exact .inr ⟨e,by simp,hb,.inr h⟩
  ·exact .inr ⟨e',by simp[h1],h2,h3⟩
theorem Gj(X:Nat->Bool):∀(r:List Oper) (acc:List Nat) (h:∀j o,r[j]?=some o->X (acc.length+j)=true->∀e∈o.after.toList,Region.binds .any e=true->X e.on=true)
  (hacc:∀j m,acc[j]?=some m->X j=true->∀i,m.testBit i=true->X i=true),∀j m,(Do r acc)[j]?=some m->X j=true->∀i,m.testBit i=true->X i=true:=by
 intro r
 induction r with
 |nil=>intro acc h hacc;exact hacc
 |cons o r ih=>
  intro acc h hacc;simp only[Do];refine ih _ ?_ ?_
  ·intro j o' hj hX
   refine h (j+1) o' (by simpa using hj) ?_;rw[CY,CG,show acc.length+1+j=acc.length+(j+1)from by omega]at hX;exact hX
  ·intro j m hj hX i hi
   rcases Ex j acc.length with hlt|heq|hgt
   ·rw[B5 hlt]at hj
    exact hacc j m hj hX i hi
   ·subst heq
    rw[BK (AP _),DY]at hj;simp at hj;subst hj;rcases RQ acc i _ 0 hi with h0|⟨e,he,hb,h0⟩
    ·simp at h0
    ·have hon:=h 0 o rfl (by simpa using hX) e he hb
     rcases h0 with rfl|h0
     ·exact hon
     ·rw[List.getD_eq_getElem?_getD]at h0
      cases hm:acc[e.on]? with
      |none=>rw[hm]at h0;simp at h0
      |some m'=>rw[hm]at h0;exact hacc e.on m' hm hon i h0
   ·rw[Bk (by simp;omega)]at hj
    cases hj
theorem RY:∀(r:List Oper) (k:Nat),JY r k=true->∀j o,r[j]?=some o->∀e∈o.after.toList,Region.binds .any e=true->e.on<k+j:=by
 intro r
 induction r with
 |nil=>intro k _ j o h;simp at h
 |cons o r ih=>
  intro k h j o' hj e he hb;simp only[JY,AE]at h;cases j with
  |zero=>
   simp at hj;subst hj;have:=Cl.1 h.1 e he;simpa[hb,HV]using this
  |succ j=>
   have:=ih (k+1) h.2 j o' (by simpa using hj) e he hb;omega
theorem E4{a b:Eff}(h:Ft a b=false):(∀d,a.o.dst=some d->d∉b.rT)/\(∀d,b.o.dst=some d->d∉a.rT)/\(∀d,a.o.dst=some d->b.o.dst≠some d)/\
  (∀q∈a.wS,q.1∉b.rS)/\(∀q∈b.wS,q.1∉a.rS)/\(∀q∈a.wS,∀q'∈b.wS,q.1≠q'.1):=by
 simp only[Ft,FD]at h;obtain⟨⟨⟨⟨⟨h1,h2⟩,h3⟩,h4⟩,h5⟩,h6⟩:=h;have bq:∀x y:Nat,Nat.beq x y=false->x≠y:=λx y h e=>by subst e;simp at h
 refine⟨λd hd hm=>?_,λd hd hm=>?_,λd hd he=>?_,λq hq hm=>?_,λq hq hm=>?_,λq hq q' hq' e=>?_⟩
 ·rw[hd]at h1
  simp only[RA,CR]at h1;exact h1 d hm (by simp)
 ·rw[hd]at h2
  simp only[RA,CR]at h2;exact h2 d hm (by simp)
 ·rw[hd,he]at h3
  exact bq d d h3 rfl
 ·simp only[J6,CR,BH,Rx]at h4
  exact bq _ _ (h4 q.1 ⟨q,hq,rfl⟩ q.1 hm) rfl
 ·simp only[J6,CR,BH,Rx]at h5
  exact bq _ _ (h5 q.1 ⟨q,hq,rfl⟩ q.1 hm) rfl
 ·simp only[J6,CR,BH,Rx]at h6
  exact bq _ _ (h6 q.1 ⟨q,hq,rfl⟩ q'.1 ⟨q',hq',rfl⟩) e
end
def Qe(P:Program)(nt:Nat)(ops:Array Oper)(e:Eff)(st:St):Prop:=
 ∀m0 T S a w,(∀t∈e.rT,BR T t=BR st.T t)->(∀p∈e.rS,S[p]?=st.S[p]?)->Rel nt m0 ⟨T,S⟩ a w->
  if Region.wanted e.o (yielded ops a.tmps)then e.o.wp P a w (λa' w'=>Rel nt m0 (e.app ⟨T,S⟩) a' w') (λ_ _ _=>False)else Rel nt m0 (e.app ⟨T,S⟩) (a.put e.o.dst undef) w
def BZ(xs:List (Operand×AV)):List Nat:=xs.filterMap λq=>match q.1 with|.tmp t=>some t|_=>none
inductive Run(P:Program)(nt:Nat)(ops:Array Oper):List Oper->St->List Eff->St->Prop
 |nil {st:St}:Run P nt ops [] st [] st
 |step {o:Oper} {rest:List Oper} {st st':St} {xs:List (Operand×AV)} {rS:List (Nat×AK)} {v:AV} {wS:List (Nat×AK)} {effs:List Eff} (hg:o.guard=none) (h:OpT P o xs rS v wS) (hx:Evs st.T xs) (hS:Gets st.S rS) (hd:Ao o.dst nt=true)
   (k:Run P nt ops rest ⟨A6 st.T o.dst v,A5 st.S wS⟩ effs st'):Run P nt ops (o::rest) st (⟨o,BZ xs,rS.map (·.1),v,wS⟩::effs) st'
 |stepG {o:Oper} {rest:List Oper} {st st':St} {xs:List (Operand×AV)} {rS:List (Nat×AK)} {v:AV} {wS:List (Nat×AK)} {effs:List Eff} {g:Nat} {b b':Bool} {t:Nat} (hg:o.guard=some (g,b)) (ht:(ops[g]?).bind (·.dst)=some t) (hv:BR st.T t=some (.prim (.bool b'))) (hb:b'=b)
   (h:OpT P o xs rS v wS) (hx:Evs st.T xs) (hS:Gets st.S rS) (hd:Ao o.dst nt=true)
   (k:Run P nt ops rest ⟨A6 st.T o.dst v,A5 st.S wS⟩ effs st'):Run P nt ops (o::rest) st (⟨o,t::BZ xs,rS.map (·.1),v,wS⟩::effs) st'
 |skipG {o:Oper} {rest:List Oper} {st st':St} {effs:List Eff} {g:Nat} {b b':Bool} {t:Nat} (hg:o.guard=some (g,b)) (ht:(ops[g]?).bind (·.dst)=some t) (hv:BR st.T t=some (.prim (.bool b'))) (hb:b'= !b) (hd:Ao o.dst nt=true)
   (k:Run P nt ops rest ⟨A6 st.T o.dst .dead,st.S⟩ effs st'):Run P nt ops (o::rest) st (⟨o,[t],[],.dead,[]⟩::effs) st'
 |stepQ {o:Oper} {rest:List Oper} {st st':St} {xs:List (Operand×AV)} {rS:List (Nat×AK)} {v:AV} {effs:List Eff} {g:Nat} {b b':Bool} {t:Nat} {wg:AV} {cs:List Bool} (hg:o.guard=some (g,b)) (ht:(ops[g]?).bind (·.dst)=some t) (hv:BR st.T t=some wg) (hc:GH wg=some (cs,b'))
   (h:(∀c∈cs++[b'==b],c=true)->OpT P o xs rS v []) (hx:EvCs (cs++[b'==b]) st.T xs) (hS:Gets st.S rS) (hd:Ao o.dst nt=true) (hos:Da xs=true) (k:Run P nt ops rest ⟨A6 st.T o.dst (HG (cs++[b'==b]) v),st.S⟩ effs st'):Run P nt ops (o::rest) st (⟨o,t::BZ xs,rS.map (·.1),HG (cs++[b'==b]) v,[]⟩::effs) st'
section
variable {P:Program}{nt:Nat}{ops:Array Oper}
theorem JW{st:St}{T:List (Nat×AV)}{xs:List (Operand×AV)}(hx:Evs st.T xs)(h:∀t∈BZ xs,BR T t=BR st.T t):∀q∈xs,ev T q.1=some q.2:=by
 intro q hq;have h0:=hx.all q hq;rcases hq1:q.1 with t|c|g|f
 ·rw[hq1]at h0
  show BR T t=_
  rw[h t (List.mem_filterMap.2 ⟨q,hq,by simp[hq1]⟩)];exact h0
 all_goals rw[hq1]at h0;exact h0
theorem Pr{cs:List Bool}{st:St}{T:List (Nat×AV)}{xs:List (Operand×AV)}(hx:EvCs cs st.T xs)(h:∀t∈BZ xs,BR T t=BR st.T t):∀q∈xs,∃w,ev T q.1=some w/\Strips cs w q.2:=by
 intro q hq;obtain⟨w,h0,hs⟩:=hx.all q hq;refine⟨w,?_,hs⟩;rcases hq1:q.1 with t|c|g|f
 ·rw[hq1]at h0
  show BR T t=_
  rw[h t (List.mem_filterMap.2 ⟨q,hq,by simp[hq1]⟩)];exact h0
 all_goals rw[hq1]at h0;exact h0
theorem IM{st:St}{S:List AK}{rS:List (Nat×AK)}(hS:Gets st.S rS)(h:∀p∈rS.map (·.1),S[p]?=st.S[p]?):∀q∈rS,S[q.1]?=some q.2:=
 λq hq=>(h q.1 (BH.2 ⟨q,hq,rfl⟩)).trans (hS.all q hq)
theorem N3{m0:Mem}{T:List (Nat×AV)}{S:List AK}{a:Act}{w:World}(hr:Rel nt m0 ⟨T,S⟩ a w){g t:Nat}{b:Bool}(ht:(ops[g]?).bind (·.dst)=some t)(hv:BR T t=some (.prim (.bool b))):yielded ops a.tmps g=some b:=by
 obtain⟨m,N,Z,h1,h2,h3,h4,h5,h6⟩:=hr;obtain⟨u,hu1,hu2⟩:=h6 t _ hv;obtain⟨⟨e,_⟩,_⟩:=hu2;injection e with e
 subst e;simp[yielded,ht,hu1]
theorem HY(effs:List Eff)(k:Nat)(X:Nat->Bool)(s:St):stX effs (k+1) X s=stX effs k (λj=>X (j+1)) s:=by
 induction effs generalizing k s with
 |nil=>rfl
 |cons e r ih=>simp only[stX];rw[ih]
theorem Ij(effs:List Eff)(k:Nat)(s:St):stX effs k (λ_=>false) s=s:=by
 induction effs generalizing k s with
 |nil=>rfl
 |cons e r ih=>exact ih _ _
theorem Run.spec{l:List Oper}{st st':St}{effs:List Eff}(h:Run P nt ops l st effs st'):st'=stX effs 0 (λ_=>true) st/\effs.map (·.o)=l/\
  ∀i e,effs[i]?=some e->Qe P nt ops e (stX effs 0 (λj=>decide (j<i)) st):=by
 have shift:∀(e0:Eff) (effs:List Eff) (st:St) (i:Nat),stX (e0::effs) 0 (λj=>decide (j<i+1)) st=stX effs 0 (λj=>decide (j<i)) (e0.app st):=by
  intro e0 effs st i;show stX effs (0+1) (λj=>decide (j<i+1)) (match decide (0<i+1)with|true=>e0.app st|false=>st)=_
  rw[HY,decide_eq_true (Nat.succ_pos i)];simp
 have full:∀(e0:Eff) (effs:List Eff) (st:St),stX (e0::effs) 0 (λ_=>true) st=stX effs 0 (λ_=>true) (e0.app st):=by
  intro e0 effs st;show stX effs (0+1) (λ_=>true) (e0.app st)=_
  rw[HY]
 have first:∀(e0:Eff) (effs:List Eff) (st:St),stX (e0::effs) 0 (λj=>decide (j<0)) st=st:=by
  intro e0 effs st;have:(λj:Nat=>decide (j<0))=λ_=>false:=by funext j;simp
  rw[this,Ij]
 induction h with
 |nil=>exact⟨rfl,rfl,λi e h=>by simp at h⟩
 |step hg h hx hS hd k ih=>
  obtain⟨h1,h2,h3⟩:=ih;refine⟨by rw[full];exact h1,by simp[h2],λi e he=>?_⟩;cases i with
  |zero=>
   simp at he;subst he;rw[first];intro m0 T S a w hT hSS hr;rw[A1 (by simp[Region.wanted,hg])];exact h nt m0 T S a w (JW hx hT) (IM hS hSS) (DM hd) hr
  |succ i=>
   rw[shift];exact h3 i e (by simpa using he)
 |stepG hg ht hv hb h hx hS hd k ih=>
  obtain⟨h1,h2,h3⟩:=ih;refine⟨by rw[full];exact h1,by simp[h2],λi e he=>?_⟩;cases i with
  |zero=>
   simp at he;subst he;rw[first];intro m0 T S a w hT hSS hr;have hy:=N3 hr ht ((hT _ (by simp)).trans hv);rw[A1 (by simp[Region.wanted,hg,hy,hb])];exact h nt m0 T S a w (JW hx λt ht=>hT t (by simp[ht])) (IM hS hSS) (DM hd) hr
  |succ i=>
   rw[shift];exact h3 i e (by simpa using he)
 |skipG hg ht hv hb hd k ih=>
  obtain⟨h1,h2,h3⟩:=ih;refine⟨by rw[full];exact h1,by simp[h2],λi e he=>?_⟩;cases i with
  |zero=>
   simp at he;subst he;rw[first];intro m0 T S a w hT hSS hr;have hy:=N3 hr ht ((hT _ (by simp)).trans hv);rw[Ah (by simp[Region.wanted,hg,hy,hb])];exact OE (DM hd) hr
  |succ i=>
   rw[shift];exact h3 i e (by simpa using he)
 |stepQ hg ht hv hc h hx hS hd hos k ih=>
  obtain⟨h1,h2,h3⟩:=ih;refine⟨by rw[full];exact h1,by simp[h2],λi e he=>?_⟩;cases i with
  |zero=>
   simp at he;subst he;rw[first];intro m0 T S a w hT hSS hr;rcases K6 hr hg ht ((hT _ (by simp)).trans hv) hc with⟨hw,hall⟩|⟨hw,hno⟩
   ·rw[A1 hw]
    exact OI (h hall) hos (Pr hx λt ht=>hT t (by simp[ht])) (IM hS hSS) (DM hd) hr hall
   ·rw[Ah (by simp[hw])]
    exact QN hno (DM hd) hr
  |succ i=>
   rw[shift];exact h3 i e (by simpa using he)
theorem Good.draw{m0 m:Mem}{N:Nat}{Z:Zs}{ex:List Nat}(G:Good m0 m N Z ex)(n:Nat):Good m0 {m with w:={m.w with drawn:=n}} N Z ex:=by
 have hle:m.Le {m with w:={m.w with drawn:=n}}:=⟨λ_ h=>h,λ_ _ _ h=>h,λ_ h=>⟨h,rfl⟩⟩
 have:=Good.swap (zs:=[]) (zs':=[]) (R:=Z) (m':={m with w:={m.w with drawn:=n}}) (N':=N) (ex':=ex) G hle (AP _) (λ_ _ _=>rfl) (λ_ _ _ _=>rfl) (λz hz=>by cases hz)
  (by have:=(AL.1 G.own).2.1;simpa[Zs.own]using this)
  (λb hb=>by
   have hb':b∈ex:=by simpa[Zs.own]using hb
   exact⟨(G.blk b (by simp[hb'])).1,(G.blk b (by simp[hb'])).2,.inr (.inl hb')⟩)
  (λb hb=>⟨G.frz b hb,.inl hb⟩) (by simp[Zs.keys]) (λx hx=>by simp[Zs.keys]at hx) (λx hx=>⟨G.usedN x hx,.inl hx⟩) rfl rfl rfl (AP _)
 simpa using this
theorem Rel.draw{m0:Mem}{st:St}{a:Act}{w:World}(h:Rel nt m0 st a w)(n:Nat):Rel nt m0 st a {w with drawn:=n}:=by
 obtain⟨m,N,Z,rfl,h2,h3,h4⟩:=h;exact⟨{m with w:={m.w with drawn:=n}},N,Z,rfl,h2,h3.draw n,TRel.mono (m:=m) (m':={m with w:={m.w with drawn:=n}}) ⟨λ_ h=>h,λ_ _ _ h=>h,λ_ h=>⟨h,rfl⟩⟩ h4⟩
theorem Ka{effs:List Eff}{st:St}{X:Array Bool}{i:Nat}(heff:effs.map (·.o)<+:ops.toList)(hc:E3 effs (Do ops.toList [])=true)(hX:X.size=ops.size)(hdc:∀j o,ops.toList[j]?=some o->X.getD j false=true->∀e∈o.after.toList,Region.binds .any e=true->X.getD e.on false=true)(hin:i<ops.size)(hXi:X.getD i false=false)(hpre:∀e∈(ops[i]).after.toList,Region.binds .any e=true->X.getD e.on false=true){e:Eff}(he:effs[i]?=some e):
  e.o=ops[i]/\(∀t∈e.rT,BR (stX effs 0 (λj=>X.getD j false) st).T t=BR (stX effs 0 (λj=>decide (j<i)) st).T t)/\(∀p∈e.rS,(stX effs 0 (λj=>X.getD j false) st).S[p]?=(stX effs 0 (λj=>decide (j<i)) st).S[p]?)/\
   (∀t,BR (stX effs 0 (λj=>(X.setIfInBounds i true).getD j false) st).T t=BR (e.app (stX effs 0 (λj=>X.getD j false) st)).T t)/\(stX effs 0 (λj=>(X.setIfInBounds i true).getD j false) st).S=(e.app (stX effs 0 (λj=>X.getD j false) st)).S:=by
 have hiX:i<X.size:=by omega
 have heo:e.o=ops[i]:=by
  have h1:(effs.map (·.o))[i]?=some e.o:=by simp[he]
  obtain⟨r,hr⟩:=heff;have h2:ops.toList[i]?=some e.o:=by rw[<-hr,B5 (AC.1 h1).1];exact h1
  simpa[hin]using h2.symm
 have hmask:=Gj (λj=>X.getD j false) ops.toList [] (λj o hj hXj e he hb=>hdc j o hj (by simpa using hXj) e he hb) (λj m h=>by simp at h)
 have hcomp:∀a b ea eb,a<b->effs[a]?=some ea->effs[b]?=some eb->Ft ea eb=true->∃m:Nat,(Do ops.toList [])[b]?=some m/\m.testBit a=true:=by
  intro a b ea eb hab hea heb hcl;have h1:=Cl.1 (hc) b (Ck.2 (AC.1 heb).1);have h2:=Cl.1 h1 a (Ck.2 hab);simp only[hea,heb]at h2;cases hm:(Do ops.toList [])[b]? with
  |none=>rw[hm]at h2;cases h2
  |some m=>rw[hm]at h2;exact⟨m,rfl,by simpa[hcl]using h2⟩
 have hbefore:∀j ej,j<i->effs[j]?=some ej->Ft ej e=true->X.getD j false=true:=by
  intro j ej hj hej hcl;obtain⟨m,hm1,hm2⟩:=hcomp j i ej e hj hej he hcl
  have hcl2:=Gj (λk=>X.getD k false||decide (k=i)) ops.toList [] (λk o hk hXk ee hee hb=>by
   simp only[Hr,Af,CQ,Cm]at hXk⊢;rcases hXk with h|h
   ·exact .inl (hdc k o hk h ee hee hb)
   ·subst h
    have:o=ops[k]:=by simpa[hin]using hk.symm
    subst this;exact .inl (hpre ee hee hb)) (λj m h=>by simp at h) i m hm1 (by simp) j hm2
  simp only[CQ,Cm]at hcl2;rcases hcl2 with h|h
  ·exact h
  ·omega
 have hafter:∀j ej,i<j->effs[j]?=some ej->Ft e ej=true->X.getD j false=false:=by
  intro j ej hj hej hcl;obtain⟨m,hm1,hm2⟩:=hcomp i j e ej hj he hej hcl;cases hx:X.getD j false with
  |false=>rfl
  |true=>
   have:=hmask j m hm1 hx i hm2;rw[hXi]at this;cases this
 have hrT:∀t∈e.rT,BR (stX effs 0 (λj=>X.getD j false) st).T t=BR (stX effs 0 (λj=>decide (j<i)) st).T t:=by
  intro t ht;refine Ik (λj ej hej hd=>?_) rfl;rw[Af];rcases Ex j i with h|h|h
  ·rw[hbefore j ej h hej ?_]
   ·simp[h]
   ·cases hcl:Ft ej e with
    |true=>rfl
    |false=>exact absurd ht ((E4 hcl).1 t hd)
  ·subst h
   rw[hXi];simp
  ·rw[hafter j ej h hej ?_]
   ·simp;omega
   ·cases hcl:Ft e ej with
    |true=>rfl
    |false=>exact absurd ht ((E4 hcl).2.1 t hd)
 have hrS:∀p∈e.rS,(stX effs 0 (λj=>X.getD j false) st).S[p]?=(stX effs 0 (λj=>decide (j<i)) st).S[p]?:=by
  intro p hp;refine KF (λj ej hej hd=>?_) rfl rfl;rw[Af];obtain⟨q,hq,rfl⟩:=hd;rcases Ex j i with h|h|h
  ·rw[hbefore j ej h hej ?_]
   ·simp[h]
   ·cases hcl:Ft ej e with
    |true=>rfl
    |false=>exact absurd hp ((E4 hcl).2.2.2.1 q hq)
  ·subst h
   rw[hXi];simp
  ·rw[hafter j ej h hej ?_]
   ·simp;omega
   ·cases hcl:Ft e ej with
    |true=>rfl
    |false=>exact absurd hp ((E4 hcl).2.2.2.2.1 q hq)
 have hX':∀k,(X.setIfInBounds i true).getD k false=(X.getD k false||decide (k=i)):=by
  intro k;simp only[Bl,TM];by_cases hk:i=k
  ·subst hk;simp[hiX]
  ·simp[hk,Ne.symm hk]
 have hT:∀t,BR (stX effs 0 (λj=>(X.setIfInBounds i true).getD j false) st).T t=BR (e.app (stX effs 0 (λj=>X.getD j false) st)).T t:=by
  intro t;by_cases hd:e.o.dst=some t
  ·rw[SB (i:=i) (e:=e) (t:=t) he (by rw[Af,hX'];simp) hd ?_]
   ·simp[Eff.app,hd,A6,Bx]
   ·intro j ej hj hej hXj hdj
    rw[Af,hX']at hXj
    have hXj':X.getD j false=true:=by
     simp only[CQ,Cm]at hXj;rcases hXj with h|h
     ·exact h
     ·omega
    have:=hafter j ej hj hej (by
     cases hcl:Ft e ej with
     |true=>rfl
     |false=>exact absurd hdj ((E4 hcl).2.2.1 t hd))
    rw[hXj']at this;cases this
  ·have ap:BR (e.app (stX effs 0 (λj=>X.getD j false) st)).T t=BR (stX effs 0 (λj=>X.getD j false) st).T t:=by
    simp only[Eff.app];cases hdd:e.o.dst with
    |none=>rfl
    |some d=>rw[A6,Bx,Ah];exact λh=>hd (by rw[hdd,h])
   rw[ap];refine Ik (λj ej hej hdj=>?_) rfl;rw[Af,hX']
   have:j≠i:=by
    rintro rfl;rw[he]at hej;injection hej with hej
    subst hej;exact hd hdj
   simp[this]
 have hS:(stX effs 0 (λj=>(X.setIfInBounds i true).getD j false) st).S=(e.app (stX effs 0 (λj=>X.getD j false) st)).S:=by
  refine JF λp=>?_
  by_cases hd:∃q∈e.wS,q.1=p
  ·rw[Qy (i:=i) (e:=e) (p:=p) he (by rw[Af,hX'];simp) hd ?_ (stX effs 0 (λj=>X.getD j false) st).S (Tr ..)]
   ·rfl
   ·intro j ej hj hej hXj hdj
    rw[Af,hX']at hXj
    have hXj':X.getD j false=true:=by
     simp only[CQ,Cm]at hXj;rcases hXj with h|h
     ·exact h
     ·omega
    obtain⟨q,hq,hqp⟩:=hd;obtain⟨q',hq',hqp'⟩:=hdj
    have:=hafter j ej hj hej (by
     cases hcl:Ft e ej with
     |true=>rfl
     |false=>exact absurd (hqp.trans hqp'.symm) ((E4 hcl).2.2.2.2.2 q hq q' hq'))
    rw[hXj']at this;cases this
  ·have ap:(e.app (stX effs 0 (λj=>X.getD j false) st)).S[p]?=(stX effs 0 (λj=>X.getD j false) st).S[p]?:=Hc (λq hq h=>hd ⟨q,hq,h⟩) _
   rw[ap];refine KF (λj ej hej hdj=>?_) rfl rfl;rw[Af,hX']
   have:j≠i:=by
    rintro rfl;rw[he]at hej;injection hej with hej
    subst hej;exact hd hdj
   simp[this]
 exact⟨heo,hrT,hrS,hT,hS⟩
theorem Rf(hdn:JY ops.toList 0=true){X:Array Bool}(hX:X.size=ops.size)(hnil:Region.ready .any ops X=[]):∀j,j<ops.size->X.getD j false=true:=by
 intro j
 induction j using Nat.strongRecOn with
 |_ j ih=>
  intro hj;cases hx:X.getD j false with
  |true=>rfl
  |false=>
   exfalso
   have:j∈Region.ready .any ops X:=by
    refine Dw.2 ⟨Ck.2 hj,?_⟩;have ho:ops[j]?=some ops[j]:=by simp[hj]
    have hx':X.getD j true=false:=by
     have hjX:j<X.size:=by omega
     simp only[Bl,FJ hjX,Gz]at hx⊢;exact hx
    simp only[hx',ho,Au,Gz,ED,Ey];rw[Array.all_eq_true'];intro e he;cases hb:Region.binds .any e with
    |false=>simp
    |true=>
     have hlt:=RY _ 0 hdn j ops[j] (by simp[hj]) e (by simpa using he) hb;have:=ih e.on (by omega) (by omega);simpa using this
   rw[hnil]at this;cases this
abbrev Cld(ops:Array Oper)(X:Array Bool):Prop:=∀j o,ops.toList[j]?=some o->X.getD j false=true->∀e∈o.after.toList,Region.binds .any e=true->X.getD e.on false=true
theorem Kf{X:Array Bool}{i:Nat}(hi:i<X.size)(k:Nat):(X.setIfInBounds i true).getD k false=(X.getD k false||decide (k=i)):=by
 simp only[Bl,TM];by_cases hk:i=k
 ·subst hk;simp[hi]
 ·simp[hk,Ne.symm hk]
theorem OC{I:Array Bool->Act->World->Prop}{Q':Exit->Act->World->Prop}(hdn:JY ops.toList 0=true)(done:∀X a w,(∀j,j<ops.size->X.getD j false=true)->I X a w->Q' .normal a w)
  (step:∀(X:Array Bool) (i:Nat) (hin:i<ops.size) a w,X.size=ops.size->Cld ops X->X.getD i false=false->(∀e∈(ops[i]).after.toList,Region.binds .any e=true->X.getD e.on false=true)->I X a w->wpOpIn (FW ro) 0 P ops Q' i (I (X.setIfInBounds i true)) a w):
  ∀(fuel:Nat) (X:Array Bool) (a:Act) (w:World),X.size=ops.size->Cld ops X->((List.range ops.size).filter λj=>!X.getD j false).length<=fuel->I X a w->wpAnyIn (FW ro) 0 P .any ops Q' fuel X a w:=by
 intro fuel
 induction fuel with
 |zero=>
  intro X a w hX hdc hf hr
  have hall:∀j,j<ops.size->X.getD j false=true:=by
   intro j hj;have hnil:=Cz (Nat.le_zero.1 hf);cases hx:X.getD j false with
   |true=>rfl
   |false=>
    have:j∈(List.range ops.size).filter λj=>!X.getD j false:=Dw.2 ⟨Ck.2 hj,by simp only[hx,ED]⟩
    rw[hnil]at this;cases this
  refine⟨WL.2 λj hj=>?_,done X a w hall hr⟩;have hj':=Ck.1 hj;have:=hall j hj';have hjX:j<X.size:=by omega
  simp only[Bl,FJ hjX,Gz]at this⊢;simp[this]
 |succ fuel ih=>
  intro X a w hX hdc hf hr;refine⟨λhnil=>done X a w (Rf hdn hX hnil) hr,λi hi=>?_⟩;obtain⟨hi1,hi2⟩:=Dw.1 hi;have hin:=Ck.1 hi1;have ho:ops[i]?=some ops[i]:=by simp[hin]
  have hiX:i<X.size:=by omega
  simp only[ho,Au,Gz,AE]at hi2
  have hXi:X.getD i false=false:=by
   have h:=hi2.1;simp only[Bl,FJ hiX,Gz]at h⊢;simpa using h
  have hpre:∀e∈(ops[i]).after.toList,Region.binds .any e=true->X.getD e.on false=true:=by
   intro e he hb;have:=Array.all_eq_true'.1 hi2.2 e (by simpa using he);simpa[hb]using this
  refine wpOpIn_mono (λa w h=>ih _ a w (by simp[hX]) ?_ ?_ h) (step X i hin a w hX hdc hXi hpre hr)
  ·intro j o hj hXj ee hee hb
   rw[Kf hiX]at hXj⊢;simp only[CQ,Cm]at hXj⊢;rcases hXj with h|h
   ·exact .inl (hdc j o hj h ee hee hb)
   ·subst h
    have:o=ops[j]:=by simpa[hin]using hj.symm
    subst this;exact .inl (hpre ee hee hb)
  ·have e1:(List.range ops.size).filter (λj=>!(X.setIfInBounds i true).getD j false)=((List.range ops.size).filter λj=>!X.getD j false).filter λj=>!decide (j=i):=by
    rw[List.filter_filter]
    congr 1
    funext j
    rw[Kf hiX];cases X.getD j false<;>simp
   have hmem:i∈(List.range ops.size).filter λj=>!X.getD j false:=Dw.2 ⟨Ck.2 hin,by simp only[hXi,ED]⟩
   have:=(List.length_filter_lt_length_iff_exists (l:=(List.range ops.size).filter λj=>!X.getD j false) (p:=λj=>!decide (j=i))).2 ⟨i,hmem,by simp⟩;rw[e1];omega
theorem NE{id:Nat}{l:List Oper}{st:St}{Q:Exit->St->Prop}(I:Mem->Array Bool->Act->World->Prop)(hm:P.follows .mixedOrders=true)(hdn:JY l 0=true)(h0:∀m0 X a w,(∀j,X.getD j false=false)->Rel nt m0 st a w->I m0 X a w)
  (done:∀m0 X a w,(∀j,j<l.length->X.getD j false=true)->I m0 X a w->∃st',Rel nt m0 st' a w/\Q .normal st')
  (step:∀m0 (X:Array Bool) (i:Nat) (hin:i<l.toArray.size) a w,X.size=l.toArray.size->Cld l.toArray X->X.getD i false=false->(∀e∈(l.toArray[i]).after.toList,Region.binds .any e=true->X.getD e.on false=true)->I m0 X a w->wpOpIn (FW ro) 0 P l.toArray (λe a' w'=>∃st',Rel nt m0 st' a' w' /\Q e st') i (I m0 (X.setIfInBounds i true)) a w):AWP ro P nt (.region id l.toArray true) Q st:=by
 intro m0 a w hrel;refine wpIn_region_any hm (OC (I:=I m0) (by simpa using hdn) (λX a w hall h=>done m0 X a w (by simpa using hall) h) (step m0) _ _ a _ (by simp) ?_ ?_ (h0 m0 _ a _ (λj=>?_) (hrel.draw _)))
 ·intro j o hj hX
  have:j<l.length:=(AC.1 hj).1;simp[this]at hX
 ·exact CT (WQ _ _) (by simp)
 ·simp only[Bl,Vn]
  split<;>rfl
theorem Il{effs:List Eff}{st:St}{X:Array Bool}(h:∀j,j<effs.length->X.getD j false=true):(∀t,BR (stX effs 0 (λj=>X.getD j false) st).T t=BR (stX effs 0 (λ_=>true) st).T t)/\(stX effs 0 (λj=>X.getD j false) st).S=(stX effs 0 (λ_=>true) st).S:=
 ⟨λt=>Ik (λj e he _=>by rw[Af];exact h j (AC.1 he).1) rfl,JF λp=>KF (λj e he _=>by rw[Af];exact h j (AC.1 he).1) rfl rfl⟩
theorem Rel.like{m0:Mem}{s1 s2:St}{a:Act}{w:World}(h:Rel nt m0 s1 a w)(k:(∀t,BR s2.T t=BR s1.T t)/\s2.S=s1.S):Rel nt m0 s2 a w:=by
 obtain⟨T2,S2⟩:=s2;obtain⟨k1,rfl⟩:=k;exact Jd h λd v hv=>(k1 d).symm.trans hv
theorem MV{effs:List Eff}{st:St}{X:Array Bool}(h:∀j,X.getD j false=false):stX effs 0 (λj=>X.getD j false) st=st:=by
 rw[show(λj=>X.getD j false)=λ_=>false from funext h,Ij]
theorem Rc{m0:Mem}{st:St}{effs:List Eff}{Q':Exit->Act->World->Prop}(heff:effs.map (·.o)=ops.toList)(hloc:∀i e,effs[i]?=some e->Qe P nt ops e (stX effs 0 (λj=>decide (j<i)) st))
  (hc:E3 effs (Do ops.toList [])=true) (hdn:JY ops.toList 0=true) (hQ:∀a w,Rel nt m0 (stX effs 0 (λ_=>true) st) a w->Q' .normal a w):
  ∀(fuel:Nat) (X:Array Bool) (a:Act) (w:World),X.size=ops.size->(∀j o,ops.toList[j]?=some o->X.getD j false=true->∀e∈o.after.toList,Region.binds .any e=true->X.getD e.on false=true)->
   ((List.range ops.size).filter λj=>!X.getD j false).length<=fuel->Rel nt m0 (stX effs 0 (λj=>X.getD j false) st) a w->wpAnyIn (FW ro) 0 P .any ops Q' fuel X a w:=by
 have hlen:effs.length=ops.size:=by have:=G9 List.length heff;simpa using this
 refine OC (I:=λX a w=>Rel nt m0 (stX effs 0 (λj=>X.getD j false) st) a w) hdn (λX a w hall h=>hQ a w ?_) λX i hin a w hX hdc hXi hpre hr=>?_
 ·obtain⟨k1,k2⟩:=Il (effs:=effs) (st:=st) (λj hj=>hall j (by omega))
  exact h.like ⟨λt=>(k1 t).symm,k2.symm⟩
 ·obtain⟨e,he⟩:∃e,effs[i]?=some e:=⟨_,Cf (show i<effs.length by omega)⟩
  obtain⟨heo,hrT,hrS,hT,hS⟩:=Ka (heff▸List.prefix_rfl) hc hX hdc hin hXi hpre he;have hl:=hloc i e he m0 _ _ a w hrT hrS hr;have ho:ops[i]?=some ops[i]:=by simp[hin]
  unfold wpOpIn;simp only[ho];rw[heo]at hl;by_cases hw:Region.wanted ops[i] (yielded ops a.tmps)=true
  ·rw[A1 hw]at hl⊢
   exact If hl λa w h=>h.like ⟨hT,hS⟩
  ·rw[Ah hw]at hl⊢
   exact⟨λ_ _=>C9,hl.like ⟨hT,hS⟩⟩
theorem AWP.region_any{Q:Exit->St->Prop}{id:Nat}{l:List Oper}{st st':St}{effs:List Eff}(hm:P.follows .mixedOrders=true)(hr:Run P nt l.toArray l st effs st')(hc:E3 effs (Do l [])=true)(hdn:JY l 0=true)(hQ:Q .normal st'):AWP ro P nt (.region id l.toArray true) Q st:=by
 intro m0 a w hrel;obtain⟨h1,h2,h3⟩:=hr.spec;refine wpIn_region_any hm (Rc (m0:=m0) (st:=st) (effs:=effs) (by simpa using h2) h3 (by simpa using hc) (by simpa using hdn) (λa w h=>⟨st',by rw[h1];exact h,hQ⟩) _ _ a _ (by simp) ?_ ?_ ?_)
 ·intro j o hj hX
  have:j<l.length:=(AC.1 hj).1;simp[this]at hX
 ·exact CT (WQ _ _) (by simp)
 ·have:(λj=>(Array.replicate l.toArray.size false).getD j false)=λ_=>false:=by
   funext j
   simp only[Bl,Vn];split<;>rfl
  rw[this,Ij];exact hrel.draw _
theorem E8{Q:Exit->St->Prop}{id:Nat}{l:List Oper}{st:St}(h:AOps ro P nt l.toArray Q l st):AWP ro P nt (.region id l.toArray false) Q st:=
 λm0 a w hr=>wpIn_region_lit (h m0 a w hr)
end
end
section
open Go.RowKit
def NH(P:Program)(t:TypeId):Option Bool:=(P.underlying t).map λd=>match d with|.struct _|.array _ _=>true|_=>false
def tSz(P:Program)(t:TypeId):Option Nat:=(P.info? t).map (·.size)
section
variable {P:Program}{o:Oper}{xs:List (Operand×AV)}{rS:List (Nat×AK)}{v:AV}
theorem OpT.pure_(h:∀(m:Mem) (a:Act),(∀q∈xs,VV m q.2 (a.eval q.1) [])->(∀q∈rS,∃bs,ORel m q.2.1 q.2.2 bs)->∃u,(execOp a.eval o).run P m.w= .ok (.value u) m.w/\VV m v u []):OpT P o xs rS v []:=by
 intro nt m0 T S a w hx hS hd hr;obtain⟨m,N,Z,rfl,h2,h3,h4⟩:=hr
 obtain⟨u,h5,h6⟩:=h m a (λq hq=>h4.ev (hx q hq)) λq hq=>by
  have:=hS q hq;rw[<-show Z.map (·.1)=S from h2,Cn]at this;cases hz:Z[q.1]? with
  |none=>rw[hz]at this;cases this
  |some z=>
   rw[hz]at this;simp only[Au,AU]at this;exact⟨z.2,this▸h3.obj z (ND hz)⟩
 unfold Oper.wp;rw[h5];exact⟨m,N,Z,rfl,h2,h3,h4.put hd h6⟩
theorem VV.prim{m:Mem}{u v:Value}{bs:List Nat}(h:VV m (.prim u) v bs):v=u:=by obtain⟨⟨h,_⟩,_⟩:=h;injection h
theorem VV.prim1{m:Mem}{u v:Value}{bs:List Nat}(h:VV m (.prim u) v bs):u.oneCell'=true:=h.1.2
theorem Cc{m:Mem}(u:Value)(h:u.oneCell'=true:=by rfl):VV m (.prim u) u []:=⟨⟨rfl,h⟩,rfl⟩
variable {x y z:Operand}{t ty:TypeId}{pos:String}{after:Array Edge}{g:Option (Nat×Bool)}{dst:Option Tmp}{u u1 u2:Value}
theorem OpT.move:OpT P ⟨dst,.move x,ty,pos,after,g⟩ [(x,v)] [] v []:=
 .pure_ λm a hx _=>⟨a.eval x,rfl,hx (x,v) (by simp)⟩
theorem OpT.assign:OpT P ⟨dst,.assign x,ty,pos,after,g⟩ [(x,v)] [] v []:=
 .pure_ λm a hx _=>⟨a.eval x,rfl,hx (x,v) (by simp)⟩
def WC(b:Bool)(x y:AV):AV:=match b with
 |true=>x
 |false=>y
theorem OpT.pick{b:Bool}{va vb:AV}:OpT P ⟨dst,.pick x y z,ty,pos,after,g⟩ [(x,.prim (.bool b)),(y,va),(z,vb)] [] (WC b va vb) []:=
 .pure_ λm a hx _=>by
  have h1:=(hx _ (A4 ..)).prim;refine⟨if b then a.eval y else a.eval z,?_,?_⟩
  ·simp only at h1
   simp[execOp,h1,asBool,AI,AG,AA]
  ·cases b
   ·exact hx (z,vb) (by simp)
   ·exact hx (y,va) (by simp)
theorem OpT.pick_prim{b:Bool}:OpT P ⟨dst,.pick x y z,ty,pos,after,g⟩ [(x,.prim (.bool b)),(y,.prim u1),(z,.prim u2)] [] (.prim (if b then u1 else u2)) []:=
 .pure_ λm a hx _=>by
  have h1:=(hx _ (A4 ..)).prim;have h2:=(hx (y,.prim u1) (by simp)).prim;have h3:=(hx (z,.prim u2) (by simp)).prim;have h4:=(hx (y,.prim u1) (by simp)).prim1;have h5:=(hx (z,.prim u2) (by simp)).prim1;refine⟨if b then u1 else u2,?_,Cc _ (by cases b<;>simp[h4,h5])⟩;simp only at h1 h2 h3;simp[execOp,h1,h2,h3,asBool,AI,AG,AA]
theorem KL{α:Type}[BEq α][LawfulBEq α][DecidableEq α](a b:α):(a==b)=decide (a=b):=by
 by_cases h:a=b<;>simp[h]
variable {k:IntKind}{i j:Int}{bop:BinOp}{ty2:TypeId}
theorem Cx(ho:u.oneCell'=true)(h:∀w,(binOp bop t u1 u2).run P w= .ok u w)(hg:bop≠ .eql/\bop≠ .neq\/(∀c,u1≠ .agg c)/\u1≠ .nilIface):OpT P ⟨dst,.binOp bop t x y ty2,ty,pos,after,g⟩ [(x,.prim u1),(y,.prim u2)] [] (.prim u) []:=
 .pure_ λm a hx _=>by
  have h1:=(hx (x,.prim u1) (by simp)).prim;have h2:=(hx (y,.prim u2) (by simp)).prim;refine⟨u,?_,Cc _ ho⟩;simp only at h1 h2
  have hq:∀w,(eqGuard bop t x y u1 u2).run P w= .ok () w:=by
   intro w;unfold eqGuard;rcases hg with⟨h3,h4⟩|⟨h3,h4⟩
   ·cases bop<;>first|rfl|exact absurd rfl h3|exact absurd rfl h4
   ·cases u1<;>first|exact absurd rfl (h3 _)|exact absurd rfl h4|(cases bop<;>first|rfl|(cases u2<;>rfl))
  simp[execOp,h1,h2,AI,AG,AA,hq,h]
theorem I4:OpT P ⟨dst,.binOp .add t x y ty2,ty,pos,after,g⟩ [(x,.prim (.int k i)),(y,.prim (.int k j))] [] (.prim (.int k (k.wrap (i+j)))) []:=
 Cx rfl (λw=>by simp[binOp,Op.intArith,AG]) (.inl ⟨by simp,by simp⟩)
theorem GC:OpT P ⟨dst,.binOp .sub t x y ty2,ty,pos,after,g⟩ [(x,.prim (.int k i)),(y,.prim (.int k j))] [] (.prim (.int k (k.wrap (i-j)))) []:=
 Cx rfl (λw=>by simp[binOp,Op.intArith,AG]) (.inl ⟨by simp,by simp⟩)
theorem I3:OpT P ⟨dst,.binOp .mul t x y ty2,ty,pos,after,g⟩ [(x,.prim (.int k i)),(y,.prim (.int k j))] [] (.prim (.int k (k.wrap (i*j)))) []:=
 Cx rfl (λw=>by simp[binOp,Op.intArith,AG]) (.inl ⟨by simp,by simp⟩)
theorem E9(h1: -9223372036854775808<=i)(h2:i<=9223372036854775807):IntKind.i64.wrap i=i:=by
 have:IntKind.i64.wrap i=if(9223372036854775808:Int)<=i%18446744073709551616 then i%18446744073709551616-18446744073709551616 else i%18446744073709551616:=by
  simp[IntKind.wrap,IntKind.signed,IntKind.bits]
 rw[this];split<;>omega
theorem OpT.add(h1: -9223372036854775808<=i+j)(h2:i+j<=9223372036854775807):OpT P ⟨dst,.binOp .add t x y ty2,ty,pos,after,g⟩ [(x,.prim (.int .i64 i)),(y,.prim (.int .i64 j))] [] (.prim (.int .i64 (i+j))) []:=by
 have:=I4 (P:=P) (k:=.i64) (i:=i) (j:=j) (x:=x) (y:=y) (t:=t) (ty:=ty) (ty2:=ty2) (pos:=pos) (after:=after) (g:=g) (dst:=dst);rwa[E9 h1 h2]at this
theorem OpT.sub(h1: -9223372036854775808<=i-j)(h2:i-j<=9223372036854775807):OpT P ⟨dst,.binOp .sub t x y ty2,ty,pos,after,g⟩ [(x,.prim (.int .i64 i)),(y,.prim (.int .i64 j))] [] (.prim (.int .i64 (i-j))) []:=by
 have:=GC (P:=P) (k:=.i64) (i:=i) (j:=j) (x:=x) (y:=y) (t:=t) (ty:=ty) (ty2:=ty2) (pos:=pos) (after:=after) (g:=g) (dst:=dst);rwa[E9 h1 h2]at this
theorem OpT.mul(h1: -9223372036854775808<=i*j)(h2:i*j<=9223372036854775807):OpT P ⟨dst,.binOp .mul t x y ty2,ty,pos,after,g⟩ [(x,.prim (.int .i64 i)),(y,.prim (.int .i64 j))] [] (.prim (.int .i64 (i*j))) []:=by
 have:=I3 (P:=P) (k:=.i64) (i:=i) (j:=j) (x:=x) (y:=y) (t:=t) (ty:=ty) (ty2:=ty2) (pos:=pos) (after:=after) (g:=g) (dst:=dst);rwa[E9 h1 h2]at this
theorem OpT.rem(h:j≠0):OpT P ⟨dst,.binOp .rem t x y ty2,ty,pos,after,g⟩ [(x,.prim (.int k i)),(y,.prim (.int k j))] [] (.prim (.int k (i.tmod j))) []:=
 Cx rfl (λw=>by simp[binOp,Op.intDiv,h,AG]) (.inl ⟨by simp,by simp⟩)
theorem OpT.quo(h:j≠0):OpT P ⟨dst,.binOp .quo t x y ty2,ty,pos,after,g⟩ [(x,.prim (.int k i)),(y,.prim (.int k j))] [] (.prim (.int k (k.wrap (i.tdiv j)))) []:=
 Cx rfl (λw=>by simp[binOp,Op.intDiv,h,AG]) (.inl ⟨by simp,by simp⟩)
theorem OpT.lss:OpT P ⟨dst,.binOp .lss t x y ty2,ty,pos,after,g⟩ [(x,.prim (.int k i)),(y,.prim (.int k j))] [] (.prim (.bool (decide (i<j)))) []:=
 Cx rfl (λw=>by simp[binOp,Op.intCmp,AG]) (.inl ⟨by simp,by simp⟩)
theorem OpT.leq:OpT P ⟨dst,.binOp .leq t x y ty2,ty,pos,after,g⟩ [(x,.prim (.int k i)),(y,.prim (.int k j))] [] (.prim (.bool (decide (i<=j)))) []:=
 Cx rfl (λw=>by simp[binOp,Op.intCmp,AG]) (.inl ⟨by simp,by simp⟩)
theorem OpT.gtr:OpT P ⟨dst,.binOp .gtr t x y ty2,ty,pos,after,g⟩ [(x,.prim (.int k i)),(y,.prim (.int k j))] [] (.prim (.bool (decide (j<i)))) []:=
 Cx rfl (λw=>by simp[binOp,Op.intCmp,AG]) (.inl ⟨by simp,by simp⟩)
theorem OpT.geq:OpT P ⟨dst,.binOp .geq t x y ty2,ty,pos,after,g⟩ [(x,.prim (.int k i)),(y,.prim (.int k j))] [] (.prim (.bool (decide (j<=i)))) []:=
 Cx rfl (λw=>by simp[binOp,Op.intCmp,AG]) (.inl ⟨by simp,by simp⟩)
theorem OpT.eql_int:OpT P ⟨dst,.binOp .eql t x y ty2,ty,pos,after,g⟩ [(x,.prim (.int k i)),(y,.prim (.int k j))] [] (.prim (.bool (decide (i=j)))) []:=
 Cx rfl (λw=>by simp[binOp,Op.intCmp,AG,KL]) (.inr ⟨by simp,by simp⟩)
theorem OpT.neq_int:OpT P ⟨dst,.binOp .neq t x y ty2,ty,pos,after,g⟩ [(x,.prim (.int k i)),(y,.prim (.int k j))] [] (.prim (.bool (decide (i≠j)))) []:=
 Cx rfl (λw=>by simp[binOp,Op.intCmp,AG,bne,KL]) (.inr ⟨by simp,by simp⟩)
theorem HW(l:List UInt8):(⟨l.toArray⟩:ByteArray).toList=l:=by
 rw[ByteArray.toList_eq]
def EQ(l:List UInt8):Value:=.string ⟨l.toArray⟩
theorem OpT.eql_str{a b:List UInt8}:OpT P ⟨dst,.binOp .eql t x y ty2,ty,pos,after,g⟩ [(x,.prim (EQ a)),(y,.prim (EQ b))] [] (.prim (.bool (decide (a=b)))) []:=
 Cx rfl (λw=>by simp[binOp,Op.stringOp,AG,EQ,HW,KL]) (.inr ⟨by simp[EQ],by simp[EQ]⟩)
theorem OpT.neq_str{a b:List UInt8}:OpT P ⟨dst,.binOp .neq t x y ty2,ty,pos,after,g⟩ [(x,.prim (EQ a)),(y,.prim (EQ b))] [] (.prim (.bool (decide (a≠b)))) []:=
 Cx rfl (λw=>by simp[binOp,Op.stringOp,AG,EQ,HW,bne,KL]) (.inr ⟨by simp[EQ],by simp[EQ]⟩)
theorem OpT.not{b:Bool}:OpT P ⟨dst,.unOp .not t x,ty,pos,after,g⟩ [(x,.prim (.bool b))] [] (.prim (.bool !b)) []:=
 .pure_ λm a hx _=>by
  have h1:=(hx _ (A4 ..)).prim;simp only at h1;exact⟨_,by simp[execOp,h1,Op.unary,AI,AG,AA],Cc _⟩
theorem OpT.extract{l:List AV}{n:Nat}(h:l[n]?=some v):OpT P ⟨dst,.extract x n,ty,pos,after,g⟩ [(x,.tup l)] [] v []:=
 .pure_ λm a hx _=>by
  have hv:∀(l:List AV) (vs:List Value) (n:Nat) v,VTs m l vs []->l[n]?=some v->∃u,vs[n]?=some u/\VV m v u []:=by
   intro l
   induction l with
   |nil=>intro vs n v _ h;simp at h
   |cons b l ih=>
    intro vs n v hv h;obtain⟨u,vs',b1,b2,rfl,e,h1,h2⟩:=(B8 hv.ntup).1 hv;obtain⟨rfl,rfl⟩:b1=[]/\b2=[]:=by simpa using e.symm
    cases n with
    |zero=>simp at h;subst h;exact⟨u,rfl,h1⟩
    |succ n=>exact ih vs' n v h2 (by simpa using h)
  obtain⟨vs,e,hvs⟩:=hx _ (A4 ..);simp only at e;obtain⟨u,h1,h2⟩:=hv l _ n v hvs h;have h1':vs[n]?=some u:=by simpa using h1
  exact⟨u,by simp[execOp,e,Instr.extract,h1',AI,AG,AA],h2⟩
end
end
section
open Go.RowKit
def AV.cells:AV->List AV
 |.agg cs=>cs
 |a=>[a]
def MI:List AV->Bool
 |[]=>true
 |a::l=>Nat.beq a.width 1&&MI l
mutual
def AV.noOwn:AV->Bool
 |.agg cs|.tup cs|.fn _ cs=>EG cs
 |.lst o _ _ _=>!o
 |.bx .. =>false
 |.opt _ _=>true
 |_=>true
def EG:List AV->Bool
 |[]=>true
 |a::l=>a.noOwn&&EG l
end
def AV.stor:AV->Bool
 |.dead|.tup _|.opt .. =>false
 |_=>true
def AV.st1:AV->Bool
 |.dead|.agg _|.tup _|.opt .. =>false
 |_=>true
def DG:List AV->Bool
 |[]=>true
 |a::l=>a.st1&&DG l
def Vz:AV->Option AV
 |.agg _=>none
 |a=>some a
def VT:List AV->Option AV
 |[]=>none
 |a::_=>Vz a
def Fm(cs:List AV)(k n:Nat)(ag:Bool):Option AV:=
 match MI cs&&Nat.ble (k+n) cs.length&&EG ((cs.drop k).take n)with
 |false=>none
 |true=>match ag with
  |true=>some (.agg ((cs.drop k).take n))
  |false=>match Nat.beq n 1 with
   |true=>VT (cs.drop k)
   |false=>none
theorem Hj{cs:List AV}(h:MI cs=true):∀e∈cs,e.width=1:=by
 induction cs with
 |nil=>intro e he;cases he
 |cons a l ih=>
  simp only[MI,AE]at h;intro e he;rcases AW.1 he with rfl|he
  ·exact C5 h.1
  ·exact ih h.2 e he
mutual
theorem VC.noOwn{m:Mem}:(a:AV)->{c:List Value}->{bs:List Nat}->a.noOwn=true->VC m a c bs->bs=[]
 |.prim _,_,_,_,k=>k.2
 |.dead,_,_,_,k=>k.2
 |.agg cs,_,_,h,k=>VCs.noOwn cs h k
 |.tup cs,_,_,h,k=>k.elim
 |.opt _ _,_,_,h,k=>k.elim
 |.lst false ..,_,_,_,k=>k.1
 |.lst true ..,_,_,h,_=>by simp[AV.noOwn]at h
 |.bx ..,_,_,h,_=>by simp[AV.noOwn]at h
 |.sl ..,_,_,_,k=>k.1
 |.ptr ..,_,_,_,k=>k.1
 |.fp _,_,_,_,k=>k.1
 |.fn f cap,_,_,h,⟨_,_,k⟩=>VCs.noOwn cap h k
 |.mp _,_,_,_,k=>k.1
theorem VCs.noOwn{m:Mem}:(as:List AV)->{c:List Value}->{bs:List Nat}->EG as=true->VCs m as c bs->bs=[]
 |[],_,_,_,k=>k.2
 |a::as,_,_,h,⟨c1,c2,b1,b2,e1,e2,k1,k2⟩=>by
  simp only[EG,AE]at h;rw[e2,VC.noOwn a h.1 k1,VCs.noOwn as h.2 k2];rfl
theorem VTs.noOwn{m:Mem}:(as:List AV)->{c:List Value}->{bs:List Nat}->EG as=true->VTs m as c bs->bs=[]
 |[],_,_,_,k=>k.2
 |.agg cs::as,_,_,h,⟨c1,c2,b1,b2,e1,e2,k1,k2⟩=>by
  simp only[EG,AV.noOwn,AE]at h;rw[e2,VCs.noOwn cs h.1 k1,VTs.noOwn as h.2 k2];rfl
 |.prim u::as,_,_,h,⟨v,vs,b1,b2,e1,e2,k1,k2⟩=>by
  simp only[EG,AE]at h;rw[e2,k1.2,VTs.noOwn as h.2 k2];rfl
 |.dead::as,_,_,h,⟨v,vs,b1,b2,e1,e2,k1,k2⟩=>by
  simp only[EG,AE]at h;rw[e2,k1,VTs.noOwn as h.2 k2];rfl
 |.tup cs::as,_,_,h,⟨v,vs,b1,b2,e1,e2,k1,k2⟩=>by
  simp only[EG,AE]at h;exact k1.elim
 |.lst o t s l::as,_,_,h,⟨v,vs,b1,b2,e1,e2,k1,k2⟩=>by
  simp only[EG,AE]at h;rw[e2,VC.noOwn (.lst o t s l) h.1 k1,VTs.noOwn as h.2 k2];rfl
 |.bx t a::as,_,_,h,⟨v,vs,b1,b2,e1,e2,k1,k2⟩=>by simp[EG,AV.noOwn]at h
 |.sl x i j::as,_,_,h,⟨v,vs,b1,b2,e1,e2,k1,k2⟩=>by
  simp only[EG,AE]at h;rw[e2,k1.1,VTs.noOwn as h.2 k2];rfl
 |.ptr x i j::as,_,_,h,⟨v,vs,b1,b2,e1,e2,k1,k2⟩=>by
  simp only[EG,AE]at h;rw[e2,k1.1,VTs.noOwn as h.2 k2];rfl
 |.fp cs::as,_,_,h,⟨v,vs,b1,b2,e1,e2,k1,k2⟩=>by
  simp only[EG,AE]at h;rw[e2,k1.1,VTs.noOwn as h.2 k2];rfl
 |.fn f cap::as,_,_,h,⟨v,vs,b1,b2,e1,e2,k1,k2⟩=>by
  simp only[EG,AE]at h;rw[e2,VC.noOwn (.fn f cap) h.1 k1,VTs.noOwn as h.2 k2];rfl
 |.mp x::as,_,_,h,⟨v,vs,b1,b2,e1,e2,k1,k2⟩=>by
  simp only[EG,AE]at h;rw[e2,k1.1,VTs.noOwn as h.2 k2];rfl
 |.opt c b::as,_,_,h,⟨v,vs,b1,b2,e1,e2,k1,k2⟩=>k1.elim
end
section
variable {P:Program}{m:Mem}
theorem VC.cells{a:AV}{c:List Value}{bs:List Nat}(h:VC m a c bs):VCs m a.cells c bs:=by
 cases a
 case agg cs=>exact h
 all_goals exact VCs.one.2 h
theorem VV.vc{a:AV}{u:Value}{bs:List Nat}(h:VV m a u bs)(hs:a.stor=true):VC m a u.cells.toList bs:=by
 cases a
 case agg cs=>obtain⟨cells,rfl,h⟩:=h;exact h
 case dead=>simp[AV.stor]at hs
 case tup cs=>simp[AV.stor]at hs
 case opt c b=>simp[AV.stor]at hs
 all_goals
  have h:VC m _ [u] bs:=h;have h1:=VC.ones _ h u (by simp);have:u.cells=#[u]:=by cases u<;>first|rfl|simp[Value.oneCell']at h1
  rw[this];exact h
theorem VV.cells{a:AV}{u:Value}{bs:List Nat}(h:VV m a u bs)(hs:a.stor=true):VCs m a.cells u.cells.toList bs/\∀c∈u.cells.toList,c.oneCell'=true:=
 ⟨(h.vc hs).cells,VC.ones _ (h.vc hs)⟩
theorem F5{cs:List AV}{k n:Nat}{ag:Bool}{v:AV}(h:Fm cs k n ag=some v){c:List Value}{bs:List Nat}(hc:VCs m cs c bs):
  k+n<=c.length/\∃u,VV m v u []/\((ag=true/\u= .agg ((c.drop k).take n).toArray)\/(ag=false/\n=1/\c[k]?=some u)):=by
 unfold Fm at h;split at h
 ·cases h
 ·rename_i hb
  simp only[AE]at hb;obtain⟨⟨h1,h2⟩,h3⟩:=hb;have hw:=Hj h1;have hk:k+n<=cs.length:=Gb h2;have hcl:c.length=cs.length:=by rw[VCs.len _ hc,C6 (sz:=1) hw];omega
  obtain⟨p1,p2,rfl,_,hd⟩:=VCs.take (sz:=1) hw hc (k:=k) (by omega);have hw':∀e∈cs.drop k,e.width=1:=λe he=>hw e (Ae he)
  obtain⟨q1,q2,rfl,ht,_⟩:=VCs.take (sz:=1) hw' hd (k:=n) (by rw[Dd];omega);simp only[Nat.mul_one]at ht hd;have e0:=VCs.noOwn _ h3 ht;subst e0;refine⟨by omega,?_⟩;split at h
  ·injection h with h
   subst h;exact⟨_,⟨_,rfl,ht⟩,.inl ⟨rfl,rfl⟩⟩
  ·split at h
   ·rename_i hn1
    have hn1:=C5 hn1;subst hn1;cases hcs:cs.drop k with
    |nil=>rw[hcs]at h;cases h
    |cons a l=>
     rw[hcs]at h ht;rw[show(a::l).take 1=[a]from rfl,VCs.one]at ht;have hl:=VC.len _ ht;rw[hw' a (by rw[hcs];simp)]at hl;obtain⟨u,hu⟩:∃u,(c.drop k).take 1=[u]:=KM.1 hl;rw[hu]at ht
     have hv:a=v/\VV m a u []:=by
      cases a
      case agg cs=>cases h
      case dead=>exact⟨by injection h,rfl⟩
      case tup cs=>exact ht.elim
      case opt c b=>exact ht.elim
      all_goals exact⟨by injection h,ht⟩
     refine⟨u,hv.1▸hv.2,.inr ⟨rfl,rfl,?_⟩⟩;have:=G9 (λl:List Value=>l[0]?) hu;simpa[CZ,Ca]using this
   ·cases h
theorem Kl(w:World)(ty:TypeId){b off:Nat}{arr:Array Value}{t:TypeId}{r:Nat×Nat}(hb:w.heap[b]?=some (.cells arr t r)){c:List Value}(hc:∀j u,c[j]?=some u->arr[off+j]?=some u){ag:Bool}{n:Nat}(hA:NH P ty=some ag)(hn:tSz P ty=some n){u:Value}
  (hu:(ag=true/\n<=c.length/\u= .agg (c.take n).toArray)\/(ag=false/\c[0]?=some u)):(Instr.loadAt ty (.pointer (some ⟨b,off,none⟩))).run P w= .ok u w:=by
 have hcell:∀j u,c[j]?=some u->w.cell? ⟨b,off+j,none⟩=some u:=λj u hj=>by simp[World.cell?,hb,hc j u hj]
 unfold NH at hA;unfold tSz at hn;cases hd:P.underlying ty with
 |none=>rw[hd]at hA;cases hA
 |some d=>
  rw[hd]at hA;simp only[Au,AU]at hA;rcases hu with⟨rfl,hle,rfl⟩|⟨rfl,h0⟩
  ·refine run_loadAt_mid w b off ty (c.take n) d (λj u hj=>?_) hd ?_ ?_
   ·rw[CZ]at hj
    split at hj
    ·exact hcell j u hj
    ·cases hj
   ·cases d<;>first|rfl|cases hA
   ·rw[hn,CN,BJ hle]
  ·have hagg:(isAgg ty).run P w= .ok false w:=by
    unfold isAgg;rw[AI,A7 hd w];cases d<;>first|rfl|cases hA
   have hcl:=hcell 0 u h0;simp only[Dp]at hcl;simp[Instr.loadAt,Instr.sureAddr,loadVar,AI,AG,AA,hagg,load,Sem.run,hcl]
variable {o:Oper}{v:AV}{x y z:Operand}{t ty ty2:TypeId}{pos:String}{after:Array Edge}{g:Option (Nat×Bool)}{dst:Option Tmp}
theorem FM(b o j:Nat):(⟨b,o,none⟩:Addr).add j=⟨b,o+j,none⟩:=by unfold Addr.add;split<;>simp_all
theorem OpT.load_fp{cs:List AV}{ag:Bool}{n:Nat}(hA:NH P t=some ag)(hn:tSz P t=some n)(hp:Fm cs 0 n ag=some v):OpT P ⟨dst,.load t x,ty,pos,after,g⟩ [(x,.fp cs)] [] v []:=
 .pure_ λm a hx _=>by
  obtain⟨_,b,off,arr,t',r,e,hF,hb,hc⟩:=hx (x,.fp cs) (by simp);injection e with e
  simp only at e;obtain⟨h1,u,h2,h3⟩:=F5 hp hc;refine⟨u,?_,h2⟩
  have:=Kl (P:=P) m.w t hb (c:=(arr.toList.drop off).take (AV.widths cs)) (λj u hj=>by
   rw[CZ]at hj;split at hj
   ·simpa[Ca]using hj
   ·cases hj) hA hn (u:=u) (by
   rcases h3 with⟨h3,h4⟩|⟨h3,h4,h5⟩
   ·exact .inl ⟨h3,by omega,by simpa using h4⟩
   ·exact .inr ⟨h3,h5⟩)
  simp[execOp,e,AI,this,AG,AA]
theorem ORel.elem{X sz i:Nat}{l:List AV}{bs:List Nat}(h:ORel m X (.row t sz l) bs){e:AV}(hi:l[i]?=some e):∃L arr c p,m.μ X=some L/\L.sz=sz/\L.isNil=false/\i<L.cap/\m.w.heap[L.blk]?=some (.cells arr t (0,0))/\VC m e c p/\c.length=sz/\
  ∀j u,c[j]?=some u->arr[i*sz+j]?=some u:=by
 obtain⟨hu,L,h1,h2,h3⟩:=h;have hil:i<l.length:=(AC.1 hi).1;rcases h3 with⟨_,rfl,_⟩|⟨h3,arr,bs',e1,e2,e3,e4,e5,e6,e7⟩
 ·simp at hi
 ·obtain⟨c1,c2,c3,p1,p2,p3,hc,hp,hl1,hl2,_,hv,_⟩:=e7.get e6 hil
  have he:l[i]=e:=(AC.1 hi).2;rw[he]at hv;refine⟨L,arr,c2,p2,h1,h2,h3,by omega,e2,hv,hl2,λj u hj=>?_⟩;have hjl:j<c2.length:=(AC.1 hj).1
  have h4:(arr.toList.take (l.length*sz))[i*sz+j]?=some u:=by
   rw[hc,AF,BK (by omega),hl1,Nat.add_sub_cancel_left,B5 hjl,hj]
  rw[CZ]at h4;split at h4
  ·simpa using h4
  ·cases h4
theorem OpT.load{p X sz i k n:Nat}{l:List AV}{e:AV}{ag:Bool}(hA:NH P t=some ag)(hn:tSz P t=some n)(hi:l[i]?=some e)(hp:Fm e.cells k n ag=some v):OpT P ⟨dst,.load t x,ty,pos,after,g⟩ [(x,.ptr X i k)] [(p,(X,.row ty2 sz l))] v []:=
 .pure_ λm a hx hS=>by
  obtain⟨bs,hO⟩:=hS (p,(X,.row ty2 sz l)) (by simp);obtain⟨L,arr,c,q,h1,h2,_,_,hb,hv,hcl,hc⟩:=hO.elem hi;obtain⟨_,_,A,e1,h3⟩:=hx (x,.ptr X i k) (by simp);injection e1 with e1
  simp only at e1;rw[h3 L h1,h2]at e1;obtain⟨h4,u,h5,h6⟩:=F5 hp hv.cells;refine⟨u,?_,h5⟩
  have:=Kl (P:=P) m.w t hb (off:=i*sz+k) (c:=c.drop k) (λj u hj=>by
   rw[Jy];exact hc _ _ (by simpa[Ca]using hj)) hA hn (u:=u) (by
   rcases h6 with⟨h6,h7⟩|⟨h6,h7,h8⟩
   ·exact .inl ⟨h6,by rw[Dd];omega,h7⟩
   ·exact .inr ⟨h6,by simpa[Ca]using h8⟩)
  simp[execOp,e1,AI,this,AG,AA]
def PL(P:Program)(s:TypeId)(f:Nat):Option (Nat×TypeId):=match P.underlying s with
 |some (.struct fs)=>(fs[f]?).map λf=>(f.offset,f.type)
 |_=>none
def Dn(P:Program)(t:TypeId):Option TypeId:=match P.underlying t with
 |some (.slice e)=>some e
 |_=>none
theorem MU{s:TypeId}{f off:Nat}{ft:TypeId}(h:PL P s f=some (off,ft)):∃fs,P.underlying s=some (.struct fs)/\∃fi:Go.Field,fs[f]?=some fi/\fi.offset=off/\fi.type=ft:=by
 unfold PL at h;split at h
 ·rename_i fs hs
  cases hf:fs[f]? with
  |none=>rw[hf]at h;cases h
  |some fi=>
   rw[hf]at h;simp only[Au,AU,DT]at h;exact⟨fs,hs,fi,hf,h.1,h.2⟩
 ·cases h
theorem CB{t e:TypeId}(h:Dn P t=some e):P.underlying t=some (.slice e):=by
 unfold Dn at h;split at h
 ·rename_i e' he;injection h with h;subst h;exact he
 ·cases h
theorem Ec{t:TypeId}{n:Nat}(h:tSz P t=some n)(w:World):(sizeOf t).run P w= .ok n w:=by
 unfold tSz at h;cases hi:P.info? t with
 |none=>rw[hi]at h;cases h
 |some i=>
  rw[hi]at h;simp only[Au,AU]at h;simp[sizeOf,typeInfo,hi,h,AI,AG,AA]
theorem Ma{t:TypeId}{b:Bool}(h:NH P t=some b)(w:World):(isAgg t).run P w= .ok b w:=by
 unfold NH at h;cases hd:P.underlying t with
 |none=>rw[hd]at h;cases h
 |some d=>
  rw[hd]at h;simp only[Au,AU]at h;unfold isAgg;rw[AI,A7 hd w];subst h;cases d<;>rfl
theorem Jk{s:TypeId}{f off n:Nat}{ft:TypeId}(h:PL P s f=some (off,ft))(hn:tSz P ft=some (n+1))(b o:Nat)(w:World):(Instr.fieldAt s (.pointer (some ⟨b,o,none⟩)) f).run P w= .ok (.pointer (some ⟨b,o+off,none⟩)) w:=by
 obtain⟨fs,h1,fi,h2,rfl,rfl⟩:=MU h;simp[Instr.fieldAt,A7 h1,h2,Instr.sureAddr,fieldPlace,Ec hn,AI,AG,AA,FM]
theorem OpT.fieldAddr{X i k f off n:Nat}{ft:TypeId}{p sz:Nat}{l:List AV}{t':TypeId}(h:PL P t f=some (off,ft))(hn:tSz P ft=some (n+1))(hi:i<l.length):OpT P ⟨dst,.fieldAddr t x f,ty,pos,after,g⟩ [(x,.ptr X i k)] [(p,(X,.row t' sz l))] (.ptr X i (k+off)) []:=
 .pure_ λm a hx hS=>by
  obtain⟨bs,hO⟩:=hS (p,(X,.row t' sz l)) (by simp);obtain⟨L,arr,c,q,h1,h2,_⟩:=hO.elem (Cf hi);obtain⟨_,hU,A,e1,h3⟩:=hx (x,.ptr X i k) (by simp);injection e1 with e1
  simp only at e1;rw[h3 L h1]at e1;refine⟨.pointer (some ⟨L.blk,i*L.sz+(k+off),none⟩),?_,rfl,hU,_,rfl,λL' hL'=>?_⟩
  ·simp[execOp,e1,AI,Jk h hn,AG,AA,Jy]
  ·rw[h1]at hL';injection hL' with hL';subst hL';rfl
theorem UL{cs:List AV}{c:List Value}{bs:List Nat}(hf:MI cs=true)(k:Nat)(h:VCs m cs c bs)(hb:bs=[]):VCs m (cs.drop k) (c.drop k) []/\AV.widths (cs.drop k)=(cs.drop k).length/\AV.widths cs=cs.length:=by
 subst hb;have hw:=Hj hf;have e1:AV.widths cs=cs.length:=by rw[C6 (sz:=1) hw];omega
 have e2:AV.widths (cs.drop k)=(cs.drop k).length:=by rw[C6 (sz:=1) λe he=>hw e (Ae he)];omega
 refine⟨?_,e2,e1⟩;rcases Ga cs.length k with hk|hk
 ·have hl:=VCs.len _ h
  rw[BP (by omega),BP (by omega)];exact VCs.nil
 ·obtain⟨p1,p2,e,_,hd⟩:=VCs.take (sz:=1) hw h hk
  obtain⟨rfl,rfl⟩:p1=[]/\p2=[]:=by simpa using e.symm
  simpa using hd
theorem OpT.fieldAddr_fp{cs:List AV}{f off n:Nat}{ft:TypeId}(h:PL P t f=some (off,ft))(hn:tSz P ft=some (n+1))(hf:MI cs=true):OpT P ⟨dst,.fieldAddr t x f,ty,pos,after,g⟩ [(x,.fp cs)] [] (.fp (cs.drop off)) []:=
 .pure_ λm a hx _=>by
  obtain⟨_,b,o,arr,t',r,e,hF,hb,hc⟩:=hx (x,.fp cs) (by simp);injection e with e
  simp only at e;obtain⟨h1,h2,h3⟩:=UL hf off hc rfl;refine⟨.pointer (some ⟨b,o+off,none⟩),?_,rfl,b,o+off,arr,t',r,rfl,hF,hb,?_⟩
  ·simp[execOp,e,AI,Jk h hn,AG,AA]
  ·rw[h3]at h1
   rw[h2]
   have:(arr.toList.drop (o+off)).take (cs.drop off).length=((arr.toList.drop o).take cs.length).drop off:=by
    rw[Ee,Dr,Dd]
   rw[this];exact h1
theorem OpT.field{cs:List AV}{f off n:Nat}{ag:Bool}{ft:TypeId}(h:PL P t f=some (off,ft))(hA:NH P ft=some ag)(hn:tSz P ft=some n)(hp:Fm cs off n ag=some v):OpT P ⟨dst,.field t x f,ty,pos,after,g⟩ [(x,.agg cs)] [] v []:=
 .pure_ λm a hx _=>by
  obtain⟨cells,e,hc⟩:=hx (x,.agg cs) (by simp);simp only at e;obtain⟨fs,h1,fi,h2,rfl,rfl⟩:=MU h;obtain⟨h4,u,h5,h6⟩:=F5 hp hc;refine⟨u,?_,h5⟩
  have:∀w,(part fi.type cells fi.offset).run P w= .ok u w:=by
   intro w;rcases h6 with⟨rfl,rfl⟩|⟨rfl,rfl,h7⟩
   ·simp only[part,AI,Ma hA,Ec hn,AA,GK,AG]
    congr 2
    apply Array.ext';simp[Ee]
   ·have h7':cells[fi.offset]?=some u:=by simpa using h7
    simp[part,AI,Ma hA,AA,h7',AG]
  simp[execOp,e,Instr.field,A7 h1,h2,asAgg,AI,this,AG,AA]
theorem OpT.indexAddr{k:IntKind}{X off len i j:Nat}{q:Int}{p sz:Nat}{l:List AV}{t' te:TypeId}(h:Dn P t=some te)(hn:tSz P te=some sz)(hq:q=(i:Int))(hi:i<len)(hj:off+i=j):OpT P ⟨dst,.indexAddr t x y,ty,pos,after,g⟩ [(x,.sl X off len),(y,.prim (.int k q))] [(p,(X,.row t' sz l))] (.ptr X j 0) []:=
 .pure_ λm a hx hS=>by
  obtain⟨bs,hU,L,h1,h2,_⟩:=hS (p,(X,.row t' sz l)) (by simp);obtain⟨_,hU',A,c,e1,h3⟩:=hx (x,.sl X off len) (by simp);have hy:=(hx (y,.prim (.int k q)) (by simp)).prim;injection e1 with e1
  simp only at e1 hy;subst hq hj;rcases h3 L h1 with⟨_,_,_,e⟩|⟨_,h4,o,e,h5⟩
  ·omega
  ·injection e with e2 e3 e4
   have ho:=h5 (.inl (by omega));refine⟨.pointer (some ⟨L.blk,(off+i)*L.sz+0,none⟩),?_,rfl,hU,_,rfl,λL' hL'=>?_⟩
   ·have hlt:(0:Int)<=(i:Int)/\(i:Int)<(len:Int):=by omega
    simp only[h2]at*;simp[execOp,e1,hy,Instr.indexAt,asIntOf,A7 (CB h),e2,hlt,Ec hn,AI,AG,AA,FM,ho,CW,hi]
   ·rw[h1]at hL';injection hL' with hL';subst hL';rfl
theorem OpT.indexAddr_lst{k:IntKind}{i:Nat}{q:Int}{sz:Nat}{l:List AV}{t' te:TypeId}{e:AV}(h:Dn P t=some te)(hn:tSz P te=some sz)(hq:q=(i:Int))(hi:l[i]?=some e):OpT P ⟨dst,.indexAddr t x y,ty,pos,after,g⟩ [(x,.lst false t' sz l),(y,.prim (.int k q))] [] (.fp e.cells) []:=
 .pure_ λm a hx _=>by
  have hil:i<l.length:=(AC.1 hi).1;have he:l[i]=e:=(AC.1 hi).2;obtain⟨_,A,cap,e1,h3,hw,h4⟩:=hx (x,.lst false t' sz l) (by simp);obtain⟨b,off,arr,tt,r,rfl,hF,hb,hc⟩:=h4 (by omega);have hy:=(hx (y,.prim (.int k q)) (by simp)).prim;injection e1 with e1
  simp only at e1 hy;subst hq;obtain⟨c1,c2,c3,p1,p2,p3,hcc,hp,hl1,hl2,_,hv,_⟩:=hc.get hw hil;rw[he]at hv
  have e0:p2=[]:=by
   have:=hp.symm;simp at this;exact this.2.1
  subst e0;refine⟨.pointer (some ⟨b,off+i*sz,none⟩),?_,rfl,b,off+i*sz,arr,tt,r,rfl,hF,hb,?_⟩
  ·have hlt:(0:Int)<=(i:Int)/\(i:Int)<(l.length:Int):=by omega
   simp[execOp,e1,hy,Instr.indexAt,asIntOf,A7 (CB h),hlt,Ec hn,AI,AG,AA,FM,hil]
  ·have hwc:AV.widths e.cells=sz:=by
    rw[<-VCs.len _ hv.cells,hl2]
   have:(arr.toList.drop (off+i*sz)).take (AV.widths e.cells)=c2:=by
    have h5:((arr.toList.drop off).take (l.length*sz)).drop (i*sz)=c2++c3:=by
     rw[hcc,AF,Hs hl1]
    rw[Ee,Dr]at h5;have h6:((arr.toList.drop (off+i*sz)).take (l.length*sz-i*sz)).take sz=c2:=by rw[h5,Cy hl2]
    rw[Cj]at h6;rw[hwc];rwa[BJ]at h6;rw[<-Nat.sub_mul];exact Nat.le_mul_of_pos_left _ (by omega)
   rw[this];exact hv.cells
theorem CK(ρ:Operand->Value)(b:Builtin)(args:Array Operand)(ats:Array TypeId)(w:World):(execOp ρ ⟨dst,.call ⟨.builtin b,args,ats⟩,ty,pos,after,g⟩).run P w=(builtin b ats ty (args.map λ|.const _=>true|_=>false) (args.map ρ)).run P w:=by
 simp[execOp,resolve,invoke,AI,AG,AA];rfl
theorem N7(l:List UInt8):(⟨l.toArray⟩:ByteArray).size=l.length:=by show l.toArray.size=l.length;simp
theorem OpT.len_sl{X off len:Nat}{te:TypeId}(h:Dn P t=some te):OpT P ⟨dst,.call ⟨.builtin .len,#[x],#[t]⟩,ty,pos,after,g⟩ [(x,.sl X off len)] [] (.prim (.int .i64 (len:Int))) []:=
 .pure_ λm a hx _=>by
  obtain⟨_,hU',A,c,e1,h3⟩:=hx (x,.sl X off len) (by simp);injection e1 with e1
  simp only at e1;refine⟨_,?_,Cc _⟩;rw[CK];simp[builtin,Builtin.len_,e1,A7 (CB h),AI,AG,AA,goInt]
theorem OpT.len_lst{o:Bool}{t' te:TypeId}{sz:Nat}{l:List AV}(h:Dn P t=some te):OpT P ⟨dst,.call ⟨.builtin .len,#[x],#[t]⟩,ty,pos,after,g⟩ [(x,.lst false t' sz l)] [] (.prim (.int .i64 (l.length:Int))) []:=
 .pure_ λm a hx _=>by
  obtain⟨_,A,cap,e1,_⟩:=hx (x,.lst false t' sz l) (by simp);injection e1 with e1
  simp only at e1;refine⟨_,?_,Cc _⟩;rw[CK];simp[builtin,Builtin.len_,e1,A7 (CB h),AI,AG,AA,goInt]
theorem OpT.len_nil{te:TypeId}(h:Dn P t=some te):OpT P ⟨dst,.call ⟨.builtin .len,#[x],#[t]⟩,ty,pos,after,g⟩ [(x,.prim (.slice none 0 0))] [] (.prim (.int .i64 0)) []:=
 .pure_ λm a hx _=>by
  have e1:=(hx (x,.prim (.slice none 0 0)) (by simp)).prim;simp only at e1;refine⟨_,?_,Cc _⟩;rw[CK];simp[builtin,Builtin.len_,e1,A7 (CB h),AI,AG,AA,goInt]
theorem OpT.len_str{l:List UInt8}(h:P.underlying t=some .string):OpT P ⟨dst,.call ⟨.builtin .len,#[x],#[t]⟩,ty,pos,after,g⟩ [(x,.prim (EQ l))] [] (.prim (.int .i64 (l.length:Int))) []:=
 .pure_ λm a hx _=>by
  have e1:=(hx (x,.prim (EQ l)) (by simp)).prim;simp only at e1;refine⟨_,?_,Cc _⟩;rw[CK];simp[builtin,Builtin.len_,e1,EQ,A7 h,AI,AG,AA,goInt,N7]
theorem OpT.index_str{k:IntKind}{l:List UInt8}{i:Nat}{q:Int}(h:P.underlying t=some .string)(hq:q=(i:Int))(hi:i<l.length):OpT P ⟨dst,.index t x y,ty,pos,after,g⟩ [(x,.prim (EQ l)),(y,.prim (.int k q))] [] (.prim (.int .u8 (l[i].toNat:Int))) []:=
 .pure_ λm a hx _=>by
  have e1:=(hx (x,.prim (EQ l)) (by simp)).prim;have hy:=(hx (y,.prim (.int k q)) (by simp)).prim;simp only at e1 hy;subst hq;refine⟨_,?_,Cc _⟩
  have:(ByteArray.mk l.toArray)[i]?=some l[i]:=by
   have:i<(ByteArray.mk l.toArray).size:=by rw[N7];exact hi
   rw[getElem?_pos (ByteArray.mk l.toArray) i this];rfl
  simp[execOp,e1,hy,EQ,Instr.index,asIntOf,A7 h,this,AI,AG,AA]
theorem OpT.makeFunc{f:FuncId}{xs:List (Operand×AV)}(h1:DG (xs.map (·.2))=true):OpT P ⟨dst,.makeFunc (.func f) #[] (xs.map (·.1)).toArray,ty,pos,after,g⟩ xs [] (.fn f (xs.map (·.2))) []:=
 .pure_ λm a hx _=>by
  have hv:∀xs:List (Operand×AV),DG (xs.map (·.2))=true->(∀q∈xs,VV m q.2 (a.eval q.1) [])->VCs m (xs.map (·.2)) (xs.map λq=>a.eval q.1) []:=by
   intro xs
   induction xs with
   |nil=>intro _ _;exact VCs.nil
   |cons q xs ih=>
    intro hs hx;simp only[AR,DG,AE]at hs;have h0:=hx q (by simp)
    have h1:VC m q.2 [a.eval q.1] []:=by
     rcases hq:q.2<;>rw[hq]at h0 hs<;>first|exact h0|(simp[AV.st1]at hs)
    exact⟨[a.eval q.1],_,[],[],rfl,rfl,h1,ih hs.2 λq' hq'=>hx q' (by simp[hq'])⟩
  refine⟨.func (.func f) #[] (xs.map λq=>a.eval q.1).toArray,?_,(xs.map λq=>a.eval q.1).toArray,rfl,by simpa using hv xs h1 hx⟩;simp[execOp,Instr.makeFunc,AI,AG,AA]
theorem OpT.nilCheck_fp{cs:List AV}:OpT P ⟨dst,.nilCheck x,ty,pos,after,g⟩ [(x,.fp cs)] [] (.fp cs) []:=
 .pure_ λm a hx _=>by
  have h0:=hx (x,.fp cs) (by simp);obtain⟨_,b,o,arr,t',r,e,_⟩:=id h0;injection e with e
  simp only at e;refine⟨a.eval x,?_,h0⟩;simp[execOp,e,AG]
theorem OpT.nilCheck{X i k p sz:Nat}{t':TypeId}{l:List AV}(hi:i<l.length):OpT P ⟨dst,.nilCheck x,ty,pos,after,g⟩ [(x,.ptr X i k)] [(p,(X,.row t' sz l))] (.ptr X i k) []:=
 .pure_ λm a hx hS=>by
  obtain⟨bs,hO⟩:=hS (p,(X,.row t' sz l)) (by simp);obtain⟨L,arr,c,q,h1,h2,_⟩:=hO.elem (Cf hi);have h0:=hx (x,.ptr X i k) (by simp);obtain⟨_,hU,A,e1,h3⟩:=id h0;injection e1 with e1
  simp only at e1;rw[h3 L h1]at e1;refine⟨a.eval x,?_,h0⟩;simp[execOp,e1,AG]
end
end
section
open Go.RowKit
section
variable {P:Program}{m0 m:Mem}{N:Nat}{R:Zs}{ex:List Nat}{X:Nat}{t:TypeId}{sz:Nat}{l:List AV}
theorem JM(z:AK×List Nat)(R:Zs):Zs.keys (z::R)=z.1.1::R.keys:=rfl
theorem CF(z:AK×List Nat)(R:Zs):Zs.own (z::R)=z.2++R.own:=rfl
theorem Gi(z:AK×List Nat):Zs.own [z]=z.2:=by simp[Zs.own]
theorem Lq{bs0:List Nat}(G:Good m0 m N (((X,.gone),bs0)::R) ex){arr:Array Value}{cap:Nat}(hv:VCs m l (arr.toList.take (l.length*sz)) [])(harr:arr.size=cap*sz)(hl:l.length<=cap)(hcap:cap<=maxLen)(hw:∀e∈l,e.width=sz)(m':Mem)
  (hm':m'=⟨λy=>if y=X then some ⟨m.w.heap.size,cap,sz,false⟩else m.μ y,λy=>m.U y\/y=X,m.w.alloc (.cells arr t),m.F⟩):
  Good m0 m' N (((X,.row t sz l),[m.w.heap.size])::R) ex/\m.Le m':=by
 subst hm';obtain⟨rfl,hU⟩:=G.obj _ (A4 ..);have hXN:=G.keyN X (by simp[JM])
 have hle:m.Le ⟨λy=>if y=X then some ⟨m.w.heap.size,cap,sz,false⟩else m.μ y,λy=>m.U y\/y=X,m.w.alloc (.cells arr t),m.F⟩:=by
  refine⟨λy h=>.inl h,λy L hy hL=>?_,λb hb=>⟨hb,Dz _ _ _ (G.frz b hb)⟩⟩;simp only at hL;split at hL
  ·rename_i e;subst e;exact absurd hy hU
  ·exact hL
 refine⟨?_,hle⟩;have ownex:=G.own;rw[CF,EN]at ownex;refine Good.swap (zs:=[((X,.gone),[])]) (zs':=[((X,.row t sz l),[m.w.heap.size])]) G hle (AP _) ?_ ?_ ?_ ?_ ?_ ?_ ?_ ?_ ?_ rfl rfl rfl (by simp)
 ·intro y hy _
  have hne:y≠X:=by intro e;apply hy;simp[Zs.keys,e]
  simp[hne]
 ·intro b hb _ _
  exact Dz _ _ _ hb
 ·intro z hz
  simp only[AS]at hz;subst hz;refine⟨.inr rfl,⟨m.w.heap.size,cap,sz,false⟩,by simp,rfl,.inr ⟨rfl,arr,[],rfl,?_,harr,hl,hcap,hw,VCs.mono hle l (by simp) hv⟩⟩;exact V8 m.w _
 ·rw[Gi]
  refine AL.2 ⟨by simp,(AL.1 ownex).2.1,λb hb c hc e=>?_⟩;simp only[AS]at hb;have:=(G.blk c (by simp[hc])).1;omega
 ·intro b hb
  rw[Gi]at hb⊢;rcases AN.1 hb with hb|hb
  ·simp only[AS]at hb
   subst hb;exact⟨by simp,λhF=>HA _ (G.frz _ hF),.inr (.inr (AP _))⟩
  ·have:=G.blk b (by simp[hb])
   exact⟨by have:=this.1;simp;omega,this.2,.inr (.inl hb)⟩
 ·intro b hb
  exact⟨by have:=G.frz b hb;simp;omega,.inl hb⟩
 ·simp[Zs.keys]
 ·intro y hy
  simp[Zs.keys]at hy⊢;subst hy;exact⟨hXN,.inl rfl⟩
 ·intro y hy
  simp[Zs.keys];rcases hy with hy|rfl
  ·exact⟨G.usedN y hy,.inl hy⟩
  ·exact⟨hXN,.inr (.inl rfl)⟩
theorem Ia{l':List AV}{bs:List Nat}(G:Good m0 m N (((X,.row t sz l),bs)::R) ex){L:Loc}{arr arr':Array Value}{bs0 bs1:List Nat}(hL:m.μ X=some L)(hnil:L.isNil=false)(hbs:bs=L.blk::bs0)(hb:m.w.heap[L.blk]?=some (.cells arr t (0,0)))
  (harr:arr'.size=L.cap*sz) (hl:l'.length<=L.cap) (hcap:L.cap<=maxLen) (hsz:L.sz=sz) (hw:∀e∈l',e.width=sz) (hv:VCs m l' (arr'.toList.take (l'.length*sz)) bs1) (hsub:∀b∈bs1,b∈bs0) (hnd:bs1.Nodup) (m':Mem) (hm':m'={m with w:=m.w.setRow L.blk arr'}):
  Good m0 m' N (((X,.row t sz l'),L.blk::bs1)::R) ex/\m.Le m':=by
 subst hm';have hU:=(G.obj _ (A4 ..)).1;subst hbs;have ownex:=G.own;rw[CF]at ownex
 have hg:L.blk∉bs0:=by
  rw[AF]at ownex;exact(Bs.1 (AL.1 ownex).1).1
 have hgF:=(G.blk L.blk (by simp[CF])).2;have hle:m.Le {m with w:=m.w.setRow L.blk arr'}:=⟨λ_ h=>h,λ_ _ _ h=>h,λb hb'=>⟨hb',setRow_other _ _ _ _ (λe=>hgF (e▸hb'))⟩⟩;have hlt:L.blk<m.w.heap.size:=lt_of_block hb;have hsize:(m.w.setRow L.blk arr').heap.size=m.w.heap.size:=by simp[World.setRow]
 refine⟨?_,hle⟩;refine Good.swap (zs:=[((X,.row t sz l),L.blk::bs0)]) (zs':=[((X,.row t sz l'),L.blk::bs1)]) G hle (AP _) (λ_ _ _=>rfl) ?_ ?_ ?_ ?_ ?_ ?_ ?_ ?_ rfl rfl rfl (by rw[show({m with w:=m.w.setRow L.blk arr'}:Mem).w=m.w.setRow L.blk arr' from rfl,hsize];exact AP _)
 ·intro b _ hb' _
  rw[Gi]at hb';exact setRow_other _ _ _ _ (λe=>hb' (by simp[e]))
 ·intro z hz
  simp only[AS]at hz;subst hz;refine⟨hU,L,hL,hsz,.inr ⟨hnil,arr',bs1,rfl,setRow_heap _ _ _ _ _ _ hb,harr,hl,hcap,hw,VCs.mono hle l' ?_ hv⟩⟩;intro b hb';exact setRow_other _ _ _ _ (λe=>hg (e▸hsub b hb'))
 ·rw[Gi]
  have h1:((L.blk::bs0)++ex).Nodup:=by
   have hp:((L.blk::bs0)++R.own++ex).Perm (((L.blk::bs0)++ex)++R.own):=by
    rw[AF,AF];exact BO _ Aw
   exact(AL.1 (hp.nodup_iff.1 ownex)).1
  obtain⟨h2,h3,h4⟩:=AL.1 h1;refine AL.2 ⟨Bs.2 ⟨λh=>hg (hsub _ h),hnd⟩,h3,λb hb' c hc=>h4 b ?_ c hc⟩;rcases AW.1 hb' with rfl|hb'
  ·simp
  ·simp[hsub b hb']
 ·intro b hb'
  rw[Gi]at hb'⊢
  have hin:b∈(L.blk::bs0)\/b∈ex:=by
   rcases AN.1 hb' with h|h
   ·rcases AW.1 h with rfl|h
    ·simp
    ·simp[hsub b h]
   ·exact .inr h
  have hbl:b<m.w.heap.size/\¬m.F b:=by
   rcases hin with h|h
   ·exact G.blk b (by rw[CF];exact AN.2 (.inl (AN.2 (.inl h))))
   ·exact G.blk b (by simp[h])
  refine⟨?_,hbl.2,?_⟩
  ·show b<(m.w.setRow L.blk arr').heap.size
   rw[hsize];exact hbl.1
  ·rcases hin with h|h
   ·exact .inl h
   ·exact .inr (.inl h)
 ·intro b hb'
  refine⟨?_,.inl hb'⟩;show b<(m.w.setRow L.blk arr').heap.size
  rw[hsize];exact G.frz b hb'
 ·simp[Zs.keys]
 ·intro y hy
  have:y=X:=by simpa[Zs.keys]using hy
  subst this;exact⟨G.keyN y (by simp[JM]),.inl (by simp[Zs.keys])⟩
 ·intro y hy
  exact⟨G.usedN y hy,.inl hy⟩
variable {o:Oper}{v:AV}{x y z:Operand}{ty ty2 t':TypeId}{pos:String}{after:Array Edge}{g:Option (Nat×Bool)}{dst:Option Tmp}{xs:List (Operand×AV)}{p:Nat}
theorem OpT.new_(h:∀(m:Mem) (a:Act),(∀q∈xs,VV m q.2 (a.eval q.1) [])->∃arr cap u,(execOp a.eval o).run P m.w= .ok (.value u) (m.w.alloc (.cells arr t))/\arr.size=cap*sz/\l.length<=cap/\cap<=maxLen/\(∀e∈l,e.width=sz)/\VCs m l (arr.toList.take (l.length*sz)) []/\
   ((v= .ptr X 0 0/\u= .pointer (some ⟨m.w.heap.size,0,none⟩))\/∃len,v= .sl X 0 len/\len<=cap/\u= .slice (some ⟨m.w.heap.size,0,none⟩) len cap)):OpT P o xs [(p,(X,.gone))] v [(p,(X,.row t sz l))]:=by
 intro nt m0 T S a w hx hS hd hr;obtain⟨m,N,Z,rfl,h2,h3,h4⟩:=hr;have h2':Z.map (·.1)=S:=h2;obtain⟨arr,cap,u,h5,h6,h7,h8,h9,h10,h11⟩:=h m a (λq hq=>h4.ev (hx q hq));have hSp:=hS (p,(X,.gone)) (by simp);rw[<-h2',Cn]at hSp;cases hz:Z[p]? with
 |none=>rw[hz]at hSp;cases hSp
 |some z=>
  rw[hz]at hSp;simp only[Au,AU]at hSp;obtain⟨z1,z2⟩:=z;simp only at hSp;subst hSp;obtain⟨R,hp1,hp2⟩:=DC hz;obtain⟨G',hle⟩:=Lq (t:=t) (h3.perm hp1) h10 h6 h7 h8 h9 _ rfl;unfold Oper.wp;rw[h5];refine⟨_,N,Z.set p ((X,.row t sz l),[m.w.heap.size]),rfl,?_,G'.perm (hp2 _).symm,(h4.mono hle).put hd ?_⟩
  ·rw[A8,h2'];rfl
  ·rcases h11 with⟨rfl,rfl⟩|⟨len,rfl,hlen,rfl⟩
   ·refine⟨rfl,.inr rfl,_,rfl,λL hL=>?_⟩
    simp only[GK,AU]at hL;subst hL;simp
   ·refine⟨rfl,.inr rfl,_,_,rfl,λL hL=>?_⟩
    simp only[GK,AU]at hL;subst hL;exact .inr ⟨rfl,by simpa using hlen,0,by simp,λ_=>by simp⟩
theorem OpT.box(hs:v.stor=true):OpT P ⟨dst,.box t x,ty,pos,after,g⟩ [(x,v)] [(p,(X,.gone))] (.ptr X 0 0) [(p,(X,.row t v.width [v]))]:=
 .new_ λm a hx=>by
  have h2:VC m v (a.eval x).cells.toList []:=VV.vc (hx (x,v) (by simp)) hs;have hl:=VC.len _ h2;refine⟨(a.eval x).cells,1,.pointer (some ⟨m.w.heap.size,0,none⟩),?_,by simpa using hl,by simp,by decide,by simp,?_,.inl ⟨rfl,rfl⟩⟩
  ·simp[execOp,Instr.box,newVar,newRow,newObj,AI,Sem.run,AA]
  ·rw[Al (by simp at hl⊢;omega)]
   exact VCs.one.2 h2
def ones:List Value->Bool
 |[]=>true
 |u::l=>u.oneCell'&&ones l
theorem Me{l:List Value}(h:ones l=true):∀u∈l,u.oneCell'=true:=by
 induction l with
 |nil=>intro u hu;cases hu
 |cons a l ih=>
  simp only[ones,AE]at h;intro u hu;rcases AW.1 hu with rfl|hu
  ·exact h.1
  ·exact ih h.2 u hu
def tZ(P:Program)(t:TypeId):Option (List Value):=(P.info? t).bind λi=>i.zero.bind λz=>match ones z.cells.toList with|true=>some z.cells.toList|false=>none
def zAV(zl:List Value)(ag:Bool):AV:=match ag,zl with
 |false,u::_=>.prim u
 |_,zl=>.agg (zl.map .prim)
theorem IB(m:Mem){zl:List Value}{ag:Bool}(h1:∀u∈zl,u.oneCell'=true)(h:ag=true\/zl.length=1):VC m (zAV zl ag) zl []:=by
 cases ag
 ·rcases h with h|h
  ·cases h
  ·obtain⟨u,rfl⟩:=KM.1 h
   exact⟨⟨rfl,h1 u (by simp)⟩,rfl⟩
 ·exact He m zl h1
theorem Ih{t:TypeId}{zl:List Value}(h:tZ P t=some zl):∃i zv,P.info? t=some i/\i.zero=some zv/\zv.cells.toList=zl/\∀u∈zl,u.oneCell'=true:=by
 unfold tZ at h;cases hi:P.info? t with
 |none=>rw[hi]at h;cases h
 |some i=>
  rw[hi]at h;simp only[Option.bind_some]at h;cases hzz:i.zero with
  |none=>rw[hzz]at h;cases h
  |some zv=>
   rw[hzz]at h;simp only[Option.bind_some]at h;split at h
   ·rename_i ho
    injection h with h
    exact⟨i,zv,rfl,hzz,h,h▸Me ho⟩
   ·cases h
theorem OpT.alloc{zl:List Value}{ag:Bool}(hz:tZ P t=some zl)(h:ag=true\/zl.length=1):OpT P ⟨dst,.alloc t,ty,pos,after,g⟩ [] [(p,(X,.gone))] (.ptr X 0 0) [(p,(X,.row t zl.length [zAV zl ag]))]:=
 .new_ λm a hx=>by
  obtain⟨i,zv,hi,hzz,hz,ho⟩:=Ih hz;have hv:=IB m ho h;have hl:=VC.len _ hv;refine⟨zv.cells,1,.pointer (some ⟨m.w.heap.size,0,none⟩),?_,by rw[<-hz];simp,by simp,by decide,by simpa using hl.symm,?_,.inl ⟨rfl,rfl⟩⟩
  ·simp[execOp,Instr.alloc,zeroValue,typeInfo,hi,hzz,newVar,newRow,newObj,AI,Sem.run,AA]
  ·rw[hz,Al (by simp)]
   exact VCs.one.2 hv
end
end
section
open Go.RowKit
def EA(e:AV)(k:Nat)(v:AV):AV:=match e with
 |.agg cs=>.agg (cs.take k++v.cells++cs.drop (k+v.cells.length))
 |_=>v
def Io(e:AV)(k n:Nat)(v:AV):Bool:=MI e.cells&&MI v.cells&&Nat.beq v.cells.length n&&Nat.ble (k+n) e.cells.length&&v.stor&&Nat.ble 1 n
section
variable {P:Program}{m0 m:Mem}{N:Nat}{R:Zs}{ex:List Nat}{X:Nat}{t:TypeId}{sz:Nat}{l:List AV}
variable {o:Oper}{v:AV}{x y z:Operand}{ty ty2 t':TypeId}{pos:String}{after:Array Edge}{g:Option (Nat×Bool)}{dst:Option Tmp}{xs:List (Operand×AV)}{p:Nat}
theorem F8{cs:List AV}(h:MI cs=true):AV.widths cs=cs.length:=by rw[C6 (sz:=1) (Hj h)];omega
theorem In{e:AV}{k n:Nat}(h:Io e k n v=true){c d:List Value}{bs:List Nat}(hc:VC m e c bs)(hd:VCs m v.cells d []):d.length=n/\k+n<=c.length/\(EA e k v).width=e.width/\∃bs',VC m (EA e k v) (c.take k++d++c.drop (k+n)) bs' /\(∀b∈bs',b∈bs)/\(bs.Nodup->bs'.Nodup):=by
 simp only[Io,AE]at h;obtain⟨⟨⟨⟨⟨h1,h2⟩,h3⟩,h4⟩,h5⟩,h6⟩:=h;have h6:=Gb h6;have h3:=C5 h3;have h4:=Gb h4;have hdl:d.length=n:=by rw[VCs.len _ hd,F8 h2,h3]
 have hcl:c.length=e.cells.length:=by rw[VCs.len _ hc.cells,F8 h1]
 refine⟨hdl,by omega,?_⟩
 have ht:(∃cs,e= .agg cs)\/(e.cells=[e]/\EA e k v=v/\e.width=1):=by
  cases e with
  |agg cs=>exact .inl ⟨cs,rfl⟩
  |_=>exact .inr ⟨rfl,rfl,rfl⟩
 rcases ht with⟨cs,rfl⟩|⟨he,hpp,hew⟩
 ·have hw:=Hj h1
  simp only[AV.cells]at hw h4 hcl hc h1;obtain⟨p1,p2,rfl,ha,hb⟩:=VCs.take (sz:=1) hw hc.cells (k:=k) (by omega);obtain⟨q1,q2,rfl,_,hb2⟩:=VCs.take (sz:=1) (l:=cs.drop k) (λe he=>hw e (Ae he)) hb (k:=n) (by rw[Dd];omega);simp only[Nat.mul_one,Dr]at ha hb2;refine⟨?_,p1++[]++q2,?_,λb hb=>by simp at hb⊢;rcases hb with h|h<;>simp[h],λhn=>?_⟩
  ·show AV.widths _=AV.widths cs
   rw[KQ,KQ,F8 h2,F8 h1,C6 (sz:=1) λe he=>hw e (Ad he),C6 (sz:=1) λe he=>hw e (Ae he)];simp only[CN,Dd];omega
  ·show VCs m (cs.take k++v.cells++cs.drop (k+v.cells.length)) _ _
   rw[h3];exact(ha.append hd).append hb2
  ·rw[BL]
   rw[<-AF]at hn;obtain⟨h6,h7,h8⟩:=AL.1 hn;exact AL.2 ⟨(AL.1 h6).1,h7,λa ha b hb=>h8 a (by simp[ha]) b hb⟩
 ·rw[he,CG]at h4 hcl
  have hv:VC m v d []:=by
   cases v with
   |agg cs=>exact hd
   |_=>exact VCs.one.1 hd
  have hvw:v.width=n:=by rw[<-VC.len _ hv,hdl]
  obtain rfl:n=1:=by omega
  obtain rfl:k=0:=by omega
  rw[hpp,hew,List.take_zero,EN,BP (by omega),BL];exact⟨hvw,[],hv,(λb hb=>by simp at hb),λ_=>Np⟩
theorem Q4{e:AV}{i k:Nat}{c1 c2 c3 rest vs:List Value}(h1:c1.length=i)(hk:k+vs.length<=c2.length):
  ((c1++c2++c3++rest).take (i+k)++vs++(c1++c2++c3++rest).drop (i+k+vs.length))=c1++(c2.take k++vs++c2.drop (k+vs.length))++c3++rest:=by
 subst h1
 have e1:(c1++c2++c3++rest).take (c1.length+k)=c1++c2.take k:=by
  rw[AF,AF,List.take_length_add_append,Bq (by omega)]
 have e2:(c1++c2++c3++rest).drop (c1.length+k+vs.length)=c2.drop (k+vs.length)++c3++rest:=by
  rw[Jy,AF,AF,List.drop_length_add_append,List.drop_append_of_le_length (by omega),AF]
 rw[e1,e2];simp
theorem OpT.store{i k n:Nat}{e:AV}(hn:tSz P t=some n)(hi:l[i]?=some e)(hp:Io e k n v=true):OpT P ⟨dst,.store t x y,ty,pos,after,g⟩ [(x,.ptr X i k),(y,v)] [(p,(X,.row t' sz l))] .dead [(p,(X,.row t' sz (l.set i (EA e k v))))]:=by
 intro nt m0 T S a w hx hS hd hr;obtain⟨m,N,Z,rfl,h2,h3,h4⟩:=hr;have h2':Z.map (·.1)=S:=h2;have hxa:VV m (.ptr X i k) (a.eval x) []:=h4.ev (hx (x,.ptr X i k) (by simp));have hya:VV m v (a.eval y) []:=h4.ev (hx (y,v) (by simp));have hSp:=hS (p,(X,.row t' sz l)) (by simp);rw[<-h2',Cn]at hSp;cases hz:Z[p]? with
 |none=>rw[hz]at hSp;cases hSp
 |some z=>
  rw[hz]at hSp;simp only[Au,AU]at hSp;obtain⟨z1,bs⟩:=z;simp only at hSp;subst hSp;obtain⟨R,hp1,hp2⟩:=DC hz;have G:=h3.perm hp1;have hO:=G.obj _ (A4 ..)
  have hbs:bs.Nodup:=by
   have:=G.own;rw[CF,AF]at this;exact(AL.1 this).1
  obtain⟨hU,L,hL,hsz,hO⟩:=hO;have hil:i<l.length:=(AC.1 hi).1;rcases hO with⟨_,rfl,_⟩|⟨hnil,arr,bs0,rfl,hb,harr,hlc,hcap,hw,hv⟩
  ·simp at hil
  ·obtain⟨c1,c2,c3,p1,p2,p3,hc,hpp,hl1,hl2,ha1,ha2,ha3⟩:=hv.get hw hil
   have he:l[i]=e:=(AC.1 hi).2;rw[he]at ha2;have hstor:v.stor=true:=by simp only[Io,AE]at hp;exact hp.1.2
   obtain⟨hvc,hone⟩:=VV.cells hya hstor;obtain⟨hdl,hkl,hpw,bs',hpv,hsub,hnd⟩:=In hp ha2 hvc;obtain⟨_,_,A,e1,hptr⟩:=hxa;injection e1 with e1
   rw[hptr L hL,hsz]at e1;obtain⟨rest,hrest⟩:∃rest,arr.toList=c1++c2++c3++rest:=⟨arr.toList.drop (l.length*sz),by rw[<-hc,Bi]⟩
   have hlen:i*sz+k+(a.eval y).cells.toList.length<=arr.size:=by
    have:=G9 List.length hrest;simp only[CY,CJ]at this;omega
   have hst:=J5 P L.blk (i*sz+k) t' (a.eval y).cells.toList 0 arr m.w hb (by simpa using hlen) hone;simp only[Dp]at hst;have hrow:=Q4 (e:=e) (k:=k) (c2:=c2) (c3:=c3) (rest:=rest) (vs:=(a.eval y).cells.toList) hl1 (by omega);rw[hrest,hrow]at hst
   have hsize:(c2.take k++(a.eval y).cells.toList++c2.drop (k+n)).length=sz:=by
    rw[VC.len _ hpv,hpw,<-VC.len _ ha2,hl2]
   have harr':(c1++(c2.take k++(a.eval y).cells.toList++c2.drop (k+(a.eval y).cells.toList.length))++c3++rest).toArray.size=L.cap*sz:=by
    have h1:=G9 List.length hrest;simp only[CJ,harr]at h1;rw[hdl];simp only[I9];rw[h1];simp only[CY]at hsize⊢;omega
   have hlset:(l.set i (EA e k v)).length=l.length:=By ..
   have htake:(c1++(c2.take k++(a.eval y).cells.toList++c2.drop (k+(a.eval y).cells.toList.length))++c3++rest).toArray.toList.take ((l.set i (EA e k v)).length*sz)=c1++(c2.take k++(a.eval y).cells.toList++c2.drop (k+n))++c3:=by
    rw[hlset,hdl];have h1:=G9 List.length hc;simp only[CN,CJ,harr]at h1;have h0:l.length*sz<=L.cap*sz:=Az _ hlc;rw[BJ h0]at h1;show(c1++(c2.take k++(a.eval y).cells.toList++c2.drop (k+n))++c3++rest).take _=_
    refine Cy ?_;simp only[CY]at hsize h1⊢;omega
   have hglue:=O2 hil ha1 hpv ha3;rw[hpp]at hbs;have hnd2:=(Bs.1 hbs).2
   obtain⟨G',hle⟩:=Ia G hL hnil rfl hb harr' (by rw[hlset];exact hlc) hcap hsz (l':=l.set i (EA e k v)) (bs1:=p1++bs'++p3) (λe' he'=>by
    rcases FI he' with h|h
    ·exact hw _ h
    ·rw[h,hpw,<-he];exact hw _ (List.getElem_mem hil)) (by rw[htake];exact hglue) (λb hb=>by
    rw[hpp];simp only[AN]at hb⊢;rcases hb with(h|h)|h
    ·exact .inl (.inl h)
    ·exact .inl (.inr (hsub b h))
    ·exact .inr h) (by
    have h7:(p1++p2++p3).Nodup:=hnd2;obtain⟨h8,h9,h10⟩:=AL.1 h7;obtain⟨h11,h12,h13⟩:=AL.1 h8;refine AL.2 ⟨AL.2 ⟨h11,hnd h12,λa ha b hb=>h13 a ha b (hsub b hb)⟩,h9,λa ha b hb=>?_⟩;rcases AN.1 ha with h|h
    ·exact h10 a (by simp[h]) b hb
    ·exact h10 a (by simp[hsub a h]) b hb) _ rfl
   have hrun:(execOp a.eval ⟨dst,.store t x y,ty,pos,after,g⟩).run P m.w= .ok .skip (m.w.setRow L.blk (c1++(c2.take k++(a.eval y).cells.toList++c2.drop (k+(a.eval y).cells.toList.length))++c3++rest).toArray):=by
    have hsz':(a.eval y).cells.size=n:=by rw[<-hdl];simp
    simp only[execOp,Instr.storeAt,e1,Instr.sureAddr,storeVar,Ec hn,AI,AG,AA,hsz',ne_eq,not_true_eq_false,if_false,hst]
   unfold Oper.wp;rw[hrun];refine⟨_,N,Z.set p ((X,.row t' sz (l.set i (EA e k v))),L.blk::(p1++bs'++p3)),rfl,?_,G'.perm (hp2 _).symm,(h4.mono hle).put hd rfl⟩;rw[A8,h2'];rfl
def F9(pl:List (Nat×Nat))(cs:List AV):List (Nat×AV)->Option (List AV)
 |[]=>some cs
 |(i,v)::r=>match pl[i]? with
  |none=>none
  |some (off,n)=>match Io (.agg cs) off n v with
   |false=>none
   |true=>F9 pl (EA (.agg cs) off v).cells r
theorem Oh(off:Nat):∀(vs:List Value) (k:Nat) (arr:Array Value),off+k+vs.length<=arr.size->
  ((vs.zipIdx k).foldl (λcs (c,j)=>cs.setIfInBounds (off+j) c) arr).toList=arr.toList.take (off+k)++vs++arr.toList.drop (off+k+vs.length):=by
 intro vs
 induction vs with
 |nil=>intro k arr h;simp
 |cons v vs ih=>
  intro k arr h;simp only[List.zipIdx_cons,List.foldl_cons];rw[ih (k+1) _ (by simp at h⊢;omega)];have:=list_seg_step arr.toList (off+k) v vs (by simp at h⊢;omega);simpa[Jy]using this
theorem Pq(m:Mem)(ρ:Operand->Value){place:Nat->Option (Nat×Nat)}{pl:List (Nat×Nat)}(hpl:∀i q,pl[i]?=some q->place i=some q):∀(xs:List (Nat×Operand×AV)) (cs cs':List AV) (cells:Array Value),VCs m cs cells.toList []->(∀q∈xs,VV m q.2.2 (ρ q.2.1) [])->
  F9 pl cs (xs.map λq=>(q.1,q.2.2))=some cs' ->∃cells',Instr.fill place cells (xs.map λq=>(q.1,ρ q.2.1))=some cells' /\VCs m cs' cells'.toList []/\AV.widths cs'=AV.widths cs:=by
 intro xs
 induction xs with
 |nil=>
  intro cs cs' cells hc _ h;injection h with h
  subst h;exact⟨cells,rfl,hc,rfl⟩
 |cons q xs ih=>
  obtain⟨i,x,v⟩:=q;intro cs cs' cells hc hx h;simp only[AR,F9]at h;cases hq:pl[i]? with
  |none=>rw[hq]at h;cases h
  |some q=>
   obtain⟨off,n⟩:=q;rw[hq]at h;simp only at h;cases hp:Io (.agg cs) off n v with
   |false=>rw[hp]at h;cases h
   |true=>
    rw[hp]at h;simp only at h;have hs:v.stor=true:=by simp only[Io,AE]at hp;exact hp.1.2
    obtain⟨hv,_⟩:=VV.cells (hx (i,x,v) (by simp)) hs;have hv:VCs m v.cells (ρ x).cells.toList []:=hv;obtain⟨hdl,hkl,hpw,bs',hpv,hsub,_⟩:=In (e:=.agg cs) hp hc hv;have hb:bs'=[]:=List.eq_nil_iff_forall_not_mem.2 λb hb=>by have:=hsub b hb;simp at this
    subst hb;have hsz:(ρ x).cells.size=n:=by rw[<-hdl];simp
    have hfold:=Oh off (ρ x).cells.toList 0 cells (by simp at hkl⊢;omega);simp only[Dp]at hfold;rw[hdl]at hfold
    have harr:(ρ x).cells.zipIdx.foldl (λcs (c,j)=>cs.setIfInBounds (off+j) c) cells=(cells.toList.take off++(ρ x).cells.toList++cells.toList.drop (off+n)).toArray:=by
     apply Array.ext';rw[<-hfold,<-PG,Array.toList_zipIdx]
    obtain⟨cells',h1,h2,h3⟩:=ih (EA (.agg cs) off v).cells cs' (cells.toList.take off++(ρ x).cells.toList++cells.toList.drop (off+n)).toArray (by simpa using hpv.cells) (λq hq=>hx q (by simp[hq])) h;refine⟨cells',?_,h2,h3.trans hpw⟩;simp only[AR,Instr.fill,hpl i _ hq];rw[Ah (by simp only[CQ,Cm,ne_eq,not_or,Qi];simp at hkl;omega),harr];exact h1
def Qu(P:Program)(t:TypeId):Option (List Value×List (Nat×Nat)):=match P.info? t,P.underlying t with
 |some it,some (.struct fields)=>match it.zero,fields.toList.mapM (λf=>(P.info? f.type).map λi=>(f.offset,i.size))with
  |some z,some places=>match ones z.cells.toList with
   |true=>some (z.cells.toList,places)
   |false=>none
  |_,_=>none
 |_,_=>none
theorem Qt{t:TypeId}{zl:List Value}{pl:List (Nat×Nat)}(h:Qu P t=some (zl,pl)):∀u∈zl,u.oneCell'=true:=by
 unfold Qu at h;split at h
 ·split at h
  ·split at h
   ·rename_i ho
    simp only[AU,DT]at h;obtain⟨rfl,rfl⟩:=h;exact Me ho
   ·cases h
  ·cases h
 ·cases h
theorem Qs{t:TypeId}{zl:List Value}{pl:List (Nat×Nat)}(h:Qu P t=some (zl,pl)){parts:List (Nat×Value)}{cells:Array Value}(hf:Instr.fill (pl.toArray[·]?) zl.toArray parts=some cells):P.built t parts=some cells:=by
 unfold Qu at h;unfold Program.built;split at h
 ·rename_i it fields h1 h2
  split at h
  ·rename_i z places h3 h4
   split at h
   ·rename_i ho
    simp only[AU,DT]at h;obtain⟨rfl,rfl⟩:=h;simp only[h1,h2,h3,h4];simpa using hf
   ·cases h
  ·cases h
 ·cases h
theorem OpT.build{ps:List (Nat×Operand×AV)}{zl:List Value}{pl:List (Nat×Nat)}{cs:List AV}(h:Qu P t=some (zl,pl))(hf:F9 pl (zl.map .prim) (ps.map λq=>(q.1,q.2.2))=some cs):OpT P ⟨dst,.build t (ps.map λq=>(q.1,q.2.1)).toArray,ty,pos,after,g⟩ (ps.map (·.2)) [] (.agg cs) []:=
 .pure_ λm a hx _=>by
  obtain⟨cells',h1,h2,_⟩:=Pq m a.eval (place:=(pl.toArray[·]?)) (pl:=pl) (λi q hq=>by simpa using hq) ps (zl.map .prim) cs zl.toArray (by simpa using He m zl (Qt h)) (λq hq=>hx q.2 (BH.2 ⟨q,hq,rfl⟩)) hf;refine⟨.agg cells',?_,cells',rfl,h2⟩;have:=run_build (P:=P) m.w t ((ps.map λq=>(q.1,a.eval q.2.1)).toArray) cells' (by simpa using Qs h h1);simp only[execOp,D3,Ct,AI];rw[show((λx:Nat×Operand=>(x.1,a.eval x.2))∘λq:Nat×Operand×AV=>(q.1,q.2.1))=λq=>(q.1,a.eval q.2.1)from rfl,this];simp[AG,AA]
def Eo(sz:Nat)(l:List AV):List (Nat×AV)->Option (List AV)
 |[]=>some l
 |(i,v)::r=>match Nat.blt i l.length&&Nat.beq v.width sz&&v.stor with
  |false=>none
  |true=>Eo sz (l.set i v) r
theorem Pp(m:Mem)(ρ:Operand->Value){sz:Nat}:∀(xs:List (Nat×Operand×AV)) (l l':List AV) (cells:Array Value),(∀e∈l,e.width=sz)->VCs m l cells.toList []->(∀q∈xs,VV m q.2.2 (ρ q.2.1) [])->
  Eo sz l (xs.map λq=>(q.1,q.2.2))=some l' ->∃cells',Instr.fill (λi=>some (i*sz,sz)) cells (xs.map λq=>(q.1,ρ q.2.1))=some cells' /\VCs m l' cells'.toList []/\l'.length=l.length/\(∀e∈l',e.width=sz):=by
 intro xs
 induction xs with
 |nil=>
  intro l l' cells hw hc _ h;injection h with h
  subst h;exact⟨cells,rfl,hc,rfl,hw⟩
 |cons q xs ih=>
  obtain⟨i,x,v⟩:=q;intro l l' cells hw hc hx h;simp only[AR,Eo]at h;cases hb:Nat.blt i l.length&&Nat.beq v.width sz&&v.stor with
  |false=>rw[hb]at h;cases h
  |true=>
   rw[hb]at h;simp only at h;simp only[AE]at hb;obtain⟨⟨h1,h2⟩,hs⟩:=hb;have hil:i<l.length:=by simpa[HV]using h1
   have hvw:=C5 h2;obtain⟨hv,_⟩:=VV.cells (hx (i,x,v) (by simp)) hs;have hv:VCs m v.cells (ρ x).cells.toList []:=hv;have hv':VC m v (ρ x).cells.toList []:=VV.vc (hx (i,x,v) (by simp)) hs;have hdl:(ρ x).cells.toList.length=sz:=by rw[VC.len _ hv',hvw]
   obtain⟨c1,c2,c3,p1,p2,p3,hcc,hpp,hl1,hl2,ha1,ha2,ha3⟩:=hc.get hw hil
   obtain⟨rfl,rfl,rfl⟩:p1=[]/\p2=[]/\p3=[]:=by
    have:=hpp.symm;simp at this;exact this
   have hcl:cells.size=i*sz+sz+c3.length:=by
    have:=G9 List.length hcc;simp only[CJ,CY]at this;omega
   have hfold:=Oh (i*sz) (ρ x).cells.toList 0 cells (by omega);simp only[Dp]at hfold;rw[hdl]at hfold
   have hrow:cells.toList.take (i*sz)++(ρ x).cells.toList++cells.toList.drop (i*sz+sz)=c1++(ρ x).cells.toList++c3:=by
    have e1:cells.toList.take (i*sz)=c1:=by rw[hcc,AF,Cy hl1]
    have e2:cells.toList.drop (i*sz+sz)=c3:=by rw[hcc,Hs (by rw[CY];omega)]
    rw[e1,e2]
   have harr:(ρ x).cells.zipIdx.foldl (λcs (c,j)=>cs.setIfInBounds (i*sz+j) c) cells=(c1++(ρ x).cells.toList++c3).toArray:=by
    apply Array.ext';rw[<-hrow,<-hfold,<-PG,Array.toList_zipIdx]
   have hglue:=O2 hil ha1 hv' ha3;simp only[BL]at hglue
   obtain⟨cells',h3,h4,h5,h6⟩:=ih (l.set i v) l' (c1++(ρ x).cells.toList++c3).toArray (λe he=>by
    rcases FI he with h|h
    ·exact hw _ h
    ·rw[h,hvw]) (by simpa using hglue) (λq hq=>hx q (by simp[hq])) h
   refine⟨cells',?_,h4,by rw[h5,By],h6⟩;have hsz:(ρ x).cells.size=sz:=by rw[<-hdl];simp
   simp only[AR,Instr.fill];rw[Ah (by simp only[CQ,Cm,ne_eq,not_or,Qi];omega),harr];exact h3
theorem Hg(z:Array Value)(n:Nat):((Array.range (n*z.size)).map (z[· %z.size]!)).toList=(List.replicate n z.toList).flatten:=by
 simp only[Array.toList_map,Array.toList_range]
 induction n with
 |zero=>simp
 |succ n ih=>
  rw[CW,Nat.one_mul,List.range_add,AJ,ih,List.replicate_succ',WU,List.flatten_singleton]
  congr 1
  apply JF;intro j;simp only[Ct,Cn,L0];rcases Ga j z.size with h|h
  ·rw[List.getElem?_range h]
   simp[Nat.mul_add_mod_of_lt,h,Nat.mod_eq_of_lt h]
  ·rw[Bk (by simpa using h),Array.getElem?_eq_none (by omega)];rfl
theorem FA(m:Mem){z:AV}{zl:List Value}(h:VC m z zl [])(n:Nat):VCs m (List.replicate n z) (List.replicate n zl).flatten []:=by
 induction n with
 |zero=>exact VCs.nil
 |succ n ih=>exact⟨zl,(List.replicate n zl).flatten,[],[],rfl,rfl,h,ih⟩
theorem OpT.buildSlice{ps:List (Nat×Operand×AV)}{zl:List Value}{ag:Bool}{te:TypeId}{n:Nat}{l:List AV}(he:Dn P t=some te)(hz:tZ P te=some zl)(hsz:tSz P te=some sz)(hzs:zl.length=sz)(hag:ag=true\/zl.length=1)(hn:n*sz<=16777216)(h0:0<n*sz)
  (hf:Eo sz (List.replicate n (zAV zl ag)) (ps.map λq=>(q.1,q.2.2))=some l):OpT P ⟨dst,.buildSlice t n (ps.map λq=>(q.1,q.2.1)).toArray,ty,pos,after,g⟩ (ps.map (·.2)) [(p,(X,.gone))] (.sl X 0 n) [(p,(X,.row te sz l))]:=by
 obtain⟨i,zv,hi,hzv,hzl,ho⟩:=Ih hz;obtain rfl:i.size=sz:=by simpa[tSz,hi]using hsz
 have hzvs:zv.cells.size=i.size:=by rw[<-hzs,<-hzl];simp
 refine OpT.new_ (λm a hx=>?_);have hzc:=IB m ho hag;have hzw:(zAV zl ag).width=i.size:=by rw[<-VC.len _ hzc,hzs]
 have hcl:((Array.range (n*i.size)).map (zv.cells[· %zv.cells.size]!)).toList=(List.replicate n zl).flatten:=by
  rw[<-hzvs,Hg,hzl]
 obtain⟨cells',h1,h2,h3,h4⟩:=Pp m a.eval (sz:=i.size) ps (List.replicate n (zAV zl ag)) l ((Array.range (n*i.size)).map (zv.cells[· %zv.cells.size]!)) (λe he=>by rw[Cg he,hzw]) (by rw[hcl];exact FA m hzc n) (λq hq=>hx q.2 (BH.2 ⟨q,hq,rfl⟩)) hf;have hll:l.length=n:=by rw[h3,Ci]
 have hcs:cells'.size=n*i.size:=by have:=VCs.len _ h2;rw[C6 h4,hll]at this;simpa using this
 refine⟨cells',n,.slice (some ⟨m.w.heap.size,0,none⟩) n n,?_,hcs,by omega,by
  have:n<=n*i.size:=Jw _ (by
   rcases Fy i.size with h|h
   ·rw[h]at h0;omega
   ·exact h)
  unfold maxLen;omega,h4,?_,.inr ⟨n,rfl,AP _,rfl⟩⟩
 ·have hr:=run_buildSlice (P:=P) m.w t te n ((ps.map λq=>(q.1,a.eval q.2.1)).toArray) cells' i zv (CB he) hi hzv (by omega) (by omega) (by simpa using h1)
  simp only[execOp,D3,Ct,AI];rw[show((λx:Nat×Operand=>(x.1,a.eval x.2))∘λq:Nat×Operand×AV=>(q.1,q.2.1))=λq=>(q.1,a.eval q.2.1)from rfl,hr];simp[AG,AA]
 ·rw[hll,Al (by simp;omega)]
  exact h2
theorem OpT.makeSlice{k k':IntKind}{q q':Int}{zl:List Value}{ag:Bool}{te:TypeId}{n c by_:Nat}(he:Dn P t=some te)(hz:tZ P te=some zl)(hsz:tSz P te=some sz)(hzs:zl.length=sz)(hag:ag=true\/zl.length=1)(hby:(P.info? te).map (·.bytes)=some by_)
  (hq:q=(n:Int)) (hq':q'=(c:Int)) (hnc:n<=c) (hb:by_*c<=281474976710656) (hc:c<=maxLen):OpT P ⟨dst,.makeSlice t x y,ty,pos,after,g⟩ [(x,.prim (.int k q)),(y,.prim (.int k' q'))] [(p,(X,.gone))] (.sl X 0 n) [(p,(X,.row te sz (List.replicate n (zAV zl ag))))]:=by
 obtain⟨i,zv,hi,hzv,hzl,ho⟩:=Ih hz;have hisz:i.size=sz:=by simpa[tSz,hi]using hsz
 have hiby:i.bytes=by_:=by simpa[hi]using hby
 have hzvs:zv.cells.size=sz:=by rw[<-hzs,<-hzl];simp
 refine OpT.new_ (λm a hx=>?_);have hzc:=IB m ho hag;have hzw:(zAV zl ag).width=sz:=by rw[<-VC.len _ hzc,hzs]
 have hx1:=(hx (x,.prim (.int k q)) (by simp)).prim;have hx2:=(hx (y,.prim (.int k' q')) (by simp)).prim;simp only at hx1 hx2;subst hq hq'
 have hbz:(by_:Int)*(c:Int)<=281474976710656:=by
  have:((by_*c:Nat):Int)<=281474976710656:=by omega
  rwa[Ti]at this
 have hcl:(madeCells zv.cells (c*i.size)).toList=(List.replicate c zl).flatten:=by
  rw[hisz,<-hzvs,madeCells,Hg,hzl]
 refine⟨madeCells zv.cells (c*i.size),c,.slice (some ⟨m.w.heap.size,0,none⟩) n c,?_,by rw[size_madeCells,hisz],by simpa using hnc,hc,λe he=>by rw[Cg he,hzw],?_,.inr ⟨n,rfl,hnc,rfl⟩⟩
 ·have hr:=run_make (P:=P) m.w t te i zv (CB he) hi hzv k k' n c (by omega) (by omega) (by rw[hiby];exact hbz) (by unfold maxLen at hc;omega)
  simp only[Co]at hr;simp[execOp,hx1,hx2,hr,AI,AG,AA]
 ·rw[hcl,Ci]
  have:(List.replicate c zl).flatten.take (n*sz)=(List.replicate n zl).flatten:=by
   obtain⟨d,rfl⟩:=Nat.exists_eq_add_of_le hnc;rw[<-List.replicate_append_replicate,WU,Cy (by simp[hzs])]
  rw[this];exact FA m hzc n
theorem Ez{w:World}{t te:TypeId}{sz:Nat}(he:Dn P t=some te)(hsz:tSz P te=some sz){A:Option Addr}{len cap lo hi:Nat}{vl vh:Option Value}(hl:∀u,vl=some u->∃k,u= .int k lo)(hl0:vl=none->lo=0)(hh:∀u,vh=some u->∃k,u= .int k hi)(hh0:vh=none->hi=len)(h1:lo<=hi)(h2:hi<=cap):
  (Instr.sliceAt t (.slice A len cap) vl vh none).run P w= .ok (.slice (if cap=lo then A else A.map (·.add (lo*sz))) (hi-lo) (cap-lo)) w:=by
 have hb:∀(x y:Nat) (k:IntKind) (code:BoundsCode),x<=y->(Instr.sliceBound (.int k (x:Int)) y code).run P w= .ok x w:=by
  intro x y k code h;have:(0:Int)<=(x:Int)/\(x:Int)<=(y:Int):=by omega
  simp[Instr.sliceBound,asIntOf,this,AI,AG,AA,h]
 have hbs:(Instr.sliceBounds true len cap vl vh none).run P w= .ok (lo,hi,cap) w:=by
  rcases vl with _|u
  ·rcases vh with _|u'
   ·simp[Instr.sliceBounds,AI,AG,AA,hl0,hh0]
   ·obtain⟨k,rfl⟩:=hh u' rfl
    simp[Instr.sliceBounds,AI,AG,AA,hl0,hb _ _ _ _ h2]
  ·obtain⟨k,rfl⟩:=hl u rfl
   rcases vh with _|u'
   ·have:=hh0 rfl
    subst this;simp[Instr.sliceBounds,AI,AG,AA,hb _ _ _ _ h1]
   ·obtain⟨k',rfl⟩:=hh u' rfl
    simp[Instr.sliceBounds,AI,AG,AA,hb _ _ _ _ h1,hb _ _ _ _ h2]
 simp[Instr.sliceAt,Instr.slice,A7 (CB he),hbs,Ec hsz,AI,AG,AA]
end
end
section
variable {ro:Option Nat}
open Go.RowKit
def andThen(K:St->Prop)(Q:Exit->St->Prop):Exit->St->Prop
 |.normal,st=>K st
 |e,st=>Q e st
def inB(id:Nat)(Q:Exit->St->Prop):Exit->St->Prop
 |.exit i,st=>match Nat.beq i id with
  |true=>Q .normal st
  |false=>Q (.exit i) st
 |e,st=>Q e st
inductive Looks(T:List (Nat×AV)):List (Nat×AV)->Prop
 |nil:Looks T []
 |cons {d:Nat} {v:AV} {r:List (Nat×AV)} (h:BR T d=some v) (k:Looks T r):Looks T ((d,v)::r)
theorem Looks.all{T T':List (Nat×AV)}(h:Looks T T'):∀d v,BR T' d=some v->BR T d=some v:=by
 induction h with
 |nil=>intro d v h;cases h
 |cons h k ih=>
  intro d v hd;rw[Bx]at hd;split at hd
  ·rename_i e;subst e;injection hd with hd;subst hd;exact h
  ·exact ih d v hd
section
variable {P:Program}{nt:Nat}{Q Q':Exit->St->Prop}{st:St}{c d:Code}
theorem AWP.mono(h:AWP ro P nt c Q st)(hq:∀e st,Q e st->Q' e st):AWP ro P nt c Q' st:=
 λm0 a w hr=>J1 (h m0 a w hr) λe a w ⟨st',h1,h2⟩=>⟨st',h1,hq _ _ h2⟩
theorem D4(h:Q .normal st):AWP ro P nt .skip Q st:=λm0 a w hr=>wpIn_skip ⟨st,hr,h⟩
theorem TN{id:Nat}(h:Q (.exit id) st):AWP ro P nt (.exit id) Q st:=λm0 a w hr=>wpIn_exit ⟨st,hr,h⟩
theorem Un(h:Q .ret st):AWP ro P nt .ret Q st:=λm0 a w hr=>wpIn_ret ⟨st,hr,h⟩
theorem D0(h:AWP ro P nt c (andThen (AWP ro P nt d Q) Q) st):AWP ro P nt (.seq c d) Q st:=
 λm0 a w hr=>wpIn_seq (J1 (h m0 a w hr) λe a' w' ⟨st',h1,h2⟩=>by
  cases e with
  |normal=>exact h2 m0 a' w' h1
  |_=>exact⟨st',h1,h2⟩)
theorem AWP.block{id:Nat}(h:AWP ro P nt c (inB id Q) st):AWP ro P nt (.block id c) Q st:=
 λm0 a w hr=>wpIn_block (J1 (h m0 a w hr) λe a' w' ⟨st',h1,h2⟩=>by
  cases e with
  |exit i=>
   simp only[Exit.inBlock,inB]at h2⊢;by_cases e:i=id
   ·subst e
    simp only[Nat.beq_refl]at h2;rw[A1 rfl];exact⟨st',h1,h2⟩
   ·have:Nat.beq i id=false:=Bool.eq_false_iff.2 λhb=>e (C5 hb)
    simp only[this]at h2;rw[Ah e];exact⟨st',h1,h2⟩
  |_=>exact⟨st',h1,h2⟩)
theorem AB{x:Operand}{b:Bool}(hx:ev st.T x=some (.prim (.bool b)))(ht:b=true->AWP ro P nt c Q st)(hf:b=false->AWP ro P nt d Q st):AWP ro P nt (.cond x c d) Q st:=
 λm0 a w hr=>by
  obtain⟨m,N,Z,h1,h2,h3,h4⟩:=id hr;have hb:=(h4.ev hx).prim;cases b
  ·exact wpIn_cond_false hb (hf rfl m0 a w hr)
  ·exact wpIn_cond_true hb (ht rfl m0 a w hr)
theorem BE{x:Operand}{b:Bool}(hx:ev st.T x=some (.prim (.bool b)))(hb:b=true)(ht:AWP ro P nt c Q st):AWP ro P nt (.cond x c d) Q st:=AB hx (λ_=>ht) (λh=>by rw[hb]at h;cases h)
theorem Aa{x:Operand}{b:Bool}(hx:ev st.T x=some (.prim (.bool b)))(hb:b=false)(hf:AWP ro P nt d Q st):AWP ro P nt (.cond x c d) Q st:=AB hx (λh=>by rw[hb]at h;cases h) (λ_=>hf)
theorem Good.sub{m0 m:Mem}{N:Nat}{Z Z':Zs}{ex:List Nat}(G:Good m0 m N Z ex)(h:Z'.Sublist Z):Good m0 m N Z' ex:=by
 have ho:(Z'.own).Sublist Z.own:=by
  clear G;unfold Zs.own
  induction h with
  |slnil=>exact Dt _
  |cons a _ ih=>rw[Bo];exact ih.trans (Ie _ _)
  |cons_cons a _ ih=>rw[Bo,Bo];exact ih.append_left _
 exact⟨λz hz=>G.obj z (h.subset hz),G.own.sublist (ho.append_right _),λb hb=>G.blk b ((ho.append_right _).subset hb),G.frz,G.keys.sublist (h.map _),λx hx=>G.keyN x ((h.map _).subset hx),G.usedN,G.le,G.os,G.tape,G.output,G.size⟩
theorem KZ{α β:Type}(f:β->α){S S':List α}(h:S'.Sublist S):∀{Z:List β},Z.map f=S->∃Z':List β,Z'.Sublist Z/\Z'.map f=S':=by
 induction h with
 |slnil=>intro Z hZ;exact⟨[],List.nil_sublist _,rfl⟩
 |cons a h ih=>
  intro Z hZ;cases Z with
  |nil=>cases hZ
  |cons z Z=>
   injection hZ with h1 h2
   obtain⟨Z',h3,h4⟩:=ih h2;exact⟨Z',h3.cons z,h4⟩
 |cons_cons a h ih=>
  intro Z hZ;cases Z with
  |nil=>cases hZ
  |cons z Z=>
   injection hZ with h1 h2
   obtain⟨Z',h3,h4⟩:=ih h2;exact⟨z::Z',h3.cons_cons z,by simp[h1,h4]⟩
structure St.Le(st st':St):Prop where
 T:Looks st.T st'.T
 S:st'.S.Sublist st.S
theorem Rel.weak{m0:Mem}{st st':St}{a:Act}{w:World}(h:Rel nt m0 st a w)(k:st.Le st'):Rel nt m0 st' a w:=by
 obtain⟨m,N,Z,h1,h2,h3,h4,h5,h6⟩:=h;obtain⟨Z',hs,hm⟩:=KZ _ k.S h2;exact⟨m,N,Z',h1,hm,h3.sub hs,h4,h5,λd v hd=>h6 d v (k.T.all d v hd)⟩
theorem AWP.weak{st':St}(k:st.Le st')(h:AWP ro P nt c Q st'):AWP ro P nt c Q st:=λm0 a w hr=>h m0 a w (hr.weak k)
theorem OP(p:Nat->Prop):∀n,p n->∃k,p k/\∀j,p j->k<=j:=by
 intro n
 induction n using Nat.strongRecOn with
 |_ n ih=>
  intro hn;by_cases h:∃j,j<n/\p j
  ·obtain⟨j,hj,hp⟩:=h
   exact ih j hj hp
  ·exact⟨n,hn,λj hj=>FP λhlt=>h ⟨j,hlt,hj⟩⟩
theorem AWP.loop{β:Type}(inv:β->St)(μ:β->Nat)(b0:β)(h0:st.Le (inv b0))(round:∀b,AWP ro P nt c (andThen (λst'=>∃b',μ b'<μ b/\st'.Le (inv b')) Q) (inv b)):AWP ro P nt (.loop c) Q st:=by
 intro m0 a w hr
 classical
 let I:Nat->Act->World->Prop:=λn a w=>∃b,μ b=n/\Rel nt m0 (inv b) a w
 refine wpIn_loop (λa w=>∃n,I n a w) (λa w=>if h:∃k,I k a w/\∀j,I j a w->k<=j then Classical.choose h else 0) ⟨μ b0,b0,rfl,hr.weak h0⟩ λa w hI=>?_
 have hL:∃k,I k a w/\∀j,I j a w->k<=j:=OP (λn=>I n a w) _ hI.choose_spec;obtain⟨b,hb,hrb⟩:=(Classical.choose_spec hL).1;refine J1 (round b m0 a w hrb) λe a' w' ⟨st',h1,h2⟩=>?_
 cases e with
 |normal=>
  obtain⟨b',hlt,hle⟩:=h2;have hI':∃n,I n a' w':=⟨μ b',b',rfl,h1.weak hle⟩;have hL':∃k,I k a' w' /\∀j,I j a' w' ->k<=j:=OP (λn=>I n a' w') _ ⟨b',rfl,h1.weak hle⟩;refine⟨hI',?_⟩;simp only[dif_pos hL,dif_pos hL'];have h5:Classical.choose hL' <=μ b':=(Classical.choose_spec hL').2 _ ⟨b',rfl,h1.weak hle⟩;omega
 |_=>exact⟨st',h1,h2⟩
def MD(P:Program)(f:FuncId):Bool:=match P.funcs[f]? with
 |some fn=>!(fn.name== "runtime.NumGoroutine")&&fn.body.isSome
 |none=>false
structure Spec(P:Program)(f:FuncId)(args:List AV)(S:List AK)(Q:AV->List AK->Prop):Prop where
 fn:MD P f=true
 run:∀(Sf:List AK) (m:Mem) (N:Nat) (Z:Zs) (vals:Array Value),Z.map (·.1)=S++Sf->Good m m N Z []->VTs m args vals.toList []->
  Calls P f vals m.w λe w'=>∃v r S' m' N' Z' br,e= .returned v/\m'.w=w' /\Z'.map (·.1)=S'++Sf/\Good m m' N' Z' br/\VV m' r v br/\Q r S'
def PS(P:Program)(f:FuncId)(args:List AV)(r:AV):Prop:=Spec P f args [] λr' S'=>r'=r/\S'=[]
theorem Spec.mono{f:FuncId}{args:List AV}{S:List AK}{Q Q':AV->List AK->Prop}(h:Spec P f args S Q)(hq:∀r S',Q r S' ->Q' r S'):Spec P f args S Q':=
 ⟨h.fn,λSf m N Z vals h1 h2 h3=>(h.run Sf m N Z vals h1 h2 h3).mono λe w' ⟨v,r,S',m',N',Z',br,a,b,c,d,e,q⟩=>⟨v,r,S',m',N',Z',br,a,b,c,d,e,hq _ _ q⟩⟩
theorem Good.self{m0 m:Mem}{N:Nat}{Z:Zs}{ex:List Nat}(G:Good m0 m N Z ex):Good m m N Z ex:=
 ⟨G.obj,G.own,G.blk,G.frz,G.keys,G.keyN,G.usedN,.refl _,rfl,rfl,rfl,AP _⟩
theorem Good.after{m0 m m':Mem}{N N':Nat}{Z Z':Zs}{ex ex':List Nat}(G:Good m0 m N Z ex)(G':Good m m' N' Z' ex'):Good m0 m' N' Z' ex':=
 ⟨G'.obj,G'.own,G'.blk,G'.frz,G'.keys,G'.keyN,G'.usedN,G.le.trans G'.le,G'.os.trans G.os,G'.tape.trans G.tape,G'.output.trans G.output,CT G.size G'.size⟩
theorem Good.freeze{m0 m:Mem}{N:Nat}{Z:Zs}{ex ex':List Nat}(G:Good m0 m N Z (ex++ex'))(m':Mem)(hm:m'={m with F:=λb=>m.F b\/b∈ex}):Good m0 m' N Z ex' /\m.Le m':=by
 subst hm;have hle:m.Le {m with F:=λb=>m.F b\/b∈ex}:=⟨λ_ h=>h,λ_ _ _ h=>h,λb hb=>⟨.inl hb,rfl⟩⟩;refine⟨?_,hle⟩
 have:=Good.swap (zs:=[]) (zs':=[]) (R:=Z) (m':={m with F:=λb=>m.F b\/b∈ex}) (N':=N) (ex':=ex') G hle (AP _) (λ_ _ _=>rfl) (λ_ _ _ _=>rfl) (λz hz=>by cases hz)
  (by have:=(AL.1 (AL.1 G.own).2.1).2.1;simpa[Zs.own]using this)
  (λb hb=>by
   have hb':b∈ex':=by simpa[Zs.own]using hb
   have h1:=G.blk b (by simp[hb']);refine⟨h1.1,?_,.inr (.inl (by simp[hb']))⟩;rintro(h|h)
   ·exact h1.2 h
   ·exact(AL.1 (AL.1 G.own).2.1).2.2 b h b hb' rfl)
  (λb hb=>by
   rcases hb with h|h
   ·exact⟨G.frz b h,.inl h⟩
   ·exact⟨(G.blk b (by simp[h])).1,.inr (.inr (.inl (by simp[h])))⟩)
  (by simp[Zs.keys]) (λx hx=>by simp[Zs.keys]at hx) (λx hx=>⟨G.usedN x hx,.inl hx⟩) rfl rfl rfl (AP _)
 simpa using this
variable {o:Oper}{x:Operand}{ty:TypeId}{pos:String}{after:Array Edge}{g:Option (Nat×Bool)}{dst:Option Tmp}{xs:List (Operand×AV)}{f:FuncId}{ats:Array TypeId}{r:AV}
theorem Ge{a:Act}{w:World}{args:Array Operand}{K:Act->World->Prop}(ha:∀f,a.eval (.func f)= .func (.func f) #[] #[])(hf:MD P f=true)
  (h:Calls P f (args.map a.eval) w λe w'=>∃v,e= .returned v/\K (a.put dst v) w'):Oper.wp P ⟨dst,.call ⟨.value (.func f),args,ats⟩,ty,pos,after,g⟩ a w K (λ_ _ _=>False):=by
 unfold MD at hf
 have hrun:(execOp a.eval ⟨dst,.call ⟨.value (.func f),args,ats⟩,ty,pos,after,g⟩).run P w= .ok (.enter f (args.map a.eval)) w:=by
  split at hf
  ·rename_i fn hfn
   simp only[AE,Du]at hf
   have hb:fn.body.isNone=false:=by
    cases hfb:fn.body with
    |none=>rw[hfb]at hf;simp at hf
    |some c=>rfl
   have h1:¬fn.name= "runtime.NumGoroutine" :=by simpa using hf.1
   have h2:¬fn.body=none:=by intro h;rw[h]at hb;cases hb
   simp[execOp,resolve,ha,Deferred.ofValue,invoke,callFunc,program,AI,Sem.run,AA,hfn,h1,h2]
  ·cases hf
 unfold Oper.wp;rw[hrun];simp only[Oper.upon];refine h.mono λe w' ⟨v,he,hk⟩=>?_
 subst he;exact hk
theorem FK{m:Mem}{ρ:Operand->Value}:∀{xs:List (Operand×AV)},(∀q∈xs,ntup q.2=true)->(∀q∈xs,VV m q.2 (ρ q.1) [])->VTs m (xs.map (·.2)) (xs.map λq=>ρ q.1) []
 |[],_,_=>⟨rfl,rfl⟩
 |q::xs,ht,h=>(B8 (ht q (by simp))).2 ⟨ρ q.1,_,[],[],rfl,rfl,h q (by simp),FK (λq hq=>ht q (by simp[hq])) λq hq=>h q (by simp[hq])⟩
def BT:List (Operand×AV)->Bool
 |[]=>true
 |q::r=>ntup q.2&&BT r
theorem DU{xs:List (Operand×AV)}(h:BT xs=true):∀q∈xs,ntup q.2=true:=by
 induction xs with
 |nil=>intro q hq;cases hq
 |cons a xs ih=>
  simp only[BT,AE]at h;intro q hq;rcases AW.1 hq with rfl|hq
  ·exact h.1
  ·exact ih h.2 q hq
theorem OpT.call(h:PS P f (xs.map (·.2)) r)(ht:BT xs=true:=by rfl):OpT P ⟨dst,.call ⟨.value (.func f),(xs.map (·.1)).toArray,ats⟩,ty,pos,after,g⟩ xs [] r.frz []:=by
 intro nt m0 T S a w hx hS hd hr;obtain⟨m,N,Z,rfl,h2,h3,h4⟩:=hr;refine Ge (λ_=>rfl) h.fn ?_;refine(h.run S m N Z _ h2 h3.self (by have:=FK (DU ht) λq hq=>h4.ev (hx q hq);simpa[Cp]using this)).mono ?_;rintro e w' ⟨v,r',S',m',N',Z',br,rfl,rfl,hm,G',hv,rfl,rfl⟩;obtain⟨G2,hle⟩:=Good.freeze (ex:=br) (ex':=[]) (by simpa using h3.after G') _ rfl;exact⟨v,rfl,{m' with F:=λb=>m'.F b\/b∈br},N',Z',rfl,hm,G2,((h4.mono G'.le).mono hle).put hd (VV.frz hle (λb hb=>⟨.inr hb,rfl⟩) hv)⟩
inductive CC:List AK->AV->AV->List AK->Prop
 |same {S:List AK} {a:AV}:CC S a a S
 |sl {S:List AK} {p X n sz:Nat} {t:TypeId} {l:List AV} (h:At S p (X,.row t sz l)) (hn:n=l.length):CC S (.sl X 0 n) (.lst true t sz l) (S.eraseIdx p)
 |ptr {S:List AK} {p X sz:Nat} {t:TypeId} {a:AV} (h:At S p (X,.row t sz [a])):CC S (.ptr X 0 0) (.bx t a) (S.eraseIdx p)
 |nil {S:List AK} {o:Bool} {t:TypeId} {sz:Nat}:CC S (.prim (.slice none 0 0)) (.lst o t sz []) S
inductive CCs:List AK->List AV->List AV->List AK->Prop
 |nil {S:List AK}:CCs S [] [] S
 |cons {S S1 S2:List AK} {a b:AV} {as bs:List AV} (h:CC S a b S1) (k:CCs S1 as bs S2):CCs S (a::as) (b::bs) S2
inductive CV:List AK->AV->AV->List AK->Prop
 |cell {S S':List AK} {a b:AV} (h:CC S a b S'):CV S a b S'
 |agg {S S':List AK} {as bs:List AV} (h:CCs S as bs S'):CV S (.agg as) (.agg bs) S'
inductive CVs:List AK->List AV->List AV->List AK->Prop
 |nil {S:List AK}:CVs S [] [] S
 |cons {S S1 S2:List AK} {a b:AV} {as bs:List AV} (h:CV S a b S1) (k:CVs S1 as bs S2):CVs S (a::as) (b::bs) S2
theorem Gh{α:Type}{l:List α}{p:Nat}{z:α}(h:l[p]?=some z):l.Perm (z::l.eraseIdx p):=by
 induction l generalizing p with
 |nil=>simp at h
 |cons a l ih=>
  cases p with
  |zero=>simp at h;subst h;exact .refl _
  |succ p=>exact((ih (p:=p) (by simpa using h)).cons a).trans (DF ..)
theorem E0{α β:Type}(f:α->β)(l:List α)(p:Nat):(l.eraseIdx p).map f=(l.map f).eraseIdx p:=by
 induction l generalizing p with
 |nil=>rfl
 |cons a l ih=>cases p with
  |zero=>rfl
  |succ p=>simp[ih]
theorem Good.take{m0 m:Mem}{N:Nat}{Z:Zs}{ex:List Nat}(G:Good m0 m N Z ex){p:Nat}{z:AK×List Nat}(h:Z[p]?=some z):Good m0 m N (Z.eraseIdx p) (ex++z.2)/\ORel m z.1.1 z.1.2 z.2:=by
 have hp:=Gh h;have G1:=G.perm hp;have hs:(Z.eraseIdx p).Sublist (z::Z.eraseIdx p):=WJ _ _
 have hP:(Zs.own (z::Z.eraseIdx p)++ex).Perm (Zs.own (Z.eraseIdx p)++(ex++z.2)):=by
  rw[CF,AF];refine List.perm_append_comm.trans ?_;rw[AF]
 refine⟨⟨λy hy=>G1.obj y (hs.subset hy),hP.nodup_iff.1 G1.own,λb hb=>G1.blk b (hP.mem_iff.2 hb),G1.frz,G1.keys.sublist (hs.map _),λx hx=>G1.keyN x ((hs.map _).subset hx),G1.usedN,G1.le,G1.os,G1.tape,G1.output,G1.size⟩,G1.obj z (A4 ..)⟩
theorem At.z{Z:Zs}{S:List AK}{p:Nat}{e:AK}(h:At S p e)(hm:Z.map (·.1)=S):∃bs,Z[p]?=some (e,bs):=by
 have:=h.get;rw[<-hm,Cn]at this;cases hz:Z[p]? with
 |none=>rw[hz]at this;cases this
 |some z=>
  rw[hz]at this;simp only[Au,AU]at this;exact⟨z.2,by rw[<-this]⟩
section
variable {m0 m:Mem}{N:Nat}
theorem CC.sound{S S':List AK}{a b:AV}(h:CC S a b S'):∀{Z:Zs} {ex:List Nat} {c:List Value},Good m0 m N Z ex->Z.map (·.1)=S->VC m a c []->∃Z' br,Z'.map (·.1)=S' /\Good m0 m N Z' (ex++br)/\VC m b c br:=by
 intro Z ex c G hm hv;cases h with
 |same=>exact⟨Z,[],hm,by simpa using G,hv⟩
 |nil=>
  rename_i o t sz;obtain⟨⟨rfl,_⟩,_⟩:=hv;refine⟨Z,[],hm,by simpa using G,?_⟩;cases o
  ·exact⟨rfl,none,0,rfl,AP _,by simp,λh=>by simp at h⟩
  ·exact .inl ⟨rfl,rfl,rfl⟩
 |sl hA hn=>
  rename_i p X n sz t l;subst hn;obtain⟨bs,hz⟩:=hA.z hm;obtain⟨G',hU,L,hL,hsz,hO⟩:=G.take hz;refine⟨Z.eraseIdx p,bs,by rw[E0,hm],G',?_⟩;obtain⟨_,_,A,q,rfl,hs⟩:=hv;rcases hs L hL with⟨h1,h2,_,h3⟩|⟨h1,h2,o,h3,h4⟩
  ·rcases hO with⟨_,rfl,rfl⟩|⟨h5,_⟩
   ·exact .inl ⟨by rw[h2],rfl,rfl⟩
   ·rw[h1]at h5;cases h5
  ·rcases hO with⟨h5,_⟩|⟨_,arr,bs',rfl,h6,h7,h8,h9,h10,h11⟩
   ·rw[h1]at h5;cases h5
   ·have:=h4 (.inr rfl)
    rw[Fb]at this;subst this;refine .inr ⟨L.blk,L.cap,arr,bs',by rw[h3,GZ],rfl,h6,h7,h8,h9,h10,h11⟩
 |ptr hA=>
  rename_i p X sz t e;obtain⟨bs,hz⟩:=hA.z hm;obtain⟨G',hU,L,hL,hsz,hO⟩:=G.take hz;refine⟨Z.eraseIdx p,bs,by rw[E0,hm],G',?_⟩;obtain⟨_,_,A,rfl,hs⟩:=hv;have hA':=hs L hL;rcases hO with⟨_,h5,_⟩|⟨_,arr,bs',rfl,h6,h7,h8,h9,h10,h11⟩
  ·cases h5
  ·have hw:e.width=sz:=h10 e (by simp)
   refine⟨L.blk,arr,bs',by rw[hA'];simp,rfl,h6,⟨L.cap,by rw[hw];exact h7,h8,h9⟩,?_⟩;rw[hw];simpa using VCs.one.1 h11
theorem CCs.sound{S S':List AK}{as bs:List AV}(h:CCs S as bs S'):∀{Z:Zs} {ex:List Nat} {c:List Value},Good m0 m N Z ex->Z.map (·.1)=S->VCs m as c []->∃Z' br,Z'.map (·.1)=S' /\Good m0 m N Z' (ex++br)/\VCs m bs c br:=by
 induction h with
 |nil=>intro Z ex c G hm hv;exact⟨Z,[],hm,by simpa using G,hv⟩
 |cons h k ih=>
  intro Z ex c G hm hv;obtain⟨c1,c2,b1,b2,rfl,e,h1,h2⟩:=hv;obtain⟨rfl,rfl⟩:b1=[]/\b2=[]:=by simpa using e.symm
  obtain⟨Z1,br1,hm1,G1,hv1⟩:=h.sound G hm h1;obtain⟨Z2,br2,hm2,G2,hv2⟩:=ih G1 hm1 h2;exact⟨Z2,br1++br2,hm2,by simpa using G2,c1,c2,br1,br2,rfl,rfl,hv1,hv2⟩
def KJ:AV->Bool
 |.agg _|.tup _|.dead|.opt .. =>false
 |_=>true
theorem Lb{a:AV}{u:Value}{bs:List Nat}(h:KJ a=true):VV m a u bs↔VC m a [u] bs:=by
 cases a<;>first|exact Iff.rfl|(simp[KJ]at h)
theorem CV.sound{S S':List AK}{a b:AV}(h:CV S a b S'):∀{Z:Zs} {ex:List Nat} {u:Value},Good m0 m N Z ex->Z.map (·.1)=S->VV m a u []->∃Z' br,Z'.map (·.1)=S' /\Good m0 m N Z' (ex++br)/\VV m b u br:=by
 intro Z ex u G hm hv;cases h with
 |cell h=>
  cases h with
  |same=>exact⟨Z,[],hm,by simpa using G,hv⟩
  |sl h1 h2=>exact CC.sound (.sl h1 h2) G hm hv
  |ptr h1=>exact CC.sound (.ptr h1) G hm hv
  |nil=>
   rename_i o t sz;have:=CC.sound (.nil (o:=o) (t:=t) (sz:=sz)) G hm ((Lb rfl).1 hv);exact this
 |agg h=>
  obtain⟨cells,rfl,hv⟩:=hv;obtain⟨Z',br,h1,h2,h3⟩:=h.sound G hm hv;exact⟨Z',br,h1,h2,cells,rfl,h3⟩
theorem CV.tup{S S':List AK}{a b:AV}(h:CV S a b S')(ha:ntup a=true):ntup b=true:=by
 cases h with
 |cell h=>cases h with
  |same=>exact ha
  |_=>rfl
 |agg h=>rfl
theorem CVs.sound{S S':List AK}{as bs:List AV}(h:CVs S as bs S'):∀{Z:Zs} {ex:List Nat} {us:List Value},Good m0 m N Z ex->Z.map (·.1)=S->VTs m as us []->∃Z' br,Z'.map (·.1)=S' /\Good m0 m N Z' (ex++br)/\VTs m bs us br:=by
 induction h with
 |nil=>intro Z ex c G hm hv;exact⟨Z,[],hm,by simpa using G,hv⟩
 |cons h k ih=>
  intro Z ex c G hm hv;rename_i a b as bs;have ha:=hv.ntup;obtain⟨u,us,b1,b2,rfl,e,h1,h2⟩:=(B8 ha).1 hv;obtain⟨rfl,rfl⟩:b1=[]/\b2=[]:=by simpa using e.symm
  obtain⟨Z1,br1,hm1,G1,hv1⟩:=h.sound G hm h1;obtain⟨Z2,br2,hm2,G2,hv2⟩:=ih G1 hm1 h2;exact⟨Z2,br1++br2,hm2,by simpa using G2,(B8 (h.tup ha)).2 ⟨u,us,br1,br2,rfl,rfl,hv1,hv2⟩⟩
end
inductive ResV(P:Program)(st:St):ResultVar->AV->Prop
 |tmp {t:Nat} {a:AV} (h:BR st.T t=some a):ResV P st (.tmp t) a
 |cell {t:Nat} {ty ty':TypeId} {X i k p sz n:Nat} {l:List AV} {e a:AV} {ag:Bool} (h:BR st.T t=some (.ptr X i k)) (hS:At st.S p (X,.row ty' sz l)) (hA:NH P ty=some ag) (hn:tSz P ty=some n) (hi:l[i]?=some e) (hp:Fm e.cells k n ag=some a):ResV P st (.cell t ty) a
inductive ResVs(P:Program)(st:St):List ResultVar->List AV->Prop
 |nil:ResVs P st [] []
 |cons {r:ResultVar} {rs:List ResultVar} {a:AV} {as:List AV} (h:ResV P st r a) (ht:ntup a=true) (k:ResVs P st rs as):ResVs P st (r::rs) (a::as)
def Md:List AV->AV
 |[a]=>a
 |l=>.tup l
def Ends(P:Program)(res:List ResultVar)(Sf:List AK)(Q:AV->List AK->Prop)(st:St):Prop:=
 ∃as bs S1 S',ResVs P st res as/\CVs st.S as bs S1/\(S'++Sf).Sublist S1/\Q (Md bs) S'
def Ty(P:Program)(res:List ResultVar)(Sf:List AK)(Q:AV->List AK->Prop):Exit->St->Prop
 |.normal,st|.ret,st=>Ends P res Sf Q st
 |_,_=>False
end
end
section
variable {ro:Option Nat}
open Go.RowKit
def Rb:Nat->List AV->List (Nat×AV)
 |_,[]=>[]
 |k,a::l=>(k,a)::Rb (k+1) l
theorem RC:∀(l:List AV) (k d:Nat) (v:AV),BR (Rb k l) d=some v->k<=d/\l[d-k]?=some v:=by
 intro l
 induction l with
 |nil=>intro k d v h;cases h
 |cons a l ih=>
  intro k d v h;rw[Rb,Bx]at h;split at h
  ·rename_i e;subst e;exact⟨AP _,by simpa using h⟩
  ·obtain⟨h1,h2⟩:=ih _ _ _ h
   refine⟨by omega,?_⟩;rw[show d-k=(d-(k+1))+1 from by omega];simpa using h2
theorem VTs.get{m:Mem}:∀{l:List AV} {us:List Value} {bs:List Nat},VTs m l us bs->us.length=l.length/\∀(i:Nat) (v:AV),bs=[]->l[i]?=some v->∃u,us[i]?=some u/\VV m v u []
 |[],us,bs,h=>⟨by rw[h.1];rfl,λi v _ hi=>by simp at hi⟩
 |a::l,us,bs,h=>by
  have ha:=VTs.ntup h;obtain⟨u,us',b1,b2,rfl,e,h1,h2⟩:=(B8 ha).1 h;obtain⟨h3,h4⟩:=VTs.get h2;refine⟨by simp[h3],λi v hb hi=>?_⟩;rw[hb]at e;obtain⟨rfl,rfl⟩:b1=[]/\b2=[]:=by simpa using e.symm
  cases i with
  |zero=>simp at hi;subst hi;exact⟨u,rfl,h1⟩
  |succ i=>exact h4 i v rfl (by simpa using hi)
def Kn(tmps:Array Value):ResultVar->Sem Value
 |.tmp t=>pure (tmps.getD t undef)
 |.cell a t=>do loadVar t (<-asAddr (tmps.getD a undef))
theorem PX(fn:Func)(tmps:Array Value):results fn tmps=(fn.results.mapM (Kn tmps)).bind λvs=>Sem.pure (if h:vs.size=1 then vs[0]else .tuple vs):=rfl
section
variable {P:Program}{m0 m:Mem}{N nt:Nat}
theorem ResV.run{st:St}{a:Act}{Z:Zs}{ex:List Nat}(G:Good m0 m N Z ex)(hm:Z.map (·.1)=st.S)(hT:TRel m0 m nt st.T a){r:ResultVar}{v:AV}(h:ResV P st r v):
  ∃u,VV m v u []/\(Kn a.tmps r).run P m.w= .ok u m.w:=by
 cases h with
 |tmp h=>
  rename_i t;obtain⟨u,h1,h2⟩:=hT.2.2 t v h;exact⟨u,h2,by simp[Kn,Bl,h1,AG]⟩
 |cell h hS hA hn hi hp=>
  rename_i t ty ty' X i k p sz n l e ag;obtain⟨u,h1,h2⟩:=hT.2.2 t _ h;obtain⟨bs,hz⟩:=hS.z hm;have hO:=G.obj _ (ND hz);obtain⟨L,arr,c,q,h3,h4,_,_,hb,hv,hcl,hc⟩:=hO.elem hi;obtain⟨_,_,A,e1,h5⟩:=h2;injection e1 with e1
  rw[h5 L h3,h4]at e1;obtain⟨h6,u',h7,h8⟩:=F5 hp hv.cells
  have:=Kl (P:=P) m.w ty hb (off:=i*sz+k) (c:=c.drop k) (λj u hj=>by
   rw[Jy];exact hc _ _ (by simpa[Ca]using hj)) hA hn (u:=u') (by
   rcases h8 with⟨h8,h9⟩|⟨h8,h9,h10⟩
   ·exact .inl ⟨h8,by rw[Dd];omega,h9⟩
   ·exact .inr ⟨h8,by simpa[Ca]using h10⟩)
  refine⟨u',h7,?_⟩;simp only[Instr.loadAt,Instr.sureAddr,AI,AG,AA]at this;simp[Kn,Bl,h1,e1,asAddr,AI,AG,AA,this]
theorem ResVs.run{st:St}{a:Act}{Z:Zs}{ex:List Nat}(G:Good m0 m N Z ex)(hm:Z.map (·.1)=st.S)(hT:TRel m0 m nt st.T a){rs:List ResultVar}{as:List AV}(h:ResVs P st rs as):
  ∃us,VTs m as us []/\(rs.mapM (Kn a.tmps)).run P m.w= .ok us m.w:=by
 induction h with
 |nil=>exact⟨[],⟨rfl,rfl⟩,by simp[AG]⟩
 |cons h ht k ih=>
  obtain⟨us,h1,h2⟩:=ih;obtain⟨u,h3,h4⟩:=h.run G hm hT;refine⟨u::us,(B8 ht).2 ⟨u,us,[],[],rfl,rfl,h3,h1⟩,?_⟩;rw[List.mapM_cons,AI,h4,AA,AI,h2,AA];rfl
theorem Ends.run{fn:Func}{res:List ResultVar}(hres:fn.results.toList=res){Sf:List AK}{Q:AV->List AK->Prop}{st:St}(h:Ends P res Sf Q st){a:Act}{Z:Zs}(G:Good m0 m N Z [])(hm:Z.map (·.1)=st.S)(hT:TRel m0 m nt st.T a):
  ∃v r S' Z' br,(results fn a.tmps).run P m.w= .ok v m.w/\Z'.map (·.1)=S'++Sf/\Good m0 m N Z' br/\VV m r v br/\Q r S':=by
 obtain⟨as,bs,S1,S',h1,h2,h3,h4⟩:=h;obtain⟨us,h5,h6⟩:=h1.run G hm hT;obtain⟨Z1,br,h7,h8,h9⟩:=h2.sound G hm h5;obtain⟨Z2,h10,h11⟩:=KZ _ h3 h7
 have hrun:(results fn a.tmps).run P m.w= .ok (if h:us.length=1 then us[0]else .tuple us.toArray) m.w:=by
  have hb:∀{α β:Type} (s:Sem α) (f:α->Sem β),s.bind f=(s>>=f):=λ_ _=>rfl
  rw[PX,hb,AI,Array.mapM_eq_mapM_toList,hres];simp only[Sem.run_map,h6,AA];show Result.ok _ _=_
  simp
 refine⟨_,Md bs,S',Z2,br,hrun,h11,(by simpa using h8:Good m0 m N Z1 br).sub h10,?_,h4⟩;obtain⟨h12,_⟩:=VTs.get h9
 match bs,h9,h12 with
 |[],h9,h12=>
  obtain⟨rfl,rfl⟩:=h9;exact⟨#[],rfl,rfl,rfl⟩
 |[b],h9,h12=>
  obtain⟨u,us',b1,b2,rfl,e,h13,h14,h15⟩:=(B8 h9.ntup).1 h9;subst h14 h15;simp only[BL]at e;subst e;simpa[Md]using h13
 |b::b'::bs,h9,h12=>
  rw[dif_neg (by rw[h12];simp)];exact⟨us.toArray,rfl,by simpa using h9⟩
theorem Good.unmark{m0 m:Mem}{N:Nat}{Z:Zs}{ex:List Nat}{d:Nat}(G:Good m0 m N Z ex)(h0:∀b,m0.F b->b<m0.w.heap.size)(hd0:m0.w.heap.size<=d)(hF:m.F d)(hd:m.w.heap[d]?=some (.deferred (some []))):
  m.LeC {m with w:=m.w.putObj d (.deferred none),F:=λb=>m.F b/\b≠d}/\Good m0 {m with w:=m.w.putObj d (.deferred none),F:=λb=>m.F b/\b≠d} N Z ex:=by
 have hle:m.LeC {m with w:=m.w.putObj d (.deferred none),F:=λb=>m.F b/\b≠d}:=
  ⟨λ_ h=>h,λ_ _ _ h=>h,λb hb ⟨arr,t,r,hc⟩=>by
   have hne:b≠d:=by rintro rfl;rw[hd]at hc;cases hc
   exact⟨⟨hb,hne⟩,DI hne⟩⟩
 have hown:∀b∈Z.own++ex,b≠d:=λb hb e=>(G.blk b hb).2 (e▸hF)
 refine⟨hle,λz hz=>?_,G.own,λb hb=>⟨by rw[show(World.heap _).size=_ from S9];exact(G.blk b hb).1,λh=>(G.blk b hb).2 h.1⟩,λb hb=>by rw[show(World.heap _).size=_ from S9];exact G.frz b hb.1,G.keys,G.keyN,G.usedN,?_,G.os,G.tape,G.output,by rw[show(World.heap _).size=_ from S9];exact G.size⟩
 ·refine ORel.monoC hle (λe=>?_) (λL h=>h) (λb hb=>DI (hown b ?_)) (G.obj z hz)
  ·have:=G.obj z hz
   rw[e]at this;exact this.2
  ·exact List.mem_append_left _ (Dc.2 ⟨z,hz,hb⟩)
 ·refine⟨G.le.U,G.le.μ,λb hb=>?_⟩
  have hne:b≠d:=by have:=h0 b hb;omega
  exact⟨⟨(G.le.F b hb).1,hne⟩,(DI hne).trans (G.le.F b hb).2⟩
theorem NR{P:Program}{m0 m:Mem}{nt:Nat}{T:List (Nat×AV)}{a:Act}{fn:Func}{R:Ending->World->Prop}(h0:∀b,m0.F b->b<m0.w.heap.size)(hT:TRel m0 m nt T a)
  (k:∀m',(∀N Z,Good m0 m N Z []->Good m0 m' N Z [])->TRel m0 m' nt T {a with defers:=[]}->∃v,(results fn a.tmps).run P m'.w= .ok v m'.w/\R (.returned v) m'.w):LeavesInM (FW none) 0 P fn a.tmps R a.defers .returning m.w:=by
 obtain⟨hn,⟨ds,hds,hnd,hD⟩,hV⟩:=hT;rw[hds];clear hds
 induction ds generalizing m with
 |nil=>
  simp only[Bj,LeavesInM,LeavesIn];exact k m (λ_ _ h=>h) ⟨hn,DRel.nil rfl,hV⟩
 |cons d ds ih=>
  obtain⟨h1,h2,h3⟩:=hD d (by simp);rw[Bs]at hnd
  have hle:m.LeC {m with w:=m.w.putObj d (.deferred none),F:=λb=>m.F b/\b≠d}:=
   ⟨λ_ h=>h,λ_ _ _ h=>h,λb hb ⟨arr,t,r,hc⟩=>by
    have hne:b≠d:=by rintro rfl;rw[h3]at hc;cases hc
    exact⟨⟨hb,hne⟩,DI hne⟩⟩
  refine⟨by simp,.inl ⟨d,m.w.putObj d (.deferred none),rfl,run_takeDeferred h3,?_⟩⟩;refine ih (m:={m with w:=m.w.putObj d (.deferred none),F:=λb=>m.F b/\b≠d}) (λm' hG hT'=>k m' (λN Z G=>hG N Z (G.unmark h0 h1 h2 h3).2) hT') (λe v he=>?_) hnd.2 λx hx=>?_
  ·obtain⟨u,hu1,hu2⟩:=hV e v he
   exact⟨u,hu1,VV.monoC hle (by simp) hu2⟩
  ·have hne:x≠d:=by rintro rfl;exact hnd.1 hx
   obtain⟨h4,h5,h6⟩:=hD x (by simp[hx]);exact⟨h4,⟨h5,hne⟩,(DI hne).trans h6⟩
theorem Spec.of{f:FuncId}{fn:Func}{c:Code}{args:List AV}{S:List AK}{Q:AV->List AK->Prop}{res:List ResultVar}{nt:Nat}(hf:P.funcs[f]?=some fn)(hb:fn.body=some c)(hfn:MD P f=true)(hnt:fn.ntmps=nt)(hres:fn.results.toList=res)(hn:Nat.ble args.length nt=true)
  (h:∀Sf,AWP none P nt c (Ty P res Sf Q) ⟨Rb 0 args,S++Sf⟩):Spec P f args S Q:=by
 subst hnt;have hn:=Gb hn;refine⟨hfn,λSf m N Z vals hm G hv=>Oy (ro:=none) (n:=0) (callsIn_of_wp_marks (F:=FW none) hf hb C9 ?_ rfl)⟩;obtain⟨hl,hget⟩:=VTs.get hv;have hl':vals.size=args.length:=by simpa using hl
 have hr:Rel fn.ntmps m ⟨Rb 0 args,S++Sf⟩ {tmps:=vals++Array.replicate (fn.ntmps-vals.size) undef,defers:=[]} m.w:=by
  refine⟨m,N,Z,rfl,hm,G,by simp;omega,DRel.nil rfl,λd v hd=>?_⟩;obtain⟨_,h2⟩:=RC _ _ _ _ hd;simp only[GZ]at h2;obtain⟨u,h3,h4⟩:=hget d v rfl h2;have hdl:d<vals.size:=by have:=(AC.1 h3).1;simpa using this
  exact⟨u,by rw[Array.getElem?_append_left hdl];simpa using h3,h4⟩
 refine J1 (h Sf m _ _ hr) λe a w ⟨st',hr',hq⟩=>?_
 obtain⟨m',N',Z',rfl,hm',G',hT⟩:=hr'
 have fin:Ends P res Sf Q st' ->LeavesInM (FW none) 0 P fn a.tmps (λe w'=>∃v' r S' m'' N'' Z'' br,e= .returned v' /\m''.w=w' /\Z''.map (·.1)=S'++Sf/\Good m m'' N'' Z'' br/\VV m'' r v' br/\Q r S') a.defers .returning m'.w:=λhE=>
  NR G.frz hT λm'' G'' hT'=>by
   obtain⟨v,r,S',Z'',br,h1,h2,h3,h4,h5⟩:=hE.run hres (G'' _ _ G') hm' hT';exact⟨v,h1,v,r,S',m'',N',Z'',br,rfl,rfl,h2,h3,h4,h5⟩
 cases e with
 |normal=>exact fin hq
 |ret=>exact fin hq
 |_=>exact hq.elim
end
end
section
variable {ro:Option Nat}
open Go.RowKit
section
variable {P:Program}{nt:Nat}{m0 m:Mem}{N:Nat}{R:Zs}{ex:List Nat}{X Y:Nat}{t te t' ty:TypeId}{sz:Nat}{l:List AV}{st:St}
variable {o:Oper}{v:AV}{x y z:Operand}{pos:String}{after:Array Edge}{g:Option (Nat×Bool)}{dst:Option Tmp}{p q:Nat}{u1 u2:Value}
theorem OpT.or_opt{b c:Bool}:OpT P ⟨dst,.pick x y z,ty,pos,after,g⟩ [(x,.prim (.bool b)),(y,.prim (.bool true)),(z,.opt (b==false) (.prim (.bool c)))] [] (.prim (.bool (b||c))) []:=
 .pure_ λm a hx _=>by
  have h1:=(hx (x,.prim (.bool b)) (by simp)).prim;have h2:=(hx (y,.prim (.bool true)) (by simp)).prim;have h3:=(hx (z,.opt (b==false) (.prim (.bool c))) (by simp)).2.1;simp only at h1 h2 h3;refine⟨_,?_,Cc _⟩;cases b
  ·have h4:a.eval z= .bool c:=VV.prim (m:=m) (bs:=[]) (h3 rfl)
   simp[execOp,h1,h4,asBool,AI,AG,AA]
  ·simp[execOp,h1,h2,asBool,AI,AG,AA]
theorem OpT.and_opt{b c:Bool}:OpT P ⟨dst,.pick x y z,ty,pos,after,g⟩ [(x,.prim (.bool b)),(y,.opt (b==true) (.prim (.bool c))),(z,.prim (.bool false))] [] (.prim (.bool (b&&c))) []:=
 .pure_ λm a hx _=>by
  have h1:=(hx (x,.prim (.bool b)) (by simp)).prim;have h2:=(hx (y,.opt (b==true) (.prim (.bool c))) (by simp)).2.1;have h3:=(hx (z,.prim (.bool false)) (by simp)).prim;simp only at h1 h2 h3;refine⟨_,?_,Cc _⟩;cases b
  ·simp[execOp,h1,h3,asBool,AI,AG,AA]
  ·have h4:a.eval y= .bool c:=VV.prim (m:=m) (bs:=[]) (h2 rfl)
   simp[execOp,h1,h4,asBool,AI,AG,AA]
theorem Good.one{zs zs':Zs}(G:Good m0 m N (zs++R) ex)(m':Mem)(N':Nat)(hw:m'.w=m.w)(hF:m'.F=m.F)(hle:m.Le m')(hN:N<=N')(hμ:∀y,y∉zs.keys->y<N->m'.μ y=m.μ y)
  (hobj:∀z∈zs',ORel m' z.1.1 z.1.2 z.2) (hown:zs'.own=zs.own) (hkeys:zs'.keys.Nodup) (hkeyN:∀y∈zs'.keys,y<N' /\(y∈zs.keys\/N<=y)) (hU:∀y,m'.U y->y<N' /\(m.U y\/y∈zs.keys\/N<=y)):Good m0 m' N' (zs'++R) ex:=by
 refine Good.swap G hle hN hμ (λb _ _ _=>by rw[hw]) hobj ?_ ?_ ?_ hkeys hkeyN hU (by rw[hw]) (by rw[hw]) (by rw[hw]) (by rw[hw];exact AP _)
 ·rw[hown]
  have h:=G.own;rw[EE,AF]at h
  have hp:(zs.own++(R.own++ex)).Perm ((zs.own++ex)++R.own):=by
   rw[AF];exact BO _ Aw
  exact(AL.1 (hp.nodup_iff.1 h)).1
 ·intro b hb
  rw[hown]at hb
  have hb':b∈Zs.own (zs++R)++ex:=by
   rw[EE];rcases AN.1 hb with h|h<;>simp[h]
  rw[hw,hF];exact⟨(G.blk b hb').1,(G.blk b hb').2,by rcases AN.1 hb with h|h<;>simp[h]⟩
 ·intro b hb
  rw[hF]at hb;rw[hw];exact⟨G.frz b hb,.inl hb⟩
theorem St.reserve(st:St):Fu nt st λst'=>∃X,st'=⟨st.T,(X,.gone)::st.S⟩:=by
 rintro m0 a w ⟨m,N,Z,rfl,h2,h3,h4⟩;refine⟨⟨st.T,(N,.gone)::st.S⟩,⟨m,N+1,((N,.gone),[])::Z,rfl,by simp[h2],?_,h4⟩,N,rfl⟩;refine Good.one (zs:=[]) (zs':=[((N,.gone),[])]) (R:=Z) h3 m (N+1) rfl rfl (.refl _) (by omega) (λ_ _ _=>rfl) ?_ rfl (by simp[Zs.keys]) ?_ ?_
 ·intro z hz
  simp only[AS]at hz;subst hz;exact⟨rfl,λh=>HA _ (h3.usedN _ h)⟩
 ·intro y hy
  simp[Zs.keys]at hy;omega
 ·intro y hy
  have:=h3.usedN y hy;exact⟨by omega,.inl hy⟩
theorem AOps.reserve{ops:Array Oper}{Q:Exit->St->Prop}{rest:List Oper}(k:∀X,AOps ro P nt ops Q rest ⟨st.T,(X,.gone)::st.S⟩):AOps ro P nt ops Q rest st:=.ghost (St.reserve st) (by rintro _ ⟨X,rfl⟩;exact k X)
theorem AWP.reserve{c:Code}{Q:Exit->St->Prop}(k:∀X,AWP ro P nt c Q ⟨st.T,(X,.gone)::st.S⟩):AWP ro P nt c Q st:=.ghost (St.reserve st) (by rintro _ ⟨X,rfl⟩;exact k X)
theorem Good.adopt(G:Good m0 m N R ex)(t:TypeId)(sz:Nat):∃m',m'.w=m.w/\Good m0 m' (N+1) (((N,.row t sz []),[])::R) ex/\m.Le m' /\VC m' (.sl N 0 0) [.slice none 0 0] []:=by
 have hNU:¬m.U N:=λh=>HA _ (G.usedN _ h)
 let m':Mem:=⟨λy=>if y=N then some ⟨0,0,sz,true⟩else m.μ y,λy=>m.U y\/y=N,m.w,m.F⟩
 have hle:m.Le m':=by
  refine⟨λy h=>.inl h,λy L hy hL=>?_,λb hb=>⟨hb,rfl⟩⟩;simp only[m']at hL;split at hL
  ·rename_i e;subst e;exact absurd hy hNU
  ·exact hL
 refine⟨m',rfl,?_,hle,rfl,.inr rfl,none,0,rfl,λL hL=>?_⟩
 ·refine Good.one (zs:=[]) (zs':=[((N,.row t sz []),[])]) (R:=R) G m' (N+1) rfl rfl hle (by omega) (λy _ hy=>by simp only[m'];rw[Ah (by omega)]) ?_ rfl (by simp[Zs.keys]) ?_ ?_
  ·intro z hz
   simp only[AS]at hz;subst hz;exact⟨.inr rfl,⟨0,0,sz,true⟩,by simp[m'],rfl,.inl ⟨rfl,rfl,rfl⟩⟩
  ·intro y hy
   simp[Zs.keys]at hy;omega
  ·intro y hy
   rcases hy with hy|rfl
   ·have:=G.usedN y hy
    exact⟨by omega,.inl hy⟩
   ·exact⟨by omega,.inr (.inr (AP _))⟩
 ·simp only[m',GK,AU]at hL
  subst hL;exact .inl ⟨rfl,rfl,rfl,rfl⟩
theorem TRel.over{T:List (Nat×AV)}{a:Act}(h:TRel m0 m nt T a){d:Nat}{v w:AV}(hd:BR T d=some v)(hv:∀u,VV m v u []->VV m w u []):TRel m0 m nt ((d,w)::T) a:=
 ⟨h.1,h.2.1,λe v' he=>by
  rw[Bx]at he;split at he
  ·rename_i e';subst e'
   injection he with he;subst he
   obtain⟨u,h1,h2⟩:=h.2.2 _ v hd;exact⟨u,h1,hv u h2⟩
  ·exact h.2.2 e v' he⟩
theorem St.adopt{d:Nat}(t:TypeId)(sz:Nat)(hd:BR st.T d=some (.prim (.slice none 0 0))):Fu nt st λst'=>∃X,st'=⟨(d,.sl X 0 0)::st.T,(X,.row t sz [])::st.S⟩:=by
 rintro m0 a w ⟨m,N,Z,rfl,h2,h3,h4⟩;obtain⟨m',hw,G',hle,hv⟩:=h3.adopt t sz;refine⟨_,⟨m',N+1,_,hw,by simp[h2],G',?_⟩,N,rfl⟩;refine(h4.mono hle).over hd λu hu=>?_
 have:=hu.prim;subst this;exact hv
theorem Good.iced{bs:List Nat}(G:Good m0 m N (((X,.row t sz l),bs)::R) ex):∃m',m'.w=m.w/\Good m0 m' N (((X,.used),[])::R) ex/\m.Le m' /\(∀off n c,off+n<=l.length->VC m (.sl X off n) c []->VC m' (.lst false t sz (AV.frzs ((l.drop off).take n))) c [])/\∀e c,l=[e]->VC m (.ptr X 0 0) c []->VC m' (.fp e.frz.cells) c []:=by
 have hO:=G.obj _ (A4 ..);obtain⟨hU,L,hL,hsz,hO⟩:=hO
 have hp:(Zs.own (((X,AO.row t sz l),bs)::R)++ex).Perm (Zs.own (((X,AO.used),[])::R)++(bs++ex)):=by
  simp only[CF,EN];rw[AF];refine List.perm_append_comm.trans ?_;rw[AF];exact BO _ Aw
 have G1:Good m0 m N (((X,.used),[])::R) (bs++ex):=by
  refine⟨?_,hp.nodup_iff.1 G.own,λb hb=>G.blk b (hp.mem_iff.2 hb),G.frz,G.keys,G.keyN,G.usedN,G.le,G.os,G.tape,G.output,G.size⟩;intro z hz;rcases AW.1 hz with rfl|hz
  ·exact⟨rfl,hU⟩
  ·exact G.obj z (G8 _ hz)
 obtain⟨G2,hle⟩:=G1.freeze _ rfl;refine⟨{m with F:=λb=>m.F b\/b∈bs},rfl,G2,hle,?_,?_⟩
 rotate_left
 ·rintro e c rfl ⟨_,hU',A,rfl,hA⟩
  rw[hA L hL];rcases hO with⟨_,h5,_⟩|⟨_,arr,bs',rfl,h6,h7,h8,h9,h10,h11⟩
  ·cases h5
  ·have hw:e.width=sz:=h10 e (by simp)
   have hv:VC m e (arr.toList.take sz) bs':=by simpa using VCs.one.1 h11
   have hf:=VC.cells (VC.frz hle e (λb hb=>⟨.inr (by simp[hb]),rfl⟩) hv);refine⟨rfl,L.blk,0*L.sz+0,arr,t,(0,0),rfl,.inr (by simp),h6,?_⟩
   have hl:AV.widths e.frz.cells=sz:=by
    rw[<-VCs.len _ hf,CN,BJ];have:=VC.len _ hv;rw[CN]at this;omega
   rw[hl];simpa using hf
 intro off n c hn hv;obtain⟨_,_,A,q,rfl,hs⟩:=hv;have hfl:(AV.frzs ((l.drop off).take n)).length=n:=by rw[Fq,CN,Dd];omega
 refine⟨rfl,A,q,by rw[hfl],?_,?_,?_⟩
 ·rcases hs L hL with⟨_,h2,_,h3⟩|⟨_,h2,o,h3,_⟩
  ·omega
  ·injection h3 with h4 h5 h6
   omega
 ·intro e he
  rw[Fp]at he;obtain⟨e',he',rfl⟩:=BH.1 he;rw[Fj];rcases hO with⟨_,rfl,_⟩|⟨_,arr,bs',_,_,_,_,_,hw,_⟩
  ·simp at he'
  ·exact hw e' (Ae (Ad he'))
 ·intro h0
  rw[hfl]at h0⊢;rcases hs L hL with⟨_,_,_,h3⟩|⟨h1,h2,o,h3,h4⟩
  ·omega
  ·rcases hO with⟨_,rfl,_⟩|⟨_,arr,bs',rfl,h6,h7,h8,h9,h10,h11⟩
   ·simp at hn;omega
   ·injection h3 with h12 h13 h14
    have ho:=h4 (.inl (by omega));obtain⟨p1,p2,e1,_,k1⟩:=VCs.take h10 h11 (k:=off) (by omega);obtain⟨p3,p4,e2,k2,_⟩:=VCs.take (l:=l.drop off) (λe he=>h10 e (Ae he)) k1 (k:=n) (by rw[Dd];omega);refine⟨L.blk,o,arr,t,(0,0),h12,.inr (by simp),h6,?_⟩
    have hc:(arr.toList.drop o).take (n*sz)=((arr.toList.take (l.length*sz)).drop (off*sz)).take (n*sz):=by
     rw[ho,hsz,Ee,Cj,BJ];rw[<-Nat.sub_mul];exact Az _ (by omega)
    rw[hc];refine VCs.frz hle _ (λb hb=>⟨.inr ?_,rfl⟩) k2;rw[e1,e2];simp[hb]
theorem St.ice{d n:Nat}(hd:BR st.T d=some (.sl X 0 n))(hS:At st.S p (X,.row t sz l))(hn:n=l.length):Fu nt st λst'=>st'=⟨(d,.lst false t sz (AV.frzs l))::st.T,st.S.set p (X,.used)⟩:=by
 rintro m0 a w ⟨m,N,Z,rfl,h2,h3,h4⟩;obtain⟨bs,hz⟩:=hS.z h2;obtain⟨R,hp1,hp2⟩:=DC hz;obtain⟨m',hw,G',hle,hv,_⟩:=(h3.perm hp1).iced;refine⟨_,⟨m',N,Z.set p ((X,.used),[]),hw,by rw[A8,h2],G'.perm (hp2 _).symm,?_⟩,rfl⟩;have hk:BR st.T d=some (.sl X 0 n):=hd;refine⟨h4.1,h4.2.1.mono hle,λe v' he=>?_⟩;rw[Bx]at he;split at he
 ·rename_i e';subst e'
  injection he with he;subst he
  obtain⟨u,h5,h6⟩:=h4.2.2 _ _ hk;refine⟨u,h5,?_⟩;have:=hv 0 n [u] (by omega) h6;rwa[Dq,Al (by omega)]at this
 ·obtain⟨u,h5,h6⟩:=h4.2.2 e v' he
  exact⟨u,h5,h6.mono hle (by simp)⟩
theorem OpT.slice_hi{k:IntKind}{off n hi:Nat}{qi:Int}(he:Dn P t=some te)(hsz:tSz P te=some sz)(hq:qi=(hi:Int))(hh:hi<=n):OpT P ⟨dst,.slice t x none (some y) none,ty,pos,after,g⟩ [(x,.sl X off n),(y,.prim (.int k qi))] [(p,(X,.row t' sz l))] (.sl X off hi) []:=
 .pure_ λm a hx hS=>by
  obtain⟨bs,hU,L,h1,h2,_⟩:=hS (p,(X,.row t' sz l)) (by simp);obtain⟨_,hU',A,c,e1,h3⟩:=hx (x,.sl X off n) (by simp);have hy:=(hx (y,.prim (.int k qi)) (by simp)).prim;injection e1 with e1
  simp only at e1 hy;subst hq
  have hcap:hi<=c:=by
   rcases h3 L h1 with⟨_,e,_,e'⟩|⟨_,h4,o,e,_⟩
   ·omega
   ·injection e with _ _ e;omega
  have hr:=Ez (P:=P) (w:=m.w) he hsz (A:=A) (len:=n) (cap:=c) (lo:=0) (hi:=hi) (vl:=none) (vh:=some (.int k hi)) (by simp) (by simp) (λu hu=>⟨k,by injection hu with hu;exact hu.symm⟩) (by simp) (by omega) hcap;refine⟨_,by simp only[execOp,Er,Au,e1,hy,AI,hr,AA];rfl,rfl,hU',_,_,rfl,λL' hL'=>?_⟩;rw[h1]at hL';injection hL' with hL';subst hL'
  rcases h3 L h1 with⟨h5,e,e2,e3⟩|⟨h5,h4,o,e,h6⟩
  ·injection e with e4 e5 e6
   subst e4 e6;have:hi=0:=by omega
   subst this;exact .inl ⟨h5,by simp,e2,rfl⟩
  ·injection e with e4 e5 e6
   subst e4 e6;refine .inr ⟨h5,by omega,o,?_,h6⟩;simp only[Fb,GZ,Au];split
   ·rfl
   ·rw[FM,Dp]
theorem OpT.slice_lst_hi{k:IntKind}{hi:Nat}{qi:Int}(he:Dn P t=some te)(hsz:tSz P te=some sz)(hq:qi=(hi:Int))(hh:hi<=l.length):OpT P ⟨dst,.slice t x none (some y) none,ty,pos,after,g⟩ [(x,.lst false t' sz l),(y,.prim (.int k qi))] [] (.lst false t' sz (l.take hi)) []:=
 .pure_ λm a hx hS=>by
  obtain⟨_,A,c,e1,h3,hw,h4⟩:=hx (x,.lst false t' sz l) (by simp);have hy:=(hx (y,.prim (.int k qi)) (by simp)).prim;injection e1 with e1
  simp only at e1 hy;subst hq;have hr:=Ez (P:=P) (w:=m.w) he hsz (A:=A) (len:=l.length) (cap:=c) (lo:=0) (hi:=hi) (vl:=none) (vh:=some (.int k hi)) (by simp) (by simp) (λu hu=>⟨k,by injection hu with hu;exact hu.symm⟩) (by simp) (by omega) (by omega);have hl:(l.take hi).length=hi:=by rw[CN];omega
  refine⟨_,by simp only[execOp,Er,Au,e1,hy,AI,hr,AA];rfl,rfl,A,c,?_,by rw[hl];omega,λe he=>hw e (Ad he),λh0=>?_⟩
  ·rw[hl]
   congr 2
   simp only[Fb,GZ];split
   ·rfl
   ·cases A with
    |none=>rfl
    |some ad=>rfl
  ·rw[hl]at h0⊢
   obtain⟨b,off,arr,tt,r,rfl,hF,hb,hc⟩:=h4 (by omega);obtain⟨p1,p2,e2,h5,_⟩:=VCs.take hw hc hh;obtain⟨rfl,rfl⟩:p1=[]/\p2=[]:=by simpa using e2.symm
   refine⟨b,off,arr,tt,r,rfl,hF,hb,?_⟩;rw[Cj,BJ (Az _ hh)]at h5;exact h5
theorem OpT.slice_lst_lo{k:IntKind}{lo:Nat}{qi:Int}(he:Dn P t=some te)(hsz:tSz P te=some sz)(hq:qi=(lo:Int))(hh:lo<=l.length):OpT P ⟨dst,.slice t x (some y) none none,ty,pos,after,g⟩ [(x,.lst false t' sz l),(y,.prim (.int k qi))] [] (.lst false t' sz (l.drop lo)) []:=
 .pure_ λm a hx hS=>by
  obtain⟨_,A,c,e1,h3,hw,h4⟩:=hx (x,.lst false t' sz l) (by simp);have hy:=(hx (y,.prim (.int k qi)) (by simp)).prim;injection e1 with e1
  simp only at e1 hy;subst hq;have hr:=Ez (P:=P) (w:=m.w) he hsz (A:=A) (len:=l.length) (cap:=c) (lo:=lo) (hi:=l.length) (vl:=some (.int k lo)) (vh:=none) (λu hu=>⟨k,by injection hu with hu;exact hu.symm⟩) (by simp) (by simp) (by simp) hh h3;have hl:(l.drop lo).length=l.length-lo:=by rw[Dd]
  refine⟨_,by simp only[execOp,Er,Au,e1,hy,AI,hr,AA];rfl,rfl,_,c-lo,by rw[hl],by rw[hl];omega,λe he=>hw e (Ae he),λh0=>?_⟩;rw[hl]at h0⊢;obtain⟨b,off,arr,tt,r,rfl,hF,hb,hc⟩:=h4 (by omega);obtain⟨p1,p2,e2,_,h5⟩:=VCs.take hw hc hh;obtain⟨rfl,rfl⟩:p1=[]/\p2=[]:=by simpa using e2.symm
  rw[Ah (by omega)];refine⟨b,off+lo*sz,arr,tt,r,by rw[Au,FM],hF,hb,?_⟩;rw[Ee,Dr,<-Nat.sub_mul]at h5;exact h5
end
end
section
open Go.RowKit
def PK(P:Program)(t:TypeId):Option (TypeId×Nat×Nat):=match P.underlying t with
 |some (.slice e)=>match P.info? e with
  |some i=>match i.zero with
   |some z=>match Nat.beq z.cells.size i.size&&Nat.blt 0 i.size with
    |true=>some (e,i.size,i.bytes)
    |false=>none
   |none=>none
  |none=>none
 |_=>none
theorem MT{P:Program}{t e:TypeId}{sz by_:Nat}(h:PK P t=some (e,sz,by_)):∃i z,P.underlying t=some (.slice e)/\P.info? e=some i/\i.zero=some z/\i.size=sz/\i.bytes=by_/\z.cells.size=sz/\0<sz:=by
 unfold PK at h;split at h
 ·rename_i e' he
  split at h
  ·rename_i i hi
   split at h
   ·rename_i z hz
    split at h
    ·rename_i hb
     simp only[AE]at hb;simp only[AU,DT]at h;obtain⟨rfl,rfl,rfl⟩:=h;exact⟨i,z,he,hi,hz,rfl,rfl,C5 hb.1,by simpa[HV]using hb.2⟩
    ·cases h
   ·cases h
  ·cases h
 ·cases h
section
variable {P:Program}{nt:Nat}{m0 m:Mem}{N:Nat}{R:Zs}{ex:List Nat}{X Y:Nat}{t te t' ty:TypeId}{sz by_:Nat}{l ls:List AV}{st:St}
variable {o:Oper}{v:AV}{x y z:Operand}{pos:String}{after:Array Edge}{g:Option (Nat×Bool)}{dst:Option Tmp}{p q:Nat}{u1 u2:Value}
theorem HF(T:PK P t=some (te,sz,by_))(w:World)(ty:TypeId){v:Value}{n:Nat}{xs news:List Value}(hown:w.ownsRow 0 te sz v n xs){A:Option Addr}{k c:Nat}(hk:k<=c)(hl:news.length=k*sz)
  (hn:0<k->∃b off,A=some ⟨b,off,none⟩/\∀j u,news[j]?=some u->w.cell? ⟨b,off+j,none⟩=some u) (h1:∀u∈news,u.oneCell'=true) (hbytes:(n+k)*by_<=140737488355328) (hlen:n+k<=maxLen):
  ∃v' w',(Builtin.append_ #[t,t] ty #[v,.slice A k c]).run P w= .ok v' w' /\w'.ownsRow 0 te sz v' (n+k) (xs++news)/\w.grownBy w' v.ownBlock/\(v'.ownBlock=v.ownBlock\/v'.ownBlock=some w.heap.size):=by
 obtain⟨i,z,ht,hi,hz,h3,h4,hzs,hsz⟩:=MT T;rcases A with _|ad
 ·have hm:k=0:=by
   rcases Fy k with h0|h0
   ·exact h0
   ·obtain⟨b,off,h,_⟩:=hn h0
    cases h
  subst hm;have hnn:news=[]:=Cz (by simpa using hl);subst hnn;refine⟨v,w,?_,by simpa using hown,World.grownBy.refl w _,.inl rfl⟩;rcases hown.2 with⟨rfl,rfl⟩|⟨g,cap,cur,rfl,_,_,hnc,_⟩
  ·simp[Builtin.append_,A7 ht,sizeOf,typeInfo,hi,Builtin.lenOf,Builtin.firstCells]
  ·simp[Builtin.append_,A7 ht,sizeOf,typeInfo,hi,Builtin.lenOf,Builtin.firstCells,hnc,storeCells]
 ·have hcells:∀j u,news[j]?=some u->w.cell? (ad.add j)=some u:=by
   intro j u hu;rcases Fy k with h0|h0
   ·subst h0
    have hnn:news=[]:=Cz (by simpa using hl);subst hnn;simp at hu
   ·obtain⟨b,off,h,hc⟩:=hn h0
    injection h with h
    subst h;rw[FM];exact hc j u hu
  obtain⟨v',w',hrun,h2,h5,_,h6⟩:=run_append_own_at (P:=P) w 0 t ty te i z sz by_ ht hi hz h3 h4 hzs hsz v n xs hown ad k c news hl hcells h1 hlen hbytes (Ap _);exact⟨v',w',hrun,h2,h5,h6⟩
theorem NC{bs:List Nat}(h:ORel m X (.row te sz l) bs){u:Value}(hu:VV m (.sl X 0 l.length) u []):∃xs bs0,m.w.ownsRow 0 te sz u l.length xs/\VCs m l xs bs0/\(∀e∈l,e.width=sz)/\((u.ownBlock=none/\bs=[]/\bs0=[])\/∃g,u.ownBlock=some g/\bs=g::bs0):=by
 obtain⟨hU,L,hL,hsz,hO⟩:=h;obtain⟨_,_,A,q,e,hs⟩:=hu;injection e with e
 rcases hs L hL with⟨h1,h2,_,h3⟩|⟨h1,h2,o,h3,h4⟩
 ·rcases hO with⟨_,rfl,rfl⟩|⟨h5,_⟩
  ·exact⟨[],[],⟨by simp,.inl ⟨e.trans h2,rfl⟩⟩,VCs.nil,by simp,.inl ⟨by rw[e,h2];rfl,rfl,rfl⟩⟩
  ·rw[h1]at h5;cases h5
 ·rcases hO with⟨h5,_⟩|⟨_,arr,bs0,rfl,h6,h7,h8,h9,h10,h11⟩
  ·rw[h1]at h5;cases h5
  ·have ho:=h4 (.inr rfl)
   rw[Fb]at ho;subst ho;refine⟨arr.toList.take (l.length*sz),bs0,⟨?_,.inr ⟨L.blk,L.cap,arr,by rw[e,h3,GZ],Ap _,h6,h8,h9,h7,rfl⟩⟩,h11,h10,.inr ⟨L.blk,by rw[e,h3];rfl,rfl⟩⟩;have h12:=Az sz h8;have h13:arr.toList.length=L.cap*sz:=by simpa using h7
   rw[CN];omega
theorem Good.app{bs bsY:List Nat}(G:Good m0 m N (((Y,.gone),bsY)::((X,.row te sz l),bs)::R) ex){u v':Value}{xs news:List Value}{w':World}{bs0:List Nat}(hv:VCs m l xs bs0)(hn:VCs m ls news [])(hw:∀e∈l++ls,e.width=sz)(hbs:(u.ownBlock=none/\bs=[]/\bs0=[])\/∃g,u.ownBlock=some g/\bs=g::bs0)
  (hown:w'.ownsRow 0 te sz v' (l.length+ls.length) (xs++news)) (hg:m.w.grownBy w' u.ownBlock) (hat:v'.ownBlock=u.ownBlock\/v'.ownBlock=some m.w.heap.size):
  ∃m' bs',m'.w=w' /\Good m0 m' N (((X,.used),[])::((Y,.row te sz (l++ls)),bs')::R) ex/\m.Le m' /\VV m' (.sl Y 0 (l.length+ls.length)) v' []:=by
 obtain⟨rfl,hYU⟩:=G.obj _ (A4 ..);have hXU:=(G.obj ((X,.row te sz l),bs) (by simp)).1;have hYN:=G.keyN Y (by simp[Zs.keys]);have hXN:=G.keyN X (by simp[Zs.keys]);have hXY:Y≠X:=by have:=G.keys;simp[Zs.keys]at this;exact λe=>this.1.1 e
 have own:=G.own;simp only[CF,EN]at own
 obtain⟨L,hLv⟩:∃L:Loc,L.sz=sz/\((L.isNil=true/\v'= .slice none 0 0/\l++ls=[])\/(L.isNil=false/\∃cur,v'= .slice (some ⟨L.blk,0,none⟩) (l.length+ls.length) L.cap/\w'.heap[L.blk]?=some (.cells cur te (0,0))/\l.length+ls.length<=L.cap/\L.cap<=maxLen/\cur.size=L.cap*sz/\cur.toList.take ((l.length+ls.length)*sz)=xs++news)):=by
  rcases hown.2 with⟨h1,h2⟩|⟨g,cap,cur,h1,_,h3,h4,h5,h6,h7⟩
  ·exact⟨⟨0,0,sz,true⟩,rfl,.inl ⟨rfl,h1,Cz (by rw[CY];exact h2)⟩⟩
  ·exact⟨⟨g,cap,sz,false⟩,rfl,.inr ⟨rfl,cur,h1,h3,h4,h5,h6,h7⟩⟩
 obtain⟨hLs,hLv⟩:=hLv
 let m':Mem:=⟨λy=>if y=Y then some L else m.μ y,λy=>m.U y\/y=Y,w',m.F⟩
 have hF:∀b,m.F b->b<m.w.heap.size/\b∉bs:=λb hb=>⟨G.frz b hb,λh=>(G.blk b (by simp[CF,h])).2 hb⟩
 have hrow:∀b,u.ownBlock=some b->b∈bs:=by
  intro b hb;rcases hbs with⟨h1,_⟩|⟨g,h1,h2⟩
  ·rw[h1]at hb;cases hb
  ·rw[h1]at hb;injection hb with hb;subst hb;simp[h2]
 have hsame:∀b,b<m.w.heap.size->u.ownBlock≠some b->w'.heap[b]?=m.w.heap[b]?:=λb hb hne=>hg.block b hb (λe=>hne e.symm)
 have hle:m.Le m':=by
  refine⟨λy h=>.inl h,λy L' hy hL=>?_,λb hb=>⟨hb,hsame b (hF b hb).1 (λe=>(hF b hb).2 (hrow b e))⟩⟩;simp only[m']at hL;split at hL
  ·rename_i e;subst e;exact absurd hy hYU
  ·exact hL
 have hblk:L.isNil=false->(L.blk∈bs\/m.w.heap.size<=L.blk)/\L.blk∉bs0/\L.blk<w'.heap.size:=by
  intro hnil;rcases hLv with⟨h,_⟩|⟨_,cur,h1,h2,_⟩
  ·rw[hnil]at h;cases h
  ·have hob:v'.ownBlock=some L.blk:=by rw[h1];rfl
   have hlt:=lt_of_block h2;rw[hob]at hat;rcases hat with h|h
   ·have hin:=hrow _ h.symm
    refine⟨.inl hin,?_,hlt⟩;rcases hbs with⟨h5,_⟩|⟨g,h5,h6⟩
    ·rw[h5]at h;cases h
    ·rw[h5]at h
     injection h with h
     rw[h6,AF]at own;rw[h];exact λhc=>(Bs.1 own).1 (by simp[hc])
   ·injection h with h
    refine⟨.inr (by omega),λhc=>?_,hlt⟩
    have hb0:L.blk∈bs:=by
     rcases hbs with⟨_,_,h6⟩|⟨g,_,h6⟩
     ·rw[h6]at hc;cases hc
     ·rw[h6];simp[hc]
    have:=(G.blk L.blk (by simp[CF,hb0])).1;omega
 have hbs0:∀b∈bs0,b∈bs/\u.ownBlock≠some b:=by
  intro b hb;rcases hbs with⟨_,_,h6⟩|⟨g,h5,h6⟩
  ·rw[h6]at hb;cases hb
  ·refine⟨by rw[h6];simp[hb],λe=>?_⟩
   rw[h5]at e;injection e with e
   rw[h6,AF]at own;exact(Bs.1 own).1 (by simp[e,hb])
 have hbsnd:bs0.Nodup:=by
  rcases hbs with⟨_,_,h6⟩|⟨g,_,h6⟩
  ·rw[h6];exact Np
  ·rw[h6,AF]at own
   exact(AL.1 (Bs.1 own).2).1
 have hcells:VCs m' (l++ls) (xs++news) bs0:=by
  have h1:=VCs.mono hle l (λb hb=>hsame b (G.blk b (by simp[CF,(hbs0 b hb).1])).1 (hbs0 b hb).2) hv;have h2:=VCs.mono hle ls (by simp) hn;simpa using h1.append h2
 let bs':=if L.isNil then[]else L.blk::bs0
 refine⟨m',bs',rfl,?_,hle,?_⟩
 ·refine Good.swap (zs:=[((Y,.gone),[]),((X,.row te sz l),bs)]) (zs':=[((X,.used),[]),((Y,.row te sz (l++ls)),bs')]) G hle (AP _) ?_ ?_ ?_ ?_ ?_ ?_ ?_ ?_ ?_ hg.os hg.tape hg.output hg.size
  ·intro b hb _
   have:b≠Y:=λe=>hb (by simp[Zs.keys,e])
   simp[m',this]
  ·intro b hb h1 _
   exact hsame b hb λe=>h1 (by simp[Zs.own,hrow b e])
  ·intro z hz
   simp only[AW,DK,II]at hz;rcases hz with rfl|rfl
   ·exact⟨rfl,.inl hXU⟩
   ·refine⟨.inr rfl,L,by simp[m'],hLs,?_⟩
    rcases hLv with⟨h1,_,h3⟩|⟨h1,cur,h2,h3,h4,h5,h6,h7⟩
    ·exact .inl ⟨h1,h3,by simp[bs',h1]⟩
    ·refine .inr ⟨h1,cur,bs0,by simp[bs',h1],h3,h6,by rw[CY];exact h4,h5,hw,?_⟩
     rw[CY,h7];exact hcells
  ·have hex:(bs++ex).Nodup:=by
    have hp:(bs++R.own++ex).Perm ((bs++ex)++R.own):=by
     rw[AF,AF];exact BO _ Aw
    exact(AL.1 (hp.nodup_iff.1 own)).1
   obtain⟨e1,e2,e3⟩:=AL.1 hex;have:Zs.own [((X,AO.used),[]),((Y,AO.row te sz (l++ls)),bs')]=bs':=by simp[Zs.own]
   rw[this];cases hnil:L.isNil with
   |true=>simp[bs',hnil,e2]
   |false=>
    simp only[bs',hnil,WX,if_false];obtain⟨h1,h2,h3⟩:=hblk hnil;refine AL.2 ⟨Bs.2 ⟨h2,hbsnd⟩,e2,λb hb c hc=>?_⟩;rcases AW.1 hb with rfl|hb
    ·rcases h1 with h1|h1
     ·exact e3 _ h1 c hc
     ·intro e
      have:=(G.blk c (by simp[hc])).1;omega
    ·exact e3 b (hbs0 b hb).1 c hc
  ·intro b hb
   have hb':b∈bs' \/b∈ex:=by simpa[Zs.own]using hb
   have hold:∀b,b∈bs\/b∈ex->b<w'.heap.size/\¬m.F b/\(b∈Zs.own [((Y,AO.gone),[]),((X,AO.row te sz l),bs)]\/b∈ex\/m.w.heap.size<=b):=by
    intro b hb;have h1:=G.blk b (by rcases hb with h|h<;>simp[CF,h]);refine⟨Eh h1.1 hg.size,h1.2,?_⟩;rcases hb with h|h
    ·exact .inl (by simp[Zs.own,h])
    ·exact .inr (.inl h)
   rcases hb' with hb'|hb'
   ·cases hnil:L.isNil with
    |true=>simp[bs',hnil]at hb'
    |false=>
     simp only[bs',hnil,WX,if_false]at hb';obtain⟨h1,h2,h3⟩:=hblk hnil;rcases AW.1 hb' with rfl|hb'
     ·rcases h1 with h1|h1
      ·exact hold _ (.inl h1)
      ·exact⟨h3,λhF'=>by have:=(hF _ hF').1;omega,.inr (.inr h1)⟩
     ·exact hold b (.inl (hbs0 b hb').1)
   ·exact hold b (.inr hb')
  ·intro b hb
   exact⟨Eh (hF b hb).1 hg.size,.inl hb⟩
  ·simp[Zs.keys,Ne.symm hXY]
  ·intro y hy
   simp[Zs.keys]at hy⊢;rcases hy with rfl|rfl
   ·exact⟨hXN,.inl (.inr rfl)⟩
   ·exact⟨hYN,.inl (.inl rfl)⟩
  ·intro y hy
   simp[Zs.keys];rcases hy with hy|rfl
   ·exact⟨G.usedN y hy,.inl hy⟩
   ·exact⟨hYN,.inr (.inl (.inl rfl))⟩
 ·have hlen:(l++ls).length=l.length+ls.length:=CY
  have hform:∃A q,v'= .slice A (l.length+ls.length) q:=by
   rcases hLv with⟨_,h2,h3⟩|⟨_,cur,h2,_⟩
   ·have:l.length+ls.length=0:=by rw[<-hlen,h3];rfl
    exact⟨none,0,by rw[h2,this]⟩
   ·exact⟨_,_,h2⟩
  obtain⟨A,q,hA⟩:=hform;refine⟨rfl,.inr rfl,A,q,by rw[hA],λL' hL'=>?_⟩;simp only[m',GK,AU]at hL';subst hL';rw[<-hA];rcases hLv with⟨h1,h2,h3⟩|⟨h1,cur,h2,h3,h4,_⟩
  ·exact .inl ⟨h1,h2,rfl,by rw[<-hlen,h3];rfl⟩
  ·exact .inr ⟨h1,by omega,0,by rw[h2,GZ],λ_=>by simp⟩
theorem OpT.append_lst{n:Nat}(T:PK P t=some (te,sz,by_))(hn:n=l.length)(hb:(l.length+ls.length)*by_<=140737488355328)(hm:l.length+ls.length<=maxLen)(hqp:q≠p):OpT P ⟨dst,.call ⟨.builtin .append,#[x,y],#[t,t]⟩,ty,pos,after,g⟩ [(x,.sl X 0 n),(y,.lst false t' sz ls)] [(q,(Y,.gone)),(p,(X,.row te sz l))] (.sl Y 0 (n+ls.length)) [(q,(X,.used)),(p,(Y,.row te sz (l++ls)))]:=by
 subst hn;intro nt m0 T' S a w hx hS hd hr;obtain⟨m,N,Z,rfl,h2,h3,h4⟩:=hr;have h2':Z.map (·.1)=S:=h2;have hxa:VV m (.sl X 0 l.length) (a.eval x) []:=h4.ev (hx (x,.sl X 0 l.length) (by simp));have hya:VV m (.lst false t' sz ls) (a.eval y) []:=h4.ev (hx (y,.lst false t' sz ls) (by simp))
 have hz:∀(q:Nat) (e:AK),S[q]?=some e->∃bs,Z[q]?=some (e,bs):=by
  intro q e h;rw[<-h2',Cn]at h;cases hz:Z[q]? with
  |none=>rw[hz]at h;cases h
  |some z=>rw[hz]at h;simp only[Au,AU]at h;exact⟨z.2,by rw[<-h]⟩
 obtain⟨bsY,hzY⟩:=hz q _ (hS (q,(Y,.gone)) (by simp));obtain⟨bs,hzX⟩:=hz p _ (hS (p,(X,.row te sz l)) (by simp));obtain⟨R,hp1,hp2⟩:=Hf hqp hzY hzX;have G:=h3.perm hp1;obtain⟨xs,bs0,hown,hv,hwl,hbs⟩:=NC (G.obj ((X,.row te sz l),bs) (by simp)) hxa;obtain⟨_,A,c,e1,hkc,hws,hrd⟩:=hya;injection e1 with e1
 obtain⟨news,hnl,hnc,hnv⟩:∃news:List Value,news.length=ls.length*sz/\(0<ls.length->∃b off,A=some ⟨b,off,none⟩/\∀j u,news[j]?=some u->m.w.cell? ⟨b,off+j,none⟩=some u)/\VCs m ls news []:=by
  rcases Fy ls.length with h0|h0
  ·have:ls=[]:=Cz h0
   subst this;exact⟨[],by simp,λh=>absurd h (by simp),VCs.nil⟩
  ·obtain⟨b,off,arr,tt,r,hA,hF,hb,hc⟩:=hrd h0
   refine⟨_,by rw[VCs.len _ hc,C6 hws],λ_=>⟨b,off,hA,λj u hj=>?_⟩,hc⟩;rw[CZ]at hj;split at hj
   ·rw[Ca]at hj
    simp only[World.cell?,hb];simpa using hj
   ·cases hj
 obtain⟨v',w',hrun,hown',hg,hat⟩:=HF T m.w ty hown hkc hnl hnc (VCs.ones _ hnv) hb hm;obtain⟨m',bs',hw',G',hle,hv'⟩:=Good.app G hv hnv (λe he=>by rcases AN.1 he with h|h;exact hwl e h;exact hws e h) hbs hown' hg hat
 have hex:(execOp a.eval ⟨dst,.call ⟨.builtin .append,#[x,y],#[t,t]⟩,ty,pos,after,g⟩).run P m.w= .ok (.value v') w':=by
  rw[CK];simp only[builtin,D3,AR,Bj,e1,AI,hrun,AA,AG]
 unfold Oper.wp;rw[hex];refine⟨m',N,_,hw',?_,G'.perm (hp2 _ _).symm,(h4.mono hle).put hd hv'⟩;rw[A8,A8,h2'];rfl
end
end
end Go.Proofs.YtmkahplhnbbgmaaGreat
