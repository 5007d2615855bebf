/-
  Part 1 of the texts under the law TopSaved: the layer of abstract values, walks and plain laws. Conditions: those that each theorem names.
-/
import Derived.WalkKit
import Derived.Maps.AppendAt
import Derived.Orders
import Derived.OrdersIn
import Derived.RangeFuncRecord
import Derived.RangeFuncCalls
import Derived.Laws.Rows
import Derived.Laws.CopyRow
import Derived.Deep.MidRow
import Derived.Great.BuildSlice
import Derived.Laws.MakeOwn
namespace Go.Proofs.YtmkahplhnbbgmaaGreat
set_option linter.unusedVariables false
set_option linter.unusedSimpArgs false
set_option linter.defProp false
set_option maxRecDepth 10000
set_option maxHeartbeats 4000000
def AA:=@Go.Result.andThen_ok
def AE:=@List.getElem?_eq_some_iff
def AF:=@Go.Sem.run_pure
def AG:=@Go.Sem.run_bind
def AH:=@Bool.and_eq_true
def AI:=@if_neg
def AK:=@List.map_append
def AL:=@List.mem_append
def AM:=@of_decide_eq_true
def AN:=@List.append_assoc
def AP:=@List.mem_cons
def AT:=@Nat.le_refl
def AU:=@of_decide_eq_false
def AW:=@List.nodup_append
def AY:=@List.mem_singleton
def Aa:=@List.map_cons
def Ab:=@if_pos
def Af:=@List.flatten_cons
def Ag:=@List.mem_map
def Aj:=@List.take_of_length_le
def Ak:=@Option.some.injEq
def Al:=@List.pairwise_cons
def Ao:=@Nat.zero_add
def Ap:=@Nat.zero_le
def Aw:=@List.take_succ_eq_append_getElem
def Ax:=@UInt64.toNat_ofNat'
def A8:=@List.append_nil
def A9:=@List.Perm.cons
def BC:=@List.flatten_append
def BD:=@Option.map_some
def BG:=@List.mem_cons_self
def BI:=@Bool.eq_false_or_eq_true
def BJ:=@List.perm_append_comm
def BK:=@List.map_set
def BM:=@List.length_singleton
def BN:=@List.mem_of_mem_take
def BR:=@Go.run_underlying
def BU:=@List.getElem?_set_self
def BV:=@Nat.mul_le_mul_right
def BW:=@List.mem_of_mem_drop
def BX:=@List.getElem?_append_right
def Bg:=@List.take_length
def Bh:=@Nat.le_trans
def Bj:=@List.flatMap_cons
def Bu:=@List.nodup_cons
def Bv:=@List.getElem_of_mem
def Bw:=@List.getElem?_append_left
def B4:=@Int.toNat_natCast
def B6:=@Nat.min_eq_left
def B7:=@List.drop_zero
def B8:=@List.take_append_drop
def B9:=@List.Perm.append_left
def CD:=@List.getElem?_eq_none
def CE:=@Bool.or_eq_true
def CG:=@List.mem_flatMap
def CJ:=@List.pairwise_iff_getElem
def CK:=@Array.getD_eq_getD_getElem?
def CL:=@List.pairwise_append
def CO:=@List.map_nil
def CP:=@List.eq_nil_of_length_eq_zero
def CW:=@List.any_eq_false
def CX:=@List.getElem?_set_ne
def CY:=@List.drop_length
def CZ:=@trivial
def Cf:=@List.drop_eq_nil_of_le
def Ch:=@List.map_map
def Ci:=@List.cons.injEq
def Cm:=@List.pairwise_singleton
def Co:=@Nat.sub_self
def Cr:=@List.all_eq_true
def Cy:=@List.drop_drop
def C2:=@Nat.add_mul
def C5:=@List.getElem?_take
def C6:=@List.getElem?_drop
def C7:=@List.findIdx?_eq_some_iff_getElem
def C8:=@List.Perm.of_eq
def DA:=@Nat.shiftRight_eq_div_pow
def DF:=@List.drop_of_length_le
def DG:=@Bool.or_eq_false_iff
def DL:=@List.mem_range
def DN:=@Nat.eq_of_beq_eq_true
def DP:=@UInt64.toNat_shiftRight
def DQ:=@Array.length_toList
def DV:=@List.take_append_of_le_length
def DW:=@List.length_take
def DX:=@List.getElem?_map
def DY:=@List.Sublist.refl
def DZ:=@Function.comp_def
def Da:=@Decidable.not_not
def Db:=@List.mem_cons_of_mem
def Dc:=@List.Perm.append_right
def Dh:=@congrArg
def Di:=@List.length_append
def Dn:=@List.getElem?_eq_getElem
def Do:=@List.eq_of_mem_replicate
def Dr:=@List.length_replicate
def Ds:=@UInt64.toNat_inj
def Dt:=@decide_eq_true_eq
def D4:=@List.take_left'
def D5:=@List.length_nil
def D6:=@List.findIdx?_eq_none_iff
def D9:=@List.map_take
def EA:=@List.ext_getElem
def EF:=@List.map_congr_left
def EI:=@Nat.add_zero
def EJ:=@List.take_add_one
def EK:=@Bool.not_eq_true'
def EP:=@List.take_take
def EX:=@Go.World.putObj_heap_other
def EY:=@Option.getD_some
def EZ:=@List.not_mem_nil
def Ea:=@List.map_toArray
def Ee:=@Nat.mod_two_eq_zero_or_one
def Ef:=@Int.fdiv_eq_ediv_of_nonneg
def El:=@Prod.mk.injEq
def Em:=@List.mem_take_iff_getElem
def En:=@List.Perm.swap
def Er:=@Go.Sem.run_ite
def Eu:=@List.mem_filter
def Ev:=@List.length_set
def E3:=@Nat.lt_of_lt_of_le
def E5:=@List.length_drop
def FA:=@Nat.pow_le_pow_right
def FJ:=@Bool.not_false
def FN:=@Nat.lt_trichotomy
def FV:=@List.nil_append
def FX:=@List.filter_eq_self
def FZ:=@UInt64.toNat_shiftLeft
def Fa:=@UInt64.lt_iff_toNat_lt
def Fb:=@Option.map_eq_some_iff
def Fe:=@Go.RowKit.Below.heap_alloc
def Ft:=@Nat.and_one_is_mod
def Fu:=@List.set_getElem_self
def Fv:=@List.set_append_right
def Fw:=@List.filter_append
def F8:=@Classical.byContradiction
def GJ:=@Option.map_none
def GK:=@List.length_zip
def GL:=@List.ext_getElem?
def GM:=@List.eraseIdx_eq_take_drop_succ
def Gb:=@Go.run_equalIn_int
def Gf:=@List.length_pos_iff
def Gg:=@List.flatMap_append
def Gm:=@UInt64.toNat_and
def Gn:=@Nat.shiftLeft_eq
def Gp:=@List.getElem_map
def Gq:=@List.any_eq_true
def Gz:=@List.drop_take
def HD:=@List.length_eq_one_iff
def HE:=@List.set_cons_zero
def HF:=@Go.wpListIn_plain
def HU:=@Go.run_loadCells_list
def HV:=@UInt64.toNat_or
def HW:=@Nat.sub_zero
def HX:=@List.singleton_append
def HY:=@Bool.eq_iff_iff
def HZ:=@Bool.and_eq_false_iff
def He:=@List.pairwise_map
def Hx:=@if_true
def H2:=@List.mem_iff_getElem
def ID:=@List.sublist_append_right
def IE:=@Array.getElem?_eq_getElem
def II:=@Nat.mod_eq_of_lt
def IJ:=@List.flatMap_nil
def IK:=@List.cons_append
def IM:=@List.takeWhile_cons
def IN:=@List.replicate_succ
def IZ:=@Option.isSome_iff_exists
def Ia:=@Nat.zero_mul
def Ib:=@Nat.lt_or_ge
def Id:=@Nat.blt_eq
def JO:=@Nat.zero_lt_one
def JQ:=@Nat.le_mul_of_pos_right
def JR:=@Nat.eq_zero_or_pos
def JS:=@List.getElem?_replicate
def JT:=@List.find?_eq_none
def JU:=@List.append_of_mem
def JV:=@Int.natCast_pow
def JW:=@Bool.true_and
def JX:=@Bool.not_true
def Jz:=@UInt64.le_iff_toNat_le
def J0:=@List.zipWith_cons_cons
def J1:=@List.filter_eq_nil_iff
def J2:=@List.size_toArray
def J3:=@List.Sublist.cons
def KZ:=@Nat.le_of_ble_eq_true
def Ka:=@List.find?_eq_some_iff_getElem
def LF:=@Nat.le_of_not_lt
def LG:=@List.range'_succ
def LI:=@Nat.lt_irrefl
def L9:=@Option.some.inj
def MB:=@Nat.le_succ
def MC:=@List.foldl_cons
def MD:=@List.Perm.trans
def ME:=@Int.natCast_mul
def Mh:=@or_false
def M5:=@Option.toList_some
def M8:=@Go.DataW.lit.injEq
def M9:=@List.mem_or_eq_of_mem_set
def Nv:=@Go.Oper.wp_mono
def Nw:=@List.getElem?_take_of_lt
def Nx:=@List.foldl_append
def Ny:=@Array.getElem?_replicate
def Ox:=@Nat.add_assoc
def Oz:=@List.length_eq_zero_iff
def O4:=@Go.run_storeCells_at
def PF:=@List.perm_middle
def PG:=@Bool.not_eq_true
def PU:=@List.sublist_cons_self
def RJ:=@Go.Oper.semAt_eq
def RV:=@getElem!_pos
def RW:=@Nat.min_self
def RX:=@List.mem_append_right
def RY:=@List.length_filter_le
def RZ:=@List.find?_cons
def Ra:=@List.drop_left'
def Rb:=@Go.IntKind.wrap_u64
def Rc:=@Go.IntKind.wrap_i64
def Re:=@Array.getElem?_toList
def R2:=@beq_iff_eq
def TJ:=@List.mem_of_getElem?
def TK:=@List.mem_append_left
def TS:=@Go.wpIn_mono
def Tg:=@Go.run_equalIn_agg
def UP:=@List.nodup_nil
def Ub:=@List.mem_map_of_mem
def WM:=@and_true
def WP:=@Nat.mul_assoc
def WQ:=@Bool.false_eq_true
def WR:=@Array.foldl_toList
def Y6:=@List.length_range
def Y9:=@Array.getElem?_setIfInBounds_ne
def ZK:=@Go.wpListIn_step
def bd:=@Nat.succ_pos
def be:=@Go.Lit.int.injEq
def bf:=@List.Nodup.length_le_of_subset
def eF:=@Go.World.putObj_size
def ef:=@Array.getElem?_setIfInBounds
def fG:=@List.range_succ
def im:=@List.mem_of_find?_eq_some
def jm:=@List.Perm.eq_of_pairwise
def kH:=@Go.heap_alloc_new
section
inductive AV where
 |prim (v:Value)
 |dead
 |agg (cs:List AV)
 |tup (vs:List AV)
 |lst (own:Bool) (t:TypeId) (sz:Nat) (l:List AV)
 |bx (t:TypeId) (a:AV)
 |sl (x off len:Nat)
 |ptr (x i k:Nat)
 |fp (cs:List AV)
 |fn (f:FuncId) (cap:List AV)
 |mp (x:Nat)
 |opt (c:Bool) (a:AV)
structure Loc where
 blk:Nat
 cap:Nat
 sz:Nat
 isNil:Bool
structure Mem where
 μ:Nat->Option Loc
 U:Nat->Prop
 w:World
 F:Nat->Prop
mutual
def AV.width:AV->Nat
 |.agg cs=>AV.widths cs
 |_=>1
def AV.widths:List AV->Nat
 |[]=>0
 |a::as=>a.width+AV.widths as
end
def SlV(L:Loc)(off len:Nat)(v:Value):Prop:=
 (L.isNil=true/\v= .slice none 0 0/\off=0/\len=0)\/
 (L.isNil=false/\off+len<=L.cap/\∃o,v= .slice (some ⟨L.blk,o,none⟩) len (L.cap-off)/\(off<L.cap\/off=0->o=off*L.sz))
mutual
def VC(m:Mem):AV->List Value->List Nat->Prop
 |.prim u,c,bs=>(c=[u]/\u.oneCell'=true)/\bs=[]
 |.dead,c,bs=>(∃v,c=[v]/\v.oneCell'=true)/\bs=[]
 |.agg cs,c,bs=>VCs m cs c bs
 |.tup _,_,_=>False
 |.opt _ _,_,_=>False
 |.lst false _ sz l,c,bs=>bs=[]/\∃A cap,c=[.slice A l.length cap]/\l.length<=cap/\(∀e∈l,e.width=sz)/\
   (0<l.length->∃b off arr t r,A=some ⟨b,off,none⟩/\m.F b/\m.w.heap[b]?=some (.cells arr t r)/\VCs m l ((arr.toList.drop off).take (l.length*sz)) [])
 |.lst true t sz l,c,bs=>(c=[.slice none 0 0]/\l=[]/\bs=[])\/
   ∃g cap arr bs',c=[.slice (some ⟨g,0,none⟩) l.length cap]/\bs=g::bs' /\m.w.heap[g]?=some (.cells arr t (0,0))/\arr.size=cap*sz/\l.length<=cap/\cap<=maxLen/\
    (∀e∈l,e.width=sz)/\VCs m l (arr.toList.take (l.length*sz)) bs'
 |.bx t a,c,bs=>∃g arr bs',c=[.pointer (some ⟨g,0,none⟩)]/\bs=g::bs' /\m.w.heap[g]?=some (.cells arr t (0,0))/\(∃cap,arr.size=cap*a.width/\1<=cap/\cap<=maxLen)/\VC m a (arr.toList.take a.width) bs'
 |.sl x off len,c,bs=>bs=[]/\m.U x/\∃A q,c=[.slice A len q]/\∀L,m.μ x=some L->SlV L off len (.slice A len q)
 |.ptr x i k,c,bs=>bs=[]/\m.U x/\∃A,c=[.pointer A]/\∀L,m.μ x=some L->A=some ⟨L.blk,i*L.sz+k,none⟩
 |.fp cs,c,bs=>bs=[]/\∃b off arr t r,c=[.pointer (some ⟨b,off,none⟩)]/\m.F b/\m.w.heap[b]?=some (.cells arr t r)/\VCs m cs ((arr.toList.drop off).take (AV.widths cs)) []
 |.fn f cap,c,bs=>∃vs:Array Value,c=[.func (.func f) #[] vs]/\VCs m cap vs.toList bs
 |.mp x,c,bs=>bs=[]/\m.U x/\∃A,c=[.map A]/\∀L,m.μ x=some L->A=some L.blk
def VCs(m:Mem):List AV->List Value->List Nat->Prop
 |[],c,bs=>c=[]/\bs=[]
 |a::as,c,bs=>∃c1 c2 b1 b2,c=c1++c2/\bs=b1++b2/\VC m a c1 b1/\VCs m as c2 b2
def VTs(m:Mem):List AV->List Value->List Nat->Prop
 |[],vs,bs=>vs=[]/\bs=[]
 |.agg cs::as,vs,bs=>∃cells vs' b1 b2,vs= .agg cells::vs' /\bs=b1++b2/\VCs m cs cells.toList b1/\VTs m as vs' b2
 |.dead::as,vs,bs=>∃v vs' b1 b2,vs=v::vs' /\bs=b1++b2/\b1=[]/\VTs m as vs' b2
 |a::as,vs,bs=>∃v vs' b1 b2,vs=v::vs' /\bs=b1++b2/\VC m a [v] b1/\VTs m as vs' b2
end
def VV0(m:Mem):AV->Value->List Nat->Prop
 |.agg cs,v,bs=>∃cells,v= .agg cells/\VCs m cs cells.toList bs
 |.tup cs,v,bs=>∃vs,v= .tuple vs/\VTs m cs vs.toList bs
 |.dead,_,bs=>bs=[]
 |a,v,bs=>VC m a [v] bs
def VV(m:Mem):AV->Value->List Nat->Prop
 |.opt c a,v,bs=>bs=[]/\(c=true->VV m a v [])/\(c=false->v=undef)
 |a,v,bs=>VV0 m a v bs
def ntup:AV->Bool
 |.tup _|.opt .. =>false
 |_=>true
theorem VTs.ntup{m:Mem}{a:AV}{as:List AV}{vs:List Value}{bs:List Nat}(h:VTs m (a::as) vs bs):ntup a=true:=by
 cases a
 case tup cs=>obtain⟨_,_,_,_,_,_,h,_⟩:=h;exact h.elim
 case opt c b=>obtain⟨_,_,_,_,_,_,h,_⟩:=h;exact h.elim
 all_goals rfl
theorem Dg{m:Mem}{a:AV}{as:List AV}{vs:List Value}{bs:List Nat}(ha:ntup a=true):VTs m (a::as) vs bs↔∃v vs' b1 b2,vs=v::vs' /\bs=b1++b2/\VV m a v b1/\VTs m as vs' b2:=by
 cases a
 case agg cs=>
  constructor
  ·rintro⟨cells,vs',b1,b2,rfl,rfl,h1,h2⟩
   exact⟨_,vs',b1,b2,rfl,rfl,⟨cells,rfl,h1⟩,h2⟩
  ·rintro⟨_,vs',b1,b2,rfl,rfl,⟨cells,rfl,h1⟩,h2⟩
   exact⟨cells,vs',b1,b2,rfl,rfl,h1,h2⟩
 case tup cs=>cases ha
 case opt c b=>cases ha
 all_goals exact Iff.rfl
structure Mem.Le(m m':Mem):Prop where
 U:∀x,m.U x->m'.U x
 μ:∀x L,m.U x->m'.μ x=some L->m.μ x=some L
 F:∀b,m.F b->m'.F b/\m'.w.heap[b]?=m.w.heap[b]?
theorem Mem.Le.refl(m:Mem):m.Le m:=⟨λ_ h=>h,λ_ _ _ h=>h,λ_ h=>⟨h,rfl⟩⟩
theorem Mem.Le.trans{m m' m'':Mem}(h:m.Le m')(k:m'.Le m''):m.Le m'':=
 ⟨λx hx=>k.U x (h.U x hx),λx L hx hm=>h.μ x L hx (k.μ x L (h.U x hx) hm),λb hb=>⟨(k.F b (h.F b hb).1).1,(k.F b (h.F b hb).1).2.trans (h.F b hb).2⟩⟩
structure Mem.LeC(m m':Mem):Prop where
 U:∀x,m.U x->m'.U x
 μ:∀x L,m.U x->m'.μ x=some L->m.μ x=some L
 F:∀b,m.F b->(∃arr t r,m.w.heap[b]?=some (.cells arr t r))->m'.F b/\m'.w.heap[b]?=m.w.heap[b]?
theorem Mem.Le.c{m m':Mem}(h:m.Le m'):m.LeC m':=⟨h.U,h.μ,λb hb _=>h.F b hb⟩
mutual
theorem VC.monoC{m m':Mem}(h:m.LeC m'):(a:AV)->{c:List Value}->{bs:List Nat}->(∀b∈bs,m'.w.heap[b]?=m.w.heap[b]?)->VC m a c bs->VC m' a c bs
 |.prim _,_,_,_,k=>k
 |.dead,_,_,_,k=>k
 |.agg cs,_,_,hb,k=>VCs.monoC h cs hb k
 |.tup cs,_,_,_,k=>k.elim
 |.opt _ _,_,_,_,k=>k.elim
 |.lst false _ sz l,_,_,hb,⟨e,A,cap,e1,e2,e3,k⟩=>⟨e,A,cap,e1,e2,e3,λh0=>by
   obtain⟨b,off,arr,t,r,q1,q2,q3,q4⟩:=k h0;exact⟨b,off,arr,t,r,q1,(h.F b q2 ⟨_,_,_,q3⟩).1,(h.F b q2 ⟨_,_,_,q3⟩).2.trans q3,VCs.monoC h l (by simp) q4⟩⟩
 |.lst true t sz l,_,_,hb,.inl k=>.inl k
 |.lst true t sz l,_,_,hb,.inr ⟨g,cap,arr,bs',e1,e2,e3,e4,e5,e6,e7,k⟩=>.inr ⟨g,cap,arr,bs',e1,e2,(hb g (by simp[e2])).trans e3,e4,e5,e6,e7,VCs.monoC h l (λb q=>hb b (by simp[e2,q])) k⟩
 |.bx t a,_,_,hb,⟨g,arr,bs',e1,e2,e3,e4,k⟩=>⟨g,arr,bs',e1,e2,(hb g (by simp[e2])).trans e3,e4,VC.monoC h a (λb q=>hb b (by simp[e2,q])) k⟩
 |.sl x off len,_,_,hb,⟨e,hu,A,q,e1,k⟩=>⟨e,h.U x hu,A,q,e1,λL hL=>k L (h.μ x L hu hL)⟩
 |.ptr x i j,_,_,hb,⟨e,hu,v,e1,k⟩=>⟨e,h.U x hu,v,e1,λL hL=>k L (h.μ x L hu hL)⟩
 |.fp cs,_,_,hb,⟨e,b,off,arr,t,r,q1,q2,q3,q4⟩=>⟨e,b,off,arr,t,r,q1,(h.F b q2 ⟨_,_,_,q3⟩).1,(h.F b q2 ⟨_,_,_,q3⟩).2.trans q3,VCs.monoC h cs (by simp) q4⟩
 |.fn f cap,_,_,hb,⟨vs,e,k⟩=>⟨vs,e,VCs.monoC h cap hb k⟩
 |.mp x,_,_,hb,⟨e,hu,v,e1,k⟩=>⟨e,h.U x hu,v,e1,λL hL=>k L (h.μ x L hu hL)⟩
theorem VCs.monoC{m m':Mem}(h:m.LeC m'):(as:List AV)->{c:List Value}->{bs:List Nat}->(∀b∈bs,m'.w.heap[b]?=m.w.heap[b]?)->VCs m as c bs->VCs m' as c bs
 |[],_,_,_,k=>k
 |a::as,_,_,hb,⟨c1,c2,b1,b2,e1,e2,k1,k2⟩=>⟨c1,c2,b1,b2,e1,e2,VC.monoC h a (λb q=>hb b (by simp[e2,q])) k1,VCs.monoC h as (λb q=>hb b (by simp[e2,q])) k2⟩
theorem VTs.monoC{m m':Mem}(h:m.LeC m'):(as:List AV)->{c:List Value}->{bs:List Nat}->(∀b∈bs,m'.w.heap[b]?=m.w.heap[b]?)->VTs m as c bs->VTs m' as c bs
 |[],_,_,_,k=>k
 |.agg cs::as,_,_,hb,⟨c1,c2,b1,b2,e1,e2,k1,k2⟩=>⟨c1,c2,b1,b2,e1,e2,VCs.monoC h cs (λb q=>hb b (by simp[e2,q])) k1,VTs.monoC h as (λb q=>hb b (by simp[e2,q])) k2⟩
 |.prim u::as,_,_,hb,⟨v,vs,b1,b2,e1,e2,k1,k2⟩=>⟨v,vs,b1,b2,e1,e2,k1,VTs.monoC h as (λb q=>hb b (by simp[e2,q])) k2⟩
 |.dead::as,_,_,hb,⟨v,vs,b1,b2,e1,e2,k1,k2⟩=>⟨v,vs,b1,b2,e1,e2,k1,VTs.monoC h as (λb q=>hb b (by simp[e2,q])) k2⟩
 |.tup cs::as,_,_,hb,⟨v,vs,b1,b2,e1,e2,k1,k2⟩=>⟨v,vs,b1,b2,e1,e2,k1.elim,VTs.monoC h as (λb q=>hb b (by simp[e2,q])) k2⟩
 |.lst o t s l::as,_,_,hb,⟨v,vs,b1,b2,e1,e2,k1,k2⟩=>⟨v,vs,b1,b2,e1,e2,VC.monoC h (.lst o t s l) (λb q=>hb b (by simp[e2,q])) k1,VTs.monoC h as (λb q=>hb b (by simp[e2,q])) k2⟩
 |.bx t a::as,_,_,hb,⟨v,vs,b1,b2,e1,e2,k1,k2⟩=>⟨v,vs,b1,b2,e1,e2,VC.monoC h (.bx t a) (λb q=>hb b (by simp[e2,q])) k1,VTs.monoC h as (λb q=>hb b (by simp[e2,q])) k2⟩
 |.sl x i j::as,_,_,hb,⟨v,vs,b1,b2,e1,e2,k1,k2⟩=>⟨v,vs,b1,b2,e1,e2,VC.monoC h (.sl x i j) (λb q=>hb b (by simp[e2,q])) k1,VTs.monoC h as (λb q=>hb b (by simp[e2,q])) k2⟩
 |.ptr x i j::as,_,_,hb,⟨v,vs,b1,b2,e1,e2,k1,k2⟩=>⟨v,vs,b1,b2,e1,e2,VC.monoC h (.ptr x i j) (λb q=>hb b (by simp[e2,q])) k1,VTs.monoC h as (λb q=>hb b (by simp[e2,q])) k2⟩
 |.fp cs::as,_,_,hb,⟨v,vs,b1,b2,e1,e2,k1,k2⟩=>⟨v,vs,b1,b2,e1,e2,VC.monoC h (.fp cs) (λb q=>hb b (by simp[e2,q])) k1,VTs.monoC h as (λb q=>hb b (by simp[e2,q])) k2⟩
 |.fn f cap::as,_,_,hb,⟨v,vs,b1,b2,e1,e2,k1,k2⟩=>⟨v,vs,b1,b2,e1,e2,VC.monoC h (.fn f cap) (λb q=>hb b (by simp[e2,q])) k1,VTs.monoC h as (λb q=>hb b (by simp[e2,q])) k2⟩
 |.mp x::as,_,_,hb,⟨v,vs,b1,b2,e1,e2,k1,k2⟩=>⟨v,vs,b1,b2,e1,e2,VC.monoC h (.mp x) (λb q=>hb b (by simp[e2,q])) k1,VTs.monoC h as (λb q=>hb b (by simp[e2,q])) k2⟩
 |.opt c b::as,_,_,hb,⟨v,vs,b1,b2,e1,e2,k1,k2⟩=>k1.elim
end
theorem VV0.monoC{m m':Mem}(h:m.LeC m'){a:AV}{v:Value}{bs:List Nat}(hb:∀b∈bs,m'.w.heap[b]?=m.w.heap[b]?)(k:VV0 m a v bs):VV0 m' a v bs:=by
 cases a
 case agg cs=>obtain⟨cells,e,k⟩:=k;exact⟨cells,e,VCs.monoC h cs hb k⟩
 case tup cs=>obtain⟨cells,e,k⟩:=k;exact⟨cells,e,VTs.monoC h cs hb k⟩
 case dead=>exact k
 all_goals exact VC.monoC h _ hb k
theorem VV.monoC{m m':Mem}(h:m.LeC m'):{a:AV}->{v:Value}->{bs:List Nat}->(hb:∀b∈bs,m'.w.heap[b]?=m.w.heap[b]?)->(k:VV m a v bs)->VV m' a v bs
 |.opt c a,_,_,hb,k=>⟨k.1,λhc=>VV.monoC h (a:=a) (by simp) (k.2.1 hc),k.2.2⟩
 |.prim _,_,_,hb,k|.dead,_,_,hb,k|.agg _,_,_,hb,k|.tup _,_,_,hb,k|.lst ..,_,_,hb,k|.bx ..,_,_,hb,k|.sl ..,_,_,hb,k|.ptr ..,_,_,hb,k|.fp _,_,_,hb,k|.fn ..,_,_,hb,k|.mp _,_,_,hb,k=>VV0.monoC (m:=m) h hb k
theorem VC.mono{m m':Mem}(h:m.Le m')(a:AV){c:List Value}{bs:List Nat}(hb:∀b∈bs,m'.w.heap[b]?=m.w.heap[b]?)(k:VC m a c bs):VC m' a c bs:=VC.monoC h.c a hb k
theorem VCs.mono{m m':Mem}(h:m.Le m')(as:List AV){c:List Value}{bs:List Nat}(hb:∀b∈bs,m'.w.heap[b]?=m.w.heap[b]?)(k:VCs m as c bs):VCs m' as c bs:=VCs.monoC h.c as hb k
theorem VTs.mono{m m':Mem}(h:m.Le m')(as:List AV){c:List Value}{bs:List Nat}(hb:∀b∈bs,m'.w.heap[b]?=m.w.heap[b]?)(k:VTs m as c bs):VTs m' as c bs:=VTs.monoC h.c as hb k
theorem VV.mono{m m':Mem}(h:m.Le m'){a:AV}{v:Value}{bs:List Nat}(hb:∀b∈bs,m'.w.heap[b]?=m.w.heap[b]?)(k:VV m a v bs):VV m' a v bs:=VV.monoC h.c hb k
mutual
def AV.frz:AV->AV
 |.agg cs=>.agg (AV.frzs cs)
 |.tup cs=>.tup (AV.frzs cs)
 |.lst _ t sz l=>.lst false t sz (AV.frzs l)
 |.bx t a=>.fp [AV.frz a]
 |.fp cs=>.fp (AV.frzs cs)
 |.fn f cap=>.fn f (AV.frzs cap)
 |.opt c a=>.opt c (AV.frz a)
 |a=>a
def AV.frzs:List AV->List AV
 |[]=>[]
 |a::as=>a.frz::AV.frzs as
end
theorem H9(l:List AV):AV.frzs l=l.map AV.frz:=by
 induction l with
 |nil=>rfl
 |cons a l ih=>simp[AV.frzs,ih]
theorem HN(l:List AV):(AV.frzs l).length=l.length:=by simp[H9]
mutual
theorem Hn:(a:AV)->a.frz.width=a.width
 |.agg cs=>Mr cs
 |.prim _|.dead|.tup _|.lst .. |.bx .. |.sl .. |.ptr .. |.fp _|.fn .. |.mp _|.opt .. =>rfl
theorem Mr:(as:List AV)->AV.widths (AV.frzs as)=AV.widths as
 |[]=>rfl
 |a::as=>by simp[AV.frzs,AV.widths,Hn a,Mr as]
end
mutual
theorem VC.len{m:Mem}:(a:AV)->{c:List Value}->{bs:List Nat}->VC m a c bs->c.length=a.width
 |.prim _,_,_,k=>by rw[k.1.1];rfl
 |.dead,_,_,⟨⟨_,e,_⟩,_⟩=>by rw[e];rfl
 |.agg cs,_,_,k=>VCs.len cs k
 |.tup cs,_,_,k=>k.elim
 |.opt _ _,_,_,k=>k.elim
 |.lst false _ _ l,_,_,⟨_,_,_,e,_⟩=>by rw[e];rfl
 |.lst true _ _ l,_,_,.inl ⟨e,_⟩=>by rw[e];rfl
 |.lst true _ _ l,_,_,.inr ⟨_,_,_,_,e,_⟩=>by rw[e];rfl
 |.bx t a,_,_,⟨_,_,_,e,_⟩=>by rw[e];rfl
 |.sl ..,_,_,⟨_,_,_,_,e,_⟩=>by rw[e];rfl
 |.ptr ..,_,_,⟨_,_,_,e,_⟩=>by rw[e];rfl
 |.fp _,_,_,⟨_,_,_,_,_,_,e,_⟩=>by rw[e];rfl
 |.fn ..,_,_,⟨_,e,_⟩=>by rw[e];rfl
 |.mp _,_,_,⟨_,_,_,e,_⟩=>by rw[e];rfl
theorem VCs.len{m:Mem}:(as:List AV)->{c:List Value}->{bs:List Nat}->VCs m as c bs->c.length=AV.widths as
 |[],_,_,k=>by rw[k.1];rfl
 |a::as,_,_,⟨c1,c2,b1,b2,e1,e2,k1,k2⟩=>by rw[e1,Di,VC.len a k1,VCs.len as k2];rfl
end
mutual
theorem VC.frz{m m':Mem}(h:m.Le m'):(a:AV)->{c:List Value}->{bs:List Nat}->(∀b∈bs,m'.F b/\m'.w.heap[b]?=m.w.heap[b]?)->VC m a c bs->VC m' a.frz c []
 |.prim _,_,_,_,k=>⟨k.1,rfl⟩
 |.dead,_,_,_,k=>⟨k.1,rfl⟩
 |.agg cs,_,_,hb,k=>VCs.frz h cs hb k
 |.tup cs,_,_,_,k=>k.elim
 |.opt _ _,_,_,_,k=>k.elim
 |.lst false _ sz l,_,_,hb,⟨e,A,cap,e1,e2,e3,k⟩=>⟨rfl,A,cap,by rw[HN];exact e1,by rw[HN];exact e2,by
   intro x hx;rw[H9]at hx;obtain⟨y,hy,rfl⟩:=Ag.1 hx;rw[Hn];exact e3 y hy,λh0=>by
   rw[HN]at h0⊢;obtain⟨b,off,arr,t,r,q1,q2,q3,q4⟩:=k h0;exact⟨b,off,arr,t,r,q1,(h.F b q2).1,(h.F b q2).2.trans q3,VCs.frz h l (by simp) q4⟩⟩
 |.lst true t sz l,_,_,hb,.inl ⟨e1,e2,e3⟩=>by
   subst e2;exact⟨rfl,none,0,e1,AT _,by simp[AV.frzs],λh0=>by simp[AV.frzs]at h0⟩
 |.lst true t sz l,_,_,hb,.inr ⟨g,cap,arr,bs',e1,e2,e3,e4,e5,e6,e7,k⟩=>⟨rfl,some ⟨g,0,none⟩,cap,by rw[HN];exact e1,by rw[HN];exact e5,by
   intro x hx;rw[H9]at hx;obtain⟨y,hy,rfl⟩:=Ag.1 hx;rw[Hn];exact e7 y hy,λh0=>by
   rw[HN]at h0⊢;exact⟨g,0,arr,t,(0,0),rfl,(hb g (by simp[e2])).1,(hb g (by simp[e2])).2.trans e3,VCs.frz h l (λb q=>hb b (by simp[e2,q])) k⟩⟩
 |.bx t a,_,_,hb,⟨g,arr,bs',e1,e2,e3,e4,k⟩=>⟨rfl,g,0,arr,t,(0,0),e1,(hb g (by simp[e2])).1,(hb g (by simp[e2])).2.trans e3,by
   have hw:=Hn a;have k':=VC.frz h a (λb q=>hb b (by simp[e2,q])) k;refine⟨arr.toList.take a.width,[],[],[],?_,rfl,k',rfl,rfl⟩;simp only[B7,A8];show arr.toList.take (a.frz.width+0)=_
   rw[hw];rfl⟩
 |.sl x off len,_,_,hb,⟨e,hu,A,q,e1,k⟩=>⟨rfl,h.U x hu,A,q,e1,λL hL=>k L (h.μ x L hu hL)⟩
 |.ptr x i j,_,_,hb,⟨e,hu,v,e1,k⟩=>⟨rfl,h.U x hu,v,e1,λL hL=>k L (h.μ x L hu hL)⟩
 |.fp cs,_,_,hb,⟨e,b,off,arr,t,r,q1,q2,q3,q4⟩=>⟨rfl,b,off,arr,t,r,q1,(h.F b q2).1,(h.F b q2).2.trans q3,by rw[Mr];exact VCs.frz h cs (by simp) q4⟩
 |.fn f cap,_,_,hb,⟨vs,e,k⟩=>⟨vs,e,VCs.frz h cap hb k⟩
 |.mp x,_,_,hb,⟨e,hu,v,e1,k⟩=>⟨rfl,h.U x hu,v,e1,λL hL=>k L (h.μ x L hu hL)⟩
theorem VCs.frz{m m':Mem}(h:m.Le m'):(as:List AV)->{c:List Value}->{bs:List Nat}->(∀b∈bs,m'.F b/\m'.w.heap[b]?=m.w.heap[b]?)->VCs m as c bs->VCs m' (AV.frzs as) c []
 |[],_,_,_,k=>⟨k.1,rfl⟩
 |a::as,_,_,hb,⟨c1,c2,b1,b2,e1,e2,k1,k2⟩=>⟨c1,c2,[],[],e1,rfl,VC.frz h a (λb q=>hb b (by simp[e2,q])) k1,VCs.frz h as (λb q=>hb b (by simp[e2,q])) k2⟩
theorem VTs.frz{m m':Mem}(h:m.Le m'):(as:List AV)->{c:List Value}->{bs:List Nat}->(∀b∈bs,m'.F b/\m'.w.heap[b]?=m.w.heap[b]?)->VTs m as c bs->VTs m' (AV.frzs as) c []
 |[],_,_,_,k=>⟨k.1,rfl⟩
 |.agg cs::as,_,_,hb,⟨c1,c2,b1,b2,e1,e2,k1,k2⟩=>⟨c1,c2,[],[],e1,rfl,VCs.frz h cs (λb q=>hb b (by simp[e2,q])) k1,VTs.frz h as (λb q=>hb b (by simp[e2,q])) k2⟩
 |.prim u::as,_,_,hb,⟨v,vs,b1,b2,e1,e2,k1,k2⟩=>⟨v,vs,[],[],e1,rfl,⟨k1.1,rfl⟩,VTs.frz h as (λb q=>hb b (by simp[e2,q])) k2⟩
 |.dead::as,_,_,hb,⟨v,vs,b1,b2,e1,e2,k1,k2⟩=>⟨v,vs,[],[],e1,rfl,rfl,VTs.frz h as (λb q=>hb b (by simp[e2,q])) k2⟩
 |.tup cs::as,_,_,hb,⟨v,vs,b1,b2,e1,e2,k1,k2⟩=>⟨v,vs,[],[],e1,rfl,k1.elim,VTs.frz h as (λb q=>hb b (by simp[e2,q])) k2⟩
 |.lst o t s l::as,_,_,hb,⟨v,vs,b1,b2,e1,e2,k1,k2⟩=>⟨v,vs,[],[],e1,rfl,VC.frz h (.lst o t s l) (λb q=>hb b (by simp[e2,q])) k1,VTs.frz h as (λb q=>hb b (by simp[e2,q])) k2⟩
 |.bx t a::as,_,_,hb,⟨v,vs,b1,b2,e1,e2,k1,k2⟩=>⟨v,vs,[],[],e1,rfl,VC.frz h (.bx t a) (λb q=>hb b (by simp[e2,q])) k1,VTs.frz h as (λb q=>hb b (by simp[e2,q])) k2⟩
 |.sl x i j::as,_,_,hb,⟨v,vs,b1,b2,e1,e2,k1,k2⟩=>⟨v,vs,[],[],e1,rfl,VC.frz h (.sl x i j) (λb q=>hb b (by simp[e2,q])) k1,VTs.frz h as (λb q=>hb b (by simp[e2,q])) k2⟩
 |.ptr x i j::as,_,_,hb,⟨v,vs,b1,b2,e1,e2,k1,k2⟩=>⟨v,vs,[],[],e1,rfl,VC.frz h (.ptr x i j) (λb q=>hb b (by simp[e2,q])) k1,VTs.frz h as (λb q=>hb b (by simp[e2,q])) k2⟩
 |.fp cs::as,_,_,hb,⟨v,vs,b1,b2,e1,e2,k1,k2⟩=>⟨v,vs,[],[],e1,rfl,VC.frz h (.fp cs) (λb q=>hb b (by simp[e2,q])) k1,VTs.frz h as (λb q=>hb b (by simp[e2,q])) k2⟩
 |.fn f cap::as,_,_,hb,⟨v,vs,b1,b2,e1,e2,k1,k2⟩=>⟨v,vs,[],[],e1,rfl,VC.frz h (.fn f cap) (λb q=>hb b (by simp[e2,q])) k1,VTs.frz h as (λb q=>hb b (by simp[e2,q])) k2⟩
 |.mp x::as,_,_,hb,⟨v,vs,b1,b2,e1,e2,k1,k2⟩=>⟨v,vs,[],[],e1,rfl,VC.frz h (.mp x) (λb q=>hb b (by simp[e2,q])) k1,VTs.frz h as (λb q=>hb b (by simp[e2,q])) k2⟩
 |.opt c b::as,_,_,hb,⟨v,vs,b1,b2,e1,e2,k1,k2⟩=>k1.elim
end
theorem VV0.frz{m m':Mem}(h:m.Le m'){a:AV}{v:Value}{bs:List Nat}(hb:∀b∈bs,m'.F b/\m'.w.heap[b]?=m.w.heap[b]?)(k:VV0 m a v bs):VV0 m' a.frz v []:=by
 cases a
 case agg cs=>obtain⟨cells,e,k⟩:=k;exact⟨cells,e,VCs.frz h cs hb k⟩
 case tup cs=>obtain⟨cells,e,k⟩:=k;exact⟨cells,e,VTs.frz h cs hb k⟩
 case dead=>exact rfl
 case lst o t s l=>exact VC.frz h (.lst o t s l) hb k
 all_goals exact VC.frz h _ hb k
theorem VV.frz{m m':Mem}(h:m.Le m'):{a:AV}->{v:Value}->{bs:List Nat}->(hb:∀b∈bs,m'.F b/\m'.w.heap[b]?=m.w.heap[b]?)->(k:VV m a v bs)->VV m' a.frz v []
 |.opt c a,_,_,hb,k=>⟨rfl,λhc=>VV.frz h (a:=a) (by simp) (k.2.1 hc),k.2.2⟩
 |.lst o t s l,_,_,hb,k=>VC.frz h (.lst o t s l) hb k
 |.prim _,_,_,hb,k|.dead,_,_,hb,k|.agg _,_,_,hb,k|.tup _,_,_,hb,k|.bx ..,_,_,hb,k|.sl ..,_,_,hb,k|.ptr ..,_,_,hb,k|.fp _,_,_,hb,k|.fn ..,_,_,hb,k|.mp _,_,_,hb,k=>VV0.frz (m:=m) h hb k
mutual
theorem VC.ones{m:Mem}:(a:AV)->{c:List Value}->{bs:List Nat}->VC m a c bs->∀u∈c,u.oneCell'=true
 |.prim _,_,_,k=>by rw[k.1.1];simpa using k.1.2
 |.dead,_,_,⟨⟨_,e,h⟩,_⟩=>by rw[e];simpa using h
 |.agg cs,_,_,k=>VCs.ones cs k
 |.tup cs,_,_,k=>k.elim
 |.opt _ _,_,_,k=>k.elim
 |.lst false _ _ l,_,_,⟨_,_,_,e,_⟩=>by rw[e];simp[Value.oneCell']
 |.lst true _ _ l,_,_,.inl ⟨e,_⟩=>by rw[e];simp[Value.oneCell']
 |.lst true _ _ l,_,_,.inr ⟨_,_,_,_,e,_⟩=>by rw[e];simp[Value.oneCell']
 |.bx t a,_,_,⟨_,_,_,e,_⟩=>by rw[e];simp[Value.oneCell']
 |.sl ..,_,_,⟨_,_,_,_,e,_⟩=>by rw[e];simp[Value.oneCell']
 |.ptr ..,_,_,⟨_,_,_,e,_⟩=>by rw[e];simp[Value.oneCell']
 |.fp _,_,_,⟨_,_,_,_,_,_,e,_⟩=>by rw[e];simp[Value.oneCell']
 |.fn ..,_,_,⟨_,e,_⟩=>by rw[e];simp[Value.oneCell']
 |.mp _,_,_,⟨_,_,_,e,_⟩=>by rw[e];simp[Value.oneCell']
theorem VCs.ones{m:Mem}:(as:List AV)->{c:List Value}->{bs:List Nat}->VCs m as c bs->∀u∈c,u.oneCell'=true
 |[],_,_,k=>by rw[k.1];intro u hu;cases hu
 |a::as,_,_,⟨c1,c2,b1,b2,e1,e2,k1,k2⟩=>by
  rw[e1];intro u hu;rcases AL.1 hu with hu|hu
  ·exact VC.ones a k1 u hu
  ·exact VCs.ones as k2 u hu
end
section
variable {m:Mem}
theorem VCs.nil:VCs m [] [] []:=⟨rfl,rfl⟩
theorem VCs.append{as bs:List AV}{c d:List Value}{p q:List Nat}(h:VCs m as c p)(k:VCs m bs d q):VCs m (as++bs) (c++d) (p++q):=by
 induction as generalizing c p with
 |nil=>obtain⟨rfl,rfl⟩:=h;exact k
 |cons a as ih=>
  obtain⟨c1,c2,b1,b2,rfl,rfl,h1,h2⟩:=h;exact⟨c1,c2++d,b1,b2++q,by simp,by simp,h1,ih h2⟩
theorem L8:(as:List AV)->{bs:List AV}->{c:List Value}->{p:List Nat}->VCs m (as++bs) c p->∃c1 c2 p1 p2,c=c1++c2/\p=p1++p2/\VCs m as c1 p1/\VCs m bs c2 p2
 |[],_,c,p,h=>⟨[],c,[],p,rfl,rfl,VCs.nil,h⟩
 |a::as,_,_,_,⟨c1,c2,b1,b2,e1,e2,h1,h2⟩=>by
  obtain⟨d1,d2,p1,p2,e3,e4,k1,k2⟩:=L8 as h2;exact⟨c1++d1,d2,b1++p1,p2,by simp[e1,e3],by simp[e2,e4],⟨c1,d1,b1,p1,rfl,rfl,h1,k1⟩,k2⟩
theorem VCs.one{a:AV}{c:List Value}{p:List Nat}:VCs m [a] c p↔VC m a c p:=by
 constructor
 ·rintro⟨c1,c2,b1,b2,rfl,rfl,h1,h2,h3⟩
  subst h2 h3;simpa using h1
 ·intro h;exact⟨c,[],p,[],by simp,by simp,h,rfl,rfl⟩
theorem PZ(as bs:List AV):AV.widths (as++bs)=AV.widths as+AV.widths bs:=by
 induction as with
 |nil=>simp[AV.widths]
 |cons a as ih=>simp[AV.widths,ih];omega
theorem D2{l:List AV}{sz:Nat}(h:∀e∈l,e.width=sz):AV.widths l=l.length*sz:=by
 induction l with
 |nil=>simp[AV.widths]
 |cons a l ih=>simp[AV.widths,ih (λe he=>h e (by simp[he])),h a (by simp),C2];omega
theorem VCs.get{l:List AV}{sz:Nat}(hw:∀e∈l,e.width=sz){c:List Value}{p:List Nat}(h:VCs m l c p){i:Nat}(hi:i<l.length):
  ∃c1 c2 c3 p1 p2 p3,c=c1++c2++c3/\p=p1++p2++p3/\c1.length=i*sz/\c2.length=sz/\VCs m (l.take i) c1 p1/\VC m l[i] c2 p2/\VCs m (l.drop (i+1)) c3 p3:=by
 have e:l=l.take i++([l[i]]++l.drop (i+1)):=by
  rw[HX,<-List.drop_eq_getElem_cons hi,B8]
 rw[e]at h;obtain⟨c1,c2,p1,p2,rfl,rfl,h1,h2⟩:=L8 _ h;obtain⟨c2,c3,p2,p3,rfl,rfl,h2,h3⟩:=L8 [l[i]] h2;rw[VCs.one]at h2;refine⟨c1,c2,c3,p1,p2,p3,by simp,by simp,?_,?_,h1,h2,h3⟩
 ·rw[VCs.len _ h1,D2 (sz:=sz) λe he=>hw e (BN he),DW,B6 (by omega)]
 ·rw[VC.len _ h2];exact hw _ (List.getElem_mem hi)
theorem V5{l:List AV}{i:Nat}(hi:i<l.length){c1 c2 c3:List Value}{p1 p2 p3:List Nat}{a:AV}(h1:VCs m (l.take i) c1 p1)(h2:VC m a c2 p2)(h3:VCs m (l.drop (i+1)) c3 p3):VCs m (l.set i a) (c1++c2++c3) (p1++p2++p3):=by
 have:l.set i a=l.take i++[a]++l.drop (i+1):=by rw[List.set_eq_take_append_cons_drop,Ab hi];simp
 rw[this];exact(h1.append (VCs.one.2 h2)).append h3
theorem VCs.take{l:List AV}{sz:Nat}(hw:∀e∈l,e.width=sz){c:List Value}{p:List Nat}(h:VCs m l c p){k:Nat}(hk:k<=l.length):∃p1 p2,p=p1++p2/\VCs m (l.take k) (c.take (k*sz)) p1/\VCs m (l.drop k) (c.drop (k*sz)) p2:=by
 have h':VCs m (l.take k++l.drop k) c p:=by rwa[B8]
 obtain⟨c1,c2,p1,p2,rfl,rfl,h1,h2⟩:=L8 _ h';have e:c1.length=k*sz:=by rw[VCs.len _ h1,D2 (sz:=sz) λe he=>hw e (BN he),DW,B6 hk]
 refine⟨p1,p2,rfl,?_,?_⟩
 ·rw[<-e,List.take_left];exact h1
 ·rw[<-e,List.drop_left];exact h2
end
end
section
open Go.RowKit
inductive AO where
 |gone
 |used
 |row (t:TypeId) (sz:Nat) (l:List AV)
 |raw (b:Nat) (o:Obj)
 |tv (K:AV->Value->Prop)
 |ob (K:Obj->Prop)
def ORel(m:Mem)(x:Nat):AO->List Nat->Prop
 |.gone,bs=>bs=[]/\¬m.U x
 |.used,bs=>bs=[]/\m.U x
 |.raw b o,bs=>bs=[b]/\m.U x/\m.w.heap[b]?=some o
 |.tv K,bs=>bs=[]/\m.U x/\∀v u,K v u->VV m v u []
 |.ob K,bs=>m.U x/\∃L,m.μ x=some L/\bs=[L.blk]/\∃o,m.w.heap[L.blk]?=some o/\K o
 |.row t sz l,bs=>m.U x/\∃L,m.μ x=some L/\L.sz=sz/\((L.isNil=true/\l=[]/\bs=[])\/
   (L.isNil=false/\∃arr bs',bs=L.blk::bs' /\m.w.heap[L.blk]?=some (.cells arr t (0,0))/\arr.size=L.cap*sz/\l.length<=L.cap/\L.cap<=maxLen/\(∀e∈l,e.width=sz)/\
    VCs m l (arr.toList.take (l.length*sz)) bs'))
abbrev AR:=Nat×AO
abbrev Zs:=List (AR×List Nat)
def Zs.own(Z:Zs):List Nat:=Z.flatMap (·.2)
def Zs.keys(Z:Zs):List Nat:=Z.map (·.1.1)
theorem ORel.monoC{m m':Mem}(h:m.LeC m'){x:Nat}{o:AO}{bs:List Nat}(hg:o= .gone->¬m'.U x)(hμ:∀L,m.μ x=some L->m'.μ x=some L)(hb:∀b∈bs,m'.w.heap[b]?=m.w.heap[b]?)(k:ORel m x o bs):ORel m' x o bs:=by
 cases o with
 |gone=>exact⟨k.1,hg rfl⟩
 |used=>exact⟨k.1,h.U x k.2⟩
 |raw b o=>exact⟨k.1,h.U x k.2.1,(hb _ (by simp[k.1])).trans k.2.2⟩
 |tv K=>exact⟨k.1,h.U x k.2.1,λv u hK=>VV.monoC h (by simp) (k.2.2 v u hK)⟩
 |ob K=>exact let ⟨h1,L,h2,h3,o,h4,h5⟩:=k;⟨h.U x h1,L,hμ L h2,h3,o,(hb _ (by simp[h3])).trans h4,h5⟩
 |row t sz l=>
  obtain⟨hu,L,h1,h2,h3⟩:=k;refine⟨h.U x hu,L,hμ L h1,h2,?_⟩;rcases h3 with h3|⟨h3,arr,bs',e1,e2,e3,e4,e5,e6,e7⟩
  ·exact .inl h3
  ·exact .inr ⟨h3,arr,bs',e1,(hb _ (by simp[e1])).trans e2,e3,e4,e5,e6,VCs.monoC h l (λb q=>hb b (by simp[e1,q])) e7⟩
theorem ORel.mono{m m':Mem}(h:m.Le m'){x:Nat}{o:AO}{bs:List Nat}(hg:o= .gone->¬m'.U x)(hμ:∀L,m.μ x=some L->m'.μ x=some L)(hb:∀b∈bs,m'.w.heap[b]?=m.w.heap[b]?)(k:ORel m x o bs):ORel m' x o bs:=ORel.monoC h.c hg hμ hb k
structure Good(m0 m:Mem)(N:Nat)(Z:Zs)(extra:List Nat):Prop where
 obj:∀z∈Z,ORel m z.1.1 z.1.2 z.2
 own:(Z.own++extra).Nodup
 blk:∀b∈Z.own++extra,b<m.w.heap.size/\¬m.F b
 frz:∀b,m.F b->b<m.w.heap.size
 keys:Z.keys.Nodup
 keyN:∀x∈Z.keys,x<N
 usedN:∀x,m.U x->x<N
 le:m0.Le m
 os:m.w.os=m0.w.os
 tape:m.w.tape=m0.w.tape
 output:m.w.output=m0.w.output
 size:m0.w.heap.size<=m.w.heap.size
theorem Oo{Z Z':Zs}(h:Z.Perm Z'):Z.own.Perm Z'.own:=h.flatMap_right _
theorem Good.perm{m0 m:Mem}{N:Nat}{Z Z':Zs}{extra:List Nat}(G:Good m0 m N Z extra)(h:Z.Perm Z'):Good m0 m N Z' extra:=
 ⟨λz hz=>G.obj z (h.mem_iff.2 hz),((Oo h).append_right extra).nodup_iff.1 G.own,λb hb=>G.blk b (((Oo h).append_right extra).mem_iff.2 hb),G.frz,(h.map _).nodup_iff.1 G.keys,λx hx=>G.keyN x ((h.map _).mem_iff.2 hx),G.usedN,G.le,G.os,G.tape,G.output,G.size⟩
theorem GA(Z R:Zs):Zs.own (Z++R)=Z.own++R.own:=Gg ..
theorem Je(Z R:Zs):Zs.keys (Z++R)=Z.keys++R.keys:=AK ..
theorem Good.swap{m0 m m':Mem}{N N':Nat}{zs zs' R:Zs}{ex ex':List Nat}(G:Good m0 m N (zs++R) ex)(hle:m.Le m')(hN:N<=N')
  (hμ:∀x,x∉zs.keys->x<N->m'.μ x=m.μ x)
  (hsame:∀b,b<m.w.heap.size->b∉zs.own->b∉ex->m'.w.heap[b]?=m.w.heap[b]?)
  (hobj:∀z∈zs',ORel m' z.1.1 z.1.2 z.2)
  (hown:(zs'.own++ex').Nodup) (hblk:∀b∈zs'.own++ex',b<m'.w.heap.size/\¬m'.F b/\(b∈zs.own\/b∈ex\/m.w.heap.size<=b))
  (hfrz:∀b,m'.F b->b<m'.w.heap.size/\(m.F b\/b∈zs.own\/b∈ex\/m.w.heap.size<=b))
  (hkeys:zs'.keys.Nodup) (hkeyN:∀x∈zs'.keys,x<N' /\(x∈zs.keys\/N<=x)) (hU:∀x,m'.U x->x<N' /\(m.U x\/x∈zs.keys\/N<=x))
  (hos:m'.w.os=m.w.os) (htape:m'.w.tape=m.w.tape) (hout:m'.w.output=m.w.output) (hsize:m.w.heap.size<=m'.w.heap.size):Good m0 m' N' (zs'++R) ex':=by
 have own:=G.own;have keys:=G.keys;rw[GA]at own;rw[Je]at keys
 have dR:∀b∈R.own,b∉zs.own/\b∉ex:=by
  intro b hb;rw[AN,AW]at own;refine⟨λh=>own.2.2 b h b (by simp[hb]) rfl,λh=>?_⟩;have:=own.2.1;rw[AW]at this;exact this.2.2 b hb b h rfl
 have kR:∀x∈R.keys,x∉zs.keys:=λx hx h=>(AW.1 keys).2.2 x h x hx rfl
 have lR:∀b∈R.own,b<m.w.heap.size/\¬m.F b:=λb hb=>G.blk b (by rw[GA];simp[hb])
 have nR:∀x∈R.keys,x<N:=λx hx=>G.keyN x (by rw[Je];simp[hx])
 refine⟨?_,?_,?_,λb hb=>(hfrz b hb).1,?_,?_,λx hx=>(hU x hx).1,G.le.trans hle,hos.trans G.os,htape.trans G.tape,hout.trans G.output,Bh G.size hsize⟩
 ·intro z hz
  rcases AL.1 hz with hz|hz
  ·exact hobj z hz
  ·have hk:z.1.1∈R.keys:=Ag.2 ⟨z,hz,rfl⟩
   have hb:∀b∈z.2,b∈R.own:=λb hb=>CG.2 ⟨z,hz,hb⟩
   have old:=G.obj z (AL.2 (.inr hz));refine ORel.mono hle ?_ ?_ ?_ old
   ·intro hg hu
    rw[hg]at old;rcases(hU _ hu).2 with h|h|h
    ·exact old.2 h
    ·exact kR _ hk h
    ·have:=nR _ hk;omega
   ·intro L hL
    rw[hμ _ (kR _ hk) (nR _ hk)];exact hL
   ·intro b hb'
    exact hsame b (lR b (hb b hb')).1 (dR b (hb b hb')).1 (dR b (hb b hb')).2
 ·rw[GA]
  have hRn:R.own.Nodup:=by
   rw[AN,AW]at own;exact(AW.1 own.2.1).1
  have hp:((zs'.own++ex')++R.own).Perm ((zs'.own++R.own)++ex'):=by
   rw[AN,AN];exact B9 _ BJ
  refine hp.nodup_iff.1 (AW.2 ⟨hown,hRn,λb hb c hc e=>?_⟩);subst e;rcases(hblk b hb).2.2 with h|h|h
  ·exact(dR b hc).1 h
  ·exact(dR b hc).2 h
  ·have:=(lR b hc).1;omega
 ·intro b hb
  rw[GA,AN]at hb;by_cases h:b∈zs'.own++ex'
  ·exact⟨(hblk b h).1,(hblk b h).2.1⟩
  ·have hbR:b∈R.own:=by
    simp only[AL]at hb h;rcases hb with hb|hb|hb
    ·exact absurd (.inl hb) h
    ·exact hb
    ·exact absurd (.inr hb) h
   refine⟨E3 (lR b hbR).1 hsize,λhF=>?_⟩;rcases(hfrz b hF).2 with h'|h'|h'|h'
   ·exact(lR b hbR).2 h'
   ·exact(dR b hbR).1 h'
   ·exact(dR b hbR).2 h'
   ·have:=(lR b hbR).1;omega
 ·rw[Je]
  refine AW.2 ⟨hkeys,(AW.1 keys).2.1,λx hx y hy e=>?_⟩;subst e;rcases(hkeyN x hx).2 with h|h
  ·exact kR x hy h
  ·have:=nR x hy;omega
 ·intro x hx
  rw[Je]at hx;rcases AL.1 hx with hx|hx
  ·exact(hkeyN x hx).1
  ·exact E3 (nR x hx) hN
theorem De{α:Type}{l:List α}{p:Nat}{z:α}(h:l[p]?=some z):∃R,l.Perm (z::R)/\∀z',(l.set p z').Perm (z'::R):=by
 induction l generalizing p with
 |nil=>simp at h
 |cons a l ih=>
  cases p with
  |zero=>simp at h;subst h;exact⟨l,.refl _,λz'=>.refl _⟩
  |succ p=>
   obtain⟨R,h1,h2⟩:=ih (p:=p) (by simpa using h);exact⟨a::R,(h1.cons a).trans (En ..),λz'=>((h2 z').cons a).trans (En ..)⟩
theorem KD{α:Type}{l:List α}{p q:Nat}{y z:α}(hpq:p≠q)(h:l[p]?=some y)(k:l[q]?=some z):∃R,l.Perm (y::z::R)/\∀y' z',((l.set p y').set q z').Perm (y'::z'::R):=by
 induction l generalizing p q with
 |nil=>simp at h
 |cons a l ih=>
  cases p with
  |zero=>
   cases q with
   |zero=>exact absurd rfl hpq
   |succ q=>
    simp at h;subst h;obtain⟨R,h1,h2⟩:=De (p:=q) (l:=l) (z:=z) (by simpa using k);exact⟨R,h1.cons a,λy' z'=>(h2 z').cons y'⟩
  |succ p=>
   cases q with
   |zero=>
    simp at k;subst k;obtain⟨R,h1,h2⟩:=De (p:=p) (l:=l) (z:=y) (by simpa using h);exact⟨R,(h1.cons a).trans (En ..),λy' z'=>((h2 y').cons z').trans (En ..)⟩
   |succ q=>
    obtain⟨R,h1,h2⟩:=ih (p:=p) (q:=q) (by omega) (by simpa using h) (by simpa using k);have sw:∀u v:α,(a::u::v::R).Perm (u::v::a::R):=λu v=>(En ..).trans ((En ..).cons u)
    exact⟨a::R,(h1.cons a).trans (sw _ _),λy' z'=>((h2 y' z').cons a).trans (sw _ _)⟩
theorem Ii{α β:Type}(f:β->α){S S':List α}(h:S.Perm S'):∀{Z:List β},Z.map f=S->∃Z',Z.Perm Z' /\Z'.map f=S':=by
 induction h with
 |nil=>intro Z hZ;exact⟨Z,.refl _,hZ⟩
 |cons a h ih=>
  intro Z hZ;cases Z with
  |nil=>simp at hZ
  |cons z Z=>
   simp only[Aa,Ci]at hZ;obtain⟨Z',h1,h2⟩:=ih hZ.2;exact⟨z::Z',h1.cons z,by simp[hZ.1,h2]⟩
 |swap a b l=>
  intro Z hZ
  match Z,hZ with
  |y::z::Z,hZ=>
   simp only[Aa,Ci]at hZ;exact⟨z::y::Z,.swap ..,by simp[hZ]⟩
 |trans _ _ ih1 ih2=>
  intro Z hZ;obtain⟨Z1,h1,h2⟩:=ih1 hZ;obtain⟨Z2,h3,h4⟩:=ih2 h2;exact⟨Z2,h1.trans h3,h4⟩
structure St where
 T:List (Nat×AV)
 S:List AR
def Bk:List (Nat×AV)->Nat->Option AV
 |[],_=>none
 |(e,v)::r,d=>match Nat.beq d e with
  |true=>some v
  |false=>Bk r d
def BB(T:List (Nat×AV)):Option Nat->AV->List (Nat×AV)
 |none,_=>T
 |some d,v=>(d,v)::T
def ev(T:List (Nat×AV)):Operand->Option AV
 |.tmp t=>Bk T t
 |.const v=>match v with
  |.agg cs=>match cs.all (·.oneCell')with
   |true=>some (.agg (cs.toList.map .prim))
   |false=>none
  |.tuple _=>none
  |v=>some (.prim v)
 |.func f=>some (.fn f [])
 |.global _=>none
theorem Lw(m:Mem):∀zl:List Value,(∀u∈zl,u.oneCell'=true)->VCs m (zl.map .prim) zl []
 |[],_=>⟨rfl,rfl⟩
 |u::zl,h=>⟨[u],zl,[],[],rfl,rfl,⟨⟨rfl,h u (by simp)⟩,rfl⟩,Lw m zl λv hv=>h v (by simp[hv])⟩
theorem CF(T:List (Nat×AV))(e d:Nat)(v:AV):Bk ((e,v)::T) d=if d=e then some v else Bk T d:=by
 simp only[Bk];by_cases h:d=e
 ·subst h;simp
 ·have:Nat.beq d e=false:=Bool.eq_false_iff.2 λhb=>h (DN hb)
  simp[this,h]
def VO(d:Nat):Deferred:={target:=.collected d,args:=#[]}
def DRel(m0 m:Mem)(a:Act):Prop:=∃ds:List Nat,a.defers=ds.map VO/\ds.Nodup/\∀d∈ds,m0.w.heap.size<=d/\m.F d/\m.w.heap[d]?=some (.deferred (some []))
theorem DRel.mono{m0 m m':Mem}(h:m.Le m'){a:Act}(k:DRel m0 m a):DRel m0 m' a:=by
 obtain⟨ds,h1,h2,h3⟩:=k;exact⟨ds,h1,h2,λd hd=>⟨(h3 d hd).1,(h.F d (h3 d hd).2.1).1,(h.F d (h3 d hd).2.1).2.trans (h3 d hd).2.2⟩⟩
theorem DRel.nil{m0 m:Mem}{a:Act}(h:a.defers=[]):DRel m0 m a:=⟨[],h,.nil,λd hd=>by cases hd⟩
def TRel(m0 m:Mem)(nt:Nat)(T:List (Nat×AV))(a:Act):Prop:=a.tmps.size=nt/\DRel m0 m a/\∀d v,Bk T d=some v->∃u,a.tmps[d]?=some u/\VV m v u []
def Rel(nt:Nat)(m0:Mem)(st:St)(a:Act)(w:World):Prop:=∃m N Z,m.w=w/\Z.map (·.1)=st.S/\Good m0 m N Z []/\TRel m0 m nt st.T a
theorem TRel.mono{m0 m m':Mem}(h:m.Le m'){nt:Nat}{T:List (Nat×AV)}{a:Act}(k:TRel m0 m nt T a):TRel m0 m' nt T a:=
 ⟨k.1,k.2.1.mono h,λd v hd=>let ⟨u,h1,h2⟩:=k.2.2 d v hd;⟨u,h1,h2.mono h (by simp)⟩⟩
theorem TRel.put{m0 m:Mem}{nt:Nat}{T:List (Nat×AV)}{a:Act}(k:TRel m0 m nt T a){dst:Option Nat}(hd:∀d,dst=some d->d<nt){v:AV}{u:Value}(h:VV m v u []):TRel m0 m nt (BB T dst v) (a.put dst u):=by
 cases dst with
 |none=>exact k
 |some d=>
  refine⟨by simp[Act.put,k.1],k.2.1,λe v' he=>?_⟩;simp only[BB,CF]at he;split at he
  ·rename_i e';subst e'
   injection he with he;subst he
   exact⟨u,by simp[Act.put,k.1,hd e rfl],h⟩
  ·rename_i hne
   obtain⟨u',h1,h2⟩:=k.2.2 e v' he;exact⟨u',by simp only[Act.put];rw[Y9 (λh=>hne h.symm)];exact h1,h2⟩
theorem TRel.ev{m0 m:Mem}{nt:Nat}{T:List (Nat×AV)}{a:Act}(k:TRel m0 m nt T a){x:Operand}{v:AV}(h:ev T x=some v):VV m v (a.eval x) []:=by
 cases x with
 |tmp t=>
  obtain⟨u,h1,h2⟩:=k.2.2 t v h;have:a.eval (.tmp t)=u:=by simp[Act.eval,CK,h1]
  rw[this];exact h2
 |const c=>
  cases c
  case agg cs=>
   have h:(match cs.all (·.oneCell')with|true=>some (AV.agg (cs.toList.map .prim))|false=>none)=some v:=h;split at h
   ·rename_i hc
    injection h with h
    subst h;exact⟨cs,rfl,Lw m _ λu hu=>by simpa using Array.all_eq_true_iff_forall_mem.1 hc u (by simpa using hu)⟩
   ·cases h
  case tuple vs=>cases h
  all_goals
   injection h with h
   subst h;exact⟨⟨rfl,rfl⟩,rfl⟩
 |func f=>
  injection h with h
  subst h;exact⟨#[],rfl,rfl,rfl⟩
 |global g=>cases h
end
section
variable {ro:Option Nat}
open Go.RowKit
def BA(S:List AR):List (Nat×AR)->List AR
 |[]=>S
 |q::r=>BA (S.set q.1 q.2) r
inductive Evs(T:List (Nat×AV)):List (Operand×AV)->Prop
 |nil:Evs T []
 |cons {x:Operand} {v:AV} {r:List (Operand×AV)} (h:ev T x=some v) (k:Evs T r):Evs T ((x,v)::r)
inductive At:List AR->Nat->AR->Prop
 |here {e:AR} {S:List AR}:At (e::S) 0 e
 |next {e e':AR} {S:List AR} {p:Nat} (h:At S p e):At (e'::S) (p+1) e
inductive Gets(S:List AR):List (Nat×AR)->Prop
 |nil:Gets S []
 |cons {p:Nat} {e:AR} {r:List (Nat×AR)} (h:At S p e) (k:Gets S r):Gets S ((p,e)::r)
theorem At.get{S:List AR}{p:Nat}{e:AR}(h:At S p e):S[p]?=some e:=by
 induction h with
 |here=>rfl
 |next _ ih=>simpa using ih
theorem Evs.all{T:List (Nat×AV)}{xs:List (Operand×AV)}(h:Evs T xs):∀q∈xs,ev T q.1=some q.2:=by
 induction h with
 |nil=>intro q hq;cases hq
 |cons h _ ih=>intro q hq;rcases AP.1 hq with rfl|hq;exact h;exact ih q hq
theorem Gets.all{S:List AR}{xs:List (Nat×AR)}(h:Gets S xs):∀q∈xs,S[q.1]?=some q.2:=by
 induction h with
 |nil=>intro q hq;cases hq
 |cons h _ ih=>intro q hq;rcases AP.1 hq with rfl|hq;exact h.get;exact ih q hq
def A7:Option Nat->Nat->Bool
 |none,_=>true
 |some d,n=>Nat.blt d n
theorem DT{o:Option Nat}{n:Nat}(h:A7 o n=true):∀d,o=some d->d<n:=by
 rintro d rfl;simpa[A7,Id]using h
def OpT(P:Program)(o:Oper)(xs:List (Operand×AV))(rS:List (Nat×AR))(v:AV)(wS:List (Nat×AR)):Prop:=
 ∀nt m0 T S a w,(∀q∈xs,ev T q.1=some q.2)->(∀q∈rS,S[q.1]?=some q.2)->(∀d,o.dst=some d->d<nt)->Rel nt m0 ⟨T,S⟩ a w->
  o.wp P a w (λa' w'=>Rel nt m0 ⟨BB T o.dst v,BA S wS⟩ a' w') (λ_ _ _=>False)
section
variable {P:Program}{nt:Nat}{m0:Mem}
theorem HB{T T':List (Nat×AV)}{S:List AR}{a:Act}{w:World}(h:Rel nt m0 ⟨T,S⟩ a w)(hT:∀d v,Bk T' d=some v->Bk T d=some v):Rel nt m0 ⟨T',S⟩ a w:=by
 obtain⟨m,N,Z,h1,h2,h3,h4,h5,h6⟩:=h;exact⟨m,N,Z,h1,h2,h3,h4,h5,λd v hd=>h6 d v (hT d v hd)⟩
def FW(ro:Option Nat):Fence:={Fence.wide with round:=ro}
theorem Qz{ro:Option Nat}{n:Nat}{P:Program}{f:FuncId}{args:Array Value}{w:World}{R:Ending->World->Prop}(h:Calls P f args w R):CallsIn (FW ro) n P f args w R:=callsIn_wide (n:=n).2 h
theorem V0{ro:Option Nat}{n:Nat}{P:Program}{f:FuncId}{args:Array Value}{w:World}{R:Ending->World->Prop}(h:CallsIn (FW ro) n P f args w R):Calls P f args w R:=callsIn_wide (n:=n).1 h
def AOps(ro:Option Nat)(P:Program)(nt:Nat)(ops:Array Oper)(Q:Exit->St->Prop)(rest:List Oper)(st:St):Prop:=
 ∀m0 a w,Rel nt m0 st a w->wpListIn (FW ro) 0 P ops (λe a' w'=>∃st',Rel nt m0 st' a' w' /\Q e st') rest a w
def AWP(ro:Option Nat)(P:Program)(nt:Nat)(c:Code)(Q:Exit->St->Prop)(st:St):Prop:=
 ∀m0 a w,Rel nt m0 st a w->c.wpIn (FW ro) 0 P (λe a' w'=>∃st',Rel nt m0 st' a' w' /\Q e st') a w
theorem YQ{ro:Option Nat}{n:Nat}{P:Program}{row:String}{args:Array Value}{w:World}{R:Value->World->Prop}(h:Rows P row args w R):RowsIn (FW ro) n P row args w R:=
 λc cs _=>let ⟨v,w',r,s⟩:=h c cs;⟨v,w',r,stepsIn_wide.2 s⟩
theorem Pz{P:Program}{f:Value}{args:Array Value}{w w':World}{d:Deferred}(h:(Deferred.ofValue f args).run P w= .ok d w'):∀r,d.target≠ .collected r:=by
 intro r;cases f<;>simp[Deferred.ofValue,AF,stuck]at h<;>(obtain⟨rfl,_⟩:=h;simp)
theorem Pt{P:Program}{ρ:Operand->Value}{c:Call}{t:TypeId}{w w':World}{d:Deferred}(h:(resolve ρ c t).run P w= .ok d w'):∀r,d.target≠ .collected r:=by
 intro r;unfold resolve at h;cases hc:c.callee with
 |builtin b=>simp[hc,AF]at h;obtain⟨rfl,_⟩:=h;simp
 |invoke x n=>simp[hc,AF]at h;obtain⟨rfl,_⟩:=h;simp
 |value f=>simp only[hc]at h;exact Pz h r
theorem aJ{o:Oper}{a:Act}{w:World}{st':St}(h:o.wp P a w (λa' w'=>Rel nt m0 st' a' w') (λ_ _ _=>False)):∀c,o.op≠ .defer c:=by
 intro c hc;unfold Oper.wp at h;have he:execOp a.eval o=(resolve a.eval c o.type>>=λd=>pure (.defer d)):=by unfold execOp;rw[hc]
 rw[he,AG]at h;cases hr:(resolve a.eval c o.type).run P w with
 |ok d w'=>
  rw[hr]at h;simp only[AA,AF]at h;rw[Oper.upon_defer]at h;obtain⟨m,N,Z,_,_,_,_,⟨ds,h5,_⟩,_⟩:=h;have h6:(({a with defers:=d::a.defers}:Act).put o.dst undef).defers=d::a.defers:=by cases o.dst<;>rfl
  rw[h6]at h5;cases ds with
  |nil=>cases h5
  |cons x ds=>
   injection h5 with h5
   exact Pt hr x (by rw[h5];rfl)
 |halt x w'=>
  rw[hr]at h;cases x<;>simp[Result.andThen,Oper.upon]at h
theorem Kc{o:Oper}{a:Act}{w:World}{st':St}{K:Act->World->Prop}{Q:Exit->Act->World->Prop}(h:o.wp P a w (λa' w'=>Rel nt m0 st' a' w') (λ_ _ _=>False))(hK:∀a' w',Rel nt m0 st' a' w' ->K a' w'):o.wpIn (FW ro) 0 P a w K Q:=by
 refine⟨λ_ _=>CZ,?_⟩;rw[show o.semAt (FW ro).round a.eval=execOp a.eval o from RJ _ _ _ (aJ h)];unfold Oper.wp at h;cases hr:(execOp a.eval o).run P w with
 |ok n w'=>
  rw[hr]at h
  cases n<;>simp only[Oper.upon,Oper.uponIn]at h⊢<;>
   first
    |exact hK _ _ h
    |exact⟨λh=>(by simp[FW,Fence.wide]at h),CallsIn.mono (Qz h) (λe w'' he=>by cases e<;>first|exact hK _ _ he|exact he.elim|exact(by obtain⟨_,_,hh⟩:=he;exact hh.elim))⟩
    |exact⟨λh=>(by simp[FW,Fence.wide]at h),RowsIn.mono (YQ h) (λ_ _ he=>hK _ _ he)⟩
 |halt x w'=>rw[hr]at h;cases x<;>simp only[Oper.upon]at h
def IC(nt:Nat)(st:St)(K:St->Prop):Prop:=∀m0 a w,Rel nt m0 st a w->∃st',Rel nt m0 st' a w/\K st'
variable {ops:Array Oper}{Q:Exit->St->Prop}{rest:List Oper}{st:St}{o:Oper}
theorem AOps.nil(h:Q .normal st):AOps ro P nt ops Q [] st:=λm0 a w hr=>⟨st,hr,h⟩
theorem AOps.ghost{K:St->Prop}(h:IC nt st K)(k:∀st',K st' ->AOps ro P nt ops Q rest st'):AOps ro P nt ops Q rest st:=
 λm0 a w hr=>let ⟨st',h1,h2⟩:=h m0 a w hr;k st' h2 m0 a w h1
theorem AWP.ghost{c:Code}{K:St->Prop}(h:IC nt st K)(k:∀st',K st' ->AWP ro P nt c Q st'):AWP ro P nt c Q st:=
 λm0 a w hr=>let ⟨st',h1,h2⟩:=h m0 a w hr;k st' h2 m0 a w h1
theorem AOps.step{xs:List (Operand×AV)}{rS:List (Nat×AR)}{v:AV}{wS:List (Nat×AR)}(hg:o.guard=none)(h:OpT P o xs rS v wS)(hx:Evs st.T xs)(hS:Gets st.S rS)(hd:A7 o.dst nt=true)
  (k:AOps ro P nt ops Q rest ⟨BB st.T o.dst v,BA st.S wS⟩):AOps ro P nt ops Q (o::rest) st:=
 λm0 a w hr=>HF hg λK hK=>Kc (h nt m0 _ _ a w hx.all hS.all (DT hd) hr) λa w h=>hK a w (k m0 a w h)
theorem U8{T:List (Nat×AV)}{S:List AR}{a:Act}{w:World}{dst:Option Nat}(hd:∀d,dst=some d->d<nt)(h:Rel nt m0 ⟨T,S⟩ a w):Rel nt m0 ⟨BB T dst .dead,S⟩ (a.put dst undef) w:=by
 obtain⟨m,N,Z,h1,h2,h3,h4⟩:=h;exact⟨m,N,Z,h1,h2,h3,h4.put hd rfl⟩
theorem AOps.skipG{g:Nat}{b b':Bool}{t:Nat}(hg:o.guard=some (g,b))(ht:(ops[g]?).bind (·.dst)=some t)(hv:Bk st.T t=some (.prim (.bool b')))(hb:b'= !b)(hd:A7 o.dst nt=true)
  (k:AOps ro P nt ops Q rest ⟨BB st.T o.dst .dead,st.S⟩):AOps ro P nt ops Q (o::rest) st:=by
 intro m0 a w hr;refine ZK λK hK=>?_
 have hy:yielded ops a.tmps g=some !b:=by
  obtain⟨m,N,Z,h1,h2,h3,h4,h5,h6⟩:=hr;obtain⟨u,hu1,hu2⟩:=h6 t _ hv;obtain⟨⟨e,_⟩,_⟩:=hu2;injection e with e
  subst e hb;simp[yielded,ht,hu1]
 rw[AI (by simp[Region.wanted,hg,hy])];exact⟨λ_ _=>CZ,hK _ _ (k m0 _ w (U8 (DT hd) hr))⟩
def LU:List Bool->AV->AV
 |[],v=>v
 |c::cs,v=>.opt c (LU cs v)
inductive Strips(cs:List Bool):AV->AV->Prop
 |refl {v:AV}:Strips cs v v
 |step {c:Bool} {w v:AV} (hc:c∈cs) (h:Strips cs w v):Strips cs (.opt c w) v
def Jw:AV->Option (List Bool×Bool)
 |.prim (.bool b)=>some ([],b)
 |.opt c a=>match Jw a with
  |some (cs,b)=>some (c::cs,b)
  |none=>none
 |_=>none
theorem Strips.vv{m:Mem}{cs:List Bool}{w v:AV}(h:Strips cs w v)(hall:∀c∈cs,c=true){u:Value}(k:VV m w u []):VV m v u []:=by
 induction h with
 |refl=>exact k
 |step hc h ih=>exact ih (k.2.1 (hall _ hc))
theorem cw{m:Mem}{cs:List Bool}{v:AV}(hall:∀c∈cs,c=true){u:Value}(k:VV m v u []):VV m (LU cs v) u []:=by
 induction cs with
 |nil=>exact k
 |cons c cs ih=>exact⟨rfl,λ_=>ih λc hc=>hall c (by simp[hc]),λhc=>by rw[hall c (by simp)]at hc;cases hc⟩
theorem VM{m:Mem}{cs:List Bool}{v:AV}(h:∃c∈cs,c=false):VV m (LU cs v) undef []:=by
 induction cs with
 |nil=>obtain⟨c,hc,_⟩:=h;cases hc
 |cons c cs ih=>
  refine⟨rfl,λhc=>ih ?_,λ_=>rfl⟩;obtain⟨d,hd,h⟩:=h;rcases AP.1 hd with rfl|hd
  ·rw[hc]at h;cases h
  ·exact⟨d,hd,h⟩
theorem OP{m:Mem}:∀{w:AV} {cs:List Bool} {b:Bool},Jw w=some (cs,b)->∀{u:Value},VV m w u []->((∀c∈cs,c=true)->u= .bool b)/\((∃c∈cs,c=false)->u=undef)
 |.opt c a,cs,b,h,u,k=>by
  simp only[Jw]at h;cases ha:Jw a with
  |none=>rw[ha]at h;cases h
  |some q=>
   obtain⟨cs',b'⟩:=q;rw[ha]at h;simp only[Ak,El]at h;obtain⟨rfl,rfl⟩:=h;refine⟨λhall=>(OP ha (k.2.1 (hall c (by simp)))).1 λd hd=>hall d (by simp[hd]),?_⟩;rintro⟨d,hd,rfl⟩;cases c with
   |false=>exact k.2.2 rfl
   |true=>
    refine(OP ha (k.2.1 rfl)).2 ?_;rcases AP.1 hd with h|h
    ·cases h
    ·exact⟨false,h,rfl⟩
 |.prim v,cs,b,h,u,k=>by
  cases v<;>simp only[Jw]at h<;>cases h;obtain⟨⟨e,_⟩,_⟩:=k;injection e with e
  exact⟨λ_=>e,λ⟨c,hc,_⟩=>by cases hc⟩
 |.dead,_,_,h,_,_|.agg _,_,_,h,_,_|.tup _,_,_,h,_,_|.lst ..,_,_,h,_,_|.bx ..,_,_,h,_,_|.sl ..,_,_,h,_,_|.ptr ..,_,_,h,_,_|.fp _,_,_,h,_,_|.fn ..,_,_,h,_,_|.mp _,_,_,h,_,_=>by cases h
inductive EvCs(cs:List Bool)(T:List (Nat×AV)):List (Operand×AV)->Prop
 |nil:EvCs cs T []
 |cons {x:Operand} {w v:AV} {r:List (Operand×AV)} (h:ev T x=some w) (hs:Strips cs w v) (k:EvCs cs T r):EvCs cs T ((x,v)::r)
theorem EvCs.all{cs:List Bool}{T:List (Nat×AV)}{xs:List (Operand×AV)}(h:EvCs cs T xs):∀q∈xs,∃w,ev T q.1=some w/\Strips cs w q.2:=by
 induction h with
 |nil=>intro q hq;cases hq
 |cons h hs _ ih=>intro q hq;rcases AP.1 hq with rfl|hq;exact⟨_,h,hs⟩;exact ih q hq
def Ma:List (Operand×AV)->List (Nat×AV)
 |[]=>[]
 |(.tmp t,v)::r=>(t,v)::Ma r
 |_::r=>Ma r
def aj(t:Nat):List (Operand×AV)->Bool
 |[]=>false
 |(.tmp d,_)::r=>Nat.beq t d||aj t r
 |_::r=>aj t r
def Ey:List (Operand×AV)->Bool
 |[]=>true
 |(.tmp t,_)::r=>!aj t r&&Ey r
 |_::r=>Ey r
theorem Ec(A B:List (Nat×AV))(d:Nat):Bk (A++B) d=(Bk A d).or (Bk B d):=by
 induction A with
 |nil=>rfl
 |cons a A ih=>
  obtain⟨e,v⟩:=a;rw[IK,CF,CF];split
  ·rfl
  ·exact ih
theorem ZR{xs:List (Operand×AV)}{d:Nat}{v:AV}(h:Bk (Ma xs) d=some v):(Operand.tmp d,v)∈xs:=by
 induction xs with
 |nil=>cases h
 |cons q xs ih=>
  obtain⟨x,v'⟩:=q;cases x with
  |tmp t=>
   rw[Ma,CF]at h;split at h
   ·rename_i e;subst e;injection h with h;subst h;simp
   ·simp[ih h]
  |_=>simp[ih h]
theorem dT{xs:List (Operand×AV)}{d:Nat}{v:AV}(h:(Operand.tmp d,v)∈xs):aj d xs=true:=by
 induction xs with
 |nil=>cases h
 |cons q xs ih=>
  obtain⟨x,v'⟩:=q;rcases AP.1 h with h'|h'
  ·injection h' with h1 h2;subst h1;simp[aj]
  ·cases x<;>simp[aj,ih h']
theorem ZQ{xs:List (Operand×AV)}(ho:Ey xs=true){d:Nat}{v:AV}(h:(Operand.tmp d,v)∈xs):Bk (Ma xs) d=some v:=by
 induction xs with
 |nil=>cases h
 |cons q xs ih=>
  obtain⟨x,v'⟩:=q;cases x with
  |tmp t=>
   simp only[Ey,AH,EK]at ho;rw[Ma,CF];rcases AP.1 h with h'|h'
   ·injection h' with h1 h2;injection h1 with h1;subst h1 h2;rw[Ab rfl]
   ·split
    ·rename_i e;subst e
     rw[dT h']at ho;cases ho.1
    ·exact ih ho.2 h'
  |_=>
   rcases AP.1 h with h|h
   ·injection h with h1 h2;cases h1
   ·exact ih ho h
theorem dh{T:List (Nat×AV)}{x:Operand}{w:AV}(h:ev T x=some w)(hx:∀t,x≠ .tmp t):∀c a,w≠ .opt c a:=by
 rintro c a rfl;cases x with
 |tmp t=>exact hx t rfl
 |const cv=>cases cv<;>simp only[ev]at h<;>first|(injection h with h;cases h)|(cases h)|(split at h<;>first|(injection h with h;cases h)|cases h)
 |func f=>injection h with h;cases h
 |global g=>cases h
theorem VE{o:Oper}{cs:List Bool}{xs:List (Operand×AV)}{rS:List (Nat×AR)}{v:AV}(h:OpT P o xs rS v [])(hon:Ey xs=true){T:List (Nat×AV)}{S:List AR}{a:Act}{w:World}(hx:∀q∈xs,∃w,ev T q.1=some w/\Strips cs w q.2)(hS:∀q∈rS,S[q.1]?=some q.2)(hd:∀d,o.dst=some d->d<nt)(hr:Rel nt m0 ⟨T,S⟩ a w)(hall:∀c∈cs,c=true):
  o.wp P a w (λa' w'=>Rel nt m0 ⟨BB T o.dst (LU cs v),S⟩ a' w') (λ_ _ _=>False):=by
 have hfirst:∀d v',Bk (Ma xs) d=some v' ->∃w,Bk T d=some w/\Strips cs w v':=λd v' hd=>hx _ (ZR hd)
 have hr1:Rel nt m0 ⟨Ma xs++T,S⟩ a w:=by
  obtain⟨m,N,Z,h1,h2,h3,h4,h5,h6⟩:=hr;refine⟨m,N,Z,h1,h2,h3,h4,h5,λd v' hd'=>?_⟩;rw[Ec]at hd';cases hl:Bk (Ma xs) d with
  |none=>rw[hl]at hd';exact h6 d v' hd'
  |some v1=>
   rw[hl]at hd';simp only[Option.some_or,Ak]at hd';subst hd';obtain⟨w1,h7,hs⟩:=hfirst d v1 hl;obtain⟨u,h8,h9⟩:=h6 d _ h7;exact⟨u,h8,hs.vv hall h9⟩
 have hx2:∀q∈xs,ev (Ma xs++T) q.1=some q.2:=by
  intro q hq;obtain⟨x,v'⟩:=q;obtain⟨w1,h1,hs⟩:=hx _ hq;by_cases hxt:∃t,x= .tmp t
  ·obtain⟨t,rfl⟩:=hxt
   show Bk (Ma xs++T) t=some v'
   rw[Ec,ZQ hon hq];rfl
  ·have hne:∀t,x≠ .tmp t:=λt e=>hxt ⟨t,e⟩
   have hw:w1=v':=by
    cases hs with
    |refl=>rfl
    |step hc hs=>exact absurd rfl (dh h1 hne _ _)
   subst hw;cases x with
   |tmp t=>exact absurd rfl (hne t)
   |_=>exact h1
 refine Nv ?_ (h nt m0 (Ma xs++T) S a w hx2 hS hd hr1);rintro a' w' ⟨m,N,Z,h1,h2,h3,h4,h5,h6⟩;refine⟨m,N,Z,h1,h2,h3,h4,h5,λd v' hd'=>?_⟩
 have key:∀d v',Bk T d=some v' ->(∀d',o.dst=some d' ->d≠d')->∃u,a'.tmps[d]?=some u/\VV m v' u []:=by
  intro d v' hd' hne
  have hl:Bk (BB (Ma xs++T) o.dst v) d=Bk (Ma xs++T) d:=by
   cases hdd:o.dst with
   |none=>rfl
   |some d0=>rw[BB,CF,AI (hne d0 hdd)]
  cases hl1:Bk (Ma xs) d with
  |none=>exact h6 d v' (by rw[hl,Ec,hl1];exact hd')
  |some v1=>
   obtain⟨u,h8,h9⟩:=h6 d v1 (by rw[hl,Ec,hl1];rfl);obtain⟨w1,h7,hs⟩:=hfirst d v1 hl1;rw[h7]at hd';injection hd' with hd';subst hd'
   refine⟨u,h8,?_⟩;clear h7 hl1 h8
   induction hs with
   |refl=>exact h9
   |step hc hs ih=>exact⟨rfl,λ_=>ih h9,λh=>by rw[hall _ hc]at h;cases h⟩
 cases hdd:o.dst with
 |none=>
  rw[hdd]at hd';exact key d v' hd' (by simp[hdd])
 |some d0=>
  rw[hdd,BB,CF]at hd';split at hd'
  ·rename_i e;subst e
   injection hd' with hd';subst hd'
   obtain⟨u,h8,h9⟩:=h6 d v (by rw[hdd,BB,CF,Ab rfl]);exact⟨u,h8,cw hall h9⟩
  ·rename_i hne
   refine key d v' hd' λd' hd''=>?_
   rw[hdd]at hd'';injection hd'' with hd'';subst hd'';exact hne
theorem YR{T:List (Nat×AV)}{S:List AR}{a:Act}{w:World}{dst:Option Nat}{v:AV}{cs:List Bool}(hc:∃c∈cs,c=false)(hd:∀d,dst=some d->d<nt)(h:Rel nt m0 ⟨T,S⟩ a w):Rel nt m0 ⟨BB T dst (LU cs v),S⟩ (a.put dst undef) w:=by
 obtain⟨m,N,Z,h1,h2,h3,h4⟩:=h;exact⟨m,N,Z,h1,h2,h3,h4.put hd (VM hc)⟩
theorem jX(cs:List Bool):(∀c∈cs,c=true)\/∃c∈cs,c=false:=by
 induction cs with
 |nil=>exact .inl (by simp)
 |cons c cs ih=>
  cases c
  ·exact .inr ⟨false,by simp,rfl⟩
  ·rcases ih with h|⟨d,hd,h⟩
   ·exact .inl λd hd=>by rcases AP.1 hd with rfl|hd;rfl;exact h d hd
   ·exact .inr ⟨d,by simp[hd],h⟩
theorem QS{T:List (Nat×AV)}{S:List AR}{a:Act}{w:World}(hr:Rel nt m0 ⟨T,S⟩ a w){g t:Nat}{b b':Bool}{wg:AV}{cs:List Bool}(hg:o.guard=some (g,b))(ht:(ops[g]?).bind (·.dst)=some t)(hv:Bk T t=some wg)(hc:Jw wg=some (cs,b')):
  (Region.wanted o (yielded ops a.tmps)=true/\∀c∈cs++[b'==b],c=true)\/(Region.wanted o (yielded ops a.tmps)=false/\∃c∈cs++[b'==b],c=false):=by
 obtain⟨m,N,Z,h1,h2,h3,h4,h5,h6⟩:=hr;obtain⟨u,hu1,hu2⟩:=h6 t _ hv;obtain⟨k1,k2⟩:=OP hc hu2;have hy:yielded ops a.tmps g=(λu:Value=>match u with|.bool b=>some b|_=>none) u:=by unfold yielded;rw[ht];simp only[Option.bind_some];rw[hu1];clear hu2 k1 k2 hu1;cases u<;>rfl
 rcases jX cs with hall|hno
 ·have:=k1 hall
  subst this;cases hb:b'==b
  ·refine .inr ⟨?_,false,by simp,rfl⟩
   have:b'≠b:=by simpa using hb
   simp[Region.wanted,hg,hy,this]
  ·refine .inl ⟨?_,λc hc=>?_⟩
   ·have:b'=b:=by simpa using hb
    simp[Region.wanted,hg,hy,this]
   ·rcases AL.1 hc with h|h
    ·exact hall c h
    ·simp only[AY]at h;exact h
 ·have:=k2 hno
  subst this;obtain⟨c,hc,hcf⟩:=hno;exact .inr ⟨by simp[Region.wanted,hg,hy,undef],c,by simp[hc],hcf⟩
theorem AOps.stepQ{xs:List (Operand×AV)}{rS:List (Nat×AR)}{v:AV}{g:Nat}{b b':Bool}{t:Nat}{wg:AV}{cs:List Bool}(hg:o.guard=some (g,b))(ht:(ops[g]?).bind (·.dst)=some t)(hv:Bk st.T t=some wg)(hc:Jw wg=some (cs,b'))
  (h:(∀c∈cs++[b'==b],c=true)->OpT P o xs rS v []) (hx:EvCs (cs++[b'==b]) st.T xs) (hS:Gets st.S rS) (hd:A7 o.dst nt=true) (hos:Ey xs=true) (k:AOps ro P nt ops Q rest ⟨BB st.T o.dst (LU (cs++[b'==b]) v),st.S⟩):AOps ro P nt ops Q (o::rest) st:=by
 intro m0 a w hr;refine ZK λK hK=>?_
 rcases QS hr hg ht hv hc with⟨hw,hall⟩|⟨hw,hno⟩
 ·rw[Ab hw]
  exact Kc (VE (h hall) hos hx.all hS.all (DT hd) hr hall) λa w h=>hK a w (k m0 a w h)
 ·rw[AI (by simp[hw])]
  exact⟨λ_ _=>CZ,hK _ _ (k m0 _ w (YR hno (DT hd) hr))⟩
structure Eff where
 o:Oper
 rT:List Nat
 rS:List Nat
 v:AV
 wS:List (Nat×AR)
def Eff.app(st:St)(e:Eff):St:=⟨BB st.T e.o.dst e.v,BA st.S e.wS⟩
def stX:List Eff->Nat->(Nat->Bool)->St->St
 |[],_,_,st=>st
 |e::r,k,X,st=>stX r (k+1) X (match X k with|true=>e.app st|false=>st)
theorem Wl{S:List AR}{p q:Nat}{e:AR}(h:p≠q):(S.set p e)[q]?=S[q]?:=CX h
theorem Md(S:List AR)(wS:List (Nat×AR)):(BA S wS).length=S.length:=by
 induction wS generalizing S with
 |nil=>rfl
 |cons q r ih=>simp[BA,ih]
theorem Lv{wS:List (Nat×AR)}{p:Nat}(h:∀q∈wS,q.1≠p)(S:List AR):(BA S wS)[p]?=S[p]?:=by
 induction wS generalizing S with
 |nil=>rfl
 |cons q r ih=>simp only[BA];rw[ih (λx hx=>h x (by simp[hx])),Wl (h q (by simp))]
theorem SG{wS:List (Nat×AR)}{p:Nat}(h:∃q∈wS,q.1=p){S S':List AR}(hl:S.length=S'.length):(BA S wS)[p]?=(BA S' wS)[p]?:=by
 induction wS generalizing S S' with
 |nil=>obtain⟨q,hq,_⟩:=h;cases hq
 |cons q r ih=>
  simp only[BA];by_cases hr:∃x∈r,x.1=p
  ·exact ih hr (by simp[hl])
  ·have hne:∀x∈r,x.1≠p:=λx hx e=>hr ⟨x,hx,e⟩
   rw[Lv hne,Lv hne];obtain⟨x,hx,e⟩:=h;rcases AP.1 hx with rfl|hx
   ·subst e
    simp[List.getElem?_set,hl]
   ·exact absurd e (hne x hx)
theorem LO{effs:List Eff}{k:Nat}{X Y:Nat->Bool}{t:Nat}{s s':St}(h:∀j e,effs[j]?=some e->e.o.dst=some t->X (k+j)=Y (k+j))(hs:Bk s.T t=Bk s'.T t):Bk (stX effs k X s).T t=Bk (stX effs k Y s').T t:=by
 induction effs generalizing k s s' with
 |nil=>exact hs
 |cons e r ih=>
  refine ih (λj e' he hd=>?_) ?_
  ·have:=h (j+1) e' (by simpa using he) hd
   rwa[show k+1+j=k+(j+1)from by omega]
  ·by_cases hd:e.o.dst=some t
   ·have hXY:=h 0 e rfl hd
    rw[EI]at hXY;rw[<-hXY];cases X k
    ·exact hs
    ·simp[Eff.app,hd,BB,CF]
   ·have ap:∀s:St,Bk (e.app s).T t=Bk s.T t:=λs=>by
     simp only[Eff.app];cases hdd:e.o.dst with
     |none=>rfl
     |some d=>rw[BB,CF,AI];exact λh=>hd (by rw[hdd,h])
    cases X k<;>cases Y k<;>simp[ap,hs]
theorem NI{effs:List Eff}{k:Nat}{X Y:Nat->Bool}{p:Nat}{s s':St}(h:∀j e,effs[j]?=some e->(∃q∈e.wS,q.1=p)->X (k+j)=Y (k+j))(hl:s.S.length=s'.S.length)(hs:s.S[p]?=s'.S[p]?):(stX effs k X s).S[p]?=(stX effs k Y s').S[p]?:=by
 induction effs generalizing k s s' with
 |nil=>exact hs
 |cons e r ih=>
  refine ih (λj e' he hd=>?_) ?_ ?_
  ·have:=h (j+1) e' (by simpa using he) hd
   rwa[show k+1+j=k+(j+1)from by omega]
  ·cases X k<;>cases Y k<;>simp[Eff.app,Md,hl]
  ·by_cases hd:∃q∈e.wS,q.1=p
   ·have hXY:=h 0 e rfl hd
    rw[EI]at hXY;rw[<-hXY];cases X k
    ·exact hs
    ·exact SG hd hl
   ·have ap:∀s:St,(e.app s).S[p]?=s.S[p]?:=λs=>Lv (λq hq e=>hd ⟨q,hq,e⟩) _
    cases X k<;>cases Y k<;>simp[ap,hs]
theorem YK(effs:List Eff)(k:Nat)(X:Nat->Bool)(s:St):(stX effs k X s).S.length=s.S.length:=by
 induction effs generalizing k s with
 |nil=>rfl
 |cons e r ih=>simp only[stX];rw[ih];cases X k<;>simp[Eff.app,Md]
theorem cM{effs:List Eff}{k i:Nat}{X:Nat->Bool}{t:Nat}{e:Eff}{s:St}(hi:effs[i]?=some e)(hX:X (k+i)=true)(hd:e.o.dst=some t)(hn:∀j e',i<j->effs[j]?=some e' ->X (k+j)=true->e'.o.dst≠some t):Bk (stX effs k X s).T t=some e.v:=by
 induction effs generalizing k i s with
 |nil=>simp at hi
 |cons e0 r ih=>
  cases i with
  |zero=>
   simp at hi hX;subst hi;simp only[stX,hX]
   have:=LO (effs:=r) (k:=k+1) (X:=X) (Y:=λ_=>false) (t:=t) (s:=e0.app s) (s':=e0.app s) (λj e' he hd'=>by
    have:=hn (j+1) e' (by omega) (by simpa using he);rw[show k+(j+1)=k+1+j from by omega]at this;cases hx:X (k+1+j)
    ·rfl
    ·exact absurd hd' (this hx)) rfl
   rw[this]
   have none:∀(r:List Eff) k s,stX r k (λ_=>false) s=s:=by
    intro r
    induction r with
    |nil=>intros;rfl
    |cons e r ih=>intro k s;exact ih _ _
   rw[none];simp[Eff.app,hd,BB,CF]
  |succ i=>
   refine ih (k:=k+1) (i:=i) (by simpa using hi) (by rwa[show k+1+i=k+(i+1)from by omega]) λj e' hj he hx=>?_
   exact hn (j+1) e' (by omega) (by simpa using he) (by rwa[show k+(j+1)=k+1+j from by omega])
theorem Zm{effs:List Eff}{k i:Nat}{X:Nat->Bool}{p:Nat}{e:Eff}{s:St}(hi:effs[i]?=some e)(hX:X (k+i)=true)(hd:∃q∈e.wS,q.1=p)(hn:∀j e',i<j->effs[j]?=some e' ->X (k+j)=true->¬∃q∈e'.wS,q.1=p)(S':List AR)(hl:S'.length=s.S.length):(stX effs k X s).S[p]?=(BA S' e.wS)[p]?:=by
 induction effs generalizing k i s with
 |nil=>simp at hi
 |cons e0 r ih=>
  cases i with
  |zero=>
   simp at hi hX;subst hi;simp only[stX,hX]
   have:=NI (effs:=r) (k:=k+1) (X:=X) (Y:=λ_=>false) (p:=p) (s:=e0.app s) (s':=e0.app s) (λj e' he hd'=>by
    have:=hn (j+1) e' (by omega) (by simpa using he);rw[show k+(j+1)=k+1+j from by omega]at this;cases hx:X (k+1+j)
    ·rfl
    ·exact absurd hd' (this hx)) rfl rfl
   rw[this]
   have none:∀(r:List Eff) k s,stX r k (λ_=>false) s=s:=by
    intro r
    induction r with
    |nil=>intros;rfl
    |cons e r ih=>intro k s;exact ih _ _
   rw[none];exact SG hd hl.symm
  |succ i=>
   refine ih (k:=k+1) (i:=i) (by simpa using hi) (by rwa[show k+1+i=k+(i+1)from by omega]) (λj e' hj he hx=>?_) ?_
   ·exact hn (j+1) e' (by omega) (by simpa using he) (by rwa[show k+(j+1)=k+1+j from by omega])
   ·cases X k<;>simp[Eff.app,Md,hl]
end
end
section
variable {ro:Option Nat}
open Go.RowKit
def jB(acc:List Nat)(o:Oper):Nat:=o.after.toList.foldl (λs e=>match Region.binds .any e with|true=>s|||2^e.on|||acc.getD e.on 0|false=>s) 0
def Du:List Oper->List Nat->List Nat
 |[],acc=>acc
 |o::r,acc=>Du r (acc++[jB acc o])
def down:List Oper->Nat->Bool
 |[],_=>true
 |o::r,k=>o.after.toList.all (λe=>!Region.binds .any e||Nat.blt e.on k)&&down r (k+1)
def VN:Option Nat->List Nat->Bool
 |none,_=>false
 |some d,l=>l.any (Nat.beq d)
def U2:Option Nat->Option Nat->Bool
 |some d,some e=>Nat.beq d e
 |_,_=>false
def O5(a b:List Nat):Bool:=a.any λx=>b.any (Nat.beq x)
def clash(a b:Eff):Bool:=
 VN a.o.dst b.rT||VN b.o.dst a.rT||U2 a.o.dst b.o.dst||O5 (a.wS.map (·.1)) b.rS||O5 (b.wS.map (·.1)) a.rS||O5 (a.wS.map (·.1)) (b.wS.map (·.1))
def FT(effs:List Eff)(ms:List Nat):Bool:=
 (List.range effs.length).all λj=>(List.range j).all λi=>match effs[i]?,effs[j]?,ms[j]? with
  |some a,some b,some m=>!clash a b||m.testBit i
  |_,_,_=>false
section
theorem aw(acc:List Nat)(i:Nat):∀(l:List Edge) (s:Nat),(l.foldl (λs e=>match Region.binds .any e with|true=>s|||2^e.on|||acc.getD e.on 0|false=>s) s).testBit i=true->
  s.testBit i=true\/∃e∈l,Region.binds .any e=true/\(i=e.on\/(acc.getD e.on 0).testBit i=true):=by
 intro l
 induction l with
 |nil=>intro s h;exact .inl h
 |cons e l ih=>
  intro s h;simp only[MC]at h;rcases ih _ h with h|⟨e',h1,h2,h3⟩
  ·cases hb:Region.binds .any e
   ·rw[hb]at h;exact .inl h
   ·rw[hb]at h
    simp only[Nat.testBit_or,Nat.testBit_two_pow,CE,Dt]at h;rcases h with(h|h)|h
    ·exact .inl h
    ·exact .inr ⟨e,by simp,hb,.inl h.symm⟩
    ·exact .inr ⟨e,by simp,hb,.inr h⟩
  ·exact .inr ⟨e',by simp[h1],h2,h3⟩
theorem Iv(X:Nat->Bool):∀(r:List Oper) (acc:List Nat) (h:∀j o,r[j]?=some o->X (acc.length+j)=true->∀e∈o.after.toList,Region.binds .any e=true->X e.on=true)
  (hacc:∀j m,acc[j]?=some m->X j=true->∀i,m.testBit i=true->X i=true),∀j m,(Du r acc)[j]?=some m->X j=true->∀i,m.testBit i=true->X i=true:=by
 intro r
 induction r with
 |nil=>intro acc h hacc;exact hacc
 |cons o r ih=>
  intro acc h hacc;simp only[Du];refine ih _ ?_ ?_
  ·intro j o' hj hX
   refine h (j+1) o' (by simpa using hj) ?_;rw[Di,BM,show acc.length+1+j=acc.length+(j+1)from by omega]at hX;exact hX
  ·intro j m hj hX i hi
   rcases FN j acc.length with hlt|heq|hgt
   ·rw[Bw hlt]at hj
    exact hacc j m hj hX i hi
   ·subst heq
    rw[BX (AT _),Co]at hj;simp at hj;subst hj;rcases aw acc i _ 0 hi with h0|⟨e,he,hb,h0⟩
    ·simp at h0
    ·have hon:=h 0 o rfl (by simpa using hX) e he hb
     rcases h0 with rfl|h0
     ·exact hon
     ·rw[List.getD_eq_getElem?_getD]at h0
      cases hm:acc[e.on]? with
      |none=>rw[hm]at h0;simp at h0
      |some m'=>rw[hm]at h0;exact hacc e.on m' hm hon i h0
   ·rw[CD (by simp;omega)]at hj
    cases hj
theorem bC:∀(r:List Oper) (k:Nat),down r k=true->∀j o,r[j]?=some o->∀e∈o.after.toList,Region.binds .any e=true->e.on<k+j:=by
 intro r
 induction r with
 |nil=>intro k _ j o h;simp at h
 |cons o r ih=>
  intro k h j o' hj e he hb;simp only[down,AH]at h;cases j with
  |zero=>
   simp at hj;subst hj;have:=Cr.1 h.1 e he;simpa[hb,Id]using this
  |succ j=>
   have:=ih (k+1) h.2 j o' (by simpa using hj) e he hb;omega
theorem Hq{a b:Eff}(h:clash a b=false):(∀d,a.o.dst=some d->d∉b.rT)/\(∀d,b.o.dst=some d->d∉a.rT)/\(∀d,a.o.dst=some d->b.o.dst≠some d)/\
  (∀q∈a.wS,q.1∉b.rS)/\(∀q∈b.wS,q.1∉a.rS)/\(∀q∈a.wS,∀q'∈b.wS,q.1≠q'.1):=by
 simp only[clash,DG]at h;obtain⟨⟨⟨⟨⟨h1,h2⟩,h3⟩,h4⟩,h5⟩,h6⟩:=h;have bq:∀x y:Nat,Nat.beq x y=false->x≠y:=λx y h e=>by subst e;simp at h
 refine⟨λd hd hm=>?_,λd hd hm=>?_,λd hd he=>?_,λq hq hm=>?_,λq hq hm=>?_,λq hq q' hq' e=>?_⟩
 ·rw[hd]at h1
  simp only[VN,CW]at h1;exact h1 d hm (by simp)
 ·rw[hd]at h2
  simp only[VN,CW]at h2;exact h2 d hm (by simp)
 ·rw[hd,he]at h3
  exact bq d d h3 rfl
 ·simp only[O5,CW,Ag,PG]at h4
  exact bq _ _ (h4 q.1 ⟨q,hq,rfl⟩ q.1 hm) rfl
 ·simp only[O5,CW,Ag,PG]at h5
  exact bq _ _ (h5 q.1 ⟨q,hq,rfl⟩ q.1 hm) rfl
 ·simp only[O5,CW,Ag,PG]at h6
  exact bq _ _ (h6 q.1 ⟨q,hq,rfl⟩ q'.1 ⟨q',hq',rfl⟩) e
end
def TI(P:Program)(nt:Nat)(ops:Array Oper)(e:Eff)(st:St):Prop:=
 ∀m0 T S a w,(∀t∈e.rT,Bk T t=Bk st.T t)->(∀p∈e.rS,S[p]?=st.S[p]?)->Rel nt m0 ⟨T,S⟩ a w->
  if Region.wanted e.o (yielded ops a.tmps)then e.o.wp P a w (λa' w'=>Rel nt m0 (e.app ⟨T,S⟩) a' w') (λ_ _ _=>False)else Rel nt m0 (e.app ⟨T,S⟩) (a.put e.o.dst undef) w
def Br(xs:List (Operand×AV)):List Nat:=xs.filterMap λq=>match q.1 with|.tmp t=>some t|_=>none
inductive Run(P:Program)(nt:Nat)(ops:Array Oper):List Oper->St->List Eff->St->Prop
 |nil {st:St}:Run P nt ops [] st [] st
 |step {o:Oper} {rest:List Oper} {st st':St} {xs:List (Operand×AV)} {rS:List (Nat×AR)} {v:AV} {wS:List (Nat×AR)} {effs:List Eff} (hg:o.guard=none) (h:OpT P o xs rS v wS) (hx:Evs st.T xs) (hS:Gets st.S rS) (hd:A7 o.dst nt=true)
   (k:Run P nt ops rest ⟨BB st.T o.dst v,BA st.S wS⟩ effs st'):Run P nt ops (o::rest) st (⟨o,Br xs,rS.map (·.1),v,wS⟩::effs) st'
 |stepG {o:Oper} {rest:List Oper} {st st':St} {xs:List (Operand×AV)} {rS:List (Nat×AR)} {v:AV} {wS:List (Nat×AR)} {effs:List Eff} {g:Nat} {b b':Bool} {t:Nat} (hg:o.guard=some (g,b)) (ht:(ops[g]?).bind (·.dst)=some t) (hv:Bk st.T t=some (.prim (.bool b'))) (hb:b'=b)
   (h:OpT P o xs rS v wS) (hx:Evs st.T xs) (hS:Gets st.S rS) (hd:A7 o.dst nt=true)
   (k:Run P nt ops rest ⟨BB st.T o.dst v,BA st.S wS⟩ effs st'):Run P nt ops (o::rest) st (⟨o,t::Br xs,rS.map (·.1),v,wS⟩::effs) st'
 |skipG {o:Oper} {rest:List Oper} {st st':St} {effs:List Eff} {g:Nat} {b b':Bool} {t:Nat} (hg:o.guard=some (g,b)) (ht:(ops[g]?).bind (·.dst)=some t) (hv:Bk st.T t=some (.prim (.bool b'))) (hb:b'= !b) (hd:A7 o.dst nt=true)
   (k:Run P nt ops rest ⟨BB st.T o.dst .dead,st.S⟩ effs st'):Run P nt ops (o::rest) st (⟨o,[t],[],.dead,[]⟩::effs) st'
 |stepQ {o:Oper} {rest:List Oper} {st st':St} {xs:List (Operand×AV)} {rS:List (Nat×AR)} {v:AV} {effs:List Eff} {g:Nat} {b b':Bool} {t:Nat} {wg:AV} {cs:List Bool} (hg:o.guard=some (g,b)) (ht:(ops[g]?).bind (·.dst)=some t) (hv:Bk st.T t=some wg) (hc:Jw wg=some (cs,b'))
   (h:(∀c∈cs++[b'==b],c=true)->OpT P o xs rS v []) (hx:EvCs (cs++[b'==b]) st.T xs) (hS:Gets st.S rS) (hd:A7 o.dst nt=true) (hos:Ey xs=true) (k:Run P nt ops rest ⟨BB st.T o.dst (LU (cs++[b'==b]) v),st.S⟩ effs st'):Run P nt ops (o::rest) st (⟨o,t::Br xs,rS.map (·.1),LU (cs++[b'==b]) v,[]⟩::effs) st'
section
variable {P:Program}{nt:Nat}{ops:Array Oper}
theorem Im{st:St}{T:List (Nat×AV)}{xs:List (Operand×AV)}(hx:Evs st.T xs)(h:∀t∈Br xs,Bk T t=Bk st.T t):∀q∈xs,ev T q.1=some q.2:=by
 intro q hq;have h0:=hx.all q hq;rcases hq1:q.1 with t|c|g|f
 ·rw[hq1]at h0
  show Bk T t=_
  rw[h t (List.mem_filterMap.2 ⟨q,hq,by simp[hq1]⟩)];exact h0
 all_goals rw[hq1]at h0;exact h0
theorem Xb{cs:List Bool}{st:St}{T:List (Nat×AV)}{xs:List (Operand×AV)}(hx:EvCs cs st.T xs)(h:∀t∈Br xs,Bk T t=Bk st.T t):∀q∈xs,∃w,ev T q.1=some w/\Strips cs w q.2:=by
 intro q hq;obtain⟨w,h0,hs⟩:=hx.all q hq;refine⟨w,?_,hs⟩;rcases hq1:q.1 with t|c|g|f
 ·rw[hq1]at h0
  show Bk T t=_
  rw[h t (List.mem_filterMap.2 ⟨q,hq,by simp[hq1]⟩)];exact h0
 all_goals rw[hq1]at h0;exact h0
theorem Kp{st:St}{S:List AR}{rS:List (Nat×AR)}(hS:Gets st.S rS)(h:∀p∈rS.map (·.1),S[p]?=st.S[p]?):∀q∈rS,S[q.1]?=some q.2:=
 λq hq=>(h q.1 (Ag.2 ⟨q,hq,rfl⟩)).trans (hS.all q hq)
theorem Uc{m0:Mem}{T:List (Nat×AV)}{S:List AR}{a:Act}{w:World}(hr:Rel nt m0 ⟨T,S⟩ a w){g t:Nat}{b:Bool}(ht:(ops[g]?).bind (·.dst)=some t)(hv:Bk T t=some (.prim (.bool b))):yielded ops a.tmps g=some b:=by
 obtain⟨m,N,Z,h1,h2,h3,h4,h5,h6⟩:=hr;obtain⟨u,hu1,hu2⟩:=h6 t _ hv;obtain⟨⟨e,_⟩,_⟩:=hu2;injection e with e
 subst e;simp[yielded,ht,hu1]
theorem Ig(effs:List Eff)(k:Nat)(X:Nat->Bool)(s:St):stX effs (k+1) X s=stX effs k (λj=>X (j+1)) s:=by
 induction effs generalizing k s with
 |nil=>rfl
 |cons e r ih=>simp only[stX];rw[ih]
theorem J9(effs:List Eff)(k:Nat)(s:St):stX effs k (λ_=>false) s=s:=by
 induction effs generalizing k s with
 |nil=>rfl
 |cons e r ih=>exact ih _ _
theorem Run.spec{l:List Oper}{st st':St}{effs:List Eff}(h:Run P nt ops l st effs st'):st'=stX effs 0 (λ_=>true) st/\effs.map (·.o)=l/\
  ∀i e,effs[i]?=some e->TI P nt ops e (stX effs 0 (λj=>decide (j<i)) st):=by
 have shift:∀(e0:Eff) (effs:List Eff) (st:St) (i:Nat),stX (e0::effs) 0 (λj=>decide (j<i+1)) st=stX effs 0 (λj=>decide (j<i)) (e0.app st):=by
  intro e0 effs st i;show stX effs (0+1) (λj=>decide (j<i+1)) (match decide (0<i+1)with|true=>e0.app st|false=>st)=_
  rw[Ig,decide_eq_true (bd i)];simp
 have full:∀(e0:Eff) (effs:List Eff) (st:St),stX (e0::effs) 0 (λ_=>true) st=stX effs 0 (λ_=>true) (e0.app st):=by
  intro e0 effs st;show stX effs (0+1) (λ_=>true) (e0.app st)=_
  rw[Ig]
 have first:∀(e0:Eff) (effs:List Eff) (st:St),stX (e0::effs) 0 (λj=>decide (j<0)) st=st:=by
  intro e0 effs st;have:(λj:Nat=>decide (j<0))=λ_=>false:=by funext j;simp
  rw[this,J9]
 induction h with
 |nil=>exact⟨rfl,rfl,λi e h=>by simp at h⟩
 |step hg h hx hS hd k ih=>
  obtain⟨h1,h2,h3⟩:=ih;refine⟨by rw[full];exact h1,by simp[h2],λi e he=>?_⟩;cases i with
  |zero=>
   simp at he;subst he;rw[first];intro m0 T S a w hT hSS hr;rw[Ab (by simp[Region.wanted,hg])];exact h nt m0 T S a w (Im hx hT) (Kp hS hSS) (DT hd) hr
  |succ i=>
   rw[shift];exact h3 i e (by simpa using he)
 |stepG hg ht hv hb h hx hS hd k ih=>
  obtain⟨h1,h2,h3⟩:=ih;refine⟨by rw[full];exact h1,by simp[h2],λi e he=>?_⟩;cases i with
  |zero=>
   simp at he;subst he;rw[first];intro m0 T S a w hT hSS hr;have hy:=Uc hr ht ((hT _ (by simp)).trans hv);rw[Ab (by simp[Region.wanted,hg,hy,hb])];exact h nt m0 T S a w (Im hx λt ht=>hT t (by simp[ht])) (Kp hS hSS) (DT hd) hr
  |succ i=>
   rw[shift];exact h3 i e (by simpa using he)
 |skipG hg ht hv hb hd k ih=>
  obtain⟨h1,h2,h3⟩:=ih;refine⟨by rw[full];exact h1,by simp[h2],λi e he=>?_⟩;cases i with
  |zero=>
   simp at he;subst he;rw[first];intro m0 T S a w hT hSS hr;have hy:=Uc hr ht ((hT _ (by simp)).trans hv);rw[AI (by simp[Region.wanted,hg,hy,hb])];exact U8 (DT hd) hr
  |succ i=>
   rw[shift];exact h3 i e (by simpa using he)
 |stepQ hg ht hv hc h hx hS hd hos k ih=>
  obtain⟨h1,h2,h3⟩:=ih;refine⟨by rw[full];exact h1,by simp[h2],λi e he=>?_⟩;cases i with
  |zero=>
   simp at he;subst he;rw[first];intro m0 T S a w hT hSS hr;rcases QS hr hg ht ((hT _ (by simp)).trans hv) hc with⟨hw,hall⟩|⟨hw,hno⟩
   ·rw[Ab hw]
    exact VE (h hall) hos (Xb hx λt ht=>hT t (by simp[ht])) (Kp hS hSS) (DT hd) hr hall
   ·rw[AI (by simp[hw])]
    exact YR hno (DT hd) hr
  |succ i=>
   rw[shift];exact h3 i e (by simpa using he)
theorem Good.draw{m0 m:Mem}{N:Nat}{Z:Zs}{ex:List Nat}(G:Good m0 m N Z ex)(n:Nat):Good m0 {m with w:={m.w with drawn:=n}} N Z ex:=by
 have hle:m.Le {m with w:={m.w with drawn:=n}}:=⟨λ_ h=>h,λ_ _ _ h=>h,λ_ h=>⟨h,rfl⟩⟩
 have:=Good.swap (zs:=[]) (zs':=[]) (R:=Z) (m':={m with w:={m.w with drawn:=n}}) (N':=N) (ex':=ex) G hle (AT _) (λ_ _ _=>rfl) (λ_ _ _ _=>rfl) (λz hz=>by cases hz)
  (by have:=(AW.1 G.own).2.1;simpa[Zs.own]using this)
  (λb hb=>by
   have hb':b∈ex:=by simpa[Zs.own]using hb
   exact⟨(G.blk b (by simp[hb'])).1,(G.blk b (by simp[hb'])).2,.inr (.inl hb')⟩)
  (λb hb=>⟨G.frz b hb,.inl hb⟩) (by simp[Zs.keys]) (λx hx=>by simp[Zs.keys]at hx) (λx hx=>⟨G.usedN x hx,.inl hx⟩) rfl rfl rfl (AT _)
 simpa using this
theorem Rel.draw{m0:Mem}{st:St}{a:Act}{w:World}(h:Rel nt m0 st a w)(n:Nat):Rel nt m0 st a {w with drawn:=n}:=by
 obtain⟨m,N,Z,rfl,h2,h3,h4⟩:=h;exact⟨{m with w:={m.w with drawn:=n}},N,Z,rfl,h2,h3.draw n,TRel.mono (m:=m) (m':={m with w:={m.w with drawn:=n}}) ⟨λ_ h=>h,λ_ _ _ h=>h,λ_ h=>⟨h,rfl⟩⟩ h4⟩
theorem LN{effs:List Eff}{st:St}{X:Array Bool}{i:Nat}(heff:effs.map (·.o)<+:ops.toList)(hc:FT effs (Du ops.toList [])=true)(hX:X.size=ops.size)(hdc:∀j o,ops.toList[j]?=some o->X.getD j false=true->∀e∈o.after.toList,Region.binds .any e=true->X.getD e.on false=true)(hin:i<ops.size)(hXi:X.getD i false=false)(hpre:∀e∈(ops[i]).after.toList,Region.binds .any e=true->X.getD e.on false=true){e:Eff}(he:effs[i]?=some e):
  e.o=ops[i]/\(∀t∈e.rT,Bk (stX effs 0 (λj=>X.getD j false) st).T t=Bk (stX effs 0 (λj=>decide (j<i)) st).T t)/\(∀p∈e.rS,(stX effs 0 (λj=>X.getD j false) st).S[p]?=(stX effs 0 (λj=>decide (j<i)) st).S[p]?)/\
   (∀t,Bk (stX effs 0 (λj=>(X.setIfInBounds i true).getD j false) st).T t=Bk (e.app (stX effs 0 (λj=>X.getD j false) st)).T t)/\(stX effs 0 (λj=>(X.setIfInBounds i true).getD j false) st).S=(e.app (stX effs 0 (λj=>X.getD j false) st)).S:=by
 have hiX:i<X.size:=by omega
 have heo:e.o=ops[i]:=by
  have h1:(effs.map (·.o))[i]?=some e.o:=by simp[he]
  obtain⟨r,hr⟩:=heff;have h2:ops.toList[i]?=some e.o:=by rw[<-hr,Bw (AE.1 h1).1];exact h1
  simpa[hin]using h2.symm
 have hmask:=Iv (λj=>X.getD j false) ops.toList [] (λj o hj hXj e he hb=>hdc j o hj (by simpa using hXj) e he hb) (λj m h=>by simp at h)
 have hcomp:∀a b ea eb,a<b->effs[a]?=some ea->effs[b]?=some eb->clash ea eb=true->∃m:Nat,(Du ops.toList [])[b]?=some m/\m.testBit a=true:=by
  intro a b ea eb hab hea heb hcl;have h1:=Cr.1 (hc) b (DL.2 (AE.1 heb).1);have h2:=Cr.1 h1 a (DL.2 hab);simp only[hea,heb]at h2;cases hm:(Du ops.toList [])[b]? with
  |none=>rw[hm]at h2;cases h2
  |some m=>rw[hm]at h2;exact⟨m,rfl,by simpa[hcl]using h2⟩
 have hbefore:∀j ej,j<i->effs[j]?=some ej->clash ej e=true->X.getD j false=true:=by
  intro j ej hj hej hcl;obtain⟨m,hm1,hm2⟩:=hcomp j i ej e hj hej he hcl
  have hcl2:=Iv (λk=>X.getD k false||decide (k=i)) ops.toList [] (λk o hk hXk ee hee hb=>by
   simp only[D5,Ao,CE,Dt]at hXk⊢;rcases hXk with h|h
   ·exact .inl (hdc k o hk h ee hee hb)
   ·subst h
    have:o=ops[k]:=by simpa[hin]using hk.symm
    subst this;exact .inl (hpre ee hee hb)) (λj m h=>by simp at h) i m hm1 (by simp) j hm2
  simp only[CE,Dt]at hcl2;rcases hcl2 with h|h
  ·exact h
  ·omega
 have hafter:∀j ej,i<j->effs[j]?=some ej->clash e ej=true->X.getD j false=false:=by
  intro j ej hj hej hcl;obtain⟨m,hm1,hm2⟩:=hcomp i j e ej hj he hej hcl;cases hx:X.getD j false with
  |false=>rfl
  |true=>
   have:=hmask j m hm1 hx i hm2;rw[hXi]at this;cases this
 have hrT:∀t∈e.rT,Bk (stX effs 0 (λj=>X.getD j false) st).T t=Bk (stX effs 0 (λj=>decide (j<i)) st).T t:=by
  intro t ht;refine LO (λj ej hej hd=>?_) rfl;rw[Ao];rcases FN j i with h|h|h
  ·rw[hbefore j ej h hej ?_]
   ·simp[h]
   ·cases hcl:clash ej e with
    |true=>rfl
    |false=>exact absurd ht ((Hq hcl).1 t hd)
  ·subst h
   rw[hXi];simp
  ·rw[hafter j ej h hej ?_]
   ·simp;omega
   ·cases hcl:clash e ej with
    |true=>rfl
    |false=>exact absurd ht ((Hq hcl).2.1 t hd)
 have hrS:∀p∈e.rS,(stX effs 0 (λj=>X.getD j false) st).S[p]?=(stX effs 0 (λj=>decide (j<i)) st).S[p]?:=by
  intro p hp;refine NI (λj ej hej hd=>?_) rfl rfl;rw[Ao];obtain⟨q,hq,rfl⟩:=hd;rcases FN j i with h|h|h
  ·rw[hbefore j ej h hej ?_]
   ·simp[h]
   ·cases hcl:clash ej e with
    |true=>rfl
    |false=>exact absurd hp ((Hq hcl).2.2.2.1 q hq)
  ·subst h
   rw[hXi];simp
  ·rw[hafter j ej h hej ?_]
   ·simp;omega
   ·cases hcl:clash e ej with
    |true=>rfl
    |false=>exact absurd hp ((Hq hcl).2.2.2.2.1 q hq)
 have hX':∀k,(X.setIfInBounds i true).getD k false=(X.getD k false||decide (k=i)):=by
  intro k;simp only[CK,ef];by_cases hk:i=k
  ·subst hk;simp[hiX]
  ·simp[hk,Ne.symm hk]
 have hT:∀t,Bk (stX effs 0 (λj=>(X.setIfInBounds i true).getD j false) st).T t=Bk (e.app (stX effs 0 (λj=>X.getD j false) st)).T t:=by
  intro t;by_cases hd:e.o.dst=some t
  ·rw[cM (i:=i) (e:=e) (t:=t) he (by rw[Ao,hX'];simp) hd ?_]
   ·simp[Eff.app,hd,BB,CF]
   ·intro j ej hj hej hXj hdj
    rw[Ao,hX']at hXj
    have hXj':X.getD j false=true:=by
     simp only[CE,Dt]at hXj;rcases hXj with h|h
     ·exact h
     ·omega
    have:=hafter j ej hj hej (by
     cases hcl:clash e ej with
     |true=>rfl
     |false=>exact absurd hdj ((Hq hcl).2.2.1 t hd))
    rw[hXj']at this;cases this
  ·have ap:Bk (e.app (stX effs 0 (λj=>X.getD j false) st)).T t=Bk (stX effs 0 (λj=>X.getD j false) st).T t:=by
    simp only[Eff.app];cases hdd:e.o.dst with
    |none=>rfl
    |some d=>rw[BB,CF,AI];exact λh=>hd (by rw[hdd,h])
   rw[ap];refine LO (λj ej hej hdj=>?_) rfl;rw[Ao,hX']
   have:j≠i:=by
    rintro rfl;rw[he]at hej;injection hej with hej
    subst hej;exact hd hdj
   simp[this]
 have hS:(stX effs 0 (λj=>(X.setIfInBounds i true).getD j false) st).S=(e.app (stX effs 0 (λj=>X.getD j false) st)).S:=by
  refine GL λp=>?_
  by_cases hd:∃q∈e.wS,q.1=p
  ·rw[Zm (i:=i) (e:=e) (p:=p) he (by rw[Ao,hX'];simp) hd ?_ (stX effs 0 (λj=>X.getD j false) st).S (YK ..)]
   ·rfl
   ·intro j ej hj hej hXj hdj
    rw[Ao,hX']at hXj
    have hXj':X.getD j false=true:=by
     simp only[CE,Dt]at hXj;rcases hXj with h|h
     ·exact h
     ·omega
    obtain⟨q,hq,hqp⟩:=hd;obtain⟨q',hq',hqp'⟩:=hdj
    have:=hafter j ej hj hej (by
     cases hcl:clash e ej with
     |true=>rfl
     |false=>exact absurd (hqp.trans hqp'.symm) ((Hq hcl).2.2.2.2.2 q hq q' hq'))
    rw[hXj']at this;cases this
  ·have ap:(e.app (stX effs 0 (λj=>X.getD j false) st)).S[p]?=(stX effs 0 (λj=>X.getD j false) st).S[p]?:=Lv (λq hq h=>hd ⟨q,hq,h⟩) _
   rw[ap];refine NI (λj ej hej hdj=>?_) rfl rfl;rw[Ao,hX']
   have:j≠i:=by
    rintro rfl;rw[he]at hej;injection hej with hej
    subst hej;exact hd hdj
   simp[this]
 exact⟨heo,hrT,hrS,hT,hS⟩
theorem bS(hdn:down ops.toList 0=true){X:Array Bool}(hX:X.size=ops.size)(hnil:Region.ready .any ops X=[]):∀j,j<ops.size->X.getD j false=true:=by
 intro j
 induction j using Nat.strongRecOn with
 |_ j ih=>
  intro hj;cases hx:X.getD j false with
  |true=>rfl
  |false=>
   exfalso
   have:j∈Region.ready .any ops X:=by
    refine Eu.2 ⟨DL.2 hj,?_⟩;have ho:ops[j]?=some ops[j]:=by simp[hj]
    have hx':X.getD j true=false:=by
     have hjX:j<X.size:=by omega
     simp only[CK,IE hjX,EY]at hx⊢;exact hx
    simp only[hx',ho,BD,EY,FJ,JW];rw[Array.all_eq_true'];intro e he;cases hb:Region.binds .any e with
    |false=>simp
    |true=>
     have hlt:=bC _ 0 hdn j ops[j] (by simp[hj]) e (by simpa using he) hb;have:=ih e.on (by omega) (by omega);simpa using this
   rw[hnil]at this;cases this
abbrev Cld(ops:Array Oper)(X:Array Bool):Prop:=∀j o,ops.toList[j]?=some o->X.getD j false=true->∀e∈o.after.toList,Region.binds .any e=true->X.getD e.on false=true
theorem NK{X:Array Bool}{i:Nat}(hi:i<X.size)(k:Nat):(X.setIfInBounds i true).getD k false=(X.getD k false||decide (k=i)):=by
 simp only[CK,ef];by_cases hk:i=k
 ·subst hk;simp[hi]
 ·simp[hk,Ne.symm hk]
theorem Pn{I:Array Bool->Act->World->Prop}{Q':Exit->Act->World->Prop}(hdn:down ops.toList 0=true)(done:∀X a w,(∀j,j<ops.size->X.getD j false=true)->I X a w->Q' .normal a w)
  (step:∀(X:Array Bool) (i:Nat) (hin:i<ops.size) a w,X.size=ops.size->Cld ops X->X.getD i false=false->(∀e∈(ops[i]).after.toList,Region.binds .any e=true->X.getD e.on false=true)->I X a w->wpOpIn (FW ro) 0 P ops Q' i (I (X.setIfInBounds i true)) a w):
  ∀(fuel:Nat) (X:Array Bool) (a:Act) (w:World),X.size=ops.size->Cld ops X->((List.range ops.size).filter λj=>!X.getD j false).length<=fuel->I X a w->wpAnyIn (FW ro) 0 P .any ops Q' fuel X a w:=by
 intro fuel
 induction fuel with
 |zero=>
  intro X a w hX hdc hf hr
  have hall:∀j,j<ops.size->X.getD j false=true:=by
   intro j hj;have hnil:=CP (Nat.le_zero.1 hf);cases hx:X.getD j false with
   |true=>rfl
   |false=>
    have:j∈(List.range ops.size).filter λj=>!X.getD j false:=Eu.2 ⟨DL.2 hj,by simp only[hx,FJ]⟩
    rw[hnil]at this;cases this
  refine⟨J1.2 λj hj=>?_,done X a w hall hr⟩;have hj':=DL.1 hj;have:=hall j hj';have hjX:j<X.size:=by omega
  simp only[CK,IE hjX,EY]at this⊢;simp[this]
 |succ fuel ih=>
  intro X a w hX hdc hf hr;refine⟨λhnil=>done X a w (bS hdn hX hnil) hr,λi hi=>?_⟩;obtain⟨hi1,hi2⟩:=Eu.1 hi;have hin:=DL.1 hi1;have ho:ops[i]?=some ops[i]:=by simp[hin]
  have hiX:i<X.size:=by omega
  simp only[ho,BD,EY,AH]at hi2
  have hXi:X.getD i false=false:=by
   have h:=hi2.1;simp only[CK,IE hiX,EY]at h⊢;simpa using h
  have hpre:∀e∈(ops[i]).after.toList,Region.binds .any e=true->X.getD e.on false=true:=by
   intro e he hb;have:=Array.all_eq_true'.1 hi2.2 e (by simpa using he);simpa[hb]using this
  refine wpOpIn_mono (λa w h=>ih _ a w (by simp[hX]) ?_ ?_ h) (step X i hin a w hX hdc hXi hpre hr)
  ·intro j o hj hXj ee hee hb
   rw[NK hiX]at hXj⊢;simp only[CE,Dt]at hXj⊢;rcases hXj with h|h
   ·exact .inl (hdc j o hj h ee hee hb)
   ·subst h
    have:o=ops[j]:=by simpa[hin]using hj.symm
    subst this;exact .inl (hpre ee hee hb)
  ·have e1:(List.range ops.size).filter (λj=>!(X.setIfInBounds i true).getD j false)=((List.range ops.size).filter λj=>!X.getD j false).filter λj=>!decide (j=i):=by
    rw[List.filter_filter]
    congr 1
    funext j
    rw[NK hiX];cases X.getD j false<;>simp
   have hmem:i∈(List.range ops.size).filter λj=>!X.getD j false:=Eu.2 ⟨DL.2 hin,by simp only[hXi,FJ]⟩
   have:=(List.length_filter_lt_length_iff_exists (l:=(List.range ops.size).filter λj=>!X.getD j false) (p:=λj=>!decide (j=i))).2 ⟨i,hmem,by simp⟩;rw[e1];omega
theorem OT{id:Nat}{l:List Oper}{st:St}{Q:Exit->St->Prop}(I:Mem->Array Bool->Act->World->Prop)(hm:P.follows .mixedOrders=true)(hdn:down l 0=true)(h0:∀m0 X a w,(∀j,X.getD j false=false)->Rel nt m0 st a w->I m0 X a w)
  (done:∀m0 X a w,(∀j,j<l.length->X.getD j false=true)->I m0 X a w->∃st',Rel nt m0 st' a w/\Q .normal st')
  (step:∀m0 (X:Array Bool) (i:Nat) (hin:i<l.toArray.size) a w,X.size=l.toArray.size->Cld l.toArray X->X.getD i false=false->(∀e∈(l.toArray[i]).after.toList,Region.binds .any e=true->X.getD e.on false=true)->I m0 X a w->wpOpIn (FW ro) 0 P l.toArray (λe a' w'=>∃st',Rel nt m0 st' a' w' /\Q e st') i (I m0 (X.setIfInBounds i true)) a w):AWP ro P nt (.region id l.toArray true) Q st:=by
 intro m0 a w hrel;refine wpIn_region_any hm (Pn (I:=I m0) (by simpa using hdn) (λX a w hall h=>done m0 X a w (by simpa using hall) h) (step m0) _ _ a _ (by simp) ?_ ?_ (h0 m0 _ a _ (λj=>?_) (hrel.draw _)))
 ·intro j o hj hX
  have:j<l.length:=(AE.1 hj).1;simp[this]at hX
 ·exact Bh (RY _ _) (by simp)
 ·simp only[CK,Ny]
  split<;>rfl
theorem LP{effs:List Eff}{st:St}{X:Array Bool}(h:∀j,j<effs.length->X.getD j false=true):(∀t,Bk (stX effs 0 (λj=>X.getD j false) st).T t=Bk (stX effs 0 (λ_=>true) st).T t)/\(stX effs 0 (λj=>X.getD j false) st).S=(stX effs 0 (λ_=>true) st).S:=
 ⟨λt=>LO (λj e he _=>by rw[Ao];exact h j (AE.1 he).1) rfl,GL λp=>NI (λj e he _=>by rw[Ao];exact h j (AE.1 he).1) rfl rfl⟩
theorem Rel.like{m0:Mem}{s1 s2:St}{a:Act}{w:World}(h:Rel nt m0 s1 a w)(k:(∀t,Bk s2.T t=Bk s1.T t)/\s2.S=s1.S):Rel nt m0 s2 a w:=by
 obtain⟨T2,S2⟩:=s2;obtain⟨k1,rfl⟩:=k;exact HB h λd v hv=>(k1 d).symm.trans hv
theorem N3{effs:List Eff}{st:St}{X:Array Bool}(h:∀j,X.getD j false=false):stX effs 0 (λj=>X.getD j false) st=st:=by
 rw[show(λj=>X.getD j false)=λ_=>false from funext h,J9]
theorem bQ{m0:Mem}{st:St}{effs:List Eff}{Q':Exit->Act->World->Prop}(heff:effs.map (·.o)=ops.toList)(hloc:∀i e,effs[i]?=some e->TI P nt ops e (stX effs 0 (λj=>decide (j<i)) st))
  (hc:FT effs (Du ops.toList [])=true) (hdn:down ops.toList 0=true) (hQ:∀a w,Rel nt m0 (stX effs 0 (λ_=>true) st) a w->Q' .normal a w):
  ∀(fuel:Nat) (X:Array Bool) (a:Act) (w:World),X.size=ops.size->(∀j o,ops.toList[j]?=some o->X.getD j false=true->∀e∈o.after.toList,Region.binds .any e=true->X.getD e.on false=true)->
   ((List.range ops.size).filter λj=>!X.getD j false).length<=fuel->Rel nt m0 (stX effs 0 (λj=>X.getD j false) st) a w->wpAnyIn (FW ro) 0 P .any ops Q' fuel X a w:=by
 have hlen:effs.length=ops.size:=by have:=Dh List.length heff;simpa using this
 refine Pn (I:=λX a w=>Rel nt m0 (stX effs 0 (λj=>X.getD j false) st) a w) hdn (λX a w hall h=>hQ a w ?_) λX i hin a w hX hdc hXi hpre hr=>?_
 ·obtain⟨k1,k2⟩:=LP (effs:=effs) (st:=st) (λj hj=>hall j (by omega))
  exact h.like ⟨λt=>(k1 t).symm,k2.symm⟩
 ·obtain⟨e,he⟩:∃e,effs[i]?=some e:=⟨_,Dn (show i<effs.length by omega)⟩
  obtain⟨heo,hrT,hrS,hT,hS⟩:=LN (heff▸List.prefix_rfl) hc hX hdc hin hXi hpre he;have hl:=hloc i e he m0 _ _ a w hrT hrS hr;have ho:ops[i]?=some ops[i]:=by simp[hin]
  unfold wpOpIn;simp only[ho];rw[heo]at hl;by_cases hw:Region.wanted ops[i] (yielded ops a.tmps)=true
  ·rw[Ab hw]at hl⊢
   exact Kc hl λa w h=>h.like ⟨hT,hS⟩
  ·rw[AI hw]at hl⊢
   exact⟨λ_ _=>CZ,hl.like ⟨hT,hS⟩⟩
theorem AWP.region_any{Q:Exit->St->Prop}{id:Nat}{l:List Oper}{st st':St}{effs:List Eff}(hm:P.follows .mixedOrders=true)(hr:Run P nt l.toArray l st effs st')(hc:FT effs (Du l [])=true)(hdn:down l 0=true)(hQ:Q .normal st'):AWP ro P nt (.region id l.toArray true) Q st:=by
 intro m0 a w hrel;obtain⟨h1,h2,h3⟩:=hr.spec;refine wpIn_region_any hm (bQ (m0:=m0) (st:=st) (effs:=effs) (by simpa using h2) h3 (by simpa using hc) (by simpa using hdn) (λa w h=>⟨st',by rw[h1];exact h,hQ⟩) _ _ a _ (by simp) ?_ ?_ ?_)
 ·intro j o hj hX
  have:j<l.length:=(AE.1 hj).1;simp[this]at hX
 ·exact Bh (RY _ _) (by simp)
 ·have:(λj=>(Array.replicate l.toArray.size false).getD j false)=λ_=>false:=by
   funext j
   simp only[CK,Ny];split<;>rfl
  rw[this,J9];exact hrel.draw _
theorem LA{Q:Exit->St->Prop}{id:Nat}{l:List Oper}{st:St}(h:AOps ro P nt l.toArray Q l st):AWP ro P nt (.region id l.toArray false) Q st:=
 λm0 a w hr=>wpIn_region_lit (h m0 a w hr)
end
end
section
open Go.RowKit
def TU(P:Program)(t:TypeId):Option Bool:=(P.underlying t).map λd=>match d with|.struct _|.array _ _=>true|_=>false
def tSz(P:Program)(t:TypeId):Option Nat:=(P.info? t).map (·.size)
section
variable {P:Program}{o:Oper}{xs:List (Operand×AV)}{rS:List (Nat×AR)}{v:AV}
theorem OpT.pure_(h:∀(m:Mem) (a:Act),(∀q∈xs,VV m q.2 (a.eval q.1) [])->(∀q∈rS,∃bs,ORel m q.2.1 q.2.2 bs)->∃u,(execOp a.eval o).run P m.w= .ok (.value u) m.w/\VV m v u []):OpT P o xs rS v []:=by
 intro nt m0 T S a w hx hS hd hr;obtain⟨m,N,Z,rfl,h2,h3,h4⟩:=hr
 obtain⟨u,h5,h6⟩:=h m a (λq hq=>h4.ev (hx q hq)) λq hq=>by
  have:=hS q hq;rw[<-show Z.map (·.1)=S from h2,DX]at this;cases hz:Z[q.1]? with
  |none=>rw[hz]at this;cases this
  |some z=>
   rw[hz]at this;simp only[BD,Ak]at this;exact⟨z.2,this▸h3.obj z (TJ hz)⟩
 unfold Oper.wp;rw[h5];exact⟨m,N,Z,rfl,h2,h3,h4.put hd h6⟩
theorem VV.prim{m:Mem}{u v:Value}{bs:List Nat}(h:VV m (.prim u) v bs):v=u:=by obtain⟨⟨h,_⟩,_⟩:=h;injection h
theorem VV.prim1{m:Mem}{u v:Value}{bs:List Nat}(h:VV m (.prim u) v bs):u.oneCell'=true:=h.1.2
theorem Cj{m:Mem}(u:Value)(h:u.oneCell'=true:=by rfl):VV m (.prim u) u []:=⟨⟨rfl,h⟩,rfl⟩
variable {x y z:Operand}{t ty:TypeId}{pos:String}{after:Array Edge}{g:Option (Nat×Bool)}{dst:Option Tmp}{u u1 u2:Value}
theorem OpT.move:OpT P ⟨dst,.move x,ty,pos,after,g⟩ [(x,v)] [] v []:=
 .pure_ λm a hx _=>⟨a.eval x,rfl,hx (x,v) (by simp)⟩
theorem OpT.assign:OpT P ⟨dst,.assign x,ty,pos,after,g⟩ [(x,v)] [] v []:=
 .pure_ λm a hx _=>⟨a.eval x,rfl,hx (x,v) (by simp)⟩
def kS(b:Bool)(x y:AV):AV:=match b with
 |true=>x
 |false=>y
theorem OpT.pick{b:Bool}{va vb:AV}:OpT P ⟨dst,.pick x y z,ty,pos,after,g⟩ [(x,.prim (.bool b)),(y,va),(z,vb)] [] (kS b va vb) []:=
 .pure_ λm a hx _=>by
  have h1:=(hx _ (BG ..)).prim;refine⟨if b then a.eval y else a.eval z,?_,?_⟩
  ·simp only at h1
   simp[execOp,h1,asBool,AG,AF,AA]
  ·cases b
   ·exact hx (z,vb) (by simp)
   ·exact hx (y,va) (by simp)
theorem OpT.pick_prim{b:Bool}:OpT P ⟨dst,.pick x y z,ty,pos,after,g⟩ [(x,.prim (.bool b)),(y,.prim u1),(z,.prim u2)] [] (.prim (if b then u1 else u2)) []:=
 .pure_ λm a hx _=>by
  have h1:=(hx _ (BG ..)).prim;have h2:=(hx (y,.prim u1) (by simp)).prim;have h3:=(hx (z,.prim u2) (by simp)).prim;have h4:=(hx (y,.prim u1) (by simp)).prim1;have h5:=(hx (z,.prim u2) (by simp)).prim1;refine⟨if b then u1 else u2,?_,Cj _ (by cases b<;>simp[h4,h5])⟩;simp only at h1 h2 h3;simp[execOp,h1,h2,h3,asBool,AG,AF,AA]
theorem PQ{α:Type}[BEq α][LawfulBEq α][DecidableEq α](a b:α):(a==b)=decide (a=b):=by
 by_cases h:a=b<;>simp[h]
variable {k:IntKind}{i j:Int}{bop:BinOp}{ty2:TypeId}
theorem D3(ho:u.oneCell'=true)(h:∀w,(binOp bop t u1 u2).run P w= .ok u w)(hg:bop≠ .eql/\bop≠ .neq\/(∀c,u1≠ .agg c)/\u1≠ .nilIface):OpT P ⟨dst,.binOp bop t x y ty2,ty,pos,after,g⟩ [(x,.prim u1),(y,.prim u2)] [] (.prim u) []:=
 .pure_ λm a hx _=>by
  have h1:=(hx (x,.prim u1) (by simp)).prim;have h2:=(hx (y,.prim u2) (by simp)).prim;refine⟨u,?_,Cj _ ho⟩;simp only at h1 h2
  have hq:∀w,(eqGuard bop t x y u1 u2).run P w= .ok () w:=by
   intro w;unfold eqGuard;rcases hg with⟨h3,h4⟩|⟨h3,h4⟩
   ·cases bop<;>first|rfl|exact absurd rfl h3|exact absurd rfl h4
   ·cases u1<;>first|exact absurd rfl (h3 _)|exact absurd rfl h4|(cases bop<;>first|rfl|(cases u2<;>rfl))
  simp[execOp,h1,h2,AG,AF,AA,hq,h]
theorem Jo:OpT P ⟨dst,.binOp .add t x y ty2,ty,pos,after,g⟩ [(x,.prim (.int k i)),(y,.prim (.int k j))] [] (.prim (.int k (k.wrap (i+j)))) []:=
 D3 rfl (λw=>by simp[binOp,Op.intArith,AF]) (.inl ⟨by simp,by simp⟩)
theorem Jm:OpT P ⟨dst,.binOp .sub t x y ty2,ty,pos,after,g⟩ [(x,.prim (.int k i)),(y,.prim (.int k j))] [] (.prim (.int k (k.wrap (i-j)))) []:=
 D3 rfl (λw=>by simp[binOp,Op.intArith,AF]) (.inl ⟨by simp,by simp⟩)
theorem Jn:OpT P ⟨dst,.binOp .mul t x y ty2,ty,pos,after,g⟩ [(x,.prim (.int k i)),(y,.prim (.int k j))] [] (.prim (.int k (k.wrap (i*j)))) []:=
 D3 rfl (λw=>by simp[binOp,Op.intArith,AF]) (.inl ⟨by simp,by simp⟩)
theorem GN(h1: -9223372036854775808<=i)(h2:i<=9223372036854775807):IntKind.i64.wrap i=i:=by
 have:IntKind.i64.wrap i=if(9223372036854775808:Int)<=i%18446744073709551616 then i%18446744073709551616-18446744073709551616 else i%18446744073709551616:=by
  simp[IntKind.wrap,IntKind.signed,IntKind.bits]
 rw[this];split<;>omega
theorem OpT.add(h1: -9223372036854775808<=i+j)(h2:i+j<=9223372036854775807):OpT P ⟨dst,.binOp .add t x y ty2,ty,pos,after,g⟩ [(x,.prim (.int .i64 i)),(y,.prim (.int .i64 j))] [] (.prim (.int .i64 (i+j))) []:=by
 have:=Jo (P:=P) (k:=.i64) (i:=i) (j:=j) (x:=x) (y:=y) (t:=t) (ty:=ty) (ty2:=ty2) (pos:=pos) (after:=after) (g:=g) (dst:=dst);rwa[GN h1 h2]at this
theorem OpT.sub(h1: -9223372036854775808<=i-j)(h2:i-j<=9223372036854775807):OpT P ⟨dst,.binOp .sub t x y ty2,ty,pos,after,g⟩ [(x,.prim (.int .i64 i)),(y,.prim (.int .i64 j))] [] (.prim (.int .i64 (i-j))) []:=by
 have:=Jm (P:=P) (k:=.i64) (i:=i) (j:=j) (x:=x) (y:=y) (t:=t) (ty:=ty) (ty2:=ty2) (pos:=pos) (after:=after) (g:=g) (dst:=dst);rwa[GN h1 h2]at this
theorem OpT.mul(h1: -9223372036854775808<=i*j)(h2:i*j<=9223372036854775807):OpT P ⟨dst,.binOp .mul t x y ty2,ty,pos,after,g⟩ [(x,.prim (.int .i64 i)),(y,.prim (.int .i64 j))] [] (.prim (.int .i64 (i*j))) []:=by
 have:=Jn (P:=P) (k:=.i64) (i:=i) (j:=j) (x:=x) (y:=y) (t:=t) (ty:=ty) (ty2:=ty2) (pos:=pos) (after:=after) (g:=g) (dst:=dst);rwa[GN h1 h2]at this
theorem OpT.rem(h:j≠0):OpT P ⟨dst,.binOp .rem t x y ty2,ty,pos,after,g⟩ [(x,.prim (.int k i)),(y,.prim (.int k j))] [] (.prim (.int k (i.tmod j))) []:=
 D3 rfl (λw=>by simp[binOp,Op.intDiv,h,AF]) (.inl ⟨by simp,by simp⟩)
theorem OpT.quo(h:j≠0):OpT P ⟨dst,.binOp .quo t x y ty2,ty,pos,after,g⟩ [(x,.prim (.int k i)),(y,.prim (.int k j))] [] (.prim (.int k (k.wrap (i.tdiv j)))) []:=
 D3 rfl (λw=>by simp[binOp,Op.intDiv,h,AF]) (.inl ⟨by simp,by simp⟩)
theorem OpT.lss:OpT P ⟨dst,.binOp .lss t x y ty2,ty,pos,after,g⟩ [(x,.prim (.int k i)),(y,.prim (.int k j))] [] (.prim (.bool (decide (i<j)))) []:=
 D3 rfl (λw=>by simp[binOp,Op.intCmp,AF]) (.inl ⟨by simp,by simp⟩)
theorem OpT.leq:OpT P ⟨dst,.binOp .leq t x y ty2,ty,pos,after,g⟩ [(x,.prim (.int k i)),(y,.prim (.int k j))] [] (.prim (.bool (decide (i<=j)))) []:=
 D3 rfl (λw=>by simp[binOp,Op.intCmp,AF]) (.inl ⟨by simp,by simp⟩)
theorem OpT.gtr:OpT P ⟨dst,.binOp .gtr t x y ty2,ty,pos,after,g⟩ [(x,.prim (.int k i)),(y,.prim (.int k j))] [] (.prim (.bool (decide (j<i)))) []:=
 D3 rfl (λw=>by simp[binOp,Op.intCmp,AF]) (.inl ⟨by simp,by simp⟩)
theorem OpT.geq:OpT P ⟨dst,.binOp .geq t x y ty2,ty,pos,after,g⟩ [(x,.prim (.int k i)),(y,.prim (.int k j))] [] (.prim (.bool (decide (j<=i)))) []:=
 D3 rfl (λw=>by simp[binOp,Op.intCmp,AF]) (.inl ⟨by simp,by simp⟩)
theorem OpT.eql_int:OpT P ⟨dst,.binOp .eql t x y ty2,ty,pos,after,g⟩ [(x,.prim (.int k i)),(y,.prim (.int k j))] [] (.prim (.bool (decide (i=j)))) []:=
 D3 rfl (λw=>by simp[binOp,Op.intCmp,AF,PQ]) (.inr ⟨by simp,by simp⟩)
theorem OpT.neq_int:OpT P ⟨dst,.binOp .neq t x y ty2,ty,pos,after,g⟩ [(x,.prim (.int k i)),(y,.prim (.int k j))] [] (.prim (.bool (decide (i≠j)))) []:=
 D3 rfl (λw=>by simp[binOp,Op.intCmp,AF,bne,PQ]) (.inr ⟨by simp,by simp⟩)
theorem Lr(l:List UInt8):(⟨l.toArray⟩:ByteArray).toList=l:=by
 rw[ByteArray.toList_eq]
def Fx(l:List UInt8):Value:=.string ⟨l.toArray⟩
theorem OpT.eql_str{a b:List UInt8}:OpT P ⟨dst,.binOp .eql t x y ty2,ty,pos,after,g⟩ [(x,.prim (Fx a)),(y,.prim (Fx b))] [] (.prim (.bool (decide (a=b)))) []:=
 D3 rfl (λw=>by simp[binOp,Op.stringOp,AF,Fx,Lr,PQ]) (.inr ⟨by simp[Fx],by simp[Fx]⟩)
theorem OpT.neq_str{a b:List UInt8}:OpT P ⟨dst,.binOp .neq t x y ty2,ty,pos,after,g⟩ [(x,.prim (Fx a)),(y,.prim (Fx b))] [] (.prim (.bool (decide (a≠b)))) []:=
 D3 rfl (λw=>by simp[binOp,Op.stringOp,AF,Fx,Lr,bne,PQ]) (.inr ⟨by simp[Fx],by simp[Fx]⟩)
theorem OpT.not{b:Bool}:OpT P ⟨dst,.unOp .not t x,ty,pos,after,g⟩ [(x,.prim (.bool b))] [] (.prim (.bool !b)) []:=
 .pure_ λm a hx _=>by
  have h1:=(hx _ (BG ..)).prim;simp only at h1;exact⟨_,by simp[execOp,h1,Op.unary,AG,AF,AA],Cj _⟩
theorem OpT.neg:OpT P ⟨dst,.unOp .neg t x,ty,pos,after,g⟩ [(x,.prim (.int k i))] [] (.prim (.int k (k.wrap (-i)))) []:=
 .pure_ λm a hx _=>by
  have h1:=(hx _ (BG ..)).prim;simp only at h1;exact⟨_,by simp[execOp,h1,Op.unary,Op.intArith,AG,AF,AA],Cj _⟩
theorem OpT.extract{l:List AV}{n:Nat}(h:l[n]?=some v):OpT P ⟨dst,.extract x n,ty,pos,after,g⟩ [(x,.tup l)] [] v []:=
 .pure_ λm a hx _=>by
  have hv:∀(l:List AV) (vs:List Value) (n:Nat) v,VTs m l vs []->l[n]?=some v->∃u,vs[n]?=some u/\VV m v u []:=by
   intro l
   induction l with
   |nil=>intro vs n v _ h;simp at h
   |cons b l ih=>
    intro vs n v hv h;obtain⟨u,vs',b1,b2,rfl,e,h1,h2⟩:=(Dg hv.ntup).1 hv;obtain⟨rfl,rfl⟩:b1=[]/\b2=[]:=by simpa using e.symm
    cases n with
    |zero=>simp at h;subst h;exact⟨u,rfl,h1⟩
    |succ n=>exact ih vs' n v h2 (by simpa using h)
  obtain⟨vs,e,hvs⟩:=hx _ (BG ..);simp only at e;obtain⟨u,h1,h2⟩:=hv l _ n v hvs h;have h1':vs[n]?=some u:=by simpa using h1
  exact⟨u,by simp[execOp,e,Instr.extract,h1',AG,AF,AA],h2⟩
end
end
section
open Go.RowKit
def AV.cells:AV->List AV
 |.agg cs=>cs
 |a=>[a]
def Rr:List AV->Bool
 |[]=>true
 |a::l=>Nat.beq a.width 1&&Rr l
mutual
def AV.noOwn:AV->Bool
 |.agg cs|.tup cs|.fn _ cs=>GC cs
 |.lst o _ _ _=>!o
 |.bx .. =>false
 |.opt _ _=>true
 |_=>true
def GC:List AV->Bool
 |[]=>true
 |a::l=>a.noOwn&&GC l
end
def AV.stor:AV->Bool
 |.dead|.tup _|.opt .. =>false
 |_=>true
def AV.st1:AV->Bool
 |.dead|.agg _|.tup _|.opt .. =>false
 |_=>true
def Dw:List AV->Bool
 |[]=>true
 |a::l=>a.st1&&Dw l
def jz:AV->Option AV
 |.agg _=>none
 |a=>some a
def jH:List AV->Option AV
 |[]=>none
 |a::_=>jz a
def It(cs:List AV)(k n:Nat)(ag:Bool):Option AV:=
 match Rr cs&&Nat.ble (k+n) cs.length&&GC ((cs.drop k).take n)with
 |false=>none
 |true=>match ag with
  |true=>some (.agg ((cs.drop k).take n))
  |false=>match Nat.beq n 1 with
   |true=>jH (cs.drop k)
   |false=>none
theorem L4{cs:List AV}(h:Rr cs=true):∀e∈cs,e.width=1:=by
 induction cs with
 |nil=>intro e he;cases he
 |cons a l ih=>
  simp only[Rr,AH]at h;intro e he;rcases AP.1 he with rfl|he
  ·exact DN h.1
  ·exact ih h.2 e he
mutual
theorem VC.noOwn{m:Mem}:(a:AV)->{c:List Value}->{bs:List Nat}->a.noOwn=true->VC m a c bs->bs=[]
 |.prim _,_,_,_,k=>k.2
 |.dead,_,_,_,k=>k.2
 |.agg cs,_,_,h,k=>VCs.noOwn cs h k
 |.tup cs,_,_,h,k=>k.elim
 |.opt _ _,_,_,h,k=>k.elim
 |.lst false ..,_,_,_,k=>k.1
 |.lst true ..,_,_,h,_=>by simp[AV.noOwn]at h
 |.bx ..,_,_,h,_=>by simp[AV.noOwn]at h
 |.sl ..,_,_,_,k=>k.1
 |.ptr ..,_,_,_,k=>k.1
 |.fp _,_,_,_,k=>k.1
 |.fn f cap,_,_,h,⟨_,_,k⟩=>VCs.noOwn cap h k
 |.mp _,_,_,_,k=>k.1
theorem VCs.noOwn{m:Mem}:(as:List AV)->{c:List Value}->{bs:List Nat}->GC as=true->VCs m as c bs->bs=[]
 |[],_,_,_,k=>k.2
 |a::as,_,_,h,⟨c1,c2,b1,b2,e1,e2,k1,k2⟩=>by
  simp only[GC,AH]at h;rw[e2,VC.noOwn a h.1 k1,VCs.noOwn as h.2 k2];rfl
theorem VTs.noOwn{m:Mem}:(as:List AV)->{c:List Value}->{bs:List Nat}->GC as=true->VTs m as c bs->bs=[]
 |[],_,_,_,k=>k.2
 |.agg cs::as,_,_,h,⟨c1,c2,b1,b2,e1,e2,k1,k2⟩=>by
  simp only[GC,AV.noOwn,AH]at h;rw[e2,VCs.noOwn cs h.1 k1,VTs.noOwn as h.2 k2];rfl
 |.prim u::as,_,_,h,⟨v,vs,b1,b2,e1,e2,k1,k2⟩=>by
  simp only[GC,AH]at h;rw[e2,k1.2,VTs.noOwn as h.2 k2];rfl
 |.dead::as,_,_,h,⟨v,vs,b1,b2,e1,e2,k1,k2⟩=>by
  simp only[GC,AH]at h;rw[e2,k1,VTs.noOwn as h.2 k2];rfl
 |.tup cs::as,_,_,h,⟨v,vs,b1,b2,e1,e2,k1,k2⟩=>by
  simp only[GC,AH]at h;exact k1.elim
 |.lst o t s l::as,_,_,h,⟨v,vs,b1,b2,e1,e2,k1,k2⟩=>by
  simp only[GC,AH]at h;rw[e2,VC.noOwn (.lst o t s l) h.1 k1,VTs.noOwn as h.2 k2];rfl
 |.bx t a::as,_,_,h,⟨v,vs,b1,b2,e1,e2,k1,k2⟩=>by simp[GC,AV.noOwn]at h
 |.sl x i j::as,_,_,h,⟨v,vs,b1,b2,e1,e2,k1,k2⟩=>by
  simp only[GC,AH]at h;rw[e2,k1.1,VTs.noOwn as h.2 k2];rfl
 |.ptr x i j::as,_,_,h,⟨v,vs,b1,b2,e1,e2,k1,k2⟩=>by
  simp only[GC,AH]at h;rw[e2,k1.1,VTs.noOwn as h.2 k2];rfl
 |.fp cs::as,_,_,h,⟨v,vs,b1,b2,e1,e2,k1,k2⟩=>by
  simp only[GC,AH]at h;rw[e2,k1.1,VTs.noOwn as h.2 k2];rfl
 |.fn f cap::as,_,_,h,⟨v,vs,b1,b2,e1,e2,k1,k2⟩=>by
  simp only[GC,AH]at h;rw[e2,VC.noOwn (.fn f cap) h.1 k1,VTs.noOwn as h.2 k2];rfl
 |.mp x::as,_,_,h,⟨v,vs,b1,b2,e1,e2,k1,k2⟩=>by
  simp only[GC,AH]at h;rw[e2,k1.1,VTs.noOwn as h.2 k2];rfl
 |.opt c b::as,_,_,h,⟨v,vs,b1,b2,e1,e2,k1,k2⟩=>k1.elim
end
section
variable {P:Program}{m:Mem}
theorem VC.cells{a:AV}{c:List Value}{bs:List Nat}(h:VC m a c bs):VCs m a.cells c bs:=by
 cases a
 case agg cs=>exact h
 all_goals exact VCs.one.2 h
theorem VV.vc{a:AV}{u:Value}{bs:List Nat}(h:VV m a u bs)(hs:a.stor=true):VC m a u.cells.toList bs:=by
 cases a
 case agg cs=>obtain⟨cells,rfl,h⟩:=h;exact h
 case dead=>simp[AV.stor]at hs
 case tup cs=>simp[AV.stor]at hs
 case opt c b=>simp[AV.stor]at hs
 all_goals
  have h:VC m _ [u] bs:=h;have h1:=VC.ones _ h u (by simp);have:u.cells=#[u]:=by cases u<;>first|rfl|simp[Value.oneCell']at h1
  rw[this];exact h
theorem VV.cells{a:AV}{u:Value}{bs:List Nat}(h:VV m a u bs)(hs:a.stor=true):VCs m a.cells u.cells.toList bs/\∀c∈u.cells.toList,c.oneCell'=true:=
 ⟨(h.vc hs).cells,VC.ones _ (h.vc hs)⟩
theorem Jd{cs:List AV}{k n:Nat}{ag:Bool}{v:AV}(h:It cs k n ag=some v){c:List Value}{bs:List Nat}(hc:VCs m cs c bs):
  k+n<=c.length/\∃u,VV m v u []/\((ag=true/\u= .agg ((c.drop k).take n).toArray)\/(ag=false/\n=1/\c[k]?=some u)):=by
 unfold It at h;split at h
 ·cases h
 ·rename_i hb
  simp only[AH]at hb;obtain⟨⟨h1,h2⟩,h3⟩:=hb;have hw:=L4 h1;have hk:k+n<=cs.length:=KZ h2;have hcl:c.length=cs.length:=by rw[VCs.len _ hc,D2 (sz:=1) hw];omega
  obtain⟨p1,p2,rfl,_,hd⟩:=VCs.take (sz:=1) hw hc (k:=k) (by omega);have hw':∀e∈cs.drop k,e.width=1:=λe he=>hw e (BW he)
  obtain⟨q1,q2,rfl,ht,_⟩:=VCs.take (sz:=1) hw' hd (k:=n) (by rw[E5];omega);simp only[Nat.mul_one]at ht hd;have e0:=VCs.noOwn _ h3 ht;subst e0;refine⟨by omega,?_⟩;split at h
  ·injection h with h
   subst h;exact⟨_,⟨_,rfl,ht⟩,.inl ⟨rfl,rfl⟩⟩
  ·split at h
   ·rename_i hn1
    have hn1:=DN hn1;subst hn1;cases hcs:cs.drop k with
    |nil=>rw[hcs]at h;cases h
    |cons a l=>
     rw[hcs]at h ht;rw[show(a::l).take 1=[a]from rfl,VCs.one]at ht;have hl:=VC.len _ ht;rw[hw' a (by rw[hcs];simp)]at hl;obtain⟨u,hu⟩:∃u,(c.drop k).take 1=[u]:=HD.1 hl;rw[hu]at ht
     have hv:a=v/\VV m a u []:=by
      cases a
      case agg cs=>cases h
      case dead=>exact⟨by injection h,rfl⟩
      case tup cs=>exact ht.elim
      case opt c b=>exact ht.elim
      all_goals exact⟨by injection h,ht⟩
     refine⟨u,hv.1▸hv.2,.inr ⟨rfl,rfl,?_⟩⟩;have:=Dh (λl:List Value=>l[0]?) hu;simpa[C5,C6]using this
   ·cases h
theorem Pp(w:World)(ty:TypeId){b off:Nat}{arr:Array Value}{t:TypeId}{r:Nat×Nat}(hb:w.heap[b]?=some (.cells arr t r)){c:List Value}(hc:∀j u,c[j]?=some u->arr[off+j]?=some u){ag:Bool}{n:Nat}(hA:TU P ty=some ag)(hn:tSz P ty=some n){u:Value}
  (hu:(ag=true/\n<=c.length/\u= .agg (c.take n).toArray)\/(ag=false/\c[0]?=some u)):(Instr.loadAt ty (.pointer (some ⟨b,off,none⟩))).run P w= .ok u w:=by
 have hcell:∀j u,c[j]?=some u->w.cell? ⟨b,off+j,none⟩=some u:=λj u hj=>by simp[World.cell?,hb,hc j u hj]
 unfold TU at hA;unfold tSz at hn;cases hd:P.underlying ty with
 |none=>rw[hd]at hA;cases hA
 |some d=>
  rw[hd]at hA;simp only[BD,Ak]at hA;rcases hu with⟨rfl,hle,rfl⟩|⟨rfl,h0⟩
  ·refine run_loadAt_mid w b off ty (c.take n) d (λj u hj=>?_) hd ?_ ?_
   ·rw[C5]at hj
    split at hj
    ·exact hcell j u hj
    ·cases hj
   ·cases d<;>first|rfl|cases hA
   ·rw[hn,DW,B6 hle]
  ·have hagg:(isAgg ty).run P w= .ok false w:=by
    unfold isAgg;rw[AG,BR hd w];cases d<;>first|rfl|cases hA
   have hcl:=hcell 0 u h0;simp only[EI]at hcl;simp[Instr.loadAt,Instr.sureAddr,loadVar,AG,AF,AA,hagg,load,Sem.run,hcl]
variable {o:Oper}{v:AV}{x y z:Operand}{t ty ty2:TypeId}{pos:String}{after:Array Edge}{g:Option (Nat×Bool)}{dst:Option Tmp}
theorem Hj(b o j:Nat):(⟨b,o,none⟩:Addr).add j=⟨b,o+j,none⟩:=by unfold Addr.add;split<;>simp_all
theorem OpT.load_fp{cs:List AV}{ag:Bool}{n:Nat}(hA:TU P t=some ag)(hn:tSz P t=some n)(hp:It cs 0 n ag=some v):OpT P ⟨dst,.load t x,ty,pos,after,g⟩ [(x,.fp cs)] [] v []:=
 .pure_ λm a hx _=>by
  obtain⟨_,b,off,arr,t',r,e,hF,hb,hc⟩:=hx (x,.fp cs) (by simp);injection e with e
  simp only at e;obtain⟨h1,u,h2,h3⟩:=Jd hp hc;refine⟨u,?_,h2⟩
  have:=Pp (P:=P) m.w t hb (c:=(arr.toList.drop off).take (AV.widths cs)) (λj u hj=>by
   rw[C5]at hj;split at hj
   ·simpa[C6]using hj
   ·cases hj) hA hn (u:=u) (by
   rcases h3 with⟨h3,h4⟩|⟨h3,h4,h5⟩
   ·exact .inl ⟨h3,by omega,by simpa using h4⟩
   ·exact .inr ⟨h3,h5⟩)
  simp[execOp,e,AG,this,AF,AA]
theorem ORel.elem{X sz i:Nat}{l:List AV}{bs:List Nat}(h:ORel m X (.row t sz l) bs){e:AV}(hi:l[i]?=some e):∃L arr c p,m.μ X=some L/\L.sz=sz/\L.isNil=false/\i<L.cap/\m.w.heap[L.blk]?=some (.cells arr t (0,0))/\VC m e c p/\c.length=sz/\
  ∀j u,c[j]?=some u->arr[i*sz+j]?=some u:=by
 obtain⟨hu,L,h1,h2,h3⟩:=h;have hil:i<l.length:=(AE.1 hi).1;rcases h3 with⟨_,rfl,_⟩|⟨h3,arr,bs',e1,e2,e3,e4,e5,e6,e7⟩
 ·simp at hi
 ·obtain⟨c1,c2,c3,p1,p2,p3,hc,hp,hl1,hl2,_,hv,_⟩:=e7.get e6 hil
  have he:l[i]=e:=(AE.1 hi).2;rw[he]at hv;refine⟨L,arr,c2,p2,h1,h2,h3,by omega,e2,hv,hl2,λj u hj=>?_⟩;have hjl:j<c2.length:=(AE.1 hj).1
  have h4:(arr.toList.take (l.length*sz))[i*sz+j]?=some u:=by
   rw[hc,AN,BX (by omega),hl1,Nat.add_sub_cancel_left,Bw hjl,hj]
  rw[C5]at h4;split at h4
  ·simpa using h4
  ·cases h4
theorem OpT.load{p X sz i k n:Nat}{l:List AV}{e:AV}{ag:Bool}(hA:TU P t=some ag)(hn:tSz P t=some n)(hi:l[i]?=some e)(hp:It e.cells k n ag=some v):OpT P ⟨dst,.load t x,ty,pos,after,g⟩ [(x,.ptr X i k)] [(p,(X,.row ty2 sz l))] v []:=
 .pure_ λm a hx hS=>by
  obtain⟨bs,hO⟩:=hS (p,(X,.row ty2 sz l)) (by simp);obtain⟨L,arr,c,q,h1,h2,_,_,hb,hv,hcl,hc⟩:=hO.elem hi;obtain⟨_,_,A,e1,h3⟩:=hx (x,.ptr X i k) (by simp);injection e1 with e1
  simp only at e1;rw[h3 L h1,h2]at e1;obtain⟨h4,u,h5,h6⟩:=Jd hp hv.cells;refine⟨u,?_,h5⟩
  have:=Pp (P:=P) m.w t hb (off:=i*sz+k) (c:=c.drop k) (λj u hj=>by
   rw[Ox];exact hc _ _ (by simpa[C6]using hj)) hA hn (u:=u) (by
   rcases h6 with⟨h6,h7⟩|⟨h6,h7,h8⟩
   ·exact .inl ⟨h6,by rw[E5];omega,h7⟩
   ·exact .inr ⟨h6,by simpa[C6]using h8⟩)
  simp[execOp,e1,AG,this,AF,AA]
def Wa(P:Program)(s:TypeId)(f:Nat):Option (Nat×TypeId):=match P.underlying s with
 |some (.struct fs)=>(fs[f]?).map λf=>(f.offset,f.type)
 |_=>none
def Ex(P:Program)(t:TypeId):Option TypeId:=match P.underlying t with
 |some (.slice e)=>some e
 |_=>none
theorem SC{s:TypeId}{f off:Nat}{ft:TypeId}(h:Wa P s f=some (off,ft)):∃fs,P.underlying s=some (.struct fs)/\∃fi:Go.Field,fs[f]?=some fi/\fi.offset=off/\fi.type=ft:=by
 unfold Wa at h;split at h
 ·rename_i fs hs
  cases hf:fs[f]? with
  |none=>rw[hf]at h;cases h
  |some fi=>
   rw[hf]at h;simp only[BD,Ak,El]at h;exact⟨fs,hs,fi,hf,h.1,h.2⟩
 ·cases h
theorem C3{t e:TypeId}(h:Ex P t=some e):P.underlying t=some (.slice e):=by
 unfold Ex at h;split at h
 ·rename_i e' he;injection h with h;subst h;exact he
 ·cases h
theorem Gv{t:TypeId}{n:Nat}(h:tSz P t=some n)(w:World):(sizeOf t).run P w= .ok n w:=by
 unfold tSz at h;cases hi:P.info? t with
 |none=>rw[hi]at h;cases h
 |some i=>
  rw[hi]at h;simp only[BD,Ak]at h;simp[sizeOf,typeInfo,hi,h,AG,AF,AA]
theorem SK{t:TypeId}{b:Bool}(h:TU P t=some b)(w:World):(isAgg t).run P w= .ok b w:=by
 unfold TU at h;cases hd:P.underlying t with
 |none=>rw[hd]at h;cases h
 |some d=>
  rw[hd]at h;simp only[BD,Ak]at h;unfold isAgg;rw[AG,BR hd w];subst h;cases d<;>rfl
theorem OY{s:TypeId}{f off n:Nat}{ft:TypeId}(h:Wa P s f=some (off,ft))(hn:tSz P ft=some (n+1))(b o:Nat)(w:World):(Instr.fieldAt s (.pointer (some ⟨b,o,none⟩)) f).run P w= .ok (.pointer (some ⟨b,o+off,none⟩)) w:=by
 obtain⟨fs,h1,fi,h2,rfl,rfl⟩:=SC h;simp[Instr.fieldAt,BR h1,h2,Instr.sureAddr,fieldPlace,Gv hn,AG,AF,AA,Hj]
theorem OpT.fieldAddr{X i k f off n:Nat}{ft:TypeId}{p sz:Nat}{l:List AV}{t':TypeId}(h:Wa P t f=some (off,ft))(hn:tSz P ft=some (n+1))(hi:i<l.length):OpT P ⟨dst,.fieldAddr t x f,ty,pos,after,g⟩ [(x,.ptr X i k)] [(p,(X,.row t' sz l))] (.ptr X i (k+off)) []:=
 .pure_ λm a hx hS=>by
  obtain⟨bs,hO⟩:=hS (p,(X,.row t' sz l)) (by simp);obtain⟨L,arr,c,q,h1,h2,_⟩:=hO.elem (Dn hi);obtain⟨_,hU,A,e1,h3⟩:=hx (x,.ptr X i k) (by simp);injection e1 with e1
  simp only at e1;rw[h3 L h1]at e1;refine⟨.pointer (some ⟨L.blk,i*L.sz+(k+off),none⟩),?_,rfl,hU,_,rfl,λL' hL'=>?_⟩
  ·simp[execOp,e1,AG,OY h hn,AF,AA,Ox]
  ·rw[h1]at hL';injection hL' with hL';subst hL';rfl
theorem gV{cs:List AV}{c:List Value}{bs:List Nat}(hf:Rr cs=true)(k:Nat)(h:VCs m cs c bs)(hb:bs=[]):VCs m (cs.drop k) (c.drop k) []/\AV.widths (cs.drop k)=(cs.drop k).length/\AV.widths cs=cs.length:=by
 subst hb;have hw:=L4 hf;have e1:AV.widths cs=cs.length:=by rw[D2 (sz:=1) hw];omega
 have e2:AV.widths (cs.drop k)=(cs.drop k).length:=by rw[D2 (sz:=1) λe he=>hw e (BW he)];omega
 refine⟨?_,e2,e1⟩;rcases Ib cs.length k with hk|hk
 ·have hl:=VCs.len _ h
  rw[DF (by omega),DF (by omega)];exact VCs.nil
 ·obtain⟨p1,p2,e,_,hd⟩:=VCs.take (sz:=1) hw h hk
  obtain⟨rfl,rfl⟩:p1=[]/\p2=[]:=by simpa using e.symm
  simpa using hd
theorem OpT.fieldAddr_fp{cs:List AV}{f off n:Nat}{ft:TypeId}(h:Wa P t f=some (off,ft))(hn:tSz P ft=some (n+1))(hf:Rr cs=true):OpT P ⟨dst,.fieldAddr t x f,ty,pos,after,g⟩ [(x,.fp cs)] [] (.fp (cs.drop off)) []:=
 .pure_ λm a hx _=>by
  obtain⟨_,b,o,arr,t',r,e,hF,hb,hc⟩:=hx (x,.fp cs) (by simp);injection e with e
  simp only at e;obtain⟨h1,h2,h3⟩:=gV hf off hc rfl;refine⟨.pointer (some ⟨b,o+off,none⟩),?_,rfl,b,o+off,arr,t',r,rfl,hF,hb,?_⟩
  ·simp[execOp,e,AG,OY h hn,AF,AA]
  ·rw[h3]at h1
   rw[h2]
   have:(arr.toList.drop (o+off)).take (cs.drop off).length=((arr.toList.drop o).take cs.length).drop off:=by
    rw[Gz,Cy,E5]
   rw[this];exact h1
theorem OpT.field{cs:List AV}{f off n:Nat}{ag:Bool}{ft:TypeId}(h:Wa P t f=some (off,ft))(hA:TU P ft=some ag)(hn:tSz P ft=some n)(hp:It cs off n ag=some v):OpT P ⟨dst,.field t x f,ty,pos,after,g⟩ [(x,.agg cs)] [] v []:=
 .pure_ λm a hx _=>by
  obtain⟨cells,e,hc⟩:=hx (x,.agg cs) (by simp);simp only at e;obtain⟨fs,h1,fi,h2,rfl,rfl⟩:=SC h;obtain⟨h4,u,h5,h6⟩:=Jd hp hc;refine⟨u,?_,h5⟩
  have:∀w,(part fi.type cells fi.offset).run P w= .ok u w:=by
   intro w;rcases h6 with⟨rfl,rfl⟩|⟨rfl,rfl,h7⟩
   ·simp only[part,AG,SK hA,Gv hn,AA,Hx,AF]
    congr 2
    apply Array.ext';simp[Gz]
   ·have h7':cells[fi.offset]?=some u:=by simpa using h7
    simp[part,AG,SK hA,AA,h7',AF]
  simp[execOp,e,Instr.field,BR h1,h2,asAgg,AG,this,AF,AA]
theorem OpT.indexAddr{k:IntKind}{X off len i j:Nat}{q:Int}{p sz:Nat}{l:List AV}{t' te:TypeId}(h:Ex P t=some te)(hn:tSz P te=some sz)(hq:q=(i:Int))(hi:i<len)(hj:off+i=j):OpT P ⟨dst,.indexAddr t x y,ty,pos,after,g⟩ [(x,.sl X off len),(y,.prim (.int k q))] [(p,(X,.row t' sz l))] (.ptr X j 0) []:=
 .pure_ λm a hx hS=>by
  obtain⟨bs,hU,L,h1,h2,_⟩:=hS (p,(X,.row t' sz l)) (by simp);obtain⟨_,hU',A,c,e1,h3⟩:=hx (x,.sl X off len) (by simp);have hy:=(hx (y,.prim (.int k q)) (by simp)).prim;injection e1 with e1
  simp only at e1 hy;subst hq hj;rcases h3 L h1 with⟨_,_,_,e⟩|⟨_,h4,o,e,h5⟩
  ·omega
  ·injection e with e2 e3 e4
   have ho:=h5 (.inl (by omega));refine⟨.pointer (some ⟨L.blk,(off+i)*L.sz+0,none⟩),?_,rfl,hU,_,rfl,λL' hL'=>?_⟩
   ·have hlt:(0:Int)<=(i:Int)/\(i:Int)<(len:Int):=by omega
    simp only[h2]at*;simp[execOp,e1,hy,Instr.indexAt,asIntOf,BR (C3 h),e2,hlt,Gv hn,AG,AF,AA,Hj,ho,C2,hi]
   ·rw[h1]at hL';injection hL' with hL';subst hL';rfl
theorem OpT.indexAddr_lst{k:IntKind}{i:Nat}{q:Int}{sz:Nat}{l:List AV}{t' te:TypeId}{e:AV}(h:Ex P t=some te)(hn:tSz P te=some sz)(hq:q=(i:Int))(hi:l[i]?=some e):OpT P ⟨dst,.indexAddr t x y,ty,pos,after,g⟩ [(x,.lst false t' sz l),(y,.prim (.int k q))] [] (.fp e.cells) []:=
 .pure_ λm a hx _=>by
  have hil:i<l.length:=(AE.1 hi).1;have he:l[i]=e:=(AE.1 hi).2;obtain⟨_,A,cap,e1,h3,hw,h4⟩:=hx (x,.lst false t' sz l) (by simp);obtain⟨b,off,arr,tt,r,rfl,hF,hb,hc⟩:=h4 (by omega);have hy:=(hx (y,.prim (.int k q)) (by simp)).prim;injection e1 with e1
  simp only at e1 hy;subst hq;obtain⟨c1,c2,c3,p1,p2,p3,hcc,hp,hl1,hl2,_,hv,_⟩:=hc.get hw hil;rw[he]at hv
  have e0:p2=[]:=by
   have:=hp.symm;simp at this;exact this.2.1
  subst e0;refine⟨.pointer (some ⟨b,off+i*sz,none⟩),?_,rfl,b,off+i*sz,arr,tt,r,rfl,hF,hb,?_⟩
  ·have hlt:(0:Int)<=(i:Int)/\(i:Int)<(l.length:Int):=by omega
   simp[execOp,e1,hy,Instr.indexAt,asIntOf,BR (C3 h),hlt,Gv hn,AG,AF,AA,Hj,hil]
  ·have hwc:AV.widths e.cells=sz:=by
    rw[<-VCs.len _ hv.cells,hl2]
   have:(arr.toList.drop (off+i*sz)).take (AV.widths e.cells)=c2:=by
    have h5:((arr.toList.drop off).take (l.length*sz)).drop (i*sz)=c2++c3:=by
     rw[hcc,AN,Ra hl1]
    rw[Gz,Cy]at h5;have h6:((arr.toList.drop (off+i*sz)).take (l.length*sz-i*sz)).take sz=c2:=by rw[h5,D4 hl2]
    rw[EP]at h6;rw[hwc];rwa[B6]at h6;rw[<-Nat.sub_mul];exact Nat.le_mul_of_pos_left _ (by omega)
   rw[this];exact hv.cells
theorem C1(ρ:Operand->Value)(b:Builtin)(args:Array Operand)(ats:Array TypeId)(w:World):(execOp ρ ⟨dst,.call ⟨.builtin b,args,ats⟩,ty,pos,after,g⟩).run P w=(builtin b ats ty (args.map λ|.const _=>true|_=>false) (args.map ρ)).run P w:=by
 simp[execOp,resolve,invoke,AG,AF,AA];rfl
theorem Us(l:List UInt8):(⟨l.toArray⟩:ByteArray).size=l.length:=by show l.toArray.size=l.length;simp
theorem OpT.len_sl{X off len:Nat}{te:TypeId}(h:Ex P t=some te):OpT P ⟨dst,.call ⟨.builtin .len,#[x],#[t]⟩,ty,pos,after,g⟩ [(x,.sl X off len)] [] (.prim (.int .i64 (len:Int))) []:=
 .pure_ λm a hx _=>by
  obtain⟨_,hU',A,c,e1,h3⟩:=hx (x,.sl X off len) (by simp);injection e1 with e1
  simp only at e1;refine⟨_,?_,Cj _⟩;rw[C1];simp[builtin,Builtin.len_,e1,BR (C3 h),AG,AF,AA,goInt]
theorem OpT.len_lst{o:Bool}{t' te:TypeId}{sz:Nat}{l:List AV}(h:Ex P t=some te):OpT P ⟨dst,.call ⟨.builtin .len,#[x],#[t]⟩,ty,pos,after,g⟩ [(x,.lst false t' sz l)] [] (.prim (.int .i64 (l.length:Int))) []:=
 .pure_ λm a hx _=>by
  obtain⟨_,A,cap,e1,_⟩:=hx (x,.lst false t' sz l) (by simp);injection e1 with e1
  simp only at e1;refine⟨_,?_,Cj _⟩;rw[C1];simp[builtin,Builtin.len_,e1,BR (C3 h),AG,AF,AA,goInt]
theorem OpT.len_nil{te:TypeId}(h:Ex P t=some te):OpT P ⟨dst,.call ⟨.builtin .len,#[x],#[t]⟩,ty,pos,after,g⟩ [(x,.prim (.slice none 0 0))] [] (.prim (.int .i64 0)) []:=
 .pure_ λm a hx _=>by
  have e1:=(hx (x,.prim (.slice none 0 0)) (by simp)).prim;simp only at e1;refine⟨_,?_,Cj _⟩;rw[C1];simp[builtin,Builtin.len_,e1,BR (C3 h),AG,AF,AA,goInt]
theorem OpT.len_str{l:List UInt8}(h:P.underlying t=some .string):OpT P ⟨dst,.call ⟨.builtin .len,#[x],#[t]⟩,ty,pos,after,g⟩ [(x,.prim (Fx l))] [] (.prim (.int .i64 (l.length:Int))) []:=
 .pure_ λm a hx _=>by
  have e1:=(hx (x,.prim (Fx l)) (by simp)).prim;simp only at e1;refine⟨_,?_,Cj _⟩;rw[C1];simp[builtin,Builtin.len_,e1,Fx,BR h,AG,AF,AA,goInt,Us]
theorem OpT.index_str{k:IntKind}{l:List UInt8}{i:Nat}{q:Int}(h:P.underlying t=some .string)(hq:q=(i:Int))(hi:i<l.length):OpT P ⟨dst,.index t x y,ty,pos,after,g⟩ [(x,.prim (Fx l)),(y,.prim (.int k q))] [] (.prim (.int .u8 (l[i].toNat:Int))) []:=
 .pure_ λm a hx _=>by
  have e1:=(hx (x,.prim (Fx l)) (by simp)).prim;have hy:=(hx (y,.prim (.int k q)) (by simp)).prim;simp only at e1 hy;subst hq;refine⟨_,?_,Cj _⟩
  have:(ByteArray.mk l.toArray)[i]?=some l[i]:=by
   have:i<(ByteArray.mk l.toArray).size:=by rw[Us];exact hi
   rw[getElem?_pos (ByteArray.mk l.toArray) i this];rfl
  simp[execOp,e1,hy,Fx,Instr.index,asIntOf,BR h,this,AG,AF,AA]
theorem OpT.makeFunc{f:FuncId}{xs:List (Operand×AV)}(h1:Dw (xs.map (·.2))=true):OpT P ⟨dst,.makeFunc (.func f) #[] (xs.map (·.1)).toArray,ty,pos,after,g⟩ xs [] (.fn f (xs.map (·.2))) []:=
 .pure_ λm a hx _=>by
  have hv:∀xs:List (Operand×AV),Dw (xs.map (·.2))=true->(∀q∈xs,VV m q.2 (a.eval q.1) [])->VCs m (xs.map (·.2)) (xs.map λq=>a.eval q.1) []:=by
   intro xs
   induction xs with
   |nil=>intro _ _;exact VCs.nil
   |cons q xs ih=>
    intro hs hx;simp only[Aa,Dw,AH]at hs;have h0:=hx q (by simp)
    have h1:VC m q.2 [a.eval q.1] []:=by
     rcases hq:q.2<;>rw[hq]at h0 hs<;>first|exact h0|(simp[AV.st1]at hs)
    exact⟨[a.eval q.1],_,[],[],rfl,rfl,h1,ih hs.2 λq' hq'=>hx q' (by simp[hq'])⟩
  refine⟨.func (.func f) #[] (xs.map λq=>a.eval q.1).toArray,?_,(xs.map λq=>a.eval q.1).toArray,rfl,by simpa using hv xs h1 hx⟩;simp[execOp,Instr.makeFunc,AG,AF,AA]
theorem OpT.nilCheck_fp{cs:List AV}:OpT P ⟨dst,.nilCheck x,ty,pos,after,g⟩ [(x,.fp cs)] [] (.fp cs) []:=
 .pure_ λm a hx _=>by
  have h0:=hx (x,.fp cs) (by simp);obtain⟨_,b,o,arr,t',r,e,_⟩:=id h0;injection e with e
  simp only at e;refine⟨a.eval x,?_,h0⟩;simp[execOp,e,AF]
theorem OpT.nilCheck{X i k p sz:Nat}{t':TypeId}{l:List AV}(hi:i<l.length):OpT P ⟨dst,.nilCheck x,ty,pos,after,g⟩ [(x,.ptr X i k)] [(p,(X,.row t' sz l))] (.ptr X i k) []:=
 .pure_ λm a hx hS=>by
  obtain⟨bs,hO⟩:=hS (p,(X,.row t' sz l)) (by simp);obtain⟨L,arr,c,q,h1,h2,_⟩:=hO.elem (Dn hi);have h0:=hx (x,.ptr X i k) (by simp);obtain⟨_,hU,A,e1,h3⟩:=id h0;injection e1 with e1
  simp only at e1;rw[h3 L h1]at e1;refine⟨a.eval x,?_,h0⟩;simp[execOp,e1,AF]
end
end
section
open Go.RowKit
section
variable {P:Program}{m0 m:Mem}{N:Nat}{R:Zs}{ex:List Nat}{X:Nat}{t:TypeId}{sz:Nat}{l:List AV}
theorem OC(z:AR×List Nat)(R:Zs):Zs.keys (z::R)=z.1.1::R.keys:=rfl
theorem C4(z:AR×List Nat)(R:Zs):Zs.own (z::R)=z.2++R.own:=rfl
theorem Ki(z:AR×List Nat):Zs.own [z]=z.2:=by simp[Zs.own]
theorem M7{bs0:List Nat}(G:Good m0 m N (((X,.gone),bs0)::R) ex){arr:Array Value}{cap:Nat}(hv:VCs m l (arr.toList.take (l.length*sz)) [])(harr:arr.size=cap*sz)(hl:l.length<=cap)(hcap:cap<=maxLen)(hw:∀e∈l,e.width=sz)(m':Mem)
  (hm':m'=⟨λy=>if y=X then some ⟨m.w.heap.size,cap,sz,false⟩else m.μ y,λy=>m.U y\/y=X,m.w.alloc (.cells arr t),m.F⟩):
  Good m0 m' N (((X,.row t sz l),[m.w.heap.size])::R) ex/\m.Le m':=by
 subst hm';obtain⟨rfl,hU⟩:=G.obj _ (BG ..);have hXN:=G.keyN X (by simp[OC])
 have hle:m.Le ⟨λy=>if y=X then some ⟨m.w.heap.size,cap,sz,false⟩else m.μ y,λy=>m.U y\/y=X,m.w.alloc (.cells arr t),m.F⟩:=by
  refine⟨λy h=>.inl h,λy L hy hL=>?_,λb hb=>⟨hb,Fe _ _ _ (G.frz b hb)⟩⟩;simp only at hL;split at hL
  ·rename_i e;subst e;exact absurd hy hU
  ·exact hL
 refine⟨?_,hle⟩;have ownex:=G.own;rw[C4,FV]at ownex;refine Good.swap (zs:=[((X,.gone),[])]) (zs':=[((X,.row t sz l),[m.w.heap.size])]) G hle (AT _) ?_ ?_ ?_ ?_ ?_ ?_ ?_ ?_ ?_ rfl rfl rfl (by simp)
 ·intro y hy _
  have hne:y≠X:=by intro e;apply hy;simp[Zs.keys,e]
  simp[hne]
 ·intro b hb _ _
  exact Fe _ _ _ hb
 ·intro z hz
  simp only[AY]at hz;subst hz;refine⟨.inr rfl,⟨m.w.heap.size,cap,sz,false⟩,by simp,rfl,.inr ⟨rfl,arr,[],rfl,?_,harr,hl,hcap,hw,VCs.mono hle l (by simp) hv⟩⟩;exact kH m.w _
 ·rw[Ki]
  refine AW.2 ⟨by simp,(AW.1 ownex).2.1,λb hb c hc e=>?_⟩;simp only[AY]at hb;have:=(G.blk c (by simp[hc])).1;omega
 ·intro b hb
  rw[Ki]at hb⊢;rcases AL.1 hb with hb|hb
  ·simp only[AY]at hb
   subst hb;exact⟨by simp,λhF=>LI _ (G.frz _ hF),.inr (.inr (AT _))⟩
  ·have:=G.blk b (by simp[hb])
   exact⟨by have:=this.1;simp;omega,this.2,.inr (.inl hb)⟩
 ·intro b hb
  exact⟨by have:=G.frz b hb;simp;omega,.inl hb⟩
 ·simp[Zs.keys]
 ·intro y hy
  simp[Zs.keys]at hy⊢;subst hy;exact⟨hXN,.inl rfl⟩
 ·intro y hy
  simp[Zs.keys];rcases hy with hy|rfl
  ·exact⟨G.usedN y hy,.inl hy⟩
  ·exact⟨hXN,.inr (.inl rfl)⟩
theorem Good.write{l':List AV}{bs:List Nat}(G:Good m0 m N (((X,.row t sz l),bs)::R) ex){L:Loc}{arr arr':Array Value}{bs0 bs1:List Nat}(hL:m.μ X=some L)(hnil:L.isNil=false)(hbs:bs=L.blk::bs0)(hb:m.w.heap[L.blk]?=some (.cells arr t (0,0)))
  (harr:arr'.size=L.cap*sz) (hl:l'.length<=L.cap) (hcap:L.cap<=maxLen) (hsz:L.sz=sz) (hw:∀e∈l',e.width=sz) (hv:VCs m l' (arr'.toList.take (l'.length*sz)) bs1) (hsub:∀b∈bs1,b∈bs0) (hnd:bs1.Nodup) (m':Mem) (hm':m'={m with w:=m.w.setRow L.blk arr'}):
  Good m0 m' N (((X,.row t sz l'),L.blk::bs1)::R) ex/\m.Le m':=by
 subst hm';have hU:=(G.obj _ (BG ..)).1;subst hbs;have ownex:=G.own;rw[C4]at ownex
 have hg:L.blk∉bs0:=by
  rw[AN]at ownex;exact(Bu.1 (AW.1 ownex).1).1
 have hgF:=(G.blk L.blk (by simp[C4])).2;have hle:m.Le {m with w:=m.w.setRow L.blk arr'}:=⟨λ_ h=>h,λ_ _ _ h=>h,λb hb'=>⟨hb',setRow_other _ _ _ _ (λe=>hgF (e▸hb'))⟩⟩;have hlt:L.blk<m.w.heap.size:=lt_of_block hb;have hsize:(m.w.setRow L.blk arr').heap.size=m.w.heap.size:=by simp[World.setRow]
 refine⟨?_,hle⟩;refine Good.swap (zs:=[((X,.row t sz l),L.blk::bs0)]) (zs':=[((X,.row t sz l'),L.blk::bs1)]) G hle (AT _) (λ_ _ _=>rfl) ?_ ?_ ?_ ?_ ?_ ?_ ?_ ?_ rfl rfl rfl (by rw[show({m with w:=m.w.setRow L.blk arr'}:Mem).w=m.w.setRow L.blk arr' from rfl,hsize];exact AT _)
 ·intro b _ hb' _
  rw[Ki]at hb';exact setRow_other _ _ _ _ (λe=>hb' (by simp[e]))
 ·intro z hz
  simp only[AY]at hz;subst hz;refine⟨hU,L,hL,hsz,.inr ⟨hnil,arr',bs1,rfl,setRow_heap _ _ _ _ _ _ hb,harr,hl,hcap,hw,VCs.mono hle l' ?_ hv⟩⟩;intro b hb';exact setRow_other _ _ _ _ (λe=>hg (e▸hsub b hb'))
 ·rw[Ki]
  have h1:((L.blk::bs0)++ex).Nodup:=by
   have hp:((L.blk::bs0)++R.own++ex).Perm (((L.blk::bs0)++ex)++R.own):=by
    rw[AN,AN];exact B9 _ BJ
   exact(AW.1 (hp.nodup_iff.1 ownex)).1
  obtain⟨h2,h3,h4⟩:=AW.1 h1;refine AW.2 ⟨Bu.2 ⟨λh=>hg (hsub _ h),hnd⟩,h3,λb hb' c hc=>h4 b ?_ c hc⟩;rcases AP.1 hb' with rfl|hb'
  ·simp
  ·simp[hsub b hb']
 ·intro b hb'
  rw[Ki]at hb'⊢
  have hin:b∈(L.blk::bs0)\/b∈ex:=by
   rcases AL.1 hb' with h|h
   ·rcases AP.1 h with rfl|h
    ·simp
    ·simp[hsub b h]
   ·exact .inr h
  have hbl:b<m.w.heap.size/\¬m.F b:=by
   rcases hin with h|h
   ·exact G.blk b (by rw[C4];exact AL.2 (.inl (AL.2 (.inl h))))
   ·exact G.blk b (by simp[h])
  refine⟨?_,hbl.2,?_⟩
  ·show b<(m.w.setRow L.blk arr').heap.size
   rw[hsize];exact hbl.1
  ·rcases hin with h|h
   ·exact .inl h
   ·exact .inr (.inl h)
 ·intro b hb'
  refine⟨?_,.inl hb'⟩;show b<(m.w.setRow L.blk arr').heap.size
  rw[hsize];exact G.frz b hb'
 ·simp[Zs.keys]
 ·intro y hy
  have:y=X:=by simpa[Zs.keys]using hy
  subst this;exact⟨G.keyN y (by simp[OC]),.inl (by simp[Zs.keys])⟩
 ·intro y hy
  exact⟨G.usedN y hy,.inl hy⟩
variable {o:Oper}{v:AV}{x y z:Operand}{ty ty2 t':TypeId}{pos:String}{after:Array Edge}{g:Option (Nat×Bool)}{dst:Option Tmp}{xs:List (Operand×AV)}{p:Nat}
theorem OpT.new_(h:∀(m:Mem) (a:Act),(∀q∈xs,VV m q.2 (a.eval q.1) [])->∃arr cap u,(execOp a.eval o).run P m.w= .ok (.value u) (m.w.alloc (.cells arr t))/\arr.size=cap*sz/\l.length<=cap/\cap<=maxLen/\(∀e∈l,e.width=sz)/\VCs m l (arr.toList.take (l.length*sz)) []/\
   ((v= .ptr X 0 0/\u= .pointer (some ⟨m.w.heap.size,0,none⟩))\/∃len,v= .sl X 0 len/\len<=cap/\u= .slice (some ⟨m.w.heap.size,0,none⟩) len cap)):OpT P o xs [(p,(X,.gone))] v [(p,(X,.row t sz l))]:=by
 intro nt m0 T S a w hx hS hd hr;obtain⟨m,N,Z,rfl,h2,h3,h4⟩:=hr;have h2':Z.map (·.1)=S:=h2;obtain⟨arr,cap,u,h5,h6,h7,h8,h9,h10,h11⟩:=h m a (λq hq=>h4.ev (hx q hq));have hSp:=hS (p,(X,.gone)) (by simp);rw[<-h2',DX]at hSp;cases hz:Z[p]? with
 |none=>rw[hz]at hSp;cases hSp
 |some z=>
  rw[hz]at hSp;simp only[BD,Ak]at hSp;obtain⟨z1,z2⟩:=z;simp only at hSp;subst hSp;obtain⟨R,hp1,hp2⟩:=De hz;obtain⟨G',hle⟩:=M7 (t:=t) (h3.perm hp1) h10 h6 h7 h8 h9 _ rfl;unfold Oper.wp;rw[h5];refine⟨_,N,Z.set p ((X,.row t sz l),[m.w.heap.size]),rfl,?_,G'.perm (hp2 _).symm,(h4.mono hle).put hd ?_⟩
  ·rw[BK,h2'];rfl
  ·rcases h11 with⟨rfl,rfl⟩|⟨len,rfl,hlen,rfl⟩
   ·refine⟨rfl,.inr rfl,_,rfl,λL hL=>?_⟩
    simp only[Hx,Ak]at hL;subst hL;simp
   ·refine⟨rfl,.inr rfl,_,_,rfl,λL hL=>?_⟩
    simp only[Hx,Ak]at hL;subst hL;exact .inr ⟨rfl,by simpa using hlen,0,by simp,λ_=>by simp⟩
theorem OpT.box(hs:v.stor=true):OpT P ⟨dst,.box t x,ty,pos,after,g⟩ [(x,v)] [(p,(X,.gone))] (.ptr X 0 0) [(p,(X,.row t v.width [v]))]:=
 .new_ λm a hx=>by
  have h2:VC m v (a.eval x).cells.toList []:=VV.vc (hx (x,v) (by simp)) hs;have hl:=VC.len _ h2;refine⟨(a.eval x).cells,1,.pointer (some ⟨m.w.heap.size,0,none⟩),?_,by simpa using hl,by simp,by decide,by simp,?_,.inl ⟨rfl,rfl⟩⟩
  ·simp[execOp,Instr.box,newVar,newRow,newObj,AG,Sem.run,AA]
  ·rw[Aj (by simp at hl⊢;omega)]
   exact VCs.one.2 h2
def ones:List Value->Bool
 |[]=>true
 |u::l=>u.oneCell'&&ones l
theorem SS{l:List Value}(h:ones l=true):∀u∈l,u.oneCell'=true:=by
 induction l with
 |nil=>intro u hu;cases hu
 |cons a l ih=>
  simp only[ones,AH]at h;intro u hu;rcases AP.1 hu with rfl|hu
  ·exact h.1
  ·exact ih h.2 u hu
def tZ(P:Program)(t:TypeId):Option (List Value):=(P.info? t).bind λi=>i.zero.bind λz=>match ones z.cells.toList with|true=>some z.cells.toList|false=>none
def zAV(zl:List Value)(ag:Bool):AV:=match ag,zl with
 |false,u::_=>.prim u
 |_,zl=>.agg (zl.map .prim)
theorem Jp(m:Mem){zl:List Value}{ag:Bool}(h1:∀u∈zl,u.oneCell'=true)(h:ag=true\/zl.length=1):VC m (zAV zl ag) zl []:=by
 cases ag
 ·rcases h with h|h
  ·cases h
  ·obtain⟨u,rfl⟩:=HD.1 h
   exact⟨⟨rfl,h1 u (by simp)⟩,rfl⟩
 ·exact Lw m zl h1
theorem Kd{t:TypeId}{zl:List Value}(h:tZ P t=some zl):∃i zv,P.info? t=some i/\i.zero=some zv/\zv.cells.toList=zl/\∀u∈zl,u.oneCell'=true:=by
 unfold tZ at h;cases hi:P.info? t with
 |none=>rw[hi]at h;cases h
 |some i=>
  rw[hi]at h;simp only[Option.bind_some]at h;cases hzz:i.zero with
  |none=>rw[hzz]at h;cases h
  |some zv=>
   rw[hzz]at h;simp only[Option.bind_some]at h;split at h
   ·rename_i ho
    injection h with h
    exact⟨i,zv,rfl,hzz,h,h▸SS ho⟩
   ·cases h
theorem OpT.alloc{zl:List Value}{ag:Bool}(hz:tZ P t=some zl)(h:ag=true\/zl.length=1):OpT P ⟨dst,.alloc t,ty,pos,after,g⟩ [] [(p,(X,.gone))] (.ptr X 0 0) [(p,(X,.row t zl.length [zAV zl ag]))]:=
 .new_ λm a hx=>by
  obtain⟨i,zv,hi,hzz,hz,ho⟩:=Kd hz;have hv:=Jp m ho h;have hl:=VC.len _ hv;refine⟨zv.cells,1,.pointer (some ⟨m.w.heap.size,0,none⟩),?_,by rw[<-hz];simp,by simp,by decide,by simpa using hl.symm,?_,.inl ⟨rfl,rfl⟩⟩
  ·simp[execOp,Instr.alloc,zeroValue,typeInfo,hi,hzz,newVar,newRow,newObj,AG,Sem.run,AA]
  ·rw[hz,Aj (by simp)]
   exact VCs.one.2 hv
end
end
section
open Go.RowKit
def F6(e:AV)(k:Nat)(v:AV):AV:=match e with
 |.agg cs=>.agg (cs.take k++v.cells++cs.drop (k+v.cells.length))
 |_=>v
def NP(e:AV)(k n:Nat)(v:AV):Bool:=Rr e.cells&&Rr v.cells&&Nat.beq v.cells.length n&&Nat.ble (k+n) e.cells.length&&v.stor&&Nat.ble 1 n
section
variable {P:Program}{m0 m:Mem}{N:Nat}{R:Zs}{ex:List Nat}{X:Nat}{t:TypeId}{sz:Nat}{l:List AV}
variable {o:Oper}{v:AV}{x y z:Operand}{ty ty2 t':TypeId}{pos:String}{after:Array Edge}{g:Option (Nat×Bool)}{dst:Option Tmp}{xs:List (Operand×AV)}{p:Nat}
theorem Jg{cs:List AV}(h:Rr cs=true):AV.widths cs=cs.length:=by rw[D2 (sz:=1) (L4 h)];omega
theorem NO{e:AV}{k n:Nat}(h:NP e k n v=true){c d:List Value}{bs:List Nat}(hc:VC m e c bs)(hd:VCs m v.cells d []):d.length=n/\k+n<=c.length/\(F6 e k v).width=e.width/\∃bs',VC m (F6 e k v) (c.take k++d++c.drop (k+n)) bs' /\(∀b∈bs',b∈bs)/\(bs.Nodup->bs'.Nodup):=by
 simp only[NP,AH]at h;obtain⟨⟨⟨⟨⟨h1,h2⟩,h3⟩,h4⟩,h5⟩,h6⟩:=h;have h6:=KZ h6;have h3:=DN h3;have h4:=KZ h4;have hdl:d.length=n:=by rw[VCs.len _ hd,Jg h2,h3]
 have hcl:c.length=e.cells.length:=by rw[VCs.len _ hc.cells,Jg h1]
 refine⟨hdl,by omega,?_⟩
 have ht:(∃cs,e= .agg cs)\/(e.cells=[e]/\F6 e k v=v/\e.width=1):=by
  cases e with
  |agg cs=>exact .inl ⟨cs,rfl⟩
  |_=>exact .inr ⟨rfl,rfl,rfl⟩
 rcases ht with⟨cs,rfl⟩|⟨he,hpp,hew⟩
 ·have hw:=L4 h1
  simp only[AV.cells]at hw h4 hcl hc h1;obtain⟨p1,p2,rfl,ha,hb⟩:=VCs.take (sz:=1) hw hc.cells (k:=k) (by omega);obtain⟨q1,q2,rfl,_,hb2⟩:=VCs.take (sz:=1) (l:=cs.drop k) (λe he=>hw e (BW he)) hb (k:=n) (by rw[E5];omega);simp only[Nat.mul_one,Cy]at ha hb2;refine⟨?_,p1++[]++q2,?_,λb hb=>by simp at hb⊢;rcases hb with h|h<;>simp[h],λhn=>?_⟩
  ·show AV.widths _=AV.widths cs
   rw[PZ,PZ,Jg h2,Jg h1,D2 (sz:=1) λe he=>hw e (BN he),D2 (sz:=1) λe he=>hw e (BW he)];simp only[DW,E5];omega
  ·show VCs m (cs.take k++v.cells++cs.drop (k+v.cells.length)) _ _
   rw[h3];exact(ha.append hd).append hb2
  ·rw[A8]
   rw[<-AN]at hn;obtain⟨h6,h7,h8⟩:=AW.1 hn;exact AW.2 ⟨(AW.1 h6).1,h7,λa ha b hb=>h8 a (by simp[ha]) b hb⟩
 ·rw[he,BM]at h4 hcl
  have hv:VC m v d []:=by
   cases v with
   |agg cs=>exact hd
   |_=>exact VCs.one.1 hd
  have hvw:v.width=n:=by rw[<-VC.len _ hv,hdl]
  obtain rfl:n=1:=by omega
  obtain rfl:k=0:=by omega
  rw[hpp,hew,List.take_zero,FV,DF (by omega),A8];exact⟨hvw,[],hv,(λb hb=>by simp at hb),λ_=>UP⟩
theorem Z9{e:AV}{i k:Nat}{c1 c2 c3 rest vs:List Value}(h1:c1.length=i)(hk:k+vs.length<=c2.length):
  ((c1++c2++c3++rest).take (i+k)++vs++(c1++c2++c3++rest).drop (i+k+vs.length))=c1++(c2.take k++vs++c2.drop (k+vs.length))++c3++rest:=by
 subst h1
 have e1:(c1++c2++c3++rest).take (c1.length+k)=c1++c2.take k:=by
  rw[AN,AN,List.take_length_add_append,DV (by omega)]
 have e2:(c1++c2++c3++rest).drop (c1.length+k+vs.length)=c2.drop (k+vs.length)++c3++rest:=by
  rw[Ox,AN,AN,List.drop_length_add_append,List.drop_append_of_le_length (by omega),AN]
 rw[e1,e2];simp
theorem OpT.store{i k n:Nat}{e:AV}(hn:tSz P t=some n)(hi:l[i]?=some e)(hp:NP e k n v=true):OpT P ⟨dst,.store t x y,ty,pos,after,g⟩ [(x,.ptr X i k),(y,v)] [(p,(X,.row t' sz l))] .dead [(p,(X,.row t' sz (l.set i (F6 e k v))))]:=by
 intro nt m0 T S a w hx hS hd hr;obtain⟨m,N,Z,rfl,h2,h3,h4⟩:=hr;have h2':Z.map (·.1)=S:=h2;have hxa:VV m (.ptr X i k) (a.eval x) []:=h4.ev (hx (x,.ptr X i k) (by simp));have hya:VV m v (a.eval y) []:=h4.ev (hx (y,v) (by simp));have hSp:=hS (p,(X,.row t' sz l)) (by simp);rw[<-h2',DX]at hSp;cases hz:Z[p]? with
 |none=>rw[hz]at hSp;cases hSp
 |some z=>
  rw[hz]at hSp;simp only[BD,Ak]at hSp;obtain⟨z1,bs⟩:=z;simp only at hSp;subst hSp;obtain⟨R,hp1,hp2⟩:=De hz;have G:=h3.perm hp1;have hO:=G.obj _ (BG ..)
  have hbs:bs.Nodup:=by
   have:=G.own;rw[C4,AN]at this;exact(AW.1 this).1
  obtain⟨hU,L,hL,hsz,hO⟩:=hO;have hil:i<l.length:=(AE.1 hi).1;rcases hO with⟨_,rfl,_⟩|⟨hnil,arr,bs0,rfl,hb,harr,hlc,hcap,hw,hv⟩
  ·simp at hil
  ·obtain⟨c1,c2,c3,p1,p2,p3,hc,hpp,hl1,hl2,ha1,ha2,ha3⟩:=hv.get hw hil
   have he:l[i]=e:=(AE.1 hi).2;rw[he]at ha2;have hstor:v.stor=true:=by simp only[NP,AH]at hp;exact hp.1.2
   obtain⟨hvc,hone⟩:=VV.cells hya hstor;obtain⟨hdl,hkl,hpw,bs',hpv,hsub,hnd⟩:=NO hp ha2 hvc;obtain⟨_,_,A,e1,hptr⟩:=hxa;injection e1 with e1
   rw[hptr L hL,hsz]at e1;obtain⟨rest,hrest⟩:∃rest,arr.toList=c1++c2++c3++rest:=⟨arr.toList.drop (l.length*sz),by rw[<-hc,B8]⟩
   have hlen:i*sz+k+(a.eval y).cells.toList.length<=arr.size:=by
    have:=Dh List.length hrest;simp only[Di,DQ]at this;omega
   have hst:=O4 P L.blk (i*sz+k) t' (a.eval y).cells.toList 0 arr m.w hb (by simpa using hlen) hone;simp only[EI]at hst;have hrow:=Z9 (e:=e) (k:=k) (c2:=c2) (c3:=c3) (rest:=rest) (vs:=(a.eval y).cells.toList) hl1 (by omega);rw[hrest,hrow]at hst
   have hsize:(c2.take k++(a.eval y).cells.toList++c2.drop (k+n)).length=sz:=by
    rw[VC.len _ hpv,hpw,<-VC.len _ ha2,hl2]
   have harr':(c1++(c2.take k++(a.eval y).cells.toList++c2.drop (k+(a.eval y).cells.toList.length))++c3++rest).toArray.size=L.cap*sz:=by
    have h1:=Dh List.length hrest;simp only[DQ,harr]at h1;rw[hdl];simp only[J2];rw[h1];simp only[Di]at hsize⊢;omega
   have hlset:(l.set i (F6 e k v)).length=l.length:=Ev ..
   have htake:(c1++(c2.take k++(a.eval y).cells.toList++c2.drop (k+(a.eval y).cells.toList.length))++c3++rest).toArray.toList.take ((l.set i (F6 e k v)).length*sz)=c1++(c2.take k++(a.eval y).cells.toList++c2.drop (k+n))++c3:=by
    rw[hlset,hdl];have h1:=Dh List.length hc;simp only[DW,DQ,harr]at h1;have h0:l.length*sz<=L.cap*sz:=BV _ hlc;rw[B6 h0]at h1;show(c1++(c2.take k++(a.eval y).cells.toList++c2.drop (k+n))++c3++rest).take _=_
    refine D4 ?_;simp only[Di]at hsize h1⊢;omega
   have hglue:=V5 hil ha1 hpv ha3;rw[hpp]at hbs;have hnd2:=(Bu.1 hbs).2
   obtain⟨G',hle⟩:=Good.write G hL hnil rfl hb harr' (by rw[hlset];exact hlc) hcap hsz (l':=l.set i (F6 e k v)) (bs1:=p1++bs'++p3) (λe' he'=>by
    rcases M9 he' with h|h
    ·exact hw _ h
    ·rw[h,hpw,<-he];exact hw _ (List.getElem_mem hil)) (by rw[htake];exact hglue) (λb hb=>by
    rw[hpp];simp only[AL]at hb⊢;rcases hb with(h|h)|h
    ·exact .inl (.inl h)
    ·exact .inl (.inr (hsub b h))
    ·exact .inr h) (by
    have h7:(p1++p2++p3).Nodup:=hnd2;obtain⟨h8,h9,h10⟩:=AW.1 h7;obtain⟨h11,h12,h13⟩:=AW.1 h8;refine AW.2 ⟨AW.2 ⟨h11,hnd h12,λa ha b hb=>h13 a ha b (hsub b hb)⟩,h9,λa ha b hb=>?_⟩;rcases AL.1 ha with h|h
    ·exact h10 a (by simp[h]) b hb
    ·exact h10 a (by simp[hsub a h]) b hb) _ rfl
   have hrun:(execOp a.eval ⟨dst,.store t x y,ty,pos,after,g⟩).run P m.w= .ok .skip (m.w.setRow L.blk (c1++(c2.take k++(a.eval y).cells.toList++c2.drop (k+(a.eval y).cells.toList.length))++c3++rest).toArray):=by
    have hsz':(a.eval y).cells.size=n:=by rw[<-hdl];simp
    simp only[execOp,Instr.storeAt,e1,Instr.sureAddr,storeVar,Gv hn,AG,AF,AA,hsz',ne_eq,not_true_eq_false,if_false,hst]
   unfold Oper.wp;rw[hrun];refine⟨_,N,Z.set p ((X,.row t' sz (l.set i (F6 e k v))),L.blk::(p1++bs'++p3)),rfl,?_,G'.perm (hp2 _).symm,(h4.mono hle).put hd rfl⟩;rw[BK,h2'];rfl
def Ji(pl:List (Nat×Nat))(cs:List AV):List (Nat×AV)->Option (List AV)
 |[]=>some cs
 |(i,v)::r=>match pl[i]? with
  |none=>none
  |some (off,n)=>match NP (.agg cs) off n v with
   |false=>none
   |true=>Ji pl (F6 (.agg cs) off v).cells r
theorem Vl(off:Nat):∀(vs:List Value) (k:Nat) (arr:Array Value),off+k+vs.length<=arr.size->
  ((vs.zipIdx k).foldl (λcs (c,j)=>cs.setIfInBounds (off+j) c) arr).toList=arr.toList.take (off+k)++vs++arr.toList.drop (off+k+vs.length):=by
 intro vs
 induction vs with
 |nil=>intro k arr h;simp
 |cons v vs ih=>
  intro k arr h;simp only[List.zipIdx_cons,MC];rw[ih (k+1) _ (by simp at h⊢;omega)];have:=list_seg_step arr.toList (off+k) v vs (by simp at h⊢;omega);simpa[Ox]using this
theorem XZ(m:Mem)(ρ:Operand->Value){place:Nat->Option (Nat×Nat)}{pl:List (Nat×Nat)}(hpl:∀i q,pl[i]?=some q->place i=some q):∀(xs:List (Nat×Operand×AV)) (cs cs':List AV) (cells:Array Value),VCs m cs cells.toList []->(∀q∈xs,VV m q.2.2 (ρ q.2.1) [])->
  Ji pl cs (xs.map λq=>(q.1,q.2.2))=some cs' ->∃cells',Instr.fill place cells (xs.map λq=>(q.1,ρ q.2.1))=some cells' /\VCs m cs' cells'.toList []/\AV.widths cs'=AV.widths cs:=by
 intro xs
 induction xs with
 |nil=>
  intro cs cs' cells hc _ h;injection h with h
  subst h;exact⟨cells,rfl,hc,rfl⟩
 |cons q xs ih=>
  obtain⟨i,x,v⟩:=q;intro cs cs' cells hc hx h;simp only[Aa,Ji]at h;cases hq:pl[i]? with
  |none=>rw[hq]at h;cases h
  |some q=>
   obtain⟨off,n⟩:=q;rw[hq]at h;simp only at h;cases hp:NP (.agg cs) off n v with
   |false=>rw[hp]at h;cases h
   |true=>
    rw[hp]at h;simp only at h;have hs:v.stor=true:=by simp only[NP,AH]at hp;exact hp.1.2
    obtain⟨hv,_⟩:=VV.cells (hx (i,x,v) (by simp)) hs;have hv:VCs m v.cells (ρ x).cells.toList []:=hv;obtain⟨hdl,hkl,hpw,bs',hpv,hsub,_⟩:=NO (e:=.agg cs) hp hc hv;have hb:bs'=[]:=List.eq_nil_iff_forall_not_mem.2 λb hb=>by have:=hsub b hb;simp at this
    subst hb;have hsz:(ρ x).cells.size=n:=by rw[<-hdl];simp
    have hfold:=Vl off (ρ x).cells.toList 0 cells (by simp at hkl⊢;omega);simp only[EI]at hfold;rw[hdl]at hfold
    have harr:(ρ x).cells.zipIdx.foldl (λcs (c,j)=>cs.setIfInBounds (off+j) c) cells=(cells.toList.take off++(ρ x).cells.toList++cells.toList.drop (off+n)).toArray:=by
     apply Array.ext';rw[<-hfold,<-WR,Array.toList_zipIdx]
    obtain⟨cells',h1,h2,h3⟩:=ih (F6 (.agg cs) off v).cells cs' (cells.toList.take off++(ρ x).cells.toList++cells.toList.drop (off+n)).toArray (by simpa using hpv.cells) (λq hq=>hx q (by simp[hq])) h;refine⟨cells',?_,h2,h3.trans hpw⟩;simp only[Aa,Instr.fill,hpl i _ hq];rw[AI (by simp only[CE,Dt,ne_eq,not_or,Da];simp at hkl;omega),harr];exact h1
def ZZ(P:Program)(t:TypeId):Option (List Value×List (Nat×Nat)):=match P.info? t,P.underlying t with
 |some it,some (.struct fields)=>match it.zero,fields.toList.mapM (λf=>(P.info? f.type).map λi=>(f.offset,i.size))with
  |some z,some places=>match ones z.cells.toList with
   |true=>some (z.cells.toList,places)
   |false=>none
  |_,_=>none
 |_,_=>none
theorem ZY{t:TypeId}{zl:List Value}{pl:List (Nat×Nat)}(h:ZZ P t=some (zl,pl)):∀u∈zl,u.oneCell'=true:=by
 unfold ZZ at h;split at h
 ·split at h
  ·split at h
   ·rename_i ho
    simp only[Ak,El]at h;obtain⟨rfl,rfl⟩:=h;exact SS ho
   ·cases h
  ·cases h
 ·cases h
theorem ZX{t:TypeId}{zl:List Value}{pl:List (Nat×Nat)}(h:ZZ P t=some (zl,pl)){parts:List (Nat×Value)}{cells:Array Value}(hf:Instr.fill (pl.toArray[·]?) zl.toArray parts=some cells):P.built t parts=some cells:=by
 unfold ZZ at h;unfold Program.built;split at h
 ·rename_i it fields h1 h2
  split at h
  ·rename_i z places h3 h4
   split at h
   ·rename_i ho
    simp only[Ak,El]at h;obtain⟨rfl,rfl⟩:=h;simp only[h1,h2,h3,h4];simpa using hf
   ·cases h
  ·cases h
 ·cases h
theorem OpT.build{ps:List (Nat×Operand×AV)}{zl:List Value}{pl:List (Nat×Nat)}{cs:List AV}(h:ZZ P t=some (zl,pl))(hf:Ji pl (zl.map .prim) (ps.map λq=>(q.1,q.2.2))=some cs):OpT P ⟨dst,.build t (ps.map λq=>(q.1,q.2.1)).toArray,ty,pos,after,g⟩ (ps.map (·.2)) [] (.agg cs) []:=
 .pure_ λm a hx _=>by
  obtain⟨cells',h1,h2,_⟩:=XZ m a.eval (place:=(pl.toArray[·]?)) (pl:=pl) (λi q hq=>by simpa using hq) ps (zl.map .prim) cs zl.toArray (by simpa using Lw m zl (ZY h)) (λq hq=>hx q.2 (Ag.2 ⟨q,hq,rfl⟩)) hf;refine⟨.agg cells',?_,cells',rfl,h2⟩;have:=run_build (P:=P) m.w t ((ps.map λq=>(q.1,a.eval q.2.1)).toArray) cells' (by simpa using ZX h h1);simp only[execOp,Ea,Ch,AG];rw[show((λx:Nat×Operand=>(x.1,a.eval x.2))∘λq:Nat×Operand×AV=>(q.1,q.2.1))=λq=>(q.1,a.eval q.2.1)from rfl,this];simp[AF,AA]
def Gh(sz:Nat)(l:List AV):List (Nat×AV)->Option (List AV)
 |[]=>some l
 |(i,v)::r=>match Nat.blt i l.length&&Nat.beq v.width sz&&v.stor with
  |false=>none
  |true=>Gh sz (l.set i v) r
theorem Qh(m:Mem)(ρ:Operand->Value){sz:Nat}:∀(xs:List (Nat×Operand×AV)) (l l':List AV) (cells:Array Value),(∀e∈l,e.width=sz)->VCs m l cells.toList []->(∀q∈xs,VV m q.2.2 (ρ q.2.1) [])->
  Gh sz l (xs.map λq=>(q.1,q.2.2))=some l' ->∃cells',Instr.fill (λi=>some (i*sz,sz)) cells (xs.map λq=>(q.1,ρ q.2.1))=some cells' /\VCs m l' cells'.toList []/\l'.length=l.length/\(∀e∈l',e.width=sz):=by
 intro xs
 induction xs with
 |nil=>
  intro l l' cells hw hc _ h;injection h with h
  subst h;exact⟨cells,rfl,hc,rfl,hw⟩
 |cons q xs ih=>
  obtain⟨i,x,v⟩:=q;intro l l' cells hw hc hx h;simp only[Aa,Gh]at h;cases hb:Nat.blt i l.length&&Nat.beq v.width sz&&v.stor with
  |false=>rw[hb]at h;cases h
  |true=>
   rw[hb]at h;simp only at h;simp only[AH]at hb;obtain⟨⟨h1,h2⟩,hs⟩:=hb;have hil:i<l.length:=by simpa[Id]using h1
   have hvw:=DN h2;obtain⟨hv,_⟩:=VV.cells (hx (i,x,v) (by simp)) hs;have hv:VCs m v.cells (ρ x).cells.toList []:=hv;have hv':VC m v (ρ x).cells.toList []:=VV.vc (hx (i,x,v) (by simp)) hs;have hdl:(ρ x).cells.toList.length=sz:=by rw[VC.len _ hv',hvw]
   obtain⟨c1,c2,c3,p1,p2,p3,hcc,hpp,hl1,hl2,ha1,ha2,ha3⟩:=hc.get hw hil
   obtain⟨rfl,rfl,rfl⟩:p1=[]/\p2=[]/\p3=[]:=by
    have:=hpp.symm;simp at this;exact this
   have hcl:cells.size=i*sz+sz+c3.length:=by
    have:=Dh List.length hcc;simp only[DQ,Di]at this;omega
   have hfold:=Vl (i*sz) (ρ x).cells.toList 0 cells (by omega);simp only[EI]at hfold;rw[hdl]at hfold
   have hrow:cells.toList.take (i*sz)++(ρ x).cells.toList++cells.toList.drop (i*sz+sz)=c1++(ρ x).cells.toList++c3:=by
    have e1:cells.toList.take (i*sz)=c1:=by rw[hcc,AN,D4 hl1]
    have e2:cells.toList.drop (i*sz+sz)=c3:=by rw[hcc,Ra (by rw[Di];omega)]
    rw[e1,e2]
   have harr:(ρ x).cells.zipIdx.foldl (λcs (c,j)=>cs.setIfInBounds (i*sz+j) c) cells=(c1++(ρ x).cells.toList++c3).toArray:=by
    apply Array.ext';rw[<-hrow,<-hfold,<-WR,Array.toList_zipIdx]
   have hglue:=V5 hil ha1 hv' ha3;simp only[A8]at hglue
   obtain⟨cells',h3,h4,h5,h6⟩:=ih (l.set i v) l' (c1++(ρ x).cells.toList++c3).toArray (λe he=>by
    rcases M9 he with h|h
    ·exact hw _ h
    ·rw[h,hvw]) (by simpa using hglue) (λq hq=>hx q (by simp[hq])) h
   refine⟨cells',?_,h4,by rw[h5,Ev],h6⟩;have hsz:(ρ x).cells.size=sz:=by rw[<-hdl];simp
   simp only[Aa,Instr.fill];rw[AI (by simp only[CE,Dt,ne_eq,not_or,Da];omega),harr];exact h3
theorem Ij(z:Array Value)(n:Nat):((Array.range (n*z.size)).map (z[· %z.size]!)).toList=(List.replicate n z.toList).flatten:=by
 simp only[Array.toList_map,Array.toList_range]
 induction n with
 |zero=>simp
 |succ n ih=>
  rw[C2,Nat.one_mul,List.range_add,AK,ih,List.replicate_succ',BC,List.flatten_singleton]
  congr 1
  apply GL;intro j;simp only[Ch,DX,Re];rcases Ib j z.size with h|h
  ·rw[List.getElem?_range h]
   simp[Nat.mul_add_mod_of_lt,h,II h]
  ·rw[CD (by simpa using h),Array.getElem?_eq_none (by omega)];rfl
theorem Fp(m:Mem){z:AV}{zl:List Value}(h:VC m z zl [])(n:Nat):VCs m (List.replicate n z) (List.replicate n zl).flatten []:=by
 induction n with
 |zero=>exact VCs.nil
 |succ n ih=>exact⟨zl,(List.replicate n zl).flatten,[],[],rfl,rfl,h,ih⟩
theorem OpT.buildSlice{ps:List (Nat×Operand×AV)}{zl:List Value}{ag:Bool}{te:TypeId}{n:Nat}{l:List AV}(he:Ex P t=some te)(hz:tZ P te=some zl)(hsz:tSz P te=some sz)(hzs:zl.length=sz)(hag:ag=true\/zl.length=1)(hn:n*sz<=16777216)(h0:0<n*sz)
  (hf:Gh sz (List.replicate n (zAV zl ag)) (ps.map λq=>(q.1,q.2.2))=some l):OpT P ⟨dst,.buildSlice t n (ps.map λq=>(q.1,q.2.1)).toArray,ty,pos,after,g⟩ (ps.map (·.2)) [(p,(X,.gone))] (.sl X 0 n) [(p,(X,.row te sz l))]:=by
 obtain⟨i,zv,hi,hzv,hzl,ho⟩:=Kd hz;obtain rfl:i.size=sz:=by simpa[tSz,hi]using hsz
 have hzvs:zv.cells.size=i.size:=by rw[<-hzs,<-hzl];simp
 refine OpT.new_ (λm a hx=>?_);have hzc:=Jp m ho hag;have hzw:(zAV zl ag).width=i.size:=by rw[<-VC.len _ hzc,hzs]
 have hcl:((Array.range (n*i.size)).map (zv.cells[· %zv.cells.size]!)).toList=(List.replicate n zl).flatten:=by
  rw[<-hzvs,Ij,hzl]
 obtain⟨cells',h1,h2,h3,h4⟩:=Qh m a.eval (sz:=i.size) ps (List.replicate n (zAV zl ag)) l ((Array.range (n*i.size)).map (zv.cells[· %zv.cells.size]!)) (λe he=>by rw[Do he,hzw]) (by rw[hcl];exact Fp m hzc n) (λq hq=>hx q.2 (Ag.2 ⟨q,hq,rfl⟩)) hf;have hll:l.length=n:=by rw[h3,Dr]
 have hcs:cells'.size=n*i.size:=by have:=VCs.len _ h2;rw[D2 h4,hll]at this;simpa using this
 refine⟨cells',n,.slice (some ⟨m.w.heap.size,0,none⟩) n n,?_,hcs,by omega,by
  have:n<=n*i.size:=JQ _ (by
   rcases JR i.size with h|h
   ·rw[h]at h0;omega
   ·exact h)
  unfold maxLen;omega,h4,?_,.inr ⟨n,rfl,AT _,rfl⟩⟩
 ·have hr:=run_buildSlice (P:=P) m.w t te n ((ps.map λq=>(q.1,a.eval q.2.1)).toArray) cells' i zv (C3 he) hi hzv (by omega) (by omega) (by simpa using h1)
  simp only[execOp,Ea,Ch,AG];rw[show((λx:Nat×Operand=>(x.1,a.eval x.2))∘λq:Nat×Operand×AV=>(q.1,q.2.1))=λq=>(q.1,a.eval q.2.1)from rfl,hr];simp[AF,AA]
 ·rw[hll,Aj (by simp;omega)]
  exact h2
theorem OpT.makeSlice{k k':IntKind}{q q':Int}{zl:List Value}{ag:Bool}{te:TypeId}{n c by_:Nat}(he:Ex P t=some te)(hz:tZ P te=some zl)(hsz:tSz P te=some sz)(hzs:zl.length=sz)(hag:ag=true\/zl.length=1)(hby:(P.info? te).map (·.bytes)=some by_)
  (hq:q=(n:Int)) (hq':q'=(c:Int)) (hnc:n<=c) (hb:by_*c<=281474976710656) (hc:c<=maxLen):OpT P ⟨dst,.makeSlice t x y,ty,pos,after,g⟩ [(x,.prim (.int k q)),(y,.prim (.int k' q'))] [(p,(X,.gone))] (.sl X 0 n) [(p,(X,.row te sz (List.replicate n (zAV zl ag))))]:=by
 obtain⟨i,zv,hi,hzv,hzl,ho⟩:=Kd hz;have hisz:i.size=sz:=by simpa[tSz,hi]using hsz
 have hiby:i.bytes=by_:=by simpa[hi]using hby
 have hzvs:zv.cells.size=sz:=by rw[<-hzs,<-hzl];simp
 refine OpT.new_ (λm a hx=>?_);have hzc:=Jp m ho hag;have hzw:(zAV zl ag).width=sz:=by rw[<-VC.len _ hzc,hzs]
 have hx1:=(hx (x,.prim (.int k q)) (by simp)).prim;have hx2:=(hx (y,.prim (.int k' q')) (by simp)).prim;simp only at hx1 hx2;subst hq hq'
 have hbz:(by_:Int)*(c:Int)<=281474976710656:=by
  have:((by_*c:Nat):Int)<=281474976710656:=by omega
  rwa[ME]at this
 have hcl:(madeCells zv.cells (c*i.size)).toList=(List.replicate c zl).flatten:=by
  rw[hisz,<-hzvs,madeCells,Ij,hzl]
 refine⟨madeCells zv.cells (c*i.size),c,.slice (some ⟨m.w.heap.size,0,none⟩) n c,?_,by rw[size_madeCells,hisz],by simpa using hnc,hc,λe he=>by rw[Do he,hzw],?_,.inr ⟨n,rfl,hnc,rfl⟩⟩
 ·have hr:=run_make (P:=P) m.w t te i zv (C3 he) hi hzv k k' n c (by omega) (by omega) (by rw[hiby];exact hbz) (by unfold maxLen at hc;omega)
  simp only[B4]at hr;simp[execOp,hx1,hx2,hr,AG,AF,AA]
 ·rw[hcl,Dr]
  have:(List.replicate c zl).flatten.take (n*sz)=(List.replicate n zl).flatten:=by
   obtain⟨d,rfl⟩:=Nat.exists_eq_add_of_le hnc;rw[<-List.replicate_append_replicate,BC,D4 (by simp[hzs])]
  rw[this];exact Fp m hzc n
theorem G6{w:World}{t te:TypeId}{sz:Nat}(he:Ex P t=some te)(hsz:tSz P te=some sz){A:Option Addr}{len cap lo hi:Nat}{vl vh:Option Value}(hl:∀u,vl=some u->∃k,u= .int k lo)(hl0:vl=none->lo=0)(hh:∀u,vh=some u->∃k,u= .int k hi)(hh0:vh=none->hi=len)(h1:lo<=hi)(h2:hi<=cap):
  (Instr.sliceAt t (.slice A len cap) vl vh none).run P w= .ok (.slice (if cap=lo then A else A.map (·.add (lo*sz))) (hi-lo) (cap-lo)) w:=by
 have hb:∀(x y:Nat) (k:IntKind) (code:BoundsCode),x<=y->(Instr.sliceBound (.int k (x:Int)) y code).run P w= .ok x w:=by
  intro x y k code h;have:(0:Int)<=(x:Int)/\(x:Int)<=(y:Int):=by omega
  simp[Instr.sliceBound,asIntOf,this,AG,AF,AA,h]
 have hbs:(Instr.sliceBounds true len cap vl vh none).run P w= .ok (lo,hi,cap) w:=by
  rcases vl with _|u
  ·rcases vh with _|u'
   ·simp[Instr.sliceBounds,AG,AF,AA,hl0,hh0]
   ·obtain⟨k,rfl⟩:=hh u' rfl
    simp[Instr.sliceBounds,AG,AF,AA,hl0,hb _ _ _ _ h2]
  ·obtain⟨k,rfl⟩:=hl u rfl
   rcases vh with _|u'
   ·have:=hh0 rfl
    subst this;simp[Instr.sliceBounds,AG,AF,AA,hb _ _ _ _ h1]
   ·obtain⟨k',rfl⟩:=hh u' rfl
    simp[Instr.sliceBounds,AG,AF,AA,hb _ _ _ _ h1,hb _ _ _ _ h2]
 simp[Instr.sliceAt,Instr.slice,BR (C3 he),hbs,Gv hsz,AG,AF,AA]
end
end
section
variable {ro:Option Nat}
open Go.RowKit
def andThen(K:St->Prop)(Q:Exit->St->Prop):Exit->St->Prop
 |.normal,st=>K st
 |e,st=>Q e st
def inB(id:Nat)(Q:Exit->St->Prop):Exit->St->Prop
 |.exit i,st=>match Nat.beq i id with
  |true=>Q .normal st
  |false=>Q (.exit i) st
 |e,st=>Q e st
inductive Looks(T:List (Nat×AV)):List (Nat×AV)->Prop
 |nil:Looks T []
 |cons {d:Nat} {v:AV} {r:List (Nat×AV)} (h:Bk T d=some v) (k:Looks T r):Looks T ((d,v)::r)
theorem Looks.all{T T':List (Nat×AV)}(h:Looks T T'):∀d v,Bk T' d=some v->Bk T d=some v:=by
 induction h with
 |nil=>intro d v h;cases h
 |cons h k ih=>
  intro d v hd;rw[CF]at hd;split at hd
  ·rename_i e;subst e;injection hd with hd;subst hd;exact h
  ·exact ih d v hd
section
variable {P:Program}{nt:Nat}{Q Q':Exit->St->Prop}{st:St}{c d:Code}
theorem AWP.mono(h:AWP ro P nt c Q st)(hq:∀e st,Q e st->Q' e st):AWP ro P nt c Q' st:=
 λm0 a w hr=>TS (h m0 a w hr) λe a w ⟨st',h1,h2⟩=>⟨st',h1,hq _ _ h2⟩
theorem Fo(h:Q .normal st):AWP ro P nt .skip Q st:=λm0 a w hr=>wpIn_skip ⟨st,hr,h⟩
theorem el{id:Nat}(h:Q (.exit id) st):AWP ro P nt (.exit id) Q st:=λm0 a w hr=>wpIn_exit ⟨st,hr,h⟩
theorem iL(h:Q .ret st):AWP ro P nt .ret Q st:=λm0 a w hr=>wpIn_ret ⟨st,hr,h⟩
theorem FO(h:AWP ro P nt c (andThen (AWP ro P nt d Q) Q) st):AWP ro P nt (.seq c d) Q st:=
 λm0 a w hr=>wpIn_seq (TS (h m0 a w hr) λe a' w' ⟨st',h1,h2⟩=>by
  cases e with
  |normal=>exact h2 m0 a' w' h1
  |_=>exact⟨st',h1,h2⟩)
theorem AWP.block{id:Nat}(h:AWP ro P nt c (inB id Q) st):AWP ro P nt (.block id c) Q st:=
 λm0 a w hr=>wpIn_block (TS (h m0 a w hr) λe a' w' ⟨st',h1,h2⟩=>by
  cases e with
  |exit i=>
   simp only[Exit.inBlock,inB]at h2⊢;by_cases e:i=id
   ·subst e
    simp only[Nat.beq_refl]at h2;rw[Ab rfl];exact⟨st',h1,h2⟩
   ·have:Nat.beq i id=false:=Bool.eq_false_iff.2 λhb=>e (DN hb)
    simp only[this]at h2;rw[AI e];exact⟨st',h1,h2⟩
  |_=>exact⟨st',h1,h2⟩)
theorem AC{x:Operand}{b:Bool}(hx:ev st.T x=some (.prim (.bool b)))(ht:b=true->AWP ro P nt c Q st)(hf:b=false->AWP ro P nt d Q st):AWP ro P nt (.cond x c d) Q st:=
 λm0 a w hr=>by
  obtain⟨m,N,Z,h1,h2,h3,h4⟩:=id hr;have hb:=(h4.ev hx).prim;cases b
  ·exact wpIn_cond_false hb (hf rfl m0 a w hr)
  ·exact wpIn_cond_true hb (ht rfl m0 a w hr)
theorem An{x:Operand}{b:Bool}(hx:ev st.T x=some (.prim (.bool b)))(hb:b=true)(ht:AWP ro P nt c Q st):AWP ro P nt (.cond x c d) Q st:=AC hx (λ_=>ht) (λh=>by rw[hb]at h;cases h)
theorem AB{x:Operand}{b:Bool}(hx:ev st.T x=some (.prim (.bool b)))(hb:b=false)(hf:AWP ro P nt d Q st):AWP ro P nt (.cond x c d) Q st:=AC hx (λh=>by rw[hb]at h;cases h) (λ_=>hf)
theorem Good.sub{m0 m:Mem}{N:Nat}{Z Z':Zs}{ex:List Nat}(G:Good m0 m N Z ex)(h:Z'.Sublist Z):Good m0 m N Z' ex:=by
 have ho:(Z'.own).Sublist Z.own:=by
  clear G;unfold Zs.own
  induction h with
  |slnil=>exact DY _
  |cons a _ ih=>rw[Bj];exact ih.trans (ID _ _)
  |cons_cons a _ ih=>rw[Bj,Bj];exact ih.append_left _
 exact⟨λz hz=>G.obj z (h.subset hz),G.own.sublist (ho.append_right _),λb hb=>G.blk b ((ho.append_right _).subset hb),G.frz,G.keys.sublist (h.map _),λx hx=>G.keyN x ((h.map _).subset hx),G.usedN,G.le,G.os,G.tape,G.output,G.size⟩
theorem Pf{α β:Type}(f:β->α){S S':List α}(h:S'.Sublist S):∀{Z:List β},Z.map f=S->∃Z':List β,Z'.Sublist Z/\Z'.map f=S':=by
 induction h with
 |slnil=>intro Z hZ;exact⟨[],List.nil_sublist _,rfl⟩
 |cons a h ih=>
  intro Z hZ;cases Z with
  |nil=>cases hZ
  |cons z Z=>
   injection hZ with h1 h2
   obtain⟨Z',h3,h4⟩:=ih h2;exact⟨Z',h3.cons z,h4⟩
 |cons_cons a h ih=>
  intro Z hZ;cases Z with
  |nil=>cases hZ
  |cons z Z=>
   injection hZ with h1 h2
   obtain⟨Z',h3,h4⟩:=ih h2;exact⟨z::Z',h3.cons_cons z,by simp[h1,h4]⟩
structure St.Le(st st':St):Prop where
 T:Looks st.T st'.T
 S:st'.S.Sublist st.S
theorem Rel.weak{m0:Mem}{st st':St}{a:Act}{w:World}(h:Rel nt m0 st a w)(k:st.Le st'):Rel nt m0 st' a w:=by
 obtain⟨m,N,Z,h1,h2,h3,h4,h5,h6⟩:=h;obtain⟨Z',hs,hm⟩:=Pf _ k.S h2;exact⟨m,N,Z',h1,hm,h3.sub hs,h4,h5,λd v hd=>h6 d v (k.T.all d v hd)⟩
theorem AWP.weak{st':St}(k:st.Le st')(h:AWP ro P nt c Q st'):AWP ro P nt c Q st:=λm0 a w hr=>h m0 a w (hr.weak k)
theorem VT(p:Nat->Prop):∀n,p n->∃k,p k/\∀j,p j->k<=j:=by
 intro n
 induction n using Nat.strongRecOn with
 |_ n ih=>
  intro hn;by_cases h:∃j,j<n/\p j
  ·obtain⟨j,hj,hp⟩:=h
   exact ih j hj hp
  ·exact⟨n,hn,λj hj=>LF λhlt=>h ⟨j,hlt,hj⟩⟩
theorem AWP.loop{β:Type}(inv:β->St)(μ:β->Nat)(b0:β)(h0:st.Le (inv b0))(round:∀b,AWP ro P nt c (andThen (λst'=>∃b',μ b'<μ b/\st'.Le (inv b')) Q) (inv b)):AWP ro P nt (.loop c) Q st:=by
 intro m0 a w hr
 classical
 let I:Nat->Act->World->Prop:=λn a w=>∃b,μ b=n/\Rel nt m0 (inv b) a w
 refine wpIn_loop (λa w=>∃n,I n a w) (λa w=>if h:∃k,I k a w/\∀j,I j a w->k<=j then Classical.choose h else 0) ⟨μ b0,b0,rfl,hr.weak h0⟩ λa w hI=>?_
 have hL:∃k,I k a w/\∀j,I j a w->k<=j:=VT (λn=>I n a w) _ hI.choose_spec;obtain⟨b,hb,hrb⟩:=(Classical.choose_spec hL).1;refine TS (round b m0 a w hrb) λe a' w' ⟨st',h1,h2⟩=>?_
 cases e with
 |normal=>
  obtain⟨b',hlt,hle⟩:=h2;have hI':∃n,I n a' w':=⟨μ b',b',rfl,h1.weak hle⟩;have hL':∃k,I k a' w' /\∀j,I j a' w' ->k<=j:=VT (λn=>I n a' w') _ ⟨b',rfl,h1.weak hle⟩;refine⟨hI',?_⟩;simp only[dif_pos hL,dif_pos hL'];have h5:Classical.choose hL' <=μ b':=(Classical.choose_spec hL').2 _ ⟨b',rfl,h1.weak hle⟩;omega
 |_=>exact⟨st',h1,h2⟩
def Rk(P:Program)(f:FuncId):Bool:=match P.funcs[f]? with
 |some fn=>!(fn.name== "runtime.NumGoroutine")&&fn.body.isSome
 |none=>false
structure Spec(P:Program)(f:FuncId)(args:List AV)(S:List AR)(Q:AV->List AR->Prop):Prop where
 fn:Rk P f=true
 run:∀(Sf:List AR) (m:Mem) (N:Nat) (Z:Zs) (vals:Array Value),Z.map (·.1)=S++Sf->Good m m N Z []->VTs m args vals.toList []->
  Calls P f vals m.w λe w'=>∃v r S' m' N' Z' br,e= .returned v/\m'.w=w' /\Z'.map (·.1)=S'++Sf/\Good m m' N' Z' br/\VV m' r v br/\Q r S'
def PS(P:Program)(f:FuncId)(args:List AV)(r:AV):Prop:=Spec P f args [] λr' S'=>r'=r/\S'=[]
theorem Spec.mono{f:FuncId}{args:List AV}{S:List AR}{Q Q':AV->List AR->Prop}(h:Spec P f args S Q)(hq:∀r S',Q r S' ->Q' r S'):Spec P f args S Q':=
 ⟨h.fn,λSf m N Z vals h1 h2 h3=>(h.run Sf m N Z vals h1 h2 h3).mono λe w' ⟨v,r,S',m',N',Z',br,a,b,c,d,e,q⟩=>⟨v,r,S',m',N',Z',br,a,b,c,d,e,hq _ _ q⟩⟩
theorem Good.self{m0 m:Mem}{N:Nat}{Z:Zs}{ex:List Nat}(G:Good m0 m N Z ex):Good m m N Z ex:=
 ⟨G.obj,G.own,G.blk,G.frz,G.keys,G.keyN,G.usedN,.refl _,rfl,rfl,rfl,AT _⟩
theorem Good.after{m0 m m':Mem}{N N':Nat}{Z Z':Zs}{ex ex':List Nat}(G:Good m0 m N Z ex)(G':Good m m' N' Z' ex'):Good m0 m' N' Z' ex':=
 ⟨G'.obj,G'.own,G'.blk,G'.frz,G'.keys,G'.keyN,G'.usedN,G.le.trans G'.le,G'.os.trans G.os,G'.tape.trans G.tape,G'.output.trans G.output,Bh G.size G'.size⟩
theorem Good.freeze{m0 m:Mem}{N:Nat}{Z:Zs}{ex ex':List Nat}(G:Good m0 m N Z (ex++ex'))(m':Mem)(hm:m'={m with F:=λb=>m.F b\/b∈ex}):Good m0 m' N Z ex' /\m.Le m':=by
 subst hm;have hle:m.Le {m with F:=λb=>m.F b\/b∈ex}:=⟨λ_ h=>h,λ_ _ _ h=>h,λb hb=>⟨.inl hb,rfl⟩⟩;refine⟨?_,hle⟩
 have:=Good.swap (zs:=[]) (zs':=[]) (R:=Z) (m':={m with F:=λb=>m.F b\/b∈ex}) (N':=N) (ex':=ex') G hle (AT _) (λ_ _ _=>rfl) (λ_ _ _ _=>rfl) (λz hz=>by cases hz)
  (by have:=(AW.1 (AW.1 G.own).2.1).2.1;simpa[Zs.own]using this)
  (λb hb=>by
   have hb':b∈ex':=by simpa[Zs.own]using hb
   have h1:=G.blk b (by simp[hb']);refine⟨h1.1,?_,.inr (.inl (by simp[hb']))⟩;rintro(h|h)
   ·exact h1.2 h
   ·exact(AW.1 (AW.1 G.own).2.1).2.2 b h b hb' rfl)
  (λb hb=>by
   rcases hb with h|h
   ·exact⟨G.frz b h,.inl h⟩
   ·exact⟨(G.blk b (by simp[h])).1,.inr (.inr (.inl (by simp[h])))⟩)
  (by simp[Zs.keys]) (λx hx=>by simp[Zs.keys]at hx) (λx hx=>⟨G.usedN x hx,.inl hx⟩) rfl rfl rfl (AT _)
 simpa using this
variable {o:Oper}{x:Operand}{ty:TypeId}{pos:String}{after:Array Edge}{g:Option (Nat×Bool)}{dst:Option Tmp}{xs:List (Operand×AV)}{f:FuncId}{ats:Array TypeId}{r:AV}
theorem Kb{a:Act}{w:World}{args:Array Operand}{K:Act->World->Prop}(ha:∀f,a.eval (.func f)= .func (.func f) #[] #[])(hf:Rk P f=true)
  (h:Calls P f (args.map a.eval) w λe w'=>∃v,e= .returned v/\K (a.put dst v) w'):Oper.wp P ⟨dst,.call ⟨.value (.func f),args,ats⟩,ty,pos,after,g⟩ a w K (λ_ _ _=>False):=by
 unfold Rk at hf
 have hrun:(execOp a.eval ⟨dst,.call ⟨.value (.func f),args,ats⟩,ty,pos,after,g⟩).run P w= .ok (.enter f (args.map a.eval)) w:=by
  split at hf
  ·rename_i fn hfn
   simp only[AH,EK]at hf
   have hb:fn.body.isNone=false:=by
    cases hfb:fn.body with
    |none=>rw[hfb]at hf;simp at hf
    |some c=>rfl
   have h1:¬fn.name= "runtime.NumGoroutine" :=by simpa using hf.1
   have h2:¬fn.body=none:=by intro h;rw[h]at hb;cases hb
   simp[execOp,resolve,ha,Deferred.ofValue,invoke,callFunc,program,AG,Sem.run,AA,hfn,h1,h2]
  ·cases hf
 unfold Oper.wp;rw[hrun];simp only[Oper.upon];refine h.mono λe w' ⟨v,he,hk⟩=>?_
 subst he;exact hk
theorem Hf{m:Mem}{ρ:Operand->Value}:∀{xs:List (Operand×AV)},(∀q∈xs,ntup q.2=true)->(∀q∈xs,VV m q.2 (ρ q.1) [])->VTs m (xs.map (·.2)) (xs.map λq=>ρ q.1) []
 |[],_,_=>⟨rfl,rfl⟩
 |q::xs,ht,h=>(Dg (ht q (by simp))).2 ⟨ρ q.1,_,[],[],rfl,rfl,h q (by simp),Hf (λq hq=>ht q (by simp[hq])) λq hq=>h q (by simp[hq])⟩
def Bi:List (Operand×AV)->Bool
 |[]=>true
 |q::r=>ntup q.2&&Bi r
theorem EV{xs:List (Operand×AV)}(h:Bi xs=true):∀q∈xs,ntup q.2=true:=by
 induction xs with
 |nil=>intro q hq;cases hq
 |cons a xs ih=>
  simp only[Bi,AH]at h;intro q hq;rcases AP.1 hq with rfl|hq
  ·exact h.1
  ·exact ih h.2 q hq
theorem OpT.call(h:PS P f (xs.map (·.2)) r)(ht:Bi xs=true:=by rfl):OpT P ⟨dst,.call ⟨.value (.func f),(xs.map (·.1)).toArray,ats⟩,ty,pos,after,g⟩ xs [] r.frz []:=by
 intro nt m0 T S a w hx hS hd hr;obtain⟨m,N,Z,rfl,h2,h3,h4⟩:=hr;refine Kb (λ_=>rfl) h.fn ?_;refine(h.run S m N Z _ h2 h3.self (by have:=Hf (EV ht) λq hq=>h4.ev (hx q hq);simpa[DZ]using this)).mono ?_;rintro e w' ⟨v,r',S',m',N',Z',br,rfl,rfl,hm,G',hv,rfl,rfl⟩;obtain⟨G2,hle⟩:=Good.freeze (ex:=br) (ex':=[]) (by simpa using h3.after G') _ rfl;exact⟨v,rfl,{m' with F:=λb=>m'.F b\/b∈br},N',Z',rfl,hm,G2,((h4.mono G'.le).mono hle).put hd (VV.frz hle (λb hb=>⟨.inr hb,rfl⟩) hv)⟩
inductive CC:List AR->AV->AV->List AR->Prop
 |same {S:List AR} {a:AV}:CC S a a S
 |sl {S:List AR} {p X n sz:Nat} {t:TypeId} {l:List AV} (h:At S p (X,.row t sz l)) (hn:n=l.length):CC S (.sl X 0 n) (.lst true t sz l) (S.eraseIdx p)
 |ptr {S:List AR} {p X sz:Nat} {t:TypeId} {a:AV} (h:At S p (X,.row t sz [a])):CC S (.ptr X 0 0) (.bx t a) (S.eraseIdx p)
 |nil {S:List AR} {o:Bool} {t:TypeId} {sz:Nat}:CC S (.prim (.slice none 0 0)) (.lst o t sz []) S
inductive CCs:List AR->List AV->List AV->List AR->Prop
 |nil {S:List AR}:CCs S [] [] S
 |cons {S S1 S2:List AR} {a b:AV} {as bs:List AV} (h:CC S a b S1) (k:CCs S1 as bs S2):CCs S (a::as) (b::bs) S2
inductive CV:List AR->AV->AV->List AR->Prop
 |cell {S S':List AR} {a b:AV} (h:CC S a b S'):CV S a b S'
 |agg {S S':List AR} {as bs:List AV} (h:CCs S as bs S'):CV S (.agg as) (.agg bs) S'
inductive CVs:List AR->List AV->List AV->List AR->Prop
 |nil {S:List AR}:CVs S [] [] S
 |cons {S S1 S2:List AR} {a b:AV} {as bs:List AV} (h:CV S a b S1) (k:CVs S1 as bs S2):CVs S (a::as) (b::bs) S2
theorem Is{α:Type}{l:List α}{p:Nat}{z:α}(h:l[p]?=some z):l.Perm (z::l.eraseIdx p):=by
 induction l generalizing p with
 |nil=>simp at h
 |cons a l ih=>
  cases p with
  |zero=>simp at h;subst h;exact .refl _
  |succ p=>exact((ih (p:=p) (by simpa using h)).cons a).trans (En ..)
theorem KH{α β:Type}(f:α->β)(l:List α)(p:Nat):(l.eraseIdx p).map f=(l.map f).eraseIdx p:=by
 induction l generalizing p with
 |nil=>rfl
 |cons a l ih=>cases p with
  |zero=>rfl
  |succ p=>simp[ih]
theorem Good.take{m0 m:Mem}{N:Nat}{Z:Zs}{ex:List Nat}(G:Good m0 m N Z ex){p:Nat}{z:AR×List Nat}(h:Z[p]?=some z):Good m0 m N (Z.eraseIdx p) (ex++z.2)/\ORel m z.1.1 z.1.2 z.2:=by
 have hp:=Is h;have G1:=G.perm hp;have hs:(Z.eraseIdx p).Sublist (z::Z.eraseIdx p):=PU _ _
 have hP:(Zs.own (z::Z.eraseIdx p)++ex).Perm (Zs.own (Z.eraseIdx p)++(ex++z.2)):=by
  rw[C4,AN];refine List.perm_append_comm.trans ?_;rw[AN]
 refine⟨⟨λy hy=>G1.obj y (hs.subset hy),hP.nodup_iff.1 G1.own,λb hb=>G1.blk b (hP.mem_iff.2 hb),G1.frz,G1.keys.sublist (hs.map _),λx hx=>G1.keyN x ((hs.map _).subset hx),G1.usedN,G1.le,G1.os,G1.tape,G1.output,G1.size⟩,G1.obj z (BG ..)⟩
theorem At.z{Z:Zs}{S:List AR}{p:Nat}{e:AR}(h:At S p e)(hm:Z.map (·.1)=S):∃bs,Z[p]?=some (e,bs):=by
 have:=h.get;rw[<-hm,DX]at this;cases hz:Z[p]? with
 |none=>rw[hz]at this;cases this
 |some z=>
  rw[hz]at this;simp only[BD,Ak]at this;exact⟨z.2,by rw[<-this]⟩
section
variable {m0 m:Mem}{N:Nat}
theorem CC.sound{S S':List AR}{a b:AV}(h:CC S a b S'):∀{Z:Zs} {ex:List Nat} {c:List Value},Good m0 m N Z ex->Z.map (·.1)=S->VC m a c []->∃Z' br,Z'.map (·.1)=S' /\Good m0 m N Z' (ex++br)/\VC m b c br:=by
 intro Z ex c G hm hv;cases h with
 |same=>exact⟨Z,[],hm,by simpa using G,hv⟩
 |nil=>
  rename_i o t sz;obtain⟨⟨rfl,_⟩,_⟩:=hv;refine⟨Z,[],hm,by simpa using G,?_⟩;cases o
  ·exact⟨rfl,none,0,rfl,AT _,by simp,λh=>by simp at h⟩
  ·exact .inl ⟨rfl,rfl,rfl⟩
 |sl hA hn=>
  rename_i p X n sz t l;subst hn;obtain⟨bs,hz⟩:=hA.z hm;obtain⟨G',hU,L,hL,hsz,hO⟩:=G.take hz;refine⟨Z.eraseIdx p,bs,by rw[KH,hm],G',?_⟩;obtain⟨_,_,A,q,rfl,hs⟩:=hv;rcases hs L hL with⟨h1,h2,_,h3⟩|⟨h1,h2,o,h3,h4⟩
  ·rcases hO with⟨_,rfl,rfl⟩|⟨h5,_⟩
   ·exact .inl ⟨by rw[h2],rfl,rfl⟩
   ·rw[h1]at h5;cases h5
  ·rcases hO with⟨h5,_⟩|⟨_,arr,bs',rfl,h6,h7,h8,h9,h10,h11⟩
   ·rw[h1]at h5;cases h5
   ·have:=h4 (.inr rfl)
    rw[Ia]at this;subst this;refine .inr ⟨L.blk,L.cap,arr,bs',by rw[h3,HW],rfl,h6,h7,h8,h9,h10,h11⟩
 |ptr hA=>
  rename_i p X sz t e;obtain⟨bs,hz⟩:=hA.z hm;obtain⟨G',hU,L,hL,hsz,hO⟩:=G.take hz;refine⟨Z.eraseIdx p,bs,by rw[KH,hm],G',?_⟩;obtain⟨_,_,A,rfl,hs⟩:=hv;have hA':=hs L hL;rcases hO with⟨_,h5,_⟩|⟨_,arr,bs',rfl,h6,h7,h8,h9,h10,h11⟩
  ·cases h5
  ·have hw:e.width=sz:=h10 e (by simp)
   refine⟨L.blk,arr,bs',by rw[hA'];simp,rfl,h6,⟨L.cap,by rw[hw];exact h7,h8,h9⟩,?_⟩;rw[hw];simpa using VCs.one.1 h11
theorem CCs.sound{S S':List AR}{as bs:List AV}(h:CCs S as bs S'):∀{Z:Zs} {ex:List Nat} {c:List Value},Good m0 m N Z ex->Z.map (·.1)=S->VCs m as c []->∃Z' br,Z'.map (·.1)=S' /\Good m0 m N Z' (ex++br)/\VCs m bs c br:=by
 induction h with
 |nil=>intro Z ex c G hm hv;exact⟨Z,[],hm,by simpa using G,hv⟩
 |cons h k ih=>
  intro Z ex c G hm hv;obtain⟨c1,c2,b1,b2,rfl,e,h1,h2⟩:=hv;obtain⟨rfl,rfl⟩:b1=[]/\b2=[]:=by simpa using e.symm
  obtain⟨Z1,br1,hm1,G1,hv1⟩:=h.sound G hm h1;obtain⟨Z2,br2,hm2,G2,hv2⟩:=ih G1 hm1 h2;exact⟨Z2,br1++br2,hm2,by simpa using G2,c1,c2,br1,br2,rfl,rfl,hv1,hv2⟩
def PP:AV->Bool
 |.agg _|.tup _|.dead|.opt .. =>false
 |_=>true
theorem Q7{a:AV}{u:Value}{bs:List Nat}(h:PP a=true):VV m a u bs↔VC m a [u] bs:=by
 cases a<;>first|exact Iff.rfl|(simp[PP]at h)
theorem CV.sound{S S':List AR}{a b:AV}(h:CV S a b S'):∀{Z:Zs} {ex:List Nat} {u:Value},Good m0 m N Z ex->Z.map (·.1)=S->VV m a u []->∃Z' br,Z'.map (·.1)=S' /\Good m0 m N Z' (ex++br)/\VV m b u br:=by
 intro Z ex u G hm hv;cases h with
 |cell h=>
  cases h with
  |same=>exact⟨Z,[],hm,by simpa using G,hv⟩
  |sl h1 h2=>exact CC.sound (.sl h1 h2) G hm hv
  |ptr h1=>exact CC.sound (.ptr h1) G hm hv
  |nil=>
   rename_i o t sz;have:=CC.sound (.nil (o:=o) (t:=t) (sz:=sz)) G hm ((Q7 rfl).1 hv);exact this
 |agg h=>
  obtain⟨cells,rfl,hv⟩:=hv;obtain⟨Z',br,h1,h2,h3⟩:=h.sound G hm hv;exact⟨Z',br,h1,h2,cells,rfl,h3⟩
theorem CV.tup{S S':List AR}{a b:AV}(h:CV S a b S')(ha:ntup a=true):ntup b=true:=by
 cases h with
 |cell h=>cases h with
  |same=>exact ha
  |_=>rfl
 |agg h=>rfl
theorem CVs.sound{S S':List AR}{as bs:List AV}(h:CVs S as bs S'):∀{Z:Zs} {ex:List Nat} {us:List Value},Good m0 m N Z ex->Z.map (·.1)=S->VTs m as us []->∃Z' br,Z'.map (·.1)=S' /\Good m0 m N Z' (ex++br)/\VTs m bs us br:=by
 induction h with
 |nil=>intro Z ex c G hm hv;exact⟨Z,[],hm,by simpa using G,hv⟩
 |cons h k ih=>
  intro Z ex c G hm hv;rename_i a b as bs;have ha:=hv.ntup;obtain⟨u,us,b1,b2,rfl,e,h1,h2⟩:=(Dg ha).1 hv;obtain⟨rfl,rfl⟩:b1=[]/\b2=[]:=by simpa using e.symm
  obtain⟨Z1,br1,hm1,G1,hv1⟩:=h.sound G hm h1;obtain⟨Z2,br2,hm2,G2,hv2⟩:=ih G1 hm1 h2;exact⟨Z2,br1++br2,hm2,by simpa using G2,(Dg (h.tup ha)).2 ⟨u,us,br1,br2,rfl,rfl,hv1,hv2⟩⟩
end
inductive ResV(P:Program)(st:St):ResultVar->AV->Prop
 |tmp {t:Nat} {a:AV} (h:Bk st.T t=some a):ResV P st (.tmp t) a
 |cell {t:Nat} {ty ty':TypeId} {X i k p sz n:Nat} {l:List AV} {e a:AV} {ag:Bool} (h:Bk st.T t=some (.ptr X i k)) (hS:At st.S p (X,.row ty' sz l)) (hA:TU P ty=some ag) (hn:tSz P ty=some n) (hi:l[i]?=some e) (hp:It e.cells k n ag=some a):ResV P st (.cell t ty) a
inductive ResVs(P:Program)(st:St):List ResultVar->List AV->Prop
 |nil:ResVs P st [] []
 |cons {r:ResultVar} {rs:List ResultVar} {a:AV} {as:List AV} (h:ResV P st r a) (ht:ntup a=true) (k:ResVs P st rs as):ResVs P st (r::rs) (a::as)
def Py:List AV->AV
 |[a]=>a
 |l=>.tup l
def Ends(P:Program)(res:List ResultVar)(Sf:List AR)(Q:AV->List AR->Prop)(st:St):Prop:=
 ∃as bs S1 S',ResVs P st res as/\CVs st.S as bs S1/\(S'++Sf).Sublist S1/\Q (Py bs) S'
def ff(P:Program)(res:List ResultVar)(Sf:List AR)(Q:AV->List AR->Prop):Exit->St->Prop
 |.normal,st|.ret,st=>Ends P res Sf Q st
 |_,_=>False
end
end
section
variable {ro:Option Nat}
open Go.RowKit
def bP:Nat->List AV->List (Nat×AV)
 |_,[]=>[]
 |k,a::l=>(k,a)::bP (k+1) l
theorem aS:∀(l:List AV) (k d:Nat) (v:AV),Bk (bP k l) d=some v->k<=d/\l[d-k]?=some v:=by
 intro l
 induction l with
 |nil=>intro k d v h;cases h
 |cons a l ih=>
  intro k d v h;rw[bP,CF]at h;split at h
  ·rename_i e;subst e;exact⟨AT _,by simpa using h⟩
  ·obtain⟨h1,h2⟩:=ih _ _ _ h
   refine⟨by omega,?_⟩;rw[show d-k=(d-(k+1))+1 from by omega];simpa using h2
theorem VTs.get{m:Mem}:∀{l:List AV} {us:List Value} {bs:List Nat},VTs m l us bs->us.length=l.length/\∀(i:Nat) (v:AV),bs=[]->l[i]?=some v->∃u,us[i]?=some u/\VV m v u []
 |[],us,bs,h=>⟨by rw[h.1];rfl,λi v _ hi=>by simp at hi⟩
 |a::l,us,bs,h=>by
  have ha:=VTs.ntup h;obtain⟨u,us',b1,b2,rfl,e,h1,h2⟩:=(Dg ha).1 h;obtain⟨h3,h4⟩:=VTs.get h2;refine⟨by simp[h3],λi v hb hi=>?_⟩;rw[hb]at e;obtain⟨rfl,rfl⟩:b1=[]/\b2=[]:=by simpa using e.symm
  cases i with
  |zero=>simp at hi;subst hi;exact⟨u,rfl,h1⟩
  |succ i=>exact h4 i v rfl (by simpa using hi)
def Pu(tmps:Array Value):ResultVar->Sem Value
 |.tmp t=>pure (tmps.getD t undef)
 |.cell a t=>do loadVar t (<-asAddr (tmps.getD a undef))
theorem W1(fn:Func)(tmps:Array Value):results fn tmps=(fn.results.mapM (Pu tmps)).bind λvs=>Sem.pure (if h:vs.size=1 then vs[0]else .tuple vs):=rfl
section
variable {P:Program}{m0 m:Mem}{N nt:Nat}
theorem ResV.run{st:St}{a:Act}{Z:Zs}{ex:List Nat}(G:Good m0 m N Z ex)(hm:Z.map (·.1)=st.S)(hT:TRel m0 m nt st.T a){r:ResultVar}{v:AV}(h:ResV P st r v):
  ∃u,VV m v u []/\(Pu a.tmps r).run P m.w= .ok u m.w:=by
 cases h with
 |tmp h=>
  rename_i t;obtain⟨u,h1,h2⟩:=hT.2.2 t v h;exact⟨u,h2,by simp[Pu,CK,h1,AF]⟩
 |cell h hS hA hn hi hp=>
  rename_i t ty ty' X i k p sz n l e ag;obtain⟨u,h1,h2⟩:=hT.2.2 t _ h;obtain⟨bs,hz⟩:=hS.z hm;have hO:=G.obj _ (TJ hz);obtain⟨L,arr,c,q,h3,h4,_,_,hb,hv,hcl,hc⟩:=hO.elem hi;obtain⟨_,_,A,e1,h5⟩:=h2;injection e1 with e1
  rw[h5 L h3,h4]at e1;obtain⟨h6,u',h7,h8⟩:=Jd hp hv.cells
  have:=Pp (P:=P) m.w ty hb (off:=i*sz+k) (c:=c.drop k) (λj u hj=>by
   rw[Ox];exact hc _ _ (by simpa[C6]using hj)) hA hn (u:=u') (by
   rcases h8 with⟨h8,h9⟩|⟨h8,h9,h10⟩
   ·exact .inl ⟨h8,by rw[E5];omega,h9⟩
   ·exact .inr ⟨h8,by simpa[C6]using h10⟩)
  refine⟨u',h7,?_⟩;simp only[Instr.loadAt,Instr.sureAddr,AG,AF,AA]at this;simp[Pu,CK,h1,e1,asAddr,AG,AF,AA,this]
theorem ResVs.run{st:St}{a:Act}{Z:Zs}{ex:List Nat}(G:Good m0 m N Z ex)(hm:Z.map (·.1)=st.S)(hT:TRel m0 m nt st.T a){rs:List ResultVar}{as:List AV}(h:ResVs P st rs as):
  ∃us,VTs m as us []/\(rs.mapM (Pu a.tmps)).run P m.w= .ok us m.w:=by
 induction h with
 |nil=>exact⟨[],⟨rfl,rfl⟩,by simp[AF]⟩
 |cons h ht k ih=>
  obtain⟨us,h1,h2⟩:=ih;obtain⟨u,h3,h4⟩:=h.run G hm hT;refine⟨u::us,(Dg ht).2 ⟨u,us,[],[],rfl,rfl,h3,h1⟩,?_⟩;rw[List.mapM_cons,AG,h4,AA,AG,h2,AA];rfl
theorem Ends.run{fn:Func}{res:List ResultVar}(hres:fn.results.toList=res){Sf:List AR}{Q:AV->List AR->Prop}{st:St}(h:Ends P res Sf Q st){a:Act}{Z:Zs}(G:Good m0 m N Z [])(hm:Z.map (·.1)=st.S)(hT:TRel m0 m nt st.T a):
  ∃v r S' Z' br,(results fn a.tmps).run P m.w= .ok v m.w/\Z'.map (·.1)=S'++Sf/\Good m0 m N Z' br/\VV m r v br/\Q r S':=by
 obtain⟨as,bs,S1,S',h1,h2,h3,h4⟩:=h;obtain⟨us,h5,h6⟩:=h1.run G hm hT;obtain⟨Z1,br,h7,h8,h9⟩:=h2.sound G hm h5;obtain⟨Z2,h10,h11⟩:=Pf _ h3 h7
 have hrun:(results fn a.tmps).run P m.w= .ok (if h:us.length=1 then us[0]else .tuple us.toArray) m.w:=by
  have hb:∀{α β:Type} (s:Sem α) (f:α->Sem β),s.bind f=(s>>=f):=λ_ _=>rfl
  rw[W1,hb,AG,Array.mapM_eq_mapM_toList,hres];simp only[Sem.run_map,h6,AA];show Result.ok _ _=_
  simp
 refine⟨_,Py bs,S',Z2,br,hrun,h11,(by simpa using h8:Good m0 m N Z1 br).sub h10,?_,h4⟩;obtain⟨h12,_⟩:=VTs.get h9
 match bs,h9,h12 with
 |[],h9,h12=>
  obtain⟨rfl,rfl⟩:=h9;exact⟨#[],rfl,rfl,rfl⟩
 |[b],h9,h12=>
  obtain⟨u,us',b1,b2,rfl,e,h13,h14,h15⟩:=(Dg h9.ntup).1 h9;subst h14 h15;simp only[A8]at e;subst e;simpa[Py]using h13
 |b::b'::bs,h9,h12=>
  rw[dif_neg (by rw[h12];simp)];exact⟨us.toArray,rfl,by simpa using h9⟩
theorem Good.unmark{m0 m:Mem}{N:Nat}{Z:Zs}{ex:List Nat}{d:Nat}(G:Good m0 m N Z ex)(h0:∀b,m0.F b->b<m0.w.heap.size)(hd0:m0.w.heap.size<=d)(hF:m.F d)(hd:m.w.heap[d]?=some (.deferred (some []))):
  m.LeC {m with w:=m.w.putObj d (.deferred none),F:=λb=>m.F b/\b≠d}/\Good m0 {m with w:=m.w.putObj d (.deferred none),F:=λb=>m.F b/\b≠d} N Z ex:=by
 have hle:m.LeC {m with w:=m.w.putObj d (.deferred none),F:=λb=>m.F b/\b≠d}:=
  ⟨λ_ h=>h,λ_ _ _ h=>h,λb hb ⟨arr,t,r,hc⟩=>by
   have hne:b≠d:=by rintro rfl;rw[hd]at hc;cases hc
   exact⟨⟨hb,hne⟩,EX hne⟩⟩
 have hown:∀b∈Z.own++ex,b≠d:=λb hb e=>(G.blk b hb).2 (e▸hF)
 refine⟨hle,λz hz=>?_,G.own,λb hb=>⟨by rw[show(World.heap _).size=_ from eF];exact(G.blk b hb).1,λh=>(G.blk b hb).2 h.1⟩,λb hb=>by rw[show(World.heap _).size=_ from eF];exact G.frz b hb.1,G.keys,G.keyN,G.usedN,?_,G.os,G.tape,G.output,by rw[show(World.heap _).size=_ from eF];exact G.size⟩
 ·refine ORel.monoC hle (λe=>?_) (λL h=>h) (λb hb=>EX (hown b ?_)) (G.obj z hz)
  ·have:=G.obj z hz
   rw[e]at this;exact this.2
  ·exact TK _ (CG.2 ⟨z,hz,hb⟩)
 ·refine⟨G.le.U,G.le.μ,λb hb=>?_⟩
  have hne:b≠d:=by have:=h0 b hb;omega
  exact⟨⟨(G.le.F b hb).1,hne⟩,(EX hne).trans (G.le.F b hb).2⟩
theorem Tr{P:Program}{m0 m:Mem}{nt:Nat}{T:List (Nat×AV)}{a:Act}{fn:Func}{R:Ending->World->Prop}(h0:∀b,m0.F b->b<m0.w.heap.size)(hT:TRel m0 m nt T a)
  (k:∀m',(∀N Z,Good m0 m N Z []->Good m0 m' N Z [])->TRel m0 m' nt T {a with defers:=[]}->∃v,(results fn a.tmps).run P m'.w= .ok v m'.w/\R (.returned v) m'.w):LeavesInM (FW none) 0 P fn a.tmps R a.defers .returning m.w:=by
 obtain⟨hn,⟨ds,hds,hnd,hD⟩,hV⟩:=hT;rw[hds];clear hds
 induction ds generalizing m with
 |nil=>
  simp only[CO,LeavesInM,LeavesIn];exact k m (λ_ _ h=>h) ⟨hn,DRel.nil rfl,hV⟩
 |cons d ds ih=>
  obtain⟨h1,h2,h3⟩:=hD d (by simp);rw[Bu]at hnd
  have hle:m.LeC {m with w:=m.w.putObj d (.deferred none),F:=λb=>m.F b/\b≠d}:=
   ⟨λ_ h=>h,λ_ _ _ h=>h,λb hb ⟨arr,t,r,hc⟩=>by
    have hne:b≠d:=by rintro rfl;rw[h3]at hc;cases hc
    exact⟨⟨hb,hne⟩,EX hne⟩⟩
  refine⟨by simp,.inl ⟨d,m.w.putObj d (.deferred none),rfl,run_takeDeferred h3,?_⟩⟩;refine ih (m:={m with w:=m.w.putObj d (.deferred none),F:=λb=>m.F b/\b≠d}) (λm' hG hT'=>k m' (λN Z G=>hG N Z (G.unmark h0 h1 h2 h3).2) hT') (λe v he=>?_) hnd.2 λx hx=>?_
  ·obtain⟨u,hu1,hu2⟩:=hV e v he
   exact⟨u,hu1,VV.monoC hle (by simp) hu2⟩
  ·have hne:x≠d:=by rintro rfl;exact hnd.1 hx
   obtain⟨h4,h5,h6⟩:=hD x (by simp[hx]);exact⟨h4,⟨h5,hne⟩,(EX hne).trans h6⟩
theorem Spec.of{f:FuncId}{fn:Func}{c:Code}{args:List AV}{S:List AR}{Q:AV->List AR->Prop}{res:List ResultVar}{nt:Nat}(hf:P.funcs[f]?=some fn)(hb:fn.body=some c)(hfn:Rk P f=true)(hnt:fn.ntmps=nt)(hres:fn.results.toList=res)(hn:Nat.ble args.length nt=true)
  (h:∀Sf,AWP none P nt c (ff P res Sf Q) ⟨bP 0 args,S++Sf⟩):Spec P f args S Q:=by
 subst hnt;have hn:=KZ hn;refine⟨hfn,λSf m N Z vals hm G hv=>V0 (ro:=none) (n:=0) (callsIn_of_wp_marks (F:=FW none) hf hb CZ ?_ rfl)⟩;obtain⟨hl,hget⟩:=VTs.get hv;have hl':vals.size=args.length:=by simpa using hl
 have hr:Rel fn.ntmps m ⟨bP 0 args,S++Sf⟩ {tmps:=vals++Array.replicate (fn.ntmps-vals.size) undef,defers:=[]} m.w:=by
  refine⟨m,N,Z,rfl,hm,G,by simp;omega,DRel.nil rfl,λd v hd=>?_⟩;obtain⟨_,h2⟩:=aS _ _ _ _ hd;simp only[HW]at h2;obtain⟨u,h3,h4⟩:=hget d v rfl h2;have hdl:d<vals.size:=by have:=(AE.1 h3).1;simpa using this
  exact⟨u,by rw[Array.getElem?_append_left hdl];simpa using h3,h4⟩
 refine TS (h Sf m _ _ hr) λe a w ⟨st',hr',hq⟩=>?_
 obtain⟨m',N',Z',rfl,hm',G',hT⟩:=hr'
 have fin:Ends P res Sf Q st' ->LeavesInM (FW none) 0 P fn a.tmps (λe w'=>∃v' r S' m'' N'' Z'' br,e= .returned v' /\m''.w=w' /\Z''.map (·.1)=S'++Sf/\Good m m'' N'' Z'' br/\VV m'' r v' br/\Q r S') a.defers .returning m'.w:=λhE=>
  Tr G.frz hT λm'' G'' hT'=>by
   obtain⟨v,r,S',Z'',br,h1,h2,h3,h4,h5⟩:=hE.run hres (G'' _ _ G') hm' hT';exact⟨v,h1,v,r,S',m'',N',Z'',br,rfl,rfl,h2,h3,h4,h5⟩
 cases e with
 |normal=>exact fin hq
 |ret=>exact fin hq
 |_=>exact hq.elim
end
end
section
variable {ro:Option Nat}
open Go.RowKit
section
variable {P:Program}{nt:Nat}{m0 m:Mem}{N:Nat}{R:Zs}{ex:List Nat}{X Y:Nat}{t te t' ty:TypeId}{sz:Nat}{l:List AV}{st:St}
variable {o:Oper}{v:AV}{x y z:Operand}{pos:String}{after:Array Edge}{g:Option (Nat×Bool)}{dst:Option Tmp}{p q:Nat}{u1 u2:Value}
theorem OpT.or_opt{b c:Bool}:OpT P ⟨dst,.pick x y z,ty,pos,after,g⟩ [(x,.prim (.bool b)),(y,.prim (.bool true)),(z,.opt (b==false) (.prim (.bool c)))] [] (.prim (.bool (b||c))) []:=
 .pure_ λm a hx _=>by
  have h1:=(hx (x,.prim (.bool b)) (by simp)).prim;have h2:=(hx (y,.prim (.bool true)) (by simp)).prim;have h3:=(hx (z,.opt (b==false) (.prim (.bool c))) (by simp)).2.1;simp only at h1 h2 h3;refine⟨_,?_,Cj _⟩;cases b
  ·have h4:a.eval z= .bool c:=VV.prim (m:=m) (bs:=[]) (h3 rfl)
   simp[execOp,h1,h4,asBool,AG,AF,AA]
  ·simp[execOp,h1,h2,asBool,AG,AF,AA]
theorem OpT.and_opt{b c:Bool}:OpT P ⟨dst,.pick x y z,ty,pos,after,g⟩ [(x,.prim (.bool b)),(y,.opt (b==true) (.prim (.bool c))),(z,.prim (.bool false))] [] (.prim (.bool (b&&c))) []:=
 .pure_ λm a hx _=>by
  have h1:=(hx (x,.prim (.bool b)) (by simp)).prim;have h2:=(hx (y,.opt (b==true) (.prim (.bool c))) (by simp)).2.1;have h3:=(hx (z,.prim (.bool false)) (by simp)).prim;simp only at h1 h2 h3;refine⟨_,?_,Cj _⟩;cases b
  ·simp[execOp,h1,h3,asBool,AG,AF,AA]
  ·have h4:a.eval y= .bool c:=VV.prim (m:=m) (bs:=[]) (h2 rfl)
   simp[execOp,h1,h4,asBool,AG,AF,AA]
theorem Good.one{zs zs':Zs}(G:Good m0 m N (zs++R) ex)(m':Mem)(N':Nat)(hw:m'.w=m.w)(hF:m'.F=m.F)(hle:m.Le m')(hN:N<=N')(hμ:∀y,y∉zs.keys->y<N->m'.μ y=m.μ y)
  (hobj:∀z∈zs',ORel m' z.1.1 z.1.2 z.2) (hown:zs'.own=zs.own) (hkeys:zs'.keys.Nodup) (hkeyN:∀y∈zs'.keys,y<N' /\(y∈zs.keys\/N<=y)) (hU:∀y,m'.U y->y<N' /\(m.U y\/y∈zs.keys\/N<=y)):Good m0 m' N' (zs'++R) ex:=by
 refine Good.swap G hle hN hμ (λb _ _ _=>by rw[hw]) hobj ?_ ?_ ?_ hkeys hkeyN hU (by rw[hw]) (by rw[hw]) (by rw[hw]) (by rw[hw];exact AT _)
 ·rw[hown]
  have h:=G.own;rw[GA,AN]at h
  have hp:(zs.own++(R.own++ex)).Perm ((zs.own++ex)++R.own):=by
   rw[AN];exact B9 _ BJ
  exact(AW.1 (hp.nodup_iff.1 h)).1
 ·intro b hb
  rw[hown]at hb
  have hb':b∈Zs.own (zs++R)++ex:=by
   rw[GA];rcases AL.1 hb with h|h<;>simp[h]
  rw[hw,hF];exact⟨(G.blk b hb').1,(G.blk b hb').2,by rcases AL.1 hb with h|h<;>simp[h]⟩
 ·intro b hb
  rw[hF]at hb;rw[hw];exact⟨G.frz b hb,.inl hb⟩
theorem St.reserve(st:St):IC nt st λst'=>∃X,st'=⟨st.T,(X,.gone)::st.S⟩:=by
 rintro m0 a w ⟨m,N,Z,rfl,h2,h3,h4⟩;refine⟨⟨st.T,(N,.gone)::st.S⟩,⟨m,N+1,((N,.gone),[])::Z,rfl,by simp[h2],?_,h4⟩,N,rfl⟩;refine Good.one (zs:=[]) (zs':=[((N,.gone),[])]) (R:=Z) h3 m (N+1) rfl rfl (.refl _) (by omega) (λ_ _ _=>rfl) ?_ rfl (by simp[Zs.keys]) ?_ ?_
 ·intro z hz
  simp only[AY]at hz;subst hz;exact⟨rfl,λh=>LI _ (h3.usedN _ h)⟩
 ·intro y hy
  simp[Zs.keys]at hy;omega
 ·intro y hy
  have:=h3.usedN y hy;exact⟨by omega,.inl hy⟩
theorem AOps.reserve{ops:Array Oper}{Q:Exit->St->Prop}{rest:List Oper}(k:∀X,AOps ro P nt ops Q rest ⟨st.T,(X,.gone)::st.S⟩):AOps ro P nt ops Q rest st:=.ghost (St.reserve st) (by rintro _ ⟨X,rfl⟩;exact k X)
theorem AWP.reserve{c:Code}{Q:Exit->St->Prop}(k:∀X,AWP ro P nt c Q ⟨st.T,(X,.gone)::st.S⟩):AWP ro P nt c Q st:=.ghost (St.reserve st) (by rintro _ ⟨X,rfl⟩;exact k X)
theorem Good.adopt(G:Good m0 m N R ex)(t:TypeId)(sz:Nat):∃m',m'.w=m.w/\Good m0 m' (N+1) (((N,.row t sz []),[])::R) ex/\m.Le m' /\VC m' (.sl N 0 0) [.slice none 0 0] []:=by
 have hNU:¬m.U N:=λh=>LI _ (G.usedN _ h)
 let m':Mem:=⟨λy=>if y=N then some ⟨0,0,sz,true⟩else m.μ y,λy=>m.U y\/y=N,m.w,m.F⟩
 have hle:m.Le m':=by
  refine⟨λy h=>.inl h,λy L hy hL=>?_,λb hb=>⟨hb,rfl⟩⟩;simp only[m']at hL;split at hL
  ·rename_i e;subst e;exact absurd hy hNU
  ·exact hL
 refine⟨m',rfl,?_,hle,rfl,.inr rfl,none,0,rfl,λL hL=>?_⟩
 ·refine Good.one (zs:=[]) (zs':=[((N,.row t sz []),[])]) (R:=R) G m' (N+1) rfl rfl hle (by omega) (λy _ hy=>by simp only[m'];rw[AI (by omega)]) ?_ rfl (by simp[Zs.keys]) ?_ ?_
  ·intro z hz
   simp only[AY]at hz;subst hz;exact⟨.inr rfl,⟨0,0,sz,true⟩,by simp[m'],rfl,.inl ⟨rfl,rfl,rfl⟩⟩
  ·intro y hy
   simp[Zs.keys]at hy;omega
  ·intro y hy
   rcases hy with hy|rfl
   ·have:=G.usedN y hy
    exact⟨by omega,.inl hy⟩
   ·exact⟨by omega,.inr (.inr (AT _))⟩
 ·simp only[m',Hx,Ak]at hL
  subst hL;exact .inl ⟨rfl,rfl,rfl,rfl⟩
theorem TRel.over{T:List (Nat×AV)}{a:Act}(h:TRel m0 m nt T a){d:Nat}{v w:AV}(hd:Bk T d=some v)(hv:∀u,VV m v u []->VV m w u []):TRel m0 m nt ((d,w)::T) a:=
 ⟨h.1,h.2.1,λe v' he=>by
  rw[CF]at he;split at he
  ·rename_i e';subst e'
   injection he with he;subst he
   obtain⟨u,h1,h2⟩:=h.2.2 _ v hd;exact⟨u,h1,hv u h2⟩
  ·exact h.2.2 e v' he⟩
theorem St.adopt{d:Nat}(t:TypeId)(sz:Nat)(hd:Bk st.T d=some (.prim (.slice none 0 0))):IC nt st λst'=>∃X,st'=⟨(d,.sl X 0 0)::st.T,(X,.row t sz [])::st.S⟩:=by
 rintro m0 a w ⟨m,N,Z,rfl,h2,h3,h4⟩;obtain⟨m',hw,G',hle,hv⟩:=h3.adopt t sz;refine⟨_,⟨m',N+1,_,hw,by simp[h2],G',?_⟩,N,rfl⟩;refine(h4.mono hle).over hd λu hu=>?_
 have:=hu.prim;subst this;exact hv
theorem Good.iced{bs:List Nat}(G:Good m0 m N (((X,.row t sz l),bs)::R) ex):∃m',m'.w=m.w/\Good m0 m' N (((X,.used),[])::R) ex/\m.Le m' /\(∀off n c,off+n<=l.length->VC m (.sl X off n) c []->VC m' (.lst false t sz (AV.frzs ((l.drop off).take n))) c [])/\∀e c,l=[e]->VC m (.ptr X 0 0) c []->VC m' (.fp e.frz.cells) c []:=by
 have hO:=G.obj _ (BG ..);obtain⟨hU,L,hL,hsz,hO⟩:=hO
 have hp:(Zs.own (((X,AO.row t sz l),bs)::R)++ex).Perm (Zs.own (((X,AO.used),[])::R)++(bs++ex)):=by
  simp only[C4,FV];rw[AN];refine List.perm_append_comm.trans ?_;rw[AN];exact B9 _ BJ
 have G1:Good m0 m N (((X,.used),[])::R) (bs++ex):=by
  refine⟨?_,hp.nodup_iff.1 G.own,λb hb=>G.blk b (hp.mem_iff.2 hb),G.frz,G.keys,G.keyN,G.usedN,G.le,G.os,G.tape,G.output,G.size⟩;intro z hz;rcases AP.1 hz with rfl|hz
  ·exact⟨rfl,hU⟩
  ·exact G.obj z (Db _ hz)
 obtain⟨G2,hle⟩:=G1.freeze _ rfl;refine⟨{m with F:=λb=>m.F b\/b∈bs},rfl,G2,hle,?_,?_⟩
 rotate_left
 ·rintro e c rfl ⟨_,hU',A,rfl,hA⟩
  rw[hA L hL];rcases hO with⟨_,h5,_⟩|⟨_,arr,bs',rfl,h6,h7,h8,h9,h10,h11⟩
  ·cases h5
  ·have hw:e.width=sz:=h10 e (by simp)
   have hv:VC m e (arr.toList.take sz) bs':=by simpa using VCs.one.1 h11
   have hf:=VC.cells (VC.frz hle e (λb hb=>⟨.inr (by simp[hb]),rfl⟩) hv);refine⟨rfl,L.blk,0*L.sz+0,arr,t,(0,0),rfl,.inr (by simp),h6,?_⟩
   have hl:AV.widths e.frz.cells=sz:=by
    rw[<-VCs.len _ hf,DW,B6];have:=VC.len _ hv;rw[DW]at this;omega
   rw[hl];simpa using hf
 intro off n c hn hv;obtain⟨_,_,A,q,rfl,hs⟩:=hv;have hfl:(AV.frzs ((l.drop off).take n)).length=n:=by rw[HN,DW,E5];omega
 refine⟨rfl,A,q,by rw[hfl],?_,?_,?_⟩
 ·rcases hs L hL with⟨_,h2,_,h3⟩|⟨_,h2,o,h3,_⟩
  ·omega
  ·injection h3 with h4 h5 h6
   omega
 ·intro e he
  rw[H9]at he;obtain⟨e',he',rfl⟩:=Ag.1 he;rw[Hn];rcases hO with⟨_,rfl,_⟩|⟨_,arr,bs',_,_,_,_,_,hw,_⟩
  ·simp at he'
  ·exact hw e' (BW (BN he'))
 ·intro h0
  rw[hfl]at h0⊢;rcases hs L hL with⟨_,_,_,h3⟩|⟨h1,h2,o,h3,h4⟩
  ·omega
  ·rcases hO with⟨_,rfl,_⟩|⟨_,arr,bs',rfl,h6,h7,h8,h9,h10,h11⟩
   ·simp at hn;omega
   ·injection h3 with h12 h13 h14
    have ho:=h4 (.inl (by omega));obtain⟨p1,p2,e1,_,k1⟩:=VCs.take h10 h11 (k:=off) (by omega);obtain⟨p3,p4,e2,k2,_⟩:=VCs.take (l:=l.drop off) (λe he=>h10 e (BW he)) k1 (k:=n) (by rw[E5];omega);refine⟨L.blk,o,arr,t,(0,0),h12,.inr (by simp),h6,?_⟩
    have hc:(arr.toList.drop o).take (n*sz)=((arr.toList.take (l.length*sz)).drop (off*sz)).take (n*sz):=by
     rw[ho,hsz,Gz,EP,B6];rw[<-Nat.sub_mul];exact BV _ (by omega)
    rw[hc];refine VCs.frz hle _ (λb hb=>⟨.inr ?_,rfl⟩) k2;rw[e1,e2];simp[hb]
theorem St.ice{d n:Nat}(hd:Bk st.T d=some (.sl X 0 n))(hS:At st.S p (X,.row t sz l))(hn:n=l.length):IC nt st λst'=>st'=⟨(d,.lst false t sz (AV.frzs l))::st.T,st.S.set p (X,.used)⟩:=by
 rintro m0 a w ⟨m,N,Z,rfl,h2,h3,h4⟩;obtain⟨bs,hz⟩:=hS.z h2;obtain⟨R,hp1,hp2⟩:=De hz;obtain⟨m',hw,G',hle,hv,_⟩:=(h3.perm hp1).iced;refine⟨_,⟨m',N,Z.set p ((X,.used),[]),hw,by rw[BK,h2],G'.perm (hp2 _).symm,?_⟩,rfl⟩;have hk:Bk st.T d=some (.sl X 0 n):=hd;refine⟨h4.1,h4.2.1.mono hle,λe v' he=>?_⟩;rw[CF]at he;split at he
 ·rename_i e';subst e'
  injection he with he;subst he
  obtain⟨u,h5,h6⟩:=h4.2.2 _ _ hk;refine⟨u,h5,?_⟩;have:=hv 0 n [u] (by omega) h6;rwa[B7,Aj (by omega)]at this
 ·obtain⟨u,h5,h6⟩:=h4.2.2 e v' he
  exact⟨u,h5,h6.mono hle (by simp)⟩
theorem OpT.slice_hi{k:IntKind}{off n hi:Nat}{qi:Int}(he:Ex P t=some te)(hsz:tSz P te=some sz)(hq:qi=(hi:Int))(hh:hi<=n):OpT P ⟨dst,.slice t x none (some y) none,ty,pos,after,g⟩ [(x,.sl X off n),(y,.prim (.int k qi))] [(p,(X,.row t' sz l))] (.sl X off hi) []:=
 .pure_ λm a hx hS=>by
  obtain⟨bs,hU,L,h1,h2,_⟩:=hS (p,(X,.row t' sz l)) (by simp);obtain⟨_,hU',A,c,e1,h3⟩:=hx (x,.sl X off n) (by simp);have hy:=(hx (y,.prim (.int k qi)) (by simp)).prim;injection e1 with e1
  simp only at e1 hy;subst hq
  have hcap:hi<=c:=by
   rcases h3 L h1 with⟨_,e,_,e'⟩|⟨_,h4,o,e,_⟩
   ·omega
   ·injection e with _ _ e;omega
  have hr:=G6 (P:=P) (w:=m.w) he hsz (A:=A) (len:=n) (cap:=c) (lo:=0) (hi:=hi) (vl:=none) (vh:=some (.int k hi)) (by simp) (by simp) (λu hu=>⟨k,by injection hu with hu;exact hu.symm⟩) (by simp) (by omega) hcap;refine⟨_,by simp only[execOp,GJ,BD,e1,hy,AG,hr,AA];rfl,rfl,hU',_,_,rfl,λL' hL'=>?_⟩;rw[h1]at hL';injection hL' with hL';subst hL'
  rcases h3 L h1 with⟨h5,e,e2,e3⟩|⟨h5,h4,o,e,h6⟩
  ·injection e with e4 e5 e6
   subst e4 e6;have:hi=0:=by omega
   subst this;exact .inl ⟨h5,by simp,e2,rfl⟩
  ·injection e with e4 e5 e6
   subst e4 e6;refine .inr ⟨h5,by omega,o,?_,h6⟩;simp only[Ia,HW,BD];split
   ·rfl
   ·rw[Hj,EI]
theorem OpT.slice_lst_hi{k:IntKind}{hi:Nat}{qi:Int}(he:Ex P t=some te)(hsz:tSz P te=some sz)(hq:qi=(hi:Int))(hh:hi<=l.length):OpT P ⟨dst,.slice t x none (some y) none,ty,pos,after,g⟩ [(x,.lst false t' sz l),(y,.prim (.int k qi))] [] (.lst false t' sz (l.take hi)) []:=
 .pure_ λm a hx hS=>by
  obtain⟨_,A,c,e1,h3,hw,h4⟩:=hx (x,.lst false t' sz l) (by simp);have hy:=(hx (y,.prim (.int k qi)) (by simp)).prim;injection e1 with e1
  simp only at e1 hy;subst hq;have hr:=G6 (P:=P) (w:=m.w) he hsz (A:=A) (len:=l.length) (cap:=c) (lo:=0) (hi:=hi) (vl:=none) (vh:=some (.int k hi)) (by simp) (by simp) (λu hu=>⟨k,by injection hu with hu;exact hu.symm⟩) (by simp) (by omega) (by omega);have hl:(l.take hi).length=hi:=by rw[DW];omega
  refine⟨_,by simp only[execOp,GJ,BD,e1,hy,AG,hr,AA];rfl,rfl,A,c,?_,by rw[hl];omega,λe he=>hw e (BN he),λh0=>?_⟩
  ·rw[hl]
   congr 2
   simp only[Ia,HW];split
   ·rfl
   ·cases A with
    |none=>rfl
    |some ad=>rfl
  ·rw[hl]at h0⊢
   obtain⟨b,off,arr,tt,r,rfl,hF,hb,hc⟩:=h4 (by omega);obtain⟨p1,p2,e2,h5,_⟩:=VCs.take hw hc hh;obtain⟨rfl,rfl⟩:p1=[]/\p2=[]:=by simpa using e2.symm
   refine⟨b,off,arr,tt,r,rfl,hF,hb,?_⟩;rw[EP,B6 (BV _ hh)]at h5;exact h5
theorem OpT.slice_lst_lo{k:IntKind}{lo:Nat}{qi:Int}(he:Ex P t=some te)(hsz:tSz P te=some sz)(hq:qi=(lo:Int))(hh:lo<=l.length):OpT P ⟨dst,.slice t x (some y) none none,ty,pos,after,g⟩ [(x,.lst false t' sz l),(y,.prim (.int k qi))] [] (.lst false t' sz (l.drop lo)) []:=
 .pure_ λm a hx hS=>by
  obtain⟨_,A,c,e1,h3,hw,h4⟩:=hx (x,.lst false t' sz l) (by simp);have hy:=(hx (y,.prim (.int k qi)) (by simp)).prim;injection e1 with e1
  simp only at e1 hy;subst hq;have hr:=G6 (P:=P) (w:=m.w) he hsz (A:=A) (len:=l.length) (cap:=c) (lo:=lo) (hi:=l.length) (vl:=some (.int k lo)) (vh:=none) (λu hu=>⟨k,by injection hu with hu;exact hu.symm⟩) (by simp) (by simp) (by simp) hh h3;have hl:(l.drop lo).length=l.length-lo:=by rw[E5]
  refine⟨_,by simp only[execOp,GJ,BD,e1,hy,AG,hr,AA];rfl,rfl,_,c-lo,by rw[hl],by rw[hl];omega,λe he=>hw e (BW he),λh0=>?_⟩;rw[hl]at h0⊢;obtain⟨b,off,arr,tt,r,rfl,hF,hb,hc⟩:=h4 (by omega);obtain⟨p1,p2,e2,_,h5⟩:=VCs.take hw hc hh;obtain⟨rfl,rfl⟩:p1=[]/\p2=[]:=by simpa using e2.symm
  rw[AI (by omega)];refine⟨b,off+lo*sz,arr,tt,r,by rw[BD,Hj],hF,hb,?_⟩;rw[Gz,Cy,<-Nat.sub_mul]at h5;exact h5
end
end
section
open Go.RowKit
def Um(P:Program)(t:TypeId):Option (TypeId×Nat×Nat):=match P.underlying t with
 |some (.slice e)=>match P.info? e with
  |some i=>match i.zero with
   |some z=>match Nat.beq z.cells.size i.size&&Nat.blt 0 i.size with
    |true=>some (e,i.size,i.bytes)
    |false=>none
   |none=>none
  |none=>none
 |_=>none
theorem N2{P:Program}{t e:TypeId}{sz by_:Nat}(h:Um P t=some (e,sz,by_)):∃i z,P.underlying t=some (.slice e)/\P.info? e=some i/\i.zero=some z/\i.size=sz/\i.bytes=by_/\z.cells.size=sz/\0<sz:=by
 unfold Um at h;split at h
 ·rename_i e' he
  split at h
  ·rename_i i hi
   split at h
   ·rename_i z hz
    split at h
    ·rename_i hb
     simp only[AH]at hb;simp only[Ak,El]at h;obtain⟨rfl,rfl,rfl⟩:=h;exact⟨i,z,he,hi,hz,rfl,rfl,DN hb.1,by simpa[Id]using hb.2⟩
    ·cases h
   ·cases h
  ·cases h
 ·cases h
section
variable {P:Program}{nt:Nat}{m0 m:Mem}{N:Nat}{R:Zs}{ex:List Nat}{X Y:Nat}{t te t' ty:TypeId}{sz by_:Nat}{l ls:List AV}{st:St}
variable {o:Oper}{v:AV}{x y z:Operand}{pos:String}{after:Array Edge}{g:Option (Nat×Bool)}{dst:Option Tmp}{p q:Nat}{u1 u2:Value}
theorem LS(T:Um P t=some (te,sz,by_))(w:World)(ty:TypeId){v:Value}{n:Nat}{xs news:List Value}(hown:w.ownsRow 0 te sz v n xs){A:Option Addr}{k c:Nat}(hk:k<=c)(hl:news.length=k*sz)
  (hn:0<k->∃b off,A=some ⟨b,off,none⟩/\∀j u,news[j]?=some u->w.cell? ⟨b,off+j,none⟩=some u) (h1:∀u∈news,u.oneCell'=true) (hbytes:(n+k)*by_<=140737488355328) (hlen:n+k<=maxLen):
  ∃v' w',(Builtin.append_ #[t,t] ty #[v,.slice A k c]).run P w= .ok v' w' /\w'.ownsRow 0 te sz v' (n+k) (xs++news)/\w.grownBy w' v.ownBlock/\(v'.ownBlock=v.ownBlock\/v'.ownBlock=some w.heap.size):=by
 obtain⟨i,z,ht,hi,hz,h3,h4,hzs,hsz⟩:=N2 T;rcases A with _|ad
 ·have hm:k=0:=by
   rcases JR k with h0|h0
   ·exact h0
   ·obtain⟨b,off,h,_⟩:=hn h0
    cases h
  subst hm;have hnn:news=[]:=CP (by simpa using hl);subst hnn;refine⟨v,w,?_,by simpa using hown,World.grownBy.refl w _,.inl rfl⟩;rcases hown.2 with⟨rfl,rfl⟩|⟨g,cap,cur,rfl,_,_,hnc,_⟩
  ·simp[Builtin.append_,BR ht,sizeOf,typeInfo,hi,Builtin.lenOf,Builtin.firstCells]
  ·simp[Builtin.append_,BR ht,sizeOf,typeInfo,hi,Builtin.lenOf,Builtin.firstCells,hnc,storeCells]
 ·have hcells:∀j u,news[j]?=some u->w.cell? (ad.add j)=some u:=by
   intro j u hu;rcases JR k with h0|h0
   ·subst h0
    have hnn:news=[]:=CP (by simpa using hl);subst hnn;simp at hu
   ·obtain⟨b,off,h,hc⟩:=hn h0
    injection h with h
    subst h;rw[Hj];exact hc j u hu
  obtain⟨v',w',hrun,h2,h5,_,h6⟩:=run_append_own_at (P:=P) w 0 t ty te i z sz by_ ht hi hz h3 h4 hzs hsz v n xs hown ad k c news hl hcells h1 hlen hbytes (Ap _);exact⟨v',w',hrun,h2,h5,h6⟩
theorem TH{bs:List Nat}(h:ORel m X (.row te sz l) bs){u:Value}(hu:VV m (.sl X 0 l.length) u []):∃xs bs0,m.w.ownsRow 0 te sz u l.length xs/\VCs m l xs bs0/\(∀e∈l,e.width=sz)/\((u.ownBlock=none/\bs=[]/\bs0=[])\/∃g,u.ownBlock=some g/\bs=g::bs0):=by
 obtain⟨hU,L,hL,hsz,hO⟩:=h;obtain⟨_,_,A,q,e,hs⟩:=hu;injection e with e
 rcases hs L hL with⟨h1,h2,_,h3⟩|⟨h1,h2,o,h3,h4⟩
 ·rcases hO with⟨_,rfl,rfl⟩|⟨h5,_⟩
  ·exact⟨[],[],⟨by simp,.inl ⟨e.trans h2,rfl⟩⟩,VCs.nil,by simp,.inl ⟨by rw[e,h2];rfl,rfl,rfl⟩⟩
  ·rw[h1]at h5;cases h5
 ·rcases hO with⟨h5,_⟩|⟨_,arr,bs0,rfl,h6,h7,h8,h9,h10,h11⟩
  ·rw[h1]at h5;cases h5
  ·have ho:=h4 (.inr rfl)
   rw[Ia]at ho;subst ho;refine⟨arr.toList.take (l.length*sz),bs0,⟨?_,.inr ⟨L.blk,L.cap,arr,by rw[e,h3,HW],Ap _,h6,h8,h9,h7,rfl⟩⟩,h11,h10,.inr ⟨L.blk,by rw[e,h3];rfl,rfl⟩⟩;have h12:=BV sz h8;have h13:arr.toList.length=L.cap*sz:=by simpa using h7
   rw[DW];omega
theorem Good.app{bs bsY:List Nat}(G:Good m0 m N (((Y,.gone),bsY)::((X,.row te sz l),bs)::R) ex){u v':Value}{xs news:List Value}{w':World}{bs0:List Nat}(hv:VCs m l xs bs0)(hn:VCs m ls news [])(hw:∀e∈l++ls,e.width=sz)(hbs:(u.ownBlock=none/\bs=[]/\bs0=[])\/∃g,u.ownBlock=some g/\bs=g::bs0)
  (hown:w'.ownsRow 0 te sz v' (l.length+ls.length) (xs++news)) (hg:m.w.grownBy w' u.ownBlock) (hat:v'.ownBlock=u.ownBlock\/v'.ownBlock=some m.w.heap.size):
  ∃m' bs',m'.w=w' /\Good m0 m' N (((X,.used),[])::((Y,.row te sz (l++ls)),bs')::R) ex/\m.Le m' /\VV m' (.sl Y 0 (l.length+ls.length)) v' []:=by
 obtain⟨rfl,hYU⟩:=G.obj _ (BG ..);have hXU:=(G.obj ((X,.row te sz l),bs) (by simp)).1;have hYN:=G.keyN Y (by simp[Zs.keys]);have hXN:=G.keyN X (by simp[Zs.keys]);have hXY:Y≠X:=by have:=G.keys;simp[Zs.keys]at this;exact λe=>this.1.1 e
 have own:=G.own;simp only[C4,FV]at own
 obtain⟨L,hLv⟩:∃L:Loc,L.sz=sz/\((L.isNil=true/\v'= .slice none 0 0/\l++ls=[])\/(L.isNil=false/\∃cur,v'= .slice (some ⟨L.blk,0,none⟩) (l.length+ls.length) L.cap/\w'.heap[L.blk]?=some (.cells cur te (0,0))/\l.length+ls.length<=L.cap/\L.cap<=maxLen/\cur.size=L.cap*sz/\cur.toList.take ((l.length+ls.length)*sz)=xs++news)):=by
  rcases hown.2 with⟨h1,h2⟩|⟨g,cap,cur,h1,_,h3,h4,h5,h6,h7⟩
  ·exact⟨⟨0,0,sz,true⟩,rfl,.inl ⟨rfl,h1,CP (by rw[Di];exact h2)⟩⟩
  ·exact⟨⟨g,cap,sz,false⟩,rfl,.inr ⟨rfl,cur,h1,h3,h4,h5,h6,h7⟩⟩
 obtain⟨hLs,hLv⟩:=hLv
 let m':Mem:=⟨λy=>if y=Y then some L else m.μ y,λy=>m.U y\/y=Y,w',m.F⟩
 have hF:∀b,m.F b->b<m.w.heap.size/\b∉bs:=λb hb=>⟨G.frz b hb,λh=>(G.blk b (by simp[C4,h])).2 hb⟩
 have hrow:∀b,u.ownBlock=some b->b∈bs:=by
  intro b hb;rcases hbs with⟨h1,_⟩|⟨g,h1,h2⟩
  ·rw[h1]at hb;cases hb
  ·rw[h1]at hb;injection hb with hb;subst hb;simp[h2]
 have hsame:∀b,b<m.w.heap.size->u.ownBlock≠some b->w'.heap[b]?=m.w.heap[b]?:=λb hb hne=>hg.block b hb (λe=>hne e.symm)
 have hle:m.Le m':=by
  refine⟨λy h=>.inl h,λy L' hy hL=>?_,λb hb=>⟨hb,hsame b (hF b hb).1 (λe=>(hF b hb).2 (hrow b e))⟩⟩;simp only[m']at hL;split at hL
  ·rename_i e;subst e;exact absurd hy hYU
  ·exact hL
 have hblk:L.isNil=false->(L.blk∈bs\/m.w.heap.size<=L.blk)/\L.blk∉bs0/\L.blk<w'.heap.size:=by
  intro hnil;rcases hLv with⟨h,_⟩|⟨_,cur,h1,h2,_⟩
  ·rw[hnil]at h;cases h
  ·have hob:v'.ownBlock=some L.blk:=by rw[h1];rfl
   have hlt:=lt_of_block h2;rw[hob]at hat;rcases hat with h|h
   ·have hin:=hrow _ h.symm
    refine⟨.inl hin,?_,hlt⟩;rcases hbs with⟨h5,_⟩|⟨g,h5,h6⟩
    ·rw[h5]at h;cases h
    ·rw[h5]at h
     injection h with h
     rw[h6,AN]at own;rw[h];exact λhc=>(Bu.1 own).1 (by simp[hc])
   ·injection h with h
    refine⟨.inr (by omega),λhc=>?_,hlt⟩
    have hb0:L.blk∈bs:=by
     rcases hbs with⟨_,_,h6⟩|⟨g,_,h6⟩
     ·rw[h6]at hc;cases hc
     ·rw[h6];simp[hc]
    have:=(G.blk L.blk (by simp[C4,hb0])).1;omega
 have hbs0:∀b∈bs0,b∈bs/\u.ownBlock≠some b:=by
  intro b hb;rcases hbs with⟨_,_,h6⟩|⟨g,h5,h6⟩
  ·rw[h6]at hb;cases hb
  ·refine⟨by rw[h6];simp[hb],λe=>?_⟩
   rw[h5]at e;injection e with e
   rw[h6,AN]at own;exact(Bu.1 own).1 (by simp[e,hb])
 have hbsnd:bs0.Nodup:=by
  rcases hbs with⟨_,_,h6⟩|⟨g,_,h6⟩
  ·rw[h6];exact UP
  ·rw[h6,AN]at own
   exact(AW.1 (Bu.1 own).2).1
 have hcells:VCs m' (l++ls) (xs++news) bs0:=by
  have h1:=VCs.mono hle l (λb hb=>hsame b (G.blk b (by simp[C4,(hbs0 b hb).1])).1 (hbs0 b hb).2) hv;have h2:=VCs.mono hle ls (by simp) hn;simpa using h1.append h2
 let bs':=if L.isNil then[]else L.blk::bs0
 refine⟨m',bs',rfl,?_,hle,?_⟩
 ·refine Good.swap (zs:=[((Y,.gone),[]),((X,.row te sz l),bs)]) (zs':=[((X,.used),[]),((Y,.row te sz (l++ls)),bs')]) G hle (AT _) ?_ ?_ ?_ ?_ ?_ ?_ ?_ ?_ ?_ hg.os hg.tape hg.output hg.size
  ·intro b hb _
   have:b≠Y:=λe=>hb (by simp[Zs.keys,e])
   simp[m',this]
  ·intro b hb h1 _
   exact hsame b hb λe=>h1 (by simp[Zs.own,hrow b e])
  ·intro z hz
   simp only[AP,EZ,Mh]at hz;rcases hz with rfl|rfl
   ·exact⟨rfl,.inl hXU⟩
   ·refine⟨.inr rfl,L,by simp[m'],hLs,?_⟩
    rcases hLv with⟨h1,_,h3⟩|⟨h1,cur,h2,h3,h4,h5,h6,h7⟩
    ·exact .inl ⟨h1,h3,by simp[bs',h1]⟩
    ·refine .inr ⟨h1,cur,bs0,by simp[bs',h1],h3,h6,by rw[Di];exact h4,h5,hw,?_⟩
     rw[Di,h7];exact hcells
  ·have hex:(bs++ex).Nodup:=by
    have hp:(bs++R.own++ex).Perm ((bs++ex)++R.own):=by
     rw[AN,AN];exact B9 _ BJ
    exact(AW.1 (hp.nodup_iff.1 own)).1
   obtain⟨e1,e2,e3⟩:=AW.1 hex;have:Zs.own [((X,AO.used),[]),((Y,AO.row te sz (l++ls)),bs')]=bs':=by simp[Zs.own]
   rw[this];cases hnil:L.isNil with
   |true=>simp[bs',hnil,e2]
   |false=>
    simp only[bs',hnil,WQ,if_false];obtain⟨h1,h2,h3⟩:=hblk hnil;refine AW.2 ⟨Bu.2 ⟨h2,hbsnd⟩,e2,λb hb c hc=>?_⟩;rcases AP.1 hb with rfl|hb
    ·rcases h1 with h1|h1
     ·exact e3 _ h1 c hc
     ·intro e
      have:=(G.blk c (by simp[hc])).1;omega
    ·exact e3 b (hbs0 b hb).1 c hc
  ·intro b hb
   have hb':b∈bs' \/b∈ex:=by simpa[Zs.own]using hb
   have hold:∀b,b∈bs\/b∈ex->b<w'.heap.size/\¬m.F b/\(b∈Zs.own [((Y,AO.gone),[]),((X,AO.row te sz l),bs)]\/b∈ex\/m.w.heap.size<=b):=by
    intro b hb;have h1:=G.blk b (by rcases hb with h|h<;>simp[C4,h]);refine⟨E3 h1.1 hg.size,h1.2,?_⟩;rcases hb with h|h
    ·exact .inl (by simp[Zs.own,h])
    ·exact .inr (.inl h)
   rcases hb' with hb'|hb'
   ·cases hnil:L.isNil with
    |true=>simp[bs',hnil]at hb'
    |false=>
     simp only[bs',hnil,WQ,if_false]at hb';obtain⟨h1,h2,h3⟩:=hblk hnil;rcases AP.1 hb' with rfl|hb'
     ·rcases h1 with h1|h1
      ·exact hold _ (.inl h1)
      ·exact⟨h3,λhF'=>by have:=(hF _ hF').1;omega,.inr (.inr h1)⟩
     ·exact hold b (.inl (hbs0 b hb').1)
   ·exact hold b (.inr hb')
  ·intro b hb
   exact⟨E3 (hF b hb).1 hg.size,.inl hb⟩
  ·simp[Zs.keys,Ne.symm hXY]
  ·intro y hy
   simp[Zs.keys]at hy⊢;rcases hy with rfl|rfl
   ·exact⟨hXN,.inl (.inr rfl)⟩
   ·exact⟨hYN,.inl (.inl rfl)⟩
  ·intro y hy
   simp[Zs.keys];rcases hy with hy|rfl
   ·exact⟨G.usedN y hy,.inl hy⟩
   ·exact⟨hYN,.inr (.inl (.inl rfl))⟩
 ·have hlen:(l++ls).length=l.length+ls.length:=Di
  have hform:∃A q,v'= .slice A (l.length+ls.length) q:=by
   rcases hLv with⟨_,h2,h3⟩|⟨_,cur,h2,_⟩
   ·have:l.length+ls.length=0:=by rw[<-hlen,h3];rfl
    exact⟨none,0,by rw[h2,this]⟩
   ·exact⟨_,_,h2⟩
  obtain⟨A,q,hA⟩:=hform;refine⟨rfl,.inr rfl,A,q,by rw[hA],λL' hL'=>?_⟩;simp only[m',Hx,Ak]at hL';subst hL';rw[<-hA];rcases hLv with⟨h1,h2,h3⟩|⟨h1,cur,h2,h3,h4,_⟩
  ·exact .inl ⟨h1,h2,rfl,by rw[<-hlen,h3];rfl⟩
  ·exact .inr ⟨h1,by omega,0,by rw[h2,HW],λ_=>by simp⟩
theorem OpT.append_lst{n:Nat}(T:Um P t=some (te,sz,by_))(hn:n=l.length)(hb:(l.length+ls.length)*by_<=140737488355328)(hm:l.length+ls.length<=maxLen)(hqp:q≠p):OpT P ⟨dst,.call ⟨.builtin .append,#[x,y],#[t,t]⟩,ty,pos,after,g⟩ [(x,.sl X 0 n),(y,.lst false t' sz ls)] [(q,(Y,.gone)),(p,(X,.row te sz l))] (.sl Y 0 (n+ls.length)) [(q,(X,.used)),(p,(Y,.row te sz (l++ls)))]:=by
 subst hn;intro nt m0 T' S a w hx hS hd hr;obtain⟨m,N,Z,rfl,h2,h3,h4⟩:=hr;have h2':Z.map (·.1)=S:=h2;have hxa:VV m (.sl X 0 l.length) (a.eval x) []:=h4.ev (hx (x,.sl X 0 l.length) (by simp));have hya:VV m (.lst false t' sz ls) (a.eval y) []:=h4.ev (hx (y,.lst false t' sz ls) (by simp))
 have hz:∀(q:Nat) (e:AR),S[q]?=some e->∃bs,Z[q]?=some (e,bs):=by
  intro q e h;rw[<-h2',DX]at h;cases hz:Z[q]? with
  |none=>rw[hz]at h;cases h
  |some z=>rw[hz]at h;simp only[BD,Ak]at h;exact⟨z.2,by rw[<-h]⟩
 obtain⟨bsY,hzY⟩:=hz q _ (hS (q,(Y,.gone)) (by simp));obtain⟨bs,hzX⟩:=hz p _ (hS (p,(X,.row te sz l)) (by simp));obtain⟨R,hp1,hp2⟩:=KD hqp hzY hzX;have G:=h3.perm hp1;obtain⟨xs,bs0,hown,hv,hwl,hbs⟩:=TH (G.obj ((X,.row te sz l),bs) (by simp)) hxa;obtain⟨_,A,c,e1,hkc,hws,hrd⟩:=hya;injection e1 with e1
 obtain⟨news,hnl,hnc,hnv⟩:∃news:List Value,news.length=ls.length*sz/\(0<ls.length->∃b off,A=some ⟨b,off,none⟩/\∀j u,news[j]?=some u->m.w.cell? ⟨b,off+j,none⟩=some u)/\VCs m ls news []:=by
  rcases JR ls.length with h0|h0
  ·have:ls=[]:=CP h0
   subst this;exact⟨[],by simp,λh=>absurd h (by simp),VCs.nil⟩
  ·obtain⟨b,off,arr,tt,r,hA,hF,hb,hc⟩:=hrd h0
   refine⟨_,by rw[VCs.len _ hc,D2 hws],λ_=>⟨b,off,hA,λj u hj=>?_⟩,hc⟩;rw[C5]at hj;split at hj
   ·rw[C6]at hj
    simp only[World.cell?,hb];simpa using hj
   ·cases hj
 obtain⟨v',w',hrun,hown',hg,hat⟩:=LS T m.w ty hown hkc hnl hnc (VCs.ones _ hnv) hb hm;obtain⟨m',bs',hw',G',hle,hv'⟩:=Good.app G hv hnv (λe he=>by rcases AL.1 he with h|h;exact hwl e h;exact hws e h) hbs hown' hg hat
 have hex:(execOp a.eval ⟨dst,.call ⟨.builtin .append,#[x,y],#[t,t]⟩,ty,pos,after,g⟩).run P m.w= .ok (.value v') w':=by
  rw[C1];simp only[builtin,Ea,Aa,CO,e1,AG,hrun,AA,AF]
 unfold Oper.wp;rw[hex];refine⟨m',N,_,hw',?_,G'.perm (hp2 _ _).symm,(h4.mono hle).put hd hv'⟩;rw[BK,BK,h2'];rfl
end
end
end Go.Proofs.YtmkahplhnbbgmaaGreat
